/- What the functions that the law reaches compute, each by its code, against pure functions. Conditions: those that each theorem states. -/
import Derived.Test.YtlnjmnmkafblkaaGreatAH3
import Derived.ChangeArms
import Derived.DataReads
import Derived.Test.YtlnjmnmkafblkaaGreatProg
import Derived.KernelRfl
section
set_option linter.unusedSimpArgs false
set_option linter.unusedVariables false
namespace Go.H
open Go
theorem add_add0 {a : Addr} (hs : a.spot = none) (i j : Nat) : (a.add i).add j = ⟨a.block, a.off + (i + j), none⟩ := by
  obtain ⟨ab, ao, as1⟩ := a
  simp only at hs
  subst hs
  simp only [Addr.add]
  by_cases h1 : i = 0
  · subst h1
    by_cases h2 : j = 0 <;> simp [h2]
  · by_cases h2 : j = 0 <;> simp [h1, h2, Nat.add_assoc]
def okW (w : World) (b : Nat) : Prop := b < w.heap.size
theorem RoL_app {w : World} {ok : Nat → Prop} : ∀ {ts us : List T} {a b : List Value}, RoL w ok ts a → RoL w ok us b → RoL w ok (ts ++ us) (a ++ b)
  | [], us, a, b, h1, h2 => by simp only [RoL] at h1; subst h1; exact h2
  | t :: ts, us, a, b, h1, h2 => by
    simp only [RoL, List.cons_append] at h1 ⊢
    obtain ⟨u, vs, rfl, h3, h4⟩ := h1
    exact ⟨u, vs ++ b, rfl, h3, RoL_app h4 h2⟩
theorem RoL_cat {w : World} {ok : Nat → Prop} {ts us : List T} {cs : List Value} {o n : Nat} (h1 : RoL w ok ts ((cs.drop o).take n)) (h2 : RoL w ok us (cs.drop (o + n))) : RoL w ok (ts ++ us) (cs.drop o) := by
  have := RoL_app h1 h2
  rwa [← List.drop_drop, List.take_append_drop] at this
theorem RoL_end {w : World} {ok : Nat → Prop} {ts : List T} {cs : List Value} {o n : Nat} (h1 : RoL w ok ts ((cs.drop o).take n)) (hl : cs.length = o + n) : RoL w ok ts (cs.drop o) := by
  rwa [List.take_of_length_le (by simp; omega)] at h1
theorem RoRows_snoc {w : World} {ok : Nat → Prop} {sz : Nat} : ∀ {rs : List (List T)} {vs : List Value} {r : List T} {cs : List Value}, RoRows w ok sz rs vs → r.length = sz → RoL w ok r cs → RoRows w ok sz (rs ++ [r]) (vs ++ cs)
  | [], vs, r, cs, h, hl, hr => by
    simp only [RoRows] at h
    subst h
    simp only [List.nil_append, RoRows]
    exact ⟨cs, [], by simp, hl, hr, rfl⟩
  | x :: rs, vs, r, cs, h, hl, hr => by
    simp only [RoRows, List.cons_append] at h ⊢
    obtain ⟨a, b, rfl, h1, h2, h3⟩ := h
    exact ⟨a, b ++ cs, by simp, h1, h2, RoRows_snoc h3 hl hr⟩
section
variable {H : Type} {enc : TypeId × Value → H} {P : Program} {w : World} {base : Nat} {spare : Nat → Bool} {held : Bool}
theorem sl_of {α : Type} (f : α → List T) (q : α → Prop) (sz : Nat) {t e : TypeId} (ht : P.underlying t = some (.slice e)) (hsz : P.cellsOf e = sz) (hf : ∀ x, (f x).length = sz) (hpos : sz ≠ 0)
    (hel : ∀ n cs d, DataW.trod enc P w base spare held n e cs = some d → ∃ x, RoL w (okW w) (f x) cs ∧ q x) {fuel : Nat} {cs : List Value} {x : DataW H × List MemPlace} (h : DataW.trod enc P w base spare held fuel t cs = some x) :
    ∃ xs : List α, RoL w (okW w) [.sl false sz (xs.map f)] cs ∧ xs.length ≤ 9223372036854775807 ∧ ∀ y ∈ xs, q y := by
  rcases DataW.trod_slice ht h with ⟨rfl, _⟩ | ⟨a, len, cap, elems, rest, n, _, rfl, _, hb, hl, hm, hlen, he, _, _⟩
  · refine ⟨[], ?_, by simp, by simp⟩
    simp only [RoL, RoT, List.map_nil, List.length_nil]
    exact ⟨_, [], rfl, ⟨none, 0, [], rfl, Nat.le_refl _, Nat.zero_le _, by simp only [RoRows], fun h => absurd rfl h⟩, rfl⟩
  · rw [hsz] at he
    have one : ∀ i, i < len → ∃ csi x, w.cells? base (a.add (i * sz)) sz = some csi ∧ RoL w (okW w) (f x) csi ∧ q x := by
      intro i hi
      have h1 := he i hi
      rw [List.getElem?_eq_getElem (by omega)] at h1
      obtain ⟨csi, h2, h3⟩ := Option.bind_eq_some_iff.1 h1
      obtain ⟨x, h4, h5⟩ := hel n csi _ h3
      exact ⟨csi, x, h2, h4, h5⟩
    have spot : 0 < len → a.spot = none ∧ a.block < w.heap.size := by
      intro h0
      obtain ⟨csi, x, h1, h2, _⟩ := one 0 h0
      obtain ⟨_, h3, h4⟩ := World.cells?_some h1
      have h5 := h4 0 (by omega)
      rw [List.getElem?_eq_getElem (by omega)] at h5
      simp only [Nat.zero_mul, Addr.add, if_true] at h5
      unfold World.cell? at h5
      split at h5
      · rename_i hh
        split at h5
        · cases h5
        · rename_i hs
          refine ⟨by simpa using hs, ?_⟩
          exact (Array.getElem?_eq_some_iff.1 hh).1
      · cases h5
    have all : ∀ k, k ≤ len → ∃ xs : List α, xs.length = k ∧ (∀ y ∈ xs, q y) ∧ ∃ vs : List Value, RoRows w (okW w) sz (xs.map f) vs ∧ ∀ j u, vs[j]? = some u → w.cell? ⟨a.block, a.off + j, none⟩ = some u := by
      intro k
      induction k with
      | zero => exact fun _ => ⟨[], rfl, by simp, [], by simp only [List.map_nil, RoRows], by simp⟩
      | succ k ih =>
        intro hk
        obtain ⟨xs, h1, h2, vs, h3, h4⟩ := ih (by omega)
        obtain ⟨csi, x, h5, h6, h7⟩ := one k (by omega)
        obtain ⟨_, h8, h9⟩ := World.cells?_some h5
        have hvl := h3.length
        rw [List.length_map, h1] at hvl
        refine ⟨xs ++ [x], by simp [h1], fun y hy => ?_, vs ++ csi, by rw [List.map_append]; exact RoRows_snoc h3 (hf x) h6, fun j u hj => ?_⟩
        · rcases List.mem_append.1 hy with hy | hy
          · exact h2 y hy
          · simp only [List.mem_singleton] at hy
            subst hy
            exact h7
        · by_cases hjv : j < vs.length
          · rw [List.getElem?_append_left hjv] at hj
            exact h4 j u hj
          · rw [List.getElem?_append_right (by omega)] at hj
            obtain ⟨hj2, _⟩ := List.getElem?_eq_some_iff.1 hj
            have h10 := h9 (j - vs.length) (by omega)
            rw [hj] at h10
            have hsp := (spot (by omega)).1
            have hjj : k * sz + (j - vs.length) = j := by rw [← hvl]; exact Nat.add_sub_cancel' (Nat.le_of_not_lt hjv)
            have e : (a.add (k * sz)).add (j - vs.length) = ⟨a.block, a.off + j, none⟩ := by rw [add_add0 hsp, hjj]
            rw [e] at h10
            exact h10
    obtain ⟨xs, h1, h2, vs, h3, h4⟩ := all len (Nat.le_refl _)
    refine ⟨xs, ?_, by rw [h1]; have : cap ≤ 9223372036854775807 := hm; omega, h2⟩
    simp only [RoL]
    refine ⟨_, [], rfl, ?_, rfl⟩
    simp only [RoT, List.length_map]
    refine ⟨some a, cap, vs, by rw [h1], by omega, hm, h3, fun hne => ?_⟩
    have h0 : 0 < len := by
      rcases Nat.eq_zero_or_pos len with e | e
      · rw [e] at h1
        have : xs = [] := List.length_eq_zero_iff.1 h1
        subst this
        exact absurd rfl hne
      · exact e
    obtain ⟨s1, s2⟩ := spot h0
    refine ⟨a.block, a.off, ?_, s2, s2, h4⟩
    obtain ⟨ab, ao, as1⟩ := a
    simp only at s1
    subst s1
    rfl
theorem int_of {t : TypeId} (ht : P.underlying t = some (.int .i64)) {fuel : Nat} {cs : List Value} {x : DataW H × List MemPlace} (h : DataW.trod enc P w base spare held fuel t cs = some x) : ∃ n : Int, RoL w (okW w) [.int .i64 n] cs := by
  obtain ⟨n, rfl, _⟩ := DataW.trod_int ht h
  exact ⟨n, by simp only [RoL, RoT]; exact ⟨_, [], rfl, rfl, rfl⟩⟩
theorem bool_of {t : TypeId} (ht : P.underlying t = some .bool) {fuel : Nat} {cs : List Value} {x : DataW H × List MemPlace} (h : DataW.trod enc P w base spare held fuel t cs = some x) : ∃ n : Bool, RoL w (okW w) [.bool n] cs := by
  obtain ⟨n, rfl, _⟩ := DataW.trod_bool ht h
  exact ⟨n, by simp only [RoL, RoT]; exact ⟨_, [], rfl, rfl, rfl⟩⟩
theorem fld_of {fs : Array Field} {n : Nat} {cs : List Value} {xs : List (DataW H × List MemPlace)} (hf : ∀ (i : Nat) (f : Field), fs[i]? = some f → DataW.trod enc P w base spare held n f.type ((cs.drop f.offset).take (P.cellsOf f.type)) = xs[i]?) (hl : xs.length = fs.size) (i : Nat) {f : Field} (hi : fs[i]? = some f) :
    ∃ d, DataW.trod enc P w base spare held n f.type ((cs.drop f.offset).take (P.cellsOf f.type)) = some d := by
  have h1 := hf i f hi
  obtain ⟨h2, _⟩ := Array.getElem?_eq_some_iff.1 hi
  rw [List.getElem?_eq_getElem (by omega)] at h1
  exact ⟨_, h1⟩
end
def allRo : List T → Bool
  | [] => true
  | t :: ts => !t.isOwn && allRo ts
theorem CRepL_ro {w : World} {fz : Nat → Prop} {hs : List Value} : ∀ {ts : List T} {vs : List Value}, RoL w fz ts vs → allRo ts = true → CRepL w fz hs (ts.map C.t) (fun _ => False) vs
  | [], vs, h, _ => by simpa only [RoL, List.map_nil, CRepL] using h
  | t :: ts, vs, h, hr => by
    simp only [RoL] at h
    obtain ⟨u, us, rfl, h1, h2⟩ := h
    simp only [allRo, Bool.and_eq_true, Bool.not_eq_true'] at hr
    simp only [List.map_cons, CRepL, CRep]
    exact ⟨u, us, fun _ => False, fun _ => False, rfl, fun _ h => h.elim, fun _ h => h, roOwn (fun sz rows e => by rw [e] at hr; simp [T.isOwn] at hr) h1, CRepL_ro h2 hr.2⟩
end Go.H
end
section
set_option linter.unusedSimpArgs false
namespace Go.H
open Go
def cpT : Dep → T → Prop
  | none, t => t.solid = true
  | some _, t => t.flat = true
def cpL (d : Dep) : List T → Prop
  | [] => True
  | t :: ts => cpT d t ∧ cpL d ts
theorem cpL_iff {d : Dep} : ∀ {r : List T}, cpL d r ↔ ∀ t ∈ r, cpT d t
  | [] => by simp [cpL]
  | t :: ts => by simp [cpL, cpL_iff (r := ts)]
theorem cpRows_cons (d : Dep) (r : List T) (rs : List (List T)) : cpRows d (r :: rs) = (cpL d r ∧ cpRows d rs) := by
  rw [eq_iff_iff, cpL_iff]
  cases d <;> simp [cpRows, cpT]
theorem cpRows_nil (d : Dep) : cpRows d [] = True := by
  cases d <;> simp [cpRows]
attribute [go_sem] cpRows_cons cpRows_nil cpL cpT T.solid T.flat
theorem cpRowsN_map {α : Type} (f : α → List T) (h : ∀ x, ∀ t ∈ f x, t.solid = true) (xs : List α) : cpRows none (xs.map f) = True := by
  rw [eq_iff_iff]
  unfold cpRows
  simp only [List.mem_map, iff_true]
  rintro r ⟨x, _, rfl⟩ t ht
  exact h x t ht
theorem getD_map_ {α : Type} (f : α → List T) (xs : List α) (i : Nat) (d : α) : (xs.map f).getD i (f d) = f (xs.getD i d) := by
  simp only [List.getD_eq_getElem?_getD, List.getElem?_map]
  cases xs[i]? <;> rfl
theorem noShR_map {α : Type} (f : α → List T) (h : ∀ x, T.noShL (f x)) (xs : List α) : T.noShR (xs.map f) = True := by
  rw [eq_iff_iff, T.noShR_iff]
  simp only [List.mem_map, forall_exists_index, and_imp, forall_apply_eq_imp_iff₂, h, implies_true]
theorem roRows_map {α : Type} (f g : α → List T) (h : ∀ x, (f x).map T.ro = g x) (xs : List α) : roRows (xs.map f) = xs.map g := by
  simp only [roRows, List.map_map]
  exact List.map_congr_left fun x _ => h x
theorem cpRows_map {α : Type} (f : α → List T) (h : ∀ x, ∀ t ∈ f x, t.flat = true) (d : Dep) (xs : List α) : cpRows d (xs.map f) = True := by
  rw [eq_iff_iff]
  unfold cpRows
  cases d
  · simp only [List.mem_map, iff_true]
    rintro r ⟨x, _, rfl⟩ t ht
    exact T.flat_solid (h x t ht)
  · simp only [List.mem_map, iff_true]
    rintro r ⟨x, _, rfl⟩ t ht
    exact h x t ht
def eI_i64 (n : Int) : List T := [.int .i64 n]
def zI_i64 : Int := 0
def dI_i64 : List T := eI_i64 zI_i64
theorem getD_I_i64 (xs : List Int) (i : Nat) : (xs.map eI_i64).getD i dI_i64 = eI_i64 (xs.getD i zI_i64) := getD_map_ ..
theorem shrR_I_i64 (xs : List Int) : T.shrR (xs.map eI_i64) = xs.map eI_i64 := T.shrR_map _ _ (fun _ => rfl) xs
theorem noShR_I_i64 (xs : List Int) : T.noShR (xs.map eI_i64) = True := noShR_map _ (fun _ => by simp [eI_i64, T.noShL, T.noSh]) xs
theorem roRows_I_i64 (xs : List Int) : roRows (xs.map eI_i64) = xs.map eI_i64 := roRows_map _ _ (fun _ => rfl) xs
theorem cpRows_I_i64 (d : Dep) (xs : List Int) : cpRows d (xs.map eI_i64) = True := cpRows_map _ (fun _ => by simp [eI_i64, T.flat]) d xs
attribute [go_sem] getD_I_i64 shrR_I_i64 noShR_I_i64 roRows_I_i64 cpRows_I_i64
theorem dropd_I_i64 : List.drop 1 dI_i64 = [] := rfl
theorem tm_I_i64 : tm dI_i64 = [.int .i64 0] := rfl
attribute [go_sem] dropd_I_i64 tm_I_i64
structure Cmd where
  kind : Int
  expect : Int
  name : Int
  addr : Int
  number : Int
  proto : Int
def eCmd (x : Cmd) : List T := [.int .i64 x.kind, .int .i64 x.expect, .int .i64 x.name, .int .i64 x.addr, .int .i64 x.number, .int .i64 x.proto]
def zCmd : Cmd := ⟨0, 0, 0, 0, 0, 0⟩
def dCmd : List T := eCmd zCmd
theorem getD_Cmd (xs : List Cmd) (i : Nat) : (xs.map eCmd).getD i dCmd = eCmd (xs.getD i zCmd) := getD_map_ ..
theorem shrR_Cmd (xs : List Cmd) : T.shrR (xs.map eCmd) = xs.map eCmd := T.shrR_map _ _ (fun _ => rfl) xs
theorem noShR_Cmd (xs : List Cmd) : T.noShR (xs.map eCmd) = True := noShR_map _ (fun _ => by simp [eCmd, T.noShL, T.noSh]) xs
theorem roRows_Cmd (xs : List Cmd) : roRows (xs.map eCmd) = xs.map eCmd := roRows_map _ _ (fun _ => rfl) xs
theorem cpRows_Cmd (d : Dep) (xs : List Cmd) : cpRows d (xs.map eCmd) = True := cpRows_map _ (fun _ => by simp [eCmd, T.flat]) d xs
attribute [go_sem] getD_Cmd shrR_Cmd noShR_Cmd roRows_Cmd cpRows_Cmd
theorem dropd_Cmd : List.drop 6 dCmd = [] := rfl
theorem tm_Cmd : tm dCmd = [.int .i64 0, .int .i64 0, .int .i64 0, .int .i64 0, .int .i64 0, .int .i64 0] := rfl
attribute [go_sem] dropd_Cmd tm_Cmd
structure Entry where
  term : Int
  client : Int
  seq : Int
  cmd : Cmd
def eEntry (x : Entry) : List T := [.int .i64 x.term, .int .i64 x.client, .int .i64 x.seq, .int .i64 x.cmd.kind, .int .i64 x.cmd.expect, .int .i64 x.cmd.name, .int .i64 x.cmd.addr, .int .i64 x.cmd.number, .int .i64 x.cmd.proto]
def zEntry : Entry := ⟨0, 0, 0, zCmd⟩
def dEntry : List T := eEntry zEntry
theorem getD_Entry (xs : List Entry) (i : Nat) : (xs.map eEntry).getD i dEntry = eEntry (xs.getD i zEntry) := getD_map_ ..
theorem shrR_Entry (xs : List Entry) : T.shrR (xs.map eEntry) = xs.map eEntry := T.shrR_map _ _ (fun _ => rfl) xs
theorem noShR_Entry (xs : List Entry) : T.noShR (xs.map eEntry) = True := noShR_map _ (fun _ => by simp [eEntry, T.noShL, T.noSh]) xs
theorem roRows_Entry (xs : List Entry) : roRows (xs.map eEntry) = xs.map eEntry := roRows_map _ _ (fun _ => rfl) xs
theorem cpRows_Entry (d : Dep) (xs : List Entry) : cpRows d (xs.map eEntry) = True := cpRows_map _ (fun _ => by simp [eEntry, T.flat]) d xs
attribute [go_sem] getD_Entry shrR_Entry noShR_Entry roRows_Entry cpRows_Entry
theorem dropd_Entry : List.drop 9 dEntry = [] := rfl
theorem tm_Entry : tm dEntry = [.int .i64 0, .int .i64 0, .int .i64 0, .int .i64 0, .int .i64 0, .int .i64 0, .int .i64 0, .int .i64 0, .int .i64 0] := rfl
attribute [go_sem] dropd_Entry tm_Entry
structure Mail where
  kind : Int
  from_ : Int
  to_ : Int
  term : Int
  index : Int
  last : Int
  commit : Int
  ok : Bool
  entries : List Entry
def eMail (o : Bool) (x : Mail) : List T := [.int .i64 x.kind, .int .i64 x.from_, .int .i64 x.to_, .int .i64 x.term, .int .i64 x.index, .int .i64 x.last, .int .i64 x.commit, .bool x.ok, .sl o 9 (x.entries.map eEntry)]
def zMail : Mail := ⟨0, 0, 0, 0, 0, 0, 0, false, []⟩
def dMail (o : Bool) : List T := eMail o zMail
theorem getD_Mail (o : Bool) (xs : List Mail) (i : Nat) : (xs.map (eMail o)).getD i (dMail o) = eMail o (xs.getD i zMail) := getD_map_ ..
theorem shrR_Mail (o : Bool) (xs : List Mail) : T.shrR (xs.map (eMail o)) = xs.map (eMail false) := T.shrR_map _ _ (fun x => by simp only [eMail, T.shrL, T.shr, shrR_Entry]) xs
theorem noShR_Mail (xs : List Mail) : T.noShR (xs.map (eMail true)) = True := noShR_map _ (fun _ => by simp [eMail, T.noShL, T.noSh, noShR_Entry]) xs
theorem cpRows_Mail (o : Bool) (xs : List Mail) : cpRows none (xs.map (eMail o)) = True := cpRowsN_map _ (fun _ => by simp [eMail, T.solid]) xs
attribute [go_sem] getD_Mail shrR_Mail noShR_Mail cpRows_Mail
theorem dropd_Mail (o : Bool) : List.drop 9 (dMail o) = [] := rfl
theorem tm_Mail : tm (dMail true) = [.int .i64 0, .int .i64 0, .int .i64 0, .int .i64 0, .int .i64 0, .int .i64 0, .int .i64 0, .bool false, .sl true 9 []] := rfl
attribute [go_sem] dropd_Mail tm_Mail
structure Node where
  id : Int
  peers : Int
  term : Int
  voted : Int
  log : List Entry
  role : Int
  commit : Int
  votes : List Int
  next : List Int
  match_ : List Int
def eNode (o : Bool) (x : Node) : List T := [.int .i64 x.id, .int .i64 x.peers, .int .i64 x.term, .int .i64 x.voted, .sl o 9 (x.log.map eEntry), .int .i64 x.role, .int .i64 x.commit, .sl o 1 (x.votes.map eI_i64), .sl o 1 (x.next.map eI_i64), .sl o 1 (x.match_.map eI_i64)]
def zNode : Node := ⟨0, 0, 0, 0, [], 0, 0, [], [], []⟩
def dNode (o : Bool) : List T := eNode o zNode
theorem getD_Node (o : Bool) (xs : List Node) (i : Nat) : (xs.map (eNode o)).getD i (dNode o) = eNode o (xs.getD i zNode) := getD_map_ ..
theorem shrR_Node (o : Bool) (xs : List Node) : T.shrR (xs.map (eNode o)) = xs.map (eNode false) := T.shrR_map _ _ (fun x => by simp only [eNode, T.shrL, T.shr, shrR_Entry, shrR_I_i64]) xs
theorem noShR_Node (xs : List Node) : T.noShR (xs.map (eNode true)) = True := noShR_map _ (fun _ => by simp [eNode, T.noShL, T.noSh, noShR_Entry, noShR_I_i64]) xs
theorem cpRows_Node (o : Bool) (xs : List Node) : cpRows none (xs.map (eNode o)) = True := cpRowsN_map _ (fun _ => by simp [eNode, T.solid]) xs
attribute [go_sem] getD_Node shrR_Node noShR_Node cpRows_Node
theorem dropd_Node (o : Bool) : List.drop 10 (dNode o) = [] := rfl
theorem tm_Node : tm (dNode true) = [.int .i64 0, .int .i64 0, .int .i64 0, .int .i64 0, .sl true 9 [], .int .i64 0, .int .i64 0, .sl true 1 [], .sl true 1 [], .sl true 1 []] := rfl
attribute [go_sem] dropd_Node tm_Node
structure Won where
  term : Int
  node : Int
def eWon (x : Won) : List T := [.int .i64 x.term, .int .i64 x.node]
def zWon : Won := ⟨0, 0⟩
def dWon : List T := eWon zWon
theorem getD_Won (xs : List Won) (i : Nat) : (xs.map eWon).getD i dWon = eWon (xs.getD i zWon) := getD_map_ ..
theorem shrR_Won (xs : List Won) : T.shrR (xs.map eWon) = xs.map eWon := T.shrR_map _ _ (fun _ => rfl) xs
theorem noShR_Won (xs : List Won) : T.noShR (xs.map eWon) = True := noShR_map _ (fun _ => by simp [eWon, T.noShL, T.noSh]) xs
theorem roRows_Won (xs : List Won) : roRows (xs.map eWon) = xs.map eWon := roRows_map _ _ (fun _ => rfl) xs
theorem cpRows_Won (d : Dep) (xs : List Won) : cpRows d (xs.map eWon) = True := cpRows_map _ (fun _ => by simp [eWon, T.flat]) d xs
attribute [go_sem] getD_Won shrR_Won noShR_Won roRows_Won cpRows_Won
theorem dropd_Won : List.drop 2 dWon = [] := rfl
theorem tm_Won : tm dWon = [.int .i64 0, .int .i64 0] := rfl
attribute [go_sem] dropd_Won tm_Won
structure Seal where
  term : Int
  entry : Entry
def eSeal (x : Seal) : List T := [.int .i64 x.term, .int .i64 x.entry.term, .int .i64 x.entry.client, .int .i64 x.entry.seq, .int .i64 x.entry.cmd.kind, .int .i64 x.entry.cmd.expect, .int .i64 x.entry.cmd.name, .int .i64 x.entry.cmd.addr, .int .i64 x.entry.cmd.number, .int .i64 x.entry.cmd.proto]
def zSeal : Seal := ⟨0, zEntry⟩
def dSeal : List T := eSeal zSeal
theorem getD_Seal (xs : List Seal) (i : Nat) : (xs.map eSeal).getD i dSeal = eSeal (xs.getD i zSeal) := getD_map_ ..
theorem shrR_Seal (xs : List Seal) : T.shrR (xs.map eSeal) = xs.map eSeal := T.shrR_map _ _ (fun _ => rfl) xs
theorem noShR_Seal (xs : List Seal) : T.noShR (xs.map eSeal) = True := noShR_map _ (fun _ => by simp [eSeal, T.noShL, T.noSh]) xs
theorem roRows_Seal (xs : List Seal) : roRows (xs.map eSeal) = xs.map eSeal := roRows_map _ _ (fun _ => rfl) xs
theorem cpRows_Seal (d : Dep) (xs : List Seal) : cpRows d (xs.map eSeal) = True := cpRows_map _ (fun _ => by simp [eSeal, T.flat]) d xs
attribute [go_sem] getD_Seal shrR_Seal noShR_Seal roRows_Seal cpRows_Seal
theorem dropd_Seal : List.drop 10 dSeal = [] := rfl
theorem tm_Seal : tm dSeal = [.int .i64 0, .int .i64 0, .int .i64 0, .int .i64 0, .int .i64 0, .int .i64 0, .int .i64 0, .int .i64 0, .int .i64 0, .int .i64 0] := rfl
attribute [go_sem] dropd_Seal tm_Seal
structure Cluster where
  nodes : List Node
  mails : List Mail
  wins : List Won
  seals : List Seal
def eCluster (o : Bool) (x : Cluster) : List T := [.sl o 10 (x.nodes.map (eNode o)), .sl o 9 (x.mails.map (eMail o)), .sl o 2 (x.wins.map eWon), .sl o 10 (x.seals.map eSeal)]
def zCluster : Cluster := ⟨[], [], [], []⟩
def dCluster (o : Bool) : List T := eCluster o zCluster
theorem getD_Cluster (o : Bool) (xs : List Cluster) (i : Nat) : (xs.map (eCluster o)).getD i (dCluster o) = eCluster o (xs.getD i zCluster) := getD_map_ ..
theorem shrR_Cluster (o : Bool) (xs : List Cluster) : T.shrR (xs.map (eCluster o)) = xs.map (eCluster false) := T.shrR_map _ _ (fun x => by simp only [eCluster, T.shrL, T.shr, shrR_Mail, shrR_Node, shrR_Seal, shrR_Won]) xs
theorem noShR_Cluster (xs : List Cluster) : T.noShR (xs.map (eCluster true)) = True := noShR_map _ (fun _ => by simp [eCluster, T.noShL, T.noSh, noShR_Mail, noShR_Node, noShR_Seal, noShR_Won]) xs
theorem cpRows_Cluster (o : Bool) (xs : List Cluster) : cpRows none (xs.map (eCluster o)) = True := cpRowsN_map _ (fun _ => by simp [eCluster, T.solid]) xs
attribute [go_sem] getD_Cluster shrR_Cluster noShR_Cluster cpRows_Cluster
theorem dropd_Cluster (o : Bool) : List.drop 4 (dCluster o) = [] := rfl
theorem tm_Cluster : tm (dCluster true) = [.sl true 10 [], .sl true 9 [], .sl true 2 [], .sl true 10 []] := rfl
attribute [go_sem] dropd_Cluster tm_Cluster
structure ClusterResult where
  code : Int
  cluster : Cluster
def eClusterResult (o : Bool) (x : ClusterResult) : List T := [.int .i64 x.code, .sl o 10 (x.cluster.nodes.map (eNode o)), .sl o 9 (x.cluster.mails.map (eMail o)), .sl o 2 (x.cluster.wins.map eWon), .sl o 10 (x.cluster.seals.map eSeal)]
def zClusterResult : ClusterResult := ⟨0, zCluster⟩
def dClusterResult (o : Bool) : List T := eClusterResult o zClusterResult
theorem getD_ClusterResult (o : Bool) (xs : List ClusterResult) (i : Nat) : (xs.map (eClusterResult o)).getD i (dClusterResult o) = eClusterResult o (xs.getD i zClusterResult) := getD_map_ ..
theorem shrR_ClusterResult (o : Bool) (xs : List ClusterResult) : T.shrR (xs.map (eClusterResult o)) = xs.map (eClusterResult false) := T.shrR_map _ _ (fun x => by simp only [eClusterResult, T.shrL, T.shr, shrR_Mail, shrR_Node, shrR_Seal, shrR_Won]) xs
theorem noShR_ClusterResult (xs : List ClusterResult) : T.noShR (xs.map (eClusterResult true)) = True := noShR_map _ (fun _ => by simp [eClusterResult, T.noShL, T.noSh, noShR_Mail, noShR_Node, noShR_Seal, noShR_Won]) xs
theorem cpRows_ClusterResult (o : Bool) (xs : List ClusterResult) : cpRows none (xs.map (eClusterResult o)) = True := cpRowsN_map _ (fun _ => by simp [eClusterResult, T.solid]) xs
attribute [go_sem] getD_ClusterResult shrR_ClusterResult noShR_ClusterResult cpRows_ClusterResult
theorem dropd_ClusterResult (o : Bool) : List.drop 5 (dClusterResult o) = [] := rfl
theorem tm_ClusterResult : tm (dClusterResult true) = [.int .i64 0, .sl true 10 [], .sl true 9 [], .sl true 2 [], .sl true 10 []] := rfl
attribute [go_sem] dropd_ClusterResult tm_ClusterResult
structure NodeResult where
  code : Int
  node : Node
  send : List Mail
def eNodeResult (o : Bool) (x : NodeResult) : List T := [.int .i64 x.code, .int .i64 x.node.id, .int .i64 x.node.peers, .int .i64 x.node.term, .int .i64 x.node.voted, .sl o 9 (x.node.log.map eEntry), .int .i64 x.node.role, .int .i64 x.node.commit, .sl o 1 (x.node.votes.map eI_i64), .sl o 1 (x.node.next.map eI_i64), .sl o 1 (x.node.match_.map eI_i64), .sl o 9 (x.send.map (eMail o))]
def zNodeResult : NodeResult := ⟨0, zNode, []⟩
def dNodeResult (o : Bool) : List T := eNodeResult o zNodeResult
theorem getD_NodeResult (o : Bool) (xs : List NodeResult) (i : Nat) : (xs.map (eNodeResult o)).getD i (dNodeResult o) = eNodeResult o (xs.getD i zNodeResult) := getD_map_ ..
theorem shrR_NodeResult (o : Bool) (xs : List NodeResult) : T.shrR (xs.map (eNodeResult o)) = xs.map (eNodeResult false) := T.shrR_map _ _ (fun x => by simp only [eNodeResult, T.shrL, T.shr, shrR_Entry, shrR_I_i64, shrR_Mail]) xs
theorem noShR_NodeResult (xs : List NodeResult) : T.noShR (xs.map (eNodeResult true)) = True := noShR_map _ (fun _ => by simp [eNodeResult, T.noShL, T.noSh, noShR_Entry, noShR_I_i64, noShR_Mail]) xs
theorem cpRows_NodeResult (o : Bool) (xs : List NodeResult) : cpRows none (xs.map (eNodeResult o)) = True := cpRowsN_map _ (fun _ => by simp [eNodeResult, T.solid]) xs
attribute [go_sem] getD_NodeResult shrR_NodeResult noShR_NodeResult cpRows_NodeResult
theorem dropd_NodeResult (o : Bool) : List.drop 12 (dNodeResult o) = [] := rfl
theorem tm_NodeResult : tm (dNodeResult true) = [.int .i64 0, .int .i64 0, .int .i64 0, .int .i64 0, .int .i64 0, .sl true 9 [], .int .i64 0, .int .i64 0, .sl true 1 [], .sl true 1 [], .sl true 1 [], .sl true 9 []] := rfl
attribute [go_sem] dropd_NodeResult tm_NodeResult
structure EntriesResult where
  code : Int
  entries : List Entry
def eEntriesResult (o : Bool) (x : EntriesResult) : List T := [.int .i64 x.code, .sl o 9 (x.entries.map eEntry)]
def zEntriesResult : EntriesResult := ⟨0, []⟩
def dEntriesResult (o : Bool) : List T := eEntriesResult o zEntriesResult
theorem getD_EntriesResult (o : Bool) (xs : List EntriesResult) (i : Nat) : (xs.map (eEntriesResult o)).getD i (dEntriesResult o) = eEntriesResult o (xs.getD i zEntriesResult) := getD_map_ ..
theorem shrR_EntriesResult (o : Bool) (xs : List EntriesResult) : T.shrR (xs.map (eEntriesResult o)) = xs.map (eEntriesResult false) := T.shrR_map _ _ (fun x => by simp only [eEntriesResult, T.shrL, T.shr, shrR_Entry]) xs
theorem noShR_EntriesResult (xs : List EntriesResult) : T.noShR (xs.map (eEntriesResult true)) = True := noShR_map _ (fun _ => by simp [eEntriesResult, T.noShL, T.noSh, noShR_Entry]) xs
theorem cpRows_EntriesResult (o : Bool) (xs : List EntriesResult) : cpRows none (xs.map (eEntriesResult o)) = True := cpRowsN_map _ (fun _ => by simp [eEntriesResult, T.solid]) xs
attribute [go_sem] getD_EntriesResult shrR_EntriesResult noShR_EntriesResult cpRows_EntriesResult
theorem dropd_EntriesResult (o : Bool) : List.drop 2 (dEntriesResult o) = [] := rfl
theorem tm_EntriesResult : tm (dEntriesResult true) = [.int .i64 0, .sl true 9 []] := rfl
attribute [go_sem] dropd_EntriesResult tm_EntriesResult
end Go.H
end
section
namespace Go.H
namespace F
def main_main : Nat := 0
def gosem_cut : Nat := 1
def gosem_cut_init : Nat := 2
def laws_FnExactCopyMail : Nat := 3
def laws_FnExactDropMail : Nat := 4
def laws_FnExactHearMail : Nat := 5
def laws_FnExactCrashAt : Nat := 6
def laws_FnExactSpreadAt : Nat := 7
def laws_FnExactAskAt : Nat := 8
def laws_FnExactTimeoutAt : Nat := 9
def laws_FnExactDeliverMail : Nat := 10
def laws_szCluster : Nat := 11
def spec_CopyMail : Nat := 12
def laws_toCluster : Nat := 13
def impl_CopyMail : Nat := 14
def laws_eqClusterResult : Nat := 15
def laws_eqCluster : Nat := 16
def laws_markCluster : Nat := 17
def laws_markClusterResult : Nat := 18
def laws_heldClusterResult : Nat := 19
def spec_DropMail : Nat := 20
def impl_DropMail : Nat := 21
def laws_szNode : Nat := 22
def laws_szMail : Nat := 23
def spec_HearMail : Nat := 24
def laws_toNode : Nat := 25
def laws_toMail : Nat := 26
def impl_HearMail : Nat := 27
def laws_eqNodeResult : Nat := 28
def laws_eqNode : Nat := 29
def laws_eqMail : Nat := 30
def laws_markNode : Nat := 31
def laws_markMail : Nat := 32
def laws_markNodeResult : Nat := 33
def laws_heldNodeResult : Nat := 34
def spec_CrashAt : Nat := 35
def impl_CrashAt : Nat := 36
def spec_SpreadAt : Nat := 37
def impl_SpreadAt : Nat := 38
def spec_AskAt : Nat := 39
def laws_toCmd : Nat := 40
def impl_AskAt : Nat := 41
def spec_TimeoutAt : Nat := 42
def impl_TimeoutAt : Nat := 43
def spec_DeliverMail : Nat := 44
def impl_DeliverMail : Nat := 45
def laws_szNodeS : Nat := 46
def laws_szMailS : Nat := 47
def laws_szWonS : Nat := 48
def laws_szSealS : Nat := 49
def spec_l9Mail : Nat := 50
def spec_l9Bad : Nat := 51
def spec_l9Copy : Nat := 52
def spec_l9Mails : Nat := 53
def laws_toNodeS : Nat := 54
def laws_toMailS : Nat := 55
def laws_toWonS : Nat := 56
def laws_toSealS : Nat := 57
def impl_onMail : Nat := 58
def impl_CopyMail_1 : Nat := 59
def impl_copiedMail : Nat := 60
def laws_eqNodeS : Nat := 61
def laws_eqMailS : Nat := 62
def laws_eqWonS : Nat := 63
def laws_eqSealS : Nat := 64
def laws_markNodeS : Nat := 65
def laws_markMailS : Nat := 66
def laws_markWonS : Nat := 67
def laws_markSealS : Nat := 68
def laws_heldCluster : Nat := 69
def spec_l9Without : Nat := 70
def impl_DropMail_1 : Nat := 71
def impl_Cluster_drop : Nat := 72
def laws_szEntryS : Nat := 73
def laws_szInt64S : Nat := 74
def spec_MailFault : Nat := 75
def spec_l8Bad : Nat := 76
def spec_l8Hear : Nat := 77
def laws_toEntryS : Nat := 78
def laws_toInt64S : Nat := 79
def impl_MailFault : Nat := 80
def impl_Node_copied : Nat := 81
def impl_Node_follow : Nat := 82
def impl_upToDate : Nat := 83
def impl_Node_granted : Nat := 84
def impl_Node_append : Nat := 85
def impl_Node_matched : Nat := 86
def laws_eqEntryS : Nat := 87
def laws_eqInt64S : Nat := 88
def laws_markEntryS : Nat := 89
def laws_markInt64S : Nat := 90
def laws_heldNode : Nat := 91
def laws_heldMailS : Nat := 92
def spec_l9Asked : Nat := 93
def spec_l9Do : Nat := 94
def spec_CrashNode : Nat := 95
def impl_onNode : Nat := 96
def impl_CrashNode : Nat := 97
def spec_SpreadNode : Nat := 98
def impl_SpreadNode : Nat := 99
def spec_AskNode : Nat := 100
def impl_AskAt_1 : Nat := 101
def impl_AskNode : Nat := 102
def spec_TimeoutNode : Nat := 103
def impl_TimeoutNode : Nat := 104
def spec_l9Deliver : Nat := 105
def impl_DeliverMail_1 : Nat := 106
def impl_Cluster_do : Nat := 107
def spec_l9Fault : Nat := 108
def spec_l1In : Nat := 109
def spec_l8Copy : Nat := 110
def spec_l7Copy : Nat := 111
def laws_toWon : Nat := 112
def laws_toSeal : Nat := 113
def impl_ClusterFault : Nat := 114
def impl_in : Nat := 115
def impl_size_Mail : Nat := 116
def impl_Cluster_copied : Nat := 117
def impl_Cluster_result : Nat := 118
def slices_Clone_Entry : Nat := 119
def laws_eqWon : Nat := 120
def laws_eqSeal : Nat := 121
def laws_heldNodeS : Nat := 122
def laws_heldWonS : Nat := 123
def laws_heldSealS : Nat := 124
def slices_Delete_Mail : Nat := 125
def spec_l8Fault : Nat := 126
def spec_l8Mail : Nat := 127
def spec_l8Follow : Nat := 128
def spec_l8Vote : Nat := 129
def spec_l1Rise : Nat := 130
def spec_l8Quorum : Nat := 131
def spec_l8Lead : Nat := 132
def spec_l8Taken : Nat := 133
def spec_l8Told : Nat := 134
def laws_toEntry : Nat := 135
def impl_NodeFault : Nat := 136
def impl_Node_isId : Nat := 137
def impl_LogFault : Nat := 138
def impl_last : Nat := 139
def slices_Clone_int64 : Nat := 140
def impl_size_Entry : Nat := 141
def slices_BinarySearch_int64 : Nat := 142
def slices_Insert_int64 : Nat := 143
def impl_Node_isQuorum : Nat := 144
def impl_Node_lead : Nat := 145
def impl_fits : Nat := 146
def impl_TakeEntries : Nat := 147
def impl_CommonOf : Nat := 148
def impl_Node_agree : Nat := 149
def laws_eqEntry : Nat := 150
def laws_heldEntryS : Nat := 151
def laws_heldInt64S : Nat := 152
def spec_l9Place : Nat := 153
def impl_Cluster_isPlace : Nat := 154
def spec_l8Append : Nat := 155
def impl_leadFault : Nat := 156
def impl_Node_others : Nat := 157
def impl_SpreadNode_1 : Nat := 158
def spec_EntryFault : Nat := 159
def spec_l8Agree : Nat := 160
def impl_EntryFault : Nat := 161
def spec_LastOf : Nat := 162
def impl_TimeoutNode_1 : Nat := 163
def impl_size_Seal : Nat := 164
def impl_size_Node : Nat := 165
def slices_Clone_Won : Nat := 166
def slices_Clone_Seal : Nat := 167
def spec_l8Id : Nat := 168
def spec_LogFault : Nat := 169
def spec_l8Lists : Nat := 170
def spec_l8Zeros : Nat := 171
def spec_l7UpToDate : Nat := 172
def spec_l7Fits : Nat := 173
def spec_l1Min : Nat := 174
def spec_l7Take : Nat := 175
def spec_CommonOf : Nat := 176
def spec_l1Max : Nat := 177
def impl_size_int64 : Nat := 178
def slices_ContainsFunc_int64 : Nat := 179
def impl_NodeFault_1 : Nat := 180
def impl_NodeFault_2 : Nat := 181
def cmp_Less_int64 : Nat := 182
def slices_isNaN_int64 : Nat := 183
def slices_overlaps_int64 : Nat := 184
def slices_rotateRight_int64 : Nat := 185
def slices_Repeat_int64 : Nat := 186
def impl_take : Nat := 187
def laws_eqCmd : Nat := 188
def spec_CmdFault : Nat := 189
def impl_CmdFault : Nat := 190
def spec_l8Rises : Nat := 191
def slices_IndexFunc_int64 : Nat := 192
def cmp_isNaN_int64 : Nat := 193
def slices_rotateLeft_int64 : Nat := 194
def math_bits_Mul : Nat := 195
def spec_l5Needs : Nat := 196
def spec_l5Version : Nat := 197
def spec_l3Name : Nat := 198
def spec_l2Address : Nat := 199
def spec_l5Number : Nat := 200
def spec_l5Proto : Nat := 201
def impl_needs : Nat := 202
def impl_isName : Nat := 203
def impl_isAddress : Nat := 204
def impl_isNumber : Nat := 205
def impl_isProto : Nat := 206
def slices_Reverse_int64 : Nat := 207
def math_bits_Mul32 : Nat := 208
def math_bits_Mul64 : Nat := 209
def spec_l2Port : Nat := 210
def impl_isPort : Nat := 211
def runtime_boundsError_Error : Nat := 212
def runtime_boundsError_RuntimeError : Nat := 213
def runtime_errorString_Error : Nat := 214
def runtime_errorString_RuntimeError : Nat := 215
def runtime_plainError_Error : Nat := 216
def runtime_plainError_RuntimeError : Nat := 217
def runtime_errorAddressString_Error : Nat := 218
def runtime_errorAddressString_RuntimeError : Nat := 219
def runtime_TypeAssertionError_Error : Nat := 220
def runtime_TypeAssertionError_RuntimeError : Nat := 221
def runtime_PanicNilError_Error : Nat := 222
def runtime_PanicNilError_RuntimeError : Nat := 223
def internal_abi_Type_Align : Nat := 224
def internal_runtime_maps_unhashableTypeError_Error : Nat := 225
def internal_runtime_maps_unhashableTypeError_RuntimeError : Nat := 226
def internal_abi_Kind_String : Nat := 227
end F
end Go.H
end
section
set_option linter.unusedVariables false
namespace Go.H
open Go
attribute [go_sem] V.scalar TV.noSh T.noSh T.noShL Ob.noSh V.zT liveV liveL verM capM TV.noShs Ob.noShs T.shr T.shrL roCs roC T.isOwn liveD List.take_length List.drop_zero List.take_zero List.map_nil
attribute [go_sem] decide_false Bool.or_false Bool.true_or Bool.or_true Bool.false_or Bool.and_false Int.natCast_add Int.natCast_one Int.cast_ofNat_Int Nat.add_zero
attribute [go_sem] List.length_map Int.toNat_natCast List.length_append List.length_take List.length_drop List.take_take Nat.min_self List.length_cons List.length_nil List.length_set List.length_replicate
theorem take_map' {α β : Type} (f : α → β) (l : List α) (i : Nat) : (l.map f).take i = (l.take i).map f := List.map_take.symm
theorem drop_map' {α β : Type} (f : α → β) (l : List α) (i : Nat) : (l.map f).drop i = (l.drop i).map f := List.map_drop.symm
theorem app_map' {α β : Type} (f : α → β) (l m : List α) : l.map f ++ m.map f = (l ++ m).map f := List.map_append.symm
attribute [go_sem] take_map' drop_map' app_map'
attribute [go_sem ↓] reduceIte
attribute [go_sem] reduceCtorEq Nat.reduceEqDiff Nat.reduceAdd Nat.reduceMul Nat.reduceLeDiff Nat.reduceLT
theorem b1 : ∀ {a b : Bool}, ((!a) = b ↔ a = !b) := @Bool.not_eq_eq_eq_not
theorem b2 : (!true) = false := Bool.not_true
theorem b3 : (!false) = true := Bool.not_false
theorem b4 (p : Prop) [Decidable p] : (decide p = true) = p := decide_eq_true_eq
theorem b5 (p : Prop) [Decidable p] : decide p = false ↔ ¬p := decide_eq_false_iff_not
theorem b6 (a b : Bool) : ((a && b) = true) = (a = true ∧ b = true) := Bool.and_eq_true a b
theorem b7 (a b : Bool) : ((a || b) = true) = (a = true ∨ b = true) := Bool.or_eq_true a b
theorem take_succ_map {α β : Type} (f : α → β) (d : α) {xs : List α} {i : Nat} (h : i < xs.length) : (xs.take (i + 1)).map f = (xs.take i).map f ++ [f (xs.getD i d)] := by
  rw [List.take_add_one, List.map_append, List.getD_eq_getElem?_getD, List.getElem?_eq_getElem h]
  rfl
def inR (a b c : Int) : Bool := decide (b ≤ a) && decide (a ≤ c)
attribute [go_sem] T.noShR T.shrL T.shrR roCs roC cVcL Bool.cond_true_left Bool.cond_false_left Bool.cond_true_right Bool.not_eq_true' beq_false obM lkey obOk bne_self_eq_false beq_self_eq_true Bool.not_false ne_eq not_true_eq_false not_false_eq_true eq_self decide_not Bool.not_true
def aS (l : List T) : Arg := .agg (l.map C.t)
def aT (t : T) : Arg := .one (.t t)
def aI (n : Int) : Arg := .one (.t (.int .i64 n))
def rI (n : Int) : TV := .one (.int .i64 n)
def rB (b : Bool) : TV := .one (.bool b)
attribute [go_sem] aS aT aI rI rB okI
theorem drop_getD {α : Type} (d : α) {xs : List α} {i : Nat} (h : i < xs.length) : xs.drop i = xs.getD i d :: xs.drop (i + 1) := by
  rw [List.drop_eq_getElem_cons h, List.getD_eq_getElem?_getD, List.getElem?_eq_getElem h]
  rfl
theorem getD_set_self {α : Type} {l : List α} {i : Nat} (h : i < l.length) (r d : α) : (l.set i r).getD i d = r := by
  rw [List.getD_eq_getElem?_getD, List.getElem?_set_self h]
  rfl
theorem all_getD {α : Type} (d : α) {xs : List α} {p : α → Prop} : (∀ i < xs.length, p (xs.getD i d)) ↔ ∀ x ∈ xs, p x := by
  constructor
  · intro h x hx
    obtain ⟨i, hi, rfl⟩ := List.getElem_of_mem hx
    have := h i hi
    rwa [List.getD_eq_getElem?_getD, List.getElem?_eq_getElem hi] at this
  · intro h i hi
    rw [List.getD_eq_getElem?_getD, List.getElem?_eq_getElem hi]
    exact h _ (List.getElem_mem hi)
def szL (n : Nat) (l : Int) : Int := if l - n < 0 then -1 else l - n
def szT (l : Int) (k : Int → Int) : Int := if l < 0 then -1 else k l
def szNode (x : Node) (l : Int) : Int := szT (szL x.log.length l) fun l => szT (szL x.votes.length l) fun l => szT (szL x.next.length l) fun l => szT (szL x.match_.length l) fun l => l
def szMail (x : Mail) (l : Int) : Int := szT (szL x.entries.length l) fun l => l
def szNodes : List Node → Int → Int
  | [], l => l
  | x :: xs, l => szT (szNode x l) (szNodes xs)
def szMails : List Mail → Int → Int
  | [], l => l
  | x :: xs, l => szT (szMail x l) (szMails xs)
def szNs (xs : List Node) (l : Int) : Int := szT (szL xs.length l) (szNodes xs)
def szMs (xs : List Mail) (l : Int) : Int := szT (szL xs.length l) (szMails xs)
def szCluster (x : Cluster) (l : Int) : Int := szT (szNs x.nodes l) fun l => szT (szMs x.mails l) fun l => szT (szL x.wins.length l) fun l => szT (szL x.seals.length l) fun l => l
theorem szL_lo (n : Nat) (l : Int) : -1 ≤ szL n l := by unfold szL; split <;> omega
theorem szL_hi {n : Nat} {l b : Int} (h : l ≤ b) (hb : -1 ≤ b) : szL n l ≤ b := by unfold szL; split <;> omega
theorem szL_ge {n : Nat} {l : Int} (h : 0 ≤ szL n l) : szL n l = l - n ∧ n ≤ l := by
  unfold szL at *
  split at h
  · omega
  · rename_i h2
    rw [if_neg h2]
    omega
theorem szT_lo {l : Int} {k : Int → Int} (h : 0 ≤ l → -1 ≤ k l) : -1 ≤ szT l k := by unfold szT; split <;> first | omega | exact h (by omega)
theorem szT_hi {l b : Int} {k : Int → Int} (hb : -1 ≤ b) (h : k l ≤ b) : szT l k ≤ b := by unfold szT; split <;> first | omega | exact h
theorem szT_ge {l : Int} {k : Int → Int} (h : 0 ≤ szT l k) : 0 ≤ l ∧ 0 ≤ k l ∧ szT l k = k l := by
  unfold szT at *
  split at h
  · omega
  · rename_i h2
    rw [if_neg h2]
    omega
theorem szNode_lo (x : Node) (l : Int) (h : l ≤ 1048576) : -1 ≤ szNode x l ∧ szNode x l ≤ 1048576 :=
  ⟨szT_lo fun _ => szT_lo fun _ => szT_lo fun _ => szT_lo fun _ => szL_lo .., szT_hi (by omega) (szT_hi (by omega) (szT_hi (by omega) (szT_hi (by omega) (szL_hi (szL_hi (szL_hi (szL_hi h (by omega)) (by omega)) (by omega)) (by omega)))))⟩
theorem szMail_lo (x : Mail) (l : Int) (h : l ≤ 1048576) : -1 ≤ szMail x l ∧ szMail x l ≤ 1048576 :=
  ⟨szT_lo fun _ => szL_lo .., szT_hi (by omega) (szL_hi h (by omega))⟩
theorem szNodes_lo : ∀ (xs : List Node) (l : Int), -1 ≤ l → l ≤ 1048576 → -1 ≤ szNodes xs l ∧ szNodes xs l ≤ 1048576
  | [], l, h1, h2 => ⟨h1, h2⟩
  | x :: xs, l, h1, h2 => by
    have := szNode_lo x l h2
    have h3 := szNodes_lo xs (szNode x l) this.1 this.2
    exact ⟨szT_lo fun _ => h3.1, szT_hi (by omega) h3.2⟩
theorem szMails_lo : ∀ (xs : List Mail) (l : Int), -1 ≤ l → l ≤ 1048576 → -1 ≤ szMails xs l ∧ szMails xs l ≤ 1048576
  | [], l, h1, h2 => ⟨h1, h2⟩
  | x :: xs, l, h1, h2 => by
    have := szMail_lo x l h2
    have h3 := szMails_lo xs (szMail x l) this.1 this.2
    exact ⟨szT_lo fun _ => h3.1, szT_hi (by omega) h3.2⟩
theorem szNs_lo (xs : List Node) (l : Int) (h : l ≤ 1048576) : -1 ≤ szNs xs l ∧ szNs xs l ≤ 1048576 := by
  have := szNodes_lo xs _ (szL_lo xs.length l) (szL_hi h (by omega))
  exact ⟨szT_lo fun _ => this.1, szT_hi (by omega) this.2⟩
theorem szMs_lo (xs : List Mail) (l : Int) (h : l ≤ 1048576) : -1 ≤ szMs xs l ∧ szMs xs l ≤ 1048576 := by
  have := szMails_lo xs _ (szL_lo xs.length l) (szL_hi h (by omega))
  exact ⟨szT_lo fun _ => this.1, szT_hi (by omega) this.2⟩
def limN (b : Nat) (x : Node) : Prop := x.log.length ≤ b ∧ x.votes.length ≤ b ∧ x.next.length ≤ b ∧ x.match_.length ≤ b
def limM (b : Nat) (x : Mail) : Prop := x.entries.length ≤ b
def limC (b : Nat) (x : Cluster) : Prop := (x.nodes.length ≤ b ∧ ∀ y ∈ x.nodes, limN b y) ∧ (x.mails.length ≤ b ∧ ∀ y ∈ x.mails, limM b y) ∧ x.wins.length ≤ b ∧ x.seals.length ≤ b
theorem szNode_lim {x : Node} {l : Int} (h : 0 ≤ szNode x l) (hl : l ≤ 1048576) : limN 1048576 x ∧ szNode x l ≤ 1048576 := by
  unfold szNode at h
  obtain ⟨a1, a2, _⟩ := szT_ge h
  obtain ⟨b1, b2, _⟩ := szT_ge a2
  obtain ⟨c1, c2, _⟩ := szT_ge b2
  obtain ⟨d1, d2, _⟩ := szT_ge c2
  have e1 := szL_ge a1
  have e2 := szL_ge b1
  have e3 := szL_ge c1
  have e4 := szL_ge d1
  exact ⟨⟨by omega, by omega, by omega, by omega⟩, (szNode_lo x l hl).2⟩
theorem szMail_lim {x : Mail} {l : Int} (h : 0 ≤ szMail x l) (hl : l ≤ 1048576) : limM 1048576 x ∧ szMail x l ≤ 1048576 := by
  unfold szMail at h
  obtain ⟨a1, a2, _⟩ := szT_ge h
  have e1 := szL_ge a1
  exact ⟨by unfold limM; omega, (szMail_lo x l hl).2⟩
theorem szNodes_lim : ∀ {xs : List Node} {l : Int}, 0 ≤ szNodes xs l → l ≤ 1048576 → ∀ y ∈ xs, limN 1048576 y
  | [], _, _, _ => by simp
  | x :: xs, l, h, hl => by
    obtain ⟨a1, a2, _⟩ := szT_ge h
    obtain ⟨b1, b2⟩ := szNode_lim a1 hl
    intro y hy
    rcases List.mem_cons.1 hy with rfl | hy
    · exact b1
    · exact szNodes_lim a2 b2 y hy
theorem szMails_lim : ∀ {xs : List Mail} {l : Int}, 0 ≤ szMails xs l → l ≤ 1048576 → ∀ y ∈ xs, limM 1048576 y
  | [], _, _, _ => by simp
  | x :: xs, l, h, hl => by
    obtain ⟨a1, a2, _⟩ := szT_ge h
    obtain ⟨b1, b2⟩ := szMail_lim a1 hl
    intro y hy
    rcases List.mem_cons.1 hy with rfl | hy
    · exact b1
    · exact szMails_lim a2 b2 y hy
theorem szCluster_lim {x : Cluster} {l : Int} (h : 0 ≤ szCluster x l) (hl : l ≤ 1048576) : limC 1048576 x := by
  unfold szCluster at h
  obtain ⟨a1, a2, _⟩ := szT_ge h
  obtain ⟨b1, b2, _⟩ := szT_ge a2
  obtain ⟨c1, c2, _⟩ := szT_ge b2
  obtain ⟨d1, d2, _⟩ := szT_ge c2
  have e1 := (szNs_lo x.nodes l hl).2
  have e2 := (szMs_lo x.mails _ e1).2
  obtain ⟨f1, f2, _⟩ := szT_ge a1
  obtain ⟨g1, g2, _⟩ := szT_ge b1
  have q1 := szL_ge f1
  have q2 := szL_ge g1
  have q3 := szL_ge c1
  have q4 := szL_ge d1
  exact ⟨⟨by omega, szNodes_lim f2 (szL_hi hl (by omega))⟩, ⟨by omega, szMails_lim g2 (szL_hi e1 (by omega))⟩, by omega, by omega⟩
theorem int_res {k : IntKind} {a b : Int} (h : a = b) : [TV.one (T.int k a)] = [TV.one (T.int k b)] := by rw [h]
theorem bool_res {a b : Bool} (h : a = b) : [TV.one (T.bool a)] = [TV.one (T.bool b)] := by rw [h]
theorem getD_bld {α : Type} {l : List α} {n i : Nat} {d : α} (h : l.length = i) : (l ++ List.replicate n d).getD i d = d := by
  rw [List.getD_eq_getElem?_getD, List.getElem?_append_right (by omega)]
  cases h2 : (List.replicate n d)[i - l.length]? with
  | none => rfl
  | some x => exact List.eq_of_mem_replicate (List.mem_of_getElem? h2)
theorem bld_step {α : Type} (f : α → List T) (z : α) (d : List T) {xs : List α} {i : Nat} (h : i < xs.length) : ((xs.take i).map f ++ List.replicate (xs.length - i) d).set i (f (xs.getD i z)) = (xs.take (i + 1)).map f ++ List.replicate (xs.length - (i + 1)) d := by
  rw [take_succ_map f z h]
  have e : xs.length - i = (xs.length - (i + 1)) + 1 := by omega
  have hl : ((xs.take i).map f).length = i := by simp; omega
  rw [e, List.replicate_succ, List.set_append_right _ _ (by omega), hl, Nat.sub_self, List.set_cons_zero, List.append_assoc]
  rfl
attribute [go_sem] Nat.sub_self
def mkL {α : Type} (m : α → Int → α) (s : α → Int → Int) : List α → Int → List α
  | [], _ => []
  | x :: xs, k => m x k :: mkL m s xs (s x k)
def mkK {α : Type} (s : α → Int → Int) : List α → Int → Int
  | [], k => k
  | x :: xs, k => mkK s xs (s x k)
theorem mkL_length {α : Type} (m : α → Int → α) (s : α → Int → Int) : ∀ (xs : List α) (k : Int), (mkL m s xs k).length = xs.length
  | [], _ => rfl
  | x :: xs, k => by simp [mkL, mkL_length m s xs]
theorem mkL_snoc {α : Type} (m : α → Int → α) (s : α → Int → Int) (y : α) : ∀ (xs : List α) (k : Int), mkL m s (xs ++ [y]) k = mkL m s xs k ++ [m y (mkK s xs k)]
  | [], _ => rfl
  | x :: xs, k => by simp [mkL, mkK, mkL_snoc m s y xs]
theorem mkK_snoc {α : Type} (s : α → Int → Int) (y : α) : ∀ (xs : List α) (k : Int), mkK s (xs ++ [y]) k = s y (mkK s xs k)
  | [], _ => rfl
  | x :: xs, k => by simp [mkK, mkK_snoc s y xs]
theorem take_snoc {α : Type} (z : α) {xs : List α} {i : Nat} (h : i < xs.length) : xs.take (i + 1) = xs.take i ++ [xs.getD i z] := by
  rw [List.take_add_one, List.getD_eq_getElem?_getD, List.getElem?_eq_getElem h]
  rfl
theorem mkK_succ {α : Type} (s : α → Int → Int) (z : α) {xs : List α} {i : Nat} (h : i < xs.length) (k : Int) : mkK s (xs.take (i + 1)) k = s (xs.getD i z) (mkK s (xs.take i) k) := by
  rw [take_snoc z h, mkK_snoc]
theorem mk_step {α : Type} (f : α → List T) (m : α → Int → α) (s : α → Int → Int) (z : α) {xs : List α} {i : Nat} (h : i < xs.length) (k : Int) :
    ((mkL m s (xs.take i) k ++ xs.drop i).map f).set i (f (m (xs.getD i z) (mkK s (xs.take i) k))) = (mkL m s (xs.take (i + 1)) k ++ xs.drop (i + 1)).map f := by
  rw [take_snoc z h, mkL_snoc, drop_getD z h]
  have hl : (mkL m s (xs.take i) k).length = i := by rw [mkL_length]; simp; omega
  have e : ∀ y r, ((mkL m s (xs.take i) k ++ y :: r).map f).set i (f (m (xs.getD i z) (mkK s (xs.take i) k))) = (mkL m s (xs.take i) k ++ (m (xs.getD i z) (mkK s (xs.take i) k)) :: r).map f := by
    intro y r
    rw [List.map_append, List.set_append_right _ _ (by rw [List.length_map]; omega), List.length_map, hl, Nat.sub_self, List.map_cons, List.set_cons_zero, List.map_append, List.map_cons]
  rw [e, List.append_assoc]
  rfl
theorem mkL_getD {α : Type} (m : α → Int → α) (s : α → Int → Int) (z : α) : ∀ {xs : List α} {i : Nat} (k : Int), i < xs.length → (mkL m s xs k).getD i z = m (xs.getD i z) (mkK s (xs.take i) k)
  | [], i, k, h => by simp at h
  | x :: xs, 0, k, h => rfl
  | x :: xs, i + 1, k, h => by
    have := mkL_getD m s z (xs := xs) (i := i) (s x k) (by simpa using h)
    simpa only [mkL, List.getD_cons_succ, List.take_succ_cons, mkK] using this
theorem mk_getD {α : Type} (m : α → Int → α) (s : α → Int → Int) (z : α) {xs : List α} {i : Nat} (k : Int) (h : i < xs.length) : (mkL m s (xs.take i) k ++ xs.drop i).getD i z = xs.getD i z := by
  have hl : (mkL m s (xs.take i) k).length = i := by rw [mkL_length]; simp; omega
  rw [List.getD_eq_getElem?_getD, List.getElem?_append_right (by omega), hl, Nat.sub_self, drop_getD z h]
  rfl
theorem mkK_mono {α : Type} {s : α → Int → Int} (hs : ∀ x k, k ≤ s x k) : ∀ (xs : List α) (k : Int), k ≤ mkK s xs k
  | [], k => Int.le_refl k
  | x :: xs, k => Int.le_trans (hs x k) (mkK_mono hs xs _)
theorem mkK_app {α : Type} {s : α → Int → Int} : ∀ (xs ys : List α) (k : Int), mkK s (xs ++ ys) k = mkK s ys (mkK s xs k)
  | [], _, _ => rfl
  | x :: xs, ys, k => by simp [mkK, mkK_app xs ys]
theorem mkK_take {α : Type} {s : α → Int → Int} (hs : ∀ x k, k ≤ s x k) (xs : List α) (i : Nat) (k : Int) : mkK s (xs.take i) k ≤ mkK s xs k := by
  conv => rhs; rw [← List.take_append_drop i xs, mkK_app]
  exact mkK_mono hs _ _
theorem mkK_at {α : Type} {s : α → Int → Int} (hs : ∀ x k, k ≤ s x k) (z : α) {xs : List α} {i : Nat} (h : i < xs.length) {k b : Int} (hb : mkK s xs k ≤ b) : k ≤ mkK s (xs.take i) k ∧ s (xs.getD i z) (mkK s (xs.take i) k) ≤ b := by
  rw [← mkK_succ s z h]
  exact ⟨mkK_mono hs _ _, Int.le_trans (mkK_take hs _ _ _) hb⟩
theorem mkK_bd {α : Type} {s : α → Int → Int} {c : Int} (hc : 0 ≤ c) : ∀ {xs : List α} {k : Int}, (∀ x ∈ xs, ∀ k, s x k ≤ k + c) → mkK s xs k ≤ k + c * xs.length
  | [], k, h => by simp [mkK]
  | x :: xs, k, h => by
    have h1 := h x (by simp) k
    have h2 := mkK_bd hc (xs := xs) (k := s x k) fun y hy => h y (by simp [hy])
    simp only [mkK, List.length_cons]
    rw [show c * ((xs.length + 1 : Nat) : Int) = c * xs.length + c by rw [Int.natCast_add, Int.mul_add]; simp]
    omega
theorem arr_eq {sz v v' : Nat} {c : Option Nat} {r r' : List (List T)} (h1 : r = r') (h2 : v = v') : some (Mem.arr ⟨sz, r, v, c⟩) = some (Mem.arr ⟨sz, r', v', c⟩) := by rw [h1, h2]
theorem int_eq {k : IntKind} {a b : Int} (h : a = b) : some (V.int k a) = some (V.int k b) := by rw [h]
def mI (_ : Int) (k : Int) : Int := k
def sI (_ : Int) (k : Int) : Int := k + 1
def mC (_ : Cmd) (k : Int) : Cmd := ⟨k, k + 1, k + 1 + 1, k + 1 + 1 + 1, k + 1 + 1 + 1 + 1, k + 1 + 1 + 1 + 1 + 1⟩
def mE (x : Entry) (k : Int) : Entry := ⟨k, k + 1, k + 1 + 1, mC x.cmd (k + 1 + 1 + 1)⟩
def sE (_ : Entry) (k : Int) : Int := k + 1 + 1 + 1 + 1 + 1 + 1 + 1 + 1 + 1
def mW (_ : Won) (k : Int) : Won := ⟨k, k + 1⟩
def sW (_ : Won) (k : Int) : Int := k + 1 + 1
def mS (x : Seal) (k : Int) : Seal := ⟨k, mE x.entry (k + 1)⟩
def sS (_ : Seal) (k : Int) : Int := k + 1 + 1 + 1 + 1 + 1 + 1 + 1 + 1 + 1 + 1
def mM (x : Mail) (k : Int) : Mail := ⟨k, k + 1, k + 1 + 1, k + 1 + 1 + 1, k + 1 + 1 + 1 + 1, k + 1 + 1 + 1 + 1 + 1, k + 1 + 1 + 1 + 1 + 1 + 1, decide ((k + 1 + 1 + 1 + 1 + 1 + 1 + 1).tmod 3 = 0), mkL mE sE x.entries (k + 1 + 1 + 1 + 1 + 1 + 1 + 1 + 1)⟩
def sM (x : Mail) (k : Int) : Int := mkK sE x.entries (k + 1 + 1 + 1 + 1 + 1 + 1 + 1 + 1)
def mN1 (x : Node) (k : Int) : Node := { x with log := mkL mE sE x.log k, votes := mkL mI sI x.votes (mkK sE x.log k), next := mkL mI sI x.next (mkK sI x.votes (mkK sE x.log k)), match_ := mkL mI sI x.match_ (mkK sI x.next (mkK sI x.votes (mkK sE x.log k))) }
def sN1 (x : Node) (k : Int) : Int := mkK sI x.match_ (mkK sI x.next (mkK sI x.votes (mkK sE x.log k)))
def kN4 (x : Node) (k : Int) : Int := mkK sE x.log (k + 1 + 1 + 1 + 1)
def mN (x : Node) (k : Int) : Node := ⟨k, k + 1, k + 1 + 1, k + 1 + 1 + 1, mkL mE sE x.log (k + 1 + 1 + 1 + 1), kN4 x k, kN4 x k + 1, mkL mI sI x.votes (kN4 x k + 1 + 1), mkL mI sI x.next (mkK sI x.votes (kN4 x k + 1 + 1)), mkL mI sI x.match_ (mkK sI x.next (mkK sI x.votes (kN4 x k + 1 + 1)))⟩
def sN (x : Node) (k : Int) : Int := mkK sI x.match_ (mkK sI x.next (mkK sI x.votes (kN4 x k + 1 + 1)))
theorem sI_up (x : Int) (k : Int) : k ≤ sI x k := by unfold sI; omega
theorem sE_up (x : Entry) (k : Int) : k ≤ sE x k := by unfold sE; omega
theorem sW_up (x : Won) (k : Int) : k ≤ sW x k := by unfold sW; omega
theorem sS_up (x : Seal) (k : Int) : k ≤ sS x k := by unfold sS; omega
theorem sM_up (x : Mail) (k : Int) : k ≤ sM x k := by
  have := mkK_mono sE_up x.entries (k + 1 + 1 + 1 + 1 + 1 + 1 + 1 + 1)
  unfold sM; omega
theorem sN_up (x : Node) (k : Int) : k ≤ sN x k := by
  have h1 := mkK_mono sE_up x.log (k + 1 + 1 + 1 + 1)
  have h2 := mkK_mono sI_up x.votes (kN4 x k + 1 + 1)
  have h3 := mkK_mono sI_up x.next (mkK sI x.votes (kN4 x k + 1 + 1))
  have h4 := mkK_mono sI_up x.match_ (mkK sI x.next (mkK sI x.votes (kN4 x k + 1 + 1)))
  unfold sN; unfold kN4 at *; omega
theorem getD_mem {α : Type} (z : α) {xs : List α} {i : Nat} (h : i < xs.length) : xs.getD i z ∈ xs := by
  rw [List.getD_eq_getElem?_getD, List.getElem?_eq_getElem h]
  exact List.getElem_mem h
theorem sN1_up (x : Node) (k : Int) : k ≤ sN1 x k := by
  have h1 := mkK_mono sE_up x.log k
  have h2 := mkK_mono sI_up x.votes (mkK sE x.log k)
  have h3 := mkK_mono sI_up x.next (mkK sI x.votes (mkK sE x.log k))
  have h4 := mkK_mono sI_up x.match_ (mkK sI x.next (mkK sI x.votes (mkK sE x.log k)))
  unfold sN1; omega
def mCl (x : Cluster) (k : Int) : Cluster := ⟨mkL mN sN x.nodes k, mkL mM sM x.mails (mkK sN x.nodes k), mkL mW sW x.wins (mkK sM x.mails (mkK sN x.nodes k)), mkL mS sS x.seals (mkK sW x.wins (mkK sM x.mails (mkK sN x.nodes k)))⟩
def sCl (x : Cluster) (k : Int) : Int := mkK sS x.seals (mkK sW x.wins (mkK sM x.mails (mkK sN x.nodes k)))
theorem sCl_up (x : Cluster) (k : Int) : k ≤ sCl x k := by
  have v1 := mkK_mono sN_up x.nodes k
  have v2 := mkK_mono sM_up x.mails (mkK sN x.nodes k)
  have v3 := mkK_mono sW_up x.wins (mkK sM x.mails (mkK sN x.nodes k))
  have v4 := mkK_mono sS_up x.seals (mkK sW x.wins (mkK sM x.mails (mkK sN x.nodes k)))
  unfold sCl; omega
theorem mCl_n (x : Cluster) (k : Int) : (mCl x k).nodes.length = x.nodes.length := mkL_length ..
theorem mCl_m (x : Cluster) (k : Int) : (mCl x k).mails.length = x.mails.length := mkL_length ..
theorem mCl_w (x : Cluster) (k : Int) : (mCl x k).wins.length = x.wins.length := mkL_length ..
theorem mCl_s (x : Cluster) (k : Int) : (mCl x k).seals.length = x.seals.length := mkL_length ..
attribute [go_sem] mCl_n mCl_m mCl_w mCl_s
theorem mCl_tn (x : Cluster) (k : Int) : List.take x.nodes.length (mCl x k).nodes = (mCl x k).nodes := List.take_of_length_le (by rw [mCl_n]; exact Nat.le_refl _)
theorem mCl_tm (x : Cluster) (k : Int) : List.take x.mails.length (mCl x k).mails = (mCl x k).mails := List.take_of_length_le (by rw [mCl_m]; exact Nat.le_refl _)
theorem mCl_tw (x : Cluster) (k : Int) : List.take x.wins.length (mCl x k).wins = (mCl x k).wins := List.take_of_length_le (by rw [mCl_w]; exact Nat.le_refl _)
theorem mCl_ts (x : Cluster) (k : Int) : List.take x.seals.length (mCl x k).seals = (mCl x k).seals := List.take_of_length_le (by rw [mCl_s]; exact Nat.le_refl _)
attribute [go_sem] mCl_tn mCl_tm mCl_tw mCl_ts
theorem toNat_sub1 (n : Nat) : ((n : Int) - 1).toNat = n - 1 := by omega
theorem toNat_add1 (n : Nat) : ((n : Int) + 1).toNat = n + 1 := by omega
attribute [go_sem] toNat_sub1 toNat_add1 Int.add_sub_cancel
def w64 (n : Int) : Int := IntKind.wrap .i64 n
def lastE (xs : List Entry) : Entry := if xs.length = 0 then zEntry else xs.getD (xs.length - 1) zEntry
def isId (x : Node) (i : Int) : Bool := inR i 0 (IntKind.wrap .i64 (x.peers - 1))
def cVip (k : Int) : Bool := inR k 5 8
def isNum (x : Cmd) : Bool := if x.kind = 1 ∨ x.kind = 2 then inR x.number 0 9 else if x.kind = 3 then inR x.number 1 3 else if x.kind = 9 then inR x.number 0 1 else inR x.number 0 65535
def isPro (n : Int) : Bool := decide (n = 6) || decide (n = 17)
def nd1 (k : Int) : Bool := !inR k 5 6
def nd2 (k : Int) : Bool := decide (k = 1) || inR k 5 8
def nd3 (k : Int) : Bool := !decide (k = 4)
def nd4 (k : Int) : Bool := inR k 5 8
def cmdFault (x : Cmd) : Int :=
  if !inR x.kind 1 9 then 1 else
  if !inR x.expect (-1) 1000000 || (nd1 x.kind && !inR x.name 1 999) || (nd2 x.kind && !inR x.addr 0 4294967295) || (nd3 x.kind && !isNum x) || (nd4 x.kind && !isPro x.proto) then 3 else
  if (!nd1 x.kind && decide (x.name ≠ 0)) || (!nd2 x.kind && decide (x.addr ≠ 0)) || (!nd3 x.kind && decide (x.number ≠ 0)) || (!nd4 x.kind && decide (x.proto ≠ 0)) then 1 else 0
theorem exp_eq (n : Int) : (!decide (n = -1) && !inR n 0 1000000) = !inR n (-1) 1000000 := by
  rw [Bool.eq_iff_iff]
  simp [inR]
  omega
def cmdZero (c : Cmd) : Bool := decide (c.kind = 0) && (decide (c.expect = 0) && (decide (c.name = 0) && (decide (c.addr = 0) && (decide (c.number = 0) && decide (c.proto = 0)))))
def entryFault (x : Entry) : Int :=
  if !inR x.term 1 100000 || !inR x.client 0 999 || !inR x.seq 0 1000000 then 3 else
  if decide (x.client = 0) ≠ decide (x.seq = 0) then 1 else
  if x.client ≠ 0 then cmdFault x.cmd else
  if !cmdZero x.cmd then 1 else 0
def scanN (f : Nat → Int) : Nat → Nat → Int
  | 0, _ => 0
  | n + 1, i => if f i = 0 then scanN f n (i + 1) else f i
def scan (f : Nat → Int) (n i : Nat) : Int := scanN f (n - i) i
theorem scan_lt {f : Nat → Int} {n i : Nat} (h : i < n) : scan f n i = if f i = 0 then scan f n (i + 1) else f i := by
  unfold scan
  rw [show n - i = (n - (i + 1)) + 1 by omega]
  rfl
theorem scan_ge {f : Nat → Int} {n i : Nat} (h : n ≤ i) : scan f n i = 0 := by
  unfold scan
  rw [show n - i = 0 by omega]
  rfl
theorem scanN_zero {f : Nat → Int} : ∀ {n i : Nat}, scanN f n i = 0 ↔ ∀ j, j < n → f (i + j) = 0
  | 0, i => by simp [scanN]
  | n + 1, i => by
    simp only [scanN]
    constructor
    · intro h j hj
      split at h
      · rename_i h0
        rcases j with _ | j
        · exact h0
        · have := scanN_zero.1 h j (by omega)
          rw [show i + (j + 1) = i + 1 + j by omega]
          exact this
      · rename_i h0; exact absurd h h0
    · intro h
      have h0 := h 0 (by omega)
      rw [Nat.add_zero] at h0
      rw [if_pos h0]
      refine scanN_zero.2 fun j hj => ?_
      rw [show i + 1 + j = i + (j + 1) by omega]
      exact h (j + 1) (by omega)
theorem scan_zero {f : Nat → Int} {n : Nat} : scan f n 0 = 0 ↔ ∀ j, j < n → f j = 0 := by
  unfold scan
  rw [scanN_zero]
  simp
def logBad (xs : List Entry) (i : Nat) : Int :=
  if entryFault (xs.getD i zEntry) ≠ 0 then entryFault (xs.getD i zEntry) else
  if 0 < i ∧ (xs.getD i zEntry).term < (xs.getD (i - 1) zEntry).term then 1 else 0
def logFault (xs : List Entry) : Int := if 40 < xs.length then 2 else scan (logBad xs) xs.length 0
def rises (xs : List Int) : Prop := ∀ i, 0 < i → i < xs.length → xs.getD (i - 1) zI_i64 < xs.getD i zI_i64
def idsOk (x : Node) : Prop := ∀ i, i < x.votes.length → isId x (x.votes.getD i zI_i64) = true
noncomputable instance (xs : List Int) : Decidable (rises xs) := Classical.propDecidable _
noncomputable instance (x : Node) : Decidable (idsOk x) := Classical.propDecidable _
def due (x : Node) : Int := if x.role = 2 then x.peers else 0
def listsOk (x : Node) : Prop := rises x.votes ∧ ¬ (0 < x.votes.length ∧ x.role ≠ 1) ∧ idsOk x ∧ (x.next.length : Int) = due x ∧ (x.match_.length : Int) = due x
noncomputable instance (x : Node) : Decidable (listsOk x) := Classical.propDecidable _
def nodeRange (x : Node) : Bool := inR x.peers 1 5 && isId x x.id && inR x.term 0 100000 && (decide (x.voted = -1) || isId x x.voted) && inR x.role 0 2
def rangeOk (xs : List Int) (a b : Int) : Prop := ∀ i, i < xs.length → inR (xs.getD i zI_i64) a b = true
noncomputable instance (xs : List Int) (a b : Int) : Decidable (rangeOk xs a b) := Classical.propDecidable _
noncomputable def nodeFault (x : Node) : Int :=
  if nodeRange x = false then 3 else
  if logFault x.log ≠ 0 then logFault x.log else
  if x.term < (lastE x.log).term then 1 else
  if inR x.commit 0 x.log.length = false then 3 else
  if ¬ listsOk x then 1 else
  if ¬ rangeOk x.next 1 (x.log.length + 1) ∨ ¬ rangeOk x.match_ 0 x.log.length then 3 else
  if x.role ≠ 0 ∧ (x.voted ≠ x.id ∨ x.term = 0) then 1 else 0
noncomputable def idxP (p : Int → Bool) (xs : List Int) : Int := if ∃ i, i < xs.length ∧ p (xs.getD i zI_i64) = true then xs.findIdx p else -1
theorem idxP_none {p : Int → Bool} {xs : List Int} (h : ∀ i, i < xs.length → p (xs.getD i zI_i64) = false) : idxP p xs = -1 := by
  unfold idxP
  rw [if_neg]
  rintro ⟨i, hi, hp⟩
  rw [h i hi] at hp
  cases hp
theorem idxP_some {p : Int → Bool} {xs : List Int} {i : Nat} (hi : i < xs.length) (h : ∀ j, j < i → p (xs.getD j zI_i64) = false) (hp : p (xs.getD i zI_i64) = true) : idxP p xs = i := by
  unfold idxP
  rw [if_pos ⟨i, hi, hp⟩]
  congr 1
  rw [List.findIdx_eq hi]
  have e : ∀ j (hj : j < xs.length), xs.getD j zI_i64 = xs[j] := fun j hj => by rw [List.getD_eq_getElem?_getD, List.getElem?_eq_getElem hj]; rfl
  exact ⟨by rw [← e i hi]; exact hp, fun j hj => by rw [← e j (by omega)]; exact h j hj⟩
theorem idxP_ge {p : Int → Bool} {xs : List Int} : decide (idxP p xs ≥ 0) = decide (∃ i, i < xs.length ∧ p (xs.getD i zI_i64) = true) := by
  unfold idxP
  rw [Bool.eq_iff_iff]
  simp only [decide_eq_true_eq]
  split
  · rename_i h; exact ⟨fun _ => h, fun _ => by omega⟩
  · rename_i h; exact ⟨fun h2 => absurd h2 (by omega), fun h2 => absurd h2 h⟩
theorem wrap_small {n : Int} (h1 : -9223372036854775808 ≤ n) (h2 : n ≤ 9223372036854775807) : IntKind.wrap .i64 n = n := okI_wrap (k := .i64) ⟨h1, h2⟩
theorem voted_eq (x : Node) (h : inR x.peers 1 5 = true) : inR x.voted (-1) (IntKind.wrap .i64 (x.peers - 1)) = (decide (x.voted = -1) || isId x x.voted) := by
  unfold isId inR at *
  simp only [Bool.and_eq_true, decide_eq_true_eq] at h
  rw [wrap_small (by omega) (by omega), Bool.eq_iff_iff]
  simp
  omega
theorem listsOk_len {x : Node} (h : listsOk x) : x.next.length = x.match_.length := by
  unfold listsOk at h
  omega
def mailZeros (m : Mail) : Prop := (m.kind = 1 → m.commit = 0) ∧ (m.kind = 2 → m.index = 0 ∧ m.last = 0 ∧ m.commit = 0) ∧ (m.kind = 4 → m.last = 0 ∧ m.commit = 0)
noncomputable instance (m : Mail) : Decidable (mailZeros m) := Classical.propDecidable _
def mailRange (x : Node) (m : Mail) : Bool := isId x m.from_ && !decide (m.from_ = x.id) && decide (m.to_ = x.id) && inR m.term 1 100000 && inR m.index 0 40 && inR m.last 0 m.term && inR m.commit 0 40
def mailLog (m : Mail) : Prop := 0 < m.entries.length → m.kind = 3 ∧ (lastE m.entries).term ≤ m.term ∧ m.last ≤ (m.entries.getD 0 zEntry).term
def mailForm (m : Mail) : Prop := mailLog m ∧ (m.ok = true → m.kind = 2 ∨ m.kind = 4) ∧ mailZeros m ∧ (m.index = 0 → m.last = 0)
noncomputable instance (m : Mail) : Decidable (mailForm m) := Classical.propDecidable _
noncomputable def mailFault (x : Node) (m : Mail) : Int :=
  if inR m.kind 1 4 = false then 5 else
  if mailRange x m = false then 3 else
  if logFault m.entries ≠ 0 then logFault m.entries else
  if ¬ mailForm m then 1 else 0
noncomputable def nodeAt (x : Cluster) (i : Nat) : Int :=
  if nodeFault (x.nodes.getD i zNode) ≠ 0 then nodeFault (x.nodes.getD i zNode) else
  if (x.nodes.getD i zNode).id ≠ i ∨ (x.nodes.getD i zNode).peers ≠ x.nodes.length then 1 else 0
def place (x : Cluster) (n : Int) : Bool := inR n 0 ((x.nodes.length : Int) - 1)
noncomputable def mailAt (x : Cluster) (i : Nat) : Int :=
  if place x (x.mails.getD i zMail).to_ = false then 3 else mailFault (x.nodes.getD (x.mails.getD i zMail).to_.toNat zNode) (x.mails.getD i zMail)
def winAt (x : Cluster) (i : Nat) : Int := if inR (x.wins.getD i zWon).term 1 100000 = false ∨ place x (x.wins.getD i zWon).node = false then 3 else 0
def sealAt (x : Cluster) (i : Nat) : Int := if inR (x.seals.getD i zSeal).term 1 100000 = false then 3 else entryFault (x.seals.getD i zSeal).entry
theorem nodeAt_eq (x : Cluster) (i : Nat) : nodeAt x i = if nodeFault (x.nodes.getD i zNode) ≠ 0 then nodeFault (x.nodes.getD i zNode) else
  if (x.nodes.getD i zNode).id ≠ i ∨ (x.nodes.getD i zNode).peers ≠ x.nodes.length then 1 else 0 := rfl
theorem mailAt_eq (x : Cluster) (i : Nat) : mailAt x i = if place x (x.mails.getD i zMail).to_ = false then 3 else mailFault (x.nodes.getD (x.mails.getD i zMail).to_.toNat zNode) (x.mails.getD i zMail) := rfl
theorem winAt_eq (x : Cluster) (i : Nat) : winAt x i = if inR (x.wins.getD i zWon).term 1 100000 = false ∨ place x (x.wins.getD i zWon).node = false then 3 else 0 := rfl
theorem sealAt_eq (x : Cluster) (i : Nat) : sealAt x i = if inR (x.seals.getD i zSeal).term 1 100000 = false then 3 else entryFault (x.seals.getD i zSeal).entry := rfl
noncomputable def clusterFault (x : Cluster) : Int :=
  if x.nodes.length < 1 ∨ 5 < x.nodes.length ∨ 80 < x.mails.length then 2 else
  if scan (nodeAt x) x.nodes.length 0 ≠ 0 then scan (nodeAt x) x.nodes.length 0 else
  if scan (mailAt x) x.mails.length 0 ≠ 0 then scan (mailAt x) x.mails.length 0 else
  if 400 < x.wins.length ∨ 40 < x.seals.length then 2 else
  if scan (winAt x) x.wins.length 0 ≠ 0 then scan (winAt x) x.wins.length 0 else
  scan (sealAt x) x.seals.length 0
theorem place_iff {x : Cluster} {n : Int} : place x n = true ↔ 0 ≤ n ∧ n < x.nodes.length := by
  unfold place inR
  simp
  omega
theorem nodes_ok {x : Cluster} (h : scan (nodeAt x) x.nodes.length 0 = 0) {i : Nat} (hi : i < x.nodes.length) : nodeFault (x.nodes.getD i zNode) = 0 ∧ (x.nodes.getD i zNode).id = i ∧ (x.nodes.getD i zNode).peers = x.nodes.length := by
  have := scan_zero.1 h i hi
  rw [nodeAt_eq] at this
  grind
noncomputable def mailGuard (x : Cluster) (p : Int) : Int := if clusterFault x ≠ 0 then clusterFault x else if inR p 0 ((x.mails.length : Int) - 1) = false then 3 else 0
def bad (c : Int) : ClusterResult := ⟨c, zCluster⟩
noncomputable def copyMail (x : Cluster) (p : Int) : ClusterResult :=
  if mailGuard x p ≠ 0 then bad (mailGuard x p) else
  if 80 ≤ x.mails.length then bad 2 else ⟨0, { x with mails := x.mails ++ [x.mails.getD p.toNat zMail] }⟩
theorem guard_iff {x : Cluster} {p : Int} (h : mailGuard x p = 0) : clusterFault x = 0 ∧ ∃ n : Nat, p = n ∧ n < x.mails.length := by
  unfold mailGuard inR at h
  split at h
  · rename_i h0; exact absurd h h0
  · rename_i h0
    split at h
    · cases h
    · rename_i h1
      simp at h1
      exact ⟨by simpa using h0, p.toNat, by omega, by omega⟩
theorem drop_take_one {α : Type} (z : α) {xs : List α} {n : Nat} (h : n < xs.length) : (xs.take (n + 1)).drop n = [xs.getD n z] := by
  rw [take_snoc z h, List.drop_append_of_le_length (by simp; omega), List.drop_of_length_le (by simp; omega)]
  rfl
def resC (c : Int) (x : Cluster) : ClusterResult := if c ≠ 0 then bad c else ⟨0, x⟩
theorem take_snoc_map {α : Type} (f : α → List T) (xs : List α) (r : List T) : List.take (xs.length + 1) (xs.map f ++ [r]) = xs.map f ++ [r] := List.take_of_length_le (by simp)
theorem take_app_map {α : Type} (f : α → List T) (xs ys : List α) : List.take (xs.length + ys.length) ((xs ++ ys).map f) = (xs ++ ys).map f := List.take_of_length_le (by simp)
attribute [go_sem] take_snoc_map take_app_map
def rowV (m : Mail) (v : Value) : List T := [.int .i64 m.kind, .int .i64 m.from_, .int .i64 m.to_, .int .i64 m.term, .int .i64 m.index, .int .i64 m.last, .int .i64 m.commit, .bool m.ok, .val v]
theorem take_set_map {α : Type} (f : α → List T) (xs : List α) (n : Nat) (r : List T) : List.take xs.length ((xs.map f).set n r) = (xs.map f).set n r := List.take_of_length_le (by simp)
attribute [go_sem] take_set_map
theorem noShR_set : ∀ {l : List (List T)} {n : Nat} {r : List T}, T.noShR l → T.noShL r → T.noShR (l.set n r)
  | [], _, _, _, _ => by simp [T.noShR]
  | a :: l, 0, r, h, hr => by simp only [List.set_cons_zero, T.noShR] at h ⊢; exact ⟨hr, h.2⟩
  | a :: l, n + 1, r, h, hr => by simp only [List.set_cons_succ, T.noShR] at h ⊢; exact ⟨h.1, noShR_set h.2 hr⟩
theorem noShR_append : ∀ (l l2 : List (List T)), T.noShR (l ++ l2) = (T.noShR l ∧ T.noShR l2)
  | [], l2 => by simp [T.noShR]
  | a :: l, l2 => by simp only [List.cons_append, T.noShR, noShR_append l l2, and_assoc]
theorem getD_set_app {α : Type} {l : List α} {i : Nat} (h : i < l.length) (r : α) (l2 : List α) (d : α) : (l.set i r ++ l2).getD i d = r := by
  rw [List.getD_eq_getElem?_getD, List.getElem?_append_left (by simpa using h), List.getElem?_set_self h]
  rfl
theorem set_app {α : Type} {l : List α} {i : Nat} (h : i < l.length) (r r2 : α) (l2 : List α) : (l.set i r ++ l2).set i r2 = l.set i r2 ++ l2 := by
  rw [List.set_append_left _ _ (by simpa using h), List.set_set]
theorem set_getD_map {α : Type} (f : α → List T) (z : α) {xs : List α} {i : Nat} (h : i < xs.length) : (xs.map f).set i (f (xs.getD i z)) = xs.map f := by
  rw [List.getD_eq_getElem?_getD, List.getElem?_eq_getElem h]
  apply List.ext_getElem
  · simp
  · intro j h1 h2
    rw [List.getElem_set]
    split
    · rename_i e; subst e; simp
    · rfl
attribute [go_sem] noShR_append
theorem mails_le {x : Cluster} (h : clusterFault x = 0) : x.mails.length ≤ 80 := by
  unfold clusterFault at h
  grind
theorem snoc_map {α : Type} (f : α → List T) (xs : List α) (y : α) : xs.map f ++ [f y] = (xs ++ [y]).map f := by simp
theorem limC_mono {b c : Nat} (h : b ≤ c) {x : Cluster} (hx : limC b x) : limC c x := by
  unfold limC limN limM at *
  obtain ⟨⟨a1, a2⟩, ⟨b1, b2⟩, c1, d1⟩ := hx
  exact ⟨⟨by omega, fun y hy => by have := a2 y hy; omega⟩, ⟨by omega, fun y hy => by have := b2 y hy; omega⟩, by omega, by omega⟩
theorem mkE_bd (xs : List Entry) (k : Int) : mkK sE xs k ≤ k + 9 * xs.length := mkK_bd (by omega) fun x _ k => by unfold sE; omega
theorem mkI_bd (xs : List Int) (k : Int) : mkK sI xs k ≤ k + 1 * xs.length := mkK_bd (by omega) fun x _ k => by unfold sI; omega
theorem sN_bd {x : Node} (h : limN 2097152 x) (k : Int) : sN x k ≤ k + 30000000 := by
  obtain ⟨h1, h2, h3, h4⟩ := h
  have e1 := mkE_bd x.log (k + 1 + 1 + 1 + 1)
  have e2 := mkI_bd x.votes (kN4 x k + 1 + 1)
  have e3 := mkI_bd x.next (mkK sI x.votes (kN4 x k + 1 + 1))
  have e4 := mkI_bd x.match_ (mkK sI x.next (mkK sI x.votes (kN4 x k + 1 + 1)))
  unfold sN
  unfold kN4 at *
  omega
theorem sM_bd {x : Mail} (h : limM 2097152 x) (k : Int) : sM x k ≤ k + 30000000 := by
  unfold limM at h
  have e1 := mkE_bd x.entries (k + 1 + 1 + 1 + 1 + 1 + 1 + 1 + 1)
  unfold sM
  omega
theorem sCl_bd {x : Cluster} (h : limC 2097152 x) : sCl x 1 ≤ 9000000000000000000 := by
  obtain ⟨⟨a1, a2⟩, ⟨b1, b2⟩, c1, d1⟩ := h
  have e1 := mkK_bd (s := sN) (c := 30000000) (by omega) (xs := x.nodes) (k := 1) fun y hy k => sN_bd (a2 y hy) k
  have e2 := mkK_bd (s := sM) (c := 30000000) (by omega) (xs := x.mails) (k := mkK sN x.nodes 1) fun y hy k => sM_bd (b2 y hy) k
  have e3 := mkK_bd (s := sW) (c := 2) (by omega) (xs := x.wins) (k := mkK sM x.mails (mkK sN x.nodes 1)) fun y hy k => by unfold sW; omega
  have e4 := mkK_bd (s := sS) (c := 10) (by omega) (xs := x.seals) (k := mkK sW x.wins (mkK sM x.mails (mkK sN x.nodes 1))) fun y hy k => by unfold sS; omega
  unfold sCl
  omega
theorem lim_bad {c : Int} : limC 2097152 (bad c).cluster := by
  unfold bad zCluster limC
  simp
theorem copyMail_lim {x : Cluster} (h : limC 1048576 x) (p : Int) : limC 2097152 (copyMail x p).cluster := by
  unfold copyMail
  split
  · exact lim_bad
  · split
    · exact lim_bad
    · obtain ⟨⟨a1, a2⟩, ⟨b1, b2⟩, c1, d1⟩ := limC_mono (c := 2097152) (by omega) h
      obtain ⟨_, ⟨b3, _⟩, _, _⟩ := h
      refine ⟨⟨a1, a2⟩, ⟨by simp; omega, fun y hy => ?_⟩, c1, d1⟩
      rcases List.mem_append.1 hy with hy | hy
      · exact b2 y hy
      · simp only [List.mem_singleton] at hy
        subst hy
        by_cases hl : p.toNat < x.mails.length
        · exact b2 _ (getD_mem zMail hl)
        · rw [List.getD_eq_getElem?_getD, List.getElem?_eq_none (by omega)]
          unfold limM
          simp [zMail]
end Go.H
end
section
set_option maxRecDepth 100000
set_option linter.unusedVariables false
set_option linter.unusedSimpArgs false
namespace Go.H
open Go Go.Proofs.Tryz
def qN (x : Node) : Prop := x.log.length ≤ 9223372036854775807 ∧ x.votes.length ≤ 9223372036854775807 ∧ x.next.length ≤ 9223372036854775807 ∧ x.match_.length ≤ 9223372036854775807
def qM (x : Mail) : Prop := x.entries.length ≤ 9223372036854775807
def qC (x : Cluster) : Prop := (x.nodes.length ≤ 9223372036854775807 ∧ ∀ y ∈ x.nodes, qN y) ∧ (x.mails.length ≤ 9223372036854775807 ∧ ∀ y ∈ x.mails, qM y) ∧ x.wins.length ≤ 9223372036854775807 ∧ x.seals.length ≤ 9223372036854775807
section
variable {H : Type} {enc : TypeId × Value → H} {w : World} {base : Nat} {spare : Nat → Bool} {held : Bool}
theorem cells27 : prog.cellsOf 27 = 4 := by kernel_rfl
theorem cells47 : prog.cellsOf 47 = 10 := by kernel_rfl
theorem cells2 : prog.cellsOf 2 = 1 := by kernel_rfl
theorem cells134 : prog.cellsOf 134 = 9 := by kernel_rfl
theorem cells70 : prog.cellsOf 70 = 6 := by kernel_rfl
theorem cells44 : prog.cellsOf 44 = 1 := by kernel_rfl
theorem cells45 : prog.cellsOf 45 = 1 := by kernel_rfl
theorem cells22 : prog.cellsOf 22 = 1 := by kernel_rfl
theorem cells49 : prog.cellsOf 49 = 9 := by kernel_rfl
theorem cells4 : prog.cellsOf 4 = 1 := by kernel_rfl
theorem cells23 : prog.cellsOf 23 = 1 := by kernel_rfl
theorem cells129 : prog.cellsOf 129 = 2 := by kernel_rfl
theorem cells24 : prog.cellsOf 24 = 1 := by kernel_rfl
theorem cells136 : prog.cellsOf 136 = 10 := by kernel_rfl
theorem cells25 : prog.cellsOf 25 = 1 := by kernel_rfl
theorem of_70 {fuel : Nat} {cs : List Value} {d : DataW H × List MemPlace} (h : DataW.trod enc prog w base spare held fuel 70 cs = some d) : ∃ x : Cmd, RoL w (okW w) (eCmd x) cs ∧ (fun _ => True) x := by
  obtain ⟨xs, n, rfl, _, hl, hxl, hf⟩ := DataW.trod_struct underlying70 h
  rw [cells70] at hl
  obtain ⟨_, h0⟩ : ∃ d, DataW.trod enc prog w base spare held n 2 ((cs.drop 0).take (prog.cellsOf 2)) = some d := fld_of hf hxl 0 rfl
  rw [cells2] at h0
  obtain ⟨x0, r0⟩ := int_of underlying2 h0
  obtain ⟨_, h1⟩ : ∃ d, DataW.trod enc prog w base spare held n 2 ((cs.drop 1).take (prog.cellsOf 2)) = some d := fld_of hf hxl 1 rfl
  rw [cells2] at h1
  obtain ⟨x1, r1⟩ := int_of underlying2 h1
  obtain ⟨_, h2⟩ : ∃ d, DataW.trod enc prog w base spare held n 2 ((cs.drop 2).take (prog.cellsOf 2)) = some d := fld_of hf hxl 2 rfl
  rw [cells2] at h2
  obtain ⟨x2, r2⟩ := int_of underlying2 h2
  obtain ⟨_, h3⟩ : ∃ d, DataW.trod enc prog w base spare held n 2 ((cs.drop 3).take (prog.cellsOf 2)) = some d := fld_of hf hxl 3 rfl
  rw [cells2] at h3
  obtain ⟨x3, r3⟩ := int_of underlying2 h3
  obtain ⟨_, h4⟩ : ∃ d, DataW.trod enc prog w base spare held n 2 ((cs.drop 4).take (prog.cellsOf 2)) = some d := fld_of hf hxl 4 rfl
  rw [cells2] at h4
  obtain ⟨x4, r4⟩ := int_of underlying2 h4
  obtain ⟨_, h5⟩ : ∃ d, DataW.trod enc prog w base spare held n 2 ((cs.drop 5).take (prog.cellsOf 2)) = some d := fld_of hf hxl 5 rfl
  rw [cells2] at h5
  obtain ⟨x5, r5⟩ := int_of underlying2 h5
  refine ⟨⟨x0, x1, x2, x3, x4, x5⟩, ?_, trivial⟩
  exact (RoL_cat (o := 0) (n := 1) r0 (RoL_cat (o := 1) (n := 1) r1 (RoL_cat (o := 2) (n := 1) r2 (RoL_cat (o := 3) (n := 1) r3 (RoL_cat (o := 4) (n := 1) r4 (RoL_end (o := 5) (n := 1) r5 hl))))))
theorem of_134 {fuel : Nat} {cs : List Value} {d : DataW H × List MemPlace} (h : DataW.trod enc prog w base spare held fuel 134 cs = some d) : ∃ x : Entry, RoL w (okW w) (eEntry x) cs ∧ (fun _ => True) x := by
  obtain ⟨xs, n, rfl, _, hl, hxl, hf⟩ := DataW.trod_struct underlying134 h
  rw [cells134] at hl
  obtain ⟨_, h0⟩ : ∃ d, DataW.trod enc prog w base spare held n 2 ((cs.drop 0).take (prog.cellsOf 2)) = some d := fld_of hf hxl 0 rfl
  rw [cells2] at h0
  obtain ⟨x0, r0⟩ := int_of underlying2 h0
  obtain ⟨_, h1⟩ : ∃ d, DataW.trod enc prog w base spare held n 2 ((cs.drop 1).take (prog.cellsOf 2)) = some d := fld_of hf hxl 1 rfl
  rw [cells2] at h1
  obtain ⟨x1, r1⟩ := int_of underlying2 h1
  obtain ⟨_, h2⟩ : ∃ d, DataW.trod enc prog w base spare held n 2 ((cs.drop 2).take (prog.cellsOf 2)) = some d := fld_of hf hxl 2 rfl
  rw [cells2] at h2
  obtain ⟨x2, r2⟩ := int_of underlying2 h2
  obtain ⟨_, h3⟩ : ∃ d, DataW.trod enc prog w base spare held n 70 ((cs.drop 3).take (prog.cellsOf 70)) = some d := fld_of hf hxl 3 rfl
  rw [cells70] at h3
  obtain ⟨x3, r3, q3⟩ := of_70 h3
  refine ⟨⟨x0, x1, x2, x3⟩, ?_, trivial⟩
  exact (RoL_cat (o := 0) (n := 1) r0 (RoL_cat (o := 1) (n := 1) r1 (RoL_cat (o := 2) (n := 1) r2 (RoL_end (o := 3) (n := 6) r3 hl))))
theorem of_47 {fuel : Nat} {cs : List Value} {d : DataW H × List MemPlace} (h : DataW.trod enc prog w base spare held fuel 47 cs = some d) : ∃ x : Node, RoL w (okW w) (eNode false x) cs ∧ qN x := by
  obtain ⟨xs, n, rfl, _, hl, hxl, hf⟩ := DataW.trod_struct underlying47 h
  rw [cells47] at hl
  obtain ⟨_, h0⟩ : ∃ d, DataW.trod enc prog w base spare held n 2 ((cs.drop 0).take (prog.cellsOf 2)) = some d := fld_of hf hxl 0 rfl
  rw [cells2] at h0
  obtain ⟨x0, r0⟩ := int_of underlying2 h0
  obtain ⟨_, h1⟩ : ∃ d, DataW.trod enc prog w base spare held n 2 ((cs.drop 1).take (prog.cellsOf 2)) = some d := fld_of hf hxl 1 rfl
  rw [cells2] at h1
  obtain ⟨x1, r1⟩ := int_of underlying2 h1
  obtain ⟨_, h2⟩ : ∃ d, DataW.trod enc prog w base spare held n 2 ((cs.drop 2).take (prog.cellsOf 2)) = some d := fld_of hf hxl 2 rfl
  rw [cells2] at h2
  obtain ⟨x2, r2⟩ := int_of underlying2 h2
  obtain ⟨_, h3⟩ : ∃ d, DataW.trod enc prog w base spare held n 2 ((cs.drop 3).take (prog.cellsOf 2)) = some d := fld_of hf hxl 3 rfl
  rw [cells2] at h3
  obtain ⟨x3, r3⟩ := int_of underlying2 h3
  obtain ⟨_, h4⟩ : ∃ d, DataW.trod enc prog w base spare held n 44 ((cs.drop 4).take (prog.cellsOf 44)) = some d := fld_of hf hxl 4 rfl
  rw [cells44] at h4
  obtain ⟨x4, r4, l4, q4⟩ := sl_of eEntry (fun _ => True) 9 underlying44 cells134 (fun _ => rfl) (by decide) (fun n cs d h => of_134 h) h4
  obtain ⟨_, h5⟩ : ∃ d, DataW.trod enc prog w base spare held n 2 ((cs.drop 5).take (prog.cellsOf 2)) = some d := fld_of hf hxl 5 rfl
  rw [cells2] at h5
  obtain ⟨x5, r5⟩ := int_of underlying2 h5
  obtain ⟨_, h6⟩ : ∃ d, DataW.trod enc prog w base spare held n 2 ((cs.drop 6).take (prog.cellsOf 2)) = some d := fld_of hf hxl 6 rfl
  rw [cells2] at h6
  obtain ⟨x6, r6⟩ := int_of underlying2 h6
  obtain ⟨_, h7⟩ : ∃ d, DataW.trod enc prog w base spare held n 45 ((cs.drop 7).take (prog.cellsOf 45)) = some d := fld_of hf hxl 7 rfl
  rw [cells45] at h7
  obtain ⟨x7, r7, l7, q7⟩ := sl_of eI_i64 (fun _ => True) 1 underlying45 cells2 (fun _ => rfl) (by decide) (fun n cs d h => by obtain ⟨x, hx⟩ := int_of underlying2 h; exact ⟨x, hx, trivial⟩) h7
  obtain ⟨_, h8⟩ : ∃ d, DataW.trod enc prog w base spare held n 45 ((cs.drop 8).take (prog.cellsOf 45)) = some d := fld_of hf hxl 8 rfl
  rw [cells45] at h8
  obtain ⟨x8, r8, l8, q8⟩ := sl_of eI_i64 (fun _ => True) 1 underlying45 cells2 (fun _ => rfl) (by decide) (fun n cs d h => by obtain ⟨x, hx⟩ := int_of underlying2 h; exact ⟨x, hx, trivial⟩) h8
  obtain ⟨_, h9⟩ : ∃ d, DataW.trod enc prog w base spare held n 45 ((cs.drop 9).take (prog.cellsOf 45)) = some d := fld_of hf hxl 9 rfl
  rw [cells45] at h9
  obtain ⟨x9, r9, l9, q9⟩ := sl_of eI_i64 (fun _ => True) 1 underlying45 cells2 (fun _ => rfl) (by decide) (fun n cs d h => by obtain ⟨x, hx⟩ := int_of underlying2 h; exact ⟨x, hx, trivial⟩) h9
  refine ⟨⟨x0, x1, x2, x3, x4, x5, x6, x7, x8, x9⟩, ?_, ⟨l4, l7, l8, l9⟩⟩
  exact (RoL_cat (o := 0) (n := 1) r0 (RoL_cat (o := 1) (n := 1) r1 (RoL_cat (o := 2) (n := 1) r2 (RoL_cat (o := 3) (n := 1) r3 (RoL_cat (o := 4) (n := 1) r4 (RoL_cat (o := 5) (n := 1) r5 (RoL_cat (o := 6) (n := 1) r6 (RoL_cat (o := 7) (n := 1) r7 (RoL_cat (o := 8) (n := 1) r8 (RoL_end (o := 9) (n := 1) r9 hl))))))))))
theorem of_49 {fuel : Nat} {cs : List Value} {d : DataW H × List MemPlace} (h : DataW.trod enc prog w base spare held fuel 49 cs = some d) : ∃ x : Mail, RoL w (okW w) (eMail false x) cs ∧ qM x := by
  obtain ⟨xs, n, rfl, _, hl, hxl, hf⟩ := DataW.trod_struct underlying49 h
  rw [cells49] at hl
  obtain ⟨_, h0⟩ : ∃ d, DataW.trod enc prog w base spare held n 2 ((cs.drop 0).take (prog.cellsOf 2)) = some d := fld_of hf hxl 0 rfl
  rw [cells2] at h0
  obtain ⟨x0, r0⟩ := int_of underlying2 h0
  obtain ⟨_, h1⟩ : ∃ d, DataW.trod enc prog w base spare held n 2 ((cs.drop 1).take (prog.cellsOf 2)) = some d := fld_of hf hxl 1 rfl
  rw [cells2] at h1
  obtain ⟨x1, r1⟩ := int_of underlying2 h1
  obtain ⟨_, h2⟩ : ∃ d, DataW.trod enc prog w base spare held n 2 ((cs.drop 2).take (prog.cellsOf 2)) = some d := fld_of hf hxl 2 rfl
  rw [cells2] at h2
  obtain ⟨x2, r2⟩ := int_of underlying2 h2
  obtain ⟨_, h3⟩ : ∃ d, DataW.trod enc prog w base spare held n 2 ((cs.drop 3).take (prog.cellsOf 2)) = some d := fld_of hf hxl 3 rfl
  rw [cells2] at h3
  obtain ⟨x3, r3⟩ := int_of underlying2 h3
  obtain ⟨_, h4⟩ : ∃ d, DataW.trod enc prog w base spare held n 2 ((cs.drop 4).take (prog.cellsOf 2)) = some d := fld_of hf hxl 4 rfl
  rw [cells2] at h4
  obtain ⟨x4, r4⟩ := int_of underlying2 h4
  obtain ⟨_, h5⟩ : ∃ d, DataW.trod enc prog w base spare held n 2 ((cs.drop 5).take (prog.cellsOf 2)) = some d := fld_of hf hxl 5 rfl
  rw [cells2] at h5
  obtain ⟨x5, r5⟩ := int_of underlying2 h5
  obtain ⟨_, h6⟩ : ∃ d, DataW.trod enc prog w base spare held n 2 ((cs.drop 6).take (prog.cellsOf 2)) = some d := fld_of hf hxl 6 rfl
  rw [cells2] at h6
  obtain ⟨x6, r6⟩ := int_of underlying2 h6
  obtain ⟨_, h7⟩ : ∃ d, DataW.trod enc prog w base spare held n 4 ((cs.drop 7).take (prog.cellsOf 4)) = some d := fld_of hf hxl 7 rfl
  rw [cells4] at h7
  obtain ⟨x7, r7⟩ := bool_of underlying4 h7
  obtain ⟨_, h8⟩ : ∃ d, DataW.trod enc prog w base spare held n 44 ((cs.drop 8).take (prog.cellsOf 44)) = some d := fld_of hf hxl 8 rfl
  rw [cells44] at h8
  obtain ⟨x8, r8, l8, q8⟩ := sl_of eEntry (fun _ => True) 9 underlying44 cells134 (fun _ => rfl) (by decide) (fun n cs d h => of_134 h) h8
  refine ⟨⟨x0, x1, x2, x3, x4, x5, x6, x7, x8⟩, ?_, l8⟩
  exact (RoL_cat (o := 0) (n := 1) r0 (RoL_cat (o := 1) (n := 1) r1 (RoL_cat (o := 2) (n := 1) r2 (RoL_cat (o := 3) (n := 1) r3 (RoL_cat (o := 4) (n := 1) r4 (RoL_cat (o := 5) (n := 1) r5 (RoL_cat (o := 6) (n := 1) r6 (RoL_cat (o := 7) (n := 1) r7 (RoL_end (o := 8) (n := 1) r8 hl)))))))))
theorem of_129 {fuel : Nat} {cs : List Value} {d : DataW H × List MemPlace} (h : DataW.trod enc prog w base spare held fuel 129 cs = some d) : ∃ x : Won, RoL w (okW w) (eWon x) cs ∧ (fun _ => True) x := by
  obtain ⟨xs, n, rfl, _, hl, hxl, hf⟩ := DataW.trod_struct underlying129 h
  rw [cells129] at hl
  obtain ⟨_, h0⟩ : ∃ d, DataW.trod enc prog w base spare held n 2 ((cs.drop 0).take (prog.cellsOf 2)) = some d := fld_of hf hxl 0 rfl
  rw [cells2] at h0
  obtain ⟨x0, r0⟩ := int_of underlying2 h0
  obtain ⟨_, h1⟩ : ∃ d, DataW.trod enc prog w base spare held n 2 ((cs.drop 1).take (prog.cellsOf 2)) = some d := fld_of hf hxl 1 rfl
  rw [cells2] at h1
  obtain ⟨x1, r1⟩ := int_of underlying2 h1
  refine ⟨⟨x0, x1⟩, ?_, trivial⟩
  exact (RoL_cat (o := 0) (n := 1) r0 (RoL_end (o := 1) (n := 1) r1 hl))
theorem of_136 {fuel : Nat} {cs : List Value} {d : DataW H × List MemPlace} (h : DataW.trod enc prog w base spare held fuel 136 cs = some d) : ∃ x : Seal, RoL w (okW w) (eSeal x) cs ∧ (fun _ => True) x := by
  obtain ⟨xs, n, rfl, _, hl, hxl, hf⟩ := DataW.trod_struct underlying136 h
  rw [cells136] at hl
  obtain ⟨_, h0⟩ : ∃ d, DataW.trod enc prog w base spare held n 2 ((cs.drop 0).take (prog.cellsOf 2)) = some d := fld_of hf hxl 0 rfl
  rw [cells2] at h0
  obtain ⟨x0, r0⟩ := int_of underlying2 h0
  obtain ⟨_, h1⟩ : ∃ d, DataW.trod enc prog w base spare held n 134 ((cs.drop 1).take (prog.cellsOf 134)) = some d := fld_of hf hxl 1 rfl
  rw [cells134] at h1
  obtain ⟨x1, r1, q1⟩ := of_134 h1
  refine ⟨⟨x0, x1⟩, ?_, trivial⟩
  exact (RoL_cat (o := 0) (n := 1) r0 (RoL_end (o := 1) (n := 9) r1 hl))
theorem of_27 {fuel : Nat} {cs : List Value} {d : DataW H × List MemPlace} (h : DataW.trod enc prog w base spare held fuel 27 cs = some d) : ∃ x : Cluster, RoL w (okW w) (eCluster false x) cs ∧ qC x := by
  obtain ⟨xs, n, rfl, _, hl, hxl, hf⟩ := DataW.trod_struct underlying27 h
  rw [cells27] at hl
  obtain ⟨_, h0⟩ : ∃ d, DataW.trod enc prog w base spare held n 22 ((cs.drop 0).take (prog.cellsOf 22)) = some d := fld_of hf hxl 0 rfl
  rw [cells22] at h0
  obtain ⟨x0, r0, l0, q0⟩ := sl_of (eNode false) qN 10 underlying22 cells47 (fun _ => rfl) (by decide) (fun n cs d h => of_47 h) h0
  obtain ⟨_, h1⟩ : ∃ d, DataW.trod enc prog w base spare held n 23 ((cs.drop 1).take (prog.cellsOf 23)) = some d := fld_of hf hxl 1 rfl
  rw [cells23] at h1
  obtain ⟨x1, r1, l1, q1⟩ := sl_of (eMail false) qM 9 underlying23 cells49 (fun _ => rfl) (by decide) (fun n cs d h => of_49 h) h1
  obtain ⟨_, h2⟩ : ∃ d, DataW.trod enc prog w base spare held n 24 ((cs.drop 2).take (prog.cellsOf 24)) = some d := fld_of hf hxl 2 rfl
  rw [cells24] at h2
  obtain ⟨x2, r2, l2, q2⟩ := sl_of eWon (fun _ => True) 2 underlying24 cells129 (fun _ => rfl) (by decide) (fun n cs d h => of_129 h) h2
  obtain ⟨_, h3⟩ : ∃ d, DataW.trod enc prog w base spare held n 25 ((cs.drop 3).take (prog.cellsOf 25)) = some d := fld_of hf hxl 3 rfl
  rw [cells25] at h3
  obtain ⟨x3, r3, l3, q3⟩ := sl_of eSeal (fun _ => True) 10 underlying25 cells136 (fun _ => rfl) (by decide) (fun n cs d h => of_136 h) h3
  refine ⟨⟨x0, x1, x2, x3⟩, ?_, ⟨⟨l0, q0⟩, ⟨l1, q1⟩, l2, l3⟩⟩
  exact (RoL_cat (o := 0) (n := 1) r0 (RoL_cat (o := 1) (n := 1) r1 (RoL_cat (o := 2) (n := 1) r2 (RoL_end (o := 3) (n := 1) r3 hl))))
end
end Go.H
end
section
set_option maxRecDepth 100000
set_option linter.unusedVariables false
set_option linter.unusedSimpArgs false
namespace Go.H
open Go Go.Proofs.Tryz
def c_laws_szEntryS : SC :=
.seq (rg [
  ss 4 (.mv (.i .i64 0))] [0, 1])
  (.seq (rg [
  ss 5 (.mv (.t 1)),
  ss 6 (.mv (.t 0)),
  sk 7 32768 (.len (.t 6)),
  sh 8 1 (.bin .sub (.t 5) (.t 7)),
  ss 1 (.mv (.t 8))] [1])
  (.seq (.seq (rg [
  ss 9 (.mv (.t 1)),
  ss 10 (.bin .lss (.t 9) (.i .i64 0))] [1, 10])
  (.cond (.t 10) (.seq (rg [
  ss 4 (.mv (.i .i64 (-1)))] [4])
  (.ret))
  (.skip)))
  (.seq (rg [
  ss 11 (.mv (.t 1)),
  ss 4 (.mv (.t 11))] [4])
  (.ret))))
theorem b_laws_szEntryS : ∃ c, f73.body = some c ∧ compC prog 12 c = some c_laws_szEntryS.er ∧ drawB c c_laws_szEntryS = true := ⟨_, rfl, by kernel_rfl, by kernel_rfl⟩
theorem r_laws_szEntryS : cmpR prog [.tmp 4] = some [.t 4] := by kernel_rfl
theorem q_laws_szEntryS : callB prog F.laws_szEntryS = true := by kernel_rfl
variable [Inv prog]
theorem s_laws_szEntryS (rows : List (List T)) (l : Int) (h0 : -1 ≤ l) (h1 : l ≤ 1048576) (hl : rows.length ≤ 9223372036854775807) : SemX prog F.laws_szEntryS [aT (.sl false 9 rows), aI l] [] [rI (szL rows.length l)] [] := by
  obtain ⟨cc, g1, g2, g3⟩ := b_laws_szEntryS
  refine SemX.of_code func73 g1 (by rw [ntmps73]; exact g2) g3 (by rw [results73]; exact r_laws_szEntryS) (by rw [ntmps73]; exact Nat.le_of_ble_eq_true rfl) (Nat.le_of_ble_eq_true rfl) (by simp) (by simp [argOk, aT, aI, aS]) ?_
  unfold c_laws_szEntryS
  simp only [rg]
  refine W_reg (by simp only [go_sem]; exact rfl) ?_
  refine W_reg (by simp only [go_sem] <;> and_intros <;> first | with_reducible exact rfl | omega | with_reducible trivial | (intros; simp_all; done) | grind) ?_
  refine CW_assoc ?_
  refine W_reg (by simp only [go_sem]; exact rfl) ?_
  refine CW_seq ?_
  refine CW_cond (by simp only [go_sem]; exact rfl) (fun c0 => ?_) (fun c0 => ?_)
  · skip
    try simp only [b1, b2, b3, b4, b5, b6, b7] at c0
    refine W_reg (by simp only [go_sem]; exact rfl) ?_
    refine CW_ret ?_
    refine sq_r ?_
    simp only [go_sem]
    all_goals try first | refine int_res ?_ | refine bool_res ?_
    all_goals
      simp [szL, *]
  · skip
    try simp only [b1, b2, b3, b4, b5, b6, b7] at c0
    refine CW_skip ?_
    refine sq_n ?_
    refine W_reg (by simp only [go_sem]; exact rfl) ?_
    refine CW_ret ?_
    simp only [go_sem]
    all_goals try first | refine int_res ?_ | refine bool_res ?_
    all_goals
      simp [szL, *]
end Go.H
end
section
set_option maxRecDepth 100000
set_option linter.unusedVariables false
set_option linter.unusedSimpArgs false
namespace Go.H
open Go Go.Proofs.Tryz
def c_laws_szInt64S : SC :=
.seq (rg [
  ss 4 (.mv (.i .i64 0))] [0, 1])
  (.seq (rg [
  ss 5 (.mv (.t 1)),
  ss 6 (.mv (.t 0)),
  sk 7 32768 (.len (.t 6)),
  sh 8 1 (.bin .sub (.t 5) (.t 7)),
  ss 1 (.mv (.t 8))] [1])
  (.seq (.seq (rg [
  ss 9 (.mv (.t 1)),
  ss 10 (.bin .lss (.t 9) (.i .i64 0))] [1, 10])
  (.cond (.t 10) (.seq (rg [
  ss 4 (.mv (.i .i64 (-1)))] [4])
  (.ret))
  (.skip)))
  (.seq (rg [
  ss 11 (.mv (.t 1)),
  ss 4 (.mv (.t 11))] [4])
  (.ret))))
theorem b_laws_szInt64S : ∃ c, f74.body = some c ∧ compC prog 12 c = some c_laws_szInt64S.er ∧ drawB c c_laws_szInt64S = true := ⟨_, rfl, by kernel_rfl, by kernel_rfl⟩
theorem r_laws_szInt64S : cmpR prog [.tmp 4] = some [.t 4] := by kernel_rfl
theorem q_laws_szInt64S : callB prog F.laws_szInt64S = true := by kernel_rfl
variable [Inv prog]
theorem s_laws_szInt64S (rows : List (List T)) (l : Int) (h0 : -1 ≤ l) (h1 : l ≤ 1048576) (hl : rows.length ≤ 9223372036854775807) : SemX prog F.laws_szInt64S [aT (.sl false 1 rows), aI l] [] [rI (szL rows.length l)] [] := by
  obtain ⟨cc, g1, g2, g3⟩ := b_laws_szInt64S
  refine SemX.of_code func74 g1 (by rw [ntmps74]; exact g2) g3 (by rw [results74]; exact r_laws_szInt64S) (by rw [ntmps74]; exact Nat.le_of_ble_eq_true rfl) (Nat.le_of_ble_eq_true rfl) (by simp) (by simp [argOk, aT, aI, aS]) ?_
  unfold c_laws_szInt64S
  simp only [rg]
  refine W_reg (by simp only [go_sem]; exact rfl) ?_
  refine W_reg (by simp only [go_sem] <;> and_intros <;> first | with_reducible exact rfl | omega | with_reducible trivial | (intros; simp_all; done) | grind) ?_
  refine CW_assoc ?_
  refine W_reg (by simp only [go_sem]; exact rfl) ?_
  refine CW_seq ?_
  refine CW_cond (by simp only [go_sem]; exact rfl) (fun c0 => ?_) (fun c0 => ?_)
  · skip
    try simp only [b1, b2, b3, b4, b5, b6, b7] at c0
    refine W_reg (by simp only [go_sem]; exact rfl) ?_
    refine CW_ret ?_
    refine sq_r ?_
    simp only [go_sem]
    all_goals try first | refine int_res ?_ | refine bool_res ?_
    all_goals
      simp [szL, *]
  · skip
    try simp only [b1, b2, b3, b4, b5, b6, b7] at c0
    refine CW_skip ?_
    refine sq_n ?_
    refine W_reg (by simp only [go_sem]; exact rfl) ?_
    refine CW_ret ?_
    simp only [go_sem]
    all_goals try first | refine int_res ?_ | refine bool_res ?_
    all_goals
      simp [szL, *]
end Go.H
end
section
set_option maxRecDepth 100000
set_option linter.unusedVariables false
set_option linter.unusedSimpArgs false
namespace Go.H
open Go Go.Proofs.Tryz
def c_laws_szNode : SC :=
.seq (rg [
  sk 2 12288 (.box (.t 0)),
  ss 4 (.mv (.i .i64 0))] [1, 2])
  (.seq (rg [
  ss 5 (.fad (.t 2) 4),
  ss 6 (.load (.t 5) 1 false),
  ss 7 (.mv (.t 1)),
  sk 8 36864 (.call (.f F.laws_szEntryS) [(.t 6, none), (.t 7, none)]),
  ss 1 (.mv (.t 8))] [1, 2])
  (.seq (.seq (rg [
  ss 9 (.mv (.t 1)),
  ss 10 (.bin .lss (.t 9) (.i .i64 0))] [1, 2, 10])
  (.cond (.t 10) (.seq (rg [
  ss 4 (.mv (.i .i64 (-1)))] [4])
  (.ret))
  (.skip)))
  (.seq (rg [
  ss 11 (.fad (.t 2) 7),
  ss 12 (.load (.t 11) 1 false),
  ss 13 (.mv (.t 1)),
  sk 14 61440 (.call (.f F.laws_szInt64S) [(.t 12, none), (.t 13, none)]),
  ss 1 (.mv (.t 14))] [1, 2])
  (.seq (.seq (rg [
  ss 15 (.mv (.t 1)),
  ss 16 (.bin .lss (.t 15) (.i .i64 0))] [1, 2, 16])
  (.cond (.t 16) (.seq (rg [
  ss 4 (.mv (.i .i64 (-1)))] [4])
  (.ret))
  (.skip)))
  (.seq (rg [
  ss 17 (.fad (.t 2) 8),
  ss 18 (.load (.t 17) 1 false),
  ss 19 (.mv (.t 1)),
  sk 20 86016 (.call (.f F.laws_szInt64S) [(.t 18, none), (.t 19, none)]),
  ss 1 (.mv (.t 20))] [1, 2])
  (.seq (.seq (rg [
  ss 21 (.mv (.t 1)),
  ss 22 (.bin .lss (.t 21) (.i .i64 0))] [1, 2, 22])
  (.cond (.t 22) (.seq (rg [
  ss 4 (.mv (.i .i64 (-1)))] [4])
  (.ret))
  (.skip)))
  (.seq (rg [
  ss 23 (.fad (.t 2) 9),
  ss 24 (.load (.t 23) 1 false),
  ss 25 (.mv (.t 1)),
  sk 26 110592 (.call (.f F.laws_szInt64S) [(.t 24, none), (.t 25, none)]),
  ss 1 (.mv (.t 26))] [1])
  (.seq (.seq (rg [
  ss 27 (.mv (.t 1)),
  ss 28 (.bin .lss (.t 27) (.i .i64 0))] [1, 28])
  (.cond (.t 28) (.seq (rg [
  ss 4 (.mv (.i .i64 (-1)))] [4])
  (.ret))
  (.skip)))
  (.seq (rg [
  ss 29 (.mv (.t 1)),
  ss 4 (.mv (.t 29))] [4])
  (.ret))))))))))
theorem b_laws_szNode : ∃ c, f22.body = some c ∧ compC prog 30 c = some c_laws_szNode.er ∧ drawB c c_laws_szNode = true := ⟨_, rfl, by kernel_rfl, by kernel_rfl⟩
theorem r_laws_szNode : cmpR prog [.tmp 4] = some [.t 4] := by kernel_rfl
theorem q_laws_szNode : callB prog F.laws_szNode = true := by kernel_rfl
variable [Inv prog]
theorem s_laws_szNode (x : Node) (l : Int) (h0 : -1 ≤ l) (h1 : l ≤ 1048576) (hx : x.log.length ≤ 9223372036854775807 ∧ x.votes.length ≤ 9223372036854775807 ∧ x.next.length ≤ 9223372036854775807 ∧ x.match_.length ≤ 9223372036854775807) : SemX prog F.laws_szNode [aS (eNode false x), aI l] [] [rI (szNode x l)] [] := by
  obtain ⟨cc, g1, g2, g3⟩ := b_laws_szNode
  refine SemX.of_code func22 g1 (by rw [ntmps22]; exact g2) g3 (by rw [results22]; exact r_laws_szNode) (by rw [ntmps22]; exact Nat.le_of_ble_eq_true rfl) (Nat.le_of_ble_eq_true rfl) (by simp) (by simp [argOk, aT, aI, aS, eNode]) ?_
  unfold c_laws_szNode
  simp only [rg]
  refine W_reg (by simp only [go_sem, eNode]; exact rfl) ?_
  refine W_reg (by
    refine RW_cut 3 (by simp only [go_sem, eNode]; exact rfl) ?_
    refine RW_ls (by simp only [List.drop_succ_cons, List.drop_zero]; exact rfl) ?_
    refine RW_callN q_laws_szEntryS (s_laws_szEntryS (x.log.map eEntry) (l) h0 h1 (by simp only [List.length_map]; omega)) true [] [] [] rfl rfl (by simp only [go_sem, eNode]; exact rfl) (by rfl) (by simp only [go_sem, eNode]; exact rfl) ?_
    simp only [go_sem, eNode]; exact rfl) ?_
  refine CW_assoc ?_
  refine W_reg (by simp only [go_sem, eNode]; exact rfl) ?_
  refine CW_seq ?_
  refine CW_cond (by simp only [go_sem, eNode]; exact rfl) (fun c0 => ?_) (fun c0 => ?_)
  · skip
    try simp only [b1, b2, b3, b4, b5, b6, b7] at c0
    refine W_reg (by simp only [go_sem, eNode]; exact rfl) ?_
    refine CW_ret ?_
    refine sq_r ?_
    simp only [go_sem, eNode]
    all_goals try first | refine int_res ?_ | refine bool_res ?_
    all_goals
      simp [szNode, szT, *]
  · skip
    try simp only [b1, b2, b3, b4, b5, b6, b7] at c0
    refine CW_skip ?_
    refine sq_n ?_
    refine W_reg (by
      refine RW_cut 3 (by simp only [go_sem, eNode]; exact rfl) ?_
      refine RW_ls (by simp only [List.drop_succ_cons, List.drop_zero]; exact rfl) ?_
      refine RW_callN q_laws_szInt64S (s_laws_szInt64S (x.votes.map eI_i64) (szL x.log.length l) (by omega) (szL_hi h1 (by omega)) (by simp only [List.length_map]; omega)) true [] [] [] rfl rfl (by simp only [go_sem, eNode]; exact rfl) (by rfl) (by simp only [go_sem, eNode]; exact rfl) ?_
      simp only [go_sem, eNode]; exact rfl) ?_
    refine CW_assoc ?_
    refine W_reg (by simp only [go_sem, eNode]; exact rfl) ?_
    refine CW_seq ?_
    refine CW_cond (by simp only [go_sem, eNode]; exact rfl) (fun c1 => ?_) (fun c1 => ?_)
    · skip
      try simp only [b1, b2, b3, b4, b5, b6, b7] at c1
      refine W_reg (by simp only [go_sem, eNode]; exact rfl) ?_
      refine CW_ret ?_
      refine sq_r ?_
      simp only [go_sem, eNode]
      all_goals try first | refine int_res ?_ | refine bool_res ?_
      all_goals
        simp [szNode, szT, *]
    · skip
      try simp only [b1, b2, b3, b4, b5, b6, b7] at c1
      refine CW_skip ?_
      refine sq_n ?_
      refine W_reg (by
        refine RW_cut 3 (by simp only [go_sem, eNode]; exact rfl) ?_
        refine RW_ls (by simp only [List.drop_succ_cons, List.drop_zero]; exact rfl) ?_
        refine RW_callN q_laws_szInt64S (s_laws_szInt64S (x.next.map eI_i64) (szL x.votes.length (szL x.log.length l)) (by omega) (szL_hi (szL_hi h1 (by omega)) (by omega)) (by simp only [List.length_map]; omega)) true [] [] [] rfl rfl (by simp only [go_sem, eNode]; exact rfl) (by rfl) (by simp only [go_sem, eNode]; exact rfl) ?_
        simp only [go_sem, eNode]; exact rfl) ?_
      refine CW_assoc ?_
      refine W_reg (by simp only [go_sem, eNode]; exact rfl) ?_
      refine CW_seq ?_
      refine CW_cond (by simp only [go_sem, eNode]; exact rfl) (fun c2 => ?_) (fun c2 => ?_)
      · skip
        try simp only [b1, b2, b3, b4, b5, b6, b7] at c2
        refine W_reg (by simp only [go_sem, eNode]; exact rfl) ?_
        refine CW_ret ?_
        refine sq_r ?_
        simp only [go_sem, eNode]
        all_goals try first | refine int_res ?_ | refine bool_res ?_
        all_goals
          simp [szNode, szT, *]
      · skip
        try simp only [b1, b2, b3, b4, b5, b6, b7] at c2
        refine CW_skip ?_
        refine sq_n ?_
        refine W_reg (by
          refine RW_cut 3 (by simp only [go_sem, eNode]; exact rfl) ?_
          refine RW_ls (by simp only [List.drop_succ_cons, List.drop_zero]; exact rfl) ?_
          refine RW_callN q_laws_szInt64S (s_laws_szInt64S (x.match_.map eI_i64) (szL x.next.length (szL x.votes.length (szL x.log.length l))) (by omega) (szL_hi (szL_hi (szL_hi h1 (by omega)) (by omega)) (by omega)) (by simp only [List.length_map]; omega)) true [] [] [] rfl rfl (by simp only [go_sem, eNode]; exact rfl) (by rfl) (by simp only [go_sem, eNode]; exact rfl) ?_
          simp only [go_sem, eNode]; exact rfl) ?_
        refine CW_assoc ?_
        refine W_reg (by simp only [go_sem, eNode]; exact rfl) ?_
        refine CW_seq ?_
        refine CW_cond (by simp only [go_sem, eNode]; exact rfl) (fun c3 => ?_) (fun c3 => ?_)
        · skip
          try simp only [b1, b2, b3, b4, b5, b6, b7] at c3
          refine W_reg (by simp only [go_sem, eNode]; exact rfl) ?_
          refine CW_ret ?_
          refine sq_r ?_
          simp only [go_sem, eNode]
          all_goals try first | refine int_res ?_ | refine bool_res ?_
          all_goals
            simp [szNode, szT, *]
        · skip
          try simp only [b1, b2, b3, b4, b5, b6, b7] at c3
          refine CW_skip ?_
          refine sq_n ?_
          refine W_reg (by simp only [go_sem, eNode]; exact rfl) ?_
          refine CW_ret ?_
          simp only [go_sem, eNode]
          all_goals try first | refine int_res ?_ | refine bool_res ?_
          all_goals
            simp [szNode, szT, *]
end Go.H
end
section
set_option maxRecDepth 100000
set_option linter.unusedVariables false
set_option linter.unusedSimpArgs false
namespace Go.H
open Go Go.Proofs.Tryz
def c_laws_szNodeS : SC :=
.seq (rg [
  ss 4 (.mv (.i .i64 0))] [0, 1])
  (.seq (rg [
  ss 6 (.mv (.t 1)),
  ss 7 (.mv (.t 0)),
  sk 8 36864 (.len (.t 7)),
  sh 9 1 (.bin .sub (.t 6) (.t 8)),
  ss 1 (.mv (.t 9))] [0, 1])
  (.seq (.seq (rg [
  ss 10 (.mv (.t 1)),
  ss 11 (.bin .lss (.t 10) (.i .i64 0))] [0, 1, 11])
  (.cond (.t 11) (.seq (rg [
  ss 4 (.mv (.i .i64 (-1)))] [4])
  (.ret))
  (.skip)))
  (.seq (.seq (rg [
  ss 5 (.mv (.i .i64 0))] [0, 1, 5])
  (.block 0 (.loop (.seq (.seq (rg [
  ss 12 (.mv (.t 5)),
  ss 13 (.mv (.t 0)),
  sk 14 61440 (.len (.t 13)),
  ss 15 (.bin .lss (.t 12) (.t 14))] [0, 1, 5, 15])
  (.cond (.t 15) (.skip)
  (.exit 0)))
  (.seq (.block 1 (.seq (rg [
  ss 18 (.mv (.t 0)),
  ss 19 (.mv (.t 5)),
  sd (some 20) 0 0 (dNode false) (.idx (.t 18) (.t 19) 10),
  sd (some 21) 0 0 (dNode true) (.load (.t 20) 10 true),
  ss 22 (.mv (.t 1)),
  sk 23 98304 (.call (.f F.laws_szNode) [(.t 21, none), (.t 22, none)]),
  ss 1 (.mv (.t 23))] [0, 1, 5])
  (.seq (rg [
  ss 24 (.mv (.t 1)),
  ss 25 (.bin .lss (.t 24) (.i .i64 0))] [0, 1, 5, 25])
  (.cond (.t 25) (.seq (rg [
  ss 4 (.mv (.i .i64 (-1)))] [4])
  (.ret))
  (.skip)))))
  (rg [
  ss 16 (.mv (.t 5)),
  sh 17 1 (.bin .add (.t 16) (.i .i64 1)),
  ss 5 (.mv (.t 17))] [0, 1, 5]))))))
  (.seq (rg [
  ss 26 (.mv (.t 1)),
  ss 4 (.mv (.t 26))] [4])
  (.ret)))))
theorem b_laws_szNodeS : ∃ c, f46.body = some c ∧ compC prog 27 c = some c_laws_szNodeS.er ∧ drawB c c_laws_szNodeS = true := ⟨_, rfl, by kernel_rfl, by kernel_rfl⟩
theorem r_laws_szNodeS : cmpR prog [.tmp 4] = some [.t 4] := by kernel_rfl
theorem q_laws_szNodeS : callB prog F.laws_szNodeS = true := by kernel_rfl
variable [Inv prog]
theorem s_laws_szNodeS (xs : List Node) (l : Int) (h0 : -1 ≤ l) (h1 : l ≤ 1048576) (hl : xs.length ≤ 9223372036854775807) (hm : ∀ i < xs.length, (xs.getD i zNode).log.length ≤ 9223372036854775807 ∧ (xs.getD i zNode).votes.length ≤ 9223372036854775807 ∧ (xs.getD i zNode).next.length ≤ 9223372036854775807 ∧ (xs.getD i zNode).match_.length ≤ 9223372036854775807) : SemX prog F.laws_szNodeS [aT (.sl false 10 (xs.map (eNode false))), aI l] [] [rI (szNs xs l)] [] := by
  obtain ⟨cc, g1, g2, g3⟩ := b_laws_szNodeS
  refine SemX.of_code func46 g1 (by rw [ntmps46]; exact g2) g3 (by rw [results46]; exact r_laws_szNodeS) (by rw [ntmps46]; exact Nat.le_of_ble_eq_true rfl) (Nat.le_of_ble_eq_true rfl) (by simp) (by simp [argOk, aT, aI, aS, eNode]) ?_
  unfold c_laws_szNodeS
  simp only [rg]
  refine W_reg (by simp only [go_sem, eNode]; exact rfl) ?_
  refine W_reg (by simp only [go_sem, eNode] <;> and_intros <;> first | with_reducible exact rfl | omega | with_reducible trivial | (intros; simp_all; done) | grind) ?_
  refine CW_assoc ?_
  refine W_reg (by simp only [go_sem, eNode]; exact rfl) ?_
  refine CW_seq ?_
  refine CW_cond (by simp only [go_sem, eNode]; exact rfl) (fun c0 => ?_) (fun c0 => ?_)
  · skip
    try simp only [b1, b2, b3, b4, b5, b6, b7] at c0
    refine W_reg (by simp only [go_sem, eNode]; exact rfl) ?_
    refine CW_ret ?_
    refine sq_r ?_
    simp only [go_sem, eNode]
    all_goals try first | refine int_res ?_ | refine bool_res ?_
    all_goals
      simp [szNs, szMs, szL, szT, *]
  · skip
    try simp only [b1, b2, b3, b4, b5, b6, b7] at c0
    refine CW_skip ?_
    refine sq_n ?_
    refine CW_assoc ?_
    refine W_reg (by simp only [go_sem, eNode]; exact rfl) ?_
    refine CW_seq ?_
    refine CW_block ?_
    refine CW_loopS (α := (Nat × Int)) (fun x => [(1, .int .i64 x.2), (5, .int .i64 x.1)]) (fun x => []) (fun x => xs.length - x.1) (fun x => x.1 ≤ xs.length ∧ -1 ≤ x.2 ∧ x.2 ≤ 1048576 ∧ szNodes xs (szL xs.length l) = szNodes (xs.drop x.1) x.2) (0, szL xs.length l) [] ?_ ?_ ?_
    · (simp only [go_sem, eNode] <;> and_intros <;> first | with_reducible exact rfl | (first | omega | (simp [szL, *]; done)))
    · refine ⟨Nat.zero_le _, szL_lo _ _, szL_hi h1 (by omega), rfl⟩
    · rintro ⟨i, m⟩ ⟨hi, hm1, hm2, he⟩
      try dsimp only at *
      refine CW_eq (by simp only [go_sem, eNode]; exact rfl) ?_
      refine CW_assoc ?_
      refine W_reg (by simp only [go_sem, eNode]; exact rfl) ?_
      refine CW_seq ?_
      refine CW_cond (by simp only [go_sem, eNode]; exact rfl) (fun c1 => ?_) (fun c1 => ?_)
      · skip
        try simp only [b1, b2, b3, b4, b5, b6, b7] at c1
        refine CW_skip ?_
        refine sq_n ?_
        refine CW_seq ?_
        refine CW_block ?_
        refine W_reg (by
          refine RW_cut 5 (by simp only [go_sem, eNode] <;> and_intros <;> first | with_reducible exact rfl | omega | with_reducible trivial | (intros; simp_all; done) | grind) ?_
          refine RW_ls (by simp only [List.drop_succ_cons, List.drop_zero]; exact rfl) ?_
          refine RW_callN q_laws_szNode (s_laws_szNode (xs.getD i zNode) m hm1 hm2 (hm i (by omega))) true [] [] [] rfl rfl (by simp only [go_sem, eNode]; exact rfl) (by rfl) (by simp only [go_sem, eNode]; exact rfl) ?_
          simp only [go_sem, eNode]; exact rfl) ?_
        refine W_reg (by simp only [go_sem, eNode]; exact rfl) ?_
        refine CW_cond (by simp only [go_sem, eNode]; exact rfl) (fun c2 => ?_) (fun c2 => ?_)
        · skip
          try simp only [b1, b2, b3, b4, b5, b6, b7] at c2
          refine W_reg (by simp only [go_sem, eNode]; exact rfl) ?_
          refine CW_ret ?_
          refine bk_r ?_
          refine sq_r ?_
          refine lp_r ?_
          refine bk_r ?_
          refine sq_r ?_
          simp only [go_sem, eNode]
          all_goals try first | refine int_res ?_ | refine bool_res ?_
          all_goals
            have := szL_lo xs.length l
            rw [szNs, szT, if_neg (by unfold szL; split <;> omega), he, drop_getD zNode (by omega)]
            simp [szNodes, szT, *, -List.getD_eq_getElem?_getD]
        · skip
          try simp only [b1, b2, b3, b4, b5, b6, b7] at c2
          refine CW_skip ?_
          refine bk_n ?_
          refine sq_n ?_
          refine W_regn (by simp only [go_sem, eNode] <;> and_intros <;> first | with_reducible exact rfl | omega | with_reducible trivial | (intros; simp_all; done) | grind) ?_
          refine lp_next (i + 1, szNode (xs.getD i zNode) m) [] ?_ ?_ ?_
          · (simp only [go_sem, eNode])
          · refine ⟨by omega, (szNode_lo _ _ hm2).1, (szNode_lo _ _ hm2).2, ?_⟩
            rw [he, drop_getD zNode (by omega)]
            simp [szNodes, szT, *, -List.getD_eq_getElem?_getD]
          · try dsimp only
            omega
      · skip
        simp only [decide_eq_false_iff_not] at c1
        obtain rfl : i = xs.length := by omega
        refine CW_exit ?_
        refine sq_e ?_
        refine lp_e ?_
        refine bk_i ?_
        refine sq_n ?_
        refine W_reg (by simp only [go_sem, eNode]; exact rfl) ?_
        refine CW_ret ?_
        simp only [go_sem, eNode]
        all_goals try first | refine int_res ?_ | refine bool_res ?_
        all_goals
          rw [szNs, szT, if_neg (by unfold szL; split <;> omega), he]
          simp [szNodes]
end Go.H
end
section
set_option maxRecDepth 100000
set_option linter.unusedVariables false
set_option linter.unusedSimpArgs false
namespace Go.H
open Go Go.Proofs.Tryz
def c_laws_szMail : SC :=
.seq (rg [
  sk 2 12288 (.box (.t 0)),
  ss 4 (.mv (.i .i64 0))] [1, 2])
  (.seq (rg [
  ss 5 (.fad (.t 2) 8),
  ss 6 (.load (.t 5) 1 false),
  ss 7 (.mv (.t 1)),
  sk 8 36864 (.call (.f F.laws_szEntryS) [(.t 6, none), (.t 7, none)]),
  ss 1 (.mv (.t 8))] [1])
  (.seq (.seq (rg [
  ss 9 (.mv (.t 1)),
  ss 10 (.bin .lss (.t 9) (.i .i64 0))] [1, 10])
  (.cond (.t 10) (.seq (rg [
  ss 4 (.mv (.i .i64 (-1)))] [4])
  (.ret))
  (.skip)))
  (.seq (rg [
  ss 11 (.mv (.t 1)),
  ss 4 (.mv (.t 11))] [4])
  (.ret))))
theorem b_laws_szMail : ∃ c, f23.body = some c ∧ compC prog 12 c = some c_laws_szMail.er ∧ drawB c c_laws_szMail = true := ⟨_, rfl, by kernel_rfl, by kernel_rfl⟩
theorem r_laws_szMail : cmpR prog [.tmp 4] = some [.t 4] := by kernel_rfl
theorem q_laws_szMail : callB prog F.laws_szMail = true := by kernel_rfl
variable [Inv prog]
theorem s_laws_szMail (x : Mail) (l : Int) (h0 : -1 ≤ l) (h1 : l ≤ 1048576) (hx : x.entries.length ≤ 9223372036854775807) : SemX prog F.laws_szMail [aS (eMail false x), aI l] [] [rI (szMail x l)] [] := by
  obtain ⟨cc, g1, g2, g3⟩ := b_laws_szMail
  refine SemX.of_code func23 g1 (by rw [ntmps23]; exact g2) g3 (by rw [results23]; exact r_laws_szMail) (by rw [ntmps23]; exact Nat.le_of_ble_eq_true rfl) (Nat.le_of_ble_eq_true rfl) (by simp) (by simp [argOk, aT, aI, aS, eMail]) ?_
  unfold c_laws_szMail
  simp only [rg]
  refine W_reg (by simp only [go_sem, eMail]; exact rfl) ?_
  refine W_reg (by
    refine RW_cut 3 (by simp only [go_sem, eMail]; exact rfl) ?_
    refine RW_ls (by simp only [List.drop_succ_cons, List.drop_zero]; exact rfl) ?_
    refine RW_callN q_laws_szEntryS (s_laws_szEntryS (x.entries.map eEntry) (l) h0 h1 (by simp only [List.length_map]; omega)) true [] [] [] rfl rfl (by simp only [go_sem, eMail]; exact rfl) (by rfl) (by simp only [go_sem, eMail]; exact rfl) ?_
    simp only [go_sem, eMail]; exact rfl) ?_
  refine CW_assoc ?_
  refine W_reg (by simp only [go_sem, eMail]; exact rfl) ?_
  refine CW_seq ?_
  refine CW_cond (by simp only [go_sem, eMail]; exact rfl) (fun c0 => ?_) (fun c0 => ?_)
  · skip
    try simp only [b1, b2, b3, b4, b5, b6, b7] at c0
    refine W_reg (by simp only [go_sem, eMail]; exact rfl) ?_
    refine CW_ret ?_
    refine sq_r ?_
    simp only [go_sem, eMail]
    all_goals try first | refine int_res ?_ | refine bool_res ?_
    all_goals
      simp [szMail, szT, *]
  · skip
    try simp only [b1, b2, b3, b4, b5, b6, b7] at c0
    refine CW_skip ?_
    refine sq_n ?_
    refine W_reg (by simp only [go_sem, eMail]; exact rfl) ?_
    refine CW_ret ?_
    simp only [go_sem, eMail]
    all_goals try first | refine int_res ?_ | refine bool_res ?_
    all_goals
      simp [szMail, szT, *]
end Go.H
end
section
set_option maxRecDepth 100000
set_option linter.unusedVariables false
set_option linter.unusedSimpArgs false
namespace Go.H
open Go Go.Proofs.Tryz
def c_laws_szMailS : SC :=
.seq (rg [
  ss 4 (.mv (.i .i64 0))] [0, 1])
  (.seq (rg [
  ss 6 (.mv (.t 1)),
  ss 7 (.mv (.t 0)),
  sk 8 36864 (.len (.t 7)),
  sh 9 1 (.bin .sub (.t 6) (.t 8)),
  ss 1 (.mv (.t 9))] [0, 1])
  (.seq (.seq (rg [
  ss 10 (.mv (.t 1)),
  ss 11 (.bin .lss (.t 10) (.i .i64 0))] [0, 1, 11])
  (.cond (.t 11) (.seq (rg [
  ss 4 (.mv (.i .i64 (-1)))] [4])
  (.ret))
  (.skip)))
  (.seq (.seq (rg [
  ss 5 (.mv (.i .i64 0))] [0, 1, 5])
  (.block 0 (.loop (.seq (.seq (rg [
  ss 12 (.mv (.t 5)),
  ss 13 (.mv (.t 0)),
  sk 14 61440 (.len (.t 13)),
  ss 15 (.bin .lss (.t 12) (.t 14))] [0, 1, 5, 15])
  (.cond (.t 15) (.skip)
  (.exit 0)))
  (.seq (.block 1 (.seq (rg [
  ss 18 (.mv (.t 0)),
  ss 19 (.mv (.t 5)),
  sd (some 20) 0 0 (dMail false) (.idx (.t 18) (.t 19) 9),
  sd (some 21) 0 0 (dMail true) (.load (.t 20) 9 true),
  ss 22 (.mv (.t 1)),
  sk 23 98304 (.call (.f F.laws_szMail) [(.t 21, none), (.t 22, none)]),
  ss 1 (.mv (.t 23))] [0, 1, 5])
  (.seq (rg [
  ss 24 (.mv (.t 1)),
  ss 25 (.bin .lss (.t 24) (.i .i64 0))] [0, 1, 5, 25])
  (.cond (.t 25) (.seq (rg [
  ss 4 (.mv (.i .i64 (-1)))] [4])
  (.ret))
  (.skip)))))
  (rg [
  ss 16 (.mv (.t 5)),
  sh 17 1 (.bin .add (.t 16) (.i .i64 1)),
  ss 5 (.mv (.t 17))] [0, 1, 5]))))))
  (.seq (rg [
  ss 26 (.mv (.t 1)),
  ss 4 (.mv (.t 26))] [4])
  (.ret)))))
theorem b_laws_szMailS : ∃ c, f47.body = some c ∧ compC prog 27 c = some c_laws_szMailS.er ∧ drawB c c_laws_szMailS = true := ⟨_, rfl, by kernel_rfl, by kernel_rfl⟩
theorem r_laws_szMailS : cmpR prog [.tmp 4] = some [.t 4] := by kernel_rfl
theorem q_laws_szMailS : callB prog F.laws_szMailS = true := by kernel_rfl
variable [Inv prog]
theorem s_laws_szMailS (xs : List Mail) (l : Int) (h0 : -1 ≤ l) (h1 : l ≤ 1048576) (hl : xs.length ≤ 9223372036854775807) (hm : ∀ i < xs.length, (xs.getD i zMail).entries.length ≤ 9223372036854775807) : SemX prog F.laws_szMailS [aT (.sl false 9 (xs.map (eMail false))), aI l] [] [rI (szMs xs l)] [] := by
  obtain ⟨cc, g1, g2, g3⟩ := b_laws_szMailS
  refine SemX.of_code func47 g1 (by rw [ntmps47]; exact g2) g3 (by rw [results47]; exact r_laws_szMailS) (by rw [ntmps47]; exact Nat.le_of_ble_eq_true rfl) (Nat.le_of_ble_eq_true rfl) (by simp) (by simp [argOk, aT, aI, aS, eMail]) ?_
  unfold c_laws_szMailS
  simp only [rg]
  refine W_reg (by simp only [go_sem, eMail]; exact rfl) ?_
  refine W_reg (by simp only [go_sem, eMail] <;> and_intros <;> first | with_reducible exact rfl | omega | with_reducible trivial | (intros; simp_all; done) | grind) ?_
  refine CW_assoc ?_
  refine W_reg (by simp only [go_sem, eMail]; exact rfl) ?_
  refine CW_seq ?_
  refine CW_cond (by simp only [go_sem, eMail]; exact rfl) (fun c0 => ?_) (fun c0 => ?_)
  · skip
    try simp only [b1, b2, b3, b4, b5, b6, b7] at c0
    refine W_reg (by simp only [go_sem, eMail]; exact rfl) ?_
    refine CW_ret ?_
    refine sq_r ?_
    simp only [go_sem, eMail]
    all_goals try first | refine int_res ?_ | refine bool_res ?_
    all_goals
      simp [szNs, szMs, szL, szT, *]
  · skip
    try simp only [b1, b2, b3, b4, b5, b6, b7] at c0
    refine CW_skip ?_
    refine sq_n ?_
    refine CW_assoc ?_
    refine W_reg (by simp only [go_sem, eMail]; exact rfl) ?_
    refine CW_seq ?_
    refine CW_block ?_
    refine CW_loopS (α := (Nat × Int)) (fun x => [(1, .int .i64 x.2), (5, .int .i64 x.1)]) (fun x => []) (fun x => xs.length - x.1) (fun x => x.1 ≤ xs.length ∧ -1 ≤ x.2 ∧ x.2 ≤ 1048576 ∧ szMails xs (szL xs.length l) = szMails (xs.drop x.1) x.2) (0, szL xs.length l) [] ?_ ?_ ?_
    · (simp only [go_sem, eMail] <;> and_intros <;> first | with_reducible exact rfl | (first | omega | (simp [szL, *]; done)))
    · refine ⟨Nat.zero_le _, szL_lo _ _, szL_hi h1 (by omega), rfl⟩
    · rintro ⟨i, m⟩ ⟨hi, hm1, hm2, he⟩
      try dsimp only at *
      refine CW_eq (by simp only [go_sem, eMail]; exact rfl) ?_
      refine CW_assoc ?_
      refine W_reg (by simp only [go_sem, eMail]; exact rfl) ?_
      refine CW_seq ?_
      refine CW_cond (by simp only [go_sem, eMail]; exact rfl) (fun c1 => ?_) (fun c1 => ?_)
      · skip
        try simp only [b1, b2, b3, b4, b5, b6, b7] at c1
        refine CW_skip ?_
        refine sq_n ?_
        refine CW_seq ?_
        refine CW_block ?_
        refine W_reg (by
          refine RW_cut 5 (by simp only [go_sem, eMail] <;> and_intros <;> first | with_reducible exact rfl | omega | with_reducible trivial | (intros; simp_all; done) | grind) ?_
          refine RW_ls (by simp only [List.drop_succ_cons, List.drop_zero]; exact rfl) ?_
          refine RW_callN q_laws_szMail (s_laws_szMail (xs.getD i zMail) m hm1 hm2 (hm i (by omega))) true [] [] [] rfl rfl (by simp only [go_sem, eMail]; exact rfl) (by rfl) (by simp only [go_sem, eMail]; exact rfl) ?_
          simp only [go_sem, eMail]; exact rfl) ?_
        refine W_reg (by simp only [go_sem, eMail]; exact rfl) ?_
        refine CW_cond (by simp only [go_sem, eMail]; exact rfl) (fun c2 => ?_) (fun c2 => ?_)
        · skip
          try simp only [b1, b2, b3, b4, b5, b6, b7] at c2
          refine W_reg (by simp only [go_sem, eMail]; exact rfl) ?_
          refine CW_ret ?_
          refine bk_r ?_
          refine sq_r ?_
          refine lp_r ?_
          refine bk_r ?_
          refine sq_r ?_
          simp only [go_sem, eMail]
          all_goals try first | refine int_res ?_ | refine bool_res ?_
          all_goals
            have := szL_lo xs.length l
            rw [szMs, szT, if_neg (by unfold szL; split <;> omega), he, drop_getD zMail (by omega)]
            simp [szMails, szT, *, -List.getD_eq_getElem?_getD]
        · skip
          try simp only [b1, b2, b3, b4, b5, b6, b7] at c2
          refine CW_skip ?_
          refine bk_n ?_
          refine sq_n ?_
          refine W_regn (by simp only [go_sem, eMail] <;> and_intros <;> first | with_reducible exact rfl | omega | with_reducible trivial | (intros; simp_all; done) | grind) ?_
          refine lp_next (i + 1, szMail (xs.getD i zMail) m) [] ?_ ?_ ?_
          · (simp only [go_sem, eMail])
          · refine ⟨by omega, (szMail_lo _ _ hm2).1, (szMail_lo _ _ hm2).2, ?_⟩
            rw [he, drop_getD zMail (by omega)]
            simp [szMails, szT, *, -List.getD_eq_getElem?_getD]
          · try dsimp only
            omega
      · skip
        simp only [decide_eq_false_iff_not] at c1
        obtain rfl : i = xs.length := by omega
        refine CW_exit ?_
        refine sq_e ?_
        refine lp_e ?_
        refine bk_i ?_
        refine sq_n ?_
        refine W_reg (by simp only [go_sem, eMail]; exact rfl) ?_
        refine CW_ret ?_
        simp only [go_sem, eMail]
        all_goals try first | refine int_res ?_ | refine bool_res ?_
        all_goals
          rw [szMs, szT, if_neg (by unfold szL; split <;> omega), he]
          simp [szMails]
end Go.H
end
section
set_option maxRecDepth 100000
set_option linter.unusedVariables false
set_option linter.unusedSimpArgs false
namespace Go.H
open Go Go.Proofs.Tryz
def c_laws_szWonS : SC :=
.seq (rg [
  ss 4 (.mv (.i .i64 0))] [0, 1])
  (.seq (rg [
  ss 5 (.mv (.t 1)),
  ss 6 (.mv (.t 0)),
  sk 7 32768 (.len (.t 6)),
  sh 8 1 (.bin .sub (.t 5) (.t 7)),
  ss 1 (.mv (.t 8))] [1])
  (.seq (.seq (rg [
  ss 9 (.mv (.t 1)),
  ss 10 (.bin .lss (.t 9) (.i .i64 0))] [1, 10])
  (.cond (.t 10) (.seq (rg [
  ss 4 (.mv (.i .i64 (-1)))] [4])
  (.ret))
  (.skip)))
  (.seq (rg [
  ss 11 (.mv (.t 1)),
  ss 4 (.mv (.t 11))] [4])
  (.ret))))
theorem b_laws_szWonS : ∃ c, f48.body = some c ∧ compC prog 12 c = some c_laws_szWonS.er ∧ drawB c c_laws_szWonS = true := ⟨_, rfl, by kernel_rfl, by kernel_rfl⟩
theorem r_laws_szWonS : cmpR prog [.tmp 4] = some [.t 4] := by kernel_rfl
theorem q_laws_szWonS : callB prog F.laws_szWonS = true := by kernel_rfl
variable [Inv prog]
theorem s_laws_szWonS (rows : List (List T)) (l : Int) (h0 : -1 ≤ l) (h1 : l ≤ 1048576) (hl : rows.length ≤ 9223372036854775807) : SemX prog F.laws_szWonS [aT (.sl false 2 rows), aI l] [] [rI (szL rows.length l)] [] := by
  obtain ⟨cc, g1, g2, g3⟩ := b_laws_szWonS
  refine SemX.of_code func48 g1 (by rw [ntmps48]; exact g2) g3 (by rw [results48]; exact r_laws_szWonS) (by rw [ntmps48]; exact Nat.le_of_ble_eq_true rfl) (Nat.le_of_ble_eq_true rfl) (by simp) (by simp [argOk, aT, aI, aS]) ?_
  unfold c_laws_szWonS
  simp only [rg]
  refine W_reg (by simp only [go_sem]; exact rfl) ?_
  refine W_reg (by simp only [go_sem] <;> and_intros <;> first | with_reducible exact rfl | omega | with_reducible trivial | (intros; simp_all; done) | grind) ?_
  refine CW_assoc ?_
  refine W_reg (by simp only [go_sem]; exact rfl) ?_
  refine CW_seq ?_
  refine CW_cond (by simp only [go_sem]; exact rfl) (fun c0 => ?_) (fun c0 => ?_)
  · skip
    try simp only [b1, b2, b3, b4, b5, b6, b7] at c0
    refine W_reg (by simp only [go_sem]; exact rfl) ?_
    refine CW_ret ?_
    refine sq_r ?_
    simp only [go_sem]
    all_goals try first | refine int_res ?_ | refine bool_res ?_
    all_goals
      simp [szL, *]
  · skip
    try simp only [b1, b2, b3, b4, b5, b6, b7] at c0
    refine CW_skip ?_
    refine sq_n ?_
    refine W_reg (by simp only [go_sem]; exact rfl) ?_
    refine CW_ret ?_
    simp only [go_sem]
    all_goals try first | refine int_res ?_ | refine bool_res ?_
    all_goals
      simp [szL, *]
end Go.H
end
section
set_option maxRecDepth 100000
set_option linter.unusedVariables false
set_option linter.unusedSimpArgs false
namespace Go.H
open Go Go.Proofs.Tryz
def c_laws_szSealS : SC :=
.seq (rg [
  ss 4 (.mv (.i .i64 0))] [0, 1])
  (.seq (rg [
  ss 5 (.mv (.t 1)),
  ss 6 (.mv (.t 0)),
  sk 7 32768 (.len (.t 6)),
  sh 8 1 (.bin .sub (.t 5) (.t 7)),
  ss 1 (.mv (.t 8))] [1])
  (.seq (.seq (rg [
  ss 9 (.mv (.t 1)),
  ss 10 (.bin .lss (.t 9) (.i .i64 0))] [1, 10])
  (.cond (.t 10) (.seq (rg [
  ss 4 (.mv (.i .i64 (-1)))] [4])
  (.ret))
  (.skip)))
  (.seq (rg [
  ss 11 (.mv (.t 1)),
  ss 4 (.mv (.t 11))] [4])
  (.ret))))
theorem b_laws_szSealS : ∃ c, f49.body = some c ∧ compC prog 12 c = some c_laws_szSealS.er ∧ drawB c c_laws_szSealS = true := ⟨_, rfl, by kernel_rfl, by kernel_rfl⟩
theorem r_laws_szSealS : cmpR prog [.tmp 4] = some [.t 4] := by kernel_rfl
theorem q_laws_szSealS : callB prog F.laws_szSealS = true := by kernel_rfl
variable [Inv prog]
theorem s_laws_szSealS (rows : List (List T)) (l : Int) (h0 : -1 ≤ l) (h1 : l ≤ 1048576) (hl : rows.length ≤ 9223372036854775807) : SemX prog F.laws_szSealS [aT (.sl false 10 rows), aI l] [] [rI (szL rows.length l)] [] := by
  obtain ⟨cc, g1, g2, g3⟩ := b_laws_szSealS
  refine SemX.of_code func49 g1 (by rw [ntmps49]; exact g2) g3 (by rw [results49]; exact r_laws_szSealS) (by rw [ntmps49]; exact Nat.le_of_ble_eq_true rfl) (Nat.le_of_ble_eq_true rfl) (by simp) (by simp [argOk, aT, aI, aS]) ?_
  unfold c_laws_szSealS
  simp only [rg]
  refine W_reg (by simp only [go_sem]; exact rfl) ?_
  refine W_reg (by simp only [go_sem] <;> and_intros <;> first | with_reducible exact rfl | omega | with_reducible trivial | (intros; simp_all; done) | grind) ?_
  refine CW_assoc ?_
  refine W_reg (by simp only [go_sem]; exact rfl) ?_
  refine CW_seq ?_
  refine CW_cond (by simp only [go_sem]; exact rfl) (fun c0 => ?_) (fun c0 => ?_)
  · skip
    try simp only [b1, b2, b3, b4, b5, b6, b7] at c0
    refine W_reg (by simp only [go_sem]; exact rfl) ?_
    refine CW_ret ?_
    refine sq_r ?_
    simp only [go_sem]
    all_goals try first | refine int_res ?_ | refine bool_res ?_
    all_goals
      simp [szL, *]
  · skip
    try simp only [b1, b2, b3, b4, b5, b6, b7] at c0
    refine CW_skip ?_
    refine sq_n ?_
    refine W_reg (by simp only [go_sem]; exact rfl) ?_
    refine CW_ret ?_
    simp only [go_sem]
    all_goals try first | refine int_res ?_ | refine bool_res ?_
    all_goals
      simp [szL, *]
end Go.H
end
section
set_option maxRecDepth 100000
set_option linter.unusedVariables false
set_option linter.unusedSimpArgs false
namespace Go.H
open Go Go.Proofs.Tryz
def c_laws_szCluster : SC :=
.seq (rg [
  sk 2 12288 (.box (.t 0)),
  ss 4 (.mv (.i .i64 0))] [1, 2])
  (.seq (rg [
  ss 5 (.fad (.t 2) 0),
  ss 6 (.load (.t 5) 1 false),
  ss 7 (.mv (.t 1)),
  sk 8 36864 (.call (.f F.laws_szNodeS) [(.t 6, none), (.t 7, none)]),
  ss 1 (.mv (.t 8))] [1, 2])
  (.seq (.seq (rg [
  ss 9 (.mv (.t 1)),
  ss 10 (.bin .lss (.t 9) (.i .i64 0))] [1, 2, 10])
  (.cond (.t 10) (.seq (rg [
  ss 4 (.mv (.i .i64 (-1)))] [4])
  (.ret))
  (.skip)))
  (.seq (rg [
  ss 11 (.fad (.t 2) 1),
  ss 12 (.load (.t 11) 1 false),
  ss 13 (.mv (.t 1)),
  sk 14 61440 (.call (.f F.laws_szMailS) [(.t 12, none), (.t 13, none)]),
  ss 1 (.mv (.t 14))] [1, 2])
  (.seq (.seq (rg [
  ss 15 (.mv (.t 1)),
  ss 16 (.bin .lss (.t 15) (.i .i64 0))] [1, 2, 16])
  (.cond (.t 16) (.seq (rg [
  ss 4 (.mv (.i .i64 (-1)))] [4])
  (.ret))
  (.skip)))
  (.seq (rg [
  ss 17 (.fad (.t 2) 2),
  ss 18 (.load (.t 17) 1 false),
  ss 19 (.mv (.t 1)),
  sk 20 86016 (.call (.f F.laws_szWonS) [(.t 18, none), (.t 19, none)]),
  ss 1 (.mv (.t 20))] [1, 2])
  (.seq (.seq (rg [
  ss 21 (.mv (.t 1)),
  ss 22 (.bin .lss (.t 21) (.i .i64 0))] [1, 2, 22])
  (.cond (.t 22) (.seq (rg [
  ss 4 (.mv (.i .i64 (-1)))] [4])
  (.ret))
  (.skip)))
  (.seq (rg [
  ss 23 (.fad (.t 2) 3),
  ss 24 (.load (.t 23) 1 false),
  ss 25 (.mv (.t 1)),
  sk 26 110592 (.call (.f F.laws_szSealS) [(.t 24, none), (.t 25, none)]),
  ss 1 (.mv (.t 26))] [1])
  (.seq (.seq (rg [
  ss 27 (.mv (.t 1)),
  ss 28 (.bin .lss (.t 27) (.i .i64 0))] [1, 28])
  (.cond (.t 28) (.seq (rg [
  ss 4 (.mv (.i .i64 (-1)))] [4])
  (.ret))
  (.skip)))
  (.seq (rg [
  ss 29 (.mv (.t 1)),
  ss 4 (.mv (.t 29))] [4])
  (.ret))))))))))
theorem b_laws_szCluster : ∃ c, f11.body = some c ∧ compC prog 30 c = some c_laws_szCluster.er ∧ drawB c c_laws_szCluster = true := ⟨_, rfl, by kernel_rfl, by kernel_rfl⟩
theorem r_laws_szCluster : cmpR prog [.tmp 4] = some [.t 4] := by kernel_rfl
theorem q_laws_szCluster : callB prog F.laws_szCluster = true := by kernel_rfl
variable [Inv prog]
theorem s_laws_szCluster (x : Cluster) (l : Int) (h0 : -1 ≤ l) (h1 : l ≤ 1048576) (hn : x.nodes.length ≤ 9223372036854775807) (hN : ∀ i < x.nodes.length, (x.nodes.getD i zNode).log.length ≤ 9223372036854775807 ∧ (x.nodes.getD i zNode).votes.length ≤ 9223372036854775807 ∧ (x.nodes.getD i zNode).next.length ≤ 9223372036854775807 ∧ (x.nodes.getD i zNode).match_.length ≤ 9223372036854775807) (hm : x.mails.length ≤ 9223372036854775807) (hM : ∀ i < x.mails.length, (x.mails.getD i zMail).entries.length ≤ 9223372036854775807) (hw : x.wins.length ≤ 9223372036854775807) (hs : x.seals.length ≤ 9223372036854775807) : SemX prog F.laws_szCluster [aS (eCluster false x), aI l] [] [rI (szCluster x l)] [] := by
  obtain ⟨cc, g1, g2, g3⟩ := b_laws_szCluster
  refine SemX.of_code func11 g1 (by rw [ntmps11]; exact g2) g3 (by rw [results11]; exact r_laws_szCluster) (by rw [ntmps11]; exact Nat.le_of_ble_eq_true rfl) (Nat.le_of_ble_eq_true rfl) (by simp) (by simp [argOk, aT, aI, aS, eCluster]) ?_
  unfold c_laws_szCluster
  simp only [rg]
  refine W_reg (by simp only [go_sem, eCluster]; exact rfl) ?_
  refine W_reg (by
    refine RW_cut 3 (by simp only [go_sem, eCluster]; exact rfl) ?_
    refine RW_ls (by simp only [List.drop_succ_cons, List.drop_zero]; exact rfl) ?_
    refine RW_callN q_laws_szNodeS (s_laws_szNodeS x.nodes l h0 h1 hn hN) true [] [] [] rfl rfl (by simp only [go_sem, eCluster]; exact rfl) (by rfl) (by simp only [go_sem, eCluster]; exact rfl) ?_
    simp only [go_sem, eCluster]; exact rfl) ?_
  refine CW_assoc ?_
  refine W_reg (by simp only [go_sem, eCluster]; exact rfl) ?_
  refine CW_seq ?_
  refine CW_cond (by simp only [go_sem, eCluster]; exact rfl) (fun c0 => ?_) (fun c0 => ?_)
  · skip
    try simp only [b1, b2, b3, b4, b5, b6, b7] at c0
    refine W_reg (by simp only [go_sem, eCluster]; exact rfl) ?_
    refine CW_ret ?_
    refine sq_r ?_
    simp only [go_sem, eCluster]
    all_goals try first | refine int_res ?_ | refine bool_res ?_
    all_goals
      simp [szCluster, szT, *]
  · skip
    try simp only [b1, b2, b3, b4, b5, b6, b7] at c0
    refine CW_skip ?_
    refine sq_n ?_
    refine W_reg (by
      refine RW_cut 3 (by simp only [go_sem, eCluster]; exact rfl) ?_
      refine RW_ls (by simp only [List.drop_succ_cons, List.drop_zero]; exact rfl) ?_
      refine RW_callN q_laws_szMailS (s_laws_szMailS x.mails (szNs x.nodes l) (szNs_lo x.nodes l h1).1 (szNs_lo x.nodes l h1).2 hm hM) true [] [] [] rfl rfl (by simp only [go_sem, eCluster]; exact rfl) (by rfl) (by simp only [go_sem, eCluster]; exact rfl) ?_
      simp only [go_sem, eCluster]; exact rfl) ?_
    refine CW_assoc ?_
    refine W_reg (by simp only [go_sem, eCluster]; exact rfl) ?_
    refine CW_seq ?_
    refine CW_cond (by simp only [go_sem, eCluster]; exact rfl) (fun c1 => ?_) (fun c1 => ?_)
    · skip
      try simp only [b1, b2, b3, b4, b5, b6, b7] at c1
      refine W_reg (by simp only [go_sem, eCluster]; exact rfl) ?_
      refine CW_ret ?_
      refine sq_r ?_
      simp only [go_sem, eCluster]
      all_goals try first | refine int_res ?_ | refine bool_res ?_
      all_goals
        simp [szCluster, szT, *]
    · skip
      try simp only [b1, b2, b3, b4, b5, b6, b7] at c1
      refine CW_skip ?_
      refine sq_n ?_
      refine W_reg (by
        refine RW_cut 3 (by simp only [go_sem, eCluster]; exact rfl) ?_
        refine RW_ls (by simp only [List.drop_succ_cons, List.drop_zero]; exact rfl) ?_
        refine RW_callN q_laws_szWonS (s_laws_szWonS (x.wins.map eWon) (szMs x.mails (szNs x.nodes l)) (szMs_lo x.mails _ (szNs_lo x.nodes l h1).2).1 (szMs_lo x.mails _ (szNs_lo x.nodes l h1).2).2 (by simp only [List.length_map]; omega)) true [] [] [] rfl rfl (by simp only [go_sem, eCluster]; exact rfl) (by rfl) (by simp only [go_sem, eCluster]; exact rfl) ?_
        simp only [go_sem, eCluster]; exact rfl) ?_
      refine CW_assoc ?_
      refine W_reg (by simp only [go_sem, eCluster]; exact rfl) ?_
      refine CW_seq ?_
      refine CW_cond (by simp only [go_sem, eCluster]; exact rfl) (fun c2 => ?_) (fun c2 => ?_)
      · skip
        try simp only [b1, b2, b3, b4, b5, b6, b7] at c2
        refine W_reg (by simp only [go_sem, eCluster]; exact rfl) ?_
        refine CW_ret ?_
        refine sq_r ?_
        simp only [go_sem, eCluster]
        all_goals try first | refine int_res ?_ | refine bool_res ?_
        all_goals
          simp [szCluster, szT, *]
      · skip
        try simp only [b1, b2, b3, b4, b5, b6, b7] at c2
        refine CW_skip ?_
        refine sq_n ?_
        refine W_reg (by
          refine RW_cut 3 (by simp only [go_sem, eCluster]; exact rfl) ?_
          refine RW_ls (by simp only [List.drop_succ_cons, List.drop_zero]; exact rfl) ?_
          refine RW_callN q_laws_szSealS (s_laws_szSealS (x.seals.map eSeal) (szL x.wins.length (szMs x.mails (szNs x.nodes l))) (szL_lo _ _) (szL_hi (szMs_lo x.mails _ (szNs_lo x.nodes l h1).2).2 (by omega)) (by simp only [List.length_map]; omega)) true [] [] [] rfl rfl (by simp only [go_sem, eCluster]; exact rfl) (by rfl) (by simp only [go_sem, eCluster]; exact rfl) ?_
          simp only [go_sem, eCluster]; exact rfl) ?_
        refine CW_assoc ?_
        refine W_reg (by simp only [go_sem, eCluster]; exact rfl) ?_
        refine CW_seq ?_
        refine CW_cond (by simp only [go_sem, eCluster]; exact rfl) (fun c3 => ?_) (fun c3 => ?_)
        · skip
          try simp only [b1, b2, b3, b4, b5, b6, b7] at c3
          refine W_reg (by simp only [go_sem, eCluster]; exact rfl) ?_
          refine CW_ret ?_
          refine sq_r ?_
          simp only [go_sem, eCluster]
          all_goals try first | refine int_res ?_ | refine bool_res ?_
          all_goals
            simp [szCluster, szT, *]
        · skip
          try simp only [b1, b2, b3, b4, b5, b6, b7] at c3
          refine CW_skip ?_
          refine sq_n ?_
          refine W_reg (by simp only [go_sem, eCluster]; exact rfl) ?_
          refine CW_ret ?_
          simp only [go_sem, eCluster]
          all_goals try first | refine int_res ?_ | refine bool_res ?_
          all_goals
            simp [szCluster, szT, *]
end Go.H
end
section
set_option maxRecDepth 100000
set_option linter.unusedVariables false
set_option linter.unusedSimpArgs false
namespace Go.H
open Go Go.Proofs.Tryz
def c_spec_l1In : SC :=
.seq (rg [
  ss 6 (.mv (.b false))] [0, 1, 2])
  (.seq (rg [
  ss 7 (.mv (.t 0)),
  ss 8 (.mv (.t 1)),
  ss 9 (.bin .geq (.t 7) (.t 8)),
  ss 10 (.mv (.t 9)),
  sg 11 (.mv (.t 0)) 10 true [],
  sg 12 (.mv (.t 2)) 10 true [],
  sg 13 (.bin .leq (.t 11) (.t 12)) 10 true [11, 12],
  ss 14 (.pick (.t 10) (.t 13) (.b false)),
  ss 6 (.mv (.t 14))] [6])
  (.ret))
theorem b_spec_l1In : ∃ c, f109.body = some c ∧ compC prog 15 c = some c_spec_l1In.er ∧ drawB c c_spec_l1In = true := ⟨_, rfl, by kernel_rfl, by kernel_rfl⟩
theorem r_spec_l1In : cmpR prog [.tmp 6] = some [.t 6] := by kernel_rfl
theorem q_spec_l1In : callB prog F.spec_l1In = true := by kernel_rfl
variable [Inv prog]
theorem s_spec_l1In (a b c : Int) : SemX prog F.spec_l1In [.one (.t (.int .i64 a)), .one (.t (.int .i64 b)), .one (.t (.int .i64 c))] [] [.one (.bool (inR a b c))] [] := by
  obtain ⟨cc, g1, g2, g3⟩ := b_spec_l1In
  refine SemX.of_code func109 g1 (by rw [ntmps109]; exact g2) g3 (by rw [results109]; exact r_spec_l1In) (by rw [ntmps109]; exact Nat.le_of_ble_eq_true rfl) (Nat.le_of_ble_eq_true rfl) (by simp) (by simp [argOk, aT, aI, aS]) ?_
  unfold c_spec_l1In
  simp only [rg]
  refine W_reg (by simp only [go_sem]; exact rfl) ?_
  refine W_reg (by simp only [go_sem]; exact rfl) ?_
  refine CW_ret ?_
  simp only [go_sem, inR]
  all_goals try first | refine int_res ?_ | refine bool_res ?_
  all_goals
    exact rfl
end Go.H
end
section
set_option maxRecDepth 100000
set_option linter.unusedVariables false
set_option linter.unusedSimpArgs false
namespace Go.H
open Go Go.Proofs.Tryz
def c_spec_LastOf : SC :=
.seq (rg [
  sk 2 12288 (.alloc [.int .i64 0, .int .i64 0, .int .i64 0, .int .i64 0, .int .i64 0, .int .i64 0, .int .i64 0, .int .i64 0, .int .i64 0])] [0, 2])
  (.seq (.seq (rg [
  ss 3 (.mv (.t 0)),
  sk 4 20480 (.len (.t 3)),
  ss 5 (.bin .eql (.t 4) (.i .i64 0))] [0, 2, 5])
  (.cond (.t 5) (.seq (rg [
  ss 6 (.bld [.int .i64 0, .int .i64 0, .int .i64 0, .int .i64 0, .int .i64 0, .int .i64 0, .int .i64 0, .int .i64 0, .int .i64 0] []),
  sx (.store (.t 2) (.t 6) 9)] [2])
  (.ret))
  (.skip)))
  (.seq (rg [
  ss 7 (.mv (.t 0)),
  ss 8 (.mv (.t 0)),
  sk 9 40960 (.len (.t 8)),
  sh 10 1 (.bin .sub (.t 9) (.i .i64 1)),
  sd (some 11) 0 0 dEntry (.idx (.t 7) (.t 10) 9),
  sd (some 12) 0 0 dEntry (.load (.t 11) 9 true),
  sx (.store (.t 2) (.t 12) 9)] [2])
  (.ret)))
theorem b_spec_LastOf : ∃ c, f162.body = some c ∧ compC prog 13 c = some c_spec_LastOf.er ∧ drawB c c_spec_LastOf = true := ⟨_, rfl, by kernel_rfl, by kernel_rfl⟩
theorem r_spec_LastOf : cmpR prog [.cell 2 120] = some [.c 2 9 true] := by kernel_rfl
theorem q_spec_LastOf : callB prog F.spec_LastOf = true := by kernel_rfl
variable [Inv prog]
theorem s_spec_LastOf (xs : List Entry) (hl : xs.length ≤ 9223372036854775807) : SemX prog F.spec_LastOf [aT (.sl false 9 (xs.map eEntry))] [] [.agg (eEntry (lastE xs))] [] := by
  obtain ⟨cc, g1, g2, g3⟩ := b_spec_LastOf
  refine SemX.of_code func162 g1 (by rw [ntmps162]; exact g2) g3 (by rw [results162]; exact r_spec_LastOf) (by rw [ntmps162]; exact Nat.le_of_ble_eq_true rfl) (Nat.le_of_ble_eq_true rfl) (by simp) (by simp [argOk, aT, aI, aS, eEntry]) ?_
  unfold c_spec_LastOf
  simp only [rg]
  refine W_reg (by simp only [go_sem, eEntry]; exact rfl) ?_
  refine CW_assoc ?_
  refine W_reg (by simp only [go_sem, eEntry]; exact rfl) ?_
  refine CW_seq ?_
  refine CW_cond (by simp only [go_sem, eEntry]; exact rfl) (fun c0 => ?_) (fun c0 => ?_)
  · skip
    try simp only [b1, b2, b3, b4, b5, b6, b7] at c0
    refine W_reg (by simp only [go_sem, eEntry]; exact rfl) ?_
    refine CW_ret ?_
    refine sq_r ?_
    simp only [go_sem, eEntry]
    all_goals try first | refine int_res ?_ | refine bool_res ?_
    all_goals
      have he : lastE xs = zEntry := by simp only [lastE]; rw [if_pos (by omega)]
      simp [he, zEntry, zCmd]
  · skip
    try simp only [b1, b2, b3, b4, b5, b6, b7] at c0
    refine CW_skip ?_
    refine sq_n ?_
    refine W_reg (by simp only [go_sem, eEntry] <;> and_intros <;> first | with_reducible exact rfl | omega | with_reducible trivial | (intros; simp_all; done) | grind) ?_
    refine CW_ret ?_
    simp only [go_sem, eEntry]
    all_goals try first | refine int_res ?_ | refine bool_res ?_
    all_goals
      have he : lastE xs = xs.getD (xs.length - 1) zEntry := by simp only [lastE]; rw [if_neg (by omega)]
      simp [he]
end Go.H
end
section
set_option maxRecDepth 100000
set_option linter.unusedVariables false
set_option linter.unusedSimpArgs false
namespace Go.H
open Go Go.Proofs.Tryz
def c_spec_l8Id : SC :=
.seq (rg [
  ss 4 (.mv (.b false))] [0, 1])
  (.seq (rg [
  ss 5 (.mv (.t 1)),
  ss 6 (.mv (.t 0)),
  ss 7 (.nck (.t 6)),
  ss 8 (.fad (.t 7) 1),
  ss 9 (.load (.t 8) 1 false),
  ss 10 (.bin .sub (.t 9) (.i .i64 1)),
  sk 11 49152 (.call (.f F.spec_l1In) [(.t 5, none), (.i .i64 0, none), (.t 10, none)]),
  ss 4 (.mv (.t 11))] [4])
  (.ret))
theorem b_spec_l8Id : ∃ c, f168.body = some c ∧ compC prog 12 c = some c_spec_l8Id.er ∧ drawB c c_spec_l8Id = true := ⟨_, rfl, by kernel_rfl, by kernel_rfl⟩
theorem r_spec_l8Id : cmpR prog [.tmp 4] = some [.t 4] := by kernel_rfl
theorem q_spec_l8Id : callB prog F.spec_l8Id = true := by kernel_rfl
variable [Inv prog]
theorem s_spec_l8Id (x : Node) (i : Int) : SemX prog F.spec_l8Id [aT (.ptr (eNode false x)), aI i] [] [rB (isId x i)] [] := by
  obtain ⟨cc, g1, g2, g3⟩ := b_spec_l8Id
  refine SemX.of_code func168 g1 (by rw [ntmps168]; exact g2) g3 (by rw [results168]; exact r_spec_l8Id) (by rw [ntmps168]; exact Nat.le_of_ble_eq_true rfl) (Nat.le_of_ble_eq_true rfl) (by simp) (by simp [argOk, aT, aI, aS, eNode]) ?_
  unfold c_spec_l8Id
  simp only [rg]
  refine W_reg (by simp only [go_sem, eNode]; exact rfl) ?_
  refine W_reg (by
    refine RW_cut 6 (by simp only [go_sem, eNode]; exact rfl) ?_
    refine RW_ls (by simp only [List.drop_succ_cons, List.drop_zero]; exact rfl) ?_
    refine RW_callN q_spec_l1In (s_spec_l1In i 0 (IntKind.wrap .i64 (x.peers - 1))) true [] [] [] rfl rfl (by simp only [go_sem, eNode]; exact rfl) (by rfl) (by simp only [go_sem, eNode]; exact rfl) ?_
    simp only [go_sem, eNode]; exact rfl) ?_
  refine CW_ret ?_
  simp only [go_sem, eNode, isId]
end Go.H
end
section
set_option maxRecDepth 100000
set_option linter.unusedVariables false
set_option linter.unusedSimpArgs false
namespace Go.H
open Go Go.Proofs.Tryz
def c_spec_l5Needs : SC :=
.seq (rg [
  ss 2 (.mv (.b false)),
  ss 3 (.mv (.b false)),
  ss 4 (.mv (.b false)),
  ss 5 (.mv (.b false))] [0])
  (.seq (rg [
  ss 7 (.mv (.t 0)),
  sk 8 36864 (.call (.f F.spec_l1In) [(.t 7, none), (.i .i64 5, none), (.i .i64 8, none)]),
  ss 6 (.mv (.t 8))] [0, 6])
  (.seq (rg [
  ss 9 (.mv (.t 0)),
  ss 10 (.bin .neq (.t 9) (.i .i64 5)),
  ss 11 (.mv (.t 10)),
  sg 12 (.mv (.t 0)) 11 true [],
  sg 13 (.bin .neq (.t 12) (.i .i64 6)) 11 true [12],
  ss 14 (.pick (.t 11) (.t 13) (.b false)),
  ss 15 (.mv (.t 0)),
  ss 16 (.bin .eql (.t 15) (.i .i64 1)),
  ss 17 (.mv (.t 16)),
  sg 18 (.mv (.t 6)) 17 false [],
  ss 19 (.pick (.t 17) (.b true) (.t 18)),
  ss 20 (.mv (.t 0)),
  ss 21 (.bin .neq (.t 20) (.i .i64 4)),
  ss 22 (.mv (.t 6)),
  ss 2 (.mv (.t 14)),
  ss 3 (.mv (.t 19)),
  ss 4 (.mv (.t 21)),
  ss 5 (.mv (.t 22))] [2, 3, 4, 5])
  (.ret)))
theorem b_spec_l5Needs : ∃ c, f196.body = some c ∧ compC prog 23 c = some c_spec_l5Needs.er ∧ drawB c c_spec_l5Needs = true := ⟨_, rfl, by kernel_rfl, by kernel_rfl⟩
theorem r_spec_l5Needs : cmpR prog [.tmp 2, .tmp 3, .tmp 4, .tmp 5] = some [.t 2, .t 3, .t 4, .t 5] := by kernel_rfl
theorem q_spec_l5Needs : callB prog F.spec_l5Needs = true := by kernel_rfl
variable [Inv prog]
theorem s_spec_l5Needs (k : Int) : SemX prog F.spec_l5Needs [aI k] [] [rB (nd1 k), rB (nd2 k), rB (nd3 k), rB (nd4 k)] [] := by
  obtain ⟨cc, g1, g2, g3⟩ := b_spec_l5Needs
  refine SemX.of_code func196 g1 (by rw [ntmps196]; exact g2) g3 (by rw [results196]; exact r_spec_l5Needs) (by rw [ntmps196]; exact Nat.le_of_ble_eq_true rfl) (Nat.le_of_ble_eq_true rfl) (by simp) (by simp [argOk, aT, aI, aS]) ?_
  unfold c_spec_l5Needs
  simp only [rg]
  refine W_reg (by simp only [go_sem]; exact rfl) ?_
  refine W_reg (by
    refine RW_cut 1 (by simp only [go_sem]; exact rfl) ?_
    refine RW_ls (by simp only [List.drop_succ_cons, List.drop_zero]; exact rfl) ?_
    refine RW_callN q_spec_l1In (s_spec_l1In k 5 8) true [] [] [] rfl rfl (by simp only [go_sem]; exact rfl) (by rfl) (by simp only [go_sem]; exact rfl) ?_
    simp only [go_sem]; exact rfl) ?_
  refine W_reg (by simp only [go_sem]; exact rfl) ?_
  refine CW_ret ?_
  simp only [go_sem, nd1, nd2, nd3, nd4, rB]
  all_goals try first | refine int_res ?_ | refine bool_res ?_
  all_goals
    simp
    rw [Bool.eq_iff_iff]
    simp [inR]
    omega
end Go.H
end
section
set_option maxRecDepth 100000
set_option linter.unusedVariables false
set_option linter.unusedSimpArgs false
namespace Go.H
open Go Go.Proofs.Tryz
def c_spec_l5Version : SC :=
.seq (rg [
  ss 2 (.mv (.b false))] [0])
  (.seq (rg [
  ss 3 (.mv (.t 0)),
  sk 4 20480 (.call (.f F.spec_l1In) [(.t 3, none), (.i .i64 0, none), (.i .i64 1000000, none)]),
  ss 2 (.mv (.t 4))] [2])
  (.ret))
theorem b_spec_l5Version : ∃ c, f197.body = some c ∧ compC prog 5 c = some c_spec_l5Version.er ∧ drawB c c_spec_l5Version = true := ⟨_, rfl, by kernel_rfl, by kernel_rfl⟩
theorem r_spec_l5Version : cmpR prog [.tmp 2] = some [.t 2] := by kernel_rfl
theorem q_spec_l5Version : callB prog F.spec_l5Version = true := by kernel_rfl
variable [Inv prog]
theorem s_spec_l5Version (n : Int) : SemX prog F.spec_l5Version [aI n] [] [rB (inR n 0 1000000)] [] := by
  obtain ⟨cc, g1, g2, g3⟩ := b_spec_l5Version
  refine SemX.of_code func197 g1 (by rw [ntmps197]; exact g2) g3 (by rw [results197]; exact r_spec_l5Version) (by rw [ntmps197]; exact Nat.le_of_ble_eq_true rfl) (Nat.le_of_ble_eq_true rfl) (by simp) (by simp [argOk, aT, aI, aS]) ?_
  unfold c_spec_l5Version
  simp only [rg]
  refine W_reg (by simp only [go_sem]; exact rfl) ?_
  refine W_reg (by
    refine RW_cut 1 (by simp only [go_sem]; exact rfl) ?_
    refine RW_ls (by simp only [List.drop_succ_cons, List.drop_zero]; exact rfl) ?_
    refine RW_callN q_spec_l1In (s_spec_l1In n 0 1000000) true [] [] [] rfl rfl (by simp only [go_sem]; exact rfl) (by rfl) (by simp only [go_sem]; exact rfl) ?_
    simp only [go_sem]; exact rfl) ?_
  refine CW_ret ?_
  simp only [go_sem]
end Go.H
end
section
set_option maxRecDepth 100000
set_option linter.unusedVariables false
set_option linter.unusedSimpArgs false
namespace Go.H
open Go Go.Proofs.Tryz
def c_spec_l3Name : SC :=
.seq (rg [
  ss 2 (.mv (.b false))] [0])
  (.seq (rg [
  ss 3 (.mv (.t 0)),
  sk 4 20480 (.call (.f F.spec_l1In) [(.t 3, none), (.i .i64 1, none), (.i .i64 999, none)]),
  ss 2 (.mv (.t 4))] [2])
  (.ret))
theorem b_spec_l3Name : ∃ c, f198.body = some c ∧ compC prog 5 c = some c_spec_l3Name.er ∧ drawB c c_spec_l3Name = true := ⟨_, rfl, by kernel_rfl, by kernel_rfl⟩
theorem r_spec_l3Name : cmpR prog [.tmp 2] = some [.t 2] := by kernel_rfl
theorem q_spec_l3Name : callB prog F.spec_l3Name = true := by kernel_rfl
variable [Inv prog]
theorem s_spec_l3Name (n : Int) : SemX prog F.spec_l3Name [aI n] [] [rB (inR n 1 999)] [] := by
  obtain ⟨cc, g1, g2, g3⟩ := b_spec_l3Name
  refine SemX.of_code func198 g1 (by rw [ntmps198]; exact g2) g3 (by rw [results198]; exact r_spec_l3Name) (by rw [ntmps198]; exact Nat.le_of_ble_eq_true rfl) (Nat.le_of_ble_eq_true rfl) (by simp) (by simp [argOk, aT, aI, aS]) ?_
  unfold c_spec_l3Name
  simp only [rg]
  refine W_reg (by simp only [go_sem]; exact rfl) ?_
  refine W_reg (by
    refine RW_cut 1 (by simp only [go_sem]; exact rfl) ?_
    refine RW_ls (by simp only [List.drop_succ_cons, List.drop_zero]; exact rfl) ?_
    refine RW_callN q_spec_l1In (s_spec_l1In n 1 999) true [] [] [] rfl rfl (by simp only [go_sem]; exact rfl) (by rfl) (by simp only [go_sem]; exact rfl) ?_
    simp only [go_sem]; exact rfl) ?_
  refine CW_ret ?_
  simp only [go_sem]
end Go.H
end
section
set_option maxRecDepth 100000
set_option linter.unusedVariables false
set_option linter.unusedSimpArgs false
namespace Go.H
open Go Go.Proofs.Tryz
def c_spec_l2Address : SC :=
.seq (rg [
  ss 2 (.mv (.b false))] [0])
  (.seq (rg [
  ss 3 (.mv (.t 0)),
  sk 4 20480 (.call (.f F.spec_l1In) [(.t 3, none), (.i .i64 0, none), (.i .i64 4294967295, none)]),
  ss 2 (.mv (.t 4))] [2])
  (.ret))
theorem b_spec_l2Address : ∃ c, f199.body = some c ∧ compC prog 5 c = some c_spec_l2Address.er ∧ drawB c c_spec_l2Address = true := ⟨_, rfl, by kernel_rfl, by kernel_rfl⟩
theorem r_spec_l2Address : cmpR prog [.tmp 2] = some [.t 2] := by kernel_rfl
theorem q_spec_l2Address : callB prog F.spec_l2Address = true := by kernel_rfl
variable [Inv prog]
theorem s_spec_l2Address (n : Int) : SemX prog F.spec_l2Address [aI n] [] [rB (inR n 0 4294967295)] [] := by
  obtain ⟨cc, g1, g2, g3⟩ := b_spec_l2Address
  refine SemX.of_code func199 g1 (by rw [ntmps199]; exact g2) g3 (by rw [results199]; exact r_spec_l2Address) (by rw [ntmps199]; exact Nat.le_of_ble_eq_true rfl) (Nat.le_of_ble_eq_true rfl) (by simp) (by simp [argOk, aT, aI, aS]) ?_
  unfold c_spec_l2Address
  simp only [rg]
  refine W_reg (by simp only [go_sem]; exact rfl) ?_
  refine W_reg (by
    refine RW_cut 1 (by simp only [go_sem]; exact rfl) ?_
    refine RW_ls (by simp only [List.drop_succ_cons, List.drop_zero]; exact rfl) ?_
    refine RW_callN q_spec_l1In (s_spec_l1In n 0 4294967295) true [] [] [] rfl rfl (by simp only [go_sem]; exact rfl) (by rfl) (by simp only [go_sem]; exact rfl) ?_
    simp only [go_sem]; exact rfl) ?_
  refine CW_ret ?_
  simp only [go_sem]
end Go.H
end
section
set_option maxRecDepth 100000
set_option linter.unusedVariables false
set_option linter.unusedSimpArgs false
namespace Go.H
open Go Go.Proofs.Tryz
def c_spec_l2Port : SC :=
.seq (rg [
  ss 2 (.mv (.b false))] [0])
  (.seq (rg [
  ss 3 (.mv (.t 0)),
  sk 4 20480 (.call (.f F.spec_l1In) [(.t 3, none), (.i .i64 0, none), (.i .i64 65535, none)]),
  ss 2 (.mv (.t 4))] [2])
  (.ret))
theorem b_spec_l2Port : ∃ c, f210.body = some c ∧ compC prog 5 c = some c_spec_l2Port.er ∧ drawB c c_spec_l2Port = true := ⟨_, rfl, by kernel_rfl, by kernel_rfl⟩
theorem r_spec_l2Port : cmpR prog [.tmp 2] = some [.t 2] := by kernel_rfl
theorem q_spec_l2Port : callB prog F.spec_l2Port = true := by kernel_rfl
variable [Inv prog]
theorem s_spec_l2Port (n : Int) : SemX prog F.spec_l2Port [aI n] [] [rB (inR n 0 65535)] [] := by
  obtain ⟨cc, g1, g2, g3⟩ := b_spec_l2Port
  refine SemX.of_code func210 g1 (by rw [ntmps210]; exact g2) g3 (by rw [results210]; exact r_spec_l2Port) (by rw [ntmps210]; exact Nat.le_of_ble_eq_true rfl) (Nat.le_of_ble_eq_true rfl) (by simp) (by simp [argOk, aT, aI, aS]) ?_
  unfold c_spec_l2Port
  simp only [rg]
  refine W_reg (by simp only [go_sem]; exact rfl) ?_
  refine W_reg (by
    refine RW_cut 1 (by simp only [go_sem]; exact rfl) ?_
    refine RW_ls (by simp only [List.drop_succ_cons, List.drop_zero]; exact rfl) ?_
    refine RW_callN q_spec_l1In (s_spec_l1In n 0 65535) true [] [] [] rfl rfl (by simp only [go_sem]; exact rfl) (by rfl) (by simp only [go_sem]; exact rfl) ?_
    simp only [go_sem]; exact rfl) ?_
  refine CW_ret ?_
  simp only [go_sem]
end Go.H
end
section
set_option maxRecDepth 100000
set_option linter.unusedVariables false
set_option linter.unusedSimpArgs false
namespace Go.H
open Go Go.Proofs.Tryz
def c_spec_l5Number : SC :=
.seq (rg [
  sk 1 8192 (.box (.t 0)),
  ss 2 (.mv (.b false))] [1])
  (.seq (.seq (rg [
  ss 3 (.fad (.t 1) 0),
  ss 4 (.load (.t 3) 1 false)] [1, 4])
  (.block 0 (.seq (.seq (rg [
  ss 6 (.bin .eql (.t 4) (.i .i64 1)),
  ss 5 (.mv (.t 6))] [1, 4, 5])
  (.cond (.t 5) (.skip)
  (rg [
  ss 7 (.bin .eql (.t 4) (.i .i64 2)),
  ss 5 (.mv (.t 7))] [1, 4, 5])))
  (.cond (.t 5) (.seq (rg [
  ss 8 (.fad (.t 1) 4),
  ss 9 (.load (.t 8) 1 false),
  sk 10 45056 (.call (.f F.spec_l1In) [(.t 9, none), (.i .i64 0, none), (.i .i64 9, none)]),
  ss 2 (.mv (.t 10))] [2])
  (.ret))
  (.seq (rg [
  ss 12 (.bin .eql (.t 4) (.i .i64 3)),
  ss 11 (.mv (.t 12))] [1, 4, 11])
  (.cond (.t 11) (.seq (rg [
  ss 13 (.fad (.t 1) 4),
  ss 14 (.load (.t 13) 1 false),
  sk 15 65536 (.call (.f F.spec_l1In) [(.t 14, none), (.i .i64 1, none), (.i .i64 3, none)]),
  ss 2 (.mv (.t 15))] [2])
  (.ret))
  (.seq (rg [
  ss 17 (.bin .eql (.t 4) (.i .i64 9)),
  ss 16 (.mv (.t 17))] [1, 16])
  (.cond (.t 16) (.seq (rg [
  ss 18 (.fad (.t 1) 4),
  ss 19 (.load (.t 18) 1 false),
  sk 20 86016 (.call (.f F.spec_l1In) [(.t 19, none), (.i .i64 0, none), (.i .i64 1, none)]),
  ss 2 (.mv (.t 20))] [2])
  (.ret))
  (.skip)))))))))
  (.seq (rg [
  ss 21 (.fad (.t 1) 4),
  ss 22 (.load (.t 21) 1 false),
  sk 23 98304 (.call (.f F.spec_l2Port) [(.t 22, none)]),
  ss 2 (.mv (.t 23))] [2])
  (.ret)))
theorem b_spec_l5Number : ∃ c, f200.body = some c ∧ compC prog 24 c = some c_spec_l5Number.er ∧ drawB c c_spec_l5Number = true := ⟨_, rfl, by kernel_rfl, by kernel_rfl⟩
theorem r_spec_l5Number : cmpR prog [.tmp 2] = some [.t 2] := by kernel_rfl
theorem q_spec_l5Number : callB prog F.spec_l5Number = true := by kernel_rfl
variable [Inv prog]
theorem s_spec_l5Number (x : Cmd) : SemX prog F.spec_l5Number [aS (eCmd x)] [] [rB (isNum x)] [] := by
  obtain ⟨cc, g1, g2, g3⟩ := b_spec_l5Number
  refine SemX.of_code func200 g1 (by rw [ntmps200]; exact g2) g3 (by rw [results200]; exact r_spec_l5Number) (by rw [ntmps200]; exact Nat.le_of_ble_eq_true rfl) (Nat.le_of_ble_eq_true rfl) (by simp) (by simp [argOk, aT, aI, aS, eCmd]) ?_
  unfold c_spec_l5Number
  simp only [rg]
  refine W_reg (by simp only [go_sem, eCmd]; exact rfl) ?_
  refine CW_assoc ?_
  refine W_reg (by simp only [go_sem, eCmd]; exact rfl) ?_
  refine CW_seq ?_
  refine CW_block ?_
  refine CW_assoc ?_
  refine W_reg (by simp only [go_sem, eCmd]; exact rfl) ?_
  refine CW_seq ?_
  refine CW_cond (by simp only [go_sem, eCmd]; exact rfl) (fun c0 => ?_) (fun c0 => ?_)
  · skip
    try simp only [b1, b2, b3, b4, b5, b6, b7] at c0
    refine CW_skip ?_
    refine sq_n ?_
    refine CW_cond (by simp only [go_sem, eCmd]; exact rfl) (fun c1 => ?_) (fun c1 => ?_)
    · skip
      try simp only [b1, b2, b3, b4, b5, b6, b7] at c1
      refine W_reg (by
        refine RW_cut 2 (by simp only [go_sem, eCmd]; exact rfl) ?_
        refine RW_ls (by simp only [List.drop_succ_cons, List.drop_zero]; exact rfl) ?_
        refine RW_callN q_spec_l1In (s_spec_l1In _ _ _) true [] [] [] rfl rfl (by simp only [go_sem, eCmd] <;> and_intros <;> first | with_reducible exact rfl | omega | with_reducible trivial | (intros; simp_all; done) | grind) (by rfl) (by simp only [go_sem, eCmd]; exact rfl) ?_
        simp only [go_sem, eCmd]; exact rfl) ?_
      refine CW_ret ?_
      refine bk_r ?_
      refine sq_r ?_
      simp only [go_sem, eCmd, isNum]
      all_goals try first | refine int_res ?_ | refine bool_res ?_
      all_goals
        first | (exfalso; omega) | (simp [*]; done)
    · skip
      try simp only [b1, b2, b3, b4, b5, b6, b7] at c1
      refine W_reg (by simp only [go_sem, eCmd]; exact rfl) ?_
      refine CW_cond (by simp only [go_sem, eCmd]; exact rfl) (fun c2 => ?_) (fun c2 => ?_)
      · skip
        try simp only [b1, b2, b3, b4, b5, b6, b7] at c2
        refine W_reg (by
          refine RW_cut 2 (by simp only [go_sem, eCmd]; exact rfl) ?_
          refine RW_ls (by simp only [List.drop_succ_cons, List.drop_zero]; exact rfl) ?_
          refine RW_callN q_spec_l1In (s_spec_l1In _ _ _) true [] [] [] rfl rfl (by simp only [go_sem, eCmd] <;> and_intros <;> first | with_reducible exact rfl | omega | with_reducible trivial | (intros; simp_all; done) | grind) (by rfl) (by simp only [go_sem, eCmd]; exact rfl) ?_
          simp only [go_sem, eCmd]; exact rfl) ?_
        refine CW_ret ?_
        refine bk_r ?_
        refine sq_r ?_
        simp only [go_sem, eCmd, isNum]
        all_goals try first | refine int_res ?_ | refine bool_res ?_
        all_goals
          first | (exfalso; omega) | (simp [*]; done)
      · skip
        try simp only [b1, b2, b3, b4, b5, b6, b7] at c2
        refine W_reg (by simp only [go_sem, eCmd]; exact rfl) ?_
        refine CW_cond (by simp only [go_sem, eCmd]; exact rfl) (fun c3 => ?_) (fun c3 => ?_)
        · skip
          try simp only [b1, b2, b3, b4, b5, b6, b7] at c3
          refine W_reg (by
            refine RW_cut 2 (by simp only [go_sem, eCmd]; exact rfl) ?_
            refine RW_ls (by simp only [List.drop_succ_cons, List.drop_zero]; exact rfl) ?_
            refine RW_callN q_spec_l1In (s_spec_l1In _ _ _) true [] [] [] rfl rfl (by simp only [go_sem, eCmd] <;> and_intros <;> first | with_reducible exact rfl | omega | with_reducible trivial | (intros; simp_all; done) | grind) (by rfl) (by simp only [go_sem, eCmd]; exact rfl) ?_
            simp only [go_sem, eCmd]; exact rfl) ?_
          refine CW_ret ?_
          refine bk_r ?_
          refine sq_r ?_
          simp only [go_sem, eCmd, isNum]
          all_goals try first | refine int_res ?_ | refine bool_res ?_
          all_goals
            first | (exfalso; omega) | (simp [*]; done)
        · skip
          try simp only [b1, b2, b3, b4, b5, b6, b7] at c3
          refine CW_skip ?_
          refine bk_n ?_
          refine sq_n ?_
          refine W_reg (by
            refine RW_cut 2 (by simp only [go_sem, eCmd]; exact rfl) ?_
            refine RW_ls (by simp only [List.drop_succ_cons, List.drop_zero]; exact rfl) ?_
            refine RW_callN q_spec_l2Port (s_spec_l2Port _) true [] [] [] rfl rfl (by simp only [go_sem, eCmd] <;> and_intros <;> first | with_reducible exact rfl | omega | with_reducible trivial | (intros; simp_all; done) | grind) (by rfl) (by simp only [go_sem, eCmd]; exact rfl) ?_
            simp only [go_sem, eCmd]; exact rfl) ?_
          refine CW_ret ?_
          simp only [go_sem, eCmd, isNum]
          all_goals try first | refine int_res ?_ | refine bool_res ?_
          all_goals
            first | (exfalso; omega) | (simp [*]; done)
  · skip
    try simp only [b1, b2, b3, b4, b5, b6, b7] at c0
    refine W_regn (by simp only [go_sem, eCmd]; exact rfl) ?_
    refine sq_n ?_
    refine CW_cond (by simp only [go_sem, eCmd]; exact rfl) (fun c1 => ?_) (fun c1 => ?_)
    · skip
      try simp only [b1, b2, b3, b4, b5, b6, b7] at c1
      refine W_reg (by
        refine RW_cut 2 (by simp only [go_sem, eCmd]; exact rfl) ?_
        refine RW_ls (by simp only [List.drop_succ_cons, List.drop_zero]; exact rfl) ?_
        refine RW_callN q_spec_l1In (s_spec_l1In _ _ _) true [] [] [] rfl rfl (by simp only [go_sem, eCmd] <;> and_intros <;> first | with_reducible exact rfl | omega | with_reducible trivial | (intros; simp_all; done) | grind) (by rfl) (by simp only [go_sem, eCmd]; exact rfl) ?_
        simp only [go_sem, eCmd]; exact rfl) ?_
      refine CW_ret ?_
      refine bk_r ?_
      refine sq_r ?_
      simp only [go_sem, eCmd, isNum]
      all_goals try first | refine int_res ?_ | refine bool_res ?_
      all_goals
        first | (exfalso; omega) | (simp [*]; done)
    · skip
      try simp only [b1, b2, b3, b4, b5, b6, b7] at c1
      refine W_reg (by simp only [go_sem, eCmd]; exact rfl) ?_
      refine CW_cond (by simp only [go_sem, eCmd]; exact rfl) (fun c2 => ?_) (fun c2 => ?_)
      · skip
        try simp only [b1, b2, b3, b4, b5, b6, b7] at c2
        refine W_reg (by
          refine RW_cut 2 (by simp only [go_sem, eCmd]; exact rfl) ?_
          refine RW_ls (by simp only [List.drop_succ_cons, List.drop_zero]; exact rfl) ?_
          refine RW_callN q_spec_l1In (s_spec_l1In _ _ _) true [] [] [] rfl rfl (by simp only [go_sem, eCmd] <;> and_intros <;> first | with_reducible exact rfl | omega | with_reducible trivial | (intros; simp_all; done) | grind) (by rfl) (by simp only [go_sem, eCmd]; exact rfl) ?_
          simp only [go_sem, eCmd]; exact rfl) ?_
        refine CW_ret ?_
        refine bk_r ?_
        refine sq_r ?_
        simp only [go_sem, eCmd, isNum]
        all_goals try first | refine int_res ?_ | refine bool_res ?_
        all_goals
          first | (exfalso; omega) | (simp [*]; done)
      · skip
        try simp only [b1, b2, b3, b4, b5, b6, b7] at c2
        refine W_reg (by simp only [go_sem, eCmd]; exact rfl) ?_
        refine CW_cond (by simp only [go_sem, eCmd]; exact rfl) (fun c3 => ?_) (fun c3 => ?_)
        · skip
          try simp only [b1, b2, b3, b4, b5, b6, b7] at c3
          refine W_reg (by
            refine RW_cut 2 (by simp only [go_sem, eCmd]; exact rfl) ?_
            refine RW_ls (by simp only [List.drop_succ_cons, List.drop_zero]; exact rfl) ?_
            refine RW_callN q_spec_l1In (s_spec_l1In _ _ _) true [] [] [] rfl rfl (by simp only [go_sem, eCmd] <;> and_intros <;> first | with_reducible exact rfl | omega | with_reducible trivial | (intros; simp_all; done) | grind) (by rfl) (by simp only [go_sem, eCmd]; exact rfl) ?_
            simp only [go_sem, eCmd]; exact rfl) ?_
          refine CW_ret ?_
          refine bk_r ?_
          refine sq_r ?_
          simp only [go_sem, eCmd, isNum]
          all_goals try first | refine int_res ?_ | refine bool_res ?_
          all_goals
            first | (exfalso; omega) | (simp [*]; done)
        · skip
          try simp only [b1, b2, b3, b4, b5, b6, b7] at c3
          refine CW_skip ?_
          refine bk_n ?_
          refine sq_n ?_
          refine W_reg (by
            refine RW_cut 2 (by simp only [go_sem, eCmd]; exact rfl) ?_
            refine RW_ls (by simp only [List.drop_succ_cons, List.drop_zero]; exact rfl) ?_
            refine RW_callN q_spec_l2Port (s_spec_l2Port _) true [] [] [] rfl rfl (by simp only [go_sem, eCmd] <;> and_intros <;> first | with_reducible exact rfl | omega | with_reducible trivial | (intros; simp_all; done) | grind) (by rfl) (by simp only [go_sem, eCmd]; exact rfl) ?_
            simp only [go_sem, eCmd]; exact rfl) ?_
          refine CW_ret ?_
          simp only [go_sem, eCmd, isNum]
          all_goals try first | refine int_res ?_ | refine bool_res ?_
          all_goals
            first | (exfalso; omega) | (simp [*]; done)
end Go.H
end
section
set_option maxRecDepth 100000
set_option linter.unusedVariables false
set_option linter.unusedSimpArgs false
namespace Go.H
open Go Go.Proofs.Tryz
def c_spec_l5Proto : SC :=
.seq (rg [
  ss 2 (.mv (.b false))] [0])
  (.seq (rg [
  ss 3 (.mv (.t 0)),
  ss 4 (.bin .eql (.t 3) (.i .i64 6)),
  ss 5 (.mv (.t 4)),
  sg 6 (.mv (.t 0)) 5 false [],
  sg 7 (.bin .eql (.t 6) (.i .i64 17)) 5 false [6],
  ss 8 (.pick (.t 5) (.b true) (.t 7)),
  ss 2 (.mv (.t 8))] [2])
  (.ret))
theorem b_spec_l5Proto : ∃ c, f201.body = some c ∧ compC prog 9 c = some c_spec_l5Proto.er ∧ drawB c c_spec_l5Proto = true := ⟨_, rfl, by kernel_rfl, by kernel_rfl⟩
theorem r_spec_l5Proto : cmpR prog [.tmp 2] = some [.t 2] := by kernel_rfl
theorem q_spec_l5Proto : callB prog F.spec_l5Proto = true := by kernel_rfl
variable [Inv prog]
theorem s_spec_l5Proto (n : Int) : SemX prog F.spec_l5Proto [aI n] [] [rB (isPro n)] [] := by
  obtain ⟨cc, g1, g2, g3⟩ := b_spec_l5Proto
  refine SemX.of_code func201 g1 (by rw [ntmps201]; exact g2) g3 (by rw [results201]; exact r_spec_l5Proto) (by rw [ntmps201]; exact Nat.le_of_ble_eq_true rfl) (Nat.le_of_ble_eq_true rfl) (by simp) (by simp [argOk, aT, aI, aS]) ?_
  unfold c_spec_l5Proto
  simp only [rg]
  refine W_reg (by simp only [go_sem]; exact rfl) ?_
  refine W_reg (by simp only [go_sem]; exact rfl) ?_
  refine CW_ret ?_
  simp only [go_sem, isPro]
  all_goals try first | refine int_res ?_ | refine bool_res ?_
  all_goals
    cases decide (n = 6) <;> rfl
end Go.H
end
section
set_option maxRecDepth 100000
set_option linter.unusedVariables false
set_option linter.unusedSimpArgs false
namespace Go.H
open Go Go.Proofs.Tryz
def c_spec_CmdFault : SC :=
.seq (rg [
  sk 1 8192 (.box (.t 0)),
  ss 2 (.mv (.i .i64 0))] [1])
  (.seq (.seq (rg [
  ss 7 (.fad (.t 1) 0),
  ss 8 (.load (.t 7) 1 false),
  sk 9 40960 (.call (.f F.spec_l1In) [(.t 8, none), (.i .i64 1, none), (.i .i64 9, none)]),
  ss 10 (.not (.t 9))] [1, 10])
  (.cond (.t 10) (.seq (rg [
  ss 2 (.mv (.i .i64 1))] [2])
  (.ret))
  (.skip)))
  (.seq (rg [
  ss 12 (.fad (.t 1) 0),
  ss 13 (.load (.t 12) 1 false),
  sk 14 61440 (.call (.f F.spec_l5Needs) [(.t 13, none)]),
  ss 11 (.mv (.t 14)),
  ss 15 (.ext (.t 11) 0),
  ss 16 (.ext (.t 11) 1),
  ss 17 (.ext (.t 11) 2),
  ss 18 (.ext (.t 11) 3),
  ss 3 (.mv (.t 15)),
  ss 4 (.mv (.t 16)),
  ss 5 (.mv (.t 17)),
  ss 6 (.mv (.t 18))] [1, 3, 4, 5, 6])
  (.seq (.seq (rg [
  ss 19 (.fad (.t 1) 1),
  ss 20 (.load (.t 19) 1 false),
  ss 21 (.bin .neq (.t 20) (.i .i64 (-1))),
  ss 22 (.mv (.t 21)),
  sg 23 (.fad (.t 1) 1) 22 true [],
  sg 24 (.load (.t 23) 1 false) 22 true [23],
  ⟨(some 25), .call (.f F.spec_l5Version) [(.t 24, none)], (some (22, true)), [], 0, 106496, [], [24], [], []⟩,
  sg 26 (.not (.t 25)) 22 true [25],
  ss 27 (.pick (.t 22) (.t 26) (.b false)),
  ss 28 (.mv (.t 27)),
  sg 29 (.mv (.t 3)) 28 false [],
  sg 30 (.mv (.t 29)) 28 false [29],
  sg 31 (.fad (.t 1) 2) 30 true [],
  sg 32 (.load (.t 31) 1 false) 30 true [31],
  ⟨(some 33), .call (.f F.spec_l3Name) [(.t 32, none)], (some (30, true)), [], 0, 139264, [], [32], [], []⟩,
  sg 34 (.not (.t 33)) 30 true [33],
  sg 35 (.pick (.t 30) (.t 34) (.b false)) 28 false [30],
  ss 36 (.pick (.t 28) (.b true) (.t 35)),
  ss 37 (.mv (.t 36)),
  sg 38 (.mv (.t 4)) 37 false [],
  sg 39 (.mv (.t 38)) 37 false [38],
  sg 40 (.fad (.t 1) 3) 39 true [],
  sg 41 (.load (.t 40) 1 false) 39 true [40],
  ⟨(some 42), .call (.f F.spec_l2Address) [(.t 41, none)], (some (39, true)), [], 0, 176128, [], [41], [], []⟩,
  sg 43 (.not (.t 42)) 39 true [42],
  sg 44 (.pick (.t 39) (.t 43) (.b false)) 37 false [39],
  ss 45 (.pick (.t 37) (.b true) (.t 44)),
  ss 46 (.mv (.t 45)),
  sg 47 (.mv (.t 5)) 46 false [],
  sg 48 (.mv (.t 47)) 46 false [47],
  sg 49 (.load (.t 1) 6 true) 48 true [],
  ⟨(some 50), .call (.f F.spec_l5Number) [(.t 49, none)], (some (48, true)), [], 0, 208896, [], [49], [], []⟩,
  sg 51 (.not (.t 50)) 48 true [50],
  sg 52 (.pick (.t 48) (.t 51) (.b false)) 46 false [48],
  ss 53 (.pick (.t 46) (.b true) (.t 52)),
  ss 54 (.mv (.t 53)),
  sg 55 (.mv (.t 6)) 54 false [],
  sg 56 (.mv (.t 55)) 54 false [55],
  sg 57 (.fad (.t 1) 5) 56 true [],
  sg 58 (.load (.t 57) 1 false) 56 true [57],
  ⟨(some 59), .call (.f F.spec_l5Proto) [(.t 58, none)], (some (56, true)), [], 0, 245760, [], [58], [], []⟩,
  sg 60 (.not (.t 59)) 56 true [59],
  sg 61 (.pick (.t 56) (.t 60) (.b false)) 54 false [56],
  ss 62 (.pick (.t 54) (.b true) (.t 61))] [1, 3, 4, 5, 6, 62])
  (.cond (.t 62) (.seq (rg [
  ss 2 (.mv (.i .i64 3))] [2])
  (.ret))
  (.skip)))
  (.seq (.seq (rg [
  ss 63 (.mv (.t 3)),
  ss 64 (.not (.t 63)),
  ss 65 (.mv (.t 64)),
  sg 66 (.fad (.t 1) 2) 65 true [],
  sg 67 (.load (.t 66) 1 false) 65 true [66],
  sg 68 (.bin .neq (.t 67) (.i .i64 0)) 65 true [67],
  ss 69 (.pick (.t 65) (.t 68) (.b false)),
  ss 70 (.mv (.t 69)),
  sg 71 (.mv (.t 4)) 70 false [],
  sg 72 (.not (.t 71)) 70 false [71],
  sg 73 (.mv (.t 72)) 70 false [72],
  sg 74 (.fad (.t 1) 3) 73 true [],
  sg 75 (.load (.t 74) 1 false) 73 true [74],
  sg 76 (.bin .neq (.t 75) (.i .i64 0)) 73 true [75],
  sg 77 (.pick (.t 73) (.t 76) (.b false)) 70 false [73],
  ss 78 (.pick (.t 70) (.b true) (.t 77)),
  ss 79 (.mv (.t 78)),
  sg 80 (.mv (.t 5)) 79 false [],
  sg 81 (.not (.t 80)) 79 false [80],
  sg 82 (.mv (.t 81)) 79 false [81],
  sg 83 (.fad (.t 1) 4) 82 true [],
  sg 84 (.load (.t 83) 1 false) 82 true [83],
  sg 85 (.bin .neq (.t 84) (.i .i64 0)) 82 true [84],
  sg 86 (.pick (.t 82) (.t 85) (.b false)) 79 false [82],
  ss 87 (.pick (.t 79) (.b true) (.t 86)),
  ss 88 (.mv (.t 87)),
  sg 89 (.mv (.t 6)) 88 false [],
  sg 90 (.not (.t 89)) 88 false [89],
  sg 91 (.mv (.t 90)) 88 false [90],
  sg 92 (.fad (.t 1) 5) 91 true [],
  sg 93 (.load (.t 92) 1 false) 91 true [92],
  sg 94 (.bin .neq (.t 93) (.i .i64 0)) 91 true [93],
  sg 95 (.pick (.t 91) (.t 94) (.b false)) 88 false [91],
  ss 96 (.pick (.t 88) (.b true) (.t 95))] [96])
  (.cond (.t 96) (.seq (rg [
  ss 2 (.mv (.i .i64 1))] [2])
  (.ret))
  (.skip)))
  (.seq (rg [
  ss 2 (.mv (.i .i64 0))] [2])
  (.ret))))))
theorem b_spec_CmdFault : ∃ c, f189.body = some c ∧ compC prog 97 c = some c_spec_CmdFault.er ∧ drawB c c_spec_CmdFault = true := ⟨_, rfl, by kernel_rfl, by kernel_rfl⟩
theorem r_spec_CmdFault : cmpR prog [.tmp 2] = some [.t 2] := by kernel_rfl
theorem q_spec_CmdFault : callB prog F.spec_CmdFault = true := by kernel_rfl
variable [Inv prog]
theorem s_spec_CmdFault (x : Cmd) : SemX prog F.spec_CmdFault [aS (eCmd x)] [] [rI (cmdFault x)] [] := by
  obtain ⟨cc, g1, g2, g3⟩ := b_spec_CmdFault
  refine SemX.of_code func189 g1 (by rw [ntmps189]; exact g2) g3 (by rw [results189]; exact r_spec_CmdFault) (by rw [ntmps189]; exact Nat.le_of_ble_eq_true rfl) (Nat.le_of_ble_eq_true rfl) (by simp) (by simp [argOk, aT, aI, aS, eCmd, exp_eq]) ?_
  unfold c_spec_CmdFault
  simp only [rg]
  refine W_reg (by simp only [go_sem, eCmd, exp_eq]; exact rfl) ?_
  refine CW_assoc ?_
  refine W_reg (by
    refine RW_cut 2 (by simp only [go_sem, eCmd, exp_eq]; exact rfl) ?_
    refine RW_ls (by simp only [List.drop_succ_cons, List.drop_zero]; exact rfl) ?_
    refine RW_callN q_spec_l1In (s_spec_l1In _ _ _) true [] [] [] rfl rfl (by simp only [go_sem, eCmd, exp_eq] <;> and_intros <;> first | with_reducible exact rfl | omega | with_reducible trivial | (intros; simp_all; done) | grind) (by rfl) (by simp only [go_sem, eCmd, exp_eq]; exact rfl) ?_
    simp only [go_sem, eCmd, exp_eq]; exact rfl) ?_
  refine CW_seq ?_
  refine CW_cond (by simp only [go_sem, eCmd, exp_eq]; exact rfl) (fun c0 => ?_) (fun c0 => ?_)
  · skip
    skip
    refine W_reg (by simp only [go_sem, eCmd, exp_eq]; exact rfl) ?_
    refine CW_ret ?_
    refine sq_r ?_
    simp only [go_sem, eCmd, exp_eq, cmdFault]
    all_goals try first | refine int_res ?_ | refine bool_res ?_
    all_goals
      grind
  · skip
    skip
    refine CW_skip ?_
    refine sq_n ?_
    refine W_reg (by
      refine RW_cut 2 (by simp only [go_sem, eCmd, exp_eq]; exact rfl) ?_
      refine RW_ls (by simp only [List.drop_succ_cons, List.drop_zero]; exact rfl) ?_
      refine RW_callN q_spec_l5Needs (s_spec_l5Needs _) true [] [] [] rfl rfl (by simp only [go_sem, eCmd, exp_eq] <;> and_intros <;> first | with_reducible exact rfl | omega | with_reducible trivial | (intros; simp_all; done) | grind) (by rfl) (by simp only [go_sem, eCmd, exp_eq]; exact rfl) ?_
      simp only [go_sem, eCmd, exp_eq]; exact rfl) ?_
    refine CW_assoc ?_
    refine W_reg (by
      refine RW_cut 6 (by simp only [go_sem, eCmd, exp_eq]; exact rfl) ?_
      refine RW_ls (by simp only [List.drop_succ_cons, List.drop_zero]; exact rfl) ?_
      refine RW_callGN q_spec_l5Version (s_spec_l5Version _) true rfl rfl (by simp only [go_sem, eCmd, exp_eq]; exact rfl) (fun _ => (by simp only [go_sem, eCmd, exp_eq] <;> and_intros <;> first | with_reducible exact rfl | omega | with_reducible trivial | (intros; simp_all; done) | grind)) (by simp only [go_sem, eCmd, exp_eq]; exact rfl) ?_
      refine RW_cut 7 (by simp only [go_sem, eCmd, exp_eq]; exact rfl) ?_
      refine RW_ls (by simp only [List.drop_succ_cons, List.drop_zero]; exact rfl) ?_
      refine RW_callGN q_spec_l3Name (s_spec_l3Name _) true rfl rfl (by simp only [go_sem, eCmd, exp_eq]; exact rfl) (fun _ => (by simp only [go_sem, eCmd, exp_eq] <;> and_intros <;> first | with_reducible exact rfl | omega | with_reducible trivial | (intros; simp_all; done) | grind)) (by simp only [go_sem, eCmd, exp_eq]; exact rfl) ?_
      refine RW_cut 8 (by simp only [go_sem, eCmd, exp_eq] <;> and_intros <;> first | with_reducible exact rfl | omega | with_reducible trivial | (intros; simp_all; done) | grind) ?_
      refine RW_ls (by simp only [List.drop_succ_cons, List.drop_zero]; exact rfl) ?_
      refine RW_callGN q_spec_l2Address (s_spec_l2Address _) true rfl rfl (by simp only [go_sem, eCmd, exp_eq]; exact rfl) (fun _ => (by simp only [go_sem, eCmd, exp_eq] <;> and_intros <;> first | with_reducible exact rfl | omega | with_reducible trivial | (intros; simp_all; done) | grind)) (by simp only [go_sem, eCmd, exp_eq]; exact rfl) ?_
      refine RW_cut 7 (by simp only [go_sem, eCmd, exp_eq] <;> and_intros <;> first | with_reducible exact rfl | omega | with_reducible trivial | (intros; simp_all; done) | grind) ?_
      refine RW_ls (by simp only [List.drop_succ_cons, List.drop_zero]; exact rfl) ?_
      refine RW_callGN q_spec_l5Number (s_spec_l5Number _) true rfl rfl (by simp only [go_sem, eCmd, exp_eq]; exact rfl) (fun _ => (by simp only [go_sem, eCmd, exp_eq] <;> and_intros <;> first | with_reducible exact rfl | omega | with_reducible trivial | (intros; simp_all; done) | grind)) (by simp only [go_sem, eCmd, exp_eq]; exact rfl) ?_
      refine RW_cut 8 (by simp only [go_sem, eCmd, exp_eq] <;> and_intros <;> first | with_reducible exact rfl | omega | with_reducible trivial | (intros; simp_all; done) | grind) ?_
      refine RW_ls (by simp only [List.drop_succ_cons, List.drop_zero]; exact rfl) ?_
      refine RW_callGN q_spec_l5Proto (s_spec_l5Proto _) true rfl rfl (by simp only [go_sem, eCmd, exp_eq]; exact rfl) (fun _ => (by simp only [go_sem, eCmd, exp_eq] <;> and_intros <;> first | with_reducible exact rfl | omega | with_reducible trivial | (intros; simp_all; done) | grind)) (by simp only [go_sem, eCmd, exp_eq]; exact rfl) ?_
      simp only [go_sem, eCmd, exp_eq] <;> and_intros <;> first | with_reducible exact rfl | omega | with_reducible trivial | (intros; simp_all; done) | grind) ?_
    refine CW_seq ?_
    refine CW_cond (by simp only [go_sem, eCmd, exp_eq]; exact rfl) (fun c1 => ?_) (fun c1 => ?_)
    · skip
      skip
      refine W_reg (by simp only [go_sem, eCmd, exp_eq]; exact rfl) ?_
      refine CW_ret ?_
      refine sq_r ?_
      simp only [go_sem, eCmd, exp_eq, cmdFault]
      all_goals try first | refine int_res ?_ | refine bool_res ?_
      all_goals
        grind
    · skip
      skip
      refine CW_skip ?_
      refine sq_n ?_
      refine CW_assoc ?_
      refine W_reg (by simp only [go_sem, eCmd, exp_eq] <;> and_intros <;> first | with_reducible exact rfl | omega | with_reducible trivial | (intros; simp_all; done) | grind) ?_
      refine CW_seq ?_
      refine CW_cond (by simp only [go_sem, eCmd, exp_eq]; exact rfl) (fun c2 => ?_) (fun c2 => ?_)
      · skip
        skip
        refine W_reg (by simp only [go_sem, eCmd, exp_eq]; exact rfl) ?_
        refine CW_ret ?_
        refine sq_r ?_
        simp only [go_sem, eCmd, exp_eq, cmdFault]
        all_goals try first | refine int_res ?_ | refine bool_res ?_
        all_goals
          grind
      · skip
        skip
        refine CW_skip ?_
        refine sq_n ?_
        refine W_reg (by simp only [go_sem, eCmd, exp_eq]; exact rfl) ?_
        refine CW_ret ?_
        simp only [go_sem, eCmd, exp_eq, cmdFault]
        all_goals try first | refine int_res ?_ | refine bool_res ?_
        all_goals
          grind
end Go.H
end
section
set_option maxRecDepth 100000
set_option linter.unusedVariables false
set_option linter.unusedSimpArgs false
namespace Go.H
open Go Go.Proofs.Tryz
def c_spec_EntryFault : SC :=
.seq (rg [
  sk 1 8192 (.box (.t 0)),
  ss 2 (.mv (.i .i64 0))] [1])
  (.seq (.seq (rg [
  ss 4 (.fad (.t 1) 0),
  ss 5 (.load (.t 4) 1 false),
  sk 6 28672 (.call (.f F.spec_l1In) [(.t 5, none), (.i .i64 1, none), (.i .i64 100000, none)]),
  ss 7 (.not (.t 6)),
  ss 8 (.mv (.t 7)),
  sg 9 (.fad (.t 1) 1) 8 false [],
  sg 10 (.load (.t 9) 1 false) 8 false [9],
  ⟨(some 11), .call (.f F.spec_l1In) [(.t 10, none), (.i .i64 0, none), (.i .i64 999, none)], (some (8, false)), [], 0, 49152, [], [10], [], []⟩,
  sg 12 (.not (.t 11)) 8 false [11],
  ss 13 (.pick (.t 8) (.b true) (.t 12)),
  ss 14 (.mv (.t 13)),
  sg 15 (.fad (.t 1) 2) 14 false [],
  sg 16 (.load (.t 15) 1 false) 14 false [15],
  ⟨(some 17), .call (.f F.spec_l1In) [(.t 16, none), (.i .i64 0, none), (.i .i64 1000000, none)], (some (14, false)), [], 0, 73728, [], [16], [], []⟩,
  sg 18 (.not (.t 17)) 14 false [17],
  ss 19 (.pick (.t 14) (.b true) (.t 18))] [1, 19])
  (.cond (.t 19) (.seq (rg [
  ss 2 (.mv (.i .i64 3))] [2])
  (.ret))
  (.skip)))
  (.seq (.seq (rg [
  ss 20 (.fad (.t 1) 1),
  ss 21 (.load (.t 20) 1 false),
  ss 22 (.bin .eql (.t 21) (.i .i64 0)),
  ss 23 (.fad (.t 1) 2),
  ss 24 (.load (.t 23) 1 false),
  ss 25 (.bin .eql (.t 24) (.i .i64 0)),
  ss 26 (.beq true (.t 22) (.t 25))] [1, 26])
  (.cond (.t 26) (.seq (rg [
  ss 2 (.mv (.i .i64 1))] [2])
  (.ret))
  (.skip)))
  (.seq (.seq (rg [
  ss 27 (.fad (.t 1) 1),
  ss 28 (.load (.t 27) 1 false),
  ss 29 (.bin .neq (.t 28) (.i .i64 0))] [1, 29])
  (.cond (.t 29) (.seq (rg [
  ss 30 (.fad (.t 1) 3),
  ss 31 (.load (.t 30) 6 true),
  sk 32 135168 (.call (.f F.spec_CmdFault) [(.t 31, none)]),
  ss 2 (.mv (.t 32))] [2])
  (.ret))
  (.skip)))
  (.seq (rg [
  ss 33 (.bld [.int .i64 0, .int .i64 0, .int .i64 0, .int .i64 0, .int .i64 0, .int .i64 0] []),
  sk 3 16384 (.alloc [.int .i64 0, .int .i64 0, .int .i64 0, .int .i64 0, .int .i64 0, .int .i64 0]),
  sx (.store (.t 3) (.t 33) 6)] [1, 3])
  (.seq (.seq (rg [
  ss 34 (.fad (.t 1) 3),
  ss 35 (.load (.t 34) 6 true),
  ss 36 (.load (.t 3) 6 true),
  ss 37 (.eqa true (.t 35) (.t 36) [1, 1, 1, 1, 1, 1])] [37])
  (.cond (.t 37) (.seq (rg [
  ss 2 (.mv (.i .i64 1))] [2])
  (.ret))
  (.skip)))
  (.seq (rg [
  ss 2 (.mv (.i .i64 0))] [2])
  (.ret)))))))
theorem b_spec_EntryFault : ∃ c, f159.body = some c ∧ compC prog 38 c = some c_spec_EntryFault.er ∧ drawB c c_spec_EntryFault = true := ⟨_, rfl, by kernel_rfl, by kernel_rfl⟩
theorem r_spec_EntryFault : cmpR prog [.tmp 2] = some [.t 2] := by kernel_rfl
theorem q_spec_EntryFault : callB prog F.spec_EntryFault = true := by kernel_rfl
variable [Inv prog]
theorem s_spec_EntryFault (x : Entry) : SemX prog F.spec_EntryFault [aS (eEntry x)] [] [rI (entryFault x)] [] := by
  obtain ⟨cc, g1, g2, g3⟩ := b_spec_EntryFault
  refine SemX.of_code func159 g1 (by rw [ntmps159]; exact g2) g3 (by rw [results159]; exact r_spec_EntryFault) (by rw [ntmps159]; exact Nat.le_of_ble_eq_true rfl) (Nat.le_of_ble_eq_true rfl) (by simp) (by simp [argOk, aT, aI, aS, eEntry]) ?_
  unfold c_spec_EntryFault
  simp only [rg]
  refine W_reg (by simp only [go_sem, eEntry]; exact rfl) ?_
  refine CW_assoc ?_
  refine W_reg (by
    refine RW_cut 2 (by simp only [go_sem, eEntry]; exact rfl) ?_
    refine RW_ls (by simp only [List.drop_succ_cons, List.drop_zero]; exact rfl) ?_
    refine RW_callN q_spec_l1In (s_spec_l1In _ _ _) true [] [] [] rfl rfl (by simp only [go_sem, eEntry] <;> and_intros <;> first | with_reducible exact rfl | omega | with_reducible trivial | (intros; simp_all; done) | grind) (by rfl) (by simp only [go_sem, eEntry]; exact rfl) ?_
    refine RW_cut 4 (by simp only [go_sem, eEntry]; exact rfl) ?_
    refine RW_ls (by simp only [List.drop_succ_cons, List.drop_zero]; exact rfl) ?_
    refine RW_callGN q_spec_l1In (s_spec_l1In _ _ _) true rfl rfl (by simp only [go_sem, eEntry]; exact rfl) (fun _ => (by simp only [go_sem, eEntry] <;> and_intros <;> first | with_reducible exact rfl | omega | with_reducible trivial | (intros; simp_all; done) | grind)) (by simp only [go_sem, eEntry]; exact rfl) ?_
    refine RW_cut 5 (by simp only [go_sem, eEntry]; exact rfl) ?_
    refine RW_ls (by simp only [List.drop_succ_cons, List.drop_zero]; exact rfl) ?_
    refine RW_callGN q_spec_l1In (s_spec_l1In _ _ _) true rfl rfl (by simp only [go_sem, eEntry]; exact rfl) (fun _ => (by simp only [go_sem, eEntry] <;> and_intros <;> first | with_reducible exact rfl | omega | with_reducible trivial | (intros; simp_all; done) | grind)) (by simp only [go_sem, eEntry]; exact rfl) ?_
    simp only [go_sem, eEntry]; exact rfl) ?_
  refine CW_seq ?_
  refine CW_cond (by simp only [go_sem, eEntry]; exact rfl) (fun c0 => ?_) (fun c0 => ?_)
  · skip
    skip
    refine W_reg (by simp only [go_sem, eEntry]; exact rfl) ?_
    refine CW_ret ?_
    refine sq_r ?_
    simp only [go_sem, eEntry, entryFault]
    all_goals try first | refine int_res ?_ | refine bool_res ?_
    all_goals
      simp only [entryFault, cmdZero]
      grind
  · skip
    skip
    refine CW_skip ?_
    refine sq_n ?_
    refine CW_assoc ?_
    refine W_reg (by simp only [go_sem, eEntry]; exact rfl) ?_
    refine CW_seq ?_
    refine CW_cond (by simp only [go_sem, eEntry]; exact rfl) (fun c1 => ?_) (fun c1 => ?_)
    · skip
      skip
      refine W_reg (by simp only [go_sem, eEntry]; exact rfl) ?_
      refine CW_ret ?_
      refine sq_r ?_
      simp only [go_sem, eEntry, entryFault]
      all_goals try first | refine int_res ?_ | refine bool_res ?_
      all_goals
        simp only [entryFault, cmdZero]
        grind
    · skip
      skip
      refine CW_skip ?_
      refine sq_n ?_
      refine CW_assoc ?_
      refine W_reg (by simp only [go_sem, eEntry]; exact rfl) ?_
      refine CW_seq ?_
      refine CW_cond (by simp only [go_sem, eEntry]; exact rfl) (fun c2 => ?_) (fun c2 => ?_)
      · skip
        skip
        refine W_reg (by
          refine RW_cut 2 (by simp only [go_sem, eEntry]; exact rfl) ?_
          refine RW_ls (by simp only [List.drop_succ_cons, List.drop_zero]; exact rfl) ?_
          refine RW_callN q_spec_CmdFault (s_spec_CmdFault _) true [] [] [] rfl rfl (by simp only [go_sem, eEntry] <;> and_intros <;> first | with_reducible exact rfl | omega | with_reducible trivial | (intros; simp_all; done) | grind) (by rfl) (by simp only [go_sem, eEntry]; exact rfl) ?_
          simp only [go_sem, eEntry]; exact rfl) ?_
        refine CW_ret ?_
        refine sq_r ?_
        simp only [go_sem, eEntry, entryFault]
        all_goals try first | refine int_res ?_ | refine bool_res ?_
        all_goals
          simp only [entryFault, cmdZero]
          grind
      · skip
        skip
        refine CW_skip ?_
        refine sq_n ?_
        refine W_reg (by simp only [go_sem, eEntry]; exact rfl) ?_
        refine CW_assoc ?_
        refine W_reg (by simp only [go_sem, eEntry] <;> and_intros <;> first | with_reducible exact rfl | omega | with_reducible trivial | (intros; simp_all; done) | grind) ?_
        refine CW_seq ?_
        refine CW_cond (by simp only [go_sem, eEntry]; exact rfl) (fun c3 => ?_) (fun c3 => ?_)
        · skip
          skip
          refine W_reg (by simp only [go_sem, eEntry]; exact rfl) ?_
          refine CW_ret ?_
          refine sq_r ?_
          simp only [go_sem, eEntry, entryFault]
          all_goals try first | refine int_res ?_ | refine bool_res ?_
          all_goals
            simp only [entryFault, cmdZero]
            grind
        · skip
          skip
          refine CW_skip ?_
          refine sq_n ?_
          refine W_reg (by simp only [go_sem, eEntry]; exact rfl) ?_
          refine CW_ret ?_
          simp only [go_sem, eEntry, entryFault]
          all_goals try first | refine int_res ?_ | refine bool_res ?_
          all_goals
            simp only [entryFault, cmdZero]
            grind
end Go.H
end
section
set_option maxRecDepth 100000
set_option linter.unusedVariables false
set_option linter.unusedSimpArgs false
namespace Go.H
open Go Go.Proofs.Tryz
def c_spec_LogFault : SC :=
.seq (rg [
  ss 2 (.mv (.i .i64 0))] [0])
  (.seq (.seq (rg [
  ss 5 (.mv (.t 0)),
  sk 6 28672 (.len (.t 5)),
  ss 7 (.bin .gtr (.t 6) (.i .i64 40))] [0, 7])
  (.cond (.t 7) (.seq (rg [
  ss 2 (.mv (.i .i64 2))] [2])
  (.ret))
  (.skip)))
  (.seq (.seq (rg [
  ss 3 (.mv (.i .i64 0))] [0, 3])
  (.block 0 (.loop (.seq (.seq (rg [
  ss 8 (.mv (.t 3)),
  ss 9 (.mv (.t 0)),
  sk 10 45056 (.len (.t 9)),
  ss 11 (.bin .lss (.t 8) (.t 10))] [0, 3, 11])
  (.cond (.t 11) (.skip)
  (.exit 0)))
  (.seq (.block 1 (.seq (.seq (rg [
  ss 14 (.mv (.t 0)),
  ss 15 (.mv (.t 3)),
  sd (some 16) 0 0 dEntry (.idx (.t 14) (.t 15) 9),
  sd (some 17) 0 0 dEntry (.load (.t 16) 9 true),
  sk 18 77824 (.call (.f F.spec_EntryFault) [(.t 17, none)]),
  ss 4 (.mv (.t 18))] [0, 3, 4])
  (.seq (rg [
  ss 19 (.mv (.t 4)),
  ss 20 (.bin .neq (.t 19) (.i .i64 0))] [0, 3, 4, 20])
  (.cond (.t 20) (.seq (rg [
  ss 21 (.mv (.t 4)),
  ss 2 (.mv (.t 21))] [2])
  (.ret))
  (.skip))))
  (.seq (.reg true [
    ⟨(some 22), .mv (.t 3), none, [3], 0, 0, [], [], [], []⟩,
    ⟨(some 23), .bin .gtr (.t 22) (.i .i64 0), none, [22], 0, 0, [], [], [], []⟩,
    ⟨(some 24), .mv (.t 23), none, [23], 0, 0, [], [], [], []⟩,
    ⟨(some 25), .mv (.t 0), (some (24, true)), [0, 24], 0, 0, [], [], [], []⟩,
    ⟨(some 26), .mv (.t 3), (some (24, true)), [3, 24], 0, 0, [], [], [], []⟩,
    ⟨(some 27), .idx (.t 25) (.t 26) 9, (some (24, true)), [25, 26, 24], 0, 0, dEntry, [25, 26], [], []⟩,
    ⟨(some 28), .fad (.t 27) 0, (some (24, true)), [27, 24], 0, 0, [], [27], [], []⟩,
    ⟨(some 29), .load (.t 28) 1 false, (some (24, true)), [28, 24], 0, 0, dEntry, [28], [], []⟩,
    ⟨(some 30), .mv (.t 0), (some (24, true)), [0, 24], 0, 0, [], [], [], []⟩,
    ⟨(some 31), .mv (.t 3), (some (24, true)), [3, 24], 0, 0, [], [], [], []⟩,
    ⟨(some 32), .bin .sub (.t 31) (.i .i64 1), (some (24, true)), [31, 24], 1, 0, [], [31], [], []⟩,
    ⟨(some 33), .idx (.t 30) (.t 32) 9, (some (24, true)), [30, 32, 24], 0, 0, dEntry, [30, 32], [], []⟩,
    ⟨(some 34), .fad (.t 33) 0, (some (24, true)), [33, 24], 0, 0, [], [33], [], []⟩,
    ⟨(some 35), .load (.t 34) 1 false, (some (24, true)), [34, 24], 0, 0, dEntry, [34], [], []⟩,
    ⟨(some 36), .bin .lss (.t 29) (.t 35), (some (24, true)), [29, 35, 24], 0, 0, [], [29, 35], [], []⟩,
    ⟨(some 37), .pick (.t 24) (.t 36) (.b false), none, [24, 36], 0, 0, [], [], [], []⟩] (some ([0, 3, 37], [])))
  (.cond (.t 37) (.seq (rg [
  ss 2 (.mv (.i .i64 1))] [2])
  (.ret))
  (.skip)))))
  (rg [
  ss 12 (.mv (.t 3)),
  sh 13 1 (.bin .add (.t 12) (.i .i64 1)),
  ss 3 (.mv (.t 13))] [0, 3]))))))
  (.seq (rg [
  ss 2 (.mv (.i .i64 0))] [2])
  (.ret))))
theorem b_spec_LogFault : ∃ c, f169.body = some c ∧ compC prog 38 c = some c_spec_LogFault.er ∧ drawB c c_spec_LogFault = true := ⟨_, rfl, by kernel_rfl, by kernel_rfl⟩
theorem r_spec_LogFault : cmpR prog [.tmp 2] = some [.t 2] := by kernel_rfl
theorem q_spec_LogFault : callB prog F.spec_LogFault = true := by kernel_rfl
variable [Inv prog]
theorem s_spec_LogFault (xs : List Entry) (hl : xs.length ≤ 9223372036854775807) : SemX prog F.spec_LogFault [aT (.sl false 9 (xs.map eEntry))] [] [rI (logFault xs)] [] := by
  obtain ⟨cc, g1, g2, g3⟩ := b_spec_LogFault
  refine SemX.of_code func169 g1 (by rw [ntmps169]; exact g2) g3 (by rw [results169]; exact r_spec_LogFault) (by rw [ntmps169]; exact Nat.le_of_ble_eq_true rfl) (Nat.le_of_ble_eq_true rfl) (by simp) (by simp [argOk, aT, aI, aS, eEntry]) ?_
  unfold c_spec_LogFault
  simp only [rg]
  refine W_reg (by simp only [go_sem, eEntry]; exact rfl) ?_
  refine CW_assoc ?_
  refine W_reg (by simp only [go_sem, eEntry]; exact rfl) ?_
  refine CW_seq ?_
  refine CW_cond (by simp only [go_sem, eEntry]; exact rfl) (fun c0 => ?_) (fun c0 => ?_)
  · skip
    try simp only [b1, b2, b3, b4, b5, b6, b7] at c0
    refine W_reg (by simp only [go_sem, eEntry]; exact rfl) ?_
    refine CW_ret ?_
    refine sq_r ?_
    simp only [go_sem, eEntry]
    all_goals try first | refine int_res ?_ | refine bool_res ?_
    all_goals
      rw [logFault, if_pos (by omega)]
  · skip
    try simp only [b1, b2, b3, b4, b5, b6, b7] at c0
    refine CW_skip ?_
    refine sq_n ?_
    refine CW_assoc ?_
    refine W_reg (by simp only [go_sem, eEntry]; exact rfl) ?_
    refine CW_seq ?_
    refine CW_block ?_
    refine CW_loopS (α := Nat) (fun x => [(3, .int .i64 x)]) (fun x => []) (fun x => xs.length - x) (fun x => x ≤ xs.length ∧ logFault xs = scan (logBad xs) xs.length x) 0 [] ?_ ?_ ?_
    · (simp only [go_sem, eEntry])
    · exact ⟨Nat.zero_le _, by simp only [logFault]; rw [if_neg (by omega)]⟩
    · rintro x ⟨hI, he⟩
      refine CW_eq (by simp only [go_sem, eEntry]; exact rfl) ?_
      refine CW_assoc ?_
      refine W_reg (by simp only [go_sem, eEntry]; exact rfl) ?_
      refine CW_seq ?_
      refine CW_cond (by simp only [go_sem, eEntry]; exact rfl) (fun c1 => ?_) (fun c1 => ?_)
      · skip
        try simp only [Bool.not_eq_eq_eq_not, Bool.not_true, Bool.not_false, decide_eq_true_eq, decide_eq_false_iff_not, Bool.and_eq_true, Bool.or_eq_true] at c1
        refine CW_skip ?_
        refine sq_n ?_
        refine CW_seq ?_
        refine CW_block ?_
        refine CW_assoc ?_
        refine W_reg (by
          refine RW_cut 4 (by simp only [go_sem, eEntry] <;> and_intros <;> first | with_reducible exact rfl | omega | with_reducible trivial | (intros; simp_all; done) | grind) ?_
          refine RW_ls (by simp only [List.drop_succ_cons, List.drop_zero]; exact rfl) ?_
          refine RW_callN q_spec_EntryFault (s_spec_EntryFault _) true [] [] [] rfl rfl (by simp only [go_sem, eEntry] <;> and_intros <;> first | with_reducible exact rfl | omega | with_reducible trivial | (intros; simp_all; done) | grind) (by rfl) (by simp only [go_sem, eEntry]; exact rfl) ?_
          simp only [go_sem, eEntry]; exact rfl) ?_
        refine CW_assoc ?_
        refine W_reg (by simp only [go_sem, eEntry]; exact rfl) ?_
        refine CW_seq ?_
        refine CW_cond (by simp only [go_sem, eEntry]; exact rfl) (fun c2 => ?_) (fun c2 => ?_)
        · skip
          try simp only [b1, b2, b3, b4, b5, b6, b7] at c2
          refine W_reg (by simp only [go_sem, eEntry]; exact rfl) ?_
          refine CW_ret ?_
          refine sq_r ?_
          refine bk_r ?_
          refine sq_r ?_
          refine lp_r ?_
          refine bk_r ?_
          refine sq_r ?_
          simp only [go_sem, eEntry]
          all_goals try first | refine int_res ?_ | refine bool_res ?_
          all_goals
            rw [he, scan_lt (by omega)]
            simp only [logBad]
            grind
        · skip
          try simp only [b1, b2, b3, b4, b5, b6, b7] at c2
          refine CW_skip ?_
          refine sq_n ?_
          refine W_drw (by simp only [go_sem, eEntry] <;> and_intros <;> first | with_reducible exact rfl | omega | with_reducible trivial | (intros; simp_all; done) | grind) ?_
          refine CW_cond (by simp only [go_sem, eEntry]; exact rfl) (fun c3 => ?_) (fun c3 => ?_)
          · skip
            try simp only [b1, b2, b3, b4, b5, b6, b7] at c3
            refine W_reg (by simp only [go_sem, eEntry]; exact rfl) ?_
            refine CW_ret ?_
            refine bk_r ?_
            refine sq_r ?_
            refine lp_r ?_
            refine bk_r ?_
            refine sq_r ?_
            simp only [go_sem, eEntry]
            all_goals try first | refine int_res ?_ | refine bool_res ?_
            all_goals
              rw [he, scan_lt (by omega)]
              simp only [logBad]
              grind
          · skip
            try simp only [b1, b2, b3, b4, b5, b6, b7] at c3
            refine CW_skip ?_
            refine bk_n ?_
            refine sq_n ?_
            refine W_regn (by simp only [go_sem, eEntry] <;> and_intros <;> first | with_reducible exact rfl | omega | with_reducible trivial | (intros; simp_all; done) | grind) ?_
            refine lp_next (x+1) [] ?_ ?_ ?_
            · (simp only [go_sem, eEntry])
            · refine ⟨by omega, ?_⟩
              rw [he, scan_lt (by omega)]
              simp only [logBad]
              grind
            · omega
      · skip
        try simp only [Bool.not_eq_eq_eq_not, Bool.not_true, Bool.not_false, decide_eq_true_eq, decide_eq_false_iff_not, Bool.and_eq_true, Bool.or_eq_true] at c1
        obtain rfl : x = xs.length := by omega
        refine CW_exit ?_
        refine sq_e ?_
        refine lp_e ?_
        refine bk_i ?_
        refine sq_n ?_
        refine W_reg (by simp only [go_sem, eEntry]; exact rfl) ?_
        refine CW_ret ?_
        simp only [go_sem, eEntry]
        all_goals try first | refine int_res ?_ | refine bool_res ?_
        all_goals
          rw [he, scan_ge (by omega)]
end Go.H
end
section
set_option maxRecDepth 100000
set_option linter.unusedVariables false
set_option linter.unusedSimpArgs false
namespace Go.H
open Go Go.Proofs.Tryz
def c_spec_l8Rises : SC :=
.seq (rg [
  ss 2 (.mv (.b false))] [0])
  (.seq (.seq (rg [
  ss 3 (.mv (.i .i64 1))] [0, 3])
  (.block 0 (.loop (.seq (.seq (rg [
  ss 4 (.mv (.t 3)),
  ss 5 (.mv (.t 0)),
  sk 6 28672 (.len (.t 5)),
  ss 7 (.bin .lss (.t 4) (.t 6))] [0, 3, 7])
  (.cond (.t 7) (.skip)
  (.exit 0)))
  (.seq (.block 1 (.seq (.reg true [
    ⟨(some 10), .mv (.t 0), none, [0], 0, 0, [], [], [], []⟩,
    ⟨(some 11), .mv (.t 3), none, [3], 0, 0, [], [], [], []⟩,
    ⟨(some 12), .idx (.t 10) (.t 11) 1, none, [10, 11], 0, 0, dI_i64, [], [], []⟩,
    ⟨(some 13), .load (.t 12) 1 false, none, [12], 0, 0, dI_i64, [], [], []⟩,
    ⟨(some 14), .mv (.t 0), none, [0], 0, 0, [], [], [], []⟩,
    ⟨(some 15), .mv (.t 3), none, [3], 0, 0, [], [], [], []⟩,
    ⟨(some 16), .bin .sub (.t 15) (.i .i64 1), none, [15], 1, 0, [], [], [], []⟩,
    ⟨(some 17), .idx (.t 14) (.t 16) 1, none, [14, 16], 0, 0, dI_i64, [], [], []⟩,
    ⟨(some 18), .load (.t 17) 1 false, none, [17], 0, 0, dI_i64, [], [], []⟩,
    ⟨(some 19), .bin .leq (.t 13) (.t 18), none, [13, 18], 0, 0, [], [], [], []⟩] (some ([0, 3, 19], [])))
  (.cond (.t 19) (.seq (rg [
  ss 2 (.mv (.b false))] [2])
  (.ret))
  (.skip))))
  (rg [
  ss 8 (.mv (.t 3)),
  sh 9 1 (.bin .add (.t 8) (.i .i64 1)),
  ss 3 (.mv (.t 9))] [0, 3]))))))
  (.seq (rg [
  ss 2 (.mv (.b true))] [2])
  (.ret)))
theorem b_spec_l8Rises : ∃ c, f191.body = some c ∧ compC prog 20 c = some c_spec_l8Rises.er ∧ drawB c c_spec_l8Rises = true := ⟨_, rfl, by kernel_rfl, by kernel_rfl⟩
theorem r_spec_l8Rises : cmpR prog [.tmp 2] = some [.t 2] := by kernel_rfl
theorem q_spec_l8Rises : callB prog F.spec_l8Rises = true := by kernel_rfl
variable [Inv prog]
theorem s_spec_l8Rises (xs : List Int) (hl : xs.length ≤ 2097152) : SemX prog F.spec_l8Rises [aT (.sl false 1 (xs.map eI_i64))] [] [rB (decide (rises xs))] [] := by
  obtain ⟨cc, g1, g2, g3⟩ := b_spec_l8Rises
  refine SemX.of_code func191 g1 (by rw [ntmps191]; exact g2) g3 (by rw [results191]; exact r_spec_l8Rises) (by rw [ntmps191]; exact Nat.le_of_ble_eq_true rfl) (Nat.le_of_ble_eq_true rfl) (by simp) (by simp [argOk, aT, aI, aS, eI_i64]) ?_
  unfold c_spec_l8Rises
  simp only [rg]
  refine W_reg (by simp only [go_sem, eI_i64]; exact rfl) ?_
  refine CW_assoc ?_
  refine W_reg (by simp only [go_sem, eI_i64]; exact rfl) ?_
  refine CW_seq ?_
  refine CW_block ?_
  refine CW_loopS (α := Nat) (fun x => [(3, .int .i64 (x + 1 : Nat))]) (fun x => []) (fun x => xs.length + 1 - x) (fun x => (x = 0 ∨ x < xs.length) ∧ ∀ i, 0 < i → i ≤ x → xs.getD (i - 1) zI_i64 < xs.getD i zI_i64) 0 [] ?_ ?_ ?_
  · (simp only [go_sem, eI_i64])
  · exact ⟨.inl rfl, fun i hi h2 => absurd hi (by omega)⟩
  · rintro x ⟨hI, hj⟩
    refine CW_eq (by simp only [go_sem, eI_i64]; exact rfl) ?_
    refine CW_assoc ?_
    refine W_reg (by simp only [go_sem, eI_i64]; exact rfl) ?_
    refine CW_seq ?_
    refine CW_cond (by simp only [go_sem, eI_i64]; exact rfl) (fun c0 => ?_) (fun c0 => ?_)
    · skip
      try simp only [b1, b2, b3, b4, b5, b6, b7] at c0
      refine CW_skip ?_
      refine sq_n ?_
      refine CW_seq ?_
      refine CW_block ?_
      refine W_drw (by simp only [go_sem, eI_i64] <;> and_intros <;> first | with_reducible exact rfl | omega | with_reducible trivial | (intros; simp_all; done) | grind) ?_
      refine CW_cond (by simp only [go_sem, eI_i64]; exact rfl) (fun c1 => ?_) (fun c1 => ?_)
      · skip
        try simp only [b1, b2, b3, b4, b5, b6, b7] at c1
        refine W_reg (by simp only [go_sem, eI_i64]; exact rfl) ?_
        refine CW_ret ?_
        refine bk_r ?_
        refine sq_r ?_
        refine lp_r ?_
        refine bk_r ?_
        refine sq_r ?_
        simp only [go_sem, eI_i64]
        all_goals try first | refine int_res ?_ | refine bool_res ?_
        all_goals
          rw [decide_eq_false]
          intro h
          have := h (x + 1) (by omega) (by omega)
          simp only [Nat.add_sub_cancel] at this
          grind
      · skip
        try simp only [b1, b2, b3, b4, b5, b6, b7] at c1
        refine CW_skip ?_
        refine bk_n ?_
        refine sq_n ?_
        refine W_regn (by simp only [go_sem, eI_i64] <;> and_intros <;> first | with_reducible exact rfl | omega | with_reducible trivial | (intros; simp_all; done) | grind) ?_
        refine lp_next (x+1) [] ?_ ?_ ?_
        · (simp only [go_sem, eI_i64])
        · refine ⟨by omega, fun i hi h2 => ?_⟩
          rcases Nat.lt_or_ge x i with h | h
          · rw [show i = x + 1 by omega]; simp only [Nat.add_sub_cancel]; grind
          · exact hj i hi h
        · omega
    · skip
      try simp only [b1, b2, b3, b4, b5, b6, b7] at c0
      refine CW_exit ?_
      refine sq_e ?_
      refine lp_e ?_
      refine bk_i ?_
      refine sq_n ?_
      refine W_reg (by simp only [go_sem, eI_i64]; exact rfl) ?_
      refine CW_ret ?_
      simp only [go_sem, eI_i64]
      all_goals try first | refine int_res ?_ | refine bool_res ?_
      all_goals
        rw [decide_eq_true]
        intro i h1 h2
        exact hj i h1 (by omega)
end Go.H
end
section
set_option maxRecDepth 100000
set_option linter.unusedVariables false
set_option linter.unusedSimpArgs false
namespace Go.H
open Go Go.Proofs.Tryz
def c_spec_l8Lists : SC :=
.seq (rg [
  ss 2 (.mv (.b false))] [0])
  (.seq (.seq (rg [
  ss 5 (.mv (.t 0)),
  ss 6 (.nck (.t 5)),
  ss 7 (.fad (.t 6) 7),
  ss 8 (.load (.t 7) 1 false),
  sk 9 40960 (.call (.f F.spec_l8Rises) [(.t 8, none)]),
  ss 10 (.not (.t 9)),
  ss 11 (.mv (.t 10)),
  sg 12 (.mv (.t 0)) 11 false [],
  sg 13 (.nck (.t 12)) 11 false [12],
  sg 14 (.fad (.t 13) 7) 11 false [13],
  sg 15 (.load (.t 14) 1 false) 11 false [14],
  ⟨(some 16), .len (.t 15), (some (11, false)), [], 0, 69632, [], [15], [], []⟩,
  sg 17 (.bin .gtr (.t 16) (.i .i64 0)) 11 false [16],
  sg 18 (.mv (.t 17)) 11 false [17],
  sg 19 (.mv (.t 0)) 18 true [],
  sg 20 (.nck (.t 19)) 18 true [19],
  sg 21 (.fad (.t 20) 5) 18 true [20],
  sg 22 (.load (.t 21) 1 false) 18 true [21],
  sg 23 (.bin .neq (.t 22) (.i .i64 1)) 18 true [22],
  sg 24 (.pick (.t 18) (.t 23) (.b false)) 11 false [18],
  ss 25 (.pick (.t 11) (.b true) (.t 24))] [0, 25])
  (.cond (.t 25) (.seq (rg [
  ss 2 (.mv (.b false))] [2])
  (.ret))
  (.skip)))
  (.seq (.seq (rg [
  ss 3 (.mv (.i .i64 0))] [0, 3])
  (.block 0 (.loop (.seq (.seq (rg [
  ss 26 (.mv (.t 3)),
  ss 27 (.mv (.t 0)),
  ss 28 (.nck (.t 27)),
  ss 29 (.fad (.t 28) 7),
  ss 30 (.load (.t 29) 1 false),
  sk 31 131072 (.len (.t 30)),
  ss 32 (.bin .lss (.t 26) (.t 31))] [0, 3, 32])
  (.cond (.t 32) (.skip)
  (.exit 0)))
  (.seq (.block 1 (.seq (rg [
  ss 35 (.mv (.t 0)),
  ss 36 (.mv (.t 0)),
  ss 37 (.nck (.t 36)),
  ss 38 (.fad (.t 37) 7),
  ss 39 (.load (.t 38) 1 false),
  ss 40 (.mv (.t 3)),
  sd (some 41) 0 0 dI_i64 (.idx (.t 39) (.t 40) 1),
  sd (some 42) 0 0 dI_i64 (.load (.t 41) 1 false),
  sk 43 180224 (.call (.f F.spec_l8Id) [(.t 35, some 10), (.t 42, none)]),
  ss 44 (.not (.t 43))] [0, 3, 44])
  (.cond (.t 44) (.seq (rg [
  ss 2 (.mv (.b false))] [2])
  (.ret))
  (.skip))))
  (rg [
  ss 33 (.mv (.t 3)),
  sh 34 1 (.bin .add (.t 33) (.i .i64 1)),
  ss 3 (.mv (.t 34))] [0, 3]))))))
  (.seq (rg [
  ss 4 (.mv (.i .i64 0))] [0, 4])
  (.seq (.seq (rg [
  ss 45 (.mv (.t 0)),
  ss 46 (.nck (.t 45)),
  ss 47 (.fad (.t 46) 5),
  ss 48 (.load (.t 47) 1 false),
  ss 49 (.bin .eql (.t 48) (.i .i64 2))] [0, 4, 49])
  (.cond (.t 49) (rg [
  ss 50 (.mv (.t 0)),
  ss 51 (.nck (.t 50)),
  ss 52 (.fad (.t 51) 1),
  ss 53 (.load (.t 52) 1 false),
  ss 4 (.mv (.t 53))] [0, 4])
  (.skip)))
  (.seq (rg [
  ss 54 (.mv (.t 0)),
  ss 55 (.nck (.t 54)),
  ss 56 (.fad (.t 55) 8),
  ss 57 (.load (.t 56) 1 false),
  sk 58 241664 (.len (.t 57)),
  ss 59 (.mv (.t 4)),
  ss 60 (.bin .eql (.t 58) (.t 59)),
  ss 61 (.mv (.t 60)),
  sg 62 (.mv (.t 0)) 61 true [],
  sg 63 (.nck (.t 62)) 61 true [62],
  sg 64 (.fad (.t 63) 9) 61 true [63],
  sg 65 (.load (.t 64) 1 false) 61 true [64],
  ⟨(some 66), .len (.t 65), (some (61, true)), [], 0, 274432, [], [65], [], []⟩,
  sg 67 (.mv (.t 4)) 61 true [],
  sg 68 (.bin .eql (.t 66) (.t 67)) 61 true [66, 67],
  ss 69 (.pick (.t 61) (.t 68) (.b false)),
  ss 2 (.mv (.t 69))] [2])
  (.ret))))))
theorem b_spec_l8Lists : ∃ c, f170.body = some c ∧ compC prog 70 c = some c_spec_l8Lists.er ∧ drawB c c_spec_l8Lists = true := ⟨_, rfl, by kernel_rfl, by kernel_rfl⟩
theorem r_spec_l8Lists : cmpR prog [.tmp 2] = some [.t 2] := by kernel_rfl
theorem q_spec_l8Lists : callB prog F.spec_l8Lists = true := by kernel_rfl
variable [Inv prog]
theorem s_spec_l8Lists (x : Node) (hx : limN 2097152 x) : SemX prog F.spec_l8Lists [aT (.ptr (eNode false x))] [] [rB (decide (listsOk x))] [] := by
  obtain ⟨cc, g1, g2, g3⟩ := b_spec_l8Lists
  refine SemX.of_code func170 g1 (by rw [ntmps170]; exact g2) g3 (by rw [results170]; exact r_spec_l8Lists) (by rw [ntmps170]; exact Nat.le_of_ble_eq_true rfl) (Nat.le_of_ble_eq_true rfl) (by simp) (by simp [argOk, aT, aI, aS, eNode]) ?_
  unfold c_spec_l8Lists
  simp only [rg]
  obtain ⟨hx1, hx2, hx3, hx4⟩ := id hx
  refine W_reg (by simp only [go_sem, eNode]; exact rfl) ?_
  refine CW_assoc ?_
  refine W_reg (by
    refine RW_cut 4 (by simp only [go_sem, eNode]; exact rfl) ?_
    refine RW_ls (by simp only [List.drop_succ_cons, List.drop_zero]; exact rfl) ?_
    refine RW_callN q_spec_l8Rises (s_spec_l8Rises x.votes hx.2.1) true [] [] [] rfl rfl (by simp only [go_sem, eNode]; exact rfl) (by rfl) (by simp only [go_sem, eNode]; exact rfl) ?_
    simp only [go_sem, eNode] <;> and_intros <;> first | with_reducible exact rfl | omega | with_reducible trivial | (intros; simp_all; done) | grind) ?_
  refine CW_seq ?_
  refine CW_cond (by simp only [go_sem, eNode]; exact rfl) (fun c0 => ?_) (fun c0 => ?_)
  · skip
    skip
    refine W_reg (by simp only [go_sem, eNode]; exact rfl) ?_
    refine CW_ret ?_
    refine sq_r ?_
    simp only [go_sem, eNode]
    all_goals try first | refine int_res ?_ | refine bool_res ?_
    all_goals
      symm
      rw [decide_eq_false_iff_not]
      unfold listsOk
      grind
  · skip
    skip
    refine CW_skip ?_
    refine sq_n ?_
    refine CW_assoc ?_
    refine W_reg (by simp only [go_sem, eNode]; exact rfl) ?_
    refine CW_seq ?_
    refine CW_block ?_
    refine CW_loopS (α := Nat) (fun i => [(3, .int .i64 i)]) (fun i => []) (fun i => x.votes.length - i) (fun i => i ≤ x.votes.length ∧ ∀ j, j < i → isId x (x.votes.getD j zI_i64) = true) 0 [] ?_ ?_ ?_
    · (simp only [go_sem, eNode])
    · exact ⟨Nat.zero_le _, fun j hj => absurd hj (by omega)⟩
    · rintro i ⟨hI, hj⟩
      refine CW_eq (by simp only [go_sem, eNode]; exact rfl) ?_
      refine CW_assoc ?_
      refine W_reg (by simp only [go_sem, eNode]; exact rfl) ?_
      refine CW_seq ?_
      refine CW_cond (by simp only [go_sem, eNode]; exact rfl) (fun c1 => ?_) (fun c1 => ?_)
      · skip
        try simp only [Bool.not_eq_eq_eq_not, Bool.not_true, Bool.not_false, decide_eq_true_eq, decide_eq_false_iff_not, Bool.and_eq_true, Bool.or_eq_true] at c1
        refine CW_skip ?_
        refine sq_n ?_
        refine CW_seq ?_
        refine CW_block ?_
        refine W_reg (by
          refine RW_cut 8 (by simp only [go_sem, eNode] <;> and_intros <;> first | with_reducible exact rfl | omega | with_reducible trivial | (intros; simp_all; done) | grind) ?_
          refine RW_ls (by simp only [List.drop_succ_cons, List.drop_zero]; exact rfl) ?_
          refine RW_callN q_spec_l8Id (s_spec_l8Id x (x.votes.getD i zI_i64)) true [] [] [] rfl rfl (by simp only [go_sem, eNode, eNode]; exact rfl) (by rfl) (by simp only [go_sem, eNode]; exact rfl) ?_
          simp only [go_sem, eNode]; exact rfl) ?_
        refine CW_cond (by simp only [go_sem, eNode]; exact rfl) (fun c2 => ?_) (fun c2 => ?_)
        · skip
          skip
          refine W_reg (by simp only [go_sem, eNode]; exact rfl) ?_
          refine CW_ret ?_
          refine bk_r ?_
          refine sq_r ?_
          refine lp_r ?_
          refine bk_r ?_
          refine sq_r ?_
          simp only [go_sem, eNode]
          all_goals try first | refine int_res ?_ | refine bool_res ?_
          all_goals
            symm
            rw [decide_eq_false_iff_not]
            unfold listsOk idsOk
            grind
        · skip
          skip
          refine CW_skip ?_
          refine bk_n ?_
          refine sq_n ?_
          refine W_regn (by simp only [go_sem, eNode] <;> and_intros <;> first | with_reducible exact rfl | omega | with_reducible trivial | (intros; simp_all; done) | grind) ?_
          refine lp_next (i+1) [] ?_ ?_ ?_
          · (simp only [go_sem, eNode])
          · refine ⟨by omega, fun j hj2 => ?_⟩
            rcases Nat.lt_or_ge j i with h | h
            · exact hj j h
            · rw [show j = i by omega]; simpa using c2
          · omega
      · skip
        try simp only [Bool.not_eq_eq_eq_not, Bool.not_true, Bool.not_false, decide_eq_true_eq, decide_eq_false_iff_not, Bool.and_eq_true, Bool.or_eq_true] at c1
        obtain rfl : i = x.votes.length := by omega
        refine CW_exit ?_
        refine sq_e ?_
        refine lp_e ?_
        refine bk_i ?_
        refine sq_n ?_
        refine W_reg (by simp only [go_sem, eNode]; exact rfl) ?_
        refine CW_assoc ?_
        refine W_reg (by simp only [go_sem, eNode]; exact rfl) ?_
        refine CW_seq ?_
        refine CW_cond (by simp only [go_sem, eNode]; exact rfl) (fun c3 => ?_) (fun c3 => ?_)
        · skip
          skip
          refine W_regn (by simp only [go_sem, eNode]; exact rfl) ?_
          refine sq_n ?_
          refine W_reg (by simp only [go_sem, eNode]; exact rfl) ?_
          refine CW_ret ?_
          simp only [go_sem, eNode]
          all_goals try first | refine int_res ?_ | refine bool_res ?_
          all_goals
            rw [Bool.eq_iff_iff]
            simp only [listsOk, idsOk, due]
            have hl1 := hx.2.1
            grind
        · skip
          skip
          refine CW_skip ?_
          refine sq_n ?_
          refine W_reg (by simp only [go_sem, eNode]; exact rfl) ?_
          refine CW_ret ?_
          simp only [go_sem, eNode]
          all_goals try first | refine int_res ?_ | refine bool_res ?_
          all_goals
            rw [Bool.eq_iff_iff]
            simp only [listsOk, idsOk, due]
            have hl1 := hx.2.1
            grind
end Go.H
end
section
set_option maxRecDepth 100000
set_option linter.unusedVariables false
set_option linter.unusedSimpArgs false
namespace Go.H
open Go Go.Proofs.Tryz
def c_spec_l8Fault : SC :=
.seq (rg [
  ss 2 (.mv (.i .i64 0))] [0])
  (.seq (.seq (.reg true [
    ⟨(some 6), .mv (.t 0), none, [0], 0, 0, [], [], [], []⟩,
    ⟨(some 7), .nck (.t 6), none, [6], 0, 0, [], [], [], []⟩,
    ⟨(some 8), .fad (.t 7) 1, none, [7], 0, 0, [], [], [], []⟩,
    ⟨(some 9), .load (.t 8) 1 false, none, [8], 0, 0, [], [], [], []⟩,
    ⟨(some 10), .call (.f F.spec_l1In) [(.t 9, none), (.i .i64 1, none), (.i .i64 5, none)], none, [9], 0, 45056, [], [], [], []⟩,
    ⟨(some 11), .not (.t 10), none, [10], 0, 0, [], [], [], []⟩,
    ⟨(some 12), .mv (.t 11), none, [11], 0, 0, [], [], [], []⟩,
    ⟨(some 13), .mv (.t 0), (some (12, false)), [0, 12], 0, 0, [], [], [], []⟩,
    ⟨(some 14), .mv (.t 0), (some (12, false)), [0, 12], 0, 0, [], [], [], []⟩,
    ⟨(some 15), .nck (.t 14), (some (12, false)), [14, 12], 0, 0, [], [14], [], []⟩,
    ⟨(some 16), .fad (.t 15) 0, (some (12, false)), [15, 12], 0, 0, [], [15], [], []⟩,
    ⟨(some 17), .load (.t 16) 1 false, (some (12, false)), [16, 12], 0, 0, [], [16], [], []⟩,
    ⟨(some 18), .call (.f F.spec_l8Id) [(.t 13, some 10), (.t 17, none)], (some (12, false)), [13, 17, 12], 0, 77824, [], [13, 17], [], []⟩,
    ⟨(some 19), .not (.t 18), (some (12, false)), [18, 12], 0, 0, [], [18], [], []⟩,
    ⟨(some 20), .pick (.t 12) (.b true) (.t 19), none, [12, 19], 0, 0, [], [], [], []⟩,
    ⟨(some 21), .mv (.t 20), none, [20], 0, 0, [], [], [], []⟩,
    ⟨(some 22), .mv (.t 0), (some (21, false)), [0, 21], 0, 0, [], [], [], []⟩,
    ⟨(some 23), .nck (.t 22), (some (21, false)), [22, 21], 0, 0, [], [22], [], []⟩,
    ⟨(some 24), .fad (.t 23) 2, (some (21, false)), [23, 21], 0, 0, [], [23], [], []⟩,
    ⟨(some 25), .load (.t 24) 1 false, (some (21, false)), [24, 21], 0, 0, [], [24], [], []⟩,
    ⟨(some 26), .call (.f F.spec_l1In) [(.t 25, none), (.i .i64 0, none), (.i .i64 100000, none)], (some (21, false)), [25, 21], 0, 110592, [], [25], [], []⟩,
    ⟨(some 27), .not (.t 26), (some (21, false)), [26, 21], 0, 0, [], [26], [], []⟩,
    ⟨(some 28), .pick (.t 21) (.b true) (.t 27), none, [21, 27], 0, 0, [], [], [], []⟩,
    ⟨(some 29), .mv (.t 28), none, [28], 0, 0, [], [], [], []⟩,
    ⟨(some 30), .mv (.t 0), (some (29, false)), [0, 29], 0, 0, [], [], [], []⟩,
    ⟨(some 31), .nck (.t 30), (some (29, false)), [30, 29], 0, 0, [], [30], [], []⟩,
    ⟨(some 32), .fad (.t 31) 3, (some (29, false)), [31, 29], 0, 0, [], [31], [], []⟩,
    ⟨(some 33), .load (.t 32) 1 false, (some (29, false)), [32, 29], 0, 0, [], [32], [], []⟩,
    ⟨(some 34), .mv (.t 0), (some (29, false)), [0, 29], 0, 0, [], [], [], []⟩,
    ⟨(some 35), .nck (.t 34), (some (29, false)), [34, 29], 0, 0, [], [34], [], []⟩,
    ⟨(some 36), .fad (.t 35) 1, (some (29, false)), [35, 29], 0, 0, [], [35], [], []⟩,
    ⟨(some 37), .load (.t 36) 1 false, (some (29, false)), [36, 29], 0, 0, [], [36], [], []⟩,
    ⟨(some 38), .bin .sub (.t 37) (.i .i64 1), (some (29, false)), [37, 29], 0, 0, [], [37], [], []⟩,
    ⟨(some 39), .call (.f F.spec_l1In) [(.t 33, none), (.i .i64 (-1), none), (.t 38, none)], (some (29, false)), [33, 38, 29], 0, 163840, [], [33, 38], [], []⟩,
    ⟨(some 40), .not (.t 39), (some (29, false)), [39, 29], 0, 0, [], [39], [], []⟩,
    ⟨(some 41), .pick (.t 29) (.b true) (.t 40), none, [29, 40], 0, 0, [], [], [], []⟩,
    ⟨(some 42), .mv (.t 41), none, [41], 0, 0, [], [], [], []⟩,
    ⟨(some 43), .mv (.t 0), (some (42, false)), [0, 42], 0, 0, [], [], [], []⟩,
    ⟨(some 44), .nck (.t 43), (some (42, false)), [43, 42], 0, 0, [], [43], [], []⟩,
    ⟨(some 45), .fad (.t 44) 5, (some (42, false)), [44, 42], 0, 0, [], [44], [], []⟩,
    ⟨(some 46), .load (.t 45) 1 false, (some (42, false)), [45, 42], 0, 0, [], [45], [], []⟩,
    ⟨(some 47), .call (.f F.spec_l1In) [(.t 46, none), (.i .i64 0, none), (.i .i64 2, none)], (some (42, false)), [46, 42], 0, 196608, [], [46], [], []⟩,
    ⟨(some 48), .not (.t 47), (some (42, false)), [47, 42], 0, 0, [], [47], [], []⟩,
    ⟨(some 49), .pick (.t 42) (.b true) (.t 48), none, [42, 48], 0, 0, [], [], [], []⟩] (some ([0, 49], [])))
  (.cond (.t 49) (.seq (rg [
  ss 2 (.mv (.i .i64 3))] [2])
  (.ret))
  (.skip)))
  (.seq (.seq (rg [
  ss 50 (.mv (.t 0)),
  ss 51 (.nck (.t 50)),
  ss 52 (.fad (.t 51) 4),
  ss 53 (.load (.t 52) 1 false),
  sk 54 225280 (.call (.f F.spec_LogFault) [(.t 53, none)]),
  ss 3 (.mv (.t 54))] [0, 3])
  (.seq (rg [
  ss 55 (.mv (.t 3)),
  ss 56 (.bin .neq (.t 55) (.i .i64 0))] [0, 3, 56])
  (.cond (.t 56) (.seq (rg [
  ss 57 (.mv (.t 3)),
  ss 2 (.mv (.t 57))] [2])
  (.ret))
  (.skip))))
  (.seq (.seq (.reg true [
    ⟨(some 58), .mv (.t 0), none, [0], 0, 0, [], [], [], []⟩,
    ⟨(some 59), .nck (.t 58), none, [58], 0, 0, [], [], [], []⟩,
    ⟨(some 60), .fad (.t 59) 4, none, [59], 0, 0, [], [], [], []⟩,
    ⟨(some 61), .load (.t 60) 1 false, none, [60], 0, 0, [], [], [], []⟩,
    ⟨(some 62), .call (.f F.spec_LastOf) [(.t 61, none)], none, [61], 0, 258048, [], [], [], []⟩,
    ⟨(some 63), .fld (.t 62) 0 1 false, none, [62], 0, 0, [], [], [], []⟩,
    ⟨(some 64), .mv (.t 0), none, [0], 0, 0, [], [], [], []⟩,
    ⟨(some 65), .nck (.t 64), none, [64], 0, 0, [], [], [], []⟩,
    ⟨(some 66), .fad (.t 65) 2, none, [65], 0, 0, [], [], [], []⟩,
    ⟨(some 67), .load (.t 66) 1 false, none, [66], 0, 0, [], [], [], []⟩,
    ⟨(some 68), .bin .gtr (.t 63) (.t 67), none, [63, 67], 0, 0, [], [], [], []⟩] (some ([0, 68], [])))
  (.cond (.t 68) (.seq (rg [
  ss 2 (.mv (.i .i64 1))] [2])
  (.ret))
  (.skip)))
  (.seq (rg [
  ss 69 (.mv (.t 0)),
  ss 70 (.nck (.t 69)),
  ss 71 (.fad (.t 70) 4),
  ss 72 (.load (.t 71) 1 false),
  sk 73 303104 (.len (.t 72)),
  ss 4 (.mv (.t 73))] [0, 4])
  (.seq (.seq (rg [
  ss 74 (.mv (.t 0)),
  ss 75 (.nck (.t 74)),
  ss 76 (.fad (.t 75) 6),
  ss 77 (.load (.t 76) 1 false),
  ss 78 (.mv (.t 4)),
  sk 79 327680 (.call (.f F.spec_l1In) [(.t 77, none), (.i .i64 0, none), (.t 78, none)]),
  ss 80 (.not (.t 79))] [0, 4, 80])
  (.cond (.t 80) (.seq (rg [
  ss 2 (.mv (.i .i64 3))] [2])
  (.ret))
  (.skip)))
  (.seq (.seq (rg [
  ss 81 (.mv (.t 0)),
  sk 82 339968 (.call (.f F.spec_l8Lists) [(.t 81, some 10)]),
  ss 83 (.not (.t 82))] [0, 4, 83])
  (.cond (.t 83) (.seq (rg [
  ss 2 (.mv (.i .i64 1))] [2])
  (.ret))
  (.skip)))
  (.seq (.seq (rg [
  ss 5 (.mv (.i .i64 0))] [0, 4, 5])
  (.block 0 (.loop (.seq (.seq (rg [
  ss 84 (.mv (.t 5)),
  ss 85 (.mv (.t 0)),
  ss 86 (.nck (.t 85)),
  ss 87 (.fad (.t 86) 8),
  ss 88 (.load (.t 87) 1 false),
  sk 89 368640 (.len (.t 88)),
  ss 90 (.bin .lss (.t 84) (.t 89))] [0, 4, 5, 90])
  (.cond (.t 90) (.skip)
  (.exit 0)))
  (.seq (.block 1 (.seq (rg [
  ss 93 (.mv (.t 0)),
  ss 94 (.nck (.t 93)),
  ss 95 (.fad (.t 94) 8),
  ss 96 (.load (.t 95) 1 false),
  ss 97 (.mv (.t 5)),
  sd (some 98) 0 0 dI_i64 (.idx (.t 96) (.t 97) 1),
  sd (some 99) 0 0 dI_i64 (.load (.t 98) 1 false),
  ss 100 (.mv (.t 4)),
  sh 101 1 (.bin .add (.t 100) (.i .i64 1)),
  sk 102 421888 (.call (.f F.spec_l1In) [(.t 99, none), (.i .i64 1, none), (.t 101, none)]),
  ss 103 (.not (.t 102)),
  ss 104 (.mv (.t 103)),
  sg 105 (.mv (.t 0)) 104 false [],
  sg 106 (.nck (.t 105)) 104 false [105],
  sg 107 (.fad (.t 106) 9) 104 false [106],
  sg 108 (.load (.t 107) 1 false) 104 false [107],
  sg 109 (.mv (.t 5)) 104 false [],
  ⟨(some 110), .idx (.t 108) (.t 109) 1, (some (104, false)), [], 0, 0, dI_i64, [108, 109], [], []⟩,
  ⟨(some 111), .load (.t 110) 1 false, (some (104, false)), [], 0, 0, dI_i64, [110], [], []⟩,
  sg 112 (.mv (.t 4)) 104 false [],
  ⟨(some 113), .call (.f F.spec_l1In) [(.t 111, none), (.i .i64 0, none), (.t 112, none)], (some (104, false)), [], 0, 466944, [], [111, 112], [], []⟩,
  sg 114 (.not (.t 113)) 104 false [113],
  ss 115 (.pick (.t 104) (.b true) (.t 114))] [0, 4, 5, 115])
  (.cond (.t 115) (.seq (rg [
  ss 2 (.mv (.i .i64 3))] [2])
  (.ret))
  (.skip))))
  (rg [
  ss 91 (.mv (.t 5)),
  sh 92 1 (.bin .add (.t 91) (.i .i64 1)),
  ss 5 (.mv (.t 92))] [0, 4, 5]))))))
  (.seq (.seq (.reg true [
    ⟨(some 116), .mv (.t 0), none, [0], 0, 0, [], [], [], []⟩,
    ⟨(some 117), .nck (.t 116), none, [116], 0, 0, [], [], [], []⟩,
    ⟨(some 118), .fad (.t 117) 5, none, [117], 0, 0, [], [], [], []⟩,
    ⟨(some 119), .load (.t 118) 1 false, none, [118], 0, 0, [], [], [], []⟩,
    ⟨(some 120), .bin .neq (.t 119) (.i .i64 0), none, [119], 0, 0, [], [], [], []⟩,
    ⟨(some 121), .mv (.t 120), none, [120], 0, 0, [], [], [], []⟩,
    ⟨(some 122), .mv (.t 0), (some (121, true)), [0, 121], 0, 0, [], [], [], []⟩,
    ⟨(some 123), .nck (.t 122), (some (121, true)), [122, 121], 0, 0, [], [122], [], []⟩,
    ⟨(some 124), .fad (.t 123) 3, (some (121, true)), [123, 121], 0, 0, [], [123], [], []⟩,
    ⟨(some 125), .load (.t 124) 1 false, (some (121, true)), [124, 121], 0, 0, [], [124], [], []⟩,
    ⟨(some 126), .mv (.t 0), (some (121, true)), [0, 121], 0, 0, [], [], [], []⟩,
    ⟨(some 127), .nck (.t 126), (some (121, true)), [126, 121], 0, 0, [], [126], [], []⟩,
    ⟨(some 128), .fad (.t 127) 0, (some (121, true)), [127, 121], 0, 0, [], [127], [], []⟩,
    ⟨(some 129), .load (.t 128) 1 false, (some (121, true)), [128, 121], 0, 0, [], [128], [], []⟩,
    ⟨(some 130), .bin .neq (.t 125) (.t 129), (some (121, true)), [125, 129, 121], 0, 0, [], [125, 129], [], []⟩,
    ⟨(some 131), .mv (.t 130), (some (121, true)), [130, 121], 0, 0, [], [130], [], []⟩,
    ⟨(some 132), .mv (.t 0), (some (131, false)), [0, 131], 0, 0, [], [], [], []⟩,
    ⟨(some 133), .nck (.t 132), (some (131, false)), [132, 131], 0, 0, [], [132], [], []⟩,
    ⟨(some 134), .fad (.t 133) 2, (some (131, false)), [133, 131], 0, 0, [], [133], [], []⟩,
    ⟨(some 135), .load (.t 134) 1 false, (some (131, false)), [134, 131], 0, 0, [], [134], [], []⟩,
    ⟨(some 136), .bin .eql (.t 135) (.i .i64 0), (some (131, false)), [135, 131], 0, 0, [], [135], [], []⟩,
    ⟨(some 137), .pick (.t 131) (.b true) (.t 136), (some (121, true)), [131, 136, 121], 0, 0, [], [131], [], []⟩,
    ⟨(some 138), .pick (.t 121) (.t 137) (.b false), none, [121, 137], 0, 0, [], [], [], []⟩] (some ([138], [])))
  (.cond (.t 138) (.seq (rg [
  ss 2 (.mv (.i .i64 1))] [2])
  (.ret))
  (.skip)))
  (.seq (rg [
  ss 2 (.mv (.i .i64 0))] [2])
  (.ret))))))))))
theorem b_spec_l8Fault : ∃ c, f126.body = some c ∧ compC prog 139 c = some c_spec_l8Fault.er ∧ drawB c c_spec_l8Fault = true := ⟨_, rfl, by kernel_rfl, by kernel_rfl⟩
theorem r_spec_l8Fault : cmpR prog [.tmp 2] = some [.t 2] := by kernel_rfl
theorem q_spec_l8Fault : callB prog F.spec_l8Fault = true := by kernel_rfl
variable [Inv prog]
theorem s_spec_l8Fault (x : Node) (hx : limN 2097152 x) : SemX prog F.spec_l8Fault [aT (.ptr (eNode false x))] [] [rI (nodeFault x)] [] := by
  obtain ⟨cc, g1, g2, g3⟩ := b_spec_l8Fault
  refine SemX.of_code func126 g1 (by rw [ntmps126]; exact g2) g3 (by rw [results126]; exact r_spec_l8Fault) (by rw [ntmps126]; exact Nat.le_of_ble_eq_true rfl) (Nat.le_of_ble_eq_true rfl) (by simp) (by simp [argOk, aT, aI, aS, eNode]) ?_
  unfold c_spec_l8Fault
  simp only [rg]
  obtain ⟨hx1, hx2, hx3, hx4⟩ := id hx
  refine W_reg (by simp only [go_sem, eNode]; exact rfl) ?_
  refine CW_assoc ?_
  refine W_drw (by
    refine DW_cut 4 (by simp only [go_sem, eNode]; exact rfl) ?_
    refine DW_ls (by simp only [List.drop_succ_cons, List.drop_zero]; exact rfl) ?_
    refine DW_callN q_spec_l1In (s_spec_l1In _ _ _) true [] [] [] rfl rfl (by simp only [go_sem, eNode] <;> and_intros <;> first | with_reducible exact rfl | omega | with_reducible trivial | (intros; simp_all; done) | grind) (by rfl) (by simp only [go_sem, eNode]; exact rfl) ?_
    refine DW_cut 7 (by simp only [go_sem, eNode]; exact rfl) ?_
    refine DW_ls (by simp only [List.drop_succ_cons, List.drop_zero]; exact rfl) ?_
    refine DW_callGN q_spec_l8Id (s_spec_l8Id x x.id) true rfl rfl (by simp only [go_sem, eNode]; exact rfl) (fun _ => (by simp only [go_sem, eNode]; exact rfl)) (by simp only [go_sem, eNode]; exact rfl) ?_
    refine DW_cut 7 (by simp only [go_sem, eNode]; exact rfl) ?_
    refine DW_ls (by simp only [List.drop_succ_cons, List.drop_zero]; exact rfl) ?_
    refine DW_callGN q_spec_l1In (s_spec_l1In _ _ _) true rfl rfl (by simp only [go_sem, eNode]; exact rfl) (fun _ => (by simp only [go_sem, eNode] <;> and_intros <;> first | with_reducible exact rfl | omega | with_reducible trivial | (intros; simp_all; done) | grind)) (by simp only [go_sem, eNode]; exact rfl) ?_
    refine DW_cut 12 (by simp only [go_sem, eNode]; exact rfl) ?_
    refine DW_ls (by simp only [List.drop_succ_cons, List.drop_zero]; exact rfl) ?_
    refine DW_callGN q_spec_l1In (s_spec_l1In _ _ _) true rfl rfl (by simp only [go_sem, eNode]; exact rfl) (fun _ => (by simp only [go_sem, eNode] <;> and_intros <;> first | with_reducible exact rfl | omega | with_reducible trivial | (intros; simp_all; done) | grind)) (by simp only [go_sem, eNode]; exact rfl) ?_
    refine DW_cut 7 (by simp only [go_sem, eNode]; exact rfl) ?_
    refine DW_ls (by simp only [List.drop_succ_cons, List.drop_zero]; exact rfl) ?_
    refine DW_callGN q_spec_l1In (s_spec_l1In _ _ _) true rfl rfl (by simp only [go_sem, eNode]; exact rfl) (fun _ => (by simp only [go_sem, eNode] <;> and_intros <;> first | with_reducible exact rfl | omega | with_reducible trivial | (intros; simp_all; done) | grind)) (by simp only [go_sem, eNode]; exact rfl) ?_
    simp only [go_sem, eNode]; exact rfl) ?_
  refine CW_seq ?_
  refine CW_cond (by simp only [go_sem, eNode]; exact rfl) (fun c0 => ?_) (fun c0 => ?_)
  · skip
    have hr : nodeRange x = false := by have hv := voted_eq x; unfold nodeRange; grind
    refine W_reg (by simp only [go_sem, eNode]; exact rfl) ?_
    refine CW_ret ?_
    refine sq_r ?_
    simp only [go_sem, eNode]
    all_goals try first | refine int_res ?_ | refine bool_res ?_
    all_goals
      unfold nodeFault rangeOk
      grind
  · skip
    have hr : nodeRange x = true := by have hv := voted_eq x; unfold nodeRange; grind
    refine CW_skip ?_
    refine sq_n ?_
    refine CW_assoc ?_
    refine W_reg (by
      refine RW_cut 4 (by simp only [go_sem, eNode]; exact rfl) ?_
      refine RW_ls (by simp only [List.drop_succ_cons, List.drop_zero]; exact rfl) ?_
      refine RW_callN q_spec_LogFault (s_spec_LogFault x.log (by omega)) true [] [] [] rfl rfl (by simp only [go_sem, eNode]; exact rfl) (by rfl) (by simp only [go_sem, eNode]; exact rfl) ?_
      simp only [go_sem, eNode]; exact rfl) ?_
    refine CW_assoc ?_
    refine W_reg (by simp only [go_sem, eNode]; exact rfl) ?_
    refine CW_seq ?_
    refine CW_cond (by simp only [go_sem, eNode]; exact rfl) (fun c1 => ?_) (fun c1 => ?_)
    · skip
      try simp only [b1, b2, b3, b4, b5, b6, b7] at c1
      refine W_reg (by simp only [go_sem, eNode]; exact rfl) ?_
      refine CW_ret ?_
      refine sq_r ?_
      simp only [go_sem, eNode]
      all_goals try first | refine int_res ?_ | refine bool_res ?_
      all_goals
        unfold nodeFault rangeOk
        grind
    · skip
      try simp only [b1, b2, b3, b4, b5, b6, b7] at c1
      refine CW_skip ?_
      refine sq_n ?_
      refine CW_assoc ?_
      refine W_drw (by
        refine DW_cut 4 (by simp only [go_sem, eNode]; exact rfl) ?_
        refine DW_ls (by simp only [List.drop_succ_cons, List.drop_zero]; exact rfl) ?_
        refine DW_callN q_spec_LastOf (s_spec_LastOf x.log (by omega)) true [] [] [] rfl rfl (by simp only [go_sem, eNode, eEntry]; exact rfl) (by rfl) (by simp only [go_sem, eNode]; exact rfl) ?_
        simp only [go_sem, eNode]; exact rfl) ?_
      refine CW_seq ?_
      refine CW_cond (by simp only [go_sem, eNode]; exact rfl) (fun c2 => ?_) (fun c2 => ?_)
      · skip
        try simp only [b1, b2, b3, b4, b5, b6, b7] at c2
        refine W_reg (by simp only [go_sem, eNode]; exact rfl) ?_
        refine CW_ret ?_
        refine sq_r ?_
        simp only [go_sem, eNode]
        all_goals try first | refine int_res ?_ | refine bool_res ?_
        all_goals
          unfold nodeFault rangeOk
          grind
      · skip
        try simp only [b1, b2, b3, b4, b5, b6, b7] at c2
        refine CW_skip ?_
        refine sq_n ?_
        refine W_reg (by simp only [go_sem, eNode]; exact rfl) ?_
        refine CW_assoc ?_
        refine W_reg (by
          refine RW_cut 5 (by simp only [go_sem, eNode]; exact rfl) ?_
          refine RW_ls (by simp only [List.drop_succ_cons, List.drop_zero]; exact rfl) ?_
          refine RW_callN q_spec_l1In (s_spec_l1In _ _ _) true [] [] [] rfl rfl (by simp only [go_sem, eNode] <;> and_intros <;> first | with_reducible exact rfl | omega | with_reducible trivial | (intros; simp_all; done) | grind) (by rfl) (by simp only [go_sem, eNode]; exact rfl) ?_
          simp only [go_sem, eNode]; exact rfl) ?_
        refine CW_seq ?_
        refine CW_cond (by simp only [go_sem, eNode]; exact rfl) (fun c3 => ?_) (fun c3 => ?_)
        · skip
          try simp only [b1, b2, b3, b4, b5, b6, b7] at c3
          refine W_reg (by simp only [go_sem, eNode]; exact rfl) ?_
          refine CW_ret ?_
          refine sq_r ?_
          simp only [go_sem, eNode]
          all_goals try first | refine int_res ?_ | refine bool_res ?_
          all_goals
            unfold nodeFault rangeOk
            grind
        · skip
          try simp only [b1, b2, b3, b4, b5, b6, b7] at c3
          refine CW_skip ?_
          refine sq_n ?_
          refine CW_assoc ?_
          refine W_reg (by
            refine RW_cut 1 (by simp only [go_sem, eNode]; exact rfl) ?_
            refine RW_ls (by simp only [List.drop_succ_cons, List.drop_zero]; exact rfl) ?_
            refine RW_callN q_spec_l8Lists (s_spec_l8Lists x hx) true [] [] [] rfl rfl (by simp only [go_sem, eNode]; exact rfl) (by rfl) (by simp only [go_sem, eNode]; exact rfl) ?_
            simp only [go_sem, eNode]; exact rfl) ?_
          refine CW_seq ?_
          refine CW_cond (by simp only [go_sem, eNode]; exact rfl) (fun c4 => ?_) (fun c4 => ?_)
          · skip
            try simp only [b1, b2, b3, b4, b5, b6, b7] at c4
            refine W_reg (by simp only [go_sem, eNode]; exact rfl) ?_
            refine CW_ret ?_
            refine sq_r ?_
            simp only [go_sem, eNode]
            all_goals try first | refine int_res ?_ | refine bool_res ?_
            all_goals
              unfold nodeFault rangeOk
              grind
          · skip
            have hls : listsOk x := by grind
            have hll := listsOk_len hls
            refine CW_skip ?_
            refine sq_n ?_
            refine CW_assoc ?_
            refine W_reg (by simp only [go_sem, eNode]; exact rfl) ?_
            refine CW_seq ?_
            refine CW_block ?_
            refine CW_loopS (α := Nat) (fun i => [(5, .int .i64 i)]) (fun i => []) (fun i => x.next.length - i) (fun i => i ≤ x.next.length ∧ ∀ j, j < i → inR (x.next.getD j zI_i64) 1 (x.log.length + 1) = true ∧ inR (x.match_.getD j zI_i64) 0 x.log.length = true) 0 [] ?_ ?_ ?_
            · (simp only [go_sem, eNode])
            · exact ⟨Nat.zero_le _, fun j hj => absurd hj (by omega)⟩
            · rintro i ⟨hI, hj⟩
              refine CW_eq (by simp only [go_sem, eNode]; exact rfl) ?_
              refine CW_assoc ?_
              refine W_reg (by simp only [go_sem, eNode]; exact rfl) ?_
              refine CW_seq ?_
              refine CW_cond (by simp only [go_sem, eNode]; exact rfl) (fun c5 => ?_) (fun c5 => ?_)
              · skip
                try simp only [Bool.not_eq_eq_eq_not, Bool.not_true, Bool.not_false, decide_eq_true_eq, decide_eq_false_iff_not, Bool.and_eq_true, Bool.or_eq_true] at c5
                refine CW_skip ?_
                refine sq_n ?_
                refine CW_seq ?_
                refine CW_block ?_
                refine W_reg (by
                  refine RW_cut 9 (by simp only [go_sem, eNode] <;> and_intros <;> first | with_reducible exact rfl | omega | with_reducible trivial | (intros; simp_all; done) | grind) ?_
                  refine RW_ls (by simp only [List.drop_succ_cons, List.drop_zero]; exact rfl) ?_
                  refine RW_callN q_spec_l1In (s_spec_l1In _ _ _) true [] [] [] rfl rfl (by simp only [go_sem, eNode] <;> and_intros <;> first | with_reducible exact rfl | omega | with_reducible trivial | (intros; simp_all; done) | grind) (by rfl) (by simp only [go_sem, eNode]; exact rfl) ?_
                  refine RW_cut 10 (by simp only [go_sem, eNode] <;> and_intros <;> first | with_reducible exact rfl | omega | with_reducible trivial | (intros; simp_all; done) | grind) ?_
                  refine RW_ls (by simp only [List.drop_succ_cons, List.drop_zero]; exact rfl) ?_
                  refine RW_callGN q_spec_l1In (s_spec_l1In _ _ _) true rfl rfl (by simp only [go_sem, eNode]; exact rfl) (fun _ => (by simp only [go_sem, eNode] <;> and_intros <;> first | with_reducible exact rfl | omega | with_reducible trivial | (intros; simp_all; done) | grind)) (by simp only [go_sem, eNode]; exact rfl) ?_
                  simp only [go_sem, eNode]; exact rfl) ?_
                refine CW_cond (by simp only [go_sem, eNode]; exact rfl) (fun c6 => ?_) (fun c6 => ?_)
                · skip
                  try simp only [b1, b2, b3, b4, b5, b6, b7] at c6
                  refine W_reg (by simp only [go_sem, eNode]; exact rfl) ?_
                  refine CW_ret ?_
                  refine bk_r ?_
                  refine sq_r ?_
                  refine lp_r ?_
                  refine bk_r ?_
                  refine sq_r ?_
                  simp only [go_sem, eNode]
                  all_goals try first | refine int_res ?_ | refine bool_res ?_
                  all_goals
                    unfold nodeFault rangeOk
                    grind
                · skip
                  try simp only [b1, b2, b3, b4, b5, b6, b7] at c6
                  refine CW_skip ?_
                  refine bk_n ?_
                  refine sq_n ?_
                  refine W_regn (by simp only [go_sem, eNode] <;> and_intros <;> first | with_reducible exact rfl | omega | with_reducible trivial | (intros; simp_all; done) | grind) ?_
                  refine lp_next (i+1) [] ?_ ?_ ?_
                  · (simp only [go_sem, eNode])
                  · refine ⟨by omega, fun j hj2 => ?_⟩
                    rcases Nat.lt_or_ge j i with h | h
                    · exact hj j h
                    · rw [show j = i by omega]; grind
                  · omega
              · skip
                try simp only [Bool.not_eq_eq_eq_not, Bool.not_true, Bool.not_false, decide_eq_true_eq, decide_eq_false_iff_not, Bool.and_eq_true, Bool.or_eq_true] at c5
                obtain rfl : i = x.next.length := by omega
                refine CW_exit ?_
                refine sq_e ?_
                refine lp_e ?_
                refine bk_i ?_
                refine sq_n ?_
                refine CW_assoc ?_
                refine W_drw (by simp only [go_sem, eNode] <;> and_intros <;> first | with_reducible exact rfl | omega | with_reducible trivial | (intros; simp_all; done) | grind) ?_
                refine CW_seq ?_
                refine CW_cond (by simp only [go_sem, eNode]; exact rfl) (fun c7 => ?_) (fun c7 => ?_)
                · skip
                  try simp only [b1, b2, b3, b4, b5, b6, b7] at c7
                  refine W_reg (by simp only [go_sem, eNode]; exact rfl) ?_
                  refine CW_ret ?_
                  refine sq_r ?_
                  simp only [go_sem, eNode]
                  all_goals try first | refine int_res ?_ | refine bool_res ?_
                  all_goals
                    unfold nodeFault rangeOk
                    grind
                · skip
                  try simp only [b1, b2, b3, b4, b5, b6, b7] at c7
                  refine CW_skip ?_
                  refine sq_n ?_
                  refine W_reg (by simp only [go_sem, eNode]; exact rfl) ?_
                  refine CW_ret ?_
                  simp only [go_sem, eNode]
                  all_goals try first | refine int_res ?_ | refine bool_res ?_
                  all_goals
                    unfold nodeFault rangeOk
                    grind
end Go.H
end
section
set_option maxRecDepth 100000
set_option linter.unusedVariables false
set_option linter.unusedSimpArgs false
namespace Go.H
open Go Go.Proofs.Tryz
def c_spec_l8Zeros : SC :=
.seq (rg [
  sk 1 8192 (.box (.t 0)),
  ss 2 (.mv (.b false))] [1])
  (.seq (.seq (rg [
  ss 3 (.fad (.t 1) 0),
  ss 4 (.load (.t 3) 1 false)] [1, 4])
  (.block 0 (.seq (rg [
  ss 6 (.bin .eql (.t 4) (.i .i64 1)),
  ss 5 (.mv (.t 6))] [1, 4, 5])
  (.cond (.t 5) (.seq (rg [
  ss 7 (.fad (.t 1) 6),
  ss 8 (.load (.t 7) 1 false),
  ss 9 (.bin .eql (.t 8) (.i .i64 0)),
  ss 2 (.mv (.t 9))] [2])
  (.ret))
  (.seq (rg [
  ss 11 (.bin .eql (.t 4) (.i .i64 2)),
  ss 10 (.mv (.t 11))] [1, 4, 10])
  (.cond (.t 10) (.seq (rg [
  ss 12 (.fad (.t 1) 4),
  ss 13 (.load (.t 12) 1 false),
  ss 14 (.bin .eql (.t 13) (.i .i64 0)),
  ss 15 (.mv (.t 14)),
  sg 16 (.fad (.t 1) 5) 15 true [],
  sg 17 (.load (.t 16) 1 false) 15 true [16],
  sg 18 (.bin .eql (.t 17) (.i .i64 0)) 15 true [17],
  ss 19 (.pick (.t 15) (.t 18) (.b false)),
  ss 20 (.mv (.t 19)),
  sg 21 (.fad (.t 1) 6) 20 true [],
  sg 22 (.load (.t 21) 1 false) 20 true [21],
  sg 23 (.bin .eql (.t 22) (.i .i64 0)) 20 true [22],
  ss 24 (.pick (.t 20) (.t 23) (.b false)),
  ss 2 (.mv (.t 24))] [2])
  (.ret))
  (.seq (rg [
  ss 26 (.bin .eql (.t 4) (.i .i64 4)),
  ss 25 (.mv (.t 26))] [1, 25])
  (.cond (.t 25) (.seq (rg [
  ss 27 (.fad (.t 1) 5),
  ss 28 (.load (.t 27) 1 false),
  ss 29 (.bin .eql (.t 28) (.i .i64 0)),
  ss 30 (.mv (.t 29)),
  sg 31 (.fad (.t 1) 6) 30 true [],
  sg 32 (.load (.t 31) 1 false) 30 true [31],
  sg 33 (.bin .eql (.t 32) (.i .i64 0)) 30 true [32],
  ss 34 (.pick (.t 30) (.t 33) (.b false)),
  ss 2 (.mv (.t 34))] [2])
  (.ret))
  (.skip)))))))))
  (.seq (rg [
  ss 2 (.mv (.b true))] [2])
  (.ret)))
theorem b_spec_l8Zeros : ∃ c, f171.body = some c ∧ compC prog 35 c = some c_spec_l8Zeros.er ∧ drawB c c_spec_l8Zeros = true := ⟨_, rfl, by kernel_rfl, by kernel_rfl⟩
theorem r_spec_l8Zeros : cmpR prog [.tmp 2] = some [.t 2] := by kernel_rfl
theorem q_spec_l8Zeros : callB prog F.spec_l8Zeros = true := by kernel_rfl
variable [Inv prog]
theorem s_spec_l8Zeros (m : Mail) : SemX prog F.spec_l8Zeros [aS (eMail false m)] [] [rB (decide (mailZeros m))] [] := by
  obtain ⟨cc, g1, g2, g3⟩ := b_spec_l8Zeros
  refine SemX.of_code func171 g1 (by rw [ntmps171]; exact g2) g3 (by rw [results171]; exact r_spec_l8Zeros) (by rw [ntmps171]; exact Nat.le_of_ble_eq_true rfl) (Nat.le_of_ble_eq_true rfl) (by simp) (by simp [argOk, aT, aI, aS, eMail]) ?_
  unfold c_spec_l8Zeros
  simp only [rg]
  refine W_reg (by simp only [go_sem, eMail]; exact rfl) ?_
  refine CW_assoc ?_
  refine W_reg (by simp only [go_sem, eMail]; exact rfl) ?_
  refine CW_seq ?_
  refine CW_block ?_
  refine W_reg (by simp only [go_sem, eMail]; exact rfl) ?_
  refine CW_cond (by simp only [go_sem, eMail]; exact rfl) (fun c0 => ?_) (fun c0 => ?_)
  · skip
    skip
    refine W_reg (by simp only [go_sem, eMail]; exact rfl) ?_
    refine CW_ret ?_
    refine bk_r ?_
    refine sq_r ?_
    simp only [go_sem, eMail]
    all_goals try first | refine int_res ?_ | refine bool_res ?_
    all_goals
      rw [Bool.eq_iff_iff]
      simp only [decide_eq_true_eq, mailZeros]
      grind
  · skip
    skip
    refine W_reg (by simp only [go_sem, eMail]; exact rfl) ?_
    refine CW_cond (by simp only [go_sem, eMail]; exact rfl) (fun c1 => ?_) (fun c1 => ?_)
    · skip
      skip
      refine W_reg (by simp only [go_sem, eMail]; exact rfl) ?_
      refine CW_ret ?_
      refine bk_r ?_
      refine sq_r ?_
      simp only [go_sem, eMail]
      all_goals try first | refine int_res ?_ | refine bool_res ?_
      all_goals
        rw [Bool.eq_iff_iff]
        simp only [decide_eq_true_eq, mailZeros]
        grind
    · skip
      skip
      refine W_reg (by simp only [go_sem, eMail]; exact rfl) ?_
      refine CW_cond (by simp only [go_sem, eMail]; exact rfl) (fun c2 => ?_) (fun c2 => ?_)
      · skip
        skip
        refine W_reg (by simp only [go_sem, eMail]; exact rfl) ?_
        refine CW_ret ?_
        refine bk_r ?_
        refine sq_r ?_
        simp only [go_sem, eMail]
        all_goals try first | refine int_res ?_ | refine bool_res ?_
        all_goals
          rw [Bool.eq_iff_iff]
          simp only [decide_eq_true_eq, mailZeros]
          grind
      · skip
        skip
        refine CW_skip ?_
        refine bk_n ?_
        refine sq_n ?_
        refine W_reg (by simp only [go_sem, eMail]; exact rfl) ?_
        refine CW_ret ?_
        simp only [go_sem, eMail]
        all_goals try first | refine int_res ?_ | refine bool_res ?_
        all_goals
          rw [Bool.eq_iff_iff]
          simp only [decide_eq_true_eq, mailZeros]
          grind
end Go.H
end
section
set_option maxRecDepth 100000
set_option linter.unusedVariables false
set_option linter.unusedSimpArgs false
namespace Go.H
open Go Go.Proofs.Tryz
def c_spec_l8Mail : SC :=
.seq (rg [
  sk 3 16384 (.box (.t 1)),
  ss 4 (.mv (.i .i64 0))] [0, 3])
  (.seq (.seq (rg [
  ss 6 (.fad (.t 3) 0),
  ss 7 (.load (.t 6) 1 false),
  sk 8 36864 (.call (.f F.spec_l1In) [(.t 7, none), (.i .i64 1, none), (.i .i64 4, none)]),
  ss 9 (.not (.t 8))] [0, 3, 9])
  (.cond (.t 9) (.seq (rg [
  ss 4 (.mv (.i .i64 5))] [4])
  (.ret))
  (.skip)))
  (.seq (.seq (.reg true [
    ⟨(some 10), .mv (.t 0), none, [0], 0, 0, [], [], [], []⟩,
    ⟨(some 11), .fad (.t 3) 1, none, [3], 0, 0, [], [], [], []⟩,
    ⟨(some 12), .load (.t 11) 1 false, none, [11], 0, 0, [], [], [16384], []⟩,
    ⟨(some 13), .call (.f F.spec_l8Id) [(.t 10, some 10), (.t 12, none)], none, [10, 12], 0, 57344, [], [], [], []⟩,
    ⟨(some 14), .not (.t 13), none, [13], 0, 0, [], [], [], []⟩,
    ⟨(some 15), .mv (.t 14), none, [14], 0, 0, [], [], [], []⟩,
    ⟨(some 16), .fad (.t 3) 1, (some (15, false)), [3, 15], 0, 0, [], [], [], []⟩,
    ⟨(some 17), .load (.t 16) 1 false, (some (15, false)), [16, 15], 0, 0, [], [16], [16384], []⟩,
    ⟨(some 18), .mv (.t 0), (some (15, false)), [0, 15], 0, 0, [], [], [], []⟩,
    ⟨(some 19), .nck (.t 18), (some (15, false)), [18, 15], 0, 0, [], [18], [], []⟩,
    ⟨(some 20), .fad (.t 19) 0, (some (15, false)), [19, 15], 0, 0, [], [19], [], []⟩,
    ⟨(some 21), .load (.t 20) 1 false, (some (15, false)), [20, 15], 0, 0, [], [20], [], []⟩,
    ⟨(some 22), .bin .eql (.t 17) (.t 21), (some (15, false)), [17, 21, 15], 0, 0, [], [17, 21], [], []⟩,
    ⟨(some 23), .pick (.t 15) (.b true) (.t 22), none, [15, 22], 0, 0, [], [], [], []⟩,
    ⟨(some 24), .mv (.t 23), none, [23], 0, 0, [], [], [], []⟩,
    ⟨(some 25), .fad (.t 3) 2, (some (24, false)), [3, 24], 0, 0, [], [], [], []⟩,
    ⟨(some 26), .load (.t 25) 1 false, (some (24, false)), [25, 24], 0, 0, [], [25], [16384], []⟩,
    ⟨(some 27), .mv (.t 0), (some (24, false)), [0, 24], 0, 0, [], [], [], []⟩,
    ⟨(some 28), .nck (.t 27), (some (24, false)), [27, 24], 0, 0, [], [27], [], []⟩,
    ⟨(some 29), .fad (.t 28) 0, (some (24, false)), [28, 24], 0, 0, [], [28], [], []⟩,
    ⟨(some 30), .load (.t 29) 1 false, (some (24, false)), [29, 24], 0, 0, [], [29], [], []⟩,
    ⟨(some 31), .bin .neq (.t 26) (.t 30), (some (24, false)), [26, 30, 24], 0, 0, [], [26, 30], [], []⟩,
    ⟨(some 32), .pick (.t 24) (.b true) (.t 31), none, [24, 31], 0, 0, [], [], [], []⟩,
    ⟨(some 33), .mv (.t 32), none, [32], 0, 0, [], [], [], []⟩,
    ⟨(some 34), .fad (.t 3) 3, (some (33, false)), [3, 33], 0, 0, [], [], [], []⟩,
    ⟨(some 35), .load (.t 34) 1 false, (some (33, false)), [34, 33], 0, 0, [], [34], [16384], []⟩,
    ⟨(some 36), .call (.f F.spec_l1In) [(.t 35, none), (.i .i64 1, none), (.i .i64 100000, none)], (some (33, false)), [35, 33], 0, 151552, [], [35], [], []⟩,
    ⟨(some 37), .not (.t 36), (some (33, false)), [36, 33], 0, 0, [], [36], [], []⟩,
    ⟨(some 38), .pick (.t 33) (.b true) (.t 37), none, [33, 37], 0, 0, [], [], [], []⟩,
    ⟨(some 39), .mv (.t 38), none, [38], 0, 0, [], [], [], []⟩,
    ⟨(some 40), .fad (.t 3) 4, (some (39, false)), [3, 39], 0, 0, [], [], [], []⟩,
    ⟨(some 41), .load (.t 40) 1 false, (some (39, false)), [40, 39], 0, 0, [], [40], [16384], []⟩,
    ⟨(some 42), .call (.f F.spec_l1In) [(.t 41, none), (.i .i64 0, none), (.i .i64 40, none)], (some (39, false)), [41, 39], 0, 176128, [], [41], [], []⟩,
    ⟨(some 43), .not (.t 42), (some (39, false)), [42, 39], 0, 0, [], [42], [], []⟩,
    ⟨(some 44), .pick (.t 39) (.b true) (.t 43), none, [39, 43], 0, 0, [], [], [], []⟩,
    ⟨(some 45), .mv (.t 44), none, [44], 0, 0, [], [], [], []⟩,
    ⟨(some 46), .fad (.t 3) 5, (some (45, false)), [3, 45], 0, 0, [], [], [], []⟩,
    ⟨(some 47), .load (.t 46) 1 false, (some (45, false)), [46, 45], 0, 0, [], [46], [16384], []⟩,
    ⟨(some 48), .fad (.t 3) 3, (some (45, false)), [3, 45], 0, 0, [], [], [], []⟩,
    ⟨(some 49), .load (.t 48) 1 false, (some (45, false)), [48, 45], 0, 0, [], [48], [16384], []⟩,
    ⟨(some 50), .call (.f F.spec_l1In) [(.t 47, none), (.i .i64 0, none), (.t 49, none)], (some (45, false)), [47, 49, 45], 0, 208896, [], [47, 49], [], []⟩,
    ⟨(some 51), .not (.t 50), (some (45, false)), [50, 45], 0, 0, [], [50], [], []⟩,
    ⟨(some 52), .pick (.t 45) (.b true) (.t 51), none, [45, 51], 0, 0, [], [], [], []⟩,
    ⟨(some 53), .mv (.t 52), none, [52], 0, 0, [], [], [], []⟩,
    ⟨(some 54), .fad (.t 3) 6, (some (53, false)), [3, 53], 0, 0, [], [], [], []⟩,
    ⟨(some 55), .load (.t 54) 1 false, (some (53, false)), [54, 53], 0, 0, [], [54], [16384], []⟩,
    ⟨(some 56), .call (.f F.spec_l1In) [(.t 55, none), (.i .i64 0, none), (.i .i64 40, none)], (some (53, false)), [55, 53], 0, 233472, [], [55], [], []⟩,
    ⟨(some 57), .not (.t 56), (some (53, false)), [56, 53], 0, 0, [], [56], [], []⟩,
    ⟨(some 58), .pick (.t 53) (.b true) (.t 57), none, [53, 57], 0, 0, [], [], [], []⟩] (some ([3, 58], [])))
  (.cond (.t 58) (.seq (rg [
  ss 4 (.mv (.i .i64 3))] [4])
  (.ret))
  (.skip)))
  (.seq (.seq (rg [
  ss 59 (.fad (.t 3) 8),
  ss 60 (.load (.t 59) 1 false),
  sk 61 253952 (.call (.f F.spec_LogFault) [(.t 60, none)]),
  ss 5 (.mv (.t 61))] [3, 5])
  (.seq (rg [
  ss 62 (.mv (.t 5)),
  ss 63 (.bin .neq (.t 62) (.i .i64 0))] [3, 5, 63])
  (.cond (.t 63) (.seq (rg [
  ss 64 (.mv (.t 5)),
  ss 4 (.mv (.t 64))] [4])
  (.ret))
  (.skip))))
  (.seq (.seq (.reg true [
    ⟨(some 65), .fad (.t 3) 8, none, [3], 0, 0, [], [], [], []⟩,
    ⟨(some 66), .load (.t 65) 1 false, none, [65], 0, 0, [], [], [16384], []⟩,
    ⟨(some 67), .len (.t 66), none, [66], 0, 278528, [], [], [], []⟩,
    ⟨(some 68), .bin .gtr (.t 67) (.i .i64 0), none, [67], 0, 0, [], [], [], []⟩,
    ⟨(some 69), .mv (.t 68), none, [68], 0, 0, [], [], [], []⟩,
    ⟨(some 70), .fad (.t 3) 0, (some (69, true)), [3, 69], 0, 0, [], [], [], []⟩,
    ⟨(some 71), .load (.t 70) 1 false, (some (69, true)), [70, 69], 0, 0, [], [70], [16384], []⟩,
    ⟨(some 72), .bin .neq (.t 71) (.i .i64 3), (some (69, true)), [71, 69], 0, 0, [], [71], [], []⟩,
    ⟨(some 73), .mv (.t 72), (some (69, true)), [72, 69], 0, 0, [], [72], [], []⟩,
    ⟨(some 74), .fad (.t 3) 8, (some (73, false)), [3, 73], 0, 0, [], [], [], []⟩,
    ⟨(some 75), .load (.t 74) 1 false, (some (73, false)), [74, 73], 0, 0, [], [74], [16384], []⟩,
    ⟨(some 76), .call (.f F.spec_LastOf) [(.t 75, none)], (some (73, false)), [75, 73], 0, 315392, [], [75], [], []⟩,
    ⟨(some 77), .fld (.t 76) 0 1 false, (some (73, false)), [76, 73], 0, 0, [], [76], [], []⟩,
    ⟨(some 78), .fad (.t 3) 3, (some (73, false)), [3, 73], 0, 0, [], [], [], []⟩,
    ⟨(some 79), .load (.t 78) 1 false, (some (73, false)), [78, 73], 0, 0, [], [78], [16384], []⟩,
    ⟨(some 80), .bin .gtr (.t 77) (.t 79), (some (73, false)), [77, 79, 73], 0, 0, [], [77, 79], [], []⟩,
    ⟨(some 81), .pick (.t 73) (.b true) (.t 80), (some (69, true)), [73, 80, 69], 0, 0, [], [73], [], []⟩,
    ⟨(some 82), .mv (.t 81), (some (69, true)), [81, 69], 0, 0, [], [81], [], []⟩,
    ⟨(some 83), .fad (.t 3) 8, (some (82, false)), [3, 82], 0, 0, [], [], [], []⟩,
    ⟨(some 84), .load (.t 83) 1 false, (some (82, false)), [83, 82], 0, 0, [], [83], [16384], []⟩,
    ⟨(some 85), .idx (.t 84) (.i .i64 0) 9, (some (82, false)), [84, 82], 0, 0, dEntry, [84], [], []⟩,
    ⟨(some 86), .fad (.t 85) 0, (some (82, false)), [85, 82], 0, 0, [], [85], [], []⟩,
    ⟨(some 87), .load (.t 86) 1 false, (some (82, false)), [86, 82], 0, 0, dEntry, [86], [], []⟩,
    ⟨(some 88), .fad (.t 3) 5, (some (82, false)), [3, 82], 0, 0, [], [], [], []⟩,
    ⟨(some 89), .load (.t 88) 1 false, (some (82, false)), [88, 82], 0, 0, [], [88], [16384], []⟩,
    ⟨(some 90), .bin .lss (.t 87) (.t 89), (some (82, false)), [87, 89, 82], 0, 0, [], [87, 89], [], []⟩,
    ⟨(some 91), .pick (.t 82) (.b true) (.t 90), (some (69, true)), [82, 90, 69], 0, 0, [], [82], [], []⟩,
    ⟨(some 92), .pick (.t 69) (.t 91) (.b false), none, [69, 91], 0, 0, [], [], [], []⟩] (some ([3, 92], [])))
  (.cond (.t 92) (.seq (rg [
  ss 4 (.mv (.i .i64 1))] [4])
  (.ret))
  (.skip)))
  (.seq (.seq (rg [
  ss 93 (.fad (.t 3) 7),
  ss 94 (.load (.t 93) 1 false),
  ss 95 (.mv (.t 94)),
  sg 96 (.fad (.t 3) 0) 95 true [],
  sg 97 (.load (.t 96) 1 false) 95 true [96],
  sg 98 (.bin .neq (.t 97) (.i .i64 2)) 95 true [97],
  ss 99 (.pick (.t 95) (.t 98) (.b false)),
  ss 100 (.mv (.t 99)),
  sg 101 (.fad (.t 3) 0) 100 true [],
  sg 102 (.load (.t 101) 1 false) 100 true [101],
  sg 103 (.bin .neq (.t 102) (.i .i64 4)) 100 true [102],
  ss 104 (.pick (.t 100) (.t 103) (.b false)),
  ss 105 (.mv (.t 104)),
  sg 106 (.load (.t 3) 9 true) 105 false [],
  ⟨(some 107), .call (.f F.spec_l8Zeros) [(.t 106, none)], (some (105, false)), [], 0, 442368, [], [106], [], []⟩,
  sg 108 (.not (.t 107)) 105 false [107],
  ss 109 (.pick (.t 105) (.b true) (.t 108)),
  ss 110 (.mv (.t 109)),
  sg 111 (.fad (.t 3) 4) 110 false [],
  sg 112 (.load (.t 111) 1 false) 110 false [111],
  sg 113 (.bin .eql (.t 112) (.i .i64 0)) 110 false [112],
  sg 114 (.mv (.t 113)) 110 false [113],
  sg 115 (.fad (.t 3) 5) 114 true [],
  sg 116 (.load (.t 115) 1 false) 114 true [115],
  sg 117 (.bin .neq (.t 116) (.i .i64 0)) 114 true [116],
  sg 118 (.pick (.t 114) (.t 117) (.b false)) 110 false [114],
  ss 119 (.pick (.t 110) (.b true) (.t 118))] [119])
  (.cond (.t 119) (.seq (rg [
  ss 4 (.mv (.i .i64 1))] [4])
  (.ret))
  (.skip)))
  (.seq (rg [
  ss 4 (.mv (.i .i64 0))] [4])
  (.ret)))))))
theorem b_spec_l8Mail : ∃ c, f127.body = some c ∧ compC prog 120 c = some c_spec_l8Mail.er ∧ drawB c c_spec_l8Mail = true := ⟨_, rfl, by kernel_rfl, by kernel_rfl⟩
theorem r_spec_l8Mail : cmpR prog [.tmp 4] = some [.t 4] := by kernel_rfl
theorem q_spec_l8Mail : callB prog F.spec_l8Mail = true := by kernel_rfl
variable [Inv prog]
theorem s_spec_l8Mail (x : Node) (m : Mail) (hm : limM 2097152 m) : SemX prog F.spec_l8Mail [aT (.ptr (eNode false x)), aS (eMail false m)] [] [rI (mailFault x m)] [] := by
  obtain ⟨cc, g1, g2, g3⟩ := b_spec_l8Mail
  refine SemX.of_code func127 g1 (by rw [ntmps127]; exact g2) g3 (by rw [results127]; exact r_spec_l8Mail) (by rw [ntmps127]; exact Nat.le_of_ble_eq_true rfl) (Nat.le_of_ble_eq_true rfl) (by simp) (by simp [argOk, aT, aI, aS, eNode, eMail]) ?_
  unfold c_spec_l8Mail
  simp only [rg]
  have hm1 : m.entries.length ≤ 2097152 := hm
  refine W_reg (by simp only [go_sem, eNode, eMail]; exact rfl) ?_
  refine CW_assoc ?_
  refine W_reg (by
    refine RW_cut 2 (by simp only [go_sem, eNode, eMail]; exact rfl) ?_
    refine RW_ls (by simp only [List.drop_succ_cons, List.drop_zero]; exact rfl) ?_
    refine RW_callN q_spec_l1In (s_spec_l1In _ _ _) true [] [] [] rfl rfl (by simp only [go_sem, eNode, eMail] <;> and_intros <;> first | with_reducible exact rfl | omega | with_reducible trivial | (intros; simp_all; done) | grind) (by rfl) (by simp only [go_sem, eNode, eMail]; exact rfl) ?_
    simp only [go_sem, eNode, eMail]; exact rfl) ?_
  refine CW_seq ?_
  refine CW_cond (by simp only [go_sem, eNode, eMail]; exact rfl) (fun c0 => ?_) (fun c0 => ?_)
  · skip
    skip
    refine W_reg (by simp only [go_sem, eNode, eMail]; exact rfl) ?_
    refine CW_ret ?_
    refine sq_r ?_
    simp only [go_sem, eNode, eMail]
    all_goals try first | refine int_res ?_ | refine bool_res ?_
    all_goals
      unfold mailFault mailForm
      grind
  · skip
    skip
    refine CW_skip ?_
    refine sq_n ?_
    refine CW_assoc ?_
    refine W_drw (by
      refine DW_cut 3 (by simp only [go_sem, eNode, eMail]; exact rfl) ?_
      refine DW_ls (by simp only [List.drop_succ_cons, List.drop_zero]; exact rfl) ?_
      refine DW_callN q_spec_l8Id (s_spec_l8Id x m.from_) true [] [] [] rfl rfl (by simp only [go_sem, eNode, eMail]; exact rfl) (by rfl) (by simp only [go_sem, eNode, eMail]; exact rfl) ?_
      refine DW_cut 22 (by simp only [go_sem, eNode, eMail]; exact rfl) ?_
      refine DW_ls (by simp only [List.drop_succ_cons, List.drop_zero]; exact rfl) ?_
      refine DW_callGN q_spec_l1In (s_spec_l1In _ _ _) true rfl rfl (by simp only [go_sem, eNode, eMail]; exact rfl) (fun _ => (by simp only [go_sem, eNode, eMail] <;> and_intros <;> first | with_reducible exact rfl | omega | with_reducible trivial | (intros; simp_all; done) | grind)) (by simp only [go_sem, eNode, eMail]; exact rfl) ?_
      refine DW_cut 5 (by simp only [go_sem, eNode, eMail]; exact rfl) ?_
      refine DW_ls (by simp only [List.drop_succ_cons, List.drop_zero]; exact rfl) ?_
      refine DW_callGN q_spec_l1In (s_spec_l1In _ _ _) true rfl rfl (by simp only [go_sem, eNode, eMail]; exact rfl) (fun _ => (by simp only [go_sem, eNode, eMail] <;> and_intros <;> first | with_reducible exact rfl | omega | with_reducible trivial | (intros; simp_all; done) | grind)) (by simp only [go_sem, eNode, eMail]; exact rfl) ?_
      refine DW_cut 7 (by simp only [go_sem, eNode, eMail]; exact rfl) ?_
      refine DW_ls (by simp only [List.drop_succ_cons, List.drop_zero]; exact rfl) ?_
      refine DW_callGN q_spec_l1In (s_spec_l1In _ _ _) true rfl rfl (by simp only [go_sem, eNode, eMail]; exact rfl) (fun _ => (by simp only [go_sem, eNode, eMail] <;> and_intros <;> first | with_reducible exact rfl | omega | with_reducible trivial | (intros; simp_all; done) | grind)) (by simp only [go_sem, eNode, eMail]; exact rfl) ?_
      refine DW_cut 5 (by simp only [go_sem, eNode, eMail]; exact rfl) ?_
      refine DW_ls (by simp only [List.drop_succ_cons, List.drop_zero]; exact rfl) ?_
      refine DW_callGN q_spec_l1In (s_spec_l1In _ _ _) true rfl rfl (by simp only [go_sem, eNode, eMail]; exact rfl) (fun _ => (by simp only [go_sem, eNode, eMail] <;> and_intros <;> first | with_reducible exact rfl | omega | with_reducible trivial | (intros; simp_all; done) | grind)) (by simp only [go_sem, eNode, eMail]; exact rfl) ?_
      simp only [go_sem, eNode, eMail]; exact rfl) ?_
    refine CW_seq ?_
    refine CW_cond (by simp only [go_sem, eNode, eMail]; exact rfl) (fun c1 => ?_) (fun c1 => ?_)
    · skip
      have hr : mailRange x m = false := by unfold mailRange; grind
      refine W_reg (by simp only [go_sem, eNode, eMail]; exact rfl) ?_
      refine CW_ret ?_
      refine sq_r ?_
      simp only [go_sem, eNode, eMail]
      all_goals try first | refine int_res ?_ | refine bool_res ?_
      all_goals
        unfold mailFault mailForm
        grind
    · skip
      have hr : mailRange x m = true := by unfold mailRange; grind
      refine CW_skip ?_
      refine sq_n ?_
      refine CW_assoc ?_
      refine W_reg (by
        refine RW_cut 2 (by simp only [go_sem, eNode, eMail]; exact rfl) ?_
        refine RW_ls (by simp only [List.drop_succ_cons, List.drop_zero]; exact rfl) ?_
        refine RW_callN q_spec_LogFault (s_spec_LogFault m.entries (by omega)) true [] [] [] rfl rfl (by simp only [go_sem, eNode, eMail]; exact rfl) (by rfl) (by simp only [go_sem, eNode, eMail]; exact rfl) ?_
        simp only [go_sem, eNode, eMail]; exact rfl) ?_
      refine CW_assoc ?_
      refine W_reg (by simp only [go_sem, eNode, eMail]; exact rfl) ?_
      refine CW_seq ?_
      refine CW_cond (by simp only [go_sem, eNode, eMail]; exact rfl) (fun c2 => ?_) (fun c2 => ?_)
      · skip
        skip
        refine W_reg (by simp only [go_sem, eNode, eMail]; exact rfl) ?_
        refine CW_ret ?_
        refine sq_r ?_
        simp only [go_sem, eNode, eMail]
        all_goals try first | refine int_res ?_ | refine bool_res ?_
        all_goals
          unfold mailFault mailForm
          grind
      · skip
        skip
        refine CW_skip ?_
        refine sq_n ?_
        refine CW_assoc ?_
        refine W_drw (by
          refine DW_cut 11 (by simp only [go_sem, eNode, eMail]; exact rfl) ?_
          refine DW_ls (by simp only [List.drop_succ_cons, List.drop_zero]; exact rfl) ?_
          refine DW_callGN q_spec_LastOf (s_spec_LastOf m.entries (by omega)) true rfl rfl (by simp only [go_sem, eNode, eMail, eEntry]; exact rfl) (fun _ => (by simp only [go_sem, eNode, eMail, eEntry]; exact rfl)) (by simp only [go_sem, eNode, eMail]; exact rfl) ?_
          simp only [go_sem, eNode, eMail] <;> and_intros <;> first | with_reducible exact rfl | omega | with_reducible trivial | (intros; simp_all; done) | grind) ?_
        refine CW_seq ?_
        refine CW_cond (by simp only [go_sem, eNode, eMail]; exact rfl) (fun c3 => ?_) (fun c3 => ?_)
        · skip
          have hl : ¬ mailLog m := by unfold mailLog; grind
          refine W_reg (by simp only [go_sem, eNode, eMail]; exact rfl) ?_
          refine CW_ret ?_
          refine sq_r ?_
          simp only [go_sem, eNode, eMail]
          all_goals try first | refine int_res ?_ | refine bool_res ?_
          all_goals
            unfold mailFault mailForm
            grind
        · skip
          have hl : mailLog m := by unfold mailLog; grind
          refine CW_skip ?_
          refine sq_n ?_
          refine CW_assoc ?_
          refine W_reg (by
            refine RW_cut 14 (by simp only [go_sem, eNode, eMail]; exact rfl) ?_
            refine RW_ls (by simp only [List.drop_succ_cons, List.drop_zero]; exact rfl) ?_
            refine RW_callGN q_spec_l8Zeros (s_spec_l8Zeros m) true rfl rfl (by simp only [go_sem, eNode, eMail]; exact rfl) (fun _ => (by simp only [go_sem, eNode, eMail]; exact rfl)) (by simp only [go_sem, eNode, eMail]; exact rfl) ?_
            simp only [go_sem, eNode, eMail] <;> and_intros <;> first | with_reducible exact rfl | omega | with_reducible trivial | (intros; simp_all; done) | grind) ?_
          refine CW_seq ?_
          refine CW_cond (by simp only [go_sem, eNode, eMail]; exact rfl) (fun c4 => ?_) (fun c4 => ?_)
          · skip
            skip
            refine W_reg (by simp only [go_sem, eNode, eMail]; exact rfl) ?_
            refine CW_ret ?_
            refine sq_r ?_
            simp only [go_sem, eNode, eMail]
            all_goals try first | refine int_res ?_ | refine bool_res ?_
            all_goals
              unfold mailFault mailForm
              grind
          · skip
            skip
            refine CW_skip ?_
            refine sq_n ?_
            refine W_reg (by simp only [go_sem, eNode, eMail]; exact rfl) ?_
            refine CW_ret ?_
            simp only [go_sem, eNode, eMail]
            all_goals try first | refine int_res ?_ | refine bool_res ?_
            all_goals
              unfold mailFault mailForm
              grind
end Go.H
end
section
set_option maxRecDepth 100000
set_option linter.unusedVariables false
set_option linter.unusedSimpArgs false
namespace Go.H
open Go Go.Proofs.Tryz
def c_spec_l9Place : SC :=
.seq (rg [
  ss 4 (.mv (.b false))] [0, 1])
  (.seq (rg [
  ss 5 (.mv (.t 1)),
  ss 6 (.mv (.t 0)),
  ss 7 (.nck (.t 6)),
  ss 8 (.fad (.t 7) 0),
  ss 9 (.load (.t 8) 1 false),
  sk 10 45056 (.len (.t 9)),
  sh 11 1 (.bin .sub (.t 10) (.i .i64 1)),
  sk 12 53248 (.call (.f F.spec_l1In) [(.t 5, none), (.i .i64 0, none), (.t 11, none)]),
  ss 4 (.mv (.t 12))] [4])
  (.ret))
theorem b_spec_l9Place : ∃ c, f153.body = some c ∧ compC prog 13 c = some c_spec_l9Place.er ∧ drawB c c_spec_l9Place = true := ⟨_, rfl, by kernel_rfl, by kernel_rfl⟩
theorem r_spec_l9Place : cmpR prog [.tmp 4] = some [.t 4] := by kernel_rfl
theorem q_spec_l9Place : callB prog F.spec_l9Place = true := by kernel_rfl
variable [Inv prog]
theorem s_spec_l9Place (x : Cluster) (n : Int) (hn : x.nodes.length ≤ 2097152) : SemX prog F.spec_l9Place [aT (.ptr (eCluster false x)), aI n] [] [rB (place x n)] [] := by
  obtain ⟨cc, g1, g2, g3⟩ := b_spec_l9Place
  refine SemX.of_code func153 g1 (by rw [ntmps153]; exact g2) g3 (by rw [results153]; exact r_spec_l9Place) (by rw [ntmps153]; exact Nat.le_of_ble_eq_true rfl) (Nat.le_of_ble_eq_true rfl) (by simp) (by simp [argOk, aT, aI, aS, eCluster]) ?_
  unfold c_spec_l9Place
  simp only [rg]
  refine W_reg (by simp only [go_sem, eCluster]; exact rfl) ?_
  refine W_reg (by
    refine RW_cut 7 (by simp only [go_sem, eCluster] <;> and_intros <;> first | with_reducible exact rfl | omega | with_reducible trivial | (intros; simp_all; done) | grind) ?_
    refine RW_ls (by simp only [List.drop_succ_cons, List.drop_zero]; exact rfl) ?_
    refine RW_callN q_spec_l1In (s_spec_l1In n 0 (x.nodes.length - 1)) true [] [] [] rfl rfl (by simp only [go_sem, eCluster]; exact rfl) (by rfl) (by simp only [go_sem, eCluster]; exact rfl) ?_
    simp only [go_sem, eCluster]; exact rfl) ?_
  refine CW_ret ?_
  simp only [go_sem, eCluster, place]
end Go.H
end
