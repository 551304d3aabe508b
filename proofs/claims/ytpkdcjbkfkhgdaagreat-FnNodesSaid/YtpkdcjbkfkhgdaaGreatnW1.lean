/- What the functions that the law reaches compute, each by its code, against pure functions. Conditions: those that each theorem states. -/
import Derived.Test.YtpkdcjbkfkhgdaaGreatQC3
import Derived.ChangeArms
import Derived.DataReads
import Derived.KernelRfl
section
set_option linter.unusedSimpArgs false
set_option linter.unusedVariables false
namespace Go.H
open Go
theorem add_add0 {a : Addr} (hs : a.spot = none) (i j : Nat) : (a.add i).add j = ⟨a.block, a.off + (i + j), none⟩ := by
  obtain ⟨ab, ao, as1⟩ := a
  simp only at hs
  subst hs
  simp only [Addr.add]
  by_cases h1 : i = 0
  · subst h1
    by_cases h2 : j = 0 <;> simp [h2]
  · by_cases h2 : j = 0 <;> simp [h1, h2, Nat.add_assoc]
def okW (w : World) (b : Nat) : Prop := b < w.heap.size
theorem RoL_app {w : World} {ok : Nat → Prop} : ∀ {ts us : List T} {a b : List Value}, RoL w ok ts a → RoL w ok us b → RoL w ok (ts ++ us) (a ++ b)
  | [], us, a, b, h1, h2 => by simp only [RoL] at h1; subst h1; exact h2
  | t :: ts, us, a, b, h1, h2 => by
    simp only [RoL, List.cons_append] at h1 ⊢
    obtain ⟨u, vs, rfl, h3, h4⟩ := h1
    exact ⟨u, vs ++ b, rfl, h3, RoL_app h4 h2⟩
theorem RoL_cat {w : World} {ok : Nat → Prop} {ts us : List T} {cs : List Value} {o n : Nat} (h1 : RoL w ok ts ((cs.drop o).take n)) (h2 : RoL w ok us (cs.drop (o + n))) : RoL w ok (ts ++ us) (cs.drop o) := by
  have := RoL_app h1 h2
  rwa [← List.drop_drop, List.take_append_drop] at this
theorem RoL_end {w : World} {ok : Nat → Prop} {ts : List T} {cs : List Value} {o n : Nat} (h1 : RoL w ok ts ((cs.drop o).take n)) (hl : cs.length = o + n) : RoL w ok ts (cs.drop o) := by
  rwa [List.take_of_length_le (by simp; omega)] at h1
theorem RoRows_snoc {w : World} {ok : Nat → Prop} {sz : Nat} : ∀ {rs : List (List T)} {vs : List Value} {r : List T} {cs : List Value}, RoRows w ok sz rs vs → r.length = sz → RoL w ok r cs → RoRows w ok sz (rs ++ [r]) (vs ++ cs)
  | [], vs, r, cs, h, hl, hr => by
    simp only [RoRows] at h
    subst h
    simp only [List.nil_append, RoRows]
    exact ⟨cs, [], by simp, hl, hr, rfl⟩
  | x :: rs, vs, r, cs, h, hl, hr => by
    simp only [RoRows, List.cons_append] at h ⊢
    obtain ⟨a, b, rfl, h1, h2, h3⟩ := h
    exact ⟨a, b ++ cs, by simp, h1, h2, RoRows_snoc h3 hl hr⟩
section
variable {H : Type} {enc : TypeId × Value → H} {P : Program} {w : World} {base : Nat} {spare : Nat → Bool} {held : Bool}
theorem sl_of {α : Type} (f : α → List T) (q : α → Prop) (sz : Nat) {t e : TypeId} (ht : P.underlying t = some (.slice e)) (hsz : P.cellsOf e = sz) (hf : ∀ x, (f x).length = sz) (hpos : sz ≠ 0)
    (hel : ∀ n cs d, DataW.trod enc P w base spare held n e cs = some d → ∃ x, RoL w (okW w) (f x) cs ∧ q x) {fuel : Nat} {cs : List Value} {x : DataW H × List MemPlace} (h : DataW.trod enc P w base spare held fuel t cs = some x) :
    ∃ xs : List α, RoL w (okW w) [.sl false sz (xs.map f)] cs ∧ xs.length ≤ 9223372036854775807 ∧ ∀ y ∈ xs, q y := by
  rcases DataW.trod_slice ht h with ⟨rfl, _⟩ | ⟨a, len, cap, elems, rest, n, _, rfl, _, hb, hl, hm, hlen, he, _, _⟩
  · refine ⟨[], ?_, by simp, by simp⟩
    simp only [RoL, RoT, List.map_nil, List.length_nil]
    exact ⟨_, [], rfl, ⟨none, 0, [], rfl, Nat.le_refl _, Nat.zero_le _, by simp only [RoRows], fun h => absurd rfl h⟩, rfl⟩
  · rw [hsz] at he
    have one : ∀ i, i < len → ∃ csi x, w.cells? base (a.add (i * sz)) sz = some csi ∧ RoL w (okW w) (f x) csi ∧ q x := by
      intro i hi
      have h1 := he i hi
      rw [List.getElem?_eq_getElem (by omega)] at h1
      obtain ⟨csi, h2, h3⟩ := Option.bind_eq_some_iff.1 h1
      obtain ⟨x, h4, h5⟩ := hel n csi _ h3
      exact ⟨csi, x, h2, h4, h5⟩
    have spot : 0 < len → a.spot = none ∧ a.block < w.heap.size := by
      intro h0
      obtain ⟨csi, x, h1, h2, _⟩ := one 0 h0
      obtain ⟨_, h3, h4⟩ := World.cells?_some h1
      have h5 := h4 0 (by omega)
      rw [List.getElem?_eq_getElem (by omega)] at h5
      simp only [Nat.zero_mul, Addr.add, if_true] at h5
      unfold World.cell? at h5
      split at h5
      · rename_i hh
        split at h5
        · cases h5
        · rename_i hs
          refine ⟨by simpa using hs, ?_⟩
          exact (Array.getElem?_eq_some_iff.1 hh).1
      · cases h5
    have all : ∀ k, k ≤ len → ∃ xs : List α, xs.length = k ∧ (∀ y ∈ xs, q y) ∧ ∃ vs : List Value, RoRows w (okW w) sz (xs.map f) vs ∧ ∀ j u, vs[j]? = some u → w.cell? ⟨a.block, a.off + j, none⟩ = some u := by
      intro k
      induction k with
      | zero => exact fun _ => ⟨[], rfl, by simp, [], by simp only [List.map_nil, RoRows], by simp⟩
      | succ k ih =>
        intro hk
        obtain ⟨xs, h1, h2, vs, h3, h4⟩ := ih (by omega)
        obtain ⟨csi, x, h5, h6, h7⟩ := one k (by omega)
        obtain ⟨_, h8, h9⟩ := World.cells?_some h5
        have hvl := h3.length
        rw [List.length_map, h1] at hvl
        refine ⟨xs ++ [x], by simp [h1], fun y hy => ?_, vs ++ csi, by rw [List.map_append]; exact RoRows_snoc h3 (hf x) h6, fun j u hj => ?_⟩
        · rcases List.mem_append.1 hy with hy | hy
          · exact h2 y hy
          · simp only [List.mem_singleton] at hy
            subst hy
            exact h7
        · by_cases hjv : j < vs.length
          · rw [List.getElem?_append_left hjv] at hj
            exact h4 j u hj
          · rw [List.getElem?_append_right (by omega)] at hj
            obtain ⟨hj2, _⟩ := List.getElem?_eq_some_iff.1 hj
            have h10 := h9 (j - vs.length) (by omega)
            rw [hj] at h10
            have hsp := (spot (by omega)).1
            have hjj : k * sz + (j - vs.length) = j := by rw [← hvl]; exact Nat.add_sub_cancel' (Nat.le_of_not_lt hjv)
            have e : (a.add (k * sz)).add (j - vs.length) = ⟨a.block, a.off + j, none⟩ := by rw [add_add0 hsp, hjj]
            rw [e] at h10
            exact h10
    obtain ⟨xs, h1, h2, vs, h3, h4⟩ := all len (Nat.le_refl _)
    refine ⟨xs, ?_, by rw [h1]; have : cap ≤ 9223372036854775807 := hm; omega, h2⟩
    simp only [RoL]
    refine ⟨_, [], rfl, ?_, rfl⟩
    simp only [RoT, List.length_map]
    refine ⟨some a, cap, vs, by rw [h1], by omega, hm, h3, fun hne => ?_⟩
    have h0 : 0 < len := by
      rcases Nat.eq_zero_or_pos len with e | e
      · rw [e] at h1
        have : xs = [] := List.length_eq_zero_iff.1 h1
        subst this
        exact absurd rfl hne
      · exact e
    obtain ⟨s1, s2⟩ := spot h0
    refine ⟨a.block, a.off, ?_, s2, s2, h4⟩
    obtain ⟨ab, ao, as1⟩ := a
    simp only at s1
    subst s1
    rfl
theorem int_of {t : TypeId} (ht : P.underlying t = some (.int .i64)) {fuel : Nat} {cs : List Value} {x : DataW H × List MemPlace} (h : DataW.trod enc P w base spare held fuel t cs = some x) : ∃ n : Int, RoL w (okW w) [.int .i64 n] cs := by
  obtain ⟨n, rfl, _⟩ := DataW.trod_int ht h
  exact ⟨n, by simp only [RoL, RoT]; exact ⟨_, [], rfl, rfl, rfl⟩⟩
theorem byte_of {t : TypeId} (ht : P.underlying t = some (.int .u8)) {fuel : Nat} {cs : List Value} {x : DataW H × List MemPlace} (h : DataW.trod enc P w base spare held fuel t cs = some x) : ∃ n : Int, RoL w (okW w) [.int .u8 n] cs ∧ (0 ≤ n ∧ n ≤ 255) := by
  obtain ⟨n, rfl, _, hw⟩ := DataW.trod_int ht h
  refine ⟨n, by simp only [RoL, RoT]; exact ⟨_, [], rfl, rfl, rfl⟩, ?_⟩
  simp only [Lit.wf, Bool.and_eq_true, decide_eq_true_eq] at hw
  exact hw
theorem bool_of {t : TypeId} (ht : P.underlying t = some .bool) {fuel : Nat} {cs : List Value} {x : DataW H × List MemPlace} (h : DataW.trod enc P w base spare held fuel t cs = some x) : ∃ n : Bool, RoL w (okW w) [.bool n] cs := by
  obtain ⟨n, rfl, _⟩ := DataW.trod_bool ht h
  exact ⟨n, by simp only [RoL, RoT]; exact ⟨_, [], rfl, rfl, rfl⟩⟩
theorem fld_of {fs : Array Field} {n : Nat} {cs : List Value} {xs : List (DataW H × List MemPlace)} (hf : ∀ (i : Nat) (f : Field), fs[i]? = some f → DataW.trod enc P w base spare held n f.type ((cs.drop f.offset).take (P.cellsOf f.type)) = xs[i]?) (hl : xs.length = fs.size) (i : Nat) {f : Field} (hi : fs[i]? = some f) :
    ∃ d, DataW.trod enc P w base spare held n f.type ((cs.drop f.offset).take (P.cellsOf f.type)) = some d := by
  have h1 := hf i f hi
  obtain ⟨h2, _⟩ := Array.getElem?_eq_some_iff.1 hi
  rw [List.getElem?_eq_getElem (by omega)] at h1
  exact ⟨_, h1⟩
end
def allRo : List T → Bool
  | [] => true
  | t :: ts => !t.isOwn && allRo ts
theorem CRepL_ro {w : World} {fz : Nat → Prop} {hs : List Value} : ∀ {ts : List T} {vs : List Value}, RoL w fz ts vs → allRo ts = true → CRepL w fz hs (ts.map C.t) (fun _ => False) vs
  | [], vs, h, _ => by simpa only [RoL, List.map_nil, CRepL] using h
  | t :: ts, vs, h, hr => by
    simp only [RoL] at h
    obtain ⟨u, us, rfl, h1, h2⟩ := h
    simp only [allRo, Bool.and_eq_true, Bool.not_eq_true'] at hr
    simp only [List.map_cons, CRepL, CRep]
    exact ⟨u, us, fun _ => False, fun _ => False, rfl, fun _ h => h.elim, fun _ h => h, roOwn (fun sz rows e => by rw [e] at hr; simp [T.isOwn] at hr) h1, CRepL_ro h2 hr.2⟩
end Go.H
end
section
set_option maxRecDepth 100000
set_option linter.unusedVariables false
set_option linter.unusedSimpArgs false
namespace Go.H
open Go Go.Proofs.Tryz
section
variable {H : Type} {enc : TypeId × Value → H} {w : World} {base : Nat} {spare : Nat → Bool} {held : Bool}
theorem cells5 : prog.cellsOf 5 = 1 := by kernel_rfl
theorem ofs_22 {fuel : Nat} {cs : List Value} {d : DataW H × List MemPlace} (h : DataW.trod enc prog w base spare held fuel 22 cs = some d) : ∃ x : List Int, RoL w (okW w) [.sl false 1 (x.map eI_u8)] cs ∧ x.length ≤ 9223372036854775807 ∧ ∀ y ∈ x, (fun b => 0 ≤ b ∧ b ≤ 255) y := by
  exact sl_of eI_u8 (fun b => 0 ≤ b ∧ b ≤ 255) 1 underlying22 cells5 (fun _ => rfl) (by decide) (fun n cs d h => byte_of underlying5 h) h
end
end Go.H
end
section
set_option maxRecDepth 100000
set_option maxHeartbeats 4000000
set_option cbv.maxSteps 4000000
set_option linter.unusedVariables false
set_option linter.unusedSimpArgs false
namespace Go.H
open Go Go.Proofs.Tryz
variable [Inv prog]
theorem s_laws_lwBig (code : List Int) (hc : code.length ≤ 9223372036854775807) : SemX prog 8 [aT (.sl false 1 (code.map eI_u8))] [] [rB (decide (1048576 < code.length))] [] := by
 refine goF [] [] [] func8 ?_
 refine D ?_
 refine E ?_
 first
 | exact trivial
 | rw [show (decide ((1048576 : Int) < code.length)) = decide (1048576 < code.length) by rw [Bool.eq_iff_iff]; simp; omega]
theorem s_spec_l1Source (code : List Int) (hb : okB code) : LayX prog 92 [aT (.sl false 1 (code.map eI_u8))] [.sl false 1 (code.map eI_u8), .int .i64 0] := by
 refine goL [] [] [] func92 ?_
 refine D ?_
 exact E trivial
end Go.H
end
section
set_option linter.unusedVariables false
set_option linter.unusedSimpArgs false
namespace Go.H
open Go
theorem eqEn_comm (x y : Entry) : eqEn x y = eqEn y x := by
  have h : ∀ {x y : Entry}, eqEn x y = true → eqEn y x = true := fun h => by rw [eqEn_eq h]; exact eqEn_self _
  exact Bool.eq_iff_iff.2 ⟨h, h⟩
theorem commonN_comm (a b : List Entry) : commonN a b = commonN b a := by
  unfold commonN
  rw [Nat.min_comm]
  congr 2
  funext n
  exact eqEn_comm _ _
theorem commonN_self (l : List Entry) : commonN l l = l.length := by
  unfold commonN
  rw [show (fun n => eqEn (l.getD n zEntry) (l.getD n zEntry)) = fun _ => true from funext fun n => eqEn_self _, Nat.min_self]
  have : ∀ l : List Nat, (l.takeWhile fun _ => true) = l := fun l => by induction l with
    | nil => rfl
    | cons a l ih => rw [List.takeWhile_cons, if_pos rfl, ih]
  rw [this, List.length_range]
structure Kept (x z : Node) : Prop where
  c : x.commit ≤ z.commit
  n : x.commit ≤ commonN z.log x.log
  v : 0 ≤ x.voted → z.voted = x.voted
theorem kept_same {x z : Node} (h1 : x.commit ≤ x.log.length) (hc : x.commit ≤ z.commit) (hl : z.log = x.log) (hv : 0 ≤ x.voted → z.voted = x.voted) : Kept x z :=
  ⟨hc, by rw [hl, commonN_self]; exact h1, hv⟩
theorem voted_kept {x : Node} {m : Mail} (h1 : x.commit ≤ x.log.length) : Kept x (votedN x m) := by
  unfold votedN
  split
  · rename_i h
    refine kept_same h1 (Int.le_refl _) rfl fun h0 => ?_
    unfold upOk at h
    simp only [Bool.and_eq_true, Bool.or_eq_true, decide_eq_true_eq] at h
    show m.from_ = x.voted
    omega
  · exact kept_same h1 (Int.le_refl _) rfl fun _ => rfl
theorem granted_kept {x : Node} {m : Mail} (h0 : 0 ≤ x.commit) (h1 : x.commit ≤ x.log.length) : Kept x (grantedN x m) := by
  unfold grantedN
  split
  · split
    · exact kept_same h1 (agI_bd (x := led (riseN x m)) h0 h1).1 rfl fun _ => rfl
    · exact kept_same h1 (Int.le_refl _) rfl fun _ => rfl
  · exact kept_same h1 (Int.le_refl _) rfl fun _ => rfl
theorem taken_kept {x : Node} {m : Mail} (h1 : x.commit ≤ x.log.length) (hc : takenC x m = 0) : Kept x (takenN x m) := by
  unfold takenN
  split
  · exact kept_same h1 (Int.le_refl _) rfl fun _ => rfl
  rename_i g1
  split
  · exact kept_same h1 (Int.le_refl _) rfl fun _ => rfl
  rename_i g2
  unfold takenC at hc
  rw [if_neg (fun e => g1 (.inl e)), if_neg (fun e => g1 (.inr e)), if_neg (fun e => g2 (.inl e))] at hc
  split at hc
  · cases hc
  split at hc
  · cases hc
  rename_i g3
  refine ⟨?_, ?_, fun _ => rfl⟩
  · show x.commit ≤ max x.commit _
    omega
  · show x.commit ≤ commonN (takenL x m) x.log
    rw [commonN_comm]
    omega
theorem told_kept {x : Node} {m : Mail} (h0 : 0 ≤ x.commit) (h1 : x.commit ≤ x.log.length) : Kept x (toldN x m) := by
  unfold toldN
  split
  · exact kept_same h1 (Int.le_refl _) rfl fun _ => rfl
  split
  · exact kept_same h1 (agI_bd (x := toldOk x m) h0 h1).1 rfl fun _ => rfl
  · exact kept_same h1 (Int.le_refl _) rfl fun _ => rfl
theorem hear_kept {x : Node} {m : Mail} (h0 : 0 ≤ x.commit) (h1 : x.commit ≤ x.log.length) (hc : (hear x m).code = 0) :
    x.term ≤ (hear x m).node.term ∧ x.commit ≤ (hear x m).node.commit ∧ x.commit ≤ commonN (hear x m).node.log x.log ∧ ((hear x m).node.term = x.term → 0 ≤ x.voted → (hear x m).node.voted = x.voted) := by
  have ht := (hear_term hc).1
  have hk : Kept (newer x m) (hear x m).node := by
    have hn : (newer x m).commit = x.commit ∧ (newer x m).log = x.log := ⟨newer_same.2.2.2.1, newer_same.2.2.1⟩
    generalize hy : newer x m = y at hn
    rw [← hn.1] at h0
    rw [← hn.1, ← hn.2] at h1
    unfold hear at hc ⊢
    rw [hy] at hc ⊢
    split at hc
    · rename_i k1
      rw [if_pos k1]
      exact voted_kept h1
    rename_i k1
    rw [if_neg k1]
    split at hc
    · rename_i k2
      rw [if_pos k2]
      exact granted_kept h0 h1
    rename_i k2
    rw [if_neg k2]
    split at hc
    · rename_i k3
      rw [if_pos k3]
      split at hc
      · rename_i k4; exact absurd hc k4
      rename_i k4
      rw [if_neg k4]
      exact taken_kept h1 (by omega)
    rename_i k3
    rw [if_neg k3]
    exact told_kept h0 h1
  have hn : (newer x m).commit = x.commit ∧ (newer x m).log = x.log := ⟨newer_same.2.2.2.1, newer_same.2.2.1⟩
  obtain ⟨c, n, v⟩ := hk
  rw [hn.1] at c n
  rw [hn.2] at n
  refine ⟨by omega, c, n, fun e h => ?_⟩
  rw [newer_same' (by omega)] at v
  exact v h
theorem nodes_law {x : Node} {m : Mail} (hc : (hearMail x m).code = 0) :
    nodeFault (hearMail x m).node = 0 ∧ x.term ≤ (hearMail x m).node.term ∧ ((hearMail x m).node.term = x.term → 0 ≤ x.voted → (hearMail x m).node.voted = x.voted) ∧ x.commit ≤ (hearMail x m).node.commit ∧ x.commit ≤ commonN (hearMail x m).node.log x.log ∧
    (crashNode (hearMail x m).node).code = 0 ∧ nodeFault (crashNode (hearMail x m).node).node = 0 ∧ (crashNode (hearMail x m).node).node.term = (hearMail x m).node.term ∧ (crashNode (hearMail x m).node).node.voted = (hearMail x m).node.voted ∧
    (crashNode (hearMail x m).node).node.log = (hearMail x m).node.log ∧ (crashNode (hearMail x m).node).node.commit = 0 := by
  unfold hearMail at hc ⊢
  split at hc
  · rename_i g; exact absurd hc g
  rename_i g1
  rw [if_neg g1]
  split at hc
  · rename_i g; exact absurd hc g
  rename_i g2
  rw [if_neg g2]
  have hx := nf_iff.1 (Classical.not_not.1 g1)
  have hm := (mf_iff hx.p).1 (Classical.not_not.1 g2)
  obtain ⟨k1, k2, k3, k4⟩ := hear_kept hx.c.1 hx.c.2 hc
  have hy := (hear_nf hx hm hc).1
  obtain ⟨e, _, hz, _, _⟩ := crash_nf hy
  refine ⟨nf_iff.2 hy, k1, k4, k2, k3, ?_, nf_iff.2 hz, ?_, ?_, ?_, ?_⟩
  · unfold crashNode
    rw [if_neg (fun e => e (nf_iff.2 hy))]
  all_goals (rw [e])
theorem eq_entry {x y : Entry} : x = y ↔ (x.term = y.term ∧ x.client = y.client ∧ x.seq = y.seq ∧ x.cmd.kind = y.cmd.kind ∧ x.cmd.expect = y.cmd.expect ∧ x.cmd.name = y.cmd.name ∧ x.cmd.addr = y.cmd.addr ∧ x.cmd.number = y.cmd.number ∧ x.cmd.proto = y.cmd.proto) :=
  ⟨fun e => by subst e; simp, fun h => by
    obtain ⟨t, c, s, ⟨c1, c2, c3, c4, c5, c6⟩⟩ := x
    obtain ⟨t', c', s', ⟨d1, d2, d3, d4, d5, d6⟩⟩ := y
    simp_all⟩
def hN (code : List Int) : Node := n8N code 0
def hM (code : List Int) : Mail := m8N code (n8S code 0) (n8N code 0)
noncomputable def commitOf (x : Node) : IntResult := ⟨nodeFault x, if nodeFault x = 0 then x.commit else 0⟩
instance instDecEntry : DecidableEq Entry := fun x y => decidable_of_iff (eqEn x y = true) ⟨eqEn_eq, fun e => e ▸ eqEn_self _⟩
theorem hN_lim {code : List Int} (hb : okB code) : limN 2097152 (hN code) := by
  obtain ⟨h1, h2, h3, h4⟩ := (n8N_lim hb (Int.le_refl 0)).1
  exact ⟨Nat.le_trans h1 (by omega), Nat.le_trans h2 (by omega), Nat.le_trans h3 (by omega), Nat.le_trans h4 (by omega)⟩
theorem hM_lim {code : List Int} (hb : okB code) : (hM code).entries.length ≤ 2097152 := by
  have h : (hM code).entries.length ≤ 50 := m8N_lim hb (n8S_bd hb (Int.le_refl 0)).1 _
  omega
end Go.H
end
section
set_option maxRecDepth 100000
set_option maxHeartbeats 4000000
set_option cbv.maxSteps 4000000
set_option linter.unusedVariables false
set_option linter.unusedSimpArgs false
namespace Go.H
open Go Go.Proofs.Tryz
variable [Inv prog]
section
attribute [local go_sem] hN hM
theorem s_spec_l8With (code : List Int) (hb : okB code) : SemX prog 45 [aT (.sl false 1 (code.map eI_u8))] [] [.agg (eNode false (hN code)), .agg (eMail true (hM code))] [] := by
 refine goF [] [(3, 0, [24576], []), (3, 2, [24576], []), (3, 3, [32768, 40964, 40967, 40968, 40969], [32768, 57352]), (3, 4, [12288], [12288]), (3, 5, [16384], [16384])] [] func45 ?_
 have hb8 := n8S_bd hb (Int.le_refl 0)
 obtain ⟨hL1, hL2, hL3⟩ := n8N_lim hb (Int.le_refl 0)
 have hp8 := n8p_bd hb (Int.le_refl 0)
 have hL4 : limN 2000 (n8N code 0) := ⟨Nat.le_trans hL1.1 (by omega), Nat.le_trans hL1.2.1 (by omega), Nat.le_trans hL1.2.2.1 (by omega), Nat.le_trans hL1.2.2.2 (by omega)⟩
 refine D ?_
 refine kLay (s_spec_l1Source _ (by assumption)) ?_
 refine D ?_
 refine kRq false [32768] [] [] (fun h => (SemX_shr (rs2 := [.agg (eNode false (n8N code 0))]) (s_spec_l8Node code hb (a := 0) h) (by simp [TV.shrs, TV.shr, T.shrL, T.shr, shrR_Entry, shrR_I_i64, shrR_Mail, eNode, eMail, eNodeResult]))) ?_
 refine D ?_
 refine kDq false [32768] [] [] (s_spec_l8DrawMail code hb (n8N code 0) hL4 (by omega) hL2) ?_
 refine D ?_
 exact E trivial
end
theorem s_spec_DrawHearMail (code : List Int) (hb : okB code) : SemX prog 18 [aT (.sl false 1 (code.map eI_u8))] [] [.agg (eNode false (hN code)), .agg (eMail true (hM code))] [] := by
 refine goF [] [] [] func18 ?_
 refine D ?_
 refine RW_callN (by kernel_rfl) (s_spec_l8With code hb) false [] [] [] rfl rfl (by simp only [go_sem] <;> and_intros <;> first | with_reducible exact rfl | omega | with_reducible trivial | (intros; simp_all; done) | grind) (by first | rfl | (simp only [go_sem]; done)) (by simp only [go_sem]; exact rfl) ?_
 refine D ?_
 exact E trivial
theorem s_impl_CrashNode (x : Node) (hx : limN 2097152 x) : SemX prog 22 [aS (eNode false x)] [] [.agg (eNodeResult true (crashNode x))] [] := by
 refine goF [] [(4, 1, [8192], []), (4, 3, [8192], []), (4, 5, [8192], []), (4, 7, [8192], []), (4, 9, [8192], []), (4, 10, [], [86016]), (4, 13, [12288], [12288])] [] func22 ?_
 obtain ⟨hx1, hx2, hx3, hx4⟩ := id hx
 refine D ?_
 refine kR (s_impl_NodeFault x hx) ?_
 refine D ?_
 refine cC (fun c0 => ?_) (fun c0 => ?_)
 · skip
   refine D ?_
   refine E ?_
   have he : crashNode x = badN (nodeFault x) := by unfold crashNode; rw [if_pos (by omega)]
   simp [he, badN, zNode]
 · skip
   refine D ?_
   refine kD (s_slices_Clone_Entry x.log hx1) ?_
   refine D ?_
   refine E ?_
   have he : crashNode x = ⟨0, ⟨x.id, x.peers, x.term, x.voted, x.log, 0, 0, [], [], []⟩, []⟩ := by unfold crashNode; rw [if_neg (by omega)]
   simp [he]
theorem s_slices_Equal_Entry (a b : List Entry) (ha : a.length ≤ 2097152) (hb : b.length ≤ 2097152) : SemX prog 66 [aT (.sl false 9 (a.map eEntry)), aT (.sl false 9 (b.map eEntry))] [] [rB (decide (a = b))] [] := by
 refine goF [] [] [] func66 ?_
 refine D ?_
 refine cC (fun c0 => ?_) (fun c0 => ?_)
 · skip
   have he : ¬ a = b := fun e => by subst e; simp at c0
   refine D ?_
   refine E ?_
   simp [he]
 · skip
   have hle : a.length = b.length := by omega
   refine D ?_
   refine L (α := Nat) (fun x => [(13, .int .i64 x)]) (fun x => []) (fun x => a.length - x) (fun x => x ≤ a.length ∧ ∀ j, j < x → a.getD j zEntry = b.getD j zEntry) 0 [] (fun x hL => ?_) (hi := by exact ⟨Nat.zero_le _, fun j hj => by omega⟩)
   obtain ⟨hx2, hno⟩ := hL
   refine D ?_
   refine cC (fun c1 => ?_) (fun c1 => ?_)
   · skip
     refine D ?_
     refine cC (fun c2 => ?_) (fun c2 => ?_)
     · skip
       have he : ¬ a = b := fun e => by subst e; simp at c2
       refine D ?_
       refine E ?_
       simp [he]
     · skip
       refine D ?_
       refine N (x+1) [] (hi := ?_) (hm := ?_)
       · refine ⟨by omega, fun j hj => ?_⟩
         rcases Nat.lt_or_ge j x with h | h
         · exact hno j h
         · obtain rfl : j = x := by omega
           first | exact c2 | (simpa using c2) | (rw [eq_entry]; simpa [and_assoc] using c2) | (rw [eq_entry]; grind)
       · omega
   · skip
     obtain rfl : x = a.length := by omega
     refine D ?_
     refine E ?_
     have he : a = b := eq_getD zEntry hle hno
     simp [he]
theorem s_impl_SameEntries (a b : List Entry) (ha : a.length ≤ 2097152) (hb : b.length ≤ 2097152) : SemX prog 23 [aT (.sl false 9 (a.map eEntry)), aT (.sl false 9 (b.map eEntry))] [] [rB (decide (a = b))] [] := by
 refine goF [] [] [] func23 ?_
 refine D ?_
 refine kR (s_slices_Equal_Entry a b ha hb) ?_
 refine D ?_
 exact E trivial
theorem s_impl_CommitOf (x : Node) (hx : limN 2097152 x) : SemX prog 24 [aS (eNode false x)] [] [.agg (eIntResult (commitOf x))] [] := by
 refine goF [] [] [] func24 ?_
 refine D ?_
 refine kR (s_impl_NodeFault x hx) ?_
 refine D ?_
 refine cC (fun c0 => ?_) (fun c0 => ?_)
 · skip
   have hc0 : ¬ nodeFault x = 0 := by simpa using c0
   refine D ?_
   refine E ?_
   first
   | exact trivial
   | simp [commitOf, hc0]
 · skip
   have hc0 : nodeFault x = 0 := by simpa using c0
   refine D ?_
   refine E ?_
   first
   | exact trivial
   | simp [commitOf, hc0]
section
attribute [local go_sem] commitOf
theorem s_laws_FnNodes (code : List Int) (hc : code.length ≤ 9223372036854775807) (hbb : ∀ b ∈ code, 0 ≤ b ∧ b ≤ 255) : SemX prog 5 [aT (.sl false 1 (code.map eI_u8))] [] [rB true] [] := by
 refine goF [] [(6, 0, [16384], []), (6, 1, [20480], []), (6, 2, [49224], [94213, 94216, 94217, 94218, 94219]), (6, 5, [24576], []), (7, 1, [24576], []), (7, 2, [69637, 69640, 69641, 69642], []), (7, 7, [24576], []), (7, 9, [16384], []), (7, 15, [24576], []), (7, 17, [16384], []), (7, 21, [16384], []), (7, 27, [24576], []), (7, 29, [16384], []), (7, 36, [24576], []), (7, 38, [16384], []), (7, 44, [24576], []), (7, 46, [16384], []), (7, 47, [69637], []), (7, 49, [16384], []), (7, 54, [24576], []), (7, 56, [16384], []), (7, 57, [20480], []), (7, 58, [49224], [352261, 352264, 352265, 352266, 352267])] [] func5 ?_
 refine D ?_
 refine kR (s_laws_lwBig code hc) ?_
 refine D ?_
 refine cC (fun c0 => ?_) (fun c0 => ?_)
 · skip
   refine D ?_
   refine E ?_
   first
   | exact trivial
   | simp [*, commitOf]
 · skip
   have hb : okB code := ⟨by simp at c0; omega, hbb⟩
   have hx := hN_lim hb
   have hme := hM_lim hb
   obtain ⟨x, hxe⟩ : ∃ x, hN code = x := ⟨_, rfl⟩
   obtain ⟨m, hmm⟩ : ∃ m, hM code = m := ⟨_, rfl⟩
   rw [hxe] at hx
   rw [hmm] at hme
   have hrl : limN 2097152 (hearMail x m).node := (hear_lim (by omega) hx (Nat.le_refl _)).1
   have hcl : limN 2097152 (crashNode (hearMail x m).node).node := (crash_lim hrl).1
   have hA := And.intro hxe (hmm)
   refine D ?_
   refine RW_callN (by kernel_rfl) (SemX_shr (rs2 := [.agg (eNode false (hN code)), .agg (eMail false (hM code))]) (s_spec_DrawHearMail code hb) (by simp [TV.shrs, TV.shr, T.shrL, T.shr, shrR_Entry, shrR_I_i64, shrR_Mail, eNode, eMail, eNodeResult])) false [] [] [] rfl rfl (by simp only [go_sem, hA] <;> and_intros <;> first | with_reducible exact rfl | omega | with_reducible trivial | (intros; simp_all; done) | grind) (by first | rfl | (simp only [go_sem, hA]; done)) (by simp only [go_sem, hA]; exact rfl) ?_
   refine D ?_
   refine RW_callN (by kernel_rfl) (SemX_shr (rs2 := [.agg (eNodeResult false (hearMail x m))]) (s_impl_HearMail x hx m hme) (by simp [TV.shrs, TV.shr, T.shrL, T.shr, shrR_Entry, shrR_I_i64, shrR_Mail, eNode, eMail, eNodeResult])) false [] [] [] rfl rfl (by simp only [go_sem, hA] <;> and_intros <;> first | with_reducible exact rfl | omega | with_reducible trivial | (intros; simp_all; done) | grind) (by first | rfl | (simp only [go_sem, hA]; done)) (by simp only [go_sem, hA]; exact rfl) ?_
   refine D ?_
   refine cC (fun c1 => ?_) (fun c1 => ?_)
   · skip
     refine D ?_
     refine DW_callN (by kernel_rfl) (SemX_shr (rs2 := [.agg (eNodeResult false (hearMail x m))]) (s_spec_HearMail x hx m hme) (by simp [TV.shrs, TV.shr, T.shrL, T.shr, shrR_Entry, shrR_I_i64, shrR_Mail, eNode, eMail, eNodeResult])) false [] [] [] rfl rfl (by decide) trivial (by simp only [go_sem, hA] <;> and_intros <;> first | with_reducible exact rfl | omega | with_reducible trivial | (intros; simp_all; done) | grind) (by first | rfl | (simp only [go_sem, hA]; done)) (by simp only [go_sem, hA]; exact rfl) ?_
     refine D ?_
     refine E ?_
     first
     | exact trivial
     | simp [*, commitOf]
   · skip
     have hc0 : (hearMail x m).code = 0 := by simpa using c1
     obtain ⟨k1, k2, k3, k4, k5, j1, j2, j3, j4, j5, j6⟩ := nodes_law hc0
     refine D ?_
     refine kD (s_impl_NodeFault (hearMail x m).node hrl) ?_
     refine D ?_
     refine kDg (s_impl_CommonOf (hearMail x m).node.log x.log hrl.1 hx.1) ?_
     refine D ?_
     refine DW_callGN (by kernel_rfl) (SemX_shr (rs2 := [.agg (eNodeResult false (hearMail x m))]) (s_spec_HearMail x hx m hme) (by simp [TV.shrs, TV.shr, T.shrL, T.shr, shrR_Entry, shrR_I_i64, shrR_Mail, eNode, eMail, eNodeResult])) false rfl rfl (by simp only [go_sem, hA]; exact rfl) (fun _ => (by simp only [go_sem, hA] <;> and_intros <;> first | with_reducible exact rfl | omega | with_reducible trivial | (intros; simp_all; done) | grind)) (by simp only [go_sem, hA]; exact rfl) ?_
     refine D ?_
     refine cC (fun c2 => ?_) (fun c2 => ?_)
     · skip
       exfalso
       revert c2
       by_cases e1 : (hearMail x m).node.term = x.term <;> by_cases e2 : 0 ≤ x.voted <;> simp [k1, e1, e2, k3] <;> omega
     · skip
       refine D ?_
       refine RW_callN (by kernel_rfl) (SemX_shr (rs2 := [.agg (eNodeResult false (crashNode (hearMail x m).node))]) (s_impl_CrashNode (hearMail x m).node hrl) (by simp [TV.shrs, TV.shr, T.shrL, T.shr, shrR_Entry, shrR_I_i64, shrR_Mail, eNode, eMail, eNodeResult])) false [] [] [] rfl rfl (by simp only [go_sem, hA] <;> and_intros <;> first | with_reducible exact rfl | omega | with_reducible trivial | (intros; simp_all; done) | grind) (by first | rfl | (simp only [go_sem, hA]; done)) (by simp only [go_sem, hA]; exact rfl) ?_
       refine D ?_
       refine kRg (s_impl_NodeFault (crashNode (hearMail x m).node).node hcl) ?_
       refine D ?_
       refine kRg (s_impl_SameEntries (crashNode (hearMail x m).node).node.log (hearMail x m).node.log hcl.1 hrl.1) ?_
       refine D ?_
       refine kRg (s_impl_CommitOf (crashNode (hearMail x m).node).node hcl) ?_
       refine D ?_
       refine E ?_
       first
       | exact trivial
       | simp [*, commitOf]
end
end Go.H
end
