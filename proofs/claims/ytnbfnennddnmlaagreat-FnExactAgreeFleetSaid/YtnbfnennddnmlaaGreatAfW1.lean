/- What the functions that the law reaches compute, each by its code, against pure functions. Conditions: those that each theorem states. -/
import Derived.Test.YtnbfnennddnmlaaGreatQC3
import Derived.ChangeArms
import Derived.DataReads
import Derived.KernelRfl
section
set_option linter.unusedSimpArgs false
set_option linter.unusedVariables false
namespace Go.H
open Go
theorem add_add0 {a : Addr} (hs : a.spot = none) (i j : Nat) : (a.add i).add j = ⟨a.block, a.off + (i + j), none⟩ := by
  obtain ⟨ab, ao, as1⟩ := a
  simp only at hs
  subst hs
  simp only [Addr.add]
  by_cases h1 : i = 0
  · subst h1
    by_cases h2 : j = 0 <;> simp [h2]
  · by_cases h2 : j = 0 <;> simp [h1, h2, Nat.add_assoc]
def okW (w : World) (b : Nat) : Prop := b < w.heap.size
theorem RoL_app {w : World} {ok : Nat → Prop} : ∀ {ts us : List T} {a b : List Value}, RoL w ok ts a → RoL w ok us b → RoL w ok (ts ++ us) (a ++ b)
  | [], us, a, b, h1, h2 => by simp only [RoL] at h1; subst h1; exact h2
  | t :: ts, us, a, b, h1, h2 => by
    simp only [RoL, List.cons_append] at h1 ⊢
    obtain ⟨u, vs, rfl, h3, h4⟩ := h1
    exact ⟨u, vs ++ b, rfl, h3, RoL_app h4 h2⟩
theorem RoL_cat {w : World} {ok : Nat → Prop} {ts us : List T} {cs : List Value} {o n : Nat} (h1 : RoL w ok ts ((cs.drop o).take n)) (h2 : RoL w ok us (cs.drop (o + n))) : RoL w ok (ts ++ us) (cs.drop o) := by
  have := RoL_app h1 h2
  rwa [← List.drop_drop, List.take_append_drop] at this
theorem RoL_end {w : World} {ok : Nat → Prop} {ts : List T} {cs : List Value} {o n : Nat} (h1 : RoL w ok ts ((cs.drop o).take n)) (hl : cs.length = o + n) : RoL w ok ts (cs.drop o) := by
  rwa [List.take_of_length_le (by simp; omega)] at h1
theorem RoRows_snoc {w : World} {ok : Nat → Prop} {sz : Nat} : ∀ {rs : List (List T)} {vs : List Value} {r : List T} {cs : List Value}, RoRows w ok sz rs vs → r.length = sz → RoL w ok r cs → RoRows w ok sz (rs ++ [r]) (vs ++ cs)
  | [], vs, r, cs, h, hl, hr => by
    simp only [RoRows] at h
    subst h
    simp only [List.nil_append, RoRows]
    exact ⟨cs, [], by simp, hl, hr, rfl⟩
  | x :: rs, vs, r, cs, h, hl, hr => by
    simp only [RoRows, List.cons_append] at h ⊢
    obtain ⟨a, b, rfl, h1, h2, h3⟩ := h
    exact ⟨a, b ++ cs, by simp, h1, h2, RoRows_snoc h3 hl hr⟩
section
variable {H : Type} {enc : TypeId × Value → H} {P : Program} {w : World} {base : Nat} {spare : Nat → Bool} {held : Bool}
theorem sl_of {α : Type} (f : α → List T) (q : α → Prop) (sz : Nat) {t e : TypeId} (ht : P.underlying t = some (.slice e)) (hsz : P.cellsOf e = sz) (hf : ∀ x, (f x).length = sz) (hpos : sz ≠ 0)
    (hel : ∀ n cs d, DataW.trod enc P w base spare held n e cs = some d → ∃ x, RoL w (okW w) (f x) cs ∧ q x) {fuel : Nat} {cs : List Value} {x : DataW H × List MemPlace} (h : DataW.trod enc P w base spare held fuel t cs = some x) :
    ∃ xs : List α, RoL w (okW w) [.sl false sz (xs.map f)] cs ∧ xs.length ≤ 9223372036854775807 ∧ ∀ y ∈ xs, q y := by
  rcases DataW.trod_slice ht h with ⟨rfl, _⟩ | ⟨a, len, cap, elems, rest, n, _, rfl, _, hb, hl, hm, hlen, he, _, _⟩
  · refine ⟨[], ?_, by simp, by simp⟩
    simp only [RoL, RoT, List.map_nil, List.length_nil]
    exact ⟨_, [], rfl, ⟨none, 0, [], rfl, Nat.le_refl _, Nat.zero_le _, by simp only [RoRows], fun h => absurd rfl h⟩, rfl⟩
  · rw [hsz] at he
    have one : ∀ i, i < len → ∃ csi x, w.cells? base (a.add (i * sz)) sz = some csi ∧ RoL w (okW w) (f x) csi ∧ q x := by
      intro i hi
      have h1 := he i hi
      rw [List.getElem?_eq_getElem (by omega)] at h1
      obtain ⟨csi, h2, h3⟩ := Option.bind_eq_some_iff.1 h1
      obtain ⟨x, h4, h5⟩ := hel n csi _ h3
      exact ⟨csi, x, h2, h4, h5⟩
    have spot : 0 < len → a.spot = none ∧ a.block < w.heap.size := by
      intro h0
      obtain ⟨csi, x, h1, h2, _⟩ := one 0 h0
      obtain ⟨_, h3, h4⟩ := World.cells?_some h1
      have h5 := h4 0 (by omega)
      rw [List.getElem?_eq_getElem (by omega)] at h5
      simp only [Nat.zero_mul, Addr.add, if_true] at h5
      unfold World.cell? at h5
      split at h5
      · rename_i hh
        split at h5
        · cases h5
        · rename_i hs
          refine ⟨by simpa using hs, ?_⟩
          exact (Array.getElem?_eq_some_iff.1 hh).1
      · cases h5
    have all : ∀ k, k ≤ len → ∃ xs : List α, xs.length = k ∧ (∀ y ∈ xs, q y) ∧ ∃ vs : List Value, RoRows w (okW w) sz (xs.map f) vs ∧ ∀ j u, vs[j]? = some u → w.cell? ⟨a.block, a.off + j, none⟩ = some u := by
      intro k
      induction k with
      | zero => exact fun _ => ⟨[], rfl, by simp, [], by simp only [List.map_nil, RoRows], by simp⟩
      | succ k ih =>
        intro hk
        obtain ⟨xs, h1, h2, vs, h3, h4⟩ := ih (by omega)
        obtain ⟨csi, x, h5, h6, h7⟩ := one k (by omega)
        obtain ⟨_, h8, h9⟩ := World.cells?_some h5
        have hvl := h3.length
        rw [List.length_map, h1] at hvl
        refine ⟨xs ++ [x], by simp [h1], fun y hy => ?_, vs ++ csi, by rw [List.map_append]; exact RoRows_snoc h3 (hf x) h6, fun j u hj => ?_⟩
        · rcases List.mem_append.1 hy with hy | hy
          · exact h2 y hy
          · simp only [List.mem_singleton] at hy
            subst hy
            exact h7
        · by_cases hjv : j < vs.length
          · rw [List.getElem?_append_left hjv] at hj
            exact h4 j u hj
          · rw [List.getElem?_append_right (by omega)] at hj
            obtain ⟨hj2, _⟩ := List.getElem?_eq_some_iff.1 hj
            have h10 := h9 (j - vs.length) (by omega)
            rw [hj] at h10
            have hsp := (spot (by omega)).1
            have hjj : k * sz + (j - vs.length) = j := by rw [← hvl]; exact Nat.add_sub_cancel' (Nat.le_of_not_lt hjv)
            have e : (a.add (k * sz)).add (j - vs.length) = ⟨a.block, a.off + j, none⟩ := by rw [add_add0 hsp, hjj]
            rw [e] at h10
            exact h10
    obtain ⟨xs, h1, h2, vs, h3, h4⟩ := all len (Nat.le_refl _)
    refine ⟨xs, ?_, by rw [h1]; have : cap ≤ 9223372036854775807 := hm; omega, h2⟩
    simp only [RoL]
    refine ⟨_, [], rfl, ?_, rfl⟩
    simp only [RoT, List.length_map]
    refine ⟨some a, cap, vs, by rw [h1], by omega, hm, h3, fun hne => ?_⟩
    have h0 : 0 < len := by
      rcases Nat.eq_zero_or_pos len with e | e
      · rw [e] at h1
        have : xs = [] := List.length_eq_zero_iff.1 h1
        subst this
        exact absurd rfl hne
      · exact e
    obtain ⟨s1, s2⟩ := spot h0
    refine ⟨a.block, a.off, ?_, s2, s2, h4⟩
    obtain ⟨ab, ao, as1⟩ := a
    simp only at s1
    subst s1
    rfl
theorem int_of {t : TypeId} (ht : P.underlying t = some (.int .i64)) {fuel : Nat} {cs : List Value} {x : DataW H × List MemPlace} (h : DataW.trod enc P w base spare held fuel t cs = some x) : ∃ n : Int, RoL w (okW w) [.int .i64 n] cs := by
  obtain ⟨n, rfl, _⟩ := DataW.trod_int ht h
  exact ⟨n, by simp only [RoL, RoT]; exact ⟨_, [], rfl, rfl, rfl⟩⟩
theorem bool_of {t : TypeId} (ht : P.underlying t = some .bool) {fuel : Nat} {cs : List Value} {x : DataW H × List MemPlace} (h : DataW.trod enc P w base spare held fuel t cs = some x) : ∃ n : Bool, RoL w (okW w) [.bool n] cs := by
  obtain ⟨n, rfl, _⟩ := DataW.trod_bool ht h
  exact ⟨n, by simp only [RoL, RoT]; exact ⟨_, [], rfl, rfl, rfl⟩⟩
theorem fld_of {fs : Array Field} {n : Nat} {cs : List Value} {xs : List (DataW H × List MemPlace)} (hf : ∀ (i : Nat) (f : Field), fs[i]? = some f → DataW.trod enc P w base spare held n f.type ((cs.drop f.offset).take (P.cellsOf f.type)) = xs[i]?) (hl : xs.length = fs.size) (i : Nat) {f : Field} (hi : fs[i]? = some f) :
    ∃ d, DataW.trod enc P w base spare held n f.type ((cs.drop f.offset).take (P.cellsOf f.type)) = some d := by
  have h1 := hf i f hi
  obtain ⟨h2, _⟩ := Array.getElem?_eq_some_iff.1 hi
  rw [List.getElem?_eq_getElem (by omega)] at h1
  exact ⟨_, h1⟩
end
def allRo : List T → Bool
  | [] => true
  | t :: ts => !t.isOwn && allRo ts
theorem CRepL_ro {w : World} {fz : Nat → Prop} {hs : List Value} : ∀ {ts : List T} {vs : List Value}, RoL w fz ts vs → allRo ts = true → CRepL w fz hs (ts.map C.t) (fun _ => False) vs
  | [], vs, h, _ => by simpa only [RoL, List.map_nil, CRepL] using h
  | t :: ts, vs, h, hr => by
    simp only [RoL] at h
    obtain ⟨u, us, rfl, h1, h2⟩ := h
    simp only [allRo, Bool.and_eq_true, Bool.not_eq_true'] at hr
    simp only [List.map_cons, CRepL, CRep]
    exact ⟨u, us, fun _ => False, fun _ => False, rfl, fun _ h => h.elim, fun _ h => h, roOwn (fun sz rows e => by rw [e] at hr; simp [T.isOwn] at hr) h1, CRepL_ro h2 hr.2⟩
end Go.H
end
section
set_option maxRecDepth 100000
set_option linter.unusedVariables false
set_option linter.unusedSimpArgs false
namespace Go.H
open Go Go.Proofs.Tryz
section
variable {H : Type} {enc : TypeId × Value → H} {w : World} {base : Nat} {spare : Nat → Bool} {held : Bool}
theorem cells31 : prog.cellsOf 31 = 8 := by kernel_rfl
theorem cells2 : prog.cellsOf 2 = 1 := by kernel_rfl
theorem cells27 : prog.cellsOf 27 = 4 := by kernel_rfl
theorem cells4 : prog.cellsOf 4 = 1 := by kernel_rfl
theorem cells25 : prog.cellsOf 25 = 3 := by kernel_rfl
theorem cells275 : prog.cellsOf 275 = 5 := by kernel_rfl
theorem cells22 : prog.cellsOf 22 = 1 := by kernel_rfl
theorem cells266 : prog.cellsOf 266 = 4 := by kernel_rfl
theorem cells170 : prog.cellsOf 170 = 1 := by kernel_rfl
theorem cells23 : prog.cellsOf 23 = 1 := by kernel_rfl
theorem cells28 : prog.cellsOf 28 = 1 := by kernel_rfl
theorem cells180 : prog.cellsOf 180 = 7 := by kernel_rfl
theorem cells178 : prog.cellsOf 178 = 5 := by kernel_rfl
theorem cells29 : prog.cellsOf 29 = 1 := by kernel_rfl
theorem cells60 : prog.cellsOf 60 = 2 := by kernel_rfl
theorem cells85 : prog.cellsOf 85 = 9 := by kernel_rfl
theorem cells83 : prog.cellsOf 83 = 6 := by kernel_rfl
theorem cells57 : prog.cellsOf 57 = 1 := by kernel_rfl
theorem cells58 : prog.cellsOf 58 = 1 := by kernel_rfl
theorem of_275 {fuel : Nat} {cs : List Value} {d : DataW H × List MemPlace} (h : DataW.trod enc prog w base spare held fuel 275 cs = some d) : ∃ x : Backend, RoL w (okW w) (eBackend x) cs ∧ (fun _ => True) x := by
  obtain ⟨xs, n, rfl, _, hl, hxl, hf⟩ := DataW.trod_struct underlying275 h
  rw [cells275] at hl
  obtain ⟨_, h0⟩ : ∃ d, DataW.trod enc prog w base spare held n 2 ((cs.drop 0).take (prog.cellsOf 2)) = some d := fld_of hf hxl 0 rfl
  rw [cells2] at h0
  obtain ⟨x0, r0⟩ := int_of underlying2 h0
  obtain ⟨_, h1⟩ : ∃ d, DataW.trod enc prog w base spare held n 2 ((cs.drop 1).take (prog.cellsOf 2)) = some d := fld_of hf hxl 1 rfl
  rw [cells2] at h1
  obtain ⟨x1, r1⟩ := int_of underlying2 h1
  obtain ⟨_, h2⟩ : ∃ d, DataW.trod enc prog w base spare held n 2 ((cs.drop 2).take (prog.cellsOf 2)) = some d := fld_of hf hxl 2 rfl
  rw [cells2] at h2
  obtain ⟨x2, r2⟩ := int_of underlying2 h2
  obtain ⟨_, h3⟩ : ∃ d, DataW.trod enc prog w base spare held n 2 ((cs.drop 3).take (prog.cellsOf 2)) = some d := fld_of hf hxl 3 rfl
  rw [cells2] at h3
  obtain ⟨x3, r3⟩ := int_of underlying2 h3
  obtain ⟨_, h4⟩ : ∃ d, DataW.trod enc prog w base spare held n 4 ((cs.drop 4).take (prog.cellsOf 4)) = some d := fld_of hf hxl 4 rfl
  rw [cells4] at h4
  obtain ⟨x4, r4⟩ := bool_of underlying4 h4
  refine ⟨⟨x0, x1, x2, x3, x4⟩, ?_, trivial⟩
  exact (RoL_cat (o := 0) (n := 1) r0 (RoL_cat (o := 1) (n := 1) r1 (RoL_cat (o := 2) (n := 1) r2 (RoL_cat (o := 3) (n := 1) r3 (RoL_end (o := 4) (n := 1) r4 hl)))))
theorem of_266 {fuel : Nat} {cs : List Value} {d : DataW H × List MemPlace} (h : DataW.trod enc prog w base spare held fuel 266 cs = some d) : ∃ x : Vip, RoL w (okW w) (eVip false x) cs ∧ qVip x := by
  obtain ⟨xs, n, rfl, _, hl, hxl, hf⟩ := DataW.trod_struct underlying266 h
  rw [cells266] at hl
  obtain ⟨_, h0⟩ : ∃ d, DataW.trod enc prog w base spare held n 2 ((cs.drop 0).take (prog.cellsOf 2)) = some d := fld_of hf hxl 0 rfl
  rw [cells2] at h0
  obtain ⟨x0, r0⟩ := int_of underlying2 h0
  obtain ⟨_, h1⟩ : ∃ d, DataW.trod enc prog w base spare held n 2 ((cs.drop 1).take (prog.cellsOf 2)) = some d := fld_of hf hxl 1 rfl
  rw [cells2] at h1
  obtain ⟨x1, r1⟩ := int_of underlying2 h1
  obtain ⟨_, h2⟩ : ∃ d, DataW.trod enc prog w base spare held n 2 ((cs.drop 2).take (prog.cellsOf 2)) = some d := fld_of hf hxl 2 rfl
  rw [cells2] at h2
  obtain ⟨x2, r2⟩ := int_of underlying2 h2
  obtain ⟨_, h3⟩ : ∃ d, DataW.trod enc prog w base spare held n 170 ((cs.drop 3).take (prog.cellsOf 170)) = some d := fld_of hf hxl 3 rfl
  rw [cells170] at h3
  obtain ⟨x3, r3, l3, q3⟩ := sl_of eI_i64 (fun _ => True) 1 underlying170 cells2 (fun _ => rfl) (by decide) (fun n cs d h => by obtain ⟨x, hx⟩ := int_of underlying2 h; exact ⟨x, hx, trivial⟩) h3
  refine ⟨⟨x0, x1, x2, x3⟩, ?_, l3⟩
  exact (RoL_cat (o := 0) (n := 1) r0 (RoL_cat (o := 1) (n := 1) r1 (RoL_cat (o := 2) (n := 1) r2 (RoL_end (o := 3) (n := 1) r3 hl))))
theorem of_25 {fuel : Nat} {cs : List Value} {d : DataW H × List MemPlace} (h : DataW.trod enc prog w base spare held fuel 25 cs = some d) : ∃ x : Config, RoL w (okW w) (eConfig false x) cs ∧ qConfig x := by
  obtain ⟨xs, n, rfl, _, hl, hxl, hf⟩ := DataW.trod_struct underlying25 h
  rw [cells25] at hl
  obtain ⟨_, h0⟩ : ∃ d, DataW.trod enc prog w base spare held n 2 ((cs.drop 0).take (prog.cellsOf 2)) = some d := fld_of hf hxl 0 rfl
  rw [cells2] at h0
  obtain ⟨x0, r0⟩ := int_of underlying2 h0
  obtain ⟨_, h1⟩ : ∃ d, DataW.trod enc prog w base spare held n 22 ((cs.drop 1).take (prog.cellsOf 22)) = some d := fld_of hf hxl 1 rfl
  rw [cells22] at h1
  obtain ⟨x1, r1, l1, q1⟩ := sl_of eBackend (fun _ => True) 5 underlying22 cells275 (fun _ => rfl) (by decide) (fun n cs d h => of_275 h) h1
  obtain ⟨_, h2⟩ : ∃ d, DataW.trod enc prog w base spare held n 23 ((cs.drop 2).take (prog.cellsOf 23)) = some d := fld_of hf hxl 2 rfl
  rw [cells23] at h2
  obtain ⟨x2, r2, l2, q2⟩ := sl_of (eVip false) qVip 4 underlying23 cells266 (fun _ => rfl) (by decide) (fun n cs d h => of_266 h) h2
  refine ⟨⟨x0, x1, x2⟩, ?_, ⟨l1, ⟨l2, q2⟩⟩⟩
  exact (RoL_cat (o := 0) (n := 1) r0 (RoL_cat (o := 1) (n := 1) r1 (RoL_end (o := 2) (n := 1) r2 hl)))
theorem of_27 {fuel : Nat} {cs : List Value} {d : DataW H × List MemPlace} (h : DataW.trod enc prog w base spare held fuel 27 cs = some d) : ∃ x : Watch, RoL w (okW w) (eWatch false x) cs ∧ qWatch x := by
  obtain ⟨xs, n, rfl, _, hl, hxl, hf⟩ := DataW.trod_struct underlying27 h
  rw [cells27] at hl
  obtain ⟨_, h0⟩ : ∃ d, DataW.trod enc prog w base spare held n 4 ((cs.drop 0).take (prog.cellsOf 4)) = some d := fld_of hf hxl 0 rfl
  rw [cells4] at h0
  obtain ⟨x0, r0⟩ := bool_of underlying4 h0
  obtain ⟨_, h1⟩ : ∃ d, DataW.trod enc prog w base spare held n 25 ((cs.drop 1).take (prog.cellsOf 25)) = some d := fld_of hf hxl 1 rfl
  rw [cells25] at h1
  obtain ⟨x1, r1, q1⟩ := of_25 h1
  refine ⟨⟨x0, x1⟩, ?_, q1⟩
  exact (RoL_cat (o := 0) (n := 1) r0 (RoL_end (o := 1) (n := 3) r1 hl))
theorem of_178 {fuel : Nat} {cs : List Value} {d : DataW H × List MemPlace} (h : DataW.trod enc prog w base spare held fuel 178 cs = some d) : ∃ x : Flow, RoL w (okW w) (eFlow x) cs ∧ (fun _ => True) x := by
  obtain ⟨xs, n, rfl, _, hl, hxl, hf⟩ := DataW.trod_struct underlying178 h
  rw [cells178] at hl
  obtain ⟨_, h0⟩ : ∃ d, DataW.trod enc prog w base spare held n 2 ((cs.drop 0).take (prog.cellsOf 2)) = some d := fld_of hf hxl 0 rfl
  rw [cells2] at h0
  obtain ⟨x0, r0⟩ := int_of underlying2 h0
  obtain ⟨_, h1⟩ : ∃ d, DataW.trod enc prog w base spare held n 2 ((cs.drop 1).take (prog.cellsOf 2)) = some d := fld_of hf hxl 1 rfl
  rw [cells2] at h1
  obtain ⟨x1, r1⟩ := int_of underlying2 h1
  obtain ⟨_, h2⟩ : ∃ d, DataW.trod enc prog w base spare held n 2 ((cs.drop 2).take (prog.cellsOf 2)) = some d := fld_of hf hxl 2 rfl
  rw [cells2] at h2
  obtain ⟨x2, r2⟩ := int_of underlying2 h2
  obtain ⟨_, h3⟩ : ∃ d, DataW.trod enc prog w base spare held n 2 ((cs.drop 3).take (prog.cellsOf 2)) = some d := fld_of hf hxl 3 rfl
  rw [cells2] at h3
  obtain ⟨x3, r3⟩ := int_of underlying2 h3
  obtain ⟨_, h4⟩ : ∃ d, DataW.trod enc prog w base spare held n 2 ((cs.drop 4).take (prog.cellsOf 2)) = some d := fld_of hf hxl 4 rfl
  rw [cells2] at h4
  obtain ⟨x4, r4⟩ := int_of underlying2 h4
  refine ⟨⟨x0, x1, x2, x3, x4⟩, ?_, trivial⟩
  exact (RoL_cat (o := 0) (n := 1) r0 (RoL_cat (o := 1) (n := 1) r1 (RoL_cat (o := 2) (n := 1) r2 (RoL_cat (o := 3) (n := 1) r3 (RoL_end (o := 4) (n := 1) r4 hl)))))
theorem of_180 {fuel : Nat} {cs : List Value} {d : DataW H × List MemPlace} (h : DataW.trod enc prog w base spare held fuel 180 cs = some d) : ∃ x : Held, RoL w (okW w) (eHeld x) cs ∧ (fun _ => True) x := by
  obtain ⟨xs, n, rfl, _, hl, hxl, hf⟩ := DataW.trod_struct underlying180 h
  rw [cells180] at hl
  obtain ⟨_, h0⟩ : ∃ d, DataW.trod enc prog w base spare held n 178 ((cs.drop 0).take (prog.cellsOf 178)) = some d := fld_of hf hxl 0 rfl
  rw [cells178] at h0
  obtain ⟨x0, r0, q0⟩ := of_178 h0
  obtain ⟨_, h1⟩ : ∃ d, DataW.trod enc prog w base spare held n 2 ((cs.drop 5).take (prog.cellsOf 2)) = some d := fld_of hf hxl 1 rfl
  rw [cells2] at h1
  obtain ⟨x1, r1⟩ := int_of underlying2 h1
  obtain ⟨_, h2⟩ : ∃ d, DataW.trod enc prog w base spare held n 2 ((cs.drop 6).take (prog.cellsOf 2)) = some d := fld_of hf hxl 2 rfl
  rw [cells2] at h2
  obtain ⟨x2, r2⟩ := int_of underlying2 h2
  refine ⟨⟨x0, x1, x2⟩, ?_, trivial⟩
  exact (RoL_cat (o := 0) (n := 5) r0 (RoL_cat (o := 5) (n := 1) r1 (RoL_end (o := 6) (n := 1) r2 hl)))
theorem of_31 {fuel : Nat} {cs : List Value} {d : DataW H × List MemPlace} (h : DataW.trod enc prog w base spare held fuel 31 cs = some d) : ∃ x : Mux, RoL w (okW w) (eMux false x) cs ∧ qMux x := by
  obtain ⟨xs, n, rfl, _, hl, hxl, hf⟩ := DataW.trod_struct underlying31 h
  rw [cells31] at hl
  obtain ⟨_, h0⟩ : ∃ d, DataW.trod enc prog w base spare held n 2 ((cs.drop 0).take (prog.cellsOf 2)) = some d := fld_of hf hxl 0 rfl
  rw [cells2] at h0
  obtain ⟨x0, r0⟩ := int_of underlying2 h0
  obtain ⟨_, h1⟩ : ∃ d, DataW.trod enc prog w base spare held n 2 ((cs.drop 1).take (prog.cellsOf 2)) = some d := fld_of hf hxl 1 rfl
  rw [cells2] at h1
  obtain ⟨x1, r1⟩ := int_of underlying2 h1
  obtain ⟨_, h2⟩ : ∃ d, DataW.trod enc prog w base spare held n 27 ((cs.drop 2).take (prog.cellsOf 27)) = some d := fld_of hf hxl 2 rfl
  rw [cells27] at h2
  obtain ⟨x2, r2, q2⟩ := of_27 h2
  obtain ⟨_, h3⟩ : ∃ d, DataW.trod enc prog w base spare held n 28 ((cs.drop 6).take (prog.cellsOf 28)) = some d := fld_of hf hxl 3 rfl
  rw [cells28] at h3
  obtain ⟨x3, r3, l3, q3⟩ := sl_of (eLI_i64 false) (fun y => y.length ≤ 9223372036854775807) 1 underlying28 cells170 (fun _ => rfl) (by decide) (fun n cs d h => by obtain ⟨x, r, l, _⟩ := sl_of eI_i64 (fun _ => True) 1 underlying170 cells2 (fun _ => rfl) (by decide) (fun n cs d h => by obtain ⟨x, hx⟩ := int_of underlying2 h; exact ⟨x, hx, trivial⟩) h; exact ⟨x, r, l⟩) h3
  obtain ⟨_, h4⟩ : ∃ d, DataW.trod enc prog w base spare held n 29 ((cs.drop 7).take (prog.cellsOf 29)) = some d := fld_of hf hxl 4 rfl
  rw [cells29] at h4
  obtain ⟨x4, r4, l4, q4⟩ := sl_of eHeld (fun _ => True) 7 underlying29 cells180 (fun _ => rfl) (by decide) (fun n cs d h => of_180 h) h4
  refine ⟨⟨x0, x1, x2, x3, x4⟩, ?_, ⟨q2, ⟨l3, q3⟩, l4⟩⟩
  exact (RoL_cat (o := 0) (n := 1) r0 (RoL_cat (o := 1) (n := 1) r1 (RoL_cat (o := 2) (n := 4) r2 (RoL_cat (o := 6) (n := 1) r3 (RoL_end (o := 7) (n := 1) r4 hl)))))
theorem of_83 {fuel : Nat} {cs : List Value} {d : DataW H × List MemPlace} (h : DataW.trod enc prog w base spare held fuel 83 cs = some d) : ∃ x : Cmd, RoL w (okW w) (eCmd x) cs ∧ (fun _ => True) x := by
  obtain ⟨xs, n, rfl, _, hl, hxl, hf⟩ := DataW.trod_struct underlying83 h
  rw [cells83] at hl
  obtain ⟨_, h0⟩ : ∃ d, DataW.trod enc prog w base spare held n 2 ((cs.drop 0).take (prog.cellsOf 2)) = some d := fld_of hf hxl 0 rfl
  rw [cells2] at h0
  obtain ⟨x0, r0⟩ := int_of underlying2 h0
  obtain ⟨_, h1⟩ : ∃ d, DataW.trod enc prog w base spare held n 2 ((cs.drop 1).take (prog.cellsOf 2)) = some d := fld_of hf hxl 1 rfl
  rw [cells2] at h1
  obtain ⟨x1, r1⟩ := int_of underlying2 h1
  obtain ⟨_, h2⟩ : ∃ d, DataW.trod enc prog w base spare held n 2 ((cs.drop 2).take (prog.cellsOf 2)) = some d := fld_of hf hxl 2 rfl
  rw [cells2] at h2
  obtain ⟨x2, r2⟩ := int_of underlying2 h2
  obtain ⟨_, h3⟩ : ∃ d, DataW.trod enc prog w base spare held n 2 ((cs.drop 3).take (prog.cellsOf 2)) = some d := fld_of hf hxl 3 rfl
  rw [cells2] at h3
  obtain ⟨x3, r3⟩ := int_of underlying2 h3
  obtain ⟨_, h4⟩ : ∃ d, DataW.trod enc prog w base spare held n 2 ((cs.drop 4).take (prog.cellsOf 2)) = some d := fld_of hf hxl 4 rfl
  rw [cells2] at h4
  obtain ⟨x4, r4⟩ := int_of underlying2 h4
  obtain ⟨_, h5⟩ : ∃ d, DataW.trod enc prog w base spare held n 2 ((cs.drop 5).take (prog.cellsOf 2)) = some d := fld_of hf hxl 5 rfl
  rw [cells2] at h5
  obtain ⟨x5, r5⟩ := int_of underlying2 h5
  refine ⟨⟨x0, x1, x2, x3, x4, x5⟩, ?_, trivial⟩
  exact (RoL_cat (o := 0) (n := 1) r0 (RoL_cat (o := 1) (n := 1) r1 (RoL_cat (o := 2) (n := 1) r2 (RoL_cat (o := 3) (n := 1) r3 (RoL_cat (o := 4) (n := 1) r4 (RoL_end (o := 5) (n := 1) r5 hl))))))
theorem of_85 {fuel : Nat} {cs : List Value} {d : DataW H × List MemPlace} (h : DataW.trod enc prog w base spare held fuel 85 cs = some d) : ∃ x : Entry, RoL w (okW w) (eEntry x) cs ∧ (fun _ => True) x := by
  obtain ⟨xs, n, rfl, _, hl, hxl, hf⟩ := DataW.trod_struct underlying85 h
  rw [cells85] at hl
  obtain ⟨_, h0⟩ : ∃ d, DataW.trod enc prog w base spare held n 2 ((cs.drop 0).take (prog.cellsOf 2)) = some d := fld_of hf hxl 0 rfl
  rw [cells2] at h0
  obtain ⟨x0, r0⟩ := int_of underlying2 h0
  obtain ⟨_, h1⟩ : ∃ d, DataW.trod enc prog w base spare held n 2 ((cs.drop 1).take (prog.cellsOf 2)) = some d := fld_of hf hxl 1 rfl
  rw [cells2] at h1
  obtain ⟨x1, r1⟩ := int_of underlying2 h1
  obtain ⟨_, h2⟩ : ∃ d, DataW.trod enc prog w base spare held n 2 ((cs.drop 2).take (prog.cellsOf 2)) = some d := fld_of hf hxl 2 rfl
  rw [cells2] at h2
  obtain ⟨x2, r2⟩ := int_of underlying2 h2
  obtain ⟨_, h3⟩ : ∃ d, DataW.trod enc prog w base spare held n 83 ((cs.drop 3).take (prog.cellsOf 83)) = some d := fld_of hf hxl 3 rfl
  rw [cells83] at h3
  obtain ⟨x3, r3, q3⟩ := of_83 h3
  refine ⟨⟨x0, x1, x2, x3⟩, ?_, trivial⟩
  exact (RoL_cat (o := 0) (n := 1) r0 (RoL_cat (o := 1) (n := 1) r1 (RoL_cat (o := 2) (n := 1) r2 (RoL_end (o := 3) (n := 6) r3 hl))))
theorem of_60 {fuel : Nat} {cs : List Value} {d : DataW H × List MemPlace} (h : DataW.trod enc prog w base spare held fuel 60 cs = some d) : ∃ x : Fleet, RoL w (okW w) (eFleet false x) cs ∧ qFleet x := by
  obtain ⟨xs, n, rfl, _, hl, hxl, hf⟩ := DataW.trod_struct underlying60 h
  rw [cells60] at hl
  obtain ⟨_, h0⟩ : ∃ d, DataW.trod enc prog w base spare held n 57 ((cs.drop 0).take (prog.cellsOf 57)) = some d := fld_of hf hxl 0 rfl
  rw [cells57] at h0
  obtain ⟨x0, r0, l0, q0⟩ := sl_of eEntry (fun _ => True) 9 underlying57 cells85 (fun _ => rfl) (by decide) (fun n cs d h => of_85 h) h0
  obtain ⟨_, h1⟩ : ∃ d, DataW.trod enc prog w base spare held n 58 ((cs.drop 1).take (prog.cellsOf 58)) = some d := fld_of hf hxl 1 rfl
  rw [cells58] at h1
  obtain ⟨x1, r1, l1, q1⟩ := sl_of (eMux false) qMux 8 underlying58 cells31 (fun _ => rfl) (by decide) (fun n cs d h => of_31 h) h1
  refine ⟨⟨x0, x1⟩, ?_, ⟨l0, ⟨l1, q1⟩⟩⟩
  exact (RoL_cat (o := 0) (n := 1) r0 (RoL_end (o := 1) (n := 1) r1 hl))
end
end Go.H
end
section
set_option maxRecDepth 100000
set_option maxHeartbeats 4000000
set_option cbv.maxSteps 4000000
set_option linter.unusedVariables false
set_option linter.unusedSimpArgs false
namespace Go.H
open Go Go.Proofs.Tryz
variable [Inv prog]
section
attribute [local go_sem] badF okF zFleet List.map_append List.map_cons List.map_nil
theorem s_spec_AgreeFleet (f : Fleet) (hf : limF 2097152 f) (x : Entry) : SemX prog 37 [aS (eFleet false f), aS (eEntry x)] [] [.agg (eFleetResult true (agreeF f x))] [] := by
 refine goF [] [] [] func37 ?_
 obtain ⟨hfa, hfm, hfx⟩ := id hf
 have hsr := shrR_Entry (f.agreed ++ [x])
 simp only [List.map_append, List.map_cons, List.map_nil, eEntry, eCmd] at hsr
 have hA := hsr
 refine D ?_
 refine kR (s_spec_l15Fault f hf) ?_
 refine D ?_
 refine cC (fun c0 => ?_) (fun c0 => ?_)
 · skip
   refine D ?_
   refine kR (s_spec_l15Bad _) ?_
   refine D ?_
   refine E ?_
   have he : agreeF f x = badF (fleetFault f) := by unfold agreeF; rw [if_pos (by omega)]
   simp [he, badF, okF, zFleet, eEntry, eCmd]
 · skip
   refine D ?_
   refine kR (s_spec_EntryFault x) ?_
   refine D ?_
   refine cC (fun c1 => ?_) (fun c1 => ?_)
   · skip
     refine D ?_
     refine kR (s_spec_l15Bad _) ?_
     refine D ?_
     refine E ?_
     have he : agreeF f x = badF (entryFault x) := by unfold agreeF; rw [if_neg (by omega), if_pos (by omega)]
     simp [he, badF, okF, zFleet, eEntry, eCmd]
   · skip
     refine D ?_
     refine cC (fun c2 => ?_) (fun c2 => ?_)
     · skip
       refine D ?_
       refine kR (s_spec_l15Bad _) ?_
       refine D ?_
       refine E ?_
       have he : agreeF f x = badF 2 := by unfold agreeF; rw [if_neg (by omega), if_neg (by omega), if_pos (by omega)]
       simp [he, badF, okF, zFleet, eEntry, eCmd]
     · skip
       refine D ?_
       refine kR (s_spec_l15Copy f hf) ?_
       refine D ?_
       refine kR (s_spec_l11Replay (f.agreed ++ [x]) (by simp; omega)) ?_
       refine D ?_
       refine cC (fun c3 => ?_) (fun c3 => ?_)
       · skip
         refine D ?_
         refine kR (s_spec_l15Bad _) ?_
         refine D ?_
         refine E ?_
         have he : agreeF f x = badF (replayM (f.agreed ++ [x])).1.code := by unfold agreeF; rw [if_neg (by omega), if_neg (by omega), if_neg (by omega), if_pos (by omega)]
         simp [he, badF, okF, zFleet, eEntry, eCmd]
       · skip
         refine D ?_
         refine E ?_
         have he : agreeF f x = okF ⟨(f.agreed ++ [x]), f.muxes⟩ := by unfold agreeF; rw [if_neg (by omega), if_neg (by omega), if_neg (by omega), if_neg (by omega)]
         simp [he, badF, okF, zFleet, eEntry, eCmd]
end
section
attribute [local go_sem] badF okF zFleet List.map_append List.map_cons List.map_nil
theorem s_impl_AgreeFleet (f : Fleet) (hf : limF 2097152 f) (x : Entry) : SemX prog 39 [aS (eFleet false f), aS (eEntry x)] [] [.agg (eFleetResult true (agreeF f x))] [] := by
 refine goF [] [] [] func39 ?_
 obtain ⟨hfa, hfm, hfx⟩ := id hf
 have hsr := shrR_Entry (f.agreed ++ [x])
 simp only [List.map_append, List.map_cons, List.map_nil, eEntry, eCmd] at hsr
 have hA := hsr
 refine D ?_
 refine kR (s_impl_FleetFault f hf) ?_
 refine D ?_
 refine cC (fun c0 => ?_) (fun c0 => ?_)
 · skip
   have hff : fleetFault f = 0 := by omega
   have hn1 := (fleet_p hff).n1
   refine D ?_
   refine kR (s_impl_EntryFault x) ?_
   refine D ?_
   refine cC (fun c1 => ?_) (fun c1 => ?_)
   · skip
     refine D ?_
     refine cT ?_
     refine D ?_
     refine E ?_
     have he : agreeF f x = badF 2 := by unfold agreeF; rw [if_neg (by omega), if_neg (by omega), if_pos (by omega)]
     simp [he, badF, okF, zFleet, eEntry, eCmd]
   · skip
     refine D ?_
     refine cC (fun c2 => ?_) (fun c2 => ?_)
     · skip
       refine D ?_
       refine E ?_
       have he : agreeF f x = badF (entryFault x) := by unfold agreeF; rw [if_neg (by omega), if_pos (by omega)]
       simp [he, badF, okF, zFleet, eEntry, eCmd]
     · skip
       have hlt : f.agreed.length < 80 := by grind
       refine D ?_
       refine kR (s_impl_Fleet_copied f hf) ?_
       refine D ?_
       refine kR (s_impl_versions (f.agreed ++ [x]) (by simp; omega)) ?_
       refine D ?_
       refine cC (fun c3 => ?_) (fun c3 => ?_)
       · skip
         refine D ?_
         refine E ?_
         have he : agreeF f x = badF (replayM (f.agreed ++ [x])).1.code := by unfold agreeF; rw [if_neg (by omega), if_neg (by omega), if_neg (by omega), if_pos (by omega)]
         simp [he, badF, okF, zFleet, eEntry, eCmd]
       · skip
         refine D ?_
         refine E ?_
         have he : agreeF f x = okF ⟨(f.agreed ++ [x]), f.muxes⟩ := by unfold agreeF; rw [if_neg (by omega), if_neg (by omega), if_neg (by omega), if_neg (by omega)]
         simp [he, badF, okF, zFleet, eEntry, eCmd]
 · skip
   refine D ?_
   refine cC (fun c1 => ?_) (fun c1 => ?_)
   · skip
     omega
   · skip
     refine D ?_
     refine cC (fun c2 => ?_) (fun c2 => ?_)
     · skip
       refine D ?_
       refine E ?_
       have he : agreeF f x = badF (fleetFault f) := by unfold agreeF; rw [if_pos (by omega)]
       simp [he, badF, okF, zFleet, eEntry, eCmd]
     · skip
       omega
end
section
attribute [local go_sem] mF mFR mkL_length mkL_take
theorem s_laws_FnExactAgreeFleet (f : Fleet) (hq : qFleet f) (x : Entry) : SemX prog 7 [aS (eFleet false f), aS (eEntry x)] [] [rB true] [] := by
 refine goF [] [(5, 0, [12288], []), (5, 1, [], [81920, 81921]), (5, 2, [16384], []), (5, 4, [81920, 81921], [94211, 94212, 94213]), (5, 5, [], [28672]), (5, 6, [28672], [28672]), (7, 0, [32768], []), (7, 1, [16384], []), (7, 3, [102400, 102401], [118787, 118788, 118789]), (7, 4, [], [36864]), (7, 5, [36864], [36864]), (10, 0, [32768], []), (10, 1, [12288], []), (10, 2, [], [147456, 147457]), (10, 3, [102400, 102401, 147456, 147457], []), (24, 0, [12288], []), (24, 1, [], [253952, 253953]), (24, 2, [16384], []), (24, 4, [253952, 253953], [266243, 266244, 266245]), (24, 5, [], [53248]), (24, 6, [53248], [53248])] [] func7 ?_
 refine D ?_
 refine kR (s_laws_szFleet f 1048576 (by omega) (by omega) hq) ?_
 refine D ?_
 refine cC (fun c0 => ?_) (fun c0 => ?_)
 · skip
   refine D ?_
   exact E trivial
 · skip
   have hz : 0 ≤ szFleet f 1048576 := by simp at c0; omega
   have hx0 := szFleet_lim hz (by omega)
   have hx : limF 2097152 f := limF_mono (by omega) hx0
   have hr0 : limFR 1048577 (agreeF f x) := agree_lim (by omega) (limF_mono (by omega) hx0) x
   have hr : limFR 2097152 (agreeF f x) := ⟨Nat.le_trans hr0.1 (by omega), limF_mono (by omega) hr0.2⟩
   have hbr := sFR_bd hr0 1
   have hur := sFR_up (agreeF f x) 1
   have hbx := sF_bd (limF_mono (by omega) hx0) 1
   have hux := sF_up f 1
   refine D ?_
   refine kD (s_laws_toFleet f hx) ?_
   refine D ?_
   refine kD (s_laws_toEntry x) ?_
   refine D ?_
   refine kD (s_spec_AgreeFleet f hx x) ?_
   refine D ?_
   refine kR (s_laws_toFleet f hx) ?_
   refine D ?_
   refine kD (s_laws_toEntry x) ?_
   refine D ?_
   refine kD (s_impl_AgreeFleet f hx x) ?_
   refine D ?_
   refine kR (s_laws_eqFleetResult (agreeF f x) hr) ?_
   refine D ?_
   refine cF ?_
   refine D ?_
   refine kD (s_laws_toFleet f hx) ?_
   refine D ?_
   refine kD (s_laws_eqFleet f hx) ?_
   refine D ?_
   refine cF ?_
   refine D ?_
   refine kRk [102400, 102401] [] [] (s_laws_markFleet f hx 1 (by omega) (by omega)) ?_
   refine D ?_
   refine kRg (s_laws_eqFleetResult (agreeF f x) hr) ?_
   refine D ?_
   refine cC (fun c3 => ?_) (fun c3 => ?_)
   · skip
     exfalso
     revert c3
     simp [-List.getD_eq_getElem?_getD]
     omega
   · skip
     refine D ?_
     refine kRk [118787, 118788, 118789] [] [] (s_laws_markFleetResult (agreeF f x) hr 1 (by omega) (by omega)) ?_
     refine D ?_
     refine kR (s_laws_heldFleetResult (agreeF f x) hr 1 (by omega) (by omega)) ?_
     refine D ?_
     refine cC (fun c4 => ?_) (fun c4 => ?_)
     · skip
       exfalso
       revert c4
       simp [-List.getD_eq_getElem?_getD]
       omega
     · skip
       refine D ?_
       refine cF ?_
       refine D ?_
       refine kD (s_laws_toFleet f hx) ?_
       refine D ?_
       refine kD (s_laws_toEntry x) ?_
       refine D ?_
       refine kD (s_impl_AgreeFleet f hx x) ?_
       refine D ?_
       refine kR (s_laws_eqFleetResult (agreeF f x) hr) ?_
       refine D ?_
       refine cF ?_
       refine D ?_
       refine kR (s_laws_heldFleetResult (agreeF f x) hr 1 (by omega) (by omega)) ?_
       refine D ?_
       refine cC (fun c7 => ?_) (fun c7 => ?_)
       · skip
         exfalso
         revert c7
         simp [-List.getD_eq_getElem?_getD]
         omega
       · skip
         refine D ?_
         refine cF ?_
         refine D ?_
         exact E trivial
end
end Go.H
end
