/- What the functions that the law reaches compute, each by its code, against pure functions. Conditions: those that each theorem states. -/
import Derived.Test.YtnbfnennddnmlaaGreatQC2
import Derived.ChangeArms
import Derived.DataReads
import Derived.KernelRfl
section
set_option linter.unusedSimpArgs false
set_option linter.unusedVariables false
namespace Go.H
open Go
theorem add_add0 {a : Addr} (hs : a.spot = none) (i j : Nat) : (a.add i).add j = ⟨a.block, a.off + (i + j), none⟩ := by
  obtain ⟨ab, ao, as1⟩ := a
  simp only at hs
  subst hs
  simp only [Addr.add]
  by_cases h1 : i = 0
  · subst h1
    by_cases h2 : j = 0 <;> simp [h2]
  · by_cases h2 : j = 0 <;> simp [h1, h2, Nat.add_assoc]
def okW (w : World) (b : Nat) : Prop := b < w.heap.size
theorem RoL_app {w : World} {ok : Nat → Prop} : ∀ {ts us : List T} {a b : List Value}, RoL w ok ts a → RoL w ok us b → RoL w ok (ts ++ us) (a ++ b)
  | [], us, a, b, h1, h2 => by simp only [RoL] at h1; subst h1; exact h2
  | t :: ts, us, a, b, h1, h2 => by
    simp only [RoL, List.cons_append] at h1 ⊢
    obtain ⟨u, vs, rfl, h3, h4⟩ := h1
    exact ⟨u, vs ++ b, rfl, h3, RoL_app h4 h2⟩
theorem RoL_cat {w : World} {ok : Nat → Prop} {ts us : List T} {cs : List Value} {o n : Nat} (h1 : RoL w ok ts ((cs.drop o).take n)) (h2 : RoL w ok us (cs.drop (o + n))) : RoL w ok (ts ++ us) (cs.drop o) := by
  have := RoL_app h1 h2
  rwa [← List.drop_drop, List.take_append_drop] at this
theorem RoL_end {w : World} {ok : Nat → Prop} {ts : List T} {cs : List Value} {o n : Nat} (h1 : RoL w ok ts ((cs.drop o).take n)) (hl : cs.length = o + n) : RoL w ok ts (cs.drop o) := by
  rwa [List.take_of_length_le (by simp; omega)] at h1
theorem RoRows_snoc {w : World} {ok : Nat → Prop} {sz : Nat} : ∀ {rs : List (List T)} {vs : List Value} {r : List T} {cs : List Value}, RoRows w ok sz rs vs → r.length = sz → RoL w ok r cs → RoRows w ok sz (rs ++ [r]) (vs ++ cs)
  | [], vs, r, cs, h, hl, hr => by
    simp only [RoRows] at h
    subst h
    simp only [List.nil_append, RoRows]
    exact ⟨cs, [], by simp, hl, hr, rfl⟩
  | x :: rs, vs, r, cs, h, hl, hr => by
    simp only [RoRows, List.cons_append] at h ⊢
    obtain ⟨a, b, rfl, h1, h2, h3⟩ := h
    exact ⟨a, b ++ cs, by simp, h1, h2, RoRows_snoc h3 hl hr⟩
section
variable {H : Type} {enc : TypeId × Value → H} {P : Program} {w : World} {base : Nat} {spare : Nat → Bool} {held : Bool}
theorem sl_of {α : Type} (f : α → List T) (q : α → Prop) (sz : Nat) {t e : TypeId} (ht : P.underlying t = some (.slice e)) (hsz : P.cellsOf e = sz) (hf : ∀ x, (f x).length = sz) (hpos : sz ≠ 0)
    (hel : ∀ n cs d, DataW.trod enc P w base spare held n e cs = some d → ∃ x, RoL w (okW w) (f x) cs ∧ q x) {fuel : Nat} {cs : List Value} {x : DataW H × List MemPlace} (h : DataW.trod enc P w base spare held fuel t cs = some x) :
    ∃ xs : List α, RoL w (okW w) [.sl false sz (xs.map f)] cs ∧ xs.length ≤ 9223372036854775807 ∧ ∀ y ∈ xs, q y := by
  rcases DataW.trod_slice ht h with ⟨rfl, _⟩ | ⟨a, len, cap, elems, rest, n, _, rfl, _, hb, hl, hm, hlen, he, _, _⟩
  · refine ⟨[], ?_, by simp, by simp⟩
    simp only [RoL, RoT, List.map_nil, List.length_nil]
    exact ⟨_, [], rfl, ⟨none, 0, [], rfl, Nat.le_refl _, Nat.zero_le _, by simp only [RoRows], fun h => absurd rfl h⟩, rfl⟩
  · rw [hsz] at he
    have one : ∀ i, i < len → ∃ csi x, w.cells? base (a.add (i * sz)) sz = some csi ∧ RoL w (okW w) (f x) csi ∧ q x := by
      intro i hi
      have h1 := he i hi
      rw [List.getElem?_eq_getElem (by omega)] at h1
      obtain ⟨csi, h2, h3⟩ := Option.bind_eq_some_iff.1 h1
      obtain ⟨x, h4, h5⟩ := hel n csi _ h3
      exact ⟨csi, x, h2, h4, h5⟩
    have spot : 0 < len → a.spot = none ∧ a.block < w.heap.size := by
      intro h0
      obtain ⟨csi, x, h1, h2, _⟩ := one 0 h0
      obtain ⟨_, h3, h4⟩ := World.cells?_some h1
      have h5 := h4 0 (by omega)
      rw [List.getElem?_eq_getElem (by omega)] at h5
      simp only [Nat.zero_mul, Addr.add, if_true] at h5
      unfold World.cell? at h5
      split at h5
      · rename_i hh
        split at h5
        · cases h5
        · rename_i hs
          refine ⟨by simpa using hs, ?_⟩
          exact (Array.getElem?_eq_some_iff.1 hh).1
      · cases h5
    have all : ∀ k, k ≤ len → ∃ xs : List α, xs.length = k ∧ (∀ y ∈ xs, q y) ∧ ∃ vs : List Value, RoRows w (okW w) sz (xs.map f) vs ∧ ∀ j u, vs[j]? = some u → w.cell? ⟨a.block, a.off + j, none⟩ = some u := by
      intro k
      induction k with
      | zero => exact fun _ => ⟨[], rfl, by simp, [], by simp only [List.map_nil, RoRows], by simp⟩
      | succ k ih =>
        intro hk
        obtain ⟨xs, h1, h2, vs, h3, h4⟩ := ih (by omega)
        obtain ⟨csi, x, h5, h6, h7⟩ := one k (by omega)
        obtain ⟨_, h8, h9⟩ := World.cells?_some h5
        have hvl := h3.length
        rw [List.length_map, h1] at hvl
        refine ⟨xs ++ [x], by simp [h1], fun y hy => ?_, vs ++ csi, by rw [List.map_append]; exact RoRows_snoc h3 (hf x) h6, fun j u hj => ?_⟩
        · rcases List.mem_append.1 hy with hy | hy
          · exact h2 y hy
          · simp only [List.mem_singleton] at hy
            subst hy
            exact h7
        · by_cases hjv : j < vs.length
          · rw [List.getElem?_append_left hjv] at hj
            exact h4 j u hj
          · rw [List.getElem?_append_right (by omega)] at hj
            obtain ⟨hj2, _⟩ := List.getElem?_eq_some_iff.1 hj
            have h10 := h9 (j - vs.length) (by omega)
            rw [hj] at h10
            have hsp := (spot (by omega)).1
            have hjj : k * sz + (j - vs.length) = j := by rw [← hvl]; exact Nat.add_sub_cancel' (Nat.le_of_not_lt hjv)
            have e : (a.add (k * sz)).add (j - vs.length) = ⟨a.block, a.off + j, none⟩ := by rw [add_add0 hsp, hjj]
            rw [e] at h10
            exact h10
    obtain ⟨xs, h1, h2, vs, h3, h4⟩ := all len (Nat.le_refl _)
    refine ⟨xs, ?_, by rw [h1]; have : cap ≤ 9223372036854775807 := hm; omega, h2⟩
    simp only [RoL]
    refine ⟨_, [], rfl, ?_, rfl⟩
    simp only [RoT, List.length_map]
    refine ⟨some a, cap, vs, by rw [h1], by omega, hm, h3, fun hne => ?_⟩
    have h0 : 0 < len := by
      rcases Nat.eq_zero_or_pos len with e | e
      · rw [e] at h1
        have : xs = [] := List.length_eq_zero_iff.1 h1
        subst this
        exact absurd rfl hne
      · exact e
    obtain ⟨s1, s2⟩ := spot h0
    refine ⟨a.block, a.off, ?_, s2, s2, h4⟩
    obtain ⟨ab, ao, as1⟩ := a
    simp only at s1
    subst s1
    rfl
theorem int_of {t : TypeId} (ht : P.underlying t = some (.int .i64)) {fuel : Nat} {cs : List Value} {x : DataW H × List MemPlace} (h : DataW.trod enc P w base spare held fuel t cs = some x) : ∃ n : Int, RoL w (okW w) [.int .i64 n] cs := by
  obtain ⟨n, rfl, _⟩ := DataW.trod_int ht h
  exact ⟨n, by simp only [RoL, RoT]; exact ⟨_, [], rfl, rfl, rfl⟩⟩
theorem bool_of {t : TypeId} (ht : P.underlying t = some .bool) {fuel : Nat} {cs : List Value} {x : DataW H × List MemPlace} (h : DataW.trod enc P w base spare held fuel t cs = some x) : ∃ n : Bool, RoL w (okW w) [.bool n] cs := by
  obtain ⟨n, rfl, _⟩ := DataW.trod_bool ht h
  exact ⟨n, by simp only [RoL, RoT]; exact ⟨_, [], rfl, rfl, rfl⟩⟩
theorem fld_of {fs : Array Field} {n : Nat} {cs : List Value} {xs : List (DataW H × List MemPlace)} (hf : ∀ (i : Nat) (f : Field), fs[i]? = some f → DataW.trod enc P w base spare held n f.type ((cs.drop f.offset).take (P.cellsOf f.type)) = xs[i]?) (hl : xs.length = fs.size) (i : Nat) {f : Field} (hi : fs[i]? = some f) :
    ∃ d, DataW.trod enc P w base spare held n f.type ((cs.drop f.offset).take (P.cellsOf f.type)) = some d := by
  have h1 := hf i f hi
  obtain ⟨h2, _⟩ := Array.getElem?_eq_some_iff.1 hi
  rw [List.getElem?_eq_getElem (by omega)] at h1
  exact ⟨_, h1⟩
end
def allRo : List T → Bool
  | [] => true
  | t :: ts => !t.isOwn && allRo ts
theorem CRepL_ro {w : World} {fz : Nat → Prop} {hs : List Value} : ∀ {ts : List T} {vs : List Value}, RoL w fz ts vs → allRo ts = true → CRepL w fz hs (ts.map C.t) (fun _ => False) vs
  | [], vs, h, _ => by simpa only [RoL, List.map_nil, CRepL] using h
  | t :: ts, vs, h, hr => by
    simp only [RoL] at h
    obtain ⟨u, us, rfl, h1, h2⟩ := h
    simp only [allRo, Bool.and_eq_true, Bool.not_eq_true'] at hr
    simp only [List.map_cons, CRepL, CRep]
    exact ⟨u, us, fun _ => False, fun _ => False, rfl, fun _ h => h.elim, fun _ h => h, roOwn (fun sz rows e => by rw [e] at hr; simp [T.isOwn] at hr) h1, CRepL_ro h2 hr.2⟩
end Go.H
end
section
set_option maxRecDepth 100000
set_option linter.unusedVariables false
set_option linter.unusedSimpArgs false
namespace Go.H
open Go Go.Proofs.Tryz
section
variable {H : Type} {enc : TypeId × Value → H} {w : World} {base : Nat} {spare : Nat → Bool} {held : Bool}
theorem cells31 : prog.cellsOf 31 = 8 := by kernel_rfl
theorem cells2 : prog.cellsOf 2 = 1 := by kernel_rfl
theorem cells27 : prog.cellsOf 27 = 4 := by kernel_rfl
theorem cells4 : prog.cellsOf 4 = 1 := by kernel_rfl
theorem cells25 : prog.cellsOf 25 = 3 := by kernel_rfl
theorem cells275 : prog.cellsOf 275 = 5 := by kernel_rfl
theorem cells22 : prog.cellsOf 22 = 1 := by kernel_rfl
theorem cells266 : prog.cellsOf 266 = 4 := by kernel_rfl
theorem cells170 : prog.cellsOf 170 = 1 := by kernel_rfl
theorem cells23 : prog.cellsOf 23 = 1 := by kernel_rfl
theorem cells28 : prog.cellsOf 28 = 1 := by kernel_rfl
theorem cells180 : prog.cellsOf 180 = 7 := by kernel_rfl
theorem cells178 : prog.cellsOf 178 = 5 := by kernel_rfl
theorem cells29 : prog.cellsOf 29 = 1 := by kernel_rfl
theorem cells72 : prog.cellsOf 72 = 7 := by kernel_rfl
theorem cells83 : prog.cellsOf 83 = 6 := by kernel_rfl
theorem cells70 : prog.cellsOf 70 = 1 := by kernel_rfl
theorem of_275 {fuel : Nat} {cs : List Value} {d : DataW H × List MemPlace} (h : DataW.trod enc prog w base spare held fuel 275 cs = some d) : ∃ x : Backend, RoL w (okW w) (eBackend x) cs ∧ (fun _ => True) x := by
  obtain ⟨xs, n, rfl, _, hl, hxl, hf⟩ := DataW.trod_struct underlying275 h
  rw [cells275] at hl
  obtain ⟨_, h0⟩ : ∃ d, DataW.trod enc prog w base spare held n 2 ((cs.drop 0).take (prog.cellsOf 2)) = some d := fld_of hf hxl 0 rfl
  rw [cells2] at h0
  obtain ⟨x0, r0⟩ := int_of underlying2 h0
  obtain ⟨_, h1⟩ : ∃ d, DataW.trod enc prog w base spare held n 2 ((cs.drop 1).take (prog.cellsOf 2)) = some d := fld_of hf hxl 1 rfl
  rw [cells2] at h1
  obtain ⟨x1, r1⟩ := int_of underlying2 h1
  obtain ⟨_, h2⟩ : ∃ d, DataW.trod enc prog w base spare held n 2 ((cs.drop 2).take (prog.cellsOf 2)) = some d := fld_of hf hxl 2 rfl
  rw [cells2] at h2
  obtain ⟨x2, r2⟩ := int_of underlying2 h2
  obtain ⟨_, h3⟩ : ∃ d, DataW.trod enc prog w base spare held n 2 ((cs.drop 3).take (prog.cellsOf 2)) = some d := fld_of hf hxl 3 rfl
  rw [cells2] at h3
  obtain ⟨x3, r3⟩ := int_of underlying2 h3
  obtain ⟨_, h4⟩ : ∃ d, DataW.trod enc prog w base spare held n 4 ((cs.drop 4).take (prog.cellsOf 4)) = some d := fld_of hf hxl 4 rfl
  rw [cells4] at h4
  obtain ⟨x4, r4⟩ := bool_of underlying4 h4
  refine ⟨⟨x0, x1, x2, x3, x4⟩, ?_, trivial⟩
  exact (RoL_cat (o := 0) (n := 1) r0 (RoL_cat (o := 1) (n := 1) r1 (RoL_cat (o := 2) (n := 1) r2 (RoL_cat (o := 3) (n := 1) r3 (RoL_end (o := 4) (n := 1) r4 hl)))))
theorem of_266 {fuel : Nat} {cs : List Value} {d : DataW H × List MemPlace} (h : DataW.trod enc prog w base spare held fuel 266 cs = some d) : ∃ x : Vip, RoL w (okW w) (eVip false x) cs ∧ qVip x := by
  obtain ⟨xs, n, rfl, _, hl, hxl, hf⟩ := DataW.trod_struct underlying266 h
  rw [cells266] at hl
  obtain ⟨_, h0⟩ : ∃ d, DataW.trod enc prog w base spare held n 2 ((cs.drop 0).take (prog.cellsOf 2)) = some d := fld_of hf hxl 0 rfl
  rw [cells2] at h0
  obtain ⟨x0, r0⟩ := int_of underlying2 h0
  obtain ⟨_, h1⟩ : ∃ d, DataW.trod enc prog w base spare held n 2 ((cs.drop 1).take (prog.cellsOf 2)) = some d := fld_of hf hxl 1 rfl
  rw [cells2] at h1
  obtain ⟨x1, r1⟩ := int_of underlying2 h1
  obtain ⟨_, h2⟩ : ∃ d, DataW.trod enc prog w base spare held n 2 ((cs.drop 2).take (prog.cellsOf 2)) = some d := fld_of hf hxl 2 rfl
  rw [cells2] at h2
  obtain ⟨x2, r2⟩ := int_of underlying2 h2
  obtain ⟨_, h3⟩ : ∃ d, DataW.trod enc prog w base spare held n 170 ((cs.drop 3).take (prog.cellsOf 170)) = some d := fld_of hf hxl 3 rfl
  rw [cells170] at h3
  obtain ⟨x3, r3, l3, q3⟩ := sl_of eI_i64 (fun _ => True) 1 underlying170 cells2 (fun _ => rfl) (by decide) (fun n cs d h => by obtain ⟨x, hx⟩ := int_of underlying2 h; exact ⟨x, hx, trivial⟩) h3
  refine ⟨⟨x0, x1, x2, x3⟩, ?_, l3⟩
  exact (RoL_cat (o := 0) (n := 1) r0 (RoL_cat (o := 1) (n := 1) r1 (RoL_cat (o := 2) (n := 1) r2 (RoL_end (o := 3) (n := 1) r3 hl))))
theorem of_25 {fuel : Nat} {cs : List Value} {d : DataW H × List MemPlace} (h : DataW.trod enc prog w base spare held fuel 25 cs = some d) : ∃ x : Config, RoL w (okW w) (eConfig false x) cs ∧ qConfig x := by
  obtain ⟨xs, n, rfl, _, hl, hxl, hf⟩ := DataW.trod_struct underlying25 h
  rw [cells25] at hl
  obtain ⟨_, h0⟩ : ∃ d, DataW.trod enc prog w base spare held n 2 ((cs.drop 0).take (prog.cellsOf 2)) = some d := fld_of hf hxl 0 rfl
  rw [cells2] at h0
  obtain ⟨x0, r0⟩ := int_of underlying2 h0
  obtain ⟨_, h1⟩ : ∃ d, DataW.trod enc prog w base spare held n 22 ((cs.drop 1).take (prog.cellsOf 22)) = some d := fld_of hf hxl 1 rfl
  rw [cells22] at h1
  obtain ⟨x1, r1, l1, q1⟩ := sl_of eBackend (fun _ => True) 5 underlying22 cells275 (fun _ => rfl) (by decide) (fun n cs d h => of_275 h) h1
  obtain ⟨_, h2⟩ : ∃ d, DataW.trod enc prog w base spare held n 23 ((cs.drop 2).take (prog.cellsOf 23)) = some d := fld_of hf hxl 2 rfl
  rw [cells23] at h2
  obtain ⟨x2, r2, l2, q2⟩ := sl_of (eVip false) qVip 4 underlying23 cells266 (fun _ => rfl) (by decide) (fun n cs d h => of_266 h) h2
  refine ⟨⟨x0, x1, x2⟩, ?_, ⟨l1, ⟨l2, q2⟩⟩⟩
  exact (RoL_cat (o := 0) (n := 1) r0 (RoL_cat (o := 1) (n := 1) r1 (RoL_end (o := 2) (n := 1) r2 hl)))
theorem of_27 {fuel : Nat} {cs : List Value} {d : DataW H × List MemPlace} (h : DataW.trod enc prog w base spare held fuel 27 cs = some d) : ∃ x : Watch, RoL w (okW w) (eWatch false x) cs ∧ qWatch x := by
  obtain ⟨xs, n, rfl, _, hl, hxl, hf⟩ := DataW.trod_struct underlying27 h
  rw [cells27] at hl
  obtain ⟨_, h0⟩ : ∃ d, DataW.trod enc prog w base spare held n 4 ((cs.drop 0).take (prog.cellsOf 4)) = some d := fld_of hf hxl 0 rfl
  rw [cells4] at h0
  obtain ⟨x0, r0⟩ := bool_of underlying4 h0
  obtain ⟨_, h1⟩ : ∃ d, DataW.trod enc prog w base spare held n 25 ((cs.drop 1).take (prog.cellsOf 25)) = some d := fld_of hf hxl 1 rfl
  rw [cells25] at h1
  obtain ⟨x1, r1, q1⟩ := of_25 h1
  refine ⟨⟨x0, x1⟩, ?_, q1⟩
  exact (RoL_cat (o := 0) (n := 1) r0 (RoL_end (o := 1) (n := 3) r1 hl))
theorem of_178 {fuel : Nat} {cs : List Value} {d : DataW H × List MemPlace} (h : DataW.trod enc prog w base spare held fuel 178 cs = some d) : ∃ x : Flow, RoL w (okW w) (eFlow x) cs ∧ (fun _ => True) x := by
  obtain ⟨xs, n, rfl, _, hl, hxl, hf⟩ := DataW.trod_struct underlying178 h
  rw [cells178] at hl
  obtain ⟨_, h0⟩ : ∃ d, DataW.trod enc prog w base spare held n 2 ((cs.drop 0).take (prog.cellsOf 2)) = some d := fld_of hf hxl 0 rfl
  rw [cells2] at h0
  obtain ⟨x0, r0⟩ := int_of underlying2 h0
  obtain ⟨_, h1⟩ : ∃ d, DataW.trod enc prog w base spare held n 2 ((cs.drop 1).take (prog.cellsOf 2)) = some d := fld_of hf hxl 1 rfl
  rw [cells2] at h1
  obtain ⟨x1, r1⟩ := int_of underlying2 h1
  obtain ⟨_, h2⟩ : ∃ d, DataW.trod enc prog w base spare held n 2 ((cs.drop 2).take (prog.cellsOf 2)) = some d := fld_of hf hxl 2 rfl
  rw [cells2] at h2
  obtain ⟨x2, r2⟩ := int_of underlying2 h2
  obtain ⟨_, h3⟩ : ∃ d, DataW.trod enc prog w base spare held n 2 ((cs.drop 3).take (prog.cellsOf 2)) = some d := fld_of hf hxl 3 rfl
  rw [cells2] at h3
  obtain ⟨x3, r3⟩ := int_of underlying2 h3
  obtain ⟨_, h4⟩ : ∃ d, DataW.trod enc prog w base spare held n 2 ((cs.drop 4).take (prog.cellsOf 2)) = some d := fld_of hf hxl 4 rfl
  rw [cells2] at h4
  obtain ⟨x4, r4⟩ := int_of underlying2 h4
  refine ⟨⟨x0, x1, x2, x3, x4⟩, ?_, trivial⟩
  exact (RoL_cat (o := 0) (n := 1) r0 (RoL_cat (o := 1) (n := 1) r1 (RoL_cat (o := 2) (n := 1) r2 (RoL_cat (o := 3) (n := 1) r3 (RoL_end (o := 4) (n := 1) r4 hl)))))
theorem of_180 {fuel : Nat} {cs : List Value} {d : DataW H × List MemPlace} (h : DataW.trod enc prog w base spare held fuel 180 cs = some d) : ∃ x : Held, RoL w (okW w) (eHeld x) cs ∧ (fun _ => True) x := by
  obtain ⟨xs, n, rfl, _, hl, hxl, hf⟩ := DataW.trod_struct underlying180 h
  rw [cells180] at hl
  obtain ⟨_, h0⟩ : ∃ d, DataW.trod enc prog w base spare held n 178 ((cs.drop 0).take (prog.cellsOf 178)) = some d := fld_of hf hxl 0 rfl
  rw [cells178] at h0
  obtain ⟨x0, r0, q0⟩ := of_178 h0
  obtain ⟨_, h1⟩ : ∃ d, DataW.trod enc prog w base spare held n 2 ((cs.drop 5).take (prog.cellsOf 2)) = some d := fld_of hf hxl 1 rfl
  rw [cells2] at h1
  obtain ⟨x1, r1⟩ := int_of underlying2 h1
  obtain ⟨_, h2⟩ : ∃ d, DataW.trod enc prog w base spare held n 2 ((cs.drop 6).take (prog.cellsOf 2)) = some d := fld_of hf hxl 2 rfl
  rw [cells2] at h2
  obtain ⟨x2, r2⟩ := int_of underlying2 h2
  refine ⟨⟨x0, x1, x2⟩, ?_, trivial⟩
  exact (RoL_cat (o := 0) (n := 5) r0 (RoL_cat (o := 5) (n := 1) r1 (RoL_end (o := 6) (n := 1) r2 hl)))
theorem of_31 {fuel : Nat} {cs : List Value} {d : DataW H × List MemPlace} (h : DataW.trod enc prog w base spare held fuel 31 cs = some d) : ∃ x : Mux, RoL w (okW w) (eMux false x) cs ∧ qMux x := by
  obtain ⟨xs, n, rfl, _, hl, hxl, hf⟩ := DataW.trod_struct underlying31 h
  rw [cells31] at hl
  obtain ⟨_, h0⟩ : ∃ d, DataW.trod enc prog w base spare held n 2 ((cs.drop 0).take (prog.cellsOf 2)) = some d := fld_of hf hxl 0 rfl
  rw [cells2] at h0
  obtain ⟨x0, r0⟩ := int_of underlying2 h0
  obtain ⟨_, h1⟩ : ∃ d, DataW.trod enc prog w base spare held n 2 ((cs.drop 1).take (prog.cellsOf 2)) = some d := fld_of hf hxl 1 rfl
  rw [cells2] at h1
  obtain ⟨x1, r1⟩ := int_of underlying2 h1
  obtain ⟨_, h2⟩ : ∃ d, DataW.trod enc prog w base spare held n 27 ((cs.drop 2).take (prog.cellsOf 27)) = some d := fld_of hf hxl 2 rfl
  rw [cells27] at h2
  obtain ⟨x2, r2, q2⟩ := of_27 h2
  obtain ⟨_, h3⟩ : ∃ d, DataW.trod enc prog w base spare held n 28 ((cs.drop 6).take (prog.cellsOf 28)) = some d := fld_of hf hxl 3 rfl
  rw [cells28] at h3
  obtain ⟨x3, r3, l3, q3⟩ := sl_of (eLI_i64 false) (fun y => y.length ≤ 9223372036854775807) 1 underlying28 cells170 (fun _ => rfl) (by decide) (fun n cs d h => by obtain ⟨x, r, l, _⟩ := sl_of eI_i64 (fun _ => True) 1 underlying170 cells2 (fun _ => rfl) (by decide) (fun n cs d h => by obtain ⟨x, hx⟩ := int_of underlying2 h; exact ⟨x, hx, trivial⟩) h; exact ⟨x, r, l⟩) h3
  obtain ⟨_, h4⟩ : ∃ d, DataW.trod enc prog w base spare held n 29 ((cs.drop 7).take (prog.cellsOf 29)) = some d := fld_of hf hxl 4 rfl
  rw [cells29] at h4
  obtain ⟨x4, r4, l4, q4⟩ := sl_of eHeld (fun _ => True) 7 underlying29 cells180 (fun _ => rfl) (by decide) (fun n cs d h => of_180 h) h4
  refine ⟨⟨x0, x1, x2, x3, x4⟩, ?_, ⟨q2, ⟨l3, q3⟩, l4⟩⟩
  exact (RoL_cat (o := 0) (n := 1) r0 (RoL_cat (o := 1) (n := 1) r1 (RoL_cat (o := 2) (n := 4) r2 (RoL_cat (o := 6) (n := 1) r3 (RoL_end (o := 7) (n := 1) r4 hl)))))
theorem of_83 {fuel : Nat} {cs : List Value} {d : DataW H × List MemPlace} (h : DataW.trod enc prog w base spare held fuel 83 cs = some d) : ∃ x : Cmd, RoL w (okW w) (eCmd x) cs ∧ (fun _ => True) x := by
  obtain ⟨xs, n, rfl, _, hl, hxl, hf⟩ := DataW.trod_struct underlying83 h
  rw [cells83] at hl
  obtain ⟨_, h0⟩ : ∃ d, DataW.trod enc prog w base spare held n 2 ((cs.drop 0).take (prog.cellsOf 2)) = some d := fld_of hf hxl 0 rfl
  rw [cells2] at h0
  obtain ⟨x0, r0⟩ := int_of underlying2 h0
  obtain ⟨_, h1⟩ : ∃ d, DataW.trod enc prog w base spare held n 2 ((cs.drop 1).take (prog.cellsOf 2)) = some d := fld_of hf hxl 1 rfl
  rw [cells2] at h1
  obtain ⟨x1, r1⟩ := int_of underlying2 h1
  obtain ⟨_, h2⟩ : ∃ d, DataW.trod enc prog w base spare held n 2 ((cs.drop 2).take (prog.cellsOf 2)) = some d := fld_of hf hxl 2 rfl
  rw [cells2] at h2
  obtain ⟨x2, r2⟩ := int_of underlying2 h2
  obtain ⟨_, h3⟩ : ∃ d, DataW.trod enc prog w base spare held n 2 ((cs.drop 3).take (prog.cellsOf 2)) = some d := fld_of hf hxl 3 rfl
  rw [cells2] at h3
  obtain ⟨x3, r3⟩ := int_of underlying2 h3
  obtain ⟨_, h4⟩ : ∃ d, DataW.trod enc prog w base spare held n 2 ((cs.drop 4).take (prog.cellsOf 2)) = some d := fld_of hf hxl 4 rfl
  rw [cells2] at h4
  obtain ⟨x4, r4⟩ := int_of underlying2 h4
  obtain ⟨_, h5⟩ : ∃ d, DataW.trod enc prog w base spare held n 2 ((cs.drop 5).take (prog.cellsOf 2)) = some d := fld_of hf hxl 5 rfl
  rw [cells2] at h5
  obtain ⟨x5, r5⟩ := int_of underlying2 h5
  refine ⟨⟨x0, x1, x2, x3, x4, x5⟩, ?_, trivial⟩
  exact (RoL_cat (o := 0) (n := 1) r0 (RoL_cat (o := 1) (n := 1) r1 (RoL_cat (o := 2) (n := 1) r2 (RoL_cat (o := 3) (n := 1) r3 (RoL_cat (o := 4) (n := 1) r4 (RoL_end (o := 5) (n := 1) r5 hl))))))
theorem of_72 {fuel : Nat} {cs : List Value} {d : DataW H × List MemPlace} (h : DataW.trod enc prog w base spare held fuel 72 cs = some d) : ∃ x : Update, RoL w (okW w) (eUpdate false x) cs ∧ qUpdate x := by
  obtain ⟨xs, n, rfl, _, hl, hxl, hf⟩ := DataW.trod_struct underlying72 h
  rw [cells72] at hl
  obtain ⟨_, h0⟩ : ∃ d, DataW.trod enc prog w base spare held n 2 ((cs.drop 0).take (prog.cellsOf 2)) = some d := fld_of hf hxl 0 rfl
  rw [cells2] at h0
  obtain ⟨x0, r0⟩ := int_of underlying2 h0
  obtain ⟨_, h1⟩ : ∃ d, DataW.trod enc prog w base spare held n 2 ((cs.drop 1).take (prog.cellsOf 2)) = some d := fld_of hf hxl 1 rfl
  rw [cells2] at h1
  obtain ⟨x1, r1⟩ := int_of underlying2 h1
  obtain ⟨_, h2⟩ : ∃ d, DataW.trod enc prog w base spare held n 4 ((cs.drop 2).take (prog.cellsOf 4)) = some d := fld_of hf hxl 2 rfl
  rw [cells4] at h2
  obtain ⟨x2, r2⟩ := bool_of underlying4 h2
  obtain ⟨_, h3⟩ : ∃ d, DataW.trod enc prog w base spare held n 25 ((cs.drop 3).take (prog.cellsOf 25)) = some d := fld_of hf hxl 3 rfl
  rw [cells25] at h3
  obtain ⟨x3, r3, q3⟩ := of_25 h3
  obtain ⟨_, h4⟩ : ∃ d, DataW.trod enc prog w base spare held n 70 ((cs.drop 6).take (prog.cellsOf 70)) = some d := fld_of hf hxl 4 rfl
  rw [cells70] at h4
  obtain ⟨x4, r4, l4, q4⟩ := sl_of eCmd (fun _ => True) 6 underlying70 cells83 (fun _ => rfl) (by decide) (fun n cs d h => of_83 h) h4
  refine ⟨⟨x0, x1, x2, x3, x4⟩, ?_, ⟨q3, l4⟩⟩
  exact (RoL_cat (o := 0) (n := 1) r0 (RoL_cat (o := 1) (n := 1) r1 (RoL_cat (o := 2) (n := 1) r2 (RoL_cat (o := 3) (n := 3) r3 (RoL_end (o := 6) (n := 1) r4 hl)))))
end
end Go.H
end
section
set_option maxRecDepth 100000
set_option maxHeartbeats 4000000
set_option cbv.maxSteps 4000000
set_option linter.unusedVariables false
set_option linter.unusedSimpArgs false
namespace Go.H
open Go Go.Proofs.Tryz
variable [Inv prog]
theorem s_laws_eqByteS (xs : List Int) (hl : xs.length ≤ 2097152)  : SemX prog 24 [aT (.sl false 1 (xs.map eI_u8)), aT (.sl false 1 (xs.map eI_u8))] [] [rB true] [] := by
 refine goF [] [] [] func24 ?_
 refine D ?_
 refine cF ?_
 refine D ?_
 refine L (α := Nat) (fun x => [(5, .int .i64 x)]) (fun x => []) (fun x => xs.length - x) (fun x => x ≤ xs.length) 0 [] (fun x hI => ?_)
 refine D ?_
 refine cC (fun c1 => ?_) (fun c1 => ?_)
 · skip
   refine D ?_
   refine cF ?_
   refine D ?_
   exact N (x+1) []
 · skip
   refine D ?_
   exact E trivial
end Go.H
end
section
set_option maxRecDepth 100000
set_option maxHeartbeats 4000000
set_option cbv.maxSteps 4000000
set_option linter.unusedVariables false
set_option linter.unusedSimpArgs false
namespace Go.H
open Go Go.Proofs.Tryz
variable [Inv prog]
theorem s_laws_eqMuxResult (r : MuxResult) (hr : limXR 2097152 r) : SemX prog 16 [aS (eMuxResult false r), aS (eMuxResult false r)] [] [rB true] [] := by
 refine goF [] [] [] func16 ?_
 refine D ?_
 refine cF ?_
 refine D ?_
 refine cF ?_
 refine D ?_
 refine cF ?_
 refine D ?_
 refine kR (s_laws_eqByteS r.out hr.1) ?_
 refine D ?_
 refine cF ?_
 refine D ?_
 refine kR (s_laws_eqMux r.mux hr.2) ?_
 refine D ?_
 refine cF ?_
 refine D ?_
 exact E trivial
end Go.H
end
section
set_option maxRecDepth 100000
set_option maxHeartbeats 4000000
set_option cbv.maxSteps 4000000
set_option linter.unusedVariables false
set_option linter.unusedSimpArgs false
namespace Go.H
open Go Go.Proofs.Tryz
variable [Inv prog]
section
attribute [local go_sem] List.set_set mkL_length
theorem s_laws_markByteS (xs : List Int) (k : Int) (hk : 0 ≤ k) (hl : xs.length ≤ 2097152) (hb : mkK sY xs k ≤ 9000000000000000000) : SemX prog 25 [.one (.arr 0), aI k] [.arr 1 (xs.map eI_u8)] [rI (mkK sY xs k)] [.arr 1 ((mkL mY sY xs k).map eI_u8)] := by
 refine goF [] [] [] func25 ?_
 refine D ?_
 refine L (α := Nat) (fun x => [(1, .int .i64 (mkK sY (xs.take x) k)), (5, .int .i64 x)]) (fun x => [(1000000, .arr ⟨1, (mkL mY sY (xs.take x) k ++ xs.drop x).map eI_u8, 1 + 1 * x, none⟩)]) (fun x => xs.length - x) (fun x => x ≤ xs.length) 0 [] (fun x hI => ?_) (by simp only [go_sem] <;> and_intros <;> first | with_reducible exact rfl | (first | omega | (simp [mkL, mkK]; done)))
 refine D ?_
 refine cC (fun c0 => ?_) (fun c0 => ?_)
 · skip
   have hat := mkK_at sY_up zI_u8 (xs := xs) (i := x) (by omega) hb
   simp only [sY] at hat
   have hg : ∀ r, (((mkL mY sY (xs.take x) k ++ xs.drop x).map eI_u8).set x r).getD x dI_u8 = r := fun r => getD_set_self (by simp [mkL_length]; omega) r _
   have hA := And.intro hg ((mk_getD mY sY zI_u8 k (show x < xs.length by omega)))
   refine D ?_
   refine lp_next (x+1) [] ?_ ?_ ?_
   · simp only [go_sem, hA] <;> and_intros <;> first | with_reducible exact rfl | (first | omega | (refine int_eq ?_; rw [mkK_succ sY zI_u8 (by omega)]; rfl) | (refine arr_eq ?_ (by omega); rw [← mk_step eI_u8 mY sY zI_u8 (by omega)]; simp only [eI_u8, mY]))
   · omega
   · omega
 · skip
   obtain rfl : x = xs.length := by omega
   refine D ?_
   refine E ?_
   first
   | exact trivial
   | simp only [go_sem, List.drop_length, mkL_length]; done
   | try simp only [go_sem, List.drop_length, mkL_length]
     simp [mkL_length]
end
end Go.H
end
section
set_option maxRecDepth 100000
set_option maxHeartbeats 4000000
set_option cbv.maxSteps 4000000
set_option linter.unusedVariables false
set_option linter.unusedSimpArgs false
namespace Go.H
open Go Go.Proofs.Tryz
variable [Inv prog]
theorem s_laws_markMuxResult (r : MuxResult) (hr : limXR 2097152 r) (k : Int) (hk : 0 ≤ k) (hb : sXR r k ≤ 9000000000000000000) : SemX prog 19 [.agg [.t (.int .i64 r.code), .t (.int .i64 r.why), .t (.int .i64 r.name), .arr 0, .t (.int .i64 r.mux.address), .t (.int .i64 r.mux.now), .t (.bool r.mux.watch.ready), .t (.int .i64 r.mux.watch.config.version), .arr 1, .arr 2, .arr 3, .arr 4], aI k] [.arr 1 (r.out.map eI_u8), .arr 5 (r.mux.watch.config.backends.map eBackend), .arr 4 (r.mux.watch.config.vips.map (eVip true)), .arr 1 (r.mux.tables.map (eLI_i64 true)), .arr 7 (r.mux.cache.map eHeld)] [rI (sXR r k)] [.arr 1 ((mXR r k).out.map eI_u8), .arr 5 ((mXR r k).mux.watch.config.backends.map eBackend), .arr 4 ((mXR r k).mux.watch.config.vips.map (eVip true)), .arr 1 ((mXR r k).mux.tables.map (eLI_i64 true)), .arr 7 ((mXR r k).mux.cache.map eHeld)] := by
 refine goF [] [] [] func19 ?_
 simp only [sXR] at hb
 have u1 := Int.le_trans (sX_up _ _) hb
 have v1 := mkK_mono sY_up r.out k
 have v2 := sX_up r.mux (mkK sY r.out k)
 refine D ?_
 refine kRk [1000000] [] [] (s_laws_markByteS r.out k hk hr.1 u1) ?_
 refine D ?_
 refine kRk [1001000, 1002000, 1003000, 1004000] [] [] (s_laws_markMux r.mux hr.2 _ (by omega) hb) ?_
 refine D ?_
 refine E ?_
 first
 | exact trivial
 | simp only [go_sem, mXR, mX, mG, sXR, mkL_length]
end Go.H
end
section
set_option maxRecDepth 100000
set_option maxHeartbeats 4000000
set_option cbv.maxSteps 4000000
set_option linter.unusedVariables false
set_option linter.unusedSimpArgs false
namespace Go.H
open Go Go.Proofs.Tryz
variable [Inv prog]
section
attribute [local go_sem] mkL_length mY
theorem s_laws_heldByteS (xs : List Int) (k : Int) (hk : 0 ≤ k) (hl : xs.length ≤ 2097152) (hb : mkK sY xs k ≤ 9000000000000000000)  : SemX prog 70 [aT (.sl false 1 ((mkL mY sY xs k).map eI_u8)), aI k] [] [rI (mkK sY xs k)] [] := by
 refine goF [] [] [] func70 ?_
 refine D ?_
 refine L (α := Nat) (fun x => [(1, .int .i64 (mkK sY (xs.take x) k)), (5, .int .i64 x)]) (fun x => []) (fun x => xs.length - x) (fun x => x ≤ xs.length) 0 [] (fun x hI => ?_) (by simp only [go_sem] <;> and_intros <;> first | with_reducible exact rfl | (first | omega | (simp [mkK]; done)))
 refine D ?_
 refine cC (fun c0 => ?_) (fun c0 => ?_)
 · skip
   have hat := mkK_at sY_up zI_u8 (xs := xs) (i := x) (by omega) hb
   simp only [sY] at hat
   have hg := mkL_getD mY sY zI_u8 k (show x < xs.length by omega)
   have hA := hg
   refine D ?_
   refine cF ?_
   refine D ?_
   refine lp_next (x+1) [] ?_ ?_ ?_
   · simp only [go_sem, hA] <;> and_intros <;> first | with_reducible exact rfl | (first | omega | (refine int_eq ?_; rw [mkK_succ sY zI_u8 (by omega)]; rfl))
   · omega
   · omega
 · skip
   obtain rfl : x = xs.length := by omega
   refine D ?_
   refine E ?_
   first
   | exact trivial
   | simp [mkL_length]
end
end Go.H
end
section
set_option maxRecDepth 100000
set_option maxHeartbeats 4000000
set_option cbv.maxSteps 4000000
set_option linter.unusedVariables false
set_option linter.unusedSimpArgs false
namespace Go.H
open Go Go.Proofs.Tryz
variable [Inv prog]
section
attribute [local go_sem] mXR
theorem s_laws_heldMuxResult (r : MuxResult) (hr : limXR 2097152 r) (k : Int) (hk : 0 ≤ k) (hb : sXR r k ≤ 9000000000000000000) : SemX prog 20 [aS (eMuxResult false (mXR r k)), aI k] [] [rI (sXR r k)] [] := by
 refine goF [] [] [] func20 ?_
 simp only [sXR] at hb
 have u1 := Int.le_trans (sX_up _ _) hb
 have v1 := mkK_mono sY_up r.out k
 have v2 := sX_up r.mux (mkK sY r.out k)
 refine D ?_
 refine kR (s_laws_heldByteS r.out k hk hr.1 u1) ?_
 refine D ?_
 refine cC (fun c0 => ?_) (fun c0 => ?_)
 · skip
   omega
 · skip
   refine D ?_
   refine kR (s_laws_heldMux r.mux hr.2 _ (by omega) hb) ?_
   refine D ?_
   refine cC (fun c1 => ?_) (fun c1 => ?_)
   · skip
     omega
   · skip
     refine D ?_
     refine E ?_
     first
     | exact trivial
     | simp only [go_sem, sXR]
end
end Go.H
end
section
set_option maxRecDepth 100000
set_option maxHeartbeats 4000000
set_option cbv.maxSteps 4000000
set_option linter.unusedVariables false
set_option linter.unusedSimpArgs false
namespace Go.H
open Go Go.Proofs.Tryz
variable [Inv prog]
theorem s_laws_szCmdS (rows : List (List T)) (l : Int) (h0 : -1 ≤ l) (h1 : l ≤ 1048576) (hl : rows.length ≤ 9223372036854775807) : SemX prog 84 [aT (.sl false 6 rows), aI l] [] [rI (szL rows.length l)] [] := by
 refine goF [] [] [] func84 ?_
 refine D ?_
 refine cC (fun c0 => ?_) (fun c0 => ?_)
 · skip
   refine D ?_
   refine E ?_
   first
   | exact trivial
   | simp [szL, *]
 · skip
   refine D ?_
   refine E ?_
   first
   | exact trivial
   | simp [szL, *]
end Go.H
end
section
set_option maxRecDepth 100000
set_option maxHeartbeats 4000000
set_option cbv.maxSteps 4000000
set_option linter.unusedVariables false
set_option linter.unusedSimpArgs false
namespace Go.H
open Go Go.Proofs.Tryz
variable [Inv prog]
theorem s_laws_szUpdate (x : Update) (l : Int) (h0 : -1 ≤ l) (h1 : l ≤ 1048576) (hb : x.config.backends.length ≤ 9223372036854775807) (hv : x.config.vips.length ≤ 9223372036854775807) (hV : ∀ i < x.config.vips.length, (x.config.vips.getD i zVip).names.length ≤ 9223372036854775807) (hs : x.cmds.length ≤ 9223372036854775807) : SemX prog 31 [aS (eUpdate false x), aI l] [] [rI (szUpdate x l)] [] := by
 refine goF [] [] [] func31 ?_
 refine D ?_
 refine kR (s_laws_szConfig x.config l h0 h1 hb hv hV) ?_
 refine D ?_
 refine cC (fun c0 => ?_) (fun c0 => ?_)
 · skip
   refine D ?_
   refine E ?_
   first
   | exact trivial
   | simp [szUpdate, szT, *]
 · skip
   refine D ?_
   refine kR (s_laws_szCmdS (x.cmds.map eCmd) (szConfig x.config l) (szConfig_lo _ _ h1).1 (szConfig_lo _ _ h1).2 (by simp only [List.length_map]; omega)) ?_
   refine D ?_
   refine cC (fun c1 => ?_) (fun c1 => ?_)
   · skip
     refine D ?_
     refine E ?_
     first
     | exact trivial
     | simp [szUpdate, szT, *]
   · skip
     refine D ?_
     refine E ?_
     first
     | exact trivial
     | simp [szUpdate, szT, *]
end Go.H
end
section
set_option maxRecDepth 100000
set_option maxHeartbeats 4000000
set_option cbv.maxSteps 4000000
set_option linter.unusedVariables false
set_option linter.unusedSimpArgs false
namespace Go.H
open Go Go.Proofs.Tryz
variable [Inv prog]
section
attribute [local go_sem] badX zMux zWatch zConfig
theorem s_spec_l14Bad (k : Int) : SemX prog 56 [aI k] [] [.agg (eMuxResult true (badX k))] [] := by
 refine goF [] [] [] func56 ?_
 refine D ?_
 exact E trivial
end
end Go.H
end
section
set_option maxRecDepth 100000
set_option maxHeartbeats 4000000
set_option cbv.maxSteps 4000000
set_option linter.unusedVariables false
set_option linter.unusedSimpArgs false
namespace Go.H
open Go Go.Proofs.Tryz
variable [Inv prog]
theorem s_spec_l5Needs (k : Int) : SemX prog 231 [aI k] [] [rB (nd1 k), rB (nd2 k), rB (nd3 k), rB (nd4 k)] [] := by
 refine goF [] [] [] func231 ?_
 refine D ?_
 refine kR (s_spec_l1In k 5 8) ?_
 refine D ?_
 refine E ?_
 first
 | exact trivial
 | simp only [go_sem, nd1, nd2, nd3, nd4, rB]; done
 | try simp only [go_sem, nd1, nd2, nd3, nd4, rB]
   simp
   rw [Bool.eq_iff_iff]
   simp [inR]
   omega
end Go.H
end
section
set_option maxRecDepth 100000
set_option maxHeartbeats 4000000
set_option cbv.maxSteps 4000000
set_option linter.unusedVariables false
set_option linter.unusedSimpArgs false
namespace Go.H
open Go Go.Proofs.Tryz
variable [Inv prog]
theorem s_spec_l5Number (x : Cmd) : SemX prog 233 [aS (eCmd x)] [] [rB (isNum x)] [] := by
 refine goF [] [] [] func233 ?_
 refine D ?_
 refine cC (fun c0 => ?_) (fun c0 => ?_)
 · skip
   refine D ?_
   refine cC (fun c1 => ?_) (fun c1 => ?_)
   · skip
     refine D ?_
     refine kR (s_spec_l1In _ _ _) ?_
     refine D ?_
     refine E ?_
     first
     | exact trivial
     | simp only [go_sem, isNum]; done
     | try simp only [go_sem, isNum]
       first | (exfalso; omega) | (simp [*]; done)
   · skip
     refine D ?_
     refine cC (fun c2 => ?_) (fun c2 => ?_)
     · skip
       refine D ?_
       refine kR (s_spec_l1In _ _ _) ?_
       refine D ?_
       refine E ?_
       first
       | exact trivial
       | simp only [go_sem, isNum]; done
       | try simp only [go_sem, isNum]
         first | (exfalso; omega) | (simp [*]; done)
     · skip
       refine D ?_
       refine cC (fun c3 => ?_) (fun c3 => ?_)
       · skip
         refine D ?_
         refine kR (s_spec_l1In _ _ _) ?_
         refine D ?_
         refine E ?_
         first
         | exact trivial
         | simp only [go_sem, isNum]; done
         | try simp only [go_sem, isNum]
           first | (exfalso; omega) | (simp [*]; done)
       · skip
         refine D ?_
         refine kR (s_spec_l2Port _) ?_
         refine D ?_
         refine E ?_
         first
         | exact trivial
         | simp only [go_sem, isNum]; done
         | try simp only [go_sem, isNum]
           first | (exfalso; omega) | (simp [*]; done)
 · skip
   refine D ?_
   refine cC (fun c1 => ?_) (fun c1 => ?_)
   · skip
     refine D ?_
     refine kR (s_spec_l1In _ _ _) ?_
     refine D ?_
     refine E ?_
     first
     | exact trivial
     | simp only [go_sem, isNum]; done
     | try simp only [go_sem, isNum]
       first | (exfalso; omega) | (simp [*]; done)
   · skip
     refine D ?_
     refine cC (fun c2 => ?_) (fun c2 => ?_)
     · skip
       refine D ?_
       refine kR (s_spec_l1In _ _ _) ?_
       refine D ?_
       refine E ?_
       first
       | exact trivial
       | simp only [go_sem, isNum]; done
       | try simp only [go_sem, isNum]
         first | (exfalso; omega) | (simp [*]; done)
     · skip
       refine D ?_
       refine cC (fun c3 => ?_) (fun c3 => ?_)
       · skip
         refine D ?_
         refine kR (s_spec_l1In _ _ _) ?_
         refine D ?_
         refine E ?_
         first
         | exact trivial
         | simp only [go_sem, isNum]; done
         | try simp only [go_sem, isNum]
           first | (exfalso; omega) | (simp [*]; done)
       · skip
         refine D ?_
         refine kR (s_spec_l2Port _) ?_
         refine D ?_
         refine E ?_
         first
         | exact trivial
         | simp only [go_sem, isNum]; done
         | try simp only [go_sem, isNum]
           first | (exfalso; omega) | (simp [*]; done)
end Go.H
end
section
set_option maxRecDepth 100000
set_option maxHeartbeats 4000000
set_option cbv.maxSteps 4000000
set_option linter.unusedVariables false
set_option linter.unusedSimpArgs false
namespace Go.H
open Go Go.Proofs.Tryz
variable [Inv prog]
section
attribute [local go_sem] exp_eq
theorem s_spec_CmdFault (x : Cmd) : SemX prog 167 [aS (eCmd x)] [] [rI (cmdFault x)] [] := by
 refine goF [] [] [] func167 ?_
 refine D ?_
 refine kR (s_spec_l1In _ _ _) ?_
 refine D ?_
 refine cC (fun c0 => ?_) (fun c0 => ?_)
 · skip
   refine D ?_
   refine E ?_
   first
   | exact trivial
   | simp only [go_sem, cmdFault]; done
   | try simp only [go_sem, cmdFault]
     grind
 · skip
   refine D ?_
   refine kR (s_spec_l5Needs _) ?_
   refine D ?_
   refine kRg (s_spec_l5Version _) ?_
   refine D ?_
   refine kRg (s_spec_l3Name _) ?_
   refine D ?_
   refine kRg (s_spec_l2Address _) ?_
   refine D ?_
   refine kRg (s_spec_l5Number _) ?_
   refine D ?_
   refine kRg (s_spec_l5Proto _) ?_
   refine D ?_
   refine cC (fun c1 => ?_) (fun c1 => ?_)
   · skip
     refine D ?_
     refine E ?_
     first
     | exact trivial
     | simp only [go_sem, cmdFault]; done
     | try simp only [go_sem, cmdFault]
       grind
   · skip
     refine D ?_
     refine cC (fun c2 => ?_) (fun c2 => ?_)
     · skip
       refine D ?_
       refine E ?_
       first
       | exact trivial
       | simp only [go_sem, cmdFault]; done
       | try simp only [go_sem, cmdFault]
         grind
     · skip
       refine D ?_
       refine E ?_
       first
       | exact trivial
       | simp only [go_sem, cmdFault]; done
       | try simp only [go_sem, cmdFault]
         grind
end
end Go.H
end
section
set_option maxRecDepth 100000
set_option maxHeartbeats 4000000
set_option cbv.maxSteps 4000000
set_option linter.unusedVariables false
set_option linter.unusedSimpArgs false
namespace Go.H
open Go Go.Proofs.Tryz
variable [Inv prog]
theorem s_spec_UpdateFault (u : Update) (hu : limU 2097152 u) : SemX prog 85 [aS (eUpdate false u)] [] [rI (updateFault u)] [] := by
 refine goF [(100, ⟨some 1, none, none, none⟩)] [] [] func85 ?_
 have hcl := hu.2
 have hcf := hu.1
 refine D ?_
 refine kR (s_spec_l5Version _) ?_
 refine D ?_
 refine kRg (s_spec_l5Version _) ?_
 refine D ?_
 refine cC (fun c0 => ?_) (fun c0 => ?_)
 · skip
   refine D ?_
   refine E ?_
   first
   | exact trivial
   | unfold updateFault
     grind
 · skip
   have hfr : (0 ≤ u.from_ ∧ u.from_ ≤ 1000000) ∧ (0 ≤ u.to_ ∧ u.to_ ≤ 1000000) := by
     have h_ := c0
     simp [inR] at h_
     omega
   refine D ?_
   refine cC (fun c1 => ?_) (fun c1 => ?_)
   · skip
     refine D ?_
     refine cC (fun c2 => ?_) (fun c2 => ?_)
     · skip
       refine D ?_
       refine E ?_
       first
       | exact trivial
       | unfold updateFault
         grind
     · skip
       refine D ?_
       refine kR (s_spec_l5Fault u.config hcf) ?_
       refine D ?_
       refine cC (fun c3 => ?_) (fun c3 => ?_)
       · skip
         refine D ?_
         refine E ?_
         first
         | exact trivial
         | unfold updateFault
           grind
       · skip
         refine D ?_
         refine cC (fun c4 => ?_) (fun c4 => ?_)
         · skip
           refine D ?_
           refine E ?_
           first
           | exact trivial
           | unfold updateFault
             grind
         · skip
           refine D ?_
           refine E ?_
           first
           | exact trivial
           | unfold updateFault
             grind
   · skip
     refine D ?_
     refine kR (s_spec_l13Empty u.config hcf) ?_
     refine D ?_
     refine cC (fun c5 => ?_) (fun c5 => ?_)
     · skip
       refine D ?_
       refine E ?_
       first
       | exact trivial
       | unfold updateFault
         grind
     · skip
       refine D ?_
       refine cC (fun c6 => ?_) (fun c6 => ?_)
       · skip
         refine D ?_
         refine E ?_
         first
         | exact trivial
         | unfold updateFault
           grind
       · skip
         refine D ?_
         refine cC (fun c7 => ?_) (fun c7 => ?_)
         · skip
           refine D ?_
           refine E ?_
           first
           | exact trivial
           | unfold updateFault
             grind
         · skip
           refine D ?_
           refine L (α := Nat) (fun i => [(4, .int .i64 i)]) (fun i => []) (fun i => u.cmds.length - i) (fun i => i ≤ u.cmds.length ∧ scan (cmdBad u.cmds) u.cmds.length 0 = scan (cmdBad u.cmds) u.cmds.length i) 0 [] (fun i hL => ?_) (hi := by exact ⟨Nat.zero_le _, rfl⟩)
           obtain ⟨hi2, hie⟩ := hL
           refine D ?_
           refine cC (fun c8 => ?_) (fun c8 => ?_)
           · skip
             have hst := scan_lt (f := cmdBad u.cmds) (show i < u.cmds.length by omega)
             have hd : cmdBad u.cmds i = cmdFault (u.cmds.getD i zCmd) := rfl
             refine D ?_
             refine kR (s_spec_CmdFault (u.cmds.getD i zCmd)) ?_
             refine D ?_
             refine cC (fun c9 => ?_) (fun c9 => ?_)
             · skip
               refine D ?_
               refine E ?_
               first
               | exact trivial
               | unfold updateFault
                 grind
             · skip
               refine D ?_
               refine N (i+1) [] (hi := ?_) (hm := ?_)
               · refine ⟨by omega, ?_⟩
                 rw [hie, scan_lt (by omega), if_pos]
                 unfold cmdBad
                 grind
               · omega
           · skip
             have hs0 : scan (cmdBad u.cmds) u.cmds.length 0 = 0 := by rw [hie, scan_ge (by omega)]
             refine D ?_
             refine E ?_
             first
             | exact trivial
             | unfold updateFault
               grind
end Go.H
end
section
set_option maxRecDepth 100000
set_option maxHeartbeats 4000000
set_option cbv.maxSteps 4000000
set_option linter.unusedVariables false
set_option linter.unusedSimpArgs false
namespace Go.H
open Go Go.Proofs.Tryz
variable [Inv prog]
theorem s_spec_l5Find (c : Config) (hx : limG 2097152 c) (x_ : Cmd) : SemX prog 290 [aT (.ptr (eConfig false c)), aS (eCmd x_)] [] [rI (findV c.vips x_.addr x_.number x_.proto)] [] := by
 refine goF [] [] [] func290 ?_
 obtain ⟨hb, hv, hV⟩ := id hx
 refine D ?_
 refine L (α := Nat) (fun x => [(5, .int .i64 x)]) (fun x => []) (fun x => c.vips.length - x) (fun x => x ≤ c.vips.length ∧ ∀ j, j < x → isV x_.addr x_.number x_.proto (c.vips.getD j zVip) = false) 0 [] (fun x hL => ?_) (hi := by exact ⟨Nat.zero_le _, fun j hj => by omega⟩)
 obtain ⟨hx2, hno⟩ := hL
 refine D ?_
 refine cC (fun c0 => ?_) (fun c0 => ?_)
 · skip
   refine D ?_
   refine cC (fun c1 => ?_) (fun c1 => ?_)
   · skip
     refine D ?_
     refine E ?_
     have he : findV c.vips x_.addr x_.number x_.proto = x := idxG_some zVip (by omega) hno (by simp [isV]; grind)
     rw [he]
   · skip
     refine D ?_
     refine N (x+1) [] (hi := ?_) (hm := ?_)
     · refine ⟨by omega, fun j hj => ?_⟩
       rcases Nat.lt_or_ge j x with h | h
       · exact hno j h
       · obtain rfl : j = x := by omega
         first | exact c1 | (simpa [isB, isV, eqI] using c1) | (simp [isB, isV, eqI]; grind)
     · omega
 · skip
   obtain rfl : x = c.vips.length := by omega
   refine D ?_
   refine E ?_
   have he : findV c.vips x_.addr x_.number x_.proto = -1 := idxG_none zVip hno
   rw [he]
end Go.H
end
section
set_option maxRecDepth 100000
set_option maxHeartbeats 4000000
set_option cbv.maxSteps 4000000
set_option linter.unusedVariables false
set_option linter.unusedSimpArgs false
namespace Go.H
open Go Go.Proofs.Tryz
variable [Inv prog]
theorem s_spec_l1Rise (xs : List Int) (v : Int) (hl : xs.length ≤ 2097152) : SemX prog 291 [.one (.t (.sl true 1 (xs.map eI_i64))), aI v] [] [.one (.sl true 1 ((riseL xs v).map eI_i64))] [] := by
 refine goF [(76, ⟨some 0, none, none, none⟩)] [(6, 0, [], [139264]), (6, 3, [0], []), (6, 4, [139264, 0], [155648, 139264]), (6, 6, [], [163840]), (6, 7, [155648, 163840], [167936, 155648, 163840]), (6, 10, [0], []), (6, 11, [167936, 0], [184320, 167936])] [] func291 ?_
 refine D ?_
 refine L (α := Nat) (fun i => [(5, .int .i64 i)]) (fun i => []) (fun i => xs.length - i) (fun i => i ≤ xs.length ∧ ∀ q, q < i → xs.getD q zI_i64 < v) 0 [] (fun i hL => ?_) (hi := by exact ⟨Nat.zero_le _, fun q h => by omega⟩)
 obtain ⟨hi, hlo⟩ := hL
 refine D ?_
 refine cC (fun c0 => ?_) (fun c0 => ?_)
 · skip
   refine D ?_
   refine N (i+1) [] (hi := ?_) (hm := ?_)
   · simp at c0
     refine ⟨by omega, fun q hq => ?_⟩
     by_cases e : q = i
     · subst e; exact c0.2
     · exact hlo q (by omega)
   · omega
 · skip
   have hb : lbn xs v = i := lbn_eq hi hlo (fun h => by simp [-List.getD_eq_getElem?_getD] at c0; have := c0 h; omega)
   refine D ?_
   refine cC (fun c1 => ?_) (fun c1 => ?_)
   · skip
     refine D ?_
     refine E ?_
     have he : hasI xs v = true := by simp [hasI, hb]; simpa using c1
     simp [riseL, he]
   · skip
     refine D ?_
     refine E ?_
     have he : hasI xs v = false := by simp [hasI, hb]; simpa using c1
     have hm : min i xs.length = i := by omega
     have e1 : List.take (i + 1) (List.take i (List.map eI_i64 xs) ++ [[T.int .i64 v]]) = List.take i (List.map eI_i64 xs) ++ [[T.int .i64 v]] := List.take_of_length_le (by simp; omega)
     simp [riseL, he, hb, hm, e1]
     exact ⟨List.take_of_length_le (by simp; omega), rfl⟩
end Go.H
end
section
set_option maxRecDepth 100000
set_option maxHeartbeats 4000000
set_option cbv.maxSteps 4000000
set_option linter.unusedVariables false
set_option linter.unusedSimpArgs false
namespace Go.H
open Go Go.Proofs.Tryz
variable [Inv prog]
section
attribute [local go_sem] List.set_set
theorem s_spec_l5TurnVip (c : Config) (hx : limG 2097152 c) (K : CfOk c) (x_ : Cmd) (hkd : x_.kind = 5 ∨ x_.kind = 6 ∨ x_.kind = 7 ∨ x_.kind = 8) : SemX prog 276 [.one (.ptr 0 0), aS (eCmd x_)] [.var (eConfig true c)] [rI (turnV c x_).1] [.var (eConfig true (turnV c x_).2)] := by
 refine goF [(120, ⟨some 8, none, none, none⟩), (140, ⟨some 8, none, none, none⟩), (138, ⟨some 11, some 1000003, none, some [1000004]⟩), (236, ⟨some 8, none, none, none⟩), (252, ⟨some 8, none, none, none⟩), (250, ⟨some 11, some 1000003, none, some [1000004]⟩), (248, ⟨some 1, none, none, none⟩), (308, ⟨some 2, some 630784, none, none⟩)] [(9, 4, [1000000], []), (9, 11, [1000000], []), (9, 13, [1000003], []), (9, 14, [1000003], []), (9, 15, [28672], []), (9, 16, [1000003], []), (11, 1, [], [217088]), (11, 5, [1000000], []), (11, 7, [1000003], []), (11, 8, [217088, 1000003], [245760, 217088, 1000003]), (11, 9, [28672], []), (11, 10, [], [253952]), (11, 11, [245760, 253952], [258048, 245760, 253952]), (11, 15, [1000000], []), (11, 17, [1000003], []), (11, 18, [258048, 1000003], [286720, 258048, 1000003]), (11, 21, [1000000], [1000000]), (13, 4, [16384], []), (13, 9, [16384], []), (13, 10, [1000000, 1000002, 1000003], []), (13, 16, [16384], []), (13, 22, [1000000], []), (13, 24, [1000003], []), (13, 26, [1000003], []), (13, 28, [16384], []), (13, 29, [1000003], []), (17, 1, [], [454656]), (17, 5, [1000000], []), (17, 7, [1000003], []), (17, 8, [454656, 1000003], [483328, 454656, 1000003]), (17, 12, [1000000], []), (17, 15, [1000003], []), (17, 16, [483328, 1000003], [516096, 483328, 1000003]), (17, 19, [1000000], [1000000]), (19, 3, [1000000], []), (19, 5, [1000003], []), (19, 7, [1000003], []), (19, 9, [16384], []), (19, 10, [1000003], []), (21, 3, [1000000], []), (21, 8, [1000000], []), (21, 10, [1000003], []), (21, 12, [1000003], [1000003, 630784]), (21, 14, [16384], []), (21, 15, [630784], [630784, 643072]), (21, 16, [1000003], []), (21, 18, [1000003, 643072], [1000003, 643072]), (27, 3, [1000000], []), (27, 5, [1000003], []), (27, 7, [1000003], []), (27, 9, [1000003], []), (27, 10, [1000003], []), (27, 12, [16384], [])] [] func276 ?_
 obtain ⟨hb, hv, hV⟩ := id hx
 have hfl : findV c.vips x_.addr x_.number x_.proto < c.vips.length := idxG_bd _ _
 refine D ?_
 refine kR (s_spec_l5Find c hx x_) ?_
 refine D ?_
 refine cC (fun c0 => ?_) (fun c0 => ?_)
 · skip
   refine D ?_
   refine cC (fun c1 => ?_) (fun c1 => ?_)
   · skip
     refine D ?_
     refine E ?_
     have he : turnV c x_ = (7, c) := by unfold turnV; grind
     simp [he]
   · skip
     refine D ?_
     refine cC (fun c2 => ?_) (fun c2 => ?_)
     · skip
       refine D ?_
       refine E ?_
       have he : turnV c x_ = (2, c) := by unfold turnV; grind
       simp [he]
     · skip
       refine D ?_
       refine L (α := Nat) (fun k => [(7, .int .i64 k)]) (fun k => []) (fun k => c.vips.length - k) (fun k => k ≤ c.vips.length ∧ ∀ q, q < k → ltV (vOf x_) (c.vips.getD q zVip) = true) 0 [] (fun k hL => ?_) (hi := by exact ⟨Nat.zero_le _, fun q h => by omega⟩)
       obtain ⟨hk, hlo⟩ := hL
       refine D ?_
       refine kDg (s_spec_l5Behind (c.vips.getD k zVip) ⟨x_.addr, x_.number, x_.proto, []⟩) ?_
       refine D ?_
       refine cC (fun c3 => ?_) (fun c3 => ?_)
       · skip
         refine D ?_
         refine N (k+1) [] (hi := ?_) (hm := ?_)
         · refine ⟨by omega, fun q hq => ?_⟩
           rcases Nat.lt_or_ge q k with h | h
           · exact hlo q h
           · obtain rfl : q = k := by omega
             unfold ltV vOf
             grind
         · omega
       · skip
         have hpk : preG (ltV (vOf x_)) c.vips = k := preG_eq zVip hk hlo (fun h => by unfold ltV vOf; grind)
         have hmk : min k c.vips.length = k := by omega
         have hA := hmk
         refine D ?_
         refine E ?_
         have he : turnV c x_ = (0, { c with vips := putG (ltV (vOf x_)) c.vips (vOf x_) }) := by unfold turnV; grind
         simp [he, putG, hpk]
         exact put_rowsW (eVip true) c.vips hk _
 · skip
   refine D ?_
   refine kDg (s_spec_l5At c hx x_.name) ?_
   refine D ?_
   refine kDg (s_spec_l1Has (c.vips.getD (findV c.vips x_.addr x_.number x_.proto).toNat zVip).names x_.name (limV_getD hV _)) ?_
   refine D ?_
   refine cC (fun c4 => ?_) (fun c4 => ?_)
   · skip
     have hh : ¬ findV c.vips x_.addr x_.number x_.proto < 0 → hasG (eqI x_.name) (c.vips.getD (findV c.vips x_.addr x_.number x_.proto).toNat zVip).names = hasI (c.vips.getD (findV c.vips x_.addr x_.number x_.proto).toNat zVip).names x_.name := fun h => hasI_eq (K.nr _ (by omega)) _
     have hva : vAt c x_ = (findV c.vips x_.addr x_.number x_.proto).toNat := rfl
     refine D ?_
     refine E ?_
     have he : turnV c x_ = (4, c) := by unfold turnV; grind
     simp [he]
   · skip
     have hfn : ¬ findV c.vips x_.addr x_.number x_.proto < 0 := by grind
     obtain ⟨n, hfv, hnl, hnq, hnb⟩ : ∃ n : Nat, findV c.vips x_.addr x_.number x_.proto = n ∧ n < c.vips.length ∧ isV x_.addr x_.number x_.proto (c.vips.getD n zVip) = true ∧ ∀ j, j < n → isV x_.addr x_.number x_.proto (c.vips.getD j zVip) = false := idxG_lt zVip hfn
     have hva : vAt c x_ = n := by unfold vAt; omega
     have hnm : (c.vips.getD n zVip).names.length ≤ 2097152 := limV_getD hV n
     have hrs := K.nr n hnl
     have hhi := hasI_eq hrs x_.name
     have h7 : x_.kind = 7 → ¬ findB c.backends x_.name < 0 := by grind
     have h8 : x_.kind = 8 → hasG (eqI x_.name) (c.vips.getD n zVip).names = true := by
       intro h
       have e : (findV c.vips x_.addr x_.number x_.proto).toNat = n := by omega
       simp [h, e] at c4
       grind
     have hmn : min n c.vips.length = n := by omega
     have hA := And.intro hfv (hmn)
     refine D ?_
     refine cC (fun c5 => ?_) (fun c5 => ?_)
     · skip
       refine D ?_
       refine E ?_
       have he : turnV c x_ = (0, { c with vips := cutG c.vips (vAt c x_) }) := by unfold turnV; grind
       rw [he, hva]
       simp only [cut_rowsV c.vips hnl]
       and_intros <;> first | trivial | rfl | decide
     · skip
       refine D ?_
       refine cC (fun c6 => ?_) (fun c6 => ?_)
       · skip
         refine D ?_
         refine kD (s_spec_l1Has (c.vips.getD n zVip).names x_.name hnm) ?_
         refine D ?_
         refine cC (fun c7 => ?_) (fun c7 => ?_)
         · skip
           refine D ?_
           refine E ?_
           have he : turnV c x_ = (7, c) := by unfold turnV; grind
           simp [he]
         · skip
           have hgs := fun r d => getD_set_self (l := c.vips.map (eVip true)) (i := n) (by simp; omega) r d
           have hA := And.intro hA (hgs)
           refine D ?_
           refine kDk [] [630784] [] (s_spec_l1Rise (c.vips.getD n zVip).names x_.name hnm) ?_
           refine D ?_
           refine E ?_
           have he : turnV c x_ = (0, setV c (vAt c x_) { c.vips.getD (vAt c x_) zVip with names := riseL (c.vips.getD (vAt c x_) zVip).names x_.name }) := by unfold turnV; grind
           simp [he, setV, hva, eVip, List.map_set, List.set_set]
       · skip
         refine D ?_
         refine cC (fun c8 => ?_) (fun c8 => ?_)
         · skip
           refine D ?_
           refine L (α := Nat) (fun i => [(8, .ref 663552 0 (((c.vips.getD n zVip).names.take i).filter (notI x_.name)).length), (9, .int .i64 i)]) (fun i => [(663552, .arr ⟨1, (((c.vips.getD n zVip).names.take i).filter (notI x_.name)).map eI_i64, 1, none⟩)]) (fun i => (c.vips.getD n zVip).names.length - i) (fun i => i ≤ (c.vips.getD n zVip).names.length) 0 [] (fun i hI => ?_)
           have hfl : (((c.vips.getD n zVip).names.take i).filter (notI x_.name)).length ≤ i := by
             have := List.length_filter_le (notI x_.name) ((c.vips.getD n zVip).names.take i)
             rw [List.length_take] at this
             omega
           refine D ?_
           refine cC (fun c9 => ?_) (fun c9 => ?_)
           · skip
             refine D ?_
             refine cC (fun c10 => ?_) (fun c10 => ?_)
             · skip
               have hft := filter_take (notI x_.name) zI_i64 (xs := (c.vips.getD n zVip).names) (i := i) (by omega)
               rw [if_pos (by simpa [notI] using c10)] at hft
               have hA := And.intro hA (hft)
               refine D ?_
               refine lp_next (i+1) [(663552,831488)] ?_ ?_ ?_
               · simp only [go_sem, hA] <;> and_intros <;> first | with_reducible exact rfl | (first | with_reducible exact rfl | omega | (rw [hft]; simp [eI_i64]; done) | (rw [hft]; done) | (simp [hft, eI_i64]; done))
               · omega
               · omega
             · skip
               have hft := filter_take (notI x_.name) zI_i64 (xs := (c.vips.getD n zVip).names) (i := i) (by omega)
               rw [if_neg (by simpa [notI] using c10), List.append_nil] at hft
               have hA := And.intro hA (hft)
               refine D ?_
               refine lp_next (i+1) [] ?_ ?_ ?_
               · simp only [go_sem, hA] <;> and_intros <;> first | with_reducible exact rfl | (first | with_reducible exact rfl | omega | (rw [hft]; simp [eI_i64]; done) | (rw [hft]; done) | (simp [hft, eI_i64]; done))
               · omega
               · omega
           · skip
             obtain rfl : i = (c.vips.getD n zVip).names.length := by omega
             refine D ?_
             refine E ?_
             have he : turnV c x_ = (0, setV c (vAt c x_) { c.vips.getD (vAt c x_) zVip with names := cutG (c.vips.getD (vAt c x_) zVip).names (lbn (c.vips.getD (vAt c x_) zVip).names x_.name) }) := by unfold turnV; grind
             have hwo := without_eq hrs (v := x_.name) (by rw [← hhi]; exact h8 c8)
             rw [hwo]
             simp [he, setV, hva, eVip, List.map_set, List.set_set]
         · skip
           refine D ?_
           refine E ?_
           exfalso; omega
end
end Go.H
end
section
set_option maxRecDepth 100000
set_option maxHeartbeats 4000000
set_option cbv.maxSteps 4000000
set_option linter.unusedVariables false
set_option linter.unusedSimpArgs false
namespace Go.H
open Go Go.Proofs.Tryz
variable [Inv prog]
theorem s_spec_l5Serves (c : Config) (hx : limG 2097152 c) (n : Int) : SemX prog 292 [aT (.ptr (eConfig false c)), aI n] [] [rB (serves c.vips n)] [] := by
 refine goF [] [] [] func292 ?_
 obtain ⟨hb, hv, hV⟩ := id hx
 refine D ?_
 refine L (α := Nat) (fun x => [(5, .int .i64 x)]) (fun x => []) (fun x => c.vips.length - x) (fun x => x ≤ c.vips.length ∧ ∀ j, j < x → (fun v => hasG (eqI n) v.names) (c.vips.getD j zVip) = false) 0 [] (fun x hL => ?_) (hi := by exact ⟨Nat.zero_le _, fun j hj => by omega⟩)
 obtain ⟨hx2, hno⟩ := hL
 refine D ?_
 refine cC (fun c0 => ?_) (fun c0 => ?_)
 · skip
   refine D ?_
   refine kR (s_spec_l1Has (c.vips.getD x zVip).names n (hV _ (getD_mem zVip (by omega)))) ?_
   refine D ?_
   refine cC (fun c1 => ?_) (fun c1 => ?_)
   · skip
     refine D ?_
     refine E ?_
     have he : serves c.vips n = true := hasG_true zVip (i := x) (by omega) (by simpa using c1)
     rw [he]
   · skip
     refine D ?_
     refine N (x+1) [] (hi := ?_) (hm := ?_)
     · refine ⟨by omega, fun j hj => ?_⟩
       rcases Nat.lt_or_ge j x with h | h
       · exact hno j h
       · obtain rfl : j = x := by omega
         first | exact c1 | (simpa [isB, isV, eqI] using c1) | (simp [isB, isV, eqI]; grind)
     · omega
 · skip
   obtain rfl : x = c.vips.length := by omega
   refine D ?_
   refine E ?_
   have he : serves c.vips n = false := hasG_false zVip hno
   rw [he]
end Go.H
end
section
set_option maxRecDepth 100000
set_option maxHeartbeats 4000000
set_option cbv.maxSteps 4000000
set_option linter.unusedVariables false
set_option linter.unusedSimpArgs false
namespace Go.H
open Go Go.Proofs.Tryz
variable [Inv prog]
theorem s_spec_l5Turn (c : Config) (hx : limG 2097152 c) (K : CfOk c) (x_ : Cmd) (hkd : x_.kind = 1 ∨ x_.kind = 2 ∨ x_.kind = 3 ∨ x_.kind = 4 ∨ x_.kind = 9) : SemX prog 277 [.one (.ptr 0 0), aS (eCmd x_)] [.var (eConfig true c)] [rI (turnB c x_).1] [.var (eConfig true (turnB c x_).2)] := by
 refine goF [(282, ⟨some 1, none, none, none⟩)] [(8, 4, [1000000], []), (8, 11, [1000000], []), (8, 13, [1000002], []), (8, 15, [1000002], []), (8, 17, [16384], []), (11, 1, [], [221184]), (11, 5, [1000000], []), (11, 7, [1000002], []), (11, 8, [221184, 1000002], [249856, 221184]), (11, 9, [32768], []), (11, 10, [], [258048]), (11, 11, [249856, 258048], [262144, 249856, 258048]), (11, 15, [1000000], []), (11, 17, [1000002], []), (11, 18, [262144, 1000002], [290816, 262144]), (11, 21, [1000000], [1000000]), (17, 3, [1000000], []), (17, 6, [16384], []), (17, 7, [1000002], []), (17, 9, [1000002], [1000002]), (19, 3, [1000000], []), (19, 6, [16384], []), (19, 7, [1000002], []), (19, 9, [1000002], [1000002]), (21, 3, [1000000], []), (21, 6, [16384], []), (21, 8, [1000002], []), (21, 10, [1000002], [1000002]), (27, 1, [], [524288]), (27, 5, [1000000], []), (27, 7, [1000002], []), (27, 8, [524288, 1000002], [552960, 524288]), (27, 12, [1000000], []), (27, 15, [1000002], []), (27, 16, [552960, 1000002], [585728, 552960]), (27, 19, [1000000], [1000000])] [] func277 ?_
 obtain ⟨hb, hv, hV⟩ := id hx
 refine D ?_
 refine kR (s_spec_l5At c hx x_.name) ?_
 refine D ?_
 refine cC (fun c0 => ?_) (fun c0 => ?_)
 · skip
   refine D ?_
   refine cC (fun c1 => ?_) (fun c1 => ?_)
   · skip
     refine D ?_
     refine E ?_
     have he : turnB c x_ = (7, c) := by unfold turnB; grind
     simp [he]
   · skip
     refine D ?_
     refine cC (fun c2 => ?_) (fun c2 => ?_)
     · skip
       refine D ?_
       refine E ?_
       have he : turnB c x_ = (2, c) := by unfold turnB; grind
       simp [he]
     · skip
       refine D ?_
       refine L (α := Nat) (fun k => [(6, .int .i64 k)]) (fun k => []) (fun k => c.backends.length - k) (fun k => k ≤ c.backends.length ∧ ∀ q, q < k → ltB x_.name (c.backends.getD q zBackend) = true) 0 [] (fun k hL => ?_) (hi := by exact ⟨Nat.zero_le _, fun q h => by omega⟩)
       obtain ⟨hk, hlo⟩ := hL
       refine D ?_
       refine cC (fun c3 => ?_) (fun c3 => ?_)
       · skip
         refine D ?_
         refine N (k+1) [] (hi := ?_) (hm := ?_)
         · refine ⟨by omega, fun q hq => ?_⟩
           rcases Nat.lt_or_ge q k with h | h
           · exact hlo q h
           · obtain rfl : q = k := by omega
             unfold ltB
             grind
         · omega
       · skip
         have hpk : preG (ltB x_.name) c.backends = k := preG_eq zBackend hk hlo (fun h => by unfold ltB; grind)
         refine D ?_
         refine E ?_
         have he : turnB c x_ = (0, { c with backends := putG (ltB x_.name) c.backends (bOf x_) }) := by unfold turnB; grind
         simp [he, putG, hpk, bOf, eBackend]
         exact ⟨put_rows eBackend c.backends hk _, rfl⟩
 · skip
   refine D ?_
   refine cC (fun c4 => ?_) (fun c4 => ?_)
   · skip
     refine D ?_
     refine E ?_
     have he : turnB c x_ = (4, c) := by unfold turnB; grind
     simp [he]
   · skip
     obtain ⟨n, hfb, hnl, hnq, hnb⟩ : ∃ n : Nat, findB c.backends x_.name = n ∧ n < c.backends.length ∧ isB x_.name (c.backends.getD n zBackend) = true ∧ ∀ j, j < n → isB x_.name (c.backends.getD j zBackend) = false := idxG_lt zBackend c4
     have hba : bAt c x_.name = n := by unfold bAt; omega
     have hA := hfb
     refine D ?_
     refine cC (fun c5 => ?_) (fun c5 => ?_)
     · skip
       refine D ?_
       refine E ?_
       have he : turnB c x_ = (0, setB c (bAt c x_.name) { c.backends.getD (bAt c x_.name) zBackend with weight := x_.number }) := by unfold turnB; grind
       
       simp [he, setB, hba, List.map_set, eBackend, List.set_set]
     · skip
       refine D ?_
       refine cC (fun c6 => ?_) (fun c6 => ?_)
       · skip
         refine D ?_
         refine E ?_
         have he : turnB c x_ = (0, setB c (bAt c x_.name) { c.backends.getD (bAt c x_.name) zBackend with stage := x_.number }) := by unfold turnB; grind
         
         simp [he, setB, hba, List.map_set, eBackend, List.set_set]
       · skip
         refine D ?_
         refine cC (fun c7 => ?_) (fun c7 => ?_)
         · skip
           refine D ?_
           refine E ?_
           have he : turnB c x_ = (0, setB c (bAt c x_.name) { c.backends.getD (bAt c x_.name) zBackend with up := decide (x_.number = 1) }) := by unfold turnB; grind
           
           simp [he, setB, hba, List.map_set, eBackend, List.set_set]
         · skip
           refine D ?_
           refine cC (fun c8 => ?_) (fun c8 => ?_)
           · skip
             refine D ?_
             refine cC (fun c9 => ?_) (fun c9 => ?_)
             · skip
               refine D ?_
               refine E ?_
               have he : turnB c x_ = (10, c) := by unfold turnB; grind
               simp [he]
             · skip
               refine D ?_
               refine kR (s_spec_l5Serves c hx x_.name) ?_
               refine D ?_
               refine cC (fun c10 => ?_) (fun c10 => ?_)
               · skip
                 refine D ?_
                 refine E ?_
                 have he : turnB c x_ = (8, c) := by unfold turnB; grind
                 simp [he]
               · skip
                 refine D ?_
                 refine E ?_
                 have he : turnB c x_ = (0, { c with backends := cutG c.backends (bAt c x_.name) }) := by unfold turnB; grind
                 
                 simp [he, cutG, hba]
                 exact ⟨cut_rows eBackend c.backends hnl, rfl⟩
           · skip
             refine D ?_
             refine E ?_
             exfalso; omega
end Go.H
end
section
set_option maxRecDepth 100000
set_option maxHeartbeats 4000000
set_option cbv.maxSteps 4000000
set_option linter.unusedVariables false
set_option linter.unusedSimpArgs false
namespace Go.H
open Go Go.Proofs.Tryz
variable [Inv prog]
theorem s_spec_l5Apply (c : Config) (hx1 : limG 2097151 c) (K : CfOk c) (x_ : Cmd) (hcf : cmdFault x_ = 0) : SemX prog 245 [aS (eConfig false c), aS (eCmd x_)] [] [.agg (eConfigResult true (applyR c x_))] [] := by
 refine goF [(76, ⟨some 1, none, none, none⟩)] [] [] func245 ?_
 have hx : limG 2097152 c := limG_mono (by omega) hx1
 obtain ⟨hb, hv, hV⟩ := id hx
 have hk9 : 1 ≤ x_.kind ∧ x_.kind ≤ 9 := by
   unfold cmdFault at hcf
   cases h : inR x_.kind 1 9 with
   | false => simp [h] at hcf
   | true => simpa [inR] using h
 have hk0 := K.v0
 have hk1 := K.v1
 refine D ?_
 refine cC (fun c0 => ?_) (fun c0 => ?_)
 · skip
   refine D ?_
   refine E ?_
   have he : applyR c x_ = badC 3 := by unfold applyR; grind
   simp [he, badC, zConfig]
 · skip
   refine D ?_
   refine cC (fun c1 => ?_) (fun c1 => ?_)
   · skip
     refine D ?_
     refine E ?_
     have he : applyR c x_ = badC 9 := by unfold applyR; grind
     simp [he, badC, zConfig]
   · skip
     refine D ?_
     refine kR (s_spec_l5Copy c hx) ?_
     refine D ?_
     refine kR (s_spec_l1In x_.kind 5 8) ?_
     refine D ?_
     refine cC (fun c2 => ?_) (fun c2 => ?_)
     · skip
       have hin : inR x_.kind 5 8 = true := by simpa using c2
       have hkd : x_.kind = 5 ∨ x_.kind = 6 ∨ x_.kind = 7 ∨ x_.kind = 8 := by simp [inR] at hin; omega
       have htu : turned c x_ = turnV c x_ := by unfold turned; rw [if_pos hin]
       refine D ?_
       refine kRk [24576] [] [98305, 98306] (s_spec_l5TurnVip c hx K x_ hkd) ?_
       refine D ?_
       refine cC (fun c3 => ?_) (fun c3 => ?_)
       · skip
         refine D ?_
         refine E ?_
         have he : applyR c x_ = badC (turnV c x_).1 := by unfold applyR; grind
         simp [he, badC, zConfig]
       · skip
         refine D ?_
         refine E ?_
         have he : applyR c x_ = ⟨0, { (turnV c x_).2 with version := c.version + 1 }⟩ := by unfold applyR; grind
         simp [he, badC, zConfig]
     · skip
       have hin : inR x_.kind 5 8 = false := by simpa using c2
       have hkd : x_.kind = 1 ∨ x_.kind = 2 ∨ x_.kind = 3 ∨ x_.kind = 4 ∨ x_.kind = 9 := by simp [inR] at hin; omega
       have htu : turned c x_ = turnB c x_ := by unfold turned; rw [if_neg (by rw [hin]; simp)]
       refine D ?_
       refine kRk [24576] [] [98305, 98306] (s_spec_l5Turn c hx K x_ hkd) ?_
       refine D ?_
       refine cC (fun c3 => ?_) (fun c3 => ?_)
       · skip
         refine D ?_
         refine E ?_
         have he : applyR c x_ = badC (turnB c x_).1 := by unfold applyR; grind
         simp [he, badC, zConfig]
       · skip
         refine D ?_
         refine E ?_
         have he : applyR c x_ = ⟨0, { (turnB c x_).2 with version := c.version + 1 }⟩ := by unfold applyR; grind
         simp [he, badC, zConfig]
end Go.H
end
section
set_option maxRecDepth 100000
set_option maxHeartbeats 4000000
set_option cbv.maxSteps 4000000
set_option linter.unusedVariables false
set_option linter.unusedSimpArgs false
namespace Go.H
open Go Go.Proofs.Tryz
variable [Inv prog]
theorem s_spec_l13Steps (c : Config) (h0 : configFault c = 0) (xs : List Cmd) (hl : xs.length ≤ 2097152) : SemX prog 235 [aS (eConfig false c), aT (.sl false 6 (xs.map eCmd))] [] [.agg (eConfigResult true (stepsR xs c))] [] := by
 refine goF [] [(8, 1, [24576], []), (8, 6, [40961, 40962], [135170, 135171]), (8, 7, [24576], [24576])] [] func235 ?_
 have hx1 : limG 2097151 c := limG_mono (by omega) (cf_l h0)
 have hx : limG 2097152 c := limG_mono (by omega) (cf_l h0)
 refine D ?_
 refine kR (s_spec_l5Copy c hx) ?_
 refine D ?_
 refine L (α := Nat × Config) (fun p => [(6, .int .i64 p.1)]) (fun p => [(24576, .var [.int .i64 0, .int .i64 p.2.version, .ref 40961 0 p.2.backends.length, .ref 40962 0 p.2.vips.length]), (40961, .arr ⟨5, p.2.backends.map eBackend, 1, none⟩), (40962, .arr ⟨4, p.2.vips.map (eVip true), 1, none⟩)]) (fun p => xs.length - p.1) (fun p => p.1 ≤ xs.length ∧ configFault p.2 = 0 ∧ stepsR xs c = stepsR (xs.drop p.1) p.2) (0, c) [] (fun x0 hL => ?_) (by simp only [go_sem] <;> and_intros <;> first | with_reducible exact rfl | (first | omega | exact rfl)) (by exact ⟨Nat.zero_le _, h0, rfl⟩)
 obtain ⟨i, d⟩ := x0
 obtain ⟨hi2, hd0, hst⟩ := hL
 try dsimp only at *
 have hd1 : limG 2097151 d := limG_mono (by omega) (cf_l hd0)
 have hdK := cf_ok hd0
 refine D ?_
 refine cC (fun c0 => ?_) (fun c0 => ?_)
 · skip
   refine D ?_
   refine kR (s_spec_CmdFault (xs.getD i zCmd)) ?_
   refine D ?_
   refine cC (fun c1 => ?_) (fun c1 => ?_)
   · skip
     refine D ?_
     refine E ?_
     have he : stepsR xs c = badC (cmdFault (xs.getD i zCmd)) := by rw [hst, stepsR_drop (by omega), if_pos (by omega)]
     simp [he, badC, zConfig]
   · skip
     have hc1 : cmdFault (xs.getD i zCmd) = 0 := by omega
     refine D ?_
     refine kD (s_spec_l5Apply d hd1 hdK (xs.getD i zCmd) hc1) ?_
     refine D ?_
     refine cC (fun c2 => ?_) (fun c2 => ?_)
     · skip
       refine D ?_
       refine E ?_
       have he : stepsR xs c = (applyR d (xs.getD i zCmd)) := by rw [hst, stepsR_drop (by omega), if_neg (by omega), if_pos (by omega), ← applyR_bad (by omega)]
       simp [he]
     · skip
       have hc2 : (applyR d (xs.getD i zCmd)).code = 0 := by omega
       have hA := hc2
       refine D ?_
       refine lp_next (i + 1, (applyR d (xs.getD i zCmd)).config) [(40961,135170),(40962,135171)] ?_ ?_ ?_
       · simp only [go_sem, hA] <;> and_intros <;> first | with_reducible exact rfl | (first | with_reducible exact rfl | omega | (simp; done))
       · dsimp only
         refine ⟨by omega, p_fault (applyR_p hdK hc1 (by omega)), ?_⟩
         rw [hst, stepsR_drop (by omega), if_neg (by omega), if_neg (by omega)]
       · try dsimp only
         omega
 · skip
   obtain rfl : i = xs.length := by omega
   refine D ?_
   refine E ?_
   have he : stepsR xs c = ⟨0, d⟩ := by rw [hst, stepsR_end]
   simp [he]
end Go.H
end
section
set_option maxRecDepth 100000
set_option maxHeartbeats 4000000
set_option cbv.maxSteps 4000000
set_option linter.unusedVariables false
set_option linter.unusedSimpArgs false
namespace Go.H
open Go Go.Proofs.Tryz
variable [Inv prog]
theorem s_spec_l13Take (w : Watch) (u : Update) (hwf : watchFault w = 0) (huf : updateFault u = 0) (hcl : u.cmds.length ≤ 2097152) : SemX prog 168 [aS (eWatch false w), aS (eUpdate false u)] [] [.agg (eWatchResult true (takeW w u))] [] := by
 refine goF [] [] [] func168 ?_
 refine D ?_
 refine cC (fun c0 => ?_) (fun c0 => ?_)
 · skip
   have hcc : limG 2097152 u.config := limG_mono (by omega) (cf_l (upd_cf huf c0))
   refine D ?_
   refine cC (fun c1 => ?_) (fun c1 => ?_)
   · skip
     refine D ?_
     refine E ?_
     have he : takeW w u = badW 9 := by unfold takeW; grind
     simp [he, badW, zWatch, zConfig]
   · skip
     refine D ?_
     refine kR (s_spec_l5Copy u.config hcc) ?_
     refine D ?_
     refine E ?_
     have he : takeW w u = ⟨0, ⟨true, u.config⟩⟩ := by unfold takeW; grind
     simp [he, badW, zWatch, zConfig]
 · skip
   refine D ?_
   refine cC (fun c2 => ?_) (fun c2 => ?_)
   · skip
     refine D ?_
     refine E ?_
     have he : takeW w u = badW 10 := by unfold takeW; grind
     simp [he, badW, zWatch, zConfig]
   · skip
     refine D ?_
     refine cC (fun c3 => ?_) (fun c3 => ?_)
     · skip
       refine D ?_
       refine E ?_
       have he : takeW w u = badW 9 := by unfold takeW; grind
       simp [he, badW, zWatch, zConfig]
     · skip
       refine D ?_
       refine cC (fun c4 => ?_) (fun c4 => ?_)
       · skip
         refine D ?_
         refine E ?_
         have he : takeW w u = badW 4 := by unfold takeW; grind
         simp [he, badW, zWatch, zConfig]
       · skip
         refine D ?_
         refine kR (s_spec_l13Steps w.config (watch_cf hwf) u.cmds hcl) ?_
         refine D ?_
         refine cC (fun c5 => ?_) (fun c5 => ?_)
         · skip
           refine D ?_
           refine E ?_
           have he : takeW w u = badW (stepsR u.cmds w.config).code := by unfold takeW; grind
           simp [he, badW, zWatch, zConfig]
         · skip
           refine D ?_
           refine E ?_
           have he : takeW w u = ⟨0, ⟨true, (stepsR u.cmds w.config).config⟩⟩ := by unfold takeW; grind
           simp [he, badW, zWatch, zConfig]
end Go.H
end
section
set_option maxRecDepth 100000
set_option maxHeartbeats 4000000
set_option cbv.maxSteps 4000000
set_option linter.unusedVariables false
set_option linter.unusedSimpArgs false
namespace Go.H
open Go Go.Proofs.Tryz
variable [Inv prog]
section
attribute [local go_sem] badX zMux zWatch zConfig
theorem s_spec_l14Install (m : Mux) (hm : limX 2097152 m) (u : Update) (hu : limU 2097152 u) (hwf : watchFault m.watch = 0) (huf : updateFault u = 0) : SemX prog 86 [aS (eMux false m), aS (eUpdate false u)] [] [.agg (eMuxResult true (installW m u))] [] := by
 refine goF [(56, ⟨some 4, some 114688, some (42, true), none⟩)] [(4, 1, [12288], []), (4, 3, [12288], []), (4, 5, [24576], []), (4, 8, [24576, 49155, 49156], [110592]), (4, 9, [], [114695]), (4, 10, [], [28672]), (4, 11, [28672], [28672]), (8, 3, [12288], []), (8, 9, [12288], []), (8, 14, [24576, 49155, 49156], []), (9, 1, [28672], []), (9, 3, [12288], []), (9, 7, [], [237568]), (9, 8, [114695, 237568], [241664, 114695, 237568]), (9, 10, [28672], [28672])] [] func86 ?_
 obtain ⟨hg, ht, htr, hc⟩ := id hm
 have hue := takeU_eq hwf huf
 refine D ?_
 refine kR (s_spec_l13Take m.watch u hwf huf hu.2) ?_
 refine D ?_
 refine cC (fun c0 => ?_) (fun c0 => ?_)
 · skip
   refine D ?_
   refine kR (s_spec_l14Bad _) ?_
   refine D ?_
   refine E ?_
   have he : installW m u = badX (takeW m.watch u).code := by unfold installW; rw [hue, if_pos (by omega)]
   simp [he, badX, zMux, zWatch, zConfig]
 · skip
   have hc0 : (takeW m.watch u).code = 0 := by omega
   have hwc : watchFault (takeW m.watch u).watch = 0 := takeW_cf hwf huf hc0
   have P2 := watch_p hwc
   have hgl : limG 2097152 (takeW m.watch u).watch.config := limG_mono (by omega) (cf_lim P2)
   have hti := tablesOf_len (takeW m.watch u).watch.config
   have v4 := P2.v4
   refine D ?_
   refine kD (s_spec_l14Tables (takeW m.watch u).watch.config hgl P2) ?_
   refine D ?_
   refine L (α := Nat) (fun i => [(7, .int .i64 i)]) (fun i => [(28672, .var [.int .i64 m.address, .int .i64 m.now, .bool (takeW m.watch u).watch.ready, .int .i64 (takeW m.watch u).watch.config.version, .ref 49155 0 (takeW m.watch u).watch.config.backends.length, .ref 49156 0 (takeW m.watch u).watch.config.vips.length, .ref 110592 0 (tablesOf (takeW m.watch u).watch.config).length, .ref 114695 0 ((m.cache.take i).filter (svH (takeW m.watch u).watch.config)).length]), (114695, .arr ⟨7, ((m.cache.take i).filter (svH (takeW m.watch u).watch.config)).map eHeld, 1, none⟩)]) (fun i => m.cache.length - i) (fun i => i ≤ m.cache.length) 0 [] (fun i hI => ?_)
   have hfl : ((m.cache.take i).filter (svH (takeW m.watch u).watch.config)).length ≤ i := by
     have := List.length_filter_le (svH (takeW m.watch u).watch.config) (m.cache.take i)
     rw [List.length_take] at this
     omega
   refine D ?_
   refine cC (fun c1 => ?_) (fun c1 => ?_)
   · skip
     refine D ?_
     refine kD (s_spec_l14Serves (takeW m.watch u).watch.config hgl P2 (m.cache.getD i zHeld).flow (m.cache.getD i zHeld).name) ?_
     refine D ?_
     refine cC (fun c2 => ?_) (fun c2 => ?_)
     · skip
       have hfr : svH (takeW m.watch u).watch.config (m.cache.getD i zHeld) = true := by unfold svH; simpa using c2
       have hft := filter_take (svH (takeW m.watch u).watch.config) zHeld (xs := m.cache) (i := i) (by omega)
       rw [if_pos hfr] at hft
       refine D ?_
       refine lp_next (i+1) [(114695,241664)] ?_ ?_ ?_
       · simp only [go_sem] <;> and_intros <;> first | with_reducible exact rfl | (first | with_reducible exact rfl | omega | (rw [hft]; simp [eHeld]; done) | (rw [hft]; done))
       · omega
       · omega
     · skip
       have hfr : ¬ svH (takeW m.watch u).watch.config (m.cache.getD i zHeld) = true := by unfold svH; simpa using c2
       have hft := filter_take (svH (takeW m.watch u).watch.config) zHeld (xs := m.cache) (i := i) (by omega)
       rw [if_neg hfr, List.append_nil] at hft
       refine D ?_
       refine lp_next (i+1) [] ?_ ?_ ?_
       · simp only [go_sem] <;> and_intros <;> first | with_reducible exact rfl | (first | with_reducible exact rfl | omega | (rw [hft]; simp [eHeld]; done) | (rw [hft]; done))
       · omega
       · omega
   · skip
     obtain rfl : i = m.cache.length := by omega
     refine D ?_
     refine E ?_
     have he : installW m u = ⟨0, 0, 0, [], ⟨m.address, m.now, (takeW m.watch u).watch, tablesOf (takeW m.watch u).watch.config, m.cache.filter (svH (takeW m.watch u).watch.config)⟩⟩ := by unfold installW; rw [hue, if_neg (by omega)]
     simp [he, List.take_of_length_le]
end
end Go.H
end
section
set_option maxRecDepth 100000
set_option maxHeartbeats 4000000
set_option cbv.maxSteps 4000000
set_option linter.unusedVariables false
set_option linter.unusedSimpArgs false
namespace Go.H
open Go Go.Proofs.Tryz
variable [Inv prog]
section
attribute [local go_sem] badX zMux zWatch zConfig
theorem s_spec_InstallMux (m : Mux) (hm : limX 2097152 m) (u : Update) (hu : limU 2097152 u) : SemX prog 32 [aS (eMux false m), aS (eUpdate false u)] [] [.agg (eMuxResult true (installM m u))] [] := by
 refine goF [] [] [] func32 ?_
 obtain ⟨hg, ht, htr, hc⟩ := id hm
 refine D ?_
 refine kR (s_spec_l14Fault m hm) ?_
 refine D ?_
 refine cC (fun c0 => ?_) (fun c0 => ?_)
 · skip
   refine D ?_
   refine kR (s_spec_l14Bad _) ?_
   refine D ?_
   refine E ?_
   have he : installM m u = badX (muxFault m) := if_pos (by omega)
   simp [he, badX, zMux, zWatch, zConfig]
 · skip
   have hmf : muxFault m = 0 := by omega
   have hw0 := (mux_ok hmf).2.1
   have he0 : installM m u = installW m u := if_neg (by omega)
   refine D ?_
   refine kR (s_spec_UpdateFault u hu) ?_
   refine D ?_
   refine cC (fun c1 => ?_) (fun c1 => ?_)
   · skip
     refine D ?_
     refine kR (s_spec_l14Bad _) ?_
     refine D ?_
     refine E ?_
     have hte : takeU m.watch u = badW (updateFault u) := by
       unfold takeU
       rw [if_neg (by omega), if_pos (by omega)]
     have he : installM m u = badX (updateFault u) := by
       rw [he0]
       unfold installW
       rw [hte]
       exact if_pos (by simp only [badW]; omega)
     simp [he, badX, zMux, zWatch, zConfig]
   · skip
     have huf : updateFault u = 0 := by omega
     refine D ?_
     refine kR (s_spec_l14Install m hm u hu hw0 huf) ?_
     refine D ?_
     refine E ?_
     simp [he0]
end
end Go.H
end
section
set_option maxRecDepth 100000
set_option maxHeartbeats 4000000
set_option cbv.maxSteps 4000000
set_option linter.unusedVariables false
set_option linter.unusedSimpArgs false
namespace Go.H
open Go Go.Proofs.Tryz
variable [Inv prog]
theorem s_laws_toCmd (x : Cmd) : SemX prog 98 [aS (eCmd x)] [] [.agg (eCmd x)] [] := by
 refine goF [] [] [] func98 ?_
 refine D ?_
 exact E trivial
end Go.H
end
section
set_option maxRecDepth 100000
set_option maxHeartbeats 4000000
set_option cbv.maxSteps 4000000
set_option linter.unusedVariables false
set_option linter.unusedSimpArgs false
namespace Go.H
open Go Go.Proofs.Tryz
variable [Inv prog]
theorem s_laws_toCmdS (xs : List Cmd) (hl : xs.length ≤ 2097152)  : SemX prog 88 [aT (.sl false 6 (xs.map eCmd))] [] [.one (.sl true 6 (xs.map eCmd))] [] := by
 refine goF [] [] [] func88 ?_
 refine D ?_
 refine L (α := Nat) (fun x => [(4, .int .i64 x)]) (fun x => [(32768, .arr ⟨6, (xs.take x).map eCmd ++ List.replicate (xs.length - x) dCmd, x + 1, none⟩)]) (fun x => xs.length - x) (fun x => x ≤ xs.length) 0 [] (fun x hI => ?_) (by simp only [go_sem] <;> and_intros <;> first | with_reducible exact rfl | (first | omega | (simp [dCmd, eCmd, zCmd, zCmd, zEntry]; done)))
 refine D ?_
 refine cC (fun c0 => ?_) (fun c0 => ?_)
 · skip
   have hg := getD_bld (l := (xs.take x).map eCmd) (n := xs.length - x) (d := dCmd) (i := x) (by simp; omega)
   have hA := hg
   refine D ?_
   refine kR (s_laws_toCmd (xs.getD x zCmd)) ?_
   refine D ?_
   refine lp_next (x+1) [] ?_ ?_ ?_
   · simp only [go_sem, hA] <;> and_intros <;> first | with_reducible exact rfl | (first | omega | (rw [← bld_step eCmd zCmd dCmd (by omega)]; simp only [eCmd]))
   · omega
   · omega
 · skip
   obtain rfl : x = xs.length := by omega
   refine D ?_
   exact E trivial
end Go.H
end
section
set_option maxRecDepth 100000
set_option maxHeartbeats 4000000
set_option cbv.maxSteps 4000000
set_option linter.unusedVariables false
set_option linter.unusedSimpArgs false
namespace Go.H
open Go Go.Proofs.Tryz
variable [Inv prog]
theorem s_laws_toUpdate (x : Update) (hx : limU 2097152 x) : SemX prog 33 [aS (eUpdate false x)] [] [.agg (eUpdate true x)] [] := by
 refine goF [] [] [] func33 ?_
 refine D ?_
 refine kR (s_laws_toConfig x.config hx.1) ?_
 refine D ?_
 refine kR (s_laws_toCmdS x.cmds hx.2) ?_
 refine D ?_
 exact E trivial
end Go.H
end
section
set_option maxRecDepth 100000
set_option maxHeartbeats 4000000
set_option cbv.maxSteps 4000000
set_option linter.unusedVariables false
set_option linter.unusedSimpArgs false
namespace Go.H
open Go Go.Proofs.Tryz
variable [Inv prog]
theorem s_slices_DeleteFunc_Held (R : List Held) (hl : R.length ≤ 2097152) (fn : Nat) (row : List T) (hrw : T.shrL row = row) (q : Held → Bool) (hq : callB prog fn = true) (hf : ∀ b : Held, b ∈ R → SemX prog fn [aS (eHeld b), aT (.ptr row)] [] [rB (q b)] []) : SemX prog 132 [.one (.t (.sl true 7 (R.map eHeld))), .one (.fn fn [.t (.ptr row)])] [] [.one (.sl true 7 ((keepG q R).map eHeld))] [] := by
 refine goF [] [] [] func132 ?_
 have hA := hrw
 refine D ?_
 refine kR (s_slices_IndexFunc_Held R hl fn row hrw q hq hf) ?_
 refine D ?_
 refine cC (fun c0 => ?_) (fun c0 => ?_)
 · skip
   refine D ?_
   refine E ?_
   have hall : ∀ j, j < R.length → q (R.getD j zHeld) = false := by
     rcases idxG_cases zHeld q R with ⟨_, h⟩ | ⟨i, hi, _⟩
     · exact h
     · omega
   rw [keepG_all zHeld hall]
 · skip
   rcases idxG_cases zHeld q R with ⟨h1, _⟩ | ⟨i, hi, hil, hiq, hino⟩
   · exact absurd h1 c0
   have hk0 : keepG q (R.take (i + 1)) = R.take i := by rw [keepG_no zHeld hil hiq, keepG_take zHeld (by omega) hino]
   have hk1 : (keepG q (R.take (i + 1))).length = i := by rw [hk0]; simp; omega
   have hmi : min i R.length = i := by omega
   have hA := And.intro hA (hi)
   refine D ?_
   refine L (α := Nat) (fun x => [(5, .int .i64 (keepG q (R.take x)).length), (6, .int .i64 x)]) (fun x => [(0, .arr ⟨7, ((keepG q (R.take x)) ++ R.drop (keepG q (R.take x)).length).map eHeld, 1 + ((keepG q (R.take x)).length - i), none⟩)]) (fun x => R.length - x) (fun x => x ≤ R.length ∧ i ≤ (keepG q (R.take x)).length ∧ (keepG q (R.take x)).length < x) (i + 1) [] (fun x hL => ?_) (by (simp only [go_sem, hA, hk1, hk0, hmi, List.take_append_drop] <;> and_intros <;> first | with_reducible exact rfl | omega | (simp; done))) (by exact ⟨by omega, by omega, by omega⟩)
   obtain ⟨hx, hk, hix⟩ := hL
   refine D ?_
   refine cC (fun c1 => ?_) (fun c1 => ?_)
   · skip
     have hgd := keepG_getD zHeld (q := q) (xs := R) (i := x) (by omega)
     have hkl := keepG_le q R x
     have hA := And.intro hA (hgd)
     refine D ?_
     refine kR (hf (R.getD x zHeld) (getD_mem zHeld (by omega))) ?_ hq
     refine D ?_
     refine cC (fun c2 => ?_) (fun c2 => ?_)
     · skip
       have hy := keepG_yes zHeld (q := q) (xs := R) (i := x) (by omega) c2
       refine D ?_
       refine lp_next (x+1) [] ?_ ?_ ?_
       · simp only [go_sem, hA] <;> and_intros <;> first | with_reducible exact rfl | (first | with_reducible exact rfl | omega | (refine arr_eq ?_ ?_; (rw [hy]; exact keepG_set zHeld eHeld (by omega)); (rw [hy]; simp; omega)) | (rw [hy]; simp; done) | (rw [hn]; done) | (refine int_eq ?_; rw [hy]; simp; done))
       · exact ⟨by omega, by first | omega | (rw [hy]; simp; omega) | (rw [hn]; omega), by first | omega | (rw [hy]; simp; omega) | (rw [hn]; omega)⟩
       · omega
     · skip
       have hn := keepG_no zHeld (q := q) (xs := R) (i := x) (by omega) c2
       have hA := And.intro hA (hn)
       refine D ?_
       refine lp_next (x+1) [] ?_ ?_ ?_
       · simp only [go_sem, hA] <;> and_intros <;> first | with_reducible exact rfl | (first | with_reducible exact rfl | omega | (refine arr_eq ?_ ?_; (rw [hy]; exact keepG_set zHeld eHeld (by omega)); (rw [hy]; simp; omega)) | (rw [hy]; simp; done) | (rw [hn]; done) | (refine int_eq ?_; rw [hy]; simp; done))
       · exact ⟨by omega, by first | omega | (rw [hy]; simp; omega) | (rw [hn]; omega), by first | omega | (rw [hy]; simp; omega) | (rw [hn]; omega)⟩
       · omega
   · skip
     obtain rfl : x = R.length := by omega
     rw [List.take_length] at hk hix ⊢
     have hmk : min (keepG q R).length ((keepG q R).length + (R.length - (keepG q R).length)) = (keepG q R).length := by omega
     have hle : (keepG q R).length ≤ (keepG q R).length + (R.length - (keepG q R).length) := by omega
     have hne : (R.length - (keepG q R).length = 0) = False := by simp; omega
     have hA := And.intro hA (And.intro hmk (And.intro hne (hle)))
     refine D ?_
     refine E ?_
     have e1 : List.take (keepG q R).length (keepG q R ++ List.drop (keepG q R).length R) = keepG q R := List.take_left
     rw [e1]
     refine congrArg (fun r => [TV.one (T.sl true 7 r)]) ?_
     rw [List.append_assoc]
     exact List.take_left' (by simp)
end Go.H
end
section
set_option maxRecDepth 100000
set_option maxHeartbeats 4000000
set_option cbv.maxSteps 4000000
set_option linter.unusedVariables false
set_option linter.unusedSimpArgs false
namespace Go.H
open Go Go.Proofs.Tryz
variable [Inv prog]
theorem s_impl_needs (k : Int) : SemX prog 247 [aI k] [] [rB (nd1 k), rB (nd2 k), rB (nd3 k), rB (nd4 k)] [] := by
 refine goF [] [] [] func247 ?_
 refine D ?_
 refine kR (s_impl_in k 5 8) ?_
 refine D ?_
 refine kR (s_impl_in k 5 6) ?_
 refine D ?_
 refine E ?_
 first
 | exact trivial
 | simp only [go_sem, nd1, nd2, nd3, nd4, rB]; done
 | try simp only [go_sem, nd1, nd2, nd3, nd4, rB]
   simp
end Go.H
end
section
set_option maxRecDepth 100000
set_option maxHeartbeats 4000000
set_option cbv.maxSteps 4000000
set_option linter.unusedVariables false
set_option linter.unusedSimpArgs false
namespace Go.H
open Go Go.Proofs.Tryz
variable [Inv prog]
theorem s_impl_isNumber (x : Cmd) : SemX prog 249 [aS (eCmd x)] [] [rB (isNum x)] [] := by
 refine goF [] [] [] func249 ?_
 refine D ?_
 refine cC (fun c0 => ?_) (fun c0 => ?_)
 · skip
   refine D ?_
   refine cC (fun c1 => ?_) (fun c1 => ?_)
   · skip
     refine D ?_
     refine kR (s_impl_in _ _ _) ?_
     refine D ?_
     refine E ?_
     first
     | exact trivial
     | simp only [go_sem, isNum]; done
     | try simp only [go_sem, isNum]
       first | (exfalso; omega) | (simp [*]; done)
   · skip
     refine D ?_
     refine cC (fun c2 => ?_) (fun c2 => ?_)
     · skip
       refine D ?_
       refine kR (s_impl_in _ _ _) ?_
       refine D ?_
       refine E ?_
       first
       | exact trivial
       | simp only [go_sem, isNum]; done
       | try simp only [go_sem, isNum]
         first | (exfalso; omega) | (simp [*]; done)
     · skip
       refine D ?_
       refine cC (fun c3 => ?_) (fun c3 => ?_)
       · skip
         refine D ?_
         refine kR (s_impl_in _ _ _) ?_
         refine D ?_
         refine E ?_
         first
         | exact trivial
         | simp only [go_sem, isNum]; done
         | try simp only [go_sem, isNum]
           first | (exfalso; omega) | (simp [*]; done)
       · skip
         refine D ?_
         refine kR (s_impl_isPort _) ?_
         refine D ?_
         refine E ?_
         first
         | exact trivial
         | simp only [go_sem, isNum]; done
         | try simp only [go_sem, isNum]
           first | (exfalso; omega) | (simp [*]; done)
 · skip
   refine D ?_
   refine cC (fun c1 => ?_) (fun c1 => ?_)
   · skip
     refine D ?_
     refine kR (s_impl_in _ _ _) ?_
     refine D ?_
     refine E ?_
     first
     | exact trivial
     | simp only [go_sem, isNum]; done
     | try simp only [go_sem, isNum]
       first | (exfalso; omega) | (simp [*]; done)
   · skip
     refine D ?_
     refine cC (fun c2 => ?_) (fun c2 => ?_)
     · skip
       refine D ?_
       refine kR (s_impl_in _ _ _) ?_
       refine D ?_
       refine E ?_
       first
       | exact trivial
       | simp only [go_sem, isNum]; done
       | try simp only [go_sem, isNum]
         first | (exfalso; omega) | (simp [*]; done)
     · skip
       refine D ?_
       refine cC (fun c3 => ?_) (fun c3 => ?_)
       · skip
         refine D ?_
         refine kR (s_impl_in _ _ _) ?_
         refine D ?_
         refine E ?_
         first
         | exact trivial
         | simp only [go_sem, isNum]; done
         | try simp only [go_sem, isNum]
           first | (exfalso; omega) | (simp [*]; done)
       · skip
         refine D ?_
         refine kR (s_impl_isPort _) ?_
         refine D ?_
         refine E ?_
         first
         | exact trivial
         | simp only [go_sem, isNum]; done
         | try simp only [go_sem, isNum]
           first | (exfalso; omega) | (simp [*]; done)
end Go.H
end
section
set_option maxRecDepth 100000
set_option maxHeartbeats 4000000
set_option cbv.maxSteps 4000000
set_option linter.unusedVariables false
set_option linter.unusedSimpArgs false
namespace Go.H
open Go Go.Proofs.Tryz
variable [Inv prog]
section
attribute [local go_sem] exp_eq
theorem s_impl_CmdFault (x : Cmd) : SemX prog 181 [aS (eCmd x)] [] [rI (cmdFault x)] [] := by
 refine goF [] [] [] func181 ?_
 refine D ?_
 refine kR (s_impl_in _ _ _) ?_
 refine D ?_
 refine cC (fun c0 => ?_) (fun c0 => ?_)
 · skip
   refine D ?_
   refine E ?_
   first
   | exact trivial
   | simp only [go_sem, cmdFault]; done
   | try simp only [go_sem, cmdFault]
     grind
 · skip
   refine D ?_
   refine kR (s_impl_needs _) ?_
   refine D ?_
   refine kR (s_impl_in _ _ _) ?_
   refine D ?_
   refine kRg (s_impl_isName _) ?_
   refine D ?_
   refine kRg (s_impl_isAddress _) ?_
   refine D ?_
   refine kRg (s_impl_isNumber _) ?_
   refine D ?_
   refine kRg (s_impl_isProto _) ?_
   refine D ?_
   refine cC (fun c1 => ?_) (fun c1 => ?_)
   · skip
     refine D ?_
     refine E ?_
     first
     | exact trivial
     | simp only [go_sem, cmdFault]; done
     | try simp only [go_sem, cmdFault]
       grind
   · skip
     refine D ?_
     refine cC (fun c2 => ?_) (fun c2 => ?_)
     · skip
       refine D ?_
       refine E ?_
       first
       | exact trivial
       | simp only [go_sem, cmdFault]; done
       | try simp only [go_sem, cmdFault]
         grind
     · skip
       refine D ?_
       refine E ?_
       first
       | exact trivial
       | simp only [go_sem, cmdFault]; done
       | try simp only [go_sem, cmdFault]
         grind
end
end Go.H
end
section
set_option maxRecDepth 100000
set_option maxHeartbeats 4000000
set_option cbv.maxSteps 4000000
set_option linter.unusedVariables false
set_option linter.unusedSimpArgs false
namespace Go.H
open Go Go.Proofs.Tryz
variable [Inv prog]
theorem s_impl_cmdsFault (xs : List Cmd) (hl : xs.length ≤ 2097152) : SemX prog 190 [aT (.sl false 6 (xs.map eCmd))] [] [rI (scan (cmdBad xs) xs.length 0)] [] := by
 refine goF [] [] [] func190 ?_
 refine D ?_
 refine L (α := Nat) (fun i => [(8, .int .i64 i)]) (fun i => []) (fun i => xs.length - i) (fun i => i ≤ xs.length ∧ scan (cmdBad xs) xs.length 0 = scan (cmdBad xs) xs.length i) 0 [] (fun i hL => ?_) (hi := by exact ⟨Nat.zero_le _, rfl⟩)
 obtain ⟨hi2, hie⟩ := hL
 refine D ?_
 refine cC (fun c0 => ?_) (fun c0 => ?_)
 · skip
   have hst := scan_lt (f := cmdBad xs) (show i < xs.length by omega)
   have hd : cmdBad xs i = cmdFault (xs.getD i zCmd) := rfl
   refine D ?_
   refine kR (s_impl_CmdFault (xs.getD i zCmd)) ?_
   refine D ?_
   refine cC (fun c1 => ?_) (fun c1 => ?_)
   · skip
     refine D ?_
     refine E ?_
     first
     | exact trivial
     | grind
   · skip
     refine D ?_
     refine N (i+1) [] (hi := ?_) (hm := ?_)
     · refine ⟨by omega, ?_⟩
       rw [hie, scan_lt (by omega), if_pos]
       unfold cmdBad
       grind
     · omega
 · skip
   have hs0 : scan (cmdBad xs) xs.length 0 = 0 := by rw [hie, scan_ge (by omega)]
   refine D ?_
   refine E ?_
   first
   | exact trivial
   | grind
end Go.H
end
section
set_option maxRecDepth 100000
set_option maxHeartbeats 4000000
set_option cbv.maxSteps 4000000
set_option linter.unusedVariables false
set_option linter.unusedSimpArgs false
namespace Go.H
open Go Go.Proofs.Tryz
variable [Inv prog]
theorem s_impl_size_Cmd (rows : List (List T)) : SemX prog 274 [aT (.sl false 6 rows)] [] [rI rows.length] [] := by
 refine goF [] [] [] func274 ?_
 refine D ?_
 refine E ?_
 first
 | exact trivial
 | exact rfl
end Go.H
end
section
set_option maxRecDepth 100000
set_option maxHeartbeats 4000000
set_option cbv.maxSteps 4000000
set_option linter.unusedVariables false
set_option linter.unusedSimpArgs false
namespace Go.H
open Go Go.Proofs.Tryz
variable [Inv prog]
theorem s_impl_UpdateFault (u : Update) (hu : limU 2097152 u) : SemX prog 239 [aS (eUpdate false u)] [] [rI (updateFault u)] [] := by
 refine goF [(104, ⟨some 1, none, none, none⟩)] [(16, 1, [8192], []), (16, 3, [8192], []), (16, 6, [8192], [])] [] func239 ?_
 have hcl := hu.2
 have hcf := hu.1
 refine D ?_
 refine kR (s_impl_in _ _ _) ?_
 refine D ?_
 refine kRg (s_impl_in _ _ _) ?_
 refine D ?_
 refine cC (fun c0 => ?_) (fun c0 => ?_)
 · skip
   refine D ?_
   refine E ?_
   first
   | exact trivial
   | unfold updateFault
     grind
 · skip
   have hfr : (0 ≤ u.from_ ∧ u.from_ ≤ 1000000) ∧ (0 ≤ u.to_ ∧ u.to_ ≤ 1000000) := by
     have h_ := c0
     simp [inR] at h_
     omega
   refine D ?_
   refine cC (fun c1 => ?_) (fun c1 => ?_)
   · skip
     refine D ?_
     refine cC (fun c2 => ?_) (fun c2 => ?_)
     · skip
       refine D ?_
       refine E ?_
       first
       | exact trivial
       | unfold updateFault
         grind
     · skip
       refine D ?_
       refine kR (s_impl_ConfigFault u.config hcf) ?_
       refine D ?_
       refine cC (fun c3 => ?_) (fun c3 => ?_)
       · skip
         refine D ?_
         refine E ?_
         first
         | exact trivial
         | unfold updateFault
           grind
       · skip
         refine D ?_
         refine cC (fun c4 => ?_) (fun c4 => ?_)
         · skip
           refine D ?_
           refine E ?_
           first
           | exact trivial
           | unfold updateFault
             grind
         · skip
           refine D ?_
           refine E ?_
           first
           | exact trivial
           | unfold updateFault
             grind
   · skip
     refine D ?_
     refine kR (s_impl_Config_isZero u.config hcf) ?_
     refine D ?_
     refine cC (fun c5 => ?_) (fun c5 => ?_)
     · skip
       refine D ?_
       refine E ?_
       first
       | exact trivial
       | unfold updateFault
         grind
     · skip
       refine D ?_
       refine cC (fun c6 => ?_) (fun c6 => ?_)
       · skip
         refine D ?_
         refine E ?_
         first
         | exact trivial
         | unfold updateFault
           grind
       · skip
         refine D ?_
         refine kD (s_impl_size_Cmd (u.cmds.map eCmd)) ?_
         refine D ?_
         refine cC (fun c7 => ?_) (fun c7 => ?_)
         · skip
           refine D ?_
           refine E ?_
           first
           | exact trivial
           | unfold updateFault
             grind
         · skip
           refine D ?_
           refine kR (s_impl_cmdsFault u.cmds hcl) ?_
           refine D ?_
           refine E ?_
           first
           | exact trivial
           | unfold updateFault
             grind
end Go.H
end
section
set_option maxRecDepth 100000
set_option maxHeartbeats 4000000
set_option cbv.maxSteps 4000000
set_option linter.unusedVariables false
set_option linter.unusedSimpArgs false
namespace Go.H
open Go Go.Proofs.Tryz
variable [Inv prog]
theorem s_slices_insertionSortCmpFunc_Backend (R : List Backend) (b : Backend) (k : Nat) (fn : Nat) (cm : Backend → Backend → Int) (hq : callB prog fn = true) (hf : ∀ p q : Backend, SemX prog fn [aS (eBackend p), aS (eBackend q)] [] [rI (cm p q)] []) (hk : k ≤ R.length) (hl : R.length ≤ 11) (h1 : ∀ q, k ≤ q → q < R.length → cm b (R.getD q zBackend) < 0) (h2 : ∀ q, q < k → ¬ cm b (R.getD q zBackend) < 0) (h3 : ∀ i, 0 < i → i < R.length → ¬ cm (R.getD i zBackend) (R.getD (i - 1) zBackend) < 0) : SemX prog 322 [.one (.arr 0), aI 0, aI (R.length + 1), .one (.fn fn [])] [.arr 5 ((R ++ [b]).map eBackend)] [] [.arr 5 ((insAt R b k).map eBackend)] := by
 refine goF [] [(4, 7, [1000000], []), (4, 8, [1000000], []), (4, 12, [1000000], []), (4, 13, [1000000], []), (6, 8, [1000000], []), (6, 9, [1000000], []), (6, 12, [1000000], []), (6, 13, [1000000], []), (6, 14, [1000000], []), (6, 15, [1000000], [1000000]), (6, 16, [1000000], []), (6, 17, [1000000], [1000000])] [] func322 ?_
 refine D ?_
 refine L (α := Nat) (fun x => [(8, .int .i64 x)]) (fun x => [(1000000, .arr ⟨5, (rowO R b k x).map eBackend, verO R k x, none⟩)]) (fun x => R.length + 1 - x) (fun x => 1 ≤ x ∧ x ≤ R.length + 1) 1 [] (fun x hL => ?_) (by simp only [go_sem] <;> and_intros <;> first | with_reducible exact rfl | (first | omega | (refine arr_eq ?_ ?_ <;> simp only [rowO_one R b hk, verO_one R hk]; done))) (by exact ⟨by omega, by omega⟩)
 obtain ⟨hx1, hx2⟩ := hL
 refine D ?_
 refine cC (fun c0 => ?_) (fun c0 => ?_)
 · skip
   have hxl : x ≤ R.length := by omega
   refine D ?_
   refine L (α := Nat) (fun j => [(9, .int .i64 j)]) (fun j => [(1000000, .arr ⟨5, (rowI R b x j).map eBackend, 1 + 2 * (x - j), none⟩)]) (fun j => j) (fun j => j ≤ x ∧ (x < R.length → j = x) ∧ (x = R.length → k ≤ j)) x [] (fun j hL => ?_) (by simp only [go_sem] <;> and_intros <;> first | with_reducible exact rfl | (first | omega | (refine arr_eq (by rw [rowO_in R b k hxl, rowI_self R b hxl]) (by have := verO_in R k hxl; omega)))) (by exact ⟨Nat.le_refl _, fun _ => rfl, fun h => by omega⟩)
   obtain ⟨hj, hjx, hkj⟩ := hL
   refine D ?_
   refine kDg (hf ((rowI R b x j).getD j zBackend) ((rowI R b x j).getD (j - 1) zBackend)) ?_ hq
   refine D ?_
   refine cC (fun c1 => ?_) (fun c1 => ?_)
   · skip
     have hc : 0 < j ∧ cm ((rowI R b x j).getD j zBackend) ((rowI R b x j).getD (j - 1) zBackend) < 0 := by simpa using c1
     have hgo := rowI_go zBackend hxl hj h3 hjx h2 hc
     have hg : ∀ r, (((rowI R b x j).map eBackend).set j r).getD (j - 1) dBackend = eBackend (((rowI R b x j).getD (j - 1) zBackend)) := fun r => by
       rw [List.getD_eq_getElem?_getD, List.getElem?_set_ne (by omega), ← List.getD_eq_getElem?_getD]
       simp only [go_sem]
     have hA := hg
     refine D ?_
     refine lp_next (j - 1) [] ?_ ?_ ?_
     · simp only [go_sem, hA] <;> and_intros <;> first | with_reducible exact rfl | (first | omega | (refine int_eq ?_; omega) | (refine arr_eq (by simpa only [eBackend] using rowI_swap eBackend R b zBackend hgo.1 hj hc.1) (by omega)))
     · exact ⟨by omega, fun h => by omega, fun h => by omega⟩
     · omega
   · skip
     have hc : ¬ (0 < j ∧ cm ((rowI R b x j).getD j zBackend) ((rowI R b x j).getD (j - 1) zBackend) < 0) := by simpa using c1
     have hend := rowI_end zBackend hxl hj h1 hkj hc
     refine D ?_
     refine lp_next (x+1) [] ?_ ?_ ?_
     · simp only [go_sem] <;> and_intros <;> first | with_reducible exact rfl | (first | omega | (refine int_eq ?_; omega) | (refine arr_eq ?_ ?_ <;> first | rw [hend.1] | (unfold verO; split <;> omega)))
     · omega
     · omega
 · skip
   obtain rfl : x = R.length + 1 := by omega
   refine D ?_
   refine E ?_
   first
   | exact trivial
   | rw [rowO_out]
end Go.H
end
section
set_option maxRecDepth 100000
set_option maxHeartbeats 4000000
set_option cbv.maxSteps 4000000
set_option linter.unusedVariables false
set_option linter.unusedSimpArgs false
namespace Go.H
open Go Go.Proofs.Tryz
variable [Inv prog]
theorem s_slices_pdqsortCmpFunc_Backend (R : List Backend) (b : Backend) (k : Nat) (fn : Nat) (cm : Backend → Backend → Int) (hq : callB prog fn = true) (hf : ∀ p q : Backend, SemX prog fn [aS (eBackend p), aS (eBackend q)] [] [rI (cm p q)] []) (hk : k ≤ R.length) (hl : R.length ≤ 11) (h1 : ∀ q, k ≤ q → q < R.length → cm b (R.getD q zBackend) < 0) (h2 : ∀ q, q < k → ¬ cm b (R.getD q zBackend) < 0) (h3 : ∀ i, 0 < i → i < R.length → ¬ cm (R.getD i zBackend) (R.getD (i - 1) zBackend) < 0) (lim : Int) : SemX prog 312 [.one (.arr 0), aI 0, aI (R.length + 1), aI lim, .one (.fn fn [])] [.arr 5 ((R ++ [b]).map eBackend)] [] [.arr 5 ((insAt R b k).map eBackend)] := by
 refine goF [] [] [] func312 ?_
 refine D ?_
 refine L (α := Nat) (fun x => []) (fun x => []) (fun x => 0) (fun x => True) 0 [] (fun x hI => ?_) (hi := by trivial)
 refine D ?_
 refine cC (fun c0 => ?_) (fun c0 => ?_)
 · skip
   refine D ?_
   refine kRk [1000000] [] [] (s_slices_insertionSortCmpFunc_Backend R b k fn cm hq hf hk hl h1 h2 h3) ?_
   refine D ?_
   exact E trivial
 · skip
   omega
end Go.H
end
section
set_option maxRecDepth 100000
set_option maxHeartbeats 4000000
set_option cbv.maxSteps 4000000
set_option linter.unusedVariables false
set_option linter.unusedSimpArgs false
namespace Go.H
open Go Go.Proofs.Tryz
variable [Inv prog]
theorem s_math_bits_Len64 (n : Nat) (hn : n ≤ 12) : SemX prog 331 [.one (.t (.int .u64 n))] [] [rI (if n = 0 then 0 else if n < 2 then 1 else if n < 4 then 2 else if n < 8 then 3 else 4 : Int)] [] := by
 refine goF [] [] [] func331 ?_
 refine D ?_
 refine cC (fun c0 => ?_) (fun c0 => ?_)
 · skip
   exfalso
   omega
 · skip
   refine D ?_
   refine cC (fun c1 => ?_) (fun c1 => ?_)
   · skip
     exfalso
     omega
   · skip
     refine D ?_
     refine cC (fun c2 => ?_) (fun c2 => ?_)
     · skip
       exfalso
       omega
     · skip
       refine D ?_
       refine E ?_
       rcases (by omega : n = 0 ∨ n = 1 ∨ n = 2 ∨ n = 3 ∨ n = 4 ∨ n = 5 ∨ n = 6 ∨ n = 7 ∨ n = 8 ∨ n = 9 ∨ n = 10 ∨ n = 11 ∨ n = 12) with rfl | rfl | rfl | rfl | rfl | rfl | rfl | rfl | rfl | rfl | rfl | rfl | rfl
       all_goals exact ⟨by decide, ⟨by decide, by decide⟩, rfl⟩
end Go.H
end
section
set_option maxRecDepth 100000
set_option maxHeartbeats 4000000
set_option cbv.maxSteps 4000000
set_option linter.unusedVariables false
set_option linter.unusedSimpArgs false
namespace Go.H
open Go Go.Proofs.Tryz
variable [Inv prog]
theorem s_math_bits_Len (n : Nat) (hn : n ≤ 12) : SemX prog 313 [.one (.t (.int .u64 n))] [] [rI (if n = 0 then 0 else if n < 2 then 1 else if n < 4 then 2 else if n < 8 then 3 else 4 : Int)] [] := by
 refine goF [] [] [] func313 ?_
 refine D ?_
 refine cF ?_
 refine D ?_
 refine kR (s_math_bits_Len64 n hn) ?_
 refine D ?_
 exact E trivial
end Go.H
end
section
set_option maxRecDepth 100000
set_option maxHeartbeats 4000000
set_option cbv.maxSteps 4000000
set_option linter.unusedVariables false
set_option linter.unusedSimpArgs false
namespace Go.H
open Go Go.Proofs.Tryz
variable [Inv prog]
theorem s_slices_SortFunc_Backend (R : List Backend) (b : Backend) (k : Nat) (fn : Nat) (cm : Backend → Backend → Int) (hq : callB prog fn = true) (hf : ∀ p q : Backend, SemX prog fn [aS (eBackend p), aS (eBackend q)] [] [rI (cm p q)] []) (hk : k ≤ R.length) (hl : R.length ≤ 11) (h1 : ∀ q, k ≤ q → q < R.length → cm b (R.getD q zBackend) < 0) (h2 : ∀ q, q < k → ¬ cm b (R.getD q zBackend) < 0) (h3 : ∀ i, 0 < i → i < R.length → ¬ cm (R.getD i zBackend) (R.getD (i - 1) zBackend) < 0) : SemX prog 305 [.one (.arr 0), .one (.fn fn [])] [.arr 5 ((R ++ [b]).map eBackend)] [] [.arr 5 ((insAt R b k).map eBackend)] := by
 refine goF [] [] [] func305 ?_
 have hwu : IntKind.u64.wrap ((R.length : Int) + 1) = (R.length : Int) + 1 := by
   have := wrap_u (R.length + 1) (by omega)
   simpa using this
 have hA := hwu
 refine D ?_
 refine kR (s_math_bits_Len (R.length + 1) (by omega)) ?_
 refine D ?_
 refine kRk [1000000] [] [] (s_slices_pdqsortCmpFunc_Backend R b k fn cm hq hf hk hl h1 h2 h3 (if (R.length + 1) = 0 then 0 else if (R.length + 1) < 2 then 1 else if (R.length + 1) < 4 then 2 else if (R.length + 1) < 8 then 3 else 4 : Int)) ?_
 refine D ?_
 exact E trivial
end Go.H
end
section
set_option maxRecDepth 100000
set_option maxHeartbeats 4000000
set_option cbv.maxSteps 4000000
set_option linter.unusedVariables false
set_option linter.unusedSimpArgs false
namespace Go.H
open Go Go.Proofs.Tryz
variable [Inv prog]
theorem s_impl_Config_does_1 (p q : Backend) : SemX prog 306 [aS (eBackend p), aS (eBackend q)] [] [rI (cmpB p q)] [] := by
 refine goF [] [] [] func306 ?_
 refine D ?_
 refine kR (s_cmp_Compare_int64 p.name q.name) ?_
 refine D ?_
 refine E ?_
 first
 | exact trivial
 | simp only [go_sem, cmpB]
end Go.H
end
section
set_option maxRecDepth 100000
set_option maxHeartbeats 4000000
set_option cbv.maxSteps 4000000
set_option linter.unusedVariables false
set_option linter.unusedSimpArgs false
namespace Go.H
open Go Go.Proofs.Tryz
variable [Inv prog]
section
attribute [local go_sem] eRV
theorem s_slices_insertionSortCmpFunc_Vip (R : List RVp) (b : RVp) (k : Nat) (fn : Nat) (cm : RVp → RVp → Int) (hq : callB prog fn = true) (hf : ∀ p q : RVp, SemX prog fn [aS (eRV p), aS (eRV q)] [] [rI (cm p q)] []) (hk : k ≤ R.length) (hl : R.length ≤ 11) (h1 : ∀ q, k ≤ q → q < R.length → cm b (R.getD q zRV) < 0) (h2 : ∀ q, q < k → ¬ cm b (R.getD q zRV) < 0) (h3 : ∀ i, 0 < i → i < R.length → ¬ cm (R.getD i zRV) (R.getD (i - 1) zRV) < 0) : SemX prog 332 [.one (.arr 0), aI 0, aI (R.length + 1), .one (.fn fn [])] [.arr 4 ((R ++ [b]).map eRV)] [] [.arr 4 ((insAt R b k).map eRV)] := by
 refine goF [(54, ⟨none, none, some (90001, true), none⟩), (64, ⟨none, none, some (90001, true), none⟩), (94, ⟨none, none, some (90001, true), none⟩), (102, ⟨none, none, some (90001, true), none⟩), (105, ⟨none, none, some (90001, true), none⟩), (107, ⟨none, none, some (90001, true), none⟩)] [(4, 7, [1000000], []), (4, 8, [1000000], []), (4, 12, [1000000], []), (4, 13, [1000000], []), (4, 14, [1000000], []), (6, 8, [1000000], []), (6, 9, [1000000], []), (6, 12, [1000000], []), (6, 13, [1000000], []), (6, 14, [1000000], []), (6, 15, [1000000], [1000000]), (6, 16, [1000000], []), (6, 17, [1000000], [1000000])] [] func332 ?_
 refine D ?_
 refine L (α := Nat) (fun x => [(8, .int .i64 x)]) (fun x => [(1000000, .arr ⟨4, (rowO R b k x).map eRV, verO R k x, none⟩)]) (fun x => R.length + 1 - x) (fun x => 1 ≤ x ∧ x ≤ R.length + 1) 1 [] (fun x hL => ?_) (by simp only [go_sem] <;> and_intros <;> first | with_reducible exact rfl | (first | omega | (refine arr_eq ?_ ?_ <;> simp only [rowO_one R b hk, verO_one R hk]; done))) (by exact ⟨by omega, by omega⟩)
 obtain ⟨hx1, hx2⟩ := hL
 refine D ?_
 refine cC (fun c0 => ?_) (fun c0 => ?_)
 · skip
   have hxl : x ≤ R.length := by omega
   refine D ?_
   refine L (α := Nat) (fun j => [(9, .int .i64 j)]) (fun j => [(1000000, .arr ⟨4, (rowI R b x j).map eRV, 1 + 2 * (x - j), none⟩)]) (fun j => j) (fun j => j ≤ x ∧ (x < R.length → j = x) ∧ (x = R.length → k ≤ j)) x [] (fun j hL => ?_) (by simp only [go_sem] <;> and_intros <;> first | with_reducible exact rfl | (first | omega | (refine arr_eq (by rw [rowO_in R b k hxl, rowI_self R b hxl]) (by have := verO_in R k hxl; omega)))) (by exact ⟨Nat.le_refl _, fun _ => rfl, fun h => by omega⟩)
   obtain ⟨hj, hjx, hkj⟩ := hL
   refine D ?_
   refine kDg (hf ((rowI R b x j).getD j zRV) ((rowI R b x j).getD (j - 1) zRV)) ?_ hq
   refine D ?_
   refine cC (fun c1 => ?_) (fun c1 => ?_)
   · skip
     have hc : 0 < j ∧ cm ((rowI R b x j).getD j zRV) ((rowI R b x j).getD (j - 1) zRV) < 0 := by simpa using c1
     have hgo := rowI_go zRV hxl hj h3 hjx h2 hc
     have hg : ∀ r, (((rowI R b x j).map eRV).set j r).getD (j - 1) dRV = eRV (((rowI R b x j).getD (j - 1) zRV)) := fun r => by
       rw [List.getD_eq_getElem?_getD, List.getElem?_set_ne (by omega), ← List.getD_eq_getElem?_getD]
       simp only [go_sem]
     have hA := hg
     refine D ?_
     refine lp_next (j - 1) [] ?_ ?_ ?_
     · simp only [go_sem, hA] <;> and_intros <;> first | with_reducible exact rfl | (first | omega | (refine int_eq ?_; omega) | (refine arr_eq (by simpa only [eRV] using rowI_swap eRV R b zRV hgo.1 hj hc.1) (by omega)))
     · exact ⟨by omega, fun h => by omega, fun h => by omega⟩
     · omega
   · skip
     have hc : ¬ (0 < j ∧ cm ((rowI R b x j).getD j zRV) ((rowI R b x j).getD (j - 1) zRV) < 0) := by simpa using c1
     have hend := rowI_end zRV hxl hj h1 hkj hc
     refine D ?_
     refine lp_next (x+1) [] ?_ ?_ ?_
     · simp only [go_sem] <;> and_intros <;> first | with_reducible exact rfl | (first | omega | (refine int_eq ?_; omega) | (refine arr_eq ?_ ?_ <;> first | rw [hend.1] | (unfold verO; split <;> omega)))
     · omega
     · omega
 · skip
   obtain rfl : x = R.length + 1 := by omega
   refine D ?_
   refine E ?_
   first
   | exact trivial
   | rw [rowO_out]
end
end Go.H
end
section
set_option maxRecDepth 100000
set_option maxHeartbeats 4000000
set_option cbv.maxSteps 4000000
set_option linter.unusedVariables false
set_option linter.unusedSimpArgs false
namespace Go.H
open Go Go.Proofs.Tryz
variable [Inv prog]
section
attribute [local go_sem] eRV
theorem s_slices_pdqsortCmpFunc_Vip (R : List RVp) (b : RVp) (k : Nat) (fn : Nat) (cm : RVp → RVp → Int) (hq : callB prog fn = true) (hf : ∀ p q : RVp, SemX prog fn [aS (eRV p), aS (eRV q)] [] [rI (cm p q)] []) (hk : k ≤ R.length) (hl : R.length ≤ 11) (h1 : ∀ q, k ≤ q → q < R.length → cm b (R.getD q zRV) < 0) (h2 : ∀ q, q < k → ¬ cm b (R.getD q zRV) < 0) (h3 : ∀ i, 0 < i → i < R.length → ¬ cm (R.getD i zRV) (R.getD (i - 1) zRV) < 0) (lim : Int) : SemX prog 314 [.one (.arr 0), aI 0, aI (R.length + 1), aI lim, .one (.fn fn [])] [.arr 4 ((R ++ [b]).map eRV)] [] [.arr 4 ((insAt R b k).map eRV)] := by
 refine goF [] [] [] func314 ?_
 refine D ?_
 refine L (α := Nat) (fun x => []) (fun x => []) (fun x => 0) (fun x => True) 0 [] (fun x hI => ?_) (hi := by trivial)
 refine D ?_
 refine cC (fun c0 => ?_) (fun c0 => ?_)
 · skip
   refine D ?_
   refine kRk [1000000] [] [] (s_slices_insertionSortCmpFunc_Vip R b k fn cm hq hf hk hl h1 h2 h3) ?_
   refine D ?_
   exact E trivial
 · skip
   omega
end
end Go.H
end
section
set_option maxRecDepth 100000
set_option maxHeartbeats 4000000
set_option cbv.maxSteps 4000000
set_option linter.unusedVariables false
set_option linter.unusedSimpArgs false
namespace Go.H
open Go Go.Proofs.Tryz
variable [Inv prog]
section
attribute [local go_sem] eRV
theorem s_slices_SortFunc_Vip_raw (R : List RVp) (b : RVp) (k : Nat) (fn : Nat) (cm : RVp → RVp → Int) (hq : callB prog fn = true) (hf : ∀ p q : RVp, SemX prog fn [aS (eRV p), aS (eRV q)] [] [rI (cm p q)] []) (hk : k ≤ R.length) (hl : R.length ≤ 11) (h1 : ∀ q, k ≤ q → q < R.length → cm b (R.getD q zRV) < 0) (h2 : ∀ q, q < k → ¬ cm b (R.getD q zRV) < 0) (h3 : ∀ i, 0 < i → i < R.length → ¬ cm (R.getD i zRV) (R.getD (i - 1) zRV) < 0) : SemX prog 307 [.one (.arr 0), .one (.fn fn [])] [.arr 4 ((R ++ [b]).map eRV)] [] [.arr 4 ((insAt R b k).map eRV)] := by
 refine goF [] [] [] func307 ?_
 have hwu : IntKind.u64.wrap ((R.length : Int) + 1) = (R.length : Int) + 1 := by
   have := wrap_u (R.length + 1) (by omega)
   simpa using this
 have hA := hwu
 refine D ?_
 refine kR (s_math_bits_Len (R.length + 1) (by omega)) ?_
 refine D ?_
 refine kRk [1000000] [] [] (s_slices_pdqsortCmpFunc_Vip R b k fn cm hq hf hk hl h1 h2 h3 (if (R.length + 1) = 0 then 0 else if (R.length + 1) < 2 then 1 else if (R.length + 1) < 4 then 2 else if (R.length + 1) < 8 then 3 else 4 : Int)) ?_
 refine D ?_
 exact E trivial
end
theorem s_slices_SortFunc_Vip (R : List Vip) (b : Vip) (k : Nat) (fn : Nat) (cm : Vip → Vip → Int) (hq : callB prog fn = true) (hf : ∀ p q : RVp, SemX prog fn [aS (eRV p), aS (eRV q)] [] [rI (cm p.1 q.1)] []) (hk : k ≤ R.length) (hl : R.length ≤ 11) (h1 : ∀ q, k ≤ q → q < R.length → cm b (R.getD q zVip) < 0) (h2 : ∀ q, q < k → ¬ cm b (R.getD q zVip) < 0) (h3 : ∀ i, 0 < i → i < R.length → ¬ cm (R.getD i zVip) (R.getD (i - 1) zVip) < 0) : SemX prog 307 [.one (.arr 0), .one (.fn fn [])] [.arr 4 ((R ++ [b]).map (eVip true))] [] [.arr 4 ((insAt R b k).map (eVip true))] := by
  refine SemX_rawVip fun R' b' e1 e2 => ?_
  subst e1 e2
  simp only [List.length_map] at hk hl h1 h3
  simp only [fst_RV] at h1 h2 h3
  exact s_slices_SortFunc_Vip_raw R' b' k fn (fun p q => cm p.1 q.1) hq hf hk hl h1 h2 h3
end Go.H
end
section
set_option maxRecDepth 100000
set_option maxHeartbeats 4000000
set_option cbv.maxSteps 4000000
set_option linter.unusedVariables false
set_option linter.unusedSimpArgs false
namespace Go.H
open Go Go.Proofs.Tryz
variable [Inv prog]
theorem s_slices_Delete_Vip (R : List (List T)) (i j : Nat) (hij : i < j) (hj : j ≤ R.length) (hl : R.length ≤ 2097152) (hs : cpRows none (R.drop j) = True) (hn : T.noShR (R.take i ++ R.drop j) = True) : SemX prog 308 [.one (.t (.sl true 4 R)), aI i, aI j] [] [.one (.sl true 4 (R.take i ++ R.drop j))] [] := by
 refine goF [(54, ⟨some 7, none, none, none⟩)] [(5, 2, [0], []), (5, 5, [0], []), (5, 6, [0], [0])] [] func308 ?_
 have hA := hs
 refine D ?_
 refine cC (fun c0 => ?_) (fun c0 => ?_)
 · skip
   omega
 · skip
   refine D ?_
   refine E ?_
   rw [if_pos (by omega)]
   exact ⟨congrArg (fun r => [TV.one (T.sl true 4 r)]) (del_rowsR R (by omega) hj _ _ _), rfl, rfl⟩
end Go.H
end
section
set_option maxRecDepth 100000
set_option maxHeartbeats 4000000
set_option cbv.maxSteps 4000000
set_option linter.unusedVariables false
set_option linter.unusedSimpArgs false
namespace Go.H
open Go Go.Proofs.Tryz
variable [Inv prog]
theorem s_cmp_Less_int64 (a b : Int) : SemX prog 340 [aI a, aI b] [] [rB (decide (a < b))] [] := by
 refine goF [] [] [] func340 ?_
 refine D ?_
 refine kR (s_cmp_isNaN_int64 _) ?_
 refine D ?_
 refine kRg (s_cmp_isNaN_int64 _) ?_
 refine D ?_
 exact E trivial
end Go.H
end
section
set_option maxRecDepth 100000
set_option maxHeartbeats 4000000
set_option cbv.maxSteps 4000000
set_option linter.unusedVariables false
set_option linter.unusedSimpArgs false
namespace Go.H
open Go Go.Proofs.Tryz
variable [Inv prog]
theorem s_slices_isNaN_int64 (a : Int) : SemX prog 341 [aI a] [] [rB false] [] := by
 refine goF [] [] [] func341 ?_
 refine D ?_
 exact E trivial
end Go.H
end
section
set_option maxRecDepth 100000
set_option maxHeartbeats 4000000
set_option cbv.maxSteps 4000000
set_option linter.unusedVariables false
set_option linter.unusedSimpArgs false
namespace Go.H
open Go Go.Proofs.Tryz
variable [Inv prog]
theorem s_slices_BinarySearch_int64 (xs : List Int) (v : Int) (hr : rises xs) (hl : xs.length ≤ 2097152) : SemX prog 315 [aT (.sl false 1 (xs.map eI_i64)), aI v] [] [rI (lbn xs v), rB (hasI xs v)] [] := by
 refine goF [] [] [] func315 ?_
 refine D ?_
 refine L (α := Nat × Nat) (fun p => [(7, .int .i64 p.1), (8, .int .i64 p.2)]) (fun p => []) (fun p => p.2 - p.1) (fun p => p.1 ≤ p.2 ∧ p.2 ≤ xs.length ∧ (∀ q, q < p.1 → xs.getD q zI_i64 < v) ∧ (∀ q, p.2 ≤ q → q < xs.length → v ≤ xs.getD q zI_i64)) (0, xs.length) [] (fun x0 hL => ?_) (hi := by exact ⟨Nat.zero_le _, Nat.le_refl _, fun q h => by omega, fun q h1 h2 => by omega⟩)
 obtain ⟨i, j⟩ := x0
 obtain ⟨hij, hj, hlo, hup⟩ := hL
 try dsimp only at *
 refine D ?_
 refine cC (fun c0 => ?_) (fun c0 => ?_)
 · skip
   have hhf := half_nat i j (by omega)
   have hw1 : IntKind.u64.wrap ((i : Int) + j) = i + j := by have := wrap_u (i + j) (by omega); simpa using this
   have hw2 : IntKind.i64.wrap (((i + j) / 2 : Nat) : Int) = ((i + j) / 2 : Nat) := wrap_small (by omega) (by omega)
   have hA := And.intro hhf (And.intro hw1 (hw2))
   refine D ?_
   refine kR (s_cmp_Less_int64 _ _) ?_
   refine D ?_
   refine cC (fun c1 => ?_) (fun c1 => ?_)
   · skip
     refine D ?_
     refine N ((i + j) / 2 + 1, j) [] (hi := ?_) (hm := ?_)
     · dsimp only
       refine ⟨by omega, by omega, fun q hq => ?_, hup⟩
       by_cases e : q = (i + j) / 2
       · subst e; exact c1
       · have := rises_lt hr (i := q) (j := (i + j) / 2) (by omega) (by omega); omega
     · try dsimp only
       omega
   · skip
     refine D ?_
     refine N (i, (i + j) / 2) [] (hi := ?_) (hm := ?_)
     · dsimp only
       refine ⟨by omega, by omega, hlo, fun q h1 h2 => ?_⟩
       by_cases e : q = (i + j) / 2
       · subst e; omega
       · have := rises_lt hr (i := (i + j) / 2) (j := q) (by omega) (by omega); omega
     · try dsimp only
       omega
 · skip
   refine D ?_
   refine kRg (s_slices_isNaN_int64 _) ?_
   refine D ?_
   refine kRg (s_slices_isNaN_int64 _) ?_
   refine D ?_
   refine E ?_
   first
   | exact trivial
   | have hb : lbn xs v = i := lbn_eq (by omega) hlo (fun h => hup i (by omega) h)
     simp [hasI, hb]
end Go.H
end
section
set_option maxRecDepth 100000
set_option maxHeartbeats 4000000
set_option cbv.maxSteps 4000000
set_option linter.unusedVariables false
set_option linter.unusedSimpArgs false
namespace Go.H
open Go Go.Proofs.Tryz
variable [Inv prog]
theorem s_slices_Delete_int64 (R : List (List T)) (i j : Nat) (hij : i < j) (hj : j ≤ R.length) (hl : R.length ≤ 2097152) (hs : cpRows none (R.drop j) = True) (hn : T.noShR (R.take i ++ R.drop j) = True) : SemX prog 316 [.one (.t (.sl true 1 R)), aI i, aI j] [] [.one (.sl true 1 (R.take i ++ R.drop j))] [] := by
 refine goF [(54, ⟨some 7, none, none, none⟩)] [(5, 2, [0], []), (5, 5, [0], []), (5, 6, [0], [0])] [] func316 ?_
 have hA := hs
 refine D ?_
 refine cC (fun c0 => ?_) (fun c0 => ?_)
 · skip
   omega
 · skip
   refine D ?_
   refine E ?_
   rw [if_pos (by omega)]
   exact ⟨congrArg (fun r => [TV.one (T.sl true 1 r)]) (del_rowsR R (by omega) hj _ _ _), rfl, rfl⟩
end Go.H
end
section
set_option maxRecDepth 100000
set_option maxHeartbeats 4000000
set_option cbv.maxSteps 4000000
set_option linter.unusedVariables false
set_option linter.unusedSimpArgs false
namespace Go.H
open Go Go.Proofs.Tryz
variable [Inv prog]
theorem s_slices_Insert_int64 (R V : List (List T)) (i : Nat) (hi : i ≤ R.length) (hv : 1 ≤ V.length) (hl : R.length + V.length ≤ 2097152) (fR : ∀ r ∈ R, ∀ t ∈ r, t.flat = true) (fV : ∀ r ∈ V, ∀ t ∈ r, t.flat = true) : SemX prog 317 [.one (.t (.sl true 1 R)), aI i, .one (.t (.sl true 1 V))] [] [.one (.sl true 1 (R.take i ++ V ++ R.drop i))] [] := by
 refine goFC 0 [(82, ⟨none, none, some (2, true), none⟩), (110, ⟨some 10, none, none, none⟩), (156, ⟨some 10, none, none, none⟩)] [(11, 4, [167936], []), (11, 7, [0], []), (11, 8, [167936, 0], [167936]), (15, 4, [0], []), (15, 7, [0], []), (15, 8, [0], [0])] [] func317 (fun cp hcp hcp2 => ?_)
 have hcp3 : R.length ≤ cp := hcp
 have hcV : cpRows (some (0, 0)) V = True := eq_true fV
 have hcT : cpRows (some (0, 0)) (List.take i R) = True := eq_true fun r hr => fR r (List.mem_of_mem_take hr)
 have hcD : cpRows (some (0, 0)) (List.drop i R) = True := eq_true fun r hr => fR r (List.mem_of_mem_drop hr)
 have hX1 : List.take i (R ++ roomR 1 (cp - R.length)) = List.take i R := List.take_append_of_le_length hi
 have hX2 : List.take R.length (R ++ roomR 1 (cp - R.length)) = R := List.take_left' rfl
 have hX3 : List.take (R.length - i) (List.drop i (R ++ roomR 1 (cp - R.length))) = List.drop i R := by rw [List.drop_append_of_le_length hi]; exact List.take_left' (by simp)
 have hA := And.intro hcV (And.intro hcT (And.intro hcD (And.intro hX1 (And.intro hX2 (hX3)))))
 refine D ?_
 refine cC (fun c0 => ?_) (fun c0 => ?_)
 · skip
   omega
 · skip
   refine D ?_
   refine cC (fun c1 => ?_) (fun c1 => ?_)
   · skip
     refine D ?_
     refine E ?_
     obtain rfl : i = R.length := by omega
     simp [List.take_of_length_le]
   · skip
     refine D ?_
     refine cC (fun c2 => ?_) (fun c2 => ?_)
     · skip
       refine D ?_
       refine E ?_
       rw [if_pos (by omega)]
       exact ⟨congrArg (fun r => [TV.one (T.sl true 1 r)]) (ins_grow (by omega) (by omega) (by omega) (by omega) (by omega)), rfl, rfl⟩
     · skip
       refine D ?_
       refine kOv (⟨_, 170, 4, 2, 1, func342, by kernel_rfl, by kernel_rfl, by kernel_rfl, by kernel_rfl, by kernel_rfl, by kernel_rfl⟩ : OvlOk prog 342) ?_
       refine D ?_
       refine cT ?_
       refine D ?_
       refine E ?_
       rw [if_pos (by omega)]
       exact ⟨congrArg (fun r => [TV.one (T.sl true 1 r)]) (ins_room (by omega) (by simp [roomR_len]; omega) (by omega) (by omega) (by omega) (by omega) (by omega)), rfl, rfl⟩
theorem s_rise_I (xs : List Int) (v : Int) (hl : xs.length + 1 ≤ 2097152) (h : hasI xs v = false) : SemX prog 317 [.one (.t (.sl true 1 (xs.map eI_i64))), aI (lbn xs v), .one (.t (.sl true 1 [[.int .i64 v]]))] [] [.one (.sl true 1 ((riseL xs v).map eI_i64))] [] := by
  have := s_slices_Insert_int64 (xs.map eI_i64) [[.int .i64 v]] (lbn xs v) (by simpa using lbn_le xs v) (by simp) (by simpa using hl) (flat_I xs) (by simp [T.flat])
  rwa [← riseL_no h] at this
end Go.H
end
section
set_option maxRecDepth 100000
set_option maxHeartbeats 4000000
set_option cbv.maxSteps 4000000
set_option linter.unusedVariables false
set_option linter.unusedSimpArgs false
namespace Go.H
open Go Go.Proofs.Tryz
variable [Inv prog]
section
attribute [local go_sem] List.set_set
theorem s_impl_Config_tie (c : Config) (hx1 : limG 2097151 c) (K : CfOk c) (x_ : Cmd) (hkd : x_.kind = 7 ∨ x_.kind = 8) : SemX prog 309 [.one (.ptr 0 0), aS (eCmd x_), aI (findB c.backends x_.name), aI (findV c.vips x_.addr x_.number x_.proto)] [.var (eConfig true c)] [rI (turnV c x_).1] [.var (eConfig true (turnV c x_).2)] := by
 refine goF [(132, ⟨some 2, some 270336, none, none⟩), (70, ⟨some 2, some 143360, none, none⟩), (138, ⟨some 1, none, none, none⟩)] [(4, 3, [1000003], []), (4, 5, [24576], []), (4, 6, [1000003], []), (5, 4, [1000003], [1000003, 143360]), (5, 7, [24576], []), (5, 8, [], [159744]), (5, 9, [143360, 159744], [143360, 159744, 163840]), (5, 12, [1000003, 163840], [1000003, 163840])] [] func309 ?_
 have hx : limG 2097152 c := limG_mono (by omega) hx1
 obtain ⟨hb, hv, hV⟩ := id hx
 refine D ?_
 refine cC (fun c0 => ?_) (fun c0 => ?_)
 · skip
   refine D ?_
   refine E ?_
   have he : turnV c x_ = (4, c) := by unfold turnV; grind
   simp [he]
 · skip
   have hfn : ¬ findV c.vips x_.addr x_.number x_.proto < 0 := by omega
   obtain ⟨n, hfv, hnl, hnq, hnb⟩ : ∃ n : Nat, findV c.vips x_.addr x_.number x_.proto = n ∧ n < c.vips.length ∧ isV x_.addr x_.number x_.proto (c.vips.getD n zVip) = true ∧ ∀ j, j < n → isV x_.addr x_.number x_.proto (c.vips.getD j zVip) = false := idxG_lt zVip hfn
   have hva : vAt c x_ = n := by unfold vAt; omega
   have hnm : (c.vips.getD n zVip).names.length ≤ 2097152 := limV_getD hV n
   have hrs := K.nr n hnl
   have hhi := hasI_eq hrs x_.name
   have hnm1 : (c.vips.getD n zVip).names.length ≤ 2097151 := hx1.2.2 _ (getD_mem zVip hnl)
   have hA := hfv
   refine D ?_
   refine kD (s_slices_BinarySearch_int64 (c.vips.getD n zVip).names x_.name hrs hnm) ?_
   refine D ?_
   refine cC (fun c1 => ?_) (fun c1 => ?_)
   · skip
     refine D ?_
     refine cC (fun c2 => ?_) (fun c2 => ?_)
     · skip
       refine D ?_
       refine E ?_
       have he : turnV c x_ = (4, c) := by unfold turnV; grind
       simp [he]
     · skip
       exfalso
       grind
   · skip
     refine D ?_
     refine cC (fun c2 => ?_) (fun c2 => ?_)
     · skip
       refine D ?_
       refine E ?_
       have he : turnV c x_ = (4, c) := by unfold turnV; grind
       simp [he]
     · skip
       refine D ?_
       refine cC (fun c3 => ?_) (fun c3 => ?_)
       · skip
         have h8 : hasI (c.vips.getD n zVip).names x_.name = true := by grind
         have hlb : lbn (c.vips.getD n zVip).names x_.name < (c.vips.getD n zVip).names.length := by
           have h9 := h8
           simp only [hasI, Bool.and_eq_true, decide_eq_true_eq] at h9
           exact h9.1
         have hgs := fun r d => getD_set_self (l := c.vips.map (eVip true)) (i := n) (by simp; omega) r d
         have hA := And.intro hA (hgs)
         refine D ?_
         refine kRk [] [270336] [] (s_slices_Delete_int64 ((c.vips.getD n zVip).names.map eI_i64) (lbn (c.vips.getD n zVip).names x_.name) (lbn (c.vips.getD n zVip).names x_.name + 1) (by omega) (by rw [List.length_map]; omega) (by rw [List.length_map]; exact hnm) (by rw [← List.map_drop]; exact cpRows_I_i64 _ _) (by rw [← List.map_take, ← List.map_drop, ← List.map_append]; exact noShR_I_i64 _)) ?_
         refine D ?_
         refine E ?_
         have he : turnV c x_ = (0, setV c (vAt c x_) { c.vips.getD (vAt c x_) zVip with names := cutG (c.vips.getD (vAt c x_) zVip).names (lbn (c.vips.getD (vAt c x_) zVip).names x_.name) }) := by unfold turnV; grind
         have hcr : List.take (min (lbn (c.vips.getD n zVip).names x_.name) (c.vips.getD n zVip).names.length + ((c.vips.getD n zVip).names.length - (lbn (c.vips.getD n zVip).names x_.name + 1))) (List.take (lbn (c.vips.getD n zVip).names x_.name) ((c.vips.getD n zVip).names.map eI_i64) ++ List.drop (lbn (c.vips.getD n zVip).names x_.name + 1) ((c.vips.getD n zVip).names.map eI_i64)) = List.take (lbn (c.vips.getD n zVip).names x_.name) ((c.vips.getD n zVip).names.map eI_i64) ++ List.drop (lbn (c.vips.getD n zVip).names x_.name + 1) ((c.vips.getD n zVip).names.map eI_i64) := List.take_of_length_le (by simp [-List.getD_eq_getElem?_getD])
         simp [-List.getD_eq_getElem?_getD, he, setV, hva, eVip, cutG, List.map_set, List.set_set, hcr]
       · skip
         refine D ?_
         refine cC (fun c4 => ?_) (fun c4 => ?_)
         · skip
           refine D ?_
           refine E ?_
           have he : turnV c x_ = (7, c) := by unfold turnV; grind
           simp [he]
         · skip
           have hno : hasI (c.vips.getD n zVip).names x_.name = false := by simpa using c4
           have hgs := fun r d => getD_set_self (l := c.vips.map (eVip true)) (i := n) (by simp; omega) r d
           have hA := And.intro hA (hgs)
           refine D ?_
           refine kDk [] [143360, 159744] [] (s_rise_I (c.vips.getD n zVip).names x_.name (by omega) hno) ?_
           refine D ?_
           refine E ?_
           have he : turnV c x_ = (0, setV c (vAt c x_) { c.vips.getD (vAt c x_) zVip with names := riseL (c.vips.getD (vAt c x_) zVip).names x_.name }) := by unfold turnV; grind
           simp [he, setV, hva, eVip, List.map_set, List.set_set]
end
end Go.H
end
section
set_option maxRecDepth 100000
set_option maxHeartbeats 4000000
set_option cbv.maxSteps 4000000
set_option linter.unusedVariables false
set_option linter.unusedSimpArgs false
namespace Go.H
open Go Go.Proofs.Tryz
variable [Inv prog]
theorem s_slices_ContainsFunc_Vip (R : List Vip) (hl : R.length ≤ 2097152) (fn : Nat) (x_ : Cmd) (q : Vip → Bool) (hq : callB prog fn = true) (hf : ∀ b : Vip, b ∈ R → SemX prog fn [aS (eVip false b), aT (.ptr (eCmd x_))] [] [rB (q b)] []) : SemX prog 318 [aT (.sl false 4 (R.map (eVip false))), .one (.fn fn [.t (.ptr (eCmd x_))])] [] [rB (hasG q R)] [] := by
 refine goF [] [] [] func318 ?_
 refine D ?_
 refine kR (s_slices_IndexFunc_Vip_cmd R hl fn x_ q hq hf) ?_
 refine D ?_
 refine E ?_
 first
 | exact trivial
 | simp only [go_sem, hasG]
end Go.H
end
section
set_option maxRecDepth 100000
set_option maxHeartbeats 4000000
set_option cbv.maxSteps 4000000
set_option linter.unusedVariables false
set_option linter.unusedSimpArgs false
namespace Go.H
open Go Go.Proofs.Tryz
variable [Inv prog]
theorem s_impl_Config_turn_1 (v : Vip) (x_ : Cmd) (hl : v.names.length ≤ 2097152) : SemX prog 319 [aS (eVip false v), aT (.ptr (eCmd x_))] [] [rB (hasG (eqI x_.name) v.names)] [] := by
 refine goF [] [] [] func319 ?_
 refine D ?_
 refine kR (s_slices_Contains_int64 v.names x_.name hl) ?_
 refine D ?_
 exact E trivial
end Go.H
end
section
set_option maxRecDepth 100000
set_option maxHeartbeats 4000000
set_option cbv.maxSteps 4000000
set_option linter.unusedVariables false
set_option linter.unusedSimpArgs false
namespace Go.H
open Go Go.Proofs.Tryz
variable [Inv prog]
theorem s_slices_Delete_Backend (R : List (List T)) (i j : Nat) (hij : i < j) (hj : j ≤ R.length) (hl : R.length ≤ 2097152) (hs : cpRows none (R.drop j) = True) (hn : T.noShR (R.take i ++ R.drop j) = True) : SemX prog 320 [.one (.t (.sl true 5 R)), aI i, aI j] [] [.one (.sl true 5 (R.take i ++ R.drop j))] [] := by
 refine goF [(54, ⟨some 7, none, none, none⟩)] [(5, 2, [0], []), (5, 5, [0], []), (5, 6, [0], [0])] [] func320 ?_
 have hA := hs
 refine D ?_
 refine cC (fun c0 => ?_) (fun c0 => ?_)
 · skip
   omega
 · skip
   refine D ?_
   refine E ?_
   rw [if_pos (by omega)]
   exact ⟨congrArg (fun r => [TV.one (T.sl true 5 r)]) (del_rowsR R (by omega) hj _ _ _), rfl, rfl⟩
end Go.H
end
section
set_option maxRecDepth 100000
set_option maxHeartbeats 4000000
set_option cbv.maxSteps 4000000
set_option linter.unusedVariables false
set_option linter.unusedSimpArgs false
namespace Go.H
open Go Go.Proofs.Tryz
variable [Inv prog]
theorem s_impl_Config_turn (c : Config) (hx : limG 2097152 c) (K : CfOk c) (x_ : Cmd) (n : Nat) (hfb : findB c.backends x_.name = n) (hkd : x_.kind = 2 ∨ x_.kind = 3 ∨ x_.kind = 9 ∨ x_.kind = 4) : SemX prog 310 [.one (.ptr 0 0), aS (eCmd x_), aI n] [.var (eConfig true c)] [rI (turnB c x_).1] [.var (eConfig true (turnB c x_).2)] := by
 refine goF [(74, ⟨some 1, none, none, none⟩)] [] [] func310 ?_
 obtain ⟨hb, hv, hV⟩ := id hx
 obtain ⟨m_, hfb2, hnl, hnq, hnb⟩ : ∃ m : Nat, findB c.backends x_.name = m ∧ m < c.backends.length ∧ isB x_.name (c.backends.getD m zBackend) = true ∧ ∀ j, j < m → isB x_.name (c.backends.getD j zBackend) = false := idxG_lt zBackend (show ¬ findB c.backends x_.name < 0 by omega)
 obtain rfl : n = m_ := by omega
 have hba : bAt c x_.name = n := by unfold bAt; omega
 have hA := hfb
 refine D ?_
 refine cC (fun c0 => ?_) (fun c0 => ?_)
 · skip
   refine D ?_
   refine E ?_
   have he : turnB c x_ = (0, setB c (bAt c x_.name) { c.backends.getD (bAt c x_.name) zBackend with weight := x_.number }) := by unfold turnB; grind
   
   simp [he, setB, hba, List.map_set, eBackend, List.set_set]
 · skip
   refine D ?_
   refine cC (fun c1 => ?_) (fun c1 => ?_)
   · skip
     refine D ?_
     refine E ?_
     have he : turnB c x_ = (0, setB c (bAt c x_.name) { c.backends.getD (bAt c x_.name) zBackend with stage := x_.number }) := by unfold turnB; grind
     
     simp [he, setB, hba, List.map_set, eBackend, List.set_set]
   · skip
     refine D ?_
     refine cC (fun c2 => ?_) (fun c2 => ?_)
     · skip
       refine D ?_
       refine E ?_
       have he : turnB c x_ = (0, setB c (bAt c x_.name) { c.backends.getD (bAt c x_.name) zBackend with up := decide (x_.number = 1) }) := by unfold turnB; grind
       
       simp [he, setB, hba, List.map_set, eBackend, List.set_set]
     · skip
       refine D ?_
       refine cC (fun c3 => ?_) (fun c3 => ?_)
       · skip
         refine D ?_
         refine E ?_
         have he : turnB c x_ = (10, c) := by unfold turnB; grind
         simp [he]
       · skip
         refine D ?_
         refine kR (s_slices_ContainsFunc_Vip c.vips hv 319 x_ (fun v => hasG (eqI x_.name) v.names) (by kernel_rfl) (fun v h => s_impl_Config_turn_1 v x_ (hV v h))) ?_
         refine D ?_
         refine cC (fun c4 => ?_) (fun c4 => ?_)
         · skip
           refine D ?_
           refine E ?_
           have he : turnB c x_ = (8, c) := by unfold turnB; unfold serves; grind
           simp [he]
         · skip
           refine D ?_
           refine kRk [] [1000002] [] (s_slices_Delete_Backend (c.backends.map eBackend) n (n + 1) (by omega) (by rw [List.length_map]; omega) (by rw [List.length_map]; exact hb) (by rw [← List.map_drop]; exact cpRows_Backend _ _) (by rw [← List.map_take, ← List.map_drop, ← List.map_append]; exact noShR_Backend _)) ?_
           refine D ?_
           refine E ?_
           have he : turnB c x_ = (0, { c with backends := cutG c.backends (bAt c x_.name) }) := by unfold turnB; unfold serves; grind
           
           have hcr : List.take (min n c.backends.length + (c.backends.length - (n + 1))) (List.take n (c.backends.map eBackend) ++ List.drop (n + 1) (c.backends.map eBackend)) = List.take n (c.backends.map eBackend) ++ List.drop (n + 1) (c.backends.map eBackend) := List.take_of_length_le (by simp)
           simp [he, cutG, hba, hcr]
end Go.H
end
section
set_option maxRecDepth 100000
set_option maxHeartbeats 4000000
set_option cbv.maxSteps 4000000
set_option linter.unusedVariables false
set_option linter.unusedSimpArgs false
namespace Go.H
open Go Go.Proofs.Tryz
variable [Inv prog]
theorem s_impl_Config_does (c : Config) (hx1 : limG 2097151 c) (K : CfOk c) (x_ : Cmd) (hkd : 1 ≤ x_.kind ∧ x_.kind ≤ 9) : SemX prog 300 [.one (.ptr 0 0), aS (eCmd x_)] [.var (eConfig true c)] [rI (turned c x_).1] [.var (eConfig true (turned c x_).2)] := by
 refine goF [(210, ⟨some 1, none, none, none⟩)] [(1, 2, [16384], []), (1, 3, [1000000, 1000002, 1000003], []), (1, 6, [16384], []), (1, 8, [16384], []), (1, 10, [16384], []), (1, 11, [1000000, 1000002, 1000003], []), (11, 4, [1000000], []), (11, 6, [16384], []), (11, 8, [16384], []), (11, 10, [16384], []), (11, 12, [], [212992]), (11, 13, [1000002, 212992], [217088, 1000002, 212992]), (11, 16, [1000000], [1000000]), (18, 4, [1000000], []), (18, 6, [16384], []), (18, 8, [16384], []), (18, 10, [16384], []), (18, 12, [], [348160]), (18, 13, [1000003, 348160], [352256, 1000003, 348160]), (18, 16, [1000000], [1000000])] [] func300 ?_
 have hx : limG 2097152 c := limG_mono (by omega) hx1
 obtain ⟨hb, hv, hV⟩ := id hx
 have hk8 := K.b8
 have hk4 := K.v4
 refine D ?_
 refine kD (s_impl_Config_backend c hx x_.name) ?_
 refine D ?_
 refine kD (s_impl_Config_vip c hx x_.addr x_.number x_.proto) ?_
 refine D ?_
 refine cC (fun c0 => ?_) (fun c0 => ?_)
 · skip
   refine D ?_
   refine cC (fun c1 => ?_) (fun c1 => ?_)
   · skip
     refine D ?_
     refine E ?_
     have hin : inR x_.kind 5 8 = false := by simp [inR]; omega
     have he : turned c x_ = (7, c) := by unfold turned; rw [hin]; unfold turnV turnB; grind
     simp [he]
   · skip
     refine D ?_
     refine cC (fun c2 => ?_) (fun c2 => ?_)
     · skip
       refine D ?_
       refine E ?_
       have hin : inR x_.kind 5 8 = false := by simp [inR]; omega
       have he : turned c x_ = (2, c) := by unfold turned; rw [hin]; unfold turnV turnB; grind
       simp [he]
     · skip
       have hpb := (put_b K (x := x_) (show findB c.backends x_.name < 0 by omega))
       have hmb : List.map eBackend c.backends ++ [[T.int .i64 x_.name, T.int .i64 x_.addr, T.int .i64 x_.number, T.int .i64 1, T.bool true]] = List.map eBackend (c.backends ++ [bOf x_]) := by simp [eBackend, bOf]
       have hA := hmb
       refine D ?_
       refine kRk [217088] [] [] (s_slices_SortFunc_Backend c.backends (bOf x_) (preG (ltB x_.name) c.backends) 306 cmpB (by kernel_rfl) s_impl_Config_does_1 (preG_le _ _) (by have := K.b8; omega) hpb.2.1 hpb.2.2.1 hpb.2.2.2) ?_
       refine D ?_
       refine E ?_
       have hin : inR x_.kind 5 8 = false := by simp [inR]; omega
       have he : turned c x_ = (0, { c with backends := putG (ltB x_.name) c.backends (bOf x_) }) := by unfold turned; rw [hin]; unfold turnV turnB; grind
       have htk : ∀ (k : Nat) (V : List T), List.take (c.backends.length + 1) (List.take k (List.map eBackend c.backends) ++ V :: List.drop k (List.map eBackend c.backends)) = List.take k (List.map eBackend c.backends) ++ V :: List.drop k (List.map eBackend c.backends) := fun k V => List.take_of_length_le (by simp; omega)
       simp [he, putG, insAt, bOf, htk]
 · skip
   refine D ?_
   refine cC (fun c3 => ?_) (fun c3 => ?_)
   · skip
     refine D ?_
     refine cC (fun c4 => ?_) (fun c4 => ?_)
     · skip
       refine D ?_
       refine E ?_
       have hin : inR x_.kind 5 8 = true := by simp [inR]; omega
       have he : turned c x_ = (7, c) := by unfold turned; rw [hin]; unfold turnV turnB; grind
       simp [he]
     · skip
       refine D ?_
       refine cC (fun c5 => ?_) (fun c5 => ?_)
       · skip
         refine D ?_
         refine E ?_
         have hin : inR x_.kind 5 8 = true := by simp [inR]; omega
         have he : turned c x_ = (2, c) := by unfold turned; rw [hin]; unfold turnV turnB; grind
         simp [he]
       · skip
         have hpv := (put_v K (x := x_) (show findV c.vips x_.addr x_.number x_.proto < 0 by omega))
         have hmv : List.map (eVip true) c.vips ++ [[T.int .i64 x_.addr, T.int .i64 x_.number, T.int .i64 x_.proto, T.sl true 1 []]] = List.map (eVip true) (c.vips ++ [vOf x_]) := by simp [eVip, vOf]
         have hA := hmv
         refine D ?_
         refine kRk [352256] [] [] (s_slices_SortFunc_Vip c.vips (vOf x_) (preG (ltV (vOf x_)) c.vips) 255 cmpV (by kernel_rfl) s_impl_compareVip_raw (preG_le _ _) (by have := K.v4; omega) hpv.2.1 hpv.2.2.1 hpv.2.2.2) ?_
         refine D ?_
         refine E ?_
         have hin : inR x_.kind 5 8 = true := by simp [inR]; omega
         have he : turned c x_ = (0, { c with vips := putG (ltV (vOf x_)) c.vips (vOf x_) }) := by unfold turned; rw [hin]; unfold turnV turnB; grind
         have htk : ∀ (k : Nat) (V : List T), List.take (c.vips.length + 1) (List.take k (List.map (eVip true) c.vips) ++ V :: List.drop k (List.map (eVip true) c.vips)) = List.take k (List.map (eVip true) c.vips) ++ V :: List.drop k (List.map (eVip true) c.vips) := fun k V => List.take_of_length_le (by simp; omega)
         simp [he, putG, insAt, vOf, htk]
   · skip
     refine D ?_
     refine cC (fun c6 => ?_) (fun c6 => ?_)
     · skip
       refine D ?_
       refine cC (fun c7 => ?_) (fun c7 => ?_)
       · skip
         refine D ?_
         refine E ?_
         have hin : inR x_.kind 5 8 = true := by simp [inR]; omega
         have he : turned c x_ = (4, c) := by unfold turned; rw [hin]; unfold turnV turnB; grind
         simp [he]
       · skip
         have hfn : ¬ findV c.vips x_.addr x_.number x_.proto < 0 := by omega
         obtain ⟨n, hfv, hnl, hnq, hnb⟩ : ∃ n : Nat, findV c.vips x_.addr x_.number x_.proto = n ∧ n < c.vips.length ∧ isV x_.addr x_.number x_.proto (c.vips.getD n zVip) = true ∧ ∀ j, j < n → isV x_.addr x_.number x_.proto (c.vips.getD j zVip) = false := idxG_lt zVip hfn
         have hva : vAt c x_ = n := by unfold vAt; omega
         have hnm : (c.vips.getD n zVip).names.length ≤ 2097152 := limV_getD hV n
         have hrs := K.nr n hnl
         have hhi := hasI_eq hrs x_.name
         have hA := hfv
         refine D ?_
         refine kRk [] [1000003] [] (s_slices_Delete_Vip (c.vips.map (eVip true)) n (n + 1) (by omega) (by rw [List.length_map]; omega) (by rw [List.length_map]; exact hv) (by rw [← List.map_drop]; exact cpRows_Vip _ _) (by rw [← List.map_take, ← List.map_drop, ← List.map_append]; exact noShR_Vip _)) ?_
         refine D ?_
         refine E ?_
         have hin : inR x_.kind 5 8 = true := by simp [inR]; omega
         have he : turned c x_ = (0, { c with vips := cutG c.vips (vAt c x_) }) := by unfold turned; rw [hin]; unfold turnV turnB; grind
         have hcr : List.take (min n c.vips.length + (c.vips.length - (n + 1))) (List.take n (c.vips.map (eVip true)) ++ List.drop (n + 1) (c.vips.map (eVip true))) = List.take n (c.vips.map (eVip true)) ++ List.drop (n + 1) (c.vips.map (eVip true)) := List.take_of_length_le (by simp)
         simp [he, cutG, hva, hcr]
     · skip
       refine D ?_
       refine cC (fun c8 => ?_) (fun c8 => ?_)
       · skip
         refine D ?_
         refine cC (fun c9 => ?_) (fun c9 => ?_)
         · skip
           have hkd7 : x_.kind = 7 ∨ x_.kind = 8 := .inl c9
           refine D ?_
           refine kRk [1000000] [] [1000002, 1000003] (s_impl_Config_tie c hx1 K x_ hkd7) ?_
           refine D ?_
           refine E ?_
           have hin : inR x_.kind 5 8 = true := by simp [inR]; omega
           have he : turned c x_ = turnV c x_ := by unfold turned; rw [if_pos hin]
           rw [he]
           exact ⟨rfl, rfl⟩
         · skip
           exfalso
           grind
       · skip
         refine D ?_
         refine cC (fun c9 => ?_) (fun c9 => ?_)
         · skip
           have hkd7 : x_.kind = 7 ∨ x_.kind = 8 := .inr c9
           refine D ?_
           refine kRk [1000000] [] [1000002, 1000003] (s_impl_Config_tie c hx1 K x_ hkd7) ?_
           refine D ?_
           refine E ?_
           have hin : inR x_.kind 5 8 = true := by simp [inR]; omega
           have he : turned c x_ = turnV c x_ := by unfold turned; rw [if_pos hin]
           rw [he]
           exact ⟨rfl, rfl⟩
         · skip
           refine D ?_
           refine cC (fun c10 => ?_) (fun c10 => ?_)
           · skip
             refine D ?_
             refine E ?_
             have hin : inR x_.kind 5 8 = false := by simp [inR]; omega
             have he : turned c x_ = (4, c) := by unfold turned; rw [hin]; unfold turnV turnB; grind
             simp [he]
           · skip
             obtain ⟨n, hfbn⟩ : ∃ n : Nat, findB c.backends x_.name = n := ⟨(findB c.backends x_.name).toNat, by omega⟩
             have hkd4 : x_.kind = 2 ∨ x_.kind = 3 ∨ x_.kind = 9 ∨ x_.kind = 4 := by omega
             have hA := hfbn
             refine D ?_
             refine kRk [1000000] [] [1000002, 1000003] (s_impl_Config_turn c hx K x_ n hfbn hkd4) ?_
             refine D ?_
             refine E ?_
             have hin : inR x_.kind 5 8 = false := by simp [inR]; omega
             have he : turned c x_ = turnB c x_ := by unfold turned; rw [if_neg (by rw [hin]; simp)]
             rw [he]
             exact ⟨rfl, rfl⟩
end Go.H
end
section
set_option maxRecDepth 100000
set_option maxHeartbeats 4000000
set_option cbv.maxSteps 4000000
set_option linter.unusedVariables false
set_option linter.unusedSimpArgs false
namespace Go.H
open Go Go.Proofs.Tryz
variable [Inv prog]
theorem s_impl_apply (c : Config) (hx1 : limG 2097151 c) (K : CfOk c) (x_ : Cmd) (hcf : cmdFault x_ = 0) : SemX prog 289 [aS (eConfig false c), aS (eCmd x_)] [] [.agg (eConfigResult true (applyR c x_))] [] := by
 refine goF [(70, ⟨some 1, none, none, none⟩)] [] [] func289 ?_
 have hx : limG 2097152 c := limG_mono (by omega) hx1
 obtain ⟨hb, hv, hV⟩ := id hx
 have hk9 : 1 ≤ x_.kind ∧ x_.kind ≤ 9 := by
   unfold cmdFault at hcf
   cases h : inR x_.kind 1 9 with
   | false => simp [h] at hcf
   | true => simpa [inR] using h
 have hk0 := K.v0
 have hk1 := K.v1
 have htv := turned_ver c x_
 have hA := htv
 refine D ?_
 refine cC (fun c0 => ?_) (fun c0 => ?_)
 · skip
   refine D ?_
   refine E ?_
   have he : applyR c x_ = badC 3 := by unfold applyR; grind
   simp [he, badC, zConfig]
 · skip
   refine D ?_
   refine cC (fun c1 => ?_) (fun c1 => ?_)
   · skip
     refine D ?_
     refine E ?_
     have he : applyR c x_ = badC 9 := by unfold applyR; grind
     simp [he, badC, zConfig]
   · skip
     refine D ?_
     refine kR (s_impl_Config_copied c hx) ?_
     refine D ?_
     refine kRk [24576] [] [106497, 106498] (s_impl_Config_does c hx1 K x_ hk9) ?_
     refine D ?_
     refine cC (fun c2 => ?_) (fun c2 => ?_)
     · skip
       refine D ?_
       refine E ?_
       have he : applyR c x_ = badC (turned c x_).1 := by unfold applyR; grind
       simp [he, badC, zConfig]
     · skip
       refine D ?_
       refine E ?_
       have he : applyR c x_ = ⟨0, { (turned c x_).2 with version := c.version + 1 }⟩ := by unfold applyR; grind
       simp [he, badC, zConfig]
end Go.H
end
section
set_option maxRecDepth 100000
set_option maxHeartbeats 4000000
set_option cbv.maxSteps 4000000
set_option linter.unusedVariables false
set_option linter.unusedSimpArgs false
namespace Go.H
open Go Go.Proofs.Tryz
variable [Inv prog]
theorem s_impl_ApplyCmd (c : Config) (hx1 : limG 2097151 c) (x_ : Cmd) : SemX prog 275 [aS (eConfig false c), aS (eCmd x_)] [] [.agg (eConfigResult true (applyCmd c x_))] [] := by
 refine goF [] [] [] func275 ?_
 have hx : limG 2097152 c := limG_mono (by omega) hx1
 refine D ?_
 refine kR (s_impl_ConfigFault c hx) ?_
 refine D ?_
 refine cC (fun c0 => ?_) (fun c0 => ?_)
 · skip
   have K := cf_ok c0
   refine D ?_
   refine kR (s_impl_CmdFault x_) ?_
   refine D ?_
   refine cC (fun c1 => ?_) (fun c1 => ?_)
   · skip
     refine D ?_
     refine E ?_
     have he : applyCmd c x_ = badC (cmdFault x_) := by unfold applyCmd; grind
     simp [he, badC, zConfig]
   · skip
     have hcf : cmdFault x_ = 0 := by omega
     refine D ?_
     refine kR (s_impl_apply c hx1 K x_ hcf) ?_
     refine D ?_
     refine E ?_
     have he : applyCmd c x_ = applyR c x_ := by unfold applyCmd; grind
     simp [he, badC, zConfig]
 · skip
   refine D ?_
   refine cC (fun c1 => ?_) (fun c1 => ?_)
   · skip
     refine D ?_
     refine E ?_
     have he : applyCmd c x_ = badC (configFault c) := by unfold applyCmd; grind
     simp [he, badC, zConfig]
   · skip
     exfalso
     grind
end Go.H
end
section
set_option maxRecDepth 100000
set_option maxHeartbeats 4000000
set_option cbv.maxSteps 4000000
set_option linter.unusedVariables false
set_option linter.unusedSimpArgs false
namespace Go.H
open Go Go.Proofs.Tryz
variable [Inv prog]
theorem s_impl_applyAll (c : Config) (h0 : configFault c = 0) (xs : List Cmd) (hl : xs.length ≤ 2097152) : SemX prog 240 [aS (eConfig false c), aT (.sl false 6 (xs.map eCmd))] [] [.agg (eConfigResult true (stepsR xs c))] [] := by
 refine goF [] [] [] func240 ?_
 have hx1 : limG 2097151 c := limG_mono (by omega) (cf_l h0)
 have hx : limG 2097152 c := limG_mono (by omega) (cf_l h0)
 refine D ?_
 refine kR (s_impl_Config_copied c hx) ?_
 refine D ?_
 refine L (α := Nat × Config) (fun p => [(13, .int .i64 p.1)]) (fun p => [(24576, .var [.int .i64 p.2.version, .ref 45057 0 p.2.backends.length, .ref 45058 0 p.2.vips.length]), (45057, .arr ⟨5, p.2.backends.map eBackend, 1, none⟩), (45058, .arr ⟨4, p.2.vips.map (eVip true), 1, none⟩)]) (fun p => xs.length - p.1) (fun p => p.1 ≤ xs.length ∧ configFault p.2 = 0 ∧ stepsR xs c = stepsR (xs.drop p.1) p.2) (0, c) [] (fun x0 hL => ?_) (by simp only [go_sem] <;> and_intros <;> first | with_reducible exact rfl | (first | omega | exact rfl)) (by exact ⟨Nat.zero_le _, h0, rfl⟩)
 obtain ⟨i, d⟩ := x0
 obtain ⟨hi2, hd0, hst⟩ := hL
 try dsimp only at *
 have hd1 : limG 2097151 d := limG_mono (by omega) (cf_l hd0)
 have hdK := cf_ok hd0
 refine D ?_
 refine cC (fun c0 => ?_) (fun c0 => ?_)
 · skip
   have hae : (applyCmd d (xs.getD i zCmd)) = if cmdFault (xs.getD i zCmd) ≠ 0 then badC (cmdFault (xs.getD i zCmd)) else (applyR d (xs.getD i zCmd)) := by unfold applyCmd; rw [if_neg (by omega)]
   refine D ?_
   refine kR (s_impl_ApplyCmd d hd1 (xs.getD i zCmd)) ?_
   refine D ?_
   refine cC (fun c1 => ?_) (fun c1 => ?_)
   · skip
     refine D ?_
     refine E ?_
     have he : stepsR xs c = (applyCmd d (xs.getD i zCmd)) := by
       rw [hst, stepsR_drop (by omega)]
       by_cases h : cmdFault (xs.getD i zCmd) ≠ 0
       · rw [if_pos h, hae, if_pos h]
       · have e : (applyCmd d (xs.getD i zCmd)) = (applyR d (xs.getD i zCmd)) := by rw [hae, if_neg h]
         rw [if_neg h, if_pos (by rw [← e]; omega), e, ← applyR_bad (by rw [← e]; omega)]
     simp [he]
   · skip
     have hc2 : (applyCmd d (xs.getD i zCmd)).code = 0 := by omega
     have hc1 : cmdFault (xs.getD i zCmd) = 0 := by
       rw [hae] at hc2
       split at hc2
       · rename_i h; exact absurd hc2 h
       · omega
     have heq : (applyCmd d (xs.getD i zCmd)) = (applyR d (xs.getD i zCmd)) := by rw [hae, if_neg (by omega)]
     rw [heq] at hc2
     refine D ?_
     refine lp_next (i + 1, (applyCmd d (xs.getD i zCmd)).config) [(45057,81922),(45058,81923)] ?_ ?_ ?_
     · simp only [go_sem] <;> and_intros <;> first | with_reducible exact rfl | (first | with_reducible exact rfl | omega | (simp; done))
     · dsimp only
       rw [heq]
       refine ⟨by omega, p_fault (applyR_p hdK hc1 (by omega)), ?_⟩
       rw [hst, stepsR_drop (by omega), if_neg (by omega), if_neg (by omega)]
     · try dsimp only
       omega
 · skip
   obtain rfl : i = xs.length := by omega
   refine D ?_
   refine E ?_
   have he : stepsR xs c = ⟨0, d⟩ := by rw [hst, stepsR_end]
   simp [he]
end Go.H
end
section
set_option maxRecDepth 100000
set_option maxHeartbeats 4000000
set_option cbv.maxSteps 4000000
set_option linter.unusedVariables false
set_option linter.unusedSimpArgs false
namespace Go.H
open Go Go.Proofs.Tryz
variable [Inv prog]
theorem s_impl_TakeUpdate (w : Watch) (hw : limG 2097152 w.config) (u : Update) (hu : limU 2097152 u) : SemX prog 172 [aS (eWatch false w), aS (eUpdate false u)] [] [.agg (eWatchResult true (takeU w u))] [] := by
 refine goF [] [] [] func172 ?_
 refine D ?_
 refine kR (s_impl_WatchFault w hw) ?_
 refine D ?_
 refine cC (fun c0 => ?_) (fun c0 => ?_)
 · skip
   have hwf : watchFault w = 0 := c0
   refine D ?_
   refine kR (s_impl_UpdateFault u hu) ?_
   refine D ?_
   refine cC (fun c1 => ?_) (fun c1 => ?_)
   · skip
     refine D ?_
     refine E ?_
     have he : takeU w u = badW (updateFault u) := by unfold takeU; grind
     simp [he, badW, zWatch, zConfig]
   · skip
     have huf : updateFault u = 0 := by omega
     refine D ?_
     refine cC (fun c2 => ?_) (fun c2 => ?_)
     · skip
       have hcc : limG 2097152 u.config := limG_mono (by omega) (cf_l (upd_cf huf c2))
       refine D ?_
       refine cC (fun c3 => ?_) (fun c3 => ?_)
       · skip
         refine D ?_
         refine E ?_
         have he : takeU w u = badW 9 := by unfold takeU takeW; grind
         simp [he, badW, zWatch, zConfig]
       · skip
         refine D ?_
         refine kR (s_impl_Config_copied u.config hcc) ?_
         refine D ?_
         refine E ?_
         have he : takeU w u = ⟨0, ⟨true, u.config⟩⟩ := by unfold takeU takeW; grind
         simp [he, badW, zWatch, zConfig]
     · skip
       refine D ?_
       refine cC (fun c4 => ?_) (fun c4 => ?_)
       · skip
         refine D ?_
         refine E ?_
         have he : takeU w u = badW 10 := by unfold takeU takeW; grind
         simp [he, badW, zWatch, zConfig]
       · skip
         refine D ?_
         refine cC (fun c5 => ?_) (fun c5 => ?_)
         · skip
           refine D ?_
           refine E ?_
           have he : takeU w u = badW 9 := by unfold takeU takeW; grind
           simp [he, badW, zWatch, zConfig]
         · skip
           refine D ?_
           refine cC (fun c6 => ?_) (fun c6 => ?_)
           · skip
             refine D ?_
             refine E ?_
             have he : takeU w u = badW 4 := by unfold takeU takeW; grind
             simp [he, badW, zWatch, zConfig]
           · skip
             refine D ?_
             refine kR (s_impl_applyAll w.config (watch_cf hwf) u.cmds hu.2) ?_
             refine D ?_
             refine cC (fun c7 => ?_) (fun c7 => ?_)
             · skip
               refine D ?_
               refine E ?_
               have he : takeU w u = badW (stepsR u.cmds w.config).code := by unfold takeU takeW; grind
               simp [he, badW, zWatch, zConfig]
             · skip
               refine D ?_
               refine E ?_
               have he : takeU w u = ⟨0, ⟨true, (stepsR u.cmds w.config).config⟩⟩ := by unfold takeU takeW; grind
               simp [he, badW, zWatch, zConfig]
 · skip
   refine D ?_
   refine cC (fun c1 => ?_) (fun c1 => ?_)
   · skip
     refine D ?_
     refine E ?_
     have he : takeU w u = badW (watchFault w) := by unfold takeU; grind
     simp [he, badW, zWatch, zConfig]
   · skip
     exfalso
     grind
end Go.H
end
section
set_option maxRecDepth 100000
set_option maxHeartbeats 4000000
set_option cbv.maxSteps 4000000
set_option linter.unusedVariables false
set_option linter.unusedSimpArgs false
namespace Go.H
open Go Go.Proofs.Tryz
variable [Inv prog]
theorem s_impl_install_1 (h : Held) (c : Config) (hx : limG 2097152 c) (P : CfP c) : SemX prog 173 [aS (eHeld h), aT (.ptr [.ptr (eConfig false c)])] [] [rB (!svH c h)] [] := by
 refine goF [] [] [] func173 ?_
 refine D ?_
 refine kR (s_impl_Config_serves c hx P h.flow h.name) ?_
 refine D ?_
 refine E ?_
 first
 | exact trivial
 | simp only [go_sem, svH]
end Go.H
end
section
set_option maxRecDepth 100000
set_option maxHeartbeats 4000000
set_option cbv.maxSteps 4000000
set_option linter.unusedVariables false
set_option linter.unusedSimpArgs false
namespace Go.H
open Go Go.Proofs.Tryz
variable [Inv prog]
section
attribute [local go_sem] badX zMux zWatch zConfig
theorem s_impl_install (m : Mux) (hm : limX 2097152 m) (u : Update) (hu : limU 2097152 u) (hwf : watchFault m.watch = 0) : SemX prog 89 [aS (eMux false m), aS (eUpdate false u)] [] [.agg (eMuxResult true (installW m u))] [] := by
 refine goF [] [] [] func89 ?_
 obtain ⟨hg, ht, htr, hc⟩ := id hm
 refine D ?_
 refine kR (s_impl_TakeUpdate m.watch hg u hu) ?_
 refine D ?_
 refine cC (fun c0 => ?_) (fun c0 => ?_)
 · skip
   refine D ?_
   refine E ?_
   have he : installW m u = badX (takeU m.watch u).code := if_pos (by omega)
   simp [he, badX, zMux, zWatch, zConfig]
 · skip
   have hc0 : (takeU m.watch u).code = 0 := by omega
   have hwc : watchFault (takeU m.watch u).watch = 0 := takeU_ok hwf hc0
   have P2 := watch_p hwc
   have hgl : limG 2097152 (takeU m.watch u).watch.config := limG_mono (by omega) (cf_lim P2)
   have hti := tablesOf_len (takeU m.watch u).watch.config
   have v4 := P2.v4
   refine D ?_
   refine kR (s_impl_Mux_copied m hm) ?_
   refine D ?_
   refine kR (s_impl_Config_tables (takeU m.watch u).watch.config hgl P2) ?_
   refine D ?_
   refine kRk [] [81927] [] (s_slices_DeleteFunc_Held m.cache hc 173 [.ptr (eConfig false (takeU m.watch u).watch.config)] (shr_cfg _) (fun h => !svH (takeU m.watch u).watch.config h) (by kernel_rfl) (fun h _ => s_impl_install_1 h (takeU m.watch u).watch.config hgl P2)) ?_
   refine D ?_
   refine E ?_
   have he : installW m u = ⟨0, 0, 0, [], ⟨m.address, m.now, (takeU m.watch u).watch, tablesOf (takeU m.watch u).watch.config, m.cache.filter (svH (takeU m.watch u).watch.config)⟩⟩ := if_neg (by omega)
   rw [← sv_keep] at he
   simp [he]
end
end Go.H
end
section
set_option maxRecDepth 100000
set_option maxHeartbeats 4000000
set_option cbv.maxSteps 4000000
set_option linter.unusedVariables false
set_option linter.unusedSimpArgs false
namespace Go.H
open Go Go.Proofs.Tryz
variable [Inv prog]
section
attribute [local go_sem] badX zMux zWatch zConfig
theorem s_impl_InstallMux (m : Mux) (hm : limX 2097152 m) (u : Update) (hu : limU 2097152 u) : SemX prog 34 [aS (eMux false m), aS (eUpdate false u)] [] [.agg (eMuxResult true (installM m u))] [] := by
 refine goF [] [] [] func34 ?_
 obtain ⟨hg, ht, htr, hc⟩ := id hm
 refine D ?_
 refine kR (s_impl_MuxFault m hm) ?_
 refine D ?_
 refine cC (fun c0 => ?_) (fun c0 => ?_)
 · skip
   refine D ?_
   refine E ?_
   have he : installM m u = badX (muxFault m) := if_pos (by omega)
   simp [he, badX, zMux, zWatch, zConfig]
 · skip
   refine D ?_
   refine kR (s_impl_install m hm u hu (mux_ok (by omega)).2.1) ?_
   refine D ?_
   refine E ?_
   have he : installM m u = installW m u := if_neg (by omega)
   simp [he]
end
end Go.H
end
section
set_option maxRecDepth 100000
set_option maxHeartbeats 4000000
set_option cbv.maxSteps 4000000
set_option linter.unusedVariables false
set_option linter.unusedSimpArgs false
namespace Go.H
open Go Go.Proofs.Tryz
variable [Inv prog]
theorem s_laws_eqCmd (x : Cmd)  : SemX prog 176 [aS (eCmd x), aS (eCmd x)] [] [rB true] [] := by
 refine goF [] [] [] func176 ?_
 refine D ?_
 refine cF ?_
 refine D ?_
 refine cF ?_
 refine D ?_
 refine cF ?_
 refine D ?_
 refine cF ?_
 refine D ?_
 refine cF ?_
 refine D ?_
 refine cF ?_
 refine D ?_
 exact E trivial
end Go.H
end
section
set_option maxRecDepth 100000
set_option maxHeartbeats 4000000
set_option cbv.maxSteps 4000000
set_option linter.unusedVariables false
set_option linter.unusedSimpArgs false
namespace Go.H
open Go Go.Proofs.Tryz
variable [Inv prog]
theorem s_laws_eqCmdS (xs : List Cmd) (hl : xs.length ≤ 2097152)  : SemX prog 91 [aT (.sl false 6 (xs.map eCmd)), aT (.sl false 6 (xs.map eCmd))] [] [rB true] [] := by
 refine goF [] [] [] func91 ?_
 refine D ?_
 refine cF ?_
 refine D ?_
 refine L (α := Nat) (fun x => [(5, .int .i64 x)]) (fun x => []) (fun x => xs.length - x) (fun x => x ≤ xs.length) 0 [] (fun x hI => ?_)
 refine D ?_
 refine cC (fun c1 => ?_) (fun c1 => ?_)
 · skip
   refine D ?_
   refine kD (s_laws_eqCmd (xs.getD x zCmd)) ?_
   refine D ?_
   refine cF ?_
   refine D ?_
   exact N (x+1) []
 · skip
   refine D ?_
   exact E trivial
end Go.H
end
section
set_option maxRecDepth 100000
set_option maxHeartbeats 4000000
set_option cbv.maxSteps 4000000
set_option linter.unusedVariables false
set_option linter.unusedSimpArgs false
namespace Go.H
open Go Go.Proofs.Tryz
variable [Inv prog]
theorem s_laws_eqUpdate (x : Update) (hx : limU 2097152 x) : SemX prog 35 [aS (eUpdate false x), aS (eUpdate false x)] [] [rB true] [] := by
 refine goF [] [] [] func35 ?_
 refine D ?_
 refine cF ?_
 refine D ?_
 refine cF ?_
 refine D ?_
 refine cF ?_
 refine D ?_
 refine kR (s_laws_eqConfig x.config hx.1) ?_
 refine D ?_
 refine cF ?_
 refine D ?_
 refine kR (s_laws_eqCmdS x.cmds hx.2) ?_
 refine D ?_
 refine cF ?_
 refine D ?_
 exact E trivial
end Go.H
end
section
set_option maxRecDepth 100000
set_option maxHeartbeats 4000000
set_option cbv.maxSteps 4000000
set_option linter.unusedVariables false
set_option linter.unusedSimpArgs false
namespace Go.H
open Go Go.Proofs.Tryz
variable [Inv prog]
section
attribute [local go_sem] List.set_set mkL_length
theorem s_laws_markCmdS (xs : List Cmd) (k : Int) (hk : 0 ≤ k) (hl : xs.length ≤ 2097152) (hb : mkK sC xs k ≤ 9000000000000000000) : SemX prog 93 [.one (.arr 0), aI k] [.arr 6 (xs.map eCmd)] [rI (mkK sC xs k)] [.arr 6 ((mkL mC sC xs k).map eCmd)] := by
 refine goF [] [] [] func93 ?_
 refine D ?_
 refine L (α := Nat) (fun x => [(1, .int .i64 (mkK sC (xs.take x) k)), (5, .int .i64 x)]) (fun x => [(1000000, .arr ⟨6, (mkL mC sC (xs.take x) k ++ xs.drop x).map eCmd, 1 + 6 * x, none⟩)]) (fun x => xs.length - x) (fun x => x ≤ xs.length) 0 [] (fun x hI => ?_) (by simp only [go_sem] <;> and_intros <;> first | with_reducible exact rfl | (first | omega | (simp [mkL, mkK]; done)))
 refine D ?_
 refine cC (fun c0 => ?_) (fun c0 => ?_)
 · skip
   have hat := mkK_at sC_up zCmd (xs := xs) (i := x) (by omega) hb
   simp only [sC] at hat
   have hg : ∀ r, (((mkL mC sC (xs.take x) k ++ xs.drop x).map eCmd).set x r).getD x dCmd = r := fun r => getD_set_self (by simp [mkL_length]; omega) r _
   have hA := And.intro hg ((mk_getD mC sC zCmd k (show x < xs.length by omega)))
   refine D ?_
   refine lp_next (x+1) [] ?_ ?_ ?_
   · simp only [go_sem, hA] <;> and_intros <;> first | with_reducible exact rfl | (first | omega | (refine int_eq ?_; rw [mkK_succ sC zCmd (by omega)]; rfl) | (refine arr_eq ?_ (by omega); rw [← mk_step eCmd mC sC zCmd (by omega)]; simp only [eCmd, mC]))
   · omega
   · omega
 · skip
   obtain rfl : x = xs.length := by omega
   refine D ?_
   refine E ?_
   first
   | exact trivial
   | simp only [go_sem, List.drop_length, mkL_length]; done
   | try simp only [go_sem, List.drop_length, mkL_length]
     simp [mkL_length]
end
end Go.H
end
section
set_option maxRecDepth 100000
set_option maxHeartbeats 4000000
set_option cbv.maxSteps 4000000
set_option linter.unusedVariables false
set_option linter.unusedSimpArgs false
namespace Go.H
open Go Go.Proofs.Tryz
variable [Inv prog]
theorem s_laws_markUpdate (x : Update) (hx : limU 2097152 x) (k : Int) (hk : 0 ≤ k) (hb : sU x k ≤ 9000000000000000000) : SemX prog 36 [.agg [.t (.int .i64 x.from_), .t (.int .i64 x.to_), .t (.bool x.full), .t (.int .i64 x.config.version), .arr 0, .arr 1, .arr 2], aI k] [.arr 5 (x.config.backends.map eBackend), .arr 4 (x.config.vips.map (eVip true)), .arr 6 (x.cmds.map eCmd)] [rI (sU x k)] [.arr 5 ((mG x.config k).backends.map eBackend), .arr 4 ((mG x.config k).vips.map (eVip true)), .arr 6 ((mU x k).cmds.map eCmd)] := by
 refine goF [] [] [] func36 ?_
 simp only [sU] at hb
 have u1 := Int.le_trans (mkK_mono sC_up _ _) hb
 have v1 := sG_up x.config k
 have v2 := mkK_mono sC_up x.cmds (sG x.config k)
 refine D ?_
 refine kRk [1000000, 1001000] [] [] (s_laws_markConfig x.config hx.1 k hk u1) ?_
 refine D ?_
 refine kRk [1002000] [] [] (s_laws_markCmdS x.cmds _ (by omega) hx.2 hb) ?_
 refine D ?_
 refine E ?_
 first
 | exact trivial
 | simp only [go_sem, mU, mG, sU, mkL_length]
end Go.H
end
section
set_option maxRecDepth 100000
set_option maxHeartbeats 4000000
set_option cbv.maxSteps 4000000
set_option linter.unusedVariables false
set_option linter.unusedSimpArgs false
namespace Go.H
open Go Go.Proofs.Tryz
variable [Inv prog]
section
attribute [local go_sem] mX mXR mU mG mkL_length mkL_take
theorem s_laws_FnExactInstallMux (m : Mux) (hq : qMux m) (u : Update) (hb2 : u.config.backends.length ≤ 9223372036854775807) (hv2 : u.config.vips.length ≤ 9223372036854775807) (hV2 : ∀ i < u.config.vips.length, (u.config.vips.getD i zVip).names.length ≤ 9223372036854775807) (hs : u.cmds.length ≤ 9223372036854775807) : SemX prog 6 [aS (eMux false m), aS (eUpdate false u)] [] [rB true] [] := by
 refine goF [] [(8, 0, [12288], []), (8, 1, [], [106500, 106501, 106502, 106503]), (8, 2, [16384], []), (8, 3, [], [114692, 114693, 114694]), (8, 4, [106500, 106501, 106502, 106503, 114692, 114693, 114694], [118787, 118792, 118793, 118794, 118795]), (8, 5, [], [28672]), (8, 6, [28672], [28672]), (14, 0, [32768], []), (14, 1, [12288], []), (14, 2, [], [176132, 176133, 176134, 176135]), (14, 3, [126980, 126981, 126982, 126983, 176132, 176133, 176134, 176135], []), (16, 0, [36864], []), (16, 1, [16384], []), (16, 2, [], [196612, 196613, 196614]), (16, 3, [135172, 135173, 135174, 196612, 196613, 196614], []), (31, 0, [12288], []), (31, 1, [], [315396, 315397, 315398, 315399]), (31, 2, [16384], []), (31, 3, [], [323588, 323589, 323590]), (31, 4, [315396, 315397, 315398, 315399, 323588, 323589, 323590], [327683, 327688, 327689, 327690, 327691]), (31, 5, [], [57344]), (31, 6, [57344], [57344])] [] func6 ?_
 refine D ?_
 refine kR (s_laws_szMux m 1048576 (by omega) (by omega) hq) ?_
 refine D ?_
 refine cC (fun c0 => ?_) (fun c0 => ?_)
 · skip
   refine D ?_
   exact E trivial
 · skip
   have hz : 0 ≤ szMux m 1048576 := by simp at c0; omega
   have hzl := szMux_lo m 1048576 (by omega)
   have hx0 := szMux_lim hz (by omega)
   have hx : limX 2097152 m := limX_mono (by omega) hx0
   refine D ?_
   refine kR (s_laws_szUpdate u (szMux m 1048576) (by omega) (by omega) hb2 hv2 hV2 hs) ?_
   refine D ?_
   refine cC (fun c1 => ?_) (fun c1 => ?_)
   · skip
     refine D ?_
     exact E trivial
   · skip
     have hz2 : 0 ≤ szUpdate u (szMux m 1048576) := by simp at c1; omega
     have hu0 := szUpdate_lim hz2 (by omega)
     have hu : limU 2097152 u := limU_mono (by omega) hu0
     have hr : limXR 2097152 (installM m u) := installM_lim (by omega) hx u
     have hbr := sXR_bd hr (k := 1) (by omega)
     have hur := sXR_up (installM m u) 1
     have hbx := sX_bd hx (k := 1) (by omega)
     have hux := sX_up m 1
     have hbc := sU_bd hu (k := sX m 1) (by omega)
     have huc := sU_up u (sX m 1)
     refine D ?_
     refine kD (s_laws_toMux m hx) ?_
     refine D ?_
     refine kD (s_laws_toUpdate u hu) ?_
     refine D ?_
     refine kD (s_spec_InstallMux m hx u hu) ?_
     refine D ?_
     refine kR (s_laws_toMux m hx) ?_
     refine D ?_
     refine kR (s_laws_toUpdate u hu) ?_
     refine D ?_
     refine kR (s_impl_InstallMux m hx u hu) ?_
     refine D ?_
     refine kR (s_laws_eqMuxResult (installM m u) hr) ?_
     refine D ?_
     refine cF ?_
     refine D ?_
     refine kD (s_laws_toMux m hx) ?_
     refine D ?_
     refine kD (s_laws_eqMux m hx) ?_
     refine D ?_
     refine cF ?_
     refine D ?_
     refine kD (s_laws_toUpdate u hu) ?_
     refine D ?_
     refine kD (s_laws_eqUpdate u hu) ?_
     refine D ?_
     refine cF ?_
     refine D ?_
     refine kRk [126980, 126981, 126982, 126983] [] [] (s_laws_markMux m hx 1 (by omega) (by omega)) ?_
     refine D ?_
     refine kRk [135172, 135173, 135174] [] [] (s_laws_markUpdate u hu (sX m 1) (by omega) (by omega)) ?_
     refine D ?_
     refine kRg (s_laws_eqMuxResult (installM m u) hr) ?_
     refine D ?_
     refine cC (fun c5 => ?_) (fun c5 => ?_)
     · skip
       exfalso
       revert c5
       simp [-List.getD_eq_getElem?_getD]
       omega
     · skip
       refine D ?_
       refine kRk [147459, 147464, 147465, 147466, 147467] [] [] (s_laws_markMuxResult (installM m u) hr 1 (by omega) (by omega)) ?_
       refine D ?_
       refine kR (s_laws_heldMuxResult (installM m u) hr 1 (by omega) (by omega)) ?_
       refine D ?_
       refine cC (fun c6 => ?_) (fun c6 => ?_)
       · skip
         exfalso
         revert c6
         simp [-List.getD_eq_getElem?_getD]
         omega
       · skip
         refine D ?_
         refine cF ?_
         refine D ?_
         refine kD (s_laws_toMux m hx) ?_
         refine D ?_
         refine kD (s_laws_toUpdate u hu) ?_
         refine D ?_
         refine kD (s_impl_InstallMux m hx u hu) ?_
         refine D ?_
         refine kR (s_laws_eqMuxResult (installM m u) hr) ?_
         refine D ?_
         refine cF ?_
         refine D ?_
         refine kR (s_laws_heldMuxResult (installM m u) hr 1 (by omega) (by omega)) ?_
         refine D ?_
         refine cC (fun c9 => ?_) (fun c9 => ?_)
         · skip
           exfalso
           revert c9
           simp [-List.getD_eq_getElem?_getD]
           omega
         · skip
           refine D ?_
           refine cF ?_
           refine D ?_
           exact E trivial
end
end Go.H
end
