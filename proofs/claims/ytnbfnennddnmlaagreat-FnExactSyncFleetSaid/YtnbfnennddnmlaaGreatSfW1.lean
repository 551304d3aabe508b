/- What the functions that the law reaches compute, each by its code, against pure functions. Conditions: those that each theorem states. -/
import Derived.Test.YtnbfnennddnmlaaGreatQC3
import Derived.ChangeArms
import Derived.DataReads
import Derived.KernelRfl
section
set_option linter.unusedSimpArgs false
set_option linter.unusedVariables false
namespace Go.H
open Go
theorem add_add0 {a : Addr} (hs : a.spot = none) (i j : Nat) : (a.add i).add j = ⟨a.block, a.off + (i + j), none⟩ := by
  obtain ⟨ab, ao, as1⟩ := a
  simp only at hs
  subst hs
  simp only [Addr.add]
  by_cases h1 : i = 0
  · subst h1
    by_cases h2 : j = 0 <;> simp [h2]
  · by_cases h2 : j = 0 <;> simp [h1, h2, Nat.add_assoc]
def okW (w : World) (b : Nat) : Prop := b < w.heap.size
theorem RoL_app {w : World} {ok : Nat → Prop} : ∀ {ts us : List T} {a b : List Value}, RoL w ok ts a → RoL w ok us b → RoL w ok (ts ++ us) (a ++ b)
  | [], us, a, b, h1, h2 => by simp only [RoL] at h1; subst h1; exact h2
  | t :: ts, us, a, b, h1, h2 => by
    simp only [RoL, List.cons_append] at h1 ⊢
    obtain ⟨u, vs, rfl, h3, h4⟩ := h1
    exact ⟨u, vs ++ b, rfl, h3, RoL_app h4 h2⟩
theorem RoL_cat {w : World} {ok : Nat → Prop} {ts us : List T} {cs : List Value} {o n : Nat} (h1 : RoL w ok ts ((cs.drop o).take n)) (h2 : RoL w ok us (cs.drop (o + n))) : RoL w ok (ts ++ us) (cs.drop o) := by
  have := RoL_app h1 h2
  rwa [← List.drop_drop, List.take_append_drop] at this
theorem RoL_end {w : World} {ok : Nat → Prop} {ts : List T} {cs : List Value} {o n : Nat} (h1 : RoL w ok ts ((cs.drop o).take n)) (hl : cs.length = o + n) : RoL w ok ts (cs.drop o) := by
  rwa [List.take_of_length_le (by simp; omega)] at h1
theorem RoRows_snoc {w : World} {ok : Nat → Prop} {sz : Nat} : ∀ {rs : List (List T)} {vs : List Value} {r : List T} {cs : List Value}, RoRows w ok sz rs vs → r.length = sz → RoL w ok r cs → RoRows w ok sz (rs ++ [r]) (vs ++ cs)
  | [], vs, r, cs, h, hl, hr => by
    simp only [RoRows] at h
    subst h
    simp only [List.nil_append, RoRows]
    exact ⟨cs, [], by simp, hl, hr, rfl⟩
  | x :: rs, vs, r, cs, h, hl, hr => by
    simp only [RoRows, List.cons_append] at h ⊢
    obtain ⟨a, b, rfl, h1, h2, h3⟩ := h
    exact ⟨a, b ++ cs, by simp, h1, h2, RoRows_snoc h3 hl hr⟩
section
variable {H : Type} {enc : TypeId × Value → H} {P : Program} {w : World} {base : Nat} {spare : Nat → Bool} {held : Bool}
theorem sl_of {α : Type} (f : α → List T) (q : α → Prop) (sz : Nat) {t e : TypeId} (ht : P.underlying t = some (.slice e)) (hsz : P.cellsOf e = sz) (hf : ∀ x, (f x).length = sz) (hpos : sz ≠ 0)
    (hel : ∀ n cs d, DataW.trod enc P w base spare held n e cs = some d → ∃ x, RoL w (okW w) (f x) cs ∧ q x) {fuel : Nat} {cs : List Value} {x : DataW H × List MemPlace} (h : DataW.trod enc P w base spare held fuel t cs = some x) :
    ∃ xs : List α, RoL w (okW w) [.sl false sz (xs.map f)] cs ∧ xs.length ≤ 9223372036854775807 ∧ ∀ y ∈ xs, q y := by
  rcases DataW.trod_slice ht h with ⟨rfl, _⟩ | ⟨a, len, cap, elems, rest, n, _, rfl, _, hb, hl, hm, hlen, he, _, _⟩
  · refine ⟨[], ?_, by simp, by simp⟩
    simp only [RoL, RoT, List.map_nil, List.length_nil]
    exact ⟨_, [], rfl, ⟨none, 0, [], rfl, Nat.le_refl _, Nat.zero_le _, by simp only [RoRows], fun h => absurd rfl h⟩, rfl⟩
  · rw [hsz] at he
    have one : ∀ i, i < len → ∃ csi x, w.cells? base (a.add (i * sz)) sz = some csi ∧ RoL w (okW w) (f x) csi ∧ q x := by
      intro i hi
      have h1 := he i hi
      rw [List.getElem?_eq_getElem (by omega)] at h1
      obtain ⟨csi, h2, h3⟩ := Option.bind_eq_some_iff.1 h1
      obtain ⟨x, h4, h5⟩ := hel n csi _ h3
      exact ⟨csi, x, h2, h4, h5⟩
    have spot : 0 < len → a.spot = none ∧ a.block < w.heap.size := by
      intro h0
      obtain ⟨csi, x, h1, h2, _⟩ := one 0 h0
      obtain ⟨_, h3, h4⟩ := World.cells?_some h1
      have h5 := h4 0 (by omega)
      rw [List.getElem?_eq_getElem (by omega)] at h5
      simp only [Nat.zero_mul, Addr.add, if_true] at h5
      unfold World.cell? at h5
      split at h5
      · rename_i hh
        split at h5
        · cases h5
        · rename_i hs
          refine ⟨by simpa using hs, ?_⟩
          exact (Array.getElem?_eq_some_iff.1 hh).1
      · cases h5
    have all : ∀ k, k ≤ len → ∃ xs : List α, xs.length = k ∧ (∀ y ∈ xs, q y) ∧ ∃ vs : List Value, RoRows w (okW w) sz (xs.map f) vs ∧ ∀ j u, vs[j]? = some u → w.cell? ⟨a.block, a.off + j, none⟩ = some u := by
      intro k
      induction k with
      | zero => exact fun _ => ⟨[], rfl, by simp, [], by simp only [List.map_nil, RoRows], by simp⟩
      | succ k ih =>
        intro hk
        obtain ⟨xs, h1, h2, vs, h3, h4⟩ := ih (by omega)
        obtain ⟨csi, x, h5, h6, h7⟩ := one k (by omega)
        obtain ⟨_, h8, h9⟩ := World.cells?_some h5
        have hvl := h3.length
        rw [List.length_map, h1] at hvl
        refine ⟨xs ++ [x], by simp [h1], fun y hy => ?_, vs ++ csi, by rw [List.map_append]; exact RoRows_snoc h3 (hf x) h6, fun j u hj => ?_⟩
        · rcases List.mem_append.1 hy with hy | hy
          · exact h2 y hy
          · simp only [List.mem_singleton] at hy
            subst hy
            exact h7
        · by_cases hjv : j < vs.length
          · rw [List.getElem?_append_left hjv] at hj
            exact h4 j u hj
          · rw [List.getElem?_append_right (by omega)] at hj
            obtain ⟨hj2, _⟩ := List.getElem?_eq_some_iff.1 hj
            have h10 := h9 (j - vs.length) (by omega)
            rw [hj] at h10
            have hsp := (spot (by omega)).1
            have hjj : k * sz + (j - vs.length) = j := by rw [← hvl]; exact Nat.add_sub_cancel' (Nat.le_of_not_lt hjv)
            have e : (a.add (k * sz)).add (j - vs.length) = ⟨a.block, a.off + j, none⟩ := by rw [add_add0 hsp, hjj]
            rw [e] at h10
            exact h10
    obtain ⟨xs, h1, h2, vs, h3, h4⟩ := all len (Nat.le_refl _)
    refine ⟨xs, ?_, by rw [h1]; have : cap ≤ 9223372036854775807 := hm; omega, h2⟩
    simp only [RoL]
    refine ⟨_, [], rfl, ?_, rfl⟩
    simp only [RoT, List.length_map]
    refine ⟨some a, cap, vs, by rw [h1], by omega, hm, h3, fun hne => ?_⟩
    have h0 : 0 < len := by
      rcases Nat.eq_zero_or_pos len with e | e
      · rw [e] at h1
        have : xs = [] := List.length_eq_zero_iff.1 h1
        subst this
        exact absurd rfl hne
      · exact e
    obtain ⟨s1, s2⟩ := spot h0
    refine ⟨a.block, a.off, ?_, s2, s2, h4⟩
    obtain ⟨ab, ao, as1⟩ := a
    simp only at s1
    subst s1
    rfl
theorem int_of {t : TypeId} (ht : P.underlying t = some (.int .i64)) {fuel : Nat} {cs : List Value} {x : DataW H × List MemPlace} (h : DataW.trod enc P w base spare held fuel t cs = some x) : ∃ n : Int, RoL w (okW w) [.int .i64 n] cs := by
  obtain ⟨n, rfl, _⟩ := DataW.trod_int ht h
  exact ⟨n, by simp only [RoL, RoT]; exact ⟨_, [], rfl, rfl, rfl⟩⟩
theorem bool_of {t : TypeId} (ht : P.underlying t = some .bool) {fuel : Nat} {cs : List Value} {x : DataW H × List MemPlace} (h : DataW.trod enc P w base spare held fuel t cs = some x) : ∃ n : Bool, RoL w (okW w) [.bool n] cs := by
  obtain ⟨n, rfl, _⟩ := DataW.trod_bool ht h
  exact ⟨n, by simp only [RoL, RoT]; exact ⟨_, [], rfl, rfl, rfl⟩⟩
theorem fld_of {fs : Array Field} {n : Nat} {cs : List Value} {xs : List (DataW H × List MemPlace)} (hf : ∀ (i : Nat) (f : Field), fs[i]? = some f → DataW.trod enc P w base spare held n f.type ((cs.drop f.offset).take (P.cellsOf f.type)) = xs[i]?) (hl : xs.length = fs.size) (i : Nat) {f : Field} (hi : fs[i]? = some f) :
    ∃ d, DataW.trod enc P w base spare held n f.type ((cs.drop f.offset).take (P.cellsOf f.type)) = some d := by
  have h1 := hf i f hi
  obtain ⟨h2, _⟩ := Array.getElem?_eq_some_iff.1 hi
  rw [List.getElem?_eq_getElem (by omega)] at h1
  exact ⟨_, h1⟩
end
def allRo : List T → Bool
  | [] => true
  | t :: ts => !t.isOwn && allRo ts
theorem CRepL_ro {w : World} {fz : Nat → Prop} {hs : List Value} : ∀ {ts : List T} {vs : List Value}, RoL w fz ts vs → allRo ts = true → CRepL w fz hs (ts.map C.t) (fun _ => False) vs
  | [], vs, h, _ => by simpa only [RoL, List.map_nil, CRepL] using h
  | t :: ts, vs, h, hr => by
    simp only [RoL] at h
    obtain ⟨u, us, rfl, h1, h2⟩ := h
    simp only [allRo, Bool.and_eq_true, Bool.not_eq_true'] at hr
    simp only [List.map_cons, CRepL, CRep]
    exact ⟨u, us, fun _ => False, fun _ => False, rfl, fun _ h => h.elim, fun _ h => h, roOwn (fun sz rows e => by rw [e] at hr; simp [T.isOwn] at hr) h1, CRepL_ro h2 hr.2⟩
end Go.H
end
section
set_option maxRecDepth 100000
set_option linter.unusedVariables false
set_option linter.unusedSimpArgs false
namespace Go.H
open Go Go.Proofs.Tryz
section
variable {H : Type} {enc : TypeId × Value → H} {w : World} {base : Nat} {spare : Nat → Bool} {held : Bool}
theorem cells31 : prog.cellsOf 31 = 8 := by kernel_rfl
theorem cells2 : prog.cellsOf 2 = 1 := by kernel_rfl
theorem cells27 : prog.cellsOf 27 = 4 := by kernel_rfl
theorem cells4 : prog.cellsOf 4 = 1 := by kernel_rfl
theorem cells25 : prog.cellsOf 25 = 3 := by kernel_rfl
theorem cells275 : prog.cellsOf 275 = 5 := by kernel_rfl
theorem cells22 : prog.cellsOf 22 = 1 := by kernel_rfl
theorem cells266 : prog.cellsOf 266 = 4 := by kernel_rfl
theorem cells170 : prog.cellsOf 170 = 1 := by kernel_rfl
theorem cells23 : prog.cellsOf 23 = 1 := by kernel_rfl
theorem cells28 : prog.cellsOf 28 = 1 := by kernel_rfl
theorem cells180 : prog.cellsOf 180 = 7 := by kernel_rfl
theorem cells178 : prog.cellsOf 178 = 5 := by kernel_rfl
theorem cells29 : prog.cellsOf 29 = 1 := by kernel_rfl
theorem cells60 : prog.cellsOf 60 = 2 := by kernel_rfl
theorem cells85 : prog.cellsOf 85 = 9 := by kernel_rfl
theorem cells83 : prog.cellsOf 83 = 6 := by kernel_rfl
theorem cells57 : prog.cellsOf 57 = 1 := by kernel_rfl
theorem cells58 : prog.cellsOf 58 = 1 := by kernel_rfl
theorem of_275 {fuel : Nat} {cs : List Value} {d : DataW H × List MemPlace} (h : DataW.trod enc prog w base spare held fuel 275 cs = some d) : ∃ x : Backend, RoL w (okW w) (eBackend x) cs ∧ (fun _ => True) x := by
  obtain ⟨xs, n, rfl, _, hl, hxl, hf⟩ := DataW.trod_struct underlying275 h
  rw [cells275] at hl
  obtain ⟨_, h0⟩ : ∃ d, DataW.trod enc prog w base spare held n 2 ((cs.drop 0).take (prog.cellsOf 2)) = some d := fld_of hf hxl 0 rfl
  rw [cells2] at h0
  obtain ⟨x0, r0⟩ := int_of underlying2 h0
  obtain ⟨_, h1⟩ : ∃ d, DataW.trod enc prog w base spare held n 2 ((cs.drop 1).take (prog.cellsOf 2)) = some d := fld_of hf hxl 1 rfl
  rw [cells2] at h1
  obtain ⟨x1, r1⟩ := int_of underlying2 h1
  obtain ⟨_, h2⟩ : ∃ d, DataW.trod enc prog w base spare held n 2 ((cs.drop 2).take (prog.cellsOf 2)) = some d := fld_of hf hxl 2 rfl
  rw [cells2] at h2
  obtain ⟨x2, r2⟩ := int_of underlying2 h2
  obtain ⟨_, h3⟩ : ∃ d, DataW.trod enc prog w base spare held n 2 ((cs.drop 3).take (prog.cellsOf 2)) = some d := fld_of hf hxl 3 rfl
  rw [cells2] at h3
  obtain ⟨x3, r3⟩ := int_of underlying2 h3
  obtain ⟨_, h4⟩ : ∃ d, DataW.trod enc prog w base spare held n 4 ((cs.drop 4).take (prog.cellsOf 4)) = some d := fld_of hf hxl 4 rfl
  rw [cells4] at h4
  obtain ⟨x4, r4⟩ := bool_of underlying4 h4
  refine ⟨⟨x0, x1, x2, x3, x4⟩, ?_, trivial⟩
  exact (RoL_cat (o := 0) (n := 1) r0 (RoL_cat (o := 1) (n := 1) r1 (RoL_cat (o := 2) (n := 1) r2 (RoL_cat (o := 3) (n := 1) r3 (RoL_end (o := 4) (n := 1) r4 hl)))))
theorem of_266 {fuel : Nat} {cs : List Value} {d : DataW H × List MemPlace} (h : DataW.trod enc prog w base spare held fuel 266 cs = some d) : ∃ x : Vip, RoL w (okW w) (eVip false x) cs ∧ qVip x := by
  obtain ⟨xs, n, rfl, _, hl, hxl, hf⟩ := DataW.trod_struct underlying266 h
  rw [cells266] at hl
  obtain ⟨_, h0⟩ : ∃ d, DataW.trod enc prog w base spare held n 2 ((cs.drop 0).take (prog.cellsOf 2)) = some d := fld_of hf hxl 0 rfl
  rw [cells2] at h0
  obtain ⟨x0, r0⟩ := int_of underlying2 h0
  obtain ⟨_, h1⟩ : ∃ d, DataW.trod enc prog w base spare held n 2 ((cs.drop 1).take (prog.cellsOf 2)) = some d := fld_of hf hxl 1 rfl
  rw [cells2] at h1
  obtain ⟨x1, r1⟩ := int_of underlying2 h1
  obtain ⟨_, h2⟩ : ∃ d, DataW.trod enc prog w base spare held n 2 ((cs.drop 2).take (prog.cellsOf 2)) = some d := fld_of hf hxl 2 rfl
  rw [cells2] at h2
  obtain ⟨x2, r2⟩ := int_of underlying2 h2
  obtain ⟨_, h3⟩ : ∃ d, DataW.trod enc prog w base spare held n 170 ((cs.drop 3).take (prog.cellsOf 170)) = some d := fld_of hf hxl 3 rfl
  rw [cells170] at h3
  obtain ⟨x3, r3, l3, q3⟩ := sl_of eI_i64 (fun _ => True) 1 underlying170 cells2 (fun _ => rfl) (by decide) (fun n cs d h => by obtain ⟨x, hx⟩ := int_of underlying2 h; exact ⟨x, hx, trivial⟩) h3
  refine ⟨⟨x0, x1, x2, x3⟩, ?_, l3⟩
  exact (RoL_cat (o := 0) (n := 1) r0 (RoL_cat (o := 1) (n := 1) r1 (RoL_cat (o := 2) (n := 1) r2 (RoL_end (o := 3) (n := 1) r3 hl))))
theorem of_25 {fuel : Nat} {cs : List Value} {d : DataW H × List MemPlace} (h : DataW.trod enc prog w base spare held fuel 25 cs = some d) : ∃ x : Config, RoL w (okW w) (eConfig false x) cs ∧ qConfig x := by
  obtain ⟨xs, n, rfl, _, hl, hxl, hf⟩ := DataW.trod_struct underlying25 h
  rw [cells25] at hl
  obtain ⟨_, h0⟩ : ∃ d, DataW.trod enc prog w base spare held n 2 ((cs.drop 0).take (prog.cellsOf 2)) = some d := fld_of hf hxl 0 rfl
  rw [cells2] at h0
  obtain ⟨x0, r0⟩ := int_of underlying2 h0
  obtain ⟨_, h1⟩ : ∃ d, DataW.trod enc prog w base spare held n 22 ((cs.drop 1).take (prog.cellsOf 22)) = some d := fld_of hf hxl 1 rfl
  rw [cells22] at h1
  obtain ⟨x1, r1, l1, q1⟩ := sl_of eBackend (fun _ => True) 5 underlying22 cells275 (fun _ => rfl) (by decide) (fun n cs d h => of_275 h) h1
  obtain ⟨_, h2⟩ : ∃ d, DataW.trod enc prog w base spare held n 23 ((cs.drop 2).take (prog.cellsOf 23)) = some d := fld_of hf hxl 2 rfl
  rw [cells23] at h2
  obtain ⟨x2, r2, l2, q2⟩ := sl_of (eVip false) qVip 4 underlying23 cells266 (fun _ => rfl) (by decide) (fun n cs d h => of_266 h) h2
  refine ⟨⟨x0, x1, x2⟩, ?_, ⟨l1, ⟨l2, q2⟩⟩⟩
  exact (RoL_cat (o := 0) (n := 1) r0 (RoL_cat (o := 1) (n := 1) r1 (RoL_end (o := 2) (n := 1) r2 hl)))
theorem of_27 {fuel : Nat} {cs : List Value} {d : DataW H × List MemPlace} (h : DataW.trod enc prog w base spare held fuel 27 cs = some d) : ∃ x : Watch, RoL w (okW w) (eWatch false x) cs ∧ qWatch x := by
  obtain ⟨xs, n, rfl, _, hl, hxl, hf⟩ := DataW.trod_struct underlying27 h
  rw [cells27] at hl
  obtain ⟨_, h0⟩ : ∃ d, DataW.trod enc prog w base spare held n 4 ((cs.drop 0).take (prog.cellsOf 4)) = some d := fld_of hf hxl 0 rfl
  rw [cells4] at h0
  obtain ⟨x0, r0⟩ := bool_of underlying4 h0
  obtain ⟨_, h1⟩ : ∃ d, DataW.trod enc prog w base spare held n 25 ((cs.drop 1).take (prog.cellsOf 25)) = some d := fld_of hf hxl 1 rfl
  rw [cells25] at h1
  obtain ⟨x1, r1, q1⟩ := of_25 h1
  refine ⟨⟨x0, x1⟩, ?_, q1⟩
  exact (RoL_cat (o := 0) (n := 1) r0 (RoL_end (o := 1) (n := 3) r1 hl))
theorem of_178 {fuel : Nat} {cs : List Value} {d : DataW H × List MemPlace} (h : DataW.trod enc prog w base spare held fuel 178 cs = some d) : ∃ x : Flow, RoL w (okW w) (eFlow x) cs ∧ (fun _ => True) x := by
  obtain ⟨xs, n, rfl, _, hl, hxl, hf⟩ := DataW.trod_struct underlying178 h
  rw [cells178] at hl
  obtain ⟨_, h0⟩ : ∃ d, DataW.trod enc prog w base spare held n 2 ((cs.drop 0).take (prog.cellsOf 2)) = some d := fld_of hf hxl 0 rfl
  rw [cells2] at h0
  obtain ⟨x0, r0⟩ := int_of underlying2 h0
  obtain ⟨_, h1⟩ : ∃ d, DataW.trod enc prog w base spare held n 2 ((cs.drop 1).take (prog.cellsOf 2)) = some d := fld_of hf hxl 1 rfl
  rw [cells2] at h1
  obtain ⟨x1, r1⟩ := int_of underlying2 h1
  obtain ⟨_, h2⟩ : ∃ d, DataW.trod enc prog w base spare held n 2 ((cs.drop 2).take (prog.cellsOf 2)) = some d := fld_of hf hxl 2 rfl
  rw [cells2] at h2
  obtain ⟨x2, r2⟩ := int_of underlying2 h2
  obtain ⟨_, h3⟩ : ∃ d, DataW.trod enc prog w base spare held n 2 ((cs.drop 3).take (prog.cellsOf 2)) = some d := fld_of hf hxl 3 rfl
  rw [cells2] at h3
  obtain ⟨x3, r3⟩ := int_of underlying2 h3
  obtain ⟨_, h4⟩ : ∃ d, DataW.trod enc prog w base spare held n 2 ((cs.drop 4).take (prog.cellsOf 2)) = some d := fld_of hf hxl 4 rfl
  rw [cells2] at h4
  obtain ⟨x4, r4⟩ := int_of underlying2 h4
  refine ⟨⟨x0, x1, x2, x3, x4⟩, ?_, trivial⟩
  exact (RoL_cat (o := 0) (n := 1) r0 (RoL_cat (o := 1) (n := 1) r1 (RoL_cat (o := 2) (n := 1) r2 (RoL_cat (o := 3) (n := 1) r3 (RoL_end (o := 4) (n := 1) r4 hl)))))
theorem of_180 {fuel : Nat} {cs : List Value} {d : DataW H × List MemPlace} (h : DataW.trod enc prog w base spare held fuel 180 cs = some d) : ∃ x : Held, RoL w (okW w) (eHeld x) cs ∧ (fun _ => True) x := by
  obtain ⟨xs, n, rfl, _, hl, hxl, hf⟩ := DataW.trod_struct underlying180 h
  rw [cells180] at hl
  obtain ⟨_, h0⟩ : ∃ d, DataW.trod enc prog w base spare held n 178 ((cs.drop 0).take (prog.cellsOf 178)) = some d := fld_of hf hxl 0 rfl
  rw [cells178] at h0
  obtain ⟨x0, r0, q0⟩ := of_178 h0
  obtain ⟨_, h1⟩ : ∃ d, DataW.trod enc prog w base spare held n 2 ((cs.drop 5).take (prog.cellsOf 2)) = some d := fld_of hf hxl 1 rfl
  rw [cells2] at h1
  obtain ⟨x1, r1⟩ := int_of underlying2 h1
  obtain ⟨_, h2⟩ : ∃ d, DataW.trod enc prog w base spare held n 2 ((cs.drop 6).take (prog.cellsOf 2)) = some d := fld_of hf hxl 2 rfl
  rw [cells2] at h2
  obtain ⟨x2, r2⟩ := int_of underlying2 h2
  refine ⟨⟨x0, x1, x2⟩, ?_, trivial⟩
  exact (RoL_cat (o := 0) (n := 5) r0 (RoL_cat (o := 5) (n := 1) r1 (RoL_end (o := 6) (n := 1) r2 hl)))
theorem of_31 {fuel : Nat} {cs : List Value} {d : DataW H × List MemPlace} (h : DataW.trod enc prog w base spare held fuel 31 cs = some d) : ∃ x : Mux, RoL w (okW w) (eMux false x) cs ∧ qMux x := by
  obtain ⟨xs, n, rfl, _, hl, hxl, hf⟩ := DataW.trod_struct underlying31 h
  rw [cells31] at hl
  obtain ⟨_, h0⟩ : ∃ d, DataW.trod enc prog w base spare held n 2 ((cs.drop 0).take (prog.cellsOf 2)) = some d := fld_of hf hxl 0 rfl
  rw [cells2] at h0
  obtain ⟨x0, r0⟩ := int_of underlying2 h0
  obtain ⟨_, h1⟩ : ∃ d, DataW.trod enc prog w base spare held n 2 ((cs.drop 1).take (prog.cellsOf 2)) = some d := fld_of hf hxl 1 rfl
  rw [cells2] at h1
  obtain ⟨x1, r1⟩ := int_of underlying2 h1
  obtain ⟨_, h2⟩ : ∃ d, DataW.trod enc prog w base spare held n 27 ((cs.drop 2).take (prog.cellsOf 27)) = some d := fld_of hf hxl 2 rfl
  rw [cells27] at h2
  obtain ⟨x2, r2, q2⟩ := of_27 h2
  obtain ⟨_, h3⟩ : ∃ d, DataW.trod enc prog w base spare held n 28 ((cs.drop 6).take (prog.cellsOf 28)) = some d := fld_of hf hxl 3 rfl
  rw [cells28] at h3
  obtain ⟨x3, r3, l3, q3⟩ := sl_of (eLI_i64 false) (fun y => y.length ≤ 9223372036854775807) 1 underlying28 cells170 (fun _ => rfl) (by decide) (fun n cs d h => by obtain ⟨x, r, l, _⟩ := sl_of eI_i64 (fun _ => True) 1 underlying170 cells2 (fun _ => rfl) (by decide) (fun n cs d h => by obtain ⟨x, hx⟩ := int_of underlying2 h; exact ⟨x, hx, trivial⟩) h; exact ⟨x, r, l⟩) h3
  obtain ⟨_, h4⟩ : ∃ d, DataW.trod enc prog w base spare held n 29 ((cs.drop 7).take (prog.cellsOf 29)) = some d := fld_of hf hxl 4 rfl
  rw [cells29] at h4
  obtain ⟨x4, r4, l4, q4⟩ := sl_of eHeld (fun _ => True) 7 underlying29 cells180 (fun _ => rfl) (by decide) (fun n cs d h => of_180 h) h4
  refine ⟨⟨x0, x1, x2, x3, x4⟩, ?_, ⟨q2, ⟨l3, q3⟩, l4⟩⟩
  exact (RoL_cat (o := 0) (n := 1) r0 (RoL_cat (o := 1) (n := 1) r1 (RoL_cat (o := 2) (n := 4) r2 (RoL_cat (o := 6) (n := 1) r3 (RoL_end (o := 7) (n := 1) r4 hl)))))
theorem of_83 {fuel : Nat} {cs : List Value} {d : DataW H × List MemPlace} (h : DataW.trod enc prog w base spare held fuel 83 cs = some d) : ∃ x : Cmd, RoL w (okW w) (eCmd x) cs ∧ (fun _ => True) x := by
  obtain ⟨xs, n, rfl, _, hl, hxl, hf⟩ := DataW.trod_struct underlying83 h
  rw [cells83] at hl
  obtain ⟨_, h0⟩ : ∃ d, DataW.trod enc prog w base spare held n 2 ((cs.drop 0).take (prog.cellsOf 2)) = some d := fld_of hf hxl 0 rfl
  rw [cells2] at h0
  obtain ⟨x0, r0⟩ := int_of underlying2 h0
  obtain ⟨_, h1⟩ : ∃ d, DataW.trod enc prog w base spare held n 2 ((cs.drop 1).take (prog.cellsOf 2)) = some d := fld_of hf hxl 1 rfl
  rw [cells2] at h1
  obtain ⟨x1, r1⟩ := int_of underlying2 h1
  obtain ⟨_, h2⟩ : ∃ d, DataW.trod enc prog w base spare held n 2 ((cs.drop 2).take (prog.cellsOf 2)) = some d := fld_of hf hxl 2 rfl
  rw [cells2] at h2
  obtain ⟨x2, r2⟩ := int_of underlying2 h2
  obtain ⟨_, h3⟩ : ∃ d, DataW.trod enc prog w base spare held n 2 ((cs.drop 3).take (prog.cellsOf 2)) = some d := fld_of hf hxl 3 rfl
  rw [cells2] at h3
  obtain ⟨x3, r3⟩ := int_of underlying2 h3
  obtain ⟨_, h4⟩ : ∃ d, DataW.trod enc prog w base spare held n 2 ((cs.drop 4).take (prog.cellsOf 2)) = some d := fld_of hf hxl 4 rfl
  rw [cells2] at h4
  obtain ⟨x4, r4⟩ := int_of underlying2 h4
  obtain ⟨_, h5⟩ : ∃ d, DataW.trod enc prog w base spare held n 2 ((cs.drop 5).take (prog.cellsOf 2)) = some d := fld_of hf hxl 5 rfl
  rw [cells2] at h5
  obtain ⟨x5, r5⟩ := int_of underlying2 h5
  refine ⟨⟨x0, x1, x2, x3, x4, x5⟩, ?_, trivial⟩
  exact (RoL_cat (o := 0) (n := 1) r0 (RoL_cat (o := 1) (n := 1) r1 (RoL_cat (o := 2) (n := 1) r2 (RoL_cat (o := 3) (n := 1) r3 (RoL_cat (o := 4) (n := 1) r4 (RoL_end (o := 5) (n := 1) r5 hl))))))
theorem of_85 {fuel : Nat} {cs : List Value} {d : DataW H × List MemPlace} (h : DataW.trod enc prog w base spare held fuel 85 cs = some d) : ∃ x : Entry, RoL w (okW w) (eEntry x) cs ∧ (fun _ => True) x := by
  obtain ⟨xs, n, rfl, _, hl, hxl, hf⟩ := DataW.trod_struct underlying85 h
  rw [cells85] at hl
  obtain ⟨_, h0⟩ : ∃ d, DataW.trod enc prog w base spare held n 2 ((cs.drop 0).take (prog.cellsOf 2)) = some d := fld_of hf hxl 0 rfl
  rw [cells2] at h0
  obtain ⟨x0, r0⟩ := int_of underlying2 h0
  obtain ⟨_, h1⟩ : ∃ d, DataW.trod enc prog w base spare held n 2 ((cs.drop 1).take (prog.cellsOf 2)) = some d := fld_of hf hxl 1 rfl
  rw [cells2] at h1
  obtain ⟨x1, r1⟩ := int_of underlying2 h1
  obtain ⟨_, h2⟩ : ∃ d, DataW.trod enc prog w base spare held n 2 ((cs.drop 2).take (prog.cellsOf 2)) = some d := fld_of hf hxl 2 rfl
  rw [cells2] at h2
  obtain ⟨x2, r2⟩ := int_of underlying2 h2
  obtain ⟨_, h3⟩ : ∃ d, DataW.trod enc prog w base spare held n 83 ((cs.drop 3).take (prog.cellsOf 83)) = some d := fld_of hf hxl 3 rfl
  rw [cells83] at h3
  obtain ⟨x3, r3, q3⟩ := of_83 h3
  refine ⟨⟨x0, x1, x2, x3⟩, ?_, trivial⟩
  exact (RoL_cat (o := 0) (n := 1) r0 (RoL_cat (o := 1) (n := 1) r1 (RoL_cat (o := 2) (n := 1) r2 (RoL_end (o := 3) (n := 6) r3 hl))))
theorem of_60 {fuel : Nat} {cs : List Value} {d : DataW H × List MemPlace} (h : DataW.trod enc prog w base spare held fuel 60 cs = some d) : ∃ x : Fleet, RoL w (okW w) (eFleet false x) cs ∧ qFleet x := by
  obtain ⟨xs, n, rfl, _, hl, hxl, hf⟩ := DataW.trod_struct underlying60 h
  rw [cells60] at hl
  obtain ⟨_, h0⟩ : ∃ d, DataW.trod enc prog w base spare held n 57 ((cs.drop 0).take (prog.cellsOf 57)) = some d := fld_of hf hxl 0 rfl
  rw [cells57] at h0
  obtain ⟨x0, r0, l0, q0⟩ := sl_of eEntry (fun _ => True) 9 underlying57 cells85 (fun _ => rfl) (by decide) (fun n cs d h => of_85 h) h0
  obtain ⟨_, h1⟩ : ∃ d, DataW.trod enc prog w base spare held n 58 ((cs.drop 1).take (prog.cellsOf 58)) = some d := fld_of hf hxl 1 rfl
  rw [cells58] at h1
  obtain ⟨x1, r1, l1, q1⟩ := sl_of (eMux false) qMux 8 underlying58 cells31 (fun _ => rfl) (by decide) (fun n cs d h => of_31 h) h1
  refine ⟨⟨x0, x1⟩, ?_, ⟨l0, ⟨l1, q1⟩⟩⟩
  exact (RoL_cat (o := 0) (n := 1) r0 (RoL_end (o := 1) (n := 1) r1 hl))
end
end Go.H
end
section
set_option maxRecDepth 100000
set_option maxHeartbeats 4000000
set_option cbv.maxSteps 4000000
set_option linter.unusedVariables false
set_option linter.unusedSimpArgs false
namespace Go.H
open Go Go.Proofs.Tryz
variable [Inv prog]
section
attribute [local go_sem] badX zMux zWatch zConfig
theorem s_spec_l14Bad (k : Int) : SemX prog 56 [aI k] [] [.agg (eMuxResult true (badX k))] [] := by
 refine goF [] [] [] func56 ?_
 refine D ?_
 exact E trivial
end
theorem s_spec_l13Steps (c : Config) (h0 : configFault c = 0) (xs : List Cmd) (hl : xs.length ≤ 2097152) : SemX prog 235 [aS (eConfig false c), aT (.sl false 6 (xs.map eCmd))] [] [.agg (eConfigResult true (stepsR xs c))] [] := by
 refine goF [] [(8, 1, [24576], []), (8, 6, [40961, 40962], [135170, 135171]), (8, 7, [24576], [24576])] [] func235 ?_
 have hx1 : limG 2097151 c := limG_mono (by omega) (cf_l h0)
 have hx : limG 2097152 c := limG_mono (by omega) (cf_l h0)
 refine D ?_
 refine kR (s_spec_l5Copy c hx) ?_
 refine D ?_
 refine L (α := Nat × Config) (fun p => [(6, .int .i64 p.1)]) (fun p => [(24576, .var [.int .i64 0, .int .i64 p.2.version, .ref 40961 0 p.2.backends.length, .ref 40962 0 p.2.vips.length]), (40961, .arr ⟨5, p.2.backends.map eBackend, 1, none⟩), (40962, .arr ⟨4, p.2.vips.map (eVip true), 1, none⟩)]) (fun p => xs.length - p.1) (fun p => p.1 ≤ xs.length ∧ configFault p.2 = 0 ∧ stepsR xs c = stepsR (xs.drop p.1) p.2) (0, c) [] (fun x0 hL => ?_) (by simp only [go_sem] <;> and_intros <;> first | with_reducible exact rfl | (first | omega | exact rfl)) (by exact ⟨Nat.zero_le _, h0, rfl⟩)
 obtain ⟨i, d⟩ := x0
 obtain ⟨hi2, hd0, hst⟩ := hL
 try dsimp only at *
 have hd1 : limG 2097151 d := limG_mono (by omega) (cf_l hd0)
 have hdK := cf_ok hd0
 refine D ?_
 refine cC (fun c0 => ?_) (fun c0 => ?_)
 · skip
   refine D ?_
   refine kR (s_spec_CmdFault (xs.getD i zCmd)) ?_
   refine D ?_
   refine cC (fun c1 => ?_) (fun c1 => ?_)
   · skip
     refine D ?_
     refine E ?_
     have he : stepsR xs c = badC (cmdFault (xs.getD i zCmd)) := by rw [hst, stepsR_drop (by omega), if_pos (by omega)]
     simp [he, badC, zConfig]
   · skip
     have hc1 : cmdFault (xs.getD i zCmd) = 0 := by omega
     refine D ?_
     refine kD (s_spec_l5Apply d hd1 hdK (xs.getD i zCmd) hc1) ?_
     refine D ?_
     refine cC (fun c2 => ?_) (fun c2 => ?_)
     · skip
       refine D ?_
       refine E ?_
       have he : stepsR xs c = (applyR d (xs.getD i zCmd)) := by rw [hst, stepsR_drop (by omega), if_neg (by omega), if_pos (by omega), ← applyR_bad (by omega)]
       simp [he]
     · skip
       have hc2 : (applyR d (xs.getD i zCmd)).code = 0 := by omega
       have hA := hc2
       refine D ?_
       refine lp_next (i + 1, (applyR d (xs.getD i zCmd)).config) [(40961,135170),(40962,135171)] ?_ ?_ ?_
       · simp only [go_sem, hA] <;> and_intros <;> first | with_reducible exact rfl | (first | with_reducible exact rfl | omega | (simp; done))
       · dsimp only
         refine ⟨by omega, p_fault (applyR_p hdK hc1 (by omega)), ?_⟩
         rw [hst, stepsR_drop (by omega), if_neg (by omega), if_neg (by omega)]
       · try dsimp only
         omega
 · skip
   obtain rfl : i = xs.length := by omega
   refine D ?_
   refine E ?_
   have he : stepsR xs c = ⟨0, d⟩ := by rw [hst, stepsR_end]
   simp [he]
theorem s_spec_l13Take (w : Watch) (u : Update) (hwf : watchFault w = 0) (huf : updateFault u = 0) (hcl : u.cmds.length ≤ 2097152) : SemX prog 168 [aS (eWatch false w), aS (eUpdate false u)] [] [.agg (eWatchResult true (takeW w u))] [] := by
 refine goF [] [] [] func168 ?_
 refine D ?_
 refine cC (fun c0 => ?_) (fun c0 => ?_)
 · skip
   have hcc : limG 2097152 u.config := limG_mono (by omega) (cf_l (upd_cf huf c0))
   refine D ?_
   refine cC (fun c1 => ?_) (fun c1 => ?_)
   · skip
     refine D ?_
     refine E ?_
     have he : takeW w u = badW 9 := by unfold takeW; grind
     simp [he, badW, zWatch, zConfig]
   · skip
     refine D ?_
     refine kR (s_spec_l5Copy u.config hcc) ?_
     refine D ?_
     refine E ?_
     have he : takeW w u = ⟨0, ⟨true, u.config⟩⟩ := by unfold takeW; grind
     simp [he, badW, zWatch, zConfig]
 · skip
   refine D ?_
   refine cC (fun c2 => ?_) (fun c2 => ?_)
   · skip
     refine D ?_
     refine E ?_
     have he : takeW w u = badW 10 := by unfold takeW; grind
     simp [he, badW, zWatch, zConfig]
   · skip
     refine D ?_
     refine cC (fun c3 => ?_) (fun c3 => ?_)
     · skip
       refine D ?_
       refine E ?_
       have he : takeW w u = badW 9 := by unfold takeW; grind
       simp [he, badW, zWatch, zConfig]
     · skip
       refine D ?_
       refine cC (fun c4 => ?_) (fun c4 => ?_)
       · skip
         refine D ?_
         refine E ?_
         have he : takeW w u = badW 4 := by unfold takeW; grind
         simp [he, badW, zWatch, zConfig]
       · skip
         refine D ?_
         refine kR (s_spec_l13Steps w.config (watch_cf hwf) u.cmds hcl) ?_
         refine D ?_
         refine cC (fun c5 => ?_) (fun c5 => ?_)
         · skip
           refine D ?_
           refine E ?_
           have he : takeW w u = badW (stepsR u.cmds w.config).code := by unfold takeW; grind
           simp [he, badW, zWatch, zConfig]
         · skip
           refine D ?_
           refine E ?_
           have he : takeW w u = ⟨0, ⟨true, (stepsR u.cmds w.config).config⟩⟩ := by unfold takeW; grind
           simp [he, badW, zWatch, zConfig]
section
attribute [local go_sem] badX zMux zWatch zConfig
theorem s_spec_l14Install (m : Mux) (hm : limX 2097152 m) (u : Update) (hu : limU 2097152 u) (hwf : watchFault m.watch = 0) (huf : updateFault u = 0) : SemX prog 86 [aS (eMux false m), aS (eUpdate false u)] [] [.agg (eMuxResult true (installW m u))] [] := by
 refine goF [(56, ⟨some 4, some 114688, some (42, true), none⟩)] [(4, 1, [12288], []), (4, 3, [12288], []), (4, 5, [24576], []), (4, 8, [24576, 49155, 49156], [110592]), (4, 9, [], [114695]), (4, 10, [], [28672]), (4, 11, [28672], [28672]), (8, 3, [12288], []), (8, 9, [12288], []), (8, 14, [24576, 49155, 49156], []), (9, 1, [28672], []), (9, 3, [12288], []), (9, 7, [], [237568]), (9, 8, [114695, 237568], [241664, 114695, 237568]), (9, 10, [28672], [28672])] [] func86 ?_
 obtain ⟨hg, ht, htr, hc⟩ := id hm
 have hue := takeU_eq hwf huf
 refine D ?_
 refine kR (s_spec_l13Take m.watch u hwf huf hu.2) ?_
 refine D ?_
 refine cC (fun c0 => ?_) (fun c0 => ?_)
 · skip
   refine D ?_
   refine kR (s_spec_l14Bad _) ?_
   refine D ?_
   refine E ?_
   have he : installW m u = badX (takeW m.watch u).code := by unfold installW; rw [hue, if_pos (by omega)]
   simp [he, badX, zMux, zWatch, zConfig]
 · skip
   have hc0 : (takeW m.watch u).code = 0 := by omega
   have hwc : watchFault (takeW m.watch u).watch = 0 := takeW_cf hwf huf hc0
   have P2 := watch_p hwc
   have hgl : limG 2097152 (takeW m.watch u).watch.config := limG_mono (by omega) (cf_lim P2)
   have hti := tablesOf_len (takeW m.watch u).watch.config
   have v4 := P2.v4
   refine D ?_
   refine kD (s_spec_l14Tables (takeW m.watch u).watch.config hgl P2) ?_
   refine D ?_
   refine L (α := Nat) (fun i => [(7, .int .i64 i)]) (fun i => [(28672, .var [.int .i64 m.address, .int .i64 m.now, .bool (takeW m.watch u).watch.ready, .int .i64 (takeW m.watch u).watch.config.version, .ref 49155 0 (takeW m.watch u).watch.config.backends.length, .ref 49156 0 (takeW m.watch u).watch.config.vips.length, .ref 110592 0 (tablesOf (takeW m.watch u).watch.config).length, .ref 114695 0 ((m.cache.take i).filter (svH (takeW m.watch u).watch.config)).length]), (114695, .arr ⟨7, ((m.cache.take i).filter (svH (takeW m.watch u).watch.config)).map eHeld, 1, none⟩)]) (fun i => m.cache.length - i) (fun i => i ≤ m.cache.length) 0 [] (fun i hI => ?_)
   have hfl : ((m.cache.take i).filter (svH (takeW m.watch u).watch.config)).length ≤ i := by
     have := List.length_filter_le (svH (takeW m.watch u).watch.config) (m.cache.take i)
     rw [List.length_take] at this
     omega
   refine D ?_
   refine cC (fun c1 => ?_) (fun c1 => ?_)
   · skip
     refine D ?_
     refine kD (s_spec_l14Serves (takeW m.watch u).watch.config hgl P2 (m.cache.getD i zHeld).flow (m.cache.getD i zHeld).name) ?_
     refine D ?_
     refine cC (fun c2 => ?_) (fun c2 => ?_)
     · skip
       have hfr : svH (takeW m.watch u).watch.config (m.cache.getD i zHeld) = true := by unfold svH; simpa using c2
       have hft := filter_take (svH (takeW m.watch u).watch.config) zHeld (xs := m.cache) (i := i) (by omega)
       rw [if_pos hfr] at hft
       refine D ?_
       refine lp_next (i+1) [(114695,241664)] ?_ ?_ ?_
       · simp only [go_sem] <;> and_intros <;> first | with_reducible exact rfl | (first | with_reducible exact rfl | omega | (rw [hft]; simp [eHeld]; done) | (rw [hft]; done))
       · omega
       · omega
     · skip
       have hfr : ¬ svH (takeW m.watch u).watch.config (m.cache.getD i zHeld) = true := by unfold svH; simpa using c2
       have hft := filter_take (svH (takeW m.watch u).watch.config) zHeld (xs := m.cache) (i := i) (by omega)
       rw [if_neg hfr, List.append_nil] at hft
       refine D ?_
       refine lp_next (i+1) [] ?_ ?_ ?_
       · simp only [go_sem] <;> and_intros <;> first | with_reducible exact rfl | (first | with_reducible exact rfl | omega | (rw [hft]; simp [eHeld]; done) | (rw [hft]; done))
       · omega
       · omega
   · skip
     obtain rfl : i = m.cache.length := by omega
     refine D ?_
     refine E ?_
     have he : installW m u = ⟨0, 0, 0, [], ⟨m.address, m.now, (takeW m.watch u).watch, tablesOf (takeW m.watch u).watch.config, m.cache.filter (svH (takeW m.watch u).watch.config)⟩⟩ := by unfold installW; rw [hue, if_neg (by omega)]
     simp [he, List.take_of_length_le]
end
theorem s_spec_l15Asked (f : Fleet) (hf : limF 2097152 f) (n : Int) : SemX prog 105 [aT (.ptr (eFleet false f)), aI n] [] [rI (askedF f n)] [] := by
 refine goF [(36, ⟨some 1, none, none, none⟩)] [] [] func105 ?_
 obtain ⟨hfa, hfm, hfx⟩ := id hf
 refine D ?_
 refine kR (s_spec_l15Fault f hf) ?_
 refine D ?_
 refine cC (fun c0 => ?_) (fun c0 => ?_)
 · skip
   refine D ?_
   refine E ?_
   first
   | exact trivial
   | unfold askedF
     grind
 · skip
   refine D ?_
   refine kR (s_spec_l1In n 0 (f.muxes.length - 1)) ?_
   refine D ?_
   refine cC (fun c1 => ?_) (fun c1 => ?_)
   · skip
     refine D ?_
     refine E ?_
     first
     | exact trivial
     | unfold askedF
       grind
   · skip
     refine D ?_
     refine E ?_
     first
     | exact trivial
     | unfold askedF
       grind
theorem s_spec_l13Served (all : List Config) (hl : all.length ≤ 2097152) (hm : ∀ y ∈ all, limG 2097152 y) (cmds : List Cmd) (hc : cmds.length ≤ 2097152) : SemX prog 187 [aT (.sl false 3 (all.map (eConfig false))), aT (.sl false 6 (cmds.map eCmd))] [] [rI (servedM all cmds)] [] := by
 refine goF [(46, ⟨some 1, none, none, none⟩), (98, ⟨some 1, none, none, none⟩)] [] [] func187 ?_
 refine D ?_
 refine cC (fun c0 => ?_) (fun c0 => ?_)
 · skip
   have hsv : servedM all cmds = 2 := if_pos (by first | omega | (simp [inR] at c0; omega) | (simp at c0; omega) | grind)
   refine D ?_
   refine E ?_
   rw [hsv]
 · skip
   have hsz : 1 ≤ all.length ∧ all.length ≤ 60 ∧ cmds.length + 1 = all.length := by first | omega | (simp [inR] at c0; omega) | (simp at c0; omega) | grind
   have hsv0 : servedM all cmds = if scan (servedBad all) all.length 0 ≠ 0 then scan (servedBad all) all.length 0 else scan (cmdBad cmds) cmds.length 0 := if_neg (by omega)
   refine D ?_
   refine L (α := Nat) (fun i => [(5, .int .i64 i)]) (fun i => []) (fun i => all.length - i) (fun i => i ≤ all.length ∧ scan (servedBad all) all.length 0 = scan (servedBad all) all.length i ∧ ∀ j, j < i → configFault (all.getD j zConfig) = 0) 0 [] (fun i hL => ?_) (hi := by exact ⟨Nat.zero_le _, rfl, fun j hj => by omega⟩)
   obtain ⟨hi2, hie, hcf⟩ := hL
   refine D ?_
   refine cC (fun c1 => ?_) (fun c1 => ?_)
   · skip
     have hst := scan_lt (f := servedBad all) (show i < all.length by omega)
     have hxi := hm _ (getD_mem zConfig (show i < all.length by omega))
     have hd : servedBad all i = if configFault (all.getD i zConfig) ≠ 0 then configFault (all.getD i zConfig) else if (all.getD i zConfig).version ≠ (all.getD 0 zConfig).version + i then 1 else 0 := rfl
     refine D ?_
     refine kR (s_spec_l5Fault (all.getD i zConfig) hxi) ?_
     refine D ?_
     refine cC (fun c2 => ?_) (fun c2 => ?_)
     · skip
       have hbz : servedBad all i = configFault (all.getD i zConfig) := by rw [hd, if_pos (by omega)]
       refine D ?_
       refine E ?_
       rw [hsv0, if_pos (by rw [hie, hst, if_neg (by omega)]; omega), hie, hst, if_neg (by omega), hbz]
     · skip
       have hk0 : configFault (all.getD i zConfig) = 0 := by omega
       have hv0 : 0 ≤ (all.getD 0 zConfig).version ∧ (all.getD 0 zConfig).version ≤ 1000000 := by
         rcases Nat.eq_zero_or_pos i with h | h
         · rw [h] at hk0; exact cf_ver hk0
         · exact cf_ver (hcf 0 h)
       rw [if_neg (by omega)] at hd
       refine D ?_
       refine cC (fun c3 => ?_) (fun c3 => ?_)
       · skip
         have hbz : servedBad all i = 1 := by rw [hd, if_pos (by simpa using c3)]
         refine D ?_
         refine E ?_
         rw [hsv0, if_pos (by rw [hie, hst, if_neg (by omega)]; omega), hie, hst, if_neg (by omega), hbz]
       · skip
         have hbz : servedBad all i = 0 := by rw [hd, if_neg (by simpa using c3)]
         refine D ?_
         refine N (i+1) [] (hi := ?_) (hm := ?_)
         · refine ⟨by omega, ?_, fun j hj => ?_⟩
           · rw [hie, hst, if_pos hbz]
           · rcases Nat.lt_or_ge j i with h | h
             · exact hcf j h
             · obtain rfl : j = i := by omega
               exact hk0
         · omega
   · skip
     obtain rfl : i = all.length := by omega
     have hs0 : scan (servedBad all) all.length 0 = 0 := by rw [hie, scan_ge (by omega)]
     have hsv1 : servedM all cmds = scan (cmdBad cmds) cmds.length 0 := by rw [hsv0, if_neg (by omega)]
     have hv0 := cf_ver (hcf 0 (by omega))
     refine D ?_
     refine L (α := Nat) (fun i => [(7, .int .i64 i)]) (fun i => []) (fun i => cmds.length - i) (fun i => i ≤ cmds.length ∧ scan (cmdBad cmds) cmds.length 0 = scan (cmdBad cmds) cmds.length i) 0 [] (fun i hL => ?_) (hi := by exact ⟨Nat.zero_le _, rfl⟩)
     obtain ⟨hi2, hie⟩ := hL
     refine D ?_
     refine cC (fun c4 => ?_) (fun c4 => ?_)
     · skip
       have hst := scan_lt (f := cmdBad cmds) (show i < cmds.length by omega)
       have hd : cmdBad cmds i = cmdFault (cmds.getD i zCmd) := rfl
       refine D ?_
       refine kR (s_spec_CmdFault (cmds.getD i zCmd)) ?_
       refine D ?_
       refine cC (fun c5 => ?_) (fun c5 => ?_)
       · skip
         refine D ?_
         refine E ?_
         rw [hsv1]
         grind
       · skip
         refine D ?_
         refine N (i+1) [] (hi := ?_) (hm := ?_)
         · refine ⟨by omega, ?_⟩
           rw [hie, scan_lt (by omega), if_pos]
           unfold cmdBad
           grind
         · omega
     · skip
       have hs0 : scan (cmdBad cmds) cmds.length 0 = 0 := by rw [hie, scan_ge (by omega)]
       refine D ?_
       refine E ?_
       rw [hsv1]
       grind
theorem s_spec_l1Max (a b : Int) : SemX prog 188 [aI a, aI b] [] [rI (if b < a then a else b)] [] := by
 refine goF [] [] [] func188 ?_
 refine D ?_
 refine cC (fun c0 => ?_) (fun c0 => ?_)
 · skip
   refine D ?_
   refine E ?_
   first
   | exact trivial
   | first | (rw [if_pos (by omega)]; done) | (rw [if_neg (by omega)]; done) | grind
 · skip
   refine D ?_
   refine E ?_
   first
   | exact trivial
   | first | (rw [if_pos (by omega)]; done) | (rw [if_neg (by omega)]; done) | grind
theorem s_spec_ServeFrom (all : List Config) (hl : all.length ≤ 2097152) (hm : ∀ y ∈ all, limG 2097152 y) (cmds : List Cmd) (hc : cmds.length ≤ 2097152) (n : Int) : SemX prog 108 [aT (.sl false 3 (all.map (eConfig false))), aT (.sl false 6 (cmds.map eCmd)), aI n] [] [.agg (eUpdateResult true (serveM all cmds n))] [] := by
 refine goF [(48, ⟨some 1, none, none, none⟩), (68, ⟨some 1, none, none, none⟩), (76, ⟨some 1, none, none, none⟩), (90, ⟨some 1, none, none, none⟩)] [(7, 6, [36864], []), (7, 10, [36864], []), (9, 2, [36864], []), (9, 3, [], [200704]), (9, 7, [200704], [217088, 200704]), (9, 10, [28672], [28672]), (10, 1, [36864], []), (10, 2, [36864], []), (10, 3, [], [241665, 241666]), (10, 6, [28672], [28672])] [] func108 ?_
 refine D ?_
 refine kR (s_spec_l13Served all hl hm cmds hc) ?_
 refine D ?_
 refine cC (fun c0 => ?_) (fun c0 => ?_)
 · skip
   refine D ?_
   refine E ?_
   have he : serveM all cmds n = badU (servedM all cmds) := if_pos (by omega)
   simp [he, badU, zUpdate, zConfig]
 · skip
   have P := served_p (show servedM all cmds = 0 by omega)
   have hp1 := P.l1
   have hp2 := P.l2
   have hp3 := P.l3
   obtain ⟨hlc, hlv⟩ := served_last P
   have hlw := cf_ver hlc
   have hv0 := cf_ver (P.cf 0 P.l1)
   have hlx := hm _ (getD_mem zConfig (show all.length - 1 < all.length by omega))
   unfold lastC at hlc hlv hlw
   refine D ?_
   refine cC (fun c1 => ?_) (fun c1 => ?_)
   · skip
     refine D ?_
     refine E ?_
     have he : serveM all cmds n = badU 3 := by unfold serveM; rw [if_neg (by omega), if_pos (by omega)]
     simp [he, badU, zUpdate, zConfig]
   · skip
     refine D ?_
     refine kD (s_spec_l1Max _ _) ?_
     refine D ?_
     refine kD (s_spec_l1In n _ _) ?_
     refine D ?_
     refine cC (fun c2 => ?_) (fun c2 => ?_)
     · skip
       have hin : (all.getD 0 zConfig).version ≤ n ∧ (all.getD (all.length - 1) zConfig).version - 4 ≤ n ∧ n ≤ (all.getD (all.length - 1) zConfig).version - 1 := by
         have h_ := c2
         simp only [inR, Bool.and_eq_true, decide_eq_true_eq] at h_
         split at h_ <;> omega
       refine D ?_
       refine E ?_
       have he : serveM all cmds n = ⟨0, ⟨n, (all.getD (all.length - 1) zConfig).version, false, zConfig, cmds.drop (n - (all.getD 0 zConfig).version).toNat⟩⟩ := by
         unfold serveM lastC
         rw [if_neg (by omega), if_neg (by omega), if_pos hin]
       simp [he, zConfig]
     · skip
       have hin : ¬ ((all.getD 0 zConfig).version ≤ n ∧ (all.getD (all.length - 1) zConfig).version - 4 ≤ n ∧ n ≤ (all.getD (all.length - 1) zConfig).version - 1) := by
         have h_ := c2
         simp only [inR, Bool.and_eq_false_iff, decide_eq_false_iff_not] at h_
         intro h
         split at h_ <;> omega
       refine D ?_
       refine kD (s_spec_l5Copy (all.getD (all.length - 1) zConfig) hlx) ?_
       refine D ?_
       refine E ?_
       have he : serveM all cmds n = ⟨0, ⟨0, (all.getD (all.length - 1) zConfig).version, true, (all.getD (all.length - 1) zConfig), []⟩⟩ := by
         unfold serveM lastC
         rw [if_neg (by omega), if_neg (by omega), if_neg hin]
       simp [he]
theorem s_spec_l15Steps (xs : List Entry) (hl : xs.length ≤ 2097152) (hrc : (replayM xs).1.code = 0) : SemX prog 109 [aT (.sl false 9 (xs.map eEntry))] [] [.one (.sl true 6 ((replayS xs).map eCmd))] [] := by
 refine goF [(18, ⟨some 4, some 36864, some (151, true), none⟩)] [(6, 0, [20480], []), (6, 5, [36865, 36866, 36867], [86020, 86021, 86022]), (6, 6, [], [28672]), (6, 7, [28672], [28672])] [] func109 ?_
 have hxl := replay_ok hrc
 refine D ?_
 refine L (α := Nat × Machine × List Cmd) (fun p => [(3, .ref 32768 0 p.2.2.length), (5, .int .i64 p.1)]) (fun p => [(20480, .var [.int .i64 p.2.1.config.version, .ref 36865 0 p.2.1.config.backends.length, .ref 36866 0 p.2.1.config.vips.length, .ref 36867 0 p.2.1.sessions.length]), (36865, .arr ⟨5, p.2.1.config.backends.map eBackend, 1, none⟩), (36866, .arr ⟨4, p.2.1.config.vips.map (eVip true), 1, none⟩), (36867, .arr ⟨3, p.2.1.sessions.map eSession, 1, none⟩), (32768, .arr ⟨6, p.2.2.map eCmd, 1, none⟩)]) (fun p => xs.length - p.1) (fun p => p.1 ≤ xs.length ∧ MaP p.2.1 ∧ p.2.2.length ≤ p.1 ∧ repC (xs.drop p.1) p.2.1 = 0 ∧ repS xs zMachine [] = repS (xs.drop p.1) p.2.1 p.2.2) (0, zMachine, []) [] (fun x0 hL => ?_) (by simp only [go_sem] <;> and_intros <;> first | with_reducible exact rfl | (first | omega | exact rfl)) (by exact ⟨Nat.zero_le _, maP_zero, by simp, by dsimp only; rw [List.drop_zero, ← replay_code hxl]; exact hrc, rfl⟩)
 obtain ⟨i, m, cs_⟩ := x0
 obtain ⟨hi2, hP, hcl, hrp, hrs⟩ := hL
 try dsimp only at *
 have hm1 : limM 2097151 m := ⟨limG_mono (by omega) hP.lim.1, Nat.le_trans hP.lim.2 (by omega)⟩
 refine D ?_
 refine cC (fun c0 => ?_) (fun c0 => ?_)
 · skip
   have hrc2 := repC_drop (show i < xs.length by omega) m
   obtain ⟨h0, hc0⟩ := repC_ok hrc2 hrp
   refine D ?_
   refine kD (s_spec_l11Apply m hm1 hP.ok (xs.getD i zEntry) (fun h => ent_cmd h0 h)) ?_
   refine D ?_
   refine cC (fun c1 => ?_) (fun c1 => ?_)
   · skip
     have hac : addK cs_ (xs.getD i zEntry) (enterM m (xs.getD i zEntry)) = cs_ ++ [(xs.getD i zEntry).cmd] := if_pos (by unfold freshM; simpa using c1)
     have hA := hac
     refine D ?_
     refine lp_next (i + 1, (enterM m (xs.getD i zEntry)).machine, addK cs_ (xs.getD i zEntry) (enterM m (xs.getD i zEntry))) [(36865,86020),(36866,86021),(36867,86022),(32768,155648)] ?_ ?_ ?_
     · simp only [go_sem, hA] <;> and_intros <;> first | with_reducible exact rfl | (first | with_reducible exact rfl | omega | (simp [eConfig, eCmd]; done))
     · dsimp only
       refine ⟨by omega, enterM_p hP h0 hc0, by have := addK_len cs_ (xs.getD i zEntry) (enterM m (xs.getD i zEntry)); omega, ?_, ?_⟩
       · rw [← hrp, hrc2, if_neg (by omega), if_neg (by omega)]
       · rw [hrs, repS_drop (by omega), if_neg (by omega), if_neg (by omega)]
     · try dsimp only
       omega
   · skip
     have hac : addK cs_ (xs.getD i zEntry) (enterM m (xs.getD i zEntry)) = cs_ := if_neg (by unfold freshM; rw [c1]; simp)
     have hA := hac
     refine D ?_
     refine lp_next (i + 1, (enterM m (xs.getD i zEntry)).machine, addK cs_ (xs.getD i zEntry) (enterM m (xs.getD i zEntry))) [(36865,86020),(36866,86021),(36867,86022)] ?_ ?_ ?_
     · simp only [go_sem, hA] <;> and_intros <;> first | with_reducible exact rfl | (first | with_reducible exact rfl | omega | (simp [eConfig, eCmd]; done))
     · dsimp only
       refine ⟨by omega, enterM_p hP h0 hc0, by have := addK_len cs_ (xs.getD i zEntry) (enterM m (xs.getD i zEntry)); omega, ?_, ?_⟩
       · rw [← hrp, hrc2, if_neg (by omega), if_neg (by omega)]
       · rw [hrs, repS_drop (by omega), if_neg (by omega), if_neg (by omega)]
     · try dsimp only
       omega
 · skip
   obtain rfl : i = xs.length := by omega
   refine D ?_
   refine E ?_
   first
   | exact trivial
   | have he : replayS xs = cs_ := by unfold replayS; rw [if_neg (by omega), hrs, repS_end]
     simp [he]
section
attribute [local go_sem] badF okF zFleet
theorem s_spec_SyncFleet (f : Fleet) (hf : limF 2097152 f) (n u : Int) : SemX prog 50 [aS (eFleet false f), aI n, aI u] [] [.agg (eFleetResult true (syncF f n u))] [] := by
 refine goF [(60, ⟨some 1, none, none, none⟩), (102, ⟨some 1, none, none, none⟩)] [(10, 3, [98368], []), (10, 5, [16384], []), (10, 6, [], [225280]), (10, 8, [225280], []), (10, 10, [98368, 225280], [241669, 241670, 241671]), (10, 11, [], [49152]), (10, 12, [49152], [49152]), (13, 1, [16384], []), (13, 6, [49152], []), (13, 7, [241669, 241670, 241671], [299011, 299016, 299017, 299018, 299019]), (13, 8, [], [53248]), (13, 9, [53248], [53248])] [] func50 ?_
 obtain ⟨hfa, hfm, hfx⟩ := id hf
 have hal := replay_al f.agreed
 have hsl := replayS_len f.agreed
 have hA_ : ∀ y ∈ ((replayM f.agreed).2.take (u + 1).toNat), limG 2097152 y := fun y hy => limG_mono (by omega) (hal.1 y (List.mem_of_mem_take hy))
 have hAl : ((replayM f.agreed).2.take (u + 1).toNat).length ≤ 2097152 := by rw [List.length_take]; omega
 have hCl : ((replayS f.agreed).take u.toNat).length ≤ 2097152 := by rw [List.length_take]; omega
 refine D ?_
 refine kR (s_spec_l15Asked f hf n) ?_
 refine D ?_
 refine cC (fun c0 => ?_) (fun c0 => ?_)
 · skip
   refine D ?_
   refine kR (s_spec_l15Bad _) ?_
   refine D ?_
   refine E ?_
   have he : syncF f n u = badF (askedF f n) := if_pos (by omega)
   simp [he, badF, zFleet]
 · skip
   obtain ⟨hk0, hk1, hk2⟩ := asked_ok (show askedF f n = 0 by omega)
   have P := fleet_p hk0
   have hrl := replay_len P.rp
   have hxi := hfx _ (getD_mem zMux (show n.toNat < f.muxes.length by omega))
   have hwf := (mux_ok (P.mx n.toNat (by omega))).2.1
   refine D ?_
   refine kR (s_spec_l11Replay f.agreed hfa) ?_
   refine D ?_
   refine kR (s_spec_l1In u 0 ((replayM f.agreed).2.length - 1)) ?_
   refine D ?_
   refine cC (fun c1 => ?_) (fun c1 => ?_)
   · skip
     refine D ?_
     refine kR (s_spec_l15Bad _) ?_
     refine D ?_
     refine E ?_
     have he : syncF f n u = badF 3 := by unfold syncF; rw [if_neg (by omega), if_pos (by simpa using c1)]
     simp [he, badF, zFleet]
   · skip
     have hup : 0 ≤ u ∧ u < (replayM f.agreed).2.length := by simp [inR] at c1; omega
     refine D ?_
     refine cC (fun c2 => ?_) (fun c2 => ?_)
     · skip
       have hsu : syncU f n u = serveM ((replayM f.agreed).2.take (u + 1).toNat) ((replayS f.agreed).take u.toNat) (f.muxes.getD n.toNat zMux).watch.config.version := by unfold syncU; rw [if_pos (by simpa using c2)]
       refine D ?_
       refine kD (s_spec_l15Steps f.agreed hfa P.rp) ?_
       refine D ?_
       refine kD (s_spec_ServeFrom ((replayM f.agreed).2.take (u + 1).toNat) hAl hA_ ((replayS f.agreed).take u.toNat) hCl _) ?_
       refine D ?_
       refine cC (fun c3 => ?_) (fun c3 => ?_)
       · skip
         refine D ?_
         refine kR (s_spec_l15Bad _) ?_
         refine D ?_
         refine E ?_
         have he : syncF f n u = badF (syncU f n u).code := by unfold syncF; rw [if_neg (by omega), if_neg (by simpa using c1), if_pos (by rw [hsu]; omega)]
         simp [he, hsu, badF, zFleet]
       · skip
         have hsc : (syncU f n u).code = 0 := by rw [hsu]; omega
         have huf := serve_up (by rw [← hsu]; exact hsc)
         have hul := serve_lim (b := 2097152) (by omega) (by rw [← hsu]; exact hsc)
         refine D ?_
         refine kD (s_spec_l14Install (f.muxes.getD n.toNat zMux) hxi _ hul hwf huf) ?_
         refine D ?_
         refine cC (fun c4 => ?_) (fun c4 => ?_)
         · skip
           refine D ?_
           refine kR (s_spec_l15Bad _) ?_
           refine D ?_
           refine E ?_
           have he : syncF f n u = badF (installW (f.muxes.getD n.toNat zMux) (syncU f n u).update).code := by unfold syncF; rw [if_neg (by omega), if_neg (by simpa using c1), if_neg (by omega), if_pos (by rw [hsu]; omega)]
           simp [he, hsu, badF, zFleet]
         · skip
           refine D ?_
           refine kR (s_spec_l15Copy f hf) ?_
           refine D ?_
           refine E ?_
           have he : syncF f n u = okF ⟨f.agreed, f.muxes.set n.toNat (installW (f.muxes.getD n.toNat zMux) (syncU f n u).update).mux⟩ := by unfold syncF; rw [if_neg (by omega), if_neg (by simpa using c1), if_neg (by omega), if_neg (by rw [hsu]; omega)]
           simp [he, hsu, okF, List.map_set, eMux, eWatch, eConfig]
     · skip
       have hsu : syncU f n u = serveM ((replayM f.agreed).2.take (u + 1).toNat) ((replayS f.agreed).take u.toNat) 81 := by unfold syncU; rw [if_neg (by simpa using c2)]
       refine D ?_
       refine kD (s_spec_l15Steps f.agreed hfa P.rp) ?_
       refine D ?_
       refine kD (s_spec_ServeFrom ((replayM f.agreed).2.take (u + 1).toNat) hAl hA_ ((replayS f.agreed).take u.toNat) hCl _) ?_
       refine D ?_
       refine cC (fun c3 => ?_) (fun c3 => ?_)
       · skip
         refine D ?_
         refine kR (s_spec_l15Bad _) ?_
         refine D ?_
         refine E ?_
         have he : syncF f n u = badF (syncU f n u).code := by unfold syncF; rw [if_neg (by omega), if_neg (by simpa using c1), if_pos (by rw [hsu]; omega)]
         simp [he, hsu, badF, zFleet]
       · skip
         have hsc : (syncU f n u).code = 0 := by rw [hsu]; omega
         have huf := serve_up (by rw [← hsu]; exact hsc)
         have hul := serve_lim (b := 2097152) (by omega) (by rw [← hsu]; exact hsc)
         refine D ?_
         refine kD (s_spec_l14Install (f.muxes.getD n.toNat zMux) hxi _ hul hwf huf) ?_
         refine D ?_
         refine cC (fun c4 => ?_) (fun c4 => ?_)
         · skip
           refine D ?_
           refine kR (s_spec_l15Bad _) ?_
           refine D ?_
           refine E ?_
           have he : syncF f n u = badF (installW (f.muxes.getD n.toNat zMux) (syncU f n u).update).code := by unfold syncF; rw [if_neg (by omega), if_neg (by simpa using c1), if_neg (by omega), if_pos (by rw [hsu]; omega)]
           simp [he, hsu, badF, zFleet]
         · skip
           refine D ?_
           refine kR (s_spec_l15Copy f hf) ?_
           refine D ?_
           refine E ?_
           have he : syncF f n u = okF ⟨f.agreed, f.muxes.set n.toNat (installW (f.muxes.getD n.toNat zMux) (syncU f n u).update).mux⟩ := by unfold syncF; rw [if_neg (by omega), if_neg (by simpa using c1), if_neg (by omega), if_neg (by rw [hsu]; omega)]
           simp [he, hsu, okF, List.map_set, eMux, eWatch, eConfig]
end
theorem s_slices_DeleteFunc_Held (R : List Held) (hl : R.length ≤ 2097152) (fn : Nat) (row : List T) (hrw : T.shrL row = row) (q : Held → Bool) (hq : callB prog fn = true) (hf : ∀ b : Held, b ∈ R → SemX prog fn [aS (eHeld b), aT (.ptr row)] [] [rB (q b)] []) : SemX prog 132 [.one (.t (.sl true 7 (R.map eHeld))), .one (.fn fn [.t (.ptr row)])] [] [.one (.sl true 7 ((keepG q R).map eHeld))] [] := by
 refine goF [] [] [] func132 ?_
 have hA := hrw
 refine D ?_
 refine kR (s_slices_IndexFunc_Held R hl fn row hrw q hq hf) ?_
 refine D ?_
 refine cC (fun c0 => ?_) (fun c0 => ?_)
 · skip
   refine D ?_
   refine E ?_
   have hall : ∀ j, j < R.length → q (R.getD j zHeld) = false := by
     rcases idxG_cases zHeld q R with ⟨_, h⟩ | ⟨i, hi, _⟩
     · exact h
     · omega
   rw [keepG_all zHeld hall]
 · skip
   rcases idxG_cases zHeld q R with ⟨h1, _⟩ | ⟨i, hi, hil, hiq, hino⟩
   · exact absurd h1 c0
   have hk0 : keepG q (R.take (i + 1)) = R.take i := by rw [keepG_no zHeld hil hiq, keepG_take zHeld (by omega) hino]
   have hk1 : (keepG q (R.take (i + 1))).length = i := by rw [hk0]; simp; omega
   have hmi : min i R.length = i := by omega
   have hA := And.intro hA (hi)
   refine D ?_
   refine L (α := Nat) (fun x => [(5, .int .i64 (keepG q (R.take x)).length), (6, .int .i64 x)]) (fun x => [(0, .arr ⟨7, ((keepG q (R.take x)) ++ R.drop (keepG q (R.take x)).length).map eHeld, 1 + ((keepG q (R.take x)).length - i), none⟩)]) (fun x => R.length - x) (fun x => x ≤ R.length ∧ i ≤ (keepG q (R.take x)).length ∧ (keepG q (R.take x)).length < x) (i + 1) [] (fun x hL => ?_) (by (simp only [go_sem, hA, hk1, hk0, hmi, List.take_append_drop] <;> and_intros <;> first | with_reducible exact rfl | omega | (simp; done))) (by exact ⟨by omega, by omega, by omega⟩)
   obtain ⟨hx, hk, hix⟩ := hL
   refine D ?_
   refine cC (fun c1 => ?_) (fun c1 => ?_)
   · skip
     have hgd := keepG_getD zHeld (q := q) (xs := R) (i := x) (by omega)
     have hkl := keepG_le q R x
     have hA := And.intro hA (hgd)
     refine D ?_
     refine kR (hf (R.getD x zHeld) (getD_mem zHeld (by omega))) ?_ hq
     refine D ?_
     refine cC (fun c2 => ?_) (fun c2 => ?_)
     · skip
       have hy := keepG_yes zHeld (q := q) (xs := R) (i := x) (by omega) c2
       refine D ?_
       refine lp_next (x+1) [] ?_ ?_ ?_
       · simp only [go_sem, hA] <;> and_intros <;> first | with_reducible exact rfl | (first | with_reducible exact rfl | omega | (refine arr_eq ?_ ?_; (rw [hy]; exact keepG_set zHeld eHeld (by omega)); (rw [hy]; simp; omega)) | (rw [hy]; simp; done) | (rw [hn]; done) | (refine int_eq ?_; rw [hy]; simp; done))
       · exact ⟨by omega, by first | omega | (rw [hy]; simp; omega) | (rw [hn]; omega), by first | omega | (rw [hy]; simp; omega) | (rw [hn]; omega)⟩
       · omega
     · skip
       have hn := keepG_no zHeld (q := q) (xs := R) (i := x) (by omega) c2
       have hA := And.intro hA (hn)
       refine D ?_
       refine lp_next (x+1) [] ?_ ?_ ?_
       · simp only [go_sem, hA] <;> and_intros <;> first | with_reducible exact rfl | (first | with_reducible exact rfl | omega | (refine arr_eq ?_ ?_; (rw [hy]; exact keepG_set zHeld eHeld (by omega)); (rw [hy]; simp; omega)) | (rw [hy]; simp; done) | (rw [hn]; done) | (refine int_eq ?_; rw [hy]; simp; done))
       · exact ⟨by omega, by first | omega | (rw [hy]; simp; omega) | (rw [hn]; omega), by first | omega | (rw [hy]; simp; omega) | (rw [hn]; omega)⟩
       · omega
   · skip
     obtain rfl : x = R.length := by omega
     rw [List.take_length] at hk hix ⊢
     have hmk : min (keepG q R).length ((keepG q R).length + (R.length - (keepG q R).length)) = (keepG q R).length := by omega
     have hle : (keepG q R).length ≤ (keepG q R).length + (R.length - (keepG q R).length) := by omega
     have hne : (R.length - (keepG q R).length = 0) = False := by simp; omega
     have hA := And.intro hA (And.intro hmk (And.intro hne (hle)))
     refine D ?_
     refine E ?_
     have e1 : List.take (keepG q R).length (keepG q R ++ List.drop (keepG q R).length R) = keepG q R := List.take_left
     rw [e1]
     refine congrArg (fun r => [TV.one (T.sl true 7 r)]) ?_
     rw [List.append_assoc]
     exact List.take_left' (by simp)
theorem s_impl_cmdsFault (xs : List Cmd) (hl : xs.length ≤ 2097152) : SemX prog 190 [aT (.sl false 6 (xs.map eCmd))] [] [rI (scan (cmdBad xs) xs.length 0)] [] := by
 refine goF [] [] [] func190 ?_
 refine D ?_
 refine L (α := Nat) (fun i => [(8, .int .i64 i)]) (fun i => []) (fun i => xs.length - i) (fun i => i ≤ xs.length ∧ scan (cmdBad xs) xs.length 0 = scan (cmdBad xs) xs.length i) 0 [] (fun i hL => ?_) (hi := by exact ⟨Nat.zero_le _, rfl⟩)
 obtain ⟨hi2, hie⟩ := hL
 refine D ?_
 refine cC (fun c0 => ?_) (fun c0 => ?_)
 · skip
   have hst := scan_lt (f := cmdBad xs) (show i < xs.length by omega)
   have hd : cmdBad xs i = cmdFault (xs.getD i zCmd) := rfl
   refine D ?_
   refine kR (s_impl_CmdFault (xs.getD i zCmd)) ?_
   refine D ?_
   refine cC (fun c1 => ?_) (fun c1 => ?_)
   · skip
     refine D ?_
     refine E ?_
     first
     | exact trivial
     | grind
   · skip
     refine D ?_
     refine N (i+1) [] (hi := ?_) (hm := ?_)
     · refine ⟨by omega, ?_⟩
       rw [hie, scan_lt (by omega), if_pos]
       unfold cmdBad
       grind
     · omega
 · skip
   have hs0 : scan (cmdBad xs) xs.length 0 = 0 := by rw [hie, scan_ge (by omega)]
   refine D ?_
   refine E ?_
   first
   | exact trivial
   | grind
theorem s_impl_size_Cmd (rows : List (List T)) : SemX prog 274 [aT (.sl false 6 rows)] [] [rI rows.length] [] := by
 refine goF [] [] [] func274 ?_
 refine D ?_
 refine E ?_
 first
 | exact trivial
 | exact rfl
theorem s_impl_UpdateFault (u : Update) (hu : limU 2097152 u) : SemX prog 239 [aS (eUpdate false u)] [] [rI (updateFault u)] [] := by
 refine goF [(104, ⟨some 1, none, none, none⟩)] [(16, 1, [8192], []), (16, 3, [8192], []), (16, 6, [8192], [])] [] func239 ?_
 have hcl := hu.2
 have hcf := hu.1
 refine D ?_
 refine kR (s_impl_in _ _ _) ?_
 refine D ?_
 refine kRg (s_impl_in _ _ _) ?_
 refine D ?_
 refine cC (fun c0 => ?_) (fun c0 => ?_)
 · skip
   refine D ?_
   refine E ?_
   first
   | exact trivial
   | unfold updateFault
     grind
 · skip
   have hfr : (0 ≤ u.from_ ∧ u.from_ ≤ 1000000) ∧ (0 ≤ u.to_ ∧ u.to_ ≤ 1000000) := by
     have h_ := c0
     simp [inR] at h_
     omega
   refine D ?_
   refine cC (fun c1 => ?_) (fun c1 => ?_)
   · skip
     refine D ?_
     refine cC (fun c2 => ?_) (fun c2 => ?_)
     · skip
       refine D ?_
       refine E ?_
       first
       | exact trivial
       | unfold updateFault
         grind
     · skip
       refine D ?_
       refine kR (s_impl_ConfigFault u.config hcf) ?_
       refine D ?_
       refine cC (fun c3 => ?_) (fun c3 => ?_)
       · skip
         refine D ?_
         refine E ?_
         first
         | exact trivial
         | unfold updateFault
           grind
       · skip
         refine D ?_
         refine cC (fun c4 => ?_) (fun c4 => ?_)
         · skip
           refine D ?_
           refine E ?_
           first
           | exact trivial
           | unfold updateFault
             grind
         · skip
           refine D ?_
           refine E ?_
           first
           | exact trivial
           | unfold updateFault
             grind
   · skip
     refine D ?_
     refine kR (s_impl_Config_isZero u.config hcf) ?_
     refine D ?_
     refine cC (fun c5 => ?_) (fun c5 => ?_)
     · skip
       refine D ?_
       refine E ?_
       first
       | exact trivial
       | unfold updateFault
         grind
     · skip
       refine D ?_
       refine cC (fun c6 => ?_) (fun c6 => ?_)
       · skip
         refine D ?_
         refine E ?_
         first
         | exact trivial
         | unfold updateFault
           grind
       · skip
         refine D ?_
         refine kD (s_impl_size_Cmd (u.cmds.map eCmd)) ?_
         refine D ?_
         refine cC (fun c7 => ?_) (fun c7 => ?_)
         · skip
           refine D ?_
           refine E ?_
           first
           | exact trivial
           | unfold updateFault
             grind
         · skip
           refine D ?_
           refine kR (s_impl_cmdsFault u.cmds hcl) ?_
           refine D ?_
           refine E ?_
           first
           | exact trivial
           | unfold updateFault
             grind
theorem s_impl_ApplyCmd (c : Config) (hx1 : limG 2097151 c) (x_ : Cmd) : SemX prog 275 [aS (eConfig false c), aS (eCmd x_)] [] [.agg (eConfigResult true (applyCmd c x_))] [] := by
 refine goF [] [] [] func275 ?_
 have hx : limG 2097152 c := limG_mono (by omega) hx1
 refine D ?_
 refine kR (s_impl_ConfigFault c hx) ?_
 refine D ?_
 refine cC (fun c0 => ?_) (fun c0 => ?_)
 · skip
   have K := cf_ok c0
   refine D ?_
   refine kR (s_impl_CmdFault x_) ?_
   refine D ?_
   refine cC (fun c1 => ?_) (fun c1 => ?_)
   · skip
     refine D ?_
     refine E ?_
     have he : applyCmd c x_ = badC (cmdFault x_) := by unfold applyCmd; grind
     simp [he, badC, zConfig]
   · skip
     have hcf : cmdFault x_ = 0 := by omega
     refine D ?_
     refine kR (s_impl_apply c hx1 K x_ hcf) ?_
     refine D ?_
     refine E ?_
     have he : applyCmd c x_ = applyR c x_ := by unfold applyCmd; grind
     simp [he, badC, zConfig]
 · skip
   refine D ?_
   refine cC (fun c1 => ?_) (fun c1 => ?_)
   · skip
     refine D ?_
     refine E ?_
     have he : applyCmd c x_ = badC (configFault c) := by unfold applyCmd; grind
     simp [he, badC, zConfig]
   · skip
     exfalso
     grind
theorem s_impl_applyAll (c : Config) (h0 : configFault c = 0) (xs : List Cmd) (hl : xs.length ≤ 2097152) : SemX prog 240 [aS (eConfig false c), aT (.sl false 6 (xs.map eCmd))] [] [.agg (eConfigResult true (stepsR xs c))] [] := by
 refine goF [] [] [] func240 ?_
 have hx1 : limG 2097151 c := limG_mono (by omega) (cf_l h0)
 have hx : limG 2097152 c := limG_mono (by omega) (cf_l h0)
 refine D ?_
 refine kR (s_impl_Config_copied c hx) ?_
 refine D ?_
 refine L (α := Nat × Config) (fun p => [(13, .int .i64 p.1)]) (fun p => [(24576, .var [.int .i64 p.2.version, .ref 45057 0 p.2.backends.length, .ref 45058 0 p.2.vips.length]), (45057, .arr ⟨5, p.2.backends.map eBackend, 1, none⟩), (45058, .arr ⟨4, p.2.vips.map (eVip true), 1, none⟩)]) (fun p => xs.length - p.1) (fun p => p.1 ≤ xs.length ∧ configFault p.2 = 0 ∧ stepsR xs c = stepsR (xs.drop p.1) p.2) (0, c) [] (fun x0 hL => ?_) (by simp only [go_sem] <;> and_intros <;> first | with_reducible exact rfl | (first | omega | exact rfl)) (by exact ⟨Nat.zero_le _, h0, rfl⟩)
 obtain ⟨i, d⟩ := x0
 obtain ⟨hi2, hd0, hst⟩ := hL
 try dsimp only at *
 have hd1 : limG 2097151 d := limG_mono (by omega) (cf_l hd0)
 have hdK := cf_ok hd0
 refine D ?_
 refine cC (fun c0 => ?_) (fun c0 => ?_)
 · skip
   have hae : (applyCmd d (xs.getD i zCmd)) = if cmdFault (xs.getD i zCmd) ≠ 0 then badC (cmdFault (xs.getD i zCmd)) else (applyR d (xs.getD i zCmd)) := by unfold applyCmd; rw [if_neg (by omega)]
   refine D ?_
   refine kR (s_impl_ApplyCmd d hd1 (xs.getD i zCmd)) ?_
   refine D ?_
   refine cC (fun c1 => ?_) (fun c1 => ?_)
   · skip
     refine D ?_
     refine E ?_
     have he : stepsR xs c = (applyCmd d (xs.getD i zCmd)) := by
       rw [hst, stepsR_drop (by omega)]
       by_cases h : cmdFault (xs.getD i zCmd) ≠ 0
       · rw [if_pos h, hae, if_pos h]
       · have e : (applyCmd d (xs.getD i zCmd)) = (applyR d (xs.getD i zCmd)) := by rw [hae, if_neg h]
         rw [if_neg h, if_pos (by rw [← e]; omega), e, ← applyR_bad (by rw [← e]; omega)]
     simp [he]
   · skip
     have hc2 : (applyCmd d (xs.getD i zCmd)).code = 0 := by omega
     have hc1 : cmdFault (xs.getD i zCmd) = 0 := by
       rw [hae] at hc2
       split at hc2
       · rename_i h; exact absurd hc2 h
       · omega
     have heq : (applyCmd d (xs.getD i zCmd)) = (applyR d (xs.getD i zCmd)) := by rw [hae, if_neg (by omega)]
     rw [heq] at hc2
     refine D ?_
     refine lp_next (i + 1, (applyCmd d (xs.getD i zCmd)).config) [(45057,81922),(45058,81923)] ?_ ?_ ?_
     · simp only [go_sem] <;> and_intros <;> first | with_reducible exact rfl | (first | with_reducible exact rfl | omega | (simp; done))
     · dsimp only
       rw [heq]
       refine ⟨by omega, p_fault (applyR_p hdK hc1 (by omega)), ?_⟩
       rw [hst, stepsR_drop (by omega), if_neg (by omega), if_neg (by omega)]
     · try dsimp only
       omega
 · skip
   obtain rfl : i = xs.length := by omega
   refine D ?_
   refine E ?_
   have he : stepsR xs c = ⟨0, d⟩ := by rw [hst, stepsR_end]
   simp [he]
theorem s_impl_TakeUpdate (w : Watch) (hw : limG 2097152 w.config) (u : Update) (hu : limU 2097152 u) : SemX prog 172 [aS (eWatch false w), aS (eUpdate false u)] [] [.agg (eWatchResult true (takeU w u))] [] := by
 refine goF [] [] [] func172 ?_
 refine D ?_
 refine kR (s_impl_WatchFault w hw) ?_
 refine D ?_
 refine cC (fun c0 => ?_) (fun c0 => ?_)
 · skip
   have hwf : watchFault w = 0 := c0
   refine D ?_
   refine kR (s_impl_UpdateFault u hu) ?_
   refine D ?_
   refine cC (fun c1 => ?_) (fun c1 => ?_)
   · skip
     refine D ?_
     refine E ?_
     have he : takeU w u = badW (updateFault u) := by unfold takeU; grind
     simp [he, badW, zWatch, zConfig]
   · skip
     have huf : updateFault u = 0 := by omega
     refine D ?_
     refine cC (fun c2 => ?_) (fun c2 => ?_)
     · skip
       have hcc : limG 2097152 u.config := limG_mono (by omega) (cf_l (upd_cf huf c2))
       refine D ?_
       refine cC (fun c3 => ?_) (fun c3 => ?_)
       · skip
         refine D ?_
         refine E ?_
         have he : takeU w u = badW 9 := by unfold takeU takeW; grind
         simp [he, badW, zWatch, zConfig]
       · skip
         refine D ?_
         refine kR (s_impl_Config_copied u.config hcc) ?_
         refine D ?_
         refine E ?_
         have he : takeU w u = ⟨0, ⟨true, u.config⟩⟩ := by unfold takeU takeW; grind
         simp [he, badW, zWatch, zConfig]
     · skip
       refine D ?_
       refine cC (fun c4 => ?_) (fun c4 => ?_)
       · skip
         refine D ?_
         refine E ?_
         have he : takeU w u = badW 10 := by unfold takeU takeW; grind
         simp [he, badW, zWatch, zConfig]
       · skip
         refine D ?_
         refine cC (fun c5 => ?_) (fun c5 => ?_)
         · skip
           refine D ?_
           refine E ?_
           have he : takeU w u = badW 9 := by unfold takeU takeW; grind
           simp [he, badW, zWatch, zConfig]
         · skip
           refine D ?_
           refine cC (fun c6 => ?_) (fun c6 => ?_)
           · skip
             refine D ?_
             refine E ?_
             have he : takeU w u = badW 4 := by unfold takeU takeW; grind
             simp [he, badW, zWatch, zConfig]
           · skip
             refine D ?_
             refine kR (s_impl_applyAll w.config (watch_cf hwf) u.cmds hu.2) ?_
             refine D ?_
             refine cC (fun c7 => ?_) (fun c7 => ?_)
             · skip
               refine D ?_
               refine E ?_
               have he : takeU w u = badW (stepsR u.cmds w.config).code := by unfold takeU takeW; grind
               simp [he, badW, zWatch, zConfig]
             · skip
               refine D ?_
               refine E ?_
               have he : takeU w u = ⟨0, ⟨true, (stepsR u.cmds w.config).config⟩⟩ := by unfold takeU takeW; grind
               simp [he, badW, zWatch, zConfig]
 · skip
   refine D ?_
   refine cC (fun c1 => ?_) (fun c1 => ?_)
   · skip
     refine D ?_
     refine E ?_
     have he : takeU w u = badW (watchFault w) := by unfold takeU; grind
     simp [he, badW, zWatch, zConfig]
   · skip
     exfalso
     grind
theorem s_impl_install_1 (h : Held) (c : Config) (hx : limG 2097152 c) (P : CfP c) : SemX prog 173 [aS (eHeld h), aT (.ptr [.ptr (eConfig false c)])] [] [rB (!svH c h)] [] := by
 refine goF [] [] [] func173 ?_
 refine D ?_
 refine kR (s_impl_Config_serves c hx P h.flow h.name) ?_
 refine D ?_
 refine E ?_
 first
 | exact trivial
 | simp only [go_sem, svH]
section
attribute [local go_sem] badX zMux zWatch zConfig
theorem s_impl_install (m : Mux) (hm : limX 2097152 m) (u : Update) (hu : limU 2097152 u) (hwf : watchFault m.watch = 0) : SemX prog 89 [aS (eMux false m), aS (eUpdate false u)] [] [.agg (eMuxResult true (installW m u))] [] := by
 refine goF [] [] [] func89 ?_
 obtain ⟨hg, ht, htr, hc⟩ := id hm
 refine D ?_
 refine kR (s_impl_TakeUpdate m.watch hg u hu) ?_
 refine D ?_
 refine cC (fun c0 => ?_) (fun c0 => ?_)
 · skip
   refine D ?_
   refine E ?_
   have he : installW m u = badX (takeU m.watch u).code := if_pos (by omega)
   simp [he, badX, zMux, zWatch, zConfig]
 · skip
   have hc0 : (takeU m.watch u).code = 0 := by omega
   have hwc : watchFault (takeU m.watch u).watch = 0 := takeU_ok hwf hc0
   have P2 := watch_p hwc
   have hgl : limG 2097152 (takeU m.watch u).watch.config := limG_mono (by omega) (cf_lim P2)
   have hti := tablesOf_len (takeU m.watch u).watch.config
   have v4 := P2.v4
   refine D ?_
   refine kR (s_impl_Mux_copied m hm) ?_
   refine D ?_
   refine kR (s_impl_Config_tables (takeU m.watch u).watch.config hgl P2) ?_
   refine D ?_
   refine kRk [] [81927] [] (s_slices_DeleteFunc_Held m.cache hc 173 [.ptr (eConfig false (takeU m.watch u).watch.config)] (shr_cfg _) (fun h => !svH (takeU m.watch u).watch.config h) (by kernel_rfl) (fun h _ => s_impl_install_1 h (takeU m.watch u).watch.config hgl P2)) ?_
   refine D ?_
   refine E ?_
   have he : installW m u = ⟨0, 0, 0, [], ⟨m.address, m.now, (takeU m.watch u).watch, tablesOf (takeU m.watch u).watch.config, m.cache.filter (svH (takeU m.watch u).watch.config)⟩⟩ := if_neg (by omega)
   rw [← sv_keep] at he
   simp [he]
end
theorem s_impl_Fleet_isMux (f : Fleet) (hf : limF 2097152 f) (n : Int) : SemX prog 106 [aT (.ptr (eFleet false f)), aI n] [] [rB (inR n 0 (f.muxes.length - 1))] [] := by
 refine goF [(24, ⟨some 1, none, none, none⟩)] [] [] func106 ?_
 obtain ⟨hfa, hfm, hfx⟩ := id hf
 refine D ?_
 refine kR (s_impl_size_Mux (f.muxes.map (eMux false))) ?_
 refine D ?_
 refine kR (s_impl_in n 0 (f.muxes.length - 1)) ?_
 refine D ?_
 exact E trivial
theorem s_slices_Clone_Cmd (xs : List Cmd) (hl : xs.length ≤ 2097152) : SemX prog 191 [aT (.sl false 6 (xs.map eCmd))] [] [.one (.sl true 6 (xs.map eCmd))] [] := by
 refine goF [] [] [] func191 ?_
 refine D ?_
 refine RW_isn (fun b => xs.map eCmd ≠ [] → b = false) rfl rfl (by simp only [go_sem] <;> and_intros <;> first | with_reducible exact rfl | omega | with_reducible trivial | (intros; simp_all; done) | grind) (fun b hb => ?_)
 refine D ?_
 refine cC (fun c0 => ?_) (fun c0 => ?_)
 · skip
   have hx : xs = [] := by
     cases xs with
     | nil => rfl
     | cons a l => have := hb (by simp); rw [this] at c0; cases c0
   subst hx
   refine D ?_
   exact E trivial
 · skip
   refine D ?_
   exact E trivial
theorem s_impl_full (c : Config) (hx : limG 2097152 c) : SemX prog 192 [aS (eConfig false c)] [] [.agg (eUpdate true ⟨0, c.version, true, c, []⟩)] [] := by
 refine goF [] [(1, 1, [8192], []), (1, 2, [8192], []), (1, 3, [], [28673, 28674]), (1, 5, [12288], [12288])] [] func192 ?_
 refine D ?_
 refine kD (s_impl_Config_copied c hx) ?_
 refine D ?_
 exact E trivial
theorem s_impl_ServeFrom (all : List Config) (hl : all.length ≤ 2097152) (hm : ∀ y ∈ all, limG 2097152 y) (cmds : List Cmd) (hc : cmds.length ≤ 2097152) (n : Int) (hnb : n ≤ 9223372036854775807) : SemX prog 112 [aT (.sl false 3 (all.map (eConfig false))), aT (.sl false 6 (cmds.map eCmd)), aI n] [] [.agg (eUpdateResult true (serveM all cmds n))] [] := by
 refine goF [(46, ⟨some 1, none, none, none⟩), (94, ⟨some 1, none, none, none⟩), (132, ⟨some 1, none, none, none⟩), (148, ⟨some 1, none, none, none⟩), (156, ⟨some 1, none, none, none⟩), (168, ⟨some 1, none, none, none⟩)] [(9, 1, [36864], []), (20, 2, [49152], []), (20, 6, [], [380928]), (20, 9, [28672], [28672])] [] func112 ?_
 refine D ?_
 refine kR (s_impl_size_Config (all.map (eConfig false))) ?_
 refine D ?_
 refine kR (s_impl_in _ _ _) ?_
 refine D ?_
 refine cC (fun c0 => ?_) (fun c0 => ?_)
 · skip
   have hsv : servedM all cmds = 2 := if_pos (by first | omega | (simp [inR] at c0; omega) | (simp at c0; omega) | grind)
   refine D ?_
   refine E ?_
   have he : serveM all cmds n = badU (servedM all cmds) := if_pos (by omega)
   simp [he, hsv, badU, zUpdate, zConfig]
 · skip
   have hsz : 1 ≤ all.length ∧ all.length ≤ 60 ∧ cmds.length + 1 = all.length := by first | omega | (simp [inR] at c0; omega) | (simp at c0; omega) | grind
   have hsv0 : servedM all cmds = if scan (servedBad all) all.length 0 ≠ 0 then scan (servedBad all) all.length 0 else scan (cmdBad cmds) cmds.length 0 := if_neg (by omega)
   refine D ?_
   refine L (α := Nat) (fun i => [(28, .int .i64 i)]) (fun i => []) (fun i => all.length - i) (fun i => i ≤ all.length ∧ scan (servedBad all) all.length 0 = scan (servedBad all) all.length i ∧ ∀ j, j < i → configFault (all.getD j zConfig) = 0) 0 [] (fun i hL => ?_) (hi := by exact ⟨Nat.zero_le _, rfl, fun j hj => by omega⟩)
   obtain ⟨hi2, hie, hcf⟩ := hL
   refine D ?_
   refine cC (fun c1 => ?_) (fun c1 => ?_)
   · skip
     have hst := scan_lt (f := servedBad all) (show i < all.length by omega)
     have hxi := hm _ (getD_mem zConfig (show i < all.length by omega))
     have hd : servedBad all i = if configFault (all.getD i zConfig) ≠ 0 then configFault (all.getD i zConfig) else if (all.getD i zConfig).version ≠ (all.getD 0 zConfig).version + i then 1 else 0 := rfl
     refine D ?_
     refine kR (s_impl_ConfigFault (all.getD i zConfig) hxi) ?_
     refine D ?_
     refine cC (fun c2 => ?_) (fun c2 => ?_)
     · skip
       have hbz : servedBad all i = configFault (all.getD i zConfig) := by rw [hd, if_pos (by omega)]
       refine D ?_
       refine E ?_
       have hss : servedM all cmds = configFault (all.getD i zConfig) := by
         rw [hsv0, if_pos (by rw [hie, hst, if_neg (by omega)]; omega), hie, hst, if_neg (by omega), hbz]
       have he : serveM all cmds n = badU (servedM all cmds) := if_pos (by omega)
       simp [he, hss, badU, zUpdate, zConfig]
     · skip
       have hk0 : configFault (all.getD i zConfig) = 0 := by omega
       have hv0 : 0 ≤ (all.getD 0 zConfig).version ∧ (all.getD 0 zConfig).version ≤ 1000000 := by
         rcases Nat.eq_zero_or_pos i with h | h
         · rw [h] at hk0; exact cf_ver hk0
         · exact cf_ver (hcf 0 h)
       rw [if_neg (by omega)] at hd
       refine D ?_
       refine cC (fun c3 => ?_) (fun c3 => ?_)
       · skip
         have hbz : servedBad all i = 1 := by rw [hd, if_pos (by simpa using c3)]
         refine D ?_
         refine E ?_
         have hss : servedM all cmds = 1 := by
           rw [hsv0, if_pos (by rw [hie, hst, if_neg (by omega)]; omega), hie, hst, if_neg (by omega), hbz]
         have he : serveM all cmds n = badU (servedM all cmds) := if_pos (by omega)
         simp [he, hss, badU, zUpdate, zConfig]
       · skip
         have hbz : servedBad all i = 0 := by rw [hd, if_neg (by simpa using c3)]
         refine D ?_
         refine N (i+1) [] (hi := ?_) (hm := ?_)
         · refine ⟨by omega, ?_, fun j hj => ?_⟩
           · rw [hie, hst, if_pos hbz]
           · rcases Nat.lt_or_ge j i with h | h
             · exact hcf j h
             · obtain rfl : j = i := by omega
               exact hk0
         · omega
   · skip
     obtain rfl : i = all.length := by omega
     have hs0 : scan (servedBad all) all.length 0 = 0 := by rw [hie, scan_ge (by omega)]
     have hsv1 : servedM all cmds = scan (cmdBad cmds) cmds.length 0 := by rw [hsv0, if_neg (by omega)]
     have hv0 := cf_ver (hcf 0 (by omega))
     refine D ?_
     refine kR (s_impl_cmdsFault cmds hc) ?_
     refine D ?_
     refine cC (fun c4 => ?_) (fun c4 => ?_)
     · skip
       refine D ?_
       refine cT ?_
       refine D ?_
       refine E ?_
       have he : serveM all cmds n = badU 3 := by unfold serveM; rw [if_neg (by grind), if_pos (by grind)]
       simp [he, badU, zUpdate, zConfig]
     · skip
       refine D ?_
       refine cC (fun c5 => ?_) (fun c5 => ?_)
       · skip
         refine D ?_
         refine E ?_
         have he : serveM all cmds n = badU (servedM all cmds) := if_pos (by omega)
         simp [he, hsv1, badU, zUpdate, zConfig]
       · skip
         have P := served_p (show servedM all cmds = 0 by omega)
         have hp1 := P.l1
         have hp2 := P.l2
         have hp3 := P.l3
         obtain ⟨hlc, hlv⟩ := served_last P
         have hlw := cf_ver hlc
         have hv0 := cf_ver (P.cf 0 P.l1)
         have hlx := hm _ (getD_mem zConfig (show all.length - 1 < all.length by omega))
         unfold lastC at hlc hlv hlw
         have hn0 : 0 ≤ n := by grind
         refine D ?_
         refine kR (s_impl_size_Config (all.map (eConfig false))) ?_
         refine D ?_
         refine kR (s_impl_in _ _ _) ?_
         refine D ?_
         refine cC (fun c6 => ?_) (fun c6 => ?_)
         · skip
           have hin : (all.getD 0 zConfig).version ≤ n ∧ (all.getD (all.length - 1) zConfig).version - 4 ≤ n ∧ n ≤ (all.getD (all.length - 1) zConfig).version - 1 := by
             have h_ := c6
             simp only [inR, Bool.and_eq_true, decide_eq_true_eq] at h_
             omega
           refine D ?_
           refine kD (s_slices_Clone_Cmd (cmds.drop (n - (all.getD 0 zConfig).version).toNat) (by rw [List.length_drop]; omega)) ?_
           refine D ?_
           refine E ?_
           have he : serveM all cmds n = ⟨0, ⟨n, (all.getD (all.length - 1) zConfig).version, false, zConfig, cmds.drop (n - (all.getD 0 zConfig).version).toNat⟩⟩ := by
             unfold serveM lastC
             rw [if_neg (by omega), if_neg (by omega), if_pos hin]
           simp [he, zConfig]
         · skip
           have hin : ¬ ((all.getD 0 zConfig).version ≤ n ∧ (all.getD (all.length - 1) zConfig).version - 4 ≤ n ∧ n ≤ (all.getD (all.length - 1) zConfig).version - 1) := by
             have h_ := c6
             simp only [inR, Bool.and_eq_false_iff, decide_eq_false_iff_not] at h_
             omega
           refine D ?_
           refine kR (s_impl_full (all.getD (all.length - 1) zConfig) hlx) ?_
           refine D ?_
           refine E ?_
           have he : serveM all cmds n = ⟨0, ⟨0, (all.getD (all.length - 1) zConfig).version, true, (all.getD (all.length - 1) zConfig), []⟩⟩ := by
             unfold serveM lastC
             rw [if_neg (by omega), if_neg (by omega), if_neg hin]
           simp [he]
section
attribute [local go_sem] badF okF zFleet
theorem s_impl_SyncFleet (f : Fleet) (hf : limF 2097152 f) (n u : Int) : SemX prog 51 [aS (eFleet false f), aI n, aI u] [] [.agg (eFleetResult true (syncF f n u))] [] := by
 refine goF [(64, ⟨some 1, none, none, none⟩), (114, ⟨some 1, none, none, none⟩)] [(11, 3, [73728], []), (11, 6, [73792], []), (11, 8, [73728, 73792], [258053, 258054, 258055]), (11, 9, [], [57344]), (11, 10, [57344], [57344])] [] func51 ?_
 obtain ⟨hfa, hfm, hfx⟩ := id hf
 have hal := replay_al f.agreed
 have hsl := replayS_len f.agreed
 have hA_ : ∀ y ∈ ((replayM f.agreed).2.take (u + 1).toNat), limG 2097152 y := fun y hy => limG_mono (by omega) (hal.1 y (List.mem_of_mem_take hy))
 have hAl : ((replayM f.agreed).2.take (u + 1).toNat).length ≤ 2097152 := by rw [List.length_take]; omega
 have hCl : ((replayS f.agreed).take u.toNat).length ≤ 2097152 := by rw [List.length_take]; omega
 have hll : (lookA f).length ≤ 201 := by
   unfold lookA
   split
   · simp
   · exact hal.2
 refine D ?_
 refine kR (s_impl_look f hf) ?_
 refine D ?_
 refine kRg (s_impl_Fleet_isMux f hf n) ?_
 refine D ?_
 refine kRg (s_impl_size_Config ((lookA f).map (eConfig false))) ?_
 refine D ?_
 refine kRg (s_impl_in u 0 ((lookA f).length - 1)) ?_
 refine D ?_
 refine cC (fun c0 => ?_) (fun c0 => ?_)
 · skip
   refine D ?_
   refine cT ?_
   refine D ?_
   refine E ?_
   have he : syncF f n u = badF 3 := by
     by_cases h : inR n 0 (f.muxes.length - 1) = true
     · have hk9 : askedF f n = 0 := by unfold askedF; grind
       have hla : lookA f = (replayM f.agreed).2 := if_neg (by grind)
       rw [hla] at c0
       unfold syncF; rw [if_neg (by omega), if_pos (by grind)]
     · have hk9 : askedF f n = 3 := by unfold askedF; grind
       unfold syncF; rw [if_pos (by omega), hk9]
   simp [he, badF, zFleet]
 · skip
   refine D ?_
   refine cC (fun c1 => ?_) (fun c1 => ?_)
   · skip
     refine D ?_
     refine E ?_
     have he : syncF f n u = badF (fleetFault f) := by unfold syncF askedF; grind
     simp [he, badF, zFleet]
   · skip
     have hk0 : fleetFault f = 0 := by omega
     have hla : lookA f = (replayM f.agreed).2 := if_neg (by omega)
     have hls : lookS f = replayS f.agreed := if_neg (by omega)
     have hin : inR n 0 (f.muxes.length - 1) = true := by grind
     have hk9 : askedF f n = 0 := by unfold askedF; rw [if_neg (by omega), if_neg (by simp [hin])]
     obtain ⟨_, hk1, hk2⟩ := asked_ok hk9
     have hir : inR u 0 ((replayM f.agreed).2.length - 1) = true := by rw [← hla]; grind
     have hup : 0 ≤ u ∧ u < (replayM f.agreed).2.length := by simp [inR] at hir; omega
     have P := fleet_p hk0
     have hrl := replay_len P.rp
     have hxi := hfx _ (getD_mem zMux (show n.toNat < f.muxes.length by omega))
     have hwf := (mux_ok (P.mx n.toNat (by omega))).2.1
     have hcv := cf_ver (watch_cf hwf)
     have hA := And.intro hla (hls)
     refine D ?_
     refine kR (s_impl_Fleet_copied f hf) ?_
     refine D ?_
     refine cC (fun c2 => ?_) (fun c2 => ?_)
     · skip
       have hsu : syncU f n u = serveM ((replayM f.agreed).2.take (u + 1).toNat) ((replayS f.agreed).take u.toNat) (f.muxes.getD n.toNat zMux).watch.config.version := by unfold syncU; rw [if_pos (by simpa using c2)]
       have hnv : (f.muxes.getD n.toNat zMux).watch.config.version ≤ 9223372036854775807 := by omega
       refine D ?_
       refine kD (s_impl_ServeFrom ((replayM f.agreed).2.take (u + 1).toNat) hAl hA_ ((replayS f.agreed).take u.toNat) hCl _ hnv) ?_
       refine D ?_
       refine cC (fun c3 => ?_) (fun c3 => ?_)
       · skip
         refine D ?_
         refine E ?_
         have he : syncF f n u = badF (syncU f n u).code := by unfold syncF; rw [if_neg (by omega), if_neg (by simp [hir]), if_pos (by rw [hsu]; omega)]
         simp [he, hsu, badF, zFleet]
       · skip
         have hsc : (syncU f n u).code = 0 := by rw [hsu]; omega
         have huf := serve_up (by rw [← hsu]; exact hsc)
         have hul := serve_lim (b := 2097152) (by omega) (by rw [← hsu]; exact hsc)
         refine D ?_
         refine kR (s_impl_install (f.muxes.getD n.toNat zMux) hxi _ hul hwf) ?_
         refine D ?_
         refine cC (fun c4 => ?_) (fun c4 => ?_)
         · skip
           refine D ?_
           refine E ?_
           have he : syncF f n u = badF (installW (f.muxes.getD n.toNat zMux) (syncU f n u).update).code := by unfold syncF; rw [if_neg (by omega), if_neg (by simp [hir]), if_neg (by omega), if_pos (by rw [hsu]; omega)]
           simp [he, hsu, badF, zFleet]
         · skip
           refine D ?_
           refine E ?_
           have he : syncF f n u = okF ⟨f.agreed, f.muxes.set n.toNat (installW (f.muxes.getD n.toNat zMux) (syncU f n u).update).mux⟩ := by unfold syncF; rw [if_neg (by omega), if_neg (by simp [hir]), if_neg (by omega), if_neg (by rw [hsu]; omega)]
           simp [he, hsu, okF, List.map_set, eMux, eWatch, eConfig]
     · skip
       have hsu : syncU f n u = serveM ((replayM f.agreed).2.take (u + 1).toNat) ((replayS f.agreed).take u.toNat) 81 := by unfold syncU; rw [if_neg (by simpa using c2)]
       have hnv : (81 : Int) ≤ 9223372036854775807 := by omega
       refine D ?_
       refine kD (s_impl_ServeFrom ((replayM f.agreed).2.take (u + 1).toNat) hAl hA_ ((replayS f.agreed).take u.toNat) hCl _ hnv) ?_
       refine D ?_
       refine cC (fun c3 => ?_) (fun c3 => ?_)
       · skip
         refine D ?_
         refine E ?_
         have he : syncF f n u = badF (syncU f n u).code := by unfold syncF; rw [if_neg (by omega), if_neg (by simp [hir]), if_pos (by rw [hsu]; omega)]
         simp [he, hsu, badF, zFleet]
       · skip
         have hsc : (syncU f n u).code = 0 := by rw [hsu]; omega
         have huf := serve_up (by rw [← hsu]; exact hsc)
         have hul := serve_lim (b := 2097152) (by omega) (by rw [← hsu]; exact hsc)
         refine D ?_
         refine kR (s_impl_install (f.muxes.getD n.toNat zMux) hxi _ hul hwf) ?_
         refine D ?_
         refine cC (fun c4 => ?_) (fun c4 => ?_)
         · skip
           refine D ?_
           refine E ?_
           have he : syncF f n u = badF (installW (f.muxes.getD n.toNat zMux) (syncU f n u).update).code := by unfold syncF; rw [if_neg (by omega), if_neg (by simp [hir]), if_neg (by omega), if_pos (by rw [hsu]; omega)]
           simp [he, hsu, badF, zFleet]
         · skip
           refine D ?_
           refine E ?_
           have he : syncF f n u = okF ⟨f.agreed, f.muxes.set n.toNat (installW (f.muxes.getD n.toNat zMux) (syncU f n u).update).mux⟩ := by unfold syncF; rw [if_neg (by omega), if_neg (by simp [hir]), if_neg (by omega), if_neg (by rw [hsu]; omega)]
           simp [he, hsu, okF, List.map_set, eMux, eWatch, eConfig]
end
section
attribute [local go_sem] mF mFR mkL_length mkL_take
theorem s_laws_FnExactSyncFleet (f : Fleet) (hq : qFleet f) (n u : Int) : SemX prog 11 [aS (eFleet false f), aI n, aI u] [] [rB true] [] := by
 refine goF [] [(10, 0, [40960], []), (10, 1, [16384], []), (10, 2, [], [155648, 155649]), (10, 3, [110592, 110593, 155648, 155649], [])] [] func11 ?_
 refine D ?_
 refine kR (s_laws_szFleet f 1048576 (by omega) (by omega) hq) ?_
 refine D ?_
 refine cC (fun c0 => ?_) (fun c0 => ?_)
 · skip
   refine D ?_
   exact E trivial
 · skip
   have hz : 0 ≤ szFleet f 1048576 := by simp at c0; omega
   have hx0 := szFleet_lim hz (by omega)
   have hx : limF 2097152 f := limF_mono (by omega) hx0
   have hr0 : limFR 1048577 (syncF f n u) := sync_lim (by omega) (limF_mono (by omega) hx0) n u
   have hr : limFR 2097152 (syncF f n u) := ⟨Nat.le_trans hr0.1 (by omega), limF_mono (by omega) hr0.2⟩
   have hbr := sFR_bd hr0 1
   have hur := sFR_up (syncF f n u) 1
   have hbx := sF_bd (limF_mono (by omega) hx0) 1
   have hux := sF_up f 1
   refine D ?_
   refine kR (s_laws_toFleet f hx) ?_
   refine D ?_
   refine kR (s_spec_SyncFleet f hx n u) ?_
   refine D ?_
   refine kR (s_laws_toFleet f hx) ?_
   refine D ?_
   refine kR (s_impl_SyncFleet f hx n u) ?_
   refine D ?_
   refine kR (s_laws_eqFleetResult (syncF f n u) hr) ?_
   refine D ?_
   refine cF ?_
   refine D ?_
   refine kD (s_laws_toFleet f hx) ?_
   refine D ?_
   refine kD (s_laws_eqFleet f hx) ?_
   refine D ?_
   refine cF ?_
   refine D ?_
   refine kRk [110592, 110593] [] [] (s_laws_markFleet f hx 1 (by omega) (by omega)) ?_
   refine D ?_
   refine kRg (s_laws_eqFleetResult (syncF f n u) hr) ?_
   refine D ?_
   refine cC (fun c3 => ?_) (fun c3 => ?_)
   · skip
     exfalso
     revert c3
     simp [-List.getD_eq_getElem?_getD]
     omega
   · skip
     refine D ?_
     refine kRk [126979, 126980, 126981] [] [] (s_laws_markFleetResult (syncF f n u) hr 1 (by omega) (by omega)) ?_
     refine D ?_
     refine kR (s_laws_heldFleetResult (syncF f n u) hr 1 (by omega) (by omega)) ?_
     refine D ?_
     refine cC (fun c4 => ?_) (fun c4 => ?_)
     · skip
       exfalso
       revert c4
       simp [-List.getD_eq_getElem?_getD]
       omega
     · skip
       refine D ?_
       refine cF ?_
       refine D ?_
       refine kR (s_laws_toFleet f hx) ?_
       refine D ?_
       refine kR (s_impl_SyncFleet f hx n u) ?_
       refine D ?_
       refine kR (s_laws_eqFleetResult (syncF f n u) hr) ?_
       refine D ?_
       refine cF ?_
       refine D ?_
       refine kR (s_laws_heldFleetResult (syncF f n u) hr 1 (by omega) (by omega)) ?_
       refine D ?_
       refine cC (fun c7 => ?_) (fun c7 => ?_)
       · skip
         exfalso
         revert c7
         simp [-List.getD_eq_getElem?_getD]
         omega
       · skip
         refine D ?_
         refine cF ?_
         refine D ?_
         exact E trivial
end
end Go.H
end
