/- What the functions that the law reaches compute, each by its code, against pure functions. Conditions: those that each theorem states. -/
import Derived.Test.YtcecbcaencobgaaGreatQC2
import Derived.ChangeArms
import Derived.DataReads
import Derived.KernelRfl
section
set_option linter.unusedSimpArgs false
set_option linter.unusedVariables false
namespace Go.H
open Go
theorem add_add0 {a : Addr} (hs : a.spot = none) (i j : Nat) : (a.add i).add j = ⟨a.block, a.off + (i + j), none⟩ := by
  obtain ⟨ab, ao, as1⟩ := a
  simp only at hs
  subst hs
  simp only [Addr.add]
  by_cases h1 : i = 0
  · subst h1
    by_cases h2 : j = 0 <;> simp [h2]
  · by_cases h2 : j = 0 <;> simp [h1, h2, Nat.add_assoc]
def okW (w : World) (b : Nat) : Prop := b < w.heap.size
theorem RoL_app {w : World} {ok : Nat → Prop} : ∀ {ts us : List T} {a b : List Value}, RoL w ok ts a → RoL w ok us b → RoL w ok (ts ++ us) (a ++ b)
  | [], us, a, b, h1, h2 => by simp only [RoL] at h1; subst h1; exact h2
  | t :: ts, us, a, b, h1, h2 => by
    simp only [RoL, List.cons_append] at h1 ⊢
    obtain ⟨u, vs, rfl, h3, h4⟩ := h1
    exact ⟨u, vs ++ b, rfl, h3, RoL_app h4 h2⟩
theorem RoL_cat {w : World} {ok : Nat → Prop} {ts us : List T} {cs : List Value} {o n : Nat} (h1 : RoL w ok ts ((cs.drop o).take n)) (h2 : RoL w ok us (cs.drop (o + n))) : RoL w ok (ts ++ us) (cs.drop o) := by
  have := RoL_app h1 h2
  rwa [← List.drop_drop, List.take_append_drop] at this
theorem RoL_end {w : World} {ok : Nat → Prop} {ts : List T} {cs : List Value} {o n : Nat} (h1 : RoL w ok ts ((cs.drop o).take n)) (hl : cs.length = o + n) : RoL w ok ts (cs.drop o) := by
  rwa [List.take_of_length_le (by simp; omega)] at h1
theorem RoRows_snoc {w : World} {ok : Nat → Prop} {sz : Nat} : ∀ {rs : List (List T)} {vs : List Value} {r : List T} {cs : List Value}, RoRows w ok sz rs vs → r.length = sz → RoL w ok r cs → RoRows w ok sz (rs ++ [r]) (vs ++ cs)
  | [], vs, r, cs, h, hl, hr => by
    simp only [RoRows] at h
    subst h
    simp only [List.nil_append, RoRows]
    exact ⟨cs, [], by simp, hl, hr, rfl⟩
  | x :: rs, vs, r, cs, h, hl, hr => by
    simp only [RoRows, List.cons_append] at h ⊢
    obtain ⟨a, b, rfl, h1, h2, h3⟩ := h
    exact ⟨a, b ++ cs, by simp, h1, h2, RoRows_snoc h3 hl hr⟩
section
variable {H : Type} {enc : TypeId × Value → H} {P : Program} {w : World} {base : Nat} {spare : Nat → Bool} {held : Bool}
theorem sl_of {α : Type} (f : α → List T) (q : α → Prop) (sz : Nat) {t e : TypeId} (ht : P.underlying t = some (.slice e)) (hsz : P.cellsOf e = sz) (hf : ∀ x, (f x).length = sz) (hpos : sz ≠ 0)
    (hel : ∀ n cs d, DataW.trod enc P w base spare held n e cs = some d → ∃ x, RoL w (okW w) (f x) cs ∧ q x) {fuel : Nat} {cs : List Value} {x : DataW H × List MemPlace} (h : DataW.trod enc P w base spare held fuel t cs = some x) :
    ∃ xs : List α, RoL w (okW w) [.sl false sz (xs.map f)] cs ∧ xs.length ≤ 9223372036854775807 ∧ ∀ y ∈ xs, q y := by
  rcases DataW.trod_slice ht h with ⟨rfl, _⟩ | ⟨a, len, cap, elems, rest, n, _, rfl, _, hb, hl, hm, hlen, he, _, _⟩
  · refine ⟨[], ?_, by simp, by simp⟩
    simp only [RoL, RoT, List.map_nil, List.length_nil]
    exact ⟨_, [], rfl, ⟨none, 0, [], rfl, Nat.le_refl _, Nat.zero_le _, by simp only [RoRows], fun h => absurd rfl h⟩, rfl⟩
  · rw [hsz] at he
    have one : ∀ i, i < len → ∃ csi x, w.cells? base (a.add (i * sz)) sz = some csi ∧ RoL w (okW w) (f x) csi ∧ q x := by
      intro i hi
      have h1 := he i hi
      rw [List.getElem?_eq_getElem (by omega)] at h1
      obtain ⟨csi, h2, h3⟩ := Option.bind_eq_some_iff.1 h1
      obtain ⟨x, h4, h5⟩ := hel n csi _ h3
      exact ⟨csi, x, h2, h4, h5⟩
    have spot : 0 < len → a.spot = none ∧ a.block < w.heap.size := by
      intro h0
      obtain ⟨csi, x, h1, h2, _⟩ := one 0 h0
      obtain ⟨_, h3, h4⟩ := World.cells?_some h1
      have h5 := h4 0 (by omega)
      rw [List.getElem?_eq_getElem (by omega)] at h5
      simp only [Nat.zero_mul, Addr.add, if_true] at h5
      unfold World.cell? at h5
      split at h5
      · rename_i hh
        split at h5
        · cases h5
        · rename_i hs
          refine ⟨by simpa using hs, ?_⟩
          exact (Array.getElem?_eq_some_iff.1 hh).1
      · cases h5
    have all : ∀ k, k ≤ len → ∃ xs : List α, xs.length = k ∧ (∀ y ∈ xs, q y) ∧ ∃ vs : List Value, RoRows w (okW w) sz (xs.map f) vs ∧ ∀ j u, vs[j]? = some u → w.cell? ⟨a.block, a.off + j, none⟩ = some u := by
      intro k
      induction k with
      | zero => exact fun _ => ⟨[], rfl, by simp, [], by simp only [List.map_nil, RoRows], by simp⟩
      | succ k ih =>
        intro hk
        obtain ⟨xs, h1, h2, vs, h3, h4⟩ := ih (by omega)
        obtain ⟨csi, x, h5, h6, h7⟩ := one k (by omega)
        obtain ⟨_, h8, h9⟩ := World.cells?_some h5
        have hvl := h3.length
        rw [List.length_map, h1] at hvl
        refine ⟨xs ++ [x], by simp [h1], fun y hy => ?_, vs ++ csi, by rw [List.map_append]; exact RoRows_snoc h3 (hf x) h6, fun j u hj => ?_⟩
        · rcases List.mem_append.1 hy with hy | hy
          · exact h2 y hy
          · simp only [List.mem_singleton] at hy
            subst hy
            exact h7
        · by_cases hjv : j < vs.length
          · rw [List.getElem?_append_left hjv] at hj
            exact h4 j u hj
          · rw [List.getElem?_append_right (by omega)] at hj
            obtain ⟨hj2, _⟩ := List.getElem?_eq_some_iff.1 hj
            have h10 := h9 (j - vs.length) (by omega)
            rw [hj] at h10
            have hsp := (spot (by omega)).1
            have hjj : k * sz + (j - vs.length) = j := by rw [← hvl]; exact Nat.add_sub_cancel' (Nat.le_of_not_lt hjv)
            have e : (a.add (k * sz)).add (j - vs.length) = ⟨a.block, a.off + j, none⟩ := by rw [add_add0 hsp, hjj]
            rw [e] at h10
            exact h10
    obtain ⟨xs, h1, h2, vs, h3, h4⟩ := all len (Nat.le_refl _)
    refine ⟨xs, ?_, by rw [h1]; have : cap ≤ 9223372036854775807 := hm; omega, h2⟩
    simp only [RoL]
    refine ⟨_, [], rfl, ?_, rfl⟩
    simp only [RoT, List.length_map]
    refine ⟨some a, cap, vs, by rw [h1], by omega, hm, h3, fun hne => ?_⟩
    have h0 : 0 < len := by
      rcases Nat.eq_zero_or_pos len with e | e
      · rw [e] at h1
        have : xs = [] := List.length_eq_zero_iff.1 h1
        subst this
        exact absurd rfl hne
      · exact e
    obtain ⟨s1, s2⟩ := spot h0
    refine ⟨a.block, a.off, ?_, s2, s2, h4⟩
    obtain ⟨ab, ao, as1⟩ := a
    simp only at s1
    subst s1
    rfl
theorem int_of {t : TypeId} (ht : P.underlying t = some (.int .i64)) {fuel : Nat} {cs : List Value} {x : DataW H × List MemPlace} (h : DataW.trod enc P w base spare held fuel t cs = some x) : ∃ n : Int, RoL w (okW w) [.int .i64 n] cs := by
  obtain ⟨n, rfl, _⟩ := DataW.trod_int ht h
  exact ⟨n, by simp only [RoL, RoT]; exact ⟨_, [], rfl, rfl, rfl⟩⟩
theorem bool_of {t : TypeId} (ht : P.underlying t = some .bool) {fuel : Nat} {cs : List Value} {x : DataW H × List MemPlace} (h : DataW.trod enc P w base spare held fuel t cs = some x) : ∃ n : Bool, RoL w (okW w) [.bool n] cs := by
  obtain ⟨n, rfl, _⟩ := DataW.trod_bool ht h
  exact ⟨n, by simp only [RoL, RoT]; exact ⟨_, [], rfl, rfl, rfl⟩⟩
theorem fld_of {fs : Array Field} {n : Nat} {cs : List Value} {xs : List (DataW H × List MemPlace)} (hf : ∀ (i : Nat) (f : Field), fs[i]? = some f → DataW.trod enc P w base spare held n f.type ((cs.drop f.offset).take (P.cellsOf f.type)) = xs[i]?) (hl : xs.length = fs.size) (i : Nat) {f : Field} (hi : fs[i]? = some f) :
    ∃ d, DataW.trod enc P w base spare held n f.type ((cs.drop f.offset).take (P.cellsOf f.type)) = some d := by
  have h1 := hf i f hi
  obtain ⟨h2, _⟩ := Array.getElem?_eq_some_iff.1 hi
  rw [List.getElem?_eq_getElem (by omega)] at h1
  exact ⟨_, h1⟩
end
def allRo : List T → Bool
  | [] => true
  | t :: ts => !t.isOwn && allRo ts
theorem CRepL_ro {w : World} {fz : Nat → Prop} {hs : List Value} : ∀ {ts : List T} {vs : List Value}, RoL w fz ts vs → allRo ts = true → CRepL w fz hs (ts.map C.t) (fun _ => False) vs
  | [], vs, h, _ => by simpa only [RoL, List.map_nil, CRepL] using h
  | t :: ts, vs, h, hr => by
    simp only [RoL] at h
    obtain ⟨u, us, rfl, h1, h2⟩ := h
    simp only [allRo, Bool.and_eq_true, Bool.not_eq_true'] at hr
    simp only [List.map_cons, CRepL, CRep]
    exact ⟨u, us, fun _ => False, fun _ => False, rfl, fun _ h => h.elim, fun _ h => h, roOwn (fun sz rows e => by rw [e] at hr; simp [T.isOwn] at hr) h1, CRepL_ro h2 hr.2⟩
end Go.H
end
section
set_option maxRecDepth 100000
set_option linter.unusedVariables false
set_option linter.unusedSimpArgs false
namespace Go.H
open Go Go.Proofs.Tryz
section
variable {H : Type} {enc : TypeId × Value → H} {w : World} {base : Nat} {spare : Nat → Bool} {held : Bool}
theorem cells25 : prog.cellsOf 25 = 3 := by kernel_rfl
theorem cells2 : prog.cellsOf 2 = 1 := by kernel_rfl
theorem cells170 : prog.cellsOf 170 = 5 := by kernel_rfl
theorem cells4 : prog.cellsOf 4 = 1 := by kernel_rfl
theorem cells22 : prog.cellsOf 22 = 1 := by kernel_rfl
theorem cells158 : prog.cellsOf 158 = 4 := by kernel_rfl
theorem cells156 : prog.cellsOf 156 = 1 := by kernel_rfl
theorem cells23 : prog.cellsOf 23 = 1 := by kernel_rfl
theorem cells27 : prog.cellsOf 27 = 6 := by kernel_rfl
theorem cells81 : prog.cellsOf 81 = 4 := by kernel_rfl
theorem cells188 : prog.cellsOf 188 = 3 := by kernel_rfl
theorem cells79 : prog.cellsOf 79 = 1 := by kernel_rfl
theorem cells83 : prog.cellsOf 83 = 9 := by kernel_rfl
theorem cells94 : prog.cellsOf 94 = 4 := by kernel_rfl
theorem cells96 : prog.cellsOf 96 = 7 := by kernel_rfl
theorem cells44 : prog.cellsOf 44 = 1 := by kernel_rfl
theorem of_170 {fuel : Nat} {cs : List Value} {d : DataW H × List MemPlace} (h : DataW.trod enc prog w base spare held fuel 170 cs = some d) : ∃ x : Backend, RoL w (okW w) (eBackend x) cs ∧ (fun _ => True) x := by
  obtain ⟨xs, n, rfl, _, hl, hxl, hf⟩ := DataW.trod_struct underlying170 h
  rw [cells170] at hl
  obtain ⟨_, h0⟩ : ∃ d, DataW.trod enc prog w base spare held n 2 ((cs.drop 0).take (prog.cellsOf 2)) = some d := fld_of hf hxl 0 rfl
  rw [cells2] at h0
  obtain ⟨x0, r0⟩ := int_of underlying2 h0
  obtain ⟨_, h1⟩ : ∃ d, DataW.trod enc prog w base spare held n 2 ((cs.drop 1).take (prog.cellsOf 2)) = some d := fld_of hf hxl 1 rfl
  rw [cells2] at h1
  obtain ⟨x1, r1⟩ := int_of underlying2 h1
  obtain ⟨_, h2⟩ : ∃ d, DataW.trod enc prog w base spare held n 2 ((cs.drop 2).take (prog.cellsOf 2)) = some d := fld_of hf hxl 2 rfl
  rw [cells2] at h2
  obtain ⟨x2, r2⟩ := int_of underlying2 h2
  obtain ⟨_, h3⟩ : ∃ d, DataW.trod enc prog w base spare held n 2 ((cs.drop 3).take (prog.cellsOf 2)) = some d := fld_of hf hxl 3 rfl
  rw [cells2] at h3
  obtain ⟨x3, r3⟩ := int_of underlying2 h3
  obtain ⟨_, h4⟩ : ∃ d, DataW.trod enc prog w base spare held n 4 ((cs.drop 4).take (prog.cellsOf 4)) = some d := fld_of hf hxl 4 rfl
  rw [cells4] at h4
  obtain ⟨x4, r4⟩ := bool_of underlying4 h4
  refine ⟨⟨x0, x1, x2, x3, x4⟩, ?_, trivial⟩
  exact (RoL_cat (o := 0) (n := 1) r0 (RoL_cat (o := 1) (n := 1) r1 (RoL_cat (o := 2) (n := 1) r2 (RoL_cat (o := 3) (n := 1) r3 (RoL_end (o := 4) (n := 1) r4 hl)))))
theorem of_158 {fuel : Nat} {cs : List Value} {d : DataW H × List MemPlace} (h : DataW.trod enc prog w base spare held fuel 158 cs = some d) : ∃ x : Vip, RoL w (okW w) (eVip false x) cs ∧ qVip x := by
  obtain ⟨xs, n, rfl, _, hl, hxl, hf⟩ := DataW.trod_struct underlying158 h
  rw [cells158] at hl
  obtain ⟨_, h0⟩ : ∃ d, DataW.trod enc prog w base spare held n 2 ((cs.drop 0).take (prog.cellsOf 2)) = some d := fld_of hf hxl 0 rfl
  rw [cells2] at h0
  obtain ⟨x0, r0⟩ := int_of underlying2 h0
  obtain ⟨_, h1⟩ : ∃ d, DataW.trod enc prog w base spare held n 2 ((cs.drop 1).take (prog.cellsOf 2)) = some d := fld_of hf hxl 1 rfl
  rw [cells2] at h1
  obtain ⟨x1, r1⟩ := int_of underlying2 h1
  obtain ⟨_, h2⟩ : ∃ d, DataW.trod enc prog w base spare held n 2 ((cs.drop 2).take (prog.cellsOf 2)) = some d := fld_of hf hxl 2 rfl
  rw [cells2] at h2
  obtain ⟨x2, r2⟩ := int_of underlying2 h2
  obtain ⟨_, h3⟩ : ∃ d, DataW.trod enc prog w base spare held n 156 ((cs.drop 3).take (prog.cellsOf 156)) = some d := fld_of hf hxl 3 rfl
  rw [cells156] at h3
  obtain ⟨x3, r3, l3, q3⟩ := sl_of eI_i64 (fun _ => True) 1 underlying156 cells2 (fun _ => rfl) (by decide) (fun n cs d h => by obtain ⟨x, hx⟩ := int_of underlying2 h; exact ⟨x, hx, trivial⟩) h3
  refine ⟨⟨x0, x1, x2, x3⟩, ?_, l3⟩
  exact (RoL_cat (o := 0) (n := 1) r0 (RoL_cat (o := 1) (n := 1) r1 (RoL_cat (o := 2) (n := 1) r2 (RoL_end (o := 3) (n := 1) r3 hl))))
theorem of_25 {fuel : Nat} {cs : List Value} {d : DataW H × List MemPlace} (h : DataW.trod enc prog w base spare held fuel 25 cs = some d) : ∃ x : Config, RoL w (okW w) (eConfig false x) cs ∧ qConfig x := by
  obtain ⟨xs, n, rfl, _, hl, hxl, hf⟩ := DataW.trod_struct underlying25 h
  rw [cells25] at hl
  obtain ⟨_, h0⟩ : ∃ d, DataW.trod enc prog w base spare held n 2 ((cs.drop 0).take (prog.cellsOf 2)) = some d := fld_of hf hxl 0 rfl
  rw [cells2] at h0
  obtain ⟨x0, r0⟩ := int_of underlying2 h0
  obtain ⟨_, h1⟩ : ∃ d, DataW.trod enc prog w base spare held n 22 ((cs.drop 1).take (prog.cellsOf 22)) = some d := fld_of hf hxl 1 rfl
  rw [cells22] at h1
  obtain ⟨x1, r1, l1, q1⟩ := sl_of eBackend (fun _ => True) 5 underlying22 cells170 (fun _ => rfl) (by decide) (fun n cs d h => of_170 h) h1
  obtain ⟨_, h2⟩ : ∃ d, DataW.trod enc prog w base spare held n 23 ((cs.drop 2).take (prog.cellsOf 23)) = some d := fld_of hf hxl 2 rfl
  rw [cells23] at h2
  obtain ⟨x2, r2, l2, q2⟩ := sl_of (eVip false) qVip 4 underlying23 cells158 (fun _ => rfl) (by decide) (fun n cs d h => of_158 h) h2
  refine ⟨⟨x0, x1, x2⟩, ?_, ⟨l1, ⟨l2, q2⟩⟩⟩
  exact (RoL_cat (o := 0) (n := 1) r0 (RoL_cat (o := 1) (n := 1) r1 (RoL_end (o := 2) (n := 1) r2 hl)))
theorem of_27 {fuel : Nat} {cs : List Value} {d : DataW H × List MemPlace} (h : DataW.trod enc prog w base spare held fuel 27 cs = some d) : ∃ x : Cmd, RoL w (okW w) (eCmd x) cs ∧ (fun _ => True) x := by
  obtain ⟨xs, n, rfl, _, hl, hxl, hf⟩ := DataW.trod_struct underlying27 h
  rw [cells27] at hl
  obtain ⟨_, h0⟩ : ∃ d, DataW.trod enc prog w base spare held n 2 ((cs.drop 0).take (prog.cellsOf 2)) = some d := fld_of hf hxl 0 rfl
  rw [cells2] at h0
  obtain ⟨x0, r0⟩ := int_of underlying2 h0
  obtain ⟨_, h1⟩ : ∃ d, DataW.trod enc prog w base spare held n 2 ((cs.drop 1).take (prog.cellsOf 2)) = some d := fld_of hf hxl 1 rfl
  rw [cells2] at h1
  obtain ⟨x1, r1⟩ := int_of underlying2 h1
  obtain ⟨_, h2⟩ : ∃ d, DataW.trod enc prog w base spare held n 2 ((cs.drop 2).take (prog.cellsOf 2)) = some d := fld_of hf hxl 2 rfl
  rw [cells2] at h2
  obtain ⟨x2, r2⟩ := int_of underlying2 h2
  obtain ⟨_, h3⟩ : ∃ d, DataW.trod enc prog w base spare held n 2 ((cs.drop 3).take (prog.cellsOf 2)) = some d := fld_of hf hxl 3 rfl
  rw [cells2] at h3
  obtain ⟨x3, r3⟩ := int_of underlying2 h3
  obtain ⟨_, h4⟩ : ∃ d, DataW.trod enc prog w base spare held n 2 ((cs.drop 4).take (prog.cellsOf 2)) = some d := fld_of hf hxl 4 rfl
  rw [cells2] at h4
  obtain ⟨x4, r4⟩ := int_of underlying2 h4
  obtain ⟨_, h5⟩ : ∃ d, DataW.trod enc prog w base spare held n 2 ((cs.drop 5).take (prog.cellsOf 2)) = some d := fld_of hf hxl 5 rfl
  rw [cells2] at h5
  obtain ⟨x5, r5⟩ := int_of underlying2 h5
  refine ⟨⟨x0, x1, x2, x3, x4, x5⟩, ?_, trivial⟩
  exact (RoL_cat (o := 0) (n := 1) r0 (RoL_cat (o := 1) (n := 1) r1 (RoL_cat (o := 2) (n := 1) r2 (RoL_cat (o := 3) (n := 1) r3 (RoL_cat (o := 4) (n := 1) r4 (RoL_end (o := 5) (n := 1) r5 hl))))))
theorem of_188 {fuel : Nat} {cs : List Value} {d : DataW H × List MemPlace} (h : DataW.trod enc prog w base spare held fuel 188 cs = some d) : ∃ x : Session, RoL w (okW w) (eSession x) cs ∧ (fun _ => True) x := by
  obtain ⟨xs, n, rfl, _, hl, hxl, hf⟩ := DataW.trod_struct underlying188 h
  rw [cells188] at hl
  obtain ⟨_, h0⟩ : ∃ d, DataW.trod enc prog w base spare held n 2 ((cs.drop 0).take (prog.cellsOf 2)) = some d := fld_of hf hxl 0 rfl
  rw [cells2] at h0
  obtain ⟨x0, r0⟩ := int_of underlying2 h0
  obtain ⟨_, h1⟩ : ∃ d, DataW.trod enc prog w base spare held n 2 ((cs.drop 1).take (prog.cellsOf 2)) = some d := fld_of hf hxl 1 rfl
  rw [cells2] at h1
  obtain ⟨x1, r1⟩ := int_of underlying2 h1
  obtain ⟨_, h2⟩ : ∃ d, DataW.trod enc prog w base spare held n 2 ((cs.drop 2).take (prog.cellsOf 2)) = some d := fld_of hf hxl 2 rfl
  rw [cells2] at h2
  obtain ⟨x2, r2⟩ := int_of underlying2 h2
  refine ⟨⟨x0, x1, x2⟩, ?_, trivial⟩
  exact (RoL_cat (o := 0) (n := 1) r0 (RoL_cat (o := 1) (n := 1) r1 (RoL_end (o := 2) (n := 1) r2 hl)))
theorem of_81 {fuel : Nat} {cs : List Value} {d : DataW H × List MemPlace} (h : DataW.trod enc prog w base spare held fuel 81 cs = some d) : ∃ x : Machine, RoL w (okW w) (eMachine false x) cs ∧ qMachine x := by
  obtain ⟨xs, n, rfl, _, hl, hxl, hf⟩ := DataW.trod_struct underlying81 h
  rw [cells81] at hl
  obtain ⟨_, h0⟩ : ∃ d, DataW.trod enc prog w base spare held n 25 ((cs.drop 0).take (prog.cellsOf 25)) = some d := fld_of hf hxl 0 rfl
  rw [cells25] at h0
  obtain ⟨x0, r0, q0⟩ := of_25 h0
  obtain ⟨_, h1⟩ : ∃ d, DataW.trod enc prog w base spare held n 79 ((cs.drop 3).take (prog.cellsOf 79)) = some d := fld_of hf hxl 1 rfl
  rw [cells79] at h1
  obtain ⟨x1, r1, l1, q1⟩ := sl_of eSession (fun _ => True) 3 underlying79 cells188 (fun _ => rfl) (by decide) (fun n cs d h => of_188 h) h1
  refine ⟨⟨x0, x1⟩, ?_, ⟨q0, l1⟩⟩
  exact (RoL_cat (o := 0) (n := 3) r0 (RoL_end (o := 3) (n := 1) r1 hl))
theorem of_83 {fuel : Nat} {cs : List Value} {d : DataW H × List MemPlace} (h : DataW.trod enc prog w base spare held fuel 83 cs = some d) : ∃ x : Entry, RoL w (okW w) (eEntry x) cs ∧ (fun _ => True) x := by
  obtain ⟨xs, n, rfl, _, hl, hxl, hf⟩ := DataW.trod_struct underlying83 h
  rw [cells83] at hl
  obtain ⟨_, h0⟩ : ∃ d, DataW.trod enc prog w base spare held n 2 ((cs.drop 0).take (prog.cellsOf 2)) = some d := fld_of hf hxl 0 rfl
  rw [cells2] at h0
  obtain ⟨x0, r0⟩ := int_of underlying2 h0
  obtain ⟨_, h1⟩ : ∃ d, DataW.trod enc prog w base spare held n 2 ((cs.drop 1).take (prog.cellsOf 2)) = some d := fld_of hf hxl 1 rfl
  rw [cells2] at h1
  obtain ⟨x1, r1⟩ := int_of underlying2 h1
  obtain ⟨_, h2⟩ : ∃ d, DataW.trod enc prog w base spare held n 2 ((cs.drop 2).take (prog.cellsOf 2)) = some d := fld_of hf hxl 2 rfl
  rw [cells2] at h2
  obtain ⟨x2, r2⟩ := int_of underlying2 h2
  obtain ⟨_, h3⟩ : ∃ d, DataW.trod enc prog w base spare held n 27 ((cs.drop 3).take (prog.cellsOf 27)) = some d := fld_of hf hxl 3 rfl
  rw [cells27] at h3
  obtain ⟨x3, r3, q3⟩ := of_27 h3
  refine ⟨⟨x0, x1, x2, x3⟩, ?_, trivial⟩
  exact (RoL_cat (o := 0) (n := 1) r0 (RoL_cat (o := 1) (n := 1) r1 (RoL_cat (o := 2) (n := 1) r2 (RoL_end (o := 3) (n := 6) r3 hl))))
theorem ofs_58 {fuel : Nat} {cs : List Value} {d : DataW H × List MemPlace} (h : DataW.trod enc prog w base spare held fuel 58 cs = some d) : ∃ x : List Entry, RoL w (okW w) [.sl false 9 (x.map eEntry)] cs ∧ x.length ≤ 9223372036854775807 ∧ ∀ y ∈ x, (fun _ => True) y := by
  exact sl_of eEntry (fun _ => True) 9 underlying58 cells83 (fun _ => rfl) (by decide) (fun n cs d h => of_83 h) h
theorem ofs_44 {fuel : Nat} {cs : List Value} {d : DataW H × List MemPlace} (h : DataW.trod enc prog w base spare held fuel 44 cs = some d) : ∃ x : List Cmd, RoL w (okW w) [.sl false 6 (x.map eCmd)] cs ∧ x.length ≤ 9223372036854775807 ∧ ∀ y ∈ x, (fun _ => True) y := by
  exact sl_of eCmd (fun _ => True) 6 underlying44 cells27 (fun _ => rfl) (by decide) (fun n cs d h => of_27 h) h
theorem of_94 {fuel : Nat} {cs : List Value} {d : DataW H × List MemPlace} (h : DataW.trod enc prog w base spare held fuel 94 cs = some d) : ∃ x : Watch, RoL w (okW w) (eWatch false x) cs ∧ qWatch x := by
  obtain ⟨xs, n, rfl, _, hl, hxl, hf⟩ := DataW.trod_struct underlying94 h
  rw [cells94] at hl
  obtain ⟨_, h0⟩ : ∃ d, DataW.trod enc prog w base spare held n 4 ((cs.drop 0).take (prog.cellsOf 4)) = some d := fld_of hf hxl 0 rfl
  rw [cells4] at h0
  obtain ⟨x0, r0⟩ := bool_of underlying4 h0
  obtain ⟨_, h1⟩ : ∃ d, DataW.trod enc prog w base spare held n 25 ((cs.drop 1).take (prog.cellsOf 25)) = some d := fld_of hf hxl 1 rfl
  rw [cells25] at h1
  obtain ⟨x1, r1, q1⟩ := of_25 h1
  refine ⟨⟨x0, x1⟩, ?_, q1⟩
  exact (RoL_cat (o := 0) (n := 1) r0 (RoL_end (o := 1) (n := 3) r1 hl))
theorem of_96 {fuel : Nat} {cs : List Value} {d : DataW H × List MemPlace} (h : DataW.trod enc prog w base spare held fuel 96 cs = some d) : ∃ x : Update, RoL w (okW w) (eUpdate false x) cs ∧ qUpdate x := by
  obtain ⟨xs, n, rfl, _, hl, hxl, hf⟩ := DataW.trod_struct underlying96 h
  rw [cells96] at hl
  obtain ⟨_, h0⟩ : ∃ d, DataW.trod enc prog w base spare held n 2 ((cs.drop 0).take (prog.cellsOf 2)) = some d := fld_of hf hxl 0 rfl
  rw [cells2] at h0
  obtain ⟨x0, r0⟩ := int_of underlying2 h0
  obtain ⟨_, h1⟩ : ∃ d, DataW.trod enc prog w base spare held n 2 ((cs.drop 1).take (prog.cellsOf 2)) = some d := fld_of hf hxl 1 rfl
  rw [cells2] at h1
  obtain ⟨x1, r1⟩ := int_of underlying2 h1
  obtain ⟨_, h2⟩ : ∃ d, DataW.trod enc prog w base spare held n 4 ((cs.drop 2).take (prog.cellsOf 4)) = some d := fld_of hf hxl 2 rfl
  rw [cells4] at h2
  obtain ⟨x2, r2⟩ := bool_of underlying4 h2
  obtain ⟨_, h3⟩ : ∃ d, DataW.trod enc prog w base spare held n 25 ((cs.drop 3).take (prog.cellsOf 25)) = some d := fld_of hf hxl 3 rfl
  rw [cells25] at h3
  obtain ⟨x3, r3, q3⟩ := of_25 h3
  obtain ⟨_, h4⟩ : ∃ d, DataW.trod enc prog w base spare held n 44 ((cs.drop 6).take (prog.cellsOf 44)) = some d := fld_of hf hxl 4 rfl
  rw [cells44] at h4
  obtain ⟨x4, r4, l4, q4⟩ := sl_of eCmd (fun _ => True) 6 underlying44 cells27 (fun _ => rfl) (by decide) (fun n cs d h => of_27 h) h4
  refine ⟨⟨x0, x1, x2, x3, x4⟩, ?_, ⟨q3, l4⟩⟩
  exact (RoL_cat (o := 0) (n := 1) r0 (RoL_cat (o := 1) (n := 1) r1 (RoL_cat (o := 2) (n := 1) r2 (RoL_cat (o := 3) (n := 3) r3 (RoL_end (o := 6) (n := 1) r4 hl)))))
theorem ofs_113 {fuel : Nat} {cs : List Value} {d : DataW H × List MemPlace} (h : DataW.trod enc prog w base spare held fuel 113 cs = some d) : ∃ x : List Update, RoL w (okW w) [.sl false 7 (x.map (eUpdate false))] cs ∧ x.length ≤ 9223372036854775807 ∧ ∀ y ∈ x, qUpdate y := by
  exact sl_of (eUpdate false) qUpdate 7 underlying113 cells96 (fun _ => rfl) (by decide) (fun n cs d h => of_96 h) h
end
end Go.H
end
section
set_option maxRecDepth 100000
set_option maxHeartbeats 4000000
set_option cbv.maxSteps 4000000
set_option linter.unusedVariables false
set_option linter.unusedSimpArgs false
namespace Go.H
open Go Go.Proofs.Tryz
variable [Inv prog]
theorem s_laws_szEntryS (rows : List (List T)) (l : Int) (h0 : -1 ≤ l) (h1 : l ≤ 1048576) (hl : rows.length ≤ 9223372036854775807) : SemX prog 29 [aT (.sl false 9 rows), aI l] [] [rI (szL rows.length l)] [] := by
 refine goF [] [] [] func29 ?_
 refine D ?_
 refine cC (fun c0 => ?_) (fun c0 => ?_)
 · skip
   refine D ?_
   refine E ?_
   first
   | exact trivial
   | simp [szL, *]
 · skip
   refine D ?_
   refine E ?_
   first
   | exact trivial
   | simp [szL, *]
end Go.H
end
section
set_option linter.unusedVariables false
set_option linter.unusedSimpArgs false
namespace Go.H
open Go
def cmdZero (c : Cmd) : Bool := decide (c.kind = 0) && (decide (c.expect = 0) && (decide (c.name = 0) && (decide (c.addr = 0) && (decide (c.number = 0) && decide (c.proto = 0)))))
def entryFault (x : Entry) : Int :=
  if !inR x.term 1 100000 || !inR x.client 0 999 || !inR x.seq 0 1000000 then 3 else
  if decide (x.client = 0) ≠ decide (x.seq = 0) then 1 else
  if x.client ≠ 0 then cmdFault x.cmd else
  if !cmdZero x.cmd then 1 else 0
def isSe (s : Session) : Bool := inR s.client 1 999 && inR s.seq 1 1000000 && inR s.code 0 10
def seBad (xs : List Session) (i : Nat) : Int := if isSe (xs.getD i zSession) = false then 3 else if 0 < i ∧ (xs.getD i zSession).client ≤ (xs.getD (i - 1) zSession).client then 1 else 0
def machineFault (m : Machine) : Int := if configFault m.config ≠ 0 then configFault m.config else if 40 < m.sessions.length then 2 else scan (seBad m.sessions) m.sessions.length 0
def isSes (c : Int) (s : Session) : Bool := decide (s.client = c)
def seAt (xs : List Session) (c : Int) : Int := idxG (isSes c) xs
def ltS (c : Int) (s : Session) : Bool := decide (s.client < c)
def lbS (xs : List Session) (c : Int) : Nat := preG (ltS c) xs
def hasS (xs : List Session) (c : Int) : Bool := decide (lbS xs c < xs.length) && decide ((xs.getD (lbS xs c) zSession).client = c)
def risesS (xs : List Session) : Prop := ∀ i, 0 < i → i < xs.length → (xs.getD (i - 1) zSession).client < (xs.getD i zSession).client
structure MaOk (m : Machine) : Prop where
  cf : CfOk m.config
  s40 : m.sessions.length ≤ 40
  se : ∀ i, i < m.sessions.length → isSe (m.sessions.getD i zSession) = true
  rs : risesS m.sessions
theorem ma_ok {m : Machine} (h : machineFault m = 0) : configFault m.config = 0 ∧ MaOk m := by
  unfold machineFault at h
  split at h
  · rename_i g; exact absurd h g
  rename_i g1
  have g1 : configFault m.config = 0 := by omega
  split at h
  · cases h
  rename_i g2
  have B : ∀ i, i < m.sessions.length → isSe (m.sessions.getD i zSession) = true ∧ ¬ (0 < i ∧ (m.sessions.getD i zSession).client ≤ (m.sessions.getD (i - 1) zSession).client) := by
    intro i hi
    have := scan_zero.1 h i (by omega) hi
    unfold seBad at this
    split at this
    · cases this
    rename_i e1
    split at this
    · cases this
    rename_i e2
    exact ⟨by simpa using e1, e2⟩
  exact ⟨g1, cf_ok g1, by omega, fun i hi => (B i hi).1, fun i h0 hi => by have := (B i hi).2; omega⟩
theorem ma_fault {m : Machine} (h0 : configFault m.config = 0) (K : MaOk m) : machineFault m = 0 := by
  unfold machineFault
  rw [if_neg (by omega), if_neg (by have := K.s40; omega), scan_zero]
  intro j _ hj
  unfold seBad
  rw [if_neg (by rw [K.se j hj]; simp), if_neg]
  rintro ⟨h1, h2⟩
  have := K.rs j h1 hj
  omega
theorem risesS_lt {xs : List Session} (h : risesS xs) {i : Nat} : ∀ {j : Nat}, i < j → j < xs.length → (xs.getD i zSession).client < (xs.getD j zSession).client
  | 0, h1, _ => by omega
  | j + 1, h1, h2 => by
    have e := h (j + 1) (by omega) h2
    simp only [Nat.add_sub_cancel] at e
    by_cases hij : i = j
    · subst hij; exact e
    · have := risesS_lt h (i := i) (j := j) (by omega) (by omega)
      omega
theorem lbS_le (xs : List Session) (c : Int) : lbS xs c ≤ xs.length := preG_le ..
theorem lbS_lt {xs : List Session} {c : Int} {i : Nat} (h : i < lbS xs c) : (xs.getD i zSession).client < c := by
  have := preG_lt zSession h
  simpa only [ltS, decide_eq_true_eq] using this
theorem lbS_at {xs : List Session} {c : Int} (h : lbS xs c < xs.length) : c ≤ (xs.getD (lbS xs c) zSession).client := by
  have : ltS c (xs.getD (lbS xs c) zSession) = false := preG_at zSession h
  simp only [ltS, decide_eq_false_iff_not] at this
  omega
theorem lbS_eq {xs : List Session} {c : Int} {i : Nat} (h : i ≤ xs.length) (h1 : ∀ p, p < i → (xs.getD p zSession).client < c) (h2 : i < xs.length → c ≤ (xs.getD i zSession).client) : lbS xs c = i :=
  preG_eq zSession h (fun q hq => by simpa only [ltS, decide_eq_true_eq] using h1 q hq) (fun hi => by have := h2 hi; simp only [ltS, decide_eq_false_iff_not]; omega)
theorem seAt_eq {xs : List Session} (hr : risesS xs) (c : Int) : seAt xs c = if hasS xs c = true then (lbS xs c : Int) else -1 := by
  cases h : hasS xs c with
  | true =>
    simp only [hasS, Bool.and_eq_true, decide_eq_true_eq] at h
    rw [if_pos rfl]
    exact idxG_some zSession h.1 (fun j hj => by have := lbS_lt hj; simp only [isSes, decide_eq_false_iff_not]; omega) (by simpa only [isSes, decide_eq_true_eq] using h.2)
  | false =>
    rw [if_neg (by simp)]
    refine idxG_none zSession fun j hj => ?_
    simp only [isSes, decide_eq_false_iff_not]
    intro e
    have hl : lbS xs c = j := lbS_eq (by omega) (fun p hp => by have := risesS_lt hr hp hj; omega) (fun _ => by omega)
    simp only [hasS, hl, hj, e, decide_true, Bool.and_self] at h
    cases h
def stepP (s : Session) (a : Bool × List Session) (y : Session) : Bool × List Session :=
  (a.1 || decide (s.client ≤ y.client), a.2 ++ (if a.1 = false ∧ s.client ≤ y.client then [s] else []) ++ (if y.client ≠ s.client then [y] else []))
def foldP (xs : List Session) (s : Session) (i : Nat) : Bool × List Session := (xs.take i).foldl (stepP s) (false, [])
def putL (xs : List Session) (s : Session) : List Session := if (foldP xs s xs.length).1 = true then (foldP xs s xs.length).2 else (foldP xs s xs.length).2 ++ [s]
theorem foldP_zero (xs : List Session) (s : Session) : foldP xs s 0 = (false, []) := rfl
theorem foldP_succ {xs : List Session} (s : Session) {i : Nat} (h : i < xs.length) : foldP xs s (i + 1) = stepP s (foldP xs s i) (xs.getD i zSession) := by
  unfold foldP
  rw [take_snoc zSession h, List.foldl_append]
  rfl
theorem foldP_len (xs : List Session) (s : Session) : ∀ i, (foldP xs s i).2.length ≤ 2 * i
  | 0 => by simp [foldP]
  | i + 1 => by
    by_cases h : i < xs.length
    · rw [foldP_succ s h]
      have := foldP_len xs s i
      unfold stepP
      simp only [List.length_append]
      have e1 : (if (foldP xs s i).1 = false ∧ s.client ≤ (xs.getD i zSession).client then [s] else []).length ≤ 1 := by split <;> simp
      have e2 : (if (xs.getD i zSession).client ≠ s.client then [xs.getD i zSession] else []).length ≤ 1 := by split <;> simp
      omega
    · have e : foldP xs s (i + 1) = foldP xs s i := by unfold foldP; rw [List.take_of_length_le (by omega), List.take_of_length_le (by omega)]
      rw [e]
      have := foldP_len xs s i
      omega
def putS (xs : List Session) (s : Session) : List Session := xs.take (lbS xs s.client) ++ s :: xs.drop (if hasS xs s.client = true then lbS xs s.client + 1 else lbS xs s.client)
def putR (s : Session) : Bool → List Session → List Session
  | d, [] => if d = true then [] else [s]
  | d, y :: ys => (if d = false ∧ s.client ≤ y.client then [s] else []) ++ (if y.client ≠ s.client then [y] else []) ++ putR s (d || decide (s.client ≤ y.client)) ys
theorem putR_fold (s : Session) : ∀ (ys : List Session) (a : Bool × List Session), (if (ys.foldl (stepP s) a).1 = true then (ys.foldl (stepP s) a).2 else (ys.foldl (stepP s) a).2 ++ [s]) = a.2 ++ putR s a.1 ys
  | [], a => by
    show (if a.1 = true then a.2 else a.2 ++ [s]) = a.2 ++ (if a.1 = true then [] else [s])
    split <;> simp
  | y :: ys, a => by
    have := putR_fold s ys (stepP s a y)
    rw [putR]
    refine this.trans ?_
    simp only [stepP, List.append_assoc]
theorem putL_R (xs : List Session) (s : Session) : putL xs s = putR s false xs := by
  unfold putL foldP
  rw [List.take_of_length_le (Nat.le_refl _)]
  simpa using putR_fold s xs (false, [])
theorem putR_true {s : Session} : ∀ {ys : List Session}, (∀ y ∈ ys, y.client ≠ s.client) → putR s true ys = ys
  | [], _ => rfl
  | y :: ys, h => by
    rw [putR, if_neg (by simp), if_pos (h y (by simp)), Bool.true_or, putR_true fun z hz => h z (by simp [hz])]
    rfl
theorem risesS_tail {y : Session} {ys : List Session} (h : risesS (y :: ys)) : risesS ys ∧ ∀ z ∈ ys, y.client < z.client := by
  refine ⟨fun i h0 hi => ?_, fun z hz => ?_⟩
  · have := h (i + 1) (by omega) (by simpa using hi)
    obtain ⟨k, rfl⟩ : ∃ k, i = k + 1 := ⟨i - 1, by omega⟩
    simpa using this
  · obtain ⟨j, hj, rfl⟩ := List.getElem_of_mem hz
    have := risesS_lt h (i := 0) (j := j + 1) (by omega) (by simpa using hj)
    simp only [List.getD_cons_zero, List.getD_cons_succ] at this
    rwa [List.getD_eq_getElem?_getD, List.getElem?_eq_getElem hj, Option.getD_some] at this
theorem lbS_cons_lt {y : Session} {ys : List Session} {c : Int} (h : y.client < c) : lbS (y :: ys) c = lbS ys c + 1 := by
  unfold lbS preG
  rw [List.takeWhile_cons_of_pos (by simpa [ltS] using h)]
  rfl
theorem lbS_cons_ge {y : Session} {ys : List Session} {c : Int} (h : c ≤ y.client) : lbS (y :: ys) c = 0 := by
  unfold lbS preG
  rw [List.takeWhile_cons_of_neg (by simp [ltS]; omega)]
  rfl
theorem hasS_cons_lt {y : Session} {ys : List Session} {c : Int} (h : y.client < c) : hasS (y :: ys) c = hasS ys c := by
  unfold hasS
  rw [lbS_cons_lt h]
  simp
theorem putL_eq (s : Session) : ∀ {xs : List Session}, risesS xs → putL xs s = putS xs s
  | [], _ => by
    rw [putL_R]
    unfold putS
    simp [putR]
  | y :: ys, h => by
    obtain ⟨h1, h2⟩ := risesS_tail h
    have ih := putL_eq s h1
    rw [putL_R] at ih ⊢
    rw [putR]
    rcases Int.lt_trichotomy y.client s.client with e | e | e
    · rw [if_neg (by omega), if_pos (by omega)]
      have : (false || decide (s.client ≤ y.client)) = false := by simp; omega
      rw [this, ih]
      unfold putS
      rw [lbS_cons_lt e, hasS_cons_lt e]
      split <;> simp
    · rw [if_pos ⟨rfl, by omega⟩, if_neg (by omega)]
      have : (false || decide (s.client ≤ y.client)) = true := by simp; omega
      rw [this, putR_true fun z hz => by have := h2 z hz; omega]
      have e0 : lbS (y :: ys) s.client = 0 := lbS_cons_ge (by omega)
      have e1 : hasS (y :: ys) s.client = true := by unfold hasS; rw [e0]; simp [e]
      unfold putS
      rw [e0, e1]
      simp
    · rw [if_pos ⟨rfl, by omega⟩, if_pos (by omega)]
      have : (false || decide (s.client ≤ y.client)) = true := by simp; omega
      rw [this, putR_true fun z hz => by have := h2 z hz; omega]
      have e0 : lbS (y :: ys) s.client = 0 := lbS_cons_ge (by omega)
      have e1 : hasS (y :: ys) s.client = false := by unfold hasS; rw [e0]; simp; omega
      unfold putS
      rw [e0, e1]
      simp
theorem putS_len (xs : List Session) (s : Session) : (putS xs s).length ≤ xs.length + 1 := by
  have := lbS_le xs s.client
  unfold putS
  split <;> simp <;> omega
def badM (k : Int) : MachineResult := ⟨k, 0, false, zMachine⟩
def oldM (m : Machine) (x : Entry) : Bool := hasS m.sessions x.client && decide (x.seq ≤ (m.sessions.getD (lbS m.sessions x.client) zSession).seq)
def enterM (m : Machine) (x : Entry) : MachineResult :=
  if x.client = 0 then ⟨0, 0, false, m⟩ else
  if oldM m x = true then ⟨0, if (m.sessions.getD (lbS m.sessions x.client) zSession).seq = x.seq then (m.sessions.getD (lbS m.sessions x.client) zSession).code else 9, false, m⟩ else
  if hasS m.sessions x.client = false ∧ 40 ≤ m.sessions.length then badM 2 else
  ⟨0, (applyR m.config x.cmd).code, true, ⟨if (applyR m.config x.cmd).code = 0 then (applyR m.config x.cmd).config else m.config, putS m.sessions ⟨x.client, x.seq, (applyR m.config x.cmd).code⟩⟩⟩
def applyEntry (m : Machine) (x : Entry) : MachineResult :=
  if machineFault m ≠ 0 then badM (machineFault m) else if entryFault x ≠ 0 then badM (entryFault x) else enterM m x
def limM (b : Nat) (m : Machine) : Prop := limG b m.config ∧ m.sessions.length ≤ b
theorem enterM_lim {b : Nat} {m : Machine} (h : limM b m) (x : Entry) : limM (b + 1) (enterM m x).machine := by
  have hm : limM (b + 1) m := ⟨limG_mono (by omega) h.1, Nat.le_succ_of_le h.2⟩
  have hz : limM (b + 1) zMachine := ⟨zConfig_lim _, by simp [zMachine]⟩
  unfold enterM
  repeat' split
  · exact hm
  · exact hm
  · exact hm
  · exact hz
  · refine ⟨applyR_lim h.1 x.cmd, ?_⟩
    have := putS_len m.sessions ⟨x.client, x.seq, (applyR m.config x.cmd).code⟩
    have := h.2
    show (putS _ _).length ≤ _
    omega
  · refine ⟨hm.1, ?_⟩
    have := putS_len m.sessions ⟨x.client, x.seq, (applyR m.config x.cmd).code⟩
    have := h.2
    show (putS _ _).length ≤ _
    omega
theorem applyEntry_lim {b : Nat} {m : Machine} (h : limM b m) (x : Entry) : limM (b + 1) (applyEntry m x).machine := by
  have hz : limM (b + 1) zMachine := ⟨zConfig_lim _, by simp [zMachine]⟩
  unfold applyEntry
  repeat' split
  · exact hz
  · exact hz
  · exact enterM_lim h x
def szMachine (x : Machine) (l : Int) : Int := szT (szConfig x.config l) fun l => szT (szL x.sessions.length l) fun l => l
theorem szMachine_lim {x : Machine} {l : Int} (h : 0 ≤ szMachine x l) (hl : l ≤ 1048576) : limM 1048576 x := by
  unfold szMachine at h
  obtain ⟨a1, a2, _⟩ := szT_ge h
  obtain ⟨b1, b2, _⟩ := szT_ge a2
  have h2 := (szConfig_lo x.config l hl).2
  have e1 := szL_ge b1
  exact ⟨szConfig_lim a1 hl, by omega⟩
def mSe (_ : Session) (k : Int) : Session := ⟨k, k + 1, k + 1 + 1⟩
def sSe (_ : Session) (k : Int) : Int := k + 1 + 1 + 1
theorem sSe_up (x : Session) (k : Int) : k ≤ sSe x k := by unfold sSe; omega
def mM (x : Machine) (k : Int) : Machine := ⟨mG x.config k, mkL mSe sSe x.sessions (sG x.config k)⟩
def sM (x : Machine) (k : Int) : Int := mkK sSe x.sessions (sG x.config k)
theorem sM_up (x : Machine) (k : Int) : k ≤ sM x k := by
  have h1 := sG_up x.config k
  have h2 := mkK_mono sSe_up x.sessions (sG x.config k)
  unfold sM; omega
theorem mkSe_bd (xs : List Session) (k : Int) : mkK sSe xs k ≤ k + 3 * xs.length := mkK_bd (by omega) fun x _ k => by unfold sSe; omega
theorem sM_bd {x : Machine} (hx : limM 2097152 x) {k : Int} (hk : k ≤ 4000000000000000000) : sM x k ≤ k + 4398200000000 := by
  have h1 := sG_bd hx.1 hk
  have h2 := mkSe_bd x.sessions (sG x.config k)
  have h3 := hx.2
  unfold sM
  omega
theorem seAt_ge {xs : List Session} (hr : risesS xs) (c : Int) : (0 ≤ seAt xs c ↔ hasS xs c = true) ∧ (hasS xs c = true → seAt xs c = lbS xs c) := by
  rw [seAt_eq hr]
  cases hasS xs c <;> simp
theorem old_at {m : Machine} (hr : risesS m.sessions) (x : Entry) : (decide (0 ≤ seAt m.sessions x.client) && decide (x.seq ≤ (m.sessions.getD (seAt m.sessions x.client).toNat zSession).seq)) = oldM m x := by
  obtain ⟨h1, h2⟩ := seAt_ge hr x.client
  unfold oldM
  cases h : hasS m.sessions x.client with
  | true =>
    have e := h2 h
    rw [e]
    simp
  | false =>
    have : ¬ 0 ≤ seAt m.sessions x.client := by rw [h1, h]; simp
    simp [this]
theorem hasS_lt {xs : List Session} {c : Int} (h : hasS xs c = true) : lbS xs c < xs.length := by
  simp only [hasS, Bool.and_eq_true, decide_eq_true_eq] at h
  exact h.1
theorem putS_has {xs : List Session} {s : Session} (h : hasS xs s.client = true) : (xs.map eSession).set (lbS xs s.client) (eSession s) = (putS xs s).map eSession := by
  have hl := hasS_lt h
  unfold putS
  rw [if_pos h, List.set_eq_take_append_cons_drop, if_pos (by simpa using hl)]
  simp
theorem ent_cmd {x : Entry} (h : entryFault x = 0) (hc : x.client ≠ 0) : cmdFault x.cmd = 0 := by
  unfold entryFault at h
  grind
theorem zMachine_ok : MaOk zMachine := ⟨cf_ok (by rfl), by simp [zMachine], fun i h => by simp [zMachine] at h, fun i _ h => by simp [zMachine] at h⟩
def freshM (r : MachineResult) : Bool := r.fresh && decide (r.reply = 0)
def addC (al : List Config) (r : MachineResult) : List Config := if freshM r = true then al ++ [r.machine.config] else al
def repR : List Entry → Machine → Int → List Config → MachineResult × List Config
  | [], m, rp, al => (⟨0, rp, false, m⟩, al)
  | x :: xs, m, rp, al =>
    if entryFault x ≠ 0 then (badM (entryFault x), []) else
    if (enterM m x).code ≠ 0 then (badM (enterM m x).code, []) else
    repR xs (enterM m x).machine (enterM m x).reply (addC al (enterM m x))
def replayM (xs : List Entry) : MachineResult × List Config := if 200 < xs.length then (badM 2, []) else repR xs zMachine 0 [zConfig]
theorem repR_drop {xs : List Entry} {i : Nat} (h : i < xs.length) (m : Machine) (rp : Int) (al : List Config) :
    repR (xs.drop i) m rp al = if entryFault (xs.getD i zEntry) ≠ 0 then (badM (entryFault (xs.getD i zEntry)), []) else
      if (enterM m (xs.getD i zEntry)).code ≠ 0 then (badM (enterM m (xs.getD i zEntry)).code, []) else
      repR (xs.drop (i + 1)) (enterM m (xs.getD i zEntry)).machine (enterM m (xs.getD i zEntry)).reply (addC al (enterM m (xs.getD i zEntry))) := by
  rw [drop_getD zEntry h, repR]
theorem repR_end (xs : List Entry) (m : Machine) (rp : Int) (al : List Config) : repR (xs.drop xs.length) m rp al = (⟨0, rp, false, m⟩, al) := by
  rw [List.drop_length, repR]
theorem enterM_code (m : Machine) (x : Entry) : (enterM m x).code = 0 ∨ enterM m x = badM 2 := by
  unfold enterM
  repeat' split
  · exact .inl rfl
  · exact .inl rfl
  · exact .inl rfl
  · exact .inr rfl
  · exact .inl rfl
  · exact .inl rfl
theorem enterM_bad {m : Machine} {x : Entry} (h : (enterM m x).code ≠ 0) : enterM m x = badM (enterM m x).code := by
  rcases enterM_code m x with h1 | h1
  · exact absurd h1 h
  · rw [h1]; rfl
theorem addC_len (al : List Config) (r : MachineResult) : (addC al r).length ≤ al.length + 1 := by
  unfold addC
  split <;> simp
structure MaP (m : Machine) : Prop where
  cf : configFault m.config = 0
  ok : MaOk m
  lim : limM 1048576 m
theorem pw_of {α : Type} (z : α) {R : α → α → Prop} (tr : ∀ a b c, R a b → R b c → R a c) : ∀ {xs : List α}, (∀ i, 0 < i → i < xs.length → R (xs.getD (i - 1) z) (xs.getD i z)) → xs.Pairwise R
  | [], _ => List.Pairwise.nil
  | [x], _ => by simp
  | x :: y :: ys, h => by
    have ih : (y :: ys).Pairwise R := pw_of z tr fun i h0 hi => by
      have := h (i + 1) (by omega) (by simpa using hi)
      obtain ⟨k, rfl⟩ : ∃ k, i = k + 1 := ⟨i - 1, by omega⟩
      simpa using this
    have hxy : R x y := by simpa using h 1 (by omega) (by simp)
    rw [List.pairwise_cons]
    refine ⟨fun w hw => ?_, ih⟩
    rcases List.mem_cons.1 hw with rfl | hw
    · exact hxy
    · exact tr _ _ _ hxy ((List.pairwise_cons.1 ih).1 w hw)
theorem of_pw {α : Type} (z : α) {R : α → α → Prop} {xs : List α} (h : xs.Pairwise R) (i : Nat) (h0 : 0 < i) (hi : i < xs.length) : R (xs.getD (i - 1) z) (xs.getD i z) := by
  rw [List.getD_eq_getElem?_getD, List.getD_eq_getElem?_getD, List.getElem?_eq_getElem hi, List.getElem?_eq_getElem (show i - 1 < xs.length by omega)]
  exact List.pairwise_iff_getElem.1 h (i - 1) i (by omega) hi (by omega)
theorem pw_put {α : Type} {R : α → α → Prop} {xs : List α} {b : α} {k : Nat} (h : xs.Pairwise R) (h1 : ∀ y ∈ xs.take k, R y b) (h2 : ∀ y ∈ xs.drop k, R b y) : (xs.take k ++ [b] ++ xs.drop k).Pairwise R := by
  have e : (xs.take k ++ xs.drop k).Pairwise R := by rw [List.take_append_drop]; exact h
  obtain ⟨p1, p2, p3⟩ := List.pairwise_append.1 e
  rw [List.append_assoc, List.pairwise_append]
  refine ⟨p1, ?_, fun a ha c hc => ?_⟩
  · rw [List.singleton_append, List.pairwise_cons]
    exact ⟨h2, p2⟩
  · rw [List.singleton_append] at hc
    rcases List.mem_cons.1 hc with rfl | hc
    · exact h1 a ha
    · exact p3 a ha c hc
theorem pw_cut {α : Type} {R : α → α → Prop} {xs : List α} (i : Nat) (h : xs.Pairwise R) : (cutG xs i).Pairwise R := by
  have e : (xs.take i ++ xs.drop i).Pairwise R := by rw [List.take_append_drop]; exact h
  obtain ⟨p1, p2, p3⟩ := List.pairwise_append.1 e
  unfold cutG
  have hs : (xs.drop (i + 1)).Sublist (xs.drop i) := by
    rw [← List.drop_drop]
    exact List.drop_sublist 1 _
  rw [List.pairwise_append]
  exact ⟨p1, p2.sublist hs, fun a ha c hc => p3 a ha c (hs.subset hc)⟩
theorem mem_getD {α : Type} (z : α) {xs : List α} {y : α} : y ∈ xs ↔ ∃ i, i < xs.length ∧ xs.getD i z = y := by
  constructor
  · intro h
    obtain ⟨j, hj, rfl⟩ := List.getElem_of_mem h
    exact ⟨j, hj, by rw [List.getD_eq_getElem?_getD, List.getElem?_eq_getElem hj, Option.getD_some]⟩
  · rintro ⟨i, hi, rfl⟩
    exact getD_mem z hi
theorem mem_preG {α : Type} {p : α → Bool} {xs : List α} {y : α} (h : y ∈ xs.take (preG p xs)) : p y = true := by
  unfold preG at h
  have e : xs.take (xs.takeWhile p).length = xs.takeWhile p := by
    obtain ⟨t, ht⟩ := List.takeWhile_prefix (p := p) (l := xs)
    conv => lhs; arg 2; rw [← ht]
    exact List.take_left' rfl
  rw [e] at h
  exact (List.all_takeWhile (p := p) (l := xs)) |> fun h2 => (List.all_eq_true.1 h2) _ h
theorem mem_drop_getD {α : Type} (z : α) {xs : List α} {k : Nat} {y : α} (h : y ∈ xs.drop k) : ∃ q, k ≤ q ∧ q < xs.length ∧ xs.getD q z = y := by
  obtain ⟨j, hj, rfl⟩ := List.getElem_of_mem h
  have hj2 : k + j < xs.length := by simp at hj; omega
  exact ⟨k + j, by omega, hj2, by rw [List.getD_eq_getElem?_getD, List.getElem?_eq_getElem hj2, Option.getD_some, ← List.getElem_drop (h := hj)]⟩
theorem findB_mem {bs : List Backend} {n : Int} : 0 ≤ findB bs n ↔ ∃ b ∈ bs, b.name = n := by
  unfold findB
  constructor
  · intro h
    obtain ⟨i, _, h2, h3, _⟩ := idxG_lt zBackend (q := isB n) (xs := bs) (by omega)
    exact ⟨_, getD_mem zBackend h2, by simpa [isB] using h3⟩
  · rintro ⟨b, hb, rfl⟩
    rcases idxG_cases zBackend (isB b.name) bs with ⟨h1, h2⟩ | ⟨i, h1, _⟩
    · obtain ⟨j, hj, e⟩ := (mem_getD zBackend).1 hb
      have := h2 j hj
      rw [e] at this
      simp [isB] at this
    · rw [h1]; omega
structure CfP (c : Config) : Prop where
  v0 : 0 ≤ c.version
  v1 : c.version ≤ 1000000
  b8 : c.backends.length ≤ 8
  v4 : c.vips.length ≤ 4
  bk : ∀ b ∈ c.backends, isBk b = true
  br : c.backends.Pairwise fun a b => a.name < b.name
  vp : ∀ v ∈ c.vips, isVp v = true
  vr : c.vips.Pairwise fun a b => behV a b = true
  nb : ∀ v ∈ c.vips, ∀ n ∈ v.names, ∃ b ∈ c.backends, b.name = n
  nr : ∀ v ∈ c.vips, v.names.Pairwise fun a b => a < b
theorem cf_p {c : Config} (K : CfOk c) : CfP c where
  v0 := K.v0
  v1 := K.v1
  b8 := K.b8
  v4 := K.v4
  bk b hb := by obtain ⟨i, hi, rfl⟩ := (mem_getD zBackend).1 hb; exact K.bk i hi
  br := pw_of (R := fun a b => a.name < b.name) zBackend (fun _ _ _ h1 h2 => Int.lt_trans h1 h2) K.br
  vp v hv := by obtain ⟨i, hi, rfl⟩ := (mem_getD zVip).1 hv; exact K.vp i hi
  vr := pw_of (R := fun a b => behV a b = true) zVip (fun _ _ _ h1 h2 => behV_trans h1 h2) K.vr
  nb v hv n hn := by
    obtain ⟨i, hi, rfl⟩ := (mem_getD zVip).1 hv
    have := K.nb i hi
    obtain ⟨j, hj, rfl⟩ := (mem_getD zI_i64).1 hn
    rcases idxG_cases zI_i64 (noB c.backends) (c.vips.getD i zVip).names with ⟨_, h2⟩ | ⟨k, h1, _⟩
    · have h3 := h2 j hj
      simp only [noB, decide_eq_false_iff_not] at h3
      exact findB_mem.1 (by omega)
    · simp only [hasG, h1, decide_eq_false_iff_not] at this
      omega
  nr v hv := by obtain ⟨i, hi, rfl⟩ := (mem_getD zVip).1 hv; exact pw_of (R := fun a b => a < b) zI_i64 (fun _ _ _ h1 h2 => Int.lt_trans h1 h2) (K.nr i hi)
theorem p_fault {c : Config} (K : CfP c) : configFault c = 0 := by
  have hv : inR c.version 0 1000000 = true := by
    have := K.v0; have := K.v1
    simp [inR]; omega
  have hb : scan (bkBad c.backends) c.backends.length 0 = 0 := by
    rw [scan_zero]
    intro j _ hj
    unfold bkBad
    rw [if_neg (by rw [K.bk _ (getD_mem zBackend hj)]; simp), if_neg]
    rintro ⟨h1, h2⟩
    have := of_pw zBackend K.br j h1 hj
    omega
  unfold configFault
  rw [if_neg (by rw [hv]; simp), if_neg (by have := K.b8; have := K.v4; omega), if_neg (by omega), scan_zero]
  intro i _ hi
  have hm := getD_mem zVip hi
  unfold vipBad
  rw [if_neg (by rw [K.vp _ hm]; simp), if_neg, if_neg]
  · rw [nmBad_zero]
    exact fun j h0 hj => of_pw zI_i64 (K.nr _ hm) j h0 hj
  · rw [hasG_false zI_i64 fun j hj => ?_]
    · simp
    · have := findB_mem.2 (K.nb _ hm _ (getD_mem zI_i64 hj))
      simp only [noB, decide_eq_false_iff_not]
      omega
  · rintro ⟨h1, h2⟩
    have := of_pw zVip K.vr i h1 hi
    rw [this] at h2
    cases h2
theorem pw_set {α : Type} (z : α) {R : α → α → Prop} {xs : List α} {i : Nat} {b : α} (h : xs.Pairwise R) (h1 : ∀ y, R y (xs.getD i z) → R y b) (h2 : ∀ y, R (xs.getD i z) y → R b y) : (xs.set i b).Pairwise R := by
  rw [List.pairwise_iff_getElem] at h ⊢
  intro p q hp hq hpq
  have hp' : p < xs.length := by simpa using hp
  have hq' : q < xs.length := by simpa using hq
  have := h p q hp' hq' hpq
  have e : ∀ (hi : i < xs.length), xs.getD i z = xs[i] := fun hi => by rw [List.getD_eq_getElem?_getD, List.getElem?_eq_getElem hi, Option.getD_some]
  rw [List.getElem_set, List.getElem_set]
  split
  · rename_i e1
    subst e1
    rw [if_neg (by omega)]
    exact h2 _ (by rw [e hp']; exact this)
  · split
    · rename_i e1
      subst e1
      exact h1 _ (by rw [e hq']; exact this)
    · exact this
theorem mem_set_of {α : Type} (z : α) {xs : List α} {i : Nat} {b y : α} (h : y ∈ xs) : y = xs.getD i z ∧ i < xs.length ∧ b ∈ xs.set i b ∨ y ∈ xs.set i b := by
  obtain ⟨j, hj, rfl⟩ := (mem_getD z).1 h
  by_cases e : j = i
  · subst e
    exact .inl ⟨rfl, hj, List.mem_iff_getElem.2 ⟨j, by simpa using hj, by simp⟩⟩
  · refine .inr (List.mem_iff_getElem.2 ⟨j, by simpa using hj, ?_⟩)
    rw [List.getElem_set_ne (fun h => e h.symm), List.getD_eq_getElem?_getD, List.getElem?_eq_getElem hj, Option.getD_some]
theorem cutG_of {α : Type} (z : α) {xs : List α} {i j : Nat} (hj : j < xs.length) (h : j ≠ i) : xs.getD j z ∈ cutG xs i := by
  unfold cutG
  rw [List.getD_eq_getElem?_getD, List.getElem?_eq_getElem hj, Option.getD_some, List.mem_append]
  rcases Nat.lt_or_gt_of_ne h with h | h
  · exact .inl (List.mem_take_iff_getElem.2 ⟨j, by omega, rfl⟩)
  · refine .inr (List.mem_drop_iff_getElem.2 ⟨j - (i + 1), by omega, ?_⟩)
    congr 1
    omega
theorem putG_old {α : Type} {p : α → Bool} {xs : List α} {b y : α} (h : y ∈ xs) : y ∈ putG p xs b := by
  unfold putG
  rw [← List.take_append_drop (preG p xs) xs] at h
  rcases List.mem_append.1 h with h | h
  · exact List.mem_append.2 (.inl (List.mem_append.2 (.inl h)))
  · exact List.mem_append.2 (.inr h)
theorem cmd_facts {x : Cmd} (h : cmdFault x = 0) : inR x.kind 1 9 = true ∧ (nd1 x.kind = true → inR x.name 1 999 = true) ∧ (nd2 x.kind = true → inR x.addr 0 4294967295 = true) ∧ (nd3 x.kind = true → isNum x = true) ∧ (nd4 x.kind = true → isPro x.proto = true) := by
  unfold cmdFault at h
  split at h
  · cases h
  rename_i h1
  split at h
  · cases h
  rename_i h2
  simp only [Bool.not_eq_true', Bool.not_eq_false, Bool.or_eq_true, Bool.and_eq_true, not_or, not_and] at h1 h2
  obtain ⟨⟨⟨⟨_, a1⟩, a2⟩, a3⟩, a4⟩ := h2
  exact ⟨h1, fun h => by simpa using a1 h, fun h => by simpa using a2 h, fun h => by simpa using a3 h, fun h => by simpa using a4 h⟩
theorem setB_p {c : Config} (P : CfP c) {i : Nat} {b : Backend} (hn : b.name = (c.backends.getD i zBackend).name) (hb : isBk b = true) : CfP (setB c i b) where
  v0 := P.v0
  v1 := P.v1
  b8 := by simpa [setB] using P.b8
  v4 := P.v4
  bk y hy := by
    rcases List.mem_or_eq_of_mem_set hy with h | h
    · exact P.bk y h
    · rw [h]; exact hb
  br := pw_set zBackend P.br (fun y h => by rw [hn]; exact h) (fun y h => by rw [hn]; exact h)
  vp := P.vp
  vr := P.vr
  nb v hv n hnm := by
    obtain ⟨y, hy, e⟩ := P.nb v hv n hnm
    rcases mem_set_of zBackend (i := i) (b := b) hy with ⟨h1, _, h3⟩ | h
    · exact ⟨b, h3, by rw [hn, ← h1]; exact e⟩
    · exact ⟨y, h, e⟩
  nr := P.nr
theorem bAt_lt {c : Config} {n : Int} (h : ¬ findB c.backends n < 0) : bAt c n < c.backends.length ∧ (c.backends.getD (bAt c n) zBackend).name = n := by
  obtain ⟨i, h1, h2, h3, _⟩ := idxG_lt zBackend h
  have e : bAt c n = i := by unfold bAt findB; rw [h1]; rfl
  rw [e]
  exact ⟨h2, by simpa [isB] using h3⟩
theorem turnB_p {c : Config} (K : CfOk c) {x : Cmd} (hf : cmdFault x = 0) (hk : x.kind = 1 ∨ x.kind = 2 ∨ x.kind = 3 ∨ x.kind = 4 ∨ x.kind = 9) : CfP (turnB c x).2 := by
  have P := cf_p K
  obtain ⟨f1, f2, f3, f4, _⟩ := cmd_facts hf
  have g2 : inR x.name 1 999 = true := f2 (by unfold nd1 inR; simp; omega)
  unfold turnB
  split
  · rename_i k1
    split
    · exact P
    split
    · exact P
    rename_i h1 h2
    have g3 := f3 (by unfold nd2; simp [k1])
    have g4 := f4 (by unfold nd3; simp [k1])
    have g5 : inR x.number 0 9 = true := by simpa [isNum, k1] using g4
    obtain ⟨q1, q2, q3, q4⟩ := put_b K (x := x) (by omega)
    refine ⟨P.v0, P.v1, by show (putG _ _ _).length ≤ 8; rw [putG_len]; omega, P.v4, fun y hy => ?_, ?_, P.vp, P.vr, fun v hv n hn => ?_, P.nr⟩
    · rcases putG_mem hy with h | h
      · exact P.bk y h
      · rw [h]; unfold isBk bOf; simp [g2, g3, g5]; decide
    · show (putG _ _ _).Pairwise _
      refine pw_put P.br (fun y hy => ?_) (fun y hy => ?_)
      · simpa [ltB, bOf] using mem_preG hy
      · obtain ⟨q, h3, h4, rfl⟩ := mem_drop_getD zBackend hy
        exact (cmpB_lt _ _).1 (q2 q h3 h4)
    · obtain ⟨y, hy, e⟩ := P.nb v hv n hn
      exact ⟨y, putG_old hy, e⟩
  split
  · exact P
  rename_i k1 hfb
  obtain ⟨a1, a2⟩ := bAt_lt hfb
  have hb := P.bk _ (getD_mem zBackend a1)
  simp only [isBk, Bool.and_eq_true] at hb
  split
  · rename_i k2
    have g4 := f4 (by unfold nd3; simp [k2])
    have g5 : inR x.number 0 9 = true := by simpa [isNum, k2] using g4
    exact setB_p P rfl (by unfold isBk; simp [-List.getD_eq_getElem?_getD, hb, g5])
  split
  · rename_i k2 k3
    have g4 := f4 (by unfold nd3; simp [k3])
    have g5 : inR x.number 1 3 = true := by simpa [isNum, k3] using g4
    exact setB_p P rfl (by unfold isBk; simp [-List.getD_eq_getElem?_getD, hb, g5])
  split
  · exact setB_p P rfl (by unfold isBk; simp [-List.getD_eq_getElem?_getD, hb])
  split
  · exact P
  split
  · exact P
  rename_i hs
  refine ⟨P.v0, P.v1, by have := cutG_len c.backends (bAt c x.name); have := P.b8; show (cutG _ _).length ≤ 8; omega, P.v4, fun y hy => P.bk y (cutG_mem hy), pw_cut _ P.br, P.vp, P.vr, fun v hv n hn => ?_, P.nr⟩
  obtain ⟨y, hy, e⟩ := P.nb v hv n hn
  obtain ⟨j, hj, rfl⟩ := (mem_getD zBackend).1 hy
  refine ⟨_, cutG_of zBackend hj fun e2 => hs ?_, e⟩
  subst e2
  rw [a2] at e
  subst e
  obtain ⟨i, hi, rfl⟩ := (mem_getD zVip).1 hv
  obtain ⟨k, hk, ek⟩ := (mem_getD zI_i64).1 hn
  exact hasG_true zVip hi (hasG_true zI_i64 hk (by simpa [eqI] using ek))
theorem vAt_lt {c : Config} {x : Cmd} (h : ¬ findV c.vips x.addr x.number x.proto < 0) : vAt c x < c.vips.length := by
  obtain ⟨i, h1, h2, _⟩ := idxG_lt zVip h
  have e : vAt c x = i := by unfold vAt findV; rw [h1]; rfl
  rw [e]
  exact h2
theorem setV_p {c : Config} (P : CfP c) {i : Nat} (hi : i < c.vips.length) {ns : List Int} (h1 : ∀ n ∈ ns, ∃ b ∈ c.backends, b.name = n) (h2 : ns.Pairwise fun a b => a < b) : CfP (setV c i { c.vips.getD i zVip with names := ns }) where
  v0 := P.v0
  v1 := P.v1
  b8 := P.b8
  v4 := by simpa [setV] using P.v4
  bk := P.bk
  br := P.br
  vp y hy := by
    rcases List.mem_or_eq_of_mem_set hy with h | h
    · exact P.vp y h
    · rw [h]
      have := P.vp _ (getD_mem zVip hi)
      exact this
  vr := pw_set zVip P.vr (fun y h => h) (fun y h => h)
  nb v hv := by
    rcases List.mem_or_eq_of_mem_set hv with h | h
    · exact P.nb v h
    · rw [h]; exact h1
  nr v hv := by
    rcases List.mem_or_eq_of_mem_set hv with h | h
    · exact P.nr v h
    · rw [h]; exact h2
theorem riseL_mem {xs : List Int} {v n : Int} (h : n ∈ riseL xs v) : n ∈ xs ∨ n = v := by
  unfold riseL at h
  split at h
  · exact .inl h
  · rcases List.mem_append.1 h with h | h
    · rcases List.mem_append.1 h with h | h
      · exact .inl (List.mem_of_mem_take h)
      · exact .inr (by simpa using h)
    · exact .inl (List.mem_of_mem_drop h)
theorem riseL_pw {xs : List Int} {v : Int} (hp : xs.Pairwise fun a b => a < b) : (riseL xs v).Pairwise fun a b => a < b := by
  unfold riseL
  split
  · exact hp
  rename_i hh
  have hr : rises xs := fun i h0 hi => of_pw zI_i64 hp i h0 hi
  refine pw_put hp (fun y hy => ?_) (fun y hy => ?_)
  · have : y ∈ xs.take (preG (fun x => decide (x < v)) xs) := hy
    simpa using mem_preG this
  · obtain ⟨q, h1, h2, rfl⟩ := mem_drop_getD zI_i64 hy
    have hlt : lbn xs v < xs.length := by omega
    have hat : (decide (xs.getD (lbn xs v) zI_i64 < v)) = false := preG_at zI_i64 (p := fun x => decide (x < v)) (xs := xs) hlt
    simp only [decide_eq_false_iff_not] at hat
    have hne : xs.getD (lbn xs v) zI_i64 ≠ v := fun e => hh (by simp only [hasI, Bool.and_eq_true, decide_eq_true_eq]; exact ⟨by omega, e⟩)
    by_cases e : q = lbn xs v
    · subst e; omega
    · have := rises_lt hr (i := lbn xs v) (j := q) (by omega) h2
      omega
theorem turnV_p {c : Config} (K : CfOk c) {x : Cmd} (hf : cmdFault x = 0) (hk : x.kind = 5 ∨ x.kind = 6 ∨ x.kind = 7 ∨ x.kind = 8) : CfP (turnV c x).2 := by
  have P := cf_p K
  obtain ⟨f1, f2, f3, f4, f5⟩ := cmd_facts hf
  have g3 := f3 (by unfold nd2 inR; simp; omega)
  have g5 := f5 (by unfold nd4 inR; simp; omega)
  unfold turnV
  split
  · rename_i k1
    split
    · exact P
    split
    · exact P
    rename_i h1 h2
    have g4 := f4 (by unfold nd3; simp [k1])
    have g6 : inR x.number 0 65535 = true := by simpa [isNum, k1] using g4
    obtain ⟨q1, q2, q3, q4⟩ := put_v K (x := x) (by omega)
    refine ⟨P.v0, P.v1, P.b8, by show (putG _ _ _).length ≤ 4; rw [putG_len]; omega, P.bk, P.br, fun y hy => ?_, ?_, fun v hv => ?_, fun v hv => ?_⟩
    · rcases putG_mem hy with h | h
      · exact P.vp y h
      · rw [h]; unfold isVp vOf; simp [g3, g5, g6]
    · show (putG _ _ _).Pairwise _
      refine pw_put P.vr (fun y hy => ?_) (fun y hy => ?_)
      · exact (mem_preG hy : ltV (vOf x) y = true)
      · obtain ⟨q, h3, h4, rfl⟩ := mem_drop_getD zVip hy
        exact (cmpV_neg _ _).1 (q2 q h3 h4)
    · rcases putG_mem hv with h | h
      · exact P.nb v h
      · rw [h]; intro n hn; simp [vOf] at hn
    · rcases putG_mem hv with h | h
      · exact P.nr v h
      · rw [h]; simp [vOf]
  split
  · exact P
  rename_i k1 hfv
  have hv := vAt_lt hfv
  have hm := getD_mem zVip hv
  split
  · exact ⟨P.v0, P.v1, P.b8, by have := cutG_len c.vips (vAt c x); have := P.v4; show (cutG _ _).length ≤ 4; omega, P.bk, P.br, fun y hy => P.vp y (cutG_mem hy), pw_cut _ P.vr, fun v hv => P.nb v (cutG_mem hv), fun v hv => P.nr v (cutG_mem hv)⟩
  split
  · split
    · exact P
    split
    · exact P
    rename_i hfb _
    refine setV_p P hv (fun n hn => ?_) (riseL_pw (P.nr _ hm))
    rcases riseL_mem hn with h | h
    · exact P.nb _ hm n h
    · rw [h]; exact findB_mem.1 (by omega)
  split
  · exact P
  exact setV_p P hv (fun n hn => P.nb _ hm n (cutG_mem hn)) (pw_cut _ (P.nr _ hm))
theorem applyR_p {c : Config} (K : CfOk c) {x : Cmd} (hf : cmdFault x = 0) (h : (applyR c x).code = 0) : CfP (applyR c x).config := by
  have hk := (cmd_facts hf).1
  simp only [inR, Bool.and_eq_true, decide_eq_true_eq] at hk
  have P : CfP (turned c x).2 := by
    unfold turned
    split
    · rename_i hi
      simp only [inR, Bool.and_eq_true, decide_eq_true_eq] at hi
      exact turnV_p K hf (by omega)
    · rename_i hi
      simp only [inR, Bool.and_eq_true, decide_eq_true_eq] at hi
      exact turnB_p K hf (by omega)
  have h0 := K.v0
  have h1 := K.v1
  unfold applyR at h ⊢
  split at h
  · cases h
  rename_i e1
  split at h
  · cases h
  rename_i e2
  split at h
  · rename_i e3; exact absurd h e3
  rename_i e3
  rw [if_neg e1, if_neg e2, if_neg e3]
  exact ⟨by show 0 ≤ c.version + 1; omega, by show c.version + 1 ≤ 1000000; omega, P.b8, P.v4, P.bk, P.br, P.vp, P.vr, P.nb, P.nr⟩
theorem applyR_code (c : Config) (x : Cmd) : 0 ≤ (applyR c x).code ∧ (applyR c x).code ≤ 10 := by
  have ht : 0 ≤ (turned c x).1 ∧ (turned c x).1 ≤ 10 := by
    unfold turned turnV turnB
    repeat' split
    all_goals (dsimp only; omega)
  unfold applyR
  repeat' split
  all_goals first
    | exact ht
    | (simp [badC]; done)
    | (simp; done)
theorem pw_len {lo hi : Int} : ∀ {xs : List Int}, xs.Pairwise (fun a b => a < b) → (∀ n ∈ xs, lo ≤ n ∧ n ≤ hi) → lo ≤ hi + 1 → (xs.length : Int) ≤ hi + 1 - lo
  | [], _, _, h => by simp; omega
  | y :: ys, hp, hm, h => by
    obtain ⟨p1, p2⟩ := List.pairwise_cons.1 hp
    have hy := hm y (by simp)
    have := pw_len (lo := y + 1) (hi := hi) p2 (fun n hn => ⟨by have := p1 n hn; omega, (hm n (by simp [hn])).2⟩) (by omega)
    simp only [List.length_cons, Int.natCast_add]
    omega
theorem cf_lim {c : Config} (P : CfP c) : limG 1048576 c := by
  refine ⟨by have := P.b8; omega, by have := P.v4; omega, fun v hv => ?_⟩
  have := pw_len (lo := 1) (hi := 999) (P.nr v hv) (fun n hn => by
    obtain ⟨b, hb, rfl⟩ := P.nb v hv n hn
    have := P.bk b hb
    simp only [isBk, inR, Bool.and_eq_true, decide_eq_true_eq] at this
    omega) (by omega)
  unfold limV
  omega
theorem putS_mem {xs : List Session} {s y : Session} (h : y ∈ putS xs s) : y ∈ xs ∨ y = s := by
  unfold putS at h
  rcases List.mem_append.1 h with h | h
  · exact .inl (List.mem_of_mem_take h)
  · rcases List.mem_cons.1 h with h | h
    · exact .inr h
    · exact .inl (List.mem_of_mem_drop h)
theorem putS_rises {xs : List Session} (hr : risesS xs) (s : Session) : risesS (putS xs s) := by
  have hp : xs.Pairwise fun a b => a.client < b.client := pw_of (R := fun a b => a.client < b.client) zSession (fun _ _ _ h1 h2 => Int.lt_trans h1 h2) hr
  have hlo : ∀ y ∈ xs.take (lbS xs s.client), y.client < s.client := fun y hy => by simpa [ltS] using mem_preG (p := ltS s.client) hy
  have e : (xs.take (lbS xs s.client) ++ xs.drop (lbS xs s.client)).Pairwise fun a b => a.client < b.client := by rw [List.take_append_drop]; exact hp
  obtain ⟨p1, p2, p3⟩ := List.pairwise_append.1 e
  have key : (putS xs s).Pairwise fun a b => a.client < b.client := by
    unfold putS
    split
    · rename_i hh
      have hl := hasS_lt hh
      have he : (xs.getD (lbS xs s.client) zSession).client = s.client := by
        simp only [hasS, Bool.and_eq_true, decide_eq_true_eq] at hh
        exact hh.2
      rw [drop_getD zSession hl] at p2 p3
      obtain ⟨p4, p5⟩ := List.pairwise_cons.1 p2
      rw [List.pairwise_append, List.pairwise_cons]
      refine ⟨p1, ⟨fun y hy => by rw [← he]; exact p4 y hy, p5⟩, fun a ha c hc => ?_⟩
      rcases List.mem_cons.1 hc with rfl | hc
      · exact hlo a ha
      · exact p3 a ha c (by simp [hc])
    · rename_i hh
      rw [List.pairwise_append, List.pairwise_cons]
      refine ⟨p1, ⟨fun y hy => ?_, p2⟩, fun a ha c hc => ?_⟩
      · obtain ⟨q, h1, h2, rfl⟩ := mem_drop_getD zSession hy
        have h3 := lbS_at (xs := xs) (c := s.client) (by omega)
        have hne : (xs.getD (lbS xs s.client) zSession).client ≠ s.client := fun e => hh (by simp only [hasS, Bool.and_eq_true, decide_eq_true_eq]; exact ⟨by omega, e⟩)
        by_cases e : q = lbS xs s.client
        · subst e; omega
        · have := risesS_lt hr (i := lbS xs s.client) (j := q) (by omega) h2
          omega
      · rcases List.mem_cons.1 hc with rfl | hc
        · exact hlo a ha
        · exact p3 a ha c hc
  exact fun i h0 hi => of_pw zSession key i h0 hi
theorem putS_length {xs : List Session} (s : Session) : (putS xs s).length = if hasS xs s.client = true then xs.length else xs.length + 1 := by
  have h0 := lbS_le xs s.client
  unfold putS
  split
  · rename_i h
    have := hasS_lt h
    simp
    omega
  · simp
    omega
theorem maP_zero : MaP zMachine := ⟨by rfl, zMachine_ok, zConfig_lim _, by simp [zMachine]⟩
theorem enterM_p {m : Machine} (P : MaP m) {x : Entry} (hx : entryFault x = 0) (hc : (enterM m x).code = 0) : MaP (enterM m x).machine := by
  have K := P.ok
  unfold enterM at hc ⊢
  split at hc
  · rename_i h; rw [if_pos h]; exact P
  rename_i h1
  split at hc
  · rename_i h; rw [if_neg h1, if_pos h]; exact P
  rename_i h2
  split at hc
  · cases hc
  rename_i h3
  rw [if_neg h1, if_neg h2, if_neg h3]
  have hcf := ent_cmd hx h1
  have hce := applyR_code m.config x.cmd
  have hxx : inR x.client 0 999 = true ∧ inR x.seq 0 1000000 = true ∧ (decide (x.client = 0) = decide (x.seq = 0)) := by
    unfold entryFault at hx
    grind
  obtain ⟨x1, x2, x3⟩ := hxx
  have x3 : x.seq ≠ 0 := fun e => h1 (by simpa [e] using x3)
  simp only [inR, Bool.and_eq_true, decide_eq_true_eq] at x1 x2
  have cfp : CfP (if (applyR m.config x.cmd).code = 0 then (applyR m.config x.cmd).config else m.config) := by
    split
    · rename_i h; exact applyR_p K.cf hcf h
    · exact cf_p K.cf
  have hf := p_fault cfp
  have hlen : (putS m.sessions ⟨x.client, x.seq, (applyR m.config x.cmd).code⟩).length ≤ 40 := by
    rw [putS_length]
    have := K.s40
    split
    · omega
    · rename_i h
      have h4 : hasS m.sessions x.client = false := by simpa using h
      have : ¬ 40 ≤ m.sessions.length := fun h5 => h3 ⟨h4, h5⟩
      omega
  refine ⟨hf, ⟨cf_ok hf, hlen, fun i hi => ?_, putS_rises K.rs _⟩, cf_lim cfp, Nat.le_trans hlen (by omega)⟩
  rcases putS_mem (getD_mem zSession hi) with h | h
  · obtain ⟨j, hj, e⟩ := (mem_getD zSession).1 h
    rw [← e]
    exact K.se j hj
  · rw [h]
    simp [isSe, inR]
    omega
def mC (x : Cmd) (k : Int) : Cmd := ⟨k, k + 1, k + 1 + 1, k + 1 + 1 + 1, k + 1 + 1 + 1 + 1, k + 1 + 1 + 1 + 1 + 1⟩
def mE (x : Entry) (k : Int) : Entry := ⟨k, k + 1, k + 1 + 1, mC x.cmd (k + 1 + 1 + 1)⟩
def sE (_ : Entry) (k : Int) : Int := k + 1 + 1 + 1 + 1 + 1 + 1 + 1 + 1 + 1
theorem sE_up (x : Entry) (k : Int) : k ≤ sE x k := by unfold sE; omega
theorem mkE_bd (xs : List Entry) (k : Int) : mkK sE xs k ≤ k + 9 * xs.length := mkK_bd (by omega) fun x _ k => by unfold sE; omega
def sC (_ : Cmd) (k : Int) : Int := k + 1 + 1 + 1 + 1 + 1 + 1
theorem sC_up (x : Cmd) (k : Int) : k ≤ sC x k := by unfold sC; omega
theorem mkC_bd (xs : List Cmd) (k : Int) : mkK sC xs k ≤ k + 6 * xs.length := mkK_bd (by omega) fun x _ k => by unfold sC; omega
theorem limM_mono {a b : Nat} (h : a ≤ b) {x : Machine} (hx : limM a x) : limM b x := ⟨limG_mono h hx.1, Nat.le_trans hx.2 h⟩
theorem replay_lim (xs : List Entry) : limM 1048577 (replayM xs).1.machine := by
  have hz : limM 1048577 zMachine := ⟨zConfig_lim _, by simp [zMachine]⟩
  have key : ∀ (xs : List Entry) (m : Machine) (rp : Int) (al : List Config), MaP m → limM 1048577 (repR xs m rp al).1.machine := by
    intro xs
    induction xs with
    | nil => intro m rp al P; exact ⟨limG_mono (by omega) P.lim.1, Nat.le_succ_of_le P.lim.2⟩
    | cons x xs ih =>
      intro m rp al P
      rw [repR]
      split
      · exact hz
      split
      · exact hz
      · rename_i h1 h2
        exact ih _ _ _ (enterM_p P (by omega) (by omega))
  unfold replayM
  split
  · exact hz
  · exact key _ _ _ _ maP_zero
def stepsR : List Cmd → Config → ConfigResult
  | [], c => ⟨0, c⟩
  | x :: xs, c => if cmdFault x ≠ 0 then badC (cmdFault x) else if (applyR c x).code ≠ 0 then badC (applyR c x).code else stepsR xs (applyR c x).config
theorem stepsR_drop {xs : List Cmd} {i : Nat} (h : i < xs.length) (c : Config) :
    stepsR (xs.drop i) c = if cmdFault (xs.getD i zCmd) ≠ 0 then badC (cmdFault (xs.getD i zCmd)) else if (applyR c (xs.getD i zCmd)).code ≠ 0 then badC (applyR c (xs.getD i zCmd)).code else stepsR (xs.drop (i + 1)) (applyR c (xs.getD i zCmd)).config := by
  rw [drop_getD zCmd h, stepsR]
theorem stepsR_end (xs : List Cmd) (c : Config) : stepsR (xs.drop xs.length) c = ⟨0, c⟩ := by rw [List.drop_length, stepsR]
theorem applyR_bad {c : Config} {x : Cmd} (h : (applyR c x).code ≠ 0) : applyR c x = badC (applyR c x).code := by
  unfold applyR at h ⊢
  repeat' split at h
  all_goals first
    | (rename_i h1; rw [if_pos h1]; rfl)
    | skip
  · rename_i h1 h2; rw [if_neg h1, if_pos h2]; rfl
  · rename_i h1 h2 h3; rw [if_neg h1, if_neg h2, if_pos h3]; rfl
  · rename_i h1 h2 h3; exact absurd rfl h
end Go.H
end
section
set_option maxRecDepth 100000
set_option maxHeartbeats 4000000
set_option cbv.maxSteps 4000000
set_option linter.unusedVariables false
set_option linter.unusedSimpArgs false
namespace Go.H
open Go Go.Proofs.Tryz
variable [Inv prog]
theorem s_spec_EntryFault (x : Entry) : SemX prog 101 [aS (eEntry x)] [] [rI (entryFault x)] [] := by
 refine goF [] [] [] func101 ?_
 refine D ?_
 refine kR (s_spec_l1In _ _ _) ?_
 refine D ?_
 refine kRg (s_spec_l1In _ _ _) ?_
 refine D ?_
 refine kRg (s_spec_l1In _ _ _) ?_
 refine D ?_
 refine cC (fun c0 => ?_) (fun c0 => ?_)
 · skip
   refine D ?_
   refine E ?_
   first
   | exact trivial
   | simp only [go_sem, entryFault]; done
   | try simp only [go_sem, entryFault]
     simp only [entryFault, cmdZero]
     grind
 · skip
   refine D ?_
   refine cC (fun c1 => ?_) (fun c1 => ?_)
   · skip
     refine D ?_
     refine E ?_
     first
     | exact trivial
     | simp only [go_sem, entryFault]; done
     | try simp only [go_sem, entryFault]
       simp only [entryFault, cmdZero]
       grind
   · skip
     refine D ?_
     refine cC (fun c2 => ?_) (fun c2 => ?_)
     · skip
       refine D ?_
       refine kR (s_spec_CmdFault _) ?_
       refine D ?_
       refine E ?_
       first
       | exact trivial
       | simp only [go_sem, entryFault]; done
       | try simp only [go_sem, entryFault]
         simp only [entryFault, cmdZero]
         grind
     · skip
       refine D ?_
       refine cC (fun c3 => ?_) (fun c3 => ?_)
       · skip
         refine D ?_
         refine E ?_
         first
         | exact trivial
         | simp only [go_sem, entryFault]; done
         | try simp only [go_sem, entryFault]
           simp only [entryFault, cmdZero]
           grind
       · skip
         refine D ?_
         refine E ?_
         first
         | exact trivial
         | simp only [go_sem, entryFault]; done
         | try simp only [go_sem, entryFault]
           simp only [entryFault, cmdZero]
           grind
end Go.H
end
section
set_option maxRecDepth 100000
set_option maxHeartbeats 4000000
set_option cbv.maxSteps 4000000
set_option linter.unusedVariables false
set_option linter.unusedSimpArgs false
namespace Go.H
open Go Go.Proofs.Tryz
variable [Inv prog]
theorem s_spec_l11Copy (m : Machine) (hm : limM 2097152 m) : SemX prog 153 [aS (eMachine false m)] [] [.agg (eMachine true m)] [] := by
 refine goF [] [(1, 1, [8192], []), (1, 2, [], [24577, 24578]), (1, 3, [], [28672]), (1, 5, [8192], []), (1, 6, [28672], [40960, 28672]), (1, 8, [12288], [12288])] [] func153 ?_
 have hs := hm.2
 refine D ?_
 refine kD (s_spec_l5Copy m.config hm.1) ?_
 refine D ?_
 exact E trivial
end Go.H
end
section
set_option maxRecDepth 100000
set_option maxHeartbeats 4000000
set_option cbv.maxSteps 4000000
set_option linter.unusedVariables false
set_option linter.unusedSimpArgs false
namespace Go.H
open Go Go.Proofs.Tryz
variable [Inv prog]
theorem s_spec_l11At (m : Machine) (hm : limM 2097152 m) (c : Int) : SemX prog 154 [aT (.ptr (eMachine false m)), aI c] [] [rI (seAt m.sessions c)] [] := by
 refine goF [] [] [] func154 ?_
 have hs := hm.2
 refine D ?_
 refine L (α := Nat) (fun x => [(5, .int .i64 x)]) (fun x => []) (fun x => m.sessions.length - x) (fun x => x ≤ m.sessions.length ∧ ∀ j, j < x → isSes c (m.sessions.getD j zSession) = false) 0 [] (fun x hL => ?_) (hi := by exact ⟨Nat.zero_le _, fun j hj => by omega⟩)
 obtain ⟨hx2, hno⟩ := hL
 refine D ?_
 refine cC (fun c0 => ?_) (fun c0 => ?_)
 · skip
   refine D ?_
   refine cC (fun c1 => ?_) (fun c1 => ?_)
   · skip
     refine D ?_
     refine E ?_
     have he : seAt m.sessions c = x := idxG_some zSession (by omega) hno (by simpa [isSes] using c1)
     rw [he]
   · skip
     refine D ?_
     refine N (x+1) [] (hi := ?_) (hm := ?_)
     · refine ⟨by omega, fun j hj => ?_⟩
       rcases Nat.lt_or_ge j x with h | h
       · exact hno j h
       · obtain rfl : j = x := by omega
         first | exact c1 | (simpa [isSes] using c1) | (simp [isSes]; grind)
     · omega
 · skip
   obtain rfl : x = m.sessions.length := by omega
   refine D ?_
   refine E ?_
   have he : seAt m.sessions c = -1 := idxG_none zSession hno
   rw [he]
end Go.H
end
section
set_option maxRecDepth 100000
set_option maxHeartbeats 4000000
set_option cbv.maxSteps 4000000
set_option linter.unusedVariables false
set_option linter.unusedSimpArgs false
namespace Go.H
open Go Go.Proofs.Tryz
variable [Inv prog]
theorem s_spec_l11Put (xs : List Session) (s : Session) (hl : xs.length ≤ 1000000) : SemX prog 155 [aT (.sl false 3 (xs.map eSession)), aS (eSession s)] [] [.one (.sl true 3 ((putL xs s).map eSession))] [] := by
 refine goF [] [(6, 9, [16384], []), (9, 6, [16384], [])] [] func155 ?_
 refine D ?_
 refine L (α := Nat) (fun x => [(5, .ref 36864 0 (foldP xs s x).2.length), (6, .bool (foldP xs s x).1), (7, .int .i64 x)]) (fun x => [(36864, .arr ⟨3, (foldP xs s x).2.map eSession, 1, none⟩)]) (fun x => xs.length - x) (fun x => x ≤ xs.length) 0 [] (fun x hI => ?_) (by simp only [go_sem] <;> and_intros <;> first | with_reducible exact rfl | (first | omega | exact rfl))
 have hfl := foldP_len xs s x
 refine D ?_
 refine cC (fun c0 => ?_) (fun c0 => ?_)
 · skip
   have hfs := foldP_succ s (show x < xs.length by omega)
   refine D ?_
   refine cC (fun c1 => ?_) (fun c1 => ?_)
   · skip
     refine D ?_
     refine cC (fun c2 => ?_) (fun c2 => ?_)
     · skip
       have hf3 : foldP xs s (x + 1) = (true, (foldP xs s x).2 ++ [s] ++ [(xs.getD x zSession)]) := by rw [hfs]; unfold stepP; first | (simp [-List.getD_eq_getElem?_getD, c1, c2]; done) | grind
       have hA := hf3
       refine D ?_
       refine lp_next (x+1) [(36864,188416)] ?_ ?_ ?_
       · simp only [go_sem, hA] <;> and_intros <;> first | with_reducible exact rfl | (first | with_reducible exact rfl | omega | (simp [eSession]; done))
       · omega
       · omega
     · skip
       have hf3 : foldP xs s (x + 1) = (true, (foldP xs s x).2 ++ [s]) := by rw [hfs]; unfold stepP; first | (simp [-List.getD_eq_getElem?_getD, c1, c2]; done) | grind
       have hA := hf3
       refine D ?_
       refine lp_next (x+1) [(36864,126976)] ?_ ?_ ?_
       · simp only [go_sem, hA] <;> and_intros <;> first | with_reducible exact rfl | (first | with_reducible exact rfl | omega | (simp [eSession]; done))
       · omega
       · omega
   · skip
     refine D ?_
     refine cC (fun c2 => ?_) (fun c2 => ?_)
     · skip
       have hf3 : foldP xs s (x + 1) = ((foldP xs s x).1, (foldP xs s x).2 ++ [(xs.getD x zSession)]) := by rw [hfs]; unfold stepP; first | (simp [-List.getD_eq_getElem?_getD, c1, c2]; done) | grind
       have hA := hf3
       refine D ?_
       refine lp_next (x+1) [(36864,188416)] ?_ ?_ ?_
       · simp only [go_sem, hA] <;> and_intros <;> first | with_reducible exact rfl | (first | with_reducible exact rfl | omega | (simp [eSession]; done))
       · omega
       · omega
     · skip
       have hf3 : foldP xs s (x + 1) = ((foldP xs s x).1, (foldP xs s x).2) := by rw [hfs]; unfold stepP; first | (simp [-List.getD_eq_getElem?_getD, c1, c2]; done) | grind
       have hA := hf3
       refine D ?_
       refine lp_next (x+1) [] ?_ ?_ ?_
       · simp only [go_sem, hA] <;> and_intros <;> first | with_reducible exact rfl | (first | with_reducible exact rfl | omega | (simp [eSession]; done))
       · omega
       · omega
 · skip
   obtain rfl : x = xs.length := by omega
   refine D ?_
   refine cC (fun c3 => ?_) (fun c3 => ?_)
   · skip
     refine D ?_
     refine E ?_
     have he : putL xs s = (foldP xs s xs.length).2 ++ [s] := by unfold putL; grind
     simp [he, eSession]
   · skip
     refine D ?_
     refine E ?_
     have he : putL xs s = (foldP xs s xs.length).2 := by unfold putL; grind
     simp [he]
end Go.H
end
section
set_option maxRecDepth 100000
set_option maxHeartbeats 4000000
set_option cbv.maxSteps 4000000
set_option linter.unusedVariables false
set_option linter.unusedSimpArgs false
namespace Go.H
open Go Go.Proofs.Tryz
variable [Inv prog]
theorem s_spec_l11Apply (m : Machine) (hm1 : limM 2097151 m) (K : MaOk m) (x_ : Entry) (hcf : x_.client ≠ 0 → cmdFault x_.cmd = 0) : SemX prog 102 [aS (eMachine false m), aS (eEntry x_)] [] [.agg (eMachineResult true (enterM m x_))] [] := by
 refine goF [] [(5, 4, [12288], []), (5, 10, [16384], []), (7, 1, [12288], []), (7, 7, [16384], [])] [] func102 ?_
 have hm : limM 2097152 m := ⟨limG_mono (by omega) hm1.1, Nat.le_succ_of_le hm1.2⟩
 have hs := hm.2
 have hs40 := K.s40
 obtain ⟨hg1, hg2⟩ := seAt_ge K.rs x_.client
 have hsb : seAt m.sessions x_.client < m.sessions.length := idxG_bd _ _
 refine D ?_
 refine kR (s_spec_l11Copy m hm) ?_
 refine D ?_
 refine cC (fun c0 => ?_) (fun c0 => ?_)
 · skip
   refine D ?_
   refine E ?_
   have he : enterM m x_ = ⟨0, 0, false, m⟩ := by unfold enterM; grind
   simp [-List.getD_eq_getElem?_getD, he, badM, zMachine, zConfig]
 · skip
   refine D ?_
   refine kR (s_spec_l11At m hm x_.client) ?_
   refine D ?_
   refine cC (fun c1 => ?_) (fun c1 => ?_)
   · skip
     have ho : oldM m x_ = true := by rw [← old_at K.rs]; simpa [-List.getD_eq_getElem?_getD] using c1
     have hh : hasS m.sessions x_.client = true := by unfold oldM at ho; simp only [Bool.and_eq_true] at ho; exact ho.1
     have hat := hg2 hh
     have hA := hat
     refine D ?_
     refine cC (fun c2 => ?_) (fun c2 => ?_)
     · skip
       refine D ?_
       refine E ?_
       have he : enterM m x_ = ⟨0, (m.sessions.getD (lbS m.sessions x_.client) zSession).code, false, m⟩ := by unfold enterM; grind
       simp [-List.getD_eq_getElem?_getD, he, badM, zMachine, zConfig]
     · skip
       refine D ?_
       refine E ?_
       have he : enterM m x_ = ⟨0, 9, false, m⟩ := by unfold enterM; grind
       simp [-List.getD_eq_getElem?_getD, he, badM, zMachine, zConfig]
   · skip
     have ho : oldM m x_ = false := by rw [← old_at K.rs]; exact c1
     refine D ?_
     refine cC (fun c3 => ?_) (fun c3 => ?_)
     · skip
       refine D ?_
       refine E ?_
       have he : enterM m x_ = badM 2 := by unfold enterM; grind
       simp [-List.getD_eq_getElem?_getD, he, badM, zMachine, zConfig]
     · skip
       refine D ?_
       refine kR (s_spec_l5Apply m.config hm1.1 K.cf x_.cmd (hcf c0)) ?_
       refine D ?_
       refine cC (fun c4 => ?_) (fun c4 => ?_)
       · skip
         refine D ?_
         refine kR (s_spec_l11Put m.sessions ⟨x_.client, x_.seq, (applyR m.config x_.cmd).code⟩ (by omega)) ?_
         refine D ?_
         refine E ?_
         have he : enterM m x_ = ⟨0, (applyR m.config x_.cmd).code, true, ⟨(applyR m.config x_.cmd).config, putS m.sessions ⟨x_.client, x_.seq, (applyR m.config x_.cmd).code⟩⟩⟩ := by unfold enterM; grind
         simp [-List.getD_eq_getElem?_getD, he, putL_eq _ K.rs]
       · skip
         refine D ?_
         refine kR (s_spec_l11Put m.sessions ⟨x_.client, x_.seq, (applyR m.config x_.cmd).code⟩ (by omega)) ?_
         refine D ?_
         refine E ?_
         have he : enterM m x_ = ⟨0, (applyR m.config x_.cmd).code, true, ⟨m.config, putS m.sessions ⟨x_.client, x_.seq, (applyR m.config x_.cmd).code⟩⟩⟩ := by unfold enterM; grind
         simp [-List.getD_eq_getElem?_getD, he, putL_eq _ K.rs]
end Go.H
end
section
set_option maxRecDepth 100000
set_option maxHeartbeats 4000000
set_option cbv.maxSteps 4000000
set_option linter.unusedVariables false
set_option linter.unusedSimpArgs false
namespace Go.H
open Go Go.Proofs.Tryz
variable [Inv prog]
theorem s_spec_l11Replay (xs : List Entry) (hl : xs.length ≤ 2097152) : SemX prog 89 [aT (.sl false 9 (xs.map eEntry))] [] [.agg (eMachineResult true (replayM xs).1), .one (.sl true 3 ((replayM xs).2.map (eConfig true)))] [] := by
 refine goF [(18, ⟨some 4, some 36864, some (75, true), none⟩)] [(11, 1, [20480], []), (11, 6, [36868, 36869, 36870], [151556, 151557, 151558]), (11, 7, [20480], [20480])] [] func89 ?_
 refine D ?_
 refine cC (fun c0 => ?_) (fun c0 => ?_)
 · skip
   refine D ?_
   refine E ?_
   have he : replayM xs = (badM 2, []) := if_pos (by omega)
   simp [he, badM, zMachine, zConfig]
 · skip
   refine D ?_
   refine L (α := Nat × MachineResult × List Config) (fun p => [(5, .ref 45056 0 p.2.2.length), (6, .int .i64 p.1)]) (fun p => [(20480, .var [.int .i64 0, .int .i64 p.2.1.reply, .bool p.2.1.fresh, .int .i64 p.2.1.machine.config.version, .ref 36868 0 p.2.1.machine.config.backends.length, .ref 36869 0 p.2.1.machine.config.vips.length, .ref 36870 0 p.2.1.machine.sessions.length]), (36868, .arr ⟨5, p.2.1.machine.config.backends.map eBackend, 1, none⟩), (36869, .arr ⟨4, p.2.1.machine.config.vips.map (eVip true), 1, none⟩), (36870, .arr ⟨3, p.2.1.machine.sessions.map eSession, 1, none⟩), (45056, .arr ⟨3, p.2.2.map (eConfig true), 1, none⟩)]) (fun p => xs.length - p.1) (fun p => p.1 ≤ xs.length ∧ MaP p.2.1.machine ∧ p.2.2.length ≤ p.1 + 1 ∧ repR xs zMachine 0 [zConfig] = repR (xs.drop p.1) p.2.1.machine p.2.1.reply p.2.2) (0, ⟨0, 0, false, zMachine⟩, [zConfig]) [] (fun x0 hL => ?_) (by simp only [go_sem] <;> and_intros <;> first | with_reducible exact rfl | (first | omega | exact rfl)) (by exact ⟨Nat.zero_le _, maP_zero, by simp, rfl⟩)
   obtain ⟨i, r, al_⟩ := x0
   obtain ⟨hi2, hP, hal, hrp⟩ := hL
   try dsimp only at *
   have hm1 : limM 2097151 r.machine := ⟨limG_mono (by omega) hP.lim.1, Nat.le_trans hP.lim.2 (by omega)⟩
   refine D ?_
   refine cC (fun c1 => ?_) (fun c1 => ?_)
   · skip
     refine D ?_
     refine kR (s_spec_EntryFault (xs.getD i zEntry)) ?_
     refine D ?_
     refine cC (fun c2 => ?_) (fun c2 => ?_)
     · skip
       refine D ?_
       refine E ?_
       have he : replayM xs = (badM (entryFault (xs.getD i zEntry)), []) := by unfold replayM; rw [if_neg (by omega), hrp, repR_drop (by omega), if_pos (by omega)]
       simp [he, badM, zMachine, zConfig]
     · skip
       have h0 : entryFault (xs.getD i zEntry) = 0 := by omega
       refine D ?_
       refine kD (s_spec_l11Apply r.machine hm1 hP.ok (xs.getD i zEntry) (fun h => ent_cmd h0 h)) ?_
       refine D ?_
       refine cC (fun c3 => ?_) (fun c3 => ?_)
       · skip
         refine D ?_
         refine E ?_
         have he : replayM xs = ((enterM r.machine (xs.getD i zEntry)), []) := by unfold replayM; rw [if_neg (by omega), hrp, repR_drop (by omega), if_neg (by omega), if_pos (by omega), ← enterM_bad (by omega)]
         simp [he]
       · skip
         have hc0 : (enterM r.machine (xs.getD i zEntry)).code = 0 := by omega
         have hA := hc0
         refine D ?_
         refine cC (fun c4 => ?_) (fun c4 => ?_)
         · skip
           have hac : addC al_ (enterM r.machine (xs.getD i zEntry)) = al_ ++ [(enterM r.machine (xs.getD i zEntry)).machine.config] := if_pos (by unfold freshM; simpa using c4)
           have hA := And.intro hA (hac)
           refine D ?_
           refine kR (s_spec_l5Copy (enterM r.machine (xs.getD i zEntry)).machine.config (limG_mono (by omega) (enterM_p hP h0 hc0).lim.1)) ?_
           refine D ?_
           refine lp_next (i + 1, (enterM r.machine (xs.getD i zEntry)), addC al_ (enterM r.machine (xs.getD i zEntry))) [(36868,151556),(36869,151557),(36870,151558),(45056,225280)] ?_ ?_ ?_
           · simp only [go_sem, hA] <;> and_intros <;> first | with_reducible exact rfl | (first | with_reducible exact rfl | omega | (simp [eConfig]; done))
           · dsimp only
             refine ⟨by omega, enterM_p hP h0 hc0, by have := addC_len al_ (enterM r.machine (xs.getD i zEntry)); omega, ?_⟩
             rw [hrp, repR_drop (by omega), if_neg (by omega), if_neg (by omega)]
           · try dsimp only
             omega
         · skip
           have hac : addC al_ (enterM r.machine (xs.getD i zEntry)) = al_ := if_neg (by unfold freshM; rw [c4]; simp)
           have hA := And.intro hA (hac)
           refine D ?_
           refine lp_next (i + 1, (enterM r.machine (xs.getD i zEntry)), addC al_ (enterM r.machine (xs.getD i zEntry))) [(36868,151556),(36869,151557),(36870,151558)] ?_ ?_ ?_
           · simp only [go_sem, hA] <;> and_intros <;> first | with_reducible exact rfl | (first | with_reducible exact rfl | omega | (simp [eConfig]; done))
           · dsimp only
             refine ⟨by omega, enterM_p hP h0 hc0, by have := addC_len al_ (enterM r.machine (xs.getD i zEntry)); omega, ?_⟩
             rw [hrp, repR_drop (by omega), if_neg (by omega), if_neg (by omega)]
           · try dsimp only
             omega
   · skip
     obtain rfl : i = xs.length := by omega
     refine D ?_
     refine E ?_
     have he : replayM xs = (⟨0, r.reply, false, r.machine⟩, al_) := by unfold replayM; rw [if_neg (by omega), hrp, repR_end]
     simp [he]
end Go.H
end
section
set_option linter.unusedVariables false
set_option linter.unusedSimpArgs false
namespace Go.H
open Go
def badU (k : Int) : UpdateResult := ⟨k, zUpdate⟩
def badW (k : Int) : WatchResult := ⟨k, zWatch⟩
def stepU (c : Config) (xs : List Cmd) : UpdateResult :=
  if configFault c ≠ 0 then badU (configFault c) else if 20 < xs.length then badU 2 else
  if (stepsR xs c).code ≠ 0 then badU (stepsR xs c).code else ⟨0, ⟨c.version, (stepsR xs c).config.version, false, zConfig, xs⟩⟩
def cfgZero (c : Config) : Bool := decide (c.version = 0) && (decide (c.backends.length = 0) && decide (c.vips.length = 0))
def cmdBad (xs : List Cmd) (i : Nat) : Int := cmdFault (xs.getD i zCmd)
def updateFault (u : Update) : Int :=
  if !inR u.from_ 0 1000000 || !inR u.to_ 0 1000000 then 3 else
  if u.full = true then
    if u.from_ ≠ 0 ∨ 0 < u.cmds.length then 1 else
    if configFault u.config ≠ 0 then configFault u.config else if u.config.version ≠ u.to_ then 1 else 0
  else if cfgZero u.config = false then 1 else
  if 20 < u.cmds.length then 2 else
  if u.to_ - u.from_ ≠ u.cmds.length then 1 else scan (cmdBad u.cmds) u.cmds.length 0
def watchFault (w : Watch) : Int := if configFault w.config ≠ 0 then configFault w.config else if w.ready = false ∧ cfgZero w.config = false then 1 else 0
def takeW (w : Watch) (u : Update) : WatchResult :=
  if u.full = true then
    if w.ready = true ∧ u.to_ ≤ w.config.version then badW 9 else ⟨0, ⟨true, u.config⟩⟩
  else if w.ready = false then badW 10 else
  if u.to_ ≤ w.config.version then badW 9 else
  if u.from_ ≠ w.config.version then badW 4 else
  if (stepsR u.cmds w.config).code ≠ 0 then badW (stepsR u.cmds w.config).code else ⟨0, ⟨true, (stepsR u.cmds w.config).config⟩⟩
def takeU (w : Watch) (u : Update) : WatchResult :=
  if watchFault w ≠ 0 then badW (watchFault w) else if updateFault u ≠ 0 then badW (updateFault u) else takeW w u
theorem watch_cf {w : Watch} (h : watchFault w = 0) : configFault w.config = 0 := by
  unfold watchFault at h
  split at h
  · rename_i g; exact absurd h g
  · omega
theorem upd_cf {u : Update} (h : updateFault u = 0) (hf : u.full = true) : configFault u.config = 0 := by
  unfold updateFault at h
  grind
theorem cf_l {c : Config} (h : configFault c = 0) : limG 1048576 c := cf_lim (cf_p (cf_ok h))
theorem steps_cf : ∀ {xs : List Cmd} {c : Config}, configFault c = 0 → (stepsR xs c).code = 0 → configFault (stepsR xs c).config = 0
  | [], c, h, _ => h
  | x :: xs, c, h, hc => by
    rw [stepsR] at hc ⊢
    split at hc
    · rename_i h1; exact absurd hc h1
    split at hc
    · rename_i h1 h2; exact absurd hc h2
    rename_i h1 h2
    rw [if_neg h1, if_neg h2]
    exact steps_cf (p_fault (applyR_p (cf_ok h) (by omega) (by omega))) hc
theorem steps_bad : ∀ {xs : List Cmd} {c : Config}, (stepsR xs c).code ≠ 0 → stepsR xs c = badC (stepsR xs c).code
  | [], c, h => absurd rfl h
  | x :: xs, c, h => by
    rw [stepsR] at h ⊢
    split
    · rfl
    split
    · rfl
    rename_i h1 h2
    rw [if_neg h1, if_neg h2] at h
    exact steps_bad h
theorem steps_lim {xs : List Cmd} {c : Config} (h : configFault c = 0) : limG 1048576 (stepsR xs c).config := by
  by_cases hc : (stepsR xs c).code = 0
  · exact cf_l (steps_cf h hc)
  · rw [steps_bad hc]; exact zConfig_lim _
def limU (b : Nat) (u : Update) : Prop := limG b u.config ∧ u.cmds.length ≤ b
theorem stepU_lim {c : Config} {xs : List Cmd} {b : Nat} (h : xs.length ≤ b) : limU b (stepU c xs).update := by
  have hz : limU b zUpdate := ⟨zConfig_lim _, by simp [zUpdate]⟩
  unfold stepU
  repeat' split
  · exact hz
  · exact hz
  · exact hz
  · exact ⟨zConfig_lim _, h⟩
theorem takeW_cf {w : Watch} {u : Update} (hw : watchFault w = 0) (hu : updateFault u = 0) (h : (takeW w u).code = 0) : watchFault (takeW w u).watch = 0 := by
  have k1 := watch_cf hw
  unfold takeW at h ⊢
  split at h
  · rename_i e1
    rw [if_pos e1]
    split at h
    · cases h
    rename_i e2
    rw [if_neg e2]
    have := upd_cf hu e1
    unfold watchFault
    simp [this]
  rename_i e1
  rw [if_neg e1]
  split at h
  · cases h
  rename_i e2
  split at h
  · cases h
  rename_i e3
  split at h
  · cases h
  rename_i e4
  split at h
  · rename_i e5; exact absurd h e5
  rename_i e5
  rw [if_neg e2, if_neg e3, if_neg e4, if_neg e5]
  have := steps_cf k1 (xs := u.cmds) (by omega)
  unfold watchFault
  simp [this]
theorem takeW_lim {w : Watch} {u : Update} (hw : watchFault w = 0) (hu : updateFault u = 0) : limG 1048576 (takeW w u).watch.config := by
  have k1 := watch_cf hw
  unfold takeW
  split
  · rename_i e1
    split
    · exact zConfig_lim _
    · exact cf_l (upd_cf hu e1)
  repeat' split
  · exact zConfig_lim _
  · exact zConfig_lim _
  · exact zConfig_lim _
  · exact zConfig_lim _
  · exact steps_lim k1
theorem takeU_lim (w : Watch) (u : Update) : limG 1048576 (takeU w u).watch.config := by
  unfold takeU
  split
  · exact zConfig_lim _
  split
  · exact zConfig_lim _
  · exact takeW_lim (by omega) (by omega)
def szUpdate (x : Update) (l : Int) : Int := szT (szConfig x.config l) fun l => szT (szL x.cmds.length l) fun l => l
theorem szUpdate_lo (x : Update) (l : Int) (h : l ≤ 1048576) : -1 ≤ szUpdate x l ∧ szUpdate x l ≤ 1048576 :=
  ⟨szT_lo fun _ => szT_lo fun _ => szL_lo .., szT_hi (by omega) (szT_hi (by omega) (szL_hi (szConfig_lo x.config l h).2 (by omega)))⟩
theorem szUpdate_lim {x : Update} {l : Int} (h : 0 ≤ szUpdate x l) (hl : l ≤ 1048576) : limU 1048576 x := by
  unfold szUpdate at h
  obtain ⟨a1, a2, _⟩ := szT_ge h
  obtain ⟨b1, b2, _⟩ := szT_ge a2
  have h2 := (szConfig_lo x.config l hl).2
  have e1 := szL_ge b1
  exact ⟨szConfig_lim a1 hl, by omega⟩
def szWatch (x : Watch) (l : Int) : Int := szT (szConfig x.config l) fun l => l
theorem szWatch_eq (x : Watch) (l : Int) (h : l ≤ 1048576) : szWatch x l = szConfig x.config l := by
  have := (szConfig_lo x.config l h).1
  unfold szWatch szT
  split
  · omega
  · rfl
def mU (x : Update) (k : Int) : Update := ⟨x.from_, x.to_, x.full, mG x.config k, mkL mC sC x.cmds (sG x.config k)⟩
def sU (x : Update) (k : Int) : Int := mkK sC x.cmds (sG x.config k)
theorem sU_up (x : Update) (k : Int) : k ≤ sU x k := by
  have h1 := sG_up x.config k
  have h2 := mkK_mono sC_up x.cmds (sG x.config k)
  unfold sU; omega
theorem sU_bd {x : Update} (hx : limU 2097152 x) {k : Int} (hk : k ≤ 4000000000000000000) : sU x k ≤ k + 4398200000000 := by
  have h1 := sG_bd hx.1 hk
  have h2 := mkC_bd x.cmds (sG x.config k)
  have h3 := hx.2
  unfold sU
  omega
theorem limU_mono {a b : Nat} (h : a ≤ b) {x : Update} (hx : limU a x) : limU b x := ⟨limG_mono h hx.1, Nat.le_trans hx.2 h⟩
end Go.H
end
section
set_option linter.unusedVariables false
set_option linter.unusedSimpArgs false
namespace Go.H
open Go
def takeAll : List Update → Watch → Watch
  | [], w => w
  | u :: us, w => takeAll us (if (takeU w u).code = 0 then (takeU w u).watch else w)
def takeMany (w : Watch) (us : List Update) : WatchResult := if watchFault w ≠ 0 then badW (watchFault w) else if 40 < us.length then badW 2 else ⟨0, takeAll us w⟩
theorem takeAll_drop {us : List Update} {i : Nat} (h : i < us.length) (w : Watch) : takeAll (us.drop i) w = takeAll (us.drop (i + 1)) (if (takeU w (us.getD i zUpdate)).code = 0 then (takeU w (us.getD i zUpdate)).watch else w) := by
  rw [drop_getD zUpdate h, takeAll]
theorem takeAll_end (us : List Update) (w : Watch) : takeAll (us.drop us.length) w = w := by rw [List.drop_length, takeAll]
theorem takeU_ok {w : Watch} {u : Update} (hw : watchFault w = 0) (h : (takeU w u).code = 0) : watchFault (takeU w u).watch = 0 := by
  unfold takeU at h ⊢
  split at h
  · rename_i h1; exact absurd hw h1
  rename_i h1
  split at h
  · rename_i h2; exact absurd h h2
  rename_i h2
  rw [if_neg h1, if_neg h2]
  exact takeW_cf hw (by omega) h
theorem takeAll_ok : ∀ {us : List Update} {w : Watch}, watchFault w = 0 → watchFault (takeAll us w) = 0
  | [], w, h => h
  | u :: us, w, h => by
    rw [takeAll]
    refine takeAll_ok ?_
    split
    · rename_i h1; exact takeU_ok h h1
    · exact h
theorem takeMany_lim (w : Watch) (us : List Update) : limG 1048576 (takeMany w us).watch.config := by
  unfold takeMany
  split
  · exact zConfig_lim _
  split
  · exact zConfig_lim _
  · exact cf_l (watch_cf (takeAll_ok (by omega)))
def szUs : List Update → Int → Int
  | [], l => l
  | x :: xs, l => szT (szUpdate x l) (szUs xs)
def szUps (xs : List Update) (l : Int) : Int := szT (szL xs.length l) (szUs xs)
theorem szUs_lim : ∀ {xs : List Update} {l : Int}, 0 ≤ szUs xs l → l ≤ 1048576 → ∀ y ∈ xs, limU 1048576 y
  | [], _, _, _ => by simp
  | x :: xs, l, h, hl => by
    obtain ⟨a1, a2, _⟩ := szT_ge h
    have b1 := szUpdate_lim a1 hl
    intro y hy
    rcases List.mem_cons.1 hy with rfl | hy
    · exact b1
    · exact szUs_lim a2 (szUpdate_lo x l hl).2 y hy
theorem szUps_lim {xs : List Update} {l : Int} (h : 0 ≤ szUps xs l) (hl : l ≤ 1048576) : xs.length ≤ 1048576 ∧ ∀ y ∈ xs, limU 1048576 y := by
  unfold szUps at h
  obtain ⟨a1, a2, _⟩ := szT_ge h
  have e1 := szL_ge a1
  exact ⟨by omega, szUs_lim a2 (szL_hi hl (by omega))⟩
def mUs (x : Update) (k : Int) : Update :=
  ⟨k, k + 1, decide ((k + 1 + 1).tmod 3 = 0), ⟨k + 1 + 1 + 1, mkL mB sB x.config.backends (k + 1 + 1 + 1 + 1), mkL mV sV x.config.vips (mkK sB x.config.backends (k + 1 + 1 + 1 + 1))⟩,
    mkL mC sC x.cmds (mkK sV x.config.vips (mkK sB x.config.backends (k + 1 + 1 + 1 + 1)))⟩
def sUs (x : Update) (k : Int) : Int := mkK sC x.cmds (mkK sV x.config.vips (mkK sB x.config.backends (k + 1 + 1 + 1 + 1)))
theorem sUs_up (x : Update) (k : Int) : k ≤ sUs x k := by
  have h1 := mkK_mono sB_up x.config.backends (k + 1 + 1 + 1 + 1)
  have h2 := mkK_mono sV_up x.config.vips (mkK sB x.config.backends (k + 1 + 1 + 1 + 1))
  have h3 := mkK_mono sC_up x.cmds (mkK sV x.config.vips (mkK sB x.config.backends (k + 1 + 1 + 1 + 1)))
  unfold sUs; omega
theorem sUs_bd {x : Update} (hx : limU 1048576 x) (k : Int) : sUs x k ≤ k + 1099530000000 := by
  have h1 := mkB_bd x.config.backends (k + 1 + 1 + 1 + 1)
  have h2 := mkV_bd hx.1.2.2 (mkK sB x.config.backends (k + 1 + 1 + 1 + 1))
  have h3 := mkC_bd x.cmds (mkK sV x.config.vips (mkK sB x.config.backends (k + 1 + 1 + 1 + 1)))
  have h4 := hx.1.1
  have h5 := hx.1.2.1
  have h6 := hx.2
  have h7 : (((1048576 : Nat) : Int) + 3) * x.config.vips.length ≤ (((1048576 : Nat) : Int) + 3) * 1048576 := Int.mul_le_mul_of_nonneg_left (by omega) (by omega)
  unfold sUs
  omega
theorem mkU_bd {xs : List Update} (h : ∀ y ∈ xs, limU 1048576 y) (hl : xs.length ≤ 1048576) {k : Int} : mkK sUs xs k ≤ k + 1160000000000000000 := by
  have h1 : mkK sUs xs k ≤ k + 1099530000000 * xs.length := mkK_bd (by omega) fun x hx k => sUs_bd (h x hx) k
  omega
def mCf (x : Config) (k : Int) : Config := ⟨k, mkL mB sB x.backends (k + 1), mkL mV sV x.vips (mkK sB x.backends (k + 1))⟩
def sCf (x : Config) (k : Int) : Int := mkK sV x.vips (mkK sB x.backends (k + 1))
theorem sCf_up (x : Config) (k : Int) : k ≤ sCf x k := by
  have h1 := mkK_mono sB_up x.backends (k + 1)
  have h2 := mkK_mono sV_up x.vips (mkK sB x.backends (k + 1))
  unfold sCf; omega
theorem sCf_bd {x : Config} (hx : limG 1048577 x) (k : Int) : sCf x k ≤ k + 1099530000000 := by
  have h1 := mkB_bd x.backends (k + 1)
  have h2 := mkV_bd hx.2.2 (mkK sB x.backends (k + 1))
  have h4 := hx.1
  have h5 := hx.2.1
  have h7 : (((1048577 : Nat) : Int) + 3) * x.vips.length ≤ (((1048577 : Nat) : Int) + 3) * 1048577 := Int.mul_le_mul_of_nonneg_left (by omega) (by omega)
  unfold sCf
  omega
theorem mkCf_bd {xs : List Config} (h : ∀ y ∈ xs, limG 1048577 y) (hl : xs.length ≤ 1048576) {k : Int} : mkK sCf xs k ≤ k + 1160000000000000000 := by
  have h1 : mkK sCf xs k ≤ k + 1099530000000 * xs.length := mkK_bd (by omega) fun x hx k => sCf_bd (h x hx) k
  omega
def repA : List Entry → Machine → List Config → List Config
  | [], m, al => al
  | x :: xs, m, al => if entryFault x ≠ 0 then al else if (enterM m x).code ≠ 0 then al else repA xs (enterM m x).machine (addC al (enterM m x))
def replayA (xs : List Entry) : List Config := if 200 < xs.length then [zConfig] else repA xs zMachine [zConfig]
theorem repA_drop {xs : List Entry} {i : Nat} (h : i < xs.length) (m : Machine) (al : List Config) :
    repA (xs.drop i) m al = if entryFault (xs.getD i zEntry) ≠ 0 then al else if (enterM m (xs.getD i zEntry)).code ≠ 0 then al else repA (xs.drop (i + 1)) (enterM m (xs.getD i zEntry)).machine (addC al (enterM m (xs.getD i zEntry))) := by
  rw [drop_getD zEntry h, repA]
theorem repA_end (xs : List Entry) (m : Machine) (al : List Config) : repA (xs.drop xs.length) m al = al := by rw [List.drop_length, repA]
theorem repA_R : ∀ {xs : List Entry} {m : Machine} {rp : Int} {al : List Config}, (repR xs m rp al).1.code = 0 → (repR xs m rp al).2 = repA xs m al
  | [], _, _, _, _ => rfl
  | x :: xs, m, rp, al, h => by
    rw [repR] at h ⊢
    rw [repA]
    split at h
    · rename_i h1; exact absurd h h1
    split at h
    · rename_i h1 h2; exact absurd h h2
    rename_i h1 h2
    rw [if_neg h1, if_neg h2, if_neg h1, if_neg h2]
    exact repA_R h
theorem replayA_eq {xs : List Entry} (h : (replayM xs).1.code = 0) : (replayM xs).2 = replayA xs := by
  unfold replayM at h ⊢
  unfold replayA
  split at h
  · cases h
  · rename_i h1
    rw [if_neg h1, if_neg h1]
    exact repA_R h
theorem repR_lim : ∀ {xs : List Entry} {m : Machine} {rp : Int} {al : List Config}, MaP m → (∀ y ∈ al, limG 1048576 y) → (∀ y ∈ (repR xs m rp al).2, limG 1048576 y) ∧ (repR xs m rp al).2.length ≤ al.length + xs.length
  | [], m, rp, al, P, h => ⟨h, by simp [repR]⟩
  | x :: xs, m, rp, al, P, h => by
    rw [repR]
    split
    · exact ⟨by simp, by simp⟩
    split
    · exact ⟨by simp, by simp⟩
    rename_i h1 h2
    have P2 := enterM_p P (x := x) (by omega) (by omega)
    obtain ⟨a1, a2⟩ := repR_lim (xs := xs) (rp := (enterM m x).reply) (al := addC al (enterM m x)) P2 (fun y hy => by
      unfold addC at hy
      split at hy
      · rcases List.mem_append.1 hy with hy | hy
        · exact h y hy
        · rw [List.mem_singleton] at hy
          rw [hy]
          exact P2.lim.1
      · exact h y hy)
    have := addC_len al (enterM m x)
    exact ⟨a1, by simp only [List.length_cons]; omega⟩
theorem replay_al (xs : List Entry) : (∀ y ∈ (replayM xs).2, limG 1048576 y) ∧ (replayM xs).2.length ≤ 201 := by
  unfold replayM
  split
  · exact ⟨by simp, by simp⟩
  · rename_i h
    obtain ⟨a1, a2⟩ := repR_lim (xs := xs) (rp := 0) (al := [zConfig]) maP_zero (fun y hy => by rw [List.mem_singleton] at hy; rw [hy]; exact zConfig_lim _)
    simp only [List.length_singleton] at a2
    exact ⟨a1, by omega⟩
def versOf (xs : List Entry) : ConfigsResult := if (replayM xs).1.code ≠ 0 then ⟨(replayM xs).1.code, []⟩ else ⟨0, (replayM xs).2⟩
theorem vers_lim (xs : List Entry) : (∀ y ∈ (versOf xs).configs, limG 1048577 y) ∧ (versOf xs).configs.length ≤ 201 := by
  obtain ⟨a1, a2⟩ := replay_al xs
  unfold versOf
  split
  · exact ⟨by simp, by simp⟩
  · exact ⟨fun y hy => limG_mono (by omega) (a1 y hy), a2⟩
end Go.H
end
section
set_option maxRecDepth 100000
set_option maxHeartbeats 4000000
set_option cbv.maxSteps 4000000
set_option linter.unusedVariables false
set_option linter.unusedSimpArgs false
namespace Go.H
open Go Go.Proofs.Tryz
variable [Inv prog]
theorem s_spec_VersionsOf (xs : List Entry) (hl : xs.length ≤ 2097152) : SemX prog 30 [aT (.sl false 9 (xs.map eEntry))] [] [.agg (eConfigsResult true (versOf xs))] [] := by
 refine goF [] [] [] func30 ?_
 refine D ?_
 refine kR (s_spec_l11Replay xs hl) ?_
 refine D ?_
 refine cC (fun c0 => ?_) (fun c0 => ?_)
 · skip
   refine D ?_
   refine E ?_
   have he : versOf xs = ⟨(replayM xs).1.code, []⟩ := if_pos (by omega)
   simp [he]
 · skip
   refine D ?_
   refine E ?_
   have he : versOf xs = ⟨0, (replayM xs).2⟩ := if_neg (by omega)
   simp [he]
end Go.H
end
section
set_option maxRecDepth 100000
set_option maxHeartbeats 4000000
set_option cbv.maxSteps 4000000
set_option linter.unusedVariables false
set_option linter.unusedSimpArgs false
namespace Go.H
open Go Go.Proofs.Tryz
variable [Inv prog]
theorem s_laws_toCmd (x : Cmd) : SemX prog 13 [aS (eCmd x)] [] [.agg (eCmd x)] [] := by
 refine goF [] [] [] func13 ?_
 refine D ?_
 exact E trivial
end Go.H
end
section
set_option maxRecDepth 100000
set_option maxHeartbeats 4000000
set_option cbv.maxSteps 4000000
set_option linter.unusedVariables false
set_option linter.unusedSimpArgs false
namespace Go.H
open Go Go.Proofs.Tryz
variable [Inv prog]
theorem s_laws_toEntry (x : Entry) : SemX prog 46 [aS (eEntry x)] [] [.agg (eEntry x)] [] := by
 refine goF [] [] [] func46 ?_
 refine D ?_
 refine kR (s_laws_toCmd x.cmd) ?_
 refine D ?_
 exact E trivial
end Go.H
end
section
set_option maxRecDepth 100000
set_option maxHeartbeats 4000000
set_option cbv.maxSteps 4000000
set_option linter.unusedVariables false
set_option linter.unusedSimpArgs false
namespace Go.H
open Go Go.Proofs.Tryz
variable [Inv prog]
theorem s_laws_toEntryS (xs : List Entry) (hl : xs.length ≤ 2097152)  : SemX prog 31 [aT (.sl false 9 (xs.map eEntry))] [] [.one (.sl true 9 (xs.map eEntry))] [] := by
 refine goF [] [] [] func31 ?_
 refine D ?_
 refine L (α := Nat) (fun x => [(4, .int .i64 x)]) (fun x => [(32768, .arr ⟨9, (xs.take x).map eEntry ++ List.replicate (xs.length - x) dEntry, x + 1, none⟩)]) (fun x => xs.length - x) (fun x => x ≤ xs.length) 0 [] (fun x hI => ?_) (by simp only [go_sem] <;> and_intros <;> first | with_reducible exact rfl | (first | omega | (simp [dEntry, eEntry, zEntry, zCmd, zEntry]; done)))
 refine D ?_
 refine cC (fun c0 => ?_) (fun c0 => ?_)
 · skip
   have hg := getD_bld (l := (xs.take x).map eEntry) (n := xs.length - x) (d := dEntry) (i := x) (by simp; omega)
   have hA := hg
   refine D ?_
   refine kR (s_laws_toEntry (xs.getD x zEntry)) ?_
   refine D ?_
   refine lp_next (x+1) [] ?_ ?_ ?_
   · simp only [go_sem, hA] <;> and_intros <;> first | with_reducible exact rfl | (first | omega | (rw [← bld_step eEntry zEntry dEntry (by omega)]; simp only [eEntry]))
   · omega
   · omega
 · skip
   obtain rfl : x = xs.length := by omega
   refine D ?_
   exact E trivial
end Go.H
end
section
set_option maxRecDepth 100000
set_option maxHeartbeats 4000000
set_option cbv.maxSteps 4000000
set_option linter.unusedVariables false
set_option linter.unusedSimpArgs false
namespace Go.H
open Go Go.Proofs.Tryz
variable [Inv prog]
theorem s_impl_MachineFault (m : Machine) (hm : limM 2097152 m) : SemX prog 104 [aS (eMachine false m)] [] [rI (machineFault m)] [] := by
 refine goF [(102, ⟨some 1, none, none, none⟩)] [(11, 4, [24576], []), (11, 6, [8192], [])] [] func104 ?_
 have hs := hm.2
 refine D ?_
 refine kR (s_impl_ConfigFault m.config hm.1) ?_
 refine D ?_
 refine cC (fun c0 => ?_) (fun c0 => ?_)
 · skip
   refine D ?_
   refine E ?_
   first
   | exact trivial
   | unfold machineFault
     grind
 · skip
   refine D ?_
   refine cC (fun c1 => ?_) (fun c1 => ?_)
   · skip
     refine D ?_
     refine E ?_
     first
     | exact trivial
     | unfold machineFault
       grind
   · skip
     refine D ?_
     refine L (α := Nat) (fun i => [(19, .int .i64 i)]) (fun i => []) (fun i => m.sessions.length - i) (fun i => i ≤ m.sessions.length ∧ scan (seBad m.sessions) m.sessions.length 0 = scan (seBad m.sessions) m.sessions.length i) 0 [] (fun i hL => ?_) (hi := by exact ⟨Nat.zero_le _, rfl⟩)
     obtain ⟨hi2, hie⟩ := hL
     refine D ?_
     refine cC (fun c2 => ?_) (fun c2 => ?_)
     · skip
       have hst := scan_lt (f := seBad m.sessions) (show i < m.sessions.length by omega)
       have hd : seBad m.sessions i = if isSe (m.sessions.getD i zSession) = false then 3 else if 0 < i ∧ (m.sessions.getD i zSession).client ≤ (m.sessions.getD (i - 1) zSession).client then 1 else 0 := rfl
       unfold isSe at hd
       refine D ?_
       refine kR (s_impl_isName _) ?_
       refine D ?_
       refine kRg (s_impl_in _ _ _) ?_
       refine D ?_
       refine kRg (s_impl_in _ _ _) ?_
       refine D ?_
       refine cC (fun c3 => ?_) (fun c3 => ?_)
       · skip
         refine D ?_
         refine E ?_
         first
         | exact trivial
         | unfold machineFault
           grind
       · skip
         refine D ?_
         refine cC (fun c4 => ?_) (fun c4 => ?_)
         · skip
           refine D ?_
           refine E ?_
           first
           | exact trivial
           | unfold machineFault
             grind
         · skip
           refine D ?_
           refine N (i+1) [] (hi := ?_) (hm := ?_)
           · refine ⟨by omega, ?_⟩
             rw [hie, scan_lt (by omega), if_pos]
             unfold seBad isSe
             grind
           · omega
     · skip
       have hs0 : scan (seBad m.sessions) m.sessions.length 0 = 0 := by rw [hie, scan_ge (by omega)]
       refine D ?_
       refine E ?_
       first
       | exact trivial
       | unfold machineFault
         grind
end Go.H
end
section
set_option maxRecDepth 100000
set_option maxHeartbeats 4000000
set_option cbv.maxSteps 4000000
set_option linter.unusedVariables false
set_option linter.unusedSimpArgs false
namespace Go.H
open Go Go.Proofs.Tryz
variable [Inv prog]
theorem s_impl_EntryFault (x : Entry) : SemX prog 105 [aS (eEntry x)] [] [rI (entryFault x)] [] := by
 refine goF [] [] [] func105 ?_
 refine D ?_
 refine kR (s_impl_in _ _ _) ?_
 refine D ?_
 refine kRg (s_impl_in _ _ _) ?_
 refine D ?_
 refine kRg (s_impl_in _ _ _) ?_
 refine D ?_
 refine cC (fun c0 => ?_) (fun c0 => ?_)
 · skip
   refine D ?_
   refine E ?_
   first
   | exact trivial
   | simp only [go_sem, entryFault]; done
   | try simp only [go_sem, entryFault]
     simp only [entryFault, cmdZero]
     grind
 · skip
   refine D ?_
   refine cC (fun c1 => ?_) (fun c1 => ?_)
   · skip
     refine D ?_
     refine E ?_
     first
     | exact trivial
     | simp only [go_sem, entryFault]; done
     | try simp only [go_sem, entryFault]
       simp only [entryFault, cmdZero]
       grind
   · skip
     refine D ?_
     refine cC (fun c2 => ?_) (fun c2 => ?_)
     · skip
       refine D ?_
       refine kR (s_impl_CmdFault _) ?_
       refine D ?_
       refine E ?_
       first
       | exact trivial
       | simp only [go_sem, entryFault]; done
       | try simp only [go_sem, entryFault]
         simp only [entryFault, cmdZero]
         grind
     · skip
       refine D ?_
       refine cC (fun c3 => ?_) (fun c3 => ?_)
       · skip
         refine D ?_
         refine E ?_
         first
         | exact trivial
         | simp only [go_sem, entryFault]; done
         | try simp only [go_sem, entryFault]
           simp only [entryFault, cmdZero]
           grind
       · skip
         refine D ?_
         refine E ?_
         first
         | exact trivial
         | simp only [go_sem, entryFault]; done
         | try simp only [go_sem, entryFault]
           simp only [entryFault, cmdZero]
           grind
end Go.H
end
section
set_option maxRecDepth 100000
set_option maxHeartbeats 4000000
set_option cbv.maxSteps 4000000
set_option linter.unusedVariables false
set_option linter.unusedSimpArgs false
namespace Go.H
open Go Go.Proofs.Tryz
variable [Inv prog]
theorem s_slices_Clone_Session (xs : List Session) (hl : xs.length ≤ 2097152) : SemX prog 157 [aT (.sl false 3 (xs.map eSession))] [] [.one (.sl true 3 (xs.map eSession))] [] := by
 refine goF [] [] [] func157 ?_
 refine D ?_
 refine RW_isn (fun b => xs.map eSession ≠ [] → b = false) rfl rfl (by simp only [go_sem] <;> and_intros <;> first | with_reducible exact rfl | omega | with_reducible trivial | (intros; simp_all; done) | grind) (fun b hb => ?_)
 refine D ?_
 refine cC (fun c0 => ?_) (fun c0 => ?_)
 · skip
   have hx : xs = [] := by
     cases xs with
     | nil => rfl
     | cons a l => have := hb (by simp); rw [this] at c0; cases c0
   subst hx
   refine D ?_
   exact E trivial
 · skip
   refine D ?_
   exact E trivial
end Go.H
end
section
set_option maxRecDepth 100000
set_option maxHeartbeats 4000000
set_option cbv.maxSteps 4000000
set_option linter.unusedVariables false
set_option linter.unusedSimpArgs false
namespace Go.H
open Go Go.Proofs.Tryz
variable [Inv prog]
theorem s_slices_BinarySearchFunc_int64 (R : List Session) (v : Int) (fn : Nat) (hq : callB prog fn = true) (hf : ∀ s : Session, SemX prog fn [aS (eSession s), aI v] [] [rI (cmpI s.client v)] []) (hr : risesS R) (hl : R.length ≤ 2097152) : SemX prog 188 [aT (.sl false 3 (R.map eSession)), aI v, .one (.fn fn [])] [] [rI (lbS R v), rB (hasS R v)] [] := by
 refine goF [] [] [] func188 ?_
 refine D ?_
 refine L (α := Nat × Nat) (fun p => [(9, .int .i64 p.1), (10, .int .i64 p.2)]) (fun p => []) (fun p => p.2 - p.1) (fun p => p.1 ≤ p.2 ∧ p.2 ≤ R.length ∧ (∀ q, q < p.1 → (R.getD q zSession).client < v) ∧ (∀ q, p.2 ≤ q → q < R.length → v ≤ (R.getD q zSession).client)) (0, R.length) [] (fun x0 hL => ?_) (hi := by exact ⟨Nat.zero_le _, Nat.le_refl _, fun q h => by omega, fun q h1 h2 => by omega⟩)
 obtain ⟨i, j⟩ := x0
 obtain ⟨hij, hj, hlo, hup⟩ := hL
 try dsimp only at *
 refine D ?_
 refine cC (fun c0 => ?_) (fun c0 => ?_)
 · skip
   have hhf := half_nat i j (by omega)
   have hw1 : IntKind.u64.wrap ((i : Int) + j) = i + j := by have := wrap_u (i + j) (by omega); simpa using this
   have hw2 : IntKind.i64.wrap (((i + j) / 2 : Nat) : Int) = ((i + j) / 2 : Nat) := wrap_small (by omega) (by omega)
   have hcl : cmpI (R.getD ((i + j) / 2) zSession).client v < 0 ↔ (R.getD ((i + j) / 2) zSession).client < v := by unfold cmpI; grind
   have hA := And.intro hhf (And.intro hw1 (hw2))
   refine D ?_
   refine kR (hf (R.getD ((i + j) / 2) zSession)) ?_ hq
   refine D ?_
   refine cC (fun c1 => ?_) (fun c1 => ?_)
   · skip
     refine D ?_
     refine N ((i + j) / 2 + 1, j) [] (hi := ?_) (hm := ?_)
     · dsimp only
       refine ⟨by omega, by omega, fun q hq => ?_, hup⟩
       by_cases e : q = (i + j) / 2
       · subst e; exact hcl.1 c1
       · have := risesS_lt hr (i := q) (j := (i + j) / 2) (by omega) (by omega); have := hcl.1 c1; omega
     · try dsimp only
       omega
   · skip
     refine D ?_
     refine N (i, (i + j) / 2) [] (hi := ?_) (hm := ?_)
     · dsimp only
       refine ⟨by omega, by omega, hlo, fun q h1 h2 => ?_⟩
       have h3 : v ≤ (R.getD ((i + j) / 2) zSession).client := by have := mt hcl.2 c1; omega
       by_cases e : q = (i + j) / 2
       · subst e; exact h3
       · have := risesS_lt hr (i := (i + j) / 2) (j := q) (by omega) h2; omega
     · try dsimp only
       omega
 · skip
   obtain rfl : i = j := by omega
   have hlb : lbS R v = i := lbS_eq hj hlo (fun h => hup i (Nat.le_refl _) h)
   refine D ?_
   refine kRg (hf (R.getD i zSession)) ?_ hq
   refine D ?_
   refine E ?_
   first
   | exact trivial
   | have hh : hasS R v = (decide (i < R.length) && decide (cmpI (R.getD i zSession).client v = 0)) := by
       unfold hasS
       rw [hlb]
       congr 1
       rw [decide_eq_decide]
       unfold cmpI
       grind
     simp [-List.getD_eq_getElem?_getD, hh, hlb]
end Go.H
end
section
set_option maxRecDepth 100000
set_option maxHeartbeats 4000000
set_option cbv.maxSteps 4000000
set_option linter.unusedVariables false
set_option linter.unusedSimpArgs false
namespace Go.H
open Go Go.Proofs.Tryz
variable [Inv prog]
theorem s_impl_Machine_session_1 (s : Session) (v : Int) : SemX prog 189 [aS (eSession s), aI v] [] [rI (cmpI s.client v)] [] := by
 refine goF [] [] [] func189 ?_
 refine D ?_
 refine kR (s_cmp_Compare_int64 s.client v) ?_
 refine D ?_
 exact E trivial
end Go.H
end
section
set_option maxRecDepth 100000
set_option maxHeartbeats 4000000
set_option cbv.maxSteps 4000000
set_option linter.unusedVariables false
set_option linter.unusedSimpArgs false
namespace Go.H
open Go Go.Proofs.Tryz
variable [Inv prog]
theorem s_impl_Machine_session (m : Machine) (hm : limM 2097152 m) (K : MaOk m) (c : Int) : SemX prog 158 [aT (.ptr (eMachine false m)), aI c] [] [rI (lbS m.sessions c), rB (hasS m.sessions c)] [] := by
 refine goF [] [] [] func158 ?_
 refine D ?_
 refine kR (s_slices_BinarySearchFunc_int64 m.sessions c 189 (by kernel_rfl) (fun s => s_impl_Machine_session_1 s c) K.rs hm.2) ?_
 refine D ?_
 exact E trivial
end Go.H
end
section
set_option maxRecDepth 100000
set_option maxHeartbeats 4000000
set_option cbv.maxSteps 4000000
set_option linter.unusedVariables false
set_option linter.unusedSimpArgs false
namespace Go.H
open Go Go.Proofs.Tryz
variable [Inv prog]
theorem s_slices_Insert_Session (R V : List (List T)) (i : Nat) (hi : i ≤ R.length) (hv : 1 ≤ V.length) (hl : R.length + V.length ≤ 2097152) (fR : ∀ r ∈ R, ∀ t ∈ r, t.flat = true) (fV : ∀ r ∈ V, ∀ t ∈ r, t.flat = true) : SemX prog 159 [.one (.t (.sl true 3 R)), aI i, .one (.t (.sl true 3 V))] [] [.one (.sl true 3 (R.take i ++ V ++ R.drop i))] [] := by
 refine goFC 0 [(82, ⟨none, none, some (183, true), none⟩), (110, ⟨some 10, none, none, none⟩), (156, ⟨some 10, none, none, none⟩)] [(11, 4, [167936], []), (11, 7, [0], []), (11, 8, [167936, 0], [167936]), (15, 4, [0], []), (15, 7, [0], []), (15, 8, [0], [0])] [] func159 (fun cp hcp hcp2 => ?_)
 have hcp3 : R.length ≤ cp := hcp
 have hcV : cpRows (some (0, 0)) V = True := eq_true fV
 have hcT : cpRows (some (0, 0)) (List.take i R) = True := eq_true fun r hr => fR r (List.mem_of_mem_take hr)
 have hcD : cpRows (some (0, 0)) (List.drop i R) = True := eq_true fun r hr => fR r (List.mem_of_mem_drop hr)
 have hX1 : List.take i (R ++ roomR 3 (cp - R.length)) = List.take i R := List.take_append_of_le_length hi
 have hX2 : List.take R.length (R ++ roomR 3 (cp - R.length)) = R := List.take_left' rfl
 have hX3 : List.take (R.length - i) (List.drop i (R ++ roomR 3 (cp - R.length))) = List.drop i R := by rw [List.drop_append_of_le_length hi]; exact List.take_left' (by simp)
 have hA := And.intro hcV (And.intro hcT (And.intro hcD (And.intro hX1 (And.intro hX2 (hX3)))))
 refine D ?_
 refine cC (fun c0 => ?_) (fun c0 => ?_)
 · skip
   omega
 · skip
   refine D ?_
   refine cC (fun c1 => ?_) (fun c1 => ?_)
   · skip
     refine D ?_
     refine E ?_
     obtain rfl : i = R.length := by omega
     simp [List.take_of_length_le]
   · skip
     refine D ?_
     refine cC (fun c2 => ?_) (fun c2 => ?_)
     · skip
       refine D ?_
       refine E ?_
       rw [if_pos (by omega)]
       exact ⟨congrArg (fun r => [TV.one (T.sl true 3 r)]) (ins_grow (by omega) (by omega) (by omega) (by omega) (by omega)), rfl, rfl⟩
     · skip
       refine D ?_
       refine kOv (⟨_, 71, 4, 183, 3, func190, by kernel_rfl, by kernel_rfl, by kernel_rfl, by kernel_rfl, by kernel_rfl, by kernel_rfl⟩ : OvlOk prog 190) ?_
       refine D ?_
       refine cT ?_
       refine D ?_
       refine E ?_
       rw [if_pos (by omega)]
       exact ⟨congrArg (fun r => [TV.one (T.sl true 3 r)]) (ins_room (by omega) (by simp [roomR_len]; omega) (by omega) (by omega) (by omega) (by omega) (by omega)), rfl, rfl⟩
theorem s_put_Se (xs : List Session) (s : Session) (hl : xs.length + 1 ≤ 2097152) (h : hasS xs s.client = false) : SemX prog 159 [.one (.t (.sl true 3 (xs.map eSession))), aI (lbS xs s.client), .one (.t (.sl true 3 [eSession s]))] [] [.one (.sl true 3 ((putS xs s).map eSession))] [] := by
  have := s_slices_Insert_Session (xs.map eSession) [eSession s] (lbS xs s.client) (by simpa using lbS_le xs s.client) (by simp) (by simpa using hl) (flat_Se xs) (by intro r hr; simp only [List.mem_singleton] at hr; subst hr; exact flat_Se [s] _ (by simp))
  have e : (putS xs s).map eSession = List.take (lbS xs s.client) (xs.map eSession) ++ [eSession s] ++ List.drop (lbS xs s.client) (xs.map eSession) := by
    unfold putS
    rw [h]
    simp
  rwa [← e] at this
end Go.H
end
section
set_option maxRecDepth 100000
set_option maxHeartbeats 4000000
set_option cbv.maxSteps 4000000
set_option linter.unusedVariables false
set_option linter.unusedSimpArgs false
namespace Go.H
open Go Go.Proofs.Tryz
variable [Inv prog]
theorem s_impl_enter (m : Machine) (hm1 : limM 2097151 m) (K : MaOk m) (x_ : Entry) (hcf : x_.client ≠ 0 → cmdFault x_.cmd = 0) : SemX prog 106 [aS (eMachine false m), aS (eEntry x_)] [] [.agg (eMachineResult true (enterM m x_))] [] := by
 refine goF [] [(1, 1, [12288], []), (1, 2, [], [53249, 53250]), (1, 4, [12288], []), (1, 5, [], [65536]), (1, 8, [], [24576]), (1, 9, [24576], [24576]), (5, 3, [12288], []), (5, 9, [16384], []), (7, 1, [12288], []), (7, 7, [16384], []), (13, 1, [36864], []), (13, 3, [24576], [24576]), (13, 5, [24576], [24576])] [] func106 ?_
 have hm : limM 2097152 m := ⟨limG_mono (by omega) hm1.1, Nat.le_succ_of_le hm1.2⟩
 have hs := hm.2
 have hs40 := K.s40
 have hlb : hasS m.sessions x_.client = true → lbS m.sessions x_.client < m.sessions.length := hasS_lt
 refine D ?_
 refine kD (s_impl_Config_copied m.config hm.1) ?_
 refine D ?_
 refine kD (s_slices_Clone_Session m.sessions hs) ?_
 refine D ?_
 refine cC (fun c0 => ?_) (fun c0 => ?_)
 · skip
   refine D ?_
   refine E ?_
   have he : enterM m x_ = ⟨0, 0, false, m⟩ := by unfold enterM; grind
   simp [-List.getD_eq_getElem?_getD, he, badM, zMachine, zConfig]
 · skip
   refine D ?_
   refine kR (s_impl_Machine_session m hm K x_.client) ?_
   refine D ?_
   refine cC (fun c1 => ?_) (fun c1 => ?_)
   · skip
     have ho : oldM m x_ = true := by unfold oldM; simpa [-List.getD_eq_getElem?_getD] using c1
     have hh : hasS m.sessions x_.client = true := by unfold oldM at ho; simp only [Bool.and_eq_true] at ho; exact ho.1
     have hl := hlb hh
     refine D ?_
     refine cC (fun c2 => ?_) (fun c2 => ?_)
     · skip
       refine D ?_
       refine E ?_
       have he : enterM m x_ = ⟨0, (m.sessions.getD (lbS m.sessions x_.client) zSession).code, false, m⟩ := by unfold enterM; grind
       simp [-List.getD_eq_getElem?_getD, he, badM, zMachine, zConfig]
     · skip
       refine D ?_
       refine E ?_
       have he : enterM m x_ = ⟨0, 9, false, m⟩ := by unfold enterM; grind
       simp [-List.getD_eq_getElem?_getD, he, badM, zMachine, zConfig]
   · skip
     have ho : oldM m x_ = false := c1
     refine D ?_
     refine cC (fun c3 => ?_) (fun c3 => ?_)
     · skip
       refine D ?_
       refine E ?_
       have he : enterM m x_ = badM 2 := by unfold enterM; grind
       simp [-List.getD_eq_getElem?_getD, he, badM, zMachine, zConfig]
     · skip
       refine D ?_
       refine kR (s_impl_apply m.config hm1.1 K.cf x_.cmd (hcf c0)) ?_
       refine D ?_
       refine cC (fun c4 => ?_) (fun c4 => ?_)
       · skip
         refine D ?_
         refine cC (fun c5 => ?_) (fun c5 => ?_)
         · skip
           have hl := hlb c5
           have hps := putS_has (xs := m.sessions) (s := ⟨x_.client, x_.seq, (applyR m.config x_.cmd).code⟩) c5
           refine D ?_
           refine E ?_
           have he : enterM m x_ = ⟨0, (applyR m.config x_.cmd).code, true, ⟨(applyR m.config x_.cmd).config, putS m.sessions ⟨x_.client, x_.seq, (applyR m.config x_.cmd).code⟩⟩⟩ := by unfold enterM; grind
           simp [-List.getD_eq_getElem?_getD, he, ← hps, eSession]
         · skip
           have hno : hasS m.sessions (Session.client ⟨x_.client, x_.seq, (applyR m.config x_.cmd).code⟩) = false := by simpa using c5
           refine D ?_
           refine kRk [] [65536, 421888] [] (s_put_Se m.sessions ⟨x_.client, x_.seq, (applyR m.config x_.cmd).code⟩ (by omega) hno) ?_
           refine D ?_
           refine E ?_
           have he : enterM m x_ = ⟨0, (applyR m.config x_.cmd).code, true, ⟨(applyR m.config x_.cmd).config, putS m.sessions ⟨x_.client, x_.seq, (applyR m.config x_.cmd).code⟩⟩⟩ := by unfold enterM; grind
           simp [-List.getD_eq_getElem?_getD, he, badM, zMachine, zConfig]
       · skip
         refine D ?_
         refine cC (fun c5 => ?_) (fun c5 => ?_)
         · skip
           have hl := hlb c5
           have hps := putS_has (xs := m.sessions) (s := ⟨x_.client, x_.seq, (applyR m.config x_.cmd).code⟩) c5
           refine D ?_
           refine E ?_
           have he : enterM m x_ = ⟨0, (applyR m.config x_.cmd).code, true, ⟨m.config, putS m.sessions ⟨x_.client, x_.seq, (applyR m.config x_.cmd).code⟩⟩⟩ := by unfold enterM; grind
           simp [-List.getD_eq_getElem?_getD, he, ← hps, eSession]
         · skip
           have hno : hasS m.sessions (Session.client ⟨x_.client, x_.seq, (applyR m.config x_.cmd).code⟩) = false := by simpa using c5
           refine D ?_
           refine kRk [] [65536, 421888] [] (s_put_Se m.sessions ⟨x_.client, x_.seq, (applyR m.config x_.cmd).code⟩ (by omega) hno) ?_
           refine D ?_
           refine E ?_
           have he : enterM m x_ = ⟨0, (applyR m.config x_.cmd).code, true, ⟨m.config, putS m.sessions ⟨x_.client, x_.seq, (applyR m.config x_.cmd).code⟩⟩⟩ := by unfold enterM; grind
           simp [-List.getD_eq_getElem?_getD, he, badM, zMachine, zConfig]
end Go.H
end
section
set_option maxRecDepth 100000
set_option maxHeartbeats 4000000
set_option cbv.maxSteps 4000000
set_option linter.unusedVariables false
set_option linter.unusedSimpArgs false
namespace Go.H
open Go Go.Proofs.Tryz
variable [Inv prog]
theorem s_impl_ApplyEntry (m : Machine) (hm1 : limM 2097151 m) (x_ : Entry) : SemX prog 47 [aS (eMachine false m), aS (eEntry x_)] [] [.agg (eMachineResult true (applyEntry m x_))] [] := by
 refine goF [] [] [] func47 ?_
 have hm : limM 2097152 m := ⟨limG_mono (by omega) hm1.1, Nat.le_succ_of_le hm1.2⟩
 refine D ?_
 refine kR (s_impl_MachineFault m hm) ?_
 refine D ?_
 refine cC (fun c0 => ?_) (fun c0 => ?_)
 · skip
   have K := (ma_ok c0).2
   refine D ?_
   refine kR (s_impl_EntryFault x_) ?_
   refine D ?_
   refine cC (fun c1 => ?_) (fun c1 => ?_)
   · skip
     refine D ?_
     refine E ?_
     have he : applyEntry m x_ = badM (entryFault x_) := by unfold applyEntry; grind
     simp [he, badM, zMachine, zConfig]
   · skip
     have h1 : entryFault x_ = 0 := by omega
     have hcf := fun h => ent_cmd h1 h
     refine D ?_
     refine kR (s_impl_enter m hm1 K x_ hcf) ?_
     refine D ?_
     refine E ?_
     have he : applyEntry m x_ = enterM m x_ := by unfold applyEntry; grind
     simp [he, badM, zMachine, zConfig]
 · skip
   refine D ?_
   refine cC (fun c1 => ?_) (fun c1 => ?_)
   · skip
     refine D ?_
     refine E ?_
     have he : applyEntry m x_ = badM (machineFault m) := by unfold applyEntry; grind
     simp [he, badM, zMachine, zConfig]
   · skip
     exfalso
     grind
end Go.H
end
section
set_option maxRecDepth 100000
set_option maxHeartbeats 4000000
set_option cbv.maxSteps 4000000
set_option linter.unusedVariables false
set_option linter.unusedSimpArgs false
namespace Go.H
open Go Go.Proofs.Tryz
variable [Inv prog]
theorem s_impl_replay (xs : List Entry) (hl : xs.length ≤ 2097152) (fn : Nat) (hq : callB prog fn = true) (hf : ∀ r : MachineResult, SemX prog fn [aS (eMachineResult false r)] [] [] []) : SemX prog 90 [aT (.sl false 9 (xs.map eEntry)), .one (.fn fn [])] [] [.agg (eMachineResult true (replayM xs).1)] [] := by
 refine goF [(28, ⟨some 4, some 57344, some (75, true), none⟩)] [(11, 1, [36864], []), (11, 3, [36864], []), (11, 5, [24576], [24576]), (11, 7, [24576], [24576])] [] func90 ?_
 refine D ?_
 refine cC (fun c0 => ?_) (fun c0 => ?_)
 · skip
   refine D ?_
   refine E ?_
   have he : replayM xs = (badM 2, []) := if_pos (by omega)
   simp [he, badM, zMachine, zConfig]
 · skip
   refine D ?_
   refine L (α := Nat × Machine × Int × List Config) (fun p => [(16, .int .i64 p.1)]) (fun p => [(24576, .var [.int .i64 0, .int .i64 p.2.2.1, .bool false, .int .i64 p.2.1.config.version, .ref 57348 0 p.2.1.config.backends.length, .ref 57349 0 p.2.1.config.vips.length, .ref 57350 0 p.2.1.sessions.length]), (57348, .arr ⟨5, p.2.1.config.backends.map eBackend, 1, none⟩), (57349, .arr ⟨4, p.2.1.config.vips.map (eVip true), 1, none⟩), (57350, .arr ⟨3, p.2.1.sessions.map eSession, 1, none⟩)]) (fun p => xs.length - p.1) (fun p => p.1 ≤ xs.length ∧ MaP p.2.1 ∧ repR xs zMachine 0 [zConfig] = repR (xs.drop p.1) p.2.1 p.2.2.1 p.2.2.2) (0, zMachine, 0, [zConfig]) [] (fun x0 hL => ?_) (by simp only [go_sem] <;> and_intros <;> first | with_reducible exact rfl | (first | omega | exact rfl)) (by exact ⟨Nat.zero_le _, maP_zero, rfl⟩)
   obtain ⟨i, m, rp, al_⟩ := x0
   obtain ⟨hi2, hP, hrp⟩ := hL
   try dsimp only at *
   have hm1 : limM 2097151 m := ⟨limG_mono (by omega) hP.lim.1, Nat.le_trans hP.lim.2 (by omega)⟩
   have hmf : machineFault m = 0 := ma_fault hP.cf hP.ok
   have hae : applyEntry m (xs.getD i zEntry) = if entryFault (xs.getD i zEntry) ≠ 0 then badM (entryFault (xs.getD i zEntry)) else enterM m (xs.getD i zEntry) := by unfold applyEntry; rw [if_neg (by omega)]
   refine D ?_
   refine cC (fun c1 => ?_) (fun c1 => ?_)
   · skip
     refine D ?_
     refine kR (s_impl_ApplyEntry m hm1 (xs.getD i zEntry)) ?_
     refine D ?_
     refine cC (fun c2 => ?_) (fun c2 => ?_)
     · skip
       refine D ?_
       refine E ?_
       have he : (replayM xs).1 = badM (applyEntry m (xs.getD i zEntry)).code := by
         unfold replayM
         rw [if_neg (by omega), hrp, repR_drop (by omega)]
         by_cases h : entryFault (xs.getD i zEntry) ≠ 0
         · have e : (applyEntry m (xs.getD i zEntry)) = badM (entryFault (xs.getD i zEntry)) := by rw [hae, if_pos h]
           rw [if_pos h, e]
           rfl
         · have e : (applyEntry m (xs.getD i zEntry)) = enterM m (xs.getD i zEntry) := by rw [hae, if_neg h]
           rw [if_neg h, if_pos (by rw [← e]; omega), e]
       simp [he, badM, zMachine, zConfig]
     · skip
       have hc0 : (applyEntry m (xs.getD i zEntry)).code = 0 := by omega
       have h0 : entryFault (xs.getD i zEntry) = 0 := by
         rw [hae] at hc0
         split at hc0
         · rename_i h; exact absurd hc0 h
         · omega
       have hen : (applyEntry m (xs.getD i zEntry)) = enterM m (xs.getD i zEntry) := by rw [hae, if_neg (by omega)]
       refine D ?_
       refine kR (hf (applyEntry m (xs.getD i zEntry))) ?_ hq
       refine D ?_
       refine lp_next (i + 1, (applyEntry m (xs.getD i zEntry)).machine, (applyEntry m (xs.getD i zEntry)).reply, addC al_ (applyEntry m (xs.getD i zEntry))) [(57348,98308),(57349,98309),(57350,98310)] ?_ ?_ ?_
       · simp only [go_sem] <;> and_intros <;> first | with_reducible exact rfl | (first | with_reducible exact rfl | omega | (simp [eConfig]; done))
       · dsimp only
         rw [hen]
         refine ⟨by omega, enterM_p hP h0 (by rw [← hen]; exact hc0), ?_⟩
         rw [hrp, repR_drop (by omega), if_neg (by omega), if_neg (by rw [← hen]; omega)]
       · try dsimp only
         omega
   · skip
     obtain rfl : i = xs.length := by omega
     refine D ?_
     refine E ?_
     have he : replayM xs = (⟨0, rp, false, m⟩, al_) := by unfold replayM; rw [if_neg (by omega), hrp, repR_end]
     simp [he]
theorem s_impl_replay_c (xs : List Entry) (hl : xs.length ≤ 2097152) (fn : Nat) (hq : callB prog fn = true) (hf : ∀ (r : MachineResult), limG 2097152 r.machine.config → ∀ (al : List Config), al.length ≤ 1000000 → SemX prog fn [aS (eMachineResult false r), .one (.ptr 0 0)] [.var [.sl true 3 (al.map (eConfig true))]] [] [.var [.sl true 3 ((addC al r).map (eConfig true))]]) : SemX prog 90 [aT (.sl false 9 (xs.map eEntry)), .one (.fn fn [.ptr 0 0])] [.var [.sl true 3 ([zConfig].map (eConfig true))]] [.agg (eMachineResult true (replayM xs).1)] [.var [.sl true 3 ((replayA xs).map (eConfig true))]] := by
 refine goF [(28, ⟨some 4, some 57344, some (75, true), none⟩)] [(11, 1, [36864], []), (11, 3, [36864], []), (11, 5, [24576], [24576]), (11, 7, [24576], [24576])] [] func90 ?_
 skip
 refine D ?_
 refine cC (fun c0 => ?_) (fun c0 => ?_)
 · skip
   have hra0 : replayA xs = [zConfig] := if_pos (by omega)
   refine D ?_
   refine E ?_
   have he : replayM xs = (badM 2, []) := if_pos (by omega)
   simp [he, hra0, eConfig, badM, zMachine, zConfig]
 · skip
   have hra0 : replayA xs = repA xs zMachine [zConfig] := if_neg (by omega)
   refine D ?_
   refine L (α := Nat × Machine × Int × List Config) (fun p => [(16, .int .i64 p.1)]) (fun p => [(24576, .var [.int .i64 0, .int .i64 p.2.2.1, .bool false, .int .i64 p.2.1.config.version, .ref 57348 0 p.2.1.config.backends.length, .ref 57349 0 p.2.1.config.vips.length, .ref 57350 0 p.2.1.sessions.length]), (57348, .arr ⟨5, p.2.1.config.backends.map eBackend, 1, none⟩), (57349, .arr ⟨4, p.2.1.config.vips.map (eVip true), 1, none⟩), (57350, .arr ⟨3, p.2.1.sessions.map eSession, 1, none⟩), (1000000, .var [.ref 1000001 0 p.2.2.2.length]), (1000001, .arr ⟨3, p.2.2.2.map (eConfig true), 1, none⟩)]) (fun p => xs.length - p.1) (fun p => p.1 ≤ xs.length ∧ MaP p.2.1 ∧ repR xs zMachine 0 [zConfig] = repR (xs.drop p.1) p.2.1 p.2.2.1 p.2.2.2 ∧ p.2.2.2.length ≤ p.1 + 1 ∧ repA xs zMachine [zConfig] = repA (xs.drop p.1) p.2.1 p.2.2.2) (0, zMachine, 0, [zConfig]) [] (fun x0 hL => ?_) (by simp only [go_sem] <;> and_intros <;> first | with_reducible exact rfl | (first | omega | exact rfl)) (by exact ⟨Nat.zero_le _, maP_zero, rfl, by simp, rfl⟩)
   obtain ⟨i, m, rp, al_⟩ := x0
   obtain ⟨hi2, hP, hrp, hal, hra⟩ := hL
   try dsimp only at *
   have hm1 : limM 2097151 m := ⟨limG_mono (by omega) hP.lim.1, Nat.le_trans hP.lim.2 (by omega)⟩
   have hmf : machineFault m = 0 := ma_fault hP.cf hP.ok
   have hae : applyEntry m (xs.getD i zEntry) = if entryFault (xs.getD i zEntry) ≠ 0 then badM (entryFault (xs.getD i zEntry)) else enterM m (xs.getD i zEntry) := by unfold applyEntry; rw [if_neg (by omega)]
   refine D ?_
   refine cC (fun c1 => ?_) (fun c1 => ?_)
   · skip
     refine D ?_
     refine kR (s_impl_ApplyEntry m hm1 (xs.getD i zEntry)) ?_
     refine D ?_
     refine cC (fun c2 => ?_) (fun c2 => ?_)
     · skip
       refine D ?_
       refine E ?_
       have he : (replayM xs).1 = badM (applyEntry m (xs.getD i zEntry)).code := by
         unfold replayM
         rw [if_neg (by omega), hrp, repR_drop (by omega)]
         by_cases h : entryFault (xs.getD i zEntry) ≠ 0
         · have e : (applyEntry m (xs.getD i zEntry)) = badM (entryFault (xs.getD i zEntry)) := by rw [hae, if_pos h]
           rw [if_pos h, e]
           rfl
         · have e : (applyEntry m (xs.getD i zEntry)) = enterM m (xs.getD i zEntry) := by rw [hae, if_neg h]
           rw [if_neg h, if_pos (by rw [← e]; omega), e]
       have hra1 : replayA xs = al_ := by
         rw [hra0, hra, repA_drop (by omega)]
         by_cases h : entryFault (xs.getD i zEntry) ≠ 0
         · rw [if_pos h]
         · have e : (applyEntry m (xs.getD i zEntry)) = enterM m (xs.getD i zEntry) := by rw [hae, if_neg h]
           rw [if_neg h, if_pos (by rw [← e]; omega)]
       simp [he, hra1, badM, zMachine, zConfig]
     · skip
       have hc0 : (applyEntry m (xs.getD i zEntry)).code = 0 := by omega
       have h0 : entryFault (xs.getD i zEntry) = 0 := by
         rw [hae] at hc0
         split at hc0
         · rename_i h; exact absurd hc0 h
         · omega
       have hen : (applyEntry m (xs.getD i zEntry)) = enterM m (xs.getD i zEntry) := by rw [hae, if_neg (by omega)]
       have hrl : limG 2097152 (applyEntry m (xs.getD i zEntry)).machine.config := by rw [hen]; exact limG_mono (by omega) (enterM_p hP h0 (by rw [← hen]; exact hc0)).lim.1
       refine D ?_
       refine kRk [1000000] [] [1000001] (hf (applyEntry m (xs.getD i zEntry)) hrl al_ (by omega)) ?_ hq
       refine D ?_
       refine lp_next (i + 1, (applyEntry m (xs.getD i zEntry)).machine, (applyEntry m (xs.getD i zEntry)).reply, addC al_ (applyEntry m (xs.getD i zEntry))) [(57348,98308),(57349,98309),(57350,98310),(1000001,136192)] ?_ ?_ ?_
       · simp only [go_sem] <;> and_intros <;> first | with_reducible exact rfl | (first | with_reducible exact rfl | omega | (simp [eConfig]; done))
       · dsimp only
         rw [hen]
         refine ⟨by omega, enterM_p hP h0 (by rw [← hen]; exact hc0), ?_, by have := addC_len al_ (enterM m (xs.getD i zEntry)); omega, ?_⟩
         · rw [hrp, repR_drop (by omega), if_neg (by omega), if_neg (by rw [← hen]; omega)]
         · rw [hra, repA_drop (by omega), if_neg (by omega), if_neg (by rw [← hen]; omega)]
       · try dsimp only
         omega
   · skip
     obtain rfl : i = xs.length := by omega
     refine D ?_
     refine E ?_
     have he : replayM xs = (⟨0, rp, false, m⟩, al_) := by unfold replayM; rw [if_neg (by omega), hrp, repR_end]
     have hra1 : replayA xs = al_ := by rw [hra0, hra, repA_end]
     simp [he, hra1]
end Go.H
end
section
set_option maxRecDepth 100000
set_option maxHeartbeats 4000000
set_option cbv.maxSteps 4000000
set_option linter.unusedVariables false
set_option linter.unusedSimpArgs false
namespace Go.H
open Go Go.Proofs.Tryz
variable [Inv prog]
theorem s_impl_VersionsOf_1 (r : MachineResult) (hr : limG 2097152 r.machine.config) (al : List Config) (ha : al.length ≤ 1000000) : SemX prog 91 [aS (eMachineResult false r), .one (.ptr 0 0)] [.var [.sl true 3 (al.map (eConfig true))]] [] [.var [.sl true 3 ((addC al r).map (eConfig true))]] := by
 refine goF [] [(2, 0, [1000000], []), (2, 3, [12288], []), (2, 4, [], [61441, 61442]), (2, 5, [61441, 61442], [65536, 61441, 61442]), (2, 6, [1000001, 65536], [69632, 1000001, 65536]), (2, 7, [1000000], [1000000])] [] func91 ?_
 refine D ?_
 refine cC (fun c0 => ?_) (fun c0 => ?_)
 · skip
   refine D ?_
   refine kD (s_impl_Config_copied r.machine.config hr) ?_
   refine D ?_
   refine E ?_
   have hac : addC al r = al ++ [r.machine.config] := if_pos (by unfold freshM; simpa using c0)
   simp [hac, eConfig]
 · skip
   refine D ?_
   refine E ?_
   have hac : addC al r = al := if_neg (by unfold freshM; rw [c0]; simp)
   simp [hac]
end Go.H
end
section
set_option maxRecDepth 100000
set_option maxHeartbeats 4000000
set_option cbv.maxSteps 4000000
set_option linter.unusedVariables false
set_option linter.unusedSimpArgs false
namespace Go.H
open Go Go.Proofs.Tryz
variable [Inv prog]
section
attribute [local go_sem] zConfig
theorem s_impl_VersionsOf (xs : List Entry) (hl : xs.length ≤ 2097152) : SemX prog 32 [aT (.sl false 9 (xs.map eEntry))] [] [.agg (eConfigsResult true (versOf xs))] [] := by
 refine goF [] [] [] func32 ?_
 refine D ?_
 refine kRk [16384] [] [28672] (s_impl_replay_c xs hl 91 (by kernel_rfl) (fun r hr al ha => s_impl_VersionsOf_1 r hr al ha)) ?_
 refine D ?_
 refine cC (fun c0 => ?_) (fun c0 => ?_)
 · skip
   refine D ?_
   refine E ?_
   have he : versOf xs = ⟨(replayM xs).1.code, []⟩ := if_pos (by omega)
   simp [he]
 · skip
   refine D ?_
   refine E ?_
   have he : versOf xs = ⟨0, (replayM xs).2⟩ := if_neg (by omega)
   rw [he, replayA_eq (by omega)]
end
end Go.H
end
section
set_option maxRecDepth 100000
set_option maxHeartbeats 4000000
set_option cbv.maxSteps 4000000
set_option linter.unusedVariables false
set_option linter.unusedSimpArgs false
namespace Go.H
open Go Go.Proofs.Tryz
variable [Inv prog]
theorem s_laws_eqConfigS (xs : List Config) (hl : xs.length ≤ 2097152) (hm : ∀ y ∈ xs, limG 2097152 y) : SemX prog 93 [aT (.sl false 3 (xs.map (eConfig false))), aT (.sl false 3 (xs.map (eConfig false)))] [] [rB true] [] := by
 refine goF [] [] [] func93 ?_
 refine D ?_
 refine cF ?_
 refine D ?_
 refine L (α := Nat) (fun x => [(5, .int .i64 x)]) (fun x => []) (fun x => xs.length - x) (fun x => x ≤ xs.length) 0 [] (fun x hI => ?_)
 refine D ?_
 refine cC (fun c1 => ?_) (fun c1 => ?_)
 · skip
   refine D ?_
   refine kD (s_laws_eqConfig (xs.getD x zConfig) ((all_getD zConfig).2 hm x (by omega))) ?_
   refine D ?_
   refine cF ?_
   refine D ?_
   exact N (x+1) []
 · skip
   refine D ?_
   exact E trivial
end Go.H
end
section
set_option maxRecDepth 100000
set_option maxHeartbeats 4000000
set_option cbv.maxSteps 4000000
set_option linter.unusedVariables false
set_option linter.unusedSimpArgs false
namespace Go.H
open Go Go.Proofs.Tryz
variable [Inv prog]
theorem s_laws_eqConfigsResult (xs : List Config) (c : Int) (hl : xs.length ≤ 2097152) (hm : ∀ y ∈ xs, limG 2097152 y) : SemX prog 33 [aS (eConfigsResult false ⟨c, xs⟩), aS (eConfigsResult false ⟨c, xs⟩)] [] [rB true] [] := by
 refine goF [] [] [] func33 ?_
 refine D ?_
 refine cF ?_
 refine D ?_
 refine kR (s_laws_eqConfigS xs hl hm) ?_
 refine D ?_
 refine cF ?_
 refine D ?_
 exact E trivial
end Go.H
end
section
set_option maxRecDepth 100000
set_option maxHeartbeats 4000000
set_option cbv.maxSteps 4000000
set_option linter.unusedVariables false
set_option linter.unusedSimpArgs false
namespace Go.H
open Go Go.Proofs.Tryz
variable [Inv prog]
theorem s_laws_eqCmd (x : Cmd)  : SemX prog 87 [aS (eCmd x), aS (eCmd x)] [] [rB true] [] := by
 refine goF [] [] [] func87 ?_
 refine D ?_
 refine cF ?_
 refine D ?_
 refine cF ?_
 refine D ?_
 refine cF ?_
 refine D ?_
 refine cF ?_
 refine D ?_
 refine cF ?_
 refine D ?_
 refine cF ?_
 refine D ?_
 exact E trivial
end Go.H
end
section
set_option maxRecDepth 100000
set_option maxHeartbeats 4000000
set_option cbv.maxSteps 4000000
set_option linter.unusedVariables false
set_option linter.unusedSimpArgs false
namespace Go.H
open Go Go.Proofs.Tryz
variable [Inv prog]
theorem s_laws_eqEntry (x : Entry)  : SemX prog 94 [aS (eEntry x), aS (eEntry x)] [] [rB true] [] := by
 refine goF [] [] [] func94 ?_
 refine D ?_
 refine cF ?_
 refine D ?_
 refine cF ?_
 refine D ?_
 refine cF ?_
 refine D ?_
 refine kR (s_laws_eqCmd x.cmd) ?_
 refine D ?_
 refine cF ?_
 refine D ?_
 exact E trivial
end Go.H
end
section
set_option maxRecDepth 100000
set_option maxHeartbeats 4000000
set_option cbv.maxSteps 4000000
set_option linter.unusedVariables false
set_option linter.unusedSimpArgs false
namespace Go.H
open Go Go.Proofs.Tryz
variable [Inv prog]
theorem s_laws_eqEntryS (xs : List Entry) (hl : xs.length ≤ 2097152)  : SemX prog 34 [aT (.sl false 9 (xs.map eEntry)), aT (.sl false 9 (xs.map eEntry))] [] [rB true] [] := by
 refine goF [] [] [] func34 ?_
 refine D ?_
 refine cF ?_
 refine D ?_
 refine L (α := Nat) (fun x => [(5, .int .i64 x)]) (fun x => []) (fun x => xs.length - x) (fun x => x ≤ xs.length) 0 [] (fun x hI => ?_)
 refine D ?_
 refine cC (fun c1 => ?_) (fun c1 => ?_)
 · skip
   refine D ?_
   refine kD (s_laws_eqEntry (xs.getD x zEntry)) ?_
   refine D ?_
   refine cF ?_
   refine D ?_
   exact N (x+1) []
 · skip
   refine D ?_
   exact E trivial
end Go.H
end
section
set_option maxRecDepth 100000
set_option maxHeartbeats 4000000
set_option cbv.maxSteps 4000000
set_option linter.unusedVariables false
set_option linter.unusedSimpArgs false
namespace Go.H
open Go Go.Proofs.Tryz
variable [Inv prog]
section
attribute [local go_sem] List.set_set mkL_length
theorem s_laws_markEntryS (xs : List Entry) (k : Int) (hk : 0 ≤ k) (hl : xs.length ≤ 2097152) (hb : mkK sE xs k ≤ 9000000000000000000) : SemX prog 35 [.one (.arr 0), aI k] [.arr 9 (xs.map eEntry)] [rI (mkK sE xs k)] [.arr 9 ((mkL mE sE xs k).map eEntry)] := by
 refine goF [] [] [] func35 ?_
 refine D ?_
 refine L (α := Nat) (fun x => [(1, .int .i64 (mkK sE (xs.take x) k)), (5, .int .i64 x)]) (fun x => [(1000000, .arr ⟨9, (mkL mE sE (xs.take x) k ++ xs.drop x).map eEntry, 1 + 9 * x, none⟩)]) (fun x => xs.length - x) (fun x => x ≤ xs.length) 0 [] (fun x hI => ?_) (by simp only [go_sem] <;> and_intros <;> first | with_reducible exact rfl | (first | omega | (simp [mkL, mkK]; done)))
 refine D ?_
 refine cC (fun c0 => ?_) (fun c0 => ?_)
 · skip
   have hat := mkK_at sE_up zEntry (xs := xs) (i := x) (by omega) hb
   simp only [sE] at hat
   have hg : ∀ r, (((mkL mE sE (xs.take x) k ++ xs.drop x).map eEntry).set x r).getD x dEntry = r := fun r => getD_set_self (by simp [mkL_length]; omega) r _
   have hA := And.intro hg ((mk_getD mE sE zEntry k (show x < xs.length by omega)))
   refine D ?_
   refine lp_next (x+1) [] ?_ ?_ ?_
   · simp only [go_sem, hA] <;> and_intros <;> first | with_reducible exact rfl | (first | omega | (refine int_eq ?_; rw [mkK_succ sE zEntry (by omega)]; rfl) | (refine arr_eq ?_ (by omega); rw [← mk_step eEntry mE sE zEntry (by omega)]; simp only [eEntry, mE, mE, mC]))
   · omega
   · omega
 · skip
   obtain rfl : x = xs.length := by omega
   refine D ?_
   refine E ?_
   first
   | exact trivial
   | simp only [go_sem, List.drop_length, mkL_length]; done
   | try simp only [go_sem, List.drop_length, mkL_length]
     simp [mkL_length]
end
end Go.H
end
section
set_option maxRecDepth 100000
set_option maxHeartbeats 4000000
set_option cbv.maxSteps 4000000
set_option linter.unusedVariables false
set_option linter.unusedSimpArgs false
namespace Go.H
open Go Go.Proofs.Tryz
variable [Inv prog]
section
attribute [local go_sem] List.set_set mkL_length
theorem s_laws_markConfigS (xs : List Config) (k : Int) (hk : 0 ≤ k) (hl : xs.length ≤ 2097152) (hb : mkK sCf xs k ≤ 9000000000000000000) (hm : ∀ y ∈ xs, limG 2097152 y) : SemX prog 95 [.one (.arr 0), aI k] [.arr 3 (xs.map (eConfig true))] [rI (mkK sCf xs k)] [.arr 3 ((mkL mCf sCf xs k).map (eConfig true))] := by
 refine goF [(48, ⟨some 3, some 98304, none, none⟩), (62, ⟨some 3, some 126976, none, none⟩)] [] [] func95 ?_
 refine D ?_
 refine L (α := Nat) (fun x => [(1, .int .i64 (mkK sCf (xs.take x) k)), (5, .int .i64 x)]) (fun x => [(1000000, .arr ⟨3, (mkL mCf sCf (xs.take x) k ++ xs.drop x).map (eConfig true), 1 + 5 * x, none⟩)]) (fun x => xs.length - x) (fun x => x ≤ xs.length) 0 [] (fun x hI => ?_) (by simp only [go_sem] <;> and_intros <;> first | with_reducible exact rfl | (first | omega | (simp [mkL, mkK]; done)))
 refine D ?_
 refine cC (fun c0 => ?_) (fun c0 => ?_)
 · skip
   have hat := mkK_at sCf_up zConfig (xs := xs) (i := x) (by omega) hb
   simp only [sCf] at hat
   have hg : ∀ r, (((mkL mCf sCf (xs.take x) k ++ xs.drop x).map (eConfig true)).set x r).getD x (dConfig true) = r := fun r => getD_set_self (by simp [mkL_length]; omega) r _
   have hy := hm _ (getD_mem zConfig (show x < xs.length by omega))
   have u1 := Int.le_trans (mkK_mono sV_up _ _) hat.2
   have u0 := Int.le_trans (mkK_mono sB_up _ _) u1
   have w1 := mkK_mono sB_up (xs.getD x zConfig).backends (mkK sCf (xs.take x) k + 1)
   have w2 := mkK_mono sV_up (xs.getD x zConfig).vips (mkK sB (xs.getD x zConfig).backends (mkK sCf (xs.take x) k + 1))
   have hA := And.intro hg ((mk_getD mCf sCf zConfig k (show x < xs.length by omega)))
   refine D ?_
   refine RW_callBN 23 (dConfig true) (by kernel_rfl) (s_laws_markBackendS (xs.getD x zConfig).backends _ (by omega) hy.1 u1) true [98304] [] [] rfl rfl (by simp only [go_sem, hA] <;> and_intros <;> first | with_reducible exact rfl | omega | with_reducible trivial | (intros; simp_all; done) | grind) (by exact rfl) (by simp only [go_sem, hA] <;> and_intros <;> first | with_reducible exact rfl | omega | with_reducible trivial | (intros; simp_all; done) | grind) (by first | rfl | (simp only [go_sem, hA]; done)) (by simp only [go_sem, hA]; exact rfl) ?_
   refine D ?_
   refine RW_callBN 30 (dConfig true) (by kernel_rfl) (s_laws_markVipS (xs.getD x zConfig).vips _ (by omega) hy.2.1 hat.2 hy.2.2) true [126976] [] [] rfl rfl (by simp only [go_sem, hA] <;> and_intros <;> first | with_reducible exact rfl | omega | with_reducible trivial | (intros; simp_all; done) | grind) (by exact rfl) (by simp only [go_sem, hA] <;> and_intros <;> first | with_reducible exact rfl | omega | with_reducible trivial | (intros; simp_all; done) | grind) (by first | rfl | (simp only [go_sem, hA]; done)) (by simp only [go_sem, hA]; exact rfl) ?_
   refine D ?_
   refine lp_next (x+1) [] ?_ ?_ ?_
   · simp only [go_sem, hA] <;> and_intros <;> first | with_reducible exact rfl | (first | omega | (refine int_eq ?_; rw [mkK_succ sCf zConfig (by omega)]; rfl) | (refine arr_eq ?_ (by omega); rw [← mk_step (eConfig true) mCf sCf zConfig (by omega)]; simp only [eConfig, mCf]))
   · omega
   · omega
 · skip
   obtain rfl : x = xs.length := by omega
   refine D ?_
   refine E ?_
   first
   | exact trivial
   | simp only [go_sem, List.drop_length, mkL_length]; done
   | try simp only [go_sem, List.drop_length, mkL_length]
     simp [mkL_length]
end
end Go.H
end
section
set_option maxRecDepth 100000
set_option maxHeartbeats 4000000
set_option cbv.maxSteps 4000000
set_option linter.unusedVariables false
set_option linter.unusedSimpArgs false
namespace Go.H
open Go Go.Proofs.Tryz
variable [Inv prog]
theorem s_laws_markConfigsResult (xs : List Config) (c : Int) (hl : xs.length ≤ 2097152) (hm : ∀ y ∈ xs, limG 2097152 y) (k : Int) (hk : 0 ≤ k) (hb : mkK sCf xs k ≤ 9000000000000000000) : SemX prog 36 [.agg [.t (.int .i64 c), .arr 0], aI k] [.arr 3 (xs.map (eConfig true))] [rI (mkK sCf xs k)] [.arr 3 ((mkL mCf sCf xs k).map (eConfig true))] := by
 refine goF [] [] [] func36 ?_
 refine D ?_
 refine kRk [1000000] [] [] (s_laws_markConfigS xs k hk hl hb hm) ?_
 refine D ?_
 refine E ?_
 first
 | exact trivial
 | simp only [go_sem, mkL_length]
end Go.H
end
section
set_option maxRecDepth 100000
set_option maxHeartbeats 4000000
set_option cbv.maxSteps 4000000
set_option linter.unusedVariables false
set_option linter.unusedSimpArgs false
namespace Go.H
open Go Go.Proofs.Tryz
variable [Inv prog]
section
attribute [local go_sem] mkL_length mCf
theorem s_laws_heldConfigS (xs : List Config) (k : Int) (hk : 0 ≤ k) (hl : xs.length ≤ 2097152) (hb : mkK sCf xs k ≤ 9000000000000000000) (hm : ∀ y ∈ xs, limG 2097152 y) : SemX prog 96 [aT (.sl false 3 ((mkL mCf sCf xs k).map (eConfig false))), aI k] [] [rI (mkK sCf xs k)] [] := by
 refine goF [] [] [] func96 ?_
 refine D ?_
 refine L (α := Nat) (fun x => [(1, .int .i64 (mkK sCf (xs.take x) k)), (5, .int .i64 x)]) (fun x => []) (fun x => xs.length - x) (fun x => x ≤ xs.length) 0 [] (fun x hI => ?_) (by simp only [go_sem] <;> and_intros <;> first | with_reducible exact rfl | (first | omega | (simp [mkK]; done)))
 refine D ?_
 refine cC (fun c0 => ?_) (fun c0 => ?_)
 · skip
   have hat := mkK_at sCf_up zConfig (xs := xs) (i := x) (by omega) hb
   simp only [sCf] at hat
   have hg := mkL_getD mCf sCf zConfig k (show x < xs.length by omega)
   have hy := hm _ (getD_mem zConfig (show x < xs.length by omega))
   have u1 := Int.le_trans (mkK_mono sV_up _ _) hat.2
   have u0 := Int.le_trans (mkK_mono sB_up _ _) u1
   have w1 := mkK_mono sB_up (xs.getD x zConfig).backends (mkK sCf (xs.take x) k + 1)
   have w2 := mkK_mono sV_up (xs.getD x zConfig).vips (mkK sB (xs.getD x zConfig).backends (mkK sCf (xs.take x) k + 1))
   have hA := hg
   refine D ?_
   refine cF ?_
   refine D ?_
   refine kR (s_laws_heldBackendS (xs.getD x zConfig).backends _ (by omega) hy.1 u1) ?_
   refine D ?_
   refine cC (fun c2 => ?_) (fun c2 => ?_)
   · skip
     omega
   · skip
     refine D ?_
     refine kR (s_laws_heldVipS (xs.getD x zConfig).vips _ (by omega) hy.2.1 hat.2 hy.2.2) ?_
     refine D ?_
     refine cC (fun c3 => ?_) (fun c3 => ?_)
     · skip
       omega
     · skip
       refine D ?_
       refine lp_next (x+1) [] ?_ ?_ ?_
       · simp only [go_sem, hA] <;> and_intros <;> first | with_reducible exact rfl | (first | omega | (refine int_eq ?_; rw [mkK_succ sCf zConfig (by omega)]; rfl))
       · omega
       · omega
 · skip
   obtain rfl : x = xs.length := by omega
   refine D ?_
   refine E ?_
   first
   | exact trivial
   | simp [mkL_length]
end
end Go.H
end
section
set_option maxRecDepth 100000
set_option maxHeartbeats 4000000
set_option cbv.maxSteps 4000000
set_option linter.unusedVariables false
set_option linter.unusedSimpArgs false
namespace Go.H
open Go Go.Proofs.Tryz
variable [Inv prog]
theorem s_laws_heldConfigsResult (xs : List Config) (c : Int) (hl : xs.length ≤ 2097152) (hm : ∀ y ∈ xs, limG 2097152 y) (k : Int) (hk : 0 ≤ k) (hb : mkK sCf xs k ≤ 9000000000000000000) : SemX prog 37 [aS (eConfigsResult false ⟨c, mkL mCf sCf xs k⟩), aI k] [] [rI (mkK sCf xs k)] [] := by
 refine goF [] [] [] func37 ?_
 refine D ?_
 refine kR (s_laws_heldConfigS xs k hk hl hb hm) ?_
 refine D ?_
 refine cC (fun c0 => ?_) (fun c0 => ?_)
 · skip
   have := mkK_mono sCf_up xs k
   omega
 · skip
   refine D ?_
   exact E trivial
end Go.H
end
section
set_option maxRecDepth 100000
set_option maxHeartbeats 4000000
set_option cbv.maxSteps 4000000
set_option linter.unusedVariables false
set_option linter.unusedSimpArgs false
namespace Go.H
open Go Go.Proofs.Tryz
variable [Inv prog]
section
attribute [local go_sem] mkL_length mkL_take
theorem s_laws_FnExactVersionsOf (xs : List Entry) (hq : xs.length ≤ 9223372036854775807) : SemX prog 5 [aT (.sl false 9 (xs.map eEntry))] [] [rB true] [] := by
 refine goF [] [] [] func5 ?_
 refine D ?_
 refine kR (s_laws_szEntryS (xs.map eEntry) 1048576 (by omega) (by omega) (by simpa using hq)) ?_
 refine D ?_
 refine cC (fun c0 => ?_) (fun c0 => ?_)
 · skip
   refine D ?_
   exact E trivial
 · skip
   have hz : 0 ≤ szL xs.length 1048576 := by simpa [szL] using c0
   have hle := (szL_ge hz).2
   have hl : xs.length ≤ 2097152 := by omega
   have hr := vers_lim xs
   have hbr := mkCf_bd hr.1 (by omega) (k := 1)
   have hrm : ∀ y ∈ (versOf xs).configs, limG 2097152 y := fun y hy => limG_mono (by omega) (hr.1 y hy)
   have hrl : (versOf xs).configs.length ≤ 2097152 := by omega
   have hur := mkK_mono sCf_up (versOf xs).configs 1
   have hbx := mkE_bd xs 1
   have hux := mkK_mono sE_up xs 1
   refine D ?_
   refine kR (s_laws_toEntryS xs hl) ?_
   refine D ?_
   refine kR (s_spec_VersionsOf xs hl) ?_
   refine D ?_
   refine kR (s_laws_toEntryS xs hl) ?_
   refine D ?_
   refine kR (s_impl_VersionsOf xs hl) ?_
   refine D ?_
   refine kR (s_laws_eqConfigsResult (versOf xs).configs (versOf xs).code hrl hrm) ?_
   refine D ?_
   refine cF ?_
   refine D ?_
   refine kR (s_laws_toEntryS xs hl) ?_
   refine D ?_
   refine kR (s_laws_eqEntryS xs hl) ?_
   refine D ?_
   refine cF ?_
   refine D ?_
   refine kRk [86016] [] [] (s_laws_markEntryS xs 1 (by omega) hl (by omega)) ?_
   refine D ?_
   refine kRg (s_laws_eqConfigsResult (versOf xs).configs (versOf xs).code hrl hrm) ?_
   refine D ?_
   refine cC (fun c3 => ?_) (fun c3 => ?_)
   · skip
     exfalso
     revert c3
     simp [-List.getD_eq_getElem?_getD]
     omega
   · skip
     refine D ?_
     refine kRk [94209] [] [] (s_laws_markConfigsResult (versOf xs).configs (versOf xs).code hrl hrm 1 (by omega) (by omega)) ?_
     refine D ?_
     refine kR (s_laws_heldConfigsResult (versOf xs).configs (versOf xs).code hrl hrm 1 (by omega) (by omega)) ?_
     refine D ?_
     refine cC (fun c4 => ?_) (fun c4 => ?_)
     · skip
       exfalso
       revert c4
       simp [-List.getD_eq_getElem?_getD]
       omega
     · skip
       refine D ?_
       refine cF ?_
       refine D ?_
       refine kR (s_laws_toEntryS xs hl) ?_
       refine D ?_
       refine kR (s_impl_VersionsOf xs hl) ?_
       refine D ?_
       refine kR (s_laws_eqConfigsResult (versOf xs).configs (versOf xs).code hrl hrm) ?_
       refine D ?_
       refine cF ?_
       refine D ?_
       refine kR (s_laws_heldConfigsResult (versOf xs).configs (versOf xs).code hrl hrm 1 (by omega) (by omega)) ?_
       refine D ?_
       refine cC (fun c7 => ?_) (fun c7 => ?_)
       · skip
         exfalso
         revert c7
         simp [-List.getD_eq_getElem?_getD]
         omega
       · skip
         refine D ?_
         refine cF ?_
         refine D ?_
         exact E trivial
end
end Go.H
end
