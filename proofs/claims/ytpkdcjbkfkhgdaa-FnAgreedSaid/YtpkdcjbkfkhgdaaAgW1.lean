/- What the functions that the law reaches compute, each by its code, against pure functions. Conditions: those that each theorem states. -/
import Derived.Test.YtpkdcjbkfkhgdaaQC2
import Derived.ChangeArms
import Derived.DataReads
import Derived.KernelRfl
section
set_option linter.unusedSimpArgs false
set_option linter.unusedVariables false
namespace Go.H
open Go
theorem add_add0 {a : Addr} (hs : a.spot = none) (i j : Nat) : (a.add i).add j = ⟨a.block, a.off + (i + j), none⟩ := by
  obtain ⟨ab, ao, as1⟩ := a
  simp only at hs
  subst hs
  simp only [Addr.add]
  by_cases h1 : i = 0
  · subst h1
    by_cases h2 : j = 0 <;> simp [h2]
  · by_cases h2 : j = 0 <;> simp [h1, h2, Nat.add_assoc]
def okW (w : World) (b : Nat) : Prop := b < w.heap.size
theorem RoL_app {w : World} {ok : Nat → Prop} : ∀ {ts us : List T} {a b : List Value}, RoL w ok ts a → RoL w ok us b → RoL w ok (ts ++ us) (a ++ b)
  | [], us, a, b, h1, h2 => by simp only [RoL] at h1; subst h1; exact h2
  | t :: ts, us, a, b, h1, h2 => by
    simp only [RoL, List.cons_append] at h1 ⊢
    obtain ⟨u, vs, rfl, h3, h4⟩ := h1
    exact ⟨u, vs ++ b, rfl, h3, RoL_app h4 h2⟩
theorem RoL_cat {w : World} {ok : Nat → Prop} {ts us : List T} {cs : List Value} {o n : Nat} (h1 : RoL w ok ts ((cs.drop o).take n)) (h2 : RoL w ok us (cs.drop (o + n))) : RoL w ok (ts ++ us) (cs.drop o) := by
  have := RoL_app h1 h2
  rwa [← List.drop_drop, List.take_append_drop] at this
theorem RoL_end {w : World} {ok : Nat → Prop} {ts : List T} {cs : List Value} {o n : Nat} (h1 : RoL w ok ts ((cs.drop o).take n)) (hl : cs.length = o + n) : RoL w ok ts (cs.drop o) := by
  rwa [List.take_of_length_le (by simp; omega)] at h1
theorem RoRows_snoc {w : World} {ok : Nat → Prop} {sz : Nat} : ∀ {rs : List (List T)} {vs : List Value} {r : List T} {cs : List Value}, RoRows w ok sz rs vs → r.length = sz → RoL w ok r cs → RoRows w ok sz (rs ++ [r]) (vs ++ cs)
  | [], vs, r, cs, h, hl, hr => by
    simp only [RoRows] at h
    subst h
    simp only [List.nil_append, RoRows]
    exact ⟨cs, [], by simp, hl, hr, rfl⟩
  | x :: rs, vs, r, cs, h, hl, hr => by
    simp only [RoRows, List.cons_append] at h ⊢
    obtain ⟨a, b, rfl, h1, h2, h3⟩ := h
    exact ⟨a, b ++ cs, by simp, h1, h2, RoRows_snoc h3 hl hr⟩
section
variable {H : Type} {enc : TypeId × Value → H} {P : Program} {w : World} {base : Nat} {spare : Nat → Bool} {held : Bool}
theorem sl_of {α : Type} (f : α → List T) (q : α → Prop) (sz : Nat) {t e : TypeId} (ht : P.underlying t = some (.slice e)) (hsz : P.cellsOf e = sz) (hf : ∀ x, (f x).length = sz) (hpos : sz ≠ 0)
    (hel : ∀ n cs d, DataW.trod enc P w base spare held n e cs = some d → ∃ x, RoL w (okW w) (f x) cs ∧ q x) {fuel : Nat} {cs : List Value} {x : DataW H × List MemPlace} (h : DataW.trod enc P w base spare held fuel t cs = some x) :
    ∃ xs : List α, RoL w (okW w) [.sl false sz (xs.map f)] cs ∧ xs.length ≤ 9223372036854775807 ∧ ∀ y ∈ xs, q y := by
  rcases DataW.trod_slice ht h with ⟨rfl, _⟩ | ⟨a, len, cap, elems, rest, n, _, rfl, _, hb, hl, hm, hlen, he, _, _⟩
  · refine ⟨[], ?_, by simp, by simp⟩
    simp only [RoL, RoT, List.map_nil, List.length_nil]
    exact ⟨_, [], rfl, ⟨none, 0, [], rfl, Nat.le_refl _, Nat.zero_le _, by simp only [RoRows], fun h => absurd rfl h⟩, rfl⟩
  · rw [hsz] at he
    have one : ∀ i, i < len → ∃ csi x, w.cells? base (a.add (i * sz)) sz = some csi ∧ RoL w (okW w) (f x) csi ∧ q x := by
      intro i hi
      have h1 := he i hi
      rw [List.getElem?_eq_getElem (by omega)] at h1
      obtain ⟨csi, h2, h3⟩ := Option.bind_eq_some_iff.1 h1
      obtain ⟨x, h4, h5⟩ := hel n csi _ h3
      exact ⟨csi, x, h2, h4, h5⟩
    have spot : 0 < len → a.spot = none ∧ a.block < w.heap.size := by
      intro h0
      obtain ⟨csi, x, h1, h2, _⟩ := one 0 h0
      obtain ⟨_, h3, h4⟩ := World.cells?_some h1
      have h5 := h4 0 (by omega)
      rw [List.getElem?_eq_getElem (by omega)] at h5
      simp only [Nat.zero_mul, Addr.add, if_true] at h5
      unfold World.cell? at h5
      split at h5
      · rename_i hh
        split at h5
        · cases h5
        · rename_i hs
          refine ⟨by simpa using hs, ?_⟩
          exact (Array.getElem?_eq_some_iff.1 hh).1
      · cases h5
    have all : ∀ k, k ≤ len → ∃ xs : List α, xs.length = k ∧ (∀ y ∈ xs, q y) ∧ ∃ vs : List Value, RoRows w (okW w) sz (xs.map f) vs ∧ ∀ j u, vs[j]? = some u → w.cell? ⟨a.block, a.off + j, none⟩ = some u := by
      intro k
      induction k with
      | zero => exact fun _ => ⟨[], rfl, by simp, [], by simp only [List.map_nil, RoRows], by simp⟩
      | succ k ih =>
        intro hk
        obtain ⟨xs, h1, h2, vs, h3, h4⟩ := ih (by omega)
        obtain ⟨csi, x, h5, h6, h7⟩ := one k (by omega)
        obtain ⟨_, h8, h9⟩ := World.cells?_some h5
        have hvl := h3.length
        rw [List.length_map, h1] at hvl
        refine ⟨xs ++ [x], by simp [h1], fun y hy => ?_, vs ++ csi, by rw [List.map_append]; exact RoRows_snoc h3 (hf x) h6, fun j u hj => ?_⟩
        · rcases List.mem_append.1 hy with hy | hy
          · exact h2 y hy
          · simp only [List.mem_singleton] at hy
            subst hy
            exact h7
        · by_cases hjv : j < vs.length
          · rw [List.getElem?_append_left hjv] at hj
            exact h4 j u hj
          · rw [List.getElem?_append_right (by omega)] at hj
            obtain ⟨hj2, _⟩ := List.getElem?_eq_some_iff.1 hj
            have h10 := h9 (j - vs.length) (by omega)
            rw [hj] at h10
            have hsp := (spot (by omega)).1
            have hjj : k * sz + (j - vs.length) = j := by rw [← hvl]; exact Nat.add_sub_cancel' (Nat.le_of_not_lt hjv)
            have e : (a.add (k * sz)).add (j - vs.length) = ⟨a.block, a.off + j, none⟩ := by rw [add_add0 hsp, hjj]
            rw [e] at h10
            exact h10
    obtain ⟨xs, h1, h2, vs, h3, h4⟩ := all len (Nat.le_refl _)
    refine ⟨xs, ?_, by rw [h1]; have : cap ≤ 9223372036854775807 := hm; omega, h2⟩
    simp only [RoL]
    refine ⟨_, [], rfl, ?_, rfl⟩
    simp only [RoT, List.length_map]
    refine ⟨some a, cap, vs, by rw [h1], by omega, hm, h3, fun hne => ?_⟩
    have h0 : 0 < len := by
      rcases Nat.eq_zero_or_pos len with e | e
      · rw [e] at h1
        have : xs = [] := List.length_eq_zero_iff.1 h1
        subst this
        exact absurd rfl hne
      · exact e
    obtain ⟨s1, s2⟩ := spot h0
    refine ⟨a.block, a.off, ?_, s2, s2, h4⟩
    obtain ⟨ab, ao, as1⟩ := a
    simp only at s1
    subst s1
    rfl
theorem int_of {t : TypeId} (ht : P.underlying t = some (.int .i64)) {fuel : Nat} {cs : List Value} {x : DataW H × List MemPlace} (h : DataW.trod enc P w base spare held fuel t cs = some x) : ∃ n : Int, RoL w (okW w) [.int .i64 n] cs := by
  obtain ⟨n, rfl, _⟩ := DataW.trod_int ht h
  exact ⟨n, by simp only [RoL, RoT]; exact ⟨_, [], rfl, rfl, rfl⟩⟩
theorem byte_of {t : TypeId} (ht : P.underlying t = some (.int .u8)) {fuel : Nat} {cs : List Value} {x : DataW H × List MemPlace} (h : DataW.trod enc P w base spare held fuel t cs = some x) : ∃ n : Int, RoL w (okW w) [.int .u8 n] cs ∧ (0 ≤ n ∧ n ≤ 255) := by
  obtain ⟨n, rfl, _, hw⟩ := DataW.trod_int ht h
  refine ⟨n, by simp only [RoL, RoT]; exact ⟨_, [], rfl, rfl, rfl⟩, ?_⟩
  simp only [Lit.wf, Bool.and_eq_true, decide_eq_true_eq] at hw
  exact hw
theorem bool_of {t : TypeId} (ht : P.underlying t = some .bool) {fuel : Nat} {cs : List Value} {x : DataW H × List MemPlace} (h : DataW.trod enc P w base spare held fuel t cs = some x) : ∃ n : Bool, RoL w (okW w) [.bool n] cs := by
  obtain ⟨n, rfl, _⟩ := DataW.trod_bool ht h
  exact ⟨n, by simp only [RoL, RoT]; exact ⟨_, [], rfl, rfl, rfl⟩⟩
theorem fld_of {fs : Array Field} {n : Nat} {cs : List Value} {xs : List (DataW H × List MemPlace)} (hf : ∀ (i : Nat) (f : Field), fs[i]? = some f → DataW.trod enc P w base spare held n f.type ((cs.drop f.offset).take (P.cellsOf f.type)) = xs[i]?) (hl : xs.length = fs.size) (i : Nat) {f : Field} (hi : fs[i]? = some f) :
    ∃ d, DataW.trod enc P w base spare held n f.type ((cs.drop f.offset).take (P.cellsOf f.type)) = some d := by
  have h1 := hf i f hi
  obtain ⟨h2, _⟩ := Array.getElem?_eq_some_iff.1 hi
  rw [List.getElem?_eq_getElem (by omega)] at h1
  exact ⟨_, h1⟩
end
def allRo : List T → Bool
  | [] => true
  | t :: ts => !t.isOwn && allRo ts
theorem CRepL_ro {w : World} {fz : Nat → Prop} {hs : List Value} : ∀ {ts : List T} {vs : List Value}, RoL w fz ts vs → allRo ts = true → CRepL w fz hs (ts.map C.t) (fun _ => False) vs
  | [], vs, h, _ => by simpa only [RoL, List.map_nil, CRepL] using h
  | t :: ts, vs, h, hr => by
    simp only [RoL] at h
    obtain ⟨u, us, rfl, h1, h2⟩ := h
    simp only [allRo, Bool.and_eq_true, Bool.not_eq_true'] at hr
    simp only [List.map_cons, CRepL, CRep]
    exact ⟨u, us, fun _ => False, fun _ => False, rfl, fun _ h => h.elim, fun _ h => h, roOwn (fun sz rows e => by rw [e] at hr; simp [T.isOwn] at hr) h1, CRepL_ro h2 hr.2⟩
end Go.H
end
section
set_option maxRecDepth 100000
set_option linter.unusedVariables false
set_option linter.unusedSimpArgs false
namespace Go.H
open Go Go.Proofs.Try
section
variable {H : Type} {enc : TypeId × Value → H} {w : World} {base : Nat} {spare : Nat → Bool} {held : Bool}
theorem cells5 : prog.cellsOf 5 = 1 := by kernel_rfl
theorem ofs_22 {fuel : Nat} {cs : List Value} {d : DataW H × List MemPlace} (h : DataW.trod enc prog w base spare held fuel 22 cs = some d) : ∃ x : List Int, RoL w (okW w) [.sl false 1 (x.map eI_u8)] cs ∧ x.length ≤ 9223372036854775807 ∧ ∀ y ∈ x, (fun b => 0 ≤ b ∧ b ≤ 255) y := by
  exact sl_of eI_u8 (fun b => 0 ≤ b ∧ b ≤ 255) 1 underlying22 cells5 (fun _ => rfl) (by decide) (fun n cs d h => byte_of underlying5 h) h
end
end Go.H
end
section
set_option maxRecDepth 100000
set_option maxHeartbeats 4000000
set_option cbv.maxSteps 4000000
set_option linter.unusedVariables false
set_option linter.unusedSimpArgs false
namespace Go.H
open Go Go.Proofs.Try
variable [Inv prog]
theorem s_laws_lwBig (code : List Int) (hc : code.length ≤ 9223372036854775807) : SemX prog 4 [aT (.sl false 1 (code.map eI_u8))] [] [rB (decide (1048576 < code.length))] [] := by
 refine goF [] [] [] func4 ?_
 refine D ?_
 refine E ?_
 first
 | exact trivial
 | rw [show (decide ((1048576 : Int) < code.length)) = decide (1048576 < code.length) by rw [Bool.eq_iff_iff]; simp; omega]
theorem s_impl_AgreedOf (x : Cluster) (C : CF x) : SemX prog 6 [aS (eCluster false x)] [] [.agg (eEntriesResult true ⟨0, sealedE x⟩)] [] := by
 refine goF [] [] [] func6 ?_
 have hx : limC 2097152 x := cf_lim2 C
 obtain ⟨⟨hn, hN⟩, ⟨hm, hM⟩, hw, hs⟩ := id hx
 have hcz := cf_zero C
 have hsl := sealed_len x
 have hA := hcz
 refine D ?_
 refine kR (s_impl_ClusterFault x hx) ?_
 refine D ?_
 refine cF ?_
 refine D ?_
 refine kR (s_impl_Cluster_sealed x hs) ?_
 refine D ?_
 exact E trivial
theorem s_laws_FnAgreed (code : List Int) (hc : code.length ≤ 9223372036854775807) (hbb : ∀ b ∈ code, 0 ≤ b ∧ b ≤ 255) : SemX prog 3 [aT (.sl false 1 (code.map eI_u8))] [] [rB true] [] := by
 refine goF [(56, ⟨none, none, some (38, true), none⟩)] [(9, 1, [24576], []), (9, 4, [32768], []), (9, 8, [32768], []), (9, 10, [24576], []), (9, 11, [69633], []), (9, 13, [32768], [])] [(4, [1000000053248])] func3 ?_
 refine D ?_
 refine kR (s_laws_lwBig code hc) ?_
 refine D ?_
 refine cC (fun c0 => ?_) (fun c0 => ?_)
 · skip
   refine D ?_
   refine E ?_
   first
   | exact trivial
   | simp; omega
 · skip
   have hb : okB code := ⟨by simp at c0; omega, hbb⟩
   have hS := lwC_safe hb 50
   have hx := cf_lim2 hS.f
   have hsl := sealed_len (lwC code 50)
   have hn5 := hS.f.n
   have hs4 := hS.f.s
   refine D ?_
   refine kR (s_laws_lwCluster code hb false) ?_
   refine D ?_
   refine kR (s_impl_AgreedOf (lwC code 50) hS.f) ?_
   refine D ?_
   refine L (α := Nat) (fun i => [(6, .int .i64 i)]) (fun i => []) (fun i => (lwC code 50).nodes.length - i) (fun i => i ≤ (lwC code 50).nodes.length) 0 [] (fun i hI => ?_)
   refine D ?_
   refine cC (fun c1 => ?_) (fun c1 => ?_)
   · skip
     have hNi := (hS.f.nd i (by omega)).1
     obtain ⟨hk1, hk2⟩ := hS.s i (by omega)
     refine D ?_
     refine kDg (s_impl_CommonOf ((lwC code 50).nodes.getD i zNode).log (sealedE (lwC code 50)) (by have := hNi.l.n; omega) (by omega)) ?_
     refine D ?_
     refine cC (fun c2 => ?_) (fun c2 => ?_)
     · skip
       exfalso
       revert c2
       simp [-List.getD_eq_getElem?_getD]
       omega
     · skip
       refine D ?_
       exact N (i+1) []
   · skip
     refine D ?_
     refine E ?_
     first
     | exact trivial
     | simp; omega
end Go.H
end
