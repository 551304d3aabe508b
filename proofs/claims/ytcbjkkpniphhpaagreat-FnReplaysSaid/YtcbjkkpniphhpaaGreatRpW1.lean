/- What the functions that the law reaches compute, each by its code, against pure functions. Conditions: those that each theorem states. -/
import Derived.Test.YtcbjkkpniphhpaaGreatQC2
import Derived.ChangeArms
import Derived.DataReads
import Derived.KernelRfl
section
set_option linter.unusedSimpArgs false
set_option linter.unusedVariables false
namespace Go.H
open Go
theorem add_add0 {a : Addr} (hs : a.spot = none) (i j : Nat) : (a.add i).add j = ⟨a.block, a.off + (i + j), none⟩ := by
  obtain ⟨ab, ao, as1⟩ := a
  simp only at hs
  subst hs
  simp only [Addr.add]
  by_cases h1 : i = 0
  · subst h1
    by_cases h2 : j = 0 <;> simp [h2]
  · by_cases h2 : j = 0 <;> simp [h1, h2, Nat.add_assoc]
def okW (w : World) (b : Nat) : Prop := b < w.heap.size
theorem RoL_app {w : World} {ok : Nat → Prop} : ∀ {ts us : List T} {a b : List Value}, RoL w ok ts a → RoL w ok us b → RoL w ok (ts ++ us) (a ++ b)
  | [], us, a, b, h1, h2 => by simp only [RoL] at h1; subst h1; exact h2
  | t :: ts, us, a, b, h1, h2 => by
    simp only [RoL, List.cons_append] at h1 ⊢
    obtain ⟨u, vs, rfl, h3, h4⟩ := h1
    exact ⟨u, vs ++ b, rfl, h3, RoL_app h4 h2⟩
theorem RoL_cat {w : World} {ok : Nat → Prop} {ts us : List T} {cs : List Value} {o n : Nat} (h1 : RoL w ok ts ((cs.drop o).take n)) (h2 : RoL w ok us (cs.drop (o + n))) : RoL w ok (ts ++ us) (cs.drop o) := by
  have := RoL_app h1 h2
  rwa [← List.drop_drop, List.take_append_drop] at this
theorem RoL_end {w : World} {ok : Nat → Prop} {ts : List T} {cs : List Value} {o n : Nat} (h1 : RoL w ok ts ((cs.drop o).take n)) (hl : cs.length = o + n) : RoL w ok ts (cs.drop o) := by
  rwa [List.take_of_length_le (by simp; omega)] at h1
theorem RoRows_snoc {w : World} {ok : Nat → Prop} {sz : Nat} : ∀ {rs : List (List T)} {vs : List Value} {r : List T} {cs : List Value}, RoRows w ok sz rs vs → r.length = sz → RoL w ok r cs → RoRows w ok sz (rs ++ [r]) (vs ++ cs)
  | [], vs, r, cs, h, hl, hr => by
    simp only [RoRows] at h
    subst h
    simp only [List.nil_append, RoRows]
    exact ⟨cs, [], by simp, hl, hr, rfl⟩
  | x :: rs, vs, r, cs, h, hl, hr => by
    simp only [RoRows, List.cons_append] at h ⊢
    obtain ⟨a, b, rfl, h1, h2, h3⟩ := h
    exact ⟨a, b ++ cs, by simp, h1, h2, RoRows_snoc h3 hl hr⟩
section
variable {H : Type} {enc : TypeId × Value → H} {P : Program} {w : World} {base : Nat} {spare : Nat → Bool} {held : Bool}
theorem sl_of {α : Type} (f : α → List T) (q : α → Prop) (sz : Nat) {t e : TypeId} (ht : P.underlying t = some (.slice e)) (hsz : P.cellsOf e = sz) (hf : ∀ x, (f x).length = sz) (hpos : sz ≠ 0)
    (hel : ∀ n cs d, DataW.trod enc P w base spare held n e cs = some d → ∃ x, RoL w (okW w) (f x) cs ∧ q x) {fuel : Nat} {cs : List Value} {x : DataW H × List MemPlace} (h : DataW.trod enc P w base spare held fuel t cs = some x) :
    ∃ xs : List α, RoL w (okW w) [.sl false sz (xs.map f)] cs ∧ xs.length ≤ 9223372036854775807 ∧ ∀ y ∈ xs, q y := by
  rcases DataW.trod_slice ht h with ⟨rfl, _⟩ | ⟨a, len, cap, elems, rest, n, _, rfl, _, hb, hl, hm, hlen, he, _, _⟩
  · refine ⟨[], ?_, by simp, by simp⟩
    simp only [RoL, RoT, List.map_nil, List.length_nil]
    exact ⟨_, [], rfl, ⟨none, 0, [], rfl, Nat.le_refl _, Nat.zero_le _, by simp only [RoRows], fun h => absurd rfl h⟩, rfl⟩
  · rw [hsz] at he
    have one : ∀ i, i < len → ∃ csi x, w.cells? base (a.add (i * sz)) sz = some csi ∧ RoL w (okW w) (f x) csi ∧ q x := by
      intro i hi
      have h1 := he i hi
      rw [List.getElem?_eq_getElem (by omega)] at h1
      obtain ⟨csi, h2, h3⟩ := Option.bind_eq_some_iff.1 h1
      obtain ⟨x, h4, h5⟩ := hel n csi _ h3
      exact ⟨csi, x, h2, h4, h5⟩
    have spot : 0 < len → a.spot = none ∧ a.block < w.heap.size := by
      intro h0
      obtain ⟨csi, x, h1, h2, _⟩ := one 0 h0
      obtain ⟨_, h3, h4⟩ := World.cells?_some h1
      have h5 := h4 0 (by omega)
      rw [List.getElem?_eq_getElem (by omega)] at h5
      simp only [Nat.zero_mul, Addr.add, if_true] at h5
      unfold World.cell? at h5
      split at h5
      · rename_i hh
        split at h5
        · cases h5
        · rename_i hs
          refine ⟨by simpa using hs, ?_⟩
          exact (Array.getElem?_eq_some_iff.1 hh).1
      · cases h5
    have all : ∀ k, k ≤ len → ∃ xs : List α, xs.length = k ∧ (∀ y ∈ xs, q y) ∧ ∃ vs : List Value, RoRows w (okW w) sz (xs.map f) vs ∧ ∀ j u, vs[j]? = some u → w.cell? ⟨a.block, a.off + j, none⟩ = some u := by
      intro k
      induction k with
      | zero => exact fun _ => ⟨[], rfl, by simp, [], by simp only [List.map_nil, RoRows], by simp⟩
      | succ k ih =>
        intro hk
        obtain ⟨xs, h1, h2, vs, h3, h4⟩ := ih (by omega)
        obtain ⟨csi, x, h5, h6, h7⟩ := one k (by omega)
        obtain ⟨_, h8, h9⟩ := World.cells?_some h5
        have hvl := h3.length
        rw [List.length_map, h1] at hvl
        refine ⟨xs ++ [x], by simp [h1], fun y hy => ?_, vs ++ csi, by rw [List.map_append]; exact RoRows_snoc h3 (hf x) h6, fun j u hj => ?_⟩
        · rcases List.mem_append.1 hy with hy | hy
          · exact h2 y hy
          · simp only [List.mem_singleton] at hy
            subst hy
            exact h7
        · by_cases hjv : j < vs.length
          · rw [List.getElem?_append_left hjv] at hj
            exact h4 j u hj
          · rw [List.getElem?_append_right (by omega)] at hj
            obtain ⟨hj2, _⟩ := List.getElem?_eq_some_iff.1 hj
            have h10 := h9 (j - vs.length) (by omega)
            rw [hj] at h10
            have hsp := (spot (by omega)).1
            have hjj : k * sz + (j - vs.length) = j := by rw [← hvl]; exact Nat.add_sub_cancel' (Nat.le_of_not_lt hjv)
            have e : (a.add (k * sz)).add (j - vs.length) = ⟨a.block, a.off + j, none⟩ := by rw [add_add0 hsp, hjj]
            rw [e] at h10
            exact h10
    obtain ⟨xs, h1, h2, vs, h3, h4⟩ := all len (Nat.le_refl _)
    refine ⟨xs, ?_, by rw [h1]; have : cap ≤ 9223372036854775807 := hm; omega, h2⟩
    simp only [RoL]
    refine ⟨_, [], rfl, ?_, rfl⟩
    simp only [RoT, List.length_map]
    refine ⟨some a, cap, vs, by rw [h1], by omega, hm, h3, fun hne => ?_⟩
    have h0 : 0 < len := by
      rcases Nat.eq_zero_or_pos len with e | e
      · rw [e] at h1
        have : xs = [] := List.length_eq_zero_iff.1 h1
        subst this
        exact absurd rfl hne
      · exact e
    obtain ⟨s1, s2⟩ := spot h0
    refine ⟨a.block, a.off, ?_, s2, s2, h4⟩
    obtain ⟨ab, ao, as1⟩ := a
    simp only at s1
    subst s1
    rfl
theorem int_of {t : TypeId} (ht : P.underlying t = some (.int .i64)) {fuel : Nat} {cs : List Value} {x : DataW H × List MemPlace} (h : DataW.trod enc P w base spare held fuel t cs = some x) : ∃ n : Int, RoL w (okW w) [.int .i64 n] cs := by
  obtain ⟨n, rfl, _⟩ := DataW.trod_int ht h
  exact ⟨n, by simp only [RoL, RoT]; exact ⟨_, [], rfl, rfl, rfl⟩⟩
theorem byte_of {t : TypeId} (ht : P.underlying t = some (.int .u8)) {fuel : Nat} {cs : List Value} {x : DataW H × List MemPlace} (h : DataW.trod enc P w base spare held fuel t cs = some x) : ∃ n : Int, RoL w (okW w) [.int .u8 n] cs ∧ (0 ≤ n ∧ n ≤ 255) := by
  obtain ⟨n, rfl, _, hw⟩ := DataW.trod_int ht h
  refine ⟨n, by simp only [RoL, RoT]; exact ⟨_, [], rfl, rfl, rfl⟩, ?_⟩
  simp only [Lit.wf, Bool.and_eq_true, decide_eq_true_eq] at hw
  exact hw
theorem bool_of {t : TypeId} (ht : P.underlying t = some .bool) {fuel : Nat} {cs : List Value} {x : DataW H × List MemPlace} (h : DataW.trod enc P w base spare held fuel t cs = some x) : ∃ n : Bool, RoL w (okW w) [.bool n] cs := by
  obtain ⟨n, rfl, _⟩ := DataW.trod_bool ht h
  exact ⟨n, by simp only [RoL, RoT]; exact ⟨_, [], rfl, rfl, rfl⟩⟩
theorem fld_of {fs : Array Field} {n : Nat} {cs : List Value} {xs : List (DataW H × List MemPlace)} (hf : ∀ (i : Nat) (f : Field), fs[i]? = some f → DataW.trod enc P w base spare held n f.type ((cs.drop f.offset).take (P.cellsOf f.type)) = xs[i]?) (hl : xs.length = fs.size) (i : Nat) {f : Field} (hi : fs[i]? = some f) :
    ∃ d, DataW.trod enc P w base spare held n f.type ((cs.drop f.offset).take (P.cellsOf f.type)) = some d := by
  have h1 := hf i f hi
  obtain ⟨h2, _⟩ := Array.getElem?_eq_some_iff.1 hi
  rw [List.getElem?_eq_getElem (by omega)] at h1
  exact ⟨_, h1⟩
end
def allRo : List T → Bool
  | [] => true
  | t :: ts => !t.isOwn && allRo ts
theorem CRepL_ro {w : World} {fz : Nat → Prop} {hs : List Value} : ∀ {ts : List T} {vs : List Value}, RoL w fz ts vs → allRo ts = true → CRepL w fz hs (ts.map C.t) (fun _ => False) vs
  | [], vs, h, _ => by simpa only [RoL, List.map_nil, CRepL] using h
  | t :: ts, vs, h, hr => by
    simp only [RoL] at h
    obtain ⟨u, us, rfl, h1, h2⟩ := h
    simp only [allRo, Bool.and_eq_true, Bool.not_eq_true'] at hr
    simp only [List.map_cons, CRepL, CRep]
    exact ⟨u, us, fun _ => False, fun _ => False, rfl, fun _ h => h.elim, fun _ h => h, roOwn (fun sz rows e => by rw [e] at hr; simp [T.isOwn] at hr) h1, CRepL_ro h2 hr.2⟩
end Go.H
end
section
set_option maxRecDepth 100000
set_option linter.unusedVariables false
set_option linter.unusedSimpArgs false
namespace Go.H
open Go Go.Proofs.Tryz
section
variable {H : Type} {enc : TypeId × Value → H} {w : World} {base : Nat} {spare : Nat → Bool} {held : Bool}
theorem cells5 : prog.cellsOf 5 = 1 := by kernel_rfl
theorem ofs_22 {fuel : Nat} {cs : List Value} {d : DataW H × List MemPlace} (h : DataW.trod enc prog w base spare held fuel 22 cs = some d) : ∃ x : List Int, RoL w (okW w) [.sl false 1 (x.map eI_u8)] cs ∧ x.length ≤ 9223372036854775807 ∧ ∀ y ∈ x, (fun b => 0 ≤ b ∧ b ≤ 255) y := by
  exact sl_of eI_u8 (fun b => 0 ≤ b ∧ b ≤ 255) 1 underlying22 cells5 (fun _ => rfl) (by decide) (fun n cs d h => byte_of underlying5 h) h
end
end Go.H
end
section
set_option maxRecDepth 100000
set_option maxHeartbeats 4000000
set_option cbv.maxSteps 4000000
set_option linter.unusedVariables false
set_option linter.unusedSimpArgs false
namespace Go.H
open Go Go.Proofs.Tryz
variable [Inv prog]
theorem s_spec_l1Source (code : List Int) (hb : okB code) : LayX prog 52 [aT (.sl false 1 (code.map eI_u8))] [.sl false 1 (code.map eI_u8), .int .i64 0] := by
 refine goL [] [] [] func52 ?_
 refine D ?_
 exact E trivial
theorem s_spec_l1Max (a b : Int) : SemX prog 63 [aI a, aI b] [] [rI (if b < a then a else b)] [] := by
 refine goF [] [] [] func63 ?_
 refine D ?_
 refine cC (fun c0 => ?_) (fun c0 => ?_)
 · skip
   refine D ?_
   refine E ?_
   first
   | exact trivial
   | first | (rw [if_pos (by omega)]; done) | (rw [if_neg (by omega)]; done) | grind
 · skip
   refine D ?_
   refine E ?_
   first
   | exact trivial
   | first | (rw [if_pos (by omega)]; done) | (rw [if_neg (by omega)]; done) | grind
theorem s_spec_l11Entries (code : List Int) (hb : okB code)  {a : Int} {n : Int} (h : (0 ≤ a ∧ a ≤ 900000) ∧ 0 ≤ n ∧ n ≤ 1000) : SemX prog 80 [.one (.ptr 0 0), aI n] [.var [.sl false 1 (code.map eI_u8), .int .i64 a]] [.one (.sl true 9 ((entD code a n).1.map eEntry))] [.var [.sl false 1 (code.map eI_u8), .int .i64 (entD code a n).2]] := by
 refine goF [(36, ⟨some 1, none, none, none⟩), (52, ⟨some 1, none, none, none⟩), (30, ⟨some 1, none, none, none⟩), (90, ⟨some 14, none, none, none⟩)] [] [] func80 ?_
 obtain ⟨⟨ha, ha2⟩, hc_⟩ := h
 refine D ?_
 refine L (α := Nat × Int × List Entry × List Int × Nat) (fun p => [(1, .int .i64 (n - p.1)), (5, .ref 40960 0 p.2.2.1.length), (6, .ref 45056 0 p.2.2.2.1.length)]) (fun p => [(1000000, .var [.sl none 1 (code.map eI_u8), .int .i64 p.2.1]), (40960, .arr ⟨9, p.2.2.1.map eEntry, 1, none⟩), (45056, .arr ⟨1, p.2.2.2.1.map eI_i64, p.2.2.2.2, none⟩)]) (fun p => n.toNat - p.1) (fun p => p.1 ≤ n.toNat ∧ 0 ≤ p.2.1 ∧ p.2.1 ≤ a + 12 * p.1 ∧ p.2.2.1.length = p.1 ∧ p.2.2.2.1.length = 4 ∧ (∀ s ∈ p.2.2.2.1, 0 ≤ s ∧ s ≤ (p.1 : Int)) ∧ entL code n.toNat a [] [0, 0, 0, 0] = entL code (n.toNat - p.1) p.2.1 p.2.2.1 p.2.2.2.1) (0, a, [], [0, 0, 0, 0], 1) [] (fun x0 hL => ?_) (by simp only [go_sem] <;> and_intros <;> first | with_reducible exact rfl | (first | omega | exact rfl | (simp; done))) (by exact ⟨Nat.zero_le _, ha, by simp, rfl, rfl, fun s hs => by simp at hs ⊢; omega, rfl⟩)
 obtain ⟨i, a_, out, sq, vr⟩ := x0
 obtain ⟨hi2, hA0, hA1, hol, hsl, hsb, hel⟩ := hL
 try dsimp only at *
 refine D ?_
 refine cC (fun c0 => ?_) (fun c0 => ?_)
 · skip
   have hk3 := nxV_bd hb (a := a_) (by omega) 3
   have hcS := cmdS_bd code (a_ + 1 + 1)
   have hx8 := nxV_bd hb (a := cmdS code (a_ + 1 + 1) + 1 + 1) (by omega) (out.length : Int)
   have hsv := hsb _ (getD_mem zI_i64 (show (1 + nxV code a_ 3).toNat < sq.length by omega))
   have hcc : 0 ≤ enC code a_ ∧ enC code a_ < 4 := by unfold enC; omega
   refine D ?_
   refine kRq false [1000000] [] [] (s_spec_l1Next code hb) ?_
   refine D ?_
   refine kRq false [1000000] [] [] (s_spec_l1Chance code hb) ?_
   refine D ?_
   refine cC (fun c1 => ?_) (fun c1 => ?_)
   · skip
     have heq : enQ code a_ sq = sq.set (1 + nxV code a_ 3).toNat (sq.getD (1 + nxV code a_ 3).toNat zI_i64 + 1) := if_neg (by omega)
     have hgs : ∀ r, ((sq.map eI_i64).set (1 + nxV code a_ 3).toNat r).getD (1 + nxV code a_ 3).toNat dI_i64 = r := fun r => getD_set_self (by simp; omega) r _
     have hev : (enQ code a_ sq).getD (1 + nxV code a_ 3).toNat zI_i64 = sq.getD (1 + nxV code a_ 3).toNat zI_i64 + 1 := by rw [heq]; exact getD_set_self (by omega) _ _
     have hA := hgs
     refine D ?_
     refine RW_callN (by kernel_rfl) (s_spec_l1Max 1 _) false [] [] [] rfl rfl (by simp only [go_sem, hA] <;> and_intros <;> first | with_reducible exact rfl | omega | with_reducible trivial | (intros; simp_all; done) | grind) (by first | rfl | (simp only [go_sem, hA]; done)) (by simp only [go_sem, hA]; exact rfl) ?_
     refine D ?_
     refine kRq false [1000000] [] [] (s_spec_l5Cmd code hb) ?_
     refine D ?_
     refine kRq false [1000000] [] [] (s_spec_l1Chance code hb) ?_
     refine D ?_
     refine cC (fun c2 => ?_) (fun c2 => ?_)
     · skip
       have hey : enY code a_ sq = ⟨1, 0, 0, zCmd⟩ := if_pos (by omega)
       refine D ?_
       refine kGc false [1000000] [] [] (s_spec_l1Chance code hb) (fun g5 => ?_) (fun g5 => ?_)
       · skip
         have hg1 : decide (0 < (out.length : Int)) = true := decide_eq_true (by omega)
         have hA := And.intro hA (hg1)
         refine D ?_
         refine cC (fun c3 => ?_) (fun c3 => ?_)
         · skip
           have hez : enZ code a_ out sq = out.getD (nxV code (enA code a_ + 1) out.length).toNat zEntry := if_pos ⟨by omega, by unfold enA; omega⟩
           have hes : enS code a_ out.length = cmdS code (a_ + 1 + 1) + 1 + 1 + 1 := by unfold enS enA; rw [if_pos (by omega), if_pos (by omega)]
           refine D ?_
           refine kRq false [1000000] [] [] (s_spec_l1Next code hb) ?_
           refine D ?_
           refine lp_next (i + 1, enS code a_ out.length, out ++ [enZ code a_ out sq], enQ code a_ sq, vr + 1) [(40960,233472)] ?_ ?_ ?_
           · simp only [go_sem, hA] <;> and_intros <;> first | with_reducible exact rfl | (first | with_reducible exact rfl | omega | (rw [hes]; done) | (refine int_eq ?_; omega) | (refine arr_eq ?_ ?_ <;> first | (rw [heq]; simp [eI_i64, List.map_set]; done) | (simp [hez, hey, enX, hev, enA, eEntry, eCmd, zCmd, enC, -List.getD_eq_getElem?_getD]; done) | omega | rfl) | (simp [heq]; done) | (simp; done))
           · dsimp only
             have hsb_ := enS_bd code a_ out.length
             obtain ⟨hq1, hq2⟩ := enQ_ok (code := code) (a := a_) hsl hsb hcc
             refine ⟨by omega, by omega, by omega, by simp [hol], hq1, hq2, ?_⟩
             rw [hel, show n.toNat - i = (n.toNat - (i + 1)) + 1 by omega, entL]
           · try dsimp only
             omega
         · skip
           have hez : enZ code a_ out sq = enY code a_ sq := if_neg (by unfold enA; grind)
           have hes : enS code a_ out.length = cmdS code (a_ + 1 + 1) + 1 + 1 := by unfold enS enA; rw [if_pos (by omega), if_neg (by omega)]
           refine D ?_
           refine lp_next (i + 1, enS code a_ out.length, out ++ [enZ code a_ out sq], enQ code a_ sq, vr + 1) [(40960,233472)] ?_ ?_ ?_
           · simp only [go_sem, hA] <;> and_intros <;> first | with_reducible exact rfl | (first | with_reducible exact rfl | omega | (rw [hes]; done) | (refine int_eq ?_; omega) | (refine arr_eq ?_ ?_ <;> first | (rw [heq]; simp [eI_i64, List.map_set]; done) | (simp [hez, hey, enX, hev, enA, eEntry, eCmd, zCmd, enC, -List.getD_eq_getElem?_getD]; done) | omega | rfl) | (simp [heq]; done) | (simp; done))
           · dsimp only
             have hsb_ := enS_bd code a_ out.length
             obtain ⟨hq1, hq2⟩ := enQ_ok (code := code) (a := a_) hsl hsb hcc
             refine ⟨by omega, by omega, by omega, by simp [hol], hq1, hq2, ?_⟩
             rw [hel, show n.toNat - i = (n.toNat - (i + 1)) + 1 by omega, entL]
           · try dsimp only
             omega
       · skip
         have hg1 : decide (0 < (out.length : Int)) = false := decide_eq_false (by omega)
         have hA := And.intro hA (hg1)
         refine D ?_
         refine cF ?_
         have hez : enZ code a_ out sq = enY code a_ sq := if_neg (by omega)
         have hes : enS code a_ out.length = cmdS code (a_ + 1 + 1) + 1 := by unfold enS enA; rw [if_neg (by omega)]
         refine D ?_
         refine lp_next (i + 1, enS code a_ out.length, out ++ [enZ code a_ out sq], enQ code a_ sq, vr + 1) [(40960,233472)] ?_ ?_ ?_
         · simp only [go_sem, hA] <;> and_intros <;> first | with_reducible exact rfl | (first | with_reducible exact rfl | omega | (rw [hes]; done) | (refine int_eq ?_; omega) | (refine arr_eq ?_ ?_ <;> first | (rw [heq]; simp [eI_i64, List.map_set]; done) | (simp [hez, hey, enX, hev, enA, eEntry, eCmd, zCmd, enC, -List.getD_eq_getElem?_getD]; done) | omega | rfl) | (simp [heq]; done) | (simp; done))
         · dsimp only
           have hsb_ := enS_bd code a_ out.length
           obtain ⟨hq1, hq2⟩ := enQ_ok (code := code) (a := a_) hsl hsb hcc
           refine ⟨by omega, by omega, by omega, by simp [hol], hq1, hq2, ?_⟩
           rw [hel, show n.toNat - i = (n.toNat - (i + 1)) + 1 by omega, entL]
         · try dsimp only
           omega
     · skip
       have hey : enY code a_ sq = enX code a_ sq := if_neg (by omega)
       refine D ?_
       refine kGc false [1000000] [] [] (s_spec_l1Chance code hb) (fun g7 => ?_) (fun g7 => ?_)
       · skip
         have hg1 : decide (0 < (out.length : Int)) = true := decide_eq_true (by omega)
         have hA := And.intro hA (hg1)
         refine D ?_
         refine cC (fun c3 => ?_) (fun c3 => ?_)
         · skip
           have hez : enZ code a_ out sq = out.getD (nxV code (enA code a_ + 1) out.length).toNat zEntry := if_pos ⟨by omega, by unfold enA; omega⟩
           have hes : enS code a_ out.length = cmdS code (a_ + 1 + 1) + 1 + 1 + 1 := by unfold enS enA; rw [if_pos (by omega), if_pos (by omega)]
           refine D ?_
           refine kRq false [1000000] [] [] (s_spec_l1Next code hb) ?_
           refine D ?_
           refine lp_next (i + 1, enS code a_ out.length, out ++ [enZ code a_ out sq], enQ code a_ sq, vr + 1) [(40960,233472)] ?_ ?_ ?_
           · simp only [go_sem, hA] <;> and_intros <;> first | with_reducible exact rfl | (first | with_reducible exact rfl | omega | (rw [hes]; done) | (refine int_eq ?_; omega) | (refine arr_eq ?_ ?_ <;> first | (rw [heq]; simp [eI_i64, List.map_set]; done) | (simp [hez, hey, enX, hev, enA, eEntry, eCmd, zCmd, enC, -List.getD_eq_getElem?_getD]; done) | omega | rfl) | (simp [heq]; done) | (simp; done))
           · dsimp only
             have hsb_ := enS_bd code a_ out.length
             obtain ⟨hq1, hq2⟩ := enQ_ok (code := code) (a := a_) hsl hsb hcc
             refine ⟨by omega, by omega, by omega, by simp [hol], hq1, hq2, ?_⟩
             rw [hel, show n.toNat - i = (n.toNat - (i + 1)) + 1 by omega, entL]
           · try dsimp only
             omega
         · skip
           have hez : enZ code a_ out sq = enY code a_ sq := if_neg (by unfold enA; grind)
           have hes : enS code a_ out.length = cmdS code (a_ + 1 + 1) + 1 + 1 := by unfold enS enA; rw [if_pos (by omega), if_neg (by omega)]
           refine D ?_
           refine lp_next (i + 1, enS code a_ out.length, out ++ [enZ code a_ out sq], enQ code a_ sq, vr + 1) [(40960,233472)] ?_ ?_ ?_
           · simp only [go_sem, hA] <;> and_intros <;> first | with_reducible exact rfl | (first | with_reducible exact rfl | omega | (rw [hes]; done) | (refine int_eq ?_; omega) | (refine arr_eq ?_ ?_ <;> first | (rw [heq]; simp [eI_i64, List.map_set]; done) | (simp [hez, hey, enX, hev, enA, eEntry, eCmd, zCmd, enC, -List.getD_eq_getElem?_getD]; done) | omega | rfl) | (simp [heq]; done) | (simp; done))
           · dsimp only
             have hsb_ := enS_bd code a_ out.length
             obtain ⟨hq1, hq2⟩ := enQ_ok (code := code) (a := a_) hsl hsb hcc
             refine ⟨by omega, by omega, by omega, by simp [hol], hq1, hq2, ?_⟩
             rw [hel, show n.toNat - i = (n.toNat - (i + 1)) + 1 by omega, entL]
           · try dsimp only
             omega
       · skip
         have hg1 : decide (0 < (out.length : Int)) = false := decide_eq_false (by omega)
         have hA := And.intro hA (hg1)
         refine D ?_
         refine cF ?_
         have hez : enZ code a_ out sq = enY code a_ sq := if_neg (by omega)
         have hes : enS code a_ out.length = cmdS code (a_ + 1 + 1) + 1 := by unfold enS enA; rw [if_neg (by omega)]
         refine D ?_
         refine lp_next (i + 1, enS code a_ out.length, out ++ [enZ code a_ out sq], enQ code a_ sq, vr + 1) [(40960,233472)] ?_ ?_ ?_
         · simp only [go_sem, hA] <;> and_intros <;> first | with_reducible exact rfl | (first | with_reducible exact rfl | omega | (rw [hes]; done) | (refine int_eq ?_; omega) | (refine arr_eq ?_ ?_ <;> first | (rw [heq]; simp [eI_i64, List.map_set]; done) | (simp [hez, hey, enX, hev, enA, eEntry, eCmd, zCmd, enC, -List.getD_eq_getElem?_getD]; done) | omega | rfl) | (simp [heq]; done) | (simp; done))
         · dsimp only
           have hsb_ := enS_bd code a_ out.length
           obtain ⟨hq1, hq2⟩ := enQ_ok (code := code) (a := a_) hsl hsb hcc
           refine ⟨by omega, by omega, by omega, by simp [hol], hq1, hq2, ?_⟩
           rw [hel, show n.toNat - i = (n.toNat - (i + 1)) + 1 by omega, entL]
         · try dsimp only
           omega
   · skip
     have heq : enQ code a_ sq = sq := if_pos (by omega)
     have hev : (enQ code a_ sq).getD (1 + nxV code a_ 3).toNat zI_i64 = sq.getD (1 + nxV code a_ 3).toNat zI_i64 := by rw [heq]
     refine D ?_
     refine RW_callN (by kernel_rfl) (s_spec_l1Max 1 _) false [] [] [] rfl rfl (by simp only [go_sem] <;> and_intros <;> first | with_reducible exact rfl | omega | with_reducible trivial | (intros; simp_all; done) | grind) (by first | rfl | (simp only [go_sem]; done)) (by simp only [go_sem]; exact rfl) ?_
     refine D ?_
     refine kRq false [1000000] [] [] (s_spec_l5Cmd code hb) ?_
     refine D ?_
     refine kRq false [1000000] [] [] (s_spec_l1Chance code hb) ?_
     refine D ?_
     refine cC (fun c2 => ?_) (fun c2 => ?_)
     · skip
       have hey : enY code a_ sq = ⟨1, 0, 0, zCmd⟩ := if_pos (by omega)
       refine D ?_
       refine kGc false [1000000] [] [] (s_spec_l1Chance code hb) (fun g12 => ?_) (fun g12 => ?_)
       · skip
         have hg1 : decide (0 < (out.length : Int)) = true := decide_eq_true (by omega)
         have hA := hg1
         refine D ?_
         refine cC (fun c3 => ?_) (fun c3 => ?_)
         · skip
           have hez : enZ code a_ out sq = out.getD (nxV code (enA code a_ + 1) out.length).toNat zEntry := if_pos ⟨by omega, by unfold enA; omega⟩
           have hes : enS code a_ out.length = cmdS code (a_ + 1 + 1) + 1 + 1 + 1 := by unfold enS enA; rw [if_pos (by omega), if_pos (by omega)]
           refine D ?_
           refine kRq false [1000000] [] [] (s_spec_l1Next code hb) ?_
           refine D ?_
           refine lp_next (i + 1, enS code a_ out.length, out ++ [enZ code a_ out sq], enQ code a_ sq, vr) [(40960,233472)] ?_ ?_ ?_
           · simp only [go_sem, hA] <;> and_intros <;> first | with_reducible exact rfl | (first | with_reducible exact rfl | omega | (rw [hes]; done) | (refine int_eq ?_; omega) | (refine arr_eq ?_ ?_ <;> first | (rw [heq]; simp [eI_i64, List.map_set]; done) | (simp [hez, hey, enX, hev, enA, eEntry, eCmd, zCmd, enC, -List.getD_eq_getElem?_getD]; done) | omega | rfl) | (simp [heq]; done) | (simp; done))
           · dsimp only
             have hsb_ := enS_bd code a_ out.length
             obtain ⟨hq1, hq2⟩ := enQ_ok (code := code) (a := a_) hsl hsb hcc
             refine ⟨by omega, by omega, by omega, by simp [hol], hq1, hq2, ?_⟩
             rw [hel, show n.toNat - i = (n.toNat - (i + 1)) + 1 by omega, entL]
           · try dsimp only
             omega
         · skip
           have hez : enZ code a_ out sq = enY code a_ sq := if_neg (by unfold enA; grind)
           have hes : enS code a_ out.length = cmdS code (a_ + 1 + 1) + 1 + 1 := by unfold enS enA; rw [if_pos (by omega), if_neg (by omega)]
           refine D ?_
           refine lp_next (i + 1, enS code a_ out.length, out ++ [enZ code a_ out sq], enQ code a_ sq, vr) [(40960,233472)] ?_ ?_ ?_
           · simp only [go_sem, hA] <;> and_intros <;> first | with_reducible exact rfl | (first | with_reducible exact rfl | omega | (rw [hes]; done) | (refine int_eq ?_; omega) | (refine arr_eq ?_ ?_ <;> first | (rw [heq]; simp [eI_i64, List.map_set]; done) | (simp [hez, hey, enX, hev, enA, eEntry, eCmd, zCmd, enC, -List.getD_eq_getElem?_getD]; done) | omega | rfl) | (simp [heq]; done) | (simp; done))
           · dsimp only
             have hsb_ := enS_bd code a_ out.length
             obtain ⟨hq1, hq2⟩ := enQ_ok (code := code) (a := a_) hsl hsb hcc
             refine ⟨by omega, by omega, by omega, by simp [hol], hq1, hq2, ?_⟩
             rw [hel, show n.toNat - i = (n.toNat - (i + 1)) + 1 by omega, entL]
           · try dsimp only
             omega
       · skip
         have hg1 : decide (0 < (out.length : Int)) = false := decide_eq_false (by omega)
         have hA := hg1
         refine D ?_
         refine cF ?_
         have hez : enZ code a_ out sq = enY code a_ sq := if_neg (by omega)
         have hes : enS code a_ out.length = cmdS code (a_ + 1 + 1) + 1 := by unfold enS enA; rw [if_neg (by omega)]
         refine D ?_
         refine lp_next (i + 1, enS code a_ out.length, out ++ [enZ code a_ out sq], enQ code a_ sq, vr) [(40960,233472)] ?_ ?_ ?_
         · simp only [go_sem, hA] <;> and_intros <;> first | with_reducible exact rfl | (first | with_reducible exact rfl | omega | (rw [hes]; done) | (refine int_eq ?_; omega) | (refine arr_eq ?_ ?_ <;> first | (rw [heq]; simp [eI_i64, List.map_set]; done) | (simp [hez, hey, enX, hev, enA, eEntry, eCmd, zCmd, enC, -List.getD_eq_getElem?_getD]; done) | omega | rfl) | (simp [heq]; done) | (simp; done))
         · dsimp only
           have hsb_ := enS_bd code a_ out.length
           obtain ⟨hq1, hq2⟩ := enQ_ok (code := code) (a := a_) hsl hsb hcc
           refine ⟨by omega, by omega, by omega, by simp [hol], hq1, hq2, ?_⟩
           rw [hel, show n.toNat - i = (n.toNat - (i + 1)) + 1 by omega, entL]
         · try dsimp only
           omega
     · skip
       have hey : enY code a_ sq = enX code a_ sq := if_neg (by omega)
       refine D ?_
       refine kGc false [1000000] [] [] (s_spec_l1Chance code hb) (fun g14 => ?_) (fun g14 => ?_)
       · skip
         have hg1 : decide (0 < (out.length : Int)) = true := decide_eq_true (by omega)
         have hA := hg1
         refine D ?_
         refine cC (fun c3 => ?_) (fun c3 => ?_)
         · skip
           have hez : enZ code a_ out sq = out.getD (nxV code (enA code a_ + 1) out.length).toNat zEntry := if_pos ⟨by omega, by unfold enA; omega⟩
           have hes : enS code a_ out.length = cmdS code (a_ + 1 + 1) + 1 + 1 + 1 := by unfold enS enA; rw [if_pos (by omega), if_pos (by omega)]
           refine D ?_
           refine kRq false [1000000] [] [] (s_spec_l1Next code hb) ?_
           refine D ?_
           refine lp_next (i + 1, enS code a_ out.length, out ++ [enZ code a_ out sq], enQ code a_ sq, vr) [(40960,233472)] ?_ ?_ ?_
           · simp only [go_sem, hA] <;> and_intros <;> first | with_reducible exact rfl | (first | with_reducible exact rfl | omega | (rw [hes]; done) | (refine int_eq ?_; omega) | (refine arr_eq ?_ ?_ <;> first | (rw [heq]; simp [eI_i64, List.map_set]; done) | (simp [hez, hey, enX, hev, enA, eEntry, eCmd, zCmd, enC, -List.getD_eq_getElem?_getD]; done) | omega | rfl) | (simp [heq]; done) | (simp; done))
           · dsimp only
             have hsb_ := enS_bd code a_ out.length
             obtain ⟨hq1, hq2⟩ := enQ_ok (code := code) (a := a_) hsl hsb hcc
             refine ⟨by omega, by omega, by omega, by simp [hol], hq1, hq2, ?_⟩
             rw [hel, show n.toNat - i = (n.toNat - (i + 1)) + 1 by omega, entL]
           · try dsimp only
             omega
         · skip
           have hez : enZ code a_ out sq = enY code a_ sq := if_neg (by unfold enA; grind)
           have hes : enS code a_ out.length = cmdS code (a_ + 1 + 1) + 1 + 1 := by unfold enS enA; rw [if_pos (by omega), if_neg (by omega)]
           refine D ?_
           refine lp_next (i + 1, enS code a_ out.length, out ++ [enZ code a_ out sq], enQ code a_ sq, vr) [(40960,233472)] ?_ ?_ ?_
           · simp only [go_sem, hA] <;> and_intros <;> first | with_reducible exact rfl | (first | with_reducible exact rfl | omega | (rw [hes]; done) | (refine int_eq ?_; omega) | (refine arr_eq ?_ ?_ <;> first | (rw [heq]; simp [eI_i64, List.map_set]; done) | (simp [hez, hey, enX, hev, enA, eEntry, eCmd, zCmd, enC, -List.getD_eq_getElem?_getD]; done) | omega | rfl) | (simp [heq]; done) | (simp; done))
           · dsimp only
             have hsb_ := enS_bd code a_ out.length
             obtain ⟨hq1, hq2⟩ := enQ_ok (code := code) (a := a_) hsl hsb hcc
             refine ⟨by omega, by omega, by omega, by simp [hol], hq1, hq2, ?_⟩
             rw [hel, show n.toNat - i = (n.toNat - (i + 1)) + 1 by omega, entL]
           · try dsimp only
             omega
       · skip
         have hg1 : decide (0 < (out.length : Int)) = false := decide_eq_false (by omega)
         have hA := hg1
         refine D ?_
         refine cF ?_
         have hez : enZ code a_ out sq = enY code a_ sq := if_neg (by omega)
         have hes : enS code a_ out.length = cmdS code (a_ + 1 + 1) + 1 := by unfold enS enA; rw [if_neg (by omega)]
         refine D ?_
         refine lp_next (i + 1, enS code a_ out.length, out ++ [enZ code a_ out sq], enQ code a_ sq, vr) [(40960,233472)] ?_ ?_ ?_
         · simp only [go_sem, hA] <;> and_intros <;> first | with_reducible exact rfl | (first | with_reducible exact rfl | omega | (rw [hes]; done) | (refine int_eq ?_; omega) | (refine arr_eq ?_ ?_ <;> first | (rw [heq]; simp [eI_i64, List.map_set]; done) | (simp [hez, hey, enX, hev, enA, eEntry, eCmd, zCmd, enC, -List.getD_eq_getElem?_getD]; done) | omega | rfl) | (simp [heq]; done) | (simp; done))
         · dsimp only
           have hsb_ := enS_bd code a_ out.length
           obtain ⟨hq1, hq2⟩ := enQ_ok (code := code) (a := a_) hsl hsb hcc
           refine ⟨by omega, by omega, by omega, by simp [hol], hq1, hq2, ?_⟩
           rw [hel, show n.toNat - i = (n.toNat - (i + 1)) + 1 by omega, entL]
         · try dsimp only
           omega
 · skip
   obtain rfl : i = n.toNat := by omega
   rw [Nat.sub_self, entL] at hel
   refine D ?_
   refine E ?_
   first
   | exact trivial
   | have he : entD code a n = (out, a_) := hel
     simp [he]
theorem s_spec_l11List (code : List Int) (hb : okB code) : SemX prog 32 [aT (.sl false 1 (code.map eI_u8))] [] [.one (.sl true 9 ((lsD code).map eEntry))] [] := by
 refine goF [(34, ⟨some 14, none, none, none⟩)] [] [] func32 ?_
 have k0 := nxV_bd hb (a := 0) (by omega) 24
 have kl := entL_len code (nxV code 0 24).toNat 1 [] [0, 0, 0, 0]
 have hkA : entD code 1 (nxV code 0 24) = lsA code := rfl
 have kA1 : (lsA code).1.length ≤ 24 := by rw [← hkA]; unfold entD; simp only [List.length_nil] at kl; omega
 have kA2 : 0 ≤ (lsA code).2 ∧ (lsA code).2 ≤ 300 := by rw [← hkA]; unfold entD; omega
 have kB := bcmS_bd code ((lsA code).2 + 1)
 have hA := hkA
 refine D ?_
 refine kLay (s_spec_l1Source _ (by assumption)) ?_
 refine D ?_
 refine kRq false [28672] [] [] (s_spec_l1Next code hb) ?_
 refine D ?_
 refine kRq false [28672] [] [] (s_spec_l11Entries code hb) ?_
 refine D ?_
 refine kGc false [28672] [] [] (s_spec_l1Chance code hb) (fun g3 => ?_) (fun g3 => ?_)
 · skip
   have hg1 : decide (0 < ((lsA code).1.length : Int)) = true := decide_eq_true (by omega)
   have hA := And.intro hA (hg1)
   refine D ?_
   refine cC (fun c0 => ?_) (fun c0 => ?_)
   · skip
     have e := 1
     refine D ?_
     refine kRq false [28672] [] [] (s_spec_l5BentCmd code hb) ?_
     refine D ?_
     refine kRq false [28672] [] [] (s_spec_l1Chance code hb) ?_
     refine D ?_
     refine cC (fun c1 => ?_) (fun c1 => ?_)
     · skip
       refine D ?_
       refine E ?_
       first
       | exact trivial
       | first | (have hl : lsD code = List.replicate 201 zEntry := by simp_all [lsD, lsB]
                  (rw [hl]; exact rfl)) | (simp_all [lsD, lsB, eEntry, eCmd]; done) | (simp_all [lsD, lsB, eEntry, eCmd, List.map_set]; done)
     · skip
       refine D ?_
       refine E ?_
       first
       | exact trivial
       | first | (have hl : lsD code = List.replicate 201 zEntry := by simp_all [lsD, lsB]
                  (rw [hl]; exact rfl)) | (simp_all [lsD, lsB, eEntry, eCmd]; done) | (simp_all [lsD, lsB, eEntry, eCmd, List.map_set]; done)
   · skip
     have e := 1
     refine D ?_
     refine kRq false [28672] [] [] (s_spec_l1Chance code hb) ?_
     refine D ?_
     refine cC (fun c1 => ?_) (fun c1 => ?_)
     · skip
       refine D ?_
       refine E ?_
       first
       | exact trivial
       | first | (have hl : lsD code = List.replicate 201 zEntry := by simp_all [lsD, lsB]
                  (rw [hl]; exact rfl)) | (simp_all [lsD, lsB, eEntry, eCmd]; done) | (simp_all [lsD, lsB, eEntry, eCmd, List.map_set]; done)
     · skip
       refine D ?_
       refine E ?_
       first
       | exact trivial
       | first | (have hl : lsD code = List.replicate 201 zEntry := by simp_all [lsD, lsB]
                  (rw [hl]; exact rfl)) | (simp_all [lsD, lsB, eEntry, eCmd]; done) | (simp_all [lsD, lsB, eEntry, eCmd, List.map_set]; done)
 · skip
   have hg1 : decide (0 < ((lsA code).1.length : Int)) = false := decide_eq_false (by omega)
   have hA := And.intro hA (hg1)
   refine D ?_
   refine cF ?_
   refine D ?_
   refine kRq false [28672] [] [] (s_spec_l1Chance code hb) ?_
   refine D ?_
   refine cC (fun c1 => ?_) (fun c1 => ?_)
   · skip
     refine D ?_
     refine E ?_
     first
     | exact trivial
     | first | (have hl : lsD code = List.replicate 201 zEntry := by simp_all [lsD, lsB]
                (rw [hl]; exact rfl)) | (simp_all [lsD, lsB, eEntry, eCmd]; done) | (simp_all [lsD, lsB, eEntry, eCmd, List.map_set]; done)
   · skip
     refine D ?_
     refine E ?_
     first
     | exact trivial
     | first | (have hl : lsD code = List.replicate 201 zEntry := by simp_all [lsD, lsB]
                (rw [hl]; exact rfl)) | (simp_all [lsD, lsB, eEntry, eCmd]; done) | (simp_all [lsD, lsB, eEntry, eCmd, List.map_set]; done)
theorem s_spec_DrawReplayEntries (code : List Int) (hb : okB code) : SemX prog 8 [aT (.sl false 1 (code.map eI_u8))] [] [.one (.sl true 9 ((lsD code).map eEntry))] [] := by
 refine goF [] [] [] func8 ?_
 refine D ?_
 refine kR (s_spec_l11List code hb) ?_
 refine D ?_
 exact E trivial
theorem s_impl_MachineFault (m : Machine) (hm : limM 2097152 m) : SemX prog 17 [aS (eMachine false m)] [] [rI (machineFault m)] [] := by
 refine goF [(102, ⟨some 1, none, none, none⟩)] [(11, 4, [24576], []), (11, 6, [8192], [])] [] func17 ?_
 have hs := hm.2
 refine D ?_
 refine kR (s_impl_ConfigFault m.config hm.1) ?_
 refine D ?_
 refine cC (fun c0 => ?_) (fun c0 => ?_)
 · skip
   refine D ?_
   refine E ?_
   first
   | exact trivial
   | unfold machineFault
     grind
 · skip
   refine D ?_
   refine cC (fun c1 => ?_) (fun c1 => ?_)
   · skip
     refine D ?_
     refine E ?_
     first
     | exact trivial
     | unfold machineFault
       grind
   · skip
     refine D ?_
     refine L (α := Nat) (fun i => [(19, .int .i64 i)]) (fun i => []) (fun i => m.sessions.length - i) (fun i => i ≤ m.sessions.length ∧ scan (seBad m.sessions) m.sessions.length 0 = scan (seBad m.sessions) m.sessions.length i) 0 [] (fun i hL => ?_) (hi := by exact ⟨Nat.zero_le _, rfl⟩)
     obtain ⟨hi2, hie⟩ := hL
     refine D ?_
     refine cC (fun c2 => ?_) (fun c2 => ?_)
     · skip
       have hst := scan_lt (f := seBad m.sessions) (show i < m.sessions.length by omega)
       have hd : seBad m.sessions i = if isSe (m.sessions.getD i zSession) = false then 3 else if 0 < i ∧ (m.sessions.getD i zSession).client ≤ (m.sessions.getD (i - 1) zSession).client then 1 else 0 := rfl
       unfold isSe at hd
       refine D ?_
       refine kR (s_impl_isName _) ?_
       refine D ?_
       refine kRg (s_impl_in _ _ _) ?_
       refine D ?_
       refine kRg (s_impl_in _ _ _) ?_
       refine D ?_
       refine cC (fun c3 => ?_) (fun c3 => ?_)
       · skip
         refine D ?_
         refine E ?_
         first
         | exact trivial
         | unfold machineFault
           grind
       · skip
         refine D ?_
         refine cC (fun c4 => ?_) (fun c4 => ?_)
         · skip
           refine D ?_
           refine E ?_
           first
           | exact trivial
           | unfold machineFault
             grind
         · skip
           refine D ?_
           refine N (i+1) [] (hi := ?_) (hm := ?_)
           · refine ⟨by omega, ?_⟩
             rw [hie, scan_lt (by omega), if_pos]
             unfold seBad isSe
             grind
           · omega
     · skip
       have hs0 : scan (seBad m.sessions) m.sessions.length 0 = 0 := by rw [hie, scan_ge (by omega)]
       refine D ?_
       refine E ?_
       first
       | exact trivial
       | unfold machineFault
         grind
theorem s_impl_EntryFault (x : Entry) : SemX prog 38 [aS (eEntry x)] [] [rI (entryFault x)] [] := by
 refine goF [] [] [] func38 ?_
 refine D ?_
 refine kR (s_impl_in _ _ _) ?_
 refine D ?_
 refine kRg (s_impl_in _ _ _) ?_
 refine D ?_
 refine kRg (s_impl_in _ _ _) ?_
 refine D ?_
 refine cC (fun c0 => ?_) (fun c0 => ?_)
 · skip
   refine D ?_
   refine E ?_
   first
   | exact trivial
   | simp only [go_sem, entryFault]; done
   | try simp only [go_sem, entryFault]
     simp only [entryFault, cmdZero]
     grind
 · skip
   refine D ?_
   refine cC (fun c1 => ?_) (fun c1 => ?_)
   · skip
     refine D ?_
     refine E ?_
     first
     | exact trivial
     | simp only [go_sem, entryFault]; done
     | try simp only [go_sem, entryFault]
       simp only [entryFault, cmdZero]
       grind
   · skip
     refine D ?_
     refine cC (fun c2 => ?_) (fun c2 => ?_)
     · skip
       refine D ?_
       refine kR (s_impl_CmdFault _) ?_
       refine D ?_
       refine E ?_
       first
       | exact trivial
       | simp only [go_sem, entryFault]; done
       | try simp only [go_sem, entryFault]
         simp only [entryFault, cmdZero]
         grind
     · skip
       refine D ?_
       refine cC (fun c3 => ?_) (fun c3 => ?_)
       · skip
         refine D ?_
         refine E ?_
         first
         | exact trivial
         | simp only [go_sem, entryFault]; done
         | try simp only [go_sem, entryFault]
           simp only [entryFault, cmdZero]
           grind
       · skip
         refine D ?_
         refine E ?_
         first
         | exact trivial
         | simp only [go_sem, entryFault]; done
         | try simp only [go_sem, entryFault]
           simp only [entryFault, cmdZero]
           grind
theorem s_slices_BinarySearchFunc_int64 (R : List Session) (v : Int) (fn : Nat) (hq : callB prog fn = true) (hf : ∀ s : Session, SemX prog fn [aS (eSession s), aI v] [] [rI (cmpI s.client v)] []) (hr : risesS R) (hl : R.length ≤ 2097152) : SemX prog 109 [aT (.sl false 3 (R.map eSession)), aI v, .one (.fn fn [])] [] [rI (lbS R v), rB (hasS R v)] [] := by
 refine goF [] [] [] func109 ?_
 refine D ?_
 refine L (α := Nat × Nat) (fun p => [(9, .int .i64 p.1), (10, .int .i64 p.2)]) (fun p => []) (fun p => p.2 - p.1) (fun p => p.1 ≤ p.2 ∧ p.2 ≤ R.length ∧ (∀ q, q < p.1 → (R.getD q zSession).client < v) ∧ (∀ q, p.2 ≤ q → q < R.length → v ≤ (R.getD q zSession).client)) (0, R.length) [] (fun x0 hL => ?_) (hi := by exact ⟨Nat.zero_le _, Nat.le_refl _, fun q h => by omega, fun q h1 h2 => by omega⟩)
 obtain ⟨i, j⟩ := x0
 obtain ⟨hij, hj, hlo, hup⟩ := hL
 try dsimp only at *
 refine D ?_
 refine cC (fun c0 => ?_) (fun c0 => ?_)
 · skip
   have hhf := half_nat i j (by omega)
   have hw1 : IntKind.u64.wrap ((i : Int) + j) = i + j := by have := wrap_u (i + j) (by omega); simpa using this
   have hw2 : IntKind.i64.wrap (((i + j) / 2 : Nat) : Int) = ((i + j) / 2 : Nat) := wrap_small (by omega) (by omega)
   have hcl : cmpI (R.getD ((i + j) / 2) zSession).client v < 0 ↔ (R.getD ((i + j) / 2) zSession).client < v := by unfold cmpI; grind
   have hA := And.intro hhf (And.intro hw1 (hw2))
   refine D ?_
   refine kR (hf (R.getD ((i + j) / 2) zSession)) ?_ hq
   refine D ?_
   refine cC (fun c1 => ?_) (fun c1 => ?_)
   · skip
     refine D ?_
     refine N ((i + j) / 2 + 1, j) [] (hi := ?_) (hm := ?_)
     · dsimp only
       refine ⟨by omega, by omega, fun q hq => ?_, hup⟩
       by_cases e : q = (i + j) / 2
       · subst e; exact hcl.1 c1
       · have := risesS_lt hr (i := q) (j := (i + j) / 2) (by omega) (by omega); have := hcl.1 c1; omega
     · try dsimp only
       omega
   · skip
     refine D ?_
     refine N (i, (i + j) / 2) [] (hi := ?_) (hm := ?_)
     · dsimp only
       refine ⟨by omega, by omega, hlo, fun q h1 h2 => ?_⟩
       have h3 : v ≤ (R.getD ((i + j) / 2) zSession).client := by have := mt hcl.2 c1; omega
       by_cases e : q = (i + j) / 2
       · subst e; exact h3
       · have := risesS_lt hr (i := (i + j) / 2) (j := q) (by omega) h2; omega
     · try dsimp only
       omega
 · skip
   obtain rfl : i = j := by omega
   have hlb : lbS R v = i := lbS_eq hj hlo (fun h => hup i (Nat.le_refl _) h)
   refine D ?_
   refine kRg (hf (R.getD i zSession)) ?_ hq
   refine D ?_
   refine E ?_
   first
   | exact trivial
   | have hh : hasS R v = (decide (i < R.length) && decide (cmpI (R.getD i zSession).client v = 0)) := by
       unfold hasS
       rw [hlb]
       congr 1
       rw [decide_eq_decide]
       unfold cmpI
       grind
     simp [-List.getD_eq_getElem?_getD, hh, hlb]
theorem s_impl_Machine_session_1 (s : Session) (v : Int) : SemX prog 110 [aS (eSession s), aI v] [] [rI (cmpI s.client v)] [] := by
 refine goF [] [] [] func110 ?_
 refine D ?_
 refine kR (s_cmp_Compare_int64 s.client v) ?_
 refine D ?_
 exact E trivial
theorem s_impl_Machine_session (m : Machine) (hm : limM 2097152 m) (K : MaOk m) (c : Int) : SemX prog 77 [aT (.ptr (eMachine false m)), aI c] [] [rI (lbS m.sessions c), rB (hasS m.sessions c)] [] := by
 refine goF [] [] [] func77 ?_
 refine D ?_
 refine kR (s_slices_BinarySearchFunc_int64 m.sessions c 110 (by kernel_rfl) (fun s => s_impl_Machine_session_1 s c) K.rs hm.2) ?_
 refine D ?_
 exact E trivial
theorem s_slices_Clone_Session (xs : List Session) (hl : xs.length ≤ 2097152) : SemX prog 85 [aT (.sl false 3 (xs.map eSession))] [] [.one (.sl true 3 (xs.map eSession))] [] := by
 refine goF [] [] [] func85 ?_
 refine D ?_
 refine RW_isn (fun b => xs.map eSession ≠ [] → b = false) rfl rfl (by simp only [go_sem] <;> and_intros <;> first | with_reducible exact rfl | omega | with_reducible trivial | (intros; simp_all; done) | grind) (fun b hb => ?_)
 refine D ?_
 refine cC (fun c0 => ?_) (fun c0 => ?_)
 · skip
   have hx : xs = [] := by
     cases xs with
     | nil => rfl
     | cons a l => have := hb (by simp); rw [this] at c0; cases c0
   subst hx
   refine D ?_
   exact E trivial
 · skip
   refine D ?_
   exact E trivial
theorem s_slices_Insert_Session (R V : List (List T)) (i : Nat) (hi : i ≤ R.length) (hv : 1 ≤ V.length) (hl : R.length + V.length ≤ 2097152) (fR : ∀ r ∈ R, ∀ t ∈ r, t.flat = true) (fV : ∀ r ∈ V, ∀ t ∈ r, t.flat = true) : SemX prog 87 [.one (.t (.sl true 3 R)), aI i, .one (.t (.sl true 3 V))] [] [.one (.sl true 3 (R.take i ++ V ++ R.drop i))] [] := by
 refine goFC 0 [(82, ⟨none, none, some (94, true), none⟩), (110, ⟨some 10, none, none, none⟩), (156, ⟨some 10, none, none, none⟩)] [(11, 4, [167936], []), (11, 7, [0], []), (11, 8, [167936, 0], [167936]), (15, 4, [0], []), (15, 7, [0], []), (15, 8, [0], [0])] [] func87 (fun cp hcp hcp2 => ?_)
 have hcp3 : R.length ≤ cp := hcp
 have hcV : cpRows (some (0, 0)) V = True := eq_true fV
 have hcT : cpRows (some (0, 0)) (List.take i R) = True := eq_true fun r hr => fR r (List.mem_of_mem_take hr)
 have hcD : cpRows (some (0, 0)) (List.drop i R) = True := eq_true fun r hr => fR r (List.mem_of_mem_drop hr)
 have hX1 : List.take i (R ++ roomR 3 (cp - R.length)) = List.take i R := List.take_append_of_le_length hi
 have hX2 : List.take R.length (R ++ roomR 3 (cp - R.length)) = R := List.take_left' rfl
 have hX3 : List.take (R.length - i) (List.drop i (R ++ roomR 3 (cp - R.length))) = List.drop i R := by rw [List.drop_append_of_le_length hi]; exact List.take_left' (by simp)
 have hA := And.intro hcV (And.intro hcT (And.intro hcD (And.intro hX1 (And.intro hX2 (hX3)))))
 refine D ?_
 refine cC (fun c0 => ?_) (fun c0 => ?_)
 · skip
   omega
 · skip
   refine D ?_
   refine cC (fun c1 => ?_) (fun c1 => ?_)
   · skip
     refine D ?_
     refine E ?_
     obtain rfl : i = R.length := by omega
     simp [List.take_of_length_le]
   · skip
     refine D ?_
     refine cC (fun c2 => ?_) (fun c2 => ?_)
     · skip
       refine D ?_
       refine E ?_
       rw [if_pos (by omega)]
       exact ⟨congrArg (fun r => [TV.one (T.sl true 3 r)]) (ins_grow (by omega) (by omega) (by omega) (by omega) (by omega)), rfl, rfl⟩
     · skip
       refine D ?_
       refine kOv (⟨_, 30, 4, 94, 3, func115, by kernel_rfl, by kernel_rfl, by kernel_rfl, by kernel_rfl, by kernel_rfl, by kernel_rfl⟩ : OvlOk prog 115) ?_
       refine D ?_
       refine cT ?_
       refine D ?_
       refine E ?_
       rw [if_pos (by omega)]
       exact ⟨congrArg (fun r => [TV.one (T.sl true 3 r)]) (ins_room (by omega) (by simp [roomR_len]; omega) (by omega) (by omega) (by omega) (by omega) (by omega)), rfl, rfl⟩
theorem s_put_Se (xs : List Session) (s : Session) (hl : xs.length + 1 ≤ 2097152) (h : hasS xs s.client = false) : SemX prog 87 [.one (.t (.sl true 3 (xs.map eSession))), aI (lbS xs s.client), .one (.t (.sl true 3 [eSession s]))] [] [.one (.sl true 3 ((putS xs s).map eSession))] [] := by
  have := s_slices_Insert_Session (xs.map eSession) [eSession s] (lbS xs s.client) (by simpa using lbS_le xs s.client) (by simp) (by simpa using hl) (flat_Se xs) (by intro r hr; simp only [List.mem_singleton] at hr; subst hr; exact flat_Se [s] _ (by simp))
  have e : (putS xs s).map eSession = List.take (lbS xs s.client) (xs.map eSession) ++ [eSession s] ++ List.drop (lbS xs s.client) (xs.map eSession) := by
    unfold putS
    rw [h]
    simp
  rwa [← e] at this
theorem s_impl_enter (m : Machine) (hm1 : limM 2097151 m) (K : MaOk m) (x_ : Entry) (hcf : x_.client ≠ 0 → cmdFault x_.cmd = 0) : SemX prog 39 [aS (eMachine false m), aS (eEntry x_)] [] [.agg (eMachineResult true (enterM m x_))] [] := by
 refine goF [] [(1, 1, [12288], []), (1, 2, [], [53249, 53250]), (1, 4, [12288], []), (1, 5, [], [65536]), (1, 8, [], [24576]), (1, 9, [24576], [24576]), (5, 3, [12288], []), (5, 9, [16384], []), (7, 1, [12288], []), (7, 7, [16384], []), (13, 1, [36864], []), (13, 3, [24576], [24576]), (13, 5, [24576], [24576])] [] func39 ?_
 have hm : limM 2097152 m := ⟨limG_mono (by omega) hm1.1, Nat.le_succ_of_le hm1.2⟩
 have hs := hm.2
 have hs40 := K.s40
 have hlb : hasS m.sessions x_.client = true → lbS m.sessions x_.client < m.sessions.length := hasS_lt
 refine D ?_
 refine kD (s_impl_Config_copied m.config hm.1) ?_
 refine D ?_
 refine kD (s_slices_Clone_Session m.sessions hs) ?_
 refine D ?_
 refine cC (fun c0 => ?_) (fun c0 => ?_)
 · skip
   refine D ?_
   refine E ?_
   have he : enterM m x_ = ⟨0, 0, false, m⟩ := by unfold enterM; grind
   simp [-List.getD_eq_getElem?_getD, he, badM, zMachine, zConfig]
 · skip
   refine D ?_
   refine kR (s_impl_Machine_session m hm K x_.client) ?_
   refine D ?_
   refine cC (fun c1 => ?_) (fun c1 => ?_)
   · skip
     have ho : oldM m x_ = true := by unfold oldM; simpa [-List.getD_eq_getElem?_getD] using c1
     have hh : hasS m.sessions x_.client = true := by unfold oldM at ho; simp only [Bool.and_eq_true] at ho; exact ho.1
     have hl := hlb hh
     refine D ?_
     refine cC (fun c2 => ?_) (fun c2 => ?_)
     · skip
       refine D ?_
       refine E ?_
       have he : enterM m x_ = ⟨0, (m.sessions.getD (lbS m.sessions x_.client) zSession).code, false, m⟩ := by unfold enterM; grind
       simp [-List.getD_eq_getElem?_getD, he, badM, zMachine, zConfig]
     · skip
       refine D ?_
       refine E ?_
       have he : enterM m x_ = ⟨0, 9, false, m⟩ := by unfold enterM; grind
       simp [-List.getD_eq_getElem?_getD, he, badM, zMachine, zConfig]
   · skip
     have ho : oldM m x_ = false := c1
     refine D ?_
     refine cC (fun c3 => ?_) (fun c3 => ?_)
     · skip
       refine D ?_
       refine E ?_
       have he : enterM m x_ = badM 2 := by unfold enterM; grind
       simp [-List.getD_eq_getElem?_getD, he, badM, zMachine, zConfig]
     · skip
       refine D ?_
       refine kR (s_impl_apply m.config hm1.1 K.cf x_.cmd (hcf c0)) ?_
       refine D ?_
       refine cC (fun c4 => ?_) (fun c4 => ?_)
       · skip
         refine D ?_
         refine cC (fun c5 => ?_) (fun c5 => ?_)
         · skip
           have hl := hlb c5
           have hps := putS_has (xs := m.sessions) (s := ⟨x_.client, x_.seq, (applyR m.config x_.cmd).code⟩) c5
           refine D ?_
           refine E ?_
           have he : enterM m x_ = ⟨0, (applyR m.config x_.cmd).code, true, ⟨(applyR m.config x_.cmd).config, putS m.sessions ⟨x_.client, x_.seq, (applyR m.config x_.cmd).code⟩⟩⟩ := by unfold enterM; grind
           simp [-List.getD_eq_getElem?_getD, he, ← hps, eSession]
         · skip
           have hno : hasS m.sessions (Session.client ⟨x_.client, x_.seq, (applyR m.config x_.cmd).code⟩) = false := by simpa using c5
           refine D ?_
           refine kRk [] [65536, 421888] [] (s_put_Se m.sessions ⟨x_.client, x_.seq, (applyR m.config x_.cmd).code⟩ (by omega) hno) ?_
           refine D ?_
           refine E ?_
           have he : enterM m x_ = ⟨0, (applyR m.config x_.cmd).code, true, ⟨(applyR m.config x_.cmd).config, putS m.sessions ⟨x_.client, x_.seq, (applyR m.config x_.cmd).code⟩⟩⟩ := by unfold enterM; grind
           simp [-List.getD_eq_getElem?_getD, he, badM, zMachine, zConfig]
       · skip
         refine D ?_
         refine cC (fun c5 => ?_) (fun c5 => ?_)
         · skip
           have hl := hlb c5
           have hps := putS_has (xs := m.sessions) (s := ⟨x_.client, x_.seq, (applyR m.config x_.cmd).code⟩) c5
           refine D ?_
           refine E ?_
           have he : enterM m x_ = ⟨0, (applyR m.config x_.cmd).code, true, ⟨m.config, putS m.sessions ⟨x_.client, x_.seq, (applyR m.config x_.cmd).code⟩⟩⟩ := by unfold enterM; grind
           simp [-List.getD_eq_getElem?_getD, he, ← hps, eSession]
         · skip
           have hno : hasS m.sessions (Session.client ⟨x_.client, x_.seq, (applyR m.config x_.cmd).code⟩) = false := by simpa using c5
           refine D ?_
           refine kRk [] [65536, 421888] [] (s_put_Se m.sessions ⟨x_.client, x_.seq, (applyR m.config x_.cmd).code⟩ (by omega) hno) ?_
           refine D ?_
           refine E ?_
           have he : enterM m x_ = ⟨0, (applyR m.config x_.cmd).code, true, ⟨m.config, putS m.sessions ⟨x_.client, x_.seq, (applyR m.config x_.cmd).code⟩⟩⟩ := by unfold enterM; grind
           simp [-List.getD_eq_getElem?_getD, he, badM, zMachine, zConfig]
theorem s_impl_ApplyEntry (m : Machine) (hm1 : limM 2097151 m) (x_ : Entry) : SemX prog 13 [aS (eMachine false m), aS (eEntry x_)] [] [.agg (eMachineResult true (applyEntry m x_))] [] := by
 refine goF [] [] [] func13 ?_
 have hm : limM 2097152 m := ⟨limG_mono (by omega) hm1.1, Nat.le_succ_of_le hm1.2⟩
 refine D ?_
 refine kR (s_impl_MachineFault m hm) ?_
 refine D ?_
 refine cC (fun c0 => ?_) (fun c0 => ?_)
 · skip
   have K := (ma_ok c0).2
   refine D ?_
   refine kR (s_impl_EntryFault x_) ?_
   refine D ?_
   refine cC (fun c1 => ?_) (fun c1 => ?_)
   · skip
     refine D ?_
     refine E ?_
     have he : applyEntry m x_ = badM (entryFault x_) := by unfold applyEntry; grind
     simp [he, badM, zMachine, zConfig]
   · skip
     have h1 : entryFault x_ = 0 := by omega
     have hcf := fun h => ent_cmd h1 h
     refine D ?_
     refine kR (s_impl_enter m hm1 K x_ hcf) ?_
     refine D ?_
     refine E ?_
     have he : applyEntry m x_ = enterM m x_ := by unfold applyEntry; grind
     simp [he, badM, zMachine, zConfig]
 · skip
   refine D ?_
   refine cC (fun c1 => ?_) (fun c1 => ?_)
   · skip
     refine D ?_
     refine E ?_
     have he : applyEntry m x_ = badM (machineFault m) := by unfold applyEntry; grind
     simp [he, badM, zMachine, zConfig]
   · skip
     exfalso
     grind
theorem s_impl_replay (xs : List Entry) (hl : xs.length ≤ 2097152) (fn : Nat) (hq : callB prog fn = true) (hf : ∀ r : MachineResult, SemX prog fn [aS (eMachineResult false r)] [] [] []) : SemX prog 33 [aT (.sl false 9 (xs.map eEntry)), .one (.fn fn [])] [] [.agg (eMachineResult true (replayM xs).1)] [] := by
 refine goF [(28, ⟨some 4, some 57344, some (34, true), none⟩)] [(11, 1, [36864], []), (11, 3, [36864], []), (11, 5, [24576], [24576]), (11, 7, [24576], [24576])] [] func33 ?_
 refine D ?_
 refine cC (fun c0 => ?_) (fun c0 => ?_)
 · skip
   refine D ?_
   refine E ?_
   have he : replayM xs = (badM 2, []) := if_pos (by omega)
   simp [he, badM, zMachine, zConfig]
 · skip
   refine D ?_
   refine L (α := Nat × Machine × Int × List Config) (fun p => [(16, .int .i64 p.1)]) (fun p => [(24576, .var [.int .i64 0, .int .i64 p.2.2.1, .bool false, .int .i64 p.2.1.config.version, .ref 57348 0 p.2.1.config.backends.length, .ref 57349 0 p.2.1.config.vips.length, .ref 57350 0 p.2.1.sessions.length]), (57348, .arr ⟨5, p.2.1.config.backends.map eBackend, 1, none⟩), (57349, .arr ⟨4, p.2.1.config.vips.map (eVip true), 1, none⟩), (57350, .arr ⟨3, p.2.1.sessions.map eSession, 1, none⟩)]) (fun p => xs.length - p.1) (fun p => p.1 ≤ xs.length ∧ MaP p.2.1 ∧ repR xs zMachine 0 [zConfig] = repR (xs.drop p.1) p.2.1 p.2.2.1 p.2.2.2) (0, zMachine, 0, [zConfig]) [] (fun x0 hL => ?_) (by simp only [go_sem] <;> and_intros <;> first | with_reducible exact rfl | (first | omega | exact rfl)) (by exact ⟨Nat.zero_le _, maP_zero, rfl⟩)
   obtain ⟨i, m, rp, al_⟩ := x0
   obtain ⟨hi2, hP, hrp⟩ := hL
   try dsimp only at *
   have hm1 : limM 2097151 m := ⟨limG_mono (by omega) hP.lim.1, Nat.le_trans hP.lim.2 (by omega)⟩
   have hmf : machineFault m = 0 := ma_fault hP.cf hP.ok
   have hae : applyEntry m (xs.getD i zEntry) = if entryFault (xs.getD i zEntry) ≠ 0 then badM (entryFault (xs.getD i zEntry)) else enterM m (xs.getD i zEntry) := by unfold applyEntry; rw [if_neg (by omega)]
   refine D ?_
   refine cC (fun c1 => ?_) (fun c1 => ?_)
   · skip
     refine D ?_
     refine kR (s_impl_ApplyEntry m hm1 (xs.getD i zEntry)) ?_
     refine D ?_
     refine cC (fun c2 => ?_) (fun c2 => ?_)
     · skip
       refine D ?_
       refine E ?_
       have he : (replayM xs).1 = badM (applyEntry m (xs.getD i zEntry)).code := by
         unfold replayM
         rw [if_neg (by omega), hrp, repR_drop (by omega)]
         by_cases h : entryFault (xs.getD i zEntry) ≠ 0
         · have e : (applyEntry m (xs.getD i zEntry)) = badM (entryFault (xs.getD i zEntry)) := by rw [hae, if_pos h]
           rw [if_pos h, e]
           rfl
         · have e : (applyEntry m (xs.getD i zEntry)) = enterM m (xs.getD i zEntry) := by rw [hae, if_neg h]
           rw [if_neg h, if_pos (by rw [← e]; omega), e]
       simp [he, badM, zMachine, zConfig]
     · skip
       have hc0 : (applyEntry m (xs.getD i zEntry)).code = 0 := by omega
       have h0 : entryFault (xs.getD i zEntry) = 0 := by
         rw [hae] at hc0
         split at hc0
         · rename_i h; exact absurd hc0 h
         · omega
       have hen : (applyEntry m (xs.getD i zEntry)) = enterM m (xs.getD i zEntry) := by rw [hae, if_neg (by omega)]
       refine D ?_
       refine kR (hf (applyEntry m (xs.getD i zEntry))) ?_ hq
       refine D ?_
       refine lp_next (i + 1, (applyEntry m (xs.getD i zEntry)).machine, (applyEntry m (xs.getD i zEntry)).reply, addC al_ (applyEntry m (xs.getD i zEntry))) [(57348,98308),(57349,98309),(57350,98310)] ?_ ?_ ?_
       · simp only [go_sem] <;> and_intros <;> first | with_reducible exact rfl | (first | with_reducible exact rfl | omega | (simp [eConfig]; done))
       · dsimp only
         rw [hen]
         refine ⟨by omega, enterM_p hP h0 (by rw [← hen]; exact hc0), ?_⟩
         rw [hrp, repR_drop (by omega), if_neg (by omega), if_neg (by rw [← hen]; omega)]
       · try dsimp only
         omega
   · skip
     obtain rfl : i = xs.length := by omega
     refine D ?_
     refine E ?_
     have he : replayM xs = (⟨0, rp, false, m⟩, al_) := by unfold replayM; rw [if_neg (by omega), hrp, repR_end]
     simp [he]
theorem s_impl_replay_c (xs : List Entry) (hl : xs.length ≤ 2097152) (fn : Nat) (hq : callB prog fn = true) (hf : ∀ (r : MachineResult), limG 2097152 r.machine.config → ∀ (al : List Config), al.length ≤ 1000000 → SemX prog fn [aS (eMachineResult false r), .one (.ptr 0 0)] [.var [.sl true 3 (al.map (eConfig true))]] [] [.var [.sl true 3 ((addC al r).map (eConfig true))]]) : SemX prog 33 [aT (.sl false 9 (xs.map eEntry)), .one (.fn fn [.ptr 0 0])] [.var [.sl true 3 ([zConfig].map (eConfig true))]] [.agg (eMachineResult true (replayM xs).1)] [.var [.sl true 3 ((replayA xs).map (eConfig true))]] := by
 refine goF [(28, ⟨some 4, some 57344, some (34, true), none⟩)] [(11, 1, [36864], []), (11, 3, [36864], []), (11, 5, [24576], [24576]), (11, 7, [24576], [24576])] [] func33 ?_
 skip
 refine D ?_
 refine cC (fun c0 => ?_) (fun c0 => ?_)
 · skip
   have hra0 : replayA xs = [zConfig] := if_pos (by omega)
   refine D ?_
   refine E ?_
   have he : replayM xs = (badM 2, []) := if_pos (by omega)
   simp [he, hra0, eConfig, badM, zMachine, zConfig]
 · skip
   have hra0 : replayA xs = repA xs zMachine [zConfig] := if_neg (by omega)
   refine D ?_
   refine L (α := Nat × Machine × Int × List Config) (fun p => [(16, .int .i64 p.1)]) (fun p => [(24576, .var [.int .i64 0, .int .i64 p.2.2.1, .bool false, .int .i64 p.2.1.config.version, .ref 57348 0 p.2.1.config.backends.length, .ref 57349 0 p.2.1.config.vips.length, .ref 57350 0 p.2.1.sessions.length]), (57348, .arr ⟨5, p.2.1.config.backends.map eBackend, 1, none⟩), (57349, .arr ⟨4, p.2.1.config.vips.map (eVip true), 1, none⟩), (57350, .arr ⟨3, p.2.1.sessions.map eSession, 1, none⟩), (1000000, .var [.ref 1000001 0 p.2.2.2.length]), (1000001, .arr ⟨3, p.2.2.2.map (eConfig true), 1, none⟩)]) (fun p => xs.length - p.1) (fun p => p.1 ≤ xs.length ∧ MaP p.2.1 ∧ repR xs zMachine 0 [zConfig] = repR (xs.drop p.1) p.2.1 p.2.2.1 p.2.2.2 ∧ p.2.2.2.length ≤ p.1 + 1 ∧ repA xs zMachine [zConfig] = repA (xs.drop p.1) p.2.1 p.2.2.2) (0, zMachine, 0, [zConfig]) [] (fun x0 hL => ?_) (by simp only [go_sem] <;> and_intros <;> first | with_reducible exact rfl | (first | omega | exact rfl)) (by exact ⟨Nat.zero_le _, maP_zero, rfl, by simp, rfl⟩)
   obtain ⟨i, m, rp, al_⟩ := x0
   obtain ⟨hi2, hP, hrp, hal, hra⟩ := hL
   try dsimp only at *
   have hm1 : limM 2097151 m := ⟨limG_mono (by omega) hP.lim.1, Nat.le_trans hP.lim.2 (by omega)⟩
   have hmf : machineFault m = 0 := ma_fault hP.cf hP.ok
   have hae : applyEntry m (xs.getD i zEntry) = if entryFault (xs.getD i zEntry) ≠ 0 then badM (entryFault (xs.getD i zEntry)) else enterM m (xs.getD i zEntry) := by unfold applyEntry; rw [if_neg (by omega)]
   refine D ?_
   refine cC (fun c1 => ?_) (fun c1 => ?_)
   · skip
     refine D ?_
     refine kR (s_impl_ApplyEntry m hm1 (xs.getD i zEntry)) ?_
     refine D ?_
     refine cC (fun c2 => ?_) (fun c2 => ?_)
     · skip
       refine D ?_
       refine E ?_
       have he : (replayM xs).1 = badM (applyEntry m (xs.getD i zEntry)).code := by
         unfold replayM
         rw [if_neg (by omega), hrp, repR_drop (by omega)]
         by_cases h : entryFault (xs.getD i zEntry) ≠ 0
         · have e : (applyEntry m (xs.getD i zEntry)) = badM (entryFault (xs.getD i zEntry)) := by rw [hae, if_pos h]
           rw [if_pos h, e]
           rfl
         · have e : (applyEntry m (xs.getD i zEntry)) = enterM m (xs.getD i zEntry) := by rw [hae, if_neg h]
           rw [if_neg h, if_pos (by rw [← e]; omega), e]
       have hra1 : replayA xs = al_ := by
         rw [hra0, hra, repA_drop (by omega)]
         by_cases h : entryFault (xs.getD i zEntry) ≠ 0
         · rw [if_pos h]
         · have e : (applyEntry m (xs.getD i zEntry)) = enterM m (xs.getD i zEntry) := by rw [hae, if_neg h]
           rw [if_neg h, if_pos (by rw [← e]; omega)]
       simp [he, hra1, badM, zMachine, zConfig]
     · skip
       have hc0 : (applyEntry m (xs.getD i zEntry)).code = 0 := by omega
       have h0 : entryFault (xs.getD i zEntry) = 0 := by
         rw [hae] at hc0
         split at hc0
         · rename_i h; exact absurd hc0 h
         · omega
       have hen : (applyEntry m (xs.getD i zEntry)) = enterM m (xs.getD i zEntry) := by rw [hae, if_neg (by omega)]
       have hrl : limG 2097152 (applyEntry m (xs.getD i zEntry)).machine.config := by rw [hen]; exact limG_mono (by omega) (enterM_p hP h0 (by rw [← hen]; exact hc0)).lim.1
       refine D ?_
       refine kRk [1000000] [] [1000001] (hf (applyEntry m (xs.getD i zEntry)) hrl al_ (by omega)) ?_ hq
       refine D ?_
       refine lp_next (i + 1, (applyEntry m (xs.getD i zEntry)).machine, (applyEntry m (xs.getD i zEntry)).reply, addC al_ (applyEntry m (xs.getD i zEntry))) [(57348,98308),(57349,98309),(57350,98310),(1000001,136192)] ?_ ?_ ?_
       · simp only [go_sem] <;> and_intros <;> first | with_reducible exact rfl | (first | with_reducible exact rfl | omega | (simp [eConfig]; done))
       · dsimp only
         rw [hen]
         refine ⟨by omega, enterM_p hP h0 (by rw [← hen]; exact hc0), ?_, by have := addC_len al_ (enterM m (xs.getD i zEntry)); omega, ?_⟩
         · rw [hrp, repR_drop (by omega), if_neg (by omega), if_neg (by rw [← hen]; omega)]
         · rw [hra, repA_drop (by omega), if_neg (by omega), if_neg (by rw [← hen]; omega)]
       · try dsimp only
         omega
   · skip
     obtain rfl : i = xs.length := by omega
     refine D ?_
     refine E ?_
     have he : replayM xs = (⟨0, rp, false, m⟩, al_) := by unfold replayM; rw [if_neg (by omega), hrp, repR_end]
     have hra1 : replayA xs = al_ := by rw [hra0, hra, repA_end]
     simp [he, hra1]
theorem s_impl_ReplayEntries_1 (r : MachineResult) : SemX prog 34 [aS (eMachineResult false r)] [] [] [] := by
 refine goF [] [] [] func34 ?_
 refine D ?_
 exact E trivial
theorem s_impl_ReplayEntries (xs : List Entry) (hl : xs.length ≤ 2097152) : SemX prog 9 [aT (.sl false 9 (xs.map eEntry))] [] [.agg (eMachineResult true (replayM xs).1)] [] := by
 refine goF [] [] [] func9 ?_
 refine D ?_
 refine kR (s_impl_replay xs hl 34 (by kernel_rfl) s_impl_ReplayEntries_1) ?_
 refine D ?_
 exact E trivial
theorem s_impl_VersionsOf_1 (r : MachineResult) (hr : limG 2097152 r.machine.config) (al : List Config) (ha : al.length ≤ 1000000) : SemX prog 35 [aS (eMachineResult false r), .one (.ptr 0 0)] [.var [.sl true 3 (al.map (eConfig true))]] [] [.var [.sl true 3 ((addC al r).map (eConfig true))]] := by
 refine goF [] [(2, 0, [1000000], []), (2, 3, [12288], []), (2, 4, [], [61441, 61442]), (2, 5, [61441, 61442], [65536, 61441, 61442]), (2, 6, [1000001, 65536], [69632, 1000001, 65536]), (2, 7, [1000000], [1000000])] [] func35 ?_
 refine D ?_
 refine cC (fun c0 => ?_) (fun c0 => ?_)
 · skip
   refine D ?_
   refine kD (s_impl_Config_copied r.machine.config hr) ?_
   refine D ?_
   refine E ?_
   have hac : addC al r = al ++ [r.machine.config] := if_pos (by unfold freshM; simpa using c0)
   simp [hac, eConfig]
 · skip
   refine D ?_
   refine E ?_
   have hac : addC al r = al := if_neg (by unfold freshM; rw [c0]; simp)
   simp [hac]
section
attribute [local go_sem] zConfig
theorem s_impl_VersionsOf (xs : List Entry) (hl : xs.length ≤ 2097152) : SemX prog 10 [aT (.sl false 9 (xs.map eEntry))] [] [.agg (eConfigsResult true (versOf xs))] [] := by
 refine goF [] [] [] func10 ?_
 refine D ?_
 refine kRk [16384] [] [28672] (s_impl_replay_c xs hl 35 (by kernel_rfl) (fun r hr al ha => s_impl_VersionsOf_1 r hr al ha)) ?_
 refine D ?_
 refine cC (fun c0 => ?_) (fun c0 => ?_)
 · skip
   refine D ?_
   refine E ?_
   have he : versOf xs = ⟨(replayM xs).1.code, []⟩ := if_pos (by omega)
   simp [he]
 · skip
   refine D ?_
   refine E ?_
   have he : versOf xs = ⟨0, (replayM xs).2⟩ := if_neg (by omega)
   rw [he, replayA_eq (by omega)]
end
theorem s_spec_EntryFault (x : Entry) : SemX prog 75 [aS (eEntry x)] [] [rI (entryFault x)] [] := by
 refine goF [] [] [] func75 ?_
 refine D ?_
 refine kR (s_spec_l1In _ _ _) ?_
 refine D ?_
 refine kRg (s_spec_l1In _ _ _) ?_
 refine D ?_
 refine kRg (s_spec_l1In _ _ _) ?_
 refine D ?_
 refine cC (fun c0 => ?_) (fun c0 => ?_)
 · skip
   refine D ?_
   refine E ?_
   first
   | exact trivial
   | simp only [go_sem, entryFault]; done
   | try simp only [go_sem, entryFault]
     simp only [entryFault, cmdZero]
     grind
 · skip
   refine D ?_
   refine cC (fun c1 => ?_) (fun c1 => ?_)
   · skip
     refine D ?_
     refine E ?_
     first
     | exact trivial
     | simp only [go_sem, entryFault]; done
     | try simp only [go_sem, entryFault]
       simp only [entryFault, cmdZero]
       grind
   · skip
     refine D ?_
     refine cC (fun c2 => ?_) (fun c2 => ?_)
     · skip
       refine D ?_
       refine kR (s_spec_CmdFault _) ?_
       refine D ?_
       refine E ?_
       first
       | exact trivial
       | simp only [go_sem, entryFault]; done
       | try simp only [go_sem, entryFault]
         simp only [entryFault, cmdZero]
         grind
     · skip
       refine D ?_
       refine cC (fun c3 => ?_) (fun c3 => ?_)
       · skip
         refine D ?_
         refine E ?_
         first
         | exact trivial
         | simp only [go_sem, entryFault]; done
         | try simp only [go_sem, entryFault]
           simp only [entryFault, cmdZero]
           grind
       · skip
         refine D ?_
         refine E ?_
         first
         | exact trivial
         | simp only [go_sem, entryFault]; done
         | try simp only [go_sem, entryFault]
           simp only [entryFault, cmdZero]
           grind
theorem s_spec_l11Copy (m : Machine) (hm : limM 2097152 m) : SemX prog 106 [aS (eMachine false m)] [] [.agg (eMachine true m)] [] := by
 refine goF [] [(1, 1, [8192], []), (1, 2, [], [24577, 24578]), (1, 3, [], [28672]), (1, 5, [8192], []), (1, 6, [28672], [40960, 28672]), (1, 8, [12288], [12288])] [] func106 ?_
 have hs := hm.2
 refine D ?_
 refine kD (s_spec_l5Copy m.config hm.1) ?_
 refine D ?_
 exact E trivial
theorem s_spec_l11At (m : Machine) (hm : limM 2097152 m) (c : Int) : SemX prog 107 [aT (.ptr (eMachine false m)), aI c] [] [rI (seAt m.sessions c)] [] := by
 refine goF [] [] [] func107 ?_
 have hs := hm.2
 refine D ?_
 refine L (α := Nat) (fun x => [(5, .int .i64 x)]) (fun x => []) (fun x => m.sessions.length - x) (fun x => x ≤ m.sessions.length ∧ ∀ j, j < x → isSes c (m.sessions.getD j zSession) = false) 0 [] (fun x hL => ?_) (hi := by exact ⟨Nat.zero_le _, fun j hj => by omega⟩)
 obtain ⟨hx2, hno⟩ := hL
 refine D ?_
 refine cC (fun c0 => ?_) (fun c0 => ?_)
 · skip
   refine D ?_
   refine cC (fun c1 => ?_) (fun c1 => ?_)
   · skip
     refine D ?_
     refine E ?_
     have he : seAt m.sessions c = x := idxG_some zSession (by omega) hno (by simpa [isSes] using c1)
     rw [he]
   · skip
     refine D ?_
     refine N (x+1) [] (hi := ?_) (hm := ?_)
     · refine ⟨by omega, fun j hj => ?_⟩
       rcases Nat.lt_or_ge j x with h | h
       · exact hno j h
       · obtain rfl : j = x := by omega
         first | exact c1 | (simpa [isSes] using c1) | (simp [isSes]; grind)
     · omega
 · skip
   obtain rfl : x = m.sessions.length := by omega
   refine D ?_
   refine E ?_
   have he : seAt m.sessions c = -1 := idxG_none zSession hno
   rw [he]
theorem s_spec_l11Put (xs : List Session) (s : Session) (hl : xs.length ≤ 1000000) : SemX prog 108 [aT (.sl false 3 (xs.map eSession)), aS (eSession s)] [] [.one (.sl true 3 ((putL xs s).map eSession))] [] := by
 refine goF [] [(6, 9, [16384], []), (9, 6, [16384], [])] [] func108 ?_
 refine D ?_
 refine L (α := Nat) (fun x => [(5, .ref 36864 0 (foldP xs s x).2.length), (6, .bool (foldP xs s x).1), (7, .int .i64 x)]) (fun x => [(36864, .arr ⟨3, (foldP xs s x).2.map eSession, 1, none⟩)]) (fun x => xs.length - x) (fun x => x ≤ xs.length) 0 [] (fun x hI => ?_) (by simp only [go_sem] <;> and_intros <;> first | with_reducible exact rfl | (first | omega | exact rfl))
 have hfl := foldP_len xs s x
 refine D ?_
 refine cC (fun c0 => ?_) (fun c0 => ?_)
 · skip
   have hfs := foldP_succ s (show x < xs.length by omega)
   refine D ?_
   refine cC (fun c1 => ?_) (fun c1 => ?_)
   · skip
     refine D ?_
     refine cC (fun c2 => ?_) (fun c2 => ?_)
     · skip
       have hf3 : foldP xs s (x + 1) = (true, (foldP xs s x).2 ++ [s] ++ [(xs.getD x zSession)]) := by rw [hfs]; unfold stepP; first | (simp [-List.getD_eq_getElem?_getD, c1, c2]; done) | grind
       have hA := hf3
       refine D ?_
       refine lp_next (x+1) [(36864,188416)] ?_ ?_ ?_
       · simp only [go_sem, hA] <;> and_intros <;> first | with_reducible exact rfl | (first | with_reducible exact rfl | omega | (simp [eSession]; done))
       · omega
       · omega
     · skip
       have hf3 : foldP xs s (x + 1) = (true, (foldP xs s x).2 ++ [s]) := by rw [hfs]; unfold stepP; first | (simp [-List.getD_eq_getElem?_getD, c1, c2]; done) | grind
       have hA := hf3
       refine D ?_
       refine lp_next (x+1) [(36864,126976)] ?_ ?_ ?_
       · simp only [go_sem, hA] <;> and_intros <;> first | with_reducible exact rfl | (first | with_reducible exact rfl | omega | (simp [eSession]; done))
       · omega
       · omega
   · skip
     refine D ?_
     refine cC (fun c2 => ?_) (fun c2 => ?_)
     · skip
       have hf3 : foldP xs s (x + 1) = ((foldP xs s x).1, (foldP xs s x).2 ++ [(xs.getD x zSession)]) := by rw [hfs]; unfold stepP; first | (simp [-List.getD_eq_getElem?_getD, c1, c2]; done) | grind
       have hA := hf3
       refine D ?_
       refine lp_next (x+1) [(36864,188416)] ?_ ?_ ?_
       · simp only [go_sem, hA] <;> and_intros <;> first | with_reducible exact rfl | (first | with_reducible exact rfl | omega | (simp [eSession]; done))
       · omega
       · omega
     · skip
       have hf3 : foldP xs s (x + 1) = ((foldP xs s x).1, (foldP xs s x).2) := by rw [hfs]; unfold stepP; first | (simp [-List.getD_eq_getElem?_getD, c1, c2]; done) | grind
       have hA := hf3
       refine D ?_
       refine lp_next (x+1) [] ?_ ?_ ?_
       · simp only [go_sem, hA] <;> and_intros <;> first | with_reducible exact rfl | (first | with_reducible exact rfl | omega | (simp [eSession]; done))
       · omega
       · omega
 · skip
   obtain rfl : x = xs.length := by omega
   refine D ?_
   refine cC (fun c3 => ?_) (fun c3 => ?_)
   · skip
     refine D ?_
     refine E ?_
     have he : putL xs s = (foldP xs s xs.length).2 ++ [s] := by unfold putL; grind
     simp [he, eSession]
   · skip
     refine D ?_
     refine E ?_
     have he : putL xs s = (foldP xs s xs.length).2 := by unfold putL; grind
     simp [he]
theorem s_spec_l11Apply (m : Machine) (hm1 : limM 2097151 m) (K : MaOk m) (x_ : Entry) (hcf : x_.client ≠ 0 → cmdFault x_.cmd = 0) : SemX prog 76 [aS (eMachine false m), aS (eEntry x_)] [] [.agg (eMachineResult true (enterM m x_))] [] := by
 refine goF [] [(5, 4, [12288], []), (5, 10, [16384], []), (7, 1, [12288], []), (7, 7, [16384], [])] [] func76 ?_
 have hm : limM 2097152 m := ⟨limG_mono (by omega) hm1.1, Nat.le_succ_of_le hm1.2⟩
 have hs := hm.2
 have hs40 := K.s40
 obtain ⟨hg1, hg2⟩ := seAt_ge K.rs x_.client
 have hsb : seAt m.sessions x_.client < m.sessions.length := idxG_bd _ _
 refine D ?_
 refine kR (s_spec_l11Copy m hm) ?_
 refine D ?_
 refine cC (fun c0 => ?_) (fun c0 => ?_)
 · skip
   refine D ?_
   refine E ?_
   have he : enterM m x_ = ⟨0, 0, false, m⟩ := by unfold enterM; grind
   simp [-List.getD_eq_getElem?_getD, he, badM, zMachine, zConfig]
 · skip
   refine D ?_
   refine kR (s_spec_l11At m hm x_.client) ?_
   refine D ?_
   refine cC (fun c1 => ?_) (fun c1 => ?_)
   · skip
     have ho : oldM m x_ = true := by rw [← old_at K.rs]; simpa [-List.getD_eq_getElem?_getD] using c1
     have hh : hasS m.sessions x_.client = true := by unfold oldM at ho; simp only [Bool.and_eq_true] at ho; exact ho.1
     have hat := hg2 hh
     have hA := hat
     refine D ?_
     refine cC (fun c2 => ?_) (fun c2 => ?_)
     · skip
       refine D ?_
       refine E ?_
       have he : enterM m x_ = ⟨0, (m.sessions.getD (lbS m.sessions x_.client) zSession).code, false, m⟩ := by unfold enterM; grind
       simp [-List.getD_eq_getElem?_getD, he, badM, zMachine, zConfig]
     · skip
       refine D ?_
       refine E ?_
       have he : enterM m x_ = ⟨0, 9, false, m⟩ := by unfold enterM; grind
       simp [-List.getD_eq_getElem?_getD, he, badM, zMachine, zConfig]
   · skip
     have ho : oldM m x_ = false := by rw [← old_at K.rs]; exact c1
     refine D ?_
     refine cC (fun c3 => ?_) (fun c3 => ?_)
     · skip
       refine D ?_
       refine E ?_
       have he : enterM m x_ = badM 2 := by unfold enterM; grind
       simp [-List.getD_eq_getElem?_getD, he, badM, zMachine, zConfig]
     · skip
       refine D ?_
       refine kR (s_spec_l5Apply m.config hm1.1 K.cf x_.cmd (hcf c0)) ?_
       refine D ?_
       refine cC (fun c4 => ?_) (fun c4 => ?_)
       · skip
         refine D ?_
         refine kR (s_spec_l11Put m.sessions ⟨x_.client, x_.seq, (applyR m.config x_.cmd).code⟩ (by omega)) ?_
         refine D ?_
         refine E ?_
         have he : enterM m x_ = ⟨0, (applyR m.config x_.cmd).code, true, ⟨(applyR m.config x_.cmd).config, putS m.sessions ⟨x_.client, x_.seq, (applyR m.config x_.cmd).code⟩⟩⟩ := by unfold enterM; grind
         simp [-List.getD_eq_getElem?_getD, he, putL_eq _ K.rs]
       · skip
         refine D ?_
         refine kR (s_spec_l11Put m.sessions ⟨x_.client, x_.seq, (applyR m.config x_.cmd).code⟩ (by omega)) ?_
         refine D ?_
         refine E ?_
         have he : enterM m x_ = ⟨0, (applyR m.config x_.cmd).code, true, ⟨m.config, putS m.sessions ⟨x_.client, x_.seq, (applyR m.config x_.cmd).code⟩⟩⟩ := by unfold enterM; grind
         simp [-List.getD_eq_getElem?_getD, he, putL_eq _ K.rs]
theorem s_spec_l11Replay (xs : List Entry) (hl : xs.length ≤ 2097152) : SemX prog 37 [aT (.sl false 9 (xs.map eEntry))] [] [.agg (eMachineResult true (replayM xs).1), .one (.sl true 3 ((replayM xs).2.map (eConfig true)))] [] := by
 refine goF [(18, ⟨some 4, some 36864, some (34, true), none⟩)] [(11, 1, [20480], []), (11, 6, [36868, 36869, 36870], [151556, 151557, 151558]), (11, 7, [20480], [20480])] [] func37 ?_
 refine D ?_
 refine cC (fun c0 => ?_) (fun c0 => ?_)
 · skip
   refine D ?_
   refine E ?_
   have he : replayM xs = (badM 2, []) := if_pos (by omega)
   simp [he, badM, zMachine, zConfig]
 · skip
   refine D ?_
   refine L (α := Nat × MachineResult × List Config) (fun p => [(5, .ref 45056 0 p.2.2.length), (6, .int .i64 p.1)]) (fun p => [(20480, .var [.int .i64 0, .int .i64 p.2.1.reply, .bool p.2.1.fresh, .int .i64 p.2.1.machine.config.version, .ref 36868 0 p.2.1.machine.config.backends.length, .ref 36869 0 p.2.1.machine.config.vips.length, .ref 36870 0 p.2.1.machine.sessions.length]), (36868, .arr ⟨5, p.2.1.machine.config.backends.map eBackend, 1, none⟩), (36869, .arr ⟨4, p.2.1.machine.config.vips.map (eVip true), 1, none⟩), (36870, .arr ⟨3, p.2.1.machine.sessions.map eSession, 1, none⟩), (45056, .arr ⟨3, p.2.2.map (eConfig true), 1, none⟩)]) (fun p => xs.length - p.1) (fun p => p.1 ≤ xs.length ∧ MaP p.2.1.machine ∧ p.2.2.length ≤ p.1 + 1 ∧ repR xs zMachine 0 [zConfig] = repR (xs.drop p.1) p.2.1.machine p.2.1.reply p.2.2) (0, ⟨0, 0, false, zMachine⟩, [zConfig]) [] (fun x0 hL => ?_) (by simp only [go_sem] <;> and_intros <;> first | with_reducible exact rfl | (first | omega | exact rfl)) (by exact ⟨Nat.zero_le _, maP_zero, by simp, rfl⟩)
   obtain ⟨i, r, al_⟩ := x0
   obtain ⟨hi2, hP, hal, hrp⟩ := hL
   try dsimp only at *
   have hm1 : limM 2097151 r.machine := ⟨limG_mono (by omega) hP.lim.1, Nat.le_trans hP.lim.2 (by omega)⟩
   refine D ?_
   refine cC (fun c1 => ?_) (fun c1 => ?_)
   · skip
     refine D ?_
     refine kR (s_spec_EntryFault (xs.getD i zEntry)) ?_
     refine D ?_
     refine cC (fun c2 => ?_) (fun c2 => ?_)
     · skip
       refine D ?_
       refine E ?_
       have he : replayM xs = (badM (entryFault (xs.getD i zEntry)), []) := by unfold replayM; rw [if_neg (by omega), hrp, repR_drop (by omega), if_pos (by omega)]
       simp [he, badM, zMachine, zConfig]
     · skip
       have h0 : entryFault (xs.getD i zEntry) = 0 := by omega
       refine D ?_
       refine kD (s_spec_l11Apply r.machine hm1 hP.ok (xs.getD i zEntry) (fun h => ent_cmd h0 h)) ?_
       refine D ?_
       refine cC (fun c3 => ?_) (fun c3 => ?_)
       · skip
         refine D ?_
         refine E ?_
         have he : replayM xs = ((enterM r.machine (xs.getD i zEntry)), []) := by unfold replayM; rw [if_neg (by omega), hrp, repR_drop (by omega), if_neg (by omega), if_pos (by omega), ← enterM_bad (by omega)]
         simp [he]
       · skip
         have hc0 : (enterM r.machine (xs.getD i zEntry)).code = 0 := by omega
         have hA := hc0
         refine D ?_
         refine cC (fun c4 => ?_) (fun c4 => ?_)
         · skip
           have hac : addC al_ (enterM r.machine (xs.getD i zEntry)) = al_ ++ [(enterM r.machine (xs.getD i zEntry)).machine.config] := if_pos (by unfold freshM; simpa using c4)
           have hA := And.intro hA (hac)
           refine D ?_
           refine kR (s_spec_l5Copy (enterM r.machine (xs.getD i zEntry)).machine.config (limG_mono (by omega) (enterM_p hP h0 hc0).lim.1)) ?_
           refine D ?_
           refine lp_next (i + 1, (enterM r.machine (xs.getD i zEntry)), addC al_ (enterM r.machine (xs.getD i zEntry))) [(36868,151556),(36869,151557),(36870,151558),(45056,225280)] ?_ ?_ ?_
           · simp only [go_sem, hA] <;> and_intros <;> first | with_reducible exact rfl | (first | with_reducible exact rfl | omega | (simp [eConfig]; done))
           · dsimp only
             refine ⟨by omega, enterM_p hP h0 hc0, by have := addC_len al_ (enterM r.machine (xs.getD i zEntry)); omega, ?_⟩
             rw [hrp, repR_drop (by omega), if_neg (by omega), if_neg (by omega)]
           · try dsimp only
             omega
         · skip
           have hac : addC al_ (enterM r.machine (xs.getD i zEntry)) = al_ := if_neg (by unfold freshM; rw [c4]; simp)
           have hA := And.intro hA (hac)
           refine D ?_
           refine lp_next (i + 1, (enterM r.machine (xs.getD i zEntry)), addC al_ (enterM r.machine (xs.getD i zEntry))) [(36868,151556),(36869,151557),(36870,151558)] ?_ ?_ ?_
           · simp only [go_sem, hA] <;> and_intros <;> first | with_reducible exact rfl | (first | with_reducible exact rfl | omega | (simp [eConfig]; done))
           · dsimp only
             refine ⟨by omega, enterM_p hP h0 hc0, by have := addC_len al_ (enterM r.machine (xs.getD i zEntry)); omega, ?_⟩
             rw [hrp, repR_drop (by omega), if_neg (by omega), if_neg (by omega)]
           · try dsimp only
             omega
   · skip
     obtain rfl : i = xs.length := by omega
     refine D ?_
     refine E ?_
     have he : replayM xs = (⟨0, r.reply, false, r.machine⟩, al_) := by unfold replayM; rw [if_neg (by omega), hrp, repR_end]
     simp [he]
theorem s_spec_ReplayEntries (xs : List Entry) (hl : xs.length ≤ 2097152) : SemX prog 11 [aT (.sl false 9 (xs.map eEntry))] [] [.agg (eMachineResult true (replayM xs).1)] [] := by
 refine goF [] [] [] func11 ?_
 refine D ?_
 refine kR (s_spec_l11Replay xs hl) ?_
 refine D ?_
 exact E trivial
theorem s_laws_lwAt (code : List Int) (hb : okB code) (i n : Int) (hi : 0 ≤ i) (hi2 : i ≤ 1000) : SemX prog 12 [aT (.sl false 1 (code.map eI_u8)), aI i, aI n] [] [rI (lwV code i n)] [] := by
 refine goF [(34, ⟨some 1, none, none, none⟩), (52, ⟨some 1, none, none, none⟩), (58, ⟨some 1, none, none, none⟩), (60, ⟨some 1, none, none, none⟩), (62, ⟨some 1, none, none, none⟩), (70, ⟨some 1, none, none, none⟩), (76, ⟨some 1, none, none, none⟩), (86, ⟨some 1, none, none, none⟩), (88, ⟨some 1, none, none, none⟩)] [] [] func12 ?_
 have hl := hb.1
 have ht1 : 0 ≤ i.tmod code.length := Int.tmod_nonneg _ hi
 have ht2 : 0 ≤ (i + 1).tmod code.length := Int.tmod_nonneg _ (by omega)
 have h1 := okB_at hb (i.tmod code.length).toNat
 have h2 := okB_at hb ((i + 1).tmod code.length).toNat
 have h3 : 0 ≤ i.tdiv code.length := Int.tdiv_nonneg hi (Int.natCast_nonneg _)
 have h4 := Int.tdiv_le_self code.length hi
 refine D ?_
 refine cC (fun c0 => ?_) (fun c0 => ?_)
 · skip
   refine D ?_
   refine E ?_
   rw [show lwV code i n = 0 from if_pos (by omega)]
 · skip
   refine D ?_
   refine cC (fun c1 => ?_) (fun c1 => ?_)
   · skip
     refine D ?_
     refine E ?_
     have he : lwV code i n = (i * 7).tmod n := by unfold lwV; rw [if_neg (by omega), if_pos (by omega)]
     rw [he]
   · skip
     have hn0 : code.length ≠ 0 := by omega
     have ht3 := Int.tmod_lt_of_pos i (show (0 : Int) < code.length by omega)
     have ht4 := Int.tmod_lt_of_pos (i + 1) (show (0 : Int) < code.length by omega)
     refine D ?_
     refine cC (fun c2 => ?_) (fun c2 => ?_)
     · skip
       refine D ?_
       refine E ?_
       unfold lwV
       rw [if_neg (by omega), if_neg hn0, if_pos (by omega)]
     · skip
       refine D ?_
       refine E ?_
       unfold lwV
       rw [if_neg (by omega), if_neg hn0, if_neg (by omega)]
theorem s_slices_Equal_Session (a b : List Session) (ha : a.length ≤ 2097152) (hb : b.length ≤ 2097152) : SemX prog 50 [aT (.sl false 3 (a.map eSession)), aT (.sl false 3 (b.map eSession))] [] [rB (decide (a = b))] [] := by
 refine goF [] [] [] func50 ?_
 refine D ?_
 refine cC (fun c0 => ?_) (fun c0 => ?_)
 · skip
   have he : ¬ a = b := fun e => by subst e; simp at c0
   refine D ?_
   refine E ?_
   simp [he]
 · skip
   have hle : a.length = b.length := by omega
   refine D ?_
   refine L (α := Nat) (fun x => [(13, .int .i64 x)]) (fun x => []) (fun x => a.length - x) (fun x => x ≤ a.length ∧ ∀ j, j < x → a.getD j zSession = b.getD j zSession) 0 [] (fun x hL => ?_) (hi := by exact ⟨Nat.zero_le _, fun j hj => by omega⟩)
   obtain ⟨hx2, hno⟩ := hL
   refine D ?_
   refine cC (fun c1 => ?_) (fun c1 => ?_)
   · skip
     refine D ?_
     refine cC (fun c2 => ?_) (fun c2 => ?_)
     · skip
       have he : ¬ a = b := fun e => by subst e; simp at c2
       refine D ?_
       refine E ?_
       simp [he]
     · skip
       refine D ?_
       refine N (x+1) [] (hi := ?_) (hm := ?_)
       · refine ⟨by omega, fun j hj => ?_⟩
         rcases Nat.lt_or_ge j x with h | h
         · exact hno j h
         · obtain rfl : j = x := by omega
           first | exact c2 | (simpa using c2) | (rw [eq_session]; simpa [and_assoc] using c2) | (rw [eq_session]; grind)
       · omega
   · skip
     obtain rfl : x = a.length := by omega
     refine D ?_
     refine E ?_
     have he : a = b := eq_getD zSession hle hno
     simp [he]
theorem s_impl_SameMachines (a b : Machine) (ha : limM 2097152 a) (hb : limM 2097152 b) : SemX prog 15 [aS (eMachine false a), aS (eMachine false b)] [] [rB (decide (a = b))] [] := by
 refine goF [] [] [] func15 ?_
 refine D ?_
 refine kR (s_impl_sameConfigs a.config b.config ha.1 hb.1) ?_
 refine D ?_
 refine kRg (s_slices_Equal_Session a.sessions b.sessions ha.2 hb.2) ?_
 refine D ?_
 refine E ?_
 first
 | exact trivial
 | simp [eq_machine]
theorem s_laws_FnReplays (code : List Int) (hc : code.length ≤ 9223372036854775807) (hbb : ∀ b ∈ code, 0 ≤ b ∧ b ≤ 255) : SemX prog 3 [aT (.sl false 1 (code.map eI_u8))] [] [rB true] [] := by
 refine goF [(76, ⟨some 1, none, none, none⟩), (100, ⟨some 1, none, none, none⟩), (134, ⟨some 1, none, none, none⟩), (214, ⟨some 1, none, none, none⟩)] [(7, 1, [], [94212, 94213, 94214]), (7, 4, [20480], []), (7, 8, [24576], []), (7, 10, [20480], []), (13, 1, [32768], []), (13, 6, [176132, 176133, 176134], [233476, 233477, 233478]), (13, 7, [32768], [32768]), (21, 1, [24576], []), (21, 5, [24576], []), (21, 11, [32768], []), (21, 13, [20480], []), (21, 14, [176132, 176133, 176134, 65540, 65541, 65542], []), (21, 18, [24576], []), (21, 20, [24576], []), (21, 23, [73729], []), (21, 24, [73729], []), (21, 27, [20480], []), (21, 28, [65540, 65541, 73729], []), (21, 32, [20480], []), (21, 33, [65540, 65541, 65542], [])] [(3, [1000000057344])] func3 ?_
 refine D ?_
 refine kR (s_laws_lwBig code hc) ?_
 refine D ?_
 refine cC (fun c0 => ?_) (fun c0 => ?_)
 · skip
   refine D ?_
   refine E ?_
   first
   | exact trivial
   | simp [hmf, hln]
 · skip
   have hb : okB code := ⟨by simp at c0; omega, hbb⟩
   have hl := lsD_len hb
   obtain ⟨xs, hxs⟩ : ∃ xs, lsD code = xs := ⟨_, rfl⟩
   rw [hxs] at hl
   have hA := hxs
   refine D ?_
   refine kR (s_spec_DrawReplayEntries code hb) ?_
   refine D ?_
   refine kR (s_impl_ReplayEntries xs (by omega)) ?_
   refine D ?_
   refine kR (s_impl_VersionsOf xs (by omega)) ?_
   refine D ?_
   refine cC (fun c1 => ?_) (fun c1 => ?_)
   · skip
     have hve : versOf xs = ⟨(replayM xs).1.code, []⟩ := if_pos (by simpa using c1)
     have hA := And.intro hA (hve)
     refine D ?_
     refine kD (s_spec_ReplayEntries xs (by omega)) ?_
     refine D ?_
     refine E ?_
     first
     | exact trivial
     | simp [hmf, hln]
   · skip
     have hrc : (replayM xs).1.code = 0 := by omega
     have hve : versOf xs = ⟨0, (replayM xs).2⟩ := if_neg (by omega)
     have A := replay_alp hrc
     have hal := vers_lim xs
     rw [hve] at hal
     obtain ⟨hrm, _⟩ := rp_all hrc
     rw [hrm] at A
     have hls := A.ls
     have hrl := (rp_part hrc xs.length).2.2.lim
     have hmL : limM 2097152 (machF xs xs.length) := ⟨limG_mono (by omega) hrl.1, Nat.le_trans hrl.2 (by omega)⟩
     have k3 := lwV_bd hb (i := 3) (by omega) ((xs.length : Int) + 1)
     obtain ⟨cu, hcu⟩ : ∃ n : Nat, lwV code 3 ((xs.length : Int) + 1) = n := ⟨_, (Int.toNat_of_nonneg k3.1).symm⟩
     obtain ⟨hp1, hp2, _⟩ := rp_part hrc cu
     have hpF := (rp_part hrc xs.length).2.2
     have hmf := rp_fault hrc
     rw [hrm] at hmf
     have hln : 0 < (replayM xs).2.length := by have := A.ln; have := (cf_ok hpF.cf).v0; omega
     have hA := And.intro hA (And.intro hve (And.intro hrc (And.intro hrm (And.intro hcu (And.intro hp1 (And.intro hp2 (hls)))))))
     refine D ?_
     refine kR (s_laws_lwAt code hb 3 ((xs.length : Int) + 1) (by omega) (by omega)) ?_
     refine D ?_
     refine kR (s_impl_ReplayEntries (xs.take cu) (by simp; omega)) ?_
     refine D ?_
     refine L (α := Nat × Int × Bool) (fun p => [(8, .int .i64 p.1)]) (fun p => [(32768, .var [.int .i64 0, .int .i64 p.2.1, .bool p.2.2, .int .i64 (machF xs p.1).config.version, .ref 176132 0 (machF xs p.1).config.backends.length, .ref 176133 0 (machF xs p.1).config.vips.length, .ref 176134 0 (machF xs p.1).sessions.length]), (176132, .arr ⟨5, (machF xs p.1).config.backends.map eBackend, 1, none⟩), (176133, .arr ⟨4, (machF xs p.1).config.vips.map (eVip true), 1, none⟩), (176134, .arr ⟨3, (machF xs p.1).sessions.map eSession, 1, none⟩)]) (fun p => xs.length - p.1) (fun p => p.1 ≤ xs.length) (cu, (replayM (xs.take cu)).1.reply, (replayM (xs.take cu)).1.fresh) [] (fun x0 hL => ?_) (hi := by show cu ≤ xs.length; omega)
     obtain ⟨i, rp, fr⟩ := x0
     obtain hi2 := hL
     try dsimp only at *
     refine D ?_
     refine cC (fun c2 => ?_) (fun c2 => ?_)
     · skip
       have hPm := (rp_part hrc i).2.2
       have hm1 : limM 2097151 (machF xs i) := ⟨limG_mono (by omega) hPm.lim.1, Nat.le_trans hPm.lim.2 (by omega)⟩
       obtain ⟨hn1, hn2⟩ := rp_next hrc (show i < xs.length by omega)
       have hA := And.intro hA (And.intro hn1 (hn2))
       refine D ?_
       refine kD (s_impl_ApplyEntry (machF xs i) hm1 (xs.getD i zEntry)) ?_
       refine D ?_
       refine cF ?_
       refine D ?_
       refine lp_next (i + 1, (applyEntry (machF xs i) (xs.getD i zEntry)).reply, (applyEntry (machF xs i) (xs.getD i zEntry)).fresh) [(176132,233476),(176133,233477),(176134,233478)] ?_ ?_ ?_
       · simp only [go_sem, hA] <;> and_intros <;> first | with_reducible exact rfl | (first | with_reducible exact rfl | omega | (rw [hn2]; done) | (simp [hn2]; done))
       · show i + 1 ≤ xs.length
         omega
       · try dsimp only
         omega
     · skip
       obtain rfl : i = xs.length := by omega
       refine D ?_
       refine L (α := Nat) (fun x => [(9, .int .i64 x)]) (fun x => []) (fun x => (replayM xs).2.length - x) (fun x => x ≤ (replayM xs).2.length) 0 [] (fun x hI => ?_)
       refine D ?_
       refine cC (fun c4 => ?_) (fun c4 => ?_)
       · skip
         have hat := A.at_ x (by omega)
         refine D ?_
         refine kRg (s_impl_ConfigFault ((replayM xs).2.getD x zConfig) (limG_mono (by omega) (hal.1 _ (getD_mem zConfig (by omega))))) ?_
         refine D ?_
         refine cC (fun c5 => ?_) (fun c5 => ?_)
         · skip
           exfalso
           rcases c5 with h | h
           · exact h hat.1
           · exact h hat.2
         · skip
           refine D ?_
           exact N (x+1) []
       · skip
         refine D ?_
         refine kDg (s_impl_SameMachines (machF xs xs.length) (machF xs xs.length) hmL hmL) ?_
         refine D ?_
         refine kDg (s_impl_SameConfigs (machF xs xs.length).config (machF xs xs.length).config hmL.1 hmL.1) ?_
         refine D ?_
         refine kDg (s_impl_MachineFault (machF xs xs.length) hmL) ?_
         refine D ?_
         refine E ?_
         first
         | exact trivial
         | simp [hmf, hln]
end Go.H
end
