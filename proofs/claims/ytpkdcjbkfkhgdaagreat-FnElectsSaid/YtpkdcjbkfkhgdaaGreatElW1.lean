/- What the functions that the law reaches compute, each by its code, against pure functions. Conditions: those that each theorem states. -/
import Derived.Test.YtpkdcjbkfkhgdaaGreatQC3
import Derived.ChangeArms
import Derived.DataReads
import Derived.KernelRfl
section
set_option linter.unusedSimpArgs false
set_option linter.unusedVariables false
namespace Go.H
open Go
theorem add_add0 {a : Addr} (hs : a.spot = none) (i j : Nat) : (a.add i).add j = ⟨a.block, a.off + (i + j), none⟩ := by
  obtain ⟨ab, ao, as1⟩ := a
  simp only at hs
  subst hs
  simp only [Addr.add]
  by_cases h1 : i = 0
  · subst h1
    by_cases h2 : j = 0 <;> simp [h2]
  · by_cases h2 : j = 0 <;> simp [h1, h2, Nat.add_assoc]
def okW (w : World) (b : Nat) : Prop := b < w.heap.size
theorem RoL_app {w : World} {ok : Nat → Prop} : ∀ {ts us : List T} {a b : List Value}, RoL w ok ts a → RoL w ok us b → RoL w ok (ts ++ us) (a ++ b)
  | [], us, a, b, h1, h2 => by simp only [RoL] at h1; subst h1; exact h2
  | t :: ts, us, a, b, h1, h2 => by
    simp only [RoL, List.cons_append] at h1 ⊢
    obtain ⟨u, vs, rfl, h3, h4⟩ := h1
    exact ⟨u, vs ++ b, rfl, h3, RoL_app h4 h2⟩
theorem RoL_cat {w : World} {ok : Nat → Prop} {ts us : List T} {cs : List Value} {o n : Nat} (h1 : RoL w ok ts ((cs.drop o).take n)) (h2 : RoL w ok us (cs.drop (o + n))) : RoL w ok (ts ++ us) (cs.drop o) := by
  have := RoL_app h1 h2
  rwa [← List.drop_drop, List.take_append_drop] at this
theorem RoL_end {w : World} {ok : Nat → Prop} {ts : List T} {cs : List Value} {o n : Nat} (h1 : RoL w ok ts ((cs.drop o).take n)) (hl : cs.length = o + n) : RoL w ok ts (cs.drop o) := by
  rwa [List.take_of_length_le (by simp; omega)] at h1
theorem RoRows_snoc {w : World} {ok : Nat → Prop} {sz : Nat} : ∀ {rs : List (List T)} {vs : List Value} {r : List T} {cs : List Value}, RoRows w ok sz rs vs → r.length = sz → RoL w ok r cs → RoRows w ok sz (rs ++ [r]) (vs ++ cs)
  | [], vs, r, cs, h, hl, hr => by
    simp only [RoRows] at h
    subst h
    simp only [List.nil_append, RoRows]
    exact ⟨cs, [], by simp, hl, hr, rfl⟩
  | x :: rs, vs, r, cs, h, hl, hr => by
    simp only [RoRows, List.cons_append] at h ⊢
    obtain ⟨a, b, rfl, h1, h2, h3⟩ := h
    exact ⟨a, b ++ cs, by simp, h1, h2, RoRows_snoc h3 hl hr⟩
section
variable {H : Type} {enc : TypeId × Value → H} {P : Program} {w : World} {base : Nat} {spare : Nat → Bool} {held : Bool}
theorem sl_of {α : Type} (f : α → List T) (q : α → Prop) (sz : Nat) {t e : TypeId} (ht : P.underlying t = some (.slice e)) (hsz : P.cellsOf e = sz) (hf : ∀ x, (f x).length = sz) (hpos : sz ≠ 0)
    (hel : ∀ n cs d, DataW.trod enc P w base spare held n e cs = some d → ∃ x, RoL w (okW w) (f x) cs ∧ q x) {fuel : Nat} {cs : List Value} {x : DataW H × List MemPlace} (h : DataW.trod enc P w base spare held fuel t cs = some x) :
    ∃ xs : List α, RoL w (okW w) [.sl false sz (xs.map f)] cs ∧ xs.length ≤ 9223372036854775807 ∧ ∀ y ∈ xs, q y := by
  rcases DataW.trod_slice ht h with ⟨rfl, _⟩ | ⟨a, len, cap, elems, rest, n, _, rfl, _, hb, hl, hm, hlen, he, _, _⟩
  · refine ⟨[], ?_, by simp, by simp⟩
    simp only [RoL, RoT, List.map_nil, List.length_nil]
    exact ⟨_, [], rfl, ⟨none, 0, [], rfl, Nat.le_refl _, Nat.zero_le _, by simp only [RoRows], fun h => absurd rfl h⟩, rfl⟩
  · rw [hsz] at he
    have one : ∀ i, i < len → ∃ csi x, w.cells? base (a.add (i * sz)) sz = some csi ∧ RoL w (okW w) (f x) csi ∧ q x := by
      intro i hi
      have h1 := he i hi
      rw [List.getElem?_eq_getElem (by omega)] at h1
      obtain ⟨csi, h2, h3⟩ := Option.bind_eq_some_iff.1 h1
      obtain ⟨x, h4, h5⟩ := hel n csi _ h3
      exact ⟨csi, x, h2, h4, h5⟩
    have spot : 0 < len → a.spot = none ∧ a.block < w.heap.size := by
      intro h0
      obtain ⟨csi, x, h1, h2, _⟩ := one 0 h0
      obtain ⟨_, h3, h4⟩ := World.cells?_some h1
      have h5 := h4 0 (by omega)
      rw [List.getElem?_eq_getElem (by omega)] at h5
      simp only [Nat.zero_mul, Addr.add, if_true] at h5
      unfold World.cell? at h5
      split at h5
      · rename_i hh
        split at h5
        · cases h5
        · rename_i hs
          refine ⟨by simpa using hs, ?_⟩
          exact (Array.getElem?_eq_some_iff.1 hh).1
      · cases h5
    have all : ∀ k, k ≤ len → ∃ xs : List α, xs.length = k ∧ (∀ y ∈ xs, q y) ∧ ∃ vs : List Value, RoRows w (okW w) sz (xs.map f) vs ∧ ∀ j u, vs[j]? = some u → w.cell? ⟨a.block, a.off + j, none⟩ = some u := by
      intro k
      induction k with
      | zero => exact fun _ => ⟨[], rfl, by simp, [], by simp only [List.map_nil, RoRows], by simp⟩
      | succ k ih =>
        intro hk
        obtain ⟨xs, h1, h2, vs, h3, h4⟩ := ih (by omega)
        obtain ⟨csi, x, h5, h6, h7⟩ := one k (by omega)
        obtain ⟨_, h8, h9⟩ := World.cells?_some h5
        have hvl := h3.length
        rw [List.length_map, h1] at hvl
        refine ⟨xs ++ [x], by simp [h1], fun y hy => ?_, vs ++ csi, by rw [List.map_append]; exact RoRows_snoc h3 (hf x) h6, fun j u hj => ?_⟩
        · rcases List.mem_append.1 hy with hy | hy
          · exact h2 y hy
          · simp only [List.mem_singleton] at hy
            subst hy
            exact h7
        · by_cases hjv : j < vs.length
          · rw [List.getElem?_append_left hjv] at hj
            exact h4 j u hj
          · rw [List.getElem?_append_right (by omega)] at hj
            obtain ⟨hj2, _⟩ := List.getElem?_eq_some_iff.1 hj
            have h10 := h9 (j - vs.length) (by omega)
            rw [hj] at h10
            have hsp := (spot (by omega)).1
            have hjj : k * sz + (j - vs.length) = j := by rw [← hvl]; exact Nat.add_sub_cancel' (Nat.le_of_not_lt hjv)
            have e : (a.add (k * sz)).add (j - vs.length) = ⟨a.block, a.off + j, none⟩ := by rw [add_add0 hsp, hjj]
            rw [e] at h10
            exact h10
    obtain ⟨xs, h1, h2, vs, h3, h4⟩ := all len (Nat.le_refl _)
    refine ⟨xs, ?_, by rw [h1]; have : cap ≤ 9223372036854775807 := hm; omega, h2⟩
    simp only [RoL]
    refine ⟨_, [], rfl, ?_, rfl⟩
    simp only [RoT, List.length_map]
    refine ⟨some a, cap, vs, by rw [h1], by omega, hm, h3, fun hne => ?_⟩
    have h0 : 0 < len := by
      rcases Nat.eq_zero_or_pos len with e | e
      · rw [e] at h1
        have : xs = [] := List.length_eq_zero_iff.1 h1
        subst this
        exact absurd rfl hne
      · exact e
    obtain ⟨s1, s2⟩ := spot h0
    refine ⟨a.block, a.off, ?_, s2, s2, h4⟩
    obtain ⟨ab, ao, as1⟩ := a
    simp only at s1
    subst s1
    rfl
theorem int_of {t : TypeId} (ht : P.underlying t = some (.int .i64)) {fuel : Nat} {cs : List Value} {x : DataW H × List MemPlace} (h : DataW.trod enc P w base spare held fuel t cs = some x) : ∃ n : Int, RoL w (okW w) [.int .i64 n] cs := by
  obtain ⟨n, rfl, _⟩ := DataW.trod_int ht h
  exact ⟨n, by simp only [RoL, RoT]; exact ⟨_, [], rfl, rfl, rfl⟩⟩
theorem byte_of {t : TypeId} (ht : P.underlying t = some (.int .u8)) {fuel : Nat} {cs : List Value} {x : DataW H × List MemPlace} (h : DataW.trod enc P w base spare held fuel t cs = some x) : ∃ n : Int, RoL w (okW w) [.int .u8 n] cs ∧ (0 ≤ n ∧ n ≤ 255) := by
  obtain ⟨n, rfl, _, hw⟩ := DataW.trod_int ht h
  refine ⟨n, by simp only [RoL, RoT]; exact ⟨_, [], rfl, rfl, rfl⟩, ?_⟩
  simp only [Lit.wf, Bool.and_eq_true, decide_eq_true_eq] at hw
  exact hw
theorem bool_of {t : TypeId} (ht : P.underlying t = some .bool) {fuel : Nat} {cs : List Value} {x : DataW H × List MemPlace} (h : DataW.trod enc P w base spare held fuel t cs = some x) : ∃ n : Bool, RoL w (okW w) [.bool n] cs := by
  obtain ⟨n, rfl, _⟩ := DataW.trod_bool ht h
  exact ⟨n, by simp only [RoL, RoT]; exact ⟨_, [], rfl, rfl, rfl⟩⟩
theorem fld_of {fs : Array Field} {n : Nat} {cs : List Value} {xs : List (DataW H × List MemPlace)} (hf : ∀ (i : Nat) (f : Field), fs[i]? = some f → DataW.trod enc P w base spare held n f.type ((cs.drop f.offset).take (P.cellsOf f.type)) = xs[i]?) (hl : xs.length = fs.size) (i : Nat) {f : Field} (hi : fs[i]? = some f) :
    ∃ d, DataW.trod enc P w base spare held n f.type ((cs.drop f.offset).take (P.cellsOf f.type)) = some d := by
  have h1 := hf i f hi
  obtain ⟨h2, _⟩ := Array.getElem?_eq_some_iff.1 hi
  rw [List.getElem?_eq_getElem (by omega)] at h1
  exact ⟨_, h1⟩
end
def allRo : List T → Bool
  | [] => true
  | t :: ts => !t.isOwn && allRo ts
theorem CRepL_ro {w : World} {fz : Nat → Prop} {hs : List Value} : ∀ {ts : List T} {vs : List Value}, RoL w fz ts vs → allRo ts = true → CRepL w fz hs (ts.map C.t) (fun _ => False) vs
  | [], vs, h, _ => by simpa only [RoL, List.map_nil, CRepL] using h
  | t :: ts, vs, h, hr => by
    simp only [RoL] at h
    obtain ⟨u, us, rfl, h1, h2⟩ := h
    simp only [allRo, Bool.and_eq_true, Bool.not_eq_true'] at hr
    simp only [List.map_cons, CRepL, CRep]
    exact ⟨u, us, fun _ => False, fun _ => False, rfl, fun _ h => h.elim, fun _ h => h, roOwn (fun sz rows e => by rw [e] at hr; simp [T.isOwn] at hr) h1, CRepL_ro h2 hr.2⟩
end Go.H
end
section
set_option maxRecDepth 100000
set_option linter.unusedVariables false
set_option linter.unusedSimpArgs false
namespace Go.H
open Go Go.Proofs.Tryz
section
variable {H : Type} {enc : TypeId × Value → H} {w : World} {base : Nat} {spare : Nat → Bool} {held : Bool}
theorem cells5 : prog.cellsOf 5 = 1 := by kernel_rfl
theorem ofs_22 {fuel : Nat} {cs : List Value} {d : DataW H × List MemPlace} (h : DataW.trod enc prog w base spare held fuel 22 cs = some d) : ∃ x : List Int, RoL w (okW w) [.sl false 1 (x.map eI_u8)] cs ∧ x.length ≤ 9223372036854775807 ∧ ∀ y ∈ x, (fun b => 0 ≤ b ∧ b ≤ 255) y := by
  exact sl_of eI_u8 (fun b => 0 ≤ b ∧ b ≤ 255) 1 underlying22 cells5 (fun _ => rfl) (by decide) (fun n cs d h => byte_of underlying5 h) h
end
end Go.H
end
section
set_option maxRecDepth 100000
set_option maxHeartbeats 4000000
set_option cbv.maxSteps 4000000
set_option linter.unusedVariables false
set_option linter.unusedSimpArgs false
namespace Go.H
open Go Go.Proofs.Tryz
variable [Inv prog]
theorem s_laws_lwBig (code : List Int) (hc : code.length ≤ 9223372036854775807) : SemX prog 8 [aT (.sl false 1 (code.map eI_u8))] [] [rB (decide (1048576 < code.length))] [] := by
 refine goF [] [] [] func8 ?_
 refine D ?_
 refine E ?_
 first
 | exact trivial
 | rw [show (decide ((1048576 : Int) < code.length)) = decide (1048576 < code.length) by rw [Bool.eq_iff_iff]; simp; omega]
theorem s_impl_LeadersHave (x : Cluster) (S : SafeC x) : SemX prog 13 [aS (eCluster false x)] [] [rB true] [] := by
 refine goF [] [] [] func13 ?_
 have C := S.f
 have hx : limC 2097152 x := cf_lim2 C
 obtain ⟨⟨hn, hN⟩, ⟨hm, hM⟩, hw, hs⟩ := id hx
 have hcz := cf_zero C
 have hA := hcz
 refine D ?_
 refine kR (s_impl_ClusterFault x hx) ?_
 refine D ?_
 refine kRg (s_impl_Cluster_leadersHave x C S.h) ?_
 refine D ?_
 exact E trivial
theorem s_impl_Cluster_leader (x : Cluster) (C : CF x) : SemX prog 44 [aT (.ptr (eCluster false x))] [] [rI (leadK x x.nodes.length)] [] := by
 refine goF [] [(5, 1, [24576], []), (5, 8, [24576], [])] [] func44 ?_
 have hx : limC 2097152 x := cf_lim2 C
 obtain ⟨⟨hn, hN⟩, ⟨hm, hM⟩, hw, hs⟩ := id hx
 have hcz := cf_zero C
 refine D ?_
 refine L (α := Nat) (fun i => [(11, .int .i64 i), (3, .int .i64 (leadK x i))]) (fun i => []) (fun i => x.nodes.length - i) (fun i => i ≤ x.nodes.length) 0 [] (fun i hI => ?_) (by simp only [go_sem] <;> and_intros <;> first | with_reducible exact rfl | (first | omega | exact rfl | (simp; done)))
 obtain ⟨hb1, hb2⟩ := leadK_bd x i
 refine D ?_
 refine cC (fun c0 => ?_) (fun c0 => ?_)
 · skip
   have hid := (C.nd i (by omega)).2.1
   refine D ?_
   refine cC (fun c1 => ?_) (fun c1 => ?_)
   · skip
     have hl : leadK x (i + 1) = i := if_pos (by revert c1; simp [-List.getD_eq_getElem?_getD])
     refine D ?_
     refine lp_next (i + 1) [] ?_ ?_ ?_
     · simp only [go_sem] <;> and_intros <;> first | with_reducible exact rfl | (first | with_reducible exact rfl | omega | (refine int_eq ?_; omega) | (simp; done))
     · omega
     · omega
   · skip
     have hl : leadK x (i + 1) = leadK x i := if_neg (by revert c1; simp [-List.getD_eq_getElem?_getD])
     refine D ?_
     refine lp_next (i + 1) [] ?_ ?_ ?_
     · simp only [go_sem] <;> and_intros <;> first | with_reducible exact rfl | (first | with_reducible exact rfl | omega | (refine int_eq ?_; omega) | (simp; done))
     · omega
     · omega
 · skip
   obtain rfl : i = x.nodes.length := by omega
   refine D ?_
   exact E trivial
theorem s_impl_LeaderOf (x : Cluster) (C : CF x) : SemX prog 16 [aS (eCluster false x)] [] [.agg (eIntResult (leaderOf x))] [] := by
 refine goF [] [] [] func16 ?_
 have hx : limC 2097152 x := cf_lim2 C
 obtain ⟨⟨hn, hN⟩, ⟨hm, hM⟩, hw, hs⟩ := id hx
 have hcz := cf_zero C
 have hA := hcz
 refine D ?_
 refine kR (s_impl_ClusterFault x hx) ?_
 refine D ?_
 refine cF ?_
 refine D ?_
 refine kR (s_impl_Cluster_leader x C) ?_
 refine D ?_
 refine cC (fun c1 => ?_) (fun c1 => ?_)
 · skip
   have hl : leaderOf x = ⟨4, 0⟩ := if_pos c1
   refine D ?_
   refine E ?_
   first
   | exact trivial
   | rw [hl]
 · skip
   have hl : leaderOf x = ⟨0, leadK x x.nodes.length⟩ := if_neg c1
   refine D ?_
   refine E ?_
   first
   | exact trivial
   | rw [hl]
theorem s_laws_lwRest (c : Cluster) (b r : Nat) (R : RestOk b c r) : SemX prog 14 [aS (eCluster false c)] [] [.agg (eCluster true (rdI (rsI c) (r + 1))), rB true] [] := by
 refine goF [(42, ⟨some 1, none, none, none⟩), (102, ⟨some 1, none, none, none⟩), (108, ⟨some 1, none, none, none⟩)] [(19, 0, [8192], []), (19, 4, [28673, 28674, 28675, 28676], [241665, 241666, 241667, 241668]), (19, 5, [], [45056]), (19, 6, [45056], [45056])] [] func14 ?_
 have hLW := R.l
 have hn5 := hLW.cf.n
 have hrl := R.rl
 have hrm := rs_facts hLW
 refine D ?_
 refine LP (s1 := ?s1) (st2 := ?st2) (α := Nat) [28672, 98304] [(98305,28673),(98306,28674),(98307,28675),(98308,28676)] (fun k => [(5, .int .i64 k)]) (fun k => [(8192, .var [.ref 28673 0 (crI c k).nodes.length, .ref 28674 0 (crI c k).mails.length, .ref 28675 0 (crI c k).wins.length, .ref 28676 0 (crI c k).seals.length]), (28673, .arr ⟨10, (crI c k).nodes.map (eNode true), 1, none⟩), (28674, .arr ⟨9, (crI c k).mails.map (eMail true), 1, none⟩), (28675, .arr ⟨2, (crI c k).wins.map eWon, 1, none⟩), (28676, .arr ⟨10, (crI c k).seals.map eSeal, 1, none⟩)]) (fun k => c.nodes.length - k) (fun k => 1 ≤ k ∧ k ≤ c.nodes.length) (c.nodes.length + 1) (by intros; omega) ?h1 (fun k hL => ?h2) (by simp only [go_sem] <;> and_intros <;> first | with_reducible exact rfl | omega | with_reducible trivial | (intros; simp_all; done) | grind) ?e1
 case h1 =>
  refine D ?_
  refine cC (fun c0 => ?_) (fun c0 => ?_)
  · skip
    have hT := s_impl_CrashAt c (cf_lim2 hLW.cf) 0
    rw [show atNode c 0 (crashNode (c.nodes.getD (0 : Int).toNat zNode)) = ⟨0, crI c 1⟩ from cr_step hLW (k := 0) (by omega)] at hT
    refine D ?_
    refine kR hT ?_
    refine D ?_
    refine cF ?_
    refine D ?_
    refine pl_next 1 [(28673,98305),(28674,98306),(28675,98307),(28676,98308)] ?_ ?_
    · simp only [go_sem] <;> and_intros <;> first | with_reducible exact rfl | (first | with_reducible exact rfl | omega | (refine int_eq ?_; omega) | (simp; done))
    · omega
  · skip
    exfalso
    omega
 case e1 =>
  intro x_
  first | (simp only [go_sem, hA]; exact rfl) | (simp only [go_sem]; exact rfl)
 case h2 =>
  obtain ⟨hk1, hk2⟩ := hL
  refine D ?_
  refine cC (fun c0 => ?_) (fun c0 => ?_)
  · skip
    have hcr := cr_facts hLW k (by omega)
    have hT := s_impl_CrashAt (crI c k) (cf_lim2 hcr.1.cf) k
    rw [show atNode (crI c k) k (crashNode ((crI c k).nodes.getD (k : Int).toNat zNode)) = ⟨0, crI c (k + 1)⟩ from cr_step hLW (k := k) (by omega)] at hT
    refine D ?_
    refine kR hT ?_
    refine D ?_
    refine cF ?_
    refine D ?_
    refine lp_next (k+1) [(28673,98305),(28674,98306),(28675,98307),(28676,98308)] ?_ ?_ ?_
    · simp only [go_sem] <;> and_intros <;> first | with_reducible exact rfl | (first | with_reducible exact rfl | omega | (refine int_eq ?_; omega) | (simp; done))
    · omega
    · omega
  · skip
    obtain rfl : k = c.nodes.length := by omega
    have hcr := cr_facts hLW c.nodes.length (Nat.le_refl _)
    have hm8 := hcr.1.cf.m
    refine D ?_
    refine L (α := Nat) (fun j => [(7, .int .i64 j)]) (fun j => [(8192, .var [.ref 28673 0 (drI (crI c c.nodes.length) j).nodes.length, .ref 28674 0 (drI (crI c c.nodes.length) j).mails.length, .ref 28675 0 (drI (crI c c.nodes.length) j).wins.length, .ref 28676 0 (drI (crI c c.nodes.length) j).seals.length]), (28673, .arr ⟨10, (drI (crI c c.nodes.length) j).nodes.map (eNode true), 1, none⟩), (28674, .arr ⟨9, (drI (crI c c.nodes.length) j).mails.map (eMail true), 1, none⟩), (28675, .arr ⟨2, (drI (crI c c.nodes.length) j).wins.map eWon, 1, none⟩), (28676, .arr ⟨10, (drI (crI c c.nodes.length) j).seals.map eSeal, 1, none⟩)]) (fun j => (crI c c.nodes.length).mails.length - j) (fun j => j ≤ (crI c c.nodes.length).mails.length) 0 [] (fun j hI => ?_) (by simp only [go_sem] <;> and_intros <;> first | with_reducible exact rfl | (first | omega | exact rfl | (simp; done)))
    have hdj := dr_facts hcr.1 j hI
    have hml : (drI (crI c c.nodes.length) j).mails.length = (crI c c.nodes.length).mails.length - j := by rw [hdj.2]; simp
    refine D ?_
    refine cC (fun c2 => ?_) (fun c2 => ?_)
    · skip
      have hj : j < (crI c c.nodes.length).mails.length := by simp at c2; omega
      have hT := s_impl_DropMail (drI (crI c c.nodes.length) j) (cf_lim2 hdj.1.cf) 0
      rw [dr_step hcr.1 hj] at hT
      refine D ?_
      refine kR hT ?_
      refine D ?_
      refine cF ?_
      refine D ?_
      refine lp_next (j+1) [(28673,172033),(28674,172034),(28675,172035),(28676,172036)] ?_ ?_ ?_
      · simp only [go_sem] <;> and_intros <;> first | with_reducible exact rfl | (first | omega | exact rfl | (simp; done))
      · omega
      · omega
    · skip
      have hje : j = (crI c c.nodes.length).mails.length := by
        refine Classical.byContradiction fun e => ?_
        have h1 : (j : Int) < 100 := by omega
        have h2 : (0 : Int) < ((drI (crI c c.nodes.length) j).mails.length : Int) := by omega
        rw [decide_eq_true h1, decide_eq_true h2] at c2
        cases c2
      subst hje
      refine D ?_
      refine L (α := Nat) (fun q => [(9, .int .i64 q)]) (fun q => [(8192, .var [.ref 28673 0 (rdI (rsI c) q).nodes.length, .ref 28674 0 (rdI (rsI c) q).mails.length, .ref 28675 0 (rdI (rsI c) q).wins.length, .ref 28676 0 (rdI (rsI c) q).seals.length]), (28673, .arr ⟨10, (rdI (rsI c) q).nodes.map (eNode true), 1, none⟩), (28674, .arr ⟨9, (rdI (rsI c) q).mails.map (eMail true), 1, none⟩), (28675, .arr ⟨2, (rdI (rsI c) q).wins.map eWon, 1, none⟩), (28676, .arr ⟨10, (rdI (rsI c) q).seals.map eSeal, 1, none⟩)]) (fun q => r + 1 - q) (fun q => q ≤ r) 0 [] (fun q hI => ?_) (by simp only [go_sem] <;> and_intros <;> first | with_reducible exact rfl | (first | omega | exact rfl | (simp; done)))
      have hqI := hI
      obtain ⟨hq1, hq2, hq3, hq4, hq5, hq6, hq7⟩ := rest_round R hI
      have htm : (q : Int).tmod (c.nodes.length : Int) = ((q % c.nodes.length : Nat) : Int) := rfl
      have hA := htm
      refine D ?_
      refine cC (fun c4 => ?_) (fun c4 => ?_)
      · skip
        have hT := s_impl_TimeoutAt (rdI (rsI c) q) (cf_lim2 hq2) ((q % c.nodes.length : Nat) : Int)
        rw [show atNode (rdI (rsI c) q) ((q % c.nodes.length : Nat) : Int) (timeoutNode ((rdI (rsI c) q).nodes.getD ((q % c.nodes.length : Nat) : Int).toNat zNode)) = ⟨0, tw1 c q⟩ from hq3] at hT
        refine D ?_
        refine kD hT ?_
        refine D ?_
        refine cF ?_
        refine D ?_
        refine Ld [10] [45056] (α := Nat) (fun j => [(11, .int .i64 j)]) (fun j => [(8192, .var [.ref 241665 0 (dlI (tw1 c q) j).nodes.length, .ref 241666 0 (dlI (tw1 c q) j).mails.length, .ref 241667 0 (dlI (tw1 c q) j).wins.length, .ref 241668 0 (dlI (tw1 c q) j).seals.length]), (241665, .arr ⟨10, (dlI (tw1 c q) j).nodes.map (eNode true), 1, none⟩), (241666, .arr ⟨9, (dlI (tw1 c q) j).mails.map (eMail true), 1, none⟩), (241667, .arr ⟨2, (dlI (tw1 c q) j).wins.map eWon, 1, none⟩), (241668, .arr ⟨10, (dlI (tw1 c q) j).seals.map eSeal, 1, none⟩)]) (fun j => 2 * (c.nodes.length - 1) - j) (fun j => j ≤ 2 * (c.nodes.length - 1)) 0 [] (fun j hI => ?_) (by simp only [go_sem, hA] <;> and_intros <;> first | with_reducible exact rfl | (first | omega | exact rfl | (simp; done)))
        have hlj := lw_dl hq7 (J := j) fun i hi => hq5 i (by omega)
        refine D ?_
        refine cC (fun c6 => ?_) (fun c6 => ?_)
        · skip
          have hj : j < 2 * (c.nodes.length - 1) := by
            refine Nat.lt_of_le_of_ne hI fun e => ?_
            subst e
            rw [hq6, hq4.m] at c6
            simp at c6
          have hT := s_impl_DeliverMail (dlI (tw1 c q) j) (cf_lim2 hlj.1.cf) 0
          rw [show deliverMail (dlI (tw1 c q) j) 0 = ⟨0, dlI (tw1 c q) (j + 1)⟩ from res_eta (hq5 j hj).2] at hT
          refine D ?_
          refine kR hT ?_
          refine D ?_
          refine cF ?_
          refine D ?_
          refine lp_next (j+1) [(241665,315393),(241666,315394),(241667,315395),(241668,315396)] ?_ ?_ ?_
          · simp only [go_sem, hA] <;> and_intros <;> first | with_reducible exact rfl | (first | omega | exact rfl | (simp; done))
          · omega
          · omega
        · skip
          have hje : j = 2 * (c.nodes.length - 1) := by
            refine Classical.byContradiction fun e => ?_
            have h0 := (hq5 j (by omega)).1
            have h1 : (j : Int) < 60 := by omega
            have h2 : (0 : Int) < ((dlI (tw1 c q) j).mails.length : Int) := by omega
            rw [decide_eq_true h1, decide_eq_true h2] at c6
            cases c6
          subst hje
          rw [hq6] at *
          have hCq := hq4.l.cf
          refine D ?_
          refine kR (s_impl_LeaderOf (rdI (rsI c) (q + 1)) hCq) ?_
          refine D ?_
          refine cC (fun c8 => ?_) (fun c8 => ?_)
          · skip
            have hqr : q = r := by
              refine Classical.byContradiction fun e => ?_
              rw [lead_no (R.no (q + 1) (by omega))] at c8
              cases c8
            subst hqr
            refine D ?_
            exact E trivial
          · skip
            have hqr : q < r := by
              refine Nat.lt_of_le_of_ne hqI fun e => c8 ?_
              subst e
              exact lead_code.2 R.le
            refine D ?_
            refine lp_next (q+1) [(28673,241665),(28674,241666),(28675,241667),(28676,241668)] ?_ ?_ ?_
            · simp only [go_sem, hA] <;> and_intros <;> first | with_reducible exact rfl | (first | omega | exact rfl | (simp; done))
            · omega
            · omega
      · skip
        exfalso
        omega
theorem s_impl_AgreedOf (x : Cluster) (C : CF x) : SemX prog 15 [aS (eCluster false x)] [] [.agg (eEntriesResult true ⟨0, sealedE x⟩)] [] := by
 refine goF [] [] [] func15 ?_
 have hx : limC 2097152 x := cf_lim2 C
 obtain ⟨⟨hn, hN⟩, ⟨hm, hM⟩, hw, hs⟩ := id hx
 have hcz := cf_zero C
 have hsl := sealed_len x
 have hA := hcz
 refine D ?_
 refine kR (s_impl_ClusterFault x hx) ?_
 refine D ?_
 refine cF ?_
 refine D ?_
 refine kR (s_impl_Cluster_sealed x hs) ?_
 refine D ?_
 exact E trivial
theorem s_laws_FnElects (code : List Int) (hc : code.length ≤ 9223372036854775807) (hbb : ∀ b ∈ code, 0 ≤ b ∧ b ≤ 255) : SemX prog 4 [aT (.sl false 1 (code.map eI_u8))] [] [rB true] [] := by
 refine goF [(82, ⟨none, none, some (44, true), none⟩), (112, ⟨some 14, none, none, none⟩)] [] [(4, [1000000077824])] func4 ?_
 refine D ?_
 refine kR (s_laws_lwBig code hc) ?_
 refine D ?_
 refine cC (fun c0 => ?_) (fun c0 => ?_)
 · skip
   refine D ?_
   refine E ?_
   first
   | exact trivial
   | simp; omega
 · skip
   have hb : okB code := ⟨by simp at c0; omega, hbb⟩
   have hS := lwC_safe hb 50
   have hx := cf_lim2 hS.f
   obtain ⟨r, hR⟩ := rest_ok (lwC_lw hb 50).1 (by omega) (lwC_odd hb)
   obtain ⟨w, hLd, hsp⟩ := rest_led hR
   have hT := s_laws_lwRest (lwC code 50) 50 r hR
   obtain ⟨X, hX⟩ : ∃ X, rdI (rsI (lwC code 50)) (r + 1) = X := ⟨_, rfl⟩
   rw [hX] at hT hLd hsp
   have hXC := hLd.q.l.cf
   have hXx := cf_lim2 hXC
   have hSX : SafeC X := by obtain ⟨g, C⟩ := hLd.q.l.c; exact ci_safe C
   have hTL := s_impl_LeaderOf X hXC
   rw [lead_led hLd] at hTL
   have hcn := el_common hLd hsp
   have hwX := hLd.wl
   have hnX := hLd.q.n
   have hsl := sealed_len (lwC code 50)
   have hslX := sealed_len X
   have hspl := hsp.length_le
   have hs4 := hS.f.s
   have hsX4 := hXC.s
   have hlw := (hXC.nd w (by omega)).1.l.n
   have hA := hcn
   refine D ?_
   refine kR (s_laws_lwCluster code hb false) ?_
   refine D ?_
   refine kR hT ?_
   refine D ?_
   refine cF ?_
   refine D ?_
   refine kR (s_impl_AgreedOf (lwC code 50) hS.f) ?_
   refine D ?_
   refine kR hTL ?_
   refine D ?_
   refine kRg (s_impl_CommonOf (X.nodes.getD w zNode).log (sealedE (lwC code 50)) (by omega) (by omega)) ?_
   refine D ?_
   refine kRg (s_impl_LeadersHave X hSX) ?_
   refine D ?_
   refine kGc true [] [] [] (fun (_ : True) => s_impl_AgreedOf X hXC) (fun g7 => ?_) (fun g7 => ?_)
   · skip
     refine D ?_
     refine E ?_
     first
     | exact trivial
     | simp; omega
   · skip
     cases g7
end Go.H
end
