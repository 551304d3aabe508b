/- What the functions that the law reaches compute, each by its code, against pure functions. Conditions: those that each theorem states. -/
import Derived.Test.YtpkdcjbkfkhgdaaGreatQC3
import Derived.ChangeArms
import Derived.DataReads
import Derived.KernelRfl
section
set_option linter.unusedSimpArgs false
set_option linter.unusedVariables false
namespace Go.H
open Go
theorem add_add0 {a : Addr} (hs : a.spot = none) (i j : Nat) : (a.add i).add j = ⟨a.block, a.off + (i + j), none⟩ := by
  obtain ⟨ab, ao, as1⟩ := a
  simp only at hs
  subst hs
  simp only [Addr.add]
  by_cases h1 : i = 0
  · subst h1
    by_cases h2 : j = 0 <;> simp [h2]
  · by_cases h2 : j = 0 <;> simp [h1, h2, Nat.add_assoc]
def okW (w : World) (b : Nat) : Prop := b < w.heap.size
theorem RoL_app {w : World} {ok : Nat → Prop} : ∀ {ts us : List T} {a b : List Value}, RoL w ok ts a → RoL w ok us b → RoL w ok (ts ++ us) (a ++ b)
  | [], us, a, b, h1, h2 => by simp only [RoL] at h1; subst h1; exact h2
  | t :: ts, us, a, b, h1, h2 => by
    simp only [RoL, List.cons_append] at h1 ⊢
    obtain ⟨u, vs, rfl, h3, h4⟩ := h1
    exact ⟨u, vs ++ b, rfl, h3, RoL_app h4 h2⟩
theorem RoL_cat {w : World} {ok : Nat → Prop} {ts us : List T} {cs : List Value} {o n : Nat} (h1 : RoL w ok ts ((cs.drop o).take n)) (h2 : RoL w ok us (cs.drop (o + n))) : RoL w ok (ts ++ us) (cs.drop o) := by
  have := RoL_app h1 h2
  rwa [← List.drop_drop, List.take_append_drop] at this
theorem RoL_end {w : World} {ok : Nat → Prop} {ts : List T} {cs : List Value} {o n : Nat} (h1 : RoL w ok ts ((cs.drop o).take n)) (hl : cs.length = o + n) : RoL w ok ts (cs.drop o) := by
  rwa [List.take_of_length_le (by simp; omega)] at h1
theorem RoRows_snoc {w : World} {ok : Nat → Prop} {sz : Nat} : ∀ {rs : List (List T)} {vs : List Value} {r : List T} {cs : List Value}, RoRows w ok sz rs vs → r.length = sz → RoL w ok r cs → RoRows w ok sz (rs ++ [r]) (vs ++ cs)
  | [], vs, r, cs, h, hl, hr => by
    simp only [RoRows] at h
    subst h
    simp only [List.nil_append, RoRows]
    exact ⟨cs, [], by simp, hl, hr, rfl⟩
  | x :: rs, vs, r, cs, h, hl, hr => by
    simp only [RoRows, List.cons_append] at h ⊢
    obtain ⟨a, b, rfl, h1, h2, h3⟩ := h
    exact ⟨a, b ++ cs, by simp, h1, h2, RoRows_snoc h3 hl hr⟩
section
variable {H : Type} {enc : TypeId × Value → H} {P : Program} {w : World} {base : Nat} {spare : Nat → Bool} {held : Bool}
theorem sl_of {α : Type} (f : α → List T) (q : α → Prop) (sz : Nat) {t e : TypeId} (ht : P.underlying t = some (.slice e)) (hsz : P.cellsOf e = sz) (hf : ∀ x, (f x).length = sz) (hpos : sz ≠ 0)
    (hel : ∀ n cs d, DataW.trod enc P w base spare held n e cs = some d → ∃ x, RoL w (okW w) (f x) cs ∧ q x) {fuel : Nat} {cs : List Value} {x : DataW H × List MemPlace} (h : DataW.trod enc P w base spare held fuel t cs = some x) :
    ∃ xs : List α, RoL w (okW w) [.sl false sz (xs.map f)] cs ∧ xs.length ≤ 9223372036854775807 ∧ ∀ y ∈ xs, q y := by
  rcases DataW.trod_slice ht h with ⟨rfl, _⟩ | ⟨a, len, cap, elems, rest, n, _, rfl, _, hb, hl, hm, hlen, he, _, _⟩
  · refine ⟨[], ?_, by simp, by simp⟩
    simp only [RoL, RoT, List.map_nil, List.length_nil]
    exact ⟨_, [], rfl, ⟨none, 0, [], rfl, Nat.le_refl _, Nat.zero_le _, by simp only [RoRows], fun h => absurd rfl h⟩, rfl⟩
  · rw [hsz] at he
    have one : ∀ i, i < len → ∃ csi x, w.cells? base (a.add (i * sz)) sz = some csi ∧ RoL w (okW w) (f x) csi ∧ q x := by
      intro i hi
      have h1 := he i hi
      rw [List.getElem?_eq_getElem (by omega)] at h1
      obtain ⟨csi, h2, h3⟩ := Option.bind_eq_some_iff.1 h1
      obtain ⟨x, h4, h5⟩ := hel n csi _ h3
      exact ⟨csi, x, h2, h4, h5⟩
    have spot : 0 < len → a.spot = none ∧ a.block < w.heap.size := by
      intro h0
      obtain ⟨csi, x, h1, h2, _⟩ := one 0 h0
      obtain ⟨_, h3, h4⟩ := World.cells?_some h1
      have h5 := h4 0 (by omega)
      rw [List.getElem?_eq_getElem (by omega)] at h5
      simp only [Nat.zero_mul, Addr.add, if_true] at h5
      unfold World.cell? at h5
      split at h5
      · rename_i hh
        split at h5
        · cases h5
        · rename_i hs
          refine ⟨by simpa using hs, ?_⟩
          exact (Array.getElem?_eq_some_iff.1 hh).1
      · cases h5
    have all : ∀ k, k ≤ len → ∃ xs : List α, xs.length = k ∧ (∀ y ∈ xs, q y) ∧ ∃ vs : List Value, RoRows w (okW w) sz (xs.map f) vs ∧ ∀ j u, vs[j]? = some u → w.cell? ⟨a.block, a.off + j, none⟩ = some u := by
      intro k
      induction k with
      | zero => exact fun _ => ⟨[], rfl, by simp, [], by simp only [List.map_nil, RoRows], by simp⟩
      | succ k ih =>
        intro hk
        obtain ⟨xs, h1, h2, vs, h3, h4⟩ := ih (by omega)
        obtain ⟨csi, x, h5, h6, h7⟩ := one k (by omega)
        obtain ⟨_, h8, h9⟩ := World.cells?_some h5
        have hvl := h3.length
        rw [List.length_map, h1] at hvl
        refine ⟨xs ++ [x], by simp [h1], fun y hy => ?_, vs ++ csi, by rw [List.map_append]; exact RoRows_snoc h3 (hf x) h6, fun j u hj => ?_⟩
        · rcases List.mem_append.1 hy with hy | hy
          · exact h2 y hy
          · simp only [List.mem_singleton] at hy
            subst hy
            exact h7
        · by_cases hjv : j < vs.length
          · rw [List.getElem?_append_left hjv] at hj
            exact h4 j u hj
          · rw [List.getElem?_append_right (by omega)] at hj
            obtain ⟨hj2, _⟩ := List.getElem?_eq_some_iff.1 hj
            have h10 := h9 (j - vs.length) (by omega)
            rw [hj] at h10
            have hsp := (spot (by omega)).1
            have hjj : k * sz + (j - vs.length) = j := by rw [← hvl]; exact Nat.add_sub_cancel' (Nat.le_of_not_lt hjv)
            have e : (a.add (k * sz)).add (j - vs.length) = ⟨a.block, a.off + j, none⟩ := by rw [add_add0 hsp, hjj]
            rw [e] at h10
            exact h10
    obtain ⟨xs, h1, h2, vs, h3, h4⟩ := all len (Nat.le_refl _)
    refine ⟨xs, ?_, by rw [h1]; have : cap ≤ 9223372036854775807 := hm; omega, h2⟩
    simp only [RoL]
    refine ⟨_, [], rfl, ?_, rfl⟩
    simp only [RoT, List.length_map]
    refine ⟨some a, cap, vs, by rw [h1], by omega, hm, h3, fun hne => ?_⟩
    have h0 : 0 < len := by
      rcases Nat.eq_zero_or_pos len with e | e
      · rw [e] at h1
        have : xs = [] := List.length_eq_zero_iff.1 h1
        subst this
        exact absurd rfl hne
      · exact e
    obtain ⟨s1, s2⟩ := spot h0
    refine ⟨a.block, a.off, ?_, s2, s2, h4⟩
    obtain ⟨ab, ao, as1⟩ := a
    simp only at s1
    subst s1
    rfl
theorem int_of {t : TypeId} (ht : P.underlying t = some (.int .i64)) {fuel : Nat} {cs : List Value} {x : DataW H × List MemPlace} (h : DataW.trod enc P w base spare held fuel t cs = some x) : ∃ n : Int, RoL w (okW w) [.int .i64 n] cs := by
  obtain ⟨n, rfl, _⟩ := DataW.trod_int ht h
  exact ⟨n, by simp only [RoL, RoT]; exact ⟨_, [], rfl, rfl, rfl⟩⟩
theorem byte_of {t : TypeId} (ht : P.underlying t = some (.int .u8)) {fuel : Nat} {cs : List Value} {x : DataW H × List MemPlace} (h : DataW.trod enc P w base spare held fuel t cs = some x) : ∃ n : Int, RoL w (okW w) [.int .u8 n] cs ∧ (0 ≤ n ∧ n ≤ 255) := by
  obtain ⟨n, rfl, _, hw⟩ := DataW.trod_int ht h
  refine ⟨n, by simp only [RoL, RoT]; exact ⟨_, [], rfl, rfl, rfl⟩, ?_⟩
  simp only [Lit.wf, Bool.and_eq_true, decide_eq_true_eq] at hw
  exact hw
theorem bool_of {t : TypeId} (ht : P.underlying t = some .bool) {fuel : Nat} {cs : List Value} {x : DataW H × List MemPlace} (h : DataW.trod enc P w base spare held fuel t cs = some x) : ∃ n : Bool, RoL w (okW w) [.bool n] cs := by
  obtain ⟨n, rfl, _⟩ := DataW.trod_bool ht h
  exact ⟨n, by simp only [RoL, RoT]; exact ⟨_, [], rfl, rfl, rfl⟩⟩
theorem fld_of {fs : Array Field} {n : Nat} {cs : List Value} {xs : List (DataW H × List MemPlace)} (hf : ∀ (i : Nat) (f : Field), fs[i]? = some f → DataW.trod enc P w base spare held n f.type ((cs.drop f.offset).take (P.cellsOf f.type)) = xs[i]?) (hl : xs.length = fs.size) (i : Nat) {f : Field} (hi : fs[i]? = some f) :
    ∃ d, DataW.trod enc P w base spare held n f.type ((cs.drop f.offset).take (P.cellsOf f.type)) = some d := by
  have h1 := hf i f hi
  obtain ⟨h2, _⟩ := Array.getElem?_eq_some_iff.1 hi
  rw [List.getElem?_eq_getElem (by omega)] at h1
  exact ⟨_, h1⟩
end
def allRo : List T → Bool
  | [] => true
  | t :: ts => !t.isOwn && allRo ts
theorem CRepL_ro {w : World} {fz : Nat → Prop} {hs : List Value} : ∀ {ts : List T} {vs : List Value}, RoL w fz ts vs → allRo ts = true → CRepL w fz hs (ts.map C.t) (fun _ => False) vs
  | [], vs, h, _ => by simpa only [RoL, List.map_nil, CRepL] using h
  | t :: ts, vs, h, hr => by
    simp only [RoL] at h
    obtain ⟨u, us, rfl, h1, h2⟩ := h
    simp only [allRo, Bool.and_eq_true, Bool.not_eq_true'] at hr
    simp only [List.map_cons, CRepL, CRep]
    exact ⟨u, us, fun _ => False, fun _ => False, rfl, fun _ h => h.elim, fun _ h => h, roOwn (fun sz rows e => by rw [e] at hr; simp [T.isOwn] at hr) h1, CRepL_ro h2 hr.2⟩
end Go.H
end
section
set_option maxRecDepth 100000
set_option linter.unusedVariables false
set_option linter.unusedSimpArgs false
namespace Go.H
open Go Go.Proofs.Tryz
section
variable {H : Type} {enc : TypeId × Value → H} {w : World} {base : Nat} {spare : Nat → Bool} {held : Bool}
theorem cells5 : prog.cellsOf 5 = 1 := by kernel_rfl
theorem ofs_22 {fuel : Nat} {cs : List Value} {d : DataW H × List MemPlace} (h : DataW.trod enc prog w base spare held fuel 22 cs = some d) : ∃ x : List Int, RoL w (okW w) [.sl false 1 (x.map eI_u8)] cs ∧ x.length ≤ 9223372036854775807 ∧ ∀ y ∈ x, (fun b => 0 ≤ b ∧ b ≤ 255) y := by
  exact sl_of eI_u8 (fun b => 0 ≤ b ∧ b ≤ 255) 1 underlying22 cells5 (fun _ => rfl) (by decide) (fun n cs d h => byte_of underlying5 h) h
end
end Go.H
end
section
set_option maxRecDepth 100000
set_option maxHeartbeats 4000000
set_option cbv.maxSteps 4000000
set_option linter.unusedVariables false
set_option linter.unusedSimpArgs false
namespace Go.H
open Go Go.Proofs.Tryz
variable [Inv prog]
theorem s_laws_lwBig (code : List Int) (hc : code.length ≤ 9223372036854775807) : SemX prog 8 [aT (.sl false 1 (code.map eI_u8))] [] [rB (decide (1048576 < code.length))] [] := by
 refine goF [] [] [] func8 ?_
 refine D ?_
 refine E ?_
 first
 | exact trivial
 | rw [show (decide ((1048576 : Int) < code.length)) = decide (1048576 < code.length) by rw [Bool.eq_iff_iff]; simp; omega]
theorem s_impl_Cluster_leader (x : Cluster) (C : CF x) : SemX prog 44 [aT (.ptr (eCluster false x))] [] [rI (leadK x x.nodes.length)] [] := by
 refine goF [] [(5, 1, [24576], []), (5, 8, [24576], [])] [] func44 ?_
 have hx : limC 2097152 x := cf_lim2 C
 obtain ⟨⟨hn, hN⟩, ⟨hm, hM⟩, hw, hs⟩ := id hx
 have hcz := cf_zero C
 refine D ?_
 refine L (α := Nat) (fun i => [(11, .int .i64 i), (3, .int .i64 (leadK x i))]) (fun i => []) (fun i => x.nodes.length - i) (fun i => i ≤ x.nodes.length) 0 [] (fun i hI => ?_) (by simp only [go_sem] <;> and_intros <;> first | with_reducible exact rfl | (first | omega | exact rfl | (simp; done)))
 obtain ⟨hb1, hb2⟩ := leadK_bd x i
 refine D ?_
 refine cC (fun c0 => ?_) (fun c0 => ?_)
 · skip
   have hid := (C.nd i (by omega)).2.1
   refine D ?_
   refine cC (fun c1 => ?_) (fun c1 => ?_)
   · skip
     have hl : leadK x (i + 1) = i := if_pos (by revert c1; simp [-List.getD_eq_getElem?_getD])
     refine D ?_
     refine lp_next (i + 1) [] ?_ ?_ ?_
     · simp only [go_sem] <;> and_intros <;> first | with_reducible exact rfl | (first | with_reducible exact rfl | omega | (refine int_eq ?_; omega) | (simp; done))
     · omega
     · omega
   · skip
     have hl : leadK x (i + 1) = leadK x i := if_neg (by revert c1; simp [-List.getD_eq_getElem?_getD])
     refine D ?_
     refine lp_next (i + 1) [] ?_ ?_ ?_
     · simp only [go_sem] <;> and_intros <;> first | with_reducible exact rfl | (first | with_reducible exact rfl | omega | (refine int_eq ?_; omega) | (simp; done))
     · omega
     · omega
 · skip
   obtain rfl : i = x.nodes.length := by omega
   refine D ?_
   exact E trivial
theorem s_impl_LeaderOf (x : Cluster) (C : CF x) : SemX prog 16 [aS (eCluster false x)] [] [.agg (eIntResult (leaderOf x))] [] := by
 refine goF [] [] [] func16 ?_
 have hx : limC 2097152 x := cf_lim2 C
 obtain ⟨⟨hn, hN⟩, ⟨hm, hM⟩, hw, hs⟩ := id hx
 have hcz := cf_zero C
 have hA := hcz
 refine D ?_
 refine kR (s_impl_ClusterFault x hx) ?_
 refine D ?_
 refine cF ?_
 refine D ?_
 refine kR (s_impl_Cluster_leader x C) ?_
 refine D ?_
 refine cC (fun c1 => ?_) (fun c1 => ?_)
 · skip
   have hl : leaderOf x = ⟨4, 0⟩ := if_pos c1
   refine D ?_
   refine E ?_
   first
   | exact trivial
   | rw [hl]
 · skip
   have hl : leaderOf x = ⟨0, leadK x x.nodes.length⟩ := if_neg c1
   refine D ?_
   refine E ?_
   first
   | exact trivial
   | rw [hl]
theorem s_laws_lwRest (c : Cluster) (b r : Nat) (R : RestOk b c r) : SemX prog 14 [aS (eCluster false c)] [] [.agg (eCluster true (rdI (rsI c) (r + 1))), rB true] [] := by
 refine goF [(42, ⟨some 1, none, none, none⟩), (102, ⟨some 1, none, none, none⟩), (108, ⟨some 1, none, none, none⟩)] [(19, 0, [8192], []), (19, 4, [28673, 28674, 28675, 28676], [241665, 241666, 241667, 241668]), (19, 5, [], [45056]), (19, 6, [45056], [45056])] [] func14 ?_
 have hLW := R.l
 have hn5 := hLW.cf.n
 have hrl := R.rl
 have hrm := rs_facts hLW
 refine D ?_
 refine LP (s1 := ?s1) (st2 := ?st2) (α := Nat) [28672, 98304] [(98305,28673),(98306,28674),(98307,28675),(98308,28676)] (fun k => [(5, .int .i64 k)]) (fun k => [(8192, .var [.ref 28673 0 (crI c k).nodes.length, .ref 28674 0 (crI c k).mails.length, .ref 28675 0 (crI c k).wins.length, .ref 28676 0 (crI c k).seals.length]), (28673, .arr ⟨10, (crI c k).nodes.map (eNode true), 1, none⟩), (28674, .arr ⟨9, (crI c k).mails.map (eMail true), 1, none⟩), (28675, .arr ⟨2, (crI c k).wins.map eWon, 1, none⟩), (28676, .arr ⟨10, (crI c k).seals.map eSeal, 1, none⟩)]) (fun k => c.nodes.length - k) (fun k => 1 ≤ k ∧ k ≤ c.nodes.length) (c.nodes.length + 1) (by intros; omega) ?h1 (fun k hL => ?h2) (by simp only [go_sem] <;> and_intros <;> first | with_reducible exact rfl | omega | with_reducible trivial | (intros; simp_all; done) | grind) ?e1
 case h1 =>
  refine D ?_
  refine cC (fun c0 => ?_) (fun c0 => ?_)
  · skip
    have hT := s_impl_CrashAt c (cf_lim2 hLW.cf) 0
    rw [show atNode c 0 (crashNode (c.nodes.getD (0 : Int).toNat zNode)) = ⟨0, crI c 1⟩ from cr_step hLW (k := 0) (by omega)] at hT
    refine D ?_
    refine kR hT ?_
    refine D ?_
    refine cF ?_
    refine D ?_
    refine pl_next 1 [(28673,98305),(28674,98306),(28675,98307),(28676,98308)] ?_ ?_
    · simp only [go_sem] <;> and_intros <;> first | with_reducible exact rfl | (first | with_reducible exact rfl | omega | (refine int_eq ?_; omega) | (simp; done))
    · omega
  · skip
    exfalso
    omega
 case e1 =>
  intro x_
  first | (simp only [go_sem, hA]; exact rfl) | (simp only [go_sem]; exact rfl)
 case h2 =>
  obtain ⟨hk1, hk2⟩ := hL
  refine D ?_
  refine cC (fun c0 => ?_) (fun c0 => ?_)
  · skip
    have hcr := cr_facts hLW k (by omega)
    have hT := s_impl_CrashAt (crI c k) (cf_lim2 hcr.1.cf) k
    rw [show atNode (crI c k) k (crashNode ((crI c k).nodes.getD (k : Int).toNat zNode)) = ⟨0, crI c (k + 1)⟩ from cr_step hLW (k := k) (by omega)] at hT
    refine D ?_
    refine kR hT ?_
    refine D ?_
    refine cF ?_
    refine D ?_
    refine lp_next (k+1) [(28673,98305),(28674,98306),(28675,98307),(28676,98308)] ?_ ?_ ?_
    · simp only [go_sem] <;> and_intros <;> first | with_reducible exact rfl | (first | with_reducible exact rfl | omega | (refine int_eq ?_; omega) | (simp; done))
    · omega
    · omega
  · skip
    obtain rfl : k = c.nodes.length := by omega
    have hcr := cr_facts hLW c.nodes.length (Nat.le_refl _)
    have hm8 := hcr.1.cf.m
    refine D ?_
    refine L (α := Nat) (fun j => [(7, .int .i64 j)]) (fun j => [(8192, .var [.ref 28673 0 (drI (crI c c.nodes.length) j).nodes.length, .ref 28674 0 (drI (crI c c.nodes.length) j).mails.length, .ref 28675 0 (drI (crI c c.nodes.length) j).wins.length, .ref 28676 0 (drI (crI c c.nodes.length) j).seals.length]), (28673, .arr ⟨10, (drI (crI c c.nodes.length) j).nodes.map (eNode true), 1, none⟩), (28674, .arr ⟨9, (drI (crI c c.nodes.length) j).mails.map (eMail true), 1, none⟩), (28675, .arr ⟨2, (drI (crI c c.nodes.length) j).wins.map eWon, 1, none⟩), (28676, .arr ⟨10, (drI (crI c c.nodes.length) j).seals.map eSeal, 1, none⟩)]) (fun j => (crI c c.nodes.length).mails.length - j) (fun j => j ≤ (crI c c.nodes.length).mails.length) 0 [] (fun j hI => ?_) (by simp only [go_sem] <;> and_intros <;> first | with_reducible exact rfl | (first | omega | exact rfl | (simp; done)))
    have hdj := dr_facts hcr.1 j hI
    have hml : (drI (crI c c.nodes.length) j).mails.length = (crI c c.nodes.length).mails.length - j := by rw [hdj.2]; simp
    refine D ?_
    refine cC (fun c2 => ?_) (fun c2 => ?_)
    · skip
      have hj : j < (crI c c.nodes.length).mails.length := by simp at c2; omega
      have hT := s_impl_DropMail (drI (crI c c.nodes.length) j) (cf_lim2 hdj.1.cf) 0
      rw [dr_step hcr.1 hj] at hT
      refine D ?_
      refine kR hT ?_
      refine D ?_
      refine cF ?_
      refine D ?_
      refine lp_next (j+1) [(28673,172033),(28674,172034),(28675,172035),(28676,172036)] ?_ ?_ ?_
      · simp only [go_sem] <;> and_intros <;> first | with_reducible exact rfl | (first | omega | exact rfl | (simp; done))
      · omega
      · omega
    · skip
      have hje : j = (crI c c.nodes.length).mails.length := by
        refine Classical.byContradiction fun e => ?_
        have h1 : (j : Int) < 100 := by omega
        have h2 : (0 : Int) < ((drI (crI c c.nodes.length) j).mails.length : Int) := by omega
        rw [decide_eq_true h1, decide_eq_true h2] at c2
        cases c2
      subst hje
      refine D ?_
      refine L (α := Nat) (fun q => [(9, .int .i64 q)]) (fun q => [(8192, .var [.ref 28673 0 (rdI (rsI c) q).nodes.length, .ref 28674 0 (rdI (rsI c) q).mails.length, .ref 28675 0 (rdI (rsI c) q).wins.length, .ref 28676 0 (rdI (rsI c) q).seals.length]), (28673, .arr ⟨10, (rdI (rsI c) q).nodes.map (eNode true), 1, none⟩), (28674, .arr ⟨9, (rdI (rsI c) q).mails.map (eMail true), 1, none⟩), (28675, .arr ⟨2, (rdI (rsI c) q).wins.map eWon, 1, none⟩), (28676, .arr ⟨10, (rdI (rsI c) q).seals.map eSeal, 1, none⟩)]) (fun q => r + 1 - q) (fun q => q ≤ r) 0 [] (fun q hI => ?_) (by simp only [go_sem] <;> and_intros <;> first | with_reducible exact rfl | (first | omega | exact rfl | (simp; done)))
      have hqI := hI
      obtain ⟨hq1, hq2, hq3, hq4, hq5, hq6, hq7⟩ := rest_round R hI
      have htm : (q : Int).tmod (c.nodes.length : Int) = ((q % c.nodes.length : Nat) : Int) := rfl
      have hA := htm
      refine D ?_
      refine cC (fun c4 => ?_) (fun c4 => ?_)
      · skip
        have hT := s_impl_TimeoutAt (rdI (rsI c) q) (cf_lim2 hq2) ((q % c.nodes.length : Nat) : Int)
        rw [show atNode (rdI (rsI c) q) ((q % c.nodes.length : Nat) : Int) (timeoutNode ((rdI (rsI c) q).nodes.getD ((q % c.nodes.length : Nat) : Int).toNat zNode)) = ⟨0, tw1 c q⟩ from hq3] at hT
        refine D ?_
        refine kD hT ?_
        refine D ?_
        refine cF ?_
        refine D ?_
        refine Ld [10] [45056] (α := Nat) (fun j => [(11, .int .i64 j)]) (fun j => [(8192, .var [.ref 241665 0 (dlI (tw1 c q) j).nodes.length, .ref 241666 0 (dlI (tw1 c q) j).mails.length, .ref 241667 0 (dlI (tw1 c q) j).wins.length, .ref 241668 0 (dlI (tw1 c q) j).seals.length]), (241665, .arr ⟨10, (dlI (tw1 c q) j).nodes.map (eNode true), 1, none⟩), (241666, .arr ⟨9, (dlI (tw1 c q) j).mails.map (eMail true), 1, none⟩), (241667, .arr ⟨2, (dlI (tw1 c q) j).wins.map eWon, 1, none⟩), (241668, .arr ⟨10, (dlI (tw1 c q) j).seals.map eSeal, 1, none⟩)]) (fun j => 2 * (c.nodes.length - 1) - j) (fun j => j ≤ 2 * (c.nodes.length - 1)) 0 [] (fun j hI => ?_) (by simp only [go_sem, hA] <;> and_intros <;> first | with_reducible exact rfl | (first | omega | exact rfl | (simp; done)))
        have hlj := lw_dl hq7 (J := j) fun i hi => hq5 i (by omega)
        refine D ?_
        refine cC (fun c6 => ?_) (fun c6 => ?_)
        · skip
          have hj : j < 2 * (c.nodes.length - 1) := by
            refine Nat.lt_of_le_of_ne hI fun e => ?_
            subst e
            rw [hq6, hq4.m] at c6
            simp at c6
          have hT := s_impl_DeliverMail (dlI (tw1 c q) j) (cf_lim2 hlj.1.cf) 0
          rw [show deliverMail (dlI (tw1 c q) j) 0 = ⟨0, dlI (tw1 c q) (j + 1)⟩ from res_eta (hq5 j hj).2] at hT
          refine D ?_
          refine kR hT ?_
          refine D ?_
          refine cF ?_
          refine D ?_
          refine lp_next (j+1) [(241665,315393),(241666,315394),(241667,315395),(241668,315396)] ?_ ?_ ?_
          · simp only [go_sem, hA] <;> and_intros <;> first | with_reducible exact rfl | (first | omega | exact rfl | (simp; done))
          · omega
          · omega
        · skip
          have hje : j = 2 * (c.nodes.length - 1) := by
            refine Classical.byContradiction fun e => ?_
            have h0 := (hq5 j (by omega)).1
            have h1 : (j : Int) < 60 := by omega
            have h2 : (0 : Int) < ((dlI (tw1 c q) j).mails.length : Int) := by omega
            rw [decide_eq_true h1, decide_eq_true h2] at c6
            cases c6
          subst hje
          rw [hq6] at *
          have hCq := hq4.l.cf
          refine D ?_
          refine kR (s_impl_LeaderOf (rdI (rsI c) (q + 1)) hCq) ?_
          refine D ?_
          refine cC (fun c8 => ?_) (fun c8 => ?_)
          · skip
            have hqr : q = r := by
              refine Classical.byContradiction fun e => ?_
              rw [lead_no (R.no (q + 1) (by omega))] at c8
              cases c8
            subst hqr
            refine D ?_
            exact E trivial
          · skip
            have hqr : q < r := by
              refine Nat.lt_of_le_of_ne hqI fun e => c8 ?_
              subst e
              exact lead_code.2 R.le
            refine D ?_
            refine lp_next (q+1) [(28673,241665),(28674,241666),(28675,241667),(28676,241668)] ?_ ?_ ?_
            · simp only [go_sem, hA] <;> and_intros <;> first | with_reducible exact rfl | (first | omega | exact rfl | (simp; done))
            · omega
            · omega
      · skip
        exfalso
        omega
theorem s_impl_AgreedOf (x : Cluster) (C : CF x) : SemX prog 15 [aS (eCluster false x)] [] [.agg (eEntriesResult true ⟨0, sealedE x⟩)] [] := by
 refine goF [] [] [] func15 ?_
 have hx : limC 2097152 x := cf_lim2 C
 obtain ⟨⟨hn, hN⟩, ⟨hm, hM⟩, hw, hs⟩ := id hx
 have hcz := cf_zero C
 have hsl := sealed_len x
 have hA := hcz
 refine D ?_
 refine kR (s_impl_ClusterFault x hx) ?_
 refine D ?_
 refine cF ?_
 refine D ?_
 refine kR (s_impl_Cluster_sealed x hs) ?_
 refine D ?_
 exact E trivial
theorem s_spec_l1In (a b c : Int) : SemX prog 132 [.one (.t (.int .i64 a)), .one (.t (.int .i64 b)), .one (.t (.int .i64 c))] [] [.one (.bool (inR a b c))] [] := by
 refine goF [] [] [] func132 ?_
 refine D ?_
 refine E ?_
 first
 | exact trivial
 | simp only [go_sem, inR]; done
 | try simp only [go_sem, inR]
   exact rfl
theorem s_spec_LastOf (xs : List Entry) (hl : xs.length ≤ 9223372036854775807) : SemX prog 138 [aT (.sl false 9 (xs.map eEntry))] [] [.agg (eEntry (lastE xs))] [] := by
 refine goF [] [] [] func138 ?_
 refine D ?_
 refine cC (fun c0 => ?_) (fun c0 => ?_)
 · skip
   refine D ?_
   refine E ?_
   have he : lastE xs = zEntry := by simp only [lastE]; rw [if_pos (by omega)]
   simp [he, zEntry, zCmd]
 · skip
   refine D ?_
   refine E ?_
   have he : lastE xs = xs.getD (xs.length - 1) zEntry := by simp only [lastE]; rw [if_neg (by omega)]
   simp [he]
theorem s_spec_l8Id (x : Node) (i : Int) : SemX prog 150 [aT (.ptr (eNode false x)), aI i] [] [rB (isId x i)] [] := by
 refine goF [] [] [] func150 ?_
 refine D ?_
 refine kR (s_spec_l1In i 0 (IntKind.wrap .i64 (x.peers - 1))) ?_
 refine D ?_
 refine E ?_
 first
 | exact trivial
 | simp only [go_sem, isId]
theorem s_spec_l5Needs (k : Int) : SemX prog 174 [aI k] [] [rB (nd1 k), rB (nd2 k), rB (nd3 k), rB (nd4 k)] [] := by
 refine goF [] [] [] func174 ?_
 refine D ?_
 refine kR (s_spec_l1In k 5 8) ?_
 refine D ?_
 refine E ?_
 first
 | exact trivial
 | simp only [go_sem, nd1, nd2, nd3, nd4, rB]; done
 | try simp only [go_sem, nd1, nd2, nd3, nd4, rB]
   simp
   rw [Bool.eq_iff_iff]
   simp [inR]
   omega
theorem s_spec_l5Version (n : Int) : SemX prog 175 [aI n] [] [rB (inR n 0 1000000)] [] := by
 refine goF [] [] [] func175 ?_
 refine D ?_
 refine kR (s_spec_l1In n 0 1000000) ?_
 refine D ?_
 exact E trivial
theorem s_spec_l3Name (n : Int) : SemX prog 176 [aI n] [] [rB (inR n 1 999)] [] := by
 refine goF [] [] [] func176 ?_
 refine D ?_
 refine kR (s_spec_l1In n 1 999) ?_
 refine D ?_
 exact E trivial
theorem s_spec_l2Address (n : Int) : SemX prog 177 [aI n] [] [rB (inR n 0 4294967295)] [] := by
 refine goF [] [] [] func177 ?_
 refine D ?_
 refine kR (s_spec_l1In n 0 4294967295) ?_
 refine D ?_
 exact E trivial
theorem s_spec_l2Port (n : Int) : SemX prog 187 [aI n] [] [rB (inR n 0 65535)] [] := by
 refine goF [] [] [] func187 ?_
 refine D ?_
 refine kR (s_spec_l1In n 0 65535) ?_
 refine D ?_
 exact E trivial
theorem s_spec_l5Number (x : Cmd) : SemX prog 178 [aS (eCmd x)] [] [rB (isNum x)] [] := by
 refine goF [] [] [] func178 ?_
 refine D ?_
 refine cC (fun c0 => ?_) (fun c0 => ?_)
 · skip
   refine D ?_
   refine cC (fun c1 => ?_) (fun c1 => ?_)
   · skip
     refine D ?_
     refine kR (s_spec_l1In _ _ _) ?_
     refine D ?_
     refine E ?_
     first
     | exact trivial
     | simp only [go_sem, isNum]; done
     | try simp only [go_sem, isNum]
       first | (exfalso; omega) | (simp [*]; done)
   · skip
     refine D ?_
     refine cC (fun c2 => ?_) (fun c2 => ?_)
     · skip
       refine D ?_
       refine kR (s_spec_l1In _ _ _) ?_
       refine D ?_
       refine E ?_
       first
       | exact trivial
       | simp only [go_sem, isNum]; done
       | try simp only [go_sem, isNum]
         first | (exfalso; omega) | (simp [*]; done)
     · skip
       refine D ?_
       refine cC (fun c3 => ?_) (fun c3 => ?_)
       · skip
         refine D ?_
         refine kR (s_spec_l1In _ _ _) ?_
         refine D ?_
         refine E ?_
         first
         | exact trivial
         | simp only [go_sem, isNum]; done
         | try simp only [go_sem, isNum]
           first | (exfalso; omega) | (simp [*]; done)
       · skip
         refine D ?_
         refine kR (s_spec_l2Port _) ?_
         refine D ?_
         refine E ?_
         first
         | exact trivial
         | simp only [go_sem, isNum]; done
         | try simp only [go_sem, isNum]
           first | (exfalso; omega) | (simp [*]; done)
 · skip
   refine D ?_
   refine cC (fun c1 => ?_) (fun c1 => ?_)
   · skip
     refine D ?_
     refine kR (s_spec_l1In _ _ _) ?_
     refine D ?_
     refine E ?_
     first
     | exact trivial
     | simp only [go_sem, isNum]; done
     | try simp only [go_sem, isNum]
       first | (exfalso; omega) | (simp [*]; done)
   · skip
     refine D ?_
     refine cC (fun c2 => ?_) (fun c2 => ?_)
     · skip
       refine D ?_
       refine kR (s_spec_l1In _ _ _) ?_
       refine D ?_
       refine E ?_
       first
       | exact trivial
       | simp only [go_sem, isNum]; done
       | try simp only [go_sem, isNum]
         first | (exfalso; omega) | (simp [*]; done)
     · skip
       refine D ?_
       refine cC (fun c3 => ?_) (fun c3 => ?_)
       · skip
         refine D ?_
         refine kR (s_spec_l1In _ _ _) ?_
         refine D ?_
         refine E ?_
         first
         | exact trivial
         | simp only [go_sem, isNum]; done
         | try simp only [go_sem, isNum]
           first | (exfalso; omega) | (simp [*]; done)
       · skip
         refine D ?_
         refine kR (s_spec_l2Port _) ?_
         refine D ?_
         refine E ?_
         first
         | exact trivial
         | simp only [go_sem, isNum]; done
         | try simp only [go_sem, isNum]
           first | (exfalso; omega) | (simp [*]; done)
theorem s_spec_l5Proto (n : Int) : SemX prog 179 [aI n] [] [rB (isPro n)] [] := by
 refine goF [] [] [] func179 ?_
 refine D ?_
 refine E ?_
 first
 | exact trivial
 | simp only [go_sem, isPro]; done
 | try simp only [go_sem, isPro]
   cases decide (n = 6) <;> rfl
section
attribute [local go_sem] exp_eq
theorem s_spec_CmdFault (x : Cmd) : SemX prog 161 [aS (eCmd x)] [] [rI (cmdFault x)] [] := by
 refine goF [] [] [] func161 ?_
 refine D ?_
 refine kR (s_spec_l1In _ _ _) ?_
 refine D ?_
 refine cC (fun c0 => ?_) (fun c0 => ?_)
 · skip
   refine D ?_
   refine E ?_
   first
   | exact trivial
   | simp only [go_sem, cmdFault]; done
   | try simp only [go_sem, cmdFault]
     grind
 · skip
   refine D ?_
   refine kR (s_spec_l5Needs _) ?_
   refine D ?_
   refine kRg (s_spec_l5Version _) ?_
   refine D ?_
   refine kRg (s_spec_l3Name _) ?_
   refine D ?_
   refine kRg (s_spec_l2Address _) ?_
   refine D ?_
   refine kRg (s_spec_l5Number _) ?_
   refine D ?_
   refine kRg (s_spec_l5Proto _) ?_
   refine D ?_
   refine cC (fun c1 => ?_) (fun c1 => ?_)
   · skip
     refine D ?_
     refine E ?_
     first
     | exact trivial
     | simp only [go_sem, cmdFault]; done
     | try simp only [go_sem, cmdFault]
       grind
   · skip
     refine D ?_
     refine cC (fun c2 => ?_) (fun c2 => ?_)
     · skip
       refine D ?_
       refine E ?_
       first
       | exact trivial
       | simp only [go_sem, cmdFault]; done
       | try simp only [go_sem, cmdFault]
         grind
     · skip
       refine D ?_
       refine E ?_
       first
       | exact trivial
       | simp only [go_sem, cmdFault]; done
       | try simp only [go_sem, cmdFault]
         grind
end
theorem s_spec_EntryFault (x : Entry) : SemX prog 121 [aS (eEntry x)] [] [rI (entryFault x)] [] := by
 refine goF [] [] [] func121 ?_
 refine D ?_
 refine kR (s_spec_l1In _ _ _) ?_
 refine D ?_
 refine kRg (s_spec_l1In _ _ _) ?_
 refine D ?_
 refine kRg (s_spec_l1In _ _ _) ?_
 refine D ?_
 refine cC (fun c0 => ?_) (fun c0 => ?_)
 · skip
   refine D ?_
   refine E ?_
   first
   | exact trivial
   | simp only [go_sem, entryFault]; done
   | try simp only [go_sem, entryFault]
     simp only [entryFault, cmdZero]
     grind
 · skip
   refine D ?_
   refine cC (fun c1 => ?_) (fun c1 => ?_)
   · skip
     refine D ?_
     refine E ?_
     first
     | exact trivial
     | simp only [go_sem, entryFault]; done
     | try simp only [go_sem, entryFault]
       simp only [entryFault, cmdZero]
       grind
   · skip
     refine D ?_
     refine cC (fun c2 => ?_) (fun c2 => ?_)
     · skip
       refine D ?_
       refine kR (s_spec_CmdFault _) ?_
       refine D ?_
       refine E ?_
       first
       | exact trivial
       | simp only [go_sem, entryFault]; done
       | try simp only [go_sem, entryFault]
         simp only [entryFault, cmdZero]
         grind
     · skip
       refine D ?_
       refine cC (fun c3 => ?_) (fun c3 => ?_)
       · skip
         refine D ?_
         refine E ?_
         first
         | exact trivial
         | simp only [go_sem, entryFault]; done
         | try simp only [go_sem, entryFault]
           simp only [entryFault, cmdZero]
           grind
       · skip
         refine D ?_
         refine E ?_
         first
         | exact trivial
         | simp only [go_sem, entryFault]; done
         | try simp only [go_sem, entryFault]
           simp only [entryFault, cmdZero]
           grind
theorem s_spec_LogFault (xs : List Entry) (hl : xs.length ≤ 9223372036854775807) : SemX prog 151 [aT (.sl false 9 (xs.map eEntry))] [] [rI (logFault xs)] [] := by
 refine goF [] [] [] func151 ?_
 refine D ?_
 refine cC (fun c0 => ?_) (fun c0 => ?_)
 · skip
   refine D ?_
   refine E ?_
   rw [logFault, if_pos (by omega)]
 · skip
   refine D ?_
   refine L (α := Nat) (fun x => [(3, .int .i64 x)]) (fun x => []) (fun x => xs.length - x) (fun x => x ≤ xs.length ∧ logFault xs = scan (logBad xs) xs.length x) 0 [] (fun x hL => ?_) (hi := by exact ⟨Nat.zero_le _, by simp only [logFault]; rw [if_neg (by omega)]⟩)
   obtain ⟨hI, he⟩ := hL
   refine D ?_
   refine cC (fun c1 => ?_) (fun c1 => ?_)
   · skip
     refine D ?_
     refine kR (s_spec_EntryFault _) ?_
     refine D ?_
     refine cC (fun c2 => ?_) (fun c2 => ?_)
     · skip
       refine D ?_
       refine E ?_
       first
       | exact trivial
       | rw [he, scan_lt (by omega)]
         simp only [logBad]
         grind
     · skip
       refine D ?_
       refine cC (fun c3 => ?_) (fun c3 => ?_)
       · skip
         refine D ?_
         refine E ?_
         first
         | exact trivial
         | rw [he, scan_lt (by omega)]
           simp only [logBad]
           grind
       · skip
         refine D ?_
         refine N (x+1) [] (hi := ?_) (hm := ?_)
         · refine ⟨by omega, ?_⟩
           rw [he, scan_lt (by omega)]
           simp only [logBad]
           grind
         · omega
   · skip
     obtain rfl : x = xs.length := by omega
     refine D ?_
     refine E ?_
     rw [he, scan_ge (by omega)]
theorem s_spec_l8Rises (xs : List Int) (hl : xs.length ≤ 2097152) : SemX prog 173 [aT (.sl false 1 (xs.map eI_i64))] [] [rB (decide (rises xs))] [] := by
 refine goF [] [] [] func173 ?_
 refine D ?_
 refine L (α := Nat) (fun x => [(3, .int .i64 (x + 1 : Nat))]) (fun x => []) (fun x => xs.length + 1 - x) (fun x => (x = 0 ∨ x < xs.length) ∧ ∀ i, 0 < i → i ≤ x → xs.getD (i - 1) zI_i64 < xs.getD i zI_i64) 0 [] (fun x hL => ?_) (hi := by exact ⟨.inl rfl, fun i hi h2 => absurd hi (by omega)⟩)
 obtain ⟨hI, hj⟩ := hL
 refine D ?_
 refine cC (fun c0 => ?_) (fun c0 => ?_)
 · skip
   refine D ?_
   refine cC (fun c1 => ?_) (fun c1 => ?_)
   · skip
     refine D ?_
     refine E ?_
     rw [decide_eq_false]
     intro h
     have := h (x + 1) (by omega) (by omega)
     simp only [Nat.add_sub_cancel] at this
     grind
   · skip
     refine D ?_
     refine N (x+1) [] (hi := ?_) (hm := ?_)
     · refine ⟨by omega, fun i hi h2 => ?_⟩
       rcases Nat.lt_or_ge x i with h | h
       · rw [show i = x + 1 by omega]; simp only [Nat.add_sub_cancel]; grind
       · exact hj i hi h
     · omega
 · skip
   refine D ?_
   refine E ?_
   rw [decide_eq_true]
   intro i h1 h2
   exact hj i h1 (by omega)
theorem s_spec_l8Lists (x : Node) (hx : limN 2097152 x) : SemX prog 152 [aT (.ptr (eNode false x))] [] [rB (decide (listsOk x))] [] := by
 refine goF [] [] [] func152 ?_
 obtain ⟨hx1, hx2, hx3, hx4⟩ := id hx
 refine D ?_
 refine kR (s_spec_l8Rises x.votes hx.2.1) ?_
 refine D ?_
 refine cC (fun c0 => ?_) (fun c0 => ?_)
 · skip
   refine D ?_
   refine E ?_
   symm
   rw [decide_eq_false_iff_not]
   unfold listsOk
   grind
 · skip
   refine D ?_
   refine L (α := Nat) (fun i => [(3, .int .i64 i)]) (fun i => []) (fun i => x.votes.length - i) (fun i => i ≤ x.votes.length ∧ ∀ j, j < i → isId x (x.votes.getD j zI_i64) = true) 0 [] (fun i hL => ?_) (hi := by exact ⟨Nat.zero_le _, fun j hj => absurd hj (by omega)⟩)
   obtain ⟨hI, hj⟩ := hL
   refine D ?_
   refine cC (fun c1 => ?_) (fun c1 => ?_)
   · skip
     refine D ?_
     refine kR (s_spec_l8Id x (x.votes.getD i zI_i64)) ?_
     refine D ?_
     refine cC (fun c2 => ?_) (fun c2 => ?_)
     · skip
       refine D ?_
       refine E ?_
       symm
       rw [decide_eq_false_iff_not]
       unfold listsOk idsOk
       grind
     · skip
       refine D ?_
       refine N (i+1) [] (hi := ?_) (hm := ?_)
       · refine ⟨by omega, fun j hj2 => ?_⟩
         rcases Nat.lt_or_ge j i with h | h
         · exact hj j h
         · rw [show j = i by omega]; simpa using c2
       · omega
   · skip
     obtain rfl : i = x.votes.length := by omega
     refine D ?_
     refine cC (fun c3 => ?_) (fun c3 => ?_)
     · skip
       refine D ?_
       refine E ?_
       first
       | exact trivial
       | rw [Bool.eq_iff_iff]
         simp only [listsOk, idsOk, due]
         have hl1 := hx.2.1
         grind
     · skip
       refine D ?_
       refine E ?_
       first
       | exact trivial
       | rw [Bool.eq_iff_iff]
         simp only [listsOk, idsOk, due]
         have hl1 := hx.2.1
         grind
theorem s_spec_l8Fault (x : Node) (hx : limN 2097152 x) : SemX prog 103 [aT (.ptr (eNode false x))] [] [rI (nodeFault x)] [] := by
 refine goF [(204, ⟨some 1, none, none, none⟩)] [] [] func103 ?_
 obtain ⟨hx1, hx2, hx3, hx4⟩ := id hx
 refine D ?_
 refine kD (s_spec_l1In _ _ _) ?_
 refine D ?_
 refine kDg (s_spec_l8Id x x.id) ?_
 refine D ?_
 refine kDg (s_spec_l1In _ _ _) ?_
 refine D ?_
 refine kDg (s_spec_l1In _ _ _) ?_
 refine D ?_
 refine kDg (s_spec_l1In _ _ _) ?_
 refine D ?_
 refine cC (fun c0 => ?_) (fun c0 => ?_)
 · skip
   have hr : nodeRange x = false := by have hv := voted_eq x; unfold nodeRange; grind
   refine D ?_
   refine E ?_
   first
   | exact trivial
   | unfold nodeFault rangeOk
     grind
 · skip
   have hr : nodeRange x = true := by have hv := voted_eq x; unfold nodeRange; grind
   refine D ?_
   refine kR (s_spec_LogFault x.log (by omega)) ?_
   refine D ?_
   refine cC (fun c1 => ?_) (fun c1 => ?_)
   · skip
     refine D ?_
     refine E ?_
     first
     | exact trivial
     | unfold nodeFault rangeOk
       grind
   · skip
     refine D ?_
     refine kD (s_spec_LastOf x.log (by omega)) ?_
     refine D ?_
     refine cC (fun c2 => ?_) (fun c2 => ?_)
     · skip
       refine D ?_
       refine E ?_
       first
       | exact trivial
       | unfold nodeFault rangeOk
         grind
     · skip
       refine D ?_
       refine kR (s_spec_l1In _ _ _) ?_
       refine D ?_
       refine cC (fun c3 => ?_) (fun c3 => ?_)
       · skip
         refine D ?_
         refine E ?_
         first
         | exact trivial
         | unfold nodeFault rangeOk
           grind
       · skip
         refine D ?_
         refine kR (s_spec_l8Lists x hx) ?_
         refine D ?_
         refine cC (fun c4 => ?_) (fun c4 => ?_)
         · skip
           refine D ?_
           refine E ?_
           first
           | exact trivial
           | unfold nodeFault rangeOk
             grind
         · skip
           have hls : listsOk x := by grind
           have hll := listsOk_len hls
           refine D ?_
           refine L (α := Nat) (fun i => [(5, .int .i64 i)]) (fun i => []) (fun i => x.next.length - i) (fun i => i ≤ x.next.length ∧ ∀ j, j < i → inR (x.next.getD j zI_i64) 1 (x.log.length + 1) = true ∧ inR (x.match_.getD j zI_i64) 0 x.log.length = true) 0 [] (fun i hL => ?_) (hi := by exact ⟨Nat.zero_le _, fun j hj => absurd hj (by omega)⟩)
           obtain ⟨hI, hj⟩ := hL
           refine D ?_
           refine cC (fun c5 => ?_) (fun c5 => ?_)
           · skip
             refine D ?_
             refine kR (s_spec_l1In _ _ _) ?_
             refine D ?_
             refine kRg (s_spec_l1In _ _ _) ?_
             refine D ?_
             refine cC (fun c6 => ?_) (fun c6 => ?_)
             · skip
               refine D ?_
               refine E ?_
               first
               | exact trivial
               | unfold nodeFault rangeOk
                 grind
             · skip
               refine D ?_
               refine N (i+1) [] (hi := ?_) (hm := ?_)
               · refine ⟨by omega, fun j hj2 => ?_⟩
                 rcases Nat.lt_or_ge j i with h | h
                 · exact hj j h
                 · rw [show j = i by omega]; grind
               · omega
           · skip
             obtain rfl : i = x.next.length := by omega
             refine D ?_
             refine cC (fun c7 => ?_) (fun c7 => ?_)
             · skip
               refine D ?_
               refine E ?_
               first
               | exact trivial
               | unfold nodeFault rangeOk
                 grind
             · skip
               refine D ?_
               refine E ?_
               first
               | exact trivial
               | unfold nodeFault rangeOk
                 grind
theorem s_spec_l8Zeros (m : Mail) : SemX prog 153 [aS (eMail false m)] [] [rB (decide (mailZeros m))] [] := by
 refine goF [] [] [] func153 ?_
 refine D ?_
 refine cC (fun c0 => ?_) (fun c0 => ?_)
 · skip
   refine D ?_
   refine E ?_
   first
   | exact trivial
   | rw [Bool.eq_iff_iff]
     simp only [decide_eq_true_eq, mailZeros]
     grind
 · skip
   refine D ?_
   refine cC (fun c1 => ?_) (fun c1 => ?_)
   · skip
     refine D ?_
     refine E ?_
     first
     | exact trivial
     | rw [Bool.eq_iff_iff]
       simp only [decide_eq_true_eq, mailZeros]
       grind
   · skip
     refine D ?_
     refine cC (fun c2 => ?_) (fun c2 => ?_)
     · skip
       refine D ?_
       refine E ?_
       first
       | exact trivial
       | rw [Bool.eq_iff_iff]
         simp only [decide_eq_true_eq, mailZeros]
         grind
     · skip
       refine D ?_
       refine E ?_
       first
       | exact trivial
       | rw [Bool.eq_iff_iff]
         simp only [decide_eq_true_eq, mailZeros]
         grind
theorem s_spec_l8Mail (x : Node) (m : Mail) (hm : limM 2097152 m) : SemX prog 104 [aT (.ptr (eNode false x)), aS (eMail false m)] [] [rI (mailFault x m)] [] := by
 refine goF [] [(3, 2, [16384], []), (3, 7, [16384], []), (3, 16, [16384], []), (3, 25, [16384], []), (3, 31, [16384], []), (3, 37, [16384], []), (3, 39, [16384], []), (3, 45, [16384], []), (8, 1, [16384], []), (8, 6, [16384], []), (8, 10, [16384], []), (8, 14, [16384], []), (8, 19, [16384], []), (8, 24, [16384], [])] [] func104 ?_
 have hm1 : m.entries.length ≤ 2097152 := hm
 refine D ?_
 refine kR (s_spec_l1In _ _ _) ?_
 refine D ?_
 refine cC (fun c0 => ?_) (fun c0 => ?_)
 · skip
   refine D ?_
   refine E ?_
   first
   | exact trivial
   | unfold mailFault mailForm
     grind
 · skip
   refine D ?_
   refine kD (s_spec_l8Id x m.from_) ?_
   refine D ?_
   refine kDg (s_spec_l1In _ _ _) ?_
   refine D ?_
   refine kDg (s_spec_l1In _ _ _) ?_
   refine D ?_
   refine kDg (s_spec_l1In _ _ _) ?_
   refine D ?_
   refine kDg (s_spec_l1In _ _ _) ?_
   refine D ?_
   refine cC (fun c1 => ?_) (fun c1 => ?_)
   · skip
     have hr : mailRange x m = false := by unfold mailRange; grind
     refine D ?_
     refine E ?_
     first
     | exact trivial
     | unfold mailFault mailForm
       grind
   · skip
     have hr : mailRange x m = true := by unfold mailRange; grind
     refine D ?_
     refine kR (s_spec_LogFault m.entries (by omega)) ?_
     refine D ?_
     refine cC (fun c2 => ?_) (fun c2 => ?_)
     · skip
       refine D ?_
       refine E ?_
       first
       | exact trivial
       | unfold mailFault mailForm
         grind
     · skip
       refine D ?_
       refine kDg (s_spec_LastOf m.entries (by omega)) ?_
       refine D ?_
       refine cC (fun c3 => ?_) (fun c3 => ?_)
       · skip
         have hl : ¬ mailLog m := by unfold mailLog; grind
         refine D ?_
         refine E ?_
         first
         | exact trivial
         | unfold mailFault mailForm
           grind
       · skip
         have hl : mailLog m := by unfold mailLog; grind
         refine D ?_
         refine kRg (s_spec_l8Zeros m) ?_
         refine D ?_
         refine cC (fun c4 => ?_) (fun c4 => ?_)
         · skip
           refine D ?_
           refine E ?_
           first
           | exact trivial
           | unfold mailFault mailForm
             grind
         · skip
           refine D ?_
           refine E ?_
           first
           | exact trivial
           | unfold mailFault mailForm
             grind
theorem s_spec_l9Place (x : Cluster) (n : Int) (hn : x.nodes.length ≤ 2097152) : SemX prog 118 [aT (.ptr (eCluster false x)), aI n] [] [rB (place x n)] [] := by
 refine goF [(24, ⟨some 1, none, none, none⟩)] [] [] func118 ?_
 refine D ?_
 refine kR (s_spec_l1In n 0 (x.nodes.length - 1)) ?_
 refine D ?_
 refine E ?_
 first
 | exact trivial
 | simp only [go_sem, place]
theorem s_spec_l9Fault (x : Cluster) (hx : limC 2097152 x) : SemX prog 117 [aT (.ptr (eCluster false x))] [] [rI (clusterFault x)] [] := by
 refine goF [] [] [] func117 ?_
 obtain ⟨⟨hn, hN⟩, ⟨hm, hM⟩, hw, hs⟩ := id hx
 refine D ?_
 refine cC (fun c0 => ?_) (fun c0 => ?_)
 · skip
   refine D ?_
   refine E ?_
   first
   | exact trivial
   | unfold clusterFault
     grind
 · skip
   refine D ?_
   refine L (α := Nat) (fun i => [(3, .int .i64 i)]) (fun i => []) (fun i => x.nodes.length - i) (fun i => i ≤ x.nodes.length ∧ scan (nodeAt x) x.nodes.length 0 = scan (nodeAt x) x.nodes.length i) 0 [] (fun i hL => ?_) (hi := by exact ⟨Nat.zero_le _, rfl⟩)
   obtain ⟨hI, he⟩ := hL
   refine D ?_
   refine cC (fun c1 => ?_) (fun c1 => ?_)
   · skip
     have hd := nodeAt_eq x i
     have hst := scan_lt (f := nodeAt x) (show i < x.nodes.length by omega)
     refine D ?_
     refine kR (s_spec_l8Fault (x.nodes.getD i zNode) ((all_getD zNode).2 hN i (by omega))) ?_
     refine D ?_
     refine cC (fun c2 => ?_) (fun c2 => ?_)
     · skip
       refine D ?_
       refine E ?_
       first
       | exact trivial
       | unfold clusterFault
         grind
     · skip
       refine D ?_
       refine cC (fun c3 => ?_) (fun c3 => ?_)
       · skip
         refine D ?_
         refine E ?_
         first
         | exact trivial
         | unfold clusterFault
           grind
       · skip
         refine D ?_
         refine N (i+1) [] (hi := ?_) (hm := ?_)
         · refine ⟨by omega, ?_⟩
           rw [he, scan_lt (by omega), if_pos]
           rw [nodeAt_eq]
           grind
         · omega
   · skip
     have hs0 : scan (nodeAt x) x.nodes.length 0 = 0 := by rw [he, scan_ge (by omega)]
     refine D ?_
     refine L (α := Nat) (fun i => [(5, .int .i64 i)]) (fun i => []) (fun i => x.mails.length - i) (fun i => i ≤ x.mails.length ∧ scan (mailAt x) x.mails.length 0 = scan (mailAt x) x.mails.length i) 0 [] (fun i hL => ?_) (hi := by exact ⟨Nat.zero_le _, rfl⟩)
     obtain ⟨hI, he⟩ := hL
     refine D ?_
     refine cC (fun c4 => ?_) (fun c4 => ?_)
     · skip
       have hd := mailAt_eq x i
       have hst := scan_lt (f := mailAt x) (show i < x.mails.length by omega)
       refine D ?_
       refine kR (s_spec_l9Place x _ hn) ?_
       refine D ?_
       refine cC (fun c5 => ?_) (fun c5 => ?_)
       · skip
         refine D ?_
         refine E ?_
         first
         | exact trivial
         | unfold clusterFault
           grind
       · skip
         have hp : place x (x.mails.getD i zMail).to_ = true := by grind
         have hp2 := place_iff.1 hp
         have hnf := (nodes_ok hs0 (i := (x.mails.getD i zMail).to_.toNat) (by omega)).1
         refine D ?_
         refine kD (s_spec_l8Mail (x.nodes.getD (x.mails.getD i zMail).to_.toNat zNode) (x.mails.getD i zMail) ((all_getD zMail).2 hM i (by omega))) ?_
         refine D ?_
         refine cC (fun c6 => ?_) (fun c6 => ?_)
         · skip
           refine D ?_
           refine E ?_
           first
           | exact trivial
           | unfold clusterFault
             grind
         · skip
           refine D ?_
           refine N (i+1) [] (hi := ?_) (hm := ?_)
           · refine ⟨by omega, ?_⟩
             rw [he, scan_lt (by omega), if_pos]
             rw [mailAt_eq]
             grind
           · omega
     · skip
       have hs1 : scan (mailAt x) x.mails.length 0 = 0 := by rw [he, scan_ge (by omega)]
       refine D ?_
       refine cC (fun c7 => ?_) (fun c7 => ?_)
       · skip
         refine D ?_
         refine E ?_
         first
         | exact trivial
         | unfold clusterFault
           grind
       · skip
         refine D ?_
         refine L (α := Nat) (fun i => [(7, .int .i64 i)]) (fun i => []) (fun i => x.wins.length - i) (fun i => i ≤ x.wins.length ∧ scan (winAt x) x.wins.length 0 = scan (winAt x) x.wins.length i) 0 [] (fun i hL => ?_) (hi := by exact ⟨Nat.zero_le _, rfl⟩)
         obtain ⟨hI, he⟩ := hL
         refine D ?_
         refine cC (fun c8 => ?_) (fun c8 => ?_)
         · skip
           have hd := winAt_eq x i
           have hst := scan_lt (f := winAt x) (show i < x.wins.length by omega)
           refine D ?_
           refine kR (s_spec_l1In _ _ _) ?_
           refine D ?_
           refine kRg (s_spec_l9Place x _ hn) ?_
           refine D ?_
           refine cC (fun c9 => ?_) (fun c9 => ?_)
           · skip
             refine D ?_
             refine E ?_
             first
             | exact trivial
             | unfold clusterFault
               grind
           · skip
             refine D ?_
             refine N (i+1) [] (hi := ?_) (hm := ?_)
             · refine ⟨by omega, ?_⟩
               rw [he, scan_lt (by omega), if_pos]
               rw [winAt_eq]
               grind
             · omega
         · skip
           have hs2 : scan (winAt x) x.wins.length 0 = 0 := by rw [he, scan_ge (by omega)]
           refine D ?_
           refine L (α := Nat) (fun i => [(8, .int .i64 i)]) (fun i => []) (fun i => x.seals.length - i) (fun i => i ≤ x.seals.length ∧ scan (sealAt x) x.seals.length 0 = scan (sealAt x) x.seals.length i) 0 [] (fun i hL => ?_) (hi := by exact ⟨Nat.zero_le _, rfl⟩)
           obtain ⟨hI, he⟩ := hL
           refine D ?_
           refine cC (fun c10 => ?_) (fun c10 => ?_)
           · skip
             have hd := sealAt_eq x i
             have hst := scan_lt (f := sealAt x) (show i < x.seals.length by omega)
             refine D ?_
             refine kR (s_spec_l1In _ _ _) ?_
             refine D ?_
             refine cC (fun c11 => ?_) (fun c11 => ?_)
             · skip
               refine D ?_
               refine E ?_
               first
               | exact trivial
               | unfold clusterFault
                 grind
             · skip
               refine D ?_
               refine kR (s_spec_EntryFault _) ?_
               refine D ?_
               refine cC (fun c12 => ?_) (fun c12 => ?_)
               · skip
                 refine D ?_
                 refine E ?_
                 first
                 | exact trivial
                 | unfold clusterFault
                   grind
               · skip
                 refine D ?_
                 refine N (i+1) [] (hi := ?_) (hm := ?_)
                 · refine ⟨by omega, ?_⟩
                   rw [he, scan_lt (by omega), if_pos]
                   rw [sealAt_eq]
                   grind
                 · omega
           · skip
             have hs3 : scan (sealAt x) x.seals.length 0 = 0 := by rw [he, scan_ge (by omega)]
             refine D ?_
             refine E ?_
             first
             | exact trivial
             | unfold clusterFault
               grind
theorem s_spec_l9Asked (x : Cluster) (hx : limC 2097152 x) (p : Int) : SemX prog 70 [aT (.ptr (eCluster false x)), aI p] [] [rI (nodeGuard x p)] [] := by
 refine goF [] [] [] func70 ?_
 obtain ⟨⟨hn, hN⟩, ⟨hm, hM⟩, hw, hs⟩ := id hx
 refine D ?_
 refine kR (s_spec_l9Fault x hx) ?_
 refine D ?_
 refine cC (fun c0 => ?_) (fun c0 => ?_)
 · skip
   refine D ?_
   refine E ?_
   first
   | exact trivial
   | unfold nodeGuard
     grind
 · skip
   refine D ?_
   refine kR (s_spec_l9Place x p hn) ?_
   refine D ?_
   refine cC (fun c1 => ?_) (fun c1 => ?_)
   · skip
     refine D ?_
     refine E ?_
     first
     | exact trivial
     | unfold nodeGuard
       grind
   · skip
     refine D ?_
     refine E ?_
     first
     | exact trivial
     | unfold nodeGuard
       grind
theorem s_spec_l9Bad (c : Int) : SemX prog 71 [aI c] [] [.agg (eClusterResult true (bad c))] [] := by
 refine goF [] [] [] func71 ?_
 refine D ?_
 refine E ?_
 first
 | exact trivial
 | simp [bad, zCluster]
theorem s_spec_l7Copy (xs : List Entry) (hl : xs.length ≤ 2097152) : SemX prog 154 [.one (.t (.sl false 9 (xs.map eEntry)))] [] [.one (.sl true 9 (xs.map eEntry))] [] := by
 refine goF [] [] [] func154 ?_
 refine D ?_
 exact E trivial
theorem s_spec_l8Copy (x : Node) (hx : limN 2097152 x) : SemX prog 105 [aS (eNode false x)] [] [.agg (eNode true x)] [] := by
 refine goF [] [] [] func105 ?_
 obtain ⟨hx1, hx2, hx3, hx4⟩ := id hx
 refine D ?_
 refine kR (s_spec_l7Copy x.log hx.1) ?_
 refine D ?_
 exact E trivial
theorem s_spec_l9Mails (xs : List Mail) (hl : xs.length ≤ 2097152) (hm : ∀ i < xs.length, (xs.getD i zMail).entries.length ≤ 2097152) : SemX prog 120 [.one (.t (.sl false 9 (xs.map (eMail false))))] [] [.one (.sl true 9 (xs.map (eMail true)))] [] := by
 refine goF [] [] [] func120 ?_
 refine D ?_
 refine L (α := Nat) (fun x => [(3, .ref 28672 0 x), (4, .int .i64 x)]) (fun x => [(28672, .arr ⟨9, (xs.take x).map (eMail true), 1, none⟩)]) (fun x => xs.length - x) (fun x => x ≤ xs.length) 0 [] (fun x hI => ?_)
 refine D ?_
 refine cC (fun c0 => ?_) (fun c0 => ?_)
 · skip
   refine D ?_
   refine kR (s_spec_l7Copy (xs.getD x zMail).entries (hm x (by omega))) ?_
   refine D ?_
   refine lp_next (x+1) [(28672,102400)] ?_ ?_ ?_
   · simp only [go_sem] <;> and_intros <;> first | with_reducible exact rfl | (first | omega | (rw [take_succ_map _ zMail (by omega)]; simp only [eMail]))
   · omega
   · omega
 · skip
   obtain rfl : x = xs.length := by omega
   refine D ?_
   exact E trivial
theorem s_spec_l9Copy (x : Cluster) (hx : limC 2097152 x) : SemX prog 119 [aS (eCluster false x)] [] [.agg (eCluster true x)] [] := by
 refine goF [(34, ⟨some 4, some 69632, some (29, true), none⟩)] [(1, 1, [8192], []), (1, 2, [], [32768]), (1, 3, [], [36864]), (1, 5, [8192], []), (1, 6, [36864], [49152, 36864]), (1, 7, [], [53248]), (1, 9, [8192], []), (1, 10, [53248], [65536, 53248]), (1, 11, [], [69632]), (1, 12, [], [16384]), (1, 13, [16384], [16384]), (5, 1, [16384], []), (5, 3, [8192], []), (5, 7, [], [131076, 131079, 131080, 131081]), (5, 8, [131076, 131079, 131080, 131081], [135168, 131076, 131079, 131080, 131081]), (5, 9, [69632, 135168], [139264, 69632, 135168]), (5, 11, [16384], [16384])] [] func119 ?_
 obtain ⟨⟨hn, hN⟩, ⟨hm, hM⟩, hw, hs⟩ := id hx
 refine D ?_
 refine kD (s_spec_l9Mails x.mails hm ((all_getD zMail).2 hM)) ?_
 refine D ?_
 refine L (α := Nat) (fun i => [(4, .int .i64 i)]) (fun i => [(16384, .var [.ref 69632 0 i, .ref 32768 0 x.mails.length, .ref 49152 0 x.wins.length, .ref 65536 0 x.seals.length]), (69632, .arr ⟨10, (x.nodes.take i).map (eNode true), 1, none⟩)]) (fun i => x.nodes.length - i) (fun i => i ≤ x.nodes.length) 0 [] (fun i hI => ?_)
 refine D ?_
 refine cC (fun c0 => ?_) (fun c0 => ?_)
 · skip
   refine D ?_
   refine kD (s_spec_l8Copy (x.nodes.getD i zNode) ((all_getD zNode).2 hN i (by omega))) ?_
   refine D ?_
   refine lp_next (i+1) [(69632,139264)] ?_ ?_ ?_
   · simp only [go_sem] <;> and_intros <;> first | with_reducible exact rfl | (first | omega | (rw [take_succ_map _ zNode (by omega)]; simp only [eNode]))
   · omega
   · omega
 · skip
   obtain rfl : i = x.nodes.length := by omega
   refine D ?_
   exact E trivial
theorem s_spec_l9Do (x : Cluster) (hx : limC 2097152 x) (i : Nat) (hi : i < x.nodes.length) (r : NodeResult) (hr : limR 2097152 r) (hc : r.node.commit ≤ r.node.log.length) : SemX prog 72 [aS (eCluster false x), aI i, aS (eNodeResult true r)] [] [.agg (eClusterResult true (doR x i r))] [] := by
 refine goF [(59, ⟨some 6, none, none, some [24576]⟩), (166, ⟨some 1, none, none, none⟩)] [(6, 1, [36864], []), (6, 3, [24576], []), (6, 4, [8203], [139264]), (6, 5, [94209, 139264], [143360, 94209, 139264]), (6, 7, [36864], [36864]), (16, 1, [36864], []), (16, 4, [24576], []), (16, 7, [24576], []), (16, 9, [94208], []), (16, 10, [94208], []), (16, 12, [], [393216]), (16, 13, [94211, 393216], [397312, 94211, 393216]), (16, 15, [36864], [36864])] [] func72 ?_
 obtain ⟨⟨hn, hN⟩, ⟨hm, hM⟩, hw, hs⟩ := id hx
 obtain ⟨hrn, hrs, hrm⟩ := id hr
 obtain ⟨hr1, hr2, hr3, hr4⟩ := id hrn
 refine D ?_
 refine cC (fun c0 => ?_) (fun c0 => ?_)
 · skip
   refine D ?_
   refine kR (s_spec_l9Bad r.code) ?_
   refine D ?_
   refine E ?_
   have he : doR x i r = bad r.code := by simp [doR, doOk, c0]
   simp [he, bad, zCluster]
 · skip
   refine D ?_
   refine kR (s_spec_l9Copy x hx) ?_
   refine D ?_
   refine kD (s_spec_l9Mails r.send hrs ((all_getD zMail).2 hrm)) ?_
   refine D ?_
   refine cC (fun c1 => ?_) (fun c1 => ?_)
   · skip
     refine D ?_
     refine kR (s_spec_l9Bad 2) ?_
     refine D ?_
     refine E ?_
     have he : doR x i r = bad 2 := by unfold doR doOk; grind
     simp [he, bad, zCluster]
   · skip
     refine D ?_
     refine cC (fun c2 => ?_) (fun c2 => ?_)
     · skip
       refine D ?_
       refine cC (fun c3 => ?_) (fun c3 => ?_)
       · skip
         refine D ?_
         refine kR (s_spec_l9Bad 2) ?_
         refine D ?_
         refine E ?_
         have he : doR x i r = bad 2 := by unfold doR doOk wonBy; grind
         simp [he, bad, zCluster]
       · skip
         refine D ?_
         refine L (α := Nat) (fun k => [(9, .int .i64 k)]) (fun k => [(36864, .var [.ref 94208 0 x.nodes.length, .ref 143360 0 (x.mails.length + r.send.length), .ref 294912 0 (x.wins.length + 1), .ref 94211 0 k]), (94211, .arr ⟨10, (sealsTo x.seals r.node k).map eSeal, 1, none⟩)]) (fun k => x.seals.length + r.node.log.length - k) (fun k => x.seals.length ≤ k ∧ k ≤ max x.seals.length r.node.commit.toNat) x.seals.length [] (fun k hL => ?_) (by (simp only [go_sem, sealsTo_self x.seals r.node (Nat.le_refl _)] <;> and_intros <;> first | with_reducible exact rfl | omega | grind)) (by exact ⟨Nat.le_refl _, Nat.le_max_left _ _⟩)
         obtain ⟨hk1, hk2⟩ := hL
         have hL := sealsTo_len' x.seals r.node hk1 (by omega)
         have hT : List.take k ((sealsTo x.seals r.node k).map eSeal) = (sealsTo x.seals r.node k).map eSeal := List.take_of_length_le (by simp [hL])
         have hA := And.intro hL (hT)
         refine D ?_
         refine cC (fun c4 => ?_) (fun c4 => ?_)
         · skip
           refine D ?_
           refine lp_next (k+1) [(94211,397312)] ?_ ?_ ?_
           · simp only [go_sem, hA] <;> and_intros <;> first | with_reducible exact rfl | (first | omega | (rw [sealsTo_succ x.seals r.node hk1 (by omega)]; simp [eSeal]))
           · omega
           · omega
         · skip
           refine D ?_
           refine E ?_
           have hw2 : wonBy x i r.node = true := by unfold wonBy; grind
           have he : doR x i r = ⟨0, doC x i r⟩ := by unfold doR doOk; grind
           have hse := sealsTo_end x.seals r.node hk1 hk2 (by omega) hc
           simp [he, doC, doWins, hw2, hse, eNode, eWon, List.map_set, List.take_of_length_le]
     · skip
       refine D ?_
       refine L (α := Nat) (fun k => [(9, .int .i64 k)]) (fun k => [(36864, .var [.ref 94208 0 x.nodes.length, .ref 143360 0 (x.mails.length + r.send.length), .ref 94210 0 x.wins.length, .ref 94211 0 k]), (94211, .arr ⟨10, (sealsTo x.seals r.node k).map eSeal, 1, none⟩)]) (fun k => x.seals.length + r.node.log.length - k) (fun k => x.seals.length ≤ k ∧ k ≤ max x.seals.length r.node.commit.toNat) x.seals.length [] (fun k hL => ?_) (by (simp only [go_sem, sealsTo_self x.seals r.node (Nat.le_refl _)] <;> and_intros <;> first | with_reducible exact rfl | omega | grind)) (by exact ⟨Nat.le_refl _, Nat.le_max_left _ _⟩)
       obtain ⟨hk1, hk2⟩ := hL
       have hL := sealsTo_len' x.seals r.node hk1 (by omega)
       have hT : List.take k ((sealsTo x.seals r.node k).map eSeal) = (sealsTo x.seals r.node k).map eSeal := List.take_of_length_le (by simp [hL])
       have hA := And.intro hL (hT)
       refine D ?_
       refine cC (fun c4 => ?_) (fun c4 => ?_)
       · skip
         refine D ?_
         refine lp_next (k+1) [(94211,397312)] ?_ ?_ ?_
         · simp only [go_sem, hA] <;> and_intros <;> first | with_reducible exact rfl | (first | omega | (rw [sealsTo_succ x.seals r.node hk1 (by omega)]; simp [eSeal]))
         · omega
         · omega
       · skip
         refine D ?_
         refine E ?_
         have hw2 : wonBy x i r.node = false := by unfold wonBy; grind
         have he : doR x i r = ⟨0, doC x i r⟩ := by unfold doR doOk; grind
         have hse := sealsTo_end x.seals r.node hk1 hk2 (by omega) hc
         simp [he, doC, doWins, hw2, hse, eNode, eWon, List.map_set, List.take_of_length_le]
theorem s_spec_l8Bad (c : Int) : SemX prog 54 [aI c] [] [.agg (eNodeResult true (badN c))] [] := by
 refine goF [] [] [] func54 ?_
 refine D ?_
 refine E ?_
 first
 | exact trivial
 | simp [badN, zNode]
theorem s_spec_l8Quorum (x : Node) (c : Int) (h0 : 0 ≤ c) (h1 : c ≤ 4194304) : SemX prog 109 [aT (.ptr (eNode false x)), aI c] [] [rB (quor x c)] [] := by
 refine goF [(14, ⟨some 1, none, none, none⟩)] [] [] func109 ?_
 refine D ?_
 refine E ?_
 first
 | exact trivial
 | simp only [go_sem, quor]
theorem s_spec_l8Agree (x : Node) (hx : limN 2097152 x) (h0 : 0 ≤ x.commit) (h1 : x.commit ≤ x.log.length) (c : Int) (S : List (List T)) : SemX prog 122 [.one (.ptr 0 1)] [.var (.int .i64 c :: eNode true x ++ [.sl true 9 S])] [] [.var (.int .i64 c :: eNode true (agreed x) ++ [.sl true 9 S])] := by
 refine goF [(36, ⟨some 1, none, none, none⟩), (76, ⟨some 1, none, none, none⟩), (96, ⟨some 1, none, none, none⟩)] [(9, 2, [1000000, 1000006, 1000009, 1000010, 1000011, 1000012], []), (9, 7, [1000000], []), (9, 10, [1000006], []), (9, 12, [1000006], []), (9, 16, [1000000], [])] [] func122 ?_
 obtain ⟨hx1, hx2, hx3, hx4⟩ := id hx
 refine D ?_
 refine L (α := Nat) (fun n => [(2, .int .i64 n)]) (fun n => []) (fun n => n) (fun n => n ≤ x.log.length ∧ x.commit ≤ n ∧ agI x = agN x x.commit.toNat n) x.log.length [] (fun n hL => ?_) (hi := by exact ⟨Nat.le_refl _, h1, rfl⟩)
 obtain ⟨hn, hc, ha⟩ := hL
 refine D ?_
 refine cC (fun c0 => ?_) (fun c0 => ?_)
 · skip
   refine D ?_
   refine L (α := Nat) (fun j => [(3, .int .i64 (cntGe (x.match_.take j) n)), (4, .int .i64 j)]) (fun j => []) (fun j => x.match_.length - j) (fun j => j ≤ x.match_.length) 0 [] (fun j hL => ?_) (by (simp only [go_sem] <;> and_intros <;> first | with_reducible exact rfl | (simp [cntGe]; done) | omega))
   obtain hj := hL
   have hcb := cntGe_take_le x.match_ n j
   refine D ?_
   refine cC (fun c1 => ?_) (fun c1 => ?_)
   · skip
     refine D ?_
     refine cC (fun c2 => ?_) (fun c2 => ?_)
     · skip
       refine D ?_
       refine lp_next (j+1) [] ?_ ?_ ?_
       · simp only [go_sem] <;> and_intros <;> first | with_reducible exact rfl | (first | omega | (refine int_eq ?_; rw [cntGe_succ (by omega)]; first | (rw [if_pos (by assumption)]; omega) | (rw [if_neg (by assumption)]; omega)))
       · omega
       · omega
     · skip
       refine D ?_
       refine lp_next (j+1) [] ?_ ?_ ?_
       · simp only [go_sem] <;> and_intros <;> first | with_reducible exact rfl | (first | omega | (refine int_eq ?_; rw [cntGe_succ (by omega)]; first | (rw [if_pos (by assumption)]; omega) | (rw [if_neg (by assumption)]; omega)))
       · omega
       · omega
   · skip
     obtain rfl : j = x.match_.length := by omega
     refine D ?_
     refine kD (s_spec_l8Quorum x (cntGe x.match_ n) (by omega) (by have := cntGe_le x.match_ n; omega)) ?_
     refine D ?_
     refine cC (fun c3 => ?_) (fun c3 => ?_)
     · skip
       refine D ?_
       refine E ?_
       have e : agI x = n := by rw [ha, agN_ok x (by omega) (by unfold agOk; simp_all)]
       simp only [agreed, e]
     · skip
       refine D ?_
       refine lp_next (n - 1) [] ?_ ?_ ?_
       · simp only [go_sem] <;> and_intros <;> first | with_reducible exact rfl | (first | omega | (refine int_eq ?_; omega))
       · refine ⟨by omega, by omega, ?_⟩
         rw [ha, agN_no x (by omega) (by unfold agOk; simp_all)]
       · omega
 · skip
   have hn2 : (n : Int) = x.commit := by omega
   refine D ?_
   refine E ?_
   have e : agI x = x.commit := by rw [ha, agN_le x (c := x.commit.toNat) (n := n) (by omega)]; omega
   simp only [agreed, e]
theorem s_spec_l8Agree_N (x : Node) (hx : limN 2097152 x) (h0 : 0 ≤ x.commit) (h1 : x.commit ≤ x.log.length) (c : Int) : SemX prog 122 [.one (.ptr 0 1)] [.var (.int .i64 c :: eNode true x ++ [.nl])] [] [.var (.int .i64 c :: eNode true (agreed x) ++ [.nl])] := by
 refine goF [(36, ⟨some 1, none, none, none⟩), (76, ⟨some 1, none, none, none⟩), (96, ⟨some 1, none, none, none⟩)] [(9, 2, [1000000, 1000006, 1000009, 1000010, 1000011], []), (9, 7, [1000000], []), (9, 10, [1000006], []), (9, 12, [1000006], []), (9, 16, [1000000], [])] [] func122 ?_
 obtain ⟨hx1, hx2, hx3, hx4⟩ := id hx
 refine D ?_
 refine L (α := Nat) (fun n => [(2, .int .i64 n)]) (fun n => []) (fun n => n) (fun n => n ≤ x.log.length ∧ x.commit ≤ n ∧ agI x = agN x x.commit.toNat n) x.log.length [] (fun n hL => ?_) (hi := by exact ⟨Nat.le_refl _, h1, rfl⟩)
 obtain ⟨hn, hc, ha⟩ := hL
 refine D ?_
 refine cC (fun c0 => ?_) (fun c0 => ?_)
 · skip
   refine D ?_
   refine L (α := Nat) (fun j => [(3, .int .i64 (cntGe (x.match_.take j) n)), (4, .int .i64 j)]) (fun j => []) (fun j => x.match_.length - j) (fun j => j ≤ x.match_.length) 0 [] (fun j hL => ?_) (by (simp only [go_sem] <;> and_intros <;> first | with_reducible exact rfl | (simp [cntGe]; done) | omega))
   obtain hj := hL
   have hcb := cntGe_take_le x.match_ n j
   refine D ?_
   refine cC (fun c1 => ?_) (fun c1 => ?_)
   · skip
     refine D ?_
     refine cC (fun c2 => ?_) (fun c2 => ?_)
     · skip
       refine D ?_
       refine lp_next (j+1) [] ?_ ?_ ?_
       · simp only [go_sem] <;> and_intros <;> first | with_reducible exact rfl | (first | omega | (refine int_eq ?_; rw [cntGe_succ (by omega)]; first | (rw [if_pos (by assumption)]; omega) | (rw [if_neg (by assumption)]; omega)))
       · omega
       · omega
     · skip
       refine D ?_
       refine lp_next (j+1) [] ?_ ?_ ?_
       · simp only [go_sem] <;> and_intros <;> first | with_reducible exact rfl | (first | omega | (refine int_eq ?_; rw [cntGe_succ (by omega)]; first | (rw [if_pos (by assumption)]; omega) | (rw [if_neg (by assumption)]; omega)))
       · omega
       · omega
   · skip
     obtain rfl : j = x.match_.length := by omega
     refine D ?_
     refine kD (s_spec_l8Quorum x (cntGe x.match_ n) (by omega) (by have := cntGe_le x.match_ n; omega)) ?_
     refine D ?_
     refine cC (fun c3 => ?_) (fun c3 => ?_)
     · skip
       refine D ?_
       refine E ?_
       have e : agI x = n := by rw [ha, agN_ok x (by omega) (by unfold agOk; simp_all)]
       simp only [agreed, e]
     · skip
       refine D ?_
       refine lp_next (n - 1) [] ?_ ?_ ?_
       · simp only [go_sem] <;> and_intros <;> first | with_reducible exact rfl | (first | omega | (refine int_eq ?_; omega))
       · refine ⟨by omega, by omega, ?_⟩
         rw [ha, agN_no x (by omega) (by unfold agOk; simp_all)]
       · omega
 · skip
   have hn2 : (n : Int) = x.commit := by omega
   refine D ?_
   refine E ?_
   have e : agI x = x.commit := by rw [ha, agN_le x (c := x.commit.toNat) (n := n) (by omega)]; omega
   simp only [agreed, e]
section
attribute [local go_sem] asked set_map_I app_map_E
theorem s_spec_AskNode (x : Node) (hx2 : limN 2097152 x) (e : Entry) : SemX prog 73 [aS (eNode false x), aS (eEntry e)] [] [.agg (eNodeResult true (askNode x e))] [] := by
 refine goF [(154, ⟨some 1, none, none, none⟩)] [(15, 4, [32768], []), (15, 5, [16384], []), (15, 6, [], [188416]), (15, 7, [151556, 188416], [192512, 151556, 188416]), (15, 10, [32768], [32768]), (16, 3, [32768], []), (16, 7, [32768], []), (16, 11, [32768], []), (16, 13, [151561], []), (16, 14, [151561], [151561]), (17, 3, [32768], []), (17, 7, [32768], []), (17, 11, [32768], []), (17, 14, [151560], []), (17, 15, [151560], [151560])] [] func73 ?_
 obtain ⟨hx3, hx4, hx5, hx6⟩ := id hx2
 refine D ?_
 refine kR (s_spec_l8Fault x hx2) ?_
 refine D ?_
 refine cC (fun c0 => ?_) (fun c0 => ?_)
 · skip
   refine D ?_
   refine kR (s_spec_l8Bad (nodeFault x)) ?_
   refine D ?_
   refine E ?_
   have he : askNode x e = badN (nodeFault x) := by unfold askNode; grind
   simp [he, badN, zNode, asked]
 · skip
   refine D ?_
   refine cC (fun c1 => ?_) (fun c1 => ?_)
   · skip
     refine D ?_
     refine kR (s_spec_l8Bad 10) ?_
     refine D ?_
     refine E ?_
     have he : askNode x e = badN 10 := by unfold askNode; grind
     simp [he, badN, zNode, asked]
   · skip
     refine D ?_
     refine kR (s_spec_EntryFault e) ?_
     refine D ?_
     refine cC (fun c2 => ?_) (fun c2 => ?_)
     · skip
       refine D ?_
       refine kR (s_spec_l8Bad (entryFault e)) ?_
       refine D ?_
       refine E ?_
       have he : askNode x e = badN (entryFault e) := by unfold askNode; grind
       simp [he, badN, zNode, asked]
     · skip
       refine D ?_
       refine cC (fun c3 => ?_) (fun c3 => ?_)
       · skip
         refine D ?_
         refine kR (s_spec_l8Bad 1) ?_
         refine D ?_
         refine E ?_
         have he : askNode x e = badN 1 := by unfold askNode; grind
         simp [he, badN, zNode, asked]
       · skip
         refine D ?_
         refine cC (fun c4 => ?_) (fun c4 => ?_)
         · skip
           refine D ?_
           refine kR (s_spec_l8Bad 2) ?_
           refine D ?_
           refine E ?_
           have he : askNode x e = badN 2 := by unfold askNode; grind
           simp [he, badN, zNode, asked]
         · skip
           obtain ⟨⟨p1, p2, p3, p4, p5, p6, p7, p8⟩, p9, _, ⟨p10, p11⟩, _⟩ := node_ok (x := x) (by omega)
           obtain ⟨l1, l2⟩ := node_lead (x := x) (by omega) (by omega)
           have l3 := log_le p9
           refine D ?_
           refine kR (s_spec_l8Copy x hx2) ?_
           refine D ?_
           refine kRk [32768] [] [192512, 151559, 151560, 151561] (s_spec_l8Agree (asked x e) ⟨by simp [asked]; omega, by simpa [asked] using hx2.2.1, by simpa [asked] using hx2.2.2.1, by simpa [asked] using hx2.2.2.2⟩ (by simpa [asked] using p10) (by simp [asked]; omega) 0 []) ?_
           refine D ?_
           refine E ?_
           have he : askNode x e = ⟨0, agreed (asked x e), []⟩ := by unfold askNode; grind
           simp [he, badN, zNode, asked]
end
theorem s_spec_AskAt (x : Cluster) (hx : limC 2097152 x) (p : Int) (cl sq : Int) (cm : Cmd) : SemX prog 26 [aS (eCluster false x), aI p, aI cl, aI sq, aS (eCmd cm)] [] [.agg (eClusterResult true (atNode x p (askNode (x.nodes.getD p.toNat zNode) ⟨(x.nodes.getD p.toNat zNode).term, cl, sq, cm⟩)))] [] := by
 refine goF [] [(4, 0, [24576], []), (4, 3, [24576], []), (4, 8, [24576], []), (4, 15, [40960], []), (4, 17, [], [147461, 147464, 147465, 147466, 147467]), (4, 18, [147461, 147464, 147465, 147466, 147467], [147461, 147464, 147465, 147466, 147467, 151553, 151554, 151555, 151556]), (4, 19, [45056], [45056])] [] func26 ?_
 obtain ⟨⟨hn, hN⟩, ⟨hm, hM⟩, hw, hs⟩ := id hx
 refine D ?_
 refine kR (s_spec_l9Asked x hx p) ?_
 refine D ?_
 refine cC (fun c0 => ?_) (fun c0 => ?_)
 · skip
   refine D ?_
   refine kR (s_spec_l9Bad (nodeGuard x p)) ?_
   refine D ?_
   refine E ?_
   have he : atNode x p (askNode (x.nodes.getD p.toNat zNode) ⟨(x.nodes.getD p.toNat zNode).term, cl, sq, cm⟩) = bad (nodeGuard x p) := by unfold atNode; rw [if_pos (by omega)]
   simp [he, bad, zCluster, -List.getD_eq_getElem?_getD]
 · skip
   have c0n : nodeGuard x p = 0 := by omega
   obtain ⟨hcf, n, rfl, hn2⟩ := guardN_iff c0n
   have hln := (all_getD zNode).2 hN n hn2
   refine D ?_
   refine kD (s_spec_AskNode (x.nodes.getD n zNode) hln ⟨(x.nodes.getD n zNode).term, cl, sq, cm⟩) ?_
   refine D ?_
   refine kDk [] [147461, 147464, 147465, 147466, 147467] [] (s_spec_l9Do x hx n hn2 (askNode (x.nodes.getD n zNode) ⟨(x.nodes.getD n zNode).term, cl, sq, cm⟩) (ask_lim (by omega) hln _) (ask_commit _ _)) ?_
   refine D ?_
   refine E ?_
   have he : atNode x n (askNode (x.nodes.getD n zNode) ⟨(x.nodes.getD n zNode).term, cl, sq, cm⟩) = doR x n (askNode (x.nodes.getD n zNode) ⟨(x.nodes.getD n zNode).term, cl, sq, cm⟩) := by unfold atNode; rw [if_neg (by omega)]; rfl
   simp [he, -List.getD_eq_getElem?_getD]
end Go.H
end
section
set_option linter.unusedVariables false
set_option linter.unusedSimpArgs false
namespace Go.H
open Go
theorem dlv0w {x : Cluster} (C : CF x) {m : Mail} {ms : List Mail} {i : Nat} (hm : x.mails = m :: ms) (ht : m.to_ = i) (hc : (hear (x.nodes.getD i zNode) m).code = 0) (hl : ms.length + (hear (x.nodes.getD i zNode) m).send.length ≤ 80) (hw : wonBy { x with mails := ms } i (hear (x.nodes.getD i zNode) m).node = false) :
    deliverMail x 0 = ⟨0, doC { x with mails := ms } i (hear (x.nodes.getD i zNode) m)⟩ := by
  have hm0 : x.mails.getD 0 zMail = m := by rw [hm]; rfl
  have hlen : 0 < x.mails.length := by rw [hm]; simp
  have hg : mailGuard x 0 = 0 := by
    unfold mailGuard
    rw [if_neg (by rw [cf_zero C]; simp), if_neg]
    simp [inR]
    omega
  have hmem : m ∈ x.mails := by rw [hm]; simp
  obtain ⟨a, b⟩ := C.ml m hmem
  have hi : i < x.nodes.length := by omega
  obtain ⟨c1, c2, c3⟩ := C.nd i hi
  have hM : mailFault (x.nodes.getD i zNode) m = 0 := (mf_iff c1.p).2 (by rw [c2, c3]; rw [ht] at b; exact b)
  unfold deliverMail
  rw [if_neg (by omega), show (0 : Int).toNat = 0 from rfl, hm0, ht, Int.toNat_natCast, hearMail_ok (nf_iff.2 c1) hM]
  have hwo : without x 0 = { x with mails := ms } := by unfold without; rw [hm]; rfl
  rw [hwo]
  unfold doR
  rw [if_pos]
  unfold doOk
  simp only [Bool.and_eq_true, decide_eq_true_eq, Bool.or_eq_true, Bool.not_eq_true']
  exact ⟨⟨hc, hl⟩, .inl hw⟩
theorem taken_fine {N : Nat} {g : RGh} (G : GI N g) {v : Nat} {x : Node} {m : Mail} (h : NI N g v x) (n : NF x) (hr : x.role ≠ 2) (ht : m.term = x.term) (hk : m.kind = 3) (M : MI N g m) (hl : (g.ll x.term).length ≤ 40) : takenC x m = 0 := by
  have hxl := n.l.n
  have hxc := n.c
  unfold takenC
  split
  · rfl
  try rw [if_neg hr]
  split
  · rfl
  rename_i _ hf
  have hf : fitsM x.log m.index m.last = true := by simpa using hf
  obtain ⟨f, q, m1, m2, m3, m4, m5, m6, m7⟩ := M.k3 hk
  rw [ht] at m2 m4 m5 m6 m7
  obtain ⟨b1, b2, b3, b4⟩ := G.b _ _ m2
  rw [m3, m6] at hf
  obtain ⟨f1, f2⟩ := fits_take h.lm b4 m4 (by omega) hf
  have hlen : ((g.ll x.term).take q ++ m.entries).length = q + m.entries.length := by rw [List.length_append, take_len m4]
  have hPl := m5.length_le
  have hL : takenL x m = take7 x.log m.entries q := by
    unfold takenL
    rw [m3]
    rfl
  have hcase := take7_lead h.lm b4 m4 f2 f1 m5
  rw [← hL] at hcase
  rcases hcase with ⟨_, c2⟩ | ⟨c1, d, d1, d2⟩
  · rw [c2, if_neg (by omega), if_neg]
    have := common_ge (a := x.log) (b := x.log) (k := x.commit.toNat) (by omega) (by omega) rfl
    omega
  · rw [c1, if_neg (by omega), if_neg]
    have hcd : x.commit ≤ d ∧ x.log.take x.commit.toNat = (g.ll x.term).take x.commit.toNat := by
      rcases h.cm with c | ⟨t, j, e1, e2, e3, e4⟩
      · have : x.commit.toNat = 0 := by omega
        rw [this]
        exact ⟨by omega, by simp⟩
      · have p := leaders_have G e2 e1 (by rw [m2]; simp)
        have e5 := take_of_pre p (k := x.commit.toNat) (by rw [take_len e2.2.2.1]; omega)
        rw [List.take_take, Nat.min_eq_left (by omega)] at e5
        rw [e5] at e4
        refine ⟨?_, e4⟩
        rcases Int.lt_or_le (d : Int) x.commit with e | e
        · exfalso
          rcases d2 with d2 | ⟨_, d2⟩
          · omega
          · exact d2 (congrArg Entry.term (take_getD zEntry e4 (by omega)))
        · exact e
    have := common_ge (a := x.log) (b := (g.ll x.term).take q ++ m.entries) (k := x.commit.toNat) (by omega) (by omega) (by
      rw [hcd.2, take_of_pre m5 (by omega)])
    omega
theorem hear_tk {x : Node} {m : Mail} (hk : m.kind = 3) (ht : m.term ≤ x.term) (hc : takenC x m = 0) : hear x m = ⟨0, takenN x m, [takenM x m]⟩ := by
  unfold hear
  rw [if_neg (by omega), if_neg (by omega), if_pos hk, newer_same' ht, if_neg (by omega)]
theorem hear_td {x : Node} {m : Mail} (hk : m.kind = 4) (ht : m.term ≤ x.term) : hear x m = ⟨0, toldN x m, []⟩ := by
  unfold hear
  rw [if_neg (by omega), if_neg (by omega), if_neg (by omega), newer_same' ht]
theorem takenN_role {x : Node} {m : Mail} (h : x.role ≠ 2) : (takenN x m).role ≠ 2 := by
  unfold takenN
  split
  · exact h
  · split <;> (show (0 : Int) ≠ 2; omega)
theorem wonBy_no {x : Cluster} {i : Nat} {r : Node} (h : r.role ≠ 2) : wonBy x i r = false := by
  unfold wonBy
  simp [h]
theorem wonBy_was {x : Cluster} {i : Nat} {r : Node} (h : (x.nodes.getD i zNode).role = 2) (ht : (x.nodes.getD i zNode).term = r.term) : wonBy x i r = false := by
  unfold wonBy
  simp [h, ht, -List.getD_eq_getElem?_getD]
theorem spread_run {w : Nat} {T : Int} {A : Nat → Mail} (hA : ∀ i, (A i).kind = 3 ∧ (A i).to_ = i ∧ (A i).term = T) : ∀ (R : List Nat) {g : RGh} {x : Cluster} (C : CI g x) {G : List Mail}, R.Nodup → w < x.nodes.length → w ∉ R → (x.nodes.getD w zNode).role = 2 → (x.nodes.getD w zNode).term = T →
    (∀ i ∈ R, i < x.nodes.length ∧ (x.nodes.getD i zNode).role ≠ 2 ∧ (x.nodes.getD i zNode).term = T) → x.mails = R.map A ++ G → R.length + G.length ≤ 80 →
    (∃ g', CI g' (dlI x R.length)) ∧ (dlI x R.length).nodes.length = x.nodes.length ∧ Dls x R.length ∧ (dlI x R.length).mails = G ++ R.map (fun i => takenM (x.nodes.getD i zNode) (A i)) ∧ ∀ i, (dlI x R.length).nodes.getD i zNode = if i ∈ R then takenN (x.nodes.getD i zNode) (A i) else x.nodes.getD i zNode
  | [], g, x, C, G, _, _, _, _, _, _, hm, _ => ⟨⟨g, C⟩, rfl, fun j hj => absurd hj (by simp), by simp [dlI, hm], fun i => by simp [dlI]⟩
  | r :: R, g, x, C, G, hd, hw, hwR, hr2, ht2, hR, hm, hl => by
    rw [List.nodup_cons] at hd
    obtain ⟨a1, a2, a3⟩ := hA r
    obtain ⟨h1, h2, h3⟩ := hR r (by simp)
    have hm' : x.mails = A r :: (R.map A ++ G) := by rw [hm]; rfl
    have hll : (g.ll (x.nodes.getD r zNode).term).length ≤ 40 := by
      rw [h3, ← ht2, ← ((C.ni w hw).r2 hr2).2.1]
      exact (C.f.nd w hw).1.l.n
    have hc := taken_fine C.gi (C.ni r h1) (C.f.nd r h1).1 h2 (a3.trans h3.symm) a1 (C.mi _ (by rw [hm']; simp)) hll
    have hv := hear_tk a1 (by omega) hc
    have he := dlv0w C.f (i := r) hm' a2 (by rw [hv]) (by rw [hv]; simp only [List.length_append, List.length_map, List.length_singleton, List.length_cons, List.length_nil] at hl ⊢; omega) (by rw [hv]; exact wonBy_no (takenN_role h2))
    rw [hv] at he
    have hc0 : (deliverMail x 0).code = 0 := by rw [he]
    obtain ⟨g', _, C'⟩ := ci_deliver C hc0
    have hln : (deliverMail x 0).cluster.nodes.length = x.nodes.length := by rw [he]; simp [doC]
    have hnd : ∀ i, ((deliverMail x 0).cluster.nodes).getD i zNode = if i = r then takenN (x.nodes.getD r zNode) (A r) else x.nodes.getD i zNode := fun i => by
      rw [he]
      exact set_getD h1 _ _
    have hma : (deliverMail x 0).cluster.mails = R.map A ++ (G ++ [takenM (x.nodes.getD r zNode) (A r)]) := by
      rw [he]
      show R.map A ++ G ++ [_] = _
      rw [List.append_assoc]
    have hne : ∀ i ∈ R, i ≠ r := fun i hi e => hd.1 (e ▸ hi)
    have hwr : w ≠ r := fun e => hwR (by simp [e])
    obtain ⟨q0, qn, q1, q2, q3⟩ := spread_run hA R C' hd.2 (by rw [hln]; exact hw) (fun e => hwR (by simp [e])) (by rw [hnd, if_neg hwr]; exact hr2) (by rw [hnd, if_neg hwr]; exact ht2) (fun i hi => by rw [hln, hnd, if_neg (hne i hi)]; exact hR i (by simp [hi])) hma (by simp only [List.length_append, List.length_singleton, List.length_cons, List.length_nil] at hl ⊢; omega)
    rw [List.length_cons]
    refine ⟨by rw [dlI_sh]; exact q0, by rw [dlI_sh]; exact qn.trans hln, dls_cons (by rw [hm']; simp) hc0 q1, ?_, fun i => ?_⟩
    · rw [dlI_sh, q2, List.append_assoc, List.map_cons]
      have : R.map (fun i => takenM ((deliverMail x 0).cluster.nodes.getD i zNode) (A i)) = R.map (fun i => takenM (x.nodes.getD i zNode) (A i)) :=
        List.map_congr_left fun i hi => by rw [hnd, if_neg (hne i hi)]
      rw [this]
      rfl
    · rw [dlI_sh, q3]
      by_cases hi : i ∈ R
      · rw [if_pos hi, if_pos (by simp [hi]), hnd, if_neg (hne i hi)]
      · rw [if_neg hi, hnd]
        by_cases e : i = r
        · subst e; rw [if_pos rfl, if_pos (by simp)]
        · rw [if_neg e, if_neg (by simp [hi, e])]
theorem toldN_same (z : Node) (m : Mail) : (toldN z m).role = z.role ∧ (toldN z m).term = z.term ∧ (toldN z m).log = z.log ∧ (toldN z m).id = z.id ∧ (toldN z m).peers = z.peers := by
  unfold toldN
  split
  · exact ⟨rfl, rfl, rfl, rfl, rfl⟩
  · split <;> exact ⟨rfl, rfl, rfl, rfl, rfl⟩
theorem told_run {w : Nat} {T : Int} : ∀ (Gs : List Mail) {g : RGh} {x : Cluster} (C : CI g x), w < x.nodes.length → (x.nodes.getD w zNode).role = 2 → (x.nodes.getD w zNode).term = T → x.mails = Gs → (∀ m ∈ Gs, m.kind = 4 ∧ m.to_ = w ∧ m.term = T) →
    (∃ g', CI g' (dlI x Gs.length)) ∧ (dlI x Gs.length).nodes.length = x.nodes.length ∧ Dls x Gs.length ∧ (dlI x Gs.length).mails = [] ∧ ∀ i, (dlI x Gs.length).nodes.getD i zNode = if i = w then Gs.foldl toldN (x.nodes.getD w zNode) else x.nodes.getD i zNode
  | [], g, x, C, hw, _, _, hm, _ => ⟨⟨g, C⟩, rfl, fun j hj => absurd hj (by simp), by simp [dlI, hm], fun i => by
      show x.nodes.getD i zNode = _
      split
      · rename_i e; subst e; rfl
      · rfl⟩
  | m :: Gs, g, x, C, hw, hr, ht, hm, hG => by
    obtain ⟨k1, k2, k3⟩ := hG m (by simp)
    have hv := hear_td (x := x.nodes.getD w zNode) k1 (by omega)
    obtain ⟨s1, s2, _⟩ := toldN_same (x.nodes.getD w zNode) m
    have hml := C.f.m
    have he := dlv0w C.f (i := w) hm k2 (by rw [hv]) (by rw [hv]; rw [hm] at hml; simp only [List.length_cons, List.length_nil] at hml ⊢; omega) (by rw [hv]; exact wonBy_was hr s2.symm)
    rw [hv] at he
    have hc : (deliverMail x 0).code = 0 := by rw [he]
    obtain ⟨g', _, C'⟩ := ci_deliver C hc
    have hln : (deliverMail x 0).cluster.nodes.length = x.nodes.length := by rw [he]; simp [doC]
    have hnd : ∀ i, ((deliverMail x 0).cluster.nodes).getD i zNode = if i = w then toldN (x.nodes.getD w zNode) m else x.nodes.getD i zNode := fun i => by
      rw [he]
      exact set_getD hw _ _
    have hma : (deliverMail x 0).cluster.mails = Gs := by
      rw [he]
      show Gs ++ [] = Gs
      rw [List.append_nil]
    obtain ⟨q0, qn, q1, q2, q3⟩ := told_run Gs C' (by rw [hln]; exact hw) (by rw [hnd, if_pos rfl, s1]; exact hr) (by rw [hnd, if_pos rfl, s2]; exact ht) hma (fun m hm => hG m (by simp [hm]))
    rw [List.length_cons]
    refine ⟨by rw [dlI_sh]; exact q0, by rw [dlI_sh]; exact qn.trans hln, dls_cons (by rw [hm]; simp) hc q1, by rw [dlI_sh]; exact q2, fun i => ?_⟩
    rw [dlI_sh, q3, hnd, hnd, if_pos rfl]
    split
    · rfl
    · rfl
def nxt (z : Node) (i : Nat) : Int := z.next.getD i zI_i64
def mtc (z : Node) (i : Nat) : Int := z.match_.getD i zI_i64
def NX (z : Node) : Prop := z.role = 2 → ∀ i : Nat, (i : Int) < z.peers → (i : Int) ≠ z.id → mtc z i + 1 ≤ nxt z i
theorem nx_not {z : Node} (h : z.role ≠ 2) : NX z := fun e => absurd e h
theorem nx_lead {z : Node} (hi : 0 ≤ z.id) (hp : 0 ≤ z.peers) : NX (leadOf z) := by
  intro _ i h1 h2
  have h1 : (i : Int) < z.peers := h1
  have h2 : (i : Int) ≠ z.id := h2
  show ((List.replicate z.peers.toNat (0 : Int)).set z.id.toNat z.log.length).getD i zI_i64 + 1 ≤ (List.replicate z.peers.toNat ((z.log.length : Int) + 1)).getD i zI_i64
  rw [List.getD_eq_getElem?_getD, List.getElem?_set_ne (by omega), List.getD_eq_getElem?_getD, List.getElem?_replicate, List.getElem?_replicate, if_pos (by omega), if_pos (by omega)]
  show (0 : Int) + 1 ≤ (z.log.length : Int) + 1
  omega
theorem set_get {l : List Int} {i j : Nat} {v : Int} (hi : i < l.length) : (l.set i v).getD j zI_i64 = if j = i then v else l.getD j zI_i64 := set_getD hi v zI_i64
theorem nx_told {z : Node} {m : Mail} (n : NF z) (hf : 0 ≤ m.from_ ∧ m.from_ < z.peers) (h : NX z) : NX (toldN z m) := by
  intro hr i h1 h2
  rw [(toldN_same z m).1] at hr
  rw [(toldN_same z m).2.2.2.2] at h1
  rw [(toldN_same z m).2.2.2.1] at h2
  have h0 := h hr i h1 h2
  obtain ⟨n1, n2⟩ := lead_len n hr
  unfold toldN
  split
  · exact h0
  split
  · show (z.match_.set m.from_.toNat (toldT z m)).getD i zI_i64 + 1 ≤ (z.next.set m.from_.toNat (toldT z m + 1)).getD i zI_i64
    rw [set_get (by omega), set_get (by omega)]
    split
    · exact Int.le_refl _
    · exact h0
  · show z.match_.getD i zI_i64 + 1 ≤ (z.next.set m.from_.toNat _).getD i zI_i64
    rw [set_get (by omega)]
    split
    · rename_i e
      rw [e]
      omega
    · exact h0
theorem nx_hear {z : Node} {m : Mail} (n : NF z) (M : MF z.peers z.id m) (h : NX z) (hc : (hear z m).code = 0) : NX (hear z m).node := by
  have hy := nf_newer (m := m) n M.t
  have hyx : NX (newer z m) := by
    unfold newer
    split
    · exact nx_not (by show (0 : Int) ≠ 2; omega)
    · exact h
  obtain ⟨e1, e2, _⟩ := newer_same (x := z) (m := m)
  have hf := M.f
  unfold hear at hc ⊢
  generalize newer z m = y at *
  split at hc
  · rename_i k1
    rw [if_pos k1]
    show NX (votedN y m)
    unfold votedN
    split
    · exact hyx
    · exact hyx
  rename_i k1
  rw [if_neg k1]
  split at hc
  · rename_i k2
    rw [if_pos k2]
    show NX (grantedN y m)
    unfold grantedN
    split
    · rename_i hg
      simp only [Bool.and_eq_true, decide_eq_true_eq] at hg
      split
      · exact nx_lead hy.i.1 (by have := hy.p; show 0 ≤ y.peers; omega)
      · exact nx_not (by show y.role ≠ 2; omega)
    · exact hyx
  rename_i k2
  rw [if_neg k2]
  split at hc
  · rename_i k3
    rw [if_pos k3]
    split at hc
    · rename_i k4; exact absurd hc k4
    rename_i k4
    rw [if_neg k4]
    show NX (takenN y m)
    unfold takenN
    split
    · exact hyx
    · split <;> exact nx_not (by show (0 : Int) ≠ 2; omega)
  · rename_i k3
    rw [if_neg k3]
    exact nx_told hy (by omega) hyx
def NXC (x : Cluster) : Prop := ∀ v, v < x.nodes.length → NX (x.nodes.getD v zNode)
theorem nxc_do {x : Cluster} (h : NXC x) {i : Nat} (hi : i < x.nodes.length) {r : NodeResult} (hr : NX r.node) (ms : List Mail) : NXC (doC { x with mails := ms } i r) := by
  intro v hv
  have hl : (doC { x with mails := ms } i r).nodes.length = x.nodes.length := by simp [doC]
  rw [hl] at hv
  show NX ((x.nodes.set i r.node).getD v zNode)
  rw [set_getD hi]
  split
  · exact hr
  · exact h v hv
theorem nxc_to {x : Cluster} (C : CF x) (h : NXC x) {p : Int} (hc : (lwTo x p).code = 0) : NXC (lwTo x p).cluster := by
  obtain ⟨i, rfl, hi, he, hd, hc⟩ := lwTo_form C hc
  rw [he]
  obtain ⟨n1, n2, n3⟩ := C.nd i hi
  obtain ⟨e1, _⟩ := timeout_nf n1 hc
  refine nxc_do h hi ?_ x.mails
  rw [e1]
  split
  · exact nx_lead n1.i.1 (by have := n1.p; show 0 ≤ (x.nodes.getD i zNode).peers; omega)
  · exact nx_not (by show (1 : Int) ≠ 2; omega)
theorem nxc_dl {x : Cluster} (C : CF x) (h : NXC x) {p : Int} (hc : (deliverMail x p).code = 0) : NXC (deliverMail x p).cluster := by
  obtain ⟨n, i, rfl, hn, hto, hi, hM, hd, hc, he⟩ := deliver_ok C hc
  rw [he]
  exact nxc_do h hi (nx_hear (C.nd i hi).1 hM (h i hi) hc) _
theorem nxc_dls {b : Nat} {x : Cluster} (L : LW b x) (h : NXC x) : ∀ {J : Nat}, Dls x J → NXC (dlI x J)
  | 0, _ => h
  | J + 1, hd => nxc_dl (lw_dl L (J := J) fun j hj => hd j (by omega)).1.cf (nxc_dls L h fun j hj => hd j (by omega)) (hd J (by omega)).2
theorem nxc_rest {b : Nat} {c : Cluster} {r : Nat} (R : RestOk b c r) : ∀ q, q ≤ r + 1 → NXC (rdI (rsI c) q)
  | 0, _ => fun v hv => nx_not ((rs_facts R.l).2.2.2.2 v hv)
  | q + 1, hq => by
    obtain ⟨h1, h2, h3, h4, h5, h6, h7⟩ := rest_round R (q := q) (by omega)
    have ih := nxc_rest R q (by omega)
    have := nxc_to h2 ih (p := ((q % c.nodes.length : Nat) : Int)) (by rw [h3])
    rw [h3] at this
    have := nxc_dls h7 this h5
    rw [h6] at this
    exact this
def Clo (z : Node) : Prop := ∀ j : Nat, z.commit < j → j ≤ z.log.length → agOk z j = false
theorem agN_max (x : Node) (c : Nat) : ∀ n j, agN x c n < j → j ≤ n → agOk x j = false
  | 0, j, h1, h2 => by rw [agN] at h1; omega
  | n + 1, j, h1, h2 => by
    rw [agN] at h1
    split at h1
    · omega
    split at h1
    · omega
    · rename_i h3 h4
      by_cases e : j = n + 1
      · subst e; exact Bool.eq_false_iff.2 h4
      · exact agN_max x c n j h1 (by omega)
theorem agreed_clo (x : Node) : Clo (agreed x) := by
  intro j h1 h2
  have h1 : agI x < j := h1
  unfold agI at h1
  exact agN_max x x.commit.toNat x.log.length j (by omega) h2
theorem told_clo {z : Node} {m : Mail} (h : Clo z) : Clo (toldN z m) := by
  unfold toldN
  split
  · exact h
  split
  · exact agreed_clo _
  · exact h
def tM (z : Node) (m : Mail) (i : Nat) : Int := if m.ok = true then (if mtc z i < m.index ∧ m.index ≤ z.log.length then m.index else mtc z i) else mtc z i
def tN (z : Node) (m : Mail) (i : Nat) : Int := if m.ok = true then tM z m i + 1 else max (max 1 (min (nxt z i - 1) (m.index + 1))) (mtc z i + 1)
theorem told_one {z : Node} {m : Mail} {i : Nat} (hr : z.role = 2) (ht : m.term = z.term) (hf : m.from_ = i) (h1 : i < z.next.length) (h2 : i < z.match_.length) (j : Nat) :
    nxt (toldN z m) j = (if j = i then tN z m i else nxt z j) ∧ mtc (toldN z m) j = (if j = i then tM z m i else mtc z j) ∧ (toldN z m).next.length = z.next.length ∧ (toldN z m).match_.length = z.match_.length := by
  have hfi : m.from_.toNat = i := by omega
  unfold toldN
  rw [if_neg (by rintro (e | e); exact e ht; exact e hr)]
  split
  · rename_i hok
    have hT : toldT z m = tM z m i := by
      unfold toldT tM mtc
      rw [hfi, if_pos hok]
    refine ⟨?_, ?_, ?_, ?_⟩
    · show (z.next.set m.from_.toNat (toldT z m + 1)).getD j zI_i64 = _
      rw [hfi, set_get h1, hT]
      unfold tN
      rw [if_pos hok]
      rfl
    · show (z.match_.set m.from_.toNat (toldT z m)).getD j zI_i64 = _
      rw [hfi, set_get h2, hT]
      rfl
    · show (z.next.set _ _).length = _
      rw [List.length_set]
    · show (z.match_.set _ _).length = _
      rw [List.length_set]
  · rename_i hok
    refine ⟨?_, ?_, ?_, rfl⟩
    · show (z.next.set m.from_.toNat _).getD j zI_i64 = _
      rw [hfi, set_get h1]
      unfold tN
      rw [if_neg hok]
      rfl
    · show z.match_.getD j zI_i64 = _
      unfold tM
      rw [if_neg hok]
      split
      · rename_i e; rw [e]; rfl
      · rfl
    · show (z.next.set _ _).length = _
      rw [List.length_set]
theorem told_fold : ∀ (Gs : List Mail) {z : Node}, z.role = 2 → (∀ m ∈ Gs, m.term = z.term ∧ ∃ i : Nat, m.from_ = i ∧ i < z.next.length ∧ i < z.match_.length) → (Gs.map Mail.from_).Nodup →
    ((Gs.foldl toldN z).role = 2 ∧ (Gs.foldl toldN z).term = z.term ∧ (Gs.foldl toldN z).log = z.log) ∧ (Clo z → Clo (Gs.foldl toldN z)) ∧ (∀ i : Nat, (∀ m ∈ Gs, m.from_ ≠ i) → nxt (Gs.foldl toldN z) i = nxt z i ∧ mtc (Gs.foldl toldN z) i = mtc z i) ∧ ∀ m ∈ Gs, ∀ i : Nat, m.from_ = i → nxt (Gs.foldl toldN z) i = tN z m i ∧ mtc (Gs.foldl toldN z) i = tM z m i
  | [], z, hr, _, _ => ⟨⟨hr, rfl, rfl⟩, fun h => h, fun _ _ => ⟨rfl, rfl⟩, by simp⟩
  | m :: Gs, z, hr, hm, hd => by
    rw [List.map_cons, List.nodup_cons] at hd
    obtain ⟨ht, i0, hf, h1, h2⟩ := hm m (by simp)
    obtain ⟨s1, s2, s3, _⟩ := toldN_same z m
    have hone := told_one hr ht hf h1 h2
    obtain ⟨⟨a1, a2, a3⟩, b, c, d⟩ := told_fold Gs (z := toldN z m) (s1.trans hr) (fun n hn => by
      obtain ⟨t1, i, t2, t3, t4⟩ := hm n (by simp [hn])
      exact ⟨t1.trans s2.symm, i, t2, by rw [(hone 0).2.2.1]; exact t3, by rw [(hone 0).2.2.2]; exact t4⟩) hd.2
    rw [List.foldl_cons]
    refine ⟨⟨a1, a2.trans s2, a3.trans s3⟩, fun h => b (told_clo h), fun i hi => ?_, fun n hn i hi => ?_⟩
    · obtain ⟨e1, e2⟩ := c i fun n hn => hi n (by simp [hn])
      have hne : i ≠ i0 := fun e => hi m (by simp) (by rw [hf, e])
      obtain ⟨o1, o2, _⟩ := hone i
      rw [e1, e2, o1, o2, if_neg hne, if_neg hne]
      exact ⟨rfl, rfl⟩
    · rcases List.mem_cons.1 hn with e | hn
      · subst e
        obtain rfl : i = i0 := by omega
        obtain ⟨e1, e2⟩ := c i fun k hk e => hd.1 (by rw [hi, ← e]; exact List.mem_map_of_mem hk)
        obtain ⟨o1, o2, _⟩ := hone i
        rw [e1, e2, o1, o2, if_pos rfl, if_pos rfl]
        exact ⟨rfl, rfl⟩
      · have hne : i ≠ i0 := fun e => hd.1 (by rw [hf, ← e, ← hi]; exact List.mem_map_of_mem hn)
        obtain ⟨e1, e2⟩ := d n hn i hi
        obtain ⟨o1, o2, _⟩ := hone i
        have hM : mtc (toldN z m) i = mtc z i := by rw [o2, if_neg hne]
        have hX : nxt (toldN z m) i = nxt z i := by rw [o1, if_neg hne]
        rw [e1, e2]
        unfold tN tM
        rw [hM, hX, s3]
        exact ⟨rfl, rfl⟩
structure PS (w : Nat) (Lg : List Entry) (x : Cluster) : Prop where
  c : ∃ g, CI g x
  m : x.mails = []
  wl : w < x.nodes.length
  r : (x.nodes.getD w zNode).role = 2
  o : ∀ i, i < x.nodes.length → i ≠ w → (x.nodes.getD i zNode).role ≠ 2
  t : ∀ i, i < x.nodes.length → (x.nodes.getD i zNode).term = (x.nodes.getD w zNode).term
  lg : (x.nodes.getD w zNode).log = Lg
  mw : mtc (x.nodes.getD w zNode) w = Lg.length
  cl : Clo (x.nodes.getD w zNode)
  nx : ∀ i, i < x.nodes.length → i ≠ w → mtc (x.nodes.getD w zNode) i + 1 ≤ nxt (x.nodes.getD w zNode) i
  l1 : 1 ≤ Lg.length
  lt : lstT Lg = (x.nodes.getD w zNode).term
  st : ST x
theorem PS.cf {w : Nat} {Lg : List Entry} {x : Cluster} (P : PS w Lg x) : CF x := by obtain ⟨g, C⟩ := P.c; exact C.f
def psi (W : Nat) (z : Node) (i : Nat) : Int := (nxt z i - 1 - mtc z i) + ((W : Int) - mtc z i + 3) / 4
theorem tb_cf {x : Cluster} (C : CF x) : TB 100000 x := ⟨fun v hv => (C.nd v hv).1.t.2, fun m hm => (C.ml m hm).2.t.2⟩
theorem ci_dls {g : RGh} {x : Cluster} (C : CI g x) (S : ST x) : ∀ {J : Nat}, Dls x J → (∃ g', CI g' (dlI x J)) ∧ ST (dlI x J)
  | 0, _ => ⟨⟨g, C⟩, S⟩
  | J + 1, h => by
    obtain ⟨⟨g1, C1⟩, S1⟩ := ci_dls C S (J := J) fun j hj => h j (by omega)
    have hc := (h J (by omega)).2
    obtain ⟨g2, _, C2⟩ := ci_deliver C1 hc
    exact ⟨⟨g2, C2⟩, (grow_dl C1.f (tb_cf C1.f) hc).1.st S1⟩
theorem lwSp_ok {g : RGh} {x : Cluster} (C : CI g x) (hm : x.mails = []) {w : Nat} (hw : w < x.nodes.length) (hr : (x.nodes.getD w zNode).role = 2) : lwSp x w = ⟨0, doC x w ⟨0, x.nodes.getD w zNode, spreads (x.nodes.getD w zNode) x.nodes.length⟩⟩ := by
  obtain ⟨n1, n2, n3⟩ := C.f.nd w hw
  have hs : spreadNode (x.nodes.getD w zNode) = ⟨0, x.nodes.getD w zNode, spreads (x.nodes.getD w zNode) x.nodes.length⟩ := by
    unfold spreadNode
    rw [if_neg (by rw [leadF_ok0 (nf_iff.2 n1) hr]; simp), n3, Int.toNat_natCast]
  have hg : nodeGuard x w = 0 := by
    unfold nodeGuard
    rw [if_neg (by rw [cf_zero C.f]; simp), if_neg]
    rw [place_iff.2 ⟨by omega, by omega⟩]
    simp
  unfold lwSp atNode
  rw [if_neg (by omega), Int.toNat_natCast, hs]
  unfold doR
  rw [if_pos]
  unfold doOk
  have hl := spreads_len (x.nodes.getD w zNode) x.nodes.length
  have hn := C.f.n
  simp only [Bool.and_eq_true, decide_eq_true_eq, Bool.or_eq_true, Bool.not_eq_true']
  refine ⟨⟨trivial, ?_⟩, .inl (wonBy_was hr rfl)⟩
  rw [hm]
  simp only [List.length_nil]
  omega
theorem takenM_kind (x : Node) (m : Mail) : (takenM x m).kind = 4 ∧ (takenM x m).to_ = m.from_ ∧ (takenM x m).from_ = x.id := by
  unfold takenM
  repeat' split
  all_goals exact ⟨rfl, rfl, rfl⟩
theorem spreadM_len {z : Node} {i k : Nat} (h : k ≤ z.log.length) : ((spreadM z i k).entries.length : Int) = min (z.log.length : Int) (k + 4) - k := by
  show (((z.log.take (min z.log.length (k + 4))).drop k).length : Int) = _
  simp only [List.length_drop, List.length_take]
  omega
theorem spread_round {w : Nat} {Lg : List Entry} {x : Cluster} (P : PS w Lg x) :
    (lwSp x w).code = 0 ∧ Dls (lwSp x w).cluster (2 * (x.nodes.length - 1)) ∧ PS w Lg (dlI (lwSp x w).cluster (2 * (x.nodes.length - 1))) ∧ (dlI (lwSp x w).cluster (2 * (x.nodes.length - 1))).nodes.length = x.nodes.length ∧
    ∀ i, i < x.nodes.length → i ≠ w → psi Lg.length ((dlI (lwSp x w).cluster (2 * (x.nodes.length - 1))).nodes.getD w zNode) i ≤ max 0 (psi Lg.length (x.nodes.getD w zNode) i - 1) := by
  obtain ⟨g, C⟩ := P.c
  have hw := P.wl
  obtain ⟨n1, n2, n3⟩ := C.f.nd w hw
  have hn5 := C.f.n
  have he := lwSp_ok C P.m hw P.r
  have hc : (lwSp x w).code = 0 := by rw [he]
  have hlead := lead_len n1 P.r
  obtain ⟨g1, _, C1⟩ := ci_spread C hc
  have hG1 := (grow_sp C.f (tb_cf C.f) hc).1
  have hC1 : CI g1 (lwSp x w).cluster := C1
  have hnd : ∀ i, ((lwSp x w).cluster.nodes).getD i zNode = x.nodes.getD i zNode := fun i => by
    rw [he]
    show (x.nodes.set w (x.nodes.getD w zNode)).getD i zNode = _
    rw [set_getD hw]
    split
    · rename_i e; rw [e]
    · rfl
  have hln : (lwSp x w).cluster.nodes.length = x.nodes.length := hG1.n
  generalize hA : (fun i => spreadM (x.nodes.getD w zNode) i (nextK (x.nodes.getD w zNode) i)) = A
  have hAe : ∀ i, A i = spreadM (x.nodes.getD w zNode) i (nextK (x.nodes.getD w zNode) i) := fun i => by rw [← hA]
  have hma : (lwSp x w).cluster.mails = (oth x.nodes.length w).map A ++ [] := by
    rw [he]
    show x.mails ++ spreads (x.nodes.getD w zNode) x.nodes.length = _
    rw [P.m, List.nil_append, List.append_nil]
    show othersTo (fun i => spreadM (x.nodes.getD w zNode) i (nextK (x.nodes.getD w zNode) i)) (x.nodes.getD w zNode).id x.nodes.length = _
    rw [hA, n2]
    rfl
  have hol := oth_len hw
  obtain ⟨⟨g2, C2⟩, v0, v1, v2, v3⟩ := spread_run (w := w) (T := (x.nodes.getD w zNode).term) (A := A) (fun i => by rw [hAe]; exact ⟨rfl, rfl, rfl⟩) (oth x.nodes.length w) hC1 (oth_nodup _ _) (by rw [hln]; exact hw) (fun e => (oth_mem.1 e).2 rfl) (by rw [hnd]; exact P.r) (by rw [hnd]) (fun i hi => by
    have := oth_mem.1 hi
    rw [hln, hnd]
    exact ⟨this.1, P.o i this.1 (by omega), P.t i this.1⟩) hma (by simp only [List.length_nil]; omega)
  rw [hol] at v0 v1 v2 v3 C2
  rw [List.nil_append] at v2
  have hxm : (oth x.nodes.length w).map (fun i => takenM ((lwSp x w).cluster.nodes.getD i zNode) (A i)) = (oth x.nodes.length w).map (fun i => takenM (x.nodes.getD i zNode) (A i)) := List.map_congr_left fun i hi => by rw [hnd]
  rw [hxm] at v2
  generalize hGs : (oth x.nodes.length w).map (fun i => takenM (x.nodes.getD i zNode) (A i)) = Gs at *
  have hGl : Gs.length = x.nodes.length - 1 := by rw [← hGs, List.length_map, hol]
  have hgm : ∀ m ∈ Gs, ∃ i, i < x.nodes.length ∧ i ≠ w ∧ m = takenM (x.nodes.getD i zNode) (A i) := fun m hm => by
    rw [← hGs] at hm
    obtain ⟨i, hi, rfl⟩ := List.mem_map.1 hm
    have := oth_mem.1 hi
    exact ⟨i, this.1, by omega, rfl⟩
  have hw2 : (dlI (lwSp x w).cluster (x.nodes.length - 1)).nodes.getD w zNode = x.nodes.getD w zNode := by
    rw [v3, if_neg (fun e => (oth_mem.1 e).2 rfl), hnd]
  obtain ⟨_, u0, u1, u2, u3⟩ := told_run (w := w) (T := (x.nodes.getD w zNode).term) Gs C2 (by rw [v0, hln]; exact hw) (by rw [hw2]; exact P.r) (by rw [hw2]) v2 (fun m hm => by
    obtain ⟨i, h1, h2, rfl⟩ := hgm m hm
    obtain ⟨k1, k2, _⟩ := takenM_kind (x.nodes.getD i zNode) (A i)
    refine ⟨k1, ?_, ?_⟩
    · rw [k2, hAe]
      exact n2
    · rw [takenM_term]
      exact P.t i h1)
  rw [hGl] at u0 u1 u2 u3
  rw [hw2] at u3
  have hadd : 2 * (x.nodes.length - 1) = (x.nodes.length - 1) + (x.nodes.length - 1) := by omega
  have hy : dlI (lwSp x w).cluster (2 * (x.nodes.length - 1)) = dlI (dlI (lwSp x w).cluster (x.nodes.length - 1)) (x.nodes.length - 1) := by rw [hadd, dlI_add]
  have hD : Dls (lwSp x w).cluster (2 * (x.nodes.length - 1)) := by rw [hadd]; exact dls_add v1 u1
  obtain ⟨CY, SY⟩ := ci_dls hC1 (hG1.st P.st) hD
  rw [← hy] at u0 u2 u3
  generalize hye : dlI (lwSp x w).cluster (2 * (x.nodes.length - 1)) = y at *
  have hyn : y.nodes.length = x.nodes.length := u0.trans (v0.trans hln)
  have hyw : y.nodes.getD w zNode = Gs.foldl toldN (x.nodes.getD w zNode) := by rw [u3, if_pos rfl]
  have hyi : ∀ i, i < x.nodes.length → i ≠ w → y.nodes.getD i zNode = takenN (x.nodes.getD i zNode) (A i) := fun i hi hne => by
    rw [u3, if_neg hne, v3, if_pos (oth_mem.2 ⟨hi, by omega⟩), hnd]
  have hidf : ∀ i, i < x.nodes.length → (takenM (x.nodes.getD i zNode) (A i)).from_ = (i : Int) := fun i hi => by
    rw [(takenM_kind _ _).2.2]
    exact (C.f.nd i hi).2.1
  obtain ⟨⟨f1, f2, f3⟩, f4, f5, f6⟩ := told_fold Gs (z := x.nodes.getD w zNode) P.r (fun m hm => by
    obtain ⟨i, h1, h2, rfl⟩ := hgm m hm
    refine ⟨?_, i, hidf i h1, by omega, by omega⟩
    rw [takenM_term]
    exact P.t i h1) (by
    rw [← hGs, List.map_map, List.Nodup, List.pairwise_map]
    refine List.Pairwise.imp_of_mem ?_ (oth_nodup x.nodes.length w)
    intro i j hi hj hij
    show (takenM (x.nodes.getD i zNode) (A i)).from_ ≠ (takenM (x.nodes.getD j zNode) (A j)).from_
    rw [hidf i (oth_mem.1 hi).1, hidf j (oth_mem.1 hj).1]
    omega)
  have hstep : ∀ i, i < x.nodes.length → i ≠ w → mtc (y.nodes.getD w zNode) i + 1 ≤ nxt (y.nodes.getD w zNode) i ∧ psi Lg.length (y.nodes.getD w zNode) i ≤ max 0 (psi Lg.length (x.nodes.getD w zNode) i - 1) := by
    intro i hi hne
    have hmem : takenM (x.nodes.getD i zNode) (A i) ∈ Gs := by rw [← hGs]; exact List.mem_map.2 ⟨i, oth_mem.2 ⟨hi, by omega⟩, rfl⟩
    obtain ⟨e1, e2⟩ := f6 _ hmem i (hidf i hi)
    rw [← hyw] at e1 e2
    have h0 := P.nx i hi hne
    obtain ⟨q1, q2, q3, q4, q5⟩ := next_ok (nf_iff.2 n1) P.r (i := i) (by omega)
    have q3 : nxt (x.nodes.getD w zNode) i = (nextK (x.nodes.getD w zNode) i : Int) + 1 := q3
    have q5 : 0 ≤ mtc (x.nodes.getD w zNode) i ∧ mtc (x.nodes.getD w zNode) i ≤ (x.nodes.getD w zNode).log.length := q5
    rw [P.lg] at q4 q5
    have hNi := hC1.ni i (by rw [hln]; exact hi)
    rw [hnd, hln] at hNi
    have hNw := hC1.ni w (by rw [hln]; exact hw)
    rw [hnd, hln] at hNw
    obtain ⟨r1, r2, r3, r4⟩ := hNw.r2 P.r
    have hGI := hC1.gi
    rw [hln] at hGI
    have hMI := hC1.mi (A i) (by rw [hma, List.append_nil]; exact List.mem_map.2 ⟨i, oth_mem.2 ⟨hi, by omega⟩, rfl⟩)
    rw [hln] at hMI
    have hti := P.t i hi
    have htA : (A i).term = (x.nodes.getD i zNode).term := by rw [hAe]; exact hti.symm
    have hll : (g1.ll (x.nodes.getD i zNode).term).length ≤ 40 := by
      rw [hti, ← r2]
      exact n1.l.n
    have hni := (C.f.nd i hi).1
    have hck := taken_fine hGI hNi hni (P.o i hi hne) htA (by rw [hAe]; rfl) hMI hll
    have hlen := spreadM_len (z := x.nodes.getD w zNode) (i := i) (k := nextK (x.nodes.getD w zNode) i) (by rw [P.lg]; exact q4)
    rw [← hAe, P.lg] at hlen
    have hix : (A i).index = (nextK (x.nodes.getD w zNode) i : Int) := by rw [hAe]; rfl
    have hla : (A i).last = lstT (Lg.take (nextK (x.nodes.getD w zNode) i)) := by rw [hAe, ← P.lg]; rfl
    rcases taken_cases hck with ⟨c0, _⟩ | ⟨_, _, c2, _, c4⟩ | ⟨K, _, c4⟩
    · omega
    · -- it does not fit
      have hfar : mtc (x.nodes.getD w zNode) i < (nextK (x.nodes.getD w zNode) i : Int) := by
        rcases Int.lt_or_le (mtc (x.nodes.getD w zNode) i) (nextK (x.nodes.getD w zNode) i : Int) with e | e
        · exact e
        · exfalso
          have ha := r4 i hi
          have ha : mtc (x.nodes.getD w zNode) i ≤ (g1.ak i (x.nodes.getD w zNode).term : Int) := ha
          have hp := hNi.ac (x.nodes.getD i zNode).term (nextK (x.nodes.getD w zNode) i) (Int.le_refl _) (by rw [hti]; omega) (fun t u h1 h2 _ => by omega)
          rw [hti, ← r2, P.lg] at hp
          have hpl := hp.length_le
          rw [take_len q4] at hpl
          have hil := hni.l.n
          rw [hix, hla] at c2
          unfold fitsM at c2
          rcases Nat.eq_zero_or_pos (nextK (x.nodes.getD w zNode) i) with z0 | z0
          · rw [z0] at c2
            rw [if_pos (by omega), lst_nil (by simp)] at c2
            simp at c2
          · rw [if_neg (by omega)] at c2
            have hin : inR (nextK (x.nodes.getD w zNode) i : Int) 1 (x.nodes.getD i zNode).log.length = true := by
              unfold inR
              simp only [Bool.and_eq_true, decide_eq_true_eq]
              omega
            rw [hin, wrap_small (by omega) (by omega), show ((nextK (x.nodes.getD w zNode) i : Int) - 1).toNat = nextK (x.nodes.getD w zNode) i - 1 by omega, lst_tm (by rw [take_len q4]; exact z0), take_len q4, pre_tm hp (by rw [take_len q4]; omega)] at c2
            simp [tmE] at c2
      rw [c4] at e1 e2
      have e2 : mtc (y.nodes.getD w zNode) i = mtc (x.nodes.getD w zNode) i := e2
      have e1 : nxt (y.nodes.getD w zNode) i = max (max 1 (min (nxt (x.nodes.getD w zNode) i - 1) (min ((A i).index - 1) (x.nodes.getD i zNode).log.length + 1))) (mtc (x.nodes.getD w zNode) i + 1) := e1
      unfold psi
      omega
    · -- it fits
      rw [c4] at e1 e2
      have hend : takenEnd (A i) = min (Lg.length : Int) (nextK (x.nodes.getD w zNode) i + 4) := by
        unfold takenEnd
        omega
      have e2 : mtc (y.nodes.getD w zNode) i = if mtc (x.nodes.getD w zNode) i < takenEnd (A i) ∧ takenEnd (A i) ≤ (x.nodes.getD w zNode).log.length then takenEnd (A i) else mtc (x.nodes.getD w zNode) i := e2
      have e1 : nxt (y.nodes.getD w zNode) i = mtc (y.nodes.getD w zNode) i + 1 := by rw [e1, e2]; rfl
      rw [P.lg, hend] at e2
      unfold psi
      split at e2 <;> omega
  refine ⟨hc, hD, ⟨CY, u2, by rw [hyn]; exact hw, by rw [hyw]; exact f1, fun i hi hne => ?_, fun i hi => ?_, by rw [hyw, f3]; exact P.lg, ?_, by rw [hyw]; exact f4 P.cl, fun i hi hne => (hstep i (by omega) hne).1, P.l1, by rw [hyw, f2]; exact P.lt, SY⟩, hyn, fun i hi hne => (hstep i hi hne).2⟩
  · rw [hyn] at hi
    rw [hyi i hi hne]
    exact takenN_role (P.o i hi hne)
  · rw [hyn] at hi
    by_cases e : i = w
    · rw [e]
    · rw [hyi i hi e, hyw, f2, taken_term]
      exact P.t i hi
  · rw [hyw]
    rw [(f5 w fun m hm => by
      obtain ⟨i, h1, h2, rfl⟩ := hgm m hm
      rw [hidf i h1]
      omega).2]
    exact P.mw
theorem PS.safe {w : Nat} {Lg : List Entry} {x : Cluster} (P : PS w Lg x) : SafeC x := by obtain ⟨g, C⟩ := P.c; exact ci_safe C
theorem PS.len {w : Nat} {Lg : List Entry} {x : Cluster} (P : PS w Lg x) : x.seals.length ≤ Lg.length := by
  rcases Nat.eq_zero_or_pos x.seals.length with e | e
  · omega
  · obtain ⟨v, v1, v2⟩ := P.st _ (getD_mem zSeal (show x.seals.length - 1 < x.seals.length by omega))
    rw [P.t v v1] at v2
    have := (P.safe.h w P.wl P.r (x.seals.length - 1) (by omega) v2).1
    rw [P.lg] at this
    omega
theorem PS.done {w : Nat} {Lg : List Entry} {x : Cluster} (P : PS w Lg x) (h : ∀ i, i < x.nodes.length → i ≠ w → psi Lg.length (x.nodes.getD w zNode) i ≤ 0) : x.seals.length = Lg.length := by
  have hle := P.len
  obtain ⟨g, C⟩ := P.c
  have hw := P.wl
  obtain ⟨n1, n2, n3⟩ := C.f.nd w hw
  have hn5 := C.f.n
  have hlead := lead_len n1 P.r
  have hsc := C.sc w hw
  have hcm := n1.c
  have hl1 := P.l1
  have hm : ∀ i, i < x.nodes.length → (Lg.length : Int) ≤ mtc (x.nodes.getD w zNode) i := fun i hi => by
    by_cases e : i = w
    · rw [e, P.mw]; exact Int.le_refl _
    · have h1 := h i hi e
      have h2 := P.nx i hi e
      unfold psi at h1
      omega
  have hall : ∀ a ∈ (x.nodes.getD w zNode).match_, (Lg.length : Int) ≤ a := (all_getD zI_i64).1 fun i hi => hm i (by omega)
  have hcnt : cntGe (x.nodes.getD w zNode).match_ (Lg.length : Int) = (x.nodes.getD w zNode).match_.length := by
    unfold cntGe
    rw [List.countP_eq_length]
    intro a ha
    exact decide_eq_true (hall a ha)
  have hag : agOk (x.nodes.getD w zNode) Lg.length = true := by
    unfold agOk
    rw [hcnt]
    have ht : ((x.nodes.getD w zNode).log.getD (Lg.length - 1) zEntry).term = (x.nodes.getD w zNode).term := by
      rw [P.lg, ← P.lt, lst_tm (by omega)]
      rfl
    rw [ht]
    unfold quor
    rw [decide_eq_true (by omega), decide_eq_true rfl]
    rfl
  have hcom : ¬ (x.nodes.getD w zNode).commit < (Lg.length : Int) := fun e => by
    have := P.cl Lg.length e (by rw [P.lg]; omega)
    rw [hag] at this
    cases this
  omega
noncomputable def spI (w : Nat) (x : Cluster) : Nat → Cluster
  | 0 => x
  | q + 1 => dlI (lwSp (spI w x q) w).cluster (2 * (x.nodes.length - 1))
theorem spr_facts {w : Nat} {Lg : List Entry} {x : Cluster} (P : PS w Lg x) : ∀ q, PS w Lg (spI w x q) ∧ (spI w x q).nodes.length = x.nodes.length ∧ ∀ i, i < x.nodes.length → i ≠ w → psi Lg.length ((spI w x q).nodes.getD w zNode) i ≤ max 0 (psi Lg.length (x.nodes.getD w zNode) i - q)
  | 0 => ⟨P, rfl, fun i hi hne => by show psi Lg.length (x.nodes.getD w zNode) i ≤ _; omega⟩
  | q + 1 => by
    obtain ⟨P1, h1, h2⟩ := spr_facts P q
    obtain ⟨_, _, r3, r4, r5⟩ := spread_round P1
    rw [h1] at r3 r4 r5
    refine ⟨r3, r4, fun i hi hne => ?_⟩
    have e1 := r5 i hi hne
    have e2 := h2 i hi hne
    have e1 : psi Lg.length ((spI w x (q + 1)).nodes.getD w zNode) i ≤ max 0 (psi Lg.length ((spI w x q).nodes.getD w zNode) i - 1) := e1
    omega
theorem spr_step {w : Nat} {Lg : List Entry} {x : Cluster} (P : PS w Lg x) (q : Nat) : lwSp (spI w x q) w = ⟨0, (lwSp (spI w x q) w).cluster⟩ ∧ Dls (lwSp (spI w x q) w).cluster (2 * (x.nodes.length - 1)) ∧ (spI w x (q + 1)).mails = [] ∧ ∀ j, j ≤ 2 * (x.nodes.length - 1) → CF (dlI (lwSp (spI w x q) w).cluster j) := by
  obtain ⟨P1, h1, _⟩ := spr_facts P q
  obtain ⟨r1, r2, r3, _⟩ := spread_round P1
  rw [h1] at r2 r3
  obtain ⟨g, C⟩ := P1.c
  obtain ⟨g1, _, C1⟩ := ci_spread C r1
  have hS := (grow_sp C.f (tb_cf C.f) r1).1.st P1.st
  refine ⟨res_eta r1, r2, r3.m, fun j hj => ?_⟩
  obtain ⟨⟨g2, C2⟩, _⟩ := ci_dls (J := j) C1 hS fun i hi => r2 i (by omega)
  exact C2.f
theorem spr_end {w : Nat} {Lg : List Entry} {x : Cluster} (P : PS w Lg x) (h : ∀ i, i < x.nodes.length → i ≠ w → psi Lg.length (x.nodes.getD w zNode) i ≤ 49) {q : Nat} (hq : q = 60 ∨ Lg.length ≤ (spI w x q).seals.length) : (spI w x q).seals.length = Lg.length := by
  obtain ⟨P1, h1, h2⟩ := spr_facts P q
  rcases hq with hq | hq
  · refine P1.done fun i hi hne => ?_
    rw [h1] at hi
    have e1 := h2 i hi hne
    have e2 := h i hi hne
    omega
  · have := P1.len
    omega
def askE (x : Node) : Entry := ⟨x.term, 0, 0, zCmd⟩
theorem ask_ps {b n w : Nat} {x : Cluster} (L : Led b n w x) (hX : NXC x) (h : (lwAsk x w 0 0 zCmd).code = 0) :
    PS w ((x.nodes.getD w zNode).log ++ [askE (x.nodes.getD w zNode)]) (lwAsk x w 0 0 zCmd).cluster ∧ (lwAsk x w 0 0 zCmd).cluster.nodes.length = n ∧ ∀ i, i < n → i ≠ w → psi ((x.nodes.getD w zNode).log ++ [askE (x.nodes.getD w zNode)]).length ((lwAsk x w 0 0 zCmd).cluster.nodes.getD w zNode) i ≤ 49 := by
  obtain ⟨g, C⟩ := L.q.l.c
  have hn := L.q.n
  have hw := L.wl
  have hwx : w < x.nodes.length := by omega
  obtain ⟨g1, _, C1⟩ := ci_ask C h
  have hG := (grow_ask C.f (tb_cf C.f) h).1
  obtain ⟨n1, n2, n3⟩ := C.f.nd w hwx
  have hlead := lead_len n1 L.r
  have hNX := hX w hwx
  obtain ⟨i0, hi0, hi1, hd, he, hc⟩ := atNode_ok h
  obtain rfl : w = i0 := by omega
  rw [Int.toNat_natCast] at *
  obtain ⟨e1, e2, e3, e4, e5⟩ := ask_nf n1 hc
  have e1 : (askNode (x.nodes.getD w zNode) (askE (x.nodes.getD w zNode))).node = agreed (asked (x.nodes.getD w zNode) (askE (x.nodes.getD w zNode))) := e1
  have hy : (lwAsk x w 0 0 zCmd).cluster = doC x w (askNode (x.nodes.getD w zNode) (askE (x.nodes.getD w zNode))) := by
    unfold lwAsk
    rw [Int.toNat_natCast, he]
    rfl
  have hnd : ∀ i, ((lwAsk x w 0 0 zCmd).cluster.nodes).getD i zNode = if i = w then agreed (asked (x.nodes.getD w zNode) (askE (x.nodes.getD w zNode))) else x.nodes.getD i zNode := fun i => by
    rw [hy, ← e1]
    exact set_getD hwx _ _
  have hyw := hnd w
  rw [if_pos rfl] at hyw
  have hln : (lwAsk x w 0 0 zCmd).cluster.nodes.length = n := hG.n.trans hn
  have hid : (x.nodes.getD w zNode).id.toNat = w := by omega
  have hmt : ∀ i, mtc (agreed (asked (x.nodes.getD w zNode) (askE (x.nodes.getD w zNode)))) i = if i = w then ((x.nodes.getD w zNode).log.length : Int) + 1 else mtc (x.nodes.getD w zNode) i := fun i => by
    show ((x.nodes.getD w zNode).match_.set (x.nodes.getD w zNode).id.toNat _).getD i zI_i64 = _
    rw [hid, set_get (by omega)]
    rfl
  have hnx : ∀ i, i ≠ w → nxt (agreed (asked (x.nodes.getD w zNode) (askE (x.nodes.getD w zNode)))) i = nxt (x.nodes.getD w zNode) i := fun i hi => by
    show ((x.nodes.getD w zNode).next.set (x.nodes.getD w zNode).id.toNat _).getD i zI_i64 = _
    rw [hid, set_get (by omega), if_neg hi]
    rfl
  have hlen : ((x.nodes.getD w zNode).log ++ [askE (x.nodes.getD w zNode)]).length = (x.nodes.getD w zNode).log.length + 1 := by simp
  have h40 : ((x.nodes.getD w zNode).log ++ [askE (x.nodes.getD w zNode)]).length ≤ 40 := e3.l.n
  refine ⟨⟨⟨g1, C1⟩, ?_, by rw [hln]; exact hw, by rw [hyw]; exact L.r, fun i hi hne => ?_, fun i hi => ?_, by rw [hyw]; rfl, ?_, by rw [hyw]; exact agreed_clo _, fun i hi hne => ?_, by omega, ?_, hG.st L.q.l.s⟩, hln, fun i hi hne => ?_⟩
  · rw [hy]
    show x.mails ++ (askNode (x.nodes.getD w zNode) (askE (x.nodes.getD w zNode))).send = []
    rw [show (askNode (x.nodes.getD w zNode) (askE (x.nodes.getD w zNode))).send = [] from e2, L.q.m]
    rfl
  · rw [hln] at hi
    rw [hnd, if_neg hne]
    exact L.o i hi hne
  · rw [hln] at hi
    rw [hyw, hnd]
    split
    · rfl
    · exact L.t i hi
  · rw [hyw, hmt, if_pos rfl, hlen]
    omega
  · rw [hln] at hi
    rw [hyw, hmt, if_neg hne, hnx i hne]
    exact hNX L.r i (by omega) (by omega)
  · rw [lst_tm (by omega), hlen, Nat.add_sub_cancel, tm_end, hyw]
    rfl
  · rw [hyw]
    unfold psi
    rw [hmt, if_neg hne, hnx i hne]
    obtain ⟨q1, q2, q3, q4, q5⟩ := next_ok (nf_iff.2 n1) L.r (i := i) (by omega)
    have q3 : nxt (x.nodes.getD w zNode) i = (nextK (x.nodes.getD w zNode) i : Int) + 1 := q3
    have q5 : 0 ≤ mtc (x.nodes.getD w zNode) i ∧ mtc (x.nodes.getD w zNode) i ≤ (x.nodes.getD w zNode).log.length := q5
    omega
end Go.H
end
section
set_option maxRecDepth 100000
set_option maxHeartbeats 4000000
set_option cbv.maxSteps 4000000
set_option linter.unusedVariables false
set_option linter.unusedSimpArgs false
namespace Go.H
open Go Go.Proofs.Tryz
variable [Inv prog]
section
attribute [local go_sem] zCmd
theorem s_laws_FnProgress (code : List Int) (hc : code.length ≤ 9223372036854775807) (hbb : ∀ b ∈ code, 0 ≤ b ∧ b ≤ 255) : SemX prog 6 [aT (.sl false 1 (code.map eI_u8))] [] [rB true] [] := by
 refine goF [(112, ⟨none, none, some (44, true), none⟩)] [(10, 0, [24576], []), (10, 3, [98304, 98305, 98306, 98307], [188417, 188418, 188419, 188420]), (10, 6, [36864], [])] [] func6 ?_
 refine D ?_
 refine kR (s_laws_lwBig code hc) ?_
 refine D ?_
 refine cC (fun c0 => ?_) (fun c0 => ?_)
 · skip
   refine D ?_
   refine E ?_
   first
   | exact trivial
   | simp; omega
 · skip
   have hb : okB code := ⟨by simp at c0; omega, hbb⟩
   have hS := lwC_safe hb 50
   have hx := cf_lim2 hS.f
   obtain ⟨r, hR⟩ := rest_ok (lwC_lw hb 50).1 (by omega) (lwC_odd hb)
   obtain ⟨w, hLd, hsp⟩ := rest_led hR
   have hT := s_laws_lwRest (lwC code 50) 50 r hR
   obtain ⟨X, hX⟩ : ∃ X, rdI (rsI (lwC code 50)) (r + 1) = X := ⟨_, rfl⟩
   rw [hX] at hT hLd hsp
   have hXC := hLd.q.l.cf
   have hXx := cf_lim2 hXC
   have hSX : SafeC X := by obtain ⟨g, C⟩ := hLd.q.l.c; exact ci_safe C
   have hTL := s_impl_LeaderOf X hXC
   rw [lead_led hLd] at hTL
   have hcn := el_common hLd hsp
   have hwX := hLd.wl
   have hnX := hLd.q.n
   have hsl := sealed_len (lwC code 50)
   have hslX := sealed_len X
   have hspl := hsp.length_le
   have hs4 := hS.f.s
   have hsX4 := hXC.s
   have hlw := (hXC.nd w (by omega)).1.l.n
   have hNX : NXC X := hX ▸ nxc_rest hR (r + 1) (Nat.le_refl _)
   have hw64 : ((w : Int)).toNat = w := Int.toNat_natCast w
   have hTA := s_impl_AskAt X hXx w 0 0 zCmd
   have hTS := s_spec_AskAt X hXx w 0 0 zCmd
   obtain ⟨Y, hY⟩ : ∃ Y, lwAsk X w 0 0 zCmd = Y := ⟨_, rfl⟩
   unfold lwAsk at hY
   rw [hY] at hTA hTS
   have hY : lwAsk X w 0 0 zCmd = Y := hY
   refine D ?_
   refine kR (s_laws_lwCluster code hb false) ?_
   refine D ?_
   refine kR hT ?_
   refine D ?_
   refine cF ?_
   refine D ?_
   refine kR hTL ?_
   refine D ?_
   refine kR hTA ?_
   refine D ?_
   refine cC (fun c2 => ?_) (fun c2 => ?_)
   · skip
     refine D ?_
     refine kD hTS ?_
     refine D ?_
     refine E ?_
     first
     | exact trivial
     | simp; omega
   · skip
     have hc0 : Y.code = 0 := by simpa using c2
     obtain ⟨hP, hny, hpsi⟩ := ask_ps hLd hNX (by rw [hY]; exact hc0)
     rw [hY] at hP hny hpsi
     obtain ⟨y, hy⟩ : ∃ y, Y.cluster = y := ⟨_, rfl⟩
     rw [hy] at hP hny hpsi
     obtain ⟨Lg, hLg⟩ : ∃ Lg, ((X.nodes.getD w zNode).log ++ [askE (X.nodes.getD w zNode)]) = Lg := ⟨_, rfl⟩
     rw [hLg] at hP hpsi
     have hlgl : (y.nodes.getD w zNode).log.length = Lg.length := by rw [hP.lg]
     have hyn5 := hP.cf.n
     have hwy := hP.wl
     have hL40 : Lg.length ≤ 40 := by rw [← hlgl]; exact (hP.cf.nd w hwy).1.l.n
     have hA := And.intro hy (hlgl)
     refine D ?_
     refine Ld [8] [36864] (α := Nat) (fun q => [(10, .int .i64 q)]) (fun q => [(16384, .var [.ref 159745 0 (spI w y q).nodes.length, .ref 159746 0 (spI w y q).mails.length, .ref 159747 0 (spI w y q).wins.length, .ref 159748 0 (spI w y q).seals.length]), (159745, .arr ⟨10, (spI w y q).nodes.map (eNode true), 1, none⟩), (159746, .arr ⟨9, (spI w y q).mails.map (eMail true), 1, none⟩), (159747, .arr ⟨2, (spI w y q).wins.map eWon, 1, none⟩), (159748, .arr ⟨10, (spI w y q).seals.map eSeal, 1, none⟩)]) (fun q => 60 - q) (fun q => q ≤ 60) 0 [] (fun q hI => ?_) (by simp only [go_sem, hA] <;> and_intros <;> first | with_reducible exact rfl | (first | omega | exact rfl | (simp; done)))
     obtain ⟨hPq, hnq, _⟩ := spr_facts hP q
     obtain ⟨hs1, hs2, hs3, hs4⟩ := spr_step hP q
     refine D ?_
     refine cC (fun c3 => ?_) (fun c3 => ?_)
     · skip
       have hTq := s_impl_SpreadAt (spI w y q) (cf_lim2 hPq.cf) w
       rw [show atNode (spI w y q) w (spreadNode ((spI w y q).nodes.getD (w : Int).toNat zNode)) = ⟨0, (lwSp (spI w y q) w).cluster⟩ from hs1] at hTq
       refine D ?_
       refine kR hTq ?_
       refine D ?_
       refine cF ?_
       refine D ?_
       refine Ld [11] [49152] (α := Nat) (fun j => [(12, .int .i64 j)]) (fun j => [(16384, .var [.ref 299009 0 (dlI (lwSp (spI w y q) w).cluster j).nodes.length, .ref 299010 0 (dlI (lwSp (spI w y q) w).cluster j).mails.length, .ref 299011 0 (dlI (lwSp (spI w y q) w).cluster j).wins.length, .ref 299012 0 (dlI (lwSp (spI w y q) w).cluster j).seals.length]), (299009, .arr ⟨10, (dlI (lwSp (spI w y q) w).cluster j).nodes.map (eNode true), 1, none⟩), (299010, .arr ⟨9, (dlI (lwSp (spI w y q) w).cluster j).mails.map (eMail true), 1, none⟩), (299011, .arr ⟨2, (dlI (lwSp (spI w y q) w).cluster j).wins.map eWon, 1, none⟩), (299012, .arr ⟨10, (dlI (lwSp (spI w y q) w).cluster j).seals.map eSeal, 1, none⟩)]) (fun j => 2 * (y.nodes.length - 1) - j) (fun j => j ≤ 2 * (y.nodes.length - 1)) 0 [] (fun j hI => ?_) (by simp only [go_sem, hA] <;> and_intros <;> first | with_reducible exact rfl | (first | omega | exact rfl | (simp; done)))
       refine D ?_
       refine cC (fun c5 => ?_) (fun c5 => ?_)
       · skip
         have hj : j < 2 * (y.nodes.length - 1) := by
           refine Nat.lt_of_le_of_ne hI fun e => ?_
           subst e
           rw [show dlI (lwSp (spI w y q) w).cluster (2 * (y.nodes.length - 1)) = spI w y (q + 1) from rfl, hs3] at c5
           simp at c5
         have hTd := s_impl_DeliverMail (dlI (lwSp (spI w y q) w).cluster j) (cf_lim2 (hs4 j hI)) 0
         rw [show deliverMail (dlI (lwSp (spI w y q) w).cluster j) 0 = ⟨0, dlI (lwSp (spI w y q) w).cluster (j + 1)⟩ from res_eta (hs2 j hj).2] at hTd
         refine D ?_
         refine kR hTd ?_
         refine D ?_
         refine cF ?_
         refine D ?_
         refine lp_next (j+1) [(299009,368641),(299010,368642),(299011,368643),(299012,368644)] ?_ ?_ ?_
         · simp only [go_sem, hA] <;> and_intros <;> first | with_reducible exact rfl | (first | omega | exact rfl | (simp; done))
         · omega
         · omega
       · skip
         have hje : j = 2 * (y.nodes.length - 1) := by
           refine Classical.byContradiction fun e => ?_
           have h0 := (hs2 j (by omega)).1
           have h1 : (j : Int) < 60 := by omega
           have h2 : (0 : Int) < ((dlI (lwSp (spI w y q) w).cluster j).mails.length : Int) := by omega
           rw [decide_eq_true h1, decide_eq_true h2] at c5
           cases c5
         subst hje
         rw [show dlI (lwSp (spI w y q) w).cluster (2 * (y.nodes.length - 1)) = spI w y (q + 1) from rfl] at *
         refine D ?_
         refine lp_next (q+1) [(159745,299009),(159746,299010),(159747,299011),(159748,299012)] ?_ ?_ ?_
         · simp only [go_sem, hA] <;> and_intros <;> first | with_reducible exact rfl | (first | omega | exact rfl | (simp; done))
         · omega
         · omega
     · skip
       have hse : (spI w y q).seals.length = Lg.length := by
         refine spr_end hP (fun i hi hne => hpsi i (by omega) hne) ?_
         rcases Nat.lt_or_ge q 60 with e | e
         · right
           refine Nat.le_of_not_lt fun e2 => ?_
           have h1 : (q : Int) < 60 := by omega
           have h2 : ((spI w y q).seals.length : Int) < (Lg.length : Int) := by omega
           rw [decide_eq_true h1, decide_eq_true h2] at c3
           cases c3
         · exact .inl (by omega)
       have hsq := sealed_len (spI w y q)
       refine D ?_
       refine kR (s_impl_AgreedOf (spI w y q) hPq.cf) ?_
       refine D ?_
       refine kRg (s_impl_SafeCluster (spI w y q) hPq.safe) ?_
       refine D ?_
       refine E ?_
       first
       | exact trivial
       | simp; omega
end
end Go.H
end
