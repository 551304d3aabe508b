/- What the functions that the law reaches compute, each by its code, against pure functions. Conditions: those that each theorem states. -/
import Derived.Test.YtlnjmnmkafblkaaGreatEW1
section
set_option maxRecDepth 100000
set_option maxHeartbeats 4000000
set_option linter.unusedVariables false
set_option linter.unusedSimpArgs false
namespace Go.H
open Go Go.Proofs.Tryz
variable [Inv prog]
section
attribute [local go_sem] rowV List.set_set
theorem s_impl_onMail_copyA (x : Cluster) (hx : limC 2097152 x) (p : Int) (h80 : x.mails.length = 80) : SemX prog 58 [aS (eCluster false x), aI p, .one (.fn 59 [])] [] [.agg (eClusterResult true (copyMail x p))] [] := by
 refine goF [(38, ⟨some 1, none, none, none⟩), (68, ⟨some 5, some 139264, some (60, true), some [8]⟩)] [] [] func58 ?_
 obtain ⟨⟨hn, hN⟩, ⟨hm, hM⟩, hw, hs⟩ := id hx
 refine D ?_
 refine kR (s_impl_ClusterFault x hx) ?_
 refine D ?_
 refine kRg (s_impl_size_Mail (x.mails.map (eMail false))) ?_
 refine D ?_
 refine kRg (s_impl_in p 0 (x.mails.length - 1)) ?_
 refine D ?_
 refine cC (fun c0 => ?_) (fun c0 => ?_)
 · skip
   refine D ?_
   refine cT ?_
   refine D ?_
   refine E ?_
   have he : copyMail x p = bad 3 := by unfold copyMail mailGuard; grind
   simp [he, bad, zCluster]
 · skip
   refine D ?_
   refine cC (fun c1 => ?_) (fun c1 => ?_)
   · skip
     refine D ?_
     refine E ?_
     have he : copyMail x p = bad (clusterFault x) := by unfold copyMail mailGuard; grind
     simp [he, bad, zCluster]
   · skip
     have c0n : mailGuard x p = 0 := by unfold mailGuard; grind
     obtain ⟨hcf, n, rfl, hn2⟩ := guard_iff c0n
     have hg := fun r d => getD_set_self (l := x.mails.map (eMail true)) (i := n) (by simp; omega) r d
     have hgB := fun r l d => getD_set_app (l := x.mails.map (eMail true)) (i := n) (by simp; omega) r l d
     have hsB := fun r r2 l => set_app (l := x.mails.map (eMail true)) (i := n) (by simp; omega) r r2 l
     have hs0 := set_getD_map (eMail true) zMail hn2
     have hs1 := snoc_map (eMail true) x.mails (x.mails.getD n zMail)
     simp only [eMail] at hs0 hs1
     have hA := And.intro hg (And.intro hgB (And.intro hsB (And.intro hs0 (hs1))))
     refine D ?_
     refine kR (s_impl_Cluster_copied x hx) ?_
     refine D ?_
     refine RW_takeVN _ _ rfl rfl rfl (by simp only [go_sem, hA] <;> and_intros <;> first | with_reducible exact rfl | (first | (intro v0; exact ⟨v0, rfl⟩) | (first | with_reducible exact rfl | omega | with_reducible trivial | (intros; simp_all; done) | grind))) (fun _ => rfl) (fun v0 => by simp only [go_sem, hA]; exact rfl) (fun v => ?_)
     refine D ?_
     refine RW_callVN 33 8 144385 n 8 (dMail true) (by kernel_rfl) (s_impl_CopyMail_1a (x.nodes.map (eNode true)) ((x.mails.map (eMail true)).set n (rowV (x.mails.getD n zMail) v)) (x.wins.map eWon) (x.seals.map eSeal) (x.mails.getD n zMail) ((all_getD zMail).2 hM n (by omega)) (by simpa using h80)) true [36864] [] [114688, 114689, 114690, 114691] rfl rfl (by simp only [go_sem, hA] <;> and_intros <;> first | with_reducible exact rfl | (first | omega | with_reducible assumption | (refine noShR_set ?_ ?_ <;> simp [noShR_Mail, T.noShL, T.noSh, noShR_Entry]) | grind)) (by exact rfl) (by simp only [go_sem, hA] <;> and_intros <;> first | with_reducible exact rfl | (first | omega | with_reducible assumption | (refine noShR_set ?_ ?_ <;> simp [noShR_Mail, T.noShL, T.noSh, noShR_Entry]) | grind)) (by first | rfl | (simp only [go_sem, hA]; done)) (by simp only [go_sem, hA]; exact rfl) ?_
     refine D ?_
     refine kRk [36864] [] [144384, 144385, 144386, 144387] (s_impl_Cluster_result x 2) ?_
     refine D ?_
     refine E ?_
     have he : copyMail x n = bad 2 := by unfold copyMail; rw [if_neg (by omega), if_pos (by omega)]
     simp [he, resC, bad, zCluster]
end
section
attribute [local go_sem] rowV List.set_set
theorem s_impl_onMail_copyB (x : Cluster) (hx : limC 2097152 x) (p : Int) (h80 : x.mails.length ≠ 80) : SemX prog 58 [aS (eCluster false x), aI p, .one (.fn 59 [])] [] [.agg (eClusterResult true (copyMail x p))] [] := by
 refine goF [(38, ⟨some 1, none, none, none⟩), (68, ⟨some 5, some 139264, some (60, true), some [8]⟩)] [] [] func58 ?_
 obtain ⟨⟨hn, hN⟩, ⟨hm, hM⟩, hw, hs⟩ := id hx
 refine D ?_
 refine kR (s_impl_ClusterFault x hx) ?_
 refine D ?_
 refine kRg (s_impl_size_Mail (x.mails.map (eMail false))) ?_
 refine D ?_
 refine kRg (s_impl_in p 0 (x.mails.length - 1)) ?_
 refine D ?_
 refine cC (fun c0 => ?_) (fun c0 => ?_)
 · skip
   refine D ?_
   refine cT ?_
   refine D ?_
   refine E ?_
   have he : copyMail x p = bad 3 := by unfold copyMail mailGuard; grind
   simp [he, bad, zCluster]
 · skip
   refine D ?_
   refine cC (fun c1 => ?_) (fun c1 => ?_)
   · skip
     refine D ?_
     refine E ?_
     have he : copyMail x p = bad (clusterFault x) := by unfold copyMail mailGuard; grind
     simp [he, bad, zCluster]
   · skip
     have c0n : mailGuard x p = 0 := by unfold mailGuard; grind
     obtain ⟨hcf, n, rfl, hn2⟩ := guard_iff c0n
     have hg := fun r d => getD_set_self (l := x.mails.map (eMail true)) (i := n) (by simp; omega) r d
     have hgB := fun r l d => getD_set_app (l := x.mails.map (eMail true)) (i := n) (by simp; omega) r l d
     have hsB := fun r r2 l => set_app (l := x.mails.map (eMail true)) (i := n) (by simp; omega) r r2 l
     have hs0 := set_getD_map (eMail true) zMail hn2
     have hs1 := snoc_map (eMail true) x.mails (x.mails.getD n zMail)
     simp only [eMail] at hs0 hs1
     have hA := And.intro hg (And.intro hgB (And.intro hsB (And.intro hs0 (hs1))))
     refine D ?_
     refine kR (s_impl_Cluster_copied x hx) ?_
     refine D ?_
     refine RW_takeVN _ _ rfl rfl rfl (by simp only [go_sem, hA] <;> and_intros <;> first | with_reducible exact rfl | (first | (intro v0; exact ⟨v0, rfl⟩) | (first | with_reducible exact rfl | omega | with_reducible trivial | (intros; simp_all; done) | grind))) (fun _ => rfl) (fun v0 => by simp only [go_sem, hA]; exact rfl) (fun v => ?_)
     refine D ?_
     refine RW_callVN 33 8 144385 n 8 (dMail true) (by kernel_rfl) (s_impl_CopyMail_1b (x.nodes.map (eNode true)) ((x.mails.map (eMail true)).set n (rowV (x.mails.getD n zMail) v)) (x.wins.map eWon) (x.seals.map eSeal) (x.mails.getD n zMail) ((all_getD zMail).2 hM n (by omega)) (by simp; omega) (by simpa using h80)) true [36864] [] [114688, 114689, 114690, 114691] rfl rfl (by simp only [go_sem, hA] <;> and_intros <;> first | with_reducible exact rfl | (first | omega | with_reducible assumption | (refine noShR_set ?_ ?_ <;> simp [noShR_Mail, T.noShL, T.noSh, noShR_Entry]) | grind)) (by exact rfl) (by simp only [go_sem, hA] <;> and_intros <;> first | with_reducible exact rfl | (first | omega | with_reducible assumption | (refine noShR_set ?_ ?_ <;> simp [noShR_Mail, T.noShL, T.noSh, noShR_Entry]) | grind)) (by first | rfl | (simp only [go_sem, hA]; done)) (by simp only [go_sem, hA]; exact rfl) ?_
     refine D ?_
     refine kRk [36864] [] [144384, 144385, 144386, 144387] (s_impl_Cluster_result { x with mails := x.mails ++ [(x.mails.getD n zMail)] } 0) ?_
     refine D ?_
     refine E ?_
     have he : copyMail x n = ⟨0, { x with mails := x.mails ++ [x.mails.getD n zMail] }⟩ := by
       have : x.mails.length ≤ 80 := mails_le hcf
       unfold copyMail; rw [if_neg (by omega), if_neg (by omega)]; rfl
     simp [he, resC, eMail, List.take_of_length_le]
end
theorem s_impl_onMail_copy (x : Cluster) (hx : limC 2097152 x) (p : Int) : SemX prog 58 [aS (eCluster false x), aI p, .one (.fn 59 [])] [] [.agg (eClusterResult true (copyMail x p))] [] := by
  by_cases h : x.mails.length = 80
  · exact s_impl_onMail_copyA x hx p h
  · exact s_impl_onMail_copyB x hx p h
section
attribute [local go_sem] rowV without
theorem s_impl_onMail_drop (x : Cluster) (hx : limC 2097152 x) (p : Int)  : SemX prog 58 [aS (eCluster false x), aI p, .one (.fn 71 [.t (.ptr [.int .i64 p])])] [] [.agg (eClusterResult true (dropMail x p))] [] := by
 refine goF [(38, ⟨some 1, none, none, none⟩), (68, ⟨some 5, some 139264, some (60, true), some [8]⟩)] [] [] func58 ?_
 obtain ⟨⟨hn, hN⟩, ⟨hm, hM⟩, hw, hs⟩ := id hx
 refine D ?_
 refine kR (s_impl_ClusterFault x hx) ?_
 refine D ?_
 refine kRg (s_impl_size_Mail (x.mails.map (eMail false))) ?_
 refine D ?_
 refine kRg (s_impl_in p 0 (x.mails.length - 1)) ?_
 refine D ?_
 refine cC (fun c0 => ?_) (fun c0 => ?_)
 · skip
   refine D ?_
   refine cT ?_
   refine D ?_
   refine E ?_
   have he : dropMail x p = bad 3 := by unfold dropMail mailGuard; grind
   simp [he, bad, zCluster]
 · skip
   refine D ?_
   refine cC (fun c1 => ?_) (fun c1 => ?_)
   · skip
     refine D ?_
     refine E ?_
     have he : dropMail x p = bad (clusterFault x) := by unfold dropMail mailGuard; grind
     simp [he, bad, zCluster]
   · skip
     have c0n : mailGuard x p = 0 := by unfold mailGuard; grind
     obtain ⟨hcf, n, rfl, hn2⟩ := guard_iff c0n
     have hsw := fun v => set_without (eMail true) x.mails n (rowV (x.mails.getD n zMail) v)
     have hcp : ∀ v, cpRows none (((x.mails.map (eMail true)).set n (rowV (x.mails.getD n zMail) v)).drop (n + 1)) = True := fun v => by rw [List.drop_set_of_lt (Nat.lt_succ_self _), ← List.map_drop]; exact cpRows_Mail ..
     have hsh : ∀ v, T.noShR (((x.mails.map (eMail true)).set n (rowV (x.mails.getD n zMail) v)).take n ++ ((x.mails.map (eMail true)).set n (rowV (x.mails.getD n zMail) v)).drop (n + 1)) = True := fun v => by rw [hsw]; exact noShR_Mail _
     have hal : ∀ v, T.noShR ((x.mails.map (eMail true)).set n (rowV (x.mails.getD n zMail) v)) = True := fun v => eq_true (noShR_set (by rw [noShR_Mail]; trivial) (by simp [rowV, T.noShL, T.noSh]))
     simp only [rowV] at hsw hcp hsh hal
     have hA := And.intro hsw (And.intro hcp (And.intro hsh (hal)))
     refine D ?_
     refine kR (s_impl_Cluster_copied x hx) ?_
     refine D ?_
     refine RW_takeVN _ _ rfl rfl rfl (by simp only [go_sem, hA] <;> and_intros <;> first | with_reducible exact rfl | (first | (intro v0; exact ⟨v0, rfl⟩) | (first | with_reducible exact rfl | omega | with_reducible trivial | (intros; simp_all; done) | grind))) (fun _ => rfl) (fun v0 => by simp only [go_sem, hA]; exact rfl) (fun v => ?_)
     refine D ?_
     refine kRk [36864] [] [114688, 114689, 114690, 114691] (s_impl_DropMail_1 (x.nodes.map (eNode true)) ((x.mails.map (eMail true)).set n (rowV (x.mails.getD n zMail) v)) (x.wins.map eWon) (x.seals.map eSeal) n (by simp; omega) (by simpa using hn2) (hcp v) (hsh v) (noShR_Node _) (hal v) (noShR_Won _) (noShR_Seal _) (x.mails.getD n zMail)) ?_
     refine D ?_
     refine kRk [36864] [] [144384, 144385, 144386, 144387] (s_impl_Cluster_result (without x n) 0) ?_
     refine D ?_
     refine E ?_
     have he : dropMail x n = ⟨0, without x n⟩ := by unfold dropMail; rw [if_neg (by omega)]; rfl
     simp [he, resC, without]
end
end Go.H
end
section
set_option maxRecDepth 100000
set_option maxHeartbeats 4000000
set_option linter.unusedVariables false
set_option linter.unusedSimpArgs false
namespace Go.H
open Go Go.Proofs.Tryz
variable [Inv prog]
theorem s_impl_DropMail (x : Cluster) (hx : limC 2097152 x) (p : Int) : SemX prog 21 [aS (eCluster false x), aI p] [] [.agg (eClusterResult true (dropMail x p))] [] := by
 refine goF [] [] [] func21 ?_
 refine D ?_
 refine kR (s_impl_onMail_drop x hx p) ?_
 refine D ?_
 exact E trivial
end Go.H
end
section
set_option maxRecDepth 100000
set_option maxHeartbeats 4000000
set_option linter.unusedVariables false
set_option linter.unusedSimpArgs false
namespace Go.H
open Go Go.Proofs.Tryz
variable [Inv prog]
theorem s_laws_FnExactDropMail (x : Cluster) (hn : x.nodes.length ≤ 9223372036854775807) (hN : ∀ i < x.nodes.length, (x.nodes.getD i zNode).log.length ≤ 9223372036854775807 ∧ (x.nodes.getD i zNode).votes.length ≤ 9223372036854775807 ∧ (x.nodes.getD i zNode).next.length ≤ 9223372036854775807 ∧ (x.nodes.getD i zNode).match_.length ≤ 9223372036854775807) (hm : x.mails.length ≤ 9223372036854775807) (hM : ∀ i < x.mails.length, (x.mails.getD i zMail).entries.length ≤ 9223372036854775807) (hw : x.wins.length ≤ 9223372036854775807) (hs : x.seals.length ≤ 9223372036854775807) (p : Int) : SemX prog 4 [aS (eCluster false x), aI p] [] [rB true] [] := by
 refine goF [] [(10, 0, [32768], []), (10, 1, [12288], []), (10, 2, [], [139264, 139265, 139266, 139267]), (10, 3, [98304, 98305, 98306, 98307, 139264, 139265, 139266, 139267], [])] [] func4 ?_
 refine D ?_
 refine kR (s_laws_szCluster x 1048576 (by omega) (by omega) hn hN hm hM hw hs) ?_
 refine D ?_
 refine cC (fun c0 => ?_) (fun c0 => ?_)
 · skip
   refine D ?_
   exact E trivial
 · skip
   have hz : 0 ≤ szCluster x 1048576 := by simp at c0; omega
   have hx0 := szCluster_lim hz (by omega)
   have hx : limC 2097152 x := limC_mono (by omega) hx0
   have hr : limC 2097152 (dropMail x p).cluster := dropMail_lim hx0 p
   have hbx := sCl_bd hx
   have hbr := sCl_bd hr
   have hux := sCl_up x 1
   have hur := sCl_up (dropMail x p).cluster 1
   refine D ?_
   refine kR (s_laws_toCluster x hx) ?_
   refine D ?_
   refine RW_callN (by kernel_rfl) (s_spec_DropMail x hx p) false [] [81920, 81921, 81922, 81923] [] rfl rfl (by simp only [go_sem] <;> and_intros <;> first | with_reducible exact rfl | omega | with_reducible trivial | (intros; simp_all; done) | grind) (by first | rfl | (simp only [go_sem]; done)) (by simp only [go_sem]; exact rfl) ?_
   refine D ?_
   refine kR (s_laws_toCluster x hx) ?_
   refine D ?_
   refine kR (s_impl_DropMail x hx p) ?_
   refine D ?_
   refine kR (s_laws_eqClusterResult (dropMail x p) hr) ?_
   refine D ?_
   refine cF ?_
   refine D ?_
   refine kD (s_laws_toCluster x hx) ?_
   refine D ?_
   refine kD (s_laws_eqCluster x hx) ?_
   refine D ?_
   refine cF ?_
   refine D ?_
   refine kRk [98304, 98305, 98306, 98307] [] [] (s_laws_markCluster x hx 1 (by omega) hbx) ?_
   refine D ?_
   refine kRg (s_laws_eqClusterResult (dropMail x p) hr) ?_
   refine D ?_
   refine cC (fun c3 => ?_) (fun c3 => ?_)
   · skip
     exfalso
     revert c3
     simp [-List.getD_eq_getElem?_getD]
     omega
   · skip
     refine D ?_
     refine kRk [110593, 110594, 110595, 110596] [] [] (s_laws_markClusterResult (dropMail x p).cluster (dropMail x p).code hr 1 (by omega) hbr) ?_
     refine D ?_
     refine kR (s_laws_heldClusterResult (dropMail x p).cluster (dropMail x p).code hr 1 (by omega) hbr) ?_
     refine D ?_
     refine cC (fun c4 => ?_) (fun c4 => ?_)
     · skip
       exfalso
       revert c4
       simp [-List.getD_eq_getElem?_getD]
       omega
     · skip
       refine D ?_
       refine cF ?_
       refine D ?_
       refine kR (s_laws_toCluster x hx) ?_
       refine D ?_
       refine kR (s_impl_DropMail x hx p) ?_
       refine D ?_
       refine kR (s_laws_eqClusterResult (dropMail x p) hr) ?_
       refine D ?_
       refine cF ?_
       refine D ?_
       refine kR (s_laws_heldClusterResult (dropMail x p).cluster (dropMail x p).code hr 1 (by omega) hbr) ?_
       refine D ?_
       refine cC (fun c7 => ?_) (fun c7 => ?_)
       · skip
         exfalso
         revert c7
         simp [-List.getD_eq_getElem?_getD]
         omega
       · skip
         refine D ?_
         refine cF ?_
         refine D ?_
         exact E trivial
end Go.H
end
