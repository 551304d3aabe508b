/- What the functions that the law reaches compute, each by its code, against pure functions. Conditions: those that each theorem states. -/
import Derived.Test.YtlnjmnmkafblkaaGreatBW1
section
set_option maxRecDepth 100000
set_option maxHeartbeats 4000000
set_option linter.unusedVariables false
set_option linter.unusedSimpArgs false
namespace Go.H
open Go Go.Proofs.Tryz
variable [Inv prog]
theorem s_laws_FnExactCrashAt (x : Cluster) (hn : x.nodes.length ≤ 9223372036854775807) (hN : ∀ i < x.nodes.length, (x.nodes.getD i zNode).log.length ≤ 9223372036854775807 ∧ (x.nodes.getD i zNode).votes.length ≤ 9223372036854775807 ∧ (x.nodes.getD i zNode).next.length ≤ 9223372036854775807 ∧ (x.nodes.getD i zNode).match_.length ≤ 9223372036854775807) (hm : x.mails.length ≤ 9223372036854775807) (hM : ∀ i < x.mails.length, (x.mails.getD i zMail).entries.length ≤ 9223372036854775807) (hw : x.wins.length ≤ 9223372036854775807) (hs : x.seals.length ≤ 9223372036854775807) (p : Int) : SemX prog 6 [aS (eCluster false x), aI p] [] [rB true] [] := by
 refine goF [] [(10, 0, [32768], []), (10, 1, [12288], []), (10, 2, [], [139264, 139265, 139266, 139267]), (10, 3, [98304, 98305, 98306, 98307, 139264, 139265, 139266, 139267], [])] func6 ?_
 refine D ?_
 refine kR (s_laws_szCluster x 1048576 (by omega) (by omega) hn hN hm hM hw hs) ?_
 refine D ?_
 refine cC (fun c0 => ?_) (fun c0 => ?_)
 · skip
   refine D ?_
   exact E trivial
 · skip
   have hz : 0 ≤ szCluster x 1048576 := by simp at c0; omega
   have hx0 := szCluster_lim hz (by omega)
   have hx : limC 2097152 x := limC_mono (by omega) hx0
   have hr : limC 2097152 (atNode x p (crashNode (x.nodes.getD p.toNat zNode))).cluster := atNode_lim hx0 p (crash_lim (lim_getD hx0.1.2 _))
   have hbx := sCl_bd hx
   have hbr := sCl_bd hr
   have hux := sCl_up x 1
   have hur := sCl_up (atNode x p (crashNode (x.nodes.getD p.toNat zNode))).cluster 1
   refine D ?_
   refine kR (s_laws_toCluster x hx) ?_
   refine D ?_
   refine kR (s_spec_CrashAt x hx p) ?_
   refine D ?_
   refine kR (s_laws_toCluster x hx) ?_
   refine D ?_
   refine kR (s_impl_CrashAt x hx p) ?_
   refine D ?_
   refine kR (s_laws_eqClusterResult (atNode x p (crashNode (x.nodes.getD p.toNat zNode))) hr) ?_
   refine D ?_
   refine cF ?_
   refine D ?_
   refine kD (s_laws_toCluster x hx) ?_
   refine D ?_
   refine kD (s_laws_eqCluster x hx) ?_
   refine D ?_
   refine cF ?_
   refine D ?_
   refine kRk [98304, 98305, 98306, 98307] [] [] (s_laws_markCluster x hx 1 (by omega) hbx) ?_
   refine D ?_
   refine kRg (s_laws_eqClusterResult (atNode x p (crashNode (x.nodes.getD p.toNat zNode))) hr) ?_
   refine D ?_
   refine cC (fun c3 => ?_) (fun c3 => ?_)
   · skip
     exfalso
     revert c3
     simp [-List.getD_eq_getElem?_getD]
     omega
   · skip
     refine D ?_
     refine kRk [110593, 110594, 110595, 110596] [] [] (s_laws_markClusterResult (atNode x p (crashNode (x.nodes.getD p.toNat zNode))).cluster (atNode x p (crashNode (x.nodes.getD p.toNat zNode))).code hr 1 (by omega) hbr) ?_
     refine D ?_
     refine kR (s_laws_heldClusterResult (atNode x p (crashNode (x.nodes.getD p.toNat zNode))).cluster (atNode x p (crashNode (x.nodes.getD p.toNat zNode))).code hr 1 (by omega) hbr) ?_
     refine D ?_
     refine cC (fun c4 => ?_) (fun c4 => ?_)
     · skip
       exfalso
       revert c4
       simp [-List.getD_eq_getElem?_getD]
       omega
     · skip
       refine D ?_
       refine cF ?_
       refine D ?_
       refine kR (s_laws_toCluster x hx) ?_
       refine D ?_
       refine kR (s_impl_CrashAt x hx p) ?_
       refine D ?_
       refine kR (s_laws_eqClusterResult (atNode x p (crashNode (x.nodes.getD p.toNat zNode))) hr) ?_
       refine D ?_
       refine cF ?_
       refine D ?_
       refine kR (s_laws_heldClusterResult (atNode x p (crashNode (x.nodes.getD p.toNat zNode))).cluster (atNode x p (crashNode (x.nodes.getD p.toNat zNode))).code hr 1 (by omega) hbr) ?_
       refine D ?_
       refine cC (fun c7 => ?_) (fun c7 => ?_)
       · skip
         exfalso
         revert c7
         simp [-List.getD_eq_getElem?_getD]
         omega
       · skip
         refine D ?_
         refine cF ?_
         refine D ?_
         exact E trivial
end Go.H
end
