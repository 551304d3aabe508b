/- What the functions that the law reaches compute, each by its code, against pure functions. Conditions: those that each theorem states. -/
import Derived.Test.YtlnjmnmkafblkaaGreatCW1
section
set_option maxRecDepth 100000
set_option maxHeartbeats 4000000
set_option linter.unusedVariables false
set_option linter.unusedSimpArgs false
namespace Go.H
open Go Go.Proofs.Tryz
variable [Inv prog]
theorem s_slices_Clone_Won (xs : List Won) (hl : xs.length ≤ 2097152) : SemX prog 166 [aT (.sl false 2 (xs.map eWon))] [] [.one (.sl true 2 (xs.map eWon))] [] := by
 refine goF [] [] func166 ?_
 refine D ?_
 refine RW_isn (fun b => xs.map eWon ≠ [] → b = false) rfl rfl (by simp only [go_sem] <;> and_intros <;> first | with_reducible exact rfl | omega | with_reducible trivial | (intros; simp_all; done) | grind) (fun b hb => ?_)
 refine D ?_
 refine cC (fun c0 => ?_) (fun c0 => ?_)
 · skip
   have hx : xs = [] := by
     cases xs with
     | nil => rfl
     | cons a l => have := hb (by simp); rw [this] at c0; cases c0
   subst hx
   refine D ?_
   exact E trivial
 · skip
   refine D ?_
   exact E trivial
end Go.H
end
section
set_option maxRecDepth 100000
set_option maxHeartbeats 4000000
set_option linter.unusedVariables false
set_option linter.unusedSimpArgs false
namespace Go.H
open Go Go.Proofs.Tryz
variable [Inv prog]
theorem s_slices_Clone_Seal (xs : List Seal) (hl : xs.length ≤ 2097152) : SemX prog 167 [aT (.sl false 10 (xs.map eSeal))] [] [.one (.sl true 10 (xs.map eSeal))] [] := by
 refine goF [] [] func167 ?_
 refine D ?_
 refine RW_isn (fun b => xs.map eSeal ≠ [] → b = false) rfl rfl (by simp only [go_sem] <;> and_intros <;> first | with_reducible exact rfl | omega | with_reducible trivial | (intros; simp_all; done) | grind) (fun b hb => ?_)
 refine D ?_
 refine cC (fun c0 => ?_) (fun c0 => ?_)
 · skip
   have hx : xs = [] := by
     cases xs with
     | nil => rfl
     | cons a l => have := hb (by simp); rw [this] at c0; cases c0
   subst hx
   refine D ?_
   exact E trivial
 · skip
   refine D ?_
   exact E trivial
end Go.H
end
section
set_option maxRecDepth 100000
set_option maxHeartbeats 4000000
set_option linter.unusedVariables false
set_option linter.unusedSimpArgs false
namespace Go.H
open Go Go.Proofs.Tryz
variable [Inv prog]
theorem s_impl_Cluster_copied (x : Cluster) (hx : limC 2097152 x) : SemX prog 117 [aS (eCluster false x)] [] [.agg (eCluster true x)] [] := by
 refine goF [(30, ⟨some 4, some 61440, some (34, true), none⟩)] [(1, 1, [8192], []), (1, 2, [], [45056]), (1, 4, [8192], []), (1, 5, [], [57344]), (1, 6, [], [61440, 61441]), (1, 7, [], [16384]), (1, 8, [16384], [16384]), (5, 1, [16384], []), (5, 2, [24576], []), (5, 3, [], [106500, 106503, 106504, 106505]), (5, 4, [106500, 106503, 106504, 106505], [110592, 106500, 106503, 106504, 106505]), (5, 5, [61440, 110592], [114688, 61440, 110592]), (5, 7, [16384], [16384]), (10, 1, [16384], []), (10, 2, [32768], []), (10, 3, [], [167944]), (10, 4, [167944], [172032, 167944]), (10, 5, [61441, 172032], [176128, 61441, 172032]), (10, 7, [16384], [16384])] func117 ?_
 obtain ⟨⟨hn, hN⟩, ⟨hm, hM⟩, hw, hs⟩ := id hx
 refine D ?_
 refine kD (s_slices_Clone_Won x.wins hw) ?_
 refine D ?_
 refine kD (s_slices_Clone_Seal x.seals hs) ?_
 refine D ?_
 refine L (α := Nat) (fun i => [(18, .int .i64 i)]) (fun i => [(16384, .var [.ref 61440 0 i, .ref 61441 0 0, .ref 45056 0 x.wins.length, .ref 57344 0 x.seals.length]), (61440, .arr ⟨10, (x.nodes.take i).map (eNode true), 1, none⟩)]) (fun i => x.nodes.length - i) (fun i => i ≤ x.nodes.length) 0 [] (fun i hI => ?_)
 refine D ?_
 refine cC (fun c0 => ?_) (fun c0 => ?_)
 · skip
   refine D ?_
   refine kD (s_impl_Node_copied (x.nodes.getD i zNode) ((all_getD zNode).2 hN i (by omega))) ?_
   refine D ?_
   refine lp_next (i+1) [(61440,114688)] ?_ ?_ ?_
   · simp only [go_sem] <;> and_intros <;> first | with_reducible exact rfl | (first | omega | (rw [take_succ_map _ zNode (by omega)]; simp only [eNode]))
   · omega
   · omega
 · skip
   obtain rfl : i = x.nodes.length := by omega
   refine D ?_
   refine L (α := Nat) (fun i => [(33, .int .i64 i)]) (fun i => [(16384, .var [.ref 61440 0 x.nodes.length, .ref 61441 0 i, .ref 45056 0 x.wins.length, .ref 57344 0 x.seals.length]), (61441, .arr ⟨9, (x.mails.take i).map (eMail true), 1, none⟩)]) (fun i => x.mails.length - i) (fun i => i ≤ x.mails.length) 0 [] (fun i hI => ?_)
   refine D ?_
   refine cC (fun c1 => ?_) (fun c1 => ?_)
   · skip
     refine D ?_
     refine kD (s_impl_copiedMail (x.mails.getD i zMail) ((all_getD zMail).2 hM i (by omega))) ?_
     refine D ?_
     refine lp_next (i+1) [(61441,176128)] ?_ ?_ ?_
     · simp only [go_sem] <;> and_intros <;> first | with_reducible exact rfl | (first | omega | (rw [take_succ_map _ zMail (by omega)]; simp only [eMail]))
     · omega
     · omega
   · skip
     obtain rfl : i = x.mails.length := by omega
     refine D ?_
     exact E trivial
end Go.H
end
section
set_option maxRecDepth 100000
set_option maxHeartbeats 4000000
set_option linter.unusedVariables false
set_option linter.unusedSimpArgs false
namespace Go.H
open Go Go.Proofs.Tryz
variable [Inv prog]
theorem s_impl_Cluster_result (x : Cluster) (c : Int) : SemX prog 118 [.one (.ptr 0 0), aI c] [.var (eCluster true x)] [.agg (eClusterResult true (resC c x))] [.var [.junk, .junk, .junk, .junk]] := by
 refine goF [] [] func118 ?_
 refine D ?_
 refine cC (fun c0 => ?_) (fun c0 => ?_)
 · skip
   refine D ?_
   refine E ?_
   first
   | exact trivial
   | simp [resC, bad, zCluster, *]
 · skip
   refine D ?_
   refine E ?_
   first
   | exact trivial
   | simp [resC, bad, zCluster, *]
theorem s_impl_Cluster_result_no (c : Int) (hc : c ≠ 0) : SemX prog 118 [.one (.ptr 0 0), aI c] [.var [.junk, .junk, .junk, .junk]] [.agg (eClusterResult true (bad c))] [.var [.junk, .junk, .junk, .junk]] := by
 refine goF [] [] func118 ?_
 refine D ?_
 refine cC (fun c0 => ?_) (fun c0 => ?_)
 · skip
   refine D ?_
   refine E ?_
   first
   | exact trivial
   | simp [bad, zCluster]
 · skip
   exfalso
   simp [hc] at c0
end Go.H
end
section
set_option maxRecDepth 100000
set_option maxHeartbeats 4000000
set_option linter.unusedVariables false
set_option linter.unusedSimpArgs false
namespace Go.H
open Go Go.Proofs.Tryz
variable [Inv prog]
theorem s_impl_onNode_ok (x : Cluster) (hx : limC 2097152 x) (p : Int) (fn : Nat) (r : NodeResult) (hq : callB prog fn = true) (hf : ∀ n : Nat, p = n → n < x.nodes.length → SemX prog fn [aS (eNode false (x.nodes.getD n zNode))] [] [.agg (eNodeResult true r)] []) (hr : limR 2097152 r) (hc : r.node.commit ≤ r.node.log.length) (hid : ∀ n : Nat, p = n → n < x.nodes.length → clusterFault x = 0 → r.code = 0 → r.node.id = n) (hok : doOk x p.toNat r = true) : SemX prog 96 [aS (eCluster false x), aI p, .one (.fn fn [])] [] [.agg (eClusterResult true (atNode x p r))] [] := by
 refine goF [] [] func96 ?_
 obtain ⟨⟨hn, hN⟩, ⟨hm, hM⟩, hw, hs⟩ := id hx
 refine D ?_
 refine kR (s_impl_ClusterFault x hx) ?_
 refine D ?_
 refine kRg (s_impl_Cluster_isPlace x p hn) ?_
 refine D ?_
 refine cC (fun c0 => ?_) (fun c0 => ?_)
 · skip
   refine D ?_
   refine cT ?_
   refine D ?_
   refine E ?_
   have he : atNode x p r = bad 3 := by unfold atNode nodeGuard; grind
   simp [he, bad, zCluster]
 · skip
   refine D ?_
   refine cC (fun c1 => ?_) (fun c1 => ?_)
   · skip
     refine D ?_
     refine E ?_
     have he : atNode x p r = bad (clusterFault x) := by unfold atNode nodeGuard; grind
     simp [he, bad, zCluster]
   · skip
     have c0n : nodeGuard x p = 0 := by unfold nodeGuard; grind
     obtain ⟨hcf, n, rfl, hn2⟩ := guardN_iff c0n
     have hcw := cl_wins hcf
     have hid2 := hid n rfl hn2 hcf
     refine D ?_
     refine kR (s_impl_Cluster_copied x hx) ?_
     refine D ?_
     refine kR (hf n rfl hn2) ?_ hq
     refine D ?_
     refine kRk [36864] [126981, 126984, 126985, 126986, 126987] [98304, 98305, 98306, 98307] (s_impl_Cluster_do_ok x hx n hn2 r hr hc hid2 hcw.1 hok) ?_
     refine D ?_
     refine kRk [36864] [] [132096, 132097, 132098, 132099] (s_impl_Cluster_result (doC x n r) 0) ?_
     refine D ?_
     refine E ?_
     have hok2 : doOk x n r = true := hok
     have he : atNode x n r = ⟨0, doC x n r⟩ := by unfold atNode doR; rw [if_neg (by omega), if_pos hok]; rfl
     simp [he, resC]
theorem s_impl_onNode_no (x : Cluster) (hx : limC 2097152 x) (p : Int) (fn : Nat) (r : NodeResult) (hq : callB prog fn = true) (hf : ∀ n : Nat, p = n → n < x.nodes.length → SemX prog fn [aS (eNode false (x.nodes.getD n zNode))] [] [.agg (eNodeResult true r)] []) (hr : limR 2097152 r) (hc : r.node.commit ≤ r.node.log.length) (hid : ∀ n : Nat, p = n → n < x.nodes.length → clusterFault x = 0 → r.code = 0 → r.node.id = n) (hok : doOk x p.toNat r = false) : SemX prog 96 [aS (eCluster false x), aI p, .one (.fn fn [])] [] [.agg (eClusterResult true (atNode x p r))] [] := by
 refine goF [] [] func96 ?_
 obtain ⟨⟨hn, hN⟩, ⟨hm, hM⟩, hw, hs⟩ := id hx
 refine D ?_
 refine kR (s_impl_ClusterFault x hx) ?_
 refine D ?_
 refine kRg (s_impl_Cluster_isPlace x p hn) ?_
 refine D ?_
 refine cC (fun c0 => ?_) (fun c0 => ?_)
 · skip
   refine D ?_
   refine cT ?_
   refine D ?_
   refine E ?_
   have he : atNode x p r = bad 3 := by unfold atNode nodeGuard; grind
   simp [he, bad, zCluster]
 · skip
   refine D ?_
   refine cC (fun c1 => ?_) (fun c1 => ?_)
   · skip
     refine D ?_
     refine E ?_
     have he : atNode x p r = bad (clusterFault x) := by unfold atNode nodeGuard; grind
     simp [he, bad, zCluster]
   · skip
     have c0n : nodeGuard x p = 0 := by unfold nodeGuard; grind
     obtain ⟨hcf, n, rfl, hn2⟩ := guardN_iff c0n
     have hcw := cl_wins hcf
     have hid2 := hid n rfl hn2 hcf
     refine D ?_
     refine kR (s_impl_Cluster_copied x hx) ?_
     refine D ?_
     refine kR (hf n rfl hn2) ?_ hq
     refine D ?_
     refine kRk [36864] [126981, 126984, 126985, 126986, 126987] [98304, 98305, 98306, 98307] (s_impl_Cluster_do_no x hx n hn2 r hr hc hid2 hcw.1 hok) ?_
     refine D ?_
     refine kRk [36864] [] [] (s_impl_Cluster_result_no (if r.code ≠ 0 then r.code else 2) (by split <;> omega)) ?_
     refine D ?_
     refine E ?_
     have he : atNode x n r = bad (if r.code ≠ 0 then r.code else 2) := by unfold atNode doR; rw [if_neg (by omega), if_neg (by rw [hok]; simp)]
     simp [he]
theorem s_impl_onNode (x : Cluster) (hx : limC 2097152 x) (p : Int) (fn : Nat) (r : NodeResult) (hq : callB prog fn = true) (hf : ∀ n : Nat, p = n → n < x.nodes.length → SemX prog fn [aS (eNode false (x.nodes.getD n zNode))] [] [.agg (eNodeResult true r)] []) (hr : limR 2097152 r) (hc : r.node.commit ≤ r.node.log.length) (hid : ∀ n : Nat, p = n → n < x.nodes.length → clusterFault x = 0 → r.code = 0 → r.node.id = n) : SemX prog 96 [aS (eCluster false x), aI p, .one (.fn fn [])] [] [.agg (eClusterResult true (atNode x p r))] [] := by
  cases h : doOk x p.toNat r
  · exact s_impl_onNode_no x hx p fn r hq hf hr hc hid h
  · exact s_impl_onNode_ok x hx p fn r hq hf hr hc hid h
theorem s_impl_onNodeAsk_ok (x : Cluster) (hx : limC 2097152 x) (p : Int) (cl sq : Int) (cm : Cmd) (fn : Nat) (r : NodeResult) (hq : callB prog fn = true) (hf : ∀ n : Nat, p = n → n < x.nodes.length → SemX prog fn [aS (eNode false (x.nodes.getD n zNode)), aT (.ptr [.int .i64 cl]), aT (.ptr [.int .i64 sq]), aT (.ptr (eCmd cm))] [] [.agg (eNodeResult true r)] []) (hr : limR 2097152 r) (hc : r.node.commit ≤ r.node.log.length) (hid : ∀ n : Nat, p = n → n < x.nodes.length → clusterFault x = 0 → r.code = 0 → r.node.id = n) (hok : doOk x p.toNat r = true) : SemX prog 96 [aS (eCluster false x), aI p, .one (.fn fn [.t (.ptr [.int .i64 cl]), .t (.ptr [.int .i64 sq]), .t (.ptr (eCmd cm))])] [] [.agg (eClusterResult true (atNode x p r))] [] := by
 refine goF [] [] func96 ?_
 obtain ⟨⟨hn, hN⟩, ⟨hm, hM⟩, hw, hs⟩ := id hx
 refine D ?_
 refine kR (s_impl_ClusterFault x hx) ?_
 refine D ?_
 refine kRg (s_impl_Cluster_isPlace x p hn) ?_
 refine D ?_
 refine cC (fun c0 => ?_) (fun c0 => ?_)
 · skip
   refine D ?_
   refine cT ?_
   refine D ?_
   refine E ?_
   have he : atNode x p r = bad 3 := by unfold atNode nodeGuard; grind
   simp [he, bad, zCluster]
 · skip
   refine D ?_
   refine cC (fun c1 => ?_) (fun c1 => ?_)
   · skip
     refine D ?_
     refine E ?_
     have he : atNode x p r = bad (clusterFault x) := by unfold atNode nodeGuard; grind
     simp [he, bad, zCluster]
   · skip
     have c0n : nodeGuard x p = 0 := by unfold nodeGuard; grind
     obtain ⟨hcf, n, rfl, hn2⟩ := guardN_iff c0n
     have hcw := cl_wins hcf
     have hid2 := hid n rfl hn2 hcf
     refine D ?_
     refine kR (s_impl_Cluster_copied x hx) ?_
     refine D ?_
     refine kR (hf n rfl hn2) ?_ hq
     refine D ?_
     refine kRk [36864] [126981, 126984, 126985, 126986, 126987] [98304, 98305, 98306, 98307] (s_impl_Cluster_do_ok x hx n hn2 r hr hc hid2 hcw.1 hok) ?_
     refine D ?_
     refine kRk [36864] [] [132096, 132097, 132098, 132099] (s_impl_Cluster_result (doC x n r) 0) ?_
     refine D ?_
     refine E ?_
     have hok2 : doOk x n r = true := hok
     have he : atNode x n r = ⟨0, doC x n r⟩ := by unfold atNode doR; rw [if_neg (by omega), if_pos hok]; rfl
     simp [he, resC]
theorem s_impl_onNodeAsk_no (x : Cluster) (hx : limC 2097152 x) (p : Int) (cl sq : Int) (cm : Cmd) (fn : Nat) (r : NodeResult) (hq : callB prog fn = true) (hf : ∀ n : Nat, p = n → n < x.nodes.length → SemX prog fn [aS (eNode false (x.nodes.getD n zNode)), aT (.ptr [.int .i64 cl]), aT (.ptr [.int .i64 sq]), aT (.ptr (eCmd cm))] [] [.agg (eNodeResult true r)] []) (hr : limR 2097152 r) (hc : r.node.commit ≤ r.node.log.length) (hid : ∀ n : Nat, p = n → n < x.nodes.length → clusterFault x = 0 → r.code = 0 → r.node.id = n) (hok : doOk x p.toNat r = false) : SemX prog 96 [aS (eCluster false x), aI p, .one (.fn fn [.t (.ptr [.int .i64 cl]), .t (.ptr [.int .i64 sq]), .t (.ptr (eCmd cm))])] [] [.agg (eClusterResult true (atNode x p r))] [] := by
 refine goF [] [] func96 ?_
 obtain ⟨⟨hn, hN⟩, ⟨hm, hM⟩, hw, hs⟩ := id hx
 refine D ?_
 refine kR (s_impl_ClusterFault x hx) ?_
 refine D ?_
 refine kRg (s_impl_Cluster_isPlace x p hn) ?_
 refine D ?_
 refine cC (fun c0 => ?_) (fun c0 => ?_)
 · skip
   refine D ?_
   refine cT ?_
   refine D ?_
   refine E ?_
   have he : atNode x p r = bad 3 := by unfold atNode nodeGuard; grind
   simp [he, bad, zCluster]
 · skip
   refine D ?_
   refine cC (fun c1 => ?_) (fun c1 => ?_)
   · skip
     refine D ?_
     refine E ?_
     have he : atNode x p r = bad (clusterFault x) := by unfold atNode nodeGuard; grind
     simp [he, bad, zCluster]
   · skip
     have c0n : nodeGuard x p = 0 := by unfold nodeGuard; grind
     obtain ⟨hcf, n, rfl, hn2⟩ := guardN_iff c0n
     have hcw := cl_wins hcf
     have hid2 := hid n rfl hn2 hcf
     refine D ?_
     refine kR (s_impl_Cluster_copied x hx) ?_
     refine D ?_
     refine kR (hf n rfl hn2) ?_ hq
     refine D ?_
     refine kRk [36864] [126981, 126984, 126985, 126986, 126987] [98304, 98305, 98306, 98307] (s_impl_Cluster_do_no x hx n hn2 r hr hc hid2 hcw.1 hok) ?_
     refine D ?_
     refine kRk [36864] [] [] (s_impl_Cluster_result_no (if r.code ≠ 0 then r.code else 2) (by split <;> omega)) ?_
     refine D ?_
     refine E ?_
     have he : atNode x n r = bad (if r.code ≠ 0 then r.code else 2) := by unfold atNode doR; rw [if_neg (by omega), if_neg (by rw [hok]; simp)]
     simp [he]
theorem s_impl_onNodeAsk (x : Cluster) (hx : limC 2097152 x) (p : Int) (cl sq : Int) (cm : Cmd) (fn : Nat) (r : NodeResult) (hq : callB prog fn = true) (hf : ∀ n : Nat, p = n → n < x.nodes.length → SemX prog fn [aS (eNode false (x.nodes.getD n zNode)), aT (.ptr [.int .i64 cl]), aT (.ptr [.int .i64 sq]), aT (.ptr (eCmd cm))] [] [.agg (eNodeResult true r)] []) (hr : limR 2097152 r) (hc : r.node.commit ≤ r.node.log.length) (hid : ∀ n : Nat, p = n → n < x.nodes.length → clusterFault x = 0 → r.code = 0 → r.node.id = n) : SemX prog 96 [aS (eCluster false x), aI p, .one (.fn fn [.t (.ptr [.int .i64 cl]), .t (.ptr [.int .i64 sq]), .t (.ptr (eCmd cm))])] [] [.agg (eClusterResult true (atNode x p r))] [] := by
  cases h : doOk x p.toNat r
  · exact s_impl_onNodeAsk_no x hx p cl sq cm fn r hq hf hr hc hid h
  · exact s_impl_onNodeAsk_ok x hx p cl sq cm fn r hq hf hr hc hid h
end Go.H
end
section
set_option maxRecDepth 100000
set_option maxHeartbeats 4000000
set_option linter.unusedVariables false
set_option linter.unusedSimpArgs false
namespace Go.H
open Go Go.Proofs.Tryz
variable [Inv prog]
theorem s_impl_Node_isQuorum (x : Node) (c : Int) (h0 : 0 ≤ c) (h1 : c ≤ 4194304) : SemX prog 144 [aT (.ptr (eNode false x)), aI c] [] [rB (quor x c)] [] := by
 refine goF [(14, ⟨some 1, none, none, none⟩)] [] func144 ?_
 refine D ?_
 refine E ?_
 first
 | exact trivial
 | simp only [go_sem, quor]
end Go.H
end
section
set_option maxRecDepth 100000
set_option maxHeartbeats 4000000
set_option linter.unusedVariables false
set_option linter.unusedSimpArgs false
namespace Go.H
open Go Go.Proofs.Tryz
variable [Inv prog]
theorem s_impl_Node_agree (x : Node) (hx : limN 2097152 x) (h0 : 0 ≤ x.commit) (h1 : x.commit ≤ x.log.length) : SemX prog 149 [.one (.ptr 0 0)] [.var (eNode true x)] [] [.var (eNode true (agreed x))] := by
 refine goF [(38, ⟨some 1, none, none, none⟩), (66, ⟨some 1, none, none, none⟩), (88, ⟨some 1, none, none, none⟩)] [(10, 2, [1000000, 1000005, 1000008, 1000009, 1000010], []), (10, 7, [1000000], []), (10, 10, [1000005], []), (10, 12, [1000005], []), (10, 16, [1000000], [])] func149 ?_
 obtain ⟨hx1, hx2, hx3, hx4⟩ := id hx
 refine D ?_
 refine kR (s_impl_size_Entry (x.log.map eEntry)) ?_
 refine D ?_
 refine L (α := Nat) (fun n => [(2, .int .i64 n)]) (fun n => []) (fun n => n) (fun n => n ≤ x.log.length ∧ x.commit ≤ n ∧ agI x = agN x x.commit.toNat n) x.log.length [] (fun n hL => ?_) (hi := by exact ⟨Nat.le_refl _, h1, rfl⟩)
 obtain ⟨hn, hc, ha⟩ := hL
 refine D ?_
 refine cC (fun c0 => ?_) (fun c0 => ?_)
 · skip
   refine D ?_
   refine L (α := Nat) (fun j => [(3, .int .i64 (cntGe (x.match_.take j) n)), (24, .int .i64 j)]) (fun j => []) (fun j => x.match_.length - j) (fun j => j ≤ x.match_.length) 0 [] (fun j hL => ?_) (by (simp only [go_sem] <;> and_intros <;> first | with_reducible exact rfl | (simp [cntGe]; done) | omega))
   obtain hj := hL
   have hcb := cntGe_take_le x.match_ n j
   refine D ?_
   refine cC (fun c1 => ?_) (fun c1 => ?_)
   · skip
     refine D ?_
     refine cC (fun c2 => ?_) (fun c2 => ?_)
     · skip
       refine D ?_
       refine lp_next (j+1) [] ?_ ?_ ?_
       · simp only [go_sem] <;> and_intros <;> first | with_reducible exact rfl | (first | omega | (refine int_eq ?_; rw [cntGe_succ (by omega)]; first | (rw [if_pos (by assumption)]; omega) | (rw [if_neg (by assumption)]; omega)))
       · omega
       · omega
     · skip
       refine D ?_
       refine lp_next (j+1) [] ?_ ?_ ?_
       · simp only [go_sem] <;> and_intros <;> first | with_reducible exact rfl | (first | omega | (refine int_eq ?_; rw [cntGe_succ (by omega)]; first | (rw [if_pos (by assumption)]; omega) | (rw [if_neg (by assumption)]; omega)))
       · omega
       · omega
   · skip
     obtain rfl : j = x.match_.length := by omega
     refine D ?_
     refine kD (s_impl_Node_isQuorum x (cntGe x.match_ n) (by omega) (by have := cntGe_le x.match_ n; omega)) ?_
     refine D ?_
     refine cC (fun c3 => ?_) (fun c3 => ?_)
     · skip
       refine D ?_
       refine E ?_
       have e : agI x = n := by rw [ha, agN_ok x (by omega) (by unfold agOk; simp_all)]
       simp only [agreed, e]
     · skip
       refine D ?_
       refine lp_next (n - 1) [] ?_ ?_ ?_
       · simp only [go_sem] <;> and_intros <;> first | with_reducible exact rfl | (first | omega | (refine int_eq ?_; omega))
       · refine ⟨by omega, by omega, ?_⟩
         rw [ha, agN_no x (by omega) (by unfold agOk; simp_all)]
       · omega
 · skip
   have hn2 : (n : Int) = x.commit := by omega
   refine D ?_
   refine E ?_
   have e : agI x = x.commit := by rw [ha, agN_le x (c := x.commit.toNat) (n := n) (by omega)]; omega
   simp only [agreed, e]
end Go.H
end
section
set_option maxRecDepth 100000
set_option maxHeartbeats 4000000
set_option linter.unusedVariables false
set_option linter.unusedSimpArgs false
namespace Go.H
open Go Go.Proofs.Tryz
variable [Inv prog]
theorem s_impl_leadFault (x : Node) (hx : limN 2097152 x) : SemX prog 156 [aS (eNode false x)] [] [rI (leadF x)] [] := by
 refine goF [] [] func156 ?_
 refine D ?_
 refine kR (s_impl_NodeFault x hx) ?_
 refine D ?_
 refine cC (fun c0 => ?_) (fun c0 => ?_)
 · skip
   refine D ?_
   refine E ?_
   first
   | exact trivial
   | unfold leadF
     grind
 · skip
   refine D ?_
   refine E ?_
   first
   | exact trivial
   | unfold leadF
     grind
end Go.H
end
section
set_option maxRecDepth 100000
set_option maxHeartbeats 4000000
set_option linter.unusedVariables false
set_option linter.unusedSimpArgs false
namespace Go.H
open Go Go.Proofs.Tryz
variable [Inv prog]
section
attribute [local go_sem] asked set_map_I app_map_E
theorem s_impl_AskNode (x : Node) (hx2 : limN 2097152 x) (e : Entry) : SemX prog 102 [aS (eNode false x), aS (eEntry e)] [] [.agg (eNodeResult true (askNode x e))] [] := by
 refine goF [(108, ⟨some 1, none, none, none⟩)] [(12, 1, [28672], []), (12, 3, [12288], []), (12, 5, [28672], []), (12, 7, [12288], []), (12, 9, [28672], []), (12, 10, [155648], []), (12, 12, [28672], []), (12, 13, [155648], []), (12, 15, [135177], []), (12, 16, [135177], [135177]), (12, 17, [135176], []), (12, 18, [135176], [135176])] func102 ?_
 obtain ⟨hx3, hx4, hx5, hx6⟩ := id hx2
 refine D ?_
 refine kR (s_impl_leadFault x hx2) ?_
 refine D ?_
 refine cC (fun c0 => ?_) (fun c0 => ?_)
 · skip
   obtain ⟨nf0, nr⟩ := leadF_ok c0
   refine D ?_
   refine kR (s_impl_EntryFault e) ?_
   refine D ?_
   refine cC (fun c1 => ?_) (fun c1 => ?_)
   · skip
     refine D ?_
     refine E ?_
     have he : askNode x e = badN (entryFault e) := by unfold askNode; grind
     simp [he, badN, zNode, asked]
   · skip
     refine D ?_
     refine cC (fun c2 => ?_) (fun c2 => ?_)
     · skip
       refine D ?_
       refine E ?_
       have he : askNode x e = badN 1 := by unfold askNode; grind
       simp [he, badN, zNode, asked]
     · skip
       refine D ?_
       refine cC (fun c3 => ?_) (fun c3 => ?_)
       · skip
         refine D ?_
         refine E ?_
         have he : askNode x e = badN 2 := by unfold askNode; grind
         simp [he, badN, zNode, asked]
       · skip
         obtain ⟨⟨p1, p2, p3, p4, p5, p6, p7, p8⟩, p9, _, ⟨p10, p11⟩, _⟩ := node_ok (x := x) (by omega)
         obtain ⟨l1, l2⟩ := node_lead (x := x) (by omega) (by omega)
         have l3 := log_le p9
         refine D ?_
         refine kR (s_impl_Node_copied x hx2) ?_
         refine D ?_
         refine kD (s_impl_size_Entry ((x.log ++ [e]).map eEntry)) ?_
         refine D ?_
         refine kD (s_impl_size_Entry ((x.log ++ [e]).map eEntry)) ?_
         refine D ?_
         refine kRk [28672] [] [155648, 135175, 135176, 135177] (s_impl_Node_agree (asked x e) ⟨by simp [asked]; omega, by simpa [asked] using hx2.2.1, by simpa [asked] using hx2.2.2.1, by simpa [asked] using hx2.2.2.2⟩ (by simpa [asked] using p10) (by simp [asked]; omega)) ?_
         refine D ?_
         refine E ?_
         have he : askNode x e = ⟨0, agreed (asked x e), []⟩ := by unfold askNode; grind
         simp [he, badN, zNode, asked]
 · skip
   refine D ?_
   refine cC (fun c1 => ?_) (fun c1 => ?_)
   · skip
     refine D ?_
     refine E ?_
     have he : askNode x e = badN (leadF x) := by unfold askNode leadF at *; grind
     simp [he, badN, zNode]
   · skip
     exact absurd c1 c0
end
end Go.H
end
section
set_option maxRecDepth 100000
set_option maxHeartbeats 4000000
set_option linter.unusedVariables false
set_option linter.unusedSimpArgs false
namespace Go.H
open Go Go.Proofs.Tryz
variable [Inv prog]
theorem s_impl_AskAt_1 (x : Node) (hx2 : limN 2097152 x) (cl sq : Int) (cm : Cmd) : SemX prog 101 [aS (eNode false x), aT (.ptr [.int .i64 cl]), aT (.ptr [.int .i64 sq]), aT (.ptr (eCmd cm))] [] [.agg (eNodeResult true (askNode x ⟨x.term, cl, sq, cm⟩))] [] := by
 refine goF [] [] func101 ?_
 refine D ?_
 refine kR (s_impl_AskNode x hx2 ⟨x.term, cl, sq, cm⟩) ?_
 refine D ?_
 exact E trivial
end Go.H
end
section
set_option maxRecDepth 100000
set_option maxHeartbeats 4000000
set_option linter.unusedVariables false
set_option linter.unusedSimpArgs false
namespace Go.H
open Go Go.Proofs.Tryz
variable [Inv prog]
theorem s_impl_AskAt (x : Cluster) (hx : limC 2097152 x) (p : Int) (cl sq : Int) (cm : Cmd) : SemX prog 41 [aS (eCluster false x), aI p, aI cl, aI sq, aS (eCmd cm)] [] [.agg (eClusterResult true (atNode x p (askNode (x.nodes.getD p.toNat zNode) ⟨(x.nodes.getD p.toNat zNode).term, cl, sq, cm⟩)))] [] := by
 refine goF [] [] func41 ?_
 obtain ⟨⟨hn, hN⟩, ⟨hm, hM⟩, hw, hs⟩ := id hx
 refine D ?_
 refine kR (s_impl_onNodeAsk x hx p cl sq cm 101 (askNode (x.nodes.getD p.toNat zNode) ⟨(x.nodes.getD p.toNat zNode).term, cl, sq, cm⟩) (by kernel_rfl) (by rintro n rfl hn2; exact s_impl_AskAt_1 _ ((all_getD zNode).2 hN n hn2) cl sq cm) (ask_lim (by omega) (lim_getD hN _) _) (ask_commit _ _) (by rintro n rfl hn2 hcf h; exact (ask_id h).trans (cl_nodes hcf hn2).2.1)) ?_
 refine D ?_
 exact E trivial
end Go.H
end
section
set_option maxRecDepth 100000
set_option maxHeartbeats 4000000
set_option linter.unusedVariables false
set_option linter.unusedSimpArgs false
namespace Go.H
open Go Go.Proofs.Tryz
variable [Inv prog]
theorem s_laws_FnExactAskAt (x : Cluster) (hn : x.nodes.length ≤ 9223372036854775807) (hN : ∀ i < x.nodes.length, (x.nodes.getD i zNode).log.length ≤ 9223372036854775807 ∧ (x.nodes.getD i zNode).votes.length ≤ 9223372036854775807 ∧ (x.nodes.getD i zNode).next.length ≤ 9223372036854775807 ∧ (x.nodes.getD i zNode).match_.length ≤ 9223372036854775807) (hm : x.mails.length ≤ 9223372036854775807) (hM : ∀ i < x.mails.length, (x.mails.getD i zMail).entries.length ≤ 9223372036854775807) (hw : x.wins.length ≤ 9223372036854775807) (hs : x.seals.length ≤ 9223372036854775807) (p : Int) (cl sq : Int) (cm : Cmd) : SemX prog 8 [aS (eCluster false x), aI p, aI cl, aI sq, aS (eCmd cm)] [] [rB true] [] := by
 refine goF [] [(5, 0, [24576], []), (5, 1, [], [106496, 106497, 106498, 106499]), (5, 5, [40960], []), (5, 7, [106496, 106497, 106498, 106499], [131073, 131074, 131075, 131076]), (5, 8, [], [53248]), (5, 9, [53248], [53248]), (7, 0, [57344], []), (7, 4, [40960], []), (7, 6, [139264, 139265, 139266, 139267], [167937, 167938, 167939, 167940]), (7, 7, [], [61440]), (7, 8, [61440], [61440]), (10, 0, [57344], []), (10, 1, [24576], []), (10, 2, [], [196608, 196609, 196610, 196611]), (10, 3, [139264, 139265, 139266, 139267, 196608, 196609, 196610, 196611], []), (24, 0, [24576], []), (24, 1, [], [303104, 303105, 303106, 303107]), (24, 5, [40960], []), (24, 7, [303104, 303105, 303106, 303107], [327681, 327682, 327683, 327684]), (24, 8, [], [77824]), (24, 9, [77824], [77824])] func8 ?_
 refine D ?_
 refine kR (s_laws_szCluster x 1048576 (by omega) (by omega) hn hN hm hM hw hs) ?_
 refine D ?_
 refine cC (fun c0 => ?_) (fun c0 => ?_)
 · skip
   refine D ?_
   exact E trivial
 · skip
   have hz : 0 ≤ szCluster x 1048576 := by simp at c0; omega
   have hx0 := szCluster_lim hz (by omega)
   have hx : limC 2097152 x := limC_mono (by omega) hx0
   have hr : limC 2097152 (atNode x p (askNode (x.nodes.getD p.toNat zNode) ⟨(x.nodes.getD p.toNat zNode).term, cl, sq, cm⟩)).cluster := atNode_lim hx0 p (ask_lim (by omega) (lim_getD hx0.1.2 _) _)
   have hbx := sCl_bd hx
   have hbr := sCl_bd hr
   have hux := sCl_up x 1
   have hur := sCl_up (atNode x p (askNode (x.nodes.getD p.toNat zNode) ⟨(x.nodes.getD p.toNat zNode).term, cl, sq, cm⟩)).cluster 1
   refine D ?_
   refine kD (s_laws_toCluster x hx) ?_
   refine D ?_
   refine kD (s_laws_toCmd cm) ?_
   refine D ?_
   refine kD (s_spec_AskAt x hx p cl sq cm) ?_
   refine D ?_
   refine kR (s_laws_toCluster x hx) ?_
   refine D ?_
   refine kD (s_laws_toCmd cm) ?_
   refine D ?_
   refine kD (s_impl_AskAt x hx p cl sq cm) ?_
   refine D ?_
   refine kR (s_laws_eqClusterResult (atNode x p (askNode (x.nodes.getD p.toNat zNode) ⟨(x.nodes.getD p.toNat zNode).term, cl, sq, cm⟩)) hr) ?_
   refine D ?_
   refine cF ?_
   refine D ?_
   refine kD (s_laws_toCluster x hx) ?_
   refine D ?_
   refine kD (s_laws_eqCluster x hx) ?_
   refine D ?_
   refine cF ?_
   refine D ?_
   refine kRk [139264, 139265, 139266, 139267] [] [] (s_laws_markCluster x hx 1 (by omega) hbx) ?_
   refine D ?_
   refine kRg (s_laws_eqClusterResult (atNode x p (askNode (x.nodes.getD p.toNat zNode) ⟨(x.nodes.getD p.toNat zNode).term, cl, sq, cm⟩)) hr) ?_
   refine D ?_
   refine cC (fun c3 => ?_) (fun c3 => ?_)
   · skip
     exfalso
     revert c3
     simp [-List.getD_eq_getElem?_getD]
     omega
   · skip
     refine D ?_
     refine kRk [167937, 167938, 167939, 167940] [] [] (s_laws_markClusterResult (atNode x p (askNode (x.nodes.getD p.toNat zNode) ⟨(x.nodes.getD p.toNat zNode).term, cl, sq, cm⟩)).cluster (atNode x p (askNode (x.nodes.getD p.toNat zNode) ⟨(x.nodes.getD p.toNat zNode).term, cl, sq, cm⟩)).code hr 1 (by omega) hbr) ?_
     refine D ?_
     refine kR (s_laws_heldClusterResult (atNode x p (askNode (x.nodes.getD p.toNat zNode) ⟨(x.nodes.getD p.toNat zNode).term, cl, sq, cm⟩)).cluster (atNode x p (askNode (x.nodes.getD p.toNat zNode) ⟨(x.nodes.getD p.toNat zNode).term, cl, sq, cm⟩)).code hr 1 (by omega) hbr) ?_
     refine D ?_
     refine cC (fun c4 => ?_) (fun c4 => ?_)
     · skip
       exfalso
       revert c4
       simp [-List.getD_eq_getElem?_getD]
       omega
     · skip
       refine D ?_
       refine cF ?_
       refine D ?_
       refine kD (s_laws_toCluster x hx) ?_
       refine D ?_
       refine kD (s_laws_toCmd cm) ?_
       refine D ?_
       refine kD (s_impl_AskAt x hx p cl sq cm) ?_
       refine D ?_
       refine kR (s_laws_eqClusterResult (atNode x p (askNode (x.nodes.getD p.toNat zNode) ⟨(x.nodes.getD p.toNat zNode).term, cl, sq, cm⟩)) hr) ?_
       refine D ?_
       refine cF ?_
       refine D ?_
       refine kR (s_laws_heldClusterResult (atNode x p (askNode (x.nodes.getD p.toNat zNode) ⟨(x.nodes.getD p.toNat zNode).term, cl, sq, cm⟩)).cluster (atNode x p (askNode (x.nodes.getD p.toNat zNode) ⟨(x.nodes.getD p.toNat zNode).term, cl, sq, cm⟩)).code hr 1 (by omega) hbr) ?_
       refine D ?_
       refine cC (fun c7 => ?_) (fun c7 => ?_)
       · skip
         exfalso
         revert c7
         simp [-List.getD_eq_getElem?_getD]
         omega
       · skip
         refine D ?_
         refine cF ?_
         refine D ?_
         exact E trivial
end Go.H
end
