/- What the functions that the law reaches compute, each by its code, against pure functions. Conditions: those that each theorem states. -/
import Derived.Test.YtlnjmnmkafblkaaGreatDW1
section
set_option maxRecDepth 100000
set_option maxHeartbeats 4000000
set_option linter.unusedVariables false
set_option linter.unusedSimpArgs false
namespace Go.H
open Go Go.Proofs.Tryz
variable [Inv prog]
theorem s_slices_Clone_int64 (xs : List Int) (hl : xs.length ≤ 2097152) : SemX prog 140 [aT (.sl false 1 (xs.map eI_i64))] [] [.one (.sl true 1 (xs.map eI_i64))] [] := by
 refine goF [] [] func140 ?_
 refine D ?_
 refine RW_isn (fun b => xs.map eI_i64 ≠ [] → b = false) rfl rfl (by simp only [go_sem] <;> and_intros <;> first | with_reducible exact rfl | omega | with_reducible trivial | (intros; simp_all; done) | grind) (fun b hb => ?_)
 refine D ?_
 refine cC (fun c0 => ?_) (fun c0 => ?_)
 · skip
   have hx : xs = [] := by
     cases xs with
     | nil => rfl
     | cons a l => have := hb (by simp); rw [this] at c0; cases c0
   subst hx
   refine D ?_
   exact E trivial
 · skip
   refine D ?_
   exact E trivial
end Go.H
end
section
set_option maxRecDepth 100000
set_option maxHeartbeats 4000000
set_option linter.unusedVariables false
set_option linter.unusedSimpArgs false
namespace Go.H
open Go Go.Proofs.Tryz
variable [Inv prog]
theorem s_impl_Node_copied (x : Node) (hx : limN 2097152 x) : SemX prog 81 [aS (eNode false x)] [] [.agg (eNode true x)] [] := by
 refine goF [] [(1, 1, [8192], []), (1, 2, [], [24576]), (1, 4, [8192], []), (1, 5, [], [36864]), (1, 7, [8192], []), (1, 8, [], [49152]), (1, 10, [8192], []), (1, 11, [], [61440]), (1, 13, [8192], [8192]), (1, 15, [8192], [8192]), (1, 17, [8192], [8192]), (1, 19, [8192], [8192])] func81 ?_
 refine D ?_
 refine kD (s_slices_Clone_Entry x.log hx.1) ?_
 refine D ?_
 refine kD (s_slices_Clone_int64 x.votes hx.2.1) ?_
 refine D ?_
 refine kD (s_slices_Clone_int64 x.next hx.2.2.1) ?_
 refine D ?_
 refine kD (s_slices_Clone_int64 x.match_ hx.2.2.2) ?_
 refine D ?_
 exact E trivial
end Go.H
end
section
set_option maxRecDepth 100000
set_option maxHeartbeats 4000000
set_option linter.unusedVariables false
set_option linter.unusedSimpArgs false
namespace Go.H
open Go Go.Proofs.Tryz
variable [Inv prog]
theorem s_slices_Clone_Won (xs : List Won) (hl : xs.length ≤ 2097152) : SemX prog 166 [aT (.sl false 2 (xs.map eWon))] [] [.one (.sl true 2 (xs.map eWon))] [] := by
 refine goF [] [] func166 ?_
 refine D ?_
 refine RW_isn (fun b => xs.map eWon ≠ [] → b = false) rfl rfl (by simp only [go_sem] <;> and_intros <;> first | with_reducible exact rfl | omega | with_reducible trivial | (intros; simp_all; done) | grind) (fun b hb => ?_)
 refine D ?_
 refine cC (fun c0 => ?_) (fun c0 => ?_)
 · skip
   have hx : xs = [] := by
     cases xs with
     | nil => rfl
     | cons a l => have := hb (by simp); rw [this] at c0; cases c0
   subst hx
   refine D ?_
   exact E trivial
 · skip
   refine D ?_
   exact E trivial
end Go.H
end
section
set_option maxRecDepth 100000
set_option maxHeartbeats 4000000
set_option linter.unusedVariables false
set_option linter.unusedSimpArgs false
namespace Go.H
open Go Go.Proofs.Tryz
variable [Inv prog]
theorem s_slices_Clone_Seal (xs : List Seal) (hl : xs.length ≤ 2097152) : SemX prog 167 [aT (.sl false 10 (xs.map eSeal))] [] [.one (.sl true 10 (xs.map eSeal))] [] := by
 refine goF [] [] func167 ?_
 refine D ?_
 refine RW_isn (fun b => xs.map eSeal ≠ [] → b = false) rfl rfl (by simp only [go_sem] <;> and_intros <;> first | with_reducible exact rfl | omega | with_reducible trivial | (intros; simp_all; done) | grind) (fun b hb => ?_)
 refine D ?_
 refine cC (fun c0 => ?_) (fun c0 => ?_)
 · skip
   have hx : xs = [] := by
     cases xs with
     | nil => rfl
     | cons a l => have := hb (by simp); rw [this] at c0; cases c0
   subst hx
   refine D ?_
   exact E trivial
 · skip
   refine D ?_
   exact E trivial
end Go.H
end
section
set_option maxRecDepth 100000
set_option maxHeartbeats 4000000
set_option linter.unusedVariables false
set_option linter.unusedSimpArgs false
namespace Go.H
open Go Go.Proofs.Tryz
variable [Inv prog]
theorem s_impl_Cluster_copied (x : Cluster) (hx : limC 2097152 x) : SemX prog 117 [aS (eCluster false x)] [] [.agg (eCluster true x)] [] := by
 refine goF [(30, ⟨some 4, some 61440, some (34, true), none⟩)] [(1, 1, [8192], []), (1, 2, [], [45056]), (1, 4, [8192], []), (1, 5, [], [57344]), (1, 6, [], [61440, 61441]), (1, 7, [], [16384]), (1, 8, [16384], [16384]), (5, 1, [16384], []), (5, 2, [24576], []), (5, 3, [], [106500, 106503, 106504, 106505]), (5, 4, [106500, 106503, 106504, 106505], [110592, 106500, 106503, 106504, 106505]), (5, 5, [61440, 110592], [114688, 61440, 110592]), (5, 7, [16384], [16384]), (10, 1, [16384], []), (10, 2, [32768], []), (10, 3, [], [167944]), (10, 4, [167944], [172032, 167944]), (10, 5, [61441, 172032], [176128, 61441, 172032]), (10, 7, [16384], [16384])] func117 ?_
 obtain ⟨⟨hn, hN⟩, ⟨hm, hM⟩, hw, hs⟩ := id hx
 refine D ?_
 refine kD (s_slices_Clone_Won x.wins hw) ?_
 refine D ?_
 refine kD (s_slices_Clone_Seal x.seals hs) ?_
 refine D ?_
 refine L (α := Nat) (fun i => [(18, .int .i64 i)]) (fun i => [(16384, .var [.ref 61440 0 i, .ref 61441 0 0, .ref 45056 0 x.wins.length, .ref 57344 0 x.seals.length]), (61440, .arr ⟨10, (x.nodes.take i).map (eNode true), 1, none⟩)]) (fun i => x.nodes.length - i) (fun i => i ≤ x.nodes.length) 0 [] (fun i hI => ?_)
 refine D ?_
 refine cC (fun c0 => ?_) (fun c0 => ?_)
 · skip
   refine D ?_
   refine kD (s_impl_Node_copied (x.nodes.getD i zNode) ((all_getD zNode).2 hN i (by omega))) ?_
   refine D ?_
   refine lp_next (i+1) [(61440,114688)] ?_ ?_ ?_
   · simp only [go_sem] <;> and_intros <;> first | with_reducible exact rfl | (first | omega | (rw [take_succ_map _ zNode (by omega)]; simp only [eNode]))
   · omega
   · omega
 · skip
   obtain rfl : i = x.nodes.length := by omega
   refine D ?_
   refine L (α := Nat) (fun i => [(33, .int .i64 i)]) (fun i => [(16384, .var [.ref 61440 0 x.nodes.length, .ref 61441 0 i, .ref 45056 0 x.wins.length, .ref 57344 0 x.seals.length]), (61441, .arr ⟨9, (x.mails.take i).map (eMail true), 1, none⟩)]) (fun i => x.mails.length - i) (fun i => i ≤ x.mails.length) 0 [] (fun i hI => ?_)
   refine D ?_
   refine cC (fun c1 => ?_) (fun c1 => ?_)
   · skip
     refine D ?_
     refine kD (s_impl_copiedMail (x.mails.getD i zMail) ((all_getD zMail).2 hM i (by omega))) ?_
     refine D ?_
     refine lp_next (i+1) [(61441,176128)] ?_ ?_ ?_
     · simp only [go_sem] <;> and_intros <;> first | with_reducible exact rfl | (first | omega | (rw [take_succ_map _ zMail (by omega)]; simp only [eMail]))
     · omega
     · omega
   · skip
     obtain rfl : i = x.mails.length := by omega
     refine D ?_
     exact E trivial
end Go.H
end
section
set_option maxRecDepth 100000
set_option maxHeartbeats 4000000
set_option linter.unusedVariables false
set_option linter.unusedSimpArgs false
namespace Go.H
open Go Go.Proofs.Tryz
variable [Inv prog]
theorem s_impl_Cluster_result (x : Cluster) (c : Int) : SemX prog 118 [.one (.ptr 0 0), aI c] [.var (eCluster true x)] [.agg (eClusterResult true (resC c x))] [.var [.junk, .junk, .junk, .junk]] := by
 refine goF [] [] func118 ?_
 refine D ?_
 refine cC (fun c0 => ?_) (fun c0 => ?_)
 · skip
   refine D ?_
   refine E ?_
   first
   | exact trivial
   | simp [resC, bad, zCluster, *]
 · skip
   refine D ?_
   refine E ?_
   first
   | exact trivial
   | simp [resC, bad, zCluster, *]
theorem s_impl_Cluster_result_no (c : Int) (hc : c ≠ 0) : SemX prog 118 [.one (.ptr 0 0), aI c] [.var [.junk, .junk, .junk, .junk]] [.agg (eClusterResult true (bad c))] [.var [.junk, .junk, .junk, .junk]] := by
 refine goF [] [] func118 ?_
 refine D ?_
 refine cC (fun c0 => ?_) (fun c0 => ?_)
 · skip
   refine D ?_
   refine E ?_
   first
   | exact trivial
   | simp [bad, zCluster]
 · skip
   exfalso
   simp [hc] at c0
end Go.H
end
section
set_option maxRecDepth 100000
set_option maxHeartbeats 4000000
set_option linter.unusedVariables false
set_option linter.unusedSimpArgs false
namespace Go.H
open Go Go.Proofs.Tryz
variable [Inv prog]
theorem s_impl_onNode_ok (x : Cluster) (hx : limC 2097152 x) (p : Int) (fn : Nat) (r : NodeResult) (hq : callB prog fn = true) (hf : ∀ n : Nat, p = n → n < x.nodes.length → SemX prog fn [aS (eNode false (x.nodes.getD n zNode))] [] [.agg (eNodeResult true r)] []) (hr : limR 2097152 r) (hc : r.node.commit ≤ r.node.log.length) (hid : ∀ n : Nat, p = n → n < x.nodes.length → clusterFault x = 0 → r.code = 0 → r.node.id = n) (hok : doOk x p.toNat r = true) : SemX prog 96 [aS (eCluster false x), aI p, .one (.fn fn [])] [] [.agg (eClusterResult true (atNode x p r))] [] := by
 refine goF [] [] func96 ?_
 obtain ⟨⟨hn, hN⟩, ⟨hm, hM⟩, hw, hs⟩ := id hx
 refine D ?_
 refine kR (s_impl_ClusterFault x hx) ?_
 refine D ?_
 refine kRg (s_impl_Cluster_isPlace x p hn) ?_
 refine D ?_
 refine cC (fun c0 => ?_) (fun c0 => ?_)
 · skip
   refine D ?_
   refine cT ?_
   refine D ?_
   refine E ?_
   have he : atNode x p r = bad 3 := by unfold atNode nodeGuard; grind
   simp [he, bad, zCluster]
 · skip
   refine D ?_
   refine cC (fun c1 => ?_) (fun c1 => ?_)
   · skip
     refine D ?_
     refine E ?_
     have he : atNode x p r = bad (clusterFault x) := by unfold atNode nodeGuard; grind
     simp [he, bad, zCluster]
   · skip
     have c0n : nodeGuard x p = 0 := by unfold nodeGuard; grind
     obtain ⟨hcf, n, rfl, hn2⟩ := guardN_iff c0n
     have hcw := cl_wins hcf
     have hid2 := hid n rfl hn2 hcf
     refine D ?_
     refine kR (s_impl_Cluster_copied x hx) ?_
     refine D ?_
     refine kR (hf n rfl hn2) ?_ hq
     refine D ?_
     refine kRk [36864] [126981, 126984, 126985, 126986, 126987] [98304, 98305, 98306, 98307] (s_impl_Cluster_do_ok x hx n hn2 r hr hc hid2 hcw.1 hok) ?_
     refine D ?_
     refine kRk [36864] [] [132096, 132097, 132098, 132099] (s_impl_Cluster_result (doC x n r) 0) ?_
     refine D ?_
     refine E ?_
     have hok2 : doOk x n r = true := hok
     have he : atNode x n r = ⟨0, doC x n r⟩ := by unfold atNode doR; rw [if_neg (by omega), if_pos hok]; rfl
     simp [he, resC]
theorem s_impl_onNode_no (x : Cluster) (hx : limC 2097152 x) (p : Int) (fn : Nat) (r : NodeResult) (hq : callB prog fn = true) (hf : ∀ n : Nat, p = n → n < x.nodes.length → SemX prog fn [aS (eNode false (x.nodes.getD n zNode))] [] [.agg (eNodeResult true r)] []) (hr : limR 2097152 r) (hc : r.node.commit ≤ r.node.log.length) (hid : ∀ n : Nat, p = n → n < x.nodes.length → clusterFault x = 0 → r.code = 0 → r.node.id = n) (hok : doOk x p.toNat r = false) : SemX prog 96 [aS (eCluster false x), aI p, .one (.fn fn [])] [] [.agg (eClusterResult true (atNode x p r))] [] := by
 refine goF [] [] func96 ?_
 obtain ⟨⟨hn, hN⟩, ⟨hm, hM⟩, hw, hs⟩ := id hx
 refine D ?_
 refine kR (s_impl_ClusterFault x hx) ?_
 refine D ?_
 refine kRg (s_impl_Cluster_isPlace x p hn) ?_
 refine D ?_
 refine cC (fun c0 => ?_) (fun c0 => ?_)
 · skip
   refine D ?_
   refine cT ?_
   refine D ?_
   refine E ?_
   have he : atNode x p r = bad 3 := by unfold atNode nodeGuard; grind
   simp [he, bad, zCluster]
 · skip
   refine D ?_
   refine cC (fun c1 => ?_) (fun c1 => ?_)
   · skip
     refine D ?_
     refine E ?_
     have he : atNode x p r = bad (clusterFault x) := by unfold atNode nodeGuard; grind
     simp [he, bad, zCluster]
   · skip
     have c0n : nodeGuard x p = 0 := by unfold nodeGuard; grind
     obtain ⟨hcf, n, rfl, hn2⟩ := guardN_iff c0n
     have hcw := cl_wins hcf
     have hid2 := hid n rfl hn2 hcf
     refine D ?_
     refine kR (s_impl_Cluster_copied x hx) ?_
     refine D ?_
     refine kR (hf n rfl hn2) ?_ hq
     refine D ?_
     refine kRk [36864] [126981, 126984, 126985, 126986, 126987] [98304, 98305, 98306, 98307] (s_impl_Cluster_do_no x hx n hn2 r hr hc hid2 hcw.1 hok) ?_
     refine D ?_
     refine kRk [36864] [] [] (s_impl_Cluster_result_no (if r.code ≠ 0 then r.code else 2) (by split <;> omega)) ?_
     refine D ?_
     refine E ?_
     have he : atNode x n r = bad (if r.code ≠ 0 then r.code else 2) := by unfold atNode doR; rw [if_neg (by omega), if_neg (by rw [hok]; simp)]
     simp [he]
theorem s_impl_onNode (x : Cluster) (hx : limC 2097152 x) (p : Int) (fn : Nat) (r : NodeResult) (hq : callB prog fn = true) (hf : ∀ n : Nat, p = n → n < x.nodes.length → SemX prog fn [aS (eNode false (x.nodes.getD n zNode))] [] [.agg (eNodeResult true r)] []) (hr : limR 2097152 r) (hc : r.node.commit ≤ r.node.log.length) (hid : ∀ n : Nat, p = n → n < x.nodes.length → clusterFault x = 0 → r.code = 0 → r.node.id = n) : SemX prog 96 [aS (eCluster false x), aI p, .one (.fn fn [])] [] [.agg (eClusterResult true (atNode x p r))] [] := by
  cases h : doOk x p.toNat r
  · exact s_impl_onNode_no x hx p fn r hq hf hr hc hid h
  · exact s_impl_onNode_ok x hx p fn r hq hf hr hc hid h
theorem s_impl_onNodeAsk_ok (x : Cluster) (hx : limC 2097152 x) (p : Int) (cl sq : Int) (cm : Cmd) (fn : Nat) (r : NodeResult) (hq : callB prog fn = true) (hf : ∀ n : Nat, p = n → n < x.nodes.length → SemX prog fn [aS (eNode false (x.nodes.getD n zNode)), aT (.ptr [.int .i64 cl]), aT (.ptr [.int .i64 sq]), aT (.ptr (eCmd cm))] [] [.agg (eNodeResult true r)] []) (hr : limR 2097152 r) (hc : r.node.commit ≤ r.node.log.length) (hid : ∀ n : Nat, p = n → n < x.nodes.length → clusterFault x = 0 → r.code = 0 → r.node.id = n) (hok : doOk x p.toNat r = true) : SemX prog 96 [aS (eCluster false x), aI p, .one (.fn fn [.t (.ptr [.int .i64 cl]), .t (.ptr [.int .i64 sq]), .t (.ptr (eCmd cm))])] [] [.agg (eClusterResult true (atNode x p r))] [] := by
 refine goF [] [] func96 ?_
 obtain ⟨⟨hn, hN⟩, ⟨hm, hM⟩, hw, hs⟩ := id hx
 refine D ?_
 refine kR (s_impl_ClusterFault x hx) ?_
 refine D ?_
 refine kRg (s_impl_Cluster_isPlace x p hn) ?_
 refine D ?_
 refine cC (fun c0 => ?_) (fun c0 => ?_)
 · skip
   refine D ?_
   refine cT ?_
   refine D ?_
   refine E ?_
   have he : atNode x p r = bad 3 := by unfold atNode nodeGuard; grind
   simp [he, bad, zCluster]
 · skip
   refine D ?_
   refine cC (fun c1 => ?_) (fun c1 => ?_)
   · skip
     refine D ?_
     refine E ?_
     have he : atNode x p r = bad (clusterFault x) := by unfold atNode nodeGuard; grind
     simp [he, bad, zCluster]
   · skip
     have c0n : nodeGuard x p = 0 := by unfold nodeGuard; grind
     obtain ⟨hcf, n, rfl, hn2⟩ := guardN_iff c0n
     have hcw := cl_wins hcf
     have hid2 := hid n rfl hn2 hcf
     refine D ?_
     refine kR (s_impl_Cluster_copied x hx) ?_
     refine D ?_
     refine kR (hf n rfl hn2) ?_ hq
     refine D ?_
     refine kRk [36864] [126981, 126984, 126985, 126986, 126987] [98304, 98305, 98306, 98307] (s_impl_Cluster_do_ok x hx n hn2 r hr hc hid2 hcw.1 hok) ?_
     refine D ?_
     refine kRk [36864] [] [132096, 132097, 132098, 132099] (s_impl_Cluster_result (doC x n r) 0) ?_
     refine D ?_
     refine E ?_
     have hok2 : doOk x n r = true := hok
     have he : atNode x n r = ⟨0, doC x n r⟩ := by unfold atNode doR; rw [if_neg (by omega), if_pos hok]; rfl
     simp [he, resC]
theorem s_impl_onNodeAsk_no (x : Cluster) (hx : limC 2097152 x) (p : Int) (cl sq : Int) (cm : Cmd) (fn : Nat) (r : NodeResult) (hq : callB prog fn = true) (hf : ∀ n : Nat, p = n → n < x.nodes.length → SemX prog fn [aS (eNode false (x.nodes.getD n zNode)), aT (.ptr [.int .i64 cl]), aT (.ptr [.int .i64 sq]), aT (.ptr (eCmd cm))] [] [.agg (eNodeResult true r)] []) (hr : limR 2097152 r) (hc : r.node.commit ≤ r.node.log.length) (hid : ∀ n : Nat, p = n → n < x.nodes.length → clusterFault x = 0 → r.code = 0 → r.node.id = n) (hok : doOk x p.toNat r = false) : SemX prog 96 [aS (eCluster false x), aI p, .one (.fn fn [.t (.ptr [.int .i64 cl]), .t (.ptr [.int .i64 sq]), .t (.ptr (eCmd cm))])] [] [.agg (eClusterResult true (atNode x p r))] [] := by
 refine goF [] [] func96 ?_
 obtain ⟨⟨hn, hN⟩, ⟨hm, hM⟩, hw, hs⟩ := id hx
 refine D ?_
 refine kR (s_impl_ClusterFault x hx) ?_
 refine D ?_
 refine kRg (s_impl_Cluster_isPlace x p hn) ?_
 refine D ?_
 refine cC (fun c0 => ?_) (fun c0 => ?_)
 · skip
   refine D ?_
   refine cT ?_
   refine D ?_
   refine E ?_
   have he : atNode x p r = bad 3 := by unfold atNode nodeGuard; grind
   simp [he, bad, zCluster]
 · skip
   refine D ?_
   refine cC (fun c1 => ?_) (fun c1 => ?_)
   · skip
     refine D ?_
     refine E ?_
     have he : atNode x p r = bad (clusterFault x) := by unfold atNode nodeGuard; grind
     simp [he, bad, zCluster]
   · skip
     have c0n : nodeGuard x p = 0 := by unfold nodeGuard; grind
     obtain ⟨hcf, n, rfl, hn2⟩ := guardN_iff c0n
     have hcw := cl_wins hcf
     have hid2 := hid n rfl hn2 hcf
     refine D ?_
     refine kR (s_impl_Cluster_copied x hx) ?_
     refine D ?_
     refine kR (hf n rfl hn2) ?_ hq
     refine D ?_
     refine kRk [36864] [126981, 126984, 126985, 126986, 126987] [98304, 98305, 98306, 98307] (s_impl_Cluster_do_no x hx n hn2 r hr hc hid2 hcw.1 hok) ?_
     refine D ?_
     refine kRk [36864] [] [] (s_impl_Cluster_result_no (if r.code ≠ 0 then r.code else 2) (by split <;> omega)) ?_
     refine D ?_
     refine E ?_
     have he : atNode x n r = bad (if r.code ≠ 0 then r.code else 2) := by unfold atNode doR; rw [if_neg (by omega), if_neg (by rw [hok]; simp)]
     simp [he]
theorem s_impl_onNodeAsk (x : Cluster) (hx : limC 2097152 x) (p : Int) (cl sq : Int) (cm : Cmd) (fn : Nat) (r : NodeResult) (hq : callB prog fn = true) (hf : ∀ n : Nat, p = n → n < x.nodes.length → SemX prog fn [aS (eNode false (x.nodes.getD n zNode)), aT (.ptr [.int .i64 cl]), aT (.ptr [.int .i64 sq]), aT (.ptr (eCmd cm))] [] [.agg (eNodeResult true r)] []) (hr : limR 2097152 r) (hc : r.node.commit ≤ r.node.log.length) (hid : ∀ n : Nat, p = n → n < x.nodes.length → clusterFault x = 0 → r.code = 0 → r.node.id = n) : SemX prog 96 [aS (eCluster false x), aI p, .one (.fn fn [.t (.ptr [.int .i64 cl]), .t (.ptr [.int .i64 sq]), .t (.ptr (eCmd cm))])] [] [.agg (eClusterResult true (atNode x p r))] [] := by
  cases h : doOk x p.toNat r
  · exact s_impl_onNodeAsk_no x hx p cl sq cm fn r hq hf hr hc hid h
  · exact s_impl_onNodeAsk_ok x hx p cl sq cm fn r hq hf hr hc hid h
end Go.H
end
section
set_option maxRecDepth 100000
set_option maxHeartbeats 4000000
set_option linter.unusedVariables false
set_option linter.unusedSimpArgs false
namespace Go.H
open Go Go.Proofs.Tryz
variable [Inv prog]
theorem s_impl_leadFault (x : Node) (hx : limN 2097152 x) : SemX prog 156 [aS (eNode false x)] [] [rI (leadF x)] [] := by
 refine goF [] [] func156 ?_
 refine D ?_
 refine kR (s_impl_NodeFault x hx) ?_
 refine D ?_
 refine cC (fun c0 => ?_) (fun c0 => ?_)
 · skip
   refine D ?_
   refine E ?_
   first
   | exact trivial
   | unfold leadF
     grind
 · skip
   refine D ?_
   refine E ?_
   first
   | exact trivial
   | unfold leadF
     grind
end Go.H
end
section
set_option maxRecDepth 100000
set_option maxHeartbeats 4000000
set_option linter.unusedVariables false
set_option linter.unusedSimpArgs false
namespace Go.H
open Go Go.Proofs.Tryz
variable [Inv prog]
theorem s_impl_Node_others (x y z : Node) (hp : 0 ≤ x.peers) (hp2 : x.peers ≤ 5) (fn : Nat) (R : Nat → List Mail) (hR : ∀ i, (R i).length ≤ i) (hq : callB prog fn = true) (hf : ∀ i : Nat, (i : Int) < x.peers → (i : Int) ≠ x.id → SemX prog fn [aI i, aT (.ptr (eNode false y)), aT (.ptr (eNode false z)), .one (.ptr 0 0)] [.var [.sl true 9 ((R i).map (eMail true))]] [] [.var [.sl true 9 ((R (i + 1)).map (eMail true))]]) (hs : ∀ i : Nat, (i : Int) = x.id → R (i + 1) = R i) : SemX prog 157 [aT (.ptr (eNode false x)), .one (.fn fn [.t (.ptr (eNode false y)), .t (.ptr (eNode false z)), .ptr 0 0])] [.var [.sl true 9 ((R 0).map (eMail true))]] [] [.var [.sl true 9 ((R x.peers.toNat).map (eMail true))]] := by
 refine goF [(44, ⟨some 1, none, none, none⟩)] [] func157 ?_
 refine D ?_
 refine L (α := Nat) (fun i => [(9, .int .i64 i)]) (fun i => [(1000000, .var [.ref 1000001 0 (R i).length]), (1000001, .arr ⟨9, (R i).map (eMail true), 1, none⟩)]) (fun i => x.peers.toNat - i) (fun i => (i : Int) ≤ x.peers) 0 [] (fun i hI => ?_) (hi := by omega)
 refine D ?_
 refine cC (fun c0 => ?_) (fun c0 => ?_)
 · skip
   refine D ?_
   refine cC (fun c1 => ?_) (fun c1 => ?_)
   · skip
     refine D ?_
     refine kRk [1000000] [] [1000001] (hf i (by omega) (by assumption)) ?_ hq
     refine D ?_
     refine lp_next (i+1) [(1000001,87040)] ?_ ?_ ?_
     · simp only [go_sem] <;> and_intros <;> first | with_reducible exact rfl | (first | omega | (rw [hs i (by assumption)]))
     · omega
     · omega
   · skip
     refine D ?_
     refine lp_next (i+1) [] ?_ ?_ ?_
     · simp only [go_sem] <;> and_intros <;> first | with_reducible exact rfl | (first | omega | (rw [hs i (by assumption)]))
     · omega
     · omega
 · skip
   have hi : i = x.peers.toNat := by omega
   subst hi
   refine D ?_
   exact E trivial
end Go.H
end
section
set_option maxRecDepth 100000
set_option maxHeartbeats 4000000
set_option linter.unusedVariables false
set_option linter.unusedSimpArgs false
namespace Go.H
open Go Go.Proofs.Tryz
variable [Inv prog]
theorem s_impl_SpreadNode_1 (x : Node) (hx : limN 2097152 x) (i k : Nat) (hi : i < x.next.length) (hk : x.next.getD i zI_i64 = k + 1) (hk2 : k ≤ x.log.length) (R : List (List T)) (hR : R.length ≤ 100) : SemX prog 158 [aI i, aT (.ptr (eNode false x)), aT (.ptr (eNode false x)), .one (.ptr 0 0)] [.var [.sl true 9 R]] [] [.var [.sl true 9 (R ++ [eMail true (spreadM x i k)])]] := by
 refine goF [(26, ⟨some 1, none, none, none⟩), (68, ⟨some 1, none, none, none⟩)] [(3, 10, [], [163840]), (3, 12, [28672], [28672])] func158 ?_
 obtain ⟨hx1, hx2, hx3, hx4⟩ := id hx
 have hmin : (if (x.log.length : Int) < k + 4 then (x.log.length : Int) else k + 4) = ((min x.log.length (k + 4) : Nat) : Int) := by split <;> omega
 have hA := And.intro hk (hmin)
 refine D ?_
 refine kR (s_impl_last (x.log.take k) (by simp; omega)) ?_
 refine D ?_
 refine kD (s_impl_size_Entry (x.log.map eEntry)) ?_
 refine D ?_
 refine kD (s_slices_Clone_Entry ((x.log.take (min x.log.length (k + 4))).drop k) (by simp; omega)) ?_
 refine D ?_
 refine E ?_
 first
 | exact trivial
 | simp [spreadM, take_drop_take, List.take_of_length_le]
theorem sp_step (x : Node) (hx : limN 2097152 x) (nf0 : nodeFault x = 0) (nr : x.role = 2) (hp : x.peers ≤ 5) (i : Nat) (h1 : (i : Int) < x.peers) (h2 : (i : Int) ≠ x.id) : SemX prog 158 [aI i, aT (.ptr (eNode false x)), aT (.ptr (eNode false x)), .one (.ptr 0 0)] [.var [.sl true 9 ((spreads x i).map (eMail true))]] [] [.var [.sl true 9 ((spreads x (i + 1)).map (eMail true))]] := by
  obtain ⟨n1, n2, n3, n4, _⟩ := next_ok nf0 nr h1
  have hl := spreads_len x i
  have := s_impl_SpreadNode_1 x hx i (nextK x i) n1 n3 n4 ((spreads x i).map (eMail true)) (by simp; omega)
  rw [spreads_succ h2, List.map_append]
  exact this
end Go.H
end
section
set_option maxRecDepth 100000
set_option maxHeartbeats 4000000
set_option linter.unusedVariables false
set_option linter.unusedSimpArgs false
namespace Go.H
open Go Go.Proofs.Tryz
variable [Inv prog]
theorem s_impl_SpreadNode (x : Node) (hx : limN 2097152 x) : SemX prog 99 [aS (eNode false x)] [] [.agg (eNodeResult true (spreadNode x))] [] := by
 refine goF [] [] func99 ?_
 obtain ⟨hx1, hx2, hx3, hx4⟩ := id hx
 refine D ?_
 refine kR (s_impl_leadFault x hx) ?_
 refine D ?_
 refine cC (fun c0 => ?_) (fun c0 => ?_)
 · skip
   refine D ?_
   refine E ?_
   have he : spreadNode x = badN (leadF x) := by unfold spreadNode; rw [if_pos c0]
   simp [he, badN, zNode]
 · skip
   obtain ⟨nf0, nr⟩ := leadF_ok c0
   obtain ⟨⟨p1, p2, p3, p4, _⟩, _⟩ := node_ok nf0
   refine D ?_
   refine kR (s_impl_Node_copied x hx) ?_
   refine D ?_
   refine kRk [24576] [] [61440] (s_impl_Node_others x x x (by omega) (by omega) 158 (spreads x) (spreads_len x) (by kernel_rfl) (fun i h1 h2 => sp_step x hx nf0 nr (by omega) i h1 h2) (fun i h => spreads_skip h)) ?_
   refine D ?_
   refine E ?_
   have he : spreadNode x = ⟨0, x, spreads x x.peers.toNat⟩ := by unfold spreadNode; rw [if_neg (by omega)]
   simp [he]
end Go.H
end
section
set_option maxRecDepth 100000
set_option maxHeartbeats 4000000
set_option linter.unusedVariables false
set_option linter.unusedSimpArgs false
namespace Go.H
open Go Go.Proofs.Tryz
variable [Inv prog]
theorem s_impl_SpreadAt (x : Cluster) (hx : limC 2097152 x) (p : Int) : SemX prog 38 [aS (eCluster false x), aI p] [] [.agg (eClusterResult true (atNode x p (spreadNode (x.nodes.getD p.toNat zNode))))] [] := by
 refine goF [] [] func38 ?_
 obtain ⟨⟨hn, hN⟩, ⟨hm, hM⟩, hw, hs⟩ := id hx
 refine D ?_
 refine kR (s_impl_onNode x hx p 99 (spreadNode (x.nodes.getD p.toNat zNode)) (by kernel_rfl) (by rintro n rfl hn2; exact s_impl_SpreadNode _ ((all_getD zNode).2 hN n hn2)) (spread_lim (by omega) (lim_getD hN _)) (spread_commit _) (by rintro n rfl hn2 hcf h; exact (spread_id h).trans (cl_nodes hcf hn2).2.1)) ?_
 refine D ?_
 exact E trivial
end Go.H
end
section
set_option maxRecDepth 100000
set_option maxHeartbeats 4000000
set_option linter.unusedVariables false
set_option linter.unusedSimpArgs false
namespace Go.H
open Go Go.Proofs.Tryz
variable [Inv prog]
theorem s_laws_FnExactSpreadAt (x : Cluster) (hn : x.nodes.length ≤ 9223372036854775807) (hN : ∀ i < x.nodes.length, (x.nodes.getD i zNode).log.length ≤ 9223372036854775807 ∧ (x.nodes.getD i zNode).votes.length ≤ 9223372036854775807 ∧ (x.nodes.getD i zNode).next.length ≤ 9223372036854775807 ∧ (x.nodes.getD i zNode).match_.length ≤ 9223372036854775807) (hm : x.mails.length ≤ 9223372036854775807) (hM : ∀ i < x.mails.length, (x.mails.getD i zMail).entries.length ≤ 9223372036854775807) (hw : x.wins.length ≤ 9223372036854775807) (hs : x.seals.length ≤ 9223372036854775807) (p : Int) : SemX prog 7 [aS (eCluster false x), aI p] [] [rB true] [] := by
 refine goF [] [(10, 0, [32768], []), (10, 1, [12288], []), (10, 2, [], [139264, 139265, 139266, 139267]), (10, 3, [98304, 98305, 98306, 98307, 139264, 139265, 139266, 139267], [])] func7 ?_
 refine D ?_
 refine kR (s_laws_szCluster x 1048576 (by omega) (by omega) hn hN hm hM hw hs) ?_
 refine D ?_
 refine cC (fun c0 => ?_) (fun c0 => ?_)
 · skip
   refine D ?_
   exact E trivial
 · skip
   have hz : 0 ≤ szCluster x 1048576 := by simp at c0; omega
   have hx0 := szCluster_lim hz (by omega)
   have hx : limC 2097152 x := limC_mono (by omega) hx0
   have hr : limC 2097152 (atNode x p (spreadNode (x.nodes.getD p.toNat zNode))).cluster := atNode_lim hx0 p (spread_lim (by omega) (lim_getD hx0.1.2 _))
   have hbx := sCl_bd hx
   have hbr := sCl_bd hr
   have hux := sCl_up x 1
   have hur := sCl_up (atNode x p (spreadNode (x.nodes.getD p.toNat zNode))).cluster 1
   refine D ?_
   refine kR (s_laws_toCluster x hx) ?_
   refine D ?_
   refine kR (s_spec_SpreadAt x hx p) ?_
   refine D ?_
   refine kR (s_laws_toCluster x hx) ?_
   refine D ?_
   refine kR (s_impl_SpreadAt x hx p) ?_
   refine D ?_
   refine kR (s_laws_eqClusterResult (atNode x p (spreadNode (x.nodes.getD p.toNat zNode))) hr) ?_
   refine D ?_
   refine cF ?_
   refine D ?_
   refine kD (s_laws_toCluster x hx) ?_
   refine D ?_
   refine kD (s_laws_eqCluster x hx) ?_
   refine D ?_
   refine cF ?_
   refine D ?_
   refine kRk [98304, 98305, 98306, 98307] [] [] (s_laws_markCluster x hx 1 (by omega) hbx) ?_
   refine D ?_
   refine kRg (s_laws_eqClusterResult (atNode x p (spreadNode (x.nodes.getD p.toNat zNode))) hr) ?_
   refine D ?_
   refine cC (fun c3 => ?_) (fun c3 => ?_)
   · skip
     exfalso
     revert c3
     simp [-List.getD_eq_getElem?_getD]
     omega
   · skip
     refine D ?_
     refine kRk [110593, 110594, 110595, 110596] [] [] (s_laws_markClusterResult (atNode x p (spreadNode (x.nodes.getD p.toNat zNode))).cluster (atNode x p (spreadNode (x.nodes.getD p.toNat zNode))).code hr 1 (by omega) hbr) ?_
     refine D ?_
     refine kR (s_laws_heldClusterResult (atNode x p (spreadNode (x.nodes.getD p.toNat zNode))).cluster (atNode x p (spreadNode (x.nodes.getD p.toNat zNode))).code hr 1 (by omega) hbr) ?_
     refine D ?_
     refine cC (fun c4 => ?_) (fun c4 => ?_)
     · skip
       exfalso
       revert c4
       simp [-List.getD_eq_getElem?_getD]
       omega
     · skip
       refine D ?_
       refine cF ?_
       refine D ?_
       refine kR (s_laws_toCluster x hx) ?_
       refine D ?_
       refine kR (s_impl_SpreadAt x hx p) ?_
       refine D ?_
       refine kR (s_laws_eqClusterResult (atNode x p (spreadNode (x.nodes.getD p.toNat zNode))) hr) ?_
       refine D ?_
       refine cF ?_
       refine D ?_
       refine kR (s_laws_heldClusterResult (atNode x p (spreadNode (x.nodes.getD p.toNat zNode))).cluster (atNode x p (spreadNode (x.nodes.getD p.toNat zNode))).code hr 1 (by omega) hbr) ?_
       refine D ?_
       refine cC (fun c7 => ?_) (fun c7 => ?_)
       · skip
         exfalso
         revert c7
         simp [-List.getD_eq_getElem?_getD]
         omega
       · skip
         refine D ?_
         refine cF ?_
         refine D ?_
         exact E trivial
end Go.H
end
