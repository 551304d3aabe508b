/- What the functions that the law reaches compute, each by its code, against pure functions. Conditions: those that each theorem states. -/
import Derived.Test.YtlnjmnmkafblkaaGreatFW1
section
set_option maxRecDepth 100000
set_option maxHeartbeats 4000000
set_option linter.unusedVariables false
set_option linter.unusedSimpArgs false
namespace Go.H
open Go Go.Proofs.Tryz
variable [Inv prog]
theorem s_impl_NodeFault (x : Node) (hx : limN 2097152 x) : SemX prog 136 [aS (eNode false x)] [] [rI (nodeFault x)] [] := by
 refine goF [] [(7, 1, [8192], []), (7, 5, [8192], [])] [] func136 ?_
 obtain ⟨hx1, hx2, hx3, hx4⟩ := id hx
 refine D ?_
 refine kR (s_impl_in _ _ _) ?_
 refine D ?_
 refine kRg (s_impl_Node_isId x x.id) ?_
 refine D ?_
 refine kRg (s_impl_in _ _ _) ?_
 refine D ?_
 refine kRg (s_impl_Node_isId x x.voted) ?_
 refine D ?_
 refine kRg (s_impl_in _ _ _) ?_
 refine D ?_
 refine cC (fun c0 => ?_) (fun c0 => ?_)
 · skip
   have hr : nodeRange x = false := by have hv := voted_eq x; unfold nodeRange; grind
   refine D ?_
   refine E ?_
   first
   | exact trivial
   | unfold nodeFault rangeOk listsOk rises idsOk due
     grind
 · skip
   have hr : nodeRange x = true := by have hv := voted_eq x; unfold nodeRange; grind
   refine D ?_
   refine kR (s_impl_LogFault x.log (by omega)) ?_
   refine D ?_
   refine cC (fun c1 => ?_) (fun c1 => ?_)
   · skip
     refine D ?_
     refine E ?_
     first
     | exact trivial
     | unfold nodeFault rangeOk listsOk rises idsOk due
       grind
   · skip
     refine D ?_
     refine kR (s_impl_size_Entry (x.log.map eEntry)) ?_
     refine D ?_
     refine kD (s_impl_last x.log (by omega)) ?_
     refine D ?_
     refine cC (fun c2 => ?_) (fun c2 => ?_)
     · skip
       refine D ?_
       refine E ?_
       first
       | exact trivial
       | unfold nodeFault rangeOk listsOk rises idsOk due
         grind
     · skip
       refine D ?_
       refine kR (s_impl_in _ _ _) ?_
       refine D ?_
       refine cC (fun c3 => ?_) (fun c3 => ?_)
       · skip
         refine D ?_
         refine E ?_
         first
         | exact trivial
         | unfold nodeFault rangeOk listsOk rises idsOk due
           grind
       · skip
         refine D ?_
         refine cC (fun c4 => ?_) (fun c4 => ?_)
         · skip
           refine D ?_
           refine E ?_
           first
           | exact trivial
           | unfold nodeFault rangeOk listsOk rises idsOk due
             grind
         · skip
           refine D ?_
           refine L (α := Nat) (fun i => [(77, .int .i64 i)]) (fun i => []) (fun i => x.votes.length - i) (fun i => i ≤ x.votes.length ∧ ∀ j, j < i → isId x (x.votes.getD j zI_i64) = true ∧ (0 < j → x.votes.getD (j - 1) zI_i64 < x.votes.getD j zI_i64)) 0 [] (fun i hL => ?_) (hi := by exact ⟨Nat.zero_le _, fun j hj => absurd hj (by omega)⟩)
           obtain ⟨hI, hj⟩ := hL
           refine D ?_
           refine cC (fun c5 => ?_) (fun c5 => ?_)
           · skip
             refine D ?_
             refine kR (s_impl_Node_isId x (x.votes.getD i zI_i64)) ?_
             refine D ?_
             refine cC (fun c6 => ?_) (fun c6 => ?_)
             · skip
               refine D ?_
               refine E ?_
               first
               | exact trivial
               | unfold nodeFault rangeOk listsOk rises idsOk due
                 grind
             · skip
               refine D ?_
               refine N (i+1) [] (hi := ?_) (hm := ?_)
               · refine ⟨by omega, fun j hj2 => ?_⟩
                 rcases Nat.lt_or_ge j i with h | h
                 · exact hj j h
                 · rw [show j = i by omega]; grind
               · omega
           · skip
             obtain rfl : i = x.votes.length := by omega
             refine D ?_
             refine cC (fun c7 => ?_) (fun c7 => ?_)
             · skip
               refine D ?_
               refine kR (s_impl_size_int64 (x.next.map eI_i64)) ?_
               refine D ?_
               refine kRg (s_impl_size_int64 (x.match_.map eI_i64)) ?_
               refine D ?_
               refine cC (fun c8 => ?_) (fun c8 => ?_)
               · skip
                 refine D ?_
                 refine E ?_
                 first
                 | exact trivial
                 | unfold nodeFault rangeOk listsOk rises idsOk due
                   grind
               · skip
                 refine D ?_
                 refine kR (s_slices_ContainsFunc_int64 x.next 180 x.log.length (fun k => !inR k 1 (x.log.length + 1)) (by kernel_rfl) (fun v => s_impl_NodeFault_1 v _ (by omega) (by omega)) hx3) ?_
                 refine D ?_
                 refine cC (fun c9 => ?_) (fun c9 => ?_)
                 · skip
                   refine D ?_
                   refine E ?_
                   first
                   | exact trivial
                   | unfold nodeFault rangeOk listsOk rises idsOk due
                     grind
                 · skip
                   refine D ?_
                   refine kR (s_slices_ContainsFunc_int64 x.match_ 181 x.log.length (fun k => !inR k 0 x.log.length) (by kernel_rfl) (fun v => s_impl_NodeFault_2 v _) hx4) ?_
                   refine D ?_
                   refine cC (fun c10 => ?_) (fun c10 => ?_)
                   · skip
                     refine D ?_
                     refine E ?_
                     first
                     | exact trivial
                     | unfold nodeFault rangeOk listsOk rises idsOk due
                       grind
                   · skip
                     refine D ?_
                     refine cC (fun c11 => ?_) (fun c11 => ?_)
                     · skip
                       refine D ?_
                       refine E ?_
                       first
                       | exact trivial
                       | unfold nodeFault rangeOk listsOk rises idsOk due
                         grind
                     · skip
                       refine D ?_
                       refine E ?_
                       first
                       | exact trivial
                       | unfold nodeFault rangeOk listsOk rises idsOk due
                         grind
             · skip
               refine D ?_
               refine kR (s_impl_size_int64 (x.next.map eI_i64)) ?_
               refine D ?_
               refine kRg (s_impl_size_int64 (x.match_.map eI_i64)) ?_
               refine D ?_
               refine cC (fun c8 => ?_) (fun c8 => ?_)
               · skip
                 refine D ?_
                 refine E ?_
                 first
                 | exact trivial
                 | unfold nodeFault rangeOk listsOk rises idsOk due
                   grind
               · skip
                 refine D ?_
                 refine kR (s_slices_ContainsFunc_int64 x.next 180 x.log.length (fun k => !inR k 1 (x.log.length + 1)) (by kernel_rfl) (fun v => s_impl_NodeFault_1 v _ (by omega) (by omega)) hx3) ?_
                 refine D ?_
                 refine cC (fun c9 => ?_) (fun c9 => ?_)
                 · skip
                   refine D ?_
                   refine E ?_
                   first
                   | exact trivial
                   | unfold nodeFault rangeOk listsOk rises idsOk due
                     grind
                 · skip
                   refine D ?_
                   refine kR (s_slices_ContainsFunc_int64 x.match_ 181 x.log.length (fun k => !inR k 0 x.log.length) (by kernel_rfl) (fun v => s_impl_NodeFault_2 v _) hx4) ?_
                   refine D ?_
                   refine cC (fun c10 => ?_) (fun c10 => ?_)
                   · skip
                     refine D ?_
                     refine E ?_
                     first
                     | exact trivial
                     | unfold nodeFault rangeOk listsOk rises idsOk due
                       grind
                   · skip
                     refine D ?_
                     refine cC (fun c11 => ?_) (fun c11 => ?_)
                     · skip
                       refine D ?_
                       refine E ?_
                       first
                       | exact trivial
                       | unfold nodeFault rangeOk listsOk rises idsOk due
                         grind
                     · skip
                       refine D ?_
                       refine E ?_
                       first
                       | exact trivial
                       | unfold nodeFault rangeOk listsOk rises idsOk due
                         grind
end Go.H
end
section
set_option maxRecDepth 100000
set_option maxHeartbeats 4000000
set_option linter.unusedVariables false
set_option linter.unusedSimpArgs false
namespace Go.H
open Go Go.Proofs.Tryz
variable [Inv prog]
theorem s_impl_MailFault (x : Node) (m : Mail) (hx : limN 2097152 x) (hm : limM 2097152 m) : SemX prog 80 [aS (eNode false x), aS (eMail false m)] [] [rI (if nodeFault x ≠ 0 then nodeFault x else mailFault x m)] [] := by
 refine goF [] [(13, 1, [16384], []), (13, 6, [16384], []), (13, 10, [16384], []), (13, 14, [16384], []), (13, 19, [16384], []), (13, 24, [16384], [])] [] func80 ?_
 have hm1 : m.entries.length ≤ 2097152 := hm
 refine D ?_
 refine kR (s_impl_NodeFault x hx) ?_
 refine D ?_
 refine cC (fun c0 => ?_) (fun c0 => ?_)
 · skip
   refine D ?_
   refine E ?_
   first
   | exact trivial
   | unfold mailFault mailForm mailLog mailZeros mailRange
     grind
 · skip
   refine D ?_
   refine kR (s_impl_in _ _ _) ?_
   refine D ?_
   refine cC (fun c1 => ?_) (fun c1 => ?_)
   · skip
     refine D ?_
     refine E ?_
     first
     | exact trivial
     | unfold mailFault mailForm mailLog mailZeros mailRange
       grind
   · skip
     refine D ?_
     refine kR (s_impl_Node_isId x m.from_) ?_
     refine D ?_
     refine kRg (s_impl_in _ _ _) ?_
     refine D ?_
     refine cC (fun c2 => ?_) (fun c2 => ?_)
     · skip
       refine D ?_
       refine E ?_
       first
       | exact trivial
       | unfold mailFault mailForm mailLog mailZeros mailRange
         grind
     · skip
       refine D ?_
       refine kR (s_impl_in _ _ _) ?_
       refine D ?_
       refine kRg (s_impl_in _ _ _) ?_
       refine D ?_
       refine kRg (s_impl_in _ _ _) ?_
       refine D ?_
       refine cC (fun c3 => ?_) (fun c3 => ?_)
       · skip
         refine D ?_
         refine E ?_
         first
         | exact trivial
         | unfold mailFault mailForm mailLog mailZeros mailRange
           grind
       · skip
         refine D ?_
         refine kR (s_impl_LogFault m.entries (by omega)) ?_
         refine D ?_
         refine cC (fun c4 => ?_) (fun c4 => ?_)
         · skip
           refine D ?_
           refine E ?_
           first
           | exact trivial
           | unfold mailFault mailForm mailLog mailZeros mailRange
             grind
         · skip
           refine D ?_
           refine kDg (s_impl_last m.entries (by omega)) ?_
           refine D ?_
           refine cC (fun c5 => ?_) (fun c5 => ?_)
           · skip
             refine D ?_
             refine cC (fun c8 => ?_) (fun c8 => ?_)
             · skip
               refine D ?_
               refine E ?_
               first
               | exact trivial
               | unfold mailFault mailForm mailLog mailZeros mailRange
                 grind
             · skip
               refine D ?_
               refine E ?_
               first
               | exact trivial
               | unfold mailFault mailForm mailLog mailZeros mailRange
                 grind
           · skip
             refine D ?_
             refine cC (fun c6 => ?_) (fun c6 => ?_)
             · skip
               refine D ?_
               refine cC (fun c8 => ?_) (fun c8 => ?_)
               · skip
                 refine D ?_
                 refine E ?_
                 first
                 | exact trivial
                 | unfold mailFault mailForm mailLog mailZeros mailRange
                   grind
               · skip
                 refine D ?_
                 refine E ?_
                 first
                 | exact trivial
                 | unfold mailFault mailForm mailLog mailZeros mailRange
                   grind
             · skip
               refine D ?_
               refine cC (fun c7 => ?_) (fun c7 => ?_)
               · skip
                 refine D ?_
                 refine cC (fun c8 => ?_) (fun c8 => ?_)
                 · skip
                   refine D ?_
                   refine E ?_
                   first
                   | exact trivial
                   | unfold mailFault mailForm mailLog mailZeros mailRange
                     grind
                 · skip
                   refine D ?_
                   refine E ?_
                   first
                   | exact trivial
                   | unfold mailFault mailForm mailLog mailZeros mailRange
                     grind
               · skip
                 refine D ?_
                 refine cC (fun c8 => ?_) (fun c8 => ?_)
                 · skip
                   refine D ?_
                   refine E ?_
                   first
                   | exact trivial
                   | unfold mailFault mailForm mailLog mailZeros mailRange
                     grind
                 · skip
                   refine D ?_
                   refine E ?_
                   first
                   | exact trivial
                   | unfold mailFault mailForm mailLog mailZeros mailRange
                     grind
end Go.H
end
section
set_option maxRecDepth 100000
set_option maxHeartbeats 4000000
set_option linter.unusedVariables false
set_option linter.unusedSimpArgs false
namespace Go.H
open Go Go.Proofs.Tryz
variable [Inv prog]
theorem s_impl_size_Node (rows : List (List T)) : SemX prog 165 [.one (.t (.sl false 10 rows))] [] [.one (.int .i64 rows.length)] [] := by
 refine goF [] [] [] func165 ?_
 refine D ?_
 exact E trivial
end Go.H
end
section
set_option maxRecDepth 100000
set_option maxHeartbeats 4000000
set_option linter.unusedVariables false
set_option linter.unusedSimpArgs false
namespace Go.H
open Go Go.Proofs.Tryz
variable [Inv prog]
theorem s_impl_Cluster_isPlace (x : Cluster) (n : Int) (hn : x.nodes.length ≤ 2097152) : SemX prog 154 [aT (.ptr (eCluster false x)), aI n] [] [rB (place x n)] [] := by
 refine goF [(24, ⟨some 1, none, none, none⟩)] [] [] func154 ?_
 refine D ?_
 refine kR (s_impl_size_Node (x.nodes.map (eNode false))) ?_
 refine D ?_
 refine kR (s_impl_in n 0 (x.nodes.length - 1)) ?_
 refine D ?_
 refine E ?_
 first
 | exact trivial
 | simp only [go_sem, place]
end Go.H
end
section
set_option maxRecDepth 100000
set_option maxHeartbeats 4000000
set_option linter.unusedVariables false
set_option linter.unusedSimpArgs false
namespace Go.H
open Go Go.Proofs.Tryz
variable [Inv prog]
theorem s_impl_ClusterFault (x : Cluster) (hx : limC 2097152 x) : SemX prog 114 [aS (eCluster false x)] [] [rI (clusterFault x)] [] := by
 refine goF [] [(9, 1, [20480], []), (9, 6, [20480], []), (9, 8, [8192], []), (17, 1, [8192], []), (17, 3, [32768], []), (17, 6, [32768], [])] [] func114 ?_
 obtain ⟨⟨hn, hN⟩, ⟨hm, hM⟩, hw, hs⟩ := id hx
 refine D ?_
 refine kR (s_impl_size_Node (x.nodes.map (eNode false))) ?_
 refine D ?_
 refine kR (s_impl_in _ _ _) ?_
 refine D ?_
 refine cC (fun c0 => ?_) (fun c0 => ?_)
 · skip
   simp only [inR] at c0
   refine D ?_
   refine E ?_
   first
   | exact trivial
   | unfold clusterFault
     grind
 · skip
   simp only [inR] at c0
   refine D ?_
   refine L (α := Nat) (fun i => [(28, .int .i64 i)]) (fun i => []) (fun i => x.nodes.length - i) (fun i => i ≤ x.nodes.length ∧ scan (nodeAt x) x.nodes.length 0 = scan (nodeAt x) x.nodes.length i) 0 [] (fun i hL => ?_) (hi := by exact ⟨Nat.zero_le _, rfl⟩)
   obtain ⟨hI, he⟩ := hL
   refine D ?_
   refine cC (fun c1 => ?_) (fun c1 => ?_)
   · skip
     have hd := nodeAt_eq x i
     have hst := scan_lt (f := nodeAt x) (show i < x.nodes.length by omega)
     refine D ?_
     refine kR (s_impl_NodeFault (x.nodes.getD i zNode) ((all_getD zNode).2 hN i (by omega))) ?_
     refine D ?_
     refine cC (fun c2 => ?_) (fun c2 => ?_)
     · skip
       refine D ?_
       refine E ?_
       first
       | exact trivial
       | unfold clusterFault
         grind
     · skip
       refine D ?_
       refine kDg (s_impl_size_Node (x.nodes.map (eNode false))) ?_
       refine D ?_
       refine cC (fun c3 => ?_) (fun c3 => ?_)
       · skip
         refine D ?_
         refine E ?_
         first
         | exact trivial
         | unfold clusterFault
           grind
       · skip
         refine D ?_
         refine N (i+1) [] (hi := ?_) (hm := ?_)
         · refine ⟨by omega, ?_⟩
           rw [he, scan_lt (by omega), if_pos]
           rw [nodeAt_eq]
           grind
         · omega
   · skip
     have hs0 : scan (nodeAt x) x.nodes.length 0 = 0 := by rw [he, scan_ge (by omega)]
     refine D ?_
     refine L (α := Nat) (fun i => [(54, .int .i64 i)]) (fun i => []) (fun i => x.mails.length - i) (fun i => i ≤ x.mails.length ∧ scan (mailAt x) x.mails.length 0 = scan (mailAt x) x.mails.length i) 0 [] (fun i hL => ?_) (hi := by exact ⟨Nat.zero_le _, rfl⟩)
     obtain ⟨hI, he⟩ := hL
     refine D ?_
     refine cC (fun c4 => ?_) (fun c4 => ?_)
     · skip
       have hd := mailAt_eq x i
       have hst := scan_lt (f := mailAt x) (show i < x.mails.length by omega)
       refine D ?_
       refine kR (s_impl_Cluster_isPlace x _ hn) ?_
       refine D ?_
       refine cC (fun c5 => ?_) (fun c5 => ?_)
       · skip
         refine D ?_
         refine E ?_
         first
         | exact trivial
         | unfold clusterFault
           grind
       · skip
         have hp : place x (x.mails.getD i zMail).to_ = true := by grind
         have hp2 := place_iff.1 hp
         have hnf := (nodes_ok hs0 (i := (x.mails.getD i zMail).to_.toNat) (by omega)).1
         refine D ?_
         refine kD (s_impl_MailFault (x.nodes.getD (x.mails.getD i zMail).to_.toNat zNode) (x.mails.getD i zMail) ((all_getD zNode).2 hN (x.mails.getD i zMail).to_.toNat (by omega)) ((all_getD zMail).2 hM i (by omega))) ?_
         refine D ?_
         refine cC (fun c6 => ?_) (fun c6 => ?_)
         · skip
           refine D ?_
           refine E ?_
           first
           | exact trivial
           | unfold clusterFault
             grind
         · skip
           refine D ?_
           refine N (i+1) [] (hi := ?_) (hm := ?_)
           · refine ⟨by omega, ?_⟩
             rw [he, scan_lt (by omega), if_pos]
             rw [mailAt_eq]
             grind
           · omega
     · skip
       have hs1 : scan (mailAt x) x.mails.length 0 = 0 := by rw [he, scan_ge (by omega)]
       refine D ?_
       refine cC (fun c7 => ?_) (fun c7 => ?_)
       · skip
         refine D ?_
         refine E ?_
         first
         | exact trivial
         | unfold clusterFault
           grind
       · skip
         refine D ?_
         refine L (α := Nat) (fun i => [(87, .int .i64 i)]) (fun i => []) (fun i => x.wins.length - i) (fun i => i ≤ x.wins.length ∧ scan (winAt x) x.wins.length 0 = scan (winAt x) x.wins.length i) 0 [] (fun i hL => ?_) (hi := by exact ⟨Nat.zero_le _, rfl⟩)
         obtain ⟨hI, he⟩ := hL
         refine D ?_
         refine cC (fun c8 => ?_) (fun c8 => ?_)
         · skip
           have hd := winAt_eq x i
           have hst := scan_lt (f := winAt x) (show i < x.wins.length by omega)
           refine D ?_
           refine kR (s_impl_in _ _ _) ?_
           refine D ?_
           refine kRg (s_impl_Cluster_isPlace x _ hn) ?_
           refine D ?_
           refine cC (fun c9 => ?_) (fun c9 => ?_)
           · skip
             refine D ?_
             refine E ?_
             first
             | exact trivial
             | unfold clusterFault
               grind
           · skip
             refine D ?_
             refine N (i+1) [] (hi := ?_) (hm := ?_)
             · refine ⟨by omega, ?_⟩
               rw [he, scan_lt (by omega), if_pos]
               rw [winAt_eq]
               grind
             · omega
         · skip
           have hs2 : scan (winAt x) x.wins.length 0 = 0 := by rw [he, scan_ge (by omega)]
           refine D ?_
           refine L (α := Nat) (fun i => [(105, .int .i64 i)]) (fun i => []) (fun i => x.seals.length - i) (fun i => i ≤ x.seals.length ∧ scan (sealAt x) x.seals.length 0 = scan (sealAt x) x.seals.length i) 0 [] (fun i hL => ?_) (hi := by exact ⟨Nat.zero_le _, rfl⟩)
           obtain ⟨hI, he⟩ := hL
           refine D ?_
           refine cC (fun c10 => ?_) (fun c10 => ?_)
           · skip
             have hd := sealAt_eq x i
             have hst := scan_lt (f := sealAt x) (show i < x.seals.length by omega)
             refine D ?_
             refine kR (s_impl_in _ _ _) ?_
             refine D ?_
             refine cC (fun c11 => ?_) (fun c11 => ?_)
             · skip
               refine D ?_
               refine E ?_
               first
               | exact trivial
               | unfold clusterFault
                 grind
             · skip
               refine D ?_
               refine kR (s_impl_EntryFault _) ?_
               refine D ?_
               refine cC (fun c12 => ?_) (fun c12 => ?_)
               · skip
                 refine D ?_
                 refine E ?_
                 first
                 | exact trivial
                 | unfold clusterFault
                   grind
               · skip
                 refine D ?_
                 refine N (i+1) [] (hi := ?_) (hm := ?_)
                 · refine ⟨by omega, ?_⟩
                   rw [he, scan_lt (by omega), if_pos]
                   rw [sealAt_eq]
                   grind
                 · omega
           · skip
             have hs3 : scan (sealAt x) x.seals.length 0 = 0 := by rw [he, scan_ge (by omega)]
             refine D ?_
             refine E ?_
             first
             | exact trivial
             | unfold clusterFault
               grind
end Go.H
end
section
set_option maxRecDepth 100000
set_option maxHeartbeats 4000000
set_option linter.unusedVariables false
set_option linter.unusedSimpArgs false
namespace Go.H
open Go Go.Proofs.Tryz
variable [Inv prog]
theorem s_slices_Clone_Entry (xs : List Entry) (hl : xs.length ≤ 2097152) : SemX prog 119 [aT (.sl false 9 (xs.map eEntry))] [] [.one (.sl true 9 (xs.map eEntry))] [] := by
 refine goF [] [] [] func119 ?_
 refine D ?_
 refine RW_isn (fun b => xs.map eEntry ≠ [] → b = false) rfl rfl (by simp only [go_sem] <;> and_intros <;> first | with_reducible exact rfl | omega | with_reducible trivial | (intros; simp_all; done) | grind) (fun b hb => ?_)
 refine D ?_
 refine cC (fun c0 => ?_) (fun c0 => ?_)
 · skip
   have hx : xs = [] := by
     cases xs with
     | nil => rfl
     | cons a l => have := hb (by simp); rw [this] at c0; cases c0
   subst hx
   refine D ?_
   exact E trivial
 · skip
   refine D ?_
   exact E trivial
end Go.H
end
section
set_option maxRecDepth 100000
set_option maxHeartbeats 4000000
set_option linter.unusedVariables false
set_option linter.unusedSimpArgs false
namespace Go.H
open Go Go.Proofs.Tryz
variable [Inv prog]
theorem s_impl_copiedMail (x : Mail) (hx : limM 2097152 x) : SemX prog 60 [aS (eMail false x)] [] [.agg (eMail true x)] [] := by
 refine goF [] [] [] func60 ?_
 refine D ?_
 refine kR (s_slices_Clone_Entry x.entries hx) ?_
 refine D ?_
 exact E trivial
end Go.H
end
section
set_option maxRecDepth 100000
set_option maxHeartbeats 4000000
set_option linter.unusedVariables false
set_option linter.unusedSimpArgs false
namespace Go.H
open Go Go.Proofs.Tryz
variable [Inv prog]
theorem s_slices_Clone_int64 (xs : List Int) (hl : xs.length ≤ 2097152) : SemX prog 140 [aT (.sl false 1 (xs.map eI_i64))] [] [.one (.sl true 1 (xs.map eI_i64))] [] := by
 refine goF [] [] [] func140 ?_
 refine D ?_
 refine RW_isn (fun b => xs.map eI_i64 ≠ [] → b = false) rfl rfl (by simp only [go_sem] <;> and_intros <;> first | with_reducible exact rfl | omega | with_reducible trivial | (intros; simp_all; done) | grind) (fun b hb => ?_)
 refine D ?_
 refine cC (fun c0 => ?_) (fun c0 => ?_)
 · skip
   have hx : xs = [] := by
     cases xs with
     | nil => rfl
     | cons a l => have := hb (by simp); rw [this] at c0; cases c0
   subst hx
   refine D ?_
   exact E trivial
 · skip
   refine D ?_
   exact E trivial
end Go.H
end
section
set_option maxRecDepth 100000
set_option maxHeartbeats 4000000
set_option linter.unusedVariables false
set_option linter.unusedSimpArgs false
namespace Go.H
open Go Go.Proofs.Tryz
variable [Inv prog]
theorem s_impl_Node_copied (x : Node) (hx : limN 2097152 x) : SemX prog 81 [aS (eNode false x)] [] [.agg (eNode true x)] [] := by
 refine goF [] [(1, 1, [8192], []), (1, 2, [], [24576]), (1, 4, [8192], []), (1, 5, [], [36864]), (1, 7, [8192], []), (1, 8, [], [49152]), (1, 10, [8192], []), (1, 11, [], [61440]), (1, 13, [8192], [8192]), (1, 15, [8192], [8192]), (1, 17, [8192], [8192]), (1, 19, [8192], [8192])] [] func81 ?_
 refine D ?_
 refine kD (s_slices_Clone_Entry x.log hx.1) ?_
 refine D ?_
 refine kD (s_slices_Clone_int64 x.votes hx.2.1) ?_
 refine D ?_
 refine kD (s_slices_Clone_int64 x.next hx.2.2.1) ?_
 refine D ?_
 refine kD (s_slices_Clone_int64 x.match_ hx.2.2.2) ?_
 refine D ?_
 exact E trivial
end Go.H
end
section
set_option maxRecDepth 100000
set_option maxHeartbeats 4000000
set_option linter.unusedVariables false
set_option linter.unusedSimpArgs false
namespace Go.H
open Go Go.Proofs.Tryz
variable [Inv prog]
theorem s_slices_Clone_Won (xs : List Won) (hl : xs.length ≤ 2097152) : SemX prog 166 [aT (.sl false 2 (xs.map eWon))] [] [.one (.sl true 2 (xs.map eWon))] [] := by
 refine goF [] [] [] func166 ?_
 refine D ?_
 refine RW_isn (fun b => xs.map eWon ≠ [] → b = false) rfl rfl (by simp only [go_sem] <;> and_intros <;> first | with_reducible exact rfl | omega | with_reducible trivial | (intros; simp_all; done) | grind) (fun b hb => ?_)
 refine D ?_
 refine cC (fun c0 => ?_) (fun c0 => ?_)
 · skip
   have hx : xs = [] := by
     cases xs with
     | nil => rfl
     | cons a l => have := hb (by simp); rw [this] at c0; cases c0
   subst hx
   refine D ?_
   exact E trivial
 · skip
   refine D ?_
   exact E trivial
end Go.H
end
section
set_option maxRecDepth 100000
set_option maxHeartbeats 4000000
set_option linter.unusedVariables false
set_option linter.unusedSimpArgs false
namespace Go.H
open Go Go.Proofs.Tryz
variable [Inv prog]
theorem s_slices_Clone_Seal (xs : List Seal) (hl : xs.length ≤ 2097152) : SemX prog 167 [aT (.sl false 10 (xs.map eSeal))] [] [.one (.sl true 10 (xs.map eSeal))] [] := by
 refine goF [] [] [] func167 ?_
 refine D ?_
 refine RW_isn (fun b => xs.map eSeal ≠ [] → b = false) rfl rfl (by simp only [go_sem] <;> and_intros <;> first | with_reducible exact rfl | omega | with_reducible trivial | (intros; simp_all; done) | grind) (fun b hb => ?_)
 refine D ?_
 refine cC (fun c0 => ?_) (fun c0 => ?_)
 · skip
   have hx : xs = [] := by
     cases xs with
     | nil => rfl
     | cons a l => have := hb (by simp); rw [this] at c0; cases c0
   subst hx
   refine D ?_
   exact E trivial
 · skip
   refine D ?_
   exact E trivial
end Go.H
end
section
set_option maxRecDepth 100000
set_option maxHeartbeats 4000000
set_option linter.unusedVariables false
set_option linter.unusedSimpArgs false
namespace Go.H
open Go Go.Proofs.Tryz
variable [Inv prog]
theorem s_impl_Cluster_copied (x : Cluster) (hx : limC 2097152 x) : SemX prog 117 [aS (eCluster false x)] [] [.agg (eCluster true x)] [] := by
 refine goF [(30, ⟨some 4, some 61440, some (34, true), none⟩)] [(1, 1, [8192], []), (1, 2, [], [45056]), (1, 4, [8192], []), (1, 5, [], [57344]), (1, 6, [], [61440, 61441]), (1, 7, [], [16384]), (1, 8, [16384], [16384]), (5, 1, [16384], []), (5, 2, [24576], []), (5, 3, [], [106500, 106503, 106504, 106505]), (5, 4, [106500, 106503, 106504, 106505], [110592, 106500, 106503, 106504, 106505]), (5, 5, [61440, 110592], [114688, 61440, 110592]), (5, 7, [16384], [16384]), (10, 1, [16384], []), (10, 2, [32768], []), (10, 3, [], [167944]), (10, 4, [167944], [172032, 167944]), (10, 5, [61441, 172032], [176128, 61441, 172032]), (10, 7, [16384], [16384])] [] func117 ?_
 obtain ⟨⟨hn, hN⟩, ⟨hm, hM⟩, hw, hs⟩ := id hx
 refine D ?_
 refine kD (s_slices_Clone_Won x.wins hw) ?_
 refine D ?_
 refine kD (s_slices_Clone_Seal x.seals hs) ?_
 refine D ?_
 refine L (α := Nat) (fun i => [(18, .int .i64 i)]) (fun i => [(16384, .var [.ref 61440 0 i, .ref 61441 0 0, .ref 45056 0 x.wins.length, .ref 57344 0 x.seals.length]), (61440, .arr ⟨10, (x.nodes.take i).map (eNode true), 1, none⟩)]) (fun i => x.nodes.length - i) (fun i => i ≤ x.nodes.length) 0 [] (fun i hI => ?_)
 refine D ?_
 refine cC (fun c0 => ?_) (fun c0 => ?_)
 · skip
   refine D ?_
   refine kD (s_impl_Node_copied (x.nodes.getD i zNode) ((all_getD zNode).2 hN i (by omega))) ?_
   refine D ?_
   refine lp_next (i+1) [(61440,114688)] ?_ ?_ ?_
   · simp only [go_sem] <;> and_intros <;> first | with_reducible exact rfl | (first | omega | (rw [take_succ_map _ zNode (by omega)]; simp only [eNode]))
   · omega
   · omega
 · skip
   obtain rfl : i = x.nodes.length := by omega
   refine D ?_
   refine L (α := Nat) (fun i => [(33, .int .i64 i)]) (fun i => [(16384, .var [.ref 61440 0 x.nodes.length, .ref 61441 0 i, .ref 45056 0 x.wins.length, .ref 57344 0 x.seals.length]), (61441, .arr ⟨9, (x.mails.take i).map (eMail true), 1, none⟩)]) (fun i => x.mails.length - i) (fun i => i ≤ x.mails.length) 0 [] (fun i hI => ?_)
   refine D ?_
   refine cC (fun c1 => ?_) (fun c1 => ?_)
   · skip
     refine D ?_
     refine kD (s_impl_copiedMail (x.mails.getD i zMail) ((all_getD zMail).2 hM i (by omega))) ?_
     refine D ?_
     refine lp_next (i+1) [(61441,176128)] ?_ ?_ ?_
     · simp only [go_sem] <;> and_intros <;> first | with_reducible exact rfl | (first | omega | (rw [take_succ_map _ zMail (by omega)]; simp only [eMail]))
     · omega
     · omega
   · skip
     obtain rfl : i = x.mails.length := by omega
     refine D ?_
     exact E trivial
end Go.H
end
section
set_option maxRecDepth 100000
set_option maxHeartbeats 4000000
set_option linter.unusedVariables false
set_option linter.unusedSimpArgs false
namespace Go.H
open Go Go.Proofs.Tryz
variable [Inv prog]
theorem s_impl_Cluster_result (x : Cluster) (c : Int) : SemX prog 118 [.one (.ptr 0 0), aI c] [.var (eCluster true x)] [.agg (eClusterResult true (resC c x))] [.var [.junk, .junk, .junk, .junk]] := by
 refine goF [] [] [] func118 ?_
 refine D ?_
 refine cC (fun c0 => ?_) (fun c0 => ?_)
 · skip
   refine D ?_
   refine E ?_
   first
   | exact trivial
   | simp [resC, bad, zCluster, *]
 · skip
   refine D ?_
   refine E ?_
   first
   | exact trivial
   | simp [resC, bad, zCluster, *]
theorem s_impl_Cluster_result_no (c : Int) (hc : c ≠ 0) : SemX prog 118 [.one (.ptr 0 0), aI c] [.var [.junk, .junk, .junk, .junk]] [.agg (eClusterResult true (bad c))] [.var [.junk, .junk, .junk, .junk]] := by
 refine goF [] [] [] func118 ?_
 refine D ?_
 refine cC (fun c0 => ?_) (fun c0 => ?_)
 · skip
   refine D ?_
   refine E ?_
   first
   | exact trivial
   | simp [bad, zCluster]
 · skip
   exfalso
   simp [hc] at c0
end Go.H
end
section
set_option maxRecDepth 100000
set_option maxHeartbeats 4000000
set_option linter.unusedVariables false
set_option linter.unusedSimpArgs false
namespace Go.H
open Go Go.Proofs.Tryz
variable [Inv prog]
theorem s_impl_onNode_ok (x : Cluster) (hx : limC 2097152 x) (p : Int) (fn : Nat) (r : NodeResult) (hq : callB prog fn = true) (hf : ∀ n : Nat, p = n → n < x.nodes.length → SemX prog fn [aS (eNode false (x.nodes.getD n zNode))] [] [.agg (eNodeResult true r)] []) (hr : limR 2097152 r) (hc : r.node.commit ≤ r.node.log.length) (hid : ∀ n : Nat, p = n → n < x.nodes.length → clusterFault x = 0 → r.code = 0 → r.node.id = n) (hok : doOk x p.toNat r = true) : SemX prog 96 [aS (eCluster false x), aI p, .one (.fn fn [])] [] [.agg (eClusterResult true (atNode x p r))] [] := by
 refine goF [] [] [] func96 ?_
 obtain ⟨⟨hn, hN⟩, ⟨hm, hM⟩, hw, hs⟩ := id hx
 refine D ?_
 refine kR (s_impl_ClusterFault x hx) ?_
 refine D ?_
 refine kRg (s_impl_Cluster_isPlace x p hn) ?_
 refine D ?_
 refine cC (fun c0 => ?_) (fun c0 => ?_)
 · skip
   refine D ?_
   refine cT ?_
   refine D ?_
   refine E ?_
   have he : atNode x p r = bad 3 := by unfold atNode nodeGuard; grind
   simp [he, bad, zCluster]
 · skip
   refine D ?_
   refine cC (fun c1 => ?_) (fun c1 => ?_)
   · skip
     refine D ?_
     refine E ?_
     have he : atNode x p r = bad (clusterFault x) := by unfold atNode nodeGuard; grind
     simp [he, bad, zCluster]
   · skip
     have c0n : nodeGuard x p = 0 := by unfold nodeGuard; grind
     obtain ⟨hcf, n, rfl, hn2⟩ := guardN_iff c0n
     have hcw := cl_wins hcf
     have hid2 := hid n rfl hn2 hcf
     refine D ?_
     refine kR (s_impl_Cluster_copied x hx) ?_
     refine D ?_
     refine kR (hf n rfl hn2) ?_ hq
     refine D ?_
     refine kRk [36864] [126981, 126984, 126985, 126986, 126987] [98304, 98305, 98306, 98307] (s_impl_Cluster_do_ok x hx n hn2 r hr hc hid2 hcw.1 hok) ?_
     refine D ?_
     refine kRk [36864] [] [132096, 132097, 132098, 132099] (s_impl_Cluster_result (doC x n r) 0) ?_
     refine D ?_
     refine E ?_
     have hok2 : doOk x n r = true := hok
     have he : atNode x n r = ⟨0, doC x n r⟩ := by unfold atNode doR; rw [if_neg (by omega), if_pos hok]; rfl
     simp [he, resC]
theorem s_impl_onNode_no (x : Cluster) (hx : limC 2097152 x) (p : Int) (fn : Nat) (r : NodeResult) (hq : callB prog fn = true) (hf : ∀ n : Nat, p = n → n < x.nodes.length → SemX prog fn [aS (eNode false (x.nodes.getD n zNode))] [] [.agg (eNodeResult true r)] []) (hr : limR 2097152 r) (hc : r.node.commit ≤ r.node.log.length) (hid : ∀ n : Nat, p = n → n < x.nodes.length → clusterFault x = 0 → r.code = 0 → r.node.id = n) (hok : doOk x p.toNat r = false) : SemX prog 96 [aS (eCluster false x), aI p, .one (.fn fn [])] [] [.agg (eClusterResult true (atNode x p r))] [] := by
 refine goF [] [] [] func96 ?_
 obtain ⟨⟨hn, hN⟩, ⟨hm, hM⟩, hw, hs⟩ := id hx
 refine D ?_
 refine kR (s_impl_ClusterFault x hx) ?_
 refine D ?_
 refine kRg (s_impl_Cluster_isPlace x p hn) ?_
 refine D ?_
 refine cC (fun c0 => ?_) (fun c0 => ?_)
 · skip
   refine D ?_
   refine cT ?_
   refine D ?_
   refine E ?_
   have he : atNode x p r = bad 3 := by unfold atNode nodeGuard; grind
   simp [he, bad, zCluster]
 · skip
   refine D ?_
   refine cC (fun c1 => ?_) (fun c1 => ?_)
   · skip
     refine D ?_
     refine E ?_
     have he : atNode x p r = bad (clusterFault x) := by unfold atNode nodeGuard; grind
     simp [he, bad, zCluster]
   · skip
     have c0n : nodeGuard x p = 0 := by unfold nodeGuard; grind
     obtain ⟨hcf, n, rfl, hn2⟩ := guardN_iff c0n
     have hcw := cl_wins hcf
     have hid2 := hid n rfl hn2 hcf
     refine D ?_
     refine kR (s_impl_Cluster_copied x hx) ?_
     refine D ?_
     refine kR (hf n rfl hn2) ?_ hq
     refine D ?_
     refine kRk [36864] [126981, 126984, 126985, 126986, 126987] [98304, 98305, 98306, 98307] (s_impl_Cluster_do_no x hx n hn2 r hr hc hid2 hcw.1 hok) ?_
     refine D ?_
     refine kRk [36864] [] [] (s_impl_Cluster_result_no (if r.code ≠ 0 then r.code else 2) (by split <;> omega)) ?_
     refine D ?_
     refine E ?_
     have he : atNode x n r = bad (if r.code ≠ 0 then r.code else 2) := by unfold atNode doR; rw [if_neg (by omega), if_neg (by rw [hok]; simp)]
     simp [he]
theorem s_impl_onNode (x : Cluster) (hx : limC 2097152 x) (p : Int) (fn : Nat) (r : NodeResult) (hq : callB prog fn = true) (hf : ∀ n : Nat, p = n → n < x.nodes.length → SemX prog fn [aS (eNode false (x.nodes.getD n zNode))] [] [.agg (eNodeResult true r)] []) (hr : limR 2097152 r) (hc : r.node.commit ≤ r.node.log.length) (hid : ∀ n : Nat, p = n → n < x.nodes.length → clusterFault x = 0 → r.code = 0 → r.node.id = n) : SemX prog 96 [aS (eCluster false x), aI p, .one (.fn fn [])] [] [.agg (eClusterResult true (atNode x p r))] [] := by
  cases h : doOk x p.toNat r
  · exact s_impl_onNode_no x hx p fn r hq hf hr hc hid h
  · exact s_impl_onNode_ok x hx p fn r hq hf hr hc hid h
theorem s_impl_onNodeAsk_ok (x : Cluster) (hx : limC 2097152 x) (p : Int) (cl sq : Int) (cm : Cmd) (fn : Nat) (r : NodeResult) (hq : callB prog fn = true) (hf : ∀ n : Nat, p = n → n < x.nodes.length → SemX prog fn [aS (eNode false (x.nodes.getD n zNode)), aT (.ptr [.int .i64 cl]), aT (.ptr [.int .i64 sq]), aT (.ptr (eCmd cm))] [] [.agg (eNodeResult true r)] []) (hr : limR 2097152 r) (hc : r.node.commit ≤ r.node.log.length) (hid : ∀ n : Nat, p = n → n < x.nodes.length → clusterFault x = 0 → r.code = 0 → r.node.id = n) (hok : doOk x p.toNat r = true) : SemX prog 96 [aS (eCluster false x), aI p, .one (.fn fn [.t (.ptr [.int .i64 cl]), .t (.ptr [.int .i64 sq]), .t (.ptr (eCmd cm))])] [] [.agg (eClusterResult true (atNode x p r))] [] := by
 refine goF [] [] [] func96 ?_
 obtain ⟨⟨hn, hN⟩, ⟨hm, hM⟩, hw, hs⟩ := id hx
 refine D ?_
 refine kR (s_impl_ClusterFault x hx) ?_
 refine D ?_
 refine kRg (s_impl_Cluster_isPlace x p hn) ?_
 refine D ?_
 refine cC (fun c0 => ?_) (fun c0 => ?_)
 · skip
   refine D ?_
   refine cT ?_
   refine D ?_
   refine E ?_
   have he : atNode x p r = bad 3 := by unfold atNode nodeGuard; grind
   simp [he, bad, zCluster]
 · skip
   refine D ?_
   refine cC (fun c1 => ?_) (fun c1 => ?_)
   · skip
     refine D ?_
     refine E ?_
     have he : atNode x p r = bad (clusterFault x) := by unfold atNode nodeGuard; grind
     simp [he, bad, zCluster]
   · skip
     have c0n : nodeGuard x p = 0 := by unfold nodeGuard; grind
     obtain ⟨hcf, n, rfl, hn2⟩ := guardN_iff c0n
     have hcw := cl_wins hcf
     have hid2 := hid n rfl hn2 hcf
     refine D ?_
     refine kR (s_impl_Cluster_copied x hx) ?_
     refine D ?_
     refine kR (hf n rfl hn2) ?_ hq
     refine D ?_
     refine kRk [36864] [126981, 126984, 126985, 126986, 126987] [98304, 98305, 98306, 98307] (s_impl_Cluster_do_ok x hx n hn2 r hr hc hid2 hcw.1 hok) ?_
     refine D ?_
     refine kRk [36864] [] [132096, 132097, 132098, 132099] (s_impl_Cluster_result (doC x n r) 0) ?_
     refine D ?_
     refine E ?_
     have hok2 : doOk x n r = true := hok
     have he : atNode x n r = ⟨0, doC x n r⟩ := by unfold atNode doR; rw [if_neg (by omega), if_pos hok]; rfl
     simp [he, resC]
theorem s_impl_onNodeAsk_no (x : Cluster) (hx : limC 2097152 x) (p : Int) (cl sq : Int) (cm : Cmd) (fn : Nat) (r : NodeResult) (hq : callB prog fn = true) (hf : ∀ n : Nat, p = n → n < x.nodes.length → SemX prog fn [aS (eNode false (x.nodes.getD n zNode)), aT (.ptr [.int .i64 cl]), aT (.ptr [.int .i64 sq]), aT (.ptr (eCmd cm))] [] [.agg (eNodeResult true r)] []) (hr : limR 2097152 r) (hc : r.node.commit ≤ r.node.log.length) (hid : ∀ n : Nat, p = n → n < x.nodes.length → clusterFault x = 0 → r.code = 0 → r.node.id = n) (hok : doOk x p.toNat r = false) : SemX prog 96 [aS (eCluster false x), aI p, .one (.fn fn [.t (.ptr [.int .i64 cl]), .t (.ptr [.int .i64 sq]), .t (.ptr (eCmd cm))])] [] [.agg (eClusterResult true (atNode x p r))] [] := by
 refine goF [] [] [] func96 ?_
 obtain ⟨⟨hn, hN⟩, ⟨hm, hM⟩, hw, hs⟩ := id hx
 refine D ?_
 refine kR (s_impl_ClusterFault x hx) ?_
 refine D ?_
 refine kRg (s_impl_Cluster_isPlace x p hn) ?_
 refine D ?_
 refine cC (fun c0 => ?_) (fun c0 => ?_)
 · skip
   refine D ?_
   refine cT ?_
   refine D ?_
   refine E ?_
   have he : atNode x p r = bad 3 := by unfold atNode nodeGuard; grind
   simp [he, bad, zCluster]
 · skip
   refine D ?_
   refine cC (fun c1 => ?_) (fun c1 => ?_)
   · skip
     refine D ?_
     refine E ?_
     have he : atNode x p r = bad (clusterFault x) := by unfold atNode nodeGuard; grind
     simp [he, bad, zCluster]
   · skip
     have c0n : nodeGuard x p = 0 := by unfold nodeGuard; grind
     obtain ⟨hcf, n, rfl, hn2⟩ := guardN_iff c0n
     have hcw := cl_wins hcf
     have hid2 := hid n rfl hn2 hcf
     refine D ?_
     refine kR (s_impl_Cluster_copied x hx) ?_
     refine D ?_
     refine kR (hf n rfl hn2) ?_ hq
     refine D ?_
     refine kRk [36864] [126981, 126984, 126985, 126986, 126987] [98304, 98305, 98306, 98307] (s_impl_Cluster_do_no x hx n hn2 r hr hc hid2 hcw.1 hok) ?_
     refine D ?_
     refine kRk [36864] [] [] (s_impl_Cluster_result_no (if r.code ≠ 0 then r.code else 2) (by split <;> omega)) ?_
     refine D ?_
     refine E ?_
     have he : atNode x n r = bad (if r.code ≠ 0 then r.code else 2) := by unfold atNode doR; rw [if_neg (by omega), if_neg (by rw [hok]; simp)]
     simp [he]
theorem s_impl_onNodeAsk (x : Cluster) (hx : limC 2097152 x) (p : Int) (cl sq : Int) (cm : Cmd) (fn : Nat) (r : NodeResult) (hq : callB prog fn = true) (hf : ∀ n : Nat, p = n → n < x.nodes.length → SemX prog fn [aS (eNode false (x.nodes.getD n zNode)), aT (.ptr [.int .i64 cl]), aT (.ptr [.int .i64 sq]), aT (.ptr (eCmd cm))] [] [.agg (eNodeResult true r)] []) (hr : limR 2097152 r) (hc : r.node.commit ≤ r.node.log.length) (hid : ∀ n : Nat, p = n → n < x.nodes.length → clusterFault x = 0 → r.code = 0 → r.node.id = n) : SemX prog 96 [aS (eCluster false x), aI p, .one (.fn fn [.t (.ptr [.int .i64 cl]), .t (.ptr [.int .i64 sq]), .t (.ptr (eCmd cm))])] [] [.agg (eClusterResult true (atNode x p r))] [] := by
  cases h : doOk x p.toNat r
  · exact s_impl_onNodeAsk_no x hx p cl sq cm fn r hq hf hr hc hid h
  · exact s_impl_onNodeAsk_ok x hx p cl sq cm fn r hq hf hr hc hid h
end Go.H
end
section
set_option maxRecDepth 100000
set_option maxHeartbeats 4000000
set_option linter.unusedVariables false
set_option linter.unusedSimpArgs false
namespace Go.H
open Go Go.Proofs.Tryz
variable [Inv prog]
theorem s_impl_Node_isQuorum (x : Node) (c : Int) (h0 : 0 ≤ c) (h1 : c ≤ 4194304) : SemX prog 144 [aT (.ptr (eNode false x)), aI c] [] [rB (quor x c)] [] := by
 refine goF [(14, ⟨some 1, none, none, none⟩)] [] [] func144 ?_
 refine D ?_
 refine E ?_
 first
 | exact trivial
 | simp only [go_sem, quor]
end Go.H
end
section
set_option maxRecDepth 100000
set_option maxHeartbeats 4000000
set_option linter.unusedVariables false
set_option linter.unusedSimpArgs false
namespace Go.H
open Go Go.Proofs.Tryz
variable [Inv prog]
theorem s_impl_Node_agree (x : Node) (hx : limN 2097152 x) (h0 : 0 ≤ x.commit) (h1 : x.commit ≤ x.log.length) : SemX prog 149 [.one (.ptr 0 0)] [.var (eNode true x)] [] [.var (eNode true (agreed x))] := by
 refine goF [(38, ⟨some 1, none, none, none⟩), (66, ⟨some 1, none, none, none⟩), (88, ⟨some 1, none, none, none⟩)] [(10, 2, [1000000, 1000005, 1000008, 1000009, 1000010], []), (10, 7, [1000000], []), (10, 10, [1000005], []), (10, 12, [1000005], []), (10, 16, [1000000], [])] [] func149 ?_
 obtain ⟨hx1, hx2, hx3, hx4⟩ := id hx
 refine D ?_
 refine kR (s_impl_size_Entry (x.log.map eEntry)) ?_
 refine D ?_
 refine L (α := Nat) (fun n => [(2, .int .i64 n)]) (fun n => []) (fun n => n) (fun n => n ≤ x.log.length ∧ x.commit ≤ n ∧ agI x = agN x x.commit.toNat n) x.log.length [] (fun n hL => ?_) (hi := by exact ⟨Nat.le_refl _, h1, rfl⟩)
 obtain ⟨hn, hc, ha⟩ := hL
 refine D ?_
 refine cC (fun c0 => ?_) (fun c0 => ?_)
 · skip
   refine D ?_
   refine L (α := Nat) (fun j => [(3, .int .i64 (cntGe (x.match_.take j) n)), (24, .int .i64 j)]) (fun j => []) (fun j => x.match_.length - j) (fun j => j ≤ x.match_.length) 0 [] (fun j hL => ?_) (by (simp only [go_sem] <;> and_intros <;> first | with_reducible exact rfl | (simp [cntGe]; done) | omega))
   obtain hj := hL
   have hcb := cntGe_take_le x.match_ n j
   refine D ?_
   refine cC (fun c1 => ?_) (fun c1 => ?_)
   · skip
     refine D ?_
     refine cC (fun c2 => ?_) (fun c2 => ?_)
     · skip
       refine D ?_
       refine lp_next (j+1) [] ?_ ?_ ?_
       · simp only [go_sem] <;> and_intros <;> first | with_reducible exact rfl | (first | omega | (refine int_eq ?_; rw [cntGe_succ (by omega)]; first | (rw [if_pos (by assumption)]; omega) | (rw [if_neg (by assumption)]; omega)))
       · omega
       · omega
     · skip
       refine D ?_
       refine lp_next (j+1) [] ?_ ?_ ?_
       · simp only [go_sem] <;> and_intros <;> first | with_reducible exact rfl | (first | omega | (refine int_eq ?_; rw [cntGe_succ (by omega)]; first | (rw [if_pos (by assumption)]; omega) | (rw [if_neg (by assumption)]; omega)))
       · omega
       · omega
   · skip
     obtain rfl : j = x.match_.length := by omega
     refine D ?_
     refine kD (s_impl_Node_isQuorum x (cntGe x.match_ n) (by omega) (by have := cntGe_le x.match_ n; omega)) ?_
     refine D ?_
     refine cC (fun c3 => ?_) (fun c3 => ?_)
     · skip
       refine D ?_
       refine E ?_
       have e : agI x = n := by rw [ha, agN_ok x (by omega) (by unfold agOk; simp_all)]
       simp only [agreed, e]
     · skip
       refine D ?_
       refine lp_next (n - 1) [] ?_ ?_ ?_
       · simp only [go_sem] <;> and_intros <;> first | with_reducible exact rfl | (first | omega | (refine int_eq ?_; omega))
       · refine ⟨by omega, by omega, ?_⟩
         rw [ha, agN_no x (by omega) (by unfold agOk; simp_all)]
       · omega
 · skip
   have hn2 : (n : Int) = x.commit := by omega
   refine D ?_
   refine E ?_
   have e : agI x = x.commit := by rw [ha, agN_le x (c := x.commit.toNat) (n := n) (by omega)]; omega
   simp only [agreed, e]
end Go.H
end
section
set_option maxRecDepth 100000
set_option maxHeartbeats 4000000
set_option linter.unusedVariables false
set_option linter.unusedSimpArgs false
namespace Go.H
open Go Go.Proofs.Tryz
variable [Inv prog]
theorem s_math_bits_Mul64 (a b : Int) (ha : 0 ≤ a) (ha2 : a ≤ 1) (hb : 0 ≤ b) (hb2 : b ≤ 5) : SemX prog 209 [.one (.t (.int .u64 a)), .one (.t (.int .u64 b))] [] [.one (.int .u64 0), .one (.int .u64 (a * b))] [] := by
 refine goF [] [] [] func209 ?_
 refine D ?_
 refine E ?_
 first
 | exact trivial
 | have ea : a = 0 ∨ a = 1 := by omega
   have eb : b = 0 ∨ b = 1 ∨ b = 2 ∨ b = 3 ∨ b = 4 ∨ b = 5 := by omega
   rcases ea with rfl | rfl <;> rcases eb with rfl | rfl | rfl | rfl | rfl | rfl <;> exact rfl
end Go.H
end
section
set_option maxRecDepth 100000
set_option maxHeartbeats 4000000
set_option linter.unusedVariables false
set_option linter.unusedSimpArgs false
namespace Go.H
open Go Go.Proofs.Tryz
variable [Inv prog]
theorem s_math_bits_Mul (a b : Int) (ha : 0 ≤ a) (ha2 : a ≤ 1) (hb : 0 ≤ b) (hb2 : b ≤ 5) : SemX prog 195 [.one (.t (.int .u64 a)), .one (.t (.int .u64 b))] [] [.one (.int .u64 0), .one (.int .u64 (a * b))] [] := by
 refine goF [] [] [] func195 ?_
 refine D ?_
 refine cF ?_
 refine D ?_
 refine kR (s_math_bits_Mul64 a b ha ha2 hb hb2) ?_
 refine D ?_
 exact E trivial
end Go.H
end
section
set_option maxRecDepth 100000
set_option maxHeartbeats 4000000
set_option linter.unusedVariables false
set_option linter.unusedSimpArgs false
namespace Go.H
open Go Go.Proofs.Tryz
variable [Inv prog]
theorem s_slices_Repeat_int64 (v : Int) (n : Nat) (h1 : 1 ≤ n) (h5 : n ≤ 5) : SemX prog 186 [aT (.sl false 1 [[.int .i64 v]]), aI n] [] [.one (.sl true 1 ((List.replicate n v).map eI_i64))] [] := by
 refine goF [] [(9, 3, [126976], []), (9, 6, [126976], []), (9, 7, [126976], [126976])] [] func186 ?_
 have hw : IntKind.u64.wrap (n : Int) = n := by
  have : n = 1 ∨ n = 2 ∨ n = 3 ∨ n = 4 ∨ n = 5 := by omega
  rcases this with rfl | rfl | rfl | rfl | rfl <;> rfl
 have hm1 : min n 1 = 1 := by omega
 have hw2 : IntKind.i64.wrap (n : Int) = n := by
  have : n = 1 ∨ n = 2 ∨ n = 3 ∨ n = 4 ∨ n = 5 := by omega
  rcases this with rfl | rfl | rfl | rfl | rfl <;> rfl
 have hA := And.intro hw (And.intro hw2 (hm1))
 refine D ?_
 refine cC (fun c0 => ?_) (fun c0 => ?_)
 · skip
   omega
 · skip
   refine D ?_
   refine kR (s_math_bits_Mul 1 n (by omega) (by omega) (by omega) (by omega)) ?_
   refine D ?_
   refine cC (fun c1 => ?_) (fun c1 => ?_)
   · skip
     omega
   · skip
     refine D ?_
     refine L (α := Nat) (fun k => [(8, .int .i64 k)]) (fun k => [(126976, .arr ⟨1, repV v k n, repVer k, none⟩)]) (fun k => n - k) (fun k => 1 ≤ k ∧ k ≤ n ∧ (k = 1 ∨ k = 2 ∨ k = 4 ∨ k = n)) 1 [] (fun k hL => ?_) (by simp only [go_sem, hA] <;> and_intros <;> first | with_reducible exact rfl | (first | omega | exact arr_eq (repV_0 h1) rfl)) (by omega)
     obtain ⟨hk1, hk2, hk3⟩ := hL
     refine D ?_
     refine cC (fun c2 => ?_) (fun c2 => ?_)
     · skip
       have hlk : (repV v k n).length = n := repV_len hk2
       have hmk : min (n - k) (min k n) = min (n - k) k := by omega
       have hmk2 : min (n - k) k + (n - k - min (n - k) k) = n - k := by omega
       have hA := And.intro hA (And.intro hlk (And.intro hmk (hmk2)))
       refine D ?_
       refine lp_next (k + min (n - k) k) [] ?_ ?_ ?_
       · simp only [go_sem, hA] <;> and_intros <;> first | with_reducible exact rfl | (first | omega | (refine arr_eq (by rw [← repV_step hk2, List.take_take]) ?_; unfold repVer; (repeat' split) <;> omega))
       · omega
       · omega
     · skip
       obtain rfl : k = n := by omega
       have hlk := repV_len (v := v) (Nat.le_refl k)
       have hal : List.take k (repV v k k) = (List.replicate k v).map eI_i64 := by rw [List.take_of_length_le (by omega), repV_all]
       have hA := And.intro hA (And.intro hlk (hal))
       refine D ?_
       exact E trivial
end Go.H
end
section
set_option maxRecDepth 100000
set_option maxHeartbeats 4000000
set_option linter.unusedVariables false
set_option linter.unusedSimpArgs false
namespace Go.H
open Go Go.Proofs.Tryz
variable [Inv prog]
section
attribute [local go_sem] rep_I set_map_I led
theorem s_impl_Node_lead (x : Node) (hx : limN 2097152 x) (h0 : 0 ≤ x.commit) (h1 : x.commit ≤ x.log.length) (p1 : 1 ≤ x.peers) (p2 : x.peers ≤ 5) (p3 : 0 ≤ x.id) (p4 : x.id < x.peers) : SemX prog 145 [.one (.ptr 0 0)] [.var (eNode true x)] [] [.var (eNode true (leadOf x))] := by
 refine goF [(32, ⟨some 1, none, none, none⟩)] [(1, 5, [1000000], []), (1, 6, [1000005], []), (1, 8, [], [69632]), (1, 12, [1000000], []), (1, 13, [69632], [90112]), (1, 17, [1000000], []), (1, 18, [], [110592]), (1, 21, [1000000], [1000000]), (1, 24, [1000000], [1000000]), (2, 3, [1000000], []), (2, 7, [1000000], []), (2, 11, [1000000], []), (2, 12, [1000005], []), (2, 13, [110592], []), (2, 14, [110592], [110592])] [] func145 ?_
 obtain ⟨hx1, hx2, hx3, hx4⟩ := id hx
 have hll : limN 2097152 (led x) := ⟨hx.1, by simp [led], by simp [led]; omega, by simp [led]; omega⟩
 refine D ?_
 refine kD (s_impl_size_Entry (x.log.map eEntry)) ?_
 refine D ?_
 refine kD (s_slices_Repeat_int64 (x.log.length + 1) x.peers.toNat (by omega) (by omega)) ?_
 refine D ?_
 refine kD (s_impl_size_Entry (x.log.map eEntry)) ?_
 refine D ?_
 refine kR (s_impl_Node_isQuorum (led x) 1 (by omega) (by omega)) ?_
 refine D ?_
 refine cC (fun c0 => ?_) (fun c0 => ?_)
 · skip
   refine D ?_
   refine kRk [1000000] [] [1000005, 90112, 110592] (s_impl_Node_agree (led x) hll h0 h1) ?_
   refine D ?_
   refine E ?_
   simp [leadOf, led]
 · skip
   refine D ?_
   refine E ?_
   have hq : quor x 1 = false := c0
   simp [agreed_led hq h0 h1, led]
end
end Go.H
end
section
set_option maxRecDepth 100000
set_option maxHeartbeats 4000000
set_option linter.unusedVariables false
set_option linter.unusedSimpArgs false
namespace Go.H
open Go Go.Proofs.Tryz
variable [Inv prog]
theorem s_impl_Node_others (x y z : Node) (hp : 0 ≤ x.peers) (hp2 : x.peers ≤ 5) (fn : Nat) (R : Nat → List Mail) (hR : ∀ i, (R i).length ≤ i) (hq : callB prog fn = true) (hf : ∀ i : Nat, (i : Int) < x.peers → (i : Int) ≠ x.id → SemX prog fn [aI i, aT (.ptr (eNode false y)), aT (.ptr (eNode false z)), .one (.ptr 0 0)] [.var [.sl true 9 ((R i).map (eMail true))]] [] [.var [.sl true 9 ((R (i + 1)).map (eMail true))]]) (hs : ∀ i : Nat, (i : Int) = x.id → R (i + 1) = R i) : SemX prog 157 [aT (.ptr (eNode false x)), .one (.fn fn [.t (.ptr (eNode false y)), .t (.ptr (eNode false z)), .ptr 0 0])] [.var [.sl true 9 ((R 0).map (eMail true))]] [] [.var [.sl true 9 ((R x.peers.toNat).map (eMail true))]] := by
 refine goF [(44, ⟨some 1, none, none, none⟩)] [] [] func157 ?_
 refine D ?_
 refine L (α := Nat) (fun i => [(9, .int .i64 i)]) (fun i => [(1000000, .var [.ref 1000001 0 (R i).length]), (1000001, .arr ⟨9, (R i).map (eMail true), 1, none⟩)]) (fun i => x.peers.toNat - i) (fun i => (i : Int) ≤ x.peers) 0 [] (fun i hI => ?_) (hi := by omega)
 refine D ?_
 refine cC (fun c0 => ?_) (fun c0 => ?_)
 · skip
   refine D ?_
   refine cC (fun c1 => ?_) (fun c1 => ?_)
   · skip
     refine D ?_
     refine kRk [1000000] [] [1000001] (hf i (by omega) (by assumption)) ?_ hq
     refine D ?_
     refine lp_next (i+1) [(1000001,87040)] ?_ ?_ ?_
     · simp only [go_sem] <;> and_intros <;> first | with_reducible exact rfl | (first | omega | (rw [hs i (by assumption)]))
     · omega
     · omega
   · skip
     refine D ?_
     refine lp_next (i+1) [] ?_ ?_ ?_
     · simp only [go_sem] <;> and_intros <;> first | with_reducible exact rfl | (first | omega | (rw [hs i (by assumption)]))
     · omega
     · omega
 · skip
   have hi : i = x.peers.toNat := by omega
   subst hi
   refine D ?_
   exact E trivial
theorem s_impl_Node_others_2 (x y z : Node) (hp : 0 ≤ x.peers) (hp2 : x.peers ≤ 5) (fn : Nat) (R : Nat → List Mail) (hR : ∀ i, (R i).length ≤ i) (hq : callB prog fn = true) (hf : ∀ i : Nat, (i : Int) < x.peers → (i : Int) ≠ x.id → SemX prog fn [aI i, .one (.ptr 0 0), aT (.ptr (eNode false y)), aT (.ptr (eNode false z))] [.var [.sl true 9 ((R i).map (eMail true))]] [] [.var [.sl true 9 ((R (i + 1)).map (eMail true))]]) (hs : ∀ i : Nat, (i : Int) = x.id → R (i + 1) = R i) : SemX prog 157 [aT (.ptr (eNode false x)), .one (.fn fn [.ptr 0 0, .t (.ptr (eNode false y)), .t (.ptr (eNode false z))])] [.var [.sl true 9 ((R 0).map (eMail true))]] [] [.var [.sl true 9 ((R x.peers.toNat).map (eMail true))]] := by
 refine goF [(44, ⟨some 1, none, none, none⟩)] [] [] func157 ?_
 refine D ?_
 refine L (α := Nat) (fun i => [(9, .int .i64 i)]) (fun i => [(1000000, .var [.ref 1000001 0 (R i).length]), (1000001, .arr ⟨9, (R i).map (eMail true), 1, none⟩)]) (fun i => x.peers.toNat - i) (fun i => (i : Int) ≤ x.peers) 0 [] (fun i hI => ?_) (hi := by omega)
 refine D ?_
 refine cC (fun c0 => ?_) (fun c0 => ?_)
 · skip
   refine D ?_
   refine cC (fun c1 => ?_) (fun c1 => ?_)
   · skip
     refine D ?_
     refine kRk [1000000] [] [1000001] (hf i (by omega) (by assumption)) ?_ hq
     refine D ?_
     refine lp_next (i+1) [(1000001,87040)] ?_ ?_ ?_
     · simp only [go_sem] <;> and_intros <;> first | with_reducible exact rfl | (first | omega | (rw [hs i (by assumption)]))
     · omega
     · omega
   · skip
     refine D ?_
     refine lp_next (i+1) [] ?_ ?_ ?_
     · simp only [go_sem] <;> and_intros <;> first | with_reducible exact rfl | (first | omega | (rw [hs i (by assumption)]))
     · omega
     · omega
 · skip
   have hi : i = x.peers.toNat := by omega
   subst hi
   refine D ?_
   exact E trivial
end Go.H
end
section
set_option maxRecDepth 100000
set_option maxHeartbeats 4000000
set_option linter.unusedVariables false
set_option linter.unusedSimpArgs false
namespace Go.H
open Go Go.Proofs.Tryz
variable [Inv prog]
section
attribute [local go_sem] asking
theorem s_impl_TimeoutNode_1 (x : Node) (hx : limN 2097152 x) (i : Nat) (R : List (List T)) (hR : R.length ≤ 100) : SemX prog 163 [aI i, .one (.ptr 0 0), aT (.ptr (eNode false x)), aT (.ptr (eNode false (asking x)))] [.var [.sl true 9 R]] [] [.var [.sl true 9 (R ++ [eMail true (voteM x i)])]] := by
 refine goF [] [(0, 0, [1000000], []), (0, 14, [], [81920]), (0, 15, [1000001, 81920], [86016, 1000001, 81920]), (0, 16, [1000000], [1000000])] [] func163 ?_
 obtain ⟨hx1, hx2, hx3, hx4⟩ := id hx
 refine D ?_
 refine kD (s_impl_size_Entry (x.log.map eEntry)) ?_
 refine D ?_
 refine kD (s_impl_last x.log (by omega)) ?_
 refine D ?_
 refine E ?_
 first
 | exact trivial
 | simp [voteM, List.take_of_length_le]
end
theorem to_step (x : Node) (hx : limN 2097152 x) (hp : x.peers ≤ 5) (i : Nat) (h1 : (i : Int) < x.peers) (h2 : (i : Int) ≠ x.id) : SemX prog 163 [aI i, .one (.ptr 0 0), aT (.ptr (eNode false x)), aT (.ptr (eNode false (asking x)))] [.var [.sl true 9 ((votesTo x i).map (eMail true))]] [] [.var [.sl true 9 ((votesTo x (i + 1)).map (eMail true))]] := by
  have hl := votes_len x i
  have := s_impl_TimeoutNode_1 x hx i ((votesTo x i).map (eMail true)) (by simp; omega)
  rw [votes_succ h2, List.map_append]
  exact this
end Go.H
end
section
set_option maxRecDepth 100000
set_option maxHeartbeats 4000000
set_option linter.unusedVariables false
set_option linter.unusedSimpArgs false
namespace Go.H
open Go Go.Proofs.Tryz
variable [Inv prog]
section
attribute [local go_sem] asking
theorem s_impl_TimeoutNode (x : Node) (hx : limN 2097152 x) : SemX prog 104 [aS (eNode false x)] [] [.agg (eNodeResult true (timeoutNode x))] [] := by
 refine goF [(58, ⟨some 1, none, none, none⟩)] [(10, 1, [8192], []), (10, 3, [8192], []), (10, 4, [], [143360]), (10, 6, [20480], [20480]), (10, 8, [20480], [20480]), (10, 10, [20480], [20480])] [] func104 ?_
 obtain ⟨hx1, hx2, hx3, hx4⟩ := id hx
 refine D ?_
 refine kR (s_impl_NodeFault x hx) ?_
 refine D ?_
 refine cC (fun c0 => ?_) (fun c0 => ?_)
 · skip
   refine D ?_
   refine E ?_
   have he : timeoutNode x = badN (nodeFault x) := by unfold timeoutNode; rw [if_pos c0]
   simp [he, badN, zNode]
 · skip
   refine D ?_
   refine cC (fun c1 => ?_) (fun c1 => ?_)
   · skip
     refine D ?_
     refine E ?_
     have he : timeoutNode x = badN 10 := by unfold timeoutNode; rw [if_neg (by omega), if_pos c1]
     simp [he, badN, zNode]
   · skip
     refine D ?_
     refine cC (fun c2 => ?_) (fun c2 => ?_)
     · skip
       refine D ?_
       refine E ?_
       have he : timeoutNode x = badN 3 := by unfold timeoutNode; rw [if_neg (by omega), if_neg c1, if_pos c2]
       simp [he, badN, zNode]
     · skip
       obtain ⟨⟨p1, p2, p3, p4, p5, p6, _⟩, _, _, ⟨p10, p11⟩, _⟩ := node_ok c0
       have hla : limN 2097152 (asking x) := ⟨hx.1, by simp [asking], hx.2.2.1, hx.2.2.2⟩
       refine D ?_
       refine kR (s_impl_Node_copied x hx) ?_
       refine D ?_
       refine kRk [24576] [] [106496] (s_impl_Node_others_2 (asking x) x (asking x) (by simp [asking]; omega) (by simpa [asking] using p2) 163 (votesTo x) (votes_len x) (by kernel_rfl) (fun i h1 h2 => to_step x hx p2 i h1 h2) (fun i h => votes_skip h)) ?_
       refine D ?_
       refine kR (s_impl_Node_isQuorum (asking x) 1 (by omega) (by omega)) ?_
       refine D ?_
       refine cC (fun c3 => ?_) (fun c3 => ?_)
       · skip
         refine D ?_
         refine kRk [20480] [] [102404, 143360, 102408, 102409] (s_impl_Node_lead (asking x) hla p10 p11 p1 p2 p3 p4) ?_
         refine D ?_
         refine E ?_
         have hq : quor x 1 = true := c3
         have he : timeoutNode x = ⟨0, leadOf (asking x), votesTo x x.peers.toNat⟩ := by unfold timeoutNode; rw [if_neg (by omega), if_neg c1, if_neg c2, if_pos hq]
         simp [he, asking]
       · skip
         refine D ?_
         refine E ?_
         have hq : quor x 1 = false := c3
         have he : timeoutNode x = ⟨0, asking x, votesTo x x.peers.toNat⟩ := by unfold timeoutNode; rw [if_neg (by omega), if_neg c1, if_neg c2, if_neg (by rw [hq]; simp)]
         simp [he, asking, eI_i64]
end
end Go.H
end
section
set_option maxRecDepth 100000
set_option maxHeartbeats 4000000
set_option linter.unusedVariables false
set_option linter.unusedSimpArgs false
namespace Go.H
open Go Go.Proofs.Tryz
variable [Inv prog]
theorem s_impl_TimeoutAt (x : Cluster) (hx : limC 2097152 x) (p : Int) : SemX prog 43 [aS (eCluster false x), aI p] [] [.agg (eClusterResult true (atNode x p (timeoutNode (x.nodes.getD p.toNat zNode))))] [] := by
 refine goF [] [] [] func43 ?_
 obtain ⟨⟨hn, hN⟩, ⟨hm, hM⟩, hw, hs⟩ := id hx
 refine D ?_
 refine kR (s_impl_onNode x hx p 104 (timeoutNode (x.nodes.getD p.toNat zNode)) (by kernel_rfl) (by rintro n rfl hn2; exact s_impl_TimeoutNode _ ((all_getD zNode).2 hN n hn2)) (timeout_lim (by omega) (lim_getD hN _)) (timeout_commit _) (by rintro n rfl hn2 hcf h; exact (timeout_id h).trans (cl_nodes hcf hn2).2.1)) ?_
 refine D ?_
 exact E trivial
end Go.H
end
section
set_option maxRecDepth 100000
set_option maxHeartbeats 4000000
set_option linter.unusedVariables false
set_option linter.unusedSimpArgs false
namespace Go.H
open Go Go.Proofs.Tryz
variable [Inv prog]
theorem s_laws_FnExactTimeoutAt (x : Cluster) (hn : x.nodes.length ≤ 9223372036854775807) (hN : ∀ i < x.nodes.length, (x.nodes.getD i zNode).log.length ≤ 9223372036854775807 ∧ (x.nodes.getD i zNode).votes.length ≤ 9223372036854775807 ∧ (x.nodes.getD i zNode).next.length ≤ 9223372036854775807 ∧ (x.nodes.getD i zNode).match_.length ≤ 9223372036854775807) (hm : x.mails.length ≤ 9223372036854775807) (hM : ∀ i < x.mails.length, (x.mails.getD i zMail).entries.length ≤ 9223372036854775807) (hw : x.wins.length ≤ 9223372036854775807) (hs : x.seals.length ≤ 9223372036854775807) (p : Int) : SemX prog 9 [aS (eCluster false x), aI p] [] [rB true] [] := by
 refine goF [] [(10, 0, [32768], []), (10, 1, [12288], []), (10, 2, [], [139264, 139265, 139266, 139267]), (10, 3, [98304, 98305, 98306, 98307, 139264, 139265, 139266, 139267], [])] [] func9 ?_
 refine D ?_
 refine kR (s_laws_szCluster x 1048576 (by omega) (by omega) hn hN hm hM hw hs) ?_
 refine D ?_
 refine cC (fun c0 => ?_) (fun c0 => ?_)
 · skip
   refine D ?_
   exact E trivial
 · skip
   have hz : 0 ≤ szCluster x 1048576 := by simp at c0; omega
   have hx0 := szCluster_lim hz (by omega)
   have hx : limC 2097152 x := limC_mono (by omega) hx0
   have hr : limC 2097152 (atNode x p (timeoutNode (x.nodes.getD p.toNat zNode))).cluster := atNode_lim hx0 p (timeout_lim (by omega) (lim_getD hx0.1.2 _))
   have hbx := sCl_bd hx
   have hbr := sCl_bd hr
   have hux := sCl_up x 1
   have hur := sCl_up (atNode x p (timeoutNode (x.nodes.getD p.toNat zNode))).cluster 1
   refine D ?_
   refine kR (s_laws_toCluster x hx) ?_
   refine D ?_
   refine kR (s_spec_TimeoutAt x hx p) ?_
   refine D ?_
   refine kR (s_laws_toCluster x hx) ?_
   refine D ?_
   refine kR (s_impl_TimeoutAt x hx p) ?_
   refine D ?_
   refine kR (s_laws_eqClusterResult (atNode x p (timeoutNode (x.nodes.getD p.toNat zNode))) hr) ?_
   refine D ?_
   refine cF ?_
   refine D ?_
   refine kD (s_laws_toCluster x hx) ?_
   refine D ?_
   refine kD (s_laws_eqCluster x hx) ?_
   refine D ?_
   refine cF ?_
   refine D ?_
   refine kRk [98304, 98305, 98306, 98307] [] [] (s_laws_markCluster x hx 1 (by omega) hbx) ?_
   refine D ?_
   refine kRg (s_laws_eqClusterResult (atNode x p (timeoutNode (x.nodes.getD p.toNat zNode))) hr) ?_
   refine D ?_
   refine cC (fun c3 => ?_) (fun c3 => ?_)
   · skip
     exfalso
     revert c3
     simp [-List.getD_eq_getElem?_getD]
     omega
   · skip
     refine D ?_
     refine kRk [110593, 110594, 110595, 110596] [] [] (s_laws_markClusterResult (atNode x p (timeoutNode (x.nodes.getD p.toNat zNode))).cluster (atNode x p (timeoutNode (x.nodes.getD p.toNat zNode))).code hr 1 (by omega) hbr) ?_
     refine D ?_
     refine kR (s_laws_heldClusterResult (atNode x p (timeoutNode (x.nodes.getD p.toNat zNode))).cluster (atNode x p (timeoutNode (x.nodes.getD p.toNat zNode))).code hr 1 (by omega) hbr) ?_
     refine D ?_
     refine cC (fun c4 => ?_) (fun c4 => ?_)
     · skip
       exfalso
       revert c4
       simp [-List.getD_eq_getElem?_getD]
       omega
     · skip
       refine D ?_
       refine cF ?_
       refine D ?_
       refine kR (s_laws_toCluster x hx) ?_
       refine D ?_
       refine kR (s_impl_TimeoutAt x hx p) ?_
       refine D ?_
       refine kR (s_laws_eqClusterResult (atNode x p (timeoutNode (x.nodes.getD p.toNat zNode))) hr) ?_
       refine D ?_
       refine cF ?_
       refine D ?_
       refine kR (s_laws_heldClusterResult (atNode x p (timeoutNode (x.nodes.getD p.toNat zNode))).cluster (atNode x p (timeoutNode (x.nodes.getD p.toNat zNode))).code hr 1 (by omega) hbr) ?_
       refine D ?_
       refine cC (fun c7 => ?_) (fun c7 => ?_)
       · skip
         exfalso
         revert c7
         simp [-List.getD_eq_getElem?_getD]
         omega
       · skip
         refine D ?_
         refine cF ?_
         refine D ?_
         exact E trivial
end Go.H
end
