/- What the functions that the law reaches compute, each by its code, against pure functions. Conditions: those that each theorem states. -/
import Derived.Test.YtlnjmnmkafblkaaGreatAW2
import Derived.KernelRfl
section
set_option maxRecDepth 100000
set_option linter.unusedVariables false
set_option linter.unusedSimpArgs false
namespace Go.H
open Go Go.Proofs.Tryz
def c_impl_ClusterFault : SC :=
.seq (rg [
  sk 1 8192 (.box (.t 0)),
  ss 2 (.mv (.i .i64 0))] [1])
  (.seq (.seq (rg [
  ss 14 (.fad (.t 1) 0),
  ss 15 (.load (.t 14) 1 false),
  sk 16 69632 (.call (.f F.impl_size_Node) [(.t 15, none)]),
  sk 17 73728 (.call (.f F.impl_in) [(.t 16, none), (.i .i64 1, none), (.i .i64 5, none)]),
  ss 18 (.not (.t 17)),
  ss 19 (.mv (.t 18)),
  sg 20 (.fad (.t 1) 1) 19 false [],
  sg 21 (.load (.t 20) 1 false) 19 false [20],
  ⟨(some 22), .len (.t 21), (some (19, false)), [], 0, 94208, [], [21], [], []⟩,
  sg 23 (.bin .gtr (.t 22) (.i .i64 80)) 19 false [22],
  ss 24 (.pick (.t 19) (.b true) (.t 23))] [1, 24])
  (.cond (.t 24) (.seq (rg [
  ss 2 (.mv (.i .i64 2))] [2])
  (.ret))
  (.skip)))
  (.seq (.seq (rg [
  ss 25 (.fad (.t 1) 0),
  ss 26 (.load (.t 25) 1 false),
  sk 27 114688 (.len (.t 26)),
  ss 28 (.mv (.i .i64 0))] [1, 26, 27, 28])
  (.block 0 (.loop (.seq (rg [
  ss 29 (.bin .lss (.t 28) (.t 27))] [1, 26, 27, 28, 29])
  (.seq (.cond (.t 29) (.skip)
  (.exit 0))
  (.seq (.block 1 (.seq (rg [
  ss 30 (.mv (.t 28)),
  sd (some 31) 0 0 (dNode false) (.idx (.t 26) (.t 28) 10),
  sd (some 32) 0 0 (dNode true) (.load (.t 31) 10 true),
  sk 4 20480 (.alloc [.int .i64 0, .int .i64 0, .int .i64 0, .int .i64 0, .nil, .int .i64 0, .int .i64 0, .nil, .nil, .nil]),
  ss 3 (.mv (.t 30)),
  sx (.store (.t 4) (.t 32) 10)] [1, 3, 4, 26, 27, 28])
  (.seq (.seq (rg [
  ss 33 (.load (.t 4) 10 true),
  sk 34 143360 (.call (.f F.impl_NodeFault) [(.t 33, none)]),
  ss 5 (.mv (.t 34))] [1, 3, 4, 5, 26, 27, 28])
  (.seq (rg [
  ss 35 (.mv (.t 5)),
  ss 36 (.bin .neq (.t 35) (.i .i64 0))] [1, 3, 4, 5, 26, 27, 28, 36])
  (.cond (.t 36) (.seq (rg [
  ss 37 (.mv (.t 5)),
  ss 2 (.mv (.t 37))] [2])
  (.ret))
  (.skip))))
  (.seq (.reg true [
    ⟨(some 38), .fad (.t 4) 0, none, [4], 0, 0, [], [], [], []⟩,
    ⟨(some 39), .load (.t 38) 1 false, none, [38], 0, 0, [], [], [20480], []⟩,
    ⟨(some 40), .mv (.t 3), none, [3], 0, 0, [], [], [], []⟩,
    ⟨(some 41), .bin .neq (.t 39) (.t 40), none, [39, 40], 0, 0, [], [], [], []⟩,
    ⟨(some 42), .mv (.t 41), none, [41], 0, 0, [], [], [], []⟩,
    ⟨(some 43), .fad (.t 4) 1, (some (42, false)), [4, 42], 0, 0, [], [], [], []⟩,
    ⟨(some 44), .load (.t 43) 1 false, (some (42, false)), [43, 42], 0, 0, [], [43], [20480], []⟩,
    ⟨(some 45), .fad (.t 1) 0, (some (42, false)), [1, 42], 0, 0, [], [], [], []⟩,
    ⟨(some 46), .load (.t 45) 1 false, (some (42, false)), [45, 42], 0, 0, [], [45], [8192], []⟩,
    ⟨(some 47), .call (.f F.impl_size_Node) [(.t 46, none)], (some (42, false)), [46, 42], 0, 196608, [], [46], [], []⟩,
    ⟨(some 48), .bin .neq (.t 44) (.t 47), (some (42, false)), [44, 47, 42], 0, 0, [], [44, 47], [], []⟩,
    ⟨(some 49), .pick (.t 42) (.b true) (.t 48), none, [42, 48], 0, 0, [], [], [], []⟩] (some ([1, 26, 27, 28, 49], [])))
  (.cond (.t 49) (.seq (rg [
  ss 2 (.mv (.i .i64 1))] [2])
  (.ret))
  (.skip))))))
  (rg [
  sh 50 1 (.bin .add (.t 28) (.i .i64 1)),
  ss 28 (.mv (.t 50))] [1, 26, 27, 28])))))))
  (.seq (.seq (rg [
  ss 51 (.fad (.t 1) 1),
  ss 52 (.load (.t 51) 1 false),
  sk 53 221184 (.len (.t 52)),
  ss 54 (.mv (.i .i64 0))] [1, 52, 53, 54])
  (.block 2 (.loop (.seq (rg [
  ss 55 (.bin .lss (.t 54) (.t 53))] [1, 52, 53, 54, 55])
  (.seq (.cond (.t 55) (.skip)
  (.exit 2))
  (.seq (.block 3 (.seq (rg [
  sd (some 56) 0 0 (dMail false) (.idx (.t 52) (.t 54) 9),
  sd (some 57) 0 0 (dMail true) (.load (.t 56) 9 true),
  sk 7 32768 (.alloc [.int .i64 0, .int .i64 0, .int .i64 0, .int .i64 0, .int .i64 0, .int .i64 0, .int .i64 0, .bool false, .nil]),
  sx (.store (.t 7) (.t 57) 9)] [1, 7, 52, 53, 54])
  (.seq (.seq (rg [
  ss 58 (.fad (.t 7) 2),
  ss 59 (.load (.t 58) 1 false),
  sk 60 249856 (.call (.f F.impl_Cluster_isPlace) [(.t 1, none), (.t 59, none)]),
  ss 61 (.not (.t 60))] [1, 7, 52, 53, 54, 61])
  (.cond (.t 61) (.seq (rg [
  ss 2 (.mv (.i .i64 3))] [2])
  (.ret))
  (.skip)))
  (.seq (.reg true [
    ⟨(some 62), .fad (.t 1) 0, none, [1], 0, 0, [], [], [], []⟩,
    ⟨(some 63), .load (.t 62) 1 false, none, [62], 0, 0, [], [], [8192], []⟩,
    ⟨(some 64), .fad (.t 7) 2, none, [7], 0, 0, [], [], [], []⟩,
    ⟨(some 65), .load (.t 64) 1 false, none, [64], 0, 0, [], [], [32768], []⟩,
    ⟨(some 66), .idx (.t 63) (.t 65) 10, none, [63, 65], 0, 0, (dNode false), [], [], []⟩,
    ⟨(some 67), .load (.t 66) 10 true, none, [66], 0, 0, (dNode true), [], [], []⟩,
    ⟨(some 68), .load (.t 7) 9 true, none, [7], 0, 0, [], [], [32768], []⟩,
    ⟨(some 69), .call (.f F.impl_MailFault) [(.t 67, none), (.t 68, none)], none, [67, 68], 0, 286720, [], [], [], []⟩,
    ⟨(some 8), .mv (.t 69), none, [69], 0, 0, [], [], [], []⟩] (some ([1, 8, 52, 53, 54], [])))
  (.seq (rg [
  ss 70 (.mv (.t 8)),
  ss 71 (.bin .neq (.t 70) (.i .i64 0))] [1, 8, 52, 53, 54, 71])
  (.cond (.t 71) (.seq (rg [
  ss 72 (.mv (.t 8)),
  ss 2 (.mv (.t 72))] [2])
  (.ret))
  (.skip)))))))
  (rg [
  sh 73 1 (.bin .add (.t 54) (.i .i64 1)),
  ss 54 (.mv (.t 73))] [1, 52, 53, 54])))))))
  (.seq (.seq (rg [
  ss 74 (.fad (.t 1) 2),
  ss 75 (.load (.t 74) 1 false),
  sk 76 315392 (.len (.t 75)),
  ss 77 (.bin .gtr (.t 76) (.i .i64 400)),
  ss 78 (.mv (.t 77)),
  sg 79 (.fad (.t 1) 3) 78 false [],
  sg 80 (.load (.t 79) 1 false) 78 false [79],
  ⟨(some 81), .len (.t 80), (some (78, false)), [], 0, 335872, [], [80], [], []⟩,
  sg 82 (.bin .gtr (.t 81) (.i .i64 40)) 78 false [81],
  ss 83 (.pick (.t 78) (.b true) (.t 82))] [1, 83])
  (.cond (.t 83) (.seq (rg [
  ss 2 (.mv (.i .i64 2))] [2])
  (.ret))
  (.skip)))
  (.seq (.seq (rg [
  ss 84 (.fad (.t 1) 2),
  ss 85 (.load (.t 84) 1 false),
  sk 86 356352 (.len (.t 85)),
  ss 87 (.mv (.i .i64 0))] [1, 85, 86, 87])
  (.block 4 (.loop (.seq (rg [
  ss 88 (.bin .lss (.t 87) (.t 86))] [1, 85, 86, 87, 88])
  (.seq (.cond (.t 88) (.skip)
  (.exit 4))
  (.seq (.block 5 (.seq (rg [
  sd (some 89) 0 0 dWon (.idx (.t 85) (.t 87) 2),
  sd (some 90) 0 0 dWon (.load (.t 89) 2 true),
  sk 10 45056 (.alloc [.int .i64 0, .int .i64 0]),
  sx (.store (.t 10) (.t 90) 2)] [1, 10, 85, 86, 87])
  (.seq (rg [
  ss 91 (.fad (.t 10) 0),
  ss 92 (.load (.t 91) 1 false),
  sk 93 385024 (.call (.f F.impl_in) [(.t 92, none), (.i .i64 1, none), (.i .i64 100000, none)]),
  ss 94 (.not (.t 93)),
  ss 95 (.mv (.t 94)),
  sg 96 (.fad (.t 10) 1) 95 false [],
  sg 97 (.load (.t 96) 1 false) 95 false [96],
  ⟨(some 98), .call (.f F.impl_Cluster_isPlace) [(.t 1, none), (.t 97, none)], (some (95, false)), [], 0, 405504, [], [97], [], []⟩,
  sg 99 (.not (.t 98)) 95 false [98],
  ss 100 (.pick (.t 95) (.b true) (.t 99))] [1, 85, 86, 87, 100])
  (.cond (.t 100) (.seq (rg [
  ss 2 (.mv (.i .i64 3))] [2])
  (.ret))
  (.skip)))))
  (rg [
  sh 101 1 (.bin .add (.t 87) (.i .i64 1)),
  ss 87 (.mv (.t 101))] [1, 85, 86, 87])))))))
  (.seq (.seq (rg [
  ss 102 (.fad (.t 1) 3),
  ss 103 (.load (.t 102) 1 false),
  sk 104 430080 (.len (.t 103)),
  ss 105 (.mv (.i .i64 0))] [103, 104, 105])
  (.block 6 (.loop (.seq (rg [
  ss 106 (.bin .lss (.t 105) (.t 104))] [103, 104, 105, 106])
  (.seq (.cond (.t 106) (.skip)
  (.exit 6))
  (.seq (.block 7 (.seq (rg [
  sd (some 107) 0 0 dSeal (.idx (.t 103) (.t 105) 10),
  sd (some 108) 0 0 dSeal (.load (.t 107) 10 true),
  sk 12 53248 (.alloc [.int .i64 0, .int .i64 0, .int .i64 0, .int .i64 0, .int .i64 0, .int .i64 0, .int .i64 0, .int .i64 0, .int .i64 0, .int .i64 0]),
  sx (.store (.t 12) (.t 108) 10)] [12, 103, 104, 105])
  (.seq (.seq (rg [
  ss 109 (.fad (.t 12) 0),
  ss 110 (.load (.t 109) 1 false),
  sk 111 458752 (.call (.f F.impl_in) [(.t 110, none), (.i .i64 1, none), (.i .i64 100000, none)]),
  ss 112 (.not (.t 111))] [12, 103, 104, 105, 112])
  (.cond (.t 112) (.seq (rg [
  ss 2 (.mv (.i .i64 3))] [2])
  (.ret))
  (.skip)))
  (.seq (rg [
  ss 113 (.fad (.t 12) 1),
  ss 114 (.load (.t 113) 9 true),
  sk 115 475136 (.call (.f F.impl_EntryFault) [(.t 114, none)]),
  ss 13 (.mv (.t 115))] [13, 103, 104, 105])
  (.seq (rg [
  ss 116 (.mv (.t 13)),
  ss 117 (.bin .neq (.t 116) (.i .i64 0))] [13, 103, 104, 105, 117])
  (.cond (.t 117) (.seq (rg [
  ss 118 (.mv (.t 13)),
  ss 2 (.mv (.t 118))] [2])
  (.ret))
  (.skip)))))))
  (rg [
  sh 119 1 (.bin .add (.t 105) (.i .i64 1)),
  ss 105 (.mv (.t 119))] [103, 104, 105])))))))
  (.seq (rg [
  ss 2 (.mv (.i .i64 0))] [2])
  (.ret))))))))
theorem b_impl_ClusterFault : ∃ c, f114.body = some c ∧ compC prog 120 c = some c_impl_ClusterFault.er ∧ drawB c c_impl_ClusterFault = true := ⟨_, rfl, by kernel_rfl, by kernel_rfl⟩
theorem r_impl_ClusterFault : cmpR prog [.tmp 2] = some [.t 2] := by kernel_rfl
theorem q_impl_ClusterFault : callB prog F.impl_ClusterFault = true := by kernel_rfl
variable [Inv prog]
theorem s_impl_ClusterFault (x : Cluster) (hx : limC 2097152 x) : SemX prog F.impl_ClusterFault [aS (eCluster false x)] [] [rI (clusterFault x)] [] := by
  obtain ⟨cc, g1, g2, g3⟩ := b_impl_ClusterFault
  refine SemX.of_code func114 g1 (by rw [ntmps114]; exact g2) g3 (by rw [results114]; exact r_impl_ClusterFault) (by rw [ntmps114]; exact Nat.le_of_ble_eq_true rfl) (Nat.le_of_ble_eq_true rfl) (by simp) (by simp [argOk, aT, aI, aS, eCluster, eNode, eMail, eWon, eSeal]) ?_
  unfold c_impl_ClusterFault
  simp only [rg]
  obtain ⟨⟨hn, hN⟩, ⟨hm, hM⟩, hw, hs⟩ := id hx
  refine W_reg (by simp only [go_sem, eCluster, eNode, eMail, eWon, eSeal]; exact rfl) ?_
  refine CW_assoc ?_
  refine W_reg (by
    refine RW_cut 2 (by simp only [go_sem, eCluster, eNode, eMail, eWon, eSeal]; exact rfl) ?_
    refine RW_ls (by simp only [List.drop_succ_cons, List.drop_zero]; exact rfl) ?_
    refine RW_callN q_impl_size_Node (s_impl_size_Node (x.nodes.map (eNode false))) true [] [] [] rfl rfl (by simp only [go_sem, eCluster, eNode, eMail, eWon, eSeal]; exact rfl) (by rfl) (by simp only [go_sem, eCluster, eNode, eMail, eWon, eSeal]; exact rfl) ?_
    refine RW_callN q_impl_in (s_impl_in _ _ _) true [] [] [] rfl rfl (by simp only [go_sem, eCluster, eNode, eMail, eWon, eSeal] <;> and_intros <;> first | with_reducible exact rfl | omega | with_reducible trivial | (intros; simp_all; done) | grind) (by rfl) (by simp only [go_sem, eCluster, eNode, eMail, eWon, eSeal]; exact rfl) ?_
    simp only [go_sem, eCluster, eNode, eMail, eWon, eSeal]; exact rfl) ?_
  refine CW_seq ?_
  refine CW_cond (by simp only [go_sem, eCluster, eNode, eMail, eWon, eSeal]; exact rfl) (fun c0 => ?_) (fun c0 => ?_)
  · skip
    simp only [inR] at c0
    refine W_reg (by simp only [go_sem, eCluster, eNode, eMail, eWon, eSeal]; exact rfl) ?_
    refine CW_ret ?_
    refine sq_r ?_
    simp only [go_sem, eCluster, eNode, eMail, eWon, eSeal]
    all_goals try first | refine int_res ?_ | refine bool_res ?_
    all_goals
      unfold clusterFault
      grind
  · skip
    simp only [inR] at c0
    refine CW_skip ?_
    refine sq_n ?_
    refine CW_assoc ?_
    refine W_reg (by simp only [go_sem, eCluster, eNode, eMail, eWon, eSeal]; exact rfl) ?_
    refine CW_seq ?_
    refine CW_block ?_
    refine CW_loopS (α := Nat) (fun i => [(28, .int .i64 i)]) (fun i => []) (fun i => x.nodes.length - i) (fun i => i ≤ x.nodes.length ∧ scan (nodeAt x) x.nodes.length 0 = scan (nodeAt x) x.nodes.length i) 0 [] ?_ ?_ ?_
    · (simp only [go_sem, eCluster, eNode, eMail, eWon, eSeal])
    · exact ⟨Nat.zero_le _, rfl⟩
    · rintro i ⟨hI, he⟩
      refine CW_eq (by simp only [go_sem, eCluster, eNode, eMail, eWon, eSeal]; exact rfl) ?_
      refine W_reg (by simp only [go_sem, eCluster, eNode, eMail, eWon, eSeal]; exact rfl) ?_
      refine CW_seq ?_
      refine CW_cond (by simp only [go_sem, eCluster, eNode, eMail, eWon, eSeal]; exact rfl) (fun c1 => ?_) (fun c1 => ?_)
      · skip
        try simp only [Bool.not_eq_eq_eq_not, Bool.not_true, Bool.not_false, decide_eq_true_eq, decide_eq_false_iff_not, Bool.and_eq_true, Bool.or_eq_true] at c1
        have hd := nodeAt_eq x i
        have hst := scan_lt (f := nodeAt x) (show i < x.nodes.length by omega)
        refine CW_skip ?_
        refine sq_n ?_
        refine CW_seq ?_
        refine CW_block ?_
        refine W_reg (by simp only [go_sem, eCluster, eNode, eMail, eWon, eSeal] <;> and_intros <;> first | with_reducible exact rfl | omega | with_reducible trivial | (intros; simp_all; done) | grind) ?_
        refine CW_assoc ?_
        refine W_reg (by
          refine RW_cut 1 (by simp only [go_sem, eCluster, eNode, eMail, eWon, eSeal]; exact rfl) ?_
          refine RW_ls (by simp only [List.drop_succ_cons, List.drop_zero]; exact rfl) ?_
          refine RW_callN q_impl_NodeFault (s_impl_NodeFault (x.nodes.getD i zNode) ((all_getD zNode).2 hN i (by omega))) true [] [] [] rfl rfl (by simp only [go_sem, eCluster, eNode, eMail, eWon, eSeal]; exact rfl) (by rfl) (by simp only [go_sem, eCluster, eNode, eMail, eWon, eSeal]; exact rfl) ?_
          simp only [go_sem, eCluster, eNode, eMail, eWon, eSeal]; exact rfl) ?_
        refine CW_assoc ?_
        refine W_reg (by simp only [go_sem, eCluster, eNode, eMail, eWon, eSeal]; exact rfl) ?_
        refine CW_seq ?_
        refine CW_cond (by simp only [go_sem, eCluster, eNode, eMail, eWon, eSeal]; exact rfl) (fun c2 => ?_) (fun c2 => ?_)
        · skip
          skip
          refine W_reg (by simp only [go_sem, eCluster, eNode, eMail, eWon, eSeal]; exact rfl) ?_
          refine CW_ret ?_
          refine sq_r ?_
          refine bk_r ?_
          refine sq_r ?_
          refine lp_r ?_
          refine bk_r ?_
          refine sq_r ?_
          simp only [go_sem, eCluster, eNode, eMail, eWon, eSeal]
          all_goals try first | refine int_res ?_ | refine bool_res ?_
          all_goals
            unfold clusterFault
            grind
        · skip
          skip
          refine CW_skip ?_
          refine sq_n ?_
          refine W_drw (by
            refine DW_cut 9 (by simp only [go_sem, eCluster, eNode, eMail, eWon, eSeal]; exact rfl) ?_
            refine DW_ls (by simp only [List.drop_succ_cons, List.drop_zero]; exact rfl) ?_
            refine DW_callGN q_impl_size_Node (s_impl_size_Node (x.nodes.map (eNode false))) true rfl rfl (by simp only [go_sem, eCluster, eNode, eMail, eWon, eSeal]; exact rfl) (fun _ => (by simp only [go_sem, eCluster, eNode, eMail, eWon, eSeal]; exact rfl)) (by simp only [go_sem, eCluster, eNode, eMail, eWon, eSeal]; exact rfl) ?_
            simp only [go_sem, eCluster, eNode, eMail, eWon, eSeal]; exact rfl) ?_
          refine CW_cond (by simp only [go_sem, eCluster, eNode, eMail, eWon, eSeal]; exact rfl) (fun c3 => ?_) (fun c3 => ?_)
          · skip
            skip
            refine W_reg (by simp only [go_sem, eCluster, eNode, eMail, eWon, eSeal]; exact rfl) ?_
            refine CW_ret ?_
            refine bk_r ?_
            refine sq_r ?_
            refine lp_r ?_
            refine bk_r ?_
            refine sq_r ?_
            simp only [go_sem, eCluster, eNode, eMail, eWon, eSeal]
            all_goals try first | refine int_res ?_ | refine bool_res ?_
            all_goals
              unfold clusterFault
              grind
          · skip
            skip
            refine CW_skip ?_
            refine bk_n ?_
            refine sq_n ?_
            refine W_regn (by simp only [go_sem, eCluster, eNode, eMail, eWon, eSeal] <;> and_intros <;> first | with_reducible exact rfl | omega | with_reducible trivial | (intros; simp_all; done) | grind) ?_
            refine lp_next (i+1) [] ?_ ?_ ?_
            · (simp only [go_sem, eCluster, eNode, eMail, eWon, eSeal])
            · refine ⟨by omega, ?_⟩
              rw [he, scan_lt (by omega), if_pos]
              rw [nodeAt_eq]
              grind
            · omega
      · skip
        try simp only [Bool.not_eq_eq_eq_not, Bool.not_true, Bool.not_false, decide_eq_true_eq, decide_eq_false_iff_not, Bool.and_eq_true, Bool.or_eq_true] at c1
        have hs0 : scan (nodeAt x) x.nodes.length 0 = 0 := by rw [he, scan_ge (by omega)]
        refine CW_exit ?_
        refine sq_e ?_
        refine lp_e ?_
        refine bk_i ?_
        refine sq_n ?_
        refine CW_assoc ?_
        refine W_reg (by simp only [go_sem, eCluster, eNode, eMail, eWon, eSeal]; exact rfl) ?_
        refine CW_seq ?_
        refine CW_block ?_
        refine CW_loopS (α := Nat) (fun i => [(54, .int .i64 i)]) (fun i => []) (fun i => x.mails.length - i) (fun i => i ≤ x.mails.length ∧ scan (mailAt x) x.mails.length 0 = scan (mailAt x) x.mails.length i) 0 [] ?_ ?_ ?_
        · (simp only [go_sem, eCluster, eNode, eMail, eWon, eSeal])
        · exact ⟨Nat.zero_le _, rfl⟩
        · rintro i ⟨hI, he⟩
          refine CW_eq (by simp only [go_sem, eCluster, eNode, eMail, eWon, eSeal]; exact rfl) ?_
          refine W_reg (by simp only [go_sem, eCluster, eNode, eMail, eWon, eSeal]; exact rfl) ?_
          refine CW_seq ?_
          refine CW_cond (by simp only [go_sem, eCluster, eNode, eMail, eWon, eSeal]; exact rfl) (fun c4 => ?_) (fun c4 => ?_)
          · skip
            try simp only [Bool.not_eq_eq_eq_not, Bool.not_true, Bool.not_false, decide_eq_true_eq, decide_eq_false_iff_not, Bool.and_eq_true, Bool.or_eq_true] at c4
            have hd := mailAt_eq x i
            have hst := scan_lt (f := mailAt x) (show i < x.mails.length by omega)
            refine CW_skip ?_
            refine sq_n ?_
            refine CW_seq ?_
            refine CW_block ?_
            refine W_reg (by simp only [go_sem, eCluster, eNode, eMail, eWon, eSeal] <;> and_intros <;> first | with_reducible exact rfl | omega | with_reducible trivial | (intros; simp_all; done) | grind) ?_
            refine CW_assoc ?_
            refine W_reg (by
              refine RW_cut 2 (by simp only [go_sem, eCluster, eNode, eMail, eWon, eSeal]; exact rfl) ?_
              refine RW_ls (by simp only [List.drop_succ_cons, List.drop_zero]; exact rfl) ?_
              refine RW_callN q_impl_Cluster_isPlace (s_impl_Cluster_isPlace x _ hn) true [] [] [] rfl rfl (by simp only [go_sem, eCluster, eNode, eMail, eWon, eSeal] <;> and_intros <;> first | with_reducible exact rfl | omega | with_reducible trivial | (intros; simp_all; done) | grind) (by rfl) (by simp only [go_sem, eCluster, eNode, eMail, eWon, eSeal]; exact rfl) ?_
              simp only [go_sem, eCluster, eNode, eMail, eWon, eSeal]; exact rfl) ?_
            refine CW_seq ?_
            refine CW_cond (by simp only [go_sem, eCluster, eNode, eMail, eWon, eSeal]; exact rfl) (fun c5 => ?_) (fun c5 => ?_)
            · skip
              skip
              refine W_reg (by simp only [go_sem, eCluster, eNode, eMail, eWon, eSeal]; exact rfl) ?_
              refine CW_ret ?_
              refine sq_r ?_
              refine bk_r ?_
              refine sq_r ?_
              refine lp_r ?_
              refine bk_r ?_
              refine sq_r ?_
              simp only [go_sem, eCluster, eNode, eMail, eWon, eSeal]
              all_goals try first | refine int_res ?_ | refine bool_res ?_
              all_goals
                unfold clusterFault
                grind
            · skip
              have hp : place x (x.mails.getD i zMail).to_ = true := by grind
              have hp2 := place_iff.1 hp
              have hnf := (nodes_ok hs0 (i := (x.mails.getD i zMail).to_.toNat) (by omega)).1
              refine CW_skip ?_
              refine sq_n ?_
              refine W_drw (by
                refine DW_cut 7 (by simp only [go_sem, eCluster, eNode, eMail, eWon, eSeal] <;> and_intros <;> first | with_reducible exact rfl | omega | with_reducible trivial | (intros; simp_all; done) | grind) ?_
                refine DW_ls (by simp only [List.drop_succ_cons, List.drop_zero]; exact rfl) ?_
                refine DW_callN q_impl_MailFault (s_impl_MailFault (x.nodes.getD (x.mails.getD i zMail).to_.toNat zNode) (x.mails.getD i zMail) ((all_getD zNode).2 hN (x.mails.getD i zMail).to_.toNat (by omega)) ((all_getD zMail).2 hM i (by omega))) true [] [] [] rfl rfl (by simp only [go_sem, eCluster, eNode, eMail, eWon, eSeal]; exact rfl) (by rfl) (by simp only [go_sem, eCluster, eNode, eMail, eWon, eSeal]; exact rfl) ?_
                simp only [go_sem, eCluster, eNode, eMail, eWon, eSeal]; exact rfl) ?_
              refine W_reg (by simp only [go_sem, eCluster, eNode, eMail, eWon, eSeal]; exact rfl) ?_
              refine CW_cond (by simp only [go_sem, eCluster, eNode, eMail, eWon, eSeal]; exact rfl) (fun c6 => ?_) (fun c6 => ?_)
              · skip
                skip
                refine W_reg (by simp only [go_sem, eCluster, eNode, eMail, eWon, eSeal]; exact rfl) ?_
                refine CW_ret ?_
                refine bk_r ?_
                refine sq_r ?_
                refine lp_r ?_
                refine bk_r ?_
                refine sq_r ?_
                simp only [go_sem, eCluster, eNode, eMail, eWon, eSeal]
                all_goals try first | refine int_res ?_ | refine bool_res ?_
                all_goals
                  unfold clusterFault
                  grind
              · skip
                skip
                refine CW_skip ?_
                refine bk_n ?_
                refine sq_n ?_
                refine W_regn (by simp only [go_sem, eCluster, eNode, eMail, eWon, eSeal] <;> and_intros <;> first | with_reducible exact rfl | omega | with_reducible trivial | (intros; simp_all; done) | grind) ?_
                refine lp_next (i+1) [] ?_ ?_ ?_
                · (simp only [go_sem, eCluster, eNode, eMail, eWon, eSeal])
                · refine ⟨by omega, ?_⟩
                  rw [he, scan_lt (by omega), if_pos]
                  rw [mailAt_eq]
                  grind
                · omega
          · skip
            try simp only [Bool.not_eq_eq_eq_not, Bool.not_true, Bool.not_false, decide_eq_true_eq, decide_eq_false_iff_not, Bool.and_eq_true, Bool.or_eq_true] at c4
            have hs1 : scan (mailAt x) x.mails.length 0 = 0 := by rw [he, scan_ge (by omega)]
            refine CW_exit ?_
            refine sq_e ?_
            refine lp_e ?_
            refine bk_i ?_
            refine sq_n ?_
            refine CW_assoc ?_
            refine W_reg (by simp only [go_sem, eCluster, eNode, eMail, eWon, eSeal]; exact rfl) ?_
            refine CW_seq ?_
            refine CW_cond (by simp only [go_sem, eCluster, eNode, eMail, eWon, eSeal]; exact rfl) (fun c7 => ?_) (fun c7 => ?_)
            · skip
              skip
              refine W_reg (by simp only [go_sem, eCluster, eNode, eMail, eWon, eSeal]; exact rfl) ?_
              refine CW_ret ?_
              refine sq_r ?_
              simp only [go_sem, eCluster, eNode, eMail, eWon, eSeal]
              all_goals try first | refine int_res ?_ | refine bool_res ?_
              all_goals
                unfold clusterFault
                grind
            · skip
              skip
              refine CW_skip ?_
              refine sq_n ?_
              refine CW_assoc ?_
              refine W_reg (by simp only [go_sem, eCluster, eNode, eMail, eWon, eSeal]; exact rfl) ?_
              refine CW_seq ?_
              refine CW_block ?_
              refine CW_loopS (α := Nat) (fun i => [(87, .int .i64 i)]) (fun i => []) (fun i => x.wins.length - i) (fun i => i ≤ x.wins.length ∧ scan (winAt x) x.wins.length 0 = scan (winAt x) x.wins.length i) 0 [] ?_ ?_ ?_
              · (simp only [go_sem, eCluster, eNode, eMail, eWon, eSeal])
              · exact ⟨Nat.zero_le _, rfl⟩
              · rintro i ⟨hI, he⟩
                refine CW_eq (by simp only [go_sem, eCluster, eNode, eMail, eWon, eSeal]; exact rfl) ?_
                refine W_reg (by simp only [go_sem, eCluster, eNode, eMail, eWon, eSeal]; exact rfl) ?_
                refine CW_seq ?_
                refine CW_cond (by simp only [go_sem, eCluster, eNode, eMail, eWon, eSeal]; exact rfl) (fun c8 => ?_) (fun c8 => ?_)
                · skip
                  try simp only [Bool.not_eq_eq_eq_not, Bool.not_true, Bool.not_false, decide_eq_true_eq, decide_eq_false_iff_not, Bool.and_eq_true, Bool.or_eq_true] at c8
                  have hd := winAt_eq x i
                  have hst := scan_lt (f := winAt x) (show i < x.wins.length by omega)
                  refine CW_skip ?_
                  refine sq_n ?_
                  refine CW_seq ?_
                  refine CW_block ?_
                  refine W_reg (by simp only [go_sem, eCluster, eNode, eMail, eWon, eSeal] <;> and_intros <;> first | with_reducible exact rfl | omega | with_reducible trivial | (intros; simp_all; done) | grind) ?_
                  refine W_reg (by
                    refine RW_cut 2 (by simp only [go_sem, eCluster, eNode, eMail, eWon, eSeal]; exact rfl) ?_
                    refine RW_ls (by simp only [List.drop_succ_cons, List.drop_zero]; exact rfl) ?_
                    refine RW_callN q_impl_in (s_impl_in _ _ _) true [] [] [] rfl rfl (by simp only [go_sem, eCluster, eNode, eMail, eWon, eSeal] <;> and_intros <;> first | with_reducible exact rfl | omega | with_reducible trivial | (intros; simp_all; done) | grind) (by rfl) (by simp only [go_sem, eCluster, eNode, eMail, eWon, eSeal]; exact rfl) ?_
                    refine RW_cut 4 (by simp only [go_sem, eCluster, eNode, eMail, eWon, eSeal]; exact rfl) ?_
                    refine RW_ls (by simp only [List.drop_succ_cons, List.drop_zero]; exact rfl) ?_
                    refine RW_callGN q_impl_Cluster_isPlace (s_impl_Cluster_isPlace x _ hn) true rfl rfl (by simp only [go_sem, eCluster, eNode, eMail, eWon, eSeal]; exact rfl) (fun _ => (by simp only [go_sem, eCluster, eNode, eMail, eWon, eSeal] <;> and_intros <;> first | with_reducible exact rfl | omega | with_reducible trivial | (intros; simp_all; done) | grind)) (by simp only [go_sem, eCluster, eNode, eMail, eWon, eSeal]; exact rfl) ?_
                    simp only [go_sem, eCluster, eNode, eMail, eWon, eSeal]; exact rfl) ?_
                  refine CW_cond (by simp only [go_sem, eCluster, eNode, eMail, eWon, eSeal]; exact rfl) (fun c9 => ?_) (fun c9 => ?_)
                  · skip
                    skip
                    refine W_reg (by simp only [go_sem, eCluster, eNode, eMail, eWon, eSeal]; exact rfl) ?_
                    refine CW_ret ?_
                    refine bk_r ?_
                    refine sq_r ?_
                    refine lp_r ?_
                    refine bk_r ?_
                    refine sq_r ?_
                    simp only [go_sem, eCluster, eNode, eMail, eWon, eSeal]
                    all_goals try first | refine int_res ?_ | refine bool_res ?_
                    all_goals
                      unfold clusterFault
                      grind
                  · skip
                    skip
                    refine CW_skip ?_
                    refine bk_n ?_
                    refine sq_n ?_
                    refine W_regn (by simp only [go_sem, eCluster, eNode, eMail, eWon, eSeal] <;> and_intros <;> first | with_reducible exact rfl | omega | with_reducible trivial | (intros; simp_all; done) | grind) ?_
                    refine lp_next (i+1) [] ?_ ?_ ?_
                    · (simp only [go_sem, eCluster, eNode, eMail, eWon, eSeal])
                    · refine ⟨by omega, ?_⟩
                      rw [he, scan_lt (by omega), if_pos]
                      rw [winAt_eq]
                      grind
                    · omega
                · skip
                  try simp only [Bool.not_eq_eq_eq_not, Bool.not_true, Bool.not_false, decide_eq_true_eq, decide_eq_false_iff_not, Bool.and_eq_true, Bool.or_eq_true] at c8
                  have hs2 : scan (winAt x) x.wins.length 0 = 0 := by rw [he, scan_ge (by omega)]
                  refine CW_exit ?_
                  refine sq_e ?_
                  refine lp_e ?_
                  refine bk_i ?_
                  refine sq_n ?_
                  refine CW_assoc ?_
                  refine W_reg (by simp only [go_sem, eCluster, eNode, eMail, eWon, eSeal]; exact rfl) ?_
                  refine CW_seq ?_
                  refine CW_block ?_
                  refine CW_loopS (α := Nat) (fun i => [(105, .int .i64 i)]) (fun i => []) (fun i => x.seals.length - i) (fun i => i ≤ x.seals.length ∧ scan (sealAt x) x.seals.length 0 = scan (sealAt x) x.seals.length i) 0 [] ?_ ?_ ?_
                  · (simp only [go_sem, eCluster, eNode, eMail, eWon, eSeal])
                  · exact ⟨Nat.zero_le _, rfl⟩
                  · rintro i ⟨hI, he⟩
                    refine CW_eq (by simp only [go_sem, eCluster, eNode, eMail, eWon, eSeal]; exact rfl) ?_
                    refine W_reg (by simp only [go_sem, eCluster, eNode, eMail, eWon, eSeal]; exact rfl) ?_
                    refine CW_seq ?_
                    refine CW_cond (by simp only [go_sem, eCluster, eNode, eMail, eWon, eSeal]; exact rfl) (fun c10 => ?_) (fun c10 => ?_)
                    · skip
                      try simp only [Bool.not_eq_eq_eq_not, Bool.not_true, Bool.not_false, decide_eq_true_eq, decide_eq_false_iff_not, Bool.and_eq_true, Bool.or_eq_true] at c10
                      have hd := sealAt_eq x i
                      have hst := scan_lt (f := sealAt x) (show i < x.seals.length by omega)
                      refine CW_skip ?_
                      refine sq_n ?_
                      refine CW_seq ?_
                      refine CW_block ?_
                      refine W_reg (by simp only [go_sem, eCluster, eNode, eMail, eWon, eSeal] <;> and_intros <;> first | with_reducible exact rfl | omega | with_reducible trivial | (intros; simp_all; done) | grind) ?_
                      refine CW_assoc ?_
                      refine W_reg (by
                        refine RW_cut 2 (by simp only [go_sem, eCluster, eNode, eMail, eWon, eSeal]; exact rfl) ?_
                        refine RW_ls (by simp only [List.drop_succ_cons, List.drop_zero]; exact rfl) ?_
                        refine RW_callN q_impl_in (s_impl_in _ _ _) true [] [] [] rfl rfl (by simp only [go_sem, eCluster, eNode, eMail, eWon, eSeal] <;> and_intros <;> first | with_reducible exact rfl | omega | with_reducible trivial | (intros; simp_all; done) | grind) (by rfl) (by simp only [go_sem, eCluster, eNode, eMail, eWon, eSeal]; exact rfl) ?_
                        simp only [go_sem, eCluster, eNode, eMail, eWon, eSeal]; exact rfl) ?_
                      refine CW_seq ?_
                      refine CW_cond (by simp only [go_sem, eCluster, eNode, eMail, eWon, eSeal]; exact rfl) (fun c11 => ?_) (fun c11 => ?_)
                      · skip
                        skip
                        refine W_reg (by simp only [go_sem, eCluster, eNode, eMail, eWon, eSeal]; exact rfl) ?_
                        refine CW_ret ?_
                        refine sq_r ?_
                        refine bk_r ?_
                        refine sq_r ?_
                        refine lp_r ?_
                        refine bk_r ?_
                        refine sq_r ?_
                        simp only [go_sem, eCluster, eNode, eMail, eWon, eSeal]
                        all_goals try first | refine int_res ?_ | refine bool_res ?_
                        all_goals
                          unfold clusterFault
                          grind
                      · skip
                        skip
                        refine CW_skip ?_
                        refine sq_n ?_
                        refine W_reg (by
                          refine RW_cut 2 (by simp only [go_sem, eCluster, eNode, eMail, eWon, eSeal]; exact rfl) ?_
                          refine RW_ls (by simp only [List.drop_succ_cons, List.drop_zero]; exact rfl) ?_
                          refine RW_callN q_impl_EntryFault (s_impl_EntryFault _) true [] [] [] rfl rfl (by simp only [go_sem, eCluster, eNode, eMail, eWon, eSeal] <;> and_intros <;> first | with_reducible exact rfl | omega | with_reducible trivial | (intros; simp_all; done) | grind) (by rfl) (by simp only [go_sem, eCluster, eNode, eMail, eWon, eSeal]; exact rfl) ?_
                          simp only [go_sem, eCluster, eNode, eMail, eWon, eSeal]; exact rfl) ?_
                        refine W_reg (by simp only [go_sem, eCluster, eNode, eMail, eWon, eSeal]; exact rfl) ?_
                        refine CW_cond (by simp only [go_sem, eCluster, eNode, eMail, eWon, eSeal]; exact rfl) (fun c12 => ?_) (fun c12 => ?_)
                        · skip
                          skip
                          refine W_reg (by simp only [go_sem, eCluster, eNode, eMail, eWon, eSeal]; exact rfl) ?_
                          refine CW_ret ?_
                          refine bk_r ?_
                          refine sq_r ?_
                          refine lp_r ?_
                          refine bk_r ?_
                          refine sq_r ?_
                          simp only [go_sem, eCluster, eNode, eMail, eWon, eSeal]
                          all_goals try first | refine int_res ?_ | refine bool_res ?_
                          all_goals
                            unfold clusterFault
                            grind
                        · skip
                          skip
                          refine CW_skip ?_
                          refine bk_n ?_
                          refine sq_n ?_
                          refine W_regn (by simp only [go_sem, eCluster, eNode, eMail, eWon, eSeal] <;> and_intros <;> first | with_reducible exact rfl | omega | with_reducible trivial | (intros; simp_all; done) | grind) ?_
                          refine lp_next (i+1) [] ?_ ?_ ?_
                          · (simp only [go_sem, eCluster, eNode, eMail, eWon, eSeal])
                          · refine ⟨by omega, ?_⟩
                            rw [he, scan_lt (by omega), if_pos]
                            rw [sealAt_eq]
                            grind
                          · omega
                    · skip
                      try simp only [Bool.not_eq_eq_eq_not, Bool.not_true, Bool.not_false, decide_eq_true_eq, decide_eq_false_iff_not, Bool.and_eq_true, Bool.or_eq_true] at c10
                      have hs3 : scan (sealAt x) x.seals.length 0 = 0 := by rw [he, scan_ge (by omega)]
                      refine CW_exit ?_
                      refine sq_e ?_
                      refine lp_e ?_
                      refine bk_i ?_
                      refine sq_n ?_
                      refine W_reg (by simp only [go_sem, eCluster, eNode, eMail, eWon, eSeal]; exact rfl) ?_
                      refine CW_ret ?_
                      simp only [go_sem, eCluster, eNode, eMail, eWon, eSeal]
                      all_goals try first | refine int_res ?_ | refine bool_res ?_
                      all_goals
                        unfold clusterFault
                        grind
end Go.H
end
section
set_option maxRecDepth 100000
set_option linter.unusedVariables false
set_option linter.unusedSimpArgs false
namespace Go.H
open Go Go.Proofs.Tryz
def c_impl_size_Mail : SC :=
.seq (rg [
  ss 2 (.mv (.i .i64 0))] [0])
  (.seq (rg [
  ss 3 (.mv (.t 0)),
  sk 4 20480 (.len (.t 3)),
  ss 2 (.mv (.t 4))] [2])
  (.ret))
theorem b_impl_size_Mail : ∃ c, f116.body = some c ∧ compC prog 5 c = some c_impl_size_Mail.er ∧ drawB c c_impl_size_Mail = true := ⟨_, rfl, by kernel_rfl, by kernel_rfl⟩
theorem r_impl_size_Mail : cmpR prog [.tmp 2] = some [.t 2] := by kernel_rfl
theorem q_impl_size_Mail : callB prog F.impl_size_Mail = true := by kernel_rfl
variable [Inv prog]
theorem s_impl_size_Mail (rows : List (List T)) : SemX prog F.impl_size_Mail [.one (.t (.sl false 9 rows))] [] [.one (.int .i64 rows.length)] [] := by
  obtain ⟨cc, g1, g2, g3⟩ := b_impl_size_Mail
  refine SemX.of_code func116 g1 (by rw [ntmps116]; exact g2) g3 (by rw [results116]; exact r_impl_size_Mail) (by rw [ntmps116]; exact Nat.le_of_ble_eq_true rfl) (Nat.le_of_ble_eq_true rfl) (by simp) (by simp [argOk, aT, aI, aS]) ?_
  unfold c_impl_size_Mail
  simp only [rg]
  refine W_reg (by simp only [go_sem]; exact rfl) ?_
  refine W_reg (by simp only [go_sem]; exact rfl) ?_
  refine CW_ret ?_
  simp only [go_sem]
end Go.H
end
section
set_option maxRecDepth 100000
set_option linter.unusedVariables false
set_option linter.unusedSimpArgs false
namespace Go.H
open Go Go.Proofs.Tryz
def c_slices_Clone_Entry : SC :=
.seq (rg [
  ss 2 (.mv (.nl))] [0])
  (.seq (.seq (rg [
  ss 3 (.mv (.t 0)),
  ss 4 (.isn false (.t 3))] [0, 4])
  (.cond (.t 4) (.seq (rg [
  ss 2 (.mv (.nl))] [2])
  (.ret))
  (.skip)))
  (.seq (rg [
  sd (some 5) 0 24576 dEntry (.bsl [.int .i64 0, .int .i64 0, .int .i64 0, .int .i64 0, .int .i64 0, .int .i64 0, .int .i64 0, .int .i64 0, .int .i64 0] 0 []),
  ss 6 (.mv (.t 0)),
  sk 7 32768 (.app false (.t 5) (.t 6) 9 72),
  ss 2 (.mv (.t 7))] [2])
  (.ret)))
theorem b_slices_Clone_Entry : ∃ c, f119.body = some c ∧ compC prog 8 c = some c_slices_Clone_Entry.er ∧ drawB c c_slices_Clone_Entry = true := ⟨_, rfl, by kernel_rfl, by kernel_rfl⟩
theorem r_slices_Clone_Entry : cmpR prog [.tmp 2] = some [.t 2] := by kernel_rfl
theorem q_slices_Clone_Entry : callB prog F.slices_Clone_Entry = true := by kernel_rfl
variable [Inv prog]
theorem s_slices_Clone_Entry (xs : List Entry) (hl : xs.length ≤ 2097152) : SemX prog F.slices_Clone_Entry [aT (.sl false 9 (xs.map eEntry))] [] [.one (.sl true 9 (xs.map eEntry))] [] := by
  obtain ⟨cc, g1, g2, g3⟩ := b_slices_Clone_Entry
  refine SemX.of_code func119 g1 (by rw [ntmps119]; exact g2) g3 (by rw [results119]; exact r_slices_Clone_Entry) (by rw [ntmps119]; exact Nat.le_of_ble_eq_true rfl) (Nat.le_of_ble_eq_true rfl) (by simp) (by simp [argOk, aT, aI, aS]) ?_
  unfold c_slices_Clone_Entry
  simp only [rg]
  refine W_reg (by simp only [go_sem]; exact rfl) ?_
  refine CW_assoc ?_
  refine CW_seq (CW_reg ?_)
  refine RW_cut 1 (by simp only [go_sem]; exact rfl) ?_
  refine RW_isn (fun b => xs.map eEntry ≠ [] → b = false) rfl rfl (by simp only [go_sem]) (fun b hb => ?_)
  refine RW_nil ?_
  refine sq_n ?_
  refine CW_eq (by simp only [go_sem]; exact rfl) ?_
  refine CW_seq ?_
  refine CW_cond (by simp only [go_sem]; exact rfl) (fun c0 => ?_) (fun c0 => ?_)
  · skip
    have hx : xs = [] := by
      cases xs with
      | nil => rfl
      | cons a l => have := hb (by simp); rw [this] at c0; cases c0
    subst hx
    refine W_reg (by simp only [go_sem]; exact rfl) ?_
    refine CW_ret ?_
    refine sq_r ?_
    simp only [go_sem]
  · skip
    skip
    refine CW_skip ?_
    refine sq_n ?_
    refine W_reg (by simp only [go_sem] <;> and_intros <;> first | with_reducible exact rfl | omega | with_reducible trivial | (intros; simp_all; done) | grind) ?_
    refine CW_ret ?_
    simp only [go_sem]
end Go.H
end
section
set_option maxRecDepth 100000
set_option linter.unusedVariables false
set_option linter.unusedSimpArgs false
namespace Go.H
open Go Go.Proofs.Tryz
def c_impl_copiedMail : SC :=
.seq (rg [
  sk 1 8192 (.box (.t 0)),
  sk 2 12288 (.alloc [.int .i64 0, .int .i64 0, .int .i64 0, .int .i64 0, .int .i64 0, .int .i64 0, .int .i64 0, .bool false, .nil])] [1, 2])
  (.seq (rg [
  ss 3 (.fad (.t 1) 8),
  ss 4 (.load (.t 3) 1 false),
  sk 5 24576 (.call (.f F.slices_Clone_Entry) [(.t 4, none)]),
  ss 6 (.fad (.t 1) 8),
  sx (.store (.t 6) (.t 5) 1)] [1, 2])
  (.seq (rg [
  ss 7 (.load (.t 1) 9 true),
  sx (.store (.t 2) (.t 7) 9)] [2])
  (.ret)))
theorem b_impl_copiedMail : ∃ c, f60.body = some c ∧ compC prog 8 c = some c_impl_copiedMail.er ∧ drawB c c_impl_copiedMail = true := ⟨_, rfl, by kernel_rfl, by kernel_rfl⟩
theorem r_impl_copiedMail : cmpR prog [.cell 2 60] = some [.c 2 9 true] := by kernel_rfl
theorem q_impl_copiedMail : callB prog F.impl_copiedMail = true := by kernel_rfl
variable [Inv prog]
theorem s_impl_copiedMail (x : Mail) (hx : limM 2097152 x) : SemX prog F.impl_copiedMail [aS (eMail false x)] [] [.agg (eMail true x)] [] := by
  obtain ⟨cc, g1, g2, g3⟩ := b_impl_copiedMail
  refine SemX.of_code func60 g1 (by rw [ntmps60]; exact g2) g3 (by rw [results60]; exact r_impl_copiedMail) (by rw [ntmps60]; exact Nat.le_of_ble_eq_true rfl) (Nat.le_of_ble_eq_true rfl) (by simp) (by simp [argOk, aT, aI, aS, eMail]) ?_
  unfold c_impl_copiedMail
  simp only [rg]
  refine W_reg (by simp only [go_sem, eMail]; exact rfl) ?_
  refine W_reg (by
    refine RW_cut 2 (by simp only [go_sem, eMail]; exact rfl) ?_
    refine RW_ls (by simp only [List.drop_succ_cons, List.drop_zero]; exact rfl) ?_
    refine RW_callN q_slices_Clone_Entry (s_slices_Clone_Entry x.entries hx) true [] [] [] rfl rfl (by simp only [go_sem, eMail]; exact rfl) (by rfl) (by simp only [go_sem, eMail]; exact rfl) ?_
    simp only [go_sem, eMail]; exact rfl) ?_
  refine W_reg (by simp only [go_sem, eMail]; exact rfl) ?_
  refine CW_ret ?_
  simp only [go_sem, eMail]
end Go.H
end
section
set_option maxRecDepth 100000
set_option linter.unusedVariables false
set_option linter.unusedSimpArgs false
namespace Go.H
open Go Go.Proofs.Tryz
def c_slices_Clone_int64 : SC :=
.seq (rg [
  ss 2 (.mv (.nl))] [0])
  (.seq (.seq (rg [
  ss 3 (.mv (.t 0)),
  ss 4 (.isn false (.t 3))] [0, 4])
  (.cond (.t 4) (.seq (rg [
  ss 2 (.mv (.nl))] [2])
  (.ret))
  (.skip)))
  (.seq (rg [
  sd (some 5) 0 24576 dI_i64 (.bsl [.int .i64 0] 0 []),
  ss 6 (.mv (.t 0)),
  sk 7 32768 (.app false (.t 5) (.t 6) 1 8),
  ss 2 (.mv (.t 7))] [2])
  (.ret)))
theorem b_slices_Clone_int64 : ∃ c, f140.body = some c ∧ compC prog 8 c = some c_slices_Clone_int64.er ∧ drawB c c_slices_Clone_int64 = true := ⟨_, rfl, by kernel_rfl, by kernel_rfl⟩
theorem r_slices_Clone_int64 : cmpR prog [.tmp 2] = some [.t 2] := by kernel_rfl
theorem q_slices_Clone_int64 : callB prog F.slices_Clone_int64 = true := by kernel_rfl
variable [Inv prog]
theorem s_slices_Clone_int64 (xs : List Int) (hl : xs.length ≤ 2097152) : SemX prog F.slices_Clone_int64 [aT (.sl false 1 (xs.map eI_i64))] [] [.one (.sl true 1 (xs.map eI_i64))] [] := by
  obtain ⟨cc, g1, g2, g3⟩ := b_slices_Clone_int64
  refine SemX.of_code func140 g1 (by rw [ntmps140]; exact g2) g3 (by rw [results140]; exact r_slices_Clone_int64) (by rw [ntmps140]; exact Nat.le_of_ble_eq_true rfl) (Nat.le_of_ble_eq_true rfl) (by simp) (by simp [argOk, aT, aI, aS]) ?_
  unfold c_slices_Clone_int64
  simp only [rg]
  refine W_reg (by simp only [go_sem]; exact rfl) ?_
  refine CW_assoc ?_
  refine CW_seq (CW_reg ?_)
  refine RW_cut 1 (by simp only [go_sem]; exact rfl) ?_
  refine RW_isn (fun b => xs.map eI_i64 ≠ [] → b = false) rfl rfl (by simp only [go_sem]) (fun b hb => ?_)
  refine RW_nil ?_
  refine sq_n ?_
  refine CW_eq (by simp only [go_sem]; exact rfl) ?_
  refine CW_seq ?_
  refine CW_cond (by simp only [go_sem]; exact rfl) (fun c0 => ?_) (fun c0 => ?_)
  · skip
    have hx : xs = [] := by
      cases xs with
      | nil => rfl
      | cons a l => have := hb (by simp); rw [this] at c0; cases c0
    subst hx
    refine W_reg (by simp only [go_sem]; exact rfl) ?_
    refine CW_ret ?_
    refine sq_r ?_
    simp only [go_sem]
  · skip
    skip
    refine CW_skip ?_
    refine sq_n ?_
    refine W_reg (by simp only [go_sem] <;> and_intros <;> first | with_reducible exact rfl | omega | with_reducible trivial | (intros; simp_all; done) | grind) ?_
    refine CW_ret ?_
    simp only [go_sem]
end Go.H
end
section
set_option maxRecDepth 100000
set_option linter.unusedVariables false
set_option linter.unusedSimpArgs false
namespace Go.H
open Go Go.Proofs.Tryz
def c_impl_Node_copied : SC :=
.seq (rg [
  sk 1 8192 (.box (.t 0)),
  sk 2 12288 (.alloc [.int .i64 0, .int .i64 0, .int .i64 0, .int .i64 0, .nil, .int .i64 0, .int .i64 0, .nil, .nil, .nil])] [1, 2])
  (.seq (.reg true [
    ⟨(some 3), .fad (.t 1) 4, none, [1], 0, 0, [], [], [], []⟩,
    ⟨(some 4), .load (.t 3) 1 false, none, [3], 0, 0, [], [], [8192], []⟩,
    ⟨(some 5), .call (.f F.slices_Clone_Entry) [(.t 4, none)], none, [4], 0, 24576, [], [], [], [24576]⟩,
    ⟨(some 6), .fad (.t 1) 7, none, [1], 0, 0, [], [], [], []⟩,
    ⟨(some 7), .load (.t 6) 1 false, none, [6], 0, 0, [], [], [8192], []⟩,
    ⟨(some 8), .call (.f F.slices_Clone_int64) [(.t 7, none)], none, [7], 0, 36864, [], [], [], [36864]⟩,
    ⟨(some 9), .fad (.t 1) 8, none, [1], 0, 0, [], [], [], []⟩,
    ⟨(some 10), .load (.t 9) 1 false, none, [9], 0, 0, [], [], [8192], []⟩,
    ⟨(some 11), .call (.f F.slices_Clone_int64) [(.t 10, none)], none, [10], 0, 49152, [], [], [], [49152]⟩,
    ⟨(some 12), .fad (.t 1) 9, none, [1], 0, 0, [], [], [], []⟩,
    ⟨(some 13), .load (.t 12) 1 false, none, [12], 0, 0, [], [], [8192], []⟩,
    ⟨(some 14), .call (.f F.slices_Clone_int64) [(.t 13, none)], none, [13], 0, 61440, [], [], [], [61440]⟩,
    ⟨(some 15), .fad (.t 1) 4, none, [1], 0, 0, [], [], [], []⟩,
    ⟨none, .store (.t 15) (.t 5) 1, none, [15, 5], 0, 0, [], [], [8192], [8192]⟩,
    ⟨(some 16), .fad (.t 1) 7, none, [1], 0, 0, [], [], [], []⟩,
    ⟨none, .store (.t 16) (.t 8) 1, none, [16, 8], 0, 0, [], [], [8192], [8192]⟩,
    ⟨(some 17), .fad (.t 1) 8, none, [1], 0, 0, [], [], [], []⟩,
    ⟨none, .store (.t 17) (.t 11) 1, none, [17, 11], 0, 0, [], [], [8192], [8192]⟩,
    ⟨(some 18), .fad (.t 1) 9, none, [1], 0, 0, [], [], [], []⟩,
    ⟨none, .store (.t 18) (.t 14) 1, none, [18, 14], 0, 0, [], [], [8192], [8192]⟩] (some ([1, 2], [])))
  (.seq (rg [
  ss 19 (.load (.t 1) 10 true),
  sx (.store (.t 2) (.t 19) 10)] [2])
  (.ret)))
theorem b_impl_Node_copied : ∃ c, f81.body = some c ∧ compC prog 20 c = some c_impl_Node_copied.er ∧ drawB c c_impl_Node_copied = true := ⟨_, rfl, by kernel_rfl, by kernel_rfl⟩
theorem r_impl_Node_copied : cmpR prog [.cell 2 54] = some [.c 2 10 true] := by kernel_rfl
theorem q_impl_Node_copied : callB prog F.impl_Node_copied = true := by kernel_rfl
variable [Inv prog]
theorem s_impl_Node_copied (x : Node) (hx : limN 2097152 x) : SemX prog F.impl_Node_copied [aS (eNode false x)] [] [.agg (eNode true x)] [] := by
  obtain ⟨cc, g1, g2, g3⟩ := b_impl_Node_copied
  refine SemX.of_code func81 g1 (by rw [ntmps81]; exact g2) g3 (by rw [results81]; exact r_impl_Node_copied) (by rw [ntmps81]; exact Nat.le_of_ble_eq_true rfl) (Nat.le_of_ble_eq_true rfl) (by simp) (by simp [argOk, aT, aI, aS, eNode]) ?_
  unfold c_impl_Node_copied
  simp only [rg]
  refine W_reg (by simp only [go_sem, eNode]; exact rfl) ?_
  refine W_drw (by
    refine DW_cut 2 (by simp only [go_sem, eNode]; exact rfl) ?_
    refine DW_ls (by simp only [List.drop_succ_cons, List.drop_zero]; exact rfl) ?_
    refine DW_callN q_slices_Clone_Entry (s_slices_Clone_Entry x.log hx.1) true [] [] [] rfl rfl (by simp only [go_sem, eNode]; exact rfl) (by rfl) (by simp only [go_sem, eNode]; exact rfl) ?_
    refine DW_cut 2 (by simp only [go_sem, eNode]; exact rfl) ?_
    refine DW_ls (by simp only [List.drop_succ_cons, List.drop_zero]; exact rfl) ?_
    refine DW_callN q_slices_Clone_int64 (s_slices_Clone_int64 x.votes hx.2.1) true [] [] [] rfl rfl (by simp only [go_sem, eNode]; exact rfl) (by rfl) (by simp only [go_sem, eNode]; exact rfl) ?_
    refine DW_cut 2 (by simp only [go_sem, eNode]; exact rfl) ?_
    refine DW_ls (by simp only [List.drop_succ_cons, List.drop_zero]; exact rfl) ?_
    refine DW_callN q_slices_Clone_int64 (s_slices_Clone_int64 x.next hx.2.2.1) true [] [] [] rfl rfl (by simp only [go_sem, eNode]; exact rfl) (by rfl) (by simp only [go_sem, eNode]; exact rfl) ?_
    refine DW_cut 2 (by simp only [go_sem, eNode]; exact rfl) ?_
    refine DW_ls (by simp only [List.drop_succ_cons, List.drop_zero]; exact rfl) ?_
    refine DW_callN q_slices_Clone_int64 (s_slices_Clone_int64 x.match_ hx.2.2.2) true [] [] [] rfl rfl (by simp only [go_sem, eNode]; exact rfl) (by rfl) (by simp only [go_sem, eNode]; exact rfl) ?_
    simp only [go_sem, eNode]; exact rfl) ?_
  refine W_reg (by simp only [go_sem, eNode]; exact rfl) ?_
  refine CW_ret ?_
  simp only [go_sem, eNode]
end Go.H
end
section
set_option maxRecDepth 100000
set_option linter.unusedVariables false
set_option linter.unusedSimpArgs false
namespace Go.H
open Go Go.Proofs.Tryz
def c_slices_Clone_Won : SC :=
.seq (rg [
  ss 2 (.mv (.nl))] [0])
  (.seq (.seq (rg [
  ss 3 (.mv (.t 0)),
  ss 4 (.isn false (.t 3))] [0, 4])
  (.cond (.t 4) (.seq (rg [
  ss 2 (.mv (.nl))] [2])
  (.ret))
  (.skip)))
  (.seq (rg [
  sd (some 5) 0 24576 dWon (.bsl [.int .i64 0, .int .i64 0] 0 []),
  ss 6 (.mv (.t 0)),
  sk 7 32768 (.app false (.t 5) (.t 6) 2 16),
  ss 2 (.mv (.t 7))] [2])
  (.ret)))
theorem b_slices_Clone_Won : ∃ c, f166.body = some c ∧ compC prog 8 c = some c_slices_Clone_Won.er ∧ drawB c c_slices_Clone_Won = true := ⟨_, rfl, by kernel_rfl, by kernel_rfl⟩
theorem r_slices_Clone_Won : cmpR prog [.tmp 2] = some [.t 2] := by kernel_rfl
theorem q_slices_Clone_Won : callB prog F.slices_Clone_Won = true := by kernel_rfl
variable [Inv prog]
theorem s_slices_Clone_Won (xs : List Won) (hl : xs.length ≤ 2097152) : SemX prog F.slices_Clone_Won [aT (.sl false 2 (xs.map eWon))] [] [.one (.sl true 2 (xs.map eWon))] [] := by
  obtain ⟨cc, g1, g2, g3⟩ := b_slices_Clone_Won
  refine SemX.of_code func166 g1 (by rw [ntmps166]; exact g2) g3 (by rw [results166]; exact r_slices_Clone_Won) (by rw [ntmps166]; exact Nat.le_of_ble_eq_true rfl) (Nat.le_of_ble_eq_true rfl) (by simp) (by simp [argOk, aT, aI, aS]) ?_
  unfold c_slices_Clone_Won
  simp only [rg]
  refine W_reg (by simp only [go_sem]; exact rfl) ?_
  refine CW_assoc ?_
  refine CW_seq (CW_reg ?_)
  refine RW_cut 1 (by simp only [go_sem]; exact rfl) ?_
  refine RW_isn (fun b => xs.map eWon ≠ [] → b = false) rfl rfl (by simp only [go_sem]) (fun b hb => ?_)
  refine RW_nil ?_
  refine sq_n ?_
  refine CW_eq (by simp only [go_sem]; exact rfl) ?_
  refine CW_seq ?_
  refine CW_cond (by simp only [go_sem]; exact rfl) (fun c0 => ?_) (fun c0 => ?_)
  · skip
    have hx : xs = [] := by
      cases xs with
      | nil => rfl
      | cons a l => have := hb (by simp); rw [this] at c0; cases c0
    subst hx
    refine W_reg (by simp only [go_sem]; exact rfl) ?_
    refine CW_ret ?_
    refine sq_r ?_
    simp only [go_sem]
  · skip
    skip
    refine CW_skip ?_
    refine sq_n ?_
    refine W_reg (by simp only [go_sem] <;> and_intros <;> first | with_reducible exact rfl | omega | with_reducible trivial | (intros; simp_all; done) | grind) ?_
    refine CW_ret ?_
    simp only [go_sem]
end Go.H
end
section
set_option maxRecDepth 100000
set_option linter.unusedVariables false
set_option linter.unusedSimpArgs false
namespace Go.H
open Go Go.Proofs.Tryz
def c_slices_Clone_Seal : SC :=
.seq (rg [
  ss 2 (.mv (.nl))] [0])
  (.seq (.seq (rg [
  ss 3 (.mv (.t 0)),
  ss 4 (.isn false (.t 3))] [0, 4])
  (.cond (.t 4) (.seq (rg [
  ss 2 (.mv (.nl))] [2])
  (.ret))
  (.skip)))
  (.seq (rg [
  sd (some 5) 0 24576 dSeal (.bsl [.int .i64 0, .int .i64 0, .int .i64 0, .int .i64 0, .int .i64 0, .int .i64 0, .int .i64 0, .int .i64 0, .int .i64 0, .int .i64 0] 0 []),
  ss 6 (.mv (.t 0)),
  sk 7 32768 (.app false (.t 5) (.t 6) 10 80),
  ss 2 (.mv (.t 7))] [2])
  (.ret)))
theorem b_slices_Clone_Seal : ∃ c, f167.body = some c ∧ compC prog 8 c = some c_slices_Clone_Seal.er ∧ drawB c c_slices_Clone_Seal = true := ⟨_, rfl, by kernel_rfl, by kernel_rfl⟩
theorem r_slices_Clone_Seal : cmpR prog [.tmp 2] = some [.t 2] := by kernel_rfl
theorem q_slices_Clone_Seal : callB prog F.slices_Clone_Seal = true := by kernel_rfl
variable [Inv prog]
theorem s_slices_Clone_Seal (xs : List Seal) (hl : xs.length ≤ 2097152) : SemX prog F.slices_Clone_Seal [aT (.sl false 10 (xs.map eSeal))] [] [.one (.sl true 10 (xs.map eSeal))] [] := by
  obtain ⟨cc, g1, g2, g3⟩ := b_slices_Clone_Seal
  refine SemX.of_code func167 g1 (by rw [ntmps167]; exact g2) g3 (by rw [results167]; exact r_slices_Clone_Seal) (by rw [ntmps167]; exact Nat.le_of_ble_eq_true rfl) (Nat.le_of_ble_eq_true rfl) (by simp) (by simp [argOk, aT, aI, aS]) ?_
  unfold c_slices_Clone_Seal
  simp only [rg]
  refine W_reg (by simp only [go_sem]; exact rfl) ?_
  refine CW_assoc ?_
  refine CW_seq (CW_reg ?_)
  refine RW_cut 1 (by simp only [go_sem]; exact rfl) ?_
  refine RW_isn (fun b => xs.map eSeal ≠ [] → b = false) rfl rfl (by simp only [go_sem]) (fun b hb => ?_)
  refine RW_nil ?_
  refine sq_n ?_
  refine CW_eq (by simp only [go_sem]; exact rfl) ?_
  refine CW_seq ?_
  refine CW_cond (by simp only [go_sem]; exact rfl) (fun c0 => ?_) (fun c0 => ?_)
  · skip
    have hx : xs = [] := by
      cases xs with
      | nil => rfl
      | cons a l => have := hb (by simp); rw [this] at c0; cases c0
    subst hx
    refine W_reg (by simp only [go_sem]; exact rfl) ?_
    refine CW_ret ?_
    refine sq_r ?_
    simp only [go_sem]
  · skip
    skip
    refine CW_skip ?_
    refine sq_n ?_
    refine W_reg (by simp only [go_sem] <;> and_intros <;> first | with_reducible exact rfl | omega | with_reducible trivial | (intros; simp_all; done) | grind) ?_
    refine CW_ret ?_
    simp only [go_sem]
end Go.H
end
section
set_option maxRecDepth 100000
set_option linter.unusedVariables false
set_option linter.unusedSimpArgs false
namespace Go.H
open Go Go.Proofs.Tryz
def c_impl_Cluster_copied : SC :=
.seq (rg [
  sk 1 8192 (.box (.t 0)),
  sk 2 12288 (.alloc [.nil, .nil, .nil, .nil])] [1, 2])
  (.seq (.reg true [
    ⟨(some 8), .fad (.t 1) 2, none, [1], 0, 0, [], [], [], []⟩,
    ⟨(some 9), .load (.t 8) 1 false, none, [8], 0, 0, [], [], [8192], []⟩,
    ⟨(some 10), .call (.f F.slices_Clone_Won) [(.t 9, none)], none, [9], 0, 45056, [], [], [], [45056]⟩,
    ⟨(some 11), .fad (.t 1) 3, none, [1], 0, 0, [], [], [], []⟩,
    ⟨(some 12), .load (.t 11) 1 false, none, [11], 0, 0, [], [], [8192], []⟩,
    ⟨(some 13), .call (.f F.slices_Clone_Seal) [(.t 12, none)], none, [12], 0, 57344, [], [], [], [57344]⟩,
    ⟨(some 14), .bld [.nil, .nil, .nil, .nil] [(2, 1, .t 10), (3, 1, .t 13)], none, [10, 13], 4, 61440, (dCluster true), [], [], [61440, 61441]⟩,
    ⟨(some 3), .alloc [.nil, .nil, .nil, .nil], none, [], 0, 16384, [], [], [], [16384]⟩,
    ⟨none, .store (.t 3) (.t 14) 4, none, [3, 14], 0, 0, [], [], [16384], [16384]⟩] (some ([1, 2, 3], [])))
  (.seq (.seq (rg [
  ss 15 (.fad (.t 1) 0),
  ss 16 (.load (.t 15) 1 false),
  sk 17 73728 (.len (.t 16)),
  ss 18 (.mv (.i .i64 0))] [1, 2, 3, 16, 17, 18])
  (.block 0 (.loop (.seq (rg [
  ss 19 (.bin .lss (.t 18) (.t 17))] [1, 2, 3, 16, 17, 18, 19])
  (.seq (.cond (.t 19) (.skip)
  (.exit 0))
  (.seq (.block 1 (.seq (rg [
  sd (some 20) 0 0 (dNode false) (.idx (.t 16) (.t 18) 10),
  sd (some 21) 0 0 (dNode true) (.load (.t 20) 10 true),
  sk 5 24576 (.alloc [.int .i64 0, .int .i64 0, .int .i64 0, .int .i64 0, .nil, .int .i64 0, .int .i64 0, .nil, .nil, .nil]),
  sx (.store (.t 5) (.t 21) 10)] [1, 2, 3, 5, 16, 17, 18])
  (.reg true [
    ⟨(some 22), .fad (.t 3) 0, none, [3], 0, 0, [], [], [], []⟩,
    ⟨(some 23), .load (.t 22) 1 false, none, [22], 0, 0, [], [], [16384], []⟩,
    ⟨(some 24), .load (.t 5) 10 true, none, [5], 0, 0, [], [], [24576], []⟩,
    ⟨(some 25), .call (.f F.impl_Node_copied) [(.t 24, none)], none, [24], 0, 106496, [], [], [], [106500, 106503, 106504, 106505]⟩,
    ⟨(some 26), .bsl [.int .i64 0, .int .i64 0, .int .i64 0, .int .i64 0, .nil, .int .i64 0, .int .i64 0, .nil, .nil, .nil] 1 [(0, .t 25)], none, [25], 0, 110592, (dNode true), [], [106500, 106503, 106504, 106505], [110592, 106500, 106503, 106504, 106505]⟩,
    ⟨(some 27), .app false (.t 23) (.t 26) 10 144, none, [23, 26], 2, 114688, [], [], [61440, 110592], [114688, 61440, 110592]⟩,
    ⟨(some 28), .fad (.t 3) 0, none, [3], 0, 0, [], [], [], []⟩,
    ⟨none, .store (.t 28) (.t 27) 1, none, [28, 27], 0, 0, [], [], [16384], [16384]⟩] (some ([1, 2, 3, 16, 17, 18], [])))))
  (rg [
  sh 29 1 (.bin .add (.t 18) (.i .i64 1)),
  ss 18 (.mv (.t 29))] [1, 2, 3, 16, 17, 18])))))))
  (.seq (.seq (rg [
  ss 30 (.fad (.t 1) 1),
  ss 31 (.load (.t 30) 1 false),
  sk 32 135168 (.len (.t 31)),
  ss 33 (.mv (.i .i64 0))] [2, 3, 31, 32, 33])
  (.block 2 (.loop (.seq (rg [
  ss 34 (.bin .lss (.t 33) (.t 32))] [2, 3, 31, 32, 33, 34])
  (.seq (.cond (.t 34) (.skip)
  (.exit 2))
  (.seq (.block 3 (.seq (rg [
  sd (some 35) 0 0 (dMail false) (.idx (.t 31) (.t 33) 9),
  sd (some 36) 0 0 (dMail true) (.load (.t 35) 9 true),
  sk 7 32768 (.alloc [.int .i64 0, .int .i64 0, .int .i64 0, .int .i64 0, .int .i64 0, .int .i64 0, .int .i64 0, .bool false, .nil]),
  sx (.store (.t 7) (.t 36) 9)] [2, 3, 7, 31, 32, 33])
  (.reg true [
    ⟨(some 37), .fad (.t 3) 1, none, [3], 0, 0, [], [], [], []⟩,
    ⟨(some 38), .load (.t 37) 1 false, none, [37], 0, 0, [], [], [16384], []⟩,
    ⟨(some 39), .load (.t 7) 9 true, none, [7], 0, 0, [], [], [32768], []⟩,
    ⟨(some 40), .call (.f F.impl_copiedMail) [(.t 39, none)], none, [39], 0, 167936, [], [], [], [167944]⟩,
    ⟨(some 41), .bsl [.int .i64 0, .int .i64 0, .int .i64 0, .int .i64 0, .int .i64 0, .int .i64 0, .int .i64 0, .bool false, .nil] 1 [(0, .t 40)], none, [40], 0, 172032, (dMail true), [], [167944], [172032, 167944]⟩,
    ⟨(some 42), .app false (.t 38) (.t 41) 9 88, none, [38, 41], 2, 176128, [], [], [61441, 172032], [176128, 61441, 172032]⟩,
    ⟨(some 43), .fad (.t 3) 1, none, [3], 0, 0, [], [], [], []⟩,
    ⟨none, .store (.t 43) (.t 42) 1, none, [43, 42], 0, 0, [], [], [16384], [16384]⟩] (some ([2, 3, 31, 32, 33], [])))))
  (rg [
  sh 44 1 (.bin .add (.t 33) (.i .i64 1)),
  ss 33 (.mv (.t 44))] [2, 3, 31, 32, 33])))))))
  (.seq (rg [
  ss 45 (.load (.t 3) 4 true),
  sx (.store (.t 2) (.t 45) 4)] [2])
  (.ret)))))
theorem b_impl_Cluster_copied : ∃ c, f117.body = some c ∧ compC prog 46 c = some c_impl_Cluster_copied.er ∧ drawB c c_impl_Cluster_copied = true := ⟨_, rfl, by kernel_rfl, by kernel_rfl⟩
theorem r_impl_Cluster_copied : cmpR prog [.cell 2 34] = some [.c 2 4 true] := by kernel_rfl
theorem q_impl_Cluster_copied : callB prog F.impl_Cluster_copied = true := by kernel_rfl
variable [Inv prog]
theorem s_impl_Cluster_copied (x : Cluster) (hx : limC 2097152 x) : SemX prog F.impl_Cluster_copied [aS (eCluster false x)] [] [.agg (eCluster true x)] [] := by
  obtain ⟨cc, g1, g2, g3⟩ := b_impl_Cluster_copied
  refine SemX.of_code func117 g1 (by rw [ntmps117]; exact g2) g3 (by rw [results117]; exact r_impl_Cluster_copied) (by rw [ntmps117]; exact Nat.le_of_ble_eq_true rfl) (Nat.le_of_ble_eq_true rfl) (by simp) (by simp [argOk, aT, aI, aS, eCluster, eNode, eMail]) ?_
  unfold c_impl_Cluster_copied
  simp only [rg]
  obtain ⟨⟨hn, hN⟩, ⟨hm, hM⟩, hw, hs⟩ := id hx
  refine W_reg (by simp only [go_sem, eCluster, eNode, eMail]; exact rfl) ?_
  refine W_drw (by
    refine DW_cut 2 (by simp only [go_sem, eCluster, eNode, eMail]; exact rfl) ?_
    refine DW_ls (by simp only [List.drop_succ_cons, List.drop_zero]; exact rfl) ?_
    refine DW_callN q_slices_Clone_Won (s_slices_Clone_Won x.wins hw) true [] [] [] rfl rfl (by simp only [go_sem, eCluster, eNode, eMail]; exact rfl) (by rfl) (by simp only [go_sem, eCluster, eNode, eMail]; exact rfl) ?_
    refine DW_cut 2 (by simp only [go_sem, eCluster, eNode, eMail]; exact rfl) ?_
    refine DW_ls (by simp only [List.drop_succ_cons, List.drop_zero]; exact rfl) ?_
    refine DW_callN q_slices_Clone_Seal (s_slices_Clone_Seal x.seals hs) true [] [] [] rfl rfl (by simp only [go_sem, eCluster, eNode, eMail]; exact rfl) (by rfl) (by simp only [go_sem, eCluster, eNode, eMail]; exact rfl) ?_
    simp only [go_sem, eCluster, eNode, eMail]; exact rfl) ?_
  refine CW_assoc ?_
  refine W_reg (by simp only [go_sem, eCluster, eNode, eMail]; exact rfl) ?_
  refine CW_seq ?_
  refine CW_block ?_
  refine CW_loopS (α := Nat) (fun i => [(18, .int .i64 i)]) (fun i => [(16384, .var [.ref 61440 0 i, .ref 61441 0 0, .ref 45056 0 x.wins.length, .ref 57344 0 x.seals.length]), (61440, .arr ⟨10, (x.nodes.take i).map (eNode true), 1, none⟩)]) (fun i => x.nodes.length - i) (fun i => i ≤ x.nodes.length) 0 [] ?_ ?_ ?_
  · (simp only [go_sem, eCluster, eNode, eMail])
  · first | exact Nat.zero_le _ | (simp; done) | omega
  · rintro i hI
    refine CW_eq (by simp only [go_sem, eCluster, eNode, eMail]; exact rfl) ?_
    refine W_reg (by simp only [go_sem, eCluster, eNode, eMail]; exact rfl) ?_
    refine CW_seq ?_
    refine CW_cond (by simp only [go_sem, eCluster, eNode, eMail]; exact rfl) (fun c0 => ?_) (fun c0 => ?_)
    · skip
      try simp only [Bool.not_eq_eq_eq_not, Bool.not_true, Bool.not_false, decide_eq_true_eq, decide_eq_false_iff_not, Bool.and_eq_true, Bool.or_eq_true] at c0
      refine CW_skip ?_
      refine sq_n ?_
      refine CW_seq ?_
      refine CW_block ?_
      refine W_reg (by simp only [go_sem, eCluster, eNode, eMail] <;> and_intros <;> first | with_reducible exact rfl | omega | with_reducible trivial | (intros; simp_all; done) | grind) ?_
      refine W_drwn (by
        refine DW_cut 3 (by simp only [go_sem, eCluster, eNode, eMail]; exact rfl) ?_
        refine DW_ls (by simp only [List.drop_succ_cons, List.drop_zero]; exact rfl) ?_
        refine DW_callN q_impl_Node_copied (s_impl_Node_copied (x.nodes.getD i zNode) ((all_getD zNode).2 hN i (by omega))) true [] [] [] rfl rfl (by simp only [go_sem, eCluster, eNode, eMail]; exact rfl) (by rfl) (by simp only [go_sem, eCluster, eNode, eMail]; exact rfl) ?_
        simp only [go_sem, eCluster, eNode, eMail] <;> and_intros <;> first | with_reducible exact rfl | omega | with_reducible trivial | (intros; simp_all; done) | grind) ?_
      refine bk_n ?_
      refine sq_n ?_
      refine W_regn (by simp only [go_sem, eCluster, eNode, eMail] <;> and_intros <;> first | with_reducible exact rfl | omega | with_reducible trivial | (intros; simp_all; done) | grind) ?_
      refine lp_next (i+1) [(61440,114688)] ?_ ?_ ?_
      · (simp only [go_sem, eCluster, eNode, eMail] <;> and_intros <;> first | with_reducible exact rfl | (first | omega | (rw [take_succ_map _ zNode (by omega)]; simp only [eNode])))
      · omega
      · omega
    · skip
      try simp only [Bool.not_eq_eq_eq_not, Bool.not_true, Bool.not_false, decide_eq_true_eq, decide_eq_false_iff_not, Bool.and_eq_true, Bool.or_eq_true] at c0
      obtain rfl : i = x.nodes.length := by omega
      refine CW_exit ?_
      refine sq_e ?_
      refine lp_e ?_
      refine bk_i ?_
      refine sq_n ?_
      refine CW_assoc ?_
      refine W_reg (by simp only [go_sem, eCluster, eNode, eMail]; exact rfl) ?_
      refine CW_seq ?_
      refine CW_block ?_
      refine CW_loopS (α := Nat) (fun i => [(33, .int .i64 i)]) (fun i => [(16384, .var [.ref 61440 0 x.nodes.length, .ref 61441 0 i, .ref 45056 0 x.wins.length, .ref 57344 0 x.seals.length]), (61441, .arr ⟨9, (x.mails.take i).map (eMail true), 1, none⟩)]) (fun i => x.mails.length - i) (fun i => i ≤ x.mails.length) 0 [] ?_ ?_ ?_
      · (simp only [go_sem, eCluster, eNode, eMail])
      · first | exact Nat.zero_le _ | (simp; done) | omega
      · rintro i hI
        refine CW_eq (by simp only [go_sem, eCluster, eNode, eMail]; exact rfl) ?_
        refine W_reg (by simp only [go_sem, eCluster, eNode, eMail]; exact rfl) ?_
        refine CW_seq ?_
        refine CW_cond (by simp only [go_sem, eCluster, eNode, eMail]; exact rfl) (fun c1 => ?_) (fun c1 => ?_)
        · skip
          try simp only [Bool.not_eq_eq_eq_not, Bool.not_true, Bool.not_false, decide_eq_true_eq, decide_eq_false_iff_not, Bool.and_eq_true, Bool.or_eq_true] at c1
          refine CW_skip ?_
          refine sq_n ?_
          refine CW_seq ?_
          refine CW_block ?_
          refine W_reg (by simp only [go_sem, eCluster, eNode, eMail] <;> and_intros <;> first | with_reducible exact rfl | omega | with_reducible trivial | (intros; simp_all; done) | grind) ?_
          refine W_drwn (by
            refine DW_cut 3 (by simp only [go_sem, eCluster, eNode, eMail]; exact rfl) ?_
            refine DW_ls (by simp only [List.drop_succ_cons, List.drop_zero]; exact rfl) ?_
            refine DW_callN q_impl_copiedMail (s_impl_copiedMail (x.mails.getD i zMail) ((all_getD zMail).2 hM i (by omega))) true [] [] [] rfl rfl (by simp only [go_sem, eCluster, eNode, eMail]; exact rfl) (by rfl) (by simp only [go_sem, eCluster, eNode, eMail]; exact rfl) ?_
            simp only [go_sem, eCluster, eNode, eMail] <;> and_intros <;> first | with_reducible exact rfl | omega | with_reducible trivial | (intros; simp_all; done) | grind) ?_
          refine bk_n ?_
          refine sq_n ?_
          refine W_regn (by simp only [go_sem, eCluster, eNode, eMail] <;> and_intros <;> first | with_reducible exact rfl | omega | with_reducible trivial | (intros; simp_all; done) | grind) ?_
          refine lp_next (i+1) [(61441,176128)] ?_ ?_ ?_
          · (simp only [go_sem, eCluster, eNode, eMail] <;> and_intros <;> first | with_reducible exact rfl | (first | omega | (rw [take_succ_map _ zMail (by omega)]; simp only [eMail])))
          · omega
          · omega
        · skip
          try simp only [Bool.not_eq_eq_eq_not, Bool.not_true, Bool.not_false, decide_eq_true_eq, decide_eq_false_iff_not, Bool.and_eq_true, Bool.or_eq_true] at c1
          obtain rfl : i = x.mails.length := by omega
          refine CW_exit ?_
          refine sq_e ?_
          refine lp_e ?_
          refine bk_i ?_
          refine sq_n ?_
          refine W_reg (by simp only [go_sem, eCluster, eNode, eMail]; exact rfl) ?_
          refine CW_ret ?_
          simp only [go_sem, eCluster, eNode, eMail]
end Go.H
end
section
set_option maxRecDepth 100000
set_option linter.unusedVariables false
set_option linter.unusedSimpArgs false
namespace Go.H
open Go Go.Proofs.Tryz
def c_impl_Cluster_result : SC :=
.seq (rg [
  sk 4 20480 (.alloc [.int .i64 0, .nil, .nil, .nil, .nil])] [0, 1, 4])
  (.seq (.seq (rg [
  ss 5 (.mv (.t 1)),
  ss 6 (.bin .neq (.t 5) (.i .i64 0))] [0, 1, 4, 6])
  (.cond (.t 6) (.seq (rg [
  ss 7 (.mv (.t 1)),
  ss 8 (.bld [.int .i64 0, .nil, .nil, .nil, .nil] [(0, 1, .t 7)]),
  sx (.store (.t 4) (.t 8) 5)] [4])
  (.ret))
  (.skip)))
  (.seq (rg [
  ss 9 (.mv (.t 0)),
  ss 10 (.nck (.t 9)),
  ss 11 (.load (.t 10) 4 true),
  ss 12 (.bld [.int .i64 0, .nil, .nil, .nil, .nil] [(1, 4, .t 11)]),
  sx (.store (.t 4) (.t 12) 5)] [4])
  (.ret)))
theorem b_impl_Cluster_result : ∃ c, f118.body = some c ∧ compC prog 13 c = some c_impl_Cluster_result.er ∧ drawB c c_impl_Cluster_result = true := ⟨_, rfl, by kernel_rfl, by kernel_rfl⟩
theorem r_impl_Cluster_result : cmpR prog [.cell 4 36] = some [.c 4 5 true] := by kernel_rfl
theorem q_impl_Cluster_result : callB prog F.impl_Cluster_result = true := by kernel_rfl
variable [Inv prog]
theorem s_impl_Cluster_result (x : Cluster) (c : Int) : SemX prog F.impl_Cluster_result [.one (.ptr 0 0), aI c] [.var (eCluster true x)] [.agg (eClusterResult true (resC c x))] [.var [.junk, .junk, .junk, .junk]] := by
  obtain ⟨cc, g1, g2, g3⟩ := b_impl_Cluster_result
  refine SemX.of_code func118 g1 (by rw [ntmps118]; exact g2) g3 (by rw [results118]; exact r_impl_Cluster_result) (by rw [ntmps118]; exact Nat.le_of_ble_eq_true rfl) (Nat.le_of_ble_eq_true rfl) (by simp [obOk, eCluster]) (by simp [argOk, aT, aI, aS, eClusterResult, eCluster]) ?_
  unfold c_impl_Cluster_result
  simp only [rg]
  refine W_reg (by simp only [go_sem, eClusterResult, eCluster]; exact rfl) ?_
  refine CW_assoc ?_
  refine W_reg (by simp only [go_sem, eClusterResult, eCluster]; exact rfl) ?_
  refine CW_seq ?_
  refine CW_cond (by simp only [go_sem, eClusterResult, eCluster]; exact rfl) (fun c0 => ?_) (fun c0 => ?_)
  · skip
    try simp only [b1, b2, b3, b4, b5, b6, b7] at c0
    refine W_reg (by simp only [go_sem, eClusterResult, eCluster]; exact rfl) ?_
    refine CW_ret ?_
    refine sq_r ?_
    simp only [go_sem, eClusterResult, eCluster]
    all_goals
      simp [resC, bad, zCluster, *]
  · skip
    try simp only [b1, b2, b3, b4, b5, b6, b7] at c0
    refine CW_skip ?_
    refine sq_n ?_
    refine W_reg (by simp only [go_sem, eClusterResult, eCluster]; exact rfl) ?_
    refine CW_ret ?_
    simp only [go_sem, eClusterResult, eCluster]
    all_goals
      simp [resC, bad, zCluster, *]
end Go.H
end
section
set_option maxRecDepth 100000
set_option linter.unusedVariables false
set_option linter.unusedSimpArgs false
namespace Go.H
open Go Go.Proofs.Tryz
def c_impl_CopyMail_1 : SC :=
.seq (rg [
  sk 3 16384 (.box (.t 1)),
  ss 4 (.mv (.i .i64 0))] [0, 3])
  (.seq (.seq (rg [
  ss 5 (.mv (.t 0)),
  ss 6 (.nck (.t 5)),
  ss 7 (.fad (.t 6) 1),
  ss 8 (.load (.t 7) 1 false),
  sk 9 40960 (.len (.t 8)),
  ss 10 (.bin .eql (.t 9) (.i .i64 80))] [0, 3, 10])
  (.cond (.t 10) (.seq (rg [
  ss 4 (.mv (.i .i64 2))] [4])
  (.ret))
  (.skip)))
  (.seq (.reg true [
    ⟨(some 11), .mv (.t 0), none, [0], 0, 0, [], [], [], []⟩,
    ⟨(some 12), .mv (.t 0), none, [0], 0, 0, [], [], [], []⟩,
    ⟨(some 13), .nck (.t 12), none, [12], 0, 0, [], [], [], []⟩,
    ⟨(some 14), .fad (.t 13) 1, none, [13], 0, 0, [], [], [], []⟩,
    ⟨(some 15), .load (.t 14) 1 false, none, [14], 0, 0, [], [], [1000000], []⟩,
    ⟨(some 16), .load (.t 3) 9 true, none, [3], 0, 0, [], [], [16384], []⟩,
    ⟨(some 17), .call (.f F.impl_copiedMail) [(.t 16, none)], none, [16], 0, 73728, [], [], [], [73736]⟩,
    ⟨(some 18), .bsl [.int .i64 0, .int .i64 0, .int .i64 0, .int .i64 0, .int .i64 0, .int .i64 0, .int .i64 0, .bool false, .nil] 1 [(0, .t 17)], none, [17], 0, 77824, (dMail true), [], [73736], [77824, 73736]⟩,
    ⟨(some 19), .app false (.t 15) (.t 18) 9 88, none, [15, 18], 2, 81920, [], [], [1000002, 77824], [81920, 1000002, 77824]⟩,
    ⟨(some 20), .nck (.t 11), none, [11], 0, 0, [], [], [], []⟩,
    ⟨(some 21), .fad (.t 20) 1, none, [20], 0, 0, [], [], [], []⟩,
    ⟨none, .store (.t 21) (.t 19) 1, none, [21, 19], 0, 0, [], [], [1000000], [1000000]⟩] (some ([], [])))
  (.seq (rg [
  ss 4 (.mv (.i .i64 0))] [4])
  (.ret))))
theorem b_impl_CopyMail_1 : ∃ c, f59.body = some c ∧ compC prog 22 c = some c_impl_CopyMail_1.er ∧ drawB c c_impl_CopyMail_1 = true := ⟨_, rfl, by kernel_rfl, by kernel_rfl⟩
theorem r_impl_CopyMail_1 : cmpR prog [.tmp 4] = some [.t 4] := by kernel_rfl
theorem q_impl_CopyMail_1 : callB prog F.impl_CopyMail_1 = true := by kernel_rfl
variable [Inv prog]
theorem s_impl_CopyMail_1 (N R W S : List (List T)) (m : Mail) (hm : limM 2097152 m) (hR : R.length ≤ 2097152) : SemX prog F.impl_CopyMail_1 [.one (.ptr 0 0), aS (eMail false m)] [.var [.sl true 10 N, .sl true 9 R, .sl true 2 W, .sl true 10 S]] [rI (if R.length = 80 then 2 else 0)] [.var [.sl true 10 N, .sl true 9 (if R.length = 80 then R else R ++ [eMail true m]), .sl true 2 W, .sl true 10 S]] := by
  obtain ⟨cc, g1, g2, g3⟩ := b_impl_CopyMail_1
  refine SemX.of_code func59 g1 (by rw [ntmps59]; exact g2) g3 (by rw [results59]; exact r_impl_CopyMail_1) (by rw [ntmps59]; exact Nat.le_of_ble_eq_true rfl) (Nat.le_of_ble_eq_true rfl) (by simp [obOk]) (by simp [argOk, aT, aI, aS, eMail]) ?_
  unfold c_impl_CopyMail_1
  simp only [rg]
  refine W_reg (by simp only [go_sem, eMail]; exact rfl) ?_
  refine CW_assoc ?_
  refine W_reg (by simp only [go_sem, eMail]; exact rfl) ?_
  refine CW_seq ?_
  refine CW_cond (by simp only [go_sem, eMail]; exact rfl) (fun c0 => ?_) (fun c0 => ?_)
  · skip
    try simp only [b1, b2, b3, b4, b5, b6, b7] at c0
    refine W_reg (by simp only [go_sem, eMail]; exact rfl) ?_
    refine CW_ret ?_
    refine sq_r ?_
    simp only [go_sem, eMail]
    all_goals
      have hc : R.length = 80 := by omega
      simp [hc, List.take_of_length_le]
  · skip
    try simp only [b1, b2, b3, b4, b5, b6, b7] at c0
    refine CW_skip ?_
    refine sq_n ?_
    refine W_drw (by
      refine DW_cut 6 (by simp only [go_sem, eMail]; exact rfl) ?_
      refine DW_ls (by simp only [List.drop_succ_cons, List.drop_zero]; exact rfl) ?_
      refine DW_callN q_impl_copiedMail (s_impl_copiedMail m hm) true [] [] [] rfl rfl (by simp only [go_sem, eMail]; exact rfl) (by rfl) (by simp only [go_sem, eMail]; exact rfl) ?_
      simp only [go_sem, eMail] <;> and_intros <;> first | with_reducible exact rfl | omega | with_reducible trivial | (intros; simp_all; done) | grind) ?_
    refine W_reg (by simp only [go_sem, eMail]; exact rfl) ?_
    refine CW_ret ?_
    simp only [go_sem, eMail]
    all_goals
      have hc : ¬ R.length = 80 := by omega
      simp [hc, List.take_of_length_le]
theorem s_impl_CopyMail_1a (N R W S : List (List T)) (m : Mail) (hm : limM 2097152 m) (hR : R.length = 80) : SemX prog F.impl_CopyMail_1 [.one (.ptr 0 0), aS (eMail false m)] [.var [.sl true 10 N, .sl true 9 R, .sl true 2 W, .sl true 10 S]] [rI 2] [.var [.sl true 10 N, .sl true 9 R, .sl true 2 W, .sl true 10 S]] := by
  have := s_impl_CopyMail_1 N R W S m hm (by omega)
  simpa only [hR, if_true] using this
theorem s_impl_CopyMail_1b (N R W S : List (List T)) (m : Mail) (hm : limM 2097152 m) (hl : R.length ≤ 2097152) (hR : R.length ≠ 80) : SemX prog F.impl_CopyMail_1 [.one (.ptr 0 0), aS (eMail false m)] [.var [.sl true 10 N, .sl true 9 R, .sl true 2 W, .sl true 10 S]] [rI 0] [.var [.sl true 10 N, .sl true 9 (R ++ [eMail true m]), .sl true 2 W, .sl true 10 S]] := by
  have := s_impl_CopyMail_1 N R W S m hm hl
  simpa only [hR, if_false] using this
end Go.H
end
section
set_option maxRecDepth 100000
set_option linter.unusedVariables false
set_option linter.unusedSimpArgs false
namespace Go.H
open Go Go.Proofs.Tryz
def c_impl_onMail : SC :=
.seq (rg [
  sk 3 16384 (.box (.t 0)),
  sk 6 28672 (.alloc [.int .i64 0, .nil, .nil, .nil, .nil])] [1, 2, 3, 6])
  (.seq (rg [
  ss 9 (.load (.t 3) 4 true),
  sk 10 45056 (.call (.f F.impl_ClusterFault) [(.t 9, none)]),
  ss 7 (.mv (.t 10))] [1, 2, 3, 6, 7])
  (.seq (.seq (rg [
  ss 11 (.mv (.t 7)),
  ss 12 (.bin .eql (.t 11) (.i .i64 0)),
  ss 13 (.mv (.t 12)),
  sg 14 (.mv (.t 1)) 13 true [],
  sg 15 (.fad (.t 3) 1) 13 true [],
  sg 16 (.load (.t 15) 1 false) 13 true [15],
  ⟨(some 17), .call (.f F.impl_size_Mail) [(.t 16, none)], (some (13, true)), [], 0, 73728, [], [16], [], []⟩,
  ⟨(some 18), .bin .sub (.t 17) (.i .i64 1), (some (13, true)), [], 1, 0, [], [17], [], []⟩,
  ⟨(some 19), .call (.f F.impl_in) [(.t 14, none), (.i .i64 0, none), (.t 18, none)], (some (13, true)), [], 0, 81920, [], [14, 18], [], []⟩,
  sg 20 (.not (.t 19)) 13 true [19],
  ss 21 (.pick (.t 13) (.t 20) (.b false))] [1, 2, 3, 6, 7, 21])
  (.cond (.t 21) (rg [
  ss 7 (.mv (.i .i64 3))] [1, 2, 3, 6, 7])
  (.skip)))
  (.seq (.seq (rg [
  ss 22 (.mv (.t 7)),
  ss 23 (.bin .neq (.t 22) (.i .i64 0))] [1, 2, 3, 6, 7, 23])
  (.cond (.t 23) (.seq (rg [
  ss 24 (.mv (.t 7)),
  ss 25 (.bld [.int .i64 0, .nil, .nil, .nil, .nil] [(0, 1, .t 24)]),
  sx (.store (.t 6) (.t 25) 5)] [6])
  (.ret))
  (.skip)))
  (.seq (rg [
  ss 26 (.load (.t 3) 4 true),
  sk 27 114688 (.call (.f F.impl_Cluster_copied) [(.t 26, none)]),
  sk 8 36864 (.alloc [.nil, .nil, .nil, .nil]),
  sx (.store (.t 8) (.t 27) 4)] [1, 2, 6, 8])
  (.seq (rg [
  ss 28 (.mv (.t 2)),
  ss 29 (.fad (.t 8) 1),
  ss 30 (.load (.t 29) 1 false),
  ss 31 (.mv (.t 1)),
  sd (some 32) 0 0 (dMail false) (.idx (.t 30) (.t 31) 9),
  ⟨(some 33), .load (.t 32) 9 true, none, [], 5, 139264, (dMail true), [8], [], []⟩,
  sk 34 143360 (.call (.t 28) [(.t 8, some 4), (.t 33, none)]),
  sk 35 147456 (.call (.f F.impl_Cluster_result) [(.t 8, none), (.t 34, none)]),
  sx (.store (.t 6) (.t 35) 5)] [6])
  (.ret))))))
theorem b_impl_onMail : ∃ c, f58.body = some c ∧ compC prog 36 c = some c_impl_onMail.er ∧ drawB c c_impl_onMail = true := ⟨_, rfl, by kernel_rfl, by kernel_rfl⟩
theorem r_impl_onMail : cmpR prog [.cell 6 36] = some [.c 6 5 true] := by kernel_rfl
theorem q_impl_onMail : callB prog F.impl_onMail = true := by kernel_rfl
variable [Inv prog]
theorem s_impl_onMail_copyA (x : Cluster) (hx : limC 2097152 x) (p : Int) (h80 : x.mails.length = 80) : SemX prog F.impl_onMail [aS (eCluster false x), aI p, .one (.fn F.impl_CopyMail_1 [])] [] [.agg (eClusterResult true (copyMail x p))] [] := by
  obtain ⟨cc, g1, g2, g3⟩ := b_impl_onMail
  refine SemX.of_code func58 g1 (by rw [ntmps58]; exact g2) g3 (by rw [results58]; exact r_impl_onMail) (by rw [ntmps58]; exact Nat.le_of_ble_eq_true rfl) (Nat.le_of_ble_eq_true rfl) (by simp) (by simp [argOk, aT, aI, aS, eClusterResult, eCluster, eMail, rowV]) ?_
  unfold c_impl_onMail
  simp only [rg]
  obtain ⟨⟨hn, hN⟩, ⟨hm, hM⟩, hw, hs⟩ := id hx
  refine W_reg (by simp only [go_sem, eClusterResult, eCluster, eMail, rowV]; exact rfl) ?_
  refine W_reg (by
    refine RW_cut 1 (by simp only [go_sem, eClusterResult, eCluster, eMail, rowV]; exact rfl) ?_
    refine RW_ls (by simp only [List.drop_succ_cons, List.drop_zero]; exact rfl) ?_
    refine RW_callN q_impl_ClusterFault (s_impl_ClusterFault x hx) true [] [] [] rfl rfl (by simp only [go_sem, eClusterResult, eCluster, eMail, rowV]; exact rfl) (by rfl) (by simp only [go_sem, eClusterResult, eCluster, eMail, rowV]; exact rfl) ?_
    simp only [go_sem, eClusterResult, eCluster, eMail, rowV]; exact rfl) ?_
  refine CW_assoc ?_
  refine W_reg (by
    refine RW_cut 6 (by simp only [go_sem, eClusterResult, eCluster, eMail, rowV]; exact rfl) ?_
    refine RW_ls (by simp only [List.drop_succ_cons, List.drop_zero]; exact rfl) ?_
    refine RW_callGN q_impl_size_Mail (s_impl_size_Mail (x.mails.map (eMail false))) true rfl rfl (by simp only [go_sem, eClusterResult, eCluster, eMail, rowV]; exact rfl) (fun _ => (by simp only [go_sem, eClusterResult, eCluster, eMail, rowV]; exact rfl)) (by simp only [go_sem, eClusterResult, eCluster, eMail, rowV]; exact rfl) ?_
    refine RW_cut 1 (by simp only [go_sem, eClusterResult, eCluster, eMail, rowV] <;> and_intros <;> first | with_reducible exact rfl | omega | with_reducible trivial | (intros; simp_all; done) | grind) ?_
    refine RW_ls (by simp only [List.drop_succ_cons, List.drop_zero]; exact rfl) ?_
    refine RW_callGN q_impl_in (s_impl_in p 0 (x.mails.length - 1)) true rfl rfl (by simp only [go_sem, eClusterResult, eCluster, eMail, rowV]; exact rfl) (fun _ => (by simp only [go_sem, eClusterResult, eCluster, eMail, rowV]; exact rfl)) (by simp only [go_sem, eClusterResult, eCluster, eMail, rowV]; exact rfl) ?_
    simp only [go_sem, eClusterResult, eCluster, eMail, rowV]; exact rfl) ?_
  refine CW_seq ?_
  refine CW_cond (by simp only [go_sem, eClusterResult, eCluster, eMail, rowV]; exact rfl) (fun c0 => ?_) (fun c0 => ?_)
  · skip
    skip
    refine W_regn (by simp only [go_sem, eClusterResult, eCluster, eMail, rowV]; exact rfl) ?_
    refine sq_n ?_
    refine CW_assoc ?_
    refine W_reg (by simp only [go_sem, eClusterResult, eCluster, eMail, rowV]; exact rfl) ?_
    refine CW_seq ?_
    refine CW_cond (by simp only [go_sem, eClusterResult, eCluster, eMail, rowV]; exact rfl) (fun c1 => ?_) (fun c1 => ?_)
    · skip
      skip
      refine W_reg (by simp only [go_sem, eClusterResult, eCluster, eMail, rowV]; exact rfl) ?_
      refine CW_ret ?_
      refine sq_r ?_
      simp only [go_sem, eClusterResult, eCluster, eMail, rowV]
      all_goals
        have he : copyMail x p = bad 3 := by unfold copyMail mailGuard; grind
        simp [he, bad, zCluster]
    · skip
      cases c1
  · skip
    skip
    refine CW_skip ?_
    refine sq_n ?_
    refine CW_assoc ?_
    refine W_reg (by simp only [go_sem, eClusterResult, eCluster, eMail, rowV]; exact rfl) ?_
    refine CW_seq ?_
    refine CW_cond (by simp only [go_sem, eClusterResult, eCluster, eMail, rowV]; exact rfl) (fun c1 => ?_) (fun c1 => ?_)
    · skip
      try simp only [Bool.not_eq_eq_eq_not, Bool.not_true, Bool.not_false, decide_eq_true_eq, decide_eq_false_iff_not, Bool.and_eq_true, Bool.or_eq_true] at c1
      refine W_reg (by simp only [go_sem, eClusterResult, eCluster, eMail, rowV]; exact rfl) ?_
      refine CW_ret ?_
      refine sq_r ?_
      simp only [go_sem, eClusterResult, eCluster, eMail, rowV]
      all_goals
        have he : copyMail x p = bad (clusterFault x) := by unfold copyMail mailGuard; grind
        simp [he, bad, zCluster]
    · skip
      try simp only [Bool.not_eq_eq_eq_not, Bool.not_true, Bool.not_false, decide_eq_true_eq, decide_eq_false_iff_not, Bool.and_eq_true, Bool.or_eq_true] at c1
      have c0n : mailGuard x p = 0 := by unfold mailGuard; grind
      obtain ⟨hcf, n, rfl, hn2⟩ := guard_iff c0n
      have hg := fun r d => getD_set_self (l := x.mails.map (eMail true)) (i := n) (by simp; omega) r d
      have hgB := fun r l d => getD_set_app (l := x.mails.map (eMail true)) (i := n) (by simp; omega) r l d
      have hsB := fun r r2 l => set_app (l := x.mails.map (eMail true)) (i := n) (by simp; omega) r r2 l
      have hs0 := set_getD_map (eMail true) zMail hn2
      have hs1 := snoc_map (eMail true) x.mails (x.mails.getD n zMail)
      simp only [eMail] at hs0 hs1
      refine CW_skip ?_
      refine sq_n ?_
      refine W_reg (by
        refine RW_cut 1 (by simp only [go_sem, eClusterResult, eCluster, eMail, rowV, hg, hgB, hsB, hs0, hs1, List.set_set]; exact rfl) ?_
        refine RW_ls (by simp only [List.drop_succ_cons, List.drop_zero]; exact rfl) ?_
        refine RW_callN q_impl_Cluster_copied (s_impl_Cluster_copied x hx) true [] [] [] rfl rfl (by simp only [go_sem, eClusterResult, eCluster, eMail, rowV, hg, hgB, hsB, hs0, hs1, List.set_set]; exact rfl) (by rfl) (by simp only [go_sem, eClusterResult, eCluster, eMail, rowV, hg, hgB, hsB, hs0, hs1, List.set_set]; exact rfl) ?_
        simp only [go_sem, eClusterResult, eCluster, eMail, rowV, hg, hgB, hsB, hs0, hs1, List.set_set]; exact rfl) ?_
      refine CW_seq (CW_reg ?_)
      refine RW_cut 5 (by simp only [go_sem, eClusterResult, eCluster, eMail, rowV, hg, hgB, hsB, hs0, hs1, List.set_set] <;> and_intros <;> first | with_reducible exact rfl | omega | with_reducible trivial | (intros; simp_all; done) | grind) ?_
      refine RW_ls (by simp only [List.drop_succ_cons, List.drop_zero]; exact rfl) ?_
      refine RW_takeVN _ _ rfl rfl rfl (by simp only [go_sem, eClusterResult, eCluster, eMail, rowV, hg, hgB, hsB, hs0, hs1, List.set_set] <;> and_intros <;> first | with_reducible exact rfl | (first | (intro v0; exact ⟨v0, rfl⟩) | (first | with_reducible exact rfl | omega | with_reducible trivial | (intros; simp_all; done) | grind))) (fun _ => rfl) (fun v0 => by simp only [go_sem, eClusterResult, eCluster, eMail, rowV, hg, hgB, hsB, hs0, hs1, List.set_set]; exact rfl) (fun v => ?_)
      refine RW_callVN 33 8 144385 n 8 (dMail true) q_impl_CopyMail_1 (s_impl_CopyMail_1a (x.nodes.map (eNode true)) ((x.mails.map (eMail true)).set n (rowV (x.mails.getD n zMail) v)) (x.wins.map eWon) (x.seals.map eSeal) (x.mails.getD n zMail) ((all_getD zMail).2 hM n (by omega)) (by simpa using h80)) true [36864] [] [114688, 114689, 114690, 114691] rfl rfl (by simp only [go_sem, eClusterResult, eCluster, eMail, rowV, hg, hgB, hsB, hs0, hs1, List.set_set] <;> and_intros <;> first | with_reducible exact rfl | (first | omega | with_reducible assumption | (refine noShR_set ?_ ?_ <;> simp [noShR_Mail, T.noShL, T.noSh, noShR_Entry]) | grind)) rfl (by simp only [go_sem, eClusterResult, eCluster, eMail, rowV, hg, hgB, hsB, hs0, hs1, List.set_set] <;> and_intros <;> first | with_reducible exact rfl | (first | omega | with_reducible assumption | (refine noShR_set ?_ ?_ <;> simp [noShR_Mail, T.noShL, T.noSh, noShR_Entry]) | grind)) (by rfl) (by simp only [go_sem, eClusterResult, eCluster, eMail, rowV, hg, hgB, hsB, hs0, hs1, List.set_set]; exact rfl) ?_
      refine RW_callN q_impl_Cluster_result (s_impl_Cluster_result x 2) true [36864] [] [144384, 144385, 144386, 144387] rfl rfl (by simp only [go_sem, eClusterResult, eCluster, eMail, rowV, hg, hgB, hsB, hs0, hs1, List.set_set]; exact rfl) (by simp only [go_sem]) (by simp only [go_sem, eClusterResult, eCluster, eMail, rowV, hg, hgB, hsB, hs0, hs1, List.set_set]; exact rfl) ?_
      refine RW_cut 1 (by simp only [go_sem, eClusterResult, eCluster, eMail, rowV, hg, hgB, hsB, hs0, hs1, List.set_set]; exact rfl) ?_
      refine RW_nil ?_
      refine sq_n ?_
      refine CW_eq (by simp only [go_sem, eClusterResult, eCluster, eMail, rowV, hg, hgB, hsB, hs0, hs1, List.set_set]; exact rfl) ?_
      refine CW_ret ?_
      simp only [go_sem, eClusterResult, eCluster, eMail, rowV, hg, hgB, hsB, hs0, hs1, List.set_set]
      all_goals
        have he : copyMail x n = bad 2 := by unfold copyMail; rw [if_neg (by omega), if_pos (by omega)]
        simp [he, resC, bad, zCluster]
theorem s_impl_onMail_copyB (x : Cluster) (hx : limC 2097152 x) (p : Int) (h80 : x.mails.length ≠ 80) : SemX prog F.impl_onMail [aS (eCluster false x), aI p, .one (.fn F.impl_CopyMail_1 [])] [] [.agg (eClusterResult true (copyMail x p))] [] := by
  obtain ⟨cc, g1, g2, g3⟩ := b_impl_onMail
  refine SemX.of_code func58 g1 (by rw [ntmps58]; exact g2) g3 (by rw [results58]; exact r_impl_onMail) (by rw [ntmps58]; exact Nat.le_of_ble_eq_true rfl) (Nat.le_of_ble_eq_true rfl) (by simp) (by simp [argOk, aT, aI, aS, eClusterResult, eCluster, eMail, rowV]) ?_
  unfold c_impl_onMail
  simp only [rg]
  obtain ⟨⟨hn, hN⟩, ⟨hm, hM⟩, hw, hs⟩ := id hx
  refine W_reg (by simp only [go_sem, eClusterResult, eCluster, eMail, rowV]; exact rfl) ?_
  refine W_reg (by
    refine RW_cut 1 (by simp only [go_sem, eClusterResult, eCluster, eMail, rowV]; exact rfl) ?_
    refine RW_ls (by simp only [List.drop_succ_cons, List.drop_zero]; exact rfl) ?_
    refine RW_callN q_impl_ClusterFault (s_impl_ClusterFault x hx) true [] [] [] rfl rfl (by simp only [go_sem, eClusterResult, eCluster, eMail, rowV]; exact rfl) (by rfl) (by simp only [go_sem, eClusterResult, eCluster, eMail, rowV]; exact rfl) ?_
    simp only [go_sem, eClusterResult, eCluster, eMail, rowV]; exact rfl) ?_
  refine CW_assoc ?_
  refine W_reg (by
    refine RW_cut 6 (by simp only [go_sem, eClusterResult, eCluster, eMail, rowV]; exact rfl) ?_
    refine RW_ls (by simp only [List.drop_succ_cons, List.drop_zero]; exact rfl) ?_
    refine RW_callGN q_impl_size_Mail (s_impl_size_Mail (x.mails.map (eMail false))) true rfl rfl (by simp only [go_sem, eClusterResult, eCluster, eMail, rowV]; exact rfl) (fun _ => (by simp only [go_sem, eClusterResult, eCluster, eMail, rowV]; exact rfl)) (by simp only [go_sem, eClusterResult, eCluster, eMail, rowV]; exact rfl) ?_
    refine RW_cut 1 (by simp only [go_sem, eClusterResult, eCluster, eMail, rowV] <;> and_intros <;> first | with_reducible exact rfl | omega | with_reducible trivial | (intros; simp_all; done) | grind) ?_
    refine RW_ls (by simp only [List.drop_succ_cons, List.drop_zero]; exact rfl) ?_
    refine RW_callGN q_impl_in (s_impl_in p 0 (x.mails.length - 1)) true rfl rfl (by simp only [go_sem, eClusterResult, eCluster, eMail, rowV]; exact rfl) (fun _ => (by simp only [go_sem, eClusterResult, eCluster, eMail, rowV]; exact rfl)) (by simp only [go_sem, eClusterResult, eCluster, eMail, rowV]; exact rfl) ?_
    simp only [go_sem, eClusterResult, eCluster, eMail, rowV]; exact rfl) ?_
  refine CW_seq ?_
  refine CW_cond (by simp only [go_sem, eClusterResult, eCluster, eMail, rowV]; exact rfl) (fun c0 => ?_) (fun c0 => ?_)
  · skip
    skip
    refine W_regn (by simp only [go_sem, eClusterResult, eCluster, eMail, rowV]; exact rfl) ?_
    refine sq_n ?_
    refine CW_assoc ?_
    refine W_reg (by simp only [go_sem, eClusterResult, eCluster, eMail, rowV]; exact rfl) ?_
    refine CW_seq ?_
    refine CW_cond (by simp only [go_sem, eClusterResult, eCluster, eMail, rowV]; exact rfl) (fun c1 => ?_) (fun c1 => ?_)
    · skip
      skip
      refine W_reg (by simp only [go_sem, eClusterResult, eCluster, eMail, rowV]; exact rfl) ?_
      refine CW_ret ?_
      refine sq_r ?_
      simp only [go_sem, eClusterResult, eCluster, eMail, rowV]
      all_goals
        have he : copyMail x p = bad 3 := by unfold copyMail mailGuard; grind
        simp [he, bad, zCluster]
    · skip
      cases c1
  · skip
    skip
    refine CW_skip ?_
    refine sq_n ?_
    refine CW_assoc ?_
    refine W_reg (by simp only [go_sem, eClusterResult, eCluster, eMail, rowV]; exact rfl) ?_
    refine CW_seq ?_
    refine CW_cond (by simp only [go_sem, eClusterResult, eCluster, eMail, rowV]; exact rfl) (fun c1 => ?_) (fun c1 => ?_)
    · skip
      try simp only [Bool.not_eq_eq_eq_not, Bool.not_true, Bool.not_false, decide_eq_true_eq, decide_eq_false_iff_not, Bool.and_eq_true, Bool.or_eq_true] at c1
      refine W_reg (by simp only [go_sem, eClusterResult, eCluster, eMail, rowV]; exact rfl) ?_
      refine CW_ret ?_
      refine sq_r ?_
      simp only [go_sem, eClusterResult, eCluster, eMail, rowV]
      all_goals
        have he : copyMail x p = bad (clusterFault x) := by unfold copyMail mailGuard; grind
        simp [he, bad, zCluster]
    · skip
      try simp only [Bool.not_eq_eq_eq_not, Bool.not_true, Bool.not_false, decide_eq_true_eq, decide_eq_false_iff_not, Bool.and_eq_true, Bool.or_eq_true] at c1
      have c0n : mailGuard x p = 0 := by unfold mailGuard; grind
      obtain ⟨hcf, n, rfl, hn2⟩ := guard_iff c0n
      have hg := fun r d => getD_set_self (l := x.mails.map (eMail true)) (i := n) (by simp; omega) r d
      have hgB := fun r l d => getD_set_app (l := x.mails.map (eMail true)) (i := n) (by simp; omega) r l d
      have hsB := fun r r2 l => set_app (l := x.mails.map (eMail true)) (i := n) (by simp; omega) r r2 l
      have hs0 := set_getD_map (eMail true) zMail hn2
      have hs1 := snoc_map (eMail true) x.mails (x.mails.getD n zMail)
      simp only [eMail] at hs0 hs1
      refine CW_skip ?_
      refine sq_n ?_
      refine W_reg (by
        refine RW_cut 1 (by simp only [go_sem, eClusterResult, eCluster, eMail, rowV, hg, hgB, hsB, hs0, hs1, List.set_set]; exact rfl) ?_
        refine RW_ls (by simp only [List.drop_succ_cons, List.drop_zero]; exact rfl) ?_
        refine RW_callN q_impl_Cluster_copied (s_impl_Cluster_copied x hx) true [] [] [] rfl rfl (by simp only [go_sem, eClusterResult, eCluster, eMail, rowV, hg, hgB, hsB, hs0, hs1, List.set_set]; exact rfl) (by rfl) (by simp only [go_sem, eClusterResult, eCluster, eMail, rowV, hg, hgB, hsB, hs0, hs1, List.set_set]; exact rfl) ?_
        simp only [go_sem, eClusterResult, eCluster, eMail, rowV, hg, hgB, hsB, hs0, hs1, List.set_set]; exact rfl) ?_
      refine CW_seq (CW_reg ?_)
      refine RW_cut 5 (by simp only [go_sem, eClusterResult, eCluster, eMail, rowV, hg, hgB, hsB, hs0, hs1, List.set_set] <;> and_intros <;> first | with_reducible exact rfl | omega | with_reducible trivial | (intros; simp_all; done) | grind) ?_
      refine RW_ls (by simp only [List.drop_succ_cons, List.drop_zero]; exact rfl) ?_
      refine RW_takeVN _ _ rfl rfl rfl (by simp only [go_sem, eClusterResult, eCluster, eMail, rowV, hg, hgB, hsB, hs0, hs1, List.set_set] <;> and_intros <;> first | with_reducible exact rfl | (first | (intro v0; exact ⟨v0, rfl⟩) | (first | with_reducible exact rfl | omega | with_reducible trivial | (intros; simp_all; done) | grind))) (fun _ => rfl) (fun v0 => by simp only [go_sem, eClusterResult, eCluster, eMail, rowV, hg, hgB, hsB, hs0, hs1, List.set_set]; exact rfl) (fun v => ?_)
      refine RW_callVN 33 8 144385 n 8 (dMail true) q_impl_CopyMail_1 (s_impl_CopyMail_1b (x.nodes.map (eNode true)) ((x.mails.map (eMail true)).set n (rowV (x.mails.getD n zMail) v)) (x.wins.map eWon) (x.seals.map eSeal) (x.mails.getD n zMail) ((all_getD zMail).2 hM n (by omega)) (by simp; omega) (by simpa using h80)) true [36864] [] [114688, 114689, 114690, 114691] rfl rfl (by simp only [go_sem, eClusterResult, eCluster, eMail, rowV, hg, hgB, hsB, hs0, hs1, List.set_set] <;> and_intros <;> first | with_reducible exact rfl | (first | omega | with_reducible assumption | (refine noShR_set ?_ ?_ <;> simp [noShR_Mail, T.noShL, T.noSh, noShR_Entry]) | grind)) rfl (by simp only [go_sem, eClusterResult, eCluster, eMail, rowV, hg, hgB, hsB, hs0, hs1, List.set_set] <;> and_intros <;> first | with_reducible exact rfl | (first | omega | with_reducible assumption | (refine noShR_set ?_ ?_ <;> simp [noShR_Mail, T.noShL, T.noSh, noShR_Entry]) | grind)) (by rfl) (by simp only [go_sem, eClusterResult, eCluster, eMail, rowV, hg, hgB, hsB, hs0, hs1, List.set_set]; exact rfl) ?_
      refine RW_callN q_impl_Cluster_result (s_impl_Cluster_result { x with mails := x.mails ++ [(x.mails.getD n zMail)] } 0) true [36864] [] [144384, 144385, 144386, 144387] rfl rfl (by simp only [go_sem, eClusterResult, eCluster, eMail, rowV, hg, hgB, hsB, hs0, hs1, List.set_set] <;> and_intros <;> first | with_reducible exact rfl | omega | with_reducible trivial | (intros; simp_all; done) | grind) (by simp only [go_sem]) (by simp only [go_sem, eClusterResult, eCluster, eMail, rowV, hg, hgB, hsB, hs0, hs1, List.set_set]; exact rfl) ?_
      refine RW_cut 1 (by simp only [go_sem, eClusterResult, eCluster, eMail, rowV, hg, hgB, hsB, hs0, hs1, List.set_set]; exact rfl) ?_
      refine RW_nil ?_
      refine sq_n ?_
      refine CW_eq (by simp only [go_sem, eClusterResult, eCluster, eMail, rowV, hg, hgB, hsB, hs0, hs1, List.set_set]; exact rfl) ?_
      refine CW_ret ?_
      simp only [go_sem, eClusterResult, eCluster, eMail, rowV, hg, hgB, hsB, hs0, hs1, List.set_set]
      all_goals
        have he : copyMail x n = ⟨0, { x with mails := x.mails ++ [x.mails.getD n zMail] }⟩ := by
          have : x.mails.length ≤ 80 := mails_le hcf
          unfold copyMail; rw [if_neg (by omega), if_neg (by omega)]; rfl
        simp [he, resC, eMail, List.take_of_length_le]
theorem s_impl_onMail_copy (x : Cluster) (hx : limC 2097152 x) (p : Int) : SemX prog F.impl_onMail [aS (eCluster false x), aI p, .one (.fn F.impl_CopyMail_1 [])] [] [.agg (eClusterResult true (copyMail x p))] [] := by
  by_cases h : x.mails.length = 80
  · exact s_impl_onMail_copyA x hx p h
  · exact s_impl_onMail_copyB x hx p h
end Go.H
end
section
set_option maxRecDepth 100000
set_option linter.unusedVariables false
set_option linter.unusedSimpArgs false
namespace Go.H
open Go Go.Proofs.Tryz
def c_impl_CopyMail : SC :=
.seq (rg [
  sk 2 12288 (.box (.t 0)),
  sk 4 20480 (.alloc [.int .i64 0, .nil, .nil, .nil, .nil])] [1, 2, 4])
  (.seq (rg [
  ss 5 (.load (.t 2) 4 true),
  ss 6 (.mv (.t 1)),
  sk 7 32768 (.call (.f F.impl_onMail) [(.t 5, none), (.t 6, none), (.f F.impl_CopyMail_1, none)]),
  sx (.store (.t 4) (.t 7) 5)] [4])
  (.ret))
theorem b_impl_CopyMail : ∃ c, f14.body = some c ∧ compC prog 8 c = some c_impl_CopyMail.er ∧ drawB c c_impl_CopyMail = true := ⟨_, rfl, by kernel_rfl, by kernel_rfl⟩
theorem r_impl_CopyMail : cmpR prog [.cell 4 36] = some [.c 4 5 true] := by kernel_rfl
theorem q_impl_CopyMail : callB prog F.impl_CopyMail = true := by kernel_rfl
variable [Inv prog]
theorem s_impl_CopyMail (x : Cluster) (hx : limC 2097152 x) (p : Int) : SemX prog F.impl_CopyMail [aS (eCluster false x), aI p] [] [.agg (eClusterResult true (copyMail x p))] [] := by
  obtain ⟨cc, g1, g2, g3⟩ := b_impl_CopyMail
  refine SemX.of_code func14 g1 (by rw [ntmps14]; exact g2) g3 (by rw [results14]; exact r_impl_CopyMail) (by rw [ntmps14]; exact Nat.le_of_ble_eq_true rfl) (Nat.le_of_ble_eq_true rfl) (by simp) (by simp [argOk, aT, aI, aS, eClusterResult, eCluster]) ?_
  unfold c_impl_CopyMail
  simp only [rg]
  refine W_reg (by simp only [go_sem, eClusterResult, eCluster]; exact rfl) ?_
  refine W_reg (by
    refine RW_cut 2 (by simp only [go_sem, eClusterResult, eCluster]; exact rfl) ?_
    refine RW_ls (by simp only [List.drop_succ_cons, List.drop_zero]; exact rfl) ?_
    refine RW_callN q_impl_onMail (s_impl_onMail_copy x hx p) true [] [] [] rfl rfl (by simp only [go_sem, eClusterResult, eCluster]; exact rfl) (by rfl) (by simp only [go_sem, eClusterResult, eCluster]; exact rfl) ?_
    simp only [go_sem, eClusterResult, eCluster]; exact rfl) ?_
  refine CW_ret ?_
  simp only [go_sem, eClusterResult, eCluster]
end Go.H
end
section
set_option maxRecDepth 100000
set_option linter.unusedVariables false
set_option linter.unusedSimpArgs false
namespace Go.H
open Go Go.Proofs.Tryz
def c_laws_eqCmd : SC :=
.seq (rg [
  sk 2 12288 (.box (.t 0)),
  sk 3 16384 (.box (.t 1)),
  ss 4 (.mv (.b false))] [2, 3])
  (.seq (.seq (rg [
  ss 5 (.fad (.t 2) 0),
  ss 6 (.load (.t 5) 1 false),
  ss 7 (.fad (.t 3) 0),
  ss 8 (.load (.t 7) 1 false),
  ss 9 (.bin .neq (.t 6) (.t 8))] [2, 3, 9])
  (.cond (.t 9) (.seq (rg [
  ss 4 (.mv (.b false))] [4])
  (.ret))
  (.skip)))
  (.seq (.seq (rg [
  ss 10 (.fad (.t 2) 1),
  ss 11 (.load (.t 10) 1 false),
  ss 12 (.fad (.t 3) 1),
  ss 13 (.load (.t 12) 1 false),
  ss 14 (.bin .neq (.t 11) (.t 13))] [2, 3, 14])
  (.cond (.t 14) (.seq (rg [
  ss 4 (.mv (.b false))] [4])
  (.ret))
  (.skip)))
  (.seq (.seq (rg [
  ss 15 (.fad (.t 2) 2),
  ss 16 (.load (.t 15) 1 false),
  ss 17 (.fad (.t 3) 2),
  ss 18 (.load (.t 17) 1 false),
  ss 19 (.bin .neq (.t 16) (.t 18))] [2, 3, 19])
  (.cond (.t 19) (.seq (rg [
  ss 4 (.mv (.b false))] [4])
  (.ret))
  (.skip)))
  (.seq (.seq (rg [
  ss 20 (.fad (.t 2) 3),
  ss 21 (.load (.t 20) 1 false),
  ss 22 (.fad (.t 3) 3),
  ss 23 (.load (.t 22) 1 false),
  ss 24 (.bin .neq (.t 21) (.t 23))] [2, 3, 24])
  (.cond (.t 24) (.seq (rg [
  ss 4 (.mv (.b false))] [4])
  (.ret))
  (.skip)))
  (.seq (.seq (rg [
  ss 25 (.fad (.t 2) 4),
  ss 26 (.load (.t 25) 1 false),
  ss 27 (.fad (.t 3) 4),
  ss 28 (.load (.t 27) 1 false),
  ss 29 (.bin .neq (.t 26) (.t 28))] [2, 3, 29])
  (.cond (.t 29) (.seq (rg [
  ss 4 (.mv (.b false))] [4])
  (.ret))
  (.skip)))
  (.seq (.seq (rg [
  ss 30 (.fad (.t 2) 5),
  ss 31 (.load (.t 30) 1 false),
  ss 32 (.fad (.t 3) 5),
  ss 33 (.load (.t 32) 1 false),
  ss 34 (.bin .neq (.t 31) (.t 33))] [34])
  (.cond (.t 34) (.seq (rg [
  ss 4 (.mv (.b false))] [4])
  (.ret))
  (.skip)))
  (.seq (rg [
  ss 4 (.mv (.b true))] [4])
  (.ret))))))))
theorem b_laws_eqCmd : ∃ c, f188.body = some c ∧ compC prog 35 c = some c_laws_eqCmd.er ∧ drawB c c_laws_eqCmd = true := ⟨_, rfl, by kernel_rfl, by kernel_rfl⟩
theorem r_laws_eqCmd : cmpR prog [.tmp 4] = some [.t 4] := by kernel_rfl
theorem q_laws_eqCmd : callB prog F.laws_eqCmd = true := by kernel_rfl
variable [Inv prog]
theorem s_laws_eqCmd (x : Cmd)  : SemX prog F.laws_eqCmd [aS (eCmd x), aS (eCmd x)] [] [rB true] [] := by
  obtain ⟨cc, g1, g2, g3⟩ := b_laws_eqCmd
  refine SemX.of_code func188 g1 (by rw [ntmps188]; exact g2) g3 (by rw [results188]; exact r_laws_eqCmd) (by rw [ntmps188]; exact Nat.le_of_ble_eq_true rfl) (Nat.le_of_ble_eq_true rfl) (by simp) (by simp [argOk, aT, aI, aS, eCmd]) ?_
  unfold c_laws_eqCmd
  simp only [rg]
  refine W_reg (by simp only [go_sem, eCmd]; exact rfl) ?_
  refine CW_assoc ?_
  refine W_reg (by simp only [go_sem, eCmd]; exact rfl) ?_
  refine CW_seq ?_
  refine CW_cond (by simp only [go_sem, eCmd]; exact rfl) (fun c0 => ?_) (fun c0 => ?_)
  · skip
    cases c0
  · skip
    skip
    refine CW_skip ?_
    refine sq_n ?_
    refine CW_assoc ?_
    refine W_reg (by simp only [go_sem, eCmd]; exact rfl) ?_
    refine CW_seq ?_
    refine CW_cond (by simp only [go_sem, eCmd]; exact rfl) (fun c1 => ?_) (fun c1 => ?_)
    · skip
      cases c1
    · skip
      skip
      refine CW_skip ?_
      refine sq_n ?_
      refine CW_assoc ?_
      refine W_reg (by simp only [go_sem, eCmd]; exact rfl) ?_
      refine CW_seq ?_
      refine CW_cond (by simp only [go_sem, eCmd]; exact rfl) (fun c2 => ?_) (fun c2 => ?_)
      · skip
        cases c2
      · skip
        skip
        refine CW_skip ?_
        refine sq_n ?_
        refine CW_assoc ?_
        refine W_reg (by simp only [go_sem, eCmd]; exact rfl) ?_
        refine CW_seq ?_
        refine CW_cond (by simp only [go_sem, eCmd]; exact rfl) (fun c3 => ?_) (fun c3 => ?_)
        · skip
          cases c3
        · skip
          skip
          refine CW_skip ?_
          refine sq_n ?_
          refine CW_assoc ?_
          refine W_reg (by simp only [go_sem, eCmd]; exact rfl) ?_
          refine CW_seq ?_
          refine CW_cond (by simp only [go_sem, eCmd]; exact rfl) (fun c4 => ?_) (fun c4 => ?_)
          · skip
            cases c4
          · skip
            skip
            refine CW_skip ?_
            refine sq_n ?_
            refine CW_assoc ?_
            refine W_reg (by simp only [go_sem, eCmd]; exact rfl) ?_
            refine CW_seq ?_
            refine CW_cond (by simp only [go_sem, eCmd]; exact rfl) (fun c5 => ?_) (fun c5 => ?_)
            · skip
              cases c5
            · skip
              skip
              refine CW_skip ?_
              refine sq_n ?_
              refine W_reg (by simp only [go_sem, eCmd]; exact rfl) ?_
              refine CW_ret ?_
              simp only [go_sem, eCmd]
end Go.H
end
section
set_option maxRecDepth 100000
set_option linter.unusedVariables false
set_option linter.unusedSimpArgs false
namespace Go.H
open Go Go.Proofs.Tryz
def c_laws_eqEntry : SC :=
.seq (rg [
  sk 2 12288 (.box (.t 0)),
  sk 3 16384 (.box (.t 1)),
  ss 4 (.mv (.b false))] [2, 3])
  (.seq (.seq (rg [
  ss 5 (.fad (.t 2) 0),
  ss 6 (.load (.t 5) 1 false),
  ss 7 (.fad (.t 3) 0),
  ss 8 (.load (.t 7) 1 false),
  ss 9 (.bin .neq (.t 6) (.t 8))] [2, 3, 9])
  (.cond (.t 9) (.seq (rg [
  ss 4 (.mv (.b false))] [4])
  (.ret))
  (.skip)))
  (.seq (.seq (rg [
  ss 10 (.fad (.t 2) 1),
  ss 11 (.load (.t 10) 1 false),
  ss 12 (.fad (.t 3) 1),
  ss 13 (.load (.t 12) 1 false),
  ss 14 (.bin .neq (.t 11) (.t 13))] [2, 3, 14])
  (.cond (.t 14) (.seq (rg [
  ss 4 (.mv (.b false))] [4])
  (.ret))
  (.skip)))
  (.seq (.seq (rg [
  ss 15 (.fad (.t 2) 2),
  ss 16 (.load (.t 15) 1 false),
  ss 17 (.fad (.t 3) 2),
  ss 18 (.load (.t 17) 1 false),
  ss 19 (.bin .neq (.t 16) (.t 18))] [2, 3, 19])
  (.cond (.t 19) (.seq (rg [
  ss 4 (.mv (.b false))] [4])
  (.ret))
  (.skip)))
  (.seq (.seq (rg [
  ss 20 (.fad (.t 2) 3),
  ss 21 (.load (.t 20) 6 true),
  ss 22 (.fad (.t 3) 3),
  ss 23 (.load (.t 22) 6 true),
  sk 24 102400 (.call (.f F.laws_eqCmd) [(.t 21, none), (.t 23, none)]),
  ss 25 (.not (.t 24))] [25])
  (.cond (.t 25) (.seq (rg [
  ss 4 (.mv (.b false))] [4])
  (.ret))
  (.skip)))
  (.seq (rg [
  ss 4 (.mv (.b true))] [4])
  (.ret))))))
theorem b_laws_eqEntry : ∃ c, f150.body = some c ∧ compC prog 26 c = some c_laws_eqEntry.er ∧ drawB c c_laws_eqEntry = true := ⟨_, rfl, by kernel_rfl, by kernel_rfl⟩
theorem r_laws_eqEntry : cmpR prog [.tmp 4] = some [.t 4] := by kernel_rfl
theorem q_laws_eqEntry : callB prog F.laws_eqEntry = true := by kernel_rfl
variable [Inv prog]
theorem s_laws_eqEntry (x : Entry)  : SemX prog F.laws_eqEntry [aS (eEntry x), aS (eEntry x)] [] [rB true] [] := by
  obtain ⟨cc, g1, g2, g3⟩ := b_laws_eqEntry
  refine SemX.of_code func150 g1 (by rw [ntmps150]; exact g2) g3 (by rw [results150]; exact r_laws_eqEntry) (by rw [ntmps150]; exact Nat.le_of_ble_eq_true rfl) (Nat.le_of_ble_eq_true rfl) (by simp) (by simp [argOk, aT, aI, aS, eEntry]) ?_
  unfold c_laws_eqEntry
  simp only [rg]
  refine W_reg (by simp only [go_sem, eEntry]; exact rfl) ?_
  refine CW_assoc ?_
  refine W_reg (by simp only [go_sem, eEntry]; exact rfl) ?_
  refine CW_seq ?_
  refine CW_cond (by simp only [go_sem, eEntry]; exact rfl) (fun c0 => ?_) (fun c0 => ?_)
  · skip
    cases c0
  · skip
    skip
    refine CW_skip ?_
    refine sq_n ?_
    refine CW_assoc ?_
    refine W_reg (by simp only [go_sem, eEntry]; exact rfl) ?_
    refine CW_seq ?_
    refine CW_cond (by simp only [go_sem, eEntry]; exact rfl) (fun c1 => ?_) (fun c1 => ?_)
    · skip
      cases c1
    · skip
      skip
      refine CW_skip ?_
      refine sq_n ?_
      refine CW_assoc ?_
      refine W_reg (by simp only [go_sem, eEntry]; exact rfl) ?_
      refine CW_seq ?_
      refine CW_cond (by simp only [go_sem, eEntry]; exact rfl) (fun c2 => ?_) (fun c2 => ?_)
      · skip
        cases c2
      · skip
        skip
        refine CW_skip ?_
        refine sq_n ?_
        refine CW_assoc ?_
        refine W_reg (by
          refine RW_cut 4 (by simp only [go_sem, eEntry]; exact rfl) ?_
          refine RW_ls (by simp only [List.drop_succ_cons, List.drop_zero]; exact rfl) ?_
          refine RW_callN q_laws_eqCmd (s_laws_eqCmd x.cmd) true [] [] [] rfl rfl (by simp only [go_sem, eEntry, eCmd]; exact rfl) (by rfl) (by simp only [go_sem, eEntry]; exact rfl) ?_
          simp only [go_sem, eEntry]; exact rfl) ?_
        refine CW_seq ?_
        refine CW_cond (by simp only [go_sem, eEntry]; exact rfl) (fun c3 => ?_) (fun c3 => ?_)
        · skip
          cases c3
        · skip
          skip
          refine CW_skip ?_
          refine sq_n ?_
          refine W_reg (by simp only [go_sem, eEntry]; exact rfl) ?_
          refine CW_ret ?_
          simp only [go_sem, eEntry]
end Go.H
end
section
set_option maxRecDepth 100000
set_option linter.unusedVariables false
set_option linter.unusedSimpArgs false
namespace Go.H
open Go Go.Proofs.Tryz
def c_laws_eqEntryS : SC :=
.seq (rg [
  ss 4 (.mv (.b false))] [0, 1])
  (.seq (.seq (rg [
  ss 6 (.mv (.t 0)),
  sk 7 32768 (.len (.t 6)),
  ss 8 (.mv (.t 1)),
  sk 9 40960 (.len (.t 8)),
  ss 10 (.bin .neq (.t 7) (.t 9))] [0, 1, 10])
  (.cond (.t 10) (.seq (rg [
  ss 4 (.mv (.b false))] [4])
  (.ret))
  (.skip)))
  (.seq (.seq (rg [
  ss 5 (.mv (.i .i64 0))] [0, 1, 5])
  (.block 0 (.loop (.seq (.seq (rg [
  ss 11 (.mv (.t 5)),
  ss 12 (.mv (.t 0)),
  sk 13 57344 (.len (.t 12)),
  ss 14 (.bin .lss (.t 11) (.t 13))] [0, 1, 5, 14])
  (.cond (.t 14) (.skip)
  (.exit 0)))
  (.seq (.block 1 (.seq (.reg true [
    ⟨(some 17), .mv (.t 0), none, [0], 0, 0, [], [], [], []⟩,
    ⟨(some 18), .mv (.t 5), none, [5], 0, 0, [], [], [], []⟩,
    ⟨(some 19), .idx (.t 17) (.t 18) 9, none, [17, 18], 0, 0, dEntry, [], [], []⟩,
    ⟨(some 20), .load (.t 19) 9 true, none, [19], 0, 0, dEntry, [], [], []⟩,
    ⟨(some 21), .mv (.t 1), none, [1], 0, 0, [], [], [], []⟩,
    ⟨(some 22), .mv (.t 5), none, [5], 0, 0, [], [], [], []⟩,
    ⟨(some 23), .idx (.t 21) (.t 22) 9, none, [21, 22], 0, 0, dEntry, [], [], []⟩,
    ⟨(some 24), .load (.t 23) 9 true, none, [23], 0, 0, dEntry, [], [], []⟩,
    ⟨(some 25), .call (.f F.laws_eqEntry) [(.t 20, none), (.t 24, none)], none, [20, 24], 0, 106496, [], [], [], []⟩,
    ⟨(some 26), .not (.t 25), none, [25], 0, 0, [], [], [], []⟩] (some ([0, 1, 5, 26], [])))
  (.cond (.t 26) (.seq (rg [
  ss 4 (.mv (.b false))] [4])
  (.ret))
  (.skip))))
  (rg [
  ss 15 (.mv (.t 5)),
  sh 16 1 (.bin .add (.t 15) (.i .i64 1)),
  ss 5 (.mv (.t 16))] [0, 1, 5]))))))
  (.seq (rg [
  ss 4 (.mv (.b true))] [4])
  (.ret))))
theorem b_laws_eqEntryS : ∃ c, f87.body = some c ∧ compC prog 27 c = some c_laws_eqEntryS.er ∧ drawB c c_laws_eqEntryS = true := ⟨_, rfl, by kernel_rfl, by kernel_rfl⟩
theorem r_laws_eqEntryS : cmpR prog [.tmp 4] = some [.t 4] := by kernel_rfl
theorem q_laws_eqEntryS : callB prog F.laws_eqEntryS = true := by kernel_rfl
variable [Inv prog]
theorem s_laws_eqEntryS (xs : List Entry) (hl : xs.length ≤ 2097152)  : SemX prog F.laws_eqEntryS [aT (.sl false 9 (xs.map eEntry)), aT (.sl false 9 (xs.map eEntry))] [] [rB true] [] := by
  obtain ⟨cc, g1, g2, g3⟩ := b_laws_eqEntryS
  refine SemX.of_code func87 g1 (by rw [ntmps87]; exact g2) g3 (by rw [results87]; exact r_laws_eqEntryS) (by rw [ntmps87]; exact Nat.le_of_ble_eq_true rfl) (Nat.le_of_ble_eq_true rfl) (by simp) (by simp [argOk, aT, aI, aS, eEntry]) ?_
  unfold c_laws_eqEntryS
  simp only [rg]
  refine W_reg (by simp only [go_sem, eEntry]; exact rfl) ?_
  refine CW_assoc ?_
  refine W_reg (by simp only [go_sem, eEntry]; exact rfl) ?_
  refine CW_seq ?_
  refine CW_cond (by simp only [go_sem, eEntry]; exact rfl) (fun c0 => ?_) (fun c0 => ?_)
  · skip
    cases c0
  · skip
    skip
    refine CW_skip ?_
    refine sq_n ?_
    refine CW_assoc ?_
    refine W_reg (by simp only [go_sem, eEntry]; exact rfl) ?_
    refine CW_seq ?_
    refine CW_block ?_
    refine CW_loopS (α := Nat) (fun x => [(5, .int .i64 x)]) (fun x => []) (fun x => xs.length - x) (fun x => x ≤ xs.length) 0 [] ?_ ?_ ?_
    · (simp only [go_sem, eEntry])
    · first | exact Nat.zero_le _ | (simp; done) | omega
    · rintro x hI
      refine CW_eq (by simp only [go_sem, eEntry]; exact rfl) ?_
      refine CW_assoc ?_
      refine W_reg (by simp only [go_sem, eEntry]; exact rfl) ?_
      refine CW_seq ?_
      refine CW_cond (by simp only [go_sem, eEntry]; exact rfl) (fun c1 => ?_) (fun c1 => ?_)
      · skip
        try simp only [Bool.not_eq_eq_eq_not, Bool.not_true, Bool.not_false, decide_eq_true_eq, decide_eq_false_iff_not, Bool.and_eq_true, Bool.or_eq_true] at c1
        refine CW_skip ?_
        refine sq_n ?_
        refine CW_seq ?_
        refine CW_block ?_
        refine W_drw (by
          refine DW_cut 8 (by simp only [go_sem, eEntry] <;> and_intros <;> first | with_reducible exact rfl | omega | with_reducible trivial | (intros; simp_all; done) | grind) ?_
          refine DW_ls (by simp only [List.drop_succ_cons, List.drop_zero]; exact rfl) ?_
          refine DW_callN q_laws_eqEntry (s_laws_eqEntry (xs.getD x zEntry)) true [] [] [] rfl rfl (by simp only [go_sem, eEntry]; exact rfl) (by rfl) (by simp only [go_sem, eEntry]; exact rfl) ?_
          simp only [go_sem, eEntry]; exact rfl) ?_
        refine CW_cond (by simp only [go_sem, eEntry]; exact rfl) (fun c2 => ?_) (fun c2 => ?_)
        · skip
          cases c2
        · skip
          skip
          refine CW_skip ?_
          refine bk_n ?_
          refine sq_n ?_
          refine W_regn (by simp only [go_sem, eEntry] <;> and_intros <;> first | with_reducible exact rfl | omega | with_reducible trivial | (intros; simp_all; done) | grind) ?_
          refine lp_next (x+1) [] ?_ ?_ ?_
          · (simp only [go_sem, eEntry])
          · omega
          · omega
      · skip
        skip
        refine CW_exit ?_
        refine sq_e ?_
        refine lp_e ?_
        refine bk_i ?_
        refine sq_n ?_
        refine W_reg (by simp only [go_sem, eEntry]; exact rfl) ?_
        refine CW_ret ?_
        simp only [go_sem, eEntry]
end Go.H
end
section
set_option maxRecDepth 100000
set_option linter.unusedVariables false
set_option linter.unusedSimpArgs false
namespace Go.H
open Go Go.Proofs.Tryz
def c_laws_eqInt64S : SC :=
.seq (rg [
  ss 4 (.mv (.b false))] [0, 1])
  (.seq (.seq (rg [
  ss 6 (.mv (.t 0)),
  sk 7 32768 (.len (.t 6)),
  ss 8 (.mv (.t 1)),
  sk 9 40960 (.len (.t 8)),
  ss 10 (.bin .neq (.t 7) (.t 9))] [0, 1, 10])
  (.cond (.t 10) (.seq (rg [
  ss 4 (.mv (.b false))] [4])
  (.ret))
  (.skip)))
  (.seq (.seq (rg [
  ss 5 (.mv (.i .i64 0))] [0, 1, 5])
  (.block 0 (.loop (.seq (.seq (rg [
  ss 11 (.mv (.t 5)),
  ss 12 (.mv (.t 0)),
  sk 13 57344 (.len (.t 12)),
  ss 14 (.bin .lss (.t 11) (.t 13))] [0, 1, 5, 14])
  (.cond (.t 14) (.skip)
  (.exit 0)))
  (.seq (.block 1 (.seq (.reg true [
    ⟨(some 17), .mv (.t 0), none, [0], 0, 0, [], [], [], []⟩,
    ⟨(some 18), .mv (.t 5), none, [5], 0, 0, [], [], [], []⟩,
    ⟨(some 19), .idx (.t 17) (.t 18) 1, none, [17, 18], 0, 0, dI_i64, [], [], []⟩,
    ⟨(some 20), .load (.t 19) 1 false, none, [19], 0, 0, dI_i64, [], [], []⟩,
    ⟨(some 21), .mv (.t 1), none, [1], 0, 0, [], [], [], []⟩,
    ⟨(some 22), .mv (.t 5), none, [5], 0, 0, [], [], [], []⟩,
    ⟨(some 23), .idx (.t 21) (.t 22) 1, none, [21, 22], 0, 0, dI_i64, [], [], []⟩,
    ⟨(some 24), .load (.t 23) 1 false, none, [23], 0, 0, dI_i64, [], [], []⟩,
    ⟨(some 25), .bin .neq (.t 20) (.t 24), none, [20, 24], 0, 0, [], [], [], []⟩] (some ([0, 1, 5, 25], [])))
  (.cond (.t 25) (.seq (rg [
  ss 4 (.mv (.b false))] [4])
  (.ret))
  (.skip))))
  (rg [
  ss 15 (.mv (.t 5)),
  sh 16 1 (.bin .add (.t 15) (.i .i64 1)),
  ss 5 (.mv (.t 16))] [0, 1, 5]))))))
  (.seq (rg [
  ss 4 (.mv (.b true))] [4])
  (.ret))))
theorem b_laws_eqInt64S : ∃ c, f88.body = some c ∧ compC prog 26 c = some c_laws_eqInt64S.er ∧ drawB c c_laws_eqInt64S = true := ⟨_, rfl, by kernel_rfl, by kernel_rfl⟩
theorem r_laws_eqInt64S : cmpR prog [.tmp 4] = some [.t 4] := by kernel_rfl
theorem q_laws_eqInt64S : callB prog F.laws_eqInt64S = true := by kernel_rfl
variable [Inv prog]
theorem s_laws_eqInt64S (xs : List Int) (hl : xs.length ≤ 2097152)  : SemX prog F.laws_eqInt64S [aT (.sl false 1 (xs.map eI_i64)), aT (.sl false 1 (xs.map eI_i64))] [] [rB true] [] := by
  obtain ⟨cc, g1, g2, g3⟩ := b_laws_eqInt64S
  refine SemX.of_code func88 g1 (by rw [ntmps88]; exact g2) g3 (by rw [results88]; exact r_laws_eqInt64S) (by rw [ntmps88]; exact Nat.le_of_ble_eq_true rfl) (Nat.le_of_ble_eq_true rfl) (by simp) (by simp [argOk, aT, aI, aS, eI_i64]) ?_
  unfold c_laws_eqInt64S
  simp only [rg]
  refine W_reg (by simp only [go_sem, eI_i64]; exact rfl) ?_
  refine CW_assoc ?_
  refine W_reg (by simp only [go_sem, eI_i64]; exact rfl) ?_
  refine CW_seq ?_
  refine CW_cond (by simp only [go_sem, eI_i64]; exact rfl) (fun c0 => ?_) (fun c0 => ?_)
  · skip
    cases c0
  · skip
    skip
    refine CW_skip ?_
    refine sq_n ?_
    refine CW_assoc ?_
    refine W_reg (by simp only [go_sem, eI_i64]; exact rfl) ?_
    refine CW_seq ?_
    refine CW_block ?_
    refine CW_loopS (α := Nat) (fun x => [(5, .int .i64 x)]) (fun x => []) (fun x => xs.length - x) (fun x => x ≤ xs.length) 0 [] ?_ ?_ ?_
    · (simp only [go_sem, eI_i64])
    · first | exact Nat.zero_le _ | (simp; done) | omega
    · rintro x hI
      refine CW_eq (by simp only [go_sem, eI_i64]; exact rfl) ?_
      refine CW_assoc ?_
      refine W_reg (by simp only [go_sem, eI_i64]; exact rfl) ?_
      refine CW_seq ?_
      refine CW_cond (by simp only [go_sem, eI_i64]; exact rfl) (fun c1 => ?_) (fun c1 => ?_)
      · skip
        try simp only [Bool.not_eq_eq_eq_not, Bool.not_true, Bool.not_false, decide_eq_true_eq, decide_eq_false_iff_not, Bool.and_eq_true, Bool.or_eq_true] at c1
        refine CW_skip ?_
        refine sq_n ?_
        refine CW_seq ?_
        refine CW_block ?_
        refine W_drw (by simp only [go_sem, eI_i64] <;> and_intros <;> first | with_reducible exact rfl | omega | with_reducible trivial | (intros; simp_all; done) | grind) ?_
        refine CW_cond (by simp only [go_sem, eI_i64]; exact rfl) (fun c2 => ?_) (fun c2 => ?_)
        · skip
          cases c2
        · skip
          skip
          refine CW_skip ?_
          refine bk_n ?_
          refine sq_n ?_
          refine W_regn (by simp only [go_sem, eI_i64] <;> and_intros <;> first | with_reducible exact rfl | omega | with_reducible trivial | (intros; simp_all; done) | grind) ?_
          refine lp_next (x+1) [] ?_ ?_ ?_
          · (simp only [go_sem, eI_i64])
          · omega
          · omega
      · skip
        skip
        refine CW_exit ?_
        refine sq_e ?_
        refine lp_e ?_
        refine bk_i ?_
        refine sq_n ?_
        refine W_reg (by simp only [go_sem, eI_i64]; exact rfl) ?_
        refine CW_ret ?_
        simp only [go_sem, eI_i64]
end Go.H
end
section
set_option maxRecDepth 100000
set_option linter.unusedVariables false
set_option linter.unusedSimpArgs false
namespace Go.H
open Go Go.Proofs.Tryz
def c_laws_eqNode : SC :=
.seq (rg [
  sk 2 12288 (.box (.t 0)),
  sk 3 16384 (.box (.t 1)),
  ss 4 (.mv (.b false))] [2, 3])
  (.seq (.seq (rg [
  ss 5 (.fad (.t 2) 0),
  ss 6 (.load (.t 5) 1 false),
  ss 7 (.fad (.t 3) 0),
  ss 8 (.load (.t 7) 1 false),
  ss 9 (.bin .neq (.t 6) (.t 8))] [2, 3, 9])
  (.cond (.t 9) (.seq (rg [
  ss 4 (.mv (.b false))] [4])
  (.ret))
  (.skip)))
  (.seq (.seq (rg [
  ss 10 (.fad (.t 2) 1),
  ss 11 (.load (.t 10) 1 false),
  ss 12 (.fad (.t 3) 1),
  ss 13 (.load (.t 12) 1 false),
  ss 14 (.bin .neq (.t 11) (.t 13))] [2, 3, 14])
  (.cond (.t 14) (.seq (rg [
  ss 4 (.mv (.b false))] [4])
  (.ret))
  (.skip)))
  (.seq (.seq (rg [
  ss 15 (.fad (.t 2) 2),
  ss 16 (.load (.t 15) 1 false),
  ss 17 (.fad (.t 3) 2),
  ss 18 (.load (.t 17) 1 false),
  ss 19 (.bin .neq (.t 16) (.t 18))] [2, 3, 19])
  (.cond (.t 19) (.seq (rg [
  ss 4 (.mv (.b false))] [4])
  (.ret))
  (.skip)))
  (.seq (.seq (rg [
  ss 20 (.fad (.t 2) 3),
  ss 21 (.load (.t 20) 1 false),
  ss 22 (.fad (.t 3) 3),
  ss 23 (.load (.t 22) 1 false),
  ss 24 (.bin .neq (.t 21) (.t 23))] [2, 3, 24])
  (.cond (.t 24) (.seq (rg [
  ss 4 (.mv (.b false))] [4])
  (.ret))
  (.skip)))
  (.seq (.seq (rg [
  ss 25 (.fad (.t 2) 4),
  ss 26 (.load (.t 25) 1 false),
  ss 27 (.fad (.t 3) 4),
  ss 28 (.load (.t 27) 1 false),
  sk 29 122880 (.call (.f F.laws_eqEntryS) [(.t 26, none), (.t 28, none)]),
  ss 30 (.not (.t 29))] [2, 3, 30])
  (.cond (.t 30) (.seq (rg [
  ss 4 (.mv (.b false))] [4])
  (.ret))
  (.skip)))
  (.seq (.seq (rg [
  ss 31 (.fad (.t 2) 5),
  ss 32 (.load (.t 31) 1 false),
  ss 33 (.fad (.t 3) 5),
  ss 34 (.load (.t 33) 1 false),
  ss 35 (.bin .neq (.t 32) (.t 34))] [2, 3, 35])
  (.cond (.t 35) (.seq (rg [
  ss 4 (.mv (.b false))] [4])
  (.ret))
  (.skip)))
  (.seq (.seq (rg [
  ss 36 (.fad (.t 2) 6),
  ss 37 (.load (.t 36) 1 false),
  ss 38 (.fad (.t 3) 6),
  ss 39 (.load (.t 38) 1 false),
  ss 40 (.bin .neq (.t 37) (.t 39))] [2, 3, 40])
  (.cond (.t 40) (.seq (rg [
  ss 4 (.mv (.b false))] [4])
  (.ret))
  (.skip)))
  (.seq (.seq (rg [
  ss 41 (.fad (.t 2) 7),
  ss 42 (.load (.t 41) 1 false),
  ss 43 (.fad (.t 3) 7),
  ss 44 (.load (.t 43) 1 false),
  sk 45 188416 (.call (.f F.laws_eqInt64S) [(.t 42, none), (.t 44, none)]),
  ss 46 (.not (.t 45))] [2, 3, 46])
  (.cond (.t 46) (.seq (rg [
  ss 4 (.mv (.b false))] [4])
  (.ret))
  (.skip)))
  (.seq (.seq (rg [
  ss 47 (.fad (.t 2) 8),
  ss 48 (.load (.t 47) 1 false),
  ss 49 (.fad (.t 3) 8),
  ss 50 (.load (.t 49) 1 false),
  sk 51 212992 (.call (.f F.laws_eqInt64S) [(.t 48, none), (.t 50, none)]),
  ss 52 (.not (.t 51))] [2, 3, 52])
  (.cond (.t 52) (.seq (rg [
  ss 4 (.mv (.b false))] [4])
  (.ret))
  (.skip)))
  (.seq (.seq (rg [
  ss 53 (.fad (.t 2) 9),
  ss 54 (.load (.t 53) 1 false),
  ss 55 (.fad (.t 3) 9),
  ss 56 (.load (.t 55) 1 false),
  sk 57 237568 (.call (.f F.laws_eqInt64S) [(.t 54, none), (.t 56, none)]),
  ss 58 (.not (.t 57))] [58])
  (.cond (.t 58) (.seq (rg [
  ss 4 (.mv (.b false))] [4])
  (.ret))
  (.skip)))
  (.seq (rg [
  ss 4 (.mv (.b true))] [4])
  (.ret))))))))))))
theorem b_laws_eqNode : ∃ c, f29.body = some c ∧ compC prog 59 c = some c_laws_eqNode.er ∧ drawB c c_laws_eqNode = true := ⟨_, rfl, by kernel_rfl, by kernel_rfl⟩
theorem r_laws_eqNode : cmpR prog [.tmp 4] = some [.t 4] := by kernel_rfl
theorem q_laws_eqNode : callB prog F.laws_eqNode = true := by kernel_rfl
variable [Inv prog]
theorem s_laws_eqNode (x : Node) (hx : limN 2097152 x) : SemX prog F.laws_eqNode [aS (eNode false x), aS (eNode false x)] [] [rB true] [] := by
  obtain ⟨cc, g1, g2, g3⟩ := b_laws_eqNode
  refine SemX.of_code func29 g1 (by rw [ntmps29]; exact g2) g3 (by rw [results29]; exact r_laws_eqNode) (by rw [ntmps29]; exact Nat.le_of_ble_eq_true rfl) (Nat.le_of_ble_eq_true rfl) (by simp) (by simp [argOk, aT, aI, aS, eNode]) ?_
  unfold c_laws_eqNode
  simp only [rg]
  refine W_reg (by simp only [go_sem, eNode]; exact rfl) ?_
  refine CW_assoc ?_
  refine W_reg (by simp only [go_sem, eNode]; exact rfl) ?_
  refine CW_seq ?_
  refine CW_cond (by simp only [go_sem, eNode]; exact rfl) (fun c0 => ?_) (fun c0 => ?_)
  · skip
    cases c0
  · skip
    skip
    refine CW_skip ?_
    refine sq_n ?_
    refine CW_assoc ?_
    refine W_reg (by simp only [go_sem, eNode]; exact rfl) ?_
    refine CW_seq ?_
    refine CW_cond (by simp only [go_sem, eNode]; exact rfl) (fun c1 => ?_) (fun c1 => ?_)
    · skip
      cases c1
    · skip
      skip
      refine CW_skip ?_
      refine sq_n ?_
      refine CW_assoc ?_
      refine W_reg (by simp only [go_sem, eNode]; exact rfl) ?_
      refine CW_seq ?_
      refine CW_cond (by simp only [go_sem, eNode]; exact rfl) (fun c2 => ?_) (fun c2 => ?_)
      · skip
        cases c2
      · skip
        skip
        refine CW_skip ?_
        refine sq_n ?_
        refine CW_assoc ?_
        refine W_reg (by simp only [go_sem, eNode]; exact rfl) ?_
        refine CW_seq ?_
        refine CW_cond (by simp only [go_sem, eNode]; exact rfl) (fun c3 => ?_) (fun c3 => ?_)
        · skip
          cases c3
        · skip
          skip
          refine CW_skip ?_
          refine sq_n ?_
          refine CW_assoc ?_
          refine W_reg (by
            refine RW_cut 4 (by simp only [go_sem, eNode]; exact rfl) ?_
            refine RW_ls (by simp only [List.drop_succ_cons, List.drop_zero]; exact rfl) ?_
            refine RW_callN q_laws_eqEntryS (s_laws_eqEntryS x.log hx.1) true [] [] [] rfl rfl (by simp only [go_sem, eNode]; exact rfl) (by rfl) (by simp only [go_sem, eNode]; exact rfl) ?_
            simp only [go_sem, eNode]; exact rfl) ?_
          refine CW_seq ?_
          refine CW_cond (by simp only [go_sem, eNode]; exact rfl) (fun c4 => ?_) (fun c4 => ?_)
          · skip
            cases c4
          · skip
            skip
            refine CW_skip ?_
            refine sq_n ?_
            refine CW_assoc ?_
            refine W_reg (by simp only [go_sem, eNode]; exact rfl) ?_
            refine CW_seq ?_
            refine CW_cond (by simp only [go_sem, eNode]; exact rfl) (fun c5 => ?_) (fun c5 => ?_)
            · skip
              cases c5
            · skip
              skip
              refine CW_skip ?_
              refine sq_n ?_
              refine CW_assoc ?_
              refine W_reg (by simp only [go_sem, eNode]; exact rfl) ?_
              refine CW_seq ?_
              refine CW_cond (by simp only [go_sem, eNode]; exact rfl) (fun c6 => ?_) (fun c6 => ?_)
              · skip
                cases c6
              · skip
                skip
                refine CW_skip ?_
                refine sq_n ?_
                refine CW_assoc ?_
                refine W_reg (by
                  refine RW_cut 4 (by simp only [go_sem, eNode]; exact rfl) ?_
                  refine RW_ls (by simp only [List.drop_succ_cons, List.drop_zero]; exact rfl) ?_
                  refine RW_callN q_laws_eqInt64S (s_laws_eqInt64S x.votes hx.2.1) true [] [] [] rfl rfl (by simp only [go_sem, eNode]; exact rfl) (by rfl) (by simp only [go_sem, eNode]; exact rfl) ?_
                  simp only [go_sem, eNode]; exact rfl) ?_
                refine CW_seq ?_
                refine CW_cond (by simp only [go_sem, eNode]; exact rfl) (fun c7 => ?_) (fun c7 => ?_)
                · skip
                  cases c7
                · skip
                  skip
                  refine CW_skip ?_
                  refine sq_n ?_
                  refine CW_assoc ?_
                  refine W_reg (by
                    refine RW_cut 4 (by simp only [go_sem, eNode]; exact rfl) ?_
                    refine RW_ls (by simp only [List.drop_succ_cons, List.drop_zero]; exact rfl) ?_
                    refine RW_callN q_laws_eqInt64S (s_laws_eqInt64S x.next hx.2.2.1) true [] [] [] rfl rfl (by simp only [go_sem, eNode]; exact rfl) (by rfl) (by simp only [go_sem, eNode]; exact rfl) ?_
                    simp only [go_sem, eNode]; exact rfl) ?_
                  refine CW_seq ?_
                  refine CW_cond (by simp only [go_sem, eNode]; exact rfl) (fun c8 => ?_) (fun c8 => ?_)
                  · skip
                    cases c8
                  · skip
                    skip
                    refine CW_skip ?_
                    refine sq_n ?_
                    refine CW_assoc ?_
                    refine W_reg (by
                      refine RW_cut 4 (by simp only [go_sem, eNode]; exact rfl) ?_
                      refine RW_ls (by simp only [List.drop_succ_cons, List.drop_zero]; exact rfl) ?_
                      refine RW_callN q_laws_eqInt64S (s_laws_eqInt64S x.match_ hx.2.2.2) true [] [] [] rfl rfl (by simp only [go_sem, eNode]; exact rfl) (by rfl) (by simp only [go_sem, eNode]; exact rfl) ?_
                      simp only [go_sem, eNode]; exact rfl) ?_
                    refine CW_seq ?_
                    refine CW_cond (by simp only [go_sem, eNode]; exact rfl) (fun c9 => ?_) (fun c9 => ?_)
                    · skip
                      cases c9
                    · skip
                      skip
                      refine CW_skip ?_
                      refine sq_n ?_
                      refine W_reg (by simp only [go_sem, eNode]; exact rfl) ?_
                      refine CW_ret ?_
                      simp only [go_sem, eNode]
end Go.H
end
section
set_option maxRecDepth 100000
set_option linter.unusedVariables false
set_option linter.unusedSimpArgs false
namespace Go.H
open Go Go.Proofs.Tryz
def c_laws_eqNodeS : SC :=
.seq (rg [
  ss 4 (.mv (.b false))] [0, 1])
  (.seq (.seq (rg [
  ss 6 (.mv (.t 0)),
  sk 7 32768 (.len (.t 6)),
  ss 8 (.mv (.t 1)),
  sk 9 40960 (.len (.t 8)),
  ss 10 (.bin .neq (.t 7) (.t 9))] [0, 1, 10])
  (.cond (.t 10) (.seq (rg [
  ss 4 (.mv (.b false))] [4])
  (.ret))
  (.skip)))
  (.seq (.seq (rg [
  ss 5 (.mv (.i .i64 0))] [0, 1, 5])
  (.block 0 (.loop (.seq (.seq (rg [
  ss 11 (.mv (.t 5)),
  ss 12 (.mv (.t 0)),
  sk 13 57344 (.len (.t 12)),
  ss 14 (.bin .lss (.t 11) (.t 13))] [0, 1, 5, 14])
  (.cond (.t 14) (.skip)
  (.exit 0)))
  (.seq (.block 1 (.seq (.reg true [
    ⟨(some 17), .mv (.t 0), none, [0], 0, 0, [], [], [], []⟩,
    ⟨(some 18), .mv (.t 5), none, [5], 0, 0, [], [], [], []⟩,
    ⟨(some 19), .idx (.t 17) (.t 18) 10, none, [17, 18], 0, 0, (dNode false), [], [], []⟩,
    ⟨(some 20), .load (.t 19) 10 true, none, [19], 0, 0, (dNode true), [], [], []⟩,
    ⟨(some 21), .mv (.t 1), none, [1], 0, 0, [], [], [], []⟩,
    ⟨(some 22), .mv (.t 5), none, [5], 0, 0, [], [], [], []⟩,
    ⟨(some 23), .idx (.t 21) (.t 22) 10, none, [21, 22], 0, 0, (dNode false), [], [], []⟩,
    ⟨(some 24), .load (.t 23) 10 true, none, [23], 0, 0, (dNode true), [], [], []⟩,
    ⟨(some 25), .call (.f F.laws_eqNode) [(.t 20, none), (.t 24, none)], none, [20, 24], 0, 106496, [], [], [], []⟩,
    ⟨(some 26), .not (.t 25), none, [25], 0, 0, [], [], [], []⟩] (some ([0, 1, 5, 26], [])))
  (.cond (.t 26) (.seq (rg [
  ss 4 (.mv (.b false))] [4])
  (.ret))
  (.skip))))
  (rg [
  ss 15 (.mv (.t 5)),
  sh 16 1 (.bin .add (.t 15) (.i .i64 1)),
  ss 5 (.mv (.t 16))] [0, 1, 5]))))))
  (.seq (rg [
  ss 4 (.mv (.b true))] [4])
  (.ret))))
theorem b_laws_eqNodeS : ∃ c, f61.body = some c ∧ compC prog 27 c = some c_laws_eqNodeS.er ∧ drawB c c_laws_eqNodeS = true := ⟨_, rfl, by kernel_rfl, by kernel_rfl⟩
theorem r_laws_eqNodeS : cmpR prog [.tmp 4] = some [.t 4] := by kernel_rfl
theorem q_laws_eqNodeS : callB prog F.laws_eqNodeS = true := by kernel_rfl
variable [Inv prog]
theorem s_laws_eqNodeS (xs : List Node) (hl : xs.length ≤ 2097152) (hm : ∀ y ∈ xs, limN 2097152 y) : SemX prog F.laws_eqNodeS [aT (.sl false 10 (xs.map (eNode false))), aT (.sl false 10 (xs.map (eNode false)))] [] [rB true] [] := by
  obtain ⟨cc, g1, g2, g3⟩ := b_laws_eqNodeS
  refine SemX.of_code func61 g1 (by rw [ntmps61]; exact g2) g3 (by rw [results61]; exact r_laws_eqNodeS) (by rw [ntmps61]; exact Nat.le_of_ble_eq_true rfl) (Nat.le_of_ble_eq_true rfl) (by simp) (by simp [argOk, aT, aI, aS, eNode]) ?_
  unfold c_laws_eqNodeS
  simp only [rg]
  refine W_reg (by simp only [go_sem, eNode]; exact rfl) ?_
  refine CW_assoc ?_
  refine W_reg (by simp only [go_sem, eNode]; exact rfl) ?_
  refine CW_seq ?_
  refine CW_cond (by simp only [go_sem, eNode]; exact rfl) (fun c0 => ?_) (fun c0 => ?_)
  · skip
    cases c0
  · skip
    skip
    refine CW_skip ?_
    refine sq_n ?_
    refine CW_assoc ?_
    refine W_reg (by simp only [go_sem, eNode]; exact rfl) ?_
    refine CW_seq ?_
    refine CW_block ?_
    refine CW_loopS (α := Nat) (fun x => [(5, .int .i64 x)]) (fun x => []) (fun x => xs.length - x) (fun x => x ≤ xs.length) 0 [] ?_ ?_ ?_
    · (simp only [go_sem, eNode])
    · first | exact Nat.zero_le _ | (simp; done) | omega
    · rintro x hI
      refine CW_eq (by simp only [go_sem, eNode]; exact rfl) ?_
      refine CW_assoc ?_
      refine W_reg (by simp only [go_sem, eNode]; exact rfl) ?_
      refine CW_seq ?_
      refine CW_cond (by simp only [go_sem, eNode]; exact rfl) (fun c1 => ?_) (fun c1 => ?_)
      · skip
        try simp only [Bool.not_eq_eq_eq_not, Bool.not_true, Bool.not_false, decide_eq_true_eq, decide_eq_false_iff_not, Bool.and_eq_true, Bool.or_eq_true] at c1
        refine CW_skip ?_
        refine sq_n ?_
        refine CW_seq ?_
        refine CW_block ?_
        refine W_drw (by
          refine DW_cut 8 (by simp only [go_sem, eNode] <;> and_intros <;> first | with_reducible exact rfl | omega | with_reducible trivial | (intros; simp_all; done) | grind) ?_
          refine DW_ls (by simp only [List.drop_succ_cons, List.drop_zero]; exact rfl) ?_
          refine DW_callN q_laws_eqNode (s_laws_eqNode (xs.getD x zNode) ((all_getD zNode).2 hm x (by omega))) true [] [] [] rfl rfl (by simp only [go_sem, eNode]; exact rfl) (by rfl) (by simp only [go_sem, eNode]; exact rfl) ?_
          simp only [go_sem, eNode]; exact rfl) ?_
        refine CW_cond (by simp only [go_sem, eNode]; exact rfl) (fun c2 => ?_) (fun c2 => ?_)
        · skip
          cases c2
        · skip
          skip
          refine CW_skip ?_
          refine bk_n ?_
          refine sq_n ?_
          refine W_regn (by simp only [go_sem, eNode] <;> and_intros <;> first | with_reducible exact rfl | omega | with_reducible trivial | (intros; simp_all; done) | grind) ?_
          refine lp_next (x+1) [] ?_ ?_ ?_
          · (simp only [go_sem, eNode])
          · omega
          · omega
      · skip
        skip
        refine CW_exit ?_
        refine sq_e ?_
        refine lp_e ?_
        refine bk_i ?_
        refine sq_n ?_
        refine W_reg (by simp only [go_sem, eNode]; exact rfl) ?_
        refine CW_ret ?_
        simp only [go_sem, eNode]
end Go.H
end
section
set_option maxRecDepth 100000
set_option linter.unusedVariables false
set_option linter.unusedSimpArgs false
namespace Go.H
open Go Go.Proofs.Tryz
def c_laws_eqMail : SC :=
.seq (rg [
  sk 2 12288 (.box (.t 0)),
  sk 3 16384 (.box (.t 1)),
  ss 4 (.mv (.b false))] [2, 3])
  (.seq (.seq (rg [
  ss 5 (.fad (.t 2) 0),
  ss 6 (.load (.t 5) 1 false),
  ss 7 (.fad (.t 3) 0),
  ss 8 (.load (.t 7) 1 false),
  ss 9 (.bin .neq (.t 6) (.t 8))] [2, 3, 9])
  (.cond (.t 9) (.seq (rg [
  ss 4 (.mv (.b false))] [4])
  (.ret))
  (.skip)))
  (.seq (.seq (rg [
  ss 10 (.fad (.t 2) 1),
  ss 11 (.load (.t 10) 1 false),
  ss 12 (.fad (.t 3) 1),
  ss 13 (.load (.t 12) 1 false),
  ss 14 (.bin .neq (.t 11) (.t 13))] [2, 3, 14])
  (.cond (.t 14) (.seq (rg [
  ss 4 (.mv (.b false))] [4])
  (.ret))
  (.skip)))
  (.seq (.seq (rg [
  ss 15 (.fad (.t 2) 2),
  ss 16 (.load (.t 15) 1 false),
  ss 17 (.fad (.t 3) 2),
  ss 18 (.load (.t 17) 1 false),
  ss 19 (.bin .neq (.t 16) (.t 18))] [2, 3, 19])
  (.cond (.t 19) (.seq (rg [
  ss 4 (.mv (.b false))] [4])
  (.ret))
  (.skip)))
  (.seq (.seq (rg [
  ss 20 (.fad (.t 2) 3),
  ss 21 (.load (.t 20) 1 false),
  ss 22 (.fad (.t 3) 3),
  ss 23 (.load (.t 22) 1 false),
  ss 24 (.bin .neq (.t 21) (.t 23))] [2, 3, 24])
  (.cond (.t 24) (.seq (rg [
  ss 4 (.mv (.b false))] [4])
  (.ret))
  (.skip)))
  (.seq (.seq (rg [
  ss 25 (.fad (.t 2) 4),
  ss 26 (.load (.t 25) 1 false),
  ss 27 (.fad (.t 3) 4),
  ss 28 (.load (.t 27) 1 false),
  ss 29 (.bin .neq (.t 26) (.t 28))] [2, 3, 29])
  (.cond (.t 29) (.seq (rg [
  ss 4 (.mv (.b false))] [4])
  (.ret))
  (.skip)))
  (.seq (.seq (rg [
  ss 30 (.fad (.t 2) 5),
  ss 31 (.load (.t 30) 1 false),
  ss 32 (.fad (.t 3) 5),
  ss 33 (.load (.t 32) 1 false),
  ss 34 (.bin .neq (.t 31) (.t 33))] [2, 3, 34])
  (.cond (.t 34) (.seq (rg [
  ss 4 (.mv (.b false))] [4])
  (.ret))
  (.skip)))
  (.seq (.seq (rg [
  ss 35 (.fad (.t 2) 6),
  ss 36 (.load (.t 35) 1 false),
  ss 37 (.fad (.t 3) 6),
  ss 38 (.load (.t 37) 1 false),
  ss 39 (.bin .neq (.t 36) (.t 38))] [2, 3, 39])
  (.cond (.t 39) (.seq (rg [
  ss 4 (.mv (.b false))] [4])
  (.ret))
  (.skip)))
  (.seq (.seq (rg [
  ss 40 (.fad (.t 2) 7),
  ss 41 (.load (.t 40) 1 false),
  ss 42 (.fad (.t 3) 7),
  ss 43 (.load (.t 42) 1 false),
  ss 44 (.beq true (.t 41) (.t 43))] [2, 3, 44])
  (.cond (.t 44) (.seq (rg [
  ss 4 (.mv (.b false))] [4])
  (.ret))
  (.skip)))
  (.seq (.seq (rg [
  ss 45 (.fad (.t 2) 8),
  ss 46 (.load (.t 45) 1 false),
  ss 47 (.fad (.t 3) 8),
  ss 48 (.load (.t 47) 1 false),
  sk 49 204800 (.call (.f F.laws_eqEntryS) [(.t 46, none), (.t 48, none)]),
  ss 50 (.not (.t 49))] [50])
  (.cond (.t 50) (.seq (rg [
  ss 4 (.mv (.b false))] [4])
  (.ret))
  (.skip)))
  (.seq (rg [
  ss 4 (.mv (.b true))] [4])
  (.ret)))))))))))
theorem b_laws_eqMail : ∃ c, f30.body = some c ∧ compC prog 51 c = some c_laws_eqMail.er ∧ drawB c c_laws_eqMail = true := ⟨_, rfl, by kernel_rfl, by kernel_rfl⟩
theorem r_laws_eqMail : cmpR prog [.tmp 4] = some [.t 4] := by kernel_rfl
theorem q_laws_eqMail : callB prog F.laws_eqMail = true := by kernel_rfl
variable [Inv prog]
theorem s_laws_eqMail (x : Mail) (hx : limM 2097152 x) : SemX prog F.laws_eqMail [aS (eMail false x), aS (eMail false x)] [] [rB true] [] := by
  obtain ⟨cc, g1, g2, g3⟩ := b_laws_eqMail
  refine SemX.of_code func30 g1 (by rw [ntmps30]; exact g2) g3 (by rw [results30]; exact r_laws_eqMail) (by rw [ntmps30]; exact Nat.le_of_ble_eq_true rfl) (Nat.le_of_ble_eq_true rfl) (by simp) (by simp [argOk, aT, aI, aS, eMail]) ?_
  unfold c_laws_eqMail
  simp only [rg]
  refine W_reg (by simp only [go_sem, eMail]; exact rfl) ?_
  refine CW_assoc ?_
  refine W_reg (by simp only [go_sem, eMail]; exact rfl) ?_
  refine CW_seq ?_
  refine CW_cond (by simp only [go_sem, eMail]; exact rfl) (fun c0 => ?_) (fun c0 => ?_)
  · skip
    cases c0
  · skip
    skip
    refine CW_skip ?_
    refine sq_n ?_
    refine CW_assoc ?_
    refine W_reg (by simp only [go_sem, eMail]; exact rfl) ?_
    refine CW_seq ?_
    refine CW_cond (by simp only [go_sem, eMail]; exact rfl) (fun c1 => ?_) (fun c1 => ?_)
    · skip
      cases c1
    · skip
      skip
      refine CW_skip ?_
      refine sq_n ?_
      refine CW_assoc ?_
      refine W_reg (by simp only [go_sem, eMail]; exact rfl) ?_
      refine CW_seq ?_
      refine CW_cond (by simp only [go_sem, eMail]; exact rfl) (fun c2 => ?_) (fun c2 => ?_)
      · skip
        cases c2
      · skip
        skip
        refine CW_skip ?_
        refine sq_n ?_
        refine CW_assoc ?_
        refine W_reg (by simp only [go_sem, eMail]; exact rfl) ?_
        refine CW_seq ?_
        refine CW_cond (by simp only [go_sem, eMail]; exact rfl) (fun c3 => ?_) (fun c3 => ?_)
        · skip
          cases c3
        · skip
          skip
          refine CW_skip ?_
          refine sq_n ?_
          refine CW_assoc ?_
          refine W_reg (by simp only [go_sem, eMail]; exact rfl) ?_
          refine CW_seq ?_
          refine CW_cond (by simp only [go_sem, eMail]; exact rfl) (fun c4 => ?_) (fun c4 => ?_)
          · skip
            cases c4
          · skip
            skip
            refine CW_skip ?_
            refine sq_n ?_
            refine CW_assoc ?_
            refine W_reg (by simp only [go_sem, eMail]; exact rfl) ?_
            refine CW_seq ?_
            refine CW_cond (by simp only [go_sem, eMail]; exact rfl) (fun c5 => ?_) (fun c5 => ?_)
            · skip
              cases c5
            · skip
              skip
              refine CW_skip ?_
              refine sq_n ?_
              refine CW_assoc ?_
              refine W_reg (by simp only [go_sem, eMail]; exact rfl) ?_
              refine CW_seq ?_
              refine CW_cond (by simp only [go_sem, eMail]; exact rfl) (fun c6 => ?_) (fun c6 => ?_)
              · skip
                cases c6
              · skip
                skip
                refine CW_skip ?_
                refine sq_n ?_
                refine CW_assoc ?_
                refine W_reg (by simp only [go_sem, eMail]; exact rfl) ?_
                refine CW_seq ?_
                refine CW_cond (by simp only [go_sem, eMail]; exact rfl) (fun c7 => ?_) (fun c7 => ?_)
                · skip
                  cases c7
                · skip
                  skip
                  refine CW_skip ?_
                  refine sq_n ?_
                  refine CW_assoc ?_
                  refine W_reg (by
                    refine RW_cut 4 (by simp only [go_sem, eMail]; exact rfl) ?_
                    refine RW_ls (by simp only [List.drop_succ_cons, List.drop_zero]; exact rfl) ?_
                    refine RW_callN q_laws_eqEntryS (s_laws_eqEntryS x.entries hx) true [] [] [] rfl rfl (by simp only [go_sem, eMail]; exact rfl) (by rfl) (by simp only [go_sem, eMail]; exact rfl) ?_
                    simp only [go_sem, eMail]; exact rfl) ?_
                  refine CW_seq ?_
                  refine CW_cond (by simp only [go_sem, eMail]; exact rfl) (fun c8 => ?_) (fun c8 => ?_)
                  · skip
                    cases c8
                  · skip
                    skip
                    refine CW_skip ?_
                    refine sq_n ?_
                    refine W_reg (by simp only [go_sem, eMail]; exact rfl) ?_
                    refine CW_ret ?_
                    simp only [go_sem, eMail]
end Go.H
end
section
set_option maxRecDepth 100000
set_option linter.unusedVariables false
set_option linter.unusedSimpArgs false
namespace Go.H
open Go Go.Proofs.Tryz
def c_laws_eqMailS : SC :=
.seq (rg [
  ss 4 (.mv (.b false))] [0, 1])
  (.seq (.seq (rg [
  ss 6 (.mv (.t 0)),
  sk 7 32768 (.len (.t 6)),
  ss 8 (.mv (.t 1)),
  sk 9 40960 (.len (.t 8)),
  ss 10 (.bin .neq (.t 7) (.t 9))] [0, 1, 10])
  (.cond (.t 10) (.seq (rg [
  ss 4 (.mv (.b false))] [4])
  (.ret))
  (.skip)))
  (.seq (.seq (rg [
  ss 5 (.mv (.i .i64 0))] [0, 1, 5])
  (.block 0 (.loop (.seq (.seq (rg [
  ss 11 (.mv (.t 5)),
  ss 12 (.mv (.t 0)),
  sk 13 57344 (.len (.t 12)),
  ss 14 (.bin .lss (.t 11) (.t 13))] [0, 1, 5, 14])
  (.cond (.t 14) (.skip)
  (.exit 0)))
  (.seq (.block 1 (.seq (.reg true [
    ⟨(some 17), .mv (.t 0), none, [0], 0, 0, [], [], [], []⟩,
    ⟨(some 18), .mv (.t 5), none, [5], 0, 0, [], [], [], []⟩,
    ⟨(some 19), .idx (.t 17) (.t 18) 9, none, [17, 18], 0, 0, (dMail false), [], [], []⟩,
    ⟨(some 20), .load (.t 19) 9 true, none, [19], 0, 0, (dMail true), [], [], []⟩,
    ⟨(some 21), .mv (.t 1), none, [1], 0, 0, [], [], [], []⟩,
    ⟨(some 22), .mv (.t 5), none, [5], 0, 0, [], [], [], []⟩,
    ⟨(some 23), .idx (.t 21) (.t 22) 9, none, [21, 22], 0, 0, (dMail false), [], [], []⟩,
    ⟨(some 24), .load (.t 23) 9 true, none, [23], 0, 0, (dMail true), [], [], []⟩,
    ⟨(some 25), .call (.f F.laws_eqMail) [(.t 20, none), (.t 24, none)], none, [20, 24], 0, 106496, [], [], [], []⟩,
    ⟨(some 26), .not (.t 25), none, [25], 0, 0, [], [], [], []⟩] (some ([0, 1, 5, 26], [])))
  (.cond (.t 26) (.seq (rg [
  ss 4 (.mv (.b false))] [4])
  (.ret))
  (.skip))))
  (rg [
  ss 15 (.mv (.t 5)),
  sh 16 1 (.bin .add (.t 15) (.i .i64 1)),
  ss 5 (.mv (.t 16))] [0, 1, 5]))))))
  (.seq (rg [
  ss 4 (.mv (.b true))] [4])
  (.ret))))
theorem b_laws_eqMailS : ∃ c, f62.body = some c ∧ compC prog 27 c = some c_laws_eqMailS.er ∧ drawB c c_laws_eqMailS = true := ⟨_, rfl, by kernel_rfl, by kernel_rfl⟩
theorem r_laws_eqMailS : cmpR prog [.tmp 4] = some [.t 4] := by kernel_rfl
theorem q_laws_eqMailS : callB prog F.laws_eqMailS = true := by kernel_rfl
variable [Inv prog]
theorem s_laws_eqMailS (xs : List Mail) (hl : xs.length ≤ 2097152) (hm : ∀ y ∈ xs, limM 2097152 y) : SemX prog F.laws_eqMailS [aT (.sl false 9 (xs.map (eMail false))), aT (.sl false 9 (xs.map (eMail false)))] [] [rB true] [] := by
  obtain ⟨cc, g1, g2, g3⟩ := b_laws_eqMailS
  refine SemX.of_code func62 g1 (by rw [ntmps62]; exact g2) g3 (by rw [results62]; exact r_laws_eqMailS) (by rw [ntmps62]; exact Nat.le_of_ble_eq_true rfl) (Nat.le_of_ble_eq_true rfl) (by simp) (by simp [argOk, aT, aI, aS, eMail]) ?_
  unfold c_laws_eqMailS
  simp only [rg]
  refine W_reg (by simp only [go_sem, eMail]; exact rfl) ?_
  refine CW_assoc ?_
  refine W_reg (by simp only [go_sem, eMail]; exact rfl) ?_
  refine CW_seq ?_
  refine CW_cond (by simp only [go_sem, eMail]; exact rfl) (fun c0 => ?_) (fun c0 => ?_)
  · skip
    cases c0
  · skip
    skip
    refine CW_skip ?_
    refine sq_n ?_
    refine CW_assoc ?_
    refine W_reg (by simp only [go_sem, eMail]; exact rfl) ?_
    refine CW_seq ?_
    refine CW_block ?_
    refine CW_loopS (α := Nat) (fun x => [(5, .int .i64 x)]) (fun x => []) (fun x => xs.length - x) (fun x => x ≤ xs.length) 0 [] ?_ ?_ ?_
    · (simp only [go_sem, eMail])
    · first | exact Nat.zero_le _ | (simp; done) | omega
    · rintro x hI
      refine CW_eq (by simp only [go_sem, eMail]; exact rfl) ?_
      refine CW_assoc ?_
      refine W_reg (by simp only [go_sem, eMail]; exact rfl) ?_
      refine CW_seq ?_
      refine CW_cond (by simp only [go_sem, eMail]; exact rfl) (fun c1 => ?_) (fun c1 => ?_)
      · skip
        try simp only [Bool.not_eq_eq_eq_not, Bool.not_true, Bool.not_false, decide_eq_true_eq, decide_eq_false_iff_not, Bool.and_eq_true, Bool.or_eq_true] at c1
        refine CW_skip ?_
        refine sq_n ?_
        refine CW_seq ?_
        refine CW_block ?_
        refine W_drw (by
          refine DW_cut 8 (by simp only [go_sem, eMail] <;> and_intros <;> first | with_reducible exact rfl | omega | with_reducible trivial | (intros; simp_all; done) | grind) ?_
          refine DW_ls (by simp only [List.drop_succ_cons, List.drop_zero]; exact rfl) ?_
          refine DW_callN q_laws_eqMail (s_laws_eqMail (xs.getD x zMail) ((all_getD zMail).2 hm x (by omega))) true [] [] [] rfl rfl (by simp only [go_sem, eMail]; exact rfl) (by rfl) (by simp only [go_sem, eMail]; exact rfl) ?_
          simp only [go_sem, eMail]; exact rfl) ?_
        refine CW_cond (by simp only [go_sem, eMail]; exact rfl) (fun c2 => ?_) (fun c2 => ?_)
        · skip
          cases c2
        · skip
          skip
          refine CW_skip ?_
          refine bk_n ?_
          refine sq_n ?_
          refine W_regn (by simp only [go_sem, eMail] <;> and_intros <;> first | with_reducible exact rfl | omega | with_reducible trivial | (intros; simp_all; done) | grind) ?_
          refine lp_next (x+1) [] ?_ ?_ ?_
          · (simp only [go_sem, eMail])
          · omega
          · omega
      · skip
        skip
        refine CW_exit ?_
        refine sq_e ?_
        refine lp_e ?_
        refine bk_i ?_
        refine sq_n ?_
        refine W_reg (by simp only [go_sem, eMail]; exact rfl) ?_
        refine CW_ret ?_
        simp only [go_sem, eMail]
end Go.H
end
section
set_option maxRecDepth 100000
set_option linter.unusedVariables false
set_option linter.unusedSimpArgs false
namespace Go.H
open Go Go.Proofs.Tryz
def c_laws_eqWon : SC :=
.seq (rg [
  sk 2 12288 (.box (.t 0)),
  sk 3 16384 (.box (.t 1)),
  ss 4 (.mv (.b false))] [2, 3])
  (.seq (.seq (rg [
  ss 5 (.fad (.t 2) 0),
  ss 6 (.load (.t 5) 1 false),
  ss 7 (.fad (.t 3) 0),
  ss 8 (.load (.t 7) 1 false),
  ss 9 (.bin .neq (.t 6) (.t 8))] [2, 3, 9])
  (.cond (.t 9) (.seq (rg [
  ss 4 (.mv (.b false))] [4])
  (.ret))
  (.skip)))
  (.seq (.seq (rg [
  ss 10 (.fad (.t 2) 1),
  ss 11 (.load (.t 10) 1 false),
  ss 12 (.fad (.t 3) 1),
  ss 13 (.load (.t 12) 1 false),
  ss 14 (.bin .neq (.t 11) (.t 13))] [14])
  (.cond (.t 14) (.seq (rg [
  ss 4 (.mv (.b false))] [4])
  (.ret))
  (.skip)))
  (.seq (rg [
  ss 4 (.mv (.b true))] [4])
  (.ret))))
theorem b_laws_eqWon : ∃ c, f120.body = some c ∧ compC prog 15 c = some c_laws_eqWon.er ∧ drawB c c_laws_eqWon = true := ⟨_, rfl, by kernel_rfl, by kernel_rfl⟩
theorem r_laws_eqWon : cmpR prog [.tmp 4] = some [.t 4] := by kernel_rfl
theorem q_laws_eqWon : callB prog F.laws_eqWon = true := by kernel_rfl
variable [Inv prog]
theorem s_laws_eqWon (x : Won)  : SemX prog F.laws_eqWon [aS (eWon x), aS (eWon x)] [] [rB true] [] := by
  obtain ⟨cc, g1, g2, g3⟩ := b_laws_eqWon
  refine SemX.of_code func120 g1 (by rw [ntmps120]; exact g2) g3 (by rw [results120]; exact r_laws_eqWon) (by rw [ntmps120]; exact Nat.le_of_ble_eq_true rfl) (Nat.le_of_ble_eq_true rfl) (by simp) (by simp [argOk, aT, aI, aS, eWon]) ?_
  unfold c_laws_eqWon
  simp only [rg]
  refine W_reg (by simp only [go_sem, eWon]; exact rfl) ?_
  refine CW_assoc ?_
  refine W_reg (by simp only [go_sem, eWon]; exact rfl) ?_
  refine CW_seq ?_
  refine CW_cond (by simp only [go_sem, eWon]; exact rfl) (fun c0 => ?_) (fun c0 => ?_)
  · skip
    cases c0
  · skip
    skip
    refine CW_skip ?_
    refine sq_n ?_
    refine CW_assoc ?_
    refine W_reg (by simp only [go_sem, eWon]; exact rfl) ?_
    refine CW_seq ?_
    refine CW_cond (by simp only [go_sem, eWon]; exact rfl) (fun c1 => ?_) (fun c1 => ?_)
    · skip
      cases c1
    · skip
      skip
      refine CW_skip ?_
      refine sq_n ?_
      refine W_reg (by simp only [go_sem, eWon]; exact rfl) ?_
      refine CW_ret ?_
      simp only [go_sem, eWon]
end Go.H
end
section
set_option maxRecDepth 100000
set_option linter.unusedVariables false
set_option linter.unusedSimpArgs false
namespace Go.H
open Go Go.Proofs.Tryz
def c_laws_eqWonS : SC :=
.seq (rg [
  ss 4 (.mv (.b false))] [0, 1])
  (.seq (.seq (rg [
  ss 6 (.mv (.t 0)),
  sk 7 32768 (.len (.t 6)),
  ss 8 (.mv (.t 1)),
  sk 9 40960 (.len (.t 8)),
  ss 10 (.bin .neq (.t 7) (.t 9))] [0, 1, 10])
  (.cond (.t 10) (.seq (rg [
  ss 4 (.mv (.b false))] [4])
  (.ret))
  (.skip)))
  (.seq (.seq (rg [
  ss 5 (.mv (.i .i64 0))] [0, 1, 5])
  (.block 0 (.loop (.seq (.seq (rg [
  ss 11 (.mv (.t 5)),
  ss 12 (.mv (.t 0)),
  sk 13 57344 (.len (.t 12)),
  ss 14 (.bin .lss (.t 11) (.t 13))] [0, 1, 5, 14])
  (.cond (.t 14) (.skip)
  (.exit 0)))
  (.seq (.block 1 (.seq (.reg true [
    ⟨(some 17), .mv (.t 0), none, [0], 0, 0, [], [], [], []⟩,
    ⟨(some 18), .mv (.t 5), none, [5], 0, 0, [], [], [], []⟩,
    ⟨(some 19), .idx (.t 17) (.t 18) 2, none, [17, 18], 0, 0, dWon, [], [], []⟩,
    ⟨(some 20), .load (.t 19) 2 true, none, [19], 0, 0, dWon, [], [], []⟩,
    ⟨(some 21), .mv (.t 1), none, [1], 0, 0, [], [], [], []⟩,
    ⟨(some 22), .mv (.t 5), none, [5], 0, 0, [], [], [], []⟩,
    ⟨(some 23), .idx (.t 21) (.t 22) 2, none, [21, 22], 0, 0, dWon, [], [], []⟩,
    ⟨(some 24), .load (.t 23) 2 true, none, [23], 0, 0, dWon, [], [], []⟩,
    ⟨(some 25), .call (.f F.laws_eqWon) [(.t 20, none), (.t 24, none)], none, [20, 24], 0, 106496, [], [], [], []⟩,
    ⟨(some 26), .not (.t 25), none, [25], 0, 0, [], [], [], []⟩] (some ([0, 1, 5, 26], [])))
  (.cond (.t 26) (.seq (rg [
  ss 4 (.mv (.b false))] [4])
  (.ret))
  (.skip))))
  (rg [
  ss 15 (.mv (.t 5)),
  sh 16 1 (.bin .add (.t 15) (.i .i64 1)),
  ss 5 (.mv (.t 16))] [0, 1, 5]))))))
  (.seq (rg [
  ss 4 (.mv (.b true))] [4])
  (.ret))))
theorem b_laws_eqWonS : ∃ c, f63.body = some c ∧ compC prog 27 c = some c_laws_eqWonS.er ∧ drawB c c_laws_eqWonS = true := ⟨_, rfl, by kernel_rfl, by kernel_rfl⟩
theorem r_laws_eqWonS : cmpR prog [.tmp 4] = some [.t 4] := by kernel_rfl
theorem q_laws_eqWonS : callB prog F.laws_eqWonS = true := by kernel_rfl
variable [Inv prog]
theorem s_laws_eqWonS (xs : List Won) (hl : xs.length ≤ 2097152)  : SemX prog F.laws_eqWonS [aT (.sl false 2 (xs.map eWon)), aT (.sl false 2 (xs.map eWon))] [] [rB true] [] := by
  obtain ⟨cc, g1, g2, g3⟩ := b_laws_eqWonS
  refine SemX.of_code func63 g1 (by rw [ntmps63]; exact g2) g3 (by rw [results63]; exact r_laws_eqWonS) (by rw [ntmps63]; exact Nat.le_of_ble_eq_true rfl) (Nat.le_of_ble_eq_true rfl) (by simp) (by simp [argOk, aT, aI, aS, eWon]) ?_
  unfold c_laws_eqWonS
  simp only [rg]
  refine W_reg (by simp only [go_sem, eWon]; exact rfl) ?_
  refine CW_assoc ?_
  refine W_reg (by simp only [go_sem, eWon]; exact rfl) ?_
  refine CW_seq ?_
  refine CW_cond (by simp only [go_sem, eWon]; exact rfl) (fun c0 => ?_) (fun c0 => ?_)
  · skip
    cases c0
  · skip
    skip
    refine CW_skip ?_
    refine sq_n ?_
    refine CW_assoc ?_
    refine W_reg (by simp only [go_sem, eWon]; exact rfl) ?_
    refine CW_seq ?_
    refine CW_block ?_
    refine CW_loopS (α := Nat) (fun x => [(5, .int .i64 x)]) (fun x => []) (fun x => xs.length - x) (fun x => x ≤ xs.length) 0 [] ?_ ?_ ?_
    · (simp only [go_sem, eWon])
    · first | exact Nat.zero_le _ | (simp; done) | omega
    · rintro x hI
      refine CW_eq (by simp only [go_sem, eWon]; exact rfl) ?_
      refine CW_assoc ?_
      refine W_reg (by simp only [go_sem, eWon]; exact rfl) ?_
      refine CW_seq ?_
      refine CW_cond (by simp only [go_sem, eWon]; exact rfl) (fun c1 => ?_) (fun c1 => ?_)
      · skip
        try simp only [Bool.not_eq_eq_eq_not, Bool.not_true, Bool.not_false, decide_eq_true_eq, decide_eq_false_iff_not, Bool.and_eq_true, Bool.or_eq_true] at c1
        refine CW_skip ?_
        refine sq_n ?_
        refine CW_seq ?_
        refine CW_block ?_
        refine W_drw (by
          refine DW_cut 8 (by simp only [go_sem, eWon] <;> and_intros <;> first | with_reducible exact rfl | omega | with_reducible trivial | (intros; simp_all; done) | grind) ?_
          refine DW_ls (by simp only [List.drop_succ_cons, List.drop_zero]; exact rfl) ?_
          refine DW_callN q_laws_eqWon (s_laws_eqWon (xs.getD x zWon)) true [] [] [] rfl rfl (by simp only [go_sem, eWon]; exact rfl) (by rfl) (by simp only [go_sem, eWon]; exact rfl) ?_
          simp only [go_sem, eWon]; exact rfl) ?_
        refine CW_cond (by simp only [go_sem, eWon]; exact rfl) (fun c2 => ?_) (fun c2 => ?_)
        · skip
          cases c2
        · skip
          skip
          refine CW_skip ?_
          refine bk_n ?_
          refine sq_n ?_
          refine W_regn (by simp only [go_sem, eWon] <;> and_intros <;> first | with_reducible exact rfl | omega | with_reducible trivial | (intros; simp_all; done) | grind) ?_
          refine lp_next (x+1) [] ?_ ?_ ?_
          · (simp only [go_sem, eWon])
          · omega
          · omega
      · skip
        skip
        refine CW_exit ?_
        refine sq_e ?_
        refine lp_e ?_
        refine bk_i ?_
        refine sq_n ?_
        refine W_reg (by simp only [go_sem, eWon]; exact rfl) ?_
        refine CW_ret ?_
        simp only [go_sem, eWon]
end Go.H
end
section
set_option maxRecDepth 100000
set_option linter.unusedVariables false
set_option linter.unusedSimpArgs false
namespace Go.H
open Go Go.Proofs.Tryz
def c_laws_eqSeal : SC :=
.seq (rg [
  sk 2 12288 (.box (.t 0)),
  sk 3 16384 (.box (.t 1)),
  ss 4 (.mv (.b false))] [2, 3])
  (.seq (.seq (rg [
  ss 5 (.fad (.t 2) 0),
  ss 6 (.load (.t 5) 1 false),
  ss 7 (.fad (.t 3) 0),
  ss 8 (.load (.t 7) 1 false),
  ss 9 (.bin .neq (.t 6) (.t 8))] [2, 3, 9])
  (.cond (.t 9) (.seq (rg [
  ss 4 (.mv (.b false))] [4])
  (.ret))
  (.skip)))
  (.seq (.seq (rg [
  ss 10 (.fad (.t 2) 1),
  ss 11 (.load (.t 10) 9 true),
  ss 12 (.fad (.t 3) 1),
  ss 13 (.load (.t 12) 9 true),
  sk 14 61440 (.call (.f F.laws_eqEntry) [(.t 11, none), (.t 13, none)]),
  ss 15 (.not (.t 14))] [15])
  (.cond (.t 15) (.seq (rg [
  ss 4 (.mv (.b false))] [4])
  (.ret))
  (.skip)))
  (.seq (rg [
  ss 4 (.mv (.b true))] [4])
  (.ret))))
theorem b_laws_eqSeal : ∃ c, f121.body = some c ∧ compC prog 16 c = some c_laws_eqSeal.er ∧ drawB c c_laws_eqSeal = true := ⟨_, rfl, by kernel_rfl, by kernel_rfl⟩
theorem r_laws_eqSeal : cmpR prog [.tmp 4] = some [.t 4] := by kernel_rfl
theorem q_laws_eqSeal : callB prog F.laws_eqSeal = true := by kernel_rfl
variable [Inv prog]
theorem s_laws_eqSeal (x : Seal)  : SemX prog F.laws_eqSeal [aS (eSeal x), aS (eSeal x)] [] [rB true] [] := by
  obtain ⟨cc, g1, g2, g3⟩ := b_laws_eqSeal
  refine SemX.of_code func121 g1 (by rw [ntmps121]; exact g2) g3 (by rw [results121]; exact r_laws_eqSeal) (by rw [ntmps121]; exact Nat.le_of_ble_eq_true rfl) (Nat.le_of_ble_eq_true rfl) (by simp) (by simp [argOk, aT, aI, aS, eSeal]) ?_
  unfold c_laws_eqSeal
  simp only [rg]
  refine W_reg (by simp only [go_sem, eSeal]; exact rfl) ?_
  refine CW_assoc ?_
  refine W_reg (by simp only [go_sem, eSeal]; exact rfl) ?_
  refine CW_seq ?_
  refine CW_cond (by simp only [go_sem, eSeal]; exact rfl) (fun c0 => ?_) (fun c0 => ?_)
  · skip
    cases c0
  · skip
    skip
    refine CW_skip ?_
    refine sq_n ?_
    refine CW_assoc ?_
    refine W_reg (by
      refine RW_cut 4 (by simp only [go_sem, eSeal]; exact rfl) ?_
      refine RW_ls (by simp only [List.drop_succ_cons, List.drop_zero]; exact rfl) ?_
      refine RW_callN q_laws_eqEntry (s_laws_eqEntry x.entry) true [] [] [] rfl rfl (by simp only [go_sem, eSeal, eEntry]; exact rfl) (by rfl) (by simp only [go_sem, eSeal]; exact rfl) ?_
      simp only [go_sem, eSeal]; exact rfl) ?_
    refine CW_seq ?_
    refine CW_cond (by simp only [go_sem, eSeal]; exact rfl) (fun c1 => ?_) (fun c1 => ?_)
    · skip
      cases c1
    · skip
      skip
      refine CW_skip ?_
      refine sq_n ?_
      refine W_reg (by simp only [go_sem, eSeal]; exact rfl) ?_
      refine CW_ret ?_
      simp only [go_sem, eSeal]
end Go.H
end
section
set_option maxRecDepth 100000
set_option linter.unusedVariables false
set_option linter.unusedSimpArgs false
namespace Go.H
open Go Go.Proofs.Tryz
def c_laws_eqSealS : SC :=
.seq (rg [
  ss 4 (.mv (.b false))] [0, 1])
  (.seq (.seq (rg [
  ss 6 (.mv (.t 0)),
  sk 7 32768 (.len (.t 6)),
  ss 8 (.mv (.t 1)),
  sk 9 40960 (.len (.t 8)),
  ss 10 (.bin .neq (.t 7) (.t 9))] [0, 1, 10])
  (.cond (.t 10) (.seq (rg [
  ss 4 (.mv (.b false))] [4])
  (.ret))
  (.skip)))
  (.seq (.seq (rg [
  ss 5 (.mv (.i .i64 0))] [0, 1, 5])
  (.block 0 (.loop (.seq (.seq (rg [
  ss 11 (.mv (.t 5)),
  ss 12 (.mv (.t 0)),
  sk 13 57344 (.len (.t 12)),
  ss 14 (.bin .lss (.t 11) (.t 13))] [0, 1, 5, 14])
  (.cond (.t 14) (.skip)
  (.exit 0)))
  (.seq (.block 1 (.seq (.reg true [
    ⟨(some 17), .mv (.t 0), none, [0], 0, 0, [], [], [], []⟩,
    ⟨(some 18), .mv (.t 5), none, [5], 0, 0, [], [], [], []⟩,
    ⟨(some 19), .idx (.t 17) (.t 18) 10, none, [17, 18], 0, 0, dSeal, [], [], []⟩,
    ⟨(some 20), .load (.t 19) 10 true, none, [19], 0, 0, dSeal, [], [], []⟩,
    ⟨(some 21), .mv (.t 1), none, [1], 0, 0, [], [], [], []⟩,
    ⟨(some 22), .mv (.t 5), none, [5], 0, 0, [], [], [], []⟩,
    ⟨(some 23), .idx (.t 21) (.t 22) 10, none, [21, 22], 0, 0, dSeal, [], [], []⟩,
    ⟨(some 24), .load (.t 23) 10 true, none, [23], 0, 0, dSeal, [], [], []⟩,
    ⟨(some 25), .call (.f F.laws_eqSeal) [(.t 20, none), (.t 24, none)], none, [20, 24], 0, 106496, [], [], [], []⟩,
    ⟨(some 26), .not (.t 25), none, [25], 0, 0, [], [], [], []⟩] (some ([0, 1, 5, 26], [])))
  (.cond (.t 26) (.seq (rg [
  ss 4 (.mv (.b false))] [4])
  (.ret))
  (.skip))))
  (rg [
  ss 15 (.mv (.t 5)),
  sh 16 1 (.bin .add (.t 15) (.i .i64 1)),
  ss 5 (.mv (.t 16))] [0, 1, 5]))))))
  (.seq (rg [
  ss 4 (.mv (.b true))] [4])
  (.ret))))
theorem b_laws_eqSealS : ∃ c, f64.body = some c ∧ compC prog 27 c = some c_laws_eqSealS.er ∧ drawB c c_laws_eqSealS = true := ⟨_, rfl, by kernel_rfl, by kernel_rfl⟩
theorem r_laws_eqSealS : cmpR prog [.tmp 4] = some [.t 4] := by kernel_rfl
theorem q_laws_eqSealS : callB prog F.laws_eqSealS = true := by kernel_rfl
variable [Inv prog]
theorem s_laws_eqSealS (xs : List Seal) (hl : xs.length ≤ 2097152)  : SemX prog F.laws_eqSealS [aT (.sl false 10 (xs.map eSeal)), aT (.sl false 10 (xs.map eSeal))] [] [rB true] [] := by
  obtain ⟨cc, g1, g2, g3⟩ := b_laws_eqSealS
  refine SemX.of_code func64 g1 (by rw [ntmps64]; exact g2) g3 (by rw [results64]; exact r_laws_eqSealS) (by rw [ntmps64]; exact Nat.le_of_ble_eq_true rfl) (Nat.le_of_ble_eq_true rfl) (by simp) (by simp [argOk, aT, aI, aS, eSeal]) ?_
  unfold c_laws_eqSealS
  simp only [rg]
  refine W_reg (by simp only [go_sem, eSeal]; exact rfl) ?_
  refine CW_assoc ?_
  refine W_reg (by simp only [go_sem, eSeal]; exact rfl) ?_
  refine CW_seq ?_
  refine CW_cond (by simp only [go_sem, eSeal]; exact rfl) (fun c0 => ?_) (fun c0 => ?_)
  · skip
    cases c0
  · skip
    skip
    refine CW_skip ?_
    refine sq_n ?_
    refine CW_assoc ?_
    refine W_reg (by simp only [go_sem, eSeal]; exact rfl) ?_
    refine CW_seq ?_
    refine CW_block ?_
    refine CW_loopS (α := Nat) (fun x => [(5, .int .i64 x)]) (fun x => []) (fun x => xs.length - x) (fun x => x ≤ xs.length) 0 [] ?_ ?_ ?_
    · (simp only [go_sem, eSeal])
    · first | exact Nat.zero_le _ | (simp; done) | omega
    · rintro x hI
      refine CW_eq (by simp only [go_sem, eSeal]; exact rfl) ?_
      refine CW_assoc ?_
      refine W_reg (by simp only [go_sem, eSeal]; exact rfl) ?_
      refine CW_seq ?_
      refine CW_cond (by simp only [go_sem, eSeal]; exact rfl) (fun c1 => ?_) (fun c1 => ?_)
      · skip
        try simp only [Bool.not_eq_eq_eq_not, Bool.not_true, Bool.not_false, decide_eq_true_eq, decide_eq_false_iff_not, Bool.and_eq_true, Bool.or_eq_true] at c1
        refine CW_skip ?_
        refine sq_n ?_
        refine CW_seq ?_
        refine CW_block ?_
        refine W_drw (by
          refine DW_cut 8 (by simp only [go_sem, eSeal] <;> and_intros <;> first | with_reducible exact rfl | omega | with_reducible trivial | (intros; simp_all; done) | grind) ?_
          refine DW_ls (by simp only [List.drop_succ_cons, List.drop_zero]; exact rfl) ?_
          refine DW_callN q_laws_eqSeal (s_laws_eqSeal (xs.getD x zSeal)) true [] [] [] rfl rfl (by simp only [go_sem, eSeal]; exact rfl) (by rfl) (by simp only [go_sem, eSeal]; exact rfl) ?_
          simp only [go_sem, eSeal]; exact rfl) ?_
        refine CW_cond (by simp only [go_sem, eSeal]; exact rfl) (fun c2 => ?_) (fun c2 => ?_)
        · skip
          cases c2
        · skip
          skip
          refine CW_skip ?_
          refine bk_n ?_
          refine sq_n ?_
          refine W_regn (by simp only [go_sem, eSeal] <;> and_intros <;> first | with_reducible exact rfl | omega | with_reducible trivial | (intros; simp_all; done) | grind) ?_
          refine lp_next (x+1) [] ?_ ?_ ?_
          · (simp only [go_sem, eSeal])
          · omega
          · omega
      · skip
        skip
        refine CW_exit ?_
        refine sq_e ?_
        refine lp_e ?_
        refine bk_i ?_
        refine sq_n ?_
        refine W_reg (by simp only [go_sem, eSeal]; exact rfl) ?_
        refine CW_ret ?_
        simp only [go_sem, eSeal]
end Go.H
end
section
set_option maxRecDepth 100000
set_option linter.unusedVariables false
set_option linter.unusedSimpArgs false
namespace Go.H
open Go Go.Proofs.Tryz
def c_laws_eqCluster : SC :=
.seq (rg [
  sk 2 12288 (.box (.t 0)),
  sk 3 16384 (.box (.t 1)),
  ss 4 (.mv (.b false))] [2, 3])
  (.seq (.seq (rg [
  ss 5 (.fad (.t 2) 0),
  ss 6 (.load (.t 5) 1 false),
  ss 7 (.fad (.t 3) 0),
  ss 8 (.load (.t 7) 1 false),
  sk 9 40960 (.call (.f F.laws_eqNodeS) [(.t 6, none), (.t 8, none)]),
  ss 10 (.not (.t 9))] [2, 3, 10])
  (.cond (.t 10) (.seq (rg [
  ss 4 (.mv (.b false))] [4])
  (.ret))
  (.skip)))
  (.seq (.seq (rg [
  ss 11 (.fad (.t 2) 1),
  ss 12 (.load (.t 11) 1 false),
  ss 13 (.fad (.t 3) 1),
  ss 14 (.load (.t 13) 1 false),
  sk 15 65536 (.call (.f F.laws_eqMailS) [(.t 12, none), (.t 14, none)]),
  ss 16 (.not (.t 15))] [2, 3, 16])
  (.cond (.t 16) (.seq (rg [
  ss 4 (.mv (.b false))] [4])
  (.ret))
  (.skip)))
  (.seq (.seq (rg [
  ss 17 (.fad (.t 2) 2),
  ss 18 (.load (.t 17) 1 false),
  ss 19 (.fad (.t 3) 2),
  ss 20 (.load (.t 19) 1 false),
  sk 21 90112 (.call (.f F.laws_eqWonS) [(.t 18, none), (.t 20, none)]),
  ss 22 (.not (.t 21))] [2, 3, 22])
  (.cond (.t 22) (.seq (rg [
  ss 4 (.mv (.b false))] [4])
  (.ret))
  (.skip)))
  (.seq (.seq (rg [
  ss 23 (.fad (.t 2) 3),
  ss 24 (.load (.t 23) 1 false),
  ss 25 (.fad (.t 3) 3),
  ss 26 (.load (.t 25) 1 false),
  sk 27 114688 (.call (.f F.laws_eqSealS) [(.t 24, none), (.t 26, none)]),
  ss 28 (.not (.t 27))] [28])
  (.cond (.t 28) (.seq (rg [
  ss 4 (.mv (.b false))] [4])
  (.ret))
  (.skip)))
  (.seq (rg [
  ss 4 (.mv (.b true))] [4])
  (.ret))))))
theorem b_laws_eqCluster : ∃ c, f16.body = some c ∧ compC prog 29 c = some c_laws_eqCluster.er ∧ drawB c c_laws_eqCluster = true := ⟨_, rfl, by kernel_rfl, by kernel_rfl⟩
theorem r_laws_eqCluster : cmpR prog [.tmp 4] = some [.t 4] := by kernel_rfl
theorem q_laws_eqCluster : callB prog F.laws_eqCluster = true := by kernel_rfl
variable [Inv prog]
theorem s_laws_eqCluster (x : Cluster) (hx : limC 2097152 x) : SemX prog F.laws_eqCluster [aS (eCluster false x), aS (eCluster false x)] [] [rB true] [] := by
  obtain ⟨cc, g1, g2, g3⟩ := b_laws_eqCluster
  refine SemX.of_code func16 g1 (by rw [ntmps16]; exact g2) g3 (by rw [results16]; exact r_laws_eqCluster) (by rw [ntmps16]; exact Nat.le_of_ble_eq_true rfl) (Nat.le_of_ble_eq_true rfl) (by simp) (by simp [argOk, aT, aI, aS, eCluster]) ?_
  unfold c_laws_eqCluster
  simp only [rg]
  refine W_reg (by simp only [go_sem, eCluster]; exact rfl) ?_
  refine CW_assoc ?_
  refine W_reg (by
    refine RW_cut 4 (by simp only [go_sem, eCluster]; exact rfl) ?_
    refine RW_ls (by simp only [List.drop_succ_cons, List.drop_zero]; exact rfl) ?_
    refine RW_callN q_laws_eqNodeS (s_laws_eqNodeS x.nodes hx.1.1 hx.1.2) true [] [] [] rfl rfl (by simp only [go_sem, eCluster]; exact rfl) (by rfl) (by simp only [go_sem, eCluster]; exact rfl) ?_
    simp only [go_sem, eCluster]; exact rfl) ?_
  refine CW_seq ?_
  refine CW_cond (by simp only [go_sem, eCluster]; exact rfl) (fun c0 => ?_) (fun c0 => ?_)
  · skip
    cases c0
  · skip
    skip
    refine CW_skip ?_
    refine sq_n ?_
    refine CW_assoc ?_
    refine W_reg (by
      refine RW_cut 4 (by simp only [go_sem, eCluster]; exact rfl) ?_
      refine RW_ls (by simp only [List.drop_succ_cons, List.drop_zero]; exact rfl) ?_
      refine RW_callN q_laws_eqMailS (s_laws_eqMailS x.mails hx.2.1.1 hx.2.1.2) true [] [] [] rfl rfl (by simp only [go_sem, eCluster]; exact rfl) (by rfl) (by simp only [go_sem, eCluster]; exact rfl) ?_
      simp only [go_sem, eCluster]; exact rfl) ?_
    refine CW_seq ?_
    refine CW_cond (by simp only [go_sem, eCluster]; exact rfl) (fun c1 => ?_) (fun c1 => ?_)
    · skip
      cases c1
    · skip
      skip
      refine CW_skip ?_
      refine sq_n ?_
      refine CW_assoc ?_
      refine W_reg (by
        refine RW_cut 4 (by simp only [go_sem, eCluster]; exact rfl) ?_
        refine RW_ls (by simp only [List.drop_succ_cons, List.drop_zero]; exact rfl) ?_
        refine RW_callN q_laws_eqWonS (s_laws_eqWonS x.wins hx.2.2.1) true [] [] [] rfl rfl (by simp only [go_sem, eCluster]; exact rfl) (by rfl) (by simp only [go_sem, eCluster]; exact rfl) ?_
        simp only [go_sem, eCluster]; exact rfl) ?_
      refine CW_seq ?_
      refine CW_cond (by simp only [go_sem, eCluster]; exact rfl) (fun c2 => ?_) (fun c2 => ?_)
      · skip
        cases c2
      · skip
        skip
        refine CW_skip ?_
        refine sq_n ?_
        refine CW_assoc ?_
        refine W_reg (by
          refine RW_cut 4 (by simp only [go_sem, eCluster]; exact rfl) ?_
          refine RW_ls (by simp only [List.drop_succ_cons, List.drop_zero]; exact rfl) ?_
          refine RW_callN q_laws_eqSealS (s_laws_eqSealS x.seals hx.2.2.2) true [] [] [] rfl rfl (by simp only [go_sem, eCluster]; exact rfl) (by rfl) (by simp only [go_sem, eCluster]; exact rfl) ?_
          simp only [go_sem, eCluster]; exact rfl) ?_
        refine CW_seq ?_
        refine CW_cond (by simp only [go_sem, eCluster]; exact rfl) (fun c3 => ?_) (fun c3 => ?_)
        · skip
          cases c3
        · skip
          skip
          refine CW_skip ?_
          refine sq_n ?_
          refine W_reg (by simp only [go_sem, eCluster]; exact rfl) ?_
          refine CW_ret ?_
          simp only [go_sem, eCluster]
end Go.H
end
section
set_option maxRecDepth 100000
set_option linter.unusedVariables false
set_option linter.unusedSimpArgs false
namespace Go.H
open Go Go.Proofs.Tryz
def c_laws_eqClusterResult : SC :=
.seq (rg [
  sk 2 12288 (.box (.t 0)),
  sk 3 16384 (.box (.t 1)),
  ss 4 (.mv (.b false))] [2, 3])
  (.seq (.seq (rg [
  ss 5 (.fad (.t 2) 0),
  ss 6 (.load (.t 5) 1 false),
  ss 7 (.fad (.t 3) 0),
  ss 8 (.load (.t 7) 1 false),
  ss 9 (.bin .neq (.t 6) (.t 8))] [2, 3, 9])
  (.cond (.t 9) (.seq (rg [
  ss 4 (.mv (.b false))] [4])
  (.ret))
  (.skip)))
  (.seq (.seq (rg [
  ss 10 (.fad (.t 2) 1),
  ss 11 (.load (.t 10) 4 true),
  ss 12 (.fad (.t 3) 1),
  ss 13 (.load (.t 12) 4 true),
  sk 14 61440 (.call (.f F.laws_eqCluster) [(.t 11, none), (.t 13, none)]),
  ss 15 (.not (.t 14))] [15])
  (.cond (.t 15) (.seq (rg [
  ss 4 (.mv (.b false))] [4])
  (.ret))
  (.skip)))
  (.seq (rg [
  ss 4 (.mv (.b true))] [4])
  (.ret))))
theorem b_laws_eqClusterResult : ∃ c, f15.body = some c ∧ compC prog 16 c = some c_laws_eqClusterResult.er ∧ drawB c c_laws_eqClusterResult = true := ⟨_, rfl, by kernel_rfl, by kernel_rfl⟩
theorem r_laws_eqClusterResult : cmpR prog [.tmp 4] = some [.t 4] := by kernel_rfl
theorem q_laws_eqClusterResult : callB prog F.laws_eqClusterResult = true := by kernel_rfl
variable [Inv prog]
theorem s_laws_eqClusterResult (x : ClusterResult) (hx : limC 2097152 x.cluster) : SemX prog F.laws_eqClusterResult [aS (eClusterResult false x), aS (eClusterResult false x)] [] [rB true] [] := by
  obtain ⟨cc, g1, g2, g3⟩ := b_laws_eqClusterResult
  refine SemX.of_code func15 g1 (by rw [ntmps15]; exact g2) g3 (by rw [results15]; exact r_laws_eqClusterResult) (by rw [ntmps15]; exact Nat.le_of_ble_eq_true rfl) (Nat.le_of_ble_eq_true rfl) (by simp) (by simp [argOk, aT, aI, aS, eClusterResult]) ?_
  unfold c_laws_eqClusterResult
  simp only [rg]
  refine W_reg (by simp only [go_sem, eClusterResult]; exact rfl) ?_
  refine CW_assoc ?_
  refine W_reg (by simp only [go_sem, eClusterResult]; exact rfl) ?_
  refine CW_seq ?_
  refine CW_cond (by simp only [go_sem, eClusterResult]; exact rfl) (fun c0 => ?_) (fun c0 => ?_)
  · skip
    cases c0
  · skip
    skip
    refine CW_skip ?_
    refine sq_n ?_
    refine CW_assoc ?_
    refine W_reg (by
      refine RW_cut 4 (by simp only [go_sem, eClusterResult]; exact rfl) ?_
      refine RW_ls (by simp only [List.drop_succ_cons, List.drop_zero]; exact rfl) ?_
      refine RW_callN q_laws_eqCluster (s_laws_eqCluster x.cluster hx) true [] [] [] rfl rfl (by simp only [go_sem, eClusterResult, eCluster]; exact rfl) (by rfl) (by simp only [go_sem, eClusterResult]; exact rfl) ?_
      simp only [go_sem, eClusterResult]; exact rfl) ?_
    refine CW_seq ?_
    refine CW_cond (by simp only [go_sem, eClusterResult]; exact rfl) (fun c1 => ?_) (fun c1 => ?_)
    · skip
      cases c1
    · skip
      skip
      refine CW_skip ?_
      refine sq_n ?_
      refine W_reg (by simp only [go_sem, eClusterResult]; exact rfl) ?_
      refine CW_ret ?_
      simp only [go_sem, eClusterResult]
end Go.H
end
section
set_option maxRecDepth 100000
set_option linter.unusedVariables false
set_option linter.unusedSimpArgs false
namespace Go.H
open Go Go.Proofs.Tryz
def c_laws_markEntryS : SC :=
.seq (rg [
  ss 4 (.mv (.i .i64 0))] [0, 1])
  (.seq (.seq (rg [
  ss 5 (.mv (.i .i64 0))] [0, 1, 5])
  (.block 0 (.loop (.seq (.seq (rg [
  ss 6 (.mv (.t 5)),
  ss 7 (.mv (.t 0)),
  sk 8 36864 (.len (.t 7)),
  ss 9 (.bin .lss (.t 6) (.t 8))] [0, 1, 5, 9])
  (.cond (.t 9) (.skip)
  (.exit 0)))
  (.seq (.block 1 (.seq (rg [
  ss 12 (.mv (.t 0)),
  ss 13 (.mv (.t 5)),
  ss 14 (.mv (.t 1)),
  sd (some 15) 0 0 dEntry (.idx (.t 12) (.t 13) 9),
  ss 16 (.fad (.t 15) 0),
  sd none 0 0 dEntry (.store (.t 16) (.t 14) 1)] [0, 1, 5])
  (.seq (rg [
  ss 17 (.mv (.t 1)),
  sh 18 1 (.bin .add (.t 17) (.i .i64 1)),
  ss 1 (.mv (.t 18))] [0, 1, 5])
  (.seq (rg [
  ss 19 (.mv (.t 0)),
  ss 20 (.mv (.t 5)),
  ss 21 (.mv (.t 1)),
  sd (some 22) 0 0 dEntry (.idx (.t 19) (.t 20) 9),
  ss 23 (.fad (.t 22) 1),
  sd none 0 0 dEntry (.store (.t 23) (.t 21) 1)] [0, 1, 5])
  (.seq (rg [
  ss 24 (.mv (.t 1)),
  sh 25 1 (.bin .add (.t 24) (.i .i64 1)),
  ss 1 (.mv (.t 25))] [0, 1, 5])
  (.seq (rg [
  ss 26 (.mv (.t 0)),
  ss 27 (.mv (.t 5)),
  ss 28 (.mv (.t 1)),
  sd (some 29) 0 0 dEntry (.idx (.t 26) (.t 27) 9),
  ss 30 (.fad (.t 29) 2),
  sd none 0 0 dEntry (.store (.t 30) (.t 28) 1)] [0, 1, 5])
  (.seq (rg [
  ss 31 (.mv (.t 1)),
  sh 32 1 (.bin .add (.t 31) (.i .i64 1)),
  ss 1 (.mv (.t 32))] [0, 1, 5])
  (.seq (rg [
  ss 33 (.mv (.t 0)),
  ss 34 (.mv (.t 5)),
  ss 35 (.mv (.t 1)),
  sd (some 36) 0 0 dEntry (.idx (.t 33) (.t 34) 9),
  ss 37 (.fad (.t 36) 3),
  ss 38 (.fad (.t 37) 0),
  sd none 0 0 dEntry (.store (.t 38) (.t 35) 1)] [0, 1, 5])
  (.seq (rg [
  ss 39 (.mv (.t 1)),
  sh 40 1 (.bin .add (.t 39) (.i .i64 1)),
  ss 1 (.mv (.t 40))] [0, 1, 5])
  (.seq (rg [
  ss 41 (.mv (.t 0)),
  ss 42 (.mv (.t 5)),
  ss 43 (.mv (.t 1)),
  sd (some 44) 0 0 dEntry (.idx (.t 41) (.t 42) 9),
  ss 45 (.fad (.t 44) 3),
  ss 46 (.fad (.t 45) 1),
  sd none 0 0 dEntry (.store (.t 46) (.t 43) 1)] [0, 1, 5])
  (.seq (rg [
  ss 47 (.mv (.t 1)),
  sh 48 1 (.bin .add (.t 47) (.i .i64 1)),
  ss 1 (.mv (.t 48))] [0, 1, 5])
  (.seq (rg [
  ss 49 (.mv (.t 0)),
  ss 50 (.mv (.t 5)),
  ss 51 (.mv (.t 1)),
  sd (some 52) 0 0 dEntry (.idx (.t 49) (.t 50) 9),
  ss 53 (.fad (.t 52) 3),
  ss 54 (.fad (.t 53) 2),
  sd none 0 0 dEntry (.store (.t 54) (.t 51) 1)] [0, 1, 5])
  (.seq (rg [
  ss 55 (.mv (.t 1)),
  sh 56 1 (.bin .add (.t 55) (.i .i64 1)),
  ss 1 (.mv (.t 56))] [0, 1, 5])
  (.seq (rg [
  ss 57 (.mv (.t 0)),
  ss 58 (.mv (.t 5)),
  ss 59 (.mv (.t 1)),
  sd (some 60) 0 0 dEntry (.idx (.t 57) (.t 58) 9),
  ss 61 (.fad (.t 60) 3),
  ss 62 (.fad (.t 61) 3),
  sd none 0 0 dEntry (.store (.t 62) (.t 59) 1)] [0, 1, 5])
  (.seq (rg [
  ss 63 (.mv (.t 1)),
  sh 64 1 (.bin .add (.t 63) (.i .i64 1)),
  ss 1 (.mv (.t 64))] [0, 1, 5])
  (.seq (rg [
  ss 65 (.mv (.t 0)),
  ss 66 (.mv (.t 5)),
  ss 67 (.mv (.t 1)),
  sd (some 68) 0 0 dEntry (.idx (.t 65) (.t 66) 9),
  ss 69 (.fad (.t 68) 3),
  ss 70 (.fad (.t 69) 4),
  sd none 0 0 dEntry (.store (.t 70) (.t 67) 1)] [0, 1, 5])
  (.seq (rg [
  ss 71 (.mv (.t 1)),
  sh 72 1 (.bin .add (.t 71) (.i .i64 1)),
  ss 1 (.mv (.t 72))] [0, 1, 5])
  (.seq (rg [
  ss 73 (.mv (.t 0)),
  ss 74 (.mv (.t 5)),
  ss 75 (.mv (.t 1)),
  sd (some 76) 0 0 dEntry (.idx (.t 73) (.t 74) 9),
  ss 77 (.fad (.t 76) 3),
  ss 78 (.fad (.t 77) 5),
  sd none 0 0 dEntry (.store (.t 78) (.t 75) 1)] [0, 1, 5])
  (rg [
  ss 79 (.mv (.t 1)),
  sh 80 1 (.bin .add (.t 79) (.i .i64 1)),
  ss 1 (.mv (.t 80))] [0, 1, 5])))))))))))))))))))
  (rg [
  ss 10 (.mv (.t 5)),
  sh 11 1 (.bin .add (.t 10) (.i .i64 1)),
  ss 5 (.mv (.t 11))] [0, 1, 5]))))))
  (.seq (rg [
  ss 81 (.mv (.t 1)),
  ss 4 (.mv (.t 81))] [4])
  (.ret)))
theorem b_laws_markEntryS : ∃ c, f89.body = some c ∧ compC prog 82 c = some c_laws_markEntryS.er ∧ drawB c c_laws_markEntryS = true := ⟨_, rfl, by kernel_rfl, by kernel_rfl⟩
theorem r_laws_markEntryS : cmpR prog [.tmp 4] = some [.t 4] := by kernel_rfl
theorem q_laws_markEntryS : callB prog F.laws_markEntryS = true := by kernel_rfl
variable [Inv prog]
theorem s_laws_markEntryS (xs : List Entry) (k : Int) (hk : 0 ≤ k) (hl : xs.length ≤ 2097152) (hb : mkK sE xs k ≤ 9000000000000000000) : SemX prog F.laws_markEntryS [.one (.arr 0), aI k] [.arr 9 (xs.map eEntry)] [rI (mkK sE xs k)] [.arr 9 ((mkL mE sE xs k).map eEntry)] := by
  obtain ⟨cc, g1, g2, g3⟩ := b_laws_markEntryS
  refine SemX.of_code func89 g1 (by rw [ntmps89]; exact g2) g3 (by rw [results89]; exact r_laws_markEntryS) (by rw [ntmps89]; exact Nat.le_of_ble_eq_true rfl) (Nat.le_of_ble_eq_true rfl) (by simp [obOk]) (by simp [argOk, aT, aI, aS, eEntry]) ?_
  unfold c_laws_markEntryS
  simp only [rg]
  refine W_reg (by simp only [go_sem, eEntry]; exact rfl) ?_
  refine CW_assoc ?_
  refine W_reg (by simp only [go_sem, eEntry]; exact rfl) ?_
  refine CW_seq ?_
  refine CW_block ?_
  refine CW_loopS (α := Nat) (fun x => [(1, .int .i64 (mkK sE (xs.take x) k)), (5, .int .i64 x)]) (fun x => [(1000000, .arr ⟨9, (mkL mE sE (xs.take x) k ++ xs.drop x).map eEntry, 1 + 9 * x, none⟩)]) (fun x => xs.length - x) (fun x => x ≤ xs.length) 0 [] ?_ ?_ ?_
  · (simp only [go_sem, eEntry] <;> and_intros <;> first | with_reducible exact rfl | (first | omega | (simp [mkL, mkK]; done)))
  · first | exact Nat.zero_le _ | (simp; done) | omega
  · rintro x hI
    refine CW_eq (by simp only [go_sem, eEntry]; exact rfl) ?_
    refine CW_assoc ?_
    refine W_reg (by simp only [go_sem, eEntry]; exact rfl) ?_
    refine CW_seq ?_
    refine CW_cond (by simp only [go_sem, eEntry]; exact rfl) (fun c0 => ?_) (fun c0 => ?_)
    · skip
      try simp only [Bool.not_eq_eq_eq_not, Bool.not_true, Bool.not_false, decide_eq_true_eq, decide_eq_false_iff_not, Bool.and_eq_true, Bool.or_eq_true] at c0
      have hat := mkK_at sE_up zEntry (xs := xs) (i := x) (by omega) hb
      simp only [sE] at hat
      have hg : ∀ r, (((mkL mE sE (xs.take x) k ++ xs.drop x).map eEntry).set x r).getD x dEntry = r := fun r => getD_set_self (by simp [mkL_length]; omega) r _
      refine CW_skip ?_
      refine sq_n ?_
      refine CW_seq ?_
      refine CW_block ?_
      refine W_reg (by simp only [go_sem, eEntry, hg, List.set_set, mkL_length, mk_getD mE sE zEntry k (show x < xs.length by omega)] <;> and_intros <;> first | with_reducible exact rfl | omega | with_reducible trivial | (intros; simp_all; done) | grind) ?_
      refine W_reg (by simp only [go_sem, eEntry, hg, List.set_set, mkL_length, mk_getD mE sE zEntry k (show x < xs.length by omega)] <;> and_intros <;> first | with_reducible exact rfl | omega | with_reducible trivial | (intros; simp_all; done) | grind) ?_
      refine W_reg (by simp only [go_sem, eEntry, hg, List.set_set, mkL_length, mk_getD mE sE zEntry k (show x < xs.length by omega)] <;> and_intros <;> first | with_reducible exact rfl | omega | with_reducible trivial | (intros; simp_all; done) | grind) ?_
      refine W_reg (by simp only [go_sem, eEntry, hg, List.set_set, mkL_length, mk_getD mE sE zEntry k (show x < xs.length by omega)] <;> and_intros <;> first | with_reducible exact rfl | omega | with_reducible trivial | (intros; simp_all; done) | grind) ?_
      refine W_reg (by simp only [go_sem, eEntry, hg, List.set_set, mkL_length, mk_getD mE sE zEntry k (show x < xs.length by omega)] <;> and_intros <;> first | with_reducible exact rfl | omega | with_reducible trivial | (intros; simp_all; done) | grind) ?_
      refine W_reg (by simp only [go_sem, eEntry, hg, List.set_set, mkL_length, mk_getD mE sE zEntry k (show x < xs.length by omega)] <;> and_intros <;> first | with_reducible exact rfl | omega | with_reducible trivial | (intros; simp_all; done) | grind) ?_
      refine W_reg (by simp only [go_sem, eEntry, hg, List.set_set, mkL_length, mk_getD mE sE zEntry k (show x < xs.length by omega)] <;> and_intros <;> first | with_reducible exact rfl | omega | with_reducible trivial | (intros; simp_all; done) | grind) ?_
      refine W_reg (by simp only [go_sem, eEntry, hg, List.set_set, mkL_length, mk_getD mE sE zEntry k (show x < xs.length by omega)] <;> and_intros <;> first | with_reducible exact rfl | omega | with_reducible trivial | (intros; simp_all; done) | grind) ?_
      refine W_reg (by simp only [go_sem, eEntry, hg, List.set_set, mkL_length, mk_getD mE sE zEntry k (show x < xs.length by omega)] <;> and_intros <;> first | with_reducible exact rfl | omega | with_reducible trivial | (intros; simp_all; done) | grind) ?_
      refine W_reg (by simp only [go_sem, eEntry, hg, List.set_set, mkL_length, mk_getD mE sE zEntry k (show x < xs.length by omega)] <;> and_intros <;> first | with_reducible exact rfl | omega | with_reducible trivial | (intros; simp_all; done) | grind) ?_
      refine W_reg (by simp only [go_sem, eEntry, hg, List.set_set, mkL_length, mk_getD mE sE zEntry k (show x < xs.length by omega)] <;> and_intros <;> first | with_reducible exact rfl | omega | with_reducible trivial | (intros; simp_all; done) | grind) ?_
      refine W_reg (by simp only [go_sem, eEntry, hg, List.set_set, mkL_length, mk_getD mE sE zEntry k (show x < xs.length by omega)] <;> and_intros <;> first | with_reducible exact rfl | omega | with_reducible trivial | (intros; simp_all; done) | grind) ?_
      refine W_reg (by simp only [go_sem, eEntry, hg, List.set_set, mkL_length, mk_getD mE sE zEntry k (show x < xs.length by omega)] <;> and_intros <;> first | with_reducible exact rfl | omega | with_reducible trivial | (intros; simp_all; done) | grind) ?_
      refine W_reg (by simp only [go_sem, eEntry, hg, List.set_set, mkL_length, mk_getD mE sE zEntry k (show x < xs.length by omega)] <;> and_intros <;> first | with_reducible exact rfl | omega | with_reducible trivial | (intros; simp_all; done) | grind) ?_
      refine W_reg (by simp only [go_sem, eEntry, hg, List.set_set, mkL_length, mk_getD mE sE zEntry k (show x < xs.length by omega)] <;> and_intros <;> first | with_reducible exact rfl | omega | with_reducible trivial | (intros; simp_all; done) | grind) ?_
      refine W_reg (by simp only [go_sem, eEntry, hg, List.set_set, mkL_length, mk_getD mE sE zEntry k (show x < xs.length by omega)] <;> and_intros <;> first | with_reducible exact rfl | omega | with_reducible trivial | (intros; simp_all; done) | grind) ?_
      refine W_reg (by simp only [go_sem, eEntry, hg, List.set_set, mkL_length, mk_getD mE sE zEntry k (show x < xs.length by omega)] <;> and_intros <;> first | with_reducible exact rfl | omega | with_reducible trivial | (intros; simp_all; done) | grind) ?_
      refine W_regn (by simp only [go_sem, eEntry, hg, List.set_set, mkL_length, mk_getD mE sE zEntry k (show x < xs.length by omega)] <;> and_intros <;> first | with_reducible exact rfl | omega | with_reducible trivial | (intros; simp_all; done) | grind) ?_
      refine bk_n ?_
      refine sq_n ?_
      refine W_regn (by simp only [go_sem, eEntry, hg, List.set_set, mkL_length, mk_getD mE sE zEntry k (show x < xs.length by omega)] <;> and_intros <;> first | with_reducible exact rfl | omega | with_reducible trivial | (intros; simp_all; done) | grind) ?_
      refine lp_next (x+1) [] ?_ ?_ ?_
      · (simp only [go_sem, eEntry, hg, List.set_set, mkL_length, mk_getD mE sE zEntry k (show x < xs.length by omega)] <;> and_intros <;> first | with_reducible exact rfl | (first | omega | (refine int_eq ?_; rw [mkK_succ sE zEntry (by omega)]; rfl) | (refine arr_eq ?_ (by omega); rw [← mk_step eEntry mE sE zEntry (by omega)]; simp only [eEntry, mE, mE, mC])))
      · omega
      · omega
    · skip
      try simp only [Bool.not_eq_eq_eq_not, Bool.not_true, Bool.not_false, decide_eq_true_eq, decide_eq_false_iff_not, Bool.and_eq_true, Bool.or_eq_true] at c0
      obtain rfl : x = xs.length := by omega
      refine CW_exit ?_
      refine sq_e ?_
      refine lp_e ?_
      refine bk_i ?_
      refine sq_n ?_
      refine W_reg (by simp only [go_sem, eEntry]; exact rfl) ?_
      refine CW_ret ?_
      simp only [go_sem, eEntry, List.drop_length, mkL_length]
      all_goals try first | refine int_res ?_ | refine bool_res ?_
      all_goals
        simp [mkL_length]
end Go.H
end
section
set_option maxRecDepth 100000
set_option linter.unusedVariables false
set_option linter.unusedSimpArgs false
namespace Go.H
open Go Go.Proofs.Tryz
def c_laws_markInt64S : SC :=
.seq (rg [
  ss 4 (.mv (.i .i64 0))] [0, 1])
  (.seq (.seq (rg [
  ss 5 (.mv (.i .i64 0))] [0, 1, 5])
  (.block 0 (.loop (.seq (.seq (rg [
  ss 6 (.mv (.t 5)),
  ss 7 (.mv (.t 0)),
  sk 8 36864 (.len (.t 7)),
  ss 9 (.bin .lss (.t 6) (.t 8))] [0, 1, 5, 9])
  (.cond (.t 9) (.skip)
  (.exit 0)))
  (.seq (.block 1 (.seq (rg [
  ss 12 (.mv (.t 0)),
  ss 13 (.mv (.t 5)),
  ss 14 (.mv (.t 1)),
  sd (some 15) 0 0 dI_i64 (.idx (.t 12) (.t 13) 1),
  sd none 0 0 dI_i64 (.store (.t 15) (.t 14) 1)] [0, 1, 5])
  (rg [
  ss 16 (.mv (.t 1)),
  sh 17 1 (.bin .add (.t 16) (.i .i64 1)),
  ss 1 (.mv (.t 17))] [0, 1, 5])))
  (rg [
  ss 10 (.mv (.t 5)),
  sh 11 1 (.bin .add (.t 10) (.i .i64 1)),
  ss 5 (.mv (.t 11))] [0, 1, 5]))))))
  (.seq (rg [
  ss 18 (.mv (.t 1)),
  ss 4 (.mv (.t 18))] [4])
  (.ret)))
theorem b_laws_markInt64S : ∃ c, f90.body = some c ∧ compC prog 19 c = some c_laws_markInt64S.er ∧ drawB c c_laws_markInt64S = true := ⟨_, rfl, by kernel_rfl, by kernel_rfl⟩
theorem r_laws_markInt64S : cmpR prog [.tmp 4] = some [.t 4] := by kernel_rfl
theorem q_laws_markInt64S : callB prog F.laws_markInt64S = true := by kernel_rfl
variable [Inv prog]
theorem s_laws_markInt64S (xs : List Int) (k : Int) (hk : 0 ≤ k) (hl : xs.length ≤ 2097152) (hb : mkK sI xs k ≤ 9000000000000000000) : SemX prog F.laws_markInt64S [.one (.arr 0), aI k] [.arr 1 (xs.map eI_i64)] [rI (mkK sI xs k)] [.arr 1 ((mkL mI sI xs k).map eI_i64)] := by
  obtain ⟨cc, g1, g2, g3⟩ := b_laws_markInt64S
  refine SemX.of_code func90 g1 (by rw [ntmps90]; exact g2) g3 (by rw [results90]; exact r_laws_markInt64S) (by rw [ntmps90]; exact Nat.le_of_ble_eq_true rfl) (Nat.le_of_ble_eq_true rfl) (by simp [obOk]) (by simp [argOk, aT, aI, aS, eI_i64]) ?_
  unfold c_laws_markInt64S
  simp only [rg]
  refine W_reg (by simp only [go_sem, eI_i64]; exact rfl) ?_
  refine CW_assoc ?_
  refine W_reg (by simp only [go_sem, eI_i64]; exact rfl) ?_
  refine CW_seq ?_
  refine CW_block ?_
  refine CW_loopS (α := Nat) (fun x => [(1, .int .i64 (mkK sI (xs.take x) k)), (5, .int .i64 x)]) (fun x => [(1000000, .arr ⟨1, (mkL mI sI (xs.take x) k ++ xs.drop x).map eI_i64, 1 + 1 * x, none⟩)]) (fun x => xs.length - x) (fun x => x ≤ xs.length) 0 [] ?_ ?_ ?_
  · (simp only [go_sem, eI_i64] <;> and_intros <;> first | with_reducible exact rfl | (first | omega | (simp [mkL, mkK]; done)))
  · first | exact Nat.zero_le _ | (simp; done) | omega
  · rintro x hI
    refine CW_eq (by simp only [go_sem, eI_i64]; exact rfl) ?_
    refine CW_assoc ?_
    refine W_reg (by simp only [go_sem, eI_i64]; exact rfl) ?_
    refine CW_seq ?_
    refine CW_cond (by simp only [go_sem, eI_i64]; exact rfl) (fun c0 => ?_) (fun c0 => ?_)
    · skip
      try simp only [Bool.not_eq_eq_eq_not, Bool.not_true, Bool.not_false, decide_eq_true_eq, decide_eq_false_iff_not, Bool.and_eq_true, Bool.or_eq_true] at c0
      have hat := mkK_at sI_up zI_i64 (xs := xs) (i := x) (by omega) hb
      simp only [sI] at hat
      have hg : ∀ r, (((mkL mI sI (xs.take x) k ++ xs.drop x).map eI_i64).set x r).getD x dI_i64 = r := fun r => getD_set_self (by simp [mkL_length]; omega) r _
      refine CW_skip ?_
      refine sq_n ?_
      refine CW_seq ?_
      refine CW_block ?_
      refine W_reg (by simp only [go_sem, eI_i64, hg, List.set_set, mkL_length, mk_getD mI sI zI_i64 k (show x < xs.length by omega)] <;> and_intros <;> first | with_reducible exact rfl | omega | with_reducible trivial | (intros; simp_all; done) | grind) ?_
      refine W_regn (by simp only [go_sem, eI_i64, hg, List.set_set, mkL_length, mk_getD mI sI zI_i64 k (show x < xs.length by omega)] <;> and_intros <;> first | with_reducible exact rfl | omega | with_reducible trivial | (intros; simp_all; done) | grind) ?_
      refine bk_n ?_
      refine sq_n ?_
      refine W_regn (by simp only [go_sem, eI_i64, hg, List.set_set, mkL_length, mk_getD mI sI zI_i64 k (show x < xs.length by omega)] <;> and_intros <;> first | with_reducible exact rfl | omega | with_reducible trivial | (intros; simp_all; done) | grind) ?_
      refine lp_next (x+1) [] ?_ ?_ ?_
      · (simp only [go_sem, eI_i64, hg, List.set_set, mkL_length, mk_getD mI sI zI_i64 k (show x < xs.length by omega)] <;> and_intros <;> first | with_reducible exact rfl | (first | omega | (refine int_eq ?_; rw [mkK_succ sI zI_i64 (by omega)]; rfl) | (refine arr_eq ?_ (by omega); rw [← mk_step eI_i64 mI sI zI_i64 (by omega)]; simp only [eI_i64, mI, mE, mC])))
      · omega
      · omega
    · skip
      try simp only [Bool.not_eq_eq_eq_not, Bool.not_true, Bool.not_false, decide_eq_true_eq, decide_eq_false_iff_not, Bool.and_eq_true, Bool.or_eq_true] at c0
      obtain rfl : x = xs.length := by omega
      refine CW_exit ?_
      refine sq_e ?_
      refine lp_e ?_
      refine bk_i ?_
      refine sq_n ?_
      refine W_reg (by simp only [go_sem, eI_i64]; exact rfl) ?_
      refine CW_ret ?_
      simp only [go_sem, eI_i64, List.drop_length, mkL_length]
      all_goals try first | refine int_res ?_ | refine bool_res ?_
      all_goals
        simp [mkL_length]
end Go.H
end
section
set_option maxRecDepth 100000
set_option linter.unusedVariables false
set_option linter.unusedSimpArgs false
namespace Go.H
open Go Go.Proofs.Tryz
def c_laws_markNodeS : SC :=
.seq (rg [
  ss 4 (.mv (.i .i64 0))] [0, 1])
  (.seq (.seq (rg [
  ss 5 (.mv (.i .i64 0))] [0, 1, 5])
  (.block 0 (.loop (.seq (.seq (rg [
  ss 6 (.mv (.t 5)),
  ss 7 (.mv (.t 0)),
  sk 8 36864 (.len (.t 7)),
  ss 9 (.bin .lss (.t 6) (.t 8))] [0, 1, 5, 9])
  (.cond (.t 9) (.skip)
  (.exit 0)))
  (.seq (.block 1 (.seq (rg [
  ss 12 (.mv (.t 0)),
  ss 13 (.mv (.t 5)),
  ss 14 (.mv (.t 1)),
  sd (some 15) 0 0 (dNode false) (.idx (.t 12) (.t 13) 10),
  ss 16 (.fad (.t 15) 0),
  sd none 0 0 (dNode true) (.store (.t 16) (.t 14) 1)] [0, 1, 5])
  (.seq (rg [
  ss 17 (.mv (.t 1)),
  sh 18 1 (.bin .add (.t 17) (.i .i64 1)),
  ss 1 (.mv (.t 18))] [0, 1, 5])
  (.seq (rg [
  ss 19 (.mv (.t 0)),
  ss 20 (.mv (.t 5)),
  ss 21 (.mv (.t 1)),
  sd (some 22) 0 0 (dNode false) (.idx (.t 19) (.t 20) 10),
  ss 23 (.fad (.t 22) 1),
  sd none 0 0 (dNode true) (.store (.t 23) (.t 21) 1)] [0, 1, 5])
  (.seq (rg [
  ss 24 (.mv (.t 1)),
  sh 25 1 (.bin .add (.t 24) (.i .i64 1)),
  ss 1 (.mv (.t 25))] [0, 1, 5])
  (.seq (rg [
  ss 26 (.mv (.t 0)),
  ss 27 (.mv (.t 5)),
  ss 28 (.mv (.t 1)),
  sd (some 29) 0 0 (dNode false) (.idx (.t 26) (.t 27) 10),
  ss 30 (.fad (.t 29) 2),
  sd none 0 0 (dNode true) (.store (.t 30) (.t 28) 1)] [0, 1, 5])
  (.seq (rg [
  ss 31 (.mv (.t 1)),
  sh 32 1 (.bin .add (.t 31) (.i .i64 1)),
  ss 1 (.mv (.t 32))] [0, 1, 5])
  (.seq (rg [
  ss 33 (.mv (.t 0)),
  ss 34 (.mv (.t 5)),
  ss 35 (.mv (.t 1)),
  sd (some 36) 0 0 (dNode false) (.idx (.t 33) (.t 34) 10),
  ss 37 (.fad (.t 36) 3),
  sd none 0 0 (dNode true) (.store (.t 37) (.t 35) 1)] [0, 1, 5])
  (.seq (rg [
  ss 38 (.mv (.t 1)),
  sh 39 1 (.bin .add (.t 38) (.i .i64 1)),
  ss 1 (.mv (.t 39))] [0, 1, 5])
  (.seq (rg [
  ss 40 (.mv (.t 0)),
  ss 41 (.mv (.t 5)),
  sd (some 42) 0 0 (dNode false) (.idx (.t 40) (.t 41) 10),
  ss 43 (.fad (.t 42) 4),
  sd (some 44) 3 184320 (dNode true) (.load (.t 43) 1 false),
  ss 45 (.mv (.t 1)),
  sk 46 192512 (.call (.f F.laws_markEntryS) [(.t 44, none), (.t 45, none)]),
  ss 1 (.mv (.t 46))] [0, 1, 5])
  (.seq (rg [
  ss 47 (.mv (.t 0)),
  ss 48 (.mv (.t 5)),
  ss 49 (.mv (.t 1)),
  sd (some 50) 0 0 (dNode false) (.idx (.t 47) (.t 48) 10),
  ss 51 (.fad (.t 50) 5),
  sd none 0 0 (dNode true) (.store (.t 51) (.t 49) 1)] [0, 1, 5])
  (.seq (rg [
  ss 52 (.mv (.t 1)),
  sh 53 1 (.bin .add (.t 52) (.i .i64 1)),
  ss 1 (.mv (.t 53))] [0, 1, 5])
  (.seq (rg [
  ss 54 (.mv (.t 0)),
  ss 55 (.mv (.t 5)),
  ss 56 (.mv (.t 1)),
  sd (some 57) 0 0 (dNode false) (.idx (.t 54) (.t 55) 10),
  ss 58 (.fad (.t 57) 6),
  sd none 0 0 (dNode true) (.store (.t 58) (.t 56) 1)] [0, 1, 5])
  (.seq (rg [
  ss 59 (.mv (.t 1)),
  sh 60 1 (.bin .add (.t 59) (.i .i64 1)),
  ss 1 (.mv (.t 60))] [0, 1, 5])
  (.seq (rg [
  ss 61 (.mv (.t 0)),
  ss 62 (.mv (.t 5)),
  sd (some 63) 0 0 (dNode false) (.idx (.t 61) (.t 62) 10),
  ss 64 (.fad (.t 63) 7),
  sd (some 65) 3 270336 (dNode true) (.load (.t 64) 1 false),
  ss 66 (.mv (.t 1)),
  sk 67 278528 (.call (.f F.laws_markInt64S) [(.t 65, none), (.t 66, none)]),
  ss 1 (.mv (.t 67))] [0, 1, 5])
  (.seq (rg [
  ss 68 (.mv (.t 0)),
  ss 69 (.mv (.t 5)),
  sd (some 70) 0 0 (dNode false) (.idx (.t 68) (.t 69) 10),
  ss 71 (.fad (.t 70) 8),
  sd (some 72) 3 299008 (dNode true) (.load (.t 71) 1 false),
  ss 73 (.mv (.t 1)),
  sk 74 307200 (.call (.f F.laws_markInt64S) [(.t 72, none), (.t 73, none)]),
  ss 1 (.mv (.t 74))] [0, 1, 5])
  (rg [
  ss 75 (.mv (.t 0)),
  ss 76 (.mv (.t 5)),
  sd (some 77) 0 0 (dNode false) (.idx (.t 75) (.t 76) 10),
  ss 78 (.fad (.t 77) 9),
  sd (some 79) 3 327680 (dNode true) (.load (.t 78) 1 false),
  ss 80 (.mv (.t 1)),
  sk 81 335872 (.call (.f F.laws_markInt64S) [(.t 79, none), (.t 80, none)]),
  ss 1 (.mv (.t 81))] [0, 1, 5])))))))))))))))))
  (rg [
  ss 10 (.mv (.t 5)),
  sh 11 1 (.bin .add (.t 10) (.i .i64 1)),
  ss 5 (.mv (.t 11))] [0, 1, 5]))))))
  (.seq (rg [
  ss 82 (.mv (.t 1)),
  ss 4 (.mv (.t 82))] [4])
  (.ret)))
theorem b_laws_markNodeS : ∃ c, f65.body = some c ∧ compC prog 83 c = some c_laws_markNodeS.er ∧ drawB c c_laws_markNodeS = true := ⟨_, rfl, by kernel_rfl, by kernel_rfl⟩
theorem r_laws_markNodeS : cmpR prog [.tmp 4] = some [.t 4] := by kernel_rfl
theorem q_laws_markNodeS : callB prog F.laws_markNodeS = true := by kernel_rfl
variable [Inv prog]
theorem s_laws_markNodeS (xs : List Node) (k : Int) (hk : 0 ≤ k) (hl : xs.length ≤ 2097152) (hb : mkK sN xs k ≤ 9000000000000000000) (hn : ∀ y ∈ xs, limN 2097152 y) : SemX prog F.laws_markNodeS [.one (.arr 0), aI k] [.arr 10 (xs.map (eNode true))] [rI (mkK sN xs k)] [.arr 10 ((mkL mN sN xs k).map (eNode true))] := by
  obtain ⟨cc, g1, g2, g3⟩ := b_laws_markNodeS
  refine SemX.of_code func65 g1 (by rw [ntmps65]; exact g2) g3 (by rw [results65]; exact r_laws_markNodeS) (by rw [ntmps65]; exact Nat.le_of_ble_eq_true rfl) (Nat.le_of_ble_eq_true rfl) (by simp [obOk]) (by simp [argOk, aT, aI, aS, eNode]) ?_
  unfold c_laws_markNodeS
  simp only [rg]
  refine W_reg (by simp only [go_sem, eNode]; exact rfl) ?_
  refine CW_assoc ?_
  refine W_reg (by simp only [go_sem, eNode]; exact rfl) ?_
  refine CW_seq ?_
  refine CW_block ?_
  refine CW_loopS (α := Nat) (fun x => [(1, .int .i64 (mkK sN (xs.take x) k)), (5, .int .i64 x)]) (fun x => [(1000000, .arr ⟨10, (mkL mN sN (xs.take x) k ++ xs.drop x).map (eNode true), 1 + 14 * x, none⟩)]) (fun x => xs.length - x) (fun x => x ≤ xs.length) 0 [] ?_ ?_ ?_
  · (simp only [go_sem, eNode] <;> and_intros <;> first | with_reducible exact rfl | (first | omega | (simp [mkL, mkK]; done)))
  · first | exact Nat.zero_le _ | (simp; done) | omega
  · rintro x hI
    refine CW_eq (by simp only [go_sem, eNode]; exact rfl) ?_
    refine CW_assoc ?_
    refine W_reg (by simp only [go_sem, eNode]; exact rfl) ?_
    refine CW_seq ?_
    refine CW_cond (by simp only [go_sem, eNode]; exact rfl) (fun c0 => ?_) (fun c0 => ?_)
    · skip
      try simp only [Bool.not_eq_eq_eq_not, Bool.not_true, Bool.not_false, decide_eq_true_eq, decide_eq_false_iff_not, Bool.and_eq_true, Bool.or_eq_true] at c0
      have hat := mkK_at sN_up zNode (xs := xs) (i := x) (by omega) hb
      simp only [sN] at hat
      have hg : ∀ r, (((mkL mN sN (xs.take x) k ++ xs.drop x).map (eNode true)).set x r).getD x (dNode true) = r := fun r => getD_set_self (by simp [mkL_length]; omega) r _
      simp only [kN4] at hat
      have u4 := Int.le_trans (mkK_mono sI_up _ _) hat.2
      have u3 := Int.le_trans (mkK_mono sI_up _ _) u4
      have u2 := Int.le_trans (mkK_mono sI_up _ _) u3
      have u1 : mkK sE (xs.getD x zNode).log (mkK sN (xs.take x) k + 1 + 1 + 1 + 1) ≤ 9000000000000000000 := by omega
      have u0 := Int.le_trans (mkK_mono sE_up _ _) u1
      have v1 := mkK_mono sE_up (xs.getD x zNode).log (mkK sN (xs.take x) k + 1 + 1 + 1 + 1)
      have v2 := mkK_mono sI_up (xs.getD x zNode).votes (mkK sE (xs.getD x zNode).log (mkK sN (xs.take x) k + 1 + 1 + 1 + 1) + 1 + 1)
      have v3 := mkK_mono sI_up (xs.getD x zNode).next (mkK sI (xs.getD x zNode).votes (mkK sE (xs.getD x zNode).log (mkK sN (xs.take x) k + 1 + 1 + 1 + 1) + 1 + 1))
      refine CW_skip ?_
      refine sq_n ?_
      refine CW_seq ?_
      refine CW_block ?_
      refine W_reg (by simp only [go_sem, eNode, hg, List.set_set, mkL_length, mk_getD mN sN zNode k (show x < xs.length by omega)] <;> and_intros <;> first | with_reducible exact rfl | omega | with_reducible trivial | (intros; simp_all; done) | grind) ?_
      refine W_reg (by simp only [go_sem, eNode, hg, List.set_set, mkL_length, mk_getD mN sN zNode k (show x < xs.length by omega)] <;> and_intros <;> first | with_reducible exact rfl | omega | with_reducible trivial | (intros; simp_all; done) | grind) ?_
      refine W_reg (by simp only [go_sem, eNode, hg, List.set_set, mkL_length, mk_getD mN sN zNode k (show x < xs.length by omega)] <;> and_intros <;> first | with_reducible exact rfl | omega | with_reducible trivial | (intros; simp_all; done) | grind) ?_
      refine W_reg (by simp only [go_sem, eNode, hg, List.set_set, mkL_length, mk_getD mN sN zNode k (show x < xs.length by omega)] <;> and_intros <;> first | with_reducible exact rfl | omega | with_reducible trivial | (intros; simp_all; done) | grind) ?_
      refine W_reg (by simp only [go_sem, eNode, hg, List.set_set, mkL_length, mk_getD mN sN zNode k (show x < xs.length by omega)] <;> and_intros <;> first | with_reducible exact rfl | omega | with_reducible trivial | (intros; simp_all; done) | grind) ?_
      refine W_reg (by simp only [go_sem, eNode, hg, List.set_set, mkL_length, mk_getD mN sN zNode k (show x < xs.length by omega)] <;> and_intros <;> first | with_reducible exact rfl | omega | with_reducible trivial | (intros; simp_all; done) | grind) ?_
      refine W_reg (by simp only [go_sem, eNode, hg, List.set_set, mkL_length, mk_getD mN sN zNode k (show x < xs.length by omega)] <;> and_intros <;> first | with_reducible exact rfl | omega | with_reducible trivial | (intros; simp_all; done) | grind) ?_
      refine W_reg (by simp only [go_sem, eNode, hg, List.set_set, mkL_length, mk_getD mN sN zNode k (show x < xs.length by omega)] <;> and_intros <;> first | with_reducible exact rfl | omega | with_reducible trivial | (intros; simp_all; done) | grind) ?_
      refine W_reg (by
        refine RW_cut 6 (by simp only [go_sem, eNode, hg, List.set_set, mkL_length, mk_getD mN sN zNode k (show x < xs.length by omega)] <;> and_intros <;> first | with_reducible exact rfl | omega | with_reducible trivial | (intros; simp_all; done) | grind) ?_
        refine RW_ls (by simp only [List.drop_succ_cons, List.drop_zero]; exact rfl) ?_
        refine RW_callBN 44 (dNode true) q_laws_markEntryS (s_laws_markEntryS (xs.getD x zNode).log _ (by omega) (hn _ (getD_mem zNode (by omega))).1 u1) true [184320] [] [] rfl rfl (by simp only [go_sem, eNode, hg, List.set_set, mkL_length, mk_getD mN sN zNode k (show x < xs.length by omega)]; exact rfl) rfl (by simp only [go_sem, eNode, hg, List.set_set, mkL_length, mk_getD mN sN zNode k (show x < xs.length by omega)] <;> and_intros <;> first | with_reducible exact rfl | omega | with_reducible trivial | (intros; simp_all; done) | grind) (by rfl) (by simp only [go_sem, eNode, hg, List.set_set, mkL_length, mk_getD mN sN zNode k (show x < xs.length by omega)]; exact rfl) ?_
        simp only [go_sem, eNode, hg, List.set_set, mkL_length, mk_getD mN sN zNode k (show x < xs.length by omega)]; exact rfl) ?_
      refine W_reg (by simp only [go_sem, eNode, hg, List.set_set, mkL_length, mk_getD mN sN zNode k (show x < xs.length by omega)] <;> and_intros <;> first | with_reducible exact rfl | omega | with_reducible trivial | (intros; simp_all; done) | grind) ?_
      refine W_reg (by simp only [go_sem, eNode, hg, List.set_set, mkL_length, mk_getD mN sN zNode k (show x < xs.length by omega)] <;> and_intros <;> first | with_reducible exact rfl | omega | with_reducible trivial | (intros; simp_all; done) | grind) ?_
      refine W_reg (by simp only [go_sem, eNode, hg, List.set_set, mkL_length, mk_getD mN sN zNode k (show x < xs.length by omega)] <;> and_intros <;> first | with_reducible exact rfl | omega | with_reducible trivial | (intros; simp_all; done) | grind) ?_
      refine W_reg (by simp only [go_sem, eNode, hg, List.set_set, mkL_length, mk_getD mN sN zNode k (show x < xs.length by omega)] <;> and_intros <;> first | with_reducible exact rfl | omega | with_reducible trivial | (intros; simp_all; done) | grind) ?_
      refine W_reg (by
        refine RW_cut 6 (by simp only [go_sem, eNode, hg, List.set_set, mkL_length, mk_getD mN sN zNode k (show x < xs.length by omega)] <;> and_intros <;> first | with_reducible exact rfl | omega | with_reducible trivial | (intros; simp_all; done) | grind) ?_
        refine RW_ls (by simp only [List.drop_succ_cons, List.drop_zero]; exact rfl) ?_
        refine RW_callBN 65 (dNode true) q_laws_markInt64S (s_laws_markInt64S (xs.getD x zNode).votes _ (by omega) (hn _ (getD_mem zNode (by omega))).2.1 u3) true [270336] [] [] rfl rfl (by simp only [go_sem, eNode, hg, List.set_set, mkL_length, mk_getD mN sN zNode k (show x < xs.length by omega)]; exact rfl) rfl (by simp only [go_sem, eNode, hg, List.set_set, mkL_length, mk_getD mN sN zNode k (show x < xs.length by omega)] <;> and_intros <;> first | with_reducible exact rfl | omega | with_reducible trivial | (intros; simp_all; done) | grind) (by rfl) (by simp only [go_sem, eNode, hg, List.set_set, mkL_length, mk_getD mN sN zNode k (show x < xs.length by omega)]; exact rfl) ?_
        simp only [go_sem, eNode, hg, List.set_set, mkL_length, mk_getD mN sN zNode k (show x < xs.length by omega)]; exact rfl) ?_
      refine W_reg (by
        refine RW_cut 6 (by simp only [go_sem, eNode, hg, List.set_set, mkL_length, mk_getD mN sN zNode k (show x < xs.length by omega)] <;> and_intros <;> first | with_reducible exact rfl | omega | with_reducible trivial | (intros; simp_all; done) | grind) ?_
        refine RW_ls (by simp only [List.drop_succ_cons, List.drop_zero]; exact rfl) ?_
        refine RW_callBN 72 (dNode true) q_laws_markInt64S (s_laws_markInt64S (xs.getD x zNode).next _ (by omega) (hn _ (getD_mem zNode (by omega))).2.2.1 u4) true [299008] [] [] rfl rfl (by simp only [go_sem, eNode, hg, List.set_set, mkL_length, mk_getD mN sN zNode k (show x < xs.length by omega)]; exact rfl) rfl (by simp only [go_sem, eNode, hg, List.set_set, mkL_length, mk_getD mN sN zNode k (show x < xs.length by omega)] <;> and_intros <;> first | with_reducible exact rfl | omega | with_reducible trivial | (intros; simp_all; done) | grind) (by rfl) (by simp only [go_sem, eNode, hg, List.set_set, mkL_length, mk_getD mN sN zNode k (show x < xs.length by omega)]; exact rfl) ?_
        simp only [go_sem, eNode, hg, List.set_set, mkL_length, mk_getD mN sN zNode k (show x < xs.length by omega)]; exact rfl) ?_
      refine W_regn (by
        refine RW_cut 6 (by simp only [go_sem, eNode, hg, List.set_set, mkL_length, mk_getD mN sN zNode k (show x < xs.length by omega)] <;> and_intros <;> first | with_reducible exact rfl | omega | with_reducible trivial | (intros; simp_all; done) | grind) ?_
        refine RW_ls (by simp only [List.drop_succ_cons, List.drop_zero]; exact rfl) ?_
        refine RW_callBN 79 (dNode true) q_laws_markInt64S (s_laws_markInt64S (xs.getD x zNode).match_ _ (by omega) (hn _ (getD_mem zNode (by omega))).2.2.2 hat.2) true [327680] [] [] rfl rfl (by simp only [go_sem, eNode, hg, List.set_set, mkL_length, mk_getD mN sN zNode k (show x < xs.length by omega)]; exact rfl) rfl (by simp only [go_sem, eNode, hg, List.set_set, mkL_length, mk_getD mN sN zNode k (show x < xs.length by omega)] <;> and_intros <;> first | with_reducible exact rfl | omega | with_reducible trivial | (intros; simp_all; done) | grind) (by rfl) (by simp only [go_sem, eNode, hg, List.set_set, mkL_length, mk_getD mN sN zNode k (show x < xs.length by omega)]; exact rfl) ?_
        simp only [go_sem, eNode, hg, List.set_set, mkL_length, mk_getD mN sN zNode k (show x < xs.length by omega)]; exact rfl) ?_
      refine bk_n ?_
      refine sq_n ?_
      refine W_regn (by simp only [go_sem, eNode, hg, List.set_set, mkL_length, mk_getD mN sN zNode k (show x < xs.length by omega)] <;> and_intros <;> first | with_reducible exact rfl | omega | with_reducible trivial | (intros; simp_all; done) | grind) ?_
      refine lp_next (x+1) [] ?_ ?_ ?_
      · (simp only [go_sem, eNode, hg, List.set_set, mkL_length, mk_getD mN sN zNode k (show x < xs.length by omega)] <;> and_intros <;> first | with_reducible exact rfl | (first | omega | (refine int_eq ?_; rw [mkK_succ sN zNode (by omega)]; rfl) | (refine arr_eq ?_ (by omega); rw [← mk_step (eNode true) mN sN zNode (by omega)]; simp only [eNode, mN, mE, mC, kN4])))
      · omega
      · omega
    · skip
      try simp only [Bool.not_eq_eq_eq_not, Bool.not_true, Bool.not_false, decide_eq_true_eq, decide_eq_false_iff_not, Bool.and_eq_true, Bool.or_eq_true] at c0
      obtain rfl : x = xs.length := by omega
      refine CW_exit ?_
      refine sq_e ?_
      refine lp_e ?_
      refine bk_i ?_
      refine sq_n ?_
      refine W_reg (by simp only [go_sem, eNode]; exact rfl) ?_
      refine CW_ret ?_
      simp only [go_sem, eNode, List.drop_length, mkL_length]
      all_goals try first | refine int_res ?_ | refine bool_res ?_
      all_goals
        simp [mkL_length]
end Go.H
end
section
set_option maxRecDepth 100000
set_option linter.unusedVariables false
set_option linter.unusedSimpArgs false
namespace Go.H
open Go Go.Proofs.Tryz
def c_laws_markMailS : SC :=
.seq (rg [
  ss 4 (.mv (.i .i64 0))] [0, 1])
  (.seq (.seq (rg [
  ss 5 (.mv (.i .i64 0))] [0, 1, 5])
  (.block 0 (.loop (.seq (.seq (rg [
  ss 6 (.mv (.t 5)),
  ss 7 (.mv (.t 0)),
  sk 8 36864 (.len (.t 7)),
  ss 9 (.bin .lss (.t 6) (.t 8))] [0, 1, 5, 9])
  (.cond (.t 9) (.skip)
  (.exit 0)))
  (.seq (.block 1 (.seq (rg [
  ss 12 (.mv (.t 0)),
  ss 13 (.mv (.t 5)),
  ss 14 (.mv (.t 1)),
  sd (some 15) 0 0 (dMail false) (.idx (.t 12) (.t 13) 9),
  ss 16 (.fad (.t 15) 0),
  sd none 0 0 (dMail true) (.store (.t 16) (.t 14) 1)] [0, 1, 5])
  (.seq (rg [
  ss 17 (.mv (.t 1)),
  sh 18 1 (.bin .add (.t 17) (.i .i64 1)),
  ss 1 (.mv (.t 18))] [0, 1, 5])
  (.seq (rg [
  ss 19 (.mv (.t 0)),
  ss 20 (.mv (.t 5)),
  ss 21 (.mv (.t 1)),
  sd (some 22) 0 0 (dMail false) (.idx (.t 19) (.t 20) 9),
  ss 23 (.fad (.t 22) 1),
  sd none 0 0 (dMail true) (.store (.t 23) (.t 21) 1)] [0, 1, 5])
  (.seq (rg [
  ss 24 (.mv (.t 1)),
  sh 25 1 (.bin .add (.t 24) (.i .i64 1)),
  ss 1 (.mv (.t 25))] [0, 1, 5])
  (.seq (rg [
  ss 26 (.mv (.t 0)),
  ss 27 (.mv (.t 5)),
  ss 28 (.mv (.t 1)),
  sd (some 29) 0 0 (dMail false) (.idx (.t 26) (.t 27) 9),
  ss 30 (.fad (.t 29) 2),
  sd none 0 0 (dMail true) (.store (.t 30) (.t 28) 1)] [0, 1, 5])
  (.seq (rg [
  ss 31 (.mv (.t 1)),
  sh 32 1 (.bin .add (.t 31) (.i .i64 1)),
  ss 1 (.mv (.t 32))] [0, 1, 5])
  (.seq (rg [
  ss 33 (.mv (.t 0)),
  ss 34 (.mv (.t 5)),
  ss 35 (.mv (.t 1)),
  sd (some 36) 0 0 (dMail false) (.idx (.t 33) (.t 34) 9),
  ss 37 (.fad (.t 36) 3),
  sd none 0 0 (dMail true) (.store (.t 37) (.t 35) 1)] [0, 1, 5])
  (.seq (rg [
  ss 38 (.mv (.t 1)),
  sh 39 1 (.bin .add (.t 38) (.i .i64 1)),
  ss 1 (.mv (.t 39))] [0, 1, 5])
  (.seq (rg [
  ss 40 (.mv (.t 0)),
  ss 41 (.mv (.t 5)),
  ss 42 (.mv (.t 1)),
  sd (some 43) 0 0 (dMail false) (.idx (.t 40) (.t 41) 9),
  ss 44 (.fad (.t 43) 4),
  sd none 0 0 (dMail true) (.store (.t 44) (.t 42) 1)] [0, 1, 5])
  (.seq (rg [
  ss 45 (.mv (.t 1)),
  sh 46 1 (.bin .add (.t 45) (.i .i64 1)),
  ss 1 (.mv (.t 46))] [0, 1, 5])
  (.seq (rg [
  ss 47 (.mv (.t 0)),
  ss 48 (.mv (.t 5)),
  ss 49 (.mv (.t 1)),
  sd (some 50) 0 0 (dMail false) (.idx (.t 47) (.t 48) 9),
  ss 51 (.fad (.t 50) 5),
  sd none 0 0 (dMail true) (.store (.t 51) (.t 49) 1)] [0, 1, 5])
  (.seq (rg [
  ss 52 (.mv (.t 1)),
  sh 53 1 (.bin .add (.t 52) (.i .i64 1)),
  ss 1 (.mv (.t 53))] [0, 1, 5])
  (.seq (rg [
  ss 54 (.mv (.t 0)),
  ss 55 (.mv (.t 5)),
  ss 56 (.mv (.t 1)),
  sd (some 57) 0 0 (dMail false) (.idx (.t 54) (.t 55) 9),
  ss 58 (.fad (.t 57) 6),
  sd none 0 0 (dMail true) (.store (.t 58) (.t 56) 1)] [0, 1, 5])
  (.seq (rg [
  ss 59 (.mv (.t 1)),
  sh 60 1 (.bin .add (.t 59) (.i .i64 1)),
  ss 1 (.mv (.t 60))] [0, 1, 5])
  (.seq (rg [
  ss 61 (.mv (.t 0)),
  ss 62 (.mv (.t 5)),
  ss 63 (.mv (.t 1)),
  ss 64 (.bin .rem (.t 63) (.i .i64 3)),
  ss 65 (.bin .eql (.t 64) (.i .i64 0)),
  sd (some 66) 0 0 (dMail false) (.idx (.t 61) (.t 62) 9),
  ss 67 (.fad (.t 66) 7),
  sd none 0 0 (dMail true) (.store (.t 67) (.t 65) 1)] [0, 1, 5])
  (.seq (rg [
  ss 68 (.mv (.t 1)),
  sh 69 1 (.bin .add (.t 68) (.i .i64 1)),
  ss 1 (.mv (.t 69))] [0, 1, 5])
  (rg [
  ss 70 (.mv (.t 0)),
  ss 71 (.mv (.t 5)),
  sd (some 72) 0 0 (dMail false) (.idx (.t 70) (.t 71) 9),
  ss 73 (.fad (.t 72) 8),
  sd (some 74) 3 307200 (dMail true) (.load (.t 73) 1 false),
  ss 75 (.mv (.t 1)),
  sk 76 315392 (.call (.f F.laws_markEntryS) [(.t 74, none), (.t 75, none)]),
  ss 1 (.mv (.t 76))] [0, 1, 5]))))))))))))))))))
  (rg [
  ss 10 (.mv (.t 5)),
  sh 11 1 (.bin .add (.t 10) (.i .i64 1)),
  ss 5 (.mv (.t 11))] [0, 1, 5]))))))
  (.seq (rg [
  ss 77 (.mv (.t 1)),
  ss 4 (.mv (.t 77))] [4])
  (.ret)))
theorem b_laws_markMailS : ∃ c, f66.body = some c ∧ compC prog 78 c = some c_laws_markMailS.er ∧ drawB c c_laws_markMailS = true := ⟨_, rfl, by kernel_rfl, by kernel_rfl⟩
theorem r_laws_markMailS : cmpR prog [.tmp 4] = some [.t 4] := by kernel_rfl
theorem q_laws_markMailS : callB prog F.laws_markMailS = true := by kernel_rfl
variable [Inv prog]
theorem s_laws_markMailS (xs : List Mail) (k : Int) (hk : 0 ≤ k) (hl : xs.length ≤ 2097152) (hb : mkK sM xs k ≤ 9000000000000000000) (hm : ∀ y ∈ xs, limM 2097152 y) : SemX prog F.laws_markMailS [.one (.arr 0), aI k] [.arr 9 (xs.map (eMail true))] [rI (mkK sM xs k)] [.arr 9 ((mkL mM sM xs k).map (eMail true))] := by
  obtain ⟨cc, g1, g2, g3⟩ := b_laws_markMailS
  refine SemX.of_code func66 g1 (by rw [ntmps66]; exact g2) g3 (by rw [results66]; exact r_laws_markMailS) (by rw [ntmps66]; exact Nat.le_of_ble_eq_true rfl) (Nat.le_of_ble_eq_true rfl) (by simp [obOk]) (by simp [argOk, aT, aI, aS, eMail]) ?_
  unfold c_laws_markMailS
  simp only [rg]
  refine W_reg (by simp only [go_sem, eMail]; exact rfl) ?_
  refine CW_assoc ?_
  refine W_reg (by simp only [go_sem, eMail]; exact rfl) ?_
  refine CW_seq ?_
  refine CW_block ?_
  refine CW_loopS (α := Nat) (fun x => [(1, .int .i64 (mkK sM (xs.take x) k)), (5, .int .i64 x)]) (fun x => [(1000000, .arr ⟨9, (mkL mM sM (xs.take x) k ++ xs.drop x).map (eMail true), 1 + 10 * x, none⟩)]) (fun x => xs.length - x) (fun x => x ≤ xs.length) 0 [] ?_ ?_ ?_
  · (simp only [go_sem, eMail] <;> and_intros <;> first | with_reducible exact rfl | (first | omega | (simp [mkL, mkK]; done)))
  · first | exact Nat.zero_le _ | (simp; done) | omega
  · rintro x hI
    refine CW_eq (by simp only [go_sem, eMail]; exact rfl) ?_
    refine CW_assoc ?_
    refine W_reg (by simp only [go_sem, eMail]; exact rfl) ?_
    refine CW_seq ?_
    refine CW_cond (by simp only [go_sem, eMail]; exact rfl) (fun c0 => ?_) (fun c0 => ?_)
    · skip
      try simp only [Bool.not_eq_eq_eq_not, Bool.not_true, Bool.not_false, decide_eq_true_eq, decide_eq_false_iff_not, Bool.and_eq_true, Bool.or_eq_true] at c0
      have hat := mkK_at sM_up zMail (xs := xs) (i := x) (by omega) hb
      simp only [sM] at hat
      have hg : ∀ r, (((mkL mM sM (xs.take x) k ++ xs.drop x).map (eMail true)).set x r).getD x (dMail true) = r := fun r => getD_set_self (by simp [mkL_length]; omega) r _
      have hup := Int.le_trans (mkK_mono sE_up _ _) hat.2
      refine CW_skip ?_
      refine sq_n ?_
      refine CW_seq ?_
      refine CW_block ?_
      refine W_reg (by simp only [go_sem, eMail, hg, List.set_set, mkL_length, mk_getD mM sM zMail k (show x < xs.length by omega)] <;> and_intros <;> first | with_reducible exact rfl | omega | with_reducible trivial | (intros; simp_all; done) | grind) ?_
      refine W_reg (by simp only [go_sem, eMail, hg, List.set_set, mkL_length, mk_getD mM sM zMail k (show x < xs.length by omega)] <;> and_intros <;> first | with_reducible exact rfl | omega | with_reducible trivial | (intros; simp_all; done) | grind) ?_
      refine W_reg (by simp only [go_sem, eMail, hg, List.set_set, mkL_length, mk_getD mM sM zMail k (show x < xs.length by omega)] <;> and_intros <;> first | with_reducible exact rfl | omega | with_reducible trivial | (intros; simp_all; done) | grind) ?_
      refine W_reg (by simp only [go_sem, eMail, hg, List.set_set, mkL_length, mk_getD mM sM zMail k (show x < xs.length by omega)] <;> and_intros <;> first | with_reducible exact rfl | omega | with_reducible trivial | (intros; simp_all; done) | grind) ?_
      refine W_reg (by simp only [go_sem, eMail, hg, List.set_set, mkL_length, mk_getD mM sM zMail k (show x < xs.length by omega)] <;> and_intros <;> first | with_reducible exact rfl | omega | with_reducible trivial | (intros; simp_all; done) | grind) ?_
      refine W_reg (by simp only [go_sem, eMail, hg, List.set_set, mkL_length, mk_getD mM sM zMail k (show x < xs.length by omega)] <;> and_intros <;> first | with_reducible exact rfl | omega | with_reducible trivial | (intros; simp_all; done) | grind) ?_
      refine W_reg (by simp only [go_sem, eMail, hg, List.set_set, mkL_length, mk_getD mM sM zMail k (show x < xs.length by omega)] <;> and_intros <;> first | with_reducible exact rfl | omega | with_reducible trivial | (intros; simp_all; done) | grind) ?_
      refine W_reg (by simp only [go_sem, eMail, hg, List.set_set, mkL_length, mk_getD mM sM zMail k (show x < xs.length by omega)] <;> and_intros <;> first | with_reducible exact rfl | omega | with_reducible trivial | (intros; simp_all; done) | grind) ?_
      refine W_reg (by simp only [go_sem, eMail, hg, List.set_set, mkL_length, mk_getD mM sM zMail k (show x < xs.length by omega)] <;> and_intros <;> first | with_reducible exact rfl | omega | with_reducible trivial | (intros; simp_all; done) | grind) ?_
      refine W_reg (by simp only [go_sem, eMail, hg, List.set_set, mkL_length, mk_getD mM sM zMail k (show x < xs.length by omega)] <;> and_intros <;> first | with_reducible exact rfl | omega | with_reducible trivial | (intros; simp_all; done) | grind) ?_
      refine W_reg (by simp only [go_sem, eMail, hg, List.set_set, mkL_length, mk_getD mM sM zMail k (show x < xs.length by omega)] <;> and_intros <;> first | with_reducible exact rfl | omega | with_reducible trivial | (intros; simp_all; done) | grind) ?_
      refine W_reg (by simp only [go_sem, eMail, hg, List.set_set, mkL_length, mk_getD mM sM zMail k (show x < xs.length by omega)] <;> and_intros <;> first | with_reducible exact rfl | omega | with_reducible trivial | (intros; simp_all; done) | grind) ?_
      refine W_reg (by simp only [go_sem, eMail, hg, List.set_set, mkL_length, mk_getD mM sM zMail k (show x < xs.length by omega)] <;> and_intros <;> first | with_reducible exact rfl | omega | with_reducible trivial | (intros; simp_all; done) | grind) ?_
      refine W_reg (by simp only [go_sem, eMail, hg, List.set_set, mkL_length, mk_getD mM sM zMail k (show x < xs.length by omega)] <;> and_intros <;> first | with_reducible exact rfl | omega | with_reducible trivial | (intros; simp_all; done) | grind) ?_
      refine W_reg (by simp only [go_sem, eMail, hg, List.set_set, mkL_length, mk_getD mM sM zMail k (show x < xs.length by omega)] <;> and_intros <;> first | with_reducible exact rfl | omega | with_reducible trivial | (intros; simp_all; done) | grind) ?_
      refine W_reg (by simp only [go_sem, eMail, hg, List.set_set, mkL_length, mk_getD mM sM zMail k (show x < xs.length by omega)] <;> and_intros <;> first | with_reducible exact rfl | omega | with_reducible trivial | (intros; simp_all; done) | grind) ?_
      refine W_regn (by
        refine RW_cut 6 (by simp only [go_sem, eMail, hg, List.set_set, mkL_length, mk_getD mM sM zMail k (show x < xs.length by omega)] <;> and_intros <;> first | with_reducible exact rfl | omega | with_reducible trivial | (intros; simp_all; done) | grind) ?_
        refine RW_ls (by simp only [List.drop_succ_cons, List.drop_zero]; exact rfl) ?_
        refine RW_callBN 74 (dMail true) q_laws_markEntryS (s_laws_markEntryS (xs.getD x zMail).entries _ (by omega) (hm _ (getD_mem zMail (by omega))) hat.2) true [307200] [] [] rfl rfl (by simp only [go_sem, eMail, hg, List.set_set, mkL_length, mk_getD mM sM zMail k (show x < xs.length by omega)]; exact rfl) rfl (by simp only [go_sem, eMail, hg, List.set_set, mkL_length, mk_getD mM sM zMail k (show x < xs.length by omega)] <;> and_intros <;> first | with_reducible exact rfl | omega | with_reducible trivial | (intros; simp_all; done) | grind) (by rfl) (by simp only [go_sem, eMail, hg, List.set_set, mkL_length, mk_getD mM sM zMail k (show x < xs.length by omega)]; exact rfl) ?_
        simp only [go_sem, eMail, hg, List.set_set, mkL_length, mk_getD mM sM zMail k (show x < xs.length by omega)]; exact rfl) ?_
      refine bk_n ?_
      refine sq_n ?_
      refine W_regn (by simp only [go_sem, eMail, hg, List.set_set, mkL_length, mk_getD mM sM zMail k (show x < xs.length by omega)] <;> and_intros <;> first | with_reducible exact rfl | omega | with_reducible trivial | (intros; simp_all; done) | grind) ?_
      refine lp_next (x+1) [] ?_ ?_ ?_
      · (simp only [go_sem, eMail, hg, List.set_set, mkL_length, mk_getD mM sM zMail k (show x < xs.length by omega)] <;> and_intros <;> first | with_reducible exact rfl | (first | omega | (refine int_eq ?_; rw [mkK_succ sM zMail (by omega)]; rfl) | (refine arr_eq ?_ (by omega); rw [← mk_step (eMail true) mM sM zMail (by omega)]; simp only [eMail, mM, mE, mC])))
      · omega
      · omega
    · skip
      try simp only [Bool.not_eq_eq_eq_not, Bool.not_true, Bool.not_false, decide_eq_true_eq, decide_eq_false_iff_not, Bool.and_eq_true, Bool.or_eq_true] at c0
      obtain rfl : x = xs.length := by omega
      refine CW_exit ?_
      refine sq_e ?_
      refine lp_e ?_
      refine bk_i ?_
      refine sq_n ?_
      refine W_reg (by simp only [go_sem, eMail]; exact rfl) ?_
      refine CW_ret ?_
      simp only [go_sem, eMail, List.drop_length, mkL_length]
      all_goals try first | refine int_res ?_ | refine bool_res ?_
      all_goals
        simp [mkL_length]
end Go.H
end
section
set_option maxRecDepth 100000
set_option linter.unusedVariables false
set_option linter.unusedSimpArgs false
namespace Go.H
open Go Go.Proofs.Tryz
def c_laws_markWonS : SC :=
.seq (rg [
  ss 4 (.mv (.i .i64 0))] [0, 1])
  (.seq (.seq (rg [
  ss 5 (.mv (.i .i64 0))] [0, 1, 5])
  (.block 0 (.loop (.seq (.seq (rg [
  ss 6 (.mv (.t 5)),
  ss 7 (.mv (.t 0)),
  sk 8 36864 (.len (.t 7)),
  ss 9 (.bin .lss (.t 6) (.t 8))] [0, 1, 5, 9])
  (.cond (.t 9) (.skip)
  (.exit 0)))
  (.seq (.block 1 (.seq (rg [
  ss 12 (.mv (.t 0)),
  ss 13 (.mv (.t 5)),
  ss 14 (.mv (.t 1)),
  sd (some 15) 0 0 dWon (.idx (.t 12) (.t 13) 2),
  ss 16 (.fad (.t 15) 0),
  sd none 0 0 dWon (.store (.t 16) (.t 14) 1)] [0, 1, 5])
  (.seq (rg [
  ss 17 (.mv (.t 1)),
  sh 18 1 (.bin .add (.t 17) (.i .i64 1)),
  ss 1 (.mv (.t 18))] [0, 1, 5])
  (.seq (rg [
  ss 19 (.mv (.t 0)),
  ss 20 (.mv (.t 5)),
  ss 21 (.mv (.t 1)),
  sd (some 22) 0 0 dWon (.idx (.t 19) (.t 20) 2),
  ss 23 (.fad (.t 22) 1),
  sd none 0 0 dWon (.store (.t 23) (.t 21) 1)] [0, 1, 5])
  (rg [
  ss 24 (.mv (.t 1)),
  sh 25 1 (.bin .add (.t 24) (.i .i64 1)),
  ss 1 (.mv (.t 25))] [0, 1, 5])))))
  (rg [
  ss 10 (.mv (.t 5)),
  sh 11 1 (.bin .add (.t 10) (.i .i64 1)),
  ss 5 (.mv (.t 11))] [0, 1, 5]))))))
  (.seq (rg [
  ss 26 (.mv (.t 1)),
  ss 4 (.mv (.t 26))] [4])
  (.ret)))
theorem b_laws_markWonS : ∃ c, f67.body = some c ∧ compC prog 27 c = some c_laws_markWonS.er ∧ drawB c c_laws_markWonS = true := ⟨_, rfl, by kernel_rfl, by kernel_rfl⟩
theorem r_laws_markWonS : cmpR prog [.tmp 4] = some [.t 4] := by kernel_rfl
theorem q_laws_markWonS : callB prog F.laws_markWonS = true := by kernel_rfl
variable [Inv prog]
theorem s_laws_markWonS (xs : List Won) (k : Int) (hk : 0 ≤ k) (hl : xs.length ≤ 2097152) (hb : mkK sW xs k ≤ 9000000000000000000) : SemX prog F.laws_markWonS [.one (.arr 0), aI k] [.arr 2 (xs.map eWon)] [rI (mkK sW xs k)] [.arr 2 ((mkL mW sW xs k).map eWon)] := by
  obtain ⟨cc, g1, g2, g3⟩ := b_laws_markWonS
  refine SemX.of_code func67 g1 (by rw [ntmps67]; exact g2) g3 (by rw [results67]; exact r_laws_markWonS) (by rw [ntmps67]; exact Nat.le_of_ble_eq_true rfl) (Nat.le_of_ble_eq_true rfl) (by simp [obOk]) (by simp [argOk, aT, aI, aS, eWon]) ?_
  unfold c_laws_markWonS
  simp only [rg]
  refine W_reg (by simp only [go_sem, eWon]; exact rfl) ?_
  refine CW_assoc ?_
  refine W_reg (by simp only [go_sem, eWon]; exact rfl) ?_
  refine CW_seq ?_
  refine CW_block ?_
  refine CW_loopS (α := Nat) (fun x => [(1, .int .i64 (mkK sW (xs.take x) k)), (5, .int .i64 x)]) (fun x => [(1000000, .arr ⟨2, (mkL mW sW (xs.take x) k ++ xs.drop x).map eWon, 1 + 2 * x, none⟩)]) (fun x => xs.length - x) (fun x => x ≤ xs.length) 0 [] ?_ ?_ ?_
  · (simp only [go_sem, eWon] <;> and_intros <;> first | with_reducible exact rfl | (first | omega | (simp [mkL, mkK]; done)))
  · first | exact Nat.zero_le _ | (simp; done) | omega
  · rintro x hI
    refine CW_eq (by simp only [go_sem, eWon]; exact rfl) ?_
    refine CW_assoc ?_
    refine W_reg (by simp only [go_sem, eWon]; exact rfl) ?_
    refine CW_seq ?_
    refine CW_cond (by simp only [go_sem, eWon]; exact rfl) (fun c0 => ?_) (fun c0 => ?_)
    · skip
      try simp only [Bool.not_eq_eq_eq_not, Bool.not_true, Bool.not_false, decide_eq_true_eq, decide_eq_false_iff_not, Bool.and_eq_true, Bool.or_eq_true] at c0
      have hat := mkK_at sW_up zWon (xs := xs) (i := x) (by omega) hb
      simp only [sW] at hat
      have hg : ∀ r, (((mkL mW sW (xs.take x) k ++ xs.drop x).map eWon).set x r).getD x dWon = r := fun r => getD_set_self (by simp [mkL_length]; omega) r _
      refine CW_skip ?_
      refine sq_n ?_
      refine CW_seq ?_
      refine CW_block ?_
      refine W_reg (by simp only [go_sem, eWon, hg, List.set_set, mkL_length, mk_getD mW sW zWon k (show x < xs.length by omega)] <;> and_intros <;> first | with_reducible exact rfl | omega | with_reducible trivial | (intros; simp_all; done) | grind) ?_
      refine W_reg (by simp only [go_sem, eWon, hg, List.set_set, mkL_length, mk_getD mW sW zWon k (show x < xs.length by omega)] <;> and_intros <;> first | with_reducible exact rfl | omega | with_reducible trivial | (intros; simp_all; done) | grind) ?_
      refine W_reg (by simp only [go_sem, eWon, hg, List.set_set, mkL_length, mk_getD mW sW zWon k (show x < xs.length by omega)] <;> and_intros <;> first | with_reducible exact rfl | omega | with_reducible trivial | (intros; simp_all; done) | grind) ?_
      refine W_regn (by simp only [go_sem, eWon, hg, List.set_set, mkL_length, mk_getD mW sW zWon k (show x < xs.length by omega)] <;> and_intros <;> first | with_reducible exact rfl | omega | with_reducible trivial | (intros; simp_all; done) | grind) ?_
      refine bk_n ?_
      refine sq_n ?_
      refine W_regn (by simp only [go_sem, eWon, hg, List.set_set, mkL_length, mk_getD mW sW zWon k (show x < xs.length by omega)] <;> and_intros <;> first | with_reducible exact rfl | omega | with_reducible trivial | (intros; simp_all; done) | grind) ?_
      refine lp_next (x+1) [] ?_ ?_ ?_
      · (simp only [go_sem, eWon, hg, List.set_set, mkL_length, mk_getD mW sW zWon k (show x < xs.length by omega)] <;> and_intros <;> first | with_reducible exact rfl | (first | omega | (refine int_eq ?_; rw [mkK_succ sW zWon (by omega)]; rfl) | (refine arr_eq ?_ (by omega); rw [← mk_step eWon mW sW zWon (by omega)]; simp only [eWon, mW, mE, mC])))
      · omega
      · omega
    · skip
      try simp only [Bool.not_eq_eq_eq_not, Bool.not_true, Bool.not_false, decide_eq_true_eq, decide_eq_false_iff_not, Bool.and_eq_true, Bool.or_eq_true] at c0
      obtain rfl : x = xs.length := by omega
      refine CW_exit ?_
      refine sq_e ?_
      refine lp_e ?_
      refine bk_i ?_
      refine sq_n ?_
      refine W_reg (by simp only [go_sem, eWon]; exact rfl) ?_
      refine CW_ret ?_
      simp only [go_sem, eWon, List.drop_length, mkL_length]
      all_goals try first | refine int_res ?_ | refine bool_res ?_
      all_goals
        simp [mkL_length]
end Go.H
end
section
set_option maxRecDepth 100000
set_option linter.unusedVariables false
set_option linter.unusedSimpArgs false
namespace Go.H
open Go Go.Proofs.Tryz
def c_laws_markSealS : SC :=
.seq (rg [
  ss 4 (.mv (.i .i64 0))] [0, 1])
  (.seq (.seq (rg [
  ss 5 (.mv (.i .i64 0))] [0, 1, 5])
  (.block 0 (.loop (.seq (.seq (rg [
  ss 6 (.mv (.t 5)),
  ss 7 (.mv (.t 0)),
  sk 8 36864 (.len (.t 7)),
  ss 9 (.bin .lss (.t 6) (.t 8))] [0, 1, 5, 9])
  (.cond (.t 9) (.skip)
  (.exit 0)))
  (.seq (.block 1 (.seq (rg [
  ss 12 (.mv (.t 0)),
  ss 13 (.mv (.t 5)),
  ss 14 (.mv (.t 1)),
  sd (some 15) 0 0 dSeal (.idx (.t 12) (.t 13) 10),
  ss 16 (.fad (.t 15) 0),
  sd none 0 0 dSeal (.store (.t 16) (.t 14) 1)] [0, 1, 5])
  (.seq (rg [
  ss 17 (.mv (.t 1)),
  sh 18 1 (.bin .add (.t 17) (.i .i64 1)),
  ss 1 (.mv (.t 18))] [0, 1, 5])
  (.seq (rg [
  ss 19 (.mv (.t 0)),
  ss 20 (.mv (.t 5)),
  ss 21 (.mv (.t 1)),
  sd (some 22) 0 0 dSeal (.idx (.t 19) (.t 20) 10),
  ss 23 (.fad (.t 22) 1),
  ss 24 (.fad (.t 23) 0),
  sd none 0 0 dSeal (.store (.t 24) (.t 21) 1)] [0, 1, 5])
  (.seq (rg [
  ss 25 (.mv (.t 1)),
  sh 26 1 (.bin .add (.t 25) (.i .i64 1)),
  ss 1 (.mv (.t 26))] [0, 1, 5])
  (.seq (rg [
  ss 27 (.mv (.t 0)),
  ss 28 (.mv (.t 5)),
  ss 29 (.mv (.t 1)),
  sd (some 30) 0 0 dSeal (.idx (.t 27) (.t 28) 10),
  ss 31 (.fad (.t 30) 1),
  ss 32 (.fad (.t 31) 1),
  sd none 0 0 dSeal (.store (.t 32) (.t 29) 1)] [0, 1, 5])
  (.seq (rg [
  ss 33 (.mv (.t 1)),
  sh 34 1 (.bin .add (.t 33) (.i .i64 1)),
  ss 1 (.mv (.t 34))] [0, 1, 5])
  (.seq (rg [
  ss 35 (.mv (.t 0)),
  ss 36 (.mv (.t 5)),
  ss 37 (.mv (.t 1)),
  sd (some 38) 0 0 dSeal (.idx (.t 35) (.t 36) 10),
  ss 39 (.fad (.t 38) 1),
  ss 40 (.fad (.t 39) 2),
  sd none 0 0 dSeal (.store (.t 40) (.t 37) 1)] [0, 1, 5])
  (.seq (rg [
  ss 41 (.mv (.t 1)),
  sh 42 1 (.bin .add (.t 41) (.i .i64 1)),
  ss 1 (.mv (.t 42))] [0, 1, 5])
  (.seq (rg [
  ss 43 (.mv (.t 0)),
  ss 44 (.mv (.t 5)),
  ss 45 (.mv (.t 1)),
  sd (some 46) 0 0 dSeal (.idx (.t 43) (.t 44) 10),
  ss 47 (.fad (.t 46) 1),
  ss 48 (.fad (.t 47) 3),
  ss 49 (.fad (.t 48) 0),
  sd none 0 0 dSeal (.store (.t 49) (.t 45) 1)] [0, 1, 5])
  (.seq (rg [
  ss 50 (.mv (.t 1)),
  sh 51 1 (.bin .add (.t 50) (.i .i64 1)),
  ss 1 (.mv (.t 51))] [0, 1, 5])
  (.seq (rg [
  ss 52 (.mv (.t 0)),
  ss 53 (.mv (.t 5)),
  ss 54 (.mv (.t 1)),
  sd (some 55) 0 0 dSeal (.idx (.t 52) (.t 53) 10),
  ss 56 (.fad (.t 55) 1),
  ss 57 (.fad (.t 56) 3),
  ss 58 (.fad (.t 57) 1),
  sd none 0 0 dSeal (.store (.t 58) (.t 54) 1)] [0, 1, 5])
  (.seq (rg [
  ss 59 (.mv (.t 1)),
  sh 60 1 (.bin .add (.t 59) (.i .i64 1)),
  ss 1 (.mv (.t 60))] [0, 1, 5])
  (.seq (rg [
  ss 61 (.mv (.t 0)),
  ss 62 (.mv (.t 5)),
  ss 63 (.mv (.t 1)),
  sd (some 64) 0 0 dSeal (.idx (.t 61) (.t 62) 10),
  ss 65 (.fad (.t 64) 1),
  ss 66 (.fad (.t 65) 3),
  ss 67 (.fad (.t 66) 2),
  sd none 0 0 dSeal (.store (.t 67) (.t 63) 1)] [0, 1, 5])
  (.seq (rg [
  ss 68 (.mv (.t 1)),
  sh 69 1 (.bin .add (.t 68) (.i .i64 1)),
  ss 1 (.mv (.t 69))] [0, 1, 5])
  (.seq (rg [
  ss 70 (.mv (.t 0)),
  ss 71 (.mv (.t 5)),
  ss 72 (.mv (.t 1)),
  sd (some 73) 0 0 dSeal (.idx (.t 70) (.t 71) 10),
  ss 74 (.fad (.t 73) 1),
  ss 75 (.fad (.t 74) 3),
  ss 76 (.fad (.t 75) 3),
  sd none 0 0 dSeal (.store (.t 76) (.t 72) 1)] [0, 1, 5])
  (.seq (rg [
  ss 77 (.mv (.t 1)),
  sh 78 1 (.bin .add (.t 77) (.i .i64 1)),
  ss 1 (.mv (.t 78))] [0, 1, 5])
  (.seq (rg [
  ss 79 (.mv (.t 0)),
  ss 80 (.mv (.t 5)),
  ss 81 (.mv (.t 1)),
  sd (some 82) 0 0 dSeal (.idx (.t 79) (.t 80) 10),
  ss 83 (.fad (.t 82) 1),
  ss 84 (.fad (.t 83) 3),
  ss 85 (.fad (.t 84) 4),
  sd none 0 0 dSeal (.store (.t 85) (.t 81) 1)] [0, 1, 5])
  (.seq (rg [
  ss 86 (.mv (.t 1)),
  sh 87 1 (.bin .add (.t 86) (.i .i64 1)),
  ss 1 (.mv (.t 87))] [0, 1, 5])
  (.seq (rg [
  ss 88 (.mv (.t 0)),
  ss 89 (.mv (.t 5)),
  ss 90 (.mv (.t 1)),
  sd (some 91) 0 0 dSeal (.idx (.t 88) (.t 89) 10),
  ss 92 (.fad (.t 91) 1),
  ss 93 (.fad (.t 92) 3),
  ss 94 (.fad (.t 93) 5),
  sd none 0 0 dSeal (.store (.t 94) (.t 90) 1)] [0, 1, 5])
  (rg [
  ss 95 (.mv (.t 1)),
  sh 96 1 (.bin .add (.t 95) (.i .i64 1)),
  ss 1 (.mv (.t 96))] [0, 1, 5])))))))))))))))))))))
  (rg [
  ss 10 (.mv (.t 5)),
  sh 11 1 (.bin .add (.t 10) (.i .i64 1)),
  ss 5 (.mv (.t 11))] [0, 1, 5]))))))
  (.seq (rg [
  ss 97 (.mv (.t 1)),
  ss 4 (.mv (.t 97))] [4])
  (.ret)))
theorem b_laws_markSealS : ∃ c, f68.body = some c ∧ compC prog 98 c = some c_laws_markSealS.er ∧ drawB c c_laws_markSealS = true := ⟨_, rfl, by kernel_rfl, by kernel_rfl⟩
theorem r_laws_markSealS : cmpR prog [.tmp 4] = some [.t 4] := by kernel_rfl
theorem q_laws_markSealS : callB prog F.laws_markSealS = true := by kernel_rfl
variable [Inv prog]
theorem s_laws_markSealS (xs : List Seal) (k : Int) (hk : 0 ≤ k) (hl : xs.length ≤ 2097152) (hb : mkK sS xs k ≤ 9000000000000000000) : SemX prog F.laws_markSealS [.one (.arr 0), aI k] [.arr 10 (xs.map eSeal)] [rI (mkK sS xs k)] [.arr 10 ((mkL mS sS xs k).map eSeal)] := by
  obtain ⟨cc, g1, g2, g3⟩ := b_laws_markSealS
  refine SemX.of_code func68 g1 (by rw [ntmps68]; exact g2) g3 (by rw [results68]; exact r_laws_markSealS) (by rw [ntmps68]; exact Nat.le_of_ble_eq_true rfl) (Nat.le_of_ble_eq_true rfl) (by simp [obOk]) (by simp [argOk, aT, aI, aS, eSeal]) ?_
  unfold c_laws_markSealS
  simp only [rg]
  refine W_reg (by simp only [go_sem, eSeal]; exact rfl) ?_
  refine CW_assoc ?_
  refine W_reg (by simp only [go_sem, eSeal]; exact rfl) ?_
  refine CW_seq ?_
  refine CW_block ?_
  refine CW_loopS (α := Nat) (fun x => [(1, .int .i64 (mkK sS (xs.take x) k)), (5, .int .i64 x)]) (fun x => [(1000000, .arr ⟨10, (mkL mS sS (xs.take x) k ++ xs.drop x).map eSeal, 1 + 10 * x, none⟩)]) (fun x => xs.length - x) (fun x => x ≤ xs.length) 0 [] ?_ ?_ ?_
  · (simp only [go_sem, eSeal] <;> and_intros <;> first | with_reducible exact rfl | (first | omega | (simp [mkL, mkK]; done)))
  · first | exact Nat.zero_le _ | (simp; done) | omega
  · rintro x hI
    refine CW_eq (by simp only [go_sem, eSeal]; exact rfl) ?_
    refine CW_assoc ?_
    refine W_reg (by simp only [go_sem, eSeal]; exact rfl) ?_
    refine CW_seq ?_
    refine CW_cond (by simp only [go_sem, eSeal]; exact rfl) (fun c0 => ?_) (fun c0 => ?_)
    · skip
      try simp only [Bool.not_eq_eq_eq_not, Bool.not_true, Bool.not_false, decide_eq_true_eq, decide_eq_false_iff_not, Bool.and_eq_true, Bool.or_eq_true] at c0
      have hat := mkK_at sS_up zSeal (xs := xs) (i := x) (by omega) hb
      simp only [sS] at hat
      have hg : ∀ r, (((mkL mS sS (xs.take x) k ++ xs.drop x).map eSeal).set x r).getD x dSeal = r := fun r => getD_set_self (by simp [mkL_length]; omega) r _
      refine CW_skip ?_
      refine sq_n ?_
      refine CW_seq ?_
      refine CW_block ?_
      refine W_reg (by simp only [go_sem, eSeal, hg, List.set_set, mkL_length, mk_getD mS sS zSeal k (show x < xs.length by omega)] <;> and_intros <;> first | with_reducible exact rfl | omega | with_reducible trivial | (intros; simp_all; done) | grind) ?_
      refine W_reg (by simp only [go_sem, eSeal, hg, List.set_set, mkL_length, mk_getD mS sS zSeal k (show x < xs.length by omega)] <;> and_intros <;> first | with_reducible exact rfl | omega | with_reducible trivial | (intros; simp_all; done) | grind) ?_
      refine W_reg (by simp only [go_sem, eSeal, hg, List.set_set, mkL_length, mk_getD mS sS zSeal k (show x < xs.length by omega)] <;> and_intros <;> first | with_reducible exact rfl | omega | with_reducible trivial | (intros; simp_all; done) | grind) ?_
      refine W_reg (by simp only [go_sem, eSeal, hg, List.set_set, mkL_length, mk_getD mS sS zSeal k (show x < xs.length by omega)] <;> and_intros <;> first | with_reducible exact rfl | omega | with_reducible trivial | (intros; simp_all; done) | grind) ?_
      refine W_reg (by simp only [go_sem, eSeal, hg, List.set_set, mkL_length, mk_getD mS sS zSeal k (show x < xs.length by omega)] <;> and_intros <;> first | with_reducible exact rfl | omega | with_reducible trivial | (intros; simp_all; done) | grind) ?_
      refine W_reg (by simp only [go_sem, eSeal, hg, List.set_set, mkL_length, mk_getD mS sS zSeal k (show x < xs.length by omega)] <;> and_intros <;> first | with_reducible exact rfl | omega | with_reducible trivial | (intros; simp_all; done) | grind) ?_
      refine W_reg (by simp only [go_sem, eSeal, hg, List.set_set, mkL_length, mk_getD mS sS zSeal k (show x < xs.length by omega)] <;> and_intros <;> first | with_reducible exact rfl | omega | with_reducible trivial | (intros; simp_all; done) | grind) ?_
      refine W_reg (by simp only [go_sem, eSeal, hg, List.set_set, mkL_length, mk_getD mS sS zSeal k (show x < xs.length by omega)] <;> and_intros <;> first | with_reducible exact rfl | omega | with_reducible trivial | (intros; simp_all; done) | grind) ?_
      refine W_reg (by simp only [go_sem, eSeal, hg, List.set_set, mkL_length, mk_getD mS sS zSeal k (show x < xs.length by omega)] <;> and_intros <;> first | with_reducible exact rfl | omega | with_reducible trivial | (intros; simp_all; done) | grind) ?_
      refine W_reg (by simp only [go_sem, eSeal, hg, List.set_set, mkL_length, mk_getD mS sS zSeal k (show x < xs.length by omega)] <;> and_intros <;> first | with_reducible exact rfl | omega | with_reducible trivial | (intros; simp_all; done) | grind) ?_
      refine W_reg (by simp only [go_sem, eSeal, hg, List.set_set, mkL_length, mk_getD mS sS zSeal k (show x < xs.length by omega)] <;> and_intros <;> first | with_reducible exact rfl | omega | with_reducible trivial | (intros; simp_all; done) | grind) ?_
      refine W_reg (by simp only [go_sem, eSeal, hg, List.set_set, mkL_length, mk_getD mS sS zSeal k (show x < xs.length by omega)] <;> and_intros <;> first | with_reducible exact rfl | omega | with_reducible trivial | (intros; simp_all; done) | grind) ?_
      refine W_reg (by simp only [go_sem, eSeal, hg, List.set_set, mkL_length, mk_getD mS sS zSeal k (show x < xs.length by omega)] <;> and_intros <;> first | with_reducible exact rfl | omega | with_reducible trivial | (intros; simp_all; done) | grind) ?_
      refine W_reg (by simp only [go_sem, eSeal, hg, List.set_set, mkL_length, mk_getD mS sS zSeal k (show x < xs.length by omega)] <;> and_intros <;> first | with_reducible exact rfl | omega | with_reducible trivial | (intros; simp_all; done) | grind) ?_
      refine W_reg (by simp only [go_sem, eSeal, hg, List.set_set, mkL_length, mk_getD mS sS zSeal k (show x < xs.length by omega)] <;> and_intros <;> first | with_reducible exact rfl | omega | with_reducible trivial | (intros; simp_all; done) | grind) ?_
      refine W_reg (by simp only [go_sem, eSeal, hg, List.set_set, mkL_length, mk_getD mS sS zSeal k (show x < xs.length by omega)] <;> and_intros <;> first | with_reducible exact rfl | omega | with_reducible trivial | (intros; simp_all; done) | grind) ?_
      refine W_reg (by simp only [go_sem, eSeal, hg, List.set_set, mkL_length, mk_getD mS sS zSeal k (show x < xs.length by omega)] <;> and_intros <;> first | with_reducible exact rfl | omega | with_reducible trivial | (intros; simp_all; done) | grind) ?_
      refine W_reg (by simp only [go_sem, eSeal, hg, List.set_set, mkL_length, mk_getD mS sS zSeal k (show x < xs.length by omega)] <;> and_intros <;> first | with_reducible exact rfl | omega | with_reducible trivial | (intros; simp_all; done) | grind) ?_
      refine W_reg (by simp only [go_sem, eSeal, hg, List.set_set, mkL_length, mk_getD mS sS zSeal k (show x < xs.length by omega)] <;> and_intros <;> first | with_reducible exact rfl | omega | with_reducible trivial | (intros; simp_all; done) | grind) ?_
      refine W_regn (by simp only [go_sem, eSeal, hg, List.set_set, mkL_length, mk_getD mS sS zSeal k (show x < xs.length by omega)] <;> and_intros <;> first | with_reducible exact rfl | omega | with_reducible trivial | (intros; simp_all; done) | grind) ?_
      refine bk_n ?_
      refine sq_n ?_
      refine W_regn (by simp only [go_sem, eSeal, hg, List.set_set, mkL_length, mk_getD mS sS zSeal k (show x < xs.length by omega)] <;> and_intros <;> first | with_reducible exact rfl | omega | with_reducible trivial | (intros; simp_all; done) | grind) ?_
      refine lp_next (x+1) [] ?_ ?_ ?_
      · (simp only [go_sem, eSeal, hg, List.set_set, mkL_length, mk_getD mS sS zSeal k (show x < xs.length by omega)] <;> and_intros <;> first | with_reducible exact rfl | (first | omega | (refine int_eq ?_; rw [mkK_succ sS zSeal (by omega)]; rfl) | (refine arr_eq ?_ (by omega); rw [← mk_step eSeal mS sS zSeal (by omega)]; simp only [eSeal, mS, mE, mC])))
      · omega
      · omega
    · skip
      try simp only [Bool.not_eq_eq_eq_not, Bool.not_true, Bool.not_false, decide_eq_true_eq, decide_eq_false_iff_not, Bool.and_eq_true, Bool.or_eq_true] at c0
      obtain rfl : x = xs.length := by omega
      refine CW_exit ?_
      refine sq_e ?_
      refine lp_e ?_
      refine bk_i ?_
      refine sq_n ?_
      refine W_reg (by simp only [go_sem, eSeal]; exact rfl) ?_
      refine CW_ret ?_
      simp only [go_sem, eSeal, List.drop_length, mkL_length]
      all_goals try first | refine int_res ?_ | refine bool_res ?_
      all_goals
        simp [mkL_length]
end Go.H
end
section
set_option maxRecDepth 100000
set_option linter.unusedVariables false
set_option linter.unusedSimpArgs false
namespace Go.H
open Go Go.Proofs.Tryz
def c_laws_markCluster : SC :=
.seq (rg [
  sk 2 12288 (.box (.t 0)),
  ss 4 (.mv (.i .i64 0))] [1, 2])
  (.seq (rg [
  ss 5 (.fad (.t 2) 0),
  ss 6 (.load (.t 5) 1 false),
  ss 7 (.mv (.t 1)),
  sk 8 36864 (.call (.f F.laws_markNodeS) [(.t 6, none), (.t 7, none)]),
  ss 1 (.mv (.t 8))] [1, 2])
  (.seq (rg [
  ss 9 (.fad (.t 2) 1),
  ss 10 (.load (.t 9) 1 false),
  ss 11 (.mv (.t 1)),
  sk 12 53248 (.call (.f F.laws_markMailS) [(.t 10, none), (.t 11, none)]),
  ss 1 (.mv (.t 12))] [1, 2])
  (.seq (rg [
  ss 13 (.fad (.t 2) 2),
  ss 14 (.load (.t 13) 1 false),
  ss 15 (.mv (.t 1)),
  sk 16 69632 (.call (.f F.laws_markWonS) [(.t 14, none), (.t 15, none)]),
  ss 1 (.mv (.t 16))] [1, 2])
  (.seq (rg [
  ss 17 (.fad (.t 2) 3),
  ss 18 (.load (.t 17) 1 false),
  ss 19 (.mv (.t 1)),
  sk 20 86016 (.call (.f F.laws_markSealS) [(.t 18, none), (.t 19, none)]),
  ss 1 (.mv (.t 20))] [1])
  (.seq (rg [
  ss 21 (.mv (.t 1)),
  ss 4 (.mv (.t 21))] [4])
  (.ret))))))
theorem b_laws_markCluster : ∃ c, f17.body = some c ∧ compC prog 22 c = some c_laws_markCluster.er ∧ drawB c c_laws_markCluster = true := ⟨_, rfl, by kernel_rfl, by kernel_rfl⟩
theorem r_laws_markCluster : cmpR prog [.tmp 4] = some [.t 4] := by kernel_rfl
theorem q_laws_markCluster : callB prog F.laws_markCluster = true := by kernel_rfl
variable [Inv prog]
theorem s_laws_markCluster (x : Cluster) (hx : limC 2097152 x) (k : Int) (hk : 0 ≤ k) (hb : sCl x k ≤ 9000000000000000000) : SemX prog F.laws_markCluster [.agg [.arr 0, .arr 1, .arr 2, .arr 3], aI k] [.arr 10 (x.nodes.map (eNode true)), .arr 9 (x.mails.map (eMail true)), .arr 2 (x.wins.map eWon), .arr 10 (x.seals.map eSeal)] [rI (sCl x k)] [.arr 10 ((mCl x k).nodes.map (eNode true)), .arr 9 ((mCl x k).mails.map (eMail true)), .arr 2 ((mCl x k).wins.map eWon), .arr 10 ((mCl x k).seals.map eSeal)] := by
  obtain ⟨cc, g1, g2, g3⟩ := b_laws_markCluster
  refine SemX.of_code func17 g1 (by rw [ntmps17]; exact g2) g3 (by rw [results17]; exact r_laws_markCluster) (by rw [ntmps17]; exact Nat.le_of_ble_eq_true rfl) (Nat.le_of_ble_eq_true rfl) (by simp [obOk]) (by simp [argOk, aT, aI, aS]) ?_
  unfold c_laws_markCluster
  simp only [rg]
  simp only [sCl] at hb
  have u3 := Int.le_trans (mkK_mono sS_up _ _) hb
  have u2 := Int.le_trans (mkK_mono sW_up _ _) u3
  have u1 := Int.le_trans (mkK_mono sM_up _ _) u2
  have v1 := mkK_mono sN_up x.nodes k
  have v2 := mkK_mono sM_up x.mails (mkK sN x.nodes k)
  have v3 := mkK_mono sW_up x.wins (mkK sM x.mails (mkK sN x.nodes k))
  refine W_reg (by simp only [go_sem]; exact rfl) ?_
  refine W_reg (by
    refine RW_cut 3 (by simp only [go_sem]; exact rfl) ?_
    refine RW_ls (by simp only [List.drop_succ_cons, List.drop_zero]; exact rfl) ?_
    refine RW_callN q_laws_markNodeS (s_laws_markNodeS x.nodes k hk hx.1.1 u1 hx.1.2) true [1000000] [] [] rfl rfl (by simp only [go_sem]; exact rfl) (by rfl) (by simp only [go_sem]; exact rfl) ?_
    simp only [go_sem]; exact rfl) ?_
  refine W_reg (by
    refine RW_cut 3 (by simp only [go_sem]; exact rfl) ?_
    refine RW_ls (by simp only [List.drop_succ_cons, List.drop_zero]; exact rfl) ?_
    refine RW_callN q_laws_markMailS (s_laws_markMailS x.mails _ (by omega) hx.2.1.1 u2 hx.2.1.2) true [1001000] [] [] rfl rfl (by simp only [go_sem]; exact rfl) (by rfl) (by simp only [go_sem]; exact rfl) ?_
    simp only [go_sem]; exact rfl) ?_
  refine W_reg (by
    refine RW_cut 3 (by simp only [go_sem]; exact rfl) ?_
    refine RW_ls (by simp only [List.drop_succ_cons, List.drop_zero]; exact rfl) ?_
    refine RW_callN q_laws_markWonS (s_laws_markWonS x.wins _ (by omega) hx.2.2.1 u3) true [1002000] [] [] rfl rfl (by simp only [go_sem]; exact rfl) (by rfl) (by simp only [go_sem]; exact rfl) ?_
    simp only [go_sem]; exact rfl) ?_
  refine W_reg (by
    refine RW_cut 3 (by simp only [go_sem]; exact rfl) ?_
    refine RW_ls (by simp only [List.drop_succ_cons, List.drop_zero]; exact rfl) ?_
    refine RW_callN q_laws_markSealS (s_laws_markSealS x.seals _ (by omega) hx.2.2.2 hb) true [1003000] [] [] rfl rfl (by simp only [go_sem]; exact rfl) (by rfl) (by simp only [go_sem]; exact rfl) ?_
    simp only [go_sem]; exact rfl) ?_
  refine W_reg (by simp only [go_sem]; exact rfl) ?_
  refine CW_ret ?_
  simp only [go_sem, mCl, sCl, mkL_length]
end Go.H
end
section
set_option maxRecDepth 100000
set_option linter.unusedVariables false
set_option linter.unusedSimpArgs false
namespace Go.H
open Go Go.Proofs.Tryz
def c_laws_markClusterResult : SC :=
.seq (rg [
  sk 2 12288 (.box (.t 0)),
  ss 4 (.mv (.i .i64 0))] [1, 2])
  (.seq (rg [
  ss 5 (.fad (.t 2) 1),
  ss 6 (.load (.t 5) 4 true),
  ss 7 (.mv (.t 1)),
  sk 8 36864 (.call (.f F.laws_markCluster) [(.t 6, none), (.t 7, none)]),
  ss 1 (.mv (.t 8))] [1])
  (.seq (rg [
  ss 9 (.mv (.t 1)),
  ss 4 (.mv (.t 9))] [4])
  (.ret)))
theorem b_laws_markClusterResult : ∃ c, f18.body = some c ∧ compC prog 10 c = some c_laws_markClusterResult.er ∧ drawB c c_laws_markClusterResult = true := ⟨_, rfl, by kernel_rfl, by kernel_rfl⟩
theorem r_laws_markClusterResult : cmpR prog [.tmp 4] = some [.t 4] := by kernel_rfl
theorem q_laws_markClusterResult : callB prog F.laws_markClusterResult = true := by kernel_rfl
variable [Inv prog]
theorem s_laws_markClusterResult (x : Cluster) (c : Int) (hx : limC 2097152 x) (k : Int) (hk : 0 ≤ k) (hb : sCl x k ≤ 9000000000000000000) : SemX prog F.laws_markClusterResult [.agg [.t (.int .i64 c), .arr 0, .arr 1, .arr 2, .arr 3], aI k] [.arr 10 (x.nodes.map (eNode true)), .arr 9 (x.mails.map (eMail true)), .arr 2 (x.wins.map eWon), .arr 10 (x.seals.map eSeal)] [rI (sCl x k)] [.arr 10 ((mCl x k).nodes.map (eNode true)), .arr 9 ((mCl x k).mails.map (eMail true)), .arr 2 ((mCl x k).wins.map eWon), .arr 10 ((mCl x k).seals.map eSeal)] := by
  obtain ⟨cc, g1, g2, g3⟩ := b_laws_markClusterResult
  refine SemX.of_code func18 g1 (by rw [ntmps18]; exact g2) g3 (by rw [results18]; exact r_laws_markClusterResult) (by rw [ntmps18]; exact Nat.le_of_ble_eq_true rfl) (Nat.le_of_ble_eq_true rfl) (by simp [obOk]) (by simp [argOk, aT, aI, aS]) ?_
  unfold c_laws_markClusterResult
  simp only [rg]
  refine W_reg (by simp only [go_sem]; exact rfl) ?_
  refine W_reg (by
    refine RW_cut 3 (by simp only [go_sem]; exact rfl) ?_
    refine RW_ls (by simp only [List.drop_succ_cons, List.drop_zero]; exact rfl) ?_
    refine RW_callN q_laws_markCluster (s_laws_markCluster x hx k hk hb) true [1000000, 1001000, 1002000, 1003000] [] [] rfl rfl (by simp only [go_sem]; exact rfl) (by rfl) (by simp only [go_sem]; exact rfl) ?_
    simp only [go_sem]; exact rfl) ?_
  refine W_reg (by simp only [go_sem]; exact rfl) ?_
  refine CW_ret ?_
  simp only [go_sem, mCl, mkL_length]
end Go.H
end
section
set_option maxRecDepth 100000
set_option linter.unusedVariables false
set_option linter.unusedSimpArgs false
namespace Go.H
open Go Go.Proofs.Tryz
def c_laws_heldEntryS : SC :=
.seq (rg [
  ss 4 (.mv (.i .i64 0))] [0, 1])
  (.seq (.seq (rg [
  ss 5 (.mv (.i .i64 0))] [0, 1, 5])
  (.block 0 (.loop (.seq (.seq (rg [
  ss 6 (.mv (.t 5)),
  ss 7 (.mv (.t 0)),
  sk 8 36864 (.len (.t 7)),
  ss 9 (.bin .lss (.t 6) (.t 8))] [0, 1, 5, 9])
  (.cond (.t 9) (.skip)
  (.exit 0)))
  (.seq (.block 1 (.seq (.seq (rg [
  ss 12 (.mv (.t 0)),
  ss 13 (.mv (.t 5)),
  sd (some 14) 0 0 dEntry (.idx (.t 12) (.t 13) 9),
  ss 15 (.fad (.t 14) 0),
  sd (some 16) 0 0 dEntry (.load (.t 15) 1 false),
  ss 17 (.mv (.t 1)),
  ss 18 (.bin .neq (.t 16) (.t 17))] [0, 1, 5, 18])
  (.cond (.t 18) (.seq (rg [
  ss 4 (.mv (.i .i64 (-1)))] [4])
  (.ret))
  (.skip)))
  (.seq (rg [
  ss 19 (.mv (.t 1)),
  sh 20 1 (.bin .add (.t 19) (.i .i64 1)),
  ss 1 (.mv (.t 20))] [0, 1, 5])
  (.seq (.seq (rg [
  ss 21 (.mv (.t 0)),
  ss 22 (.mv (.t 5)),
  sd (some 23) 0 0 dEntry (.idx (.t 21) (.t 22) 9),
  ss 24 (.fad (.t 23) 1),
  sd (some 25) 0 0 dEntry (.load (.t 24) 1 false),
  ss 26 (.mv (.t 1)),
  ss 27 (.bin .neq (.t 25) (.t 26))] [0, 1, 5, 27])
  (.cond (.t 27) (.seq (rg [
  ss 4 (.mv (.i .i64 (-1)))] [4])
  (.ret))
  (.skip)))
  (.seq (rg [
  ss 28 (.mv (.t 1)),
  sh 29 1 (.bin .add (.t 28) (.i .i64 1)),
  ss 1 (.mv (.t 29))] [0, 1, 5])
  (.seq (.seq (rg [
  ss 30 (.mv (.t 0)),
  ss 31 (.mv (.t 5)),
  sd (some 32) 0 0 dEntry (.idx (.t 30) (.t 31) 9),
  ss 33 (.fad (.t 32) 2),
  sd (some 34) 0 0 dEntry (.load (.t 33) 1 false),
  ss 35 (.mv (.t 1)),
  ss 36 (.bin .neq (.t 34) (.t 35))] [0, 1, 5, 36])
  (.cond (.t 36) (.seq (rg [
  ss 4 (.mv (.i .i64 (-1)))] [4])
  (.ret))
  (.skip)))
  (.seq (rg [
  ss 37 (.mv (.t 1)),
  sh 38 1 (.bin .add (.t 37) (.i .i64 1)),
  ss 1 (.mv (.t 38))] [0, 1, 5])
  (.seq (.seq (rg [
  ss 39 (.mv (.t 0)),
  ss 40 (.mv (.t 5)),
  sd (some 41) 0 0 dEntry (.idx (.t 39) (.t 40) 9),
  ss 42 (.fad (.t 41) 3),
  ss 43 (.fad (.t 42) 0),
  sd (some 44) 0 0 dEntry (.load (.t 43) 1 false),
  ss 45 (.mv (.t 1)),
  ss 46 (.bin .neq (.t 44) (.t 45))] [0, 1, 5, 46])
  (.cond (.t 46) (.seq (rg [
  ss 4 (.mv (.i .i64 (-1)))] [4])
  (.ret))
  (.skip)))
  (.seq (rg [
  ss 47 (.mv (.t 1)),
  sh 48 1 (.bin .add (.t 47) (.i .i64 1)),
  ss 1 (.mv (.t 48))] [0, 1, 5])
  (.seq (.seq (rg [
  ss 49 (.mv (.t 0)),
  ss 50 (.mv (.t 5)),
  sd (some 51) 0 0 dEntry (.idx (.t 49) (.t 50) 9),
  ss 52 (.fad (.t 51) 3),
  ss 53 (.fad (.t 52) 1),
  sd (some 54) 0 0 dEntry (.load (.t 53) 1 false),
  ss 55 (.mv (.t 1)),
  ss 56 (.bin .neq (.t 54) (.t 55))] [0, 1, 5, 56])
  (.cond (.t 56) (.seq (rg [
  ss 4 (.mv (.i .i64 (-1)))] [4])
  (.ret))
  (.skip)))
  (.seq (rg [
  ss 57 (.mv (.t 1)),
  sh 58 1 (.bin .add (.t 57) (.i .i64 1)),
  ss 1 (.mv (.t 58))] [0, 1, 5])
  (.seq (.seq (rg [
  ss 59 (.mv (.t 0)),
  ss 60 (.mv (.t 5)),
  sd (some 61) 0 0 dEntry (.idx (.t 59) (.t 60) 9),
  ss 62 (.fad (.t 61) 3),
  ss 63 (.fad (.t 62) 2),
  sd (some 64) 0 0 dEntry (.load (.t 63) 1 false),
  ss 65 (.mv (.t 1)),
  ss 66 (.bin .neq (.t 64) (.t 65))] [0, 1, 5, 66])
  (.cond (.t 66) (.seq (rg [
  ss 4 (.mv (.i .i64 (-1)))] [4])
  (.ret))
  (.skip)))
  (.seq (rg [
  ss 67 (.mv (.t 1)),
  sh 68 1 (.bin .add (.t 67) (.i .i64 1)),
  ss 1 (.mv (.t 68))] [0, 1, 5])
  (.seq (.seq (rg [
  ss 69 (.mv (.t 0)),
  ss 70 (.mv (.t 5)),
  sd (some 71) 0 0 dEntry (.idx (.t 69) (.t 70) 9),
  ss 72 (.fad (.t 71) 3),
  ss 73 (.fad (.t 72) 3),
  sd (some 74) 0 0 dEntry (.load (.t 73) 1 false),
  ss 75 (.mv (.t 1)),
  ss 76 (.bin .neq (.t 74) (.t 75))] [0, 1, 5, 76])
  (.cond (.t 76) (.seq (rg [
  ss 4 (.mv (.i .i64 (-1)))] [4])
  (.ret))
  (.skip)))
  (.seq (rg [
  ss 77 (.mv (.t 1)),
  sh 78 1 (.bin .add (.t 77) (.i .i64 1)),
  ss 1 (.mv (.t 78))] [0, 1, 5])
  (.seq (.seq (rg [
  ss 79 (.mv (.t 0)),
  ss 80 (.mv (.t 5)),
  sd (some 81) 0 0 dEntry (.idx (.t 79) (.t 80) 9),
  ss 82 (.fad (.t 81) 3),
  ss 83 (.fad (.t 82) 4),
  sd (some 84) 0 0 dEntry (.load (.t 83) 1 false),
  ss 85 (.mv (.t 1)),
  ss 86 (.bin .neq (.t 84) (.t 85))] [0, 1, 5, 86])
  (.cond (.t 86) (.seq (rg [
  ss 4 (.mv (.i .i64 (-1)))] [4])
  (.ret))
  (.skip)))
  (.seq (rg [
  ss 87 (.mv (.t 1)),
  sh 88 1 (.bin .add (.t 87) (.i .i64 1)),
  ss 1 (.mv (.t 88))] [0, 1, 5])
  (.seq (.seq (rg [
  ss 89 (.mv (.t 0)),
  ss 90 (.mv (.t 5)),
  sd (some 91) 0 0 dEntry (.idx (.t 89) (.t 90) 9),
  ss 92 (.fad (.t 91) 3),
  ss 93 (.fad (.t 92) 5),
  sd (some 94) 0 0 dEntry (.load (.t 93) 1 false),
  ss 95 (.mv (.t 1)),
  ss 96 (.bin .neq (.t 94) (.t 95))] [0, 1, 5, 96])
  (.cond (.t 96) (.seq (rg [
  ss 4 (.mv (.i .i64 (-1)))] [4])
  (.ret))
  (.skip)))
  (rg [
  ss 97 (.mv (.t 1)),
  sh 98 1 (.bin .add (.t 97) (.i .i64 1)),
  ss 1 (.mv (.t 98))] [0, 1, 5])))))))))))))))))))
  (rg [
  ss 10 (.mv (.t 5)),
  sh 11 1 (.bin .add (.t 10) (.i .i64 1)),
  ss 5 (.mv (.t 11))] [0, 1, 5]))))))
  (.seq (rg [
  ss 99 (.mv (.t 1)),
  ss 4 (.mv (.t 99))] [4])
  (.ret)))
theorem b_laws_heldEntryS : ∃ c, f151.body = some c ∧ compC prog 100 c = some c_laws_heldEntryS.er ∧ drawB c c_laws_heldEntryS = true := ⟨_, rfl, by kernel_rfl, by kernel_rfl⟩
theorem r_laws_heldEntryS : cmpR prog [.tmp 4] = some [.t 4] := by kernel_rfl
theorem q_laws_heldEntryS : callB prog F.laws_heldEntryS = true := by kernel_rfl
variable [Inv prog]
theorem s_laws_heldEntryS (xs : List Entry) (k : Int) (hk : 0 ≤ k) (hl : xs.length ≤ 2097152) (hb : mkK sE xs k ≤ 9000000000000000000)  : SemX prog F.laws_heldEntryS [aT (.sl false 9 ((mkL mE sE xs k).map eEntry)), aI k] [] [rI (mkK sE xs k)] [] := by
  obtain ⟨cc, g1, g2, g3⟩ := b_laws_heldEntryS
  refine SemX.of_code func151 g1 (by rw [ntmps151]; exact g2) g3 (by rw [results151]; exact r_laws_heldEntryS) (by rw [ntmps151]; exact Nat.le_of_ble_eq_true rfl) (Nat.le_of_ble_eq_true rfl) (by simp) (by simp [argOk, aT, aI, aS, eEntry, mkL_length]) ?_
  unfold c_laws_heldEntryS
  simp only [rg]
  refine W_reg (by simp only [go_sem, eEntry, mkL_length]; exact rfl) ?_
  refine CW_assoc ?_
  refine W_reg (by simp only [go_sem, eEntry, mkL_length]; exact rfl) ?_
  refine CW_seq ?_
  refine CW_block ?_
  refine CW_loopS (α := Nat) (fun x => [(1, .int .i64 (mkK sE (xs.take x) k)), (5, .int .i64 x)]) (fun x => []) (fun x => xs.length - x) (fun x => x ≤ xs.length) 0 [] ?_ ?_ ?_
  · (simp only [go_sem, eEntry, mkL_length] <;> and_intros <;> first | with_reducible exact rfl | (first | omega | (simp [mkK]; done)))
  · first | exact Nat.zero_le _ | (simp; done) | omega
  · rintro x hI
    refine CW_eq (by simp only [go_sem, eEntry, mkL_length]; exact rfl) ?_
    refine CW_assoc ?_
    refine W_reg (by simp only [go_sem, eEntry, mkL_length]; exact rfl) ?_
    refine CW_seq ?_
    refine CW_cond (by simp only [go_sem, eEntry, mkL_length]; exact rfl) (fun c0 => ?_) (fun c0 => ?_)
    · skip
      try simp only [Bool.not_eq_eq_eq_not, Bool.not_true, Bool.not_false, decide_eq_true_eq, decide_eq_false_iff_not, Bool.and_eq_true, Bool.or_eq_true] at c0
      have hat := mkK_at sE_up zEntry (xs := xs) (i := x) (by omega) hb
      simp only [sE] at hat
      have hg := mkL_getD mE sE zEntry k (show x < xs.length by omega)
      refine CW_skip ?_
      refine sq_n ?_
      refine CW_seq ?_
      refine CW_block ?_
      refine CW_assoc ?_
      refine W_reg (by simp only [go_sem, eEntry, mkL_length, hg, mE, mE, mC] <;> and_intros <;> first | with_reducible exact rfl | omega | with_reducible trivial | (intros; simp_all; done) | grind) ?_
      refine CW_seq ?_
      refine CW_cond (by simp only [go_sem, eEntry, mkL_length, hg, mE, mE, mC]; exact rfl) (fun c1 => ?_) (fun c1 => ?_)
      · skip
        cases c1
      · skip
        skip
        refine CW_skip ?_
        refine sq_n ?_
        refine W_reg (by simp only [go_sem, eEntry, mkL_length, hg, mE, mE, mC] <;> and_intros <;> first | with_reducible exact rfl | omega | with_reducible trivial | (intros; simp_all; done) | grind) ?_
        refine CW_assoc ?_
        refine W_reg (by simp only [go_sem, eEntry, mkL_length, hg, mE, mE, mC] <;> and_intros <;> first | with_reducible exact rfl | omega | with_reducible trivial | (intros; simp_all; done) | grind) ?_
        refine CW_seq ?_
        refine CW_cond (by simp only [go_sem, eEntry, mkL_length, hg, mE, mE, mC]; exact rfl) (fun c2 => ?_) (fun c2 => ?_)
        · skip
          cases c2
        · skip
          skip
          refine CW_skip ?_
          refine sq_n ?_
          refine W_reg (by simp only [go_sem, eEntry, mkL_length, hg, mE, mE, mC] <;> and_intros <;> first | with_reducible exact rfl | omega | with_reducible trivial | (intros; simp_all; done) | grind) ?_
          refine CW_assoc ?_
          refine W_reg (by simp only [go_sem, eEntry, mkL_length, hg, mE, mE, mC] <;> and_intros <;> first | with_reducible exact rfl | omega | with_reducible trivial | (intros; simp_all; done) | grind) ?_
          refine CW_seq ?_
          refine CW_cond (by simp only [go_sem, eEntry, mkL_length, hg, mE, mE, mC]; exact rfl) (fun c3 => ?_) (fun c3 => ?_)
          · skip
            cases c3
          · skip
            skip
            refine CW_skip ?_
            refine sq_n ?_
            refine W_reg (by simp only [go_sem, eEntry, mkL_length, hg, mE, mE, mC] <;> and_intros <;> first | with_reducible exact rfl | omega | with_reducible trivial | (intros; simp_all; done) | grind) ?_
            refine CW_assoc ?_
            refine W_reg (by simp only [go_sem, eEntry, mkL_length, hg, mE, mE, mC] <;> and_intros <;> first | with_reducible exact rfl | omega | with_reducible trivial | (intros; simp_all; done) | grind) ?_
            refine CW_seq ?_
            refine CW_cond (by simp only [go_sem, eEntry, mkL_length, hg, mE, mE, mC]; exact rfl) (fun c4 => ?_) (fun c4 => ?_)
            · skip
              cases c4
            · skip
              skip
              refine CW_skip ?_
              refine sq_n ?_
              refine W_reg (by simp only [go_sem, eEntry, mkL_length, hg, mE, mE, mC] <;> and_intros <;> first | with_reducible exact rfl | omega | with_reducible trivial | (intros; simp_all; done) | grind) ?_
              refine CW_assoc ?_
              refine W_reg (by simp only [go_sem, eEntry, mkL_length, hg, mE, mE, mC] <;> and_intros <;> first | with_reducible exact rfl | omega | with_reducible trivial | (intros; simp_all; done) | grind) ?_
              refine CW_seq ?_
              refine CW_cond (by simp only [go_sem, eEntry, mkL_length, hg, mE, mE, mC]; exact rfl) (fun c5 => ?_) (fun c5 => ?_)
              · skip
                cases c5
              · skip
                skip
                refine CW_skip ?_
                refine sq_n ?_
                refine W_reg (by simp only [go_sem, eEntry, mkL_length, hg, mE, mE, mC] <;> and_intros <;> first | with_reducible exact rfl | omega | with_reducible trivial | (intros; simp_all; done) | grind) ?_
                refine CW_assoc ?_
                refine W_reg (by simp only [go_sem, eEntry, mkL_length, hg, mE, mE, mC] <;> and_intros <;> first | with_reducible exact rfl | omega | with_reducible trivial | (intros; simp_all; done) | grind) ?_
                refine CW_seq ?_
                refine CW_cond (by simp only [go_sem, eEntry, mkL_length, hg, mE, mE, mC]; exact rfl) (fun c6 => ?_) (fun c6 => ?_)
                · skip
                  cases c6
                · skip
                  skip
                  refine CW_skip ?_
                  refine sq_n ?_
                  refine W_reg (by simp only [go_sem, eEntry, mkL_length, hg, mE, mE, mC] <;> and_intros <;> first | with_reducible exact rfl | omega | with_reducible trivial | (intros; simp_all; done) | grind) ?_
                  refine CW_assoc ?_
                  refine W_reg (by simp only [go_sem, eEntry, mkL_length, hg, mE, mE, mC] <;> and_intros <;> first | with_reducible exact rfl | omega | with_reducible trivial | (intros; simp_all; done) | grind) ?_
                  refine CW_seq ?_
                  refine CW_cond (by simp only [go_sem, eEntry, mkL_length, hg, mE, mE, mC]; exact rfl) (fun c7 => ?_) (fun c7 => ?_)
                  · skip
                    cases c7
                  · skip
                    skip
                    refine CW_skip ?_
                    refine sq_n ?_
                    refine W_reg (by simp only [go_sem, eEntry, mkL_length, hg, mE, mE, mC] <;> and_intros <;> first | with_reducible exact rfl | omega | with_reducible trivial | (intros; simp_all; done) | grind) ?_
                    refine CW_assoc ?_
                    refine W_reg (by simp only [go_sem, eEntry, mkL_length, hg, mE, mE, mC] <;> and_intros <;> first | with_reducible exact rfl | omega | with_reducible trivial | (intros; simp_all; done) | grind) ?_
                    refine CW_seq ?_
                    refine CW_cond (by simp only [go_sem, eEntry, mkL_length, hg, mE, mE, mC]; exact rfl) (fun c8 => ?_) (fun c8 => ?_)
                    · skip
                      cases c8
                    · skip
                      skip
                      refine CW_skip ?_
                      refine sq_n ?_
                      refine W_reg (by simp only [go_sem, eEntry, mkL_length, hg, mE, mE, mC] <;> and_intros <;> first | with_reducible exact rfl | omega | with_reducible trivial | (intros; simp_all; done) | grind) ?_
                      refine CW_assoc ?_
                      refine W_reg (by simp only [go_sem, eEntry, mkL_length, hg, mE, mE, mC] <;> and_intros <;> first | with_reducible exact rfl | omega | with_reducible trivial | (intros; simp_all; done) | grind) ?_
                      refine CW_seq ?_
                      refine CW_cond (by simp only [go_sem, eEntry, mkL_length, hg, mE, mE, mC]; exact rfl) (fun c9 => ?_) (fun c9 => ?_)
                      · skip
                        cases c9
                      · skip
                        skip
                        refine CW_skip ?_
                        refine sq_n ?_
                        refine W_regn (by simp only [go_sem, eEntry, mkL_length, hg, mE, mE, mC] <;> and_intros <;> first | with_reducible exact rfl | omega | with_reducible trivial | (intros; simp_all; done) | grind) ?_
                        refine bk_n ?_
                        refine sq_n ?_
                        refine W_regn (by simp only [go_sem, eEntry, mkL_length, hg, mE, mE, mC] <;> and_intros <;> first | with_reducible exact rfl | omega | with_reducible trivial | (intros; simp_all; done) | grind) ?_
                        refine lp_next (x+1) [] ?_ ?_ ?_
                        · (simp only [go_sem, eEntry, mkL_length, hg, mE, mE, mC] <;> and_intros <;> first | with_reducible exact rfl | (first | omega | (refine int_eq ?_; rw [mkK_succ sE zEntry (by omega)]; rfl)))
                        · omega
                        · omega
    · skip
      try simp only [Bool.not_eq_eq_eq_not, Bool.not_true, Bool.not_false, decide_eq_true_eq, decide_eq_false_iff_not, Bool.and_eq_true, Bool.or_eq_true] at c0
      obtain rfl : x = xs.length := by omega
      refine CW_exit ?_
      refine sq_e ?_
      refine lp_e ?_
      refine bk_i ?_
      refine sq_n ?_
      refine W_reg (by simp only [go_sem, eEntry, mkL_length]; exact rfl) ?_
      refine CW_ret ?_
      simp only [go_sem, eEntry, mkL_length]
      all_goals try first | refine int_res ?_ | refine bool_res ?_
      all_goals
        simp [mkL_length]
end Go.H
end
