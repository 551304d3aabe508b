/- What the functions that the law reaches compute, each by its code, against pure functions. Conditions: those that each theorem states. -/
import Derived.Test.YtlnjmnmkafblkaaGreatAW1
import Derived.KernelRfl
section
set_option maxRecDepth 100000
set_option linter.unusedVariables false
set_option linter.unusedSimpArgs false
namespace Go.H
open Go Go.Proofs.Tryz
def c_spec_l9Fault : SC :=
.seq (rg [
  ss 2 (.mv (.i .i64 0))] [0])
  (.seq (.seq (rg [
  ss 10 (.mv (.t 0)),
  ss 11 (.nck (.t 10)),
  ss 12 (.fad (.t 11) 0),
  ss 13 (.load (.t 12) 1 false),
  sk 14 61440 (.len (.t 13)),
  ss 15 (.bin .lss (.t 14) (.i .i64 1)),
  ss 16 (.mv (.t 15)),
  sg 17 (.mv (.t 0)) 16 false [],
  sg 18 (.nck (.t 17)) 16 false [17],
  sg 19 (.fad (.t 18) 0) 16 false [18],
  sg 20 (.load (.t 19) 1 false) 16 false [19],
  ⟨(some 21), .len (.t 20), (some (16, false)), [], 0, 90112, [], [20], [], []⟩,
  sg 22 (.bin .gtr (.t 21) (.i .i64 5)) 16 false [21],
  ss 23 (.pick (.t 16) (.b true) (.t 22)),
  ss 24 (.mv (.t 23)),
  sg 25 (.mv (.t 0)) 24 false [],
  sg 26 (.nck (.t 25)) 24 false [25],
  sg 27 (.fad (.t 26) 1) 24 false [26],
  sg 28 (.load (.t 27) 1 false) 24 false [27],
  ⟨(some 29), .len (.t 28), (some (24, false)), [], 0, 122880, [], [28], [], []⟩,
  sg 30 (.bin .gtr (.t 29) (.i .i64 80)) 24 false [29],
  ss 31 (.pick (.t 24) (.b true) (.t 30))] [0, 31])
  (.cond (.t 31) (.seq (rg [
  ss 2 (.mv (.i .i64 2))] [2])
  (.ret))
  (.skip)))
  (.seq (.seq (rg [
  ss 3 (.mv (.i .i64 0))] [0, 3])
  (.block 0 (.loop (.seq (.seq (rg [
  ss 32 (.mv (.t 3)),
  ss 33 (.mv (.t 0)),
  ss 34 (.nck (.t 33)),
  ss 35 (.fad (.t 34) 0),
  ss 36 (.load (.t 35) 1 false),
  sk 37 155648 (.len (.t 36)),
  ss 38 (.bin .lss (.t 32) (.t 37))] [0, 3, 38])
  (.cond (.t 38) (.skip)
  (.exit 0)))
  (.seq (.block 1 (.seq (.seq (rg [
  ss 41 (.mv (.t 0)),
  ss 42 (.nck (.t 41)),
  ss 43 (.fad (.t 42) 0),
  ss 44 (.load (.t 43) 1 false),
  ss 45 (.mv (.t 3)),
  sd (some 46) 0 0 (dNode false) (.idx (.t 44) (.t 45) 10),
  sk 47 196608 (.call (.f F.spec_l8Fault) [(.t 46, some 10)]),
  ss 4 (.mv (.t 47))] [0, 3, 4])
  (.seq (rg [
  ss 48 (.mv (.t 4)),
  ss 49 (.bin .neq (.t 48) (.i .i64 0))] [0, 3, 4, 49])
  (.cond (.t 49) (.seq (rg [
  ss 50 (.mv (.t 4)),
  ss 2 (.mv (.t 50))] [2])
  (.ret))
  (.skip))))
  (.seq (.reg true [
    ⟨(some 51), .mv (.t 0), none, [0], 0, 0, [], [], [], []⟩,
    ⟨(some 52), .nck (.t 51), none, [51], 0, 0, [], [], [], []⟩,
    ⟨(some 53), .fad (.t 52) 0, none, [52], 0, 0, [], [], [], []⟩,
    ⟨(some 54), .load (.t 53) 1 false, none, [53], 0, 0, [], [], [], []⟩,
    ⟨(some 55), .mv (.t 3), none, [3], 0, 0, [], [], [], []⟩,
    ⟨(some 56), .idx (.t 54) (.t 55) 10, none, [54, 55], 0, 0, (dNode false), [], [], []⟩,
    ⟨(some 57), .fad (.t 56) 0, none, [56], 0, 0, [], [], [], []⟩,
    ⟨(some 58), .load (.t 57) 1 false, none, [57], 0, 0, (dNode true), [], [], []⟩,
    ⟨(some 59), .mv (.t 3), none, [3], 0, 0, [], [], [], []⟩,
    ⟨(some 60), .bin .neq (.t 58) (.t 59), none, [58, 59], 0, 0, [], [], [], []⟩,
    ⟨(some 61), .mv (.t 60), none, [60], 0, 0, [], [], [], []⟩,
    ⟨(some 62), .mv (.t 0), (some (61, false)), [0, 61], 0, 0, [], [], [], []⟩,
    ⟨(some 63), .nck (.t 62), (some (61, false)), [62, 61], 0, 0, [], [62], [], []⟩,
    ⟨(some 64), .fad (.t 63) 0, (some (61, false)), [63, 61], 0, 0, [], [63], [], []⟩,
    ⟨(some 65), .load (.t 64) 1 false, (some (61, false)), [64, 61], 0, 0, [], [64], [], []⟩,
    ⟨(some 66), .mv (.t 3), (some (61, false)), [3, 61], 0, 0, [], [], [], []⟩,
    ⟨(some 67), .idx (.t 65) (.t 66) 10, (some (61, false)), [65, 66, 61], 0, 0, (dNode false), [65, 66], [], []⟩,
    ⟨(some 68), .fad (.t 67) 1, (some (61, false)), [67, 61], 0, 0, [], [67], [], []⟩,
    ⟨(some 69), .load (.t 68) 1 false, (some (61, false)), [68, 61], 0, 0, (dNode true), [68], [], []⟩,
    ⟨(some 70), .mv (.t 0), (some (61, false)), [0, 61], 0, 0, [], [], [], []⟩,
    ⟨(some 71), .nck (.t 70), (some (61, false)), [70, 61], 0, 0, [], [70], [], []⟩,
    ⟨(some 72), .fad (.t 71) 0, (some (61, false)), [71, 61], 0, 0, [], [71], [], []⟩,
    ⟨(some 73), .load (.t 72) 1 false, (some (61, false)), [72, 61], 0, 0, [], [72], [], []⟩,
    ⟨(some 74), .len (.t 73), (some (61, false)), [73, 61], 0, 307200, [], [73], [], []⟩,
    ⟨(some 75), .bin .neq (.t 69) (.t 74), (some (61, false)), [69, 74, 61], 0, 0, [], [69, 74], [], []⟩,
    ⟨(some 76), .pick (.t 61) (.b true) (.t 75), none, [61, 75], 0, 0, [], [], [], []⟩] (some ([0, 3, 76], [])))
  (.cond (.t 76) (.seq (rg [
  ss 2 (.mv (.i .i64 1))] [2])
  (.ret))
  (.skip)))))
  (rg [
  ss 39 (.mv (.t 3)),
  sh 40 1 (.bin .add (.t 39) (.i .i64 1)),
  ss 3 (.mv (.t 40))] [0, 3]))))))
  (.seq (.seq (rg [
  ss 5 (.mv (.i .i64 0))] [0, 5])
  (.block 2 (.loop (.seq (.seq (rg [
  ss 77 (.mv (.t 5)),
  ss 78 (.mv (.t 0)),
  ss 79 (.nck (.t 78)),
  ss 80 (.fad (.t 79) 1),
  ss 81 (.load (.t 80) 1 false),
  sk 82 339968 (.len (.t 81)),
  ss 83 (.bin .lss (.t 77) (.t 82))] [0, 5, 83])
  (.cond (.t 83) (.skip)
  (.exit 2)))
  (.seq (.block 3 (.seq (.seq (rg [
  ss 86 (.mv (.t 0)),
  ss 87 (.mv (.t 0)),
  ss 88 (.nck (.t 87)),
  ss 89 (.fad (.t 88) 1),
  ss 90 (.load (.t 89) 1 false),
  ss 91 (.mv (.t 5)),
  sd (some 92) 0 0 (dMail false) (.idx (.t 90) (.t 91) 9),
  ss 93 (.fad (.t 92) 2),
  sd (some 94) 0 0 (dMail true) (.load (.t 93) 1 false),
  sk 95 393216 (.call (.f F.spec_l9Place) [(.t 86, some 4), (.t 94, none)]),
  ss 96 (.not (.t 95))] [0, 5, 96])
  (.cond (.t 96) (.seq (rg [
  ss 2 (.mv (.i .i64 3))] [2])
  (.ret))
  (.skip)))
  (.seq (.reg true [
    ⟨(some 97), .mv (.t 0), none, [0], 0, 0, [], [], [], []⟩,
    ⟨(some 98), .nck (.t 97), none, [97], 0, 0, [], [], [], []⟩,
    ⟨(some 99), .fad (.t 98) 0, none, [98], 0, 0, [], [], [], []⟩,
    ⟨(some 100), .load (.t 99) 1 false, none, [99], 0, 0, [], [], [], []⟩,
    ⟨(some 101), .mv (.t 0), none, [0], 0, 0, [], [], [], []⟩,
    ⟨(some 102), .nck (.t 101), none, [101], 0, 0, [], [], [], []⟩,
    ⟨(some 103), .fad (.t 102) 1, none, [102], 0, 0, [], [], [], []⟩,
    ⟨(some 104), .load (.t 103) 1 false, none, [103], 0, 0, [], [], [], []⟩,
    ⟨(some 105), .mv (.t 5), none, [5], 0, 0, [], [], [], []⟩,
    ⟨(some 106), .idx (.t 104) (.t 105) 9, none, [104, 105], 0, 0, (dMail false), [], [], []⟩,
    ⟨(some 107), .fad (.t 106) 2, none, [106], 0, 0, [], [], [], []⟩,
    ⟨(some 108), .load (.t 107) 1 false, none, [107], 0, 0, (dMail true), [], [], []⟩,
    ⟨(some 109), .idx (.t 100) (.t 108) 10, none, [100, 108], 0, 0, (dNode false), [], [], []⟩,
    ⟨(some 110), .mv (.t 0), none, [0], 0, 0, [], [], [], []⟩,
    ⟨(some 111), .nck (.t 110), none, [110], 0, 0, [], [], [], []⟩,
    ⟨(some 112), .fad (.t 111) 1, none, [111], 0, 0, [], [], [], []⟩,
    ⟨(some 113), .load (.t 112) 1 false, none, [112], 0, 0, [], [], [], []⟩,
    ⟨(some 114), .mv (.t 5), none, [5], 0, 0, [], [], [], []⟩,
    ⟨(some 115), .idx (.t 113) (.t 114) 9, none, [113, 114], 0, 0, (dMail false), [], [], []⟩,
    ⟨(some 116), .load (.t 115) 9 true, none, [115], 0, 0, (dMail true), [], [], []⟩,
    ⟨(some 117), .call (.f F.spec_l8Mail) [(.t 109, some 10), (.t 116, none)], none, [109, 116], 0, 483328, [], [], [], []⟩,
    ⟨(some 6), .mv (.t 117), none, [117], 0, 0, [], [], [], []⟩] (some ([0, 5, 6], [])))
  (.seq (rg [
  ss 118 (.mv (.t 6)),
  ss 119 (.bin .neq (.t 118) (.i .i64 0))] [0, 5, 6, 119])
  (.cond (.t 119) (.seq (rg [
  ss 120 (.mv (.t 6)),
  ss 2 (.mv (.t 120))] [2])
  (.ret))
  (.skip))))))
  (rg [
  ss 84 (.mv (.t 5)),
  sh 85 1 (.bin .add (.t 84) (.i .i64 1)),
  ss 5 (.mv (.t 85))] [0, 5]))))))
  (.seq (.seq (rg [
  ss 121 (.mv (.t 0)),
  ss 122 (.nck (.t 121)),
  ss 123 (.fad (.t 122) 2),
  ss 124 (.load (.t 123) 1 false),
  sk 125 516096 (.len (.t 124)),
  ss 126 (.bin .gtr (.t 125) (.i .i64 400)),
  ss 127 (.mv (.t 126)),
  sg 128 (.mv (.t 0)) 127 false [],
  sg 129 (.nck (.t 128)) 127 false [128],
  sg 130 (.fad (.t 129) 3) 127 false [129],
  sg 131 (.load (.t 130) 1 false) 127 false [130],
  ⟨(some 132), .len (.t 131), (some (127, false)), [], 0, 544768, [], [131], [], []⟩,
  sg 133 (.bin .gtr (.t 132) (.i .i64 40)) 127 false [132],
  ss 134 (.pick (.t 127) (.b true) (.t 133))] [0, 134])
  (.cond (.t 134) (.seq (rg [
  ss 2 (.mv (.i .i64 2))] [2])
  (.ret))
  (.skip)))
  (.seq (.seq (rg [
  ss 7 (.mv (.i .i64 0))] [0, 7])
  (.block 4 (.loop (.seq (.seq (rg [
  ss 135 (.mv (.t 7)),
  ss 136 (.mv (.t 0)),
  ss 137 (.nck (.t 136)),
  ss 138 (.fad (.t 137) 2),
  ss 139 (.load (.t 138) 1 false),
  sk 140 577536 (.len (.t 139)),
  ss 141 (.bin .lss (.t 135) (.t 140))] [0, 7, 141])
  (.cond (.t 141) (.skip)
  (.exit 4)))
  (.seq (.block 5 (.seq (rg [
  ss 144 (.mv (.t 0)),
  ss 145 (.nck (.t 144)),
  ss 146 (.fad (.t 145) 2),
  ss 147 (.load (.t 146) 1 false),
  ss 148 (.mv (.t 7)),
  sd (some 149) 0 0 dWon (.idx (.t 147) (.t 148) 2),
  ss 150 (.fad (.t 149) 0),
  sd (some 151) 0 0 dWon (.load (.t 150) 1 false),
  sk 152 626688 (.call (.f F.spec_l1In) [(.t 151, none), (.i .i64 1, none), (.i .i64 100000, none)]),
  ss 153 (.not (.t 152)),
  ss 154 (.mv (.t 153)),
  sg 155 (.mv (.t 0)) 154 false [],
  sg 156 (.mv (.t 0)) 154 false [],
  sg 157 (.nck (.t 156)) 154 false [156],
  sg 158 (.fad (.t 157) 2) 154 false [157],
  sg 159 (.load (.t 158) 1 false) 154 false [158],
  sg 160 (.mv (.t 7)) 154 false [],
  ⟨(some 161), .idx (.t 159) (.t 160) 2, (some (154, false)), [], 0, 0, dWon, [159, 160], [], []⟩,
  sg 162 (.fad (.t 161) 1) 154 false [161],
  ⟨(some 163), .load (.t 162) 1 false, (some (154, false)), [], 0, 0, dWon, [162], [], []⟩,
  ⟨(some 164), .call (.f F.spec_l9Place) [(.t 155, some 4), (.t 163, none)], (some (154, false)), [], 0, 675840, [], [155, 163], [], []⟩,
  sg 165 (.not (.t 164)) 154 false [164],
  ss 166 (.pick (.t 154) (.b true) (.t 165))] [0, 7, 166])
  (.cond (.t 166) (.seq (rg [
  ss 2 (.mv (.i .i64 3))] [2])
  (.ret))
  (.skip))))
  (rg [
  ss 142 (.mv (.t 7)),
  sh 143 1 (.bin .add (.t 142) (.i .i64 1)),
  ss 7 (.mv (.t 143))] [0, 7]))))))
  (.seq (.seq (rg [
  ss 8 (.mv (.i .i64 0))] [0, 8])
  (.block 6 (.loop (.seq (.seq (rg [
  ss 167 (.mv (.t 8)),
  ss 168 (.mv (.t 0)),
  ss 169 (.nck (.t 168)),
  ss 170 (.fad (.t 169) 3),
  ss 171 (.load (.t 170) 1 false),
  sk 172 708608 (.len (.t 171)),
  ss 173 (.bin .lss (.t 167) (.t 172))] [0, 8, 173])
  (.cond (.t 173) (.skip)
  (.exit 6)))
  (.seq (.block 7 (.seq (.seq (rg [
  ss 176 (.mv (.t 0)),
  ss 177 (.nck (.t 176)),
  ss 178 (.fad (.t 177) 3),
  ss 179 (.load (.t 178) 1 false),
  ss 180 (.mv (.t 8)),
  sd (some 181) 0 0 dSeal (.idx (.t 179) (.t 180) 10),
  ss 182 (.fad (.t 181) 0),
  sd (some 183) 0 0 dSeal (.load (.t 182) 1 false),
  sk 184 757760 (.call (.f F.spec_l1In) [(.t 183, none), (.i .i64 1, none), (.i .i64 100000, none)]),
  ss 185 (.not (.t 184))] [0, 8, 185])
  (.cond (.t 185) (.seq (rg [
  ss 2 (.mv (.i .i64 3))] [2])
  (.ret))
  (.skip)))
  (.seq (rg [
  ss 186 (.mv (.t 0)),
  ss 187 (.nck (.t 186)),
  ss 188 (.fad (.t 187) 3),
  ss 189 (.load (.t 188) 1 false),
  ss 190 (.mv (.t 8)),
  sd (some 191) 0 0 dSeal (.idx (.t 189) (.t 190) 10),
  ss 192 (.fad (.t 191) 1),
  sd (some 193) 0 0 dSeal (.load (.t 192) 9 true),
  sk 194 798720 (.call (.f F.spec_EntryFault) [(.t 193, none)]),
  ss 9 (.mv (.t 194))] [0, 8, 9])
  (.seq (rg [
  ss 195 (.mv (.t 9)),
  ss 196 (.bin .neq (.t 195) (.i .i64 0))] [0, 8, 9, 196])
  (.cond (.t 196) (.seq (rg [
  ss 197 (.mv (.t 9)),
  ss 2 (.mv (.t 197))] [2])
  (.ret))
  (.skip))))))
  (rg [
  ss 174 (.mv (.t 8)),
  sh 175 1 (.bin .add (.t 174) (.i .i64 1)),
  ss 8 (.mv (.t 175))] [0, 8]))))))
  (.seq (rg [
  ss 2 (.mv (.i .i64 0))] [2])
  (.ret))))))))
theorem b_spec_l9Fault : ∃ c, f108.body = some c ∧ compC prog 198 c = some c_spec_l9Fault.er ∧ drawB c c_spec_l9Fault = true := ⟨_, rfl, by kernel_rfl, by kernel_rfl⟩
theorem r_spec_l9Fault : cmpR prog [.tmp 2] = some [.t 2] := by kernel_rfl
theorem q_spec_l9Fault : callB prog F.spec_l9Fault = true := by kernel_rfl
variable [Inv prog]
theorem s_spec_l9Fault (x : Cluster) (hx : limC 2097152 x) : SemX prog F.spec_l9Fault [aT (.ptr (eCluster false x))] [] [rI (clusterFault x)] [] := by
  obtain ⟨cc, g1, g2, g3⟩ := b_spec_l9Fault
  refine SemX.of_code func108 g1 (by rw [ntmps108]; exact g2) g3 (by rw [results108]; exact r_spec_l9Fault) (by rw [ntmps108]; exact Nat.le_of_ble_eq_true rfl) (Nat.le_of_ble_eq_true rfl) (by simp) (by simp [argOk, aT, aI, aS, eCluster, eNode, eMail, eWon, eSeal]) ?_
  unfold c_spec_l9Fault
  simp only [rg]
  obtain ⟨⟨hn, hN⟩, ⟨hm, hM⟩, hw, hs⟩ := id hx
  refine W_reg (by simp only [go_sem, eCluster, eNode, eMail, eWon, eSeal]; exact rfl) ?_
  refine CW_assoc ?_
  refine W_reg (by simp only [go_sem, eCluster, eNode, eMail, eWon, eSeal]; exact rfl) ?_
  refine CW_seq ?_
  refine CW_cond (by simp only [go_sem, eCluster, eNode, eMail, eWon, eSeal]; exact rfl) (fun c0 => ?_) (fun c0 => ?_)
  · skip
    skip
    refine W_reg (by simp only [go_sem, eCluster, eNode, eMail, eWon, eSeal]; exact rfl) ?_
    refine CW_ret ?_
    refine sq_r ?_
    simp only [go_sem, eCluster, eNode, eMail, eWon, eSeal]
    all_goals try first | refine int_res ?_ | refine bool_res ?_
    all_goals
      unfold clusterFault
      grind
  · skip
    skip
    refine CW_skip ?_
    refine sq_n ?_
    refine CW_assoc ?_
    refine W_reg (by simp only [go_sem, eCluster, eNode, eMail, eWon, eSeal]; exact rfl) ?_
    refine CW_seq ?_
    refine CW_block ?_
    refine CW_loopS (α := Nat) (fun i => [(3, .int .i64 i)]) (fun i => []) (fun i => x.nodes.length - i) (fun i => i ≤ x.nodes.length ∧ scan (nodeAt x) x.nodes.length 0 = scan (nodeAt x) x.nodes.length i) 0 [] ?_ ?_ ?_
    · (simp only [go_sem, eCluster, eNode, eMail, eWon, eSeal])
    · exact ⟨Nat.zero_le _, rfl⟩
    · rintro i ⟨hI, he⟩
      refine CW_eq (by simp only [go_sem, eCluster, eNode, eMail, eWon, eSeal]; exact rfl) ?_
      refine CW_assoc ?_
      refine W_reg (by simp only [go_sem, eCluster, eNode, eMail, eWon, eSeal]; exact rfl) ?_
      refine CW_seq ?_
      refine CW_cond (by simp only [go_sem, eCluster, eNode, eMail, eWon, eSeal]; exact rfl) (fun c1 => ?_) (fun c1 => ?_)
      · skip
        try simp only [Bool.not_eq_eq_eq_not, Bool.not_true, Bool.not_false, decide_eq_true_eq, decide_eq_false_iff_not, Bool.and_eq_true, Bool.or_eq_true] at c1
        have hd := nodeAt_eq x i
        have hst := scan_lt (f := nodeAt x) (show i < x.nodes.length by omega)
        refine CW_skip ?_
        refine sq_n ?_
        refine CW_seq ?_
        refine CW_block ?_
        refine CW_assoc ?_
        refine W_reg (by
          refine RW_cut 6 (by simp only [go_sem, eCluster, eNode, eMail, eWon, eSeal] <;> and_intros <;> first | with_reducible exact rfl | omega | with_reducible trivial | (intros; simp_all; done) | grind) ?_
          refine RW_ls (by simp only [List.drop_succ_cons, List.drop_zero]; exact rfl) ?_
          refine RW_callN q_spec_l8Fault (s_spec_l8Fault (x.nodes.getD i zNode) ((all_getD zNode).2 hN i (by omega))) true [] [] [] rfl rfl (by simp only [go_sem, eCluster, eNode, eMail, eWon, eSeal]; exact rfl) (by rfl) (by simp only [go_sem, eCluster, eNode, eMail, eWon, eSeal]; exact rfl) ?_
          simp only [go_sem, eCluster, eNode, eMail, eWon, eSeal]; exact rfl) ?_
        refine CW_assoc ?_
        refine W_reg (by simp only [go_sem, eCluster, eNode, eMail, eWon, eSeal]; exact rfl) ?_
        refine CW_seq ?_
        refine CW_cond (by simp only [go_sem, eCluster, eNode, eMail, eWon, eSeal]; exact rfl) (fun c2 => ?_) (fun c2 => ?_)
        · skip
          skip
          refine W_reg (by simp only [go_sem, eCluster, eNode, eMail, eWon, eSeal]; exact rfl) ?_
          refine CW_ret ?_
          refine sq_r ?_
          refine bk_r ?_
          refine sq_r ?_
          refine lp_r ?_
          refine bk_r ?_
          refine sq_r ?_
          simp only [go_sem, eCluster, eNode, eMail, eWon, eSeal]
          all_goals try first | refine int_res ?_ | refine bool_res ?_
          all_goals
            unfold clusterFault
            grind
        · skip
          skip
          refine CW_skip ?_
          refine sq_n ?_
          refine W_drw (by simp only [go_sem, eCluster, eNode, eMail, eWon, eSeal] <;> and_intros <;> first | with_reducible exact rfl | omega | with_reducible trivial | (intros; simp_all; done) | grind) ?_
          refine CW_cond (by simp only [go_sem, eCluster, eNode, eMail, eWon, eSeal]; exact rfl) (fun c3 => ?_) (fun c3 => ?_)
          · skip
            skip
            refine W_reg (by simp only [go_sem, eCluster, eNode, eMail, eWon, eSeal]; exact rfl) ?_
            refine CW_ret ?_
            refine bk_r ?_
            refine sq_r ?_
            refine lp_r ?_
            refine bk_r ?_
            refine sq_r ?_
            simp only [go_sem, eCluster, eNode, eMail, eWon, eSeal]
            all_goals try first | refine int_res ?_ | refine bool_res ?_
            all_goals
              unfold clusterFault
              grind
          · skip
            skip
            refine CW_skip ?_
            refine bk_n ?_
            refine sq_n ?_
            refine W_regn (by simp only [go_sem, eCluster, eNode, eMail, eWon, eSeal] <;> and_intros <;> first | with_reducible exact rfl | omega | with_reducible trivial | (intros; simp_all; done) | grind) ?_
            refine lp_next (i+1) [] ?_ ?_ ?_
            · (simp only [go_sem, eCluster, eNode, eMail, eWon, eSeal])
            · refine ⟨by omega, ?_⟩
              rw [he, scan_lt (by omega), if_pos]
              rw [nodeAt_eq]
              grind
            · omega
      · skip
        try simp only [Bool.not_eq_eq_eq_not, Bool.not_true, Bool.not_false, decide_eq_true_eq, decide_eq_false_iff_not, Bool.and_eq_true, Bool.or_eq_true] at c1
        have hs0 : scan (nodeAt x) x.nodes.length 0 = 0 := by rw [he, scan_ge (by omega)]
        refine CW_exit ?_
        refine sq_e ?_
        refine lp_e ?_
        refine bk_i ?_
        refine sq_n ?_
        refine CW_assoc ?_
        refine W_reg (by simp only [go_sem, eCluster, eNode, eMail, eWon, eSeal]; exact rfl) ?_
        refine CW_seq ?_
        refine CW_block ?_
        refine CW_loopS (α := Nat) (fun i => [(5, .int .i64 i)]) (fun i => []) (fun i => x.mails.length - i) (fun i => i ≤ x.mails.length ∧ scan (mailAt x) x.mails.length 0 = scan (mailAt x) x.mails.length i) 0 [] ?_ ?_ ?_
        · (simp only [go_sem, eCluster, eNode, eMail, eWon, eSeal])
        · exact ⟨Nat.zero_le _, rfl⟩
        · rintro i ⟨hI, he⟩
          refine CW_eq (by simp only [go_sem, eCluster, eNode, eMail, eWon, eSeal]; exact rfl) ?_
          refine CW_assoc ?_
          refine W_reg (by simp only [go_sem, eCluster, eNode, eMail, eWon, eSeal]; exact rfl) ?_
          refine CW_seq ?_
          refine CW_cond (by simp only [go_sem, eCluster, eNode, eMail, eWon, eSeal]; exact rfl) (fun c4 => ?_) (fun c4 => ?_)
          · skip
            try simp only [Bool.not_eq_eq_eq_not, Bool.not_true, Bool.not_false, decide_eq_true_eq, decide_eq_false_iff_not, Bool.and_eq_true, Bool.or_eq_true] at c4
            have hd := mailAt_eq x i
            have hst := scan_lt (f := mailAt x) (show i < x.mails.length by omega)
            refine CW_skip ?_
            refine sq_n ?_
            refine CW_seq ?_
            refine CW_block ?_
            refine CW_assoc ?_
            refine W_reg (by
              refine RW_cut 9 (by simp only [go_sem, eCluster, eNode, eMail, eWon, eSeal] <;> and_intros <;> first | with_reducible exact rfl | omega | with_reducible trivial | (intros; simp_all; done) | grind) ?_
              refine RW_ls (by simp only [List.drop_succ_cons, List.drop_zero]; exact rfl) ?_
              refine RW_callN q_spec_l9Place (s_spec_l9Place x _ hn) true [] [] [] rfl rfl (by simp only [go_sem, eCluster, eNode, eMail, eWon, eSeal] <;> and_intros <;> first | with_reducible exact rfl | omega | with_reducible trivial | (intros; simp_all; done) | grind) (by rfl) (by simp only [go_sem, eCluster, eNode, eMail, eWon, eSeal]; exact rfl) ?_
              simp only [go_sem, eCluster, eNode, eMail, eWon, eSeal]; exact rfl) ?_
            refine CW_seq ?_
            refine CW_cond (by simp only [go_sem, eCluster, eNode, eMail, eWon, eSeal]; exact rfl) (fun c5 => ?_) (fun c5 => ?_)
            · skip
              skip
              refine W_reg (by simp only [go_sem, eCluster, eNode, eMail, eWon, eSeal]; exact rfl) ?_
              refine CW_ret ?_
              refine sq_r ?_
              refine bk_r ?_
              refine sq_r ?_
              refine lp_r ?_
              refine bk_r ?_
              refine sq_r ?_
              simp only [go_sem, eCluster, eNode, eMail, eWon, eSeal]
              all_goals try first | refine int_res ?_ | refine bool_res ?_
              all_goals
                unfold clusterFault
                grind
            · skip
              have hp : place x (x.mails.getD i zMail).to_ = true := by grind
              have hp2 := place_iff.1 hp
              have hnf := (nodes_ok hs0 (i := (x.mails.getD i zMail).to_.toNat) (by omega)).1
              refine CW_skip ?_
              refine sq_n ?_
              refine W_drw (by
                refine DW_cut 20 (by simp only [go_sem, eCluster, eNode, eMail, eWon, eSeal] <;> and_intros <;> first | with_reducible exact rfl | omega | with_reducible trivial | (intros; simp_all; done) | grind) ?_
                refine DW_ls (by simp only [List.drop_succ_cons, List.drop_zero]; exact rfl) ?_
                refine DW_callN q_spec_l8Mail (s_spec_l8Mail (x.nodes.getD (x.mails.getD i zMail).to_.toNat zNode) (x.mails.getD i zMail) ((all_getD zMail).2 hM i (by omega))) true [] [] [] rfl rfl (by simp only [go_sem, eCluster, eNode, eMail, eWon, eSeal]; exact rfl) (by rfl) (by simp only [go_sem, eCluster, eNode, eMail, eWon, eSeal]; exact rfl) ?_
                simp only [go_sem, eCluster, eNode, eMail, eWon, eSeal]; exact rfl) ?_
              refine W_reg (by simp only [go_sem, eCluster, eNode, eMail, eWon, eSeal]; exact rfl) ?_
              refine CW_cond (by simp only [go_sem, eCluster, eNode, eMail, eWon, eSeal]; exact rfl) (fun c6 => ?_) (fun c6 => ?_)
              · skip
                skip
                refine W_reg (by simp only [go_sem, eCluster, eNode, eMail, eWon, eSeal]; exact rfl) ?_
                refine CW_ret ?_
                refine bk_r ?_
                refine sq_r ?_
                refine lp_r ?_
                refine bk_r ?_
                refine sq_r ?_
                simp only [go_sem, eCluster, eNode, eMail, eWon, eSeal]
                all_goals try first | refine int_res ?_ | refine bool_res ?_
                all_goals
                  unfold clusterFault
                  grind
              · skip
                skip
                refine CW_skip ?_
                refine bk_n ?_
                refine sq_n ?_
                refine W_regn (by simp only [go_sem, eCluster, eNode, eMail, eWon, eSeal] <;> and_intros <;> first | with_reducible exact rfl | omega | with_reducible trivial | (intros; simp_all; done) | grind) ?_
                refine lp_next (i+1) [] ?_ ?_ ?_
                · (simp only [go_sem, eCluster, eNode, eMail, eWon, eSeal])
                · refine ⟨by omega, ?_⟩
                  rw [he, scan_lt (by omega), if_pos]
                  rw [mailAt_eq]
                  grind
                · omega
          · skip
            try simp only [Bool.not_eq_eq_eq_not, Bool.not_true, Bool.not_false, decide_eq_true_eq, decide_eq_false_iff_not, Bool.and_eq_true, Bool.or_eq_true] at c4
            have hs1 : scan (mailAt x) x.mails.length 0 = 0 := by rw [he, scan_ge (by omega)]
            refine CW_exit ?_
            refine sq_e ?_
            refine lp_e ?_
            refine bk_i ?_
            refine sq_n ?_
            refine CW_assoc ?_
            refine W_reg (by simp only [go_sem, eCluster, eNode, eMail, eWon, eSeal]; exact rfl) ?_
            refine CW_seq ?_
            refine CW_cond (by simp only [go_sem, eCluster, eNode, eMail, eWon, eSeal]; exact rfl) (fun c7 => ?_) (fun c7 => ?_)
            · skip
              skip
              refine W_reg (by simp only [go_sem, eCluster, eNode, eMail, eWon, eSeal]; exact rfl) ?_
              refine CW_ret ?_
              refine sq_r ?_
              simp only [go_sem, eCluster, eNode, eMail, eWon, eSeal]
              all_goals try first | refine int_res ?_ | refine bool_res ?_
              all_goals
                unfold clusterFault
                grind
            · skip
              skip
              refine CW_skip ?_
              refine sq_n ?_
              refine CW_assoc ?_
              refine W_reg (by simp only [go_sem, eCluster, eNode, eMail, eWon, eSeal]; exact rfl) ?_
              refine CW_seq ?_
              refine CW_block ?_
              refine CW_loopS (α := Nat) (fun i => [(7, .int .i64 i)]) (fun i => []) (fun i => x.wins.length - i) (fun i => i ≤ x.wins.length ∧ scan (winAt x) x.wins.length 0 = scan (winAt x) x.wins.length i) 0 [] ?_ ?_ ?_
              · (simp only [go_sem, eCluster, eNode, eMail, eWon, eSeal])
              · exact ⟨Nat.zero_le _, rfl⟩
              · rintro i ⟨hI, he⟩
                refine CW_eq (by simp only [go_sem, eCluster, eNode, eMail, eWon, eSeal]; exact rfl) ?_
                refine CW_assoc ?_
                refine W_reg (by simp only [go_sem, eCluster, eNode, eMail, eWon, eSeal]; exact rfl) ?_
                refine CW_seq ?_
                refine CW_cond (by simp only [go_sem, eCluster, eNode, eMail, eWon, eSeal]; exact rfl) (fun c8 => ?_) (fun c8 => ?_)
                · skip
                  try simp only [Bool.not_eq_eq_eq_not, Bool.not_true, Bool.not_false, decide_eq_true_eq, decide_eq_false_iff_not, Bool.and_eq_true, Bool.or_eq_true] at c8
                  have hd := winAt_eq x i
                  have hst := scan_lt (f := winAt x) (show i < x.wins.length by omega)
                  refine CW_skip ?_
                  refine sq_n ?_
                  refine CW_seq ?_
                  refine CW_block ?_
                  refine W_reg (by
                    refine RW_cut 8 (by simp only [go_sem, eCluster, eNode, eMail, eWon, eSeal] <;> and_intros <;> first | with_reducible exact rfl | omega | with_reducible trivial | (intros; simp_all; done) | grind) ?_
                    refine RW_ls (by simp only [List.drop_succ_cons, List.drop_zero]; exact rfl) ?_
                    refine RW_callN q_spec_l1In (s_spec_l1In _ _ _) true [] [] [] rfl rfl (by simp only [go_sem, eCluster, eNode, eMail, eWon, eSeal] <;> and_intros <;> first | with_reducible exact rfl | omega | with_reducible trivial | (intros; simp_all; done) | grind) (by rfl) (by simp only [go_sem, eCluster, eNode, eMail, eWon, eSeal]; exact rfl) ?_
                    refine RW_cut 11 (by simp only [go_sem, eCluster, eNode, eMail, eWon, eSeal] <;> and_intros <;> first | with_reducible exact rfl | omega | with_reducible trivial | (intros; simp_all; done) | grind) ?_
                    refine RW_ls (by simp only [List.drop_succ_cons, List.drop_zero]; exact rfl) ?_
                    refine RW_callGN q_spec_l9Place (s_spec_l9Place x _ hn) true rfl rfl (by simp only [go_sem, eCluster, eNode, eMail, eWon, eSeal]; exact rfl) (fun _ => (by simp only [go_sem, eCluster, eNode, eMail, eWon, eSeal] <;> and_intros <;> first | with_reducible exact rfl | omega | with_reducible trivial | (intros; simp_all; done) | grind)) (by simp only [go_sem, eCluster, eNode, eMail, eWon, eSeal]; exact rfl) ?_
                    simp only [go_sem, eCluster, eNode, eMail, eWon, eSeal]; exact rfl) ?_
                  refine CW_cond (by simp only [go_sem, eCluster, eNode, eMail, eWon, eSeal]; exact rfl) (fun c9 => ?_) (fun c9 => ?_)
                  · skip
                    skip
                    refine W_reg (by simp only [go_sem, eCluster, eNode, eMail, eWon, eSeal]; exact rfl) ?_
                    refine CW_ret ?_
                    refine bk_r ?_
                    refine sq_r ?_
                    refine lp_r ?_
                    refine bk_r ?_
                    refine sq_r ?_
                    simp only [go_sem, eCluster, eNode, eMail, eWon, eSeal]
                    all_goals try first | refine int_res ?_ | refine bool_res ?_
                    all_goals
                      unfold clusterFault
                      grind
                  · skip
                    skip
                    refine CW_skip ?_
                    refine bk_n ?_
                    refine sq_n ?_
                    refine W_regn (by simp only [go_sem, eCluster, eNode, eMail, eWon, eSeal] <;> and_intros <;> first | with_reducible exact rfl | omega | with_reducible trivial | (intros; simp_all; done) | grind) ?_
                    refine lp_next (i+1) [] ?_ ?_ ?_
                    · (simp only [go_sem, eCluster, eNode, eMail, eWon, eSeal])
                    · refine ⟨by omega, ?_⟩
                      rw [he, scan_lt (by omega), if_pos]
                      rw [winAt_eq]
                      grind
                    · omega
                · skip
                  try simp only [Bool.not_eq_eq_eq_not, Bool.not_true, Bool.not_false, decide_eq_true_eq, decide_eq_false_iff_not, Bool.and_eq_true, Bool.or_eq_true] at c8
                  have hs2 : scan (winAt x) x.wins.length 0 = 0 := by rw [he, scan_ge (by omega)]
                  refine CW_exit ?_
                  refine sq_e ?_
                  refine lp_e ?_
                  refine bk_i ?_
                  refine sq_n ?_
                  refine CW_assoc ?_
                  refine W_reg (by simp only [go_sem, eCluster, eNode, eMail, eWon, eSeal]; exact rfl) ?_
                  refine CW_seq ?_
                  refine CW_block ?_
                  refine CW_loopS (α := Nat) (fun i => [(8, .int .i64 i)]) (fun i => []) (fun i => x.seals.length - i) (fun i => i ≤ x.seals.length ∧ scan (sealAt x) x.seals.length 0 = scan (sealAt x) x.seals.length i) 0 [] ?_ ?_ ?_
                  · (simp only [go_sem, eCluster, eNode, eMail, eWon, eSeal])
                  · exact ⟨Nat.zero_le _, rfl⟩
                  · rintro i ⟨hI, he⟩
                    refine CW_eq (by simp only [go_sem, eCluster, eNode, eMail, eWon, eSeal]; exact rfl) ?_
                    refine CW_assoc ?_
                    refine W_reg (by simp only [go_sem, eCluster, eNode, eMail, eWon, eSeal]; exact rfl) ?_
                    refine CW_seq ?_
                    refine CW_cond (by simp only [go_sem, eCluster, eNode, eMail, eWon, eSeal]; exact rfl) (fun c10 => ?_) (fun c10 => ?_)
                    · skip
                      try simp only [Bool.not_eq_eq_eq_not, Bool.not_true, Bool.not_false, decide_eq_true_eq, decide_eq_false_iff_not, Bool.and_eq_true, Bool.or_eq_true] at c10
                      have hd := sealAt_eq x i
                      have hst := scan_lt (f := sealAt x) (show i < x.seals.length by omega)
                      refine CW_skip ?_
                      refine sq_n ?_
                      refine CW_seq ?_
                      refine CW_block ?_
                      refine CW_assoc ?_
                      refine W_reg (by
                        refine RW_cut 8 (by simp only [go_sem, eCluster, eNode, eMail, eWon, eSeal] <;> and_intros <;> first | with_reducible exact rfl | omega | with_reducible trivial | (intros; simp_all; done) | grind) ?_
                        refine RW_ls (by simp only [List.drop_succ_cons, List.drop_zero]; exact rfl) ?_
                        refine RW_callN q_spec_l1In (s_spec_l1In _ _ _) true [] [] [] rfl rfl (by simp only [go_sem, eCluster, eNode, eMail, eWon, eSeal] <;> and_intros <;> first | with_reducible exact rfl | omega | with_reducible trivial | (intros; simp_all; done) | grind) (by rfl) (by simp only [go_sem, eCluster, eNode, eMail, eWon, eSeal]; exact rfl) ?_
                        simp only [go_sem, eCluster, eNode, eMail, eWon, eSeal]; exact rfl) ?_
                      refine CW_seq ?_
                      refine CW_cond (by simp only [go_sem, eCluster, eNode, eMail, eWon, eSeal]; exact rfl) (fun c11 => ?_) (fun c11 => ?_)
                      · skip
                        skip
                        refine W_reg (by simp only [go_sem, eCluster, eNode, eMail, eWon, eSeal]; exact rfl) ?_
                        refine CW_ret ?_
                        refine sq_r ?_
                        refine bk_r ?_
                        refine sq_r ?_
                        refine lp_r ?_
                        refine bk_r ?_
                        refine sq_r ?_
                        simp only [go_sem, eCluster, eNode, eMail, eWon, eSeal]
                        all_goals try first | refine int_res ?_ | refine bool_res ?_
                        all_goals
                          unfold clusterFault
                          grind
                      · skip
                        skip
                        refine CW_skip ?_
                        refine sq_n ?_
                        refine W_reg (by
                          refine RW_cut 8 (by simp only [go_sem, eCluster, eNode, eMail, eWon, eSeal] <;> and_intros <;> first | with_reducible exact rfl | omega | with_reducible trivial | (intros; simp_all; done) | grind) ?_
                          refine RW_ls (by simp only [List.drop_succ_cons, List.drop_zero]; exact rfl) ?_
                          refine RW_callN q_spec_EntryFault (s_spec_EntryFault _) true [] [] [] rfl rfl (by simp only [go_sem, eCluster, eNode, eMail, eWon, eSeal] <;> and_intros <;> first | with_reducible exact rfl | omega | with_reducible trivial | (intros; simp_all; done) | grind) (by rfl) (by simp only [go_sem, eCluster, eNode, eMail, eWon, eSeal]; exact rfl) ?_
                          simp only [go_sem, eCluster, eNode, eMail, eWon, eSeal]; exact rfl) ?_
                        refine W_reg (by simp only [go_sem, eCluster, eNode, eMail, eWon, eSeal]; exact rfl) ?_
                        refine CW_cond (by simp only [go_sem, eCluster, eNode, eMail, eWon, eSeal]; exact rfl) (fun c12 => ?_) (fun c12 => ?_)
                        · skip
                          skip
                          refine W_reg (by simp only [go_sem, eCluster, eNode, eMail, eWon, eSeal]; exact rfl) ?_
                          refine CW_ret ?_
                          refine bk_r ?_
                          refine sq_r ?_
                          refine lp_r ?_
                          refine bk_r ?_
                          refine sq_r ?_
                          simp only [go_sem, eCluster, eNode, eMail, eWon, eSeal]
                          all_goals try first | refine int_res ?_ | refine bool_res ?_
                          all_goals
                            unfold clusterFault
                            grind
                        · skip
                          skip
                          refine CW_skip ?_
                          refine bk_n ?_
                          refine sq_n ?_
                          refine W_regn (by simp only [go_sem, eCluster, eNode, eMail, eWon, eSeal] <;> and_intros <;> first | with_reducible exact rfl | omega | with_reducible trivial | (intros; simp_all; done) | grind) ?_
                          refine lp_next (i+1) [] ?_ ?_ ?_
                          · (simp only [go_sem, eCluster, eNode, eMail, eWon, eSeal])
                          · refine ⟨by omega, ?_⟩
                            rw [he, scan_lt (by omega), if_pos]
                            rw [sealAt_eq]
                            grind
                          · omega
                    · skip
                      try simp only [Bool.not_eq_eq_eq_not, Bool.not_true, Bool.not_false, decide_eq_true_eq, decide_eq_false_iff_not, Bool.and_eq_true, Bool.or_eq_true] at c10
                      have hs3 : scan (sealAt x) x.seals.length 0 = 0 := by rw [he, scan_ge (by omega)]
                      refine CW_exit ?_
                      refine sq_e ?_
                      refine lp_e ?_
                      refine bk_i ?_
                      refine sq_n ?_
                      refine W_reg (by simp only [go_sem, eCluster, eNode, eMail, eWon, eSeal]; exact rfl) ?_
                      refine CW_ret ?_
                      simp only [go_sem, eCluster, eNode, eMail, eWon, eSeal]
                      all_goals try first | refine int_res ?_ | refine bool_res ?_
                      all_goals
                        unfold clusterFault
                        grind
end Go.H
end
section
set_option maxRecDepth 100000
set_option linter.unusedVariables false
set_option linter.unusedSimpArgs false
namespace Go.H
open Go Go.Proofs.Tryz
def c_spec_l9Mail : SC :=
.seq (rg [
  ss 4 (.mv (.i .i64 0))] [0, 1])
  (.seq (.seq (rg [
  ss 6 (.mv (.t 0)),
  sk 7 32768 (.call (.f F.spec_l9Fault) [(.t 6, some 4)]),
  ss 5 (.mv (.t 7))] [0, 1, 5])
  (.seq (rg [
  ss 8 (.mv (.t 5)),
  ss 9 (.bin .neq (.t 8) (.i .i64 0))] [0, 1, 5, 9])
  (.cond (.t 9) (.seq (rg [
  ss 10 (.mv (.t 5)),
  ss 4 (.mv (.t 10))] [4])
  (.ret))
  (.skip))))
  (.seq (.seq (rg [
  ss 11 (.mv (.t 1)),
  ss 12 (.mv (.t 0)),
  ss 13 (.nck (.t 12)),
  ss 14 (.fad (.t 13) 1),
  ss 15 (.load (.t 14) 1 false),
  sk 16 69632 (.len (.t 15)),
  sh 17 1 (.bin .sub (.t 16) (.i .i64 1)),
  sk 18 77824 (.call (.f F.spec_l1In) [(.t 11, none), (.i .i64 0, none), (.t 17, none)]),
  ss 19 (.not (.t 18))] [19])
  (.cond (.t 19) (.seq (rg [
  ss 4 (.mv (.i .i64 3))] [4])
  (.ret))
  (.skip)))
  (.seq (rg [
  ss 4 (.mv (.i .i64 0))] [4])
  (.ret))))
theorem b_spec_l9Mail : ∃ c, f50.body = some c ∧ compC prog 20 c = some c_spec_l9Mail.er ∧ drawB c c_spec_l9Mail = true := ⟨_, rfl, by kernel_rfl, by kernel_rfl⟩
theorem r_spec_l9Mail : cmpR prog [.tmp 4] = some [.t 4] := by kernel_rfl
theorem q_spec_l9Mail : callB prog F.spec_l9Mail = true := by kernel_rfl
variable [Inv prog]
theorem s_spec_l9Mail (x : Cluster) (hx : limC 2097152 x) (p : Int) : SemX prog F.spec_l9Mail [aT (.ptr (eCluster false x)), aI p] [] [rI (mailGuard x p)] [] := by
  obtain ⟨cc, g1, g2, g3⟩ := b_spec_l9Mail
  refine SemX.of_code func50 g1 (by rw [ntmps50]; exact g2) g3 (by rw [results50]; exact r_spec_l9Mail) (by rw [ntmps50]; exact Nat.le_of_ble_eq_true rfl) (Nat.le_of_ble_eq_true rfl) (by simp) (by simp [argOk, aT, aI, aS, eCluster]) ?_
  unfold c_spec_l9Mail
  simp only [rg]
  obtain ⟨⟨hn, hN⟩, ⟨hm, hM⟩, hw, hs⟩ := id hx
  refine W_reg (by simp only [go_sem, eCluster]; exact rfl) ?_
  refine CW_assoc ?_
  refine W_reg (by
    refine RW_cut 1 (by simp only [go_sem, eCluster]; exact rfl) ?_
    refine RW_ls (by simp only [List.drop_succ_cons, List.drop_zero]; exact rfl) ?_
    refine RW_callN q_spec_l9Fault (s_spec_l9Fault x hx) true [] [] [] rfl rfl (by simp only [go_sem, eCluster]; exact rfl) (by rfl) (by simp only [go_sem, eCluster]; exact rfl) ?_
    simp only [go_sem, eCluster]; exact rfl) ?_
  refine CW_assoc ?_
  refine W_reg (by simp only [go_sem, eCluster]; exact rfl) ?_
  refine CW_seq ?_
  refine CW_cond (by simp only [go_sem, eCluster]; exact rfl) (fun c0 => ?_) (fun c0 => ?_)
  · skip
    skip
    refine W_reg (by simp only [go_sem, eCluster]; exact rfl) ?_
    refine CW_ret ?_
    refine sq_r ?_
    simp only [go_sem, eCluster]
    all_goals try first | refine int_res ?_ | refine bool_res ?_
    all_goals
      unfold mailGuard
      grind
  · skip
    skip
    refine CW_skip ?_
    refine sq_n ?_
    refine CW_assoc ?_
    refine W_reg (by
      refine RW_cut 7 (by simp only [go_sem, eCluster] <;> and_intros <;> first | with_reducible exact rfl | omega | with_reducible trivial | (intros; simp_all; done) | grind) ?_
      refine RW_ls (by simp only [List.drop_succ_cons, List.drop_zero]; exact rfl) ?_
      refine RW_callN q_spec_l1In (s_spec_l1In p 0 (x.mails.length - 1)) true [] [] [] rfl rfl (by simp only [go_sem, eCluster]; exact rfl) (by rfl) (by simp only [go_sem, eCluster]; exact rfl) ?_
      simp only [go_sem, eCluster]; exact rfl) ?_
    refine CW_seq ?_
    refine CW_cond (by simp only [go_sem, eCluster]; exact rfl) (fun c1 => ?_) (fun c1 => ?_)
    · skip
      skip
      refine W_reg (by simp only [go_sem, eCluster]; exact rfl) ?_
      refine CW_ret ?_
      refine sq_r ?_
      simp only [go_sem, eCluster]
      all_goals try first | refine int_res ?_ | refine bool_res ?_
      all_goals
        unfold mailGuard
        grind
    · skip
      skip
      refine CW_skip ?_
      refine sq_n ?_
      refine W_reg (by simp only [go_sem, eCluster]; exact rfl) ?_
      refine CW_ret ?_
      simp only [go_sem, eCluster]
      all_goals try first | refine int_res ?_ | refine bool_res ?_
      all_goals
        unfold mailGuard
        grind
end Go.H
end
section
set_option maxRecDepth 100000
set_option linter.unusedVariables false
set_option linter.unusedSimpArgs false
namespace Go.H
open Go Go.Proofs.Tryz
def c_spec_l9Bad : SC :=
.seq (rg [
  sk 2 12288 (.alloc [.int .i64 0, .nil, .nil, .nil, .nil])] [0, 2])
  (.seq (rg [
  ss 3 (.mv (.t 0)),
  ss 4 (.bld [.int .i64 0, .nil, .nil, .nil, .nil] [(0, 1, .t 3)]),
  sx (.store (.t 2) (.t 4) 5)] [2])
  (.ret))
theorem b_spec_l9Bad : ∃ c, f51.body = some c ∧ compC prog 5 c = some c_spec_l9Bad.er ∧ drawB c c_spec_l9Bad = true := ⟨_, rfl, by kernel_rfl, by kernel_rfl⟩
theorem r_spec_l9Bad : cmpR prog [.cell 2 36] = some [.c 2 5 true] := by kernel_rfl
theorem q_spec_l9Bad : callB prog F.spec_l9Bad = true := by kernel_rfl
variable [Inv prog]
theorem s_spec_l9Bad (c : Int) : SemX prog F.spec_l9Bad [aI c] [] [.agg (eClusterResult true (bad c))] [] := by
  obtain ⟨cc, g1, g2, g3⟩ := b_spec_l9Bad
  refine SemX.of_code func51 g1 (by rw [ntmps51]; exact g2) g3 (by rw [results51]; exact r_spec_l9Bad) (by rw [ntmps51]; exact Nat.le_of_ble_eq_true rfl) (Nat.le_of_ble_eq_true rfl) (by simp) (by simp [argOk, aT, aI, aS, eClusterResult, eCluster]) ?_
  unfold c_spec_l9Bad
  simp only [rg]
  refine W_reg (by simp only [go_sem, eClusterResult, eCluster]; exact rfl) ?_
  refine W_reg (by simp only [go_sem, eClusterResult, eCluster]; exact rfl) ?_
  refine CW_ret ?_
  simp only [go_sem, eClusterResult, eCluster]
  all_goals
    simp [bad, zCluster]
end Go.H
end
section
set_option maxRecDepth 100000
set_option linter.unusedVariables false
set_option linter.unusedSimpArgs false
namespace Go.H
open Go Go.Proofs.Tryz
def c_spec_l7Copy : SC :=
.seq (rg [
  ss 2 (.mv (.nl))] [0])
  (.seq (rg [
  sd (some 3) 0 16384 dEntry (.bsl [.int .i64 0, .int .i64 0, .int .i64 0, .int .i64 0, .int .i64 0, .int .i64 0, .int .i64 0, .int .i64 0, .int .i64 0] 0 []),
  ss 4 (.mv (.t 0)),
  sk 5 24576 (.app false (.t 3) (.t 4) 9 72),
  ss 2 (.mv (.t 5))] [2])
  (.ret))
theorem b_spec_l7Copy : ∃ c, f111.body = some c ∧ compC prog 6 c = some c_spec_l7Copy.er ∧ drawB c c_spec_l7Copy = true := ⟨_, rfl, by kernel_rfl, by kernel_rfl⟩
theorem r_spec_l7Copy : cmpR prog [.tmp 2] = some [.t 2] := by kernel_rfl
theorem q_spec_l7Copy : callB prog F.spec_l7Copy = true := by kernel_rfl
variable [Inv prog]
theorem s_spec_l7Copy (xs : List Entry) (hl : xs.length ≤ 2097152) : SemX prog F.spec_l7Copy [.one (.t (.sl false 9 (xs.map eEntry)))] [] [.one (.sl true 9 (xs.map eEntry))] [] := by
  obtain ⟨cc, g1, g2, g3⟩ := b_spec_l7Copy
  refine SemX.of_code func111 g1 (by rw [ntmps111]; exact g2) g3 (by rw [results111]; exact r_spec_l7Copy) (by rw [ntmps111]; exact Nat.le_of_ble_eq_true rfl) (Nat.le_of_ble_eq_true rfl) (by simp) (by simp [argOk, aT, aI, aS]) ?_
  unfold c_spec_l7Copy
  simp only [rg]
  refine W_reg (by simp only [go_sem]; exact rfl) ?_
  refine W_reg (by simp only [go_sem] <;> and_intros <;> first | with_reducible exact rfl | omega | with_reducible trivial | (intros; simp_all; done) | grind) ?_
  refine CW_ret ?_
  simp only [go_sem]
end Go.H
end
section
set_option maxRecDepth 100000
set_option linter.unusedVariables false
set_option linter.unusedSimpArgs false
namespace Go.H
open Go Go.Proofs.Tryz
def c_spec_l9Mails : SC :=
.seq (rg [
  ss 2 (.mv (.nl))] [0])
  (.seq (rg [
  sd (some 6) 0 28672 (dMail true) (.bsl [.int .i64 0, .int .i64 0, .int .i64 0, .int .i64 0, .int .i64 0, .int .i64 0, .int .i64 0, .bool false, .nil] 0 []),
  ss 3 (.mv (.t 6))] [0, 3])
  (.seq (.seq (rg [
  ss 4 (.mv (.i .i64 0))] [0, 3, 4])
  (.block 0 (.loop (.seq (.seq (rg [
  ss 7 (.mv (.t 4)),
  ss 8 (.mv (.t 0)),
  sk 9 40960 (.len (.t 8)),
  ss 10 (.bin .lss (.t 7) (.t 9))] [0, 3, 4, 10])
  (.cond (.t 10) (.skip)
  (.exit 0)))
  (.seq (.block 1 (.seq (rg [
  ss 13 (.mv (.t 0)),
  ss 14 (.mv (.t 4)),
  sd (some 15) 0 0 (dMail false) (.idx (.t 13) (.t 14) 9),
  sd (some 16) 0 0 (dMail true) (.load (.t 15) 9 true),
  sk 5 24576 (.alloc [.int .i64 0, .int .i64 0, .int .i64 0, .int .i64 0, .int .i64 0, .int .i64 0, .int .i64 0, .bool false, .nil]),
  sx (.store (.t 5) (.t 16) 9)] [0, 3, 4, 5])
  (.seq (rg [
  ss 17 (.fad (.t 5) 8),
  ss 18 (.load (.t 17) 1 false),
  sk 19 81920 (.call (.f F.spec_l7Copy) [(.t 18, none)]),
  ss 20 (.fad (.t 5) 8),
  sx (.store (.t 20) (.t 19) 1)] [0, 3, 4, 5])
  (rg [
  ss 21 (.mv (.t 3)),
  ss 22 (.load (.t 5) 9 true),
  sd (some 23) 0 98304 (dMail true) (.bsl [.int .i64 0, .int .i64 0, .int .i64 0, .int .i64 0, .int .i64 0, .int .i64 0, .int .i64 0, .bool false, .nil] 1 [(0, .t 22)]),
  sd (some 24) 2 102400 [] (.app false (.t 21) (.t 23) 9 88),
  ss 3 (.mv (.t 24))] [0, 3, 4]))))
  (rg [
  ss 11 (.mv (.t 4)),
  sh 12 1 (.bin .add (.t 11) (.i .i64 1)),
  ss 4 (.mv (.t 12))] [0, 3, 4]))))))
  (.seq (rg [
  ss 25 (.mv (.t 3)),
  ss 2 (.mv (.t 25))] [2])
  (.ret))))
theorem b_spec_l9Mails : ∃ c, f53.body = some c ∧ compC prog 26 c = some c_spec_l9Mails.er ∧ drawB c c_spec_l9Mails = true := ⟨_, rfl, by kernel_rfl, by kernel_rfl⟩
theorem r_spec_l9Mails : cmpR prog [.tmp 2] = some [.t 2] := by kernel_rfl
theorem q_spec_l9Mails : callB prog F.spec_l9Mails = true := by kernel_rfl
variable [Inv prog]
theorem s_spec_l9Mails (xs : List Mail) (hl : xs.length ≤ 2097152) (hm : ∀ i < xs.length, (xs.getD i zMail).entries.length ≤ 2097152) : SemX prog F.spec_l9Mails [.one (.t (.sl false 9 (xs.map (eMail false))))] [] [.one (.sl true 9 (xs.map (eMail true)))] [] := by
  obtain ⟨cc, g1, g2, g3⟩ := b_spec_l9Mails
  refine SemX.of_code func53 g1 (by rw [ntmps53]; exact g2) g3 (by rw [results53]; exact r_spec_l9Mails) (by rw [ntmps53]; exact Nat.le_of_ble_eq_true rfl) (Nat.le_of_ble_eq_true rfl) (by simp) (by simp [argOk, aT, aI, aS, eMail]) ?_
  unfold c_spec_l9Mails
  simp only [rg]
  refine W_reg (by simp only [go_sem, eMail]; exact rfl) ?_
  refine W_reg (by simp only [go_sem, eMail]; exact rfl) ?_
  refine CW_assoc ?_
  refine W_reg (by simp only [go_sem, eMail]; exact rfl) ?_
  refine CW_seq ?_
  refine CW_block ?_
  refine CW_loopS (α := Nat) (fun x => [(3, .ref 28672 0 x), (4, .int .i64 x)]) (fun x => [(28672, .arr ⟨9, (xs.take x).map (eMail true), 1, none⟩)]) (fun x => xs.length - x) (fun x => x ≤ xs.length) 0 [] ?_ ?_ ?_
  · (simp only [go_sem, eMail])
  · first | exact Nat.zero_le _ | (simp; done) | omega
  · rintro x hI
    refine CW_eq (by simp only [go_sem, eMail]; exact rfl) ?_
    refine CW_assoc ?_
    refine W_reg (by simp only [go_sem, eMail]; exact rfl) ?_
    refine CW_seq ?_
    refine CW_cond (by simp only [go_sem, eMail]; exact rfl) (fun c0 => ?_) (fun c0 => ?_)
    · skip
      try simp only [b1, b2, b3, b4, b5, b6, b7] at c0
      refine CW_skip ?_
      refine sq_n ?_
      refine CW_seq ?_
      refine CW_block ?_
      refine W_reg (by simp only [go_sem, eMail] <;> and_intros <;> first | with_reducible exact rfl | omega | with_reducible trivial | (intros; simp_all; done) | grind) ?_
      refine W_reg (by
        refine RW_cut 2 (by simp only [go_sem, eMail]; exact rfl) ?_
        refine RW_ls (by simp only [List.drop_succ_cons, List.drop_zero]; exact rfl) ?_
        refine RW_callN q_spec_l7Copy (s_spec_l7Copy (xs.getD x zMail).entries (hm x (by omega))) true [] [] [] rfl rfl (by simp only [go_sem, eMail]; exact rfl) (by rfl) (by simp only [go_sem, eMail]; exact rfl) ?_
        simp only [go_sem, eMail]; exact rfl) ?_
      refine W_regn (by simp only [go_sem, eMail] <;> and_intros <;> first | with_reducible exact rfl | omega | with_reducible trivial | (intros; simp_all; done) | grind) ?_
      refine bk_n ?_
      refine sq_n ?_
      refine W_regn (by simp only [go_sem, eMail] <;> and_intros <;> first | with_reducible exact rfl | omega | with_reducible trivial | (intros; simp_all; done) | grind) ?_
      refine lp_next (x+1) [(28672,102400)] ?_ ?_ ?_
      · (simp only [go_sem, eMail] <;> and_intros <;> first | with_reducible exact rfl | (first | omega | (rw [take_succ_map _ zMail (by omega)]; simp only [eMail])))
      · omega
      · omega
    · skip
      simp only [decide_eq_false_iff_not] at c0
      obtain rfl : x = xs.length := by omega
      refine CW_exit ?_
      refine sq_e ?_
      refine lp_e ?_
      refine bk_i ?_
      refine sq_n ?_
      refine W_reg (by simp only [go_sem, eMail]; exact rfl) ?_
      refine CW_ret ?_
      simp only [go_sem, eMail]
end Go.H
end
section
set_option maxRecDepth 100000
set_option linter.unusedVariables false
set_option linter.unusedSimpArgs false
namespace Go.H
open Go Go.Proofs.Tryz
def c_spec_l8Copy : SC :=
.seq (rg [
  sk 1 8192 (.box (.t 0)),
  sk 2 12288 (.alloc [.int .i64 0, .int .i64 0, .int .i64 0, .int .i64 0, .nil, .int .i64 0, .int .i64 0, .nil, .nil, .nil])] [1, 2])
  (.seq (rg [
  ss 3 (.fad (.t 1) 4),
  ss 4 (.load (.t 3) 1 false),
  sk 5 24576 (.call (.f F.spec_l7Copy) [(.t 4, none)]),
  ss 6 (.fad (.t 1) 4),
  sx (.store (.t 6) (.t 5) 1)] [1, 2])
  (.seq (rg [
  sd (some 7) 0 32768 dI_i64 (.bsl [.int .i64 0] 0 []),
  ss 8 (.fad (.t 1) 7),
  ss 9 (.load (.t 8) 1 false),
  sk 10 45056 (.app false (.t 7) (.t 9) 1 8),
  ss 11 (.fad (.t 1) 7),
  sx (.store (.t 11) (.t 10) 1)] [1, 2])
  (.seq (rg [
  sd (some 12) 0 53248 dI_i64 (.bsl [.int .i64 0] 0 []),
  ss 13 (.fad (.t 1) 8),
  ss 14 (.load (.t 13) 1 false),
  sk 15 65536 (.app false (.t 12) (.t 14) 1 8),
  ss 16 (.fad (.t 1) 8),
  sx (.store (.t 16) (.t 15) 1)] [1, 2])
  (.seq (rg [
  sd (some 17) 0 73728 dI_i64 (.bsl [.int .i64 0] 0 []),
  ss 18 (.fad (.t 1) 9),
  ss 19 (.load (.t 18) 1 false),
  sk 20 86016 (.app false (.t 17) (.t 19) 1 8),
  ss 21 (.fad (.t 1) 9),
  sx (.store (.t 21) (.t 20) 1)] [1, 2])
  (.seq (rg [
  ss 22 (.load (.t 1) 10 true),
  sx (.store (.t 2) (.t 22) 10)] [2])
  (.ret))))))
theorem b_spec_l8Copy : ∃ c, f110.body = some c ∧ compC prog 23 c = some c_spec_l8Copy.er ∧ drawB c c_spec_l8Copy = true := ⟨_, rfl, by kernel_rfl, by kernel_rfl⟩
theorem r_spec_l8Copy : cmpR prog [.cell 2 54] = some [.c 2 10 true] := by kernel_rfl
theorem q_spec_l8Copy : callB prog F.spec_l8Copy = true := by kernel_rfl
variable [Inv prog]
theorem s_spec_l8Copy (x : Node) (hx : limN 2097152 x) : SemX prog F.spec_l8Copy [aS (eNode false x)] [] [.agg (eNode true x)] [] := by
  obtain ⟨cc, g1, g2, g3⟩ := b_spec_l8Copy
  refine SemX.of_code func110 g1 (by rw [ntmps110]; exact g2) g3 (by rw [results110]; exact r_spec_l8Copy) (by rw [ntmps110]; exact Nat.le_of_ble_eq_true rfl) (Nat.le_of_ble_eq_true rfl) (by simp) (by simp [argOk, aT, aI, aS, eNode]) ?_
  unfold c_spec_l8Copy
  simp only [rg]
  obtain ⟨hx1, hx2, hx3, hx4⟩ := id hx
  refine W_reg (by simp only [go_sem, eNode]; exact rfl) ?_
  refine W_reg (by
    refine RW_cut 2 (by simp only [go_sem, eNode]; exact rfl) ?_
    refine RW_ls (by simp only [List.drop_succ_cons, List.drop_zero]; exact rfl) ?_
    refine RW_callN q_spec_l7Copy (s_spec_l7Copy x.log hx.1) true [] [] [] rfl rfl (by simp only [go_sem, eNode]; exact rfl) (by rfl) (by simp only [go_sem, eNode]; exact rfl) ?_
    simp only [go_sem, eNode]; exact rfl) ?_
  refine W_reg (by simp only [go_sem, eNode] <;> and_intros <;> first | with_reducible exact rfl | omega | with_reducible trivial | (intros; simp_all; done) | grind) ?_
  refine W_reg (by simp only [go_sem, eNode] <;> and_intros <;> first | with_reducible exact rfl | omega | with_reducible trivial | (intros; simp_all; done) | grind) ?_
  refine W_reg (by simp only [go_sem, eNode] <;> and_intros <;> first | with_reducible exact rfl | omega | with_reducible trivial | (intros; simp_all; done) | grind) ?_
  refine W_reg (by simp only [go_sem, eNode]; exact rfl) ?_
  refine CW_ret ?_
  simp only [go_sem, eNode]
end Go.H
end
section
set_option maxRecDepth 100000
set_option linter.unusedVariables false
set_option linter.unusedSimpArgs false
namespace Go.H
open Go Go.Proofs.Tryz
def c_spec_l9Copy : SC :=
.seq (rg [
  sk 1 8192 (.box (.t 0)),
  sk 2 12288 (.alloc [.nil, .nil, .nil, .nil])] [1, 2])
  (.seq (.reg true [
    ⟨(some 5), .fad (.t 1) 1, none, [1], 0, 0, [], [], [], []⟩,
    ⟨(some 6), .load (.t 5) 1 false, none, [5], 0, 0, [], [], [8192], []⟩,
    ⟨(some 7), .call (.f F.spec_l9Mails) [(.t 6, none)], none, [6], 0, 32768, [], [], [], [32768]⟩,
    ⟨(some 8), .bsl [.int .i64 0, .int .i64 0] 0 [], none, [], 0, 36864, dWon, [], [], [36864]⟩,
    ⟨(some 9), .fad (.t 1) 2, none, [1], 0, 0, [], [], [], []⟩,
    ⟨(some 10), .load (.t 9) 1 false, none, [9], 0, 0, [], [], [8192], []⟩,
    ⟨(some 11), .app false (.t 8) (.t 10) 2 16, none, [8, 10], 0, 49152, [], [], [36864], [49152, 36864]⟩,
    ⟨(some 12), .bsl [.int .i64 0, .int .i64 0, .int .i64 0, .int .i64 0, .int .i64 0, .int .i64 0, .int .i64 0, .int .i64 0, .int .i64 0, .int .i64 0] 0 [], none, [], 0, 53248, dSeal, [], [], [53248]⟩,
    ⟨(some 13), .fad (.t 1) 3, none, [1], 0, 0, [], [], [], []⟩,
    ⟨(some 14), .load (.t 13) 1 false, none, [13], 0, 0, [], [], [8192], []⟩,
    ⟨(some 15), .app false (.t 12) (.t 14) 10 80, none, [12, 14], 0, 65536, [], [], [53248], [65536, 53248]⟩,
    ⟨(some 16), .bld [.nil, .nil, .nil, .nil] [(1, 1, .t 7), (2, 1, .t 11), (3, 1, .t 15)], none, [7, 11, 15], 4, 69632, (dCluster true), [], [], [69632]⟩,
    ⟨(some 3), .alloc [.nil, .nil, .nil, .nil], none, [], 0, 16384, [], [], [], [16384]⟩,
    ⟨none, .store (.t 3) (.t 16) 4, none, [3, 16], 0, 0, [], [], [16384], [16384]⟩] (some ([1, 2, 3], [])))
  (.seq (.seq (rg [
  ss 4 (.mv (.i .i64 0))] [1, 2, 3, 4])
  (.block 0 (.loop (.seq (.seq (rg [
  ss 17 (.mv (.t 4)),
  ss 18 (.fad (.t 1) 0),
  ss 19 (.load (.t 18) 1 false),
  sk 20 86016 (.len (.t 19)),
  ss 21 (.bin .lss (.t 17) (.t 20))] [1, 2, 3, 4, 21])
  (.cond (.t 21) (.skip)
  (.exit 0)))
  (.seq (.block 1 (.reg true [
    ⟨(some 24), .fad (.t 3) 0, none, [3], 0, 0, [], [], [], []⟩,
    ⟨(some 25), .load (.t 24) 1 false, none, [24], 0, 0, [], [], [16384], []⟩,
    ⟨(some 26), .fad (.t 1) 0, none, [1], 0, 0, [], [], [], []⟩,
    ⟨(some 27), .load (.t 26) 1 false, none, [26], 0, 0, [], [], [8192], []⟩,
    ⟨(some 28), .mv (.t 4), none, [4], 0, 0, [], [], [], []⟩,
    ⟨(some 29), .idx (.t 27) (.t 28) 10, none, [27, 28], 0, 0, (dNode false), [], [], []⟩,
    ⟨(some 30), .load (.t 29) 10 true, none, [29], 0, 0, (dNode true), [], [], []⟩,
    ⟨(some 31), .call (.f F.spec_l8Copy) [(.t 30, none)], none, [30], 0, 131072, [], [], [], [131076, 131079, 131080, 131081]⟩,
    ⟨(some 32), .bsl [.int .i64 0, .int .i64 0, .int .i64 0, .int .i64 0, .nil, .int .i64 0, .int .i64 0, .nil, .nil, .nil] 1 [(0, .t 31)], none, [31], 0, 135168, (dNode true), [], [131076, 131079, 131080, 131081], [135168, 131076, 131079, 131080, 131081]⟩,
    ⟨(some 33), .app false (.t 25) (.t 32) 10 144, none, [25, 32], 2, 139264, [], [], [69632, 135168], [139264, 69632, 135168]⟩,
    ⟨(some 34), .fad (.t 3) 0, none, [3], 0, 0, [], [], [], []⟩,
    ⟨none, .store (.t 34) (.t 33) 1, none, [34, 33], 0, 0, [], [], [16384], [16384]⟩] (some ([1, 2, 3, 4], []))))
  (rg [
  ss 22 (.mv (.t 4)),
  sh 23 1 (.bin .add (.t 22) (.i .i64 1)),
  ss 4 (.mv (.t 23))] [1, 2, 3, 4]))))))
  (.seq (rg [
  ss 35 (.load (.t 3) 4 true),
  sx (.store (.t 2) (.t 35) 4)] [2])
  (.ret))))
theorem b_spec_l9Copy : ∃ c, f52.body = some c ∧ compC prog 36 c = some c_spec_l9Copy.er ∧ drawB c c_spec_l9Copy = true := ⟨_, rfl, by kernel_rfl, by kernel_rfl⟩
theorem r_spec_l9Copy : cmpR prog [.cell 2 34] = some [.c 2 4 true] := by kernel_rfl
theorem q_spec_l9Copy : callB prog F.spec_l9Copy = true := by kernel_rfl
variable [Inv prog]
theorem s_spec_l9Copy (x : Cluster) (hx : limC 2097152 x) : SemX prog F.spec_l9Copy [aS (eCluster false x)] [] [.agg (eCluster true x)] [] := by
  obtain ⟨cc, g1, g2, g3⟩ := b_spec_l9Copy
  refine SemX.of_code func52 g1 (by rw [ntmps52]; exact g2) g3 (by rw [results52]; exact r_spec_l9Copy) (by rw [ntmps52]; exact Nat.le_of_ble_eq_true rfl) (Nat.le_of_ble_eq_true rfl) (by simp) (by simp [argOk, aT, aI, aS, eCluster, eNode]) ?_
  unfold c_spec_l9Copy
  simp only [rg]
  obtain ⟨⟨hn, hN⟩, ⟨hm, hM⟩, hw, hs⟩ := id hx
  refine W_reg (by simp only [go_sem, eCluster, eNode]; exact rfl) ?_
  refine W_drw (by
    refine DW_cut 2 (by simp only [go_sem, eCluster, eNode]; exact rfl) ?_
    refine DW_ls (by simp only [List.drop_succ_cons, List.drop_zero]; exact rfl) ?_
    refine DW_callN q_spec_l9Mails (s_spec_l9Mails x.mails hm ((all_getD zMail).2 hM)) true [] [] [] rfl rfl (by simp only [go_sem, eCluster, eNode]; exact rfl) (by rfl) (by simp only [go_sem, eCluster, eNode]; exact rfl) ?_
    simp only [go_sem, eCluster, eNode] <;> and_intros <;> first | with_reducible exact rfl | omega | with_reducible trivial | (intros; simp_all; done) | grind) ?_
  refine CW_assoc ?_
  refine W_reg (by simp only [go_sem, eCluster, eNode]; exact rfl) ?_
  refine CW_seq ?_
  refine CW_block ?_
  refine CW_loopS (α := Nat) (fun i => [(4, .int .i64 i)]) (fun i => [(16384, .var [.ref 69632 0 i, .ref 32768 0 x.mails.length, .ref 49152 0 x.wins.length, .ref 65536 0 x.seals.length]), (69632, .arr ⟨10, (x.nodes.take i).map (eNode true), 1, none⟩)]) (fun i => x.nodes.length - i) (fun i => i ≤ x.nodes.length) 0 [] ?_ ?_ ?_
  · (simp only [go_sem, eCluster, eNode])
  · first | exact Nat.zero_le _ | (simp; done) | omega
  · rintro i hI
    refine CW_eq (by simp only [go_sem, eCluster, eNode]; exact rfl) ?_
    refine CW_assoc ?_
    refine W_reg (by simp only [go_sem, eCluster, eNode]; exact rfl) ?_
    refine CW_seq ?_
    refine CW_cond (by simp only [go_sem, eCluster, eNode]; exact rfl) (fun c0 => ?_) (fun c0 => ?_)
    · skip
      try simp only [Bool.not_eq_eq_eq_not, Bool.not_true, Bool.not_false, decide_eq_true_eq, decide_eq_false_iff_not, Bool.and_eq_true, Bool.or_eq_true] at c0
      refine CW_skip ?_
      refine sq_n ?_
      refine CW_seq ?_
      refine CW_block ?_
      refine W_drwn (by
        refine DW_cut 7 (by simp only [go_sem, eCluster, eNode] <;> and_intros <;> first | with_reducible exact rfl | omega | with_reducible trivial | (intros; simp_all; done) | grind) ?_
        refine DW_ls (by simp only [List.drop_succ_cons, List.drop_zero]; exact rfl) ?_
        refine DW_callN q_spec_l8Copy (s_spec_l8Copy (x.nodes.getD i zNode) ((all_getD zNode).2 hN i (by omega))) true [] [] [] rfl rfl (by simp only [go_sem, eCluster, eNode, eMail]; exact rfl) (by rfl) (by simp only [go_sem, eCluster, eNode]; exact rfl) ?_
        simp only [go_sem, eCluster, eNode] <;> and_intros <;> first | with_reducible exact rfl | omega | with_reducible trivial | (intros; simp_all; done) | grind) ?_
      refine bk_n ?_
      refine sq_n ?_
      refine W_regn (by simp only [go_sem, eCluster, eNode] <;> and_intros <;> first | with_reducible exact rfl | omega | with_reducible trivial | (intros; simp_all; done) | grind) ?_
      refine lp_next (i+1) [(69632,139264)] ?_ ?_ ?_
      · (simp only [go_sem, eCluster, eNode] <;> and_intros <;> first | with_reducible exact rfl | (first | omega | (rw [take_succ_map _ zNode (by omega)]; simp only [eNode])))
      · omega
      · omega
    · skip
      try simp only [Bool.not_eq_eq_eq_not, Bool.not_true, Bool.not_false, decide_eq_true_eq, decide_eq_false_iff_not, Bool.and_eq_true, Bool.or_eq_true] at c0
      obtain rfl : i = x.nodes.length := by omega
      refine CW_exit ?_
      refine sq_e ?_
      refine lp_e ?_
      refine bk_i ?_
      refine sq_n ?_
      refine W_reg (by simp only [go_sem, eCluster, eNode]; exact rfl) ?_
      refine CW_ret ?_
      simp only [go_sem, eCluster, eNode]
end Go.H
end
section
set_option maxRecDepth 100000
set_option linter.unusedVariables false
set_option linter.unusedSimpArgs false
namespace Go.H
open Go Go.Proofs.Tryz
def c_spec_CopyMail : SC :=
.seq (rg [
  sk 2 12288 (.box (.t 0)),
  sk 4 20480 (.alloc [.int .i64 0, .nil, .nil, .nil, .nil])] [1, 2, 4])
  (.seq (.seq (rg [
  ss 7 (.mv (.t 1)),
  sk 8 36864 (.call (.f F.spec_l9Mail) [(.t 2, some 4), (.t 7, none)]),
  ss 5 (.mv (.t 8))] [1, 2, 4, 5])
  (.seq (rg [
  ss 9 (.mv (.t 5)),
  ss 10 (.bin .neq (.t 9) (.i .i64 0))] [1, 2, 4, 5, 10])
  (.cond (.t 10) (.seq (rg [
  ss 11 (.mv (.t 5)),
  sk 12 53248 (.call (.f F.spec_l9Bad) [(.t 11, none)]),
  sx (.store (.t 4) (.t 12) 5)] [4])
  (.ret))
  (.skip))))
  (.seq (.seq (rg [
  ss 13 (.fad (.t 2) 1),
  ss 14 (.load (.t 13) 1 false),
  sk 15 65536 (.len (.t 14)),
  ss 16 (.bin .geq (.t 15) (.i .i64 80))] [1, 2, 4, 16])
  (.cond (.t 16) (.seq (rg [
  sk 17 73728 (.call (.f F.spec_l9Bad) [(.i .i64 2, none)]),
  sx (.store (.t 4) (.t 17) 5)] [4])
  (.ret))
  (.skip)))
  (.seq (rg [
  ss 18 (.load (.t 2) 4 true),
  sk 19 81920 (.call (.f F.spec_l9Copy) [(.t 18, none)]),
  sk 6 28672 (.alloc [.nil, .nil, .nil, .nil]),
  sx (.store (.t 6) (.t 19) 4)] [1, 2, 4, 6])
  (.seq (.reg true [
    ⟨(some 20), .fad (.t 6) 1, none, [6], 0, 0, [], [], [], []⟩,
    ⟨(some 21), .load (.t 20) 1 false, none, [20], 0, 0, [], [], [28672], []⟩,
    ⟨(some 22), .fad (.t 2) 1, none, [2], 0, 0, [], [], [], []⟩,
    ⟨(some 23), .load (.t 22) 1 false, none, [22], 0, 0, [], [], [12288], []⟩,
    ⟨(some 24), .mv (.t 1), none, [1], 0, 0, [], [], [], []⟩,
    ⟨(some 25), .mv (.t 1), none, [1], 0, 0, [], [], [], []⟩,
    ⟨(some 26), .bin .add (.t 25) (.i .i64 1), none, [25], 1, 0, [], [], [], []⟩,
    ⟨(some 27), .sll (.t 23) (some (.t 24)) (some (.t 26)) none 9, none, [23, 24, 26], 0, 0, [], [], [], []⟩,
    ⟨(some 28), .call (.f F.spec_l9Mails) [(.t 27, none)], none, [27], 0, 118784, [], [], [], [118784]⟩,
    ⟨(some 29), .app false (.t 21) (.t 28) 9 88, none, [21, 28], 2, 122880, [], [], [81921, 118784], [122880, 81921, 118784]⟩,
    ⟨(some 30), .fad (.t 6) 1, none, [6], 0, 0, [], [], [], []⟩,
    ⟨none, .store (.t 30) (.t 29) 1, none, [30, 29], 0, 0, [], [], [28672], [28672]⟩] (some ([4, 6], [])))
  (.seq (rg [
  ss 31 (.load (.t 6) 4 true),
  ss 32 (.bld [.int .i64 0, .nil, .nil, .nil, .nil] [(1, 4, .t 31)]),
  sx (.store (.t 4) (.t 32) 5)] [4])
  (.ret))))))
theorem b_spec_CopyMail : ∃ c, f12.body = some c ∧ compC prog 33 c = some c_spec_CopyMail.er ∧ drawB c c_spec_CopyMail = true := ⟨_, rfl, by kernel_rfl, by kernel_rfl⟩
theorem r_spec_CopyMail : cmpR prog [.cell 4 36] = some [.c 4 5 true] := by kernel_rfl
theorem q_spec_CopyMail : callB prog F.spec_CopyMail = true := by kernel_rfl
variable [Inv prog]
theorem s_spec_CopyMail (x : Cluster) (hx : limC 2097152 x) (p : Int) : SemX prog F.spec_CopyMail [aS (eCluster false x), aI p] [] [.agg (eClusterResult true (copyMail x p))] [] := by
  obtain ⟨cc, g1, g2, g3⟩ := b_spec_CopyMail
  refine SemX.of_code func12 g1 (by rw [ntmps12]; exact g2) g3 (by rw [results12]; exact r_spec_CopyMail) (by rw [ntmps12]; exact Nat.le_of_ble_eq_true rfl) (Nat.le_of_ble_eq_true rfl) (by simp) (by simp [argOk, aT, aI, aS, eClusterResult, eCluster]) ?_
  unfold c_spec_CopyMail
  simp only [rg]
  obtain ⟨⟨hn, hN⟩, ⟨hm, hM⟩, hw, hs⟩ := id hx
  refine W_reg (by simp only [go_sem, eClusterResult, eCluster]; exact rfl) ?_
  refine CW_assoc ?_
  refine W_reg (by
    refine RW_cut 1 (by simp only [go_sem, eClusterResult, eCluster]; exact rfl) ?_
    refine RW_ls (by simp only [List.drop_succ_cons, List.drop_zero]; exact rfl) ?_
    refine RW_callN q_spec_l9Mail (s_spec_l9Mail x hx p) true [] [] [] rfl rfl (by simp only [go_sem, eClusterResult, eCluster]; exact rfl) (by rfl) (by simp only [go_sem, eClusterResult, eCluster]; exact rfl) ?_
    simp only [go_sem, eClusterResult, eCluster]; exact rfl) ?_
  refine CW_assoc ?_
  refine W_reg (by simp only [go_sem, eClusterResult, eCluster]; exact rfl) ?_
  refine CW_seq ?_
  refine CW_cond (by simp only [go_sem, eClusterResult, eCluster]; exact rfl) (fun c0 => ?_) (fun c0 => ?_)
  · skip
    try simp only [Bool.not_eq_eq_eq_not, Bool.not_true, Bool.not_false, decide_eq_true_eq, decide_eq_false_iff_not, Bool.and_eq_true, Bool.or_eq_true] at c0
    refine W_reg (by
      refine RW_cut 1 (by simp only [go_sem, eClusterResult, eCluster]; exact rfl) ?_
      refine RW_ls (by simp only [List.drop_succ_cons, List.drop_zero]; exact rfl) ?_
      refine RW_callN q_spec_l9Bad (s_spec_l9Bad (mailGuard x p)) true [] [] [] rfl rfl (by simp only [go_sem, eClusterResult, eCluster]; exact rfl) (by rfl) (by simp only [go_sem, eClusterResult, eCluster]; exact rfl) ?_
      simp only [go_sem, eClusterResult, eCluster]; exact rfl) ?_
    refine CW_ret ?_
    refine sq_r ?_
    simp only [go_sem, eClusterResult, eCluster]
    all_goals
      have he : copyMail x p = bad (mailGuard x p) := by unfold copyMail; rw [if_pos (by omega)]
      simp [he, bad, zCluster]
  · skip
    try simp only [Bool.not_eq_eq_eq_not, Bool.not_true, Bool.not_false, decide_eq_true_eq, decide_eq_false_iff_not, Bool.and_eq_true, Bool.or_eq_true] at c0
    have c0n : mailGuard x p = 0 := by omega
    obtain ⟨hcf, n, rfl, hn2⟩ := guard_iff c0n
    refine CW_skip ?_
    refine sq_n ?_
    refine CW_assoc ?_
    refine W_reg (by simp only [go_sem, eClusterResult, eCluster]; exact rfl) ?_
    refine CW_seq ?_
    refine CW_cond (by simp only [go_sem, eClusterResult, eCluster]; exact rfl) (fun c1 => ?_) (fun c1 => ?_)
    · skip
      try simp only [b1, b2, b3, b4, b5, b6, b7] at c1
      refine W_reg (by
        refine RW_callN q_spec_l9Bad (s_spec_l9Bad 2) true [] [] [] rfl rfl (by simp only [go_sem, eClusterResult, eCluster]; exact rfl) (by rfl) (by simp only [go_sem, eClusterResult, eCluster]; exact rfl) ?_
        simp only [go_sem, eClusterResult, eCluster]; exact rfl) ?_
      refine CW_ret ?_
      refine sq_r ?_
      simp only [go_sem, eClusterResult, eCluster]
      all_goals
        have he : copyMail x n = bad 2 := by unfold copyMail; rw [if_neg (by omega), if_pos (by omega)]
        simp [he, bad, zCluster]
    · skip
      try simp only [b1, b2, b3, b4, b5, b6, b7] at c1
      refine CW_skip ?_
      refine sq_n ?_
      refine W_reg (by
        refine RW_cut 1 (by simp only [go_sem, eClusterResult, eCluster]; exact rfl) ?_
        refine RW_ls (by simp only [List.drop_succ_cons, List.drop_zero]; exact rfl) ?_
        refine RW_callN q_spec_l9Copy (s_spec_l9Copy x hx) true [] [] [] rfl rfl (by simp only [go_sem, eClusterResult, eCluster, eNode, eMail]; exact rfl) (by rfl) (by simp only [go_sem, eClusterResult, eCluster]; exact rfl) ?_
        simp only [go_sem, eClusterResult, eCluster]; exact rfl) ?_
      refine W_drw (by
        refine DW_cut 8 (by simp only [go_sem, eClusterResult, eCluster] <;> and_intros <;> first | with_reducible exact rfl | omega | with_reducible trivial | (intros; simp_all; done) | grind) ?_
        refine DW_ls (by simp only [List.drop_succ_cons, List.drop_zero]; exact rfl) ?_
        refine DW_callN q_spec_l9Mails (s_spec_l9Mails [x.mails.getD n zMail] (by simp) (by intro i hi; simp at hi; subst hi; exact (all_getD zMail).2 hM n (by omega))) true [] [] [] rfl rfl (by simp only [go_sem, eClusterResult, eCluster, drop_take_one zMail hn2, eMail]; exact rfl) (by rfl) (by simp only [go_sem, eClusterResult, eCluster]; exact rfl) ?_
        simp only [go_sem, eClusterResult, eCluster] <;> and_intros <;> first | with_reducible exact rfl | omega | with_reducible trivial | (intros; simp_all; done) | grind) ?_
      refine W_reg (by simp only [go_sem, eClusterResult, eCluster]; exact rfl) ?_
      refine CW_ret ?_
      simp only [go_sem, eClusterResult, eCluster]
      all_goals
        have he : copyMail x n = ⟨0, { x with mails := x.mails ++ [x.mails.getD n zMail] }⟩ := by unfold copyMail; rw [if_neg (by omega), if_neg (by omega)]; rfl
        simp [he, eMail]
end Go.H
end
section
set_option maxRecDepth 100000
set_option linter.unusedVariables false
set_option linter.unusedSimpArgs false
namespace Go.H
open Go Go.Proofs.Tryz
def c_laws_toCmd : SC :=
.seq (rg [
  sk 1 8192 (.box (.t 0)),
  sk 2 12288 (.alloc [.int .i64 0, .int .i64 0, .int .i64 0, .int .i64 0, .int .i64 0, .int .i64 0])] [1, 2])
  (.seq (rg [
  sk 3 16384 (.alloc [.int .i64 0, .int .i64 0, .int .i64 0, .int .i64 0, .int .i64 0, .int .i64 0])] [1, 2, 3])
  (.seq (rg [
  ss 4 (.fad (.t 1) 0),
  ss 5 (.load (.t 4) 1 false),
  ss 6 (.fad (.t 3) 0),
  sx (.store (.t 6) (.t 5) 1)] [1, 2, 3])
  (.seq (rg [
  ss 7 (.fad (.t 1) 1),
  ss 8 (.load (.t 7) 1 false),
  ss 9 (.fad (.t 3) 1),
  sx (.store (.t 9) (.t 8) 1)] [1, 2, 3])
  (.seq (rg [
  ss 10 (.fad (.t 1) 2),
  ss 11 (.load (.t 10) 1 false),
  ss 12 (.fad (.t 3) 2),
  sx (.store (.t 12) (.t 11) 1)] [1, 2, 3])
  (.seq (rg [
  ss 13 (.fad (.t 1) 3),
  ss 14 (.load (.t 13) 1 false),
  ss 15 (.fad (.t 3) 3),
  sx (.store (.t 15) (.t 14) 1)] [1, 2, 3])
  (.seq (rg [
  ss 16 (.fad (.t 1) 4),
  ss 17 (.load (.t 16) 1 false),
  ss 18 (.fad (.t 3) 4),
  sx (.store (.t 18) (.t 17) 1)] [1, 2, 3])
  (.seq (rg [
  ss 19 (.fad (.t 1) 5),
  ss 20 (.load (.t 19) 1 false),
  ss 21 (.fad (.t 3) 5),
  sx (.store (.t 21) (.t 20) 1)] [2, 3])
  (.seq (rg [
  ss 22 (.load (.t 3) 6 true),
  sx (.store (.t 2) (.t 22) 6)] [2])
  (.ret)))))))))
theorem b_laws_toCmd : ∃ c, f40.body = some c ∧ compC prog 23 c = some c_laws_toCmd.er ∧ drawB c c_laws_toCmd = true := ⟨_, rfl, by kernel_rfl, by kernel_rfl⟩
theorem r_laws_toCmd : cmpR prog [.cell 2 72] = some [.c 2 6 true] := by kernel_rfl
theorem q_laws_toCmd : callB prog F.laws_toCmd = true := by kernel_rfl
variable [Inv prog]
theorem s_laws_toCmd (x : Cmd) : SemX prog F.laws_toCmd [aS (eCmd x)] [] [.agg (eCmd x)] [] := by
  obtain ⟨cc, g1, g2, g3⟩ := b_laws_toCmd
  refine SemX.of_code func40 g1 (by rw [ntmps40]; exact g2) g3 (by rw [results40]; exact r_laws_toCmd) (by rw [ntmps40]; exact Nat.le_of_ble_eq_true rfl) (Nat.le_of_ble_eq_true rfl) (by simp) (by simp [argOk, aT, aI, aS, eCmd]) ?_
  unfold c_laws_toCmd
  simp only [rg]
  refine W_reg (by simp only [go_sem, eCmd]; exact rfl) ?_
  refine W_reg (by simp only [go_sem, eCmd]; exact rfl) ?_
  refine W_reg (by simp only [go_sem, eCmd]; exact rfl) ?_
  refine W_reg (by simp only [go_sem, eCmd]; exact rfl) ?_
  refine W_reg (by simp only [go_sem, eCmd]; exact rfl) ?_
  refine W_reg (by simp only [go_sem, eCmd]; exact rfl) ?_
  refine W_reg (by simp only [go_sem, eCmd]; exact rfl) ?_
  refine W_reg (by simp only [go_sem, eCmd]; exact rfl) ?_
  refine W_reg (by simp only [go_sem, eCmd]; exact rfl) ?_
  refine CW_ret ?_
  simp only [go_sem, eCmd]
end Go.H
end
section
set_option maxRecDepth 100000
set_option linter.unusedVariables false
set_option linter.unusedSimpArgs false
namespace Go.H
open Go Go.Proofs.Tryz
def c_laws_toEntry : SC :=
.seq (rg [
  sk 1 8192 (.box (.t 0)),
  sk 2 12288 (.alloc [.int .i64 0, .int .i64 0, .int .i64 0, .int .i64 0, .int .i64 0, .int .i64 0, .int .i64 0, .int .i64 0, .int .i64 0])] [1, 2])
  (.seq (rg [
  sk 3 16384 (.alloc [.int .i64 0, .int .i64 0, .int .i64 0, .int .i64 0, .int .i64 0, .int .i64 0, .int .i64 0, .int .i64 0, .int .i64 0])] [1, 2, 3])
  (.seq (rg [
  ss 4 (.fad (.t 1) 0),
  ss 5 (.load (.t 4) 1 false),
  ss 6 (.fad (.t 3) 0),
  sx (.store (.t 6) (.t 5) 1)] [1, 2, 3])
  (.seq (rg [
  ss 7 (.fad (.t 1) 1),
  ss 8 (.load (.t 7) 1 false),
  ss 9 (.fad (.t 3) 1),
  sx (.store (.t 9) (.t 8) 1)] [1, 2, 3])
  (.seq (rg [
  ss 10 (.fad (.t 1) 2),
  ss 11 (.load (.t 10) 1 false),
  ss 12 (.fad (.t 3) 2),
  sx (.store (.t 12) (.t 11) 1)] [1, 2, 3])
  (.seq (rg [
  ss 13 (.fad (.t 1) 3),
  ss 14 (.load (.t 13) 6 true),
  sk 15 65536 (.call (.f F.laws_toCmd) [(.t 14, none)]),
  ss 16 (.fad (.t 3) 3),
  sx (.store (.t 16) (.t 15) 6)] [2, 3])
  (.seq (rg [
  ss 17 (.load (.t 3) 9 true),
  sx (.store (.t 2) (.t 17) 9)] [2])
  (.ret)))))))
theorem b_laws_toEntry : ∃ c, f135.body = some c ∧ compC prog 18 c = some c_laws_toEntry.er ∧ drawB c c_laws_toEntry = true := ⟨_, rfl, by kernel_rfl, by kernel_rfl⟩
theorem r_laws_toEntry : cmpR prog [.cell 2 120] = some [.c 2 9 true] := by kernel_rfl
theorem q_laws_toEntry : callB prog F.laws_toEntry = true := by kernel_rfl
variable [Inv prog]
theorem s_laws_toEntry (x : Entry) : SemX prog F.laws_toEntry [aS (eEntry x)] [] [.agg (eEntry x)] [] := by
  obtain ⟨cc, g1, g2, g3⟩ := b_laws_toEntry
  refine SemX.of_code func135 g1 (by rw [ntmps135]; exact g2) g3 (by rw [results135]; exact r_laws_toEntry) (by rw [ntmps135]; exact Nat.le_of_ble_eq_true rfl) (Nat.le_of_ble_eq_true rfl) (by simp) (by simp [argOk, aT, aI, aS, eEntry]) ?_
  unfold c_laws_toEntry
  simp only [rg]
  refine W_reg (by simp only [go_sem, eEntry]; exact rfl) ?_
  refine W_reg (by simp only [go_sem, eEntry]; exact rfl) ?_
  refine W_reg (by simp only [go_sem, eEntry]; exact rfl) ?_
  refine W_reg (by simp only [go_sem, eEntry]; exact rfl) ?_
  refine W_reg (by simp only [go_sem, eEntry]; exact rfl) ?_
  refine W_reg (by
    refine RW_cut 2 (by simp only [go_sem, eEntry]; exact rfl) ?_
    refine RW_ls (by simp only [List.drop_succ_cons, List.drop_zero]; exact rfl) ?_
    refine RW_callN q_laws_toCmd (s_laws_toCmd x.cmd) true [] [] [] rfl rfl (by simp only [go_sem, eEntry, eCmd, eEntry]; exact rfl) (by rfl) (by simp only [go_sem, eEntry]; exact rfl) ?_
    simp only [go_sem, eEntry]; exact rfl) ?_
  refine W_reg (by simp only [go_sem, eEntry]; exact rfl) ?_
  refine CW_ret ?_
  simp only [go_sem, eEntry]
end Go.H
end
section
set_option maxRecDepth 100000
set_option linter.unusedVariables false
set_option linter.unusedSimpArgs false
namespace Go.H
open Go Go.Proofs.Tryz
def c_laws_toEntryS : SC :=
.seq (rg [
  ss 2 (.mv (.nl))] [0])
  (.seq (rg [
  ss 5 (.mv (.t 0)),
  sk 6 28672 (.len (.t 5)),
  sd (some 7) 0 32768 dEntry (.mks (.t 6) (.t 6) [.int .i64 0, .int .i64 0, .int .i64 0, .int .i64 0, .int .i64 0, .int .i64 0, .int .i64 0, .int .i64 0, .int .i64 0] 72),
  ss 3 (.mv (.t 7))] [0, 3])
  (.seq (.seq (rg [
  ss 4 (.mv (.i .i64 0))] [0, 3, 4])
  (.block 0 (.loop (.seq (.seq (rg [
  ss 8 (.mv (.t 4)),
  ss 9 (.mv (.t 0)),
  sk 10 45056 (.len (.t 9)),
  ss 11 (.bin .lss (.t 8) (.t 10))] [0, 3, 4, 11])
  (.cond (.t 11) (.skip)
  (.exit 0)))
  (.seq (.block 1 (rg [
  ss 14 (.mv (.t 3)),
  ss 15 (.mv (.t 4)),
  ss 16 (.mv (.t 0)),
  ss 17 (.mv (.t 4)),
  sd (some 18) 0 0 dEntry (.idx (.t 16) (.t 17) 9),
  sd (some 19) 0 0 dEntry (.load (.t 18) 9 true),
  sk 20 86016 (.call (.f F.laws_toEntry) [(.t 19, none)]),
  sd (some 21) 0 0 dEntry (.idx (.t 14) (.t 15) 9),
  sd none 0 0 dEntry (.store (.t 21) (.t 20) 9)] [0, 3, 4]))
  (rg [
  ss 12 (.mv (.t 4)),
  sh 13 1 (.bin .add (.t 12) (.i .i64 1)),
  ss 4 (.mv (.t 13))] [0, 3, 4]))))))
  (.seq (rg [
  ss 22 (.mv (.t 3)),
  ss 2 (.mv (.t 22))] [2])
  (.ret))))
theorem b_laws_toEntryS : ∃ c, f78.body = some c ∧ compC prog 23 c = some c_laws_toEntryS.er ∧ drawB c c_laws_toEntryS = true := ⟨_, rfl, by kernel_rfl, by kernel_rfl⟩
theorem r_laws_toEntryS : cmpR prog [.tmp 2] = some [.t 2] := by kernel_rfl
theorem q_laws_toEntryS : callB prog F.laws_toEntryS = true := by kernel_rfl
variable [Inv prog]
theorem s_laws_toEntryS (xs : List Entry) (hl : xs.length ≤ 2097152)  : SemX prog F.laws_toEntryS [aT (.sl false 9 (xs.map eEntry))] [] [.one (.sl true 9 (xs.map eEntry))] [] := by
  obtain ⟨cc, g1, g2, g3⟩ := b_laws_toEntryS
  refine SemX.of_code func78 g1 (by rw [ntmps78]; exact g2) g3 (by rw [results78]; exact r_laws_toEntryS) (by rw [ntmps78]; exact Nat.le_of_ble_eq_true rfl) (Nat.le_of_ble_eq_true rfl) (by simp) (by simp [argOk, aT, aI, aS, eEntry]) ?_
  unfold c_laws_toEntryS
  simp only [rg]
  refine W_reg (by simp only [go_sem, eEntry]; exact rfl) ?_
  refine W_reg (by simp only [go_sem, eEntry] <;> and_intros <;> first | with_reducible exact rfl | omega | with_reducible trivial | (intros; simp_all; done) | grind) ?_
  refine CW_assoc ?_
  refine W_reg (by simp only [go_sem, eEntry]; exact rfl) ?_
  refine CW_seq ?_
  refine CW_block ?_
  refine CW_loopS (α := Nat) (fun x => [(4, .int .i64 x)]) (fun x => [(32768, .arr ⟨9, (xs.take x).map eEntry ++ List.replicate (xs.length - x) dEntry, x + 1, none⟩)]) (fun x => xs.length - x) (fun x => x ≤ xs.length) 0 [] ?_ ?_ ?_
  · (simp only [go_sem, eEntry] <;> and_intros <;> first | with_reducible exact rfl | (first | omega | (simp [dEntry, eEntry, zEntry, zCmd, zEntry]; done)))
  · first | exact Nat.zero_le _ | (simp; done) | omega
  · rintro x hI
    refine CW_eq (by simp only [go_sem, eEntry]; exact rfl) ?_
    refine CW_assoc ?_
    refine W_reg (by simp only [go_sem, eEntry]; exact rfl) ?_
    refine CW_seq ?_
    refine CW_cond (by simp only [go_sem, eEntry]; exact rfl) (fun c0 => ?_) (fun c0 => ?_)
    · skip
      try simp only [Bool.not_eq_eq_eq_not, Bool.not_true, Bool.not_false, decide_eq_true_eq, decide_eq_false_iff_not, Bool.and_eq_true, Bool.or_eq_true] at c0
      have hg := getD_bld (l := (xs.take x).map eEntry) (n := xs.length - x) (d := dEntry) (i := x) (by simp; omega)
      refine CW_skip ?_
      refine sq_n ?_
      refine CW_seq ?_
      refine CW_block ?_
      refine W_regn (by
        refine RW_cut 6 (by simp only [go_sem, eEntry, hg] <;> and_intros <;> first | with_reducible exact rfl | omega | with_reducible trivial | (intros; simp_all; done) | grind) ?_
        refine RW_ls (by simp only [List.drop_succ_cons, List.drop_zero]; exact rfl) ?_
        refine RW_callN q_laws_toEntry (s_laws_toEntry (xs.getD x zEntry)) true [] [] [] rfl rfl (by simp only [go_sem, eEntry, hg]; exact rfl) (by rfl) (by simp only [go_sem, eEntry, hg]; exact rfl) ?_
        simp only [go_sem, eEntry, hg] <;> and_intros <;> first | with_reducible exact rfl | omega | with_reducible trivial | (intros; simp_all; done) | grind) ?_
      refine bk_n ?_
      refine sq_n ?_
      refine W_regn (by simp only [go_sem, eEntry, hg] <;> and_intros <;> first | with_reducible exact rfl | omega | with_reducible trivial | (intros; simp_all; done) | grind) ?_
      refine lp_next (x+1) [] ?_ ?_ ?_
      · (simp only [go_sem, eEntry, hg] <;> and_intros <;> first | with_reducible exact rfl | (first | omega | (rw [← bld_step eEntry zEntry dEntry (by omega)]; simp only [eEntry])))
      · omega
      · omega
    · skip
      try simp only [Bool.not_eq_eq_eq_not, Bool.not_true, Bool.not_false, decide_eq_true_eq, decide_eq_false_iff_not, Bool.and_eq_true, Bool.or_eq_true] at c0
      obtain rfl : x = xs.length := by omega
      refine CW_exit ?_
      refine sq_e ?_
      refine lp_e ?_
      refine bk_i ?_
      refine sq_n ?_
      refine W_reg (by simp only [go_sem, eEntry]; exact rfl) ?_
      refine CW_ret ?_
      simp only [go_sem, eEntry]
end Go.H
end
section
set_option maxRecDepth 100000
set_option linter.unusedVariables false
set_option linter.unusedSimpArgs false
namespace Go.H
open Go Go.Proofs.Tryz
def c_laws_toInt64S : SC :=
.seq (rg [
  ss 2 (.mv (.nl))] [0])
  (.seq (rg [
  ss 5 (.mv (.t 0)),
  sk 6 28672 (.len (.t 5)),
  sd (some 7) 0 32768 dI_i64 (.mks (.t 6) (.t 6) [.int .i64 0] 8),
  ss 3 (.mv (.t 7))] [0, 3])
  (.seq (.seq (rg [
  ss 4 (.mv (.i .i64 0))] [0, 3, 4])
  (.block 0 (.loop (.seq (.seq (rg [
  ss 8 (.mv (.t 4)),
  ss 9 (.mv (.t 0)),
  sk 10 45056 (.len (.t 9)),
  ss 11 (.bin .lss (.t 8) (.t 10))] [0, 3, 4, 11])
  (.cond (.t 11) (.skip)
  (.exit 0)))
  (.seq (.block 1 (rg [
  ss 14 (.mv (.t 3)),
  ss 15 (.mv (.t 4)),
  ss 16 (.mv (.t 0)),
  ss 17 (.mv (.t 4)),
  sd (some 18) 0 0 dI_i64 (.idx (.t 16) (.t 17) 1),
  sd (some 19) 0 0 dI_i64 (.load (.t 18) 1 false),
  sd (some 20) 0 0 dI_i64 (.idx (.t 14) (.t 15) 1),
  sd none 0 0 dI_i64 (.store (.t 20) (.t 19) 1)] [0, 3, 4]))
  (rg [
  ss 12 (.mv (.t 4)),
  sh 13 1 (.bin .add (.t 12) (.i .i64 1)),
  ss 4 (.mv (.t 13))] [0, 3, 4]))))))
  (.seq (rg [
  ss 21 (.mv (.t 3)),
  ss 2 (.mv (.t 21))] [2])
  (.ret))))
theorem b_laws_toInt64S : ∃ c, f79.body = some c ∧ compC prog 22 c = some c_laws_toInt64S.er ∧ drawB c c_laws_toInt64S = true := ⟨_, rfl, by kernel_rfl, by kernel_rfl⟩
theorem r_laws_toInt64S : cmpR prog [.tmp 2] = some [.t 2] := by kernel_rfl
theorem q_laws_toInt64S : callB prog F.laws_toInt64S = true := by kernel_rfl
variable [Inv prog]
theorem s_laws_toInt64S (xs : List Int) (hl : xs.length ≤ 2097152)  : SemX prog F.laws_toInt64S [aT (.sl false 1 (xs.map eI_i64))] [] [.one (.sl true 1 (xs.map eI_i64))] [] := by
  obtain ⟨cc, g1, g2, g3⟩ := b_laws_toInt64S
  refine SemX.of_code func79 g1 (by rw [ntmps79]; exact g2) g3 (by rw [results79]; exact r_laws_toInt64S) (by rw [ntmps79]; exact Nat.le_of_ble_eq_true rfl) (Nat.le_of_ble_eq_true rfl) (by simp) (by simp [argOk, aT, aI, aS, eI_i64]) ?_
  unfold c_laws_toInt64S
  simp only [rg]
  refine W_reg (by simp only [go_sem, eI_i64]; exact rfl) ?_
  refine W_reg (by simp only [go_sem, eI_i64] <;> and_intros <;> first | with_reducible exact rfl | omega | with_reducible trivial | (intros; simp_all; done) | grind) ?_
  refine CW_assoc ?_
  refine W_reg (by simp only [go_sem, eI_i64]; exact rfl) ?_
  refine CW_seq ?_
  refine CW_block ?_
  refine CW_loopS (α := Nat) (fun x => [(4, .int .i64 x)]) (fun x => [(32768, .arr ⟨1, (xs.take x).map eI_i64 ++ List.replicate (xs.length - x) dI_i64, x + 1, none⟩)]) (fun x => xs.length - x) (fun x => x ≤ xs.length) 0 [] ?_ ?_ ?_
  · (simp only [go_sem, eI_i64] <;> and_intros <;> first | with_reducible exact rfl | (first | omega | (simp [dI_i64, eI_i64, zI_i64, zCmd, zEntry]; done)))
  · first | exact Nat.zero_le _ | (simp; done) | omega
  · rintro x hI
    refine CW_eq (by simp only [go_sem, eI_i64]; exact rfl) ?_
    refine CW_assoc ?_
    refine W_reg (by simp only [go_sem, eI_i64]; exact rfl) ?_
    refine CW_seq ?_
    refine CW_cond (by simp only [go_sem, eI_i64]; exact rfl) (fun c0 => ?_) (fun c0 => ?_)
    · skip
      try simp only [Bool.not_eq_eq_eq_not, Bool.not_true, Bool.not_false, decide_eq_true_eq, decide_eq_false_iff_not, Bool.and_eq_true, Bool.or_eq_true] at c0
      have hg := getD_bld (l := (xs.take x).map eI_i64) (n := xs.length - x) (d := dI_i64) (i := x) (by simp; omega)
      refine CW_skip ?_
      refine sq_n ?_
      refine CW_seq ?_
      refine CW_block ?_
      refine W_regn (by simp only [go_sem, eI_i64, hg] <;> and_intros <;> first | with_reducible exact rfl | omega | with_reducible trivial | (intros; simp_all; done) | grind) ?_
      refine bk_n ?_
      refine sq_n ?_
      refine W_regn (by simp only [go_sem, eI_i64, hg] <;> and_intros <;> first | with_reducible exact rfl | omega | with_reducible trivial | (intros; simp_all; done) | grind) ?_
      refine lp_next (x+1) [] ?_ ?_ ?_
      · (simp only [go_sem, eI_i64, hg] <;> and_intros <;> first | with_reducible exact rfl | (first | omega | (rw [← bld_step eI_i64 zI_i64 dI_i64 (by omega)]; simp only [eI_i64])))
      · omega
      · omega
    · skip
      try simp only [Bool.not_eq_eq_eq_not, Bool.not_true, Bool.not_false, decide_eq_true_eq, decide_eq_false_iff_not, Bool.and_eq_true, Bool.or_eq_true] at c0
      obtain rfl : x = xs.length := by omega
      refine CW_exit ?_
      refine sq_e ?_
      refine lp_e ?_
      refine bk_i ?_
      refine sq_n ?_
      refine W_reg (by simp only [go_sem, eI_i64]; exact rfl) ?_
      refine CW_ret ?_
      simp only [go_sem, eI_i64]
end Go.H
end
section
set_option maxRecDepth 100000
set_option linter.unusedVariables false
set_option linter.unusedSimpArgs false
namespace Go.H
open Go Go.Proofs.Tryz
def c_laws_toNode : SC :=
.seq (rg [
  sk 1 8192 (.box (.t 0)),
  sk 2 12288 (.alloc [.int .i64 0, .int .i64 0, .int .i64 0, .int .i64 0, .nil, .int .i64 0, .int .i64 0, .nil, .nil, .nil])] [1, 2])
  (.seq (rg [
  sk 3 16384 (.alloc [.int .i64 0, .int .i64 0, .int .i64 0, .int .i64 0, .nil, .int .i64 0, .int .i64 0, .nil, .nil, .nil])] [1, 2, 3])
  (.seq (rg [
  ss 4 (.fad (.t 1) 0),
  ss 5 (.load (.t 4) 1 false),
  ss 6 (.fad (.t 3) 0),
  sx (.store (.t 6) (.t 5) 1)] [1, 2, 3])
  (.seq (rg [
  ss 7 (.fad (.t 1) 1),
  ss 8 (.load (.t 7) 1 false),
  ss 9 (.fad (.t 3) 1),
  sx (.store (.t 9) (.t 8) 1)] [1, 2, 3])
  (.seq (rg [
  ss 10 (.fad (.t 1) 2),
  ss 11 (.load (.t 10) 1 false),
  ss 12 (.fad (.t 3) 2),
  sx (.store (.t 12) (.t 11) 1)] [1, 2, 3])
  (.seq (rg [
  ss 13 (.fad (.t 1) 3),
  ss 14 (.load (.t 13) 1 false),
  ss 15 (.fad (.t 3) 3),
  sx (.store (.t 15) (.t 14) 1)] [1, 2, 3])
  (.seq (rg [
  ss 16 (.fad (.t 1) 4),
  ss 17 (.load (.t 16) 1 false),
  sk 18 77824 (.call (.f F.laws_toEntryS) [(.t 17, none)]),
  ss 19 (.fad (.t 3) 4),
  sx (.store (.t 19) (.t 18) 1)] [1, 2, 3])
  (.seq (rg [
  ss 20 (.fad (.t 1) 5),
  ss 21 (.load (.t 20) 1 false),
  ss 22 (.fad (.t 3) 5),
  sx (.store (.t 22) (.t 21) 1)] [1, 2, 3])
  (.seq (rg [
  ss 23 (.fad (.t 1) 6),
  ss 24 (.load (.t 23) 1 false),
  ss 25 (.fad (.t 3) 6),
  sx (.store (.t 25) (.t 24) 1)] [1, 2, 3])
  (.seq (rg [
  ss 26 (.fad (.t 1) 7),
  ss 27 (.load (.t 26) 1 false),
  sk 28 118784 (.call (.f F.laws_toInt64S) [(.t 27, none)]),
  ss 29 (.fad (.t 3) 7),
  sx (.store (.t 29) (.t 28) 1)] [1, 2, 3])
  (.seq (rg [
  ss 30 (.fad (.t 1) 8),
  ss 31 (.load (.t 30) 1 false),
  sk 32 135168 (.call (.f F.laws_toInt64S) [(.t 31, none)]),
  ss 33 (.fad (.t 3) 8),
  sx (.store (.t 33) (.t 32) 1)] [1, 2, 3])
  (.seq (rg [
  ss 34 (.fad (.t 1) 9),
  ss 35 (.load (.t 34) 1 false),
  sk 36 151552 (.call (.f F.laws_toInt64S) [(.t 35, none)]),
  ss 37 (.fad (.t 3) 9),
  sx (.store (.t 37) (.t 36) 1)] [2, 3])
  (.seq (rg [
  ss 38 (.load (.t 3) 10 true),
  sx (.store (.t 2) (.t 38) 10)] [2])
  (.ret)))))))))))))
theorem b_laws_toNode : ∃ c, f25.body = some c ∧ compC prog 39 c = some c_laws_toNode.er ∧ drawB c c_laws_toNode = true := ⟨_, rfl, by kernel_rfl, by kernel_rfl⟩
theorem r_laws_toNode : cmpR prog [.cell 2 54] = some [.c 2 10 true] := by kernel_rfl
theorem q_laws_toNode : callB prog F.laws_toNode = true := by kernel_rfl
variable [Inv prog]
theorem s_laws_toNode (x : Node) (hx : limN 2097152 x) : SemX prog F.laws_toNode [aS (eNode false x)] [] [.agg (eNode true x)] [] := by
  obtain ⟨cc, g1, g2, g3⟩ := b_laws_toNode
  refine SemX.of_code func25 g1 (by rw [ntmps25]; exact g2) g3 (by rw [results25]; exact r_laws_toNode) (by rw [ntmps25]; exact Nat.le_of_ble_eq_true rfl) (Nat.le_of_ble_eq_true rfl) (by simp) (by simp [argOk, aT, aI, aS, eNode]) ?_
  unfold c_laws_toNode
  simp only [rg]
  refine W_reg (by simp only [go_sem, eNode]; exact rfl) ?_
  refine W_reg (by simp only [go_sem, eNode]; exact rfl) ?_
  refine W_reg (by simp only [go_sem, eNode]; exact rfl) ?_
  refine W_reg (by simp only [go_sem, eNode]; exact rfl) ?_
  refine W_reg (by simp only [go_sem, eNode]; exact rfl) ?_
  refine W_reg (by simp only [go_sem, eNode]; exact rfl) ?_
  refine W_reg (by
    refine RW_cut 2 (by simp only [go_sem, eNode]; exact rfl) ?_
    refine RW_ls (by simp only [List.drop_succ_cons, List.drop_zero]; exact rfl) ?_
    refine RW_callN q_laws_toEntryS (s_laws_toEntryS x.log hx.1) true [] [] [] rfl rfl (by simp only [go_sem, eNode]; exact rfl) (by rfl) (by simp only [go_sem, eNode]; exact rfl) ?_
    simp only [go_sem, eNode]; exact rfl) ?_
  refine W_reg (by simp only [go_sem, eNode]; exact rfl) ?_
  refine W_reg (by simp only [go_sem, eNode]; exact rfl) ?_
  refine W_reg (by
    refine RW_cut 2 (by simp only [go_sem, eNode]; exact rfl) ?_
    refine RW_ls (by simp only [List.drop_succ_cons, List.drop_zero]; exact rfl) ?_
    refine RW_callN q_laws_toInt64S (s_laws_toInt64S x.votes hx.2.1) true [] [] [] rfl rfl (by simp only [go_sem, eNode]; exact rfl) (by rfl) (by simp only [go_sem, eNode]; exact rfl) ?_
    simp only [go_sem, eNode]; exact rfl) ?_
  refine W_reg (by
    refine RW_cut 2 (by simp only [go_sem, eNode]; exact rfl) ?_
    refine RW_ls (by simp only [List.drop_succ_cons, List.drop_zero]; exact rfl) ?_
    refine RW_callN q_laws_toInt64S (s_laws_toInt64S x.next hx.2.2.1) true [] [] [] rfl rfl (by simp only [go_sem, eNode]; exact rfl) (by rfl) (by simp only [go_sem, eNode]; exact rfl) ?_
    simp only [go_sem, eNode]; exact rfl) ?_
  refine W_reg (by
    refine RW_cut 2 (by simp only [go_sem, eNode]; exact rfl) ?_
    refine RW_ls (by simp only [List.drop_succ_cons, List.drop_zero]; exact rfl) ?_
    refine RW_callN q_laws_toInt64S (s_laws_toInt64S x.match_ hx.2.2.2) true [] [] [] rfl rfl (by simp only [go_sem, eNode]; exact rfl) (by rfl) (by simp only [go_sem, eNode]; exact rfl) ?_
    simp only [go_sem, eNode]; exact rfl) ?_
  refine W_reg (by simp only [go_sem, eNode]; exact rfl) ?_
  refine CW_ret ?_
  simp only [go_sem, eNode]
end Go.H
end
section
set_option maxRecDepth 100000
set_option linter.unusedVariables false
set_option linter.unusedSimpArgs false
namespace Go.H
open Go Go.Proofs.Tryz
def c_laws_toNodeS : SC :=
.seq (rg [
  ss 2 (.mv (.nl))] [0])
  (.seq (rg [
  ss 5 (.mv (.t 0)),
  sk 6 28672 (.len (.t 5)),
  sd (some 7) 0 32768 (dNode true) (.mks (.t 6) (.t 6) [.int .i64 0, .int .i64 0, .int .i64 0, .int .i64 0, .nil, .int .i64 0, .int .i64 0, .nil, .nil, .nil] 144),
  ss 3 (.mv (.t 7))] [0, 3])
  (.seq (.seq (rg [
  ss 4 (.mv (.i .i64 0))] [0, 3, 4])
  (.block 0 (.loop (.seq (.seq (rg [
  ss 8 (.mv (.t 4)),
  ss 9 (.mv (.t 0)),
  sk 10 45056 (.len (.t 9)),
  ss 11 (.bin .lss (.t 8) (.t 10))] [0, 3, 4, 11])
  (.cond (.t 11) (.skip)
  (.exit 0)))
  (.seq (.block 1 (rg [
  ss 14 (.mv (.t 3)),
  ss 15 (.mv (.t 4)),
  ss 16 (.mv (.t 0)),
  ss 17 (.mv (.t 4)),
  sd (some 18) 0 0 (dNode false) (.idx (.t 16) (.t 17) 10),
  sd (some 19) 0 0 (dNode true) (.load (.t 18) 10 true),
  sk 20 86016 (.call (.f F.laws_toNode) [(.t 19, none)]),
  sd (some 21) 0 0 (dNode false) (.idx (.t 14) (.t 15) 10),
  sd none 0 0 (dNode true) (.store (.t 21) (.t 20) 10)] [0, 3, 4]))
  (rg [
  ss 12 (.mv (.t 4)),
  sh 13 1 (.bin .add (.t 12) (.i .i64 1)),
  ss 4 (.mv (.t 13))] [0, 3, 4]))))))
  (.seq (rg [
  ss 22 (.mv (.t 3)),
  ss 2 (.mv (.t 22))] [2])
  (.ret))))
theorem b_laws_toNodeS : ∃ c, f54.body = some c ∧ compC prog 23 c = some c_laws_toNodeS.er ∧ drawB c c_laws_toNodeS = true := ⟨_, rfl, by kernel_rfl, by kernel_rfl⟩
theorem r_laws_toNodeS : cmpR prog [.tmp 2] = some [.t 2] := by kernel_rfl
theorem q_laws_toNodeS : callB prog F.laws_toNodeS = true := by kernel_rfl
variable [Inv prog]
theorem s_laws_toNodeS (xs : List Node) (hl : xs.length ≤ 2097152) (hm : ∀ y ∈ xs, limN 2097152 y) : SemX prog F.laws_toNodeS [aT (.sl false 10 (xs.map (eNode false)))] [] [.one (.sl true 10 (xs.map (eNode true)))] [] := by
  obtain ⟨cc, g1, g2, g3⟩ := b_laws_toNodeS
  refine SemX.of_code func54 g1 (by rw [ntmps54]; exact g2) g3 (by rw [results54]; exact r_laws_toNodeS) (by rw [ntmps54]; exact Nat.le_of_ble_eq_true rfl) (Nat.le_of_ble_eq_true rfl) (by simp) (by simp [argOk, aT, aI, aS, eNode]) ?_
  unfold c_laws_toNodeS
  simp only [rg]
  refine W_reg (by simp only [go_sem, eNode]; exact rfl) ?_
  refine W_reg (by simp only [go_sem, eNode] <;> and_intros <;> first | with_reducible exact rfl | omega | with_reducible trivial | (intros; simp_all; done) | grind) ?_
  refine CW_assoc ?_
  refine W_reg (by simp only [go_sem, eNode]; exact rfl) ?_
  refine CW_seq ?_
  refine CW_block ?_
  refine CW_loopS (α := Nat) (fun x => [(4, .int .i64 x)]) (fun x => [(32768, .arr ⟨10, (xs.take x).map (eNode true) ++ List.replicate (xs.length - x) (dNode true), x + 1, none⟩)]) (fun x => xs.length - x) (fun x => x ≤ xs.length) 0 [] ?_ ?_ ?_
  · (simp only [go_sem, eNode] <;> and_intros <;> first | with_reducible exact rfl | (first | omega | (simp [dNode, eNode, zNode, zCmd, zEntry]; done)))
  · first | exact Nat.zero_le _ | (simp; done) | omega
  · rintro x hI
    refine CW_eq (by simp only [go_sem, eNode]; exact rfl) ?_
    refine CW_assoc ?_
    refine W_reg (by simp only [go_sem, eNode]; exact rfl) ?_
    refine CW_seq ?_
    refine CW_cond (by simp only [go_sem, eNode]; exact rfl) (fun c0 => ?_) (fun c0 => ?_)
    · skip
      try simp only [Bool.not_eq_eq_eq_not, Bool.not_true, Bool.not_false, decide_eq_true_eq, decide_eq_false_iff_not, Bool.and_eq_true, Bool.or_eq_true] at c0
      have hg := getD_bld (l := (xs.take x).map (eNode true)) (n := xs.length - x) (d := (dNode true)) (i := x) (by simp; omega)
      refine CW_skip ?_
      refine sq_n ?_
      refine CW_seq ?_
      refine CW_block ?_
      refine W_regn (by
        refine RW_cut 6 (by simp only [go_sem, eNode, hg] <;> and_intros <;> first | with_reducible exact rfl | omega | with_reducible trivial | (intros; simp_all; done) | grind) ?_
        refine RW_ls (by simp only [List.drop_succ_cons, List.drop_zero]; exact rfl) ?_
        refine RW_callN q_laws_toNode (s_laws_toNode (xs.getD x zNode) ((all_getD zNode).2 hm x (by omega))) true [] [] [] rfl rfl (by simp only [go_sem, eNode, hg]; exact rfl) (by rfl) (by simp only [go_sem, eNode, hg]; exact rfl) ?_
        simp only [go_sem, eNode, hg] <;> and_intros <;> first | with_reducible exact rfl | omega | with_reducible trivial | (intros; simp_all; done) | grind) ?_
      refine bk_n ?_
      refine sq_n ?_
      refine W_regn (by simp only [go_sem, eNode, hg] <;> and_intros <;> first | with_reducible exact rfl | omega | with_reducible trivial | (intros; simp_all; done) | grind) ?_
      refine lp_next (x+1) [] ?_ ?_ ?_
      · (simp only [go_sem, eNode, hg] <;> and_intros <;> first | with_reducible exact rfl | (first | omega | (rw [← bld_step (eNode true) zNode (dNode true) (by omega)]; simp only [eNode])))
      · omega
      · omega
    · skip
      try simp only [Bool.not_eq_eq_eq_not, Bool.not_true, Bool.not_false, decide_eq_true_eq, decide_eq_false_iff_not, Bool.and_eq_true, Bool.or_eq_true] at c0
      obtain rfl : x = xs.length := by omega
      refine CW_exit ?_
      refine sq_e ?_
      refine lp_e ?_
      refine bk_i ?_
      refine sq_n ?_
      refine W_reg (by simp only [go_sem, eNode]; exact rfl) ?_
      refine CW_ret ?_
      simp only [go_sem, eNode]
end Go.H
end
section
set_option maxRecDepth 100000
set_option linter.unusedVariables false
set_option linter.unusedSimpArgs false
namespace Go.H
open Go Go.Proofs.Tryz
def c_laws_toMail : SC :=
.seq (rg [
  sk 1 8192 (.box (.t 0)),
  sk 2 12288 (.alloc [.int .i64 0, .int .i64 0, .int .i64 0, .int .i64 0, .int .i64 0, .int .i64 0, .int .i64 0, .bool false, .nil])] [1, 2])
  (.seq (rg [
  sk 3 16384 (.alloc [.int .i64 0, .int .i64 0, .int .i64 0, .int .i64 0, .int .i64 0, .int .i64 0, .int .i64 0, .bool false, .nil])] [1, 2, 3])
  (.seq (rg [
  ss 4 (.fad (.t 1) 0),
  ss 5 (.load (.t 4) 1 false),
  ss 6 (.fad (.t 3) 0),
  sx (.store (.t 6) (.t 5) 1)] [1, 2, 3])
  (.seq (rg [
  ss 7 (.fad (.t 1) 1),
  ss 8 (.load (.t 7) 1 false),
  ss 9 (.fad (.t 3) 1),
  sx (.store (.t 9) (.t 8) 1)] [1, 2, 3])
  (.seq (rg [
  ss 10 (.fad (.t 1) 2),
  ss 11 (.load (.t 10) 1 false),
  ss 12 (.fad (.t 3) 2),
  sx (.store (.t 12) (.t 11) 1)] [1, 2, 3])
  (.seq (rg [
  ss 13 (.fad (.t 1) 3),
  ss 14 (.load (.t 13) 1 false),
  ss 15 (.fad (.t 3) 3),
  sx (.store (.t 15) (.t 14) 1)] [1, 2, 3])
  (.seq (rg [
  ss 16 (.fad (.t 1) 4),
  ss 17 (.load (.t 16) 1 false),
  ss 18 (.fad (.t 3) 4),
  sx (.store (.t 18) (.t 17) 1)] [1, 2, 3])
  (.seq (rg [
  ss 19 (.fad (.t 1) 5),
  ss 20 (.load (.t 19) 1 false),
  ss 21 (.fad (.t 3) 5),
  sx (.store (.t 21) (.t 20) 1)] [1, 2, 3])
  (.seq (rg [
  ss 22 (.fad (.t 1) 6),
  ss 23 (.load (.t 22) 1 false),
  ss 24 (.fad (.t 3) 6),
  sx (.store (.t 24) (.t 23) 1)] [1, 2, 3])
  (.seq (rg [
  ss 25 (.fad (.t 1) 7),
  ss 26 (.load (.t 25) 1 false),
  ss 27 (.fad (.t 3) 7),
  sx (.store (.t 27) (.t 26) 1)] [1, 2, 3])
  (.seq (rg [
  ss 28 (.fad (.t 1) 8),
  ss 29 (.load (.t 28) 1 false),
  sk 30 126976 (.call (.f F.laws_toEntryS) [(.t 29, none)]),
  ss 31 (.fad (.t 3) 8),
  sx (.store (.t 31) (.t 30) 1)] [2, 3])
  (.seq (rg [
  ss 32 (.load (.t 3) 9 true),
  sx (.store (.t 2) (.t 32) 9)] [2])
  (.ret))))))))))))
theorem b_laws_toMail : ∃ c, f26.body = some c ∧ compC prog 33 c = some c_laws_toMail.er ∧ drawB c c_laws_toMail = true := ⟨_, rfl, by kernel_rfl, by kernel_rfl⟩
theorem r_laws_toMail : cmpR prog [.cell 2 60] = some [.c 2 9 true] := by kernel_rfl
theorem q_laws_toMail : callB prog F.laws_toMail = true := by kernel_rfl
variable [Inv prog]
theorem s_laws_toMail (x : Mail) (hx : limM 2097152 x) : SemX prog F.laws_toMail [aS (eMail false x)] [] [.agg (eMail true x)] [] := by
  obtain ⟨cc, g1, g2, g3⟩ := b_laws_toMail
  refine SemX.of_code func26 g1 (by rw [ntmps26]; exact g2) g3 (by rw [results26]; exact r_laws_toMail) (by rw [ntmps26]; exact Nat.le_of_ble_eq_true rfl) (Nat.le_of_ble_eq_true rfl) (by simp) (by simp [argOk, aT, aI, aS, eMail]) ?_
  unfold c_laws_toMail
  simp only [rg]
  refine W_reg (by simp only [go_sem, eMail]; exact rfl) ?_
  refine W_reg (by simp only [go_sem, eMail]; exact rfl) ?_
  refine W_reg (by simp only [go_sem, eMail]; exact rfl) ?_
  refine W_reg (by simp only [go_sem, eMail]; exact rfl) ?_
  refine W_reg (by simp only [go_sem, eMail]; exact rfl) ?_
  refine W_reg (by simp only [go_sem, eMail]; exact rfl) ?_
  refine W_reg (by simp only [go_sem, eMail]; exact rfl) ?_
  refine W_reg (by simp only [go_sem, eMail]; exact rfl) ?_
  refine W_reg (by simp only [go_sem, eMail]; exact rfl) ?_
  refine W_reg (by simp only [go_sem, eMail]; exact rfl) ?_
  refine W_reg (by
    refine RW_cut 2 (by simp only [go_sem, eMail]; exact rfl) ?_
    refine RW_ls (by simp only [List.drop_succ_cons, List.drop_zero]; exact rfl) ?_
    refine RW_callN q_laws_toEntryS (s_laws_toEntryS x.entries hx) true [] [] [] rfl rfl (by simp only [go_sem, eMail]; exact rfl) (by rfl) (by simp only [go_sem, eMail]; exact rfl) ?_
    simp only [go_sem, eMail]; exact rfl) ?_
  refine W_reg (by simp only [go_sem, eMail]; exact rfl) ?_
  refine CW_ret ?_
  simp only [go_sem, eMail]
end Go.H
end
section
set_option maxRecDepth 100000
set_option linter.unusedVariables false
set_option linter.unusedSimpArgs false
namespace Go.H
open Go Go.Proofs.Tryz
def c_laws_toMailS : SC :=
.seq (rg [
  ss 2 (.mv (.nl))] [0])
  (.seq (rg [
  ss 5 (.mv (.t 0)),
  sk 6 28672 (.len (.t 5)),
  sd (some 7) 0 32768 (dMail true) (.mks (.t 6) (.t 6) [.int .i64 0, .int .i64 0, .int .i64 0, .int .i64 0, .int .i64 0, .int .i64 0, .int .i64 0, .bool false, .nil] 88),
  ss 3 (.mv (.t 7))] [0, 3])
  (.seq (.seq (rg [
  ss 4 (.mv (.i .i64 0))] [0, 3, 4])
  (.block 0 (.loop (.seq (.seq (rg [
  ss 8 (.mv (.t 4)),
  ss 9 (.mv (.t 0)),
  sk 10 45056 (.len (.t 9)),
  ss 11 (.bin .lss (.t 8) (.t 10))] [0, 3, 4, 11])
  (.cond (.t 11) (.skip)
  (.exit 0)))
  (.seq (.block 1 (rg [
  ss 14 (.mv (.t 3)),
  ss 15 (.mv (.t 4)),
  ss 16 (.mv (.t 0)),
  ss 17 (.mv (.t 4)),
  sd (some 18) 0 0 (dMail false) (.idx (.t 16) (.t 17) 9),
  sd (some 19) 0 0 (dMail true) (.load (.t 18) 9 true),
  sk 20 86016 (.call (.f F.laws_toMail) [(.t 19, none)]),
  sd (some 21) 0 0 (dMail false) (.idx (.t 14) (.t 15) 9),
  sd none 0 0 (dMail true) (.store (.t 21) (.t 20) 9)] [0, 3, 4]))
  (rg [
  ss 12 (.mv (.t 4)),
  sh 13 1 (.bin .add (.t 12) (.i .i64 1)),
  ss 4 (.mv (.t 13))] [0, 3, 4]))))))
  (.seq (rg [
  ss 22 (.mv (.t 3)),
  ss 2 (.mv (.t 22))] [2])
  (.ret))))
theorem b_laws_toMailS : ∃ c, f55.body = some c ∧ compC prog 23 c = some c_laws_toMailS.er ∧ drawB c c_laws_toMailS = true := ⟨_, rfl, by kernel_rfl, by kernel_rfl⟩
theorem r_laws_toMailS : cmpR prog [.tmp 2] = some [.t 2] := by kernel_rfl
theorem q_laws_toMailS : callB prog F.laws_toMailS = true := by kernel_rfl
variable [Inv prog]
theorem s_laws_toMailS (xs : List Mail) (hl : xs.length ≤ 2097152) (hm : ∀ y ∈ xs, limM 2097152 y) : SemX prog F.laws_toMailS [aT (.sl false 9 (xs.map (eMail false)))] [] [.one (.sl true 9 (xs.map (eMail true)))] [] := by
  obtain ⟨cc, g1, g2, g3⟩ := b_laws_toMailS
  refine SemX.of_code func55 g1 (by rw [ntmps55]; exact g2) g3 (by rw [results55]; exact r_laws_toMailS) (by rw [ntmps55]; exact Nat.le_of_ble_eq_true rfl) (Nat.le_of_ble_eq_true rfl) (by simp) (by simp [argOk, aT, aI, aS, eMail]) ?_
  unfold c_laws_toMailS
  simp only [rg]
  refine W_reg (by simp only [go_sem, eMail]; exact rfl) ?_
  refine W_reg (by simp only [go_sem, eMail] <;> and_intros <;> first | with_reducible exact rfl | omega | with_reducible trivial | (intros; simp_all; done) | grind) ?_
  refine CW_assoc ?_
  refine W_reg (by simp only [go_sem, eMail]; exact rfl) ?_
  refine CW_seq ?_
  refine CW_block ?_
  refine CW_loopS (α := Nat) (fun x => [(4, .int .i64 x)]) (fun x => [(32768, .arr ⟨9, (xs.take x).map (eMail true) ++ List.replicate (xs.length - x) (dMail true), x + 1, none⟩)]) (fun x => xs.length - x) (fun x => x ≤ xs.length) 0 [] ?_ ?_ ?_
  · (simp only [go_sem, eMail] <;> and_intros <;> first | with_reducible exact rfl | (first | omega | (simp [dMail, eMail, zMail, zCmd, zEntry]; done)))
  · first | exact Nat.zero_le _ | (simp; done) | omega
  · rintro x hI
    refine CW_eq (by simp only [go_sem, eMail]; exact rfl) ?_
    refine CW_assoc ?_
    refine W_reg (by simp only [go_sem, eMail]; exact rfl) ?_
    refine CW_seq ?_
    refine CW_cond (by simp only [go_sem, eMail]; exact rfl) (fun c0 => ?_) (fun c0 => ?_)
    · skip
      try simp only [Bool.not_eq_eq_eq_not, Bool.not_true, Bool.not_false, decide_eq_true_eq, decide_eq_false_iff_not, Bool.and_eq_true, Bool.or_eq_true] at c0
      have hg := getD_bld (l := (xs.take x).map (eMail true)) (n := xs.length - x) (d := (dMail true)) (i := x) (by simp; omega)
      refine CW_skip ?_
      refine sq_n ?_
      refine CW_seq ?_
      refine CW_block ?_
      refine W_regn (by
        refine RW_cut 6 (by simp only [go_sem, eMail, hg] <;> and_intros <;> first | with_reducible exact rfl | omega | with_reducible trivial | (intros; simp_all; done) | grind) ?_
        refine RW_ls (by simp only [List.drop_succ_cons, List.drop_zero]; exact rfl) ?_
        refine RW_callN q_laws_toMail (s_laws_toMail (xs.getD x zMail) ((all_getD zMail).2 hm x (by omega))) true [] [] [] rfl rfl (by simp only [go_sem, eMail, hg]; exact rfl) (by rfl) (by simp only [go_sem, eMail, hg]; exact rfl) ?_
        simp only [go_sem, eMail, hg] <;> and_intros <;> first | with_reducible exact rfl | omega | with_reducible trivial | (intros; simp_all; done) | grind) ?_
      refine bk_n ?_
      refine sq_n ?_
      refine W_regn (by simp only [go_sem, eMail, hg] <;> and_intros <;> first | with_reducible exact rfl | omega | with_reducible trivial | (intros; simp_all; done) | grind) ?_
      refine lp_next (x+1) [] ?_ ?_ ?_
      · (simp only [go_sem, eMail, hg] <;> and_intros <;> first | with_reducible exact rfl | (first | omega | (rw [← bld_step (eMail true) zMail (dMail true) (by omega)]; simp only [eMail])))
      · omega
      · omega
    · skip
      try simp only [Bool.not_eq_eq_eq_not, Bool.not_true, Bool.not_false, decide_eq_true_eq, decide_eq_false_iff_not, Bool.and_eq_true, Bool.or_eq_true] at c0
      obtain rfl : x = xs.length := by omega
      refine CW_exit ?_
      refine sq_e ?_
      refine lp_e ?_
      refine bk_i ?_
      refine sq_n ?_
      refine W_reg (by simp only [go_sem, eMail]; exact rfl) ?_
      refine CW_ret ?_
      simp only [go_sem, eMail]
end Go.H
end
section
set_option maxRecDepth 100000
set_option linter.unusedVariables false
set_option linter.unusedSimpArgs false
namespace Go.H
open Go Go.Proofs.Tryz
def c_laws_toWon : SC :=
.seq (rg [
  sk 1 8192 (.box (.t 0)),
  sk 2 12288 (.alloc [.int .i64 0, .int .i64 0])] [1, 2])
  (.seq (rg [
  sk 3 16384 (.alloc [.int .i64 0, .int .i64 0])] [1, 2, 3])
  (.seq (rg [
  ss 4 (.fad (.t 1) 0),
  ss 5 (.load (.t 4) 1 false),
  ss 6 (.fad (.t 3) 0),
  sx (.store (.t 6) (.t 5) 1)] [1, 2, 3])
  (.seq (rg [
  ss 7 (.fad (.t 1) 1),
  ss 8 (.load (.t 7) 1 false),
  ss 9 (.fad (.t 3) 1),
  sx (.store (.t 9) (.t 8) 1)] [2, 3])
  (.seq (rg [
  ss 10 (.load (.t 3) 2 true),
  sx (.store (.t 2) (.t 10) 2)] [2])
  (.ret)))))
theorem b_laws_toWon : ∃ c, f112.body = some c ∧ compC prog 11 c = some c_laws_toWon.er ∧ drawB c c_laws_toWon = true := ⟨_, rfl, by kernel_rfl, by kernel_rfl⟩
theorem r_laws_toWon : cmpR prog [.cell 2 127] = some [.c 2 2 true] := by kernel_rfl
theorem q_laws_toWon : callB prog F.laws_toWon = true := by kernel_rfl
variable [Inv prog]
theorem s_laws_toWon (x : Won) : SemX prog F.laws_toWon [aS (eWon x)] [] [.agg (eWon x)] [] := by
  obtain ⟨cc, g1, g2, g3⟩ := b_laws_toWon
  refine SemX.of_code func112 g1 (by rw [ntmps112]; exact g2) g3 (by rw [results112]; exact r_laws_toWon) (by rw [ntmps112]; exact Nat.le_of_ble_eq_true rfl) (Nat.le_of_ble_eq_true rfl) (by simp) (by simp [argOk, aT, aI, aS, eWon]) ?_
  unfold c_laws_toWon
  simp only [rg]
  refine W_reg (by simp only [go_sem, eWon]; exact rfl) ?_
  refine W_reg (by simp only [go_sem, eWon]; exact rfl) ?_
  refine W_reg (by simp only [go_sem, eWon]; exact rfl) ?_
  refine W_reg (by simp only [go_sem, eWon]; exact rfl) ?_
  refine W_reg (by simp only [go_sem, eWon]; exact rfl) ?_
  refine CW_ret ?_
  simp only [go_sem, eWon]
end Go.H
end
section
set_option maxRecDepth 100000
set_option linter.unusedVariables false
set_option linter.unusedSimpArgs false
namespace Go.H
open Go Go.Proofs.Tryz
def c_laws_toWonS : SC :=
.seq (rg [
  ss 2 (.mv (.nl))] [0])
  (.seq (rg [
  ss 5 (.mv (.t 0)),
  sk 6 28672 (.len (.t 5)),
  sd (some 7) 0 32768 dWon (.mks (.t 6) (.t 6) [.int .i64 0, .int .i64 0] 16),
  ss 3 (.mv (.t 7))] [0, 3])
  (.seq (.seq (rg [
  ss 4 (.mv (.i .i64 0))] [0, 3, 4])
  (.block 0 (.loop (.seq (.seq (rg [
  ss 8 (.mv (.t 4)),
  ss 9 (.mv (.t 0)),
  sk 10 45056 (.len (.t 9)),
  ss 11 (.bin .lss (.t 8) (.t 10))] [0, 3, 4, 11])
  (.cond (.t 11) (.skip)
  (.exit 0)))
  (.seq (.block 1 (rg [
  ss 14 (.mv (.t 3)),
  ss 15 (.mv (.t 4)),
  ss 16 (.mv (.t 0)),
  ss 17 (.mv (.t 4)),
  sd (some 18) 0 0 dWon (.idx (.t 16) (.t 17) 2),
  sd (some 19) 0 0 dWon (.load (.t 18) 2 true),
  sk 20 86016 (.call (.f F.laws_toWon) [(.t 19, none)]),
  sd (some 21) 0 0 dWon (.idx (.t 14) (.t 15) 2),
  sd none 0 0 dWon (.store (.t 21) (.t 20) 2)] [0, 3, 4]))
  (rg [
  ss 12 (.mv (.t 4)),
  sh 13 1 (.bin .add (.t 12) (.i .i64 1)),
  ss 4 (.mv (.t 13))] [0, 3, 4]))))))
  (.seq (rg [
  ss 22 (.mv (.t 3)),
  ss 2 (.mv (.t 22))] [2])
  (.ret))))
theorem b_laws_toWonS : ∃ c, f56.body = some c ∧ compC prog 23 c = some c_laws_toWonS.er ∧ drawB c c_laws_toWonS = true := ⟨_, rfl, by kernel_rfl, by kernel_rfl⟩
theorem r_laws_toWonS : cmpR prog [.tmp 2] = some [.t 2] := by kernel_rfl
theorem q_laws_toWonS : callB prog F.laws_toWonS = true := by kernel_rfl
variable [Inv prog]
theorem s_laws_toWonS (xs : List Won) (hl : xs.length ≤ 2097152)  : SemX prog F.laws_toWonS [aT (.sl false 2 (xs.map eWon))] [] [.one (.sl true 2 (xs.map eWon))] [] := by
  obtain ⟨cc, g1, g2, g3⟩ := b_laws_toWonS
  refine SemX.of_code func56 g1 (by rw [ntmps56]; exact g2) g3 (by rw [results56]; exact r_laws_toWonS) (by rw [ntmps56]; exact Nat.le_of_ble_eq_true rfl) (Nat.le_of_ble_eq_true rfl) (by simp) (by simp [argOk, aT, aI, aS, eWon]) ?_
  unfold c_laws_toWonS
  simp only [rg]
  refine W_reg (by simp only [go_sem, eWon]; exact rfl) ?_
  refine W_reg (by simp only [go_sem, eWon] <;> and_intros <;> first | with_reducible exact rfl | omega | with_reducible trivial | (intros; simp_all; done) | grind) ?_
  refine CW_assoc ?_
  refine W_reg (by simp only [go_sem, eWon]; exact rfl) ?_
  refine CW_seq ?_
  refine CW_block ?_
  refine CW_loopS (α := Nat) (fun x => [(4, .int .i64 x)]) (fun x => [(32768, .arr ⟨2, (xs.take x).map eWon ++ List.replicate (xs.length - x) dWon, x + 1, none⟩)]) (fun x => xs.length - x) (fun x => x ≤ xs.length) 0 [] ?_ ?_ ?_
  · (simp only [go_sem, eWon] <;> and_intros <;> first | with_reducible exact rfl | (first | omega | (simp [dWon, eWon, zWon, zCmd, zEntry]; done)))
  · first | exact Nat.zero_le _ | (simp; done) | omega
  · rintro x hI
    refine CW_eq (by simp only [go_sem, eWon]; exact rfl) ?_
    refine CW_assoc ?_
    refine W_reg (by simp only [go_sem, eWon]; exact rfl) ?_
    refine CW_seq ?_
    refine CW_cond (by simp only [go_sem, eWon]; exact rfl) (fun c0 => ?_) (fun c0 => ?_)
    · skip
      try simp only [Bool.not_eq_eq_eq_not, Bool.not_true, Bool.not_false, decide_eq_true_eq, decide_eq_false_iff_not, Bool.and_eq_true, Bool.or_eq_true] at c0
      have hg := getD_bld (l := (xs.take x).map eWon) (n := xs.length - x) (d := dWon) (i := x) (by simp; omega)
      refine CW_skip ?_
      refine sq_n ?_
      refine CW_seq ?_
      refine CW_block ?_
      refine W_regn (by
        refine RW_cut 6 (by simp only [go_sem, eWon, hg] <;> and_intros <;> first | with_reducible exact rfl | omega | with_reducible trivial | (intros; simp_all; done) | grind) ?_
        refine RW_ls (by simp only [List.drop_succ_cons, List.drop_zero]; exact rfl) ?_
        refine RW_callN q_laws_toWon (s_laws_toWon (xs.getD x zWon)) true [] [] [] rfl rfl (by simp only [go_sem, eWon, hg]; exact rfl) (by rfl) (by simp only [go_sem, eWon, hg]; exact rfl) ?_
        simp only [go_sem, eWon, hg] <;> and_intros <;> first | with_reducible exact rfl | omega | with_reducible trivial | (intros; simp_all; done) | grind) ?_
      refine bk_n ?_
      refine sq_n ?_
      refine W_regn (by simp only [go_sem, eWon, hg] <;> and_intros <;> first | with_reducible exact rfl | omega | with_reducible trivial | (intros; simp_all; done) | grind) ?_
      refine lp_next (x+1) [] ?_ ?_ ?_
      · (simp only [go_sem, eWon, hg] <;> and_intros <;> first | with_reducible exact rfl | (first | omega | (rw [← bld_step eWon zWon dWon (by omega)]; simp only [eWon])))
      · omega
      · omega
    · skip
      try simp only [Bool.not_eq_eq_eq_not, Bool.not_true, Bool.not_false, decide_eq_true_eq, decide_eq_false_iff_not, Bool.and_eq_true, Bool.or_eq_true] at c0
      obtain rfl : x = xs.length := by omega
      refine CW_exit ?_
      refine sq_e ?_
      refine lp_e ?_
      refine bk_i ?_
      refine sq_n ?_
      refine W_reg (by simp only [go_sem, eWon]; exact rfl) ?_
      refine CW_ret ?_
      simp only [go_sem, eWon]
end Go.H
end
section
set_option maxRecDepth 100000
set_option linter.unusedVariables false
set_option linter.unusedSimpArgs false
namespace Go.H
open Go Go.Proofs.Tryz
def c_laws_toSeal : SC :=
.seq (rg [
  sk 1 8192 (.box (.t 0)),
  sk 2 12288 (.alloc [.int .i64 0, .int .i64 0, .int .i64 0, .int .i64 0, .int .i64 0, .int .i64 0, .int .i64 0, .int .i64 0, .int .i64 0, .int .i64 0])] [1, 2])
  (.seq (rg [
  sk 3 16384 (.alloc [.int .i64 0, .int .i64 0, .int .i64 0, .int .i64 0, .int .i64 0, .int .i64 0, .int .i64 0, .int .i64 0, .int .i64 0, .int .i64 0])] [1, 2, 3])
  (.seq (rg [
  ss 4 (.fad (.t 1) 0),
  ss 5 (.load (.t 4) 1 false),
  ss 6 (.fad (.t 3) 0),
  sx (.store (.t 6) (.t 5) 1)] [1, 2, 3])
  (.seq (rg [
  ss 7 (.fad (.t 1) 1),
  ss 8 (.load (.t 7) 9 true),
  sk 9 40960 (.call (.f F.laws_toEntry) [(.t 8, none)]),
  ss 10 (.fad (.t 3) 1),
  sx (.store (.t 10) (.t 9) 9)] [2, 3])
  (.seq (rg [
  ss 11 (.load (.t 3) 10 true),
  sx (.store (.t 2) (.t 11) 10)] [2])
  (.ret)))))
theorem b_laws_toSeal : ∃ c, f113.body = some c ∧ compC prog 12 c = some c_laws_toSeal.er ∧ drawB c c_laws_toSeal = true := ⟨_, rfl, by kernel_rfl, by kernel_rfl⟩
theorem r_laws_toSeal : cmpR prog [.cell 2 131] = some [.c 2 10 true] := by kernel_rfl
theorem q_laws_toSeal : callB prog F.laws_toSeal = true := by kernel_rfl
variable [Inv prog]
theorem s_laws_toSeal (x : Seal) : SemX prog F.laws_toSeal [aS (eSeal x)] [] [.agg (eSeal x)] [] := by
  obtain ⟨cc, g1, g2, g3⟩ := b_laws_toSeal
  refine SemX.of_code func113 g1 (by rw [ntmps113]; exact g2) g3 (by rw [results113]; exact r_laws_toSeal) (by rw [ntmps113]; exact Nat.le_of_ble_eq_true rfl) (Nat.le_of_ble_eq_true rfl) (by simp) (by simp [argOk, aT, aI, aS, eSeal]) ?_
  unfold c_laws_toSeal
  simp only [rg]
  refine W_reg (by simp only [go_sem, eSeal]; exact rfl) ?_
  refine W_reg (by simp only [go_sem, eSeal]; exact rfl) ?_
  refine W_reg (by simp only [go_sem, eSeal]; exact rfl) ?_
  refine W_reg (by
    refine RW_cut 2 (by simp only [go_sem, eSeal]; exact rfl) ?_
    refine RW_ls (by simp only [List.drop_succ_cons, List.drop_zero]; exact rfl) ?_
    refine RW_callN q_laws_toEntry (s_laws_toEntry x.entry) true [] [] [] rfl rfl (by simp only [go_sem, eSeal, eCmd, eEntry]; exact rfl) (by rfl) (by simp only [go_sem, eSeal]; exact rfl) ?_
    simp only [go_sem, eSeal]; exact rfl) ?_
  refine W_reg (by simp only [go_sem, eSeal]; exact rfl) ?_
  refine CW_ret ?_
  simp only [go_sem, eSeal]
end Go.H
end
section
set_option maxRecDepth 100000
set_option linter.unusedVariables false
set_option linter.unusedSimpArgs false
namespace Go.H
open Go Go.Proofs.Tryz
def c_laws_toSealS : SC :=
.seq (rg [
  ss 2 (.mv (.nl))] [0])
  (.seq (rg [
  ss 5 (.mv (.t 0)),
  sk 6 28672 (.len (.t 5)),
  sd (some 7) 0 32768 dSeal (.mks (.t 6) (.t 6) [.int .i64 0, .int .i64 0, .int .i64 0, .int .i64 0, .int .i64 0, .int .i64 0, .int .i64 0, .int .i64 0, .int .i64 0, .int .i64 0] 80),
  ss 3 (.mv (.t 7))] [0, 3])
  (.seq (.seq (rg [
  ss 4 (.mv (.i .i64 0))] [0, 3, 4])
  (.block 0 (.loop (.seq (.seq (rg [
  ss 8 (.mv (.t 4)),
  ss 9 (.mv (.t 0)),
  sk 10 45056 (.len (.t 9)),
  ss 11 (.bin .lss (.t 8) (.t 10))] [0, 3, 4, 11])
  (.cond (.t 11) (.skip)
  (.exit 0)))
  (.seq (.block 1 (rg [
  ss 14 (.mv (.t 3)),
  ss 15 (.mv (.t 4)),
  ss 16 (.mv (.t 0)),
  ss 17 (.mv (.t 4)),
  sd (some 18) 0 0 dSeal (.idx (.t 16) (.t 17) 10),
  sd (some 19) 0 0 dSeal (.load (.t 18) 10 true),
  sk 20 86016 (.call (.f F.laws_toSeal) [(.t 19, none)]),
  sd (some 21) 0 0 dSeal (.idx (.t 14) (.t 15) 10),
  sd none 0 0 dSeal (.store (.t 21) (.t 20) 10)] [0, 3, 4]))
  (rg [
  ss 12 (.mv (.t 4)),
  sh 13 1 (.bin .add (.t 12) (.i .i64 1)),
  ss 4 (.mv (.t 13))] [0, 3, 4]))))))
  (.seq (rg [
  ss 22 (.mv (.t 3)),
  ss 2 (.mv (.t 22))] [2])
  (.ret))))
theorem b_laws_toSealS : ∃ c, f57.body = some c ∧ compC prog 23 c = some c_laws_toSealS.er ∧ drawB c c_laws_toSealS = true := ⟨_, rfl, by kernel_rfl, by kernel_rfl⟩
theorem r_laws_toSealS : cmpR prog [.tmp 2] = some [.t 2] := by kernel_rfl
theorem q_laws_toSealS : callB prog F.laws_toSealS = true := by kernel_rfl
variable [Inv prog]
theorem s_laws_toSealS (xs : List Seal) (hl : xs.length ≤ 2097152)  : SemX prog F.laws_toSealS [aT (.sl false 10 (xs.map eSeal))] [] [.one (.sl true 10 (xs.map eSeal))] [] := by
  obtain ⟨cc, g1, g2, g3⟩ := b_laws_toSealS
  refine SemX.of_code func57 g1 (by rw [ntmps57]; exact g2) g3 (by rw [results57]; exact r_laws_toSealS) (by rw [ntmps57]; exact Nat.le_of_ble_eq_true rfl) (Nat.le_of_ble_eq_true rfl) (by simp) (by simp [argOk, aT, aI, aS, eSeal]) ?_
  unfold c_laws_toSealS
  simp only [rg]
  refine W_reg (by simp only [go_sem, eSeal]; exact rfl) ?_
  refine W_reg (by simp only [go_sem, eSeal] <;> and_intros <;> first | with_reducible exact rfl | omega | with_reducible trivial | (intros; simp_all; done) | grind) ?_
  refine CW_assoc ?_
  refine W_reg (by simp only [go_sem, eSeal]; exact rfl) ?_
  refine CW_seq ?_
  refine CW_block ?_
  refine CW_loopS (α := Nat) (fun x => [(4, .int .i64 x)]) (fun x => [(32768, .arr ⟨10, (xs.take x).map eSeal ++ List.replicate (xs.length - x) dSeal, x + 1, none⟩)]) (fun x => xs.length - x) (fun x => x ≤ xs.length) 0 [] ?_ ?_ ?_
  · (simp only [go_sem, eSeal] <;> and_intros <;> first | with_reducible exact rfl | (first | omega | (simp [dSeal, eSeal, zSeal, zCmd, zEntry]; done)))
  · first | exact Nat.zero_le _ | (simp; done) | omega
  · rintro x hI
    refine CW_eq (by simp only [go_sem, eSeal]; exact rfl) ?_
    refine CW_assoc ?_
    refine W_reg (by simp only [go_sem, eSeal]; exact rfl) ?_
    refine CW_seq ?_
    refine CW_cond (by simp only [go_sem, eSeal]; exact rfl) (fun c0 => ?_) (fun c0 => ?_)
    · skip
      try simp only [Bool.not_eq_eq_eq_not, Bool.not_true, Bool.not_false, decide_eq_true_eq, decide_eq_false_iff_not, Bool.and_eq_true, Bool.or_eq_true] at c0
      have hg := getD_bld (l := (xs.take x).map eSeal) (n := xs.length - x) (d := dSeal) (i := x) (by simp; omega)
      refine CW_skip ?_
      refine sq_n ?_
      refine CW_seq ?_
      refine CW_block ?_
      refine W_regn (by
        refine RW_cut 6 (by simp only [go_sem, eSeal, hg] <;> and_intros <;> first | with_reducible exact rfl | omega | with_reducible trivial | (intros; simp_all; done) | grind) ?_
        refine RW_ls (by simp only [List.drop_succ_cons, List.drop_zero]; exact rfl) ?_
        refine RW_callN q_laws_toSeal (s_laws_toSeal (xs.getD x zSeal)) true [] [] [] rfl rfl (by simp only [go_sem, eSeal, hg]; exact rfl) (by rfl) (by simp only [go_sem, eSeal, hg]; exact rfl) ?_
        simp only [go_sem, eSeal, hg] <;> and_intros <;> first | with_reducible exact rfl | omega | with_reducible trivial | (intros; simp_all; done) | grind) ?_
      refine bk_n ?_
      refine sq_n ?_
      refine W_regn (by simp only [go_sem, eSeal, hg] <;> and_intros <;> first | with_reducible exact rfl | omega | with_reducible trivial | (intros; simp_all; done) | grind) ?_
      refine lp_next (x+1) [] ?_ ?_ ?_
      · (simp only [go_sem, eSeal, hg] <;> and_intros <;> first | with_reducible exact rfl | (first | omega | (rw [← bld_step eSeal zSeal dSeal (by omega)]; simp only [eSeal])))
      · omega
      · omega
    · skip
      try simp only [Bool.not_eq_eq_eq_not, Bool.not_true, Bool.not_false, decide_eq_true_eq, decide_eq_false_iff_not, Bool.and_eq_true, Bool.or_eq_true] at c0
      obtain rfl : x = xs.length := by omega
      refine CW_exit ?_
      refine sq_e ?_
      refine lp_e ?_
      refine bk_i ?_
      refine sq_n ?_
      refine W_reg (by simp only [go_sem, eSeal]; exact rfl) ?_
      refine CW_ret ?_
      simp only [go_sem, eSeal]
end Go.H
end
section
set_option maxRecDepth 100000
set_option linter.unusedVariables false
set_option linter.unusedSimpArgs false
namespace Go.H
open Go Go.Proofs.Tryz
def c_laws_toCluster : SC :=
.seq (rg [
  sk 1 8192 (.box (.t 0)),
  sk 2 12288 (.alloc [.nil, .nil, .nil, .nil])] [1, 2])
  (.seq (rg [
  sk 3 16384 (.alloc [.nil, .nil, .nil, .nil])] [1, 2, 3])
  (.seq (rg [
  ss 4 (.fad (.t 1) 0),
  ss 5 (.load (.t 4) 1 false),
  sk 6 28672 (.call (.f F.laws_toNodeS) [(.t 5, none)]),
  ss 7 (.fad (.t 3) 0),
  sx (.store (.t 7) (.t 6) 1)] [1, 2, 3])
  (.seq (rg [
  ss 8 (.fad (.t 1) 1),
  ss 9 (.load (.t 8) 1 false),
  sk 10 45056 (.call (.f F.laws_toMailS) [(.t 9, none)]),
  ss 11 (.fad (.t 3) 1),
  sx (.store (.t 11) (.t 10) 1)] [1, 2, 3])
  (.seq (rg [
  ss 12 (.fad (.t 1) 2),
  ss 13 (.load (.t 12) 1 false),
  sk 14 61440 (.call (.f F.laws_toWonS) [(.t 13, none)]),
  ss 15 (.fad (.t 3) 2),
  sx (.store (.t 15) (.t 14) 1)] [1, 2, 3])
  (.seq (rg [
  ss 16 (.fad (.t 1) 3),
  ss 17 (.load (.t 16) 1 false),
  sk 18 77824 (.call (.f F.laws_toSealS) [(.t 17, none)]),
  ss 19 (.fad (.t 3) 3),
  sx (.store (.t 19) (.t 18) 1)] [2, 3])
  (.seq (rg [
  ss 20 (.load (.t 3) 4 true),
  sx (.store (.t 2) (.t 20) 4)] [2])
  (.ret)))))))
theorem b_laws_toCluster : ∃ c, f13.body = some c ∧ compC prog 21 c = some c_laws_toCluster.er ∧ drawB c c_laws_toCluster = true := ⟨_, rfl, by kernel_rfl, by kernel_rfl⟩
theorem r_laws_toCluster : cmpR prog [.cell 2 34] = some [.c 2 4 true] := by kernel_rfl
theorem q_laws_toCluster : callB prog F.laws_toCluster = true := by kernel_rfl
variable [Inv prog]
theorem s_laws_toCluster (x : Cluster) (hx : limC 2097152 x) : SemX prog F.laws_toCluster [aS (eCluster false x)] [] [.agg (eCluster true x)] [] := by
  obtain ⟨cc, g1, g2, g3⟩ := b_laws_toCluster
  refine SemX.of_code func13 g1 (by rw [ntmps13]; exact g2) g3 (by rw [results13]; exact r_laws_toCluster) (by rw [ntmps13]; exact Nat.le_of_ble_eq_true rfl) (Nat.le_of_ble_eq_true rfl) (by simp) (by simp [argOk, aT, aI, aS, eCluster]) ?_
  unfold c_laws_toCluster
  simp only [rg]
  refine W_reg (by simp only [go_sem, eCluster]; exact rfl) ?_
  refine W_reg (by simp only [go_sem, eCluster]; exact rfl) ?_
  refine W_reg (by
    refine RW_cut 2 (by simp only [go_sem, eCluster]; exact rfl) ?_
    refine RW_ls (by simp only [List.drop_succ_cons, List.drop_zero]; exact rfl) ?_
    refine RW_callN q_laws_toNodeS (s_laws_toNodeS x.nodes hx.1.1 hx.1.2) true [] [] [] rfl rfl (by simp only [go_sem, eCluster]; exact rfl) (by rfl) (by simp only [go_sem, eCluster]; exact rfl) ?_
    simp only [go_sem, eCluster]; exact rfl) ?_
  refine W_reg (by
    refine RW_cut 2 (by simp only [go_sem, eCluster]; exact rfl) ?_
    refine RW_ls (by simp only [List.drop_succ_cons, List.drop_zero]; exact rfl) ?_
    refine RW_callN q_laws_toMailS (s_laws_toMailS x.mails hx.2.1.1 hx.2.1.2) true [] [] [] rfl rfl (by simp only [go_sem, eCluster]; exact rfl) (by rfl) (by simp only [go_sem, eCluster]; exact rfl) ?_
    simp only [go_sem, eCluster]; exact rfl) ?_
  refine W_reg (by
    refine RW_cut 2 (by simp only [go_sem, eCluster]; exact rfl) ?_
    refine RW_ls (by simp only [List.drop_succ_cons, List.drop_zero]; exact rfl) ?_
    refine RW_callN q_laws_toWonS (s_laws_toWonS x.wins hx.2.2.1) true [] [] [] rfl rfl (by simp only [go_sem, eCluster]; exact rfl) (by rfl) (by simp only [go_sem, eCluster]; exact rfl) ?_
    simp only [go_sem, eCluster]; exact rfl) ?_
  refine W_reg (by
    refine RW_cut 2 (by simp only [go_sem, eCluster]; exact rfl) ?_
    refine RW_ls (by simp only [List.drop_succ_cons, List.drop_zero]; exact rfl) ?_
    refine RW_callN q_laws_toSealS (s_laws_toSealS x.seals hx.2.2.2) true [] [] [] rfl rfl (by simp only [go_sem, eCluster]; exact rfl) (by rfl) (by simp only [go_sem, eCluster]; exact rfl) ?_
    simp only [go_sem, eCluster]; exact rfl) ?_
  refine W_reg (by simp only [go_sem, eCluster]; exact rfl) ?_
  refine CW_ret ?_
  simp only [go_sem, eCluster]
end Go.H
end
section
set_option maxRecDepth 100000
set_option linter.unusedVariables false
set_option linter.unusedSimpArgs false
namespace Go.H
open Go Go.Proofs.Tryz
def c_impl_in : SC :=
.seq (rg [
  ss 6 (.mv (.b false))] [0, 1, 2])
  (.seq (rg [
  ss 7 (.mv (.t 0)),
  ss 8 (.mv (.t 1)),
  ss 9 (.bin .geq (.t 7) (.t 8)),
  ss 10 (.mv (.t 9)),
  sg 11 (.mv (.t 0)) 10 true [],
  sg 12 (.mv (.t 2)) 10 true [],
  sg 13 (.bin .leq (.t 11) (.t 12)) 10 true [11, 12],
  ss 14 (.pick (.t 10) (.t 13) (.b false)),
  ss 6 (.mv (.t 14))] [6])
  (.ret))
theorem b_impl_in : ∃ c, f115.body = some c ∧ compC prog 15 c = some c_impl_in.er ∧ drawB c c_impl_in = true := ⟨_, rfl, by kernel_rfl, by kernel_rfl⟩
theorem r_impl_in : cmpR prog [.tmp 6] = some [.t 6] := by kernel_rfl
theorem q_impl_in : callB prog F.impl_in = true := by kernel_rfl
variable [Inv prog]
theorem s_impl_in (a b c : Int) : SemX prog F.impl_in [.one (.t (.int .i64 a)), .one (.t (.int .i64 b)), .one (.t (.int .i64 c))] [] [.one (.bool (inR a b c))] [] := by
  obtain ⟨cc, g1, g2, g3⟩ := b_impl_in
  refine SemX.of_code func115 g1 (by rw [ntmps115]; exact g2) g3 (by rw [results115]; exact r_impl_in) (by rw [ntmps115]; exact Nat.le_of_ble_eq_true rfl) (Nat.le_of_ble_eq_true rfl) (by simp) (by simp [argOk, aT, aI, aS]) ?_
  unfold c_impl_in
  simp only [rg]
  refine W_reg (by simp only [go_sem]; exact rfl) ?_
  refine W_reg (by simp only [go_sem]; exact rfl) ?_
  refine CW_ret ?_
  simp only [go_sem, inR]
  all_goals try first | refine int_res ?_ | refine bool_res ?_
  all_goals
    exact rfl
end Go.H
end
section
set_option maxRecDepth 100000
set_option linter.unusedVariables false
set_option linter.unusedSimpArgs false
namespace Go.H
open Go Go.Proofs.Tryz
def c_impl_Node_isId : SC :=
.seq (rg [
  ss 4 (.mv (.b false))] [0, 1])
  (.seq (rg [
  ss 5 (.mv (.t 1)),
  ss 6 (.mv (.t 0)),
  ss 7 (.nck (.t 6)),
  ss 8 (.fad (.t 7) 1),
  ss 9 (.load (.t 8) 1 false),
  ss 10 (.bin .sub (.t 9) (.i .i64 1)),
  sk 11 49152 (.call (.f F.impl_in) [(.t 5, none), (.i .i64 0, none), (.t 10, none)]),
  ss 4 (.mv (.t 11))] [4])
  (.ret))
theorem b_impl_Node_isId : ∃ c, f137.body = some c ∧ compC prog 12 c = some c_impl_Node_isId.er ∧ drawB c c_impl_Node_isId = true := ⟨_, rfl, by kernel_rfl, by kernel_rfl⟩
theorem r_impl_Node_isId : cmpR prog [.tmp 4] = some [.t 4] := by kernel_rfl
theorem q_impl_Node_isId : callB prog F.impl_Node_isId = true := by kernel_rfl
variable [Inv prog]
theorem s_impl_Node_isId (x : Node) (i : Int) : SemX prog F.impl_Node_isId [aT (.ptr (eNode false x)), aI i] [] [rB (isId x i)] [] := by
  obtain ⟨cc, g1, g2, g3⟩ := b_impl_Node_isId
  refine SemX.of_code func137 g1 (by rw [ntmps137]; exact g2) g3 (by rw [results137]; exact r_impl_Node_isId) (by rw [ntmps137]; exact Nat.le_of_ble_eq_true rfl) (Nat.le_of_ble_eq_true rfl) (by simp) (by simp [argOk, aT, aI, aS, eNode]) ?_
  unfold c_impl_Node_isId
  simp only [rg]
  refine W_reg (by simp only [go_sem, eNode]; exact rfl) ?_
  refine W_reg (by
    refine RW_cut 6 (by simp only [go_sem, eNode]; exact rfl) ?_
    refine RW_ls (by simp only [List.drop_succ_cons, List.drop_zero]; exact rfl) ?_
    refine RW_callN q_impl_in (s_impl_in i 0 (IntKind.wrap .i64 (x.peers - 1))) true [] [] [] rfl rfl (by simp only [go_sem, eNode]; exact rfl) (by rfl) (by simp only [go_sem, eNode]; exact rfl) ?_
    simp only [go_sem, eNode]; exact rfl) ?_
  refine CW_ret ?_
  simp only [go_sem, eNode, isId]
end Go.H
end
section
set_option maxRecDepth 100000
set_option linter.unusedVariables false
set_option linter.unusedSimpArgs false
namespace Go.H
open Go Go.Proofs.Tryz
def c_impl_needs : SC :=
.seq (rg [
  ss 2 (.mv (.b false)),
  ss 3 (.mv (.b false)),
  ss 4 (.mv (.b false)),
  ss 5 (.mv (.b false))] [0])
  (.seq (rg [
  ss 7 (.mv (.t 0)),
  sk 8 36864 (.call (.f F.impl_in) [(.t 7, none), (.i .i64 5, none), (.i .i64 8, none)]),
  ss 6 (.mv (.t 8))] [0, 6])
  (.seq (rg [
  ss 9 (.mv (.t 0)),
  sk 10 45056 (.call (.f F.impl_in) [(.t 9, none), (.i .i64 5, none), (.i .i64 6, none)]),
  ss 11 (.not (.t 10)),
  ss 12 (.mv (.t 0)),
  ss 13 (.bin .eql (.t 12) (.i .i64 1)),
  ss 14 (.mv (.t 13)),
  sg 15 (.mv (.t 6)) 14 false [],
  ss 16 (.pick (.t 14) (.b true) (.t 15)),
  ss 17 (.mv (.t 0)),
  ss 18 (.bin .neq (.t 17) (.i .i64 4)),
  ss 19 (.mv (.t 6)),
  ss 2 (.mv (.t 11)),
  ss 3 (.mv (.t 16)),
  ss 4 (.mv (.t 18)),
  ss 5 (.mv (.t 19))] [2, 3, 4, 5])
  (.ret)))
theorem b_impl_needs : ∃ c, f202.body = some c ∧ compC prog 20 c = some c_impl_needs.er ∧ drawB c c_impl_needs = true := ⟨_, rfl, by kernel_rfl, by kernel_rfl⟩
theorem r_impl_needs : cmpR prog [.tmp 2, .tmp 3, .tmp 4, .tmp 5] = some [.t 2, .t 3, .t 4, .t 5] := by kernel_rfl
theorem q_impl_needs : callB prog F.impl_needs = true := by kernel_rfl
variable [Inv prog]
theorem s_impl_needs (k : Int) : SemX prog F.impl_needs [aI k] [] [rB (nd1 k), rB (nd2 k), rB (nd3 k), rB (nd4 k)] [] := by
  obtain ⟨cc, g1, g2, g3⟩ := b_impl_needs
  refine SemX.of_code func202 g1 (by rw [ntmps202]; exact g2) g3 (by rw [results202]; exact r_impl_needs) (by rw [ntmps202]; exact Nat.le_of_ble_eq_true rfl) (Nat.le_of_ble_eq_true rfl) (by simp) (by simp [argOk, aT, aI, aS]) ?_
  unfold c_impl_needs
  simp only [rg]
  refine W_reg (by simp only [go_sem]; exact rfl) ?_
  refine W_reg (by
    refine RW_cut 1 (by simp only [go_sem]; exact rfl) ?_
    refine RW_ls (by simp only [List.drop_succ_cons, List.drop_zero]; exact rfl) ?_
    refine RW_callN q_impl_in (s_impl_in k 5 8) true [] [] [] rfl rfl (by simp only [go_sem]; exact rfl) (by rfl) (by simp only [go_sem]; exact rfl) ?_
    simp only [go_sem]; exact rfl) ?_
  refine W_reg (by
    refine RW_cut 1 (by simp only [go_sem]; exact rfl) ?_
    refine RW_ls (by simp only [List.drop_succ_cons, List.drop_zero]; exact rfl) ?_
    refine RW_callN q_impl_in (s_impl_in k 5 6) true [] [] [] rfl rfl (by simp only [go_sem]; exact rfl) (by rfl) (by simp only [go_sem]; exact rfl) ?_
    simp only [go_sem]; exact rfl) ?_
  refine CW_ret ?_
  simp only [go_sem, nd1, nd2, nd3, nd4, rB]
  all_goals try first | refine int_res ?_ | refine bool_res ?_
  all_goals
    simp
end Go.H
end
section
set_option maxRecDepth 100000
set_option linter.unusedVariables false
set_option linter.unusedSimpArgs false
namespace Go.H
open Go Go.Proofs.Tryz
def c_impl_isName : SC :=
.seq (rg [
  ss 2 (.mv (.b false))] [0])
  (.seq (rg [
  ss 3 (.mv (.t 0)),
  sk 4 20480 (.call (.f F.impl_in) [(.t 3, none), (.i .i64 1, none), (.i .i64 999, none)]),
  ss 2 (.mv (.t 4))] [2])
  (.ret))
theorem b_impl_isName : ∃ c, f203.body = some c ∧ compC prog 5 c = some c_impl_isName.er ∧ drawB c c_impl_isName = true := ⟨_, rfl, by kernel_rfl, by kernel_rfl⟩
theorem r_impl_isName : cmpR prog [.tmp 2] = some [.t 2] := by kernel_rfl
theorem q_impl_isName : callB prog F.impl_isName = true := by kernel_rfl
variable [Inv prog]
theorem s_impl_isName (n : Int) : SemX prog F.impl_isName [aI n] [] [rB (inR n 1 999)] [] := by
  obtain ⟨cc, g1, g2, g3⟩ := b_impl_isName
  refine SemX.of_code func203 g1 (by rw [ntmps203]; exact g2) g3 (by rw [results203]; exact r_impl_isName) (by rw [ntmps203]; exact Nat.le_of_ble_eq_true rfl) (Nat.le_of_ble_eq_true rfl) (by simp) (by simp [argOk, aT, aI, aS]) ?_
  unfold c_impl_isName
  simp only [rg]
  refine W_reg (by simp only [go_sem]; exact rfl) ?_
  refine W_reg (by
    refine RW_cut 1 (by simp only [go_sem]; exact rfl) ?_
    refine RW_ls (by simp only [List.drop_succ_cons, List.drop_zero]; exact rfl) ?_
    refine RW_callN q_impl_in (s_impl_in n 1 999) true [] [] [] rfl rfl (by simp only [go_sem]; exact rfl) (by rfl) (by simp only [go_sem]; exact rfl) ?_
    simp only [go_sem]; exact rfl) ?_
  refine CW_ret ?_
  simp only [go_sem]
end Go.H
end
section
set_option maxRecDepth 100000
set_option linter.unusedVariables false
set_option linter.unusedSimpArgs false
namespace Go.H
open Go Go.Proofs.Tryz
def c_impl_isAddress : SC :=
.seq (rg [
  ss 2 (.mv (.b false))] [0])
  (.seq (rg [
  ss 3 (.mv (.t 0)),
  sk 4 20480 (.call (.f F.impl_in) [(.t 3, none), (.i .i64 0, none), (.i .i64 4294967295, none)]),
  ss 2 (.mv (.t 4))] [2])
  (.ret))
theorem b_impl_isAddress : ∃ c, f204.body = some c ∧ compC prog 5 c = some c_impl_isAddress.er ∧ drawB c c_impl_isAddress = true := ⟨_, rfl, by kernel_rfl, by kernel_rfl⟩
theorem r_impl_isAddress : cmpR prog [.tmp 2] = some [.t 2] := by kernel_rfl
theorem q_impl_isAddress : callB prog F.impl_isAddress = true := by kernel_rfl
variable [Inv prog]
theorem s_impl_isAddress (n : Int) : SemX prog F.impl_isAddress [aI n] [] [rB (inR n 0 4294967295)] [] := by
  obtain ⟨cc, g1, g2, g3⟩ := b_impl_isAddress
  refine SemX.of_code func204 g1 (by rw [ntmps204]; exact g2) g3 (by rw [results204]; exact r_impl_isAddress) (by rw [ntmps204]; exact Nat.le_of_ble_eq_true rfl) (Nat.le_of_ble_eq_true rfl) (by simp) (by simp [argOk, aT, aI, aS]) ?_
  unfold c_impl_isAddress
  simp only [rg]
  refine W_reg (by simp only [go_sem]; exact rfl) ?_
  refine W_reg (by
    refine RW_cut 1 (by simp only [go_sem]; exact rfl) ?_
    refine RW_ls (by simp only [List.drop_succ_cons, List.drop_zero]; exact rfl) ?_
    refine RW_callN q_impl_in (s_impl_in n 0 4294967295) true [] [] [] rfl rfl (by simp only [go_sem]; exact rfl) (by rfl) (by simp only [go_sem]; exact rfl) ?_
    simp only [go_sem]; exact rfl) ?_
  refine CW_ret ?_
  simp only [go_sem]
end Go.H
end
section
set_option maxRecDepth 100000
set_option linter.unusedVariables false
set_option linter.unusedSimpArgs false
namespace Go.H
open Go Go.Proofs.Tryz
def c_impl_isPort : SC :=
.seq (rg [
  ss 2 (.mv (.b false))] [0])
  (.seq (rg [
  ss 3 (.mv (.t 0)),
  sk 4 20480 (.call (.f F.impl_in) [(.t 3, none), (.i .i64 0, none), (.i .i64 65535, none)]),
  ss 2 (.mv (.t 4))] [2])
  (.ret))
theorem b_impl_isPort : ∃ c, f211.body = some c ∧ compC prog 5 c = some c_impl_isPort.er ∧ drawB c c_impl_isPort = true := ⟨_, rfl, by kernel_rfl, by kernel_rfl⟩
theorem r_impl_isPort : cmpR prog [.tmp 2] = some [.t 2] := by kernel_rfl
theorem q_impl_isPort : callB prog F.impl_isPort = true := by kernel_rfl
variable [Inv prog]
theorem s_impl_isPort (n : Int) : SemX prog F.impl_isPort [aI n] [] [rB (inR n 0 65535)] [] := by
  obtain ⟨cc, g1, g2, g3⟩ := b_impl_isPort
  refine SemX.of_code func211 g1 (by rw [ntmps211]; exact g2) g3 (by rw [results211]; exact r_impl_isPort) (by rw [ntmps211]; exact Nat.le_of_ble_eq_true rfl) (Nat.le_of_ble_eq_true rfl) (by simp) (by simp [argOk, aT, aI, aS]) ?_
  unfold c_impl_isPort
  simp only [rg]
  refine W_reg (by simp only [go_sem]; exact rfl) ?_
  refine W_reg (by
    refine RW_cut 1 (by simp only [go_sem]; exact rfl) ?_
    refine RW_ls (by simp only [List.drop_succ_cons, List.drop_zero]; exact rfl) ?_
    refine RW_callN q_impl_in (s_impl_in n 0 65535) true [] [] [] rfl rfl (by simp only [go_sem]; exact rfl) (by rfl) (by simp only [go_sem]; exact rfl) ?_
    simp only [go_sem]; exact rfl) ?_
  refine CW_ret ?_
  simp only [go_sem]
end Go.H
end
section
set_option maxRecDepth 100000
set_option linter.unusedVariables false
set_option linter.unusedSimpArgs false
namespace Go.H
open Go Go.Proofs.Tryz
def c_impl_isNumber : SC :=
.seq (rg [
  sk 1 8192 (.box (.t 0)),
  ss 2 (.mv (.b false))] [1])
  (.seq (.seq (rg [
  ss 3 (.fad (.t 1) 0),
  ss 4 (.load (.t 3) 1 false)] [1, 4])
  (.block 0 (.seq (.seq (rg [
  ss 6 (.bin .eql (.t 4) (.i .i64 1)),
  ss 5 (.mv (.t 6))] [1, 4, 5])
  (.cond (.t 5) (.skip)
  (rg [
  ss 7 (.bin .eql (.t 4) (.i .i64 2)),
  ss 5 (.mv (.t 7))] [1, 4, 5])))
  (.cond (.t 5) (.seq (rg [
  ss 8 (.fad (.t 1) 4),
  ss 9 (.load (.t 8) 1 false),
  sk 10 45056 (.call (.f F.impl_in) [(.t 9, none), (.i .i64 0, none), (.i .i64 9, none)]),
  ss 2 (.mv (.t 10))] [2])
  (.ret))
  (.seq (rg [
  ss 12 (.bin .eql (.t 4) (.i .i64 3)),
  ss 11 (.mv (.t 12))] [1, 4, 11])
  (.cond (.t 11) (.seq (rg [
  ss 13 (.fad (.t 1) 4),
  ss 14 (.load (.t 13) 1 false),
  sk 15 65536 (.call (.f F.impl_in) [(.t 14, none), (.i .i64 1, none), (.i .i64 3, none)]),
  ss 2 (.mv (.t 15))] [2])
  (.ret))
  (.seq (rg [
  ss 17 (.bin .eql (.t 4) (.i .i64 9)),
  ss 16 (.mv (.t 17))] [1, 16])
  (.cond (.t 16) (.seq (rg [
  ss 18 (.fad (.t 1) 4),
  ss 19 (.load (.t 18) 1 false),
  sk 20 86016 (.call (.f F.impl_in) [(.t 19, none), (.i .i64 0, none), (.i .i64 1, none)]),
  ss 2 (.mv (.t 20))] [2])
  (.ret))
  (.skip)))))))))
  (.seq (rg [
  ss 21 (.fad (.t 1) 4),
  ss 22 (.load (.t 21) 1 false),
  sk 23 98304 (.call (.f F.impl_isPort) [(.t 22, none)]),
  ss 2 (.mv (.t 23))] [2])
  (.ret)))
theorem b_impl_isNumber : ∃ c, f205.body = some c ∧ compC prog 24 c = some c_impl_isNumber.er ∧ drawB c c_impl_isNumber = true := ⟨_, rfl, by kernel_rfl, by kernel_rfl⟩
theorem r_impl_isNumber : cmpR prog [.tmp 2] = some [.t 2] := by kernel_rfl
theorem q_impl_isNumber : callB prog F.impl_isNumber = true := by kernel_rfl
variable [Inv prog]
theorem s_impl_isNumber (x : Cmd) : SemX prog F.impl_isNumber [aS (eCmd x)] [] [rB (isNum x)] [] := by
  obtain ⟨cc, g1, g2, g3⟩ := b_impl_isNumber
  refine SemX.of_code func205 g1 (by rw [ntmps205]; exact g2) g3 (by rw [results205]; exact r_impl_isNumber) (by rw [ntmps205]; exact Nat.le_of_ble_eq_true rfl) (Nat.le_of_ble_eq_true rfl) (by simp) (by simp [argOk, aT, aI, aS, eCmd]) ?_
  unfold c_impl_isNumber
  simp only [rg]
  refine W_reg (by simp only [go_sem, eCmd]; exact rfl) ?_
  refine CW_assoc ?_
  refine W_reg (by simp only [go_sem, eCmd]; exact rfl) ?_
  refine CW_seq ?_
  refine CW_block ?_
  refine CW_assoc ?_
  refine W_reg (by simp only [go_sem, eCmd]; exact rfl) ?_
  refine CW_seq ?_
  refine CW_cond (by simp only [go_sem, eCmd]; exact rfl) (fun c0 => ?_) (fun c0 => ?_)
  · skip
    try simp only [b1, b2, b3, b4, b5, b6, b7] at c0
    refine CW_skip ?_
    refine sq_n ?_
    refine CW_cond (by simp only [go_sem, eCmd]; exact rfl) (fun c1 => ?_) (fun c1 => ?_)
    · skip
      try simp only [b1, b2, b3, b4, b5, b6, b7] at c1
      refine W_reg (by
        refine RW_cut 2 (by simp only [go_sem, eCmd]; exact rfl) ?_
        refine RW_ls (by simp only [List.drop_succ_cons, List.drop_zero]; exact rfl) ?_
        refine RW_callN q_impl_in (s_impl_in _ _ _) true [] [] [] rfl rfl (by simp only [go_sem, eCmd] <;> and_intros <;> first | with_reducible exact rfl | omega | with_reducible trivial | (intros; simp_all; done) | grind) (by rfl) (by simp only [go_sem, eCmd]; exact rfl) ?_
        simp only [go_sem, eCmd]; exact rfl) ?_
      refine CW_ret ?_
      refine bk_r ?_
      refine sq_r ?_
      simp only [go_sem, eCmd, isNum]
      all_goals try first | refine int_res ?_ | refine bool_res ?_
      all_goals
        first | (exfalso; omega) | (simp [*]; done)
    · skip
      try simp only [b1, b2, b3, b4, b5, b6, b7] at c1
      refine W_reg (by simp only [go_sem, eCmd]; exact rfl) ?_
      refine CW_cond (by simp only [go_sem, eCmd]; exact rfl) (fun c2 => ?_) (fun c2 => ?_)
      · skip
        try simp only [b1, b2, b3, b4, b5, b6, b7] at c2
        refine W_reg (by
          refine RW_cut 2 (by simp only [go_sem, eCmd]; exact rfl) ?_
          refine RW_ls (by simp only [List.drop_succ_cons, List.drop_zero]; exact rfl) ?_
          refine RW_callN q_impl_in (s_impl_in _ _ _) true [] [] [] rfl rfl (by simp only [go_sem, eCmd] <;> and_intros <;> first | with_reducible exact rfl | omega | with_reducible trivial | (intros; simp_all; done) | grind) (by rfl) (by simp only [go_sem, eCmd]; exact rfl) ?_
          simp only [go_sem, eCmd]; exact rfl) ?_
        refine CW_ret ?_
        refine bk_r ?_
        refine sq_r ?_
        simp only [go_sem, eCmd, isNum]
        all_goals try first | refine int_res ?_ | refine bool_res ?_
        all_goals
          first | (exfalso; omega) | (simp [*]; done)
      · skip
        try simp only [b1, b2, b3, b4, b5, b6, b7] at c2
        refine W_reg (by simp only [go_sem, eCmd]; exact rfl) ?_
        refine CW_cond (by simp only [go_sem, eCmd]; exact rfl) (fun c3 => ?_) (fun c3 => ?_)
        · skip
          try simp only [b1, b2, b3, b4, b5, b6, b7] at c3
          refine W_reg (by
            refine RW_cut 2 (by simp only [go_sem, eCmd]; exact rfl) ?_
            refine RW_ls (by simp only [List.drop_succ_cons, List.drop_zero]; exact rfl) ?_
            refine RW_callN q_impl_in (s_impl_in _ _ _) true [] [] [] rfl rfl (by simp only [go_sem, eCmd] <;> and_intros <;> first | with_reducible exact rfl | omega | with_reducible trivial | (intros; simp_all; done) | grind) (by rfl) (by simp only [go_sem, eCmd]; exact rfl) ?_
            simp only [go_sem, eCmd]; exact rfl) ?_
          refine CW_ret ?_
          refine bk_r ?_
          refine sq_r ?_
          simp only [go_sem, eCmd, isNum]
          all_goals try first | refine int_res ?_ | refine bool_res ?_
          all_goals
            first | (exfalso; omega) | (simp [*]; done)
        · skip
          try simp only [b1, b2, b3, b4, b5, b6, b7] at c3
          refine CW_skip ?_
          refine bk_n ?_
          refine sq_n ?_
          refine W_reg (by
            refine RW_cut 2 (by simp only [go_sem, eCmd]; exact rfl) ?_
            refine RW_ls (by simp only [List.drop_succ_cons, List.drop_zero]; exact rfl) ?_
            refine RW_callN q_impl_isPort (s_impl_isPort _) true [] [] [] rfl rfl (by simp only [go_sem, eCmd] <;> and_intros <;> first | with_reducible exact rfl | omega | with_reducible trivial | (intros; simp_all; done) | grind) (by rfl) (by simp only [go_sem, eCmd]; exact rfl) ?_
            simp only [go_sem, eCmd]; exact rfl) ?_
          refine CW_ret ?_
          simp only [go_sem, eCmd, isNum]
          all_goals try first | refine int_res ?_ | refine bool_res ?_
          all_goals
            first | (exfalso; omega) | (simp [*]; done)
  · skip
    try simp only [b1, b2, b3, b4, b5, b6, b7] at c0
    refine W_regn (by simp only [go_sem, eCmd]; exact rfl) ?_
    refine sq_n ?_
    refine CW_cond (by simp only [go_sem, eCmd]; exact rfl) (fun c1 => ?_) (fun c1 => ?_)
    · skip
      try simp only [b1, b2, b3, b4, b5, b6, b7] at c1
      refine W_reg (by
        refine RW_cut 2 (by simp only [go_sem, eCmd]; exact rfl) ?_
        refine RW_ls (by simp only [List.drop_succ_cons, List.drop_zero]; exact rfl) ?_
        refine RW_callN q_impl_in (s_impl_in _ _ _) true [] [] [] rfl rfl (by simp only [go_sem, eCmd] <;> and_intros <;> first | with_reducible exact rfl | omega | with_reducible trivial | (intros; simp_all; done) | grind) (by rfl) (by simp only [go_sem, eCmd]; exact rfl) ?_
        simp only [go_sem, eCmd]; exact rfl) ?_
      refine CW_ret ?_
      refine bk_r ?_
      refine sq_r ?_
      simp only [go_sem, eCmd, isNum]
      all_goals try first | refine int_res ?_ | refine bool_res ?_
      all_goals
        first | (exfalso; omega) | (simp [*]; done)
    · skip
      try simp only [b1, b2, b3, b4, b5, b6, b7] at c1
      refine W_reg (by simp only [go_sem, eCmd]; exact rfl) ?_
      refine CW_cond (by simp only [go_sem, eCmd]; exact rfl) (fun c2 => ?_) (fun c2 => ?_)
      · skip
        try simp only [b1, b2, b3, b4, b5, b6, b7] at c2
        refine W_reg (by
          refine RW_cut 2 (by simp only [go_sem, eCmd]; exact rfl) ?_
          refine RW_ls (by simp only [List.drop_succ_cons, List.drop_zero]; exact rfl) ?_
          refine RW_callN q_impl_in (s_impl_in _ _ _) true [] [] [] rfl rfl (by simp only [go_sem, eCmd] <;> and_intros <;> first | with_reducible exact rfl | omega | with_reducible trivial | (intros; simp_all; done) | grind) (by rfl) (by simp only [go_sem, eCmd]; exact rfl) ?_
          simp only [go_sem, eCmd]; exact rfl) ?_
        refine CW_ret ?_
        refine bk_r ?_
        refine sq_r ?_
        simp only [go_sem, eCmd, isNum]
        all_goals try first | refine int_res ?_ | refine bool_res ?_
        all_goals
          first | (exfalso; omega) | (simp [*]; done)
      · skip
        try simp only [b1, b2, b3, b4, b5, b6, b7] at c2
        refine W_reg (by simp only [go_sem, eCmd]; exact rfl) ?_
        refine CW_cond (by simp only [go_sem, eCmd]; exact rfl) (fun c3 => ?_) (fun c3 => ?_)
        · skip
          try simp only [b1, b2, b3, b4, b5, b6, b7] at c3
          refine W_reg (by
            refine RW_cut 2 (by simp only [go_sem, eCmd]; exact rfl) ?_
            refine RW_ls (by simp only [List.drop_succ_cons, List.drop_zero]; exact rfl) ?_
            refine RW_callN q_impl_in (s_impl_in _ _ _) true [] [] [] rfl rfl (by simp only [go_sem, eCmd] <;> and_intros <;> first | with_reducible exact rfl | omega | with_reducible trivial | (intros; simp_all; done) | grind) (by rfl) (by simp only [go_sem, eCmd]; exact rfl) ?_
            simp only [go_sem, eCmd]; exact rfl) ?_
          refine CW_ret ?_
          refine bk_r ?_
          refine sq_r ?_
          simp only [go_sem, eCmd, isNum]
          all_goals try first | refine int_res ?_ | refine bool_res ?_
          all_goals
            first | (exfalso; omega) | (simp [*]; done)
        · skip
          try simp only [b1, b2, b3, b4, b5, b6, b7] at c3
          refine CW_skip ?_
          refine bk_n ?_
          refine sq_n ?_
          refine W_reg (by
            refine RW_cut 2 (by simp only [go_sem, eCmd]; exact rfl) ?_
            refine RW_ls (by simp only [List.drop_succ_cons, List.drop_zero]; exact rfl) ?_
            refine RW_callN q_impl_isPort (s_impl_isPort _) true [] [] [] rfl rfl (by simp only [go_sem, eCmd] <;> and_intros <;> first | with_reducible exact rfl | omega | with_reducible trivial | (intros; simp_all; done) | grind) (by rfl) (by simp only [go_sem, eCmd]; exact rfl) ?_
            simp only [go_sem, eCmd]; exact rfl) ?_
          refine CW_ret ?_
          simp only [go_sem, eCmd, isNum]
          all_goals try first | refine int_res ?_ | refine bool_res ?_
          all_goals
            first | (exfalso; omega) | (simp [*]; done)
end Go.H
end
section
set_option maxRecDepth 100000
set_option linter.unusedVariables false
set_option linter.unusedSimpArgs false
namespace Go.H
open Go Go.Proofs.Tryz
def c_impl_isProto : SC :=
.seq (rg [
  ss 2 (.mv (.b false))] [0])
  (.seq (rg [
  ss 3 (.mv (.t 0)),
  ss 4 (.bin .eql (.t 3) (.i .i64 6)),
  ss 5 (.mv (.t 4)),
  sg 6 (.mv (.t 0)) 5 false [],
  sg 7 (.bin .eql (.t 6) (.i .i64 17)) 5 false [6],
  ss 8 (.pick (.t 5) (.b true) (.t 7)),
  ss 2 (.mv (.t 8))] [2])
  (.ret))
theorem b_impl_isProto : ∃ c, f206.body = some c ∧ compC prog 9 c = some c_impl_isProto.er ∧ drawB c c_impl_isProto = true := ⟨_, rfl, by kernel_rfl, by kernel_rfl⟩
theorem r_impl_isProto : cmpR prog [.tmp 2] = some [.t 2] := by kernel_rfl
theorem q_impl_isProto : callB prog F.impl_isProto = true := by kernel_rfl
variable [Inv prog]
theorem s_impl_isProto (n : Int) : SemX prog F.impl_isProto [aI n] [] [rB (isPro n)] [] := by
  obtain ⟨cc, g1, g2, g3⟩ := b_impl_isProto
  refine SemX.of_code func206 g1 (by rw [ntmps206]; exact g2) g3 (by rw [results206]; exact r_impl_isProto) (by rw [ntmps206]; exact Nat.le_of_ble_eq_true rfl) (Nat.le_of_ble_eq_true rfl) (by simp) (by simp [argOk, aT, aI, aS]) ?_
  unfold c_impl_isProto
  simp only [rg]
  refine W_reg (by simp only [go_sem]; exact rfl) ?_
  refine W_reg (by simp only [go_sem]; exact rfl) ?_
  refine CW_ret ?_
  simp only [go_sem, isPro]
  all_goals try first | refine int_res ?_ | refine bool_res ?_
  all_goals
    cases decide (n = 6) <;> rfl
end Go.H
end
section
set_option maxRecDepth 100000
set_option linter.unusedVariables false
set_option linter.unusedSimpArgs false
namespace Go.H
open Go Go.Proofs.Tryz
def c_impl_CmdFault : SC :=
.seq (rg [
  sk 1 8192 (.box (.t 0)),
  ss 2 (.mv (.i .i64 0))] [1])
  (.seq (.seq (rg [
  ss 7 (.fad (.t 1) 0),
  ss 8 (.load (.t 7) 1 false),
  sk 9 40960 (.call (.f F.impl_in) [(.t 8, none), (.i .i64 1, none), (.i .i64 9, none)]),
  ss 10 (.not (.t 9))] [1, 10])
  (.cond (.t 10) (.seq (rg [
  ss 2 (.mv (.i .i64 1))] [2])
  (.ret))
  (.skip)))
  (.seq (rg [
  ss 12 (.fad (.t 1) 0),
  ss 13 (.load (.t 12) 1 false),
  sk 14 61440 (.call (.f F.impl_needs) [(.t 13, none)]),
  ss 11 (.mv (.t 14)),
  ss 15 (.ext (.t 11) 0),
  ss 16 (.ext (.t 11) 1),
  ss 17 (.ext (.t 11) 2),
  ss 18 (.ext (.t 11) 3),
  ss 3 (.mv (.t 15)),
  ss 4 (.mv (.t 16)),
  ss 5 (.mv (.t 17)),
  ss 6 (.mv (.t 18))] [1, 3, 4, 5, 6])
  (.seq (.block 0 (.seq (rg [
  ss 20 (.fad (.t 1) 1),
  ss 21 (.load (.t 20) 1 false),
  sk 22 94208 (.call (.f F.impl_in) [(.t 21, none), (.i .i64 (-1), none), (.i .i64 1000000, none)]),
  ss 23 (.not (.t 22)),
  ss 24 (.mv (.t 23)),
  sg 25 (.mv (.t 3)) 24 false [],
  sg 26 (.mv (.t 25)) 24 false [25],
  sg 27 (.fad (.t 1) 2) 26 true [],
  sg 28 (.load (.t 27) 1 false) 26 true [27],
  ⟨(some 29), .call (.f F.impl_isName) [(.t 28, none)], (some (26, true)), [], 0, 122880, [], [28], [], []⟩,
  sg 30 (.not (.t 29)) 26 true [29],
  sg 31 (.pick (.t 26) (.t 30) (.b false)) 24 false [26],
  ss 32 (.pick (.t 24) (.b true) (.t 31)),
  ss 33 (.mv (.t 32)),
  sg 34 (.mv (.t 4)) 33 false [],
  sg 35 (.mv (.t 34)) 33 false [34],
  sg 36 (.fad (.t 1) 3) 35 true [],
  sg 37 (.load (.t 36) 1 false) 35 true [36],
  ⟨(some 38), .call (.f F.impl_isAddress) [(.t 37, none)], (some (35, true)), [], 0, 159744, [], [37], [], []⟩,
  sg 39 (.not (.t 38)) 35 true [38],
  sg 40 (.pick (.t 35) (.t 39) (.b false)) 33 false [35],
  ss 41 (.pick (.t 33) (.b true) (.t 40)),
  ss 42 (.mv (.t 41)),
  sg 43 (.mv (.t 5)) 42 false [],
  sg 44 (.mv (.t 43)) 42 false [43],
  sg 45 (.load (.t 1) 6 true) 44 true [],
  ⟨(some 46), .call (.f F.impl_isNumber) [(.t 45, none)], (some (44, true)), [], 0, 192512, [], [45], [], []⟩,
  sg 47 (.not (.t 46)) 44 true [46],
  sg 48 (.pick (.t 44) (.t 47) (.b false)) 42 false [44],
  ss 49 (.pick (.t 42) (.b true) (.t 48)),
  ss 50 (.mv (.t 49)),
  sg 51 (.mv (.t 6)) 50 false [],
  sg 52 (.mv (.t 51)) 50 false [51],
  sg 53 (.fad (.t 1) 5) 52 true [],
  sg 54 (.load (.t 53) 1 false) 52 true [53],
  ⟨(some 55), .call (.f F.impl_isProto) [(.t 54, none)], (some (52, true)), [], 0, 229376, [], [54], [], []⟩,
  sg 56 (.not (.t 55)) 52 true [55],
  sg 57 (.pick (.t 52) (.t 56) (.b false)) 50 false [52],
  ss 58 (.pick (.t 50) (.b true) (.t 57)),
  ss 19 (.mv (.t 58))] [1, 3, 4, 5, 6, 19])
  (.cond (.t 19) (.seq (rg [
  ss 2 (.mv (.i .i64 3))] [2])
  (.ret))
  (.seq (rg [
  ss 60 (.mv (.t 3)),
  ss 61 (.not (.t 60)),
  ss 62 (.mv (.t 61)),
  sg 63 (.fad (.t 1) 2) 62 true [],
  sg 64 (.load (.t 63) 1 false) 62 true [63],
  sg 65 (.bin .neq (.t 64) (.i .i64 0)) 62 true [64],
  ss 66 (.pick (.t 62) (.t 65) (.b false)),
  ss 67 (.mv (.t 66)),
  sg 68 (.mv (.t 4)) 67 false [],
  sg 69 (.not (.t 68)) 67 false [68],
  sg 70 (.mv (.t 69)) 67 false [69],
  sg 71 (.fad (.t 1) 3) 70 true [],
  sg 72 (.load (.t 71) 1 false) 70 true [71],
  sg 73 (.bin .neq (.t 72) (.i .i64 0)) 70 true [72],
  sg 74 (.pick (.t 70) (.t 73) (.b false)) 67 false [70],
  ss 75 (.pick (.t 67) (.b true) (.t 74)),
  ss 76 (.mv (.t 75)),
  sg 77 (.mv (.t 5)) 76 false [],
  sg 78 (.not (.t 77)) 76 false [77],
  sg 79 (.mv (.t 78)) 76 false [78],
  sg 80 (.fad (.t 1) 4) 79 true [],
  sg 81 (.load (.t 80) 1 false) 79 true [80],
  sg 82 (.bin .neq (.t 81) (.i .i64 0)) 79 true [81],
  sg 83 (.pick (.t 79) (.t 82) (.b false)) 76 false [79],
  ss 84 (.pick (.t 76) (.b true) (.t 83)),
  ss 85 (.mv (.t 84)),
  sg 86 (.mv (.t 6)) 85 false [],
  sg 87 (.not (.t 86)) 85 false [86],
  sg 88 (.mv (.t 87)) 85 false [87],
  sg 89 (.fad (.t 1) 5) 88 true [],
  sg 90 (.load (.t 89) 1 false) 88 true [89],
  sg 91 (.bin .neq (.t 90) (.i .i64 0)) 88 true [90],
  sg 92 (.pick (.t 88) (.t 91) (.b false)) 85 false [88],
  ss 93 (.pick (.t 85) (.b true) (.t 92)),
  ss 59 (.mv (.t 93))] [59])
  (.cond (.t 59) (.seq (rg [
  ss 2 (.mv (.i .i64 1))] [2])
  (.ret))
  (.skip))))))
  (.seq (rg [
  ss 2 (.mv (.i .i64 0))] [2])
  (.ret)))))
theorem b_impl_CmdFault : ∃ c, f190.body = some c ∧ compC prog 94 c = some c_impl_CmdFault.er ∧ drawB c c_impl_CmdFault = true := ⟨_, rfl, by kernel_rfl, by kernel_rfl⟩
theorem r_impl_CmdFault : cmpR prog [.tmp 2] = some [.t 2] := by kernel_rfl
theorem q_impl_CmdFault : callB prog F.impl_CmdFault = true := by kernel_rfl
variable [Inv prog]
theorem s_impl_CmdFault (x : Cmd) : SemX prog F.impl_CmdFault [aS (eCmd x)] [] [rI (cmdFault x)] [] := by
  obtain ⟨cc, g1, g2, g3⟩ := b_impl_CmdFault
  refine SemX.of_code func190 g1 (by rw [ntmps190]; exact g2) g3 (by rw [results190]; exact r_impl_CmdFault) (by rw [ntmps190]; exact Nat.le_of_ble_eq_true rfl) (Nat.le_of_ble_eq_true rfl) (by simp) (by simp [argOk, aT, aI, aS, eCmd, exp_eq]) ?_
  unfold c_impl_CmdFault
  simp only [rg]
  refine W_reg (by simp only [go_sem, eCmd, exp_eq]; exact rfl) ?_
  refine CW_assoc ?_
  refine W_reg (by
    refine RW_cut 2 (by simp only [go_sem, eCmd, exp_eq]; exact rfl) ?_
    refine RW_ls (by simp only [List.drop_succ_cons, List.drop_zero]; exact rfl) ?_
    refine RW_callN q_impl_in (s_impl_in _ _ _) true [] [] [] rfl rfl (by simp only [go_sem, eCmd, exp_eq] <;> and_intros <;> first | with_reducible exact rfl | omega | with_reducible trivial | (intros; simp_all; done) | grind) (by rfl) (by simp only [go_sem, eCmd, exp_eq]; exact rfl) ?_
    simp only [go_sem, eCmd, exp_eq]; exact rfl) ?_
  refine CW_seq ?_
  refine CW_cond (by simp only [go_sem, eCmd, exp_eq]; exact rfl) (fun c0 => ?_) (fun c0 => ?_)
  · skip
    skip
    refine W_reg (by simp only [go_sem, eCmd, exp_eq]; exact rfl) ?_
    refine CW_ret ?_
    refine sq_r ?_
    simp only [go_sem, eCmd, exp_eq, cmdFault]
    all_goals try first | refine int_res ?_ | refine bool_res ?_
    all_goals
      grind
  · skip
    skip
    refine CW_skip ?_
    refine sq_n ?_
    refine W_reg (by
      refine RW_cut 2 (by simp only [go_sem, eCmd, exp_eq]; exact rfl) ?_
      refine RW_ls (by simp only [List.drop_succ_cons, List.drop_zero]; exact rfl) ?_
      refine RW_callN q_impl_needs (s_impl_needs _) true [] [] [] rfl rfl (by simp only [go_sem, eCmd, exp_eq] <;> and_intros <;> first | with_reducible exact rfl | omega | with_reducible trivial | (intros; simp_all; done) | grind) (by rfl) (by simp only [go_sem, eCmd, exp_eq]; exact rfl) ?_
      simp only [go_sem, eCmd, exp_eq]; exact rfl) ?_
    refine CW_seq ?_
    refine CW_block ?_
    refine W_reg (by
      refine RW_cut 2 (by simp only [go_sem, eCmd, exp_eq]; exact rfl) ?_
      refine RW_ls (by simp only [List.drop_succ_cons, List.drop_zero]; exact rfl) ?_
      refine RW_callN q_impl_in (s_impl_in _ _ _) true [] [] [] rfl rfl (by simp only [go_sem, eCmd, exp_eq] <;> and_intros <;> first | with_reducible exact rfl | omega | with_reducible trivial | (intros; simp_all; done) | grind) (by rfl) (by simp only [go_sem, eCmd, exp_eq]; exact rfl) ?_
      refine RW_cut 6 (by simp only [go_sem, eCmd, exp_eq]; exact rfl) ?_
      refine RW_ls (by simp only [List.drop_succ_cons, List.drop_zero]; exact rfl) ?_
      refine RW_callGN q_impl_isName (s_impl_isName _) true rfl rfl (by simp only [go_sem, eCmd, exp_eq]; exact rfl) (fun _ => (by simp only [go_sem, eCmd, exp_eq] <;> and_intros <;> first | with_reducible exact rfl | omega | with_reducible trivial | (intros; simp_all; done) | grind)) (by simp only [go_sem, eCmd, exp_eq]; exact rfl) ?_
      refine RW_cut 8 (by simp only [go_sem, eCmd, exp_eq] <;> and_intros <;> first | with_reducible exact rfl | omega | with_reducible trivial | (intros; simp_all; done) | grind) ?_
      refine RW_ls (by simp only [List.drop_succ_cons, List.drop_zero]; exact rfl) ?_
      refine RW_callGN q_impl_isAddress (s_impl_isAddress _) true rfl rfl (by simp only [go_sem, eCmd, exp_eq]; exact rfl) (fun _ => (by simp only [go_sem, eCmd, exp_eq] <;> and_intros <;> first | with_reducible exact rfl | omega | with_reducible trivial | (intros; simp_all; done) | grind)) (by simp only [go_sem, eCmd, exp_eq]; exact rfl) ?_
      refine RW_cut 7 (by simp only [go_sem, eCmd, exp_eq] <;> and_intros <;> first | with_reducible exact rfl | omega | with_reducible trivial | (intros; simp_all; done) | grind) ?_
      refine RW_ls (by simp only [List.drop_succ_cons, List.drop_zero]; exact rfl) ?_
      refine RW_callGN q_impl_isNumber (s_impl_isNumber _) true rfl rfl (by simp only [go_sem, eCmd, exp_eq]; exact rfl) (fun _ => (by simp only [go_sem, eCmd, exp_eq] <;> and_intros <;> first | with_reducible exact rfl | omega | with_reducible trivial | (intros; simp_all; done) | grind)) (by simp only [go_sem, eCmd, exp_eq]; exact rfl) ?_
      refine RW_cut 8 (by simp only [go_sem, eCmd, exp_eq] <;> and_intros <;> first | with_reducible exact rfl | omega | with_reducible trivial | (intros; simp_all; done) | grind) ?_
      refine RW_ls (by simp only [List.drop_succ_cons, List.drop_zero]; exact rfl) ?_
      refine RW_callGN q_impl_isProto (s_impl_isProto _) true rfl rfl (by simp only [go_sem, eCmd, exp_eq]; exact rfl) (fun _ => (by simp only [go_sem, eCmd, exp_eq] <;> and_intros <;> first | with_reducible exact rfl | omega | with_reducible trivial | (intros; simp_all; done) | grind)) (by simp only [go_sem, eCmd, exp_eq]; exact rfl) ?_
      simp only [go_sem, eCmd, exp_eq] <;> and_intros <;> first | with_reducible exact rfl | omega | with_reducible trivial | (intros; simp_all; done) | grind) ?_
    refine CW_cond (by simp only [go_sem, eCmd, exp_eq]; exact rfl) (fun c1 => ?_) (fun c1 => ?_)
    · skip
      skip
      refine W_reg (by simp only [go_sem, eCmd, exp_eq]; exact rfl) ?_
      refine CW_ret ?_
      refine bk_r ?_
      refine sq_r ?_
      simp only [go_sem, eCmd, exp_eq, cmdFault]
      all_goals try first | refine int_res ?_ | refine bool_res ?_
      all_goals
        grind
    · skip
      skip
      refine W_reg (by simp only [go_sem, eCmd, exp_eq] <;> and_intros <;> first | with_reducible exact rfl | omega | with_reducible trivial | (intros; simp_all; done) | grind) ?_
      refine CW_cond (by simp only [go_sem, eCmd, exp_eq]; exact rfl) (fun c2 => ?_) (fun c2 => ?_)
      · skip
        skip
        refine W_reg (by simp only [go_sem, eCmd, exp_eq]; exact rfl) ?_
        refine CW_ret ?_
        refine bk_r ?_
        refine sq_r ?_
        simp only [go_sem, eCmd, exp_eq, cmdFault]
        all_goals try first | refine int_res ?_ | refine bool_res ?_
        all_goals
          grind
      · skip
        skip
        refine CW_skip ?_
        refine bk_n ?_
        refine sq_n ?_
        refine W_reg (by simp only [go_sem, eCmd, exp_eq]; exact rfl) ?_
        refine CW_ret ?_
        simp only [go_sem, eCmd, exp_eq, cmdFault]
        all_goals try first | refine int_res ?_ | refine bool_res ?_
        all_goals
          grind
end Go.H
end
section
set_option maxRecDepth 100000
set_option linter.unusedVariables false
set_option linter.unusedSimpArgs false
namespace Go.H
open Go Go.Proofs.Tryz
def c_impl_EntryFault : SC :=
.seq (rg [
  sk 1 8192 (.box (.t 0)),
  ss 2 (.mv (.i .i64 0))] [1])
  (.seq (.block 0 (.seq (rg [
  ss 4 (.fad (.t 1) 0),
  ss 5 (.load (.t 4) 1 false),
  sk 6 28672 (.call (.f F.impl_in) [(.t 5, none), (.i .i64 1, none), (.i .i64 100000, none)]),
  ss 7 (.not (.t 6)),
  ss 8 (.mv (.t 7)),
  sg 9 (.fad (.t 1) 1) 8 false [],
  sg 10 (.load (.t 9) 1 false) 8 false [9],
  ⟨(some 11), .call (.f F.impl_in) [(.t 10, none), (.i .i64 0, none), (.i .i64 999, none)], (some (8, false)), [], 0, 49152, [], [10], [], []⟩,
  sg 12 (.not (.t 11)) 8 false [11],
  ss 13 (.pick (.t 8) (.b true) (.t 12)),
  ss 14 (.mv (.t 13)),
  sg 15 (.fad (.t 1) 2) 14 false [],
  sg 16 (.load (.t 15) 1 false) 14 false [15],
  ⟨(some 17), .call (.f F.impl_in) [(.t 16, none), (.i .i64 0, none), (.i .i64 1000000, none)], (some (14, false)), [], 0, 73728, [], [16], [], []⟩,
  sg 18 (.not (.t 17)) 14 false [17],
  ss 19 (.pick (.t 14) (.b true) (.t 18)),
  ss 3 (.mv (.t 19))] [1, 3])
  (.cond (.t 3) (.seq (rg [
  ss 2 (.mv (.i .i64 3))] [2])
  (.ret))
  (.seq (rg [
  ss 21 (.fad (.t 1) 1),
  ss 22 (.load (.t 21) 1 false),
  ss 23 (.bin .eql (.t 22) (.i .i64 0)),
  ss 24 (.fad (.t 1) 2),
  ss 25 (.load (.t 24) 1 false),
  ss 26 (.bin .eql (.t 25) (.i .i64 0)),
  ss 27 (.beq true (.t 23) (.t 26)),
  ss 20 (.mv (.t 27))] [1, 20])
  (.cond (.t 20) (.seq (rg [
  ss 2 (.mv (.i .i64 1))] [2])
  (.ret))
  (.seq (rg [
  ss 29 (.fad (.t 1) 1),
  ss 30 (.load (.t 29) 1 false),
  ss 31 (.bin .neq (.t 30) (.i .i64 0)),
  ss 28 (.mv (.t 31))] [1, 28])
  (.cond (.t 28) (.seq (rg [
  ss 32 (.fad (.t 1) 3),
  ss 33 (.load (.t 32) 6 true),
  sk 34 143360 (.call (.f F.impl_CmdFault) [(.t 33, none)]),
  ss 2 (.mv (.t 34))] [2])
  (.ret))
  (.seq (rg [
  ss 36 (.fad (.t 1) 3),
  ss 37 (.load (.t 36) 6 true),
  ss 38 (.bld [.int .i64 0, .int .i64 0, .int .i64 0, .int .i64 0, .int .i64 0, .int .i64 0] []),
  ss 39 (.eqa true (.t 37) (.t 38) [1, 1, 1, 1, 1, 1]),
  ss 35 (.mv (.t 39))] [35])
  (.cond (.t 35) (.seq (rg [
  ss 2 (.mv (.i .i64 1))] [2])
  (.ret))
  (.skip))))))))))
  (.seq (rg [
  ss 2 (.mv (.i .i64 0))] [2])
  (.ret)))
theorem b_impl_EntryFault : ∃ c, f161.body = some c ∧ compC prog 40 c = some c_impl_EntryFault.er ∧ drawB c c_impl_EntryFault = true := ⟨_, rfl, by kernel_rfl, by kernel_rfl⟩
theorem r_impl_EntryFault : cmpR prog [.tmp 2] = some [.t 2] := by kernel_rfl
theorem q_impl_EntryFault : callB prog F.impl_EntryFault = true := by kernel_rfl
variable [Inv prog]
theorem s_impl_EntryFault (x : Entry) : SemX prog F.impl_EntryFault [aS (eEntry x)] [] [rI (entryFault x)] [] := by
  obtain ⟨cc, g1, g2, g3⟩ := b_impl_EntryFault
  refine SemX.of_code func161 g1 (by rw [ntmps161]; exact g2) g3 (by rw [results161]; exact r_impl_EntryFault) (by rw [ntmps161]; exact Nat.le_of_ble_eq_true rfl) (Nat.le_of_ble_eq_true rfl) (by simp) (by simp [argOk, aT, aI, aS, eEntry]) ?_
  unfold c_impl_EntryFault
  simp only [rg]
  refine W_reg (by simp only [go_sem, eEntry]; exact rfl) ?_
  refine CW_seq ?_
  refine CW_block ?_
  refine W_reg (by
    refine RW_cut 2 (by simp only [go_sem, eEntry]; exact rfl) ?_
    refine RW_ls (by simp only [List.drop_succ_cons, List.drop_zero]; exact rfl) ?_
    refine RW_callN q_impl_in (s_impl_in _ _ _) true [] [] [] rfl rfl (by simp only [go_sem, eEntry] <;> and_intros <;> first | with_reducible exact rfl | omega | with_reducible trivial | (intros; simp_all; done) | grind) (by rfl) (by simp only [go_sem, eEntry]; exact rfl) ?_
    refine RW_cut 4 (by simp only [go_sem, eEntry]; exact rfl) ?_
    refine RW_ls (by simp only [List.drop_succ_cons, List.drop_zero]; exact rfl) ?_
    refine RW_callGN q_impl_in (s_impl_in _ _ _) true rfl rfl (by simp only [go_sem, eEntry]; exact rfl) (fun _ => (by simp only [go_sem, eEntry] <;> and_intros <;> first | with_reducible exact rfl | omega | with_reducible trivial | (intros; simp_all; done) | grind)) (by simp only [go_sem, eEntry]; exact rfl) ?_
    refine RW_cut 5 (by simp only [go_sem, eEntry]; exact rfl) ?_
    refine RW_ls (by simp only [List.drop_succ_cons, List.drop_zero]; exact rfl) ?_
    refine RW_callGN q_impl_in (s_impl_in _ _ _) true rfl rfl (by simp only [go_sem, eEntry]; exact rfl) (fun _ => (by simp only [go_sem, eEntry] <;> and_intros <;> first | with_reducible exact rfl | omega | with_reducible trivial | (intros; simp_all; done) | grind)) (by simp only [go_sem, eEntry]; exact rfl) ?_
    simp only [go_sem, eEntry]; exact rfl) ?_
  refine CW_cond (by simp only [go_sem, eEntry]; exact rfl) (fun c0 => ?_) (fun c0 => ?_)
  · skip
    skip
    refine W_reg (by simp only [go_sem, eEntry]; exact rfl) ?_
    refine CW_ret ?_
    refine bk_r ?_
    refine sq_r ?_
    simp only [go_sem, eEntry, entryFault]
    all_goals try first | refine int_res ?_ | refine bool_res ?_
    all_goals
      simp only [entryFault, cmdZero]
      grind
  · skip
    skip
    refine W_reg (by simp only [go_sem, eEntry]; exact rfl) ?_
    refine CW_cond (by simp only [go_sem, eEntry]; exact rfl) (fun c1 => ?_) (fun c1 => ?_)
    · skip
      skip
      refine W_reg (by simp only [go_sem, eEntry]; exact rfl) ?_
      refine CW_ret ?_
      refine bk_r ?_
      refine sq_r ?_
      simp only [go_sem, eEntry, entryFault]
      all_goals try first | refine int_res ?_ | refine bool_res ?_
      all_goals
        simp only [entryFault, cmdZero]
        grind
    · skip
      skip
      refine W_reg (by simp only [go_sem, eEntry]; exact rfl) ?_
      refine CW_cond (by simp only [go_sem, eEntry]; exact rfl) (fun c2 => ?_) (fun c2 => ?_)
      · skip
        skip
        refine W_reg (by
          refine RW_cut 2 (by simp only [go_sem, eEntry]; exact rfl) ?_
          refine RW_ls (by simp only [List.drop_succ_cons, List.drop_zero]; exact rfl) ?_
          refine RW_callN q_impl_CmdFault (s_impl_CmdFault _) true [] [] [] rfl rfl (by simp only [go_sem, eEntry] <;> and_intros <;> first | with_reducible exact rfl | omega | with_reducible trivial | (intros; simp_all; done) | grind) (by rfl) (by simp only [go_sem, eEntry]; exact rfl) ?_
          simp only [go_sem, eEntry]; exact rfl) ?_
        refine CW_ret ?_
        refine bk_r ?_
        refine sq_r ?_
        simp only [go_sem, eEntry, entryFault]
        all_goals try first | refine int_res ?_ | refine bool_res ?_
        all_goals
          simp only [entryFault, cmdZero]
          grind
      · skip
        skip
        refine W_reg (by simp only [go_sem, eEntry] <;> and_intros <;> first | with_reducible exact rfl | omega | with_reducible trivial | (intros; simp_all; done) | grind) ?_
        refine CW_cond (by simp only [go_sem, eEntry]; exact rfl) (fun c3 => ?_) (fun c3 => ?_)
        · skip
          skip
          refine W_reg (by simp only [go_sem, eEntry]; exact rfl) ?_
          refine CW_ret ?_
          refine bk_r ?_
          refine sq_r ?_
          simp only [go_sem, eEntry, entryFault]
          all_goals try first | refine int_res ?_ | refine bool_res ?_
          all_goals
            simp only [entryFault, cmdZero]
            grind
        · skip
          skip
          refine CW_skip ?_
          refine bk_n ?_
          refine sq_n ?_
          refine W_reg (by simp only [go_sem, eEntry]; exact rfl) ?_
          refine CW_ret ?_
          simp only [go_sem, eEntry, entryFault]
          all_goals try first | refine int_res ?_ | refine bool_res ?_
          all_goals
            simp only [entryFault, cmdZero]
            grind
end Go.H
end
section
set_option maxRecDepth 100000
set_option linter.unusedVariables false
set_option linter.unusedSimpArgs false
namespace Go.H
open Go Go.Proofs.Tryz
def c_impl_LogFault : SC :=
.seq (rg [
  ss 2 (.mv (.i .i64 0))] [0])
  (.seq (.seq (rg [
  ss 6 (.mv (.t 0)),
  sk 7 32768 (.len (.t 6)),
  ss 8 (.bin .gtr (.t 7) (.i .i64 40))] [0, 8])
  (.cond (.t 8) (.seq (rg [
  ss 2 (.mv (.i .i64 2))] [2])
  (.ret))
  (.skip)))
  (.seq (.seq (rg [
  ss 9 (.mv (.t 0)),
  sk 10 45056 (.len (.t 9)),
  ss 11 (.mv (.i .i64 0))] [0, 9, 10, 11])
  (.block 0 (.loop (.seq (rg [
  ss 12 (.bin .lss (.t 11) (.t 10))] [0, 9, 10, 11, 12])
  (.seq (.cond (.t 12) (.skip)
  (.exit 0))
  (.seq (.block 1 (.seq (rg [
  ss 13 (.mv (.t 11)),
  sd (some 14) 0 0 dEntry (.idx (.t 9) (.t 11) 9),
  sd (some 15) 0 0 dEntry (.load (.t 14) 9 true),
  sk 4 20480 (.alloc [.int .i64 0, .int .i64 0, .int .i64 0, .int .i64 0, .int .i64 0, .int .i64 0, .int .i64 0, .int .i64 0, .int .i64 0]),
  ss 3 (.mv (.t 13)),
  sx (.store (.t 4) (.t 15) 9)] [0, 3, 4, 9, 10, 11])
  (.seq (.seq (rg [
  ss 16 (.load (.t 4) 9 true),
  sk 17 73728 (.call (.f F.impl_EntryFault) [(.t 16, none)]),
  ss 5 (.mv (.t 17))] [0, 3, 4, 5, 9, 10, 11])
  (.seq (rg [
  ss 18 (.mv (.t 5)),
  ss 19 (.bin .neq (.t 18) (.i .i64 0))] [0, 3, 4, 5, 9, 10, 11, 19])
  (.cond (.t 19) (.seq (rg [
  ss 20 (.mv (.t 5)),
  ss 2 (.mv (.t 20))] [2])
  (.ret))
  (.skip))))
  (.seq (.reg true [
    ⟨(some 21), .mv (.t 3), none, [3], 0, 0, [], [], [], []⟩,
    ⟨(some 22), .bin .gtr (.t 21) (.i .i64 0), none, [21], 0, 0, [], [], [], []⟩,
    ⟨(some 23), .mv (.t 22), none, [22], 0, 0, [], [], [], []⟩,
    ⟨(some 24), .fad (.t 4) 0, (some (23, true)), [4, 23], 0, 0, [], [], [], []⟩,
    ⟨(some 25), .load (.t 24) 1 false, (some (23, true)), [24, 23], 0, 0, [], [24], [20480], []⟩,
    ⟨(some 26), .mv (.t 0), (some (23, true)), [0, 23], 0, 0, [], [], [], []⟩,
    ⟨(some 27), .mv (.t 3), (some (23, true)), [3, 23], 0, 0, [], [], [], []⟩,
    ⟨(some 28), .bin .sub (.t 27) (.i .i64 1), (some (23, true)), [27, 23], 1, 0, [], [27], [], []⟩,
    ⟨(some 29), .idx (.t 26) (.t 28) 9, (some (23, true)), [26, 28, 23], 0, 0, dEntry, [26, 28], [], []⟩,
    ⟨(some 30), .fad (.t 29) 0, (some (23, true)), [29, 23], 0, 0, [], [29], [], []⟩,
    ⟨(some 31), .load (.t 30) 1 false, (some (23, true)), [30, 23], 0, 0, dEntry, [30], [], []⟩,
    ⟨(some 32), .bin .lss (.t 25) (.t 31), (some (23, true)), [25, 31, 23], 0, 0, [], [25, 31], [], []⟩,
    ⟨(some 33), .pick (.t 23) (.t 32) (.b false), none, [23, 32], 0, 0, [], [], [], []⟩] (some ([0, 9, 10, 11, 33], [])))
  (.cond (.t 33) (.seq (rg [
  ss 2 (.mv (.i .i64 1))] [2])
  (.ret))
  (.skip))))))
  (rg [
  sh 34 1 (.bin .add (.t 11) (.i .i64 1)),
  ss 11 (.mv (.t 34))] [0, 9, 10, 11])))))))
  (.seq (rg [
  ss 2 (.mv (.i .i64 0))] [2])
  (.ret))))
theorem b_impl_LogFault : ∃ c, f138.body = some c ∧ compC prog 35 c = some c_impl_LogFault.er ∧ drawB c c_impl_LogFault = true := ⟨_, rfl, by kernel_rfl, by kernel_rfl⟩
theorem r_impl_LogFault : cmpR prog [.tmp 2] = some [.t 2] := by kernel_rfl
theorem q_impl_LogFault : callB prog F.impl_LogFault = true := by kernel_rfl
variable [Inv prog]
theorem s_impl_LogFault (xs : List Entry) (hl : xs.length ≤ 9223372036854775807) : SemX prog F.impl_LogFault [aT (.sl false 9 (xs.map eEntry))] [] [rI (logFault xs)] [] := by
  obtain ⟨cc, g1, g2, g3⟩ := b_impl_LogFault
  refine SemX.of_code func138 g1 (by rw [ntmps138]; exact g2) g3 (by rw [results138]; exact r_impl_LogFault) (by rw [ntmps138]; exact Nat.le_of_ble_eq_true rfl) (Nat.le_of_ble_eq_true rfl) (by simp) (by simp [argOk, aT, aI, aS, eEntry]) ?_
  unfold c_impl_LogFault
  simp only [rg]
  refine W_reg (by simp only [go_sem, eEntry]; exact rfl) ?_
  refine CW_assoc ?_
  refine W_reg (by simp only [go_sem, eEntry]; exact rfl) ?_
  refine CW_seq ?_
  refine CW_cond (by simp only [go_sem, eEntry]; exact rfl) (fun c0 => ?_) (fun c0 => ?_)
  · skip
    try simp only [b1, b2, b3, b4, b5, b6, b7] at c0
    refine W_reg (by simp only [go_sem, eEntry]; exact rfl) ?_
    refine CW_ret ?_
    refine sq_r ?_
    simp only [go_sem, eEntry]
    all_goals try first | refine int_res ?_ | refine bool_res ?_
    all_goals
      rw [logFault, if_pos (by omega)]
  · skip
    try simp only [b1, b2, b3, b4, b5, b6, b7] at c0
    refine CW_skip ?_
    refine sq_n ?_
    refine CW_assoc ?_
    refine W_reg (by simp only [go_sem, eEntry]; exact rfl) ?_
    refine CW_seq ?_
    refine CW_block ?_
    refine CW_loopS (α := Nat) (fun x => [(11, .int .i64 x)]) (fun x => []) (fun x => xs.length - x) (fun x => x ≤ xs.length ∧ logFault xs = scan (logBad xs) xs.length x) 0 [] ?_ ?_ ?_
    · (simp only [go_sem, eEntry])
    · exact ⟨Nat.zero_le _, by simp only [logFault]; rw [if_neg (by omega)]⟩
    · rintro x ⟨hI, he⟩
      refine CW_eq (by simp only [go_sem, eEntry]; exact rfl) ?_
      refine W_reg (by simp only [go_sem, eEntry]; exact rfl) ?_
      refine CW_seq ?_
      refine CW_cond (by simp only [go_sem, eEntry]; exact rfl) (fun c1 => ?_) (fun c1 => ?_)
      · skip
        try simp only [Bool.not_eq_eq_eq_not, Bool.not_true, Bool.not_false, decide_eq_true_eq, decide_eq_false_iff_not, Bool.and_eq_true, Bool.or_eq_true] at c1
        refine CW_skip ?_
        refine sq_n ?_
        refine CW_seq ?_
        refine CW_block ?_
        refine W_reg (by simp only [go_sem, eEntry] <;> and_intros <;> first | with_reducible exact rfl | omega | with_reducible trivial | (intros; simp_all; done) | grind) ?_
        refine CW_assoc ?_
        refine W_reg (by
          refine RW_cut 1 (by simp only [go_sem, eEntry]; exact rfl) ?_
          refine RW_ls (by simp only [List.drop_succ_cons, List.drop_zero]; exact rfl) ?_
          refine RW_callN q_impl_EntryFault (s_impl_EntryFault _) true [] [] [] rfl rfl (by simp only [go_sem, eEntry] <;> and_intros <;> first | with_reducible exact rfl | omega | with_reducible trivial | (intros; simp_all; done) | grind) (by rfl) (by simp only [go_sem, eEntry]; exact rfl) ?_
          simp only [go_sem, eEntry]; exact rfl) ?_
        refine CW_assoc ?_
        refine W_reg (by simp only [go_sem, eEntry]; exact rfl) ?_
        refine CW_seq ?_
        refine CW_cond (by simp only [go_sem, eEntry]; exact rfl) (fun c2 => ?_) (fun c2 => ?_)
        · skip
          try simp only [b1, b2, b3, b4, b5, b6, b7] at c2
          refine W_reg (by simp only [go_sem, eEntry]; exact rfl) ?_
          refine CW_ret ?_
          refine sq_r ?_
          refine bk_r ?_
          refine sq_r ?_
          refine lp_r ?_
          refine bk_r ?_
          refine sq_r ?_
          simp only [go_sem, eEntry]
          all_goals try first | refine int_res ?_ | refine bool_res ?_
          all_goals
            rw [he, scan_lt (by omega)]
            simp only [logBad]
            grind
        · skip
          try simp only [b1, b2, b3, b4, b5, b6, b7] at c2
          refine CW_skip ?_
          refine sq_n ?_
          refine W_drw (by simp only [go_sem, eEntry] <;> and_intros <;> first | with_reducible exact rfl | omega | with_reducible trivial | (intros; simp_all; done) | grind) ?_
          refine CW_cond (by simp only [go_sem, eEntry]; exact rfl) (fun c3 => ?_) (fun c3 => ?_)
          · skip
            try simp only [b1, b2, b3, b4, b5, b6, b7] at c3
            refine W_reg (by simp only [go_sem, eEntry]; exact rfl) ?_
            refine CW_ret ?_
            refine bk_r ?_
            refine sq_r ?_
            refine lp_r ?_
            refine bk_r ?_
            refine sq_r ?_
            simp only [go_sem, eEntry]
            all_goals try first | refine int_res ?_ | refine bool_res ?_
            all_goals
              rw [he, scan_lt (by omega)]
              simp only [logBad]
              grind
          · skip
            try simp only [b1, b2, b3, b4, b5, b6, b7] at c3
            refine CW_skip ?_
            refine bk_n ?_
            refine sq_n ?_
            refine W_regn (by simp only [go_sem, eEntry] <;> and_intros <;> first | with_reducible exact rfl | omega | with_reducible trivial | (intros; simp_all; done) | grind) ?_
            refine lp_next (x+1) [] ?_ ?_ ?_
            · (simp only [go_sem, eEntry])
            · refine ⟨by omega, ?_⟩
              rw [he, scan_lt (by omega)]
              simp only [logBad]
              grind
            · omega
      · skip
        try simp only [Bool.not_eq_eq_eq_not, Bool.not_true, Bool.not_false, decide_eq_true_eq, decide_eq_false_iff_not, Bool.and_eq_true, Bool.or_eq_true] at c1
        obtain rfl : x = xs.length := by omega
        refine CW_exit ?_
        refine sq_e ?_
        refine lp_e ?_
        refine bk_i ?_
        refine sq_n ?_
        refine W_reg (by simp only [go_sem, eEntry]; exact rfl) ?_
        refine CW_ret ?_
        simp only [go_sem, eEntry]
        all_goals try first | refine int_res ?_ | refine bool_res ?_
        all_goals
          rw [he, scan_ge (by omega)]
end Go.H
end
section
set_option maxRecDepth 100000
set_option linter.unusedVariables false
set_option linter.unusedSimpArgs false
namespace Go.H
open Go Go.Proofs.Tryz
def c_impl_last : SC :=
.seq (rg [
  sk 2 12288 (.alloc [.int .i64 0, .int .i64 0, .int .i64 0, .int .i64 0, .int .i64 0, .int .i64 0, .int .i64 0, .int .i64 0, .int .i64 0])] [0, 2])
  (.seq (.seq (rg [
  ss 3 (.mv (.t 0)),
  sk 4 20480 (.len (.t 3)),
  ss 5 (.bin .eql (.t 4) (.i .i64 0))] [0, 2, 5])
  (.cond (.t 5) (.seq (rg [
  ss 6 (.bld [.int .i64 0, .int .i64 0, .int .i64 0, .int .i64 0, .int .i64 0, .int .i64 0, .int .i64 0, .int .i64 0, .int .i64 0] []),
  sx (.store (.t 2) (.t 6) 9)] [2])
  (.ret))
  (.skip)))
  (.seq (rg [
  ss 7 (.mv (.t 0)),
  ss 8 (.mv (.t 0)),
  sk 9 40960 (.len (.t 8)),
  sh 10 1 (.bin .sub (.t 9) (.i .i64 1)),
  sd (some 11) 0 0 dEntry (.idx (.t 7) (.t 10) 9),
  sd (some 12) 0 0 dEntry (.load (.t 11) 9 true),
  sx (.store (.t 2) (.t 12) 9)] [2])
  (.ret)))
theorem b_impl_last : ∃ c, f139.body = some c ∧ compC prog 13 c = some c_impl_last.er ∧ drawB c c_impl_last = true := ⟨_, rfl, by kernel_rfl, by kernel_rfl⟩
theorem r_impl_last : cmpR prog [.cell 2 120] = some [.c 2 9 true] := by kernel_rfl
theorem q_impl_last : callB prog F.impl_last = true := by kernel_rfl
variable [Inv prog]
theorem s_impl_last (xs : List Entry) (hl : xs.length ≤ 9223372036854775807) : SemX prog F.impl_last [aT (.sl false 9 (xs.map eEntry))] [] [.agg (eEntry (lastE xs))] [] := by
  obtain ⟨cc, g1, g2, g3⟩ := b_impl_last
  refine SemX.of_code func139 g1 (by rw [ntmps139]; exact g2) g3 (by rw [results139]; exact r_impl_last) (by rw [ntmps139]; exact Nat.le_of_ble_eq_true rfl) (Nat.le_of_ble_eq_true rfl) (by simp) (by simp [argOk, aT, aI, aS, eEntry]) ?_
  unfold c_impl_last
  simp only [rg]
  refine W_reg (by simp only [go_sem, eEntry]; exact rfl) ?_
  refine CW_assoc ?_
  refine W_reg (by simp only [go_sem, eEntry]; exact rfl) ?_
  refine CW_seq ?_
  refine CW_cond (by simp only [go_sem, eEntry]; exact rfl) (fun c0 => ?_) (fun c0 => ?_)
  · skip
    try simp only [b1, b2, b3, b4, b5, b6, b7] at c0
    refine W_reg (by simp only [go_sem, eEntry]; exact rfl) ?_
    refine CW_ret ?_
    refine sq_r ?_
    simp only [go_sem, eEntry]
    all_goals try first | refine int_res ?_ | refine bool_res ?_
    all_goals
      have he : lastE xs = zEntry := by simp only [lastE]; rw [if_pos (by omega)]
      simp [he, zEntry, zCmd]
  · skip
    try simp only [b1, b2, b3, b4, b5, b6, b7] at c0
    refine CW_skip ?_
    refine sq_n ?_
    refine W_reg (by simp only [go_sem, eEntry] <;> and_intros <;> first | with_reducible exact rfl | omega | with_reducible trivial | (intros; simp_all; done) | grind) ?_
    refine CW_ret ?_
    simp only [go_sem, eEntry]
    all_goals try first | refine int_res ?_ | refine bool_res ?_
    all_goals
      have he : lastE xs = xs.getD (xs.length - 1) zEntry := by simp only [lastE]; rw [if_neg (by omega)]
      simp [he]
end Go.H
end
section
set_option maxRecDepth 100000
set_option linter.unusedVariables false
set_option linter.unusedSimpArgs false
namespace Go.H
open Go Go.Proofs.Tryz
def c_impl_size_Entry : SC :=
.seq (rg [
  ss 2 (.mv (.i .i64 0))] [0])
  (.seq (rg [
  ss 3 (.mv (.t 0)),
  sk 4 20480 (.len (.t 3)),
  ss 2 (.mv (.t 4))] [2])
  (.ret))
theorem b_impl_size_Entry : ∃ c, f141.body = some c ∧ compC prog 5 c = some c_impl_size_Entry.er ∧ drawB c c_impl_size_Entry = true := ⟨_, rfl, by kernel_rfl, by kernel_rfl⟩
theorem r_impl_size_Entry : cmpR prog [.tmp 2] = some [.t 2] := by kernel_rfl
theorem q_impl_size_Entry : callB prog F.impl_size_Entry = true := by kernel_rfl
variable [Inv prog]
theorem s_impl_size_Entry (rows : List (List T)) : SemX prog F.impl_size_Entry [.one (.t (.sl false 9 rows))] [] [.one (.int .i64 rows.length)] [] := by
  obtain ⟨cc, g1, g2, g3⟩ := b_impl_size_Entry
  refine SemX.of_code func141 g1 (by rw [ntmps141]; exact g2) g3 (by rw [results141]; exact r_impl_size_Entry) (by rw [ntmps141]; exact Nat.le_of_ble_eq_true rfl) (Nat.le_of_ble_eq_true rfl) (by simp) (by simp [argOk, aT, aI, aS]) ?_
  unfold c_impl_size_Entry
  simp only [rg]
  refine W_reg (by simp only [go_sem]; exact rfl) ?_
  refine W_reg (by simp only [go_sem]; exact rfl) ?_
  refine CW_ret ?_
  simp only [go_sem]
end Go.H
end
section
set_option maxRecDepth 100000
set_option linter.unusedVariables false
set_option linter.unusedSimpArgs false
namespace Go.H
open Go Go.Proofs.Tryz
def c_impl_size_int64 : SC :=
.seq (rg [
  ss 2 (.mv (.i .i64 0))] [0])
  (.seq (rg [
  ss 3 (.mv (.t 0)),
  sk 4 20480 (.len (.t 3)),
  ss 2 (.mv (.t 4))] [2])
  (.ret))
theorem b_impl_size_int64 : ∃ c, f178.body = some c ∧ compC prog 5 c = some c_impl_size_int64.er ∧ drawB c c_impl_size_int64 = true := ⟨_, rfl, by kernel_rfl, by kernel_rfl⟩
theorem r_impl_size_int64 : cmpR prog [.tmp 2] = some [.t 2] := by kernel_rfl
theorem q_impl_size_int64 : callB prog F.impl_size_int64 = true := by kernel_rfl
variable [Inv prog]
theorem s_impl_size_int64 (rows : List (List T)) : SemX prog F.impl_size_int64 [.one (.t (.sl false 1 rows))] [] [.one (.int .i64 rows.length)] [] := by
  obtain ⟨cc, g1, g2, g3⟩ := b_impl_size_int64
  refine SemX.of_code func178 g1 (by rw [ntmps178]; exact g2) g3 (by rw [results178]; exact r_impl_size_int64) (by rw [ntmps178]; exact Nat.le_of_ble_eq_true rfl) (Nat.le_of_ble_eq_true rfl) (by simp) (by simp [argOk, aT, aI, aS]) ?_
  unfold c_impl_size_int64
  simp only [rg]
  refine W_reg (by simp only [go_sem]; exact rfl) ?_
  refine W_reg (by simp only [go_sem]; exact rfl) ?_
  refine CW_ret ?_
  simp only [go_sem]
end Go.H
end
section
set_option maxRecDepth 100000
set_option linter.unusedVariables false
set_option linter.unusedSimpArgs false
namespace Go.H
open Go Go.Proofs.Tryz
def c_slices_IndexFunc_int64 : SC :=
.seq (rg [
  ss 4 (.mv (.i .i64 0))] [0, 1])
  (.seq (.seq (rg [
  ss 6 (.mv (.t 0)),
  sk 7 32768 (.len (.t 6)),
  ss 8 (.mv (.i .i64 0))] [0, 1, 7, 8])
  (.block 0 (.loop (.seq (rg [
  ss 9 (.bin .lss (.t 8) (.t 7))] [0, 1, 7, 8, 9])
  (.seq (.cond (.t 9) (.skip)
  (.exit 0))
  (.seq (.block 1 (.seq (rg [
  ss 10 (.mv (.t 8)),
  ss 5 (.mv (.t 10))] [0, 1, 5, 7, 8])
  (.seq (rg [
  ss 11 (.mv (.t 1)),
  ss 12 (.mv (.t 0)),
  ss 13 (.mv (.t 5)),
  sd (some 14) 0 0 dI_i64 (.idx (.t 12) (.t 13) 1),
  sd (some 15) 0 0 dI_i64 (.load (.t 14) 1 false),
  sk 16 69632 (.call (.t 11) [(.t 15, none)])] [0, 1, 5, 7, 8, 16])
  (.cond (.t 16) (.seq (rg [
  ss 17 (.mv (.t 5)),
  ss 4 (.mv (.t 17))] [4])
  (.ret))
  (.skip)))))
  (rg [
  sh 18 1 (.bin .add (.t 8) (.i .i64 1)),
  ss 8 (.mv (.t 18))] [0, 1, 7, 8])))))))
  (.seq (rg [
  ss 4 (.mv (.i .i64 (-1)))] [4])
  (.ret)))
theorem b_slices_IndexFunc_int64 : ∃ c, f192.body = some c ∧ compC prog 19 c = some c_slices_IndexFunc_int64.er ∧ drawB c c_slices_IndexFunc_int64 = true := ⟨_, rfl, by kernel_rfl, by kernel_rfl⟩
theorem r_slices_IndexFunc_int64 : cmpR prog [.tmp 4] = some [.t 4] := by kernel_rfl
theorem q_slices_IndexFunc_int64 : callB prog F.slices_IndexFunc_int64 = true := by kernel_rfl
variable [Inv prog]
theorem s_slices_IndexFunc_int64 (xs : List Int) (fn : Nat) (m : Int) (p : Int → Bool) (hq : callB prog fn = true) (hf : ∀ v, SemX prog fn [aI v, aT (.ptr [.int .i64 m])] [] [rB (p v)] []) (hl : xs.length ≤ 2097152) : SemX prog F.slices_IndexFunc_int64 [aT (.sl false 1 (xs.map eI_i64)), .one (.fn fn [.t (.ptr [.int .i64 m])])] [] [rI (idxP p xs)] [] := by
  obtain ⟨cc, g1, g2, g3⟩ := b_slices_IndexFunc_int64
  refine SemX.of_code func192 g1 (by rw [ntmps192]; exact g2) g3 (by rw [results192]; exact r_slices_IndexFunc_int64) (by rw [ntmps192]; exact Nat.le_of_ble_eq_true rfl) (Nat.le_of_ble_eq_true rfl) (by simp) (by simp [argOk, aT, aI, aS, eI_i64]) ?_
  unfold c_slices_IndexFunc_int64
  simp only [rg]
  refine W_reg (by simp only [go_sem, eI_i64]; exact rfl) ?_
  refine CW_assoc ?_
  refine W_reg (by simp only [go_sem, eI_i64]; exact rfl) ?_
  refine CW_seq ?_
  refine CW_block ?_
  refine CW_loopS (α := Nat) (fun x => [(8, .int .i64 x)]) (fun x => []) (fun x => xs.length - x) (fun x => x ≤ xs.length ∧ ∀ j, j < x → p (xs.getD j zI_i64) = false) 0 [] ?_ ?_ ?_
  · (simp only [go_sem, eI_i64])
  · exact ⟨Nat.zero_le _, fun j hj => absurd hj (by omega)⟩
  · rintro x ⟨hI, hj⟩
    refine CW_eq (by simp only [go_sem, eI_i64]; exact rfl) ?_
    refine W_reg (by simp only [go_sem, eI_i64]; exact rfl) ?_
    refine CW_seq ?_
    refine CW_cond (by simp only [go_sem, eI_i64]; exact rfl) (fun c0 => ?_) (fun c0 => ?_)
    · skip
      try simp only [b1, b2, b3, b4, b5, b6, b7] at c0
      refine CW_skip ?_
      refine sq_n ?_
      refine CW_seq ?_
      refine CW_block ?_
      refine W_reg (by simp only [go_sem, eI_i64]; exact rfl) ?_
      refine W_reg (by
        refine RW_cut 5 (by simp only [go_sem, eI_i64] <;> and_intros <;> first | with_reducible exact rfl | omega | with_reducible trivial | (intros; simp_all; done) | grind) ?_
        refine RW_ls (by simp only [List.drop_succ_cons, List.drop_zero]; exact rfl) ?_
        refine RW_callN hq (hf (xs.getD x zI_i64)) true [] [] [] rfl rfl (by simp only [go_sem, eI_i64]; exact rfl) (by rfl) (by simp only [go_sem, eI_i64]; exact rfl) ?_
        simp only [go_sem, eI_i64]; exact rfl) ?_
      refine CW_cond (by simp only [go_sem, eI_i64]; exact rfl) (fun c1 => ?_) (fun c1 => ?_)
      · skip
        try simp only [b1, b2, b3, b4, b5, b6, b7] at c1
        refine W_reg (by simp only [go_sem, eI_i64]; exact rfl) ?_
        refine CW_ret ?_
        refine bk_r ?_
        refine sq_r ?_
        refine lp_r ?_
        refine bk_r ?_
        refine sq_r ?_
        simp only [go_sem, eI_i64]
        all_goals try first | refine int_res ?_ | refine bool_res ?_
        all_goals
          rw [idxP_some (by omega) hj (by assumption)]
      · skip
        try simp only [b1, b2, b3, b4, b5, b6, b7] at c1
        refine CW_skip ?_
        refine bk_n ?_
        refine sq_n ?_
        refine W_regn (by simp only [go_sem, eI_i64] <;> and_intros <;> first | with_reducible exact rfl | omega | with_reducible trivial | (intros; simp_all; done) | grind) ?_
        refine lp_next (x+1) [] ?_ ?_ ?_
        · (simp only [go_sem, eI_i64])
        · refine ⟨by omega, fun j hj2 => ?_⟩
          rcases Nat.lt_or_ge j x with h | h
          · exact hj j h
          · rw [show j = x by omega]; assumption
        · omega
    · skip
      try simp only [b1, b2, b3, b4, b5, b6, b7] at c0
      refine CW_exit ?_
      refine sq_e ?_
      refine lp_e ?_
      refine bk_i ?_
      refine sq_n ?_
      refine W_reg (by simp only [go_sem, eI_i64]; exact rfl) ?_
      refine CW_ret ?_
      simp only [go_sem, eI_i64]
      all_goals try first | refine int_res ?_ | refine bool_res ?_
      all_goals
        rw [idxP_none (fun i hi => hj i (by omega))]
end Go.H
end
section
set_option maxRecDepth 100000
set_option linter.unusedVariables false
set_option linter.unusedSimpArgs false
namespace Go.H
open Go Go.Proofs.Tryz
def c_slices_ContainsFunc_int64 : SC :=
.seq (rg [
  ss 4 (.mv (.b false))] [0, 1])
  (.seq (rg [
  ss 5 (.mv (.t 0)),
  ss 6 (.mv (.t 1)),
  sk 7 32768 (.call (.f F.slices_IndexFunc_int64) [(.t 5, none), (.t 6, none)]),
  ss 8 (.bin .geq (.t 7) (.i .i64 0)),
  ss 4 (.mv (.t 8))] [4])
  (.ret))
theorem b_slices_ContainsFunc_int64 : ∃ c, f179.body = some c ∧ compC prog 9 c = some c_slices_ContainsFunc_int64.er ∧ drawB c c_slices_ContainsFunc_int64 = true := ⟨_, rfl, by kernel_rfl, by kernel_rfl⟩
theorem r_slices_ContainsFunc_int64 : cmpR prog [.tmp 4] = some [.t 4] := by kernel_rfl
theorem q_slices_ContainsFunc_int64 : callB prog F.slices_ContainsFunc_int64 = true := by kernel_rfl
variable [Inv prog]
theorem s_slices_ContainsFunc_int64 (xs : List Int) (fn : Nat) (m : Int) (p : Int → Bool) (hq : callB prog fn = true) (hf : ∀ v, SemX prog fn [aI v, aT (.ptr [.int .i64 m])] [] [rB (p v)] []) (hl : xs.length ≤ 2097152) : SemX prog F.slices_ContainsFunc_int64 [aT (.sl false 1 (xs.map eI_i64)), .one (.fn fn [.t (.ptr [.int .i64 m])])] [] [rB (decide (∃ i, i < xs.length ∧ p (xs.getD i zI_i64) = true))] [] := by
  obtain ⟨cc, g1, g2, g3⟩ := b_slices_ContainsFunc_int64
  refine SemX.of_code func179 g1 (by rw [ntmps179]; exact g2) g3 (by rw [results179]; exact r_slices_ContainsFunc_int64) (by rw [ntmps179]; exact Nat.le_of_ble_eq_true rfl) (Nat.le_of_ble_eq_true rfl) (by simp) (by simp [argOk, aT, aI, aS, idxP_ge]) ?_
  unfold c_slices_ContainsFunc_int64
  simp only [rg]
  refine W_reg (by simp only [go_sem, idxP_ge]; exact rfl) ?_
  refine W_reg (by
    refine RW_cut 2 (by simp only [go_sem, idxP_ge]; exact rfl) ?_
    refine RW_ls (by simp only [List.drop_succ_cons, List.drop_zero]; exact rfl) ?_
    refine RW_callN q_slices_IndexFunc_int64 (s_slices_IndexFunc_int64 xs fn m p hq hf hl) true [] [] [] rfl rfl (by simp only [go_sem, idxP_ge]; exact rfl) (by rfl) (by simp only [go_sem, idxP_ge]; exact rfl) ?_
    simp only [go_sem, idxP_ge]; exact rfl) ?_
  refine CW_ret ?_
  simp only [go_sem, idxP_ge]
end Go.H
end
section
set_option maxRecDepth 100000
set_option linter.unusedVariables false
set_option linter.unusedSimpArgs false
namespace Go.H
open Go Go.Proofs.Tryz
def c_impl_NodeFault_1 : SC :=
.seq (rg [
  ss 3 (.mv (.b false))] [0, 1])
  (.seq (rg [
  ss 4 (.mv (.t 0)),
  ss 5 (.load (.t 1) 1 false),
  sh 6 1 (.bin .add (.t 5) (.i .i64 1)),
  sk 7 32768 (.call (.f F.impl_in) [(.t 4, none), (.i .i64 1, none), (.t 6, none)]),
  ss 8 (.not (.t 7)),
  ss 3 (.mv (.t 8))] [3])
  (.ret))
theorem b_impl_NodeFault_1 : ∃ c, f180.body = some c ∧ compC prog 9 c = some c_impl_NodeFault_1.er ∧ drawB c c_impl_NodeFault_1 = true := ⟨_, rfl, by kernel_rfl, by kernel_rfl⟩
theorem r_impl_NodeFault_1 : cmpR prog [.tmp 3] = some [.t 3] := by kernel_rfl
theorem q_impl_NodeFault_1 : callB prog F.impl_NodeFault_1 = true := by kernel_rfl
variable [Inv prog]
theorem s_impl_NodeFault_1 (v m : Int) (h0 : 0 ≤ m) (h1 : m ≤ 2097152) : SemX prog F.impl_NodeFault_1 [aI v, aT (.ptr [.int .i64 m])] [] [rB (!inR v 1 (m + 1))] [] := by
  obtain ⟨cc, g1, g2, g3⟩ := b_impl_NodeFault_1
  refine SemX.of_code func180 g1 (by rw [ntmps180]; exact g2) g3 (by rw [results180]; exact r_impl_NodeFault_1) (by rw [ntmps180]; exact Nat.le_of_ble_eq_true rfl) (Nat.le_of_ble_eq_true rfl) (by simp) (by simp [argOk, aT, aI, aS]) ?_
  unfold c_impl_NodeFault_1
  simp only [rg]
  refine W_reg (by simp only [go_sem]; exact rfl) ?_
  refine W_reg (by
    refine RW_cut 3 (by simp only [go_sem] <;> and_intros <;> first | with_reducible exact rfl | omega | with_reducible trivial | (intros; simp_all; done) | grind) ?_
    refine RW_ls (by simp only [List.drop_succ_cons, List.drop_zero]; exact rfl) ?_
    refine RW_callN q_impl_in (s_impl_in v 1 (m + 1)) true [] [] [] rfl rfl (by simp only [go_sem]; exact rfl) (by rfl) (by simp only [go_sem]; exact rfl) ?_
    simp only [go_sem]; exact rfl) ?_
  refine CW_ret ?_
  simp only [go_sem]
end Go.H
end
section
set_option maxRecDepth 100000
set_option linter.unusedVariables false
set_option linter.unusedSimpArgs false
namespace Go.H
open Go Go.Proofs.Tryz
def c_impl_NodeFault_2 : SC :=
.seq (rg [
  ss 3 (.mv (.b false))] [0, 1])
  (.seq (rg [
  ss 4 (.mv (.t 0)),
  ss 5 (.load (.t 1) 1 false),
  sk 6 28672 (.call (.f F.impl_in) [(.t 4, none), (.i .i64 0, none), (.t 5, none)]),
  ss 7 (.not (.t 6)),
  ss 3 (.mv (.t 7))] [3])
  (.ret))
theorem b_impl_NodeFault_2 : ∃ c, f181.body = some c ∧ compC prog 8 c = some c_impl_NodeFault_2.er ∧ drawB c c_impl_NodeFault_2 = true := ⟨_, rfl, by kernel_rfl, by kernel_rfl⟩
theorem r_impl_NodeFault_2 : cmpR prog [.tmp 3] = some [.t 3] := by kernel_rfl
theorem q_impl_NodeFault_2 : callB prog F.impl_NodeFault_2 = true := by kernel_rfl
variable [Inv prog]
theorem s_impl_NodeFault_2 (v m : Int) : SemX prog F.impl_NodeFault_2 [aI v, aT (.ptr [.int .i64 m])] [] [rB (!inR v 0 m)] [] := by
  obtain ⟨cc, g1, g2, g3⟩ := b_impl_NodeFault_2
  refine SemX.of_code func181 g1 (by rw [ntmps181]; exact g2) g3 (by rw [results181]; exact r_impl_NodeFault_2) (by rw [ntmps181]; exact Nat.le_of_ble_eq_true rfl) (Nat.le_of_ble_eq_true rfl) (by simp) (by simp [argOk, aT, aI, aS]) ?_
  unfold c_impl_NodeFault_2
  simp only [rg]
  refine W_reg (by simp only [go_sem]; exact rfl) ?_
  refine W_reg (by
    refine RW_cut 2 (by simp only [go_sem]; exact rfl) ?_
    refine RW_ls (by simp only [List.drop_succ_cons, List.drop_zero]; exact rfl) ?_
    refine RW_callN q_impl_in (s_impl_in v 0 m) true [] [] [] rfl rfl (by simp only [go_sem]; exact rfl) (by rfl) (by simp only [go_sem]; exact rfl) ?_
    simp only [go_sem]; exact rfl) ?_
  refine CW_ret ?_
  simp only [go_sem]
end Go.H
end
section
set_option maxRecDepth 100000
set_option linter.unusedVariables false
set_option linter.unusedSimpArgs false
namespace Go.H
open Go Go.Proofs.Tryz
def c_impl_NodeFault : SC :=
.seq (rg [
  sk 1 8192 (.box (.t 0)),
  ss 2 (.mv (.i .i64 0))] [1])
  (.seq (.seq (rg [
  ss 8 (.fad (.t 1) 1),
  ss 9 (.load (.t 8) 1 false),
  sk 10 45056 (.call (.f F.impl_in) [(.t 9, none), (.i .i64 1, none), (.i .i64 5, none)]),
  ss 11 (.not (.t 10)),
  ss 12 (.mv (.t 11)),
  sg 13 (.fad (.t 1) 0) 12 false [],
  sg 14 (.load (.t 13) 1 false) 12 false [13],
  ⟨(some 15), .call (.f F.impl_Node_isId) [(.t 1, none), (.t 14, none)], (some (12, false)), [], 0, 65536, [], [14], [], []⟩,
  sg 16 (.not (.t 15)) 12 false [15],
  ss 17 (.pick (.t 12) (.b true) (.t 16)),
  ss 18 (.mv (.t 17)),
  sg 19 (.fad (.t 1) 2) 18 false [],
  sg 20 (.load (.t 19) 1 false) 18 false [19],
  ⟨(some 21), .call (.f F.impl_in) [(.t 20, none), (.i .i64 0, none), (.i .i64 100000, none)], (some (18, false)), [], 0, 90112, [], [20], [], []⟩,
  sg 22 (.not (.t 21)) 18 false [21],
  ss 23 (.pick (.t 18) (.b true) (.t 22)),
  ss 24 (.mv (.t 23)),
  sg 25 (.fad (.t 1) 3) 24 false [],
  sg 26 (.load (.t 25) 1 false) 24 false [25],
  sg 27 (.bin .neq (.t 26) (.i .i64 (-1))) 24 false [26],
  sg 28 (.mv (.t 27)) 24 false [27],
  sg 29 (.fad (.t 1) 3) 28 true [],
  sg 30 (.load (.t 29) 1 false) 28 true [29],
  ⟨(some 31), .call (.f F.impl_Node_isId) [(.t 1, none), (.t 30, none)], (some (28, true)), [], 0, 131072, [], [30], [], []⟩,
  sg 32 (.not (.t 31)) 28 true [31],
  sg 33 (.pick (.t 28) (.t 32) (.b false)) 24 false [28],
  ss 34 (.pick (.t 24) (.b true) (.t 33)),
  ss 35 (.mv (.t 34)),
  sg 36 (.fad (.t 1) 5) 35 false [],
  sg 37 (.load (.t 36) 1 false) 35 false [36],
  ⟨(some 38), .call (.f F.impl_in) [(.t 37, none), (.i .i64 0, none), (.i .i64 2, none)], (some (35, false)), [], 0, 159744, [], [37], [], []⟩,
  sg 39 (.not (.t 38)) 35 false [38],
  ss 40 (.pick (.t 35) (.b true) (.t 39))] [1, 40])
  (.cond (.t 40) (.seq (rg [
  ss 2 (.mv (.i .i64 3))] [2])
  (.ret))
  (.skip)))
  (.seq (.seq (rg [
  ss 41 (.fad (.t 1) 4),
  ss 42 (.load (.t 41) 1 false),
  sk 43 180224 (.call (.f F.impl_LogFault) [(.t 42, none)]),
  ss 3 (.mv (.t 43))] [1, 3])
  (.seq (rg [
  ss 44 (.mv (.t 3)),
  ss 45 (.bin .neq (.t 44) (.i .i64 0))] [1, 3, 45])
  (.cond (.t 45) (.seq (rg [
  ss 46 (.mv (.t 3)),
  ss 2 (.mv (.t 46))] [2])
  (.ret))
  (.skip))))
  (.seq (rg [
  ss 47 (.fad (.t 1) 4),
  ss 48 (.load (.t 47) 1 false),
  sk 49 204800 (.call (.f F.impl_size_Entry) [(.t 48, none)]),
  sk 4 20480 (.alloc [.int .i64 0]),
  sx (.store (.t 4) (.t 49) 1)] [1, 4])
  (.seq (.block 0 (.seq (.reg true [
    ⟨(some 51), .fad (.t 1) 4, none, [1], 0, 0, [], [], [], []⟩,
    ⟨(some 52), .load (.t 51) 1 false, none, [51], 0, 0, [], [], [8192], []⟩,
    ⟨(some 53), .call (.f F.impl_last) [(.t 52, none)], none, [52], 0, 221184, [], [], [], []⟩,
    ⟨(some 54), .fld (.t 53) 0 1 false, none, [53], 0, 0, [], [], [], []⟩,
    ⟨(some 55), .fad (.t 1) 2, none, [1], 0, 0, [], [], [], []⟩,
    ⟨(some 56), .load (.t 55) 1 false, none, [55], 0, 0, [], [], [8192], []⟩,
    ⟨(some 57), .bin .gtr (.t 54) (.t 56), none, [54, 56], 0, 0, [], [], [], []⟩,
    ⟨(some 50), .mv (.t 57), none, [57], 0, 0, [], [], [], []⟩] (some ([1, 4, 50], [])))
  (.cond (.t 50) (.seq (rg [
  ss 2 (.mv (.i .i64 1))] [2])
  (.ret))
  (.seq (rg [
  ss 59 (.fad (.t 1) 6),
  ss 60 (.load (.t 59) 1 false),
  ss 61 (.load (.t 4) 1 false),
  sk 62 258048 (.call (.f F.impl_in) [(.t 60, none), (.i .i64 0, none), (.t 61, none)]),
  ss 63 (.not (.t 62)),
  ss 58 (.mv (.t 63))] [1, 4, 58])
  (.cond (.t 58) (.seq (rg [
  ss 2 (.mv (.i .i64 3))] [2])
  (.ret))
  (.seq (rg [
  ss 65 (.fad (.t 1) 7),
  ss 66 (.load (.t 65) 1 false),
  sk 67 278528 (.len (.t 66)),
  ss 68 (.bin .gtr (.t 67) (.i .i64 0)),
  ss 69 (.mv (.t 68)),
  sg 70 (.fad (.t 1) 5) 69 true [],
  sg 71 (.load (.t 70) 1 false) 69 true [70],
  sg 72 (.bin .neq (.t 71) (.i .i64 1)) 69 true [71],
  ss 73 (.pick (.t 69) (.t 72) (.b false)),
  ss 64 (.mv (.t 73))] [1, 4, 64])
  (.cond (.t 64) (.seq (rg [
  ss 2 (.mv (.i .i64 1))] [2])
  (.ret))
  (.skip))))))))
  (.seq (.seq (rg [
  ss 74 (.fad (.t 1) 7),
  ss 75 (.load (.t 74) 1 false),
  sk 76 315392 (.len (.t 75)),
  ss 77 (.mv (.i .i64 0))] [1, 4, 75, 76, 77])
  (.block 1 (.loop (.seq (rg [
  ss 78 (.bin .lss (.t 77) (.t 76))] [1, 4, 75, 76, 77, 78])
  (.seq (.cond (.t 78) (.skip)
  (.exit 1))
  (.seq (.block 2 (.seq (rg [
  ss 79 (.mv (.t 77)),
  sd (some 80) 0 0 dI_i64 (.idx (.t 75) (.t 77) 1),
  sd (some 81) 0 0 dI_i64 (.load (.t 80) 1 false),
  ss 5 (.mv (.t 79)),
  ss 6 (.mv (.t 81))] [1, 4, 5, 6, 75, 76, 77])
  (.seq (rg [
  ss 82 (.mv (.t 6)),
  sk 83 344064 (.call (.f F.impl_Node_isId) [(.t 1, none), (.t 82, none)]),
  ss 84 (.not (.t 83)),
  ss 85 (.mv (.t 84)),
  sg 86 (.mv (.t 5)) 85 false [],
  sg 87 (.bin .gtr (.t 86) (.i .i64 0)) 85 false [86],
  sg 88 (.mv (.t 87)) 85 false [87],
  sg 89 (.mv (.t 6)) 88 true [],
  sg 90 (.fad (.t 1) 7) 88 true [],
  sg 91 (.load (.t 90) 1 false) 88 true [90],
  sg 92 (.mv (.t 5)) 88 true [],
  ⟨(some 93), .bin .sub (.t 92) (.i .i64 1), (some (88, true)), [], 1, 0, [], [92], [], []⟩,
  ⟨(some 94), .idx (.t 91) (.t 93) 1, (some (88, true)), [], 0, 0, dI_i64, [91, 93], [], []⟩,
  ⟨(some 95), .load (.t 94) 1 false, (some (88, true)), [], 0, 0, dI_i64, [94], [], []⟩,
  sg 96 (.bin .leq (.t 89) (.t 95)) 88 true [89, 95],
  sg 97 (.pick (.t 88) (.t 96) (.b false)) 85 false [88],
  ss 98 (.pick (.t 85) (.b true) (.t 97))] [1, 4, 75, 76, 77, 98])
  (.cond (.t 98) (.seq (rg [
  ss 2 (.mv (.i .i64 1))] [2])
  (.ret))
  (.skip)))))
  (rg [
  sh 99 1 (.bin .add (.t 77) (.i .i64 1)),
  ss 77 (.mv (.t 99))] [1, 4, 75, 76, 77])))))))
  (.seq (rg [
  ss 7 (.mv (.i .i64 0))] [1, 4, 7])
  (.seq (.seq (rg [
  ss 100 (.fad (.t 1) 5),
  ss 101 (.load (.t 100) 1 false),
  ss 102 (.bin .eql (.t 101) (.i .i64 2))] [1, 4, 7, 102])
  (.cond (.t 102) (rg [
  ss 103 (.fad (.t 1) 1),
  ss 104 (.load (.t 103) 1 false),
  ss 7 (.mv (.t 104))] [1, 4, 7])
  (.skip)))
  (.seq (.block 3 (.seq (rg [
  ss 106 (.fad (.t 1) 8),
  ss 107 (.load (.t 106) 1 false),
  sk 108 446464 (.call (.f F.impl_size_int64) [(.t 107, none)]),
  ss 109 (.mv (.t 7)),
  ss 110 (.bin .neq (.t 108) (.t 109)),
  ss 111 (.mv (.t 110)),
  sg 112 (.fad (.t 1) 9) 111 false [],
  sg 113 (.load (.t 112) 1 false) 111 false [112],
  ⟨(some 114), .call (.f F.impl_size_int64) [(.t 113, none)], (some (111, false)), [], 0, 471040, [], [113], [], []⟩,
  sg 115 (.mv (.t 7)) 111 false [],
  sg 116 (.bin .neq (.t 114) (.t 115)) 111 false [114, 115],
  ss 117 (.pick (.t 111) (.b true) (.t 116)),
  ss 105 (.mv (.t 117))] [1, 4, 105])
  (.cond (.t 105) (.seq (rg [
  ss 2 (.mv (.i .i64 1))] [2])
  (.ret))
  (.seq (rg [
  ss 119 (.fad (.t 1) 8),
  ss 120 (.load (.t 119) 1 false),
  ss 121 (.mkf F.impl_NodeFault_1 [.t 4]),
  sk 122 503808 (.call (.f F.slices_ContainsFunc_int64) [(.t 120, none), (.t 121, none)]),
  ss 118 (.mv (.t 122))] [1, 4, 118])
  (.cond (.t 118) (.seq (rg [
  ss 2 (.mv (.i .i64 3))] [2])
  (.ret))
  (.seq (rg [
  ss 124 (.fad (.t 1) 9),
  ss 125 (.load (.t 124) 1 false),
  ss 126 (.mkf F.impl_NodeFault_2 [.t 4]),
  sk 127 524288 (.call (.f F.slices_ContainsFunc_int64) [(.t 125, none), (.t 126, none)]),
  ss 123 (.mv (.t 127))] [1, 123])
  (.cond (.t 123) (.seq (rg [
  ss 2 (.mv (.i .i64 3))] [2])
  (.ret))
  (.seq (rg [
  ss 129 (.fad (.t 1) 5),
  ss 130 (.load (.t 129) 1 false),
  ss 131 (.bin .neq (.t 130) (.i .i64 0)),
  ss 132 (.mv (.t 131)),
  sg 133 (.fad (.t 1) 3) 132 true [],
  sg 134 (.load (.t 133) 1 false) 132 true [133],
  sg 135 (.fad (.t 1) 0) 132 true [],
  sg 136 (.load (.t 135) 1 false) 132 true [135],
  sg 137 (.bin .neq (.t 134) (.t 136)) 132 true [134, 136],
  sg 138 (.mv (.t 137)) 132 true [137],
  sg 139 (.fad (.t 1) 2) 138 false [],
  sg 140 (.load (.t 139) 1 false) 138 false [139],
  sg 141 (.bin .eql (.t 140) (.i .i64 0)) 138 false [140],
  sg 142 (.pick (.t 138) (.b true) (.t 141)) 132 true [138],
  ss 143 (.pick (.t 132) (.t 142) (.b false)),
  ss 128 (.mv (.t 143))] [128])
  (.cond (.t 128) (.seq (rg [
  ss 2 (.mv (.i .i64 1))] [2])
  (.ret))
  (.skip))))))))))
  (.seq (rg [
  ss 2 (.mv (.i .i64 0))] [2])
  (.ret))))))))))
theorem b_impl_NodeFault : ∃ c, f136.body = some c ∧ compC prog 144 c = some c_impl_NodeFault.er ∧ drawB c c_impl_NodeFault = true := ⟨_, rfl, by kernel_rfl, by kernel_rfl⟩
theorem r_impl_NodeFault : cmpR prog [.tmp 2] = some [.t 2] := by kernel_rfl
theorem q_impl_NodeFault : callB prog F.impl_NodeFault = true := by kernel_rfl
variable [Inv prog]
theorem s_impl_NodeFault (x : Node) (hx : limN 2097152 x) : SemX prog F.impl_NodeFault [aS (eNode false x)] [] [rI (nodeFault x)] [] := by
  obtain ⟨cc, g1, g2, g3⟩ := b_impl_NodeFault
  refine SemX.of_code func136 g1 (by rw [ntmps136]; exact g2) g3 (by rw [results136]; exact r_impl_NodeFault) (by rw [ntmps136]; exact Nat.le_of_ble_eq_true rfl) (Nat.le_of_ble_eq_true rfl) (by simp) (by simp [argOk, aT, aI, aS, eNode]) ?_
  unfold c_impl_NodeFault
  simp only [rg]
  obtain ⟨hx1, hx2, hx3, hx4⟩ := id hx
  refine W_reg (by simp only [go_sem, eNode]; exact rfl) ?_
  refine CW_assoc ?_
  refine W_reg (by
    refine RW_cut 2 (by simp only [go_sem, eNode]; exact rfl) ?_
    refine RW_ls (by simp only [List.drop_succ_cons, List.drop_zero]; exact rfl) ?_
    refine RW_callN q_impl_in (s_impl_in _ _ _) true [] [] [] rfl rfl (by simp only [go_sem, eNode] <;> and_intros <;> first | with_reducible exact rfl | omega | with_reducible trivial | (intros; simp_all; done) | grind) (by rfl) (by simp only [go_sem, eNode]; exact rfl) ?_
    refine RW_cut 4 (by simp only [go_sem, eNode]; exact rfl) ?_
    refine RW_ls (by simp only [List.drop_succ_cons, List.drop_zero]; exact rfl) ?_
    refine RW_callGN q_impl_Node_isId (s_impl_Node_isId x x.id) true rfl rfl (by simp only [go_sem, eNode]; exact rfl) (fun _ => (by simp only [go_sem, eNode]; exact rfl)) (by simp only [go_sem, eNode]; exact rfl) ?_
    refine RW_cut 5 (by simp only [go_sem, eNode]; exact rfl) ?_
    refine RW_ls (by simp only [List.drop_succ_cons, List.drop_zero]; exact rfl) ?_
    refine RW_callGN q_impl_in (s_impl_in _ _ _) true rfl rfl (by simp only [go_sem, eNode]; exact rfl) (fun _ => (by simp only [go_sem, eNode] <;> and_intros <;> first | with_reducible exact rfl | omega | with_reducible trivial | (intros; simp_all; done) | grind)) (by simp only [go_sem, eNode]; exact rfl) ?_
    refine RW_cut 9 (by simp only [go_sem, eNode]; exact rfl) ?_
    refine RW_ls (by simp only [List.drop_succ_cons, List.drop_zero]; exact rfl) ?_
    refine RW_callGN q_impl_Node_isId (s_impl_Node_isId x x.voted) true rfl rfl (by simp only [go_sem, eNode]; exact rfl) (fun _ => (by simp only [go_sem, eNode]; exact rfl)) (by simp only [go_sem, eNode]; exact rfl) ?_
    refine RW_cut 6 (by simp only [go_sem, eNode] <;> and_intros <;> first | with_reducible exact rfl | omega | with_reducible trivial | (intros; simp_all; done) | grind) ?_
    refine RW_ls (by simp only [List.drop_succ_cons, List.drop_zero]; exact rfl) ?_
    refine RW_callGN q_impl_in (s_impl_in _ _ _) true rfl rfl (by simp only [go_sem, eNode]; exact rfl) (fun _ => (by simp only [go_sem, eNode] <;> and_intros <;> first | with_reducible exact rfl | omega | with_reducible trivial | (intros; simp_all; done) | grind)) (by simp only [go_sem, eNode]; exact rfl) ?_
    simp only [go_sem, eNode]; exact rfl) ?_
  refine CW_seq ?_
  refine CW_cond (by simp only [go_sem, eNode]; exact rfl) (fun c0 => ?_) (fun c0 => ?_)
  · skip
    have hr : nodeRange x = false := by have hv := voted_eq x; unfold nodeRange; grind
    refine W_reg (by simp only [go_sem, eNode]; exact rfl) ?_
    refine CW_ret ?_
    refine sq_r ?_
    simp only [go_sem, eNode]
    all_goals try first | refine int_res ?_ | refine bool_res ?_
    all_goals
      unfold nodeFault rangeOk listsOk rises idsOk due
      grind
  · skip
    have hr : nodeRange x = true := by have hv := voted_eq x; unfold nodeRange; grind
    refine CW_skip ?_
    refine sq_n ?_
    refine CW_assoc ?_
    refine W_reg (by
      refine RW_cut 2 (by simp only [go_sem, eNode]; exact rfl) ?_
      refine RW_ls (by simp only [List.drop_succ_cons, List.drop_zero]; exact rfl) ?_
      refine RW_callN q_impl_LogFault (s_impl_LogFault x.log (by omega)) true [] [] [] rfl rfl (by simp only [go_sem, eNode]; exact rfl) (by rfl) (by simp only [go_sem, eNode]; exact rfl) ?_
      simp only [go_sem, eNode]; exact rfl) ?_
    refine CW_assoc ?_
    refine W_reg (by simp only [go_sem, eNode]; exact rfl) ?_
    refine CW_seq ?_
    refine CW_cond (by simp only [go_sem, eNode]; exact rfl) (fun c1 => ?_) (fun c1 => ?_)
    · skip
      try simp only [b1, b2, b3, b4, b5, b6, b7] at c1
      refine W_reg (by simp only [go_sem, eNode]; exact rfl) ?_
      refine CW_ret ?_
      refine sq_r ?_
      simp only [go_sem, eNode]
      all_goals try first | refine int_res ?_ | refine bool_res ?_
      all_goals
        unfold nodeFault rangeOk listsOk rises idsOk due
        grind
    · skip
      try simp only [b1, b2, b3, b4, b5, b6, b7] at c1
      refine CW_skip ?_
      refine sq_n ?_
      refine W_reg (by
        refine RW_cut 2 (by simp only [go_sem, eNode]; exact rfl) ?_
        refine RW_ls (by simp only [List.drop_succ_cons, List.drop_zero]; exact rfl) ?_
        refine RW_callN q_impl_size_Entry (s_impl_size_Entry (x.log.map eEntry)) true [] [] [] rfl rfl (by simp only [go_sem, eNode]; exact rfl) (by rfl) (by simp only [go_sem, eNode]; exact rfl) ?_
        simp only [go_sem, eNode]; exact rfl) ?_
      refine CW_seq ?_
      refine CW_block ?_
      refine W_drw (by
        refine DW_cut 2 (by simp only [go_sem, eNode]; exact rfl) ?_
        refine DW_ls (by simp only [List.drop_succ_cons, List.drop_zero]; exact rfl) ?_
        refine DW_callN q_impl_last (s_impl_last x.log (by omega)) true [] [] [] rfl rfl (by simp only [go_sem, eNode, eEntry]; exact rfl) (by rfl) (by simp only [go_sem, eNode]; exact rfl) ?_
        simp only [go_sem, eNode]; exact rfl) ?_
      refine CW_cond (by simp only [go_sem, eNode]; exact rfl) (fun c2 => ?_) (fun c2 => ?_)
      · skip
        try simp only [b1, b2, b3, b4, b5, b6, b7] at c2
        refine W_reg (by simp only [go_sem, eNode]; exact rfl) ?_
        refine CW_ret ?_
        refine bk_r ?_
        refine sq_r ?_
        simp only [go_sem, eNode]
        all_goals try first | refine int_res ?_ | refine bool_res ?_
        all_goals
          unfold nodeFault rangeOk listsOk rises idsOk due
          grind
      · skip
        try simp only [b1, b2, b3, b4, b5, b6, b7] at c2
        refine W_reg (by
          refine RW_cut 3 (by simp only [go_sem, eNode]; exact rfl) ?_
          refine RW_ls (by simp only [List.drop_succ_cons, List.drop_zero]; exact rfl) ?_
          refine RW_callN q_impl_in (s_impl_in _ _ _) true [] [] [] rfl rfl (by simp only [go_sem, eNode] <;> and_intros <;> first | with_reducible exact rfl | omega | with_reducible trivial | (intros; simp_all; done) | grind) (by rfl) (by simp only [go_sem, eNode]; exact rfl) ?_
          simp only [go_sem, eNode]; exact rfl) ?_
        refine CW_cond (by simp only [go_sem, eNode]; exact rfl) (fun c3 => ?_) (fun c3 => ?_)
        · skip
          try simp only [b1, b2, b3, b4, b5, b6, b7] at c3
          refine W_reg (by simp only [go_sem, eNode]; exact rfl) ?_
          refine CW_ret ?_
          refine bk_r ?_
          refine sq_r ?_
          simp only [go_sem, eNode]
          all_goals try first | refine int_res ?_ | refine bool_res ?_
          all_goals
            unfold nodeFault rangeOk listsOk rises idsOk due
            grind
        · skip
          try simp only [b1, b2, b3, b4, b5, b6, b7] at c3
          refine W_reg (by simp only [go_sem, eNode]; exact rfl) ?_
          refine CW_cond (by simp only [go_sem, eNode]; exact rfl) (fun c4 => ?_) (fun c4 => ?_)
          · skip
            try simp only [b1, b2, b3, b4, b5, b6, b7] at c4
            refine W_reg (by simp only [go_sem, eNode]; exact rfl) ?_
            refine CW_ret ?_
            refine bk_r ?_
            refine sq_r ?_
            simp only [go_sem, eNode]
            all_goals try first | refine int_res ?_ | refine bool_res ?_
            all_goals
              unfold nodeFault rangeOk listsOk rises idsOk due
              grind
          · skip
            try simp only [b1, b2, b3, b4, b5, b6, b7] at c4
            refine CW_skip ?_
            refine bk_n ?_
            refine sq_n ?_
            refine CW_assoc ?_
            refine W_reg (by simp only [go_sem, eNode]; exact rfl) ?_
            refine CW_seq ?_
            refine CW_block ?_
            refine CW_loopS (α := Nat) (fun i => [(77, .int .i64 i)]) (fun i => []) (fun i => x.votes.length - i) (fun i => i ≤ x.votes.length ∧ ∀ j, j < i → isId x (x.votes.getD j zI_i64) = true ∧ (0 < j → x.votes.getD (j - 1) zI_i64 < x.votes.getD j zI_i64)) 0 [] ?_ ?_ ?_
            · (simp only [go_sem, eNode])
            · exact ⟨Nat.zero_le _, fun j hj => absurd hj (by omega)⟩
            · rintro i ⟨hI, hj⟩
              refine CW_eq (by simp only [go_sem, eNode]; exact rfl) ?_
              refine W_reg (by simp only [go_sem, eNode]; exact rfl) ?_
              refine CW_seq ?_
              refine CW_cond (by simp only [go_sem, eNode]; exact rfl) (fun c5 => ?_) (fun c5 => ?_)
              · skip
                try simp only [Bool.not_eq_eq_eq_not, Bool.not_true, Bool.not_false, decide_eq_true_eq, decide_eq_false_iff_not, Bool.and_eq_true, Bool.or_eq_true] at c5
                refine CW_skip ?_
                refine sq_n ?_
                refine CW_seq ?_
                refine CW_block ?_
                refine W_reg (by simp only [go_sem, eNode] <;> and_intros <;> first | with_reducible exact rfl | omega | with_reducible trivial | (intros; simp_all; done) | grind) ?_
                refine W_reg (by
                  refine RW_cut 1 (by simp only [go_sem, eNode]; exact rfl) ?_
                  refine RW_ls (by simp only [List.drop_succ_cons, List.drop_zero]; exact rfl) ?_
                  refine RW_callN q_impl_Node_isId (s_impl_Node_isId x (x.votes.getD i zI_i64)) true [] [] [] rfl rfl (by simp only [go_sem, eNode]; exact rfl) (by rfl) (by simp only [go_sem, eNode]; exact rfl) ?_
                  simp only [go_sem, eNode] <;> and_intros <;> first | with_reducible exact rfl | omega | with_reducible trivial | (intros; simp_all; done) | grind) ?_
                refine CW_cond (by simp only [go_sem, eNode]; exact rfl) (fun c6 => ?_) (fun c6 => ?_)
                · skip
                  try simp only [b1, b2, b3, b4, b5, b6, b7] at c6
                  refine W_reg (by simp only [go_sem, eNode]; exact rfl) ?_
                  refine CW_ret ?_
                  refine bk_r ?_
                  refine sq_r ?_
                  refine lp_r ?_
                  refine bk_r ?_
                  refine sq_r ?_
                  simp only [go_sem, eNode]
                  all_goals try first | refine int_res ?_ | refine bool_res ?_
                  all_goals
                    unfold nodeFault rangeOk listsOk rises idsOk due
                    grind
                · skip
                  try simp only [b1, b2, b3, b4, b5, b6, b7] at c6
                  refine CW_skip ?_
                  refine bk_n ?_
                  refine sq_n ?_
                  refine W_regn (by simp only [go_sem, eNode] <;> and_intros <;> first | with_reducible exact rfl | omega | with_reducible trivial | (intros; simp_all; done) | grind) ?_
                  refine lp_next (i+1) [] ?_ ?_ ?_
                  · (simp only [go_sem, eNode])
                  · refine ⟨by omega, fun j hj2 => ?_⟩
                    rcases Nat.lt_or_ge j i with h | h
                    · exact hj j h
                    · rw [show j = i by omega]; grind
                  · omega
              · skip
                try simp only [Bool.not_eq_eq_eq_not, Bool.not_true, Bool.not_false, decide_eq_true_eq, decide_eq_false_iff_not, Bool.and_eq_true, Bool.or_eq_true] at c5
                obtain rfl : i = x.votes.length := by omega
                refine CW_exit ?_
                refine sq_e ?_
                refine lp_e ?_
                refine bk_i ?_
                refine sq_n ?_
                refine W_reg (by simp only [go_sem, eNode]; exact rfl) ?_
                refine CW_assoc ?_
                refine W_reg (by simp only [go_sem, eNode]; exact rfl) ?_
                refine CW_seq ?_
                refine CW_cond (by simp only [go_sem, eNode]; exact rfl) (fun c7 => ?_) (fun c7 => ?_)
                · skip
                  try simp only [b1, b2, b3, b4, b5, b6, b7] at c7
                  refine W_regn (by simp only [go_sem, eNode]; exact rfl) ?_
                  refine sq_n ?_
                  refine CW_seq ?_
                  refine CW_block ?_
                  refine W_reg (by
                    refine RW_cut 2 (by simp only [go_sem, eNode]; exact rfl) ?_
                    refine RW_ls (by simp only [List.drop_succ_cons, List.drop_zero]; exact rfl) ?_
                    refine RW_callN q_impl_size_int64 (s_impl_size_int64 (x.next.map eI_i64)) true [] [] [] rfl rfl (by simp only [go_sem, eNode]; exact rfl) (by rfl) (by simp only [go_sem, eNode]; exact rfl) ?_
                    refine RW_cut 5 (by simp only [go_sem, eNode]; exact rfl) ?_
                    refine RW_ls (by simp only [List.drop_succ_cons, List.drop_zero]; exact rfl) ?_
                    refine RW_callGN q_impl_size_int64 (s_impl_size_int64 (x.match_.map eI_i64)) true rfl rfl (by simp only [go_sem, eNode]; exact rfl) (fun _ => (by simp only [go_sem, eNode]; exact rfl)) (by simp only [go_sem, eNode]; exact rfl) ?_
                    simp only [go_sem, eNode]; exact rfl) ?_
                  refine CW_cond (by simp only [go_sem, eNode]; exact rfl) (fun c8 => ?_) (fun c8 => ?_)
                  · skip
                    try simp only [b1, b2, b3, b4, b5, b6, b7] at c8
                    refine W_reg (by simp only [go_sem, eNode]; exact rfl) ?_
                    refine CW_ret ?_
                    refine bk_r ?_
                    refine sq_r ?_
                    simp only [go_sem, eNode]
                    all_goals try first | refine int_res ?_ | refine bool_res ?_
                    all_goals
                      unfold nodeFault rangeOk listsOk rises idsOk due
                      grind
                  · skip
                    try simp only [b1, b2, b3, b4, b5, b6, b7] at c8
                    refine W_reg (by
                      refine RW_cut 3 (by simp only [go_sem, eNode]; exact rfl) ?_
                      refine RW_ls (by simp only [List.drop_succ_cons, List.drop_zero]; exact rfl) ?_
                      refine RW_callN q_slices_ContainsFunc_int64 (s_slices_ContainsFunc_int64 x.next F.impl_NodeFault_1 x.log.length (fun k => !inR k 1 (x.log.length + 1)) q_impl_NodeFault_1 (fun v => s_impl_NodeFault_1 v _ (by omega) (by omega)) hx3) true [] [] [] rfl rfl (by simp only [go_sem, eNode]; exact rfl) (by rfl) (by simp only [go_sem, eNode]; exact rfl) ?_
                      simp only [go_sem, eNode]; exact rfl) ?_
                    refine CW_cond (by simp only [go_sem, eNode]; exact rfl) (fun c9 => ?_) (fun c9 => ?_)
                    · skip
                      try simp only [b1, b2, b3, b4, b5, b6, b7] at c9
                      refine W_reg (by simp only [go_sem, eNode]; exact rfl) ?_
                      refine CW_ret ?_
                      refine bk_r ?_
                      refine sq_r ?_
                      simp only [go_sem, eNode]
                      all_goals try first | refine int_res ?_ | refine bool_res ?_
                      all_goals
                        unfold nodeFault rangeOk listsOk rises idsOk due
                        grind
                    · skip
                      try simp only [b1, b2, b3, b4, b5, b6, b7] at c9
                      refine W_reg (by
                        refine RW_cut 3 (by simp only [go_sem, eNode]; exact rfl) ?_
                        refine RW_ls (by simp only [List.drop_succ_cons, List.drop_zero]; exact rfl) ?_
                        refine RW_callN q_slices_ContainsFunc_int64 (s_slices_ContainsFunc_int64 x.match_ F.impl_NodeFault_2 x.log.length (fun k => !inR k 0 x.log.length) q_impl_NodeFault_2 (fun v => s_impl_NodeFault_2 v _) hx4) true [] [] [] rfl rfl (by simp only [go_sem, eNode]; exact rfl) (by rfl) (by simp only [go_sem, eNode]; exact rfl) ?_
                        simp only [go_sem, eNode]; exact rfl) ?_
                      refine CW_cond (by simp only [go_sem, eNode]; exact rfl) (fun c10 => ?_) (fun c10 => ?_)
                      · skip
                        try simp only [b1, b2, b3, b4, b5, b6, b7] at c10
                        refine W_reg (by simp only [go_sem, eNode]; exact rfl) ?_
                        refine CW_ret ?_
                        refine bk_r ?_
                        refine sq_r ?_
                        simp only [go_sem, eNode]
                        all_goals try first | refine int_res ?_ | refine bool_res ?_
                        all_goals
                          unfold nodeFault rangeOk listsOk rises idsOk due
                          grind
                      · skip
                        try simp only [b1, b2, b3, b4, b5, b6, b7] at c10
                        refine W_reg (by simp only [go_sem, eNode] <;> and_intros <;> first | with_reducible exact rfl | omega | with_reducible trivial | (intros; simp_all; done) | grind) ?_
                        refine CW_cond (by simp only [go_sem, eNode]; exact rfl) (fun c11 => ?_) (fun c11 => ?_)
                        · skip
                          try simp only [b1, b2, b3, b4, b5, b6, b7] at c11
                          refine W_reg (by simp only [go_sem, eNode]; exact rfl) ?_
                          refine CW_ret ?_
                          refine bk_r ?_
                          refine sq_r ?_
                          simp only [go_sem, eNode]
                          all_goals try first | refine int_res ?_ | refine bool_res ?_
                          all_goals
                            unfold nodeFault rangeOk listsOk rises idsOk due
                            grind
                        · skip
                          try simp only [b1, b2, b3, b4, b5, b6, b7] at c11
                          refine CW_skip ?_
                          refine bk_n ?_
                          refine sq_n ?_
                          refine W_reg (by simp only [go_sem, eNode]; exact rfl) ?_
                          refine CW_ret ?_
                          simp only [go_sem, eNode]
                          all_goals try first | refine int_res ?_ | refine bool_res ?_
                          all_goals
                            unfold nodeFault rangeOk listsOk rises idsOk due
                            grind
                · skip
                  try simp only [b1, b2, b3, b4, b5, b6, b7] at c7
                  refine CW_skip ?_
                  refine sq_n ?_
                  refine CW_seq ?_
                  refine CW_block ?_
                  refine W_reg (by
                    refine RW_cut 2 (by simp only [go_sem, eNode]; exact rfl) ?_
                    refine RW_ls (by simp only [List.drop_succ_cons, List.drop_zero]; exact rfl) ?_
                    refine RW_callN q_impl_size_int64 (s_impl_size_int64 (x.next.map eI_i64)) true [] [] [] rfl rfl (by simp only [go_sem, eNode]; exact rfl) (by rfl) (by simp only [go_sem, eNode]; exact rfl) ?_
                    refine RW_cut 5 (by simp only [go_sem, eNode]; exact rfl) ?_
                    refine RW_ls (by simp only [List.drop_succ_cons, List.drop_zero]; exact rfl) ?_
                    refine RW_callGN q_impl_size_int64 (s_impl_size_int64 (x.match_.map eI_i64)) true rfl rfl (by simp only [go_sem, eNode]; exact rfl) (fun _ => (by simp only [go_sem, eNode]; exact rfl)) (by simp only [go_sem, eNode]; exact rfl) ?_
                    simp only [go_sem, eNode]; exact rfl) ?_
                  refine CW_cond (by simp only [go_sem, eNode]; exact rfl) (fun c8 => ?_) (fun c8 => ?_)
                  · skip
                    try simp only [b1, b2, b3, b4, b5, b6, b7] at c8
                    refine W_reg (by simp only [go_sem, eNode]; exact rfl) ?_
                    refine CW_ret ?_
                    refine bk_r ?_
                    refine sq_r ?_
                    simp only [go_sem, eNode]
                    all_goals try first | refine int_res ?_ | refine bool_res ?_
                    all_goals
                      unfold nodeFault rangeOk listsOk rises idsOk due
                      grind
                  · skip
                    try simp only [b1, b2, b3, b4, b5, b6, b7] at c8
                    refine W_reg (by
                      refine RW_cut 3 (by simp only [go_sem, eNode]; exact rfl) ?_
                      refine RW_ls (by simp only [List.drop_succ_cons, List.drop_zero]; exact rfl) ?_
                      refine RW_callN q_slices_ContainsFunc_int64 (s_slices_ContainsFunc_int64 x.next F.impl_NodeFault_1 x.log.length (fun k => !inR k 1 (x.log.length + 1)) q_impl_NodeFault_1 (fun v => s_impl_NodeFault_1 v _ (by omega) (by omega)) hx3) true [] [] [] rfl rfl (by simp only [go_sem, eNode]; exact rfl) (by rfl) (by simp only [go_sem, eNode]; exact rfl) ?_
                      simp only [go_sem, eNode]; exact rfl) ?_
                    refine CW_cond (by simp only [go_sem, eNode]; exact rfl) (fun c9 => ?_) (fun c9 => ?_)
                    · skip
                      try simp only [b1, b2, b3, b4, b5, b6, b7] at c9
                      refine W_reg (by simp only [go_sem, eNode]; exact rfl) ?_
                      refine CW_ret ?_
                      refine bk_r ?_
                      refine sq_r ?_
                      simp only [go_sem, eNode]
                      all_goals try first | refine int_res ?_ | refine bool_res ?_
                      all_goals
                        unfold nodeFault rangeOk listsOk rises idsOk due
                        grind
                    · skip
                      try simp only [b1, b2, b3, b4, b5, b6, b7] at c9
                      refine W_reg (by
                        refine RW_cut 3 (by simp only [go_sem, eNode]; exact rfl) ?_
                        refine RW_ls (by simp only [List.drop_succ_cons, List.drop_zero]; exact rfl) ?_
                        refine RW_callN q_slices_ContainsFunc_int64 (s_slices_ContainsFunc_int64 x.match_ F.impl_NodeFault_2 x.log.length (fun k => !inR k 0 x.log.length) q_impl_NodeFault_2 (fun v => s_impl_NodeFault_2 v _) hx4) true [] [] [] rfl rfl (by simp only [go_sem, eNode]; exact rfl) (by rfl) (by simp only [go_sem, eNode]; exact rfl) ?_
                        simp only [go_sem, eNode]; exact rfl) ?_
                      refine CW_cond (by simp only [go_sem, eNode]; exact rfl) (fun c10 => ?_) (fun c10 => ?_)
                      · skip
                        try simp only [b1, b2, b3, b4, b5, b6, b7] at c10
                        refine W_reg (by simp only [go_sem, eNode]; exact rfl) ?_
                        refine CW_ret ?_
                        refine bk_r ?_
                        refine sq_r ?_
                        simp only [go_sem, eNode]
                        all_goals try first | refine int_res ?_ | refine bool_res ?_
                        all_goals
                          unfold nodeFault rangeOk listsOk rises idsOk due
                          grind
                      · skip
                        try simp only [b1, b2, b3, b4, b5, b6, b7] at c10
                        refine W_reg (by simp only [go_sem, eNode] <;> and_intros <;> first | with_reducible exact rfl | omega | with_reducible trivial | (intros; simp_all; done) | grind) ?_
                        refine CW_cond (by simp only [go_sem, eNode]; exact rfl) (fun c11 => ?_) (fun c11 => ?_)
                        · skip
                          try simp only [b1, b2, b3, b4, b5, b6, b7] at c11
                          refine W_reg (by simp only [go_sem, eNode]; exact rfl) ?_
                          refine CW_ret ?_
                          refine bk_r ?_
                          refine sq_r ?_
                          simp only [go_sem, eNode]
                          all_goals try first | refine int_res ?_ | refine bool_res ?_
                          all_goals
                            unfold nodeFault rangeOk listsOk rises idsOk due
                            grind
                        · skip
                          try simp only [b1, b2, b3, b4, b5, b6, b7] at c11
                          refine CW_skip ?_
                          refine bk_n ?_
                          refine sq_n ?_
                          refine W_reg (by simp only [go_sem, eNode]; exact rfl) ?_
                          refine CW_ret ?_
                          simp only [go_sem, eNode]
                          all_goals try first | refine int_res ?_ | refine bool_res ?_
                          all_goals
                            unfold nodeFault rangeOk listsOk rises idsOk due
                            grind
end Go.H
end
section
set_option maxRecDepth 100000
set_option linter.unusedVariables false
set_option linter.unusedSimpArgs false
namespace Go.H
open Go Go.Proofs.Tryz
def c_impl_MailFault : SC :=
.seq (rg [
  sk 2 12288 (.box (.t 0)),
  sk 3 16384 (.box (.t 1)),
  ss 4 (.mv (.i .i64 0))] [2, 3])
  (.seq (.seq (rg [
  ss 8 (.load (.t 2) 10 true),
  sk 9 40960 (.call (.f F.impl_NodeFault) [(.t 8, none)]),
  ss 5 (.mv (.t 9))] [2, 3, 5])
  (.seq (rg [
  ss 10 (.mv (.t 5)),
  ss 11 (.bin .neq (.t 10) (.i .i64 0))] [2, 3, 5, 11])
  (.cond (.t 11) (.seq (rg [
  ss 12 (.mv (.t 5)),
  ss 4 (.mv (.t 12))] [4])
  (.ret))
  (.skip))))
  (.seq (.block 0 (.seq (rg [
  ss 14 (.fad (.t 3) 0),
  ss 15 (.load (.t 14) 1 false),
  sk 16 69632 (.call (.f F.impl_in) [(.t 15, none), (.i .i64 1, none), (.i .i64 4, none)]),
  ss 17 (.not (.t 16)),
  ss 13 (.mv (.t 17))] [2, 3, 13])
  (.cond (.t 13) (.seq (rg [
  ss 4 (.mv (.i .i64 5))] [4])
  (.ret))
  (.seq (rg [
  ss 19 (.fad (.t 3) 1),
  ss 20 (.load (.t 19) 1 false),
  sk 21 90112 (.call (.f F.impl_Node_isId) [(.t 2, none), (.t 20, none)]),
  ss 22 (.not (.t 21)),
  ss 23 (.mv (.t 22)),
  sg 24 (.fad (.t 3) 1) 23 false [],
  sg 25 (.load (.t 24) 1 false) 23 false [24],
  sg 26 (.fad (.t 2) 0) 23 false [],
  sg 27 (.load (.t 26) 1 false) 23 false [26],
  sg 28 (.bin .eql (.t 25) (.t 27)) 23 false [25, 27],
  ss 29 (.pick (.t 23) (.b true) (.t 28)),
  ss 30 (.mv (.t 29)),
  sg 31 (.fad (.t 3) 2) 30 false [],
  sg 32 (.load (.t 31) 1 false) 30 false [31],
  sg 33 (.fad (.t 2) 0) 30 false [],
  sg 34 (.load (.t 33) 1 false) 30 false [33],
  sg 35 (.bin .neq (.t 32) (.t 34)) 30 false [32, 34],
  ss 36 (.pick (.t 30) (.b true) (.t 35)),
  ss 37 (.mv (.t 36)),
  sg 38 (.fad (.t 3) 3) 37 false [],
  sg 39 (.load (.t 38) 1 false) 37 false [38],
  ⟨(some 40), .call (.f F.impl_in) [(.t 39, none), (.i .i64 1, none), (.i .i64 100000, none)], (some (37, false)), [], 0, 167936, [], [39], [], []⟩,
  sg 41 (.not (.t 40)) 37 false [40],
  ss 42 (.pick (.t 37) (.b true) (.t 41)),
  ss 18 (.mv (.t 42))] [3, 18])
  (.cond (.t 18) (.seq (rg [
  ss 4 (.mv (.i .i64 3))] [4])
  (.ret))
  (.seq (rg [
  ss 44 (.fad (.t 3) 4),
  ss 45 (.load (.t 44) 1 false),
  sk 46 192512 (.call (.f F.impl_in) [(.t 45, none), (.i .i64 0, none), (.i .i64 40, none)]),
  ss 47 (.not (.t 46)),
  ss 48 (.mv (.t 47)),
  sg 49 (.fad (.t 3) 5) 48 false [],
  sg 50 (.load (.t 49) 1 false) 48 false [49],
  sg 51 (.fad (.t 3) 3) 48 false [],
  sg 52 (.load (.t 51) 1 false) 48 false [51],
  ⟨(some 53), .call (.f F.impl_in) [(.t 50, none), (.i .i64 0, none), (.t 52, none)], (some (48, false)), [], 0, 221184, [], [50, 52], [], []⟩,
  sg 54 (.not (.t 53)) 48 false [53],
  ss 55 (.pick (.t 48) (.b true) (.t 54)),
  ss 56 (.mv (.t 55)),
  sg 57 (.fad (.t 3) 6) 56 false [],
  sg 58 (.load (.t 57) 1 false) 56 false [57],
  ⟨(some 59), .call (.f F.impl_in) [(.t 58, none), (.i .i64 0, none), (.i .i64 40, none)], (some (56, false)), [], 0, 245760, [], [58], [], []⟩,
  sg 60 (.not (.t 59)) 56 false [59],
  ss 61 (.pick (.t 56) (.b true) (.t 60)),
  ss 43 (.mv (.t 61))] [3, 43])
  (.cond (.t 43) (.seq (rg [
  ss 4 (.mv (.i .i64 3))] [4])
  (.ret))
  (.skip))))))))
  (.seq (.seq (rg [
  ss 62 (.fad (.t 3) 8),
  ss 63 (.load (.t 62) 1 false),
  sk 64 266240 (.call (.f F.impl_LogFault) [(.t 63, none)]),
  ss 6 (.mv (.t 64))] [3, 6])
  (.seq (rg [
  ss 65 (.mv (.t 6)),
  ss 66 (.bin .neq (.t 65) (.i .i64 0))] [3, 6, 66])
  (.cond (.t 66) (.seq (rg [
  ss 67 (.mv (.t 6)),
  ss 4 (.mv (.t 67))] [4])
  (.ret))
  (.skip))))
  (.seq (.reg true [
    ⟨(some 68), .fad (.t 3) 8, none, [3], 0, 0, [], [], [], []⟩,
    ⟨(some 69), .load (.t 68) 1 false, none, [68], 0, 0, [], [], [16384], []⟩,
    ⟨(some 70), .len (.t 69), none, [69], 0, 290816, [], [], [], []⟩,
    ⟨(some 71), .bin .gtr (.t 70) (.i .i64 0), none, [70], 0, 0, [], [], [], []⟩,
    ⟨(some 72), .mv (.t 71), none, [71], 0, 0, [], [], [], []⟩,
    ⟨(some 73), .fad (.t 3) 0, (some (72, true)), [3, 72], 0, 0, [], [], [], []⟩,
    ⟨(some 74), .load (.t 73) 1 false, (some (72, true)), [73, 72], 0, 0, [], [73], [16384], []⟩,
    ⟨(some 75), .bin .neq (.t 74) (.i .i64 3), (some (72, true)), [74, 72], 0, 0, [], [74], [], []⟩,
    ⟨(some 76), .mv (.t 75), (some (72, true)), [75, 72], 0, 0, [], [75], [], []⟩,
    ⟨(some 77), .fad (.t 3) 8, (some (76, false)), [3, 76], 0, 0, [], [], [], []⟩,
    ⟨(some 78), .load (.t 77) 1 false, (some (76, false)), [77, 76], 0, 0, [], [77], [16384], []⟩,
    ⟨(some 79), .call (.f F.impl_last) [(.t 78, none)], (some (76, false)), [78, 76], 0, 327680, [], [78], [], []⟩,
    ⟨(some 80), .fld (.t 79) 0 1 false, (some (76, false)), [79, 76], 0, 0, [], [79], [], []⟩,
    ⟨(some 81), .fad (.t 3) 3, (some (76, false)), [3, 76], 0, 0, [], [], [], []⟩,
    ⟨(some 82), .load (.t 81) 1 false, (some (76, false)), [81, 76], 0, 0, [], [81], [16384], []⟩,
    ⟨(some 83), .bin .gtr (.t 80) (.t 82), (some (76, false)), [80, 82, 76], 0, 0, [], [80, 82], [], []⟩,
    ⟨(some 84), .pick (.t 76) (.b true) (.t 83), (some (72, true)), [76, 83, 72], 0, 0, [], [76], [], []⟩,
    ⟨(some 85), .mv (.t 84), (some (72, true)), [84, 72], 0, 0, [], [84], [], []⟩,
    ⟨(some 86), .fad (.t 3) 8, (some (85, false)), [3, 85], 0, 0, [], [], [], []⟩,
    ⟨(some 87), .load (.t 86) 1 false, (some (85, false)), [86, 85], 0, 0, [], [86], [16384], []⟩,
    ⟨(some 88), .idx (.t 87) (.i .i64 0) 9, (some (85, false)), [87, 85], 0, 0, dEntry, [87], [], []⟩,
    ⟨(some 89), .fad (.t 88) 0, (some (85, false)), [88, 85], 0, 0, [], [88], [], []⟩,
    ⟨(some 90), .load (.t 89) 1 false, (some (85, false)), [89, 85], 0, 0, dEntry, [89], [], []⟩,
    ⟨(some 91), .fad (.t 3) 5, (some (85, false)), [3, 85], 0, 0, [], [], [], []⟩,
    ⟨(some 92), .load (.t 91) 1 false, (some (85, false)), [91, 85], 0, 0, [], [91], [16384], []⟩,
    ⟨(some 93), .bin .lss (.t 90) (.t 92), (some (85, false)), [90, 92, 85], 0, 0, [], [90, 92], [], []⟩,
    ⟨(some 94), .pick (.t 85) (.b true) (.t 93), (some (72, true)), [85, 93, 72], 0, 0, [], [85], [], []⟩,
    ⟨(some 95), .pick (.t 72) (.t 94) (.b false), none, [72, 94], 0, 0, [], [], [], []⟩,
    ⟨(some 7), .mv (.t 95), none, [95], 0, 0, [], [], [], []⟩] (some ([3, 7], [])))
  (.seq (rg [
  ss 96 (.mv (.t 7)),
  ss 97 (.mv (.t 96)),
  sg 98 (.fad (.t 3) 7) 97 false [],
  sg 99 (.load (.t 98) 1 false) 97 false [98],
  sg 100 (.mv (.t 99)) 97 false [99],
  sg 101 (.fad (.t 3) 0) 100 true [],
  sg 102 (.load (.t 101) 1 false) 100 true [101],
  sg 103 (.bin .neq (.t 102) (.i .i64 2)) 100 true [102],
  sg 104 (.pick (.t 100) (.t 103) (.b false)) 97 false [100],
  sg 105 (.mv (.t 104)) 97 false [104],
  sg 106 (.fad (.t 3) 0) 105 true [],
  sg 107 (.load (.t 106) 1 false) 105 true [106],
  sg 108 (.bin .neq (.t 107) (.i .i64 4)) 105 true [107],
  sg 109 (.pick (.t 105) (.t 108) (.b false)) 97 false [105],
  ss 110 (.pick (.t 97) (.b true) (.t 109)),
  ss 7 (.mv (.t 110))] [3, 7])
  (.seq (.seq (rg [
  ss 111 (.fad (.t 3) 0),
  ss 112 (.load (.t 111) 1 false)] [3, 7, 112])
  (.block 1 (.seq (rg [
  ss 114 (.bin .eql (.t 112) (.i .i64 2)),
  ss 113 (.mv (.t 114))] [3, 7, 112, 113])
  (.cond (.t 113) (rg [
  ss 115 (.mv (.t 7)),
  ss 116 (.mv (.t 115)),
  sg 117 (.fad (.t 3) 4) 116 false [],
  sg 118 (.load (.t 117) 1 false) 116 false [117],
  sg 119 (.bin .neq (.t 118) (.i .i64 0)) 116 false [118],
  ss 120 (.pick (.t 116) (.b true) (.t 119)),
  ss 121 (.mv (.t 120)),
  sg 122 (.fad (.t 3) 5) 121 false [],
  sg 123 (.load (.t 122) 1 false) 121 false [122],
  sg 124 (.bin .neq (.t 123) (.i .i64 0)) 121 false [123],
  ss 125 (.pick (.t 121) (.b true) (.t 124)),
  ss 126 (.mv (.t 125)),
  sg 127 (.fad (.t 3) 6) 126 false [],
  sg 128 (.load (.t 127) 1 false) 126 false [127],
  sg 129 (.bin .neq (.t 128) (.i .i64 0)) 126 false [128],
  ss 130 (.pick (.t 126) (.b true) (.t 129)),
  ss 7 (.mv (.t 130))] [3, 7])
  (.seq (rg [
  ss 132 (.bin .eql (.t 112) (.i .i64 1)),
  ss 131 (.mv (.t 132))] [3, 7, 112, 131])
  (.cond (.t 131) (rg [
  ss 133 (.mv (.t 7)),
  ss 134 (.mv (.t 133)),
  sg 135 (.fad (.t 3) 6) 134 false [],
  sg 136 (.load (.t 135) 1 false) 134 false [135],
  sg 137 (.bin .neq (.t 136) (.i .i64 0)) 134 false [136],
  ss 138 (.pick (.t 134) (.b true) (.t 137)),
  ss 7 (.mv (.t 138))] [3, 7])
  (.seq (rg [
  ss 140 (.bin .eql (.t 112) (.i .i64 4)),
  ss 139 (.mv (.t 140))] [3, 7, 139])
  (.cond (.t 139) (rg [
  ss 141 (.mv (.t 7)),
  ss 142 (.mv (.t 141)),
  sg 143 (.fad (.t 3) 5) 142 false [],
  sg 144 (.load (.t 143) 1 false) 142 false [143],
  sg 145 (.bin .neq (.t 144) (.i .i64 0)) 142 false [144],
  ss 146 (.pick (.t 142) (.b true) (.t 145)),
  ss 147 (.mv (.t 146)),
  sg 148 (.fad (.t 3) 6) 147 false [],
  sg 149 (.load (.t 148) 1 false) 147 false [148],
  sg 150 (.bin .neq (.t 149) (.i .i64 0)) 147 false [149],
  ss 151 (.pick (.t 147) (.b true) (.t 150)),
  ss 7 (.mv (.t 151))] [3, 7])
  (.skip)))))))))
  (.seq (.seq (rg [
  ss 152 (.mv (.t 7)),
  ss 153 (.mv (.t 152)),
  sg 154 (.fad (.t 3) 4) 153 false [],
  sg 155 (.load (.t 154) 1 false) 153 false [154],
  sg 156 (.bin .eql (.t 155) (.i .i64 0)) 153 false [155],
  sg 157 (.mv (.t 156)) 153 false [156],
  sg 158 (.fad (.t 3) 5) 157 true [],
  sg 159 (.load (.t 158) 1 false) 157 true [158],
  sg 160 (.bin .neq (.t 159) (.i .i64 0)) 157 true [159],
  sg 161 (.pick (.t 157) (.t 160) (.b false)) 153 false [157],
  ss 162 (.pick (.t 153) (.b true) (.t 161))] [162])
  (.cond (.t 162) (.seq (rg [
  ss 4 (.mv (.i .i64 1))] [4])
  (.ret))
  (.skip)))
  (.seq (rg [
  ss 4 (.mv (.i .i64 0))] [4])
  (.ret)))))))))
theorem b_impl_MailFault : ∃ c, f80.body = some c ∧ compC prog 163 c = some c_impl_MailFault.er ∧ drawB c c_impl_MailFault = true := ⟨_, rfl, by kernel_rfl, by kernel_rfl⟩
theorem r_impl_MailFault : cmpR prog [.tmp 4] = some [.t 4] := by kernel_rfl
theorem q_impl_MailFault : callB prog F.impl_MailFault = true := by kernel_rfl
variable [Inv prog]
theorem s_impl_MailFault (x : Node) (m : Mail) (hx : limN 2097152 x) (hm : limM 2097152 m) : SemX prog F.impl_MailFault [aS (eNode false x), aS (eMail false m)] [] [rI (if nodeFault x ≠ 0 then nodeFault x else mailFault x m)] [] := by
  obtain ⟨cc, g1, g2, g3⟩ := b_impl_MailFault
  refine SemX.of_code func80 g1 (by rw [ntmps80]; exact g2) g3 (by rw [results80]; exact r_impl_MailFault) (by rw [ntmps80]; exact Nat.le_of_ble_eq_true rfl) (Nat.le_of_ble_eq_true rfl) (by simp) (by simp [argOk, aT, aI, aS, eNode, eMail]) ?_
  unfold c_impl_MailFault
  simp only [rg]
  have hm1 : m.entries.length ≤ 2097152 := hm
  refine W_reg (by simp only [go_sem, eNode, eMail]; exact rfl) ?_
  refine CW_assoc ?_
  refine W_reg (by
    refine RW_cut 1 (by simp only [go_sem, eNode, eMail]; exact rfl) ?_
    refine RW_ls (by simp only [List.drop_succ_cons, List.drop_zero]; exact rfl) ?_
    refine RW_callN q_impl_NodeFault (s_impl_NodeFault x hx) true [] [] [] rfl rfl (by simp only [go_sem, eNode, eMail]; exact rfl) (by rfl) (by simp only [go_sem, eNode, eMail]; exact rfl) ?_
    simp only [go_sem, eNode, eMail]; exact rfl) ?_
  refine CW_assoc ?_
  refine W_reg (by simp only [go_sem, eNode, eMail]; exact rfl) ?_
  refine CW_seq ?_
  refine CW_cond (by simp only [go_sem, eNode, eMail]; exact rfl) (fun c0 => ?_) (fun c0 => ?_)
  · skip
    skip
    refine W_reg (by simp only [go_sem, eNode, eMail]; exact rfl) ?_
    refine CW_ret ?_
    refine sq_r ?_
    simp only [go_sem, eNode, eMail]
    all_goals try first | refine int_res ?_ | refine bool_res ?_
    all_goals
      unfold mailFault mailForm mailLog mailZeros mailRange
      grind
  · skip
    skip
    refine CW_skip ?_
    refine sq_n ?_
    refine CW_seq ?_
    refine CW_block ?_
    refine W_reg (by
      refine RW_cut 2 (by simp only [go_sem, eNode, eMail]; exact rfl) ?_
      refine RW_ls (by simp only [List.drop_succ_cons, List.drop_zero]; exact rfl) ?_
      refine RW_callN q_impl_in (s_impl_in _ _ _) true [] [] [] rfl rfl (by simp only [go_sem, eNode, eMail] <;> and_intros <;> first | with_reducible exact rfl | omega | with_reducible trivial | (intros; simp_all; done) | grind) (by rfl) (by simp only [go_sem, eNode, eMail]; exact rfl) ?_
      simp only [go_sem, eNode, eMail]; exact rfl) ?_
    refine CW_cond (by simp only [go_sem, eNode, eMail]; exact rfl) (fun c1 => ?_) (fun c1 => ?_)
    · skip
      skip
      refine W_reg (by simp only [go_sem, eNode, eMail]; exact rfl) ?_
      refine CW_ret ?_
      refine bk_r ?_
      refine sq_r ?_
      simp only [go_sem, eNode, eMail]
      all_goals try first | refine int_res ?_ | refine bool_res ?_
      all_goals
        unfold mailFault mailForm mailLog mailZeros mailRange
        grind
    · skip
      skip
      refine W_reg (by
        refine RW_cut 2 (by simp only [go_sem, eNode, eMail]; exact rfl) ?_
        refine RW_ls (by simp only [List.drop_succ_cons, List.drop_zero]; exact rfl) ?_
        refine RW_callN q_impl_Node_isId (s_impl_Node_isId x m.from_) true [] [] [] rfl rfl (by simp only [go_sem, eNode, eMail]; exact rfl) (by rfl) (by simp only [go_sem, eNode, eMail]; exact rfl) ?_
        refine RW_cut 18 (by simp only [go_sem, eNode, eMail]; exact rfl) ?_
        refine RW_ls (by simp only [List.drop_succ_cons, List.drop_zero]; exact rfl) ?_
        refine RW_callGN q_impl_in (s_impl_in _ _ _) true rfl rfl (by simp only [go_sem, eNode, eMail]; exact rfl) (fun _ => (by simp only [go_sem, eNode, eMail] <;> and_intros <;> first | with_reducible exact rfl | omega | with_reducible trivial | (intros; simp_all; done) | grind)) (by simp only [go_sem, eNode, eMail]; exact rfl) ?_
        simp only [go_sem, eNode, eMail]; exact rfl) ?_
      refine CW_cond (by simp only [go_sem, eNode, eMail]; exact rfl) (fun c2 => ?_) (fun c2 => ?_)
      · skip
        skip
        refine W_reg (by simp only [go_sem, eNode, eMail]; exact rfl) ?_
        refine CW_ret ?_
        refine bk_r ?_
        refine sq_r ?_
        simp only [go_sem, eNode, eMail]
        all_goals try first | refine int_res ?_ | refine bool_res ?_
        all_goals
          unfold mailFault mailForm mailLog mailZeros mailRange
          grind
      · skip
        skip
        refine W_reg (by
          refine RW_cut 2 (by simp only [go_sem, eNode, eMail]; exact rfl) ?_
          refine RW_ls (by simp only [List.drop_succ_cons, List.drop_zero]; exact rfl) ?_
          refine RW_callN q_impl_in (s_impl_in _ _ _) true [] [] [] rfl rfl (by simp only [go_sem, eNode, eMail] <;> and_intros <;> first | with_reducible exact rfl | omega | with_reducible trivial | (intros; simp_all; done) | grind) (by rfl) (by simp only [go_sem, eNode, eMail]; exact rfl) ?_
          refine RW_cut 6 (by simp only [go_sem, eNode, eMail]; exact rfl) ?_
          refine RW_ls (by simp only [List.drop_succ_cons, List.drop_zero]; exact rfl) ?_
          refine RW_callGN q_impl_in (s_impl_in _ _ _) true rfl rfl (by simp only [go_sem, eNode, eMail]; exact rfl) (fun _ => (by simp only [go_sem, eNode, eMail] <;> and_intros <;> first | with_reducible exact rfl | omega | with_reducible trivial | (intros; simp_all; done) | grind)) (by simp only [go_sem, eNode, eMail]; exact rfl) ?_
          refine RW_cut 5 (by simp only [go_sem, eNode, eMail]; exact rfl) ?_
          refine RW_ls (by simp only [List.drop_succ_cons, List.drop_zero]; exact rfl) ?_
          refine RW_callGN q_impl_in (s_impl_in _ _ _) true rfl rfl (by simp only [go_sem, eNode, eMail]; exact rfl) (fun _ => (by simp only [go_sem, eNode, eMail] <;> and_intros <;> first | with_reducible exact rfl | omega | with_reducible trivial | (intros; simp_all; done) | grind)) (by simp only [go_sem, eNode, eMail]; exact rfl) ?_
          simp only [go_sem, eNode, eMail]; exact rfl) ?_
        refine CW_cond (by simp only [go_sem, eNode, eMail]; exact rfl) (fun c3 => ?_) (fun c3 => ?_)
        · skip
          skip
          refine W_reg (by simp only [go_sem, eNode, eMail]; exact rfl) ?_
          refine CW_ret ?_
          refine bk_r ?_
          refine sq_r ?_
          simp only [go_sem, eNode, eMail]
          all_goals try first | refine int_res ?_ | refine bool_res ?_
          all_goals
            unfold mailFault mailForm mailLog mailZeros mailRange
            grind
        · skip
          skip
          refine CW_skip ?_
          refine bk_n ?_
          refine sq_n ?_
          refine CW_assoc ?_
          refine W_reg (by
            refine RW_cut 2 (by simp only [go_sem, eNode, eMail]; exact rfl) ?_
            refine RW_ls (by simp only [List.drop_succ_cons, List.drop_zero]; exact rfl) ?_
            refine RW_callN q_impl_LogFault (s_impl_LogFault m.entries (by omega)) true [] [] [] rfl rfl (by simp only [go_sem, eNode, eMail]; exact rfl) (by rfl) (by simp only [go_sem, eNode, eMail]; exact rfl) ?_
            simp only [go_sem, eNode, eMail]; exact rfl) ?_
          refine CW_assoc ?_
          refine W_reg (by simp only [go_sem, eNode, eMail]; exact rfl) ?_
          refine CW_seq ?_
          refine CW_cond (by simp only [go_sem, eNode, eMail]; exact rfl) (fun c4 => ?_) (fun c4 => ?_)
          · skip
            skip
            refine W_reg (by simp only [go_sem, eNode, eMail]; exact rfl) ?_
            refine CW_ret ?_
            refine sq_r ?_
            simp only [go_sem, eNode, eMail]
            all_goals try first | refine int_res ?_ | refine bool_res ?_
            all_goals
              unfold mailFault mailForm mailLog mailZeros mailRange
              grind
          · skip
            skip
            refine CW_skip ?_
            refine sq_n ?_
            refine W_drw (by
              refine DW_cut 11 (by simp only [go_sem, eNode, eMail]; exact rfl) ?_
              refine DW_ls (by simp only [List.drop_succ_cons, List.drop_zero]; exact rfl) ?_
              refine DW_callGN q_impl_last (s_impl_last m.entries (by omega)) true rfl rfl (by simp only [go_sem, eNode, eMail, eEntry]; exact rfl) (fun _ => (by simp only [go_sem, eNode, eMail, eEntry]; exact rfl)) (by simp only [go_sem, eNode, eMail]; exact rfl) ?_
              simp only [go_sem, eNode, eMail] <;> and_intros <;> first | with_reducible exact rfl | omega | with_reducible trivial | (intros; simp_all; done) | grind) ?_
            refine W_reg (by simp only [go_sem, eNode, eMail] <;> and_intros <;> first | with_reducible exact rfl | omega | with_reducible trivial | (intros; simp_all; done) | grind) ?_
            refine CW_assoc ?_
            refine W_reg (by simp only [go_sem, eNode, eMail]; exact rfl) ?_
            refine CW_seq ?_
            refine CW_block ?_
            refine W_reg (by simp only [go_sem, eNode, eMail]; exact rfl) ?_
            refine CW_cond (by simp only [go_sem, eNode, eMail]; exact rfl) (fun c5 => ?_) (fun c5 => ?_)
            · skip
              skip
              refine W_regn (by simp only [go_sem, eNode, eMail]; exact rfl) ?_
              refine bk_n ?_
              refine sq_n ?_
              refine CW_assoc ?_
              refine W_reg (by simp only [go_sem, eNode, eMail] <;> and_intros <;> first | with_reducible exact rfl | omega | with_reducible trivial | (intros; simp_all; done) | grind) ?_
              refine CW_seq ?_
              refine CW_cond (by simp only [go_sem, eNode, eMail]; exact rfl) (fun c8 => ?_) (fun c8 => ?_)
              · skip
                skip
                refine W_reg (by simp only [go_sem, eNode, eMail]; exact rfl) ?_
                refine CW_ret ?_
                refine sq_r ?_
                simp only [go_sem, eNode, eMail]
                all_goals try first | refine int_res ?_ | refine bool_res ?_
                all_goals
                  unfold mailFault mailForm mailLog mailZeros mailRange
                  grind
              · skip
                skip
                refine CW_skip ?_
                refine sq_n ?_
                refine W_reg (by simp only [go_sem, eNode, eMail]; exact rfl) ?_
                refine CW_ret ?_
                simp only [go_sem, eNode, eMail]
                all_goals try first | refine int_res ?_ | refine bool_res ?_
                all_goals
                  unfold mailFault mailForm mailLog mailZeros mailRange
                  grind
            · skip
              skip
              refine W_reg (by simp only [go_sem, eNode, eMail]; exact rfl) ?_
              refine CW_cond (by simp only [go_sem, eNode, eMail]; exact rfl) (fun c6 => ?_) (fun c6 => ?_)
              · skip
                skip
                refine W_regn (by simp only [go_sem, eNode, eMail]; exact rfl) ?_
                refine bk_n ?_
                refine sq_n ?_
                refine CW_assoc ?_
                refine W_reg (by simp only [go_sem, eNode, eMail] <;> and_intros <;> first | with_reducible exact rfl | omega | with_reducible trivial | (intros; simp_all; done) | grind) ?_
                refine CW_seq ?_
                refine CW_cond (by simp only [go_sem, eNode, eMail]; exact rfl) (fun c8 => ?_) (fun c8 => ?_)
                · skip
                  skip
                  refine W_reg (by simp only [go_sem, eNode, eMail]; exact rfl) ?_
                  refine CW_ret ?_
                  refine sq_r ?_
                  simp only [go_sem, eNode, eMail]
                  all_goals try first | refine int_res ?_ | refine bool_res ?_
                  all_goals
                    unfold mailFault mailForm mailLog mailZeros mailRange
                    grind
                · skip
                  skip
                  refine CW_skip ?_
                  refine sq_n ?_
                  refine W_reg (by simp only [go_sem, eNode, eMail]; exact rfl) ?_
                  refine CW_ret ?_
                  simp only [go_sem, eNode, eMail]
                  all_goals try first | refine int_res ?_ | refine bool_res ?_
                  all_goals
                    unfold mailFault mailForm mailLog mailZeros mailRange
                    grind
              · skip
                skip
                refine W_reg (by simp only [go_sem, eNode, eMail]; exact rfl) ?_
                refine CW_cond (by simp only [go_sem, eNode, eMail]; exact rfl) (fun c7 => ?_) (fun c7 => ?_)
                · skip
                  skip
                  refine W_regn (by simp only [go_sem, eNode, eMail]; exact rfl) ?_
                  refine bk_n ?_
                  refine sq_n ?_
                  refine CW_assoc ?_
                  refine W_reg (by simp only [go_sem, eNode, eMail] <;> and_intros <;> first | with_reducible exact rfl | omega | with_reducible trivial | (intros; simp_all; done) | grind) ?_
                  refine CW_seq ?_
                  refine CW_cond (by simp only [go_sem, eNode, eMail]; exact rfl) (fun c8 => ?_) (fun c8 => ?_)
                  · skip
                    skip
                    refine W_reg (by simp only [go_sem, eNode, eMail]; exact rfl) ?_
                    refine CW_ret ?_
                    refine sq_r ?_
                    simp only [go_sem, eNode, eMail]
                    all_goals try first | refine int_res ?_ | refine bool_res ?_
                    all_goals
                      unfold mailFault mailForm mailLog mailZeros mailRange
                      grind
                  · skip
                    skip
                    refine CW_skip ?_
                    refine sq_n ?_
                    refine W_reg (by simp only [go_sem, eNode, eMail]; exact rfl) ?_
                    refine CW_ret ?_
                    simp only [go_sem, eNode, eMail]
                    all_goals try first | refine int_res ?_ | refine bool_res ?_
                    all_goals
                      unfold mailFault mailForm mailLog mailZeros mailRange
                      grind
                · skip
                  skip
                  refine CW_skip ?_
                  refine bk_n ?_
                  refine sq_n ?_
                  refine CW_assoc ?_
                  refine W_reg (by simp only [go_sem, eNode, eMail] <;> and_intros <;> first | with_reducible exact rfl | omega | with_reducible trivial | (intros; simp_all; done) | grind) ?_
                  refine CW_seq ?_
                  refine CW_cond (by simp only [go_sem, eNode, eMail]; exact rfl) (fun c8 => ?_) (fun c8 => ?_)
                  · skip
                    skip
                    refine W_reg (by simp only [go_sem, eNode, eMail]; exact rfl) ?_
                    refine CW_ret ?_
                    refine sq_r ?_
                    simp only [go_sem, eNode, eMail]
                    all_goals try first | refine int_res ?_ | refine bool_res ?_
                    all_goals
                      unfold mailFault mailForm mailLog mailZeros mailRange
                      grind
                  · skip
                    skip
                    refine CW_skip ?_
                    refine sq_n ?_
                    refine W_reg (by simp only [go_sem, eNode, eMail]; exact rfl) ?_
                    refine CW_ret ?_
                    simp only [go_sem, eNode, eMail]
                    all_goals try first | refine int_res ?_ | refine bool_res ?_
                    all_goals
                      unfold mailFault mailForm mailLog mailZeros mailRange
                      grind
end Go.H
end
section
set_option maxRecDepth 100000
set_option linter.unusedVariables false
set_option linter.unusedSimpArgs false
namespace Go.H
open Go Go.Proofs.Tryz
def c_impl_size_Node : SC :=
.seq (rg [
  ss 2 (.mv (.i .i64 0))] [0])
  (.seq (rg [
  ss 3 (.mv (.t 0)),
  sk 4 20480 (.len (.t 3)),
  ss 2 (.mv (.t 4))] [2])
  (.ret))
theorem b_impl_size_Node : ∃ c, f165.body = some c ∧ compC prog 5 c = some c_impl_size_Node.er ∧ drawB c c_impl_size_Node = true := ⟨_, rfl, by kernel_rfl, by kernel_rfl⟩
theorem r_impl_size_Node : cmpR prog [.tmp 2] = some [.t 2] := by kernel_rfl
theorem q_impl_size_Node : callB prog F.impl_size_Node = true := by kernel_rfl
variable [Inv prog]
theorem s_impl_size_Node (rows : List (List T)) : SemX prog F.impl_size_Node [.one (.t (.sl false 10 rows))] [] [.one (.int .i64 rows.length)] [] := by
  obtain ⟨cc, g1, g2, g3⟩ := b_impl_size_Node
  refine SemX.of_code func165 g1 (by rw [ntmps165]; exact g2) g3 (by rw [results165]; exact r_impl_size_Node) (by rw [ntmps165]; exact Nat.le_of_ble_eq_true rfl) (Nat.le_of_ble_eq_true rfl) (by simp) (by simp [argOk, aT, aI, aS]) ?_
  unfold c_impl_size_Node
  simp only [rg]
  refine W_reg (by simp only [go_sem]; exact rfl) ?_
  refine W_reg (by simp only [go_sem]; exact rfl) ?_
  refine CW_ret ?_
  simp only [go_sem]
end Go.H
end
section
set_option maxRecDepth 100000
set_option linter.unusedVariables false
set_option linter.unusedSimpArgs false
namespace Go.H
open Go Go.Proofs.Tryz
def c_impl_Cluster_isPlace : SC :=
.seq (rg [
  ss 4 (.mv (.b false))] [0, 1])
  (.seq (rg [
  ss 5 (.mv (.t 1)),
  ss 6 (.mv (.t 0)),
  ss 7 (.nck (.t 6)),
  ss 8 (.fad (.t 7) 0),
  ss 9 (.load (.t 8) 1 false),
  sk 10 45056 (.call (.f F.impl_size_Node) [(.t 9, none)]),
  sh 11 1 (.bin .sub (.t 10) (.i .i64 1)),
  sk 12 53248 (.call (.f F.impl_in) [(.t 5, none), (.i .i64 0, none), (.t 11, none)]),
  ss 4 (.mv (.t 12))] [4])
  (.ret))
theorem b_impl_Cluster_isPlace : ∃ c, f154.body = some c ∧ compC prog 13 c = some c_impl_Cluster_isPlace.er ∧ drawB c c_impl_Cluster_isPlace = true := ⟨_, rfl, by kernel_rfl, by kernel_rfl⟩
theorem r_impl_Cluster_isPlace : cmpR prog [.tmp 4] = some [.t 4] := by kernel_rfl
theorem q_impl_Cluster_isPlace : callB prog F.impl_Cluster_isPlace = true := by kernel_rfl
variable [Inv prog]
theorem s_impl_Cluster_isPlace (x : Cluster) (n : Int) (hn : x.nodes.length ≤ 2097152) : SemX prog F.impl_Cluster_isPlace [aT (.ptr (eCluster false x)), aI n] [] [rB (place x n)] [] := by
  obtain ⟨cc, g1, g2, g3⟩ := b_impl_Cluster_isPlace
  refine SemX.of_code func154 g1 (by rw [ntmps154]; exact g2) g3 (by rw [results154]; exact r_impl_Cluster_isPlace) (by rw [ntmps154]; exact Nat.le_of_ble_eq_true rfl) (Nat.le_of_ble_eq_true rfl) (by simp) (by simp [argOk, aT, aI, aS, eCluster]) ?_
  unfold c_impl_Cluster_isPlace
  simp only [rg]
  refine W_reg (by simp only [go_sem, eCluster]; exact rfl) ?_
  refine W_reg (by
    refine RW_cut 5 (by simp only [go_sem, eCluster]; exact rfl) ?_
    refine RW_ls (by simp only [List.drop_succ_cons, List.drop_zero]; exact rfl) ?_
    refine RW_callN q_impl_size_Node (s_impl_size_Node (x.nodes.map (eNode false))) true [] [] [] rfl rfl (by simp only [go_sem, eCluster]; exact rfl) (by rfl) (by simp only [go_sem, eCluster]; exact rfl) ?_
    refine RW_cut 1 (by simp only [go_sem, eCluster] <;> and_intros <;> first | with_reducible exact rfl | omega | with_reducible trivial | (intros; simp_all; done) | grind) ?_
    refine RW_ls (by simp only [List.drop_succ_cons, List.drop_zero]; exact rfl) ?_
    refine RW_callN q_impl_in (s_impl_in n 0 (x.nodes.length - 1)) true [] [] [] rfl rfl (by simp only [go_sem, eCluster]; exact rfl) (by rfl) (by simp only [go_sem, eCluster]; exact rfl) ?_
    simp only [go_sem, eCluster]; exact rfl) ?_
  refine CW_ret ?_
  simp only [go_sem, eCluster, place]
end Go.H
end
