/- What the functions that the law reaches compute, each by its code, against pure functions. Conditions: those that each theorem states. -/
import Derived.Test.YtlnjmnmkafblkaaGreatAW3
import Derived.KernelRfl
section
set_option maxRecDepth 100000
set_option linter.unusedVariables false
set_option linter.unusedSimpArgs false
namespace Go.H
open Go Go.Proofs.Tryz
def c_laws_heldMailS : SC :=
.seq (rg [
  ss 4 (.mv (.i .i64 0))] [0, 1])
  (.seq (.seq (rg [
  ss 5 (.mv (.i .i64 0))] [0, 1, 5])
  (.block 0 (.loop (.seq (.seq (rg [
  ss 6 (.mv (.t 5)),
  ss 7 (.mv (.t 0)),
  sk 8 36864 (.len (.t 7)),
  ss 9 (.bin .lss (.t 6) (.t 8))] [0, 1, 5, 9])
  (.cond (.t 9) (.skip)
  (.exit 0)))
  (.seq (.block 1 (.seq (.seq (rg [
  ss 12 (.mv (.t 0)),
  ss 13 (.mv (.t 5)),
  sd (some 14) 0 0 (dMail false) (.idx (.t 12) (.t 13) 9),
  ss 15 (.fad (.t 14) 0),
  sd (some 16) 0 0 (dMail true) (.load (.t 15) 1 false),
  ss 17 (.mv (.t 1)),
  ss 18 (.bin .neq (.t 16) (.t 17))] [0, 1, 5, 18])
  (.cond (.t 18) (.seq (rg [
  ss 4 (.mv (.i .i64 (-1)))] [4])
  (.ret))
  (.skip)))
  (.seq (rg [
  ss 19 (.mv (.t 1)),
  sh 20 1 (.bin .add (.t 19) (.i .i64 1)),
  ss 1 (.mv (.t 20))] [0, 1, 5])
  (.seq (.seq (rg [
  ss 21 (.mv (.t 0)),
  ss 22 (.mv (.t 5)),
  sd (some 23) 0 0 (dMail false) (.idx (.t 21) (.t 22) 9),
  ss 24 (.fad (.t 23) 1),
  sd (some 25) 0 0 (dMail true) (.load (.t 24) 1 false),
  ss 26 (.mv (.t 1)),
  ss 27 (.bin .neq (.t 25) (.t 26))] [0, 1, 5, 27])
  (.cond (.t 27) (.seq (rg [
  ss 4 (.mv (.i .i64 (-1)))] [4])
  (.ret))
  (.skip)))
  (.seq (rg [
  ss 28 (.mv (.t 1)),
  sh 29 1 (.bin .add (.t 28) (.i .i64 1)),
  ss 1 (.mv (.t 29))] [0, 1, 5])
  (.seq (.seq (rg [
  ss 30 (.mv (.t 0)),
  ss 31 (.mv (.t 5)),
  sd (some 32) 0 0 (dMail false) (.idx (.t 30) (.t 31) 9),
  ss 33 (.fad (.t 32) 2),
  sd (some 34) 0 0 (dMail true) (.load (.t 33) 1 false),
  ss 35 (.mv (.t 1)),
  ss 36 (.bin .neq (.t 34) (.t 35))] [0, 1, 5, 36])
  (.cond (.t 36) (.seq (rg [
  ss 4 (.mv (.i .i64 (-1)))] [4])
  (.ret))
  (.skip)))
  (.seq (rg [
  ss 37 (.mv (.t 1)),
  sh 38 1 (.bin .add (.t 37) (.i .i64 1)),
  ss 1 (.mv (.t 38))] [0, 1, 5])
  (.seq (.seq (rg [
  ss 39 (.mv (.t 0)),
  ss 40 (.mv (.t 5)),
  sd (some 41) 0 0 (dMail false) (.idx (.t 39) (.t 40) 9),
  ss 42 (.fad (.t 41) 3),
  sd (some 43) 0 0 (dMail true) (.load (.t 42) 1 false),
  ss 44 (.mv (.t 1)),
  ss 45 (.bin .neq (.t 43) (.t 44))] [0, 1, 5, 45])
  (.cond (.t 45) (.seq (rg [
  ss 4 (.mv (.i .i64 (-1)))] [4])
  (.ret))
  (.skip)))
  (.seq (rg [
  ss 46 (.mv (.t 1)),
  sh 47 1 (.bin .add (.t 46) (.i .i64 1)),
  ss 1 (.mv (.t 47))] [0, 1, 5])
  (.seq (.seq (rg [
  ss 48 (.mv (.t 0)),
  ss 49 (.mv (.t 5)),
  sd (some 50) 0 0 (dMail false) (.idx (.t 48) (.t 49) 9),
  ss 51 (.fad (.t 50) 4),
  sd (some 52) 0 0 (dMail true) (.load (.t 51) 1 false),
  ss 53 (.mv (.t 1)),
  ss 54 (.bin .neq (.t 52) (.t 53))] [0, 1, 5, 54])
  (.cond (.t 54) (.seq (rg [
  ss 4 (.mv (.i .i64 (-1)))] [4])
  (.ret))
  (.skip)))
  (.seq (rg [
  ss 55 (.mv (.t 1)),
  sh 56 1 (.bin .add (.t 55) (.i .i64 1)),
  ss 1 (.mv (.t 56))] [0, 1, 5])
  (.seq (.seq (rg [
  ss 57 (.mv (.t 0)),
  ss 58 (.mv (.t 5)),
  sd (some 59) 0 0 (dMail false) (.idx (.t 57) (.t 58) 9),
  ss 60 (.fad (.t 59) 5),
  sd (some 61) 0 0 (dMail true) (.load (.t 60) 1 false),
  ss 62 (.mv (.t 1)),
  ss 63 (.bin .neq (.t 61) (.t 62))] [0, 1, 5, 63])
  (.cond (.t 63) (.seq (rg [
  ss 4 (.mv (.i .i64 (-1)))] [4])
  (.ret))
  (.skip)))
  (.seq (rg [
  ss 64 (.mv (.t 1)),
  sh 65 1 (.bin .add (.t 64) (.i .i64 1)),
  ss 1 (.mv (.t 65))] [0, 1, 5])
  (.seq (.seq (rg [
  ss 66 (.mv (.t 0)),
  ss 67 (.mv (.t 5)),
  sd (some 68) 0 0 (dMail false) (.idx (.t 66) (.t 67) 9),
  ss 69 (.fad (.t 68) 6),
  sd (some 70) 0 0 (dMail true) (.load (.t 69) 1 false),
  ss 71 (.mv (.t 1)),
  ss 72 (.bin .neq (.t 70) (.t 71))] [0, 1, 5, 72])
  (.cond (.t 72) (.seq (rg [
  ss 4 (.mv (.i .i64 (-1)))] [4])
  (.ret))
  (.skip)))
  (.seq (rg [
  ss 73 (.mv (.t 1)),
  sh 74 1 (.bin .add (.t 73) (.i .i64 1)),
  ss 1 (.mv (.t 74))] [0, 1, 5])
  (.seq (.seq (rg [
  ss 75 (.mv (.t 0)),
  ss 76 (.mv (.t 5)),
  sd (some 77) 0 0 (dMail false) (.idx (.t 75) (.t 76) 9),
  ss 78 (.fad (.t 77) 7),
  sd (some 79) 0 0 (dMail true) (.load (.t 78) 1 false),
  ss 80 (.mv (.t 1)),
  ss 81 (.bin .rem (.t 80) (.i .i64 3)),
  ss 82 (.bin .eql (.t 81) (.i .i64 0)),
  ss 83 (.beq true (.t 79) (.t 82))] [0, 1, 5, 83])
  (.cond (.t 83) (.seq (rg [
  ss 4 (.mv (.i .i64 (-1)))] [4])
  (.ret))
  (.skip)))
  (.seq (rg [
  ss 84 (.mv (.t 1)),
  sh 85 1 (.bin .add (.t 84) (.i .i64 1)),
  ss 1 (.mv (.t 85))] [0, 1, 5])
  (.seq (rg [
  ss 86 (.mv (.t 0)),
  ss 87 (.mv (.t 5)),
  sd (some 88) 0 0 (dMail false) (.idx (.t 86) (.t 87) 9),
  ss 89 (.fad (.t 88) 8),
  sd (some 90) 0 0 (dMail true) (.load (.t 89) 1 false),
  ss 91 (.mv (.t 1)),
  sk 92 380928 (.call (.f F.laws_heldEntryS) [(.t 90, none), (.t 91, none)]),
  ss 1 (.mv (.t 92))] [0, 1, 5])
  (.seq (rg [
  ss 93 (.mv (.t 1)),
  ss 94 (.bin .lss (.t 93) (.i .i64 0))] [0, 1, 5, 94])
  (.cond (.t 94) (.seq (rg [
  ss 4 (.mv (.i .i64 (-1)))] [4])
  (.ret))
  (.skip)))))))))))))))))))))
  (rg [
  ss 10 (.mv (.t 5)),
  sh 11 1 (.bin .add (.t 10) (.i .i64 1)),
  ss 5 (.mv (.t 11))] [0, 1, 5]))))))
  (.seq (rg [
  ss 95 (.mv (.t 1)),
  ss 4 (.mv (.t 95))] [4])
  (.ret)))
theorem b_laws_heldMailS : ∃ c, f92.body = some c ∧ compC prog 96 c = some c_laws_heldMailS.er ∧ drawB c c_laws_heldMailS = true := ⟨_, rfl, by kernel_rfl, by kernel_rfl⟩
theorem r_laws_heldMailS : cmpR prog [.tmp 4] = some [.t 4] := by kernel_rfl
theorem q_laws_heldMailS : callB prog F.laws_heldMailS = true := by kernel_rfl
variable [Inv prog]
theorem s_laws_heldMailS (xs : List Mail) (k : Int) (hk : 0 ≤ k) (hl : xs.length ≤ 2097152) (hb : mkK sM xs k ≤ 9000000000000000000) (hm : ∀ y ∈ xs, limM 2097152 y) : SemX prog F.laws_heldMailS [aT (.sl false 9 ((mkL mM sM xs k).map (eMail false))), aI k] [] [rI (mkK sM xs k)] [] := by
  obtain ⟨cc, g1, g2, g3⟩ := b_laws_heldMailS
  refine SemX.of_code func92 g1 (by rw [ntmps92]; exact g2) g3 (by rw [results92]; exact r_laws_heldMailS) (by rw [ntmps92]; exact Nat.le_of_ble_eq_true rfl) (Nat.le_of_ble_eq_true rfl) (by simp) (by simp [argOk, aT, aI, aS, eMail, mkL_length]) ?_
  unfold c_laws_heldMailS
  simp only [rg]
  refine W_reg (by simp only [go_sem, eMail, mkL_length]; exact rfl) ?_
  refine CW_assoc ?_
  refine W_reg (by simp only [go_sem, eMail, mkL_length]; exact rfl) ?_
  refine CW_seq ?_
  refine CW_block ?_
  refine CW_loopS (α := Nat) (fun x => [(1, .int .i64 (mkK sM (xs.take x) k)), (5, .int .i64 x)]) (fun x => []) (fun x => xs.length - x) (fun x => x ≤ xs.length) 0 [] ?_ ?_ ?_
  · (simp only [go_sem, eMail, mkL_length] <;> and_intros <;> first | with_reducible exact rfl | (first | omega | (simp [mkK]; done)))
  · first | exact Nat.zero_le _ | (simp; done) | omega
  · rintro x hI
    refine CW_eq (by simp only [go_sem, eMail, mkL_length]; exact rfl) ?_
    refine CW_assoc ?_
    refine W_reg (by simp only [go_sem, eMail, mkL_length]; exact rfl) ?_
    refine CW_seq ?_
    refine CW_cond (by simp only [go_sem, eMail, mkL_length]; exact rfl) (fun c0 => ?_) (fun c0 => ?_)
    · skip
      try simp only [Bool.not_eq_eq_eq_not, Bool.not_true, Bool.not_false, decide_eq_true_eq, decide_eq_false_iff_not, Bool.and_eq_true, Bool.or_eq_true] at c0
      have hat := mkK_at sM_up zMail (xs := xs) (i := x) (by omega) hb
      simp only [sM] at hat
      have hg := mkL_getD mM sM zMail k (show x < xs.length by omega)
      have hup := Int.le_trans (mkK_mono sE_up _ _) hat.2
      have v1 := mkK_mono sE_up (xs.getD x zMail).entries (mkK sM (xs.take x) k + 1 + 1 + 1 + 1 + 1 + 1 + 1 + 1)
      refine CW_skip ?_
      refine sq_n ?_
      refine CW_seq ?_
      refine CW_block ?_
      refine CW_assoc ?_
      refine W_reg (by simp only [go_sem, eMail, mkL_length, hg, mM, mE, mC] <;> and_intros <;> first | with_reducible exact rfl | omega | with_reducible trivial | (intros; simp_all; done) | grind) ?_
      refine CW_seq ?_
      refine CW_cond (by simp only [go_sem, eMail, mkL_length, hg, mM, mE, mC]; exact rfl) (fun c1 => ?_) (fun c1 => ?_)
      · skip
        cases c1
      · skip
        skip
        refine CW_skip ?_
        refine sq_n ?_
        refine W_reg (by simp only [go_sem, eMail, mkL_length, hg, mM, mE, mC] <;> and_intros <;> first | with_reducible exact rfl | omega | with_reducible trivial | (intros; simp_all; done) | grind) ?_
        refine CW_assoc ?_
        refine W_reg (by simp only [go_sem, eMail, mkL_length, hg, mM, mE, mC] <;> and_intros <;> first | with_reducible exact rfl | omega | with_reducible trivial | (intros; simp_all; done) | grind) ?_
        refine CW_seq ?_
        refine CW_cond (by simp only [go_sem, eMail, mkL_length, hg, mM, mE, mC]; exact rfl) (fun c2 => ?_) (fun c2 => ?_)
        · skip
          cases c2
        · skip
          skip
          refine CW_skip ?_
          refine sq_n ?_
          refine W_reg (by simp only [go_sem, eMail, mkL_length, hg, mM, mE, mC] <;> and_intros <;> first | with_reducible exact rfl | omega | with_reducible trivial | (intros; simp_all; done) | grind) ?_
          refine CW_assoc ?_
          refine W_reg (by simp only [go_sem, eMail, mkL_length, hg, mM, mE, mC] <;> and_intros <;> first | with_reducible exact rfl | omega | with_reducible trivial | (intros; simp_all; done) | grind) ?_
          refine CW_seq ?_
          refine CW_cond (by simp only [go_sem, eMail, mkL_length, hg, mM, mE, mC]; exact rfl) (fun c3 => ?_) (fun c3 => ?_)
          · skip
            cases c3
          · skip
            skip
            refine CW_skip ?_
            refine sq_n ?_
            refine W_reg (by simp only [go_sem, eMail, mkL_length, hg, mM, mE, mC] <;> and_intros <;> first | with_reducible exact rfl | omega | with_reducible trivial | (intros; simp_all; done) | grind) ?_
            refine CW_assoc ?_
            refine W_reg (by simp only [go_sem, eMail, mkL_length, hg, mM, mE, mC] <;> and_intros <;> first | with_reducible exact rfl | omega | with_reducible trivial | (intros; simp_all; done) | grind) ?_
            refine CW_seq ?_
            refine CW_cond (by simp only [go_sem, eMail, mkL_length, hg, mM, mE, mC]; exact rfl) (fun c4 => ?_) (fun c4 => ?_)
            · skip
              cases c4
            · skip
              skip
              refine CW_skip ?_
              refine sq_n ?_
              refine W_reg (by simp only [go_sem, eMail, mkL_length, hg, mM, mE, mC] <;> and_intros <;> first | with_reducible exact rfl | omega | with_reducible trivial | (intros; simp_all; done) | grind) ?_
              refine CW_assoc ?_
              refine W_reg (by simp only [go_sem, eMail, mkL_length, hg, mM, mE, mC] <;> and_intros <;> first | with_reducible exact rfl | omega | with_reducible trivial | (intros; simp_all; done) | grind) ?_
              refine CW_seq ?_
              refine CW_cond (by simp only [go_sem, eMail, mkL_length, hg, mM, mE, mC]; exact rfl) (fun c5 => ?_) (fun c5 => ?_)
              · skip
                cases c5
              · skip
                skip
                refine CW_skip ?_
                refine sq_n ?_
                refine W_reg (by simp only [go_sem, eMail, mkL_length, hg, mM, mE, mC] <;> and_intros <;> first | with_reducible exact rfl | omega | with_reducible trivial | (intros; simp_all; done) | grind) ?_
                refine CW_assoc ?_
                refine W_reg (by simp only [go_sem, eMail, mkL_length, hg, mM, mE, mC] <;> and_intros <;> first | with_reducible exact rfl | omega | with_reducible trivial | (intros; simp_all; done) | grind) ?_
                refine CW_seq ?_
                refine CW_cond (by simp only [go_sem, eMail, mkL_length, hg, mM, mE, mC]; exact rfl) (fun c6 => ?_) (fun c6 => ?_)
                · skip
                  cases c6
                · skip
                  skip
                  refine CW_skip ?_
                  refine sq_n ?_
                  refine W_reg (by simp only [go_sem, eMail, mkL_length, hg, mM, mE, mC] <;> and_intros <;> first | with_reducible exact rfl | omega | with_reducible trivial | (intros; simp_all; done) | grind) ?_
                  refine CW_assoc ?_
                  refine W_reg (by simp only [go_sem, eMail, mkL_length, hg, mM, mE, mC] <;> and_intros <;> first | with_reducible exact rfl | omega | with_reducible trivial | (intros; simp_all; done) | grind) ?_
                  refine CW_seq ?_
                  refine CW_cond (by simp only [go_sem, eMail, mkL_length, hg, mM, mE, mC]; exact rfl) (fun c7 => ?_) (fun c7 => ?_)
                  · skip
                    cases c7
                  · skip
                    skip
                    refine CW_skip ?_
                    refine sq_n ?_
                    refine W_reg (by simp only [go_sem, eMail, mkL_length, hg, mM, mE, mC] <;> and_intros <;> first | with_reducible exact rfl | omega | with_reducible trivial | (intros; simp_all; done) | grind) ?_
                    refine CW_assoc ?_
                    refine W_reg (by simp only [go_sem, eMail, mkL_length, hg, mM, mE, mC] <;> and_intros <;> first | with_reducible exact rfl | omega | with_reducible trivial | (intros; simp_all; done) | grind) ?_
                    refine CW_seq ?_
                    refine CW_cond (by simp only [go_sem, eMail, mkL_length, hg, mM, mE, mC]; exact rfl) (fun c8 => ?_) (fun c8 => ?_)
                    · skip
                      cases c8
                    · skip
                      skip
                      refine CW_skip ?_
                      refine sq_n ?_
                      refine W_reg (by simp only [go_sem, eMail, mkL_length, hg, mM, mE, mC] <;> and_intros <;> first | with_reducible exact rfl | omega | with_reducible trivial | (intros; simp_all; done) | grind) ?_
                      refine W_reg (by
                        refine RW_cut 6 (by simp only [go_sem, eMail, mkL_length, hg, mM, mE, mC] <;> and_intros <;> first | with_reducible exact rfl | omega | with_reducible trivial | (intros; simp_all; done) | grind) ?_
                        refine RW_ls (by simp only [List.drop_succ_cons, List.drop_zero]; exact rfl) ?_
                        refine RW_callN q_laws_heldEntryS (s_laws_heldEntryS (xs.getD x zMail).entries _ (by omega) (hm _ (getD_mem zMail (by omega))) hat.2) true [] [] [] rfl rfl (by simp only [go_sem, eMail, mkL_length, hg, mM, mE, mC]; exact rfl) (by rfl) (by simp only [go_sem, eMail, mkL_length, hg, mM, mE, mC]; exact rfl) ?_
                        simp only [go_sem, eMail, mkL_length, hg, mM, mE, mC]; exact rfl) ?_
                      refine W_reg (by simp only [go_sem, eMail, mkL_length, hg, mM, mE, mC]; exact rfl) ?_
                      refine CW_cond (by simp only [go_sem, eMail, mkL_length, hg, mM, mE, mC]; exact rfl) (fun c9 => ?_) (fun c9 => ?_)
                      · skip
                        simp only [decide_eq_true_eq] at c9
                        omega
                      · skip
                        skip
                        refine CW_skip ?_
                        refine bk_n ?_
                        refine sq_n ?_
                        refine W_regn (by simp only [go_sem, eMail, mkL_length, hg, mM, mE, mC] <;> and_intros <;> first | with_reducible exact rfl | omega | with_reducible trivial | (intros; simp_all; done) | grind) ?_
                        refine lp_next (x+1) [] ?_ ?_ ?_
                        · (simp only [go_sem, eMail, mkL_length, hg, mM, mE, mC] <;> and_intros <;> first | with_reducible exact rfl | (first | omega | (refine int_eq ?_; rw [mkK_succ sM zMail (by omega)]; rfl)))
                        · omega
                        · omega
    · skip
      try simp only [Bool.not_eq_eq_eq_not, Bool.not_true, Bool.not_false, decide_eq_true_eq, decide_eq_false_iff_not, Bool.and_eq_true, Bool.or_eq_true] at c0
      obtain rfl : x = xs.length := by omega
      refine CW_exit ?_
      refine sq_e ?_
      refine lp_e ?_
      refine bk_i ?_
      refine sq_n ?_
      refine W_reg (by simp only [go_sem, eMail, mkL_length]; exact rfl) ?_
      refine CW_ret ?_
      simp only [go_sem, eMail, mkL_length]
      all_goals try first | refine int_res ?_ | refine bool_res ?_
      all_goals
        simp [mkL_length]
end Go.H
end
section
set_option maxRecDepth 100000
set_option linter.unusedVariables false
set_option linter.unusedSimpArgs false
namespace Go.H
open Go Go.Proofs.Tryz
def c_laws_heldInt64S : SC :=
.seq (rg [
  ss 4 (.mv (.i .i64 0))] [0, 1])
  (.seq (.seq (rg [
  ss 5 (.mv (.i .i64 0))] [0, 1, 5])
  (.block 0 (.loop (.seq (.seq (rg [
  ss 6 (.mv (.t 5)),
  ss 7 (.mv (.t 0)),
  sk 8 36864 (.len (.t 7)),
  ss 9 (.bin .lss (.t 6) (.t 8))] [0, 1, 5, 9])
  (.cond (.t 9) (.skip)
  (.exit 0)))
  (.seq (.block 1 (.seq (.seq (rg [
  ss 12 (.mv (.t 0)),
  ss 13 (.mv (.t 5)),
  sd (some 14) 0 0 dI_i64 (.idx (.t 12) (.t 13) 1),
  sd (some 15) 0 0 dI_i64 (.load (.t 14) 1 false),
  ss 16 (.mv (.t 1)),
  ss 17 (.bin .neq (.t 15) (.t 16))] [0, 1, 5, 17])
  (.cond (.t 17) (.seq (rg [
  ss 4 (.mv (.i .i64 (-1)))] [4])
  (.ret))
  (.skip)))
  (rg [
  ss 18 (.mv (.t 1)),
  sh 19 1 (.bin .add (.t 18) (.i .i64 1)),
  ss 1 (.mv (.t 19))] [0, 1, 5])))
  (rg [
  ss 10 (.mv (.t 5)),
  sh 11 1 (.bin .add (.t 10) (.i .i64 1)),
  ss 5 (.mv (.t 11))] [0, 1, 5]))))))
  (.seq (rg [
  ss 20 (.mv (.t 1)),
  ss 4 (.mv (.t 20))] [4])
  (.ret)))
theorem b_laws_heldInt64S : ∃ c, f152.body = some c ∧ compC prog 21 c = some c_laws_heldInt64S.er ∧ drawB c c_laws_heldInt64S = true := ⟨_, rfl, by kernel_rfl, by kernel_rfl⟩
theorem r_laws_heldInt64S : cmpR prog [.tmp 4] = some [.t 4] := by kernel_rfl
theorem q_laws_heldInt64S : callB prog F.laws_heldInt64S = true := by kernel_rfl
variable [Inv prog]
theorem s_laws_heldInt64S (xs : List Int) (k : Int) (hk : 0 ≤ k) (hl : xs.length ≤ 2097152) (hb : mkK sI xs k ≤ 9000000000000000000)  : SemX prog F.laws_heldInt64S [aT (.sl false 1 ((mkL mI sI xs k).map eI_i64)), aI k] [] [rI (mkK sI xs k)] [] := by
  obtain ⟨cc, g1, g2, g3⟩ := b_laws_heldInt64S
  refine SemX.of_code func152 g1 (by rw [ntmps152]; exact g2) g3 (by rw [results152]; exact r_laws_heldInt64S) (by rw [ntmps152]; exact Nat.le_of_ble_eq_true rfl) (Nat.le_of_ble_eq_true rfl) (by simp) (by simp [argOk, aT, aI, aS, eI_i64, mkL_length]) ?_
  unfold c_laws_heldInt64S
  simp only [rg]
  refine W_reg (by simp only [go_sem, eI_i64, mkL_length]; exact rfl) ?_
  refine CW_assoc ?_
  refine W_reg (by simp only [go_sem, eI_i64, mkL_length]; exact rfl) ?_
  refine CW_seq ?_
  refine CW_block ?_
  refine CW_loopS (α := Nat) (fun x => [(1, .int .i64 (mkK sI (xs.take x) k)), (5, .int .i64 x)]) (fun x => []) (fun x => xs.length - x) (fun x => x ≤ xs.length) 0 [] ?_ ?_ ?_
  · (simp only [go_sem, eI_i64, mkL_length] <;> and_intros <;> first | with_reducible exact rfl | (first | omega | (simp [mkK]; done)))
  · first | exact Nat.zero_le _ | (simp; done) | omega
  · rintro x hI
    refine CW_eq (by simp only [go_sem, eI_i64, mkL_length]; exact rfl) ?_
    refine CW_assoc ?_
    refine W_reg (by simp only [go_sem, eI_i64, mkL_length]; exact rfl) ?_
    refine CW_seq ?_
    refine CW_cond (by simp only [go_sem, eI_i64, mkL_length]; exact rfl) (fun c0 => ?_) (fun c0 => ?_)
    · skip
      try simp only [Bool.not_eq_eq_eq_not, Bool.not_true, Bool.not_false, decide_eq_true_eq, decide_eq_false_iff_not, Bool.and_eq_true, Bool.or_eq_true] at c0
      have hat := mkK_at sI_up zI_i64 (xs := xs) (i := x) (by omega) hb
      simp only [sI] at hat
      have hg := mkL_getD mI sI zI_i64 k (show x < xs.length by omega)
      refine CW_skip ?_
      refine sq_n ?_
      refine CW_seq ?_
      refine CW_block ?_
      refine CW_assoc ?_
      refine W_reg (by simp only [go_sem, eI_i64, mkL_length, hg, mI, mE, mC] <;> and_intros <;> first | with_reducible exact rfl | omega | with_reducible trivial | (intros; simp_all; done) | grind) ?_
      refine CW_seq ?_
      refine CW_cond (by simp only [go_sem, eI_i64, mkL_length, hg, mI, mE, mC]; exact rfl) (fun c1 => ?_) (fun c1 => ?_)
      · skip
        cases c1
      · skip
        skip
        refine CW_skip ?_
        refine sq_n ?_
        refine W_regn (by simp only [go_sem, eI_i64, mkL_length, hg, mI, mE, mC] <;> and_intros <;> first | with_reducible exact rfl | omega | with_reducible trivial | (intros; simp_all; done) | grind) ?_
        refine bk_n ?_
        refine sq_n ?_
        refine W_regn (by simp only [go_sem, eI_i64, mkL_length, hg, mI, mE, mC] <;> and_intros <;> first | with_reducible exact rfl | omega | with_reducible trivial | (intros; simp_all; done) | grind) ?_
        refine lp_next (x+1) [] ?_ ?_ ?_
        · (simp only [go_sem, eI_i64, mkL_length, hg, mI, mE, mC] <;> and_intros <;> first | with_reducible exact rfl | (first | omega | (refine int_eq ?_; rw [mkK_succ sI zI_i64 (by omega)]; rfl)))
        · omega
        · omega
    · skip
      try simp only [Bool.not_eq_eq_eq_not, Bool.not_true, Bool.not_false, decide_eq_true_eq, decide_eq_false_iff_not, Bool.and_eq_true, Bool.or_eq_true] at c0
      obtain rfl : x = xs.length := by omega
      refine CW_exit ?_
      refine sq_e ?_
      refine lp_e ?_
      refine bk_i ?_
      refine sq_n ?_
      refine W_reg (by simp only [go_sem, eI_i64, mkL_length]; exact rfl) ?_
      refine CW_ret ?_
      simp only [go_sem, eI_i64, mkL_length]
      all_goals try first | refine int_res ?_ | refine bool_res ?_
      all_goals
        simp [mkL_length]
end Go.H
end
section
set_option maxRecDepth 100000
set_option linter.unusedVariables false
set_option linter.unusedSimpArgs false
namespace Go.H
open Go Go.Proofs.Tryz
def c_laws_heldNodeS : SC :=
.seq (rg [
  ss 4 (.mv (.i .i64 0))] [0, 1])
  (.seq (.seq (rg [
  ss 5 (.mv (.i .i64 0))] [0, 1, 5])
  (.block 0 (.loop (.seq (.seq (rg [
  ss 6 (.mv (.t 5)),
  ss 7 (.mv (.t 0)),
  sk 8 36864 (.len (.t 7)),
  ss 9 (.bin .lss (.t 6) (.t 8))] [0, 1, 5, 9])
  (.cond (.t 9) (.skip)
  (.exit 0)))
  (.seq (.block 1 (.seq (.seq (rg [
  ss 12 (.mv (.t 0)),
  ss 13 (.mv (.t 5)),
  sd (some 14) 0 0 (dNode false) (.idx (.t 12) (.t 13) 10),
  ss 15 (.fad (.t 14) 0),
  sd (some 16) 0 0 (dNode true) (.load (.t 15) 1 false),
  ss 17 (.mv (.t 1)),
  ss 18 (.bin .neq (.t 16) (.t 17))] [0, 1, 5, 18])
  (.cond (.t 18) (.seq (rg [
  ss 4 (.mv (.i .i64 (-1)))] [4])
  (.ret))
  (.skip)))
  (.seq (rg [
  ss 19 (.mv (.t 1)),
  sh 20 1 (.bin .add (.t 19) (.i .i64 1)),
  ss 1 (.mv (.t 20))] [0, 1, 5])
  (.seq (.seq (rg [
  ss 21 (.mv (.t 0)),
  ss 22 (.mv (.t 5)),
  sd (some 23) 0 0 (dNode false) (.idx (.t 21) (.t 22) 10),
  ss 24 (.fad (.t 23) 1),
  sd (some 25) 0 0 (dNode true) (.load (.t 24) 1 false),
  ss 26 (.mv (.t 1)),
  ss 27 (.bin .neq (.t 25) (.t 26))] [0, 1, 5, 27])
  (.cond (.t 27) (.seq (rg [
  ss 4 (.mv (.i .i64 (-1)))] [4])
  (.ret))
  (.skip)))
  (.seq (rg [
  ss 28 (.mv (.t 1)),
  sh 29 1 (.bin .add (.t 28) (.i .i64 1)),
  ss 1 (.mv (.t 29))] [0, 1, 5])
  (.seq (.seq (rg [
  ss 30 (.mv (.t 0)),
  ss 31 (.mv (.t 5)),
  sd (some 32) 0 0 (dNode false) (.idx (.t 30) (.t 31) 10),
  ss 33 (.fad (.t 32) 2),
  sd (some 34) 0 0 (dNode true) (.load (.t 33) 1 false),
  ss 35 (.mv (.t 1)),
  ss 36 (.bin .neq (.t 34) (.t 35))] [0, 1, 5, 36])
  (.cond (.t 36) (.seq (rg [
  ss 4 (.mv (.i .i64 (-1)))] [4])
  (.ret))
  (.skip)))
  (.seq (rg [
  ss 37 (.mv (.t 1)),
  sh 38 1 (.bin .add (.t 37) (.i .i64 1)),
  ss 1 (.mv (.t 38))] [0, 1, 5])
  (.seq (.seq (rg [
  ss 39 (.mv (.t 0)),
  ss 40 (.mv (.t 5)),
  sd (some 41) 0 0 (dNode false) (.idx (.t 39) (.t 40) 10),
  ss 42 (.fad (.t 41) 3),
  sd (some 43) 0 0 (dNode true) (.load (.t 42) 1 false),
  ss 44 (.mv (.t 1)),
  ss 45 (.bin .neq (.t 43) (.t 44))] [0, 1, 5, 45])
  (.cond (.t 45) (.seq (rg [
  ss 4 (.mv (.i .i64 (-1)))] [4])
  (.ret))
  (.skip)))
  (.seq (rg [
  ss 46 (.mv (.t 1)),
  sh 47 1 (.bin .add (.t 46) (.i .i64 1)),
  ss 1 (.mv (.t 47))] [0, 1, 5])
  (.seq (rg [
  ss 48 (.mv (.t 0)),
  ss 49 (.mv (.t 5)),
  sd (some 50) 0 0 (dNode false) (.idx (.t 48) (.t 49) 10),
  ss 51 (.fad (.t 50) 4),
  sd (some 52) 0 0 (dNode true) (.load (.t 51) 1 false),
  ss 53 (.mv (.t 1)),
  sk 54 225280 (.call (.f F.laws_heldEntryS) [(.t 52, none), (.t 53, none)]),
  ss 1 (.mv (.t 54))] [0, 1, 5])
  (.seq (.seq (rg [
  ss 55 (.mv (.t 1)),
  ss 56 (.bin .lss (.t 55) (.i .i64 0))] [0, 1, 5, 56])
  (.cond (.t 56) (.seq (rg [
  ss 4 (.mv (.i .i64 (-1)))] [4])
  (.ret))
  (.skip)))
  (.seq (.seq (rg [
  ss 57 (.mv (.t 0)),
  ss 58 (.mv (.t 5)),
  sd (some 59) 0 0 (dNode false) (.idx (.t 57) (.t 58) 10),
  ss 60 (.fad (.t 59) 5),
  sd (some 61) 0 0 (dNode true) (.load (.t 60) 1 false),
  ss 62 (.mv (.t 1)),
  ss 63 (.bin .neq (.t 61) (.t 62))] [0, 1, 5, 63])
  (.cond (.t 63) (.seq (rg [
  ss 4 (.mv (.i .i64 (-1)))] [4])
  (.ret))
  (.skip)))
  (.seq (rg [
  ss 64 (.mv (.t 1)),
  sh 65 1 (.bin .add (.t 64) (.i .i64 1)),
  ss 1 (.mv (.t 65))] [0, 1, 5])
  (.seq (.seq (rg [
  ss 66 (.mv (.t 0)),
  ss 67 (.mv (.t 5)),
  sd (some 68) 0 0 (dNode false) (.idx (.t 66) (.t 67) 10),
  ss 69 (.fad (.t 68) 6),
  sd (some 70) 0 0 (dNode true) (.load (.t 69) 1 false),
  ss 71 (.mv (.t 1)),
  ss 72 (.bin .neq (.t 70) (.t 71))] [0, 1, 5, 72])
  (.cond (.t 72) (.seq (rg [
  ss 4 (.mv (.i .i64 (-1)))] [4])
  (.ret))
  (.skip)))
  (.seq (rg [
  ss 73 (.mv (.t 1)),
  sh 74 1 (.bin .add (.t 73) (.i .i64 1)),
  ss 1 (.mv (.t 74))] [0, 1, 5])
  (.seq (rg [
  ss 75 (.mv (.t 0)),
  ss 76 (.mv (.t 5)),
  sd (some 77) 0 0 (dNode false) (.idx (.t 75) (.t 76) 10),
  ss 78 (.fad (.t 77) 7),
  sd (some 79) 0 0 (dNode true) (.load (.t 78) 1 false),
  ss 80 (.mv (.t 1)),
  sk 81 335872 (.call (.f F.laws_heldInt64S) [(.t 79, none), (.t 80, none)]),
  ss 1 (.mv (.t 81))] [0, 1, 5])
  (.seq (.seq (rg [
  ss 82 (.mv (.t 1)),
  ss 83 (.bin .lss (.t 82) (.i .i64 0))] [0, 1, 5, 83])
  (.cond (.t 83) (.seq (rg [
  ss 4 (.mv (.i .i64 (-1)))] [4])
  (.ret))
  (.skip)))
  (.seq (rg [
  ss 84 (.mv (.t 0)),
  ss 85 (.mv (.t 5)),
  sd (some 86) 0 0 (dNode false) (.idx (.t 84) (.t 85) 10),
  ss 87 (.fad (.t 86) 8),
  sd (some 88) 0 0 (dNode true) (.load (.t 87) 1 false),
  ss 89 (.mv (.t 1)),
  sk 90 372736 (.call (.f F.laws_heldInt64S) [(.t 88, none), (.t 89, none)]),
  ss 1 (.mv (.t 90))] [0, 1, 5])
  (.seq (.seq (rg [
  ss 91 (.mv (.t 1)),
  ss 92 (.bin .lss (.t 91) (.i .i64 0))] [0, 1, 5, 92])
  (.cond (.t 92) (.seq (rg [
  ss 4 (.mv (.i .i64 (-1)))] [4])
  (.ret))
  (.skip)))
  (.seq (rg [
  ss 93 (.mv (.t 0)),
  ss 94 (.mv (.t 5)),
  sd (some 95) 0 0 (dNode false) (.idx (.t 93) (.t 94) 10),
  ss 96 (.fad (.t 95) 9),
  sd (some 97) 0 0 (dNode true) (.load (.t 96) 1 false),
  ss 98 (.mv (.t 1)),
  sk 99 409600 (.call (.f F.laws_heldInt64S) [(.t 97, none), (.t 98, none)]),
  ss 1 (.mv (.t 99))] [0, 1, 5])
  (.seq (rg [
  ss 100 (.mv (.t 1)),
  ss 101 (.bin .lss (.t 100) (.i .i64 0))] [0, 1, 5, 101])
  (.cond (.t 101) (.seq (rg [
  ss 4 (.mv (.i .i64 (-1)))] [4])
  (.ret))
  (.skip)))))))))))))))))))))))
  (rg [
  ss 10 (.mv (.t 5)),
  sh 11 1 (.bin .add (.t 10) (.i .i64 1)),
  ss 5 (.mv (.t 11))] [0, 1, 5]))))))
  (.seq (rg [
  ss 102 (.mv (.t 1)),
  ss 4 (.mv (.t 102))] [4])
  (.ret)))
theorem b_laws_heldNodeS : ∃ c, f122.body = some c ∧ compC prog 103 c = some c_laws_heldNodeS.er ∧ drawB c c_laws_heldNodeS = true := ⟨_, rfl, by kernel_rfl, by kernel_rfl⟩
theorem r_laws_heldNodeS : cmpR prog [.tmp 4] = some [.t 4] := by kernel_rfl
theorem q_laws_heldNodeS : callB prog F.laws_heldNodeS = true := by kernel_rfl
variable [Inv prog]
theorem s_laws_heldNodeS (xs : List Node) (k : Int) (hk : 0 ≤ k) (hl : xs.length ≤ 2097152) (hb : mkK sN xs k ≤ 9000000000000000000) (hn : ∀ y ∈ xs, limN 2097152 y) : SemX prog F.laws_heldNodeS [aT (.sl false 10 ((mkL mN sN xs k).map (eNode false))), aI k] [] [rI (mkK sN xs k)] [] := by
  obtain ⟨cc, g1, g2, g3⟩ := b_laws_heldNodeS
  refine SemX.of_code func122 g1 (by rw [ntmps122]; exact g2) g3 (by rw [results122]; exact r_laws_heldNodeS) (by rw [ntmps122]; exact Nat.le_of_ble_eq_true rfl) (Nat.le_of_ble_eq_true rfl) (by simp) (by simp [argOk, aT, aI, aS, eNode, mkL_length]) ?_
  unfold c_laws_heldNodeS
  simp only [rg]
  refine W_reg (by simp only [go_sem, eNode, mkL_length]; exact rfl) ?_
  refine CW_assoc ?_
  refine W_reg (by simp only [go_sem, eNode, mkL_length]; exact rfl) ?_
  refine CW_seq ?_
  refine CW_block ?_
  refine CW_loopS (α := Nat) (fun x => [(1, .int .i64 (mkK sN (xs.take x) k)), (5, .int .i64 x)]) (fun x => []) (fun x => xs.length - x) (fun x => x ≤ xs.length) 0 [] ?_ ?_ ?_
  · (simp only [go_sem, eNode, mkL_length] <;> and_intros <;> first | with_reducible exact rfl | (first | omega | (simp [mkK]; done)))
  · first | exact Nat.zero_le _ | (simp; done) | omega
  · rintro x hI
    refine CW_eq (by simp only [go_sem, eNode, mkL_length]; exact rfl) ?_
    refine CW_assoc ?_
    refine W_reg (by simp only [go_sem, eNode, mkL_length]; exact rfl) ?_
    refine CW_seq ?_
    refine CW_cond (by simp only [go_sem, eNode, mkL_length]; exact rfl) (fun c0 => ?_) (fun c0 => ?_)
    · skip
      try simp only [Bool.not_eq_eq_eq_not, Bool.not_true, Bool.not_false, decide_eq_true_eq, decide_eq_false_iff_not, Bool.and_eq_true, Bool.or_eq_true] at c0
      have hat := mkK_at sN_up zNode (xs := xs) (i := x) (by omega) hb
      simp only [sN] at hat
      have hg := mkL_getD mN sN zNode k (show x < xs.length by omega)
      simp only [kN4] at hat
      have u4 := Int.le_trans (mkK_mono sI_up _ _) hat.2
      have u3 := Int.le_trans (mkK_mono sI_up _ _) u4
      have u2 := Int.le_trans (mkK_mono sI_up _ _) u3
      have u1 : mkK sE (xs.getD x zNode).log (mkK sN (xs.take x) k + 1 + 1 + 1 + 1) ≤ 9000000000000000000 := by omega
      have u0 := Int.le_trans (mkK_mono sE_up _ _) u1
      have v1 := mkK_mono sE_up (xs.getD x zNode).log (mkK sN (xs.take x) k + 1 + 1 + 1 + 1)
      have v2 := mkK_mono sI_up (xs.getD x zNode).votes (mkK sE (xs.getD x zNode).log (mkK sN (xs.take x) k + 1 + 1 + 1 + 1) + 1 + 1)
      have v3 := mkK_mono sI_up (xs.getD x zNode).next (mkK sI (xs.getD x zNode).votes (mkK sE (xs.getD x zNode).log (mkK sN (xs.take x) k + 1 + 1 + 1 + 1) + 1 + 1))
      have v4 := mkK_mono sI_up (xs.getD x zNode).match_ (mkK sI (xs.getD x zNode).next (mkK sI (xs.getD x zNode).votes (mkK sE (xs.getD x zNode).log (mkK sN (xs.take x) k + 1 + 1 + 1 + 1) + 1 + 1)))
      refine CW_skip ?_
      refine sq_n ?_
      refine CW_seq ?_
      refine CW_block ?_
      refine CW_assoc ?_
      refine W_reg (by simp only [go_sem, eNode, mkL_length, hg, mN, mE, mC, kN4] <;> and_intros <;> first | with_reducible exact rfl | omega | with_reducible trivial | (intros; simp_all; done) | grind) ?_
      refine CW_seq ?_
      refine CW_cond (by simp only [go_sem, eNode, mkL_length, hg, mN, mE, mC, kN4]; exact rfl) (fun c1 => ?_) (fun c1 => ?_)
      · skip
        cases c1
      · skip
        skip
        refine CW_skip ?_
        refine sq_n ?_
        refine W_reg (by simp only [go_sem, eNode, mkL_length, hg, mN, mE, mC, kN4] <;> and_intros <;> first | with_reducible exact rfl | omega | with_reducible trivial | (intros; simp_all; done) | grind) ?_
        refine CW_assoc ?_
        refine W_reg (by simp only [go_sem, eNode, mkL_length, hg, mN, mE, mC, kN4] <;> and_intros <;> first | with_reducible exact rfl | omega | with_reducible trivial | (intros; simp_all; done) | grind) ?_
        refine CW_seq ?_
        refine CW_cond (by simp only [go_sem, eNode, mkL_length, hg, mN, mE, mC, kN4]; exact rfl) (fun c2 => ?_) (fun c2 => ?_)
        · skip
          cases c2
        · skip
          skip
          refine CW_skip ?_
          refine sq_n ?_
          refine W_reg (by simp only [go_sem, eNode, mkL_length, hg, mN, mE, mC, kN4] <;> and_intros <;> first | with_reducible exact rfl | omega | with_reducible trivial | (intros; simp_all; done) | grind) ?_
          refine CW_assoc ?_
          refine W_reg (by simp only [go_sem, eNode, mkL_length, hg, mN, mE, mC, kN4] <;> and_intros <;> first | with_reducible exact rfl | omega | with_reducible trivial | (intros; simp_all; done) | grind) ?_
          refine CW_seq ?_
          refine CW_cond (by simp only [go_sem, eNode, mkL_length, hg, mN, mE, mC, kN4]; exact rfl) (fun c3 => ?_) (fun c3 => ?_)
          · skip
            cases c3
          · skip
            skip
            refine CW_skip ?_
            refine sq_n ?_
            refine W_reg (by simp only [go_sem, eNode, mkL_length, hg, mN, mE, mC, kN4] <;> and_intros <;> first | with_reducible exact rfl | omega | with_reducible trivial | (intros; simp_all; done) | grind) ?_
            refine CW_assoc ?_
            refine W_reg (by simp only [go_sem, eNode, mkL_length, hg, mN, mE, mC, kN4] <;> and_intros <;> first | with_reducible exact rfl | omega | with_reducible trivial | (intros; simp_all; done) | grind) ?_
            refine CW_seq ?_
            refine CW_cond (by simp only [go_sem, eNode, mkL_length, hg, mN, mE, mC, kN4]; exact rfl) (fun c4 => ?_) (fun c4 => ?_)
            · skip
              cases c4
            · skip
              skip
              refine CW_skip ?_
              refine sq_n ?_
              refine W_reg (by simp only [go_sem, eNode, mkL_length, hg, mN, mE, mC, kN4] <;> and_intros <;> first | with_reducible exact rfl | omega | with_reducible trivial | (intros; simp_all; done) | grind) ?_
              refine W_reg (by
                refine RW_cut 6 (by simp only [go_sem, eNode, mkL_length, hg, mN, mE, mC, kN4] <;> and_intros <;> first | with_reducible exact rfl | omega | with_reducible trivial | (intros; simp_all; done) | grind) ?_
                refine RW_ls (by simp only [List.drop_succ_cons, List.drop_zero]; exact rfl) ?_
                refine RW_callN q_laws_heldEntryS (s_laws_heldEntryS (xs.getD x zNode).log _ (by omega) (hn _ (getD_mem zNode (by omega))).1 u1) true [] [] [] rfl rfl (by simp only [go_sem, eNode, mkL_length, hg, mN, mE, mC, kN4]; exact rfl) (by rfl) (by simp only [go_sem, eNode, mkL_length, hg, mN, mE, mC, kN4]; exact rfl) ?_
                simp only [go_sem, eNode, mkL_length, hg, mN, mE, mC, kN4]; exact rfl) ?_
              refine CW_assoc ?_
              refine W_reg (by simp only [go_sem, eNode, mkL_length, hg, mN, mE, mC, kN4]; exact rfl) ?_
              refine CW_seq ?_
              refine CW_cond (by simp only [go_sem, eNode, mkL_length, hg, mN, mE, mC, kN4]; exact rfl) (fun c5 => ?_) (fun c5 => ?_)
              · skip
                simp only [decide_eq_true_eq] at c5
                omega
              · skip
                skip
                refine CW_skip ?_
                refine sq_n ?_
                refine CW_assoc ?_
                refine W_reg (by simp only [go_sem, eNode, mkL_length, hg, mN, mE, mC, kN4] <;> and_intros <;> first | with_reducible exact rfl | omega | with_reducible trivial | (intros; simp_all; done) | grind) ?_
                refine CW_seq ?_
                refine CW_cond (by simp only [go_sem, eNode, mkL_length, hg, mN, mE, mC, kN4]; exact rfl) (fun c6 => ?_) (fun c6 => ?_)
                · skip
                  cases c6
                · skip
                  skip
                  refine CW_skip ?_
                  refine sq_n ?_
                  refine W_reg (by simp only [go_sem, eNode, mkL_length, hg, mN, mE, mC, kN4] <;> and_intros <;> first | with_reducible exact rfl | omega | with_reducible trivial | (intros; simp_all; done) | grind) ?_
                  refine CW_assoc ?_
                  refine W_reg (by simp only [go_sem, eNode, mkL_length, hg, mN, mE, mC, kN4] <;> and_intros <;> first | with_reducible exact rfl | omega | with_reducible trivial | (intros; simp_all; done) | grind) ?_
                  refine CW_seq ?_
                  refine CW_cond (by simp only [go_sem, eNode, mkL_length, hg, mN, mE, mC, kN4]; exact rfl) (fun c7 => ?_) (fun c7 => ?_)
                  · skip
                    cases c7
                  · skip
                    skip
                    refine CW_skip ?_
                    refine sq_n ?_
                    refine W_reg (by simp only [go_sem, eNode, mkL_length, hg, mN, mE, mC, kN4] <;> and_intros <;> first | with_reducible exact rfl | omega | with_reducible trivial | (intros; simp_all; done) | grind) ?_
                    refine W_reg (by
                      refine RW_cut 6 (by simp only [go_sem, eNode, mkL_length, hg, mN, mE, mC, kN4] <;> and_intros <;> first | with_reducible exact rfl | omega | with_reducible trivial | (intros; simp_all; done) | grind) ?_
                      refine RW_ls (by simp only [List.drop_succ_cons, List.drop_zero]; exact rfl) ?_
                      refine RW_callN q_laws_heldInt64S (s_laws_heldInt64S (xs.getD x zNode).votes _ (by omega) (hn _ (getD_mem zNode (by omega))).2.1 u3) true [] [] [] rfl rfl (by simp only [go_sem, eNode, mkL_length, hg, mN, mE, mC, kN4]; exact rfl) (by rfl) (by simp only [go_sem, eNode, mkL_length, hg, mN, mE, mC, kN4]; exact rfl) ?_
                      simp only [go_sem, eNode, mkL_length, hg, mN, mE, mC, kN4]; exact rfl) ?_
                    refine CW_assoc ?_
                    refine W_reg (by simp only [go_sem, eNode, mkL_length, hg, mN, mE, mC, kN4]; exact rfl) ?_
                    refine CW_seq ?_
                    refine CW_cond (by simp only [go_sem, eNode, mkL_length, hg, mN, mE, mC, kN4]; exact rfl) (fun c8 => ?_) (fun c8 => ?_)
                    · skip
                      simp only [decide_eq_true_eq] at c8
                      omega
                    · skip
                      skip
                      refine CW_skip ?_
                      refine sq_n ?_
                      refine W_reg (by
                        refine RW_cut 6 (by simp only [go_sem, eNode, mkL_length, hg, mN, mE, mC, kN4] <;> and_intros <;> first | with_reducible exact rfl | omega | with_reducible trivial | (intros; simp_all; done) | grind) ?_
                        refine RW_ls (by simp only [List.drop_succ_cons, List.drop_zero]; exact rfl) ?_
                        refine RW_callN q_laws_heldInt64S (s_laws_heldInt64S (xs.getD x zNode).next _ (by omega) (hn _ (getD_mem zNode (by omega))).2.2.1 u4) true [] [] [] rfl rfl (by simp only [go_sem, eNode, mkL_length, hg, mN, mE, mC, kN4]; exact rfl) (by rfl) (by simp only [go_sem, eNode, mkL_length, hg, mN, mE, mC, kN4]; exact rfl) ?_
                        simp only [go_sem, eNode, mkL_length, hg, mN, mE, mC, kN4]; exact rfl) ?_
                      refine CW_assoc ?_
                      refine W_reg (by simp only [go_sem, eNode, mkL_length, hg, mN, mE, mC, kN4]; exact rfl) ?_
                      refine CW_seq ?_
                      refine CW_cond (by simp only [go_sem, eNode, mkL_length, hg, mN, mE, mC, kN4]; exact rfl) (fun c9 => ?_) (fun c9 => ?_)
                      · skip
                        simp only [decide_eq_true_eq] at c9
                        omega
                      · skip
                        skip
                        refine CW_skip ?_
                        refine sq_n ?_
                        refine W_reg (by
                          refine RW_cut 6 (by simp only [go_sem, eNode, mkL_length, hg, mN, mE, mC, kN4] <;> and_intros <;> first | with_reducible exact rfl | omega | with_reducible trivial | (intros; simp_all; done) | grind) ?_
                          refine RW_ls (by simp only [List.drop_succ_cons, List.drop_zero]; exact rfl) ?_
                          refine RW_callN q_laws_heldInt64S (s_laws_heldInt64S (xs.getD x zNode).match_ _ (by omega) (hn _ (getD_mem zNode (by omega))).2.2.2 hat.2) true [] [] [] rfl rfl (by simp only [go_sem, eNode, mkL_length, hg, mN, mE, mC, kN4]; exact rfl) (by rfl) (by simp only [go_sem, eNode, mkL_length, hg, mN, mE, mC, kN4]; exact rfl) ?_
                          simp only [go_sem, eNode, mkL_length, hg, mN, mE, mC, kN4]; exact rfl) ?_
                        refine W_reg (by simp only [go_sem, eNode, mkL_length, hg, mN, mE, mC, kN4]; exact rfl) ?_
                        refine CW_cond (by simp only [go_sem, eNode, mkL_length, hg, mN, mE, mC, kN4]; exact rfl) (fun c10 => ?_) (fun c10 => ?_)
                        · skip
                          simp only [decide_eq_true_eq] at c10
                          omega
                        · skip
                          skip
                          refine CW_skip ?_
                          refine bk_n ?_
                          refine sq_n ?_
                          refine W_regn (by simp only [go_sem, eNode, mkL_length, hg, mN, mE, mC, kN4] <;> and_intros <;> first | with_reducible exact rfl | omega | with_reducible trivial | (intros; simp_all; done) | grind) ?_
                          refine lp_next (x+1) [] ?_ ?_ ?_
                          · (simp only [go_sem, eNode, mkL_length, hg, mN, mE, mC, kN4] <;> and_intros <;> first | with_reducible exact rfl | (first | omega | (refine int_eq ?_; rw [mkK_succ sN zNode (by omega)]; rfl)))
                          · omega
                          · omega
    · skip
      try simp only [Bool.not_eq_eq_eq_not, Bool.not_true, Bool.not_false, decide_eq_true_eq, decide_eq_false_iff_not, Bool.and_eq_true, Bool.or_eq_true] at c0
      obtain rfl : x = xs.length := by omega
      refine CW_exit ?_
      refine sq_e ?_
      refine lp_e ?_
      refine bk_i ?_
      refine sq_n ?_
      refine W_reg (by simp only [go_sem, eNode, mkL_length]; exact rfl) ?_
      refine CW_ret ?_
      simp only [go_sem, eNode, mkL_length]
      all_goals try first | refine int_res ?_ | refine bool_res ?_
      all_goals
        simp [mkL_length]
end Go.H
end
section
set_option maxRecDepth 100000
set_option linter.unusedVariables false
set_option linter.unusedSimpArgs false
namespace Go.H
open Go Go.Proofs.Tryz
def c_laws_heldWonS : SC :=
.seq (rg [
  ss 4 (.mv (.i .i64 0))] [0, 1])
  (.seq (.seq (rg [
  ss 5 (.mv (.i .i64 0))] [0, 1, 5])
  (.block 0 (.loop (.seq (.seq (rg [
  ss 6 (.mv (.t 5)),
  ss 7 (.mv (.t 0)),
  sk 8 36864 (.len (.t 7)),
  ss 9 (.bin .lss (.t 6) (.t 8))] [0, 1, 5, 9])
  (.cond (.t 9) (.skip)
  (.exit 0)))
  (.seq (.block 1 (.seq (.seq (rg [
  ss 12 (.mv (.t 0)),
  ss 13 (.mv (.t 5)),
  sd (some 14) 0 0 dWon (.idx (.t 12) (.t 13) 2),
  ss 15 (.fad (.t 14) 0),
  sd (some 16) 0 0 dWon (.load (.t 15) 1 false),
  ss 17 (.mv (.t 1)),
  ss 18 (.bin .neq (.t 16) (.t 17))] [0, 1, 5, 18])
  (.cond (.t 18) (.seq (rg [
  ss 4 (.mv (.i .i64 (-1)))] [4])
  (.ret))
  (.skip)))
  (.seq (rg [
  ss 19 (.mv (.t 1)),
  sh 20 1 (.bin .add (.t 19) (.i .i64 1)),
  ss 1 (.mv (.t 20))] [0, 1, 5])
  (.seq (.seq (rg [
  ss 21 (.mv (.t 0)),
  ss 22 (.mv (.t 5)),
  sd (some 23) 0 0 dWon (.idx (.t 21) (.t 22) 2),
  ss 24 (.fad (.t 23) 1),
  sd (some 25) 0 0 dWon (.load (.t 24) 1 false),
  ss 26 (.mv (.t 1)),
  ss 27 (.bin .neq (.t 25) (.t 26))] [0, 1, 5, 27])
  (.cond (.t 27) (.seq (rg [
  ss 4 (.mv (.i .i64 (-1)))] [4])
  (.ret))
  (.skip)))
  (rg [
  ss 28 (.mv (.t 1)),
  sh 29 1 (.bin .add (.t 28) (.i .i64 1)),
  ss 1 (.mv (.t 29))] [0, 1, 5])))))
  (rg [
  ss 10 (.mv (.t 5)),
  sh 11 1 (.bin .add (.t 10) (.i .i64 1)),
  ss 5 (.mv (.t 11))] [0, 1, 5]))))))
  (.seq (rg [
  ss 30 (.mv (.t 1)),
  ss 4 (.mv (.t 30))] [4])
  (.ret)))
theorem b_laws_heldWonS : ∃ c, f123.body = some c ∧ compC prog 31 c = some c_laws_heldWonS.er ∧ drawB c c_laws_heldWonS = true := ⟨_, rfl, by kernel_rfl, by kernel_rfl⟩
theorem r_laws_heldWonS : cmpR prog [.tmp 4] = some [.t 4] := by kernel_rfl
theorem q_laws_heldWonS : callB prog F.laws_heldWonS = true := by kernel_rfl
variable [Inv prog]
theorem s_laws_heldWonS (xs : List Won) (k : Int) (hk : 0 ≤ k) (hl : xs.length ≤ 2097152) (hb : mkK sW xs k ≤ 9000000000000000000)  : SemX prog F.laws_heldWonS [aT (.sl false 2 ((mkL mW sW xs k).map eWon)), aI k] [] [rI (mkK sW xs k)] [] := by
  obtain ⟨cc, g1, g2, g3⟩ := b_laws_heldWonS
  refine SemX.of_code func123 g1 (by rw [ntmps123]; exact g2) g3 (by rw [results123]; exact r_laws_heldWonS) (by rw [ntmps123]; exact Nat.le_of_ble_eq_true rfl) (Nat.le_of_ble_eq_true rfl) (by simp) (by simp [argOk, aT, aI, aS, eWon, mkL_length]) ?_
  unfold c_laws_heldWonS
  simp only [rg]
  refine W_reg (by simp only [go_sem, eWon, mkL_length]; exact rfl) ?_
  refine CW_assoc ?_
  refine W_reg (by simp only [go_sem, eWon, mkL_length]; exact rfl) ?_
  refine CW_seq ?_
  refine CW_block ?_
  refine CW_loopS (α := Nat) (fun x => [(1, .int .i64 (mkK sW (xs.take x) k)), (5, .int .i64 x)]) (fun x => []) (fun x => xs.length - x) (fun x => x ≤ xs.length) 0 [] ?_ ?_ ?_
  · (simp only [go_sem, eWon, mkL_length] <;> and_intros <;> first | with_reducible exact rfl | (first | omega | (simp [mkK]; done)))
  · first | exact Nat.zero_le _ | (simp; done) | omega
  · rintro x hI
    refine CW_eq (by simp only [go_sem, eWon, mkL_length]; exact rfl) ?_
    refine CW_assoc ?_
    refine W_reg (by simp only [go_sem, eWon, mkL_length]; exact rfl) ?_
    refine CW_seq ?_
    refine CW_cond (by simp only [go_sem, eWon, mkL_length]; exact rfl) (fun c0 => ?_) (fun c0 => ?_)
    · skip
      try simp only [Bool.not_eq_eq_eq_not, Bool.not_true, Bool.not_false, decide_eq_true_eq, decide_eq_false_iff_not, Bool.and_eq_true, Bool.or_eq_true] at c0
      have hat := mkK_at sW_up zWon (xs := xs) (i := x) (by omega) hb
      simp only [sW] at hat
      have hg := mkL_getD mW sW zWon k (show x < xs.length by omega)
      refine CW_skip ?_
      refine sq_n ?_
      refine CW_seq ?_
      refine CW_block ?_
      refine CW_assoc ?_
      refine W_reg (by simp only [go_sem, eWon, mkL_length, hg, mW, mE, mC] <;> and_intros <;> first | with_reducible exact rfl | omega | with_reducible trivial | (intros; simp_all; done) | grind) ?_
      refine CW_seq ?_
      refine CW_cond (by simp only [go_sem, eWon, mkL_length, hg, mW, mE, mC]; exact rfl) (fun c1 => ?_) (fun c1 => ?_)
      · skip
        cases c1
      · skip
        skip
        refine CW_skip ?_
        refine sq_n ?_
        refine W_reg (by simp only [go_sem, eWon, mkL_length, hg, mW, mE, mC] <;> and_intros <;> first | with_reducible exact rfl | omega | with_reducible trivial | (intros; simp_all; done) | grind) ?_
        refine CW_assoc ?_
        refine W_reg (by simp only [go_sem, eWon, mkL_length, hg, mW, mE, mC] <;> and_intros <;> first | with_reducible exact rfl | omega | with_reducible trivial | (intros; simp_all; done) | grind) ?_
        refine CW_seq ?_
        refine CW_cond (by simp only [go_sem, eWon, mkL_length, hg, mW, mE, mC]; exact rfl) (fun c2 => ?_) (fun c2 => ?_)
        · skip
          cases c2
        · skip
          skip
          refine CW_skip ?_
          refine sq_n ?_
          refine W_regn (by simp only [go_sem, eWon, mkL_length, hg, mW, mE, mC] <;> and_intros <;> first | with_reducible exact rfl | omega | with_reducible trivial | (intros; simp_all; done) | grind) ?_
          refine bk_n ?_
          refine sq_n ?_
          refine W_regn (by simp only [go_sem, eWon, mkL_length, hg, mW, mE, mC] <;> and_intros <;> first | with_reducible exact rfl | omega | with_reducible trivial | (intros; simp_all; done) | grind) ?_
          refine lp_next (x+1) [] ?_ ?_ ?_
          · (simp only [go_sem, eWon, mkL_length, hg, mW, mE, mC] <;> and_intros <;> first | with_reducible exact rfl | (first | omega | (refine int_eq ?_; rw [mkK_succ sW zWon (by omega)]; rfl)))
          · omega
          · omega
    · skip
      try simp only [Bool.not_eq_eq_eq_not, Bool.not_true, Bool.not_false, decide_eq_true_eq, decide_eq_false_iff_not, Bool.and_eq_true, Bool.or_eq_true] at c0
      obtain rfl : x = xs.length := by omega
      refine CW_exit ?_
      refine sq_e ?_
      refine lp_e ?_
      refine bk_i ?_
      refine sq_n ?_
      refine W_reg (by simp only [go_sem, eWon, mkL_length]; exact rfl) ?_
      refine CW_ret ?_
      simp only [go_sem, eWon, mkL_length]
      all_goals try first | refine int_res ?_ | refine bool_res ?_
      all_goals
        simp [mkL_length]
end Go.H
end
section
set_option maxRecDepth 100000
set_option linter.unusedVariables false
set_option linter.unusedSimpArgs false
namespace Go.H
open Go Go.Proofs.Tryz
def c_laws_heldSealS : SC :=
.seq (rg [
  ss 4 (.mv (.i .i64 0))] [0, 1])
  (.seq (.seq (rg [
  ss 5 (.mv (.i .i64 0))] [0, 1, 5])
  (.block 0 (.loop (.seq (.seq (rg [
  ss 6 (.mv (.t 5)),
  ss 7 (.mv (.t 0)),
  sk 8 36864 (.len (.t 7)),
  ss 9 (.bin .lss (.t 6) (.t 8))] [0, 1, 5, 9])
  (.cond (.t 9) (.skip)
  (.exit 0)))
  (.seq (.block 1 (.seq (.seq (rg [
  ss 12 (.mv (.t 0)),
  ss 13 (.mv (.t 5)),
  sd (some 14) 0 0 dSeal (.idx (.t 12) (.t 13) 10),
  ss 15 (.fad (.t 14) 0),
  sd (some 16) 0 0 dSeal (.load (.t 15) 1 false),
  ss 17 (.mv (.t 1)),
  ss 18 (.bin .neq (.t 16) (.t 17))] [0, 1, 5, 18])
  (.cond (.t 18) (.seq (rg [
  ss 4 (.mv (.i .i64 (-1)))] [4])
  (.ret))
  (.skip)))
  (.seq (rg [
  ss 19 (.mv (.t 1)),
  sh 20 1 (.bin .add (.t 19) (.i .i64 1)),
  ss 1 (.mv (.t 20))] [0, 1, 5])
  (.seq (.seq (rg [
  ss 21 (.mv (.t 0)),
  ss 22 (.mv (.t 5)),
  sd (some 23) 0 0 dSeal (.idx (.t 21) (.t 22) 10),
  ss 24 (.fad (.t 23) 1),
  ss 25 (.fad (.t 24) 0),
  sd (some 26) 0 0 dSeal (.load (.t 25) 1 false),
  ss 27 (.mv (.t 1)),
  ss 28 (.bin .neq (.t 26) (.t 27))] [0, 1, 5, 28])
  (.cond (.t 28) (.seq (rg [
  ss 4 (.mv (.i .i64 (-1)))] [4])
  (.ret))
  (.skip)))
  (.seq (rg [
  ss 29 (.mv (.t 1)),
  sh 30 1 (.bin .add (.t 29) (.i .i64 1)),
  ss 1 (.mv (.t 30))] [0, 1, 5])
  (.seq (.seq (rg [
  ss 31 (.mv (.t 0)),
  ss 32 (.mv (.t 5)),
  sd (some 33) 0 0 dSeal (.idx (.t 31) (.t 32) 10),
  ss 34 (.fad (.t 33) 1),
  ss 35 (.fad (.t 34) 1),
  sd (some 36) 0 0 dSeal (.load (.t 35) 1 false),
  ss 37 (.mv (.t 1)),
  ss 38 (.bin .neq (.t 36) (.t 37))] [0, 1, 5, 38])
  (.cond (.t 38) (.seq (rg [
  ss 4 (.mv (.i .i64 (-1)))] [4])
  (.ret))
  (.skip)))
  (.seq (rg [
  ss 39 (.mv (.t 1)),
  sh 40 1 (.bin .add (.t 39) (.i .i64 1)),
  ss 1 (.mv (.t 40))] [0, 1, 5])
  (.seq (.seq (rg [
  ss 41 (.mv (.t 0)),
  ss 42 (.mv (.t 5)),
  sd (some 43) 0 0 dSeal (.idx (.t 41) (.t 42) 10),
  ss 44 (.fad (.t 43) 1),
  ss 45 (.fad (.t 44) 2),
  sd (some 46) 0 0 dSeal (.load (.t 45) 1 false),
  ss 47 (.mv (.t 1)),
  ss 48 (.bin .neq (.t 46) (.t 47))] [0, 1, 5, 48])
  (.cond (.t 48) (.seq (rg [
  ss 4 (.mv (.i .i64 (-1)))] [4])
  (.ret))
  (.skip)))
  (.seq (rg [
  ss 49 (.mv (.t 1)),
  sh 50 1 (.bin .add (.t 49) (.i .i64 1)),
  ss 1 (.mv (.t 50))] [0, 1, 5])
  (.seq (.seq (rg [
  ss 51 (.mv (.t 0)),
  ss 52 (.mv (.t 5)),
  sd (some 53) 0 0 dSeal (.idx (.t 51) (.t 52) 10),
  ss 54 (.fad (.t 53) 1),
  ss 55 (.fad (.t 54) 3),
  ss 56 (.fad (.t 55) 0),
  sd (some 57) 0 0 dSeal (.load (.t 56) 1 false),
  ss 58 (.mv (.t 1)),
  ss 59 (.bin .neq (.t 57) (.t 58))] [0, 1, 5, 59])
  (.cond (.t 59) (.seq (rg [
  ss 4 (.mv (.i .i64 (-1)))] [4])
  (.ret))
  (.skip)))
  (.seq (rg [
  ss 60 (.mv (.t 1)),
  sh 61 1 (.bin .add (.t 60) (.i .i64 1)),
  ss 1 (.mv (.t 61))] [0, 1, 5])
  (.seq (.seq (rg [
  ss 62 (.mv (.t 0)),
  ss 63 (.mv (.t 5)),
  sd (some 64) 0 0 dSeal (.idx (.t 62) (.t 63) 10),
  ss 65 (.fad (.t 64) 1),
  ss 66 (.fad (.t 65) 3),
  ss 67 (.fad (.t 66) 1),
  sd (some 68) 0 0 dSeal (.load (.t 67) 1 false),
  ss 69 (.mv (.t 1)),
  ss 70 (.bin .neq (.t 68) (.t 69))] [0, 1, 5, 70])
  (.cond (.t 70) (.seq (rg [
  ss 4 (.mv (.i .i64 (-1)))] [4])
  (.ret))
  (.skip)))
  (.seq (rg [
  ss 71 (.mv (.t 1)),
  sh 72 1 (.bin .add (.t 71) (.i .i64 1)),
  ss 1 (.mv (.t 72))] [0, 1, 5])
  (.seq (.seq (rg [
  ss 73 (.mv (.t 0)),
  ss 74 (.mv (.t 5)),
  sd (some 75) 0 0 dSeal (.idx (.t 73) (.t 74) 10),
  ss 76 (.fad (.t 75) 1),
  ss 77 (.fad (.t 76) 3),
  ss 78 (.fad (.t 77) 2),
  sd (some 79) 0 0 dSeal (.load (.t 78) 1 false),
  ss 80 (.mv (.t 1)),
  ss 81 (.bin .neq (.t 79) (.t 80))] [0, 1, 5, 81])
  (.cond (.t 81) (.seq (rg [
  ss 4 (.mv (.i .i64 (-1)))] [4])
  (.ret))
  (.skip)))
  (.seq (rg [
  ss 82 (.mv (.t 1)),
  sh 83 1 (.bin .add (.t 82) (.i .i64 1)),
  ss 1 (.mv (.t 83))] [0, 1, 5])
  (.seq (.seq (rg [
  ss 84 (.mv (.t 0)),
  ss 85 (.mv (.t 5)),
  sd (some 86) 0 0 dSeal (.idx (.t 84) (.t 85) 10),
  ss 87 (.fad (.t 86) 1),
  ss 88 (.fad (.t 87) 3),
  ss 89 (.fad (.t 88) 3),
  sd (some 90) 0 0 dSeal (.load (.t 89) 1 false),
  ss 91 (.mv (.t 1)),
  ss 92 (.bin .neq (.t 90) (.t 91))] [0, 1, 5, 92])
  (.cond (.t 92) (.seq (rg [
  ss 4 (.mv (.i .i64 (-1)))] [4])
  (.ret))
  (.skip)))
  (.seq (rg [
  ss 93 (.mv (.t 1)),
  sh 94 1 (.bin .add (.t 93) (.i .i64 1)),
  ss 1 (.mv (.t 94))] [0, 1, 5])
  (.seq (.seq (rg [
  ss 95 (.mv (.t 0)),
  ss 96 (.mv (.t 5)),
  sd (some 97) 0 0 dSeal (.idx (.t 95) (.t 96) 10),
  ss 98 (.fad (.t 97) 1),
  ss 99 (.fad (.t 98) 3),
  ss 100 (.fad (.t 99) 4),
  sd (some 101) 0 0 dSeal (.load (.t 100) 1 false),
  ss 102 (.mv (.t 1)),
  ss 103 (.bin .neq (.t 101) (.t 102))] [0, 1, 5, 103])
  (.cond (.t 103) (.seq (rg [
  ss 4 (.mv (.i .i64 (-1)))] [4])
  (.ret))
  (.skip)))
  (.seq (rg [
  ss 104 (.mv (.t 1)),
  sh 105 1 (.bin .add (.t 104) (.i .i64 1)),
  ss 1 (.mv (.t 105))] [0, 1, 5])
  (.seq (.seq (rg [
  ss 106 (.mv (.t 0)),
  ss 107 (.mv (.t 5)),
  sd (some 108) 0 0 dSeal (.idx (.t 106) (.t 107) 10),
  ss 109 (.fad (.t 108) 1),
  ss 110 (.fad (.t 109) 3),
  ss 111 (.fad (.t 110) 5),
  sd (some 112) 0 0 dSeal (.load (.t 111) 1 false),
  ss 113 (.mv (.t 1)),
  ss 114 (.bin .neq (.t 112) (.t 113))] [0, 1, 5, 114])
  (.cond (.t 114) (.seq (rg [
  ss 4 (.mv (.i .i64 (-1)))] [4])
  (.ret))
  (.skip)))
  (rg [
  ss 115 (.mv (.t 1)),
  sh 116 1 (.bin .add (.t 115) (.i .i64 1)),
  ss 1 (.mv (.t 116))] [0, 1, 5])))))))))))))))))))))
  (rg [
  ss 10 (.mv (.t 5)),
  sh 11 1 (.bin .add (.t 10) (.i .i64 1)),
  ss 5 (.mv (.t 11))] [0, 1, 5]))))))
  (.seq (rg [
  ss 117 (.mv (.t 1)),
  ss 4 (.mv (.t 117))] [4])
  (.ret)))
theorem b_laws_heldSealS : ∃ c, f124.body = some c ∧ compC prog 118 c = some c_laws_heldSealS.er ∧ drawB c c_laws_heldSealS = true := ⟨_, rfl, by kernel_rfl, by kernel_rfl⟩
theorem r_laws_heldSealS : cmpR prog [.tmp 4] = some [.t 4] := by kernel_rfl
theorem q_laws_heldSealS : callB prog F.laws_heldSealS = true := by kernel_rfl
variable [Inv prog]
theorem s_laws_heldSealS (xs : List Seal) (k : Int) (hk : 0 ≤ k) (hl : xs.length ≤ 2097152) (hb : mkK sS xs k ≤ 9000000000000000000)  : SemX prog F.laws_heldSealS [aT (.sl false 10 ((mkL mS sS xs k).map eSeal)), aI k] [] [rI (mkK sS xs k)] [] := by
  obtain ⟨cc, g1, g2, g3⟩ := b_laws_heldSealS
  refine SemX.of_code func124 g1 (by rw [ntmps124]; exact g2) g3 (by rw [results124]; exact r_laws_heldSealS) (by rw [ntmps124]; exact Nat.le_of_ble_eq_true rfl) (Nat.le_of_ble_eq_true rfl) (by simp) (by simp [argOk, aT, aI, aS, eSeal, mkL_length]) ?_
  unfold c_laws_heldSealS
  simp only [rg]
  refine W_reg (by simp only [go_sem, eSeal, mkL_length]; exact rfl) ?_
  refine CW_assoc ?_
  refine W_reg (by simp only [go_sem, eSeal, mkL_length]; exact rfl) ?_
  refine CW_seq ?_
  refine CW_block ?_
  refine CW_loopS (α := Nat) (fun x => [(1, .int .i64 (mkK sS (xs.take x) k)), (5, .int .i64 x)]) (fun x => []) (fun x => xs.length - x) (fun x => x ≤ xs.length) 0 [] ?_ ?_ ?_
  · (simp only [go_sem, eSeal, mkL_length] <;> and_intros <;> first | with_reducible exact rfl | (first | omega | (simp [mkK]; done)))
  · first | exact Nat.zero_le _ | (simp; done) | omega
  · rintro x hI
    refine CW_eq (by simp only [go_sem, eSeal, mkL_length]; exact rfl) ?_
    refine CW_assoc ?_
    refine W_reg (by simp only [go_sem, eSeal, mkL_length]; exact rfl) ?_
    refine CW_seq ?_
    refine CW_cond (by simp only [go_sem, eSeal, mkL_length]; exact rfl) (fun c0 => ?_) (fun c0 => ?_)
    · skip
      try simp only [Bool.not_eq_eq_eq_not, Bool.not_true, Bool.not_false, decide_eq_true_eq, decide_eq_false_iff_not, Bool.and_eq_true, Bool.or_eq_true] at c0
      have hat := mkK_at sS_up zSeal (xs := xs) (i := x) (by omega) hb
      simp only [sS] at hat
      have hg := mkL_getD mS sS zSeal k (show x < xs.length by omega)
      refine CW_skip ?_
      refine sq_n ?_
      refine CW_seq ?_
      refine CW_block ?_
      refine CW_assoc ?_
      refine W_reg (by simp only [go_sem, eSeal, mkL_length, hg, mS, mE, mC] <;> and_intros <;> first | with_reducible exact rfl | omega | with_reducible trivial | (intros; simp_all; done) | grind) ?_
      refine CW_seq ?_
      refine CW_cond (by simp only [go_sem, eSeal, mkL_length, hg, mS, mE, mC]; exact rfl) (fun c1 => ?_) (fun c1 => ?_)
      · skip
        cases c1
      · skip
        skip
        refine CW_skip ?_
        refine sq_n ?_
        refine W_reg (by simp only [go_sem, eSeal, mkL_length, hg, mS, mE, mC] <;> and_intros <;> first | with_reducible exact rfl | omega | with_reducible trivial | (intros; simp_all; done) | grind) ?_
        refine CW_assoc ?_
        refine W_reg (by simp only [go_sem, eSeal, mkL_length, hg, mS, mE, mC] <;> and_intros <;> first | with_reducible exact rfl | omega | with_reducible trivial | (intros; simp_all; done) | grind) ?_
        refine CW_seq ?_
        refine CW_cond (by simp only [go_sem, eSeal, mkL_length, hg, mS, mE, mC]; exact rfl) (fun c2 => ?_) (fun c2 => ?_)
        · skip
          cases c2
        · skip
          skip
          refine CW_skip ?_
          refine sq_n ?_
          refine W_reg (by simp only [go_sem, eSeal, mkL_length, hg, mS, mE, mC] <;> and_intros <;> first | with_reducible exact rfl | omega | with_reducible trivial | (intros; simp_all; done) | grind) ?_
          refine CW_assoc ?_
          refine W_reg (by simp only [go_sem, eSeal, mkL_length, hg, mS, mE, mC] <;> and_intros <;> first | with_reducible exact rfl | omega | with_reducible trivial | (intros; simp_all; done) | grind) ?_
          refine CW_seq ?_
          refine CW_cond (by simp only [go_sem, eSeal, mkL_length, hg, mS, mE, mC]; exact rfl) (fun c3 => ?_) (fun c3 => ?_)
          · skip
            cases c3
          · skip
            skip
            refine CW_skip ?_
            refine sq_n ?_
            refine W_reg (by simp only [go_sem, eSeal, mkL_length, hg, mS, mE, mC] <;> and_intros <;> first | with_reducible exact rfl | omega | with_reducible trivial | (intros; simp_all; done) | grind) ?_
            refine CW_assoc ?_
            refine W_reg (by simp only [go_sem, eSeal, mkL_length, hg, mS, mE, mC] <;> and_intros <;> first | with_reducible exact rfl | omega | with_reducible trivial | (intros; simp_all; done) | grind) ?_
            refine CW_seq ?_
            refine CW_cond (by simp only [go_sem, eSeal, mkL_length, hg, mS, mE, mC]; exact rfl) (fun c4 => ?_) (fun c4 => ?_)
            · skip
              cases c4
            · skip
              skip
              refine CW_skip ?_
              refine sq_n ?_
              refine W_reg (by simp only [go_sem, eSeal, mkL_length, hg, mS, mE, mC] <;> and_intros <;> first | with_reducible exact rfl | omega | with_reducible trivial | (intros; simp_all; done) | grind) ?_
              refine CW_assoc ?_
              refine W_reg (by simp only [go_sem, eSeal, mkL_length, hg, mS, mE, mC] <;> and_intros <;> first | with_reducible exact rfl | omega | with_reducible trivial | (intros; simp_all; done) | grind) ?_
              refine CW_seq ?_
              refine CW_cond (by simp only [go_sem, eSeal, mkL_length, hg, mS, mE, mC]; exact rfl) (fun c5 => ?_) (fun c5 => ?_)
              · skip
                cases c5
              · skip
                skip
                refine CW_skip ?_
                refine sq_n ?_
                refine W_reg (by simp only [go_sem, eSeal, mkL_length, hg, mS, mE, mC] <;> and_intros <;> first | with_reducible exact rfl | omega | with_reducible trivial | (intros; simp_all; done) | grind) ?_
                refine CW_assoc ?_
                refine W_reg (by simp only [go_sem, eSeal, mkL_length, hg, mS, mE, mC] <;> and_intros <;> first | with_reducible exact rfl | omega | with_reducible trivial | (intros; simp_all; done) | grind) ?_
                refine CW_seq ?_
                refine CW_cond (by simp only [go_sem, eSeal, mkL_length, hg, mS, mE, mC]; exact rfl) (fun c6 => ?_) (fun c6 => ?_)
                · skip
                  cases c6
                · skip
                  skip
                  refine CW_skip ?_
                  refine sq_n ?_
                  refine W_reg (by simp only [go_sem, eSeal, mkL_length, hg, mS, mE, mC] <;> and_intros <;> first | with_reducible exact rfl | omega | with_reducible trivial | (intros; simp_all; done) | grind) ?_
                  refine CW_assoc ?_
                  refine W_reg (by simp only [go_sem, eSeal, mkL_length, hg, mS, mE, mC] <;> and_intros <;> first | with_reducible exact rfl | omega | with_reducible trivial | (intros; simp_all; done) | grind) ?_
                  refine CW_seq ?_
                  refine CW_cond (by simp only [go_sem, eSeal, mkL_length, hg, mS, mE, mC]; exact rfl) (fun c7 => ?_) (fun c7 => ?_)
                  · skip
                    cases c7
                  · skip
                    skip
                    refine CW_skip ?_
                    refine sq_n ?_
                    refine W_reg (by simp only [go_sem, eSeal, mkL_length, hg, mS, mE, mC] <;> and_intros <;> first | with_reducible exact rfl | omega | with_reducible trivial | (intros; simp_all; done) | grind) ?_
                    refine CW_assoc ?_
                    refine W_reg (by simp only [go_sem, eSeal, mkL_length, hg, mS, mE, mC] <;> and_intros <;> first | with_reducible exact rfl | omega | with_reducible trivial | (intros; simp_all; done) | grind) ?_
                    refine CW_seq ?_
                    refine CW_cond (by simp only [go_sem, eSeal, mkL_length, hg, mS, mE, mC]; exact rfl) (fun c8 => ?_) (fun c8 => ?_)
                    · skip
                      cases c8
                    · skip
                      skip
                      refine CW_skip ?_
                      refine sq_n ?_
                      refine W_reg (by simp only [go_sem, eSeal, mkL_length, hg, mS, mE, mC] <;> and_intros <;> first | with_reducible exact rfl | omega | with_reducible trivial | (intros; simp_all; done) | grind) ?_
                      refine CW_assoc ?_
                      refine W_reg (by simp only [go_sem, eSeal, mkL_length, hg, mS, mE, mC] <;> and_intros <;> first | with_reducible exact rfl | omega | with_reducible trivial | (intros; simp_all; done) | grind) ?_
                      refine CW_seq ?_
                      refine CW_cond (by simp only [go_sem, eSeal, mkL_length, hg, mS, mE, mC]; exact rfl) (fun c9 => ?_) (fun c9 => ?_)
                      · skip
                        cases c9
                      · skip
                        skip
                        refine CW_skip ?_
                        refine sq_n ?_
                        refine W_reg (by simp only [go_sem, eSeal, mkL_length, hg, mS, mE, mC] <;> and_intros <;> first | with_reducible exact rfl | omega | with_reducible trivial | (intros; simp_all; done) | grind) ?_
                        refine CW_assoc ?_
                        refine W_reg (by simp only [go_sem, eSeal, mkL_length, hg, mS, mE, mC] <;> and_intros <;> first | with_reducible exact rfl | omega | with_reducible trivial | (intros; simp_all; done) | grind) ?_
                        refine CW_seq ?_
                        refine CW_cond (by simp only [go_sem, eSeal, mkL_length, hg, mS, mE, mC]; exact rfl) (fun c10 => ?_) (fun c10 => ?_)
                        · skip
                          cases c10
                        · skip
                          skip
                          refine CW_skip ?_
                          refine sq_n ?_
                          refine W_regn (by simp only [go_sem, eSeal, mkL_length, hg, mS, mE, mC] <;> and_intros <;> first | with_reducible exact rfl | omega | with_reducible trivial | (intros; simp_all; done) | grind) ?_
                          refine bk_n ?_
                          refine sq_n ?_
                          refine W_regn (by simp only [go_sem, eSeal, mkL_length, hg, mS, mE, mC] <;> and_intros <;> first | with_reducible exact rfl | omega | with_reducible trivial | (intros; simp_all; done) | grind) ?_
                          refine lp_next (x+1) [] ?_ ?_ ?_
                          · (simp only [go_sem, eSeal, mkL_length, hg, mS, mE, mC] <;> and_intros <;> first | with_reducible exact rfl | (first | omega | (refine int_eq ?_; rw [mkK_succ sS zSeal (by omega)]; rfl)))
                          · omega
                          · omega
    · skip
      try simp only [Bool.not_eq_eq_eq_not, Bool.not_true, Bool.not_false, decide_eq_true_eq, decide_eq_false_iff_not, Bool.and_eq_true, Bool.or_eq_true] at c0
      obtain rfl : x = xs.length := by omega
      refine CW_exit ?_
      refine sq_e ?_
      refine lp_e ?_
      refine bk_i ?_
      refine sq_n ?_
      refine W_reg (by simp only [go_sem, eSeal, mkL_length]; exact rfl) ?_
      refine CW_ret ?_
      simp only [go_sem, eSeal, mkL_length]
      all_goals try first | refine int_res ?_ | refine bool_res ?_
      all_goals
        simp [mkL_length]
end Go.H
end
section
set_option maxRecDepth 100000
set_option linter.unusedVariables false
set_option linter.unusedSimpArgs false
namespace Go.H
open Go Go.Proofs.Tryz
def c_laws_heldCluster : SC :=
.seq (rg [
  sk 2 12288 (.box (.t 0)),
  ss 4 (.mv (.i .i64 0))] [1, 2])
  (.seq (rg [
  ss 5 (.fad (.t 2) 0),
  ss 6 (.load (.t 5) 1 false),
  ss 7 (.mv (.t 1)),
  sk 8 36864 (.call (.f F.laws_heldNodeS) [(.t 6, none), (.t 7, none)]),
  ss 1 (.mv (.t 8))] [1, 2])
  (.seq (.seq (rg [
  ss 9 (.mv (.t 1)),
  ss 10 (.bin .lss (.t 9) (.i .i64 0))] [1, 2, 10])
  (.cond (.t 10) (.seq (rg [
  ss 4 (.mv (.i .i64 (-1)))] [4])
  (.ret))
  (.skip)))
  (.seq (rg [
  ss 11 (.fad (.t 2) 1),
  ss 12 (.load (.t 11) 1 false),
  ss 13 (.mv (.t 1)),
  sk 14 61440 (.call (.f F.laws_heldMailS) [(.t 12, none), (.t 13, none)]),
  ss 1 (.mv (.t 14))] [1, 2])
  (.seq (.seq (rg [
  ss 15 (.mv (.t 1)),
  ss 16 (.bin .lss (.t 15) (.i .i64 0))] [1, 2, 16])
  (.cond (.t 16) (.seq (rg [
  ss 4 (.mv (.i .i64 (-1)))] [4])
  (.ret))
  (.skip)))
  (.seq (rg [
  ss 17 (.fad (.t 2) 2),
  ss 18 (.load (.t 17) 1 false),
  ss 19 (.mv (.t 1)),
  sk 20 86016 (.call (.f F.laws_heldWonS) [(.t 18, none), (.t 19, none)]),
  ss 1 (.mv (.t 20))] [1, 2])
  (.seq (.seq (rg [
  ss 21 (.mv (.t 1)),
  ss 22 (.bin .lss (.t 21) (.i .i64 0))] [1, 2, 22])
  (.cond (.t 22) (.seq (rg [
  ss 4 (.mv (.i .i64 (-1)))] [4])
  (.ret))
  (.skip)))
  (.seq (rg [
  ss 23 (.fad (.t 2) 3),
  ss 24 (.load (.t 23) 1 false),
  ss 25 (.mv (.t 1)),
  sk 26 110592 (.call (.f F.laws_heldSealS) [(.t 24, none), (.t 25, none)]),
  ss 1 (.mv (.t 26))] [1])
  (.seq (.seq (rg [
  ss 27 (.mv (.t 1)),
  ss 28 (.bin .lss (.t 27) (.i .i64 0))] [1, 28])
  (.cond (.t 28) (.seq (rg [
  ss 4 (.mv (.i .i64 (-1)))] [4])
  (.ret))
  (.skip)))
  (.seq (rg [
  ss 29 (.mv (.t 1)),
  ss 4 (.mv (.t 29))] [4])
  (.ret))))))))))
theorem b_laws_heldCluster : ∃ c, f69.body = some c ∧ compC prog 30 c = some c_laws_heldCluster.er ∧ drawB c c_laws_heldCluster = true := ⟨_, rfl, by kernel_rfl, by kernel_rfl⟩
theorem r_laws_heldCluster : cmpR prog [.tmp 4] = some [.t 4] := by kernel_rfl
theorem q_laws_heldCluster : callB prog F.laws_heldCluster = true := by kernel_rfl
variable [Inv prog]
theorem s_laws_heldCluster (x : Cluster) (hx : limC 2097152 x) (k : Int) (hk : 0 ≤ k) (hb : sCl x k ≤ 9000000000000000000) : SemX prog F.laws_heldCluster [aS (eCluster false (mCl x k)), aI k] [] [rI (sCl x k)] [] := by
  obtain ⟨cc, g1, g2, g3⟩ := b_laws_heldCluster
  refine SemX.of_code func69 g1 (by rw [ntmps69]; exact g2) g3 (by rw [results69]; exact r_laws_heldCluster) (by rw [ntmps69]; exact Nat.le_of_ble_eq_true rfl) (Nat.le_of_ble_eq_true rfl) (by simp) (by simp [argOk, aT, aI, aS, eCluster, mCl]) ?_
  unfold c_laws_heldCluster
  simp only [rg]
  simp only [sCl] at hb
  have u3 := Int.le_trans (mkK_mono sS_up _ _) hb
  have u2 := Int.le_trans (mkK_mono sW_up _ _) u3
  have u1 := Int.le_trans (mkK_mono sM_up _ _) u2
  have v1 := mkK_mono sN_up x.nodes k
  have v2 := mkK_mono sM_up x.mails (mkK sN x.nodes k)
  have v3 := mkK_mono sW_up x.wins (mkK sM x.mails (mkK sN x.nodes k))
  have v4 := mkK_mono sS_up x.seals (mkK sW x.wins (mkK sM x.mails (mkK sN x.nodes k)))
  refine W_reg (by simp only [go_sem, eCluster, mCl]; exact rfl) ?_
  refine W_reg (by
    refine RW_cut 3 (by simp only [go_sem, eCluster, mCl]; exact rfl) ?_
    refine RW_ls (by simp only [List.drop_succ_cons, List.drop_zero]; exact rfl) ?_
    refine RW_callN q_laws_heldNodeS (s_laws_heldNodeS x.nodes k hk hx.1.1 u1 hx.1.2) true [] [] [] rfl rfl (by simp only [go_sem, eCluster, mCl]; exact rfl) (by rfl) (by simp only [go_sem, eCluster, mCl]; exact rfl) ?_
    simp only [go_sem, eCluster, mCl]; exact rfl) ?_
  refine CW_assoc ?_
  refine W_reg (by simp only [go_sem, eCluster, mCl]; exact rfl) ?_
  refine CW_seq ?_
  refine CW_cond (by simp only [go_sem, eCluster, mCl]; exact rfl) (fun c0 => ?_) (fun c0 => ?_)
  · skip
    simp only [decide_eq_true_eq] at c0
    omega
  · skip
    skip
    refine CW_skip ?_
    refine sq_n ?_
    refine W_reg (by
      refine RW_cut 3 (by simp only [go_sem, eCluster, mCl]; exact rfl) ?_
      refine RW_ls (by simp only [List.drop_succ_cons, List.drop_zero]; exact rfl) ?_
      refine RW_callN q_laws_heldMailS (s_laws_heldMailS x.mails _ (by omega) hx.2.1.1 u2 hx.2.1.2) true [] [] [] rfl rfl (by simp only [go_sem, eCluster, mCl]; exact rfl) (by rfl) (by simp only [go_sem, eCluster, mCl]; exact rfl) ?_
      simp only [go_sem, eCluster, mCl]; exact rfl) ?_
    refine CW_assoc ?_
    refine W_reg (by simp only [go_sem, eCluster, mCl]; exact rfl) ?_
    refine CW_seq ?_
    refine CW_cond (by simp only [go_sem, eCluster, mCl]; exact rfl) (fun c1 => ?_) (fun c1 => ?_)
    · skip
      simp only [decide_eq_true_eq] at c1
      omega
    · skip
      skip
      refine CW_skip ?_
      refine sq_n ?_
      refine W_reg (by
        refine RW_cut 3 (by simp only [go_sem, eCluster, mCl]; exact rfl) ?_
        refine RW_ls (by simp only [List.drop_succ_cons, List.drop_zero]; exact rfl) ?_
        refine RW_callN q_laws_heldWonS (s_laws_heldWonS x.wins _ (by omega) hx.2.2.1 u3) true [] [] [] rfl rfl (by simp only [go_sem, eCluster, mCl]; exact rfl) (by rfl) (by simp only [go_sem, eCluster, mCl]; exact rfl) ?_
        simp only [go_sem, eCluster, mCl]; exact rfl) ?_
      refine CW_assoc ?_
      refine W_reg (by simp only [go_sem, eCluster, mCl]; exact rfl) ?_
      refine CW_seq ?_
      refine CW_cond (by simp only [go_sem, eCluster, mCl]; exact rfl) (fun c2 => ?_) (fun c2 => ?_)
      · skip
        simp only [decide_eq_true_eq] at c2
        omega
      · skip
        skip
        refine CW_skip ?_
        refine sq_n ?_
        refine W_reg (by
          refine RW_cut 3 (by simp only [go_sem, eCluster, mCl]; exact rfl) ?_
          refine RW_ls (by simp only [List.drop_succ_cons, List.drop_zero]; exact rfl) ?_
          refine RW_callN q_laws_heldSealS (s_laws_heldSealS x.seals _ (by omega) hx.2.2.2 hb) true [] [] [] rfl rfl (by simp only [go_sem, eCluster, mCl]; exact rfl) (by rfl) (by simp only [go_sem, eCluster, mCl]; exact rfl) ?_
          simp only [go_sem, eCluster, mCl]; exact rfl) ?_
        refine CW_assoc ?_
        refine W_reg (by simp only [go_sem, eCluster, mCl]; exact rfl) ?_
        refine CW_seq ?_
        refine CW_cond (by simp only [go_sem, eCluster, mCl]; exact rfl) (fun c3 => ?_) (fun c3 => ?_)
        · skip
          simp only [decide_eq_true_eq] at c3
          omega
        · skip
          skip
          refine CW_skip ?_
          refine sq_n ?_
          refine W_reg (by simp only [go_sem, eCluster, mCl]; exact rfl) ?_
          refine CW_ret ?_
          simp only [go_sem, eCluster, mCl, sCl]
end Go.H
end
section
set_option maxRecDepth 100000
set_option linter.unusedVariables false
set_option linter.unusedSimpArgs false
namespace Go.H
open Go Go.Proofs.Tryz
def c_laws_heldClusterResult : SC :=
.seq (rg [
  sk 2 12288 (.box (.t 0)),
  ss 4 (.mv (.i .i64 0))] [1, 2])
  (.seq (rg [
  ss 5 (.fad (.t 2) 1),
  ss 6 (.load (.t 5) 4 true),
  ss 7 (.mv (.t 1)),
  sk 8 36864 (.call (.f F.laws_heldCluster) [(.t 6, none), (.t 7, none)]),
  ss 1 (.mv (.t 8))] [1])
  (.seq (.seq (rg [
  ss 9 (.mv (.t 1)),
  ss 10 (.bin .lss (.t 9) (.i .i64 0))] [1, 10])
  (.cond (.t 10) (.seq (rg [
  ss 4 (.mv (.i .i64 (-1)))] [4])
  (.ret))
  (.skip)))
  (.seq (rg [
  ss 11 (.mv (.t 1)),
  ss 4 (.mv (.t 11))] [4])
  (.ret))))
theorem b_laws_heldClusterResult : ∃ c, f19.body = some c ∧ compC prog 12 c = some c_laws_heldClusterResult.er ∧ drawB c c_laws_heldClusterResult = true := ⟨_, rfl, by kernel_rfl, by kernel_rfl⟩
theorem r_laws_heldClusterResult : cmpR prog [.tmp 4] = some [.t 4] := by kernel_rfl
theorem q_laws_heldClusterResult : callB prog F.laws_heldClusterResult = true := by kernel_rfl
variable [Inv prog]
theorem s_laws_heldClusterResult (x : Cluster) (c : Int) (hx : limC 2097152 x) (k : Int) (hk : 0 ≤ k) (hb : sCl x k ≤ 9000000000000000000) : SemX prog F.laws_heldClusterResult [aS (eClusterResult false ⟨c, mCl x k⟩), aI k] [] [rI (sCl x k)] [] := by
  obtain ⟨cc, g1, g2, g3⟩ := b_laws_heldClusterResult
  refine SemX.of_code func19 g1 (by rw [ntmps19]; exact g2) g3 (by rw [results19]; exact r_laws_heldClusterResult) (by rw [ntmps19]; exact Nat.le_of_ble_eq_true rfl) (Nat.le_of_ble_eq_true rfl) (by simp) (by simp [argOk, aT, aI, aS, eClusterResult, eCluster, mCl]) ?_
  unfold c_laws_heldClusterResult
  simp only [rg]
  refine W_reg (by simp only [go_sem, eClusterResult, eCluster, mCl]; exact rfl) ?_
  refine W_reg (by
    refine RW_cut 3 (by simp only [go_sem, eClusterResult, eCluster, mCl]; exact rfl) ?_
    refine RW_ls (by simp only [List.drop_succ_cons, List.drop_zero]; exact rfl) ?_
    refine RW_callN q_laws_heldCluster (s_laws_heldCluster x hx k hk hb) true [] [] [] rfl rfl (by simp only [go_sem, eClusterResult, eCluster, mCl]; exact rfl) (by rfl) (by simp only [go_sem, eClusterResult, eCluster, mCl]; exact rfl) ?_
    simp only [go_sem, eClusterResult, eCluster, mCl]; exact rfl) ?_
  refine CW_assoc ?_
  refine W_reg (by simp only [go_sem, eClusterResult, eCluster, mCl]; exact rfl) ?_
  refine CW_seq ?_
  refine CW_cond (by simp only [go_sem, eClusterResult, eCluster, mCl]; exact rfl) (fun c0 => ?_) (fun c0 => ?_)
  · skip
    simp only [decide_eq_true_eq] at c0
    have := sCl_up x k
    omega
  · skip
    skip
    refine CW_skip ?_
    refine sq_n ?_
    refine W_reg (by simp only [go_sem, eClusterResult, eCluster, mCl]; exact rfl) ?_
    refine CW_ret ?_
    simp only [go_sem, eClusterResult, eCluster, mCl]
end Go.H
end
section
set_option maxRecDepth 100000
set_option linter.unusedVariables false
set_option linter.unusedSimpArgs false
namespace Go.H
open Go Go.Proofs.Tryz
def c_laws_FnExactCopyMail : SC :=
.seq (rg [
  sk 2 12288 (.box (.t 0)),
  ss 4 (.mv (.b false))] [1, 2])
  (.seq (rg [
  ss 5 (.mv (.i .i64 1048576))] [1, 2, 5])
  (.seq (rg [
  ss 13 (.load (.t 2) 4 true),
  ss 14 (.mv (.t 5)),
  sk 15 65536 (.call (.f F.laws_szCluster) [(.t 13, none), (.t 14, none)]),
  ss 5 (.mv (.t 15))] [1, 2, 5])
  (.seq (.seq (rg [
  ss 16 (.mv (.t 5)),
  ss 17 (.bin .lss (.t 16) (.i .i64 0))] [1, 2, 17])
  (.cond (.t 17) (.seq (rg [
  ss 4 (.mv (.b true))] [4])
  (.ret))
  (.skip)))
  (.seq (rg [
  ss 18 (.load (.t 2) 4 true),
  sk 19 81920 (.call (.f F.laws_toCluster) [(.t 18, none)]),
  ss 20 (.mv (.t 1)),
  sk 21 90112 (.call (.f F.spec_CopyMail) [(.t 19, none), (.t 20, none)]),
  sk 6 28672 (.alloc [.int .i64 0, .nil, .nil, .nil, .nil]),
  sx (.store (.t 6) (.t 21) 5)] [1, 2, 6])
  (.seq (rg [
  ss 22 (.load (.t 2) 4 true),
  sk 23 98304 (.call (.f F.laws_toCluster) [(.t 22, none)]),
  sk 7 32768 (.alloc [.nil, .nil, .nil, .nil]),
  sx (.store (.t 7) (.t 23) 4)] [1, 2, 6, 7])
  (.seq (rg [
  ss 24 (.load (.t 7) 4 true),
  ss 25 (.mv (.t 1)),
  sk 26 110592 (.call (.f F.impl_CopyMail) [(.t 24, none), (.t 25, none)]),
  sk 8 36864 (.alloc [.int .i64 0, .nil, .nil, .nil, .nil]),
  sx (.store (.t 8) (.t 26) 5)] [1, 2, 6, 7, 8])
  (.seq (.seq (rg [
  ss 27 (.load (.t 8) 5 true),
  ss 28 (.load (.t 6) 5 true),
  sk 29 122880 (.call (.f F.laws_eqClusterResult) [(.t 27, none), (.t 28, none)]),
  ss 30 (.not (.t 29))] [1, 2, 6, 7, 8, 30])
  (.cond (.t 30) (.seq (rg [
  ss 4 (.mv (.b false))] [4])
  (.ret))
  (.skip)))
  (.seq (.seq (.reg true [
    ⟨(some 31), .load (.t 7) 4 true, none, [7], 0, 0, [], [], [32768], []⟩,
    ⟨(some 32), .load (.t 2) 4 true, none, [2], 0, 0, [], [], [12288], []⟩,
    ⟨(some 33), .call (.f F.laws_toCluster) [(.t 32, none)], none, [32], 0, 139264, [], [], [], [139264, 139265, 139266, 139267]⟩,
    ⟨(some 34), .call (.f F.laws_eqCluster) [(.t 31, none), (.t 33, none)], none, [31, 33], 0, 143360, [], [], [98304, 98305, 98306, 98307, 139264, 139265, 139266, 139267], []⟩,
    ⟨(some 35), .not (.t 34), none, [34], 0, 0, [], [], [], []⟩] (some ([1, 2, 6, 7, 8, 35], [])))
  (.cond (.t 35) (.seq (rg [
  ss 4 (.mv (.b false))] [4])
  (.ret))
  (.skip)))
  (.seq (rg [
  ss 9 (.mv (.i .i64 1))] [1, 2, 6, 7, 8, 9])
  (.seq (rg [
  ss 36 (.load (.t 7) 4 true),
  ss 37 (.mv (.t 9)),
  sk 38 159744 (.call (.f F.laws_markCluster) [(.t 36, none), (.t 37, none)]),
  ss 9 (.mv (.t 38))] [1, 2, 6, 8, 9])
  (.seq (.seq (rg [
  ss 39 (.mv (.t 9)),
  ss 40 (.bin .lss (.t 39) (.i .i64 0)),
  ss 41 (.mv (.t 40)),
  sg 42 (.load (.t 8) 5 true) 41 false [],
  sg 43 (.load (.t 6) 5 true) 41 false [],
  ⟨(some 44), .call (.f F.laws_eqClusterResult) [(.t 42, none), (.t 43, none)], (some (41, false)), [], 0, 184320, [], [42, 43], [], []⟩,
  sg 45 (.not (.t 44)) 41 false [44],
  ss 46 (.pick (.t 41) (.b true) (.t 45))] [1, 2, 6, 8, 46])
  (.cond (.t 46) (.seq (rg [
  ss 4 (.mv (.b false))] [4])
  (.ret))
  (.skip)))
  (.seq (rg [
  ss 10 (.mv (.i .i64 1))] [1, 2, 6, 8, 10])
  (.seq (rg [
  ss 47 (.load (.t 8) 5 true),
  ss 48 (.mv (.t 10)),
  sk 49 204800 (.call (.f F.laws_markClusterResult) [(.t 47, none), (.t 48, none)]),
  ss 10 (.mv (.t 49))] [1, 2, 6, 8, 10])
  (.seq (rg [
  ss 11 (.mv (.i .i64 1))] [1, 2, 6, 8, 10, 11])
  (.seq (rg [
  ss 50 (.load (.t 8) 5 true),
  ss 51 (.mv (.t 11)),
  sk 52 217088 (.call (.f F.laws_heldClusterResult) [(.t 50, none), (.t 51, none)]),
  ss 11 (.mv (.t 52))] [1, 2, 6, 8, 10, 11])
  (.seq (.seq (rg [
  ss 53 (.mv (.t 11)),
  ss 54 (.bin .lss (.t 53) (.i .i64 0))] [1, 2, 6, 8, 10, 11, 54])
  (.cond (.t 54) (.seq (rg [
  ss 4 (.mv (.b false))] [4])
  (.ret))
  (.skip)))
  (.seq (.seq (rg [
  ss 55 (.mv (.t 11)),
  ss 56 (.mv (.t 10)),
  ss 57 (.bin .neq (.t 55) (.t 56))] [1, 2, 6, 8, 10, 57])
  (.cond (.t 57) (.seq (rg [
  ss 4 (.mv (.b false))] [4])
  (.ret))
  (.skip)))
  (.seq (rg [
  ss 58 (.load (.t 2) 4 true),
  sk 59 245760 (.call (.f F.laws_toCluster) [(.t 58, none)]),
  ss 60 (.mv (.t 1)),
  sk 61 253952 (.call (.f F.impl_CopyMail) [(.t 59, none), (.t 60, none)]),
  sk 12 53248 (.alloc [.int .i64 0, .nil, .nil, .nil, .nil]),
  sx (.store (.t 12) (.t 61) 5)] [6, 8, 10, 12])
  (.seq (.seq (rg [
  ss 62 (.load (.t 12) 5 true),
  ss 63 (.load (.t 6) 5 true),
  sk 64 266240 (.call (.f F.laws_eqClusterResult) [(.t 62, none), (.t 63, none)]),
  ss 65 (.not (.t 64))] [8, 10, 65])
  (.cond (.t 65) (.seq (rg [
  ss 4 (.mv (.b false))] [4])
  (.ret))
  (.skip)))
  (.seq (rg [
  ss 11 (.mv (.i .i64 1))] [8, 10, 11])
  (.seq (rg [
  ss 66 (.load (.t 8) 5 true),
  ss 67 (.mv (.t 11)),
  sk 68 282624 (.call (.f F.laws_heldClusterResult) [(.t 66, none), (.t 67, none)]),
  ss 11 (.mv (.t 68))] [10, 11])
  (.seq (.seq (rg [
  ss 69 (.mv (.t 11)),
  ss 70 (.bin .lss (.t 69) (.i .i64 0))] [10, 11, 70])
  (.cond (.t 70) (.seq (rg [
  ss 4 (.mv (.b false))] [4])
  (.ret))
  (.skip)))
  (.seq (.seq (rg [
  ss 71 (.mv (.t 11)),
  ss 72 (.mv (.t 10)),
  ss 73 (.bin .neq (.t 71) (.t 72))] [73])
  (.cond (.t 73) (.seq (rg [
  ss 4 (.mv (.b false))] [4])
  (.ret))
  (.skip)))
  (.seq (rg [
  ss 4 (.mv (.b true))] [4])
  (.ret)))))))))))))))))))))))))
theorem b_laws_FnExactCopyMail : ∃ c, f3.body = some c ∧ compC prog 74 c = some c_laws_FnExactCopyMail.er ∧ drawB c c_laws_FnExactCopyMail = true := ⟨_, rfl, by kernel_rfl, by kernel_rfl⟩
theorem r_laws_FnExactCopyMail : cmpR prog [.tmp 4] = some [.t 4] := by kernel_rfl
theorem q_laws_FnExactCopyMail : callB prog F.laws_FnExactCopyMail = true := by kernel_rfl
variable [Inv prog]
theorem s_laws_FnExactCopyMail (x : Cluster) (hn : x.nodes.length ≤ 9223372036854775807) (hN : ∀ i < x.nodes.length, (x.nodes.getD i zNode).log.length ≤ 9223372036854775807 ∧ (x.nodes.getD i zNode).votes.length ≤ 9223372036854775807 ∧ (x.nodes.getD i zNode).next.length ≤ 9223372036854775807 ∧ (x.nodes.getD i zNode).match_.length ≤ 9223372036854775807) (hm : x.mails.length ≤ 9223372036854775807) (hM : ∀ i < x.mails.length, (x.mails.getD i zMail).entries.length ≤ 9223372036854775807) (hw : x.wins.length ≤ 9223372036854775807) (hs : x.seals.length ≤ 9223372036854775807) (p : Int) : SemX prog F.laws_FnExactCopyMail [aS (eCluster false x), aI p] [] [rB true] [] := by
  obtain ⟨cc, g1, g2, g3⟩ := b_laws_FnExactCopyMail
  refine SemX.of_code func3 g1 (by rw [ntmps3]; exact g2) g3 (by rw [results3]; exact r_laws_FnExactCopyMail) (by rw [ntmps3]; exact Nat.le_of_ble_eq_true rfl) (Nat.le_of_ble_eq_true rfl) (by simp) (by simp [argOk, aT, aI, aS, eClusterResult, eCluster]) ?_
  unfold c_laws_FnExactCopyMail
  simp only [rg]
  refine W_reg (by simp only [go_sem, eClusterResult, eCluster]; exact rfl) ?_
  refine W_reg (by simp only [go_sem, eClusterResult, eCluster]; exact rfl) ?_
  refine W_reg (by
    refine RW_cut 2 (by simp only [go_sem, eClusterResult, eCluster]; exact rfl) ?_
    refine RW_ls (by simp only [List.drop_succ_cons, List.drop_zero]; exact rfl) ?_
    refine RW_callN q_laws_szCluster (s_laws_szCluster x 1048576 (by omega) (by omega) hn hN hm hM hw hs) true [] [] [] rfl rfl (by simp only [go_sem, eClusterResult, eCluster]; exact rfl) (by rfl) (by simp only [go_sem, eClusterResult, eCluster]; exact rfl) ?_
    simp only [go_sem, eClusterResult, eCluster]; exact rfl) ?_
  refine CW_assoc ?_
  refine W_reg (by simp only [go_sem, eClusterResult, eCluster]; exact rfl) ?_
  refine CW_seq ?_
  refine CW_cond (by simp only [go_sem, eClusterResult, eCluster]; exact rfl) (fun c0 => ?_) (fun c0 => ?_)
  · skip
    skip
    refine W_reg (by simp only [go_sem, eClusterResult, eCluster]; exact rfl) ?_
    refine CW_ret ?_
    refine sq_r ?_
    simp only [go_sem, eClusterResult, eCluster]
  · skip
    have hz : 0 ≤ szCluster x 1048576 := by simp at c0; omega
    have hx0 := szCluster_lim hz (by omega)
    have hx : limC 2097152 x := limC_mono (by omega) hx0
    have hr : limC 2097152 (copyMail x p).cluster := copyMail_lim hx0 p
    have hbx := sCl_bd hx
    have hbr := sCl_bd hr
    have hux := sCl_up x 1
    have hur := sCl_up (copyMail x p).cluster 1
    refine CW_skip ?_
    refine sq_n ?_
    refine W_reg (by
      refine RW_cut 1 (by simp only [go_sem, eClusterResult, eCluster]; exact rfl) ?_
      refine RW_ls (by simp only [List.drop_succ_cons, List.drop_zero]; exact rfl) ?_
      refine RW_callN q_laws_toCluster (s_laws_toCluster x hx) true [] [] [] rfl rfl (by simp only [go_sem, eClusterResult, eCluster]; exact rfl) (by rfl) (by simp only [go_sem, eClusterResult, eCluster]; exact rfl) ?_
      refine RW_cut 1 (by simp only [go_sem, eClusterResult, eCluster]; exact rfl) ?_
      refine RW_ls (by simp only [List.drop_succ_cons, List.drop_zero]; exact rfl) ?_
      refine RW_callN q_spec_CopyMail (s_spec_CopyMail x hx p) true [] [] [] rfl rfl (by simp only [go_sem, eClusterResult, eCluster]; exact rfl) (by rfl) (by simp only [go_sem, eClusterResult, eCluster]; exact rfl) ?_
      simp only [go_sem, eClusterResult, eCluster]; exact rfl) ?_
    refine W_reg (by
      refine RW_cut 1 (by simp only [go_sem, eClusterResult, eCluster]; exact rfl) ?_
      refine RW_ls (by simp only [List.drop_succ_cons, List.drop_zero]; exact rfl) ?_
      refine RW_callN q_laws_toCluster (s_laws_toCluster x hx) true [] [] [] rfl rfl (by simp only [go_sem, eClusterResult, eCluster]; exact rfl) (by rfl) (by simp only [go_sem, eClusterResult, eCluster]; exact rfl) ?_
      simp only [go_sem, eClusterResult, eCluster]; exact rfl) ?_
    refine W_reg (by
      refine RW_cut 2 (by simp only [go_sem, eClusterResult, eCluster]; exact rfl) ?_
      refine RW_ls (by simp only [List.drop_succ_cons, List.drop_zero]; exact rfl) ?_
      refine RW_callN q_impl_CopyMail (s_impl_CopyMail x hx p) true [] [] [] rfl rfl (by simp only [go_sem, eClusterResult, eCluster]; exact rfl) (by rfl) (by simp only [go_sem, eClusterResult, eCluster]; exact rfl) ?_
      simp only [go_sem, eClusterResult, eCluster]; exact rfl) ?_
    refine CW_assoc ?_
    refine W_reg (by
      refine RW_cut 2 (by simp only [go_sem, eClusterResult, eCluster]; exact rfl) ?_
      refine RW_ls (by simp only [List.drop_succ_cons, List.drop_zero]; exact rfl) ?_
      refine RW_callN q_laws_eqClusterResult (s_laws_eqClusterResult (copyMail x p) hr) true [] [] [] rfl rfl (by simp only [go_sem, eClusterResult, eCluster]; exact rfl) (by rfl) (by simp only [go_sem, eClusterResult, eCluster]; exact rfl) ?_
      simp only [go_sem, eClusterResult, eCluster]; exact rfl) ?_
    refine CW_seq ?_
    refine CW_cond (by simp only [go_sem, eClusterResult, eCluster]; exact rfl) (fun c1 => ?_) (fun c1 => ?_)
    · skip
      cases c1
    · skip
      skip
      refine CW_skip ?_
      refine sq_n ?_
      refine CW_assoc ?_
      refine W_drw (by
        refine DW_cut 2 (by simp only [go_sem, eClusterResult, eCluster]; exact rfl) ?_
        refine DW_ls (by simp only [List.drop_succ_cons, List.drop_zero]; exact rfl) ?_
        refine DW_callN q_laws_toCluster (s_laws_toCluster x hx) true [] [] [] rfl rfl (by simp only [go_sem, eClusterResult, eCluster]; exact rfl) (by rfl) (by simp only [go_sem, eClusterResult, eCluster]; exact rfl) ?_
        refine DW_callN q_laws_eqCluster (s_laws_eqCluster x hx) true [] [] [] rfl rfl (by simp only [go_sem, eClusterResult, eCluster]; exact rfl) (by rfl) (by simp only [go_sem, eClusterResult, eCluster]; exact rfl) ?_
        simp only [go_sem, eClusterResult, eCluster]; exact rfl) ?_
      refine CW_seq ?_
      refine CW_cond (by simp only [go_sem, eClusterResult, eCluster]; exact rfl) (fun c2 => ?_) (fun c2 => ?_)
      · skip
        cases c2
      · skip
        skip
        refine CW_skip ?_
        refine sq_n ?_
        refine W_reg (by simp only [go_sem, eClusterResult, eCluster]; exact rfl) ?_
        refine W_reg (by
          refine RW_cut 2 (by simp only [go_sem, eClusterResult, eCluster]; exact rfl) ?_
          refine RW_ls (by simp only [List.drop_succ_cons, List.drop_zero]; exact rfl) ?_
          refine RW_callN q_laws_markCluster (s_laws_markCluster x hx 1 (by omega) hbx) true [98304, 98305, 98306, 98307] [] [] rfl rfl (by simp only [go_sem, eClusterResult, eCluster]; exact rfl) (by rfl) (by simp only [go_sem, eClusterResult, eCluster]; exact rfl) ?_
          simp only [go_sem, eClusterResult, eCluster]; exact rfl) ?_
        refine CW_assoc ?_
        refine W_reg (by
          refine RW_cut 5 (by simp only [go_sem, eClusterResult, eCluster]; exact rfl) ?_
          refine RW_ls (by simp only [List.drop_succ_cons, List.drop_zero]; exact rfl) ?_
          refine RW_callGN q_laws_eqClusterResult (s_laws_eqClusterResult (copyMail x p) hr) true rfl rfl (by simp only [go_sem, eClusterResult, eCluster]; exact rfl) (fun _ => (by simp only [go_sem, eClusterResult, eCluster]; exact rfl)) (by simp only [go_sem, eClusterResult, eCluster]; exact rfl) ?_
          simp only [go_sem, eClusterResult, eCluster]; exact rfl) ?_
        refine CW_seq ?_
        refine CW_cond (by simp only [go_sem, eClusterResult, eCluster]; exact rfl) (fun c3 => ?_) (fun c3 => ?_)
        · skip
          exfalso
          revert c3
          simp
          omega
        · skip
          skip
          refine CW_skip ?_
          refine sq_n ?_
          refine W_reg (by simp only [go_sem, eClusterResult, eCluster]; exact rfl) ?_
          refine W_reg (by
            refine RW_cut 2 (by simp only [go_sem, eClusterResult, eCluster]; exact rfl) ?_
            refine RW_ls (by simp only [List.drop_succ_cons, List.drop_zero]; exact rfl) ?_
            refine RW_callN q_laws_markClusterResult (s_laws_markClusterResult (copyMail x p).cluster (copyMail x p).code hr 1 (by omega) hbr) true [110593, 110594, 110595, 110596] [] [] rfl rfl (by simp only [go_sem, eClusterResult, eCluster]; exact rfl) (by rfl) (by simp only [go_sem, eClusterResult, eCluster]; exact rfl) ?_
            simp only [go_sem, eClusterResult, eCluster]; exact rfl) ?_
          refine W_reg (by simp only [go_sem, eClusterResult, eCluster]; exact rfl) ?_
          refine W_reg (by
            refine RW_cut 2 (by simp only [go_sem, eClusterResult, eCluster]; exact rfl) ?_
            refine RW_ls (by simp only [List.drop_succ_cons, List.drop_zero]; exact rfl) ?_
            refine RW_callN q_laws_heldClusterResult (s_laws_heldClusterResult (copyMail x p).cluster (copyMail x p).code hr 1 (by omega) hbr) true [] [] [] rfl rfl (by simp only [go_sem, eClusterResult, eCluster]; exact rfl) (by rfl) (by simp only [go_sem, eClusterResult, eCluster]; exact rfl) ?_
            simp only [go_sem, eClusterResult, eCluster]; exact rfl) ?_
          refine CW_assoc ?_
          refine W_reg (by simp only [go_sem, eClusterResult, eCluster]; exact rfl) ?_
          refine CW_seq ?_
          refine CW_cond (by simp only [go_sem, eClusterResult, eCluster]; exact rfl) (fun c4 => ?_) (fun c4 => ?_)
          · skip
            exfalso
            revert c4
            simp
            omega
          · skip
            skip
            refine CW_skip ?_
            refine sq_n ?_
            refine CW_assoc ?_
            refine W_reg (by simp only [go_sem, eClusterResult, eCluster]; exact rfl) ?_
            refine CW_seq ?_
            refine CW_cond (by simp only [go_sem, eClusterResult, eCluster]; exact rfl) (fun c5 => ?_) (fun c5 => ?_)
            · skip
              cases c5
            · skip
              skip
              refine CW_skip ?_
              refine sq_n ?_
              refine W_reg (by
                refine RW_cut 1 (by simp only [go_sem, eClusterResult, eCluster]; exact rfl) ?_
                refine RW_ls (by simp only [List.drop_succ_cons, List.drop_zero]; exact rfl) ?_
                refine RW_callN q_laws_toCluster (s_laws_toCluster x hx) true [] [] [] rfl rfl (by simp only [go_sem, eClusterResult, eCluster]; exact rfl) (by rfl) (by simp only [go_sem, eClusterResult, eCluster]; exact rfl) ?_
                refine RW_cut 1 (by simp only [go_sem, eClusterResult, eCluster]; exact rfl) ?_
                refine RW_ls (by simp only [List.drop_succ_cons, List.drop_zero]; exact rfl) ?_
                refine RW_callN q_impl_CopyMail (s_impl_CopyMail x hx p) true [] [] [] rfl rfl (by simp only [go_sem, eClusterResult, eCluster]; exact rfl) (by rfl) (by simp only [go_sem, eClusterResult, eCluster]; exact rfl) ?_
                simp only [go_sem, eClusterResult, eCluster]; exact rfl) ?_
              refine CW_assoc ?_
              refine W_reg (by
                refine RW_cut 2 (by simp only [go_sem, eClusterResult, eCluster]; exact rfl) ?_
                refine RW_ls (by simp only [List.drop_succ_cons, List.drop_zero]; exact rfl) ?_
                refine RW_callN q_laws_eqClusterResult (s_laws_eqClusterResult (copyMail x p) hr) true [] [] [] rfl rfl (by simp only [go_sem, eClusterResult, eCluster]; exact rfl) (by rfl) (by simp only [go_sem, eClusterResult, eCluster]; exact rfl) ?_
                simp only [go_sem, eClusterResult, eCluster]; exact rfl) ?_
              refine CW_seq ?_
              refine CW_cond (by simp only [go_sem, eClusterResult, eCluster]; exact rfl) (fun c6 => ?_) (fun c6 => ?_)
              · skip
                cases c6
              · skip
                skip
                refine CW_skip ?_
                refine sq_n ?_
                refine W_reg (by simp only [go_sem, eClusterResult, eCluster]; exact rfl) ?_
                refine W_reg (by
                  refine RW_cut 2 (by simp only [go_sem, eClusterResult, eCluster]; exact rfl) ?_
                  refine RW_ls (by simp only [List.drop_succ_cons, List.drop_zero]; exact rfl) ?_
                  refine RW_callN q_laws_heldClusterResult (s_laws_heldClusterResult (copyMail x p).cluster (copyMail x p).code hr 1 (by omega) hbr) true [] [] [] rfl rfl (by simp only [go_sem, eClusterResult, eCluster]; exact rfl) (by rfl) (by simp only [go_sem, eClusterResult, eCluster]; exact rfl) ?_
                  simp only [go_sem, eClusterResult, eCluster]; exact rfl) ?_
                refine CW_assoc ?_
                refine W_reg (by simp only [go_sem, eClusterResult, eCluster]; exact rfl) ?_
                refine CW_seq ?_
                refine CW_cond (by simp only [go_sem, eClusterResult, eCluster]; exact rfl) (fun c7 => ?_) (fun c7 => ?_)
                · skip
                  exfalso
                  revert c7
                  simp
                  omega
                · skip
                  skip
                  refine CW_skip ?_
                  refine sq_n ?_
                  refine CW_assoc ?_
                  refine W_reg (by simp only [go_sem, eClusterResult, eCluster]; exact rfl) ?_
                  refine CW_seq ?_
                  refine CW_cond (by simp only [go_sem, eClusterResult, eCluster]; exact rfl) (fun c8 => ?_) (fun c8 => ?_)
                  · skip
                    cases c8
                  · skip
                    skip
                    refine CW_skip ?_
                    refine sq_n ?_
                    refine W_reg (by simp only [go_sem, eClusterResult, eCluster]; exact rfl) ?_
                    refine CW_ret ?_
                    simp only [go_sem, eClusterResult, eCluster]
end Go.H
end
