/- What CmdLine computes on both sides, and the law itself, by their code. Conditions: numbers of 64 bits. -/
import Derived.Test.YtablhckgkgaaeaaDoorZfA
set_option maxRecDepth 100000
set_option linter.unusedVariables false
set_option linter.unusedSimpArgs false
namespace Go.E
open Go Go.Proofs.Tryd
/-! loop.example/g00222/impl.decimal -/
def code42 : SC :=
  (SC.seq (SC.reg false [
    ⟨(some 2), (.assign (.const (.string (ByteArray.mk #[])))), 9, none⟩])
  (SC.seq (SC.reg false [
    ⟨(some 3), (.move (.tmp 0)), 2, none⟩,
    ⟨(some 4), (.call ⟨(.value (.func 47)), #[(.tmp 3), (.const (.int .i64 10))], #[2, 3]⟩), 9, none⟩,
    ⟨(some 2), (.assign (.tmp 4)), 9, none⟩])
  SC.ret))
theorem sc42 : f42.body.bind stripC = some code42 := by kernel_rfl
def r42_0 (a0 : Int) : ByteArray := (itoaB a0)
theorem sem42 (a0 : Int) (h0 : -9223372036854775808 ≤ a0) (h1 : a0 ≤ 9223372036854775807) : SemR prog 42 [.one (.int .i64 a0)] [.one (.str (r42_0 a0))] := by
  refine SemR.of_code' func42 sc42 (by rw [ntmps42]; exact Nat.le_of_ble_eq_true rfl) (fun hl => ?_)
  rw [ntmps42, results42]
  unfold code42 r42_0
  refine CW_seq_reg ?_
  refine run_XW [] 1 (ps := []) ?_ ap_nil ?_
  · kernel_rfl
  refine XW_end (ts := [0]) (dv := []) (ka := []) (st' := ⟨5, [(0, .int .i64 a0)], [], []⟩) ?_ ?_ ?_
  · kernel_rfl
  · kernel_rfl
  refine CW_seq_reg ?_
  refine runC_XW (fz := []) (n := 1) (st' := ⟨5, [(3, .int .i64 a0), (0, .int .i64 a0)], [], []⟩) (ps := []) ?_ ap_nil ?_
  · kernel_rfl
  refine callC_XW (i := ⟨none, 47, [.one (.int .i64 a0), .one (.int .i64 10)], true, (some 4), []⟩) (rs := [.one (.str (itoaB a0))]) ?_ ap_nil (sem47 a0 (by omega) (by omega)) rfl ?_
  · kernel_rfl
  refine run_XW [] 1 (ps := []) ?_ ap_nil ?_
  · kernel_rfl
  refine XW_end (ts := [2]) (dv := []) (ka := []) (st' := ⟨5, [(2, .str (itoaB a0))], [], []⟩) ?_ ?_ ?_
  · kernel_rfl
  · kernel_rfl
  refine CW_ret ?_
  refine endW_ret ?_; kernel_rfl
theorem r42_size (a0 : Int) (h0 : -9223372036854775808 ≤ a0) (h1 : a0 ≤ 9223372036854775807) : (r42_0 a0).size ≤ 20 := itoaB_size h0 h1
/-! loop.example/g00222/spec.l2Digits -/
def code20 : SC :=
  (SC.seq (SC.reg false [
    ⟨(some 2), (.assign (.const (.string (ByteArray.mk #[])))), 9, none⟩])
  (SC.seq (SC.seq (SC.reg false [
    ⟨(some 3), (.move (.tmp 0)), 2, none⟩,
    ⟨(some 4), (.binOp .lss 2 (.tmp 3) (.const (.int .i64 10)) 2), 4, none⟩])
  (SC.cond (.tmp 4) (SC.seq (SC.reg false [
    ⟨(some 5), (.move (.tmp 0)), 2, none⟩,
    ⟨(some 6), (.binOp .add 2 (.const (.int .i64 48)) (.tmp 5) 2), 2, none⟩,
    ⟨(some 7), (.convert 2 5 (.tmp 6)), 5, none⟩,
    ⟨(some 8), (.buildSlice 54 1 #[(0, (.tmp 7))]), 54, none⟩,
    ⟨(some 9), (.convert 54 9 (.tmp 8)), 9, none⟩,
    ⟨(some 2), (.assign (.tmp 9)), 9, none⟩])
  SC.ret) SC.skip))
  (SC.seq (SC.reg true [
    ⟨(some 10), (.move (.tmp 0)), 2, none⟩,
    ⟨(some 11), (.binOp .quo 2 (.tmp 10) (.const (.int .i64 10)) 2), 2, none⟩,
    ⟨(some 12), (.call ⟨(.value (.func 20)), #[(.tmp 11)], #[2]⟩), 9, none⟩,
    ⟨(some 13), (.move (.tmp 0)), 2, none⟩,
    ⟨(some 14), (.binOp .rem 2 (.tmp 13) (.const (.int .i64 10)) 2), 2, none⟩,
    ⟨(some 15), (.binOp .add 2 (.const (.int .i64 48)) (.tmp 14) 2), 2, none⟩,
    ⟨(some 16), (.convert 2 5 (.tmp 15)), 5, none⟩,
    ⟨(some 17), (.buildSlice 54 1 #[(0, (.tmp 16))]), 54, none⟩,
    ⟨(some 18), (.convert 54 9 (.tmp 17)), 9, none⟩,
    ⟨(some 19), (.binOp .add 9 (.tmp 12) (.tmp 18) 9), 9, none⟩,
    ⟨(some 2), (.assign (.tmp 19)), 9, none⟩])
  SC.ret)))
theorem sc20 : f20.body.bind stripC = some code20 := by kernel_rfl
def e20 (a0 : Int) (dig : Int → ByteArray) : ByteArray := cond (decide (a0 < 10)) (strOf [IntKind.wrap .u8 (IntKind.wrap .i64 (48 + a0))]) ((dig (IntKind.wrap .i64 (Int.tdiv a0 10))) ++ (strOf [IntKind.wrap .u8 (IntKind.wrap .i64 (48 + (Int.tmod a0 10)))]))
theorem step20 (a0 : Int)  (dig : Int → ByteArray) (ih : ¬ a0 < 10 → SemR prog 20 [.one (.int .i64 (IntKind.wrap .i64 (Int.tdiv a0 10)))] [.one (.str (dig (IntKind.wrap .i64 (Int.tdiv a0 10))))]) (hz : (dig (IntKind.wrap .i64 (Int.tdiv a0 10))).size ≤ 1000) : SemR prog 20 [.one (.int .i64 a0)] [.one (.str (e20 a0 dig))] := by
  refine SemR.of_code' func20 sc20 (by rw [ntmps20]; exact Nat.le_of_ble_eq_true rfl) (fun hl => ?_)
  rw [ntmps20, results20]
  unfold code20 e20
  refine CW_seq_reg ?_
  refine run_XW [] 1 (ps := []) ?_ ap_nil ?_
  · kernel_rfl
  refine XW_end (ts := [0]) (dv := []) (ka := []) (st' := ⟨20, [(0, .int .i64 a0)], [], []⟩) ?_ ?_ ?_
  · kernel_rfl
  · kernel_rfl
  refine CW_assoc ?_
  refine CW_seq_reg ?_
  refine run_XW [] 2 (ps := []) ?_ ap_nil ?_
  · kernel_rfl
  refine XW_end (ts := [0, 4]) (dv := []) (ka := []) (st' := ⟨20, [(0, .int .i64 a0), (4, .bool (decide (a0 < 10)))], [], []⟩) ?_ ?_ ?_
  · kernel_rfl
  · kernel_rfl
  refine CW_cond_seq (t := decide (a0 < 10)) ?_ (fun h => ?_) (fun h => ?_)
  · kernel_rfl
  · try rw [h]
    refine CW_assoc ?_
    refine CW_seq_reg ?_
    refine run_XW [] 6 (ps := []) ?_ ap_nil ?_
    · kernel_rfl
    refine XW_end (ts := [2]) (dv := []) (ka := []) (st' := ⟨20, [(2, .str (strOf [IntKind.wrap .u8 (IntKind.wrap .i64 (48 + a0))]))], [], []⟩) ?_ ?_ ?_
    · kernel_rfl
    · kernel_rfl
    refine CW_ret_seq ?_
    refine endW_ret ?_; kernel_rfl
  · try rw [h]
    refine CW_skip_seq ?_
    refine CW_seq_reg ?_
    refine runC_XW (fz := []) (n := 2) (st' := ⟨20, [(11, .int .i64 (IntKind.wrap .i64 (Int.tdiv a0 10))), (10, .int .i64 a0), (0, .int .i64 a0), (4, .bool false)], [], []⟩) (ps := [((10 : Int) ≠ 0)]) ?_ (ap_cons (by simp) ap_nil) ?_
    · kernel_rfl
    refine callC_XW (i := ⟨none, 20, [.one (.int .i64 (IntKind.wrap .i64 (Int.tdiv a0 10)))], true, (some 12), []⟩) (rs := [.one (.str (dig (IntKind.wrap .i64 (Int.tdiv a0 10))))]) ?_ ap_nil (ih (by simpa using h)) rfl ?_
    · kernel_rfl
    refine run_XW [] 8 (ps := [((10 : Int) ≠ 0), ((dig (IntKind.wrap .i64 (Int.tdiv a0 10))).size + (strOf [IntKind.wrap .u8 (IntKind.wrap .i64 (48 + (Int.tmod a0 10)))]).size ≤ 9223372036854775807)]) ?_ (ap_cons (by simp) (ap_cons (by first | omega | (simp only [strOf_size, List.length_cons, List.length_nil]; omega) | (simp only [wrap64]; omega) | (simp only [wrap64, List.length_map] at *; omega)) ap_nil)) ?_
    · kernel_rfl
    refine XW_end (ts := [2]) (dv := []) (ka := []) (st' := ⟨20, [(2, .str ((dig (IntKind.wrap .i64 (Int.tdiv a0 10))) ++ (strOf [IntKind.wrap .u8 (IntKind.wrap .i64 (48 + (Int.tmod a0 10)))])))], [], []⟩) ?_ ?_ ?_
    · kernel_rfl
    · kernel_rfl
    refine CW_ret ?_
    refine endW_ret ?_; kernel_rfl
def digF : Nat → Int → ByteArray
  | 0, _ => ByteArray.empty
  | k + 1, n => e20 n (digF k)
def dig (n : Int) : ByteArray := digF 19 n
theorem digF_size : ∀ (k : Nat) (n : Int), (digF k n).size ≤ k
  | 0, n => Nat.le_refl _
  | k + 1, n => by
    simp only [digF, e20]
    cases decide (n < 10)
    · simp only [cond_false, ByteArray.size_append, strOf_size, List.length_cons, List.length_nil]
      have := digF_size k (IntKind.wrap .i64 (Int.tdiv n 10))
      omega
    · simp only [cond_true, strOf_size, List.length_cons, List.length_nil]
      omega
theorem dig_size (n : Int) : (dig n).size ≤ 19 := digF_size 19 n
theorem sem20F : ∀ (k : Nat) (n : Int), n < 10 ^ (k + 1) → n ≤ 9223372036854775807 → k ≤ 100 → SemR prog 20 [.one (.int .i64 n)] [.one (.str (digF (k + 1) n))]
  | 0, n, h1, h2, _ => step20 n (digF 0) (fun h => absurd (by simpa using h1) h) (by have := digF_size 0 (IntKind.wrap .i64 (Int.tdiv n 10)); omega)
  | k + 1, n, h1, h2, h3 => by
    refine step20 n (digF (k + 1)) (fun h => ?_) (by have := digF_size (k + 1) (IntKind.wrap .i64 (Int.tdiv n 10)); omega)
    have hn : 10 ≤ n := by omega
    have e : Int.tdiv n 10 = n / 10 := Int.tdiv_eq_ediv_of_nonneg (by omega)
    rw [e, wrap64_id (by omega) (by omega)]
    refine sem20F k _ ?_ (by omega) (by omega)
    have : (10 : Int) ^ (k + 1 + 1) = 10 ^ (k + 1) * 10 := Int.pow_succ ..
    rw [this] at h1
    exact Int.ediv_lt_of_lt_mul (by omega) h1
theorem sem20 (n : Int) (h : n ≤ 9223372036854775807) : SemR prog 20 [.one (.int .i64 n)] [.one (.str (dig n))] :=
  sem20F 18 n (by have : (10 : Int) ^ (18 + 1) = 10000000000000000000 := by decide
                  omega) h (by omega)
theorem lit_size (a : Array UInt8) : (ByteArray.mk a).size = a.size := rfl

/-! loop.example/g00222/spec.l16Text -/
def code21 : SC :=
  (SC.seq (SC.reg false [
    ⟨(some 2), (.assign (.const (.string (ByteArray.mk #[])))), 9, none⟩])
  (SC.seq (SC.seq (SC.reg false [
    ⟨(some 3), (.move (.tmp 0)), 2, none⟩,
    ⟨(some 4), (.binOp .lss 2 (.tmp 3) (.const (.int .i64 0)) 2), 4, none⟩])
  (SC.cond (.tmp 4) (SC.seq (SC.reg false [
    ⟨(some 2), (.assign (.const (.string (ByteArray.mk #[45, 49])))), 9, none⟩])
  SC.ret) SC.skip))
  (SC.seq (SC.reg false [
    ⟨(some 5), (.move (.tmp 0)), 2, none⟩,
    ⟨(some 6), (.call ⟨(.value (.func 20)), #[(.tmp 5)], #[2]⟩), 9, none⟩,
    ⟨(some 2), (.assign (.tmp 6)), 9, none⟩])
  SC.ret)))
theorem sc21 : f21.body.bind stripC = some code21 := by kernel_rfl
def r21_0 (a0 : Int) : ByteArray := cond (decide (a0 < 0)) (ByteArray.mk #[45, 49]) (dig a0)
theorem sem21 (a0 : Int) (h1 : a0 ≤ 9223372036854775807) : SemR prog 21 [.one (.int .i64 a0)] [.one (.str (r21_0 a0))] := by
  refine SemR.of_code' func21 sc21 (by rw [ntmps21]; exact Nat.le_of_ble_eq_true rfl) (fun hl => ?_)
  rw [ntmps21, results21]
  unfold code21 r21_0
  refine CW_seq_reg ?_
  refine run_XW [] 1 (ps := []) ?_ ap_nil ?_
  · kernel_rfl
  refine XW_end (ts := [0]) (dv := []) (ka := []) (st' := ⟨7, [(0, .int .i64 a0)], [], []⟩) ?_ ?_ ?_
  · kernel_rfl
  · kernel_rfl
  refine CW_assoc ?_
  refine CW_seq_reg ?_
  refine run_XW [] 2 (ps := []) ?_ ap_nil ?_
  · kernel_rfl
  refine XW_end (ts := [0, 4]) (dv := []) (ka := []) (st' := ⟨7, [(0, .int .i64 a0), (4, .bool (decide (a0 < 0)))], [], []⟩) ?_ ?_ ?_
  · kernel_rfl
  · kernel_rfl
  refine CW_cond_seq (t := decide (a0 < 0)) ?_ (fun h => ?_) (fun h => ?_)
  · kernel_rfl
  · try rw [h]
    refine CW_assoc ?_
    refine CW_seq_reg ?_
    refine run_XW [] 1 (ps := []) ?_ ap_nil ?_
    · kernel_rfl
    refine XW_end (ts := [2]) (dv := []) (ka := []) (st' := ⟨7, [(2, .str (ByteArray.mk #[45, 49]))], [], []⟩) ?_ ?_ ?_
    · kernel_rfl
    · kernel_rfl
    refine CW_ret_seq ?_
    refine endW_ret ?_; kernel_rfl
  · try rw [h]
    refine CW_skip_seq ?_
    refine CW_seq_reg ?_
    refine runC_XW (fz := []) (n := 1) (st' := ⟨7, [(5, .int .i64 a0), (0, .int .i64 a0), (4, .bool false)], [], []⟩) (ps := []) ?_ ap_nil ?_
    · kernel_rfl
    refine callC_XW (i := ⟨none, 20, [.one (.int .i64 a0)], true, (some 6), []⟩) (rs := [.one (.str (dig a0))]) ?_ ap_nil (sem20 a0 (by first | omega | (refine getD_le ?_ (by omega); simp only [List.mem_cons, List.not_mem_nil, or_false, forall_eq_or_imp, forall_eq]; omega))) rfl ?_
    · kernel_rfl
    refine run_XW [] 1 (ps := []) ?_ ap_nil ?_
    · kernel_rfl
    refine XW_end (ts := [2]) (dv := []) (ka := []) (st' := ⟨7, [(2, .str (dig a0))], [], []⟩) ?_ ?_ ?_
    · kernel_rfl
    · kernel_rfl
    refine CW_ret ?_
    refine endW_ret ?_; kernel_rfl
theorem r21_size (a0 : Int) : (r21_0 a0).size ≤ 19 := by
  unfold r21_0
  cases decide (a0 < 0)
  · exact dig_size a0
  · exact Nat.le_of_ble_eq_true rfl
/-! loop.example/g00222/spec.CmdLine -/
def code10 : SC :=
  (SC.seq (SC.reg false [
    ⟨(some 1), (.box 34 (.tmp 0)), 0, none⟩,
    ⟨(some 2), (.alloc 32), 0, none⟩])
  (SC.seq (SC.seq (SC.reg false [
    ⟨(some 7), (.load 34 (.tmp 1)), 34, none⟩,
    ⟨(some 8), (.call ⟨(.value (.func 19)), #[(.tmp 7)], #[34]⟩), 2, none⟩,
    ⟨(some 3), (.assign (.tmp 8)), 2, none⟩])
  (SC.seq (SC.reg false [
    ⟨(some 9), (.move (.tmp 3)), 2, none⟩,
    ⟨(some 10), (.binOp .neq 2 (.tmp 9) (.const (.int .i64 0)) 2), 4, none⟩])
  (SC.cond (.tmp 10) (SC.seq (SC.reg false [
    ⟨(some 11), (.move (.tmp 3)), 2, none⟩,
    ⟨(some 12), (.build 32 #[(0, (.tmp 11))]), 32, none⟩,
    ⟨none, (.store 32 (.tmp 2) (.tmp 12)), 0, none⟩])
  SC.ret) SC.skip)))
  (SC.seq (SC.reg true [
    ⟨(some 13), (.fieldAddr 34 (.tmp 1) 0), 0, none⟩,
    ⟨(some 14), (.load 2 (.tmp 13)), 2, none⟩,
    ⟨(some 15), (.call ⟨(.value (.func 20)), #[(.tmp 14)], #[2]⟩), 9, none⟩,
    ⟨(some 16), (.binOp .add 9 (.tmp 15) (.const (.string (ByteArray.mk #[32]))) 9), 9, none⟩,
    ⟨(some 17), (.fieldAddr 34 (.tmp 1) 1), 0, none⟩,
    ⟨(some 18), (.load 2 (.tmp 17)), 2, none⟩,
    ⟨(some 19), (.call ⟨(.value (.func 21)), #[(.tmp 18)], #[2]⟩), 9, none⟩,
    ⟨(some 20), (.binOp .add 9 (.tmp 16) (.tmp 19) 9), 9, none⟩,
    ⟨(some 4), (.assign (.tmp 20)), 9, none⟩])
  (SC.seq (SC.reg false [
    ⟨(some 21), (.fieldAddr 34 (.tmp 1) 2), 0, none⟩,
    ⟨(some 22), (.load 2 (.tmp 21)), 2, none⟩,
    ⟨(some 23), (.fieldAddr 34 (.tmp 1) 3), 0, none⟩,
    ⟨(some 24), (.load 2 (.tmp 23)), 2, none⟩,
    ⟨(some 25), (.fieldAddr 34 (.tmp 1) 4), 0, none⟩,
    ⟨(some 26), (.load 2 (.tmp 25)), 2, none⟩,
    ⟨(some 27), (.fieldAddr 34 (.tmp 1) 5), 0, none⟩,
    ⟨(some 28), (.load 2 (.tmp 27)), 2, none⟩,
    ⟨(some 29), (.buildSlice 43 4 #[(0, (.tmp 22)), (1, (.tmp 24)), (2, (.tmp 26)), (3, (.tmp 28))]), 43, none⟩,
    ⟨(some 5), (.assign (.tmp 29)), 43, none⟩])
  (SC.seq (SC.seq (SC.reg false [
    ⟨(some 6), (.assign (.const (.int .i64 0))), 3, none⟩])
  (SC.block 0 (SC.loop (SC.seq (SC.seq (SC.reg false [
    ⟨(some 30), (.move (.tmp 6)), 3, none⟩,
    ⟨(some 31), (.move (.tmp 5)), 43, none⟩,
    ⟨(some 32), (.call ⟨(.builtin .len), #[(.tmp 31)], #[43]⟩), 3, none⟩,
    ⟨(some 33), (.binOp .lss 3 (.tmp 30) (.tmp 32) 3), 4, none⟩])
  (SC.cond (.tmp 33) SC.skip (SC.exit 0)))
  (SC.seq (SC.block 1 (SC.reg false [
    ⟨(some 36), (.move (.tmp 4)), 9, none⟩,
    ⟨(some 37), (.binOp .add 9 (.tmp 36) (.const (.string (ByteArray.mk #[32]))) 9), 9, none⟩,
    ⟨(some 38), (.move (.tmp 5)), 43, none⟩,
    ⟨(some 39), (.move (.tmp 6)), 3, none⟩,
    ⟨(some 40), (.indexAddr 43 (.tmp 38) (.tmp 39)), 0, none⟩,
    ⟨(some 41), (.load 2 (.tmp 40)), 2, none⟩,
    ⟨(some 42), (.call ⟨(.value (.func 20)), #[(.tmp 41)], #[2]⟩), 9, none⟩,
    ⟨(some 43), (.binOp .add 9 (.tmp 37) (.tmp 42) 9), 9, none⟩,
    ⟨(some 4), (.assign (.tmp 43)), 9, none⟩]))
  (SC.reg false [
    ⟨(some 34), (.move (.tmp 6)), 3, none⟩,
    ⟨(some 35), (.binOp .add 3 (.tmp 34) (.const (.int .i64 1)) 3), 3, none⟩,
    ⟨(some 6), (.assign (.tmp 35)), 3, none⟩]))))))
  (SC.seq (SC.reg false [
    ⟨(some 44), (.move (.tmp 4)), 9, none⟩,
    ⟨(some 45), (.build 32 #[(1, (.tmp 44))]), 32, none⟩,
    ⟨none, (.store 32 (.tmp 2) (.tmp 45)), 0, none⟩])
  SC.ret))))))
theorem sc10 : f10.body.bind stripC = some code10 := by kernel_rfl
def l10_0 (a0 : Int) (a1 : Int) (a2 : Int) (a3 : Int) (a4 : Int) (a5 : Int) : Nat → ByteArray → Int → Int × ByteArray
  | 0, _, _ => (0, ByteArray.empty)
  | k + 1, x0_4, x0_6 => (cond (decide (x0_6 < (([a2, a3, a4, a5].map (encI .i64)).length : Int))) (l10_0 a0 a1 a2 a3 a4 a5 k ((x0_4 ++ (ByteArray.mk #[32])) ++ (dig (([a2, a3, a4, a5]).getD x0_6.toNat 0))) (IntKind.wrap .i64 (x0_6 + 1))) (0, x0_4))
theorem l10_0_succ (a0 : Int) (a1 : Int) (a2 : Int) (a3 : Int) (a4 : Int) (a5 : Int) (k : Nat) (x0_4 : ByteArray) (x0_6 : Int) : l10_0 a0 a1 a2 a3 a4 a5 (k + 1) x0_4 x0_6 = (cond (decide (x0_6 < (([a2, a3, a4, a5].map (encI .i64)).length : Int))) (l10_0 a0 a1 a2 a3 a4 a5 k ((x0_4 ++ (ByteArray.mk #[32])) ++ (dig (([a2, a3, a4, a5]).getD x0_6.toNat 0))) (IntKind.wrap .i64 (x0_6 + 1))) (0, x0_4)) := rfl
def R10 (a0 : Int) (a1 : Int) (a2 : Int) (a3 : Int) (a4 : Int) (a5 : Int) : Int × ByteArray := (cond ((r19_0 a0 a1 a2 a3 a4 a5) != 0) ((r19_0 a0 a1 a2 a3 a4 a5), ByteArray.empty) (l10_0 a0 a1 a2 a3 a4 a5 (((4 : Int) - 0).toNat + 1) (((dig a0) ++ (ByteArray.mk #[32])) ++ (r21_0 a1)) 0))
def r10_0 (a0 : Int) (a1 : Int) (a2 : Int) (a3 : Int) (a4 : Int) (a5 : Int) : Int := (R10 a0 a1 a2 a3 a4 a5).1
def r10_1 (a0 : Int) (a1 : Int) (a2 : Int) (a3 : Int) (a4 : Int) (a5 : Int) : ByteArray := (R10 a0 a1 a2 a3 a4 a5).2
theorem sem10 (a0 : Int) (a1 : Int) (a2 : Int) (a3 : Int) (a4 : Int) (a5 : Int) (h0 : a0 ≤ 9223372036854775807) (h1 : a1 ≤ 9223372036854775807) (h2 : a2 ≤ 9223372036854775807) (h3 : a3 ≤ 9223372036854775807) (h4 : a4 ≤ 9223372036854775807) (h5 : a5 ≤ 9223372036854775807) : SemR prog 10 [.agg [.int .i64 a0, .int .i64 a1, .int .i64 a2, .int .i64 a3, .int .i64 a4, .int .i64 a5]] [.agg [.int .i64 (r10_0 a0 a1 a2 a3 a4 a5), .str (r10_1 a0 a1 a2 a3 a4 a5)]] := by
  refine SemR.of_code' func10 sc10 (by rw [ntmps10]; exact Nat.le_of_ble_eq_true rfl) (fun hl => ?_)
  simp only [lensOk, lenL, allP, List.append_nil, List.nil_append, List.cons_append, List.length_map] at hl
  rw [ntmps10, results10]
  unfold code10 r10_0 r10_1 R10
  refine CW_seq_reg ?_
  refine run_XW [29] 2 (ps := []) ?_ ap_nil ?_
  · kernel_rfl
  refine XW_end (ts := [1, 2]) (dv := [[1], [2]]) (ka := []) (st' := ⟨46, [(1, .vptr [1] 0), (2, .vptr [2] 0)], [([1], [.int .i64 a0, .int .i64 a1, .int .i64 a2, .int .i64 a3, .int .i64 a4, .int .i64 a5]), ([2], [.int .i64 0, .str ByteArray.empty])], []⟩) ?_ ?_ ?_
  · kernel_rfl
  · kernel_rfl
  refine CW_assoc ?_
  refine CW_seq_reg ?_
  refine runC_XW (fz := [29]) (n := 1) (st' := ⟨46, [(7, .agg [.int .i64 a0, .int .i64 a1, .int .i64 a2, .int .i64 a3, .int .i64 a4, .int .i64 a5]), (1, .vptr [1] 0), (2, .vptr [2] 0)], [([1], [.int .i64 a0, .int .i64 a1, .int .i64 a2, .int .i64 a3, .int .i64 a4, .int .i64 a5]), ([2], [.int .i64 0, .str ByteArray.empty])], []⟩) (ps := []) ?_ ap_nil ?_
  · kernel_rfl
  refine callC_XW (i := ⟨none, 19, [.agg [.int .i64 a0, .int .i64 a1, .int .i64 a2, .int .i64 a3, .int .i64 a4, .int .i64 a5]], true, (some 8), []⟩) (rs := [.one (.int .i64 (r19_0 a0 a1 a2 a3 a4 a5))]) ?_ ap_nil (sem19 a0 a1 a2 a3 a4 a5) rfl ?_
  · kernel_rfl
  refine run_XW [29] 1 (ps := []) ?_ ap_nil ?_
  · kernel_rfl
  refine XW_end (ts := [1, 2, 3]) (dv := [[1], [2]]) (ka := []) (st' := ⟨46, [(1, .vptr [1] 0), (2, .vptr [2] 0), (3, .int .i64 (r19_0 a0 a1 a2 a3 a4 a5))], [([1], [.int .i64 a0, .int .i64 a1, .int .i64 a2, .int .i64 a3, .int .i64 a4, .int .i64 a5]), ([2], [.int .i64 0, .str ByteArray.empty])], []⟩) ?_ ?_ ?_
  · kernel_rfl
  · kernel_rfl
  refine CW_assoc ?_
  refine CW_seq_reg ?_
  refine run_XW [29] 2 (ps := []) ?_ ap_nil ?_
  · kernel_rfl
  refine XW_end (ts := [1, 2, 3, 10]) (dv := [[1], [2]]) (ka := []) (st' := ⟨46, [(1, .vptr [1] 0), (2, .vptr [2] 0), (3, .int .i64 (r19_0 a0 a1 a2 a3 a4 a5)), (10, .bool ((r19_0 a0 a1 a2 a3 a4 a5) != 0))], [([1], [.int .i64 a0, .int .i64 a1, .int .i64 a2, .int .i64 a3, .int .i64 a4, .int .i64 a5]), ([2], [.int .i64 0, .str ByteArray.empty])], []⟩) ?_ ?_ ?_
  · kernel_rfl
  · kernel_rfl
  refine CW_cond_seq (t := ((r19_0 a0 a1 a2 a3 a4 a5) != 0)) ?_ (fun h => ?_) (fun h => ?_)
  · kernel_rfl
  · try rw [h]
    refine CW_assoc ?_
    refine CW_seq_reg ?_
    refine run_XW [29] 3 (ps := []) ?_ ap_nil ?_
    · kernel_rfl
    refine XW_end (ts := [2]) (dv := [[2]]) (ka := []) (st' := ⟨46, [(2, .vptr [2] 0)], [([2], [.int .i64 (r19_0 a0 a1 a2 a3 a4 a5), .str ByteArray.empty])], []⟩) ?_ ?_ ?_
    · kernel_rfl
    · kernel_rfl
    refine CW_ret_seq ?_
    refine endW_ret ?_; kernel_rfl
  · try rw [h]
    refine CW_skip_seq ?_
    refine CW_seq_reg ?_
    refine runC_XW (fz := [29]) (n := 2) (st' := ⟨46, [(14, .int .i64 a0), (13, .vptr [1] 0), (1, .vptr [1] 0), (2, .vptr [2] 0), (3, .int .i64 (r19_0 a0 a1 a2 a3 a4 a5)), (10, .bool false)], [([1], [.int .i64 a0, .int .i64 a1, .int .i64 a2, .int .i64 a3, .int .i64 a4, .int .i64 a5]), ([2], [.int .i64 0, .str ByteArray.empty])], []⟩) (ps := []) ?_ ap_nil ?_
    · kernel_rfl
    refine callC_XW (i := ⟨none, 20, [.one (.int .i64 a0)], true, (some 15), []⟩) (rs := [.one (.str (dig a0))]) ?_ ap_nil (sem20 a0 (by first | omega | (refine getD_le ?_ (by omega); simp only [List.mem_cons, List.not_mem_nil, or_false, forall_eq_or_imp, forall_eq]; omega))) rfl ?_
    · kernel_rfl
    refine runC_XW (fz := [29]) (n := 3) (st' := ⟨46, [(18, .int .i64 a1), (17, .vptr [1] 1), (16, .str ((dig a0) ++ (ByteArray.mk #[32]))), (15, .str (dig a0)), (14, .int .i64 a0), (13, .vptr [1] 0), (1, .vptr [1] 0), (2, .vptr [2] 0), (3, .int .i64 (r19_0 a0 a1 a2 a3 a4 a5)), (10, .bool false)], [([1], [.int .i64 a0, .int .i64 a1, .int .i64 a2, .int .i64 a3, .int .i64 a4, .int .i64 a5]), ([2], [.int .i64 0, .str ByteArray.empty])], []⟩) (ps := [((dig a0).size + (ByteArray.mk #[32]).size ≤ 9223372036854775807)]) ?_ (ap_cons (by have := dig_size a0; (try simp only [ByteArray.size_append, strOf_size, lit_size, List.size_toArray, List.length_cons, List.length_nil]); (try simp only [wrap64, List.length_map, List.length_cons, List.length_nil] at *); omega) ap_nil) ?_
    · kernel_rfl
    refine callC_XW (i := ⟨none, 21, [.one (.int .i64 a1)], true, (some 19), []⟩) (rs := [.one (.str (r21_0 a1))]) ?_ ap_nil (sem21 a1 (by omega)) rfl ?_
    · kernel_rfl
    refine run_XW [29] 2 (ps := [(((dig a0) ++ (ByteArray.mk #[32])).size + (r21_0 a1).size ≤ 9223372036854775807)]) ?_ (ap_cons (by have := dig_size a0; have := r21_size a1; (try simp only [ByteArray.size_append, strOf_size, lit_size, List.size_toArray, List.length_cons, List.length_nil]); (try simp only [wrap64, List.length_map, List.length_cons, List.length_nil] at *); omega) ap_nil) ?_
    · kernel_rfl
    refine XW_end (ts := [1, 2, 4]) (dv := [[1], [2]]) (ka := []) (st' := ⟨46, [(1, .vptr [1] 0), (2, .vptr [2] 0), (4, .str (((dig a0) ++ (ByteArray.mk #[32])) ++ (r21_0 a1)))], [([1], [.int .i64 a0, .int .i64 a1, .int .i64 a2, .int .i64 a3, .int .i64 a4, .int .i64 a5]), ([2], [.int .i64 0, .str ByteArray.empty])], []⟩) ?_ ?_ ?_
    · kernel_rfl
    · kernel_rfl
    refine CW_seq_reg ?_
    refine run_XW [29] 10 (ps := []) ?_ ap_nil ?_
    · kernel_rfl
    refine XW_end (ts := [2, 4, 5]) (dv := [[2]]) (ka := []) (st' := ⟨46, [(2, .vptr [2] 0), (4, .str (((dig a0) ++ (ByteArray.mk #[32])) ++ (r21_0 a1))), (5, .sl none 1 [[.int .i64 a2], [.int .i64 a3], [.int .i64 a4], [.int .i64 a5]])], [([2], [.int .i64 0, .str ByteArray.empty])], []⟩) ?_ ?_ ?_
    · kernel_rfl
    · kernel_rfl
    refine CW_assoc ?_
    refine CW_seq_reg ?_
    refine run_XW [29] 1 (ps := []) ?_ ap_nil ?_
    · kernel_rfl
    refine XW_end (ts := [2, 4, 5, 6]) (dv := [[2]]) (ka := []) (st' := ⟨46, [(2, .vptr [2] 0), (4, .str (((dig a0) ++ (ByteArray.mk #[32])) ++ (r21_0 a1))), (5, .sl none 1 [[.int .i64 a2], [.int .i64 a3], [.int .i64 a4], [.int .i64 a5]]), (6, .int .i64 0)], [([2], [.int .i64 0, .str ByteArray.empty])], []⟩) ?_ ?_ ?_
    · kernel_rfl
    · kernel_rfl
    refine CW_block_seq ?_
    refine CW_loop (S := fun x : Nat × ByteArray × Int => match x with | (k, x0_4, x0_6) => ⟨46, [(2, .vptr [2] 0), (4, .str x0_4), (5, .sl none 1 ([a2, a3, a4, a5].map (encI .i64))), (6, .int .i64 x0_6)], [([2], [.int .i64 0, .str ByteArray.empty])], []⟩) (m := fun x => x.1) (I := fun x => match x with | (k, x0_4, x0_6) => l10_0 a0 a1 a2 a3 a4 a5 k x0_4 x0_6 = l10_0 a0 a1 a2 a3 a4 a5 (((4 : Int) - 0).toNat + 1) (((dig a0) ++ (ByteArray.mk #[32])) ++ (r21_0 a1)) 0 ∧ ((4 : Int) - x0_6).toNat < k ∧ 0 ≤ x0_6 ∧ x0_6 ≤ 4 ∧ x0_4.size ≤ 100 + 30 * x0_6.toNat) (((4 : Int) - 0).toNat + 1, ((dig a0) ++ (ByteArray.mk #[32])) ++ (r21_0 a1), 0) ?_ ⟨rfl, Nat.lt_succ_self _, (by have := dig_size a0; have := r21_size a1; (try simp only [ByteArray.size_append, strOf_size, lit_size, List.size_toArray, List.length_cons, List.length_nil]); (try simp only [wrap64, List.length_map, List.length_cons, List.length_nil] at *); omega), (by have := dig_size a0; have := r21_size a1; (try simp only [ByteArray.size_append, strOf_size, lit_size, List.size_toArray, List.length_cons, List.length_nil]); (try simp only [wrap64, List.length_map, List.length_cons, List.length_nil] at *); omega), (by have := dig_size a0; have := r21_size a1; (try simp only [ByteArray.size_append, strOf_size, lit_size, List.size_toArray, List.length_cons, List.length_nil]); (try simp only [wrap64, List.length_map, List.length_cons, List.length_nil] at *); omega)⟩ ?_
    · kernel_rfl
    rintro ⟨k, x0_4, x0_6⟩ ⟨hR0, hk, hi0, hi1, hi2⟩
    obtain ⟨k, rfl⟩ : ∃ k', k = k' + 1 := ⟨k - 1, by omega⟩
    have hR0 := (l10_0_succ a0 a1 a2 a3 a4 a5 k x0_4 x0_6).symm.trans hR0
    refine CW_assoc ?_
    refine CW_seq_reg ?_
    refine run_XW [29] 4 (ps := []) ?_ ap_nil ?_
    · kernel_rfl
    refine XW_end (ts := [2, 4, 5, 6, 33]) (dv := [[2]]) (ka := []) (st' := ⟨46, [(2, .vptr [2] 0), (4, .str x0_4), (5, .sl none 1 ([a2, a3, a4, a5].map (encI .i64))), (6, .int .i64 x0_6), (33, .bool (decide (x0_6 < (([a2, a3, a4, a5].map (encI .i64)).length : Int))))], [([2], [.int .i64 0, .str ByteArray.empty])], []⟩) ?_ ?_ ?_
    · kernel_rfl
    · kernel_rfl
    refine CW_cond_seq (t := decide (x0_6 < (([a2, a3, a4, a5].map (encI .i64)).length : Int))) ?_ (fun h => ?_) (fun h => ?_)
    · kernel_rfl
    · try rw [h]
      try rw [h] at hR0
      have hh := h; try simp only [decide_eq_true_eq, decide_eq_false_iff_not, beq_iff_eq, bne_iff_ne, ne_eq, Bool.not_eq_true, Bool.not_eq_false, beq_eq_false_iff_ne, Int.not_lt, Int.not_le, List.length_map, List.length_cons, List.length_nil] at hh
      refine CW_skip_seq ?_
      refine CW_block_seq ?_
      refine CW_reg ?_
      refine runC_XW (fz := [29]) (n := 4) (st' := ⟨46, [(39, .int .i64 x0_6), (38, .sl none 1 ([a2, a3, a4, a5].map (encI .i64))), (37, .str (x0_4 ++ (ByteArray.mk #[32]))), (36, .str x0_4), (2, .vptr [2] 0), (4, .str x0_4), (5, .sl none 1 ([a2, a3, a4, a5].map (encI .i64))), (6, .int .i64 x0_6), (33, .bool true)], [([2], [.int .i64 0, .str ByteArray.empty])], []⟩) (ps := [(x0_4.size + (ByteArray.mk #[32]).size ≤ 9223372036854775807)]) ?_ (ap_cons (by (try simp only [ByteArray.size_append, strOf_size, lit_size, List.size_toArray, List.length_cons, List.length_nil]); (try simp only [wrap64, List.length_map, List.length_cons, List.length_nil] at *); omega) ap_nil) ?_
      · kernel_rfl
      refine run_as [29] (t := 40) (.rptr none [.int .i64 (([a2, a3, a4, a5]).getD x0_6.toNat 0)] 0) (x := .rptr none (([a2, a3, a4, a5].map (encI .i64)).getD x0_6.toNat []) 0) (ps := [0 ≤ x0_6 ∧ x0_6 < (([a2, a3, a4, a5].map (encI .i64)).length : Int)]) ?_ (by simp only [allP, List.length_map, List.length_cons, List.length_nil] at *; omega) (by rw [getD_map 0 (by simp only [List.length_map, List.length_cons, List.length_nil] at *; omega)]; rfl) ?_
      · kernel_rfl
      refine runC_XW (fz := [29]) (n := 1) (st' := ⟨46, [(41, .int .i64 (([a2, a3, a4, a5]).getD x0_6.toNat 0)), (40, .rptr none [.int .i64 (([a2, a3, a4, a5]).getD x0_6.toNat 0)] 0), (39, .int .i64 x0_6), (38, .sl none 1 ([a2, a3, a4, a5].map (encI .i64))), (37, .str (x0_4 ++ (ByteArray.mk #[32]))), (36, .str x0_4), (2, .vptr [2] 0), (4, .str x0_4), (5, .sl none 1 ([a2, a3, a4, a5].map (encI .i64))), (6, .int .i64 x0_6), (33, .bool true)], [([2], [.int .i64 0, .str ByteArray.empty])], []⟩) (ps := []) ?_ ap_nil ?_
      · kernel_rfl
      refine callC_XW (i := ⟨none, 20, [.one (.int .i64 (([a2, a3, a4, a5]).getD x0_6.toNat 0))], true, (some 42), []⟩) (rs := [.one (.str (dig (([a2, a3, a4, a5]).getD x0_6.toNat 0)))]) ?_ ap_nil (sem20 (([a2, a3, a4, a5]).getD x0_6.toNat 0) (by first | omega | (refine getD_le ?_ (by omega); simp only [List.mem_cons, List.not_mem_nil, or_false, forall_eq_or_imp, forall_eq]; omega))) rfl ?_
      · kernel_rfl
      refine run_XW [29] 2 (ps := [((x0_4 ++ (ByteArray.mk #[32])).size + (dig (([a2, a3, a4, a5]).getD x0_6.toNat 0)).size ≤ 9223372036854775807)]) ?_ (ap_cons (by have := dig_size (([a2, a3, a4, a5]).getD x0_6.toNat 0); (try simp only [ByteArray.size_append, strOf_size, lit_size, List.size_toArray, List.length_cons, List.length_nil]); (try simp only [wrap64, List.length_map, List.length_cons, List.length_nil] at *); omega) ap_nil) ?_
      · kernel_rfl
      refine XW_end (ts := [2, 4, 5, 6]) (dv := [[2]]) (ka := []) (st' := ⟨46, [(2, .vptr [2] 0), (4, .str ((x0_4 ++ (ByteArray.mk #[32])) ++ (dig (([a2, a3, a4, a5]).getD x0_6.toNat 0)))), (5, .sl none 1 ([a2, a3, a4, a5].map (encI .i64))), (6, .int .i64 x0_6)], [([2], [.int .i64 0, .str ByteArray.empty])], []⟩) ?_ ?_ ?_
      · kernel_rfl
      · kernel_rfl
      refine blk_normal ?_
      refine CW_reg ?_
      refine run_XW [29] 3 (ps := []) ?_ ap_nil ?_
      · kernel_rfl
      refine XW_end (ts := [2, 4, 5, 6]) (dv := [[2]]) (ka := []) (st' := ⟨46, [(2, .vptr [2] 0), (4, .str ((x0_4 ++ (ByteArray.mk #[32])) ++ (dig (([a2, a3, a4, a5]).getD x0_6.toNat 0)))), (5, .sl none 1 ([a2, a3, a4, a5].map (encI .i64))), (6, .int .i64 (IntKind.wrap .i64 (x0_6 + 1)))], [([2], [.int .i64 0, .str ByteArray.empty])], []⟩) ?_ ?_ ?_
      · kernel_rfl
      · kernel_rfl
      refine lp_next (k, (x0_4 ++ (ByteArray.mk #[32])) ++ (dig (([a2, a3, a4, a5]).getD x0_6.toNat 0)), IntKind.wrap .i64 (x0_6 + 1)) ?_ ⟨hR0, (by first | omega | (simp only [strOf_size, List.length_cons, List.length_nil]; omega) | (simp only [wrap64]; omega) | (simp only [wrap64, List.length_map] at *; omega)), (by have := dig_size (([a2, a3, a4, a5]).getD x0_6.toNat 0); (try simp only [ByteArray.size_append, strOf_size, lit_size, List.size_toArray, List.length_cons, List.length_nil]); (try simp only [wrap64, List.length_map, List.length_cons, List.length_nil] at *); omega), (by have := dig_size (([a2, a3, a4, a5]).getD x0_6.toNat 0); (try simp only [ByteArray.size_append, strOf_size, lit_size, List.size_toArray, List.length_cons, List.length_nil]); (try simp only [wrap64, List.length_map, List.length_cons, List.length_nil] at *); omega), (by have := dig_size (([a2, a3, a4, a5]).getD x0_6.toNat 0); (try simp only [ByteArray.size_append, strOf_size, lit_size, List.size_toArray, List.length_cons, List.length_nil]); (try simp only [wrap64, List.length_map, List.length_cons, List.length_nil] at *); omega)⟩ (Nat.lt_succ_self k)
      kernel_rfl
    · try rw [h]
      try rw [h] at hR0
      have hh := h; try simp only [decide_eq_true_eq, decide_eq_false_iff_not, beq_iff_eq, bne_iff_ne, ne_eq, Bool.not_eq_true, Bool.not_eq_false, beq_eq_false_iff_ne, Int.not_lt, Int.not_le, List.length_map, List.length_cons, List.length_nil] at hh
      refine CW_exit_seq ?_
      refine lp_exit ?_
      refine blk_exit ?_
      refine CW_seq_reg ?_
      refine run_XW [29] 3 (ps := []) ?_ ap_nil ?_
      · kernel_rfl
      refine XW_end (ts := [2]) (dv := [[2]]) (ka := []) (st' := ⟨46, [(2, .vptr [2] 0)], [([2], [.int .i64 0, .str x0_4])], []⟩) ?_ ?_ ?_
      · kernel_rfl
      · kernel_rfl
      refine CW_ret ?_
      rw [← hR0]
      refine endW_ret ?_; kernel_rfl
/-! loop.example/g00222/impl.decimals -/
def code23 : SC :=
  (SC.seq (SC.reg false [
    ⟨(some 4), (.assign (.const (.string (ByteArray.mk #[])))), 9, none⟩])
  (SC.seq (SC.reg false [
    ⟨(some 5), (.assign (.const (.string (ByteArray.mk #[])))), 9, none⟩])
  (SC.seq (SC.seq (SC.reg false [
    ⟨(some 8), (.move (.tmp 1)), 43, none⟩,
    ⟨(some 9), (.call ⟨(.builtin .len), #[(.tmp 8)], #[43]⟩), 3, none⟩,
    ⟨(some 10), (.move (.const (.int .i64 0))), 3, none⟩])
  (SC.block 0 (SC.loop (SC.seq (SC.reg false [
    ⟨(some 11), (.binOp .lss 3 (.tmp 10) (.tmp 9) 3), 0, none⟩])
  (SC.seq (SC.cond (.tmp 11) SC.skip (SC.exit 0))
  (SC.seq (SC.block 1 (SC.seq (SC.reg false [
    ⟨(some 12), (.move (.tmp 10)), 3, none⟩,
    ⟨(some 13), (.indexAddr 43 (.tmp 8) (.tmp 10)), 0, none⟩,
    ⟨(some 14), (.load 2 (.tmp 13)), 2, none⟩,
    ⟨(some 6), (.assign (.tmp 12)), 3, none⟩,
    ⟨(some 7), (.assign (.tmp 14)), 2, none⟩])
  (SC.seq (SC.seq (SC.reg false [
    ⟨(some 15), (.move (.tmp 6)), 3, none⟩,
    ⟨(some 16), (.binOp .gtr 3 (.tmp 15) (.const (.int .i64 0)) 3), 4, none⟩])
  (SC.cond (.tmp 16) (SC.reg false [
    ⟨(some 17), (.move (.tmp 5)), 9, none⟩,
    ⟨(some 18), (.move (.tmp 0)), 9, none⟩,
    ⟨(some 19), (.binOp .add 9 (.tmp 17) (.tmp 18) 9), 9, none⟩,
    ⟨(some 5), (.assign (.tmp 19)), 9, none⟩]) SC.skip))
  (SC.reg false [
    ⟨(some 20), (.move (.tmp 5)), 9, none⟩,
    ⟨(some 21), (.move (.tmp 7)), 2, none⟩,
    ⟨(some 22), (.call ⟨(.value (.func 42)), #[(.tmp 21)], #[2]⟩), 9, none⟩,
    ⟨(some 23), (.binOp .add 9 (.tmp 20) (.tmp 22) 9), 9, none⟩,
    ⟨(some 5), (.assign (.tmp 23)), 9, none⟩]))))
  (SC.reg false [
    ⟨(some 24), (.binOp .add 3 (.tmp 10) (.const (.int .i64 1)) 3), 3, none⟩,
    ⟨(some 10), (.move (.tmp 24)), 3, none⟩])))))))
  (SC.seq (SC.reg false [
    ⟨(some 25), (.move (.tmp 5)), 9, none⟩,
    ⟨(some 4), (.assign (.tmp 25)), 9, none⟩])
  SC.ret))))
theorem sc23 : f23.body.bind stripC = some code23 := by kernel_rfl
def l23_0 (a0 : ByteArray) (a1 : List Int) : Nat → ByteArray → Int → ByteArray
  | 0, _, _ => (ByteArray.empty)
  | k + 1, x0_5, x0_10 => (cond (decide (x0_10 < ((a1.map (encI .i64)).length : Int))) (cond (decide (x0_10 > 0)) (l23_0 a0 a1 k ((x0_5 ++ a0) ++ (r42_0 (a1.getD x0_10.toNat 0))) (IntKind.wrap .i64 (x0_10 + 1))) (l23_0 a0 a1 k (x0_5 ++ (r42_0 (a1.getD x0_10.toNat 0))) (IntKind.wrap .i64 (x0_10 + 1)))) (x0_5))
theorem l23_0_succ (a0 : ByteArray) (a1 : List Int) (k : Nat) (x0_5 : ByteArray) (x0_10 : Int) : l23_0 a0 a1 (k + 1) x0_5 x0_10 = (cond (decide (x0_10 < ((a1.map (encI .i64)).length : Int))) (cond (decide (x0_10 > 0)) (l23_0 a0 a1 k ((x0_5 ++ a0) ++ (r42_0 (a1.getD x0_10.toNat 0))) (IntKind.wrap .i64 (x0_10 + 1))) (l23_0 a0 a1 k (x0_5 ++ (r42_0 (a1.getD x0_10.toNat 0))) (IntKind.wrap .i64 (x0_10 + 1)))) (x0_5)) := rfl
def R23 (a0 : ByteArray) (a1 : List Int) : ByteArray := (l23_0 a0 a1 (((a1.length : Int) - 0).toNat + 1) (ByteArray.mk #[]) 0)
def r23_0 (a0 : ByteArray) (a1 : List Int) : ByteArray := (R23 a0 a1)
theorem sem23 (a0 : ByteArray) (a1 : List Int) (h0 : a0.size ≤ 1) (h1 : a1.length ≤ 100) (h2 : ∀ x ∈ a1, x ≤ 9223372036854775807) (h3 : ∀ x ∈ a1, -9223372036854775808 ≤ x) : SemR prog 23 [.one (.str a0), .one (.sl .shared 1 (a1.map (encI .i64)))] [.one (.str (r23_0 a0 a1))] := by
  refine SemR.of_code' func23 sc23 (by rw [ntmps23]; exact Nat.le_of_ble_eq_true rfl) (fun hl => ?_)
  simp only [lensOk, lenL, allP, List.append_nil, List.nil_append, List.cons_append, List.length_map] at hl
  rw [ntmps23, results23]
  unfold code23 r23_0 R23
  refine CW_seq_reg ?_
  refine run_XW [] 1 (ps := []) ?_ ap_nil ?_
  · kernel_rfl
  refine XW_end (ts := [0, 1]) (dv := []) (ka := []) (st' := ⟨26, [(0, .str a0), (1, .sl none 1 (a1.map (encI .i64)))], [], []⟩) ?_ ?_ ?_
  · kernel_rfl
  · kernel_rfl
  refine CW_seq_reg ?_
  refine run_XW [] 1 (ps := []) ?_ ap_nil ?_
  · kernel_rfl
  refine XW_end (ts := [0, 1, 5]) (dv := []) (ka := []) (st' := ⟨26, [(0, .str a0), (1, .sl none 1 (a1.map (encI .i64))), (5, .str (ByteArray.mk #[]))], [], []⟩) ?_ ?_ ?_
  · kernel_rfl
  · kernel_rfl
  refine CW_assoc ?_
  refine CW_seq_reg ?_
  refine run_XW [] 3 (ps := []) ?_ ap_nil ?_
  · kernel_rfl
  refine XW_end (ts := [0, 5, 8, 9, 10]) (dv := []) (ka := []) (st' := ⟨26, [(0, .str a0), (5, .str (ByteArray.mk #[])), (8, .sl none 1 (a1.map (encI .i64))), (9, .int .i64 ((a1.map (encI .i64)).length : Int)), (10, .int .i64 0)], [], []⟩) ?_ ?_ ?_
  · kernel_rfl
  · kernel_rfl
  refine CW_block_seq ?_
  refine CW_loop (S := fun x : Nat × ByteArray × Int => match x with | (k, x0_5, x0_10) => ⟨26, [(0, .str a0), (5, .str x0_5), (8, .sl none 1 (a1.map (encI .i64))), (9, .int .i64 ((a1.map (encI .i64)).length : Int)), (10, .int .i64 x0_10)], [], []⟩) (m := fun x => x.1) (I := fun x => match x with | (k, x0_5, x0_10) => l23_0 a0 a1 k x0_5 x0_10 = l23_0 a0 a1 (((a1.length : Int) - 0).toNat + 1) (ByteArray.mk #[]) 0 ∧ ((a1.length : Int) - x0_10).toNat < k ∧ 0 ≤ x0_10 ∧ x0_10 ≤ (a1.length : Int) ∧ x0_5.size ≤ 100 * x0_10.toNat) (((a1.length : Int) - 0).toNat + 1, ByteArray.mk #[], 0) ?_ ⟨rfl, Nat.lt_succ_self _, (by (try simp only [ByteArray.size_append, strOf_size, lit_size, List.size_toArray, List.length_cons, List.length_nil]); (try simp only [wrap64, List.length_map, List.length_cons, List.length_nil] at *); omega), (by (try simp only [ByteArray.size_append, strOf_size, lit_size, List.size_toArray, List.length_cons, List.length_nil]); (try simp only [wrap64, List.length_map, List.length_cons, List.length_nil] at *); omega), (by (try simp only [ByteArray.size_append, strOf_size, lit_size, List.size_toArray, List.length_cons, List.length_nil]); (try simp only [wrap64, List.length_map, List.length_cons, List.length_nil] at *); omega)⟩ ?_
  · kernel_rfl
  rintro ⟨k, x0_5, x0_10⟩ ⟨hR0, hk, hi0, hi1, hi2⟩
  obtain ⟨k, rfl⟩ : ∃ k', k = k' + 1 := ⟨k - 1, by omega⟩
  have hR0 := (l23_0_succ a0 a1 k x0_5 x0_10).symm.trans hR0
  refine CW_seq_reg ?_
  refine run_XW [] 1 (ps := []) ?_ ap_nil ?_
  · kernel_rfl
  refine XW_end (ts := [0, 5, 8, 9, 10, 11]) (dv := []) (ka := []) (st' := ⟨26, [(0, .str a0), (5, .str x0_5), (8, .sl none 1 (a1.map (encI .i64))), (9, .int .i64 ((a1.map (encI .i64)).length : Int)), (10, .int .i64 x0_10), (11, .bool (decide (x0_10 < ((a1.map (encI .i64)).length : Int))))], [], []⟩) ?_ ?_ ?_
  · kernel_rfl
  · kernel_rfl
  refine CW_cond_seq (t := decide (x0_10 < ((a1.map (encI .i64)).length : Int))) ?_ (fun h => ?_) (fun h => ?_)
  · kernel_rfl
  · try rw [h]
    try rw [h] at hR0
    have hh := h; try simp only [decide_eq_true_eq, decide_eq_false_iff_not, beq_iff_eq, bne_iff_ne, ne_eq, Bool.not_eq_true, Bool.not_eq_false, beq_eq_false_iff_ne, Int.not_lt, Int.not_le, List.length_map, List.length_cons, List.length_nil] at hh
    refine CW_skip_seq ?_
    refine CW_block_seq ?_
    refine CW_seq_reg ?_
    refine runC_XW (fz := []) (n := 1) (st' := ⟨26, [(12, .int .i64 x0_10), (0, .str a0), (5, .str x0_5), (8, .sl none 1 (a1.map (encI .i64))), (9, .int .i64 ((a1.map (encI .i64)).length : Int)), (10, .int .i64 x0_10), (11, .bool true)], [], []⟩) (ps := []) ?_ ap_nil ?_
    · kernel_rfl
    refine run_as [] (t := 13) (.rptr none [.int .i64 (a1.getD x0_10.toNat 0)] 0) (x := .rptr none ((a1.map (encI .i64)).getD x0_10.toNat []) 0) (ps := [0 ≤ x0_10 ∧ x0_10 < ((a1.map (encI .i64)).length : Int)]) ?_ (by simp only [allP, List.length_map, List.length_cons, List.length_nil] at *; omega) (by rw [getD_map 0 (by simp only [List.length_map, List.length_cons, List.length_nil] at *; omega)]; rfl) ?_
    · kernel_rfl
    refine run_XW [] 3 (ps := []) ?_ ap_nil ?_
    · kernel_rfl
    refine XW_end (ts := [0, 5, 6, 7, 8, 9, 10]) (dv := []) (ka := []) (st' := ⟨26, [(0, .str a0), (5, .str x0_5), (6, .int .i64 x0_10), (7, .int .i64 (a1.getD x0_10.toNat 0)), (8, .sl none 1 (a1.map (encI .i64))), (9, .int .i64 ((a1.map (encI .i64)).length : Int)), (10, .int .i64 x0_10)], [], []⟩) ?_ ?_ ?_
    · kernel_rfl
    · kernel_rfl
    refine CW_assoc ?_
    refine CW_seq_reg ?_
    refine run_XW [] 2 (ps := []) ?_ ap_nil ?_
    · kernel_rfl
    refine XW_end (ts := [0, 5, 7, 8, 9, 10, 16]) (dv := []) (ka := []) (st' := ⟨26, [(0, .str a0), (5, .str x0_5), (7, .int .i64 (a1.getD x0_10.toNat 0)), (8, .sl none 1 (a1.map (encI .i64))), (9, .int .i64 ((a1.map (encI .i64)).length : Int)), (10, .int .i64 x0_10), (16, .bool (decide (x0_10 > 0)))], [], []⟩) ?_ ?_ ?_
    · kernel_rfl
    · kernel_rfl
    refine CW_cond_seq (t := decide (x0_10 > 0)) ?_ (fun h => ?_) (fun h => ?_)
    · kernel_rfl
    · try rw [h]
      try rw [h] at hR0
      have hh := h; try simp only [decide_eq_true_eq, decide_eq_false_iff_not, beq_iff_eq, bne_iff_ne, ne_eq, Bool.not_eq_true, Bool.not_eq_false, beq_eq_false_iff_ne, Int.not_lt, Int.not_le, List.length_map, List.length_cons, List.length_nil] at hh
      refine CW_seq_reg ?_
      refine run_XW [] 4 (ps := [(x0_5.size + a0.size ≤ 9223372036854775807)]) ?_ (ap_cons (by (try simp only [ByteArray.size_append, strOf_size, lit_size, List.size_toArray, List.length_cons, List.length_nil]); (try simp only [wrap64, List.length_map, List.length_cons, List.length_nil] at *); omega) ap_nil) ?_
      · kernel_rfl
      refine XW_end (ts := [0, 5, 7, 8, 9, 10]) (dv := []) (ka := []) (st' := ⟨26, [(0, .str a0), (5, .str (x0_5 ++ a0)), (7, .int .i64 (a1.getD x0_10.toNat 0)), (8, .sl none 1 (a1.map (encI .i64))), (9, .int .i64 ((a1.map (encI .i64)).length : Int)), (10, .int .i64 x0_10)], [], []⟩) ?_ ?_ ?_
      · kernel_rfl
      · kernel_rfl
      refine CW_reg ?_
      refine runC_XW (fz := []) (n := 2) (st' := ⟨26, [(21, .int .i64 (a1.getD x0_10.toNat 0)), (20, .str (x0_5 ++ a0)), (0, .str a0), (5, .str (x0_5 ++ a0)), (7, .int .i64 (a1.getD x0_10.toNat 0)), (8, .sl none 1 (a1.map (encI .i64))), (9, .int .i64 ((a1.map (encI .i64)).length : Int)), (10, .int .i64 x0_10)], [], []⟩) (ps := []) ?_ ap_nil ?_
      · kernel_rfl
      refine callC_XW (i := ⟨none, 42, [.one (.int .i64 (a1.getD x0_10.toNat 0))], true, (some 22), []⟩) (rs := [.one (.str (r42_0 (a1.getD x0_10.toNat 0)))]) ?_ ap_nil (sem42 (a1.getD x0_10.toNat 0) (by first | omega | exact getD_le (by assumption) (by omega) | exact le_getD (by assumption) (by omega)) (by first | omega | exact getD_le (by assumption) (by omega) | exact le_getD (by assumption) (by omega))) rfl ?_
      · kernel_rfl
      refine run_XW [] 2 (ps := [((x0_5 ++ a0).size + (r42_0 (a1.getD x0_10.toNat 0)).size ≤ 9223372036854775807)]) ?_ (ap_cons (by have := r42_size (a1.getD x0_10.toNat 0) (by first | omega | exact getD_le (by assumption) (by omega) | exact le_getD (by assumption) (by omega)) (by first | omega | exact getD_le (by assumption) (by omega) | exact le_getD (by assumption) (by omega)); (try simp only [ByteArray.size_append, strOf_size, lit_size, List.size_toArray, List.length_cons, List.length_nil]); (try simp only [wrap64, List.length_map, List.length_cons, List.length_nil] at *); omega) ap_nil) ?_
      · kernel_rfl
      refine XW_end (ts := [0, 5, 8, 9, 10]) (dv := []) (ka := []) (st' := ⟨26, [(0, .str a0), (5, .str ((x0_5 ++ a0) ++ (r42_0 (a1.getD x0_10.toNat 0)))), (8, .sl none 1 (a1.map (encI .i64))), (9, .int .i64 ((a1.map (encI .i64)).length : Int)), (10, .int .i64 x0_10)], [], []⟩) ?_ ?_ ?_
      · kernel_rfl
      · kernel_rfl
      refine blk_normal ?_
      refine CW_reg ?_
      refine run_XW [] 2 (ps := []) ?_ ap_nil ?_
      · kernel_rfl
      refine XW_end (ts := [0, 5, 8, 9, 10]) (dv := []) (ka := []) (st' := ⟨26, [(0, .str a0), (5, .str ((x0_5 ++ a0) ++ (r42_0 (a1.getD x0_10.toNat 0)))), (8, .sl none 1 (a1.map (encI .i64))), (9, .int .i64 ((a1.map (encI .i64)).length : Int)), (10, .int .i64 (IntKind.wrap .i64 (x0_10 + 1)))], [], []⟩) ?_ ?_ ?_
      · kernel_rfl
      · kernel_rfl
      refine lp_next (k, (x0_5 ++ a0) ++ (r42_0 (a1.getD x0_10.toNat 0)), IntKind.wrap .i64 (x0_10 + 1)) ?_ ⟨hR0, (by first | omega | (simp only [strOf_size, List.length_cons, List.length_nil]; omega) | (simp only [wrap64]; omega) | (simp only [wrap64, List.length_map] at *; omega)), (by have := r42_size (a1.getD x0_10.toNat 0) (by first | omega | exact getD_le (by assumption) (by omega) | exact le_getD (by assumption) (by omega)) (by first | omega | exact getD_le (by assumption) (by omega) | exact le_getD (by assumption) (by omega)); (try simp only [ByteArray.size_append, strOf_size, lit_size, List.size_toArray, List.length_cons, List.length_nil]); (try simp only [wrap64, List.length_map, List.length_cons, List.length_nil] at *); omega), (by have := r42_size (a1.getD x0_10.toNat 0) (by first | omega | exact getD_le (by assumption) (by omega) | exact le_getD (by assumption) (by omega)) (by first | omega | exact getD_le (by assumption) (by omega) | exact le_getD (by assumption) (by omega)); (try simp only [ByteArray.size_append, strOf_size, lit_size, List.size_toArray, List.length_cons, List.length_nil]); (try simp only [wrap64, List.length_map, List.length_cons, List.length_nil] at *); omega), (by have := r42_size (a1.getD x0_10.toNat 0) (by first | omega | exact getD_le (by assumption) (by omega) | exact le_getD (by assumption) (by omega)) (by first | omega | exact getD_le (by assumption) (by omega) | exact le_getD (by assumption) (by omega)); (try simp only [ByteArray.size_append, strOf_size, lit_size, List.size_toArray, List.length_cons, List.length_nil]); (try simp only [wrap64, List.length_map, List.length_cons, List.length_nil] at *); omega)⟩ (Nat.lt_succ_self k)
      kernel_rfl
    · try rw [h]
      try rw [h] at hR0
      have hh := h; try simp only [decide_eq_true_eq, decide_eq_false_iff_not, beq_iff_eq, bne_iff_ne, ne_eq, Bool.not_eq_true, Bool.not_eq_false, beq_eq_false_iff_ne, Int.not_lt, Int.not_le, List.length_map, List.length_cons, List.length_nil] at hh
      refine CW_skip_seq ?_
      refine CW_reg ?_
      refine runC_XW (fz := []) (n := 2) (st' := ⟨26, [(21, .int .i64 (a1.getD x0_10.toNat 0)), (20, .str x0_5), (0, .str a0), (5, .str x0_5), (7, .int .i64 (a1.getD x0_10.toNat 0)), (8, .sl none 1 (a1.map (encI .i64))), (9, .int .i64 ((a1.map (encI .i64)).length : Int)), (10, .int .i64 x0_10), (16, .bool false)], [], []⟩) (ps := []) ?_ ap_nil ?_
      · kernel_rfl
      refine callC_XW (i := ⟨none, 42, [.one (.int .i64 (a1.getD x0_10.toNat 0))], true, (some 22), []⟩) (rs := [.one (.str (r42_0 (a1.getD x0_10.toNat 0)))]) ?_ ap_nil (sem42 (a1.getD x0_10.toNat 0) (by first | omega | exact getD_le (by assumption) (by omega) | exact le_getD (by assumption) (by omega)) (by first | omega | exact getD_le (by assumption) (by omega) | exact le_getD (by assumption) (by omega))) rfl ?_
      · kernel_rfl
      refine run_XW [] 2 (ps := [(x0_5.size + (r42_0 (a1.getD x0_10.toNat 0)).size ≤ 9223372036854775807)]) ?_ (ap_cons (by have := r42_size (a1.getD x0_10.toNat 0) (by first | omega | exact getD_le (by assumption) (by omega) | exact le_getD (by assumption) (by omega)) (by first | omega | exact getD_le (by assumption) (by omega) | exact le_getD (by assumption) (by omega)); (try simp only [ByteArray.size_append, strOf_size, lit_size, List.size_toArray, List.length_cons, List.length_nil]); (try simp only [wrap64, List.length_map, List.length_cons, List.length_nil] at *); omega) ap_nil) ?_
      · kernel_rfl
      refine XW_end (ts := [0, 5, 8, 9, 10]) (dv := []) (ka := []) (st' := ⟨26, [(0, .str a0), (5, .str (x0_5 ++ (r42_0 (a1.getD x0_10.toNat 0)))), (8, .sl none 1 (a1.map (encI .i64))), (9, .int .i64 ((a1.map (encI .i64)).length : Int)), (10, .int .i64 x0_10)], [], []⟩) ?_ ?_ ?_
      · kernel_rfl
      · kernel_rfl
      refine blk_normal ?_
      refine CW_reg ?_
      refine run_XW [] 2 (ps := []) ?_ ap_nil ?_
      · kernel_rfl
      refine XW_end (ts := [0, 5, 8, 9, 10]) (dv := []) (ka := []) (st' := ⟨26, [(0, .str a0), (5, .str (x0_5 ++ (r42_0 (a1.getD x0_10.toNat 0)))), (8, .sl none 1 (a1.map (encI .i64))), (9, .int .i64 ((a1.map (encI .i64)).length : Int)), (10, .int .i64 (IntKind.wrap .i64 (x0_10 + 1)))], [], []⟩) ?_ ?_ ?_
      · kernel_rfl
      · kernel_rfl
      refine lp_next (k, x0_5 ++ (r42_0 (a1.getD x0_10.toNat 0)), IntKind.wrap .i64 (x0_10 + 1)) ?_ ⟨hR0, (by first | omega | (simp only [strOf_size, List.length_cons, List.length_nil]; omega) | (simp only [wrap64]; omega) | (simp only [wrap64, List.length_map] at *; omega)), (by have := r42_size (a1.getD x0_10.toNat 0) (by first | omega | exact getD_le (by assumption) (by omega) | exact le_getD (by assumption) (by omega)) (by first | omega | exact getD_le (by assumption) (by omega) | exact le_getD (by assumption) (by omega)); (try simp only [ByteArray.size_append, strOf_size, lit_size, List.size_toArray, List.length_cons, List.length_nil]); (try simp only [wrap64, List.length_map, List.length_cons, List.length_nil] at *); omega), (by have := r42_size (a1.getD x0_10.toNat 0) (by first | omega | exact getD_le (by assumption) (by omega) | exact le_getD (by assumption) (by omega)) (by first | omega | exact getD_le (by assumption) (by omega) | exact le_getD (by assumption) (by omega)); (try simp only [ByteArray.size_append, strOf_size, lit_size, List.size_toArray, List.length_cons, List.length_nil]); (try simp only [wrap64, List.length_map, List.length_cons, List.length_nil] at *); omega), (by have := r42_size (a1.getD x0_10.toNat 0) (by first | omega | exact getD_le (by assumption) (by omega) | exact le_getD (by assumption) (by omega)) (by first | omega | exact getD_le (by assumption) (by omega) | exact le_getD (by assumption) (by omega)); (try simp only [ByteArray.size_append, strOf_size, lit_size, List.size_toArray, List.length_cons, List.length_nil]); (try simp only [wrap64, List.length_map, List.length_cons, List.length_nil] at *); omega)⟩ (Nat.lt_succ_self k)
      kernel_rfl
  · try rw [h]
    try rw [h] at hR0
    have hh := h; try simp only [decide_eq_true_eq, decide_eq_false_iff_not, beq_iff_eq, bne_iff_ne, ne_eq, Bool.not_eq_true, Bool.not_eq_false, beq_eq_false_iff_ne, Int.not_lt, Int.not_le, List.length_map, List.length_cons, List.length_nil] at hh
    refine CW_exit_seq ?_
    refine lp_exit ?_
    refine blk_exit ?_
    refine CW_seq_reg ?_
    refine run_XW [] 2 (ps := []) ?_ ap_nil ?_
    · kernel_rfl
    refine XW_end (ts := [4]) (dv := []) (ka := []) (st' := ⟨26, [(4, .str x0_5)], [], []⟩) ?_ ?_ ?_
    · kernel_rfl
    · kernel_rfl
    refine CW_ret ?_
    rw [← hR0]
    refine endW_ret ?_; kernel_rfl
/-! loop.example/g00222/impl.CmdLine -/
def code12 : SC :=
  (SC.seq (SC.reg false [
    ⟨(some 1), (.box 34 (.tmp 0)), 0, none⟩,
    ⟨(some 2), (.alloc 32), 0, none⟩])
  (SC.seq (SC.seq (SC.reg false [
    ⟨(some 4), (.load 34 (.tmp 1)), 34, none⟩,
    ⟨(some 5), (.call ⟨(.value (.func 22)), #[(.tmp 4)], #[34]⟩), 2, none⟩,
    ⟨(some 3), (.assign (.tmp 5)), 2, none⟩])
  (SC.seq (SC.reg false [
    ⟨(some 6), (.move (.tmp 3)), 2, none⟩,
    ⟨(some 7), (.binOp .neq 2 (.tmp 6) (.const (.int .i64 0)) 2), 4, none⟩])
  (SC.cond (.tmp 7) (SC.seq (SC.reg false [
    ⟨(some 8), (.move (.tmp 3)), 2, none⟩,
    ⟨(some 9), (.build 32 #[(0, (.tmp 8))]), 32, none⟩,
    ⟨none, (.store 32 (.tmp 2) (.tmp 9)), 0, none⟩])
  SC.ret) SC.skip)))
  (SC.seq (SC.reg false [
    ⟨(some 10), (.fieldAddr 34 (.tmp 1) 0), 0, none⟩,
    ⟨(some 11), (.load 2 (.tmp 10)), 2, none⟩,
    ⟨(some 12), (.fieldAddr 34 (.tmp 1) 1), 0, none⟩,
    ⟨(some 13), (.load 2 (.tmp 12)), 2, none⟩,
    ⟨(some 14), (.fieldAddr 34 (.tmp 1) 2), 0, none⟩,
    ⟨(some 15), (.load 2 (.tmp 14)), 2, none⟩,
    ⟨(some 16), (.fieldAddr 34 (.tmp 1) 3), 0, none⟩,
    ⟨(some 17), (.load 2 (.tmp 16)), 2, none⟩,
    ⟨(some 18), (.fieldAddr 34 (.tmp 1) 4), 0, none⟩,
    ⟨(some 19), (.load 2 (.tmp 18)), 2, none⟩,
    ⟨(some 20), (.fieldAddr 34 (.tmp 1) 5), 0, none⟩,
    ⟨(some 21), (.load 2 (.tmp 20)), 2, none⟩,
    ⟨(some 22), (.buildSlice 43 6 #[(0, (.tmp 11)), (1, (.tmp 13)), (2, (.tmp 15)), (3, (.tmp 17)), (4, (.tmp 19)), (5, (.tmp 21))]), 43, none⟩,
    ⟨(some 23), (.call ⟨(.value (.func 23)), #[(.const (.string (ByteArray.mk #[32]))), (.tmp 22)], #[9, 43]⟩), 9, none⟩,
    ⟨(some 24), (.build 32 #[(1, (.tmp 23))]), 32, none⟩,
    ⟨none, (.store 32 (.tmp 2) (.tmp 24)), 0, none⟩])
  SC.ret)))
theorem sc12 : f12.body.bind stripC = some code12 := by kernel_rfl
def r12_0 (a0 : Int) (a1 : Int) (a2 : Int) (a3 : Int) (a4 : Int) (a5 : Int) : Int := cond ((r22_0 a0 a1 a2 a3 a4 a5) != 0) (r22_0 a0 a1 a2 a3 a4 a5) 0
def r12_1 (a0 : Int) (a1 : Int) (a2 : Int) (a3 : Int) (a4 : Int) (a5 : Int) : ByteArray := cond ((r22_0 a0 a1 a2 a3 a4 a5) != 0) ByteArray.empty (r23_0 (ByteArray.mk #[32]) [a0, a1, a2, a3, a4, a5])
theorem sem12 (a0 : Int) (a1 : Int) (a2 : Int) (a3 : Int) (a4 : Int) (a5 : Int) (g0 : -9223372036854775808 ≤ a0) (g1 : -9223372036854775808 ≤ a1) (g2 : -9223372036854775808 ≤ a2) (g3 : -9223372036854775808 ≤ a3) (g4 : -9223372036854775808 ≤ a4) (g5 : -9223372036854775808 ≤ a5) (h0 : a0 ≤ 9223372036854775807) (h1 : a1 ≤ 9223372036854775807) (h2 : a2 ≤ 9223372036854775807) (h3 : a3 ≤ 9223372036854775807) (h4 : a4 ≤ 9223372036854775807) (h5 : a5 ≤ 9223372036854775807) : SemR prog 12 [.agg [.int .i64 a0, .int .i64 a1, .int .i64 a2, .int .i64 a3, .int .i64 a4, .int .i64 a5]] [.agg [.int .i64 (r12_0 a0 a1 a2 a3 a4 a5), .str (r12_1 a0 a1 a2 a3 a4 a5)]] := by
  refine SemR.of_code' func12 sc12 (by rw [ntmps12]; exact Nat.le_of_ble_eq_true rfl) (fun hl => ?_)
  rw [ntmps12, results12]
  unfold code12 r12_0 r12_1
  refine CW_seq_reg ?_
  refine run_XW [22] 2 (ps := []) ?_ ap_nil ?_
  · kernel_rfl
  refine XW_end (ts := [1, 2]) (dv := [[1], [2]]) (ka := []) (st' := ⟨25, [(1, .vptr [1] 0), (2, .vptr [2] 0)], [([1], [.int .i64 a0, .int .i64 a1, .int .i64 a2, .int .i64 a3, .int .i64 a4, .int .i64 a5]), ([2], [.int .i64 0, .str ByteArray.empty])], []⟩) ?_ ?_ ?_
  · kernel_rfl
  · kernel_rfl
  refine CW_assoc ?_
  refine CW_seq_reg ?_
  refine runC_XW (fz := [22]) (n := 1) (st' := ⟨25, [(4, .agg [.int .i64 a0, .int .i64 a1, .int .i64 a2, .int .i64 a3, .int .i64 a4, .int .i64 a5]), (1, .vptr [1] 0), (2, .vptr [2] 0)], [([1], [.int .i64 a0, .int .i64 a1, .int .i64 a2, .int .i64 a3, .int .i64 a4, .int .i64 a5]), ([2], [.int .i64 0, .str ByteArray.empty])], []⟩) (ps := []) ?_ ap_nil ?_
  · kernel_rfl
  refine callC_XW (i := ⟨none, 22, [.agg [.int .i64 a0, .int .i64 a1, .int .i64 a2, .int .i64 a3, .int .i64 a4, .int .i64 a5]], true, (some 5), []⟩) (rs := [.one (.int .i64 (r22_0 a0 a1 a2 a3 a4 a5))]) ?_ ap_nil (sem22 a0 a1 a2 a3 a4 a5) rfl ?_
  · kernel_rfl
  refine run_XW [22] 1 (ps := []) ?_ ap_nil ?_
  · kernel_rfl
  refine XW_end (ts := [1, 2, 3]) (dv := [[1], [2]]) (ka := []) (st' := ⟨25, [(1, .vptr [1] 0), (2, .vptr [2] 0), (3, .int .i64 (r22_0 a0 a1 a2 a3 a4 a5))], [([1], [.int .i64 a0, .int .i64 a1, .int .i64 a2, .int .i64 a3, .int .i64 a4, .int .i64 a5]), ([2], [.int .i64 0, .str ByteArray.empty])], []⟩) ?_ ?_ ?_
  · kernel_rfl
  · kernel_rfl
  refine CW_assoc ?_
  refine CW_seq_reg ?_
  refine run_XW [22] 2 (ps := []) ?_ ap_nil ?_
  · kernel_rfl
  refine XW_end (ts := [1, 2, 3, 7]) (dv := [[1], [2]]) (ka := []) (st' := ⟨25, [(1, .vptr [1] 0), (2, .vptr [2] 0), (3, .int .i64 (r22_0 a0 a1 a2 a3 a4 a5)), (7, .bool ((r22_0 a0 a1 a2 a3 a4 a5) != 0))], [([1], [.int .i64 a0, .int .i64 a1, .int .i64 a2, .int .i64 a3, .int .i64 a4, .int .i64 a5]), ([2], [.int .i64 0, .str ByteArray.empty])], []⟩) ?_ ?_ ?_
  · kernel_rfl
  · kernel_rfl
  refine CW_cond_seq (t := ((r22_0 a0 a1 a2 a3 a4 a5) != 0)) ?_ (fun h => ?_) (fun h => ?_)
  · kernel_rfl
  · try rw [h]
    refine CW_assoc ?_
    refine CW_seq_reg ?_
    refine run_XW [22] 3 (ps := []) ?_ ap_nil ?_
    · kernel_rfl
    refine XW_end (ts := [2]) (dv := [[2]]) (ka := []) (st' := ⟨25, [(2, .vptr [2] 0)], [([2], [.int .i64 (r22_0 a0 a1 a2 a3 a4 a5), .str ByteArray.empty])], []⟩) ?_ ?_ ?_
    · kernel_rfl
    · kernel_rfl
    refine CW_ret_seq ?_
    refine endW_ret ?_; kernel_rfl
  · try rw [h]
    refine CW_skip_seq ?_
    refine CW_seq_reg ?_
    refine runC_XW (fz := [22]) (n := 13) (st' := ⟨25, [(22, .sl none 1 [[.int .i64 a0], [.int .i64 a1], [.int .i64 a2], [.int .i64 a3], [.int .i64 a4], [.int .i64 a5]]), (21, .int .i64 a5), (20, .vptr [1] 5), (19, .int .i64 a4), (18, .vptr [1] 4), (17, .int .i64 a3), (16, .vptr [1] 3), (15, .int .i64 a2), (14, .vptr [1] 2), (13, .int .i64 a1), (12, .vptr [1] 1), (11, .int .i64 a0), (10, .vptr [1] 0), (1, .vptr [1] 0), (2, .vptr [2] 0), (3, .int .i64 (r22_0 a0 a1 a2 a3 a4 a5)), (7, .bool false)], [([1], [.int .i64 a0, .int .i64 a1, .int .i64 a2, .int .i64 a3, .int .i64 a4, .int .i64 a5]), ([2], [.int .i64 0, .str ByteArray.empty])], []⟩) (ps := []) ?_ ap_nil ?_
    · kernel_rfl
    refine callC_XW (i := ⟨none, 23, [.one (.str (ByteArray.mk #[32])), .one (.sl .shared 1 [[.int .i64 a0], [.int .i64 a1], [.int .i64 a2], [.int .i64 a3], [.int .i64 a4], [.int .i64 a5]])], true, (some 23), []⟩) (rs := [.one (.str (r23_0 (ByteArray.mk #[32]) [a0, a1, a2, a3, a4, a5]))]) ?_ ap_nil (sem23 (ByteArray.mk #[32]) [a0, a1, a2, a3, a4, a5] (by first | omega | exact Nat.le_of_ble_eq_true rfl | (simp only [List.mem_cons, List.not_mem_nil, or_false, forall_eq_or_imp, forall_eq]; omega)) (by first | omega | exact Nat.le_of_ble_eq_true rfl | (simp only [List.mem_cons, List.not_mem_nil, or_false, forall_eq_or_imp, forall_eq]; omega)) (by first | omega | exact Nat.le_of_ble_eq_true rfl | (simp only [List.mem_cons, List.not_mem_nil, or_false, forall_eq_or_imp, forall_eq]; omega)) (by first | omega | exact Nat.le_of_ble_eq_true rfl | (simp only [List.mem_cons, List.not_mem_nil, or_false, forall_eq_or_imp, forall_eq]; omega))) rfl ?_
    · kernel_rfl
    refine run_XW [22] 2 (ps := []) ?_ ap_nil ?_
    · kernel_rfl
    refine XW_end (ts := [2]) (dv := [[2]]) (ka := []) (st' := ⟨25, [(2, .vptr [2] 0)], [([2], [.int .i64 0, .str (r23_0 (ByteArray.mk #[32]) [a0, a1, a2, a3, a4, a5])])], []⟩) ?_ ?_ ?_
    · kernel_rfl
    · kernel_rfl
    refine CW_ret ?_
    refine endW_ret ?_; kernel_rfl
/-! loop.example/g00222/laws.FnExactCmdLine -/
def code4 : SC :=
  (SC.seq (SC.reg false [
    ⟨(some 1), (.box 30 (.tmp 0)), 0, none⟩,
    ⟨(some 2), (.assign (.const (.bool false))), 4, none⟩])
  (SC.seq (SC.reg false [
    ⟨(some 5), (.load 30 (.tmp 1)), 30, none⟩,
    ⟨(some 6), (.call ⟨(.value (.func 11)), #[(.tmp 5)], #[30]⟩), 34, none⟩,
    ⟨(some 7), (.call ⟨(.value (.func 10)), #[(.tmp 6)], #[34]⟩), 32, none⟩,
    ⟨(some 3), (.alloc 32), 0, none⟩,
    ⟨none, (.store 32 (.tmp 3) (.tmp 7)), 0, none⟩])
  (SC.seq (SC.reg false [
    ⟨(some 8), (.load 30 (.tmp 1)), 30, none⟩,
    ⟨(some 9), (.call ⟨(.value (.func 11)), #[(.tmp 8)], #[30]⟩), 34, none⟩,
    ⟨(some 10), (.call ⟨(.value (.func 12)), #[(.tmp 9)], #[34]⟩), 32, none⟩,
    ⟨(some 4), (.alloc 32), 0, none⟩,
    ⟨none, (.store 32 (.tmp 4) (.tmp 10)), 0, none⟩])
  (SC.seq (SC.seq (SC.reg false [
    ⟨(some 11), (.load 32 (.tmp 4)), 32, none⟩,
    ⟨(some 12), (.load 32 (.tmp 3)), 32, none⟩,
    ⟨(some 13), (.call ⟨(.value (.func 13)), #[(.tmp 11), (.tmp 12)], #[32, 32]⟩), 4, none⟩,
    ⟨(some 14), (.unOp .not 4 (.tmp 13)), 4, none⟩])
  (SC.cond (.tmp 14) (SC.seq (SC.reg false [
    ⟨(some 2), (.assign (.const (.bool false))), 4, none⟩])
  SC.ret) SC.skip))
  (SC.seq (SC.reg false [
    ⟨(some 2), (.assign (.const (.bool true))), 4, none⟩])
  SC.ret)))))
theorem sc4 : f4.body.bind stripC = some code4 := by kernel_rfl
def r4_0 (a0 : Int) (a1 : Int) (a2 : Int) (a3 : Int) (a4 : Int) (a5 : Int) : Bool := cond (!(r13_0 (r12_0 a0 a1 a2 a3 a4 a5) (r12_1 a0 a1 a2 a3 a4 a5) (r10_0 a0 a1 a2 a3 a4 a5) (r10_1 a0 a1 a2 a3 a4 a5))) false true
theorem sem4 (a0 : Int) (a1 : Int) (a2 : Int) (a3 : Int) (a4 : Int) (a5 : Int) (g0 : -9223372036854775808 ≤ a0) (g1 : -9223372036854775808 ≤ a1) (g2 : -9223372036854775808 ≤ a2) (g3 : -9223372036854775808 ≤ a3) (g4 : -9223372036854775808 ≤ a4) (g5 : -9223372036854775808 ≤ a5) (h0 : a0 ≤ 9223372036854775807) (h1 : a1 ≤ 9223372036854775807) (h2 : a2 ≤ 9223372036854775807) (h3 : a3 ≤ 9223372036854775807) (h4 : a4 ≤ 9223372036854775807) (h5 : a5 ≤ 9223372036854775807) : SemR prog 4 [.agg [.int .i64 a0, .int .i64 a1, .int .i64 a2, .int .i64 a3, .int .i64 a4, .int .i64 a5]] [.one (.bool (r4_0 a0 a1 a2 a3 a4 a5))] := by
  refine SemR.of_code' func4 sc4 (by rw [ntmps4]; exact Nat.le_of_ble_eq_true rfl) (fun hl => ?_)
  rw [ntmps4, results4]
  unfold code4 r4_0
  refine CW_seq_reg ?_
  refine run_XW [] 2 (ps := []) ?_ ap_nil ?_
  · kernel_rfl
  refine XW_end (ts := [1]) (dv := [[1]]) (ka := []) (st' := ⟨15, [(1, .vptr [1] 0)], [([1], [.int .i64 a0, .int .i64 a1, .int .i64 a2, .int .i64 a3, .int .i64 a4, .int .i64 a5])], []⟩) ?_ ?_ ?_
  · kernel_rfl
  · kernel_rfl
  refine CW_seq_reg ?_
  refine runC_XW (fz := []) (n := 1) (st' := ⟨15, [(5, .agg [.int .i64 a0, .int .i64 a1, .int .i64 a2, .int .i64 a3, .int .i64 a4, .int .i64 a5]), (1, .vptr [1] 0)], [([1], [.int .i64 a0, .int .i64 a1, .int .i64 a2, .int .i64 a3, .int .i64 a4, .int .i64 a5])], []⟩) (ps := []) ?_ ap_nil ?_
  · kernel_rfl
  refine callC_XW (i := ⟨none, 11, [.agg [.int .i64 a0, .int .i64 a1, .int .i64 a2, .int .i64 a3, .int .i64 a4, .int .i64 a5]], true, (some 6), []⟩) (rs := [.agg [.int .i64 a0, .int .i64 a1, .int .i64 a2, .int .i64 a3, .int .i64 a4, .int .i64 a5]]) ?_ ap_nil (sem11 a0 a1 a2 a3 a4 a5) rfl ?_
  · kernel_rfl
  refine callC_XW (i := ⟨none, 10, [.agg [.int .i64 a0, .int .i64 a1, .int .i64 a2, .int .i64 a3, .int .i64 a4, .int .i64 a5]], true, (some 7), []⟩) (rs := [.agg [.int .i64 (r10_0 a0 a1 a2 a3 a4 a5), .str (r10_1 a0 a1 a2 a3 a4 a5)]]) ?_ ap_nil (sem10 a0 a1 a2 a3 a4 a5 (by omega) (by omega) (by omega) (by omega) (by omega) (by omega)) rfl ?_
  · kernel_rfl
  refine run_XW [] 2 (ps := []) ?_ ap_nil ?_
  · kernel_rfl
  refine XW_end (ts := [1, 3]) (dv := [[1], [3]]) (ka := []) (st' := ⟨15, [(1, .vptr [1] 0), (3, .vptr [3] 0)], [([1], [.int .i64 a0, .int .i64 a1, .int .i64 a2, .int .i64 a3, .int .i64 a4, .int .i64 a5]), ([3], [.int .i64 (r10_0 a0 a1 a2 a3 a4 a5), .str (r10_1 a0 a1 a2 a3 a4 a5)])], []⟩) ?_ ?_ ?_
  · kernel_rfl
  · kernel_rfl
  refine CW_seq_reg ?_
  refine runC_XW (fz := []) (n := 1) (st' := ⟨15, [(8, .agg [.int .i64 a0, .int .i64 a1, .int .i64 a2, .int .i64 a3, .int .i64 a4, .int .i64 a5]), (1, .vptr [1] 0), (3, .vptr [3] 0)], [([1], [.int .i64 a0, .int .i64 a1, .int .i64 a2, .int .i64 a3, .int .i64 a4, .int .i64 a5]), ([3], [.int .i64 (r10_0 a0 a1 a2 a3 a4 a5), .str (r10_1 a0 a1 a2 a3 a4 a5)])], []⟩) (ps := []) ?_ ap_nil ?_
  · kernel_rfl
  refine callC_XW (i := ⟨none, 11, [.agg [.int .i64 a0, .int .i64 a1, .int .i64 a2, .int .i64 a3, .int .i64 a4, .int .i64 a5]], true, (some 9), []⟩) (rs := [.agg [.int .i64 a0, .int .i64 a1, .int .i64 a2, .int .i64 a3, .int .i64 a4, .int .i64 a5]]) ?_ ap_nil (sem11 a0 a1 a2 a3 a4 a5) rfl ?_
  · kernel_rfl
  refine callC_XW (i := ⟨none, 12, [.agg [.int .i64 a0, .int .i64 a1, .int .i64 a2, .int .i64 a3, .int .i64 a4, .int .i64 a5]], true, (some 10), []⟩) (rs := [.agg [.int .i64 (r12_0 a0 a1 a2 a3 a4 a5), .str (r12_1 a0 a1 a2 a3 a4 a5)]]) ?_ ap_nil (sem12 a0 a1 a2 a3 a4 a5 (by omega) (by omega) (by omega) (by omega) (by omega) (by omega) (by omega) (by omega) (by omega) (by omega) (by omega) (by omega)) rfl ?_
  · kernel_rfl
  refine run_XW [] 2 (ps := []) ?_ ap_nil ?_
  · kernel_rfl
  refine XW_end (ts := [3, 4]) (dv := [[3], [4]]) (ka := []) (st' := ⟨15, [(3, .vptr [3] 0), (4, .vptr [4] 0)], [([3], [.int .i64 (r10_0 a0 a1 a2 a3 a4 a5), .str (r10_1 a0 a1 a2 a3 a4 a5)]), ([4], [.int .i64 (r12_0 a0 a1 a2 a3 a4 a5), .str (r12_1 a0 a1 a2 a3 a4 a5)])], []⟩) ?_ ?_ ?_
  · kernel_rfl
  · kernel_rfl
  refine CW_assoc ?_
  refine CW_seq_reg ?_
  refine runC_XW (fz := []) (n := 2) (st' := ⟨15, [(12, .agg [.int .i64 (r10_0 a0 a1 a2 a3 a4 a5), .str (r10_1 a0 a1 a2 a3 a4 a5)]), (11, .agg [.int .i64 (r12_0 a0 a1 a2 a3 a4 a5), .str (r12_1 a0 a1 a2 a3 a4 a5)]), (3, .vptr [3] 0), (4, .vptr [4] 0)], [([3], [.int .i64 (r10_0 a0 a1 a2 a3 a4 a5), .str (r10_1 a0 a1 a2 a3 a4 a5)]), ([4], [.int .i64 (r12_0 a0 a1 a2 a3 a4 a5), .str (r12_1 a0 a1 a2 a3 a4 a5)])], []⟩) (ps := []) ?_ ap_nil ?_
  · kernel_rfl
  refine callC_XW (i := ⟨none, 13, [.agg [.int .i64 (r12_0 a0 a1 a2 a3 a4 a5), .str (r12_1 a0 a1 a2 a3 a4 a5)], .agg [.int .i64 (r10_0 a0 a1 a2 a3 a4 a5), .str (r10_1 a0 a1 a2 a3 a4 a5)]], true, (some 13), []⟩) (rs := [.one (.bool (r13_0 (r12_0 a0 a1 a2 a3 a4 a5) (r12_1 a0 a1 a2 a3 a4 a5) (r10_0 a0 a1 a2 a3 a4 a5) (r10_1 a0 a1 a2 a3 a4 a5)))]) ?_ ap_nil (sem13 (r12_0 a0 a1 a2 a3 a4 a5) (r12_1 a0 a1 a2 a3 a4 a5) (r10_0 a0 a1 a2 a3 a4 a5) (r10_1 a0 a1 a2 a3 a4 a5)) rfl ?_
  · kernel_rfl
  refine run_XW [] 1 (ps := []) ?_ ap_nil ?_
  · kernel_rfl
  refine XW_end (ts := [14]) (dv := []) (ka := []) (st' := ⟨15, [(14, .bool (!(r13_0 (r12_0 a0 a1 a2 a3 a4 a5) (r12_1 a0 a1 a2 a3 a4 a5) (r10_0 a0 a1 a2 a3 a4 a5) (r10_1 a0 a1 a2 a3 a4 a5))))], [], []⟩) ?_ ?_ ?_
  · kernel_rfl
  · kernel_rfl
  refine CW_cond_seq (t := (!(r13_0 (r12_0 a0 a1 a2 a3 a4 a5) (r12_1 a0 a1 a2 a3 a4 a5) (r10_0 a0 a1 a2 a3 a4 a5) (r10_1 a0 a1 a2 a3 a4 a5)))) ?_ (fun h => ?_) (fun h => ?_)
  · kernel_rfl
  · try rw [h]
    refine CW_assoc ?_
    refine CW_seq_reg ?_
    refine run_XW [] 1 (ps := []) ?_ ap_nil ?_
    · kernel_rfl
    refine XW_end (ts := [2]) (dv := []) (ka := []) (st' := ⟨15, [(2, .bool false)], [], []⟩) ?_ ?_ ?_
    · kernel_rfl
    · kernel_rfl
    refine CW_ret_seq ?_
    refine endW_ret ?_; kernel_rfl
  · try rw [h]
    refine CW_skip_seq ?_
    refine CW_seq_reg ?_
    refine run_XW [] 1 (ps := []) ?_ ap_nil ?_
    · kernel_rfl
    refine XW_end (ts := [2]) (dv := []) (ka := []) (st' := ⟨15, [(2, .bool true)], [], []⟩) ?_ ?_ ?_
    · kernel_rfl
    · kernel_rfl
    refine CW_ret ?_
    refine endW_ret ?_; kernel_rfl
end Go.E
