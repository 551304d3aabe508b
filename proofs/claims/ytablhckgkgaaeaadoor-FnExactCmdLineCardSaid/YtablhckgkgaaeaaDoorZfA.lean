/- What the fault tests of a command compute, each by its code. No condition. -/
import Derived.Test.YtablhckgkgaaeaaDoorZfF
set_option maxRecDepth 100000
set_option linter.unusedVariables false
set_option linter.unusedSimpArgs false
set_option maxHeartbeats 4000000
namespace Go.E
open Go Go.Proofs.Tryd
/-! loop.example/g00222/spec.l1In -/
def code29 : SC :=
  (SC.seq (SC.reg false [
    ⟨(some 6), (.assign (.const (.bool false))), 4, none⟩])
  (SC.seq (SC.reg false [
    ⟨(some 7), (.move (.tmp 0)), 2, none⟩,
    ⟨(some 8), (.move (.tmp 1)), 2, none⟩,
    ⟨(some 9), (.binOp .geq 2 (.tmp 7) (.tmp 8) 2), 4, none⟩,
    ⟨(some 10), (.move (.tmp 9)), 4, none⟩,
    ⟨(some 11), (.move (.tmp 0)), 2, (some (10, true))⟩,
    ⟨(some 12), (.move (.tmp 2)), 2, (some (10, true))⟩,
    ⟨(some 13), (.binOp .leq 2 (.tmp 11) (.tmp 12) 2), 4, (some (10, true))⟩,
    ⟨(some 14), (.pick (.tmp 10) (.tmp 13) (.const (.bool false))), 4, none⟩,
    ⟨(some 6), (.assign (.tmp 14)), 4, none⟩])
  SC.ret))
theorem sc29 : f29.body.bind stripC = some code29 := by kernel_rfl
def v29_0 (a0 : Int) (a1 : Int) (a2 : Int) : Bool := cond (decide (a0 ≥ a1)) (decide (a0 ≤ a2)) false
def r29_0 (a0 : Int) (a1 : Int) (a2 : Int) : Bool := (v29_0 a0 a1 a2)
theorem sem29 (a0 : Int) (a1 : Int) (a2 : Int)  : SemR prog 29 [.one (.int .i64 a0), .one (.int .i64 a1), .one (.int .i64 a2)] [.one (.bool (r29_0 a0 a1 a2))] := by
  refine SemR.of_code' func29 sc29 (by rw [ntmps29]; exact Nat.le_of_ble_eq_true rfl) (fun hl => ?_)
  rw [ntmps29, results29]
  unfold code29 r29_0
  refine CW_seq_reg ?_
  refine run_XW [] 1 (ps := []) ?_ ap_nil ?_
  · kernel_rfl
  refine XW_end (ts := [0, 1, 2]) (dv := []) (ka := []) (st' := ⟨15, [(0, .int .i64 a0), (1, .int .i64 a1), (2, .int .i64 a2)], [], []⟩) ?_ ?_ ?_
  · kernel_rfl
  · kernel_rfl
  refine CW_seq_reg ?_
  refine runC_XW (fz := []) (n := 7) (st' := ⟨15, [(13, .opt ((decide (a0 ≥ a1)) == true) (.bool (decide (a0 ≤ a2)))), (12, .opt ((decide (a0 ≥ a1)) == true) (.int .i64 a2)), (11, .opt ((decide (a0 ≥ a1)) == true) (.int .i64 a0)), (10, .bool (decide (a0 ≥ a1))), (9, .bool (decide (a0 ≥ a1))), (8, .int .i64 a1), (7, .int .i64 a0), (0, .int .i64 a0), (1, .int .i64 a1), (2, .int .i64 a2)], [], []⟩) (ps := [(((decide (a0 ≥ a1)) == true) = true → ((decide (a0 ≥ a1)) == true) = true), (((decide (a0 ≥ a1)) == true) = true → ((decide (a0 ≥ a1)) == true) = true)]) ?_ (ap_cons (fun q0 => q0) (ap_cons (fun q0 => q0) ap_nil)) ?_
  · kernel_rfl
  refine run_as [] (t := 14) (.bool (cond (decide (a0 ≥ a1)) (decide (a0 ≤ a2)) false)) (x := .bool (cond (decide (a0 ≥ a1)) (decide (a0 ≤ a2)) false)) (ps := [(decide (a0 ≥ a1) = true → ((decide (a0 ≥ a1)) == true) = true)]) ?_ (ap_cons (fun q0 => (eq_i q0)) ap_nil) rfl ?_
  · kernel_rfl
  refine gen_b (fun b14_0 hb14_0 => ?_)
  replace hb14_0 : b14_0 = v29_0 a0 a1 a2 := by rw [hb14_0]; rfl
  refine run_XW [] 1 (ps := []) ?_ ap_nil ?_
  · kernel_rfl
  refine XW_end (ts := [6]) (dv := []) (ka := []) (st' := ⟨15, [(6, .bool b14_0)], [], []⟩) ?_ ?_ ?_
  · kernel_rfl
  · kernel_rfl
  refine CW_ret ?_
  rw [hb14_0]
  refine endW_ret ?_; kernel_rfl
/-! loop.example/g00222/impl.in -/
def code36 : SC :=
  (SC.seq (SC.reg false [
    ⟨(some 6), (.assign (.const (.bool false))), 4, none⟩])
  (SC.seq (SC.reg false [
    ⟨(some 7), (.move (.tmp 0)), 2, none⟩,
    ⟨(some 8), (.move (.tmp 1)), 2, none⟩,
    ⟨(some 9), (.binOp .geq 2 (.tmp 7) (.tmp 8) 2), 4, none⟩,
    ⟨(some 10), (.move (.tmp 9)), 4, none⟩,
    ⟨(some 11), (.move (.tmp 0)), 2, (some (10, true))⟩,
    ⟨(some 12), (.move (.tmp 2)), 2, (some (10, true))⟩,
    ⟨(some 13), (.binOp .leq 2 (.tmp 11) (.tmp 12) 2), 4, (some (10, true))⟩,
    ⟨(some 14), (.pick (.tmp 10) (.tmp 13) (.const (.bool false))), 4, none⟩,
    ⟨(some 6), (.assign (.tmp 14)), 4, none⟩])
  SC.ret))
theorem sc36 : f36.body.bind stripC = some code36 := by kernel_rfl
def v36_0 (a0 : Int) (a1 : Int) (a2 : Int) : Bool := cond (decide (a0 ≥ a1)) (decide (a0 ≤ a2)) false
def r36_0 (a0 : Int) (a1 : Int) (a2 : Int) : Bool := (v36_0 a0 a1 a2)
theorem sem36 (a0 : Int) (a1 : Int) (a2 : Int)  : SemR prog 36 [.one (.int .i64 a0), .one (.int .i64 a1), .one (.int .i64 a2)] [.one (.bool (r36_0 a0 a1 a2))] := by
  refine SemR.of_code' func36 sc36 (by rw [ntmps36]; exact Nat.le_of_ble_eq_true rfl) (fun hl => ?_)
  rw [ntmps36, results36]
  unfold code36 r36_0
  refine CW_seq_reg ?_
  refine run_XW [] 1 (ps := []) ?_ ap_nil ?_
  · kernel_rfl
  refine XW_end (ts := [0, 1, 2]) (dv := []) (ka := []) (st' := ⟨15, [(0, .int .i64 a0), (1, .int .i64 a1), (2, .int .i64 a2)], [], []⟩) ?_ ?_ ?_
  · kernel_rfl
  · kernel_rfl
  refine CW_seq_reg ?_
  refine runC_XW (fz := []) (n := 7) (st' := ⟨15, [(13, .opt ((decide (a0 ≥ a1)) == true) (.bool (decide (a0 ≤ a2)))), (12, .opt ((decide (a0 ≥ a1)) == true) (.int .i64 a2)), (11, .opt ((decide (a0 ≥ a1)) == true) (.int .i64 a0)), (10, .bool (decide (a0 ≥ a1))), (9, .bool (decide (a0 ≥ a1))), (8, .int .i64 a1), (7, .int .i64 a0), (0, .int .i64 a0), (1, .int .i64 a1), (2, .int .i64 a2)], [], []⟩) (ps := [(((decide (a0 ≥ a1)) == true) = true → ((decide (a0 ≥ a1)) == true) = true), (((decide (a0 ≥ a1)) == true) = true → ((decide (a0 ≥ a1)) == true) = true)]) ?_ (ap_cons (fun q0 => q0) (ap_cons (fun q0 => q0) ap_nil)) ?_
  · kernel_rfl
  refine run_as [] (t := 14) (.bool (cond (decide (a0 ≥ a1)) (decide (a0 ≤ a2)) false)) (x := .bool (cond (decide (a0 ≥ a1)) (decide (a0 ≤ a2)) false)) (ps := [(decide (a0 ≥ a1) = true → ((decide (a0 ≥ a1)) == true) = true)]) ?_ (ap_cons (fun q0 => (eq_i q0)) ap_nil) rfl ?_
  · kernel_rfl
  refine gen_b (fun b14_0 hb14_0 => ?_)
  replace hb14_0 : b14_0 = v36_0 a0 a1 a2 := by rw [hb14_0]; rfl
  refine run_XW [] 1 (ps := []) ?_ ap_nil ?_
  · kernel_rfl
  refine XW_end (ts := [6]) (dv := []) (ka := []) (st' := ⟨15, [(6, .bool b14_0)], [], []⟩) ?_ ?_ ?_
  · kernel_rfl
  · kernel_rfl
  refine CW_ret ?_
  rw [hb14_0]
  refine endW_ret ?_; kernel_rfl
/-! loop.example/g00222/spec.l3Name -/
def code32 : SC :=
  (SC.seq (SC.reg false [
    ⟨(some 2), (.assign (.const (.bool false))), 4, none⟩])
  (SC.seq (SC.reg false [
    ⟨(some 3), (.move (.tmp 0)), 2, none⟩,
    ⟨(some 4), (.call ⟨(.value (.func 29)), #[(.tmp 3), (.const (.int .i64 1)), (.const (.int .i64 999))], #[2, 2, 2]⟩), 4, none⟩,
    ⟨(some 2), (.assign (.tmp 4)), 4, none⟩])
  SC.ret))
theorem sc32 : f32.body.bind stripC = some code32 := by kernel_rfl
def r32_0 (a0 : Int) : Bool := (r29_0 a0 1 999)
theorem sem32 (a0 : Int)  : SemR prog 32 [.one (.int .i64 a0)] [.one (.bool (r32_0 a0))] := by
  refine SemR.of_code' func32 sc32 (by rw [ntmps32]; exact Nat.le_of_ble_eq_true rfl) (fun hl => ?_)
  rw [ntmps32, results32]
  unfold code32 r32_0
  refine CW_seq_reg ?_
  refine run_XW [] 1 (ps := []) ?_ ap_nil ?_
  · kernel_rfl
  refine XW_end (ts := [0]) (dv := []) (ka := []) (st' := ⟨5, [(0, .int .i64 a0)], [], []⟩) ?_ ?_ ?_
  · kernel_rfl
  · kernel_rfl
  refine CW_seq_reg ?_
  refine runC_XW (fz := []) (n := 1) (st' := ⟨5, [(3, .int .i64 a0), (0, .int .i64 a0)], [], []⟩) (ps := []) ?_ ap_nil ?_
  · kernel_rfl
  refine callC_XW (i := ⟨none, 29, [.one (.int .i64 a0), .one (.int .i64 1), .one (.int .i64 999)], true, (some 4), []⟩) (rs := [.one (.bool (r29_0 a0 1 999))]) ?_ ap_nil (sem29 a0 1 999) rfl ?_
  · kernel_rfl
  refine run_XW [] 1 (ps := []) ?_ ap_nil ?_
  · kernel_rfl
  refine XW_end (ts := [2]) (dv := []) (ka := []) (st' := ⟨5, [(2, .bool (r29_0 a0 1 999))], [], []⟩) ?_ ?_ ?_
  · kernel_rfl
  · kernel_rfl
  refine CW_ret ?_
  refine endW_ret ?_; kernel_rfl
/-! loop.example/g00222/impl.isName -/
def code38 : SC :=
  (SC.seq (SC.reg false [
    ⟨(some 2), (.assign (.const (.bool false))), 4, none⟩])
  (SC.seq (SC.reg false [
    ⟨(some 3), (.move (.tmp 0)), 2, none⟩,
    ⟨(some 4), (.call ⟨(.value (.func 36)), #[(.tmp 3), (.const (.int .i64 1)), (.const (.int .i64 999))], #[2, 2, 2]⟩), 4, none⟩,
    ⟨(some 2), (.assign (.tmp 4)), 4, none⟩])
  SC.ret))
theorem sc38 : f38.body.bind stripC = some code38 := by kernel_rfl
def r38_0 (a0 : Int) : Bool := (r36_0 a0 1 999)
theorem sem38 (a0 : Int)  : SemR prog 38 [.one (.int .i64 a0)] [.one (.bool (r38_0 a0))] := by
  refine SemR.of_code' func38 sc38 (by rw [ntmps38]; exact Nat.le_of_ble_eq_true rfl) (fun hl => ?_)
  rw [ntmps38, results38]
  unfold code38 r38_0
  refine CW_seq_reg ?_
  refine run_XW [] 1 (ps := []) ?_ ap_nil ?_
  · kernel_rfl
  refine XW_end (ts := [0]) (dv := []) (ka := []) (st' := ⟨5, [(0, .int .i64 a0)], [], []⟩) ?_ ?_ ?_
  · kernel_rfl
  · kernel_rfl
  refine CW_seq_reg ?_
  refine runC_XW (fz := []) (n := 1) (st' := ⟨5, [(3, .int .i64 a0), (0, .int .i64 a0)], [], []⟩) (ps := []) ?_ ap_nil ?_
  · kernel_rfl
  refine callC_XW (i := ⟨none, 36, [.one (.int .i64 a0), .one (.int .i64 1), .one (.int .i64 999)], true, (some 4), []⟩) (rs := [.one (.bool (r36_0 a0 1 999))]) ?_ ap_nil (sem36 a0 1 999) rfl ?_
  · kernel_rfl
  refine run_XW [] 1 (ps := []) ?_ ap_nil ?_
  · kernel_rfl
  refine XW_end (ts := [2]) (dv := []) (ka := []) (st' := ⟨5, [(2, .bool (r36_0 a0 1 999))], [], []⟩) ?_ ?_ ?_
  · kernel_rfl
  · kernel_rfl
  refine CW_ret ?_
  refine endW_ret ?_; kernel_rfl
/-! loop.example/g00222/spec.l2Address -/
def code33 : SC :=
  (SC.seq (SC.reg false [
    ⟨(some 2), (.assign (.const (.bool false))), 4, none⟩])
  (SC.seq (SC.reg false [
    ⟨(some 3), (.move (.tmp 0)), 2, none⟩,
    ⟨(some 4), (.call ⟨(.value (.func 29)), #[(.tmp 3), (.const (.int .i64 0)), (.const (.int .i64 4294967295))], #[2, 2, 2]⟩), 4, none⟩,
    ⟨(some 2), (.assign (.tmp 4)), 4, none⟩])
  SC.ret))
theorem sc33 : f33.body.bind stripC = some code33 := by kernel_rfl
def r33_0 (a0 : Int) : Bool := (r29_0 a0 0 4294967295)
theorem sem33 (a0 : Int)  : SemR prog 33 [.one (.int .i64 a0)] [.one (.bool (r33_0 a0))] := by
  refine SemR.of_code' func33 sc33 (by rw [ntmps33]; exact Nat.le_of_ble_eq_true rfl) (fun hl => ?_)
  rw [ntmps33, results33]
  unfold code33 r33_0
  refine CW_seq_reg ?_
  refine run_XW [] 1 (ps := []) ?_ ap_nil ?_
  · kernel_rfl
  refine XW_end (ts := [0]) (dv := []) (ka := []) (st' := ⟨5, [(0, .int .i64 a0)], [], []⟩) ?_ ?_ ?_
  · kernel_rfl
  · kernel_rfl
  refine CW_seq_reg ?_
  refine runC_XW (fz := []) (n := 1) (st' := ⟨5, [(3, .int .i64 a0), (0, .int .i64 a0)], [], []⟩) (ps := []) ?_ ap_nil ?_
  · kernel_rfl
  refine callC_XW (i := ⟨none, 29, [.one (.int .i64 a0), .one (.int .i64 0), .one (.int .i64 4294967295)], true, (some 4), []⟩) (rs := [.one (.bool (r29_0 a0 0 4294967295))]) ?_ ap_nil (sem29 a0 0 4294967295) rfl ?_
  · kernel_rfl
  refine run_XW [] 1 (ps := []) ?_ ap_nil ?_
  · kernel_rfl
  refine XW_end (ts := [2]) (dv := []) (ka := []) (st' := ⟨5, [(2, .bool (r29_0 a0 0 4294967295))], [], []⟩) ?_ ?_ ?_
  · kernel_rfl
  · kernel_rfl
  refine CW_ret ?_
  refine endW_ret ?_; kernel_rfl
/-! loop.example/g00222/impl.isAddress -/
def code39 : SC :=
  (SC.seq (SC.reg false [
    ⟨(some 2), (.assign (.const (.bool false))), 4, none⟩])
  (SC.seq (SC.reg false [
    ⟨(some 3), (.move (.tmp 0)), 2, none⟩,
    ⟨(some 4), (.call ⟨(.value (.func 36)), #[(.tmp 3), (.const (.int .i64 0)), (.const (.int .i64 4294967295))], #[2, 2, 2]⟩), 4, none⟩,
    ⟨(some 2), (.assign (.tmp 4)), 4, none⟩])
  SC.ret))
theorem sc39 : f39.body.bind stripC = some code39 := by kernel_rfl
def r39_0 (a0 : Int) : Bool := (r36_0 a0 0 4294967295)
theorem sem39 (a0 : Int)  : SemR prog 39 [.one (.int .i64 a0)] [.one (.bool (r39_0 a0))] := by
  refine SemR.of_code' func39 sc39 (by rw [ntmps39]; exact Nat.le_of_ble_eq_true rfl) (fun hl => ?_)
  rw [ntmps39, results39]
  unfold code39 r39_0
  refine CW_seq_reg ?_
  refine run_XW [] 1 (ps := []) ?_ ap_nil ?_
  · kernel_rfl
  refine XW_end (ts := [0]) (dv := []) (ka := []) (st' := ⟨5, [(0, .int .i64 a0)], [], []⟩) ?_ ?_ ?_
  · kernel_rfl
  · kernel_rfl
  refine CW_seq_reg ?_
  refine runC_XW (fz := []) (n := 1) (st' := ⟨5, [(3, .int .i64 a0), (0, .int .i64 a0)], [], []⟩) (ps := []) ?_ ap_nil ?_
  · kernel_rfl
  refine callC_XW (i := ⟨none, 36, [.one (.int .i64 a0), .one (.int .i64 0), .one (.int .i64 4294967295)], true, (some 4), []⟩) (rs := [.one (.bool (r36_0 a0 0 4294967295))]) ?_ ap_nil (sem36 a0 0 4294967295) rfl ?_
  · kernel_rfl
  refine run_XW [] 1 (ps := []) ?_ ap_nil ?_
  · kernel_rfl
  refine XW_end (ts := [2]) (dv := []) (ka := []) (st' := ⟨5, [(2, .bool (r36_0 a0 0 4294967295))], [], []⟩) ?_ ?_ ?_
  · kernel_rfl
  · kernel_rfl
  refine CW_ret ?_
  refine endW_ret ?_; kernel_rfl
/-! loop.example/g00222/spec.l5Version -/
def code31 : SC :=
  (SC.seq (SC.reg false [
    ⟨(some 2), (.assign (.const (.bool false))), 4, none⟩])
  (SC.seq (SC.reg false [
    ⟨(some 3), (.move (.tmp 0)), 2, none⟩,
    ⟨(some 4), (.call ⟨(.value (.func 29)), #[(.tmp 3), (.const (.int .i64 0)), (.const (.int .i64 1000000))], #[2, 2, 2]⟩), 4, none⟩,
    ⟨(some 2), (.assign (.tmp 4)), 4, none⟩])
  SC.ret))
theorem sc31 : f31.body.bind stripC = some code31 := by kernel_rfl
def r31_0 (a0 : Int) : Bool := (r29_0 a0 0 1000000)
theorem sem31 (a0 : Int)  : SemR prog 31 [.one (.int .i64 a0)] [.one (.bool (r31_0 a0))] := by
  refine SemR.of_code' func31 sc31 (by rw [ntmps31]; exact Nat.le_of_ble_eq_true rfl) (fun hl => ?_)
  rw [ntmps31, results31]
  unfold code31 r31_0
  refine CW_seq_reg ?_
  refine run_XW [] 1 (ps := []) ?_ ap_nil ?_
  · kernel_rfl
  refine XW_end (ts := [0]) (dv := []) (ka := []) (st' := ⟨5, [(0, .int .i64 a0)], [], []⟩) ?_ ?_ ?_
  · kernel_rfl
  · kernel_rfl
  refine CW_seq_reg ?_
  refine runC_XW (fz := []) (n := 1) (st' := ⟨5, [(3, .int .i64 a0), (0, .int .i64 a0)], [], []⟩) (ps := []) ?_ ap_nil ?_
  · kernel_rfl
  refine callC_XW (i := ⟨none, 29, [.one (.int .i64 a0), .one (.int .i64 0), .one (.int .i64 1000000)], true, (some 4), []⟩) (rs := [.one (.bool (r29_0 a0 0 1000000))]) ?_ ap_nil (sem29 a0 0 1000000) rfl ?_
  · kernel_rfl
  refine run_XW [] 1 (ps := []) ?_ ap_nil ?_
  · kernel_rfl
  refine XW_end (ts := [2]) (dv := []) (ka := []) (st' := ⟨5, [(2, .bool (r29_0 a0 0 1000000))], [], []⟩) ?_ ?_ ?_
  · kernel_rfl
  · kernel_rfl
  refine CW_ret ?_
  refine endW_ret ?_; kernel_rfl
/-! loop.example/g00222/spec.l2Port -/
def code45 : SC :=
  (SC.seq (SC.reg false [
    ⟨(some 2), (.assign (.const (.bool false))), 4, none⟩])
  (SC.seq (SC.reg false [
    ⟨(some 3), (.move (.tmp 0)), 2, none⟩,
    ⟨(some 4), (.call ⟨(.value (.func 29)), #[(.tmp 3), (.const (.int .i64 0)), (.const (.int .i64 65535))], #[2, 2, 2]⟩), 4, none⟩,
    ⟨(some 2), (.assign (.tmp 4)), 4, none⟩])
  SC.ret))
theorem sc45 : f45.body.bind stripC = some code45 := by kernel_rfl
def r45_0 (a0 : Int) : Bool := (r29_0 a0 0 65535)
theorem sem45 (a0 : Int)  : SemR prog 45 [.one (.int .i64 a0)] [.one (.bool (r45_0 a0))] := by
  refine SemR.of_code' func45 sc45 (by rw [ntmps45]; exact Nat.le_of_ble_eq_true rfl) (fun hl => ?_)
  rw [ntmps45, results45]
  unfold code45 r45_0
  refine CW_seq_reg ?_
  refine run_XW [] 1 (ps := []) ?_ ap_nil ?_
  · kernel_rfl
  refine XW_end (ts := [0]) (dv := []) (ka := []) (st' := ⟨5, [(0, .int .i64 a0)], [], []⟩) ?_ ?_ ?_
  · kernel_rfl
  · kernel_rfl
  refine CW_seq_reg ?_
  refine runC_XW (fz := []) (n := 1) (st' := ⟨5, [(3, .int .i64 a0), (0, .int .i64 a0)], [], []⟩) (ps := []) ?_ ap_nil ?_
  · kernel_rfl
  refine callC_XW (i := ⟨none, 29, [.one (.int .i64 a0), .one (.int .i64 0), .one (.int .i64 65535)], true, (some 4), []⟩) (rs := [.one (.bool (r29_0 a0 0 65535))]) ?_ ap_nil (sem29 a0 0 65535) rfl ?_
  · kernel_rfl
  refine run_XW [] 1 (ps := []) ?_ ap_nil ?_
  · kernel_rfl
  refine XW_end (ts := [2]) (dv := []) (ka := []) (st' := ⟨5, [(2, .bool (r29_0 a0 0 65535))], [], []⟩) ?_ ?_ ?_
  · kernel_rfl
  · kernel_rfl
  refine CW_ret ?_
  refine endW_ret ?_; kernel_rfl
/-! loop.example/g00222/impl.isPort -/
def code46 : SC :=
  (SC.seq (SC.reg false [
    ⟨(some 2), (.assign (.const (.bool false))), 4, none⟩])
  (SC.seq (SC.reg false [
    ⟨(some 3), (.move (.tmp 0)), 2, none⟩,
    ⟨(some 4), (.call ⟨(.value (.func 36)), #[(.tmp 3), (.const (.int .i64 0)), (.const (.int .i64 65535))], #[2, 2, 2]⟩), 4, none⟩,
    ⟨(some 2), (.assign (.tmp 4)), 4, none⟩])
  SC.ret))
theorem sc46 : f46.body.bind stripC = some code46 := by kernel_rfl
def r46_0 (a0 : Int) : Bool := (r36_0 a0 0 65535)
theorem sem46 (a0 : Int)  : SemR prog 46 [.one (.int .i64 a0)] [.one (.bool (r46_0 a0))] := by
  refine SemR.of_code' func46 sc46 (by rw [ntmps46]; exact Nat.le_of_ble_eq_true rfl) (fun hl => ?_)
  rw [ntmps46, results46]
  unfold code46 r46_0
  refine CW_seq_reg ?_
  refine run_XW [] 1 (ps := []) ?_ ap_nil ?_
  · kernel_rfl
  refine XW_end (ts := [0]) (dv := []) (ka := []) (st' := ⟨5, [(0, .int .i64 a0)], [], []⟩) ?_ ?_ ?_
  · kernel_rfl
  · kernel_rfl
  refine CW_seq_reg ?_
  refine runC_XW (fz := []) (n := 1) (st' := ⟨5, [(3, .int .i64 a0), (0, .int .i64 a0)], [], []⟩) (ps := []) ?_ ap_nil ?_
  · kernel_rfl
  refine callC_XW (i := ⟨none, 36, [.one (.int .i64 a0), .one (.int .i64 0), .one (.int .i64 65535)], true, (some 4), []⟩) (rs := [.one (.bool (r36_0 a0 0 65535))]) ?_ ap_nil (sem36 a0 0 65535) rfl ?_
  · kernel_rfl
  refine run_XW [] 1 (ps := []) ?_ ap_nil ?_
  · kernel_rfl
  refine XW_end (ts := [2]) (dv := []) (ka := []) (st' := ⟨5, [(2, .bool (r36_0 a0 0 65535))], [], []⟩) ?_ ?_ ?_
  · kernel_rfl
  · kernel_rfl
  refine CW_ret ?_
  refine endW_ret ?_; kernel_rfl
/-! loop.example/g00222/spec.l5Proto -/
def code35 : SC :=
  (SC.seq (SC.reg false [
    ⟨(some 2), (.assign (.const (.bool false))), 4, none⟩])
  (SC.seq (SC.reg false [
    ⟨(some 3), (.move (.tmp 0)), 2, none⟩,
    ⟨(some 4), (.binOp .eql 2 (.tmp 3) (.const (.int .i64 6)) 2), 4, none⟩,
    ⟨(some 5), (.move (.tmp 4)), 4, none⟩,
    ⟨(some 6), (.move (.tmp 0)), 2, (some (5, false))⟩,
    ⟨(some 7), (.binOp .eql 2 (.tmp 6) (.const (.int .i64 17)) 2), 4, (some (5, false))⟩,
    ⟨(some 8), (.pick (.tmp 5) (.const (.bool true)) (.tmp 7)), 4, none⟩,
    ⟨(some 2), (.assign (.tmp 8)), 4, none⟩])
  SC.ret))
theorem sc35 : f35.body.bind stripC = some code35 := by kernel_rfl
def v35_0 (a0 : Int) : Bool := cond (a0 == 6) true (a0 == 17)
def r35_0 (a0 : Int) : Bool := (v35_0 a0)
theorem sem35 (a0 : Int)  : SemR prog 35 [.one (.int .i64 a0)] [.one (.bool (r35_0 a0))] := by
  refine SemR.of_code' func35 sc35 (by rw [ntmps35]; exact Nat.le_of_ble_eq_true rfl) (fun hl => ?_)
  rw [ntmps35, results35]
  unfold code35 r35_0
  refine CW_seq_reg ?_
  refine run_XW [] 1 (ps := []) ?_ ap_nil ?_
  · kernel_rfl
  refine XW_end (ts := [0]) (dv := []) (ka := []) (st' := ⟨9, [(0, .int .i64 a0)], [], []⟩) ?_ ?_ ?_
  · kernel_rfl
  · kernel_rfl
  refine CW_seq_reg ?_
  refine runC_XW (fz := []) (n := 5) (st' := ⟨9, [(7, .opt ((a0 == 6) == false) (.bool (a0 == 17))), (6, .opt ((a0 == 6) == false) (.int .i64 a0)), (5, .bool (a0 == 6)), (4, .bool (a0 == 6)), (3, .int .i64 a0), (0, .int .i64 a0)], [], []⟩) (ps := [(((a0 == 6) == false) = true → ((a0 == 6) == false) = true)]) ?_ (ap_cons (fun q0 => q0) ap_nil) ?_
  · kernel_rfl
  refine run_as [] (t := 8) (.bool (cond (a0 == 6) true (a0 == 17))) (x := .bool (cond (a0 == 6) true (a0 == 17))) (ps := [((a0 == 6) = false → ((a0 == 6) == false) = true)]) ?_ (ap_cons (fun q0 => (eq_i q0)) ap_nil) rfl ?_
  · kernel_rfl
  refine gen_b (fun b8_0 hb8_0 => ?_)
  replace hb8_0 : b8_0 = v35_0 a0 := by rw [hb8_0]; rfl
  refine run_XW [] 1 (ps := []) ?_ ap_nil ?_
  · kernel_rfl
  refine XW_end (ts := [2]) (dv := []) (ka := []) (st' := ⟨9, [(2, .bool b8_0)], [], []⟩) ?_ ?_ ?_
  · kernel_rfl
  · kernel_rfl
  refine CW_ret ?_
  rw [hb8_0]
  refine endW_ret ?_; kernel_rfl
/-! loop.example/g00222/impl.isProto -/
def code41 : SC :=
  (SC.seq (SC.reg false [
    ⟨(some 2), (.assign (.const (.bool false))), 4, none⟩])
  (SC.seq (SC.reg false [
    ⟨(some 3), (.move (.tmp 0)), 2, none⟩,
    ⟨(some 4), (.binOp .eql 2 (.tmp 3) (.const (.int .i64 6)) 2), 4, none⟩,
    ⟨(some 5), (.move (.tmp 4)), 4, none⟩,
    ⟨(some 6), (.move (.tmp 0)), 2, (some (5, false))⟩,
    ⟨(some 7), (.binOp .eql 2 (.tmp 6) (.const (.int .i64 17)) 2), 4, (some (5, false))⟩,
    ⟨(some 8), (.pick (.tmp 5) (.const (.bool true)) (.tmp 7)), 4, none⟩,
    ⟨(some 2), (.assign (.tmp 8)), 4, none⟩])
  SC.ret))
theorem sc41 : f41.body.bind stripC = some code41 := by kernel_rfl
def v41_0 (a0 : Int) : Bool := cond (a0 == 6) true (a0 == 17)
def r41_0 (a0 : Int) : Bool := (v41_0 a0)
theorem sem41 (a0 : Int)  : SemR prog 41 [.one (.int .i64 a0)] [.one (.bool (r41_0 a0))] := by
  refine SemR.of_code' func41 sc41 (by rw [ntmps41]; exact Nat.le_of_ble_eq_true rfl) (fun hl => ?_)
  rw [ntmps41, results41]
  unfold code41 r41_0
  refine CW_seq_reg ?_
  refine run_XW [] 1 (ps := []) ?_ ap_nil ?_
  · kernel_rfl
  refine XW_end (ts := [0]) (dv := []) (ka := []) (st' := ⟨9, [(0, .int .i64 a0)], [], []⟩) ?_ ?_ ?_
  · kernel_rfl
  · kernel_rfl
  refine CW_seq_reg ?_
  refine runC_XW (fz := []) (n := 5) (st' := ⟨9, [(7, .opt ((a0 == 6) == false) (.bool (a0 == 17))), (6, .opt ((a0 == 6) == false) (.int .i64 a0)), (5, .bool (a0 == 6)), (4, .bool (a0 == 6)), (3, .int .i64 a0), (0, .int .i64 a0)], [], []⟩) (ps := [(((a0 == 6) == false) = true → ((a0 == 6) == false) = true)]) ?_ (ap_cons (fun q0 => q0) ap_nil) ?_
  · kernel_rfl
  refine run_as [] (t := 8) (.bool (cond (a0 == 6) true (a0 == 17))) (x := .bool (cond (a0 == 6) true (a0 == 17))) (ps := [((a0 == 6) = false → ((a0 == 6) == false) = true)]) ?_ (ap_cons (fun q0 => (eq_i q0)) ap_nil) rfl ?_
  · kernel_rfl
  refine gen_b (fun b8_0 hb8_0 => ?_)
  replace hb8_0 : b8_0 = v41_0 a0 := by rw [hb8_0]; rfl
  refine run_XW [] 1 (ps := []) ?_ ap_nil ?_
  · kernel_rfl
  refine XW_end (ts := [2]) (dv := []) (ka := []) (st' := ⟨9, [(2, .bool b8_0)], [], []⟩) ?_ ?_ ?_
  · kernel_rfl
  · kernel_rfl
  refine CW_ret ?_
  rw [hb8_0]
  refine endW_ret ?_; kernel_rfl
/-! loop.example/g00222/spec.l5Needs -/
def code30 : SC :=
  (SC.seq (SC.reg false [
    ⟨(some 2), (.assign (.const (.bool false))), 4, none⟩,
    ⟨(some 3), (.assign (.const (.bool false))), 4, none⟩,
    ⟨(some 4), (.assign (.const (.bool false))), 4, none⟩,
    ⟨(some 5), (.assign (.const (.bool false))), 4, none⟩])
  (SC.seq (SC.reg false [
    ⟨(some 7), (.move (.tmp 0)), 2, none⟩,
    ⟨(some 8), (.call ⟨(.value (.func 29)), #[(.tmp 7), (.const (.int .i64 5)), (.const (.int .i64 8))], #[2, 2, 2]⟩), 4, none⟩,
    ⟨(some 6), (.assign (.tmp 8)), 4, none⟩])
  (SC.seq (SC.reg false [
    ⟨(some 9), (.move (.tmp 0)), 2, none⟩,
    ⟨(some 10), (.binOp .neq 2 (.tmp 9) (.const (.int .i64 5)) 2), 4, none⟩,
    ⟨(some 11), (.move (.tmp 10)), 4, none⟩,
    ⟨(some 12), (.move (.tmp 0)), 2, (some (11, true))⟩,
    ⟨(some 13), (.binOp .neq 2 (.tmp 12) (.const (.int .i64 6)) 2), 4, (some (11, true))⟩,
    ⟨(some 14), (.pick (.tmp 11) (.tmp 13) (.const (.bool false))), 4, none⟩,
    ⟨(some 15), (.move (.tmp 0)), 2, none⟩,
    ⟨(some 16), (.binOp .eql 2 (.tmp 15) (.const (.int .i64 1)) 2), 4, none⟩,
    ⟨(some 17), (.move (.tmp 16)), 4, none⟩,
    ⟨(some 18), (.move (.tmp 6)), 4, (some (17, false))⟩,
    ⟨(some 19), (.pick (.tmp 17) (.const (.bool true)) (.tmp 18)), 4, none⟩,
    ⟨(some 20), (.move (.tmp 0)), 2, none⟩,
    ⟨(some 21), (.binOp .neq 2 (.tmp 20) (.const (.int .i64 4)) 2), 4, none⟩,
    ⟨(some 22), (.move (.tmp 6)), 4, none⟩,
    ⟨(some 2), (.assign (.tmp 14)), 4, none⟩,
    ⟨(some 3), (.assign (.tmp 19)), 4, none⟩,
    ⟨(some 4), (.assign (.tmp 21)), 4, none⟩,
    ⟨(some 5), (.assign (.tmp 22)), 4, none⟩])
  SC.ret)))
theorem sc30 : f30.body.bind stripC = some code30 := by kernel_rfl
def v30_0 (a0 : Int) : Bool := cond (a0 != 5) (a0 != 6) false
def v30_1 (a0 : Int) : Bool := cond (a0 == 1) true (r29_0 a0 5 8)
def r30_0 (a0 : Int) : Bool := (v30_0 a0)
def r30_1 (a0 : Int) : Bool := (v30_1 a0)
def r30_2 (a0 : Int) : Bool := (a0 != 4)
def r30_3 (a0 : Int) : Bool := (r29_0 a0 5 8)
theorem sem30 (a0 : Int)  : SemR prog 30 [.one (.int .i64 a0)] [.one (.bool (r30_0 a0)), .one (.bool (r30_1 a0)), .one (.bool (r30_2 a0)), .one (.bool (r30_3 a0))] := by
  refine SemR.of_code' func30 sc30 (by rw [ntmps30]; exact Nat.le_of_ble_eq_true rfl) (fun hl => ?_)
  rw [ntmps30, results30]
  unfold code30 r30_0 r30_1 r30_2 r30_3
  refine CW_seq_reg ?_
  refine run_XW [] 4 (ps := []) ?_ ap_nil ?_
  · kernel_rfl
  refine XW_end (ts := [0]) (dv := []) (ka := []) (st' := ⟨23, [(0, .int .i64 a0)], [], []⟩) ?_ ?_ ?_
  · kernel_rfl
  · kernel_rfl
  refine CW_seq_reg ?_
  refine runC_XW (fz := []) (n := 1) (st' := ⟨23, [(7, .int .i64 a0), (0, .int .i64 a0)], [], []⟩) (ps := []) ?_ ap_nil ?_
  · kernel_rfl
  refine callC_XW (i := ⟨none, 29, [.one (.int .i64 a0), .one (.int .i64 5), .one (.int .i64 8)], true, (some 8), []⟩) (rs := [.one (.bool (r29_0 a0 5 8))]) ?_ ap_nil (sem29 a0 5 8) rfl ?_
  · kernel_rfl
  refine run_XW [] 1 (ps := []) ?_ ap_nil ?_
  · kernel_rfl
  refine XW_end (ts := [0, 6]) (dv := []) (ka := []) (st' := ⟨23, [(0, .int .i64 a0), (6, .bool (r29_0 a0 5 8))], [], []⟩) ?_ ?_ ?_
  · kernel_rfl
  · kernel_rfl
  refine CW_seq_reg ?_
  refine runC_XW (fz := []) (n := 5) (st' := ⟨23, [(13, .opt ((a0 != 5) == true) (.bool (a0 != 6))), (12, .opt ((a0 != 5) == true) (.int .i64 a0)), (11, .bool (a0 != 5)), (10, .bool (a0 != 5)), (9, .int .i64 a0), (0, .int .i64 a0), (6, .bool (r29_0 a0 5 8))], [], []⟩) (ps := [(((a0 != 5) == true) = true → ((a0 != 5) == true) = true)]) ?_ (ap_cons (fun q0 => q0) ap_nil) ?_
  · kernel_rfl
  refine run_as [] (t := 14) (.bool (cond (a0 != 5) (a0 != 6) false)) (x := .bool (cond (a0 != 5) (a0 != 6) false)) (ps := [((a0 != 5) = true → ((a0 != 5) == true) = true)]) ?_ (ap_cons (fun q0 => (eq_i q0)) ap_nil) rfl ?_
  · kernel_rfl
  refine gen_b (fun b14_0 hb14_0 => ?_)
  replace hb14_0 : b14_0 = v30_0 a0 := by rw [hb14_0]; rfl
  refine runC_XW (fz := []) (n := 4) (st' := ⟨23, [(18, .opt ((a0 == 1) == false) (.bool (r29_0 a0 5 8))), (17, .bool (a0 == 1)), (16, .bool (a0 == 1)), (15, .int .i64 a0), (14, .bool b14_0), (13, .opt ((a0 != 5) == true) (.bool (a0 != 6))), (12, .opt ((a0 != 5) == true) (.int .i64 a0)), (11, .bool (a0 != 5)), (10, .bool (a0 != 5)), (9, .int .i64 a0), (0, .int .i64 a0), (6, .bool (r29_0 a0 5 8))], [], []⟩) (ps := []) ?_ ap_nil ?_
  · kernel_rfl
  refine run_as [] (t := 19) (.bool (cond (a0 == 1) true (r29_0 a0 5 8))) (x := .bool (cond (a0 == 1) true (r29_0 a0 5 8))) (ps := [((a0 == 1) = false → ((a0 == 1) == false) = true)]) ?_ (ap_cons (fun q0 => (eq_i q0)) ap_nil) rfl ?_
  · kernel_rfl
  refine gen_b (fun b19_1 hb19_1 => ?_)
  replace hb19_1 : b19_1 = v30_1 a0 := by rw [hb19_1]; rfl
  refine run_XW [] 7 (ps := []) ?_ ap_nil ?_
  · kernel_rfl
  refine XW_end (ts := [2, 3, 4, 5]) (dv := []) (ka := []) (st' := ⟨23, [(2, .bool b14_0), (3, .bool b19_1), (4, .bool (a0 != 4)), (5, .bool (r29_0 a0 5 8))], [], []⟩) ?_ ?_ ?_
  · kernel_rfl
  · kernel_rfl
  refine CW_ret ?_
  rw [hb14_0, hb19_1]
  refine endW_ret ?_; kernel_rfl
/-! loop.example/g00222/impl.needs -/
def code37 : SC :=
  (SC.seq (SC.reg false [
    ⟨(some 2), (.assign (.const (.bool false))), 4, none⟩,
    ⟨(some 3), (.assign (.const (.bool false))), 4, none⟩,
    ⟨(some 4), (.assign (.const (.bool false))), 4, none⟩,
    ⟨(some 5), (.assign (.const (.bool false))), 4, none⟩])
  (SC.seq (SC.reg false [
    ⟨(some 7), (.move (.tmp 0)), 2, none⟩,
    ⟨(some 8), (.call ⟨(.value (.func 36)), #[(.tmp 7), (.const (.int .i64 5)), (.const (.int .i64 8))], #[2, 2, 2]⟩), 4, none⟩,
    ⟨(some 6), (.assign (.tmp 8)), 4, none⟩])
  (SC.seq (SC.reg false [
    ⟨(some 9), (.move (.tmp 0)), 2, none⟩,
    ⟨(some 10), (.call ⟨(.value (.func 36)), #[(.tmp 9), (.const (.int .i64 5)), (.const (.int .i64 6))], #[2, 2, 2]⟩), 4, none⟩,
    ⟨(some 11), (.unOp .not 4 (.tmp 10)), 4, none⟩,
    ⟨(some 12), (.move (.tmp 0)), 2, none⟩,
    ⟨(some 13), (.binOp .eql 2 (.tmp 12) (.const (.int .i64 1)) 2), 4, none⟩,
    ⟨(some 14), (.move (.tmp 13)), 4, none⟩,
    ⟨(some 15), (.move (.tmp 6)), 4, (some (14, false))⟩,
    ⟨(some 16), (.pick (.tmp 14) (.const (.bool true)) (.tmp 15)), 4, none⟩,
    ⟨(some 17), (.move (.tmp 0)), 2, none⟩,
    ⟨(some 18), (.binOp .neq 2 (.tmp 17) (.const (.int .i64 4)) 2), 4, none⟩,
    ⟨(some 19), (.move (.tmp 6)), 4, none⟩,
    ⟨(some 2), (.assign (.tmp 11)), 4, none⟩,
    ⟨(some 3), (.assign (.tmp 16)), 4, none⟩,
    ⟨(some 4), (.assign (.tmp 18)), 4, none⟩,
    ⟨(some 5), (.assign (.tmp 19)), 4, none⟩])
  SC.ret)))
theorem sc37 : f37.body.bind stripC = some code37 := by kernel_rfl
def v37_0 (a0 : Int) : Bool := cond (a0 == 1) true (r36_0 a0 5 8)
def r37_0 (a0 : Int) : Bool := (!(r36_0 a0 5 6))
def r37_1 (a0 : Int) : Bool := (v37_0 a0)
def r37_2 (a0 : Int) : Bool := (a0 != 4)
def r37_3 (a0 : Int) : Bool := (r36_0 a0 5 8)
theorem sem37 (a0 : Int)  : SemR prog 37 [.one (.int .i64 a0)] [.one (.bool (r37_0 a0)), .one (.bool (r37_1 a0)), .one (.bool (r37_2 a0)), .one (.bool (r37_3 a0))] := by
  refine SemR.of_code' func37 sc37 (by rw [ntmps37]; exact Nat.le_of_ble_eq_true rfl) (fun hl => ?_)
  rw [ntmps37, results37]
  unfold code37 r37_0 r37_1 r37_2 r37_3
  refine CW_seq_reg ?_
  refine run_XW [] 4 (ps := []) ?_ ap_nil ?_
  · kernel_rfl
  refine XW_end (ts := [0]) (dv := []) (ka := []) (st' := ⟨20, [(0, .int .i64 a0)], [], []⟩) ?_ ?_ ?_
  · kernel_rfl
  · kernel_rfl
  refine CW_seq_reg ?_
  refine runC_XW (fz := []) (n := 1) (st' := ⟨20, [(7, .int .i64 a0), (0, .int .i64 a0)], [], []⟩) (ps := []) ?_ ap_nil ?_
  · kernel_rfl
  refine callC_XW (i := ⟨none, 36, [.one (.int .i64 a0), .one (.int .i64 5), .one (.int .i64 8)], true, (some 8), []⟩) (rs := [.one (.bool (r36_0 a0 5 8))]) ?_ ap_nil (sem36 a0 5 8) rfl ?_
  · kernel_rfl
  refine run_XW [] 1 (ps := []) ?_ ap_nil ?_
  · kernel_rfl
  refine XW_end (ts := [0, 6]) (dv := []) (ka := []) (st' := ⟨20, [(0, .int .i64 a0), (6, .bool (r36_0 a0 5 8))], [], []⟩) ?_ ?_ ?_
  · kernel_rfl
  · kernel_rfl
  refine CW_seq_reg ?_
  refine runC_XW (fz := []) (n := 1) (st' := ⟨20, [(9, .int .i64 a0), (0, .int .i64 a0), (6, .bool (r36_0 a0 5 8))], [], []⟩) (ps := []) ?_ ap_nil ?_
  · kernel_rfl
  refine callC_XW (i := ⟨none, 36, [.one (.int .i64 a0), .one (.int .i64 5), .one (.int .i64 6)], true, (some 10), []⟩) (rs := [.one (.bool (r36_0 a0 5 6))]) ?_ ap_nil (sem36 a0 5 6) rfl ?_
  · kernel_rfl
  refine runC_XW (fz := []) (n := 5) (st' := ⟨20, [(15, .opt ((a0 == 1) == false) (.bool (r36_0 a0 5 8))), (14, .bool (a0 == 1)), (13, .bool (a0 == 1)), (12, .int .i64 a0), (11, .bool (!(r36_0 a0 5 6))), (10, .bool (r36_0 a0 5 6)), (9, .int .i64 a0), (0, .int .i64 a0), (6, .bool (r36_0 a0 5 8))], [], []⟩) (ps := []) ?_ ap_nil ?_
  · kernel_rfl
  refine run_as [] (t := 16) (.bool (cond (a0 == 1) true (r36_0 a0 5 8))) (x := .bool (cond (a0 == 1) true (r36_0 a0 5 8))) (ps := [((a0 == 1) = false → ((a0 == 1) == false) = true)]) ?_ (ap_cons (fun q0 => (eq_i q0)) ap_nil) rfl ?_
  · kernel_rfl
  refine gen_b (fun b16_0 hb16_0 => ?_)
  replace hb16_0 : b16_0 = v37_0 a0 := by rw [hb16_0]; rfl
  refine run_XW [] 7 (ps := []) ?_ ap_nil ?_
  · kernel_rfl
  refine XW_end (ts := [2, 3, 4, 5]) (dv := []) (ka := []) (st' := ⟨20, [(2, .bool (!(r36_0 a0 5 6))), (3, .bool b16_0), (4, .bool (a0 != 4)), (5, .bool (r36_0 a0 5 8))], [], []⟩) ?_ ?_ ?_
  · kernel_rfl
  · kernel_rfl
  refine CW_ret ?_
  rw [hb16_0]
  refine endW_ret ?_; kernel_rfl
/-! loop.example/g00222/laws.toCmd -/
def code11 : SC :=
  (SC.seq (SC.reg false [
    ⟨(some 1), (.box 30 (.tmp 0)), 0, none⟩,
    ⟨(some 2), (.alloc 34), 0, none⟩])
  (SC.seq (SC.reg false [
    ⟨(some 3), (.alloc 34), 0, none⟩])
  (SC.seq (SC.reg false [
    ⟨(some 4), (.fieldAddr 30 (.tmp 1) 0), 0, none⟩,
    ⟨(some 5), (.load 2 (.tmp 4)), 2, none⟩,
    ⟨(some 6), (.fieldAddr 34 (.tmp 3) 0), 0, none⟩,
    ⟨none, (.store 2 (.tmp 6) (.tmp 5)), 0, none⟩])
  (SC.seq (SC.reg false [
    ⟨(some 7), (.fieldAddr 30 (.tmp 1) 1), 0, none⟩,
    ⟨(some 8), (.load 2 (.tmp 7)), 2, none⟩,
    ⟨(some 9), (.fieldAddr 34 (.tmp 3) 1), 0, none⟩,
    ⟨none, (.store 2 (.tmp 9) (.tmp 8)), 0, none⟩])
  (SC.seq (SC.reg false [
    ⟨(some 10), (.fieldAddr 30 (.tmp 1) 2), 0, none⟩,
    ⟨(some 11), (.load 2 (.tmp 10)), 2, none⟩,
    ⟨(some 12), (.fieldAddr 34 (.tmp 3) 2), 0, none⟩,
    ⟨none, (.store 2 (.tmp 12) (.tmp 11)), 0, none⟩])
  (SC.seq (SC.reg false [
    ⟨(some 13), (.fieldAddr 30 (.tmp 1) 3), 0, none⟩,
    ⟨(some 14), (.load 2 (.tmp 13)), 2, none⟩,
    ⟨(some 15), (.fieldAddr 34 (.tmp 3) 3), 0, none⟩,
    ⟨none, (.store 2 (.tmp 15) (.tmp 14)), 0, none⟩])
  (SC.seq (SC.reg false [
    ⟨(some 16), (.fieldAddr 30 (.tmp 1) 4), 0, none⟩,
    ⟨(some 17), (.load 2 (.tmp 16)), 2, none⟩,
    ⟨(some 18), (.fieldAddr 34 (.tmp 3) 4), 0, none⟩,
    ⟨none, (.store 2 (.tmp 18) (.tmp 17)), 0, none⟩])
  (SC.seq (SC.reg false [
    ⟨(some 19), (.fieldAddr 30 (.tmp 1) 5), 0, none⟩,
    ⟨(some 20), (.load 2 (.tmp 19)), 2, none⟩,
    ⟨(some 21), (.fieldAddr 34 (.tmp 3) 5), 0, none⟩,
    ⟨none, (.store 2 (.tmp 21) (.tmp 20)), 0, none⟩])
  (SC.seq (SC.reg false [
    ⟨(some 22), (.load 34 (.tmp 3)), 34, none⟩,
    ⟨none, (.store 34 (.tmp 2) (.tmp 22)), 0, none⟩])
  SC.ret)))))))))
theorem sc11 : f11.body.bind stripC = some code11 := by kernel_rfl
theorem sem11 (a0 : Int) (a1 : Int) (a2 : Int) (a3 : Int) (a4 : Int) (a5 : Int)  : SemR prog 11 [.agg [.int .i64 a0, .int .i64 a1, .int .i64 a2, .int .i64 a3, .int .i64 a4, .int .i64 a5]] [.agg [.int .i64 a0, .int .i64 a1, .int .i64 a2, .int .i64 a3, .int .i64 a4, .int .i64 a5]] := by
  refine SemR.of_code' func11 sc11 (by rw [ntmps11]; exact Nat.le_of_ble_eq_true rfl) (fun hl => ?_)
  rw [ntmps11, results11]
  unfold code11
  refine CW_seq_reg ?_
  refine run_XW [] 2 (ps := []) ?_ ap_nil ?_
  · kernel_rfl
  refine XW_end (ts := [1, 2]) (dv := [[1], [2]]) (ka := []) (st' := ⟨23, [(1, .vptr [1] 0), (2, .vptr [2] 0)], [([1], [.int .i64 a0, .int .i64 a1, .int .i64 a2, .int .i64 a3, .int .i64 a4, .int .i64 a5]), ([2], [.int .i64 0, .int .i64 0, .int .i64 0, .int .i64 0, .int .i64 0, .int .i64 0])], []⟩) ?_ ?_ ?_
  · kernel_rfl
  · kernel_rfl
  refine CW_seq_reg ?_
  refine run_XW [] 1 (ps := []) ?_ ap_nil ?_
  · kernel_rfl
  refine XW_end (ts := [1, 2, 3]) (dv := [[1], [2], [3]]) (ka := []) (st' := ⟨23, [(1, .vptr [1] 0), (2, .vptr [2] 0), (3, .vptr [3] 0)], [([1], [.int .i64 a0, .int .i64 a1, .int .i64 a2, .int .i64 a3, .int .i64 a4, .int .i64 a5]), ([2], [.int .i64 0, .int .i64 0, .int .i64 0, .int .i64 0, .int .i64 0, .int .i64 0]), ([3], [.int .i64 0, .int .i64 0, .int .i64 0, .int .i64 0, .int .i64 0, .int .i64 0])], []⟩) ?_ ?_ ?_
  · kernel_rfl
  · kernel_rfl
  refine CW_seq_reg ?_
  refine run_XW [] 4 (ps := []) ?_ ap_nil ?_
  · kernel_rfl
  refine XW_end (ts := [1, 2, 3]) (dv := [[1], [2], [3]]) (ka := []) (st' := ⟨23, [(1, .vptr [1] 0), (2, .vptr [2] 0), (3, .vptr [3] 0)], [([1], [.int .i64 a0, .int .i64 a1, .int .i64 a2, .int .i64 a3, .int .i64 a4, .int .i64 a5]), ([2], [.int .i64 0, .int .i64 0, .int .i64 0, .int .i64 0, .int .i64 0, .int .i64 0]), ([3], [.int .i64 a0, .int .i64 0, .int .i64 0, .int .i64 0, .int .i64 0, .int .i64 0])], []⟩) ?_ ?_ ?_
  · kernel_rfl
  · kernel_rfl
  refine CW_seq_reg ?_
  refine run_XW [] 4 (ps := []) ?_ ap_nil ?_
  · kernel_rfl
  refine XW_end (ts := [1, 2, 3]) (dv := [[1], [2], [3]]) (ka := []) (st' := ⟨23, [(1, .vptr [1] 0), (2, .vptr [2] 0), (3, .vptr [3] 0)], [([1], [.int .i64 a0, .int .i64 a1, .int .i64 a2, .int .i64 a3, .int .i64 a4, .int .i64 a5]), ([2], [.int .i64 0, .int .i64 0, .int .i64 0, .int .i64 0, .int .i64 0, .int .i64 0]), ([3], [.int .i64 a0, .int .i64 a1, .int .i64 0, .int .i64 0, .int .i64 0, .int .i64 0])], []⟩) ?_ ?_ ?_
  · kernel_rfl
  · kernel_rfl
  refine CW_seq_reg ?_
  refine run_XW [] 4 (ps := []) ?_ ap_nil ?_
  · kernel_rfl
  refine XW_end (ts := [1, 2, 3]) (dv := [[1], [2], [3]]) (ka := []) (st' := ⟨23, [(1, .vptr [1] 0), (2, .vptr [2] 0), (3, .vptr [3] 0)], [([1], [.int .i64 a0, .int .i64 a1, .int .i64 a2, .int .i64 a3, .int .i64 a4, .int .i64 a5]), ([2], [.int .i64 0, .int .i64 0, .int .i64 0, .int .i64 0, .int .i64 0, .int .i64 0]), ([3], [.int .i64 a0, .int .i64 a1, .int .i64 a2, .int .i64 0, .int .i64 0, .int .i64 0])], []⟩) ?_ ?_ ?_
  · kernel_rfl
  · kernel_rfl
  refine CW_seq_reg ?_
  refine run_XW [] 4 (ps := []) ?_ ap_nil ?_
  · kernel_rfl
  refine XW_end (ts := [1, 2, 3]) (dv := [[1], [2], [3]]) (ka := []) (st' := ⟨23, [(1, .vptr [1] 0), (2, .vptr [2] 0), (3, .vptr [3] 0)], [([1], [.int .i64 a0, .int .i64 a1, .int .i64 a2, .int .i64 a3, .int .i64 a4, .int .i64 a5]), ([2], [.int .i64 0, .int .i64 0, .int .i64 0, .int .i64 0, .int .i64 0, .int .i64 0]), ([3], [.int .i64 a0, .int .i64 a1, .int .i64 a2, .int .i64 a3, .int .i64 0, .int .i64 0])], []⟩) ?_ ?_ ?_
  · kernel_rfl
  · kernel_rfl
  refine CW_seq_reg ?_
  refine run_XW [] 4 (ps := []) ?_ ap_nil ?_
  · kernel_rfl
  refine XW_end (ts := [1, 2, 3]) (dv := [[1], [2], [3]]) (ka := []) (st' := ⟨23, [(1, .vptr [1] 0), (2, .vptr [2] 0), (3, .vptr [3] 0)], [([1], [.int .i64 a0, .int .i64 a1, .int .i64 a2, .int .i64 a3, .int .i64 a4, .int .i64 a5]), ([2], [.int .i64 0, .int .i64 0, .int .i64 0, .int .i64 0, .int .i64 0, .int .i64 0]), ([3], [.int .i64 a0, .int .i64 a1, .int .i64 a2, .int .i64 a3, .int .i64 a4, .int .i64 0])], []⟩) ?_ ?_ ?_
  · kernel_rfl
  · kernel_rfl
  refine CW_seq_reg ?_
  refine run_XW [] 4 (ps := []) ?_ ap_nil ?_
  · kernel_rfl
  refine XW_end (ts := [2, 3]) (dv := [[2], [3]]) (ka := []) (st' := ⟨23, [(2, .vptr [2] 0), (3, .vptr [3] 0)], [([2], [.int .i64 0, .int .i64 0, .int .i64 0, .int .i64 0, .int .i64 0, .int .i64 0]), ([3], [.int .i64 a0, .int .i64 a1, .int .i64 a2, .int .i64 a3, .int .i64 a4, .int .i64 a5])], []⟩) ?_ ?_ ?_
  · kernel_rfl
  · kernel_rfl
  refine CW_seq_reg ?_
  refine run_XW [] 2 (ps := []) ?_ ap_nil ?_
  · kernel_rfl
  refine XW_end (ts := [2]) (dv := [[2]]) (ka := []) (st' := ⟨23, [(2, .vptr [2] 0)], [([2], [.int .i64 a0, .int .i64 a1, .int .i64 a2, .int .i64 a3, .int .i64 a4, .int .i64 a5])], []⟩) ?_ ?_ ?_
  · kernel_rfl
  · kernel_rfl
  refine CW_ret ?_
  refine endW_ret ?_; kernel_rfl
/-! loop.example/g00222/laws.eqTextResult -/
def code13 : SC :=
  (SC.seq (SC.reg false [
    ⟨(some 2), (.box 32 (.tmp 0)), 0, none⟩,
    ⟨(some 3), (.box 32 (.tmp 1)), 0, none⟩,
    ⟨(some 4), (.assign (.const (.bool false))), 4, none⟩])
  (SC.seq (SC.seq (SC.reg false [
    ⟨(some 5), (.fieldAddr 32 (.tmp 2) 0), 0, none⟩,
    ⟨(some 6), (.load 2 (.tmp 5)), 2, none⟩,
    ⟨(some 7), (.fieldAddr 32 (.tmp 3) 0), 0, none⟩,
    ⟨(some 8), (.load 2 (.tmp 7)), 2, none⟩,
    ⟨(some 9), (.binOp .neq 2 (.tmp 6) (.tmp 8) 2), 4, none⟩])
  (SC.cond (.tmp 9) (SC.seq (SC.reg false [
    ⟨(some 4), (.assign (.const (.bool false))), 4, none⟩])
  SC.ret) SC.skip))
  (SC.seq (SC.seq (SC.reg false [
    ⟨(some 10), (.fieldAddr 32 (.tmp 2) 1), 0, none⟩,
    ⟨(some 11), (.load 9 (.tmp 10)), 9, none⟩,
    ⟨(some 12), (.fieldAddr 32 (.tmp 3) 1), 0, none⟩,
    ⟨(some 13), (.load 9 (.tmp 12)), 9, none⟩,
    ⟨(some 14), (.binOp .neq 9 (.tmp 11) (.tmp 13) 9), 4, none⟩])
  (SC.cond (.tmp 14) (SC.seq (SC.reg false [
    ⟨(some 4), (.assign (.const (.bool false))), 4, none⟩])
  SC.ret) SC.skip))
  (SC.seq (SC.reg false [
    ⟨(some 4), (.assign (.const (.bool true))), 4, none⟩])
  SC.ret))))
theorem sc13 : f13.body.bind stripC = some code13 := by kernel_rfl
def r13_0 (a0 : Int) (a1 : ByteArray) (a2 : Int) (a3 : ByteArray) : Bool := cond (a0 != a2) false (cond (!(a1.toList == a3.toList)) false true)
theorem sem13 (a0 : Int) (a1 : ByteArray) (a2 : Int) (a3 : ByteArray)  : SemR prog 13 [.agg [.int .i64 a0, .str a1], .agg [.int .i64 a2, .str a3]] [.one (.bool (r13_0 a0 a1 a2 a3))] := by
  refine SemR.of_code' func13 sc13 (by rw [ntmps13]; exact Nat.le_of_ble_eq_true rfl) (fun hl => ?_)
  rw [ntmps13, results13]
  unfold code13 r13_0
  refine CW_seq_reg ?_
  refine run_XW [] 3 (ps := []) ?_ ap_nil ?_
  · kernel_rfl
  refine XW_end (ts := [2, 3]) (dv := [[2], [3]]) (ka := []) (st' := ⟨15, [(2, .vptr [2] 0), (3, .vptr [3] 0)], [([2], [.int .i64 a0, .str a1]), ([3], [.int .i64 a2, .str a3])], []⟩) ?_ ?_ ?_
  · kernel_rfl
  · kernel_rfl
  refine CW_assoc ?_
  refine CW_seq_reg ?_
  refine run_XW [] 5 (ps := []) ?_ ap_nil ?_
  · kernel_rfl
  refine XW_end (ts := [2, 3, 9]) (dv := [[2], [3]]) (ka := []) (st' := ⟨15, [(2, .vptr [2] 0), (3, .vptr [3] 0), (9, .bool (a0 != a2))], [([2], [.int .i64 a0, .str a1]), ([3], [.int .i64 a2, .str a3])], []⟩) ?_ ?_ ?_
  · kernel_rfl
  · kernel_rfl
  refine CW_cond_seq (t := (a0 != a2)) ?_ (fun h => ?_) (fun h => ?_)
  · kernel_rfl
  · try rw [h]
    refine CW_assoc ?_
    refine CW_seq_reg ?_
    refine run_XW [] 1 (ps := []) ?_ ap_nil ?_
    · kernel_rfl
    refine XW_end (ts := [4]) (dv := []) (ka := []) (st' := ⟨15, [(4, .bool false)], [], []⟩) ?_ ?_ ?_
    · kernel_rfl
    · kernel_rfl
    refine CW_ret_seq ?_
    refine endW_ret ?_; kernel_rfl
  · try rw [h]
    refine CW_skip_seq ?_
    refine CW_assoc ?_
    refine CW_seq_reg ?_
    refine run_XW [] 5 (ps := []) ?_ ap_nil ?_
    · kernel_rfl
    refine XW_end (ts := [14]) (dv := []) (ka := []) (st' := ⟨15, [(14, .bool (!(a1.toList == a3.toList)))], [], []⟩) ?_ ?_ ?_
    · kernel_rfl
    · kernel_rfl
    refine CW_cond_seq (t := (!(a1.toList == a3.toList))) ?_ (fun h => ?_) (fun h => ?_)
    · kernel_rfl
    · try rw [h]
      refine CW_assoc ?_
      refine CW_seq_reg ?_
      refine run_XW [] 1 (ps := []) ?_ ap_nil ?_
      · kernel_rfl
      refine XW_end (ts := [4]) (dv := []) (ka := []) (st' := ⟨15, [(4, .bool false)], [], []⟩) ?_ ?_ ?_
      · kernel_rfl
      · kernel_rfl
      refine CW_ret_seq ?_
      refine endW_ret ?_; kernel_rfl
    · try rw [h]
      refine CW_skip_seq ?_
      refine CW_seq_reg ?_
      refine run_XW [] 1 (ps := []) ?_ ap_nil ?_
      · kernel_rfl
      refine XW_end (ts := [4]) (dv := []) (ka := []) (st' := ⟨15, [(4, .bool true)], [], []⟩) ?_ ?_ ?_
      · kernel_rfl
      · kernel_rfl
      refine CW_ret ?_
      refine endW_ret ?_; kernel_rfl
/-! loop.example/g00222/spec.l5Number -/
def code34 : SC :=
  (SC.seq (SC.reg false [
    ⟨(some 1), (.box 34 (.tmp 0)), 0, none⟩,
    ⟨(some 2), (.assign (.const (.bool false))), 4, none⟩])
  (SC.seq (SC.seq (SC.reg false [
    ⟨(some 3), (.fieldAddr 34 (.tmp 1) 0), 0, none⟩,
    ⟨(some 4), (.load 2 (.tmp 3)), 2, none⟩])
  (SC.block 0 (SC.seq (SC.seq (SC.reg false [
    ⟨(some 6), (.binOp .eql 2 (.tmp 4) (.const (.int .i64 1)) 2), 4, none⟩,
    ⟨(some 5), (.assign (.tmp 6)), 4, none⟩])
  (SC.cond (.tmp 5) SC.skip (SC.reg false [
    ⟨(some 7), (.binOp .eql 2 (.tmp 4) (.const (.int .i64 2)) 2), 4, none⟩,
    ⟨(some 5), (.assign (.tmp 7)), 4, none⟩])))
  (SC.cond (.tmp 5) (SC.seq (SC.reg false [
    ⟨(some 8), (.fieldAddr 34 (.tmp 1) 4), 0, none⟩,
    ⟨(some 9), (.load 2 (.tmp 8)), 2, none⟩,
    ⟨(some 10), (.call ⟨(.value (.func 29)), #[(.tmp 9), (.const (.int .i64 0)), (.const (.int .i64 9))], #[2, 2, 2]⟩), 4, none⟩,
    ⟨(some 2), (.assign (.tmp 10)), 4, none⟩])
  SC.ret) (SC.seq (SC.reg false [
    ⟨(some 12), (.binOp .eql 2 (.tmp 4) (.const (.int .i64 3)) 2), 4, none⟩,
    ⟨(some 11), (.assign (.tmp 12)), 4, none⟩])
  (SC.cond (.tmp 11) (SC.seq (SC.reg false [
    ⟨(some 13), (.fieldAddr 34 (.tmp 1) 4), 0, none⟩,
    ⟨(some 14), (.load 2 (.tmp 13)), 2, none⟩,
    ⟨(some 15), (.call ⟨(.value (.func 29)), #[(.tmp 14), (.const (.int .i64 1)), (.const (.int .i64 3))], #[2, 2, 2]⟩), 4, none⟩,
    ⟨(some 2), (.assign (.tmp 15)), 4, none⟩])
  SC.ret) (SC.seq (SC.reg false [
    ⟨(some 17), (.binOp .eql 2 (.tmp 4) (.const (.int .i64 9)) 2), 4, none⟩,
    ⟨(some 16), (.assign (.tmp 17)), 4, none⟩])
  (SC.cond (.tmp 16) (SC.seq (SC.reg false [
    ⟨(some 18), (.fieldAddr 34 (.tmp 1) 4), 0, none⟩,
    ⟨(some 19), (.load 2 (.tmp 18)), 2, none⟩,
    ⟨(some 20), (.call ⟨(.value (.func 29)), #[(.tmp 19), (.const (.int .i64 0)), (.const (.int .i64 1))], #[2, 2, 2]⟩), 4, none⟩,
    ⟨(some 2), (.assign (.tmp 20)), 4, none⟩])
  SC.ret) SC.skip))))))))
  (SC.seq (SC.reg false [
    ⟨(some 21), (.fieldAddr 34 (.tmp 1) 4), 0, none⟩,
    ⟨(some 22), (.load 2 (.tmp 21)), 2, none⟩,
    ⟨(some 23), (.call ⟨(.value (.func 45)), #[(.tmp 22)], #[2]⟩), 4, none⟩,
    ⟨(some 2), (.assign (.tmp 23)), 4, none⟩])
  SC.ret)))
theorem sc34 : f34.body.bind stripC = some code34 := by kernel_rfl
def r34_0 (a0 : Int) (a1 : Int) (a2 : Int) (a3 : Int) (a4 : Int) (a5 : Int) : Bool := cond (a0 == 1) (r29_0 a4 0 9) (cond (a0 == 2) (r29_0 a4 0 9) (cond (a0 == 3) (r29_0 a4 1 3) (cond (a0 == 9) (r29_0 a4 0 1) (r45_0 a4))))
theorem sem34 (a0 : Int) (a1 : Int) (a2 : Int) (a3 : Int) (a4 : Int) (a5 : Int)  : SemR prog 34 [.agg [.int .i64 a0, .int .i64 a1, .int .i64 a2, .int .i64 a3, .int .i64 a4, .int .i64 a5]] [.one (.bool (r34_0 a0 a1 a2 a3 a4 a5))] := by
  refine SemR.of_code' func34 sc34 (by rw [ntmps34]; exact Nat.le_of_ble_eq_true rfl) (fun hl => ?_)
  rw [ntmps34, results34]
  unfold code34 r34_0
  refine CW_seq_reg ?_
  refine run_XW [] 2 (ps := []) ?_ ap_nil ?_
  · kernel_rfl
  refine XW_end (ts := [1]) (dv := [[1]]) (ka := []) (st' := ⟨24, [(1, .vptr [1] 0)], [([1], [.int .i64 a0, .int .i64 a1, .int .i64 a2, .int .i64 a3, .int .i64 a4, .int .i64 a5])], []⟩) ?_ ?_ ?_
  · kernel_rfl
  · kernel_rfl
  refine CW_assoc ?_
  refine CW_seq_reg ?_
  refine run_XW [] 2 (ps := []) ?_ ap_nil ?_
  · kernel_rfl
  refine XW_end (ts := [1, 4]) (dv := [[1]]) (ka := []) (st' := ⟨24, [(1, .vptr [1] 0), (4, .int .i64 a0)], [([1], [.int .i64 a0, .int .i64 a1, .int .i64 a2, .int .i64 a3, .int .i64 a4, .int .i64 a5])], []⟩) ?_ ?_ ?_
  · kernel_rfl
  · kernel_rfl
  refine CW_block_seq ?_
  refine CW_assoc ?_
  refine CW_seq_reg ?_
  refine run_XW [] 2 (ps := []) ?_ ap_nil ?_
  · kernel_rfl
  refine XW_end (ts := [1, 4, 5]) (dv := [[1]]) (ka := []) (st' := ⟨24, [(1, .vptr [1] 0), (4, .int .i64 a0), (5, .bool (a0 == 1))], [([1], [.int .i64 a0, .int .i64 a1, .int .i64 a2, .int .i64 a3, .int .i64 a4, .int .i64 a5])], []⟩) ?_ ?_ ?_
  · kernel_rfl
  · kernel_rfl
  refine CW_cond_seq (t := (a0 == 1)) ?_ (fun h => ?_) (fun h => ?_)
  · kernel_rfl
  · try rw [h]
    refine CW_skip_seq ?_
    refine CW_cond (t := true) ?_ (fun _ => ?_) (fun h => (by cases h))
    · kernel_rfl
    refine CW_seq_reg ?_
    refine runC_XW (fz := []) (n := 2) (st' := ⟨24, [(9, .int .i64 a4), (8, .vptr [1] 4), (1, .vptr [1] 0), (4, .int .i64 a0), (5, .bool true)], [([1], [.int .i64 a0, .int .i64 a1, .int .i64 a2, .int .i64 a3, .int .i64 a4, .int .i64 a5])], []⟩) (ps := []) ?_ ap_nil ?_
    · kernel_rfl
    refine callC_XW (i := ⟨none, 29, [.one (.int .i64 a4), .one (.int .i64 0), .one (.int .i64 9)], true, (some 10), []⟩) (rs := [.one (.bool (r29_0 a4 0 9))]) ?_ ap_nil (sem29 a4 0 9) rfl ?_
    · kernel_rfl
    refine run_XW [] 1 (ps := []) ?_ ap_nil ?_
    · kernel_rfl
    refine XW_end (ts := [2]) (dv := []) (ka := []) (st' := ⟨24, [(2, .bool (r29_0 a4 0 9))], [], []⟩) ?_ ?_ ?_
    · kernel_rfl
    · kernel_rfl
    refine CW_ret ?_
    refine blk_ret ?_
    refine endW_ret ?_; kernel_rfl
  · try rw [h]
    refine CW_seq_reg ?_
    refine run_XW [] 2 (ps := []) ?_ ap_nil ?_
    · kernel_rfl
    refine XW_end (ts := [1, 4, 5]) (dv := [[1]]) (ka := []) (st' := ⟨24, [(1, .vptr [1] 0), (4, .int .i64 a0), (5, .bool (a0 == 2))], [([1], [.int .i64 a0, .int .i64 a1, .int .i64 a2, .int .i64 a3, .int .i64 a4, .int .i64 a5])], []⟩) ?_ ?_ ?_
    · kernel_rfl
    · kernel_rfl
    refine CW_cond (t := (a0 == 2)) ?_ (fun h => ?_) (fun h => ?_)
    · kernel_rfl
    · try rw [h]
      refine CW_seq_reg ?_
      refine runC_XW (fz := []) (n := 2) (st' := ⟨24, [(9, .int .i64 a4), (8, .vptr [1] 4), (1, .vptr [1] 0), (4, .int .i64 a0), (5, .bool true)], [([1], [.int .i64 a0, .int .i64 a1, .int .i64 a2, .int .i64 a3, .int .i64 a4, .int .i64 a5])], []⟩) (ps := []) ?_ ap_nil ?_
      · kernel_rfl
      refine callC_XW (i := ⟨none, 29, [.one (.int .i64 a4), .one (.int .i64 0), .one (.int .i64 9)], true, (some 10), []⟩) (rs := [.one (.bool (r29_0 a4 0 9))]) ?_ ap_nil (sem29 a4 0 9) rfl ?_
      · kernel_rfl
      refine run_XW [] 1 (ps := []) ?_ ap_nil ?_
      · kernel_rfl
      refine XW_end (ts := [2]) (dv := []) (ka := []) (st' := ⟨24, [(2, .bool (r29_0 a4 0 9))], [], []⟩) ?_ ?_ ?_
      · kernel_rfl
      · kernel_rfl
      refine CW_ret ?_
      refine blk_ret ?_
      refine endW_ret ?_; kernel_rfl
    · try rw [h]
      refine CW_seq_reg ?_
      refine run_XW [] 2 (ps := []) ?_ ap_nil ?_
      · kernel_rfl
      refine XW_end (ts := [1, 4, 11]) (dv := [[1]]) (ka := []) (st' := ⟨24, [(1, .vptr [1] 0), (4, .int .i64 a0), (11, .bool (a0 == 3))], [([1], [.int .i64 a0, .int .i64 a1, .int .i64 a2, .int .i64 a3, .int .i64 a4, .int .i64 a5])], []⟩) ?_ ?_ ?_
      · kernel_rfl
      · kernel_rfl
      refine CW_cond (t := (a0 == 3)) ?_ (fun h => ?_) (fun h => ?_)
      · kernel_rfl
      · try rw [h]
        refine CW_seq_reg ?_
        refine runC_XW (fz := []) (n := 2) (st' := ⟨24, [(14, .int .i64 a4), (13, .vptr [1] 4), (1, .vptr [1] 0), (4, .int .i64 a0), (11, .bool true)], [([1], [.int .i64 a0, .int .i64 a1, .int .i64 a2, .int .i64 a3, .int .i64 a4, .int .i64 a5])], []⟩) (ps := []) ?_ ap_nil ?_
        · kernel_rfl
        refine callC_XW (i := ⟨none, 29, [.one (.int .i64 a4), .one (.int .i64 1), .one (.int .i64 3)], true, (some 15), []⟩) (rs := [.one (.bool (r29_0 a4 1 3))]) ?_ ap_nil (sem29 a4 1 3) rfl ?_
        · kernel_rfl
        refine run_XW [] 1 (ps := []) ?_ ap_nil ?_
        · kernel_rfl
        refine XW_end (ts := [2]) (dv := []) (ka := []) (st' := ⟨24, [(2, .bool (r29_0 a4 1 3))], [], []⟩) ?_ ?_ ?_
        · kernel_rfl
        · kernel_rfl
        refine CW_ret ?_
        refine blk_ret ?_
        refine endW_ret ?_; kernel_rfl
      · try rw [h]
        refine CW_seq_reg ?_
        refine run_XW [] 2 (ps := []) ?_ ap_nil ?_
        · kernel_rfl
        refine XW_end (ts := [1, 16]) (dv := [[1]]) (ka := []) (st' := ⟨24, [(1, .vptr [1] 0), (16, .bool (a0 == 9))], [([1], [.int .i64 a0, .int .i64 a1, .int .i64 a2, .int .i64 a3, .int .i64 a4, .int .i64 a5])], []⟩) ?_ ?_ ?_
        · kernel_rfl
        · kernel_rfl
        refine CW_cond (t := (a0 == 9)) ?_ (fun h => ?_) (fun h => ?_)
        · kernel_rfl
        · try rw [h]
          refine CW_seq_reg ?_
          refine runC_XW (fz := []) (n := 2) (st' := ⟨24, [(19, .int .i64 a4), (18, .vptr [1] 4), (1, .vptr [1] 0), (16, .bool true)], [([1], [.int .i64 a0, .int .i64 a1, .int .i64 a2, .int .i64 a3, .int .i64 a4, .int .i64 a5])], []⟩) (ps := []) ?_ ap_nil ?_
          · kernel_rfl
          refine callC_XW (i := ⟨none, 29, [.one (.int .i64 a4), .one (.int .i64 0), .one (.int .i64 1)], true, (some 20), []⟩) (rs := [.one (.bool (r29_0 a4 0 1))]) ?_ ap_nil (sem29 a4 0 1) rfl ?_
          · kernel_rfl
          refine run_XW [] 1 (ps := []) ?_ ap_nil ?_
          · kernel_rfl
          refine XW_end (ts := [2]) (dv := []) (ka := []) (st' := ⟨24, [(2, .bool (r29_0 a4 0 1))], [], []⟩) ?_ ?_ ?_
          · kernel_rfl
          · kernel_rfl
          refine CW_ret ?_
          refine blk_ret ?_
          refine endW_ret ?_; kernel_rfl
        · try rw [h]
          refine CW_skip ?_
          refine blk_normal ?_
          refine CW_seq_reg ?_
          refine runC_XW (fz := []) (n := 2) (st' := ⟨24, [(22, .int .i64 a4), (21, .vptr [1] 4), (1, .vptr [1] 0), (16, .bool false)], [([1], [.int .i64 a0, .int .i64 a1, .int .i64 a2, .int .i64 a3, .int .i64 a4, .int .i64 a5])], []⟩) (ps := []) ?_ ap_nil ?_
          · kernel_rfl
          refine callC_XW (i := ⟨none, 45, [.one (.int .i64 a4)], true, (some 23), []⟩) (rs := [.one (.bool (r45_0 a4))]) ?_ ap_nil (sem45 a4) rfl ?_
          · kernel_rfl
          refine run_XW [] 1 (ps := []) ?_ ap_nil ?_
          · kernel_rfl
          refine XW_end (ts := [2]) (dv := []) (ka := []) (st' := ⟨24, [(2, .bool (r45_0 a4))], [], []⟩) ?_ ?_ ?_
          · kernel_rfl
          · kernel_rfl
          refine CW_ret ?_
          refine endW_ret ?_; kernel_rfl
/-! loop.example/g00222/impl.isNumber -/
def code40 : SC :=
  (SC.seq (SC.reg false [
    ⟨(some 1), (.box 34 (.tmp 0)), 0, none⟩,
    ⟨(some 2), (.assign (.const (.bool false))), 4, none⟩])
  (SC.seq (SC.seq (SC.reg false [
    ⟨(some 3), (.fieldAddr 34 (.tmp 1) 0), 0, none⟩,
    ⟨(some 4), (.load 2 (.tmp 3)), 2, none⟩])
  (SC.block 0 (SC.seq (SC.seq (SC.reg false [
    ⟨(some 6), (.binOp .eql 2 (.tmp 4) (.const (.int .i64 1)) 2), 4, none⟩,
    ⟨(some 5), (.assign (.tmp 6)), 4, none⟩])
  (SC.cond (.tmp 5) SC.skip (SC.reg false [
    ⟨(some 7), (.binOp .eql 2 (.tmp 4) (.const (.int .i64 2)) 2), 4, none⟩,
    ⟨(some 5), (.assign (.tmp 7)), 4, none⟩])))
  (SC.cond (.tmp 5) (SC.seq (SC.reg false [
    ⟨(some 8), (.fieldAddr 34 (.tmp 1) 4), 0, none⟩,
    ⟨(some 9), (.load 2 (.tmp 8)), 2, none⟩,
    ⟨(some 10), (.call ⟨(.value (.func 36)), #[(.tmp 9), (.const (.int .i64 0)), (.const (.int .i64 9))], #[2, 2, 2]⟩), 4, none⟩,
    ⟨(some 2), (.assign (.tmp 10)), 4, none⟩])
  SC.ret) (SC.seq (SC.reg false [
    ⟨(some 12), (.binOp .eql 2 (.tmp 4) (.const (.int .i64 3)) 2), 4, none⟩,
    ⟨(some 11), (.assign (.tmp 12)), 4, none⟩])
  (SC.cond (.tmp 11) (SC.seq (SC.reg false [
    ⟨(some 13), (.fieldAddr 34 (.tmp 1) 4), 0, none⟩,
    ⟨(some 14), (.load 2 (.tmp 13)), 2, none⟩,
    ⟨(some 15), (.call ⟨(.value (.func 36)), #[(.tmp 14), (.const (.int .i64 1)), (.const (.int .i64 3))], #[2, 2, 2]⟩), 4, none⟩,
    ⟨(some 2), (.assign (.tmp 15)), 4, none⟩])
  SC.ret) (SC.seq (SC.reg false [
    ⟨(some 17), (.binOp .eql 2 (.tmp 4) (.const (.int .i64 9)) 2), 4, none⟩,
    ⟨(some 16), (.assign (.tmp 17)), 4, none⟩])
  (SC.cond (.tmp 16) (SC.seq (SC.reg false [
    ⟨(some 18), (.fieldAddr 34 (.tmp 1) 4), 0, none⟩,
    ⟨(some 19), (.load 2 (.tmp 18)), 2, none⟩,
    ⟨(some 20), (.call ⟨(.value (.func 36)), #[(.tmp 19), (.const (.int .i64 0)), (.const (.int .i64 1))], #[2, 2, 2]⟩), 4, none⟩,
    ⟨(some 2), (.assign (.tmp 20)), 4, none⟩])
  SC.ret) SC.skip))))))))
  (SC.seq (SC.reg false [
    ⟨(some 21), (.fieldAddr 34 (.tmp 1) 4), 0, none⟩,
    ⟨(some 22), (.load 2 (.tmp 21)), 2, none⟩,
    ⟨(some 23), (.call ⟨(.value (.func 46)), #[(.tmp 22)], #[2]⟩), 4, none⟩,
    ⟨(some 2), (.assign (.tmp 23)), 4, none⟩])
  SC.ret)))
theorem sc40 : f40.body.bind stripC = some code40 := by kernel_rfl
def r40_0 (a0 : Int) (a1 : Int) (a2 : Int) (a3 : Int) (a4 : Int) (a5 : Int) : Bool := cond (a0 == 1) (r36_0 a4 0 9) (cond (a0 == 2) (r36_0 a4 0 9) (cond (a0 == 3) (r36_0 a4 1 3) (cond (a0 == 9) (r36_0 a4 0 1) (r46_0 a4))))
theorem sem40 (a0 : Int) (a1 : Int) (a2 : Int) (a3 : Int) (a4 : Int) (a5 : Int)  : SemR prog 40 [.agg [.int .i64 a0, .int .i64 a1, .int .i64 a2, .int .i64 a3, .int .i64 a4, .int .i64 a5]] [.one (.bool (r40_0 a0 a1 a2 a3 a4 a5))] := by
  refine SemR.of_code' func40 sc40 (by rw [ntmps40]; exact Nat.le_of_ble_eq_true rfl) (fun hl => ?_)
  rw [ntmps40, results40]
  unfold code40 r40_0
  refine CW_seq_reg ?_
  refine run_XW [] 2 (ps := []) ?_ ap_nil ?_
  · kernel_rfl
  refine XW_end (ts := [1]) (dv := [[1]]) (ka := []) (st' := ⟨24, [(1, .vptr [1] 0)], [([1], [.int .i64 a0, .int .i64 a1, .int .i64 a2, .int .i64 a3, .int .i64 a4, .int .i64 a5])], []⟩) ?_ ?_ ?_
  · kernel_rfl
  · kernel_rfl
  refine CW_assoc ?_
  refine CW_seq_reg ?_
  refine run_XW [] 2 (ps := []) ?_ ap_nil ?_
  · kernel_rfl
  refine XW_end (ts := [1, 4]) (dv := [[1]]) (ka := []) (st' := ⟨24, [(1, .vptr [1] 0), (4, .int .i64 a0)], [([1], [.int .i64 a0, .int .i64 a1, .int .i64 a2, .int .i64 a3, .int .i64 a4, .int .i64 a5])], []⟩) ?_ ?_ ?_
  · kernel_rfl
  · kernel_rfl
  refine CW_block_seq ?_
  refine CW_assoc ?_
  refine CW_seq_reg ?_
  refine run_XW [] 2 (ps := []) ?_ ap_nil ?_
  · kernel_rfl
  refine XW_end (ts := [1, 4, 5]) (dv := [[1]]) (ka := []) (st' := ⟨24, [(1, .vptr [1] 0), (4, .int .i64 a0), (5, .bool (a0 == 1))], [([1], [.int .i64 a0, .int .i64 a1, .int .i64 a2, .int .i64 a3, .int .i64 a4, .int .i64 a5])], []⟩) ?_ ?_ ?_
  · kernel_rfl
  · kernel_rfl
  refine CW_cond_seq (t := (a0 == 1)) ?_ (fun h => ?_) (fun h => ?_)
  · kernel_rfl
  · try rw [h]
    refine CW_skip_seq ?_
    refine CW_cond (t := true) ?_ (fun _ => ?_) (fun h => (by cases h))
    · kernel_rfl
    refine CW_seq_reg ?_
    refine runC_XW (fz := []) (n := 2) (st' := ⟨24, [(9, .int .i64 a4), (8, .vptr [1] 4), (1, .vptr [1] 0), (4, .int .i64 a0), (5, .bool true)], [([1], [.int .i64 a0, .int .i64 a1, .int .i64 a2, .int .i64 a3, .int .i64 a4, .int .i64 a5])], []⟩) (ps := []) ?_ ap_nil ?_
    · kernel_rfl
    refine callC_XW (i := ⟨none, 36, [.one (.int .i64 a4), .one (.int .i64 0), .one (.int .i64 9)], true, (some 10), []⟩) (rs := [.one (.bool (r36_0 a4 0 9))]) ?_ ap_nil (sem36 a4 0 9) rfl ?_
    · kernel_rfl
    refine run_XW [] 1 (ps := []) ?_ ap_nil ?_
    · kernel_rfl
    refine XW_end (ts := [2]) (dv := []) (ka := []) (st' := ⟨24, [(2, .bool (r36_0 a4 0 9))], [], []⟩) ?_ ?_ ?_
    · kernel_rfl
    · kernel_rfl
    refine CW_ret ?_
    refine blk_ret ?_
    refine endW_ret ?_; kernel_rfl
  · try rw [h]
    refine CW_seq_reg ?_
    refine run_XW [] 2 (ps := []) ?_ ap_nil ?_
    · kernel_rfl
    refine XW_end (ts := [1, 4, 5]) (dv := [[1]]) (ka := []) (st' := ⟨24, [(1, .vptr [1] 0), (4, .int .i64 a0), (5, .bool (a0 == 2))], [([1], [.int .i64 a0, .int .i64 a1, .int .i64 a2, .int .i64 a3, .int .i64 a4, .int .i64 a5])], []⟩) ?_ ?_ ?_
    · kernel_rfl
    · kernel_rfl
    refine CW_cond (t := (a0 == 2)) ?_ (fun h => ?_) (fun h => ?_)
    · kernel_rfl
    · try rw [h]
      refine CW_seq_reg ?_
      refine runC_XW (fz := []) (n := 2) (st' := ⟨24, [(9, .int .i64 a4), (8, .vptr [1] 4), (1, .vptr [1] 0), (4, .int .i64 a0), (5, .bool true)], [([1], [.int .i64 a0, .int .i64 a1, .int .i64 a2, .int .i64 a3, .int .i64 a4, .int .i64 a5])], []⟩) (ps := []) ?_ ap_nil ?_
      · kernel_rfl
      refine callC_XW (i := ⟨none, 36, [.one (.int .i64 a4), .one (.int .i64 0), .one (.int .i64 9)], true, (some 10), []⟩) (rs := [.one (.bool (r36_0 a4 0 9))]) ?_ ap_nil (sem36 a4 0 9) rfl ?_
      · kernel_rfl
      refine run_XW [] 1 (ps := []) ?_ ap_nil ?_
      · kernel_rfl
      refine XW_end (ts := [2]) (dv := []) (ka := []) (st' := ⟨24, [(2, .bool (r36_0 a4 0 9))], [], []⟩) ?_ ?_ ?_
      · kernel_rfl
      · kernel_rfl
      refine CW_ret ?_
      refine blk_ret ?_
      refine endW_ret ?_; kernel_rfl
    · try rw [h]
      refine CW_seq_reg ?_
      refine run_XW [] 2 (ps := []) ?_ ap_nil ?_
      · kernel_rfl
      refine XW_end (ts := [1, 4, 11]) (dv := [[1]]) (ka := []) (st' := ⟨24, [(1, .vptr [1] 0), (4, .int .i64 a0), (11, .bool (a0 == 3))], [([1], [.int .i64 a0, .int .i64 a1, .int .i64 a2, .int .i64 a3, .int .i64 a4, .int .i64 a5])], []⟩) ?_ ?_ ?_
      · kernel_rfl
      · kernel_rfl
      refine CW_cond (t := (a0 == 3)) ?_ (fun h => ?_) (fun h => ?_)
      · kernel_rfl
      · try rw [h]
        refine CW_seq_reg ?_
        refine runC_XW (fz := []) (n := 2) (st' := ⟨24, [(14, .int .i64 a4), (13, .vptr [1] 4), (1, .vptr [1] 0), (4, .int .i64 a0), (11, .bool true)], [([1], [.int .i64 a0, .int .i64 a1, .int .i64 a2, .int .i64 a3, .int .i64 a4, .int .i64 a5])], []⟩) (ps := []) ?_ ap_nil ?_
        · kernel_rfl
        refine callC_XW (i := ⟨none, 36, [.one (.int .i64 a4), .one (.int .i64 1), .one (.int .i64 3)], true, (some 15), []⟩) (rs := [.one (.bool (r36_0 a4 1 3))]) ?_ ap_nil (sem36 a4 1 3) rfl ?_
        · kernel_rfl
        refine run_XW [] 1 (ps := []) ?_ ap_nil ?_
        · kernel_rfl
        refine XW_end (ts := [2]) (dv := []) (ka := []) (st' := ⟨24, [(2, .bool (r36_0 a4 1 3))], [], []⟩) ?_ ?_ ?_
        · kernel_rfl
        · kernel_rfl
        refine CW_ret ?_
        refine blk_ret ?_
        refine endW_ret ?_; kernel_rfl
      · try rw [h]
        refine CW_seq_reg ?_
        refine run_XW [] 2 (ps := []) ?_ ap_nil ?_
        · kernel_rfl
        refine XW_end (ts := [1, 16]) (dv := [[1]]) (ka := []) (st' := ⟨24, [(1, .vptr [1] 0), (16, .bool (a0 == 9))], [([1], [.int .i64 a0, .int .i64 a1, .int .i64 a2, .int .i64 a3, .int .i64 a4, .int .i64 a5])], []⟩) ?_ ?_ ?_
        · kernel_rfl
        · kernel_rfl
        refine CW_cond (t := (a0 == 9)) ?_ (fun h => ?_) (fun h => ?_)
        · kernel_rfl
        · try rw [h]
          refine CW_seq_reg ?_
          refine runC_XW (fz := []) (n := 2) (st' := ⟨24, [(19, .int .i64 a4), (18, .vptr [1] 4), (1, .vptr [1] 0), (16, .bool true)], [([1], [.int .i64 a0, .int .i64 a1, .int .i64 a2, .int .i64 a3, .int .i64 a4, .int .i64 a5])], []⟩) (ps := []) ?_ ap_nil ?_
          · kernel_rfl
          refine callC_XW (i := ⟨none, 36, [.one (.int .i64 a4), .one (.int .i64 0), .one (.int .i64 1)], true, (some 20), []⟩) (rs := [.one (.bool (r36_0 a4 0 1))]) ?_ ap_nil (sem36 a4 0 1) rfl ?_
          · kernel_rfl
          refine run_XW [] 1 (ps := []) ?_ ap_nil ?_
          · kernel_rfl
          refine XW_end (ts := [2]) (dv := []) (ka := []) (st' := ⟨24, [(2, .bool (r36_0 a4 0 1))], [], []⟩) ?_ ?_ ?_
          · kernel_rfl
          · kernel_rfl
          refine CW_ret ?_
          refine blk_ret ?_
          refine endW_ret ?_; kernel_rfl
        · try rw [h]
          refine CW_skip ?_
          refine blk_normal ?_
          refine CW_seq_reg ?_
          refine runC_XW (fz := []) (n := 2) (st' := ⟨24, [(22, .int .i64 a4), (21, .vptr [1] 4), (1, .vptr [1] 0), (16, .bool false)], [([1], [.int .i64 a0, .int .i64 a1, .int .i64 a2, .int .i64 a3, .int .i64 a4, .int .i64 a5])], []⟩) (ps := []) ?_ ap_nil ?_
          · kernel_rfl
          refine callC_XW (i := ⟨none, 46, [.one (.int .i64 a4)], true, (some 23), []⟩) (rs := [.one (.bool (r46_0 a4))]) ?_ ap_nil (sem46 a4) rfl ?_
          · kernel_rfl
          refine run_XW [] 1 (ps := []) ?_ ap_nil ?_
          · kernel_rfl
          refine XW_end (ts := [2]) (dv := []) (ka := []) (st' := ⟨24, [(2, .bool (r46_0 a4))], [], []⟩) ?_ ?_ ?_
          · kernel_rfl
          · kernel_rfl
          refine CW_ret ?_
          refine endW_ret ?_; kernel_rfl
/-! loop.example/g00222/spec.CmdFault -/
def code19 : SC :=
  (SC.seq (SC.reg false [
    ⟨(some 1), (.box 34 (.tmp 0)), 0, none⟩,
    ⟨(some 2), (.assign (.const (.int .i64 0))), 2, none⟩])
  (SC.seq (SC.seq (SC.reg false [
    ⟨(some 7), (.fieldAddr 34 (.tmp 1) 0), 0, none⟩,
    ⟨(some 8), (.load 2 (.tmp 7)), 2, none⟩,
    ⟨(some 9), (.call ⟨(.value (.func 29)), #[(.tmp 8), (.const (.int .i64 1)), (.const (.int .i64 9))], #[2, 2, 2]⟩), 4, none⟩,
    ⟨(some 10), (.unOp .not 4 (.tmp 9)), 4, none⟩])
  (SC.cond (.tmp 10) (SC.seq (SC.reg false [
    ⟨(some 2), (.assign (.const (.int .i64 1))), 2, none⟩])
  SC.ret) SC.skip))
  (SC.seq (SC.reg false [
    ⟨(some 12), (.fieldAddr 34 (.tmp 1) 0), 0, none⟩,
    ⟨(some 13), (.load 2 (.tmp 12)), 2, none⟩,
    ⟨(some 14), (.call ⟨(.value (.func 30)), #[(.tmp 13)], #[2]⟩), 50, none⟩,
    ⟨(some 11), (.move (.tmp 14)), 50, none⟩,
    ⟨(some 15), (.extract (.tmp 11) 0), 4, none⟩,
    ⟨(some 16), (.extract (.tmp 11) 1), 4, none⟩,
    ⟨(some 17), (.extract (.tmp 11) 2), 4, none⟩,
    ⟨(some 18), (.extract (.tmp 11) 3), 4, none⟩,
    ⟨(some 3), (.assign (.tmp 15)), 4, none⟩,
    ⟨(some 4), (.assign (.tmp 16)), 4, none⟩,
    ⟨(some 5), (.assign (.tmp 17)), 4, none⟩,
    ⟨(some 6), (.assign (.tmp 18)), 4, none⟩])
  (SC.seq (SC.seq (SC.reg false [
    ⟨(some 19), (.fieldAddr 34 (.tmp 1) 1), 0, none⟩,
    ⟨(some 20), (.load 2 (.tmp 19)), 2, none⟩,
    ⟨(some 21), (.binOp .neq 2 (.tmp 20) (.const (.int .i64 (-1))) 2), 4, none⟩,
    ⟨(some 22), (.move (.tmp 21)), 4, none⟩,
    ⟨(some 23), (.fieldAddr 34 (.tmp 1) 1), 0, (some (22, true))⟩,
    ⟨(some 24), (.load 2 (.tmp 23)), 2, (some (22, true))⟩,
    ⟨(some 25), (.call ⟨(.value (.func 31)), #[(.tmp 24)], #[2]⟩), 4, (some (22, true))⟩,
    ⟨(some 26), (.unOp .not 4 (.tmp 25)), 4, (some (22, true))⟩,
    ⟨(some 27), (.pick (.tmp 22) (.tmp 26) (.const (.bool false))), 4, none⟩,
    ⟨(some 28), (.move (.tmp 27)), 4, none⟩,
    ⟨(some 29), (.move (.tmp 3)), 4, (some (28, false))⟩,
    ⟨(some 30), (.move (.tmp 29)), 4, (some (28, false))⟩,
    ⟨(some 31), (.fieldAddr 34 (.tmp 1) 2), 0, (some (30, true))⟩,
    ⟨(some 32), (.load 2 (.tmp 31)), 2, (some (30, true))⟩,
    ⟨(some 33), (.call ⟨(.value (.func 32)), #[(.tmp 32)], #[2]⟩), 4, (some (30, true))⟩,
    ⟨(some 34), (.unOp .not 4 (.tmp 33)), 4, (some (30, true))⟩,
    ⟨(some 35), (.pick (.tmp 30) (.tmp 34) (.const (.bool false))), 4, (some (28, false))⟩,
    ⟨(some 36), (.pick (.tmp 28) (.const (.bool true)) (.tmp 35)), 4, none⟩,
    ⟨(some 37), (.move (.tmp 36)), 4, none⟩,
    ⟨(some 38), (.move (.tmp 4)), 4, (some (37, false))⟩,
    ⟨(some 39), (.move (.tmp 38)), 4, (some (37, false))⟩,
    ⟨(some 40), (.fieldAddr 34 (.tmp 1) 3), 0, (some (39, true))⟩,
    ⟨(some 41), (.load 2 (.tmp 40)), 2, (some (39, true))⟩,
    ⟨(some 42), (.call ⟨(.value (.func 33)), #[(.tmp 41)], #[2]⟩), 4, (some (39, true))⟩,
    ⟨(some 43), (.unOp .not 4 (.tmp 42)), 4, (some (39, true))⟩,
    ⟨(some 44), (.pick (.tmp 39) (.tmp 43) (.const (.bool false))), 4, (some (37, false))⟩,
    ⟨(some 45), (.pick (.tmp 37) (.const (.bool true)) (.tmp 44)), 4, none⟩,
    ⟨(some 46), (.move (.tmp 45)), 4, none⟩,
    ⟨(some 47), (.move (.tmp 5)), 4, (some (46, false))⟩,
    ⟨(some 48), (.move (.tmp 47)), 4, (some (46, false))⟩,
    ⟨(some 49), (.load 34 (.tmp 1)), 34, (some (48, true))⟩,
    ⟨(some 50), (.call ⟨(.value (.func 34)), #[(.tmp 49)], #[34]⟩), 4, (some (48, true))⟩,
    ⟨(some 51), (.unOp .not 4 (.tmp 50)), 4, (some (48, true))⟩,
    ⟨(some 52), (.pick (.tmp 48) (.tmp 51) (.const (.bool false))), 4, (some (46, false))⟩,
    ⟨(some 53), (.pick (.tmp 46) (.const (.bool true)) (.tmp 52)), 4, none⟩,
    ⟨(some 54), (.move (.tmp 53)), 4, none⟩,
    ⟨(some 55), (.move (.tmp 6)), 4, (some (54, false))⟩,
    ⟨(some 56), (.move (.tmp 55)), 4, (some (54, false))⟩,
    ⟨(some 57), (.fieldAddr 34 (.tmp 1) 5), 0, (some (56, true))⟩,
    ⟨(some 58), (.load 2 (.tmp 57)), 2, (some (56, true))⟩,
    ⟨(some 59), (.call ⟨(.value (.func 35)), #[(.tmp 58)], #[2]⟩), 4, (some (56, true))⟩,
    ⟨(some 60), (.unOp .not 4 (.tmp 59)), 4, (some (56, true))⟩,
    ⟨(some 61), (.pick (.tmp 56) (.tmp 60) (.const (.bool false))), 4, (some (54, false))⟩,
    ⟨(some 62), (.pick (.tmp 54) (.const (.bool true)) (.tmp 61)), 4, none⟩])
  (SC.cond (.tmp 62) (SC.seq (SC.reg false [
    ⟨(some 2), (.assign (.const (.int .i64 3))), 2, none⟩])
  SC.ret) SC.skip))
  (SC.seq (SC.seq (SC.reg false [
    ⟨(some 63), (.move (.tmp 3)), 4, none⟩,
    ⟨(some 64), (.unOp .not 4 (.tmp 63)), 4, none⟩,
    ⟨(some 65), (.move (.tmp 64)), 4, none⟩,
    ⟨(some 66), (.fieldAddr 34 (.tmp 1) 2), 0, (some (65, true))⟩,
    ⟨(some 67), (.load 2 (.tmp 66)), 2, (some (65, true))⟩,
    ⟨(some 68), (.binOp .neq 2 (.tmp 67) (.const (.int .i64 0)) 2), 4, (some (65, true))⟩,
    ⟨(some 69), (.pick (.tmp 65) (.tmp 68) (.const (.bool false))), 4, none⟩,
    ⟨(some 70), (.move (.tmp 69)), 4, none⟩,
    ⟨(some 71), (.move (.tmp 4)), 4, (some (70, false))⟩,
    ⟨(some 72), (.unOp .not 4 (.tmp 71)), 4, (some (70, false))⟩,
    ⟨(some 73), (.move (.tmp 72)), 4, (some (70, false))⟩,
    ⟨(some 74), (.fieldAddr 34 (.tmp 1) 3), 0, (some (73, true))⟩,
    ⟨(some 75), (.load 2 (.tmp 74)), 2, (some (73, true))⟩,
    ⟨(some 76), (.binOp .neq 2 (.tmp 75) (.const (.int .i64 0)) 2), 4, (some (73, true))⟩,
    ⟨(some 77), (.pick (.tmp 73) (.tmp 76) (.const (.bool false))), 4, (some (70, false))⟩,
    ⟨(some 78), (.pick (.tmp 70) (.const (.bool true)) (.tmp 77)), 4, none⟩,
    ⟨(some 79), (.move (.tmp 78)), 4, none⟩,
    ⟨(some 80), (.move (.tmp 5)), 4, (some (79, false))⟩,
    ⟨(some 81), (.unOp .not 4 (.tmp 80)), 4, (some (79, false))⟩,
    ⟨(some 82), (.move (.tmp 81)), 4, (some (79, false))⟩,
    ⟨(some 83), (.fieldAddr 34 (.tmp 1) 4), 0, (some (82, true))⟩,
    ⟨(some 84), (.load 2 (.tmp 83)), 2, (some (82, true))⟩,
    ⟨(some 85), (.binOp .neq 2 (.tmp 84) (.const (.int .i64 0)) 2), 4, (some (82, true))⟩,
    ⟨(some 86), (.pick (.tmp 82) (.tmp 85) (.const (.bool false))), 4, (some (79, false))⟩,
    ⟨(some 87), (.pick (.tmp 79) (.const (.bool true)) (.tmp 86)), 4, none⟩,
    ⟨(some 88), (.move (.tmp 87)), 4, none⟩,
    ⟨(some 89), (.move (.tmp 6)), 4, (some (88, false))⟩,
    ⟨(some 90), (.unOp .not 4 (.tmp 89)), 4, (some (88, false))⟩,
    ⟨(some 91), (.move (.tmp 90)), 4, (some (88, false))⟩,
    ⟨(some 92), (.fieldAddr 34 (.tmp 1) 5), 0, (some (91, true))⟩,
    ⟨(some 93), (.load 2 (.tmp 92)), 2, (some (91, true))⟩,
    ⟨(some 94), (.binOp .neq 2 (.tmp 93) (.const (.int .i64 0)) 2), 4, (some (91, true))⟩,
    ⟨(some 95), (.pick (.tmp 91) (.tmp 94) (.const (.bool false))), 4, (some (88, false))⟩,
    ⟨(some 96), (.pick (.tmp 88) (.const (.bool true)) (.tmp 95)), 4, none⟩])
  (SC.cond (.tmp 96) (SC.seq (SC.reg false [
    ⟨(some 2), (.assign (.const (.int .i64 1))), 2, none⟩])
  SC.ret) SC.skip))
  (SC.seq (SC.reg false [
    ⟨(some 2), (.assign (.const (.int .i64 0))), 2, none⟩])
  SC.ret))))))
theorem sc19 : f19.body.bind stripC = some code19 := by kernel_rfl
def v19_0 (a0 : Int) (a1 : Int) (a2 : Int) (a3 : Int) (a4 : Int) (a5 : Int) : Bool := cond (a1 != (-1)) (!(r31_0 a1)) false
def v19_1 (a0 : Int) (a1 : Int) (a2 : Int) (a3 : Int) (a4 : Int) (a5 : Int) : Bool := cond (r30_0 a0) (!(r32_0 a2)) false
def v19_2 (a0 : Int) (a1 : Int) (a2 : Int) (a3 : Int) (a4 : Int) (a5 : Int) : Bool := cond (v19_0 a0 a1 a2 a3 a4 a5) true (v19_1 a0 a1 a2 a3 a4 a5)
def v19_3 (a0 : Int) (a1 : Int) (a2 : Int) (a3 : Int) (a4 : Int) (a5 : Int) : Bool := cond (r30_1 a0) (!(r33_0 a3)) false
def v19_4 (a0 : Int) (a1 : Int) (a2 : Int) (a3 : Int) (a4 : Int) (a5 : Int) : Bool := cond (v19_2 a0 a1 a2 a3 a4 a5) true (v19_3 a0 a1 a2 a3 a4 a5)
def v19_5 (a0 : Int) (a1 : Int) (a2 : Int) (a3 : Int) (a4 : Int) (a5 : Int) : Bool := cond (r30_2 a0) (!(r34_0 a0 a1 a2 a3 a4 a5)) false
def v19_6 (a0 : Int) (a1 : Int) (a2 : Int) (a3 : Int) (a4 : Int) (a5 : Int) : Bool := cond (v19_4 a0 a1 a2 a3 a4 a5) true (v19_5 a0 a1 a2 a3 a4 a5)
def v19_7 (a0 : Int) (a1 : Int) (a2 : Int) (a3 : Int) (a4 : Int) (a5 : Int) : Bool := cond (r30_3 a0) (!(r35_0 a5)) false
def v19_8 (a0 : Int) (a1 : Int) (a2 : Int) (a3 : Int) (a4 : Int) (a5 : Int) : Bool := cond (v19_6 a0 a1 a2 a3 a4 a5) true (v19_7 a0 a1 a2 a3 a4 a5)
def v19_9 (a0 : Int) (a1 : Int) (a2 : Int) (a3 : Int) (a4 : Int) (a5 : Int) : Bool := cond (!(r30_0 a0)) (a2 != 0) false
def v19_10 (a0 : Int) (a1 : Int) (a2 : Int) (a3 : Int) (a4 : Int) (a5 : Int) : Bool := cond (!(r30_1 a0)) (a3 != 0) false
def v19_11 (a0 : Int) (a1 : Int) (a2 : Int) (a3 : Int) (a4 : Int) (a5 : Int) : Bool := cond (v19_9 a0 a1 a2 a3 a4 a5) true (v19_10 a0 a1 a2 a3 a4 a5)
def v19_12 (a0 : Int) (a1 : Int) (a2 : Int) (a3 : Int) (a4 : Int) (a5 : Int) : Bool := cond (!(r30_2 a0)) (a4 != 0) false
def v19_13 (a0 : Int) (a1 : Int) (a2 : Int) (a3 : Int) (a4 : Int) (a5 : Int) : Bool := cond (v19_11 a0 a1 a2 a3 a4 a5) true (v19_12 a0 a1 a2 a3 a4 a5)
def v19_14 (a0 : Int) (a1 : Int) (a2 : Int) (a3 : Int) (a4 : Int) (a5 : Int) : Bool := cond (!(r30_3 a0)) (a5 != 0) false
def v19_15 (a0 : Int) (a1 : Int) (a2 : Int) (a3 : Int) (a4 : Int) (a5 : Int) : Bool := cond (v19_13 a0 a1 a2 a3 a4 a5) true (v19_14 a0 a1 a2 a3 a4 a5)
def r19_0 (a0 : Int) (a1 : Int) (a2 : Int) (a3 : Int) (a4 : Int) (a5 : Int) : Int := cond (!(r29_0 a0 1 9)) 1 (cond (v19_8 a0 a1 a2 a3 a4 a5) 3 (cond (v19_15 a0 a1 a2 a3 a4 a5) 1 0))
theorem sem19 (a0 : Int) (a1 : Int) (a2 : Int) (a3 : Int) (a4 : Int) (a5 : Int)  : SemR prog 19 [.agg [.int .i64 a0, .int .i64 a1, .int .i64 a2, .int .i64 a3, .int .i64 a4, .int .i64 a5]] [.one (.int .i64 (r19_0 a0 a1 a2 a3 a4 a5))] := by
  refine SemR.of_code' func19 sc19 (by rw [ntmps19]; exact Nat.le_of_ble_eq_true rfl) (fun hl => ?_)
  rw [ntmps19, results19]
  unfold code19 r19_0
  refine CW_seq_reg ?_
  refine run_XW [] 2 (ps := []) ?_ ap_nil ?_
  · kernel_rfl
  refine XW_end (ts := [1]) (dv := [[1]]) (ka := []) (st' := ⟨97, [(1, .vptr [1] 0)], [([1], [.int .i64 a0, .int .i64 a1, .int .i64 a2, .int .i64 a3, .int .i64 a4, .int .i64 a5])], []⟩) ?_ ?_ ?_
  · kernel_rfl
  · kernel_rfl
  refine CW_assoc ?_
  refine CW_seq_reg ?_
  refine runC_XW (fz := []) (n := 2) (st' := ⟨97, [(8, .int .i64 a0), (7, .vptr [1] 0), (1, .vptr [1] 0)], [([1], [.int .i64 a0, .int .i64 a1, .int .i64 a2, .int .i64 a3, .int .i64 a4, .int .i64 a5])], []⟩) (ps := []) ?_ ap_nil ?_
  · kernel_rfl
  refine callC_XW (i := ⟨none, 29, [.one (.int .i64 a0), .one (.int .i64 1), .one (.int .i64 9)], true, (some 9), []⟩) (rs := [.one (.bool (r29_0 a0 1 9))]) ?_ ap_nil (sem29 a0 1 9) rfl ?_
  · kernel_rfl
  refine run_XW [] 1 (ps := []) ?_ ap_nil ?_
  · kernel_rfl
  refine XW_end (ts := [1, 10]) (dv := [[1]]) (ka := []) (st' := ⟨97, [(1, .vptr [1] 0), (10, .bool (!(r29_0 a0 1 9)))], [([1], [.int .i64 a0, .int .i64 a1, .int .i64 a2, .int .i64 a3, .int .i64 a4, .int .i64 a5])], []⟩) ?_ ?_ ?_
  · kernel_rfl
  · kernel_rfl
  refine CW_cond_seq (t := (!(r29_0 a0 1 9))) ?_ (fun h => ?_) (fun h => ?_)
  · kernel_rfl
  · try rw [h]
    refine CW_assoc ?_
    refine CW_seq_reg ?_
    refine run_XW [] 1 (ps := []) ?_ ap_nil ?_
    · kernel_rfl
    refine XW_end (ts := [2]) (dv := []) (ka := []) (st' := ⟨97, [(2, .int .i64 1)], [], []⟩) ?_ ?_ ?_
    · kernel_rfl
    · kernel_rfl
    refine CW_ret_seq ?_
    refine endW_ret ?_; kernel_rfl
  · try rw [h]
    refine CW_skip_seq ?_
    refine CW_seq_reg ?_
    refine runC_XW (fz := []) (n := 2) (st' := ⟨97, [(13, .int .i64 a0), (12, .vptr [1] 0), (1, .vptr [1] 0), (10, .bool false)], [([1], [.int .i64 a0, .int .i64 a1, .int .i64 a2, .int .i64 a3, .int .i64 a4, .int .i64 a5])], []⟩) (ps := []) ?_ ap_nil ?_
    · kernel_rfl
    refine callC_XW (i := ⟨none, 30, [.one (.int .i64 a0)], true, (some 14), []⟩) (rs := [.one (.bool (r30_0 a0)), .one (.bool (r30_1 a0)), .one (.bool (r30_2 a0)), .one (.bool (r30_3 a0))]) ?_ ap_nil (sem30 a0) rfl ?_
    · kernel_rfl
    refine run_XW [] 9 (ps := []) ?_ ap_nil ?_
    · kernel_rfl
    refine XW_end (ts := [1, 3, 4, 5, 6]) (dv := [[1]]) (ka := []) (st' := ⟨97, [(1, .vptr [1] 0), (3, .bool (r30_0 a0)), (4, .bool (r30_1 a0)), (5, .bool (r30_2 a0)), (6, .bool (r30_3 a0))], [([1], [.int .i64 a0, .int .i64 a1, .int .i64 a2, .int .i64 a3, .int .i64 a4, .int .i64 a5])], []⟩) ?_ ?_ ?_
    · kernel_rfl
    · kernel_rfl
    refine CW_assoc ?_
    refine CW_seq_reg ?_
    refine runC_XW (fz := []) (n := 6) (st' := ⟨97, [(24, .opt ((a1 != (-1)) == true) (.int .i64 a1)), (23, .opt ((a1 != (-1)) == true) (.vptr [1] 1)), (22, .bool (a1 != (-1))), (21, .bool (a1 != (-1))), (20, .int .i64 a1), (19, .vptr [1] 1), (1, .vptr [1] 0), (3, .bool (r30_0 a0)), (4, .bool (r30_1 a0)), (5, .bool (r30_2 a0)), (6, .bool (r30_3 a0))], [([1], [.int .i64 a0, .int .i64 a1, .int .i64 a2, .int .i64 a3, .int .i64 a4, .int .i64 a5])], []⟩) (ps := [(((a1 != (-1)) == true) = true → ((a1 != (-1)) == true) = true)]) ?_ (ap_cons (fun q0 => q0) ap_nil) ?_
    · kernel_rfl
    refine callC_XW (i := ⟨(some ((a1 != (-1)) == true)), 31, [.one (.int .i64 a1)], true, (some 25), [(((a1 != (-1)) == true) = true → ((a1 != (-1)) == true) = true)]⟩) (rs := [.one (.bool (r31_0 a1))]) ?_ (ap_cons (fun q0 => q0) ap_nil) (fun _ => (sem31 a1)) rfl ?_
    · kernel_rfl
    refine runC_XW (fz := []) (n := 1) (st' := ⟨97, [(26, .opt ((a1 != (-1)) == true) (.bool (!(r31_0 a1)))), (25, .opt ((a1 != (-1)) == true) (.bool (r31_0 a1))), (24, .opt ((a1 != (-1)) == true) (.int .i64 a1)), (23, .opt ((a1 != (-1)) == true) (.vptr [1] 1)), (22, .bool (a1 != (-1))), (21, .bool (a1 != (-1))), (20, .int .i64 a1), (19, .vptr [1] 1), (1, .vptr [1] 0), (3, .bool (r30_0 a0)), (4, .bool (r30_1 a0)), (5, .bool (r30_2 a0)), (6, .bool (r30_3 a0))], [([1], [.int .i64 a0, .int .i64 a1, .int .i64 a2, .int .i64 a3, .int .i64 a4, .int .i64 a5])], []⟩) (ps := [(((a1 != (-1)) == true) = true → ((a1 != (-1)) == true) = true)]) ?_ (ap_cons (fun q0 => q0) ap_nil) ?_
    · kernel_rfl
    refine run_as [] (t := 27) (.bool (cond (a1 != (-1)) (!(r31_0 a1)) false)) (x := .bool (cond (a1 != (-1)) (!(r31_0 a1)) false)) (ps := [((a1 != (-1)) = true → ((a1 != (-1)) == true) = true)]) ?_ (ap_cons (fun q0 => (eq_i q0)) ap_nil) rfl ?_
    · kernel_rfl
    refine gen_b (fun b27_0 hb27_0 => ?_)
    replace hb27_0 : b27_0 = v19_0 a0 a1 a2 a3 a4 a5 := by rw [hb27_0]; rfl
    refine runC_XW (fz := []) (n := 5) (st' := ⟨97, [(32, .opt ((b27_0 == false) && ((r30_0 a0) == true)) (.int .i64 a2)), (31, .opt ((b27_0 == false) && ((r30_0 a0) == true)) (.vptr [1] 2)), (30, .opt (b27_0 == false) (.bool (r30_0 a0))), (29, .opt (b27_0 == false) (.bool (r30_0 a0))), (28, .bool b27_0), (27, .bool b27_0), (26, .opt ((a1 != (-1)) == true) (.bool (!(r31_0 a1)))), (25, .opt ((a1 != (-1)) == true) (.bool (r31_0 a1))), (24, .opt ((a1 != (-1)) == true) (.int .i64 a1)), (23, .opt ((a1 != (-1)) == true) (.vptr [1] 1)), (22, .bool (a1 != (-1))), (21, .bool (a1 != (-1))), (20, .int .i64 a1), (19, .vptr [1] 1), (1, .vptr [1] 0), (3, .bool (r30_0 a0)), (4, .bool (r30_1 a0)), (5, .bool (r30_2 a0)), (6, .bool (r30_3 a0))], [([1], [.int .i64 a0, .int .i64 a1, .int .i64 a2, .int .i64 a3, .int .i64 a4, .int .i64 a5])], []⟩) (ps := [((b27_0 == false) = true → (b27_0 == false) = true), (((b27_0 == false) && ((r30_0 a0) == true)) = true → ((b27_0 == false) && ((r30_0 a0) == true)) = true)]) ?_ (ap_cons (fun q0 => q0) (ap_cons (fun q0 => q0) ap_nil)) ?_
    · kernel_rfl
    refine callC_XW (i := ⟨(some ((b27_0 == false) && ((r30_0 a0) == true))), 32, [.one (.int .i64 a2)], true, (some 33), [(((b27_0 == false) && ((r30_0 a0) == true)) = true → ((b27_0 == false) && ((r30_0 a0) == true)) = true)]⟩) (rs := [.one (.bool (r32_0 a2))]) ?_ (ap_cons (fun q0 => q0) ap_nil) (fun _ => (sem32 a2)) rfl ?_
    · kernel_rfl
    refine runC_XW (fz := []) (n := 1) (st' := ⟨97, [(34, .opt ((b27_0 == false) && ((r30_0 a0) == true)) (.bool (!(r32_0 a2)))), (33, .opt ((b27_0 == false) && ((r30_0 a0) == true)) (.bool (r32_0 a2))), (32, .opt ((b27_0 == false) && ((r30_0 a0) == true)) (.int .i64 a2)), (31, .opt ((b27_0 == false) && ((r30_0 a0) == true)) (.vptr [1] 2)), (30, .opt (b27_0 == false) (.bool (r30_0 a0))), (29, .opt (b27_0 == false) (.bool (r30_0 a0))), (28, .bool b27_0), (27, .bool b27_0), (26, .opt ((a1 != (-1)) == true) (.bool (!(r31_0 a1)))), (25, .opt ((a1 != (-1)) == true) (.bool (r31_0 a1))), (24, .opt ((a1 != (-1)) == true) (.int .i64 a1)), (23, .opt ((a1 != (-1)) == true) (.vptr [1] 1)), (22, .bool (a1 != (-1))), (21, .bool (a1 != (-1))), (20, .int .i64 a1), (19, .vptr [1] 1), (1, .vptr [1] 0), (3, .bool (r30_0 a0)), (4, .bool (r30_1 a0)), (5, .bool (r30_2 a0)), (6, .bool (r30_3 a0))], [([1], [.int .i64 a0, .int .i64 a1, .int .i64 a2, .int .i64 a3, .int .i64 a4, .int .i64 a5])], []⟩) (ps := [(((b27_0 == false) && ((r30_0 a0) == true)) = true → ((b27_0 == false) && ((r30_0 a0) == true)) = true)]) ?_ (ap_cons (fun q0 => q0) ap_nil) ?_
    · kernel_rfl
    refine run_as [] (t := 35) (.opt (b27_0 == false) (.bool (cond (r30_0 a0) (!(r32_0 a2)) false))) (x := .opt (b27_0 == false) (.bool (cond (r30_0 a0) (!(r32_0 a2)) false))) (ps := [((b27_0 == false) = true → (b27_0 == false) = true), ((r30_0 a0) = true → (b27_0 == false) = true → ((b27_0 == false) && ((r30_0 a0) == true)) = true)]) ?_ (ap_cons (fun q0 => q0) (ap_cons (fun q0 q1 => (and_i q1 (eq_i q0))) ap_nil)) rfl ?_
    · kernel_rfl
    refine gen_o (fun b35_1 hb35_1 => ?_)
    replace hb35_1 : b35_1 = v19_1 a0 a1 a2 a3 a4 a5 := by rw [hb35_1]; rfl
    refine run_as [] (t := 36) (.bool (cond b27_0 true b35_1)) (x := .bool (cond b27_0 true b35_1)) (ps := [(b27_0 = false → (b27_0 == false) = true)]) ?_ (ap_cons (fun q0 => (eq_i q0)) ap_nil) rfl ?_
    · kernel_rfl
    refine gen_b (fun b36_2 hb36_2 => ?_)
    replace hb36_2 : b36_2 = v19_2 a0 a1 a2 a3 a4 a5 := by rw [hb36_2, hb27_0, hb35_1]; rfl
    refine runC_XW (fz := []) (n := 5) (st' := ⟨97, [(41, .opt ((b36_2 == false) && ((r30_1 a0) == true)) (.int .i64 a3)), (40, .opt ((b36_2 == false) && ((r30_1 a0) == true)) (.vptr [1] 3)), (39, .opt (b36_2 == false) (.bool (r30_1 a0))), (38, .opt (b36_2 == false) (.bool (r30_1 a0))), (37, .bool b36_2), (36, .bool b36_2), (35, .opt (b27_0 == false) (.bool b35_1)), (34, .opt ((b27_0 == false) && ((r30_0 a0) == true)) (.bool (!(r32_0 a2)))), (33, .opt ((b27_0 == false) && ((r30_0 a0) == true)) (.bool (r32_0 a2))), (32, .opt ((b27_0 == false) && ((r30_0 a0) == true)) (.int .i64 a2)), (31, .opt ((b27_0 == false) && ((r30_0 a0) == true)) (.vptr [1] 2)), (30, .opt (b27_0 == false) (.bool (r30_0 a0))), (29, .opt (b27_0 == false) (.bool (r30_0 a0))), (28, .bool b27_0), (27, .bool b27_0), (26, .opt ((a1 != (-1)) == true) (.bool (!(r31_0 a1)))), (25, .opt ((a1 != (-1)) == true) (.bool (r31_0 a1))), (24, .opt ((a1 != (-1)) == true) (.int .i64 a1)), (23, .opt ((a1 != (-1)) == true) (.vptr [1] 1)), (22, .bool (a1 != (-1))), (21, .bool (a1 != (-1))), (20, .int .i64 a1), (19, .vptr [1] 1), (1, .vptr [1] 0), (3, .bool (r30_0 a0)), (4, .bool (r30_1 a0)), (5, .bool (r30_2 a0)), (6, .bool (r30_3 a0))], [([1], [.int .i64 a0, .int .i64 a1, .int .i64 a2, .int .i64 a3, .int .i64 a4, .int .i64 a5])], []⟩) (ps := [((b36_2 == false) = true → (b36_2 == false) = true), (((b36_2 == false) && ((r30_1 a0) == true)) = true → ((b36_2 == false) && ((r30_1 a0) == true)) = true)]) ?_ (ap_cons (fun q0 => q0) (ap_cons (fun q0 => q0) ap_nil)) ?_
    · kernel_rfl
    refine callC_XW (i := ⟨(some ((b36_2 == false) && ((r30_1 a0) == true))), 33, [.one (.int .i64 a3)], true, (some 42), [(((b36_2 == false) && ((r30_1 a0) == true)) = true → ((b36_2 == false) && ((r30_1 a0) == true)) = true)]⟩) (rs := [.one (.bool (r33_0 a3))]) ?_ (ap_cons (fun q0 => q0) ap_nil) (fun _ => (sem33 a3)) rfl ?_
    · kernel_rfl
    refine runC_XW (fz := []) (n := 1) (st' := ⟨97, [(43, .opt ((b36_2 == false) && ((r30_1 a0) == true)) (.bool (!(r33_0 a3)))), (42, .opt ((b36_2 == false) && ((r30_1 a0) == true)) (.bool (r33_0 a3))), (41, .opt ((b36_2 == false) && ((r30_1 a0) == true)) (.int .i64 a3)), (40, .opt ((b36_2 == false) && ((r30_1 a0) == true)) (.vptr [1] 3)), (39, .opt (b36_2 == false) (.bool (r30_1 a0))), (38, .opt (b36_2 == false) (.bool (r30_1 a0))), (37, .bool b36_2), (36, .bool b36_2), (35, .opt (b27_0 == false) (.bool b35_1)), (34, .opt ((b27_0 == false) && ((r30_0 a0) == true)) (.bool (!(r32_0 a2)))), (33, .opt ((b27_0 == false) && ((r30_0 a0) == true)) (.bool (r32_0 a2))), (32, .opt ((b27_0 == false) && ((r30_0 a0) == true)) (.int .i64 a2)), (31, .opt ((b27_0 == false) && ((r30_0 a0) == true)) (.vptr [1] 2)), (30, .opt (b27_0 == false) (.bool (r30_0 a0))), (29, .opt (b27_0 == false) (.bool (r30_0 a0))), (28, .bool b27_0), (27, .bool b27_0), (26, .opt ((a1 != (-1)) == true) (.bool (!(r31_0 a1)))), (25, .opt ((a1 != (-1)) == true) (.bool (r31_0 a1))), (24, .opt ((a1 != (-1)) == true) (.int .i64 a1)), (23, .opt ((a1 != (-1)) == true) (.vptr [1] 1)), (22, .bool (a1 != (-1))), (21, .bool (a1 != (-1))), (20, .int .i64 a1), (19, .vptr [1] 1), (1, .vptr [1] 0), (3, .bool (r30_0 a0)), (4, .bool (r30_1 a0)), (5, .bool (r30_2 a0)), (6, .bool (r30_3 a0))], [([1], [.int .i64 a0, .int .i64 a1, .int .i64 a2, .int .i64 a3, .int .i64 a4, .int .i64 a5])], []⟩) (ps := [(((b36_2 == false) && ((r30_1 a0) == true)) = true → ((b36_2 == false) && ((r30_1 a0) == true)) = true)]) ?_ (ap_cons (fun q0 => q0) ap_nil) ?_
    · kernel_rfl
    refine run_as [] (t := 44) (.opt (b36_2 == false) (.bool (cond (r30_1 a0) (!(r33_0 a3)) false))) (x := .opt (b36_2 == false) (.bool (cond (r30_1 a0) (!(r33_0 a3)) false))) (ps := [((b36_2 == false) = true → (b36_2 == false) = true), ((r30_1 a0) = true → (b36_2 == false) = true → ((b36_2 == false) && ((r30_1 a0) == true)) = true)]) ?_ (ap_cons (fun q0 => q0) (ap_cons (fun q0 q1 => (and_i q1 (eq_i q0))) ap_nil)) rfl ?_
    · kernel_rfl
    refine gen_o (fun b44_3 hb44_3 => ?_)
    replace hb44_3 : b44_3 = v19_3 a0 a1 a2 a3 a4 a5 := by rw [hb44_3]; rfl
    refine run_as [] (t := 45) (.bool (cond b36_2 true b44_3)) (x := .bool (cond b36_2 true b44_3)) (ps := [(b36_2 = false → (b36_2 == false) = true)]) ?_ (ap_cons (fun q0 => (eq_i q0)) ap_nil) rfl ?_
    · kernel_rfl
    refine gen_b (fun b45_4 hb45_4 => ?_)
    replace hb45_4 : b45_4 = v19_4 a0 a1 a2 a3 a4 a5 := by rw [hb45_4, hb36_2, hb44_3]; rfl
    refine runC_XW (fz := []) (n := 4) (st' := ⟨97, [(49, .opt ((b45_4 == false) && ((r30_2 a0) == true)) (.agg [.int .i64 a0, .int .i64 a1, .int .i64 a2, .int .i64 a3, .int .i64 a4, .int .i64 a5])), (48, .opt (b45_4 == false) (.bool (r30_2 a0))), (47, .opt (b45_4 == false) (.bool (r30_2 a0))), (46, .bool b45_4), (45, .bool b45_4), (44, .opt (b36_2 == false) (.bool b44_3)), (43, .opt ((b36_2 == false) && ((r30_1 a0) == true)) (.bool (!(r33_0 a3)))), (42, .opt ((b36_2 == false) && ((r30_1 a0) == true)) (.bool (r33_0 a3))), (41, .opt ((b36_2 == false) && ((r30_1 a0) == true)) (.int .i64 a3)), (40, .opt ((b36_2 == false) && ((r30_1 a0) == true)) (.vptr [1] 3)), (39, .opt (b36_2 == false) (.bool (r30_1 a0))), (38, .opt (b36_2 == false) (.bool (r30_1 a0))), (37, .bool b36_2), (36, .bool b36_2), (35, .opt (b27_0 == false) (.bool b35_1)), (34, .opt ((b27_0 == false) && ((r30_0 a0) == true)) (.bool (!(r32_0 a2)))), (33, .opt ((b27_0 == false) && ((r30_0 a0) == true)) (.bool (r32_0 a2))), (32, .opt ((b27_0 == false) && ((r30_0 a0) == true)) (.int .i64 a2)), (31, .opt ((b27_0 == false) && ((r30_0 a0) == true)) (.vptr [1] 2)), (30, .opt (b27_0 == false) (.bool (r30_0 a0))), (29, .opt (b27_0 == false) (.bool (r30_0 a0))), (28, .bool b27_0), (27, .bool b27_0), (26, .opt ((a1 != (-1)) == true) (.bool (!(r31_0 a1)))), (25, .opt ((a1 != (-1)) == true) (.bool (r31_0 a1))), (24, .opt ((a1 != (-1)) == true) (.int .i64 a1)), (23, .opt ((a1 != (-1)) == true) (.vptr [1] 1)), (22, .bool (a1 != (-1))), (21, .bool (a1 != (-1))), (20, .int .i64 a1), (19, .vptr [1] 1), (1, .vptr [1] 0), (3, .bool (r30_0 a0)), (4, .bool (r30_1 a0)), (5, .bool (r30_2 a0)), (6, .bool (r30_3 a0))], [([1], [.int .i64 a0, .int .i64 a1, .int .i64 a2, .int .i64 a3, .int .i64 a4, .int .i64 a5])], []⟩) (ps := [((b45_4 == false) = true → (b45_4 == false) = true)]) ?_ (ap_cons (fun q0 => q0) ap_nil) ?_
    · kernel_rfl
    refine callC_XW (i := ⟨(some ((b45_4 == false) && ((r30_2 a0) == true))), 34, [.agg [.int .i64 a0, .int .i64 a1, .int .i64 a2, .int .i64 a3, .int .i64 a4, .int .i64 a5]], true, (some 50), [(((b45_4 == false) && ((r30_2 a0) == true)) = true → ((b45_4 == false) && ((r30_2 a0) == true)) = true)]⟩) (rs := [.one (.bool (r34_0 a0 a1 a2 a3 a4 a5))]) ?_ (ap_cons (fun q0 => q0) ap_nil) (fun _ => (sem34 a0 a1 a2 a3 a4 a5)) rfl ?_
    · kernel_rfl
    refine runC_XW (fz := []) (n := 1) (st' := ⟨97, [(51, .opt ((b45_4 == false) && ((r30_2 a0) == true)) (.bool (!(r34_0 a0 a1 a2 a3 a4 a5)))), (50, .opt ((b45_4 == false) && ((r30_2 a0) == true)) (.bool (r34_0 a0 a1 a2 a3 a4 a5))), (49, .opt ((b45_4 == false) && ((r30_2 a0) == true)) (.agg [.int .i64 a0, .int .i64 a1, .int .i64 a2, .int .i64 a3, .int .i64 a4, .int .i64 a5])), (48, .opt (b45_4 == false) (.bool (r30_2 a0))), (47, .opt (b45_4 == false) (.bool (r30_2 a0))), (46, .bool b45_4), (45, .bool b45_4), (44, .opt (b36_2 == false) (.bool b44_3)), (43, .opt ((b36_2 == false) && ((r30_1 a0) == true)) (.bool (!(r33_0 a3)))), (42, .opt ((b36_2 == false) && ((r30_1 a0) == true)) (.bool (r33_0 a3))), (41, .opt ((b36_2 == false) && ((r30_1 a0) == true)) (.int .i64 a3)), (40, .opt ((b36_2 == false) && ((r30_1 a0) == true)) (.vptr [1] 3)), (39, .opt (b36_2 == false) (.bool (r30_1 a0))), (38, .opt (b36_2 == false) (.bool (r30_1 a0))), (37, .bool b36_2), (36, .bool b36_2), (35, .opt (b27_0 == false) (.bool b35_1)), (34, .opt ((b27_0 == false) && ((r30_0 a0) == true)) (.bool (!(r32_0 a2)))), (33, .opt ((b27_0 == false) && ((r30_0 a0) == true)) (.bool (r32_0 a2))), (32, .opt ((b27_0 == false) && ((r30_0 a0) == true)) (.int .i64 a2)), (31, .opt ((b27_0 == false) && ((r30_0 a0) == true)) (.vptr [1] 2)), (30, .opt (b27_0 == false) (.bool (r30_0 a0))), (29, .opt (b27_0 == false) (.bool (r30_0 a0))), (28, .bool b27_0), (27, .bool b27_0), (26, .opt ((a1 != (-1)) == true) (.bool (!(r31_0 a1)))), (25, .opt ((a1 != (-1)) == true) (.bool (r31_0 a1))), (24, .opt ((a1 != (-1)) == true) (.int .i64 a1)), (23, .opt ((a1 != (-1)) == true) (.vptr [1] 1)), (22, .bool (a1 != (-1))), (21, .bool (a1 != (-1))), (20, .int .i64 a1), (19, .vptr [1] 1), (1, .vptr [1] 0), (3, .bool (r30_0 a0)), (4, .bool (r30_1 a0)), (5, .bool (r30_2 a0)), (6, .bool (r30_3 a0))], [([1], [.int .i64 a0, .int .i64 a1, .int .i64 a2, .int .i64 a3, .int .i64 a4, .int .i64 a5])], []⟩) (ps := [(((b45_4 == false) && ((r30_2 a0) == true)) = true → ((b45_4 == false) && ((r30_2 a0) == true)) = true)]) ?_ (ap_cons (fun q0 => q0) ap_nil) ?_
    · kernel_rfl
    refine run_as [] (t := 52) (.opt (b45_4 == false) (.bool (cond (r30_2 a0) (!(r34_0 a0 a1 a2 a3 a4 a5)) false))) (x := .opt (b45_4 == false) (.bool (cond (r30_2 a0) (!(r34_0 a0 a1 a2 a3 a4 a5)) false))) (ps := [((b45_4 == false) = true → (b45_4 == false) = true), ((r30_2 a0) = true → (b45_4 == false) = true → ((b45_4 == false) && ((r30_2 a0) == true)) = true)]) ?_ (ap_cons (fun q0 => q0) (ap_cons (fun q0 q1 => (and_i q1 (eq_i q0))) ap_nil)) rfl ?_
    · kernel_rfl
    refine gen_o (fun b52_5 hb52_5 => ?_)
    replace hb52_5 : b52_5 = v19_5 a0 a1 a2 a3 a4 a5 := by rw [hb52_5]; rfl
    refine run_as [] (t := 53) (.bool (cond b45_4 true b52_5)) (x := .bool (cond b45_4 true b52_5)) (ps := [(b45_4 = false → (b45_4 == false) = true)]) ?_ (ap_cons (fun q0 => (eq_i q0)) ap_nil) rfl ?_
    · kernel_rfl
    refine gen_b (fun b53_6 hb53_6 => ?_)
    replace hb53_6 : b53_6 = v19_6 a0 a1 a2 a3 a4 a5 := by rw [hb53_6, hb45_4, hb52_5]; rfl
    refine runC_XW (fz := []) (n := 5) (st' := ⟨97, [(58, .opt ((b53_6 == false) && ((r30_3 a0) == true)) (.int .i64 a5)), (57, .opt ((b53_6 == false) && ((r30_3 a0) == true)) (.vptr [1] 5)), (56, .opt (b53_6 == false) (.bool (r30_3 a0))), (55, .opt (b53_6 == false) (.bool (r30_3 a0))), (54, .bool b53_6), (53, .bool b53_6), (52, .opt (b45_4 == false) (.bool b52_5)), (51, .opt ((b45_4 == false) && ((r30_2 a0) == true)) (.bool (!(r34_0 a0 a1 a2 a3 a4 a5)))), (50, .opt ((b45_4 == false) && ((r30_2 a0) == true)) (.bool (r34_0 a0 a1 a2 a3 a4 a5))), (49, .opt ((b45_4 == false) && ((r30_2 a0) == true)) (.agg [.int .i64 a0, .int .i64 a1, .int .i64 a2, .int .i64 a3, .int .i64 a4, .int .i64 a5])), (48, .opt (b45_4 == false) (.bool (r30_2 a0))), (47, .opt (b45_4 == false) (.bool (r30_2 a0))), (46, .bool b45_4), (45, .bool b45_4), (44, .opt (b36_2 == false) (.bool b44_3)), (43, .opt ((b36_2 == false) && ((r30_1 a0) == true)) (.bool (!(r33_0 a3)))), (42, .opt ((b36_2 == false) && ((r30_1 a0) == true)) (.bool (r33_0 a3))), (41, .opt ((b36_2 == false) && ((r30_1 a0) == true)) (.int .i64 a3)), (40, .opt ((b36_2 == false) && ((r30_1 a0) == true)) (.vptr [1] 3)), (39, .opt (b36_2 == false) (.bool (r30_1 a0))), (38, .opt (b36_2 == false) (.bool (r30_1 a0))), (37, .bool b36_2), (36, .bool b36_2), (35, .opt (b27_0 == false) (.bool b35_1)), (34, .opt ((b27_0 == false) && ((r30_0 a0) == true)) (.bool (!(r32_0 a2)))), (33, .opt ((b27_0 == false) && ((r30_0 a0) == true)) (.bool (r32_0 a2))), (32, .opt ((b27_0 == false) && ((r30_0 a0) == true)) (.int .i64 a2)), (31, .opt ((b27_0 == false) && ((r30_0 a0) == true)) (.vptr [1] 2)), (30, .opt (b27_0 == false) (.bool (r30_0 a0))), (29, .opt (b27_0 == false) (.bool (r30_0 a0))), (28, .bool b27_0), (27, .bool b27_0), (26, .opt ((a1 != (-1)) == true) (.bool (!(r31_0 a1)))), (25, .opt ((a1 != (-1)) == true) (.bool (r31_0 a1))), (24, .opt ((a1 != (-1)) == true) (.int .i64 a1)), (23, .opt ((a1 != (-1)) == true) (.vptr [1] 1)), (22, .bool (a1 != (-1))), (21, .bool (a1 != (-1))), (20, .int .i64 a1), (19, .vptr [1] 1), (1, .vptr [1] 0), (3, .bool (r30_0 a0)), (4, .bool (r30_1 a0)), (5, .bool (r30_2 a0)), (6, .bool (r30_3 a0))], [([1], [.int .i64 a0, .int .i64 a1, .int .i64 a2, .int .i64 a3, .int .i64 a4, .int .i64 a5])], []⟩) (ps := [((b53_6 == false) = true → (b53_6 == false) = true), (((b53_6 == false) && ((r30_3 a0) == true)) = true → ((b53_6 == false) && ((r30_3 a0) == true)) = true)]) ?_ (ap_cons (fun q0 => q0) (ap_cons (fun q0 => q0) ap_nil)) ?_
    · kernel_rfl
    refine callC_XW (i := ⟨(some ((b53_6 == false) && ((r30_3 a0) == true))), 35, [.one (.int .i64 a5)], true, (some 59), [(((b53_6 == false) && ((r30_3 a0) == true)) = true → ((b53_6 == false) && ((r30_3 a0) == true)) = true)]⟩) (rs := [.one (.bool (r35_0 a5))]) ?_ (ap_cons (fun q0 => q0) ap_nil) (fun _ => (sem35 a5)) rfl ?_
    · kernel_rfl
    refine runC_XW (fz := []) (n := 1) (st' := ⟨97, [(60, .opt ((b53_6 == false) && ((r30_3 a0) == true)) (.bool (!(r35_0 a5)))), (59, .opt ((b53_6 == false) && ((r30_3 a0) == true)) (.bool (r35_0 a5))), (58, .opt ((b53_6 == false) && ((r30_3 a0) == true)) (.int .i64 a5)), (57, .opt ((b53_6 == false) && ((r30_3 a0) == true)) (.vptr [1] 5)), (56, .opt (b53_6 == false) (.bool (r30_3 a0))), (55, .opt (b53_6 == false) (.bool (r30_3 a0))), (54, .bool b53_6), (53, .bool b53_6), (52, .opt (b45_4 == false) (.bool b52_5)), (51, .opt ((b45_4 == false) && ((r30_2 a0) == true)) (.bool (!(r34_0 a0 a1 a2 a3 a4 a5)))), (50, .opt ((b45_4 == false) && ((r30_2 a0) == true)) (.bool (r34_0 a0 a1 a2 a3 a4 a5))), (49, .opt ((b45_4 == false) && ((r30_2 a0) == true)) (.agg [.int .i64 a0, .int .i64 a1, .int .i64 a2, .int .i64 a3, .int .i64 a4, .int .i64 a5])), (48, .opt (b45_4 == false) (.bool (r30_2 a0))), (47, .opt (b45_4 == false) (.bool (r30_2 a0))), (46, .bool b45_4), (45, .bool b45_4), (44, .opt (b36_2 == false) (.bool b44_3)), (43, .opt ((b36_2 == false) && ((r30_1 a0) == true)) (.bool (!(r33_0 a3)))), (42, .opt ((b36_2 == false) && ((r30_1 a0) == true)) (.bool (r33_0 a3))), (41, .opt ((b36_2 == false) && ((r30_1 a0) == true)) (.int .i64 a3)), (40, .opt ((b36_2 == false) && ((r30_1 a0) == true)) (.vptr [1] 3)), (39, .opt (b36_2 == false) (.bool (r30_1 a0))), (38, .opt (b36_2 == false) (.bool (r30_1 a0))), (37, .bool b36_2), (36, .bool b36_2), (35, .opt (b27_0 == false) (.bool b35_1)), (34, .opt ((b27_0 == false) && ((r30_0 a0) == true)) (.bool (!(r32_0 a2)))), (33, .opt ((b27_0 == false) && ((r30_0 a0) == true)) (.bool (r32_0 a2))), (32, .opt ((b27_0 == false) && ((r30_0 a0) == true)) (.int .i64 a2)), (31, .opt ((b27_0 == false) && ((r30_0 a0) == true)) (.vptr [1] 2)), (30, .opt (b27_0 == false) (.bool (r30_0 a0))), (29, .opt (b27_0 == false) (.bool (r30_0 a0))), (28, .bool b27_0), (27, .bool b27_0), (26, .opt ((a1 != (-1)) == true) (.bool (!(r31_0 a1)))), (25, .opt ((a1 != (-1)) == true) (.bool (r31_0 a1))), (24, .opt ((a1 != (-1)) == true) (.int .i64 a1)), (23, .opt ((a1 != (-1)) == true) (.vptr [1] 1)), (22, .bool (a1 != (-1))), (21, .bool (a1 != (-1))), (20, .int .i64 a1), (19, .vptr [1] 1), (1, .vptr [1] 0), (3, .bool (r30_0 a0)), (4, .bool (r30_1 a0)), (5, .bool (r30_2 a0)), (6, .bool (r30_3 a0))], [([1], [.int .i64 a0, .int .i64 a1, .int .i64 a2, .int .i64 a3, .int .i64 a4, .int .i64 a5])], []⟩) (ps := [(((b53_6 == false) && ((r30_3 a0) == true)) = true → ((b53_6 == false) && ((r30_3 a0) == true)) = true)]) ?_ (ap_cons (fun q0 => q0) ap_nil) ?_
    · kernel_rfl
    refine run_as [] (t := 61) (.opt (b53_6 == false) (.bool (cond (r30_3 a0) (!(r35_0 a5)) false))) (x := .opt (b53_6 == false) (.bool (cond (r30_3 a0) (!(r35_0 a5)) false))) (ps := [((b53_6 == false) = true → (b53_6 == false) = true), ((r30_3 a0) = true → (b53_6 == false) = true → ((b53_6 == false) && ((r30_3 a0) == true)) = true)]) ?_ (ap_cons (fun q0 => q0) (ap_cons (fun q0 q1 => (and_i q1 (eq_i q0))) ap_nil)) rfl ?_
    · kernel_rfl
    refine gen_o (fun b61_7 hb61_7 => ?_)
    replace hb61_7 : b61_7 = v19_7 a0 a1 a2 a3 a4 a5 := by rw [hb61_7]; rfl
    refine run_as [] (t := 62) (.bool (cond b53_6 true b61_7)) (x := .bool (cond b53_6 true b61_7)) (ps := [(b53_6 = false → (b53_6 == false) = true)]) ?_ (ap_cons (fun q0 => (eq_i q0)) ap_nil) rfl ?_
    · kernel_rfl
    refine gen_b (fun b62_8 hb62_8 => ?_)
    replace hb62_8 : b62_8 = v19_8 a0 a1 a2 a3 a4 a5 := by rw [hb62_8, hb53_6, hb61_7]; rfl
    refine XW_end (ts := [1, 3, 4, 5, 6, 62]) (dv := [[1]]) (ka := []) (st' := ⟨97, [(1, .vptr [1] 0), (3, .bool (r30_0 a0)), (4, .bool (r30_1 a0)), (5, .bool (r30_2 a0)), (6, .bool (r30_3 a0)), (62, .bool b62_8)], [([1], [.int .i64 a0, .int .i64 a1, .int .i64 a2, .int .i64 a3, .int .i64 a4, .int .i64 a5])], []⟩) ?_ ?_ ?_
    · kernel_rfl
    · kernel_rfl
    refine CW_cond_seq (t := b62_8) ?_ (fun h => ?_) (fun h => ?_)
    · kernel_rfl
    · subst h
      try rw [← hb62_8]
      refine CW_assoc ?_
      refine CW_seq_reg ?_
      refine run_XW [] 1 (ps := []) ?_ ap_nil ?_
      · kernel_rfl
      refine XW_end (ts := [2]) (dv := []) (ka := []) (st' := ⟨97, [(2, .int .i64 3)], [], []⟩) ?_ ?_ ?_
      · kernel_rfl
      · kernel_rfl
      refine CW_ret_seq ?_
      refine endW_ret ?_; kernel_rfl
    · subst h
      try rw [← hb62_8]
      refine CW_skip_seq ?_
      refine CW_assoc ?_
      refine CW_seq_reg ?_
      refine runC_XW (fz := []) (n := 6) (st' := ⟨97, [(68, .opt ((!(r30_0 a0)) == true) (.bool (a2 != 0))), (67, .opt ((!(r30_0 a0)) == true) (.int .i64 a2)), (66, .opt ((!(r30_0 a0)) == true) (.vptr [1] 2)), (65, .bool (!(r30_0 a0))), (64, .bool (!(r30_0 a0))), (63, .bool (r30_0 a0)), (1, .vptr [1] 0), (3, .bool (r30_0 a0)), (4, .bool (r30_1 a0)), (5, .bool (r30_2 a0)), (6, .bool (r30_3 a0)), (62, .bool false)], [([1], [.int .i64 a0, .int .i64 a1, .int .i64 a2, .int .i64 a3, .int .i64 a4, .int .i64 a5])], []⟩) (ps := [(((!(r30_0 a0)) == true) = true → ((!(r30_0 a0)) == true) = true), (((!(r30_0 a0)) == true) = true → ((!(r30_0 a0)) == true) = true)]) ?_ (ap_cons (fun q0 => q0) (ap_cons (fun q0 => q0) ap_nil)) ?_
      · kernel_rfl
      refine run_as [] (t := 69) (.bool (cond (!(r30_0 a0)) (a2 != 0) false)) (x := .bool (cond (!(r30_0 a0)) (a2 != 0) false)) (ps := [((!(r30_0 a0)) = true → ((!(r30_0 a0)) == true) = true)]) ?_ (ap_cons (fun q0 => (eq_i q0)) ap_nil) rfl ?_
      · kernel_rfl
      refine gen_b (fun b69_9 hb69_9 => ?_)
      replace hb69_9 : b69_9 = v19_9 a0 a1 a2 a3 a4 a5 := by rw [hb69_9]; rfl
      refine runC_XW (fz := []) (n := 7) (st' := ⟨97, [(76, .opt ((b69_9 == false) && ((!(r30_1 a0)) == true)) (.bool (a3 != 0))), (75, .opt ((b69_9 == false) && ((!(r30_1 a0)) == true)) (.int .i64 a3)), (74, .opt ((b69_9 == false) && ((!(r30_1 a0)) == true)) (.vptr [1] 3)), (73, .opt (b69_9 == false) (.bool (!(r30_1 a0)))), (72, .opt (b69_9 == false) (.bool (!(r30_1 a0)))), (71, .opt (b69_9 == false) (.bool (r30_1 a0))), (70, .bool b69_9), (69, .bool b69_9), (68, .opt ((!(r30_0 a0)) == true) (.bool (a2 != 0))), (67, .opt ((!(r30_0 a0)) == true) (.int .i64 a2)), (66, .opt ((!(r30_0 a0)) == true) (.vptr [1] 2)), (65, .bool (!(r30_0 a0))), (64, .bool (!(r30_0 a0))), (63, .bool (r30_0 a0)), (1, .vptr [1] 0), (3, .bool (r30_0 a0)), (4, .bool (r30_1 a0)), (5, .bool (r30_2 a0)), (6, .bool (r30_3 a0)), (62, .bool false)], [([1], [.int .i64 a0, .int .i64 a1, .int .i64 a2, .int .i64 a3, .int .i64 a4, .int .i64 a5])], []⟩) (ps := [((b69_9 == false) = true → (b69_9 == false) = true), ((b69_9 == false) = true → (b69_9 == false) = true), (((b69_9 == false) && ((!(r30_1 a0)) == true)) = true → ((b69_9 == false) && ((!(r30_1 a0)) == true)) = true), (((b69_9 == false) && ((!(r30_1 a0)) == true)) = true → ((b69_9 == false) && ((!(r30_1 a0)) == true)) = true)]) ?_ (ap_cons (fun q0 => q0) (ap_cons (fun q0 => q0) (ap_cons (fun q0 => q0) (ap_cons (fun q0 => q0) ap_nil)))) ?_
      · kernel_rfl
      refine run_as [] (t := 77) (.opt (b69_9 == false) (.bool (cond (!(r30_1 a0)) (a3 != 0) false))) (x := .opt (b69_9 == false) (.bool (cond (!(r30_1 a0)) (a3 != 0) false))) (ps := [((b69_9 == false) = true → (b69_9 == false) = true), ((!(r30_1 a0)) = true → (b69_9 == false) = true → ((b69_9 == false) && ((!(r30_1 a0)) == true)) = true)]) ?_ (ap_cons (fun q0 => q0) (ap_cons (fun q0 q1 => (and_i q1 (eq_i q0))) ap_nil)) rfl ?_
      · kernel_rfl
      refine gen_o (fun b77_10 hb77_10 => ?_)
      replace hb77_10 : b77_10 = v19_10 a0 a1 a2 a3 a4 a5 := by rw [hb77_10]; rfl
      refine run_as [] (t := 78) (.bool (cond b69_9 true b77_10)) (x := .bool (cond b69_9 true b77_10)) (ps := [(b69_9 = false → (b69_9 == false) = true)]) ?_ (ap_cons (fun q0 => (eq_i q0)) ap_nil) rfl ?_
      · kernel_rfl
      refine gen_b (fun b78_11 hb78_11 => ?_)
      replace hb78_11 : b78_11 = v19_11 a0 a1 a2 a3 a4 a5 := by rw [hb78_11, hb69_9, hb77_10]; rfl
      refine runC_XW (fz := []) (n := 7) (st' := ⟨97, [(85, .opt ((b78_11 == false) && ((!(r30_2 a0)) == true)) (.bool (a4 != 0))), (84, .opt ((b78_11 == false) && ((!(r30_2 a0)) == true)) (.int .i64 a4)), (83, .opt ((b78_11 == false) && ((!(r30_2 a0)) == true)) (.vptr [1] 4)), (82, .opt (b78_11 == false) (.bool (!(r30_2 a0)))), (81, .opt (b78_11 == false) (.bool (!(r30_2 a0)))), (80, .opt (b78_11 == false) (.bool (r30_2 a0))), (79, .bool b78_11), (78, .bool b78_11), (77, .opt (b69_9 == false) (.bool b77_10)), (76, .opt ((b69_9 == false) && ((!(r30_1 a0)) == true)) (.bool (a3 != 0))), (75, .opt ((b69_9 == false) && ((!(r30_1 a0)) == true)) (.int .i64 a3)), (74, .opt ((b69_9 == false) && ((!(r30_1 a0)) == true)) (.vptr [1] 3)), (73, .opt (b69_9 == false) (.bool (!(r30_1 a0)))), (72, .opt (b69_9 == false) (.bool (!(r30_1 a0)))), (71, .opt (b69_9 == false) (.bool (r30_1 a0))), (70, .bool b69_9), (69, .bool b69_9), (68, .opt ((!(r30_0 a0)) == true) (.bool (a2 != 0))), (67, .opt ((!(r30_0 a0)) == true) (.int .i64 a2)), (66, .opt ((!(r30_0 a0)) == true) (.vptr [1] 2)), (65, .bool (!(r30_0 a0))), (64, .bool (!(r30_0 a0))), (63, .bool (r30_0 a0)), (1, .vptr [1] 0), (3, .bool (r30_0 a0)), (4, .bool (r30_1 a0)), (5, .bool (r30_2 a0)), (6, .bool (r30_3 a0)), (62, .bool false)], [([1], [.int .i64 a0, .int .i64 a1, .int .i64 a2, .int .i64 a3, .int .i64 a4, .int .i64 a5])], []⟩) (ps := [((b78_11 == false) = true → (b78_11 == false) = true), ((b78_11 == false) = true → (b78_11 == false) = true), (((b78_11 == false) && ((!(r30_2 a0)) == true)) = true → ((b78_11 == false) && ((!(r30_2 a0)) == true)) = true), (((b78_11 == false) && ((!(r30_2 a0)) == true)) = true → ((b78_11 == false) && ((!(r30_2 a0)) == true)) = true)]) ?_ (ap_cons (fun q0 => q0) (ap_cons (fun q0 => q0) (ap_cons (fun q0 => q0) (ap_cons (fun q0 => q0) ap_nil)))) ?_
      · kernel_rfl
      refine run_as [] (t := 86) (.opt (b78_11 == false) (.bool (cond (!(r30_2 a0)) (a4 != 0) false))) (x := .opt (b78_11 == false) (.bool (cond (!(r30_2 a0)) (a4 != 0) false))) (ps := [((b78_11 == false) = true → (b78_11 == false) = true), ((!(r30_2 a0)) = true → (b78_11 == false) = true → ((b78_11 == false) && ((!(r30_2 a0)) == true)) = true)]) ?_ (ap_cons (fun q0 => q0) (ap_cons (fun q0 q1 => (and_i q1 (eq_i q0))) ap_nil)) rfl ?_
      · kernel_rfl
      refine gen_o (fun b86_12 hb86_12 => ?_)
      replace hb86_12 : b86_12 = v19_12 a0 a1 a2 a3 a4 a5 := by rw [hb86_12]; rfl
      refine run_as [] (t := 87) (.bool (cond b78_11 true b86_12)) (x := .bool (cond b78_11 true b86_12)) (ps := [(b78_11 = false → (b78_11 == false) = true)]) ?_ (ap_cons (fun q0 => (eq_i q0)) ap_nil) rfl ?_
      · kernel_rfl
      refine gen_b (fun b87_13 hb87_13 => ?_)
      replace hb87_13 : b87_13 = v19_13 a0 a1 a2 a3 a4 a5 := by rw [hb87_13, hb78_11, hb86_12]; rfl
      refine runC_XW (fz := []) (n := 7) (st' := ⟨97, [(94, .opt ((b87_13 == false) && ((!(r30_3 a0)) == true)) (.bool (a5 != 0))), (93, .opt ((b87_13 == false) && ((!(r30_3 a0)) == true)) (.int .i64 a5)), (92, .opt ((b87_13 == false) && ((!(r30_3 a0)) == true)) (.vptr [1] 5)), (91, .opt (b87_13 == false) (.bool (!(r30_3 a0)))), (90, .opt (b87_13 == false) (.bool (!(r30_3 a0)))), (89, .opt (b87_13 == false) (.bool (r30_3 a0))), (88, .bool b87_13), (87, .bool b87_13), (86, .opt (b78_11 == false) (.bool b86_12)), (85, .opt ((b78_11 == false) && ((!(r30_2 a0)) == true)) (.bool (a4 != 0))), (84, .opt ((b78_11 == false) && ((!(r30_2 a0)) == true)) (.int .i64 a4)), (83, .opt ((b78_11 == false) && ((!(r30_2 a0)) == true)) (.vptr [1] 4)), (82, .opt (b78_11 == false) (.bool (!(r30_2 a0)))), (81, .opt (b78_11 == false) (.bool (!(r30_2 a0)))), (80, .opt (b78_11 == false) (.bool (r30_2 a0))), (79, .bool b78_11), (78, .bool b78_11), (77, .opt (b69_9 == false) (.bool b77_10)), (76, .opt ((b69_9 == false) && ((!(r30_1 a0)) == true)) (.bool (a3 != 0))), (75, .opt ((b69_9 == false) && ((!(r30_1 a0)) == true)) (.int .i64 a3)), (74, .opt ((b69_9 == false) && ((!(r30_1 a0)) == true)) (.vptr [1] 3)), (73, .opt (b69_9 == false) (.bool (!(r30_1 a0)))), (72, .opt (b69_9 == false) (.bool (!(r30_1 a0)))), (71, .opt (b69_9 == false) (.bool (r30_1 a0))), (70, .bool b69_9), (69, .bool b69_9), (68, .opt ((!(r30_0 a0)) == true) (.bool (a2 != 0))), (67, .opt ((!(r30_0 a0)) == true) (.int .i64 a2)), (66, .opt ((!(r30_0 a0)) == true) (.vptr [1] 2)), (65, .bool (!(r30_0 a0))), (64, .bool (!(r30_0 a0))), (63, .bool (r30_0 a0)), (1, .vptr [1] 0), (3, .bool (r30_0 a0)), (4, .bool (r30_1 a0)), (5, .bool (r30_2 a0)), (6, .bool (r30_3 a0)), (62, .bool false)], [([1], [.int .i64 a0, .int .i64 a1, .int .i64 a2, .int .i64 a3, .int .i64 a4, .int .i64 a5])], []⟩) (ps := [((b87_13 == false) = true → (b87_13 == false) = true), ((b87_13 == false) = true → (b87_13 == false) = true), (((b87_13 == false) && ((!(r30_3 a0)) == true)) = true → ((b87_13 == false) && ((!(r30_3 a0)) == true)) = true), (((b87_13 == false) && ((!(r30_3 a0)) == true)) = true → ((b87_13 == false) && ((!(r30_3 a0)) == true)) = true)]) ?_ (ap_cons (fun q0 => q0) (ap_cons (fun q0 => q0) (ap_cons (fun q0 => q0) (ap_cons (fun q0 => q0) ap_nil)))) ?_
      · kernel_rfl
      refine run_as [] (t := 95) (.opt (b87_13 == false) (.bool (cond (!(r30_3 a0)) (a5 != 0) false))) (x := .opt (b87_13 == false) (.bool (cond (!(r30_3 a0)) (a5 != 0) false))) (ps := [((b87_13 == false) = true → (b87_13 == false) = true), ((!(r30_3 a0)) = true → (b87_13 == false) = true → ((b87_13 == false) && ((!(r30_3 a0)) == true)) = true)]) ?_ (ap_cons (fun q0 => q0) (ap_cons (fun q0 q1 => (and_i q1 (eq_i q0))) ap_nil)) rfl ?_
      · kernel_rfl
      refine gen_o (fun b95_14 hb95_14 => ?_)
      replace hb95_14 : b95_14 = v19_14 a0 a1 a2 a3 a4 a5 := by rw [hb95_14]; rfl
      refine run_as [] (t := 96) (.bool (cond b87_13 true b95_14)) (x := .bool (cond b87_13 true b95_14)) (ps := [(b87_13 = false → (b87_13 == false) = true)]) ?_ (ap_cons (fun q0 => (eq_i q0)) ap_nil) rfl ?_
      · kernel_rfl
      refine gen_b (fun b96_15 hb96_15 => ?_)
      replace hb96_15 : b96_15 = v19_15 a0 a1 a2 a3 a4 a5 := by rw [hb96_15, hb87_13, hb95_14]; rfl
      refine XW_end (ts := [96]) (dv := []) (ka := []) (st' := ⟨97, [(96, .bool b96_15)], [], []⟩) ?_ ?_ ?_
      · kernel_rfl
      · kernel_rfl
      refine CW_cond_seq (t := b96_15) ?_ (fun h => ?_) (fun h => ?_)
      · kernel_rfl
      · subst h
        try rw [← hb96_15]
        refine CW_assoc ?_
        refine CW_seq_reg ?_
        refine run_XW [] 1 (ps := []) ?_ ap_nil ?_
        · kernel_rfl
        refine XW_end (ts := [2]) (dv := []) (ka := []) (st' := ⟨97, [(2, .int .i64 1)], [], []⟩) ?_ ?_ ?_
        · kernel_rfl
        · kernel_rfl
        refine CW_ret_seq ?_
        refine endW_ret ?_; kernel_rfl
      · subst h
        try rw [← hb96_15]
        refine CW_skip_seq ?_
        refine CW_seq_reg ?_
        refine run_XW [] 1 (ps := []) ?_ ap_nil ?_
        · kernel_rfl
        refine XW_end (ts := [2]) (dv := []) (ka := []) (st' := ⟨97, [(2, .int .i64 0)], [], []⟩) ?_ ?_ ?_
        · kernel_rfl
        · kernel_rfl
        refine CW_ret ?_
        refine endW_ret ?_; kernel_rfl
/-! loop.example/g00222/impl.CmdFault -/
def code22 : SC :=
  (SC.seq (SC.reg false [
    ⟨(some 1), (.box 34 (.tmp 0)), 0, none⟩,
    ⟨(some 2), (.assign (.const (.int .i64 0))), 2, none⟩])
  (SC.seq (SC.seq (SC.reg false [
    ⟨(some 7), (.fieldAddr 34 (.tmp 1) 0), 0, none⟩,
    ⟨(some 8), (.load 2 (.tmp 7)), 2, none⟩,
    ⟨(some 9), (.call ⟨(.value (.func 36)), #[(.tmp 8), (.const (.int .i64 1)), (.const (.int .i64 9))], #[2, 2, 2]⟩), 4, none⟩,
    ⟨(some 10), (.unOp .not 4 (.tmp 9)), 4, none⟩])
  (SC.cond (.tmp 10) (SC.seq (SC.reg false [
    ⟨(some 2), (.assign (.const (.int .i64 1))), 2, none⟩])
  SC.ret) SC.skip))
  (SC.seq (SC.reg false [
    ⟨(some 12), (.fieldAddr 34 (.tmp 1) 0), 0, none⟩,
    ⟨(some 13), (.load 2 (.tmp 12)), 2, none⟩,
    ⟨(some 14), (.call ⟨(.value (.func 37)), #[(.tmp 13)], #[2]⟩), 50, none⟩,
    ⟨(some 11), (.move (.tmp 14)), 50, none⟩,
    ⟨(some 15), (.extract (.tmp 11) 0), 4, none⟩,
    ⟨(some 16), (.extract (.tmp 11) 1), 4, none⟩,
    ⟨(some 17), (.extract (.tmp 11) 2), 4, none⟩,
    ⟨(some 18), (.extract (.tmp 11) 3), 4, none⟩,
    ⟨(some 3), (.assign (.tmp 15)), 4, none⟩,
    ⟨(some 4), (.assign (.tmp 16)), 4, none⟩,
    ⟨(some 5), (.assign (.tmp 17)), 4, none⟩,
    ⟨(some 6), (.assign (.tmp 18)), 4, none⟩])
  (SC.seq (SC.block 0 (SC.seq (SC.reg false [
    ⟨(some 20), (.fieldAddr 34 (.tmp 1) 1), 0, none⟩,
    ⟨(some 21), (.load 2 (.tmp 20)), 2, none⟩,
    ⟨(some 22), (.call ⟨(.value (.func 36)), #[(.tmp 21), (.const (.int .i64 (-1))), (.const (.int .i64 1000000))], #[2, 2, 2]⟩), 4, none⟩,
    ⟨(some 23), (.unOp .not 4 (.tmp 22)), 4, none⟩,
    ⟨(some 24), (.move (.tmp 23)), 4, none⟩,
    ⟨(some 25), (.move (.tmp 3)), 4, (some (24, false))⟩,
    ⟨(some 26), (.move (.tmp 25)), 4, (some (24, false))⟩,
    ⟨(some 27), (.fieldAddr 34 (.tmp 1) 2), 0, (some (26, true))⟩,
    ⟨(some 28), (.load 2 (.tmp 27)), 2, (some (26, true))⟩,
    ⟨(some 29), (.call ⟨(.value (.func 38)), #[(.tmp 28)], #[2]⟩), 4, (some (26, true))⟩,
    ⟨(some 30), (.unOp .not 4 (.tmp 29)), 4, (some (26, true))⟩,
    ⟨(some 31), (.pick (.tmp 26) (.tmp 30) (.const (.bool false))), 4, (some (24, false))⟩,
    ⟨(some 32), (.pick (.tmp 24) (.const (.bool true)) (.tmp 31)), 4, none⟩,
    ⟨(some 33), (.move (.tmp 32)), 4, none⟩,
    ⟨(some 34), (.move (.tmp 4)), 4, (some (33, false))⟩,
    ⟨(some 35), (.move (.tmp 34)), 4, (some (33, false))⟩,
    ⟨(some 36), (.fieldAddr 34 (.tmp 1) 3), 0, (some (35, true))⟩,
    ⟨(some 37), (.load 2 (.tmp 36)), 2, (some (35, true))⟩,
    ⟨(some 38), (.call ⟨(.value (.func 39)), #[(.tmp 37)], #[2]⟩), 4, (some (35, true))⟩,
    ⟨(some 39), (.unOp .not 4 (.tmp 38)), 4, (some (35, true))⟩,
    ⟨(some 40), (.pick (.tmp 35) (.tmp 39) (.const (.bool false))), 4, (some (33, false))⟩,
    ⟨(some 41), (.pick (.tmp 33) (.const (.bool true)) (.tmp 40)), 4, none⟩,
    ⟨(some 42), (.move (.tmp 41)), 4, none⟩,
    ⟨(some 43), (.move (.tmp 5)), 4, (some (42, false))⟩,
    ⟨(some 44), (.move (.tmp 43)), 4, (some (42, false))⟩,
    ⟨(some 45), (.load 34 (.tmp 1)), 34, (some (44, true))⟩,
    ⟨(some 46), (.call ⟨(.value (.func 40)), #[(.tmp 45)], #[34]⟩), 4, (some (44, true))⟩,
    ⟨(some 47), (.unOp .not 4 (.tmp 46)), 4, (some (44, true))⟩,
    ⟨(some 48), (.pick (.tmp 44) (.tmp 47) (.const (.bool false))), 4, (some (42, false))⟩,
    ⟨(some 49), (.pick (.tmp 42) (.const (.bool true)) (.tmp 48)), 4, none⟩,
    ⟨(some 50), (.move (.tmp 49)), 4, none⟩,
    ⟨(some 51), (.move (.tmp 6)), 4, (some (50, false))⟩,
    ⟨(some 52), (.move (.tmp 51)), 4, (some (50, false))⟩,
    ⟨(some 53), (.fieldAddr 34 (.tmp 1) 5), 0, (some (52, true))⟩,
    ⟨(some 54), (.load 2 (.tmp 53)), 2, (some (52, true))⟩,
    ⟨(some 55), (.call ⟨(.value (.func 41)), #[(.tmp 54)], #[2]⟩), 4, (some (52, true))⟩,
    ⟨(some 56), (.unOp .not 4 (.tmp 55)), 4, (some (52, true))⟩,
    ⟨(some 57), (.pick (.tmp 52) (.tmp 56) (.const (.bool false))), 4, (some (50, false))⟩,
    ⟨(some 58), (.pick (.tmp 50) (.const (.bool true)) (.tmp 57)), 4, none⟩,
    ⟨(some 19), (.assign (.tmp 58)), 4, none⟩])
  (SC.cond (.tmp 19) (SC.seq (SC.reg false [
    ⟨(some 2), (.assign (.const (.int .i64 3))), 2, none⟩])
  SC.ret) (SC.seq (SC.reg false [
    ⟨(some 60), (.move (.tmp 3)), 4, none⟩,
    ⟨(some 61), (.unOp .not 4 (.tmp 60)), 4, none⟩,
    ⟨(some 62), (.move (.tmp 61)), 4, none⟩,
    ⟨(some 63), (.fieldAddr 34 (.tmp 1) 2), 0, (some (62, true))⟩,
    ⟨(some 64), (.load 2 (.tmp 63)), 2, (some (62, true))⟩,
    ⟨(some 65), (.binOp .neq 2 (.tmp 64) (.const (.int .i64 0)) 2), 4, (some (62, true))⟩,
    ⟨(some 66), (.pick (.tmp 62) (.tmp 65) (.const (.bool false))), 4, none⟩,
    ⟨(some 67), (.move (.tmp 66)), 4, none⟩,
    ⟨(some 68), (.move (.tmp 4)), 4, (some (67, false))⟩,
    ⟨(some 69), (.unOp .not 4 (.tmp 68)), 4, (some (67, false))⟩,
    ⟨(some 70), (.move (.tmp 69)), 4, (some (67, false))⟩,
    ⟨(some 71), (.fieldAddr 34 (.tmp 1) 3), 0, (some (70, true))⟩,
    ⟨(some 72), (.load 2 (.tmp 71)), 2, (some (70, true))⟩,
    ⟨(some 73), (.binOp .neq 2 (.tmp 72) (.const (.int .i64 0)) 2), 4, (some (70, true))⟩,
    ⟨(some 74), (.pick (.tmp 70) (.tmp 73) (.const (.bool false))), 4, (some (67, false))⟩,
    ⟨(some 75), (.pick (.tmp 67) (.const (.bool true)) (.tmp 74)), 4, none⟩,
    ⟨(some 76), (.move (.tmp 75)), 4, none⟩,
    ⟨(some 77), (.move (.tmp 5)), 4, (some (76, false))⟩,
    ⟨(some 78), (.unOp .not 4 (.tmp 77)), 4, (some (76, false))⟩,
    ⟨(some 79), (.move (.tmp 78)), 4, (some (76, false))⟩,
    ⟨(some 80), (.fieldAddr 34 (.tmp 1) 4), 0, (some (79, true))⟩,
    ⟨(some 81), (.load 2 (.tmp 80)), 2, (some (79, true))⟩,
    ⟨(some 82), (.binOp .neq 2 (.tmp 81) (.const (.int .i64 0)) 2), 4, (some (79, true))⟩,
    ⟨(some 83), (.pick (.tmp 79) (.tmp 82) (.const (.bool false))), 4, (some (76, false))⟩,
    ⟨(some 84), (.pick (.tmp 76) (.const (.bool true)) (.tmp 83)), 4, none⟩,
    ⟨(some 85), (.move (.tmp 84)), 4, none⟩,
    ⟨(some 86), (.move (.tmp 6)), 4, (some (85, false))⟩,
    ⟨(some 87), (.unOp .not 4 (.tmp 86)), 4, (some (85, false))⟩,
    ⟨(some 88), (.move (.tmp 87)), 4, (some (85, false))⟩,
    ⟨(some 89), (.fieldAddr 34 (.tmp 1) 5), 0, (some (88, true))⟩,
    ⟨(some 90), (.load 2 (.tmp 89)), 2, (some (88, true))⟩,
    ⟨(some 91), (.binOp .neq 2 (.tmp 90) (.const (.int .i64 0)) 2), 4, (some (88, true))⟩,
    ⟨(some 92), (.pick (.tmp 88) (.tmp 91) (.const (.bool false))), 4, (some (85, false))⟩,
    ⟨(some 93), (.pick (.tmp 85) (.const (.bool true)) (.tmp 92)), 4, none⟩,
    ⟨(some 59), (.assign (.tmp 93)), 4, none⟩])
  (SC.cond (.tmp 59) (SC.seq (SC.reg false [
    ⟨(some 2), (.assign (.const (.int .i64 1))), 2, none⟩])
  SC.ret) SC.skip)))))
  (SC.seq (SC.reg false [
    ⟨(some 2), (.assign (.const (.int .i64 0))), 2, none⟩])
  SC.ret)))))
theorem sc22 : f22.body.bind stripC = some code22 := by kernel_rfl
def v22_0 (a0 : Int) (a1 : Int) (a2 : Int) (a3 : Int) (a4 : Int) (a5 : Int) : Bool := cond (r37_0 a0) (!(r38_0 a2)) false
def v22_1 (a0 : Int) (a1 : Int) (a2 : Int) (a3 : Int) (a4 : Int) (a5 : Int) : Bool := cond (!(r36_0 a1 (-1) 1000000)) true (v22_0 a0 a1 a2 a3 a4 a5)
def v22_2 (a0 : Int) (a1 : Int) (a2 : Int) (a3 : Int) (a4 : Int) (a5 : Int) : Bool := cond (r37_1 a0) (!(r39_0 a3)) false
def v22_3 (a0 : Int) (a1 : Int) (a2 : Int) (a3 : Int) (a4 : Int) (a5 : Int) : Bool := cond (v22_1 a0 a1 a2 a3 a4 a5) true (v22_2 a0 a1 a2 a3 a4 a5)
def v22_4 (a0 : Int) (a1 : Int) (a2 : Int) (a3 : Int) (a4 : Int) (a5 : Int) : Bool := cond (r37_2 a0) (!(r40_0 a0 a1 a2 a3 a4 a5)) false
def v22_5 (a0 : Int) (a1 : Int) (a2 : Int) (a3 : Int) (a4 : Int) (a5 : Int) : Bool := cond (v22_3 a0 a1 a2 a3 a4 a5) true (v22_4 a0 a1 a2 a3 a4 a5)
def v22_6 (a0 : Int) (a1 : Int) (a2 : Int) (a3 : Int) (a4 : Int) (a5 : Int) : Bool := cond (r37_3 a0) (!(r41_0 a5)) false
def v22_7 (a0 : Int) (a1 : Int) (a2 : Int) (a3 : Int) (a4 : Int) (a5 : Int) : Bool := cond (v22_5 a0 a1 a2 a3 a4 a5) true (v22_6 a0 a1 a2 a3 a4 a5)
def v22_8 (a0 : Int) (a1 : Int) (a2 : Int) (a3 : Int) (a4 : Int) (a5 : Int) : Bool := cond (!(r37_0 a0)) (a2 != 0) false
def v22_9 (a0 : Int) (a1 : Int) (a2 : Int) (a3 : Int) (a4 : Int) (a5 : Int) : Bool := cond (!(r37_1 a0)) (a3 != 0) false
def v22_10 (a0 : Int) (a1 : Int) (a2 : Int) (a3 : Int) (a4 : Int) (a5 : Int) : Bool := cond (v22_8 a0 a1 a2 a3 a4 a5) true (v22_9 a0 a1 a2 a3 a4 a5)
def v22_11 (a0 : Int) (a1 : Int) (a2 : Int) (a3 : Int) (a4 : Int) (a5 : Int) : Bool := cond (!(r37_2 a0)) (a4 != 0) false
def v22_12 (a0 : Int) (a1 : Int) (a2 : Int) (a3 : Int) (a4 : Int) (a5 : Int) : Bool := cond (v22_10 a0 a1 a2 a3 a4 a5) true (v22_11 a0 a1 a2 a3 a4 a5)
def v22_13 (a0 : Int) (a1 : Int) (a2 : Int) (a3 : Int) (a4 : Int) (a5 : Int) : Bool := cond (!(r37_3 a0)) (a5 != 0) false
def v22_14 (a0 : Int) (a1 : Int) (a2 : Int) (a3 : Int) (a4 : Int) (a5 : Int) : Bool := cond (v22_12 a0 a1 a2 a3 a4 a5) true (v22_13 a0 a1 a2 a3 a4 a5)
def r22_0 (a0 : Int) (a1 : Int) (a2 : Int) (a3 : Int) (a4 : Int) (a5 : Int) : Int := cond (!(r36_0 a0 1 9)) 1 (cond (v22_7 a0 a1 a2 a3 a4 a5) 3 (cond (v22_14 a0 a1 a2 a3 a4 a5) 1 0))
theorem sem22 (a0 : Int) (a1 : Int) (a2 : Int) (a3 : Int) (a4 : Int) (a5 : Int)  : SemR prog 22 [.agg [.int .i64 a0, .int .i64 a1, .int .i64 a2, .int .i64 a3, .int .i64 a4, .int .i64 a5]] [.one (.int .i64 (r22_0 a0 a1 a2 a3 a4 a5))] := by
  refine SemR.of_code' func22 sc22 (by rw [ntmps22]; exact Nat.le_of_ble_eq_true rfl) (fun hl => ?_)
  rw [ntmps22, results22]
  unfold code22 r22_0
  refine CW_seq_reg ?_
  refine run_XW [] 2 (ps := []) ?_ ap_nil ?_
  · kernel_rfl
  refine XW_end (ts := [1]) (dv := [[1]]) (ka := []) (st' := ⟨94, [(1, .vptr [1] 0)], [([1], [.int .i64 a0, .int .i64 a1, .int .i64 a2, .int .i64 a3, .int .i64 a4, .int .i64 a5])], []⟩) ?_ ?_ ?_
  · kernel_rfl
  · kernel_rfl
  refine CW_assoc ?_
  refine CW_seq_reg ?_
  refine runC_XW (fz := []) (n := 2) (st' := ⟨94, [(8, .int .i64 a0), (7, .vptr [1] 0), (1, .vptr [1] 0)], [([1], [.int .i64 a0, .int .i64 a1, .int .i64 a2, .int .i64 a3, .int .i64 a4, .int .i64 a5])], []⟩) (ps := []) ?_ ap_nil ?_
  · kernel_rfl
  refine callC_XW (i := ⟨none, 36, [.one (.int .i64 a0), .one (.int .i64 1), .one (.int .i64 9)], true, (some 9), []⟩) (rs := [.one (.bool (r36_0 a0 1 9))]) ?_ ap_nil (sem36 a0 1 9) rfl ?_
  · kernel_rfl
  refine run_XW [] 1 (ps := []) ?_ ap_nil ?_
  · kernel_rfl
  refine XW_end (ts := [1, 10]) (dv := [[1]]) (ka := []) (st' := ⟨94, [(1, .vptr [1] 0), (10, .bool (!(r36_0 a0 1 9)))], [([1], [.int .i64 a0, .int .i64 a1, .int .i64 a2, .int .i64 a3, .int .i64 a4, .int .i64 a5])], []⟩) ?_ ?_ ?_
  · kernel_rfl
  · kernel_rfl
  refine CW_cond_seq (t := (!(r36_0 a0 1 9))) ?_ (fun h => ?_) (fun h => ?_)
  · kernel_rfl
  · try rw [h]
    refine CW_assoc ?_
    refine CW_seq_reg ?_
    refine run_XW [] 1 (ps := []) ?_ ap_nil ?_
    · kernel_rfl
    refine XW_end (ts := [2]) (dv := []) (ka := []) (st' := ⟨94, [(2, .int .i64 1)], [], []⟩) ?_ ?_ ?_
    · kernel_rfl
    · kernel_rfl
    refine CW_ret_seq ?_
    refine endW_ret ?_; kernel_rfl
  · try rw [h]
    refine CW_skip_seq ?_
    refine CW_seq_reg ?_
    refine runC_XW (fz := []) (n := 2) (st' := ⟨94, [(13, .int .i64 a0), (12, .vptr [1] 0), (1, .vptr [1] 0), (10, .bool false)], [([1], [.int .i64 a0, .int .i64 a1, .int .i64 a2, .int .i64 a3, .int .i64 a4, .int .i64 a5])], []⟩) (ps := []) ?_ ap_nil ?_
    · kernel_rfl
    refine callC_XW (i := ⟨none, 37, [.one (.int .i64 a0)], true, (some 14), []⟩) (rs := [.one (.bool (r37_0 a0)), .one (.bool (r37_1 a0)), .one (.bool (r37_2 a0)), .one (.bool (r37_3 a0))]) ?_ ap_nil (sem37 a0) rfl ?_
    · kernel_rfl
    refine run_XW [] 9 (ps := []) ?_ ap_nil ?_
    · kernel_rfl
    refine XW_end (ts := [1, 3, 4, 5, 6]) (dv := [[1]]) (ka := []) (st' := ⟨94, [(1, .vptr [1] 0), (3, .bool (r37_0 a0)), (4, .bool (r37_1 a0)), (5, .bool (r37_2 a0)), (6, .bool (r37_3 a0))], [([1], [.int .i64 a0, .int .i64 a1, .int .i64 a2, .int .i64 a3, .int .i64 a4, .int .i64 a5])], []⟩) ?_ ?_ ?_
    · kernel_rfl
    · kernel_rfl
    refine CW_block_seq ?_
    refine CW_seq_reg ?_
    refine runC_XW (fz := []) (n := 2) (st' := ⟨94, [(21, .int .i64 a1), (20, .vptr [1] 1), (1, .vptr [1] 0), (3, .bool (r37_0 a0)), (4, .bool (r37_1 a0)), (5, .bool (r37_2 a0)), (6, .bool (r37_3 a0))], [([1], [.int .i64 a0, .int .i64 a1, .int .i64 a2, .int .i64 a3, .int .i64 a4, .int .i64 a5])], []⟩) (ps := []) ?_ ap_nil ?_
    · kernel_rfl
    refine callC_XW (i := ⟨none, 36, [.one (.int .i64 a1), .one (.int .i64 (-1)), .one (.int .i64 1000000)], true, (some 22), []⟩) (rs := [.one (.bool (r36_0 a1 (-1) 1000000))]) ?_ ap_nil (sem36 a1 (-1) 1000000) rfl ?_
    · kernel_rfl
    refine runC_XW (fz := []) (n := 6) (st' := ⟨94, [(28, .opt (((!(r36_0 a1 (-1) 1000000)) == false) && ((r37_0 a0) == true)) (.int .i64 a2)), (27, .opt (((!(r36_0 a1 (-1) 1000000)) == false) && ((r37_0 a0) == true)) (.vptr [1] 2)), (26, .opt ((!(r36_0 a1 (-1) 1000000)) == false) (.bool (r37_0 a0))), (25, .opt ((!(r36_0 a1 (-1) 1000000)) == false) (.bool (r37_0 a0))), (24, .bool (!(r36_0 a1 (-1) 1000000))), (23, .bool (!(r36_0 a1 (-1) 1000000))), (22, .bool (r36_0 a1 (-1) 1000000)), (21, .int .i64 a1), (20, .vptr [1] 1), (1, .vptr [1] 0), (3, .bool (r37_0 a0)), (4, .bool (r37_1 a0)), (5, .bool (r37_2 a0)), (6, .bool (r37_3 a0))], [([1], [.int .i64 a0, .int .i64 a1, .int .i64 a2, .int .i64 a3, .int .i64 a4, .int .i64 a5])], []⟩) (ps := [(((!(r36_0 a1 (-1) 1000000)) == false) = true → ((!(r36_0 a1 (-1) 1000000)) == false) = true), ((((!(r36_0 a1 (-1) 1000000)) == false) && ((r37_0 a0) == true)) = true → (((!(r36_0 a1 (-1) 1000000)) == false) && ((r37_0 a0) == true)) = true)]) ?_ (ap_cons (fun q0 => q0) (ap_cons (fun q0 => q0) ap_nil)) ?_
    · kernel_rfl
    refine callC_XW (i := ⟨(some (((!(r36_0 a1 (-1) 1000000)) == false) && ((r37_0 a0) == true))), 38, [.one (.int .i64 a2)], true, (some 29), [((((!(r36_0 a1 (-1) 1000000)) == false) && ((r37_0 a0) == true)) = true → (((!(r36_0 a1 (-1) 1000000)) == false) && ((r37_0 a0) == true)) = true)]⟩) (rs := [.one (.bool (r38_0 a2))]) ?_ (ap_cons (fun q0 => q0) ap_nil) (fun _ => (sem38 a2)) rfl ?_
    · kernel_rfl
    refine runC_XW (fz := []) (n := 1) (st' := ⟨94, [(30, .opt (((!(r36_0 a1 (-1) 1000000)) == false) && ((r37_0 a0) == true)) (.bool (!(r38_0 a2)))), (29, .opt (((!(r36_0 a1 (-1) 1000000)) == false) && ((r37_0 a0) == true)) (.bool (r38_0 a2))), (28, .opt (((!(r36_0 a1 (-1) 1000000)) == false) && ((r37_0 a0) == true)) (.int .i64 a2)), (27, .opt (((!(r36_0 a1 (-1) 1000000)) == false) && ((r37_0 a0) == true)) (.vptr [1] 2)), (26, .opt ((!(r36_0 a1 (-1) 1000000)) == false) (.bool (r37_0 a0))), (25, .opt ((!(r36_0 a1 (-1) 1000000)) == false) (.bool (r37_0 a0))), (24, .bool (!(r36_0 a1 (-1) 1000000))), (23, .bool (!(r36_0 a1 (-1) 1000000))), (22, .bool (r36_0 a1 (-1) 1000000)), (21, .int .i64 a1), (20, .vptr [1] 1), (1, .vptr [1] 0), (3, .bool (r37_0 a0)), (4, .bool (r37_1 a0)), (5, .bool (r37_2 a0)), (6, .bool (r37_3 a0))], [([1], [.int .i64 a0, .int .i64 a1, .int .i64 a2, .int .i64 a3, .int .i64 a4, .int .i64 a5])], []⟩) (ps := [((((!(r36_0 a1 (-1) 1000000)) == false) && ((r37_0 a0) == true)) = true → (((!(r36_0 a1 (-1) 1000000)) == false) && ((r37_0 a0) == true)) = true)]) ?_ (ap_cons (fun q0 => q0) ap_nil) ?_
    · kernel_rfl
    refine run_as [] (t := 31) (.opt ((!(r36_0 a1 (-1) 1000000)) == false) (.bool (cond (r37_0 a0) (!(r38_0 a2)) false))) (x := .opt ((!(r36_0 a1 (-1) 1000000)) == false) (.bool (cond (r37_0 a0) (!(r38_0 a2)) false))) (ps := [(((!(r36_0 a1 (-1) 1000000)) == false) = true → ((!(r36_0 a1 (-1) 1000000)) == false) = true), ((r37_0 a0) = true → ((!(r36_0 a1 (-1) 1000000)) == false) = true → (((!(r36_0 a1 (-1) 1000000)) == false) && ((r37_0 a0) == true)) = true)]) ?_ (ap_cons (fun q0 => q0) (ap_cons (fun q0 q1 => (and_i q1 (eq_i q0))) ap_nil)) rfl ?_
    · kernel_rfl
    refine gen_o (fun b31_0 hb31_0 => ?_)
    replace hb31_0 : b31_0 = v22_0 a0 a1 a2 a3 a4 a5 := by rw [hb31_0]; rfl
    refine run_as [] (t := 32) (.bool (cond (!(r36_0 a1 (-1) 1000000)) true b31_0)) (x := .bool (cond (!(r36_0 a1 (-1) 1000000)) true b31_0)) (ps := [((!(r36_0 a1 (-1) 1000000)) = false → ((!(r36_0 a1 (-1) 1000000)) == false) = true)]) ?_ (ap_cons (fun q0 => (eq_i q0)) ap_nil) rfl ?_
    · kernel_rfl
    refine gen_b (fun b32_1 hb32_1 => ?_)
    replace hb32_1 : b32_1 = v22_1 a0 a1 a2 a3 a4 a5 := by rw [hb32_1, hb31_0]; rfl
    refine runC_XW (fz := []) (n := 5) (st' := ⟨94, [(37, .opt ((b32_1 == false) && ((r37_1 a0) == true)) (.int .i64 a3)), (36, .opt ((b32_1 == false) && ((r37_1 a0) == true)) (.vptr [1] 3)), (35, .opt (b32_1 == false) (.bool (r37_1 a0))), (34, .opt (b32_1 == false) (.bool (r37_1 a0))), (33, .bool b32_1), (32, .bool b32_1), (31, .opt ((!(r36_0 a1 (-1) 1000000)) == false) (.bool b31_0)), (30, .opt (((!(r36_0 a1 (-1) 1000000)) == false) && ((r37_0 a0) == true)) (.bool (!(r38_0 a2)))), (29, .opt (((!(r36_0 a1 (-1) 1000000)) == false) && ((r37_0 a0) == true)) (.bool (r38_0 a2))), (28, .opt (((!(r36_0 a1 (-1) 1000000)) == false) && ((r37_0 a0) == true)) (.int .i64 a2)), (27, .opt (((!(r36_0 a1 (-1) 1000000)) == false) && ((r37_0 a0) == true)) (.vptr [1] 2)), (26, .opt ((!(r36_0 a1 (-1) 1000000)) == false) (.bool (r37_0 a0))), (25, .opt ((!(r36_0 a1 (-1) 1000000)) == false) (.bool (r37_0 a0))), (24, .bool (!(r36_0 a1 (-1) 1000000))), (23, .bool (!(r36_0 a1 (-1) 1000000))), (22, .bool (r36_0 a1 (-1) 1000000)), (21, .int .i64 a1), (20, .vptr [1] 1), (1, .vptr [1] 0), (3, .bool (r37_0 a0)), (4, .bool (r37_1 a0)), (5, .bool (r37_2 a0)), (6, .bool (r37_3 a0))], [([1], [.int .i64 a0, .int .i64 a1, .int .i64 a2, .int .i64 a3, .int .i64 a4, .int .i64 a5])], []⟩) (ps := [((b32_1 == false) = true → (b32_1 == false) = true), (((b32_1 == false) && ((r37_1 a0) == true)) = true → ((b32_1 == false) && ((r37_1 a0) == true)) = true)]) ?_ (ap_cons (fun q0 => q0) (ap_cons (fun q0 => q0) ap_nil)) ?_
    · kernel_rfl
    refine callC_XW (i := ⟨(some ((b32_1 == false) && ((r37_1 a0) == true))), 39, [.one (.int .i64 a3)], true, (some 38), [(((b32_1 == false) && ((r37_1 a0) == true)) = true → ((b32_1 == false) && ((r37_1 a0) == true)) = true)]⟩) (rs := [.one (.bool (r39_0 a3))]) ?_ (ap_cons (fun q0 => q0) ap_nil) (fun _ => (sem39 a3)) rfl ?_
    · kernel_rfl
    refine runC_XW (fz := []) (n := 1) (st' := ⟨94, [(39, .opt ((b32_1 == false) && ((r37_1 a0) == true)) (.bool (!(r39_0 a3)))), (38, .opt ((b32_1 == false) && ((r37_1 a0) == true)) (.bool (r39_0 a3))), (37, .opt ((b32_1 == false) && ((r37_1 a0) == true)) (.int .i64 a3)), (36, .opt ((b32_1 == false) && ((r37_1 a0) == true)) (.vptr [1] 3)), (35, .opt (b32_1 == false) (.bool (r37_1 a0))), (34, .opt (b32_1 == false) (.bool (r37_1 a0))), (33, .bool b32_1), (32, .bool b32_1), (31, .opt ((!(r36_0 a1 (-1) 1000000)) == false) (.bool b31_0)), (30, .opt (((!(r36_0 a1 (-1) 1000000)) == false) && ((r37_0 a0) == true)) (.bool (!(r38_0 a2)))), (29, .opt (((!(r36_0 a1 (-1) 1000000)) == false) && ((r37_0 a0) == true)) (.bool (r38_0 a2))), (28, .opt (((!(r36_0 a1 (-1) 1000000)) == false) && ((r37_0 a0) == true)) (.int .i64 a2)), (27, .opt (((!(r36_0 a1 (-1) 1000000)) == false) && ((r37_0 a0) == true)) (.vptr [1] 2)), (26, .opt ((!(r36_0 a1 (-1) 1000000)) == false) (.bool (r37_0 a0))), (25, .opt ((!(r36_0 a1 (-1) 1000000)) == false) (.bool (r37_0 a0))), (24, .bool (!(r36_0 a1 (-1) 1000000))), (23, .bool (!(r36_0 a1 (-1) 1000000))), (22, .bool (r36_0 a1 (-1) 1000000)), (21, .int .i64 a1), (20, .vptr [1] 1), (1, .vptr [1] 0), (3, .bool (r37_0 a0)), (4, .bool (r37_1 a0)), (5, .bool (r37_2 a0)), (6, .bool (r37_3 a0))], [([1], [.int .i64 a0, .int .i64 a1, .int .i64 a2, .int .i64 a3, .int .i64 a4, .int .i64 a5])], []⟩) (ps := [(((b32_1 == false) && ((r37_1 a0) == true)) = true → ((b32_1 == false) && ((r37_1 a0) == true)) = true)]) ?_ (ap_cons (fun q0 => q0) ap_nil) ?_
    · kernel_rfl
    refine run_as [] (t := 40) (.opt (b32_1 == false) (.bool (cond (r37_1 a0) (!(r39_0 a3)) false))) (x := .opt (b32_1 == false) (.bool (cond (r37_1 a0) (!(r39_0 a3)) false))) (ps := [((b32_1 == false) = true → (b32_1 == false) = true), ((r37_1 a0) = true → (b32_1 == false) = true → ((b32_1 == false) && ((r37_1 a0) == true)) = true)]) ?_ (ap_cons (fun q0 => q0) (ap_cons (fun q0 q1 => (and_i q1 (eq_i q0))) ap_nil)) rfl ?_
    · kernel_rfl
    refine gen_o (fun b40_2 hb40_2 => ?_)
    replace hb40_2 : b40_2 = v22_2 a0 a1 a2 a3 a4 a5 := by rw [hb40_2]; rfl
    refine run_as [] (t := 41) (.bool (cond b32_1 true b40_2)) (x := .bool (cond b32_1 true b40_2)) (ps := [(b32_1 = false → (b32_1 == false) = true)]) ?_ (ap_cons (fun q0 => (eq_i q0)) ap_nil) rfl ?_
    · kernel_rfl
    refine gen_b (fun b41_3 hb41_3 => ?_)
    replace hb41_3 : b41_3 = v22_3 a0 a1 a2 a3 a4 a5 := by rw [hb41_3, hb32_1, hb40_2]; rfl
    refine runC_XW (fz := []) (n := 4) (st' := ⟨94, [(45, .opt ((b41_3 == false) && ((r37_2 a0) == true)) (.agg [.int .i64 a0, .int .i64 a1, .int .i64 a2, .int .i64 a3, .int .i64 a4, .int .i64 a5])), (44, .opt (b41_3 == false) (.bool (r37_2 a0))), (43, .opt (b41_3 == false) (.bool (r37_2 a0))), (42, .bool b41_3), (41, .bool b41_3), (40, .opt (b32_1 == false) (.bool b40_2)), (39, .opt ((b32_1 == false) && ((r37_1 a0) == true)) (.bool (!(r39_0 a3)))), (38, .opt ((b32_1 == false) && ((r37_1 a0) == true)) (.bool (r39_0 a3))), (37, .opt ((b32_1 == false) && ((r37_1 a0) == true)) (.int .i64 a3)), (36, .opt ((b32_1 == false) && ((r37_1 a0) == true)) (.vptr [1] 3)), (35, .opt (b32_1 == false) (.bool (r37_1 a0))), (34, .opt (b32_1 == false) (.bool (r37_1 a0))), (33, .bool b32_1), (32, .bool b32_1), (31, .opt ((!(r36_0 a1 (-1) 1000000)) == false) (.bool b31_0)), (30, .opt (((!(r36_0 a1 (-1) 1000000)) == false) && ((r37_0 a0) == true)) (.bool (!(r38_0 a2)))), (29, .opt (((!(r36_0 a1 (-1) 1000000)) == false) && ((r37_0 a0) == true)) (.bool (r38_0 a2))), (28, .opt (((!(r36_0 a1 (-1) 1000000)) == false) && ((r37_0 a0) == true)) (.int .i64 a2)), (27, .opt (((!(r36_0 a1 (-1) 1000000)) == false) && ((r37_0 a0) == true)) (.vptr [1] 2)), (26, .opt ((!(r36_0 a1 (-1) 1000000)) == false) (.bool (r37_0 a0))), (25, .opt ((!(r36_0 a1 (-1) 1000000)) == false) (.bool (r37_0 a0))), (24, .bool (!(r36_0 a1 (-1) 1000000))), (23, .bool (!(r36_0 a1 (-1) 1000000))), (22, .bool (r36_0 a1 (-1) 1000000)), (21, .int .i64 a1), (20, .vptr [1] 1), (1, .vptr [1] 0), (3, .bool (r37_0 a0)), (4, .bool (r37_1 a0)), (5, .bool (r37_2 a0)), (6, .bool (r37_3 a0))], [([1], [.int .i64 a0, .int .i64 a1, .int .i64 a2, .int .i64 a3, .int .i64 a4, .int .i64 a5])], []⟩) (ps := [((b41_3 == false) = true → (b41_3 == false) = true)]) ?_ (ap_cons (fun q0 => q0) ap_nil) ?_
    · kernel_rfl
    refine callC_XW (i := ⟨(some ((b41_3 == false) && ((r37_2 a0) == true))), 40, [.agg [.int .i64 a0, .int .i64 a1, .int .i64 a2, .int .i64 a3, .int .i64 a4, .int .i64 a5]], true, (some 46), [(((b41_3 == false) && ((r37_2 a0) == true)) = true → ((b41_3 == false) && ((r37_2 a0) == true)) = true)]⟩) (rs := [.one (.bool (r40_0 a0 a1 a2 a3 a4 a5))]) ?_ (ap_cons (fun q0 => q0) ap_nil) (fun _ => (sem40 a0 a1 a2 a3 a4 a5)) rfl ?_
    · kernel_rfl
    refine runC_XW (fz := []) (n := 1) (st' := ⟨94, [(47, .opt ((b41_3 == false) && ((r37_2 a0) == true)) (.bool (!(r40_0 a0 a1 a2 a3 a4 a5)))), (46, .opt ((b41_3 == false) && ((r37_2 a0) == true)) (.bool (r40_0 a0 a1 a2 a3 a4 a5))), (45, .opt ((b41_3 == false) && ((r37_2 a0) == true)) (.agg [.int .i64 a0, .int .i64 a1, .int .i64 a2, .int .i64 a3, .int .i64 a4, .int .i64 a5])), (44, .opt (b41_3 == false) (.bool (r37_2 a0))), (43, .opt (b41_3 == false) (.bool (r37_2 a0))), (42, .bool b41_3), (41, .bool b41_3), (40, .opt (b32_1 == false) (.bool b40_2)), (39, .opt ((b32_1 == false) && ((r37_1 a0) == true)) (.bool (!(r39_0 a3)))), (38, .opt ((b32_1 == false) && ((r37_1 a0) == true)) (.bool (r39_0 a3))), (37, .opt ((b32_1 == false) && ((r37_1 a0) == true)) (.int .i64 a3)), (36, .opt ((b32_1 == false) && ((r37_1 a0) == true)) (.vptr [1] 3)), (35, .opt (b32_1 == false) (.bool (r37_1 a0))), (34, .opt (b32_1 == false) (.bool (r37_1 a0))), (33, .bool b32_1), (32, .bool b32_1), (31, .opt ((!(r36_0 a1 (-1) 1000000)) == false) (.bool b31_0)), (30, .opt (((!(r36_0 a1 (-1) 1000000)) == false) && ((r37_0 a0) == true)) (.bool (!(r38_0 a2)))), (29, .opt (((!(r36_0 a1 (-1) 1000000)) == false) && ((r37_0 a0) == true)) (.bool (r38_0 a2))), (28, .opt (((!(r36_0 a1 (-1) 1000000)) == false) && ((r37_0 a0) == true)) (.int .i64 a2)), (27, .opt (((!(r36_0 a1 (-1) 1000000)) == false) && ((r37_0 a0) == true)) (.vptr [1] 2)), (26, .opt ((!(r36_0 a1 (-1) 1000000)) == false) (.bool (r37_0 a0))), (25, .opt ((!(r36_0 a1 (-1) 1000000)) == false) (.bool (r37_0 a0))), (24, .bool (!(r36_0 a1 (-1) 1000000))), (23, .bool (!(r36_0 a1 (-1) 1000000))), (22, .bool (r36_0 a1 (-1) 1000000)), (21, .int .i64 a1), (20, .vptr [1] 1), (1, .vptr [1] 0), (3, .bool (r37_0 a0)), (4, .bool (r37_1 a0)), (5, .bool (r37_2 a0)), (6, .bool (r37_3 a0))], [([1], [.int .i64 a0, .int .i64 a1, .int .i64 a2, .int .i64 a3, .int .i64 a4, .int .i64 a5])], []⟩) (ps := [(((b41_3 == false) && ((r37_2 a0) == true)) = true → ((b41_3 == false) && ((r37_2 a0) == true)) = true)]) ?_ (ap_cons (fun q0 => q0) ap_nil) ?_
    · kernel_rfl
    refine run_as [] (t := 48) (.opt (b41_3 == false) (.bool (cond (r37_2 a0) (!(r40_0 a0 a1 a2 a3 a4 a5)) false))) (x := .opt (b41_3 == false) (.bool (cond (r37_2 a0) (!(r40_0 a0 a1 a2 a3 a4 a5)) false))) (ps := [((b41_3 == false) = true → (b41_3 == false) = true), ((r37_2 a0) = true → (b41_3 == false) = true → ((b41_3 == false) && ((r37_2 a0) == true)) = true)]) ?_ (ap_cons (fun q0 => q0) (ap_cons (fun q0 q1 => (and_i q1 (eq_i q0))) ap_nil)) rfl ?_
    · kernel_rfl
    refine gen_o (fun b48_4 hb48_4 => ?_)
    replace hb48_4 : b48_4 = v22_4 a0 a1 a2 a3 a4 a5 := by rw [hb48_4]; rfl
    refine run_as [] (t := 49) (.bool (cond b41_3 true b48_4)) (x := .bool (cond b41_3 true b48_4)) (ps := [(b41_3 = false → (b41_3 == false) = true)]) ?_ (ap_cons (fun q0 => (eq_i q0)) ap_nil) rfl ?_
    · kernel_rfl
    refine gen_b (fun b49_5 hb49_5 => ?_)
    replace hb49_5 : b49_5 = v22_5 a0 a1 a2 a3 a4 a5 := by rw [hb49_5, hb41_3, hb48_4]; rfl
    refine runC_XW (fz := []) (n := 5) (st' := ⟨94, [(54, .opt ((b49_5 == false) && ((r37_3 a0) == true)) (.int .i64 a5)), (53, .opt ((b49_5 == false) && ((r37_3 a0) == true)) (.vptr [1] 5)), (52, .opt (b49_5 == false) (.bool (r37_3 a0))), (51, .opt (b49_5 == false) (.bool (r37_3 a0))), (50, .bool b49_5), (49, .bool b49_5), (48, .opt (b41_3 == false) (.bool b48_4)), (47, .opt ((b41_3 == false) && ((r37_2 a0) == true)) (.bool (!(r40_0 a0 a1 a2 a3 a4 a5)))), (46, .opt ((b41_3 == false) && ((r37_2 a0) == true)) (.bool (r40_0 a0 a1 a2 a3 a4 a5))), (45, .opt ((b41_3 == false) && ((r37_2 a0) == true)) (.agg [.int .i64 a0, .int .i64 a1, .int .i64 a2, .int .i64 a3, .int .i64 a4, .int .i64 a5])), (44, .opt (b41_3 == false) (.bool (r37_2 a0))), (43, .opt (b41_3 == false) (.bool (r37_2 a0))), (42, .bool b41_3), (41, .bool b41_3), (40, .opt (b32_1 == false) (.bool b40_2)), (39, .opt ((b32_1 == false) && ((r37_1 a0) == true)) (.bool (!(r39_0 a3)))), (38, .opt ((b32_1 == false) && ((r37_1 a0) == true)) (.bool (r39_0 a3))), (37, .opt ((b32_1 == false) && ((r37_1 a0) == true)) (.int .i64 a3)), (36, .opt ((b32_1 == false) && ((r37_1 a0) == true)) (.vptr [1] 3)), (35, .opt (b32_1 == false) (.bool (r37_1 a0))), (34, .opt (b32_1 == false) (.bool (r37_1 a0))), (33, .bool b32_1), (32, .bool b32_1), (31, .opt ((!(r36_0 a1 (-1) 1000000)) == false) (.bool b31_0)), (30, .opt (((!(r36_0 a1 (-1) 1000000)) == false) && ((r37_0 a0) == true)) (.bool (!(r38_0 a2)))), (29, .opt (((!(r36_0 a1 (-1) 1000000)) == false) && ((r37_0 a0) == true)) (.bool (r38_0 a2))), (28, .opt (((!(r36_0 a1 (-1) 1000000)) == false) && ((r37_0 a0) == true)) (.int .i64 a2)), (27, .opt (((!(r36_0 a1 (-1) 1000000)) == false) && ((r37_0 a0) == true)) (.vptr [1] 2)), (26, .opt ((!(r36_0 a1 (-1) 1000000)) == false) (.bool (r37_0 a0))), (25, .opt ((!(r36_0 a1 (-1) 1000000)) == false) (.bool (r37_0 a0))), (24, .bool (!(r36_0 a1 (-1) 1000000))), (23, .bool (!(r36_0 a1 (-1) 1000000))), (22, .bool (r36_0 a1 (-1) 1000000)), (21, .int .i64 a1), (20, .vptr [1] 1), (1, .vptr [1] 0), (3, .bool (r37_0 a0)), (4, .bool (r37_1 a0)), (5, .bool (r37_2 a0)), (6, .bool (r37_3 a0))], [([1], [.int .i64 a0, .int .i64 a1, .int .i64 a2, .int .i64 a3, .int .i64 a4, .int .i64 a5])], []⟩) (ps := [((b49_5 == false) = true → (b49_5 == false) = true), (((b49_5 == false) && ((r37_3 a0) == true)) = true → ((b49_5 == false) && ((r37_3 a0) == true)) = true)]) ?_ (ap_cons (fun q0 => q0) (ap_cons (fun q0 => q0) ap_nil)) ?_
    · kernel_rfl
    refine callC_XW (i := ⟨(some ((b49_5 == false) && ((r37_3 a0) == true))), 41, [.one (.int .i64 a5)], true, (some 55), [(((b49_5 == false) && ((r37_3 a0) == true)) = true → ((b49_5 == false) && ((r37_3 a0) == true)) = true)]⟩) (rs := [.one (.bool (r41_0 a5))]) ?_ (ap_cons (fun q0 => q0) ap_nil) (fun _ => (sem41 a5)) rfl ?_
    · kernel_rfl
    refine runC_XW (fz := []) (n := 1) (st' := ⟨94, [(56, .opt ((b49_5 == false) && ((r37_3 a0) == true)) (.bool (!(r41_0 a5)))), (55, .opt ((b49_5 == false) && ((r37_3 a0) == true)) (.bool (r41_0 a5))), (54, .opt ((b49_5 == false) && ((r37_3 a0) == true)) (.int .i64 a5)), (53, .opt ((b49_5 == false) && ((r37_3 a0) == true)) (.vptr [1] 5)), (52, .opt (b49_5 == false) (.bool (r37_3 a0))), (51, .opt (b49_5 == false) (.bool (r37_3 a0))), (50, .bool b49_5), (49, .bool b49_5), (48, .opt (b41_3 == false) (.bool b48_4)), (47, .opt ((b41_3 == false) && ((r37_2 a0) == true)) (.bool (!(r40_0 a0 a1 a2 a3 a4 a5)))), (46, .opt ((b41_3 == false) && ((r37_2 a0) == true)) (.bool (r40_0 a0 a1 a2 a3 a4 a5))), (45, .opt ((b41_3 == false) && ((r37_2 a0) == true)) (.agg [.int .i64 a0, .int .i64 a1, .int .i64 a2, .int .i64 a3, .int .i64 a4, .int .i64 a5])), (44, .opt (b41_3 == false) (.bool (r37_2 a0))), (43, .opt (b41_3 == false) (.bool (r37_2 a0))), (42, .bool b41_3), (41, .bool b41_3), (40, .opt (b32_1 == false) (.bool b40_2)), (39, .opt ((b32_1 == false) && ((r37_1 a0) == true)) (.bool (!(r39_0 a3)))), (38, .opt ((b32_1 == false) && ((r37_1 a0) == true)) (.bool (r39_0 a3))), (37, .opt ((b32_1 == false) && ((r37_1 a0) == true)) (.int .i64 a3)), (36, .opt ((b32_1 == false) && ((r37_1 a0) == true)) (.vptr [1] 3)), (35, .opt (b32_1 == false) (.bool (r37_1 a0))), (34, .opt (b32_1 == false) (.bool (r37_1 a0))), (33, .bool b32_1), (32, .bool b32_1), (31, .opt ((!(r36_0 a1 (-1) 1000000)) == false) (.bool b31_0)), (30, .opt (((!(r36_0 a1 (-1) 1000000)) == false) && ((r37_0 a0) == true)) (.bool (!(r38_0 a2)))), (29, .opt (((!(r36_0 a1 (-1) 1000000)) == false) && ((r37_0 a0) == true)) (.bool (r38_0 a2))), (28, .opt (((!(r36_0 a1 (-1) 1000000)) == false) && ((r37_0 a0) == true)) (.int .i64 a2)), (27, .opt (((!(r36_0 a1 (-1) 1000000)) == false) && ((r37_0 a0) == true)) (.vptr [1] 2)), (26, .opt ((!(r36_0 a1 (-1) 1000000)) == false) (.bool (r37_0 a0))), (25, .opt ((!(r36_0 a1 (-1) 1000000)) == false) (.bool (r37_0 a0))), (24, .bool (!(r36_0 a1 (-1) 1000000))), (23, .bool (!(r36_0 a1 (-1) 1000000))), (22, .bool (r36_0 a1 (-1) 1000000)), (21, .int .i64 a1), (20, .vptr [1] 1), (1, .vptr [1] 0), (3, .bool (r37_0 a0)), (4, .bool (r37_1 a0)), (5, .bool (r37_2 a0)), (6, .bool (r37_3 a0))], [([1], [.int .i64 a0, .int .i64 a1, .int .i64 a2, .int .i64 a3, .int .i64 a4, .int .i64 a5])], []⟩) (ps := [(((b49_5 == false) && ((r37_3 a0) == true)) = true → ((b49_5 == false) && ((r37_3 a0) == true)) = true)]) ?_ (ap_cons (fun q0 => q0) ap_nil) ?_
    · kernel_rfl
    refine run_as [] (t := 57) (.opt (b49_5 == false) (.bool (cond (r37_3 a0) (!(r41_0 a5)) false))) (x := .opt (b49_5 == false) (.bool (cond (r37_3 a0) (!(r41_0 a5)) false))) (ps := [((b49_5 == false) = true → (b49_5 == false) = true), ((r37_3 a0) = true → (b49_5 == false) = true → ((b49_5 == false) && ((r37_3 a0) == true)) = true)]) ?_ (ap_cons (fun q0 => q0) (ap_cons (fun q0 q1 => (and_i q1 (eq_i q0))) ap_nil)) rfl ?_
    · kernel_rfl
    refine gen_o (fun b57_6 hb57_6 => ?_)
    replace hb57_6 : b57_6 = v22_6 a0 a1 a2 a3 a4 a5 := by rw [hb57_6]; rfl
    refine run_as [] (t := 58) (.bool (cond b49_5 true b57_6)) (x := .bool (cond b49_5 true b57_6)) (ps := [(b49_5 = false → (b49_5 == false) = true)]) ?_ (ap_cons (fun q0 => (eq_i q0)) ap_nil) rfl ?_
    · kernel_rfl
    refine gen_b (fun b58_7 hb58_7 => ?_)
    replace hb58_7 : b58_7 = v22_7 a0 a1 a2 a3 a4 a5 := by rw [hb58_7, hb49_5, hb57_6]; rfl
    refine run_XW [] 1 (ps := []) ?_ ap_nil ?_
    · kernel_rfl
    refine XW_end (ts := [1, 3, 4, 5, 6, 19]) (dv := [[1]]) (ka := []) (st' := ⟨94, [(1, .vptr [1] 0), (3, .bool (r37_0 a0)), (4, .bool (r37_1 a0)), (5, .bool (r37_2 a0)), (6, .bool (r37_3 a0)), (19, .bool b58_7)], [([1], [.int .i64 a0, .int .i64 a1, .int .i64 a2, .int .i64 a3, .int .i64 a4, .int .i64 a5])], []⟩) ?_ ?_ ?_
    · kernel_rfl
    · kernel_rfl
    refine CW_cond (t := b58_7) ?_ (fun h => ?_) (fun h => ?_)
    · kernel_rfl
    · subst h
      try rw [← hb58_7]
      refine CW_seq_reg ?_
      refine run_XW [] 1 (ps := []) ?_ ap_nil ?_
      · kernel_rfl
      refine XW_end (ts := [2]) (dv := []) (ka := []) (st' := ⟨94, [(2, .int .i64 3)], [], []⟩) ?_ ?_ ?_
      · kernel_rfl
      · kernel_rfl
      refine CW_ret ?_
      refine blk_ret ?_
      refine endW_ret ?_; kernel_rfl
    · subst h
      try rw [← hb58_7]
      refine CW_seq_reg ?_
      refine runC_XW (fz := []) (n := 6) (st' := ⟨94, [(65, .opt ((!(r37_0 a0)) == true) (.bool (a2 != 0))), (64, .opt ((!(r37_0 a0)) == true) (.int .i64 a2)), (63, .opt ((!(r37_0 a0)) == true) (.vptr [1] 2)), (62, .bool (!(r37_0 a0))), (61, .bool (!(r37_0 a0))), (60, .bool (r37_0 a0)), (1, .vptr [1] 0), (3, .bool (r37_0 a0)), (4, .bool (r37_1 a0)), (5, .bool (r37_2 a0)), (6, .bool (r37_3 a0)), (19, .bool false)], [([1], [.int .i64 a0, .int .i64 a1, .int .i64 a2, .int .i64 a3, .int .i64 a4, .int .i64 a5])], []⟩) (ps := [(((!(r37_0 a0)) == true) = true → ((!(r37_0 a0)) == true) = true), (((!(r37_0 a0)) == true) = true → ((!(r37_0 a0)) == true) = true)]) ?_ (ap_cons (fun q0 => q0) (ap_cons (fun q0 => q0) ap_nil)) ?_
      · kernel_rfl
      refine run_as [] (t := 66) (.bool (cond (!(r37_0 a0)) (a2 != 0) false)) (x := .bool (cond (!(r37_0 a0)) (a2 != 0) false)) (ps := [((!(r37_0 a0)) = true → ((!(r37_0 a0)) == true) = true)]) ?_ (ap_cons (fun q0 => (eq_i q0)) ap_nil) rfl ?_
      · kernel_rfl
      refine gen_b (fun b66_8 hb66_8 => ?_)
      replace hb66_8 : b66_8 = v22_8 a0 a1 a2 a3 a4 a5 := by rw [hb66_8]; rfl
      refine runC_XW (fz := []) (n := 7) (st' := ⟨94, [(73, .opt ((b66_8 == false) && ((!(r37_1 a0)) == true)) (.bool (a3 != 0))), (72, .opt ((b66_8 == false) && ((!(r37_1 a0)) == true)) (.int .i64 a3)), (71, .opt ((b66_8 == false) && ((!(r37_1 a0)) == true)) (.vptr [1] 3)), (70, .opt (b66_8 == false) (.bool (!(r37_1 a0)))), (69, .opt (b66_8 == false) (.bool (!(r37_1 a0)))), (68, .opt (b66_8 == false) (.bool (r37_1 a0))), (67, .bool b66_8), (66, .bool b66_8), (65, .opt ((!(r37_0 a0)) == true) (.bool (a2 != 0))), (64, .opt ((!(r37_0 a0)) == true) (.int .i64 a2)), (63, .opt ((!(r37_0 a0)) == true) (.vptr [1] 2)), (62, .bool (!(r37_0 a0))), (61, .bool (!(r37_0 a0))), (60, .bool (r37_0 a0)), (1, .vptr [1] 0), (3, .bool (r37_0 a0)), (4, .bool (r37_1 a0)), (5, .bool (r37_2 a0)), (6, .bool (r37_3 a0)), (19, .bool false)], [([1], [.int .i64 a0, .int .i64 a1, .int .i64 a2, .int .i64 a3, .int .i64 a4, .int .i64 a5])], []⟩) (ps := [((b66_8 == false) = true → (b66_8 == false) = true), ((b66_8 == false) = true → (b66_8 == false) = true), (((b66_8 == false) && ((!(r37_1 a0)) == true)) = true → ((b66_8 == false) && ((!(r37_1 a0)) == true)) = true), (((b66_8 == false) && ((!(r37_1 a0)) == true)) = true → ((b66_8 == false) && ((!(r37_1 a0)) == true)) = true)]) ?_ (ap_cons (fun q0 => q0) (ap_cons (fun q0 => q0) (ap_cons (fun q0 => q0) (ap_cons (fun q0 => q0) ap_nil)))) ?_
      · kernel_rfl
      refine run_as [] (t := 74) (.opt (b66_8 == false) (.bool (cond (!(r37_1 a0)) (a3 != 0) false))) (x := .opt (b66_8 == false) (.bool (cond (!(r37_1 a0)) (a3 != 0) false))) (ps := [((b66_8 == false) = true → (b66_8 == false) = true), ((!(r37_1 a0)) = true → (b66_8 == false) = true → ((b66_8 == false) && ((!(r37_1 a0)) == true)) = true)]) ?_ (ap_cons (fun q0 => q0) (ap_cons (fun q0 q1 => (and_i q1 (eq_i q0))) ap_nil)) rfl ?_
      · kernel_rfl
      refine gen_o (fun b74_9 hb74_9 => ?_)
      replace hb74_9 : b74_9 = v22_9 a0 a1 a2 a3 a4 a5 := by rw [hb74_9]; rfl
      refine run_as [] (t := 75) (.bool (cond b66_8 true b74_9)) (x := .bool (cond b66_8 true b74_9)) (ps := [(b66_8 = false → (b66_8 == false) = true)]) ?_ (ap_cons (fun q0 => (eq_i q0)) ap_nil) rfl ?_
      · kernel_rfl
      refine gen_b (fun b75_10 hb75_10 => ?_)
      replace hb75_10 : b75_10 = v22_10 a0 a1 a2 a3 a4 a5 := by rw [hb75_10, hb66_8, hb74_9]; rfl
      refine runC_XW (fz := []) (n := 7) (st' := ⟨94, [(82, .opt ((b75_10 == false) && ((!(r37_2 a0)) == true)) (.bool (a4 != 0))), (81, .opt ((b75_10 == false) && ((!(r37_2 a0)) == true)) (.int .i64 a4)), (80, .opt ((b75_10 == false) && ((!(r37_2 a0)) == true)) (.vptr [1] 4)), (79, .opt (b75_10 == false) (.bool (!(r37_2 a0)))), (78, .opt (b75_10 == false) (.bool (!(r37_2 a0)))), (77, .opt (b75_10 == false) (.bool (r37_2 a0))), (76, .bool b75_10), (75, .bool b75_10), (74, .opt (b66_8 == false) (.bool b74_9)), (73, .opt ((b66_8 == false) && ((!(r37_1 a0)) == true)) (.bool (a3 != 0))), (72, .opt ((b66_8 == false) && ((!(r37_1 a0)) == true)) (.int .i64 a3)), (71, .opt ((b66_8 == false) && ((!(r37_1 a0)) == true)) (.vptr [1] 3)), (70, .opt (b66_8 == false) (.bool (!(r37_1 a0)))), (69, .opt (b66_8 == false) (.bool (!(r37_1 a0)))), (68, .opt (b66_8 == false) (.bool (r37_1 a0))), (67, .bool b66_8), (66, .bool b66_8), (65, .opt ((!(r37_0 a0)) == true) (.bool (a2 != 0))), (64, .opt ((!(r37_0 a0)) == true) (.int .i64 a2)), (63, .opt ((!(r37_0 a0)) == true) (.vptr [1] 2)), (62, .bool (!(r37_0 a0))), (61, .bool (!(r37_0 a0))), (60, .bool (r37_0 a0)), (1, .vptr [1] 0), (3, .bool (r37_0 a0)), (4, .bool (r37_1 a0)), (5, .bool (r37_2 a0)), (6, .bool (r37_3 a0)), (19, .bool false)], [([1], [.int .i64 a0, .int .i64 a1, .int .i64 a2, .int .i64 a3, .int .i64 a4, .int .i64 a5])], []⟩) (ps := [((b75_10 == false) = true → (b75_10 == false) = true), ((b75_10 == false) = true → (b75_10 == false) = true), (((b75_10 == false) && ((!(r37_2 a0)) == true)) = true → ((b75_10 == false) && ((!(r37_2 a0)) == true)) = true), (((b75_10 == false) && ((!(r37_2 a0)) == true)) = true → ((b75_10 == false) && ((!(r37_2 a0)) == true)) = true)]) ?_ (ap_cons (fun q0 => q0) (ap_cons (fun q0 => q0) (ap_cons (fun q0 => q0) (ap_cons (fun q0 => q0) ap_nil)))) ?_
      · kernel_rfl
      refine run_as [] (t := 83) (.opt (b75_10 == false) (.bool (cond (!(r37_2 a0)) (a4 != 0) false))) (x := .opt (b75_10 == false) (.bool (cond (!(r37_2 a0)) (a4 != 0) false))) (ps := [((b75_10 == false) = true → (b75_10 == false) = true), ((!(r37_2 a0)) = true → (b75_10 == false) = true → ((b75_10 == false) && ((!(r37_2 a0)) == true)) = true)]) ?_ (ap_cons (fun q0 => q0) (ap_cons (fun q0 q1 => (and_i q1 (eq_i q0))) ap_nil)) rfl ?_
      · kernel_rfl
      refine gen_o (fun b83_11 hb83_11 => ?_)
      replace hb83_11 : b83_11 = v22_11 a0 a1 a2 a3 a4 a5 := by rw [hb83_11]; rfl
      refine run_as [] (t := 84) (.bool (cond b75_10 true b83_11)) (x := .bool (cond b75_10 true b83_11)) (ps := [(b75_10 = false → (b75_10 == false) = true)]) ?_ (ap_cons (fun q0 => (eq_i q0)) ap_nil) rfl ?_
      · kernel_rfl
      refine gen_b (fun b84_12 hb84_12 => ?_)
      replace hb84_12 : b84_12 = v22_12 a0 a1 a2 a3 a4 a5 := by rw [hb84_12, hb75_10, hb83_11]; rfl
      refine runC_XW (fz := []) (n := 7) (st' := ⟨94, [(91, .opt ((b84_12 == false) && ((!(r37_3 a0)) == true)) (.bool (a5 != 0))), (90, .opt ((b84_12 == false) && ((!(r37_3 a0)) == true)) (.int .i64 a5)), (89, .opt ((b84_12 == false) && ((!(r37_3 a0)) == true)) (.vptr [1] 5)), (88, .opt (b84_12 == false) (.bool (!(r37_3 a0)))), (87, .opt (b84_12 == false) (.bool (!(r37_3 a0)))), (86, .opt (b84_12 == false) (.bool (r37_3 a0))), (85, .bool b84_12), (84, .bool b84_12), (83, .opt (b75_10 == false) (.bool b83_11)), (82, .opt ((b75_10 == false) && ((!(r37_2 a0)) == true)) (.bool (a4 != 0))), (81, .opt ((b75_10 == false) && ((!(r37_2 a0)) == true)) (.int .i64 a4)), (80, .opt ((b75_10 == false) && ((!(r37_2 a0)) == true)) (.vptr [1] 4)), (79, .opt (b75_10 == false) (.bool (!(r37_2 a0)))), (78, .opt (b75_10 == false) (.bool (!(r37_2 a0)))), (77, .opt (b75_10 == false) (.bool (r37_2 a0))), (76, .bool b75_10), (75, .bool b75_10), (74, .opt (b66_8 == false) (.bool b74_9)), (73, .opt ((b66_8 == false) && ((!(r37_1 a0)) == true)) (.bool (a3 != 0))), (72, .opt ((b66_8 == false) && ((!(r37_1 a0)) == true)) (.int .i64 a3)), (71, .opt ((b66_8 == false) && ((!(r37_1 a0)) == true)) (.vptr [1] 3)), (70, .opt (b66_8 == false) (.bool (!(r37_1 a0)))), (69, .opt (b66_8 == false) (.bool (!(r37_1 a0)))), (68, .opt (b66_8 == false) (.bool (r37_1 a0))), (67, .bool b66_8), (66, .bool b66_8), (65, .opt ((!(r37_0 a0)) == true) (.bool (a2 != 0))), (64, .opt ((!(r37_0 a0)) == true) (.int .i64 a2)), (63, .opt ((!(r37_0 a0)) == true) (.vptr [1] 2)), (62, .bool (!(r37_0 a0))), (61, .bool (!(r37_0 a0))), (60, .bool (r37_0 a0)), (1, .vptr [1] 0), (3, .bool (r37_0 a0)), (4, .bool (r37_1 a0)), (5, .bool (r37_2 a0)), (6, .bool (r37_3 a0)), (19, .bool false)], [([1], [.int .i64 a0, .int .i64 a1, .int .i64 a2, .int .i64 a3, .int .i64 a4, .int .i64 a5])], []⟩) (ps := [((b84_12 == false) = true → (b84_12 == false) = true), ((b84_12 == false) = true → (b84_12 == false) = true), (((b84_12 == false) && ((!(r37_3 a0)) == true)) = true → ((b84_12 == false) && ((!(r37_3 a0)) == true)) = true), (((b84_12 == false) && ((!(r37_3 a0)) == true)) = true → ((b84_12 == false) && ((!(r37_3 a0)) == true)) = true)]) ?_ (ap_cons (fun q0 => q0) (ap_cons (fun q0 => q0) (ap_cons (fun q0 => q0) (ap_cons (fun q0 => q0) ap_nil)))) ?_
      · kernel_rfl
      refine run_as [] (t := 92) (.opt (b84_12 == false) (.bool (cond (!(r37_3 a0)) (a5 != 0) false))) (x := .opt (b84_12 == false) (.bool (cond (!(r37_3 a0)) (a5 != 0) false))) (ps := [((b84_12 == false) = true → (b84_12 == false) = true), ((!(r37_3 a0)) = true → (b84_12 == false) = true → ((b84_12 == false) && ((!(r37_3 a0)) == true)) = true)]) ?_ (ap_cons (fun q0 => q0) (ap_cons (fun q0 q1 => (and_i q1 (eq_i q0))) ap_nil)) rfl ?_
      · kernel_rfl
      refine gen_o (fun b92_13 hb92_13 => ?_)
      replace hb92_13 : b92_13 = v22_13 a0 a1 a2 a3 a4 a5 := by rw [hb92_13]; rfl
      refine run_as [] (t := 93) (.bool (cond b84_12 true b92_13)) (x := .bool (cond b84_12 true b92_13)) (ps := [(b84_12 = false → (b84_12 == false) = true)]) ?_ (ap_cons (fun q0 => (eq_i q0)) ap_nil) rfl ?_
      · kernel_rfl
      refine gen_b (fun b93_14 hb93_14 => ?_)
      replace hb93_14 : b93_14 = v22_14 a0 a1 a2 a3 a4 a5 := by rw [hb93_14, hb84_12, hb92_13]; rfl
      refine run_XW [] 1 (ps := []) ?_ ap_nil ?_
      · kernel_rfl
      refine XW_end (ts := [59]) (dv := []) (ka := []) (st' := ⟨94, [(59, .bool b93_14)], [], []⟩) ?_ ?_ ?_
      · kernel_rfl
      · kernel_rfl
      refine CW_cond (t := b93_14) ?_ (fun h => ?_) (fun h => ?_)
      · kernel_rfl
      · subst h
        try rw [← hb93_14]
        refine CW_seq_reg ?_
        refine run_XW [] 1 (ps := []) ?_ ap_nil ?_
        · kernel_rfl
        refine XW_end (ts := [2]) (dv := []) (ka := []) (st' := ⟨94, [(2, .int .i64 1)], [], []⟩) ?_ ?_ ?_
        · kernel_rfl
        · kernel_rfl
        refine CW_ret ?_
        refine blk_ret ?_
        refine endW_ret ?_; kernel_rfl
      · subst h
        try rw [← hb93_14]
        refine CW_skip ?_
        refine blk_normal ?_
        refine CW_seq_reg ?_
        refine run_XW [] 1 (ps := []) ?_ ap_nil ?_
        · kernel_rfl
        refine XW_end (ts := [2]) (dv := []) (ka := []) (st' := ⟨94, [(2, .int .i64 0)], [], []⟩) ?_ ?_ ?_
        · kernel_rfl
        · kernel_rfl
        refine CW_ret ?_
        refine endW_ret ?_; kernel_rfl
end Go.E
