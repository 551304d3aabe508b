/- What the functions that several laws reach compute, each by its code, against pure functions. Conditions: those that each theorem states. -/
import Derived.Test.YtnbfnennddnmlaaGreatQC1
section
set_option maxRecDepth 100000
set_option maxHeartbeats 4000000
set_option cbv.maxSteps 4000000
set_option linter.unusedVariables false
set_option linter.unusedSimpArgs false
namespace Go.H
open Go Go.Proofs.Tryz
variable [Inv prog]
section
attribute [local go_sem] List.set_set mkL_length
theorem s_laws_markInt64SS (xs : List (List Int)) (k : Int) (hk : 0 ≤ k) (hl : xs.length ≤ 2097152) (hb : mkK sLI xs k ≤ 9000000000000000000) (hm : ∀ y ∈ xs, y.length ≤ 2097152) : SemX prog 68 [.one (.arr 0), aI k] [.arr 1 (xs.map (eLI_i64 true))] [rI (mkK sLI xs k)] [.arr 1 ((mkL mLI sLI xs k).map (eLI_i64 true))] := by
 refine goF [(32, ⟨some 3, some 65536, none, none⟩)] [] [] func68 ?_
 refine D ?_
 refine L (α := Nat) (fun x => [(1, .int .i64 (mkK sLI (xs.take x) k)), (5, .int .i64 x)]) (fun x => [(1000000, .arr ⟨1, (mkL mLI sLI (xs.take x) k ++ xs.drop x).map (eLI_i64 true), 1 + 2 * x, none⟩)]) (fun x => xs.length - x) (fun x => x ≤ xs.length) 0 [] (fun x hI => ?_) (by simp only [go_sem] <;> and_intros <;> first | with_reducible exact rfl | (first | omega | (simp [mkL, mkK]; done)))
 refine D ?_
 refine cC (fun c0 => ?_) (fun c0 => ?_)
 · skip
   have hat := mkK_at sLI_up zLI_i64 (xs := xs) (i := x) (by omega) hb
   simp only [sLI] at hat
   have hg : ∀ r, (((mkL mLI sLI (xs.take x) k ++ xs.drop x).map (eLI_i64 true)).set x r).getD x (dLI_i64 true) = r := fun r => getD_set_self (by simp [mkL_length]; omega) r _
   have hA := And.intro hg ((mk_getD mLI sLI zLI_i64 k (show x < xs.length by omega)))
   refine D ?_
   refine RW_callBN 15 (dLI_i64 true) (by kernel_rfl) (s_laws_markInt64S (xs.getD x zLI_i64) _ (by omega) (hm _ (getD_mem zLI_i64 (by omega))) hat.2) true [65536] [] [] rfl rfl (by simp only [go_sem, hA] <;> and_intros <;> first | with_reducible exact rfl | omega | with_reducible trivial | (intros; simp_all; done) | grind) (by exact rfl) (by simp only [go_sem, hA] <;> and_intros <;> first | with_reducible exact rfl | omega | with_reducible trivial | (intros; simp_all; done) | grind) (by first | rfl | (simp only [go_sem, hA]; done)) (by simp only [go_sem, hA]; exact rfl) ?_
   refine D ?_
   refine lp_next (x+1) [] ?_ ?_ ?_
   · simp only [go_sem, hA] <;> and_intros <;> first | with_reducible exact rfl | (first | omega | (refine int_eq ?_; rw [mkK_succ sLI zLI_i64 (by omega)]; rfl) | (refine arr_eq ?_ (by omega); rw [← mk_step (eLI_i64 true) mLI sLI zLI_i64 (by omega)]; simp only [eLI_i64, mLI]))
   · omega
   · omega
 · skip
   obtain rfl : x = xs.length := by omega
   refine D ?_
   refine E ?_
   first
   | exact trivial
   | simp only [go_sem, List.drop_length, mkL_length]; done
   | try simp only [go_sem, List.drop_length, mkL_length]
     simp [mkL_length]
end
end Go.H
end
section
set_option maxRecDepth 100000
set_option maxHeartbeats 4000000
set_option cbv.maxSteps 4000000
set_option linter.unusedVariables false
set_option linter.unusedSimpArgs false
namespace Go.H
open Go Go.Proofs.Tryz
variable [Inv prog]
section
attribute [local go_sem] List.set_set mkL_length
theorem s_laws_markHeldS (xs : List Held) (k : Int) (hk : 0 ≤ k) (hl : xs.length ≤ 2097152) (hb : mkK sH xs k ≤ 9000000000000000000) : SemX prog 69 [.one (.arr 0), aI k] [.arr 7 (xs.map eHeld)] [rI (mkK sH xs k)] [.arr 7 ((mkL mH sH xs k).map eHeld)] := by
 refine goF [] [] [] func69 ?_
 refine D ?_
 refine L (α := Nat) (fun x => [(1, .int .i64 (mkK sH (xs.take x) k)), (5, .int .i64 x)]) (fun x => [(1000000, .arr ⟨7, (mkL mH sH (xs.take x) k ++ xs.drop x).map eHeld, 1 + 7 * x, none⟩)]) (fun x => xs.length - x) (fun x => x ≤ xs.length) 0 [] (fun x hI => ?_) (by simp only [go_sem] <;> and_intros <;> first | with_reducible exact rfl | (first | omega | (simp [mkL, mkK]; done)))
 refine D ?_
 refine cC (fun c0 => ?_) (fun c0 => ?_)
 · skip
   have hat := mkK_at sH_up zHeld (xs := xs) (i := x) (by omega) hb
   simp only [sH] at hat
   have hg : ∀ r, (((mkL mH sH (xs.take x) k ++ xs.drop x).map eHeld).set x r).getD x dHeld = r := fun r => getD_set_self (by simp [mkL_length]; omega) r _
   have hA := And.intro hg ((mk_getD mH sH zHeld k (show x < xs.length by omega)))
   refine D ?_
   refine lp_next (x+1) [] ?_ ?_ ?_
   · simp only [go_sem, hA] <;> and_intros <;> first | with_reducible exact rfl | (first | omega | (refine int_eq ?_; rw [mkK_succ sH zHeld (by omega)]; rfl) | (refine arr_eq ?_ (by omega); rw [← mk_step eHeld mH sH zHeld (by omega)]; simp only [eHeld, mH]))
   · omega
   · omega
 · skip
   obtain rfl : x = xs.length := by omega
   refine D ?_
   refine E ?_
   first
   | exact trivial
   | simp only [go_sem, List.drop_length, mkL_length]; done
   | try simp only [go_sem, List.drop_length, mkL_length]
     simp [mkL_length]
end
end Go.H
end
section
set_option maxRecDepth 100000
set_option maxHeartbeats 4000000
set_option cbv.maxSteps 4000000
set_option linter.unusedVariables false
set_option linter.unusedSimpArgs false
namespace Go.H
open Go Go.Proofs.Tryz
variable [Inv prog]
theorem s_laws_markMux (x : Mux) (hx : limX 2097152 x) (k : Int) (hk : 0 ≤ k) (hb : sX x k ≤ 9000000000000000000) : SemX prog 18 [.agg [.t (.int .i64 x.address), .t (.int .i64 x.now), .t (.bool x.watch.ready), .t (.int .i64 x.watch.config.version), .arr 0, .arr 1, .arr 2, .arr 3], aI k] [.arr 5 (x.watch.config.backends.map eBackend), .arr 4 (x.watch.config.vips.map (eVip true)), .arr 1 (x.tables.map (eLI_i64 true)), .arr 7 (x.cache.map eHeld)] [rI (sX x k)] [.arr 5 ((mX x k).watch.config.backends.map eBackend), .arr 4 ((mX x k).watch.config.vips.map (eVip true)), .arr 1 ((mX x k).tables.map (eLI_i64 true)), .arr 7 ((mX x k).cache.map eHeld)] := by
 refine goF [] [] [] func18 ?_
 simp only [sX] at hb
 have u2 := Int.le_trans (mkK_mono sH_up _ _) hb
 have u1 := Int.le_trans (mkK_mono sLI_up _ _) u2
 have v1 := sG_up x.watch.config k
 have v2 := mkK_mono sLI_up x.tables (sG x.watch.config k)
 have v3 := mkK_mono sH_up x.cache (mkK sLI x.tables (sG x.watch.config k))
 refine D ?_
 refine kRk [1000000, 1001000] [] [] (s_laws_markWatch x.watch hx.1 k hk u1) ?_
 refine D ?_
 refine kRk [1002000] [] [] (s_laws_markInt64SS x.tables _ (by omega) hx.2.1 u2 hx.2.2.1) ?_
 refine D ?_
 refine kRk [1003000] [] [] (s_laws_markHeldS x.cache _ (by omega) hx.2.2.2 hb) ?_
 refine D ?_
 refine E ?_
 first
 | exact trivial
 | simp only [go_sem, mX, mG, sX, mkL_length]
end Go.H
end
section
set_option maxRecDepth 100000
set_option maxHeartbeats 4000000
set_option cbv.maxSteps 4000000
set_option linter.unusedVariables false
set_option linter.unusedSimpArgs false
namespace Go.H
open Go Go.Proofs.Tryz
variable [Inv prog]
section
attribute [local go_sem] mkL_length mB
theorem s_laws_heldBackendS (xs : List Backend) (k : Int) (hk : 0 ≤ k) (hl : xs.length ≤ 2097152) (hb : mkK sB xs k ≤ 9000000000000000000)  : SemX prog 251 [aT (.sl false 5 ((mkL mB sB xs k).map eBackend)), aI k] [] [rI (mkK sB xs k)] [] := by
 refine goF [] [] [] func251 ?_
 refine D ?_
 refine L (α := Nat) (fun x => [(1, .int .i64 (mkK sB (xs.take x) k)), (5, .int .i64 x)]) (fun x => []) (fun x => xs.length - x) (fun x => x ≤ xs.length) 0 [] (fun x hI => ?_) (by simp only [go_sem] <;> and_intros <;> first | with_reducible exact rfl | (first | omega | (simp [mkK]; done)))
 refine D ?_
 refine cC (fun c0 => ?_) (fun c0 => ?_)
 · skip
   have hat := mkK_at sB_up zBackend (xs := xs) (i := x) (by omega) hb
   simp only [sB] at hat
   have hg := mkL_getD mB sB zBackend k (show x < xs.length by omega)
   have hA := hg
   refine D ?_
   refine cF ?_
   refine D ?_
   refine cF ?_
   refine D ?_
   refine cF ?_
   refine D ?_
   refine cF ?_
   refine D ?_
   refine cF ?_
   refine D ?_
   refine lp_next (x+1) [] ?_ ?_ ?_
   · simp only [go_sem, hA] <;> and_intros <;> first | with_reducible exact rfl | (first | omega | (refine int_eq ?_; rw [mkK_succ sB zBackend (by omega)]; rfl))
   · omega
   · omega
 · skip
   obtain rfl : x = xs.length := by omega
   refine D ?_
   refine E ?_
   first
   | exact trivial
   | simp [mkL_length]
end
end Go.H
end
section
set_option maxRecDepth 100000
set_option maxHeartbeats 4000000
set_option cbv.maxSteps 4000000
set_option linter.unusedVariables false
set_option linter.unusedSimpArgs false
namespace Go.H
open Go Go.Proofs.Tryz
variable [Inv prog]
section
attribute [local go_sem] mkL_length mI
theorem s_laws_heldInt64S (xs : List Int) (k : Int) (hk : 0 ≤ k) (hl : xs.length ≤ 2097152) (hb : mkK sI xs k ≤ 9000000000000000000)  : SemX prog 206 [aT (.sl false 1 ((mkL mI sI xs k).map eI_i64)), aI k] [] [rI (mkK sI xs k)] [] := by
 refine goF [] [] [] func206 ?_
 refine D ?_
 refine L (α := Nat) (fun x => [(1, .int .i64 (mkK sI (xs.take x) k)), (5, .int .i64 x)]) (fun x => []) (fun x => xs.length - x) (fun x => x ≤ xs.length) 0 [] (fun x hI => ?_) (by simp only [go_sem] <;> and_intros <;> first | with_reducible exact rfl | (first | omega | (simp [mkK]; done)))
 refine D ?_
 refine cC (fun c0 => ?_) (fun c0 => ?_)
 · skip
   have hat := mkK_at sI_up zI_i64 (xs := xs) (i := x) (by omega) hb
   simp only [sI] at hat
   have hg := mkL_getD mI sI zI_i64 k (show x < xs.length by omega)
   have hA := hg
   refine D ?_
   refine cF ?_
   refine D ?_
   refine lp_next (x+1) [] ?_ ?_ ?_
   · simp only [go_sem, hA] <;> and_intros <;> first | with_reducible exact rfl | (first | omega | (refine int_eq ?_; rw [mkK_succ sI zI_i64 (by omega)]; rfl))
   · omega
   · omega
 · skip
   obtain rfl : x = xs.length := by omega
   refine D ?_
   refine E ?_
   first
   | exact trivial
   | simp [mkL_length]
end
end Go.H
end
section
set_option maxRecDepth 100000
set_option maxHeartbeats 4000000
set_option cbv.maxSteps 4000000
set_option linter.unusedVariables false
set_option linter.unusedSimpArgs false
namespace Go.H
open Go Go.Proofs.Tryz
variable [Inv prog]
section
attribute [local go_sem] mkL_length mV
theorem s_laws_heldVipS (xs : List Vip) (k : Int) (hk : 0 ≤ k) (hl : xs.length ≤ 2097152) (hb : mkK sV xs k ≤ 9000000000000000000) (hm : ∀ y ∈ xs, limV 2097152 y) : SemX prog 252 [aT (.sl false 4 ((mkL mV sV xs k).map (eVip false))), aI k] [] [rI (mkK sV xs k)] [] := by
 refine goF [] [] [] func252 ?_
 refine D ?_
 refine L (α := Nat) (fun x => [(1, .int .i64 (mkK sV (xs.take x) k)), (5, .int .i64 x)]) (fun x => []) (fun x => xs.length - x) (fun x => x ≤ xs.length) 0 [] (fun x hI => ?_) (by simp only [go_sem] <;> and_intros <;> first | with_reducible exact rfl | (first | omega | (simp [mkK]; done)))
 refine D ?_
 refine cC (fun c0 => ?_) (fun c0 => ?_)
 · skip
   have hat := mkK_at sV_up zVip (xs := xs) (i := x) (by omega) hb
   simp only [sV] at hat
   have hg := mkL_getD mV sV zVip k (show x < xs.length by omega)
   have hup := Int.le_trans (mkK_mono sI_up _ _) hat.2
   have v1 := mkK_mono sI_up (xs.getD x zVip).names (mkK sV (xs.take x) k + 1 + 1 + 1)
   have hA := hg
   refine D ?_
   refine cF ?_
   refine D ?_
   refine cF ?_
   refine D ?_
   refine cF ?_
   refine D ?_
   refine kR (s_laws_heldInt64S (xs.getD x zVip).names _ (by omega) (hm _ (getD_mem zVip (by omega))) hat.2) ?_
   refine D ?_
   refine cC (fun c4 => ?_) (fun c4 => ?_)
   · skip
     omega
   · skip
     refine D ?_
     refine lp_next (x+1) [] ?_ ?_ ?_
     · simp only [go_sem, hA] <;> and_intros <;> first | with_reducible exact rfl | (first | omega | (refine int_eq ?_; rw [mkK_succ sV zVip (by omega)]; rfl))
     · omega
     · omega
 · skip
   obtain rfl : x = xs.length := by omega
   refine D ?_
   refine E ?_
   first
   | exact trivial
   | simp [mkL_length]
end
end Go.H
end
section
set_option maxRecDepth 100000
set_option maxHeartbeats 4000000
set_option cbv.maxSteps 4000000
set_option linter.unusedVariables false
set_option linter.unusedSimpArgs false
namespace Go.H
open Go Go.Proofs.Tryz
variable [Inv prog]
section
attribute [local go_sem] mG
theorem s_laws_heldConfig (x : Config) (hx : limG 2097152 x) (k : Int) (hk : 0 ≤ k) (hb : sG x k ≤ 9000000000000000000) : SemX prog 205 [aS (eConfig false (mG x k)), aI k] [] [rI (sG x k)] [] := by
 refine goF [] [] [] func205 ?_
 simp only [sG] at hb
 have u1 := Int.le_trans (mkK_mono sV_up _ _) hb
 have v1 := mkK_mono sB_up x.backends k
 have v2 := mkK_mono sV_up x.vips (mkK sB x.backends k)
 refine D ?_
 refine kR (s_laws_heldBackendS x.backends k hk hx.1 u1) ?_
 refine D ?_
 refine cC (fun c0 => ?_) (fun c0 => ?_)
 · skip
   omega
 · skip
   refine D ?_
   refine kR (s_laws_heldVipS x.vips _ (by omega) hx.2.1 hb hx.2.2) ?_
   refine D ?_
   refine cC (fun c1 => ?_) (fun c1 => ?_)
   · skip
     omega
   · skip
     refine D ?_
     refine E ?_
     first
     | exact trivial
     | simp only [go_sem, sG]
end
end Go.H
end
section
set_option maxRecDepth 100000
set_option maxHeartbeats 4000000
set_option cbv.maxSteps 4000000
set_option linter.unusedVariables false
set_option linter.unusedSimpArgs false
namespace Go.H
open Go Go.Proofs.Tryz
variable [Inv prog]
theorem s_laws_heldWatch (x : Watch) (hx : limG 2097152 x.config) (k : Int) (hk : 0 ≤ k) (hb : sG x.config k ≤ 9000000000000000000) : SemX prog 137 [aS (eWatch false ⟨x.ready, mG x.config k⟩), aI k] [] [rI (sG x.config k)] [] := by
 refine goF [] [] [] func137 ?_
 refine D ?_
 refine kR (s_laws_heldConfig x.config hx k hk hb) ?_
 refine D ?_
 refine cC (fun c0 => ?_) (fun c0 => ?_)
 · skip
   have := sG_up x.config k
   omega
 · skip
   refine D ?_
   exact E trivial
end Go.H
end
section
set_option maxRecDepth 100000
set_option maxHeartbeats 4000000
set_option cbv.maxSteps 4000000
set_option linter.unusedVariables false
set_option linter.unusedSimpArgs false
namespace Go.H
open Go Go.Proofs.Tryz
variable [Inv prog]
section
attribute [local go_sem] mkL_length mLI
theorem s_laws_heldInt64SS (xs : List (List Int)) (k : Int) (hk : 0 ≤ k) (hl : xs.length ≤ 2097152) (hb : mkK sLI xs k ≤ 9000000000000000000) (hm : ∀ y ∈ xs, y.length ≤ 2097152) : SemX prog 138 [aT (.sl false 1 ((mkL mLI sLI xs k).map (eLI_i64 false))), aI k] [] [rI (mkK sLI xs k)] [] := by
 refine goF [] [] [] func138 ?_
 refine D ?_
 refine L (α := Nat) (fun x => [(1, .int .i64 (mkK sLI (xs.take x) k)), (5, .int .i64 x)]) (fun x => []) (fun x => xs.length - x) (fun x => x ≤ xs.length) 0 [] (fun x hI => ?_) (by simp only [go_sem] <;> and_intros <;> first | with_reducible exact rfl | (first | omega | (simp [mkK]; done)))
 refine D ?_
 refine cC (fun c0 => ?_) (fun c0 => ?_)
 · skip
   have hat := mkK_at sLI_up zLI_i64 (xs := xs) (i := x) (by omega) hb
   simp only [sLI] at hat
   have hg := mkL_getD mLI sLI zLI_i64 k (show x < xs.length by omega)
   have v1 := mkK_mono sI_up (xs.getD x zLI_i64) (mkK sLI (xs.take x) k)
   have hA := hg
   refine D ?_
   refine kR (s_laws_heldInt64S (xs.getD x zLI_i64) _ (by omega) (hm _ (getD_mem zLI_i64 (by omega))) hat.2) ?_
   refine D ?_
   refine cC (fun c1 => ?_) (fun c1 => ?_)
   · skip
     omega
   · skip
     refine D ?_
     refine lp_next (x+1) [] ?_ ?_ ?_
     · simp only [go_sem, hA] <;> and_intros <;> first | with_reducible exact rfl | (first | omega | (refine int_eq ?_; rw [mkK_succ sLI zLI_i64 (by omega)]; rfl))
     · omega
     · omega
 · skip
   obtain rfl : x = xs.length := by omega
   refine D ?_
   refine E ?_
   first
   | exact trivial
   | simp [mkL_length]
end
end Go.H
end
section
set_option maxRecDepth 100000
set_option maxHeartbeats 4000000
set_option cbv.maxSteps 4000000
set_option linter.unusedVariables false
set_option linter.unusedSimpArgs false
namespace Go.H
open Go Go.Proofs.Tryz
variable [Inv prog]
section
attribute [local go_sem] mkL_length mH
theorem s_laws_heldHeldS (xs : List Held) (k : Int) (hk : 0 ≤ k) (hl : xs.length ≤ 2097152) (hb : mkK sH xs k ≤ 9000000000000000000)  : SemX prog 139 [aT (.sl false 7 ((mkL mH sH xs k).map eHeld)), aI k] [] [rI (mkK sH xs k)] [] := by
 refine goF [] [] [] func139 ?_
 refine D ?_
 refine L (α := Nat) (fun x => [(1, .int .i64 (mkK sH (xs.take x) k)), (5, .int .i64 x)]) (fun x => []) (fun x => xs.length - x) (fun x => x ≤ xs.length) 0 [] (fun x hI => ?_) (by simp only [go_sem] <;> and_intros <;> first | with_reducible exact rfl | (first | omega | (simp [mkK]; done)))
 refine D ?_
 refine cC (fun c0 => ?_) (fun c0 => ?_)
 · skip
   have hat := mkK_at sH_up zHeld (xs := xs) (i := x) (by omega) hb
   simp only [sH] at hat
   have hg := mkL_getD mH sH zHeld k (show x < xs.length by omega)
   have hA := hg
   refine D ?_
   refine cF ?_
   refine D ?_
   refine cF ?_
   refine D ?_
   refine cF ?_
   refine D ?_
   refine cF ?_
   refine D ?_
   refine cF ?_
   refine D ?_
   refine cF ?_
   refine D ?_
   refine cF ?_
   refine D ?_
   refine lp_next (x+1) [] ?_ ?_ ?_
   · simp only [go_sem, hA] <;> and_intros <;> first | with_reducible exact rfl | (first | omega | (refine int_eq ?_; rw [mkK_succ sH zHeld (by omega)]; rfl))
   · omega
   · omega
 · skip
   obtain rfl : x = xs.length := by omega
   refine D ?_
   refine E ?_
   first
   | exact trivial
   | simp [mkL_length]
end
end Go.H
end
section
set_option maxRecDepth 100000
set_option maxHeartbeats 4000000
set_option cbv.maxSteps 4000000
set_option linter.unusedVariables false
set_option linter.unusedSimpArgs false
namespace Go.H
open Go Go.Proofs.Tryz
variable [Inv prog]
section
attribute [local go_sem] mX
theorem s_laws_heldMux (x : Mux) (hx : limX 2097152 x) (k : Int) (hk : 0 ≤ k) (hb : sX x k ≤ 9000000000000000000) : SemX prog 71 [aS (eMux false (mX x k)), aI k] [] [rI (sX x k)] [] := by
 refine goF [] [] [] func71 ?_
 simp only [sX] at hb
 have u2 := Int.le_trans (mkK_mono sH_up _ _) hb
 have u1 := Int.le_trans (mkK_mono sLI_up _ _) u2
 have v1 := sG_up x.watch.config k
 have v2 := mkK_mono sLI_up x.tables (sG x.watch.config k)
 have v3 := mkK_mono sH_up x.cache (mkK sLI x.tables (sG x.watch.config k))
 refine D ?_
 refine kR (s_laws_heldWatch x.watch hx.1 k hk u1) ?_
 refine D ?_
 refine cC (fun c0 => ?_) (fun c0 => ?_)
 · skip
   omega
 · skip
   refine D ?_
   refine kR (s_laws_heldInt64SS x.tables _ (by omega) hx.2.1 u2 hx.2.2.1) ?_
   refine D ?_
   refine cC (fun c1 => ?_) (fun c1 => ?_)
   · skip
     omega
   · skip
     refine D ?_
     refine kR (s_laws_heldHeldS x.cache _ (by omega) hx.2.2.2 hb) ?_
     refine D ?_
     refine cC (fun c2 => ?_) (fun c2 => ?_)
     · skip
       omega
     · skip
       refine D ?_
       refine E ?_
       first
       | exact trivial
       | simp only [go_sem, sX]
end
end Go.H
end
section
set_option maxRecDepth 100000
set_option maxHeartbeats 4000000
set_option cbv.maxSteps 4000000
set_option linter.unusedVariables false
set_option linter.unusedSimpArgs false
namespace Go.H
open Go Go.Proofs.Tryz
variable [Inv prog]
theorem s_spec_l1In (a b c : Int) : SemX prog 57 [.one (.t (.int .i64 a)), .one (.t (.int .i64 b)), .one (.t (.int .i64 c))] [] [.one (.bool (inR a b c))] [] := by
 refine goF [] [] [] func57 ?_
 refine D ?_
 refine E ?_
 first
 | exact trivial
 | simp only [go_sem, inR]; done
 | try simp only [go_sem, inR]
   exact rfl
end Go.H
end
section
set_option maxRecDepth 100000
set_option maxHeartbeats 4000000
set_option cbv.maxSteps 4000000
set_option linter.unusedVariables false
set_option linter.unusedSimpArgs false
namespace Go.H
open Go Go.Proofs.Tryz
variable [Inv prog]
theorem s_spec_l2Address (n : Int) : SemX prog 114 [aI n] [] [rB (inR n 0 4294967295)] [] := by
 refine goF [] [] [] func114 ?_
 refine D ?_
 refine kR (s_spec_l1In n 0 4294967295) ?_
 refine D ?_
 exact E trivial
end Go.H
end
section
set_option maxRecDepth 100000
set_option maxHeartbeats 4000000
set_option cbv.maxSteps 4000000
set_option linter.unusedVariables false
set_option linter.unusedSimpArgs false
namespace Go.H
open Go Go.Proofs.Tryz
variable [Inv prog]
theorem s_spec_l14Now (n : Int) : SemX prog 115 [aI n] [] [rB (inR n 0 1000000000)] [] := by
 refine goF [] [] [] func115 ?_
 refine D ?_
 refine kR (s_spec_l1In _ _ _) ?_
 refine D ?_
 exact E trivial
end Go.H
end
section
set_option maxRecDepth 100000
set_option maxHeartbeats 4000000
set_option cbv.maxSteps 4000000
set_option linter.unusedVariables false
set_option linter.unusedSimpArgs false
namespace Go.H
open Go Go.Proofs.Tryz
variable [Inv prog]
theorem s_spec_l5Version (n : Int) : SemX prog 164 [aI n] [] [rB (inR n 0 1000000)] [] := by
 refine goF [] [] [] func164 ?_
 refine D ?_
 refine kR (s_spec_l1In n 0 1000000) ?_
 refine D ?_
 exact E trivial
end Go.H
end
section
set_option maxRecDepth 100000
set_option maxHeartbeats 4000000
set_option cbv.maxSteps 4000000
set_option linter.unusedVariables false
set_option linter.unusedSimpArgs false
namespace Go.H
open Go Go.Proofs.Tryz
variable [Inv prog]
theorem s_spec_l3Name (n : Int) : SemX prog 232 [aI n] [] [rB (inR n 1 999)] [] := by
 refine goF [] [] [] func232 ?_
 refine D ?_
 refine kR (s_spec_l1In n 1 999) ?_
 refine D ?_
 exact E trivial
end Go.H
end
section
set_option maxRecDepth 100000
set_option maxHeartbeats 4000000
set_option cbv.maxSteps 4000000
set_option linter.unusedVariables false
set_option linter.unusedSimpArgs false
namespace Go.H
open Go Go.Proofs.Tryz
variable [Inv prog]
theorem s_spec_l5Backend (b : Backend) : SemX prog 229 [aS (eBackend b)] [] [rB (isBk b)] [] := by
 refine goF [] [] [] func229 ?_
 refine D ?_
 refine kR (s_spec_l3Name _) ?_
 refine D ?_
 refine kRg (s_spec_l2Address _) ?_
 refine D ?_
 refine kRg (s_spec_l1In _ _ _) ?_
 refine D ?_
 refine kRg (s_spec_l1In _ _ _) ?_
 refine D ?_
 refine E ?_
 first
 | exact trivial
 | simp only [go_sem, isBk]
end Go.H
end
section
set_option maxRecDepth 100000
set_option maxHeartbeats 4000000
set_option cbv.maxSteps 4000000
set_option linter.unusedVariables false
set_option linter.unusedSimpArgs false
namespace Go.H
open Go Go.Proofs.Tryz
variable [Inv prog]
theorem s_spec_l5At (c : Config) (hx : limG 2097152 c) (n : Int) : SemX prog 145 [aT (.ptr (eConfig false c)), aI n] [] [rI (findB c.backends n)] [] := by
 refine goF [] [] [] func145 ?_
 obtain ⟨hb, hv, hV⟩ := id hx
 refine D ?_
 refine L (α := Nat) (fun x => [(5, .int .i64 x)]) (fun x => []) (fun x => c.backends.length - x) (fun x => x ≤ c.backends.length ∧ ∀ j, j < x → isB n (c.backends.getD j zBackend) = false) 0 [] (fun x hL => ?_) (hi := by exact ⟨Nat.zero_le _, fun j hj => by omega⟩)
 obtain ⟨hx2, hno⟩ := hL
 refine D ?_
 refine cC (fun c0 => ?_) (fun c0 => ?_)
 · skip
   refine D ?_
   refine cC (fun c1 => ?_) (fun c1 => ?_)
   · skip
     refine D ?_
     refine E ?_
     have he : findB c.backends n = x := idxG_some zBackend (by omega) hno (by simpa [isB] using c1)
     rw [he]
   · skip
     refine D ?_
     refine N (x+1) [] (hi := ?_) (hm := ?_)
     · refine ⟨by omega, fun j hj => ?_⟩
       rcases Nat.lt_or_ge j x with h | h
       · exact hno j h
       · obtain rfl : j = x := by omega
         first | exact c1 | (simpa [isB, isV, eqI] using c1) | (simp [isB, isV, eqI]; grind)
     · omega
 · skip
   obtain rfl : x = c.backends.length := by omega
   refine D ?_
   refine E ?_
   have he : findB c.backends n = -1 := idxG_none zBackend hno
   rw [he]
end Go.H
end
section
set_option maxRecDepth 100000
set_option maxHeartbeats 4000000
set_option cbv.maxSteps 4000000
set_option linter.unusedVariables false
set_option linter.unusedSimpArgs false
namespace Go.H
open Go Go.Proofs.Tryz
variable [Inv prog]
theorem s_spec_l5Proto (n : Int) : SemX prog 234 [aI n] [] [rB (isPro n)] [] := by
 refine goF [] [] [] func234 ?_
 refine D ?_
 refine E ?_
 first
 | exact trivial
 | simp only [go_sem, isPro]; done
 | try simp only [go_sem, isPro]
   cases decide (n = 6) <;> rfl
end Go.H
end
section
set_option maxRecDepth 100000
set_option maxHeartbeats 4000000
set_option cbv.maxSteps 4000000
set_option linter.unusedVariables false
set_option linter.unusedSimpArgs false
namespace Go.H
open Go Go.Proofs.Tryz
variable [Inv prog]
theorem s_spec_l2Port (n : Int) : SemX prog 260 [aI n] [] [rB (inR n 0 65535)] [] := by
 refine goF [] [] [] func260 ?_
 refine D ?_
 refine kR (s_spec_l1In n 0 65535) ?_
 refine D ?_
 exact E trivial
end Go.H
end
section
set_option maxRecDepth 100000
set_option maxHeartbeats 4000000
set_option cbv.maxSteps 4000000
set_option linter.unusedVariables false
set_option linter.unusedSimpArgs false
namespace Go.H
open Go Go.Proofs.Tryz
variable [Inv prog]
theorem s_spec_l5Behind (a b : Vip) : SemX prog 273 [aS (eVip false a), aS (eVip false b)] [] [rB (behV a b)] [] := by
 refine goF [] [] [] func273 ?_
 refine D ?_
 refine cC (fun c0 => ?_) (fun c0 => ?_)
 · skip
   refine D ?_
   refine E ?_
   first
   | exact trivial
   | simp [behV, *]
 · skip
   refine D ?_
   refine cC (fun c1 => ?_) (fun c1 => ?_)
   · skip
     refine D ?_
     refine E ?_
     first
     | exact trivial
     | simp [behV, *]
   · skip
     refine D ?_
     refine E ?_
     first
     | exact trivial
     | simp [behV, *]
end Go.H
end
section
set_option maxRecDepth 100000
set_option maxHeartbeats 4000000
set_option cbv.maxSteps 4000000
set_option linter.unusedVariables false
set_option linter.unusedSimpArgs false
namespace Go.H
open Go Go.Proofs.Tryz
variable [Inv prog]
theorem s_spec_l5Vip (c : Config) (hx : limG 2097152 c) (i : Nat) (hi : i < c.vips.length) : SemX prog 230 [aT (.ptr (eConfig false c)), aI i] [] [rI (vipBad c i)] [] := by
 refine goF [(80, ⟨some 1, none, none, none⟩)] [(4, 11, [24576], []), (14, 1, [24576], []), (14, 6, [24576], [])] [] func230 ?_
 obtain ⟨hb, hv, hV⟩ := id hx
 have hnl : (c.vips.getD i zVip).names.length ≤ 2097152 := hV _ (getD_mem zVip hi)
 refine D ?_
 refine kR (s_spec_l2Address _) ?_
 refine D ?_
 refine kRg (s_spec_l2Port _) ?_
 refine D ?_
 refine kRg (s_spec_l5Proto _) ?_
 refine D ?_
 refine cC (fun c0 => ?_) (fun c0 => ?_)
 · skip
   have hv3 : isVp (c.vips.getD i zVip) = false := by unfold isVp; grind
   refine D ?_
   refine E ?_
   unfold vipBad
   rw [if_pos hv3]
 · skip
   have hv3 : isVp (c.vips.getD i zVip) = true := by unfold isVp; grind
   refine D ?_
   refine kDg (s_spec_l5Behind (c.vips.getD (i - 1) zVip) (c.vips.getD i zVip)) ?_
   refine D ?_
   refine cC (fun c1 => ?_) (fun c1 => ?_)
   · skip
     refine D ?_
     refine E ?_
     unfold vipBad
     grind
   · skip
     refine D ?_
     refine L (α := Nat) (fun x => [(6, .int .i64 x)]) (fun x => []) (fun x => (c.vips.getD i zVip).names.length - x) (fun x => x ≤ (c.vips.getD i zVip).names.length ∧ ∀ j, j < x → noB c.backends ((c.vips.getD i zVip).names.getD j zI_i64) = false) 0 [] (fun x hL => ?_) (hi := by exact ⟨Nat.zero_le _, fun j hj => by omega⟩)
     obtain ⟨hx2, hno⟩ := hL
     refine D ?_
     refine cC (fun c2 => ?_) (fun c2 => ?_)
     · skip
       refine D ?_
       refine kR (s_spec_l5At c hx ((c.vips.getD i zVip).names.getD x zI_i64)) ?_
       refine D ?_
       refine cC (fun c3 => ?_) (fun c3 => ?_)
       · skip
         refine D ?_
         refine E ?_
         have hh : hasG (noB c.backends) (c.vips.getD i zVip).names = true := hasG_true zI_i64 (i := x) (by omega) (by unfold noB; grind)
         unfold vipBad
         grind
       · skip
         refine D ?_
         refine N (x+1) [] (hi := ?_) (hm := ?_)
         · refine ⟨by omega, fun j hj => ?_⟩
           rcases Nat.lt_or_ge j x with h | h
           · exact hno j h
           · obtain rfl : j = x := by omega
             simp [noB]; simp at *; omega
         · omega
     · skip
       obtain rfl : x = (c.vips.getD i zVip).names.length := by omega
       refine D ?_
       refine L (α := Nat) (fun y => [(7, .int .i64 y)]) (fun y => []) (fun y => (c.vips.getD i zVip).names.length - y) (fun y => 1 ≤ y ∧ (y ≤ (c.vips.getD i zVip).names.length ∨ y = 1) ∧ scan (nmBad (c.vips.getD i zVip)) (c.vips.getD i zVip).names.length 1 = scan (nmBad (c.vips.getD i zVip)) (c.vips.getD i zVip).names.length y) 1 [] (fun y hL => ?_) (hi := by exact ⟨Nat.le_refl _, .inr rfl, rfl⟩)
       obtain ⟨hy, hy2, hys⟩ := hL
       refine D ?_
       refine cC (fun c4 => ?_) (fun c4 => ?_)
       · skip
         refine D ?_
         refine cC (fun c5 => ?_) (fun c5 => ?_)
         · skip
           refine D ?_
           refine E ?_
           have hh : hasG (noB c.backends) (c.vips.getD i zVip).names = false := hasG_false zI_i64 hno
           have hs : scan (nmBad (c.vips.getD i zVip)) (c.vips.getD i zVip).names.length y = 1 := by
             rw [scan_lt (by omega)]
             unfold nmBad
             grind
           unfold vipBad
           grind
         · skip
           refine D ?_
           refine N (y+1) [] (hi := ?_) (hm := ?_)
           · refine ⟨by omega, .inl (by omega), ?_⟩
             rw [hys, scan_lt (by omega), if_pos]
             unfold nmBad
             simp at *
             grind
           · omega
       · skip
         refine D ?_
         refine E ?_
         have hh : hasG (noB c.backends) (c.vips.getD i zVip).names = false := hasG_false zI_i64 hno
         have hs : scan (nmBad (c.vips.getD i zVip)) (c.vips.getD i zVip).names.length y = 0 := scan_ge (by omega)
         unfold vipBad
         grind
end Go.H
end
section
set_option maxRecDepth 100000
set_option maxHeartbeats 4000000
set_option cbv.maxSteps 4000000
set_option linter.unusedVariables false
set_option linter.unusedSimpArgs false
namespace Go.H
open Go Go.Proofs.Tryz
variable [Inv prog]
theorem s_spec_l5Fault (c : Config) (hx : limG 2097152 c) : SemX prog 165 [aT (.ptr (eConfig false c))] [] [rI (configFault c)] [] := by
 refine goF [(122, ⟨some 1, none, none, none⟩)] [] [] func165 ?_
 obtain ⟨hb, hv, hV⟩ := id hx
 refine D ?_
 refine kR (s_spec_l5Version _) ?_
 refine D ?_
 refine cC (fun c0 => ?_) (fun c0 => ?_)
 · skip
   refine D ?_
   refine E ?_
   first
   | exact trivial
   | unfold configFault
     grind
 · skip
   refine D ?_
   refine cC (fun c1 => ?_) (fun c1 => ?_)
   · skip
     refine D ?_
     refine E ?_
     first
     | exact trivial
     | unfold configFault
       grind
   · skip
     refine D ?_
     refine L (α := Nat) (fun x => [(3, .int .i64 x)]) (fun x => []) (fun x => c.backends.length - x) (fun x => x ≤ c.backends.length ∧ scan (bkBad c.backends) c.backends.length 0 = scan (bkBad c.backends) c.backends.length x) 0 [] (fun x hL => ?_) (hi := by exact ⟨Nat.zero_le _, rfl⟩)
     obtain ⟨hx2, he⟩ := hL
     refine D ?_
     refine cC (fun c2 => ?_) (fun c2 => ?_)
     · skip
       have hst := scan_lt (f := bkBad c.backends) (show x < c.backends.length by omega)
       have hd : bkBad c.backends x = if isBk (c.backends.getD x zBackend) = false then 3 else if 0 < x ∧ (c.backends.getD x zBackend).name ≤ (c.backends.getD (x - 1) zBackend).name then 1 else 0 := rfl
       refine D ?_
       refine kR (s_spec_l5Backend _) ?_
       refine D ?_
       refine cC (fun c3 => ?_) (fun c3 => ?_)
       · skip
         refine D ?_
         refine E ?_
         first
         | exact trivial
         | unfold configFault
           grind
       · skip
         refine D ?_
         refine cC (fun c4 => ?_) (fun c4 => ?_)
         · skip
           refine D ?_
           refine E ?_
           first
           | exact trivial
           | unfold configFault
             grind
         · skip
           refine D ?_
           refine N (x+1) [] (hi := ?_) (hm := ?_)
           · refine ⟨by omega, ?_⟩
             rw [he, scan_lt (by omega), if_pos]
             unfold bkBad
             grind
           · omega
     · skip
       have hs0 : scan (bkBad c.backends) c.backends.length 0 = 0 := by rw [he, scan_ge (by omega)]
       refine D ?_
       refine L (α := Nat) (fun i => [(4, .int .i64 i)]) (fun i => []) (fun i => c.vips.length - i) (fun i => i ≤ c.vips.length ∧ scan (vipBad c) c.vips.length 0 = scan (vipBad c) c.vips.length i) 0 [] (fun i hL => ?_) (hi := by exact ⟨Nat.zero_le _, rfl⟩)
       obtain ⟨hi2, hie⟩ := hL
       refine D ?_
       refine cC (fun c5 => ?_) (fun c5 => ?_)
       · skip
         have hst2 := scan_lt (f := vipBad c) (show i < c.vips.length by omega)
         refine D ?_
         refine kR (s_spec_l5Vip c hx i (by omega)) ?_
         refine D ?_
         refine cC (fun c6 => ?_) (fun c6 => ?_)
         · skip
           refine D ?_
           refine E ?_
           first
           | exact trivial
           | unfold configFault
             grind
         · skip
           refine D ?_
           refine N (i+1) [] (hi := ?_) (hm := ?_)
           · refine ⟨by omega, ?_⟩
             rw [hie, scan_lt (by omega), if_pos]
             grind
           · omega
       · skip
         have hs1 : scan (vipBad c) c.vips.length 0 = 0 := by rw [hie, scan_ge (by omega)]
         refine D ?_
         refine E ?_
         first
         | exact trivial
         | unfold configFault
           grind
end Go.H
end
section
set_option maxRecDepth 100000
set_option maxHeartbeats 4000000
set_option cbv.maxSteps 4000000
set_option linter.unusedVariables false
set_option linter.unusedSimpArgs false
namespace Go.H
open Go Go.Proofs.Tryz
variable [Inv prog]
theorem s_spec_l13Empty (c : Config) (hx : limG 2097152 c) : SemX prog 166 [aT (.ptr (eConfig false c))] [] [rB (cfgZero c)] [] := by
 refine goF [] [] [] func166 ?_
 obtain ⟨hb, hv, hV⟩ := id hx
 refine D ?_
 refine E ?_
 first
 | exact trivial
 | simp only [go_sem, cfgZero]; done
 | try simp only [go_sem, cfgZero]
   first | rfl | (simp; done) | (simp [Bool.and_assoc]; done) | grind
end Go.H
end
section
set_option maxRecDepth 100000
set_option maxHeartbeats 4000000
set_option cbv.maxSteps 4000000
set_option linter.unusedVariables false
set_option linter.unusedSimpArgs false
namespace Go.H
open Go Go.Proofs.Tryz
variable [Inv prog]
theorem s_spec_WatchFault (w : Watch) (hw : limG 2097152 w.config) : SemX prog 116 [aS (eWatch false w)] [] [rI (watchFault w)] [] := by
 refine goF [] [] [] func116 ?_
 refine D ?_
 refine kR (s_spec_l5Fault w.config hw) ?_
 refine D ?_
 refine cC (fun c0 => ?_) (fun c0 => ?_)
 · skip
   refine D ?_
   refine E ?_
   first
   | exact trivial
   | unfold watchFault
     grind
 · skip
   refine D ?_
   refine kRg (s_spec_l13Empty w.config hw) ?_
   refine D ?_
   refine cC (fun c1 => ?_) (fun c1 => ?_)
   · skip
     refine D ?_
     refine E ?_
     first
     | exact trivial
     | unfold watchFault
       grind
   · skip
     refine D ?_
     refine E ?_
     first
     | exact trivial
     | unfold watchFault
       grind
end Go.H
end
section
set_option maxRecDepth 100000
set_option maxHeartbeats 4000000
set_option cbv.maxSteps 4000000
set_option linter.unusedVariables false
set_option linter.unusedSimpArgs false
namespace Go.H
open Go Go.Proofs.Tryz
variable [Inv prog]
theorem s_spec_l4Weights (l : List Share) (hl : l.length ≤ 2097152) (hw : ∀ s ∈ l, 0 ≤ s.weight ∧ s.weight ≤ 9) : SemX prog 258 [aT (.sl false 2 (l.map eShare))] [] [rI (sumW l)] [] := by
 refine goF [(36, ⟨some 1, none, none, none⟩), (22, ⟨some 1, none, none, none⟩)] [] [] func258 ?_
 have hs0 : sumW [] = 0 := rfl
 have hA := hs0
 refine D ?_
 refine L (α := Nat) (fun i => [(3, .int .i64 (sumW (l.take i))), (4, .int .i64 i)]) (fun i => []) (fun i => l.length - i) (fun i => i ≤ l.length) 0 [] (fun i hI => ?_)
 have hb := sumW_bd (l := l.take i) fun s hs => hw s (List.mem_of_mem_take hs)
 rw [List.length_take] at hb
 refine D ?_
 refine cC (fun c0 => ?_) (fun c0 => ?_)
 · skip
   have hwi := hw _ (getD_mem zShare (show i < l.length by omega))
   refine D ?_
   refine lp_next (i+1) [] ?_ ?_ ?_
   · simp only [go_sem, hA] <;> and_intros <;> first | with_reducible exact rfl | (first | with_reducible exact rfl | omega | (rw [sumW_take (by omega)]; done))
   · omega
   · omega
 · skip
   obtain rfl : i = l.length := by omega
   refine D ?_
   refine E ?_
   first
   | exact trivial
   | rw [List.take_of_length_le (Nat.le_refl _)]
end Go.H
end
section
set_option maxRecDepth 100000
set_option maxHeartbeats 4000000
set_option cbv.maxSteps 4000000
set_option linter.unusedVariables false
set_option linter.unusedSimpArgs false
namespace Go.H
open Go Go.Proofs.Tryz
variable [Inv prog]
theorem s_spec_l3Mod (n b : Int) (hb : 0 < b) (hb2 : b ≤ 4294967296) : SemX prog 287 [aI n, aI b] [] [rI (restI n b)] [] := by
 refine goF [(20, ⟨some 1, none, none, none⟩)] [] [] func287 ?_
 have hr := Int.tmod_lt_of_pos n hb
 have hr2 : -b < n.tmod b := by
   have h3 := Int.tmod_lt_of_pos (-n) hb
   rw [Int.neg_tmod] at h3
   omega
 refine D ?_
 refine E ?_
 first
 | exact trivial
 | simp only [go_sem, restI]
end Go.H
end
section
set_option maxRecDepth 100000
set_option maxHeartbeats 4000000
set_option cbv.maxSteps 4000000
set_option linter.unusedVariables false
set_option linter.unusedSimpArgs false
namespace Go.H
open Go Go.Proofs.Tryz
variable [Inv prog]
theorem s_spec_MixNumber (n s : Int) : SemX prog 266 [aI n, aI s] [] [rI (mix n s)] [] := by
 refine goF [(20, ⟨some 1, none, none, none⟩), (36, ⟨some 1, none, none, none⟩), (42, ⟨some 1, none, none, none⟩), (44, ⟨some 1, none, none, none⟩), (50, ⟨some 1, none, none, none⟩)] [] [] func266 ?_
 have hs := restI_bd (n := s) (b := 10007) (by omega)
 have hn := restI_bd (n := n) (b := 4294967296) (by omega)
 refine D ?_
 refine kR (s_spec_l3Mod s 10007 (by omega) (by omega)) ?_
 refine D ?_
 refine kR (s_spec_l3Mod n 4294967296 (by omega) (by omega)) ?_
 refine D ?_
 refine L (α := Nat × Int × Int) (fun x => [(0, .int .i64 x.2.2), (5, .int .i64 x.2.1), (6, .int .i64 x.1)]) (fun x => []) (fun x => 4 - x.1) (fun x => x.1 ≤ 4 ∧ 0 ≤ x.2.1 ∧ x.2.1 < 1000003 ∧ 0 ≤ x.2.2 ∧ x.2.2 ≤ 4294967295 ∧ mixS (4 - x.1) x.2.1 x.2.2 = mix n s) (0, restI s 10007 + 11, restI n 4294967296) [] (fun x0 hL => ?_) (hi := by exact ⟨by omega, by dsimp only; omega, by dsimp only; omega, hn.1, by dsimp only; omega, rfl⟩)
 obtain ⟨k, h, w⟩ := x0
 obtain ⟨hk, h1, h2, h3, h4, h5⟩ := hL
 try dsimp only at *
 have e1 : 0 ≤ w.tmod 256 := Int.tmod_nonneg _ h3
 have e2 := Int.tmod_lt_of_pos w (show (0 : Int) < 256 by omega)
 have e3 : 0 ≤ w.tdiv 256 := Int.tdiv_nonneg h3 (by omega)
 have e4 := Int.le_trans (Int.tdiv_le_self 256 h3) h4
 refine D ?_
 refine cC (fun c0 => ?_) (fun c0 => ?_)
 · skip
   refine D ?_
   refine N (k + 1, (h * 131 + w.tmod 256 + 1).tmod 1000003, w.tdiv 256) [] (hi := ?_) (hm := ?_)
   · dsimp only
     refine ⟨by omega, Int.tmod_nonneg _ (by omega), Int.tmod_lt_of_pos _ (by omega), Int.tdiv_nonneg h3 (by omega), ?_, ?_⟩
     · exact e4
     · rw [← h5, show 4 - k = (4 - (k + 1)) + 1 by omega, mixS]
   · try dsimp only
     omega
 · skip
   obtain rfl : k = 4 := by omega
   simp only [Nat.sub_self, mixS] at h5
   refine D ?_
   refine E ?_
   first
   | exact trivial
   | rw [h5]
end Go.H
end
section
set_option maxRecDepth 100000
set_option maxHeartbeats 4000000
set_option cbv.maxSteps 4000000
set_option linter.unusedVariables false
set_option linter.unusedSimpArgs false
namespace Go.H
open Go Go.Proofs.Tryz
variable [Inv prog]
theorem s_spec_l3Offset (n : Int) : SemX prog 297 [aI n] [] [rI (offI n)] [] := by
 refine goF [] [] [] func297 ?_
 refine D ?_
 refine kR (s_spec_MixNumber n 3) ?_
 refine D ?_
 refine E ?_
 first
 | exact trivial
 | simp only [go_sem, offI]
end Go.H
end
section
set_option maxRecDepth 100000
set_option maxHeartbeats 4000000
set_option cbv.maxSteps 4000000
set_option linter.unusedVariables false
set_option linter.unusedSimpArgs false
namespace Go.H
open Go Go.Proofs.Tryz
variable [Inv prog]
theorem s_spec_l3Skip (n : Int) : SemX prog 298 [aI n] [] [rI (skipI n)] [] := by
 refine goF [(14, ⟨some 1, none, none, none⟩)] [] [] func298 ?_
 have h1 : 0 ≤ (mix n 5).tmod 30 := Int.tmod_nonneg _ (mix_bd n 5).1
 have h2 := Int.tmod_lt_of_pos (mix n 5) (show (0 : Int) < 30 by omega)
 refine D ?_
 refine kR (s_spec_MixNumber n 5) ?_
 refine D ?_
 refine E ?_
 first
 | exact trivial
 | simp only [go_sem, skipI]
end Go.H
end
section
set_option maxRecDepth 100000
set_option maxHeartbeats 4000000
set_option cbv.maxSteps 4000000
set_option linter.unusedVariables false
set_option linter.unusedSimpArgs false
namespace Go.H
open Go Go.Proofs.Tryz
variable [Inv prog]
theorem s_spec_l3Place (n k : Int) (h0 : 0 ≤ k) (h1 : k < 31) : SemX prog 283 [aI n, aI k] [] [rI (placeI n k)] [] := by
 refine goF [(22, ⟨some 1, none, none, none⟩), (24, ⟨some 1, none, none, none⟩)] [] [] func283 ?_
 have ho := offI_bd n
 have hs := skipI_bd n
 have hm : 0 ≤ k * skipI n := Int.mul_nonneg h0 (by omega)
 have hm2 : k * skipI n ≤ 30 * 30 := Int.mul_le_mul (by omega) (by omega) (by omega) (by omega)
 refine D ?_
 refine kR (s_spec_l3Offset n) ?_
 refine D ?_
 refine kR (s_spec_l3Skip n) ?_
 refine D ?_
 refine E ?_
 first
 | exact trivial
 | simp only [go_sem, placeI]
end Go.H
end
section
set_option maxRecDepth 100000
set_option maxHeartbeats 4000000
set_option cbv.maxSteps 4000000
set_option linter.unusedVariables false
set_option linter.unusedSimpArgs false
namespace Go.H
open Go Go.Proofs.Tryz
variable [Inv prog]
theorem s_spec_l4Free (t : List Int) (ht : t.length = 31) (n : Int) : SemX prog 259 [aT (.sl false 1 (t.map eI_i64)), aI n] [] [rI (freeR t n)] [] := by
 refine goF [(22, ⟨some 1, none, none, none⟩)] [] [] func259 ?_
 refine D ?_
 refine L (α := Nat) (fun k => [(5, .int .i64 k)]) (fun k => []) (fun k => 31 - k) (fun k => k ≤ 31 ∧ ∀ j : Nat, j < k → t.getD (placeI n j).toNat 0 ≠ 0) 0 [] (fun k hL => ?_) (hi := by exact ⟨by omega, fun j hj => by omega⟩)
 obtain ⟨hk, hno⟩ := hL
 have hb := placeI_bd n (k := (k : Int)) (by omega)
 refine D ?_
 refine cC (fun c0 => ?_) (fun c0 => ?_)
 · skip
   refine D ?_
   refine kR (s_spec_l3Place n k (by omega) (by omega)) ?_
   refine D ?_
   refine cC (fun c1 => ?_) (fun c1 => ?_)
   · skip
     refine D ?_
     refine E ?_
     rw [freeR_some (k := k) (by omega) (by simpa [zI_i64] using c1) hno]
   · skip
     refine D ?_
     refine N (k+1) [] (hi := ?_) (hm := ?_)
     · refine ⟨by omega, fun j hj => ?_⟩
       rcases Nat.lt_or_ge j k with h | h
       · exact hno j h
       · obtain rfl : j = k := by omega
         simpa [zI_i64] using c1
     · omega
 · skip
   obtain rfl : k = 31 := by omega
   refine D ?_
   refine E ?_
   rw [freeR_no hno]
end Go.H
end
section
set_option maxRecDepth 100000
set_option maxHeartbeats 4000000
set_option cbv.maxSteps 4000000
set_option linter.unusedVariables false
set_option linter.unusedSimpArgs false
namespace Go.H
open Go Go.Proofs.Tryz
variable [Inv prog]
theorem s_spec_l4Fill (l : List Share) (hl : l.length ≤ 2097152) (hk : okSh l) (hw : ∀ s ∈ l, 0 ≤ s.weight ∧ s.weight ≤ 9) : SemX prog 193 [aT (.sl false 2 (l.map eShare))] [] [.one (.sl true 1 ((fillT l).map eI_i64))] [] := by
 refine goF [(34, ⟨some 1, none, none, none⟩), (64, ⟨some 1, none, none, none⟩)] [] [] func193 ?_
 have hsp := sumW_pos hk
 refine D ?_
 refine kR (s_spec_l4Weights l hl hw) ?_
 refine D ?_
 refine cC (fun c0 => ?_) (fun c0 => ?_)
 · skip
   refine D ?_
   refine E ?_
   have he : fillT l = zeroT := if_pos (by omega)
   rw [he]
   rfl
 · skip
   refine D ?_
   refine L (α := Nat) (fun r => [(4, .int .i64 r)]) (fun r => [(36864, .arr ⟨1, (tabR l r 0 0).map eI_i64, 1 + cntR l r 0 0, none⟩)]) (fun r => 31 - r) (fun r => r ≤ 31) 0 [] (fun r hI => ?_) (by (simp only [go_sem, tabR_zero, cntR_zero] <;> and_intros <;> first | with_reducible exact rfl | exact rfl | omega))
   have hlen0 := tabR_len l r 0 0
   refine D ?_
   refine cC (fun c1 => ?_) (fun c1 => ?_)
   · skip
     refine D ?_
     refine L (α := Nat) (fun i => [(5, .int .i64 i)]) (fun i => [(36864, .arr ⟨1, (tabR l r i 0).map eI_i64, 1 + cntR l r i 0, none⟩)]) (fun i => l.length - i) (fun i => i ≤ l.length) 0 [] (fun i hI => ?_)
     refine D ?_
     refine cC (fun c2 => ?_) (fun c2 => ?_)
     · skip
       have hwi := hw _ (getD_mem zShare (show i < l.length by omega))
       refine D ?_
       refine L (α := Nat) (fun k => [(6, .int .i64 k)]) (fun k => [(36864, .arr ⟨1, (tabR l r i k).map eI_i64, 1 + cntR l r i k, none⟩)]) (fun k => (l.getD i zShare).weight.toNat - k) (fun k => k ≤ (l.getD i zShare).weight.toNat) 0 [] (fun k hI => ?_)
       have hlen := tabR_len l r i k
       refine D ?_
       refine cC (fun c3 => ?_) (fun c3 => ?_)
       · skip
         refine D ?_
         refine kR (s_spec_l4Free (tabR l r i k) (tabR_len l r i k) (l.getD i zShare).name) ?_
         refine D ?_
         refine cC (fun c4 => ?_) (fun c4 => ?_)
         · skip
           refine D ?_
           refine E ?_
           rw [tabR_stop (by omega) (by omega) (by omega) (by omega) (by omega)]
           simp [fillT_len, List.take_of_length_le]
           rfl
         · skip
           have hfr := (putT_at c4).2
           refine D ?_
           refine lp_next (k+1) [] ?_ ?_ ?_
           · simp only [go_sem] <;> and_intros <;> first | with_reducible exact rfl | (first | with_reducible exact rfl | omega | (refine arr_eq ?_ ?_ <;> first | (rw [← tabR_put (by omega)]; simp [eI_i64, List.map_set]; done) | (unfold cntR; omega)))
           · omega
           · omega
       · skip
         obtain rfl : k = (l.getD i zShare).weight.toNat := by omega
         refine D ?_
         refine lp_next (i+1) [] ?_ ?_ ?_
         · simp only [go_sem] <;> and_intros <;> first | with_reducible exact rfl | (first | with_reducible exact rfl | omega | (refine arr_eq ?_ ?_ <;> first | rw [tabR_i (by omega)] | rw [cntR_i (by omega)]))
         · omega
         · omega
     · skip
       obtain rfl : i = l.length := by omega
       refine D ?_
       refine lp_next (r+1) [] ?_ ?_ ?_
       · simp only [go_sem] <;> and_intros <;> first | with_reducible exact rfl | (first | with_reducible exact rfl | omega | (rw [tabR_r, cntR_r]; done) | (refine arr_eq ?_ ?_ <;> first | rw [tabR_r] | rw [cntR_r]))
       · omega
       · omega
   · skip
     have hr31 : r = 31 := by omega
     refine D ?_
     refine E ?_
     rw [hr31, tabR_end (by omega)]
     simp [fillT_len, List.take_of_length_le]
     rfl
end Go.H
end
section
set_option maxRecDepth 100000
set_option maxHeartbeats 4000000
set_option cbv.maxSteps 4000000
set_option linter.unusedVariables false
set_option linter.unusedSimpArgs false
namespace Go.H
open Go Go.Proofs.Tryz
variable [Inv prog]
theorem s_spec_l5Shares (c : Config) (hx : limG 2097152 c) (P : CfP c) (i : Nat) (hi : i < c.vips.length) : SemX prog 194 [aT (.ptr (eConfig false c)), aI i] [] [.one (.sl true 2 ((sharesOf c (c.vips.getD i zVip).names).map eShare))] [] := by
 refine goF [] [(5, 19, [], [32768]), (5, 20, [32768], [32768])] [] func194 ?_
 obtain ⟨hb, hv, hV⟩ := id hx
 have hnl : (c.vips.getD i zVip).names.length ≤ 2097152 := limV_getD hV i
 have hs0 : sharesOf c [] = [] := rfl
 have hA := hs0
 refine D ?_
 refine L (α := Nat) (fun x => [(5, .ref 36864 0 (sharesOf c ((c.vips.getD i zVip).names.take x)).length), (6, .int .i64 x)]) (fun x => [(36864, .arr ⟨2, (sharesOf c ((c.vips.getD i zVip).names.take x)).map eShare, 1, none⟩)]) (fun x => (c.vips.getD i zVip).names.length - x) (fun x => x ≤ (c.vips.getD i zVip).names.length) 0 [] (fun x hI => ?_)
 have hsl := sharesOf_len c ((c.vips.getD i zVip).names.take x)
 rw [List.length_take] at hsl
 refine D ?_
 refine cC (fun c0 => ?_) (fun c0 => ?_)
 · skip
   have hnx := getD_mem zI_i64 (show x < (c.vips.getD i zVip).names.length by omega)
   obtain ⟨m, hm1, hm2, hm3, hm4⟩ := sh_at P (getD_mem zVip hi) hnx
   have hA := And.intro hA (hm1)
   refine D ?_
   refine kD (s_spec_l5At c hx ((c.vips.getD i zVip).names.getD x zI_i64)) ?_
   refine D ?_
   refine cC (fun c1 => ?_) (fun c1 => ?_)
   · skip
     have hsf : shF c ((c.vips.getD i zVip).names.getD x zI_i64) = true := by unfold shF; rw [hm3]; simpa using c1
     have hst := sharesOf_take (c := c) (ns := (c.vips.getD i zVip).names) (i := x) (by omega)
     rw [if_pos hsf] at hst
     have hso : shO c ((c.vips.getD i zVip).names.getD x zI_i64) = ⟨(c.vips.getD i zVip).names.getD x zI_i64, (c.backends.getD m zBackend).weight⟩ := by unfold shO; rw [hm3]
     rw [hso] at hst
     refine D ?_
     refine lp_next (x+1) [(36864,229376)] ?_ ?_ ?_
     · simp only [go_sem, hA] <;> and_intros <;> first | with_reducible exact rfl | (first | with_reducible exact rfl | omega | (rw [hst]; simp [eShare, hm4, -List.getD_eq_getElem?_getD]; done) | (rw [hst]; done))
     · omega
     · omega
   · skip
     have hsf : ¬ shF c ((c.vips.getD i zVip).names.getD x zI_i64) = true := by unfold shF; rw [hm3]; simp at c1 ⊢; grind
     have hst := sharesOf_take (c := c) (ns := (c.vips.getD i zVip).names) (i := x) (by omega)
     rw [if_neg hsf, List.append_nil] at hst
     refine D ?_
     refine lp_next (x+1) [] ?_ ?_ ?_
     · simp only [go_sem, hA] <;> and_intros <;> first | with_reducible exact rfl | (first | with_reducible exact rfl | omega | (rw [hst]; simp [eShare, hm4, -List.getD_eq_getElem?_getD]; done) | (rw [hst]; done))
     · omega
     · omega
 · skip
   obtain rfl : x = (c.vips.getD i zVip).names.length := by omega
   refine D ?_
   exact E trivial
end Go.H
end
section
set_option maxRecDepth 100000
set_option maxHeartbeats 4000000
set_option cbv.maxSteps 4000000
set_option linter.unusedVariables false
set_option linter.unusedSimpArgs false
namespace Go.H
open Go Go.Proofs.Tryz
variable [Inv prog]
theorem s_spec_l14Tables (c : Config) (hx : limG 2097152 c) (P : CfP c) : SemX prog 117 [aT (.ptr (eConfig false c))] [] [.one (.sl true 1 ((tablesOf c).map (eLI_i64 true)))] [] := by
 refine goF [] [] [] func117 ?_
 obtain ⟨hb, hv, hV⟩ := id hx
 have ht0 : tablesOf c = c.vips.map fun v => fillT (sharesOf c v.names) := rfl
 refine D ?_
 refine L (α := Nat) (fun i => [(3, .ref 24576 0 i), (4, .int .i64 i)]) (fun i => [(24576, .arr ⟨1, (c.vips.take i).map (fun v => [T.sl true 1 ((fillT (sharesOf c v.names)).map eI_i64)]), 1, none⟩)]) (fun i => c.vips.length - i) (fun i => i ≤ c.vips.length) 0 [] (fun i hI => ?_)
 refine D ?_
 refine cC (fun c0 => ?_) (fun c0 => ?_)
 · skip
   obtain ⟨hok, hwt, hsn⟩ := shares_ok P (getD_mem zVip (show i < c.vips.length by omega))
   refine D ?_
   refine kR (s_spec_l5Shares c hx P i (by omega)) ?_
   refine D ?_
   refine kR (s_spec_l4Fill (sharesOf c (c.vips.getD i zVip).names) (by omega) hok hwt) ?_
   refine D ?_
   refine lp_next (i+1) [(24576,90112)] ?_ ?_ ?_
   · simp only [go_sem] <;> and_intros <;> first | with_reducible exact rfl | (first | with_reducible exact rfl | omega | (rw [take_succ_map _ zVip (by omega)]; done) | (simp [take_succ_map _ zVip, *]; done))
   · omega
   · omega
 · skip
   obtain rfl : i = c.vips.length := by omega
   refine D ?_
   refine E ?_
   first
   | exact trivial
   | simp [ht0, List.take_of_length_le, eLI_i64]
end Go.H
end
section
set_option maxRecDepth 100000
set_option maxHeartbeats 4000000
set_option cbv.maxSteps 4000000
set_option linter.unusedVariables false
set_option linter.unusedSimpArgs false
namespace Go.H
open Go Go.Proofs.Tryz
variable [Inv prog]
theorem s_spec_l5Nums (a b : List Int) (ha : a.length ≤ 2097152) (hb : b.length ≤ 2097152) : SemX prog 118 [aT (.sl false 1 (a.map eI_i64)), aT (.sl false 1 (b.map eI_i64))] [] [rB (decide (a = b))] [] := by
 refine goF [] [] [] func118 ?_
 refine D ?_
 refine cC (fun c0 => ?_) (fun c0 => ?_)
 · skip
   have he : ¬ a = b := fun e => by subst e; simp at c0
   refine D ?_
   refine E ?_
   simp [he]
 · skip
   have hle : a.length = b.length := by omega
   refine D ?_
   refine L (α := Nat) (fun x => [(5, .int .i64 x)]) (fun x => []) (fun x => a.length - x) (fun x => x ≤ a.length ∧ ∀ j, j < x → a.getD j zI_i64 = b.getD j zI_i64) 0 [] (fun x hL => ?_) (hi := by exact ⟨Nat.zero_le _, fun j hj => by omega⟩)
   obtain ⟨hx2, hno⟩ := hL
   refine D ?_
   refine cC (fun c1 => ?_) (fun c1 => ?_)
   · skip
     refine D ?_
     refine cC (fun c2 => ?_) (fun c2 => ?_)
     · skip
       have he : ¬ a = b := fun e => by subst e; simp at c2
       refine D ?_
       refine E ?_
       simp [he]
     · skip
       refine D ?_
       refine N (x+1) [] (hi := ?_) (hm := ?_)
       · refine ⟨by omega, fun j hj => ?_⟩
         rcases Nat.lt_or_ge j x with h | h
         · exact hno j h
         · obtain rfl : j = x := by omega
           first | exact c2 | (simpa using c2) | grind
       · omega
   · skip
     obtain rfl : x = a.length := by omega
     refine D ?_
     refine E ?_
     have he : a = b := eq_getD zI_i64 hle hno
     simp [he]
end Go.H
end
section
set_option maxRecDepth 100000
set_option maxHeartbeats 4000000
set_option cbv.maxSteps 4000000
set_option linter.unusedVariables false
set_option linter.unusedSimpArgs false
namespace Go.H
open Go Go.Proofs.Tryz
variable [Inv prog]
theorem s_spec_l5For (c : Config) (hx : limG 2097152 c) (f : Flow) : SemX prog 142 [aT (.ptr (eConfig false c)), aS (eFlow f)] [] [rI (findV c.vips f.to_ f.toP f.proto)] [] := by
 refine goF [] [] [] func142 ?_
 obtain ⟨hb, hv, hV⟩ := id hx
 refine D ?_
 refine L (α := Nat) (fun x => [(5, .int .i64 x)]) (fun x => []) (fun x => c.vips.length - x) (fun x => x ≤ c.vips.length ∧ ∀ j, j < x → isV f.to_ f.toP f.proto (c.vips.getD j zVip) = false) 0 [] (fun x hL => ?_) (hi := by exact ⟨Nat.zero_le _, fun j hj => by omega⟩)
 obtain ⟨hx2, hno⟩ := hL
 refine D ?_
 refine cC (fun c0 => ?_) (fun c0 => ?_)
 · skip
   refine D ?_
   refine cC (fun c1 => ?_) (fun c1 => ?_)
   · skip
     refine D ?_
     refine E ?_
     have he : findV c.vips f.to_ f.toP f.proto = x := idxG_some zVip (by omega) hno (by simp [isV]; grind)
     rw [he]
   · skip
     refine D ?_
     refine N (x+1) [] (hi := ?_) (hm := ?_)
     · refine ⟨by omega, fun j hj => ?_⟩
       rcases Nat.lt_or_ge j x with h | h
       · exact hno j h
       · obtain rfl : j = x := by omega
         first | exact c1 | (simpa [isB, isV, eqI] using c1) | (simp [isB, isV, eqI]; grind)
     · omega
 · skip
   obtain rfl : x = c.vips.length := by omega
   refine D ?_
   refine E ?_
   have he : findV c.vips f.to_ f.toP f.proto = -1 := idxG_none zVip hno
   rw [he]
end Go.H
end
section
set_option maxRecDepth 100000
set_option maxHeartbeats 4000000
set_option cbv.maxSteps 4000000
set_option linter.unusedVariables false
set_option linter.unusedSimpArgs false
namespace Go.H
open Go Go.Proofs.Tryz
variable [Inv prog]
theorem s_spec_l1Has (xs : List Int) (n : Int) (hl : xs.length ≤ 2097152) : SemX prog 236 [aT (.sl false 1 (xs.map eI_i64)), aI n] [] [rB (hasG (eqI n) xs)] [] := by
 refine goF [] [] [] func236 ?_
 refine D ?_
 refine L (α := Nat) (fun x => [(5, .int .i64 x)]) (fun x => []) (fun x => xs.length - x) (fun x => x ≤ xs.length ∧ ∀ j, j < x → eqI n (xs.getD j zI_i64) = false) 0 [] (fun x hL => ?_) (hi := by exact ⟨Nat.zero_le _, fun j hj => by omega⟩)
 obtain ⟨hx2, hno⟩ := hL
 refine D ?_
 refine cC (fun c0 => ?_) (fun c0 => ?_)
 · skip
   refine D ?_
   refine cC (fun c1 => ?_) (fun c1 => ?_)
   · skip
     refine D ?_
     refine E ?_
     rw [hasG_true zI_i64 (i := x) (by omega) (by simpa [eqI] using c1)]
   · skip
     refine D ?_
     refine N (x+1) [] (hi := ?_) (hm := ?_)
     · refine ⟨by omega, fun j hj => ?_⟩
       rcases Nat.lt_or_ge j x with h | h
       · exact hno j h
       · obtain rfl : j = x := by omega
         first | exact c1 | (simpa [isB, isV, eqI] using c1) | (simp [isB, isV, eqI]; grind)
     · omega
 · skip
   obtain rfl : x = xs.length := by omega
   refine D ?_
   refine E ?_
   rw [hasG_false zI_i64 hno]
end Go.H
end
section
set_option maxRecDepth 100000
set_option maxHeartbeats 4000000
set_option cbv.maxSteps 4000000
set_option linter.unusedVariables false
set_option linter.unusedSimpArgs false
namespace Go.H
open Go Go.Proofs.Tryz
variable [Inv prog]
theorem s_spec_l14Serves (c : Config) (hx : limG 2097152 c) (P : CfP c) (f : Flow) (n : Int) : SemX prog 169 [aT (.ptr (eConfig false c)), aS (eFlow f), aI n] [] [rB (servesF c f n)] [] := by
 refine goF [] [] [] func169 ?_
 obtain ⟨hb, hv, hV⟩ := id hx
 have hfl : findV c.vips f.to_ f.toP f.proto < c.vips.length := idxG_bd _ _
 have hvl := limV_getD hV (findV c.vips f.to_ f.toP f.proto).toNat
 refine D ?_
 refine kR (s_spec_l5For c hx f) ?_
 refine D ?_
 refine kRg (s_spec_l1Has (c.vips.getD (findV c.vips f.to_ f.toP f.proto).toNat zVip).names n hvl) ?_
 refine D ?_
 refine cC (fun c0 => ?_) (fun c0 => ?_)
 · skip
   refine D ?_
   refine E ?_
   first
   | exact trivial
   | unfold servesF
     first | grind | (simp [*]; done)
 · skip
   have hsv := serves_in P (f := f) (n := n) (by grind) (by grind)
   obtain ⟨m, hm1, hm2, hm3⟩ := hsv
   have hA := hm1
   refine D ?_
   refine kD (s_spec_l5At c hx n) ?_
   refine D ?_
   refine E ?_
   first
   | exact trivial
   | unfold servesF
     first | grind | (simp [*]; done)
end Go.H
end
section
set_option maxRecDepth 100000
set_option maxHeartbeats 4000000
set_option cbv.maxSteps 4000000
set_option linter.unusedVariables false
set_option linter.unusedSimpArgs false
namespace Go.H
open Go Go.Proofs.Tryz
variable [Inv prog]
theorem s_spec_l3Flow (f : Flow) : SemX prog 195 [aS (eFlow f)] [] [rB (isFl f)] [] := by
 refine goF [] [] [] func195 ?_
 refine D ?_
 refine kR (s_spec_l2Address _) ?_
 refine D ?_
 refine kRg (s_spec_l2Address _) ?_
 refine D ?_
 refine kRg (s_spec_l2Port _) ?_
 refine D ?_
 refine kRg (s_spec_l2Port _) ?_
 refine D ?_
 refine E ?_
 first
 | exact trivial
 | simp [isFl, isPro, Bool.and_assoc]
end Go.H
end
section
set_option maxRecDepth 100000
set_option maxHeartbeats 4000000
set_option cbv.maxSteps 4000000
set_option linter.unusedVariables false
set_option linter.unusedSimpArgs false
namespace Go.H
open Go Go.Proofs.Tryz
variable [Inv prog]
theorem s_spec_l14Find (xs : List Held) (hl : xs.length ≤ 2097152) (f : Flow) : SemX prog 196 [aT (.sl false 7 (xs.map eHeld)), aS (eFlow f)] [] [rI (idxG (eqF f) xs)] [] := by
 refine goF [] [(4, 5, [16384], [])] [] func196 ?_
 refine D ?_
 refine L (α := Nat) (fun x => [(5, .int .i64 x)]) (fun x => []) (fun x => xs.length - x) (fun x => x ≤ xs.length ∧ ∀ j, j < x → eqF f (xs.getD j zHeld) = false) 0 [] (fun x hL => ?_) (hi := by exact ⟨Nat.zero_le _, fun j hj => by omega⟩)
 obtain ⟨hx2, hno⟩ := hL
 refine D ?_
 refine cC (fun c0 => ?_) (fun c0 => ?_)
 · skip
   refine D ?_
   refine cC (fun c1 => ?_) (fun c1 => ?_)
   · skip
     refine D ?_
     refine E ?_
     rw [idxG_some zHeld (i := x) (by omega) hno (by simpa [eqF] using c1)]
   · skip
     refine D ?_
     refine N (x+1) [] (hi := ?_) (hm := ?_)
     · refine ⟨by omega, fun j hj => ?_⟩
       rcases Nat.lt_or_ge j x with h | h
       · exact hno j h
       · obtain rfl : j = x := by omega
         first | (rw [← Bool.not_eq_true]; intro e; apply c1; simpa [eqF] using e) | exact c1 | (simpa [isB, isV, eqI] using c1) | (simp [isB, isV, eqI]; grind)
     · omega
 · skip
   obtain rfl : x = xs.length := by omega
   refine D ?_
   refine E ?_
   rw [idxG_none zHeld hno]
end Go.H
end
section
set_option maxRecDepth 100000
set_option maxHeartbeats 4000000
set_option cbv.maxSteps 4000000
set_option linter.unusedVariables false
set_option linter.unusedSimpArgs false
namespace Go.H
open Go Go.Proofs.Tryz
variable [Inv prog]
theorem s_spec_l14Held (m : Mux) (hm : limX 2097152 m) (P : CfP m.watch.config) (hnw : 0 ≤ m.now ∧ m.now ≤ 1000000000) : SemX prog 119 [aT (.ptr (eMux false m))] [] [rI (if 8 < m.cache.length then 2 else scan (heldBad m) m.cache.length 0)] [] := by
 refine goF [(116, ⟨some 1, none, none, none⟩)] [(7, 1, [20480], []), (7, 6, [20480], []), (9, 5, [20480], []), (9, 7, [20480], []), (11, 5, [20480], []), (13, 7, [20480], [])] [] func119 ?_
 obtain ⟨hg, ht, htr, hc⟩ := id hm
 refine D ?_
 refine cC (fun c0 => ?_) (fun c0 => ?_)
 · skip
   refine D ?_
   refine E ?_
   first
   | exact trivial
   | grind
 · skip
   refine D ?_
   refine L (α := Nat) (fun i => [(3, .int .i64 i)]) (fun i => []) (fun i => m.cache.length - i) (fun i => i ≤ m.cache.length ∧ scan (heldBad m) m.cache.length 0 = scan (heldBad m) m.cache.length i) 0 [] (fun i hL => ?_) (hi := by exact ⟨Nat.zero_le _, rfl⟩)
   obtain ⟨hi2, hie⟩ := hL
   refine D ?_
   refine cC (fun c1 => ?_) (fun c1 => ?_)
   · skip
     have hst := scan_lt (f := heldBad m) (show i < m.cache.length by omega)
     have hd : heldBad m i = if !isFl (m.cache.getD i zHeld).flow || !inR (m.cache.getD i zHeld).seen 0 m.now then 3 else if servesF m.watch.config (m.cache.getD i zHeld).flow (m.cache.getD i zHeld).name = false then 4 else if 20 < m.now - (m.cache.getD i zHeld).seen then 9 else if hasG (eqF (m.cache.getD i zHeld).flow) (m.cache.take i) = true then 7 else 0 := rfl
     refine D ?_
     refine kD (s_spec_l3Flow (m.cache.getD i zHeld).flow) ?_
     refine D ?_
     refine kDg (s_spec_l1In _ _ _) ?_
     refine D ?_
     refine cC (fun c2 => ?_) (fun c2 => ?_)
     · skip
       have hbz : heldBad m i = 3 := by rw [hd]; grind
       refine D ?_
       refine E ?_
       first
       | exact trivial
       | grind
     · skip
       have hfs : isFl (m.cache.getD i zHeld).flow = true ∧ inR (m.cache.getD i zHeld).seen 0 m.now = true := by grind
       have hsn : 0 ≤ (m.cache.getD i zHeld).seen ∧ (m.cache.getD i zHeld).seen ≤ m.now := by have := hfs.2; simpa [inR] using this
       refine D ?_
       refine kD (s_spec_l14Serves m.watch.config hg P (m.cache.getD i zHeld).flow (m.cache.getD i zHeld).name) ?_
       refine D ?_
       refine cC (fun c3 => ?_) (fun c3 => ?_)
       · skip
         have hbz : heldBad m i = 4 := by rw [hd]; grind
         refine D ?_
         refine E ?_
         first
         | exact trivial
         | grind
       · skip
         have hsv : servesF m.watch.config (m.cache.getD i zHeld).flow (m.cache.getD i zHeld).name = true := by grind
         refine D ?_
         refine cC (fun c4 => ?_) (fun c4 => ?_)
         · skip
           have hbz : heldBad m i = 9 := by rw [hd]; grind
           refine D ?_
           refine E ?_
           first
           | exact trivial
           | grind
         · skip
           refine D ?_
           refine kD (s_spec_l14Find (m.cache.take i) (by rw [List.length_take]; omega) (m.cache.getD i zHeld).flow) ?_
           refine D ?_
           refine cC (fun c5 => ?_) (fun c5 => ?_)
           · skip
             have hbz : heldBad m i = 7 := by rw [hd]; unfold hasG; grind
             refine D ?_
             refine E ?_
             first
             | exact trivial
             | grind
           · skip
             have hbz : heldBad m i = 0 := by rw [hd]; unfold hasG; grind
             refine D ?_
             refine N (i+1) [] (hi := ?_) (hm := ?_)
             · refine ⟨by omega, ?_⟩
               rw [hie, hst, if_pos hbz]
             · omega
   · skip
     have hs0 : scan (heldBad m) m.cache.length 0 = 0 := by rw [hie, scan_ge (by omega)]
     refine D ?_
     refine E ?_
     first
     | exact trivial
     | grind
end Go.H
end
section
set_option maxRecDepth 100000
set_option maxHeartbeats 4000000
set_option cbv.maxSteps 4000000
set_option linter.unusedVariables false
set_option linter.unusedSimpArgs false
namespace Go.H
open Go Go.Proofs.Tryz
variable [Inv prog]
theorem s_spec_l14Fault (m : Mux) (hm : limX 2097152 m) : SemX prog 55 [aT (.ptr (eMux false m))] [] [rI (muxFault m)] [] := by
 refine goF [] [(12, 2, [135168], []), (12, 3, [135168], []), (12, 11, [135168], [])] [] func55 ?_
 obtain ⟨hg, ht, htr, hc⟩ := id hm
 refine D ?_
 refine kR (s_spec_l2Address _) ?_
 refine D ?_
 refine kRg (s_spec_l14Now _) ?_
 refine D ?_
 refine cC (fun c0 => ?_) (fun c0 => ?_)
 · skip
   refine D ?_
   refine E ?_
   first
   | exact trivial
   | unfold muxFault
     grind
 · skip
   have hnw : 0 ≤ m.now ∧ m.now ≤ 1000000000 := by
     have h_ := c0
     simp [inR] at h_
     omega
   refine D ?_
   refine kR (s_spec_WatchFault m.watch hg) ?_
   refine D ?_
   refine cC (fun c1 => ?_) (fun c1 => ?_)
   · skip
     refine D ?_
     refine E ?_
     first
     | exact trivial
     | unfold muxFault
       grind
   · skip
     have hw0 : watchFault m.watch = 0 := by omega
     have P := watch_p hw0
     obtain ⟨tl1, tl2⟩ := tab_lim P
     refine D ?_
     refine kR (s_spec_l14Tables m.watch.config hg P) ?_
     refine D ?_
     refine cC (fun c2 => ?_) (fun c2 => ?_)
     · skip
       have hne : m.tables ≠ (tablesOf m.watch.config) := fun e => by rw [e] at c2; omega
       refine D ?_
       refine E ?_
       first
       | exact trivial
       | unfold muxFault
         grind
     · skip
       have hle : (tablesOf m.watch.config).length = m.tables.length := by omega
       refine D ?_
       refine L (α := Nat) (fun x => [(5, .int .i64 x)]) (fun x => []) (fun x => (tablesOf m.watch.config).length - x) (fun x => x ≤ (tablesOf m.watch.config).length ∧ ∀ j, j < x → (tablesOf m.watch.config).getD j zLI_i64 = m.tables.getD j zLI_i64) 0 [] (fun x hL => ?_) (hi := by exact ⟨Nat.zero_le _, fun j hj => by omega⟩)
       obtain ⟨hx2, hno⟩ := hL
       refine D ?_
       refine cC (fun c3 => ?_) (fun c3 => ?_)
       · skip
         refine D ?_
         refine kD (s_spec_l5Nums ((tablesOf m.watch.config).getD x zLI_i64) (m.tables.getD x zLI_i64) (tl2 _ (getD_mem zLI_i64 (by omega))) (htr _ (getD_mem zLI_i64 (by omega)))) ?_
         refine D ?_
         refine cC (fun c4 => ?_) (fun c4 => ?_)
         · skip
           have hne : m.tables ≠ (tablesOf m.watch.config) := fun e => by rw [e] at c4; simp at c4
           refine D ?_
           refine E ?_
           first
           | exact trivial
           | unfold muxFault
             grind
         · skip
           refine D ?_
           refine N (x+1) [] (hi := ?_) (hm := ?_)
           · refine ⟨by omega, fun j hj => ?_⟩
             rcases Nat.lt_or_ge j x with h | h
             · exact hno j h
             · obtain rfl : j = x := by omega
               first | exact c4 | (simpa using c4) | grind
           · omega
       · skip
         obtain hxe : x = (tablesOf m.watch.config).length := by omega
         have heq : m.tables = (tablesOf m.watch.config) := (eq_getD zLI_i64 hle (fun j hj => hno j (by omega))).symm
         refine D ?_
         refine kR (s_spec_l14Held m hm P hnw) ?_
         refine D ?_
         refine E ?_
         first
         | exact trivial
         | unfold muxFault
           grind
end Go.H
end
section
set_option maxRecDepth 100000
set_option maxHeartbeats 4000000
set_option cbv.maxSteps 4000000
set_option linter.unusedVariables false
set_option linter.unusedSimpArgs false
namespace Go.H
open Go Go.Proofs.Tryz
variable [Inv prog]
theorem s_impl_in (a b c : Int) : SemX prog 110 [.one (.t (.int .i64 a)), .one (.t (.int .i64 b)), .one (.t (.int .i64 c))] [] [.one (.bool (inR a b c))] [] := by
 refine goF [] [] [] func110 ?_
 refine D ?_
 refine E ?_
 first
 | exact trivial
 | simp only [go_sem, inR]; done
 | try simp only [go_sem, inR]
   exact rfl
end Go.H
end
section
set_option maxRecDepth 100000
set_option maxHeartbeats 4000000
set_option cbv.maxSteps 4000000
set_option linter.unusedVariables false
set_option linter.unusedSimpArgs false
namespace Go.H
open Go Go.Proofs.Tryz
variable [Inv prog]
theorem s_impl_isAddress (n : Int) : SemX prog 123 [aI n] [] [rB (inR n 0 4294967295)] [] := by
 refine goF [] [] [] func123 ?_
 refine D ?_
 refine kR (s_impl_in n 0 4294967295) ?_
 refine D ?_
 exact E trivial
end Go.H
end
section
set_option maxRecDepth 100000
set_option maxHeartbeats 4000000
set_option cbv.maxSteps 4000000
set_option linter.unusedVariables false
set_option linter.unusedSimpArgs false
namespace Go.H
open Go Go.Proofs.Tryz
variable [Inv prog]
theorem s_impl_isProto (n : Int) : SemX prog 217 [aI n] [] [rB (isPro n)] [] := by
 refine goF [] [] [] func217 ?_
 refine D ?_
 refine E ?_
 first
 | exact trivial
 | simp only [go_sem, isPro]; done
 | try simp only [go_sem, isPro]
   cases decide (n = 6) <;> rfl
end Go.H
end
section
set_option maxRecDepth 100000
set_option maxHeartbeats 4000000
set_option cbv.maxSteps 4000000
set_option linter.unusedVariables false
set_option linter.unusedSimpArgs false
namespace Go.H
open Go Go.Proofs.Tryz
variable [Inv prog]
theorem s_impl_isName (n : Int) : SemX prog 248 [aI n] [] [rB (inR n 1 999)] [] := by
 refine goF [] [] [] func248 ?_
 refine D ?_
 refine kR (s_impl_in n 1 999) ?_
 refine D ?_
 exact E trivial
end Go.H
end
section
set_option maxRecDepth 100000
set_option maxHeartbeats 4000000
set_option cbv.maxSteps 4000000
set_option linter.unusedVariables false
set_option linter.unusedSimpArgs false
namespace Go.H
open Go Go.Proofs.Tryz
variable [Inv prog]
theorem s_impl_isBackend (b : Backend) : SemX prog 253 [aS (eBackend b)] [] [rB (isBk b)] [] := by
 refine goF [] [] [] func253 ?_
 refine D ?_
 refine kR (s_impl_isName _) ?_
 refine D ?_
 refine kRg (s_impl_isAddress _) ?_
 refine D ?_
 refine kRg (s_impl_in _ _ _) ?_
 refine D ?_
 refine kRg (s_impl_in _ _ _) ?_
 refine D ?_
 refine E ?_
 first
 | exact trivial
 | simp only [go_sem, isBk]
end Go.H
end
section
set_option maxRecDepth 100000
set_option maxHeartbeats 4000000
set_option cbv.maxSteps 4000000
set_option linter.unusedVariables false
set_option linter.unusedSimpArgs false
namespace Go.H
open Go Go.Proofs.Tryz
variable [Inv prog]
theorem s_impl_isPort (n : Int) : SemX prog 254 [aI n] [] [rB (inR n 0 65535)] [] := by
 refine goF [] [] [] func254 ?_
 refine D ?_
 refine kR (s_impl_in n 0 65535) ?_
 refine D ?_
 exact E trivial
end Go.H
end
section
set_option maxRecDepth 100000
set_option maxHeartbeats 4000000
set_option cbv.maxSteps 4000000
set_option linter.unusedVariables false
set_option linter.unusedSimpArgs false
namespace Go.H
open Go Go.Proofs.Tryz
variable [Inv prog]
theorem s_cmp_Or_int (xs : List Int) (hl : xs.length ≤ 2097152) : SemX prog 280 [aT (.sl false 1 (xs.map eI_i64))] [] [rI (orL xs)] [] := by
 refine goF [] [] [] func280 ?_
 refine D ?_
 refine L (α := Nat) (fun x => [(8, .int .i64 x)]) (fun x => []) (fun x => xs.length - x) (fun x => x ≤ xs.length ∧ ∀ j, j < x → xs.getD j zI_i64 = 0) 0 [] (fun x hL => ?_) (hi := by exact ⟨Nat.zero_le _, fun j hj => by omega⟩)
 obtain ⟨hx, hno⟩ := hL
 refine D ?_
 refine cC (fun c0 => ?_) (fun c0 => ?_)
 · skip
   refine D ?_
   refine cC (fun c1 => ?_) (fun c1 => ?_)
   · skip
     refine D ?_
     refine E ?_
     rw [orL_some (by omega) hno (by simpa using c1)]
   · skip
     refine D ?_
     refine N (x+1) [] (hi := ?_) (hm := ?_)
     · refine ⟨by omega, fun j hj => ?_⟩
       rcases Nat.lt_or_ge j x with h | h
       · exact hno j h
       · obtain rfl : j = x := by omega
         simpa using c1
     · omega
 · skip
   obtain rfl : x = xs.length := by omega
   refine D ?_
   refine E ?_
   rw [orL_zero hno]
end Go.H
end
section
set_option maxRecDepth 100000
set_option maxHeartbeats 4000000
set_option cbv.maxSteps 4000000
set_option linter.unusedVariables false
set_option linter.unusedSimpArgs false
namespace Go.H
open Go Go.Proofs.Tryz
variable [Inv prog]
theorem s_cmp_isNaN_int64 (a : Int) : SemX prog 296 [aI a] [] [rB false] [] := by
 refine goF [] [] [] func296 ?_
 refine D ?_
 exact E trivial
end Go.H
end
section
set_option maxRecDepth 100000
set_option maxHeartbeats 4000000
set_option cbv.maxSteps 4000000
set_option linter.unusedVariables false
set_option linter.unusedSimpArgs false
namespace Go.H
open Go Go.Proofs.Tryz
variable [Inv prog]
theorem s_cmp_Compare_int64 (a b : Int) : SemX prog 281 [aI a, aI b] [] [rI (cmpI a b)] [] := by
 refine goF [] [] [] func281 ?_
 refine D ?_
 refine kR (s_cmp_isNaN_int64 _) ?_
 refine D ?_
 refine kR (s_cmp_isNaN_int64 _) ?_
 refine D ?_
 refine cC (fun c0 => ?_) (fun c0 => ?_)
 · skip
   refine D ?_
   refine cC (fun c1 => ?_) (fun c1 => ?_)
   · skip
     refine D ?_
     refine E ?_
     first
     | exact trivial
     | first | (exfalso; simp_all; done) | (simp [cmpI, *]; done) | (simp [cmpI]; omega) | (unfold cmpI; grind)
   · skip
     refine D ?_
     refine E ?_
     first
     | exact trivial
     | first | (exfalso; simp_all; done) | (simp [cmpI, *]; done) | (simp [cmpI]; omega) | (unfold cmpI; grind)
 · skip
   refine D ?_
   refine cC (fun c2 => ?_) (fun c2 => ?_)
   · skip
     refine D ?_
     refine E ?_
     first
     | exact trivial
     | first | (exfalso; simp_all; done) | (simp [cmpI, *]; done) | (simp [cmpI]; omega) | (unfold cmpI; grind)
   · skip
     refine D ?_
     refine cC (fun c3 => ?_) (fun c3 => ?_)
     · skip
       refine D ?_
       refine E ?_
       first
       | exact trivial
       | first | (exfalso; simp_all; done) | (simp [cmpI, *]; done) | (simp [cmpI]; omega) | (unfold cmpI; grind)
     · skip
       refine D ?_
       refine cC (fun c4 => ?_) (fun c4 => ?_)
       · skip
         refine D ?_
         refine E ?_
         first
         | exact trivial
         | first | (exfalso; simp_all; done) | (simp [cmpI, *]; done) | (simp [cmpI]; omega) | (unfold cmpI; grind)
       · skip
         refine D ?_
         refine E ?_
         first
         | exact trivial
         | first | (exfalso; simp_all; done) | (simp [cmpI, *]; done) | (simp [cmpI]; omega) | (unfold cmpI; grind)
end Go.H
end
section
set_option maxRecDepth 100000
set_option maxHeartbeats 4000000
set_option cbv.maxSteps 4000000
set_option linter.unusedVariables false
set_option linter.unusedSimpArgs false
namespace Go.H
open Go Go.Proofs.Tryz
variable [Inv prog]
theorem s_impl_compareVip (a b : Vip) : SemX prog 255 [aS (eVip false a), aS (eVip false b)] [] [rI (cmpV a b)] [] := by
 refine goF [] [(1, 1, [12288], []), (1, 3, [16384], []), (1, 6, [12288], []), (1, 8, [16384], []), (1, 11, [12288], []), (1, 13, [16384], []), (1, 15, [], [86016]), (1, 16, [86016], [])] [] func255 ?_
 refine D ?_
 refine kD (s_cmp_Compare_int64 a.address b.address) ?_
 refine D ?_
 refine kD (s_cmp_Compare_int64 a.port b.port) ?_
 refine D ?_
 refine kD (s_cmp_Compare_int64 a.proto b.proto) ?_
 refine D ?_
 refine kD (s_cmp_Or_int [cmpI a.address b.address, cmpI a.port b.port, cmpI a.proto b.proto] (by simp)) ?_
 refine D ?_
 refine E ?_
 first
 | exact trivial
 | rw [cmpV_or]
theorem s_impl_compareVip_raw (a b : RVp) : SemX prog 255 [aS (eRV a), aS (eRV b)] [] [rI (cmpV a.1 b.1)] [] := by
 refine goF [] [(1, 1, [12288], []), (1, 3, [16384], []), (1, 6, [12288], []), (1, 8, [16384], []), (1, 11, [12288], []), (1, 13, [16384], []), (1, 15, [], [86016]), (1, 16, [86016], [])] [] func255 ?_
 refine D ?_
 refine kD (s_cmp_Compare_int64 a.1.address b.1.address) ?_
 refine D ?_
 refine kD (s_cmp_Compare_int64 a.1.port b.1.port) ?_
 refine D ?_
 refine kD (s_cmp_Compare_int64 a.1.proto b.1.proto) ?_
 refine D ?_
 refine kD (s_cmp_Or_int [cmpI a.1.address b.1.address, cmpI a.1.port b.1.port, cmpI a.1.proto b.1.proto] (by simp)) ?_
 refine D ?_
 refine E ?_
 first
 | exact trivial
 | rw [cmpV_or]
end Go.H
end
section
set_option maxRecDepth 100000
set_option maxHeartbeats 4000000
set_option cbv.maxSteps 4000000
set_option linter.unusedVariables false
set_option linter.unusedSimpArgs false
namespace Go.H
open Go Go.Proofs.Tryz
variable [Inv prog]
theorem s_slices_IndexFunc_int64 (R : List Int) (hl : R.length ≤ 2097152) (fn : Nat) (c : Config) (hcl : limG 2097152 c) (q : Int → Bool) (hq : callB prog fn = true) (hf : ∀ b : Int, b ∈ R → SemX prog fn [aI b, aT (.ptr (eConfig false c))] [] [rB (q b)] []) : SemX prog 282 [aT (.sl false 1 (R.map eI_i64)), .one (.fn fn [.t (.ptr (eConfig false c))])] [] [rI (idxG q R)] [] := by
 refine goF [] [] [] func282 ?_
 refine D ?_
 refine L (α := Nat) (fun x => [(8, .int .i64 x)]) (fun x => []) (fun x => R.length - x) (fun x => x ≤ R.length ∧ ∀ j, j < x → q (R.getD j zI_i64) = false) 0 [] (fun x hL => ?_) (hi := by exact ⟨Nat.zero_le _, fun j hj => by omega⟩)
 obtain ⟨hx2, hno⟩ := hL
 refine D ?_
 refine cC (fun c0 => ?_) (fun c0 => ?_)
 · skip
   refine D ?_
   refine kR (hf (R.getD x zI_i64) (getD_mem zI_i64 (by omega))) ?_ hq
   refine D ?_
   refine cC (fun c1 => ?_) (fun c1 => ?_)
   · skip
     refine D ?_
     refine E ?_
     rw [idxG_some zI_i64 (by omega) hno c1]
   · skip
     refine D ?_
     refine N (x+1) [] (hi := ?_) (hm := ?_)
     · refine ⟨by omega, fun j hj => ?_⟩
       rcases Nat.lt_or_ge j x with h | h
       · exact hno j h
       · obtain rfl : j = x := by omega
         first | exact c1 | (simpa [isB, isV, eqI] using c1) | (simp [isB, isV, eqI]; grind)
     · omega
 · skip
   obtain rfl : x = R.length := by omega
   refine D ?_
   refine E ?_
   rw [idxG_none zI_i64 hno]
end Go.H
end
section
set_option maxRecDepth 100000
set_option maxHeartbeats 4000000
set_option cbv.maxSteps 4000000
set_option linter.unusedVariables false
set_option linter.unusedSimpArgs false
namespace Go.H
open Go Go.Proofs.Tryz
variable [Inv prog]
theorem s_slices_ContainsFunc_int64 (R : List Int) (hl : R.length ≤ 2097152) (fn : Nat) (c : Config) (hcl : limG 2097152 c) (q : Int → Bool) (hq : callB prog fn = true) (hf : ∀ b : Int, b ∈ R → SemX prog fn [aI b, aT (.ptr (eConfig false c))] [] [rB (q b)] []) : SemX prog 256 [aT (.sl false 1 (R.map eI_i64)), .one (.fn fn [.t (.ptr (eConfig false c))])] [] [rB (hasG q R)] [] := by
 refine goF [] [] [] func256 ?_
 refine D ?_
 refine kR (s_slices_IndexFunc_int64 R hl fn c hcl q hq hf) ?_
 refine D ?_
 refine E ?_
 first
 | exact trivial
 | simp only [go_sem, hasG]
end Go.H
end
section
set_option maxRecDepth 100000
set_option maxHeartbeats 4000000
set_option cbv.maxSteps 4000000
set_option linter.unusedVariables false
set_option linter.unusedSimpArgs false
namespace Go.H
open Go Go.Proofs.Tryz
variable [Inv prog]
theorem s_slices_IndexFunc_Backend (R : List Backend) (hl : R.length ≤ 2097152) (fn : Nat) (n : Int) (q : Backend → Bool) (hq : callB prog fn = true) (hf : ∀ b : Backend, b ∈ R → SemX prog fn [aS (eBackend b), aT (.ptr [.int .i64 n])] [] [rB (q b)] []) : SemX prog 223 [aT (.sl false 5 (R.map eBackend)), .one (.fn fn [.t (.ptr [.int .i64 n])])] [] [rI (idxG q R)] [] := by
 refine goF [] [] [] func223 ?_
 refine D ?_
 refine L (α := Nat) (fun x => [(8, .int .i64 x)]) (fun x => []) (fun x => R.length - x) (fun x => x ≤ R.length ∧ ∀ j, j < x → q (R.getD j zBackend) = false) 0 [] (fun x hL => ?_) (hi := by exact ⟨Nat.zero_le _, fun j hj => by omega⟩)
 obtain ⟨hx2, hno⟩ := hL
 refine D ?_
 refine cC (fun c0 => ?_) (fun c0 => ?_)
 · skip
   refine D ?_
   refine kR (hf (R.getD x zBackend) (getD_mem zBackend (by omega))) ?_ hq
   refine D ?_
   refine cC (fun c1 => ?_) (fun c1 => ?_)
   · skip
     refine D ?_
     refine E ?_
     rw [idxG_some zBackend (by omega) hno c1]
   · skip
     refine D ?_
     refine N (x+1) [] (hi := ?_) (hm := ?_)
     · refine ⟨by omega, fun j hj => ?_⟩
       rcases Nat.lt_or_ge j x with h | h
       · exact hno j h
       · obtain rfl : j = x := by omega
         first | exact c1 | (simpa [isB, isV, eqI] using c1) | (simp [isB, isV, eqI]; grind)
     · omega
 · skip
   obtain rfl : x = R.length := by omega
   refine D ?_
   refine E ?_
   rw [idxG_none zBackend hno]
end Go.H
end
section
set_option maxRecDepth 100000
set_option maxHeartbeats 4000000
set_option cbv.maxSteps 4000000
set_option linter.unusedVariables false
set_option linter.unusedSimpArgs false
namespace Go.H
open Go Go.Proofs.Tryz
variable [Inv prog]
theorem s_impl_Config_backend_1 (b : Backend) (n : Int) : SemX prog 224 [aS (eBackend b), aT (.ptr [.int .i64 n])] [] [rB (isB n b)] [] := by
 refine goF [] [] [] func224 ?_
 refine D ?_
 refine E ?_
 first
 | exact trivial
 | simp only [go_sem, isB]
end Go.H
end
section
set_option maxRecDepth 100000
set_option maxHeartbeats 4000000
set_option cbv.maxSteps 4000000
set_option linter.unusedVariables false
set_option linter.unusedSimpArgs false
namespace Go.H
open Go Go.Proofs.Tryz
variable [Inv prog]
theorem s_impl_Config_backend (c : Config) (hx : limG 2097152 c) (n : Int) : SemX prog 157 [aT (.ptr (eConfig false c)), aI n] [] [rI (findB c.backends n)] [] := by
 refine goF [] [] [] func157 ?_
 obtain ⟨hb, hv, hV⟩ := id hx
 refine D ?_
 refine kR (s_slices_IndexFunc_Backend c.backends hb 224 n (isB n) (by kernel_rfl) (fun b _ => s_impl_Config_backend_1 b n)) ?_
 refine D ?_
 refine E ?_
 first
 | exact trivial
 | simp only [go_sem, findB]
end Go.H
end
section
set_option maxRecDepth 100000
set_option maxHeartbeats 4000000
set_option cbv.maxSteps 4000000
set_option linter.unusedVariables false
set_option linter.unusedSimpArgs false
namespace Go.H
open Go Go.Proofs.Tryz
variable [Inv prog]
theorem s_impl_ConfigFault_1 (n : Int) (c : Config) (hx : limG 2097152 c) : SemX prog 257 [aI n, aT (.ptr (eConfig false c))] [] [rB (noB c.backends n)] [] := by
 refine goF [] [] [] func257 ?_
 refine D ?_
 refine kR (s_impl_Config_backend c hx n) ?_
 refine D ?_
 refine E ?_
 first
 | exact trivial
 | simp only [go_sem, noB]
end Go.H
end
section
set_option maxRecDepth 100000
set_option maxHeartbeats 4000000
set_option cbv.maxSteps 4000000
set_option linter.unusedVariables false
set_option linter.unusedSimpArgs false
namespace Go.H
open Go Go.Proofs.Tryz
variable [Inv prog]
theorem s_impl_ConfigFault (c : Config) (hx : limG 2097152 c) : SemX prog 189 [aS (eConfig false c)] [] [rI (configFault c)] [] := by
 refine goF [(88, ⟨some 1, none, none, none⟩), (162, ⟨some 1, none, none, none⟩)] [(10, 4, [20480], []), (10, 6, [8192], []), (18, 4, [8192], []), (18, 9, [28672], []), (25, 1, [28672], []), (25, 6, [28672], [])] [] func189 ?_
 obtain ⟨hb, hv, hV⟩ := id hx
 refine D ?_
 refine kR (s_impl_in _ _ _) ?_
 refine D ?_
 refine cC (fun c0 => ?_) (fun c0 => ?_)
 · skip
   refine D ?_
   refine E ?_
   first
   | exact trivial
   | unfold configFault
     grind
 · skip
   refine D ?_
   refine cC (fun c1 => ?_) (fun c1 => ?_)
   · skip
     refine D ?_
     refine E ?_
     first
     | exact trivial
     | unfold configFault
       grind
   · skip
     refine D ?_
     refine L (α := Nat) (fun x => [(27, .int .i64 x)]) (fun x => []) (fun x => c.backends.length - x) (fun x => x ≤ c.backends.length ∧ scan (bkBad c.backends) c.backends.length 0 = scan (bkBad c.backends) c.backends.length x) 0 [] (fun x hL => ?_) (hi := by exact ⟨Nat.zero_le _, rfl⟩)
     obtain ⟨hx2, he⟩ := hL
     refine D ?_
     refine cC (fun c2 => ?_) (fun c2 => ?_)
     · skip
       have hst := scan_lt (f := bkBad c.backends) (show x < c.backends.length by omega)
       have hd : bkBad c.backends x = if isBk (c.backends.getD x zBackend) = false then 3 else if 0 < x ∧ (c.backends.getD x zBackend).name ≤ (c.backends.getD (x - 1) zBackend).name then 1 else 0 := rfl
       refine D ?_
       refine kR (s_impl_isBackend _) ?_
       refine D ?_
       refine cC (fun c3 => ?_) (fun c3 => ?_)
       · skip
         refine D ?_
         refine E ?_
         first
         | exact trivial
         | unfold configFault
           grind
       · skip
         refine D ?_
         refine cC (fun c4 => ?_) (fun c4 => ?_)
         · skip
           refine D ?_
           refine E ?_
           first
           | exact trivial
           | unfold configFault
             grind
         · skip
           refine D ?_
           refine N (x+1) [] (hi := ?_) (hm := ?_)
           · refine ⟨by omega, ?_⟩
             rw [he, scan_lt (by omega), if_pos]
             unfold bkBad
             grind
           · omega
     · skip
       have hs0 : scan (bkBad c.backends) c.backends.length 0 = 0 := by rw [he, scan_ge (by omega)]
       refine D ?_
       refine L (α := Nat) (fun i => [(53, .int .i64 i)]) (fun i => []) (fun i => c.vips.length - i) (fun i => i ≤ c.vips.length ∧ scan (vipBad c) c.vips.length 0 = scan (vipBad c) c.vips.length i) 0 [] (fun i hL => ?_) (hi := by exact ⟨Nat.zero_le _, rfl⟩)
       obtain ⟨hi2, hie⟩ := hL
       refine D ?_
       refine cC (fun c5 => ?_) (fun c5 => ?_)
       · skip
         have hst2 := scan_lt (f := vipBad c) (show i < c.vips.length by omega)
         refine D ?_
         refine kR (s_impl_isAddress _) ?_
         refine D ?_
         refine kRg (s_impl_isPort _) ?_
         refine D ?_
         refine kRg (s_impl_isProto _) ?_
         refine D ?_
         refine cC (fun c6 => ?_) (fun c6 => ?_)
         · skip
           have hv3 : isVp (c.vips.getD i zVip) = false := by unfold isVp; grind
           have hvb : vipBad c i = 3 := by unfold vipBad; rw [if_pos hv3]
           refine D ?_
           refine E ?_
           first
           | exact trivial
           | unfold configFault
             grind
         · skip
           have hv3 : isVp (c.vips.getD i zVip) = true := by unfold isVp; grind
           refine D ?_
           refine kDg (s_impl_compareVip (c.vips.getD (i - 1) zVip) (c.vips.getD i zVip)) ?_
           refine D ?_
           refine cC (fun c7 => ?_) (fun c7 => ?_)
           · skip
             have hbh := cmpV_ge (c.vips.getD (i - 1) zVip) (c.vips.getD i zVip)
             have hvb : vipBad c i = 1 := by unfold vipBad; grind
             refine D ?_
             refine E ?_
             first
             | exact trivial
             | unfold configFault
               grind
           · skip
             have hbh := cmpV_ge (c.vips.getD (i - 1) zVip) (c.vips.getD i zVip)
             have hbq : ¬ (0 < i ∧ behV (c.vips.getD (i - 1) zVip) (c.vips.getD i zVip) = false) := by grind
             refine D ?_
             refine kR (s_slices_ContainsFunc_int64 (c.vips.getD i zVip).names (hV _ (getD_mem zVip (by omega))) 257 c hx (noB c.backends) (by kernel_rfl) (fun n _ => s_impl_ConfigFault_1 n c hx)) ?_
             refine D ?_
             refine cC (fun c8 => ?_) (fun c8 => ?_)
             · skip
               have hvb : vipBad c i = 4 := by unfold vipBad; rw [if_neg (by rw [hv3]; simp), if_neg hbq, if_pos (by simpa using c8)]
               refine D ?_
               refine E ?_
               first
               | exact trivial
               | unfold configFault
                 grind
             · skip
               have hcf : hasG (noB c.backends) (c.vips.getD i zVip).names = false := by simpa using c8
               have hvs : vipBad c i = scan (nmBad (c.vips.getD i zVip)) (c.vips.getD i zVip).names.length 1 := by unfold vipBad; rw [if_neg (by rw [hv3]; simp), if_neg hbq, if_neg (by rw [hcf]; simp)]
               refine D ?_
               refine L (α := Nat) (fun y => [(7, .int .i64 y)]) (fun y => []) (fun y => (c.vips.getD i zVip).names.length - y) (fun y => 1 ≤ y ∧ (y ≤ (c.vips.getD i zVip).names.length ∨ y = 1) ∧ scan (nmBad (c.vips.getD i zVip)) (c.vips.getD i zVip).names.length 1 = scan (nmBad (c.vips.getD i zVip)) (c.vips.getD i zVip).names.length y) 1 [] (fun y hL => ?_) (hi := by exact ⟨Nat.le_refl _, .inr rfl, rfl⟩)
               obtain ⟨hy, hy2, hys⟩ := hL
               refine D ?_
               refine cC (fun c9 => ?_) (fun c9 => ?_)
               · skip
                 have hnl : (c.vips.getD i zVip).names.length ≤ 2097152 := hV _ (getD_mem zVip (by omega))
                 refine D ?_
                 refine cC (fun c10 => ?_) (fun c10 => ?_)
                 · skip
                   have hvb : vipBad c i = 1 := by
                     rw [hvs, hys, scan_lt (by omega)]
                     unfold nmBad
                     grind
                   refine D ?_
                   refine E ?_
                   first
                   | exact trivial
                   | unfold configFault
                     grind
                 · skip
                   refine D ?_
                   refine N (y+1) [] (hi := ?_) (hm := ?_)
                   · refine ⟨by omega, .inl (by omega), ?_⟩
                     rw [hys, scan_lt (by omega), if_pos]
                     unfold nmBad
                     simp at *
                     grind
                   · omega
               · skip
                 have hvb : vipBad c i = 0 := by rw [hvs, hys, scan_ge (by omega)]
                 refine D ?_
                 refine N (i+1) [] (hi := ?_) (hm := ?_)
                 · refine ⟨by omega, ?_⟩
                   rw [hie, scan_lt (by omega), if_pos]
                   grind
                 · omega
       · skip
         have hs1 : scan (vipBad c) c.vips.length 0 = 0 := by rw [hie, scan_ge (by omega)]
         refine D ?_
         refine E ?_
         first
         | exact trivial
         | unfold configFault
           grind
end Go.H
end
section
set_option maxRecDepth 100000
set_option maxHeartbeats 4000000
set_option cbv.maxSteps 4000000
set_option linter.unusedVariables false
set_option linter.unusedSimpArgs false
namespace Go.H
open Go Go.Proofs.Tryz
variable [Inv prog]
theorem s_impl_Config_isZero (c : Config) (hx : limG 2097152 c) : SemX prog 198 [aT (.ptr (eConfig false c))] [] [rB (cfgZero c)] [] := by
 refine goF [] [] [] func198 ?_
 obtain ⟨hb, hv, hV⟩ := id hx
 refine D ?_
 refine E ?_
 first
 | exact trivial
 | simp only [go_sem, cfgZero]; done
 | try simp only [go_sem, cfgZero]
   first | rfl | (simp; done) | (simp [Bool.and_assoc]; done) | grind
end Go.H
end
section
set_option maxRecDepth 100000
set_option maxHeartbeats 4000000
set_option cbv.maxSteps 4000000
set_option linter.unusedVariables false
set_option linter.unusedSimpArgs false
namespace Go.H
open Go Go.Proofs.Tryz
variable [Inv prog]
theorem s_impl_WatchFault (w : Watch) (hw : limG 2097152 w.config) : SemX prog 124 [aS (eWatch false w)] [] [rI (watchFault w)] [] := by
 refine goF [] [] [] func124 ?_
 refine D ?_
 refine kR (s_impl_ConfigFault w.config hw) ?_
 refine D ?_
 refine cC (fun c0 => ?_) (fun c0 => ?_)
 · skip
   refine D ?_
   refine E ?_
   first
   | exact trivial
   | unfold watchFault
     grind
 · skip
   refine D ?_
   refine kRg (s_impl_Config_isZero w.config hw) ?_
   refine D ?_
   refine cC (fun c1 => ?_) (fun c1 => ?_)
   · skip
     refine D ?_
     refine E ?_
     first
     | exact trivial
     | unfold watchFault
       grind
   · skip
     refine D ?_
     refine E ?_
     first
     | exact trivial
     | unfold watchFault
       grind
end Go.H
end
section
set_option maxRecDepth 100000
set_option maxHeartbeats 4000000
set_option cbv.maxSteps 4000000
set_option linter.unusedVariables false
set_option linter.unusedSimpArgs false
namespace Go.H
open Go Go.Proofs.Tryz
variable [Inv prog]
theorem s_slices_EqualFunc_int64 (a b : List (List Int)) (ha : a.length ≤ 2097152) (hb : b.length ≤ 2097152) (hA_ : ∀ y ∈ a, y.length ≤ 2097152) (hB_ : ∀ y ∈ b, y.length ≤ 2097152) (fn : Nat) (hq : callB prog fn = true) (hf : ∀ a b : List Int, a.length ≤ 2097152 → b.length ≤ 2097152 → SemX prog fn [aT (.sl false 1 (a.map eI_i64)), aT (.sl false 1 (b.map eI_i64))] [] [rB (decide (a = b))] []) : SemX prog 125 [aT (.sl false 1 (a.map (eLI_i64 false))), aT (.sl false 1 (b.map (eLI_i64 false))), .one (.fn fn [])] [] [rB (decide (a = b))] [] := by
 refine goF [] [] [] func125 ?_
 refine D ?_
 refine cC (fun c0 => ?_) (fun c0 => ?_)
 · skip
   have he : ¬ a = b := fun e => by subst e; simp at c0
   refine D ?_
   refine E ?_
   simp [he]
 · skip
   have hle : a.length = b.length := by omega
   refine D ?_
   refine L (α := Nat) (fun x => [(17, .int .i64 x)]) (fun x => []) (fun x => a.length - x) (fun x => x ≤ a.length ∧ ∀ j, j < x → a.getD j zLI_i64 = b.getD j zLI_i64) 0 [] (fun x hL => ?_) (hi := by exact ⟨Nat.zero_le _, fun j hj => by omega⟩)
   obtain ⟨hx2, hno⟩ := hL
   refine D ?_
   refine cC (fun c1 => ?_) (fun c1 => ?_)
   · skip
     refine D ?_
     refine kR (hf (a.getD x zLI_i64) (b.getD x zLI_i64) (hA_ _ (getD_mem zLI_i64 (by omega))) (hB_ _ (getD_mem zLI_i64 (by omega)))) ?_ hq
     refine D ?_
     refine cC (fun c2 => ?_) (fun c2 => ?_)
     · skip
       have he : ¬ a = b := fun e => by subst e; simp at c2
       refine D ?_
       refine E ?_
       simp [he]
     · skip
       refine D ?_
       refine N (x+1) [] (hi := ?_) (hm := ?_)
       · refine ⟨by omega, fun j hj => ?_⟩
         rcases Nat.lt_or_ge j x with h | h
         · exact hno j h
         · obtain rfl : j = x := by omega
           first | exact c2 | (simpa using c2) | grind
       · omega
   · skip
     obtain rfl : x = a.length := by omega
     refine D ?_
     refine E ?_
     have he : a = b := eq_getD zLI_i64 hle hno
     simp [he]
end Go.H
end
section
set_option maxRecDepth 100000
set_option maxHeartbeats 4000000
set_option cbv.maxSteps 4000000
set_option linter.unusedVariables false
set_option linter.unusedSimpArgs false
namespace Go.H
open Go Go.Proofs.Tryz
variable [Inv prog]
theorem s_slices_IndexFunc_Share (R : List Share) (hl : R.length ≤ 2097152) (fn : Nat)  (q : Share → Bool) (hq : callB prog fn = true) (hf : ∀ b : Share, b ∈ R → SemX prog fn [aS (eShare b)] [] [rB (q b)] []) : SemX prog 284 [aT (.sl false 2 (R.map eShare)), .one (.fn fn [])] [] [rI (idxG q R)] [] := by
 refine goF [] [] [] func284 ?_
 refine D ?_
 refine L (α := Nat) (fun x => [(8, .int .i64 x)]) (fun x => []) (fun x => R.length - x) (fun x => x ≤ R.length ∧ ∀ j, j < x → q (R.getD j zShare) = false) 0 [] (fun x hL => ?_) (hi := by exact ⟨Nat.zero_le _, fun j hj => by omega⟩)
 obtain ⟨hx2, hno⟩ := hL
 refine D ?_
 refine cC (fun c0 => ?_) (fun c0 => ?_)
 · skip
   refine D ?_
   refine kR (hf (R.getD x zShare) (getD_mem zShare (by omega))) ?_ hq
   refine D ?_
   refine cC (fun c1 => ?_) (fun c1 => ?_)
   · skip
     refine D ?_
     refine E ?_
     rw [idxG_some zShare (by omega) hno c1]
   · skip
     refine D ?_
     refine N (x+1) [] (hi := ?_) (hm := ?_)
     · refine ⟨by omega, fun j hj => ?_⟩
       rcases Nat.lt_or_ge j x with h | h
       · exact hno j h
       · obtain rfl : j = x := by omega
         first | exact c1 | (simpa [isB, isV, eqI] using c1) | (simp [isB, isV, eqI]; grind)
     · omega
 · skip
   obtain rfl : x = R.length := by omega
   refine D ?_
   refine E ?_
   rw [idxG_none zShare hno]
end Go.H
end
section
set_option maxRecDepth 100000
set_option maxHeartbeats 4000000
set_option cbv.maxSteps 4000000
set_option linter.unusedVariables false
set_option linter.unusedSimpArgs false
namespace Go.H
open Go Go.Proofs.Tryz
variable [Inv prog]
theorem s_slices_ContainsFunc_Share (R : List Share) (hl : R.length ≤ 2097152) (fn : Nat) (q : Share → Bool) (hq : callB prog fn = true) (hf : ∀ b : Share, b ∈ R → SemX prog fn [aS (eShare b)] [] [rB (q b)] []) : SemX prog 261 [aT (.sl false 2 (R.map eShare)), .one (.fn fn [])] [] [rB (hasG q R)] [] := by
 refine goF [] [] [] func261 ?_
 refine D ?_
 refine kR (s_slices_IndexFunc_Share R hl fn q hq hf) ?_
 refine D ?_
 refine E ?_
 first
 | exact trivial
 | simp only [go_sem, hasG]
end Go.H
end
section
set_option maxRecDepth 100000
set_option maxHeartbeats 4000000
set_option cbv.maxSteps 4000000
set_option linter.unusedVariables false
set_option linter.unusedSimpArgs false
namespace Go.H
open Go Go.Proofs.Tryz
variable [Inv prog]
theorem s_impl_fill_1 (s : Share) : SemX prog 262 [aS (eShare s)] [] [rB (posW s)] [] := by
 refine goF [] [] [] func262 ?_
 refine D ?_
 refine E ?_
 first
 | exact trivial
 | simp only [go_sem, posW]
end Go.H
end
section
set_option maxRecDepth 100000
set_option maxHeartbeats 4000000
set_option cbv.maxSteps 4000000
set_option linter.unusedVariables false
set_option linter.unusedSimpArgs false
namespace Go.H
open Go Go.Proofs.Tryz
variable [Inv prog]
theorem s_impl_rest (n b : Int) (hb : 0 < b) (hb2 : b ≤ 4294967296) : SemX prog 271 [aI n, aI b] [] [rI (restI n b)] [] := by
 refine goF [(20, ⟨some 1, none, none, none⟩)] [] [] func271 ?_
 have hr := Int.tmod_lt_of_pos n hb
 have hr2 : -b < n.tmod b := by
   have h3 := Int.tmod_lt_of_pos (-n) hb
   rw [Int.neg_tmod] at h3
   omega
 refine D ?_
 refine E ?_
 first
 | exact trivial
 | simp only [go_sem, restI]
end Go.H
end
section
set_option maxRecDepth 100000
set_option maxHeartbeats 4000000
set_option cbv.maxSteps 4000000
set_option linter.unusedVariables false
set_option linter.unusedSimpArgs false
namespace Go.H
open Go Go.Proofs.Tryz
variable [Inv prog]
theorem s_impl_MixNumber (n s : Int) : SemX prog 221 [aI n, aI s] [] [rI (mix n s)] [] := by
 refine goF [(18, ⟨some 1, none, none, none⟩), (30, ⟨some 1, none, none, none⟩), (36, ⟨some 1, none, none, none⟩), (38, ⟨some 1, none, none, none⟩), (44, ⟨some 1, none, none, none⟩)] [] [] func221 ?_
 have hs := restI_bd (n := s) (b := 10007) (by omega)
 have hn := restI_bd (n := n) (b := 4294967296) (by omega)
 refine D ?_
 refine kR (s_impl_rest s 10007 (by omega) (by omega)) ?_
 refine D ?_
 refine kR (s_impl_rest n 4294967296 (by omega) (by omega)) ?_
 refine D ?_
 refine L (α := Nat × Int × Int) (fun x => [(0, .int .i64 x.2.2), (5, .int .i64 x.2.1), (11, .int .i64 x.1)]) (fun x => []) (fun x => 4 - x.1) (fun x => x.1 ≤ 4 ∧ 0 ≤ x.2.1 ∧ x.2.1 < 1000003 ∧ 0 ≤ x.2.2 ∧ x.2.2 ≤ 4294967295 ∧ mixS (4 - x.1) x.2.1 x.2.2 = mix n s) (0, restI s 10007 + 11, restI n 4294967296) [] (fun x0 hL => ?_) (hi := by exact ⟨by omega, by dsimp only; omega, by dsimp only; omega, hn.1, by dsimp only; omega, rfl⟩)
 obtain ⟨k, h, w⟩ := x0
 obtain ⟨hk, h1, h2, h3, h4, h5⟩ := hL
 try dsimp only at *
 have e1 : 0 ≤ w.tmod 256 := Int.tmod_nonneg _ h3
 have e2 := Int.tmod_lt_of_pos w (show (0 : Int) < 256 by omega)
 have e3 : 0 ≤ w.tdiv 256 := Int.tdiv_nonneg h3 (by omega)
 have e4 := Int.le_trans (Int.tdiv_le_self 256 h3) h4
 refine D ?_
 refine cC (fun c0 => ?_) (fun c0 => ?_)
 · skip
   refine D ?_
   refine N (k + 1, (h * 131 + w.tmod 256 + 1).tmod 1000003, w.tdiv 256) [] (hi := ?_) (hm := ?_)
   · dsimp only
     refine ⟨by omega, Int.tmod_nonneg _ (by omega), Int.tmod_lt_of_pos _ (by omega), Int.tdiv_nonneg h3 (by omega), ?_, ?_⟩
     · exact e4
     · rw [← h5, show 4 - k = (4 - (k + 1)) + 1 by omega, mixS]
   · try dsimp only
     omega
 · skip
   obtain rfl : k = 4 := by omega
   simp only [Nat.sub_self, mixS] at h5
   refine D ?_
   refine E ?_
   first
   | exact trivial
   | rw [h5]
end Go.H
end
section
set_option maxRecDepth 100000
set_option maxHeartbeats 4000000
set_option cbv.maxSteps 4000000
set_option linter.unusedVariables false
set_option linter.unusedSimpArgs false
namespace Go.H
open Go Go.Proofs.Tryz
variable [Inv prog]
theorem s_impl_offset (n : Int) : SemX prog 285 [aI n] [] [rI (offI n)] [] := by
 refine goF [] [] [] func285 ?_
 refine D ?_
 refine kR (s_impl_MixNumber n 3) ?_
 refine D ?_
 refine E ?_
 first
 | exact trivial
 | simp only [go_sem, offI]
end Go.H
end
section
set_option maxRecDepth 100000
set_option maxHeartbeats 4000000
set_option cbv.maxSteps 4000000
set_option linter.unusedVariables false
set_option linter.unusedSimpArgs false
namespace Go.H
open Go Go.Proofs.Tryz
variable [Inv prog]
theorem s_impl_skip (n : Int) : SemX prog 286 [aI n] [] [rI (skipI n)] [] := by
 refine goF [(14, ⟨some 1, none, none, none⟩)] [] [] func286 ?_
 have h1 : 0 ≤ (mix n 5).tmod 30 := Int.tmod_nonneg _ (mix_bd n 5).1
 have h2 := Int.tmod_lt_of_pos (mix n 5) (show (0 : Int) < 30 by omega)
 refine D ?_
 refine kR (s_impl_MixNumber n 5) ?_
 refine D ?_
 refine E ?_
 first
 | exact trivial
 | simp only [go_sem, skipI]
end Go.H
end
section
set_option maxRecDepth 100000
set_option maxHeartbeats 4000000
set_option cbv.maxSteps 4000000
set_option linter.unusedVariables false
set_option linter.unusedSimpArgs false
namespace Go.H
open Go Go.Proofs.Tryz
variable [Inv prog]
theorem s_impl_permutation (n : Int) : SemX prog 263 [aI n] [] [.one (.sl false 1 ((permL n).map eI_i64))] [] := by
 refine goF [(32, ⟨some 1, none, none, none⟩), (34, ⟨some 1, none, none, none⟩), (42, ⟨some 1, none, none, none⟩)] [] [(7, [1000000024576])] func263 ?_
 have ho := offI_bd n
 have hs := skipI_bd n
 have hpl := permL_len n
 have hA := hpl
 refine D ?_
 refine L (α := Nat) (fun k => [(3, .ref 24576 0 k), (6, .int .i64 k)]) (fun k => [(24576, .arr ⟨1, ((permL n).take k).map eI_i64, 1, none⟩)]) (fun k => 31 - k) (fun k => k ≤ 31) 0 [] (fun k hI => ?_)
 have hm : 0 ≤ (k : Int) * skipI n := Int.mul_nonneg (by omega) (by omega)
 have hm2 : (k : Int) * skipI n ≤ 31 * 30 := Int.mul_le_mul (by omega) (by omega) (by omega) (by omega)
 refine D ?_
 refine cC (fun c0 => ?_) (fun c0 => ?_)
 · skip
   refine D ?_
   refine kR (s_impl_offset n) ?_
   refine D ?_
   refine kR (s_impl_skip n) ?_
   refine D ?_
   refine lp_next (k+1) [(24576,81920)] ?_ ?_ ?_
   · simp only [go_sem, hA] <;> and_intros <;> first | with_reducible exact rfl | (first | with_reducible exact rfl | omega | (rw [permL_take n (by omega)]; simp [eI_i64, placeI]; done))
   · omega
   · omega
 · skip
   obtain rfl : k = 31 := by omega
   refine D ?_
   refine E ?_
   first
   | exact trivial
   | rw [List.take_of_length_le (by omega)]
end Go.H
end
section
set_option maxRecDepth 100000
set_option maxHeartbeats 4000000
set_option cbv.maxSteps 4000000
set_option linter.unusedVariables false
set_option linter.unusedSimpArgs false
namespace Go.H
open Go Go.Proofs.Tryz
variable [Inv prog]
theorem s_impl_fill (l : List Share) (hl : l.length ≤ 2097152) (hk : okSh l) (hw : ∀ s ∈ l, 0 ≤ s.weight ∧ s.weight ≤ 9) : SemX prog 199 [aT (.sl false 2 (l.map eShare))] [] [.one (.sl true 1 ((fillT l).map eI_i64))] [] := by
 refine goF [(140, ⟨some 1, none, none, none⟩), (148, ⟨some 1, none, none, none⟩)] [(17, 3, [65536], []), (17, 4, [65536], []), (17, 5, [65536], []), (17, 6, [65536], []), (17, 8, [40960], []), (17, 9, [45056], []), (17, 10, [45056], [45056])] [] func199 ?_
 have hsp := sumW_pos hk
 have hol := ordS_len l
 have hA := hol
 refine D ?_
 refine kR (s_slices_ContainsFunc_Share l hl 262 posW (by kernel_rfl) (fun s _ => s_impl_fill_1 s)) ?_
 refine D ?_
 refine cC (fun c0 => ?_) (fun c0 => ?_)
 · skip
   have hw0 : sumW l = 0 := (posW_no hk).1 (by simpa using c0)
   refine D ?_
   refine E ?_
   have he : fillT l = zeroT := if_pos hw0
   rw [he]
   rfl
 · skip
   have hw0 : sumW l ≠ 0 := fun h => by have := (posW_no hk).2 h; simp_all
   refine D ?_
   refine L (α := Nat) (fun i => [(5, .ref 65536 0 i), (18, .int .i64 i)]) (fun i => [(65536, .arr ⟨1, (l.take i).map (fun s => [T.sl false 1 ((permL s.name).map eI_i64)]), 1, none⟩)]) (fun i => l.length - i) (fun i => i ≤ l.length) 0 [] (fun i hI => ?_)
   refine D ?_
   refine cC (fun c1 => ?_) (fun c1 => ?_)
   · skip
     refine D ?_
     refine RW_callN (by kernel_rfl) (s_impl_permutation (l.getD i zShare).name) false [] [] [] rfl rfl (by simp only [go_sem, hA] <;> and_intros <;> first | with_reducible exact rfl | omega | with_reducible trivial | (intros; simp_all; done) | grind) (by first | rfl | (simp only [go_sem, hA]; done)) (by simp only [go_sem, hA]; exact rfl) ?_
     refine D ?_
     refine lp_next (i+1) [(65536,114688)] ?_ ?_ ?_
     · simp only [go_sem, hA] <;> and_intros <;> first | with_reducible exact rfl | (first | with_reducible exact rfl | omega | (rw [take_succ_map _ zShare (by omega)]; done) | (simp [take_succ_map _ zShare, *]; done))
     · omega
     · omega
   · skip
     obtain rfl : i = l.length := by omega
     have hall := ordS_zero l
     refine D ?_
     refine Ld [16, 17, 18, 19] [] (α := Nat × List Nat) (fun x => [(4, .int .i64 (freeN_ (tabR l x.1 0 0)))]) (fun x => [(45056, .arr ⟨1, (tabR l x.1 0 0).map eI_i64, 1 + cntR l x.1 0 0, none⟩), (65536, .arr ⟨1, ordS l x.2, 1 + sumN x.2, none⟩)]) (fun x => freeN_ (tabR l x.1 0 0)) (fun x => x.1 ≤ 31 ∧ goneK (tabR l x.1 0 0) l x.2 ∧ freeN_ (tabR l x.1 0 0) ≠ 0) (0, List.replicate l.length 0) [] (fun x0 hL => ?_) (by (simp only [go_sem, hA, tabR_zero, cntR_zero, sumN_zero, zeroT_free, hall, hA] <;> and_intros <;> first | with_reducible exact rfl | exact rfl | omega)) (hi := by
             have e0 : tabR l 0 0 0 = zeroT := tabR_zero l
             exact ⟨by dsimp only; omega, gone_zero _ l, by dsimp only; rw [e0, zeroT_free]; omega⟩)
     obtain ⟨r, ks⟩ := x0
     obtain ⟨hr, hg, hf⟩ := hL
     try dsimp only at *
     have hr31 := round_lt hk hw0 hf
     have hless := round_less hk hw0 hf
     refine D ?_
     refine L (α := Nat × List Nat) (fun x => [(4, .int .i64 (freeN_ (tabR l r x.1 0))), (31, .int .i64 x.1)]) (fun x => [(45056, .arr ⟨1, (tabR l r x.1 0).map eI_i64, 1 + cntR l r x.1 0, none⟩), (65536, .arr ⟨1, ordS l x.2, 1 + sumN x.2, none⟩)]) (fun x => l.length - x.1) (fun x => x.1 ≤ l.length ∧ goneK (tabR l r x.1 0) l x.2 ∧ freeN_ (tabR l r x.1 0) ≠ 0) (0, ks) [] (fun x0 hL => ?_) (hi := by exact ⟨Nat.zero_le _, hg, hf⟩)
     obtain ⟨i, ks⟩ := x0
     obtain ⟨hi, hg, hf⟩ := hL
     try dsimp only at *
     refine D ?_
     refine cC (fun c2 => ?_) (fun c2 => ?_)
     · skip
       have hwi := hw _ (getD_mem zShare (show i < l.length by omega))
       have hnn := (hk _ (getD_mem zShare (show i < l.length by omega))).1
       refine D ?_
       refine L (α := Nat × List Nat) (fun x => [(4, .int .i64 (freeN_ (tabR l r i x.1))), (38, .int .i64 x.1)]) (fun x => [(45056, .arr ⟨1, (tabR l r i x.1).map eI_i64, 1 + cntR l r i x.1, none⟩), (65536, .arr ⟨1, ordS l x.2, 1 + sumN x.2, none⟩)]) (fun x => (l.getD i zShare).weight.toNat - x.1) (fun x => x.1 ≤ (l.getD i zShare).weight.toNat ∧ goneK (tabR l r i x.1) l x.2 ∧ freeN_ (tabR l r i x.1) ≠ 0) (0, ks) [] (fun x0 hL => ?_) (hi := by exact ⟨Nat.zero_le _, hg, hf⟩)
       obtain ⟨k, ks⟩ := x0
       obtain ⟨hkk, hg, hf⟩ := hL
       try dsimp only at *
       have hlen := tabR_len l r i k
       have hfb := freeN_le (tabR l r i k)
       refine D ?_
       refine cC (fun c3 => ?_) (fun c3 => ?_)
       · skip
         refine D ?_
         refine Ld [39] [] (α := List Nat) (fun ks => []) (fun ks => [(65536, .arr ⟨1, ordS l ks, 1 + sumN ks, none⟩)]) (fun ks => 31 - (ks.getD i 0)) (fun ks => 0 ≤ r ∧ goneK (tabR l r i k) l ks) ks [] (fun ks hL => ?_) (hi := by exact ⟨Nat.zero_le _, hg⟩)
         obtain ⟨_, hg⟩ := hL
         have hkl := hg.1
         have hgi := hg.2 i (by omega)
         have hlt : (ks.getD i 0) < 31 := gone_lt hlen hf hgi.2
         have hoa := ordS_at ks (show i < l.length by omega)
         have hpd := perm_drop (name := (l.getD i zShare).name) hlt
         have hpl := permL_len (l.getD i zShare).name
         have hdt : List.take (31 - (ks.getD i 0)) (List.drop (ks.getD i 0) (permL (l.getD i zShare).name)) = List.drop (ks.getD i 0) (permL (l.getD i zShare).name) := List.take_of_length_le (by rw [List.length_drop]; omega)
         have hpb := placeI_bd (l.getD i zShare).name (k := ((ks.getD i 0) : Int)) (by omega)
         have hA := And.intro hA (And.intro hoa (And.intro hpd (And.intro hpl (hdt))))
         refine D ?_
         refine cC (fun c4 => ?_) (fun c4 => ?_)
         · skip
           refine D ?_
           refine lp_next (ks.set i ((ks.getD i 0) + 1)) [] ?_ ?_ ?_
           · simp only [go_sem, hA] <;> and_intros <;> first | with_reducible exact rfl | (first | with_reducible exact rfl | omega | (refine arr_eq ?_ ?_ <;> first | (rw [← ordS_set (by omega) (by omega)]; simp [List.drop_drop]; done) | (have := sumN_set (ks := ks) (i := i) (d := (ks.getD i 0) + 1) (by omega); omega)))
           · refine ⟨Nat.zero_le _, ?_⟩
             refine gone_set hg (by omega) (by omega) fun j hj => ?_
             rcases Nat.lt_or_ge j (ks.getD i 0) with h | h
             · exact hgi.2 j h
             · obtain rfl : j = (ks.getD i 0) := by omega
               simpa [zI_i64] using c4
           · rw [getD_set_self (by omega)]
             omega
         · skip
           have hput := tab_more hgi.2 hlt (by simpa [zI_i64] using c4)
           have hles := tab_less (r := r) (i := i) (k := k) hnn hf
           refine D ?_
           refine cC (fun c5 => ?_) (fun c5 => ?_)
           · skip
             refine D ?_
             refine E ?_
             have he : tabR l r i (k + 1) = fillT l := tabR_full hw0 (by omega) (by omega) (by omega) hr31
             rw [← he, ← hput]
             simp [eI_i64, List.map_set, hlen, List.take_of_length_le]
             rfl
           · skip
             refine D ?_
             refine lp_next (k + 1, ks) [] ?_ ?_ ?_
             · simp only [go_sem, hA] <;> and_intros <;> first | with_reducible exact rfl | (first | with_reducible exact rfl | omega | (refine arr_eq ?_ ?_ <;> first | (rw [← hput]; simp [eI_i64, List.map_set]; done) | (unfold cntR; omega)) | (refine int_eq ?_; omega))
             · refine ⟨by omega, ?_, by dsimp only; omega⟩
               dsimp only
               rw [← hput]
               exact gone_put hg hnn
             · try dsimp only
               omega
       · skip
         obtain rfl : k = (l.getD i zShare).weight.toNat := by omega
         refine D ?_
         refine lp_next (i + 1, ks) [] ?_ ?_ ?_
         · simp only [go_sem, hA] <;> and_intros <;> first | with_reducible exact rfl | (first | with_reducible exact rfl | omega | (refine arr_eq ?_ ?_ <;> first | rw [tabR_r] | rw [cntR_r] | rw [tabR_i (by omega)] | rw [cntR_i (by omega)]) | (rw [tabR_r]; done) | (rw [tabR_i (by omega)]; done))
         · refine ⟨by omega, ?_, ?_⟩
           · dsimp only
             rw [← tabR_i (by omega)]
             exact hg
           · dsimp only
             rw [← tabR_i (by omega)]
             exact hf
         · try dsimp only
           omega
     · skip
       obtain rfl : i = l.length := by omega
       refine D ?_
       refine lp_next (r + 1, ks) [] ?_ ?_ ?_
       · simp only [go_sem, hA] <;> and_intros <;> first | with_reducible exact rfl | (first | with_reducible exact rfl | omega | (refine arr_eq ?_ ?_ <;> first | rw [tabR_r] | rw [cntR_r] | rw [tabR_i (by omega)] | rw [cntR_i (by omega)]) | (rw [tabR_r]; done) | (rw [tabR_i (by omega)]; done))
       · refine ⟨by omega, ?_, ?_⟩
         · dsimp only
           rw [← tabR_r]
           exact hg
         · dsimp only
           rw [← tabR_r]
           exact hf
       · try dsimp only
         omega
end Go.H
end
section
set_option maxRecDepth 100000
set_option maxHeartbeats 4000000
set_option cbv.maxSteps 4000000
set_option linter.unusedVariables false
set_option linter.unusedSimpArgs false
namespace Go.H
open Go Go.Proofs.Tryz
variable [Inv prog]
theorem s_impl_Config_shares (c : Config) (hx : limG 2097152 c) (P : CfP c) (i : Nat) (hi : i < c.vips.length) : SemX prog 200 [aT (.ptr (eConfig false c)), aI i] [] [.one (.sl true 2 ((sharesOf c (c.vips.getD i zVip).names).map eShare))] [] := by
 refine goF [] [(5, 9, [], [36864]), (5, 10, [36864], [36864])] [] func200 ?_
 obtain ⟨hb, hv, hV⟩ := id hx
 have hnl : (c.vips.getD i zVip).names.length ≤ 2097152 := limV_getD hV i
 have hs0 : sharesOf c [] = [] := rfl
 have hA := hs0
 refine D ?_
 refine L (α := Nat) (fun x => [(5, .ref 40960 0 (sharesOf c ((c.vips.getD i zVip).names.take x)).length), (19, .int .i64 x)]) (fun x => [(40960, .arr ⟨2, (sharesOf c ((c.vips.getD i zVip).names.take x)).map eShare, 1, none⟩)]) (fun x => (c.vips.getD i zVip).names.length - x) (fun x => x ≤ (c.vips.getD i zVip).names.length) 0 [] (fun x hI => ?_)
 have hsl := sharesOf_len c ((c.vips.getD i zVip).names.take x)
 rw [List.length_take] at hsl
 refine D ?_
 refine cC (fun c0 => ?_) (fun c0 => ?_)
 · skip
   have hnx := getD_mem zI_i64 (show x < (c.vips.getD i zVip).names.length by omega)
   obtain ⟨m, hm1, hm2, hm3, hm4⟩ := sh_at P (getD_mem zVip hi) hnx
   have hA := And.intro hA (hm1)
   refine D ?_
   refine kD (s_impl_Config_backend c hx ((c.vips.getD i zVip).names.getD x zI_i64)) ?_
   refine D ?_
   refine cC (fun c1 => ?_) (fun c1 => ?_)
   · skip
     have hsf : shF c ((c.vips.getD i zVip).names.getD x zI_i64) = true := by unfold shF; rw [hm3]; simpa using c1
     have hst := sharesOf_take (c := c) (ns := (c.vips.getD i zVip).names) (i := x) (by omega)
     rw [if_pos hsf] at hst
     have hso : shO c ((c.vips.getD i zVip).names.getD x zI_i64) = ⟨(c.vips.getD i zVip).names.getD x zI_i64, (c.backends.getD m zBackend).weight⟩ := by unfold shO; rw [hm3]
     rw [hso] at hst
     refine D ?_
     refine lp_next (x+1) [(40960,188416)] ?_ ?_ ?_
     · simp only [go_sem, hA] <;> and_intros <;> first | with_reducible exact rfl | (first | with_reducible exact rfl | omega | (rw [hst]; simp [eShare, hm4, -List.getD_eq_getElem?_getD]; done) | (rw [hst]; done))
     · omega
     · omega
   · skip
     have hsf : ¬ shF c ((c.vips.getD i zVip).names.getD x zI_i64) = true := by unfold shF; rw [hm3]; simp at c1 ⊢; grind
     have hst := sharesOf_take (c := c) (ns := (c.vips.getD i zVip).names) (i := x) (by omega)
     rw [if_neg hsf, List.append_nil] at hst
     refine D ?_
     refine lp_next (x+1) [] ?_ ?_ ?_
     · simp only [go_sem, hA] <;> and_intros <;> first | with_reducible exact rfl | (first | with_reducible exact rfl | omega | (rw [hst]; simp [eShare, hm4, -List.getD_eq_getElem?_getD]; done) | (rw [hst]; done))
     · omega
     · omega
 · skip
   obtain rfl : x = (c.vips.getD i zVip).names.length := by omega
   refine D ?_
   exact E trivial
end Go.H
end
section
set_option maxRecDepth 100000
set_option maxHeartbeats 4000000
set_option cbv.maxSteps 4000000
set_option linter.unusedVariables false
set_option linter.unusedSimpArgs false
namespace Go.H
open Go Go.Proofs.Tryz
variable [Inv prog]
theorem s_impl_Config_tables (c : Config) (hx : limG 2097152 c) (P : CfP c) : SemX prog 126 [aT (.ptr (eConfig false c))] [] [.one (.sl true 1 ((tablesOf c).map (eLI_i64 true)))] [] := by
 refine goF [] [] [] func126 ?_
 obtain ⟨hb, hv, hV⟩ := id hx
 have ht0 : tablesOf c = c.vips.map fun v => fillT (sharesOf c v.names) := rfl
 refine D ?_
 refine L (α := Nat) (fun i => [(3, .ref 24576 0 i), (11, .int .i64 i)]) (fun i => [(24576, .arr ⟨1, (c.vips.take i).map (fun v => [T.sl true 1 ((fillT (sharesOf c v.names)).map eI_i64)]), 1, none⟩)]) (fun i => c.vips.length - i) (fun i => i ≤ c.vips.length) 0 [] (fun i hI => ?_)
 refine D ?_
 refine cC (fun c0 => ?_) (fun c0 => ?_)
 · skip
   obtain ⟨hok, hwt, hsn⟩ := shares_ok P (getD_mem zVip (show i < c.vips.length by omega))
   refine D ?_
   refine kR (s_impl_Config_shares c hx P i (by omega)) ?_
   refine D ?_
   refine kR (s_impl_fill (sharesOf c (c.vips.getD i zVip).names) (by omega) hok hwt) ?_
   refine D ?_
   refine lp_next (i+1) [(24576,86016)] ?_ ?_ ?_
   · simp only [go_sem] <;> and_intros <;> first | with_reducible exact rfl | (first | with_reducible exact rfl | omega | (rw [take_succ_map _ zVip (by omega)]; done) | (simp [take_succ_map _ zVip, *]; done))
   · omega
   · omega
 · skip
   obtain rfl : i = c.vips.length := by omega
   refine D ?_
   refine E ?_
   first
   | exact trivial
   | simp [ht0, List.take_of_length_le, eLI_i64]
end Go.H
end
section
set_option maxRecDepth 100000
set_option maxHeartbeats 4000000
set_option cbv.maxSteps 4000000
set_option linter.unusedVariables false
set_option linter.unusedSimpArgs false
namespace Go.H
open Go Go.Proofs.Tryz
variable [Inv prog]
theorem s_slices_Equal_int64 (a b : List Int) (ha : a.length ≤ 2097152) (hb : b.length ≤ 2097152) : SemX prog 127 [aT (.sl false 1 (a.map eI_i64)), aT (.sl false 1 (b.map eI_i64))] [] [rB (decide (a = b))] [] := by
 refine goF [] [] [] func127 ?_
 refine D ?_
 refine cC (fun c0 => ?_) (fun c0 => ?_)
 · skip
   have he : ¬ a = b := fun e => by subst e; simp at c0
   refine D ?_
   refine E ?_
   simp [he]
 · skip
   have hle : a.length = b.length := by omega
   refine D ?_
   refine L (α := Nat) (fun x => [(13, .int .i64 x)]) (fun x => []) (fun x => a.length - x) (fun x => x ≤ a.length ∧ ∀ j, j < x → a.getD j zI_i64 = b.getD j zI_i64) 0 [] (fun x hL => ?_) (hi := by exact ⟨Nat.zero_le _, fun j hj => by omega⟩)
   obtain ⟨hx2, hno⟩ := hL
   refine D ?_
   refine cC (fun c1 => ?_) (fun c1 => ?_)
   · skip
     refine D ?_
     refine cC (fun c2 => ?_) (fun c2 => ?_)
     · skip
       have he : ¬ a = b := fun e => by subst e; simp at c2
       refine D ?_
       refine E ?_
       simp [he]
     · skip
       refine D ?_
       refine N (x+1) [] (hi := ?_) (hm := ?_)
       · refine ⟨by omega, fun j hj => ?_⟩
         rcases Nat.lt_or_ge j x with h | h
         · exact hno j h
         · obtain rfl : j = x := by omega
           first | exact c2 | (simpa using c2) | grind
       · omega
   · skip
     obtain rfl : x = a.length := by omega
     refine D ?_
     refine E ?_
     have he : a = b := eq_getD zI_i64 hle hno
     simp [he]
end Go.H
end
section
set_option maxRecDepth 100000
set_option maxHeartbeats 4000000
set_option cbv.maxSteps 4000000
set_option linter.unusedVariables false
set_option linter.unusedSimpArgs false
namespace Go.H
open Go Go.Proofs.Tryz
variable [Inv prog]
theorem s_impl_PacketFault (p : Packet) : SemX prog 201 [aS (ePacket false p)] [] [rI (packetFault p)] [] := by
 refine goF [] [] [] func201 ?_
 refine D ?_
 refine kR (s_impl_isAddress _) ?_
 refine D ?_
 refine kRg (s_impl_isAddress _) ?_
 refine D ?_
 refine kRg (s_impl_isProto _) ?_
 refine D ?_
 refine kRg (s_impl_isPort _) ?_
 refine D ?_
 refine kRg (s_impl_isPort _) ?_
 refine D ?_
 refine cC (fun c0 => ?_) (fun c0 => ?_)
 · skip
   refine D ?_
   refine E ?_
   first
   | exact trivial
   | unfold packetFault
     grind
 · skip
   refine D ?_
   refine cC (fun c1 => ?_) (fun c1 => ?_)
   · skip
     refine D ?_
     refine E ?_
     first
     | exact trivial
     | unfold packetFault
       grind
   · skip
     refine D ?_
     refine E ?_
     first
     | exact trivial
     | unfold packetFault
       grind
end Go.H
end
section
set_option maxRecDepth 100000
set_option maxHeartbeats 4000000
set_option cbv.maxSteps 4000000
set_option linter.unusedVariables false
set_option linter.unusedSimpArgs false
namespace Go.H
open Go Go.Proofs.Tryz
variable [Inv prog]
theorem s_impl_isFlow (f : Flow) : SemX prog 128 [aS (eFlow f)] [] [rB (isFl f)] [] := by
 refine goF [] [] [] func128 ?_
 refine D ?_
 refine kR (s_impl_PacketFault ⟨f.from_, f.to_, f.proto, f.fromP, f.toP, []⟩) ?_
 refine D ?_
 refine E ?_
 first
 | exact trivial
 | rw [isFl_fault]
end Go.H
end
section
set_option maxRecDepth 100000
set_option maxHeartbeats 4000000
set_option cbv.maxSteps 4000000
set_option linter.unusedVariables false
set_option linter.unusedSimpArgs false
namespace Go.H
open Go Go.Proofs.Tryz
variable [Inv prog]
theorem s_slices_IndexFunc_Vip (R : List Vip) (hl : R.length ≤ 2097152) (fn : Nat) (a p r : Int) (q : Vip → Bool) (hq : callB prog fn = true) (hf : ∀ b : Vip, b ∈ R → SemX prog fn [aS (eVip false b), aT (.ptr [.int .i64 a]), aT (.ptr [.int .i64 p]), aT (.ptr [.int .i64 r])] [] [rB (q b)] []) : SemX prog 269 [aT (.sl false 4 (R.map (eVip false))), .one (.fn fn [.t (.ptr [.int .i64 a]), .t (.ptr [.int .i64 p]), .t (.ptr [.int .i64 r])])] [] [rI (idxG q R)] [] := by
 refine goF [] [] [] func269 ?_
 refine D ?_
 refine L (α := Nat) (fun x => [(8, .int .i64 x)]) (fun x => []) (fun x => R.length - x) (fun x => x ≤ R.length ∧ ∀ j, j < x → q (R.getD j zVip) = false) 0 [] (fun x hL => ?_) (hi := by exact ⟨Nat.zero_le _, fun j hj => by omega⟩)
 obtain ⟨hx2, hno⟩ := hL
 refine D ?_
 refine cC (fun c0 => ?_) (fun c0 => ?_)
 · skip
   refine D ?_
   refine kR (hf (R.getD x zVip) (getD_mem zVip (by omega))) ?_ hq
   refine D ?_
   refine cC (fun c1 => ?_) (fun c1 => ?_)
   · skip
     refine D ?_
     refine E ?_
     rw [idxG_some zVip (by omega) hno c1]
   · skip
     refine D ?_
     refine N (x+1) [] (hi := ?_) (hm := ?_)
     · refine ⟨by omega, fun j hj => ?_⟩
       rcases Nat.lt_or_ge j x with h | h
       · exact hno j h
       · obtain rfl : j = x := by omega
         first | exact c1 | (simpa [isB, isV, eqI] using c1) | (simp [isB, isV, eqI]; grind)
     · omega
 · skip
   obtain rfl : x = R.length := by omega
   refine D ?_
   refine E ?_
   rw [idxG_none zVip hno]
theorem s_slices_IndexFunc_Vip_cmd (R : List Vip) (hl : R.length ≤ 2097152) (fn : Nat) (x_ : Cmd) (q : Vip → Bool) (hq : callB prog fn = true) (hf : ∀ b : Vip, b ∈ R → SemX prog fn [aS (eVip false b), aT (.ptr (eCmd x_))] [] [rB (q b)] []) : SemX prog 269 [aT (.sl false 4 (R.map (eVip false))), .one (.fn fn [.t (.ptr (eCmd x_))])] [] [rI (idxG q R)] [] := by
 refine goF [] [] [] func269 ?_
 refine D ?_
 refine L (α := Nat) (fun x => [(8, .int .i64 x)]) (fun x => []) (fun x => R.length - x) (fun x => x ≤ R.length ∧ ∀ j, j < x → q (R.getD j zVip) = false) 0 [] (fun x hL => ?_) (hi := by exact ⟨Nat.zero_le _, fun j hj => by omega⟩)
 obtain ⟨hx2, hno⟩ := hL
 refine D ?_
 refine cC (fun c0 => ?_) (fun c0 => ?_)
 · skip
   refine D ?_
   refine kR (hf (R.getD x zVip) (getD_mem zVip (by omega))) ?_ hq
   refine D ?_
   refine cC (fun c1 => ?_) (fun c1 => ?_)
   · skip
     refine D ?_
     refine E ?_
     rw [idxG_some zVip (by omega) hno c1]
   · skip
     refine D ?_
     refine N (x+1) [] (hi := ?_) (hm := ?_)
     · refine ⟨by omega, fun j hj => ?_⟩
       rcases Nat.lt_or_ge j x with h | h
       · exact hno j h
       · obtain rfl : j = x := by omega
         first | exact c1 | (simpa [isB, isV, eqI] using c1) | (simp [isB, isV, eqI]; grind)
     · omega
 · skip
   obtain rfl : x = R.length := by omega
   refine D ?_
   refine E ?_
   rw [idxG_none zVip hno]
end Go.H
end
section
set_option maxRecDepth 100000
set_option maxHeartbeats 4000000
set_option cbv.maxSteps 4000000
set_option linter.unusedVariables false
set_option linter.unusedSimpArgs false
namespace Go.H
open Go Go.Proofs.Tryz
variable [Inv prog]
theorem s_impl_Config_vip_1 (v : Vip) (a p q : Int) : SemX prog 270 [aS (eVip false v), aT (.ptr [.int .i64 a]), aT (.ptr [.int .i64 p]), aT (.ptr [.int .i64 q])] [] [rB (isV a p q v)] [] := by
 refine goF [] [] [] func270 ?_
 refine D ?_
 refine E ?_
 first
 | exact trivial
 | simp only [go_sem, isV]
end Go.H
end
section
set_option maxRecDepth 100000
set_option maxHeartbeats 4000000
set_option cbv.maxSteps 4000000
set_option linter.unusedVariables false
set_option linter.unusedSimpArgs false
namespace Go.H
open Go Go.Proofs.Tryz
variable [Inv prog]
theorem s_impl_Config_vip (c : Config) (hx : limG 2097152 c) (a p r : Int) : SemX prog 219 [aT (.ptr (eConfig false c)), aI a, aI p, aI r] [] [rI (findV c.vips a p r)] [] := by
 refine goF [] [] [] func219 ?_
 obtain ⟨hb, hv, hV⟩ := id hx
 refine D ?_
 refine kR (s_slices_IndexFunc_Vip c.vips hv 270 a p r (isV a p r) (by kernel_rfl) (fun v _ => s_impl_Config_vip_1 v a p r)) ?_
 refine D ?_
 refine E ?_
 first
 | exact trivial
 | simp only [go_sem, findV]
end Go.H
end
section
set_option maxRecDepth 100000
set_option maxHeartbeats 4000000
set_option cbv.maxSteps 4000000
set_option linter.unusedVariables false
set_option linter.unusedSimpArgs false
namespace Go.H
open Go Go.Proofs.Tryz
variable [Inv prog]
theorem s_impl_Config_vipOf (c : Config) (hx : limG 2097152 c) (f : Flow) : SemX prog 151 [aT (.ptr (eConfig false c)), aS (eFlow f)] [] [rI (findV c.vips f.to_ f.toP f.proto)] [] := by
 refine goF [] [] [] func151 ?_
 refine D ?_
 refine kR (s_impl_Config_vip c hx f.to_ f.toP f.proto) ?_
 refine D ?_
 exact E trivial
end Go.H
end
section
set_option maxRecDepth 100000
set_option maxHeartbeats 4000000
set_option cbv.maxSteps 4000000
set_option linter.unusedVariables false
set_option linter.unusedSimpArgs false
namespace Go.H
open Go Go.Proofs.Tryz
variable [Inv prog]
theorem s_slices_Index_int64 (xs : List Int) (n : Int) (hl : xs.length ≤ 2097152) : SemX prog 264 [aT (.sl false 1 (xs.map eI_i64)), aI n] [] [rI (idxG (eqI n) xs)] [] := by
 refine goF [] [] [] func264 ?_
 refine D ?_
 refine L (α := Nat) (fun x => [(8, .int .i64 x)]) (fun x => []) (fun x => xs.length - x) (fun x => x ≤ xs.length ∧ ∀ j, j < x → eqI n (xs.getD j zI_i64) = false) 0 [] (fun x hL => ?_) (hi := by exact ⟨Nat.zero_le _, fun j hj => by omega⟩)
 obtain ⟨hx2, hno⟩ := hL
 refine D ?_
 refine cC (fun c0 => ?_) (fun c0 => ?_)
 · skip
   refine D ?_
   refine cC (fun c1 => ?_) (fun c1 => ?_)
   · skip
     refine D ?_
     refine E ?_
     rw [idxG_some zI_i64 (by omega) hno (by simp [-List.getD_eq_getElem?_getD, eqI]; omega)]
   · skip
     refine D ?_
     refine N (x+1) [] (hi := ?_) (hm := ?_)
     · refine ⟨by omega, fun j hj => ?_⟩
       rcases Nat.lt_or_ge j x with h | h
       · exact hno j h
       · obtain rfl : j = x := by omega
         first | exact c1 | (simpa [isB, isV, eqI] using c1) | (simp [isB, isV, eqI]; grind)
     · omega
 · skip
   obtain rfl : x = xs.length := by omega
   refine D ?_
   refine E ?_
   rw [idxG_none zI_i64 hno]
end Go.H
end
section
set_option maxRecDepth 100000
set_option maxHeartbeats 4000000
set_option cbv.maxSteps 4000000
set_option linter.unusedVariables false
set_option linter.unusedSimpArgs false
namespace Go.H
open Go Go.Proofs.Tryz
variable [Inv prog]
theorem s_slices_Contains_int64 (xs : List Int) (n : Int) (hl : xs.length ≤ 2097152) : SemX prog 202 [aT (.sl false 1 (xs.map eI_i64)), aI n] [] [rB (hasG (eqI n) xs)] [] := by
 refine goF [] [] [] func202 ?_
 refine D ?_
 refine kR (s_slices_Index_int64 xs n hl) ?_
 refine D ?_
 refine E ?_
 first
 | exact trivial
 | simp only [go_sem, hasG]
end Go.H
end
section
set_option maxRecDepth 100000
set_option maxHeartbeats 4000000
set_option cbv.maxSteps 4000000
set_option linter.unusedVariables false
set_option linter.unusedSimpArgs false
namespace Go.H
open Go Go.Proofs.Tryz
variable [Inv prog]
theorem s_impl_Config_serves (c : Config) (hx : limG 2097152 c) (P : CfP c) (f : Flow) (n : Int) : SemX prog 129 [aT (.ptr (eConfig false c)), aS (eFlow f), aI n] [] [rB (servesF c f n)] [] := by
 refine goF [] [] [] func129 ?_
 obtain ⟨hb, hv, hV⟩ := id hx
 have hfl : findV c.vips f.to_ f.toP f.proto < c.vips.length := idxG_bd _ _
 have hvl := limV_getD hV (findV c.vips f.to_ f.toP f.proto).toNat
 refine D ?_
 refine kR (s_impl_Config_vipOf c hx f) ?_
 refine D ?_
 refine kR (s_impl_Config_backend c hx n) ?_
 refine D ?_
 refine kRg (s_slices_Contains_int64 (c.vips.getD (findV c.vips f.to_ f.toP f.proto).toNat zVip).names n hvl) ?_
 refine D ?_
 refine E ?_
 first
 | exact trivial
 | have hfb : findB c.backends n < c.backends.length := idxG_bd _ _
   have hsv := servesF_eq P f n
   trace_state
   first | exact ⟨fun _ h _ => ⟨h, hfb⟩, hsv⟩ | exact ⟨fun _ _ h _ => ⟨h, hfb⟩, hsv⟩ | grind
end Go.H
end
section
set_option maxRecDepth 100000
set_option maxHeartbeats 4000000
set_option cbv.maxSteps 4000000
set_option linter.unusedVariables false
set_option linter.unusedSimpArgs false
namespace Go.H
open Go Go.Proofs.Tryz
variable [Inv prog]
section
attribute [local go_sem] List.take_length
theorem s_slices_IndexFunc_Held (R : List Held) (hl : R.length ≤ 2097152) (fn : Nat) (row : List T) (hrw : T.shrL row = row) (q : Held → Bool) (hq : callB prog fn = true) (hf : ∀ b : Held, b ∈ R → SemX prog fn [aS (eHeld b), aT (.ptr row)] [] [rB (q b)] []) : SemX prog 203 [aT (.sl false 7 (R.map eHeld)), .one (.fn fn [.t (.ptr row)])] [] [rI (idxG q R)] [] := by
 refine goF [] [] [] func203 ?_
 have hA := hrw
 refine D ?_
 refine L (α := Nat) (fun x => [(8, .int .i64 x)]) (fun x => []) (fun x => R.length - x) (fun x => x ≤ R.length ∧ ∀ j, j < x → q (R.getD j zHeld) = false) 0 [] (fun x hL => ?_) (hi := by exact ⟨Nat.zero_le _, fun j hj => by omega⟩)
 obtain ⟨hx2, hno⟩ := hL
 refine D ?_
 refine cC (fun c0 => ?_) (fun c0 => ?_)
 · skip
   refine D ?_
   refine kR (hf (R.getD x zHeld) (getD_mem zHeld (by omega))) ?_ hq
   refine D ?_
   refine cC (fun c1 => ?_) (fun c1 => ?_)
   · skip
     refine D ?_
     refine E ?_
     rw [idxG_some zHeld (by omega) hno c1]
   · skip
     refine D ?_
     refine N (x+1) [] (hi := ?_) (hm := ?_)
     · refine ⟨by omega, fun j hj => ?_⟩
       rcases Nat.lt_or_ge j x with h | h
       · exact hno j h
       · obtain rfl : j = x := by omega
         first | exact c1 | (simpa [isB, isV, eqI] using c1) | (simp [isB, isV, eqI]; grind)
     · omega
 · skip
   obtain rfl : x = R.length := by omega
   refine D ?_
   refine E ?_
   rw [idxG_none zHeld hno]
end
end Go.H
end
section
set_option maxRecDepth 100000
set_option maxHeartbeats 4000000
set_option cbv.maxSteps 4000000
set_option linter.unusedVariables false
set_option linter.unusedSimpArgs false
namespace Go.H
open Go Go.Proofs.Tryz
variable [Inv prog]
theorem s_slices_ContainsFunc_Held (R : List Held) (hl : R.length ≤ 2097152) (fn : Nat) (row : List T) (hrw : T.shrL row = row) (q : Held → Bool) (hq : callB prog fn = true) (hf : ∀ b : Held, b ∈ R → SemX prog fn [aS (eHeld b), aT (.ptr row)] [] [rB (q b)] []) : SemX prog 130 [aT (.sl false 7 (R.map eHeld)), .one (.fn fn [.t (.ptr row)])] [] [rB (hasG q R)] [] := by
 refine goF [] [] [] func130 ?_
 have hA := hrw
 refine D ?_
 refine kR (s_slices_IndexFunc_Held R hl fn row hrw q hq hf) ?_
 refine D ?_
 refine E ?_
 first
 | exact trivial
 | simp only [go_sem, hasG]
end Go.H
end
section
set_option maxRecDepth 100000
set_option maxHeartbeats 4000000
set_option cbv.maxSteps 4000000
set_option linter.unusedVariables false
set_option linter.unusedSimpArgs false
namespace Go.H
open Go Go.Proofs.Tryz
variable [Inv prog]
theorem s_impl_MuxFault_1 (b h : Held) : SemX prog 131 [aS (eHeld b), aT (.ptr (eHeld h))] [] [rB (eqF h.flow b)] [] := by
 refine goF [] [] [] func131 ?_
 refine D ?_
 refine E ?_
 first
 | exact trivial
 | simp only [go_sem, eqF]
end Go.H
end
section
set_option maxRecDepth 100000
set_option maxHeartbeats 4000000
set_option cbv.maxSteps 4000000
set_option linter.unusedVariables false
set_option linter.unusedSimpArgs false
namespace Go.H
open Go Go.Proofs.Tryz
variable [Inv prog]
theorem s_impl_MuxFault (m : Mux) (hm : limX 2097152 m) : SemX prog 62 [aS (eMux false m)] [] [rI (muxFault m)] [] := by
 refine goF [(144, ⟨some 1, none, none, none⟩)] [(7, 1, [8192], []), (7, 3, [8192], [122880]), (7, 4, [122880], [])] [] func62 ?_
 obtain ⟨hg, ht, htr, hc⟩ := id hm
 refine D ?_
 refine kR (s_impl_isAddress _) ?_
 refine D ?_
 refine kRg (s_impl_in _ _ _) ?_
 refine D ?_
 refine cC (fun c0 => ?_) (fun c0 => ?_)
 · skip
   refine D ?_
   refine E ?_
   first
   | exact trivial
   | unfold muxFault
     grind
 · skip
   have hnw : 0 ≤ m.now ∧ m.now ≤ 1000000000 := by
     have h_ := c0
     simp [inR] at h_
     omega
   refine D ?_
   refine kR (s_impl_WatchFault m.watch hg) ?_
   refine D ?_
   refine cC (fun c1 => ?_) (fun c1 => ?_)
   · skip
     refine D ?_
     refine E ?_
     first
     | exact trivial
     | unfold muxFault
       grind
   · skip
     have hw0 : watchFault m.watch = 0 := by omega
     have P := watch_p hw0
     obtain ⟨tl1, tl2⟩ := tab_lim P
     refine D ?_
     refine kD (s_impl_Config_tables m.watch.config hg P) ?_
     refine D ?_
     refine kD (s_slices_EqualFunc_int64 m.tables (tablesOf m.watch.config) ht tl1 htr tl2 127 (by kernel_rfl) (fun a b ha hb => s_slices_Equal_int64 a b ha hb)) ?_
     refine D ?_
     refine cC (fun c2 => ?_) (fun c2 => ?_)
     · skip
       refine D ?_
       refine E ?_
       first
       | exact trivial
       | unfold muxFault
         grind
     · skip
       refine D ?_
       refine cC (fun c3 => ?_) (fun c3 => ?_)
       · skip
         refine D ?_
         refine E ?_
         first
         | exact trivial
         | unfold muxFault
           grind
       · skip
         refine D ?_
         refine L (α := Nat) (fun i => [(40, .int .i64 i)]) (fun i => []) (fun i => m.cache.length - i) (fun i => i ≤ m.cache.length ∧ scan (heldBad m) m.cache.length 0 = scan (heldBad m) m.cache.length i) 0 [] (fun i hL => ?_) (hi := by exact ⟨Nat.zero_le _, rfl⟩)
         obtain ⟨hi2, hie⟩ := hL
         refine D ?_
         refine cC (fun c4 => ?_) (fun c4 => ?_)
         · skip
           have hst := scan_lt (f := heldBad m) (show i < m.cache.length by omega)
           have hd : heldBad m i = if !isFl (m.cache.getD i zHeld).flow || !inR (m.cache.getD i zHeld).seen 0 m.now then 3 else if servesF m.watch.config (m.cache.getD i zHeld).flow (m.cache.getD i zHeld).name = false then 4 else if 20 < m.now - (m.cache.getD i zHeld).seen then 9 else if hasG (eqF (m.cache.getD i zHeld).flow) (m.cache.take i) = true then 7 else 0 := rfl
           refine D ?_
           refine kR (s_impl_isFlow (m.cache.getD i zHeld).flow) ?_
           refine D ?_
           refine kRg (s_impl_in _ _ _) ?_
           refine D ?_
           refine cC (fun c5 => ?_) (fun c5 => ?_)
           · skip
             have hbz : heldBad m i = 3 := by rw [hd]; grind
             refine D ?_
             refine E ?_
             first
             | exact trivial
             | unfold muxFault
               grind
           · skip
             have hfs : isFl (m.cache.getD i zHeld).flow = true ∧ inR (m.cache.getD i zHeld).seen 0 m.now = true := by grind
             have hsn : 0 ≤ (m.cache.getD i zHeld).seen ∧ (m.cache.getD i zHeld).seen ≤ m.now := by have := hfs.2; simpa [inR] using this
             refine D ?_
             refine kR (s_impl_Config_serves m.watch.config hg P (m.cache.getD i zHeld).flow (m.cache.getD i zHeld).name) ?_
             refine D ?_
             refine cC (fun c6 => ?_) (fun c6 => ?_)
             · skip
               have hbz : heldBad m i = 4 := by rw [hd]; grind
               refine D ?_
               refine E ?_
               first
               | exact trivial
               | unfold muxFault
                 grind
             · skip
               have hsv : servesF m.watch.config (m.cache.getD i zHeld).flow (m.cache.getD i zHeld).name = true := by grind
               refine D ?_
               refine cC (fun c7 => ?_) (fun c7 => ?_)
               · skip
                 have hbz : heldBad m i = 9 := by rw [hd]; grind
                 refine D ?_
                 refine E ?_
                 first
                 | exact trivial
                 | unfold muxFault
                   grind
               · skip
                 refine D ?_
                 refine kR (s_slices_ContainsFunc_Held (m.cache.take i) (by rw [List.length_take]; omega) 131 (eHeld (m.cache.getD i zHeld)) rfl (eqF (m.cache.getD i zHeld).flow) (by kernel_rfl) (fun b _ => s_impl_MuxFault_1 b (m.cache.getD i zHeld))) ?_
                 refine D ?_
                 refine cC (fun c8 => ?_) (fun c8 => ?_)
                 · skip
                   have hbz : heldBad m i = 7 := by rw [hd]; grind
                   refine D ?_
                   refine E ?_
                   first
                   | exact trivial
                   | unfold muxFault
                     grind
                 · skip
                   have hbz : heldBad m i = 0 := by rw [hd]; grind
                   refine D ?_
                   refine N (i+1) [] (hi := ?_) (hm := ?_)
                   · refine ⟨by omega, ?_⟩
                     rw [hie, hst, if_pos hbz]
                   · omega
         · skip
           have hs0 : scan (heldBad m) m.cache.length 0 = 0 := by rw [hie, scan_ge (by omega)]
           refine D ?_
           refine E ?_
           first
           | exact trivial
           | unfold muxFault
             grind
end Go.H
end
section
set_option maxRecDepth 100000
set_option maxHeartbeats 4000000
set_option cbv.maxSteps 4000000
set_option linter.unusedVariables false
set_option linter.unusedSimpArgs false
namespace Go.H
open Go Go.Proofs.Tryz
variable [Inv prog]
theorem s_spec_l5Copy (c : Config) (hx : limG 2097152 c) : SemX prog 120 [aS (eConfig false c)] [] [.agg (eConfig true c)] [] := by
 refine goF [(26, ⟨some 4, some 53248, some (37, true), none⟩)] [(1, 1, [8192], []), (1, 2, [], [36864]), (1, 4, [8192], []), (1, 5, [36864], [49152, 36864]), (1, 6, [], [53250]), (1, 7, [], [16384]), (1, 8, [16384], [16384])] [] func120 ?_
 obtain ⟨hb, hv, hV⟩ := id hx
 refine D ?_
 refine L (α := Nat) (fun i => [(4, .int .i64 i)]) (fun i => [(16384, .var [.int .i64 c.version, .ref 49152 0 c.backends.length, .ref 53250 0 i]), (53250, .arr ⟨4, (c.vips.take i).map (eVip true), 1, none⟩)]) (fun i => c.vips.length - i) (fun i => i ≤ c.vips.length) 0 [] (fun i hI => ?_)
 refine D ?_
 refine cC (fun c0 => ?_) (fun c0 => ?_)
 · skip
   have hnl : (c.vips.getD i zVip).names.length ≤ 2097152 := hV _ (getD_mem zVip (by omega))
   refine D ?_
   refine lp_next (i+1) [(53250,143360)] ?_ ?_ ?_
   · simp only [go_sem] <;> and_intros <;> first | with_reducible exact rfl | (first | omega | (rw [take_succ_map _ zVip (by omega)]; simp only [eVip]))
   · omega
   · omega
 · skip
   obtain rfl : i = c.vips.length := by omega
   refine D ?_
   exact E trivial
end Go.H
end
section
set_option maxRecDepth 100000
set_option maxHeartbeats 4000000
set_option cbv.maxSteps 4000000
set_option linter.unusedVariables false
set_option linter.unusedSimpArgs false
namespace Go.H
open Go Go.Proofs.Tryz
variable [Inv prog]
theorem s_spec_l14Copy (m : Mux) (hm : limX 2097152 m) : SemX prog 58 [aS (eMux false m)] [] [.agg (eMux true m)] [] := by
 refine goF [(44, ⟨some 4, some 90112, some (42, true), none⟩)] [(1, 1, [8192], []), (1, 3, [8192], []), (1, 6, [8192], []), (1, 9, [8192], []), (1, 10, [], [65537, 65538]), (1, 12, [], [73728]), (1, 14, [8192], []), (1, 15, [73728], [86016, 73728]), (1, 16, [], [90118]), (1, 17, [], [16384]), (1, 18, [16384], [16384]), (5, 1, [16384], []), (5, 2, [], [131072]), (5, 4, [8192], []), (5, 8, [131072], [155648, 131072]), (5, 9, [155648], [159744, 155648]), (5, 10, [90118, 159744], [163840, 90118, 159744]), (5, 12, [16384], [16384])] [] func58 ?_
 obtain ⟨hg, ht, htr, hc⟩ := id hm
 refine D ?_
 refine kD (s_spec_l5Copy m.watch.config hg) ?_
 refine D ?_
 refine L (α := Nat) (fun i => [(4, .int .i64 i)]) (fun i => [(16384, .var [.int .i64 m.address, .int .i64 m.now, .bool m.watch.ready, .int .i64 m.watch.config.version, .ref 65537 0 m.watch.config.backends.length, .ref 65538 0 m.watch.config.vips.length, .ref 90118 0 i, .ref 86016 0 m.cache.length]), (90118, .arr ⟨1, (m.tables.take i).map (eLI_i64 true), 1, none⟩)]) (fun i => m.tables.length - i) (fun i => i ≤ m.tables.length) 0 [] (fun i hI => ?_)
 refine D ?_
 refine cC (fun c0 => ?_) (fun c0 => ?_)
 · skip
   have htl := htr _ (getD_mem zLI_i64 (show i < m.tables.length by omega))
   refine D ?_
   refine lp_next (i+1) [(90118,163840)] ?_ ?_ ?_
   · simp only [go_sem] <;> and_intros <;> first | with_reducible exact rfl | (first | with_reducible exact rfl | omega | (rw [take_succ_map _ zLI_i64 (by omega)]; simp only [eLI_i64]))
   · omega
   · omega
 · skip
   obtain rfl : i = m.tables.length := by omega
   refine D ?_
   exact E trivial
end Go.H
end
section
set_option maxRecDepth 100000
set_option maxHeartbeats 4000000
set_option cbv.maxSteps 4000000
set_option linter.unusedVariables false
set_option linter.unusedSimpArgs false
namespace Go.H
open Go Go.Proofs.Tryz
variable [Inv prog]
theorem s_slices_Clone_int64 (xs : List Int) (hl : xs.length ≤ 2097152) : SemX prog 147 [aT (.sl false 1 (xs.map eI_i64))] [] [.one (.sl true 1 (xs.map eI_i64))] [] := by
 refine goF [] [] [] func147 ?_
 refine D ?_
 refine RW_isn (fun b => xs.map eI_i64 ≠ [] → b = false) rfl rfl (by simp only [go_sem] <;> and_intros <;> first | with_reducible exact rfl | omega | with_reducible trivial | (intros; simp_all; done) | grind) (fun b hb => ?_)
 refine D ?_
 refine cC (fun c0 => ?_) (fun c0 => ?_)
 · skip
   have hx : xs = [] := by
     cases xs with
     | nil => rfl
     | cons a l => have := hb (by simp); rw [this] at c0; cases c0
   subst hx
   refine D ?_
   exact E trivial
 · skip
   refine D ?_
   exact E trivial
end Go.H
end
section
set_option maxRecDepth 100000
set_option maxHeartbeats 4000000
set_option cbv.maxSteps 4000000
set_option linter.unusedVariables false
set_option linter.unusedSimpArgs false
namespace Go.H
open Go Go.Proofs.Tryz
variable [Inv prog]
theorem s_slices_Clone_Backend (xs : List Backend) (hl : xs.length ≤ 2097152) : SemX prog 212 [aT (.sl false 5 (xs.map eBackend))] [] [.one (.sl true 5 (xs.map eBackend))] [] := by
 refine goF [] [] [] func212 ?_
 refine D ?_
 refine RW_isn (fun b => xs.map eBackend ≠ [] → b = false) rfl rfl (by simp only [go_sem] <;> and_intros <;> first | with_reducible exact rfl | omega | with_reducible trivial | (intros; simp_all; done) | grind) (fun b hb => ?_)
 refine D ?_
 refine cC (fun c0 => ?_) (fun c0 => ?_)
 · skip
   have hx : xs = [] := by
     cases xs with
     | nil => rfl
     | cons a l => have := hb (by simp); rw [this] at c0; cases c0
   subst hx
   refine D ?_
   exact E trivial
 · skip
   refine D ?_
   exact E trivial
end Go.H
end
section
set_option maxRecDepth 100000
set_option maxHeartbeats 4000000
set_option cbv.maxSteps 4000000
set_option linter.unusedVariables false
set_option linter.unusedSimpArgs false
namespace Go.H
open Go Go.Proofs.Tryz
variable [Inv prog]
theorem s_slices_Clone_Vip (xs : List Vip) (hl : xs.length ≤ 2097152) : SemX prog 213 [aT (.sl false 4 (xs.map (eVip false)))] [] [.one (.sl true 4 (xs.map (eVip false)))] [] := by
 refine goF [] [] [] func213 ?_
 refine D ?_
 refine RW_isn (fun b => xs.map (eVip false) ≠ [] → b = false) rfl rfl (by simp only [go_sem] <;> and_intros <;> first | with_reducible exact rfl | omega | with_reducible trivial | (intros; simp_all; done) | grind) (fun b hb => ?_)
 refine D ?_
 refine cC (fun c0 => ?_) (fun c0 => ?_)
 · skip
   have hx : xs = [] := by
     cases xs with
     | nil => rfl
     | cons a l => have := hb (by simp); rw [this] at c0; cases c0
   subst hx
   refine D ?_
   exact E trivial
 · skip
   refine D ?_
   exact E trivial
end Go.H
end
section
set_option maxRecDepth 100000
set_option maxHeartbeats 4000000
set_option cbv.maxSteps 4000000
set_option linter.unusedVariables false
set_option linter.unusedSimpArgs false
namespace Go.H
open Go Go.Proofs.Tryz
variable [Inv prog]
theorem s_impl_Config_copied (c : Config) (hx : limG 2097152 c) : SemX prog 146 [aS (eConfig false c)] [] [.agg (eConfig true c)] [] := by
 refine goF [] [(1, 1, [8192], []), (1, 2, [], [32768]), (1, 4, [8192], []), (1, 5, [], [45056]), (1, 7, [8192], [8192]), (1, 9, [8192], [8192]), (5, 1, [8192], []), (5, 4, [20480], []), (5, 5, [45056], [110592]), (5, 6, [45056], []), (5, 8, [45056, 110592], [45056, 110592])] [] func146 ?_
 obtain ⟨hb, hv, hV⟩ := id hx
 refine D ?_
 refine kD (s_slices_Clone_Backend c.backends hb) ?_
 refine D ?_
 refine DW_callN (by kernel_rfl) (s_slices_Clone_Vip c.vips hv) false [] [] [] rfl rfl (by decide) trivial (by simp only [go_sem] <;> and_intros <;> first | with_reducible exact rfl | omega | with_reducible trivial | (intros; simp_all; done) | grind) (by first | rfl | (simp only [go_sem]; done)) (by simp only [go_sem]; exact rfl) ?_
 refine D ?_
 refine L (α := Nat) (fun i => [(16, .int .i64 i)]) (fun i => [(45056, .arr ⟨4, (c.vips.take i).map (eVip true) ++ (c.vips.drop i).map (eVip false), 1 + i, none⟩)]) (fun i => c.vips.length - i) (fun i => i ≤ c.vips.length) 0 [] (fun i hI => ?_)
 refine D ?_
 refine cC (fun c0 => ?_) (fun c0 => ?_)
 · skip
   have hg := mix_getD (eVip true) (eVip false) zVip (xs := c.vips) (i := i) (by omega)
   have hA := hg
   refine D ?_
   refine kD (s_slices_Clone_int64 (c.vips.getD i zVip).names (hV _ (getD_mem zVip (by omega)))) ?_
   refine D ?_
   refine lp_next (i+1) [] ?_ ?_ ?_
   · simp only [go_sem, hA] <;> and_intros <;> first | with_reducible exact rfl | (first | omega | (refine arr_eq ?_ (by omega); rw [← mix_set (eVip true) (eVip false) zVip (by omega)]; simp only [eVip]))
   · omega
   · omega
 · skip
   obtain rfl : i = c.vips.length := by omega
   refine D ?_
   refine E ?_
   first
   | exact trivial
   | rw [List.drop_length, List.map_nil, List.append_nil, List.take_of_length_le (by simp)]
end Go.H
end
section
set_option maxRecDepth 100000
set_option maxHeartbeats 4000000
set_option cbv.maxSteps 4000000
set_option linter.unusedVariables false
set_option linter.unusedSimpArgs false
namespace Go.H
open Go Go.Proofs.Tryz
variable [Inv prog]
theorem s_slices_Clone_Held (xs : List Held) (hl : xs.length ≤ 2097152) : SemX prog 148 [aT (.sl false 7 (xs.map eHeld))] [] [.one (.sl true 7 (xs.map eHeld))] [] := by
 refine goF [] [] [] func148 ?_
 refine D ?_
 refine RW_isn (fun b => xs.map eHeld ≠ [] → b = false) rfl rfl (by simp only [go_sem] <;> and_intros <;> first | with_reducible exact rfl | omega | with_reducible trivial | (intros; simp_all; done) | grind) (fun b hb => ?_)
 refine D ?_
 refine cC (fun c0 => ?_) (fun c0 => ?_)
 · skip
   have hx : xs = [] := by
     cases xs with
     | nil => rfl
     | cons a l => have := hb (by simp); rw [this] at c0; cases c0
   subst hx
   refine D ?_
   exact E trivial
 · skip
   refine D ?_
   exact E trivial
end Go.H
end
section
set_option maxRecDepth 100000
set_option maxHeartbeats 4000000
set_option cbv.maxSteps 4000000
set_option linter.unusedVariables false
set_option linter.unusedSimpArgs false
namespace Go.H
open Go Go.Proofs.Tryz
variable [Inv prog]
theorem s_impl_Mux_copied (m : Mux) (hm : limX 2097152 m) : SemX prog 73 [aS (eMux false m)] [] [.agg (eMux true m)] [] := by
 refine goF [] [] [] func73 ?_
 obtain ⟨hg, ht, htr, hc⟩ := id hm
 refine D ?_
 refine kR (s_impl_Config_copied m.watch.config hg) ?_
 refine D ?_
 refine L (α := Nat) (fun i => [(3, .ref 53248 0 i), (16, .int .i64 i)]) (fun i => [(53248, .arr ⟨1, (m.tables.take i).map (eLI_i64 true), 1, none⟩)]) (fun i => m.tables.length - i) (fun i => i ≤ m.tables.length) 0 [] (fun i hI => ?_)
 refine D ?_
 refine cC (fun c0 => ?_) (fun c0 => ?_)
 · skip
   have htl := htr _ (getD_mem zLI_i64 (show i < m.tables.length by omega))
   refine D ?_
   refine kR (s_slices_Clone_int64 (m.tables.getD i zLI_i64) htl) ?_
   refine D ?_
   refine lp_next (i+1) [(53248,102400)] ?_ ?_ ?_
   · simp only [go_sem] <;> and_intros <;> first | with_reducible exact rfl | (first | with_reducible exact rfl | omega | (rw [take_succ_map _ zLI_i64 (by omega)]; simp only [eLI_i64]))
   · omega
   · omega
 · skip
   obtain rfl : i = m.tables.length := by omega
   refine D ?_
   refine kR (s_slices_Clone_Held m.cache hc) ?_
   refine D ?_
   exact E trivial
end Go.H
end
