/- What the functions that the law reaches compute, each by its code, against pure functions. Conditions: those that each theorem states. -/
import Derived.Test.YtcecbcaencobgaaGreatAcW1
section
set_option maxRecDepth 100000
set_option maxHeartbeats 4000000
set_option cbv.maxSteps 4000000
set_option linter.unusedVariables false
set_option linter.unusedSimpArgs false
namespace Go.H
open Go Go.Proofs.Tryz
variable [Inv prog]
theorem s_impl_apply (c : Config) (hx1 : limG 2097151 c) (K : CfOk c) (x_ : Cmd) (hcf : cmdFault x_ = 0) : SemX prog 78 [aS (eConfig false c), aS (eCmd x_)] [] [.agg (eConfigResult true (applyR c x_))] [] := by
 refine goF [(70, ⟨some 1, none, none, none⟩)] [] [] func78 ?_
 have hx : limG 2097152 c := limG_mono (by omega) hx1
 obtain ⟨hb, hv, hV⟩ := id hx
 have hk9 : 1 ≤ x_.kind ∧ x_.kind ≤ 9 := by
   unfold cmdFault at hcf
   cases h : inR x_.kind 1 9 with
   | false => simp [h] at hcf
   | true => simpa [inR] using h
 have hk0 := K.v0
 have hk1 := K.v1
 have htv := turned_ver c x_
 have hA := htv
 refine D ?_
 refine cC (fun c0 => ?_) (fun c0 => ?_)
 · skip
   refine D ?_
   refine E ?_
   have he : applyR c x_ = badC 3 := by unfold applyR; grind
   simp [he, badC, zConfig]
 · skip
   refine D ?_
   refine cC (fun c1 => ?_) (fun c1 => ?_)
   · skip
     refine D ?_
     refine E ?_
     have he : applyR c x_ = badC 9 := by unfold applyR; grind
     simp [he, badC, zConfig]
   · skip
     refine D ?_
     refine kR (s_impl_Config_copied c hx) ?_
     refine D ?_
     refine kRk [24576] [] [106497, 106498] (s_impl_Config_does c hx1 K x_ hk9) ?_
     refine D ?_
     refine cC (fun c2 => ?_) (fun c2 => ?_)
     · skip
       refine D ?_
       refine E ?_
       have he : applyR c x_ = badC (turned c x_).1 := by unfold applyR; grind
       simp [he, badC, zConfig]
     · skip
       refine D ?_
       refine E ?_
       have he : applyR c x_ = ⟨0, { (turned c x_).2 with version := c.version + 1 }⟩ := by unfold applyR; grind
       simp [he, badC, zConfig]
end Go.H
end
section
set_option maxRecDepth 100000
set_option maxHeartbeats 4000000
set_option cbv.maxSteps 4000000
set_option linter.unusedVariables false
set_option linter.unusedSimpArgs false
namespace Go.H
open Go Go.Proofs.Tryz
variable [Inv prog]
theorem s_impl_ApplyCmd (c : Config) (hx1 : limG 2097151 c) (x_ : Cmd) : SemX prog 14 [aS (eConfig false c), aS (eCmd x_)] [] [.agg (eConfigResult true (applyCmd c x_))] [] := by
 refine goF [] [] [] func14 ?_
 have hx : limG 2097152 c := limG_mono (by omega) hx1
 refine D ?_
 refine kR (s_impl_ConfigFault c hx) ?_
 refine D ?_
 refine cC (fun c0 => ?_) (fun c0 => ?_)
 · skip
   have K := cf_ok c0
   refine D ?_
   refine kR (s_impl_CmdFault x_) ?_
   refine D ?_
   refine cC (fun c1 => ?_) (fun c1 => ?_)
   · skip
     refine D ?_
     refine E ?_
     have he : applyCmd c x_ = badC (cmdFault x_) := by unfold applyCmd; grind
     simp [he, badC, zConfig]
   · skip
     have hcf : cmdFault x_ = 0 := by omega
     refine D ?_
     refine kR (s_impl_apply c hx1 K x_ hcf) ?_
     refine D ?_
     refine E ?_
     have he : applyCmd c x_ = applyR c x_ := by unfold applyCmd; grind
     simp [he, badC, zConfig]
 · skip
   refine D ?_
   refine cC (fun c1 => ?_) (fun c1 => ?_)
   · skip
     refine D ?_
     refine E ?_
     have he : applyCmd c x_ = badC (configFault c) := by unfold applyCmd; grind
     simp [he, badC, zConfig]
   · skip
     exfalso
     grind
end Go.H
end
section
set_option maxRecDepth 100000
set_option maxHeartbeats 4000000
set_option cbv.maxSteps 4000000
set_option linter.unusedVariables false
set_option linter.unusedSimpArgs false
namespace Go.H
open Go Go.Proofs.Tryz
variable [Inv prog]
theorem s_laws_eqBackend (x : Backend) : SemX prog 143 [aS (eBackend x), aS (eBackend x)] [] [rB true] [] := by
 refine goF [] [] [] func143 ?_
 refine D ?_
 refine cF ?_
 refine D ?_
 refine cF ?_
 refine D ?_
 refine cF ?_
 refine D ?_
 refine cF ?_
 refine D ?_
 refine cF ?_
 refine D ?_
 exact E trivial
end Go.H
end
section
set_option maxRecDepth 100000
set_option maxHeartbeats 4000000
set_option cbv.maxSteps 4000000
set_option linter.unusedVariables false
set_option linter.unusedSimpArgs false
namespace Go.H
open Go Go.Proofs.Tryz
variable [Inv prog]
theorem s_laws_eqBackendS (xs : List Backend) (hl : xs.length ≤ 2097152)  : SemX prog 79 [aT (.sl false 5 (xs.map eBackend)), aT (.sl false 5 (xs.map eBackend))] [] [rB true] [] := by
 refine goF [] [] [] func79 ?_
 refine D ?_
 refine cF ?_
 refine D ?_
 refine L (α := Nat) (fun x => [(5, .int .i64 x)]) (fun x => []) (fun x => xs.length - x) (fun x => x ≤ xs.length) 0 [] (fun x hI => ?_)
 refine D ?_
 refine cC (fun c1 => ?_) (fun c1 => ?_)
 · skip
   refine D ?_
   refine kD (s_laws_eqBackend (xs.getD x zBackend)) ?_
   refine D ?_
   refine cF ?_
   refine D ?_
   exact N (x+1) []
 · skip
   refine D ?_
   exact E trivial
end Go.H
end
section
set_option maxRecDepth 100000
set_option maxHeartbeats 4000000
set_option cbv.maxSteps 4000000
set_option linter.unusedVariables false
set_option linter.unusedSimpArgs false
namespace Go.H
open Go Go.Proofs.Tryz
variable [Inv prog]
theorem s_laws_eqInt64S (xs : List Int) (hl : xs.length ≤ 2097152)  : SemX prog 186 [aT (.sl false 1 (xs.map eI_i64)), aT (.sl false 1 (xs.map eI_i64))] [] [rB true] [] := by
 refine goF [] [] [] func186 ?_
 refine D ?_
 refine cF ?_
 refine D ?_
 refine L (α := Nat) (fun x => [(5, .int .i64 x)]) (fun x => []) (fun x => xs.length - x) (fun x => x ≤ xs.length) 0 [] (fun x hI => ?_)
 refine D ?_
 refine cC (fun c1 => ?_) (fun c1 => ?_)
 · skip
   refine D ?_
   refine cF ?_
   refine D ?_
   exact N (x+1) []
 · skip
   refine D ?_
   exact E trivial
end Go.H
end
section
set_option maxRecDepth 100000
set_option maxHeartbeats 4000000
set_option cbv.maxSteps 4000000
set_option linter.unusedVariables false
set_option linter.unusedSimpArgs false
namespace Go.H
open Go Go.Proofs.Tryz
variable [Inv prog]
theorem s_laws_eqVip (x : Vip) (hx : limV 2097152 x) : SemX prog 144 [aS (eVip false x), aS (eVip false x)] [] [rB true] [] := by
 refine goF [] [] [] func144 ?_
 refine D ?_
 refine cF ?_
 refine D ?_
 refine cF ?_
 refine D ?_
 refine cF ?_
 refine D ?_
 refine kR (s_laws_eqInt64S x.names hx) ?_
 refine D ?_
 refine cF ?_
 refine D ?_
 exact E trivial
end Go.H
end
section
set_option maxRecDepth 100000
set_option maxHeartbeats 4000000
set_option cbv.maxSteps 4000000
set_option linter.unusedVariables false
set_option linter.unusedSimpArgs false
namespace Go.H
open Go Go.Proofs.Tryz
variable [Inv prog]
theorem s_laws_eqVipS (xs : List Vip) (hl : xs.length ≤ 2097152) (hm : ∀ y ∈ xs, limV 2097152 y) : SemX prog 80 [aT (.sl false 4 (xs.map (eVip false))), aT (.sl false 4 (xs.map (eVip false)))] [] [rB true] [] := by
 refine goF [] [] [] func80 ?_
 refine D ?_
 refine cF ?_
 refine D ?_
 refine L (α := Nat) (fun x => [(5, .int .i64 x)]) (fun x => []) (fun x => xs.length - x) (fun x => x ≤ xs.length) 0 [] (fun x hI => ?_)
 refine D ?_
 refine cC (fun c1 => ?_) (fun c1 => ?_)
 · skip
   refine D ?_
   refine kD (s_laws_eqVip (xs.getD x zVip) ((all_getD zVip).2 hm x (by omega))) ?_
   refine D ?_
   refine cF ?_
   refine D ?_
   exact N (x+1) []
 · skip
   refine D ?_
   exact E trivial
end Go.H
end
section
set_option maxRecDepth 100000
set_option maxHeartbeats 4000000
set_option cbv.maxSteps 4000000
set_option linter.unusedVariables false
set_option linter.unusedSimpArgs false
namespace Go.H
open Go Go.Proofs.Tryz
variable [Inv prog]
theorem s_laws_eqConfig (x : Config) (hx : limG 2097152 x) : SemX prog 16 [aS (eConfig false x), aS (eConfig false x)] [] [rB true] [] := by
 refine goF [] [] [] func16 ?_
 refine D ?_
 refine cF ?_
 refine D ?_
 refine kR (s_laws_eqBackendS x.backends hx.1) ?_
 refine D ?_
 refine cF ?_
 refine D ?_
 refine kR (s_laws_eqVipS x.vips hx.2.1 hx.2.2) ?_
 refine D ?_
 refine cF ?_
 refine D ?_
 exact E trivial
end Go.H
end
section
set_option maxRecDepth 100000
set_option maxHeartbeats 4000000
set_option cbv.maxSteps 4000000
set_option linter.unusedVariables false
set_option linter.unusedSimpArgs false
namespace Go.H
open Go Go.Proofs.Tryz
variable [Inv prog]
theorem s_laws_eqConfigResult (x : ConfigResult) (hx : limG 2097152 x.config) : SemX prog 15 [aS (eConfigResult false x), aS (eConfigResult false x)] [] [rB true] [] := by
 refine goF [] [] [] func15 ?_
 refine D ?_
 refine cF ?_
 refine D ?_
 refine kR (s_laws_eqConfig x.config hx) ?_
 refine D ?_
 refine cF ?_
 refine D ?_
 exact E trivial
end Go.H
end
section
set_option maxRecDepth 100000
set_option maxHeartbeats 4000000
set_option cbv.maxSteps 4000000
set_option linter.unusedVariables false
set_option linter.unusedSimpArgs false
namespace Go.H
open Go Go.Proofs.Tryz
variable [Inv prog]
section
attribute [local go_sem] List.set_set mkL_length
theorem s_laws_markBackendS (xs : List Backend) (k : Int) (hk : 0 ≤ k) (hl : xs.length ≤ 2097152) (hb : mkK sB xs k ≤ 9000000000000000000) : SemX prog 81 [.one (.arr 0), aI k] [.arr 5 (xs.map eBackend)] [rI (mkK sB xs k)] [.arr 5 ((mkL mB sB xs k).map eBackend)] := by
 refine goF [] [] [] func81 ?_
 refine D ?_
 refine L (α := Nat) (fun x => [(1, .int .i64 (mkK sB (xs.take x) k)), (5, .int .i64 x)]) (fun x => [(1000000, .arr ⟨5, (mkL mB sB (xs.take x) k ++ xs.drop x).map eBackend, 1 + 5 * x, none⟩)]) (fun x => xs.length - x) (fun x => x ≤ xs.length) 0 [] (fun x hI => ?_) (by simp only [go_sem] <;> and_intros <;> first | with_reducible exact rfl | (first | omega | (simp [mkL, mkK]; done)))
 refine D ?_
 refine cC (fun c0 => ?_) (fun c0 => ?_)
 · skip
   have hat := mkK_at sB_up zBackend (xs := xs) (i := x) (by omega) hb
   simp only [sB] at hat
   have hg : ∀ r, (((mkL mB sB (xs.take x) k ++ xs.drop x).map eBackend).set x r).getD x dBackend = r := fun r => getD_set_self (by simp [mkL_length]; omega) r _
   have hA := And.intro hg ((mk_getD mB sB zBackend k (show x < xs.length by omega)))
   refine D ?_
   refine lp_next (x+1) [] ?_ ?_ ?_
   · simp only [go_sem, hA] <;> and_intros <;> first | with_reducible exact rfl | (first | omega | (refine int_eq ?_; rw [mkK_succ sB zBackend (by omega)]; rfl) | (refine arr_eq ?_ (by omega); rw [← mk_step eBackend mB sB zBackend (by omega)]; simp only [eBackend, mB]))
   · omega
   · omega
 · skip
   obtain rfl : x = xs.length := by omega
   refine D ?_
   refine E ?_
   first
   | exact trivial
   | simp only [go_sem, List.drop_length, mkL_length]; done
   | try simp only [go_sem, List.drop_length, mkL_length]
     simp [mkL_length]
end
end Go.H
end
section
set_option maxRecDepth 100000
set_option maxHeartbeats 4000000
set_option cbv.maxSteps 4000000
set_option linter.unusedVariables false
set_option linter.unusedSimpArgs false
namespace Go.H
open Go Go.Proofs.Tryz
variable [Inv prog]
section
attribute [local go_sem] List.set_set mkL_length
theorem s_laws_markInt64S (xs : List Int) (k : Int) (hk : 0 ≤ k) (hl : xs.length ≤ 2097152) (hb : mkK sI xs k ≤ 9000000000000000000) : SemX prog 145 [.one (.arr 0), aI k] [.arr 1 (xs.map eI_i64)] [rI (mkK sI xs k)] [.arr 1 ((mkL mI sI xs k).map eI_i64)] := by
 refine goF [] [] [] func145 ?_
 refine D ?_
 refine L (α := Nat) (fun x => [(1, .int .i64 (mkK sI (xs.take x) k)), (5, .int .i64 x)]) (fun x => [(1000000, .arr ⟨1, (mkL mI sI (xs.take x) k ++ xs.drop x).map eI_i64, 1 + 1 * x, none⟩)]) (fun x => xs.length - x) (fun x => x ≤ xs.length) 0 [] (fun x hI => ?_) (by simp only [go_sem] <;> and_intros <;> first | with_reducible exact rfl | (first | omega | (simp [mkL, mkK]; done)))
 refine D ?_
 refine cC (fun c0 => ?_) (fun c0 => ?_)
 · skip
   have hat := mkK_at sI_up zI_i64 (xs := xs) (i := x) (by omega) hb
   simp only [sI] at hat
   have hg : ∀ r, (((mkL mI sI (xs.take x) k ++ xs.drop x).map eI_i64).set x r).getD x dI_i64 = r := fun r => getD_set_self (by simp [mkL_length]; omega) r _
   have hA := And.intro hg ((mk_getD mI sI zI_i64 k (show x < xs.length by omega)))
   refine D ?_
   refine lp_next (x+1) [] ?_ ?_ ?_
   · simp only [go_sem, hA] <;> and_intros <;> first | with_reducible exact rfl | (first | omega | (refine int_eq ?_; rw [mkK_succ sI zI_i64 (by omega)]; rfl) | (refine arr_eq ?_ (by omega); rw [← mk_step eI_i64 mI sI zI_i64 (by omega)]; simp only [eI_i64, mI]))
   · omega
   · omega
 · skip
   obtain rfl : x = xs.length := by omega
   refine D ?_
   refine E ?_
   first
   | exact trivial
   | simp only [go_sem, List.drop_length, mkL_length]; done
   | try simp only [go_sem, List.drop_length, mkL_length]
     simp [mkL_length]
end
end Go.H
end
section
set_option maxRecDepth 100000
set_option maxHeartbeats 4000000
set_option cbv.maxSteps 4000000
set_option linter.unusedVariables false
set_option linter.unusedSimpArgs false
namespace Go.H
open Go Go.Proofs.Tryz
variable [Inv prog]
section
attribute [local go_sem] List.set_set mkL_length
theorem s_laws_markVipS (xs : List Vip) (k : Int) (hk : 0 ≤ k) (hl : xs.length ≤ 2097152) (hb : mkK sV xs k ≤ 9000000000000000000) (hm : ∀ y ∈ xs, limV 2097152 y) : SemX prog 82 [.one (.arr 0), aI k] [.arr 4 (xs.map (eVip true))] [rI (mkK sV xs k)] [.arr 4 ((mkL mV sV xs k).map (eVip true))] := by
 refine goF [(76, ⟨some 3, some 155648, none, none⟩)] [] [] func82 ?_
 refine D ?_
 refine L (α := Nat) (fun x => [(1, .int .i64 (mkK sV (xs.take x) k)), (5, .int .i64 x)]) (fun x => [(1000000, .arr ⟨4, (mkL mV sV (xs.take x) k ++ xs.drop x).map (eVip true), 1 + 5 * x, none⟩)]) (fun x => xs.length - x) (fun x => x ≤ xs.length) 0 [] (fun x hI => ?_) (by simp only [go_sem] <;> and_intros <;> first | with_reducible exact rfl | (first | omega | (simp [mkL, mkK]; done)))
 refine D ?_
 refine cC (fun c0 => ?_) (fun c0 => ?_)
 · skip
   have hat := mkK_at sV_up zVip (xs := xs) (i := x) (by omega) hb
   simp only [sV] at hat
   have hg : ∀ r, (((mkL mV sV (xs.take x) k ++ xs.drop x).map (eVip true)).set x r).getD x (dVip true) = r := fun r => getD_set_self (by simp [mkL_length]; omega) r _
   have hup := Int.le_trans (mkK_mono sI_up _ _) hat.2
   have hA := And.intro hg ((mk_getD mV sV zVip k (show x < xs.length by omega)))
   refine D ?_
   refine RW_callBN 37 (dVip true) (by kernel_rfl) (s_laws_markInt64S (xs.getD x zVip).names _ (by omega) (hm _ (getD_mem zVip (by omega))) hat.2) true [155648] [] [] rfl rfl (by simp only [go_sem, hA] <;> and_intros <;> first | with_reducible exact rfl | omega | with_reducible trivial | (intros; simp_all; done) | grind) (by exact rfl) (by simp only [go_sem, hA] <;> and_intros <;> first | with_reducible exact rfl | omega | with_reducible trivial | (intros; simp_all; done) | grind) (by first | rfl | (simp only [go_sem, hA]; done)) (by simp only [go_sem, hA]; exact rfl) ?_
   refine D ?_
   refine lp_next (x+1) [] ?_ ?_ ?_
   · simp only [go_sem, hA] <;> and_intros <;> first | with_reducible exact rfl | (first | omega | (refine int_eq ?_; rw [mkK_succ sV zVip (by omega)]; rfl) | (refine arr_eq ?_ (by omega); rw [← mk_step (eVip true) mV sV zVip (by omega)]; simp only [eVip, mV]))
   · omega
   · omega
 · skip
   obtain rfl : x = xs.length := by omega
   refine D ?_
   refine E ?_
   first
   | exact trivial
   | simp only [go_sem, List.drop_length, mkL_length]; done
   | try simp only [go_sem, List.drop_length, mkL_length]
     simp [mkL_length]
end
end Go.H
end
section
set_option maxRecDepth 100000
set_option maxHeartbeats 4000000
set_option cbv.maxSteps 4000000
set_option linter.unusedVariables false
set_option linter.unusedSimpArgs false
namespace Go.H
open Go Go.Proofs.Tryz
variable [Inv prog]
theorem s_laws_markConfig (x : Config) (hx : limG 2097152 x) (k : Int) (hk : 0 ≤ k) (hb : sG x k ≤ 9000000000000000000) : SemX prog 17 [.agg [.t (.int .i64 x.version), .arr 0, .arr 1], aI k] [.arr 5 (x.backends.map eBackend), .arr 4 (x.vips.map (eVip true))] [rI (sG x k)] [.arr 5 ((mG x k).backends.map eBackend), .arr 4 ((mG x k).vips.map (eVip true))] := by
 refine goF [] [] [] func17 ?_
 simp only [sG] at hb
 have u1 := Int.le_trans (mkK_mono sV_up _ _) hb
 have v1 := mkK_mono sB_up x.backends k
 have v2 := mkK_mono sV_up x.vips (mkK sB x.backends k)
 refine D ?_
 refine kRk [1000000] [] [] (s_laws_markBackendS x.backends k hk hx.1 u1) ?_
 refine D ?_
 refine kRk [1001000] [] [] (s_laws_markVipS x.vips _ (by omega) hx.2.1 hb hx.2.2) ?_
 refine D ?_
 refine E ?_
 first
 | exact trivial
 | simp only [go_sem, mG, sG, mkL_length]
end Go.H
end
section
set_option maxRecDepth 100000
set_option maxHeartbeats 4000000
set_option cbv.maxSteps 4000000
set_option linter.unusedVariables false
set_option linter.unusedSimpArgs false
namespace Go.H
open Go Go.Proofs.Tryz
variable [Inv prog]
theorem s_laws_markConfigResult (x : Config) (c : Int) (hx : limG 2097152 x) (k : Int) (hk : 0 ≤ k) (hb : sG x k ≤ 9000000000000000000) : SemX prog 18 [.agg [.t (.int .i64 c), .t (.int .i64 x.version), .arr 0, .arr 1], aI k] [.arr 5 (x.backends.map eBackend), .arr 4 (x.vips.map (eVip true))] [rI (sG x k)] [.arr 5 ((mG x k).backends.map eBackend), .arr 4 ((mG x k).vips.map (eVip true))] := by
 refine goF [] [] [] func18 ?_
 refine D ?_
 refine kRk [1000000, 1001000] [] [] (s_laws_markConfig x hx k hk hb) ?_
 refine D ?_
 refine E ?_
 first
 | exact trivial
 | simp only [go_sem, mG, mkL_length]
end Go.H
end
section
set_option maxRecDepth 100000
set_option maxHeartbeats 4000000
set_option cbv.maxSteps 4000000
set_option linter.unusedVariables false
set_option linter.unusedSimpArgs false
namespace Go.H
open Go Go.Proofs.Tryz
variable [Inv prog]
section
attribute [local go_sem] mkL_length mB
theorem s_laws_heldBackendS (xs : List Backend) (k : Int) (hk : 0 ≤ k) (hl : xs.length ≤ 2097152) (hb : mkK sB xs k ≤ 9000000000000000000)  : SemX prog 146 [aT (.sl false 5 ((mkL mB sB xs k).map eBackend)), aI k] [] [rI (mkK sB xs k)] [] := by
 refine goF [] [] [] func146 ?_
 refine D ?_
 refine L (α := Nat) (fun x => [(1, .int .i64 (mkK sB (xs.take x) k)), (5, .int .i64 x)]) (fun x => []) (fun x => xs.length - x) (fun x => x ≤ xs.length) 0 [] (fun x hI => ?_) (by simp only [go_sem] <;> and_intros <;> first | with_reducible exact rfl | (first | omega | (simp [mkK]; done)))
 refine D ?_
 refine cC (fun c0 => ?_) (fun c0 => ?_)
 · skip
   have hat := mkK_at sB_up zBackend (xs := xs) (i := x) (by omega) hb
   simp only [sB] at hat
   have hg := mkL_getD mB sB zBackend k (show x < xs.length by omega)
   have hA := hg
   refine D ?_
   refine cF ?_
   refine D ?_
   refine cF ?_
   refine D ?_
   refine cF ?_
   refine D ?_
   refine cF ?_
   refine D ?_
   refine cF ?_
   refine D ?_
   refine lp_next (x+1) [] ?_ ?_ ?_
   · simp only [go_sem, hA] <;> and_intros <;> first | with_reducible exact rfl | (first | omega | (refine int_eq ?_; rw [mkK_succ sB zBackend (by omega)]; rfl))
   · omega
   · omega
 · skip
   obtain rfl : x = xs.length := by omega
   refine D ?_
   refine E ?_
   first
   | exact trivial
   | simp [mkL_length]
end
end Go.H
end
section
set_option maxRecDepth 100000
set_option maxHeartbeats 4000000
set_option cbv.maxSteps 4000000
set_option linter.unusedVariables false
set_option linter.unusedSimpArgs false
namespace Go.H
open Go Go.Proofs.Tryz
variable [Inv prog]
section
attribute [local go_sem] mkL_length mI
theorem s_laws_heldInt64S (xs : List Int) (k : Int) (hk : 0 ≤ k) (hl : xs.length ≤ 2097152) (hb : mkK sI xs k ≤ 9000000000000000000)  : SemX prog 187 [aT (.sl false 1 ((mkL mI sI xs k).map eI_i64)), aI k] [] [rI (mkK sI xs k)] [] := by
 refine goF [] [] [] func187 ?_
 refine D ?_
 refine L (α := Nat) (fun x => [(1, .int .i64 (mkK sI (xs.take x) k)), (5, .int .i64 x)]) (fun x => []) (fun x => xs.length - x) (fun x => x ≤ xs.length) 0 [] (fun x hI => ?_) (by simp only [go_sem] <;> and_intros <;> first | with_reducible exact rfl | (first | omega | (simp [mkK]; done)))
 refine D ?_
 refine cC (fun c0 => ?_) (fun c0 => ?_)
 · skip
   have hat := mkK_at sI_up zI_i64 (xs := xs) (i := x) (by omega) hb
   simp only [sI] at hat
   have hg := mkL_getD mI sI zI_i64 k (show x < xs.length by omega)
   have hA := hg
   refine D ?_
   refine cF ?_
   refine D ?_
   refine lp_next (x+1) [] ?_ ?_ ?_
   · simp only [go_sem, hA] <;> and_intros <;> first | with_reducible exact rfl | (first | omega | (refine int_eq ?_; rw [mkK_succ sI zI_i64 (by omega)]; rfl))
   · omega
   · omega
 · skip
   obtain rfl : x = xs.length := by omega
   refine D ?_
   refine E ?_
   first
   | exact trivial
   | simp [mkL_length]
end
end Go.H
end
section
set_option maxRecDepth 100000
set_option maxHeartbeats 4000000
set_option cbv.maxSteps 4000000
set_option linter.unusedVariables false
set_option linter.unusedSimpArgs false
namespace Go.H
open Go Go.Proofs.Tryz
variable [Inv prog]
section
attribute [local go_sem] mkL_length mV
theorem s_laws_heldVipS (xs : List Vip) (k : Int) (hk : 0 ≤ k) (hl : xs.length ≤ 2097152) (hb : mkK sV xs k ≤ 9000000000000000000) (hm : ∀ y ∈ xs, limV 2097152 y) : SemX prog 147 [aT (.sl false 4 ((mkL mV sV xs k).map (eVip false))), aI k] [] [rI (mkK sV xs k)] [] := by
 refine goF [] [] [] func147 ?_
 refine D ?_
 refine L (α := Nat) (fun x => [(1, .int .i64 (mkK sV (xs.take x) k)), (5, .int .i64 x)]) (fun x => []) (fun x => xs.length - x) (fun x => x ≤ xs.length) 0 [] (fun x hI => ?_) (by simp only [go_sem] <;> and_intros <;> first | with_reducible exact rfl | (first | omega | (simp [mkK]; done)))
 refine D ?_
 refine cC (fun c0 => ?_) (fun c0 => ?_)
 · skip
   have hat := mkK_at sV_up zVip (xs := xs) (i := x) (by omega) hb
   simp only [sV] at hat
   have hg := mkL_getD mV sV zVip k (show x < xs.length by omega)
   have hup := Int.le_trans (mkK_mono sI_up _ _) hat.2
   have v1 := mkK_mono sI_up (xs.getD x zVip).names (mkK sV (xs.take x) k + 1 + 1 + 1)
   have hA := hg
   refine D ?_
   refine cF ?_
   refine D ?_
   refine cF ?_
   refine D ?_
   refine cF ?_
   refine D ?_
   refine kR (s_laws_heldInt64S (xs.getD x zVip).names _ (by omega) (hm _ (getD_mem zVip (by omega))) hat.2) ?_
   refine D ?_
   refine cC (fun c4 => ?_) (fun c4 => ?_)
   · skip
     omega
   · skip
     refine D ?_
     refine lp_next (x+1) [] ?_ ?_ ?_
     · simp only [go_sem, hA] <;> and_intros <;> first | with_reducible exact rfl | (first | omega | (refine int_eq ?_; rw [mkK_succ sV zVip (by omega)]; rfl))
     · omega
     · omega
 · skip
   obtain rfl : x = xs.length := by omega
   refine D ?_
   refine E ?_
   first
   | exact trivial
   | simp [mkL_length]
end
end Go.H
end
section
set_option maxRecDepth 100000
set_option maxHeartbeats 4000000
set_option cbv.maxSteps 4000000
set_option linter.unusedVariables false
set_option linter.unusedSimpArgs false
namespace Go.H
open Go Go.Proofs.Tryz
variable [Inv prog]
section
attribute [local go_sem] mG
theorem s_laws_heldConfig (x : Config) (hx : limG 2097152 x) (k : Int) (hk : 0 ≤ k) (hb : sG x k ≤ 9000000000000000000) : SemX prog 83 [aS (eConfig false (mG x k)), aI k] [] [rI (sG x k)] [] := by
 refine goF [] [] [] func83 ?_
 simp only [sG] at hb
 have u1 := Int.le_trans (mkK_mono sV_up _ _) hb
 have v1 := mkK_mono sB_up x.backends k
 have v2 := mkK_mono sV_up x.vips (mkK sB x.backends k)
 refine D ?_
 refine kR (s_laws_heldBackendS x.backends k hk hx.1 u1) ?_
 refine D ?_
 refine cC (fun c0 => ?_) (fun c0 => ?_)
 · skip
   omega
 · skip
   refine D ?_
   refine kR (s_laws_heldVipS x.vips _ (by omega) hx.2.1 hb hx.2.2) ?_
   refine D ?_
   refine cC (fun c1 => ?_) (fun c1 => ?_)
   · skip
     omega
   · skip
     refine D ?_
     refine E ?_
     first
     | exact trivial
     | simp only [go_sem, sG]
end
end Go.H
end
section
set_option maxRecDepth 100000
set_option maxHeartbeats 4000000
set_option cbv.maxSteps 4000000
set_option linter.unusedVariables false
set_option linter.unusedSimpArgs false
namespace Go.H
open Go Go.Proofs.Tryz
variable [Inv prog]
section
attribute [local go_sem] mG
theorem s_laws_heldConfigResult (x : Config) (c : Int) (hx : limG 2097152 x) (k : Int) (hk : 0 ≤ k) (hb : sG x k ≤ 9000000000000000000) : SemX prog 19 [aS (eConfigResult false ⟨c, mG x k⟩), aI k] [] [rI (sG x k)] [] := by
 refine goF [] [] [] func19 ?_
 refine D ?_
 refine kR (s_laws_heldConfig x hx k hk hb) ?_
 refine D ?_
 refine cC (fun c0 => ?_) (fun c0 => ?_)
 · skip
   have := sG_up x k
   omega
 · skip
   refine D ?_
   exact E trivial
end
end Go.H
end
section
set_option maxRecDepth 100000
set_option maxHeartbeats 4000000
set_option cbv.maxSteps 4000000
set_option linter.unusedVariables false
set_option linter.unusedSimpArgs false
namespace Go.H
open Go Go.Proofs.Tryz
variable [Inv prog]
section
attribute [local go_sem] mG mkL_length mkL_take
theorem s_laws_FnExactApplyCmd (c : Config) (hb : c.backends.length ≤ 9223372036854775807) (hv : c.vips.length ≤ 9223372036854775807) (hV : ∀ i < c.vips.length, (c.vips.getD i zVip).names.length ≤ 9223372036854775807) (x_ : Cmd) : SemX prog 3 [aS (eConfig false c), aS (eCmd x_)] [] [rB true] [] := by
 refine goF [] [(5, 0, [12288], []), (5, 1, [], [81921, 81922]), (5, 2, [16384], []), (5, 4, [81921, 81922], [94210, 94211]), (5, 5, [], [28672]), (5, 6, [28672], [28672]), (7, 0, [32768], []), (7, 1, [16384], []), (7, 3, [102401, 102402], [118786, 118787]), (7, 4, [], [36864]), (7, 5, [36864], [36864]), (10, 0, [32768], []), (10, 1, [12288], []), (10, 2, [], [147457, 147458]), (10, 3, [102401, 102402, 147457, 147458], []), (24, 0, [12288], []), (24, 1, [], [253953, 253954]), (24, 2, [16384], []), (24, 4, [253953, 253954], [266242, 266243]), (24, 5, [], [53248]), (24, 6, [53248], [53248])] [] func3 ?_
 refine D ?_
 refine kR (s_laws_szConfig c 1048576 (by omega) (by omega) hb hv hV) ?_
 refine D ?_
 refine cC (fun c0 => ?_) (fun c0 => ?_)
 · skip
   refine D ?_
   exact E trivial
 · skip
   have hz : 0 ≤ szConfig c 1048576 := by simp at c0; omega
   have hx0 := szConfig_lim hz (by omega)
   have hx : limG 2097152 c := limG_mono (by omega) hx0
   have hx1 : limG 2097151 c := limG_mono (by omega) hx0
   have hr : limG 2097152 (applyCmd c x_).config := limG_mono (by omega) (applyCmd_lim hx0 x_)
   have hbx := sG_bd hx (k := 1) (by omega)
   have hbr := sG_bd hr (k := 1) (by omega)
   have hux := sG_up c 1
   have hur := sG_up (applyCmd c x_).config 1
   refine D ?_
   refine kD (s_laws_toConfig c hx) ?_
   refine D ?_
   refine kD (s_laws_toCmd x_) ?_
   refine D ?_
   refine kD (s_spec_ApplyCmd c hx1 x_) ?_
   refine D ?_
   refine kR (s_laws_toConfig c hx) ?_
   refine D ?_
   refine kD (s_laws_toCmd x_) ?_
   refine D ?_
   refine kD (s_impl_ApplyCmd c hx1 x_) ?_
   refine D ?_
   refine kR (s_laws_eqConfigResult (applyCmd c x_) hr) ?_
   refine D ?_
   refine cF ?_
   refine D ?_
   refine kD (s_laws_toConfig c hx) ?_
   refine D ?_
   refine kD (s_laws_eqConfig c hx) ?_
   refine D ?_
   refine cF ?_
   refine D ?_
   refine kRk [102401, 102402] [] [] (s_laws_markConfig c hx 1 (by omega) (by omega)) ?_
   refine D ?_
   refine kRg (s_laws_eqConfigResult (applyCmd c x_) hr) ?_
   refine D ?_
   refine cC (fun c3 => ?_) (fun c3 => ?_)
   · skip
     exfalso
     revert c3
     simp [-List.getD_eq_getElem?_getD]
     omega
   · skip
     refine D ?_
     refine kRk [118786, 118787] [] [] (s_laws_markConfigResult (applyCmd c x_).config (applyCmd c x_).code hr 1 (by omega) (by omega)) ?_
     refine D ?_
     refine kR (s_laws_heldConfigResult (applyCmd c x_).config (applyCmd c x_).code hr 1 (by omega) (by omega)) ?_
     refine D ?_
     refine cC (fun c4 => ?_) (fun c4 => ?_)
     · skip
       exfalso
       revert c4
       simp [-List.getD_eq_getElem?_getD]
       omega
     · skip
       refine D ?_
       refine cF ?_
       refine D ?_
       refine kD (s_laws_toConfig c hx) ?_
       refine D ?_
       refine kD (s_laws_toCmd x_) ?_
       refine D ?_
       refine kD (s_impl_ApplyCmd c hx1 x_) ?_
       refine D ?_
       refine kR (s_laws_eqConfigResult (applyCmd c x_) hr) ?_
       refine D ?_
       refine cF ?_
       refine D ?_
       refine kR (s_laws_heldConfigResult (applyCmd c x_).config (applyCmd c x_).code hr 1 (by omega) (by omega)) ?_
       refine D ?_
       refine cC (fun c7 => ?_) (fun c7 => ?_)
       · skip
         exfalso
         revert c7
         simp [-List.getD_eq_getElem?_getD]
         omega
       · skip
         refine D ?_
         refine cF ?_
         refine D ?_
         exact E trivial
end
end Go.H
end
