/- What the functions that the law reaches compute, each by its code, against pure functions. Conditions: those that each theorem states. -/
import Derived.Test.YtcecbcaencobgaaGreatAeW1
section
set_option maxRecDepth 100000
set_option maxHeartbeats 4000000
set_option cbv.maxSteps 4000000
set_option linter.unusedVariables false
set_option linter.unusedSimpArgs false
namespace Go.H
open Go Go.Proofs.Tryz
variable [Inv prog]
theorem s_spec_ApplyEntry (m : Machine) (hm1 : limM 2097151 m) (x_ : Entry) : SemX prog 44 [aS (eMachine false m), aS (eEntry x_)] [] [.agg (eMachineResult true (applyEntry m x_))] [] := by
 refine goF [] [] [] func44 ?_
 have hm : limM 2097152 m := ⟨limG_mono (by omega) hm1.1, Nat.le_succ_of_le hm1.2⟩
 refine D ?_
 refine kR (s_spec_l11Fault m hm) ?_
 refine D ?_
 refine cC (fun c0 => ?_) (fun c0 => ?_)
 · skip
   refine D ?_
   refine E ?_
   have he : applyEntry m x_ = badM (machineFault m) := by unfold applyEntry; grind
   simp [he, badM, zMachine, zConfig]
 · skip
   have h0 : machineFault m = 0 := by omega
   have K := (ma_ok h0).2
   refine D ?_
   refine kR (s_spec_EntryFault x_) ?_
   refine D ?_
   refine cC (fun c1 => ?_) (fun c1 => ?_)
   · skip
     refine D ?_
     refine E ?_
     have he : applyEntry m x_ = badM (entryFault x_) := by unfold applyEntry; grind
     simp [he, badM, zMachine, zConfig]
   · skip
     have h1 : entryFault x_ = 0 := by omega
     have hcf := fun h => ent_cmd h1 h
     refine D ?_
     refine kR (s_spec_l11Apply m hm1 K x_ hcf) ?_
     refine D ?_
     refine E ?_
     have he : applyEntry m x_ = enterM m x_ := by unfold applyEntry; grind
     simp [he, badM, zMachine, zConfig]
end Go.H
end
section
set_option maxRecDepth 100000
set_option maxHeartbeats 4000000
set_option cbv.maxSteps 4000000
set_option linter.unusedVariables false
set_option linter.unusedSimpArgs false
namespace Go.H
open Go Go.Proofs.Tryz
variable [Inv prog]
theorem s_laws_toBackend (x : Backend) : SemX prog 128 [aS (eBackend x)] [] [.agg (eBackend x)] [] := by
 refine goF [] [] [] func128 ?_
 refine D ?_
 exact E trivial
end Go.H
end
section
set_option maxRecDepth 100000
set_option maxHeartbeats 4000000
set_option cbv.maxSteps 4000000
set_option linter.unusedVariables false
set_option linter.unusedSimpArgs false
namespace Go.H
open Go Go.Proofs.Tryz
variable [Inv prog]
theorem s_laws_toBackendS (xs : List Backend) (hl : xs.length ≤ 2097152)  : SemX prog 74 [aT (.sl false 5 (xs.map eBackend))] [] [.one (.sl true 5 (xs.map eBackend))] [] := by
 refine goF [] [] [] func74 ?_
 refine D ?_
 refine L (α := Nat) (fun x => [(4, .int .i64 x)]) (fun x => [(32768, .arr ⟨5, (xs.take x).map eBackend ++ List.replicate (xs.length - x) dBackend, x + 1, none⟩)]) (fun x => xs.length - x) (fun x => x ≤ xs.length) 0 [] (fun x hI => ?_) (by simp only [go_sem] <;> and_intros <;> first | with_reducible exact rfl | (first | omega | (simp [dBackend, eBackend, zBackend, zCmd, zEntry]; done)))
 refine D ?_
 refine cC (fun c0 => ?_) (fun c0 => ?_)
 · skip
   have hg := getD_bld (l := (xs.take x).map eBackend) (n := xs.length - x) (d := dBackend) (i := x) (by simp; omega)
   have hA := hg
   refine D ?_
   refine kR (s_laws_toBackend (xs.getD x zBackend)) ?_
   refine D ?_
   refine lp_next (x+1) [] ?_ ?_ ?_
   · simp only [go_sem, hA] <;> and_intros <;> first | with_reducible exact rfl | (first | omega | (rw [← bld_step eBackend zBackend dBackend (by omega)]; simp only [eBackend]))
   · omega
   · omega
 · skip
   obtain rfl : x = xs.length := by omega
   refine D ?_
   exact E trivial
end Go.H
end
section
set_option maxRecDepth 100000
set_option maxHeartbeats 4000000
set_option cbv.maxSteps 4000000
set_option linter.unusedVariables false
set_option linter.unusedSimpArgs false
namespace Go.H
open Go Go.Proofs.Tryz
variable [Inv prog]
theorem s_laws_toInt64S (xs : List Int) (hl : xs.length ≤ 2097152)  : SemX prog 173 [aT (.sl false 1 (xs.map eI_i64))] [] [.one (.sl true 1 (xs.map eI_i64))] [] := by
 refine goF [] [] [] func173 ?_
 refine D ?_
 refine L (α := Nat) (fun x => [(4, .int .i64 x)]) (fun x => [(32768, .arr ⟨1, (xs.take x).map eI_i64 ++ List.replicate (xs.length - x) dI_i64, x + 1, none⟩)]) (fun x => xs.length - x) (fun x => x ≤ xs.length) 0 [] (fun x hI => ?_) (by simp only [go_sem] <;> and_intros <;> first | with_reducible exact rfl | (first | omega | (simp [dI_i64, eI_i64, zI_i64, zCmd, zEntry]; done)))
 refine D ?_
 refine cC (fun c0 => ?_) (fun c0 => ?_)
 · skip
   have hg := getD_bld (l := (xs.take x).map eI_i64) (n := xs.length - x) (d := dI_i64) (i := x) (by simp; omega)
   have hA := hg
   refine D ?_
   refine lp_next (x+1) [] ?_ ?_ ?_
   · simp only [go_sem, hA] <;> and_intros <;> first | with_reducible exact rfl | (first | omega | (rw [← bld_step eI_i64 zI_i64 dI_i64 (by omega)]; simp only [eI_i64]))
   · omega
   · omega
 · skip
   obtain rfl : x = xs.length := by omega
   refine D ?_
   exact E trivial
end Go.H
end
section
set_option maxRecDepth 100000
set_option maxHeartbeats 4000000
set_option cbv.maxSteps 4000000
set_option linter.unusedVariables false
set_option linter.unusedSimpArgs false
namespace Go.H
open Go Go.Proofs.Tryz
variable [Inv prog]
theorem s_laws_toVip (x : Vip) (hx : limV 2097152 x) : SemX prog 129 [aS (eVip false x)] [] [.agg (eVip true x)] [] := by
 refine goF [] [] [] func129 ?_
 refine D ?_
 refine kR (s_laws_toInt64S x.names hx) ?_
 refine D ?_
 exact E trivial
end Go.H
end
section
set_option maxRecDepth 100000
set_option maxHeartbeats 4000000
set_option cbv.maxSteps 4000000
set_option linter.unusedVariables false
set_option linter.unusedSimpArgs false
namespace Go.H
open Go Go.Proofs.Tryz
variable [Inv prog]
theorem s_laws_toVipS (xs : List Vip) (hl : xs.length ≤ 2097152) (hm : ∀ y ∈ xs, limV 2097152 y) : SemX prog 75 [aT (.sl false 4 (xs.map (eVip false)))] [] [.one (.sl true 4 (xs.map (eVip true)))] [] := by
 refine goF [] [] [] func75 ?_
 refine D ?_
 refine L (α := Nat) (fun x => [(4, .int .i64 x)]) (fun x => [(32768, .arr ⟨4, (xs.take x).map (eVip true) ++ List.replicate (xs.length - x) (dVip true), x + 1, none⟩)]) (fun x => xs.length - x) (fun x => x ≤ xs.length) 0 [] (fun x hI => ?_) (by simp only [go_sem] <;> and_intros <;> first | with_reducible exact rfl | (first | omega | (simp [dVip, eVip, zVip, zCmd, zEntry]; done)))
 refine D ?_
 refine cC (fun c0 => ?_) (fun c0 => ?_)
 · skip
   have hg := getD_bld (l := (xs.take x).map (eVip true)) (n := xs.length - x) (d := (dVip true)) (i := x) (by simp; omega)
   have hA := hg
   refine D ?_
   refine kR (s_laws_toVip (xs.getD x zVip) ((all_getD zVip).2 hm x (by omega))) ?_
   refine D ?_
   refine lp_next (x+1) [] ?_ ?_ ?_
   · simp only [go_sem, hA] <;> and_intros <;> first | with_reducible exact rfl | (first | omega | (rw [← bld_step (eVip true) zVip (dVip true) (by omega)]; simp only [eVip]))
   · omega
   · omega
 · skip
   obtain rfl : x = xs.length := by omega
   refine D ?_
   exact E trivial
end Go.H
end
section
set_option maxRecDepth 100000
set_option maxHeartbeats 4000000
set_option cbv.maxSteps 4000000
set_option linter.unusedVariables false
set_option linter.unusedSimpArgs false
namespace Go.H
open Go Go.Proofs.Tryz
variable [Inv prog]
theorem s_laws_toConfig (x : Config) (hx : limG 2097152 x) : SemX prog 12 [aS (eConfig false x)] [] [.agg (eConfig true x)] [] := by
 refine goF [] [] [] func12 ?_
 refine D ?_
 refine kR (s_laws_toBackendS x.backends hx.1) ?_
 refine D ?_
 refine kR (s_laws_toVipS x.vips hx.2.1 hx.2.2) ?_
 refine D ?_
 exact E trivial
end Go.H
end
section
set_option maxRecDepth 100000
set_option maxHeartbeats 4000000
set_option cbv.maxSteps 4000000
set_option linter.unusedVariables false
set_option linter.unusedSimpArgs false
namespace Go.H
open Go Go.Proofs.Tryz
variable [Inv prog]
theorem s_laws_toSession (x : Session) : SemX prog 156 [aS (eSession x)] [] [.agg (eSession x)] [] := by
 refine goF [] [] [] func156 ?_
 refine D ?_
 exact E trivial
end Go.H
end
section
set_option maxRecDepth 100000
set_option maxHeartbeats 4000000
set_option cbv.maxSteps 4000000
set_option linter.unusedVariables false
set_option linter.unusedSimpArgs false
namespace Go.H
open Go Go.Proofs.Tryz
variable [Inv prog]
theorem s_laws_toSessionS (xs : List Session) (hl : xs.length ≤ 2097152)  : SemX prog 103 [aT (.sl false 3 (xs.map eSession))] [] [.one (.sl true 3 (xs.map eSession))] [] := by
 refine goF [] [] [] func103 ?_
 refine D ?_
 refine L (α := Nat) (fun x => [(4, .int .i64 x)]) (fun x => [(32768, .arr ⟨3, (xs.take x).map eSession ++ List.replicate (xs.length - x) dSession, x + 1, none⟩)]) (fun x => xs.length - x) (fun x => x ≤ xs.length) 0 [] (fun x hI => ?_) (by simp only [go_sem] <;> and_intros <;> first | with_reducible exact rfl | (first | omega | (simp [dSession, eSession, zSession, zCmd, zEntry]; done)))
 refine D ?_
 refine cC (fun c0 => ?_) (fun c0 => ?_)
 · skip
   have hg := getD_bld (l := (xs.take x).map eSession) (n := xs.length - x) (d := dSession) (i := x) (by simp; omega)
   have hA := hg
   refine D ?_
   refine kR (s_laws_toSession (xs.getD x zSession)) ?_
   refine D ?_
   refine lp_next (x+1) [] ?_ ?_ ?_
   · simp only [go_sem, hA] <;> and_intros <;> first | with_reducible exact rfl | (first | omega | (rw [← bld_step eSession zSession dSession (by omega)]; simp only [eSession]))
   · omega
   · omega
 · skip
   obtain rfl : x = xs.length := by omega
   refine D ?_
   exact E trivial
end Go.H
end
section
set_option maxRecDepth 100000
set_option maxHeartbeats 4000000
set_option cbv.maxSteps 4000000
set_option linter.unusedVariables false
set_option linter.unusedSimpArgs false
namespace Go.H
open Go Go.Proofs.Tryz
variable [Inv prog]
theorem s_laws_toMachine (x : Machine) (hx : limM 2097152 x) : SemX prog 45 [aS (eMachine false x)] [] [.agg (eMachine true x)] [] := by
 refine goF [] [] [] func45 ?_
 refine D ?_
 refine kR (s_laws_toConfig x.config hx.1) ?_
 refine D ?_
 refine kR (s_laws_toSessionS x.sessions hx.2) ?_
 refine D ?_
 exact E trivial
end Go.H
end
section
set_option maxRecDepth 100000
set_option maxHeartbeats 4000000
set_option cbv.maxSteps 4000000
set_option linter.unusedVariables false
set_option linter.unusedSimpArgs false
namespace Go.H
open Go Go.Proofs.Tryz
variable [Inv prog]
theorem s_laws_toCmd (x : Cmd) : SemX prog 13 [aS (eCmd x)] [] [.agg (eCmd x)] [] := by
 refine goF [] [] [] func13 ?_
 refine D ?_
 exact E trivial
end Go.H
end
section
set_option maxRecDepth 100000
set_option maxHeartbeats 4000000
set_option cbv.maxSteps 4000000
set_option linter.unusedVariables false
set_option linter.unusedSimpArgs false
namespace Go.H
open Go Go.Proofs.Tryz
variable [Inv prog]
theorem s_laws_toEntry (x : Entry) : SemX prog 46 [aS (eEntry x)] [] [.agg (eEntry x)] [] := by
 refine goF [] [] [] func46 ?_
 refine D ?_
 refine kR (s_laws_toCmd x.cmd) ?_
 refine D ?_
 exact E trivial
end Go.H
end
section
set_option maxRecDepth 100000
set_option maxHeartbeats 4000000
set_option cbv.maxSteps 4000000
set_option linter.unusedVariables false
set_option linter.unusedSimpArgs false
namespace Go.H
open Go Go.Proofs.Tryz
variable [Inv prog]
theorem s_impl_in (a b c : Int) : SemX prog 130 [.one (.t (.int .i64 a)), .one (.t (.int .i64 b)), .one (.t (.int .i64 c))] [] [.one (.bool (inR a b c))] [] := by
 refine goF [] [] [] func130 ?_
 refine D ?_
 refine E ?_
 first
 | exact trivial
 | simp only [go_sem, inR]; done
 | try simp only [go_sem, inR]
   exact rfl
end Go.H
end
section
set_option maxRecDepth 100000
set_option maxHeartbeats 4000000
set_option cbv.maxSteps 4000000
set_option linter.unusedVariables false
set_option linter.unusedSimpArgs false
namespace Go.H
open Go Go.Proofs.Tryz
variable [Inv prog]
theorem s_impl_isAddress (n : Int) : SemX prog 132 [aI n] [] [rB (inR n 0 4294967295)] [] := by
 refine goF [] [] [] func132 ?_
 refine D ?_
 refine kR (s_impl_in n 0 4294967295) ?_
 refine D ?_
 exact E trivial
end Go.H
end
section
set_option maxRecDepth 100000
set_option maxHeartbeats 4000000
set_option cbv.maxSteps 4000000
set_option linter.unusedVariables false
set_option linter.unusedSimpArgs false
namespace Go.H
open Go Go.Proofs.Tryz
variable [Inv prog]
theorem s_impl_isName (n : Int) : SemX prog 140 [aI n] [] [rB (inR n 1 999)] [] := by
 refine goF [] [] [] func140 ?_
 refine D ?_
 refine kR (s_impl_in n 1 999) ?_
 refine D ?_
 exact E trivial
end Go.H
end
section
set_option maxRecDepth 100000
set_option maxHeartbeats 4000000
set_option cbv.maxSteps 4000000
set_option linter.unusedVariables false
set_option linter.unusedSimpArgs false
namespace Go.H
open Go Go.Proofs.Tryz
variable [Inv prog]
theorem s_impl_isBackend (b : Backend) : SemX prog 131 [aS (eBackend b)] [] [rB (isBk b)] [] := by
 refine goF [] [] [] func131 ?_
 refine D ?_
 refine kR (s_impl_isName _) ?_
 refine D ?_
 refine kRg (s_impl_isAddress _) ?_
 refine D ?_
 refine kRg (s_impl_in _ _ _) ?_
 refine D ?_
 refine kRg (s_impl_in _ _ _) ?_
 refine D ?_
 refine E ?_
 first
 | exact trivial
 | simp only [go_sem, isBk]
end Go.H
end
section
set_option maxRecDepth 100000
set_option maxHeartbeats 4000000
set_option cbv.maxSteps 4000000
set_option linter.unusedVariables false
set_option linter.unusedSimpArgs false
namespace Go.H
open Go Go.Proofs.Tryz
variable [Inv prog]
theorem s_impl_isPort (n : Int) : SemX prog 133 [aI n] [] [rB (inR n 0 65535)] [] := by
 refine goF [] [] [] func133 ?_
 refine D ?_
 refine kR (s_impl_in n 0 65535) ?_
 refine D ?_
 exact E trivial
end Go.H
end
section
set_option maxRecDepth 100000
set_option maxHeartbeats 4000000
set_option cbv.maxSteps 4000000
set_option linter.unusedVariables false
set_option linter.unusedSimpArgs false
namespace Go.H
open Go Go.Proofs.Tryz
variable [Inv prog]
theorem s_impl_isProto (n : Int) : SemX prog 134 [aI n] [] [rB (isPro n)] [] := by
 refine goF [] [] [] func134 ?_
 refine D ?_
 refine E ?_
 first
 | exact trivial
 | simp only [go_sem, isPro]; done
 | try simp only [go_sem, isPro]
   cases decide (n = 6) <;> rfl
end Go.H
end
section
set_option maxRecDepth 100000
set_option maxHeartbeats 4000000
set_option cbv.maxSteps 4000000
set_option linter.unusedVariables false
set_option linter.unusedSimpArgs false
namespace Go.H
open Go Go.Proofs.Tryz
variable [Inv prog]
theorem s_cmp_Or_int (xs : List Int) (hl : xs.length ≤ 2097152) : SemX prog 174 [aT (.sl false 1 (xs.map eI_i64))] [] [rI (orL xs)] [] := by
 refine goF [] [] [] func174 ?_
 refine D ?_
 refine L (α := Nat) (fun x => [(8, .int .i64 x)]) (fun x => []) (fun x => xs.length - x) (fun x => x ≤ xs.length ∧ ∀ j, j < x → xs.getD j zI_i64 = 0) 0 [] (fun x hL => ?_) (hi := by exact ⟨Nat.zero_le _, fun j hj => by omega⟩)
 obtain ⟨hx, hno⟩ := hL
 refine D ?_
 refine cC (fun c0 => ?_) (fun c0 => ?_)
 · skip
   refine D ?_
   refine cC (fun c1 => ?_) (fun c1 => ?_)
   · skip
     refine D ?_
     refine E ?_
     rw [orL_some (by omega) hno (by simpa using c1)]
   · skip
     refine D ?_
     refine N (x+1) [] (hi := ?_) (hm := ?_)
     · refine ⟨by omega, fun j hj => ?_⟩
       rcases Nat.lt_or_ge j x with h | h
       · exact hno j h
       · obtain rfl : j = x := by omega
         simpa using c1
     · omega
 · skip
   obtain rfl : x = xs.length := by omega
   refine D ?_
   refine E ?_
   rw [orL_zero hno]
end Go.H
end
section
set_option maxRecDepth 100000
set_option maxHeartbeats 4000000
set_option cbv.maxSteps 4000000
set_option linter.unusedVariables false
set_option linter.unusedSimpArgs false
namespace Go.H
open Go Go.Proofs.Tryz
variable [Inv prog]
theorem s_cmp_isNaN_int64 (a : Int) : SemX prog 192 [aI a] [] [rB false] [] := by
 refine goF [] [] [] func192 ?_
 refine D ?_
 exact E trivial
end Go.H
end
section
set_option maxRecDepth 100000
set_option maxHeartbeats 4000000
set_option cbv.maxSteps 4000000
set_option linter.unusedVariables false
set_option linter.unusedSimpArgs false
namespace Go.H
open Go Go.Proofs.Tryz
variable [Inv prog]
theorem s_cmp_Compare_int64 (a b : Int) : SemX prog 175 [aI a, aI b] [] [rI (cmpI a b)] [] := by
 refine goF [] [] [] func175 ?_
 refine D ?_
 refine kR (s_cmp_isNaN_int64 _) ?_
 refine D ?_
 refine kR (s_cmp_isNaN_int64 _) ?_
 refine D ?_
 refine cC (fun c0 => ?_) (fun c0 => ?_)
 · skip
   refine D ?_
   refine cC (fun c1 => ?_) (fun c1 => ?_)
   · skip
     refine D ?_
     refine E ?_
     first
     | exact trivial
     | first | (exfalso; simp_all; done) | (simp [cmpI, *]; done) | (simp [cmpI]; omega) | (unfold cmpI; grind)
   · skip
     refine D ?_
     refine E ?_
     first
     | exact trivial
     | first | (exfalso; simp_all; done) | (simp [cmpI, *]; done) | (simp [cmpI]; omega) | (unfold cmpI; grind)
 · skip
   refine D ?_
   refine cC (fun c2 => ?_) (fun c2 => ?_)
   · skip
     refine D ?_
     refine E ?_
     first
     | exact trivial
     | first | (exfalso; simp_all; done) | (simp [cmpI, *]; done) | (simp [cmpI]; omega) | (unfold cmpI; grind)
   · skip
     refine D ?_
     refine cC (fun c3 => ?_) (fun c3 => ?_)
     · skip
       refine D ?_
       refine E ?_
       first
       | exact trivial
       | first | (exfalso; simp_all; done) | (simp [cmpI, *]; done) | (simp [cmpI]; omega) | (unfold cmpI; grind)
     · skip
       refine D ?_
       refine cC (fun c4 => ?_) (fun c4 => ?_)
       · skip
         refine D ?_
         refine E ?_
         first
         | exact trivial
         | first | (exfalso; simp_all; done) | (simp [cmpI, *]; done) | (simp [cmpI]; omega) | (unfold cmpI; grind)
       · skip
         refine D ?_
         refine E ?_
         first
         | exact trivial
         | first | (exfalso; simp_all; done) | (simp [cmpI, *]; done) | (simp [cmpI]; omega) | (unfold cmpI; grind)
end Go.H
end
section
set_option maxRecDepth 100000
set_option maxHeartbeats 4000000
set_option cbv.maxSteps 4000000
set_option linter.unusedVariables false
set_option linter.unusedSimpArgs false
namespace Go.H
open Go Go.Proofs.Tryz
variable [Inv prog]
theorem s_impl_compareVip (a b : Vip) : SemX prog 135 [aS (eVip false a), aS (eVip false b)] [] [rI (cmpV a b)] [] := by
 refine goF [] [(1, 1, [12288], []), (1, 3, [16384], []), (1, 6, [12288], []), (1, 8, [16384], []), (1, 11, [12288], []), (1, 13, [16384], []), (1, 15, [], [86016]), (1, 16, [86016], [])] [] func135 ?_
 refine D ?_
 refine kD (s_cmp_Compare_int64 a.address b.address) ?_
 refine D ?_
 refine kD (s_cmp_Compare_int64 a.port b.port) ?_
 refine D ?_
 refine kD (s_cmp_Compare_int64 a.proto b.proto) ?_
 refine D ?_
 refine kD (s_cmp_Or_int [cmpI a.address b.address, cmpI a.port b.port, cmpI a.proto b.proto] (by simp)) ?_
 refine D ?_
 refine E ?_
 first
 | exact trivial
 | rw [cmpV_or]
theorem s_impl_compareVip_raw (a b : RVp) : SemX prog 135 [aS (eRV a), aS (eRV b)] [] [rI (cmpV a.1 b.1)] [] := by
 refine goF [] [(1, 1, [12288], []), (1, 3, [16384], []), (1, 6, [12288], []), (1, 8, [16384], []), (1, 11, [12288], []), (1, 13, [16384], []), (1, 15, [], [86016]), (1, 16, [86016], [])] [] func135 ?_
 refine D ?_
 refine kD (s_cmp_Compare_int64 a.1.address b.1.address) ?_
 refine D ?_
 refine kD (s_cmp_Compare_int64 a.1.port b.1.port) ?_
 refine D ?_
 refine kD (s_cmp_Compare_int64 a.1.proto b.1.proto) ?_
 refine D ?_
 refine kD (s_cmp_Or_int [cmpI a.1.address b.1.address, cmpI a.1.port b.1.port, cmpI a.1.proto b.1.proto] (by simp)) ?_
 refine D ?_
 refine E ?_
 first
 | exact trivial
 | rw [cmpV_or]
end Go.H
end
section
set_option maxRecDepth 100000
set_option maxHeartbeats 4000000
set_option cbv.maxSteps 4000000
set_option linter.unusedVariables false
set_option linter.unusedSimpArgs false
namespace Go.H
open Go Go.Proofs.Tryz
variable [Inv prog]
theorem s_slices_IndexFunc_int64 (R : List Int) (hl : R.length ≤ 2097152) (fn : Nat) (c : Config) (hcl : limG 2097152 c) (q : Int → Bool) (hq : callB prog fn = true) (hf : ∀ b : Int, b ∈ R → SemX prog fn [aI b, aT (.ptr (eConfig false c))] [] [rB (q b)] []) : SemX prog 176 [aT (.sl false 1 (R.map eI_i64)), .one (.fn fn [.t (.ptr (eConfig false c))])] [] [rI (idxG q R)] [] := by
 refine goF [] [] [] func176 ?_
 refine D ?_
 refine L (α := Nat) (fun x => [(8, .int .i64 x)]) (fun x => []) (fun x => R.length - x) (fun x => x ≤ R.length ∧ ∀ j, j < x → q (R.getD j zI_i64) = false) 0 [] (fun x hL => ?_) (hi := by exact ⟨Nat.zero_le _, fun j hj => by omega⟩)
 obtain ⟨hx2, hno⟩ := hL
 refine D ?_
 refine cC (fun c0 => ?_) (fun c0 => ?_)
 · skip
   refine D ?_
   refine kR (hf (R.getD x zI_i64) (getD_mem zI_i64 (by omega))) ?_ hq
   refine D ?_
   refine cC (fun c1 => ?_) (fun c1 => ?_)
   · skip
     refine D ?_
     refine E ?_
     rw [idxG_some zI_i64 (by omega) hno c1]
   · skip
     refine D ?_
     refine N (x+1) [] (hi := ?_) (hm := ?_)
     · refine ⟨by omega, fun j hj => ?_⟩
       rcases Nat.lt_or_ge j x with h | h
       · exact hno j h
       · obtain rfl : j = x := by omega
         first | exact c1 | (simpa [isB, isV, eqI] using c1) | (simp [isB, isV, eqI]; grind)
     · omega
 · skip
   obtain rfl : x = R.length := by omega
   refine D ?_
   refine E ?_
   rw [idxG_none zI_i64 hno]
end Go.H
end
section
set_option maxRecDepth 100000
set_option maxHeartbeats 4000000
set_option cbv.maxSteps 4000000
set_option linter.unusedVariables false
set_option linter.unusedSimpArgs false
namespace Go.H
open Go Go.Proofs.Tryz
variable [Inv prog]
theorem s_slices_ContainsFunc_int64 (R : List Int) (hl : R.length ≤ 2097152) (fn : Nat) (c : Config) (hcl : limG 2097152 c) (q : Int → Bool) (hq : callB prog fn = true) (hf : ∀ b : Int, b ∈ R → SemX prog fn [aI b, aT (.ptr (eConfig false c))] [] [rB (q b)] []) : SemX prog 136 [aT (.sl false 1 (R.map eI_i64)), .one (.fn fn [.t (.ptr (eConfig false c))])] [] [rB (hasG q R)] [] := by
 refine goF [] [] [] func136 ?_
 refine D ?_
 refine kR (s_slices_IndexFunc_int64 R hl fn c hcl q hq hf) ?_
 refine D ?_
 refine E ?_
 first
 | exact trivial
 | simp only [go_sem, hasG]
end Go.H
end
section
set_option maxRecDepth 100000
set_option maxHeartbeats 4000000
set_option cbv.maxSteps 4000000
set_option linter.unusedVariables false
set_option linter.unusedSimpArgs false
namespace Go.H
open Go Go.Proofs.Tryz
variable [Inv prog]
theorem s_slices_IndexFunc_Backend (R : List Backend) (hl : R.length ≤ 2097152) (fn : Nat) (n : Int) (q : Backend → Bool) (hq : callB prog fn = true) (hf : ∀ b : Backend, b ∈ R → SemX prog fn [aS (eBackend b), aT (.ptr [.int .i64 n])] [] [rB (q b)] []) : SemX prog 177 [aT (.sl false 5 (R.map eBackend)), .one (.fn fn [.t (.ptr [.int .i64 n])])] [] [rI (idxG q R)] [] := by
 refine goF [] [] [] func177 ?_
 refine D ?_
 refine L (α := Nat) (fun x => [(8, .int .i64 x)]) (fun x => []) (fun x => R.length - x) (fun x => x ≤ R.length ∧ ∀ j, j < x → q (R.getD j zBackend) = false) 0 [] (fun x hL => ?_) (hi := by exact ⟨Nat.zero_le _, fun j hj => by omega⟩)
 obtain ⟨hx2, hno⟩ := hL
 refine D ?_
 refine cC (fun c0 => ?_) (fun c0 => ?_)
 · skip
   refine D ?_
   refine kR (hf (R.getD x zBackend) (getD_mem zBackend (by omega))) ?_ hq
   refine D ?_
   refine cC (fun c1 => ?_) (fun c1 => ?_)
   · skip
     refine D ?_
     refine E ?_
     rw [idxG_some zBackend (by omega) hno c1]
   · skip
     refine D ?_
     refine N (x+1) [] (hi := ?_) (hm := ?_)
     · refine ⟨by omega, fun j hj => ?_⟩
       rcases Nat.lt_or_ge j x with h | h
       · exact hno j h
       · obtain rfl : j = x := by omega
         first | exact c1 | (simpa [isB, isV, eqI] using c1) | (simp [isB, isV, eqI]; grind)
     · omega
 · skip
   obtain rfl : x = R.length := by omega
   refine D ?_
   refine E ?_
   rw [idxG_none zBackend hno]
end Go.H
end
section
set_option maxRecDepth 100000
set_option maxHeartbeats 4000000
set_option cbv.maxSteps 4000000
set_option linter.unusedVariables false
set_option linter.unusedSimpArgs false
namespace Go.H
open Go Go.Proofs.Tryz
variable [Inv prog]
theorem s_impl_Config_backend_1 (b : Backend) (n : Int) : SemX prog 178 [aS (eBackend b), aT (.ptr [.int .i64 n])] [] [rB (isB n b)] [] := by
 refine goF [] [] [] func178 ?_
 refine D ?_
 refine E ?_
 first
 | exact trivial
 | simp only [go_sem, isB]
end Go.H
end
section
set_option maxRecDepth 100000
set_option maxHeartbeats 4000000
set_option cbv.maxSteps 4000000
set_option linter.unusedVariables false
set_option linter.unusedSimpArgs false
namespace Go.H
open Go Go.Proofs.Tryz
variable [Inv prog]
theorem s_impl_Config_backend (c : Config) (hx : limG 2097152 c) (n : Int) : SemX prog 138 [aT (.ptr (eConfig false c)), aI n] [] [rI (findB c.backends n)] [] := by
 refine goF [] [] [] func138 ?_
 obtain ⟨hb, hv, hV⟩ := id hx
 refine D ?_
 refine kR (s_slices_IndexFunc_Backend c.backends hb 178 n (isB n) (by kernel_rfl) (fun b _ => s_impl_Config_backend_1 b n)) ?_
 refine D ?_
 refine E ?_
 first
 | exact trivial
 | simp only [go_sem, findB]
end Go.H
end
section
set_option maxRecDepth 100000
set_option maxHeartbeats 4000000
set_option cbv.maxSteps 4000000
set_option linter.unusedVariables false
set_option linter.unusedSimpArgs false
namespace Go.H
open Go Go.Proofs.Tryz
variable [Inv prog]
theorem s_impl_ConfigFault_1 (n : Int) (c : Config) (hx : limG 2097152 c) : SemX prog 137 [aI n, aT (.ptr (eConfig false c))] [] [rB (noB c.backends n)] [] := by
 refine goF [] [] [] func137 ?_
 refine D ?_
 refine kR (s_impl_Config_backend c hx n) ?_
 refine D ?_
 refine E ?_
 first
 | exact trivial
 | simp only [go_sem, noB]
end Go.H
end
section
set_option maxRecDepth 100000
set_option maxHeartbeats 4000000
set_option cbv.maxSteps 4000000
set_option linter.unusedVariables false
set_option linter.unusedSimpArgs false
namespace Go.H
open Go Go.Proofs.Tryz
variable [Inv prog]
theorem s_impl_ConfigFault (c : Config) (hx : limG 2097152 c) : SemX prog 76 [aS (eConfig false c)] [] [rI (configFault c)] [] := by
 refine goF [(88, ⟨some 1, none, none, none⟩), (162, ⟨some 1, none, none, none⟩)] [(10, 4, [20480], []), (10, 6, [8192], []), (18, 4, [8192], []), (18, 9, [28672], []), (25, 1, [28672], []), (25, 6, [28672], [])] [] func76 ?_
 obtain ⟨hb, hv, hV⟩ := id hx
 refine D ?_
 refine kR (s_impl_in _ _ _) ?_
 refine D ?_
 refine cC (fun c0 => ?_) (fun c0 => ?_)
 · skip
   refine D ?_
   refine E ?_
   first
   | exact trivial
   | unfold configFault
     grind
 · skip
   refine D ?_
   refine cC (fun c1 => ?_) (fun c1 => ?_)
   · skip
     refine D ?_
     refine E ?_
     first
     | exact trivial
     | unfold configFault
       grind
   · skip
     refine D ?_
     refine L (α := Nat) (fun x => [(27, .int .i64 x)]) (fun x => []) (fun x => c.backends.length - x) (fun x => x ≤ c.backends.length ∧ scan (bkBad c.backends) c.backends.length 0 = scan (bkBad c.backends) c.backends.length x) 0 [] (fun x hL => ?_) (hi := by exact ⟨Nat.zero_le _, rfl⟩)
     obtain ⟨hx2, he⟩ := hL
     refine D ?_
     refine cC (fun c2 => ?_) (fun c2 => ?_)
     · skip
       have hst := scan_lt (f := bkBad c.backends) (show x < c.backends.length by omega)
       have hd : bkBad c.backends x = if isBk (c.backends.getD x zBackend) = false then 3 else if 0 < x ∧ (c.backends.getD x zBackend).name ≤ (c.backends.getD (x - 1) zBackend).name then 1 else 0 := rfl
       refine D ?_
       refine kR (s_impl_isBackend _) ?_
       refine D ?_
       refine cC (fun c3 => ?_) (fun c3 => ?_)
       · skip
         refine D ?_
         refine E ?_
         first
         | exact trivial
         | unfold configFault
           grind
       · skip
         refine D ?_
         refine cC (fun c4 => ?_) (fun c4 => ?_)
         · skip
           refine D ?_
           refine E ?_
           first
           | exact trivial
           | unfold configFault
             grind
         · skip
           refine D ?_
           refine N (x+1) [] (hi := ?_) (hm := ?_)
           · refine ⟨by omega, ?_⟩
             rw [he, scan_lt (by omega), if_pos]
             unfold bkBad
             grind
           · omega
     · skip
       have hs0 : scan (bkBad c.backends) c.backends.length 0 = 0 := by rw [he, scan_ge (by omega)]
       refine D ?_
       refine L (α := Nat) (fun i => [(53, .int .i64 i)]) (fun i => []) (fun i => c.vips.length - i) (fun i => i ≤ c.vips.length ∧ scan (vipBad c) c.vips.length 0 = scan (vipBad c) c.vips.length i) 0 [] (fun i hL => ?_) (hi := by exact ⟨Nat.zero_le _, rfl⟩)
       obtain ⟨hi2, hie⟩ := hL
       refine D ?_
       refine cC (fun c5 => ?_) (fun c5 => ?_)
       · skip
         have hst2 := scan_lt (f := vipBad c) (show i < c.vips.length by omega)
         refine D ?_
         refine kR (s_impl_isAddress _) ?_
         refine D ?_
         refine kRg (s_impl_isPort _) ?_
         refine D ?_
         refine kRg (s_impl_isProto _) ?_
         refine D ?_
         refine cC (fun c6 => ?_) (fun c6 => ?_)
         · skip
           have hv3 : isVp (c.vips.getD i zVip) = false := by unfold isVp; grind
           have hvb : vipBad c i = 3 := by unfold vipBad; rw [if_pos hv3]
           refine D ?_
           refine E ?_
           first
           | exact trivial
           | unfold configFault
             grind
         · skip
           have hv3 : isVp (c.vips.getD i zVip) = true := by unfold isVp; grind
           refine D ?_
           refine kDg (s_impl_compareVip (c.vips.getD (i - 1) zVip) (c.vips.getD i zVip)) ?_
           refine D ?_
           refine cC (fun c7 => ?_) (fun c7 => ?_)
           · skip
             have hbh := cmpV_ge (c.vips.getD (i - 1) zVip) (c.vips.getD i zVip)
             have hvb : vipBad c i = 1 := by unfold vipBad; grind
             refine D ?_
             refine E ?_
             first
             | exact trivial
             | unfold configFault
               grind
           · skip
             have hbh := cmpV_ge (c.vips.getD (i - 1) zVip) (c.vips.getD i zVip)
             have hbq : ¬ (0 < i ∧ behV (c.vips.getD (i - 1) zVip) (c.vips.getD i zVip) = false) := by grind
             refine D ?_
             refine kR (s_slices_ContainsFunc_int64 (c.vips.getD i zVip).names (hV _ (getD_mem zVip (by omega))) 137 c hx (noB c.backends) (by kernel_rfl) (fun n _ => s_impl_ConfigFault_1 n c hx)) ?_
             refine D ?_
             refine cC (fun c8 => ?_) (fun c8 => ?_)
             · skip
               have hvb : vipBad c i = 4 := by unfold vipBad; rw [if_neg (by rw [hv3]; simp), if_neg hbq, if_pos (by simpa using c8)]
               refine D ?_
               refine E ?_
               first
               | exact trivial
               | unfold configFault
                 grind
             · skip
               have hcf : hasG (noB c.backends) (c.vips.getD i zVip).names = false := by simpa using c8
               have hvs : vipBad c i = scan (nmBad (c.vips.getD i zVip)) (c.vips.getD i zVip).names.length 1 := by unfold vipBad; rw [if_neg (by rw [hv3]; simp), if_neg hbq, if_neg (by rw [hcf]; simp)]
               refine D ?_
               refine L (α := Nat) (fun y => [(7, .int .i64 y)]) (fun y => []) (fun y => (c.vips.getD i zVip).names.length - y) (fun y => 1 ≤ y ∧ (y ≤ (c.vips.getD i zVip).names.length ∨ y = 1) ∧ scan (nmBad (c.vips.getD i zVip)) (c.vips.getD i zVip).names.length 1 = scan (nmBad (c.vips.getD i zVip)) (c.vips.getD i zVip).names.length y) 1 [] (fun y hL => ?_) (hi := by exact ⟨Nat.le_refl _, .inr rfl, rfl⟩)
               obtain ⟨hy, hy2, hys⟩ := hL
               refine D ?_
               refine cC (fun c9 => ?_) (fun c9 => ?_)
               · skip
                 have hnl : (c.vips.getD i zVip).names.length ≤ 2097152 := hV _ (getD_mem zVip (by omega))
                 refine D ?_
                 refine cC (fun c10 => ?_) (fun c10 => ?_)
                 · skip
                   have hvb : vipBad c i = 1 := by
                     rw [hvs, hys, scan_lt (by omega)]
                     unfold nmBad
                     grind
                   refine D ?_
                   refine E ?_
                   first
                   | exact trivial
                   | unfold configFault
                     grind
                 · skip
                   refine D ?_
                   refine N (y+1) [] (hi := ?_) (hm := ?_)
                   · refine ⟨by omega, .inl (by omega), ?_⟩
                     rw [hys, scan_lt (by omega), if_pos]
                     unfold nmBad
                     simp at *
                     grind
                   · omega
               · skip
                 have hvb : vipBad c i = 0 := by rw [hvs, hys, scan_ge (by omega)]
                 refine D ?_
                 refine N (i+1) [] (hi := ?_) (hm := ?_)
                 · refine ⟨by omega, ?_⟩
                   rw [hie, scan_lt (by omega), if_pos]
                   grind
                 · omega
       · skip
         have hs1 : scan (vipBad c) c.vips.length 0 = 0 := by rw [hie, scan_ge (by omega)]
         refine D ?_
         refine E ?_
         first
         | exact trivial
         | unfold configFault
           grind
end Go.H
end
section
set_option maxRecDepth 100000
set_option maxHeartbeats 4000000
set_option cbv.maxSteps 4000000
set_option linter.unusedVariables false
set_option linter.unusedSimpArgs false
namespace Go.H
open Go Go.Proofs.Tryz
variable [Inv prog]
theorem s_impl_MachineFault (m : Machine) (hm : limM 2097152 m) : SemX prog 104 [aS (eMachine false m)] [] [rI (machineFault m)] [] := by
 refine goF [(102, ⟨some 1, none, none, none⟩)] [(11, 4, [24576], []), (11, 6, [8192], [])] [] func104 ?_
 have hs := hm.2
 refine D ?_
 refine kR (s_impl_ConfigFault m.config hm.1) ?_
 refine D ?_
 refine cC (fun c0 => ?_) (fun c0 => ?_)
 · skip
   refine D ?_
   refine E ?_
   first
   | exact trivial
   | unfold machineFault
     grind
 · skip
   refine D ?_
   refine cC (fun c1 => ?_) (fun c1 => ?_)
   · skip
     refine D ?_
     refine E ?_
     first
     | exact trivial
     | unfold machineFault
       grind
   · skip
     refine D ?_
     refine L (α := Nat) (fun i => [(19, .int .i64 i)]) (fun i => []) (fun i => m.sessions.length - i) (fun i => i ≤ m.sessions.length ∧ scan (seBad m.sessions) m.sessions.length 0 = scan (seBad m.sessions) m.sessions.length i) 0 [] (fun i hL => ?_) (hi := by exact ⟨Nat.zero_le _, rfl⟩)
     obtain ⟨hi2, hie⟩ := hL
     refine D ?_
     refine cC (fun c2 => ?_) (fun c2 => ?_)
     · skip
       have hst := scan_lt (f := seBad m.sessions) (show i < m.sessions.length by omega)
       have hd : seBad m.sessions i = if isSe (m.sessions.getD i zSession) = false then 3 else if 0 < i ∧ (m.sessions.getD i zSession).client ≤ (m.sessions.getD (i - 1) zSession).client then 1 else 0 := rfl
       unfold isSe at hd
       refine D ?_
       refine kR (s_impl_isName _) ?_
       refine D ?_
       refine kRg (s_impl_in _ _ _) ?_
       refine D ?_
       refine kRg (s_impl_in _ _ _) ?_
       refine D ?_
       refine cC (fun c3 => ?_) (fun c3 => ?_)
       · skip
         refine D ?_
         refine E ?_
         first
         | exact trivial
         | unfold machineFault
           grind
       · skip
         refine D ?_
         refine cC (fun c4 => ?_) (fun c4 => ?_)
         · skip
           refine D ?_
           refine E ?_
           first
           | exact trivial
           | unfold machineFault
             grind
         · skip
           refine D ?_
           refine N (i+1) [] (hi := ?_) (hm := ?_)
           · refine ⟨by omega, ?_⟩
             rw [hie, scan_lt (by omega), if_pos]
             unfold seBad isSe
             grind
           · omega
     · skip
       have hs0 : scan (seBad m.sessions) m.sessions.length 0 = 0 := by rw [hie, scan_ge (by omega)]
       refine D ?_
       refine E ?_
       first
       | exact trivial
       | unfold machineFault
         grind
end Go.H
end
section
set_option maxRecDepth 100000
set_option maxHeartbeats 4000000
set_option cbv.maxSteps 4000000
set_option linter.unusedVariables false
set_option linter.unusedSimpArgs false
namespace Go.H
open Go Go.Proofs.Tryz
variable [Inv prog]
theorem s_impl_needs (k : Int) : SemX prog 139 [aI k] [] [rB (nd1 k), rB (nd2 k), rB (nd3 k), rB (nd4 k)] [] := by
 refine goF [] [] [] func139 ?_
 refine D ?_
 refine kR (s_impl_in k 5 8) ?_
 refine D ?_
 refine kR (s_impl_in k 5 6) ?_
 refine D ?_
 refine E ?_
 first
 | exact trivial
 | simp only [go_sem, nd1, nd2, nd3, nd4, rB]; done
 | try simp only [go_sem, nd1, nd2, nd3, nd4, rB]
   simp
end Go.H
end
section
set_option maxRecDepth 100000
set_option maxHeartbeats 4000000
set_option cbv.maxSteps 4000000
set_option linter.unusedVariables false
set_option linter.unusedSimpArgs false
namespace Go.H
open Go Go.Proofs.Tryz
variable [Inv prog]
theorem s_impl_isNumber (x : Cmd) : SemX prog 141 [aS (eCmd x)] [] [rB (isNum x)] [] := by
 refine goF [] [] [] func141 ?_
 refine D ?_
 refine cC (fun c0 => ?_) (fun c0 => ?_)
 · skip
   refine D ?_
   refine cC (fun c1 => ?_) (fun c1 => ?_)
   · skip
     refine D ?_
     refine kR (s_impl_in _ _ _) ?_
     refine D ?_
     refine E ?_
     first
     | exact trivial
     | simp only [go_sem, isNum]; done
     | try simp only [go_sem, isNum]
       first | (exfalso; omega) | (simp [*]; done)
   · skip
     refine D ?_
     refine cC (fun c2 => ?_) (fun c2 => ?_)
     · skip
       refine D ?_
       refine kR (s_impl_in _ _ _) ?_
       refine D ?_
       refine E ?_
       first
       | exact trivial
       | simp only [go_sem, isNum]; done
       | try simp only [go_sem, isNum]
         first | (exfalso; omega) | (simp [*]; done)
     · skip
       refine D ?_
       refine cC (fun c3 => ?_) (fun c3 => ?_)
       · skip
         refine D ?_
         refine kR (s_impl_in _ _ _) ?_
         refine D ?_
         refine E ?_
         first
         | exact trivial
         | simp only [go_sem, isNum]; done
         | try simp only [go_sem, isNum]
           first | (exfalso; omega) | (simp [*]; done)
       · skip
         refine D ?_
         refine kR (s_impl_isPort _) ?_
         refine D ?_
         refine E ?_
         first
         | exact trivial
         | simp only [go_sem, isNum]; done
         | try simp only [go_sem, isNum]
           first | (exfalso; omega) | (simp [*]; done)
 · skip
   refine D ?_
   refine cC (fun c1 => ?_) (fun c1 => ?_)
   · skip
     refine D ?_
     refine kR (s_impl_in _ _ _) ?_
     refine D ?_
     refine E ?_
     first
     | exact trivial
     | simp only [go_sem, isNum]; done
     | try simp only [go_sem, isNum]
       first | (exfalso; omega) | (simp [*]; done)
   · skip
     refine D ?_
     refine cC (fun c2 => ?_) (fun c2 => ?_)
     · skip
       refine D ?_
       refine kR (s_impl_in _ _ _) ?_
       refine D ?_
       refine E ?_
       first
       | exact trivial
       | simp only [go_sem, isNum]; done
       | try simp only [go_sem, isNum]
         first | (exfalso; omega) | (simp [*]; done)
     · skip
       refine D ?_
       refine cC (fun c3 => ?_) (fun c3 => ?_)
       · skip
         refine D ?_
         refine kR (s_impl_in _ _ _) ?_
         refine D ?_
         refine E ?_
         first
         | exact trivial
         | simp only [go_sem, isNum]; done
         | try simp only [go_sem, isNum]
           first | (exfalso; omega) | (simp [*]; done)
       · skip
         refine D ?_
         refine kR (s_impl_isPort _) ?_
         refine D ?_
         refine E ?_
         first
         | exact trivial
         | simp only [go_sem, isNum]; done
         | try simp only [go_sem, isNum]
           first | (exfalso; omega) | (simp [*]; done)
end Go.H
end
section
set_option maxRecDepth 100000
set_option maxHeartbeats 4000000
set_option cbv.maxSteps 4000000
set_option linter.unusedVariables false
set_option linter.unusedSimpArgs false
namespace Go.H
open Go Go.Proofs.Tryz
variable [Inv prog]
section
attribute [local go_sem] exp_eq
theorem s_impl_CmdFault (x : Cmd) : SemX prog 77 [aS (eCmd x)] [] [rI (cmdFault x)] [] := by
 refine goF [] [] [] func77 ?_
 refine D ?_
 refine kR (s_impl_in _ _ _) ?_
 refine D ?_
 refine cC (fun c0 => ?_) (fun c0 => ?_)
 · skip
   refine D ?_
   refine E ?_
   first
   | exact trivial
   | simp only [go_sem, cmdFault]; done
   | try simp only [go_sem, cmdFault]
     grind
 · skip
   refine D ?_
   refine kR (s_impl_needs _) ?_
   refine D ?_
   refine kR (s_impl_in _ _ _) ?_
   refine D ?_
   refine kRg (s_impl_isName _) ?_
   refine D ?_
   refine kRg (s_impl_isAddress _) ?_
   refine D ?_
   refine kRg (s_impl_isNumber _) ?_
   refine D ?_
   refine kRg (s_impl_isProto _) ?_
   refine D ?_
   refine cC (fun c1 => ?_) (fun c1 => ?_)
   · skip
     refine D ?_
     refine E ?_
     first
     | exact trivial
     | simp only [go_sem, cmdFault]; done
     | try simp only [go_sem, cmdFault]
       grind
   · skip
     refine D ?_
     refine cC (fun c2 => ?_) (fun c2 => ?_)
     · skip
       refine D ?_
       refine E ?_
       first
       | exact trivial
       | simp only [go_sem, cmdFault]; done
       | try simp only [go_sem, cmdFault]
         grind
     · skip
       refine D ?_
       refine E ?_
       first
       | exact trivial
       | simp only [go_sem, cmdFault]; done
       | try simp only [go_sem, cmdFault]
         grind
end
end Go.H
end
section
set_option maxRecDepth 100000
set_option maxHeartbeats 4000000
set_option cbv.maxSteps 4000000
set_option linter.unusedVariables false
set_option linter.unusedSimpArgs false
namespace Go.H
open Go Go.Proofs.Tryz
variable [Inv prog]
theorem s_impl_EntryFault (x : Entry) : SemX prog 105 [aS (eEntry x)] [] [rI (entryFault x)] [] := by
 refine goF [] [] [] func105 ?_
 refine D ?_
 refine kR (s_impl_in _ _ _) ?_
 refine D ?_
 refine kRg (s_impl_in _ _ _) ?_
 refine D ?_
 refine kRg (s_impl_in _ _ _) ?_
 refine D ?_
 refine cC (fun c0 => ?_) (fun c0 => ?_)
 · skip
   refine D ?_
   refine E ?_
   first
   | exact trivial
   | simp only [go_sem, entryFault]; done
   | try simp only [go_sem, entryFault]
     simp only [entryFault, cmdZero]
     grind
 · skip
   refine D ?_
   refine cC (fun c1 => ?_) (fun c1 => ?_)
   · skip
     refine D ?_
     refine E ?_
     first
     | exact trivial
     | simp only [go_sem, entryFault]; done
     | try simp only [go_sem, entryFault]
       simp only [entryFault, cmdZero]
       grind
   · skip
     refine D ?_
     refine cC (fun c2 => ?_) (fun c2 => ?_)
     · skip
       refine D ?_
       refine kR (s_impl_CmdFault _) ?_
       refine D ?_
       refine E ?_
       first
       | exact trivial
       | simp only [go_sem, entryFault]; done
       | try simp only [go_sem, entryFault]
         simp only [entryFault, cmdZero]
         grind
     · skip
       refine D ?_
       refine cC (fun c3 => ?_) (fun c3 => ?_)
       · skip
         refine D ?_
         refine E ?_
         first
         | exact trivial
         | simp only [go_sem, entryFault]; done
         | try simp only [go_sem, entryFault]
           simp only [entryFault, cmdZero]
           grind
       · skip
         refine D ?_
         refine E ?_
         first
         | exact trivial
         | simp only [go_sem, entryFault]; done
         | try simp only [go_sem, entryFault]
           simp only [entryFault, cmdZero]
           grind
end Go.H
end
section
set_option maxRecDepth 100000
set_option maxHeartbeats 4000000
set_option cbv.maxSteps 4000000
set_option linter.unusedVariables false
set_option linter.unusedSimpArgs false
namespace Go.H
open Go Go.Proofs.Tryz
variable [Inv prog]
theorem s_slices_Clone_Backend (xs : List Backend) (hl : xs.length ≤ 2097152) : SemX prog 149 [aT (.sl false 5 (xs.map eBackend))] [] [.one (.sl true 5 (xs.map eBackend))] [] := by
 refine goF [] [] [] func149 ?_
 refine D ?_
 refine RW_isn (fun b => xs.map eBackend ≠ [] → b = false) rfl rfl (by simp only [go_sem] <;> and_intros <;> first | with_reducible exact rfl | omega | with_reducible trivial | (intros; simp_all; done) | grind) (fun b hb => ?_)
 refine D ?_
 refine cC (fun c0 => ?_) (fun c0 => ?_)
 · skip
   have hx : xs = [] := by
     cases xs with
     | nil => rfl
     | cons a l => have := hb (by simp); rw [this] at c0; cases c0
   subst hx
   refine D ?_
   exact E trivial
 · skip
   refine D ?_
   exact E trivial
end Go.H
end
section
set_option maxRecDepth 100000
set_option maxHeartbeats 4000000
set_option cbv.maxSteps 4000000
set_option linter.unusedVariables false
set_option linter.unusedSimpArgs false
namespace Go.H
open Go Go.Proofs.Tryz
variable [Inv prog]
theorem s_slices_Clone_Vip (xs : List Vip) (hl : xs.length ≤ 2097152) : SemX prog 150 [aT (.sl false 4 (xs.map (eVip false)))] [] [.one (.sl true 4 (xs.map (eVip false)))] [] := by
 refine goF [] [] [] func150 ?_
 refine D ?_
 refine RW_isn (fun b => xs.map (eVip false) ≠ [] → b = false) rfl rfl (by simp only [go_sem] <;> and_intros <;> first | with_reducible exact rfl | omega | with_reducible trivial | (intros; simp_all; done) | grind) (fun b hb => ?_)
 refine D ?_
 refine cC (fun c0 => ?_) (fun c0 => ?_)
 · skip
   have hx : xs = [] := by
     cases xs with
     | nil => rfl
     | cons a l => have := hb (by simp); rw [this] at c0; cases c0
   subst hx
   refine D ?_
   exact E trivial
 · skip
   refine D ?_
   exact E trivial
end Go.H
end
section
set_option maxRecDepth 100000
set_option maxHeartbeats 4000000
set_option cbv.maxSteps 4000000
set_option linter.unusedVariables false
set_option linter.unusedSimpArgs false
namespace Go.H
open Go Go.Proofs.Tryz
variable [Inv prog]
theorem s_slices_Clone_int64 (xs : List Int) (hl : xs.length ≤ 2097152) : SemX prog 151 [aT (.sl false 1 (xs.map eI_i64))] [] [.one (.sl true 1 (xs.map eI_i64))] [] := by
 refine goF [] [] [] func151 ?_
 refine D ?_
 refine RW_isn (fun b => xs.map eI_i64 ≠ [] → b = false) rfl rfl (by simp only [go_sem] <;> and_intros <;> first | with_reducible exact rfl | omega | with_reducible trivial | (intros; simp_all; done) | grind) (fun b hb => ?_)
 refine D ?_
 refine cC (fun c0 => ?_) (fun c0 => ?_)
 · skip
   have hx : xs = [] := by
     cases xs with
     | nil => rfl
     | cons a l => have := hb (by simp); rw [this] at c0; cases c0
   subst hx
   refine D ?_
   exact E trivial
 · skip
   refine D ?_
   exact E trivial
end Go.H
end
section
set_option maxRecDepth 100000
set_option maxHeartbeats 4000000
set_option cbv.maxSteps 4000000
set_option linter.unusedVariables false
set_option linter.unusedSimpArgs false
namespace Go.H
open Go Go.Proofs.Tryz
variable [Inv prog]
theorem s_impl_Config_copied (c : Config) (hx : limG 2097152 c) : SemX prog 92 [aS (eConfig false c)] [] [.agg (eConfig true c)] [] := by
 refine goF [] [(1, 1, [8192], []), (1, 2, [], [32768]), (1, 4, [8192], []), (1, 5, [], [45056]), (1, 7, [8192], [8192]), (1, 9, [8192], [8192]), (5, 1, [8192], []), (5, 4, [20480], []), (5, 5, [45056], [110592]), (5, 6, [45056], []), (5, 8, [45056, 110592], [45056, 110592])] [] func92 ?_
 obtain ⟨hb, hv, hV⟩ := id hx
 refine D ?_
 refine kD (s_slices_Clone_Backend c.backends hb) ?_
 refine D ?_
 refine DW_callN (by kernel_rfl) (s_slices_Clone_Vip c.vips hv) false [] [] [] rfl rfl (by decide) trivial (by simp only [go_sem] <;> and_intros <;> first | with_reducible exact rfl | omega | with_reducible trivial | (intros; simp_all; done) | grind) (by first | rfl | (simp only [go_sem]; done)) (by simp only [go_sem]; exact rfl) ?_
 refine D ?_
 refine L (α := Nat) (fun i => [(16, .int .i64 i)]) (fun i => [(45056, .arr ⟨4, (c.vips.take i).map (eVip true) ++ (c.vips.drop i).map (eVip false), 1 + i, none⟩)]) (fun i => c.vips.length - i) (fun i => i ≤ c.vips.length) 0 [] (fun i hI => ?_)
 refine D ?_
 refine cC (fun c0 => ?_) (fun c0 => ?_)
 · skip
   have hg := mix_getD (eVip true) (eVip false) zVip (xs := c.vips) (i := i) (by omega)
   have hA := hg
   refine D ?_
   refine kD (s_slices_Clone_int64 (c.vips.getD i zVip).names (hV _ (getD_mem zVip (by omega)))) ?_
   refine D ?_
   refine lp_next (i+1) [] ?_ ?_ ?_
   · simp only [go_sem, hA] <;> and_intros <;> first | with_reducible exact rfl | (first | omega | (refine arr_eq ?_ (by omega); rw [← mix_set (eVip true) (eVip false) zVip (by omega)]; simp only [eVip]))
   · omega
   · omega
 · skip
   obtain rfl : i = c.vips.length := by omega
   refine D ?_
   refine E ?_
   first
   | exact trivial
   | rw [List.drop_length, List.map_nil, List.append_nil, List.take_of_length_le (by simp)]
end Go.H
end
section
set_option maxRecDepth 100000
set_option maxHeartbeats 4000000
set_option cbv.maxSteps 4000000
set_option linter.unusedVariables false
set_option linter.unusedSimpArgs false
namespace Go.H
open Go Go.Proofs.Tryz
variable [Inv prog]
theorem s_slices_IndexFunc_Vip (R : List Vip) (hl : R.length ≤ 2097152) (fn : Nat) (a p r : Int) (q : Vip → Bool) (hq : callB prog fn = true) (hf : ∀ b : Vip, b ∈ R → SemX prog fn [aS (eVip false b), aT (.ptr [.int .i64 a]), aT (.ptr [.int .i64 p]), aT (.ptr [.int .i64 r])] [] [rB (q b)] []) : SemX prog 193 [aT (.sl false 4 (R.map (eVip false))), .one (.fn fn [.t (.ptr [.int .i64 a]), .t (.ptr [.int .i64 p]), .t (.ptr [.int .i64 r])])] [] [rI (idxG q R)] [] := by
 refine goF [] [] [] func193 ?_
 refine D ?_
 refine L (α := Nat) (fun x => [(8, .int .i64 x)]) (fun x => []) (fun x => R.length - x) (fun x => x ≤ R.length ∧ ∀ j, j < x → q (R.getD j zVip) = false) 0 [] (fun x hL => ?_) (hi := by exact ⟨Nat.zero_le _, fun j hj => by omega⟩)
 obtain ⟨hx2, hno⟩ := hL
 refine D ?_
 refine cC (fun c0 => ?_) (fun c0 => ?_)
 · skip
   refine D ?_
   refine kR (hf (R.getD x zVip) (getD_mem zVip (by omega))) ?_ hq
   refine D ?_
   refine cC (fun c1 => ?_) (fun c1 => ?_)
   · skip
     refine D ?_
     refine E ?_
     rw [idxG_some zVip (by omega) hno c1]
   · skip
     refine D ?_
     refine N (x+1) [] (hi := ?_) (hm := ?_)
     · refine ⟨by omega, fun j hj => ?_⟩
       rcases Nat.lt_or_ge j x with h | h
       · exact hno j h
       · obtain rfl : j = x := by omega
         first | exact c1 | (simpa [isB, isV, eqI] using c1) | (simp [isB, isV, eqI]; grind)
     · omega
 · skip
   obtain rfl : x = R.length := by omega
   refine D ?_
   refine E ?_
   rw [idxG_none zVip hno]
theorem s_slices_IndexFunc_Vip_cmd (R : List Vip) (hl : R.length ≤ 2097152) (fn : Nat) (x_ : Cmd) (q : Vip → Bool) (hq : callB prog fn = true) (hf : ∀ b : Vip, b ∈ R → SemX prog fn [aS (eVip false b), aT (.ptr (eCmd x_))] [] [rB (q b)] []) : SemX prog 193 [aT (.sl false 4 (R.map (eVip false))), .one (.fn fn [.t (.ptr (eCmd x_))])] [] [rI (idxG q R)] [] := by
 refine goF [] [] [] func193 ?_
 refine D ?_
 refine L (α := Nat) (fun x => [(8, .int .i64 x)]) (fun x => []) (fun x => R.length - x) (fun x => x ≤ R.length ∧ ∀ j, j < x → q (R.getD j zVip) = false) 0 [] (fun x hL => ?_) (hi := by exact ⟨Nat.zero_le _, fun j hj => by omega⟩)
 obtain ⟨hx2, hno⟩ := hL
 refine D ?_
 refine cC (fun c0 => ?_) (fun c0 => ?_)
 · skip
   refine D ?_
   refine kR (hf (R.getD x zVip) (getD_mem zVip (by omega))) ?_ hq
   refine D ?_
   refine cC (fun c1 => ?_) (fun c1 => ?_)
   · skip
     refine D ?_
     refine E ?_
     rw [idxG_some zVip (by omega) hno c1]
   · skip
     refine D ?_
     refine N (x+1) [] (hi := ?_) (hm := ?_)
     · refine ⟨by omega, fun j hj => ?_⟩
       rcases Nat.lt_or_ge j x with h | h
       · exact hno j h
       · obtain rfl : j = x := by omega
         first | exact c1 | (simpa [isB, isV, eqI] using c1) | (simp [isB, isV, eqI]; grind)
     · omega
 · skip
   obtain rfl : x = R.length := by omega
   refine D ?_
   refine E ?_
   rw [idxG_none zVip hno]
end Go.H
end
section
set_option maxRecDepth 100000
set_option maxHeartbeats 4000000
set_option cbv.maxSteps 4000000
set_option linter.unusedVariables false
set_option linter.unusedSimpArgs false
namespace Go.H
open Go Go.Proofs.Tryz
variable [Inv prog]
theorem s_impl_Config_vip_1 (v : Vip) (a p q : Int) : SemX prog 194 [aS (eVip false v), aT (.ptr [.int .i64 a]), aT (.ptr [.int .i64 p]), aT (.ptr [.int .i64 q])] [] [rB (isV a p q v)] [] := by
 refine goF [] [] [] func194 ?_
 refine D ?_
 refine E ?_
 first
 | exact trivial
 | simp only [go_sem, isV]
end Go.H
end
section
set_option maxRecDepth 100000
set_option maxHeartbeats 4000000
set_option cbv.maxSteps 4000000
set_option linter.unusedVariables false
set_option linter.unusedSimpArgs false
namespace Go.H
open Go Go.Proofs.Tryz
variable [Inv prog]
theorem s_impl_Config_vip (c : Config) (hx : limG 2097152 c) (a p r : Int) : SemX prog 179 [aT (.ptr (eConfig false c)), aI a, aI p, aI r] [] [rI (findV c.vips a p r)] [] := by
 refine goF [] [] [] func179 ?_
 obtain ⟨hb, hv, hV⟩ := id hx
 refine D ?_
 refine kR (s_slices_IndexFunc_Vip c.vips hv 194 a p r (isV a p r) (by kernel_rfl) (fun v _ => s_impl_Config_vip_1 v a p r)) ?_
 refine D ?_
 refine E ?_
 first
 | exact trivial
 | simp only [go_sem, findV]
end Go.H
end
section
set_option maxRecDepth 100000
set_option maxHeartbeats 4000000
set_option cbv.maxSteps 4000000
set_option linter.unusedVariables false
set_option linter.unusedSimpArgs false
namespace Go.H
open Go Go.Proofs.Tryz
variable [Inv prog]
theorem s_slices_insertionSortCmpFunc_Backend (R : List Backend) (b : Backend) (k : Nat) (fn : Nat) (cm : Backend → Backend → Int) (hq : callB prog fn = true) (hf : ∀ p q : Backend, SemX prog fn [aS (eBackend p), aS (eBackend q)] [] [rI (cm p q)] []) (hk : k ≤ R.length) (hl : R.length ≤ 11) (h1 : ∀ q, k ≤ q → q < R.length → cm b (R.getD q zBackend) < 0) (h2 : ∀ q, q < k → ¬ cm b (R.getD q zBackend) < 0) (h3 : ∀ i, 0 < i → i < R.length → ¬ cm (R.getD i zBackend) (R.getD (i - 1) zBackend) < 0) : SemX prog 206 [.one (.arr 0), aI 0, aI (R.length + 1), .one (.fn fn [])] [.arr 5 ((R ++ [b]).map eBackend)] [] [.arr 5 ((insAt R b k).map eBackend)] := by
 refine goF [] [(4, 7, [1000000], []), (4, 8, [1000000], []), (4, 12, [1000000], []), (4, 13, [1000000], []), (6, 8, [1000000], []), (6, 9, [1000000], []), (6, 12, [1000000], []), (6, 13, [1000000], []), (6, 14, [1000000], []), (6, 15, [1000000], [1000000]), (6, 16, [1000000], []), (6, 17, [1000000], [1000000])] [] func206 ?_
 refine D ?_
 refine L (α := Nat) (fun x => [(8, .int .i64 x)]) (fun x => [(1000000, .arr ⟨5, (rowO R b k x).map eBackend, verO R k x, none⟩)]) (fun x => R.length + 1 - x) (fun x => 1 ≤ x ∧ x ≤ R.length + 1) 1 [] (fun x hL => ?_) (by simp only [go_sem] <;> and_intros <;> first | with_reducible exact rfl | (first | omega | (refine arr_eq ?_ ?_ <;> simp only [rowO_one R b hk, verO_one R hk]; done))) (by exact ⟨by omega, by omega⟩)
 obtain ⟨hx1, hx2⟩ := hL
 refine D ?_
 refine cC (fun c0 => ?_) (fun c0 => ?_)
 · skip
   have hxl : x ≤ R.length := by omega
   refine D ?_
   refine L (α := Nat) (fun j => [(9, .int .i64 j)]) (fun j => [(1000000, .arr ⟨5, (rowI R b x j).map eBackend, 1 + 2 * (x - j), none⟩)]) (fun j => j) (fun j => j ≤ x ∧ (x < R.length → j = x) ∧ (x = R.length → k ≤ j)) x [] (fun j hL => ?_) (by simp only [go_sem] <;> and_intros <;> first | with_reducible exact rfl | (first | omega | (refine arr_eq (by rw [rowO_in R b k hxl, rowI_self R b hxl]) (by have := verO_in R k hxl; omega)))) (by exact ⟨Nat.le_refl _, fun _ => rfl, fun h => by omega⟩)
   obtain ⟨hj, hjx, hkj⟩ := hL
   refine D ?_
   refine kDg (hf ((rowI R b x j).getD j zBackend) ((rowI R b x j).getD (j - 1) zBackend)) ?_ hq
   refine D ?_
   refine cC (fun c1 => ?_) (fun c1 => ?_)
   · skip
     have hc : 0 < j ∧ cm ((rowI R b x j).getD j zBackend) ((rowI R b x j).getD (j - 1) zBackend) < 0 := by simpa using c1
     have hgo := rowI_go zBackend hxl hj h3 hjx h2 hc
     have hg : ∀ r, (((rowI R b x j).map eBackend).set j r).getD (j - 1) dBackend = eBackend (((rowI R b x j).getD (j - 1) zBackend)) := fun r => by
       rw [List.getD_eq_getElem?_getD, List.getElem?_set_ne (by omega), ← List.getD_eq_getElem?_getD]
       simp only [go_sem]
     have hA := hg
     refine D ?_
     refine lp_next (j - 1) [] ?_ ?_ ?_
     · simp only [go_sem, hA] <;> and_intros <;> first | with_reducible exact rfl | (first | omega | (refine int_eq ?_; omega) | (refine arr_eq (by simpa only [eBackend] using rowI_swap eBackend R b zBackend hgo.1 hj hc.1) (by omega)))
     · exact ⟨by omega, fun h => by omega, fun h => by omega⟩
     · omega
   · skip
     have hc : ¬ (0 < j ∧ cm ((rowI R b x j).getD j zBackend) ((rowI R b x j).getD (j - 1) zBackend) < 0) := by simpa using c1
     have hend := rowI_end zBackend hxl hj h1 hkj hc
     refine D ?_
     refine lp_next (x+1) [] ?_ ?_ ?_
     · simp only [go_sem] <;> and_intros <;> first | with_reducible exact rfl | (first | omega | (refine int_eq ?_; omega) | (refine arr_eq ?_ ?_ <;> first | rw [hend.1] | (unfold verO; split <;> omega)))
     · omega
     · omega
 · skip
   obtain rfl : x = R.length + 1 := by omega
   refine D ?_
   refine E ?_
   first
   | exact trivial
   | rw [rowO_out]
end Go.H
end
section
set_option maxRecDepth 100000
set_option maxHeartbeats 4000000
set_option cbv.maxSteps 4000000
set_option linter.unusedVariables false
set_option linter.unusedSimpArgs false
namespace Go.H
open Go Go.Proofs.Tryz
variable [Inv prog]
theorem s_slices_pdqsortCmpFunc_Backend (R : List Backend) (b : Backend) (k : Nat) (fn : Nat) (cm : Backend → Backend → Int) (hq : callB prog fn = true) (hf : ∀ p q : Backend, SemX prog fn [aS (eBackend p), aS (eBackend q)] [] [rI (cm p q)] []) (hk : k ≤ R.length) (hl : R.length ≤ 11) (h1 : ∀ q, k ≤ q → q < R.length → cm b (R.getD q zBackend) < 0) (h2 : ∀ q, q < k → ¬ cm b (R.getD q zBackend) < 0) (h3 : ∀ i, 0 < i → i < R.length → ¬ cm (R.getD i zBackend) (R.getD (i - 1) zBackend) < 0) (lim : Int) : SemX prog 195 [.one (.arr 0), aI 0, aI (R.length + 1), aI lim, .one (.fn fn [])] [.arr 5 ((R ++ [b]).map eBackend)] [] [.arr 5 ((insAt R b k).map eBackend)] := by
 refine goF [] [] [] func195 ?_
 refine D ?_
 refine L (α := Nat) (fun x => []) (fun x => []) (fun x => 0) (fun x => True) 0 [] (fun x hI => ?_) (hi := by trivial)
 refine D ?_
 refine cC (fun c0 => ?_) (fun c0 => ?_)
 · skip
   refine D ?_
   refine kRk [1000000] [] [] (s_slices_insertionSortCmpFunc_Backend R b k fn cm hq hf hk hl h1 h2 h3) ?_
   refine D ?_
   exact E trivial
 · skip
   omega
end Go.H
end
section
set_option maxRecDepth 100000
set_option maxHeartbeats 4000000
set_option cbv.maxSteps 4000000
set_option linter.unusedVariables false
set_option linter.unusedSimpArgs false
namespace Go.H
open Go Go.Proofs.Tryz
variable [Inv prog]
theorem s_math_bits_Len64 (n : Nat) (hn : n ≤ 12) : SemX prog 215 [.one (.t (.int .u64 n))] [] [rI (if n = 0 then 0 else if n < 2 then 1 else if n < 4 then 2 else if n < 8 then 3 else 4 : Int)] [] := by
 refine goF [] [] [] func215 ?_
 refine D ?_
 refine cC (fun c0 => ?_) (fun c0 => ?_)
 · skip
   exfalso
   omega
 · skip
   refine D ?_
   refine cC (fun c1 => ?_) (fun c1 => ?_)
   · skip
     exfalso
     omega
   · skip
     refine D ?_
     refine cC (fun c2 => ?_) (fun c2 => ?_)
     · skip
       exfalso
       omega
     · skip
       refine D ?_
       refine E ?_
       rcases (by omega : n = 0 ∨ n = 1 ∨ n = 2 ∨ n = 3 ∨ n = 4 ∨ n = 5 ∨ n = 6 ∨ n = 7 ∨ n = 8 ∨ n = 9 ∨ n = 10 ∨ n = 11 ∨ n = 12) with rfl | rfl | rfl | rfl | rfl | rfl | rfl | rfl | rfl | rfl | rfl | rfl | rfl
       all_goals exact ⟨by decide, ⟨by decide, by decide⟩, rfl⟩
end Go.H
end
section
set_option maxRecDepth 100000
set_option maxHeartbeats 4000000
set_option cbv.maxSteps 4000000
set_option linter.unusedVariables false
set_option linter.unusedSimpArgs false
namespace Go.H
open Go Go.Proofs.Tryz
variable [Inv prog]
theorem s_math_bits_Len (n : Nat) (hn : n ≤ 12) : SemX prog 196 [.one (.t (.int .u64 n))] [] [rI (if n = 0 then 0 else if n < 2 then 1 else if n < 4 then 2 else if n < 8 then 3 else 4 : Int)] [] := by
 refine goF [] [] [] func196 ?_
 refine D ?_
 refine cF ?_
 refine D ?_
 refine kR (s_math_bits_Len64 n hn) ?_
 refine D ?_
 exact E trivial
end Go.H
end
section
set_option maxRecDepth 100000
set_option maxHeartbeats 4000000
set_option cbv.maxSteps 4000000
set_option linter.unusedVariables false
set_option linter.unusedSimpArgs false
namespace Go.H
open Go Go.Proofs.Tryz
variable [Inv prog]
theorem s_slices_SortFunc_Backend (R : List Backend) (b : Backend) (k : Nat) (fn : Nat) (cm : Backend → Backend → Int) (hq : callB prog fn = true) (hf : ∀ p q : Backend, SemX prog fn [aS (eBackend p), aS (eBackend q)] [] [rI (cm p q)] []) (hk : k ≤ R.length) (hl : R.length ≤ 11) (h1 : ∀ q, k ≤ q → q < R.length → cm b (R.getD q zBackend) < 0) (h2 : ∀ q, q < k → ¬ cm b (R.getD q zBackend) < 0) (h3 : ∀ i, 0 < i → i < R.length → ¬ cm (R.getD i zBackend) (R.getD (i - 1) zBackend) < 0) : SemX prog 180 [.one (.arr 0), .one (.fn fn [])] [.arr 5 ((R ++ [b]).map eBackend)] [] [.arr 5 ((insAt R b k).map eBackend)] := by
 refine goF [] [] [] func180 ?_
 have hwu : IntKind.u64.wrap ((R.length : Int) + 1) = (R.length : Int) + 1 := by
   have := wrap_u (R.length + 1) (by omega)
   simpa using this
 have hA := hwu
 refine D ?_
 refine kR (s_math_bits_Len (R.length + 1) (by omega)) ?_
 refine D ?_
 refine kRk [1000000] [] [] (s_slices_pdqsortCmpFunc_Backend R b k fn cm hq hf hk hl h1 h2 h3 (if (R.length + 1) = 0 then 0 else if (R.length + 1) < 2 then 1 else if (R.length + 1) < 4 then 2 else if (R.length + 1) < 8 then 3 else 4 : Int)) ?_
 refine D ?_
 exact E trivial
end Go.H
end
section
set_option maxRecDepth 100000
set_option maxHeartbeats 4000000
set_option cbv.maxSteps 4000000
set_option linter.unusedVariables false
set_option linter.unusedSimpArgs false
namespace Go.H
open Go Go.Proofs.Tryz
variable [Inv prog]
theorem s_impl_Config_does_1 (p q : Backend) : SemX prog 181 [aS (eBackend p), aS (eBackend q)] [] [rI (cmpB p q)] [] := by
 refine goF [] [] [] func181 ?_
 refine D ?_
 refine kR (s_cmp_Compare_int64 p.name q.name) ?_
 refine D ?_
 refine E ?_
 first
 | exact trivial
 | simp only [go_sem, cmpB]
end Go.H
end
section
set_option maxRecDepth 100000
set_option maxHeartbeats 4000000
set_option cbv.maxSteps 4000000
set_option linter.unusedVariables false
set_option linter.unusedSimpArgs false
namespace Go.H
open Go Go.Proofs.Tryz
variable [Inv prog]
section
attribute [local go_sem] eRV
theorem s_slices_insertionSortCmpFunc_Vip (R : List RVp) (b : RVp) (k : Nat) (fn : Nat) (cm : RVp → RVp → Int) (hq : callB prog fn = true) (hf : ∀ p q : RVp, SemX prog fn [aS (eRV p), aS (eRV q)] [] [rI (cm p q)] []) (hk : k ≤ R.length) (hl : R.length ≤ 11) (h1 : ∀ q, k ≤ q → q < R.length → cm b (R.getD q zRV) < 0) (h2 : ∀ q, q < k → ¬ cm b (R.getD q zRV) < 0) (h3 : ∀ i, 0 < i → i < R.length → ¬ cm (R.getD i zRV) (R.getD (i - 1) zRV) < 0) : SemX prog 216 [.one (.arr 0), aI 0, aI (R.length + 1), .one (.fn fn [])] [.arr 4 ((R ++ [b]).map eRV)] [] [.arr 4 ((insAt R b k).map eRV)] := by
 refine goF [(54, ⟨none, none, some (90001, true), none⟩), (64, ⟨none, none, some (90001, true), none⟩), (94, ⟨none, none, some (90001, true), none⟩), (102, ⟨none, none, some (90001, true), none⟩), (105, ⟨none, none, some (90001, true), none⟩), (107, ⟨none, none, some (90001, true), none⟩)] [(4, 7, [1000000], []), (4, 8, [1000000], []), (4, 12, [1000000], []), (4, 13, [1000000], []), (4, 14, [1000000], []), (6, 8, [1000000], []), (6, 9, [1000000], []), (6, 12, [1000000], []), (6, 13, [1000000], []), (6, 14, [1000000], []), (6, 15, [1000000], [1000000]), (6, 16, [1000000], []), (6, 17, [1000000], [1000000])] [] func216 ?_
 refine D ?_
 refine L (α := Nat) (fun x => [(8, .int .i64 x)]) (fun x => [(1000000, .arr ⟨4, (rowO R b k x).map eRV, verO R k x, none⟩)]) (fun x => R.length + 1 - x) (fun x => 1 ≤ x ∧ x ≤ R.length + 1) 1 [] (fun x hL => ?_) (by simp only [go_sem] <;> and_intros <;> first | with_reducible exact rfl | (first | omega | (refine arr_eq ?_ ?_ <;> simp only [rowO_one R b hk, verO_one R hk]; done))) (by exact ⟨by omega, by omega⟩)
 obtain ⟨hx1, hx2⟩ := hL
 refine D ?_
 refine cC (fun c0 => ?_) (fun c0 => ?_)
 · skip
   have hxl : x ≤ R.length := by omega
   refine D ?_
   refine L (α := Nat) (fun j => [(9, .int .i64 j)]) (fun j => [(1000000, .arr ⟨4, (rowI R b x j).map eRV, 1 + 2 * (x - j), none⟩)]) (fun j => j) (fun j => j ≤ x ∧ (x < R.length → j = x) ∧ (x = R.length → k ≤ j)) x [] (fun j hL => ?_) (by simp only [go_sem] <;> and_intros <;> first | with_reducible exact rfl | (first | omega | (refine arr_eq (by rw [rowO_in R b k hxl, rowI_self R b hxl]) (by have := verO_in R k hxl; omega)))) (by exact ⟨Nat.le_refl _, fun _ => rfl, fun h => by omega⟩)
   obtain ⟨hj, hjx, hkj⟩ := hL
   refine D ?_
   refine kDg (hf ((rowI R b x j).getD j zRV) ((rowI R b x j).getD (j - 1) zRV)) ?_ hq
   refine D ?_
   refine cC (fun c1 => ?_) (fun c1 => ?_)
   · skip
     have hc : 0 < j ∧ cm ((rowI R b x j).getD j zRV) ((rowI R b x j).getD (j - 1) zRV) < 0 := by simpa using c1
     have hgo := rowI_go zRV hxl hj h3 hjx h2 hc
     have hg : ∀ r, (((rowI R b x j).map eRV).set j r).getD (j - 1) dRV = eRV (((rowI R b x j).getD (j - 1) zRV)) := fun r => by
       rw [List.getD_eq_getElem?_getD, List.getElem?_set_ne (by omega), ← List.getD_eq_getElem?_getD]
       simp only [go_sem]
     have hA := hg
     refine D ?_
     refine lp_next (j - 1) [] ?_ ?_ ?_
     · simp only [go_sem, hA] <;> and_intros <;> first | with_reducible exact rfl | (first | omega | (refine int_eq ?_; omega) | (refine arr_eq (by simpa only [eRV] using rowI_swap eRV R b zRV hgo.1 hj hc.1) (by omega)))
     · exact ⟨by omega, fun h => by omega, fun h => by omega⟩
     · omega
   · skip
     have hc : ¬ (0 < j ∧ cm ((rowI R b x j).getD j zRV) ((rowI R b x j).getD (j - 1) zRV) < 0) := by simpa using c1
     have hend := rowI_end zRV hxl hj h1 hkj hc
     refine D ?_
     refine lp_next (x+1) [] ?_ ?_ ?_
     · simp only [go_sem] <;> and_intros <;> first | with_reducible exact rfl | (first | omega | (refine int_eq ?_; omega) | (refine arr_eq ?_ ?_ <;> first | rw [hend.1] | (unfold verO; split <;> omega)))
     · omega
     · omega
 · skip
   obtain rfl : x = R.length + 1 := by omega
   refine D ?_
   refine E ?_
   first
   | exact trivial
   | rw [rowO_out]
end
end Go.H
end
section
set_option maxRecDepth 100000
set_option maxHeartbeats 4000000
set_option cbv.maxSteps 4000000
set_option linter.unusedVariables false
set_option linter.unusedSimpArgs false
namespace Go.H
open Go Go.Proofs.Tryz
variable [Inv prog]
section
attribute [local go_sem] eRV
theorem s_slices_pdqsortCmpFunc_Vip (R : List RVp) (b : RVp) (k : Nat) (fn : Nat) (cm : RVp → RVp → Int) (hq : callB prog fn = true) (hf : ∀ p q : RVp, SemX prog fn [aS (eRV p), aS (eRV q)] [] [rI (cm p q)] []) (hk : k ≤ R.length) (hl : R.length ≤ 11) (h1 : ∀ q, k ≤ q → q < R.length → cm b (R.getD q zRV) < 0) (h2 : ∀ q, q < k → ¬ cm b (R.getD q zRV) < 0) (h3 : ∀ i, 0 < i → i < R.length → ¬ cm (R.getD i zRV) (R.getD (i - 1) zRV) < 0) (lim : Int) : SemX prog 197 [.one (.arr 0), aI 0, aI (R.length + 1), aI lim, .one (.fn fn [])] [.arr 4 ((R ++ [b]).map eRV)] [] [.arr 4 ((insAt R b k).map eRV)] := by
 refine goF [] [] [] func197 ?_
 refine D ?_
 refine L (α := Nat) (fun x => []) (fun x => []) (fun x => 0) (fun x => True) 0 [] (fun x hI => ?_) (hi := by trivial)
 refine D ?_
 refine cC (fun c0 => ?_) (fun c0 => ?_)
 · skip
   refine D ?_
   refine kRk [1000000] [] [] (s_slices_insertionSortCmpFunc_Vip R b k fn cm hq hf hk hl h1 h2 h3) ?_
   refine D ?_
   exact E trivial
 · skip
   omega
end
end Go.H
end
section
set_option maxRecDepth 100000
set_option maxHeartbeats 4000000
set_option cbv.maxSteps 4000000
set_option linter.unusedVariables false
set_option linter.unusedSimpArgs false
namespace Go.H
open Go Go.Proofs.Tryz
variable [Inv prog]
section
attribute [local go_sem] eRV
theorem s_slices_SortFunc_Vip_raw (R : List RVp) (b : RVp) (k : Nat) (fn : Nat) (cm : RVp → RVp → Int) (hq : callB prog fn = true) (hf : ∀ p q : RVp, SemX prog fn [aS (eRV p), aS (eRV q)] [] [rI (cm p q)] []) (hk : k ≤ R.length) (hl : R.length ≤ 11) (h1 : ∀ q, k ≤ q → q < R.length → cm b (R.getD q zRV) < 0) (h2 : ∀ q, q < k → ¬ cm b (R.getD q zRV) < 0) (h3 : ∀ i, 0 < i → i < R.length → ¬ cm (R.getD i zRV) (R.getD (i - 1) zRV) < 0) : SemX prog 182 [.one (.arr 0), .one (.fn fn [])] [.arr 4 ((R ++ [b]).map eRV)] [] [.arr 4 ((insAt R b k).map eRV)] := by
 refine goF [] [] [] func182 ?_
 have hwu : IntKind.u64.wrap ((R.length : Int) + 1) = (R.length : Int) + 1 := by
   have := wrap_u (R.length + 1) (by omega)
   simpa using this
 have hA := hwu
 refine D ?_
 refine kR (s_math_bits_Len (R.length + 1) (by omega)) ?_
 refine D ?_
 refine kRk [1000000] [] [] (s_slices_pdqsortCmpFunc_Vip R b k fn cm hq hf hk hl h1 h2 h3 (if (R.length + 1) = 0 then 0 else if (R.length + 1) < 2 then 1 else if (R.length + 1) < 4 then 2 else if (R.length + 1) < 8 then 3 else 4 : Int)) ?_
 refine D ?_
 exact E trivial
end
theorem s_slices_SortFunc_Vip (R : List Vip) (b : Vip) (k : Nat) (fn : Nat) (cm : Vip → Vip → Int) (hq : callB prog fn = true) (hf : ∀ p q : RVp, SemX prog fn [aS (eRV p), aS (eRV q)] [] [rI (cm p.1 q.1)] []) (hk : k ≤ R.length) (hl : R.length ≤ 11) (h1 : ∀ q, k ≤ q → q < R.length → cm b (R.getD q zVip) < 0) (h2 : ∀ q, q < k → ¬ cm b (R.getD q zVip) < 0) (h3 : ∀ i, 0 < i → i < R.length → ¬ cm (R.getD i zVip) (R.getD (i - 1) zVip) < 0) : SemX prog 182 [.one (.arr 0), .one (.fn fn [])] [.arr 4 ((R ++ [b]).map (eVip true))] [] [.arr 4 ((insAt R b k).map (eVip true))] := by
  refine SemX_rawVip fun R' b' e1 e2 => ?_
  subst e1 e2
  simp only [List.length_map] at hk hl h1 h3
  simp only [fst_RV] at h1 h2 h3
  exact s_slices_SortFunc_Vip_raw R' b' k fn (fun p q => cm p.1 q.1) hq hf hk hl h1 h2 h3
end Go.H
end
section
set_option maxRecDepth 100000
set_option maxHeartbeats 4000000
set_option cbv.maxSteps 4000000
set_option linter.unusedVariables false
set_option linter.unusedSimpArgs false
namespace Go.H
open Go Go.Proofs.Tryz
variable [Inv prog]
theorem s_slices_Delete_Vip (R : List (List T)) (i j : Nat) (hij : i < j) (hj : j ≤ R.length) (hl : R.length ≤ 2097152) (hs : cpRows none (R.drop j) = True) (hn : T.noShR (R.take i ++ R.drop j) = True) : SemX prog 183 [.one (.t (.sl true 4 R)), aI i, aI j] [] [.one (.sl true 4 (R.take i ++ R.drop j))] [] := by
 refine goF [(54, ⟨some 7, none, none, none⟩)] [(5, 2, [0], []), (5, 5, [0], []), (5, 6, [0], [0])] [] func183 ?_
 have hA := hs
 refine D ?_
 refine cC (fun c0 => ?_) (fun c0 => ?_)
 · skip
   omega
 · skip
   refine D ?_
   refine E ?_
   rw [if_pos (by omega)]
   exact ⟨congrArg (fun r => [TV.one (T.sl true 4 r)]) (del_rowsR R (by omega) hj _ _ _), rfl, rfl⟩
end Go.H
end
section
set_option maxRecDepth 100000
set_option maxHeartbeats 4000000
set_option cbv.maxSteps 4000000
set_option linter.unusedVariables false
set_option linter.unusedSimpArgs false
namespace Go.H
open Go Go.Proofs.Tryz
variable [Inv prog]
theorem s_cmp_Less_int64 (a b : Int) : SemX prog 224 [aI a, aI b] [] [rB (decide (a < b))] [] := by
 refine goF [] [] [] func224 ?_
 refine D ?_
 refine kR (s_cmp_isNaN_int64 _) ?_
 refine D ?_
 refine kRg (s_cmp_isNaN_int64 _) ?_
 refine D ?_
 exact E trivial
end Go.H
end
section
set_option maxRecDepth 100000
set_option maxHeartbeats 4000000
set_option cbv.maxSteps 4000000
set_option linter.unusedVariables false
set_option linter.unusedSimpArgs false
namespace Go.H
open Go Go.Proofs.Tryz
variable [Inv prog]
theorem s_slices_isNaN_int64 (a : Int) : SemX prog 225 [aI a] [] [rB false] [] := by
 refine goF [] [] [] func225 ?_
 refine D ?_
 exact E trivial
end Go.H
end
section
set_option maxRecDepth 100000
set_option maxHeartbeats 4000000
set_option cbv.maxSteps 4000000
set_option linter.unusedVariables false
set_option linter.unusedSimpArgs false
namespace Go.H
open Go Go.Proofs.Tryz
variable [Inv prog]
theorem s_slices_BinarySearch_int64 (xs : List Int) (v : Int) (hr : rises xs) (hl : xs.length ≤ 2097152) : SemX prog 198 [aT (.sl false 1 (xs.map eI_i64)), aI v] [] [rI (lbn xs v), rB (hasI xs v)] [] := by
 refine goF [] [] [] func198 ?_
 refine D ?_
 refine L (α := Nat × Nat) (fun p => [(7, .int .i64 p.1), (8, .int .i64 p.2)]) (fun p => []) (fun p => p.2 - p.1) (fun p => p.1 ≤ p.2 ∧ p.2 ≤ xs.length ∧ (∀ q, q < p.1 → xs.getD q zI_i64 < v) ∧ (∀ q, p.2 ≤ q → q < xs.length → v ≤ xs.getD q zI_i64)) (0, xs.length) [] (fun x0 hL => ?_) (hi := by exact ⟨Nat.zero_le _, Nat.le_refl _, fun q h => by omega, fun q h1 h2 => by omega⟩)
 obtain ⟨i, j⟩ := x0
 obtain ⟨hij, hj, hlo, hup⟩ := hL
 try dsimp only at *
 refine D ?_
 refine cC (fun c0 => ?_) (fun c0 => ?_)
 · skip
   have hhf := half_nat i j (by omega)
   have hw1 : IntKind.u64.wrap ((i : Int) + j) = i + j := by have := wrap_u (i + j) (by omega); simpa using this
   have hw2 : IntKind.i64.wrap (((i + j) / 2 : Nat) : Int) = ((i + j) / 2 : Nat) := wrap_small (by omega) (by omega)
   have hA := And.intro hhf (And.intro hw1 (hw2))
   refine D ?_
   refine kR (s_cmp_Less_int64 _ _) ?_
   refine D ?_
   refine cC (fun c1 => ?_) (fun c1 => ?_)
   · skip
     refine D ?_
     refine N ((i + j) / 2 + 1, j) [] (hi := ?_) (hm := ?_)
     · dsimp only
       refine ⟨by omega, by omega, fun q hq => ?_, hup⟩
       by_cases e : q = (i + j) / 2
       · subst e; exact c1
       · have := rises_lt hr (i := q) (j := (i + j) / 2) (by omega) (by omega); omega
     · try dsimp only
       omega
   · skip
     refine D ?_
     refine N (i, (i + j) / 2) [] (hi := ?_) (hm := ?_)
     · dsimp only
       refine ⟨by omega, by omega, hlo, fun q h1 h2 => ?_⟩
       by_cases e : q = (i + j) / 2
       · subst e; omega
       · have := rises_lt hr (i := (i + j) / 2) (j := q) (by omega) (by omega); omega
     · try dsimp only
       omega
 · skip
   refine D ?_
   refine kRg (s_slices_isNaN_int64 _) ?_
   refine D ?_
   refine kRg (s_slices_isNaN_int64 _) ?_
   refine D ?_
   refine E ?_
   first
   | exact trivial
   | have hb : lbn xs v = i := lbn_eq (by omega) hlo (fun h => hup i (by omega) h)
     simp [hasI, hb]
end Go.H
end
section
set_option maxRecDepth 100000
set_option maxHeartbeats 4000000
set_option cbv.maxSteps 4000000
set_option linter.unusedVariables false
set_option linter.unusedSimpArgs false
namespace Go.H
open Go Go.Proofs.Tryz
variable [Inv prog]
theorem s_slices_Delete_int64 (R : List (List T)) (i j : Nat) (hij : i < j) (hj : j ≤ R.length) (hl : R.length ≤ 2097152) (hs : cpRows none (R.drop j) = True) (hn : T.noShR (R.take i ++ R.drop j) = True) : SemX prog 199 [.one (.t (.sl true 1 R)), aI i, aI j] [] [.one (.sl true 1 (R.take i ++ R.drop j))] [] := by
 refine goF [(54, ⟨some 7, none, none, none⟩)] [(5, 2, [0], []), (5, 5, [0], []), (5, 6, [0], [0])] [] func199 ?_
 have hA := hs
 refine D ?_
 refine cC (fun c0 => ?_) (fun c0 => ?_)
 · skip
   omega
 · skip
   refine D ?_
   refine E ?_
   rw [if_pos (by omega)]
   exact ⟨congrArg (fun r => [TV.one (T.sl true 1 r)]) (del_rowsR R (by omega) hj _ _ _), rfl, rfl⟩
end Go.H
end
section
set_option maxRecDepth 100000
set_option maxHeartbeats 4000000
set_option cbv.maxSteps 4000000
set_option linter.unusedVariables false
set_option linter.unusedSimpArgs false
namespace Go.H
open Go Go.Proofs.Tryz
variable [Inv prog]
theorem s_slices_Insert_int64 (R V : List (List T)) (i : Nat) (hi : i ≤ R.length) (hv : 1 ≤ V.length) (hl : R.length + V.length ≤ 2097152) (fR : ∀ r ∈ R, ∀ t ∈ r, t.flat = true) (fV : ∀ r ∈ V, ∀ t ∈ r, t.flat = true) : SemX prog 200 [.one (.t (.sl true 1 R)), aI i, .one (.t (.sl true 1 V))] [] [.one (.sl true 1 (R.take i ++ V ++ R.drop i))] [] := by
 refine goFC 0 [(82, ⟨none, none, some (2, true), none⟩), (110, ⟨some 10, none, none, none⟩), (156, ⟨some 10, none, none, none⟩)] [(11, 4, [167936], []), (11, 7, [0], []), (11, 8, [167936, 0], [167936]), (15, 4, [0], []), (15, 7, [0], []), (15, 8, [0], [0])] [] func200 (fun cp hcp hcp2 => ?_)
 have hcp3 : R.length ≤ cp := hcp
 have hcV : cpRows (some (0, 0)) V = True := eq_true fV
 have hcT : cpRows (some (0, 0)) (List.take i R) = True := eq_true fun r hr => fR r (List.mem_of_mem_take hr)
 have hcD : cpRows (some (0, 0)) (List.drop i R) = True := eq_true fun r hr => fR r (List.mem_of_mem_drop hr)
 have hX1 : List.take i (R ++ roomR 1 (cp - R.length)) = List.take i R := List.take_append_of_le_length hi
 have hX2 : List.take R.length (R ++ roomR 1 (cp - R.length)) = R := List.take_left' rfl
 have hX3 : List.take (R.length - i) (List.drop i (R ++ roomR 1 (cp - R.length))) = List.drop i R := by rw [List.drop_append_of_le_length hi]; exact List.take_left' (by simp)
 have hA := And.intro hcV (And.intro hcT (And.intro hcD (And.intro hX1 (And.intro hX2 (hX3)))))
 refine D ?_
 refine cC (fun c0 => ?_) (fun c0 => ?_)
 · skip
   omega
 · skip
   refine D ?_
   refine cC (fun c1 => ?_) (fun c1 => ?_)
   · skip
     refine D ?_
     refine E ?_
     obtain rfl : i = R.length := by omega
     simp [List.take_of_length_le]
   · skip
     refine D ?_
     refine cC (fun c2 => ?_) (fun c2 => ?_)
     · skip
       refine D ?_
       refine E ?_
       rw [if_pos (by omega)]
       exact ⟨congrArg (fun r => [TV.one (T.sl true 1 r)]) (ins_grow (by omega) (by omega) (by omega) (by omega) (by omega)), rfl, rfl⟩
     · skip
       refine D ?_
       refine kOv (⟨_, 156, 4, 2, 1, func226, by kernel_rfl, by kernel_rfl, by kernel_rfl, by kernel_rfl, by kernel_rfl, by kernel_rfl⟩ : OvlOk prog 226) ?_
       refine D ?_
       refine cT ?_
       refine D ?_
       refine E ?_
       rw [if_pos (by omega)]
       exact ⟨congrArg (fun r => [TV.one (T.sl true 1 r)]) (ins_room (by omega) (by simp [roomR_len]; omega) (by omega) (by omega) (by omega) (by omega) (by omega)), rfl, rfl⟩
theorem s_rise_I (xs : List Int) (v : Int) (hl : xs.length + 1 ≤ 2097152) (h : hasI xs v = false) : SemX prog 200 [.one (.t (.sl true 1 (xs.map eI_i64))), aI (lbn xs v), .one (.t (.sl true 1 [[.int .i64 v]]))] [] [.one (.sl true 1 ((riseL xs v).map eI_i64))] [] := by
  have := s_slices_Insert_int64 (xs.map eI_i64) [[.int .i64 v]] (lbn xs v) (by simpa using lbn_le xs v) (by simp) (by simpa using hl) (flat_I xs) (by simp [T.flat])
  rwa [← riseL_no h] at this
end Go.H
end
section
set_option maxRecDepth 100000
set_option maxHeartbeats 4000000
set_option cbv.maxSteps 4000000
set_option linter.unusedVariables false
set_option linter.unusedSimpArgs false
namespace Go.H
open Go Go.Proofs.Tryz
variable [Inv prog]
section
attribute [local go_sem] List.set_set
theorem s_impl_Config_tie (c : Config) (hx1 : limG 2097151 c) (K : CfOk c) (x_ : Cmd) (hkd : x_.kind = 7 ∨ x_.kind = 8) : SemX prog 184 [.one (.ptr 0 0), aS (eCmd x_), aI (findB c.backends x_.name), aI (findV c.vips x_.addr x_.number x_.proto)] [.var (eConfig true c)] [rI (turnV c x_).1] [.var (eConfig true (turnV c x_).2)] := by
 refine goF [(132, ⟨some 2, some 270336, none, none⟩), (70, ⟨some 2, some 143360, none, none⟩), (138, ⟨some 1, none, none, none⟩)] [(4, 3, [1000003], []), (4, 5, [24576], []), (4, 6, [1000003], []), (5, 4, [1000003], [1000003, 143360]), (5, 7, [24576], []), (5, 8, [], [159744]), (5, 9, [143360, 159744], [143360, 159744, 163840]), (5, 12, [1000003, 163840], [1000003, 163840])] [] func184 ?_
 have hx : limG 2097152 c := limG_mono (by omega) hx1
 obtain ⟨hb, hv, hV⟩ := id hx
 refine D ?_
 refine cC (fun c0 => ?_) (fun c0 => ?_)
 · skip
   refine D ?_
   refine E ?_
   have he : turnV c x_ = (4, c) := by unfold turnV; grind
   simp [he]
 · skip
   have hfn : ¬ findV c.vips x_.addr x_.number x_.proto < 0 := by omega
   obtain ⟨n, hfv, hnl, hnq, hnb⟩ : ∃ n : Nat, findV c.vips x_.addr x_.number x_.proto = n ∧ n < c.vips.length ∧ isV x_.addr x_.number x_.proto (c.vips.getD n zVip) = true ∧ ∀ j, j < n → isV x_.addr x_.number x_.proto (c.vips.getD j zVip) = false := idxG_lt zVip hfn
   have hva : vAt c x_ = n := by unfold vAt; omega
   have hnm : (c.vips.getD n zVip).names.length ≤ 2097152 := limV_getD hV n
   have hrs := K.nr n hnl
   have hhi := hasI_eq hrs x_.name
   have hnm1 : (c.vips.getD n zVip).names.length ≤ 2097151 := hx1.2.2 _ (getD_mem zVip hnl)
   have hA := hfv
   refine D ?_
   refine kD (s_slices_BinarySearch_int64 (c.vips.getD n zVip).names x_.name hrs hnm) ?_
   refine D ?_
   refine cC (fun c1 => ?_) (fun c1 => ?_)
   · skip
     refine D ?_
     refine cC (fun c2 => ?_) (fun c2 => ?_)
     · skip
       refine D ?_
       refine E ?_
       have he : turnV c x_ = (4, c) := by unfold turnV; grind
       simp [he]
     · skip
       exfalso
       grind
   · skip
     refine D ?_
     refine cC (fun c2 => ?_) (fun c2 => ?_)
     · skip
       refine D ?_
       refine E ?_
       have he : turnV c x_ = (4, c) := by unfold turnV; grind
       simp [he]
     · skip
       refine D ?_
       refine cC (fun c3 => ?_) (fun c3 => ?_)
       · skip
         have h8 : hasI (c.vips.getD n zVip).names x_.name = true := by grind
         have hlb : lbn (c.vips.getD n zVip).names x_.name < (c.vips.getD n zVip).names.length := by
           have h9 := h8
           simp only [hasI, Bool.and_eq_true, decide_eq_true_eq] at h9
           exact h9.1
         have hgs := fun r d => getD_set_self (l := c.vips.map (eVip true)) (i := n) (by simp; omega) r d
         have hA := And.intro hA (hgs)
         refine D ?_
         refine kRk [] [270336] [] (s_slices_Delete_int64 ((c.vips.getD n zVip).names.map eI_i64) (lbn (c.vips.getD n zVip).names x_.name) (lbn (c.vips.getD n zVip).names x_.name + 1) (by omega) (by rw [List.length_map]; omega) (by rw [List.length_map]; exact hnm) (by rw [← List.map_drop]; exact cpRows_I_i64 _ _) (by rw [← List.map_take, ← List.map_drop, ← List.map_append]; exact noShR_I_i64 _)) ?_
         refine D ?_
         refine E ?_
         have he : turnV c x_ = (0, setV c (vAt c x_) { c.vips.getD (vAt c x_) zVip with names := cutG (c.vips.getD (vAt c x_) zVip).names (lbn (c.vips.getD (vAt c x_) zVip).names x_.name) }) := by unfold turnV; grind
         have hcr : List.take (min (lbn (c.vips.getD n zVip).names x_.name) (c.vips.getD n zVip).names.length + ((c.vips.getD n zVip).names.length - (lbn (c.vips.getD n zVip).names x_.name + 1))) (List.take (lbn (c.vips.getD n zVip).names x_.name) ((c.vips.getD n zVip).names.map eI_i64) ++ List.drop (lbn (c.vips.getD n zVip).names x_.name + 1) ((c.vips.getD n zVip).names.map eI_i64)) = List.take (lbn (c.vips.getD n zVip).names x_.name) ((c.vips.getD n zVip).names.map eI_i64) ++ List.drop (lbn (c.vips.getD n zVip).names x_.name + 1) ((c.vips.getD n zVip).names.map eI_i64) := List.take_of_length_le (by simp [-List.getD_eq_getElem?_getD])
         simp [-List.getD_eq_getElem?_getD, he, setV, hva, eVip, cutG, List.map_set, List.set_set, hcr]
       · skip
         refine D ?_
         refine cC (fun c4 => ?_) (fun c4 => ?_)
         · skip
           refine D ?_
           refine E ?_
           have he : turnV c x_ = (7, c) := by unfold turnV; grind
           simp [he]
         · skip
           have hno : hasI (c.vips.getD n zVip).names x_.name = false := by simpa using c4
           have hgs := fun r d => getD_set_self (l := c.vips.map (eVip true)) (i := n) (by simp; omega) r d
           have hA := And.intro hA (hgs)
           refine D ?_
           refine kDk [] [143360, 159744] [] (s_rise_I (c.vips.getD n zVip).names x_.name (by omega) hno) ?_
           refine D ?_
           refine E ?_
           have he : turnV c x_ = (0, setV c (vAt c x_) { c.vips.getD (vAt c x_) zVip with names := riseL (c.vips.getD (vAt c x_) zVip).names x_.name }) := by unfold turnV; grind
           simp [he, setV, hva, eVip, List.map_set, List.set_set]
end
end Go.H
end
section
set_option maxRecDepth 100000
set_option maxHeartbeats 4000000
set_option cbv.maxSteps 4000000
set_option linter.unusedVariables false
set_option linter.unusedSimpArgs false
namespace Go.H
open Go Go.Proofs.Tryz
variable [Inv prog]
theorem s_slices_ContainsFunc_Vip (R : List Vip) (hl : R.length ≤ 2097152) (fn : Nat) (x_ : Cmd) (q : Vip → Bool) (hq : callB prog fn = true) (hf : ∀ b : Vip, b ∈ R → SemX prog fn [aS (eVip false b), aT (.ptr (eCmd x_))] [] [rB (q b)] []) : SemX prog 201 [aT (.sl false 4 (R.map (eVip false))), .one (.fn fn [.t (.ptr (eCmd x_))])] [] [rB (hasG q R)] [] := by
 refine goF [] [] [] func201 ?_
 refine D ?_
 refine kR (s_slices_IndexFunc_Vip_cmd R hl fn x_ q hq hf) ?_
 refine D ?_
 refine E ?_
 first
 | exact trivial
 | simp only [go_sem, hasG]
end Go.H
end
section
set_option maxRecDepth 100000
set_option maxHeartbeats 4000000
set_option cbv.maxSteps 4000000
set_option linter.unusedVariables false
set_option linter.unusedSimpArgs false
namespace Go.H
open Go Go.Proofs.Tryz
variable [Inv prog]
theorem s_slices_Index_int64 (xs : List Int) (n : Int) (hl : xs.length ≤ 2097152) : SemX prog 228 [aT (.sl false 1 (xs.map eI_i64)), aI n] [] [rI (idxG (eqI n) xs)] [] := by
 refine goF [] [] [] func228 ?_
 refine D ?_
 refine L (α := Nat) (fun x => [(8, .int .i64 x)]) (fun x => []) (fun x => xs.length - x) (fun x => x ≤ xs.length ∧ ∀ j, j < x → eqI n (xs.getD j zI_i64) = false) 0 [] (fun x hL => ?_) (hi := by exact ⟨Nat.zero_le _, fun j hj => by omega⟩)
 obtain ⟨hx2, hno⟩ := hL
 refine D ?_
 refine cC (fun c0 => ?_) (fun c0 => ?_)
 · skip
   refine D ?_
   refine cC (fun c1 => ?_) (fun c1 => ?_)
   · skip
     refine D ?_
     refine E ?_
     rw [idxG_some zI_i64 (by omega) hno (by simp [-List.getD_eq_getElem?_getD, eqI]; omega)]
   · skip
     refine D ?_
     refine N (x+1) [] (hi := ?_) (hm := ?_)
     · refine ⟨by omega, fun j hj => ?_⟩
       rcases Nat.lt_or_ge j x with h | h
       · exact hno j h
       · obtain rfl : j = x := by omega
         first | exact c1 | (simpa [isB, isV, eqI] using c1) | (simp [isB, isV, eqI]; grind)
     · omega
 · skip
   obtain rfl : x = xs.length := by omega
   refine D ?_
   refine E ?_
   rw [idxG_none zI_i64 hno]
end Go.H
end
section
set_option maxRecDepth 100000
set_option maxHeartbeats 4000000
set_option cbv.maxSteps 4000000
set_option linter.unusedVariables false
set_option linter.unusedSimpArgs false
namespace Go.H
open Go Go.Proofs.Tryz
variable [Inv prog]
theorem s_slices_Contains_int64 (xs : List Int) (n : Int) (hl : xs.length ≤ 2097152) : SemX prog 203 [aT (.sl false 1 (xs.map eI_i64)), aI n] [] [rB (hasG (eqI n) xs)] [] := by
 refine goF [] [] [] func203 ?_
 refine D ?_
 refine kR (s_slices_Index_int64 xs n hl) ?_
 refine D ?_
 refine E ?_
 first
 | exact trivial
 | simp only [go_sem, hasG]
end Go.H
end
section
set_option maxRecDepth 100000
set_option maxHeartbeats 4000000
set_option cbv.maxSteps 4000000
set_option linter.unusedVariables false
set_option linter.unusedSimpArgs false
namespace Go.H
open Go Go.Proofs.Tryz
variable [Inv prog]
theorem s_impl_Config_turn_1 (v : Vip) (x_ : Cmd) (hl : v.names.length ≤ 2097152) : SemX prog 202 [aS (eVip false v), aT (.ptr (eCmd x_))] [] [rB (hasG (eqI x_.name) v.names)] [] := by
 refine goF [] [] [] func202 ?_
 refine D ?_
 refine kR (s_slices_Contains_int64 v.names x_.name hl) ?_
 refine D ?_
 exact E trivial
end Go.H
end
section
set_option maxRecDepth 100000
set_option maxHeartbeats 4000000
set_option cbv.maxSteps 4000000
set_option linter.unusedVariables false
set_option linter.unusedSimpArgs false
namespace Go.H
open Go Go.Proofs.Tryz
variable [Inv prog]
theorem s_slices_Delete_Backend (R : List (List T)) (i j : Nat) (hij : i < j) (hj : j ≤ R.length) (hl : R.length ≤ 2097152) (hs : cpRows none (R.drop j) = True) (hn : T.noShR (R.take i ++ R.drop j) = True) : SemX prog 204 [.one (.t (.sl true 5 R)), aI i, aI j] [] [.one (.sl true 5 (R.take i ++ R.drop j))] [] := by
 refine goF [(54, ⟨some 7, none, none, none⟩)] [(5, 2, [0], []), (5, 5, [0], []), (5, 6, [0], [0])] [] func204 ?_
 have hA := hs
 refine D ?_
 refine cC (fun c0 => ?_) (fun c0 => ?_)
 · skip
   omega
 · skip
   refine D ?_
   refine E ?_
   rw [if_pos (by omega)]
   exact ⟨congrArg (fun r => [TV.one (T.sl true 5 r)]) (del_rowsR R (by omega) hj _ _ _), rfl, rfl⟩
end Go.H
end
section
set_option maxRecDepth 100000
set_option maxHeartbeats 4000000
set_option cbv.maxSteps 4000000
set_option linter.unusedVariables false
set_option linter.unusedSimpArgs false
namespace Go.H
open Go Go.Proofs.Tryz
variable [Inv prog]
theorem s_impl_Config_turn (c : Config) (hx : limG 2097152 c) (K : CfOk c) (x_ : Cmd) (n : Nat) (hfb : findB c.backends x_.name = n) (hkd : x_.kind = 2 ∨ x_.kind = 3 ∨ x_.kind = 9 ∨ x_.kind = 4) : SemX prog 185 [.one (.ptr 0 0), aS (eCmd x_), aI n] [.var (eConfig true c)] [rI (turnB c x_).1] [.var (eConfig true (turnB c x_).2)] := by
 refine goF [(74, ⟨some 1, none, none, none⟩)] [] [] func185 ?_
 obtain ⟨hb, hv, hV⟩ := id hx
 obtain ⟨m_, hfb2, hnl, hnq, hnb⟩ : ∃ m : Nat, findB c.backends x_.name = m ∧ m < c.backends.length ∧ isB x_.name (c.backends.getD m zBackend) = true ∧ ∀ j, j < m → isB x_.name (c.backends.getD j zBackend) = false := idxG_lt zBackend (show ¬ findB c.backends x_.name < 0 by omega)
 obtain rfl : n = m_ := by omega
 have hba : bAt c x_.name = n := by unfold bAt; omega
 have hA := hfb
 refine D ?_
 refine cC (fun c0 => ?_) (fun c0 => ?_)
 · skip
   refine D ?_
   refine E ?_
   have he : turnB c x_ = (0, setB c (bAt c x_.name) { c.backends.getD (bAt c x_.name) zBackend with weight := x_.number }) := by unfold turnB; grind
   
   simp [he, setB, hba, List.map_set, eBackend, List.set_set]
 · skip
   refine D ?_
   refine cC (fun c1 => ?_) (fun c1 => ?_)
   · skip
     refine D ?_
     refine E ?_
     have he : turnB c x_ = (0, setB c (bAt c x_.name) { c.backends.getD (bAt c x_.name) zBackend with stage := x_.number }) := by unfold turnB; grind
     
     simp [he, setB, hba, List.map_set, eBackend, List.set_set]
   · skip
     refine D ?_
     refine cC (fun c2 => ?_) (fun c2 => ?_)
     · skip
       refine D ?_
       refine E ?_
       have he : turnB c x_ = (0, setB c (bAt c x_.name) { c.backends.getD (bAt c x_.name) zBackend with up := decide (x_.number = 1) }) := by unfold turnB; grind
       
       simp [he, setB, hba, List.map_set, eBackend, List.set_set]
     · skip
       refine D ?_
       refine cC (fun c3 => ?_) (fun c3 => ?_)
       · skip
         refine D ?_
         refine E ?_
         have he : turnB c x_ = (10, c) := by unfold turnB; grind
         simp [he]
       · skip
         refine D ?_
         refine kR (s_slices_ContainsFunc_Vip c.vips hv 202 x_ (fun v => hasG (eqI x_.name) v.names) (by kernel_rfl) (fun v h => s_impl_Config_turn_1 v x_ (hV v h))) ?_
         refine D ?_
         refine cC (fun c4 => ?_) (fun c4 => ?_)
         · skip
           refine D ?_
           refine E ?_
           have he : turnB c x_ = (8, c) := by unfold turnB; unfold serves; grind
           simp [he]
         · skip
           refine D ?_
           refine kRk [] [1000002] [] (s_slices_Delete_Backend (c.backends.map eBackend) n (n + 1) (by omega) (by rw [List.length_map]; omega) (by rw [List.length_map]; exact hb) (by rw [← List.map_drop]; exact cpRows_Backend _ _) (by rw [← List.map_take, ← List.map_drop, ← List.map_append]; exact noShR_Backend _)) ?_
           refine D ?_
           refine E ?_
           have he : turnB c x_ = (0, { c with backends := cutG c.backends (bAt c x_.name) }) := by unfold turnB; unfold serves; grind
           
           have hcr : List.take (min n c.backends.length + (c.backends.length - (n + 1))) (List.take n (c.backends.map eBackend) ++ List.drop (n + 1) (c.backends.map eBackend)) = List.take n (c.backends.map eBackend) ++ List.drop (n + 1) (c.backends.map eBackend) := List.take_of_length_le (by simp)
           simp [he, cutG, hba, hcr]
end Go.H
end
section
set_option maxRecDepth 100000
set_option maxHeartbeats 4000000
set_option cbv.maxSteps 4000000
set_option linter.unusedVariables false
set_option linter.unusedSimpArgs false
namespace Go.H
open Go Go.Proofs.Tryz
variable [Inv prog]
theorem s_impl_Config_does (c : Config) (hx1 : limG 2097151 c) (K : CfOk c) (x_ : Cmd) (hkd : 1 ≤ x_.kind ∧ x_.kind ≤ 9) : SemX prog 142 [.one (.ptr 0 0), aS (eCmd x_)] [.var (eConfig true c)] [rI (turned c x_).1] [.var (eConfig true (turned c x_).2)] := by
 refine goF [(210, ⟨some 1, none, none, none⟩)] [(1, 2, [16384], []), (1, 3, [1000000, 1000002, 1000003], []), (1, 6, [16384], []), (1, 8, [16384], []), (1, 10, [16384], []), (1, 11, [1000000, 1000002, 1000003], []), (11, 4, [1000000], []), (11, 6, [16384], []), (11, 8, [16384], []), (11, 10, [16384], []), (11, 12, [], [212992]), (11, 13, [1000002, 212992], [217088, 1000002, 212992]), (11, 16, [1000000], [1000000]), (18, 4, [1000000], []), (18, 6, [16384], []), (18, 8, [16384], []), (18, 10, [16384], []), (18, 12, [], [348160]), (18, 13, [1000003, 348160], [352256, 1000003, 348160]), (18, 16, [1000000], [1000000])] [] func142 ?_
 have hx : limG 2097152 c := limG_mono (by omega) hx1
 obtain ⟨hb, hv, hV⟩ := id hx
 have hk8 := K.b8
 have hk4 := K.v4
 refine D ?_
 refine kD (s_impl_Config_backend c hx x_.name) ?_
 refine D ?_
 refine kD (s_impl_Config_vip c hx x_.addr x_.number x_.proto) ?_
 refine D ?_
 refine cC (fun c0 => ?_) (fun c0 => ?_)
 · skip
   refine D ?_
   refine cC (fun c1 => ?_) (fun c1 => ?_)
   · skip
     refine D ?_
     refine E ?_
     have hin : inR x_.kind 5 8 = false := by simp [inR]; omega
     have he : turned c x_ = (7, c) := by unfold turned; rw [hin]; unfold turnV turnB; grind
     simp [he]
   · skip
     refine D ?_
     refine cC (fun c2 => ?_) (fun c2 => ?_)
     · skip
       refine D ?_
       refine E ?_
       have hin : inR x_.kind 5 8 = false := by simp [inR]; omega
       have he : turned c x_ = (2, c) := by unfold turned; rw [hin]; unfold turnV turnB; grind
       simp [he]
     · skip
       have hpb := (put_b K (x := x_) (show findB c.backends x_.name < 0 by omega))
       have hmb : List.map eBackend c.backends ++ [[T.int .i64 x_.name, T.int .i64 x_.addr, T.int .i64 x_.number, T.int .i64 1, T.bool true]] = List.map eBackend (c.backends ++ [bOf x_]) := by simp [eBackend, bOf]
       have hA := hmb
       refine D ?_
       refine kRk [217088] [] [] (s_slices_SortFunc_Backend c.backends (bOf x_) (preG (ltB x_.name) c.backends) 181 cmpB (by kernel_rfl) s_impl_Config_does_1 (preG_le _ _) (by have := K.b8; omega) hpb.2.1 hpb.2.2.1 hpb.2.2.2) ?_
       refine D ?_
       refine E ?_
       have hin : inR x_.kind 5 8 = false := by simp [inR]; omega
       have he : turned c x_ = (0, { c with backends := putG (ltB x_.name) c.backends (bOf x_) }) := by unfold turned; rw [hin]; unfold turnV turnB; grind
       have htk : ∀ (k : Nat) (V : List T), List.take (c.backends.length + 1) (List.take k (List.map eBackend c.backends) ++ V :: List.drop k (List.map eBackend c.backends)) = List.take k (List.map eBackend c.backends) ++ V :: List.drop k (List.map eBackend c.backends) := fun k V => List.take_of_length_le (by simp; omega)
       simp [he, putG, insAt, bOf, htk]
 · skip
   refine D ?_
   refine cC (fun c3 => ?_) (fun c3 => ?_)
   · skip
     refine D ?_
     refine cC (fun c4 => ?_) (fun c4 => ?_)
     · skip
       refine D ?_
       refine E ?_
       have hin : inR x_.kind 5 8 = true := by simp [inR]; omega
       have he : turned c x_ = (7, c) := by unfold turned; rw [hin]; unfold turnV turnB; grind
       simp [he]
     · skip
       refine D ?_
       refine cC (fun c5 => ?_) (fun c5 => ?_)
       · skip
         refine D ?_
         refine E ?_
         have hin : inR x_.kind 5 8 = true := by simp [inR]; omega
         have he : turned c x_ = (2, c) := by unfold turned; rw [hin]; unfold turnV turnB; grind
         simp [he]
       · skip
         have hpv := (put_v K (x := x_) (show findV c.vips x_.addr x_.number x_.proto < 0 by omega))
         have hmv : List.map (eVip true) c.vips ++ [[T.int .i64 x_.addr, T.int .i64 x_.number, T.int .i64 x_.proto, T.sl true 1 []]] = List.map (eVip true) (c.vips ++ [vOf x_]) := by simp [eVip, vOf]
         have hA := hmv
         refine D ?_
         refine kRk [352256] [] [] (s_slices_SortFunc_Vip c.vips (vOf x_) (preG (ltV (vOf x_)) c.vips) 135 cmpV (by kernel_rfl) s_impl_compareVip_raw (preG_le _ _) (by have := K.v4; omega) hpv.2.1 hpv.2.2.1 hpv.2.2.2) ?_
         refine D ?_
         refine E ?_
         have hin : inR x_.kind 5 8 = true := by simp [inR]; omega
         have he : turned c x_ = (0, { c with vips := putG (ltV (vOf x_)) c.vips (vOf x_) }) := by unfold turned; rw [hin]; unfold turnV turnB; grind
         have htk : ∀ (k : Nat) (V : List T), List.take (c.vips.length + 1) (List.take k (List.map (eVip true) c.vips) ++ V :: List.drop k (List.map (eVip true) c.vips)) = List.take k (List.map (eVip true) c.vips) ++ V :: List.drop k (List.map (eVip true) c.vips) := fun k V => List.take_of_length_le (by simp; omega)
         simp [he, putG, insAt, vOf, htk]
   · skip
     refine D ?_
     refine cC (fun c6 => ?_) (fun c6 => ?_)
     · skip
       refine D ?_
       refine cC (fun c7 => ?_) (fun c7 => ?_)
       · skip
         refine D ?_
         refine E ?_
         have hin : inR x_.kind 5 8 = true := by simp [inR]; omega
         have he : turned c x_ = (4, c) := by unfold turned; rw [hin]; unfold turnV turnB; grind
         simp [he]
       · skip
         have hfn : ¬ findV c.vips x_.addr x_.number x_.proto < 0 := by omega
         obtain ⟨n, hfv, hnl, hnq, hnb⟩ : ∃ n : Nat, findV c.vips x_.addr x_.number x_.proto = n ∧ n < c.vips.length ∧ isV x_.addr x_.number x_.proto (c.vips.getD n zVip) = true ∧ ∀ j, j < n → isV x_.addr x_.number x_.proto (c.vips.getD j zVip) = false := idxG_lt zVip hfn
         have hva : vAt c x_ = n := by unfold vAt; omega
         have hnm : (c.vips.getD n zVip).names.length ≤ 2097152 := limV_getD hV n
         have hrs := K.nr n hnl
         have hhi := hasI_eq hrs x_.name
         have hA := hfv
         refine D ?_
         refine kRk [] [1000003] [] (s_slices_Delete_Vip (c.vips.map (eVip true)) n (n + 1) (by omega) (by rw [List.length_map]; omega) (by rw [List.length_map]; exact hv) (by rw [← List.map_drop]; exact cpRows_Vip _ _) (by rw [← List.map_take, ← List.map_drop, ← List.map_append]; exact noShR_Vip _)) ?_
         refine D ?_
         refine E ?_
         have hin : inR x_.kind 5 8 = true := by simp [inR]; omega
         have he : turned c x_ = (0, { c with vips := cutG c.vips (vAt c x_) }) := by unfold turned; rw [hin]; unfold turnV turnB; grind
         have hcr : List.take (min n c.vips.length + (c.vips.length - (n + 1))) (List.take n (c.vips.map (eVip true)) ++ List.drop (n + 1) (c.vips.map (eVip true))) = List.take n (c.vips.map (eVip true)) ++ List.drop (n + 1) (c.vips.map (eVip true)) := List.take_of_length_le (by simp)
         simp [he, cutG, hva, hcr]
     · skip
       refine D ?_
       refine cC (fun c8 => ?_) (fun c8 => ?_)
       · skip
         refine D ?_
         refine cC (fun c9 => ?_) (fun c9 => ?_)
         · skip
           have hkd7 : x_.kind = 7 ∨ x_.kind = 8 := .inl c9
           refine D ?_
           refine kRk [1000000] [] [1000002, 1000003] (s_impl_Config_tie c hx1 K x_ hkd7) ?_
           refine D ?_
           refine E ?_
           have hin : inR x_.kind 5 8 = true := by simp [inR]; omega
           have he : turned c x_ = turnV c x_ := by unfold turned; rw [if_pos hin]
           rw [he]
           exact ⟨rfl, rfl⟩
         · skip
           exfalso
           grind
       · skip
         refine D ?_
         refine cC (fun c9 => ?_) (fun c9 => ?_)
         · skip
           have hkd7 : x_.kind = 7 ∨ x_.kind = 8 := .inr c9
           refine D ?_
           refine kRk [1000000] [] [1000002, 1000003] (s_impl_Config_tie c hx1 K x_ hkd7) ?_
           refine D ?_
           refine E ?_
           have hin : inR x_.kind 5 8 = true := by simp [inR]; omega
           have he : turned c x_ = turnV c x_ := by unfold turned; rw [if_pos hin]
           rw [he]
           exact ⟨rfl, rfl⟩
         · skip
           refine D ?_
           refine cC (fun c10 => ?_) (fun c10 => ?_)
           · skip
             refine D ?_
             refine E ?_
             have hin : inR x_.kind 5 8 = false := by simp [inR]; omega
             have he : turned c x_ = (4, c) := by unfold turned; rw [hin]; unfold turnV turnB; grind
             simp [he]
           · skip
             obtain ⟨n, hfbn⟩ : ∃ n : Nat, findB c.backends x_.name = n := ⟨(findB c.backends x_.name).toNat, by omega⟩
             have hkd4 : x_.kind = 2 ∨ x_.kind = 3 ∨ x_.kind = 9 ∨ x_.kind = 4 := by omega
             have hA := hfbn
             refine D ?_
             refine kRk [1000000] [] [1000002, 1000003] (s_impl_Config_turn c hx K x_ n hfbn hkd4) ?_
             refine D ?_
             refine E ?_
             have hin : inR x_.kind 5 8 = false := by simp [inR]; omega
             have he : turned c x_ = turnB c x_ := by unfold turned; rw [if_neg (by rw [hin]; simp)]
             rw [he]
             exact ⟨rfl, rfl⟩
end Go.H
end
section
set_option maxRecDepth 100000
set_option maxHeartbeats 4000000
set_option cbv.maxSteps 4000000
set_option linter.unusedVariables false
set_option linter.unusedSimpArgs false
namespace Go.H
open Go Go.Proofs.Tryz
variable [Inv prog]
theorem s_impl_apply (c : Config) (hx1 : limG 2097151 c) (K : CfOk c) (x_ : Cmd) (hcf : cmdFault x_ = 0) : SemX prog 78 [aS (eConfig false c), aS (eCmd x_)] [] [.agg (eConfigResult true (applyR c x_))] [] := by
 refine goF [(70, ⟨some 1, none, none, none⟩)] [] [] func78 ?_
 have hx : limG 2097152 c := limG_mono (by omega) hx1
 obtain ⟨hb, hv, hV⟩ := id hx
 have hk9 : 1 ≤ x_.kind ∧ x_.kind ≤ 9 := by
   unfold cmdFault at hcf
   cases h : inR x_.kind 1 9 with
   | false => simp [h] at hcf
   | true => simpa [inR] using h
 have hk0 := K.v0
 have hk1 := K.v1
 have htv := turned_ver c x_
 have hA := htv
 refine D ?_
 refine cC (fun c0 => ?_) (fun c0 => ?_)
 · skip
   refine D ?_
   refine E ?_
   have he : applyR c x_ = badC 3 := by unfold applyR; grind
   simp [he, badC, zConfig]
 · skip
   refine D ?_
   refine cC (fun c1 => ?_) (fun c1 => ?_)
   · skip
     refine D ?_
     refine E ?_
     have he : applyR c x_ = badC 9 := by unfold applyR; grind
     simp [he, badC, zConfig]
   · skip
     refine D ?_
     refine kR (s_impl_Config_copied c hx) ?_
     refine D ?_
     refine kRk [24576] [] [106497, 106498] (s_impl_Config_does c hx1 K x_ hk9) ?_
     refine D ?_
     refine cC (fun c2 => ?_) (fun c2 => ?_)
     · skip
       refine D ?_
       refine E ?_
       have he : applyR c x_ = badC (turned c x_).1 := by unfold applyR; grind
       simp [he, badC, zConfig]
     · skip
       refine D ?_
       refine E ?_
       have he : applyR c x_ = ⟨0, { (turned c x_).2 with version := c.version + 1 }⟩ := by unfold applyR; grind
       simp [he, badC, zConfig]
end Go.H
end
section
set_option maxRecDepth 100000
set_option maxHeartbeats 4000000
set_option cbv.maxSteps 4000000
set_option linter.unusedVariables false
set_option linter.unusedSimpArgs false
namespace Go.H
open Go Go.Proofs.Tryz
variable [Inv prog]
theorem s_slices_Clone_Session (xs : List Session) (hl : xs.length ≤ 2097152) : SemX prog 157 [aT (.sl false 3 (xs.map eSession))] [] [.one (.sl true 3 (xs.map eSession))] [] := by
 refine goF [] [] [] func157 ?_
 refine D ?_
 refine RW_isn (fun b => xs.map eSession ≠ [] → b = false) rfl rfl (by simp only [go_sem] <;> and_intros <;> first | with_reducible exact rfl | omega | with_reducible trivial | (intros; simp_all; done) | grind) (fun b hb => ?_)
 refine D ?_
 refine cC (fun c0 => ?_) (fun c0 => ?_)
 · skip
   have hx : xs = [] := by
     cases xs with
     | nil => rfl
     | cons a l => have := hb (by simp); rw [this] at c0; cases c0
   subst hx
   refine D ?_
   exact E trivial
 · skip
   refine D ?_
   exact E trivial
end Go.H
end
section
set_option maxRecDepth 100000
set_option maxHeartbeats 4000000
set_option cbv.maxSteps 4000000
set_option linter.unusedVariables false
set_option linter.unusedSimpArgs false
namespace Go.H
open Go Go.Proofs.Tryz
variable [Inv prog]
theorem s_slices_BinarySearchFunc_int64 (R : List Session) (v : Int) (fn : Nat) (hq : callB prog fn = true) (hf : ∀ s : Session, SemX prog fn [aS (eSession s), aI v] [] [rI (cmpI s.client v)] []) (hr : risesS R) (hl : R.length ≤ 2097152) : SemX prog 188 [aT (.sl false 3 (R.map eSession)), aI v, .one (.fn fn [])] [] [rI (lbS R v), rB (hasS R v)] [] := by
 refine goF [] [] [] func188 ?_
 refine D ?_
 refine L (α := Nat × Nat) (fun p => [(9, .int .i64 p.1), (10, .int .i64 p.2)]) (fun p => []) (fun p => p.2 - p.1) (fun p => p.1 ≤ p.2 ∧ p.2 ≤ R.length ∧ (∀ q, q < p.1 → (R.getD q zSession).client < v) ∧ (∀ q, p.2 ≤ q → q < R.length → v ≤ (R.getD q zSession).client)) (0, R.length) [] (fun x0 hL => ?_) (hi := by exact ⟨Nat.zero_le _, Nat.le_refl _, fun q h => by omega, fun q h1 h2 => by omega⟩)
 obtain ⟨i, j⟩ := x0
 obtain ⟨hij, hj, hlo, hup⟩ := hL
 try dsimp only at *
 refine D ?_
 refine cC (fun c0 => ?_) (fun c0 => ?_)
 · skip
   have hhf := half_nat i j (by omega)
   have hw1 : IntKind.u64.wrap ((i : Int) + j) = i + j := by have := wrap_u (i + j) (by omega); simpa using this
   have hw2 : IntKind.i64.wrap (((i + j) / 2 : Nat) : Int) = ((i + j) / 2 : Nat) := wrap_small (by omega) (by omega)
   have hcl : cmpI (R.getD ((i + j) / 2) zSession).client v < 0 ↔ (R.getD ((i + j) / 2) zSession).client < v := by unfold cmpI; grind
   have hA := And.intro hhf (And.intro hw1 (hw2))
   refine D ?_
   refine kR (hf (R.getD ((i + j) / 2) zSession)) ?_ hq
   refine D ?_
   refine cC (fun c1 => ?_) (fun c1 => ?_)
   · skip
     refine D ?_
     refine N ((i + j) / 2 + 1, j) [] (hi := ?_) (hm := ?_)
     · dsimp only
       refine ⟨by omega, by omega, fun q hq => ?_, hup⟩
       by_cases e : q = (i + j) / 2
       · subst e; exact hcl.1 c1
       · have := risesS_lt hr (i := q) (j := (i + j) / 2) (by omega) (by omega); have := hcl.1 c1; omega
     · try dsimp only
       omega
   · skip
     refine D ?_
     refine N (i, (i + j) / 2) [] (hi := ?_) (hm := ?_)
     · dsimp only
       refine ⟨by omega, by omega, hlo, fun q h1 h2 => ?_⟩
       have h3 : v ≤ (R.getD ((i + j) / 2) zSession).client := by have := mt hcl.2 c1; omega
       by_cases e : q = (i + j) / 2
       · subst e; exact h3
       · have := risesS_lt hr (i := (i + j) / 2) (j := q) (by omega) h2; omega
     · try dsimp only
       omega
 · skip
   obtain rfl : i = j := by omega
   have hlb : lbS R v = i := lbS_eq hj hlo (fun h => hup i (Nat.le_refl _) h)
   refine D ?_
   refine kRg (hf (R.getD i zSession)) ?_ hq
   refine D ?_
   refine E ?_
   first
   | exact trivial
   | have hh : hasS R v = (decide (i < R.length) && decide (cmpI (R.getD i zSession).client v = 0)) := by
       unfold hasS
       rw [hlb]
       congr 1
       rw [decide_eq_decide]
       unfold cmpI
       grind
     simp [-List.getD_eq_getElem?_getD, hh, hlb]
end Go.H
end
section
set_option maxRecDepth 100000
set_option maxHeartbeats 4000000
set_option cbv.maxSteps 4000000
set_option linter.unusedVariables false
set_option linter.unusedSimpArgs false
namespace Go.H
open Go Go.Proofs.Tryz
variable [Inv prog]
theorem s_impl_Machine_session_1 (s : Session) (v : Int) : SemX prog 189 [aS (eSession s), aI v] [] [rI (cmpI s.client v)] [] := by
 refine goF [] [] [] func189 ?_
 refine D ?_
 refine kR (s_cmp_Compare_int64 s.client v) ?_
 refine D ?_
 exact E trivial
end Go.H
end
section
set_option maxRecDepth 100000
set_option maxHeartbeats 4000000
set_option cbv.maxSteps 4000000
set_option linter.unusedVariables false
set_option linter.unusedSimpArgs false
namespace Go.H
open Go Go.Proofs.Tryz
variable [Inv prog]
theorem s_impl_Machine_session (m : Machine) (hm : limM 2097152 m) (K : MaOk m) (c : Int) : SemX prog 158 [aT (.ptr (eMachine false m)), aI c] [] [rI (lbS m.sessions c), rB (hasS m.sessions c)] [] := by
 refine goF [] [] [] func158 ?_
 refine D ?_
 refine kR (s_slices_BinarySearchFunc_int64 m.sessions c 189 (by kernel_rfl) (fun s => s_impl_Machine_session_1 s c) K.rs hm.2) ?_
 refine D ?_
 exact E trivial
end Go.H
end
section
set_option maxRecDepth 100000
set_option maxHeartbeats 4000000
set_option cbv.maxSteps 4000000
set_option linter.unusedVariables false
set_option linter.unusedSimpArgs false
namespace Go.H
open Go Go.Proofs.Tryz
variable [Inv prog]
theorem s_slices_Insert_Session (R V : List (List T)) (i : Nat) (hi : i ≤ R.length) (hv : 1 ≤ V.length) (hl : R.length + V.length ≤ 2097152) (fR : ∀ r ∈ R, ∀ t ∈ r, t.flat = true) (fV : ∀ r ∈ V, ∀ t ∈ r, t.flat = true) : SemX prog 159 [.one (.t (.sl true 3 R)), aI i, .one (.t (.sl true 3 V))] [] [.one (.sl true 3 (R.take i ++ V ++ R.drop i))] [] := by
 refine goFC 0 [(82, ⟨none, none, some (183, true), none⟩), (110, ⟨some 10, none, none, none⟩), (156, ⟨some 10, none, none, none⟩)] [(11, 4, [167936], []), (11, 7, [0], []), (11, 8, [167936, 0], [167936]), (15, 4, [0], []), (15, 7, [0], []), (15, 8, [0], [0])] [] func159 (fun cp hcp hcp2 => ?_)
 have hcp3 : R.length ≤ cp := hcp
 have hcV : cpRows (some (0, 0)) V = True := eq_true fV
 have hcT : cpRows (some (0, 0)) (List.take i R) = True := eq_true fun r hr => fR r (List.mem_of_mem_take hr)
 have hcD : cpRows (some (0, 0)) (List.drop i R) = True := eq_true fun r hr => fR r (List.mem_of_mem_drop hr)
 have hX1 : List.take i (R ++ roomR 3 (cp - R.length)) = List.take i R := List.take_append_of_le_length hi
 have hX2 : List.take R.length (R ++ roomR 3 (cp - R.length)) = R := List.take_left' rfl
 have hX3 : List.take (R.length - i) (List.drop i (R ++ roomR 3 (cp - R.length))) = List.drop i R := by rw [List.drop_append_of_le_length hi]; exact List.take_left' (by simp)
 have hA := And.intro hcV (And.intro hcT (And.intro hcD (And.intro hX1 (And.intro hX2 (hX3)))))
 refine D ?_
 refine cC (fun c0 => ?_) (fun c0 => ?_)
 · skip
   omega
 · skip
   refine D ?_
   refine cC (fun c1 => ?_) (fun c1 => ?_)
   · skip
     refine D ?_
     refine E ?_
     obtain rfl : i = R.length := by omega
     simp [List.take_of_length_le]
   · skip
     refine D ?_
     refine cC (fun c2 => ?_) (fun c2 => ?_)
     · skip
       refine D ?_
       refine E ?_
       rw [if_pos (by omega)]
       exact ⟨congrArg (fun r => [TV.one (T.sl true 3 r)]) (ins_grow (by omega) (by omega) (by omega) (by omega) (by omega)), rfl, rfl⟩
     · skip
       refine D ?_
       refine kOv (⟨_, 71, 4, 183, 3, func190, by kernel_rfl, by kernel_rfl, by kernel_rfl, by kernel_rfl, by kernel_rfl, by kernel_rfl⟩ : OvlOk prog 190) ?_
       refine D ?_
       refine cT ?_
       refine D ?_
       refine E ?_
       rw [if_pos (by omega)]
       exact ⟨congrArg (fun r => [TV.one (T.sl true 3 r)]) (ins_room (by omega) (by simp [roomR_len]; omega) (by omega) (by omega) (by omega) (by omega) (by omega)), rfl, rfl⟩
theorem s_put_Se (xs : List Session) (s : Session) (hl : xs.length + 1 ≤ 2097152) (h : hasS xs s.client = false) : SemX prog 159 [.one (.t (.sl true 3 (xs.map eSession))), aI (lbS xs s.client), .one (.t (.sl true 3 [eSession s]))] [] [.one (.sl true 3 ((putS xs s).map eSession))] [] := by
  have := s_slices_Insert_Session (xs.map eSession) [eSession s] (lbS xs s.client) (by simpa using lbS_le xs s.client) (by simp) (by simpa using hl) (flat_Se xs) (by intro r hr; simp only [List.mem_singleton] at hr; subst hr; exact flat_Se [s] _ (by simp))
  have e : (putS xs s).map eSession = List.take (lbS xs s.client) (xs.map eSession) ++ [eSession s] ++ List.drop (lbS xs s.client) (xs.map eSession) := by
    unfold putS
    rw [h]
    simp
  rwa [← e] at this
end Go.H
end
section
set_option maxRecDepth 100000
set_option maxHeartbeats 4000000
set_option cbv.maxSteps 4000000
set_option linter.unusedVariables false
set_option linter.unusedSimpArgs false
namespace Go.H
open Go Go.Proofs.Tryz
variable [Inv prog]
theorem s_impl_enter (m : Machine) (hm1 : limM 2097151 m) (K : MaOk m) (x_ : Entry) (hcf : x_.client ≠ 0 → cmdFault x_.cmd = 0) : SemX prog 106 [aS (eMachine false m), aS (eEntry x_)] [] [.agg (eMachineResult true (enterM m x_))] [] := by
 refine goF [] [(1, 1, [12288], []), (1, 2, [], [53249, 53250]), (1, 4, [12288], []), (1, 5, [], [65536]), (1, 8, [], [24576]), (1, 9, [24576], [24576]), (5, 3, [12288], []), (5, 9, [16384], []), (7, 1, [12288], []), (7, 7, [16384], []), (13, 1, [36864], []), (13, 3, [24576], [24576]), (13, 5, [24576], [24576])] [] func106 ?_
 have hm : limM 2097152 m := ⟨limG_mono (by omega) hm1.1, Nat.le_succ_of_le hm1.2⟩
 have hs := hm.2
 have hs40 := K.s40
 have hlb : hasS m.sessions x_.client = true → lbS m.sessions x_.client < m.sessions.length := hasS_lt
 refine D ?_
 refine kD (s_impl_Config_copied m.config hm.1) ?_
 refine D ?_
 refine kD (s_slices_Clone_Session m.sessions hs) ?_
 refine D ?_
 refine cC (fun c0 => ?_) (fun c0 => ?_)
 · skip
   refine D ?_
   refine E ?_
   have he : enterM m x_ = ⟨0, 0, false, m⟩ := by unfold enterM; grind
   simp [-List.getD_eq_getElem?_getD, he, badM, zMachine, zConfig]
 · skip
   refine D ?_
   refine kR (s_impl_Machine_session m hm K x_.client) ?_
   refine D ?_
   refine cC (fun c1 => ?_) (fun c1 => ?_)
   · skip
     have ho : oldM m x_ = true := by unfold oldM; simpa [-List.getD_eq_getElem?_getD] using c1
     have hh : hasS m.sessions x_.client = true := by unfold oldM at ho; simp only [Bool.and_eq_true] at ho; exact ho.1
     have hl := hlb hh
     refine D ?_
     refine cC (fun c2 => ?_) (fun c2 => ?_)
     · skip
       refine D ?_
       refine E ?_
       have he : enterM m x_ = ⟨0, (m.sessions.getD (lbS m.sessions x_.client) zSession).code, false, m⟩ := by unfold enterM; grind
       simp [-List.getD_eq_getElem?_getD, he, badM, zMachine, zConfig]
     · skip
       refine D ?_
       refine E ?_
       have he : enterM m x_ = ⟨0, 9, false, m⟩ := by unfold enterM; grind
       simp [-List.getD_eq_getElem?_getD, he, badM, zMachine, zConfig]
   · skip
     have ho : oldM m x_ = false := c1
     refine D ?_
     refine cC (fun c3 => ?_) (fun c3 => ?_)
     · skip
       refine D ?_
       refine E ?_
       have he : enterM m x_ = badM 2 := by unfold enterM; grind
       simp [-List.getD_eq_getElem?_getD, he, badM, zMachine, zConfig]
     · skip
       refine D ?_
       refine kR (s_impl_apply m.config hm1.1 K.cf x_.cmd (hcf c0)) ?_
       refine D ?_
       refine cC (fun c4 => ?_) (fun c4 => ?_)
       · skip
         refine D ?_
         refine cC (fun c5 => ?_) (fun c5 => ?_)
         · skip
           have hl := hlb c5
           have hps := putS_has (xs := m.sessions) (s := ⟨x_.client, x_.seq, (applyR m.config x_.cmd).code⟩) c5
           refine D ?_
           refine E ?_
           have he : enterM m x_ = ⟨0, (applyR m.config x_.cmd).code, true, ⟨(applyR m.config x_.cmd).config, putS m.sessions ⟨x_.client, x_.seq, (applyR m.config x_.cmd).code⟩⟩⟩ := by unfold enterM; grind
           simp [-List.getD_eq_getElem?_getD, he, ← hps, eSession]
         · skip
           have hno : hasS m.sessions (Session.client ⟨x_.client, x_.seq, (applyR m.config x_.cmd).code⟩) = false := by simpa using c5
           refine D ?_
           refine kRk [] [65536, 421888] [] (s_put_Se m.sessions ⟨x_.client, x_.seq, (applyR m.config x_.cmd).code⟩ (by omega) hno) ?_
           refine D ?_
           refine E ?_
           have he : enterM m x_ = ⟨0, (applyR m.config x_.cmd).code, true, ⟨(applyR m.config x_.cmd).config, putS m.sessions ⟨x_.client, x_.seq, (applyR m.config x_.cmd).code⟩⟩⟩ := by unfold enterM; grind
           simp [-List.getD_eq_getElem?_getD, he, badM, zMachine, zConfig]
       · skip
         refine D ?_
         refine cC (fun c5 => ?_) (fun c5 => ?_)
         · skip
           have hl := hlb c5
           have hps := putS_has (xs := m.sessions) (s := ⟨x_.client, x_.seq, (applyR m.config x_.cmd).code⟩) c5
           refine D ?_
           refine E ?_
           have he : enterM m x_ = ⟨0, (applyR m.config x_.cmd).code, true, ⟨m.config, putS m.sessions ⟨x_.client, x_.seq, (applyR m.config x_.cmd).code⟩⟩⟩ := by unfold enterM; grind
           simp [-List.getD_eq_getElem?_getD, he, ← hps, eSession]
         · skip
           have hno : hasS m.sessions (Session.client ⟨x_.client, x_.seq, (applyR m.config x_.cmd).code⟩) = false := by simpa using c5
           refine D ?_
           refine kRk [] [65536, 421888] [] (s_put_Se m.sessions ⟨x_.client, x_.seq, (applyR m.config x_.cmd).code⟩ (by omega) hno) ?_
           refine D ?_
           refine E ?_
           have he : enterM m x_ = ⟨0, (applyR m.config x_.cmd).code, true, ⟨m.config, putS m.sessions ⟨x_.client, x_.seq, (applyR m.config x_.cmd).code⟩⟩⟩ := by unfold enterM; grind
           simp [-List.getD_eq_getElem?_getD, he, badM, zMachine, zConfig]
end Go.H
end
section
set_option maxRecDepth 100000
set_option maxHeartbeats 4000000
set_option cbv.maxSteps 4000000
set_option linter.unusedVariables false
set_option linter.unusedSimpArgs false
namespace Go.H
open Go Go.Proofs.Tryz
variable [Inv prog]
theorem s_impl_ApplyEntry (m : Machine) (hm1 : limM 2097151 m) (x_ : Entry) : SemX prog 47 [aS (eMachine false m), aS (eEntry x_)] [] [.agg (eMachineResult true (applyEntry m x_))] [] := by
 refine goF [] [] [] func47 ?_
 have hm : limM 2097152 m := ⟨limG_mono (by omega) hm1.1, Nat.le_succ_of_le hm1.2⟩
 refine D ?_
 refine kR (s_impl_MachineFault m hm) ?_
 refine D ?_
 refine cC (fun c0 => ?_) (fun c0 => ?_)
 · skip
   have K := (ma_ok c0).2
   refine D ?_
   refine kR (s_impl_EntryFault x_) ?_
   refine D ?_
   refine cC (fun c1 => ?_) (fun c1 => ?_)
   · skip
     refine D ?_
     refine E ?_
     have he : applyEntry m x_ = badM (entryFault x_) := by unfold applyEntry; grind
     simp [he, badM, zMachine, zConfig]
   · skip
     have h1 : entryFault x_ = 0 := by omega
     have hcf := fun h => ent_cmd h1 h
     refine D ?_
     refine kR (s_impl_enter m hm1 K x_ hcf) ?_
     refine D ?_
     refine E ?_
     have he : applyEntry m x_ = enterM m x_ := by unfold applyEntry; grind
     simp [he, badM, zMachine, zConfig]
 · skip
   refine D ?_
   refine cC (fun c1 => ?_) (fun c1 => ?_)
   · skip
     refine D ?_
     refine E ?_
     have he : applyEntry m x_ = badM (machineFault m) := by unfold applyEntry; grind
     simp [he, badM, zMachine, zConfig]
   · skip
     exfalso
     grind
end Go.H
end
section
set_option maxRecDepth 100000
set_option maxHeartbeats 4000000
set_option cbv.maxSteps 4000000
set_option linter.unusedVariables false
set_option linter.unusedSimpArgs false
namespace Go.H
open Go Go.Proofs.Tryz
variable [Inv prog]
section
attribute [local go_sem] mM mG mkL_length mkL_take
theorem s_laws_FnExactApplyEntry (m : Machine) (hb : m.config.backends.length ≤ 9223372036854775807) (hv : m.config.vips.length ≤ 9223372036854775807) (hV : ∀ i < m.config.vips.length, (m.config.vips.getD i zVip).names.length ≤ 9223372036854775807) (hs : m.sessions.length ≤ 9223372036854775807) (x_ : Entry) : SemX prog 7 [aS (eMachine false m), aS (eEntry x_)] [] [rB true] [] := by
 refine goF [] [(5, 0, [12288], []), (5, 1, [], [81921, 81922, 81923]), (5, 2, [16384], []), (5, 4, [81921, 81922, 81923], [94212, 94213, 94214]), (5, 5, [], [28672]), (5, 6, [28672], [28672]), (7, 0, [32768], []), (7, 1, [16384], []), (7, 3, [102401, 102402, 102403], [118788, 118789, 118790]), (7, 4, [], [36864]), (7, 5, [36864], [36864]), (10, 0, [32768], []), (10, 1, [12288], []), (10, 2, [], [147457, 147458, 147459]), (10, 3, [102401, 102402, 102403, 147457, 147458, 147459], []), (24, 0, [12288], []), (24, 1, [], [253953, 253954, 253955]), (24, 2, [16384], []), (24, 4, [253953, 253954, 253955], [266244, 266245, 266246]), (24, 5, [], [53248]), (24, 6, [53248], [53248])] [] func7 ?_
 refine D ?_
 refine kR (s_laws_szMachine m 1048576 (by omega) (by omega) hb hv hV hs) ?_
 refine D ?_
 refine cC (fun c0 => ?_) (fun c0 => ?_)
 · skip
   refine D ?_
   exact E trivial
 · skip
   have hz : 0 ≤ szMachine m 1048576 := by simp at c0; omega
   have hx0 := szMachine_lim hz (by omega)
   have hx : limM 2097152 m := ⟨limG_mono (by omega) hx0.1, Nat.le_trans hx0.2 (by omega)⟩
   have hx1 : limM 2097151 m := ⟨limG_mono (by omega) hx0.1, Nat.le_trans hx0.2 (by omega)⟩
   have hrr := applyEntry_lim hx0 x_
   have hr : limM 2097152 (applyEntry m x_).machine := ⟨limG_mono (by omega) hrr.1, Nat.le_trans hrr.2 (by omega)⟩
   have hbx := sM_bd hx (k := 1) (by omega)
   have hbr := sM_bd hr (k := 1) (by omega)
   have hux := sM_up m 1
   have hur := sM_up (applyEntry m x_).machine 1
   refine D ?_
   refine kD (s_laws_toMachine m hx) ?_
   refine D ?_
   refine kD (s_laws_toEntry x_) ?_
   refine D ?_
   refine kD (s_spec_ApplyEntry m hx1 x_) ?_
   refine D ?_
   refine kR (s_laws_toMachine m hx) ?_
   refine D ?_
   refine kD (s_laws_toEntry x_) ?_
   refine D ?_
   refine kD (s_impl_ApplyEntry m hx1 x_) ?_
   refine D ?_
   refine kR (s_laws_eqMachineResult (applyEntry m x_) hr) ?_
   refine D ?_
   refine cF ?_
   refine D ?_
   refine kD (s_laws_toMachine m hx) ?_
   refine D ?_
   refine kD (s_laws_eqMachine m hx) ?_
   refine D ?_
   refine cF ?_
   refine D ?_
   refine kRk [102401, 102402, 102403] [] [] (s_laws_markMachine m hx 1 (by omega) (by omega)) ?_
   refine D ?_
   refine kRg (s_laws_eqMachineResult (applyEntry m x_) hr) ?_
   refine D ?_
   refine cC (fun c3 => ?_) (fun c3 => ?_)
   · skip
     exfalso
     revert c3
     simp [-List.getD_eq_getElem?_getD]
     omega
   · skip
     refine D ?_
     refine kRk [118788, 118789, 118790] [] [] (s_laws_markMachineResult (applyEntry m x_).machine (applyEntry m x_).code (applyEntry m x_).reply (applyEntry m x_).fresh hr 1 (by omega) (by omega)) ?_
     refine D ?_
     refine kR (s_laws_heldMachineResult (applyEntry m x_).machine (applyEntry m x_).code (applyEntry m x_).reply (applyEntry m x_).fresh hr 1 (by omega) (by omega)) ?_
     refine D ?_
     refine cC (fun c4 => ?_) (fun c4 => ?_)
     · skip
       exfalso
       revert c4
       simp [-List.getD_eq_getElem?_getD]
       omega
     · skip
       refine D ?_
       refine cF ?_
       refine D ?_
       refine kD (s_laws_toMachine m hx) ?_
       refine D ?_
       refine kD (s_laws_toEntry x_) ?_
       refine D ?_
       refine kD (s_impl_ApplyEntry m hx1 x_) ?_
       refine D ?_
       refine kR (s_laws_eqMachineResult (applyEntry m x_) hr) ?_
       refine D ?_
       refine cF ?_
       refine D ?_
       refine kR (s_laws_heldMachineResult (applyEntry m x_).machine (applyEntry m x_).code (applyEntry m x_).reply (applyEntry m x_).fresh hr 1 (by omega) (by omega)) ?_
       refine D ?_
       refine cC (fun c7 => ?_) (fun c7 => ?_)
       · skip
         exfalso
         revert c7
         simp [-List.getD_eq_getElem?_getD]
         omega
       · skip
         refine D ?_
         refine cF ?_
         refine D ?_
         exact E trivial
end
end Go.H
end
