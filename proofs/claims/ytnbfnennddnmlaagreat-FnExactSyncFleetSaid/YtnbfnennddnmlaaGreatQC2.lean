/- What the functions that several laws reach compute, each by its code, against pure functions. Conditions: those that each theorem states. -/
import Derived.Test.YtnbfnennddnmlaaGreatQC1
section
set_option maxRecDepth 100000
set_option maxHeartbeats 4000000
set_option cbv.maxSteps 4000000
set_option linter.unusedVariables false
set_option linter.unusedSimpArgs false
namespace Go.H
open Go Go.Proofs.Tryz
variable [Inv prog]
theorem s_laws_szFleet (x : Fleet) (l : Int) (h0 : -1 ≤ l) (h1 : l ≤ 1048576) (hq : qFleet x) : SemX prog 26 [aS (eFleet false x), aI l] [] [rI (szFleet x l)] [] := by
 refine goF [] [] [] func26 ?_
 refine D ?_
 refine kR (s_laws_szEntryS (x.agreed.map eEntry) l h0 h1 (by simp only [List.length_map]; exact hq.1)) ?_
 refine D ?_
 refine cC (fun c0 => ?_) (fun c0 => ?_)
 · skip
   refine D ?_
   refine E ?_
   first
   | exact trivial
   | simp [szFleet, szT, *]
 · skip
   refine D ?_
   refine kR (s_laws_szMuxS x.muxes (szL x.agreed.length l) (szL_lo _ _) (szL_hi h1 (by omega)) hq.2.1 hq.2.2) ?_
   refine D ?_
   refine cC (fun c1 => ?_) (fun c1 => ?_)
   · skip
     refine D ?_
     refine E ?_
     first
     | exact trivial
     | simp [szFleet, szT, *]
   · skip
     refine D ?_
     refine E ?_
     first
     | exact trivial
     | simp [szFleet, szT, *]
theorem s_laws_toCmd (x : Cmd) : SemX prog 98 [aS (eCmd x)] [] [.agg (eCmd x)] [] := by
 refine goF [] [] [] func98 ?_
 refine D ?_
 exact E trivial
theorem s_laws_toEntry (x : Entry) : SemX prog 38 [aS (eEntry x)] [] [.agg (eEntry x)] [] := by
 refine goF [] [] [] func38 ?_
 refine D ?_
 refine kR (s_laws_toCmd x.cmd) ?_
 refine D ?_
 exact E trivial
theorem s_laws_toEntryS (xs : List Entry) (hl : xs.length ≤ 2097152)  : SemX prog 78 [aT (.sl false 9 (xs.map eEntry))] [] [.one (.sl true 9 (xs.map eEntry))] [] := by
 refine goF [] [] [] func78 ?_
 refine D ?_
 refine L (α := Nat) (fun x => [(4, .int .i64 x)]) (fun x => [(32768, .arr ⟨9, (xs.take x).map eEntry ++ List.replicate (xs.length - x) dEntry, x + 1, none⟩)]) (fun x => xs.length - x) (fun x => x ≤ xs.length) 0 [] (fun x hI => ?_) (by simp only [go_sem] <;> and_intros <;> first | with_reducible exact rfl | (first | omega | (simp [dEntry, eEntry, zEntry, zCmd, zEntry]; done)))
 refine D ?_
 refine cC (fun c0 => ?_) (fun c0 => ?_)
 · skip
   have hg := getD_bld (l := (xs.take x).map eEntry) (n := xs.length - x) (d := dEntry) (i := x) (by simp; omega)
   have hA := hg
   refine D ?_
   refine kR (s_laws_toEntry (xs.getD x zEntry)) ?_
   refine D ?_
   refine lp_next (x+1) [] ?_ ?_ ?_
   · simp only [go_sem, hA] <;> and_intros <;> first | with_reducible exact rfl | (first | omega | (rw [← bld_step eEntry zEntry dEntry (by omega)]; simp only [eEntry]))
   · omega
   · omega
 · skip
   obtain rfl : x = xs.length := by omega
   refine D ?_
   exact E trivial
theorem s_laws_toBackend (x : Backend) : SemX prog 237 [aS (eBackend x)] [] [.agg (eBackend x)] [] := by
 refine goF [] [] [] func237 ?_
 refine D ?_
 exact E trivial
theorem s_laws_toBackendS (xs : List Backend) (hl : xs.length ≤ 2097152)  : SemX prog 170 [aT (.sl false 5 (xs.map eBackend))] [] [.one (.sl true 5 (xs.map eBackend))] [] := by
 refine goF [] [] [] func170 ?_
 refine D ?_
 refine L (α := Nat) (fun x => [(4, .int .i64 x)]) (fun x => [(32768, .arr ⟨5, (xs.take x).map eBackend ++ List.replicate (xs.length - x) dBackend, x + 1, none⟩)]) (fun x => xs.length - x) (fun x => x ≤ xs.length) 0 [] (fun x hI => ?_) (by simp only [go_sem] <;> and_intros <;> first | with_reducible exact rfl | (first | omega | (simp [dBackend, eBackend, zBackend, zCmd, zEntry]; done)))
 refine D ?_
 refine cC (fun c0 => ?_) (fun c0 => ?_)
 · skip
   have hg := getD_bld (l := (xs.take x).map eBackend) (n := xs.length - x) (d := dBackend) (i := x) (by simp; omega)
   have hA := hg
   refine D ?_
   refine kR (s_laws_toBackend (xs.getD x zBackend)) ?_
   refine D ?_
   refine lp_next (x+1) [] ?_ ?_ ?_
   · simp only [go_sem, hA] <;> and_intros <;> first | with_reducible exact rfl | (first | omega | (rw [← bld_step eBackend zBackend dBackend (by omega)]; simp only [eBackend]))
   · omega
   · omega
 · skip
   obtain rfl : x = xs.length := by omega
   refine D ?_
   exact E trivial
theorem s_laws_toInt64S (xs : List Int) (hl : xs.length ≤ 2097152)  : SemX prog 121 [aT (.sl false 1 (xs.map eI_i64))] [] [.one (.sl true 1 (xs.map eI_i64))] [] := by
 refine goF [] [] [] func121 ?_
 refine D ?_
 refine L (α := Nat) (fun x => [(4, .int .i64 x)]) (fun x => [(32768, .arr ⟨1, (xs.take x).map eI_i64 ++ List.replicate (xs.length - x) dI_i64, x + 1, none⟩)]) (fun x => xs.length - x) (fun x => x ≤ xs.length) 0 [] (fun x hI => ?_) (by simp only [go_sem] <;> and_intros <;> first | with_reducible exact rfl | (first | omega | (simp [dI_i64, eI_i64, zI_i64, zCmd, zEntry]; done)))
 refine D ?_
 refine cC (fun c0 => ?_) (fun c0 => ?_)
 · skip
   have hg := getD_bld (l := (xs.take x).map eI_i64) (n := xs.length - x) (d := dI_i64) (i := x) (by simp; omega)
   have hA := hg
   refine D ?_
   refine lp_next (x+1) [] ?_ ?_ ?_
   · simp only [go_sem, hA] <;> and_intros <;> first | with_reducible exact rfl | (first | omega | (rw [← bld_step eI_i64 zI_i64 dI_i64 (by omega)]; simp only [eI_i64]))
   · omega
   · omega
 · skip
   obtain rfl : x = xs.length := by omega
   refine D ?_
   exact E trivial
theorem s_laws_toVip (x : Vip) (hx : limV 2097152 x) : SemX prog 238 [aS (eVip false x)] [] [.agg (eVip true x)] [] := by
 refine goF [] [] [] func238 ?_
 refine D ?_
 refine kR (s_laws_toInt64S x.names hx) ?_
 refine D ?_
 exact E trivial
theorem s_laws_toVipS (xs : List Vip) (hl : xs.length ≤ 2097152) (hm : ∀ y ∈ xs, limV 2097152 y) : SemX prog 171 [aT (.sl false 4 (xs.map (eVip false)))] [] [.one (.sl true 4 (xs.map (eVip true)))] [] := by
 refine goF [] [] [] func171 ?_
 refine D ?_
 refine L (α := Nat) (fun x => [(4, .int .i64 x)]) (fun x => [(32768, .arr ⟨4, (xs.take x).map (eVip true) ++ List.replicate (xs.length - x) (dVip true), x + 1, none⟩)]) (fun x => xs.length - x) (fun x => x ≤ xs.length) 0 [] (fun x hI => ?_) (by simp only [go_sem] <;> and_intros <;> first | with_reducible exact rfl | (first | omega | (simp [dVip, eVip, zVip, zCmd, zEntry]; done)))
 refine D ?_
 refine cC (fun c0 => ?_) (fun c0 => ?_)
 · skip
   have hg := getD_bld (l := (xs.take x).map (eVip true)) (n := xs.length - x) (d := (dVip true)) (i := x) (by simp; omega)
   have hA := hg
   refine D ?_
   refine kR (s_laws_toVip (xs.getD x zVip) ((all_getD zVip).2 hm x (by omega))) ?_
   refine D ?_
   refine lp_next (x+1) [] ?_ ?_ ?_
   · simp only [go_sem, hA] <;> and_intros <;> first | with_reducible exact rfl | (first | omega | (rw [← bld_step (eVip true) zVip (dVip true) (by omega)]; simp only [eVip]))
   · omega
   · omega
 · skip
   obtain rfl : x = xs.length := by omega
   refine D ?_
   exact E trivial
theorem s_laws_toConfig (x : Config) (hx : limG 2097152 x) : SemX prog 87 [aS (eConfig false x)] [] [.agg (eConfig true x)] [] := by
 refine goF [] [] [] func87 ?_
 refine D ?_
 refine kR (s_laws_toBackendS x.backends hx.1) ?_
 refine D ?_
 refine kR (s_laws_toVipS x.vips hx.2.1 hx.2.2) ?_
 refine D ?_
 exact E trivial
theorem s_laws_toWatch (x : Watch) (hx : limG 2097152 x.config) : SemX prog 59 [aS (eWatch false x)] [] [.agg (eWatch true x)] [] := by
 refine goF [] [] [] func59 ?_
 refine D ?_
 refine kR (s_laws_toConfig x.config hx) ?_
 refine D ?_
 exact E trivial
theorem s_laws_toInt64SS (xs : List (List Int)) (hl : xs.length ≤ 2097152) (hm : ∀ y ∈ xs, y.length ≤ 2097152) : SemX prog 60 [aT (.sl false 1 (xs.map (eLI_i64 false)))] [] [.one (.sl true 1 (xs.map (eLI_i64 true)))] [] := by
 refine goF [] [] [] func60 ?_
 refine D ?_
 refine L (α := Nat) (fun x => [(4, .int .i64 x)]) (fun x => [(32768, .arr ⟨1, (xs.take x).map (eLI_i64 true) ++ List.replicate (xs.length - x) (dLI_i64 true), x + 1, none⟩)]) (fun x => xs.length - x) (fun x => x ≤ xs.length) 0 [] (fun x hI => ?_) (by simp only [go_sem] <;> and_intros <;> first | with_reducible exact rfl | (first | omega | (simp [dLI_i64, eLI_i64, zLI_i64]; done)))
 refine D ?_
 refine cC (fun c0 => ?_) (fun c0 => ?_)
 · skip
   have hg := getD_bld (l := (xs.take x).map (eLI_i64 true)) (n := xs.length - x) (d := (dLI_i64 true)) (i := x) (by simp; omega)
   have hA := hg
   refine D ?_
   refine kR (s_laws_toInt64S (xs.getD x zLI_i64) (hm _ (getD_mem zLI_i64 (by omega)))) ?_
   refine D ?_
   refine lp_next (x+1) [] ?_ ?_ ?_
   · simp only [go_sem, hA] <;> and_intros <;> first | with_reducible exact rfl | (first | omega | (rw [← bld_step (eLI_i64 true) zLI_i64 (dLI_i64 true) (by omega)]; simp only [eLI_i64]))
   · omega
   · omega
 · skip
   obtain rfl : x = xs.length := by omega
   refine D ?_
   exact E trivial
theorem s_laws_toFlow (x : Flow) : SemX prog 197 [aS (eFlow x)] [] [.agg (eFlow x)] [] := by
 refine goF [] [] [] func197 ?_
 refine D ?_
 exact E trivial
theorem s_laws_toHeld (x : Held) : SemX prog 122 [aS (eHeld x)] [] [.agg (eHeld x)] [] := by
 refine goF [] [] [] func122 ?_
 refine D ?_
 refine kR (s_laws_toFlow x.flow) ?_
 refine D ?_
 exact E trivial
theorem s_laws_toHeldS (xs : List Held) (hl : xs.length ≤ 2097152)  : SemX prog 61 [aT (.sl false 7 (xs.map eHeld))] [] [.one (.sl true 7 (xs.map eHeld))] [] := by
 refine goF [] [] [] func61 ?_
 refine D ?_
 refine L (α := Nat) (fun x => [(4, .int .i64 x)]) (fun x => [(32768, .arr ⟨7, (xs.take x).map eHeld ++ List.replicate (xs.length - x) dHeld, x + 1, none⟩)]) (fun x => xs.length - x) (fun x => x ≤ xs.length) 0 [] (fun x hI => ?_) (by simp only [go_sem] <;> and_intros <;> first | with_reducible exact rfl | (first | omega | (simp [dHeld, eHeld, zHeld, zFlow]; done)))
 refine D ?_
 refine cC (fun c0 => ?_) (fun c0 => ?_)
 · skip
   have hg := getD_bld (l := (xs.take x).map eHeld) (n := xs.length - x) (d := dHeld) (i := x) (by simp; omega)
   have hA := hg
   refine D ?_
   refine kR (s_laws_toHeld (xs.getD x zHeld)) ?_
   refine D ?_
   refine lp_next (x+1) [] ?_ ?_ ?_
   · simp only [go_sem, hA] <;> and_intros <;> first | with_reducible exact rfl | (first | omega | (rw [← bld_step eHeld zHeld dHeld (by omega)]; simp only [eHeld]))
   · omega
   · omega
 · skip
   obtain rfl : x = xs.length := by omega
   refine D ?_
   exact E trivial
theorem s_laws_toMux (x : Mux) (hx : limX 2097152 x) : SemX prog 14 [aS (eMux false x)] [] [.agg (eMux true x)] [] := by
 refine goF [] [] [] func14 ?_
 refine D ?_
 refine kR (s_laws_toWatch x.watch hx.1) ?_
 refine D ?_
 refine kR (s_laws_toInt64SS x.tables hx.2.1 hx.2.2.1) ?_
 refine D ?_
 refine kR (s_laws_toHeldS x.cache hx.2.2.2) ?_
 refine D ?_
 exact E trivial
theorem s_laws_toMuxS (xs : List Mux) (hl : xs.length ≤ 2097152) (hm : ∀ y ∈ xs, limX 2097152 y) : SemX prog 79 [aT (.sl false 8 (xs.map (eMux false)))] [] [.one (.sl true 8 (xs.map (eMux true)))] [] := by
 refine goF [] [] [] func79 ?_
 refine D ?_
 refine L (α := Nat) (fun x => [(4, .int .i64 x)]) (fun x => [(32768, .arr ⟨8, (xs.take x).map (eMux true) ++ List.replicate (xs.length - x) (dMux true), x + 1, none⟩)]) (fun x => xs.length - x) (fun x => x ≤ xs.length) 0 [] (fun x hI => ?_) (by simp only [go_sem] <;> and_intros <;> first | with_reducible exact rfl | (first | omega | (simp [dMux, eMux, zMux, zWatch, zConfig]; done)))
 refine D ?_
 refine cC (fun c0 => ?_) (fun c0 => ?_)
 · skip
   have hg := getD_bld (l := (xs.take x).map (eMux true)) (n := xs.length - x) (d := (dMux true)) (i := x) (by simp; omega)
   have hA := hg
   refine D ?_
   refine kR (s_laws_toMux (xs.getD x zMux) (hm _ (getD_mem zMux (by omega)))) ?_
   refine D ?_
   refine lp_next (x+1) [] ?_ ?_ ?_
   · simp only [go_sem, hA] <;> and_intros <;> first | with_reducible exact rfl | (first | omega | (rw [← bld_step (eMux true) zMux (dMux true) (by omega)]; simp only [eMux]))
   · omega
   · omega
 · skip
   obtain rfl : x = xs.length := by omega
   refine D ?_
   exact E trivial
theorem s_laws_toFleet (x : Fleet) (hx : limF 2097152 x) : SemX prog 28 [aS (eFleet false x)] [] [.agg (eFleet true x)] [] := by
 refine goF [] [] [] func28 ?_
 refine D ?_
 refine kR (s_laws_toEntryS x.agreed hx.1) ?_
 refine D ?_
 refine kR (s_laws_toMuxS x.muxes hx.2.1 hx.2.2) ?_
 refine D ?_
 exact E trivial
theorem s_laws_eqCmd (x : Cmd)  : SemX prog 176 [aS (eCmd x), aS (eCmd x)] [] [rB true] [] := by
 refine goF [] [] [] func176 ?_
 refine D ?_
 refine cF ?_
 refine D ?_
 refine cF ?_
 refine D ?_
 refine cF ?_
 refine D ?_
 refine cF ?_
 refine D ?_
 refine cF ?_
 refine D ?_
 refine cF ?_
 refine D ?_
 exact E trivial
theorem s_laws_eqEntry (x : Entry)  : SemX prog 161 [aS (eEntry x), aS (eEntry x)] [] [rB true] [] := by
 refine goF [] [] [] func161 ?_
 refine D ?_
 refine cF ?_
 refine D ?_
 refine cF ?_
 refine D ?_
 refine cF ?_
 refine D ?_
 refine kR (s_laws_eqCmd x.cmd) ?_
 refine D ?_
 refine cF ?_
 refine D ?_
 exact E trivial
theorem s_laws_eqEntryS (xs : List Entry) (hl : xs.length ≤ 2097152)  : SemX prog 81 [aT (.sl false 9 (xs.map eEntry)), aT (.sl false 9 (xs.map eEntry))] [] [rB true] [] := by
 refine goF [] [] [] func81 ?_
 refine D ?_
 refine cF ?_
 refine D ?_
 refine L (α := Nat) (fun x => [(5, .int .i64 x)]) (fun x => []) (fun x => xs.length - x) (fun x => x ≤ xs.length) 0 [] (fun x hI => ?_)
 refine D ?_
 refine cC (fun c1 => ?_) (fun c1 => ?_)
 · skip
   refine D ?_
   refine kD (s_laws_eqEntry (xs.getD x zEntry)) ?_
   refine D ?_
   refine cF ?_
   refine D ?_
   exact N (x+1) []
 · skip
   refine D ?_
   exact E trivial
theorem s_laws_eqBackend (x : Backend) : SemX prog 241 [aS (eBackend x), aS (eBackend x)] [] [rB true] [] := by
 refine goF [] [] [] func241 ?_
 refine D ?_
 refine cF ?_
 refine D ?_
 refine cF ?_
 refine D ?_
 refine cF ?_
 refine D ?_
 refine cF ?_
 refine D ?_
 refine cF ?_
 refine D ?_
 exact E trivial
theorem s_laws_eqBackendS (xs : List Backend) (hl : xs.length ≤ 2097152)  : SemX prog 174 [aT (.sl false 5 (xs.map eBackend)), aT (.sl false 5 (xs.map eBackend))] [] [rB true] [] := by
 refine goF [] [] [] func174 ?_
 refine D ?_
 refine cF ?_
 refine D ?_
 refine L (α := Nat) (fun x => [(5, .int .i64 x)]) (fun x => []) (fun x => xs.length - x) (fun x => x ≤ xs.length) 0 [] (fun x hI => ?_)
 refine D ?_
 refine cC (fun c1 => ?_) (fun c1 => ?_)
 · skip
   refine D ?_
   refine kD (s_laws_eqBackend (xs.getD x zBackend)) ?_
   refine D ?_
   refine cF ?_
   refine D ?_
   exact N (x+1) []
 · skip
   refine D ?_
   exact E trivial
theorem s_laws_eqInt64S (xs : List Int) (hl : xs.length ≤ 2097152)  : SemX prog 134 [aT (.sl false 1 (xs.map eI_i64)), aT (.sl false 1 (xs.map eI_i64))] [] [rB true] [] := by
 refine goF [] [] [] func134 ?_
 refine D ?_
 refine cF ?_
 refine D ?_
 refine L (α := Nat) (fun x => [(5, .int .i64 x)]) (fun x => []) (fun x => xs.length - x) (fun x => x ≤ xs.length) 0 [] (fun x hI => ?_)
 refine D ?_
 refine cC (fun c1 => ?_) (fun c1 => ?_)
 · skip
   refine D ?_
   refine cF ?_
   refine D ?_
   exact N (x+1) []
 · skip
   refine D ?_
   exact E trivial
theorem s_laws_eqVip (x : Vip) (hx : limV 2097152 x) : SemX prog 242 [aS (eVip false x), aS (eVip false x)] [] [rB true] [] := by
 refine goF [] [] [] func242 ?_
 refine D ?_
 refine cF ?_
 refine D ?_
 refine cF ?_
 refine D ?_
 refine cF ?_
 refine D ?_
 refine kR (s_laws_eqInt64S x.names hx) ?_
 refine D ?_
 refine cF ?_
 refine D ?_
 exact E trivial
theorem s_laws_eqVipS (xs : List Vip) (hl : xs.length ≤ 2097152) (hm : ∀ y ∈ xs, limV 2097152 y) : SemX prog 175 [aT (.sl false 4 (xs.map (eVip false))), aT (.sl false 4 (xs.map (eVip false)))] [] [rB true] [] := by
 refine goF [] [] [] func175 ?_
 refine D ?_
 refine cF ?_
 refine D ?_
 refine L (α := Nat) (fun x => [(5, .int .i64 x)]) (fun x => []) (fun x => xs.length - x) (fun x => x ≤ xs.length) 0 [] (fun x hI => ?_)
 refine D ?_
 refine cC (fun c1 => ?_) (fun c1 => ?_)
 · skip
   refine D ?_
   refine kD (s_laws_eqVip (xs.getD x zVip) ((all_getD zVip).2 hm x (by omega))) ?_
   refine D ?_
   refine cF ?_
   refine D ?_
   exact N (x+1) []
 · skip
   refine D ?_
   exact E trivial
theorem s_laws_eqConfig (x : Config) (hx : limG 2097152 x) : SemX prog 90 [aS (eConfig false x), aS (eConfig false x)] [] [rB true] [] := by
 refine goF [] [] [] func90 ?_
 refine D ?_
 refine cF ?_
 refine D ?_
 refine kR (s_laws_eqBackendS x.backends hx.1) ?_
 refine D ?_
 refine cF ?_
 refine D ?_
 refine kR (s_laws_eqVipS x.vips hx.2.1 hx.2.2) ?_
 refine D ?_
 refine cF ?_
 refine D ?_
 exact E trivial
theorem s_laws_eqWatch (x : Watch) (hx : limG 2097152 x.config) : SemX prog 64 [aS (eWatch false x), aS (eWatch false x)] [] [rB true] [] := by
 refine goF [] [] [] func64 ?_
 refine D ?_
 refine cF ?_
 refine D ?_
 refine kR (s_laws_eqConfig x.config hx) ?_
 refine D ?_
 refine cF ?_
 refine D ?_
 exact E trivial
theorem s_laws_eqInt64SS (xs : List (List Int)) (hl : xs.length ≤ 2097152) (hm : ∀ y ∈ xs, y.length ≤ 2097152) : SemX prog 65 [aT (.sl false 1 (xs.map (eLI_i64 false))), aT (.sl false 1 (xs.map (eLI_i64 false)))] [] [rB true] [] := by
 refine goF [] [] [] func65 ?_
 refine D ?_
 refine cF ?_
 refine D ?_
 refine L (α := Nat) (fun x => [(5, .int .i64 x)]) (fun x => []) (fun x => xs.length - x) (fun x => x ≤ xs.length) 0 [] (fun x hI => ?_)
 refine D ?_
 refine cC (fun c1 => ?_) (fun c1 => ?_)
 · skip
   refine D ?_
   refine kD (s_laws_eqInt64S (xs.getD x zLI_i64) (hm _ (getD_mem zLI_i64 (by omega)))) ?_
   refine D ?_
   refine cF ?_
   refine D ?_
   exact N (x+1) []
 · skip
   refine D ?_
   exact E trivial
theorem s_laws_eqFlow (x : Flow) : SemX prog 204 [aS (eFlow x), aS (eFlow x)] [] [rB true] [] := by
 refine goF [] [] [] func204 ?_
 refine D ?_
 refine cF ?_
 refine D ?_
 refine cF ?_
 refine D ?_
 refine cF ?_
 refine D ?_
 refine cF ?_
 refine D ?_
 refine cF ?_
 refine D ?_
 exact E trivial
theorem s_laws_eqHeld (x : Held) : SemX prog 135 [aS (eHeld x), aS (eHeld x)] [] [rB true] [] := by
 refine goF [] [] [] func135 ?_
 refine D ?_
 refine kR (s_laws_eqFlow x.flow) ?_
 refine D ?_
 refine cF ?_
 refine D ?_
 refine cF ?_
 refine D ?_
 refine cF ?_
 refine D ?_
 exact E trivial
theorem s_laws_eqHeldS (xs : List Held) (hl : xs.length ≤ 2097152)  : SemX prog 66 [aT (.sl false 7 (xs.map eHeld)), aT (.sl false 7 (xs.map eHeld))] [] [rB true] [] := by
 refine goF [] [] [] func66 ?_
 refine D ?_
 refine cF ?_
 refine D ?_
 refine L (α := Nat) (fun x => [(5, .int .i64 x)]) (fun x => []) (fun x => xs.length - x) (fun x => x ≤ xs.length) 0 [] (fun x hI => ?_)
 refine D ?_
 refine cC (fun c1 => ?_) (fun c1 => ?_)
 · skip
   refine D ?_
   refine kD (s_laws_eqHeld (xs.getD x zHeld)) ?_
   refine D ?_
   refine cF ?_
   refine D ?_
   exact N (x+1) []
 · skip
   refine D ?_
   exact E trivial
theorem s_laws_eqMux (x : Mux) (hx : limX 2097152 x) : SemX prog 17 [aS (eMux false x), aS (eMux false x)] [] [rB true] [] := by
 refine goF [] [] [] func17 ?_
 refine D ?_
 refine cF ?_
 refine D ?_
 refine cF ?_
 refine D ?_
 refine kR (s_laws_eqWatch x.watch hx.1) ?_
 refine D ?_
 refine cF ?_
 refine D ?_
 refine kR (s_laws_eqInt64SS x.tables hx.2.1 hx.2.2.1) ?_
 refine D ?_
 refine cF ?_
 refine D ?_
 refine kR (s_laws_eqHeldS x.cache hx.2.2.2) ?_
 refine D ?_
 refine cF ?_
 refine D ?_
 exact E trivial
theorem s_laws_eqMuxS (xs : List Mux) (hl : xs.length ≤ 2097152) (hm : ∀ y ∈ xs, limX 2097152 y) : SemX prog 82 [aT (.sl false 8 (xs.map (eMux false))), aT (.sl false 8 (xs.map (eMux false)))] [] [rB true] [] := by
 refine goF [] [] [] func82 ?_
 refine D ?_
 refine cF ?_
 refine D ?_
 refine L (α := Nat) (fun x => [(5, .int .i64 x)]) (fun x => []) (fun x => xs.length - x) (fun x => x ≤ xs.length) 0 [] (fun x hI => ?_)
 refine D ?_
 refine cC (fun c1 => ?_) (fun c1 => ?_)
 · skip
   refine D ?_
   refine kD (s_laws_eqMux (xs.getD x zMux) ((all_getD zMux).2 hm x (by omega))) ?_
   refine D ?_
   refine cF ?_
   refine D ?_
   exact N (x+1) []
 · skip
   refine D ?_
   exact E trivial
theorem s_laws_eqFleet (x : Fleet) (hx : limF 2097152 x) : SemX prog 30 [aS (eFleet false x), aS (eFleet false x)] [] [rB true] [] := by
 refine goF [] [] [] func30 ?_
 refine D ?_
 refine kR (s_laws_eqEntryS x.agreed hx.1) ?_
 refine D ?_
 refine cF ?_
 refine D ?_
 refine kR (s_laws_eqMuxS x.muxes hx.2.1 hx.2.2) ?_
 refine D ?_
 refine cF ?_
 refine D ?_
 exact E trivial
theorem s_laws_eqByteS (xs : List Int) (hl : xs.length ≤ 2097152)  : SemX prog 24 [aT (.sl false 1 (xs.map eI_u8)), aT (.sl false 1 (xs.map eI_u8))] [] [rB true] [] := by
 refine goF [] [] [] func24 ?_
 refine D ?_
 refine cF ?_
 refine D ?_
 refine L (α := Nat) (fun x => [(5, .int .i64 x)]) (fun x => []) (fun x => xs.length - x) (fun x => x ≤ xs.length) 0 [] (fun x hI => ?_)
 refine D ?_
 refine cC (fun c1 => ?_) (fun c1 => ?_)
 · skip
   refine D ?_
   refine cF ?_
   refine D ?_
   exact N (x+1) []
 · skip
   refine D ?_
   exact E trivial
theorem s_laws_eqFleetResult (r : FleetResult) (hr : limFR 2097152 r) : SemX prog 40 [aS (eFleetResult false r), aS (eFleetResult false r)] [] [rB true] [] := by
 refine goF [] [] [] func40 ?_
 refine D ?_
 refine cF ?_
 refine D ?_
 refine cF ?_
 refine D ?_
 refine cF ?_
 refine D ?_
 refine kR (s_laws_eqByteS r.out hr.1) ?_
 refine D ?_
 refine cF ?_
 refine D ?_
 refine kR (s_laws_eqFleet r.fleet hr.2) ?_
 refine D ?_
 refine cF ?_
 refine D ?_
 exact E trivial
section
attribute [local go_sem] List.set_set mkL_length
theorem s_laws_markEntryS (xs : List Entry) (k : Int) (hk : 0 ≤ k) (hl : xs.length ≤ 2097152) (hb : mkK sE xs k ≤ 9000000000000000000) : SemX prog 102 [.one (.arr 0), aI k] [.arr 9 (xs.map eEntry)] [rI (mkK sE xs k)] [.arr 9 ((mkL mE sE xs k).map eEntry)] := by
 refine goF [] [] [] func102 ?_
 refine D ?_
 refine L (α := Nat) (fun x => [(1, .int .i64 (mkK sE (xs.take x) k)), (5, .int .i64 x)]) (fun x => [(1000000, .arr ⟨9, (mkL mE sE (xs.take x) k ++ xs.drop x).map eEntry, 1 + 9 * x, none⟩)]) (fun x => xs.length - x) (fun x => x ≤ xs.length) 0 [] (fun x hI => ?_) (by simp only [go_sem] <;> and_intros <;> first | with_reducible exact rfl | (first | omega | (simp [mkL, mkK]; done)))
 refine D ?_
 refine cC (fun c0 => ?_) (fun c0 => ?_)
 · skip
   have hat := mkK_at sE_up zEntry (xs := xs) (i := x) (by omega) hb
   simp only [sE] at hat
   have hg : ∀ r, (((mkL mE sE (xs.take x) k ++ xs.drop x).map eEntry).set x r).getD x dEntry = r := fun r => getD_set_self (by simp [mkL_length]; omega) r _
   have hA := And.intro hg ((mk_getD mE sE zEntry k (show x < xs.length by omega)))
   refine D ?_
   refine lp_next (x+1) [] ?_ ?_ ?_
   · simp only [go_sem, hA] <;> and_intros <;> first | with_reducible exact rfl | (first | omega | (refine int_eq ?_; rw [mkK_succ sE zEntry (by omega)]; rfl) | (refine arr_eq ?_ (by omega); rw [← mk_step eEntry mE sE zEntry (by omega)]; simp only [eEntry, mE, mE, mC]))
   · omega
   · omega
 · skip
   obtain rfl : x = xs.length := by omega
   refine D ?_
   refine E ?_
   first
   | exact trivial
   | simp only [go_sem, List.drop_length, mkL_length]; done
   | try simp only [go_sem, List.drop_length, mkL_length]
     simp [mkL_length]
end
section
attribute [local go_sem] List.set_set mkL_length
theorem s_laws_markInt64S (xs : List Int) (k : Int) (hk : 0 ≤ k) (hl : xs.length ≤ 2097152) (hb : mkK sI xs k ≤ 9000000000000000000) : SemX prog 136 [.one (.arr 0), aI k] [.arr 1 (xs.map eI_i64)] [rI (mkK sI xs k)] [.arr 1 ((mkL mI sI xs k).map eI_i64)] := by
 refine goF [] [] [] func136 ?_
 refine D ?_
 refine L (α := Nat) (fun x => [(1, .int .i64 (mkK sI (xs.take x) k)), (5, .int .i64 x)]) (fun x => [(1000000, .arr ⟨1, (mkL mI sI (xs.take x) k ++ xs.drop x).map eI_i64, 1 + 1 * x, none⟩)]) (fun x => xs.length - x) (fun x => x ≤ xs.length) 0 [] (fun x hI => ?_) (by simp only [go_sem] <;> and_intros <;> first | with_reducible exact rfl | (first | omega | (simp [mkL, mkK]; done)))
 refine D ?_
 refine cC (fun c0 => ?_) (fun c0 => ?_)
 · skip
   have hat := mkK_at sI_up zI_i64 (xs := xs) (i := x) (by omega) hb
   simp only [sI] at hat
   have hg : ∀ r, (((mkL mI sI (xs.take x) k ++ xs.drop x).map eI_i64).set x r).getD x dI_i64 = r := fun r => getD_set_self (by simp [mkL_length]; omega) r _
   have hA := And.intro hg ((mk_getD mI sI zI_i64 k (show x < xs.length by omega)))
   refine D ?_
   refine lp_next (x+1) [] ?_ ?_ ?_
   · simp only [go_sem, hA] <;> and_intros <;> first | with_reducible exact rfl | (first | omega | (refine int_eq ?_; rw [mkK_succ sI zI_i64 (by omega)]; rfl) | (refine arr_eq ?_ (by omega); rw [← mk_step eI_i64 mI sI zI_i64 (by omega)]; simp only [eI_i64, mI]))
   · omega
   · omega
 · skip
   obtain rfl : x = xs.length := by omega
   refine D ?_
   refine E ?_
   first
   | exact trivial
   | simp only [go_sem, List.drop_length, mkL_length]; done
   | try simp only [go_sem, List.drop_length, mkL_length]
     simp [mkL_length]
end
section
attribute [local go_sem] List.set_set mkL_length
theorem s_laws_markInt64SS (xs : List (List Int)) (k : Int) (hk : 0 ≤ k) (hl : xs.length ≤ 2097152) (hb : mkK sLI xs k ≤ 9000000000000000000) (hm : ∀ y ∈ xs, y.length ≤ 2097152) : SemX prog 68 [.one (.arr 0), aI k] [.arr 1 (xs.map (eLI_i64 true))] [rI (mkK sLI xs k)] [.arr 1 ((mkL mLI sLI xs k).map (eLI_i64 true))] := by
 refine goF [(32, ⟨some 3, some 65536, none, none⟩)] [] [] func68 ?_
 refine D ?_
 refine L (α := Nat) (fun x => [(1, .int .i64 (mkK sLI (xs.take x) k)), (5, .int .i64 x)]) (fun x => [(1000000, .arr ⟨1, (mkL mLI sLI (xs.take x) k ++ xs.drop x).map (eLI_i64 true), 1 + 2 * x, none⟩)]) (fun x => xs.length - x) (fun x => x ≤ xs.length) 0 [] (fun x hI => ?_) (by simp only [go_sem] <;> and_intros <;> first | with_reducible exact rfl | (first | omega | (simp [mkL, mkK]; done)))
 refine D ?_
 refine cC (fun c0 => ?_) (fun c0 => ?_)
 · skip
   have hat := mkK_at sLI_up zLI_i64 (xs := xs) (i := x) (by omega) hb
   simp only [sLI] at hat
   have hg : ∀ r, (((mkL mLI sLI (xs.take x) k ++ xs.drop x).map (eLI_i64 true)).set x r).getD x (dLI_i64 true) = r := fun r => getD_set_self (by simp [mkL_length]; omega) r _
   have hA := And.intro hg ((mk_getD mLI sLI zLI_i64 k (show x < xs.length by omega)))
   refine D ?_
   refine RW_callBN 15 (dLI_i64 true) (by kernel_rfl) (s_laws_markInt64S (xs.getD x zLI_i64) _ (by omega) (hm _ (getD_mem zLI_i64 (by omega))) hat.2) true [65536] [] [] rfl rfl (by simp only [go_sem, hA] <;> and_intros <;> first | with_reducible exact rfl | omega | with_reducible trivial | (intros; simp_all; done) | grind) (by exact rfl) (by simp only [go_sem, hA] <;> and_intros <;> first | with_reducible exact rfl | omega | with_reducible trivial | (intros; simp_all; done) | grind) (by first | rfl | (simp only [go_sem, hA]; done)) (by simp only [go_sem, hA]; exact rfl) ?_
   refine D ?_
   refine lp_next (x+1) [] ?_ ?_ ?_
   · simp only [go_sem, hA] <;> and_intros <;> first | with_reducible exact rfl | (first | omega | (refine int_eq ?_; rw [mkK_succ sLI zLI_i64 (by omega)]; rfl) | (refine arr_eq ?_ (by omega); rw [← mk_step (eLI_i64 true) mLI sLI zLI_i64 (by omega)]; simp only [eLI_i64, mLI]))
   · omega
   · omega
 · skip
   obtain rfl : x = xs.length := by omega
   refine D ?_
   refine E ?_
   first
   | exact trivial
   | simp only [go_sem, List.drop_length, mkL_length]; done
   | try simp only [go_sem, List.drop_length, mkL_length]
     simp [mkL_length]
end
section
attribute [local go_sem] List.set_set mkL_length
theorem s_laws_markHeldS (xs : List Held) (k : Int) (hk : 0 ≤ k) (hl : xs.length ≤ 2097152) (hb : mkK sH xs k ≤ 9000000000000000000) : SemX prog 69 [.one (.arr 0), aI k] [.arr 7 (xs.map eHeld)] [rI (mkK sH xs k)] [.arr 7 ((mkL mH sH xs k).map eHeld)] := by
 refine goF [] [] [] func69 ?_
 refine D ?_
 refine L (α := Nat) (fun x => [(1, .int .i64 (mkK sH (xs.take x) k)), (5, .int .i64 x)]) (fun x => [(1000000, .arr ⟨7, (mkL mH sH (xs.take x) k ++ xs.drop x).map eHeld, 1 + 7 * x, none⟩)]) (fun x => xs.length - x) (fun x => x ≤ xs.length) 0 [] (fun x hI => ?_) (by simp only [go_sem] <;> and_intros <;> first | with_reducible exact rfl | (first | omega | (simp [mkL, mkK]; done)))
 refine D ?_
 refine cC (fun c0 => ?_) (fun c0 => ?_)
 · skip
   have hat := mkK_at sH_up zHeld (xs := xs) (i := x) (by omega) hb
   simp only [sH] at hat
   have hg : ∀ r, (((mkL mH sH (xs.take x) k ++ xs.drop x).map eHeld).set x r).getD x dHeld = r := fun r => getD_set_self (by simp [mkL_length]; omega) r _
   have hA := And.intro hg ((mk_getD mH sH zHeld k (show x < xs.length by omega)))
   refine D ?_
   refine lp_next (x+1) [] ?_ ?_ ?_
   · simp only [go_sem, hA] <;> and_intros <;> first | with_reducible exact rfl | (first | omega | (refine int_eq ?_; rw [mkK_succ sH zHeld (by omega)]; rfl) | (refine arr_eq ?_ (by omega); rw [← mk_step eHeld mH sH zHeld (by omega)]; simp only [eHeld, mH]))
   · omega
   · omega
 · skip
   obtain rfl : x = xs.length := by omega
   refine D ?_
   refine E ?_
   first
   | exact trivial
   | simp only [go_sem, List.drop_length, mkL_length]; done
   | try simp only [go_sem, List.drop_length, mkL_length]
     simp [mkL_length]
end
section
attribute [local go_sem] List.set_set mkL_length
theorem s_laws_markBackendS (xs : List Backend) (k : Int) (hk : 0 ≤ k) (hl : xs.length ≤ 2097152) (hb : mkK sB xs k ≤ 9000000000000000000) : SemX prog 177 [.one (.arr 0), aI k] [.arr 5 (xs.map eBackend)] [rI (mkK sB xs k)] [.arr 5 ((mkL mB sB xs k).map eBackend)] := by
 refine goF [] [] [] func177 ?_
 refine D ?_
 refine L (α := Nat) (fun x => [(1, .int .i64 (mkK sB (xs.take x) k)), (5, .int .i64 x)]) (fun x => [(1000000, .arr ⟨5, (mkL mB sB (xs.take x) k ++ xs.drop x).map eBackend, 1 + 5 * x, none⟩)]) (fun x => xs.length - x) (fun x => x ≤ xs.length) 0 [] (fun x hI => ?_) (by simp only [go_sem] <;> and_intros <;> first | with_reducible exact rfl | (first | omega | (simp [mkL, mkK]; done)))
 refine D ?_
 refine cC (fun c0 => ?_) (fun c0 => ?_)
 · skip
   have hat := mkK_at sB_up zBackend (xs := xs) (i := x) (by omega) hb
   simp only [sB] at hat
   have hg : ∀ r, (((mkL mB sB (xs.take x) k ++ xs.drop x).map eBackend).set x r).getD x dBackend = r := fun r => getD_set_self (by simp [mkL_length]; omega) r _
   have hA := And.intro hg ((mk_getD mB sB zBackend k (show x < xs.length by omega)))
   refine D ?_
   refine lp_next (x+1) [] ?_ ?_ ?_
   · simp only [go_sem, hA] <;> and_intros <;> first | with_reducible exact rfl | (first | omega | (refine int_eq ?_; rw [mkK_succ sB zBackend (by omega)]; rfl) | (refine arr_eq ?_ (by omega); rw [← mk_step eBackend mB sB zBackend (by omega)]; simp only [eBackend, mB]))
   · omega
   · omega
 · skip
   obtain rfl : x = xs.length := by omega
   refine D ?_
   refine E ?_
   first
   | exact trivial
   | simp only [go_sem, List.drop_length, mkL_length]; done
   | try simp only [go_sem, List.drop_length, mkL_length]
     simp [mkL_length]
end
section
attribute [local go_sem] List.set_set mkL_length
theorem s_laws_markVipS (xs : List Vip) (k : Int) (hk : 0 ≤ k) (hl : xs.length ≤ 2097152) (hb : mkK sV xs k ≤ 9000000000000000000) (hm : ∀ y ∈ xs, limV 2097152 y) : SemX prog 178 [.one (.arr 0), aI k] [.arr 4 (xs.map (eVip true))] [rI (mkK sV xs k)] [.arr 4 ((mkL mV sV xs k).map (eVip true))] := by
 refine goF [(76, ⟨some 3, some 155648, none, none⟩)] [] [] func178 ?_
 refine D ?_
 refine L (α := Nat) (fun x => [(1, .int .i64 (mkK sV (xs.take x) k)), (5, .int .i64 x)]) (fun x => [(1000000, .arr ⟨4, (mkL mV sV (xs.take x) k ++ xs.drop x).map (eVip true), 1 + 5 * x, none⟩)]) (fun x => xs.length - x) (fun x => x ≤ xs.length) 0 [] (fun x hI => ?_) (by simp only [go_sem] <;> and_intros <;> first | with_reducible exact rfl | (first | omega | (simp [mkL, mkK]; done)))
 refine D ?_
 refine cC (fun c0 => ?_) (fun c0 => ?_)
 · skip
   have hat := mkK_at sV_up zVip (xs := xs) (i := x) (by omega) hb
   simp only [sV] at hat
   have hg : ∀ r, (((mkL mV sV (xs.take x) k ++ xs.drop x).map (eVip true)).set x r).getD x (dVip true) = r := fun r => getD_set_self (by simp [mkL_length]; omega) r _
   have hup := Int.le_trans (mkK_mono sI_up _ _) hat.2
   have hA := And.intro hg ((mk_getD mV sV zVip k (show x < xs.length by omega)))
   refine D ?_
   refine RW_callBN 37 (dVip true) (by kernel_rfl) (s_laws_markInt64S (xs.getD x zVip).names _ (by omega) (hm _ (getD_mem zVip (by omega))) hat.2) true [155648] [] [] rfl rfl (by simp only [go_sem, hA] <;> and_intros <;> first | with_reducible exact rfl | omega | with_reducible trivial | (intros; simp_all; done) | grind) (by exact rfl) (by simp only [go_sem, hA] <;> and_intros <;> first | with_reducible exact rfl | omega | with_reducible trivial | (intros; simp_all; done) | grind) (by first | rfl | (simp only [go_sem, hA]; done)) (by simp only [go_sem, hA]; exact rfl) ?_
   refine D ?_
   refine lp_next (x+1) [] ?_ ?_ ?_
   · simp only [go_sem, hA] <;> and_intros <;> first | with_reducible exact rfl | (first | omega | (refine int_eq ?_; rw [mkK_succ sV zVip (by omega)]; rfl) | (refine arr_eq ?_ (by omega); rw [← mk_step (eVip true) mV sV zVip (by omega)]; simp only [eVip, mV]))
   · omega
   · omega
 · skip
   obtain rfl : x = xs.length := by omega
   refine D ?_
   refine E ?_
   first
   | exact trivial
   | simp only [go_sem, List.drop_length, mkL_length]; done
   | try simp only [go_sem, List.drop_length, mkL_length]
     simp [mkL_length]
end
section
attribute [local go_sem] List.set_set mkL_length
theorem s_laws_markMuxS (xs : List Mux) (k : Int) (hk : 0 ≤ k) (hl : xs.length ≤ 2097152) (hb : mkK sXs xs k ≤ 9000000000000000000) (hm : ∀ y ∈ xs, limX 2097152 y) : SemX prog 103 [.one (.arr 0), aI k] [.arr 8 (xs.map (eMux true))] [rI (mkK sXs xs k)] [.arr 8 ((mkL mXs sXs xs k).map (eMux true))] := by
 refine goF [(104, ⟨some 3, some 212992, none, none⟩), (122, ⟨some 3, some 249856, none, none⟩), (136, ⟨some 3, some 278528, none, none⟩), (150, ⟨some 3, some 307200, none, none⟩)] [] [] func103 ?_
 refine D ?_
 refine L (α := Nat) (fun x => [(1, .int .i64 (mkK sXs (xs.take x) k)), (5, .int .i64 x)]) (fun x => [(1000000, .arr ⟨8, (mkL mXs sXs (xs.take x) k ++ xs.drop x).map (eMux true), 1 + 12 * x, none⟩)]) (fun x => xs.length - x) (fun x => x ≤ xs.length) 0 [] (fun x hI => ?_) (by simp only [go_sem] <;> and_intros <;> first | with_reducible exact rfl | (first | omega | (simp [mkL, mkK]; done)))
 refine D ?_
 refine cC (fun c0 => ?_) (fun c0 => ?_)
 · skip
   have hat := mkK_at sXs_up zMux (xs := xs) (i := x) (by omega) hb
   simp only [sXs] at hat
   have hg : ∀ r, (((mkL mXs sXs (xs.take x) k ++ xs.drop x).map (eMux true)).set x r).getD x (dMux true) = r := fun r => getD_set_self (by simp [mkL_length]; omega) r _
   have hy := hm _ (getD_mem zMux (show x < xs.length by omega))
   have u4 := Int.le_trans (mkK_mono sH_up _ _) hat.2
   have u3 := Int.le_trans (mkK_mono sLI_up _ _) u4
   have u2 := Int.le_trans (mkK_mono sV_up _ _) u3
   have u1 := Int.le_trans (mkK_mono sB_up _ _) u2
   have w1 := mkK_mono sB_up (xs.getD x zMux).watch.config.backends (mkK sXs (xs.take x) k + 1 + 1 + 1 + 1)
   have w2 := mkK_mono sV_up (xs.getD x zMux).watch.config.vips (mkK sB (xs.getD x zMux).watch.config.backends (mkK sXs (xs.take x) k + 1 + 1 + 1 + 1))
   have w3 := mkK_mono sLI_up (xs.getD x zMux).tables (mkK sV (xs.getD x zMux).watch.config.vips (mkK sB (xs.getD x zMux).watch.config.backends (mkK sXs (xs.take x) k + 1 + 1 + 1 + 1)))
   have w4 := mkK_mono sH_up (xs.getD x zMux).cache (mkK sLI (xs.getD x zMux).tables (mkK sV (xs.getD x zMux).watch.config.vips (mkK sB (xs.getD x zMux).watch.config.backends (mkK sXs (xs.take x) k + 1 + 1 + 1 + 1))))
   have hA := And.intro hg ((mk_getD mXs sXs zMux k (show x < xs.length by omega)))
   refine D ?_
   refine RW_callBN 51 (dMux true) (by kernel_rfl) (s_laws_markBackendS (xs.getD x zMux).watch.config.backends _ (by omega) hy.1.1 u2) true [212992] [] [] rfl rfl (by simp only [go_sem, hA] <;> and_intros <;> first | with_reducible exact rfl | omega | with_reducible trivial | (intros; simp_all; done) | grind) (by exact rfl) (by simp only [go_sem, hA] <;> and_intros <;> first | with_reducible exact rfl | omega | with_reducible trivial | (intros; simp_all; done) | grind) (by first | rfl | (simp only [go_sem, hA]; done)) (by simp only [go_sem, hA]; exact rfl) ?_
   refine D ?_
   refine RW_callBN 60 (dMux true) (by kernel_rfl) (s_laws_markVipS (xs.getD x zMux).watch.config.vips _ (by omega) hy.1.2.1 u3 hy.1.2.2) true [249856] [] [] rfl rfl (by simp only [go_sem, hA] <;> and_intros <;> first | with_reducible exact rfl | omega | with_reducible trivial | (intros; simp_all; done) | grind) (by exact rfl) (by simp only [go_sem, hA] <;> and_intros <;> first | with_reducible exact rfl | omega | with_reducible trivial | (intros; simp_all; done) | grind) (by first | rfl | (simp only [go_sem, hA]; done)) (by simp only [go_sem, hA]; exact rfl) ?_
   refine D ?_
   refine RW_callBN 67 (dMux true) (by kernel_rfl) (s_laws_markInt64SS (xs.getD x zMux).tables _ (by omega) hy.2.1 u4 hy.2.2.1) true [278528] [] [] rfl rfl (by simp only [go_sem, hA] <;> and_intros <;> first | with_reducible exact rfl | omega | with_reducible trivial | (intros; simp_all; done) | grind) (by exact rfl) (by simp only [go_sem, hA] <;> and_intros <;> first | with_reducible exact rfl | omega | with_reducible trivial | (intros; simp_all; done) | grind) (by first | rfl | (simp only [go_sem, hA]; done)) (by simp only [go_sem, hA]; exact rfl) ?_
   refine D ?_
   refine RW_callBN 74 (dMux true) (by kernel_rfl) (s_laws_markHeldS (xs.getD x zMux).cache _ (by omega) hy.2.2.2 hat.2) true [307200] [] [] rfl rfl (by simp only [go_sem, hA] <;> and_intros <;> first | with_reducible exact rfl | omega | with_reducible trivial | (intros; simp_all; done) | grind) (by exact rfl) (by simp only [go_sem, hA] <;> and_intros <;> first | with_reducible exact rfl | omega | with_reducible trivial | (intros; simp_all; done) | grind) (by first | rfl | (simp only [go_sem, hA]; done)) (by simp only [go_sem, hA]; exact rfl) ?_
   refine D ?_
   refine lp_next (x+1) [] ?_ ?_ ?_
   · simp only [go_sem, hA] <;> and_intros <;> first | with_reducible exact rfl | (first | omega | (refine int_eq ?_; rw [mkK_succ sXs zMux (by omega)]; rfl) | (refine arr_eq ?_ (by omega); rw [← mk_step (eMux true) mXs sXs zMux (by omega)]; simp only [eMux, mXs]))
   · omega
   · omega
 · skip
   obtain rfl : x = xs.length := by omega
   refine D ?_
   refine E ?_
   first
   | exact trivial
   | simp only [go_sem, List.drop_length, mkL_length]; done
   | try simp only [go_sem, List.drop_length, mkL_length]
     simp [mkL_length]
end
theorem s_laws_markFleet (x : Fleet) (hx : limF 2097152 x) (k : Int) (hk : 0 ≤ k) (hb : sF x k ≤ 9000000000000000000) : SemX prog 41 [.agg [.arr 0, .arr 1], aI k] [.arr 9 (x.agreed.map eEntry), .arr 8 (x.muxes.map (eMux true))] [rI (sF x k)] [.arr 9 ((mF x k).agreed.map eEntry), .arr 8 ((mF x k).muxes.map (eMux true))] := by
 refine goF [] [] [] func41 ?_
 simp only [sF] at hb
 have u1 := Int.le_trans (mkK_mono sXs_up _ _) hb
 have v1 := mkK_mono sE_up x.agreed k
 refine D ?_
 refine kRk [1000000] [] [] (s_laws_markEntryS x.agreed k hk hx.1 u1) ?_
 refine D ?_
 refine kRk [1001000] [] [] (s_laws_markMuxS x.muxes _ (by omega) hx.2.1 hb hx.2.2) ?_
 refine D ?_
 refine E ?_
 first
 | exact trivial
 | simp only [go_sem, mF, sF, mkL_length]
section
attribute [local go_sem] List.set_set mkL_length
theorem s_laws_markByteS (xs : List Int) (k : Int) (hk : 0 ≤ k) (hl : xs.length ≤ 2097152) (hb : mkK sY xs k ≤ 9000000000000000000) : SemX prog 25 [.one (.arr 0), aI k] [.arr 1 (xs.map eI_u8)] [rI (mkK sY xs k)] [.arr 1 ((mkL mY sY xs k).map eI_u8)] := by
 refine goF [] [] [] func25 ?_
 refine D ?_
 refine L (α := Nat) (fun x => [(1, .int .i64 (mkK sY (xs.take x) k)), (5, .int .i64 x)]) (fun x => [(1000000, .arr ⟨1, (mkL mY sY (xs.take x) k ++ xs.drop x).map eI_u8, 1 + 1 * x, none⟩)]) (fun x => xs.length - x) (fun x => x ≤ xs.length) 0 [] (fun x hI => ?_) (by simp only [go_sem] <;> and_intros <;> first | with_reducible exact rfl | (first | omega | (simp [mkL, mkK]; done)))
 refine D ?_
 refine cC (fun c0 => ?_) (fun c0 => ?_)
 · skip
   have hat := mkK_at sY_up zI_u8 (xs := xs) (i := x) (by omega) hb
   simp only [sY] at hat
   have hg : ∀ r, (((mkL mY sY (xs.take x) k ++ xs.drop x).map eI_u8).set x r).getD x dI_u8 = r := fun r => getD_set_self (by simp [mkL_length]; omega) r _
   have hA := And.intro hg ((mk_getD mY sY zI_u8 k (show x < xs.length by omega)))
   refine D ?_
   refine lp_next (x+1) [] ?_ ?_ ?_
   · simp only [go_sem, hA] <;> and_intros <;> first | with_reducible exact rfl | (first | omega | (refine int_eq ?_; rw [mkK_succ sY zI_u8 (by omega)]; rfl) | (refine arr_eq ?_ (by omega); rw [← mk_step eI_u8 mY sY zI_u8 (by omega)]; simp only [eI_u8, mY]))
   · omega
   · omega
 · skip
   obtain rfl : x = xs.length := by omega
   refine D ?_
   refine E ?_
   first
   | exact trivial
   | simp only [go_sem, List.drop_length, mkL_length]; done
   | try simp only [go_sem, List.drop_length, mkL_length]
     simp [mkL_length]
end
theorem s_laws_markFleetResult (r : FleetResult) (hr : limFR 2097152 r) (k : Int) (hk : 0 ≤ k) (hb : sFR r k ≤ 9000000000000000000) : SemX prog 42 [.agg [.t (.int .i64 r.code), .t (.int .i64 r.why), .t (.int .i64 r.name), .arr 0, .arr 1, .arr 2], aI k] [.arr 1 (r.out.map eI_u8), .arr 9 (r.fleet.agreed.map eEntry), .arr 8 (r.fleet.muxes.map (eMux true))] [rI (sFR r k)] [.arr 1 ((mFR r k).out.map eI_u8), .arr 9 ((mFR r k).fleet.agreed.map eEntry), .arr 8 ((mFR r k).fleet.muxes.map (eMux true))] := by
 refine goF [] [] [] func42 ?_
 simp only [sFR] at hb
 have u1 := Int.le_trans (sF_up _ _) hb
 have v1 := mkK_mono sY_up r.out k
 have v2 := sF_up r.fleet (mkK sY r.out k)
 refine D ?_
 refine kRk [1000000] [] [] (s_laws_markByteS r.out k hk hr.1 u1) ?_
 refine D ?_
 refine kRk [1001000, 1002000] [] [] (s_laws_markFleet r.fleet hr.2 _ (by omega) hb) ?_
 refine D ?_
 refine E ?_
 first
 | exact trivial
 | simp only [go_sem, mFR, mF, sFR, mkL_length]
section
attribute [local go_sem] mkL_length mY
theorem s_laws_heldByteS (xs : List Int) (k : Int) (hk : 0 ≤ k) (hl : xs.length ≤ 2097152) (hb : mkK sY xs k ≤ 9000000000000000000)  : SemX prog 70 [aT (.sl false 1 ((mkL mY sY xs k).map eI_u8)), aI k] [] [rI (mkK sY xs k)] [] := by
 refine goF [] [] [] func70 ?_
 refine D ?_
 refine L (α := Nat) (fun x => [(1, .int .i64 (mkK sY (xs.take x) k)), (5, .int .i64 x)]) (fun x => []) (fun x => xs.length - x) (fun x => x ≤ xs.length) 0 [] (fun x hI => ?_) (by simp only [go_sem] <;> and_intros <;> first | with_reducible exact rfl | (first | omega | (simp [mkK]; done)))
 refine D ?_
 refine cC (fun c0 => ?_) (fun c0 => ?_)
 · skip
   have hat := mkK_at sY_up zI_u8 (xs := xs) (i := x) (by omega) hb
   simp only [sY] at hat
   have hg := mkL_getD mY sY zI_u8 k (show x < xs.length by omega)
   have hA := hg
   refine D ?_
   refine cF ?_
   refine D ?_
   refine lp_next (x+1) [] ?_ ?_ ?_
   · simp only [go_sem, hA] <;> and_intros <;> first | with_reducible exact rfl | (first | omega | (refine int_eq ?_; rw [mkK_succ sY zI_u8 (by omega)]; rfl))
   · omega
   · omega
 · skip
   obtain rfl : x = xs.length := by omega
   refine D ?_
   refine E ?_
   first
   | exact trivial
   | simp [mkL_length]
end
section
attribute [local go_sem] mkL_length mE mC
theorem s_laws_heldEntryS (xs : List Entry) (k : Int) (hk : 0 ≤ k) (hl : xs.length ≤ 2097152) (hb : mkK sE xs k ≤ 9000000000000000000)  : SemX prog 185 [aT (.sl false 9 ((mkL mE sE xs k).map eEntry)), aI k] [] [rI (mkK sE xs k)] [] := by
 refine goF [] [] [] func185 ?_
 refine D ?_
 refine L (α := Nat) (fun x => [(1, .int .i64 (mkK sE (xs.take x) k)), (5, .int .i64 x)]) (fun x => []) (fun x => xs.length - x) (fun x => x ≤ xs.length) 0 [] (fun x hI => ?_) (by simp only [go_sem] <;> and_intros <;> first | with_reducible exact rfl | (first | omega | (simp [mkK]; done)))
 refine D ?_
 refine cC (fun c0 => ?_) (fun c0 => ?_)
 · skip
   have hat := mkK_at sE_up zEntry (xs := xs) (i := x) (by omega) hb
   simp only [sE] at hat
   have hg := mkL_getD mE sE zEntry k (show x < xs.length by omega)
   have hA := hg
   refine D ?_
   refine cF ?_
   refine D ?_
   refine cF ?_
   refine D ?_
   refine cF ?_
   refine D ?_
   refine cF ?_
   refine D ?_
   refine cF ?_
   refine D ?_
   refine cF ?_
   refine D ?_
   refine cF ?_
   refine D ?_
   refine cF ?_
   refine D ?_
   refine cF ?_
   refine D ?_
   refine lp_next (x+1) [] ?_ ?_ ?_
   · simp only [go_sem, hA] <;> and_intros <;> first | with_reducible exact rfl | (first | omega | (refine int_eq ?_; rw [mkK_succ sE zEntry (by omega)]; rfl))
   · omega
   · omega
 · skip
   obtain rfl : x = xs.length := by omega
   refine D ?_
   refine E ?_
   first
   | exact trivial
   | simp [mkL_length]
end
section
attribute [local go_sem] mkL_length mI
theorem s_laws_heldInt64S (xs : List Int) (k : Int) (hk : 0 ≤ k) (hl : xs.length ≤ 2097152) (hb : mkK sI xs k ≤ 9000000000000000000)  : SemX prog 206 [aT (.sl false 1 ((mkL mI sI xs k).map eI_i64)), aI k] [] [rI (mkK sI xs k)] [] := by
 refine goF [] [] [] func206 ?_
 refine D ?_
 refine L (α := Nat) (fun x => [(1, .int .i64 (mkK sI (xs.take x) k)), (5, .int .i64 x)]) (fun x => []) (fun x => xs.length - x) (fun x => x ≤ xs.length) 0 [] (fun x hI => ?_) (by simp only [go_sem] <;> and_intros <;> first | with_reducible exact rfl | (first | omega | (simp [mkK]; done)))
 refine D ?_
 refine cC (fun c0 => ?_) (fun c0 => ?_)
 · skip
   have hat := mkK_at sI_up zI_i64 (xs := xs) (i := x) (by omega) hb
   simp only [sI] at hat
   have hg := mkL_getD mI sI zI_i64 k (show x < xs.length by omega)
   have hA := hg
   refine D ?_
   refine cF ?_
   refine D ?_
   refine lp_next (x+1) [] ?_ ?_ ?_
   · simp only [go_sem, hA] <;> and_intros <;> first | with_reducible exact rfl | (first | omega | (refine int_eq ?_; rw [mkK_succ sI zI_i64 (by omega)]; rfl))
   · omega
   · omega
 · skip
   obtain rfl : x = xs.length := by omega
   refine D ?_
   refine E ?_
   first
   | exact trivial
   | simp [mkL_length]
end
section
attribute [local go_sem] mkL_length mLI
theorem s_laws_heldInt64SS (xs : List (List Int)) (k : Int) (hk : 0 ≤ k) (hl : xs.length ≤ 2097152) (hb : mkK sLI xs k ≤ 9000000000000000000) (hm : ∀ y ∈ xs, y.length ≤ 2097152) : SemX prog 138 [aT (.sl false 1 ((mkL mLI sLI xs k).map (eLI_i64 false))), aI k] [] [rI (mkK sLI xs k)] [] := by
 refine goF [] [] [] func138 ?_
 refine D ?_
 refine L (α := Nat) (fun x => [(1, .int .i64 (mkK sLI (xs.take x) k)), (5, .int .i64 x)]) (fun x => []) (fun x => xs.length - x) (fun x => x ≤ xs.length) 0 [] (fun x hI => ?_) (by simp only [go_sem] <;> and_intros <;> first | with_reducible exact rfl | (first | omega | (simp [mkK]; done)))
 refine D ?_
 refine cC (fun c0 => ?_) (fun c0 => ?_)
 · skip
   have hat := mkK_at sLI_up zLI_i64 (xs := xs) (i := x) (by omega) hb
   simp only [sLI] at hat
   have hg := mkL_getD mLI sLI zLI_i64 k (show x < xs.length by omega)
   have v1 := mkK_mono sI_up (xs.getD x zLI_i64) (mkK sLI (xs.take x) k)
   have hA := hg
   refine D ?_
   refine kR (s_laws_heldInt64S (xs.getD x zLI_i64) _ (by omega) (hm _ (getD_mem zLI_i64 (by omega))) hat.2) ?_
   refine D ?_
   refine cC (fun c1 => ?_) (fun c1 => ?_)
   · skip
     omega
   · skip
     refine D ?_
     refine lp_next (x+1) [] ?_ ?_ ?_
     · simp only [go_sem, hA] <;> and_intros <;> first | with_reducible exact rfl | (first | omega | (refine int_eq ?_; rw [mkK_succ sLI zLI_i64 (by omega)]; rfl))
     · omega
     · omega
 · skip
   obtain rfl : x = xs.length := by omega
   refine D ?_
   refine E ?_
   first
   | exact trivial
   | simp [mkL_length]
end
section
attribute [local go_sem] mkL_length mH
theorem s_laws_heldHeldS (xs : List Held) (k : Int) (hk : 0 ≤ k) (hl : xs.length ≤ 2097152) (hb : mkK sH xs k ≤ 9000000000000000000)  : SemX prog 139 [aT (.sl false 7 ((mkL mH sH xs k).map eHeld)), aI k] [] [rI (mkK sH xs k)] [] := by
 refine goF [] [] [] func139 ?_
 refine D ?_
 refine L (α := Nat) (fun x => [(1, .int .i64 (mkK sH (xs.take x) k)), (5, .int .i64 x)]) (fun x => []) (fun x => xs.length - x) (fun x => x ≤ xs.length) 0 [] (fun x hI => ?_) (by simp only [go_sem] <;> and_intros <;> first | with_reducible exact rfl | (first | omega | (simp [mkK]; done)))
 refine D ?_
 refine cC (fun c0 => ?_) (fun c0 => ?_)
 · skip
   have hat := mkK_at sH_up zHeld (xs := xs) (i := x) (by omega) hb
   simp only [sH] at hat
   have hg := mkL_getD mH sH zHeld k (show x < xs.length by omega)
   have hA := hg
   refine D ?_
   refine cF ?_
   refine D ?_
   refine cF ?_
   refine D ?_
   refine cF ?_
   refine D ?_
   refine cF ?_
   refine D ?_
   refine cF ?_
   refine D ?_
   refine cF ?_
   refine D ?_
   refine cF ?_
   refine D ?_
   refine lp_next (x+1) [] ?_ ?_ ?_
   · simp only [go_sem, hA] <;> and_intros <;> first | with_reducible exact rfl | (first | omega | (refine int_eq ?_; rw [mkK_succ sH zHeld (by omega)]; rfl))
   · omega
   · omega
 · skip
   obtain rfl : x = xs.length := by omega
   refine D ?_
   refine E ?_
   first
   | exact trivial
   | simp [mkL_length]
end
section
attribute [local go_sem] mkL_length mB
theorem s_laws_heldBackendS (xs : List Backend) (k : Int) (hk : 0 ≤ k) (hl : xs.length ≤ 2097152) (hb : mkK sB xs k ≤ 9000000000000000000)  : SemX prog 251 [aT (.sl false 5 ((mkL mB sB xs k).map eBackend)), aI k] [] [rI (mkK sB xs k)] [] := by
 refine goF [] [] [] func251 ?_
 refine D ?_
 refine L (α := Nat) (fun x => [(1, .int .i64 (mkK sB (xs.take x) k)), (5, .int .i64 x)]) (fun x => []) (fun x => xs.length - x) (fun x => x ≤ xs.length) 0 [] (fun x hI => ?_) (by simp only [go_sem] <;> and_intros <;> first | with_reducible exact rfl | (first | omega | (simp [mkK]; done)))
 refine D ?_
 refine cC (fun c0 => ?_) (fun c0 => ?_)
 · skip
   have hat := mkK_at sB_up zBackend (xs := xs) (i := x) (by omega) hb
   simp only [sB] at hat
   have hg := mkL_getD mB sB zBackend k (show x < xs.length by omega)
   have hA := hg
   refine D ?_
   refine cF ?_
   refine D ?_
   refine cF ?_
   refine D ?_
   refine cF ?_
   refine D ?_
   refine cF ?_
   refine D ?_
   refine cF ?_
   refine D ?_
   refine lp_next (x+1) [] ?_ ?_ ?_
   · simp only [go_sem, hA] <;> and_intros <;> first | with_reducible exact rfl | (first | omega | (refine int_eq ?_; rw [mkK_succ sB zBackend (by omega)]; rfl))
   · omega
   · omega
 · skip
   obtain rfl : x = xs.length := by omega
   refine D ?_
   refine E ?_
   first
   | exact trivial
   | simp [mkL_length]
end
section
attribute [local go_sem] mkL_length mV
theorem s_laws_heldVipS (xs : List Vip) (k : Int) (hk : 0 ≤ k) (hl : xs.length ≤ 2097152) (hb : mkK sV xs k ≤ 9000000000000000000) (hm : ∀ y ∈ xs, limV 2097152 y) : SemX prog 252 [aT (.sl false 4 ((mkL mV sV xs k).map (eVip false))), aI k] [] [rI (mkK sV xs k)] [] := by
 refine goF [] [] [] func252 ?_
 refine D ?_
 refine L (α := Nat) (fun x => [(1, .int .i64 (mkK sV (xs.take x) k)), (5, .int .i64 x)]) (fun x => []) (fun x => xs.length - x) (fun x => x ≤ xs.length) 0 [] (fun x hI => ?_) (by simp only [go_sem] <;> and_intros <;> first | with_reducible exact rfl | (first | omega | (simp [mkK]; done)))
 refine D ?_
 refine cC (fun c0 => ?_) (fun c0 => ?_)
 · skip
   have hat := mkK_at sV_up zVip (xs := xs) (i := x) (by omega) hb
   simp only [sV] at hat
   have hg := mkL_getD mV sV zVip k (show x < xs.length by omega)
   have hup := Int.le_trans (mkK_mono sI_up _ _) hat.2
   have v1 := mkK_mono sI_up (xs.getD x zVip).names (mkK sV (xs.take x) k + 1 + 1 + 1)
   have hA := hg
   refine D ?_
   refine cF ?_
   refine D ?_
   refine cF ?_
   refine D ?_
   refine cF ?_
   refine D ?_
   refine kR (s_laws_heldInt64S (xs.getD x zVip).names _ (by omega) (hm _ (getD_mem zVip (by omega))) hat.2) ?_
   refine D ?_
   refine cC (fun c4 => ?_) (fun c4 => ?_)
   · skip
     omega
   · skip
     refine D ?_
     refine lp_next (x+1) [] ?_ ?_ ?_
     · simp only [go_sem, hA] <;> and_intros <;> first | with_reducible exact rfl | (first | omega | (refine int_eq ?_; rw [mkK_succ sV zVip (by omega)]; rfl))
     · omega
     · omega
 · skip
   obtain rfl : x = xs.length := by omega
   refine D ?_
   refine E ?_
   first
   | exact trivial
   | simp [mkL_length]
end
section
attribute [local go_sem] mkL_length mXs
theorem s_laws_heldMuxS (xs : List Mux) (k : Int) (hk : 0 ≤ k) (hl : xs.length ≤ 2097152) (hb : mkK sXs xs k ≤ 9000000000000000000) (hm : ∀ y ∈ xs, limX 2097152 y) : SemX prog 186 [aT (.sl false 8 ((mkL mXs sXs xs k).map (eMux false))), aI k] [] [rI (mkK sXs xs k)] [] := by
 refine goF [] [] [] func186 ?_
 refine D ?_
 refine L (α := Nat) (fun x => [(1, .int .i64 (mkK sXs (xs.take x) k)), (5, .int .i64 x)]) (fun x => []) (fun x => xs.length - x) (fun x => x ≤ xs.length) 0 [] (fun x hI => ?_) (by simp only [go_sem] <;> and_intros <;> first | with_reducible exact rfl | (first | omega | (simp [mkK]; done)))
 refine D ?_
 refine cC (fun c0 => ?_) (fun c0 => ?_)
 · skip
   have hat := mkK_at sXs_up zMux (xs := xs) (i := x) (by omega) hb
   simp only [sXs] at hat
   have hg := mkL_getD mXs sXs zMux k (show x < xs.length by omega)
   have hy := hm _ (getD_mem zMux (show x < xs.length by omega))
   have u4 := Int.le_trans (mkK_mono sH_up _ _) hat.2
   have u3 := Int.le_trans (mkK_mono sLI_up _ _) u4
   have u2 := Int.le_trans (mkK_mono sV_up _ _) u3
   have u1 := Int.le_trans (mkK_mono sB_up _ _) u2
   have w1 := mkK_mono sB_up (xs.getD x zMux).watch.config.backends (mkK sXs (xs.take x) k + 1 + 1 + 1 + 1)
   have w2 := mkK_mono sV_up (xs.getD x zMux).watch.config.vips (mkK sB (xs.getD x zMux).watch.config.backends (mkK sXs (xs.take x) k + 1 + 1 + 1 + 1))
   have w3 := mkK_mono sLI_up (xs.getD x zMux).tables (mkK sV (xs.getD x zMux).watch.config.vips (mkK sB (xs.getD x zMux).watch.config.backends (mkK sXs (xs.take x) k + 1 + 1 + 1 + 1)))
   have w4 := mkK_mono sH_up (xs.getD x zMux).cache (mkK sLI (xs.getD x zMux).tables (mkK sV (xs.getD x zMux).watch.config.vips (mkK sB (xs.getD x zMux).watch.config.backends (mkK sXs (xs.take x) k + 1 + 1 + 1 + 1))))
   have hA := hg
   refine D ?_
   refine cF ?_
   refine D ?_
   refine cF ?_
   refine D ?_
   refine cF ?_
   refine D ?_
   refine cF ?_
   refine D ?_
   refine kR (s_laws_heldBackendS (xs.getD x zMux).watch.config.backends _ (by omega) hy.1.1 u2) ?_
   refine D ?_
   refine cC (fun c5 => ?_) (fun c5 => ?_)
   · skip
     omega
   · skip
     refine D ?_
     refine kR (s_laws_heldVipS (xs.getD x zMux).watch.config.vips _ (by omega) hy.1.2.1 u3 hy.1.2.2) ?_
     refine D ?_
     refine cC (fun c6 => ?_) (fun c6 => ?_)
     · skip
       omega
     · skip
       refine D ?_
       refine kR (s_laws_heldInt64SS (xs.getD x zMux).tables _ (by omega) hy.2.1 u4 hy.2.2.1) ?_
       refine D ?_
       refine cC (fun c7 => ?_) (fun c7 => ?_)
       · skip
         omega
       · skip
         refine D ?_
         refine kR (s_laws_heldHeldS (xs.getD x zMux).cache _ (by omega) hy.2.2.2 hat.2) ?_
         refine D ?_
         refine cC (fun c8 => ?_) (fun c8 => ?_)
         · skip
           omega
         · skip
           refine D ?_
           refine lp_next (x+1) [] ?_ ?_ ?_
           · simp only [go_sem, hA] <;> and_intros <;> first | with_reducible exact rfl | (first | omega | (refine int_eq ?_; rw [mkK_succ sXs zMux (by omega)]; rfl))
           · omega
           · omega
 · skip
   obtain rfl : x = xs.length := by omega
   refine D ?_
   refine E ?_
   first
   | exact trivial
   | simp [mkL_length]
end
section
attribute [local go_sem] mF
theorem s_laws_heldFleet (x : Fleet) (hx : limF 2097152 x) (k : Int) (hk : 0 ≤ k) (hb : sF x k ≤ 9000000000000000000) : SemX prog 104 [aS (eFleet false (mF x k)), aI k] [] [rI (sF x k)] [] := by
 refine goF [] [] [] func104 ?_
 simp only [sF] at hb
 have u1 := Int.le_trans (mkK_mono sXs_up _ _) hb
 have v1 := mkK_mono sE_up x.agreed k
 have v2 := mkK_mono sXs_up x.muxes (mkK sE x.agreed k)
 refine D ?_
 refine kR (s_laws_heldEntryS x.agreed k hk hx.1 u1) ?_
 refine D ?_
 refine cC (fun c0 => ?_) (fun c0 => ?_)
 · skip
   omega
 · skip
   refine D ?_
   refine kR (s_laws_heldMuxS x.muxes _ (by omega) hx.2.1 hb hx.2.2) ?_
   refine D ?_
   refine cC (fun c1 => ?_) (fun c1 => ?_)
   · skip
     omega
   · skip
     refine D ?_
     refine E ?_
     first
     | exact trivial
     | simp only [go_sem, sF]
end
section
attribute [local go_sem] mFR
theorem s_laws_heldFleetResult (r : FleetResult) (hr : limFR 2097152 r) (k : Int) (hk : 0 ≤ k) (hb : sFR r k ≤ 9000000000000000000) : SemX prog 43 [aS (eFleetResult false (mFR r k)), aI k] [] [rI (sFR r k)] [] := by
 refine goF [] [] [] func43 ?_
 simp only [sFR] at hb
 have u1 := Int.le_trans (sF_up _ _) hb
 have v1 := mkK_mono sY_up r.out k
 have v2 := sF_up r.fleet (mkK sY r.out k)
 refine D ?_
 refine kR (s_laws_heldByteS r.out k hk hr.1 u1) ?_
 refine D ?_
 refine cC (fun c0 => ?_) (fun c0 => ?_)
 · skip
   omega
 · skip
   refine D ?_
   refine kR (s_laws_heldFleet r.fleet hr.2 _ (by omega) hb) ?_
   refine D ?_
   refine cC (fun c1 => ?_) (fun c1 => ?_)
   · skip
     omega
   · skip
     refine D ?_
     refine E ?_
     first
     | exact trivial
     | simp only [go_sem, sFR]
end
theorem s_impl_in (a b c : Int) : SemX prog 110 [.one (.t (.int .i64 a)), .one (.t (.int .i64 b)), .one (.t (.int .i64 c))] [] [.one (.bool (inR a b c))] [] := by
 refine goF [] [] [] func110 ?_
 refine D ?_
 refine E ?_
 first
 | exact trivial
 | simp only [go_sem, inR]; done
 | try simp only [go_sem, inR]
   exact rfl
theorem s_impl_isAddress (n : Int) : SemX prog 123 [aI n] [] [rB (inR n 0 4294967295)] [] := by
 refine goF [] [] [] func123 ?_
 refine D ?_
 refine kR (s_impl_in n 0 4294967295) ?_
 refine D ?_
 exact E trivial
theorem s_impl_isProto (n : Int) : SemX prog 217 [aI n] [] [rB (isPro n)] [] := by
 refine goF [] [] [] func217 ?_
 refine D ?_
 refine E ?_
 first
 | exact trivial
 | simp only [go_sem, isPro]; done
 | try simp only [go_sem, isPro]
   cases decide (n = 6) <;> rfl
theorem s_impl_isName (n : Int) : SemX prog 248 [aI n] [] [rB (inR n 1 999)] [] := by
 refine goF [] [] [] func248 ?_
 refine D ?_
 refine kR (s_impl_in n 1 999) ?_
 refine D ?_
 exact E trivial
theorem s_impl_isBackend (b : Backend) : SemX prog 253 [aS (eBackend b)] [] [rB (isBk b)] [] := by
 refine goF [] [] [] func253 ?_
 refine D ?_
 refine kR (s_impl_isName _) ?_
 refine D ?_
 refine kRg (s_impl_isAddress _) ?_
 refine D ?_
 refine kRg (s_impl_in _ _ _) ?_
 refine D ?_
 refine kRg (s_impl_in _ _ _) ?_
 refine D ?_
 refine E ?_
 first
 | exact trivial
 | simp only [go_sem, isBk]
theorem s_impl_isPort (n : Int) : SemX prog 254 [aI n] [] [rB (inR n 0 65535)] [] := by
 refine goF [] [] [] func254 ?_
 refine D ?_
 refine kR (s_impl_in n 0 65535) ?_
 refine D ?_
 exact E trivial
theorem s_cmp_Or_int (xs : List Int) (hl : xs.length ≤ 2097152) : SemX prog 280 [aT (.sl false 1 (xs.map eI_i64))] [] [rI (orL xs)] [] := by
 refine goF [] [] [] func280 ?_
 refine D ?_
 refine L (α := Nat) (fun x => [(8, .int .i64 x)]) (fun x => []) (fun x => xs.length - x) (fun x => x ≤ xs.length ∧ ∀ j, j < x → xs.getD j zI_i64 = 0) 0 [] (fun x hL => ?_) (hi := by exact ⟨Nat.zero_le _, fun j hj => by omega⟩)
 obtain ⟨hx, hno⟩ := hL
 refine D ?_
 refine cC (fun c0 => ?_) (fun c0 => ?_)
 · skip
   refine D ?_
   refine cC (fun c1 => ?_) (fun c1 => ?_)
   · skip
     refine D ?_
     refine E ?_
     rw [orL_some (by omega) hno (by simpa using c1)]
   · skip
     refine D ?_
     refine N (x+1) [] (hi := ?_) (hm := ?_)
     · refine ⟨by omega, fun j hj => ?_⟩
       rcases Nat.lt_or_ge j x with h | h
       · exact hno j h
       · obtain rfl : j = x := by omega
         simpa using c1
     · omega
 · skip
   obtain rfl : x = xs.length := by omega
   refine D ?_
   refine E ?_
   rw [orL_zero hno]
theorem s_cmp_isNaN_int64 (a : Int) : SemX prog 296 [aI a] [] [rB false] [] := by
 refine goF [] [] [] func296 ?_
 refine D ?_
 exact E trivial
theorem s_cmp_Compare_int64 (a b : Int) : SemX prog 281 [aI a, aI b] [] [rI (cmpI a b)] [] := by
 refine goF [] [] [] func281 ?_
 refine D ?_
 refine kR (s_cmp_isNaN_int64 _) ?_
 refine D ?_
 refine kR (s_cmp_isNaN_int64 _) ?_
 refine D ?_
 refine cC (fun c0 => ?_) (fun c0 => ?_)
 · skip
   refine D ?_
   refine cC (fun c1 => ?_) (fun c1 => ?_)
   · skip
     refine D ?_
     refine E ?_
     first
     | exact trivial
     | first | (exfalso; simp_all; done) | (simp [cmpI, *]; done) | (simp [cmpI]; omega) | (unfold cmpI; grind)
   · skip
     refine D ?_
     refine E ?_
     first
     | exact trivial
     | first | (exfalso; simp_all; done) | (simp [cmpI, *]; done) | (simp [cmpI]; omega) | (unfold cmpI; grind)
 · skip
   refine D ?_
   refine cC (fun c2 => ?_) (fun c2 => ?_)
   · skip
     refine D ?_
     refine E ?_
     first
     | exact trivial
     | first | (exfalso; simp_all; done) | (simp [cmpI, *]; done) | (simp [cmpI]; omega) | (unfold cmpI; grind)
   · skip
     refine D ?_
     refine cC (fun c3 => ?_) (fun c3 => ?_)
     · skip
       refine D ?_
       refine E ?_
       first
       | exact trivial
       | first | (exfalso; simp_all; done) | (simp [cmpI, *]; done) | (simp [cmpI]; omega) | (unfold cmpI; grind)
     · skip
       refine D ?_
       refine cC (fun c4 => ?_) (fun c4 => ?_)
       · skip
         refine D ?_
         refine E ?_
         first
         | exact trivial
         | first | (exfalso; simp_all; done) | (simp [cmpI, *]; done) | (simp [cmpI]; omega) | (unfold cmpI; grind)
       · skip
         refine D ?_
         refine E ?_
         first
         | exact trivial
         | first | (exfalso; simp_all; done) | (simp [cmpI, *]; done) | (simp [cmpI]; omega) | (unfold cmpI; grind)
theorem s_impl_compareVip (a b : Vip) : SemX prog 255 [aS (eVip false a), aS (eVip false b)] [] [rI (cmpV a b)] [] := by
 refine goF [] [(1, 1, [12288], []), (1, 3, [16384], []), (1, 6, [12288], []), (1, 8, [16384], []), (1, 11, [12288], []), (1, 13, [16384], []), (1, 15, [], [86016]), (1, 16, [86016], [])] [] func255 ?_
 refine D ?_
 refine kD (s_cmp_Compare_int64 a.address b.address) ?_
 refine D ?_
 refine kD (s_cmp_Compare_int64 a.port b.port) ?_
 refine D ?_
 refine kD (s_cmp_Compare_int64 a.proto b.proto) ?_
 refine D ?_
 refine kD (s_cmp_Or_int [cmpI a.address b.address, cmpI a.port b.port, cmpI a.proto b.proto] (by simp)) ?_
 refine D ?_
 refine E ?_
 first
 | exact trivial
 | rw [cmpV_or]
theorem s_impl_compareVip_raw (a b : RVp) : SemX prog 255 [aS (eRV a), aS (eRV b)] [] [rI (cmpV a.1 b.1)] [] := by
 refine goF [] [(1, 1, [12288], []), (1, 3, [16384], []), (1, 6, [12288], []), (1, 8, [16384], []), (1, 11, [12288], []), (1, 13, [16384], []), (1, 15, [], [86016]), (1, 16, [86016], [])] [] func255 ?_
 refine D ?_
 refine kD (s_cmp_Compare_int64 a.1.address b.1.address) ?_
 refine D ?_
 refine kD (s_cmp_Compare_int64 a.1.port b.1.port) ?_
 refine D ?_
 refine kD (s_cmp_Compare_int64 a.1.proto b.1.proto) ?_
 refine D ?_
 refine kD (s_cmp_Or_int [cmpI a.1.address b.1.address, cmpI a.1.port b.1.port, cmpI a.1.proto b.1.proto] (by simp)) ?_
 refine D ?_
 refine E ?_
 first
 | exact trivial
 | rw [cmpV_or]
theorem s_slices_IndexFunc_int64 (R : List Int) (hl : R.length ≤ 2097152) (fn : Nat) (c : Config) (hcl : limG 2097152 c) (q : Int → Bool) (hq : callB prog fn = true) (hf : ∀ b : Int, b ∈ R → SemX prog fn [aI b, aT (.ptr (eConfig false c))] [] [rB (q b)] []) : SemX prog 282 [aT (.sl false 1 (R.map eI_i64)), .one (.fn fn [.t (.ptr (eConfig false c))])] [] [rI (idxG q R)] [] := by
 refine goF [] [] [] func282 ?_
 refine D ?_
 refine L (α := Nat) (fun x => [(8, .int .i64 x)]) (fun x => []) (fun x => R.length - x) (fun x => x ≤ R.length ∧ ∀ j, j < x → q (R.getD j zI_i64) = false) 0 [] (fun x hL => ?_) (hi := by exact ⟨Nat.zero_le _, fun j hj => by omega⟩)
 obtain ⟨hx2, hno⟩ := hL
 refine D ?_
 refine cC (fun c0 => ?_) (fun c0 => ?_)
 · skip
   refine D ?_
   refine kR (hf (R.getD x zI_i64) (getD_mem zI_i64 (by omega))) ?_ hq
   refine D ?_
   refine cC (fun c1 => ?_) (fun c1 => ?_)
   · skip
     refine D ?_
     refine E ?_
     rw [idxG_some zI_i64 (by omega) hno c1]
   · skip
     refine D ?_
     refine N (x+1) [] (hi := ?_) (hm := ?_)
     · refine ⟨by omega, fun j hj => ?_⟩
       rcases Nat.lt_or_ge j x with h | h
       · exact hno j h
       · obtain rfl : j = x := by omega
         first | exact c1 | (simpa [isB, isV, eqI] using c1) | (simp [isB, isV, eqI]; grind)
     · omega
 · skip
   obtain rfl : x = R.length := by omega
   refine D ?_
   refine E ?_
   rw [idxG_none zI_i64 hno]
theorem s_slices_ContainsFunc_int64 (R : List Int) (hl : R.length ≤ 2097152) (fn : Nat) (c : Config) (hcl : limG 2097152 c) (q : Int → Bool) (hq : callB prog fn = true) (hf : ∀ b : Int, b ∈ R → SemX prog fn [aI b, aT (.ptr (eConfig false c))] [] [rB (q b)] []) : SemX prog 256 [aT (.sl false 1 (R.map eI_i64)), .one (.fn fn [.t (.ptr (eConfig false c))])] [] [rB (hasG q R)] [] := by
 refine goF [] [] [] func256 ?_
 refine D ?_
 refine kR (s_slices_IndexFunc_int64 R hl fn c hcl q hq hf) ?_
 refine D ?_
 refine E ?_
 first
 | exact trivial
 | simp only [go_sem, hasG]
theorem s_slices_IndexFunc_Backend (R : List Backend) (hl : R.length ≤ 2097152) (fn : Nat) (n : Int) (q : Backend → Bool) (hq : callB prog fn = true) (hf : ∀ b : Backend, b ∈ R → SemX prog fn [aS (eBackend b), aT (.ptr [.int .i64 n])] [] [rB (q b)] []) : SemX prog 223 [aT (.sl false 5 (R.map eBackend)), .one (.fn fn [.t (.ptr [.int .i64 n])])] [] [rI (idxG q R)] [] := by
 refine goF [] [] [] func223 ?_
 refine D ?_
 refine L (α := Nat) (fun x => [(8, .int .i64 x)]) (fun x => []) (fun x => R.length - x) (fun x => x ≤ R.length ∧ ∀ j, j < x → q (R.getD j zBackend) = false) 0 [] (fun x hL => ?_) (hi := by exact ⟨Nat.zero_le _, fun j hj => by omega⟩)
 obtain ⟨hx2, hno⟩ := hL
 refine D ?_
 refine cC (fun c0 => ?_) (fun c0 => ?_)
 · skip
   refine D ?_
   refine kR (hf (R.getD x zBackend) (getD_mem zBackend (by omega))) ?_ hq
   refine D ?_
   refine cC (fun c1 => ?_) (fun c1 => ?_)
   · skip
     refine D ?_
     refine E ?_
     rw [idxG_some zBackend (by omega) hno c1]
   · skip
     refine D ?_
     refine N (x+1) [] (hi := ?_) (hm := ?_)
     · refine ⟨by omega, fun j hj => ?_⟩
       rcases Nat.lt_or_ge j x with h | h
       · exact hno j h
       · obtain rfl : j = x := by omega
         first | exact c1 | (simpa [isB, isV, eqI] using c1) | (simp [isB, isV, eqI]; grind)
     · omega
 · skip
   obtain rfl : x = R.length := by omega
   refine D ?_
   refine E ?_
   rw [idxG_none zBackend hno]
theorem s_impl_Config_backend_1 (b : Backend) (n : Int) : SemX prog 224 [aS (eBackend b), aT (.ptr [.int .i64 n])] [] [rB (isB n b)] [] := by
 refine goF [] [] [] func224 ?_
 refine D ?_
 refine E ?_
 first
 | exact trivial
 | simp only [go_sem, isB]
theorem s_impl_Config_backend (c : Config) (hx : limG 2097152 c) (n : Int) : SemX prog 157 [aT (.ptr (eConfig false c)), aI n] [] [rI (findB c.backends n)] [] := by
 refine goF [] [] [] func157 ?_
 obtain ⟨hb, hv, hV⟩ := id hx
 refine D ?_
 refine kR (s_slices_IndexFunc_Backend c.backends hb 224 n (isB n) (by kernel_rfl) (fun b _ => s_impl_Config_backend_1 b n)) ?_
 refine D ?_
 refine E ?_
 first
 | exact trivial
 | simp only [go_sem, findB]
theorem s_impl_ConfigFault_1 (n : Int) (c : Config) (hx : limG 2097152 c) : SemX prog 257 [aI n, aT (.ptr (eConfig false c))] [] [rB (noB c.backends n)] [] := by
 refine goF [] [] [] func257 ?_
 refine D ?_
 refine kR (s_impl_Config_backend c hx n) ?_
 refine D ?_
 refine E ?_
 first
 | exact trivial
 | simp only [go_sem, noB]
theorem s_impl_ConfigFault (c : Config) (hx : limG 2097152 c) : SemX prog 189 [aS (eConfig false c)] [] [rI (configFault c)] [] := by
 refine goF [(88, ⟨some 1, none, none, none⟩), (162, ⟨some 1, none, none, none⟩)] [(10, 4, [20480], []), (10, 6, [8192], []), (18, 4, [8192], []), (18, 9, [28672], []), (25, 1, [28672], []), (25, 6, [28672], [])] [] func189 ?_
 obtain ⟨hb, hv, hV⟩ := id hx
 refine D ?_
 refine kR (s_impl_in _ _ _) ?_
 refine D ?_
 refine cC (fun c0 => ?_) (fun c0 => ?_)
 · skip
   refine D ?_
   refine E ?_
   first
   | exact trivial
   | unfold configFault
     grind
 · skip
   refine D ?_
   refine cC (fun c1 => ?_) (fun c1 => ?_)
   · skip
     refine D ?_
     refine E ?_
     first
     | exact trivial
     | unfold configFault
       grind
   · skip
     refine D ?_
     refine L (α := Nat) (fun x => [(27, .int .i64 x)]) (fun x => []) (fun x => c.backends.length - x) (fun x => x ≤ c.backends.length ∧ scan (bkBad c.backends) c.backends.length 0 = scan (bkBad c.backends) c.backends.length x) 0 [] (fun x hL => ?_) (hi := by exact ⟨Nat.zero_le _, rfl⟩)
     obtain ⟨hx2, he⟩ := hL
     refine D ?_
     refine cC (fun c2 => ?_) (fun c2 => ?_)
     · skip
       have hst := scan_lt (f := bkBad c.backends) (show x < c.backends.length by omega)
       have hd : bkBad c.backends x = if isBk (c.backends.getD x zBackend) = false then 3 else if 0 < x ∧ (c.backends.getD x zBackend).name ≤ (c.backends.getD (x - 1) zBackend).name then 1 else 0 := rfl
       refine D ?_
       refine kR (s_impl_isBackend _) ?_
       refine D ?_
       refine cC (fun c3 => ?_) (fun c3 => ?_)
       · skip
         refine D ?_
         refine E ?_
         first
         | exact trivial
         | unfold configFault
           grind
       · skip
         refine D ?_
         refine cC (fun c4 => ?_) (fun c4 => ?_)
         · skip
           refine D ?_
           refine E ?_
           first
           | exact trivial
           | unfold configFault
             grind
         · skip
           refine D ?_
           refine N (x+1) [] (hi := ?_) (hm := ?_)
           · refine ⟨by omega, ?_⟩
             rw [he, scan_lt (by omega), if_pos]
             unfold bkBad
             grind
           · omega
     · skip
       have hs0 : scan (bkBad c.backends) c.backends.length 0 = 0 := by rw [he, scan_ge (by omega)]
       refine D ?_
       refine L (α := Nat) (fun i => [(53, .int .i64 i)]) (fun i => []) (fun i => c.vips.length - i) (fun i => i ≤ c.vips.length ∧ scan (vipBad c) c.vips.length 0 = scan (vipBad c) c.vips.length i) 0 [] (fun i hL => ?_) (hi := by exact ⟨Nat.zero_le _, rfl⟩)
       obtain ⟨hi2, hie⟩ := hL
       refine D ?_
       refine cC (fun c5 => ?_) (fun c5 => ?_)
       · skip
         have hst2 := scan_lt (f := vipBad c) (show i < c.vips.length by omega)
         refine D ?_
         refine kR (s_impl_isAddress _) ?_
         refine D ?_
         refine kRg (s_impl_isPort _) ?_
         refine D ?_
         refine kRg (s_impl_isProto _) ?_
         refine D ?_
         refine cC (fun c6 => ?_) (fun c6 => ?_)
         · skip
           have hv3 : isVp (c.vips.getD i zVip) = false := by unfold isVp; grind
           have hvb : vipBad c i = 3 := by unfold vipBad; rw [if_pos hv3]
           refine D ?_
           refine E ?_
           first
           | exact trivial
           | unfold configFault
             grind
         · skip
           have hv3 : isVp (c.vips.getD i zVip) = true := by unfold isVp; grind
           refine D ?_
           refine kDg (s_impl_compareVip (c.vips.getD (i - 1) zVip) (c.vips.getD i zVip)) ?_
           refine D ?_
           refine cC (fun c7 => ?_) (fun c7 => ?_)
           · skip
             have hbh := cmpV_ge (c.vips.getD (i - 1) zVip) (c.vips.getD i zVip)
             have hvb : vipBad c i = 1 := by unfold vipBad; grind
             refine D ?_
             refine E ?_
             first
             | exact trivial
             | unfold configFault
               grind
           · skip
             have hbh := cmpV_ge (c.vips.getD (i - 1) zVip) (c.vips.getD i zVip)
             have hbq : ¬ (0 < i ∧ behV (c.vips.getD (i - 1) zVip) (c.vips.getD i zVip) = false) := by grind
             refine D ?_
             refine kR (s_slices_ContainsFunc_int64 (c.vips.getD i zVip).names (hV _ (getD_mem zVip (by omega))) 257 c hx (noB c.backends) (by kernel_rfl) (fun n _ => s_impl_ConfigFault_1 n c hx)) ?_
             refine D ?_
             refine cC (fun c8 => ?_) (fun c8 => ?_)
             · skip
               have hvb : vipBad c i = 4 := by unfold vipBad; rw [if_neg (by rw [hv3]; simp), if_neg hbq, if_pos (by simpa using c8)]
               refine D ?_
               refine E ?_
               first
               | exact trivial
               | unfold configFault
                 grind
             · skip
               have hcf : hasG (noB c.backends) (c.vips.getD i zVip).names = false := by simpa using c8
               have hvs : vipBad c i = scan (nmBad (c.vips.getD i zVip)) (c.vips.getD i zVip).names.length 1 := by unfold vipBad; rw [if_neg (by rw [hv3]; simp), if_neg hbq, if_neg (by rw [hcf]; simp)]
               refine D ?_
               refine L (α := Nat) (fun y => [(7, .int .i64 y)]) (fun y => []) (fun y => (c.vips.getD i zVip).names.length - y) (fun y => 1 ≤ y ∧ (y ≤ (c.vips.getD i zVip).names.length ∨ y = 1) ∧ scan (nmBad (c.vips.getD i zVip)) (c.vips.getD i zVip).names.length 1 = scan (nmBad (c.vips.getD i zVip)) (c.vips.getD i zVip).names.length y) 1 [] (fun y hL => ?_) (hi := by exact ⟨Nat.le_refl _, .inr rfl, rfl⟩)
               obtain ⟨hy, hy2, hys⟩ := hL
               refine D ?_
               refine cC (fun c9 => ?_) (fun c9 => ?_)
               · skip
                 have hnl : (c.vips.getD i zVip).names.length ≤ 2097152 := hV _ (getD_mem zVip (by omega))
                 refine D ?_
                 refine cC (fun c10 => ?_) (fun c10 => ?_)
                 · skip
                   have hvb : vipBad c i = 1 := by
                     rw [hvs, hys, scan_lt (by omega)]
                     unfold nmBad
                     grind
                   refine D ?_
                   refine E ?_
                   first
                   | exact trivial
                   | unfold configFault
                     grind
                 · skip
                   refine D ?_
                   refine N (y+1) [] (hi := ?_) (hm := ?_)
                   · refine ⟨by omega, .inl (by omega), ?_⟩
                     rw [hys, scan_lt (by omega), if_pos]
                     unfold nmBad
                     simp at *
                     grind
                   · omega
               · skip
                 have hvb : vipBad c i = 0 := by rw [hvs, hys, scan_ge (by omega)]
                 refine D ?_
                 refine N (i+1) [] (hi := ?_) (hm := ?_)
                 · refine ⟨by omega, ?_⟩
                   rw [hie, scan_lt (by omega), if_pos]
                   grind
                 · omega
       · skip
         have hs1 : scan (vipBad c) c.vips.length 0 = 0 := by rw [hie, scan_ge (by omega)]
         refine D ?_
         refine E ?_
         first
         | exact trivial
         | unfold configFault
           grind
theorem s_impl_Config_isZero (c : Config) (hx : limG 2097152 c) : SemX prog 198 [aT (.ptr (eConfig false c))] [] [rB (cfgZero c)] [] := by
 refine goF [] [] [] func198 ?_
 obtain ⟨hb, hv, hV⟩ := id hx
 refine D ?_
 refine E ?_
 first
 | exact trivial
 | simp only [go_sem, cfgZero]; done
 | try simp only [go_sem, cfgZero]
   first | rfl | (simp; done) | (simp [Bool.and_assoc]; done) | grind
theorem s_impl_WatchFault (w : Watch) (hw : limG 2097152 w.config) : SemX prog 124 [aS (eWatch false w)] [] [rI (watchFault w)] [] := by
 refine goF [] [] [] func124 ?_
 refine D ?_
 refine kR (s_impl_ConfigFault w.config hw) ?_
 refine D ?_
 refine cC (fun c0 => ?_) (fun c0 => ?_)
 · skip
   refine D ?_
   refine E ?_
   first
   | exact trivial
   | unfold watchFault
     grind
 · skip
   refine D ?_
   refine kRg (s_impl_Config_isZero w.config hw) ?_
   refine D ?_
   refine cC (fun c1 => ?_) (fun c1 => ?_)
   · skip
     refine D ?_
     refine E ?_
     first
     | exact trivial
     | unfold watchFault
       grind
   · skip
     refine D ?_
     refine E ?_
     first
     | exact trivial
     | unfold watchFault
       grind
theorem s_slices_EqualFunc_int64 (a b : List (List Int)) (ha : a.length ≤ 2097152) (hb : b.length ≤ 2097152) (hA_ : ∀ y ∈ a, y.length ≤ 2097152) (hB_ : ∀ y ∈ b, y.length ≤ 2097152) (fn : Nat) (hq : callB prog fn = true) (hf : ∀ a b : List Int, a.length ≤ 2097152 → b.length ≤ 2097152 → SemX prog fn [aT (.sl false 1 (a.map eI_i64)), aT (.sl false 1 (b.map eI_i64))] [] [rB (decide (a = b))] []) : SemX prog 125 [aT (.sl false 1 (a.map (eLI_i64 false))), aT (.sl false 1 (b.map (eLI_i64 false))), .one (.fn fn [])] [] [rB (decide (a = b))] [] := by
 refine goF [] [] [] func125 ?_
 refine D ?_
 refine cC (fun c0 => ?_) (fun c0 => ?_)
 · skip
   have he : ¬ a = b := fun e => by subst e; simp at c0
   refine D ?_
   refine E ?_
   simp [he]
 · skip
   have hle : a.length = b.length := by omega
   refine D ?_
   refine L (α := Nat) (fun x => [(17, .int .i64 x)]) (fun x => []) (fun x => a.length - x) (fun x => x ≤ a.length ∧ ∀ j, j < x → a.getD j zLI_i64 = b.getD j zLI_i64) 0 [] (fun x hL => ?_) (hi := by exact ⟨Nat.zero_le _, fun j hj => by omega⟩)
   obtain ⟨hx2, hno⟩ := hL
   refine D ?_
   refine cC (fun c1 => ?_) (fun c1 => ?_)
   · skip
     refine D ?_
     refine kR (hf (a.getD x zLI_i64) (b.getD x zLI_i64) (hA_ _ (getD_mem zLI_i64 (by omega))) (hB_ _ (getD_mem zLI_i64 (by omega)))) ?_ hq
     refine D ?_
     refine cC (fun c2 => ?_) (fun c2 => ?_)
     · skip
       have he : ¬ a = b := fun e => by subst e; simp at c2
       refine D ?_
       refine E ?_
       simp [he]
     · skip
       refine D ?_
       refine N (x+1) [] (hi := ?_) (hm := ?_)
       · refine ⟨by omega, fun j hj => ?_⟩
         rcases Nat.lt_or_ge j x with h | h
         · exact hno j h
         · obtain rfl : j = x := by omega
           first | exact c2 | (simpa using c2) | grind
       · omega
   · skip
     obtain rfl : x = a.length := by omega
     refine D ?_
     refine E ?_
     have he : a = b := eq_getD zLI_i64 hle hno
     simp [he]
theorem s_slices_IndexFunc_Share (R : List Share) (hl : R.length ≤ 2097152) (fn : Nat)  (q : Share → Bool) (hq : callB prog fn = true) (hf : ∀ b : Share, b ∈ R → SemX prog fn [aS (eShare b)] [] [rB (q b)] []) : SemX prog 284 [aT (.sl false 2 (R.map eShare)), .one (.fn fn [])] [] [rI (idxG q R)] [] := by
 refine goF [] [] [] func284 ?_
 refine D ?_
 refine L (α := Nat) (fun x => [(8, .int .i64 x)]) (fun x => []) (fun x => R.length - x) (fun x => x ≤ R.length ∧ ∀ j, j < x → q (R.getD j zShare) = false) 0 [] (fun x hL => ?_) (hi := by exact ⟨Nat.zero_le _, fun j hj => by omega⟩)
 obtain ⟨hx2, hno⟩ := hL
 refine D ?_
 refine cC (fun c0 => ?_) (fun c0 => ?_)
 · skip
   refine D ?_
   refine kR (hf (R.getD x zShare) (getD_mem zShare (by omega))) ?_ hq
   refine D ?_
   refine cC (fun c1 => ?_) (fun c1 => ?_)
   · skip
     refine D ?_
     refine E ?_
     rw [idxG_some zShare (by omega) hno c1]
   · skip
     refine D ?_
     refine N (x+1) [] (hi := ?_) (hm := ?_)
     · refine ⟨by omega, fun j hj => ?_⟩
       rcases Nat.lt_or_ge j x with h | h
       · exact hno j h
       · obtain rfl : j = x := by omega
         first | exact c1 | (simpa [isB, isV, eqI] using c1) | (simp [isB, isV, eqI]; grind)
     · omega
 · skip
   obtain rfl : x = R.length := by omega
   refine D ?_
   refine E ?_
   rw [idxG_none zShare hno]
theorem s_slices_ContainsFunc_Share (R : List Share) (hl : R.length ≤ 2097152) (fn : Nat) (q : Share → Bool) (hq : callB prog fn = true) (hf : ∀ b : Share, b ∈ R → SemX prog fn [aS (eShare b)] [] [rB (q b)] []) : SemX prog 261 [aT (.sl false 2 (R.map eShare)), .one (.fn fn [])] [] [rB (hasG q R)] [] := by
 refine goF [] [] [] func261 ?_
 refine D ?_
 refine kR (s_slices_IndexFunc_Share R hl fn q hq hf) ?_
 refine D ?_
 refine E ?_
 first
 | exact trivial
 | simp only [go_sem, hasG]
theorem s_impl_fill_1 (s : Share) : SemX prog 262 [aS (eShare s)] [] [rB (posW s)] [] := by
 refine goF [] [] [] func262 ?_
 refine D ?_
 refine E ?_
 first
 | exact trivial
 | simp only [go_sem, posW]
theorem s_impl_rest (n b : Int) (hb : 0 < b) (hb2 : b ≤ 4294967296) : SemX prog 271 [aI n, aI b] [] [rI (restI n b)] [] := by
 refine goF [(20, ⟨some 1, none, none, none⟩)] [] [] func271 ?_
 have hr := Int.tmod_lt_of_pos n hb
 have hr2 : -b < n.tmod b := by
   have h3 := Int.tmod_lt_of_pos (-n) hb
   rw [Int.neg_tmod] at h3
   omega
 refine D ?_
 refine E ?_
 first
 | exact trivial
 | simp only [go_sem, restI]
theorem s_impl_MixNumber (n s : Int) : SemX prog 221 [aI n, aI s] [] [rI (mix n s)] [] := by
 refine goF [(18, ⟨some 1, none, none, none⟩), (30, ⟨some 1, none, none, none⟩), (36, ⟨some 1, none, none, none⟩), (38, ⟨some 1, none, none, none⟩), (44, ⟨some 1, none, none, none⟩)] [] [] func221 ?_
 have hs := restI_bd (n := s) (b := 10007) (by omega)
 have hn := restI_bd (n := n) (b := 4294967296) (by omega)
 refine D ?_
 refine kR (s_impl_rest s 10007 (by omega) (by omega)) ?_
 refine D ?_
 refine kR (s_impl_rest n 4294967296 (by omega) (by omega)) ?_
 refine D ?_
 refine L (α := Nat × Int × Int) (fun x => [(0, .int .i64 x.2.2), (5, .int .i64 x.2.1), (11, .int .i64 x.1)]) (fun x => []) (fun x => 4 - x.1) (fun x => x.1 ≤ 4 ∧ 0 ≤ x.2.1 ∧ x.2.1 < 1000003 ∧ 0 ≤ x.2.2 ∧ x.2.2 ≤ 4294967295 ∧ mixS (4 - x.1) x.2.1 x.2.2 = mix n s) (0, restI s 10007 + 11, restI n 4294967296) [] (fun x0 hL => ?_) (hi := by exact ⟨by omega, by dsimp only; omega, by dsimp only; omega, hn.1, by dsimp only; omega, rfl⟩)
 obtain ⟨k, h, w⟩ := x0
 obtain ⟨hk, h1, h2, h3, h4, h5⟩ := hL
 try dsimp only at *
 have e1 : 0 ≤ w.tmod 256 := Int.tmod_nonneg _ h3
 have e2 := Int.tmod_lt_of_pos w (show (0 : Int) < 256 by omega)
 have e3 : 0 ≤ w.tdiv 256 := Int.tdiv_nonneg h3 (by omega)
 have e4 := Int.le_trans (Int.tdiv_le_self 256 h3) h4
 refine D ?_
 refine cC (fun c0 => ?_) (fun c0 => ?_)
 · skip
   refine D ?_
   refine N (k + 1, (h * 131 + w.tmod 256 + 1).tmod 1000003, w.tdiv 256) [] (hi := ?_) (hm := ?_)
   · dsimp only
     refine ⟨by omega, Int.tmod_nonneg _ (by omega), Int.tmod_lt_of_pos _ (by omega), Int.tdiv_nonneg h3 (by omega), ?_, ?_⟩
     · exact e4
     · rw [← h5, show 4 - k = (4 - (k + 1)) + 1 by omega, mixS]
   · try dsimp only
     omega
 · skip
   obtain rfl : k = 4 := by omega
   simp only [Nat.sub_self, mixS] at h5
   refine D ?_
   refine E ?_
   first
   | exact trivial
   | rw [h5]
theorem s_impl_offset (n : Int) : SemX prog 285 [aI n] [] [rI (offI n)] [] := by
 refine goF [] [] [] func285 ?_
 refine D ?_
 refine kR (s_impl_MixNumber n 3) ?_
 refine D ?_
 refine E ?_
 first
 | exact trivial
 | simp only [go_sem, offI]
theorem s_impl_skip (n : Int) : SemX prog 286 [aI n] [] [rI (skipI n)] [] := by
 refine goF [(14, ⟨some 1, none, none, none⟩)] [] [] func286 ?_
 have h1 : 0 ≤ (mix n 5).tmod 30 := Int.tmod_nonneg _ (mix_bd n 5).1
 have h2 := Int.tmod_lt_of_pos (mix n 5) (show (0 : Int) < 30 by omega)
 refine D ?_
 refine kR (s_impl_MixNumber n 5) ?_
 refine D ?_
 refine E ?_
 first
 | exact trivial
 | simp only [go_sem, skipI]
theorem s_impl_permutation (n : Int) : SemX prog 263 [aI n] [] [.one (.sl false 1 ((permL n).map eI_i64))] [] := by
 refine goF [(32, ⟨some 1, none, none, none⟩), (34, ⟨some 1, none, none, none⟩), (42, ⟨some 1, none, none, none⟩)] [] [(7, [1000000024576])] func263 ?_
 have ho := offI_bd n
 have hs := skipI_bd n
 have hpl := permL_len n
 have hA := hpl
 refine D ?_
 refine L (α := Nat) (fun k => [(3, .ref 24576 0 k), (6, .int .i64 k)]) (fun k => [(24576, .arr ⟨1, ((permL n).take k).map eI_i64, 1, none⟩)]) (fun k => 31 - k) (fun k => k ≤ 31) 0 [] (fun k hI => ?_)
 have hm : 0 ≤ (k : Int) * skipI n := Int.mul_nonneg (by omega) (by omega)
 have hm2 : (k : Int) * skipI n ≤ 31 * 30 := Int.mul_le_mul (by omega) (by omega) (by omega) (by omega)
 refine D ?_
 refine cC (fun c0 => ?_) (fun c0 => ?_)
 · skip
   refine D ?_
   refine kR (s_impl_offset n) ?_
   refine D ?_
   refine kR (s_impl_skip n) ?_
   refine D ?_
   refine lp_next (k+1) [(24576,81920)] ?_ ?_ ?_
   · simp only [go_sem, hA] <;> and_intros <;> first | with_reducible exact rfl | (first | with_reducible exact rfl | omega | (rw [permL_take n (by omega)]; simp [eI_i64, placeI]; done))
   · omega
   · omega
 · skip
   obtain rfl : k = 31 := by omega
   refine D ?_
   refine E ?_
   first
   | exact trivial
   | rw [List.take_of_length_le (by omega)]
theorem s_impl_fill (l : List Share) (hl : l.length ≤ 2097152) (hk : okSh l) (hw : ∀ s ∈ l, 0 ≤ s.weight ∧ s.weight ≤ 9) : SemX prog 199 [aT (.sl false 2 (l.map eShare))] [] [.one (.sl true 1 ((fillT l).map eI_i64))] [] := by
 refine goF [(140, ⟨some 1, none, none, none⟩), (148, ⟨some 1, none, none, none⟩)] [(17, 3, [65536], []), (17, 4, [65536], []), (17, 5, [65536], []), (17, 6, [65536], []), (17, 8, [40960], []), (17, 9, [45056], []), (17, 10, [45056], [45056])] [] func199 ?_
 have hsp := sumW_pos hk
 have hol := ordS_len l
 have hA := hol
 refine D ?_
 refine kR (s_slices_ContainsFunc_Share l hl 262 posW (by kernel_rfl) (fun s _ => s_impl_fill_1 s)) ?_
 refine D ?_
 refine cC (fun c0 => ?_) (fun c0 => ?_)
 · skip
   have hw0 : sumW l = 0 := (posW_no hk).1 (by simpa using c0)
   refine D ?_
   refine E ?_
   have he : fillT l = zeroT := if_pos hw0
   rw [he]
   rfl
 · skip
   have hw0 : sumW l ≠ 0 := fun h => by have := (posW_no hk).2 h; simp_all
   refine D ?_
   refine L (α := Nat) (fun i => [(5, .ref 65536 0 i), (18, .int .i64 i)]) (fun i => [(65536, .arr ⟨1, (l.take i).map (fun s => [T.sl false 1 ((permL s.name).map eI_i64)]), 1, none⟩)]) (fun i => l.length - i) (fun i => i ≤ l.length) 0 [] (fun i hI => ?_)
   refine D ?_
   refine cC (fun c1 => ?_) (fun c1 => ?_)
   · skip
     refine D ?_
     refine RW_callN (by kernel_rfl) (s_impl_permutation (l.getD i zShare).name) false [] [] [] rfl rfl (by simp only [go_sem, hA] <;> and_intros <;> first | with_reducible exact rfl | omega | with_reducible trivial | (intros; simp_all; done) | grind) (by first | rfl | (simp only [go_sem, hA]; done)) (by simp only [go_sem, hA]; exact rfl) ?_
     refine D ?_
     refine lp_next (i+1) [(65536,114688)] ?_ ?_ ?_
     · simp only [go_sem, hA] <;> and_intros <;> first | with_reducible exact rfl | (first | with_reducible exact rfl | omega | (rw [take_succ_map _ zShare (by omega)]; done) | (simp [take_succ_map _ zShare, *]; done))
     · omega
     · omega
   · skip
     obtain rfl : i = l.length := by omega
     have hall := ordS_zero l
     refine D ?_
     refine Ld [16, 17, 18, 19] [] (α := Nat × List Nat) (fun x => [(4, .int .i64 (freeN_ (tabR l x.1 0 0)))]) (fun x => [(45056, .arr ⟨1, (tabR l x.1 0 0).map eI_i64, 1 + cntR l x.1 0 0, none⟩), (65536, .arr ⟨1, ordS l x.2, 1 + sumN x.2, none⟩)]) (fun x => freeN_ (tabR l x.1 0 0)) (fun x => x.1 ≤ 31 ∧ goneK (tabR l x.1 0 0) l x.2 ∧ freeN_ (tabR l x.1 0 0) ≠ 0) (0, List.replicate l.length 0) [] (fun x0 hL => ?_) (by (simp only [go_sem, hA, tabR_zero, cntR_zero, sumN_zero, zeroT_free, hall, hA] <;> and_intros <;> first | with_reducible exact rfl | exact rfl | omega)) (hi := by
             have e0 : tabR l 0 0 0 = zeroT := tabR_zero l
             exact ⟨by dsimp only; omega, gone_zero _ l, by dsimp only; rw [e0, zeroT_free]; omega⟩)
     obtain ⟨r, ks⟩ := x0
     obtain ⟨hr, hg, hf⟩ := hL
     try dsimp only at *
     have hr31 := round_lt hk hw0 hf
     have hless := round_less hk hw0 hf
     refine D ?_
     refine L (α := Nat × List Nat) (fun x => [(4, .int .i64 (freeN_ (tabR l r x.1 0))), (31, .int .i64 x.1)]) (fun x => [(45056, .arr ⟨1, (tabR l r x.1 0).map eI_i64, 1 + cntR l r x.1 0, none⟩), (65536, .arr ⟨1, ordS l x.2, 1 + sumN x.2, none⟩)]) (fun x => l.length - x.1) (fun x => x.1 ≤ l.length ∧ goneK (tabR l r x.1 0) l x.2 ∧ freeN_ (tabR l r x.1 0) ≠ 0) (0, ks) [] (fun x0 hL => ?_) (hi := by exact ⟨Nat.zero_le _, hg, hf⟩)
     obtain ⟨i, ks⟩ := x0
     obtain ⟨hi, hg, hf⟩ := hL
     try dsimp only at *
     refine D ?_
     refine cC (fun c2 => ?_) (fun c2 => ?_)
     · skip
       have hwi := hw _ (getD_mem zShare (show i < l.length by omega))
       have hnn := (hk _ (getD_mem zShare (show i < l.length by omega))).1
       refine D ?_
       refine L (α := Nat × List Nat) (fun x => [(4, .int .i64 (freeN_ (tabR l r i x.1))), (38, .int .i64 x.1)]) (fun x => [(45056, .arr ⟨1, (tabR l r i x.1).map eI_i64, 1 + cntR l r i x.1, none⟩), (65536, .arr ⟨1, ordS l x.2, 1 + sumN x.2, none⟩)]) (fun x => (l.getD i zShare).weight.toNat - x.1) (fun x => x.1 ≤ (l.getD i zShare).weight.toNat ∧ goneK (tabR l r i x.1) l x.2 ∧ freeN_ (tabR l r i x.1) ≠ 0) (0, ks) [] (fun x0 hL => ?_) (hi := by exact ⟨Nat.zero_le _, hg, hf⟩)
       obtain ⟨k, ks⟩ := x0
       obtain ⟨hkk, hg, hf⟩ := hL
       try dsimp only at *
       have hlen := tabR_len l r i k
       have hfb := freeN_le (tabR l r i k)
       refine D ?_
       refine cC (fun c3 => ?_) (fun c3 => ?_)
       · skip
         refine D ?_
         refine Ld [39] [] (α := List Nat) (fun ks => []) (fun ks => [(65536, .arr ⟨1, ordS l ks, 1 + sumN ks, none⟩)]) (fun ks => 31 - (ks.getD i 0)) (fun ks => 0 ≤ r ∧ goneK (tabR l r i k) l ks) ks [] (fun ks hL => ?_) (hi := by exact ⟨Nat.zero_le _, hg⟩)
         obtain ⟨_, hg⟩ := hL
         have hkl := hg.1
         have hgi := hg.2 i (by omega)
         have hlt : (ks.getD i 0) < 31 := gone_lt hlen hf hgi.2
         have hoa := ordS_at ks (show i < l.length by omega)
         have hpd := perm_drop (name := (l.getD i zShare).name) hlt
         have hpl := permL_len (l.getD i zShare).name
         have hdt : List.take (31 - (ks.getD i 0)) (List.drop (ks.getD i 0) (permL (l.getD i zShare).name)) = List.drop (ks.getD i 0) (permL (l.getD i zShare).name) := List.take_of_length_le (by rw [List.length_drop]; omega)
         have hpb := placeI_bd (l.getD i zShare).name (k := ((ks.getD i 0) : Int)) (by omega)
         have hA := And.intro hA (And.intro hoa (And.intro hpd (And.intro hpl (hdt))))
         refine D ?_
         refine cC (fun c4 => ?_) (fun c4 => ?_)
         · skip
           refine D ?_
           refine lp_next (ks.set i ((ks.getD i 0) + 1)) [] ?_ ?_ ?_
           · simp only [go_sem, hA] <;> and_intros <;> first | with_reducible exact rfl | (first | with_reducible exact rfl | omega | (refine arr_eq ?_ ?_ <;> first | (rw [← ordS_set (by omega) (by omega)]; simp [List.drop_drop]; done) | (have := sumN_set (ks := ks) (i := i) (d := (ks.getD i 0) + 1) (by omega); omega)))
           · refine ⟨Nat.zero_le _, ?_⟩
             refine gone_set hg (by omega) (by omega) fun j hj => ?_
             rcases Nat.lt_or_ge j (ks.getD i 0) with h | h
             · exact hgi.2 j h
             · obtain rfl : j = (ks.getD i 0) := by omega
               simpa [zI_i64] using c4
           · rw [getD_set_self (by omega)]
             omega
         · skip
           have hput := tab_more hgi.2 hlt (by simpa [zI_i64] using c4)
           have hles := tab_less (r := r) (i := i) (k := k) hnn hf
           refine D ?_
           refine cC (fun c5 => ?_) (fun c5 => ?_)
           · skip
             refine D ?_
             refine E ?_
             have he : tabR l r i (k + 1) = fillT l := tabR_full hw0 (by omega) (by omega) (by omega) hr31
             rw [← he, ← hput]
             simp [eI_i64, List.map_set, hlen, List.take_of_length_le]
             rfl
           · skip
             refine D ?_
             refine lp_next (k + 1, ks) [] ?_ ?_ ?_
             · simp only [go_sem, hA] <;> and_intros <;> first | with_reducible exact rfl | (first | with_reducible exact rfl | omega | (refine arr_eq ?_ ?_ <;> first | (rw [← hput]; simp [eI_i64, List.map_set]; done) | (unfold cntR; omega)) | (refine int_eq ?_; omega))
             · refine ⟨by omega, ?_, by dsimp only; omega⟩
               dsimp only
               rw [← hput]
               exact gone_put hg hnn
             · try dsimp only
               omega
       · skip
         obtain rfl : k = (l.getD i zShare).weight.toNat := by omega
         refine D ?_
         refine lp_next (i + 1, ks) [] ?_ ?_ ?_
         · simp only [go_sem, hA] <;> and_intros <;> first | with_reducible exact rfl | (first | with_reducible exact rfl | omega | (refine arr_eq ?_ ?_ <;> first | rw [tabR_r] | rw [cntR_r] | rw [tabR_i (by omega)] | rw [cntR_i (by omega)]) | (rw [tabR_r]; done) | (rw [tabR_i (by omega)]; done))
         · refine ⟨by omega, ?_, ?_⟩
           · dsimp only
             rw [← tabR_i (by omega)]
             exact hg
           · dsimp only
             rw [← tabR_i (by omega)]
             exact hf
         · try dsimp only
           omega
     · skip
       obtain rfl : i = l.length := by omega
       refine D ?_
       refine lp_next (r + 1, ks) [] ?_ ?_ ?_
       · simp only [go_sem, hA] <;> and_intros <;> first | with_reducible exact rfl | (first | with_reducible exact rfl | omega | (refine arr_eq ?_ ?_ <;> first | rw [tabR_r] | rw [cntR_r] | rw [tabR_i (by omega)] | rw [cntR_i (by omega)]) | (rw [tabR_r]; done) | (rw [tabR_i (by omega)]; done))
       · refine ⟨by omega, ?_, ?_⟩
         · dsimp only
           rw [← tabR_r]
           exact hg
         · dsimp only
           rw [← tabR_r]
           exact hf
       · try dsimp only
         omega
theorem s_impl_Config_shares (c : Config) (hx : limG 2097152 c) (P : CfP c) (i : Nat) (hi : i < c.vips.length) : SemX prog 200 [aT (.ptr (eConfig false c)), aI i] [] [.one (.sl true 2 ((sharesOf c (c.vips.getD i zVip).names).map eShare))] [] := by
 refine goF [] [(5, 9, [], [36864]), (5, 10, [36864], [36864])] [] func200 ?_
 obtain ⟨hb, hv, hV⟩ := id hx
 have hnl : (c.vips.getD i zVip).names.length ≤ 2097152 := limV_getD hV i
 have hs0 : sharesOf c [] = [] := rfl
 have hA := hs0
 refine D ?_
 refine L (α := Nat) (fun x => [(5, .ref 40960 0 (sharesOf c ((c.vips.getD i zVip).names.take x)).length), (19, .int .i64 x)]) (fun x => [(40960, .arr ⟨2, (sharesOf c ((c.vips.getD i zVip).names.take x)).map eShare, 1, none⟩)]) (fun x => (c.vips.getD i zVip).names.length - x) (fun x => x ≤ (c.vips.getD i zVip).names.length) 0 [] (fun x hI => ?_)
 have hsl := sharesOf_len c ((c.vips.getD i zVip).names.take x)
 rw [List.length_take] at hsl
 refine D ?_
 refine cC (fun c0 => ?_) (fun c0 => ?_)
 · skip
   have hnx := getD_mem zI_i64 (show x < (c.vips.getD i zVip).names.length by omega)
   obtain ⟨m, hm1, hm2, hm3, hm4⟩ := sh_at P (getD_mem zVip hi) hnx
   have hA := And.intro hA (hm1)
   refine D ?_
   refine kD (s_impl_Config_backend c hx ((c.vips.getD i zVip).names.getD x zI_i64)) ?_
   refine D ?_
   refine cC (fun c1 => ?_) (fun c1 => ?_)
   · skip
     have hsf : shF c ((c.vips.getD i zVip).names.getD x zI_i64) = true := by unfold shF; rw [hm3]; simpa using c1
     have hst := sharesOf_take (c := c) (ns := (c.vips.getD i zVip).names) (i := x) (by omega)
     rw [if_pos hsf] at hst
     have hso : shO c ((c.vips.getD i zVip).names.getD x zI_i64) = ⟨(c.vips.getD i zVip).names.getD x zI_i64, (c.backends.getD m zBackend).weight⟩ := by unfold shO; rw [hm3]
     rw [hso] at hst
     refine D ?_
     refine lp_next (x+1) [(40960,188416)] ?_ ?_ ?_
     · simp only [go_sem, hA] <;> and_intros <;> first | with_reducible exact rfl | (first | with_reducible exact rfl | omega | (rw [hst]; simp [eShare, hm4, -List.getD_eq_getElem?_getD]; done) | (rw [hst]; done))
     · omega
     · omega
   · skip
     have hsf : ¬ shF c ((c.vips.getD i zVip).names.getD x zI_i64) = true := by unfold shF; rw [hm3]; simp at c1 ⊢; grind
     have hst := sharesOf_take (c := c) (ns := (c.vips.getD i zVip).names) (i := x) (by omega)
     rw [if_neg hsf, List.append_nil] at hst
     refine D ?_
     refine lp_next (x+1) [] ?_ ?_ ?_
     · simp only [go_sem, hA] <;> and_intros <;> first | with_reducible exact rfl | (first | with_reducible exact rfl | omega | (rw [hst]; simp [eShare, hm4, -List.getD_eq_getElem?_getD]; done) | (rw [hst]; done))
     · omega
     · omega
 · skip
   obtain rfl : x = (c.vips.getD i zVip).names.length := by omega
   refine D ?_
   exact E trivial
theorem s_impl_Config_tables (c : Config) (hx : limG 2097152 c) (P : CfP c) : SemX prog 126 [aT (.ptr (eConfig false c))] [] [.one (.sl true 1 ((tablesOf c).map (eLI_i64 true)))] [] := by
 refine goF [] [] [] func126 ?_
 obtain ⟨hb, hv, hV⟩ := id hx
 have ht0 : tablesOf c = c.vips.map fun v => fillT (sharesOf c v.names) := rfl
 refine D ?_
 refine L (α := Nat) (fun i => [(3, .ref 24576 0 i), (11, .int .i64 i)]) (fun i => [(24576, .arr ⟨1, (c.vips.take i).map (fun v => [T.sl true 1 ((fillT (sharesOf c v.names)).map eI_i64)]), 1, none⟩)]) (fun i => c.vips.length - i) (fun i => i ≤ c.vips.length) 0 [] (fun i hI => ?_)
 refine D ?_
 refine cC (fun c0 => ?_) (fun c0 => ?_)
 · skip
   obtain ⟨hok, hwt, hsn⟩ := shares_ok P (getD_mem zVip (show i < c.vips.length by omega))
   refine D ?_
   refine kR (s_impl_Config_shares c hx P i (by omega)) ?_
   refine D ?_
   refine kR (s_impl_fill (sharesOf c (c.vips.getD i zVip).names) (by omega) hok hwt) ?_
   refine D ?_
   refine lp_next (i+1) [(24576,86016)] ?_ ?_ ?_
   · simp only [go_sem] <;> and_intros <;> first | with_reducible exact rfl | (first | with_reducible exact rfl | omega | (rw [take_succ_map _ zVip (by omega)]; done) | (simp [take_succ_map _ zVip, *]; done))
   · omega
   · omega
 · skip
   obtain rfl : i = c.vips.length := by omega
   refine D ?_
   refine E ?_
   first
   | exact trivial
   | simp [ht0, List.take_of_length_le, eLI_i64]
theorem s_slices_Equal_int64 (a b : List Int) (ha : a.length ≤ 2097152) (hb : b.length ≤ 2097152) : SemX prog 127 [aT (.sl false 1 (a.map eI_i64)), aT (.sl false 1 (b.map eI_i64))] [] [rB (decide (a = b))] [] := by
 refine goF [] [] [] func127 ?_
 refine D ?_
 refine cC (fun c0 => ?_) (fun c0 => ?_)
 · skip
   have he : ¬ a = b := fun e => by subst e; simp at c0
   refine D ?_
   refine E ?_
   simp [he]
 · skip
   have hle : a.length = b.length := by omega
   refine D ?_
   refine L (α := Nat) (fun x => [(13, .int .i64 x)]) (fun x => []) (fun x => a.length - x) (fun x => x ≤ a.length ∧ ∀ j, j < x → a.getD j zI_i64 = b.getD j zI_i64) 0 [] (fun x hL => ?_) (hi := by exact ⟨Nat.zero_le _, fun j hj => by omega⟩)
   obtain ⟨hx2, hno⟩ := hL
   refine D ?_
   refine cC (fun c1 => ?_) (fun c1 => ?_)
   · skip
     refine D ?_
     refine cC (fun c2 => ?_) (fun c2 => ?_)
     · skip
       have he : ¬ a = b := fun e => by subst e; simp at c2
       refine D ?_
       refine E ?_
       simp [he]
     · skip
       refine D ?_
       refine N (x+1) [] (hi := ?_) (hm := ?_)
       · refine ⟨by omega, fun j hj => ?_⟩
         rcases Nat.lt_or_ge j x with h | h
         · exact hno j h
         · obtain rfl : j = x := by omega
           first | exact c2 | (simpa using c2) | grind
       · omega
   · skip
     obtain rfl : x = a.length := by omega
     refine D ?_
     refine E ?_
     have he : a = b := eq_getD zI_i64 hle hno
     simp [he]
theorem s_impl_PacketFault (p : Packet) : SemX prog 201 [aS (ePacket false p)] [] [rI (packetFault p)] [] := by
 refine goF [] [] [] func201 ?_
 refine D ?_
 refine kR (s_impl_isAddress _) ?_
 refine D ?_
 refine kRg (s_impl_isAddress _) ?_
 refine D ?_
 refine kRg (s_impl_isProto _) ?_
 refine D ?_
 refine kRg (s_impl_isPort _) ?_
 refine D ?_
 refine kRg (s_impl_isPort _) ?_
 refine D ?_
 refine cC (fun c0 => ?_) (fun c0 => ?_)
 · skip
   refine D ?_
   refine E ?_
   first
   | exact trivial
   | unfold packetFault
     grind
 · skip
   refine D ?_
   refine cC (fun c1 => ?_) (fun c1 => ?_)
   · skip
     refine D ?_
     refine E ?_
     first
     | exact trivial
     | unfold packetFault
       grind
   · skip
     refine D ?_
     refine E ?_
     first
     | exact trivial
     | unfold packetFault
       grind
theorem s_impl_isFlow (f : Flow) : SemX prog 128 [aS (eFlow f)] [] [rB (isFl f)] [] := by
 refine goF [] [] [] func128 ?_
 refine D ?_
 refine kR (s_impl_PacketFault ⟨f.from_, f.to_, f.proto, f.fromP, f.toP, []⟩) ?_
 refine D ?_
 refine E ?_
 first
 | exact trivial
 | rw [isFl_fault]
theorem s_slices_IndexFunc_Vip (R : List Vip) (hl : R.length ≤ 2097152) (fn : Nat) (a p r : Int) (q : Vip → Bool) (hq : callB prog fn = true) (hf : ∀ b : Vip, b ∈ R → SemX prog fn [aS (eVip false b), aT (.ptr [.int .i64 a]), aT (.ptr [.int .i64 p]), aT (.ptr [.int .i64 r])] [] [rB (q b)] []) : SemX prog 269 [aT (.sl false 4 (R.map (eVip false))), .one (.fn fn [.t (.ptr [.int .i64 a]), .t (.ptr [.int .i64 p]), .t (.ptr [.int .i64 r])])] [] [rI (idxG q R)] [] := by
 refine goF [] [] [] func269 ?_
 refine D ?_
 refine L (α := Nat) (fun x => [(8, .int .i64 x)]) (fun x => []) (fun x => R.length - x) (fun x => x ≤ R.length ∧ ∀ j, j < x → q (R.getD j zVip) = false) 0 [] (fun x hL => ?_) (hi := by exact ⟨Nat.zero_le _, fun j hj => by omega⟩)
 obtain ⟨hx2, hno⟩ := hL
 refine D ?_
 refine cC (fun c0 => ?_) (fun c0 => ?_)
 · skip
   refine D ?_
   refine kR (hf (R.getD x zVip) (getD_mem zVip (by omega))) ?_ hq
   refine D ?_
   refine cC (fun c1 => ?_) (fun c1 => ?_)
   · skip
     refine D ?_
     refine E ?_
     rw [idxG_some zVip (by omega) hno c1]
   · skip
     refine D ?_
     refine N (x+1) [] (hi := ?_) (hm := ?_)
     · refine ⟨by omega, fun j hj => ?_⟩
       rcases Nat.lt_or_ge j x with h | h
       · exact hno j h
       · obtain rfl : j = x := by omega
         first | exact c1 | (simpa [isB, isV, eqI] using c1) | (simp [isB, isV, eqI]; grind)
     · omega
 · skip
   obtain rfl : x = R.length := by omega
   refine D ?_
   refine E ?_
   rw [idxG_none zVip hno]
theorem s_slices_IndexFunc_Vip_cmd (R : List Vip) (hl : R.length ≤ 2097152) (fn : Nat) (x_ : Cmd) (q : Vip → Bool) (hq : callB prog fn = true) (hf : ∀ b : Vip, b ∈ R → SemX prog fn [aS (eVip false b), aT (.ptr (eCmd x_))] [] [rB (q b)] []) : SemX prog 269 [aT (.sl false 4 (R.map (eVip false))), .one (.fn fn [.t (.ptr (eCmd x_))])] [] [rI (idxG q R)] [] := by
 refine goF [] [] [] func269 ?_
 refine D ?_
 refine L (α := Nat) (fun x => [(8, .int .i64 x)]) (fun x => []) (fun x => R.length - x) (fun x => x ≤ R.length ∧ ∀ j, j < x → q (R.getD j zVip) = false) 0 [] (fun x hL => ?_) (hi := by exact ⟨Nat.zero_le _, fun j hj => by omega⟩)
 obtain ⟨hx2, hno⟩ := hL
 refine D ?_
 refine cC (fun c0 => ?_) (fun c0 => ?_)
 · skip
   refine D ?_
   refine kR (hf (R.getD x zVip) (getD_mem zVip (by omega))) ?_ hq
   refine D ?_
   refine cC (fun c1 => ?_) (fun c1 => ?_)
   · skip
     refine D ?_
     refine E ?_
     rw [idxG_some zVip (by omega) hno c1]
   · skip
     refine D ?_
     refine N (x+1) [] (hi := ?_) (hm := ?_)
     · refine ⟨by omega, fun j hj => ?_⟩
       rcases Nat.lt_or_ge j x with h | h
       · exact hno j h
       · obtain rfl : j = x := by omega
         first | exact c1 | (simpa [isB, isV, eqI] using c1) | (simp [isB, isV, eqI]; grind)
     · omega
 · skip
   obtain rfl : x = R.length := by omega
   refine D ?_
   refine E ?_
   rw [idxG_none zVip hno]
theorem s_impl_Config_vip_1 (v : Vip) (a p q : Int) : SemX prog 270 [aS (eVip false v), aT (.ptr [.int .i64 a]), aT (.ptr [.int .i64 p]), aT (.ptr [.int .i64 q])] [] [rB (isV a p q v)] [] := by
 refine goF [] [] [] func270 ?_
 refine D ?_
 refine E ?_
 first
 | exact trivial
 | simp only [go_sem, isV]
theorem s_impl_Config_vip (c : Config) (hx : limG 2097152 c) (a p r : Int) : SemX prog 219 [aT (.ptr (eConfig false c)), aI a, aI p, aI r] [] [rI (findV c.vips a p r)] [] := by
 refine goF [] [] [] func219 ?_
 obtain ⟨hb, hv, hV⟩ := id hx
 refine D ?_
 refine kR (s_slices_IndexFunc_Vip c.vips hv 270 a p r (isV a p r) (by kernel_rfl) (fun v _ => s_impl_Config_vip_1 v a p r)) ?_
 refine D ?_
 refine E ?_
 first
 | exact trivial
 | simp only [go_sem, findV]
theorem s_impl_Config_vipOf (c : Config) (hx : limG 2097152 c) (f : Flow) : SemX prog 151 [aT (.ptr (eConfig false c)), aS (eFlow f)] [] [rI (findV c.vips f.to_ f.toP f.proto)] [] := by
 refine goF [] [] [] func151 ?_
 refine D ?_
 refine kR (s_impl_Config_vip c hx f.to_ f.toP f.proto) ?_
 refine D ?_
 exact E trivial
theorem s_slices_Index_int64 (xs : List Int) (n : Int) (hl : xs.length ≤ 2097152) : SemX prog 264 [aT (.sl false 1 (xs.map eI_i64)), aI n] [] [rI (idxG (eqI n) xs)] [] := by
 refine goF [] [] [] func264 ?_
 refine D ?_
 refine L (α := Nat) (fun x => [(8, .int .i64 x)]) (fun x => []) (fun x => xs.length - x) (fun x => x ≤ xs.length ∧ ∀ j, j < x → eqI n (xs.getD j zI_i64) = false) 0 [] (fun x hL => ?_) (hi := by exact ⟨Nat.zero_le _, fun j hj => by omega⟩)
 obtain ⟨hx2, hno⟩ := hL
 refine D ?_
 refine cC (fun c0 => ?_) (fun c0 => ?_)
 · skip
   refine D ?_
   refine cC (fun c1 => ?_) (fun c1 => ?_)
   · skip
     refine D ?_
     refine E ?_
     rw [idxG_some zI_i64 (by omega) hno (by simp [-List.getD_eq_getElem?_getD, eqI]; omega)]
   · skip
     refine D ?_
     refine N (x+1) [] (hi := ?_) (hm := ?_)
     · refine ⟨by omega, fun j hj => ?_⟩
       rcases Nat.lt_or_ge j x with h | h
       · exact hno j h
       · obtain rfl : j = x := by omega
         first | exact c1 | (simpa [isB, isV, eqI] using c1) | (simp [isB, isV, eqI]; grind)
     · omega
 · skip
   obtain rfl : x = xs.length := by omega
   refine D ?_
   refine E ?_
   rw [idxG_none zI_i64 hno]
theorem s_slices_Contains_int64 (xs : List Int) (n : Int) (hl : xs.length ≤ 2097152) : SemX prog 202 [aT (.sl false 1 (xs.map eI_i64)), aI n] [] [rB (hasG (eqI n) xs)] [] := by
 refine goF [] [] [] func202 ?_
 refine D ?_
 refine kR (s_slices_Index_int64 xs n hl) ?_
 refine D ?_
 refine E ?_
 first
 | exact trivial
 | simp only [go_sem, hasG]
theorem s_impl_Config_serves (c : Config) (hx : limG 2097152 c) (P : CfP c) (f : Flow) (n : Int) : SemX prog 129 [aT (.ptr (eConfig false c)), aS (eFlow f), aI n] [] [rB (servesF c f n)] [] := by
 refine goF [] [] [] func129 ?_
 obtain ⟨hb, hv, hV⟩ := id hx
 have hfl : findV c.vips f.to_ f.toP f.proto < c.vips.length := idxG_bd _ _
 have hvl := limV_getD hV (findV c.vips f.to_ f.toP f.proto).toNat
 refine D ?_
 refine kR (s_impl_Config_vipOf c hx f) ?_
 refine D ?_
 refine kR (s_impl_Config_backend c hx n) ?_
 refine D ?_
 refine kRg (s_slices_Contains_int64 (c.vips.getD (findV c.vips f.to_ f.toP f.proto).toNat zVip).names n hvl) ?_
 refine D ?_
 refine E ?_
 first
 | exact trivial
 | have hfb : findB c.backends n < c.backends.length := idxG_bd _ _
   have hsv := servesF_eq P f n
   trace_state
   first | exact ⟨fun _ h _ => ⟨h, hfb⟩, hsv⟩ | exact ⟨fun _ _ h _ => ⟨h, hfb⟩, hsv⟩ | grind
section
attribute [local go_sem] List.take_length
theorem s_slices_IndexFunc_Held (R : List Held) (hl : R.length ≤ 2097152) (fn : Nat) (row : List T) (hrw : T.shrL row = row) (q : Held → Bool) (hq : callB prog fn = true) (hf : ∀ b : Held, b ∈ R → SemX prog fn [aS (eHeld b), aT (.ptr row)] [] [rB (q b)] []) : SemX prog 203 [aT (.sl false 7 (R.map eHeld)), .one (.fn fn [.t (.ptr row)])] [] [rI (idxG q R)] [] := by
 refine goF [] [] [] func203 ?_
 have hA := hrw
 refine D ?_
 refine L (α := Nat) (fun x => [(8, .int .i64 x)]) (fun x => []) (fun x => R.length - x) (fun x => x ≤ R.length ∧ ∀ j, j < x → q (R.getD j zHeld) = false) 0 [] (fun x hL => ?_) (hi := by exact ⟨Nat.zero_le _, fun j hj => by omega⟩)
 obtain ⟨hx2, hno⟩ := hL
 refine D ?_
 refine cC (fun c0 => ?_) (fun c0 => ?_)
 · skip
   refine D ?_
   refine kR (hf (R.getD x zHeld) (getD_mem zHeld (by omega))) ?_ hq
   refine D ?_
   refine cC (fun c1 => ?_) (fun c1 => ?_)
   · skip
     refine D ?_
     refine E ?_
     rw [idxG_some zHeld (by omega) hno c1]
   · skip
     refine D ?_
     refine N (x+1) [] (hi := ?_) (hm := ?_)
     · refine ⟨by omega, fun j hj => ?_⟩
       rcases Nat.lt_or_ge j x with h | h
       · exact hno j h
       · obtain rfl : j = x := by omega
         first | exact c1 | (simpa [isB, isV, eqI] using c1) | (simp [isB, isV, eqI]; grind)
     · omega
 · skip
   obtain rfl : x = R.length := by omega
   refine D ?_
   refine E ?_
   rw [idxG_none zHeld hno]
end
theorem s_slices_ContainsFunc_Held (R : List Held) (hl : R.length ≤ 2097152) (fn : Nat) (row : List T) (hrw : T.shrL row = row) (q : Held → Bool) (hq : callB prog fn = true) (hf : ∀ b : Held, b ∈ R → SemX prog fn [aS (eHeld b), aT (.ptr row)] [] [rB (q b)] []) : SemX prog 130 [aT (.sl false 7 (R.map eHeld)), .one (.fn fn [.t (.ptr row)])] [] [rB (hasG q R)] [] := by
 refine goF [] [] [] func130 ?_
 have hA := hrw
 refine D ?_
 refine kR (s_slices_IndexFunc_Held R hl fn row hrw q hq hf) ?_
 refine D ?_
 refine E ?_
 first
 | exact trivial
 | simp only [go_sem, hasG]
theorem s_impl_MuxFault_1 (b h : Held) : SemX prog 131 [aS (eHeld b), aT (.ptr (eHeld h))] [] [rB (eqF h.flow b)] [] := by
 refine goF [] [] [] func131 ?_
 refine D ?_
 refine E ?_
 first
 | exact trivial
 | simp only [go_sem, eqF]
theorem s_impl_MuxFault (m : Mux) (hm : limX 2097152 m) : SemX prog 62 [aS (eMux false m)] [] [rI (muxFault m)] [] := by
 refine goF [(144, ⟨some 1, none, none, none⟩)] [(7, 1, [8192], []), (7, 3, [8192], [122880]), (7, 4, [122880], [])] [] func62 ?_
 obtain ⟨hg, ht, htr, hc⟩ := id hm
 refine D ?_
 refine kR (s_impl_isAddress _) ?_
 refine D ?_
 refine kRg (s_impl_in _ _ _) ?_
 refine D ?_
 refine cC (fun c0 => ?_) (fun c0 => ?_)
 · skip
   refine D ?_
   refine E ?_
   first
   | exact trivial
   | unfold muxFault
     grind
 · skip
   have hnw : 0 ≤ m.now ∧ m.now ≤ 1000000000 := by
     have h_ := c0
     simp [inR] at h_
     omega
   refine D ?_
   refine kR (s_impl_WatchFault m.watch hg) ?_
   refine D ?_
   refine cC (fun c1 => ?_) (fun c1 => ?_)
   · skip
     refine D ?_
     refine E ?_
     first
     | exact trivial
     | unfold muxFault
       grind
   · skip
     have hw0 : watchFault m.watch = 0 := by omega
     have P := watch_p hw0
     obtain ⟨tl1, tl2⟩ := tab_lim P
     refine D ?_
     refine kD (s_impl_Config_tables m.watch.config hg P) ?_
     refine D ?_
     refine kD (s_slices_EqualFunc_int64 m.tables (tablesOf m.watch.config) ht tl1 htr tl2 127 (by kernel_rfl) (fun a b ha hb => s_slices_Equal_int64 a b ha hb)) ?_
     refine D ?_
     refine cC (fun c2 => ?_) (fun c2 => ?_)
     · skip
       refine D ?_
       refine E ?_
       first
       | exact trivial
       | unfold muxFault
         grind
     · skip
       refine D ?_
       refine cC (fun c3 => ?_) (fun c3 => ?_)
       · skip
         refine D ?_
         refine E ?_
         first
         | exact trivial
         | unfold muxFault
           grind
       · skip
         refine D ?_
         refine L (α := Nat) (fun i => [(40, .int .i64 i)]) (fun i => []) (fun i => m.cache.length - i) (fun i => i ≤ m.cache.length ∧ scan (heldBad m) m.cache.length 0 = scan (heldBad m) m.cache.length i) 0 [] (fun i hL => ?_) (hi := by exact ⟨Nat.zero_le _, rfl⟩)
         obtain ⟨hi2, hie⟩ := hL
         refine D ?_
         refine cC (fun c4 => ?_) (fun c4 => ?_)
         · skip
           have hst := scan_lt (f := heldBad m) (show i < m.cache.length by omega)
           have hd : heldBad m i = if !isFl (m.cache.getD i zHeld).flow || !inR (m.cache.getD i zHeld).seen 0 m.now then 3 else if servesF m.watch.config (m.cache.getD i zHeld).flow (m.cache.getD i zHeld).name = false then 4 else if 20 < m.now - (m.cache.getD i zHeld).seen then 9 else if hasG (eqF (m.cache.getD i zHeld).flow) (m.cache.take i) = true then 7 else 0 := rfl
           refine D ?_
           refine kR (s_impl_isFlow (m.cache.getD i zHeld).flow) ?_
           refine D ?_
           refine kRg (s_impl_in _ _ _) ?_
           refine D ?_
           refine cC (fun c5 => ?_) (fun c5 => ?_)
           · skip
             have hbz : heldBad m i = 3 := by rw [hd]; grind
             refine D ?_
             refine E ?_
             first
             | exact trivial
             | unfold muxFault
               grind
           · skip
             have hfs : isFl (m.cache.getD i zHeld).flow = true ∧ inR (m.cache.getD i zHeld).seen 0 m.now = true := by grind
             have hsn : 0 ≤ (m.cache.getD i zHeld).seen ∧ (m.cache.getD i zHeld).seen ≤ m.now := by have := hfs.2; simpa [inR] using this
             refine D ?_
             refine kR (s_impl_Config_serves m.watch.config hg P (m.cache.getD i zHeld).flow (m.cache.getD i zHeld).name) ?_
             refine D ?_
             refine cC (fun c6 => ?_) (fun c6 => ?_)
             · skip
               have hbz : heldBad m i = 4 := by rw [hd]; grind
               refine D ?_
               refine E ?_
               first
               | exact trivial
               | unfold muxFault
                 grind
             · skip
               have hsv : servesF m.watch.config (m.cache.getD i zHeld).flow (m.cache.getD i zHeld).name = true := by grind
               refine D ?_
               refine cC (fun c7 => ?_) (fun c7 => ?_)
               · skip
                 have hbz : heldBad m i = 9 := by rw [hd]; grind
                 refine D ?_
                 refine E ?_
                 first
                 | exact trivial
                 | unfold muxFault
                   grind
               · skip
                 refine D ?_
                 refine kR (s_slices_ContainsFunc_Held (m.cache.take i) (by rw [List.length_take]; omega) 131 (eHeld (m.cache.getD i zHeld)) rfl (eqF (m.cache.getD i zHeld).flow) (by kernel_rfl) (fun b _ => s_impl_MuxFault_1 b (m.cache.getD i zHeld))) ?_
                 refine D ?_
                 refine cC (fun c8 => ?_) (fun c8 => ?_)
                 · skip
                   have hbz : heldBad m i = 7 := by rw [hd]; grind
                   refine D ?_
                   refine E ?_
                   first
                   | exact trivial
                   | unfold muxFault
                     grind
                 · skip
                   have hbz : heldBad m i = 0 := by rw [hd]; grind
                   refine D ?_
                   refine N (i+1) [] (hi := ?_) (hm := ?_)
                   · refine ⟨by omega, ?_⟩
                     rw [hie, hst, if_pos hbz]
                   · omega
         · skip
           have hs0 : scan (heldBad m) m.cache.length 0 = 0 := by rw [hie, scan_ge (by omega)]
           refine D ?_
           refine E ?_
           first
           | exact trivial
           | unfold muxFault
             grind
theorem s_impl_needs (k : Int) : SemX prog 247 [aI k] [] [rB (nd1 k), rB (nd2 k), rB (nd3 k), rB (nd4 k)] [] := by
 refine goF [] [] [] func247 ?_
 refine D ?_
 refine kR (s_impl_in k 5 8) ?_
 refine D ?_
 refine kR (s_impl_in k 5 6) ?_
 refine D ?_
 refine E ?_
 first
 | exact trivial
 | simp only [go_sem, nd1, nd2, nd3, nd4, rB]; done
 | try simp only [go_sem, nd1, nd2, nd3, nd4, rB]
   simp
theorem s_impl_isNumber (x : Cmd) : SemX prog 249 [aS (eCmd x)] [] [rB (isNum x)] [] := by
 refine goF [] [] [] func249 ?_
 refine D ?_
 refine cC (fun c0 => ?_) (fun c0 => ?_)
 · skip
   refine D ?_
   refine cC (fun c1 => ?_) (fun c1 => ?_)
   · skip
     refine D ?_
     refine kR (s_impl_in _ _ _) ?_
     refine D ?_
     refine E ?_
     first
     | exact trivial
     | simp only [go_sem, isNum]; done
     | try simp only [go_sem, isNum]
       first | (exfalso; omega) | (simp [*]; done)
   · skip
     refine D ?_
     refine cC (fun c2 => ?_) (fun c2 => ?_)
     · skip
       refine D ?_
       refine kR (s_impl_in _ _ _) ?_
       refine D ?_
       refine E ?_
       first
       | exact trivial
       | simp only [go_sem, isNum]; done
       | try simp only [go_sem, isNum]
         first | (exfalso; omega) | (simp [*]; done)
     · skip
       refine D ?_
       refine cC (fun c3 => ?_) (fun c3 => ?_)
       · skip
         refine D ?_
         refine kR (s_impl_in _ _ _) ?_
         refine D ?_
         refine E ?_
         first
         | exact trivial
         | simp only [go_sem, isNum]; done
         | try simp only [go_sem, isNum]
           first | (exfalso; omega) | (simp [*]; done)
       · skip
         refine D ?_
         refine kR (s_impl_isPort _) ?_
         refine D ?_
         refine E ?_
         first
         | exact trivial
         | simp only [go_sem, isNum]; done
         | try simp only [go_sem, isNum]
           first | (exfalso; omega) | (simp [*]; done)
 · skip
   refine D ?_
   refine cC (fun c1 => ?_) (fun c1 => ?_)
   · skip
     refine D ?_
     refine kR (s_impl_in _ _ _) ?_
     refine D ?_
     refine E ?_
     first
     | exact trivial
     | simp only [go_sem, isNum]; done
     | try simp only [go_sem, isNum]
       first | (exfalso; omega) | (simp [*]; done)
   · skip
     refine D ?_
     refine cC (fun c2 => ?_) (fun c2 => ?_)
     · skip
       refine D ?_
       refine kR (s_impl_in _ _ _) ?_
       refine D ?_
       refine E ?_
       first
       | exact trivial
       | simp only [go_sem, isNum]; done
       | try simp only [go_sem, isNum]
         first | (exfalso; omega) | (simp [*]; done)
     · skip
       refine D ?_
       refine cC (fun c3 => ?_) (fun c3 => ?_)
       · skip
         refine D ?_
         refine kR (s_impl_in _ _ _) ?_
         refine D ?_
         refine E ?_
         first
         | exact trivial
         | simp only [go_sem, isNum]; done
         | try simp only [go_sem, isNum]
           first | (exfalso; omega) | (simp [*]; done)
       · skip
         refine D ?_
         refine kR (s_impl_isPort _) ?_
         refine D ?_
         refine E ?_
         first
         | exact trivial
         | simp only [go_sem, isNum]; done
         | try simp only [go_sem, isNum]
           first | (exfalso; omega) | (simp [*]; done)
section
attribute [local go_sem] exp_eq
theorem s_impl_CmdFault (x : Cmd) : SemX prog 181 [aS (eCmd x)] [] [rI (cmdFault x)] [] := by
 refine goF [] [] [] func181 ?_
 refine D ?_
 refine kR (s_impl_in _ _ _) ?_
 refine D ?_
 refine cC (fun c0 => ?_) (fun c0 => ?_)
 · skip
   refine D ?_
   refine E ?_
   first
   | exact trivial
   | simp only [go_sem, cmdFault]; done
   | try simp only [go_sem, cmdFault]
     grind
 · skip
   refine D ?_
   refine kR (s_impl_needs _) ?_
   refine D ?_
   refine kR (s_impl_in _ _ _) ?_
   refine D ?_
   refine kRg (s_impl_isName _) ?_
   refine D ?_
   refine kRg (s_impl_isAddress _) ?_
   refine D ?_
   refine kRg (s_impl_isNumber _) ?_
   refine D ?_
   refine kRg (s_impl_isProto _) ?_
   refine D ?_
   refine cC (fun c1 => ?_) (fun c1 => ?_)
   · skip
     refine D ?_
     refine E ?_
     first
     | exact trivial
     | simp only [go_sem, cmdFault]; done
     | try simp only [go_sem, cmdFault]
       grind
   · skip
     refine D ?_
     refine cC (fun c2 => ?_) (fun c2 => ?_)
     · skip
       refine D ?_
       refine E ?_
       first
       | exact trivial
       | simp only [go_sem, cmdFault]; done
       | try simp only [go_sem, cmdFault]
         grind
     · skip
       refine D ?_
       refine E ?_
       first
       | exact trivial
       | simp only [go_sem, cmdFault]; done
       | try simp only [go_sem, cmdFault]
         grind
end
theorem s_impl_EntryFault (x : Entry) : SemX prog 99 [aS (eEntry x)] [] [rI (entryFault x)] [] := by
 refine goF [] [] [] func99 ?_
 refine D ?_
 refine kR (s_impl_in _ _ _) ?_
 refine D ?_
 refine kRg (s_impl_in _ _ _) ?_
 refine D ?_
 refine kRg (s_impl_in _ _ _) ?_
 refine D ?_
 refine cC (fun c0 => ?_) (fun c0 => ?_)
 · skip
   refine D ?_
   refine E ?_
   first
   | exact trivial
   | simp only [go_sem, entryFault]; done
   | try simp only [go_sem, entryFault]
     simp only [entryFault, cmdZero]
     grind
 · skip
   refine D ?_
   refine cC (fun c1 => ?_) (fun c1 => ?_)
   · skip
     refine D ?_
     refine E ?_
     first
     | exact trivial
     | simp only [go_sem, entryFault]; done
     | try simp only [go_sem, entryFault]
       simp only [entryFault, cmdZero]
       grind
   · skip
     refine D ?_
     refine cC (fun c2 => ?_) (fun c2 => ?_)
     · skip
       refine D ?_
       refine kR (s_impl_CmdFault _) ?_
       refine D ?_
       refine E ?_
       first
       | exact trivial
       | simp only [go_sem, entryFault]; done
       | try simp only [go_sem, entryFault]
         simp only [entryFault, cmdZero]
         grind
     · skip
       refine D ?_
       refine cC (fun c3 => ?_) (fun c3 => ?_)
       · skip
         refine D ?_
         refine E ?_
         first
         | exact trivial
         | simp only [go_sem, entryFault]; done
         | try simp only [go_sem, entryFault]
           simp only [entryFault, cmdZero]
           grind
       · skip
         refine D ?_
         refine E ?_
         first
         | exact trivial
         | simp only [go_sem, entryFault]; done
         | try simp only [go_sem, entryFault]
           simp only [entryFault, cmdZero]
           grind
theorem s_impl_MachineFault (m : Machine) (hm : limM 2097152 m) : SemX prog 278 [aS (eMachine false m)] [] [rI (machineFault m)] [] := by
 refine goF [(102, ⟨some 1, none, none, none⟩)] [(11, 4, [24576], []), (11, 6, [8192], [])] [] func278 ?_
 have hs := hm.2
 refine D ?_
 refine kR (s_impl_ConfigFault m.config hm.1) ?_
 refine D ?_
 refine cC (fun c0 => ?_) (fun c0 => ?_)
 · skip
   refine D ?_
   refine E ?_
   first
   | exact trivial
   | unfold machineFault
     grind
 · skip
   refine D ?_
   refine cC (fun c1 => ?_) (fun c1 => ?_)
   · skip
     refine D ?_
     refine E ?_
     first
     | exact trivial
     | unfold machineFault
       grind
   · skip
     refine D ?_
     refine L (α := Nat) (fun i => [(19, .int .i64 i)]) (fun i => []) (fun i => m.sessions.length - i) (fun i => i ≤ m.sessions.length ∧ scan (seBad m.sessions) m.sessions.length 0 = scan (seBad m.sessions) m.sessions.length i) 0 [] (fun i hL => ?_) (hi := by exact ⟨Nat.zero_le _, rfl⟩)
     obtain ⟨hi2, hie⟩ := hL
     refine D ?_
     refine cC (fun c2 => ?_) (fun c2 => ?_)
     · skip
       have hst := scan_lt (f := seBad m.sessions) (show i < m.sessions.length by omega)
       have hd : seBad m.sessions i = if isSe (m.sessions.getD i zSession) = false then 3 else if 0 < i ∧ (m.sessions.getD i zSession).client ≤ (m.sessions.getD (i - 1) zSession).client then 1 else 0 := rfl
       unfold isSe at hd
       refine D ?_
       refine kR (s_impl_isName _) ?_
       refine D ?_
       refine kRg (s_impl_in _ _ _) ?_
       refine D ?_
       refine kRg (s_impl_in _ _ _) ?_
       refine D ?_
       refine cC (fun c3 => ?_) (fun c3 => ?_)
       · skip
         refine D ?_
         refine E ?_
         first
         | exact trivial
         | unfold machineFault
           grind
       · skip
         refine D ?_
         refine cC (fun c4 => ?_) (fun c4 => ?_)
         · skip
           refine D ?_
           refine E ?_
           first
           | exact trivial
           | unfold machineFault
             grind
         · skip
           refine D ?_
           refine N (i+1) [] (hi := ?_) (hm := ?_)
           · refine ⟨by omega, ?_⟩
             rw [hie, scan_lt (by omega), if_pos]
             unfold seBad isSe
             grind
           · omega
     · skip
       have hs0 : scan (seBad m.sessions) m.sessions.length 0 = 0 := by rw [hie, scan_ge (by omega)]
       refine D ?_
       refine E ?_
       first
       | exact trivial
       | unfold machineFault
         grind
theorem s_slices_Clone_int64 (xs : List Int) (hl : xs.length ≤ 2097152) : SemX prog 147 [aT (.sl false 1 (xs.map eI_i64))] [] [.one (.sl true 1 (xs.map eI_i64))] [] := by
 refine goF [] [] [] func147 ?_
 refine D ?_
 refine RW_isn (fun b => xs.map eI_i64 ≠ [] → b = false) rfl rfl (by simp only [go_sem] <;> and_intros <;> first | with_reducible exact rfl | omega | with_reducible trivial | (intros; simp_all; done) | grind) (fun b hb => ?_)
 refine D ?_
 refine cC (fun c0 => ?_) (fun c0 => ?_)
 · skip
   have hx : xs = [] := by
     cases xs with
     | nil => rfl
     | cons a l => have := hb (by simp); rw [this] at c0; cases c0
   subst hx
   refine D ?_
   exact E trivial
 · skip
   refine D ?_
   exact E trivial
theorem s_slices_Clone_Backend (xs : List Backend) (hl : xs.length ≤ 2097152) : SemX prog 212 [aT (.sl false 5 (xs.map eBackend))] [] [.one (.sl true 5 (xs.map eBackend))] [] := by
 refine goF [] [] [] func212 ?_
 refine D ?_
 refine RW_isn (fun b => xs.map eBackend ≠ [] → b = false) rfl rfl (by simp only [go_sem] <;> and_intros <;> first | with_reducible exact rfl | omega | with_reducible trivial | (intros; simp_all; done) | grind) (fun b hb => ?_)
 refine D ?_
 refine cC (fun c0 => ?_) (fun c0 => ?_)
 · skip
   have hx : xs = [] := by
     cases xs with
     | nil => rfl
     | cons a l => have := hb (by simp); rw [this] at c0; cases c0
   subst hx
   refine D ?_
   exact E trivial
 · skip
   refine D ?_
   exact E trivial
theorem s_slices_Clone_Vip (xs : List Vip) (hl : xs.length ≤ 2097152) : SemX prog 213 [aT (.sl false 4 (xs.map (eVip false)))] [] [.one (.sl true 4 (xs.map (eVip false)))] [] := by
 refine goF [] [] [] func213 ?_
 refine D ?_
 refine RW_isn (fun b => xs.map (eVip false) ≠ [] → b = false) rfl rfl (by simp only [go_sem] <;> and_intros <;> first | with_reducible exact rfl | omega | with_reducible trivial | (intros; simp_all; done) | grind) (fun b hb => ?_)
 refine D ?_
 refine cC (fun c0 => ?_) (fun c0 => ?_)
 · skip
   have hx : xs = [] := by
     cases xs with
     | nil => rfl
     | cons a l => have := hb (by simp); rw [this] at c0; cases c0
   subst hx
   refine D ?_
   exact E trivial
 · skip
   refine D ?_
   exact E trivial
theorem s_impl_Config_copied (c : Config) (hx : limG 2097152 c) : SemX prog 146 [aS (eConfig false c)] [] [.agg (eConfig true c)] [] := by
 refine goF [] [(1, 1, [8192], []), (1, 2, [], [32768]), (1, 4, [8192], []), (1, 5, [], [45056]), (1, 7, [8192], [8192]), (1, 9, [8192], [8192]), (5, 1, [8192], []), (5, 4, [20480], []), (5, 5, [45056], [110592]), (5, 6, [45056], []), (5, 8, [45056, 110592], [45056, 110592])] [] func146 ?_
 obtain ⟨hb, hv, hV⟩ := id hx
 refine D ?_
 refine kD (s_slices_Clone_Backend c.backends hb) ?_
 refine D ?_
 refine DW_callN (by kernel_rfl) (s_slices_Clone_Vip c.vips hv) false [] [] [] rfl rfl (by decide) trivial (by simp only [go_sem] <;> and_intros <;> first | with_reducible exact rfl | omega | with_reducible trivial | (intros; simp_all; done) | grind) (by first | rfl | (simp only [go_sem]; done)) (by simp only [go_sem]; exact rfl) ?_
 refine D ?_
 refine L (α := Nat) (fun i => [(16, .int .i64 i)]) (fun i => [(45056, .arr ⟨4, (c.vips.take i).map (eVip true) ++ (c.vips.drop i).map (eVip false), 1 + i, none⟩)]) (fun i => c.vips.length - i) (fun i => i ≤ c.vips.length) 0 [] (fun i hI => ?_)
 refine D ?_
 refine cC (fun c0 => ?_) (fun c0 => ?_)
 · skip
   have hg := mix_getD (eVip true) (eVip false) zVip (xs := c.vips) (i := i) (by omega)
   have hA := hg
   refine D ?_
   refine kD (s_slices_Clone_int64 (c.vips.getD i zVip).names (hV _ (getD_mem zVip (by omega)))) ?_
   refine D ?_
   refine lp_next (i+1) [] ?_ ?_ ?_
   · simp only [go_sem, hA] <;> and_intros <;> first | with_reducible exact rfl | (first | omega | (refine arr_eq ?_ (by omega); rw [← mix_set (eVip true) (eVip false) zVip (by omega)]; simp only [eVip]))
   · omega
   · omega
 · skip
   obtain rfl : i = c.vips.length := by omega
   refine D ?_
   refine E ?_
   first
   | exact trivial
   | rw [List.drop_length, List.map_nil, List.append_nil, List.take_of_length_le (by simp)]
theorem s_slices_insertionSortCmpFunc_Backend (R : List Backend) (b : Backend) (k : Nat) (fn : Nat) (cm : Backend → Backend → Int) (hq : callB prog fn = true) (hf : ∀ p q : Backend, SemX prog fn [aS (eBackend p), aS (eBackend q)] [] [rI (cm p q)] []) (hk : k ≤ R.length) (hl : R.length ≤ 11) (h1 : ∀ q, k ≤ q → q < R.length → cm b (R.getD q zBackend) < 0) (h2 : ∀ q, q < k → ¬ cm b (R.getD q zBackend) < 0) (h3 : ∀ i, 0 < i → i < R.length → ¬ cm (R.getD i zBackend) (R.getD (i - 1) zBackend) < 0) : SemX prog 322 [.one (.arr 0), aI 0, aI (R.length + 1), .one (.fn fn [])] [.arr 5 ((R ++ [b]).map eBackend)] [] [.arr 5 ((insAt R b k).map eBackend)] := by
 refine goF [] [(4, 7, [1000000], []), (4, 8, [1000000], []), (4, 12, [1000000], []), (4, 13, [1000000], []), (6, 8, [1000000], []), (6, 9, [1000000], []), (6, 12, [1000000], []), (6, 13, [1000000], []), (6, 14, [1000000], []), (6, 15, [1000000], [1000000]), (6, 16, [1000000], []), (6, 17, [1000000], [1000000])] [] func322 ?_
 refine D ?_
 refine L (α := Nat) (fun x => [(8, .int .i64 x)]) (fun x => [(1000000, .arr ⟨5, (rowO R b k x).map eBackend, verO R k x, none⟩)]) (fun x => R.length + 1 - x) (fun x => 1 ≤ x ∧ x ≤ R.length + 1) 1 [] (fun x hL => ?_) (by simp only [go_sem] <;> and_intros <;> first | with_reducible exact rfl | (first | omega | (refine arr_eq ?_ ?_ <;> simp only [rowO_one R b hk, verO_one R hk]; done))) (by exact ⟨by omega, by omega⟩)
 obtain ⟨hx1, hx2⟩ := hL
 refine D ?_
 refine cC (fun c0 => ?_) (fun c0 => ?_)
 · skip
   have hxl : x ≤ R.length := by omega
   refine D ?_
   refine L (α := Nat) (fun j => [(9, .int .i64 j)]) (fun j => [(1000000, .arr ⟨5, (rowI R b x j).map eBackend, 1 + 2 * (x - j), none⟩)]) (fun j => j) (fun j => j ≤ x ∧ (x < R.length → j = x) ∧ (x = R.length → k ≤ j)) x [] (fun j hL => ?_) (by simp only [go_sem] <;> and_intros <;> first | with_reducible exact rfl | (first | omega | (refine arr_eq (by rw [rowO_in R b k hxl, rowI_self R b hxl]) (by have := verO_in R k hxl; omega)))) (by exact ⟨Nat.le_refl _, fun _ => rfl, fun h => by omega⟩)
   obtain ⟨hj, hjx, hkj⟩ := hL
   refine D ?_
   refine kDg (hf ((rowI R b x j).getD j zBackend) ((rowI R b x j).getD (j - 1) zBackend)) ?_ hq
   refine D ?_
   refine cC (fun c1 => ?_) (fun c1 => ?_)
   · skip
     have hc : 0 < j ∧ cm ((rowI R b x j).getD j zBackend) ((rowI R b x j).getD (j - 1) zBackend) < 0 := by simpa using c1
     have hgo := rowI_go zBackend hxl hj h3 hjx h2 hc
     have hg : ∀ r, (((rowI R b x j).map eBackend).set j r).getD (j - 1) dBackend = eBackend (((rowI R b x j).getD (j - 1) zBackend)) := fun r => by
       rw [List.getD_eq_getElem?_getD, List.getElem?_set_ne (by omega), ← List.getD_eq_getElem?_getD]
       simp only [go_sem]
     have hA := hg
     refine D ?_
     refine lp_next (j - 1) [] ?_ ?_ ?_
     · simp only [go_sem, hA] <;> and_intros <;> first | with_reducible exact rfl | (first | omega | (refine int_eq ?_; omega) | (refine arr_eq (by simpa only [eBackend] using rowI_swap eBackend R b zBackend hgo.1 hj hc.1) (by omega)))
     · exact ⟨by omega, fun h => by omega, fun h => by omega⟩
     · omega
   · skip
     have hc : ¬ (0 < j ∧ cm ((rowI R b x j).getD j zBackend) ((rowI R b x j).getD (j - 1) zBackend) < 0) := by simpa using c1
     have hend := rowI_end zBackend hxl hj h1 hkj hc
     refine D ?_
     refine lp_next (x+1) [] ?_ ?_ ?_
     · simp only [go_sem] <;> and_intros <;> first | with_reducible exact rfl | (first | omega | (refine int_eq ?_; omega) | (refine arr_eq ?_ ?_ <;> first | rw [hend.1] | (unfold verO; split <;> omega)))
     · omega
     · omega
 · skip
   obtain rfl : x = R.length + 1 := by omega
   refine D ?_
   refine E ?_
   first
   | exact trivial
   | rw [rowO_out]
theorem s_slices_pdqsortCmpFunc_Backend (R : List Backend) (b : Backend) (k : Nat) (fn : Nat) (cm : Backend → Backend → Int) (hq : callB prog fn = true) (hf : ∀ p q : Backend, SemX prog fn [aS (eBackend p), aS (eBackend q)] [] [rI (cm p q)] []) (hk : k ≤ R.length) (hl : R.length ≤ 11) (h1 : ∀ q, k ≤ q → q < R.length → cm b (R.getD q zBackend) < 0) (h2 : ∀ q, q < k → ¬ cm b (R.getD q zBackend) < 0) (h3 : ∀ i, 0 < i → i < R.length → ¬ cm (R.getD i zBackend) (R.getD (i - 1) zBackend) < 0) (lim : Int) : SemX prog 312 [.one (.arr 0), aI 0, aI (R.length + 1), aI lim, .one (.fn fn [])] [.arr 5 ((R ++ [b]).map eBackend)] [] [.arr 5 ((insAt R b k).map eBackend)] := by
 refine goF [] [] [] func312 ?_
 refine D ?_
 refine L (α := Nat) (fun x => []) (fun x => []) (fun x => 0) (fun x => True) 0 [] (fun x hI => ?_) (hi := by trivial)
 refine D ?_
 refine cC (fun c0 => ?_) (fun c0 => ?_)
 · skip
   refine D ?_
   refine kRk [1000000] [] [] (s_slices_insertionSortCmpFunc_Backend R b k fn cm hq hf hk hl h1 h2 h3) ?_
   refine D ?_
   exact E trivial
 · skip
   omega
theorem s_math_bits_Len64 (n : Nat) (hn : n ≤ 12) : SemX prog 331 [.one (.t (.int .u64 n))] [] [rI (if n = 0 then 0 else if n < 2 then 1 else if n < 4 then 2 else if n < 8 then 3 else 4 : Int)] [] := by
 refine goF [] [] [] func331 ?_
 refine D ?_
 refine cC (fun c0 => ?_) (fun c0 => ?_)
 · skip
   exfalso
   omega
 · skip
   refine D ?_
   refine cC (fun c1 => ?_) (fun c1 => ?_)
   · skip
     exfalso
     omega
   · skip
     refine D ?_
     refine cC (fun c2 => ?_) (fun c2 => ?_)
     · skip
       exfalso
       omega
     · skip
       refine D ?_
       refine E ?_
       rcases (by omega : n = 0 ∨ n = 1 ∨ n = 2 ∨ n = 3 ∨ n = 4 ∨ n = 5 ∨ n = 6 ∨ n = 7 ∨ n = 8 ∨ n = 9 ∨ n = 10 ∨ n = 11 ∨ n = 12) with rfl | rfl | rfl | rfl | rfl | rfl | rfl | rfl | rfl | rfl | rfl | rfl | rfl
       all_goals exact ⟨by decide, ⟨by decide, by decide⟩, rfl⟩
theorem s_math_bits_Len (n : Nat) (hn : n ≤ 12) : SemX prog 313 [.one (.t (.int .u64 n))] [] [rI (if n = 0 then 0 else if n < 2 then 1 else if n < 4 then 2 else if n < 8 then 3 else 4 : Int)] [] := by
 refine goF [] [] [] func313 ?_
 refine D ?_
 refine cF ?_
 refine D ?_
 refine kR (s_math_bits_Len64 n hn) ?_
 refine D ?_
 exact E trivial
theorem s_slices_SortFunc_Backend (R : List Backend) (b : Backend) (k : Nat) (fn : Nat) (cm : Backend → Backend → Int) (hq : callB prog fn = true) (hf : ∀ p q : Backend, SemX prog fn [aS (eBackend p), aS (eBackend q)] [] [rI (cm p q)] []) (hk : k ≤ R.length) (hl : R.length ≤ 11) (h1 : ∀ q, k ≤ q → q < R.length → cm b (R.getD q zBackend) < 0) (h2 : ∀ q, q < k → ¬ cm b (R.getD q zBackend) < 0) (h3 : ∀ i, 0 < i → i < R.length → ¬ cm (R.getD i zBackend) (R.getD (i - 1) zBackend) < 0) : SemX prog 305 [.one (.arr 0), .one (.fn fn [])] [.arr 5 ((R ++ [b]).map eBackend)] [] [.arr 5 ((insAt R b k).map eBackend)] := by
 refine goF [] [] [] func305 ?_
 have hwu : IntKind.u64.wrap ((R.length : Int) + 1) = (R.length : Int) + 1 := by
   have := wrap_u (R.length + 1) (by omega)
   simpa using this
 have hA := hwu
 refine D ?_
 refine kR (s_math_bits_Len (R.length + 1) (by omega)) ?_
 refine D ?_
 refine kRk [1000000] [] [] (s_slices_pdqsortCmpFunc_Backend R b k fn cm hq hf hk hl h1 h2 h3 (if (R.length + 1) = 0 then 0 else if (R.length + 1) < 2 then 1 else if (R.length + 1) < 4 then 2 else if (R.length + 1) < 8 then 3 else 4 : Int)) ?_
 refine D ?_
 exact E trivial
theorem s_impl_Config_does_1 (p q : Backend) : SemX prog 306 [aS (eBackend p), aS (eBackend q)] [] [rI (cmpB p q)] [] := by
 refine goF [] [] [] func306 ?_
 refine D ?_
 refine kR (s_cmp_Compare_int64 p.name q.name) ?_
 refine D ?_
 refine E ?_
 first
 | exact trivial
 | simp only [go_sem, cmpB]
section
attribute [local go_sem] eRV
theorem s_slices_insertionSortCmpFunc_Vip (R : List RVp) (b : RVp) (k : Nat) (fn : Nat) (cm : RVp → RVp → Int) (hq : callB prog fn = true) (hf : ∀ p q : RVp, SemX prog fn [aS (eRV p), aS (eRV q)] [] [rI (cm p q)] []) (hk : k ≤ R.length) (hl : R.length ≤ 11) (h1 : ∀ q, k ≤ q → q < R.length → cm b (R.getD q zRV) < 0) (h2 : ∀ q, q < k → ¬ cm b (R.getD q zRV) < 0) (h3 : ∀ i, 0 < i → i < R.length → ¬ cm (R.getD i zRV) (R.getD (i - 1) zRV) < 0) : SemX prog 332 [.one (.arr 0), aI 0, aI (R.length + 1), .one (.fn fn [])] [.arr 4 ((R ++ [b]).map eRV)] [] [.arr 4 ((insAt R b k).map eRV)] := by
 refine goF [(54, ⟨none, none, some (90001, true), none⟩), (64, ⟨none, none, some (90001, true), none⟩), (94, ⟨none, none, some (90001, true), none⟩), (102, ⟨none, none, some (90001, true), none⟩), (105, ⟨none, none, some (90001, true), none⟩), (107, ⟨none, none, some (90001, true), none⟩)] [(4, 7, [1000000], []), (4, 8, [1000000], []), (4, 12, [1000000], []), (4, 13, [1000000], []), (4, 14, [1000000], []), (6, 8, [1000000], []), (6, 9, [1000000], []), (6, 12, [1000000], []), (6, 13, [1000000], []), (6, 14, [1000000], []), (6, 15, [1000000], [1000000]), (6, 16, [1000000], []), (6, 17, [1000000], [1000000])] [] func332 ?_
 refine D ?_
 refine L (α := Nat) (fun x => [(8, .int .i64 x)]) (fun x => [(1000000, .arr ⟨4, (rowO R b k x).map eRV, verO R k x, none⟩)]) (fun x => R.length + 1 - x) (fun x => 1 ≤ x ∧ x ≤ R.length + 1) 1 [] (fun x hL => ?_) (by simp only [go_sem] <;> and_intros <;> first | with_reducible exact rfl | (first | omega | (refine arr_eq ?_ ?_ <;> simp only [rowO_one R b hk, verO_one R hk]; done))) (by exact ⟨by omega, by omega⟩)
 obtain ⟨hx1, hx2⟩ := hL
 refine D ?_
 refine cC (fun c0 => ?_) (fun c0 => ?_)
 · skip
   have hxl : x ≤ R.length := by omega
   refine D ?_
   refine L (α := Nat) (fun j => [(9, .int .i64 j)]) (fun j => [(1000000, .arr ⟨4, (rowI R b x j).map eRV, 1 + 2 * (x - j), none⟩)]) (fun j => j) (fun j => j ≤ x ∧ (x < R.length → j = x) ∧ (x = R.length → k ≤ j)) x [] (fun j hL => ?_) (by simp only [go_sem] <;> and_intros <;> first | with_reducible exact rfl | (first | omega | (refine arr_eq (by rw [rowO_in R b k hxl, rowI_self R b hxl]) (by have := verO_in R k hxl; omega)))) (by exact ⟨Nat.le_refl _, fun _ => rfl, fun h => by omega⟩)
   obtain ⟨hj, hjx, hkj⟩ := hL
   refine D ?_
   refine kDg (hf ((rowI R b x j).getD j zRV) ((rowI R b x j).getD (j - 1) zRV)) ?_ hq
   refine D ?_
   refine cC (fun c1 => ?_) (fun c1 => ?_)
   · skip
     have hc : 0 < j ∧ cm ((rowI R b x j).getD j zRV) ((rowI R b x j).getD (j - 1) zRV) < 0 := by simpa using c1
     have hgo := rowI_go zRV hxl hj h3 hjx h2 hc
     have hg : ∀ r, (((rowI R b x j).map eRV).set j r).getD (j - 1) dRV = eRV (((rowI R b x j).getD (j - 1) zRV)) := fun r => by
       rw [List.getD_eq_getElem?_getD, List.getElem?_set_ne (by omega), ← List.getD_eq_getElem?_getD]
       simp only [go_sem]
     have hA := hg
     refine D ?_
     refine lp_next (j - 1) [] ?_ ?_ ?_
     · simp only [go_sem, hA] <;> and_intros <;> first | with_reducible exact rfl | (first | omega | (refine int_eq ?_; omega) | (refine arr_eq (by simpa only [eRV] using rowI_swap eRV R b zRV hgo.1 hj hc.1) (by omega)))
     · exact ⟨by omega, fun h => by omega, fun h => by omega⟩
     · omega
   · skip
     have hc : ¬ (0 < j ∧ cm ((rowI R b x j).getD j zRV) ((rowI R b x j).getD (j - 1) zRV) < 0) := by simpa using c1
     have hend := rowI_end zRV hxl hj h1 hkj hc
     refine D ?_
     refine lp_next (x+1) [] ?_ ?_ ?_
     · simp only [go_sem] <;> and_intros <;> first | with_reducible exact rfl | (first | omega | (refine int_eq ?_; omega) | (refine arr_eq ?_ ?_ <;> first | rw [hend.1] | (unfold verO; split <;> omega)))
     · omega
     · omega
 · skip
   obtain rfl : x = R.length + 1 := by omega
   refine D ?_
   refine E ?_
   first
   | exact trivial
   | rw [rowO_out]
end
section
attribute [local go_sem] eRV
theorem s_slices_pdqsortCmpFunc_Vip (R : List RVp) (b : RVp) (k : Nat) (fn : Nat) (cm : RVp → RVp → Int) (hq : callB prog fn = true) (hf : ∀ p q : RVp, SemX prog fn [aS (eRV p), aS (eRV q)] [] [rI (cm p q)] []) (hk : k ≤ R.length) (hl : R.length ≤ 11) (h1 : ∀ q, k ≤ q → q < R.length → cm b (R.getD q zRV) < 0) (h2 : ∀ q, q < k → ¬ cm b (R.getD q zRV) < 0) (h3 : ∀ i, 0 < i → i < R.length → ¬ cm (R.getD i zRV) (R.getD (i - 1) zRV) < 0) (lim : Int) : SemX prog 314 [.one (.arr 0), aI 0, aI (R.length + 1), aI lim, .one (.fn fn [])] [.arr 4 ((R ++ [b]).map eRV)] [] [.arr 4 ((insAt R b k).map eRV)] := by
 refine goF [] [] [] func314 ?_
 refine D ?_
 refine L (α := Nat) (fun x => []) (fun x => []) (fun x => 0) (fun x => True) 0 [] (fun x hI => ?_) (hi := by trivial)
 refine D ?_
 refine cC (fun c0 => ?_) (fun c0 => ?_)
 · skip
   refine D ?_
   refine kRk [1000000] [] [] (s_slices_insertionSortCmpFunc_Vip R b k fn cm hq hf hk hl h1 h2 h3) ?_
   refine D ?_
   exact E trivial
 · skip
   omega
end
section
attribute [local go_sem] eRV
theorem s_slices_SortFunc_Vip_raw (R : List RVp) (b : RVp) (k : Nat) (fn : Nat) (cm : RVp → RVp → Int) (hq : callB prog fn = true) (hf : ∀ p q : RVp, SemX prog fn [aS (eRV p), aS (eRV q)] [] [rI (cm p q)] []) (hk : k ≤ R.length) (hl : R.length ≤ 11) (h1 : ∀ q, k ≤ q → q < R.length → cm b (R.getD q zRV) < 0) (h2 : ∀ q, q < k → ¬ cm b (R.getD q zRV) < 0) (h3 : ∀ i, 0 < i → i < R.length → ¬ cm (R.getD i zRV) (R.getD (i - 1) zRV) < 0) : SemX prog 307 [.one (.arr 0), .one (.fn fn [])] [.arr 4 ((R ++ [b]).map eRV)] [] [.arr 4 ((insAt R b k).map eRV)] := by
 refine goF [] [] [] func307 ?_
 have hwu : IntKind.u64.wrap ((R.length : Int) + 1) = (R.length : Int) + 1 := by
   have := wrap_u (R.length + 1) (by omega)
   simpa using this
 have hA := hwu
 refine D ?_
 refine kR (s_math_bits_Len (R.length + 1) (by omega)) ?_
 refine D ?_
 refine kRk [1000000] [] [] (s_slices_pdqsortCmpFunc_Vip R b k fn cm hq hf hk hl h1 h2 h3 (if (R.length + 1) = 0 then 0 else if (R.length + 1) < 2 then 1 else if (R.length + 1) < 4 then 2 else if (R.length + 1) < 8 then 3 else 4 : Int)) ?_
 refine D ?_
 exact E trivial
end
theorem s_slices_SortFunc_Vip (R : List Vip) (b : Vip) (k : Nat) (fn : Nat) (cm : Vip → Vip → Int) (hq : callB prog fn = true) (hf : ∀ p q : RVp, SemX prog fn [aS (eRV p), aS (eRV q)] [] [rI (cm p.1 q.1)] []) (hk : k ≤ R.length) (hl : R.length ≤ 11) (h1 : ∀ q, k ≤ q → q < R.length → cm b (R.getD q zVip) < 0) (h2 : ∀ q, q < k → ¬ cm b (R.getD q zVip) < 0) (h3 : ∀ i, 0 < i → i < R.length → ¬ cm (R.getD i zVip) (R.getD (i - 1) zVip) < 0) : SemX prog 307 [.one (.arr 0), .one (.fn fn [])] [.arr 4 ((R ++ [b]).map (eVip true))] [] [.arr 4 ((insAt R b k).map (eVip true))] := by
  refine SemX_rawVip fun R' b' e1 e2 => ?_
  subst e1 e2
  simp only [List.length_map] at hk hl h1 h3
  simp only [fst_RV] at h1 h2 h3
  exact s_slices_SortFunc_Vip_raw R' b' k fn (fun p q => cm p.1 q.1) hq hf hk hl h1 h2 h3
theorem s_slices_Delete_Vip (R : List (List T)) (i j : Nat) (hij : i < j) (hj : j ≤ R.length) (hl : R.length ≤ 2097152) (hs : cpRows none (R.drop j) = True) (hn : T.noShR (R.take i ++ R.drop j) = True) : SemX prog 308 [.one (.t (.sl true 4 R)), aI i, aI j] [] [.one (.sl true 4 (R.take i ++ R.drop j))] [] := by
 refine goF [(54, ⟨some 7, none, none, none⟩)] [(5, 2, [0], []), (5, 5, [0], []), (5, 6, [0], [0])] [] func308 ?_
 have hA := hs
 refine D ?_
 refine cC (fun c0 => ?_) (fun c0 => ?_)
 · skip
   omega
 · skip
   refine D ?_
   refine E ?_
   rw [if_pos (by omega)]
   exact ⟨congrArg (fun r => [TV.one (T.sl true 4 r)]) (del_rowsR R (by omega) hj _ _ _), rfl, rfl⟩
theorem s_cmp_Less_int64 (a b : Int) : SemX prog 340 [aI a, aI b] [] [rB (decide (a < b))] [] := by
 refine goF [] [] [] func340 ?_
 refine D ?_
 refine kR (s_cmp_isNaN_int64 _) ?_
 refine D ?_
 refine kRg (s_cmp_isNaN_int64 _) ?_
 refine D ?_
 exact E trivial
theorem s_slices_isNaN_int64 (a : Int) : SemX prog 341 [aI a] [] [rB false] [] := by
 refine goF [] [] [] func341 ?_
 refine D ?_
 exact E trivial
theorem s_slices_BinarySearch_int64 (xs : List Int) (v : Int) (hr : rises xs) (hl : xs.length ≤ 2097152) : SemX prog 315 [aT (.sl false 1 (xs.map eI_i64)), aI v] [] [rI (lbn xs v), rB (hasI xs v)] [] := by
 refine goF [] [] [] func315 ?_
 refine D ?_
 refine L (α := Nat × Nat) (fun p => [(7, .int .i64 p.1), (8, .int .i64 p.2)]) (fun p => []) (fun p => p.2 - p.1) (fun p => p.1 ≤ p.2 ∧ p.2 ≤ xs.length ∧ (∀ q, q < p.1 → xs.getD q zI_i64 < v) ∧ (∀ q, p.2 ≤ q → q < xs.length → v ≤ xs.getD q zI_i64)) (0, xs.length) [] (fun x0 hL => ?_) (hi := by exact ⟨Nat.zero_le _, Nat.le_refl _, fun q h => by omega, fun q h1 h2 => by omega⟩)
 obtain ⟨i, j⟩ := x0
 obtain ⟨hij, hj, hlo, hup⟩ := hL
 try dsimp only at *
 refine D ?_
 refine cC (fun c0 => ?_) (fun c0 => ?_)
 · skip
   have hhf := half_nat i j (by omega)
   have hw1 : IntKind.u64.wrap ((i : Int) + j) = i + j := by have := wrap_u (i + j) (by omega); simpa using this
   have hw2 : IntKind.i64.wrap (((i + j) / 2 : Nat) : Int) = ((i + j) / 2 : Nat) := wrap_small (by omega) (by omega)
   have hA := And.intro hhf (And.intro hw1 (hw2))
   refine D ?_
   refine kR (s_cmp_Less_int64 _ _) ?_
   refine D ?_
   refine cC (fun c1 => ?_) (fun c1 => ?_)
   · skip
     refine D ?_
     refine N ((i + j) / 2 + 1, j) [] (hi := ?_) (hm := ?_)
     · dsimp only
       refine ⟨by omega, by omega, fun q hq => ?_, hup⟩
       by_cases e : q = (i + j) / 2
       · subst e; exact c1
       · have := rises_lt hr (i := q) (j := (i + j) / 2) (by omega) (by omega); omega
     · try dsimp only
       omega
   · skip
     refine D ?_
     refine N (i, (i + j) / 2) [] (hi := ?_) (hm := ?_)
     · dsimp only
       refine ⟨by omega, by omega, hlo, fun q h1 h2 => ?_⟩
       by_cases e : q = (i + j) / 2
       · subst e; omega
       · have := rises_lt hr (i := (i + j) / 2) (j := q) (by omega) (by omega); omega
     · try dsimp only
       omega
 · skip
   refine D ?_
   refine kRg (s_slices_isNaN_int64 _) ?_
   refine D ?_
   refine kRg (s_slices_isNaN_int64 _) ?_
   refine D ?_
   refine E ?_
   first
   | exact trivial
   | have hb : lbn xs v = i := lbn_eq (by omega) hlo (fun h => hup i (by omega) h)
     simp [hasI, hb]
theorem s_slices_Delete_int64 (R : List (List T)) (i j : Nat) (hij : i < j) (hj : j ≤ R.length) (hl : R.length ≤ 2097152) (hs : cpRows none (R.drop j) = True) (hn : T.noShR (R.take i ++ R.drop j) = True) : SemX prog 316 [.one (.t (.sl true 1 R)), aI i, aI j] [] [.one (.sl true 1 (R.take i ++ R.drop j))] [] := by
 refine goF [(54, ⟨some 7, none, none, none⟩)] [(5, 2, [0], []), (5, 5, [0], []), (5, 6, [0], [0])] [] func316 ?_
 have hA := hs
 refine D ?_
 refine cC (fun c0 => ?_) (fun c0 => ?_)
 · skip
   omega
 · skip
   refine D ?_
   refine E ?_
   rw [if_pos (by omega)]
   exact ⟨congrArg (fun r => [TV.one (T.sl true 1 r)]) (del_rowsR R (by omega) hj _ _ _), rfl, rfl⟩
theorem s_slices_Insert_int64 (R V : List (List T)) (i : Nat) (hi : i ≤ R.length) (hv : 1 ≤ V.length) (hl : R.length + V.length ≤ 2097152) (fR : ∀ r ∈ R, ∀ t ∈ r, t.flat = true) (fV : ∀ r ∈ V, ∀ t ∈ r, t.flat = true) : SemX prog 317 [.one (.t (.sl true 1 R)), aI i, .one (.t (.sl true 1 V))] [] [.one (.sl true 1 (R.take i ++ V ++ R.drop i))] [] := by
 refine goFC 0 [(82, ⟨none, none, some (2, true), none⟩), (110, ⟨some 10, none, none, none⟩), (156, ⟨some 10, none, none, none⟩)] [(11, 4, [167936], []), (11, 7, [0], []), (11, 8, [167936, 0], [167936]), (15, 4, [0], []), (15, 7, [0], []), (15, 8, [0], [0])] [] func317 (fun cp hcp hcp2 => ?_)
 have hcp3 : R.length ≤ cp := hcp
 have hcV : cpRows (some (0, 0)) V = True := eq_true fV
 have hcT : cpRows (some (0, 0)) (List.take i R) = True := eq_true fun r hr => fR r (List.mem_of_mem_take hr)
 have hcD : cpRows (some (0, 0)) (List.drop i R) = True := eq_true fun r hr => fR r (List.mem_of_mem_drop hr)
 have hX1 : List.take i (R ++ roomR 1 (cp - R.length)) = List.take i R := List.take_append_of_le_length hi
 have hX2 : List.take R.length (R ++ roomR 1 (cp - R.length)) = R := List.take_left' rfl
 have hX3 : List.take (R.length - i) (List.drop i (R ++ roomR 1 (cp - R.length))) = List.drop i R := by rw [List.drop_append_of_le_length hi]; exact List.take_left' (by simp)
 have hA := And.intro hcV (And.intro hcT (And.intro hcD (And.intro hX1 (And.intro hX2 (hX3)))))
 refine D ?_
 refine cC (fun c0 => ?_) (fun c0 => ?_)
 · skip
   omega
 · skip
   refine D ?_
   refine cC (fun c1 => ?_) (fun c1 => ?_)
   · skip
     refine D ?_
     refine E ?_
     obtain rfl : i = R.length := by omega
     simp [List.take_of_length_le]
   · skip
     refine D ?_
     refine cC (fun c2 => ?_) (fun c2 => ?_)
     · skip
       refine D ?_
       refine E ?_
       rw [if_pos (by omega)]
       exact ⟨congrArg (fun r => [TV.one (T.sl true 1 r)]) (ins_grow (by omega) (by omega) (by omega) (by omega) (by omega)), rfl, rfl⟩
     · skip
       refine D ?_
       refine kOv (⟨_, 170, 4, 2, 1, func342, by kernel_rfl, by kernel_rfl, by kernel_rfl, by kernel_rfl, by kernel_rfl, by kernel_rfl⟩ : OvlOk prog 342) ?_
       refine D ?_
       refine cT ?_
       refine D ?_
       refine E ?_
       rw [if_pos (by omega)]
       exact ⟨congrArg (fun r => [TV.one (T.sl true 1 r)]) (ins_room (by omega) (by simp [roomR_len]; omega) (by omega) (by omega) (by omega) (by omega) (by omega)), rfl, rfl⟩
theorem s_rise_I (xs : List Int) (v : Int) (hl : xs.length + 1 ≤ 2097152) (h : hasI xs v = false) : SemX prog 317 [.one (.t (.sl true 1 (xs.map eI_i64))), aI (lbn xs v), .one (.t (.sl true 1 [[.int .i64 v]]))] [] [.one (.sl true 1 ((riseL xs v).map eI_i64))] [] := by
  have := s_slices_Insert_int64 (xs.map eI_i64) [[.int .i64 v]] (lbn xs v) (by simpa using lbn_le xs v) (by simp) (by simpa using hl) (flat_I xs) (by simp [T.flat])
  rwa [← riseL_no h] at this
section
attribute [local go_sem] List.set_set
theorem s_impl_Config_tie (c : Config) (hx1 : limG 2097151 c) (K : CfOk c) (x_ : Cmd) (hkd : x_.kind = 7 ∨ x_.kind = 8) : SemX prog 309 [.one (.ptr 0 0), aS (eCmd x_), aI (findB c.backends x_.name), aI (findV c.vips x_.addr x_.number x_.proto)] [.var (eConfig true c)] [rI (turnV c x_).1] [.var (eConfig true (turnV c x_).2)] := by
 refine goF [(132, ⟨some 2, some 270336, none, none⟩), (70, ⟨some 2, some 143360, none, none⟩), (138, ⟨some 1, none, none, none⟩)] [(4, 3, [1000003], []), (4, 5, [24576], []), (4, 6, [1000003], []), (5, 4, [1000003], [1000003, 143360]), (5, 7, [24576], []), (5, 8, [], [159744]), (5, 9, [143360, 159744], [143360, 159744, 163840]), (5, 12, [1000003, 163840], [1000003, 163840])] [] func309 ?_
 have hx : limG 2097152 c := limG_mono (by omega) hx1
 obtain ⟨hb, hv, hV⟩ := id hx
 refine D ?_
 refine cC (fun c0 => ?_) (fun c0 => ?_)
 · skip
   refine D ?_
   refine E ?_
   have he : turnV c x_ = (4, c) := by unfold turnV; grind
   simp [he]
 · skip
   have hfn : ¬ findV c.vips x_.addr x_.number x_.proto < 0 := by omega
   obtain ⟨n, hfv, hnl, hnq, hnb⟩ : ∃ n : Nat, findV c.vips x_.addr x_.number x_.proto = n ∧ n < c.vips.length ∧ isV x_.addr x_.number x_.proto (c.vips.getD n zVip) = true ∧ ∀ j, j < n → isV x_.addr x_.number x_.proto (c.vips.getD j zVip) = false := idxG_lt zVip hfn
   have hva : vAt c x_ = n := by unfold vAt; omega
   have hnm : (c.vips.getD n zVip).names.length ≤ 2097152 := limV_getD hV n
   have hrs := K.nr n hnl
   have hhi := hasI_eq hrs x_.name
   have hnm1 : (c.vips.getD n zVip).names.length ≤ 2097151 := hx1.2.2 _ (getD_mem zVip hnl)
   have hA := hfv
   refine D ?_
   refine kD (s_slices_BinarySearch_int64 (c.vips.getD n zVip).names x_.name hrs hnm) ?_
   refine D ?_
   refine cC (fun c1 => ?_) (fun c1 => ?_)
   · skip
     refine D ?_
     refine cC (fun c2 => ?_) (fun c2 => ?_)
     · skip
       refine D ?_
       refine E ?_
       have he : turnV c x_ = (4, c) := by unfold turnV; grind
       simp [he]
     · skip
       exfalso
       grind
   · skip
     refine D ?_
     refine cC (fun c2 => ?_) (fun c2 => ?_)
     · skip
       refine D ?_
       refine E ?_
       have he : turnV c x_ = (4, c) := by unfold turnV; grind
       simp [he]
     · skip
       refine D ?_
       refine cC (fun c3 => ?_) (fun c3 => ?_)
       · skip
         have h8 : hasI (c.vips.getD n zVip).names x_.name = true := by grind
         have hlb : lbn (c.vips.getD n zVip).names x_.name < (c.vips.getD n zVip).names.length := by
           have h9 := h8
           simp only [hasI, Bool.and_eq_true, decide_eq_true_eq] at h9
           exact h9.1
         have hgs := fun r d => getD_set_self (l := c.vips.map (eVip true)) (i := n) (by simp; omega) r d
         have hA := And.intro hA (hgs)
         refine D ?_
         refine kRk [] [270336] [] (s_slices_Delete_int64 ((c.vips.getD n zVip).names.map eI_i64) (lbn (c.vips.getD n zVip).names x_.name) (lbn (c.vips.getD n zVip).names x_.name + 1) (by omega) (by rw [List.length_map]; omega) (by rw [List.length_map]; exact hnm) (by rw [← List.map_drop]; exact cpRows_I_i64 _ _) (by rw [← List.map_take, ← List.map_drop, ← List.map_append]; exact noShR_I_i64 _)) ?_
         refine D ?_
         refine E ?_
         have he : turnV c x_ = (0, setV c (vAt c x_) { c.vips.getD (vAt c x_) zVip with names := cutG (c.vips.getD (vAt c x_) zVip).names (lbn (c.vips.getD (vAt c x_) zVip).names x_.name) }) := by unfold turnV; grind
         have hcr : List.take (min (lbn (c.vips.getD n zVip).names x_.name) (c.vips.getD n zVip).names.length + ((c.vips.getD n zVip).names.length - (lbn (c.vips.getD n zVip).names x_.name + 1))) (List.take (lbn (c.vips.getD n zVip).names x_.name) ((c.vips.getD n zVip).names.map eI_i64) ++ List.drop (lbn (c.vips.getD n zVip).names x_.name + 1) ((c.vips.getD n zVip).names.map eI_i64)) = List.take (lbn (c.vips.getD n zVip).names x_.name) ((c.vips.getD n zVip).names.map eI_i64) ++ List.drop (lbn (c.vips.getD n zVip).names x_.name + 1) ((c.vips.getD n zVip).names.map eI_i64) := List.take_of_length_le (by simp [-List.getD_eq_getElem?_getD])
         simp [-List.getD_eq_getElem?_getD, he, setV, hva, eVip, cutG, List.map_set, List.set_set, hcr]
       · skip
         refine D ?_
         refine cC (fun c4 => ?_) (fun c4 => ?_)
         · skip
           refine D ?_
           refine E ?_
           have he : turnV c x_ = (7, c) := by unfold turnV; grind
           simp [he]
         · skip
           have hno : hasI (c.vips.getD n zVip).names x_.name = false := by simpa using c4
           have hgs := fun r d => getD_set_self (l := c.vips.map (eVip true)) (i := n) (by simp; omega) r d
           have hA := And.intro hA (hgs)
           refine D ?_
           refine kDk [] [143360, 159744] [] (s_rise_I (c.vips.getD n zVip).names x_.name (by omega) hno) ?_
           refine D ?_
           refine E ?_
           have he : turnV c x_ = (0, setV c (vAt c x_) { c.vips.getD (vAt c x_) zVip with names := riseL (c.vips.getD (vAt c x_) zVip).names x_.name }) := by unfold turnV; grind
           simp [he, setV, hva, eVip, List.map_set, List.set_set]
end
theorem s_slices_ContainsFunc_Vip (R : List Vip) (hl : R.length ≤ 2097152) (fn : Nat) (x_ : Cmd) (q : Vip → Bool) (hq : callB prog fn = true) (hf : ∀ b : Vip, b ∈ R → SemX prog fn [aS (eVip false b), aT (.ptr (eCmd x_))] [] [rB (q b)] []) : SemX prog 318 [aT (.sl false 4 (R.map (eVip false))), .one (.fn fn [.t (.ptr (eCmd x_))])] [] [rB (hasG q R)] [] := by
 refine goF [] [] [] func318 ?_
 refine D ?_
 refine kR (s_slices_IndexFunc_Vip_cmd R hl fn x_ q hq hf) ?_
 refine D ?_
 refine E ?_
 first
 | exact trivial
 | simp only [go_sem, hasG]
theorem s_impl_Config_turn_1 (v : Vip) (x_ : Cmd) (hl : v.names.length ≤ 2097152) : SemX prog 319 [aS (eVip false v), aT (.ptr (eCmd x_))] [] [rB (hasG (eqI x_.name) v.names)] [] := by
 refine goF [] [] [] func319 ?_
 refine D ?_
 refine kR (s_slices_Contains_int64 v.names x_.name hl) ?_
 refine D ?_
 exact E trivial
theorem s_slices_Delete_Backend (R : List (List T)) (i j : Nat) (hij : i < j) (hj : j ≤ R.length) (hl : R.length ≤ 2097152) (hs : cpRows none (R.drop j) = True) (hn : T.noShR (R.take i ++ R.drop j) = True) : SemX prog 320 [.one (.t (.sl true 5 R)), aI i, aI j] [] [.one (.sl true 5 (R.take i ++ R.drop j))] [] := by
 refine goF [(54, ⟨some 7, none, none, none⟩)] [(5, 2, [0], []), (5, 5, [0], []), (5, 6, [0], [0])] [] func320 ?_
 have hA := hs
 refine D ?_
 refine cC (fun c0 => ?_) (fun c0 => ?_)
 · skip
   omega
 · skip
   refine D ?_
   refine E ?_
   rw [if_pos (by omega)]
   exact ⟨congrArg (fun r => [TV.one (T.sl true 5 r)]) (del_rowsR R (by omega) hj _ _ _), rfl, rfl⟩
theorem s_impl_Config_turn (c : Config) (hx : limG 2097152 c) (K : CfOk c) (x_ : Cmd) (n : Nat) (hfb : findB c.backends x_.name = n) (hkd : x_.kind = 2 ∨ x_.kind = 3 ∨ x_.kind = 9 ∨ x_.kind = 4) : SemX prog 310 [.one (.ptr 0 0), aS (eCmd x_), aI n] [.var (eConfig true c)] [rI (turnB c x_).1] [.var (eConfig true (turnB c x_).2)] := by
 refine goF [(74, ⟨some 1, none, none, none⟩)] [] [] func310 ?_
 obtain ⟨hb, hv, hV⟩ := id hx
 obtain ⟨m_, hfb2, hnl, hnq, hnb⟩ : ∃ m : Nat, findB c.backends x_.name = m ∧ m < c.backends.length ∧ isB x_.name (c.backends.getD m zBackend) = true ∧ ∀ j, j < m → isB x_.name (c.backends.getD j zBackend) = false := idxG_lt zBackend (show ¬ findB c.backends x_.name < 0 by omega)
 obtain rfl : n = m_ := by omega
 have hba : bAt c x_.name = n := by unfold bAt; omega
 have hA := hfb
 refine D ?_
 refine cC (fun c0 => ?_) (fun c0 => ?_)
 · skip
   refine D ?_
   refine E ?_
   have he : turnB c x_ = (0, setB c (bAt c x_.name) { c.backends.getD (bAt c x_.name) zBackend with weight := x_.number }) := by unfold turnB; grind
   
   simp [he, setB, hba, List.map_set, eBackend, List.set_set]
 · skip
   refine D ?_
   refine cC (fun c1 => ?_) (fun c1 => ?_)
   · skip
     refine D ?_
     refine E ?_
     have he : turnB c x_ = (0, setB c (bAt c x_.name) { c.backends.getD (bAt c x_.name) zBackend with stage := x_.number }) := by unfold turnB; grind
     
     simp [he, setB, hba, List.map_set, eBackend, List.set_set]
   · skip
     refine D ?_
     refine cC (fun c2 => ?_) (fun c2 => ?_)
     · skip
       refine D ?_
       refine E ?_
       have he : turnB c x_ = (0, setB c (bAt c x_.name) { c.backends.getD (bAt c x_.name) zBackend with up := decide (x_.number = 1) }) := by unfold turnB; grind
       
       simp [he, setB, hba, List.map_set, eBackend, List.set_set]
     · skip
       refine D ?_
       refine cC (fun c3 => ?_) (fun c3 => ?_)
       · skip
         refine D ?_
         refine E ?_
         have he : turnB c x_ = (10, c) := by unfold turnB; grind
         simp [he]
       · skip
         refine D ?_
         refine kR (s_slices_ContainsFunc_Vip c.vips hv 319 x_ (fun v => hasG (eqI x_.name) v.names) (by kernel_rfl) (fun v h => s_impl_Config_turn_1 v x_ (hV v h))) ?_
         refine D ?_
         refine cC (fun c4 => ?_) (fun c4 => ?_)
         · skip
           refine D ?_
           refine E ?_
           have he : turnB c x_ = (8, c) := by unfold turnB; unfold serves; grind
           simp [he]
         · skip
           refine D ?_
           refine kRk [] [1000002] [] (s_slices_Delete_Backend (c.backends.map eBackend) n (n + 1) (by omega) (by rw [List.length_map]; omega) (by rw [List.length_map]; exact hb) (by rw [← List.map_drop]; exact cpRows_Backend _ _) (by rw [← List.map_take, ← List.map_drop, ← List.map_append]; exact noShR_Backend _)) ?_
           refine D ?_
           refine E ?_
           have he : turnB c x_ = (0, { c with backends := cutG c.backends (bAt c x_.name) }) := by unfold turnB; unfold serves; grind
           
           have hcr : List.take (min n c.backends.length + (c.backends.length - (n + 1))) (List.take n (c.backends.map eBackend) ++ List.drop (n + 1) (c.backends.map eBackend)) = List.take n (c.backends.map eBackend) ++ List.drop (n + 1) (c.backends.map eBackend) := List.take_of_length_le (by simp)
           simp [he, cutG, hba, hcr]
theorem s_impl_Config_does (c : Config) (hx1 : limG 2097151 c) (K : CfOk c) (x_ : Cmd) (hkd : 1 ≤ x_.kind ∧ x_.kind ≤ 9) : SemX prog 300 [.one (.ptr 0 0), aS (eCmd x_)] [.var (eConfig true c)] [rI (turned c x_).1] [.var (eConfig true (turned c x_).2)] := by
 refine goF [(210, ⟨some 1, none, none, none⟩)] [(1, 2, [16384], []), (1, 3, [1000000, 1000002, 1000003], []), (1, 6, [16384], []), (1, 8, [16384], []), (1, 10, [16384], []), (1, 11, [1000000, 1000002, 1000003], []), (11, 4, [1000000], []), (11, 6, [16384], []), (11, 8, [16384], []), (11, 10, [16384], []), (11, 12, [], [212992]), (11, 13, [1000002, 212992], [217088, 1000002, 212992]), (11, 16, [1000000], [1000000]), (18, 4, [1000000], []), (18, 6, [16384], []), (18, 8, [16384], []), (18, 10, [16384], []), (18, 12, [], [348160]), (18, 13, [1000003, 348160], [352256, 1000003, 348160]), (18, 16, [1000000], [1000000])] [] func300 ?_
 have hx : limG 2097152 c := limG_mono (by omega) hx1
 obtain ⟨hb, hv, hV⟩ := id hx
 have hk8 := K.b8
 have hk4 := K.v4
 refine D ?_
 refine kD (s_impl_Config_backend c hx x_.name) ?_
 refine D ?_
 refine kD (s_impl_Config_vip c hx x_.addr x_.number x_.proto) ?_
 refine D ?_
 refine cC (fun c0 => ?_) (fun c0 => ?_)
 · skip
   refine D ?_
   refine cC (fun c1 => ?_) (fun c1 => ?_)
   · skip
     refine D ?_
     refine E ?_
     have hin : inR x_.kind 5 8 = false := by simp [inR]; omega
     have he : turned c x_ = (7, c) := by unfold turned; rw [hin]; unfold turnV turnB; grind
     simp [he]
   · skip
     refine D ?_
     refine cC (fun c2 => ?_) (fun c2 => ?_)
     · skip
       refine D ?_
       refine E ?_
       have hin : inR x_.kind 5 8 = false := by simp [inR]; omega
       have he : turned c x_ = (2, c) := by unfold turned; rw [hin]; unfold turnV turnB; grind
       simp [he]
     · skip
       have hpb := (put_b K (x := x_) (show findB c.backends x_.name < 0 by omega))
       have hmb : List.map eBackend c.backends ++ [[T.int .i64 x_.name, T.int .i64 x_.addr, T.int .i64 x_.number, T.int .i64 1, T.bool true]] = List.map eBackend (c.backends ++ [bOf x_]) := by simp [eBackend, bOf]
       have hA := hmb
       refine D ?_
       refine kRk [217088] [] [] (s_slices_SortFunc_Backend c.backends (bOf x_) (preG (ltB x_.name) c.backends) 306 cmpB (by kernel_rfl) s_impl_Config_does_1 (preG_le _ _) (by have := K.b8; omega) hpb.2.1 hpb.2.2.1 hpb.2.2.2) ?_
       refine D ?_
       refine E ?_
       have hin : inR x_.kind 5 8 = false := by simp [inR]; omega
       have he : turned c x_ = (0, { c with backends := putG (ltB x_.name) c.backends (bOf x_) }) := by unfold turned; rw [hin]; unfold turnV turnB; grind
       have htk : ∀ (k : Nat) (V : List T), List.take (c.backends.length + 1) (List.take k (List.map eBackend c.backends) ++ V :: List.drop k (List.map eBackend c.backends)) = List.take k (List.map eBackend c.backends) ++ V :: List.drop k (List.map eBackend c.backends) := fun k V => List.take_of_length_le (by simp; omega)
       simp [he, putG, insAt, bOf, htk]
 · skip
   refine D ?_
   refine cC (fun c3 => ?_) (fun c3 => ?_)
   · skip
     refine D ?_
     refine cC (fun c4 => ?_) (fun c4 => ?_)
     · skip
       refine D ?_
       refine E ?_
       have hin : inR x_.kind 5 8 = true := by simp [inR]; omega
       have he : turned c x_ = (7, c) := by unfold turned; rw [hin]; unfold turnV turnB; grind
       simp [he]
     · skip
       refine D ?_
       refine cC (fun c5 => ?_) (fun c5 => ?_)
       · skip
         refine D ?_
         refine E ?_
         have hin : inR x_.kind 5 8 = true := by simp [inR]; omega
         have he : turned c x_ = (2, c) := by unfold turned; rw [hin]; unfold turnV turnB; grind
         simp [he]
       · skip
         have hpv := (put_v K (x := x_) (show findV c.vips x_.addr x_.number x_.proto < 0 by omega))
         have hmv : List.map (eVip true) c.vips ++ [[T.int .i64 x_.addr, T.int .i64 x_.number, T.int .i64 x_.proto, T.sl true 1 []]] = List.map (eVip true) (c.vips ++ [vOf x_]) := by simp [eVip, vOf]
         have hA := hmv
         refine D ?_
         refine kRk [352256] [] [] (s_slices_SortFunc_Vip c.vips (vOf x_) (preG (ltV (vOf x_)) c.vips) 255 cmpV (by kernel_rfl) s_impl_compareVip_raw (preG_le _ _) (by have := K.v4; omega) hpv.2.1 hpv.2.2.1 hpv.2.2.2) ?_
         refine D ?_
         refine E ?_
         have hin : inR x_.kind 5 8 = true := by simp [inR]; omega
         have he : turned c x_ = (0, { c with vips := putG (ltV (vOf x_)) c.vips (vOf x_) }) := by unfold turned; rw [hin]; unfold turnV turnB; grind
         have htk : ∀ (k : Nat) (V : List T), List.take (c.vips.length + 1) (List.take k (List.map (eVip true) c.vips) ++ V :: List.drop k (List.map (eVip true) c.vips)) = List.take k (List.map (eVip true) c.vips) ++ V :: List.drop k (List.map (eVip true) c.vips) := fun k V => List.take_of_length_le (by simp; omega)
         simp [he, putG, insAt, vOf, htk]
   · skip
     refine D ?_
     refine cC (fun c6 => ?_) (fun c6 => ?_)
     · skip
       refine D ?_
       refine cC (fun c7 => ?_) (fun c7 => ?_)
       · skip
         refine D ?_
         refine E ?_
         have hin : inR x_.kind 5 8 = true := by simp [inR]; omega
         have he : turned c x_ = (4, c) := by unfold turned; rw [hin]; unfold turnV turnB; grind
         simp [he]
       · skip
         have hfn : ¬ findV c.vips x_.addr x_.number x_.proto < 0 := by omega
         obtain ⟨n, hfv, hnl, hnq, hnb⟩ : ∃ n : Nat, findV c.vips x_.addr x_.number x_.proto = n ∧ n < c.vips.length ∧ isV x_.addr x_.number x_.proto (c.vips.getD n zVip) = true ∧ ∀ j, j < n → isV x_.addr x_.number x_.proto (c.vips.getD j zVip) = false := idxG_lt zVip hfn
         have hva : vAt c x_ = n := by unfold vAt; omega
         have hnm : (c.vips.getD n zVip).names.length ≤ 2097152 := limV_getD hV n
         have hrs := K.nr n hnl
         have hhi := hasI_eq hrs x_.name
         have hA := hfv
         refine D ?_
         refine kRk [] [1000003] [] (s_slices_Delete_Vip (c.vips.map (eVip true)) n (n + 1) (by omega) (by rw [List.length_map]; omega) (by rw [List.length_map]; exact hv) (by rw [← List.map_drop]; exact cpRows_Vip _ _) (by rw [← List.map_take, ← List.map_drop, ← List.map_append]; exact noShR_Vip _)) ?_
         refine D ?_
         refine E ?_
         have hin : inR x_.kind 5 8 = true := by simp [inR]; omega
         have he : turned c x_ = (0, { c with vips := cutG c.vips (vAt c x_) }) := by unfold turned; rw [hin]; unfold turnV turnB; grind
         have hcr : List.take (min n c.vips.length + (c.vips.length - (n + 1))) (List.take n (c.vips.map (eVip true)) ++ List.drop (n + 1) (c.vips.map (eVip true))) = List.take n (c.vips.map (eVip true)) ++ List.drop (n + 1) (c.vips.map (eVip true)) := List.take_of_length_le (by simp)
         simp [he, cutG, hva, hcr]
     · skip
       refine D ?_
       refine cC (fun c8 => ?_) (fun c8 => ?_)
       · skip
         refine D ?_
         refine cC (fun c9 => ?_) (fun c9 => ?_)
         · skip
           have hkd7 : x_.kind = 7 ∨ x_.kind = 8 := .inl c9
           refine D ?_
           refine kRk [1000000] [] [1000002, 1000003] (s_impl_Config_tie c hx1 K x_ hkd7) ?_
           refine D ?_
           refine E ?_
           have hin : inR x_.kind 5 8 = true := by simp [inR]; omega
           have he : turned c x_ = turnV c x_ := by unfold turned; rw [if_pos hin]
           rw [he]
           exact ⟨rfl, rfl⟩
         · skip
           exfalso
           grind
       · skip
         refine D ?_
         refine cC (fun c9 => ?_) (fun c9 => ?_)
         · skip
           have hkd7 : x_.kind = 7 ∨ x_.kind = 8 := .inr c9
           refine D ?_
           refine kRk [1000000] [] [1000002, 1000003] (s_impl_Config_tie c hx1 K x_ hkd7) ?_
           refine D ?_
           refine E ?_
           have hin : inR x_.kind 5 8 = true := by simp [inR]; omega
           have he : turned c x_ = turnV c x_ := by unfold turned; rw [if_pos hin]
           rw [he]
           exact ⟨rfl, rfl⟩
         · skip
           refine D ?_
           refine cC (fun c10 => ?_) (fun c10 => ?_)
           · skip
             refine D ?_
             refine E ?_
             have hin : inR x_.kind 5 8 = false := by simp [inR]; omega
             have he : turned c x_ = (4, c) := by unfold turned; rw [hin]; unfold turnV turnB; grind
             simp [he]
           · skip
             obtain ⟨n, hfbn⟩ : ∃ n : Nat, findB c.backends x_.name = n := ⟨(findB c.backends x_.name).toNat, by omega⟩
             have hkd4 : x_.kind = 2 ∨ x_.kind = 3 ∨ x_.kind = 9 ∨ x_.kind = 4 := by omega
             have hA := hfbn
             refine D ?_
             refine kRk [1000000] [] [1000002, 1000003] (s_impl_Config_turn c hx K x_ n hfbn hkd4) ?_
             refine D ?_
             refine E ?_
             have hin : inR x_.kind 5 8 = false := by simp [inR]; omega
             have he : turned c x_ = turnB c x_ := by unfold turned; rw [if_neg (by rw [hin]; simp)]
             rw [he]
             exact ⟨rfl, rfl⟩
theorem s_impl_apply (c : Config) (hx1 : limG 2097151 c) (K : CfOk c) (x_ : Cmd) (hcf : cmdFault x_ = 0) : SemX prog 289 [aS (eConfig false c), aS (eCmd x_)] [] [.agg (eConfigResult true (applyR c x_))] [] := by
 refine goF [(70, ⟨some 1, none, none, none⟩)] [] [] func289 ?_
 have hx : limG 2097152 c := limG_mono (by omega) hx1
 obtain ⟨hb, hv, hV⟩ := id hx
 have hk9 : 1 ≤ x_.kind ∧ x_.kind ≤ 9 := by
   unfold cmdFault at hcf
   cases h : inR x_.kind 1 9 with
   | false => simp [h] at hcf
   | true => simpa [inR] using h
 have hk0 := K.v0
 have hk1 := K.v1
 have htv := turned_ver c x_
 have hA := htv
 refine D ?_
 refine cC (fun c0 => ?_) (fun c0 => ?_)
 · skip
   refine D ?_
   refine E ?_
   have he : applyR c x_ = badC 3 := by unfold applyR; grind
   simp [he, badC, zConfig]
 · skip
   refine D ?_
   refine cC (fun c1 => ?_) (fun c1 => ?_)
   · skip
     refine D ?_
     refine E ?_
     have he : applyR c x_ = badC 9 := by unfold applyR; grind
     simp [he, badC, zConfig]
   · skip
     refine D ?_
     refine kR (s_impl_Config_copied c hx) ?_
     refine D ?_
     refine kRk [24576] [] [106497, 106498] (s_impl_Config_does c hx1 K x_ hk9) ?_
     refine D ?_
     refine cC (fun c2 => ?_) (fun c2 => ?_)
     · skip
       refine D ?_
       refine E ?_
       have he : applyR c x_ = badC (turned c x_).1 := by unfold applyR; grind
       simp [he, badC, zConfig]
     · skip
       refine D ?_
       refine E ?_
       have he : applyR c x_ = ⟨0, { (turned c x_).2 with version := c.version + 1 }⟩ := by unfold applyR; grind
       simp [he, badC, zConfig]
theorem s_slices_Clone_Session (xs : List Session) (hl : xs.length ≤ 2097152) : SemX prog 293 [aT (.sl false 3 (xs.map eSession))] [] [.one (.sl true 3 (xs.map eSession))] [] := by
 refine goF [] [] [] func293 ?_
 refine D ?_
 refine RW_isn (fun b => xs.map eSession ≠ [] → b = false) rfl rfl (by simp only [go_sem] <;> and_intros <;> first | with_reducible exact rfl | omega | with_reducible trivial | (intros; simp_all; done) | grind) (fun b hb => ?_)
 refine D ?_
 refine cC (fun c0 => ?_) (fun c0 => ?_)
 · skip
   have hx : xs = [] := by
     cases xs with
     | nil => rfl
     | cons a l => have := hb (by simp); rw [this] at c0; cases c0
   subst hx
   refine D ?_
   exact E trivial
 · skip
   refine D ?_
   exact E trivial
theorem s_slices_BinarySearchFunc_int64 (R : List Session) (v : Int) (fn : Nat) (hq : callB prog fn = true) (hf : ∀ s : Session, SemX prog fn [aS (eSession s), aI v] [] [rI (cmpI s.client v)] []) (hr : risesS R) (hl : R.length ≤ 2097152) : SemX prog 301 [aT (.sl false 3 (R.map eSession)), aI v, .one (.fn fn [])] [] [rI (lbS R v), rB (hasS R v)] [] := by
 refine goF [] [] [] func301 ?_
 refine D ?_
 refine L (α := Nat × Nat) (fun p => [(9, .int .i64 p.1), (10, .int .i64 p.2)]) (fun p => []) (fun p => p.2 - p.1) (fun p => p.1 ≤ p.2 ∧ p.2 ≤ R.length ∧ (∀ q, q < p.1 → (R.getD q zSession).client < v) ∧ (∀ q, p.2 ≤ q → q < R.length → v ≤ (R.getD q zSession).client)) (0, R.length) [] (fun x0 hL => ?_) (hi := by exact ⟨Nat.zero_le _, Nat.le_refl _, fun q h => by omega, fun q h1 h2 => by omega⟩)
 obtain ⟨i, j⟩ := x0
 obtain ⟨hij, hj, hlo, hup⟩ := hL
 try dsimp only at *
 refine D ?_
 refine cC (fun c0 => ?_) (fun c0 => ?_)
 · skip
   have hhf := half_nat i j (by omega)
   have hw1 : IntKind.u64.wrap ((i : Int) + j) = i + j := by have := wrap_u (i + j) (by omega); simpa using this
   have hw2 : IntKind.i64.wrap (((i + j) / 2 : Nat) : Int) = ((i + j) / 2 : Nat) := wrap_small (by omega) (by omega)
   have hcl : cmpI (R.getD ((i + j) / 2) zSession).client v < 0 ↔ (R.getD ((i + j) / 2) zSession).client < v := by unfold cmpI; grind
   have hA := And.intro hhf (And.intro hw1 (hw2))
   refine D ?_
   refine kR (hf (R.getD ((i + j) / 2) zSession)) ?_ hq
   refine D ?_
   refine cC (fun c1 => ?_) (fun c1 => ?_)
   · skip
     refine D ?_
     refine N ((i + j) / 2 + 1, j) [] (hi := ?_) (hm := ?_)
     · dsimp only
       refine ⟨by omega, by omega, fun q hq => ?_, hup⟩
       by_cases e : q = (i + j) / 2
       · subst e; exact hcl.1 c1
       · have := risesS_lt hr (i := q) (j := (i + j) / 2) (by omega) (by omega); have := hcl.1 c1; omega
     · try dsimp only
       omega
   · skip
     refine D ?_
     refine N (i, (i + j) / 2) [] (hi := ?_) (hm := ?_)
     · dsimp only
       refine ⟨by omega, by omega, hlo, fun q h1 h2 => ?_⟩
       have h3 : v ≤ (R.getD ((i + j) / 2) zSession).client := by have := mt hcl.2 c1; omega
       by_cases e : q = (i + j) / 2
       · subst e; exact h3
       · have := risesS_lt hr (i := (i + j) / 2) (j := q) (by omega) h2; omega
     · try dsimp only
       omega
 · skip
   obtain rfl : i = j := by omega
   have hlb : lbS R v = i := lbS_eq hj hlo (fun h => hup i (Nat.le_refl _) h)
   refine D ?_
   refine kRg (hf (R.getD i zSession)) ?_ hq
   refine D ?_
   refine E ?_
   first
   | exact trivial
   | have hh : hasS R v = (decide (i < R.length) && decide (cmpI (R.getD i zSession).client v = 0)) := by
       unfold hasS
       rw [hlb]
       congr 1
       rw [decide_eq_decide]
       unfold cmpI
       grind
     simp [-List.getD_eq_getElem?_getD, hh, hlb]
theorem s_impl_Machine_session_1 (s : Session) (v : Int) : SemX prog 302 [aS (eSession s), aI v] [] [rI (cmpI s.client v)] [] := by
 refine goF [] [] [] func302 ?_
 refine D ?_
 refine kR (s_cmp_Compare_int64 s.client v) ?_
 refine D ?_
 exact E trivial
theorem s_impl_Machine_session (m : Machine) (hm : limM 2097152 m) (K : MaOk m) (c : Int) : SemX prog 294 [aT (.ptr (eMachine false m)), aI c] [] [rI (lbS m.sessions c), rB (hasS m.sessions c)] [] := by
 refine goF [] [] [] func294 ?_
 refine D ?_
 refine kR (s_slices_BinarySearchFunc_int64 m.sessions c 302 (by kernel_rfl) (fun s => s_impl_Machine_session_1 s c) K.rs hm.2) ?_
 refine D ?_
 exact E trivial
theorem s_slices_Insert_Session (R V : List (List T)) (i : Nat) (hi : i ≤ R.length) (hv : 1 ≤ V.length) (hl : R.length + V.length ≤ 2097152) (fR : ∀ r ∈ R, ∀ t ∈ r, t.flat = true) (fV : ∀ r ∈ V, ∀ t ∈ r, t.flat = true) : SemX prog 295 [.one (.t (.sl true 3 R)), aI i, .one (.t (.sl true 3 V))] [] [.one (.sl true 3 (R.take i ++ V ++ R.drop i))] [] := by
 refine goFC 0 [(82, ⟨none, none, some (282, true), none⟩), (110, ⟨some 10, none, none, none⟩), (156, ⟨some 10, none, none, none⟩)] [(11, 4, [167936], []), (11, 7, [0], []), (11, 8, [167936, 0], [167936]), (15, 4, [0], []), (15, 7, [0], []), (15, 8, [0], [0])] [] func295 (fun cp hcp hcp2 => ?_)
 have hcp3 : R.length ≤ cp := hcp
 have hcV : cpRows (some (0, 0)) V = True := eq_true fV
 have hcT : cpRows (some (0, 0)) (List.take i R) = True := eq_true fun r hr => fR r (List.mem_of_mem_take hr)
 have hcD : cpRows (some (0, 0)) (List.drop i R) = True := eq_true fun r hr => fR r (List.mem_of_mem_drop hr)
 have hX1 : List.take i (R ++ roomR 3 (cp - R.length)) = List.take i R := List.take_append_of_le_length hi
 have hX2 : List.take R.length (R ++ roomR 3 (cp - R.length)) = R := List.take_left' rfl
 have hX3 : List.take (R.length - i) (List.drop i (R ++ roomR 3 (cp - R.length))) = List.drop i R := by rw [List.drop_append_of_le_length hi]; exact List.take_left' (by simp)
 have hA := And.intro hcV (And.intro hcT (And.intro hcD (And.intro hX1 (And.intro hX2 (hX3)))))
 refine D ?_
 refine cC (fun c0 => ?_) (fun c0 => ?_)
 · skip
   omega
 · skip
   refine D ?_
   refine cC (fun c1 => ?_) (fun c1 => ?_)
   · skip
     refine D ?_
     refine E ?_
     obtain rfl : i = R.length := by omega
     simp [List.take_of_length_le]
   · skip
     refine D ?_
     refine cC (fun c2 => ?_) (fun c2 => ?_)
     · skip
       refine D ?_
       refine E ?_
       rw [if_pos (by omega)]
       exact ⟨congrArg (fun r => [TV.one (T.sl true 3 r)]) (ins_grow (by omega) (by omega) (by omega) (by omega) (by omega)), rfl, rfl⟩
     · skip
       refine D ?_
       refine kOv (⟨_, 149, 4, 282, 3, func303, by kernel_rfl, by kernel_rfl, by kernel_rfl, by kernel_rfl, by kernel_rfl, by kernel_rfl⟩ : OvlOk prog 303) ?_
       refine D ?_
       refine cT ?_
       refine D ?_
       refine E ?_
       rw [if_pos (by omega)]
       exact ⟨congrArg (fun r => [TV.one (T.sl true 3 r)]) (ins_room (by omega) (by simp [roomR_len]; omega) (by omega) (by omega) (by omega) (by omega) (by omega)), rfl, rfl⟩
theorem s_put_Se (xs : List Session) (s : Session) (hl : xs.length + 1 ≤ 2097152) (h : hasS xs s.client = false) : SemX prog 295 [.one (.t (.sl true 3 (xs.map eSession))), aI (lbS xs s.client), .one (.t (.sl true 3 [eSession s]))] [] [.one (.sl true 3 ((putS xs s).map eSession))] [] := by
  have := s_slices_Insert_Session (xs.map eSession) [eSession s] (lbS xs s.client) (by simpa using lbS_le xs s.client) (by simp) (by simpa using hl) (flat_Se xs) (by intro r hr; simp only [List.mem_singleton] at hr; subst hr; exact flat_Se [s] _ (by simp))
  have e : (putS xs s).map eSession = List.take (lbS xs s.client) (xs.map eSession) ++ [eSession s] ++ List.drop (lbS xs s.client) (xs.map eSession) := by
    unfold putS
    rw [h]
    simp
  rwa [← e] at this
theorem s_impl_enter (m : Machine) (hm1 : limM 2097151 m) (K : MaOk m) (x_ : Entry) (hcf : x_.client ≠ 0 → cmdFault x_.cmd = 0) : SemX prog 279 [aS (eMachine false m), aS (eEntry x_)] [] [.agg (eMachineResult true (enterM m x_))] [] := by
 refine goF [] [(1, 1, [12288], []), (1, 2, [], [53249, 53250]), (1, 4, [12288], []), (1, 5, [], [65536]), (1, 8, [], [24576]), (1, 9, [24576], [24576]), (5, 3, [12288], []), (5, 9, [16384], []), (7, 1, [12288], []), (7, 7, [16384], []), (13, 1, [36864], []), (13, 3, [24576], [24576]), (13, 5, [24576], [24576])] [] func279 ?_
 have hm : limM 2097152 m := ⟨limG_mono (by omega) hm1.1, Nat.le_succ_of_le hm1.2⟩
 have hs := hm.2
 have hs40 := K.s40
 have hlb : hasS m.sessions x_.client = true → lbS m.sessions x_.client < m.sessions.length := hasS_lt
 refine D ?_
 refine kD (s_impl_Config_copied m.config hm.1) ?_
 refine D ?_
 refine kD (s_slices_Clone_Session m.sessions hs) ?_
 refine D ?_
 refine cC (fun c0 => ?_) (fun c0 => ?_)
 · skip
   refine D ?_
   refine E ?_
   have he : enterM m x_ = ⟨0, 0, false, m⟩ := by unfold enterM; grind
   simp [-List.getD_eq_getElem?_getD, he, badM, zMachine, zConfig]
 · skip
   refine D ?_
   refine kR (s_impl_Machine_session m hm K x_.client) ?_
   refine D ?_
   refine cC (fun c1 => ?_) (fun c1 => ?_)
   · skip
     have ho : oldM m x_ = true := by unfold oldM; simpa [-List.getD_eq_getElem?_getD] using c1
     have hh : hasS m.sessions x_.client = true := by unfold oldM at ho; simp only [Bool.and_eq_true] at ho; exact ho.1
     have hl := hlb hh
     refine D ?_
     refine cC (fun c2 => ?_) (fun c2 => ?_)
     · skip
       refine D ?_
       refine E ?_
       have he : enterM m x_ = ⟨0, (m.sessions.getD (lbS m.sessions x_.client) zSession).code, false, m⟩ := by unfold enterM; grind
       simp [-List.getD_eq_getElem?_getD, he, badM, zMachine, zConfig]
     · skip
       refine D ?_
       refine E ?_
       have he : enterM m x_ = ⟨0, 9, false, m⟩ := by unfold enterM; grind
       simp [-List.getD_eq_getElem?_getD, he, badM, zMachine, zConfig]
   · skip
     have ho : oldM m x_ = false := c1
     refine D ?_
     refine cC (fun c3 => ?_) (fun c3 => ?_)
     · skip
       refine D ?_
       refine E ?_
       have he : enterM m x_ = badM 2 := by unfold enterM; grind
       simp [-List.getD_eq_getElem?_getD, he, badM, zMachine, zConfig]
     · skip
       refine D ?_
       refine kR (s_impl_apply m.config hm1.1 K.cf x_.cmd (hcf c0)) ?_
       refine D ?_
       refine cC (fun c4 => ?_) (fun c4 => ?_)
       · skip
         refine D ?_
         refine cC (fun c5 => ?_) (fun c5 => ?_)
         · skip
           have hl := hlb c5
           have hps := putS_has (xs := m.sessions) (s := ⟨x_.client, x_.seq, (applyR m.config x_.cmd).code⟩) c5
           refine D ?_
           refine E ?_
           have he : enterM m x_ = ⟨0, (applyR m.config x_.cmd).code, true, ⟨(applyR m.config x_.cmd).config, putS m.sessions ⟨x_.client, x_.seq, (applyR m.config x_.cmd).code⟩⟩⟩ := by unfold enterM; grind
           simp [-List.getD_eq_getElem?_getD, he, ← hps, eSession]
         · skip
           have hno : hasS m.sessions (Session.client ⟨x_.client, x_.seq, (applyR m.config x_.cmd).code⟩) = false := by simpa using c5
           refine D ?_
           refine kRk [] [65536, 421888] [] (s_put_Se m.sessions ⟨x_.client, x_.seq, (applyR m.config x_.cmd).code⟩ (by omega) hno) ?_
           refine D ?_
           refine E ?_
           have he : enterM m x_ = ⟨0, (applyR m.config x_.cmd).code, true, ⟨(applyR m.config x_.cmd).config, putS m.sessions ⟨x_.client, x_.seq, (applyR m.config x_.cmd).code⟩⟩⟩ := by unfold enterM; grind
           simp [-List.getD_eq_getElem?_getD, he, badM, zMachine, zConfig]
       · skip
         refine D ?_
         refine cC (fun c5 => ?_) (fun c5 => ?_)
         · skip
           have hl := hlb c5
           have hps := putS_has (xs := m.sessions) (s := ⟨x_.client, x_.seq, (applyR m.config x_.cmd).code⟩) c5
           refine D ?_
           refine E ?_
           have he : enterM m x_ = ⟨0, (applyR m.config x_.cmd).code, true, ⟨m.config, putS m.sessions ⟨x_.client, x_.seq, (applyR m.config x_.cmd).code⟩⟩⟩ := by unfold enterM; grind
           simp [-List.getD_eq_getElem?_getD, he, ← hps, eSession]
         · skip
           have hno : hasS m.sessions (Session.client ⟨x_.client, x_.seq, (applyR m.config x_.cmd).code⟩) = false := by simpa using c5
           refine D ?_
           refine kRk [] [65536, 421888] [] (s_put_Se m.sessions ⟨x_.client, x_.seq, (applyR m.config x_.cmd).code⟩ (by omega) hno) ?_
           refine D ?_
           refine E ?_
           have he : enterM m x_ = ⟨0, (applyR m.config x_.cmd).code, true, ⟨m.config, putS m.sessions ⟨x_.client, x_.seq, (applyR m.config x_.cmd).code⟩⟩⟩ := by unfold enterM; grind
           simp [-List.getD_eq_getElem?_getD, he, badM, zMachine, zConfig]
theorem s_impl_ApplyEntry (m : Machine) (hm1 : limM 2097151 m) (x_ : Entry) : SemX prog 250 [aS (eMachine false m), aS (eEntry x_)] [] [.agg (eMachineResult true (applyEntry m x_))] [] := by
 refine goF [] [] [] func250 ?_
 have hm : limM 2097152 m := ⟨limG_mono (by omega) hm1.1, Nat.le_succ_of_le hm1.2⟩
 refine D ?_
 refine kR (s_impl_MachineFault m hm) ?_
 refine D ?_
 refine cC (fun c0 => ?_) (fun c0 => ?_)
 · skip
   have K := (ma_ok c0).2
   refine D ?_
   refine kR (s_impl_EntryFault x_) ?_
   refine D ?_
   refine cC (fun c1 => ?_) (fun c1 => ?_)
   · skip
     refine D ?_
     refine E ?_
     have he : applyEntry m x_ = badM (entryFault x_) := by unfold applyEntry; grind
     simp [he, badM, zMachine, zConfig]
   · skip
     have h1 : entryFault x_ = 0 := by omega
     have hcf := fun h => ent_cmd h1 h
     refine D ?_
     refine kR (s_impl_enter m hm1 K x_ hcf) ?_
     refine D ?_
     refine E ?_
     have he : applyEntry m x_ = enterM m x_ := by unfold applyEntry; grind
     simp [he, badM, zMachine, zConfig]
 · skip
   refine D ?_
   refine cC (fun c1 => ?_) (fun c1 => ?_)
   · skip
     refine D ?_
     refine E ?_
     have he : applyEntry m x_ = badM (machineFault m) := by unfold applyEntry; grind
     simp [he, badM, zMachine, zConfig]
   · skip
     exfalso
     grind
theorem s_impl_replay (xs : List Entry) (hl : xs.length ≤ 2097152) (fn : Nat) (hq : callB prog fn = true) (hf : ∀ r : MachineResult, SemX prog fn [aS (eMachineResult false r)] [] [] []) : SemX prog 183 [aT (.sl false 9 (xs.map eEntry)), .one (.fn fn [])] [] [.agg (eMachineResult true (replayM xs).1)] [] := by
 refine goF [(28, ⟨some 4, some 57344, some (153, true), none⟩)] [(11, 1, [36864], []), (11, 3, [36864], []), (11, 5, [24576], [24576]), (11, 7, [24576], [24576])] [] func183 ?_
 refine D ?_
 refine cC (fun c0 => ?_) (fun c0 => ?_)
 · skip
   refine D ?_
   refine E ?_
   have he : replayM xs = (badM 2, []) := if_pos (by omega)
   simp [he, badM, zMachine, zConfig]
 · skip
   refine D ?_
   refine L (α := Nat × Machine × Int × List Config) (fun p => [(16, .int .i64 p.1)]) (fun p => [(24576, .var [.int .i64 0, .int .i64 p.2.2.1, .bool false, .int .i64 p.2.1.config.version, .ref 57348 0 p.2.1.config.backends.length, .ref 57349 0 p.2.1.config.vips.length, .ref 57350 0 p.2.1.sessions.length]), (57348, .arr ⟨5, p.2.1.config.backends.map eBackend, 1, none⟩), (57349, .arr ⟨4, p.2.1.config.vips.map (eVip true), 1, none⟩), (57350, .arr ⟨3, p.2.1.sessions.map eSession, 1, none⟩)]) (fun p => xs.length - p.1) (fun p => p.1 ≤ xs.length ∧ MaP p.2.1 ∧ repR xs zMachine 0 [zConfig] = repR (xs.drop p.1) p.2.1 p.2.2.1 p.2.2.2) (0, zMachine, 0, [zConfig]) [] (fun x0 hL => ?_) (by simp only [go_sem] <;> and_intros <;> first | with_reducible exact rfl | (first | omega | exact rfl)) (by exact ⟨Nat.zero_le _, maP_zero, rfl⟩)
   obtain ⟨i, m, rp, al_⟩ := x0
   obtain ⟨hi2, hP, hrp⟩ := hL
   try dsimp only at *
   have hm1 : limM 2097151 m := ⟨limG_mono (by omega) hP.lim.1, Nat.le_trans hP.lim.2 (by omega)⟩
   have hmf : machineFault m = 0 := ma_fault hP.cf hP.ok
   have hae : applyEntry m (xs.getD i zEntry) = if entryFault (xs.getD i zEntry) ≠ 0 then badM (entryFault (xs.getD i zEntry)) else enterM m (xs.getD i zEntry) := by unfold applyEntry; rw [if_neg (by omega)]
   refine D ?_
   refine cC (fun c1 => ?_) (fun c1 => ?_)
   · skip
     refine D ?_
     refine kR (s_impl_ApplyEntry m hm1 (xs.getD i zEntry)) ?_
     refine D ?_
     refine cC (fun c2 => ?_) (fun c2 => ?_)
     · skip
       refine D ?_
       refine E ?_
       have he : (replayM xs).1 = badM (applyEntry m (xs.getD i zEntry)).code := by
         unfold replayM
         rw [if_neg (by omega), hrp, repR_drop (by omega)]
         by_cases h : entryFault (xs.getD i zEntry) ≠ 0
         · have e : (applyEntry m (xs.getD i zEntry)) = badM (entryFault (xs.getD i zEntry)) := by rw [hae, if_pos h]
           rw [if_pos h, e]
           rfl
         · have e : (applyEntry m (xs.getD i zEntry)) = enterM m (xs.getD i zEntry) := by rw [hae, if_neg h]
           rw [if_neg h, if_pos (by rw [← e]; omega), e]
       simp [he, badM, zMachine, zConfig]
     · skip
       have hc0 : (applyEntry m (xs.getD i zEntry)).code = 0 := by omega
       have h0 : entryFault (xs.getD i zEntry) = 0 := by
         rw [hae] at hc0
         split at hc0
         · rename_i h; exact absurd hc0 h
         · omega
       have hen : (applyEntry m (xs.getD i zEntry)) = enterM m (xs.getD i zEntry) := by rw [hae, if_neg (by omega)]
       refine D ?_
       refine kR (hf (applyEntry m (xs.getD i zEntry))) ?_ hq
       refine D ?_
       refine lp_next (i + 1, (applyEntry m (xs.getD i zEntry)).machine, (applyEntry m (xs.getD i zEntry)).reply, addC al_ (applyEntry m (xs.getD i zEntry))) [(57348,98308),(57349,98309),(57350,98310)] ?_ ?_ ?_
       · simp only [go_sem] <;> and_intros <;> first | with_reducible exact rfl | (first | with_reducible exact rfl | omega | (simp [eConfig]; done))
       · dsimp only
         rw [hen]
         refine ⟨by omega, enterM_p hP h0 (by rw [← hen]; exact hc0), ?_⟩
         rw [hrp, repR_drop (by omega), if_neg (by omega), if_neg (by rw [← hen]; omega)]
       · try dsimp only
         omega
   · skip
     obtain rfl : i = xs.length := by omega
     refine D ?_
     refine E ?_
     have he : replayM xs = (⟨0, rp, false, m⟩, al_) := by unfold replayM; rw [if_neg (by omega), hrp, repR_end]
     simp [he]
theorem s_impl_replay_v (xs : List Entry) (hl : xs.length ≤ 2097152) (fn : Nat) (hq : callB prog fn = true) (hf : ∀ (r : MachineResult), limG 2097152 r.machine.config → ∀ (al : List Config), al.length ≤ 1000000 → ∀ (cs : List Cmd), cs.length ≤ 1000000 → ∀ k : Nat, k < xs.length → SemX prog fn [aS (eMachineResult false r), .one (.ptr 0 0), .one (.ptr 1 0), aT (.ptr [.sl false 9 (xs.map eEntry)]), .one (.ptr 2 0)] [.var [.sl true 3 (al.map (eConfig true))], .var [.sl true 6 (cs.map eCmd)], .var [.int .i64 k]] [] [.var [.sl true 3 ((addC al r).map (eConfig true))], .var [.sl true 6 ((addK cs (xs.getD k zEntry) r).map eCmd)], .var [.int .i64 (k + 1 : Nat)]]) : SemX prog 183 [aT (.sl false 9 (xs.map eEntry)), .one (.fn fn [.ptr 0 0, .ptr 1 0, .t (.ptr [.sl false 9 (xs.map eEntry)]), .ptr 2 0])] [.var [.sl true 3 ([zConfig].map (eConfig true))], .var [.sl true 6 (([] : List Cmd).map eCmd)], .var [.int .i64 (0 : Nat)]] [.agg (eMachineResult true (replayM xs).1)] [.var [.sl true 3 ((replayA xs).map (eConfig true))], .var [.sl true 6 ((replayS xs).map eCmd)], .var [.int .i64 (replayK xs)]] := by
 refine goF [(28, ⟨some 4, some 57344, some (153, true), none⟩)] [(11, 1, [36864], []), (11, 3, [36864], []), (11, 5, [24576], [24576]), (11, 7, [24576], [24576])] [] func183 ?_
 skip
 refine D ?_
 refine cC (fun c0 => ?_) (fun c0 => ?_)
 · skip
   have hra0 : replayA xs = [zConfig] := if_pos (by omega)
   have hrs0 : replayS xs = [] := if_pos (by omega)
   have hrk0 : replayK xs = 0 := if_pos (by omega)
   refine D ?_
   refine E ?_
   have he : replayM xs = (badM 2, []) := if_pos (by omega)
   simp [he, hra0, hrs0, hrk0, eConfig, badM, zMachine, zConfig]
 · skip
   have hra0 : replayA xs = repA xs zMachine [zConfig] := if_neg (by omega)
   have hrs0 : replayS xs = repS xs zMachine [] := if_neg (by omega)
   have hrk0 : replayK xs = repK xs zMachine 0 := if_neg (by omega)
   refine D ?_
   refine L (α := Nat × Machine × Int × List Config × List Cmd) (fun p => [(16, .int .i64 p.1)]) (fun p => [(24576, .var [.int .i64 0, .int .i64 p.2.2.1, .bool false, .int .i64 p.2.1.config.version, .ref 57348 0 p.2.1.config.backends.length, .ref 57349 0 p.2.1.config.vips.length, .ref 57350 0 p.2.1.sessions.length]), (57348, .arr ⟨5, p.2.1.config.backends.map eBackend, 1, none⟩), (57349, .arr ⟨4, p.2.1.config.vips.map (eVip true), 1, none⟩), (57350, .arr ⟨3, p.2.1.sessions.map eSession, 1, none⟩), (1000000, .var [.ref 1000001 0 p.2.2.2.1.length]), (1000001, .arr ⟨3, p.2.2.2.1.map (eConfig true), 1, none⟩), (1001000, .var [.ref 1001001 0 p.2.2.2.2.length]), (1001001, .arr ⟨6, p.2.2.2.2.map eCmd, 1, none⟩), (1002000, .var [.int .i64 p.1])]) (fun p => xs.length - p.1) (fun p => p.1 ≤ xs.length ∧ MaP p.2.1 ∧ repR xs zMachine 0 [zConfig] = repR (xs.drop p.1) p.2.1 p.2.2.1 p.2.2.2.1 ∧ p.2.2.2.1.length ≤ p.1 + 1 ∧ p.2.2.2.2.length ≤ p.1 ∧ repA xs zMachine [zConfig] = repA (xs.drop p.1) p.2.1 p.2.2.2.1 ∧ repS xs zMachine [] = repS (xs.drop p.1) p.2.1 p.2.2.2.2 ∧ repK xs zMachine 0 = repK (xs.drop p.1) p.2.1 p.1) (0, zMachine, 0, [zConfig], []) [] (fun x0 hL => ?_) (by simp only [go_sem] <;> and_intros <;> first | with_reducible exact rfl | (first | omega | exact rfl)) (by exact ⟨Nat.zero_le _, maP_zero, rfl, by simp, by simp, rfl, rfl, rfl⟩)
   obtain ⟨i, m, rp, al_, cs_⟩ := x0
   obtain ⟨hi2, hP, hrp, hal, hcl, hra, hrs, hrk⟩ := hL
   try dsimp only at *
   have hm1 : limM 2097151 m := ⟨limG_mono (by omega) hP.lim.1, Nat.le_trans hP.lim.2 (by omega)⟩
   have hmf : machineFault m = 0 := ma_fault hP.cf hP.ok
   have hae : applyEntry m (xs.getD i zEntry) = if entryFault (xs.getD i zEntry) ≠ 0 then badM (entryFault (xs.getD i zEntry)) else enterM m (xs.getD i zEntry) := by unfold applyEntry; rw [if_neg (by omega)]
   refine D ?_
   refine cC (fun c1 => ?_) (fun c1 => ?_)
   · skip
     refine D ?_
     refine kR (s_impl_ApplyEntry m hm1 (xs.getD i zEntry)) ?_
     refine D ?_
     refine cC (fun c2 => ?_) (fun c2 => ?_)
     · skip
       refine D ?_
       refine E ?_
       have he : (replayM xs).1 = badM (applyEntry m (xs.getD i zEntry)).code := by
         unfold replayM
         rw [if_neg (by omega), hrp, repR_drop (by omega)]
         by_cases h : entryFault (xs.getD i zEntry) ≠ 0
         · have e : (applyEntry m (xs.getD i zEntry)) = badM (entryFault (xs.getD i zEntry)) := by rw [hae, if_pos h]
           rw [if_pos h, e]
           rfl
         · have e : (applyEntry m (xs.getD i zEntry)) = enterM m (xs.getD i zEntry) := by rw [hae, if_neg h]
           rw [if_neg h, if_pos (by rw [← e]; omega), e]
       have hra9 : replayA xs = al_ := by
         rw [hra0, hra, repA_drop (by omega)]
         by_cases h : entryFault (xs.getD i zEntry) ≠ 0
         · rw [if_pos h]
         · have e : (applyEntry m (xs.getD i zEntry)) = enterM m (xs.getD i zEntry) := by rw [hae, if_neg h]
           rw [if_neg h, if_pos (by rw [← e]; omega)]
       have hrs9 : replayS xs = cs_ := by
         rw [hrs0, hrs, repS_drop (by omega)]
         by_cases h : entryFault (xs.getD i zEntry) ≠ 0
         · rw [if_pos h]
         · have e : (applyEntry m (xs.getD i zEntry)) = enterM m (xs.getD i zEntry) := by rw [hae, if_neg h]
           rw [if_neg h, if_pos (by rw [← e]; omega)]
       have hrk9 : replayK xs = i := by
         rw [hrk0, hrk, repK_drop (by omega)]
         by_cases h : entryFault (xs.getD i zEntry) ≠ 0
         · rw [if_pos h]
         · have e : (applyEntry m (xs.getD i zEntry)) = enterM m (xs.getD i zEntry) := by rw [hae, if_neg h]
           rw [if_neg h, if_pos (by rw [← e]; omega)]
       simp [he, hra9, hrs9, hrk9, badM, zMachine, zConfig]
     · skip
       have hc0 : (applyEntry m (xs.getD i zEntry)).code = 0 := by omega
       have h0 : entryFault (xs.getD i zEntry) = 0 := by
         rw [hae] at hc0
         split at hc0
         · rename_i h; exact absurd hc0 h
         · omega
       have hen : (applyEntry m (xs.getD i zEntry)) = enterM m (xs.getD i zEntry) := by rw [hae, if_neg (by omega)]
       have hrl : limG 2097152 (applyEntry m (xs.getD i zEntry)).machine.config := by rw [hen]; exact limG_mono (by omega) (enterM_p hP h0 (by rw [← hen]; exact hc0)).lim.1
       refine D ?_
       refine kRk [1000000, 1001000, 1002000] [] [1000001, 1001001] (hf (applyEntry m (xs.getD i zEntry)) hrl al_ (by omega) cs_ (by omega) i (by omega)) ?_ hq
       refine D ?_
       refine lp_next (i + 1, (applyEntry m (xs.getD i zEntry)).machine, (applyEntry m (xs.getD i zEntry)).reply, addC al_ (applyEntry m (xs.getD i zEntry)), addK cs_ (xs.getD i zEntry) (applyEntry m (xs.getD i zEntry))) [(57348,98308),(57349,98309),(57350,98310),(1000001,136192),(1001001,136256)] ?_ ?_ ?_
       · simp only [go_sem] <;> and_intros <;> first | with_reducible exact rfl | (first | with_reducible exact rfl | omega | (simp [eConfig]; done))
       · dsimp only
         rw [hen]
         refine ⟨by omega, enterM_p hP h0 (by rw [← hen]; exact hc0), ?_, by have := addC_len al_ (enterM m (xs.getD i zEntry)); omega, by have := addK_len cs_ (xs.getD i zEntry) (enterM m (xs.getD i zEntry)); omega, ?_, ?_, ?_⟩
         · rw [hrp, repR_drop (by omega), if_neg (by omega), if_neg (by rw [← hen]; omega)]
         · rw [hra, repA_drop (by omega), if_neg (by omega), if_neg (by rw [← hen]; omega)]
         · rw [hrs, repS_drop (by omega), if_neg (by omega), if_neg (by rw [← hen]; omega)]
         · rw [hrk, repK_drop (by omega), if_neg (by omega), if_neg (by rw [← hen]; omega)]
       · try dsimp only
         omega
   · skip
     obtain rfl : i = xs.length := by omega
     refine D ?_
     refine E ?_
     have he : replayM xs = (⟨0, rp, false, m⟩, al_) := by unfold replayM; rw [if_neg (by omega), hrp, repR_end]
     have hra9 : replayA xs = al_ := by rw [hra0, hra, repA_end]
     have hrs9 : replayS xs = cs_ := by rw [hrs0, hrs, repS_end]
     have hrk9 : replayK xs = xs.length := by rw [hrk0, hrk, repK_end]
     simp [he, hra9, hrs9, hrk9]
theorem s_impl_versions_1 (r : MachineResult) (hr : limG 2097152 r.machine.config) (al : List Config) (ha : al.length ≤ 1000000) (cs : List Cmd) (hc : cs.length ≤ 1000000) (xs : List Entry) (hl : xs.length ≤ 2097152) (k : Nat) (hk : k < xs.length) : SemX prog 184 [aS (eMachineResult false r), .one (.ptr 0 0), .one (.ptr 1 0), aT (.ptr [.sl false 9 (xs.map eEntry)]), .one (.ptr 2 0)] [.var [.sl true 3 (al.map (eConfig true))], .var [.sl true 6 (cs.map eCmd)], .var [.int .i64 k]] [] [.var [.sl true 3 ((addC al r).map (eConfig true))], .var [.sl true 6 ((addK cs (xs.getD k zEntry) r).map eCmd)], .var [.int .i64 (k + 1 : Nat)]] := by
 refine goF [] [(2, 0, [1000000], []), (2, 3, [24576], []), (2, 4, [], [73729, 73730]), (2, 5, [73729, 73730], [77824, 73729, 73730]), (2, 6, [1000001, 77824], [81920, 1000001, 77824]), (2, 7, [1001000], []), (2, 9, [1002000], []), (2, 13, [], [110592]), (2, 14, [1001001, 110592], [114688, 1001001, 110592]), (2, 15, [1000000], [1000000]), (2, 16, [1001000], [1001000])] [] func184 ?_
 refine D ?_
 refine cC (fun c0 => ?_) (fun c0 => ?_)
 · skip
   refine D ?_
   refine kD (s_impl_Config_copied r.machine.config hr) ?_
   refine D ?_
   refine E ?_
   have hac : addC al r = al ++ [r.machine.config] := if_pos (by unfold freshM; simpa using c0)
   have had : addK cs (xs.getD k zEntry) r = cs ++ [(xs.getD k zEntry).cmd] := if_pos (by unfold freshM; simpa using c0)
   simp [hac, had, eConfig, eCmd, -List.getD_eq_getElem?_getD]
 · skip
   refine D ?_
   refine E ?_
   have hac : addC al r = al := if_neg (by unfold freshM; rw [c0]; simp)
   have had : addK cs (xs.getD k zEntry) r = cs := if_neg (by unfold freshM; rw [c0]; simp)
   simp [hac, had, -List.getD_eq_getElem?_getD]
section
attribute [local go_sem] zConfig
theorem s_impl_versions (xs : List Entry) (hl : xs.length ≤ 2097152) : SemX prog 101 [aT (.sl false 9 (xs.map eEntry))] [] [.one (.sl true 3 ((replayM xs).2.map (eConfig true))), .one (.sl true 6 ((verS xs).map eCmd)), rI (replayM xs).1.code] [] := by
 refine goF [] [(5, 1, [36864], []), (6, 0, [24576], []), (6, 1, [28672], [])] [] func101 ?_
 have hal := replayA_lim xs
 have hsl := replayS_len xs
 refine D ?_
 refine kRk [24576, 28672, 32768] [] [45056, 49152] (s_impl_replay_v xs hl 184 (by kernel_rfl) (fun r hr al ha cs hc k hk => s_impl_versions_1 r hr al ha cs hc xs hl k hk)) ?_
 refine D ?_
 refine cC (fun c0 => ?_) (fun c0 => ?_)
 · skip
   refine D ?_
   refine E ?_
   have he : verS xs = [] := if_pos (by omega)
   simp [he, replay_bad (xs := xs) (by omega)]
 · skip
   refine D ?_
   refine E ?_
   have he : verS xs = replayS xs := if_neg (by omega)
   have hc9 : (replayM xs).1.code = 0 := by omega
   rw [he, replayA_eq hc9, hc9]
end
theorem s_impl_size_Config (rows : List (List T)) : SemX prog 111 [aT (.sl false 3 rows)] [] [rI rows.length] [] := by
 refine goF [] [] [] func111 ?_
 refine D ?_
 refine E ?_
 first
 | exact trivial
 | exact rfl
theorem s_impl_size_Mux (rows : List (List T)) : SemX prog 159 [aT (.sl false 8 rows)] [] [rI rows.length] [] := by
 refine goF [] [] [] func159 ?_
 refine D ?_
 refine E ?_
 first
 | exact trivial
 | exact rfl
theorem s_slices_Equal_Backend (a b : List Backend) (ha : a.length ≤ 2097152) (hb : b.length ≤ 2097152) : SemX prog 225 [aT (.sl false 5 (a.map eBackend)), aT (.sl false 5 (b.map eBackend))] [] [rB (decide (a = b))] [] := by
 refine goF [] [] [] func225 ?_
 refine D ?_
 refine cC (fun c0 => ?_) (fun c0 => ?_)
 · skip
   have he : ¬ a = b := fun e => by subst e; simp at c0
   refine D ?_
   refine E ?_
   simp [he]
 · skip
   have hle : a.length = b.length := by omega
   refine D ?_
   refine L (α := Nat) (fun x => [(13, .int .i64 x)]) (fun x => []) (fun x => a.length - x) (fun x => x ≤ a.length ∧ ∀ j, j < x → a.getD j zBackend = b.getD j zBackend) 0 [] (fun x hL => ?_) (hi := by exact ⟨Nat.zero_le _, fun j hj => by omega⟩)
   obtain ⟨hx2, hno⟩ := hL
   refine D ?_
   refine cC (fun c1 => ?_) (fun c1 => ?_)
   · skip
     refine D ?_
     refine cC (fun c2 => ?_) (fun c2 => ?_)
     · skip
       have he : ¬ a = b := fun e => by subst e; simp at c2
       refine D ?_
       refine E ?_
       simp [he]
     · skip
       refine D ?_
       refine N (x+1) [] (hi := ?_) (hm := ?_)
       · refine ⟨by omega, fun j hj => ?_⟩
         rcases Nat.lt_or_ge j x with h | h
         · exact hno j h
         · obtain rfl : j = x := by omega
           first | exact c2 | (simpa using c2) | (rw [eq_backend]; simpa [and_assoc] using c2) | (rw [eq_backend]; grind)
       · omega
   · skip
     obtain rfl : x = a.length := by omega
     refine D ?_
     refine E ?_
     have he : a = b := eq_getD zBackend hle hno
     simp [he]
theorem s_slices_EqualFunc_Vip (a b : List Vip) (ha : a.length ≤ 2097152) (hb : b.length ≤ 2097152) (hA_ : ∀ y ∈ a, limV 2097152 y) (hB_ : ∀ y ∈ b, limV 2097152 y) (fn : Nat) (hq : callB prog fn = true) (hf : ∀ a b : Vip, limV 2097152 a → limV 2097152 b → SemX prog fn [aS (eVip false a), aS (eVip false b)] [] [rB (decide (a = b))] []) : SemX prog 226 [aT (.sl false 4 (a.map (eVip false))), aT (.sl false 4 (b.map (eVip false))), .one (.fn fn [])] [] [rB (decide (a = b))] [] := by
 refine goF [] [] [] func226 ?_
 refine D ?_
 refine cC (fun c0 => ?_) (fun c0 => ?_)
 · skip
   have he : ¬ a = b := fun e => by subst e; simp at c0
   refine D ?_
   refine E ?_
   simp [he]
 · skip
   have hle : a.length = b.length := by omega
   refine D ?_
   refine L (α := Nat) (fun x => [(17, .int .i64 x)]) (fun x => []) (fun x => a.length - x) (fun x => x ≤ a.length ∧ ∀ j, j < x → a.getD j zVip = b.getD j zVip) 0 [] (fun x hL => ?_) (hi := by exact ⟨Nat.zero_le _, fun j hj => by omega⟩)
   obtain ⟨hx2, hno⟩ := hL
   refine D ?_
   refine cC (fun c1 => ?_) (fun c1 => ?_)
   · skip
     refine D ?_
     refine kR (hf (a.getD x zVip) (b.getD x zVip) (hA_ _ (getD_mem zVip (by omega))) (hB_ _ (getD_mem zVip (by omega)))) ?_ hq
     refine D ?_
     refine cC (fun c2 => ?_) (fun c2 => ?_)
     · skip
       have he : ¬ a = b := fun e => by subst e; simp at c2
       refine D ?_
       refine E ?_
       simp [he]
     · skip
       refine D ?_
       refine N (x+1) [] (hi := ?_) (hm := ?_)
       · refine ⟨by omega, fun j hj => ?_⟩
         rcases Nat.lt_or_ge j x with h | h
         · exact hno j h
         · obtain rfl : j = x := by omega
           first | exact c2 | (simpa using c2) | (rw [eq_vip]; simpa [and_assoc] using c2) | (rw [eq_vip]; grind)
       · omega
   · skip
     obtain rfl : x = a.length := by omega
     refine D ?_
     refine E ?_
     have he : a = b := eq_getD zVip hle hno
     simp [he]
theorem s_impl_sameVip (a b : Vip) (ha : limV 2097152 a) (hb : limV 2097152 b) : SemX prog 227 [aS (eVip false a), aS (eVip false b)] [] [rB (decide (a = b))] [] := by
 refine goF [] [] [] func227 ?_
 refine D ?_
 refine kR (s_impl_compareVip a b) ?_
 refine D ?_
 refine kRg (s_slices_Equal_int64 a.names b.names ha hb) ?_
 refine D ?_
 refine E ?_
 first
 | exact trivial
 | rw [same_vip]
theorem s_impl_sameConfigs (a b : Config) (ha : limG 2097152 a) (hb : limG 2097152 b) : SemX prog 160 [aS (eConfig false a), aS (eConfig false b)] [] [rB (decide (a = b))] [] := by
 refine goF [] [] [] func160 ?_
 obtain ⟨ha1, ha2, ha3⟩ := id ha
 obtain ⟨hb1, hb2, hb3⟩ := id hb
 refine D ?_
 refine kRg (s_slices_Equal_Backend a.backends b.backends ha1 hb1) ?_
 refine D ?_
 refine kRg (s_slices_EqualFunc_Vip a.vips b.vips ha2 hb2 ha3 hb3 227 (by kernel_rfl) (fun a b ha hb => s_impl_sameVip a b ha hb)) ?_
 refine D ?_
 refine E ?_
 first
 | exact trivial
 | simp [eq_config, Bool.and_assoc]
theorem s_impl_look (f : Fleet) (hf : limF 2097152 f) : SemX prog 80 [aS (eFleet false f)] [] [.one (.sl true 3 ((lookA f).map (eConfig true))), .one (.sl true 6 ((lookS f).map eCmd)), rI (fleetFault f)] [] := by
 refine goF [(106, ⟨some 1, none, none, none⟩)] [(13, 1, [40960], []), (13, 8, [40960], []), (13, 11, [49152], []), (13, 13, [110592], []), (13, 16, [49152], []), (13, 19, [49152], []), (13, 20, [110592], []), (13, 21, [110592], []), (13, 22, [110592], [])] [] func80 ?_
 obtain ⟨hfa, hfm, hfx⟩ := id hf
 have hal := replay_al f.agreed
 have hav : ∀ v : Nat, limG 2097152 ((replayM f.agreed).2.getD v zConfig) := fun v => limG_mono (by omega) (getD_lim hal.1 v)
 refine D ?_
 refine kRg (s_impl_size_Mux (f.muxes.map (eMux false))) ?_
 refine D ?_
 refine kRg (s_impl_in f.muxes.length 1 3) ?_
 refine D ?_
 refine cC (fun c0 => ?_) (fun c0 => ?_)
 · skip
   have hff : fleetFault f = 2 := if_pos (by first | omega | (simp [inR] at c0; omega) | (simp at c0; omega) | grind)
   refine D ?_
   refine E ?_
   have he : fleetFault f = 2 := hff
   have hla : lookA f = [] := if_pos (by omega)
   have hls : lookS f = [] := if_pos (by omega)
   rw [he, hla, hls]
   simp
 · skip
   have hn : f.agreed.length ≤ 80 ∧ 1 ≤ f.muxes.length ∧ f.muxes.length ≤ 3 := by first | omega | (simp [inR] at c0; omega) | (simp at c0; omega) | grind
   have hff0 : fleetFault f = if (replayM f.agreed).1.code ≠ 0 then (replayM f.agreed).1.code else scan (muxAt (replayM f.agreed).2 f.muxes) f.muxes.length 0 := if_neg (by omega)
   refine D ?_
   refine kR (s_impl_versions f.agreed hfa) ?_
   refine D ?_
   refine cC (fun c1 => ?_) (fun c1 => ?_)
   · skip
     have hff : fleetFault f = (replayM f.agreed).1.code := by rw [hff0, if_pos (by omega)]
     refine D ?_
     refine E ?_
     have he : fleetFault f = (replayM f.agreed).1.code := hff
     have hla : lookA f = [] := if_pos (by omega)
     have hls : lookS f = [] := if_pos (by omega)
     rw [he, hla, hls]
     simp
   · skip
     have hrc : (replayM f.agreed).1.code = 0 := by omega
     have hff1 : fleetFault f = scan (muxAt (replayM f.agreed).2 f.muxes) f.muxes.length 0 := by rw [hff0, if_neg (by omega)]
     have hvs : verS f.agreed = replayS f.agreed := if_neg (by omega)
     have hrl := replay_len hrc
     refine D ?_
     refine L (α := Nat) (fun i => [(36, .int .i64 i)]) (fun i => []) (fun i => f.muxes.length - i) (fun i => i ≤ f.muxes.length ∧ scan (muxAt (replayM f.agreed).2 f.muxes) f.muxes.length 0 = scan (muxAt (replayM f.agreed).2 f.muxes) f.muxes.length i) 0 [] (fun i hL => ?_) (hi := by exact ⟨Nat.zero_le _, rfl⟩)
     obtain ⟨hi2, hie⟩ := hL
     refine D ?_
     refine cC (fun c2 => ?_) (fun c2 => ?_)
     · skip
       have hst := scan_lt (f := (muxAt (replayM f.agreed).2 f.muxes)) (show i < f.muxes.length by omega)
       have hxi := hfx _ (getD_mem zMux (show i < f.muxes.length by omega))
       have hd : muxAt (replayM f.agreed).2 f.muxes i = if muxFault (f.muxes.getD i zMux) ≠ 0 then muxFault (f.muxes.getD i zMux) else if (f.muxes.getD i zMux).address ≠ 600 + i ∨ readyBad (replayM f.agreed).2 (f.muxes.getD i zMux) = true then 1 else 0 := rfl
       refine D ?_
       refine kR (s_impl_MuxFault (f.muxes.getD i zMux) hxi) ?_
       refine D ?_
       refine cC (fun c3 => ?_) (fun c3 => ?_)
       · skip
         have hbz : muxAt (replayM f.agreed).2 f.muxes i = muxFault (f.muxes.getD i zMux) := by rw [hd, if_pos (by omega)]
         refine D ?_
         refine E ?_
         have he : fleetFault f = muxFault (f.muxes.getD i zMux) := by rw [hff1, hie, hst, if_neg (by omega), hbz]
         have hla : lookA f = [] := if_pos (by omega)
         have hls : lookS f = [] := if_pos (by omega)
         rw [he, hla, hls]
         simp
       · skip
         have hmf : muxFault (f.muxes.getD i zMux) = 0 := by omega
         have hcv := cf_ver (watch_cf (mux_ok hmf).2.1)
         rw [if_neg (by omega)] at hd
         refine D ?_
         refine kDg (s_impl_size_Config ((replayM f.agreed).2.map (eConfig false))) ?_
         refine D ?_
         refine kDg (s_impl_sameConfigs (f.muxes.getD i zMux).watch.config ((replayM f.agreed).2.getD (f.muxes.getD i zMux).watch.config.version.toNat zConfig) hxi.1 (hav _)) ?_
         refine D ?_
         refine cC (fun c4 => ?_) (fun c4 => ?_)
         · skip
           have hbz : muxAt (replayM f.agreed).2 f.muxes i = 1 := by rw [hd]; unfold readyBad; grind
           refine D ?_
           refine E ?_
           have he : fleetFault f = 1 := by rw [hff1, hie, hst, if_neg (by omega), hbz]
           have hla : lookA f = [] := if_pos (by omega)
           have hls : lookS f = [] := if_pos (by omega)
           rw [he, hla, hls]
           simp
         · skip
           have hbz : muxAt (replayM f.agreed).2 f.muxes i = 0 := by rw [hd]; unfold readyBad; grind
           refine D ?_
           refine N (i+1) [] (hi := ?_) (hm := ?_)
           · refine ⟨by omega, ?_⟩
             rw [hie, hst, if_pos hbz]
           · omega
     · skip
       have hs0 : scan (muxAt (replayM f.agreed).2 f.muxes) f.muxes.length 0 = 0 := by rw [hie, scan_ge (by omega)]
       refine D ?_
       refine E ?_
       have he : fleetFault f = 0 := by rw [hff1, hs0]
       have hla : lookA f = (replayM f.agreed).2 := if_neg (by omega)
       have hls : lookS f = (replayS f.agreed) := if_neg (by omega)
       rw [he, hla, hls]
       simp [hvs]
theorem s_impl_FleetFault (f : Fleet) (hf : limF 2097152 f) : SemX prog 29 [aS (eFleet false f)] [] [rI (fleetFault f)] [] := by
 refine goF [] [] [] func29 ?_
 refine D ?_
 refine kR (s_impl_look f hf) ?_
 refine D ?_
 exact E trivial
theorem s_spec_l1In (a b c : Int) : SemX prog 57 [.one (.t (.int .i64 a)), .one (.t (.int .i64 b)), .one (.t (.int .i64 c))] [] [.one (.bool (inR a b c))] [] := by
 refine goF [] [] [] func57 ?_
 refine D ?_
 refine E ?_
 first
 | exact trivial
 | simp only [go_sem, inR]; done
 | try simp only [go_sem, inR]
   exact rfl
theorem s_spec_l2Address (n : Int) : SemX prog 114 [aI n] [] [rB (inR n 0 4294967295)] [] := by
 refine goF [] [] [] func114 ?_
 refine D ?_
 refine kR (s_spec_l1In n 0 4294967295) ?_
 refine D ?_
 exact E trivial
theorem s_spec_l14Now (n : Int) : SemX prog 115 [aI n] [] [rB (inR n 0 1000000000)] [] := by
 refine goF [] [] [] func115 ?_
 refine D ?_
 refine kR (s_spec_l1In _ _ _) ?_
 refine D ?_
 exact E trivial
theorem s_spec_l5Version (n : Int) : SemX prog 164 [aI n] [] [rB (inR n 0 1000000)] [] := by
 refine goF [] [] [] func164 ?_
 refine D ?_
 refine kR (s_spec_l1In n 0 1000000) ?_
 refine D ?_
 exact E trivial
theorem s_spec_l3Name (n : Int) : SemX prog 232 [aI n] [] [rB (inR n 1 999)] [] := by
 refine goF [] [] [] func232 ?_
 refine D ?_
 refine kR (s_spec_l1In n 1 999) ?_
 refine D ?_
 exact E trivial
theorem s_spec_l5Backend (b : Backend) : SemX prog 229 [aS (eBackend b)] [] [rB (isBk b)] [] := by
 refine goF [] [] [] func229 ?_
 refine D ?_
 refine kR (s_spec_l3Name _) ?_
 refine D ?_
 refine kRg (s_spec_l2Address _) ?_
 refine D ?_
 refine kRg (s_spec_l1In _ _ _) ?_
 refine D ?_
 refine kRg (s_spec_l1In _ _ _) ?_
 refine D ?_
 refine E ?_
 first
 | exact trivial
 | simp only [go_sem, isBk]
theorem s_spec_l5At (c : Config) (hx : limG 2097152 c) (n : Int) : SemX prog 145 [aT (.ptr (eConfig false c)), aI n] [] [rI (findB c.backends n)] [] := by
 refine goF [] [] [] func145 ?_
 obtain ⟨hb, hv, hV⟩ := id hx
 refine D ?_
 refine L (α := Nat) (fun x => [(5, .int .i64 x)]) (fun x => []) (fun x => c.backends.length - x) (fun x => x ≤ c.backends.length ∧ ∀ j, j < x → isB n (c.backends.getD j zBackend) = false) 0 [] (fun x hL => ?_) (hi := by exact ⟨Nat.zero_le _, fun j hj => by omega⟩)
 obtain ⟨hx2, hno⟩ := hL
 refine D ?_
 refine cC (fun c0 => ?_) (fun c0 => ?_)
 · skip
   refine D ?_
   refine cC (fun c1 => ?_) (fun c1 => ?_)
   · skip
     refine D ?_
     refine E ?_
     have he : findB c.backends n = x := idxG_some zBackend (by omega) hno (by simpa [isB] using c1)
     rw [he]
   · skip
     refine D ?_
     refine N (x+1) [] (hi := ?_) (hm := ?_)
     · refine ⟨by omega, fun j hj => ?_⟩
       rcases Nat.lt_or_ge j x with h | h
       · exact hno j h
       · obtain rfl : j = x := by omega
         first | exact c1 | (simpa [isB, isV, eqI] using c1) | (simp [isB, isV, eqI]; grind)
     · omega
 · skip
   obtain rfl : x = c.backends.length := by omega
   refine D ?_
   refine E ?_
   have he : findB c.backends n = -1 := idxG_none zBackend hno
   rw [he]
theorem s_spec_l5Proto (n : Int) : SemX prog 234 [aI n] [] [rB (isPro n)] [] := by
 refine goF [] [] [] func234 ?_
 refine D ?_
 refine E ?_
 first
 | exact trivial
 | simp only [go_sem, isPro]; done
 | try simp only [go_sem, isPro]
   cases decide (n = 6) <;> rfl
theorem s_spec_l2Port (n : Int) : SemX prog 260 [aI n] [] [rB (inR n 0 65535)] [] := by
 refine goF [] [] [] func260 ?_
 refine D ?_
 refine kR (s_spec_l1In n 0 65535) ?_
 refine D ?_
 exact E trivial
theorem s_spec_l5Behind (a b : Vip) : SemX prog 273 [aS (eVip false a), aS (eVip false b)] [] [rB (behV a b)] [] := by
 refine goF [] [] [] func273 ?_
 refine D ?_
 refine cC (fun c0 => ?_) (fun c0 => ?_)
 · skip
   refine D ?_
   refine E ?_
   first
   | exact trivial
   | simp [behV, *]
 · skip
   refine D ?_
   refine cC (fun c1 => ?_) (fun c1 => ?_)
   · skip
     refine D ?_
     refine E ?_
     first
     | exact trivial
     | simp [behV, *]
   · skip
     refine D ?_
     refine E ?_
     first
     | exact trivial
     | simp [behV, *]
theorem s_spec_l5Vip (c : Config) (hx : limG 2097152 c) (i : Nat) (hi : i < c.vips.length) : SemX prog 230 [aT (.ptr (eConfig false c)), aI i] [] [rI (vipBad c i)] [] := by
 refine goF [(80, ⟨some 1, none, none, none⟩)] [(4, 11, [24576], []), (14, 1, [24576], []), (14, 6, [24576], [])] [] func230 ?_
 obtain ⟨hb, hv, hV⟩ := id hx
 have hnl : (c.vips.getD i zVip).names.length ≤ 2097152 := hV _ (getD_mem zVip hi)
 refine D ?_
 refine kR (s_spec_l2Address _) ?_
 refine D ?_
 refine kRg (s_spec_l2Port _) ?_
 refine D ?_
 refine kRg (s_spec_l5Proto _) ?_
 refine D ?_
 refine cC (fun c0 => ?_) (fun c0 => ?_)
 · skip
   have hv3 : isVp (c.vips.getD i zVip) = false := by unfold isVp; grind
   refine D ?_
   refine E ?_
   unfold vipBad
   rw [if_pos hv3]
 · skip
   have hv3 : isVp (c.vips.getD i zVip) = true := by unfold isVp; grind
   refine D ?_
   refine kDg (s_spec_l5Behind (c.vips.getD (i - 1) zVip) (c.vips.getD i zVip)) ?_
   refine D ?_
   refine cC (fun c1 => ?_) (fun c1 => ?_)
   · skip
     refine D ?_
     refine E ?_
     unfold vipBad
     grind
   · skip
     refine D ?_
     refine L (α := Nat) (fun x => [(6, .int .i64 x)]) (fun x => []) (fun x => (c.vips.getD i zVip).names.length - x) (fun x => x ≤ (c.vips.getD i zVip).names.length ∧ ∀ j, j < x → noB c.backends ((c.vips.getD i zVip).names.getD j zI_i64) = false) 0 [] (fun x hL => ?_) (hi := by exact ⟨Nat.zero_le _, fun j hj => by omega⟩)
     obtain ⟨hx2, hno⟩ := hL
     refine D ?_
     refine cC (fun c2 => ?_) (fun c2 => ?_)
     · skip
       refine D ?_
       refine kR (s_spec_l5At c hx ((c.vips.getD i zVip).names.getD x zI_i64)) ?_
       refine D ?_
       refine cC (fun c3 => ?_) (fun c3 => ?_)
       · skip
         refine D ?_
         refine E ?_
         have hh : hasG (noB c.backends) (c.vips.getD i zVip).names = true := hasG_true zI_i64 (i := x) (by omega) (by unfold noB; grind)
         unfold vipBad
         grind
       · skip
         refine D ?_
         refine N (x+1) [] (hi := ?_) (hm := ?_)
         · refine ⟨by omega, fun j hj => ?_⟩
           rcases Nat.lt_or_ge j x with h | h
           · exact hno j h
           · obtain rfl : j = x := by omega
             simp [noB]; simp at *; omega
         · omega
     · skip
       obtain rfl : x = (c.vips.getD i zVip).names.length := by omega
       refine D ?_
       refine L (α := Nat) (fun y => [(7, .int .i64 y)]) (fun y => []) (fun y => (c.vips.getD i zVip).names.length - y) (fun y => 1 ≤ y ∧ (y ≤ (c.vips.getD i zVip).names.length ∨ y = 1) ∧ scan (nmBad (c.vips.getD i zVip)) (c.vips.getD i zVip).names.length 1 = scan (nmBad (c.vips.getD i zVip)) (c.vips.getD i zVip).names.length y) 1 [] (fun y hL => ?_) (hi := by exact ⟨Nat.le_refl _, .inr rfl, rfl⟩)
       obtain ⟨hy, hy2, hys⟩ := hL
       refine D ?_
       refine cC (fun c4 => ?_) (fun c4 => ?_)
       · skip
         refine D ?_
         refine cC (fun c5 => ?_) (fun c5 => ?_)
         · skip
           refine D ?_
           refine E ?_
           have hh : hasG (noB c.backends) (c.vips.getD i zVip).names = false := hasG_false zI_i64 hno
           have hs : scan (nmBad (c.vips.getD i zVip)) (c.vips.getD i zVip).names.length y = 1 := by
             rw [scan_lt (by omega)]
             unfold nmBad
             grind
           unfold vipBad
           grind
         · skip
           refine D ?_
           refine N (y+1) [] (hi := ?_) (hm := ?_)
           · refine ⟨by omega, .inl (by omega), ?_⟩
             rw [hys, scan_lt (by omega), if_pos]
             unfold nmBad
             simp at *
             grind
           · omega
       · skip
         refine D ?_
         refine E ?_
         have hh : hasG (noB c.backends) (c.vips.getD i zVip).names = false := hasG_false zI_i64 hno
         have hs : scan (nmBad (c.vips.getD i zVip)) (c.vips.getD i zVip).names.length y = 0 := scan_ge (by omega)
         unfold vipBad
         grind
theorem s_spec_l5Fault (c : Config) (hx : limG 2097152 c) : SemX prog 165 [aT (.ptr (eConfig false c))] [] [rI (configFault c)] [] := by
 refine goF [(122, ⟨some 1, none, none, none⟩)] [] [] func165 ?_
 obtain ⟨hb, hv, hV⟩ := id hx
 refine D ?_
 refine kR (s_spec_l5Version _) ?_
 refine D ?_
 refine cC (fun c0 => ?_) (fun c0 => ?_)
 · skip
   refine D ?_
   refine E ?_
   first
   | exact trivial
   | unfold configFault
     grind
 · skip
   refine D ?_
   refine cC (fun c1 => ?_) (fun c1 => ?_)
   · skip
     refine D ?_
     refine E ?_
     first
     | exact trivial
     | unfold configFault
       grind
   · skip
     refine D ?_
     refine L (α := Nat) (fun x => [(3, .int .i64 x)]) (fun x => []) (fun x => c.backends.length - x) (fun x => x ≤ c.backends.length ∧ scan (bkBad c.backends) c.backends.length 0 = scan (bkBad c.backends) c.backends.length x) 0 [] (fun x hL => ?_) (hi := by exact ⟨Nat.zero_le _, rfl⟩)
     obtain ⟨hx2, he⟩ := hL
     refine D ?_
     refine cC (fun c2 => ?_) (fun c2 => ?_)
     · skip
       have hst := scan_lt (f := bkBad c.backends) (show x < c.backends.length by omega)
       have hd : bkBad c.backends x = if isBk (c.backends.getD x zBackend) = false then 3 else if 0 < x ∧ (c.backends.getD x zBackend).name ≤ (c.backends.getD (x - 1) zBackend).name then 1 else 0 := rfl
       refine D ?_
       refine kR (s_spec_l5Backend _) ?_
       refine D ?_
       refine cC (fun c3 => ?_) (fun c3 => ?_)
       · skip
         refine D ?_
         refine E ?_
         first
         | exact trivial
         | unfold configFault
           grind
       · skip
         refine D ?_
         refine cC (fun c4 => ?_) (fun c4 => ?_)
         · skip
           refine D ?_
           refine E ?_
           first
           | exact trivial
           | unfold configFault
             grind
         · skip
           refine D ?_
           refine N (x+1) [] (hi := ?_) (hm := ?_)
           · refine ⟨by omega, ?_⟩
             rw [he, scan_lt (by omega), if_pos]
             unfold bkBad
             grind
           · omega
     · skip
       have hs0 : scan (bkBad c.backends) c.backends.length 0 = 0 := by rw [he, scan_ge (by omega)]
       refine D ?_
       refine L (α := Nat) (fun i => [(4, .int .i64 i)]) (fun i => []) (fun i => c.vips.length - i) (fun i => i ≤ c.vips.length ∧ scan (vipBad c) c.vips.length 0 = scan (vipBad c) c.vips.length i) 0 [] (fun i hL => ?_) (hi := by exact ⟨Nat.zero_le _, rfl⟩)
       obtain ⟨hi2, hie⟩ := hL
       refine D ?_
       refine cC (fun c5 => ?_) (fun c5 => ?_)
       · skip
         have hst2 := scan_lt (f := vipBad c) (show i < c.vips.length by omega)
         refine D ?_
         refine kR (s_spec_l5Vip c hx i (by omega)) ?_
         refine D ?_
         refine cC (fun c6 => ?_) (fun c6 => ?_)
         · skip
           refine D ?_
           refine E ?_
           first
           | exact trivial
           | unfold configFault
             grind
         · skip
           refine D ?_
           refine N (i+1) [] (hi := ?_) (hm := ?_)
           · refine ⟨by omega, ?_⟩
             rw [hie, scan_lt (by omega), if_pos]
             grind
           · omega
       · skip
         have hs1 : scan (vipBad c) c.vips.length 0 = 0 := by rw [hie, scan_ge (by omega)]
         refine D ?_
         refine E ?_
         first
         | exact trivial
         | unfold configFault
           grind
theorem s_spec_l13Empty (c : Config) (hx : limG 2097152 c) : SemX prog 166 [aT (.ptr (eConfig false c))] [] [rB (cfgZero c)] [] := by
 refine goF [] [] [] func166 ?_
 obtain ⟨hb, hv, hV⟩ := id hx
 refine D ?_
 refine E ?_
 first
 | exact trivial
 | simp only [go_sem, cfgZero]; done
 | try simp only [go_sem, cfgZero]
   first | rfl | (simp; done) | (simp [Bool.and_assoc]; done) | grind
theorem s_spec_WatchFault (w : Watch) (hw : limG 2097152 w.config) : SemX prog 116 [aS (eWatch false w)] [] [rI (watchFault w)] [] := by
 refine goF [] [] [] func116 ?_
 refine D ?_
 refine kR (s_spec_l5Fault w.config hw) ?_
 refine D ?_
 refine cC (fun c0 => ?_) (fun c0 => ?_)
 · skip
   refine D ?_
   refine E ?_
   first
   | exact trivial
   | unfold watchFault
     grind
 · skip
   refine D ?_
   refine kRg (s_spec_l13Empty w.config hw) ?_
   refine D ?_
   refine cC (fun c1 => ?_) (fun c1 => ?_)
   · skip
     refine D ?_
     refine E ?_
     first
     | exact trivial
     | unfold watchFault
       grind
   · skip
     refine D ?_
     refine E ?_
     first
     | exact trivial
     | unfold watchFault
       grind
theorem s_spec_l4Weights (l : List Share) (hl : l.length ≤ 2097152) (hw : ∀ s ∈ l, 0 ≤ s.weight ∧ s.weight ≤ 9) : SemX prog 258 [aT (.sl false 2 (l.map eShare))] [] [rI (sumW l)] [] := by
 refine goF [(36, ⟨some 1, none, none, none⟩), (22, ⟨some 1, none, none, none⟩)] [] [] func258 ?_
 have hs0 : sumW [] = 0 := rfl
 have hA := hs0
 refine D ?_
 refine L (α := Nat) (fun i => [(3, .int .i64 (sumW (l.take i))), (4, .int .i64 i)]) (fun i => []) (fun i => l.length - i) (fun i => i ≤ l.length) 0 [] (fun i hI => ?_)
 have hb := sumW_bd (l := l.take i) fun s hs => hw s (List.mem_of_mem_take hs)
 rw [List.length_take] at hb
 refine D ?_
 refine cC (fun c0 => ?_) (fun c0 => ?_)
 · skip
   have hwi := hw _ (getD_mem zShare (show i < l.length by omega))
   refine D ?_
   refine lp_next (i+1) [] ?_ ?_ ?_
   · simp only [go_sem, hA] <;> and_intros <;> first | with_reducible exact rfl | (first | with_reducible exact rfl | omega | (rw [sumW_take (by omega)]; done))
   · omega
   · omega
 · skip
   obtain rfl : i = l.length := by omega
   refine D ?_
   refine E ?_
   first
   | exact trivial
   | rw [List.take_of_length_le (Nat.le_refl _)]
theorem s_spec_l3Mod (n b : Int) (hb : 0 < b) (hb2 : b ≤ 4294967296) : SemX prog 287 [aI n, aI b] [] [rI (restI n b)] [] := by
 refine goF [(20, ⟨some 1, none, none, none⟩)] [] [] func287 ?_
 have hr := Int.tmod_lt_of_pos n hb
 have hr2 : -b < n.tmod b := by
   have h3 := Int.tmod_lt_of_pos (-n) hb
   rw [Int.neg_tmod] at h3
   omega
 refine D ?_
 refine E ?_
 first
 | exact trivial
 | simp only [go_sem, restI]
end Go.H
end
