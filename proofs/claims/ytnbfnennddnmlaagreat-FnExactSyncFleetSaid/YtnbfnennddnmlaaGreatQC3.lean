/- What the functions that several laws reach compute, each by its code, against pure functions. Conditions: those that each theorem states. -/
import Derived.Test.YtnbfnennddnmlaaGreatQC2
section
set_option maxRecDepth 100000
set_option maxHeartbeats 4000000
set_option cbv.maxSteps 4000000
set_option linter.unusedVariables false
set_option linter.unusedSimpArgs false
namespace Go.H
open Go Go.Proofs.Tryz
variable [Inv prog]
theorem s_spec_MixNumber (n s : Int) : SemX prog 266 [aI n, aI s] [] [rI (mix n s)] [] := by
 refine goF [(20, ⟨some 1, none, none, none⟩), (36, ⟨some 1, none, none, none⟩), (42, ⟨some 1, none, none, none⟩), (44, ⟨some 1, none, none, none⟩), (50, ⟨some 1, none, none, none⟩)] [] [] func266 ?_
 have hs := restI_bd (n := s) (b := 10007) (by omega)
 have hn := restI_bd (n := n) (b := 4294967296) (by omega)
 refine D ?_
 refine kR (s_spec_l3Mod s 10007 (by omega) (by omega)) ?_
 refine D ?_
 refine kR (s_spec_l3Mod n 4294967296 (by omega) (by omega)) ?_
 refine D ?_
 refine L (α := Nat × Int × Int) (fun x => [(0, .int .i64 x.2.2), (5, .int .i64 x.2.1), (6, .int .i64 x.1)]) (fun x => []) (fun x => 4 - x.1) (fun x => x.1 ≤ 4 ∧ 0 ≤ x.2.1 ∧ x.2.1 < 1000003 ∧ 0 ≤ x.2.2 ∧ x.2.2 ≤ 4294967295 ∧ mixS (4 - x.1) x.2.1 x.2.2 = mix n s) (0, restI s 10007 + 11, restI n 4294967296) [] (fun x0 hL => ?_) (hi := by exact ⟨by omega, by dsimp only; omega, by dsimp only; omega, hn.1, by dsimp only; omega, rfl⟩)
 obtain ⟨k, h, w⟩ := x0
 obtain ⟨hk, h1, h2, h3, h4, h5⟩ := hL
 try dsimp only at *
 have e1 : 0 ≤ w.tmod 256 := Int.tmod_nonneg _ h3
 have e2 := Int.tmod_lt_of_pos w (show (0 : Int) < 256 by omega)
 have e3 : 0 ≤ w.tdiv 256 := Int.tdiv_nonneg h3 (by omega)
 have e4 := Int.le_trans (Int.tdiv_le_self 256 h3) h4
 refine D ?_
 refine cC (fun c0 => ?_) (fun c0 => ?_)
 · skip
   refine D ?_
   refine N (k + 1, (h * 131 + w.tmod 256 + 1).tmod 1000003, w.tdiv 256) [] (hi := ?_) (hm := ?_)
   · dsimp only
     refine ⟨by omega, Int.tmod_nonneg _ (by omega), Int.tmod_lt_of_pos _ (by omega), Int.tdiv_nonneg h3 (by omega), ?_, ?_⟩
     · exact e4
     · rw [← h5, show 4 - k = (4 - (k + 1)) + 1 by omega, mixS]
   · try dsimp only
     omega
 · skip
   obtain rfl : k = 4 := by omega
   simp only [Nat.sub_self, mixS] at h5
   refine D ?_
   refine E ?_
   first
   | exact trivial
   | rw [h5]
theorem s_spec_l3Offset (n : Int) : SemX prog 297 [aI n] [] [rI (offI n)] [] := by
 refine goF [] [] [] func297 ?_
 refine D ?_
 refine kR (s_spec_MixNumber n 3) ?_
 refine D ?_
 refine E ?_
 first
 | exact trivial
 | simp only [go_sem, offI]
theorem s_spec_l3Skip (n : Int) : SemX prog 298 [aI n] [] [rI (skipI n)] [] := by
 refine goF [(14, ⟨some 1, none, none, none⟩)] [] [] func298 ?_
 have h1 : 0 ≤ (mix n 5).tmod 30 := Int.tmod_nonneg _ (mix_bd n 5).1
 have h2 := Int.tmod_lt_of_pos (mix n 5) (show (0 : Int) < 30 by omega)
 refine D ?_
 refine kR (s_spec_MixNumber n 5) ?_
 refine D ?_
 refine E ?_
 first
 | exact trivial
 | simp only [go_sem, skipI]
theorem s_spec_l3Place (n k : Int) (h0 : 0 ≤ k) (h1 : k < 31) : SemX prog 283 [aI n, aI k] [] [rI (placeI n k)] [] := by
 refine goF [(22, ⟨some 1, none, none, none⟩), (24, ⟨some 1, none, none, none⟩)] [] [] func283 ?_
 have ho := offI_bd n
 have hs := skipI_bd n
 have hm : 0 ≤ k * skipI n := Int.mul_nonneg h0 (by omega)
 have hm2 : k * skipI n ≤ 30 * 30 := Int.mul_le_mul (by omega) (by omega) (by omega) (by omega)
 refine D ?_
 refine kR (s_spec_l3Offset n) ?_
 refine D ?_
 refine kR (s_spec_l3Skip n) ?_
 refine D ?_
 refine E ?_
 first
 | exact trivial
 | simp only [go_sem, placeI]
theorem s_spec_l4Free (t : List Int) (ht : t.length = 31) (n : Int) : SemX prog 259 [aT (.sl false 1 (t.map eI_i64)), aI n] [] [rI (freeR t n)] [] := by
 refine goF [(22, ⟨some 1, none, none, none⟩)] [] [] func259 ?_
 refine D ?_
 refine L (α := Nat) (fun k => [(5, .int .i64 k)]) (fun k => []) (fun k => 31 - k) (fun k => k ≤ 31 ∧ ∀ j : Nat, j < k → t.getD (placeI n j).toNat 0 ≠ 0) 0 [] (fun k hL => ?_) (hi := by exact ⟨by omega, fun j hj => by omega⟩)
 obtain ⟨hk, hno⟩ := hL
 have hb := placeI_bd n (k := (k : Int)) (by omega)
 refine D ?_
 refine cC (fun c0 => ?_) (fun c0 => ?_)
 · skip
   refine D ?_
   refine kR (s_spec_l3Place n k (by omega) (by omega)) ?_
   refine D ?_
   refine cC (fun c1 => ?_) (fun c1 => ?_)
   · skip
     refine D ?_
     refine E ?_
     rw [freeR_some (k := k) (by omega) (by simpa [zI_i64] using c1) hno]
   · skip
     refine D ?_
     refine N (k+1) [] (hi := ?_) (hm := ?_)
     · refine ⟨by omega, fun j hj => ?_⟩
       rcases Nat.lt_or_ge j k with h | h
       · exact hno j h
       · obtain rfl : j = k := by omega
         simpa [zI_i64] using c1
     · omega
 · skip
   obtain rfl : k = 31 := by omega
   refine D ?_
   refine E ?_
   rw [freeR_no hno]
theorem s_spec_l4Fill (l : List Share) (hl : l.length ≤ 2097152) (hk : okSh l) (hw : ∀ s ∈ l, 0 ≤ s.weight ∧ s.weight ≤ 9) : SemX prog 193 [aT (.sl false 2 (l.map eShare))] [] [.one (.sl true 1 ((fillT l).map eI_i64))] [] := by
 refine goF [(34, ⟨some 1, none, none, none⟩), (64, ⟨some 1, none, none, none⟩)] [] [] func193 ?_
 have hsp := sumW_pos hk
 refine D ?_
 refine kR (s_spec_l4Weights l hl hw) ?_
 refine D ?_
 refine cC (fun c0 => ?_) (fun c0 => ?_)
 · skip
   refine D ?_
   refine E ?_
   have he : fillT l = zeroT := if_pos (by omega)
   rw [he]
   rfl
 · skip
   refine D ?_
   refine L (α := Nat) (fun r => [(4, .int .i64 r)]) (fun r => [(36864, .arr ⟨1, (tabR l r 0 0).map eI_i64, 1 + cntR l r 0 0, none⟩)]) (fun r => 31 - r) (fun r => r ≤ 31) 0 [] (fun r hI => ?_) (by (simp only [go_sem, tabR_zero, cntR_zero] <;> and_intros <;> first | with_reducible exact rfl | exact rfl | omega))
   have hlen0 := tabR_len l r 0 0
   refine D ?_
   refine cC (fun c1 => ?_) (fun c1 => ?_)
   · skip
     refine D ?_
     refine L (α := Nat) (fun i => [(5, .int .i64 i)]) (fun i => [(36864, .arr ⟨1, (tabR l r i 0).map eI_i64, 1 + cntR l r i 0, none⟩)]) (fun i => l.length - i) (fun i => i ≤ l.length) 0 [] (fun i hI => ?_)
     refine D ?_
     refine cC (fun c2 => ?_) (fun c2 => ?_)
     · skip
       have hwi := hw _ (getD_mem zShare (show i < l.length by omega))
       refine D ?_
       refine L (α := Nat) (fun k => [(6, .int .i64 k)]) (fun k => [(36864, .arr ⟨1, (tabR l r i k).map eI_i64, 1 + cntR l r i k, none⟩)]) (fun k => (l.getD i zShare).weight.toNat - k) (fun k => k ≤ (l.getD i zShare).weight.toNat) 0 [] (fun k hI => ?_)
       have hlen := tabR_len l r i k
       refine D ?_
       refine cC (fun c3 => ?_) (fun c3 => ?_)
       · skip
         refine D ?_
         refine kR (s_spec_l4Free (tabR l r i k) (tabR_len l r i k) (l.getD i zShare).name) ?_
         refine D ?_
         refine cC (fun c4 => ?_) (fun c4 => ?_)
         · skip
           refine D ?_
           refine E ?_
           rw [tabR_stop (by omega) (by omega) (by omega) (by omega) (by omega)]
           simp [fillT_len, List.take_of_length_le]
           rfl
         · skip
           have hfr := (putT_at c4).2
           refine D ?_
           refine lp_next (k+1) [] ?_ ?_ ?_
           · simp only [go_sem] <;> and_intros <;> first | with_reducible exact rfl | (first | with_reducible exact rfl | omega | (refine arr_eq ?_ ?_ <;> first | (rw [← tabR_put (by omega)]; simp [eI_i64, List.map_set]; done) | (unfold cntR; omega)))
           · omega
           · omega
       · skip
         obtain rfl : k = (l.getD i zShare).weight.toNat := by omega
         refine D ?_
         refine lp_next (i+1) [] ?_ ?_ ?_
         · simp only [go_sem] <;> and_intros <;> first | with_reducible exact rfl | (first | with_reducible exact rfl | omega | (refine arr_eq ?_ ?_ <;> first | rw [tabR_i (by omega)] | rw [cntR_i (by omega)]))
         · omega
         · omega
     · skip
       obtain rfl : i = l.length := by omega
       refine D ?_
       refine lp_next (r+1) [] ?_ ?_ ?_
       · simp only [go_sem] <;> and_intros <;> first | with_reducible exact rfl | (first | with_reducible exact rfl | omega | (rw [tabR_r, cntR_r]; done) | (refine arr_eq ?_ ?_ <;> first | rw [tabR_r] | rw [cntR_r]))
       · omega
       · omega
   · skip
     have hr31 : r = 31 := by omega
     refine D ?_
     refine E ?_
     rw [hr31, tabR_end (by omega)]
     simp [fillT_len, List.take_of_length_le]
     rfl
theorem s_spec_l5Shares (c : Config) (hx : limG 2097152 c) (P : CfP c) (i : Nat) (hi : i < c.vips.length) : SemX prog 194 [aT (.ptr (eConfig false c)), aI i] [] [.one (.sl true 2 ((sharesOf c (c.vips.getD i zVip).names).map eShare))] [] := by
 refine goF [] [(5, 19, [], [32768]), (5, 20, [32768], [32768])] [] func194 ?_
 obtain ⟨hb, hv, hV⟩ := id hx
 have hnl : (c.vips.getD i zVip).names.length ≤ 2097152 := limV_getD hV i
 have hs0 : sharesOf c [] = [] := rfl
 have hA := hs0
 refine D ?_
 refine L (α := Nat) (fun x => [(5, .ref 36864 0 (sharesOf c ((c.vips.getD i zVip).names.take x)).length), (6, .int .i64 x)]) (fun x => [(36864, .arr ⟨2, (sharesOf c ((c.vips.getD i zVip).names.take x)).map eShare, 1, none⟩)]) (fun x => (c.vips.getD i zVip).names.length - x) (fun x => x ≤ (c.vips.getD i zVip).names.length) 0 [] (fun x hI => ?_)
 have hsl := sharesOf_len c ((c.vips.getD i zVip).names.take x)
 rw [List.length_take] at hsl
 refine D ?_
 refine cC (fun c0 => ?_) (fun c0 => ?_)
 · skip
   have hnx := getD_mem zI_i64 (show x < (c.vips.getD i zVip).names.length by omega)
   obtain ⟨m, hm1, hm2, hm3, hm4⟩ := sh_at P (getD_mem zVip hi) hnx
   have hA := And.intro hA (hm1)
   refine D ?_
   refine kD (s_spec_l5At c hx ((c.vips.getD i zVip).names.getD x zI_i64)) ?_
   refine D ?_
   refine cC (fun c1 => ?_) (fun c1 => ?_)
   · skip
     have hsf : shF c ((c.vips.getD i zVip).names.getD x zI_i64) = true := by unfold shF; rw [hm3]; simpa using c1
     have hst := sharesOf_take (c := c) (ns := (c.vips.getD i zVip).names) (i := x) (by omega)
     rw [if_pos hsf] at hst
     have hso : shO c ((c.vips.getD i zVip).names.getD x zI_i64) = ⟨(c.vips.getD i zVip).names.getD x zI_i64, (c.backends.getD m zBackend).weight⟩ := by unfold shO; rw [hm3]
     rw [hso] at hst
     refine D ?_
     refine lp_next (x+1) [(36864,229376)] ?_ ?_ ?_
     · simp only [go_sem, hA] <;> and_intros <;> first | with_reducible exact rfl | (first | with_reducible exact rfl | omega | (rw [hst]; simp [eShare, hm4, -List.getD_eq_getElem?_getD]; done) | (rw [hst]; done))
     · omega
     · omega
   · skip
     have hsf : ¬ shF c ((c.vips.getD i zVip).names.getD x zI_i64) = true := by unfold shF; rw [hm3]; simp at c1 ⊢; grind
     have hst := sharesOf_take (c := c) (ns := (c.vips.getD i zVip).names) (i := x) (by omega)
     rw [if_neg hsf, List.append_nil] at hst
     refine D ?_
     refine lp_next (x+1) [] ?_ ?_ ?_
     · simp only [go_sem, hA] <;> and_intros <;> first | with_reducible exact rfl | (first | with_reducible exact rfl | omega | (rw [hst]; simp [eShare, hm4, -List.getD_eq_getElem?_getD]; done) | (rw [hst]; done))
     · omega
     · omega
 · skip
   obtain rfl : x = (c.vips.getD i zVip).names.length := by omega
   refine D ?_
   exact E trivial
theorem s_spec_l14Tables (c : Config) (hx : limG 2097152 c) (P : CfP c) : SemX prog 117 [aT (.ptr (eConfig false c))] [] [.one (.sl true 1 ((tablesOf c).map (eLI_i64 true)))] [] := by
 refine goF [] [] [] func117 ?_
 obtain ⟨hb, hv, hV⟩ := id hx
 have ht0 : tablesOf c = c.vips.map fun v => fillT (sharesOf c v.names) := rfl
 refine D ?_
 refine L (α := Nat) (fun i => [(3, .ref 24576 0 i), (4, .int .i64 i)]) (fun i => [(24576, .arr ⟨1, (c.vips.take i).map (fun v => [T.sl true 1 ((fillT (sharesOf c v.names)).map eI_i64)]), 1, none⟩)]) (fun i => c.vips.length - i) (fun i => i ≤ c.vips.length) 0 [] (fun i hI => ?_)
 refine D ?_
 refine cC (fun c0 => ?_) (fun c0 => ?_)
 · skip
   obtain ⟨hok, hwt, hsn⟩ := shares_ok P (getD_mem zVip (show i < c.vips.length by omega))
   refine D ?_
   refine kR (s_spec_l5Shares c hx P i (by omega)) ?_
   refine D ?_
   refine kR (s_spec_l4Fill (sharesOf c (c.vips.getD i zVip).names) (by omega) hok hwt) ?_
   refine D ?_
   refine lp_next (i+1) [(24576,90112)] ?_ ?_ ?_
   · simp only [go_sem] <;> and_intros <;> first | with_reducible exact rfl | (first | with_reducible exact rfl | omega | (rw [take_succ_map _ zVip (by omega)]; done) | (simp [take_succ_map _ zVip, *]; done))
   · omega
   · omega
 · skip
   obtain rfl : i = c.vips.length := by omega
   refine D ?_
   refine E ?_
   first
   | exact trivial
   | simp [ht0, List.take_of_length_le, eLI_i64]
theorem s_spec_l5Nums (a b : List Int) (ha : a.length ≤ 2097152) (hb : b.length ≤ 2097152) : SemX prog 118 [aT (.sl false 1 (a.map eI_i64)), aT (.sl false 1 (b.map eI_i64))] [] [rB (decide (a = b))] [] := by
 refine goF [] [] [] func118 ?_
 refine D ?_
 refine cC (fun c0 => ?_) (fun c0 => ?_)
 · skip
   have he : ¬ a = b := fun e => by subst e; simp at c0
   refine D ?_
   refine E ?_
   simp [he]
 · skip
   have hle : a.length = b.length := by omega
   refine D ?_
   refine L (α := Nat) (fun x => [(5, .int .i64 x)]) (fun x => []) (fun x => a.length - x) (fun x => x ≤ a.length ∧ ∀ j, j < x → a.getD j zI_i64 = b.getD j zI_i64) 0 [] (fun x hL => ?_) (hi := by exact ⟨Nat.zero_le _, fun j hj => by omega⟩)
   obtain ⟨hx2, hno⟩ := hL
   refine D ?_
   refine cC (fun c1 => ?_) (fun c1 => ?_)
   · skip
     refine D ?_
     refine cC (fun c2 => ?_) (fun c2 => ?_)
     · skip
       have he : ¬ a = b := fun e => by subst e; simp at c2
       refine D ?_
       refine E ?_
       simp [he]
     · skip
       refine D ?_
       refine N (x+1) [] (hi := ?_) (hm := ?_)
       · refine ⟨by omega, fun j hj => ?_⟩
         rcases Nat.lt_or_ge j x with h | h
         · exact hno j h
         · obtain rfl : j = x := by omega
           first | exact c2 | (simpa using c2) | grind
       · omega
   · skip
     obtain rfl : x = a.length := by omega
     refine D ?_
     refine E ?_
     have he : a = b := eq_getD zI_i64 hle hno
     simp [he]
theorem s_spec_l5For (c : Config) (hx : limG 2097152 c) (f : Flow) : SemX prog 142 [aT (.ptr (eConfig false c)), aS (eFlow f)] [] [rI (findV c.vips f.to_ f.toP f.proto)] [] := by
 refine goF [] [] [] func142 ?_
 obtain ⟨hb, hv, hV⟩ := id hx
 refine D ?_
 refine L (α := Nat) (fun x => [(5, .int .i64 x)]) (fun x => []) (fun x => c.vips.length - x) (fun x => x ≤ c.vips.length ∧ ∀ j, j < x → isV f.to_ f.toP f.proto (c.vips.getD j zVip) = false) 0 [] (fun x hL => ?_) (hi := by exact ⟨Nat.zero_le _, fun j hj => by omega⟩)
 obtain ⟨hx2, hno⟩ := hL
 refine D ?_
 refine cC (fun c0 => ?_) (fun c0 => ?_)
 · skip
   refine D ?_
   refine cC (fun c1 => ?_) (fun c1 => ?_)
   · skip
     refine D ?_
     refine E ?_
     have he : findV c.vips f.to_ f.toP f.proto = x := idxG_some zVip (by omega) hno (by simp [isV]; grind)
     rw [he]
   · skip
     refine D ?_
     refine N (x+1) [] (hi := ?_) (hm := ?_)
     · refine ⟨by omega, fun j hj => ?_⟩
       rcases Nat.lt_or_ge j x with h | h
       · exact hno j h
       · obtain rfl : j = x := by omega
         first | exact c1 | (simpa [isB, isV, eqI] using c1) | (simp [isB, isV, eqI]; grind)
     · omega
 · skip
   obtain rfl : x = c.vips.length := by omega
   refine D ?_
   refine E ?_
   have he : findV c.vips f.to_ f.toP f.proto = -1 := idxG_none zVip hno
   rw [he]
theorem s_spec_l1Has (xs : List Int) (n : Int) (hl : xs.length ≤ 2097152) : SemX prog 236 [aT (.sl false 1 (xs.map eI_i64)), aI n] [] [rB (hasG (eqI n) xs)] [] := by
 refine goF [] [] [] func236 ?_
 refine D ?_
 refine L (α := Nat) (fun x => [(5, .int .i64 x)]) (fun x => []) (fun x => xs.length - x) (fun x => x ≤ xs.length ∧ ∀ j, j < x → eqI n (xs.getD j zI_i64) = false) 0 [] (fun x hL => ?_) (hi := by exact ⟨Nat.zero_le _, fun j hj => by omega⟩)
 obtain ⟨hx2, hno⟩ := hL
 refine D ?_
 refine cC (fun c0 => ?_) (fun c0 => ?_)
 · skip
   refine D ?_
   refine cC (fun c1 => ?_) (fun c1 => ?_)
   · skip
     refine D ?_
     refine E ?_
     rw [hasG_true zI_i64 (i := x) (by omega) (by simpa [eqI] using c1)]
   · skip
     refine D ?_
     refine N (x+1) [] (hi := ?_) (hm := ?_)
     · refine ⟨by omega, fun j hj => ?_⟩
       rcases Nat.lt_or_ge j x with h | h
       · exact hno j h
       · obtain rfl : j = x := by omega
         first | exact c1 | (simpa [isB, isV, eqI] using c1) | (simp [isB, isV, eqI]; grind)
     · omega
 · skip
   obtain rfl : x = xs.length := by omega
   refine D ?_
   refine E ?_
   rw [hasG_false zI_i64 hno]
theorem s_spec_l14Serves (c : Config) (hx : limG 2097152 c) (P : CfP c) (f : Flow) (n : Int) : SemX prog 169 [aT (.ptr (eConfig false c)), aS (eFlow f), aI n] [] [rB (servesF c f n)] [] := by
 refine goF [] [] [] func169 ?_
 obtain ⟨hb, hv, hV⟩ := id hx
 have hfl : findV c.vips f.to_ f.toP f.proto < c.vips.length := idxG_bd _ _
 have hvl := limV_getD hV (findV c.vips f.to_ f.toP f.proto).toNat
 refine D ?_
 refine kR (s_spec_l5For c hx f) ?_
 refine D ?_
 refine kRg (s_spec_l1Has (c.vips.getD (findV c.vips f.to_ f.toP f.proto).toNat zVip).names n hvl) ?_
 refine D ?_
 refine cC (fun c0 => ?_) (fun c0 => ?_)
 · skip
   refine D ?_
   refine E ?_
   first
   | exact trivial
   | unfold servesF
     first | grind | (simp [*]; done)
 · skip
   have hsv := serves_in P (f := f) (n := n) (by grind) (by grind)
   obtain ⟨m, hm1, hm2, hm3⟩ := hsv
   have hA := hm1
   refine D ?_
   refine kD (s_spec_l5At c hx n) ?_
   refine D ?_
   refine E ?_
   first
   | exact trivial
   | unfold servesF
     first | grind | (simp [*]; done)
theorem s_spec_l3Flow (f : Flow) : SemX prog 195 [aS (eFlow f)] [] [rB (isFl f)] [] := by
 refine goF [] [] [] func195 ?_
 refine D ?_
 refine kR (s_spec_l2Address _) ?_
 refine D ?_
 refine kRg (s_spec_l2Address _) ?_
 refine D ?_
 refine kRg (s_spec_l2Port _) ?_
 refine D ?_
 refine kRg (s_spec_l2Port _) ?_
 refine D ?_
 refine E ?_
 first
 | exact trivial
 | simp [isFl, isPro, Bool.and_assoc]
theorem s_spec_l14Find (xs : List Held) (hl : xs.length ≤ 2097152) (f : Flow) : SemX prog 196 [aT (.sl false 7 (xs.map eHeld)), aS (eFlow f)] [] [rI (idxG (eqF f) xs)] [] := by
 refine goF [] [(4, 5, [16384], [])] [] func196 ?_
 refine D ?_
 refine L (α := Nat) (fun x => [(5, .int .i64 x)]) (fun x => []) (fun x => xs.length - x) (fun x => x ≤ xs.length ∧ ∀ j, j < x → eqF f (xs.getD j zHeld) = false) 0 [] (fun x hL => ?_) (hi := by exact ⟨Nat.zero_le _, fun j hj => by omega⟩)
 obtain ⟨hx2, hno⟩ := hL
 refine D ?_
 refine cC (fun c0 => ?_) (fun c0 => ?_)
 · skip
   refine D ?_
   refine cC (fun c1 => ?_) (fun c1 => ?_)
   · skip
     refine D ?_
     refine E ?_
     rw [idxG_some zHeld (i := x) (by omega) hno (by simpa [eqF] using c1)]
   · skip
     refine D ?_
     refine N (x+1) [] (hi := ?_) (hm := ?_)
     · refine ⟨by omega, fun j hj => ?_⟩
       rcases Nat.lt_or_ge j x with h | h
       · exact hno j h
       · obtain rfl : j = x := by omega
         first | (rw [← Bool.not_eq_true]; intro e; apply c1; simpa [eqF] using e) | exact c1 | (simpa [isB, isV, eqI] using c1) | (simp [isB, isV, eqI]; grind)
     · omega
 · skip
   obtain rfl : x = xs.length := by omega
   refine D ?_
   refine E ?_
   rw [idxG_none zHeld hno]
theorem s_spec_l14Held (m : Mux) (hm : limX 2097152 m) (P : CfP m.watch.config) (hnw : 0 ≤ m.now ∧ m.now ≤ 1000000000) : SemX prog 119 [aT (.ptr (eMux false m))] [] [rI (if 8 < m.cache.length then 2 else scan (heldBad m) m.cache.length 0)] [] := by
 refine goF [(116, ⟨some 1, none, none, none⟩)] [(7, 1, [20480], []), (7, 6, [20480], []), (9, 5, [20480], []), (9, 7, [20480], []), (11, 5, [20480], []), (13, 7, [20480], [])] [] func119 ?_
 obtain ⟨hg, ht, htr, hc⟩ := id hm
 refine D ?_
 refine cC (fun c0 => ?_) (fun c0 => ?_)
 · skip
   refine D ?_
   refine E ?_
   first
   | exact trivial
   | grind
 · skip
   refine D ?_
   refine L (α := Nat) (fun i => [(3, .int .i64 i)]) (fun i => []) (fun i => m.cache.length - i) (fun i => i ≤ m.cache.length ∧ scan (heldBad m) m.cache.length 0 = scan (heldBad m) m.cache.length i) 0 [] (fun i hL => ?_) (hi := by exact ⟨Nat.zero_le _, rfl⟩)
   obtain ⟨hi2, hie⟩ := hL
   refine D ?_
   refine cC (fun c1 => ?_) (fun c1 => ?_)
   · skip
     have hst := scan_lt (f := heldBad m) (show i < m.cache.length by omega)
     have hd : heldBad m i = if !isFl (m.cache.getD i zHeld).flow || !inR (m.cache.getD i zHeld).seen 0 m.now then 3 else if servesF m.watch.config (m.cache.getD i zHeld).flow (m.cache.getD i zHeld).name = false then 4 else if 20 < m.now - (m.cache.getD i zHeld).seen then 9 else if hasG (eqF (m.cache.getD i zHeld).flow) (m.cache.take i) = true then 7 else 0 := rfl
     refine D ?_
     refine kD (s_spec_l3Flow (m.cache.getD i zHeld).flow) ?_
     refine D ?_
     refine kDg (s_spec_l1In _ _ _) ?_
     refine D ?_
     refine cC (fun c2 => ?_) (fun c2 => ?_)
     · skip
       have hbz : heldBad m i = 3 := by rw [hd]; grind
       refine D ?_
       refine E ?_
       first
       | exact trivial
       | grind
     · skip
       have hfs : isFl (m.cache.getD i zHeld).flow = true ∧ inR (m.cache.getD i zHeld).seen 0 m.now = true := by grind
       have hsn : 0 ≤ (m.cache.getD i zHeld).seen ∧ (m.cache.getD i zHeld).seen ≤ m.now := by have := hfs.2; simpa [inR] using this
       refine D ?_
       refine kD (s_spec_l14Serves m.watch.config hg P (m.cache.getD i zHeld).flow (m.cache.getD i zHeld).name) ?_
       refine D ?_
       refine cC (fun c3 => ?_) (fun c3 => ?_)
       · skip
         have hbz : heldBad m i = 4 := by rw [hd]; grind
         refine D ?_
         refine E ?_
         first
         | exact trivial
         | grind
       · skip
         have hsv : servesF m.watch.config (m.cache.getD i zHeld).flow (m.cache.getD i zHeld).name = true := by grind
         refine D ?_
         refine cC (fun c4 => ?_) (fun c4 => ?_)
         · skip
           have hbz : heldBad m i = 9 := by rw [hd]; grind
           refine D ?_
           refine E ?_
           first
           | exact trivial
           | grind
         · skip
           refine D ?_
           refine kD (s_spec_l14Find (m.cache.take i) (by rw [List.length_take]; omega) (m.cache.getD i zHeld).flow) ?_
           refine D ?_
           refine cC (fun c5 => ?_) (fun c5 => ?_)
           · skip
             have hbz : heldBad m i = 7 := by rw [hd]; unfold hasG; grind
             refine D ?_
             refine E ?_
             first
             | exact trivial
             | grind
           · skip
             have hbz : heldBad m i = 0 := by rw [hd]; unfold hasG; grind
             refine D ?_
             refine N (i+1) [] (hi := ?_) (hm := ?_)
             · refine ⟨by omega, ?_⟩
               rw [hie, hst, if_pos hbz]
             · omega
   · skip
     have hs0 : scan (heldBad m) m.cache.length 0 = 0 := by rw [hie, scan_ge (by omega)]
     refine D ?_
     refine E ?_
     first
     | exact trivial
     | grind
theorem s_spec_l14Fault (m : Mux) (hm : limX 2097152 m) : SemX prog 55 [aT (.ptr (eMux false m))] [] [rI (muxFault m)] [] := by
 refine goF [] [(12, 2, [135168], []), (12, 3, [135168], []), (12, 11, [135168], [])] [] func55 ?_
 obtain ⟨hg, ht, htr, hc⟩ := id hm
 refine D ?_
 refine kR (s_spec_l2Address _) ?_
 refine D ?_
 refine kRg (s_spec_l14Now _) ?_
 refine D ?_
 refine cC (fun c0 => ?_) (fun c0 => ?_)
 · skip
   refine D ?_
   refine E ?_
   first
   | exact trivial
   | unfold muxFault
     grind
 · skip
   have hnw : 0 ≤ m.now ∧ m.now ≤ 1000000000 := by
     have h_ := c0
     simp [inR] at h_
     omega
   refine D ?_
   refine kR (s_spec_WatchFault m.watch hg) ?_
   refine D ?_
   refine cC (fun c1 => ?_) (fun c1 => ?_)
   · skip
     refine D ?_
     refine E ?_
     first
     | exact trivial
     | unfold muxFault
       grind
   · skip
     have hw0 : watchFault m.watch = 0 := by omega
     have P := watch_p hw0
     obtain ⟨tl1, tl2⟩ := tab_lim P
     refine D ?_
     refine kR (s_spec_l14Tables m.watch.config hg P) ?_
     refine D ?_
     refine cC (fun c2 => ?_) (fun c2 => ?_)
     · skip
       have hne : m.tables ≠ (tablesOf m.watch.config) := fun e => by rw [e] at c2; omega
       refine D ?_
       refine E ?_
       first
       | exact trivial
       | unfold muxFault
         grind
     · skip
       have hle : (tablesOf m.watch.config).length = m.tables.length := by omega
       refine D ?_
       refine L (α := Nat) (fun x => [(5, .int .i64 x)]) (fun x => []) (fun x => (tablesOf m.watch.config).length - x) (fun x => x ≤ (tablesOf m.watch.config).length ∧ ∀ j, j < x → (tablesOf m.watch.config).getD j zLI_i64 = m.tables.getD j zLI_i64) 0 [] (fun x hL => ?_) (hi := by exact ⟨Nat.zero_le _, fun j hj => by omega⟩)
       obtain ⟨hx2, hno⟩ := hL
       refine D ?_
       refine cC (fun c3 => ?_) (fun c3 => ?_)
       · skip
         refine D ?_
         refine kD (s_spec_l5Nums ((tablesOf m.watch.config).getD x zLI_i64) (m.tables.getD x zLI_i64) (tl2 _ (getD_mem zLI_i64 (by omega))) (htr _ (getD_mem zLI_i64 (by omega)))) ?_
         refine D ?_
         refine cC (fun c4 => ?_) (fun c4 => ?_)
         · skip
           have hne : m.tables ≠ (tablesOf m.watch.config) := fun e => by rw [e] at c4; simp at c4
           refine D ?_
           refine E ?_
           first
           | exact trivial
           | unfold muxFault
             grind
         · skip
           refine D ?_
           refine N (x+1) [] (hi := ?_) (hm := ?_)
           · refine ⟨by omega, fun j hj => ?_⟩
             rcases Nat.lt_or_ge j x with h | h
             · exact hno j h
             · obtain rfl : j = x := by omega
               first | exact c4 | (simpa using c4) | grind
           · omega
       · skip
         obtain hxe : x = (tablesOf m.watch.config).length := by omega
         have heq : m.tables = (tablesOf m.watch.config) := (eq_getD zLI_i64 hle (fun j hj => hno j (by omega))).symm
         refine D ?_
         refine kR (s_spec_l14Held m hm P hnw) ?_
         refine D ?_
         refine E ?_
         first
         | exact trivial
         | unfold muxFault
           grind
theorem s_spec_l5Needs (k : Int) : SemX prog 231 [aI k] [] [rB (nd1 k), rB (nd2 k), rB (nd3 k), rB (nd4 k)] [] := by
 refine goF [] [] [] func231 ?_
 refine D ?_
 refine kR (s_spec_l1In k 5 8) ?_
 refine D ?_
 refine E ?_
 first
 | exact trivial
 | simp only [go_sem, nd1, nd2, nd3, nd4, rB]; done
 | try simp only [go_sem, nd1, nd2, nd3, nd4, rB]
   simp
   rw [Bool.eq_iff_iff]
   simp [inR]
   omega
theorem s_spec_l5Number (x : Cmd) : SemX prog 233 [aS (eCmd x)] [] [rB (isNum x)] [] := by
 refine goF [] [] [] func233 ?_
 refine D ?_
 refine cC (fun c0 => ?_) (fun c0 => ?_)
 · skip
   refine D ?_
   refine cC (fun c1 => ?_) (fun c1 => ?_)
   · skip
     refine D ?_
     refine kR (s_spec_l1In _ _ _) ?_
     refine D ?_
     refine E ?_
     first
     | exact trivial
     | simp only [go_sem, isNum]; done
     | try simp only [go_sem, isNum]
       first | (exfalso; omega) | (simp [*]; done)
   · skip
     refine D ?_
     refine cC (fun c2 => ?_) (fun c2 => ?_)
     · skip
       refine D ?_
       refine kR (s_spec_l1In _ _ _) ?_
       refine D ?_
       refine E ?_
       first
       | exact trivial
       | simp only [go_sem, isNum]; done
       | try simp only [go_sem, isNum]
         first | (exfalso; omega) | (simp [*]; done)
     · skip
       refine D ?_
       refine cC (fun c3 => ?_) (fun c3 => ?_)
       · skip
         refine D ?_
         refine kR (s_spec_l1In _ _ _) ?_
         refine D ?_
         refine E ?_
         first
         | exact trivial
         | simp only [go_sem, isNum]; done
         | try simp only [go_sem, isNum]
           first | (exfalso; omega) | (simp [*]; done)
       · skip
         refine D ?_
         refine kR (s_spec_l2Port _) ?_
         refine D ?_
         refine E ?_
         first
         | exact trivial
         | simp only [go_sem, isNum]; done
         | try simp only [go_sem, isNum]
           first | (exfalso; omega) | (simp [*]; done)
 · skip
   refine D ?_
   refine cC (fun c1 => ?_) (fun c1 => ?_)
   · skip
     refine D ?_
     refine kR (s_spec_l1In _ _ _) ?_
     refine D ?_
     refine E ?_
     first
     | exact trivial
     | simp only [go_sem, isNum]; done
     | try simp only [go_sem, isNum]
       first | (exfalso; omega) | (simp [*]; done)
   · skip
     refine D ?_
     refine cC (fun c2 => ?_) (fun c2 => ?_)
     · skip
       refine D ?_
       refine kR (s_spec_l1In _ _ _) ?_
       refine D ?_
       refine E ?_
       first
       | exact trivial
       | simp only [go_sem, isNum]; done
       | try simp only [go_sem, isNum]
         first | (exfalso; omega) | (simp [*]; done)
     · skip
       refine D ?_
       refine cC (fun c3 => ?_) (fun c3 => ?_)
       · skip
         refine D ?_
         refine kR (s_spec_l1In _ _ _) ?_
         refine D ?_
         refine E ?_
         first
         | exact trivial
         | simp only [go_sem, isNum]; done
         | try simp only [go_sem, isNum]
           first | (exfalso; omega) | (simp [*]; done)
       · skip
         refine D ?_
         refine kR (s_spec_l2Port _) ?_
         refine D ?_
         refine E ?_
         first
         | exact trivial
         | simp only [go_sem, isNum]; done
         | try simp only [go_sem, isNum]
           first | (exfalso; omega) | (simp [*]; done)
section
attribute [local go_sem] exp_eq
theorem s_spec_CmdFault (x : Cmd) : SemX prog 167 [aS (eCmd x)] [] [rI (cmdFault x)] [] := by
 refine goF [] [] [] func167 ?_
 refine D ?_
 refine kR (s_spec_l1In _ _ _) ?_
 refine D ?_
 refine cC (fun c0 => ?_) (fun c0 => ?_)
 · skip
   refine D ?_
   refine E ?_
   first
   | exact trivial
   | simp only [go_sem, cmdFault]; done
   | try simp only [go_sem, cmdFault]
     grind
 · skip
   refine D ?_
   refine kR (s_spec_l5Needs _) ?_
   refine D ?_
   refine kRg (s_spec_l5Version _) ?_
   refine D ?_
   refine kRg (s_spec_l3Name _) ?_
   refine D ?_
   refine kRg (s_spec_l2Address _) ?_
   refine D ?_
   refine kRg (s_spec_l5Number _) ?_
   refine D ?_
   refine kRg (s_spec_l5Proto _) ?_
   refine D ?_
   refine cC (fun c1 => ?_) (fun c1 => ?_)
   · skip
     refine D ?_
     refine E ?_
     first
     | exact trivial
     | simp only [go_sem, cmdFault]; done
     | try simp only [go_sem, cmdFault]
       grind
   · skip
     refine D ?_
     refine cC (fun c2 => ?_) (fun c2 => ?_)
     · skip
       refine D ?_
       refine E ?_
       first
       | exact trivial
       | simp only [go_sem, cmdFault]; done
       | try simp only [go_sem, cmdFault]
         grind
     · skip
       refine D ?_
       refine E ?_
       first
       | exact trivial
       | simp only [go_sem, cmdFault]; done
       | try simp only [go_sem, cmdFault]
         grind
end
theorem s_spec_EntryFault (x : Entry) : SemX prog 95 [aS (eEntry x)] [] [rI (entryFault x)] [] := by
 refine goF [] [] [] func95 ?_
 refine D ?_
 refine kR (s_spec_l1In _ _ _) ?_
 refine D ?_
 refine kRg (s_spec_l1In _ _ _) ?_
 refine D ?_
 refine kRg (s_spec_l1In _ _ _) ?_
 refine D ?_
 refine cC (fun c0 => ?_) (fun c0 => ?_)
 · skip
   refine D ?_
   refine E ?_
   first
   | exact trivial
   | simp only [go_sem, entryFault]; done
   | try simp only [go_sem, entryFault]
     simp only [entryFault, cmdZero]
     grind
 · skip
   refine D ?_
   refine cC (fun c1 => ?_) (fun c1 => ?_)
   · skip
     refine D ?_
     refine E ?_
     first
     | exact trivial
     | simp only [go_sem, entryFault]; done
     | try simp only [go_sem, entryFault]
       simp only [entryFault, cmdZero]
       grind
   · skip
     refine D ?_
     refine cC (fun c2 => ?_) (fun c2 => ?_)
     · skip
       refine D ?_
       refine kR (s_spec_CmdFault _) ?_
       refine D ?_
       refine E ?_
       first
       | exact trivial
       | simp only [go_sem, entryFault]; done
       | try simp only [go_sem, entryFault]
         simp only [entryFault, cmdZero]
         grind
     · skip
       refine D ?_
       refine cC (fun c3 => ?_) (fun c3 => ?_)
       · skip
         refine D ?_
         refine E ?_
         first
         | exact trivial
         | simp only [go_sem, entryFault]; done
         | try simp only [go_sem, entryFault]
           simp only [entryFault, cmdZero]
           grind
       · skip
         refine D ?_
         refine E ?_
         first
         | exact trivial
         | simp only [go_sem, entryFault]; done
         | try simp only [go_sem, entryFault]
           simp only [entryFault, cmdZero]
           grind
theorem s_spec_l5Copy (c : Config) (hx : limG 2097152 c) : SemX prog 120 [aS (eConfig false c)] [] [.agg (eConfig true c)] [] := by
 refine goF [(26, ⟨some 4, some 53248, some (37, true), none⟩)] [(1, 1, [8192], []), (1, 2, [], [36864]), (1, 4, [8192], []), (1, 5, [36864], [49152, 36864]), (1, 6, [], [53250]), (1, 7, [], [16384]), (1, 8, [16384], [16384])] [] func120 ?_
 obtain ⟨hb, hv, hV⟩ := id hx
 refine D ?_
 refine L (α := Nat) (fun i => [(4, .int .i64 i)]) (fun i => [(16384, .var [.int .i64 c.version, .ref 49152 0 c.backends.length, .ref 53250 0 i]), (53250, .arr ⟨4, (c.vips.take i).map (eVip true), 1, none⟩)]) (fun i => c.vips.length - i) (fun i => i ≤ c.vips.length) 0 [] (fun i hI => ?_)
 refine D ?_
 refine cC (fun c0 => ?_) (fun c0 => ?_)
 · skip
   have hnl : (c.vips.getD i zVip).names.length ≤ 2097152 := hV _ (getD_mem zVip (by omega))
   refine D ?_
   refine lp_next (i+1) [(53250,143360)] ?_ ?_ ?_
   · simp only [go_sem] <;> and_intros <;> first | with_reducible exact rfl | (first | omega | (rw [take_succ_map _ zVip (by omega)]; simp only [eVip]))
   · omega
   · omega
 · skip
   obtain rfl : i = c.vips.length := by omega
   refine D ?_
   exact E trivial
theorem s_spec_l11Copy (m : Machine) (hm : limM 2097152 m) : SemX prog 243 [aS (eMachine false m)] [] [.agg (eMachine true m)] [] := by
 refine goF [] [(1, 1, [8192], []), (1, 2, [], [24577, 24578]), (1, 3, [], [28672]), (1, 5, [8192], []), (1, 6, [28672], [40960, 28672]), (1, 8, [12288], [12288])] [] func243 ?_
 have hs := hm.2
 refine D ?_
 refine kD (s_spec_l5Copy m.config hm.1) ?_
 refine D ?_
 exact E trivial
theorem s_spec_l11At (m : Machine) (hm : limM 2097152 m) (c : Int) : SemX prog 244 [aT (.ptr (eMachine false m)), aI c] [] [rI (seAt m.sessions c)] [] := by
 refine goF [] [] [] func244 ?_
 have hs := hm.2
 refine D ?_
 refine L (α := Nat) (fun x => [(5, .int .i64 x)]) (fun x => []) (fun x => m.sessions.length - x) (fun x => x ≤ m.sessions.length ∧ ∀ j, j < x → isSes c (m.sessions.getD j zSession) = false) 0 [] (fun x hL => ?_) (hi := by exact ⟨Nat.zero_le _, fun j hj => by omega⟩)
 obtain ⟨hx2, hno⟩ := hL
 refine D ?_
 refine cC (fun c0 => ?_) (fun c0 => ?_)
 · skip
   refine D ?_
   refine cC (fun c1 => ?_) (fun c1 => ?_)
   · skip
     refine D ?_
     refine E ?_
     have he : seAt m.sessions c = x := idxG_some zSession (by omega) hno (by simpa [isSes] using c1)
     rw [he]
   · skip
     refine D ?_
     refine N (x+1) [] (hi := ?_) (hm := ?_)
     · refine ⟨by omega, fun j hj => ?_⟩
       rcases Nat.lt_or_ge j x with h | h
       · exact hno j h
       · obtain rfl : j = x := by omega
         first | exact c1 | (simpa [isSes] using c1) | (simp [isSes]; grind)
     · omega
 · skip
   obtain rfl : x = m.sessions.length := by omega
   refine D ?_
   refine E ?_
   have he : seAt m.sessions c = -1 := idxG_none zSession hno
   rw [he]
theorem s_spec_l5Find (c : Config) (hx : limG 2097152 c) (x_ : Cmd) : SemX prog 290 [aT (.ptr (eConfig false c)), aS (eCmd x_)] [] [rI (findV c.vips x_.addr x_.number x_.proto)] [] := by
 refine goF [] [] [] func290 ?_
 obtain ⟨hb, hv, hV⟩ := id hx
 refine D ?_
 refine L (α := Nat) (fun x => [(5, .int .i64 x)]) (fun x => []) (fun x => c.vips.length - x) (fun x => x ≤ c.vips.length ∧ ∀ j, j < x → isV x_.addr x_.number x_.proto (c.vips.getD j zVip) = false) 0 [] (fun x hL => ?_) (hi := by exact ⟨Nat.zero_le _, fun j hj => by omega⟩)
 obtain ⟨hx2, hno⟩ := hL
 refine D ?_
 refine cC (fun c0 => ?_) (fun c0 => ?_)
 · skip
   refine D ?_
   refine cC (fun c1 => ?_) (fun c1 => ?_)
   · skip
     refine D ?_
     refine E ?_
     have he : findV c.vips x_.addr x_.number x_.proto = x := idxG_some zVip (by omega) hno (by simp [isV]; grind)
     rw [he]
   · skip
     refine D ?_
     refine N (x+1) [] (hi := ?_) (hm := ?_)
     · refine ⟨by omega, fun j hj => ?_⟩
       rcases Nat.lt_or_ge j x with h | h
       · exact hno j h
       · obtain rfl : j = x := by omega
         first | exact c1 | (simpa [isB, isV, eqI] using c1) | (simp [isB, isV, eqI]; grind)
     · omega
 · skip
   obtain rfl : x = c.vips.length := by omega
   refine D ?_
   refine E ?_
   have he : findV c.vips x_.addr x_.number x_.proto = -1 := idxG_none zVip hno
   rw [he]
theorem s_spec_l1Rise (xs : List Int) (v : Int) (hl : xs.length ≤ 2097152) : SemX prog 291 [.one (.t (.sl true 1 (xs.map eI_i64))), aI v] [] [.one (.sl true 1 ((riseL xs v).map eI_i64))] [] := by
 refine goF [(76, ⟨some 0, none, none, none⟩)] [(6, 0, [], [139264]), (6, 3, [0], []), (6, 4, [139264, 0], [155648, 139264]), (6, 6, [], [163840]), (6, 7, [155648, 163840], [167936, 155648, 163840]), (6, 10, [0], []), (6, 11, [167936, 0], [184320, 167936])] [] func291 ?_
 refine D ?_
 refine L (α := Nat) (fun i => [(5, .int .i64 i)]) (fun i => []) (fun i => xs.length - i) (fun i => i ≤ xs.length ∧ ∀ q, q < i → xs.getD q zI_i64 < v) 0 [] (fun i hL => ?_) (hi := by exact ⟨Nat.zero_le _, fun q h => by omega⟩)
 obtain ⟨hi, hlo⟩ := hL
 refine D ?_
 refine cC (fun c0 => ?_) (fun c0 => ?_)
 · skip
   refine D ?_
   refine N (i+1) [] (hi := ?_) (hm := ?_)
   · simp at c0
     refine ⟨by omega, fun q hq => ?_⟩
     by_cases e : q = i
     · subst e; exact c0.2
     · exact hlo q (by omega)
   · omega
 · skip
   have hb : lbn xs v = i := lbn_eq hi hlo (fun h => by simp [-List.getD_eq_getElem?_getD] at c0; have := c0 h; omega)
   refine D ?_
   refine cC (fun c1 => ?_) (fun c1 => ?_)
   · skip
     refine D ?_
     refine E ?_
     have he : hasI xs v = true := by simp [hasI, hb]; simpa using c1
     simp [riseL, he]
   · skip
     refine D ?_
     refine E ?_
     have he : hasI xs v = false := by simp [hasI, hb]; simpa using c1
     have hm : min i xs.length = i := by omega
     have e1 : List.take (i + 1) (List.take i (List.map eI_i64 xs) ++ [[T.int .i64 v]]) = List.take i (List.map eI_i64 xs) ++ [[T.int .i64 v]] := List.take_of_length_le (by simp; omega)
     simp [riseL, he, hb, hm, e1]
     exact ⟨List.take_of_length_le (by simp; omega), rfl⟩
section
attribute [local go_sem] List.set_set
theorem s_spec_l5TurnVip (c : Config) (hx : limG 2097152 c) (K : CfOk c) (x_ : Cmd) (hkd : x_.kind = 5 ∨ x_.kind = 6 ∨ x_.kind = 7 ∨ x_.kind = 8) : SemX prog 276 [.one (.ptr 0 0), aS (eCmd x_)] [.var (eConfig true c)] [rI (turnV c x_).1] [.var (eConfig true (turnV c x_).2)] := by
 refine goF [(120, ⟨some 8, none, none, none⟩), (140, ⟨some 8, none, none, none⟩), (138, ⟨some 11, some 1000003, none, some [1000004]⟩), (236, ⟨some 8, none, none, none⟩), (252, ⟨some 8, none, none, none⟩), (250, ⟨some 11, some 1000003, none, some [1000004]⟩), (248, ⟨some 1, none, none, none⟩), (308, ⟨some 2, some 630784, none, none⟩)] [(9, 4, [1000000], []), (9, 11, [1000000], []), (9, 13, [1000003], []), (9, 14, [1000003], []), (9, 15, [28672], []), (9, 16, [1000003], []), (11, 1, [], [217088]), (11, 5, [1000000], []), (11, 7, [1000003], []), (11, 8, [217088, 1000003], [245760, 217088, 1000003]), (11, 9, [28672], []), (11, 10, [], [253952]), (11, 11, [245760, 253952], [258048, 245760, 253952]), (11, 15, [1000000], []), (11, 17, [1000003], []), (11, 18, [258048, 1000003], [286720, 258048, 1000003]), (11, 21, [1000000], [1000000]), (13, 4, [16384], []), (13, 9, [16384], []), (13, 10, [1000000, 1000002, 1000003], []), (13, 16, [16384], []), (13, 22, [1000000], []), (13, 24, [1000003], []), (13, 26, [1000003], []), (13, 28, [16384], []), (13, 29, [1000003], []), (17, 1, [], [454656]), (17, 5, [1000000], []), (17, 7, [1000003], []), (17, 8, [454656, 1000003], [483328, 454656, 1000003]), (17, 12, [1000000], []), (17, 15, [1000003], []), (17, 16, [483328, 1000003], [516096, 483328, 1000003]), (17, 19, [1000000], [1000000]), (19, 3, [1000000], []), (19, 5, [1000003], []), (19, 7, [1000003], []), (19, 9, [16384], []), (19, 10, [1000003], []), (21, 3, [1000000], []), (21, 8, [1000000], []), (21, 10, [1000003], []), (21, 12, [1000003], [1000003, 630784]), (21, 14, [16384], []), (21, 15, [630784], [630784, 643072]), (21, 16, [1000003], []), (21, 18, [1000003, 643072], [1000003, 643072]), (27, 3, [1000000], []), (27, 5, [1000003], []), (27, 7, [1000003], []), (27, 9, [1000003], []), (27, 10, [1000003], []), (27, 12, [16384], [])] [] func276 ?_
 obtain ⟨hb, hv, hV⟩ := id hx
 have hfl : findV c.vips x_.addr x_.number x_.proto < c.vips.length := idxG_bd _ _
 refine D ?_
 refine kR (s_spec_l5Find c hx x_) ?_
 refine D ?_
 refine cC (fun c0 => ?_) (fun c0 => ?_)
 · skip
   refine D ?_
   refine cC (fun c1 => ?_) (fun c1 => ?_)
   · skip
     refine D ?_
     refine E ?_
     have he : turnV c x_ = (7, c) := by unfold turnV; grind
     simp [he]
   · skip
     refine D ?_
     refine cC (fun c2 => ?_) (fun c2 => ?_)
     · skip
       refine D ?_
       refine E ?_
       have he : turnV c x_ = (2, c) := by unfold turnV; grind
       simp [he]
     · skip
       refine D ?_
       refine L (α := Nat) (fun k => [(7, .int .i64 k)]) (fun k => []) (fun k => c.vips.length - k) (fun k => k ≤ c.vips.length ∧ ∀ q, q < k → ltV (vOf x_) (c.vips.getD q zVip) = true) 0 [] (fun k hL => ?_) (hi := by exact ⟨Nat.zero_le _, fun q h => by omega⟩)
       obtain ⟨hk, hlo⟩ := hL
       refine D ?_
       refine kDg (s_spec_l5Behind (c.vips.getD k zVip) ⟨x_.addr, x_.number, x_.proto, []⟩) ?_
       refine D ?_
       refine cC (fun c3 => ?_) (fun c3 => ?_)
       · skip
         refine D ?_
         refine N (k+1) [] (hi := ?_) (hm := ?_)
         · refine ⟨by omega, fun q hq => ?_⟩
           rcases Nat.lt_or_ge q k with h | h
           · exact hlo q h
           · obtain rfl : q = k := by omega
             unfold ltV vOf
             grind
         · omega
       · skip
         have hpk : preG (ltV (vOf x_)) c.vips = k := preG_eq zVip hk hlo (fun h => by unfold ltV vOf; grind)
         have hmk : min k c.vips.length = k := by omega
         have hA := hmk
         refine D ?_
         refine E ?_
         have he : turnV c x_ = (0, { c with vips := putG (ltV (vOf x_)) c.vips (vOf x_) }) := by unfold turnV; grind
         simp [he, putG, hpk]
         exact put_rowsW (eVip true) c.vips hk _
 · skip
   refine D ?_
   refine kDg (s_spec_l5At c hx x_.name) ?_
   refine D ?_
   refine kDg (s_spec_l1Has (c.vips.getD (findV c.vips x_.addr x_.number x_.proto).toNat zVip).names x_.name (limV_getD hV _)) ?_
   refine D ?_
   refine cC (fun c4 => ?_) (fun c4 => ?_)
   · skip
     have hh : ¬ findV c.vips x_.addr x_.number x_.proto < 0 → hasG (eqI x_.name) (c.vips.getD (findV c.vips x_.addr x_.number x_.proto).toNat zVip).names = hasI (c.vips.getD (findV c.vips x_.addr x_.number x_.proto).toNat zVip).names x_.name := fun h => hasI_eq (K.nr _ (by omega)) _
     have hva : vAt c x_ = (findV c.vips x_.addr x_.number x_.proto).toNat := rfl
     refine D ?_
     refine E ?_
     have he : turnV c x_ = (4, c) := by unfold turnV; grind
     simp [he]
   · skip
     have hfn : ¬ findV c.vips x_.addr x_.number x_.proto < 0 := by grind
     obtain ⟨n, hfv, hnl, hnq, hnb⟩ : ∃ n : Nat, findV c.vips x_.addr x_.number x_.proto = n ∧ n < c.vips.length ∧ isV x_.addr x_.number x_.proto (c.vips.getD n zVip) = true ∧ ∀ j, j < n → isV x_.addr x_.number x_.proto (c.vips.getD j zVip) = false := idxG_lt zVip hfn
     have hva : vAt c x_ = n := by unfold vAt; omega
     have hnm : (c.vips.getD n zVip).names.length ≤ 2097152 := limV_getD hV n
     have hrs := K.nr n hnl
     have hhi := hasI_eq hrs x_.name
     have h7 : x_.kind = 7 → ¬ findB c.backends x_.name < 0 := by grind
     have h8 : x_.kind = 8 → hasG (eqI x_.name) (c.vips.getD n zVip).names = true := by
       intro h
       have e : (findV c.vips x_.addr x_.number x_.proto).toNat = n := by omega
       simp [h, e] at c4
       grind
     have hmn : min n c.vips.length = n := by omega
     have hA := And.intro hfv (hmn)
     refine D ?_
     refine cC (fun c5 => ?_) (fun c5 => ?_)
     · skip
       refine D ?_
       refine E ?_
       have he : turnV c x_ = (0, { c with vips := cutG c.vips (vAt c x_) }) := by unfold turnV; grind
       rw [he, hva]
       simp only [cut_rowsV c.vips hnl]
       and_intros <;> first | trivial | rfl | decide
     · skip
       refine D ?_
       refine cC (fun c6 => ?_) (fun c6 => ?_)
       · skip
         refine D ?_
         refine kD (s_spec_l1Has (c.vips.getD n zVip).names x_.name hnm) ?_
         refine D ?_
         refine cC (fun c7 => ?_) (fun c7 => ?_)
         · skip
           refine D ?_
           refine E ?_
           have he : turnV c x_ = (7, c) := by unfold turnV; grind
           simp [he]
         · skip
           have hgs := fun r d => getD_set_self (l := c.vips.map (eVip true)) (i := n) (by simp; omega) r d
           have hA := And.intro hA (hgs)
           refine D ?_
           refine kDk [] [630784] [] (s_spec_l1Rise (c.vips.getD n zVip).names x_.name hnm) ?_
           refine D ?_
           refine E ?_
           have he : turnV c x_ = (0, setV c (vAt c x_) { c.vips.getD (vAt c x_) zVip with names := riseL (c.vips.getD (vAt c x_) zVip).names x_.name }) := by unfold turnV; grind
           simp [he, setV, hva, eVip, List.map_set, List.set_set]
       · skip
         refine D ?_
         refine cC (fun c8 => ?_) (fun c8 => ?_)
         · skip
           refine D ?_
           refine L (α := Nat) (fun i => [(8, .ref 663552 0 (((c.vips.getD n zVip).names.take i).filter (notI x_.name)).length), (9, .int .i64 i)]) (fun i => [(663552, .arr ⟨1, (((c.vips.getD n zVip).names.take i).filter (notI x_.name)).map eI_i64, 1, none⟩)]) (fun i => (c.vips.getD n zVip).names.length - i) (fun i => i ≤ (c.vips.getD n zVip).names.length) 0 [] (fun i hI => ?_)
           have hfl : (((c.vips.getD n zVip).names.take i).filter (notI x_.name)).length ≤ i := by
             have := List.length_filter_le (notI x_.name) ((c.vips.getD n zVip).names.take i)
             rw [List.length_take] at this
             omega
           refine D ?_
           refine cC (fun c9 => ?_) (fun c9 => ?_)
           · skip
             refine D ?_
             refine cC (fun c10 => ?_) (fun c10 => ?_)
             · skip
               have hft := filter_take (notI x_.name) zI_i64 (xs := (c.vips.getD n zVip).names) (i := i) (by omega)
               rw [if_pos (by simpa [notI] using c10)] at hft
               have hA := And.intro hA (hft)
               refine D ?_
               refine lp_next (i+1) [(663552,831488)] ?_ ?_ ?_
               · simp only [go_sem, hA] <;> and_intros <;> first | with_reducible exact rfl | (first | with_reducible exact rfl | omega | (rw [hft]; simp [eI_i64]; done) | (rw [hft]; done) | (simp [hft, eI_i64]; done))
               · omega
               · omega
             · skip
               have hft := filter_take (notI x_.name) zI_i64 (xs := (c.vips.getD n zVip).names) (i := i) (by omega)
               rw [if_neg (by simpa [notI] using c10), List.append_nil] at hft
               have hA := And.intro hA (hft)
               refine D ?_
               refine lp_next (i+1) [] ?_ ?_ ?_
               · simp only [go_sem, hA] <;> and_intros <;> first | with_reducible exact rfl | (first | with_reducible exact rfl | omega | (rw [hft]; simp [eI_i64]; done) | (rw [hft]; done) | (simp [hft, eI_i64]; done))
               · omega
               · omega
           · skip
             obtain rfl : i = (c.vips.getD n zVip).names.length := by omega
             refine D ?_
             refine E ?_
             have he : turnV c x_ = (0, setV c (vAt c x_) { c.vips.getD (vAt c x_) zVip with names := cutG (c.vips.getD (vAt c x_) zVip).names (lbn (c.vips.getD (vAt c x_) zVip).names x_.name) }) := by unfold turnV; grind
             have hwo := without_eq hrs (v := x_.name) (by rw [← hhi]; exact h8 c8)
             rw [hwo]
             simp [he, setV, hva, eVip, List.map_set, List.set_set]
         · skip
           refine D ?_
           refine E ?_
           exfalso; omega
end
theorem s_spec_l5Serves (c : Config) (hx : limG 2097152 c) (n : Int) : SemX prog 292 [aT (.ptr (eConfig false c)), aI n] [] [rB (serves c.vips n)] [] := by
 refine goF [] [] [] func292 ?_
 obtain ⟨hb, hv, hV⟩ := id hx
 refine D ?_
 refine L (α := Nat) (fun x => [(5, .int .i64 x)]) (fun x => []) (fun x => c.vips.length - x) (fun x => x ≤ c.vips.length ∧ ∀ j, j < x → (fun v => hasG (eqI n) v.names) (c.vips.getD j zVip) = false) 0 [] (fun x hL => ?_) (hi := by exact ⟨Nat.zero_le _, fun j hj => by omega⟩)
 obtain ⟨hx2, hno⟩ := hL
 refine D ?_
 refine cC (fun c0 => ?_) (fun c0 => ?_)
 · skip
   refine D ?_
   refine kR (s_spec_l1Has (c.vips.getD x zVip).names n (hV _ (getD_mem zVip (by omega)))) ?_
   refine D ?_
   refine cC (fun c1 => ?_) (fun c1 => ?_)
   · skip
     refine D ?_
     refine E ?_
     have he : serves c.vips n = true := hasG_true zVip (i := x) (by omega) (by simpa using c1)
     rw [he]
   · skip
     refine D ?_
     refine N (x+1) [] (hi := ?_) (hm := ?_)
     · refine ⟨by omega, fun j hj => ?_⟩
       rcases Nat.lt_or_ge j x with h | h
       · exact hno j h
       · obtain rfl : j = x := by omega
         first | exact c1 | (simpa [isB, isV, eqI] using c1) | (simp [isB, isV, eqI]; grind)
     · omega
 · skip
   obtain rfl : x = c.vips.length := by omega
   refine D ?_
   refine E ?_
   have he : serves c.vips n = false := hasG_false zVip hno
   rw [he]
theorem s_spec_l5Turn (c : Config) (hx : limG 2097152 c) (K : CfOk c) (x_ : Cmd) (hkd : x_.kind = 1 ∨ x_.kind = 2 ∨ x_.kind = 3 ∨ x_.kind = 4 ∨ x_.kind = 9) : SemX prog 277 [.one (.ptr 0 0), aS (eCmd x_)] [.var (eConfig true c)] [rI (turnB c x_).1] [.var (eConfig true (turnB c x_).2)] := by
 refine goF [(282, ⟨some 1, none, none, none⟩)] [(8, 4, [1000000], []), (8, 11, [1000000], []), (8, 13, [1000002], []), (8, 15, [1000002], []), (8, 17, [16384], []), (11, 1, [], [221184]), (11, 5, [1000000], []), (11, 7, [1000002], []), (11, 8, [221184, 1000002], [249856, 221184]), (11, 9, [32768], []), (11, 10, [], [258048]), (11, 11, [249856, 258048], [262144, 249856, 258048]), (11, 15, [1000000], []), (11, 17, [1000002], []), (11, 18, [262144, 1000002], [290816, 262144]), (11, 21, [1000000], [1000000]), (17, 3, [1000000], []), (17, 6, [16384], []), (17, 7, [1000002], []), (17, 9, [1000002], [1000002]), (19, 3, [1000000], []), (19, 6, [16384], []), (19, 7, [1000002], []), (19, 9, [1000002], [1000002]), (21, 3, [1000000], []), (21, 6, [16384], []), (21, 8, [1000002], []), (21, 10, [1000002], [1000002]), (27, 1, [], [524288]), (27, 5, [1000000], []), (27, 7, [1000002], []), (27, 8, [524288, 1000002], [552960, 524288]), (27, 12, [1000000], []), (27, 15, [1000002], []), (27, 16, [552960, 1000002], [585728, 552960]), (27, 19, [1000000], [1000000])] [] func277 ?_
 obtain ⟨hb, hv, hV⟩ := id hx
 refine D ?_
 refine kR (s_spec_l5At c hx x_.name) ?_
 refine D ?_
 refine cC (fun c0 => ?_) (fun c0 => ?_)
 · skip
   refine D ?_
   refine cC (fun c1 => ?_) (fun c1 => ?_)
   · skip
     refine D ?_
     refine E ?_
     have he : turnB c x_ = (7, c) := by unfold turnB; grind
     simp [he]
   · skip
     refine D ?_
     refine cC (fun c2 => ?_) (fun c2 => ?_)
     · skip
       refine D ?_
       refine E ?_
       have he : turnB c x_ = (2, c) := by unfold turnB; grind
       simp [he]
     · skip
       refine D ?_
       refine L (α := Nat) (fun k => [(6, .int .i64 k)]) (fun k => []) (fun k => c.backends.length - k) (fun k => k ≤ c.backends.length ∧ ∀ q, q < k → ltB x_.name (c.backends.getD q zBackend) = true) 0 [] (fun k hL => ?_) (hi := by exact ⟨Nat.zero_le _, fun q h => by omega⟩)
       obtain ⟨hk, hlo⟩ := hL
       refine D ?_
       refine cC (fun c3 => ?_) (fun c3 => ?_)
       · skip
         refine D ?_
         refine N (k+1) [] (hi := ?_) (hm := ?_)
         · refine ⟨by omega, fun q hq => ?_⟩
           rcases Nat.lt_or_ge q k with h | h
           · exact hlo q h
           · obtain rfl : q = k := by omega
             unfold ltB
             grind
         · omega
       · skip
         have hpk : preG (ltB x_.name) c.backends = k := preG_eq zBackend hk hlo (fun h => by unfold ltB; grind)
         refine D ?_
         refine E ?_
         have he : turnB c x_ = (0, { c with backends := putG (ltB x_.name) c.backends (bOf x_) }) := by unfold turnB; grind
         simp [he, putG, hpk, bOf, eBackend]
         exact ⟨put_rows eBackend c.backends hk _, rfl⟩
 · skip
   refine D ?_
   refine cC (fun c4 => ?_) (fun c4 => ?_)
   · skip
     refine D ?_
     refine E ?_
     have he : turnB c x_ = (4, c) := by unfold turnB; grind
     simp [he]
   · skip
     obtain ⟨n, hfb, hnl, hnq, hnb⟩ : ∃ n : Nat, findB c.backends x_.name = n ∧ n < c.backends.length ∧ isB x_.name (c.backends.getD n zBackend) = true ∧ ∀ j, j < n → isB x_.name (c.backends.getD j zBackend) = false := idxG_lt zBackend c4
     have hba : bAt c x_.name = n := by unfold bAt; omega
     have hA := hfb
     refine D ?_
     refine cC (fun c5 => ?_) (fun c5 => ?_)
     · skip
       refine D ?_
       refine E ?_
       have he : turnB c x_ = (0, setB c (bAt c x_.name) { c.backends.getD (bAt c x_.name) zBackend with weight := x_.number }) := by unfold turnB; grind
       
       simp [he, setB, hba, List.map_set, eBackend, List.set_set]
     · skip
       refine D ?_
       refine cC (fun c6 => ?_) (fun c6 => ?_)
       · skip
         refine D ?_
         refine E ?_
         have he : turnB c x_ = (0, setB c (bAt c x_.name) { c.backends.getD (bAt c x_.name) zBackend with stage := x_.number }) := by unfold turnB; grind
         
         simp [he, setB, hba, List.map_set, eBackend, List.set_set]
       · skip
         refine D ?_
         refine cC (fun c7 => ?_) (fun c7 => ?_)
         · skip
           refine D ?_
           refine E ?_
           have he : turnB c x_ = (0, setB c (bAt c x_.name) { c.backends.getD (bAt c x_.name) zBackend with up := decide (x_.number = 1) }) := by unfold turnB; grind
           
           simp [he, setB, hba, List.map_set, eBackend, List.set_set]
         · skip
           refine D ?_
           refine cC (fun c8 => ?_) (fun c8 => ?_)
           · skip
             refine D ?_
             refine cC (fun c9 => ?_) (fun c9 => ?_)
             · skip
               refine D ?_
               refine E ?_
               have he : turnB c x_ = (10, c) := by unfold turnB; grind
               simp [he]
             · skip
               refine D ?_
               refine kR (s_spec_l5Serves c hx x_.name) ?_
               refine D ?_
               refine cC (fun c10 => ?_) (fun c10 => ?_)
               · skip
                 refine D ?_
                 refine E ?_
                 have he : turnB c x_ = (8, c) := by unfold turnB; grind
                 simp [he]
               · skip
                 refine D ?_
                 refine E ?_
                 have he : turnB c x_ = (0, { c with backends := cutG c.backends (bAt c x_.name) }) := by unfold turnB; grind
                 
                 simp [he, cutG, hba]
                 exact ⟨cut_rows eBackend c.backends hnl, rfl⟩
           · skip
             refine D ?_
             refine E ?_
             exfalso; omega
theorem s_spec_l5Apply (c : Config) (hx1 : limG 2097151 c) (K : CfOk c) (x_ : Cmd) (hcf : cmdFault x_ = 0) : SemX prog 245 [aS (eConfig false c), aS (eCmd x_)] [] [.agg (eConfigResult true (applyR c x_))] [] := by
 refine goF [(76, ⟨some 1, none, none, none⟩)] [] [] func245 ?_
 have hx : limG 2097152 c := limG_mono (by omega) hx1
 obtain ⟨hb, hv, hV⟩ := id hx
 have hk9 : 1 ≤ x_.kind ∧ x_.kind ≤ 9 := by
   unfold cmdFault at hcf
   cases h : inR x_.kind 1 9 with
   | false => simp [h] at hcf
   | true => simpa [inR] using h
 have hk0 := K.v0
 have hk1 := K.v1
 refine D ?_
 refine cC (fun c0 => ?_) (fun c0 => ?_)
 · skip
   refine D ?_
   refine E ?_
   have he : applyR c x_ = badC 3 := by unfold applyR; grind
   simp [he, badC, zConfig]
 · skip
   refine D ?_
   refine cC (fun c1 => ?_) (fun c1 => ?_)
   · skip
     refine D ?_
     refine E ?_
     have he : applyR c x_ = badC 9 := by unfold applyR; grind
     simp [he, badC, zConfig]
   · skip
     refine D ?_
     refine kR (s_spec_l5Copy c hx) ?_
     refine D ?_
     refine kR (s_spec_l1In x_.kind 5 8) ?_
     refine D ?_
     refine cC (fun c2 => ?_) (fun c2 => ?_)
     · skip
       have hin : inR x_.kind 5 8 = true := by simpa using c2
       have hkd : x_.kind = 5 ∨ x_.kind = 6 ∨ x_.kind = 7 ∨ x_.kind = 8 := by simp [inR] at hin; omega
       have htu : turned c x_ = turnV c x_ := by unfold turned; rw [if_pos hin]
       refine D ?_
       refine kRk [24576] [] [98305, 98306] (s_spec_l5TurnVip c hx K x_ hkd) ?_
       refine D ?_
       refine cC (fun c3 => ?_) (fun c3 => ?_)
       · skip
         refine D ?_
         refine E ?_
         have he : applyR c x_ = badC (turnV c x_).1 := by unfold applyR; grind
         simp [he, badC, zConfig]
       · skip
         refine D ?_
         refine E ?_
         have he : applyR c x_ = ⟨0, { (turnV c x_).2 with version := c.version + 1 }⟩ := by unfold applyR; grind
         simp [he, badC, zConfig]
     · skip
       have hin : inR x_.kind 5 8 = false := by simpa using c2
       have hkd : x_.kind = 1 ∨ x_.kind = 2 ∨ x_.kind = 3 ∨ x_.kind = 4 ∨ x_.kind = 9 := by simp [inR] at hin; omega
       have htu : turned c x_ = turnB c x_ := by unfold turned; rw [if_neg (by rw [hin]; simp)]
       refine D ?_
       refine kRk [24576] [] [98305, 98306] (s_spec_l5Turn c hx K x_ hkd) ?_
       refine D ?_
       refine cC (fun c3 => ?_) (fun c3 => ?_)
       · skip
         refine D ?_
         refine E ?_
         have he : applyR c x_ = badC (turnB c x_).1 := by unfold applyR; grind
         simp [he, badC, zConfig]
       · skip
         refine D ?_
         refine E ?_
         have he : applyR c x_ = ⟨0, { (turnB c x_).2 with version := c.version + 1 }⟩ := by unfold applyR; grind
         simp [he, badC, zConfig]
theorem s_spec_l11Put (xs : List Session) (s : Session) (hl : xs.length ≤ 1000000) : SemX prog 246 [aT (.sl false 3 (xs.map eSession)), aS (eSession s)] [] [.one (.sl true 3 ((putL xs s).map eSession))] [] := by
 refine goF [] [(6, 9, [16384], []), (9, 6, [16384], [])] [] func246 ?_
 refine D ?_
 refine L (α := Nat) (fun x => [(5, .ref 36864 0 (foldP xs s x).2.length), (6, .bool (foldP xs s x).1), (7, .int .i64 x)]) (fun x => [(36864, .arr ⟨3, (foldP xs s x).2.map eSession, 1, none⟩)]) (fun x => xs.length - x) (fun x => x ≤ xs.length) 0 [] (fun x hI => ?_) (by simp only [go_sem] <;> and_intros <;> first | with_reducible exact rfl | (first | omega | exact rfl))
 have hfl := foldP_len xs s x
 refine D ?_
 refine cC (fun c0 => ?_) (fun c0 => ?_)
 · skip
   have hfs := foldP_succ s (show x < xs.length by omega)
   refine D ?_
   refine cC (fun c1 => ?_) (fun c1 => ?_)
   · skip
     refine D ?_
     refine cC (fun c2 => ?_) (fun c2 => ?_)
     · skip
       have hf3 : foldP xs s (x + 1) = (true, (foldP xs s x).2 ++ [s] ++ [(xs.getD x zSession)]) := by rw [hfs]; unfold stepP; first | (simp [-List.getD_eq_getElem?_getD, c1, c2]; done) | grind
       have hA := hf3
       refine D ?_
       refine lp_next (x+1) [(36864,188416)] ?_ ?_ ?_
       · simp only [go_sem, hA] <;> and_intros <;> first | with_reducible exact rfl | (first | with_reducible exact rfl | omega | (simp [eSession]; done))
       · omega
       · omega
     · skip
       have hf3 : foldP xs s (x + 1) = (true, (foldP xs s x).2 ++ [s]) := by rw [hfs]; unfold stepP; first | (simp [-List.getD_eq_getElem?_getD, c1, c2]; done) | grind
       have hA := hf3
       refine D ?_
       refine lp_next (x+1) [(36864,126976)] ?_ ?_ ?_
       · simp only [go_sem, hA] <;> and_intros <;> first | with_reducible exact rfl | (first | with_reducible exact rfl | omega | (simp [eSession]; done))
       · omega
       · omega
   · skip
     refine D ?_
     refine cC (fun c2 => ?_) (fun c2 => ?_)
     · skip
       have hf3 : foldP xs s (x + 1) = ((foldP xs s x).1, (foldP xs s x).2 ++ [(xs.getD x zSession)]) := by rw [hfs]; unfold stepP; first | (simp [-List.getD_eq_getElem?_getD, c1, c2]; done) | grind
       have hA := hf3
       refine D ?_
       refine lp_next (x+1) [(36864,188416)] ?_ ?_ ?_
       · simp only [go_sem, hA] <;> and_intros <;> first | with_reducible exact rfl | (first | with_reducible exact rfl | omega | (simp [eSession]; done))
       · omega
       · omega
     · skip
       have hf3 : foldP xs s (x + 1) = ((foldP xs s x).1, (foldP xs s x).2) := by rw [hfs]; unfold stepP; first | (simp [-List.getD_eq_getElem?_getD, c1, c2]; done) | grind
       have hA := hf3
       refine D ?_
       refine lp_next (x+1) [] ?_ ?_ ?_
       · simp only [go_sem, hA] <;> and_intros <;> first | with_reducible exact rfl | (first | with_reducible exact rfl | omega | (simp [eSession]; done))
       · omega
       · omega
 · skip
   obtain rfl : x = xs.length := by omega
   refine D ?_
   refine cC (fun c3 => ?_) (fun c3 => ?_)
   · skip
     refine D ?_
     refine E ?_
     have he : putL xs s = (foldP xs s xs.length).2 ++ [s] := by unfold putL; grind
     simp [he, eSession]
   · skip
     refine D ?_
     refine E ?_
     have he : putL xs s = (foldP xs s xs.length).2 := by unfold putL; grind
     simp [he]
theorem s_spec_l11Apply (m : Machine) (hm1 : limM 2097151 m) (K : MaOk m) (x_ : Entry) (hcf : x_.client ≠ 0 → cmdFault x_.cmd = 0) : SemX prog 180 [aS (eMachine false m), aS (eEntry x_)] [] [.agg (eMachineResult true (enterM m x_))] [] := by
 refine goF [] [(5, 4, [12288], []), (5, 10, [16384], []), (7, 1, [12288], []), (7, 7, [16384], [])] [] func180 ?_
 have hm : limM 2097152 m := ⟨limG_mono (by omega) hm1.1, Nat.le_succ_of_le hm1.2⟩
 have hs := hm.2
 have hs40 := K.s40
 obtain ⟨hg1, hg2⟩ := seAt_ge K.rs x_.client
 have hsb : seAt m.sessions x_.client < m.sessions.length := idxG_bd _ _
 refine D ?_
 refine kR (s_spec_l11Copy m hm) ?_
 refine D ?_
 refine cC (fun c0 => ?_) (fun c0 => ?_)
 · skip
   refine D ?_
   refine E ?_
   have he : enterM m x_ = ⟨0, 0, false, m⟩ := by unfold enterM; grind
   simp [-List.getD_eq_getElem?_getD, he, badM, zMachine, zConfig]
 · skip
   refine D ?_
   refine kR (s_spec_l11At m hm x_.client) ?_
   refine D ?_
   refine cC (fun c1 => ?_) (fun c1 => ?_)
   · skip
     have ho : oldM m x_ = true := by rw [← old_at K.rs]; simpa [-List.getD_eq_getElem?_getD] using c1
     have hh : hasS m.sessions x_.client = true := by unfold oldM at ho; simp only [Bool.and_eq_true] at ho; exact ho.1
     have hat := hg2 hh
     have hA := hat
     refine D ?_
     refine cC (fun c2 => ?_) (fun c2 => ?_)
     · skip
       refine D ?_
       refine E ?_
       have he : enterM m x_ = ⟨0, (m.sessions.getD (lbS m.sessions x_.client) zSession).code, false, m⟩ := by unfold enterM; grind
       simp [-List.getD_eq_getElem?_getD, he, badM, zMachine, zConfig]
     · skip
       refine D ?_
       refine E ?_
       have he : enterM m x_ = ⟨0, 9, false, m⟩ := by unfold enterM; grind
       simp [-List.getD_eq_getElem?_getD, he, badM, zMachine, zConfig]
   · skip
     have ho : oldM m x_ = false := by rw [← old_at K.rs]; exact c1
     refine D ?_
     refine cC (fun c3 => ?_) (fun c3 => ?_)
     · skip
       refine D ?_
       refine E ?_
       have he : enterM m x_ = badM 2 := by unfold enterM; grind
       simp [-List.getD_eq_getElem?_getD, he, badM, zMachine, zConfig]
     · skip
       refine D ?_
       refine kR (s_spec_l5Apply m.config hm1.1 K.cf x_.cmd (hcf c0)) ?_
       refine D ?_
       refine cC (fun c4 => ?_) (fun c4 => ?_)
       · skip
         refine D ?_
         refine kR (s_spec_l11Put m.sessions ⟨x_.client, x_.seq, (applyR m.config x_.cmd).code⟩ (by omega)) ?_
         refine D ?_
         refine E ?_
         have he : enterM m x_ = ⟨0, (applyR m.config x_.cmd).code, true, ⟨(applyR m.config x_.cmd).config, putS m.sessions ⟨x_.client, x_.seq, (applyR m.config x_.cmd).code⟩⟩⟩ := by unfold enterM; grind
         simp [-List.getD_eq_getElem?_getD, he, putL_eq _ K.rs]
       · skip
         refine D ?_
         refine kR (s_spec_l11Put m.sessions ⟨x_.client, x_.seq, (applyR m.config x_.cmd).code⟩ (by omega)) ?_
         refine D ?_
         refine E ?_
         have he : enterM m x_ = ⟨0, (applyR m.config x_.cmd).code, true, ⟨m.config, putS m.sessions ⟨x_.client, x_.seq, (applyR m.config x_.cmd).code⟩⟩⟩ := by unfold enterM; grind
         simp [-List.getD_eq_getElem?_getD, he, putL_eq _ K.rs]
theorem s_spec_l11Replay (xs : List Entry) (hl : xs.length ≤ 2097152) : SemX prog 97 [aT (.sl false 9 (xs.map eEntry))] [] [.agg (eMachineResult true (replayM xs).1), .one (.sl true 3 ((replayM xs).2.map (eConfig true)))] [] := by
 refine goF [(18, ⟨some 4, some 36864, some (153, true), none⟩)] [(11, 1, [20480], []), (11, 6, [36868, 36869, 36870], [151556, 151557, 151558]), (11, 7, [20480], [20480])] [] func97 ?_
 refine D ?_
 refine cC (fun c0 => ?_) (fun c0 => ?_)
 · skip
   refine D ?_
   refine E ?_
   have he : replayM xs = (badM 2, []) := if_pos (by omega)
   simp [he, badM, zMachine, zConfig]
 · skip
   refine D ?_
   refine L (α := Nat × MachineResult × List Config) (fun p => [(5, .ref 45056 0 p.2.2.length), (6, .int .i64 p.1)]) (fun p => [(20480, .var [.int .i64 0, .int .i64 p.2.1.reply, .bool p.2.1.fresh, .int .i64 p.2.1.machine.config.version, .ref 36868 0 p.2.1.machine.config.backends.length, .ref 36869 0 p.2.1.machine.config.vips.length, .ref 36870 0 p.2.1.machine.sessions.length]), (36868, .arr ⟨5, p.2.1.machine.config.backends.map eBackend, 1, none⟩), (36869, .arr ⟨4, p.2.1.machine.config.vips.map (eVip true), 1, none⟩), (36870, .arr ⟨3, p.2.1.machine.sessions.map eSession, 1, none⟩), (45056, .arr ⟨3, p.2.2.map (eConfig true), 1, none⟩)]) (fun p => xs.length - p.1) (fun p => p.1 ≤ xs.length ∧ MaP p.2.1.machine ∧ p.2.2.length ≤ p.1 + 1 ∧ repR xs zMachine 0 [zConfig] = repR (xs.drop p.1) p.2.1.machine p.2.1.reply p.2.2) (0, ⟨0, 0, false, zMachine⟩, [zConfig]) [] (fun x0 hL => ?_) (by simp only [go_sem] <;> and_intros <;> first | with_reducible exact rfl | (first | omega | exact rfl)) (by exact ⟨Nat.zero_le _, maP_zero, by simp, rfl⟩)
   obtain ⟨i, r, al_⟩ := x0
   obtain ⟨hi2, hP, hal, hrp⟩ := hL
   try dsimp only at *
   have hm1 : limM 2097151 r.machine := ⟨limG_mono (by omega) hP.lim.1, Nat.le_trans hP.lim.2 (by omega)⟩
   refine D ?_
   refine cC (fun c1 => ?_) (fun c1 => ?_)
   · skip
     refine D ?_
     refine kR (s_spec_EntryFault (xs.getD i zEntry)) ?_
     refine D ?_
     refine cC (fun c2 => ?_) (fun c2 => ?_)
     · skip
       refine D ?_
       refine E ?_
       have he : replayM xs = (badM (entryFault (xs.getD i zEntry)), []) := by unfold replayM; rw [if_neg (by omega), hrp, repR_drop (by omega), if_pos (by omega)]
       simp [he, badM, zMachine, zConfig]
     · skip
       have h0 : entryFault (xs.getD i zEntry) = 0 := by omega
       refine D ?_
       refine kD (s_spec_l11Apply r.machine hm1 hP.ok (xs.getD i zEntry) (fun h => ent_cmd h0 h)) ?_
       refine D ?_
       refine cC (fun c3 => ?_) (fun c3 => ?_)
       · skip
         refine D ?_
         refine E ?_
         have he : replayM xs = ((enterM r.machine (xs.getD i zEntry)), []) := by unfold replayM; rw [if_neg (by omega), hrp, repR_drop (by omega), if_neg (by omega), if_pos (by omega), ← enterM_bad (by omega)]
         simp [he]
       · skip
         have hc0 : (enterM r.machine (xs.getD i zEntry)).code = 0 := by omega
         have hA := hc0
         refine D ?_
         refine cC (fun c4 => ?_) (fun c4 => ?_)
         · skip
           have hac : addC al_ (enterM r.machine (xs.getD i zEntry)) = al_ ++ [(enterM r.machine (xs.getD i zEntry)).machine.config] := if_pos (by unfold freshM; simpa using c4)
           have hA := And.intro hA (hac)
           refine D ?_
           refine kR (s_spec_l5Copy (enterM r.machine (xs.getD i zEntry)).machine.config (limG_mono (by omega) (enterM_p hP h0 hc0).lim.1)) ?_
           refine D ?_
           refine lp_next (i + 1, (enterM r.machine (xs.getD i zEntry)), addC al_ (enterM r.machine (xs.getD i zEntry))) [(36868,151556),(36869,151557),(36870,151558),(45056,225280)] ?_ ?_ ?_
           · simp only [go_sem, hA] <;> and_intros <;> first | with_reducible exact rfl | (first | with_reducible exact rfl | omega | (simp [eConfig]; done))
           · dsimp only
             refine ⟨by omega, enterM_p hP h0 hc0, by have := addC_len al_ (enterM r.machine (xs.getD i zEntry)); omega, ?_⟩
             rw [hrp, repR_drop (by omega), if_neg (by omega), if_neg (by omega)]
           · try dsimp only
             omega
         · skip
           have hac : addC al_ (enterM r.machine (xs.getD i zEntry)) = al_ := if_neg (by unfold freshM; rw [c4]; simp)
           have hA := And.intro hA (hac)
           refine D ?_
           refine lp_next (i + 1, (enterM r.machine (xs.getD i zEntry)), addC al_ (enterM r.machine (xs.getD i zEntry))) [(36868,151556),(36869,151557),(36870,151558)] ?_ ?_ ?_
           · simp only [go_sem, hA] <;> and_intros <;> first | with_reducible exact rfl | (first | with_reducible exact rfl | omega | (simp [eConfig]; done))
           · dsimp only
             refine ⟨by omega, enterM_p hP h0 hc0, by have := addC_len al_ (enterM r.machine (xs.getD i zEntry)); omega, ?_⟩
             rw [hrp, repR_drop (by omega), if_neg (by omega), if_neg (by omega)]
           · try dsimp only
             omega
   · skip
     obtain rfl : i = xs.length := by omega
     refine D ?_
     refine E ?_
     have he : replayM xs = (⟨0, r.reply, false, r.machine⟩, al_) := by unfold replayM; rw [if_neg (by omega), hrp, repR_end]
     simp [he]
theorem s_spec_SameConfigs (a b : Config) (ha : limG 2097152 a) (hb : limG 2097152 b) : SemX prog 158 [aS (eConfig false a), aS (eConfig false b)] [] [rB (decide (a = b))] [] := by
 refine goF [] [(6, 1, [12288], []), (6, 6, [16384], [])] [] func158 ?_
 obtain ⟨ha1, ha2, ha3⟩ := id ha
 obtain ⟨hb1, hb2, hb3⟩ := id hb
 refine D ?_
 refine cC (fun c0 => ?_) (fun c0 => ?_)
 · skip
   have he : ¬ a = b := fun e => by subst e; simp at c0
   refine D ?_
   refine E ?_
   simp [he]
 · skip
   have hl1 : a.version = b.version ∧ a.backends.length = b.backends.length ∧ a.vips.length = b.vips.length := by simp at c0; omega
   refine D ?_
   refine L (α := Nat) (fun x => [(5, .int .i64 x)]) (fun x => []) (fun x => a.backends.length - x) (fun x => x ≤ a.backends.length ∧ ∀ j, j < x → a.backends.getD j zBackend = b.backends.getD j zBackend) 0 [] (fun x hL => ?_) (hi := by exact ⟨Nat.zero_le _, fun j hj => by omega⟩)
   obtain ⟨hx2, hno⟩ := hL
   refine D ?_
   refine cC (fun c1 => ?_) (fun c1 => ?_)
   · skip
     refine D ?_
     refine cC (fun c2 => ?_) (fun c2 => ?_)
     · skip
       have he : ¬ a = b := fun e => by subst e; simp at c2
       refine D ?_
       refine E ?_
       simp [he]
     · skip
       have hee : (a.backends.getD x zBackend) = (b.backends.getD x zBackend) := by rw [eq_backend]; simp at c2; grind
       refine D ?_
       refine N (x+1) [] (hi := ?_) (hm := ?_)
       · refine ⟨by omega, fun j hj => ?_⟩
         rcases Nat.lt_or_ge j x with h | h
         · exact hno j h
         · obtain rfl : j = x := by omega
           exact hee
       · omega
   · skip
     obtain rfl : x = a.backends.length := by omega
     have hbe : a.backends = b.backends := eq_getD zBackend hl1.2.1 hno
     refine D ?_
     refine L (α := Nat) (fun x => [(6, .int .i64 x)]) (fun x => []) (fun x => a.vips.length - x) (fun x => x ≤ a.vips.length ∧ ∀ j, j < x → a.vips.getD j zVip = b.vips.getD j zVip) 0 [] (fun x hL => ?_) (hi := by exact ⟨Nat.zero_le _, fun j hj => by omega⟩)
     obtain ⟨hx2, hno⟩ := hL
     refine D ?_
     refine cC (fun c3 => ?_) (fun c3 => ?_)
     · skip
       refine D ?_
       refine kRg (s_spec_l5Nums (a.vips.getD x zVip).names (b.vips.getD x zVip).names (ha3 _ (getD_mem zVip (by omega))) (hb3 _ (getD_mem zVip (by omega)))) ?_
       refine D ?_
       refine cC (fun c4 => ?_) (fun c4 => ?_)
       · skip
         have he : ¬ a = b := fun e => by subst e; simp at c4
         refine D ?_
         refine E ?_
         simp [he]
       · skip
         have hee : (a.vips.getD x zVip) = (b.vips.getD x zVip) := by rw [eq_vip]; simp at c4; grind
         refine D ?_
         refine N (x+1) [] (hi := ?_) (hm := ?_)
         · refine ⟨by omega, fun j hj => ?_⟩
           rcases Nat.lt_or_ge j x with h | h
           · exact hno j h
           · obtain rfl : j = x := by omega
             exact hee
         · omega
     · skip
       obtain rfl : x = a.vips.length := by omega
       have hve : a.vips = b.vips := eq_getD zVip hl1.2.2 hno
       refine D ?_
       refine E ?_
       have he : a = b := eq_config.2 ⟨hl1.1, hbe, hve⟩
       simp [he]
theorem s_spec_l15Fault (f : Fleet) (hf : limF 2097152 f) : SemX prog 77 [aT (.ptr (eFleet false f))] [] [rI (fleetFault f)] [] := by
 refine goF [(140, ⟨some 1, none, none, none⟩)] [(16, 18, [151616], []), (16, 19, [151616], []), (16, 20, [151616], [])] [] func77 ?_
 obtain ⟨hfa, hfm, hfx⟩ := id hf
 have hal := replay_al f.agreed
 have hav : ∀ v : Nat, limG 2097152 ((replayM f.agreed).2.getD v zConfig) := fun v => limG_mono (by omega) (getD_lim hal.1 v)
 refine D ?_
 refine cC (fun c0 => ?_) (fun c0 => ?_)
 · skip
   have hff : fleetFault f = 2 := if_pos (by first | omega | (simp [inR] at c0; omega) | (simp at c0; omega) | grind)
   refine D ?_
   refine E ?_
   rw [hff]
 · skip
   have hn : f.agreed.length ≤ 80 ∧ 1 ≤ f.muxes.length ∧ f.muxes.length ≤ 3 := by first | omega | (simp [inR] at c0; omega) | (simp at c0; omega) | grind
   have hff0 : fleetFault f = if (replayM f.agreed).1.code ≠ 0 then (replayM f.agreed).1.code else scan (muxAt (replayM f.agreed).2 f.muxes) f.muxes.length 0 := if_neg (by omega)
   refine D ?_
   refine kR (s_spec_l11Replay f.agreed hfa) ?_
   refine D ?_
   refine cC (fun c1 => ?_) (fun c1 => ?_)
   · skip
     have hff : fleetFault f = (replayM f.agreed).1.code := by rw [hff0, if_pos (by omega)]
     refine D ?_
     refine E ?_
     rw [hff]
   · skip
     have hrc : (replayM f.agreed).1.code = 0 := by omega
     have hff1 : fleetFault f = scan (muxAt (replayM f.agreed).2 f.muxes) f.muxes.length 0 := by rw [hff0, if_neg (by omega)]
     have hvs : verS f.agreed = replayS f.agreed := if_neg (by omega)
     have hrl := replay_len hrc
     refine D ?_
     refine L (α := Nat) (fun i => [(5, .int .i64 i)]) (fun i => []) (fun i => f.muxes.length - i) (fun i => i ≤ f.muxes.length ∧ scan (muxAt (replayM f.agreed).2 f.muxes) f.muxes.length 0 = scan (muxAt (replayM f.agreed).2 f.muxes) f.muxes.length i) 0 [] (fun i hL => ?_) (hi := by exact ⟨Nat.zero_le _, rfl⟩)
     obtain ⟨hi2, hie⟩ := hL
     refine D ?_
     refine cC (fun c2 => ?_) (fun c2 => ?_)
     · skip
       have hst := scan_lt (f := (muxAt (replayM f.agreed).2 f.muxes)) (show i < f.muxes.length by omega)
       have hxi := hfx _ (getD_mem zMux (show i < f.muxes.length by omega))
       have hd : muxAt (replayM f.agreed).2 f.muxes i = if muxFault (f.muxes.getD i zMux) ≠ 0 then muxFault (f.muxes.getD i zMux) else if (f.muxes.getD i zMux).address ≠ 600 + i ∨ readyBad (replayM f.agreed).2 (f.muxes.getD i zMux) = true then 1 else 0 := rfl
       refine D ?_
       refine kR (s_spec_l14Fault (f.muxes.getD i zMux) hxi) ?_
       refine D ?_
       refine cC (fun c3 => ?_) (fun c3 => ?_)
       · skip
         have hbz : muxAt (replayM f.agreed).2 f.muxes i = muxFault (f.muxes.getD i zMux) := by rw [hd, if_pos (by omega)]
         refine D ?_
         refine E ?_
         rw [hff1, hie, hst, if_neg (by omega), hbz]
       · skip
         have hmf : muxFault (f.muxes.getD i zMux) = 0 := by omega
         have hcv := cf_ver (watch_cf (mux_ok hmf).2.1)
         rw [if_neg (by omega)] at hd
         refine D ?_
         refine cC (fun c4 => ?_) (fun c4 => ?_)
         · skip
           have hbz : muxAt (replayM f.agreed).2 f.muxes i = 1 := by rw [hd, if_pos (Or.inl (by simpa using c4))]
           refine D ?_
           refine E ?_
           rw [hff1, hie, hst, if_neg (by omega), hbz]
         · skip
           have had : (f.muxes.getD i zMux).address = 600 + i := by simpa using c4
           refine D ?_
           refine kDg (s_spec_SameConfigs (f.muxes.getD i zMux).watch.config ((replayM f.agreed).2.getD (f.muxes.getD i zMux).watch.config.version.toNat zConfig) hxi.1 (hav _)) ?_
           refine D ?_
           refine cC (fun c5 => ?_) (fun c5 => ?_)
           · skip
             have hbz : muxAt (replayM f.agreed).2 f.muxes i = 1 := by rw [hd]; unfold readyBad; grind
             refine D ?_
             refine E ?_
             rw [hff1, hie, hst, if_neg (by omega), hbz]
           · skip
             have hbz : muxAt (replayM f.agreed).2 f.muxes i = 0 := by rw [hd]; unfold readyBad; grind
             refine D ?_
             refine N (i+1) [] (hi := ?_) (hm := ?_)
             · refine ⟨by omega, ?_⟩
               rw [hie, hst, if_pos hbz]
             · omega
     · skip
       have hs0 : scan (muxAt (replayM f.agreed).2 f.muxes) f.muxes.length 0 = 0 := by rw [hie, scan_ge (by omega)]
       refine D ?_
       refine E ?_
       rw [hff1, hs0]
theorem s_slices_Clone_Held (xs : List Held) (hl : xs.length ≤ 2097152) : SemX prog 148 [aT (.sl false 7 (xs.map eHeld))] [] [.one (.sl true 7 (xs.map eHeld))] [] := by
 refine goF [] [] [] func148 ?_
 refine D ?_
 refine RW_isn (fun b => xs.map eHeld ≠ [] → b = false) rfl rfl (by simp only [go_sem] <;> and_intros <;> first | with_reducible exact rfl | omega | with_reducible trivial | (intros; simp_all; done) | grind) (fun b hb => ?_)
 refine D ?_
 refine cC (fun c0 => ?_) (fun c0 => ?_)
 · skip
   have hx : xs = [] := by
     cases xs with
     | nil => rfl
     | cons a l => have := hb (by simp); rw [this] at c0; cases c0
   subst hx
   refine D ?_
   exact E trivial
 · skip
   refine D ?_
   exact E trivial
theorem s_impl_Mux_copied (m : Mux) (hm : limX 2097152 m) : SemX prog 73 [aS (eMux false m)] [] [.agg (eMux true m)] [] := by
 refine goF [] [] [] func73 ?_
 obtain ⟨hg, ht, htr, hc⟩ := id hm
 refine D ?_
 refine kR (s_impl_Config_copied m.watch.config hg) ?_
 refine D ?_
 refine L (α := Nat) (fun i => [(3, .ref 53248 0 i), (16, .int .i64 i)]) (fun i => [(53248, .arr ⟨1, (m.tables.take i).map (eLI_i64 true), 1, none⟩)]) (fun i => m.tables.length - i) (fun i => i ≤ m.tables.length) 0 [] (fun i hI => ?_)
 refine D ?_
 refine cC (fun c0 => ?_) (fun c0 => ?_)
 · skip
   have htl := htr _ (getD_mem zLI_i64 (show i < m.tables.length by omega))
   refine D ?_
   refine kR (s_slices_Clone_int64 (m.tables.getD i zLI_i64) htl) ?_
   refine D ?_
   refine lp_next (i+1) [(53248,102400)] ?_ ?_ ?_
   · simp only [go_sem] <;> and_intros <;> first | with_reducible exact rfl | (first | with_reducible exact rfl | omega | (rw [take_succ_map _ zLI_i64 (by omega)]; simp only [eLI_i64]))
   · omega
   · omega
 · skip
   obtain rfl : i = m.tables.length := by omega
   refine D ?_
   refine kR (s_slices_Clone_Held m.cache hc) ?_
   refine D ?_
   exact E trivial
theorem s_slices_Clone_Entry (xs : List Entry) (hl : xs.length ≤ 2097152) : SemX prog 182 [aT (.sl false 9 (xs.map eEntry))] [] [.one (.sl true 9 (xs.map eEntry))] [] := by
 refine goF [] [] [] func182 ?_
 refine D ?_
 refine RW_isn (fun b => xs.map eEntry ≠ [] → b = false) rfl rfl (by simp only [go_sem] <;> and_intros <;> first | with_reducible exact rfl | omega | with_reducible trivial | (intros; simp_all; done) | grind) (fun b hb => ?_)
 refine D ?_
 refine cC (fun c0 => ?_) (fun c0 => ?_)
 · skip
   have hx : xs = [] := by
     cases xs with
     | nil => rfl
     | cons a l => have := hb (by simp); rw [this] at c0; cases c0
   subst hx
   refine D ?_
   exact E trivial
 · skip
   refine D ?_
   exact E trivial
theorem s_impl_Fleet_copied (f : Fleet) (hf : limF 2097152 f) : SemX prog 100 [aS (eFleet false f)] [] [.agg (eFleet true f)] [] := by
 refine goF [(20, ⟨some 4, some 40960, some (66, true), none⟩)] [(5, 1, [16384], []), (5, 2, [24576], []), (5, 3, [], [86020, 86021, 86022, 86023]), (5, 4, [86020, 86021, 86022, 86023], [90112, 86020, 86021, 86022, 86023]), (5, 5, [40961, 90112], [94208, 40961, 90112]), (5, 7, [16384], [16384])] [] func100 ?_
 obtain ⟨hfa, hfm, hfx⟩ := id hf
 refine D ?_
 refine kR (s_slices_Clone_Entry f.agreed hfa) ?_
 refine D ?_
 refine L (α := Nat) (fun i => [(13, .int .i64 i)]) (fun i => [(16384, .var [.ref 36864 0 f.agreed.length, .ref 40961 0 i]), (40961, .arr ⟨8, (f.muxes.take i).map (eMux true), 1, none⟩)]) (fun i => f.muxes.length - i) (fun i => i ≤ f.muxes.length) 0 [] (fun i hI => ?_)
 refine D ?_
 refine cC (fun c0 => ?_) (fun c0 => ?_)
 · skip
   have hxi := hfx _ (getD_mem zMux (show i < f.muxes.length by omega))
   refine D ?_
   refine kD (s_impl_Mux_copied (f.muxes.getD i zMux) hxi) ?_
   refine D ?_
   refine lp_next (i+1) [(40961,94208)] ?_ ?_ ?_
   · simp only [go_sem] <;> and_intros <;> first | with_reducible exact rfl | (first | with_reducible exact rfl | omega | (rw [take_succ_map _ zMux (by omega)]; simp only [eMux, eWatch, eConfig]))
   · omega
   · omega
 · skip
   obtain rfl : i = f.muxes.length := by omega
   refine D ?_
   exact E trivial
theorem s_spec_l14Copy (m : Mux) (hm : limX 2097152 m) : SemX prog 58 [aS (eMux false m)] [] [.agg (eMux true m)] [] := by
 refine goF [(44, ⟨some 4, some 90112, some (42, true), none⟩)] [(1, 1, [8192], []), (1, 3, [8192], []), (1, 6, [8192], []), (1, 9, [8192], []), (1, 10, [], [65537, 65538]), (1, 12, [], [73728]), (1, 14, [8192], []), (1, 15, [73728], [86016, 73728]), (1, 16, [], [90118]), (1, 17, [], [16384]), (1, 18, [16384], [16384]), (5, 1, [16384], []), (5, 2, [], [131072]), (5, 4, [8192], []), (5, 8, [131072], [155648, 131072]), (5, 9, [155648], [159744, 155648]), (5, 10, [90118, 159744], [163840, 90118, 159744]), (5, 12, [16384], [16384])] [] func58 ?_
 obtain ⟨hg, ht, htr, hc⟩ := id hm
 refine D ?_
 refine kD (s_spec_l5Copy m.watch.config hg) ?_
 refine D ?_
 refine L (α := Nat) (fun i => [(4, .int .i64 i)]) (fun i => [(16384, .var [.int .i64 m.address, .int .i64 m.now, .bool m.watch.ready, .int .i64 m.watch.config.version, .ref 65537 0 m.watch.config.backends.length, .ref 65538 0 m.watch.config.vips.length, .ref 90118 0 i, .ref 86016 0 m.cache.length]), (90118, .arr ⟨1, (m.tables.take i).map (eLI_i64 true), 1, none⟩)]) (fun i => m.tables.length - i) (fun i => i ≤ m.tables.length) 0 [] (fun i hI => ?_)
 refine D ?_
 refine cC (fun c0 => ?_) (fun c0 => ?_)
 · skip
   have htl := htr _ (getD_mem zLI_i64 (show i < m.tables.length by omega))
   refine D ?_
   refine lp_next (i+1) [(90118,163840)] ?_ ?_ ?_
   · simp only [go_sem] <;> and_intros <;> first | with_reducible exact rfl | (first | with_reducible exact rfl | omega | (rw [take_succ_map _ zLI_i64 (by omega)]; simp only [eLI_i64]))
   · omega
   · omega
 · skip
   obtain rfl : i = m.tables.length := by omega
   refine D ?_
   exact E trivial
theorem s_spec_l7Copy (xs : List Entry) (hl : xs.length ≤ 2097152) : SemX prog 179 [.one (.t (.sl false 9 (xs.map eEntry)))] [] [.one (.sl true 9 (xs.map eEntry))] [] := by
 refine goF [] [] [] func179 ?_
 refine D ?_
 exact E trivial
theorem s_spec_l15Copy (f : Fleet) (hf : limF 2097152 f) : SemX prog 96 [aS (eFleet false f)] [] [.agg (eFleet true f)] [] := by
 refine goF [(18, ⟨some 4, some 36864, some (66, true), none⟩)] [(5, 1, [16384], []), (5, 3, [8192], []), (5, 7, [], [98308, 98309, 98310, 98311]), (5, 8, [98308, 98309, 98310, 98311], [102400, 98308, 98309, 98310, 98311]), (5, 9, [36865, 102400], [106496, 36865, 102400]), (5, 11, [16384], [16384])] [] func96 ?_
 obtain ⟨hfa, hfm, hfx⟩ := id hf
 refine D ?_
 refine kR (s_spec_l7Copy f.agreed hfa) ?_
 refine D ?_
 refine L (α := Nat) (fun i => [(4, .int .i64 i)]) (fun i => [(16384, .var [.ref 32768 0 f.agreed.length, .ref 36865 0 i]), (36865, .arr ⟨8, (f.muxes.take i).map (eMux true), 1, none⟩)]) (fun i => f.muxes.length - i) (fun i => i ≤ f.muxes.length) 0 [] (fun i hI => ?_)
 refine D ?_
 refine cC (fun c0 => ?_) (fun c0 => ?_)
 · skip
   have hxi := hfx _ (getD_mem zMux (show i < f.muxes.length by omega))
   refine D ?_
   refine kD (s_spec_l14Copy (f.muxes.getD i zMux) hxi) ?_
   refine D ?_
   refine lp_next (i+1) [(36865,106496)] ?_ ?_ ?_
   · simp only [go_sem] <;> and_intros <;> first | with_reducible exact rfl | (first | with_reducible exact rfl | omega | (rw [take_succ_map _ zMux (by omega)]; simp only [eMux, eWatch, eConfig]))
   · omega
   · omega
 · skip
   obtain rfl : i = f.muxes.length := by omega
   refine D ?_
   exact E trivial
section
attribute [local go_sem] badF okF zFleet
theorem s_spec_l15Bad (k : Int) : SemX prog 94 [aI k] [] [.agg (eFleetResult true (badF k))] [] := by
 refine goF [] [] [] func94 ?_
 refine D ?_
 exact E trivial
end
end Go.H
end
