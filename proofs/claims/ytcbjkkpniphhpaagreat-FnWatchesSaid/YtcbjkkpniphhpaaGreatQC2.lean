/- What the functions that several laws reach compute, each by its code, against pure functions. Conditions: those that each theorem states. -/
import Derived.Test.YtcbjkkpniphhpaaGreatQC1
section
set_option maxRecDepth 100000
set_option maxHeartbeats 4000000
set_option cbv.maxSteps 4000000
set_option linter.unusedVariables false
set_option linter.unusedSimpArgs false
namespace Go.H
open Go Go.Proofs.Tryz
variable [Inv prog]
theorem s_impl_Config_backend (c : Config) (hx : limG 2097152 c) (n : Int) : SemX prog 48 [aT (.ptr (eConfig false c)), aI n] [] [rI (findB c.backends n)] [] := by
 refine goF [] [] [] func48 ?_
 obtain ⟨hb, hv, hV⟩ := id hx
 refine D ?_
 refine kR (s_slices_IndexFunc_Backend c.backends hb 92 n (isB n) (by kernel_rfl) (fun b _ => s_impl_Config_backend_1 b n)) ?_
 refine D ?_
 refine E ?_
 first
 | exact trivial
 | simp only [go_sem, findB]
theorem s_slices_IndexFunc_Vip (R : List Vip) (hl : R.length ≤ 2097152) (fn : Nat) (a p r : Int) (q : Vip → Bool) (hq : callB prog fn = true) (hf : ∀ b : Vip, b ∈ R → SemX prog fn [aS (eVip false b), aT (.ptr [.int .i64 a]), aT (.ptr [.int .i64 p]), aT (.ptr [.int .i64 r])] [] [rB (q b)] []) : SemX prog 142 [aT (.sl false 4 (R.map (eVip false))), .one (.fn fn [.t (.ptr [.int .i64 a]), .t (.ptr [.int .i64 p]), .t (.ptr [.int .i64 r])])] [] [rI (idxG q R)] [] := by
 refine goF [] [] [] func142 ?_
 refine D ?_
 refine L (α := Nat) (fun x => [(8, .int .i64 x)]) (fun x => []) (fun x => R.length - x) (fun x => x ≤ R.length ∧ ∀ j, j < x → q (R.getD j zVip) = false) 0 [] (fun x hL => ?_) (hi := by exact ⟨Nat.zero_le _, fun j hj => by omega⟩)
 obtain ⟨hx2, hno⟩ := hL
 refine D ?_
 refine cC (fun c0 => ?_) (fun c0 => ?_)
 · skip
   refine D ?_
   refine kR (hf (R.getD x zVip) (getD_mem zVip (by omega))) ?_ hq
   refine D ?_
   refine cC (fun c1 => ?_) (fun c1 => ?_)
   · skip
     refine D ?_
     refine E ?_
     rw [idxG_some zVip (by omega) hno c1]
   · skip
     refine D ?_
     refine N (x+1) [] (hi := ?_) (hm := ?_)
     · refine ⟨by omega, fun j hj => ?_⟩
       rcases Nat.lt_or_ge j x with h | h
       · exact hno j h
       · obtain rfl : j = x := by omega
         first | exact c1 | (simpa [isB, isV, eqI] using c1) | (simp [isB, isV, eqI]; grind)
     · omega
 · skip
   obtain rfl : x = R.length := by omega
   refine D ?_
   refine E ?_
   rw [idxG_none zVip hno]
theorem s_slices_IndexFunc_Vip_cmd (R : List Vip) (hl : R.length ≤ 2097152) (fn : Nat) (x_ : Cmd) (q : Vip → Bool) (hq : callB prog fn = true) (hf : ∀ b : Vip, b ∈ R → SemX prog fn [aS (eVip false b), aT (.ptr (eCmd x_))] [] [rB (q b)] []) : SemX prog 142 [aT (.sl false 4 (R.map (eVip false))), .one (.fn fn [.t (.ptr (eCmd x_))])] [] [rI (idxG q R)] [] := by
 refine goF [] [] [] func142 ?_
 refine D ?_
 refine L (α := Nat) (fun x => [(8, .int .i64 x)]) (fun x => []) (fun x => R.length - x) (fun x => x ≤ R.length ∧ ∀ j, j < x → q (R.getD j zVip) = false) 0 [] (fun x hL => ?_) (hi := by exact ⟨Nat.zero_le _, fun j hj => by omega⟩)
 obtain ⟨hx2, hno⟩ := hL
 refine D ?_
 refine cC (fun c0 => ?_) (fun c0 => ?_)
 · skip
   refine D ?_
   refine kR (hf (R.getD x zVip) (getD_mem zVip (by omega))) ?_ hq
   refine D ?_
   refine cC (fun c1 => ?_) (fun c1 => ?_)
   · skip
     refine D ?_
     refine E ?_
     rw [idxG_some zVip (by omega) hno c1]
   · skip
     refine D ?_
     refine N (x+1) [] (hi := ?_) (hm := ?_)
     · refine ⟨by omega, fun j hj => ?_⟩
       rcases Nat.lt_or_ge j x with h | h
       · exact hno j h
       · obtain rfl : j = x := by omega
         first | exact c1 | (simpa [isB, isV, eqI] using c1) | (simp [isB, isV, eqI]; grind)
     · omega
 · skip
   obtain rfl : x = R.length := by omega
   refine D ?_
   refine E ?_
   rw [idxG_none zVip hno]
theorem s_impl_Config_vip_1 (v : Vip) (a p q : Int) : SemX prog 143 [aS (eVip false v), aT (.ptr [.int .i64 a]), aT (.ptr [.int .i64 p]), aT (.ptr [.int .i64 q])] [] [rB (isV a p q v)] [] := by
 refine goF [] [] [] func143 ?_
 refine D ?_
 refine E ?_
 first
 | exact trivial
 | simp only [go_sem, isV]
theorem s_impl_Config_vip (c : Config) (hx : limG 2097152 c) (a p r : Int) : SemX prog 127 [aT (.ptr (eConfig false c)), aI a, aI p, aI r] [] [rI (findV c.vips a p r)] [] := by
 refine goF [] [] [] func127 ?_
 obtain ⟨hb, hv, hV⟩ := id hx
 refine D ?_
 refine kR (s_slices_IndexFunc_Vip c.vips hv 143 a p r (isV a p r) (by kernel_rfl) (fun v _ => s_impl_Config_vip_1 v a p r)) ?_
 refine D ?_
 refine E ?_
 first
 | exact trivial
 | simp only [go_sem, findV]
theorem s_slices_insertionSortCmpFunc_Backend (R : List Backend) (b : Backend) (k : Nat) (fn : Nat) (cm : Backend → Backend → Int) (hq : callB prog fn = true) (hf : ∀ p q : Backend, SemX prog fn [aS (eBackend p), aS (eBackend q)] [] [rI (cm p q)] []) (hk : k ≤ R.length) (hl : R.length ≤ 11) (h1 : ∀ q, k ≤ q → q < R.length → cm b (R.getD q zBackend) < 0) (h2 : ∀ q, q < k → ¬ cm b (R.getD q zBackend) < 0) (h3 : ∀ i, 0 < i → i < R.length → ¬ cm (R.getD i zBackend) (R.getD (i - 1) zBackend) < 0) : SemX prog 155 [.one (.arr 0), aI 0, aI (R.length + 1), .one (.fn fn [])] [.arr 5 ((R ++ [b]).map eBackend)] [] [.arr 5 ((insAt R b k).map eBackend)] := by
 refine goF [] [(4, 7, [1000000], []), (4, 8, [1000000], []), (4, 12, [1000000], []), (4, 13, [1000000], []), (6, 8, [1000000], []), (6, 9, [1000000], []), (6, 12, [1000000], []), (6, 13, [1000000], []), (6, 14, [1000000], []), (6, 15, [1000000], [1000000]), (6, 16, [1000000], []), (6, 17, [1000000], [1000000])] [] func155 ?_
 refine D ?_
 refine L (α := Nat) (fun x => [(8, .int .i64 x)]) (fun x => [(1000000, .arr ⟨5, (rowO R b k x).map eBackend, verO R k x, none⟩)]) (fun x => R.length + 1 - x) (fun x => 1 ≤ x ∧ x ≤ R.length + 1) 1 [] (fun x hL => ?_) (by simp only [go_sem] <;> and_intros <;> first | with_reducible exact rfl | (first | omega | (refine arr_eq ?_ ?_ <;> simp only [rowO_one R b hk, verO_one R hk]; done))) (by exact ⟨by omega, by omega⟩)
 obtain ⟨hx1, hx2⟩ := hL
 refine D ?_
 refine cC (fun c0 => ?_) (fun c0 => ?_)
 · skip
   have hxl : x ≤ R.length := by omega
   refine D ?_
   refine L (α := Nat) (fun j => [(9, .int .i64 j)]) (fun j => [(1000000, .arr ⟨5, (rowI R b x j).map eBackend, 1 + 2 * (x - j), none⟩)]) (fun j => j) (fun j => j ≤ x ∧ (x < R.length → j = x) ∧ (x = R.length → k ≤ j)) x [] (fun j hL => ?_) (by simp only [go_sem] <;> and_intros <;> first | with_reducible exact rfl | (first | omega | (refine arr_eq (by rw [rowO_in R b k hxl, rowI_self R b hxl]) (by have := verO_in R k hxl; omega)))) (by exact ⟨Nat.le_refl _, fun _ => rfl, fun h => by omega⟩)
   obtain ⟨hj, hjx, hkj⟩ := hL
   refine D ?_
   refine kDg (hf ((rowI R b x j).getD j zBackend) ((rowI R b x j).getD (j - 1) zBackend)) ?_ hq
   refine D ?_
   refine cC (fun c1 => ?_) (fun c1 => ?_)
   · skip
     have hc : 0 < j ∧ cm ((rowI R b x j).getD j zBackend) ((rowI R b x j).getD (j - 1) zBackend) < 0 := by simpa using c1
     have hgo := rowI_go zBackend hxl hj h3 hjx h2 hc
     have hg : ∀ r, (((rowI R b x j).map eBackend).set j r).getD (j - 1) dBackend = eBackend (((rowI R b x j).getD (j - 1) zBackend)) := fun r => by
       rw [List.getD_eq_getElem?_getD, List.getElem?_set_ne (by omega), ← List.getD_eq_getElem?_getD]
       simp only [go_sem]
     have hA := hg
     refine D ?_
     refine lp_next (j - 1) [] ?_ ?_ ?_
     · simp only [go_sem, hA] <;> and_intros <;> first | with_reducible exact rfl | (first | omega | (refine int_eq ?_; omega) | (refine arr_eq (by simpa only [eBackend] using rowI_swap eBackend R b zBackend hgo.1 hj hc.1) (by omega)))
     · exact ⟨by omega, fun h => by omega, fun h => by omega⟩
     · omega
   · skip
     have hc : ¬ (0 < j ∧ cm ((rowI R b x j).getD j zBackend) ((rowI R b x j).getD (j - 1) zBackend) < 0) := by simpa using c1
     have hend := rowI_end zBackend hxl hj h1 hkj hc
     refine D ?_
     refine lp_next (x+1) [] ?_ ?_ ?_
     · simp only [go_sem] <;> and_intros <;> first | with_reducible exact rfl | (first | omega | (refine int_eq ?_; omega) | (refine arr_eq ?_ ?_ <;> first | rw [hend.1] | (unfold verO; split <;> omega)))
     · omega
     · omega
 · skip
   obtain rfl : x = R.length + 1 := by omega
   refine D ?_
   refine E ?_
   first
   | exact trivial
   | rw [rowO_out]
theorem s_slices_pdqsortCmpFunc_Backend (R : List Backend) (b : Backend) (k : Nat) (fn : Nat) (cm : Backend → Backend → Int) (hq : callB prog fn = true) (hf : ∀ p q : Backend, SemX prog fn [aS (eBackend p), aS (eBackend q)] [] [rI (cm p q)] []) (hk : k ≤ R.length) (hl : R.length ≤ 11) (h1 : ∀ q, k ≤ q → q < R.length → cm b (R.getD q zBackend) < 0) (h2 : ∀ q, q < k → ¬ cm b (R.getD q zBackend) < 0) (h3 : ∀ i, 0 < i → i < R.length → ¬ cm (R.getD i zBackend) (R.getD (i - 1) zBackend) < 0) (lim : Int) : SemX prog 144 [.one (.arr 0), aI 0, aI (R.length + 1), aI lim, .one (.fn fn [])] [.arr 5 ((R ++ [b]).map eBackend)] [] [.arr 5 ((insAt R b k).map eBackend)] := by
 refine goF [] [] [] func144 ?_
 refine D ?_
 refine L (α := Nat) (fun x => []) (fun x => []) (fun x => 0) (fun x => True) 0 [] (fun x hI => ?_) (hi := by trivial)
 refine D ?_
 refine cC (fun c0 => ?_) (fun c0 => ?_)
 · skip
   refine D ?_
   refine kRk [1000000] [] [] (s_slices_insertionSortCmpFunc_Backend R b k fn cm hq hf hk hl h1 h2 h3) ?_
   refine D ?_
   exact E trivial
 · skip
   omega
theorem s_math_bits_Len64 (n : Nat) (hn : n ≤ 12) : SemX prog 164 [.one (.t (.int .u64 n))] [] [rI (if n = 0 then 0 else if n < 2 then 1 else if n < 4 then 2 else if n < 8 then 3 else 4 : Int)] [] := by
 refine goF [] [] [] func164 ?_
 refine D ?_
 refine cC (fun c0 => ?_) (fun c0 => ?_)
 · skip
   exfalso
   omega
 · skip
   refine D ?_
   refine cC (fun c1 => ?_) (fun c1 => ?_)
   · skip
     exfalso
     omega
   · skip
     refine D ?_
     refine cC (fun c2 => ?_) (fun c2 => ?_)
     · skip
       exfalso
       omega
     · skip
       refine D ?_
       refine E ?_
       rcases (by omega : n = 0 ∨ n = 1 ∨ n = 2 ∨ n = 3 ∨ n = 4 ∨ n = 5 ∨ n = 6 ∨ n = 7 ∨ n = 8 ∨ n = 9 ∨ n = 10 ∨ n = 11 ∨ n = 12) with rfl | rfl | rfl | rfl | rfl | rfl | rfl | rfl | rfl | rfl | rfl | rfl | rfl
       all_goals exact ⟨by decide, ⟨by decide, by decide⟩, rfl⟩
theorem s_math_bits_Len (n : Nat) (hn : n ≤ 12) : SemX prog 145 [.one (.t (.int .u64 n))] [] [rI (if n = 0 then 0 else if n < 2 then 1 else if n < 4 then 2 else if n < 8 then 3 else 4 : Int)] [] := by
 refine goF [] [] [] func145 ?_
 refine D ?_
 refine cF ?_
 refine D ?_
 refine kR (s_math_bits_Len64 n hn) ?_
 refine D ?_
 exact E trivial
theorem s_slices_SortFunc_Backend (R : List Backend) (b : Backend) (k : Nat) (fn : Nat) (cm : Backend → Backend → Int) (hq : callB prog fn = true) (hf : ∀ p q : Backend, SemX prog fn [aS (eBackend p), aS (eBackend q)] [] [rI (cm p q)] []) (hk : k ≤ R.length) (hl : R.length ≤ 11) (h1 : ∀ q, k ≤ q → q < R.length → cm b (R.getD q zBackend) < 0) (h2 : ∀ q, q < k → ¬ cm b (R.getD q zBackend) < 0) (h3 : ∀ i, 0 < i → i < R.length → ¬ cm (R.getD i zBackend) (R.getD (i - 1) zBackend) < 0) : SemX prog 128 [.one (.arr 0), .one (.fn fn [])] [.arr 5 ((R ++ [b]).map eBackend)] [] [.arr 5 ((insAt R b k).map eBackend)] := by
 refine goF [] [] [] func128 ?_
 have hwu : IntKind.u64.wrap ((R.length : Int) + 1) = (R.length : Int) + 1 := by
   have := wrap_u (R.length + 1) (by omega)
   simpa using this
 have hA := hwu
 refine D ?_
 refine kR (s_math_bits_Len (R.length + 1) (by omega)) ?_
 refine D ?_
 refine kRk [1000000] [] [] (s_slices_pdqsortCmpFunc_Backend R b k fn cm hq hf hk hl h1 h2 h3 (if (R.length + 1) = 0 then 0 else if (R.length + 1) < 2 then 1 else if (R.length + 1) < 4 then 2 else if (R.length + 1) < 8 then 3 else 4 : Int)) ?_
 refine D ?_
 exact E trivial
theorem s_impl_Config_does_1 (p q : Backend) : SemX prog 129 [aS (eBackend p), aS (eBackend q)] [] [rI (cmpB p q)] [] := by
 refine goF [] [] [] func129 ?_
 refine D ?_
 refine kR (s_cmp_Compare_int64 p.name q.name) ?_
 refine D ?_
 refine E ?_
 first
 | exact trivial
 | simp only [go_sem, cmpB]
section
attribute [local go_sem] eRV
theorem s_slices_insertionSortCmpFunc_Vip (R : List RVp) (b : RVp) (k : Nat) (fn : Nat) (cm : RVp → RVp → Int) (hq : callB prog fn = true) (hf : ∀ p q : RVp, SemX prog fn [aS (eRV p), aS (eRV q)] [] [rI (cm p q)] []) (hk : k ≤ R.length) (hl : R.length ≤ 11) (h1 : ∀ q, k ≤ q → q < R.length → cm b (R.getD q zRV) < 0) (h2 : ∀ q, q < k → ¬ cm b (R.getD q zRV) < 0) (h3 : ∀ i, 0 < i → i < R.length → ¬ cm (R.getD i zRV) (R.getD (i - 1) zRV) < 0) : SemX prog 165 [.one (.arr 0), aI 0, aI (R.length + 1), .one (.fn fn [])] [.arr 4 ((R ++ [b]).map eRV)] [] [.arr 4 ((insAt R b k).map eRV)] := by
 refine goF [(54, ⟨none, none, some (90001, true), none⟩), (64, ⟨none, none, some (90001, true), none⟩), (94, ⟨none, none, some (90001, true), none⟩), (102, ⟨none, none, some (90001, true), none⟩), (105, ⟨none, none, some (90001, true), none⟩), (107, ⟨none, none, some (90001, true), none⟩)] [(4, 7, [1000000], []), (4, 8, [1000000], []), (4, 12, [1000000], []), (4, 13, [1000000], []), (4, 14, [1000000], []), (6, 8, [1000000], []), (6, 9, [1000000], []), (6, 12, [1000000], []), (6, 13, [1000000], []), (6, 14, [1000000], []), (6, 15, [1000000], [1000000]), (6, 16, [1000000], []), (6, 17, [1000000], [1000000])] [] func165 ?_
 refine D ?_
 refine L (α := Nat) (fun x => [(8, .int .i64 x)]) (fun x => [(1000000, .arr ⟨4, (rowO R b k x).map eRV, verO R k x, none⟩)]) (fun x => R.length + 1 - x) (fun x => 1 ≤ x ∧ x ≤ R.length + 1) 1 [] (fun x hL => ?_) (by simp only [go_sem] <;> and_intros <;> first | with_reducible exact rfl | (first | omega | (refine arr_eq ?_ ?_ <;> simp only [rowO_one R b hk, verO_one R hk]; done))) (by exact ⟨by omega, by omega⟩)
 obtain ⟨hx1, hx2⟩ := hL
 refine D ?_
 refine cC (fun c0 => ?_) (fun c0 => ?_)
 · skip
   have hxl : x ≤ R.length := by omega
   refine D ?_
   refine L (α := Nat) (fun j => [(9, .int .i64 j)]) (fun j => [(1000000, .arr ⟨4, (rowI R b x j).map eRV, 1 + 2 * (x - j), none⟩)]) (fun j => j) (fun j => j ≤ x ∧ (x < R.length → j = x) ∧ (x = R.length → k ≤ j)) x [] (fun j hL => ?_) (by simp only [go_sem] <;> and_intros <;> first | with_reducible exact rfl | (first | omega | (refine arr_eq (by rw [rowO_in R b k hxl, rowI_self R b hxl]) (by have := verO_in R k hxl; omega)))) (by exact ⟨Nat.le_refl _, fun _ => rfl, fun h => by omega⟩)
   obtain ⟨hj, hjx, hkj⟩ := hL
   refine D ?_
   refine kDg (hf ((rowI R b x j).getD j zRV) ((rowI R b x j).getD (j - 1) zRV)) ?_ hq
   refine D ?_
   refine cC (fun c1 => ?_) (fun c1 => ?_)
   · skip
     have hc : 0 < j ∧ cm ((rowI R b x j).getD j zRV) ((rowI R b x j).getD (j - 1) zRV) < 0 := by simpa using c1
     have hgo := rowI_go zRV hxl hj h3 hjx h2 hc
     have hg : ∀ r, (((rowI R b x j).map eRV).set j r).getD (j - 1) dRV = eRV (((rowI R b x j).getD (j - 1) zRV)) := fun r => by
       rw [List.getD_eq_getElem?_getD, List.getElem?_set_ne (by omega), ← List.getD_eq_getElem?_getD]
       simp only [go_sem]
     have hA := hg
     refine D ?_
     refine lp_next (j - 1) [] ?_ ?_ ?_
     · simp only [go_sem, hA] <;> and_intros <;> first | with_reducible exact rfl | (first | omega | (refine int_eq ?_; omega) | (refine arr_eq (by simpa only [eRV] using rowI_swap eRV R b zRV hgo.1 hj hc.1) (by omega)))
     · exact ⟨by omega, fun h => by omega, fun h => by omega⟩
     · omega
   · skip
     have hc : ¬ (0 < j ∧ cm ((rowI R b x j).getD j zRV) ((rowI R b x j).getD (j - 1) zRV) < 0) := by simpa using c1
     have hend := rowI_end zRV hxl hj h1 hkj hc
     refine D ?_
     refine lp_next (x+1) [] ?_ ?_ ?_
     · simp only [go_sem] <;> and_intros <;> first | with_reducible exact rfl | (first | omega | (refine int_eq ?_; omega) | (refine arr_eq ?_ ?_ <;> first | rw [hend.1] | (unfold verO; split <;> omega)))
     · omega
     · omega
 · skip
   obtain rfl : x = R.length + 1 := by omega
   refine D ?_
   refine E ?_
   first
   | exact trivial
   | rw [rowO_out]
end
section
attribute [local go_sem] eRV
theorem s_slices_pdqsortCmpFunc_Vip (R : List RVp) (b : RVp) (k : Nat) (fn : Nat) (cm : RVp → RVp → Int) (hq : callB prog fn = true) (hf : ∀ p q : RVp, SemX prog fn [aS (eRV p), aS (eRV q)] [] [rI (cm p q)] []) (hk : k ≤ R.length) (hl : R.length ≤ 11) (h1 : ∀ q, k ≤ q → q < R.length → cm b (R.getD q zRV) < 0) (h2 : ∀ q, q < k → ¬ cm b (R.getD q zRV) < 0) (h3 : ∀ i, 0 < i → i < R.length → ¬ cm (R.getD i zRV) (R.getD (i - 1) zRV) < 0) (lim : Int) : SemX prog 146 [.one (.arr 0), aI 0, aI (R.length + 1), aI lim, .one (.fn fn [])] [.arr 4 ((R ++ [b]).map eRV)] [] [.arr 4 ((insAt R b k).map eRV)] := by
 refine goF [] [] [] func146 ?_
 refine D ?_
 refine L (α := Nat) (fun x => []) (fun x => []) (fun x => 0) (fun x => True) 0 [] (fun x hI => ?_) (hi := by trivial)
 refine D ?_
 refine cC (fun c0 => ?_) (fun c0 => ?_)
 · skip
   refine D ?_
   refine kRk [1000000] [] [] (s_slices_insertionSortCmpFunc_Vip R b k fn cm hq hf hk hl h1 h2 h3) ?_
   refine D ?_
   exact E trivial
 · skip
   omega
end
section
attribute [local go_sem] eRV
theorem s_slices_SortFunc_Vip_raw (R : List RVp) (b : RVp) (k : Nat) (fn : Nat) (cm : RVp → RVp → Int) (hq : callB prog fn = true) (hf : ∀ p q : RVp, SemX prog fn [aS (eRV p), aS (eRV q)] [] [rI (cm p q)] []) (hk : k ≤ R.length) (hl : R.length ≤ 11) (h1 : ∀ q, k ≤ q → q < R.length → cm b (R.getD q zRV) < 0) (h2 : ∀ q, q < k → ¬ cm b (R.getD q zRV) < 0) (h3 : ∀ i, 0 < i → i < R.length → ¬ cm (R.getD i zRV) (R.getD (i - 1) zRV) < 0) : SemX prog 130 [.one (.arr 0), .one (.fn fn [])] [.arr 4 ((R ++ [b]).map eRV)] [] [.arr 4 ((insAt R b k).map eRV)] := by
 refine goF [] [] [] func130 ?_
 have hwu : IntKind.u64.wrap ((R.length : Int) + 1) = (R.length : Int) + 1 := by
   have := wrap_u (R.length + 1) (by omega)
   simpa using this
 have hA := hwu
 refine D ?_
 refine kR (s_math_bits_Len (R.length + 1) (by omega)) ?_
 refine D ?_
 refine kRk [1000000] [] [] (s_slices_pdqsortCmpFunc_Vip R b k fn cm hq hf hk hl h1 h2 h3 (if (R.length + 1) = 0 then 0 else if (R.length + 1) < 2 then 1 else if (R.length + 1) < 4 then 2 else if (R.length + 1) < 8 then 3 else 4 : Int)) ?_
 refine D ?_
 exact E trivial
end
theorem s_slices_SortFunc_Vip (R : List Vip) (b : Vip) (k : Nat) (fn : Nat) (cm : Vip → Vip → Int) (hq : callB prog fn = true) (hf : ∀ p q : RVp, SemX prog fn [aS (eRV p), aS (eRV q)] [] [rI (cm p.1 q.1)] []) (hk : k ≤ R.length) (hl : R.length ≤ 11) (h1 : ∀ q, k ≤ q → q < R.length → cm b (R.getD q zVip) < 0) (h2 : ∀ q, q < k → ¬ cm b (R.getD q zVip) < 0) (h3 : ∀ i, 0 < i → i < R.length → ¬ cm (R.getD i zVip) (R.getD (i - 1) zVip) < 0) : SemX prog 130 [.one (.arr 0), .one (.fn fn [])] [.arr 4 ((R ++ [b]).map (eVip true))] [] [.arr 4 ((insAt R b k).map (eVip true))] := by
  refine SemX_rawVip fun R' b' e1 e2 => ?_
  subst e1 e2
  simp only [List.length_map] at hk hl h1 h3
  simp only [fst_RV] at h1 h2 h3
  exact s_slices_SortFunc_Vip_raw R' b' k fn (fun p q => cm p.1 q.1) hq hf hk hl h1 h2 h3
theorem s_slices_Delete_Vip (R : List (List T)) (i j : Nat) (hij : i < j) (hj : j ≤ R.length) (hl : R.length ≤ 2097152) (hs : cpRows none (R.drop j) = True) (hn : T.noShR (R.take i ++ R.drop j) = True) : SemX prog 131 [.one (.t (.sl true 4 R)), aI i, aI j] [] [.one (.sl true 4 (R.take i ++ R.drop j))] [] := by
 refine goF [(54, ⟨some 7, none, none, none⟩)] [(5, 2, [0], []), (5, 5, [0], []), (5, 6, [0], [0])] [] func131 ?_
 have hA := hs
 refine D ?_
 refine cC (fun c0 => ?_) (fun c0 => ?_)
 · skip
   omega
 · skip
   refine D ?_
   refine E ?_
   rw [if_pos (by omega)]
   exact ⟨congrArg (fun r => [TV.one (T.sl true 4 r)]) (del_rowsR R (by omega) hj _ _ _), rfl, rfl⟩
theorem s_cmp_Less_int64 (a b : Int) : SemX prog 173 [aI a, aI b] [] [rB (decide (a < b))] [] := by
 refine goF [] [] [] func173 ?_
 refine D ?_
 refine kR (s_cmp_isNaN_int64 _) ?_
 refine D ?_
 refine kRg (s_cmp_isNaN_int64 _) ?_
 refine D ?_
 exact E trivial
theorem s_slices_isNaN_int64 (a : Int) : SemX prog 174 [aI a] [] [rB false] [] := by
 refine goF [] [] [] func174 ?_
 refine D ?_
 exact E trivial
theorem s_slices_BinarySearch_int64 (xs : List Int) (v : Int) (hr : rises xs) (hl : xs.length ≤ 2097152) : SemX prog 147 [aT (.sl false 1 (xs.map eI_i64)), aI v] [] [rI (lbn xs v), rB (hasI xs v)] [] := by
 refine goF [] [] [] func147 ?_
 refine D ?_
 refine L (α := Nat × Nat) (fun p => [(7, .int .i64 p.1), (8, .int .i64 p.2)]) (fun p => []) (fun p => p.2 - p.1) (fun p => p.1 ≤ p.2 ∧ p.2 ≤ xs.length ∧ (∀ q, q < p.1 → xs.getD q zI_i64 < v) ∧ (∀ q, p.2 ≤ q → q < xs.length → v ≤ xs.getD q zI_i64)) (0, xs.length) [] (fun x0 hL => ?_) (hi := by exact ⟨Nat.zero_le _, Nat.le_refl _, fun q h => by omega, fun q h1 h2 => by omega⟩)
 obtain ⟨i, j⟩ := x0
 obtain ⟨hij, hj, hlo, hup⟩ := hL
 try dsimp only at *
 refine D ?_
 refine cC (fun c0 => ?_) (fun c0 => ?_)
 · skip
   have hhf := half_nat i j (by omega)
   have hw1 : IntKind.u64.wrap ((i : Int) + j) = i + j := by have := wrap_u (i + j) (by omega); simpa using this
   have hw2 : IntKind.i64.wrap (((i + j) / 2 : Nat) : Int) = ((i + j) / 2 : Nat) := wrap_small (by omega) (by omega)
   have hA := And.intro hhf (And.intro hw1 (hw2))
   refine D ?_
   refine kR (s_cmp_Less_int64 _ _) ?_
   refine D ?_
   refine cC (fun c1 => ?_) (fun c1 => ?_)
   · skip
     refine D ?_
     refine N ((i + j) / 2 + 1, j) [] (hi := ?_) (hm := ?_)
     · dsimp only
       refine ⟨by omega, by omega, fun q hq => ?_, hup⟩
       by_cases e : q = (i + j) / 2
       · subst e; exact c1
       · have := rises_lt hr (i := q) (j := (i + j) / 2) (by omega) (by omega); omega
     · try dsimp only
       omega
   · skip
     refine D ?_
     refine N (i, (i + j) / 2) [] (hi := ?_) (hm := ?_)
     · dsimp only
       refine ⟨by omega, by omega, hlo, fun q h1 h2 => ?_⟩
       by_cases e : q = (i + j) / 2
       · subst e; omega
       · have := rises_lt hr (i := (i + j) / 2) (j := q) (by omega) (by omega); omega
     · try dsimp only
       omega
 · skip
   refine D ?_
   refine kRg (s_slices_isNaN_int64 _) ?_
   refine D ?_
   refine kRg (s_slices_isNaN_int64 _) ?_
   refine D ?_
   refine E ?_
   first
   | exact trivial
   | have hb : lbn xs v = i := lbn_eq (by omega) hlo (fun h => hup i (by omega) h)
     simp [hasI, hb]
theorem s_slices_Delete_int64 (R : List (List T)) (i j : Nat) (hij : i < j) (hj : j ≤ R.length) (hl : R.length ≤ 2097152) (hs : cpRows none (R.drop j) = True) (hn : T.noShR (R.take i ++ R.drop j) = True) : SemX prog 148 [.one (.t (.sl true 1 R)), aI i, aI j] [] [.one (.sl true 1 (R.take i ++ R.drop j))] [] := by
 refine goF [(54, ⟨some 7, none, none, none⟩)] [(5, 2, [0], []), (5, 5, [0], []), (5, 6, [0], [0])] [] func148 ?_
 have hA := hs
 refine D ?_
 refine cC (fun c0 => ?_) (fun c0 => ?_)
 · skip
   omega
 · skip
   refine D ?_
   refine E ?_
   rw [if_pos (by omega)]
   exact ⟨congrArg (fun r => [TV.one (T.sl true 1 r)]) (del_rowsR R (by omega) hj _ _ _), rfl, rfl⟩
theorem s_slices_Insert_int64 (R V : List (List T)) (i : Nat) (hi : i ≤ R.length) (hv : 1 ≤ V.length) (hl : R.length + V.length ≤ 2097152) (fR : ∀ r ∈ R, ∀ t ∈ r, t.flat = true) (fV : ∀ r ∈ V, ∀ t ∈ r, t.flat = true) : SemX prog 149 [.one (.t (.sl true 1 R)), aI i, .one (.t (.sl true 1 V))] [] [.one (.sl true 1 (R.take i ++ V ++ R.drop i))] [] := by
 refine goFC 0 [(82, ⟨none, none, some (2, true), none⟩), (110, ⟨some 10, none, none, none⟩), (156, ⟨some 10, none, none, none⟩)] [(11, 4, [167936], []), (11, 7, [0], []), (11, 8, [167936, 0], [167936]), (15, 4, [0], []), (15, 7, [0], []), (15, 8, [0], [0])] [] func149 (fun cp hcp hcp2 => ?_)
 have hcp3 : R.length ≤ cp := hcp
 have hcV : cpRows (some (0, 0)) V = True := eq_true fV
 have hcT : cpRows (some (0, 0)) (List.take i R) = True := eq_true fun r hr => fR r (List.mem_of_mem_take hr)
 have hcD : cpRows (some (0, 0)) (List.drop i R) = True := eq_true fun r hr => fR r (List.mem_of_mem_drop hr)
 have hX1 : List.take i (R ++ roomR 1 (cp - R.length)) = List.take i R := List.take_append_of_le_length hi
 have hX2 : List.take R.length (R ++ roomR 1 (cp - R.length)) = R := List.take_left' rfl
 have hX3 : List.take (R.length - i) (List.drop i (R ++ roomR 1 (cp - R.length))) = List.drop i R := by rw [List.drop_append_of_le_length hi]; exact List.take_left' (by simp)
 have hA := And.intro hcV (And.intro hcT (And.intro hcD (And.intro hX1 (And.intro hX2 (hX3)))))
 refine D ?_
 refine cC (fun c0 => ?_) (fun c0 => ?_)
 · skip
   omega
 · skip
   refine D ?_
   refine cC (fun c1 => ?_) (fun c1 => ?_)
   · skip
     refine D ?_
     refine E ?_
     obtain rfl : i = R.length := by omega
     simp [List.take_of_length_le]
   · skip
     refine D ?_
     refine cC (fun c2 => ?_) (fun c2 => ?_)
     · skip
       refine D ?_
       refine E ?_
       rw [if_pos (by omega)]
       exact ⟨congrArg (fun r => [TV.one (T.sl true 1 r)]) (ins_grow (by omega) (by omega) (by omega) (by omega) (by omega)), rfl, rfl⟩
     · skip
       refine D ?_
       refine kOv (⟨_, 85, 4, 2, 1, func175, by kernel_rfl, by kernel_rfl, by kernel_rfl, by kernel_rfl, by kernel_rfl, by kernel_rfl⟩ : OvlOk prog 175) ?_
       refine D ?_
       refine cT ?_
       refine D ?_
       refine E ?_
       rw [if_pos (by omega)]
       exact ⟨congrArg (fun r => [TV.one (T.sl true 1 r)]) (ins_room (by omega) (by simp [roomR_len]; omega) (by omega) (by omega) (by omega) (by omega) (by omega)), rfl, rfl⟩
theorem s_rise_I (xs : List Int) (v : Int) (hl : xs.length + 1 ≤ 2097152) (h : hasI xs v = false) : SemX prog 149 [.one (.t (.sl true 1 (xs.map eI_i64))), aI (lbn xs v), .one (.t (.sl true 1 [[.int .i64 v]]))] [] [.one (.sl true 1 ((riseL xs v).map eI_i64))] [] := by
  have := s_slices_Insert_int64 (xs.map eI_i64) [[.int .i64 v]] (lbn xs v) (by simpa using lbn_le xs v) (by simp) (by simpa using hl) (flat_I xs) (by simp [T.flat])
  rwa [← riseL_no h] at this
section
attribute [local go_sem] List.set_set
theorem s_impl_Config_tie (c : Config) (hx1 : limG 2097151 c) (K : CfOk c) (x_ : Cmd) (hkd : x_.kind = 7 ∨ x_.kind = 8) : SemX prog 132 [.one (.ptr 0 0), aS (eCmd x_), aI (findB c.backends x_.name), aI (findV c.vips x_.addr x_.number x_.proto)] [.var (eConfig true c)] [rI (turnV c x_).1] [.var (eConfig true (turnV c x_).2)] := by
 refine goF [(132, ⟨some 2, some 270336, none, none⟩), (70, ⟨some 2, some 143360, none, none⟩), (138, ⟨some 1, none, none, none⟩)] [(4, 3, [1000003], []), (4, 5, [24576], []), (4, 6, [1000003], []), (5, 4, [1000003], [1000003, 143360]), (5, 7, [24576], []), (5, 8, [], [159744]), (5, 9, [143360, 159744], [143360, 159744, 163840]), (5, 12, [1000003, 163840], [1000003, 163840])] [] func132 ?_
 have hx : limG 2097152 c := limG_mono (by omega) hx1
 obtain ⟨hb, hv, hV⟩ := id hx
 refine D ?_
 refine cC (fun c0 => ?_) (fun c0 => ?_)
 · skip
   refine D ?_
   refine E ?_
   have he : turnV c x_ = (4, c) := by unfold turnV; grind
   simp [he]
 · skip
   have hfn : ¬ findV c.vips x_.addr x_.number x_.proto < 0 := by omega
   obtain ⟨n, hfv, hnl, hnq, hnb⟩ : ∃ n : Nat, findV c.vips x_.addr x_.number x_.proto = n ∧ n < c.vips.length ∧ isV x_.addr x_.number x_.proto (c.vips.getD n zVip) = true ∧ ∀ j, j < n → isV x_.addr x_.number x_.proto (c.vips.getD j zVip) = false := idxG_lt zVip hfn
   have hva : vAt c x_ = n := by unfold vAt; omega
   have hnm : (c.vips.getD n zVip).names.length ≤ 2097152 := limV_getD hV n
   have hrs := K.nr n hnl
   have hhi := hasI_eq hrs x_.name
   have hnm1 : (c.vips.getD n zVip).names.length ≤ 2097151 := hx1.2.2 _ (getD_mem zVip hnl)
   have hA := hfv
   refine D ?_
   refine kD (s_slices_BinarySearch_int64 (c.vips.getD n zVip).names x_.name hrs hnm) ?_
   refine D ?_
   refine cC (fun c1 => ?_) (fun c1 => ?_)
   · skip
     refine D ?_
     refine cC (fun c2 => ?_) (fun c2 => ?_)
     · skip
       refine D ?_
       refine E ?_
       have he : turnV c x_ = (4, c) := by unfold turnV; grind
       simp [he]
     · skip
       exfalso
       grind
   · skip
     refine D ?_
     refine cC (fun c2 => ?_) (fun c2 => ?_)
     · skip
       refine D ?_
       refine E ?_
       have he : turnV c x_ = (4, c) := by unfold turnV; grind
       simp [he]
     · skip
       refine D ?_
       refine cC (fun c3 => ?_) (fun c3 => ?_)
       · skip
         have h8 : hasI (c.vips.getD n zVip).names x_.name = true := by grind
         have hlb : lbn (c.vips.getD n zVip).names x_.name < (c.vips.getD n zVip).names.length := by
           have h9 := h8
           simp only [hasI, Bool.and_eq_true, decide_eq_true_eq] at h9
           exact h9.1
         have hgs := fun r d => getD_set_self (l := c.vips.map (eVip true)) (i := n) (by simp; omega) r d
         have hA := And.intro hA (hgs)
         refine D ?_
         refine kRk [] [270336] [] (s_slices_Delete_int64 ((c.vips.getD n zVip).names.map eI_i64) (lbn (c.vips.getD n zVip).names x_.name) (lbn (c.vips.getD n zVip).names x_.name + 1) (by omega) (by rw [List.length_map]; omega) (by rw [List.length_map]; exact hnm) (by rw [← List.map_drop]; exact cpRows_I_i64 _ _) (by rw [← List.map_take, ← List.map_drop, ← List.map_append]; exact noShR_I_i64 _)) ?_
         refine D ?_
         refine E ?_
         have he : turnV c x_ = (0, setV c (vAt c x_) { c.vips.getD (vAt c x_) zVip with names := cutG (c.vips.getD (vAt c x_) zVip).names (lbn (c.vips.getD (vAt c x_) zVip).names x_.name) }) := by unfold turnV; grind
         have hcr : List.take (min (lbn (c.vips.getD n zVip).names x_.name) (c.vips.getD n zVip).names.length + ((c.vips.getD n zVip).names.length - (lbn (c.vips.getD n zVip).names x_.name + 1))) (List.take (lbn (c.vips.getD n zVip).names x_.name) ((c.vips.getD n zVip).names.map eI_i64) ++ List.drop (lbn (c.vips.getD n zVip).names x_.name + 1) ((c.vips.getD n zVip).names.map eI_i64)) = List.take (lbn (c.vips.getD n zVip).names x_.name) ((c.vips.getD n zVip).names.map eI_i64) ++ List.drop (lbn (c.vips.getD n zVip).names x_.name + 1) ((c.vips.getD n zVip).names.map eI_i64) := List.take_of_length_le (by simp [-List.getD_eq_getElem?_getD])
         simp [-List.getD_eq_getElem?_getD, he, setV, hva, eVip, cutG, List.map_set, List.set_set, hcr]
       · skip
         refine D ?_
         refine cC (fun c4 => ?_) (fun c4 => ?_)
         · skip
           refine D ?_
           refine E ?_
           have he : turnV c x_ = (7, c) := by unfold turnV; grind
           simp [he]
         · skip
           have hno : hasI (c.vips.getD n zVip).names x_.name = false := by simpa using c4
           have hgs := fun r d => getD_set_self (l := c.vips.map (eVip true)) (i := n) (by simp; omega) r d
           have hA := And.intro hA (hgs)
           refine D ?_
           refine kDk [] [143360, 159744] [] (s_rise_I (c.vips.getD n zVip).names x_.name (by omega) hno) ?_
           refine D ?_
           refine E ?_
           have he : turnV c x_ = (0, setV c (vAt c x_) { c.vips.getD (vAt c x_) zVip with names := riseL (c.vips.getD (vAt c x_) zVip).names x_.name }) := by unfold turnV; grind
           simp [he, setV, hva, eVip, List.map_set, List.set_set]
end
theorem s_slices_ContainsFunc_Vip (R : List Vip) (hl : R.length ≤ 2097152) (fn : Nat) (x_ : Cmd) (q : Vip → Bool) (hq : callB prog fn = true) (hf : ∀ b : Vip, b ∈ R → SemX prog fn [aS (eVip false b), aT (.ptr (eCmd x_))] [] [rB (q b)] []) : SemX prog 150 [aT (.sl false 4 (R.map (eVip false))), .one (.fn fn [.t (.ptr (eCmd x_))])] [] [rB (hasG q R)] [] := by
 refine goF [] [] [] func150 ?_
 refine D ?_
 refine kR (s_slices_IndexFunc_Vip_cmd R hl fn x_ q hq hf) ?_
 refine D ?_
 refine E ?_
 first
 | exact trivial
 | simp only [go_sem, hasG]
theorem s_slices_Index_int64 (xs : List Int) (n : Int) (hl : xs.length ≤ 2097152) : SemX prog 177 [aT (.sl false 1 (xs.map eI_i64)), aI n] [] [rI (idxG (eqI n) xs)] [] := by
 refine goF [] [] [] func177 ?_
 refine D ?_
 refine L (α := Nat) (fun x => [(8, .int .i64 x)]) (fun x => []) (fun x => xs.length - x) (fun x => x ≤ xs.length ∧ ∀ j, j < x → eqI n (xs.getD j zI_i64) = false) 0 [] (fun x hL => ?_) (hi := by exact ⟨Nat.zero_le _, fun j hj => by omega⟩)
 obtain ⟨hx2, hno⟩ := hL
 refine D ?_
 refine cC (fun c0 => ?_) (fun c0 => ?_)
 · skip
   refine D ?_
   refine cC (fun c1 => ?_) (fun c1 => ?_)
   · skip
     refine D ?_
     refine E ?_
     rw [idxG_some zI_i64 (by omega) hno (by simp [-List.getD_eq_getElem?_getD, eqI]; omega)]
   · skip
     refine D ?_
     refine N (x+1) [] (hi := ?_) (hm := ?_)
     · refine ⟨by omega, fun j hj => ?_⟩
       rcases Nat.lt_or_ge j x with h | h
       · exact hno j h
       · obtain rfl : j = x := by omega
         first | exact c1 | (simpa [isB, isV, eqI] using c1) | (simp [isB, isV, eqI]; grind)
     · omega
 · skip
   obtain rfl : x = xs.length := by omega
   refine D ?_
   refine E ?_
   rw [idxG_none zI_i64 hno]
theorem s_slices_Contains_int64 (xs : List Int) (n : Int) (hl : xs.length ≤ 2097152) : SemX prog 152 [aT (.sl false 1 (xs.map eI_i64)), aI n] [] [rB (hasG (eqI n) xs)] [] := by
 refine goF [] [] [] func152 ?_
 refine D ?_
 refine kR (s_slices_Index_int64 xs n hl) ?_
 refine D ?_
 refine E ?_
 first
 | exact trivial
 | simp only [go_sem, hasG]
theorem s_impl_Config_turn_1 (v : Vip) (x_ : Cmd) (hl : v.names.length ≤ 2097152) : SemX prog 151 [aS (eVip false v), aT (.ptr (eCmd x_))] [] [rB (hasG (eqI x_.name) v.names)] [] := by
 refine goF [] [] [] func151 ?_
 refine D ?_
 refine kR (s_slices_Contains_int64 v.names x_.name hl) ?_
 refine D ?_
 exact E trivial
theorem s_slices_Delete_Backend (R : List (List T)) (i j : Nat) (hij : i < j) (hj : j ≤ R.length) (hl : R.length ≤ 2097152) (hs : cpRows none (R.drop j) = True) (hn : T.noShR (R.take i ++ R.drop j) = True) : SemX prog 153 [.one (.t (.sl true 5 R)), aI i, aI j] [] [.one (.sl true 5 (R.take i ++ R.drop j))] [] := by
 refine goF [(54, ⟨some 7, none, none, none⟩)] [(5, 2, [0], []), (5, 5, [0], []), (5, 6, [0], [0])] [] func153 ?_
 have hA := hs
 refine D ?_
 refine cC (fun c0 => ?_) (fun c0 => ?_)
 · skip
   omega
 · skip
   refine D ?_
   refine E ?_
   rw [if_pos (by omega)]
   exact ⟨congrArg (fun r => [TV.one (T.sl true 5 r)]) (del_rowsR R (by omega) hj _ _ _), rfl, rfl⟩
theorem s_impl_Config_turn (c : Config) (hx : limG 2097152 c) (K : CfOk c) (x_ : Cmd) (n : Nat) (hfb : findB c.backends x_.name = n) (hkd : x_.kind = 2 ∨ x_.kind = 3 ∨ x_.kind = 9 ∨ x_.kind = 4) : SemX prog 133 [.one (.ptr 0 0), aS (eCmd x_), aI n] [.var (eConfig true c)] [rI (turnB c x_).1] [.var (eConfig true (turnB c x_).2)] := by
 refine goF [(74, ⟨some 1, none, none, none⟩)] [] [] func133 ?_
 obtain ⟨hb, hv, hV⟩ := id hx
 obtain ⟨m_, hfb2, hnl, hnq, hnb⟩ : ∃ m : Nat, findB c.backends x_.name = m ∧ m < c.backends.length ∧ isB x_.name (c.backends.getD m zBackend) = true ∧ ∀ j, j < m → isB x_.name (c.backends.getD j zBackend) = false := idxG_lt zBackend (show ¬ findB c.backends x_.name < 0 by omega)
 obtain rfl : n = m_ := by omega
 have hba : bAt c x_.name = n := by unfold bAt; omega
 have hA := hfb
 refine D ?_
 refine cC (fun c0 => ?_) (fun c0 => ?_)
 · skip
   refine D ?_
   refine E ?_
   have he : turnB c x_ = (0, setB c (bAt c x_.name) { c.backends.getD (bAt c x_.name) zBackend with weight := x_.number }) := by unfold turnB; grind
   
   simp [he, setB, hba, List.map_set, eBackend, List.set_set]
 · skip
   refine D ?_
   refine cC (fun c1 => ?_) (fun c1 => ?_)
   · skip
     refine D ?_
     refine E ?_
     have he : turnB c x_ = (0, setB c (bAt c x_.name) { c.backends.getD (bAt c x_.name) zBackend with stage := x_.number }) := by unfold turnB; grind
     
     simp [he, setB, hba, List.map_set, eBackend, List.set_set]
   · skip
     refine D ?_
     refine cC (fun c2 => ?_) (fun c2 => ?_)
     · skip
       refine D ?_
       refine E ?_
       have he : turnB c x_ = (0, setB c (bAt c x_.name) { c.backends.getD (bAt c x_.name) zBackend with up := decide (x_.number = 1) }) := by unfold turnB; grind
       
       simp [he, setB, hba, List.map_set, eBackend, List.set_set]
     · skip
       refine D ?_
       refine cC (fun c3 => ?_) (fun c3 => ?_)
       · skip
         refine D ?_
         refine E ?_
         have he : turnB c x_ = (10, c) := by unfold turnB; grind
         simp [he]
       · skip
         refine D ?_
         refine kR (s_slices_ContainsFunc_Vip c.vips hv 151 x_ (fun v => hasG (eqI x_.name) v.names) (by kernel_rfl) (fun v h => s_impl_Config_turn_1 v x_ (hV v h))) ?_
         refine D ?_
         refine cC (fun c4 => ?_) (fun c4 => ?_)
         · skip
           refine D ?_
           refine E ?_
           have he : turnB c x_ = (8, c) := by unfold turnB; unfold serves; grind
           simp [he]
         · skip
           refine D ?_
           refine kRk [] [1000002] [] (s_slices_Delete_Backend (c.backends.map eBackend) n (n + 1) (by omega) (by rw [List.length_map]; omega) (by rw [List.length_map]; exact hb) (by rw [← List.map_drop]; exact cpRows_Backend _ _) (by rw [← List.map_take, ← List.map_drop, ← List.map_append]; exact noShR_Backend _)) ?_
           refine D ?_
           refine E ?_
           have he : turnB c x_ = (0, { c with backends := cutG c.backends (bAt c x_.name) }) := by unfold turnB; unfold serves; grind
           
           have hcr : List.take (min n c.backends.length + (c.backends.length - (n + 1))) (List.take n (c.backends.map eBackend) ++ List.drop (n + 1) (c.backends.map eBackend)) = List.take n (c.backends.map eBackend) ++ List.drop (n + 1) (c.backends.map eBackend) := List.take_of_length_le (by simp)
           simp [he, cutG, hba, hcr]
theorem s_impl_Config_does (c : Config) (hx1 : limG 2097151 c) (K : CfOk c) (x_ : Cmd) (hkd : 1 ≤ x_.kind ∧ x_.kind ≤ 9) : SemX prog 114 [.one (.ptr 0 0), aS (eCmd x_)] [.var (eConfig true c)] [rI (turned c x_).1] [.var (eConfig true (turned c x_).2)] := by
 refine goF [(210, ⟨some 1, none, none, none⟩)] [(1, 2, [16384], []), (1, 3, [1000000, 1000002, 1000003], []), (1, 6, [16384], []), (1, 8, [16384], []), (1, 10, [16384], []), (1, 11, [1000000, 1000002, 1000003], []), (11, 4, [1000000], []), (11, 6, [16384], []), (11, 8, [16384], []), (11, 10, [16384], []), (11, 12, [], [212992]), (11, 13, [1000002, 212992], [217088, 1000002, 212992]), (11, 16, [1000000], [1000000]), (18, 4, [1000000], []), (18, 6, [16384], []), (18, 8, [16384], []), (18, 10, [16384], []), (18, 12, [], [348160]), (18, 13, [1000003, 348160], [352256, 1000003, 348160]), (18, 16, [1000000], [1000000])] [] func114 ?_
 have hx : limG 2097152 c := limG_mono (by omega) hx1
 obtain ⟨hb, hv, hV⟩ := id hx
 have hk8 := K.b8
 have hk4 := K.v4
 refine D ?_
 refine kD (s_impl_Config_backend c hx x_.name) ?_
 refine D ?_
 refine kD (s_impl_Config_vip c hx x_.addr x_.number x_.proto) ?_
 refine D ?_
 refine cC (fun c0 => ?_) (fun c0 => ?_)
 · skip
   refine D ?_
   refine cC (fun c1 => ?_) (fun c1 => ?_)
   · skip
     refine D ?_
     refine E ?_
     have hin : inR x_.kind 5 8 = false := by simp [inR]; omega
     have he : turned c x_ = (7, c) := by unfold turned; rw [hin]; unfold turnV turnB; grind
     simp [he]
   · skip
     refine D ?_
     refine cC (fun c2 => ?_) (fun c2 => ?_)
     · skip
       refine D ?_
       refine E ?_
       have hin : inR x_.kind 5 8 = false := by simp [inR]; omega
       have he : turned c x_ = (2, c) := by unfold turned; rw [hin]; unfold turnV turnB; grind
       simp [he]
     · skip
       have hpb := (put_b K (x := x_) (show findB c.backends x_.name < 0 by omega))
       have hmb : List.map eBackend c.backends ++ [[T.int .i64 x_.name, T.int .i64 x_.addr, T.int .i64 x_.number, T.int .i64 1, T.bool true]] = List.map eBackend (c.backends ++ [bOf x_]) := by simp [eBackend, bOf]
       have hA := hmb
       refine D ?_
       refine kRk [217088] [] [] (s_slices_SortFunc_Backend c.backends (bOf x_) (preG (ltB x_.name) c.backends) 129 cmpB (by kernel_rfl) s_impl_Config_does_1 (preG_le _ _) (by have := K.b8; omega) hpb.2.1 hpb.2.2.1 hpb.2.2.2) ?_
       refine D ?_
       refine E ?_
       have hin : inR x_.kind 5 8 = false := by simp [inR]; omega
       have he : turned c x_ = (0, { c with backends := putG (ltB x_.name) c.backends (bOf x_) }) := by unfold turned; rw [hin]; unfold turnV turnB; grind
       have htk : ∀ (k : Nat) (V : List T), List.take (c.backends.length + 1) (List.take k (List.map eBackend c.backends) ++ V :: List.drop k (List.map eBackend c.backends)) = List.take k (List.map eBackend c.backends) ++ V :: List.drop k (List.map eBackend c.backends) := fun k V => List.take_of_length_le (by simp; omega)
       simp [he, putG, insAt, bOf, htk]
 · skip
   refine D ?_
   refine cC (fun c3 => ?_) (fun c3 => ?_)
   · skip
     refine D ?_
     refine cC (fun c4 => ?_) (fun c4 => ?_)
     · skip
       refine D ?_
       refine E ?_
       have hin : inR x_.kind 5 8 = true := by simp [inR]; omega
       have he : turned c x_ = (7, c) := by unfold turned; rw [hin]; unfold turnV turnB; grind
       simp [he]
     · skip
       refine D ?_
       refine cC (fun c5 => ?_) (fun c5 => ?_)
       · skip
         refine D ?_
         refine E ?_
         have hin : inR x_.kind 5 8 = true := by simp [inR]; omega
         have he : turned c x_ = (2, c) := by unfold turned; rw [hin]; unfold turnV turnB; grind
         simp [he]
       · skip
         have hpv := (put_v K (x := x_) (show findV c.vips x_.addr x_.number x_.proto < 0 by omega))
         have hmv : List.map (eVip true) c.vips ++ [[T.int .i64 x_.addr, T.int .i64 x_.number, T.int .i64 x_.proto, T.sl true 1 []]] = List.map (eVip true) (c.vips ++ [vOf x_]) := by simp [eVip, vOf]
         have hA := hmv
         refine D ?_
         refine kRk [352256] [] [] (s_slices_SortFunc_Vip c.vips (vOf x_) (preG (ltV (vOf x_)) c.vips) 45 cmpV (by kernel_rfl) s_impl_compareVip_raw (preG_le _ _) (by have := K.v4; omega) hpv.2.1 hpv.2.2.1 hpv.2.2.2) ?_
         refine D ?_
         refine E ?_
         have hin : inR x_.kind 5 8 = true := by simp [inR]; omega
         have he : turned c x_ = (0, { c with vips := putG (ltV (vOf x_)) c.vips (vOf x_) }) := by unfold turned; rw [hin]; unfold turnV turnB; grind
         have htk : ∀ (k : Nat) (V : List T), List.take (c.vips.length + 1) (List.take k (List.map (eVip true) c.vips) ++ V :: List.drop k (List.map (eVip true) c.vips)) = List.take k (List.map (eVip true) c.vips) ++ V :: List.drop k (List.map (eVip true) c.vips) := fun k V => List.take_of_length_le (by simp; omega)
         simp [he, putG, insAt, vOf, htk]
   · skip
     refine D ?_
     refine cC (fun c6 => ?_) (fun c6 => ?_)
     · skip
       refine D ?_
       refine cC (fun c7 => ?_) (fun c7 => ?_)
       · skip
         refine D ?_
         refine E ?_
         have hin : inR x_.kind 5 8 = true := by simp [inR]; omega
         have he : turned c x_ = (4, c) := by unfold turned; rw [hin]; unfold turnV turnB; grind
         simp [he]
       · skip
         have hfn : ¬ findV c.vips x_.addr x_.number x_.proto < 0 := by omega
         obtain ⟨n, hfv, hnl, hnq, hnb⟩ : ∃ n : Nat, findV c.vips x_.addr x_.number x_.proto = n ∧ n < c.vips.length ∧ isV x_.addr x_.number x_.proto (c.vips.getD n zVip) = true ∧ ∀ j, j < n → isV x_.addr x_.number x_.proto (c.vips.getD j zVip) = false := idxG_lt zVip hfn
         have hva : vAt c x_ = n := by unfold vAt; omega
         have hnm : (c.vips.getD n zVip).names.length ≤ 2097152 := limV_getD hV n
         have hrs := K.nr n hnl
         have hhi := hasI_eq hrs x_.name
         have hA := hfv
         refine D ?_
         refine kRk [] [1000003] [] (s_slices_Delete_Vip (c.vips.map (eVip true)) n (n + 1) (by omega) (by rw [List.length_map]; omega) (by rw [List.length_map]; exact hv) (by rw [← List.map_drop]; exact cpRows_Vip _ _) (by rw [← List.map_take, ← List.map_drop, ← List.map_append]; exact noShR_Vip _)) ?_
         refine D ?_
         refine E ?_
         have hin : inR x_.kind 5 8 = true := by simp [inR]; omega
         have he : turned c x_ = (0, { c with vips := cutG c.vips (vAt c x_) }) := by unfold turned; rw [hin]; unfold turnV turnB; grind
         have hcr : List.take (min n c.vips.length + (c.vips.length - (n + 1))) (List.take n (c.vips.map (eVip true)) ++ List.drop (n + 1) (c.vips.map (eVip true))) = List.take n (c.vips.map (eVip true)) ++ List.drop (n + 1) (c.vips.map (eVip true)) := List.take_of_length_le (by simp)
         simp [he, cutG, hva, hcr]
     · skip
       refine D ?_
       refine cC (fun c8 => ?_) (fun c8 => ?_)
       · skip
         refine D ?_
         refine cC (fun c9 => ?_) (fun c9 => ?_)
         · skip
           have hkd7 : x_.kind = 7 ∨ x_.kind = 8 := .inl c9
           refine D ?_
           refine kRk [1000000] [] [1000002, 1000003] (s_impl_Config_tie c hx1 K x_ hkd7) ?_
           refine D ?_
           refine E ?_
           have hin : inR x_.kind 5 8 = true := by simp [inR]; omega
           have he : turned c x_ = turnV c x_ := by unfold turned; rw [if_pos hin]
           rw [he]
           exact ⟨rfl, rfl⟩
         · skip
           exfalso
           grind
       · skip
         refine D ?_
         refine cC (fun c9 => ?_) (fun c9 => ?_)
         · skip
           have hkd7 : x_.kind = 7 ∨ x_.kind = 8 := .inr c9
           refine D ?_
           refine kRk [1000000] [] [1000002, 1000003] (s_impl_Config_tie c hx1 K x_ hkd7) ?_
           refine D ?_
           refine E ?_
           have hin : inR x_.kind 5 8 = true := by simp [inR]; omega
           have he : turned c x_ = turnV c x_ := by unfold turned; rw [if_pos hin]
           rw [he]
           exact ⟨rfl, rfl⟩
         · skip
           refine D ?_
           refine cC (fun c10 => ?_) (fun c10 => ?_)
           · skip
             refine D ?_
             refine E ?_
             have hin : inR x_.kind 5 8 = false := by simp [inR]; omega
             have he : turned c x_ = (4, c) := by unfold turned; rw [hin]; unfold turnV turnB; grind
             simp [he]
           · skip
             obtain ⟨n, hfbn⟩ : ∃ n : Nat, findB c.backends x_.name = n := ⟨(findB c.backends x_.name).toNat, by omega⟩
             have hkd4 : x_.kind = 2 ∨ x_.kind = 3 ∨ x_.kind = 9 ∨ x_.kind = 4 := by omega
             have hA := hfbn
             refine D ?_
             refine kRk [1000000] [] [1000002, 1000003] (s_impl_Config_turn c hx K x_ n hfbn hkd4) ?_
             refine D ?_
             refine E ?_
             have hin : inR x_.kind 5 8 = false := by simp [inR]; omega
             have he : turned c x_ = turnB c x_ := by unfold turned; rw [if_neg (by rw [hin]; simp)]
             rw [he]
             exact ⟨rfl, rfl⟩
theorem s_impl_apply (c : Config) (hx1 : limG 2097151 c) (K : CfOk c) (x_ : Cmd) (hcf : cmdFault x_ = 0) : SemX prog 86 [aS (eConfig false c), aS (eCmd x_)] [] [.agg (eConfigResult true (applyR c x_))] [] := by
 refine goF [(70, ⟨some 1, none, none, none⟩)] [] [] func86 ?_
 have hx : limG 2097152 c := limG_mono (by omega) hx1
 obtain ⟨hb, hv, hV⟩ := id hx
 have hk9 : 1 ≤ x_.kind ∧ x_.kind ≤ 9 := by
   unfold cmdFault at hcf
   cases h : inR x_.kind 1 9 with
   | false => simp [h] at hcf
   | true => simpa [inR] using h
 have hk0 := K.v0
 have hk1 := K.v1
 have htv := turned_ver c x_
 have hA := htv
 refine D ?_
 refine cC (fun c0 => ?_) (fun c0 => ?_)
 · skip
   refine D ?_
   refine E ?_
   have he : applyR c x_ = badC 3 := by unfold applyR; grind
   simp [he, badC, zConfig]
 · skip
   refine D ?_
   refine cC (fun c1 => ?_) (fun c1 => ?_)
   · skip
     refine D ?_
     refine E ?_
     have he : applyR c x_ = badC 9 := by unfold applyR; grind
     simp [he, badC, zConfig]
   · skip
     refine D ?_
     refine kR (s_impl_Config_copied c hx) ?_
     refine D ?_
     refine kRk [24576] [] [106497, 106498] (s_impl_Config_does c hx1 K x_ hk9) ?_
     refine D ?_
     refine cC (fun c2 => ?_) (fun c2 => ?_)
     · skip
       refine D ?_
       refine E ?_
       have he : applyR c x_ = badC (turned c x_).1 := by unfold applyR; grind
       simp [he, badC, zConfig]
     · skip
       refine D ?_
       refine E ?_
       have he : applyR c x_ = ⟨0, { (turned c x_).2 with version := c.version + 1 }⟩ := by unfold applyR; grind
       simp [he, badC, zConfig]
theorem s_spec_l5Version (n : Int) : SemX prog 103 [aI n] [] [rB (inR n 0 1000000)] [] := by
 refine goF [] [] [] func103 ?_
 refine D ?_
 refine kR (s_spec_l1In n 0 1000000) ?_
 refine D ?_
 exact E trivial
theorem s_spec_l3Name (n : Int) : SemX prog 123 [aI n] [] [rB (inR n 1 999)] [] := by
 refine goF [] [] [] func123 ?_
 refine D ?_
 refine kR (s_spec_l1In n 1 999) ?_
 refine D ?_
 exact E trivial
theorem s_spec_l2Address (n : Int) : SemX prog 124 [aI n] [] [rB (inR n 0 4294967295)] [] := by
 refine goF [] [] [] func124 ?_
 refine D ?_
 refine kR (s_spec_l1In n 0 4294967295) ?_
 refine D ?_
 exact E trivial
theorem s_spec_l5Backend (b : Backend) : SemX prog 121 [aS (eBackend b)] [] [rB (isBk b)] [] := by
 refine goF [] [] [] func121 ?_
 refine D ?_
 refine kR (s_spec_l3Name _) ?_
 refine D ?_
 refine kRg (s_spec_l2Address _) ?_
 refine D ?_
 refine kRg (s_spec_l1In _ _ _) ?_
 refine D ?_
 refine kRg (s_spec_l1In _ _ _) ?_
 refine D ?_
 refine E ?_
 first
 | exact trivial
 | simp only [go_sem, isBk]
theorem s_spec_l5Proto (n : Int) : SemX prog 126 [aI n] [] [rB (isPro n)] [] := by
 refine goF [] [] [] func126 ?_
 refine D ?_
 refine E ?_
 first
 | exact trivial
 | simp only [go_sem, isPro]; done
 | try simp only [go_sem, isPro]
   cases decide (n = 6) <;> rfl
theorem s_spec_l2Port (n : Int) : SemX prog 141 [aI n] [] [rB (inR n 0 65535)] [] := by
 refine goF [] [] [] func141 ?_
 refine D ?_
 refine kR (s_spec_l1In n 0 65535) ?_
 refine D ?_
 exact E trivial
theorem s_spec_l5Vip (c : Config) (hx : limG 2097152 c) (i : Nat) (hi : i < c.vips.length) : SemX prog 122 [aT (.ptr (eConfig false c)), aI i] [] [rI (vipBad c i)] [] := by
 refine goF [(80, ⟨some 1, none, none, none⟩)] [(4, 11, [24576], []), (14, 1, [24576], []), (14, 6, [24576], [])] [] func122 ?_
 obtain ⟨hb, hv, hV⟩ := id hx
 have hnl : (c.vips.getD i zVip).names.length ≤ 2097152 := hV _ (getD_mem zVip hi)
 refine D ?_
 refine kR (s_spec_l2Address _) ?_
 refine D ?_
 refine kRg (s_spec_l2Port _) ?_
 refine D ?_
 refine kRg (s_spec_l5Proto _) ?_
 refine D ?_
 refine cC (fun c0 => ?_) (fun c0 => ?_)
 · skip
   have hv3 : isVp (c.vips.getD i zVip) = false := by unfold isVp; grind
   refine D ?_
   refine E ?_
   unfold vipBad
   rw [if_pos hv3]
 · skip
   have hv3 : isVp (c.vips.getD i zVip) = true := by unfold isVp; grind
   refine D ?_
   refine kDg (s_spec_l5Behind (c.vips.getD (i - 1) zVip) (c.vips.getD i zVip)) ?_
   refine D ?_
   refine cC (fun c1 => ?_) (fun c1 => ?_)
   · skip
     refine D ?_
     refine E ?_
     unfold vipBad
     grind
   · skip
     refine D ?_
     refine L (α := Nat) (fun x => [(6, .int .i64 x)]) (fun x => []) (fun x => (c.vips.getD i zVip).names.length - x) (fun x => x ≤ (c.vips.getD i zVip).names.length ∧ ∀ j, j < x → noB c.backends ((c.vips.getD i zVip).names.getD j zI_i64) = false) 0 [] (fun x hL => ?_) (hi := by exact ⟨Nat.zero_le _, fun j hj => by omega⟩)
     obtain ⟨hx2, hno⟩ := hL
     refine D ?_
     refine cC (fun c2 => ?_) (fun c2 => ?_)
     · skip
       refine D ?_
       refine kR (s_spec_l5At c hx ((c.vips.getD i zVip).names.getD x zI_i64)) ?_
       refine D ?_
       refine cC (fun c3 => ?_) (fun c3 => ?_)
       · skip
         refine D ?_
         refine E ?_
         have hh : hasG (noB c.backends) (c.vips.getD i zVip).names = true := hasG_true zI_i64 (i := x) (by omega) (by unfold noB; grind)
         unfold vipBad
         grind
       · skip
         refine D ?_
         refine N (x+1) [] (hi := ?_) (hm := ?_)
         · refine ⟨by omega, fun j hj => ?_⟩
           rcases Nat.lt_or_ge j x with h | h
           · exact hno j h
           · obtain rfl : j = x := by omega
             simp [noB]; simp at *; omega
         · omega
     · skip
       obtain rfl : x = (c.vips.getD i zVip).names.length := by omega
       refine D ?_
       refine L (α := Nat) (fun y => [(7, .int .i64 y)]) (fun y => []) (fun y => (c.vips.getD i zVip).names.length - y) (fun y => 1 ≤ y ∧ (y ≤ (c.vips.getD i zVip).names.length ∨ y = 1) ∧ scan (nmBad (c.vips.getD i zVip)) (c.vips.getD i zVip).names.length 1 = scan (nmBad (c.vips.getD i zVip)) (c.vips.getD i zVip).names.length y) 1 [] (fun y hL => ?_) (hi := by exact ⟨Nat.le_refl _, .inr rfl, rfl⟩)
       obtain ⟨hy, hy2, hys⟩ := hL
       refine D ?_
       refine cC (fun c4 => ?_) (fun c4 => ?_)
       · skip
         refine D ?_
         refine cC (fun c5 => ?_) (fun c5 => ?_)
         · skip
           refine D ?_
           refine E ?_
           have hh : hasG (noB c.backends) (c.vips.getD i zVip).names = false := hasG_false zI_i64 hno
           have hs : scan (nmBad (c.vips.getD i zVip)) (c.vips.getD i zVip).names.length y = 1 := by
             rw [scan_lt (by omega)]
             unfold nmBad
             grind
           unfold vipBad
           grind
         · skip
           refine D ?_
           refine N (y+1) [] (hi := ?_) (hm := ?_)
           · refine ⟨by omega, .inl (by omega), ?_⟩
             rw [hys, scan_lt (by omega), if_pos]
             unfold nmBad
             simp at *
             grind
           · omega
       · skip
         refine D ?_
         refine E ?_
         have hh : hasG (noB c.backends) (c.vips.getD i zVip).names = false := hasG_false zI_i64 hno
         have hs : scan (nmBad (c.vips.getD i zVip)) (c.vips.getD i zVip).names.length y = 0 := scan_ge (by omega)
         unfold vipBad
         grind
theorem s_spec_l5Fault (c : Config) (hx : limG 2097152 c) : SemX prog 99 [aT (.ptr (eConfig false c))] [] [rI (configFault c)] [] := by
 refine goF [(122, ⟨some 1, none, none, none⟩)] [] [] func99 ?_
 obtain ⟨hb, hv, hV⟩ := id hx
 refine D ?_
 refine kR (s_spec_l5Version _) ?_
 refine D ?_
 refine cC (fun c0 => ?_) (fun c0 => ?_)
 · skip
   refine D ?_
   refine E ?_
   first
   | exact trivial
   | unfold configFault
     grind
 · skip
   refine D ?_
   refine cC (fun c1 => ?_) (fun c1 => ?_)
   · skip
     refine D ?_
     refine E ?_
     first
     | exact trivial
     | unfold configFault
       grind
   · skip
     refine D ?_
     refine L (α := Nat) (fun x => [(3, .int .i64 x)]) (fun x => []) (fun x => c.backends.length - x) (fun x => x ≤ c.backends.length ∧ scan (bkBad c.backends) c.backends.length 0 = scan (bkBad c.backends) c.backends.length x) 0 [] (fun x hL => ?_) (hi := by exact ⟨Nat.zero_le _, rfl⟩)
     obtain ⟨hx2, he⟩ := hL
     refine D ?_
     refine cC (fun c2 => ?_) (fun c2 => ?_)
     · skip
       have hst := scan_lt (f := bkBad c.backends) (show x < c.backends.length by omega)
       have hd : bkBad c.backends x = if isBk (c.backends.getD x zBackend) = false then 3 else if 0 < x ∧ (c.backends.getD x zBackend).name ≤ (c.backends.getD (x - 1) zBackend).name then 1 else 0 := rfl
       refine D ?_
       refine kR (s_spec_l5Backend _) ?_
       refine D ?_
       refine cC (fun c3 => ?_) (fun c3 => ?_)
       · skip
         refine D ?_
         refine E ?_
         first
         | exact trivial
         | unfold configFault
           grind
       · skip
         refine D ?_
         refine cC (fun c4 => ?_) (fun c4 => ?_)
         · skip
           refine D ?_
           refine E ?_
           first
           | exact trivial
           | unfold configFault
             grind
         · skip
           refine D ?_
           refine N (x+1) [] (hi := ?_) (hm := ?_)
           · refine ⟨by omega, ?_⟩
             rw [he, scan_lt (by omega), if_pos]
             unfold bkBad
             grind
           · omega
     · skip
       have hs0 : scan (bkBad c.backends) c.backends.length 0 = 0 := by rw [he, scan_ge (by omega)]
       refine D ?_
       refine L (α := Nat) (fun i => [(4, .int .i64 i)]) (fun i => []) (fun i => c.vips.length - i) (fun i => i ≤ c.vips.length ∧ scan (vipBad c) c.vips.length 0 = scan (vipBad c) c.vips.length i) 0 [] (fun i hL => ?_) (hi := by exact ⟨Nat.zero_le _, rfl⟩)
       obtain ⟨hi2, hie⟩ := hL
       refine D ?_
       refine cC (fun c5 => ?_) (fun c5 => ?_)
       · skip
         have hst2 := scan_lt (f := vipBad c) (show i < c.vips.length by omega)
         refine D ?_
         refine kR (s_spec_l5Vip c hx i (by omega)) ?_
         refine D ?_
         refine cC (fun c6 => ?_) (fun c6 => ?_)
         · skip
           refine D ?_
           refine E ?_
           first
           | exact trivial
           | unfold configFault
             grind
         · skip
           refine D ?_
           refine N (i+1) [] (hi := ?_) (hm := ?_)
           · refine ⟨by omega, ?_⟩
             rw [hie, scan_lt (by omega), if_pos]
             grind
           · omega
       · skip
         have hs1 : scan (vipBad c) c.vips.length 0 = 0 := by rw [hie, scan_ge (by omega)]
         refine D ?_
         refine E ?_
         first
         | exact trivial
         | unfold configFault
           grind
theorem s_impl_in (a b c : Int) : SemX prog 40 [.one (.t (.int .i64 a)), .one (.t (.int .i64 b)), .one (.t (.int .i64 c))] [] [.one (.bool (inR a b c))] [] := by
 refine goF [] [] [] func40 ?_
 refine D ?_
 refine E ?_
 first
 | exact trivial
 | simp only [go_sem, inR]; done
 | try simp only [go_sem, inR]
   exact rfl
theorem s_impl_isAddress (n : Int) : SemX prog 42 [aI n] [] [rB (inR n 0 4294967295)] [] := by
 refine goF [] [] [] func42 ?_
 refine D ?_
 refine kR (s_impl_in n 0 4294967295) ?_
 refine D ?_
 exact E trivial
theorem s_impl_isName (n : Int) : SemX prog 51 [aI n] [] [rB (inR n 1 999)] [] := by
 refine goF [] [] [] func51 ?_
 refine D ?_
 refine kR (s_impl_in n 1 999) ?_
 refine D ?_
 exact E trivial
theorem s_impl_isBackend (b : Backend) : SemX prog 41 [aS (eBackend b)] [] [rB (isBk b)] [] := by
 refine goF [] [] [] func41 ?_
 refine D ?_
 refine kR (s_impl_isName _) ?_
 refine D ?_
 refine kRg (s_impl_isAddress _) ?_
 refine D ?_
 refine kRg (s_impl_in _ _ _) ?_
 refine D ?_
 refine kRg (s_impl_in _ _ _) ?_
 refine D ?_
 refine E ?_
 first
 | exact trivial
 | simp only [go_sem, isBk]
theorem s_impl_isPort (n : Int) : SemX prog 43 [aI n] [] [rB (inR n 0 65535)] [] := by
 refine goF [] [] [] func43 ?_
 refine D ?_
 refine kR (s_impl_in n 0 65535) ?_
 refine D ?_
 exact E trivial
theorem s_impl_isProto (n : Int) : SemX prog 44 [aI n] [] [rB (isPro n)] [] := by
 refine goF [] [] [] func44 ?_
 refine D ?_
 refine E ?_
 first
 | exact trivial
 | simp only [go_sem, isPro]; done
 | try simp only [go_sem, isPro]
   cases decide (n = 6) <;> rfl
theorem s_slices_IndexFunc_int64 (R : List Int) (hl : R.length ≤ 2097152) (fn : Nat) (c : Config) (hcl : limG 2097152 c) (q : Int → Bool) (hq : callB prog fn = true) (hf : ∀ b : Int, b ∈ R → SemX prog fn [aI b, aT (.ptr (eConfig false c))] [] [rB (q b)] []) : SemX prog 90 [aT (.sl false 1 (R.map eI_i64)), .one (.fn fn [.t (.ptr (eConfig false c))])] [] [rI (idxG q R)] [] := by
 refine goF [] [] [] func90 ?_
 refine D ?_
 refine L (α := Nat) (fun x => [(8, .int .i64 x)]) (fun x => []) (fun x => R.length - x) (fun x => x ≤ R.length ∧ ∀ j, j < x → q (R.getD j zI_i64) = false) 0 [] (fun x hL => ?_) (hi := by exact ⟨Nat.zero_le _, fun j hj => by omega⟩)
 obtain ⟨hx2, hno⟩ := hL
 refine D ?_
 refine cC (fun c0 => ?_) (fun c0 => ?_)
 · skip
   refine D ?_
   refine kR (hf (R.getD x zI_i64) (getD_mem zI_i64 (by omega))) ?_ hq
   refine D ?_
   refine cC (fun c1 => ?_) (fun c1 => ?_)
   · skip
     refine D ?_
     refine E ?_
     rw [idxG_some zI_i64 (by omega) hno c1]
   · skip
     refine D ?_
     refine N (x+1) [] (hi := ?_) (hm := ?_)
     · refine ⟨by omega, fun j hj => ?_⟩
       rcases Nat.lt_or_ge j x with h | h
       · exact hno j h
       · obtain rfl : j = x := by omega
         first | exact c1 | (simpa [isB, isV, eqI] using c1) | (simp [isB, isV, eqI]; grind)
     · omega
 · skip
   obtain rfl : x = R.length := by omega
   refine D ?_
   refine E ?_
   rw [idxG_none zI_i64 hno]
theorem s_slices_ContainsFunc_int64 (R : List Int) (hl : R.length ≤ 2097152) (fn : Nat) (c : Config) (hcl : limG 2097152 c) (q : Int → Bool) (hq : callB prog fn = true) (hf : ∀ b : Int, b ∈ R → SemX prog fn [aI b, aT (.ptr (eConfig false c))] [] [rB (q b)] []) : SemX prog 46 [aT (.sl false 1 (R.map eI_i64)), .one (.fn fn [.t (.ptr (eConfig false c))])] [] [rB (hasG q R)] [] := by
 refine goF [] [] [] func46 ?_
 refine D ?_
 refine kR (s_slices_IndexFunc_int64 R hl fn c hcl q hq hf) ?_
 refine D ?_
 refine E ?_
 first
 | exact trivial
 | simp only [go_sem, hasG]
theorem s_impl_ConfigFault_1 (n : Int) (c : Config) (hx : limG 2097152 c) : SemX prog 47 [aI n, aT (.ptr (eConfig false c))] [] [rB (noB c.backends n)] [] := by
 refine goF [] [] [] func47 ?_
 refine D ?_
 refine kR (s_impl_Config_backend c hx n) ?_
 refine D ?_
 refine E ?_
 first
 | exact trivial
 | simp only [go_sem, noB]
theorem s_impl_ConfigFault (c : Config) (hx : limG 2097152 c) : SemX prog 14 [aS (eConfig false c)] [] [rI (configFault c)] [] := by
 refine goF [(88, ⟨some 1, none, none, none⟩), (162, ⟨some 1, none, none, none⟩)] [(10, 4, [20480], []), (10, 6, [8192], []), (18, 4, [8192], []), (18, 9, [28672], []), (25, 1, [28672], []), (25, 6, [28672], [])] [] func14 ?_
 obtain ⟨hb, hv, hV⟩ := id hx
 refine D ?_
 refine kR (s_impl_in _ _ _) ?_
 refine D ?_
 refine cC (fun c0 => ?_) (fun c0 => ?_)
 · skip
   refine D ?_
   refine E ?_
   first
   | exact trivial
   | unfold configFault
     grind
 · skip
   refine D ?_
   refine cC (fun c1 => ?_) (fun c1 => ?_)
   · skip
     refine D ?_
     refine E ?_
     first
     | exact trivial
     | unfold configFault
       grind
   · skip
     refine D ?_
     refine L (α := Nat) (fun x => [(27, .int .i64 x)]) (fun x => []) (fun x => c.backends.length - x) (fun x => x ≤ c.backends.length ∧ scan (bkBad c.backends) c.backends.length 0 = scan (bkBad c.backends) c.backends.length x) 0 [] (fun x hL => ?_) (hi := by exact ⟨Nat.zero_le _, rfl⟩)
     obtain ⟨hx2, he⟩ := hL
     refine D ?_
     refine cC (fun c2 => ?_) (fun c2 => ?_)
     · skip
       have hst := scan_lt (f := bkBad c.backends) (show x < c.backends.length by omega)
       have hd : bkBad c.backends x = if isBk (c.backends.getD x zBackend) = false then 3 else if 0 < x ∧ (c.backends.getD x zBackend).name ≤ (c.backends.getD (x - 1) zBackend).name then 1 else 0 := rfl
       refine D ?_
       refine kR (s_impl_isBackend _) ?_
       refine D ?_
       refine cC (fun c3 => ?_) (fun c3 => ?_)
       · skip
         refine D ?_
         refine E ?_
         first
         | exact trivial
         | unfold configFault
           grind
       · skip
         refine D ?_
         refine cC (fun c4 => ?_) (fun c4 => ?_)
         · skip
           refine D ?_
           refine E ?_
           first
           | exact trivial
           | unfold configFault
             grind
         · skip
           refine D ?_
           refine N (x+1) [] (hi := ?_) (hm := ?_)
           · refine ⟨by omega, ?_⟩
             rw [he, scan_lt (by omega), if_pos]
             unfold bkBad
             grind
           · omega
     · skip
       have hs0 : scan (bkBad c.backends) c.backends.length 0 = 0 := by rw [he, scan_ge (by omega)]
       refine D ?_
       refine L (α := Nat) (fun i => [(53, .int .i64 i)]) (fun i => []) (fun i => c.vips.length - i) (fun i => i ≤ c.vips.length ∧ scan (vipBad c) c.vips.length 0 = scan (vipBad c) c.vips.length i) 0 [] (fun i hL => ?_) (hi := by exact ⟨Nat.zero_le _, rfl⟩)
       obtain ⟨hi2, hie⟩ := hL
       refine D ?_
       refine cC (fun c5 => ?_) (fun c5 => ?_)
       · skip
         have hst2 := scan_lt (f := vipBad c) (show i < c.vips.length by omega)
         refine D ?_
         refine kR (s_impl_isAddress _) ?_
         refine D ?_
         refine kRg (s_impl_isPort _) ?_
         refine D ?_
         refine kRg (s_impl_isProto _) ?_
         refine D ?_
         refine cC (fun c6 => ?_) (fun c6 => ?_)
         · skip
           have hv3 : isVp (c.vips.getD i zVip) = false := by unfold isVp; grind
           have hvb : vipBad c i = 3 := by unfold vipBad; rw [if_pos hv3]
           refine D ?_
           refine E ?_
           first
           | exact trivial
           | unfold configFault
             grind
         · skip
           have hv3 : isVp (c.vips.getD i zVip) = true := by unfold isVp; grind
           refine D ?_
           refine kDg (s_impl_compareVip (c.vips.getD (i - 1) zVip) (c.vips.getD i zVip)) ?_
           refine D ?_
           refine cC (fun c7 => ?_) (fun c7 => ?_)
           · skip
             have hbh := cmpV_ge (c.vips.getD (i - 1) zVip) (c.vips.getD i zVip)
             have hvb : vipBad c i = 1 := by unfold vipBad; grind
             refine D ?_
             refine E ?_
             first
             | exact trivial
             | unfold configFault
               grind
           · skip
             have hbh := cmpV_ge (c.vips.getD (i - 1) zVip) (c.vips.getD i zVip)
             have hbq : ¬ (0 < i ∧ behV (c.vips.getD (i - 1) zVip) (c.vips.getD i zVip) = false) := by grind
             refine D ?_
             refine kR (s_slices_ContainsFunc_int64 (c.vips.getD i zVip).names (hV _ (getD_mem zVip (by omega))) 47 c hx (noB c.backends) (by kernel_rfl) (fun n _ => s_impl_ConfigFault_1 n c hx)) ?_
             refine D ?_
             refine cC (fun c8 => ?_) (fun c8 => ?_)
             · skip
               have hvb : vipBad c i = 4 := by unfold vipBad; rw [if_neg (by rw [hv3]; simp), if_neg hbq, if_pos (by simpa using c8)]
               refine D ?_
               refine E ?_
               first
               | exact trivial
               | unfold configFault
                 grind
             · skip
               have hcf : hasG (noB c.backends) (c.vips.getD i zVip).names = false := by simpa using c8
               have hvs : vipBad c i = scan (nmBad (c.vips.getD i zVip)) (c.vips.getD i zVip).names.length 1 := by unfold vipBad; rw [if_neg (by rw [hv3]; simp), if_neg hbq, if_neg (by rw [hcf]; simp)]
               refine D ?_
               refine L (α := Nat) (fun y => [(7, .int .i64 y)]) (fun y => []) (fun y => (c.vips.getD i zVip).names.length - y) (fun y => 1 ≤ y ∧ (y ≤ (c.vips.getD i zVip).names.length ∨ y = 1) ∧ scan (nmBad (c.vips.getD i zVip)) (c.vips.getD i zVip).names.length 1 = scan (nmBad (c.vips.getD i zVip)) (c.vips.getD i zVip).names.length y) 1 [] (fun y hL => ?_) (hi := by exact ⟨Nat.le_refl _, .inr rfl, rfl⟩)
               obtain ⟨hy, hy2, hys⟩ := hL
               refine D ?_
               refine cC (fun c9 => ?_) (fun c9 => ?_)
               · skip
                 have hnl : (c.vips.getD i zVip).names.length ≤ 2097152 := hV _ (getD_mem zVip (by omega))
                 refine D ?_
                 refine cC (fun c10 => ?_) (fun c10 => ?_)
                 · skip
                   have hvb : vipBad c i = 1 := by
                     rw [hvs, hys, scan_lt (by omega)]
                     unfold nmBad
                     grind
                   refine D ?_
                   refine E ?_
                   first
                   | exact trivial
                   | unfold configFault
                     grind
                 · skip
                   refine D ?_
                   refine N (y+1) [] (hi := ?_) (hm := ?_)
                   · refine ⟨by omega, .inl (by omega), ?_⟩
                     rw [hys, scan_lt (by omega), if_pos]
                     unfold nmBad
                     simp at *
                     grind
                   · omega
               · skip
                 have hvb : vipBad c i = 0 := by rw [hvs, hys, scan_ge (by omega)]
                 refine D ?_
                 refine N (i+1) [] (hi := ?_) (hm := ?_)
                 · refine ⟨by omega, ?_⟩
                   rw [hie, scan_lt (by omega), if_pos]
                   grind
                 · omega
       · skip
         have hs1 : scan (vipBad c) c.vips.length 0 = 0 := by rw [hie, scan_ge (by omega)]
         refine D ?_
         refine E ?_
         first
         | exact trivial
         | unfold configFault
           grind
theorem s_spec_l5Needs (k : Int) : SemX prog 98 [aI k] [] [rB (nd1 k), rB (nd2 k), rB (nd3 k), rB (nd4 k)] [] := by
 refine goF [] [] [] func98 ?_
 refine D ?_
 refine kR (s_spec_l1In k 5 8) ?_
 refine D ?_
 refine E ?_
 first
 | exact trivial
 | simp only [go_sem, nd1, nd2, nd3, nd4, rB]; done
 | try simp only [go_sem, nd1, nd2, nd3, nd4, rB]
   simp
   rw [Bool.eq_iff_iff]
   simp [inR]
   omega
theorem s_spec_l5Number (x : Cmd) : SemX prog 125 [aS (eCmd x)] [] [rB (isNum x)] [] := by
 refine goF [] [] [] func125 ?_
 refine D ?_
 refine cC (fun c0 => ?_) (fun c0 => ?_)
 · skip
   refine D ?_
   refine cC (fun c1 => ?_) (fun c1 => ?_)
   · skip
     refine D ?_
     refine kR (s_spec_l1In _ _ _) ?_
     refine D ?_
     refine E ?_
     first
     | exact trivial
     | simp only [go_sem, isNum]; done
     | try simp only [go_sem, isNum]
       first | (exfalso; omega) | (simp [*]; done)
   · skip
     refine D ?_
     refine cC (fun c2 => ?_) (fun c2 => ?_)
     · skip
       refine D ?_
       refine kR (s_spec_l1In _ _ _) ?_
       refine D ?_
       refine E ?_
       first
       | exact trivial
       | simp only [go_sem, isNum]; done
       | try simp only [go_sem, isNum]
         first | (exfalso; omega) | (simp [*]; done)
     · skip
       refine D ?_
       refine cC (fun c3 => ?_) (fun c3 => ?_)
       · skip
         refine D ?_
         refine kR (s_spec_l1In _ _ _) ?_
         refine D ?_
         refine E ?_
         first
         | exact trivial
         | simp only [go_sem, isNum]; done
         | try simp only [go_sem, isNum]
           first | (exfalso; omega) | (simp [*]; done)
       · skip
         refine D ?_
         refine kR (s_spec_l2Port _) ?_
         refine D ?_
         refine E ?_
         first
         | exact trivial
         | simp only [go_sem, isNum]; done
         | try simp only [go_sem, isNum]
           first | (exfalso; omega) | (simp [*]; done)
 · skip
   refine D ?_
   refine cC (fun c1 => ?_) (fun c1 => ?_)
   · skip
     refine D ?_
     refine kR (s_spec_l1In _ _ _) ?_
     refine D ?_
     refine E ?_
     first
     | exact trivial
     | simp only [go_sem, isNum]; done
     | try simp only [go_sem, isNum]
       first | (exfalso; omega) | (simp [*]; done)
   · skip
     refine D ?_
     refine cC (fun c2 => ?_) (fun c2 => ?_)
     · skip
       refine D ?_
       refine kR (s_spec_l1In _ _ _) ?_
       refine D ?_
       refine E ?_
       first
       | exact trivial
       | simp only [go_sem, isNum]; done
       | try simp only [go_sem, isNum]
         first | (exfalso; omega) | (simp [*]; done)
     · skip
       refine D ?_
       refine cC (fun c3 => ?_) (fun c3 => ?_)
       · skip
         refine D ?_
         refine kR (s_spec_l1In _ _ _) ?_
         refine D ?_
         refine E ?_
         first
         | exact trivial
         | simp only [go_sem, isNum]; done
         | try simp only [go_sem, isNum]
           first | (exfalso; omega) | (simp [*]; done)
       · skip
         refine D ?_
         refine kR (s_spec_l2Port _) ?_
         refine D ?_
         refine E ?_
         first
         | exact trivial
         | simp only [go_sem, isNum]; done
         | try simp only [go_sem, isNum]
           first | (exfalso; omega) | (simp [*]; done)
section
attribute [local go_sem] exp_eq
theorem s_spec_CmdFault (x : Cmd) : SemX prog 100 [aS (eCmd x)] [] [rI (cmdFault x)] [] := by
 refine goF [] [] [] func100 ?_
 refine D ?_
 refine kR (s_spec_l1In _ _ _) ?_
 refine D ?_
 refine cC (fun c0 => ?_) (fun c0 => ?_)
 · skip
   refine D ?_
   refine E ?_
   first
   | exact trivial
   | simp only [go_sem, cmdFault]; done
   | try simp only [go_sem, cmdFault]
     grind
 · skip
   refine D ?_
   refine kR (s_spec_l5Needs _) ?_
   refine D ?_
   refine kRg (s_spec_l5Version _) ?_
   refine D ?_
   refine kRg (s_spec_l3Name _) ?_
   refine D ?_
   refine kRg (s_spec_l2Address _) ?_
   refine D ?_
   refine kRg (s_spec_l5Number _) ?_
   refine D ?_
   refine kRg (s_spec_l5Proto _) ?_
   refine D ?_
   refine cC (fun c1 => ?_) (fun c1 => ?_)
   · skip
     refine D ?_
     refine E ?_
     first
     | exact trivial
     | simp only [go_sem, cmdFault]; done
     | try simp only [go_sem, cmdFault]
       grind
   · skip
     refine D ?_
     refine cC (fun c2 => ?_) (fun c2 => ?_)
     · skip
       refine D ?_
       refine E ?_
       first
       | exact trivial
       | simp only [go_sem, cmdFault]; done
       | try simp only [go_sem, cmdFault]
         grind
     · skip
       refine D ?_
       refine E ?_
       first
       | exact trivial
       | simp only [go_sem, cmdFault]; done
       | try simp only [go_sem, cmdFault]
         grind
end
theorem s_impl_needs (k : Int) : SemX prog 112 [aI k] [] [rB (nd1 k), rB (nd2 k), rB (nd3 k), rB (nd4 k)] [] := by
 refine goF [] [] [] func112 ?_
 refine D ?_
 refine kR (s_impl_in k 5 8) ?_
 refine D ?_
 refine kR (s_impl_in k 5 6) ?_
 refine D ?_
 refine E ?_
 first
 | exact trivial
 | simp only [go_sem, nd1, nd2, nd3, nd4, rB]; done
 | try simp only [go_sem, nd1, nd2, nd3, nd4, rB]
   simp
theorem s_impl_isNumber (x : Cmd) : SemX prog 113 [aS (eCmd x)] [] [rB (isNum x)] [] := by
 refine goF [] [] [] func113 ?_
 refine D ?_
 refine cC (fun c0 => ?_) (fun c0 => ?_)
 · skip
   refine D ?_
   refine cC (fun c1 => ?_) (fun c1 => ?_)
   · skip
     refine D ?_
     refine kR (s_impl_in _ _ _) ?_
     refine D ?_
     refine E ?_
     first
     | exact trivial
     | simp only [go_sem, isNum]; done
     | try simp only [go_sem, isNum]
       first | (exfalso; omega) | (simp [*]; done)
   · skip
     refine D ?_
     refine cC (fun c2 => ?_) (fun c2 => ?_)
     · skip
       refine D ?_
       refine kR (s_impl_in _ _ _) ?_
       refine D ?_
       refine E ?_
       first
       | exact trivial
       | simp only [go_sem, isNum]; done
       | try simp only [go_sem, isNum]
         first | (exfalso; omega) | (simp [*]; done)
     · skip
       refine D ?_
       refine cC (fun c3 => ?_) (fun c3 => ?_)
       · skip
         refine D ?_
         refine kR (s_impl_in _ _ _) ?_
         refine D ?_
         refine E ?_
         first
         | exact trivial
         | simp only [go_sem, isNum]; done
         | try simp only [go_sem, isNum]
           first | (exfalso; omega) | (simp [*]; done)
       · skip
         refine D ?_
         refine kR (s_impl_isPort _) ?_
         refine D ?_
         refine E ?_
         first
         | exact trivial
         | simp only [go_sem, isNum]; done
         | try simp only [go_sem, isNum]
           first | (exfalso; omega) | (simp [*]; done)
 · skip
   refine D ?_
   refine cC (fun c1 => ?_) (fun c1 => ?_)
   · skip
     refine D ?_
     refine kR (s_impl_in _ _ _) ?_
     refine D ?_
     refine E ?_
     first
     | exact trivial
     | simp only [go_sem, isNum]; done
     | try simp only [go_sem, isNum]
       first | (exfalso; omega) | (simp [*]; done)
   · skip
     refine D ?_
     refine cC (fun c2 => ?_) (fun c2 => ?_)
     · skip
       refine D ?_
       refine kR (s_impl_in _ _ _) ?_
       refine D ?_
       refine E ?_
       first
       | exact trivial
       | simp only [go_sem, isNum]; done
       | try simp only [go_sem, isNum]
         first | (exfalso; omega) | (simp [*]; done)
     · skip
       refine D ?_
       refine cC (fun c3 => ?_) (fun c3 => ?_)
       · skip
         refine D ?_
         refine kR (s_impl_in _ _ _) ?_
         refine D ?_
         refine E ?_
         first
         | exact trivial
         | simp only [go_sem, isNum]; done
         | try simp only [go_sem, isNum]
           first | (exfalso; omega) | (simp [*]; done)
       · skip
         refine D ?_
         refine kR (s_impl_isPort _) ?_
         refine D ?_
         refine E ?_
         first
         | exact trivial
         | simp only [go_sem, isNum]; done
         | try simp only [go_sem, isNum]
           first | (exfalso; omega) | (simp [*]; done)
section
attribute [local go_sem] exp_eq
theorem s_impl_CmdFault (x : Cmd) : SemX prog 84 [aS (eCmd x)] [] [rI (cmdFault x)] [] := by
 refine goF [] [] [] func84 ?_
 refine D ?_
 refine kR (s_impl_in _ _ _) ?_
 refine D ?_
 refine cC (fun c0 => ?_) (fun c0 => ?_)
 · skip
   refine D ?_
   refine E ?_
   first
   | exact trivial
   | simp only [go_sem, cmdFault]; done
   | try simp only [go_sem, cmdFault]
     grind
 · skip
   refine D ?_
   refine kR (s_impl_needs _) ?_
   refine D ?_
   refine kR (s_impl_in _ _ _) ?_
   refine D ?_
   refine kRg (s_impl_isName _) ?_
   refine D ?_
   refine kRg (s_impl_isAddress _) ?_
   refine D ?_
   refine kRg (s_impl_isNumber _) ?_
   refine D ?_
   refine kRg (s_impl_isProto _) ?_
   refine D ?_
   refine cC (fun c1 => ?_) (fun c1 => ?_)
   · skip
     refine D ?_
     refine E ?_
     first
     | exact trivial
     | simp only [go_sem, cmdFault]; done
     | try simp only [go_sem, cmdFault]
       grind
   · skip
     refine D ?_
     refine cC (fun c2 => ?_) (fun c2 => ?_)
     · skip
       refine D ?_
       refine E ?_
       first
       | exact trivial
       | simp only [go_sem, cmdFault]; done
       | try simp only [go_sem, cmdFault]
         grind
     · skip
       refine D ?_
       refine E ?_
       first
       | exact trivial
       | simp only [go_sem, cmdFault]; done
       | try simp only [go_sem, cmdFault]
         grind
end
theorem s_spec_l1Next (code : List Int) (hb : okB code)  {a : Int} {n : Int} (h : (0 ≤ a ∧ a ≤ 1000000)) : SemX prog 54 [.one (.ptr 0 0), aI n] [.var [.sl false 1 (code.map eI_u8), .int .i64 a]] [rI (nxV code a n)] [.var [.sl false 1 (code.map eI_u8), .int .i64 (a + 1)]] := by
 refine goF [(28, ⟨some 1, none, none, none⟩), (46, ⟨some 1, none, none, none⟩), (64, ⟨some 1, none, none, none⟩), (88, ⟨some 1, none, none, none⟩), (94, ⟨some 1, none, none, none⟩), (96, ⟨some 1, none, none, none⟩), (98, ⟨some 1, none, none, none⟩), (106, ⟨some 1, none, none, none⟩), (118, ⟨some 1, none, none, none⟩), (128, ⟨some 1, none, none, none⟩), (130, ⟨some 1, none, none, none⟩), (132, ⟨some 1, none, none, none⟩), (136, ⟨some 1, none, none, none⟩)] [(8, 3, [1000000], []), (10, 5, [1000000], [])] [] func54 ?_
 obtain ⟨ha, ha2⟩ := h
 have hl := hb.1
 have ht1 : 0 ≤ a.tmod code.length := Int.tmod_nonneg _ ha
 have ht2 : 0 ≤ (a + 1).tmod code.length := Int.tmod_nonneg _ (by omega)
 have h1 := okB_at hb (a.tmod code.length).toNat
 have h2 := okB_at hb ((a + 1).tmod code.length).toNat
 have h3 : 0 ≤ a.tdiv code.length := Int.tdiv_nonneg ha (Int.natCast_nonneg _)
 have h4 := Int.tdiv_le_self code.length ha
 refine D ?_
 refine cC (fun c0 => ?_) (fun c0 => ?_)
 · skip
   refine D ?_
   refine E ?_
   rw [show nxV code a n = 0 from if_pos (by omega)]
 · skip
   refine D ?_
   refine cC (fun c1 => ?_) (fun c1 => ?_)
   · skip
     refine D ?_
     refine E ?_
     have he : nxV code a n = (a * 7).tmod n := by unfold nxV; rw [if_neg (by omega), if_pos (by omega)]
     rw [he]
   · skip
     have hn0 : code.length ≠ 0 := by omega
     have ht3 := Int.tmod_lt_of_pos a (show (0 : Int) < code.length by omega)
     have ht4 := Int.tmod_lt_of_pos (a + 1) (show (0 : Int) < code.length by omega)
     refine D ?_
     refine cC (fun c2 => ?_) (fun c2 => ?_)
     · skip
       refine D ?_
       refine E ?_
       unfold nxV
       rw [if_neg (by omega), if_neg hn0, if_pos (by omega)]
     · skip
       refine D ?_
       refine E ?_
       unfold nxV
       rw [if_neg (by omega), if_neg hn0, if_neg (by omega)]
theorem s_spec_l1Pick (code : List Int) (hb : okB code) (l : List Int) {a : Int}  (h : (0 ≤ a ∧ a ≤ 1000000) ∧ 0 < l.length ∧ l.length ≤ 100) : SemX prog 56 [.one (.ptr 0 0), .one (.t (.sl true 1 (l.map eI_i64)))] [.var [.sl false 1 (code.map eI_u8), .int .i64 a]] [rI (pkV code a l)] [.var [.sl false 1 (code.map eI_u8), .int .i64 (a + 1)]] := by
 refine goF [] [] [] func56 ?_
 obtain ⟨⟨ha, ha2⟩, hc_⟩ := h
 have hx := nxV_bd hb ha l.length
 refine D ?_
 refine kRq false [1000000] [] [] (s_spec_l1Next code hb) ?_
 refine D ?_
 refine E ?_
 first
 | exact trivial
 | simp only [go_sem, pkV]
theorem s_spec_l1Chance (code : List Int) (hb : okB code)  {a : Int} {n : Int} (h : (0 ≤ a ∧ a ≤ 1000000)) : SemX prog 73 [.one (.ptr 0 0), aI n] [.var [.sl false 1 (code.map eI_u8), .int .i64 a]] [rB (decide (nxV code a n = 0))] [.var [.sl false 1 (code.map eI_u8), .int .i64 (a + 1)]] := by
 refine goF [] [] [] func73 ?_
 obtain ⟨ha, ha2⟩ := h
 refine D ?_
 refine kRq false [1000000] [] [] (s_spec_l1Next code hb) ?_
 refine D ?_
 exact E trivial
section
attribute [local go_sem] List.map_cons List.map_nil
theorem s_spec_l5Cmd (code : List Int) (hb : okB code)  {a : Int}  (h : (0 ≤ a ∧ a ≤ 990000)) : SemX prog 55 [.one (.ptr 0 0)] [.var [.sl false 1 (code.map eI_u8), .int .i64 a]] [.agg (eCmd (cmdD code a))] [.var [.sl false 1 (code.map eI_u8), .int .i64 (cmdS code a)]] := by
 refine goF [(28, ⟨some 1, none, none, none⟩), (34, ⟨some 1, none, none, none⟩), (56, ⟨some 1, none, none, none⟩), (84, ⟨some 1, none, none, none⟩)] [] [] func55 ?_
 obtain ⟨ha, ha2⟩ := h
 have k2 := nxV_bd hb (a := a + 1) (by omega) 5
 have k3 := nxV_bd hb (a := a + 1 + 1) (by omega) 3
 have k7 := nxV_bd hb (a := a + 1 + 1 + 1 + 1) (by omega) 3
 refine D ?_
 refine kRq false [1000000] [40960] [] (s_spec_l1Pick code hb [1, 1, 2, 3, 4, 5, 6, 7, 7, 7, 8, 9]) ?_
 refine D ?_
 refine kRq false [1000000] [] [] (s_spec_l1Next code hb) ?_
 refine D ?_
 refine kRq false [1000000] [] [] (s_spec_l1Next code hb) ?_
 refine D ?_
 refine kRq false [1000000] [77824] [] (s_spec_l1Pick code hb [80, 80, 443]) ?_
 refine D ?_
 refine cC (fun c0 => ?_) (fun c0 => ?_)
 · skip
   refine D ?_
   refine kRq false [1000000] [] [] (s_spec_l1Next code hb) ?_
   refine D ?_
   refine RW_callN (by kernel_rfl) (s_spec_l5Needs (pkV code a [1, 1, 2, 3, 4, 5, 6, 7, 7, 7, 8, 9])) false [] [] [] rfl rfl (by simp only [go_sem] <;> and_intros <;> first | with_reducible exact rfl | omega | with_reducible trivial | (intros; simp_all; done) | grind) (by first | rfl | (simp only [go_sem]; done)) (by simp only [go_sem]; exact rfl) ?_
   refine D ?_
   refine cC (fun c4 => ?_) (fun c4 => ?_)
   · skip
     rw [c0] at c4
     exact absurd c4 (by decide)
   · skip
     refine D ?_
     refine cC (fun c5 => ?_) (fun c5 => ?_)
     · skip
       rw [c0] at c5
       exact absurd c5 (by decide)
     · skip
       refine D ?_
       refine cC (fun c6 => ?_) (fun c6 => ?_)
       · skip
         rw [c0] at c6
         exact absurd c6 (by decide)
       · skip
         refine D ?_
         refine cC (fun c7 => ?_) (fun c7 => ?_)
         · skip
           refine D ?_
           refine kRq false [1000000] [] [] (s_spec_l1Chance code hb) ?_
           refine D ?_
           refine cC (fun c8 => ?_) (fun c8 => ?_)
           · skip
             refine D ?_
             refine kRq false [1000000] [] [] (s_spec_l1Next code hb) ?_
             refine D ?_
             refine E ?_
             first
             | exact trivial
             | first | (exfalso; omega) | (simp_all [cmdD, cmdS, cmdA, cd3, cs3, cd2, cd1, cd0, cs1, eCmd, nd1, nd2, nd3, nd4, inR] <;> first | (intros; omega) | grind)
           · skip
             refine D ?_
             refine E ?_
             first
             | exact trivial
             | first | (exfalso; omega) | (simp_all [cmdD, cmdS, cmdA, cd3, cs3, cd2, cd1, cd0, cs1, eCmd, nd1, nd2, nd3, nd4, inR] <;> first | (intros; omega) | grind)
         · skip
           rw [c0] at c7
           exact absurd c7 (by decide)
 · skip
   refine D ?_
   refine cC (fun c1 => ?_) (fun c1 => ?_)
   · skip
     refine D ?_
     refine kRq false [1000000] [] [] (s_spec_l1Next code hb) ?_
     refine D ?_
     refine RW_callN (by kernel_rfl) (s_spec_l5Needs (pkV code a [1, 1, 2, 3, 4, 5, 6, 7, 7, 7, 8, 9])) false [] [] [] rfl rfl (by simp only [go_sem] <;> and_intros <;> first | with_reducible exact rfl | omega | with_reducible trivial | (intros; simp_all; done) | grind) (by first | rfl | (simp only [go_sem]; done)) (by simp only [go_sem]; exact rfl) ?_
     refine D ?_
     refine cC (fun c4 => ?_) (fun c4 => ?_)
     · skip
       rw [c1] at c4
       exact absurd c4 (by decide)
     · skip
       refine D ?_
       refine cC (fun c5 => ?_) (fun c5 => ?_)
       · skip
         refine D ?_
         refine cC (fun c6 => ?_) (fun c6 => ?_)
         · skip
           rw [c1] at c6
           exact absurd c6 (by decide)
         · skip
           refine D ?_
           refine cC (fun c7 => ?_) (fun c7 => ?_)
           · skip
             refine D ?_
             refine kRq false [1000000] [] [] (s_spec_l1Chance code hb) ?_
             refine D ?_
             refine cC (fun c8 => ?_) (fun c8 => ?_)
             · skip
               refine D ?_
               refine kRq false [1000000] [] [] (s_spec_l1Next code hb) ?_
               refine D ?_
               refine E ?_
               first
               | exact trivial
               | first | (exfalso; omega) | (simp_all [cmdD, cmdS, cmdA, cd3, cs3, cd2, cd1, cd0, cs1, eCmd, nd1, nd2, nd3, nd4, inR] <;> first | (intros; omega) | grind)
             · skip
               refine D ?_
               refine E ?_
               first
               | exact trivial
               | first | (exfalso; omega) | (simp_all [cmdD, cmdS, cmdA, cd3, cs3, cd2, cd1, cd0, cs1, eCmd, nd1, nd2, nd3, nd4, inR] <;> first | (intros; omega) | grind)
           · skip
             rw [c1] at c7
             exact absurd c7 (by decide)
       · skip
         rw [c1] at c5
         exact absurd c5 (by decide)
   · skip
     refine D ?_
     refine cC (fun c2 => ?_) (fun c2 => ?_)
     · skip
       refine D ?_
       refine kRq false [1000000] [] [] (s_spec_l1Next code hb) ?_
       refine D ?_
       refine RW_callN (by kernel_rfl) (s_spec_l5Needs (pkV code a [1, 1, 2, 3, 4, 5, 6, 7, 7, 7, 8, 9])) false [] [] [] rfl rfl (by simp only [go_sem] <;> and_intros <;> first | with_reducible exact rfl | omega | with_reducible trivial | (intros; simp_all; done) | grind) (by first | rfl | (simp only [go_sem]; done)) (by simp only [go_sem]; exact rfl) ?_
       refine D ?_
       refine cC (fun c4 => ?_) (fun c4 => ?_)
       · skip
         rw [c2] at c4
         exact absurd c4 (by decide)
       · skip
         refine D ?_
         refine cC (fun c5 => ?_) (fun c5 => ?_)
         · skip
           refine D ?_
           refine cC (fun c6 => ?_) (fun c6 => ?_)
           · skip
             rw [c2] at c6
             exact absurd c6 (by decide)
           · skip
             refine D ?_
             refine cC (fun c7 => ?_) (fun c7 => ?_)
             · skip
               refine D ?_
               refine kRq false [1000000] [] [] (s_spec_l1Chance code hb) ?_
               refine D ?_
               refine cC (fun c8 => ?_) (fun c8 => ?_)
               · skip
                 refine D ?_
                 refine kRq false [1000000] [] [] (s_spec_l1Next code hb) ?_
                 refine D ?_
                 refine E ?_
                 first
                 | exact trivial
                 | first | (exfalso; omega) | (simp_all [cmdD, cmdS, cmdA, cd3, cs3, cd2, cd1, cd0, cs1, eCmd, nd1, nd2, nd3, nd4, inR] <;> first | (intros; omega) | grind)
               · skip
                 refine D ?_
                 refine E ?_
                 first
                 | exact trivial
                 | first | (exfalso; omega) | (simp_all [cmdD, cmdS, cmdA, cd3, cs3, cd2, cd1, cd0, cs1, eCmd, nd1, nd2, nd3, nd4, inR] <;> first | (intros; omega) | grind)
             · skip
               rw [c2] at c7
               exact absurd c7 (by decide)
         · skip
           rw [c2] at c5
           exact absurd c5 (by decide)
     · skip
       refine D ?_
       refine cC (fun c3 => ?_) (fun c3 => ?_)
       · skip
         refine D ?_
         refine kRq false [1000000] [] [] (s_spec_l1Next code hb) ?_
         refine D ?_
         refine RW_callN (by kernel_rfl) (s_spec_l5Needs (pkV code a [1, 1, 2, 3, 4, 5, 6, 7, 7, 7, 8, 9])) false [] [] [] rfl rfl (by simp only [go_sem] <;> and_intros <;> first | with_reducible exact rfl | omega | with_reducible trivial | (intros; simp_all; done) | grind) (by first | rfl | (simp only [go_sem]; done)) (by simp only [go_sem]; exact rfl) ?_
         refine D ?_
         refine cC (fun c4 => ?_) (fun c4 => ?_)
         · skip
           rw [c3] at c4
           exact absurd c4 (by decide)
         · skip
           refine D ?_
           refine cC (fun c5 => ?_) (fun c5 => ?_)
           · skip
             refine D ?_
             refine cC (fun c6 => ?_) (fun c6 => ?_)
             · skip
               rw [c3] at c6
               exact absurd c6 (by decide)
             · skip
               refine D ?_
               refine cC (fun c7 => ?_) (fun c7 => ?_)
               · skip
                 refine D ?_
                 refine kRq false [1000000] [] [] (s_spec_l1Chance code hb) ?_
                 refine D ?_
                 refine cC (fun c8 => ?_) (fun c8 => ?_)
                 · skip
                   refine D ?_
                   refine kRq false [1000000] [] [] (s_spec_l1Next code hb) ?_
                   refine D ?_
                   refine E ?_
                   first
                   | exact trivial
                   | first | (exfalso; omega) | (simp_all [cmdD, cmdS, cmdA, cd3, cs3, cd2, cd1, cd0, cs1, eCmd, nd1, nd2, nd3, nd4, inR] <;> first | (intros; omega) | grind)
                 · skip
                   refine D ?_
                   refine E ?_
                   first
                   | exact trivial
                   | first | (exfalso; omega) | (simp_all [cmdD, cmdS, cmdA, cd3, cs3, cd2, cd1, cd0, cs1, eCmd, nd1, nd2, nd3, nd4, inR] <;> first | (intros; omega) | grind)
               · skip
                 rw [c3] at c7
                 exact absurd c7 (by decide)
           · skip
             rw [c3] at c5
             exact absurd c5 (by decide)
       · skip
         refine D ?_
         refine RW_callN (by kernel_rfl) (s_spec_l5Needs (pkV code a [1, 1, 2, 3, 4, 5, 6, 7, 7, 7, 8, 9])) false [] [] [] rfl rfl (by simp only [go_sem] <;> and_intros <;> first | with_reducible exact rfl | omega | with_reducible trivial | (intros; simp_all; done) | grind) (by first | rfl | (simp only [go_sem]; done)) (by simp only [go_sem]; exact rfl) ?_
         refine D ?_
         refine cC (fun c4 => ?_) (fun c4 => ?_)
         · skip
           have q4 : 5 ≤ pkV code a [1, 1, 2, 3, 4, 5, 6, 7, 7, 7, 8, 9] ∧ pkV code a [1, 1, 2, 3, 4, 5, 6, 7, 7, 7, 8, 9] ≤ 6 := by unfold nd1 inR at c4; grind
           refine D ?_
           refine cC (fun c5 => ?_) (fun c5 => ?_)
           · skip
             have q5 : ¬ (5 ≤ pkV code a [1, 1, 2, 3, 4, 5, 6, 7, 7, 7, 8, 9] ∧ pkV code a [1, 1, 2, 3, 4, 5, 6, 7, 7, 7, 8, 9] ≤ 8) := by unfold nd2 inR at c5; grind
             refine D ?_
             refine cC (fun c6 => ?_) (fun c6 => ?_)
             · skip
               have q6 : pkV code a [1, 1, 2, 3, 4, 5, 6, 7, 7, 7, 8, 9] = 4 := by unfold nd3 at c6; grind
               refine D ?_
               refine cC (fun c7 => ?_) (fun c7 => ?_)
               · skip
                 have q7 : ¬ (5 ≤ pkV code a [1, 1, 2, 3, 4, 5, 6, 7, 7, 7, 8, 9] ∧ pkV code a [1, 1, 2, 3, 4, 5, 6, 7, 7, 7, 8, 9] ≤ 8) := by unfold nd4 inR at c7; grind
                 refine D ?_
                 refine kRq false [1000000] [] [] (s_spec_l1Chance code hb) ?_
                 refine D ?_
                 refine cC (fun c8 => ?_) (fun c8 => ?_)
                 · skip
                   refine D ?_
                   refine kRq false [1000000] [] [] (s_spec_l1Next code hb) ?_
                   refine D ?_
                   refine E ?_
                   first
                   | exact trivial
                   | first | (exfalso; omega) | (simp_all [cmdD, cmdS, cmdA, cd3, cs3, cd2, cd1, cd0, cs1, eCmd, nd1, nd2, nd3, nd4, inR] <;> first | (intros; omega) | grind)
                 · skip
                   refine D ?_
                   refine E ?_
                   first
                   | exact trivial
                   | first | (exfalso; omega) | (simp_all [cmdD, cmdS, cmdA, cd3, cs3, cd2, cd1, cd0, cs1, eCmd, nd1, nd2, nd3, nd4, inR] <;> first | (intros; omega) | grind)
               · skip
                 have q7 : 5 ≤ pkV code a [1, 1, 2, 3, 4, 5, 6, 7, 7, 7, 8, 9] ∧ pkV code a [1, 1, 2, 3, 4, 5, 6, 7, 7, 7, 8, 9] ≤ 8 := by unfold nd4 inR at c7; grind
                 refine D ?_
                 refine kRq false [1000000] [] [] (s_spec_l1Chance code hb) ?_
                 refine D ?_
                 refine cC (fun c8 => ?_) (fun c8 => ?_)
                 · skip
                   refine D ?_
                   refine kRq false [1000000] [] [] (s_spec_l1Next code hb) ?_
                   refine D ?_
                   refine E ?_
                   first
                   | exact trivial
                   | first | (exfalso; omega) | (simp_all [cmdD, cmdS, cmdA, cd3, cs3, cd2, cd1, cd0, cs1, eCmd, nd1, nd2, nd3, nd4, inR] <;> first | (intros; omega) | grind)
                 · skip
                   refine D ?_
                   refine E ?_
                   first
                   | exact trivial
                   | first | (exfalso; omega) | (simp_all [cmdD, cmdS, cmdA, cd3, cs3, cd2, cd1, cd0, cs1, eCmd, nd1, nd2, nd3, nd4, inR] <;> first | (intros; omega) | grind)
             · skip
               have q6 : pkV code a [1, 1, 2, 3, 4, 5, 6, 7, 7, 7, 8, 9] ≠ 4 := by unfold nd3 at c6; grind
               refine D ?_
               refine cC (fun c7 => ?_) (fun c7 => ?_)
               · skip
                 have q7 : ¬ (5 ≤ pkV code a [1, 1, 2, 3, 4, 5, 6, 7, 7, 7, 8, 9] ∧ pkV code a [1, 1, 2, 3, 4, 5, 6, 7, 7, 7, 8, 9] ≤ 8) := by unfold nd4 inR at c7; grind
                 refine D ?_
                 refine kRq false [1000000] [] [] (s_spec_l1Chance code hb) ?_
                 refine D ?_
                 refine cC (fun c8 => ?_) (fun c8 => ?_)
                 · skip
                   refine D ?_
                   refine kRq false [1000000] [] [] (s_spec_l1Next code hb) ?_
                   refine D ?_
                   refine E ?_
                   first
                   | exact trivial
                   | first | (exfalso; omega) | (simp_all [cmdD, cmdS, cmdA, cd3, cs3, cd2, cd1, cd0, cs1, eCmd, nd1, nd2, nd3, nd4, inR] <;> first | (intros; omega) | grind)
                 · skip
                   refine D ?_
                   refine E ?_
                   first
                   | exact trivial
                   | first | (exfalso; omega) | (simp_all [cmdD, cmdS, cmdA, cd3, cs3, cd2, cd1, cd0, cs1, eCmd, nd1, nd2, nd3, nd4, inR] <;> first | (intros; omega) | grind)
               · skip
                 have q7 : 5 ≤ pkV code a [1, 1, 2, 3, 4, 5, 6, 7, 7, 7, 8, 9] ∧ pkV code a [1, 1, 2, 3, 4, 5, 6, 7, 7, 7, 8, 9] ≤ 8 := by unfold nd4 inR at c7; grind
                 refine D ?_
                 refine kRq false [1000000] [] [] (s_spec_l1Chance code hb) ?_
                 refine D ?_
                 refine cC (fun c8 => ?_) (fun c8 => ?_)
                 · skip
                   refine D ?_
                   refine kRq false [1000000] [] [] (s_spec_l1Next code hb) ?_
                   refine D ?_
                   refine E ?_
                   first
                   | exact trivial
                   | first | (exfalso; omega) | (simp_all [cmdD, cmdS, cmdA, cd3, cs3, cd2, cd1, cd0, cs1, eCmd, nd1, nd2, nd3, nd4, inR] <;> first | (intros; omega) | grind)
                 · skip
                   refine D ?_
                   refine E ?_
                   first
                   | exact trivial
                   | first | (exfalso; omega) | (simp_all [cmdD, cmdS, cmdA, cd3, cs3, cd2, cd1, cd0, cs1, eCmd, nd1, nd2, nd3, nd4, inR] <;> first | (intros; omega) | grind)
           · skip
             have q5 : 5 ≤ pkV code a [1, 1, 2, 3, 4, 5, 6, 7, 7, 7, 8, 9] ∧ pkV code a [1, 1, 2, 3, 4, 5, 6, 7, 7, 7, 8, 9] ≤ 8 := by unfold nd2 inR at c5; grind
             refine D ?_
             refine cC (fun c6 => ?_) (fun c6 => ?_)
             · skip
               have q6 : pkV code a [1, 1, 2, 3, 4, 5, 6, 7, 7, 7, 8, 9] = 4 := by unfold nd3 at c6; grind
               refine D ?_
               refine cC (fun c7 => ?_) (fun c7 => ?_)
               · skip
                 have q7 : ¬ (5 ≤ pkV code a [1, 1, 2, 3, 4, 5, 6, 7, 7, 7, 8, 9] ∧ pkV code a [1, 1, 2, 3, 4, 5, 6, 7, 7, 7, 8, 9] ≤ 8) := by unfold nd4 inR at c7; grind
                 refine D ?_
                 refine kRq false [1000000] [] [] (s_spec_l1Chance code hb) ?_
                 refine D ?_
                 refine cC (fun c8 => ?_) (fun c8 => ?_)
                 · skip
                   refine D ?_
                   refine kRq false [1000000] [] [] (s_spec_l1Next code hb) ?_
                   refine D ?_
                   refine E ?_
                   first
                   | exact trivial
                   | first | (exfalso; omega) | (simp_all [cmdD, cmdS, cmdA, cd3, cs3, cd2, cd1, cd0, cs1, eCmd, nd1, nd2, nd3, nd4, inR] <;> first | (intros; omega) | grind)
                 · skip
                   refine D ?_
                   refine E ?_
                   first
                   | exact trivial
                   | first | (exfalso; omega) | (simp_all [cmdD, cmdS, cmdA, cd3, cs3, cd2, cd1, cd0, cs1, eCmd, nd1, nd2, nd3, nd4, inR] <;> first | (intros; omega) | grind)
               · skip
                 have q7 : 5 ≤ pkV code a [1, 1, 2, 3, 4, 5, 6, 7, 7, 7, 8, 9] ∧ pkV code a [1, 1, 2, 3, 4, 5, 6, 7, 7, 7, 8, 9] ≤ 8 := by unfold nd4 inR at c7; grind
                 refine D ?_
                 refine kRq false [1000000] [] [] (s_spec_l1Chance code hb) ?_
                 refine D ?_
                 refine cC (fun c8 => ?_) (fun c8 => ?_)
                 · skip
                   refine D ?_
                   refine kRq false [1000000] [] [] (s_spec_l1Next code hb) ?_
                   refine D ?_
                   refine E ?_
                   first
                   | exact trivial
                   | first | (exfalso; omega) | (simp_all [cmdD, cmdS, cmdA, cd3, cs3, cd2, cd1, cd0, cs1, eCmd, nd1, nd2, nd3, nd4, inR] <;> first | (intros; omega) | grind)
                 · skip
                   refine D ?_
                   refine E ?_
                   first
                   | exact trivial
                   | first | (exfalso; omega) | (simp_all [cmdD, cmdS, cmdA, cd3, cs3, cd2, cd1, cd0, cs1, eCmd, nd1, nd2, nd3, nd4, inR] <;> first | (intros; omega) | grind)
             · skip
               have q6 : pkV code a [1, 1, 2, 3, 4, 5, 6, 7, 7, 7, 8, 9] ≠ 4 := by unfold nd3 at c6; grind
               refine D ?_
               refine cC (fun c7 => ?_) (fun c7 => ?_)
               · skip
                 have q7 : ¬ (5 ≤ pkV code a [1, 1, 2, 3, 4, 5, 6, 7, 7, 7, 8, 9] ∧ pkV code a [1, 1, 2, 3, 4, 5, 6, 7, 7, 7, 8, 9] ≤ 8) := by unfold nd4 inR at c7; grind
                 refine D ?_
                 refine kRq false [1000000] [] [] (s_spec_l1Chance code hb) ?_
                 refine D ?_
                 refine cC (fun c8 => ?_) (fun c8 => ?_)
                 · skip
                   refine D ?_
                   refine kRq false [1000000] [] [] (s_spec_l1Next code hb) ?_
                   refine D ?_
                   refine E ?_
                   first
                   | exact trivial
                   | first | (exfalso; omega) | (simp_all [cmdD, cmdS, cmdA, cd3, cs3, cd2, cd1, cd0, cs1, eCmd, nd1, nd2, nd3, nd4, inR] <;> first | (intros; omega) | grind)
                 · skip
                   refine D ?_
                   refine E ?_
                   first
                   | exact trivial
                   | first | (exfalso; omega) | (simp_all [cmdD, cmdS, cmdA, cd3, cs3, cd2, cd1, cd0, cs1, eCmd, nd1, nd2, nd3, nd4, inR] <;> first | (intros; omega) | grind)
               · skip
                 have q7 : 5 ≤ pkV code a [1, 1, 2, 3, 4, 5, 6, 7, 7, 7, 8, 9] ∧ pkV code a [1, 1, 2, 3, 4, 5, 6, 7, 7, 7, 8, 9] ≤ 8 := by unfold nd4 inR at c7; grind
                 refine D ?_
                 refine kRq false [1000000] [] [] (s_spec_l1Chance code hb) ?_
                 refine D ?_
                 refine cC (fun c8 => ?_) (fun c8 => ?_)
                 · skip
                   refine D ?_
                   refine kRq false [1000000] [] [] (s_spec_l1Next code hb) ?_
                   refine D ?_
                   refine E ?_
                   first
                   | exact trivial
                   | first | (exfalso; omega) | (simp_all [cmdD, cmdS, cmdA, cd3, cs3, cd2, cd1, cd0, cs1, eCmd, nd1, nd2, nd3, nd4, inR] <;> first | (intros; omega) | grind)
                 · skip
                   refine D ?_
                   refine E ?_
                   first
                   | exact trivial
                   | first | (exfalso; omega) | (simp_all [cmdD, cmdS, cmdA, cd3, cs3, cd2, cd1, cd0, cs1, eCmd, nd1, nd2, nd3, nd4, inR] <;> first | (intros; omega) | grind)
         · skip
           have q4 : ¬ (5 ≤ pkV code a [1, 1, 2, 3, 4, 5, 6, 7, 7, 7, 8, 9] ∧ pkV code a [1, 1, 2, 3, 4, 5, 6, 7, 7, 7, 8, 9] ≤ 6) := by unfold nd1 inR at c4; grind
           refine D ?_
           refine cC (fun c5 => ?_) (fun c5 => ?_)
           · skip
             have q5 : ¬ (5 ≤ pkV code a [1, 1, 2, 3, 4, 5, 6, 7, 7, 7, 8, 9] ∧ pkV code a [1, 1, 2, 3, 4, 5, 6, 7, 7, 7, 8, 9] ≤ 8) := by unfold nd2 inR at c5; grind
             refine D ?_
             refine cC (fun c6 => ?_) (fun c6 => ?_)
             · skip
               have q6 : pkV code a [1, 1, 2, 3, 4, 5, 6, 7, 7, 7, 8, 9] = 4 := by unfold nd3 at c6; grind
               refine D ?_
               refine cC (fun c7 => ?_) (fun c7 => ?_)
               · skip
                 have q7 : ¬ (5 ≤ pkV code a [1, 1, 2, 3, 4, 5, 6, 7, 7, 7, 8, 9] ∧ pkV code a [1, 1, 2, 3, 4, 5, 6, 7, 7, 7, 8, 9] ≤ 8) := by unfold nd4 inR at c7; grind
                 refine D ?_
                 refine kRq false [1000000] [] [] (s_spec_l1Chance code hb) ?_
                 refine D ?_
                 refine cC (fun c8 => ?_) (fun c8 => ?_)
                 · skip
                   refine D ?_
                   refine kRq false [1000000] [] [] (s_spec_l1Next code hb) ?_
                   refine D ?_
                   refine E ?_
                   first
                   | exact trivial
                   | first | (exfalso; omega) | (simp_all [cmdD, cmdS, cmdA, cd3, cs3, cd2, cd1, cd0, cs1, eCmd, nd1, nd2, nd3, nd4, inR] <;> first | (intros; omega) | grind)
                 · skip
                   refine D ?_
                   refine E ?_
                   first
                   | exact trivial
                   | first | (exfalso; omega) | (simp_all [cmdD, cmdS, cmdA, cd3, cs3, cd2, cd1, cd0, cs1, eCmd, nd1, nd2, nd3, nd4, inR] <;> first | (intros; omega) | grind)
               · skip
                 have q7 : 5 ≤ pkV code a [1, 1, 2, 3, 4, 5, 6, 7, 7, 7, 8, 9] ∧ pkV code a [1, 1, 2, 3, 4, 5, 6, 7, 7, 7, 8, 9] ≤ 8 := by unfold nd4 inR at c7; grind
                 refine D ?_
                 refine kRq false [1000000] [] [] (s_spec_l1Chance code hb) ?_
                 refine D ?_
                 refine cC (fun c8 => ?_) (fun c8 => ?_)
                 · skip
                   refine D ?_
                   refine kRq false [1000000] [] [] (s_spec_l1Next code hb) ?_
                   refine D ?_
                   refine E ?_
                   first
                   | exact trivial
                   | first | (exfalso; omega) | (simp_all [cmdD, cmdS, cmdA, cd3, cs3, cd2, cd1, cd0, cs1, eCmd, nd1, nd2, nd3, nd4, inR] <;> first | (intros; omega) | grind)
                 · skip
                   refine D ?_
                   refine E ?_
                   first
                   | exact trivial
                   | first | (exfalso; omega) | (simp_all [cmdD, cmdS, cmdA, cd3, cs3, cd2, cd1, cd0, cs1, eCmd, nd1, nd2, nd3, nd4, inR] <;> first | (intros; omega) | grind)
             · skip
               have q6 : pkV code a [1, 1, 2, 3, 4, 5, 6, 7, 7, 7, 8, 9] ≠ 4 := by unfold nd3 at c6; grind
               refine D ?_
               refine cC (fun c7 => ?_) (fun c7 => ?_)
               · skip
                 have q7 : ¬ (5 ≤ pkV code a [1, 1, 2, 3, 4, 5, 6, 7, 7, 7, 8, 9] ∧ pkV code a [1, 1, 2, 3, 4, 5, 6, 7, 7, 7, 8, 9] ≤ 8) := by unfold nd4 inR at c7; grind
                 refine D ?_
                 refine kRq false [1000000] [] [] (s_spec_l1Chance code hb) ?_
                 refine D ?_
                 refine cC (fun c8 => ?_) (fun c8 => ?_)
                 · skip
                   refine D ?_
                   refine kRq false [1000000] [] [] (s_spec_l1Next code hb) ?_
                   refine D ?_
                   refine E ?_
                   first
                   | exact trivial
                   | first | (exfalso; omega) | (simp_all [cmdD, cmdS, cmdA, cd3, cs3, cd2, cd1, cd0, cs1, eCmd, nd1, nd2, nd3, nd4, inR] <;> first | (intros; omega) | grind)
                 · skip
                   refine D ?_
                   refine E ?_
                   first
                   | exact trivial
                   | first | (exfalso; omega) | (simp_all [cmdD, cmdS, cmdA, cd3, cs3, cd2, cd1, cd0, cs1, eCmd, nd1, nd2, nd3, nd4, inR] <;> first | (intros; omega) | grind)
               · skip
                 have q7 : 5 ≤ pkV code a [1, 1, 2, 3, 4, 5, 6, 7, 7, 7, 8, 9] ∧ pkV code a [1, 1, 2, 3, 4, 5, 6, 7, 7, 7, 8, 9] ≤ 8 := by unfold nd4 inR at c7; grind
                 refine D ?_
                 refine kRq false [1000000] [] [] (s_spec_l1Chance code hb) ?_
                 refine D ?_
                 refine cC (fun c8 => ?_) (fun c8 => ?_)
                 · skip
                   refine D ?_
                   refine kRq false [1000000] [] [] (s_spec_l1Next code hb) ?_
                   refine D ?_
                   refine E ?_
                   first
                   | exact trivial
                   | first | (exfalso; omega) | (simp_all [cmdD, cmdS, cmdA, cd3, cs3, cd2, cd1, cd0, cs1, eCmd, nd1, nd2, nd3, nd4, inR] <;> first | (intros; omega) | grind)
                 · skip
                   refine D ?_
                   refine E ?_
                   first
                   | exact trivial
                   | first | (exfalso; omega) | (simp_all [cmdD, cmdS, cmdA, cd3, cs3, cd2, cd1, cd0, cs1, eCmd, nd1, nd2, nd3, nd4, inR] <;> first | (intros; omega) | grind)
           · skip
             have q5 : 5 ≤ pkV code a [1, 1, 2, 3, 4, 5, 6, 7, 7, 7, 8, 9] ∧ pkV code a [1, 1, 2, 3, 4, 5, 6, 7, 7, 7, 8, 9] ≤ 8 := by unfold nd2 inR at c5; grind
             refine D ?_
             refine cC (fun c6 => ?_) (fun c6 => ?_)
             · skip
               have q6 : pkV code a [1, 1, 2, 3, 4, 5, 6, 7, 7, 7, 8, 9] = 4 := by unfold nd3 at c6; grind
               refine D ?_
               refine cC (fun c7 => ?_) (fun c7 => ?_)
               · skip
                 have q7 : ¬ (5 ≤ pkV code a [1, 1, 2, 3, 4, 5, 6, 7, 7, 7, 8, 9] ∧ pkV code a [1, 1, 2, 3, 4, 5, 6, 7, 7, 7, 8, 9] ≤ 8) := by unfold nd4 inR at c7; grind
                 refine D ?_
                 refine kRq false [1000000] [] [] (s_spec_l1Chance code hb) ?_
                 refine D ?_
                 refine cC (fun c8 => ?_) (fun c8 => ?_)
                 · skip
                   refine D ?_
                   refine kRq false [1000000] [] [] (s_spec_l1Next code hb) ?_
                   refine D ?_
                   refine E ?_
                   first
                   | exact trivial
                   | first | (exfalso; omega) | (simp_all [cmdD, cmdS, cmdA, cd3, cs3, cd2, cd1, cd0, cs1, eCmd, nd1, nd2, nd3, nd4, inR] <;> first | (intros; omega) | grind)
                 · skip
                   refine D ?_
                   refine E ?_
                   first
                   | exact trivial
                   | first | (exfalso; omega) | (simp_all [cmdD, cmdS, cmdA, cd3, cs3, cd2, cd1, cd0, cs1, eCmd, nd1, nd2, nd3, nd4, inR] <;> first | (intros; omega) | grind)
               · skip
                 have q7 : 5 ≤ pkV code a [1, 1, 2, 3, 4, 5, 6, 7, 7, 7, 8, 9] ∧ pkV code a [1, 1, 2, 3, 4, 5, 6, 7, 7, 7, 8, 9] ≤ 8 := by unfold nd4 inR at c7; grind
                 refine D ?_
                 refine kRq false [1000000] [] [] (s_spec_l1Chance code hb) ?_
                 refine D ?_
                 refine cC (fun c8 => ?_) (fun c8 => ?_)
                 · skip
                   refine D ?_
                   refine kRq false [1000000] [] [] (s_spec_l1Next code hb) ?_
                   refine D ?_
                   refine E ?_
                   first
                   | exact trivial
                   | first | (exfalso; omega) | (simp_all [cmdD, cmdS, cmdA, cd3, cs3, cd2, cd1, cd0, cs1, eCmd, nd1, nd2, nd3, nd4, inR] <;> first | (intros; omega) | grind)
                 · skip
                   refine D ?_
                   refine E ?_
                   first
                   | exact trivial
                   | first | (exfalso; omega) | (simp_all [cmdD, cmdS, cmdA, cd3, cs3, cd2, cd1, cd0, cs1, eCmd, nd1, nd2, nd3, nd4, inR] <;> first | (intros; omega) | grind)
             · skip
               have q6 : pkV code a [1, 1, 2, 3, 4, 5, 6, 7, 7, 7, 8, 9] ≠ 4 := by unfold nd3 at c6; grind
               refine D ?_
               refine cC (fun c7 => ?_) (fun c7 => ?_)
               · skip
                 have q7 : ¬ (5 ≤ pkV code a [1, 1, 2, 3, 4, 5, 6, 7, 7, 7, 8, 9] ∧ pkV code a [1, 1, 2, 3, 4, 5, 6, 7, 7, 7, 8, 9] ≤ 8) := by unfold nd4 inR at c7; grind
                 refine D ?_
                 refine kRq false [1000000] [] [] (s_spec_l1Chance code hb) ?_
                 refine D ?_
                 refine cC (fun c8 => ?_) (fun c8 => ?_)
                 · skip
                   refine D ?_
                   refine kRq false [1000000] [] [] (s_spec_l1Next code hb) ?_
                   refine D ?_
                   refine E ?_
                   first
                   | exact trivial
                   | first | (exfalso; omega) | (simp_all [cmdD, cmdS, cmdA, cd3, cs3, cd2, cd1, cd0, cs1, eCmd, nd1, nd2, nd3, nd4, inR] <;> first | (intros; omega) | grind)
                 · skip
                   refine D ?_
                   refine E ?_
                   first
                   | exact trivial
                   | first | (exfalso; omega) | (simp_all [cmdD, cmdS, cmdA, cd3, cs3, cd2, cd1, cd0, cs1, eCmd, nd1, nd2, nd3, nd4, inR] <;> first | (intros; omega) | grind)
               · skip
                 have q7 : 5 ≤ pkV code a [1, 1, 2, 3, 4, 5, 6, 7, 7, 7, 8, 9] ∧ pkV code a [1, 1, 2, 3, 4, 5, 6, 7, 7, 7, 8, 9] ≤ 8 := by unfold nd4 inR at c7; grind
                 refine D ?_
                 refine kRq false [1000000] [] [] (s_spec_l1Chance code hb) ?_
                 refine D ?_
                 refine cC (fun c8 => ?_) (fun c8 => ?_)
                 · skip
                   refine D ?_
                   refine kRq false [1000000] [] [] (s_spec_l1Next code hb) ?_
                   refine D ?_
                   refine E ?_
                   first
                   | exact trivial
                   | first | (exfalso; omega) | (simp_all [cmdD, cmdS, cmdA, cd3, cs3, cd2, cd1, cd0, cs1, eCmd, nd1, nd2, nd3, nd4, inR] <;> first | (intros; omega) | grind)
                 · skip
                   refine D ?_
                   refine E ?_
                   first
                   | exact trivial
                   | first | (exfalso; omega) | (simp_all [cmdD, cmdS, cmdA, cd3, cs3, cd2, cd1, cd0, cs1, eCmd, nd1, nd2, nd3, nd4, inR] <;> first | (intros; omega) | grind)
end
section
attribute [local go_sem] List.map_cons List.map_nil
theorem s_spec_l5BentCmd (code : List Int) (hb : okB code)  {a : Int}  (h : (0 ≤ a ∧ a ≤ 980000)) : SemX prog 72 [.one (.ptr 0 0)] [.var [.sl false 1 (code.map eI_u8), .int .i64 a]] [.agg (eCmd (bcmD code a))] [.var [.sl false 1 (code.map eI_u8), .int .i64 (bcmS code a)]] := by
 refine goF [(28, ⟨some 1, none, none, none⟩)] [] [] func72 ?_
 obtain ⟨ha, ha2⟩ := h
 have hS := cmdS_bd code a
 have k9 := nxV_bd hb (a := cmdS code a + 1) (by omega) 9
 refine D ?_
 refine kRq false [1000000] [] [] (s_spec_l5Cmd code hb) ?_
 refine D ?_
 refine kRq false [1000000] [] [] (s_spec_l1Next code hb) ?_
 refine D ?_
 refine cC (fun c0 => ?_) (fun c0 => ?_)
 · skip
   refine D ?_
   refine kRq false [1000000] [] [] (s_spec_l1Next code hb) ?_
   refine D ?_
   refine kRq false [1000000] [61440] [] (s_spec_l1Pick code hb [0, 10, 1 + nxV code (cmdS code a + 1) 9]) ?_
   refine D ?_
   refine E ?_
   first
   | exact trivial
   | simp_all [bcmD, bcmS, benD, benS, eCmd]
 · skip
   refine D ?_
   refine cC (fun c1 => ?_) (fun c1 => ?_)
   · skip
     refine D ?_
     refine kRq false [1000000] [86016] [] (s_spec_l1Pick code hb [-2, 1000000, 1000001, 3]) ?_
     refine D ?_
     refine E ?_
     first
     | exact trivial
     | simp_all [bcmD, bcmS, benD, benS, eCmd]
   · skip
     refine D ?_
     refine cC (fun c2 => ?_) (fun c2 => ?_)
     · skip
       refine D ?_
       refine kRq false [1000000] [110592] [] (s_spec_l1Pick code hb [0, 1000, 7]) ?_
       refine D ?_
       refine E ?_
       first
       | exact trivial
       | simp_all [bcmD, bcmS, benD, benS, eCmd]
     · skip
       refine D ?_
       refine cC (fun c3 => ?_) (fun c3 => ?_)
       · skip
         refine D ?_
         refine kRq false [1000000] [135168] [] (s_spec_l1Pick code hb [-1, 4294967296, 7]) ?_
         refine D ?_
         refine E ?_
         first
         | exact trivial
         | simp_all [bcmD, bcmS, benD, benS, eCmd]
       · skip
         refine D ?_
         refine cC (fun c4 => ?_) (fun c4 => ?_)
         · skip
           refine D ?_
           refine kRq false [1000000] [159744] [] (s_spec_l1Pick code hb [-1, 65536, 10, 0]) ?_
           refine D ?_
           refine E ?_
           first
           | exact trivial
           | simp_all [bcmD, bcmS, benD, benS, eCmd]
         · skip
           refine D ?_
           refine cC (fun c5 => ?_) (fun c5 => ?_)
           · skip
             refine D ?_
             refine kRq false [1000000] [184320] [] (s_spec_l1Pick code hb [1, 0, 17]) ?_
             refine D ?_
             refine E ?_
             first
             | exact trivial
             | simp_all [bcmD, bcmS, benD, benS, eCmd]
           · skip
             refine D ?_
             refine E ?_
             first
             | exact trivial
             | simp_all [bcmD, bcmS, benD, benS, eCmd]
end
theorem s_spec_l5Right (code : List Int) (hb : okB code)  {a : Int}  (h : (0 ≤ a ∧ a ≤ 970000)) : SemX prog 96 [.one (.ptr 0 0)] [.var [.sl false 1 (code.map eI_u8), .int .i64 a]] [.agg (eConfig true (rgtD code a).1)] [.var [.sl false 1 (code.map eI_u8), .int .i64 (rgtD code a).2]] := by
 refine goF [(14, ⟨some 4, some 28672, some (29, true), none⟩), (26, ⟨some 1, none, none, none⟩)] [(5, 0, [16384], []), (5, 2, [1000000], [1000000]), (5, 3, [28673, 28674], [69634, 69635]), (5, 4, [], [24576]), (5, 5, [24576], [24576])] [] func96 ?_
 obtain ⟨ha, ha2⟩ := h
 have hn := nxV_bd hb ha 24
 have hrz : rgtL code (nxV code a 24).toNat zConfig (a + 1) = rgtD code a := rfl
 refine D ?_
 refine kRq false [1000000] [] [] (s_spec_l1Next code hb) ?_
 refine D ?_
 refine L (α := Nat × Config × Int) (fun p => [(4, .int .i64 (nxV code a 24 - p.1))]) (fun p => [(1000000, .var [.sl none 1 (code.map eI_u8), .int .i64 p.2.2]), (16384, .var [.int .i64 p.2.1.version, .ref 28673 0 p.2.1.backends.length, .ref 28674 0 p.2.1.vips.length]), (28673, .arr ⟨5, p.2.1.backends.map eBackend, 1, none⟩), (28674, .arr ⟨4, p.2.1.vips.map (eVip true), 1, none⟩)]) (fun p => (nxV code a 24).toNat - p.1) (fun p => p.1 ≤ (nxV code a 24).toNat ∧ 0 ≤ p.2.2 ∧ p.2.2 ≤ a + 1 + 7 * p.1 ∧ configFault p.2.1 = 0 ∧ rgtL code (nxV code a 24).toNat zConfig (a + 1) = rgtL code ((nxV code a 24).toNat - p.1) p.2.1 p.2.2) (0, zConfig, a + 1) [] (fun x0 hL => ?_) (by simp only [go_sem] <;> and_intros <;> first | with_reducible exact rfl | (first | omega | exact rfl | (simp; done))) (by exact ⟨Nat.zero_le _, by dsimp only; omega, by dsimp only; omega, by rfl, rfl⟩)
 obtain ⟨i, c, a_⟩ := x0
 obtain ⟨hi2, hA0, hA1, hcf, hrl⟩ := hL
 try dsimp only at *
 have hgl := cf_l hcf
 have hx1 : limG 2097151 c := limG_mono (by omega) hgl
 refine D ?_
 refine cC (fun c0 => ?_) (fun c0 => ?_)
 · skip
   have hcs := cmdS_bd code a_
   refine D ?_
   refine kDq false [1000000] [] [] (s_spec_l5Cmd code hb) ?_
   refine D ?_
   refine kD (s_spec_l5Apply c hx1 (cf_ok hcf) (cmdD code a_) (cmdD_ok hb hA0)) ?_
   refine D ?_
   refine cC (fun c1 => ?_) (fun c1 => ?_)
   · skip
     have hc0 : (applyR c (cmdD code a_)).code = 0 := by simpa using c1
     refine D ?_
     refine lp_next (i + 1, (applyR c (cmdD code a_)).config, cmdS code a_) [(28673,69634),(28674,69635)] ?_ ?_ ?_
     · simp only [go_sem] <;> and_intros <;> first | with_reducible exact rfl | (first | with_reducible exact rfl | omega | (refine int_eq ?_; omega) | (simp; done))
     · dsimp only
       refine ⟨by omega, by omega, by omega, p_fault (applyR_p (cf_ok hcf) (cmdD_ok hb hA0) hc0), ?_⟩
       rw [hrl, show (nxV code a 24).toNat - i = ((nxV code a 24).toNat - (i + 1)) + 1 by omega, rgtL, if_pos hc0]
     · try dsimp only
       omega
   · skip
     have hc0 : ¬ (applyR c (cmdD code a_)).code = 0 := by simpa using c1
     refine D ?_
     refine lp_next (i + 1, c, cmdS code a_) [] ?_ ?_ ?_
     · simp only [go_sem] <;> and_intros <;> first | with_reducible exact rfl | (first | with_reducible exact rfl | omega | (refine int_eq ?_; omega) | (simp; done))
     · dsimp only
       refine ⟨by omega, by omega, by omega, hcf, ?_⟩
       rw [hrl, show (nxV code a 24).toNat - i = ((nxV code a 24).toNat - (i + 1)) + 1 by omega, rgtL, if_neg hc0]
     · try dsimp only
       omega
 · skip
   obtain rfl : i = (nxV code a 24).toNat := by omega
   rw [Nat.sub_self, rgtL] at hrl
   refine D ?_
   refine E ?_
   first
   | exact trivial
   | have he : rgtD code a = (c, a_) := hrl
     simp [he]
section
attribute [local go_sem] List.map_cons List.map_nil
theorem s_spec_l5Bent (code : List Int) (hb : okB code)  {a : Int}  (h : (0 ≤ a ∧ a ≤ 970000)) : SemX prog 105 [.one (.ptr 0 0)] [.var [.sl false 1 (code.map eI_u8), .int .i64 a]] [.agg (eConfig true (bntD code a))] [.var [.sl false 1 (code.map eI_u8), .int .i64 (bntS code a)]] := by
 refine goF [] [(6, 1, [16384], []), (6, 3, [], [81920]), (6, 4, [1000000, 81920], [1000000, 81920]), (6, 6, [], [94208]), (6, 7, [1000000, 94208], [1000000, 94208]), (6, 9, [1000000], [1000000]), (6, 11, [], [114688]), (6, 12, [24577, 114688], [118784, 24577, 114688]), (6, 14, [16384], [16384]), (8, 1, [16384], []), (8, 3, [], [147456]), (8, 4, [1000000, 147456], [1000000, 147456]), (8, 6, [], [159744]), (8, 7, [1000000, 159744], [1000000, 159744]), (8, 9, [], [172032]), (8, 10, [1000000, 172032], [1000000, 172032]), (8, 12, [1000000], [1000000]), (8, 13, [], [188416]), (8, 15, [188416], [196608, 188416]), (8, 16, [24578, 196608], [200704, 24578, 196608]), (8, 18, [16384], [16384])] [] func105 ?_
 obtain ⟨ha, ha2⟩ := h
 obtain ⟨hr0, hr1, hr2⟩ := rgtD_ok hb ha
 obtain ⟨l1, l2, l3⟩ := cf_l hr0
 refine D ?_
 refine kRq false [1000000] [] [] (s_spec_l5Right code hb) ?_
 refine D ?_
 refine kRq false [1000000] [] [] (s_spec_l1Next code hb) ?_
 refine D ?_
 refine cC (fun c0 => ?_) (fun c0 => ?_)
 · skip
   refine D ?_
   refine kRq false [1000000] [49152] [] (s_spec_l1Pick code hb [-1, 1000000, 1000001]) ?_
   refine D ?_
   refine E ?_
   first
   | exact trivial
   | simp_all [bntD, bntS, bnC, bnA, eBackend, eVip, eI_i64, zBackend] <;> exact rfl
 · skip
   refine D ?_
   refine cC (fun c1 => ?_) (fun c1 => ?_)
   · skip
     refine D ?_
     refine kDq false [1000000] [81920] [] (s_spec_l1Pick code hb [1, 999, 0]) ?_
     refine D ?_
     refine kDq false [1000000] [94208] [] (s_spec_l1Pick code hb [0, 10]) ?_
     refine D ?_
     refine kDq false [1000000] [] [] (s_spec_l1Next code hb) ?_
     refine D ?_
     refine E ?_
     first
     | exact trivial
     | simp_all [bntD, bntS, bnC, bnA, eBackend, eVip, eI_i64, zBackend] <;> exact rfl
   · skip
     refine D ?_
     refine cC (fun c2 => ?_) (fun c2 => ?_)
     · skip
       refine D ?_
       refine kDq false [1000000] [147456] [] (s_spec_l1Pick code hb [0, 4294967295]) ?_
       refine D ?_
       refine kDq false [1000000] [159744] [] (s_spec_l1Pick code hb [80, 65536]) ?_
       refine D ?_
       refine kDq false [1000000] [172032] [] (s_spec_l1Pick code hb [6, 1]) ?_
       refine D ?_
       refine kDq false [1000000] [] [] (s_spec_l1Next code hb) ?_
       refine D ?_
       refine E ?_
       first
       | exact trivial
       | simp_all [bntD, bntS, bnC, bnA, eBackend, eVip, eI_i64, zBackend] <;> exact rfl
     · skip
       refine D ?_
       refine cC (fun c3 => ?_) (fun c3 => ?_)
       · skip
         refine D ?_
         refine E ?_
         first
         | exact trivial
         | simp_all [bntD, bntS, bnC, bnA, eBackend, eVip, eI_i64, zBackend] <;> exact rfl
       · skip
         refine D ?_
         refine E ?_
         first
         | exact trivial
         | simp_all [bntD, bntS, bnC, bnA, eBackend, eVip, eI_i64, zBackend] <;> exact rfl
end
theorem s_slices_Equal_Backend (a b : List Backend) (ha : a.length ≤ 2097152) (hb : b.length ≤ 2097152) : SemX prog 93 [aT (.sl false 5 (a.map eBackend)), aT (.sl false 5 (b.map eBackend))] [] [rB (decide (a = b))] [] := by
 refine goF [] [] [] func93 ?_
 refine D ?_
 refine cC (fun c0 => ?_) (fun c0 => ?_)
 · skip
   have he : ¬ a = b := fun e => by subst e; simp at c0
   refine D ?_
   refine E ?_
   simp [he]
 · skip
   have hle : a.length = b.length := by omega
   refine D ?_
   refine L (α := Nat) (fun x => [(13, .int .i64 x)]) (fun x => []) (fun x => a.length - x) (fun x => x ≤ a.length ∧ ∀ j, j < x → a.getD j zBackend = b.getD j zBackend) 0 [] (fun x hL => ?_) (hi := by exact ⟨Nat.zero_le _, fun j hj => by omega⟩)
   obtain ⟨hx2, hno⟩ := hL
   refine D ?_
   refine cC (fun c1 => ?_) (fun c1 => ?_)
   · skip
     refine D ?_
     refine cC (fun c2 => ?_) (fun c2 => ?_)
     · skip
       have he : ¬ a = b := fun e => by subst e; simp at c2
       refine D ?_
       refine E ?_
       simp [he]
     · skip
       refine D ?_
       refine N (x+1) [] (hi := ?_) (hm := ?_)
       · refine ⟨by omega, fun j hj => ?_⟩
         rcases Nat.lt_or_ge j x with h | h
         · exact hno j h
         · obtain rfl : j = x := by omega
           first | exact c2 | (simpa using c2) | (rw [eq_backend]; simpa [and_assoc] using c2) | (rw [eq_backend]; grind)
       · omega
   · skip
     obtain rfl : x = a.length := by omega
     refine D ?_
     refine E ?_
     have he : a = b := eq_getD zBackend hle hno
     simp [he]
theorem s_slices_EqualFunc_Vip (a b : List Vip) (ha : a.length ≤ 2097152) (hb : b.length ≤ 2097152) (hA_ : ∀ y ∈ a, limV 2097152 y) (hB_ : ∀ y ∈ b, limV 2097152 y) (fn : Nat) (hq : callB prog fn = true) (hf : ∀ a b : Vip, limV 2097152 a → limV 2097152 b → SemX prog fn [aS (eVip false a), aS (eVip false b)] [] [rB (decide (a = b))] []) : SemX prog 94 [aT (.sl false 4 (a.map (eVip false))), aT (.sl false 4 (b.map (eVip false))), .one (.fn fn [])] [] [rB (decide (a = b))] [] := by
 refine goF [] [] [] func94 ?_
 refine D ?_
 refine cC (fun c0 => ?_) (fun c0 => ?_)
 · skip
   have he : ¬ a = b := fun e => by subst e; simp at c0
   refine D ?_
   refine E ?_
   simp [he]
 · skip
   have hle : a.length = b.length := by omega
   refine D ?_
   refine L (α := Nat) (fun x => [(17, .int .i64 x)]) (fun x => []) (fun x => a.length - x) (fun x => x ≤ a.length ∧ ∀ j, j < x → a.getD j zVip = b.getD j zVip) 0 [] (fun x hL => ?_) (hi := by exact ⟨Nat.zero_le _, fun j hj => by omega⟩)
   obtain ⟨hx2, hno⟩ := hL
   refine D ?_
   refine cC (fun c1 => ?_) (fun c1 => ?_)
   · skip
     refine D ?_
     refine kR (hf (a.getD x zVip) (b.getD x zVip) (hA_ _ (getD_mem zVip (by omega))) (hB_ _ (getD_mem zVip (by omega)))) ?_ hq
     refine D ?_
     refine cC (fun c2 => ?_) (fun c2 => ?_)
     · skip
       have he : ¬ a = b := fun e => by subst e; simp at c2
       refine D ?_
       refine E ?_
       simp [he]
     · skip
       refine D ?_
       refine N (x+1) [] (hi := ?_) (hm := ?_)
       · refine ⟨by omega, fun j hj => ?_⟩
         rcases Nat.lt_or_ge j x with h | h
         · exact hno j h
         · obtain rfl : j = x := by omega
           first | exact c2 | (simpa using c2) | (rw [eq_vip]; simpa [and_assoc] using c2) | (rw [eq_vip]; grind)
       · omega
   · skip
     obtain rfl : x = a.length := by omega
     refine D ?_
     refine E ?_
     have he : a = b := eq_getD zVip hle hno
     simp [he]
theorem s_slices_Equal_int64 (a b : List Int) (ha : a.length ≤ 2097152) (hb : b.length ≤ 2097152) : SemX prog 118 [aT (.sl false 1 (a.map eI_i64)), aT (.sl false 1 (b.map eI_i64))] [] [rB (decide (a = b))] [] := by
 refine goF [] [] [] func118 ?_
 refine D ?_
 refine cC (fun c0 => ?_) (fun c0 => ?_)
 · skip
   have he : ¬ a = b := fun e => by subst e; simp at c0
   refine D ?_
   refine E ?_
   simp [he]
 · skip
   have hle : a.length = b.length := by omega
   refine D ?_
   refine L (α := Nat) (fun x => [(13, .int .i64 x)]) (fun x => []) (fun x => a.length - x) (fun x => x ≤ a.length ∧ ∀ j, j < x → a.getD j zI_i64 = b.getD j zI_i64) 0 [] (fun x hL => ?_) (hi := by exact ⟨Nat.zero_le _, fun j hj => by omega⟩)
   obtain ⟨hx2, hno⟩ := hL
   refine D ?_
   refine cC (fun c1 => ?_) (fun c1 => ?_)
   · skip
     refine D ?_
     refine cC (fun c2 => ?_) (fun c2 => ?_)
     · skip
       have he : ¬ a = b := fun e => by subst e; simp at c2
       refine D ?_
       refine E ?_
       simp [he]
     · skip
       refine D ?_
       refine N (x+1) [] (hi := ?_) (hm := ?_)
       · refine ⟨by omega, fun j hj => ?_⟩
         rcases Nat.lt_or_ge j x with h | h
         · exact hno j h
         · obtain rfl : j = x := by omega
           first | exact c2 | (simpa using c2) | grind
       · omega
   · skip
     obtain rfl : x = a.length := by omega
     refine D ?_
     refine E ?_
     have he : a = b := eq_getD zI_i64 hle hno
     simp [he]
theorem s_impl_sameVip (a b : Vip) (ha : limV 2097152 a) (hb : limV 2097152 b) : SemX prog 95 [aS (eVip false a), aS (eVip false b)] [] [rB (decide (a = b))] [] := by
 refine goF [] [] [] func95 ?_
 refine D ?_
 refine kR (s_impl_compareVip a b) ?_
 refine D ?_
 refine kRg (s_slices_Equal_int64 a.names b.names ha hb) ?_
 refine D ?_
 refine E ?_
 first
 | exact trivial
 | rw [same_vip]
theorem s_impl_sameConfigs (a b : Config) (ha : limG 2097152 a) (hb : limG 2097152 b) : SemX prog 49 [aS (eConfig false a), aS (eConfig false b)] [] [rB (decide (a = b))] [] := by
 refine goF [] [] [] func49 ?_
 obtain ⟨ha1, ha2, ha3⟩ := id ha
 obtain ⟨hb1, hb2, hb3⟩ := id hb
 refine D ?_
 refine kRg (s_slices_Equal_Backend a.backends b.backends ha1 hb1) ?_
 refine D ?_
 refine kRg (s_slices_EqualFunc_Vip a.vips b.vips ha2 hb2 ha3 hb3 95 (by kernel_rfl) (fun a b ha hb => s_impl_sameVip a b ha hb)) ?_
 refine D ?_
 refine E ?_
 first
 | exact trivial
 | simp [eq_config, Bool.and_assoc]
theorem s_impl_SameConfigs (a b : Config) (ha : limG 2097152 a) (hb : limG 2097152 b) : SemX prog 16 [aS (eConfig false a), aS (eConfig false b)] [] [rB (decide (a = b))] [] := by
 refine goF [] [] [] func16 ?_
 refine D ?_
 refine kR (s_impl_sameConfigs a b ha hb) ?_
 refine D ?_
 exact E trivial
end Go.H
end
