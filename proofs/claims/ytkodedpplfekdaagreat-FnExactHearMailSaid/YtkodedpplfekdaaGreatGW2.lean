/- What the functions that the law reaches compute, each by its code, against pure functions. Conditions: those that each theorem states. -/
import Derived.Test.YtkodedpplfekdaaGreatGW1
section
set_option maxRecDepth 100000
set_option maxHeartbeats 4000000
set_option linter.unusedVariables false
set_option linter.unusedSimpArgs false
namespace Go.H
open Go Go.Proofs.Tryz
variable [Inv prog]
theorem s_slices_Insert_int64 (R V : List (List T)) (i : Nat) (hi : i ≤ R.length) (hv : 1 ≤ V.length) (hl : R.length + V.length ≤ 2097152) (fR : ∀ r ∈ R, ∀ t ∈ r, t.flat = true) (fV : ∀ r ∈ V, ∀ t ∈ r, t.flat = true) : SemX prog 150 [.one (.t (.sl true 1 R)), aI i, .one (.t (.sl true 1 V))] [] [.one (.sl true 1 (R.take i ++ V ++ R.drop i))] [] := by
 refine goFC 0 [(82, ⟨none, none, some (2, true), none⟩), (110, ⟨some 10, none, none, none⟩), (156, ⟨some 10, none, none, none⟩)] [(11, 4, [167936], []), (11, 7, [0], []), (11, 8, [167936, 0], [167936]), (15, 4, [0], []), (15, 7, [0], []), (15, 8, [0], [0])] [] func150 (fun cp hcp hcp2 => ?_)
 have hcp3 : R.length ≤ cp := hcp
 have hcV : cpRows (some (0, 0)) V = True := eq_true fV
 have hcT : cpRows (some (0, 0)) (List.take i R) = True := eq_true fun r hr => fR r (List.mem_of_mem_take hr)
 have hcD : cpRows (some (0, 0)) (List.drop i R) = True := eq_true fun r hr => fR r (List.mem_of_mem_drop hr)
 have hX1 : List.take i (R ++ roomR 1 (cp - R.length)) = List.take i R := List.take_append_of_le_length hi
 have hX2 : List.take R.length (R ++ roomR 1 (cp - R.length)) = R := List.take_left' rfl
 have hX3 : List.take (R.length - i) (List.drop i (R ++ roomR 1 (cp - R.length))) = List.drop i R := by rw [List.drop_append_of_le_length hi]; exact List.take_left' (by simp)
 have hA := And.intro hcV (And.intro hcT (And.intro hcD (And.intro hX1 (And.intro hX2 (hX3)))))
 refine D ?_
 refine cC (fun c0 => ?_) (fun c0 => ?_)
 · skip
   omega
 · skip
   refine D ?_
   refine cC (fun c1 => ?_) (fun c1 => ?_)
   · skip
     refine D ?_
     refine E ?_
     obtain rfl : i = R.length := by omega
     simp [List.take_of_length_le]
   · skip
     refine D ?_
     refine cC (fun c2 => ?_) (fun c2 => ?_)
     · skip
       refine D ?_
       refine E ?_
       rw [if_pos (by omega)]
       exact ⟨congrArg (fun r => [TV.one (T.sl true 1 r)]) (ins_grow (by omega) (by omega) (by omega) (by omega) (by omega)), rfl, rfl⟩
     · skip
       refine D ?_
       refine kOv (⟨_, 45, 4, 2, 1, func185, by kernel_rfl, by kernel_rfl, by kernel_rfl, by kernel_rfl, by kernel_rfl, by kernel_rfl⟩ : OvlOk prog 185) ?_
       refine D ?_
       refine cT ?_
       refine D ?_
       refine E ?_
       rw [if_pos (by omega)]
       exact ⟨congrArg (fun r => [TV.one (T.sl true 1 r)]) (ins_room (by omega) (by simp [roomR_len]; omega) (by omega) (by omega) (by omega) (by omega) (by omega)), rfl, rfl⟩
theorem s_rise_I (xs : List Int) (v : Int) (hl : xs.length + 1 ≤ 2097152) (h : hasI xs v = false) : SemX prog 150 [.one (.t (.sl true 1 (xs.map eI_i64))), aI (lbn xs v), .one (.t (.sl true 1 [[.int .i64 v]]))] [] [.one (.sl true 1 ((riseL xs v).map eI_i64))] [] := by
  have := s_slices_Insert_int64 (xs.map eI_i64) [[.int .i64 v]] (lbn xs v) (by simpa using lbn_le xs v) (by simp) (by simpa using hl) (flat_I xs) (by simp [T.flat])
  rwa [← riseL_no h] at this
end Go.H
end
section
set_option maxRecDepth 100000
set_option maxHeartbeats 4000000
set_option linter.unusedVariables false
set_option linter.unusedSimpArgs false
namespace Go.H
open Go Go.Proofs.Tryz
variable [Inv prog]
section
attribute [local go_sem] riseN
theorem s_impl_Node_granted (x : Node) (hx : limN 2097152 x) (h0 : 0 ≤ x.commit) (h1 : x.commit ≤ x.log.length) (p1 : 1 ≤ x.peers) (p2 : x.peers ≤ 5) (p3 : 0 ≤ x.id) (p4 : x.id < x.peers) (nv : rises x.votes) (nl : x.votes.length ≤ 100) (m : Mail) (hme : m.entries.length ≤ 2097152) : SemX prog 89 [.one (.ptr 0 0), aS (eMail false m)] [.var (eNode true x)] [] [.var (eNode true (grantedN x m))] := by
 refine goF [] [(1, 1, [16384], []), (1, 5, [16384], []), (1, 9, [1000000], []), (1, 16, [1000000], []), (2, 3, [1000000], []), (2, 5, [16384], []), (2, 6, [1000008], []), (4, 4, [1000000], []), (4, 7, [16384], []), (4, 8, [], [188416]), (4, 9, [1000008, 188416], [1000008, 188416, 192512]), (4, 12, [1000000], [1000000])] [] func89 ?_
 obtain ⟨hx1, hx2, hx3, hx4⟩ := id hx
 have hl4 := riseL_len x.votes m.from_
 have hlr : limN 2097152 (riseN x m) := ⟨hx.1, by simp [riseN]; omega, hx.2.2.1, hx.2.2.2⟩
 refine D ?_
 refine cC (fun c0 => ?_) (fun c0 => ?_)
 · skip
   refine D ?_
   refine E ?_
   have hg : (m.ok && decide (m.term = x.term) && decide (x.role = 1)) = false := by rcases c0 with (h | h) | h <;> simp [h]
   simp [grantedN, hg]
 · skip
   refine D ?_
   refine kD (s_slices_BinarySearch_int64 x.votes m.from_ nv hx.2.1) ?_
   refine D ?_
   refine cC (fun c1 => ?_) (fun c1 => ?_)
   · skip
     refine D ?_
     refine kDk [] [1000008, 188416] [] (s_rise_I x.votes m.from_ (by omega) c1) ?_
     refine D ?_
     refine kR (s_impl_Node_isQuorum (riseN x m) (riseL x.votes m.from_).length (by omega) (by omega)) ?_
     refine D ?_
     refine cC (fun c2 => ?_) (fun c2 => ?_)
     · skip
       refine D ?_
       refine kRk [1000000] [] [1000005, 192512, 1000009, 1000010] (s_impl_Node_lead (riseN x m) hlr h0 h1 p1 p2 p3 p4) ?_
       refine D ?_
       refine E ?_
       have hg : (m.ok && decide (m.term = x.term) && decide (x.role = 1)) = true := by revert c0; cases m.ok <;> simp
       have he : grantedN x m = leadOf (riseN x m) := by unfold grantedN; rw [if_pos hg]; exact if_pos c2
       first | (rw [he]; done) | (rw [he]; exact rfl)
     · skip
       refine D ?_
       refine E ?_
       have hg : (m.ok && decide (m.term = x.term) && decide (x.role = 1)) = true := by revert c0; cases m.ok <;> simp
       have he : grantedN x m = riseN x m := by unfold grantedN; rw [if_pos hg]; exact if_neg (by intro h; exact absurd (h.symm.trans c2) (by simp))
       first | (rw [he]; done) | (rw [he]; exact rfl)
   · skip
     have hrv := riseL_has c1
     have hA := hrv
     refine D ?_
     refine kR (s_impl_Node_isQuorum (riseN x m) (riseL x.votes m.from_).length (by omega) (by omega)) ?_
     refine D ?_
     refine cC (fun c2 => ?_) (fun c2 => ?_)
     · skip
       refine D ?_
       refine kRk [1000000] [] [1000005, 1000008, 1000009, 1000010] (s_impl_Node_lead (riseN x m) hlr h0 h1 p1 p2 p3 p4) ?_
       refine D ?_
       refine E ?_
       have hg : (m.ok && decide (m.term = x.term) && decide (x.role = 1)) = true := by revert c0; cases m.ok <;> simp
       have hrx : riseN x m = x := by unfold riseN; rw [hrv]
       have he : grantedN x m = leadOf x := by unfold grantedN; rw [if_pos hg, hrx]; exact if_pos c2
       first | (rw [he]; done) | (rw [he]; exact rfl)
     · skip
       refine D ?_
       refine E ?_
       have hg : (m.ok && decide (m.term = x.term) && decide (x.role = 1)) = true := by revert c0; cases m.ok <;> simp
       have hrx : riseN x m = x := by unfold riseN; rw [hrv]
       have he : grantedN x m = x := by unfold grantedN; rw [if_pos hg, hrx]; exact if_neg (by intro h; exact absurd (h.symm.trans c2) (by simp))
       rw [he]
end
end Go.H
end
section
set_option maxRecDepth 100000
set_option maxHeartbeats 4000000
set_option linter.unusedVariables false
set_option linter.unusedSimpArgs false
namespace Go.H
open Go Go.Proofs.Tryz
variable [Inv prog]
theorem s_impl_fits (log : List Entry) (hl : log.length ≤ 2097152) (index term : Int) : SemX prog 151 [aT (.sl false 9 (log.map eEntry)), aI index, aI term] [] [rB (fitsM log index term)] [] := by
 refine goF [] [] [] func151 ?_
 refine D ?_
 refine cC (fun c0 => ?_) (fun c0 => ?_)
 · skip
   refine D ?_
   refine E ?_
   simp [fitsM, c0]
 · skip
   refine D ?_
   refine kR (s_impl_size_Entry (log.map eEntry)) ?_
   refine D ?_
   refine kR (s_impl_in _ _ _) ?_
   refine D ?_
   refine E ?_
   refine ⟨inR_idx hl, ?_⟩
   simp [fitsM, c0]
end Go.H
end
section
set_option maxRecDepth 100000
set_option maxHeartbeats 4000000
set_option linter.unusedVariables false
set_option linter.unusedSimpArgs false
namespace Go.H
open Go Go.Proofs.Tryz
variable [Inv prog]
theorem s_impl_take (log more : List Entry) (i : Nat) (hi : i ≤ log.length) (hl : log.length ≤ 2097152) (hm : more.length ≤ 2097152) : SemX prog 187 [aT (.sl false 9 (log.map eEntry)), aI i, aT (.sl false 9 (more.map eEntry))] [] [.agg (eEntriesResult true (takeR log more i))] [] := by
 refine goF [(46, ⟨some 1, none, none, none⟩)] [(6, 2, [53248], []), (6, 7, [53248], []), (6, 9, [53248], []), (6, 11, [40960], []), (7, 2, [53248], []), (7, 6, [53248], [180224, 53248])] [] func187 ?_
 refine D ?_
 refine kR (s_slices_Clone_Entry log hl) ?_
 refine D ?_
 refine L (α := Nat) (fun k => [(15, .int .i64 k)]) (fun k => []) (fun k => more.length - k) (fun k => k ≤ more.length ∧ i + k ≤ log.length ∧ ∀ q, q < k → bad7 log more i q = false) 0 [] (fun k hL => ?_) (hi := by exact ⟨Nat.zero_le _, hi, fun q h => by omega⟩)
 obtain ⟨hk, hik, hlo⟩ := hL
 have hmi : min (i + k) log.length = i + k := by omega
 have hA := hmi
 refine D ?_
 refine cC (fun c0 => ?_) (fun c0 => ?_)
 · skip
   refine D ?_
   refine kD (s_impl_size_Entry (log.map eEntry)) ?_
   refine D ?_
   refine cC (fun c1 => ?_) (fun c1 => ?_)
   · skip
     refine D ?_
     refine N (k+1) [] (hi := ?_) (hm := ?_)
     · have hb : bad7 log more i k = false := by
        simp [bad7, -List.getD_eq_getElem?_getD]
        exact ⟨by omega, c1.2⟩
       refine ⟨by omega, by omega, fun q hq => ?_⟩
       by_cases e : q = k
       · subst e; exact hb
       · exact hlo q (by omega)
     · omega
   · skip
     refine D ?_
     refine cC (fun c2 => ?_) (fun c2 => ?_)
     · skip
       refine D ?_
       refine E ?_
       have hb : bad7 log more i k = true := by
        simp [-List.getD_eq_getElem?_getD] at c1
        simp [bad7, -List.getD_eq_getElem?_getD]
        by_cases h : log.length ≤ i + k
        · exact .inl h
        · exact .inr (c1 (by omega))
       have ht := take7_at (by omega) hlo hb
       have hl4 : (take7 log more i).length = i + k + (more.length - k) := by rw [ht]; simp; omega
       have he : takeR log more i = ⟨2, []⟩ := by unfold takeR; rw [if_pos (by rw [hl4]; omega)]
       simp [he]
     · skip
       refine D ?_
       refine E ?_
       have hb : bad7 log more i k = true := by
        simp [-List.getD_eq_getElem?_getD] at c1
        simp [bad7, -List.getD_eq_getElem?_getD]
        by_cases h : log.length ≤ i + k
        · exact .inl h
        · exact .inr (c1 (by omega))
       have ht := take7_at (by omega) hlo hb
       have hl4 : (take7 log more i).length = i + k + (more.length - k) := by rw [ht]; simp; omega
       have he : takeR log more i = ⟨0, List.take (i + k) log ++ List.drop k more⟩ := by unfold takeR; rw [if_neg (by rw [hl4]; omega), ht]
       simp [he]
       exact List.take_of_length_le (by simp; omega)
 · skip
   refine D ?_
   refine cC (fun c2 => ?_) (fun c2 => ?_)
   · skip
     refine D ?_
     refine E ?_
     have ht := take7_all (log := log) (more := more) (i := i) (fun q hq => hlo q (by omega))
     have he : takeR log more i = ⟨2, []⟩ := by unfold takeR; rw [if_pos (by rw [ht]; omega)]
     simp [he]
   · skip
     refine D ?_
     refine E ?_
     have ht := take7_all (log := log) (more := more) (i := i) (fun q hq => hlo q (by omega))
     have he : takeR log more i = ⟨0, log⟩ := by unfold takeR; rw [if_neg (by rw [ht]; omega), ht]
     simp [he]
end Go.H
end
section
set_option maxRecDepth 100000
set_option maxHeartbeats 4000000
set_option linter.unusedVariables false
set_option linter.unusedSimpArgs false
namespace Go.H
open Go Go.Proofs.Tryz
variable [Inv prog]
theorem s_impl_TakeEntries (log more : List Entry) (index term : Int) (hl : log.length ≤ 2097152) (hm : more.length ≤ 2097152) (h1 : logFault log = 0) (h2 : logFault more = 0) (h3 : fitsM log index term = true) (h4 : 0 < more.length → term ≤ (more.getD 0 zEntry).term) : SemX prog 152 [aT (.sl false 9 (log.map eEntry)), aI index, aI term, aT (.sl false 9 (more.map eEntry))] [] [.agg (eEntriesResult true (takeR log more index.toNat))] [] := by
 refine goF [] [] [] func152 ?_
 obtain ⟨n, rfl, hn⟩ := fits_nat hl h3
 have hA := And.intro h1 (And.intro h2 (h3))
 refine D ?_
 refine kR (s_impl_LogFault log (by omega)) ?_
 refine D ?_
 refine cT ?_
 refine D ?_
 refine kR (s_impl_LogFault more (by omega)) ?_
 refine D ?_
 refine cF ?_
 refine D ?_
 refine kR (s_impl_fits log hl n term) ?_
 refine D ?_
 refine cF ?_
 refine D ?_
 refine cC (fun c3 => ?_) (fun c3 => ?_)
 · skip
   have := h4 (by omega)
   omega
 · skip
   refine D ?_
   refine kR (s_impl_take log more n hn hl hm) ?_
   refine D ?_
   exact E trivial
end Go.H
end
section
set_option maxRecDepth 100000
set_option maxHeartbeats 4000000
set_option linter.unusedVariables false
set_option linter.unusedSimpArgs false
namespace Go.H
open Go Go.Proofs.Tryz
variable [Inv prog]
theorem s_impl_CommonOf (a b : List Entry) (ha : a.length ≤ 2097152) (hb : b.length ≤ 2097152) : SemX prog 153 [aT (.sl false 9 (a.map eEntry)), aT (.sl false 9 (b.map eEntry))] [] [rI (commonN a b)] [] := by
 refine goF [] [] [] func153 ?_
 refine D ?_
 refine L (α := Nat) (fun i => [(5, .int .i64 i)]) (fun i => []) (fun i => min a.length b.length - i) (fun i => i ≤ min a.length b.length ∧ ∀ q, q < i → eqEn (a.getD q zEntry) (b.getD q zEntry) = true) 0 [] (fun i hL => ?_) (hi := by exact ⟨Nat.zero_le _, fun q h => by omega⟩)
 obtain ⟨hi, hlo⟩ := hL
 refine D ?_
 refine cC (fun c0 => ?_) (fun c0 => ?_)
 · skip
   refine D ?_
   refine N (i+1) [] (hi := ?_) (hm := ?_)
   · obtain ⟨d1, d2⟩ := c0
     have d3 : eqEn (a.getD i zEntry) (b.getD i zEntry) = true := by simp only [eqEn, Bool.and_eq_true, decide_eq_true_eq]; exact d2
     have d4 : i < a.length ∧ i < b.length := by first | omega | (split at d1 <;> omega)
     refine ⟨by omega, fun q hq => ?_⟩
     by_cases e : q = i
     · subst e; exact d3
     · exact hlo q (by omega)
   · obtain ⟨d1, d2⟩ := c0
     have d3 : eqEn (a.getD i zEntry) (b.getD i zEntry) = true := by simp only [eqEn, Bool.and_eq_true, decide_eq_true_eq]; exact d2
     have d4 : i < a.length ∧ i < b.length := by first | omega | (split at d1 <;> omega)
     omega
 · skip
   refine D ?_
   refine E ?_
   first
   | exact trivial
   | have c9 : (decide ((i : Int) < if (b.length : Int) < a.length then (b.length : Int) else a.length) && eqEn (a.getD i zEntry) (b.getD i zEntry)) = false := c0
     have hcn : commonN a b = i := tw_range hi hlo (fun h => by
      cases he : eqEn (a.getD i zEntry) (b.getD i zEntry)
      · rfl
      · rw [he] at c9; simp at c9; first | omega | (split at c9 <;> omega))
     rw [hcn]
end Go.H
end
section
set_option maxRecDepth 100000
set_option maxHeartbeats 4000000
set_option linter.unusedVariables false
set_option linter.unusedSimpArgs false
namespace Go.H
open Go Go.Proofs.Tryz
variable [Inv prog]
section
attribute [local go_sem] followed baseM
theorem s_impl_Node_append (x : Node) (hx : limN 2097152 x) (h0 : 0 ≤ x.commit) (h1 : x.commit ≤ x.log.length) (m : Mail) (hme : m.entries.length ≤ 2097152) (lf : logFault x.log = 0) (mf : logFault m.entries = 0) (mt : 0 < m.entries.length → m.last ≤ (m.entries.getD 0 zEntry).term) (hi0 : 0 ≤ m.index) (hi9 : m.index ≤ 40) : SemX prog 90 [.one (.ptr 0 0), aS (eMail false m), .one (.ptr 1 0)] [.var (eNode true x), .var (eMail true (baseM x m))] [rI (takenC x m)] [.var (eNode true (takenN x m)), .var (eMail true (takenM x m))] := by
 refine goF [(76, ⟨some 1, none, none, none⟩), (178, ⟨some 1, none, none, none⟩)] [(1, 1, [20480], []), (1, 5, [1000000], []), (6, 3, [1000000], []), (6, 5, [20480], []), (6, 7, [20480], []), (6, 8, [99332], []), (7, 2, [20480], []), (7, 7, [1000000], []), (7, 8, [99332], []), (7, 12, [1001000], [1001000]), (9, 3, [1000000], []), (9, 5, [20480], []), (9, 7, [20480], []), (9, 9, [20480], []), (9, 10, [99332], [233473]), (9, 11, [], [32768]), (9, 12, [32768], [32768]), (12, 3, [1000000], []), (12, 5, [32768], []), (12, 6, [99332, 233473], []), (12, 10, [1000000], []), (15, 3, [20480], []), (15, 5, [20480], []), (15, 10, [1001000], [1001000]), (15, 13, [1001000], [1001000]), (16, 4, [1000000], []), (16, 6, [20480], []), (16, 10, [1001000], []), (16, 15, [1000000], [1000000])] [] func90 ?_
 obtain ⟨hx1, hx2, hx3, hx4⟩ := id hx
 refine D ?_
 refine cC (fun c0 => ?_) (fun c0 => ?_)
 · skip
   refine D ?_
   refine E ?_
   obtain ⟨e1, e2, e3⟩ := taken0 c0
   simp [e1, e2, e3, baseM, followed]
 · skip
   refine D ?_
   refine cC (fun c1 => ?_) (fun c1 => ?_)
   · skip
     refine D ?_
     refine E ?_
     obtain ⟨e1, e2, e3⟩ := taken1 c0 c1
     simp [e1, e2, e3, baseM, followed]
   · skip
     refine D ?_
     refine kRk [1000000] [] [1000005, 1000008, 1000009, 1000010] (s_impl_Node_follow x hx) ?_
     refine D ?_
     refine kD (s_impl_fits x.log hx.1 m.index m.last) ?_
     refine D ?_
     refine cC (fun c2 => ?_) (fun c2 => ?_)
     · skip
       refine D ?_
       refine kD (s_impl_size_Entry (x.log.map eEntry)) ?_
       refine D ?_
       refine E ?_
       obtain ⟨e1, e2, e3⟩ := taken2 c0 c1 c2
       simp [e1, e2, e3, baseM, followed]
       exact min_fi _ _
     · skip
       have hfit : fitsM x.log m.index m.last = true := by simpa using c2
       obtain ⟨i, hi, hn⟩ := fits_nat hx.1 hfit
       have hi2 : m.index.toNat = i := by omega
       have htl : takenL x m = take7 x.log m.entries i := by unfold takenL; rw [hi2]
       have hll := take7_len (more := m.entries) hn
       have hml := log_le mf
       have hA := hi
       refine D ?_
       refine kD (s_impl_TakeEntries x.log m.entries i m.last hx.1 hme lf mf (hi ▸ hfit) mt) ?_
       refine D ?_
       refine cC (fun c3 => ?_) (fun c3 => ?_)
       · skip
         obtain ⟨h40, htr⟩ := takeR_bad c3
         have hA := And.intro hA (htr)
         refine D ?_
         refine E ?_
         obtain ⟨e1, e2, e3⟩ := taken3 c0 c1 hfit (by rw [htl]; omega)
         simp [e1, e2, e3, baseM, followed]
       · skip
         obtain ⟨h40, htr⟩ := takeR_ok c3
         have hA := And.intro hA (htr)
         refine D ?_
         refine kD (s_impl_CommonOf x.log (take7 x.log m.entries i) hx.1 (by omega)) ?_
         refine D ?_
         refine cC (fun c4 => ?_) (fun c4 => ?_)
         · skip
           refine D ?_
           refine E ?_
           obtain ⟨e1, e2, e3⟩ := taken4 c0 c1 hfit (by rw [htl]; omega) (by rw [htl]; exact c4)
           simp [e1, e2, e3, baseM, followed]
         · skip
           refine D ?_
           refine kD (s_impl_size_Entry (m.entries.map eEntry)) ?_
           refine D ?_
           refine E ?_
           obtain ⟨e1, e2, e3⟩ := taken5 c0 c1 hfit (by rw [htl]; omega) (by rw [htl]; exact c4)
           simp [e1, e2, e3, baseM, takenOk, followed, takenEnd, htl, hi, min_fi, max_fi]
end
end Go.H
end
section
set_option maxRecDepth 100000
set_option maxHeartbeats 4000000
set_option linter.unusedVariables false
set_option linter.unusedSimpArgs false
namespace Go.H
open Go Go.Proofs.Tryz
variable [Inv prog]
section
attribute [local go_sem] toldOk set_map_I
theorem s_impl_Node_matched (x : Node) (hx : limN 2097152 x) (h0 : 0 ≤ x.commit) (h1 : x.commit ≤ x.log.length) (m : Mail) (hme : m.entries.length ≤ 2097152) (i : Nat) (hf : m.from_ = i) (hi0 : 0 ≤ m.index) (hi9 : m.index ≤ 40) (hL : x.role = 2 → i < x.next.length ∧ i < x.match_.length ∧ 1 ≤ x.next.getD i zI_i64 ∧ x.next.getD i zI_i64 ≤ 41 ∧ 0 ≤ x.match_.getD i zI_i64 ∧ x.match_.getD i zI_i64 ≤ 40) : SemX prog 91 [.one (.ptr 0 0), aS (eMail false m)] [.var (eNode true x)] [] [.var (eNode true (toldN x m))] := by
 refine goF [(84, ⟨some 1, none, none, none⟩), (90, ⟨some 1, none, none, none⟩), (100, ⟨some 1, none, none, none⟩), (154, ⟨some 1, none, none, none⟩)] [(1, 1, [16384], []), (1, 5, [1000000], []), (1, 11, [1000000], []), (2, 3, [1000000], []), (2, 5, [16384], []), (2, 6, [1000010], []), (2, 10, [1000000], []), (2, 12, [16384], []), (2, 13, [1000009], []), (4, 3, [1000009], []), (4, 6, [16384], []), (4, 11, [1000010], []), (4, 15, [1000009], [1000009]), (5, 1, [16384], []), (5, 4, [1000010], []), (5, 8, [16384], []), (5, 12, [1000000], []), (5, 13, [1000005], [])] [] func91 ?_
 obtain ⟨hx1, hx2, hx3, hx4⟩ := id hx
 have hlk : limN 2097152 (toldOk x m) := ⟨hx.1, hx.2.1, by simp [toldOk]; omega, by simp [toldOk]; omega⟩
 have hA := hf
 refine D ?_
 refine cC (fun c0 => ?_) (fun c0 => ?_)
 · skip
   refine D ?_
   refine E ?_
   have he : toldN x m = x := by unfold toldN; exact if_pos c0
   rw [he]
 · skip
   obtain ⟨k1, k2, k3, k4, k5, k6⟩ := hL (by simp at c0; omega)
   refine D ?_
   refine cC (fun c1 => ?_) (fun c1 => ?_)
   · skip
     refine D ?_
     refine E ?_
     have hto : toldN x m = toldNo x m := by unfold toldN; rw [if_neg (by simp at c0; omega), if_neg (by simp [c1])]
     have he : toldNo x m = { x with next := x.next.set i (max (max 1 (min (x.next.getD i zI_i64 - 1) (m.index + 1))) (x.match_.getD i zI_i64 + 1)) } := by unfold toldNo; rw [hf]; rfl
     rw [hto, he, ← told_impl]
     exact rfl
   · skip
     refine D ?_
     refine kDg (s_impl_size_Entry _) ?_
     refine D ?_
     refine cC (fun c2 => ?_) (fun c2 => ?_)
     · skip
       have ht : toldT x m = m.index := by unfold toldT; rw [hf]; exact if_pos c2
       have hgs : (x.match_.set i m.index).getD i zI_i64 = m.index := by simp [k2]
       have hA := And.intro hA (And.intro ht (hgs))
       refine D ?_
       refine kRk [1000000] [] [1000005, 1000008, 1000009, 1000010] (s_impl_Node_agree (toldOk x m) hlk h0 h1) ?_
       refine D ?_
       refine E ?_
       have hto : toldN x m = agreed (toldOk x m) := by unfold toldN; rw [if_neg (by simp at c0; omega), if_pos (by simpa using c1)]
       simp [hto, toldOk, ht, hf]
     · skip
       have ht : toldT x m = x.match_.getD i zI_i64 := by unfold toldT; rw [hf]; exact if_neg (by intro h; simp [-List.getD_eq_getElem?_getD] at c2; have := c2 h.1; have := h.2; omega)
       have hms : x.match_.set i (x.match_.getD i zI_i64) = x.match_ := by simp [k2]
       have hA := And.intro hA (And.intro ht (hms))
       refine D ?_
       refine kRk [1000000] [] [1000005, 1000008, 1000009, 1000010] (s_impl_Node_agree (toldOk x m) hlk h0 h1) ?_
       refine D ?_
       refine E ?_
       have hto : toldN x m = agreed (toldOk x m) := by unfold toldN; rw [if_neg (by simp at c0; omega), if_pos (by simpa using c1)]
       simp [-List.getD_eq_getElem?_getD, hto, toldOk, ht, hf, hms]
end
end Go.H
end
section
set_option maxRecDepth 100000
set_option maxHeartbeats 4000000
set_option linter.unusedVariables false
set_option linter.unusedSimpArgs false
namespace Go.H
open Go Go.Proofs.Tryz
variable [Inv prog]
section
attribute [local go_sem] followed baseM
theorem s_impl_HearMail (x : Node) (hx : limN 2097152 x) (m : Mail) (hme : m.entries.length ≤ 2097152) : SemX prog 29 [aS (eNode false x), aS (eMail false m)] [] [.agg (eNodeResult true (hearMail x m))] [] := by
 refine goF [] [] [] func29 ?_
 obtain ⟨hx1, hx2, hx3, hx4⟩ := id hx
 refine D ?_
 refine kR (s_impl_MailFault x m hx hme) ?_
 refine D ?_
 refine cC (fun c0 => ?_) (fun c0 => ?_)
 · skip
   refine D ?_
   refine E ?_
   have he : hearMail x m = badN (if nodeFault x ≠ 0 then nodeFault x else mailFault x m) := by unfold hearMail; by_cases h : nodeFault x = 0 <;> simp_all
   simp [he, badN, zNode]
 · skip
   have hnm : nodeFault x = 0 ∧ mailFault x m = 0 := by by_cases h : nodeFault x = 0 <;> simp_all
   obtain ⟨hn, hm⟩ := hnm
   have K := hear_ok hx hn hm
   obtain ⟨⟨p1, p2, _⟩, _⟩ := node_ok hn
   obtain ⟨mk, mfr, mtm, mix, mco, mlf, mlt⟩ := mail_ok ⟨p1, p2⟩ hm
   have hrl := riseL_len (newer x m).votes m.from_
   have hnv := K.nv
   have hlr : limN 2097152 (riseN (newer x m) m) := ⟨K.lim.1, by simp [riseN]; omega, K.lim.2.2.1, K.lim.2.2.2⟩
   refine D ?_
   refine kR (s_impl_Node_copied x hx) ?_
   refine D ?_
   refine cC (fun c1 => ?_) (fun c1 => ?_)
   · skip
     have hnw : newer x m = followed { x with term := m.term, voted := -1 } := by unfold newer; rw [if_pos (by omega)]
     have hA := hnw
     refine D ?_
     refine kRk [28672] [] [73732, 73735, 73736, 73737] (s_impl_Node_follow { x with term := m.term, voted := -1 } hx) ?_
     refine D ?_
     refine cC (fun c2 => ?_) (fun c2 => ?_)
     · skip
       refine D ?_
       refine kRg (s_impl_upToDate (newer x m).log K.lim.1 m.index m.last) ?_
       refine D ?_
       refine cC (fun c3 => ?_) (fun c3 => ?_)
       · skip
         refine D ?_
         refine cC (fun c6 => ?_) (fun c6 => ?_)
         · skip
           refine D ?_
           refine E ?_
           cases c6
         · skip
           refine D ?_
           refine E ?_
           have he : hearMail x m = hear x m := by unfold hearMail; rw [if_neg (by simp [hn]), if_neg (by simp [hm])]
           have hu : upOk (newer x m) m = true := by unfold upOk; rw [hnw]; simp [followed, c3]
           have he2 : hear x m = ⟨0, votedN (newer x m) m, [grantM (newer x m) m]⟩ := by unfold hear; exact if_pos c2
           rw [he, he2]
           simp only [votedN, grantM, hu, if_true]
           simp [hnw, followed, eMail, c3]
       · skip
         refine D ?_
         refine cC (fun c6 => ?_) (fun c6 => ?_)
         · skip
           refine D ?_
           refine E ?_
           cases c6
         · skip
           refine D ?_
           refine E ?_
           have he : hearMail x m = hear x m := by unfold hearMail; rw [if_neg (by simp [hn]), if_neg (by simp [hm])]
           have hu : upOk (newer x m) m = false := by unfold upOk; rw [hnw]; first | exact c3 | simp [followed, c3]
           have he2 : hear x m = ⟨0, votedN (newer x m) m, [grantM (newer x m) m]⟩ := by unfold hear; exact if_pos c2
           rw [he, he2]
           simp only [votedN, grantM, hu, Bool.false_eq_true, if_false]
           first | (simp [hnw, followed, eMail, c3]; done) | (simp only [hnw, eMail, c3]; simp)
     · skip
       refine D ?_
       refine cC (fun c4 => ?_) (fun c4 => ?_)
       · skip
         refine D ?_
         refine kRk [28672] [] [115716, 115719, 115720, 115721] (s_impl_Node_granted (newer x m) K.lim K.c0 K.c1 K.p1 K.p2 K.p3 K.p4 K.rv K.nv m hme) ?_
         refine D ?_
         refine cC (fun c6 => ?_) (fun c6 => ?_)
         · skip
           refine D ?_
           refine E ?_
           cases c6
         · skip
           refine D ?_
           refine E ?_
           have he : hearMail x m = hear x m := by unfold hearMail; rw [if_neg (by simp [hn]), if_neg (by simp [hm])]
           have he2 : hear x m = ⟨0, grantedN (newer x m) m, []⟩ := by unfold hear; rw [if_neg c2, if_pos c4]
           simp [he, he2, hnw, followed]
       · skip
         refine D ?_
         refine cC (fun c5 => ?_) (fun c5 => ?_)
         · skip
           refine D ?_
           refine kRk [28672, 36864] [] [115716, 115719, 115720, 115721] (s_impl_Node_append (newer x m) K.lim K.c0 K.c1 m hme K.lf mlf mlt mix.1 mix.2) ?_
           refine D ?_
           refine cC (fun c6 => ?_) (fun c6 => ?_)
           · skip
             refine D ?_
             refine E ?_
             have he : hearMail x m = hear x m := by unfold hearMail; rw [if_neg (by simp [hn]), if_neg (by simp [hm])]
             have he2 : hear x m = badN (takenC (newer x m) m) := by unfold hear; rw [if_neg c2, if_neg c4, if_pos c5, if_pos (by rw [hnw]; exact c6)]
             simp [he, he2, hnw, followed, badN, zNode]
           · skip
             refine D ?_
             refine E ?_
             have he : hearMail x m = hear x m := by unfold hearMail; rw [if_neg (by simp [hn]), if_neg (by simp [hm])]
             have he2 : hear x m = ⟨0, takenN (newer x m) m, [takenM (newer x m) m]⟩ := by unfold hear; rw [if_neg c2, if_neg c4, if_pos c5, if_neg (by rw [hnw]; exact fun h => h c6)]
             simp [he, he2, hnw, followed, eMail, c6]
         · skip
           refine D ?_
           refine kRk [28672] [] [115716, 115719, 115720, 115721] (s_impl_Node_matched (newer x m) K.lim K.c0 K.c1 m hme m.from_.toNat (by omega) mix.1 mix.2 K.tl) ?_
           refine D ?_
           refine cC (fun c6 => ?_) (fun c6 => ?_)
           · skip
             refine D ?_
             refine E ?_
             cases c6
           · skip
             refine D ?_
             refine E ?_
             have he : hearMail x m = hear x m := by unfold hearMail; rw [if_neg (by simp [hn]), if_neg (by simp [hm])]
             have he2 : hear x m = ⟨0, toldN (newer x m) m, []⟩ := by unfold hear; rw [if_neg c2, if_neg c4, if_neg c5]
             simp [he, he2, hnw, followed]
   · skip
     have hnw : newer x m = x := by unfold newer; rw [if_neg (by omega)]
     have hA := hnw
     refine D ?_
     refine cC (fun c2 => ?_) (fun c2 => ?_)
     · skip
       refine D ?_
       refine kRg (s_impl_upToDate (newer x m).log K.lim.1 m.index m.last) ?_
       refine D ?_
       refine cC (fun c3 => ?_) (fun c3 => ?_)
       · skip
         refine D ?_
         refine cC (fun c6 => ?_) (fun c6 => ?_)
         · skip
           refine D ?_
           refine E ?_
           cases c6
         · skip
           refine D ?_
           refine E ?_
           have he : hearMail x m = hear x m := by unfold hearMail; rw [if_neg (by simp [hn]), if_neg (by simp [hm])]
           have hu : upOk (newer x m) m = true := by unfold upOk; rw [hnw]; simp [followed, c3]
           have he2 : hear x m = ⟨0, votedN (newer x m) m, [grantM (newer x m) m]⟩ := by unfold hear; exact if_pos c2
           rw [he, he2]
           simp only [votedN, grantM, hu, if_true]
           simp [hnw, followed, eMail, c3]
       · skip
         refine D ?_
         refine cC (fun c6 => ?_) (fun c6 => ?_)
         · skip
           refine D ?_
           refine E ?_
           cases c6
         · skip
           refine D ?_
           refine E ?_
           have he : hearMail x m = hear x m := by unfold hearMail; rw [if_neg (by simp [hn]), if_neg (by simp [hm])]
           have hu : upOk (newer x m) m = false := by unfold upOk; rw [hnw]; first | exact c3 | simp [followed, c3]
           have he2 : hear x m = ⟨0, votedN (newer x m) m, [grantM (newer x m) m]⟩ := by unfold hear; exact if_pos c2
           rw [he, he2]
           simp only [votedN, grantM, hu, Bool.false_eq_true, if_false]
           first | (simp [hnw, followed, eMail, c3]; done) | (simp only [hnw, eMail, c3]; simp)
     · skip
       refine D ?_
       refine cC (fun c4 => ?_) (fun c4 => ?_)
       · skip
         refine D ?_
         refine kRk [28672] [] [73732, 73735, 73736, 73737] (s_impl_Node_granted (newer x m) K.lim K.c0 K.c1 K.p1 K.p2 K.p3 K.p4 K.rv K.nv m hme) ?_
         refine D ?_
         refine cC (fun c6 => ?_) (fun c6 => ?_)
         · skip
           refine D ?_
           refine E ?_
           cases c6
         · skip
           refine D ?_
           refine E ?_
           have he : hearMail x m = hear x m := by unfold hearMail; rw [if_neg (by simp [hn]), if_neg (by simp [hm])]
           have he2 : hear x m = ⟨0, grantedN (newer x m) m, []⟩ := by unfold hear; rw [if_neg c2, if_pos c4]
           simp [he, he2, hnw, followed]
       · skip
         refine D ?_
         refine cC (fun c5 => ?_) (fun c5 => ?_)
         · skip
           refine D ?_
           refine kRk [28672, 36864] [] [73732, 73735, 73736, 73737] (s_impl_Node_append (newer x m) K.lim K.c0 K.c1 m hme K.lf mlf mlt mix.1 mix.2) ?_
           refine D ?_
           refine cC (fun c6 => ?_) (fun c6 => ?_)
           · skip
             refine D ?_
             refine E ?_
             have he : hearMail x m = hear x m := by unfold hearMail; rw [if_neg (by simp [hn]), if_neg (by simp [hm])]
             have he2 : hear x m = badN (takenC (newer x m) m) := by unfold hear; rw [if_neg c2, if_neg c4, if_pos c5, if_pos (by rw [hnw]; exact c6)]
             simp [he, he2, hnw, followed, badN, zNode]
           · skip
             refine D ?_
             refine E ?_
             have he : hearMail x m = hear x m := by unfold hearMail; rw [if_neg (by simp [hn]), if_neg (by simp [hm])]
             have he2 : hear x m = ⟨0, takenN (newer x m) m, [takenM (newer x m) m]⟩ := by unfold hear; rw [if_neg c2, if_neg c4, if_pos c5, if_neg (by rw [hnw]; exact fun h => h c6)]
             simp [he, he2, hnw, followed, eMail, c6]
         · skip
           refine D ?_
           refine kRk [28672] [] [73732, 73735, 73736, 73737] (s_impl_Node_matched (newer x m) K.lim K.c0 K.c1 m hme m.from_.toNat (by omega) mix.1 mix.2 K.tl) ?_
           refine D ?_
           refine cC (fun c6 => ?_) (fun c6 => ?_)
           · skip
             refine D ?_
             refine E ?_
             cases c6
           · skip
             refine D ?_
             refine E ?_
             have he : hearMail x m = hear x m := by unfold hearMail; rw [if_neg (by simp [hn]), if_neg (by simp [hm])]
             have he2 : hear x m = ⟨0, toldN (newer x m) m, []⟩ := by unfold hear; rw [if_neg c2, if_neg c4, if_neg c5]
             simp [he, he2, hnw, followed]
end
end Go.H
end
section
set_option maxRecDepth 100000
set_option maxHeartbeats 4000000
set_option linter.unusedVariables false
set_option linter.unusedSimpArgs false
namespace Go.H
open Go Go.Proofs.Tryz
variable [Inv prog]
theorem s_laws_eqCmd (x : Cmd)  : SemX prog 188 [aS (eCmd x), aS (eCmd x)] [] [rB true] [] := by
 refine goF [] [] [] func188 ?_
 refine D ?_
 refine cF ?_
 refine D ?_
 refine cF ?_
 refine D ?_
 refine cF ?_
 refine D ?_
 refine cF ?_
 refine D ?_
 refine cF ?_
 refine D ?_
 refine cF ?_
 refine D ?_
 exact E trivial
end Go.H
end
section
set_option maxRecDepth 100000
set_option maxHeartbeats 4000000
set_option linter.unusedVariables false
set_option linter.unusedSimpArgs false
namespace Go.H
open Go Go.Proofs.Tryz
variable [Inv prog]
theorem s_laws_eqEntry (x : Entry)  : SemX prog 155 [aS (eEntry x), aS (eEntry x)] [] [rB true] [] := by
 refine goF [] [] [] func155 ?_
 refine D ?_
 refine cF ?_
 refine D ?_
 refine cF ?_
 refine D ?_
 refine cF ?_
 refine D ?_
 refine kR (s_laws_eqCmd x.cmd) ?_
 refine D ?_
 refine cF ?_
 refine D ?_
 exact E trivial
end Go.H
end
section
set_option maxRecDepth 100000
set_option maxHeartbeats 4000000
set_option linter.unusedVariables false
set_option linter.unusedSimpArgs false
namespace Go.H
open Go Go.Proofs.Tryz
variable [Inv prog]
theorem s_laws_eqEntryS (xs : List Entry) (hl : xs.length ≤ 2097152)  : SemX prog 92 [aT (.sl false 9 (xs.map eEntry)), aT (.sl false 9 (xs.map eEntry))] [] [rB true] [] := by
 refine goF [] [] [] func92 ?_
 refine D ?_
 refine cF ?_
 refine D ?_
 refine L (α := Nat) (fun x => [(5, .int .i64 x)]) (fun x => []) (fun x => xs.length - x) (fun x => x ≤ xs.length) 0 [] (fun x hI => ?_)
 refine D ?_
 refine cC (fun c1 => ?_) (fun c1 => ?_)
 · skip
   refine D ?_
   refine kD (s_laws_eqEntry (xs.getD x zEntry)) ?_
   refine D ?_
   refine cF ?_
   refine D ?_
   exact N (x+1) []
 · skip
   refine D ?_
   exact E trivial
end Go.H
end
section
set_option maxRecDepth 100000
set_option maxHeartbeats 4000000
set_option linter.unusedVariables false
set_option linter.unusedSimpArgs false
namespace Go.H
open Go Go.Proofs.Tryz
variable [Inv prog]
theorem s_laws_eqInt64S (xs : List Int) (hl : xs.length ≤ 2097152)  : SemX prog 93 [aT (.sl false 1 (xs.map eI_i64)), aT (.sl false 1 (xs.map eI_i64))] [] [rB true] [] := by
 refine goF [] [] [] func93 ?_
 refine D ?_
 refine cF ?_
 refine D ?_
 refine L (α := Nat) (fun x => [(5, .int .i64 x)]) (fun x => []) (fun x => xs.length - x) (fun x => x ≤ xs.length) 0 [] (fun x hI => ?_)
 refine D ?_
 refine cC (fun c1 => ?_) (fun c1 => ?_)
 · skip
   refine D ?_
   refine cF ?_
   refine D ?_
   exact N (x+1) []
 · skip
   refine D ?_
   exact E trivial
end Go.H
end
section
set_option maxRecDepth 100000
set_option maxHeartbeats 4000000
set_option linter.unusedVariables false
set_option linter.unusedSimpArgs false
namespace Go.H
open Go Go.Proofs.Tryz
variable [Inv prog]
theorem s_laws_eqNode (x : Node) (hx : limN 2097152 x) : SemX prog 31 [aS (eNode false x), aS (eNode false x)] [] [rB true] [] := by
 refine goF [] [] [] func31 ?_
 refine D ?_
 refine cF ?_
 refine D ?_
 refine cF ?_
 refine D ?_
 refine cF ?_
 refine D ?_
 refine cF ?_
 refine D ?_
 refine kR (s_laws_eqEntryS x.log hx.1) ?_
 refine D ?_
 refine cF ?_
 refine D ?_
 refine cF ?_
 refine D ?_
 refine cF ?_
 refine D ?_
 refine kR (s_laws_eqInt64S x.votes hx.2.1) ?_
 refine D ?_
 refine cF ?_
 refine D ?_
 refine kR (s_laws_eqInt64S x.next hx.2.2.1) ?_
 refine D ?_
 refine cF ?_
 refine D ?_
 refine kR (s_laws_eqInt64S x.match_ hx.2.2.2) ?_
 refine D ?_
 refine cF ?_
 refine D ?_
 exact E trivial
end Go.H
end
section
set_option maxRecDepth 100000
set_option maxHeartbeats 4000000
set_option linter.unusedVariables false
set_option linter.unusedSimpArgs false
namespace Go.H
open Go Go.Proofs.Tryz
variable [Inv prog]
theorem s_laws_eqMail (x : Mail) (hx : limM 2097152 x) : SemX prog 32 [aS (eMail false x), aS (eMail false x)] [] [rB true] [] := by
 refine goF [] [] [] func32 ?_
 refine D ?_
 refine cF ?_
 refine D ?_
 refine cF ?_
 refine D ?_
 refine cF ?_
 refine D ?_
 refine cF ?_
 refine D ?_
 refine cF ?_
 refine D ?_
 refine cF ?_
 refine D ?_
 refine cF ?_
 refine D ?_
 refine cF ?_
 refine D ?_
 refine kR (s_laws_eqEntryS x.entries hx) ?_
 refine D ?_
 refine cF ?_
 refine D ?_
 exact E trivial
end Go.H
end
section
set_option maxRecDepth 100000
set_option maxHeartbeats 4000000
set_option linter.unusedVariables false
set_option linter.unusedSimpArgs false
namespace Go.H
open Go Go.Proofs.Tryz
variable [Inv prog]
theorem s_laws_eqMailS (xs : List Mail) (hl : xs.length ≤ 2097152) (hm : ∀ y ∈ xs, limM 2097152 y) : SemX prog 62 [aT (.sl false 9 (xs.map (eMail false))), aT (.sl false 9 (xs.map (eMail false)))] [] [rB true] [] := by
 refine goF [] [] [] func62 ?_
 refine D ?_
 refine cF ?_
 refine D ?_
 refine L (α := Nat) (fun x => [(5, .int .i64 x)]) (fun x => []) (fun x => xs.length - x) (fun x => x ≤ xs.length) 0 [] (fun x hI => ?_)
 refine D ?_
 refine cC (fun c1 => ?_) (fun c1 => ?_)
 · skip
   refine D ?_
   refine kD (s_laws_eqMail (xs.getD x zMail) ((all_getD zMail).2 hm x (by omega))) ?_
   refine D ?_
   refine cF ?_
   refine D ?_
   exact N (x+1) []
 · skip
   refine D ?_
   exact E trivial
end Go.H
end
section
set_option maxRecDepth 100000
set_option maxHeartbeats 4000000
set_option linter.unusedVariables false
set_option linter.unusedSimpArgs false
namespace Go.H
open Go Go.Proofs.Tryz
variable [Inv prog]
theorem s_laws_eqNodeResult (x : NodeResult) (hx : limN 2097152 x.node ∧ x.send.length ≤ 2097152 ∧ ∀ y ∈ x.send, limM 2097152 y) : SemX prog 30 [aS (eNodeResult false x), aS (eNodeResult false x)] [] [rB true] [] := by
 refine goF [] [] [] func30 ?_
 refine D ?_
 refine cF ?_
 refine D ?_
 refine kR (s_laws_eqNode x.node hx.1) ?_
 refine D ?_
 refine cF ?_
 refine D ?_
 refine kR (s_laws_eqMailS x.send hx.2.1 hx.2.2) ?_
 refine D ?_
 refine cF ?_
 refine D ?_
 exact E trivial
end Go.H
end
section
set_option maxRecDepth 100000
set_option maxHeartbeats 4000000
set_option linter.unusedVariables false
set_option linter.unusedSimpArgs false
namespace Go.H
open Go Go.Proofs.Tryz
variable [Inv prog]
section
attribute [local go_sem] List.set_set mkL_length
theorem s_laws_markEntryS (xs : List Entry) (k : Int) (hk : 0 ≤ k) (hl : xs.length ≤ 2097152) (hb : mkK sE xs k ≤ 9000000000000000000) : SemX prog 94 [.one (.arr 0), aI k] [.arr 9 (xs.map eEntry)] [rI (mkK sE xs k)] [.arr 9 ((mkL mE sE xs k).map eEntry)] := by
 refine goF [] [] [] func94 ?_
 refine D ?_
 refine L (α := Nat) (fun x => [(1, .int .i64 (mkK sE (xs.take x) k)), (5, .int .i64 x)]) (fun x => [(1000000, .arr ⟨9, (mkL mE sE (xs.take x) k ++ xs.drop x).map eEntry, 1 + 9 * x, none⟩)]) (fun x => xs.length - x) (fun x => x ≤ xs.length) 0 [] (fun x hI => ?_) (by simp only [go_sem] <;> and_intros <;> first | with_reducible exact rfl | (first | omega | (simp [mkL, mkK]; done)))
 refine D ?_
 refine cC (fun c0 => ?_) (fun c0 => ?_)
 · skip
   have hat := mkK_at sE_up zEntry (xs := xs) (i := x) (by omega) hb
   simp only [sE] at hat
   have hg : ∀ r, (((mkL mE sE (xs.take x) k ++ xs.drop x).map eEntry).set x r).getD x dEntry = r := fun r => getD_set_self (by simp [mkL_length]; omega) r _
   have hA := And.intro hg ((mk_getD mE sE zEntry k (show x < xs.length by omega)))
   refine D ?_
   refine lp_next (x+1) [] ?_ ?_ ?_
   · simp only [go_sem, hA] <;> and_intros <;> first | with_reducible exact rfl | (first | omega | (refine int_eq ?_; rw [mkK_succ sE zEntry (by omega)]; rfl) | (refine arr_eq ?_ (by omega); rw [← mk_step eEntry mE sE zEntry (by omega)]; simp only [eEntry, mE, mE, mC]))
   · omega
   · omega
 · skip
   obtain rfl : x = xs.length := by omega
   refine D ?_
   refine E ?_
   first
   | exact trivial
   | simp only [go_sem, List.drop_length, mkL_length]; done
   | try simp only [go_sem, List.drop_length, mkL_length]
     simp [mkL_length]
end
end Go.H
end
section
set_option maxRecDepth 100000
set_option maxHeartbeats 4000000
set_option linter.unusedVariables false
set_option linter.unusedSimpArgs false
namespace Go.H
open Go Go.Proofs.Tryz
variable [Inv prog]
section
attribute [local go_sem] List.set_set mkL_length
theorem s_laws_markInt64S (xs : List Int) (k : Int) (hk : 0 ≤ k) (hl : xs.length ≤ 2097152) (hb : mkK sI xs k ≤ 9000000000000000000) : SemX prog 95 [.one (.arr 0), aI k] [.arr 1 (xs.map eI_i64)] [rI (mkK sI xs k)] [.arr 1 ((mkL mI sI xs k).map eI_i64)] := by
 refine goF [] [] [] func95 ?_
 refine D ?_
 refine L (α := Nat) (fun x => [(1, .int .i64 (mkK sI (xs.take x) k)), (5, .int .i64 x)]) (fun x => [(1000000, .arr ⟨1, (mkL mI sI (xs.take x) k ++ xs.drop x).map eI_i64, 1 + 1 * x, none⟩)]) (fun x => xs.length - x) (fun x => x ≤ xs.length) 0 [] (fun x hI => ?_) (by simp only [go_sem] <;> and_intros <;> first | with_reducible exact rfl | (first | omega | (simp [mkL, mkK]; done)))
 refine D ?_
 refine cC (fun c0 => ?_) (fun c0 => ?_)
 · skip
   have hat := mkK_at sI_up zI_i64 (xs := xs) (i := x) (by omega) hb
   simp only [sI] at hat
   have hg : ∀ r, (((mkL mI sI (xs.take x) k ++ xs.drop x).map eI_i64).set x r).getD x dI_i64 = r := fun r => getD_set_self (by simp [mkL_length]; omega) r _
   have hA := And.intro hg ((mk_getD mI sI zI_i64 k (show x < xs.length by omega)))
   refine D ?_
   refine lp_next (x+1) [] ?_ ?_ ?_
   · simp only [go_sem, hA] <;> and_intros <;> first | with_reducible exact rfl | (first | omega | (refine int_eq ?_; rw [mkK_succ sI zI_i64 (by omega)]; rfl) | (refine arr_eq ?_ (by omega); rw [← mk_step eI_i64 mI sI zI_i64 (by omega)]; simp only [eI_i64, mI, mE, mC]))
   · omega
   · omega
 · skip
   obtain rfl : x = xs.length := by omega
   refine D ?_
   refine E ?_
   first
   | exact trivial
   | simp only [go_sem, List.drop_length, mkL_length]; done
   | try simp only [go_sem, List.drop_length, mkL_length]
     simp [mkL_length]
end
end Go.H
end
section
set_option maxRecDepth 100000
set_option maxHeartbeats 4000000
set_option linter.unusedVariables false
set_option linter.unusedSimpArgs false
namespace Go.H
open Go Go.Proofs.Tryz
variable [Inv prog]
theorem s_laws_markNode (x : Node) (hx : limN 2097152 x) (k : Int) (hk : 0 ≤ k) (hb : sN1 x k ≤ 9000000000000000000) : SemX prog 33 [.agg [.t (.int .i64 x.id), .t (.int .i64 x.peers), .t (.int .i64 x.term), .t (.int .i64 x.voted), .arr 0, .t (.int .i64 x.role), .t (.int .i64 x.commit), .arr 1, .arr 2, .arr 3], aI k] [.arr 9 (x.log.map eEntry), .arr 1 (x.votes.map eI_i64), .arr 1 (x.next.map eI_i64), .arr 1 (x.match_.map eI_i64)] [rI (sN1 x k)] [.arr 9 ((mN1 x k).log.map eEntry), .arr 1 ((mN1 x k).votes.map eI_i64), .arr 1 ((mN1 x k).next.map eI_i64), .arr 1 ((mN1 x k).match_.map eI_i64)] := by
 refine goF [] [] [] func33 ?_
 simp only [sN1] at hb
 have u3 := Int.le_trans (mkK_mono sI_up _ _) hb
 have u2 := Int.le_trans (mkK_mono sI_up _ _) u3
 have u1 := Int.le_trans (mkK_mono sI_up _ _) u2
 have v1 := mkK_mono sE_up x.log k
 have v2 := mkK_mono sI_up x.votes (mkK sE x.log k)
 have v3 := mkK_mono sI_up x.next (mkK sI x.votes (mkK sE x.log k))
 refine D ?_
 refine kRk [1000000] [] [] (s_laws_markEntryS x.log k hk hx.1 u1) ?_
 refine D ?_
 refine kRk [1001000] [] [] (s_laws_markInt64S x.votes _ (by omega) hx.2.1 u2) ?_
 refine D ?_
 refine kRk [1002000] [] [] (s_laws_markInt64S x.next _ (by omega) hx.2.2.1 u3) ?_
 refine D ?_
 refine kRk [1003000] [] [] (s_laws_markInt64S x.match_ _ (by omega) hx.2.2.2 hb) ?_
 refine D ?_
 refine E ?_
 first
 | exact trivial
 | simp only [go_sem, mN1, sN1, mkL_length]
end Go.H
end
section
set_option maxRecDepth 100000
set_option maxHeartbeats 4000000
set_option linter.unusedVariables false
set_option linter.unusedSimpArgs false
namespace Go.H
open Go Go.Proofs.Tryz
variable [Inv prog]
theorem s_laws_markMail (x : Mail) (hx : limM 2097152 x) (k : Int) (hk : 0 ≤ k) (hb : mkK sE x.entries k ≤ 9000000000000000000) : SemX prog 34 [.agg [.t (.int .i64 x.kind), .t (.int .i64 x.from_), .t (.int .i64 x.to_), .t (.int .i64 x.term), .t (.int .i64 x.index), .t (.int .i64 x.last), .t (.int .i64 x.commit), .t (.bool x.ok), .arr 0], aI k] [.arr 9 (x.entries.map eEntry)] [rI (mkK sE x.entries k)] [.arr 9 ((mkL mE sE x.entries k).map eEntry)] := by
 refine goF [] [] [] func34 ?_
 refine D ?_
 refine kRk [1000000] [] [] (s_laws_markEntryS x.entries k hk hx hb) ?_
 refine D ?_
 refine E ?_
 first
 | exact trivial
 | simp only [go_sem, mkL_length]
end Go.H
end
section
set_option maxRecDepth 100000
set_option maxHeartbeats 4000000
set_option linter.unusedVariables false
set_option linter.unusedSimpArgs false
namespace Go.H
open Go Go.Proofs.Tryz
variable [Inv prog]
section
attribute [local go_sem] List.set_set mkL_length
theorem s_laws_markMailS (xs : List Mail) (k : Int) (hk : 0 ≤ k) (hl : xs.length ≤ 2097152) (hb : mkK sM xs k ≤ 9000000000000000000) (hm : ∀ y ∈ xs, limM 2097152 y) : SemX prog 66 [.one (.arr 0), aI k] [.arr 9 (xs.map (eMail true))] [rI (mkK sM xs k)] [.arr 9 ((mkL mM sM xs k).map (eMail true))] := by
 refine goF [(150, ⟨some 3, some 307200, none, none⟩)] [] [] func66 ?_
 refine D ?_
 refine L (α := Nat) (fun x => [(1, .int .i64 (mkK sM (xs.take x) k)), (5, .int .i64 x)]) (fun x => [(1000000, .arr ⟨9, (mkL mM sM (xs.take x) k ++ xs.drop x).map (eMail true), 1 + 10 * x, none⟩)]) (fun x => xs.length - x) (fun x => x ≤ xs.length) 0 [] (fun x hI => ?_) (by simp only [go_sem] <;> and_intros <;> first | with_reducible exact rfl | (first | omega | (simp [mkL, mkK]; done)))
 refine D ?_
 refine cC (fun c0 => ?_) (fun c0 => ?_)
 · skip
   have hat := mkK_at sM_up zMail (xs := xs) (i := x) (by omega) hb
   simp only [sM] at hat
   have hg : ∀ r, (((mkL mM sM (xs.take x) k ++ xs.drop x).map (eMail true)).set x r).getD x (dMail true) = r := fun r => getD_set_self (by simp [mkL_length]; omega) r _
   have hup := Int.le_trans (mkK_mono sE_up _ _) hat.2
   have hA := And.intro hg ((mk_getD mM sM zMail k (show x < xs.length by omega)))
   refine D ?_
   refine RW_callBN 74 (dMail true) (by kernel_rfl) (s_laws_markEntryS (xs.getD x zMail).entries _ (by omega) (hm _ (getD_mem zMail (by omega))) hat.2) true [307200] [] [] rfl rfl (by simp only [go_sem, hA] <;> and_intros <;> first | with_reducible exact rfl | omega | with_reducible trivial | (intros; simp_all; done) | grind) (by exact rfl) (by simp only [go_sem, hA] <;> and_intros <;> first | with_reducible exact rfl | omega | with_reducible trivial | (intros; simp_all; done) | grind) (by first | rfl | (simp only [go_sem, hA]; done)) (by simp only [go_sem, hA]; exact rfl) ?_
   refine D ?_
   refine lp_next (x+1) [] ?_ ?_ ?_
   · simp only [go_sem, hA] <;> and_intros <;> first | with_reducible exact rfl | (first | omega | (refine int_eq ?_; rw [mkK_succ sM zMail (by omega)]; rfl) | (refine arr_eq ?_ (by omega); rw [← mk_step (eMail true) mM sM zMail (by omega)]; simp only [eMail, mM, mE, mC]))
   · omega
   · omega
 · skip
   obtain rfl : x = xs.length := by omega
   refine D ?_
   refine E ?_
   first
   | exact trivial
   | simp only [go_sem, List.drop_length, mkL_length]; done
   | try simp only [go_sem, List.drop_length, mkL_length]
     simp [mkL_length]
end
end Go.H
end
section
set_option maxRecDepth 100000
set_option maxHeartbeats 4000000
set_option linter.unusedVariables false
set_option linter.unusedSimpArgs false
namespace Go.H
open Go Go.Proofs.Tryz
variable [Inv prog]
theorem s_laws_markNodeResult (x : Node) (ms : List Mail) (c : Int) (hx : limN 2097152 x) (hl : ms.length ≤ 2097152) (hm : ∀ y ∈ ms, limM 2097152 y) (k : Int) (hk : 0 ≤ k) (hb : mkK sM ms (sN1 x k) ≤ 9000000000000000000) : SemX prog 35 [.agg (.t (.int .i64 c) :: [.t (.int .i64 x.id), .t (.int .i64 x.peers), .t (.int .i64 x.term), .t (.int .i64 x.voted), .arr 0, .t (.int .i64 x.role), .t (.int .i64 x.commit), .arr 1, .arr 2, .arr 3] ++ [.arr 4]), aI k] [.arr 9 (x.log.map eEntry), .arr 1 (x.votes.map eI_i64), .arr 1 (x.next.map eI_i64), .arr 1 (x.match_.map eI_i64), .arr 9 (ms.map (eMail true))] [rI (mkK sM ms (sN1 x k))] [.arr 9 ((mN1 x k).log.map eEntry), .arr 1 ((mN1 x k).votes.map eI_i64), .arr 1 ((mN1 x k).next.map eI_i64), .arr 1 ((mN1 x k).match_.map eI_i64), .arr 9 ((mkL mM sM ms (sN1 x k)).map (eMail true))] := by
 refine goF [] [] [] func35 ?_
 have u1 := Int.le_trans (mkK_mono sM_up _ _) hb
 have v1 := sN1_up x k
 refine D ?_
 refine kRk [1000000, 1001000, 1002000, 1003000] [] [] (s_laws_markNode x hx k hk u1) ?_
 refine D ?_
 refine kRk [1004000] [] [] (s_laws_markMailS ms _ (by omega) hl hb hm) ?_
 refine D ?_
 refine E ?_
 first
 | exact trivial
 | simp only [go_sem, mN1, sN1, mkL_length]
end Go.H
end
section
set_option maxRecDepth 100000
set_option maxHeartbeats 4000000
set_option linter.unusedVariables false
set_option linter.unusedSimpArgs false
namespace Go.H
open Go Go.Proofs.Tryz
variable [Inv prog]
section
attribute [local go_sem] mkL_length mE mC
theorem s_laws_heldEntryS (xs : List Entry) (k : Int) (hk : 0 ≤ k) (hl : xs.length ≤ 2097152) (hb : mkK sE xs k ≤ 9000000000000000000)  : SemX prog 156 [aT (.sl false 9 ((mkL mE sE xs k).map eEntry)), aI k] [] [rI (mkK sE xs k)] [] := by
 refine goF [] [] [] func156 ?_
 refine D ?_
 refine L (α := Nat) (fun x => [(1, .int .i64 (mkK sE (xs.take x) k)), (5, .int .i64 x)]) (fun x => []) (fun x => xs.length - x) (fun x => x ≤ xs.length) 0 [] (fun x hI => ?_) (by simp only [go_sem] <;> and_intros <;> first | with_reducible exact rfl | (first | omega | (simp [mkK]; done)))
 refine D ?_
 refine cC (fun c0 => ?_) (fun c0 => ?_)
 · skip
   have hat := mkK_at sE_up zEntry (xs := xs) (i := x) (by omega) hb
   simp only [sE] at hat
   have hg := mkL_getD mE sE zEntry k (show x < xs.length by omega)
   have hA := hg
   refine D ?_
   refine cF ?_
   refine D ?_
   refine cF ?_
   refine D ?_
   refine cF ?_
   refine D ?_
   refine cF ?_
   refine D ?_
   refine cF ?_
   refine D ?_
   refine cF ?_
   refine D ?_
   refine cF ?_
   refine D ?_
   refine cF ?_
   refine D ?_
   refine cF ?_
   refine D ?_
   refine lp_next (x+1) [] ?_ ?_ ?_
   · simp only [go_sem, hA] <;> and_intros <;> first | with_reducible exact rfl | (first | omega | (refine int_eq ?_; rw [mkK_succ sE zEntry (by omega)]; rfl))
   · omega
   · omega
 · skip
   obtain rfl : x = xs.length := by omega
   refine D ?_
   refine E ?_
   first
   | exact trivial
   | simp [mkL_length]
end
end Go.H
end
section
set_option maxRecDepth 100000
set_option maxHeartbeats 4000000
set_option linter.unusedVariables false
set_option linter.unusedSimpArgs false
namespace Go.H
open Go Go.Proofs.Tryz
variable [Inv prog]
section
attribute [local go_sem] mkL_length mI mE mC
theorem s_laws_heldInt64S (xs : List Int) (k : Int) (hk : 0 ≤ k) (hl : xs.length ≤ 2097152) (hb : mkK sI xs k ≤ 9000000000000000000)  : SemX prog 157 [aT (.sl false 1 ((mkL mI sI xs k).map eI_i64)), aI k] [] [rI (mkK sI xs k)] [] := by
 refine goF [] [] [] func157 ?_
 refine D ?_
 refine L (α := Nat) (fun x => [(1, .int .i64 (mkK sI (xs.take x) k)), (5, .int .i64 x)]) (fun x => []) (fun x => xs.length - x) (fun x => x ≤ xs.length) 0 [] (fun x hI => ?_) (by simp only [go_sem] <;> and_intros <;> first | with_reducible exact rfl | (first | omega | (simp [mkK]; done)))
 refine D ?_
 refine cC (fun c0 => ?_) (fun c0 => ?_)
 · skip
   have hat := mkK_at sI_up zI_i64 (xs := xs) (i := x) (by omega) hb
   simp only [sI] at hat
   have hg := mkL_getD mI sI zI_i64 k (show x < xs.length by omega)
   have hA := hg
   refine D ?_
   refine cF ?_
   refine D ?_
   refine lp_next (x+1) [] ?_ ?_ ?_
   · simp only [go_sem, hA] <;> and_intros <;> first | with_reducible exact rfl | (first | omega | (refine int_eq ?_; rw [mkK_succ sI zI_i64 (by omega)]; rfl))
   · omega
   · omega
 · skip
   obtain rfl : x = xs.length := by omega
   refine D ?_
   refine E ?_
   first
   | exact trivial
   | simp [mkL_length]
end
end Go.H
end
section
set_option maxRecDepth 100000
set_option maxHeartbeats 4000000
set_option linter.unusedVariables false
set_option linter.unusedSimpArgs false
namespace Go.H
open Go Go.Proofs.Tryz
variable [Inv prog]
section
attribute [local go_sem] mN1
theorem s_laws_heldNode (x : Node) (hx : limN 2097152 x) (k : Int) (hk : 0 ≤ k) (hb : sN1 x k ≤ 9000000000000000000) : SemX prog 96 [aS (eNode false (mN1 x k)), aI k] [] [rI (sN1 x k)] [] := by
 refine goF [] [] [] func96 ?_
 simp only [sN1] at hb
 have u3 := Int.le_trans (mkK_mono sI_up _ _) hb
 have u2 := Int.le_trans (mkK_mono sI_up _ _) u3
 have u1 := Int.le_trans (mkK_mono sI_up _ _) u2
 have v1 := mkK_mono sE_up x.log k
 have v2 := mkK_mono sI_up x.votes (mkK sE x.log k)
 have v3 := mkK_mono sI_up x.next (mkK sI x.votes (mkK sE x.log k))
 have v4 := mkK_mono sI_up x.match_ (mkK sI x.next (mkK sI x.votes (mkK sE x.log k)))
 refine D ?_
 refine kR (s_laws_heldEntryS x.log k hk hx.1 u1) ?_
 refine D ?_
 refine cC (fun c0 => ?_) (fun c0 => ?_)
 · skip
   omega
 · skip
   refine D ?_
   refine kR (s_laws_heldInt64S x.votes _ (by omega) hx.2.1 u2) ?_
   refine D ?_
   refine cC (fun c1 => ?_) (fun c1 => ?_)
   · skip
     omega
   · skip
     refine D ?_
     refine kR (s_laws_heldInt64S x.next _ (by omega) hx.2.2.1 u3) ?_
     refine D ?_
     refine cC (fun c2 => ?_) (fun c2 => ?_)
     · skip
       omega
     · skip
       refine D ?_
       refine kR (s_laws_heldInt64S x.match_ _ (by omega) hx.2.2.2 hb) ?_
       refine D ?_
       refine cC (fun c3 => ?_) (fun c3 => ?_)
       · skip
         omega
       · skip
         refine D ?_
         refine E ?_
         first
         | exact trivial
         | simp only [go_sem, sN1]
end
end Go.H
end
section
set_option maxRecDepth 100000
set_option maxHeartbeats 4000000
set_option linter.unusedVariables false
set_option linter.unusedSimpArgs false
namespace Go.H
open Go Go.Proofs.Tryz
variable [Inv prog]
section
attribute [local go_sem] mkL_length mM mE mC
theorem s_laws_heldMailS (xs : List Mail) (k : Int) (hk : 0 ≤ k) (hl : xs.length ≤ 2097152) (hb : mkK sM xs k ≤ 9000000000000000000) (hm : ∀ y ∈ xs, limM 2097152 y) : SemX prog 97 [aT (.sl false 9 ((mkL mM sM xs k).map (eMail false))), aI k] [] [rI (mkK sM xs k)] [] := by
 refine goF [] [] [] func97 ?_
 refine D ?_
 refine L (α := Nat) (fun x => [(1, .int .i64 (mkK sM (xs.take x) k)), (5, .int .i64 x)]) (fun x => []) (fun x => xs.length - x) (fun x => x ≤ xs.length) 0 [] (fun x hI => ?_) (by simp only [go_sem] <;> and_intros <;> first | with_reducible exact rfl | (first | omega | (simp [mkK]; done)))
 refine D ?_
 refine cC (fun c0 => ?_) (fun c0 => ?_)
 · skip
   have hat := mkK_at sM_up zMail (xs := xs) (i := x) (by omega) hb
   simp only [sM] at hat
   have hg := mkL_getD mM sM zMail k (show x < xs.length by omega)
   have hup := Int.le_trans (mkK_mono sE_up _ _) hat.2
   have v1 := mkK_mono sE_up (xs.getD x zMail).entries (mkK sM (xs.take x) k + 1 + 1 + 1 + 1 + 1 + 1 + 1 + 1)
   have hA := hg
   refine D ?_
   refine cF ?_
   refine D ?_
   refine cF ?_
   refine D ?_
   refine cF ?_
   refine D ?_
   refine cF ?_
   refine D ?_
   refine cF ?_
   refine D ?_
   refine cF ?_
   refine D ?_
   refine cF ?_
   refine D ?_
   refine cF ?_
   refine D ?_
   refine kR (s_laws_heldEntryS (xs.getD x zMail).entries _ (by omega) (hm _ (getD_mem zMail (by omega))) hat.2) ?_
   refine D ?_
   refine cC (fun c9 => ?_) (fun c9 => ?_)
   · skip
     omega
   · skip
     refine D ?_
     refine lp_next (x+1) [] ?_ ?_ ?_
     · simp only [go_sem, hA] <;> and_intros <;> first | with_reducible exact rfl | (first | omega | (refine int_eq ?_; rw [mkK_succ sM zMail (by omega)]; rfl))
     · omega
     · omega
 · skip
   obtain rfl : x = xs.length := by omega
   refine D ?_
   refine E ?_
   first
   | exact trivial
   | simp [mkL_length]
end
end Go.H
end
section
set_option maxRecDepth 100000
set_option maxHeartbeats 4000000
set_option linter.unusedVariables false
set_option linter.unusedSimpArgs false
namespace Go.H
open Go Go.Proofs.Tryz
variable [Inv prog]
section
attribute [local go_sem] mN1
theorem s_laws_heldNodeResult (x : Node) (ms : List Mail) (c : Int) (hx : limN 2097152 x) (hl : ms.length ≤ 2097152) (hm : ∀ y ∈ ms, limM 2097152 y) (k : Int) (hk : 0 ≤ k) (hb : mkK sM ms (sN1 x k) ≤ 9000000000000000000) : SemX prog 36 [aS (eNodeResult false ⟨c, mN1 x k, mkL mM sM ms (sN1 x k)⟩), aI k] [] [rI (mkK sM ms (sN1 x k))] [] := by
 refine goF [] [] [] func36 ?_
 have u1 := Int.le_trans (mkK_mono sM_up _ _) hb
 have v1 := sN1_up x k
 have v2 := mkK_mono sM_up ms (sN1 x k)
 refine D ?_
 refine kR (s_laws_heldNode x hx k hk u1) ?_
 refine D ?_
 refine cC (fun c0 => ?_) (fun c0 => ?_)
 · skip
   omega
 · skip
   refine D ?_
   refine kR (s_laws_heldMailS ms _ (by omega) hl hb hm) ?_
   refine D ?_
   refine cC (fun c1 => ?_) (fun c1 => ?_)
   · skip
     omega
   · skip
     refine D ?_
     exact E trivial
end
end Go.H
end
section
set_option maxRecDepth 100000
set_option maxHeartbeats 4000000
set_option linter.unusedVariables false
set_option linter.unusedSimpArgs false
namespace Go.H
open Go Go.Proofs.Tryz
variable [Inv prog]
section
attribute [local go_sem] mN1 mkL_length mkL_take
theorem s_laws_FnExactHearMail (x : Node) (hq : x.log.length ≤ 9223372036854775807 ∧ x.votes.length ≤ 9223372036854775807 ∧ x.next.length ≤ 9223372036854775807 ∧ x.match_.length ≤ 9223372036854775807) (m : Mail) (hqm : m.entries.length ≤ 9223372036854775807) : SemX prog 6 [aS (eNode false x), aS (eMail false m)] [] [rB true] [] := by
 refine goF [] [(8, 0, [12288], []), (8, 1, [], [106500, 106503, 106504, 106505]), (8, 2, [16384], []), (8, 3, [], [114696]), (8, 4, [106500, 106503, 106504, 106505, 114696], [118789, 118792, 118793, 118794, 118795]), (8, 5, [], [28672]), (8, 6, [28672], [28672]), (14, 0, [32768], []), (14, 1, [12288], []), (14, 2, [], [176132, 176135, 176136, 176137]), (14, 3, [126980, 126983, 126984, 126985, 176132, 176135, 176136, 176137], []), (16, 0, [36864], []), (16, 1, [16384], []), (16, 2, [], [196616]), (16, 3, [135176, 196616], []), (31, 0, [12288], []), (31, 1, [], [315396, 315399, 315400, 315401]), (31, 2, [16384], []), (31, 3, [], [323592]), (31, 4, [315396, 315399, 315400, 315401, 323592], [327685, 327688, 327689, 327690, 327691]), (31, 5, [], [57344]), (31, 6, [57344], [57344])] [] func6 ?_
 refine D ?_
 refine kR (s_laws_szNode x 1048576 (by omega) (by omega) hq) ?_
 refine D ?_
 refine cC (fun c0 => ?_) (fun c0 => ?_)
 · skip
   refine D ?_
   exact E trivial
 · skip
   have hz : 0 ≤ szNode x 1048576 := by simp at c0; omega
   obtain ⟨hx0, hz1⟩ := szNode_lim hz (by omega)
   refine D ?_
   refine kR (s_laws_szMail m (szNode x 1048576) (by omega) (by omega) hqm) ?_
   refine D ?_
   refine cC (fun c1 => ?_) (fun c1 => ?_)
   · skip
     refine D ?_
     exact E trivial
   · skip
     have hz2 : 0 ≤ szMail m (szNode x 1048576) := by simp at c1; omega
     obtain ⟨hm0, _⟩ := szMail_lim hz2 hz1
     have hx : limN 2097152 x := ⟨by have := hx0.1; omega, by have := hx0.2.1; omega, by have := hx0.2.2.1; omega, by have := hx0.2.2.2; omega⟩
     have hme : m.entries.length ≤ 2097152 := Nat.le_trans hm0 (by omega)
     have hr : limR 2097152 (hearMail x m) := hear_lim (by omega) hx (by omega)
     have hbr := law_r_bd hr
     obtain ⟨hb1, hb2⟩ := law_m_bd hx hme
     obtain ⟨hu1, hu2, hu3⟩ := law_up x m (hearMail x m)
     refine D ?_
     refine kD (s_laws_toNode x hx) ?_
     refine D ?_
     refine kD (s_laws_toMail m hme) ?_
     refine D ?_
     refine kD (s_spec_HearMail x hx m hme) ?_
     refine D ?_
     refine kR (s_laws_toNode x hx) ?_
     refine D ?_
     refine kR (s_laws_toMail m hme) ?_
     refine D ?_
     refine kR (s_impl_HearMail x hx m hme) ?_
     refine D ?_
     refine kR (s_laws_eqNodeResult (hearMail x m) hr) ?_
     refine D ?_
     refine cF ?_
     refine D ?_
     refine kD (s_laws_toNode x hx) ?_
     refine D ?_
     refine kD (s_laws_eqNode x hx) ?_
     refine D ?_
     refine cF ?_
     refine D ?_
     refine kD (s_laws_toMail m hme) ?_
     refine D ?_
     refine kD (s_laws_eqMail m hme) ?_
     refine D ?_
     refine cF ?_
     refine D ?_
     refine kRk [126980, 126983, 126984, 126985] [] [] (s_laws_markNode x hx 1 (by omega) hb1) ?_
     refine D ?_
     refine kRk [135176] [] [] (s_laws_markMail m hme (sN1 x 1) (by omega) hb2) ?_
     refine D ?_
     refine kRg (s_laws_eqNodeResult (hearMail x m) hr) ?_
     refine D ?_
     refine cC (fun c5 => ?_) (fun c5 => ?_)
     · skip
       exfalso
       revert c5
       simp [-List.getD_eq_getElem?_getD]
       omega
     · skip
       refine D ?_
       refine kRk [147461, 147464, 147465, 147466, 147467] [] [] (s_laws_markNodeResult (hearMail x m).node (hearMail x m).send (hearMail x m).code hr.1 hr.2.1 hr.2.2 1 (by omega) hbr) ?_
       refine D ?_
       refine kR (s_laws_heldNodeResult (hearMail x m).node (hearMail x m).send (hearMail x m).code hr.1 hr.2.1 hr.2.2 1 (by omega) hbr) ?_
       refine D ?_
       refine cC (fun c6 => ?_) (fun c6 => ?_)
       · skip
         exfalso
         revert c6
         simp [-List.getD_eq_getElem?_getD]
         omega
       · skip
         refine D ?_
         refine cF ?_
         refine D ?_
         refine kD (s_laws_toNode x hx) ?_
         refine D ?_
         refine kD (s_laws_toMail m hme) ?_
         refine D ?_
         refine kD (s_impl_HearMail x hx m hme) ?_
         refine D ?_
         refine kR (s_laws_eqNodeResult (hearMail x m) hr) ?_
         refine D ?_
         refine cF ?_
         refine D ?_
         refine kR (s_laws_heldNodeResult (hearMail x m).node (hearMail x m).send (hearMail x m).code hr.1 hr.2.1 hr.2.2 1 (by omega) hbr) ?_
         refine D ?_
         refine cC (fun c9 => ?_) (fun c9 => ?_)
         · skip
           exfalso
           revert c9
           simp [-List.getD_eq_getElem?_getD]
           omega
         · skip
           refine D ?_
           refine cF ?_
           refine D ?_
           exact E trivial
end
end Go.H
end
