/- What the functions that several laws reach compute, each by its code, against pure functions. Conditions: those that each theorem states. -/
import Derived.Test.YtpkdcjbkfkhgdaaQC1
section
set_option maxRecDepth 100000
set_option maxHeartbeats 4000000
set_option cbv.maxSteps 4000000
set_option linter.unusedVariables false
set_option linter.unusedSimpArgs false
namespace Go.H
open Go Go.Proofs.Try
variable [Inv prog]
theorem s_laws_lwAt (code : List Int) (hb : okB code) (i n : Int) (hi : 0 ≤ i) (hi2 : i ≤ 1000) : SemX prog 9 [aT (.sl false 1 (code.map eI_u8)), aI i, aI n] [] [rI (lwV code i n)] [] := by
 refine goF [(34, ⟨some 1, none, none, none⟩), (52, ⟨some 1, none, none, none⟩), (58, ⟨some 1, none, none, none⟩), (60, ⟨some 1, none, none, none⟩), (62, ⟨some 1, none, none, none⟩), (70, ⟨some 1, none, none, none⟩), (76, ⟨some 1, none, none, none⟩), (86, ⟨some 1, none, none, none⟩), (88, ⟨some 1, none, none, none⟩)] [] [] func9 ?_
 have hl := hb.1
 have ht1 : 0 ≤ i.tmod code.length := Int.tmod_nonneg _ hi
 have ht2 : 0 ≤ (i + 1).tmod code.length := Int.tmod_nonneg _ (by omega)
 have h1 := okB_at hb (i.tmod code.length).toNat
 have h2 := okB_at hb ((i + 1).tmod code.length).toNat
 have h3 : 0 ≤ i.tdiv code.length := Int.tdiv_nonneg hi (Int.natCast_nonneg _)
 have h4 := Int.tdiv_le_self code.length hi
 refine D ?_
 refine cC (fun c0 => ?_) (fun c0 => ?_)
 · skip
   refine D ?_
   refine E ?_
   rw [show lwV code i n = 0 from if_pos (by omega)]
 · skip
   refine D ?_
   refine cC (fun c1 => ?_) (fun c1 => ?_)
   · skip
     refine D ?_
     refine E ?_
     have he : lwV code i n = (i * 7).tmod n := by unfold lwV; rw [if_neg (by omega), if_pos (by omega)]
     rw [he]
   · skip
     have hn0 : code.length ≠ 0 := by omega
     have ht3 := Int.tmod_lt_of_pos i (show (0 : Int) < code.length by omega)
     have ht4 := Int.tmod_lt_of_pos (i + 1) (show (0 : Int) < code.length by omega)
     refine D ?_
     refine cC (fun c2 => ?_) (fun c2 => ?_)
     · skip
       refine D ?_
       refine E ?_
       unfold lwV
       rw [if_neg (by omega), if_neg hn0, if_pos (by omega)]
     · skip
       refine D ?_
       refine E ?_
       unfold lwV
       rw [if_neg (by omega), if_neg hn0, if_neg (by omega)]
theorem s_impl_size_Node (rows : List (List T)) : SemX prog 40 [.one (.t (.sl false 10 rows))] [] [.one (.int .i64 rows.length)] [] := by
 refine goF [] [] [] func40 ?_
 refine D ?_
 exact E trivial
theorem s_impl_size_Entry (rows : List (List T)) : SemX prog 50 [.one (.t (.sl false 9 rows))] [] [.one (.int .i64 rows.length)] [] := by
 refine goF [] [] [] func50 ?_
 refine D ?_
 exact E trivial
theorem s_impl_last (xs : List Entry) (hl : xs.length ≤ 9223372036854775807) : SemX prog 51 [aT (.sl false 9 (xs.map eEntry))] [] [.agg (eEntry (lastE xs))] [] := by
 refine goF [] [] [] func51 ?_
 refine D ?_
 refine cC (fun c0 => ?_) (fun c0 => ?_)
 · skip
   refine D ?_
   refine E ?_
   have he : lastE xs = zEntry := by simp only [lastE]; rw [if_pos (by omega)]
   simp [he, zEntry, zCmd]
 · skip
   refine D ?_
   refine E ?_
   have he : lastE xs = xs.getD (xs.length - 1) zEntry := by simp only [lastE]; rw [if_neg (by omega)]
   simp [he]
theorem s_impl_Node_isId (x : Node) (i : Int) : SemX prog 68 [aT (.ptr (eNode false x)), aI i] [] [rB (isId x i)] [] := by
 refine goF [] [] [] func68 ?_
 refine D ?_
 refine kR (s_impl_in i 0 (IntKind.wrap .i64 (x.peers - 1))) ?_
 refine D ?_
 refine E ?_
 first
 | exact trivial
 | simp only [go_sem, isId]
theorem s_impl_needs (k : Int) : SemX prog 85 [aI k] [] [rB (nd1 k), rB (nd2 k), rB (nd3 k), rB (nd4 k)] [] := by
 refine goF [] [] [] func85 ?_
 refine D ?_
 refine kR (s_impl_in k 5 8) ?_
 refine D ?_
 refine kR (s_impl_in k 5 6) ?_
 refine D ?_
 refine E ?_
 first
 | exact trivial
 | simp only [go_sem, nd1, nd2, nd3, nd4, rB]; done
 | try simp only [go_sem, nd1, nd2, nd3, nd4, rB]
   simp
theorem s_impl_isName (n : Int) : SemX prog 86 [aI n] [] [rB (inR n 1 999)] [] := by
 refine goF [] [] [] func86 ?_
 refine D ?_
 refine kR (s_impl_in n 1 999) ?_
 refine D ?_
 exact E trivial
theorem s_impl_isAddress (n : Int) : SemX prog 87 [aI n] [] [rB (inR n 0 4294967295)] [] := by
 refine goF [] [] [] func87 ?_
 refine D ?_
 refine kR (s_impl_in n 0 4294967295) ?_
 refine D ?_
 exact E trivial
theorem s_impl_isPort (n : Int) : SemX prog 96 [aI n] [] [rB (inR n 0 65535)] [] := by
 refine goF [] [] [] func96 ?_
 refine D ?_
 refine kR (s_impl_in n 0 65535) ?_
 refine D ?_
 exact E trivial
theorem s_impl_isNumber (x : Cmd) : SemX prog 88 [aS (eCmd x)] [] [rB (isNum x)] [] := by
 refine goF [] [] [] func88 ?_
 refine D ?_
 refine cC (fun c0 => ?_) (fun c0 => ?_)
 · skip
   refine D ?_
   refine cC (fun c1 => ?_) (fun c1 => ?_)
   · skip
     refine D ?_
     refine kR (s_impl_in _ _ _) ?_
     refine D ?_
     refine E ?_
     first
     | exact trivial
     | simp only [go_sem, isNum]; done
     | try simp only [go_sem, isNum]
       first | (exfalso; omega) | (simp [*]; done)
   · skip
     refine D ?_
     refine cC (fun c2 => ?_) (fun c2 => ?_)
     · skip
       refine D ?_
       refine kR (s_impl_in _ _ _) ?_
       refine D ?_
       refine E ?_
       first
       | exact trivial
       | simp only [go_sem, isNum]; done
       | try simp only [go_sem, isNum]
         first | (exfalso; omega) | (simp [*]; done)
     · skip
       refine D ?_
       refine cC (fun c3 => ?_) (fun c3 => ?_)
       · skip
         refine D ?_
         refine kR (s_impl_in _ _ _) ?_
         refine D ?_
         refine E ?_
         first
         | exact trivial
         | simp only [go_sem, isNum]; done
         | try simp only [go_sem, isNum]
           first | (exfalso; omega) | (simp [*]; done)
       · skip
         refine D ?_
         refine kR (s_impl_isPort _) ?_
         refine D ?_
         refine E ?_
         first
         | exact trivial
         | simp only [go_sem, isNum]; done
         | try simp only [go_sem, isNum]
           first | (exfalso; omega) | (simp [*]; done)
 · skip
   refine D ?_
   refine cC (fun c1 => ?_) (fun c1 => ?_)
   · skip
     refine D ?_
     refine kR (s_impl_in _ _ _) ?_
     refine D ?_
     refine E ?_
     first
     | exact trivial
     | simp only [go_sem, isNum]; done
     | try simp only [go_sem, isNum]
       first | (exfalso; omega) | (simp [*]; done)
   · skip
     refine D ?_
     refine cC (fun c2 => ?_) (fun c2 => ?_)
     · skip
       refine D ?_
       refine kR (s_impl_in _ _ _) ?_
       refine D ?_
       refine E ?_
       first
       | exact trivial
       | simp only [go_sem, isNum]; done
       | try simp only [go_sem, isNum]
         first | (exfalso; omega) | (simp [*]; done)
     · skip
       refine D ?_
       refine cC (fun c3 => ?_) (fun c3 => ?_)
       · skip
         refine D ?_
         refine kR (s_impl_in _ _ _) ?_
         refine D ?_
         refine E ?_
         first
         | exact trivial
         | simp only [go_sem, isNum]; done
         | try simp only [go_sem, isNum]
           first | (exfalso; omega) | (simp [*]; done)
       · skip
         refine D ?_
         refine kR (s_impl_isPort _) ?_
         refine D ?_
         refine E ?_
         first
         | exact trivial
         | simp only [go_sem, isNum]; done
         | try simp only [go_sem, isNum]
           first | (exfalso; omega) | (simp [*]; done)
theorem s_impl_isProto (n : Int) : SemX prog 89 [aI n] [] [rB (isPro n)] [] := by
 refine goF [] [] [] func89 ?_
 refine D ?_
 refine E ?_
 first
 | exact trivial
 | simp only [go_sem, isPro]; done
 | try simp only [go_sem, isPro]
   cases decide (n = 6) <;> rfl
section
attribute [local go_sem] exp_eq
theorem s_impl_CmdFault (x : Cmd) : SemX prog 74 [aS (eCmd x)] [] [rI (cmdFault x)] [] := by
 refine goF [] [] [] func74 ?_
 refine D ?_
 refine kR (s_impl_in _ _ _) ?_
 refine D ?_
 refine cC (fun c0 => ?_) (fun c0 => ?_)
 · skip
   refine D ?_
   refine E ?_
   first
   | exact trivial
   | simp only [go_sem, cmdFault]; done
   | try simp only [go_sem, cmdFault]
     grind
 · skip
   refine D ?_
   refine kR (s_impl_needs _) ?_
   refine D ?_
   refine kR (s_impl_in _ _ _) ?_
   refine D ?_
   refine kRg (s_impl_isName _) ?_
   refine D ?_
   refine kRg (s_impl_isAddress _) ?_
   refine D ?_
   refine kRg (s_impl_isNumber _) ?_
   refine D ?_
   refine kRg (s_impl_isProto _) ?_
   refine D ?_
   refine cC (fun c1 => ?_) (fun c1 => ?_)
   · skip
     refine D ?_
     refine E ?_
     first
     | exact trivial
     | simp only [go_sem, cmdFault]; done
     | try simp only [go_sem, cmdFault]
       grind
   · skip
     refine D ?_
     refine cC (fun c2 => ?_) (fun c2 => ?_)
     · skip
       refine D ?_
       refine E ?_
       first
       | exact trivial
       | simp only [go_sem, cmdFault]; done
       | try simp only [go_sem, cmdFault]
         grind
     · skip
       refine D ?_
       refine E ?_
       first
       | exact trivial
       | simp only [go_sem, cmdFault]; done
       | try simp only [go_sem, cmdFault]
         grind
end
theorem s_impl_EntryFault (x : Entry) : SemX prog 44 [aS (eEntry x)] [] [rI (entryFault x)] [] := by
 refine goF [] [] [] func44 ?_
 refine D ?_
 refine kR (s_impl_in _ _ _) ?_
 refine D ?_
 refine kRg (s_impl_in _ _ _) ?_
 refine D ?_
 refine kRg (s_impl_in _ _ _) ?_
 refine D ?_
 refine cC (fun c0 => ?_) (fun c0 => ?_)
 · skip
   refine D ?_
   refine E ?_
   first
   | exact trivial
   | simp only [go_sem, entryFault]; done
   | try simp only [go_sem, entryFault]
     simp only [entryFault, cmdZero]
     grind
 · skip
   refine D ?_
   refine cC (fun c1 => ?_) (fun c1 => ?_)
   · skip
     refine D ?_
     refine E ?_
     first
     | exact trivial
     | simp only [go_sem, entryFault]; done
     | try simp only [go_sem, entryFault]
       simp only [entryFault, cmdZero]
       grind
   · skip
     refine D ?_
     refine cC (fun c2 => ?_) (fun c2 => ?_)
     · skip
       refine D ?_
       refine kR (s_impl_CmdFault _) ?_
       refine D ?_
       refine E ?_
       first
       | exact trivial
       | simp only [go_sem, entryFault]; done
       | try simp only [go_sem, entryFault]
         simp only [entryFault, cmdZero]
         grind
     · skip
       refine D ?_
       refine cC (fun c3 => ?_) (fun c3 => ?_)
       · skip
         refine D ?_
         refine E ?_
         first
         | exact trivial
         | simp only [go_sem, entryFault]; done
         | try simp only [go_sem, entryFault]
           simp only [entryFault, cmdZero]
           grind
       · skip
         refine D ?_
         refine E ?_
         first
         | exact trivial
         | simp only [go_sem, entryFault]; done
         | try simp only [go_sem, entryFault]
           simp only [entryFault, cmdZero]
           grind
theorem s_impl_LogFault (xs : List Entry) (hl : xs.length ≤ 9223372036854775807) : SemX prog 69 [aT (.sl false 9 (xs.map eEntry))] [] [rI (logFault xs)] [] := by
 refine goF [] [(9, 4, [20480], [])] [] func69 ?_
 refine D ?_
 refine cC (fun c0 => ?_) (fun c0 => ?_)
 · skip
   refine D ?_
   refine E ?_
   rw [logFault, if_pos (by omega)]
 · skip
   refine D ?_
   refine L (α := Nat) (fun x => [(11, .int .i64 x)]) (fun x => []) (fun x => xs.length - x) (fun x => x ≤ xs.length ∧ logFault xs = scan (logBad xs) xs.length x) 0 [] (fun x hL => ?_) (hi := by exact ⟨Nat.zero_le _, by simp only [logFault]; rw [if_neg (by omega)]⟩)
   obtain ⟨hI, he⟩ := hL
   refine D ?_
   refine cC (fun c1 => ?_) (fun c1 => ?_)
   · skip
     refine D ?_
     refine kR (s_impl_EntryFault _) ?_
     refine D ?_
     refine cC (fun c2 => ?_) (fun c2 => ?_)
     · skip
       refine D ?_
       refine E ?_
       first
       | exact trivial
       | rw [he, scan_lt (by omega)]
         simp only [logBad]
         grind
     · skip
       refine D ?_
       refine cC (fun c3 => ?_) (fun c3 => ?_)
       · skip
         refine D ?_
         refine E ?_
         first
         | exact trivial
         | rw [he, scan_lt (by omega)]
           simp only [logBad]
           grind
       · skip
         refine D ?_
         refine N (x+1) [] (hi := ?_) (hm := ?_)
         · refine ⟨by omega, ?_⟩
           rw [he, scan_lt (by omega)]
           simp only [logBad]
           grind
         · omega
   · skip
     obtain rfl : x = xs.length := by omega
     refine D ?_
     refine E ?_
     rw [he, scan_ge (by omega)]
theorem s_impl_size_int64 (rows : List (List T)) : SemX prog 70 [.one (.t (.sl false 1 rows))] [] [.one (.int .i64 rows.length)] [] := by
 refine goF [] [] [] func70 ?_
 refine D ?_
 exact E trivial
theorem s_slices_IndexFunc_int64 (xs : List Int) (fn : Nat) (m : Int) (p : Int → Bool) (hq : callB prog fn = true) (hf : ∀ v, SemX prog fn [aI v, aT (.ptr [.int .i64 m])] [] [rB (p v)] []) (hl : xs.length ≤ 2097152) : SemX prog 84 [aT (.sl false 1 (xs.map eI_i64)), .one (.fn fn [.t (.ptr [.int .i64 m])])] [] [rI (idxP p xs)] [] := by
 refine goF [] [] [] func84 ?_
 refine D ?_
 refine L (α := Nat) (fun x => [(8, .int .i64 x)]) (fun x => []) (fun x => xs.length - x) (fun x => x ≤ xs.length ∧ ∀ j, j < x → p (xs.getD j zI_i64) = false) 0 [] (fun x hL => ?_) (hi := by exact ⟨Nat.zero_le _, fun j hj => absurd hj (by omega)⟩)
 obtain ⟨hI, hj⟩ := hL
 refine D ?_
 refine cC (fun c0 => ?_) (fun c0 => ?_)
 · skip
   refine D ?_
   refine kR (hf (xs.getD x zI_i64)) ?_ hq
   refine D ?_
   refine cC (fun c1 => ?_) (fun c1 => ?_)
   · skip
     refine D ?_
     refine E ?_
     rw [idxP_some (by omega) hj (by assumption)]
   · skip
     refine D ?_
     refine N (x+1) [] (hi := ?_) (hm := ?_)
     · refine ⟨by omega, fun j hj2 => ?_⟩
       rcases Nat.lt_or_ge j x with h | h
       · exact hj j h
       · rw [show j = x by omega]; assumption
     · omega
 · skip
   refine D ?_
   refine E ?_
   rw [idxP_none (fun i hi => hj i (by omega))]
section
attribute [local go_sem] idxP_ge
theorem s_slices_ContainsFunc_int64 (xs : List Int) (fn : Nat) (m : Int) (p : Int → Bool) (hq : callB prog fn = true) (hf : ∀ v, SemX prog fn [aI v, aT (.ptr [.int .i64 m])] [] [rB (p v)] []) (hl : xs.length ≤ 2097152) : SemX prog 71 [aT (.sl false 1 (xs.map eI_i64)), .one (.fn fn [.t (.ptr [.int .i64 m])])] [] [rB (decide (∃ i, i < xs.length ∧ p (xs.getD i zI_i64) = true))] [] := by
 refine goF [] [] [] func71 ?_
 refine D ?_
 refine kR (s_slices_IndexFunc_int64 xs fn m p hq hf hl) ?_
 refine D ?_
 exact E trivial
end
theorem s_impl_NodeFault_1 (v m : Int) (h0 : 0 ≤ m) (h1 : m ≤ 2097152) : SemX prog 72 [aI v, aT (.ptr [.int .i64 m])] [] [rB (!inR v 1 (m + 1))] [] := by
 refine goF [(14, ⟨some 1, none, none, none⟩)] [] [] func72 ?_
 refine D ?_
 refine kR (s_impl_in v 1 (m + 1)) ?_
 refine D ?_
 exact E trivial
theorem s_impl_NodeFault_2 (v m : Int) : SemX prog 73 [aI v, aT (.ptr [.int .i64 m])] [] [rB (!inR v 0 m)] [] := by
 refine goF [] [] [] func73 ?_
 refine D ?_
 refine kR (s_impl_in v 0 m) ?_
 refine D ?_
 exact E trivial
theorem s_impl_NodeFault (x : Node) (hx : limN 2097152 x) : SemX prog 41 [aS (eNode false x)] [] [rI (nodeFault x)] [] := by
 refine goF [] [(7, 1, [8192], []), (7, 5, [8192], [])] [] func41 ?_
 obtain ⟨hx1, hx2, hx3, hx4⟩ := id hx
 refine D ?_
 refine kR (s_impl_in _ _ _) ?_
 refine D ?_
 refine kRg (s_impl_Node_isId x x.id) ?_
 refine D ?_
 refine kRg (s_impl_in _ _ _) ?_
 refine D ?_
 refine kRg (s_impl_Node_isId x x.voted) ?_
 refine D ?_
 refine kRg (s_impl_in _ _ _) ?_
 refine D ?_
 refine cC (fun c0 => ?_) (fun c0 => ?_)
 · skip
   have hr : nodeRange x = false := by have hv := voted_eq x; unfold nodeRange; grind
   refine D ?_
   refine E ?_
   first
   | exact trivial
   | unfold nodeFault rangeOk listsOk rises idsOk due
     grind
 · skip
   have hr : nodeRange x = true := by have hv := voted_eq x; unfold nodeRange; grind
   refine D ?_
   refine kR (s_impl_LogFault x.log (by omega)) ?_
   refine D ?_
   refine cC (fun c1 => ?_) (fun c1 => ?_)
   · skip
     refine D ?_
     refine E ?_
     first
     | exact trivial
     | unfold nodeFault rangeOk listsOk rises idsOk due
       grind
   · skip
     refine D ?_
     refine kR (s_impl_size_Entry (x.log.map eEntry)) ?_
     refine D ?_
     refine kD (s_impl_last x.log (by omega)) ?_
     refine D ?_
     refine cC (fun c2 => ?_) (fun c2 => ?_)
     · skip
       refine D ?_
       refine E ?_
       first
       | exact trivial
       | unfold nodeFault rangeOk listsOk rises idsOk due
         grind
     · skip
       refine D ?_
       refine kR (s_impl_in _ _ _) ?_
       refine D ?_
       refine cC (fun c3 => ?_) (fun c3 => ?_)
       · skip
         refine D ?_
         refine E ?_
         first
         | exact trivial
         | unfold nodeFault rangeOk listsOk rises idsOk due
           grind
       · skip
         refine D ?_
         refine cC (fun c4 => ?_) (fun c4 => ?_)
         · skip
           refine D ?_
           refine E ?_
           first
           | exact trivial
           | unfold nodeFault rangeOk listsOk rises idsOk due
             grind
         · skip
           refine D ?_
           refine L (α := Nat) (fun i => [(77, .int .i64 i)]) (fun i => []) (fun i => x.votes.length - i) (fun i => i ≤ x.votes.length ∧ ∀ j, j < i → isId x (x.votes.getD j zI_i64) = true ∧ (0 < j → x.votes.getD (j - 1) zI_i64 < x.votes.getD j zI_i64)) 0 [] (fun i hL => ?_) (hi := by exact ⟨Nat.zero_le _, fun j hj => absurd hj (by omega)⟩)
           obtain ⟨hI, hj⟩ := hL
           refine D ?_
           refine cC (fun c5 => ?_) (fun c5 => ?_)
           · skip
             refine D ?_
             refine kR (s_impl_Node_isId x (x.votes.getD i zI_i64)) ?_
             refine D ?_
             refine cC (fun c6 => ?_) (fun c6 => ?_)
             · skip
               refine D ?_
               refine E ?_
               first
               | exact trivial
               | unfold nodeFault rangeOk listsOk rises idsOk due
                 grind
             · skip
               refine D ?_
               refine N (i+1) [] (hi := ?_) (hm := ?_)
               · refine ⟨by omega, fun j hj2 => ?_⟩
                 rcases Nat.lt_or_ge j i with h | h
                 · exact hj j h
                 · rw [show j = i by omega]; grind
               · omega
           · skip
             obtain rfl : i = x.votes.length := by omega
             refine D ?_
             refine cC (fun c7 => ?_) (fun c7 => ?_)
             · skip
               refine D ?_
               refine kR (s_impl_size_int64 (x.next.map eI_i64)) ?_
               refine D ?_
               refine kRg (s_impl_size_int64 (x.match_.map eI_i64)) ?_
               refine D ?_
               refine cC (fun c8 => ?_) (fun c8 => ?_)
               · skip
                 refine D ?_
                 refine E ?_
                 first
                 | exact trivial
                 | unfold nodeFault rangeOk listsOk rises idsOk due
                   grind
               · skip
                 refine D ?_
                 refine kR (s_slices_ContainsFunc_int64 x.next 72 x.log.length (fun k => !inR k 1 (x.log.length + 1)) (by kernel_rfl) (fun v => s_impl_NodeFault_1 v _ (by omega) (by omega)) hx3) ?_
                 refine D ?_
                 refine cC (fun c9 => ?_) (fun c9 => ?_)
                 · skip
                   refine D ?_
                   refine E ?_
                   first
                   | exact trivial
                   | unfold nodeFault rangeOk listsOk rises idsOk due
                     grind
                 · skip
                   refine D ?_
                   refine kR (s_slices_ContainsFunc_int64 x.match_ 73 x.log.length (fun k => !inR k 0 x.log.length) (by kernel_rfl) (fun v => s_impl_NodeFault_2 v _) hx4) ?_
                   refine D ?_
                   refine cC (fun c10 => ?_) (fun c10 => ?_)
                   · skip
                     refine D ?_
                     refine E ?_
                     first
                     | exact trivial
                     | unfold nodeFault rangeOk listsOk rises idsOk due
                       grind
                   · skip
                     refine D ?_
                     refine cC (fun c11 => ?_) (fun c11 => ?_)
                     · skip
                       refine D ?_
                       refine E ?_
                       first
                       | exact trivial
                       | unfold nodeFault rangeOk listsOk rises idsOk due
                         grind
                     · skip
                       refine D ?_
                       refine E ?_
                       first
                       | exact trivial
                       | unfold nodeFault rangeOk listsOk rises idsOk due
                         grind
             · skip
               refine D ?_
               refine kR (s_impl_size_int64 (x.next.map eI_i64)) ?_
               refine D ?_
               refine kRg (s_impl_size_int64 (x.match_.map eI_i64)) ?_
               refine D ?_
               refine cC (fun c8 => ?_) (fun c8 => ?_)
               · skip
                 refine D ?_
                 refine E ?_
                 first
                 | exact trivial
                 | unfold nodeFault rangeOk listsOk rises idsOk due
                   grind
               · skip
                 refine D ?_
                 refine kR (s_slices_ContainsFunc_int64 x.next 72 x.log.length (fun k => !inR k 1 (x.log.length + 1)) (by kernel_rfl) (fun v => s_impl_NodeFault_1 v _ (by omega) (by omega)) hx3) ?_
                 refine D ?_
                 refine cC (fun c9 => ?_) (fun c9 => ?_)
                 · skip
                   refine D ?_
                   refine E ?_
                   first
                   | exact trivial
                   | unfold nodeFault rangeOk listsOk rises idsOk due
                     grind
                 · skip
                   refine D ?_
                   refine kR (s_slices_ContainsFunc_int64 x.match_ 73 x.log.length (fun k => !inR k 0 x.log.length) (by kernel_rfl) (fun v => s_impl_NodeFault_2 v _) hx4) ?_
                   refine D ?_
                   refine cC (fun c10 => ?_) (fun c10 => ?_)
                   · skip
                     refine D ?_
                     refine E ?_
                     first
                     | exact trivial
                     | unfold nodeFault rangeOk listsOk rises idsOk due
                       grind
                   · skip
                     refine D ?_
                     refine cC (fun c11 => ?_) (fun c11 => ?_)
                     · skip
                       refine D ?_
                       refine E ?_
                       first
                       | exact trivial
                       | unfold nodeFault rangeOk listsOk rises idsOk due
                         grind
                     · skip
                       refine D ?_
                       refine E ?_
                       first
                       | exact trivial
                       | unfold nodeFault rangeOk listsOk rises idsOk due
                         grind
theorem s_impl_Cluster_isPlace (x : Cluster) (n : Int) (hn : x.nodes.length ≤ 2097152) : SemX prog 42 [aT (.ptr (eCluster false x)), aI n] [] [rB (place x n)] [] := by
 refine goF [(24, ⟨some 1, none, none, none⟩)] [] [] func42 ?_
 refine D ?_
 refine kR (s_impl_size_Node (x.nodes.map (eNode false))) ?_
 refine D ?_
 refine kR (s_impl_in n 0 (x.nodes.length - 1)) ?_
 refine D ?_
 refine E ?_
 first
 | exact trivial
 | simp only [go_sem, place]
theorem s_impl_MailFault (x : Node) (m : Mail) (hx : limN 2097152 x) (hm : limM 2097152 m) : SemX prog 43 [aS (eNode false x), aS (eMail false m)] [] [rI (if nodeFault x ≠ 0 then nodeFault x else mailFault x m)] [] := by
 refine goF [] [(13, 1, [16384], []), (13, 6, [16384], []), (13, 10, [16384], []), (13, 14, [16384], []), (13, 19, [16384], []), (13, 24, [16384], [])] [] func43 ?_
 have hm1 : m.entries.length ≤ 2097152 := hm
 refine D ?_
 refine kR (s_impl_NodeFault x hx) ?_
 refine D ?_
 refine cC (fun c0 => ?_) (fun c0 => ?_)
 · skip
   refine D ?_
   refine E ?_
   first
   | exact trivial
   | unfold mailFault mailForm mailLog mailZeros mailRange
     grind
 · skip
   refine D ?_
   refine kR (s_impl_in _ _ _) ?_
   refine D ?_
   refine cC (fun c1 => ?_) (fun c1 => ?_)
   · skip
     refine D ?_
     refine E ?_
     first
     | exact trivial
     | unfold mailFault mailForm mailLog mailZeros mailRange
       grind
   · skip
     refine D ?_
     refine kR (s_impl_Node_isId x m.from_) ?_
     refine D ?_
     refine kRg (s_impl_in _ _ _) ?_
     refine D ?_
     refine cC (fun c2 => ?_) (fun c2 => ?_)
     · skip
       refine D ?_
       refine E ?_
       first
       | exact trivial
       | unfold mailFault mailForm mailLog mailZeros mailRange
         grind
     · skip
       refine D ?_
       refine kR (s_impl_in _ _ _) ?_
       refine D ?_
       refine kRg (s_impl_in _ _ _) ?_
       refine D ?_
       refine kRg (s_impl_in _ _ _) ?_
       refine D ?_
       refine cC (fun c3 => ?_) (fun c3 => ?_)
       · skip
         refine D ?_
         refine E ?_
         first
         | exact trivial
         | unfold mailFault mailForm mailLog mailZeros mailRange
           grind
       · skip
         refine D ?_
         refine kR (s_impl_LogFault m.entries (by omega)) ?_
         refine D ?_
         refine cC (fun c4 => ?_) (fun c4 => ?_)
         · skip
           refine D ?_
           refine E ?_
           first
           | exact trivial
           | unfold mailFault mailForm mailLog mailZeros mailRange
             grind
         · skip
           refine D ?_
           refine kDg (s_impl_last m.entries (by omega)) ?_
           refine D ?_
           refine cC (fun c5 => ?_) (fun c5 => ?_)
           · skip
             refine D ?_
             refine cC (fun c8 => ?_) (fun c8 => ?_)
             · skip
               refine D ?_
               refine E ?_
               first
               | exact trivial
               | unfold mailFault mailForm mailLog mailZeros mailRange
                 grind
             · skip
               refine D ?_
               refine E ?_
               first
               | exact trivial
               | unfold mailFault mailForm mailLog mailZeros mailRange
                 grind
           · skip
             refine D ?_
             refine cC (fun c6 => ?_) (fun c6 => ?_)
             · skip
               refine D ?_
               refine cC (fun c8 => ?_) (fun c8 => ?_)
               · skip
                 refine D ?_
                 refine E ?_
                 first
                 | exact trivial
                 | unfold mailFault mailForm mailLog mailZeros mailRange
                   grind
               · skip
                 refine D ?_
                 refine E ?_
                 first
                 | exact trivial
                 | unfold mailFault mailForm mailLog mailZeros mailRange
                   grind
             · skip
               refine D ?_
               refine cC (fun c7 => ?_) (fun c7 => ?_)
               · skip
                 refine D ?_
                 refine cC (fun c8 => ?_) (fun c8 => ?_)
                 · skip
                   refine D ?_
                   refine E ?_
                   first
                   | exact trivial
                   | unfold mailFault mailForm mailLog mailZeros mailRange
                     grind
                 · skip
                   refine D ?_
                   refine E ?_
                   first
                   | exact trivial
                   | unfold mailFault mailForm mailLog mailZeros mailRange
                     grind
               · skip
                 refine D ?_
                 refine cC (fun c8 => ?_) (fun c8 => ?_)
                 · skip
                   refine D ?_
                   refine E ?_
                   first
                   | exact trivial
                   | unfold mailFault mailForm mailLog mailZeros mailRange
                     grind
                 · skip
                   refine D ?_
                   refine E ?_
                   first
                   | exact trivial
                   | unfold mailFault mailForm mailLog mailZeros mailRange
                     grind
theorem s_impl_ClusterFault (x : Cluster) (hx : limC 2097152 x) : SemX prog 18 [aS (eCluster false x)] [] [rI (clusterFault x)] [] := by
 refine goF [] [(9, 1, [20480], []), (9, 6, [20480], []), (9, 8, [8192], []), (17, 1, [8192], []), (17, 3, [32768], []), (17, 6, [32768], [])] [] func18 ?_
 obtain ⟨⟨hn, hN⟩, ⟨hm, hM⟩, hw, hs⟩ := id hx
 refine D ?_
 refine kR (s_impl_size_Node (x.nodes.map (eNode false))) ?_
 refine D ?_
 refine kR (s_impl_in _ _ _) ?_
 refine D ?_
 refine cC (fun c0 => ?_) (fun c0 => ?_)
 · skip
   simp only [inR] at c0
   refine D ?_
   refine E ?_
   first
   | exact trivial
   | unfold clusterFault
     grind
 · skip
   simp only [inR] at c0
   refine D ?_
   refine L (α := Nat) (fun i => [(28, .int .i64 i)]) (fun i => []) (fun i => x.nodes.length - i) (fun i => i ≤ x.nodes.length ∧ scan (nodeAt x) x.nodes.length 0 = scan (nodeAt x) x.nodes.length i) 0 [] (fun i hL => ?_) (hi := by exact ⟨Nat.zero_le _, rfl⟩)
   obtain ⟨hI, he⟩ := hL
   refine D ?_
   refine cC (fun c1 => ?_) (fun c1 => ?_)
   · skip
     have hd := nodeAt_eq x i
     have hst := scan_lt (f := nodeAt x) (show i < x.nodes.length by omega)
     refine D ?_
     refine kR (s_impl_NodeFault (x.nodes.getD i zNode) ((all_getD zNode).2 hN i (by omega))) ?_
     refine D ?_
     refine cC (fun c2 => ?_) (fun c2 => ?_)
     · skip
       refine D ?_
       refine E ?_
       first
       | exact trivial
       | unfold clusterFault
         grind
     · skip
       refine D ?_
       refine kDg (s_impl_size_Node (x.nodes.map (eNode false))) ?_
       refine D ?_
       refine cC (fun c3 => ?_) (fun c3 => ?_)
       · skip
         refine D ?_
         refine E ?_
         first
         | exact trivial
         | unfold clusterFault
           grind
       · skip
         refine D ?_
         refine N (i+1) [] (hi := ?_) (hm := ?_)
         · refine ⟨by omega, ?_⟩
           rw [he, scan_lt (by omega), if_pos]
           rw [nodeAt_eq]
           grind
         · omega
   · skip
     have hs0 : scan (nodeAt x) x.nodes.length 0 = 0 := by rw [he, scan_ge (by omega)]
     refine D ?_
     refine L (α := Nat) (fun i => [(54, .int .i64 i)]) (fun i => []) (fun i => x.mails.length - i) (fun i => i ≤ x.mails.length ∧ scan (mailAt x) x.mails.length 0 = scan (mailAt x) x.mails.length i) 0 [] (fun i hL => ?_) (hi := by exact ⟨Nat.zero_le _, rfl⟩)
     obtain ⟨hI, he⟩ := hL
     refine D ?_
     refine cC (fun c4 => ?_) (fun c4 => ?_)
     · skip
       have hd := mailAt_eq x i
       have hst := scan_lt (f := mailAt x) (show i < x.mails.length by omega)
       refine D ?_
       refine kR (s_impl_Cluster_isPlace x _ hn) ?_
       refine D ?_
       refine cC (fun c5 => ?_) (fun c5 => ?_)
       · skip
         refine D ?_
         refine E ?_
         first
         | exact trivial
         | unfold clusterFault
           grind
       · skip
         have hp : place x (x.mails.getD i zMail).to_ = true := by grind
         have hp2 := place_iff.1 hp
         have hnf := (nodes_ok hs0 (i := (x.mails.getD i zMail).to_.toNat) (by omega)).1
         refine D ?_
         refine kD (s_impl_MailFault (x.nodes.getD (x.mails.getD i zMail).to_.toNat zNode) (x.mails.getD i zMail) ((all_getD zNode).2 hN (x.mails.getD i zMail).to_.toNat (by omega)) ((all_getD zMail).2 hM i (by omega))) ?_
         refine D ?_
         refine cC (fun c6 => ?_) (fun c6 => ?_)
         · skip
           refine D ?_
           refine E ?_
           first
           | exact trivial
           | unfold clusterFault
             grind
         · skip
           refine D ?_
           refine N (i+1) [] (hi := ?_) (hm := ?_)
           · refine ⟨by omega, ?_⟩
             rw [he, scan_lt (by omega), if_pos]
             rw [mailAt_eq]
             grind
           · omega
     · skip
       have hs1 : scan (mailAt x) x.mails.length 0 = 0 := by rw [he, scan_ge (by omega)]
       refine D ?_
       refine cC (fun c7 => ?_) (fun c7 => ?_)
       · skip
         refine D ?_
         refine E ?_
         first
         | exact trivial
         | unfold clusterFault
           grind
       · skip
         refine D ?_
         refine L (α := Nat) (fun i => [(87, .int .i64 i)]) (fun i => []) (fun i => x.wins.length - i) (fun i => i ≤ x.wins.length ∧ scan (winAt x) x.wins.length 0 = scan (winAt x) x.wins.length i) 0 [] (fun i hL => ?_) (hi := by exact ⟨Nat.zero_le _, rfl⟩)
         obtain ⟨hI, he⟩ := hL
         refine D ?_
         refine cC (fun c8 => ?_) (fun c8 => ?_)
         · skip
           have hd := winAt_eq x i
           have hst := scan_lt (f := winAt x) (show i < x.wins.length by omega)
           refine D ?_
           refine kR (s_impl_in _ _ _) ?_
           refine D ?_
           refine kRg (s_impl_Cluster_isPlace x _ hn) ?_
           refine D ?_
           refine cC (fun c9 => ?_) (fun c9 => ?_)
           · skip
             refine D ?_
             refine E ?_
             first
             | exact trivial
             | unfold clusterFault
               grind
           · skip
             refine D ?_
             refine N (i+1) [] (hi := ?_) (hm := ?_)
             · refine ⟨by omega, ?_⟩
               rw [he, scan_lt (by omega), if_pos]
               rw [winAt_eq]
               grind
             · omega
         · skip
           have hs2 : scan (winAt x) x.wins.length 0 = 0 := by rw [he, scan_ge (by omega)]
           refine D ?_
           refine L (α := Nat) (fun i => [(105, .int .i64 i)]) (fun i => []) (fun i => x.seals.length - i) (fun i => i ≤ x.seals.length ∧ scan (sealAt x) x.seals.length 0 = scan (sealAt x) x.seals.length i) 0 [] (fun i hL => ?_) (hi := by exact ⟨Nat.zero_le _, rfl⟩)
           obtain ⟨hI, he⟩ := hL
           refine D ?_
           refine cC (fun c10 => ?_) (fun c10 => ?_)
           · skip
             have hd := sealAt_eq x i
             have hst := scan_lt (f := sealAt x) (show i < x.seals.length by omega)
             refine D ?_
             refine kR (s_impl_in _ _ _) ?_
             refine D ?_
             refine cC (fun c11 => ?_) (fun c11 => ?_)
             · skip
               refine D ?_
               refine E ?_
               first
               | exact trivial
               | unfold clusterFault
                 grind
             · skip
               refine D ?_
               refine kR (s_impl_EntryFault _) ?_
               refine D ?_
               refine cC (fun c12 => ?_) (fun c12 => ?_)
               · skip
                 refine D ?_
                 refine E ?_
                 first
                 | exact trivial
                 | unfold clusterFault
                   grind
               · skip
                 refine D ?_
                 refine N (i+1) [] (hi := ?_) (hm := ?_)
                 · refine ⟨by omega, ?_⟩
                   rw [he, scan_lt (by omega), if_pos]
                   rw [sealAt_eq]
                   grind
                 · omega
           · skip
             have hs3 : scan (sealAt x) x.seals.length 0 = 0 := by rw [he, scan_ge (by omega)]
             refine D ?_
             refine E ?_
             first
             | exact trivial
             | unfold clusterFault
               grind
theorem s_impl_size_Seal (rows : List (List T)) : SemX prog 60 [aT (.sl false 10 rows)] [] [rI rows.length] [] := by
 refine goF [] [] [] func60 ?_
 refine D ?_
 refine E ?_
 first
 | exact trivial
 | exact rfl
theorem s_impl_Cluster_do_ok (x : Cluster) (hx : limC 2097152 x) (i : Nat) (hi : i < x.nodes.length) (r : NodeResult) (hr : limR 2097152 r) (hc : r.node.commit ≤ r.node.log.length) (hid : r.code = 0 → r.node.id = i) (h4 : x.wins.length ≤ 400) (hok : doOk x i r = true) : SemX prog 34 [.one (.ptr 0 0), aS (eNodeResult true r)] [.var (eCluster true x)] [rI 0] [.var (eCluster true (doC x i r))] := by
 refine goF [(61, ⟨some 6, none, none, some [24576]⟩), (76, ⟨some 2, none, none, none⟩)] [(4, 3, [1000000], []), (4, 5, [24576], []), (4, 6, [1000001], []), (4, 7, [1000001], []), (4, 8, [], [28672]), (4, 9, [28672, 1000001], [28672]), (5, 3, [1000000], []), (5, 5, [24576], []), (5, 6, [24576], []), (5, 7, [1000001], []), (5, 8, [1000001, 4101, 4104, 4105, 4106, 24576], [1000001, 4101, 4104, 4105, 4106, 24576]), (6, 4, [1000000], []), (6, 6, [16384], []), (6, 7, [1000002, 4107], [155648, 1000002, 4107]), (6, 10, [1000000], [1000000]), (12, 4, [1000000], []), (12, 6, [24576], []), (12, 8, [24576], []), (12, 10, [], [319488]), (12, 11, [1000003, 319488], [323584, 1000003, 319488]), (12, 14, [1000000], [1000000]), (13, 3, [1000000], []), (13, 4, [1000004], []), (13, 6, [24576], []), (14, 4, [1000000], []), (14, 6, [24576], []), (14, 8, [24576], []), (14, 12, [1000000], []), (14, 14, [1000001], []), (14, 15, [1000001], []), (14, 17, [], [438272]), (14, 18, [1000004, 438272], [442368, 1000004, 438272]), (14, 21, [1000000], [1000000])] [] func34 ?_
 obtain ⟨⟨hn, hN⟩, ⟨hm, hM⟩, hw, hs⟩ := id hx
 obtain ⟨hrn, hrs, hrm⟩ := id hr
 obtain ⟨hr1, hr2, hr3, hr4⟩ := id hrn
 refine D ?_
 refine cC (fun c0 => ?_) (fun c0 => ?_)
 · skip
   exfalso
   unfold doOk wonBy at hok
   grind
 · skip
   have hid2 := hid c0
   have hA := hid2
   refine D ?_
   refine cC (fun c1 => ?_) (fun c1 => ?_)
   · skip
     exfalso
     unfold doOk wonBy at hok
     grind
   · skip
     refine D ?_
     refine cC (fun c2 => ?_) (fun c2 => ?_)
     · skip
       refine D ?_
       refine cC (fun c3 => ?_) (fun c3 => ?_)
       · skip
         exfalso
         unfold doOk wonBy at hok
         grind
       · skip
         refine D ?_
         refine Ld [60] [] (α := Nat) (fun k => []) (fun k => [(1000000, .var [.ref 1000001 0 x.nodes.length, .ref 155648 0 (x.mails.length + r.send.length), .ref 323584 0 (x.wins.length + 1), .ref 1000004 0 k]), (1000004, .arr ⟨10, (sealsTo x.seals r.node k).map eSeal, 1, none⟩)]) (fun k => x.seals.length + r.node.log.length - k) (fun k => x.seals.length ≤ k ∧ k ≤ max x.seals.length r.node.commit.toNat) x.seals.length [] (fun k hL => ?_) (by (simp only [go_sem, hA, sealsTo_self x.seals r.node (Nat.le_refl _)] <;> and_intros <;> first | with_reducible exact rfl | omega | grind)) (by exact ⟨Nat.le_refl _, Nat.le_max_left _ _⟩)
         obtain ⟨hk1, hk2⟩ := hL
         have hL := sealsTo_len' x.seals r.node hk1 (by omega)
         have hT : List.take k ((sealsTo x.seals r.node k).map eSeal) = (sealsTo x.seals r.node k).map eSeal := List.take_of_length_le (by simp [hL])
         have hA := And.intro hA (And.intro hL (hT))
         refine D ?_
         refine kD (s_impl_size_Seal ((sealsTo x.seals r.node k).map eSeal)) ?_
         refine D ?_
         refine cC (fun c4 => ?_) (fun c4 => ?_)
         · skip
           refine D ?_
           refine lp_next (k+1) [(1000004,442368)] ?_ ?_ ?_
           · simp only [go_sem, hA] <;> and_intros <;> first | with_reducible exact rfl | (first | omega | (rw [sealsTo_succ x.seals r.node hk1 (by omega)]; simp [eSeal]))
           · omega
           · omega
         · skip
           refine D ?_
           refine E ?_
           have hw2 : wonBy x i r.node = true := by unfold wonBy; grind
           have hse := sealsTo_end x.seals r.node hk1 hk2 (by omega) hc
           simp [doC, doWins, hw2, hse, eNode, eWon, List.map_set, List.take_of_length_le, hid2]
     · skip
       refine D ?_
       refine Ld [60] [] (α := Nat) (fun k => []) (fun k => [(1000000, .var [.ref 1000001 0 x.nodes.length, .ref 155648 0 (x.mails.length + r.send.length), .ref 1000003 0 x.wins.length, .ref 1000004 0 k]), (1000004, .arr ⟨10, (sealsTo x.seals r.node k).map eSeal, 1, none⟩)]) (fun k => x.seals.length + r.node.log.length - k) (fun k => x.seals.length ≤ k ∧ k ≤ max x.seals.length r.node.commit.toNat) x.seals.length [] (fun k hL => ?_) (by (simp only [go_sem, hA, sealsTo_self x.seals r.node (Nat.le_refl _)] <;> and_intros <;> first | with_reducible exact rfl | omega | grind)) (by exact ⟨Nat.le_refl _, Nat.le_max_left _ _⟩)
       obtain ⟨hk1, hk2⟩ := hL
       have hL := sealsTo_len' x.seals r.node hk1 (by omega)
       have hT : List.take k ((sealsTo x.seals r.node k).map eSeal) = (sealsTo x.seals r.node k).map eSeal := List.take_of_length_le (by simp [hL])
       have hA := And.intro hA (And.intro hL (hT))
       refine D ?_
       refine kD (s_impl_size_Seal ((sealsTo x.seals r.node k).map eSeal)) ?_
       refine D ?_
       refine cC (fun c4 => ?_) (fun c4 => ?_)
       · skip
         refine D ?_
         refine lp_next (k+1) [(1000004,442368)] ?_ ?_ ?_
         · simp only [go_sem, hA] <;> and_intros <;> first | with_reducible exact rfl | (first | omega | (rw [sealsTo_succ x.seals r.node hk1 (by omega)]; simp [eSeal]))
         · omega
         · omega
       · skip
         refine D ?_
         refine E ?_
         have hw2 : wonBy x i r.node = false := by unfold wonBy; grind
         have hse := sealsTo_end x.seals r.node hk1 hk2 (by omega) hc
         simp [doC, doWins, hw2, hse, eNode, eWon, List.map_set, List.take_of_length_le, hid2]
theorem s_impl_Cluster_do_no (x : Cluster) (hx : limC 2097152 x) (i : Nat) (hi : i < x.nodes.length) (r : NodeResult) (hr : limR 2097152 r) (hc : r.node.commit ≤ r.node.log.length) (hid : r.code = 0 → r.node.id = i) (h4 : x.wins.length ≤ 400) (hok : doOk x i r = false) : SemX prog 34 [.one (.ptr 0 0), aS (eNodeResult true r)] [.var (eCluster true x)] [rI (if r.code ≠ 0 then r.code else 2)] [.var [.junk, .junk, .junk, .junk]] := by
 refine goF [(61, ⟨some 6, none, none, some [24576]⟩), (76, ⟨some 2, none, none, none⟩)] [(4, 3, [1000000], []), (4, 5, [24576], []), (4, 6, [1000001], []), (4, 7, [1000001], []), (4, 8, [], [28672]), (4, 9, [28672, 1000001], [28672]), (5, 3, [1000000], []), (5, 5, [24576], []), (5, 6, [24576], []), (5, 7, [1000001], []), (5, 8, [1000001, 4101, 4104, 4105, 4106, 24576], [1000001, 4101, 4104, 4105, 4106, 24576]), (6, 4, [1000000], []), (6, 6, [16384], []), (6, 7, [1000002, 4107], [155648, 1000002, 4107]), (6, 10, [1000000], [1000000]), (12, 6, [24576], []), (12, 8, [24576], []), (13, 6, [24576], []), (14, 6, [24576], []), (14, 8, [24576], [])] [] func34 ?_
 obtain ⟨⟨hn, hN⟩, ⟨hm, hM⟩, hw, hs⟩ := id hx
 obtain ⟨hrn, hrs, hrm⟩ := id hr
 obtain ⟨hr1, hr2, hr3, hr4⟩ := id hrn
 refine D ?_
 refine cC (fun c0 => ?_) (fun c0 => ?_)
 · skip
   refine D ?_
   refine E ?_
   first
   | exact trivial
   | simp [*]
 · skip
   have hid2 := hid c0
   have hA := hid2
   refine D ?_
   refine cC (fun c1 => ?_) (fun c1 => ?_)
   · skip
     refine D ?_
     refine E ?_
     first
     | exact trivial
     | simp [*]
   · skip
     refine D ?_
     refine cC (fun c2 => ?_) (fun c2 => ?_)
     · skip
       refine D ?_
       refine cC (fun c3 => ?_) (fun c3 => ?_)
       · skip
         refine D ?_
         refine E ?_
         first
         | exact trivial
         | simp [*]
       · skip
         exfalso
         unfold doOk wonBy at hok
         grind
     · skip
       exfalso
       unfold doOk wonBy at hok
       grind
theorem s_slices_Clone_Entry (xs : List Entry) (hl : xs.length ≤ 2097152) : SemX prog 56 [aT (.sl false 9 (xs.map eEntry))] [] [.one (.sl true 9 (xs.map eEntry))] [] := by
 refine goF [] [] [] func56 ?_
 refine D ?_
 refine RW_isn (fun b => xs.map eEntry ≠ [] → b = false) rfl rfl (by simp only [go_sem] <;> and_intros <;> first | with_reducible exact rfl | omega | with_reducible trivial | (intros; simp_all; done) | grind) (fun b hb => ?_)
 refine D ?_
 refine cC (fun c0 => ?_) (fun c0 => ?_)
 · skip
   have hx : xs = [] := by
     cases xs with
     | nil => rfl
     | cons a l => have := hb (by simp); rw [this] at c0; cases c0
   subst hx
   refine D ?_
   exact E trivial
 · skip
   refine D ?_
   exact E trivial
theorem s_impl_copiedMail (x : Mail) (hx : limM 2097152 x) : SemX prog 32 [aS (eMail false x)] [] [.agg (eMail true x)] [] := by
 refine goF [] [] [] func32 ?_
 refine D ?_
 refine kR (s_slices_Clone_Entry x.entries hx) ?_
 refine D ?_
 exact E trivial
theorem s_slices_Clone_int64 (xs : List Int) (hl : xs.length ≤ 2097152) : SemX prog 77 [aT (.sl false 1 (xs.map eI_i64))] [] [.one (.sl true 1 (xs.map eI_i64))] [] := by
 refine goF [] [] [] func77 ?_
 refine D ?_
 refine RW_isn (fun b => xs.map eI_i64 ≠ [] → b = false) rfl rfl (by simp only [go_sem] <;> and_intros <;> first | with_reducible exact rfl | omega | with_reducible trivial | (intros; simp_all; done) | grind) (fun b hb => ?_)
 refine D ?_
 refine cC (fun c0 => ?_) (fun c0 => ?_)
 · skip
   have hx : xs = [] := by
     cases xs with
     | nil => rfl
     | cons a l => have := hb (by simp); rw [this] at c0; cases c0
   subst hx
   refine D ?_
   exact E trivial
 · skip
   refine D ?_
   exact E trivial
theorem s_impl_Node_copied (x : Node) (hx : limN 2097152 x) : SemX prog 47 [aS (eNode false x)] [] [.agg (eNode true x)] [] := by
 refine goF [] [(1, 1, [8192], []), (1, 2, [], [24576]), (1, 4, [8192], []), (1, 5, [], [36864]), (1, 7, [8192], []), (1, 8, [], [49152]), (1, 10, [8192], []), (1, 11, [], [61440]), (1, 13, [8192], [8192]), (1, 15, [8192], [8192]), (1, 17, [8192], [8192]), (1, 19, [8192], [8192])] [] func47 ?_
 refine D ?_
 refine kD (s_slices_Clone_Entry x.log hx.1) ?_
 refine D ?_
 refine kD (s_slices_Clone_int64 x.votes hx.2.1) ?_
 refine D ?_
 refine kD (s_slices_Clone_int64 x.next hx.2.2.1) ?_
 refine D ?_
 refine kD (s_slices_Clone_int64 x.match_ hx.2.2.2) ?_
 refine D ?_
 exact E trivial
theorem s_slices_Clone_Won (xs : List Won) (hl : xs.length ≤ 2097152) : SemX prog 75 [aT (.sl false 2 (xs.map eWon))] [] [.one (.sl true 2 (xs.map eWon))] [] := by
 refine goF [] [] [] func75 ?_
 refine D ?_
 refine RW_isn (fun b => xs.map eWon ≠ [] → b = false) rfl rfl (by simp only [go_sem] <;> and_intros <;> first | with_reducible exact rfl | omega | with_reducible trivial | (intros; simp_all; done) | grind) (fun b hb => ?_)
 refine D ?_
 refine cC (fun c0 => ?_) (fun c0 => ?_)
 · skip
   have hx : xs = [] := by
     cases xs with
     | nil => rfl
     | cons a l => have := hb (by simp); rw [this] at c0; cases c0
   subst hx
   refine D ?_
   exact E trivial
 · skip
   refine D ?_
   exact E trivial
theorem s_slices_Clone_Seal (xs : List Seal) (hl : xs.length ≤ 2097152) : SemX prog 76 [aT (.sl false 10 (xs.map eSeal))] [] [.one (.sl true 10 (xs.map eSeal))] [] := by
 refine goF [] [] [] func76 ?_
 refine D ?_
 refine RW_isn (fun b => xs.map eSeal ≠ [] → b = false) rfl rfl (by simp only [go_sem] <;> and_intros <;> first | with_reducible exact rfl | omega | with_reducible trivial | (intros; simp_all; done) | grind) (fun b hb => ?_)
 refine D ?_
 refine cC (fun c0 => ?_) (fun c0 => ?_)
 · skip
   have hx : xs = [] := by
     cases xs with
     | nil => rfl
     | cons a l => have := hb (by simp); rw [this] at c0; cases c0
   subst hx
   refine D ?_
   exact E trivial
 · skip
   refine D ?_
   exact E trivial
theorem s_impl_Cluster_copied (x : Cluster) (hx : limC 2097152 x) : SemX prog 45 [aS (eCluster false x)] [] [.agg (eCluster true x)] [] := by
 refine goF [(30, ⟨some 4, some 61440, some (29, true), none⟩)] [(1, 1, [8192], []), (1, 2, [], [45056]), (1, 4, [8192], []), (1, 5, [], [57344]), (1, 6, [], [61440, 61441]), (1, 7, [], [16384]), (1, 8, [16384], [16384]), (5, 1, [16384], []), (5, 2, [24576], []), (5, 3, [], [106500, 106503, 106504, 106505]), (5, 4, [106500, 106503, 106504, 106505], [110592, 106500, 106503, 106504, 106505]), (5, 5, [61440, 110592], [114688, 61440, 110592]), (5, 7, [16384], [16384]), (10, 1, [16384], []), (10, 2, [32768], []), (10, 3, [], [167944]), (10, 4, [167944], [172032, 167944]), (10, 5, [61441, 172032], [176128, 61441, 172032]), (10, 7, [16384], [16384])] [] func45 ?_
 obtain ⟨⟨hn, hN⟩, ⟨hm, hM⟩, hw, hs⟩ := id hx
 refine D ?_
 refine kD (s_slices_Clone_Won x.wins hw) ?_
 refine D ?_
 refine kD (s_slices_Clone_Seal x.seals hs) ?_
 refine D ?_
 refine L (α := Nat) (fun i => [(18, .int .i64 i)]) (fun i => [(16384, .var [.ref 61440 0 i, .ref 61441 0 0, .ref 45056 0 x.wins.length, .ref 57344 0 x.seals.length]), (61440, .arr ⟨10, (x.nodes.take i).map (eNode true), 1, none⟩)]) (fun i => x.nodes.length - i) (fun i => i ≤ x.nodes.length) 0 [] (fun i hI => ?_)
 refine D ?_
 refine cC (fun c0 => ?_) (fun c0 => ?_)
 · skip
   refine D ?_
   refine kD (s_impl_Node_copied (x.nodes.getD i zNode) ((all_getD zNode).2 hN i (by omega))) ?_
   refine D ?_
   refine lp_next (i+1) [(61440,114688)] ?_ ?_ ?_
   · simp only [go_sem] <;> and_intros <;> first | with_reducible exact rfl | (first | omega | (rw [take_succ_map _ zNode (by omega)]; simp only [eNode]))
   · omega
   · omega
 · skip
   obtain rfl : i = x.nodes.length := by omega
   refine D ?_
   refine L (α := Nat) (fun i => [(33, .int .i64 i)]) (fun i => [(16384, .var [.ref 61440 0 x.nodes.length, .ref 61441 0 i, .ref 45056 0 x.wins.length, .ref 57344 0 x.seals.length]), (61441, .arr ⟨9, (x.mails.take i).map (eMail true), 1, none⟩)]) (fun i => x.mails.length - i) (fun i => i ≤ x.mails.length) 0 [] (fun i hI => ?_)
   refine D ?_
   refine cC (fun c1 => ?_) (fun c1 => ?_)
   · skip
     refine D ?_
     refine kD (s_impl_copiedMail (x.mails.getD i zMail) ((all_getD zMail).2 hM i (by omega))) ?_
     refine D ?_
     refine lp_next (i+1) [(61441,176128)] ?_ ?_ ?_
     · simp only [go_sem] <;> and_intros <;> first | with_reducible exact rfl | (first | omega | (rw [take_succ_map _ zMail (by omega)]; simp only [eMail]))
     · omega
     · omega
   · skip
     obtain rfl : i = x.mails.length := by omega
     refine D ?_
     exact E trivial
theorem s_impl_Cluster_result (x : Cluster) (c : Int) : SemX prog 46 [.one (.ptr 0 0), aI c] [.var (eCluster true x)] [.agg (eClusterResult true (resC c x))] [.var [.junk, .junk, .junk, .junk]] := by
 refine goF [] [] [] func46 ?_
 refine D ?_
 refine cC (fun c0 => ?_) (fun c0 => ?_)
 · skip
   refine D ?_
   refine E ?_
   first
   | exact trivial
   | simp [resC, bad, zCluster, *]
 · skip
   refine D ?_
   refine E ?_
   first
   | exact trivial
   | simp [resC, bad, zCluster, *]
theorem s_impl_Cluster_result_no (c : Int) (hc : c ≠ 0) : SemX prog 46 [.one (.ptr 0 0), aI c] [.var [.junk, .junk, .junk, .junk]] [.agg (eClusterResult true (bad c))] [.var [.junk, .junk, .junk, .junk]] := by
 refine goF [] [] [] func46 ?_
 refine D ?_
 refine cC (fun c0 => ?_) (fun c0 => ?_)
 · skip
   refine D ?_
   refine E ?_
   first
   | exact trivial
   | simp [bad, zCluster]
 · skip
   exfalso
   simp [hc] at c0
theorem s_impl_onNode_ok (x : Cluster) (hx : limC 2097152 x) (p : Int) (fn : Nat) (r : NodeResult) (hq : callB prog fn = true) (hf : ∀ n : Nat, p = n → n < x.nodes.length → SemX prog fn [aS (eNode false (x.nodes.getD n zNode))] [] [.agg (eNodeResult true r)] []) (hr : limR 2097152 r) (hc : r.node.commit ≤ r.node.log.length) (hid : ∀ n : Nat, p = n → n < x.nodes.length → clusterFault x = 0 → r.code = 0 → r.node.id = n) (hok : doOk x p.toNat r = true) : SemX prog 22 [aS (eCluster false x), aI p, .one (.fn fn [])] [] [.agg (eClusterResult true (atNode x p r))] [] := by
 refine goF [] [] [] func22 ?_
 obtain ⟨⟨hn, hN⟩, ⟨hm, hM⟩, hw, hs⟩ := id hx
 refine D ?_
 refine kR (s_impl_ClusterFault x hx) ?_
 refine D ?_
 refine kRg (s_impl_Cluster_isPlace x p hn) ?_
 refine D ?_
 refine cC (fun c0 => ?_) (fun c0 => ?_)
 · skip
   refine D ?_
   refine cT ?_
   refine D ?_
   refine E ?_
   have he : atNode x p r = bad 3 := by unfold atNode nodeGuard; grind
   simp [he, bad, zCluster]
 · skip
   refine D ?_
   refine cC (fun c1 => ?_) (fun c1 => ?_)
   · skip
     refine D ?_
     refine E ?_
     have he : atNode x p r = bad (clusterFault x) := by unfold atNode nodeGuard; grind
     simp [he, bad, zCluster]
   · skip
     have c0n : nodeGuard x p = 0 := by unfold nodeGuard; grind
     obtain ⟨hcf, n, rfl, hn2⟩ := guardN_iff c0n
     have hcw := cl_wins hcf
     have hid2 := hid n rfl hn2 hcf
     refine D ?_
     refine kR (s_impl_Cluster_copied x hx) ?_
     refine D ?_
     refine kR (hf n rfl hn2) ?_ hq
     refine D ?_
     refine kRk [36864] [126981, 126984, 126985, 126986, 126987] [98304, 98305, 98306, 98307] (s_impl_Cluster_do_ok x hx n hn2 r hr hc hid2 hcw.1 hok) ?_
     refine D ?_
     refine kRk [36864] [] [132096, 132097, 132098, 132099] (s_impl_Cluster_result (doC x n r) 0) ?_
     refine D ?_
     refine E ?_
     have hok2 : doOk x n r = true := hok
     have he : atNode x n r = ⟨0, doC x n r⟩ := by unfold atNode doR; rw [if_neg (by omega), if_pos hok]; rfl
     simp [he, resC]
theorem s_impl_onNode_no (x : Cluster) (hx : limC 2097152 x) (p : Int) (fn : Nat) (r : NodeResult) (hq : callB prog fn = true) (hf : ∀ n : Nat, p = n → n < x.nodes.length → SemX prog fn [aS (eNode false (x.nodes.getD n zNode))] [] [.agg (eNodeResult true r)] []) (hr : limR 2097152 r) (hc : r.node.commit ≤ r.node.log.length) (hid : ∀ n : Nat, p = n → n < x.nodes.length → clusterFault x = 0 → r.code = 0 → r.node.id = n) (hok : doOk x p.toNat r = false) : SemX prog 22 [aS (eCluster false x), aI p, .one (.fn fn [])] [] [.agg (eClusterResult true (atNode x p r))] [] := by
 refine goF [] [] [] func22 ?_
 obtain ⟨⟨hn, hN⟩, ⟨hm, hM⟩, hw, hs⟩ := id hx
 refine D ?_
 refine kR (s_impl_ClusterFault x hx) ?_
 refine D ?_
 refine kRg (s_impl_Cluster_isPlace x p hn) ?_
 refine D ?_
 refine cC (fun c0 => ?_) (fun c0 => ?_)
 · skip
   refine D ?_
   refine cT ?_
   refine D ?_
   refine E ?_
   have he : atNode x p r = bad 3 := by unfold atNode nodeGuard; grind
   simp [he, bad, zCluster]
 · skip
   refine D ?_
   refine cC (fun c1 => ?_) (fun c1 => ?_)
   · skip
     refine D ?_
     refine E ?_
     have he : atNode x p r = bad (clusterFault x) := by unfold atNode nodeGuard; grind
     simp [he, bad, zCluster]
   · skip
     have c0n : nodeGuard x p = 0 := by unfold nodeGuard; grind
     obtain ⟨hcf, n, rfl, hn2⟩ := guardN_iff c0n
     have hcw := cl_wins hcf
     have hid2 := hid n rfl hn2 hcf
     refine D ?_
     refine kR (s_impl_Cluster_copied x hx) ?_
     refine D ?_
     refine kR (hf n rfl hn2) ?_ hq
     refine D ?_
     refine kRk [36864] [126981, 126984, 126985, 126986, 126987] [98304, 98305, 98306, 98307] (s_impl_Cluster_do_no x hx n hn2 r hr hc hid2 hcw.1 hok) ?_
     refine D ?_
     refine kRk [36864] [] [] (s_impl_Cluster_result_no (if r.code ≠ 0 then r.code else 2) (by split <;> omega)) ?_
     refine D ?_
     refine E ?_
     have he : atNode x n r = bad (if r.code ≠ 0 then r.code else 2) := by unfold atNode doR; rw [if_neg (by omega), if_neg (by rw [hok]; simp)]
     simp [he]
theorem s_impl_onNode (x : Cluster) (hx : limC 2097152 x) (p : Int) (fn : Nat) (r : NodeResult) (hq : callB prog fn = true) (hf : ∀ n : Nat, p = n → n < x.nodes.length → SemX prog fn [aS (eNode false (x.nodes.getD n zNode))] [] [.agg (eNodeResult true r)] []) (hr : limR 2097152 r) (hc : r.node.commit ≤ r.node.log.length) (hid : ∀ n : Nat, p = n → n < x.nodes.length → clusterFault x = 0 → r.code = 0 → r.node.id = n) : SemX prog 22 [aS (eCluster false x), aI p, .one (.fn fn [])] [] [.agg (eClusterResult true (atNode x p r))] [] := by
  cases h : doOk x p.toNat r
  · exact s_impl_onNode_no x hx p fn r hq hf hr hc hid h
  · exact s_impl_onNode_ok x hx p fn r hq hf hr hc hid h
theorem s_impl_onNodeAsk_ok (x : Cluster) (hx : limC 2097152 x) (p : Int) (cl sq : Int) (cm : Cmd) (fn : Nat) (r : NodeResult) (hq : callB prog fn = true) (hf : ∀ n : Nat, p = n → n < x.nodes.length → SemX prog fn [aS (eNode false (x.nodes.getD n zNode)), aT (.ptr [.int .i64 cl]), aT (.ptr [.int .i64 sq]), aT (.ptr (eCmd cm))] [] [.agg (eNodeResult true r)] []) (hr : limR 2097152 r) (hc : r.node.commit ≤ r.node.log.length) (hid : ∀ n : Nat, p = n → n < x.nodes.length → clusterFault x = 0 → r.code = 0 → r.node.id = n) (hok : doOk x p.toNat r = true) : SemX prog 22 [aS (eCluster false x), aI p, .one (.fn fn [.t (.ptr [.int .i64 cl]), .t (.ptr [.int .i64 sq]), .t (.ptr (eCmd cm))])] [] [.agg (eClusterResult true (atNode x p r))] [] := by
 refine goF [] [] [] func22 ?_
 obtain ⟨⟨hn, hN⟩, ⟨hm, hM⟩, hw, hs⟩ := id hx
 refine D ?_
 refine kR (s_impl_ClusterFault x hx) ?_
 refine D ?_
 refine kRg (s_impl_Cluster_isPlace x p hn) ?_
 refine D ?_
 refine cC (fun c0 => ?_) (fun c0 => ?_)
 · skip
   refine D ?_
   refine cT ?_
   refine D ?_
   refine E ?_
   have he : atNode x p r = bad 3 := by unfold atNode nodeGuard; grind
   simp [he, bad, zCluster]
 · skip
   refine D ?_
   refine cC (fun c1 => ?_) (fun c1 => ?_)
   · skip
     refine D ?_
     refine E ?_
     have he : atNode x p r = bad (clusterFault x) := by unfold atNode nodeGuard; grind
     simp [he, bad, zCluster]
   · skip
     have c0n : nodeGuard x p = 0 := by unfold nodeGuard; grind
     obtain ⟨hcf, n, rfl, hn2⟩ := guardN_iff c0n
     have hcw := cl_wins hcf
     have hid2 := hid n rfl hn2 hcf
     refine D ?_
     refine kR (s_impl_Cluster_copied x hx) ?_
     refine D ?_
     refine kR (hf n rfl hn2) ?_ hq
     refine D ?_
     refine kRk [36864] [126981, 126984, 126985, 126986, 126987] [98304, 98305, 98306, 98307] (s_impl_Cluster_do_ok x hx n hn2 r hr hc hid2 hcw.1 hok) ?_
     refine D ?_
     refine kRk [36864] [] [132096, 132097, 132098, 132099] (s_impl_Cluster_result (doC x n r) 0) ?_
     refine D ?_
     refine E ?_
     have hok2 : doOk x n r = true := hok
     have he : atNode x n r = ⟨0, doC x n r⟩ := by unfold atNode doR; rw [if_neg (by omega), if_pos hok]; rfl
     simp [he, resC]
theorem s_impl_onNodeAsk_no (x : Cluster) (hx : limC 2097152 x) (p : Int) (cl sq : Int) (cm : Cmd) (fn : Nat) (r : NodeResult) (hq : callB prog fn = true) (hf : ∀ n : Nat, p = n → n < x.nodes.length → SemX prog fn [aS (eNode false (x.nodes.getD n zNode)), aT (.ptr [.int .i64 cl]), aT (.ptr [.int .i64 sq]), aT (.ptr (eCmd cm))] [] [.agg (eNodeResult true r)] []) (hr : limR 2097152 r) (hc : r.node.commit ≤ r.node.log.length) (hid : ∀ n : Nat, p = n → n < x.nodes.length → clusterFault x = 0 → r.code = 0 → r.node.id = n) (hok : doOk x p.toNat r = false) : SemX prog 22 [aS (eCluster false x), aI p, .one (.fn fn [.t (.ptr [.int .i64 cl]), .t (.ptr [.int .i64 sq]), .t (.ptr (eCmd cm))])] [] [.agg (eClusterResult true (atNode x p r))] [] := by
 refine goF [] [] [] func22 ?_
 obtain ⟨⟨hn, hN⟩, ⟨hm, hM⟩, hw, hs⟩ := id hx
 refine D ?_
 refine kR (s_impl_ClusterFault x hx) ?_
 refine D ?_
 refine kRg (s_impl_Cluster_isPlace x p hn) ?_
 refine D ?_
 refine cC (fun c0 => ?_) (fun c0 => ?_)
 · skip
   refine D ?_
   refine cT ?_
   refine D ?_
   refine E ?_
   have he : atNode x p r = bad 3 := by unfold atNode nodeGuard; grind
   simp [he, bad, zCluster]
 · skip
   refine D ?_
   refine cC (fun c1 => ?_) (fun c1 => ?_)
   · skip
     refine D ?_
     refine E ?_
     have he : atNode x p r = bad (clusterFault x) := by unfold atNode nodeGuard; grind
     simp [he, bad, zCluster]
   · skip
     have c0n : nodeGuard x p = 0 := by unfold nodeGuard; grind
     obtain ⟨hcf, n, rfl, hn2⟩ := guardN_iff c0n
     have hcw := cl_wins hcf
     have hid2 := hid n rfl hn2 hcf
     refine D ?_
     refine kR (s_impl_Cluster_copied x hx) ?_
     refine D ?_
     refine kR (hf n rfl hn2) ?_ hq
     refine D ?_
     refine kRk [36864] [126981, 126984, 126985, 126986, 126987] [98304, 98305, 98306, 98307] (s_impl_Cluster_do_no x hx n hn2 r hr hc hid2 hcw.1 hok) ?_
     refine D ?_
     refine kRk [36864] [] [] (s_impl_Cluster_result_no (if r.code ≠ 0 then r.code else 2) (by split <;> omega)) ?_
     refine D ?_
     refine E ?_
     have he : atNode x n r = bad (if r.code ≠ 0 then r.code else 2) := by unfold atNode doR; rw [if_neg (by omega), if_neg (by rw [hok]; simp)]
     simp [he]
theorem s_impl_onNodeAsk (x : Cluster) (hx : limC 2097152 x) (p : Int) (cl sq : Int) (cm : Cmd) (fn : Nat) (r : NodeResult) (hq : callB prog fn = true) (hf : ∀ n : Nat, p = n → n < x.nodes.length → SemX prog fn [aS (eNode false (x.nodes.getD n zNode)), aT (.ptr [.int .i64 cl]), aT (.ptr [.int .i64 sq]), aT (.ptr (eCmd cm))] [] [.agg (eNodeResult true r)] []) (hr : limR 2097152 r) (hc : r.node.commit ≤ r.node.log.length) (hid : ∀ n : Nat, p = n → n < x.nodes.length → clusterFault x = 0 → r.code = 0 → r.node.id = n) : SemX prog 22 [aS (eCluster false x), aI p, .one (.fn fn [.t (.ptr [.int .i64 cl]), .t (.ptr [.int .i64 sq]), .t (.ptr (eCmd cm))])] [] [.agg (eClusterResult true (atNode x p r))] [] := by
  cases h : doOk x p.toNat r
  · exact s_impl_onNodeAsk_no x hx p cl sq cm fn r hq hf hr hc hid h
  · exact s_impl_onNodeAsk_ok x hx p cl sq cm fn r hq hf hr hc hid h
theorem s_impl_Node_others (x y z : Node) (hp : 0 ≤ x.peers) (hp2 : x.peers ≤ 5) (fn : Nat) (R : Nat → List Mail) (hR : ∀ i, (R i).length ≤ i) (hq : callB prog fn = true) (hf : ∀ i : Nat, (i : Int) < x.peers → (i : Int) ≠ x.id → SemX prog fn [aI i, aT (.ptr (eNode false y)), aT (.ptr (eNode false z)), .one (.ptr 0 0)] [.var [.sl true 9 ((R i).map (eMail true))]] [] [.var [.sl true 9 ((R (i + 1)).map (eMail true))]]) (hs : ∀ i : Nat, (i : Int) = x.id → R (i + 1) = R i) : SemX prog 48 [aT (.ptr (eNode false x)), .one (.fn fn [.t (.ptr (eNode false y)), .t (.ptr (eNode false z)), .ptr 0 0])] [.var [.sl true 9 ((R 0).map (eMail true))]] [] [.var [.sl true 9 ((R x.peers.toNat).map (eMail true))]] := by
 refine goF [(44, ⟨some 1, none, none, none⟩)] [] [] func48 ?_
 refine D ?_
 refine L (α := Nat) (fun i => [(9, .int .i64 i)]) (fun i => [(1000000, .var [.ref 1000001 0 (R i).length]), (1000001, .arr ⟨9, (R i).map (eMail true), 1, none⟩)]) (fun i => x.peers.toNat - i) (fun i => (i : Int) ≤ x.peers) 0 [] (fun i hI => ?_) (hi := by omega)
 refine D ?_
 refine cC (fun c0 => ?_) (fun c0 => ?_)
 · skip
   refine D ?_
   refine cC (fun c1 => ?_) (fun c1 => ?_)
   · skip
     refine D ?_
     refine kRk [1000000] [] [1000001] (hf i (by omega) (by assumption)) ?_ hq
     refine D ?_
     refine lp_next (i+1) [(1000001,87040)] ?_ ?_ ?_
     · simp only [go_sem] <;> and_intros <;> first | with_reducible exact rfl | (first | omega | (rw [hs i (by assumption)]))
     · omega
     · omega
   · skip
     refine D ?_
     refine lp_next (i+1) [] ?_ ?_ ?_
     · simp only [go_sem] <;> and_intros <;> first | with_reducible exact rfl | (first | omega | (rw [hs i (by assumption)]))
     · omega
     · omega
 · skip
   have hi : i = x.peers.toNat := by omega
   subst hi
   refine D ?_
   exact E trivial
theorem s_impl_Node_others_2 (x y z : Node) (hp : 0 ≤ x.peers) (hp2 : x.peers ≤ 5) (fn : Nat) (R : Nat → List Mail) (hR : ∀ i, (R i).length ≤ i) (hq : callB prog fn = true) (hf : ∀ i : Nat, (i : Int) < x.peers → (i : Int) ≠ x.id → SemX prog fn [aI i, .one (.ptr 0 0), aT (.ptr (eNode false y)), aT (.ptr (eNode false z))] [.var [.sl true 9 ((R i).map (eMail true))]] [] [.var [.sl true 9 ((R (i + 1)).map (eMail true))]]) (hs : ∀ i : Nat, (i : Int) = x.id → R (i + 1) = R i) : SemX prog 48 [aT (.ptr (eNode false x)), .one (.fn fn [.ptr 0 0, .t (.ptr (eNode false y)), .t (.ptr (eNode false z))])] [.var [.sl true 9 ((R 0).map (eMail true))]] [] [.var [.sl true 9 ((R x.peers.toNat).map (eMail true))]] := by
 refine goF [(44, ⟨some 1, none, none, none⟩)] [] [] func48 ?_
 refine D ?_
 refine L (α := Nat) (fun i => [(9, .int .i64 i)]) (fun i => [(1000000, .var [.ref 1000001 0 (R i).length]), (1000001, .arr ⟨9, (R i).map (eMail true), 1, none⟩)]) (fun i => x.peers.toNat - i) (fun i => (i : Int) ≤ x.peers) 0 [] (fun i hI => ?_) (hi := by omega)
 refine D ?_
 refine cC (fun c0 => ?_) (fun c0 => ?_)
 · skip
   refine D ?_
   refine cC (fun c1 => ?_) (fun c1 => ?_)
   · skip
     refine D ?_
     refine kRk [1000000] [] [1000001] (hf i (by omega) (by assumption)) ?_ hq
     refine D ?_
     refine lp_next (i+1) [(1000001,87040)] ?_ ?_ ?_
     · simp only [go_sem] <;> and_intros <;> first | with_reducible exact rfl | (first | omega | (rw [hs i (by assumption)]))
     · omega
     · omega
   · skip
     refine D ?_
     refine lp_next (i+1) [] ?_ ?_ ?_
     · simp only [go_sem] <;> and_intros <;> first | with_reducible exact rfl | (first | omega | (rw [hs i (by assumption)]))
     · omega
     · omega
 · skip
   have hi : i = x.peers.toNat := by omega
   subst hi
   refine D ?_
   exact E trivial
section
attribute [local go_sem] asking
theorem s_impl_TimeoutNode_1 (x : Node) (hx : limN 2097152 x) (i : Nat) (R : List (List T)) (hR : R.length ≤ 100) : SemX prog 49 [aI i, .one (.ptr 0 0), aT (.ptr (eNode false x)), aT (.ptr (eNode false (asking x)))] [.var [.sl true 9 R]] [] [.var [.sl true 9 (R ++ [eMail true (voteM x i)])]] := by
 refine goF [] [(0, 0, [1000000], []), (0, 14, [], [81920]), (0, 15, [1000001, 81920], [86016, 1000001, 81920]), (0, 16, [1000000], [1000000])] [] func49 ?_
 obtain ⟨hx1, hx2, hx3, hx4⟩ := id hx
 refine D ?_
 refine kD (s_impl_size_Entry (x.log.map eEntry)) ?_
 refine D ?_
 refine kD (s_impl_last x.log (by omega)) ?_
 refine D ?_
 refine E ?_
 first
 | exact trivial
 | simp [voteM, List.take_of_length_le]
end
theorem to_step (x : Node) (hx : limN 2097152 x) (hp : x.peers ≤ 5) (i : Nat) (h1 : (i : Int) < x.peers) (h2 : (i : Int) ≠ x.id) : SemX prog 49 [aI i, .one (.ptr 0 0), aT (.ptr (eNode false x)), aT (.ptr (eNode false (asking x)))] [.var [.sl true 9 ((votesTo x i).map (eMail true))]] [] [.var [.sl true 9 ((votesTo x (i + 1)).map (eMail true))]] := by
  have hl := votes_len x i
  have := s_impl_TimeoutNode_1 x hx i ((votesTo x i).map (eMail true)) (by simp; omega)
  rw [votes_succ h2, List.map_append]
  exact this
theorem s_impl_Node_isQuorum (x : Node) (c : Int) (h0 : 0 ≤ c) (h1 : c ≤ 4194304) : SemX prog 52 [aT (.ptr (eNode false x)), aI c] [] [rB (quor x c)] [] := by
 refine goF [(14, ⟨some 1, none, none, none⟩)] [] [] func52 ?_
 refine D ?_
 refine E ?_
 first
 | exact trivial
 | simp only [go_sem, quor]
theorem s_impl_Node_agree (x : Node) (hx : limN 2097152 x) (h0 : 0 ≤ x.commit) (h1 : x.commit ≤ x.log.length) : SemX prog 57 [.one (.ptr 0 0)] [.var (eNode true x)] [] [.var (eNode true (agreed x))] := by
 refine goF [(38, ⟨some 1, none, none, none⟩), (66, ⟨some 1, none, none, none⟩), (88, ⟨some 1, none, none, none⟩)] [(10, 2, [1000000, 1000005, 1000008, 1000009, 1000010], []), (10, 7, [1000000], []), (10, 10, [1000005], []), (10, 12, [1000005], []), (10, 16, [1000000], [])] [] func57 ?_
 obtain ⟨hx1, hx2, hx3, hx4⟩ := id hx
 refine D ?_
 refine kR (s_impl_size_Entry (x.log.map eEntry)) ?_
 refine D ?_
 refine L (α := Nat) (fun n => [(2, .int .i64 n)]) (fun n => []) (fun n => n) (fun n => n ≤ x.log.length ∧ x.commit ≤ n ∧ agI x = agN x x.commit.toNat n) x.log.length [] (fun n hL => ?_) (hi := by exact ⟨Nat.le_refl _, h1, rfl⟩)
 obtain ⟨hn, hc, ha⟩ := hL
 refine D ?_
 refine cC (fun c0 => ?_) (fun c0 => ?_)
 · skip
   refine D ?_
   refine L (α := Nat) (fun j => [(3, .int .i64 (cntGe (x.match_.take j) n)), (24, .int .i64 j)]) (fun j => []) (fun j => x.match_.length - j) (fun j => j ≤ x.match_.length) 0 [] (fun j hL => ?_) (by (simp only [go_sem] <;> and_intros <;> first | with_reducible exact rfl | (simp [cntGe]; done) | omega))
   obtain hj := hL
   have hcb := cntGe_take_le x.match_ n j
   refine D ?_
   refine cC (fun c1 => ?_) (fun c1 => ?_)
   · skip
     refine D ?_
     refine cC (fun c2 => ?_) (fun c2 => ?_)
     · skip
       refine D ?_
       refine lp_next (j+1) [] ?_ ?_ ?_
       · simp only [go_sem] <;> and_intros <;> first | with_reducible exact rfl | (first | omega | (refine int_eq ?_; rw [cntGe_succ (by omega)]; first | (rw [if_pos (by assumption)]; omega) | (rw [if_neg (by assumption)]; omega)))
       · omega
       · omega
     · skip
       refine D ?_
       refine lp_next (j+1) [] ?_ ?_ ?_
       · simp only [go_sem] <;> and_intros <;> first | with_reducible exact rfl | (first | omega | (refine int_eq ?_; rw [cntGe_succ (by omega)]; first | (rw [if_pos (by assumption)]; omega) | (rw [if_neg (by assumption)]; omega)))
       · omega
       · omega
   · skip
     obtain rfl : j = x.match_.length := by omega
     refine D ?_
     refine kD (s_impl_Node_isQuorum x (cntGe x.match_ n) (by omega) (by have := cntGe_le x.match_ n; omega)) ?_
     refine D ?_
     refine cC (fun c3 => ?_) (fun c3 => ?_)
     · skip
       refine D ?_
       refine E ?_
       have e : agI x = n := by rw [ha, agN_ok x (by omega) (by unfold agOk; simp_all)]
       simp only [agreed, e]
     · skip
       refine D ?_
       refine lp_next (n - 1) [] ?_ ?_ ?_
       · simp only [go_sem] <;> and_intros <;> first | with_reducible exact rfl | (first | omega | (refine int_eq ?_; omega))
       · refine ⟨by omega, by omega, ?_⟩
         rw [ha, agN_no x (by omega) (by unfold agOk; simp_all)]
       · omega
 · skip
   have hn2 : (n : Int) = x.commit := by omega
   refine D ?_
   refine E ?_
   have e : agI x = x.commit := by rw [ha, agN_le x (c := x.commit.toNat) (n := n) (by omega)]; omega
   simp only [agreed, e]
theorem s_math_bits_Mul64 (a b : Int) (ha : 0 ≤ a) (ha2 : a ≤ 1) (hb : 0 ≤ b) (hb2 : b ≤ 5) : SemX prog 98 [.one (.t (.int .u64 a)), .one (.t (.int .u64 b))] [] [.one (.int .u64 0), .one (.int .u64 (a * b))] [] := by
 refine goF [] [] [] func98 ?_
 refine D ?_
 refine E ?_
 first
 | exact trivial
 | have ea : a = 0 ∨ a = 1 := by omega
   have eb : b = 0 ∨ b = 1 ∨ b = 2 ∨ b = 3 ∨ b = 4 ∨ b = 5 := by omega
   rcases ea with rfl | rfl <;> rcases eb with rfl | rfl | rfl | rfl | rfl | rfl <;> exact rfl
theorem s_math_bits_Mul (a b : Int) (ha : 0 ≤ a) (ha2 : a ≤ 1) (hb : 0 ≤ b) (hb2 : b ≤ 5) : SemX prog 90 [.one (.t (.int .u64 a)), .one (.t (.int .u64 b))] [] [.one (.int .u64 0), .one (.int .u64 (a * b))] [] := by
 refine goF [] [] [] func90 ?_
 refine D ?_
 refine cF ?_
 refine D ?_
 refine kR (s_math_bits_Mul64 a b ha ha2 hb hb2) ?_
 refine D ?_
 exact E trivial
theorem s_slices_Repeat_int64 (v : Int) (n : Nat) (h1 : 1 ≤ n) (h5 : n ≤ 5) : SemX prog 78 [aT (.sl false 1 [[.int .i64 v]]), aI n] [] [.one (.sl true 1 ((List.replicate n v).map eI_i64))] [] := by
 refine goF [] [(9, 3, [126976], []), (9, 6, [126976], []), (9, 7, [126976], [126976])] [] func78 ?_
 have hw : IntKind.u64.wrap (n : Int) = n := by
  have : n = 1 ∨ n = 2 ∨ n = 3 ∨ n = 4 ∨ n = 5 := by omega
  rcases this with rfl | rfl | rfl | rfl | rfl <;> rfl
 have hm1 : min n 1 = 1 := by omega
 have hw2 : IntKind.i64.wrap (n : Int) = n := by
  have : n = 1 ∨ n = 2 ∨ n = 3 ∨ n = 4 ∨ n = 5 := by omega
  rcases this with rfl | rfl | rfl | rfl | rfl <;> rfl
 have hA := And.intro hw (And.intro hw2 (hm1))
 refine D ?_
 refine cC (fun c0 => ?_) (fun c0 => ?_)
 · skip
   omega
 · skip
   refine D ?_
   refine kR (s_math_bits_Mul 1 n (by omega) (by omega) (by omega) (by omega)) ?_
   refine D ?_
   refine cC (fun c1 => ?_) (fun c1 => ?_)
   · skip
     omega
   · skip
     refine D ?_
     refine L (α := Nat) (fun k => [(8, .int .i64 k)]) (fun k => [(126976, .arr ⟨1, repV v k n, repVer k, none⟩)]) (fun k => n - k) (fun k => 1 ≤ k ∧ k ≤ n ∧ (k = 1 ∨ k = 2 ∨ k = 4 ∨ k = n)) 1 [] (fun k hL => ?_) (by simp only [go_sem, hA] <;> and_intros <;> first | with_reducible exact rfl | (first | omega | exact arr_eq (repV_0 h1) rfl)) (by omega)
     obtain ⟨hk1, hk2, hk3⟩ := hL
     refine D ?_
     refine cC (fun c2 => ?_) (fun c2 => ?_)
     · skip
       have hlk : (repV v k n).length = n := repV_len hk2
       have hmk : min (n - k) (min k n) = min (n - k) k := by omega
       have hmk2 : min (n - k) k + (n - k - min (n - k) k) = n - k := by omega
       have hA := And.intro hA (And.intro hlk (And.intro hmk (hmk2)))
       refine D ?_
       refine lp_next (k + min (n - k) k) [] ?_ ?_ ?_
       · simp only [go_sem, hA] <;> and_intros <;> first | with_reducible exact rfl | (first | omega | (refine arr_eq (by rw [← repV_step hk2, List.take_take]) ?_; unfold repVer; (repeat' split) <;> omega))
       · omega
       · omega
     · skip
       obtain rfl : k = n := by omega
       have hlk := repV_len (v := v) (Nat.le_refl k)
       have hal : List.take k (repV v k k) = (List.replicate k v).map eI_i64 := by rw [List.take_of_length_le (by omega), repV_all]
       have hA := And.intro hA (And.intro hlk (hal))
       refine D ?_
       exact E trivial
section
attribute [local go_sem] rep_I set_map_I led
theorem s_impl_Node_lead (x : Node) (hx : limN 2097152 x) (h0 : 0 ≤ x.commit) (h1 : x.commit ≤ x.log.length) (p1 : 1 ≤ x.peers) (p2 : x.peers ≤ 5) (p3 : 0 ≤ x.id) (p4 : x.id < x.peers) : SemX prog 53 [.one (.ptr 0 0)] [.var (eNode true x)] [] [.var (eNode true (leadOf x))] := by
 refine goF [(32, ⟨some 1, none, none, none⟩)] [(1, 5, [1000000], []), (1, 6, [1000005], []), (1, 8, [], [69632]), (1, 12, [1000000], []), (1, 13, [69632], [90112]), (1, 17, [1000000], []), (1, 18, [], [110592]), (1, 21, [1000000], [1000000]), (1, 24, [1000000], [1000000]), (2, 3, [1000000], []), (2, 7, [1000000], []), (2, 11, [1000000], []), (2, 12, [1000005], []), (2, 13, [110592], []), (2, 14, [110592], [110592])] [] func53 ?_
 obtain ⟨hx1, hx2, hx3, hx4⟩ := id hx
 have hll : limN 2097152 (led x) := ⟨hx.1, by simp [led], by simp [led]; omega, by simp [led]; omega⟩
 refine D ?_
 refine kD (s_impl_size_Entry (x.log.map eEntry)) ?_
 refine D ?_
 refine kD (s_slices_Repeat_int64 (x.log.length + 1) x.peers.toNat (by omega) (by omega)) ?_
 refine D ?_
 refine kD (s_impl_size_Entry (x.log.map eEntry)) ?_
 refine D ?_
 refine kR (s_impl_Node_isQuorum (led x) 1 (by omega) (by omega)) ?_
 refine D ?_
 refine cC (fun c0 => ?_) (fun c0 => ?_)
 · skip
   refine D ?_
   refine kRk [1000000] [] [1000005, 90112, 110592] (s_impl_Node_agree (led x) hll h0 h1) ?_
   refine D ?_
   refine E ?_
   simp [leadOf, led]
 · skip
   refine D ?_
   refine E ?_
   have hq : quor x 1 = false := c0
   simp [agreed_led hq h0 h1, led]
end
section
attribute [local go_sem] asking
theorem s_impl_TimeoutNode (x : Node) (hx : limN 2097152 x) : SemX prog 23 [aS (eNode false x)] [] [.agg (eNodeResult true (timeoutNode x))] [] := by
 refine goF [(58, ⟨some 1, none, none, none⟩)] [(10, 1, [8192], []), (10, 3, [8192], []), (10, 4, [], [143360]), (10, 6, [20480], [20480]), (10, 8, [20480], [20480]), (10, 10, [20480], [20480])] [] func23 ?_
 obtain ⟨hx1, hx2, hx3, hx4⟩ := id hx
 refine D ?_
 refine kR (s_impl_NodeFault x hx) ?_
 refine D ?_
 refine cC (fun c0 => ?_) (fun c0 => ?_)
 · skip
   refine D ?_
   refine E ?_
   have he : timeoutNode x = badN (nodeFault x) := by unfold timeoutNode; rw [if_pos c0]
   simp [he, badN, zNode]
 · skip
   refine D ?_
   refine cC (fun c1 => ?_) (fun c1 => ?_)
   · skip
     refine D ?_
     refine E ?_
     have he : timeoutNode x = badN 10 := by unfold timeoutNode; rw [if_neg (by omega), if_pos c1]
     simp [he, badN, zNode]
   · skip
     refine D ?_
     refine cC (fun c2 => ?_) (fun c2 => ?_)
     · skip
       refine D ?_
       refine E ?_
       have he : timeoutNode x = badN 3 := by unfold timeoutNode; rw [if_neg (by omega), if_neg c1, if_pos c2]
       simp [he, badN, zNode]
     · skip
       obtain ⟨⟨p1, p2, p3, p4, p5, p6, _⟩, _, _, ⟨p10, p11⟩, _⟩ := node_ok c0
       have hla : limN 2097152 (asking x) := ⟨hx.1, by simp [asking], hx.2.2.1, hx.2.2.2⟩
       refine D ?_
       refine kR (s_impl_Node_copied x hx) ?_
       refine D ?_
       refine kRk [24576] [] [106496] (s_impl_Node_others_2 (asking x) x (asking x) (by simp [asking]; omega) (by simpa [asking] using p2) 49 (votesTo x) (votes_len x) (by kernel_rfl) (fun i h1 h2 => to_step x hx p2 i h1 h2) (fun i h => votes_skip h)) ?_
       refine D ?_
       refine kR (s_impl_Node_isQuorum (asking x) 1 (by omega) (by omega)) ?_
       refine D ?_
       refine cC (fun c3 => ?_) (fun c3 => ?_)
       · skip
         refine D ?_
         refine kRk [20480] [] [102404, 143360, 102408, 102409] (s_impl_Node_lead (asking x) hla p10 p11 p1 p2 p3 p4) ?_
         refine D ?_
         refine E ?_
         have hq : quor x 1 = true := c3
         have he : timeoutNode x = ⟨0, leadOf (asking x), votesTo x x.peers.toNat⟩ := by unfold timeoutNode; rw [if_neg (by omega), if_neg c1, if_neg c2, if_pos hq]
         simp [he, asking]
       · skip
         refine D ?_
         refine E ?_
         have hq : quor x 1 = false := c3
         have he : timeoutNode x = ⟨0, asking x, votesTo x x.peers.toNat⟩ := by unfold timeoutNode; rw [if_neg (by omega), if_neg c1, if_neg c2, if_neg (by rw [hq]; simp)]
         simp [he, asking, eI_i64]
end
theorem s_impl_TimeoutAt (x : Cluster) (hx : limC 2097152 x) (p : Int) : SemX prog 10 [aS (eCluster false x), aI p] [] [.agg (eClusterResult true (atNode x p (timeoutNode (x.nodes.getD p.toNat zNode))))] [] := by
 refine goF [] [] [] func10 ?_
 obtain ⟨⟨hn, hN⟩, ⟨hm, hM⟩, hw, hs⟩ := id hx
 refine D ?_
 refine kR (s_impl_onNode x hx p 23 (timeoutNode (x.nodes.getD p.toNat zNode)) (by kernel_rfl) (by rintro n rfl hn2; exact s_impl_TimeoutNode _ ((all_getD zNode).2 hN n hn2)) (timeout_lim (by omega) (lim_getD hN _)) (timeout_commit _) (by rintro n rfl hn2 hcf h; exact (timeout_id h).trans (cl_nodes hcf hn2).2.1)) ?_
 refine D ?_
 exact E trivial
theorem s_impl_leadFault (x : Node) (hx : limN 2097152 x) : SemX prog 54 [aS (eNode false x)] [] [rI (leadF x)] [] := by
 refine goF [] [] [] func54 ?_
 refine D ?_
 refine kR (s_impl_NodeFault x hx) ?_
 refine D ?_
 refine cC (fun c0 => ?_) (fun c0 => ?_)
 · skip
   refine D ?_
   refine E ?_
   first
   | exact trivial
   | unfold leadF
     grind
 · skip
   refine D ?_
   refine E ?_
   first
   | exact trivial
   | unfold leadF
     grind
theorem s_impl_SpreadNode_1 (x : Node) (hx : limN 2097152 x) (i k : Nat) (hi : i < x.next.length) (hk : x.next.getD i zI_i64 = k + 1) (hk2 : k ≤ x.log.length) (R : List (List T)) (hR : R.length ≤ 100) : SemX prog 55 [aI i, aT (.ptr (eNode false x)), aT (.ptr (eNode false x)), .one (.ptr 0 0)] [.var [.sl true 9 R]] [] [.var [.sl true 9 (R ++ [eMail true (spreadM x i k)])]] := by
 refine goF [(26, ⟨some 1, none, none, none⟩), (68, ⟨some 1, none, none, none⟩)] [(3, 10, [], [163840]), (3, 12, [28672], [28672])] [] func55 ?_
 obtain ⟨hx1, hx2, hx3, hx4⟩ := id hx
 have hmin : (if (x.log.length : Int) < k + 4 then (x.log.length : Int) else k + 4) = ((min x.log.length (k + 4) : Nat) : Int) := by split <;> omega
 have hA := And.intro hk (hmin)
 refine D ?_
 refine kR (s_impl_last (x.log.take k) (by simp; omega)) ?_
 refine D ?_
 refine kD (s_impl_size_Entry (x.log.map eEntry)) ?_
 refine D ?_
 refine kD (s_slices_Clone_Entry ((x.log.take (min x.log.length (k + 4))).drop k) (by simp; omega)) ?_
 refine D ?_
 refine E ?_
 first
 | exact trivial
 | simp [spreadM, take_drop_take, List.take_of_length_le]
theorem sp_step (x : Node) (hx : limN 2097152 x) (nf0 : nodeFault x = 0) (nr : x.role = 2) (hp : x.peers ≤ 5) (i : Nat) (h1 : (i : Int) < x.peers) (h2 : (i : Int) ≠ x.id) : SemX prog 55 [aI i, aT (.ptr (eNode false x)), aT (.ptr (eNode false x)), .one (.ptr 0 0)] [.var [.sl true 9 ((spreads x i).map (eMail true))]] [] [.var [.sl true 9 ((spreads x (i + 1)).map (eMail true))]] := by
  obtain ⟨n1, n2, n3, n4, _⟩ := next_ok nf0 nr h1
  have hl := spreads_len x i
  have := s_impl_SpreadNode_1 x hx i (nextK x i) n1 n3 n4 ((spreads x i).map (eMail true)) (by simp; omega)
  rw [spreads_succ h2, List.map_append]
  exact this
theorem s_impl_SpreadNode (x : Node) (hx : limN 2097152 x) : SemX prog 24 [aS (eNode false x)] [] [.agg (eNodeResult true (spreadNode x))] [] := by
 refine goF [] [] [] func24 ?_
 obtain ⟨hx1, hx2, hx3, hx4⟩ := id hx
 refine D ?_
 refine kR (s_impl_leadFault x hx) ?_
 refine D ?_
 refine cC (fun c0 => ?_) (fun c0 => ?_)
 · skip
   refine D ?_
   refine E ?_
   have he : spreadNode x = badN (leadF x) := by unfold spreadNode; rw [if_pos c0]
   simp [he, badN, zNode]
 · skip
   obtain ⟨nf0, nr⟩ := leadF_ok c0
   obtain ⟨⟨p1, p2, p3, p4, _⟩, _⟩ := node_ok nf0
   refine D ?_
   refine kR (s_impl_Node_copied x hx) ?_
   refine D ?_
   refine kRk [24576] [] [61440] (s_impl_Node_others x x x (by omega) (by omega) 55 (spreads x) (spreads_len x) (by kernel_rfl) (fun i h1 h2 => sp_step x hx nf0 nr (by omega) i h1 h2) (fun i h => spreads_skip h)) ?_
   refine D ?_
   refine E ?_
   have he : spreadNode x = ⟨0, x, spreads x x.peers.toNat⟩ := by unfold spreadNode; rw [if_neg (by omega)]
   simp [he]
theorem s_impl_SpreadAt (x : Cluster) (hx : limC 2097152 x) (p : Int) : SemX prog 11 [aS (eCluster false x), aI p] [] [.agg (eClusterResult true (atNode x p (spreadNode (x.nodes.getD p.toNat zNode))))] [] := by
 refine goF [] [] [] func11 ?_
 obtain ⟨⟨hn, hN⟩, ⟨hm, hM⟩, hw, hs⟩ := id hx
 refine D ?_
 refine kR (s_impl_onNode x hx p 24 (spreadNode (x.nodes.getD p.toNat zNode)) (by kernel_rfl) (by rintro n rfl hn2; exact s_impl_SpreadNode _ ((all_getD zNode).2 hN n hn2)) (spread_lim (by omega) (lim_getD hN _)) (spread_commit _) (by rintro n rfl hn2 hcf h; exact (spread_id h).trans (cl_nodes hcf hn2).2.1)) ?_
 refine D ?_
 exact E trivial
section
attribute [local go_sem] asked set_map_I app_map_E
theorem s_impl_AskNode (x : Node) (hx2 : limN 2097152 x) (e : Entry) : SemX prog 26 [aS (eNode false x), aS (eEntry e)] [] [.agg (eNodeResult true (askNode x e))] [] := by
 refine goF [(108, ⟨some 1, none, none, none⟩)] [(12, 1, [28672], []), (12, 3, [12288], []), (12, 5, [28672], []), (12, 7, [12288], []), (12, 9, [28672], []), (12, 10, [155648], []), (12, 12, [28672], []), (12, 13, [155648], []), (12, 15, [135177], []), (12, 16, [135177], [135177]), (12, 17, [135176], []), (12, 18, [135176], [135176])] [] func26 ?_
 obtain ⟨hx3, hx4, hx5, hx6⟩ := id hx2
 refine D ?_
 refine kR (s_impl_leadFault x hx2) ?_
 refine D ?_
 refine cC (fun c0 => ?_) (fun c0 => ?_)
 · skip
   obtain ⟨nf0, nr⟩ := leadF_ok c0
   refine D ?_
   refine kR (s_impl_EntryFault e) ?_
   refine D ?_
   refine cC (fun c1 => ?_) (fun c1 => ?_)
   · skip
     refine D ?_
     refine E ?_
     have he : askNode x e = badN (entryFault e) := by unfold askNode; grind
     simp [he, badN, zNode, asked]
   · skip
     refine D ?_
     refine cC (fun c2 => ?_) (fun c2 => ?_)
     · skip
       refine D ?_
       refine E ?_
       have he : askNode x e = badN 1 := by unfold askNode; grind
       simp [he, badN, zNode, asked]
     · skip
       refine D ?_
       refine cC (fun c3 => ?_) (fun c3 => ?_)
       · skip
         refine D ?_
         refine E ?_
         have he : askNode x e = badN 2 := by unfold askNode; grind
         simp [he, badN, zNode, asked]
       · skip
         obtain ⟨⟨p1, p2, p3, p4, p5, p6, p7, p8⟩, p9, _, ⟨p10, p11⟩, _⟩ := node_ok (x := x) (by omega)
         obtain ⟨l1, l2⟩ := node_lead (x := x) (by omega) (by omega)
         have l3 := log_le p9
         refine D ?_
         refine kR (s_impl_Node_copied x hx2) ?_
         refine D ?_
         refine kD (s_impl_size_Entry ((x.log ++ [e]).map eEntry)) ?_
         refine D ?_
         refine kD (s_impl_size_Entry ((x.log ++ [e]).map eEntry)) ?_
         refine D ?_
         refine kRk [28672] [] [155648, 135175, 135176, 135177] (s_impl_Node_agree (asked x e) ⟨by simp [asked]; omega, by simpa [asked] using hx2.2.1, by simpa [asked] using hx2.2.2.1, by simpa [asked] using hx2.2.2.2⟩ (by simpa [asked] using p10) (by simp [asked]; omega)) ?_
         refine D ?_
         refine E ?_
         have he : askNode x e = ⟨0, agreed (asked x e), []⟩ := by unfold askNode; grind
         simp [he, badN, zNode, asked]
 · skip
   refine D ?_
   refine cC (fun c1 => ?_) (fun c1 => ?_)
   · skip
     refine D ?_
     refine E ?_
     have he : askNode x e = badN (leadF x) := by unfold askNode leadF at *; grind
     simp [he, badN, zNode]
   · skip
     exact absurd c1 c0
end
theorem s_impl_AskAt_1 (x : Node) (hx2 : limN 2097152 x) (cl sq : Int) (cm : Cmd) : SemX prog 25 [aS (eNode false x), aT (.ptr [.int .i64 cl]), aT (.ptr [.int .i64 sq]), aT (.ptr (eCmd cm))] [] [.agg (eNodeResult true (askNode x ⟨x.term, cl, sq, cm⟩))] [] := by
 refine goF [] [] [] func25 ?_
 refine D ?_
 refine kR (s_impl_AskNode x hx2 ⟨x.term, cl, sq, cm⟩) ?_
 refine D ?_
 exact E trivial
theorem s_impl_AskAt (x : Cluster) (hx : limC 2097152 x) (p : Int) (cl sq : Int) (cm : Cmd) : SemX prog 12 [aS (eCluster false x), aI p, aI cl, aI sq, aS (eCmd cm)] [] [.agg (eClusterResult true (atNode x p (askNode (x.nodes.getD p.toNat zNode) ⟨(x.nodes.getD p.toNat zNode).term, cl, sq, cm⟩)))] [] := by
 refine goF [] [] [] func12 ?_
 obtain ⟨⟨hn, hN⟩, ⟨hm, hM⟩, hw, hs⟩ := id hx
 refine D ?_
 refine kR (s_impl_onNodeAsk x hx p cl sq cm 25 (askNode (x.nodes.getD p.toNat zNode) ⟨(x.nodes.getD p.toNat zNode).term, cl, sq, cm⟩) (by kernel_rfl) (by rintro n rfl hn2; exact s_impl_AskAt_1 _ ((all_getD zNode).2 hN n hn2) cl sq cm) (ask_lim (by omega) (lim_getD hN _) _) (ask_commit _ _) (by rintro n rfl hn2 hcf h; exact (ask_id h).trans (cl_nodes hcf hn2).2.1)) ?_
 refine D ?_
 exact E trivial
theorem s_impl_CrashNode (x : Node) (hx : limN 2097152 x) : SemX prog 27 [aS (eNode false x)] [] [.agg (eNodeResult true (crashNode x))] [] := by
 refine goF [] [(4, 1, [8192], []), (4, 3, [8192], []), (4, 5, [8192], []), (4, 7, [8192], []), (4, 9, [8192], []), (4, 10, [], [86016]), (4, 13, [12288], [12288])] [] func27 ?_
 obtain ⟨hx1, hx2, hx3, hx4⟩ := id hx
 refine D ?_
 refine kR (s_impl_NodeFault x hx) ?_
 refine D ?_
 refine cC (fun c0 => ?_) (fun c0 => ?_)
 · skip
   refine D ?_
   refine E ?_
   have he : crashNode x = badN (nodeFault x) := by unfold crashNode; rw [if_pos (by omega)]
   simp [he, badN, zNode]
 · skip
   refine D ?_
   refine kD (s_slices_Clone_Entry x.log hx1) ?_
   refine D ?_
   refine E ?_
   have he : crashNode x = ⟨0, ⟨x.id, x.peers, x.term, x.voted, x.log, 0, 0, [], [], []⟩, []⟩ := by unfold crashNode; rw [if_neg (by omega)]
   simp [he]
theorem s_impl_CrashAt (x : Cluster) (hx : limC 2097152 x) (p : Int) : SemX prog 13 [aS (eCluster false x), aI p] [] [.agg (eClusterResult true (atNode x p (crashNode (x.nodes.getD p.toNat zNode))))] [] := by
 refine goF [] [] [] func13 ?_
 obtain ⟨⟨hn, hN⟩, ⟨hm, hM⟩, hw, hs⟩ := id hx
 refine D ?_
 refine kR (s_impl_onNode x hx p 27 (crashNode (x.nodes.getD p.toNat zNode)) (by kernel_rfl) (by rintro n rfl hn2; exact s_impl_CrashNode _ ((all_getD zNode).2 hN n hn2)) (crash_lim (lim_getD hN _)) (crash_commit _) (by rintro n rfl hn2 hcf h; exact (crash_id h).trans (cl_nodes hcf hn2).2.1)) ?_
 refine D ?_
 exact E trivial
theorem s_impl_size_Mail (rows : List (List T)) : SemX prog 58 [.one (.t (.sl false 9 rows))] [] [.one (.int .i64 rows.length)] [] := by
 refine goF [] [] [] func58 ?_
 refine D ?_
 exact E trivial
theorem s_impl_CopyMail_1 (N R W S : List (List T)) (m : Mail) (hm : limM 2097152 m) (hR : R.length ≤ 2097152) : SemX prog 31 [.one (.ptr 0 0), aS (eMail false m)] [.var [.sl true 10 N, .sl true 9 R, .sl true 2 W, .sl true 10 S]] [rI (if R.length = 80 then 2 else 0)] [.var [.sl true 10 N, .sl true 9 (if R.length = 80 then R else R ++ [eMail true m]), .sl true 2 W, .sl true 10 S]] := by
 refine goF [] [(3, 4, [1000000], []), (3, 5, [16384], []), (3, 6, [], [73736]), (3, 7, [73736], [77824, 73736]), (3, 8, [1000002, 77824], [81920, 1000002, 77824]), (3, 11, [1000000], [1000000])] [] func31 ?_
 refine D ?_
 refine cC (fun c0 => ?_) (fun c0 => ?_)
 · skip
   refine D ?_
   refine E ?_
   have hc : R.length = 80 := by omega
   simp [hc, List.take_of_length_le]
 · skip
   refine D ?_
   refine kD (s_impl_copiedMail m hm) ?_
   refine D ?_
   refine E ?_
   have hc : ¬ R.length = 80 := by omega
   simp [hc, List.take_of_length_le]
theorem s_impl_CopyMail_1a (N R W S : List (List T)) (m : Mail) (hm : limM 2097152 m) (hR : R.length = 80) : SemX prog 31 [.one (.ptr 0 0), aS (eMail false m)] [.var [.sl true 10 N, .sl true 9 R, .sl true 2 W, .sl true 10 S]] [rI 2] [.var [.sl true 10 N, .sl true 9 R, .sl true 2 W, .sl true 10 S]] := by
  have := s_impl_CopyMail_1 N R W S m hm (by omega)
  simpa only [hR, if_true] using this
theorem s_impl_CopyMail_1b (N R W S : List (List T)) (m : Mail) (hm : limM 2097152 m) (hl : R.length ≤ 2097152) (hR : R.length ≠ 80) : SemX prog 31 [.one (.ptr 0 0), aS (eMail false m)] [.var [.sl true 10 N, .sl true 9 R, .sl true 2 W, .sl true 10 S]] [rI 0] [.var [.sl true 10 N, .sl true 9 (R ++ [eMail true m]), .sl true 2 W, .sl true 10 S]] := by
  have := s_impl_CopyMail_1 N R W S m hm hl
  simpa only [hR, if_false] using this
theorem s_slices_Delete_Mail (R : List (List T)) (i j : Nat) (hij : i < j) (hj : j ≤ R.length) (hl : R.length ≤ 2097152) (hs : cpRows none (R.drop j) = True) (hn : T.noShR (R.take i ++ R.drop j) = True) : SemX prog 59 [.one (.t (.sl true 9 R)), aI i, aI j] [] [.one (.sl true 9 (R.take i ++ R.drop j))] [] := by
 refine goF [(54, ⟨some 7, none, none, none⟩)] [(5, 2, [0], []), (5, 5, [0], []), (5, 6, [0], [0])] [] func59 ?_
 have hA := hs
 refine D ?_
 refine cC (fun c0 => ?_) (fun c0 => ?_)
 · skip
   omega
 · skip
   refine D ?_
   refine E ?_
   rw [if_pos (by omega)]
   exact ⟨congrArg (fun r => [TV.one (T.sl true 9 r)]) (del_rowsR R (by omega) hj _ _ _), rfl, rfl⟩
theorem s_impl_Cluster_drop (N R W S : List (List T)) (n : Nat) (hR : R.length ≤ 2097152) (hn : n < R.length) (hs : cpRows none (R.drop (n + 1)) = True) (hsh : T.noShR (R.take n ++ R.drop (n + 1)) = True) (aN : T.noShR N = True) (aR : T.noShR R = True) (aW : T.noShR W = True) (aS_ : T.noShR S = True) : SemX prog 30 [.one (.ptr 0 0), aI n] [.var [.sl true 10 N, .sl true 9 R, .sl true 2 W, .sl true 10 S]] [] [.var [.sl true 10 N, .sl true 9 (R.take n ++ R.drop (n + 1)), .sl true 2 W, .sl true 10 S]] := by
 refine goF [] [] [] func30 ?_
 have hA := And.intro hs (hsh)
 refine D ?_
 refine kRk [] [1000002] [] (s_slices_Delete_Mail R n (n + 1) (by omega) (by omega) hR hs hsh) ?_
 refine D ?_
 refine E ?_
 first
 | exact trivial
 | rw [List.take_of_length_le (by simp)]
theorem s_impl_DropMail_1 (N R W S : List (List T)) (n : Nat) (hR : R.length ≤ 2097152) (hn : n < R.length) (hs : cpRows none (R.drop (n + 1)) = True) (hsh : T.noShR (R.take n ++ R.drop (n + 1)) = True) (aN : T.noShR N = True) (aR : T.noShR R = True) (aW : T.noShR W = True) (aS_ : T.noShR S = True) (m : Mail) : SemX prog 29 [.one (.ptr 0 0), aS (eMail false m), aT (.ptr [.int .i64 n])] [.var [.sl true 10 N, .sl true 9 R, .sl true 2 W, .sl true 10 S]] [rI 0] [.var [.sl true 10 N, .sl true 9 (R.take n ++ R.drop (n + 1)), .sl true 2 W, .sl true 10 S]] := by
 refine goF [] [] [] func29 ?_
 have hA := And.intro hs (And.intro hsh (And.intro aN (And.intro aR (And.intro aW (aS_)))))
 refine D ?_
 refine kRk [1000000] [] [1000001, 1000002, 1000003, 1000004] (s_impl_Cluster_drop N R W S n hR hn hs hsh aN aR aW aS_) ?_
 refine D ?_
 refine E ?_
 first
 | exact trivial
 | rw [List.take_of_length_le (by simp)]
theorem s_impl_Node_follow (x : Node) (hx : limN 2097152 x) : SemX prog 61 [.one (.ptr 0 0)] [.var (eNode true x)] [] [.var (eNode true (followed x))] := by
 refine goF [] [] [] func61 ?_
 obtain ⟨hx1, hx2, hx3, hx4⟩ := id hx
 refine D ?_
 refine E ?_
 first
 | exact trivial
 | simp [followed]
theorem s_impl_upToDate (log : List Entry) (hl : log.length ≤ 2097152) (index term : Int) : SemX prog 62 [aT (.sl false 9 (log.map eEntry)), aI index, aI term] [] [rB (upM log index term)] [] := by
 refine goF [] [] [] func62 ?_
 refine D ?_
 refine kR (s_impl_last log (by omega)) ?_
 refine D ?_
 refine kRg (s_impl_size_Entry (log.map eEntry)) ?_
 refine D ?_
 refine E ?_
 first
 | exact trivial
 | simp only [go_sem, upM]
theorem s_cmp_isNaN_int64 (a : Int) : SemX prog 99 [aI a] [] [rB false] [] := by
 refine goF [] [] [] func99 ?_
 refine D ?_
 exact E trivial
theorem s_cmp_Less_int64 (a b : Int) : SemX prog 91 [aI a, aI b] [] [rB (decide (a < b))] [] := by
 refine goF [] [] [] func91 ?_
 refine D ?_
 refine kR (s_cmp_isNaN_int64 _) ?_
 refine D ?_
 refine kRg (s_cmp_isNaN_int64 _) ?_
 refine D ?_
 exact E trivial
theorem s_slices_isNaN_int64 (a : Int) : SemX prog 92 [aI a] [] [rB false] [] := by
 refine goF [] [] [] func92 ?_
 refine D ?_
 exact E trivial
theorem s_slices_BinarySearch_int64 (xs : List Int) (v : Int) (hr : rises xs) (hl : xs.length ≤ 2097152) : SemX prog 79 [aT (.sl false 1 (xs.map eI_i64)), aI v] [] [rI (lbn xs v), rB (hasI xs v)] [] := by
 refine goF [] [] [] func79 ?_
 refine D ?_
 refine L (α := Nat × Nat) (fun p => [(7, .int .i64 p.1), (8, .int .i64 p.2)]) (fun p => []) (fun p => p.2 - p.1) (fun p => p.1 ≤ p.2 ∧ p.2 ≤ xs.length ∧ (∀ q, q < p.1 → xs.getD q zI_i64 < v) ∧ (∀ q, p.2 ≤ q → q < xs.length → v ≤ xs.getD q zI_i64)) (0, xs.length) [] (fun x0 hL => ?_) (hi := by exact ⟨Nat.zero_le _, Nat.le_refl _, fun q h => by omega, fun q h1 h2 => by omega⟩)
 obtain ⟨i, j⟩ := x0
 obtain ⟨hij, hj, hlo, hup⟩ := hL
 try dsimp only at *
 refine D ?_
 refine cC (fun c0 => ?_) (fun c0 => ?_)
 · skip
   have hhf := half_nat i j (by omega)
   have hw1 : IntKind.u64.wrap ((i : Int) + j) = i + j := by have := wrap_u (i + j) (by omega); simpa using this
   have hw2 : IntKind.i64.wrap (((i + j) / 2 : Nat) : Int) = ((i + j) / 2 : Nat) := wrap_small (by omega) (by omega)
   have hA := And.intro hhf (And.intro hw1 (hw2))
   refine D ?_
   refine kR (s_cmp_Less_int64 _ _) ?_
   refine D ?_
   refine cC (fun c1 => ?_) (fun c1 => ?_)
   · skip
     refine D ?_
     refine N ((i + j) / 2 + 1, j) [] (hi := ?_) (hm := ?_)
     · dsimp only
       refine ⟨by omega, by omega, fun q hq => ?_, hup⟩
       by_cases e : q = (i + j) / 2
       · subst e; exact c1
       · have := rises_lt hr (i := q) (j := (i + j) / 2) (by omega) (by omega); omega
     · try dsimp only
       omega
   · skip
     refine D ?_
     refine N (i, (i + j) / 2) [] (hi := ?_) (hm := ?_)
     · dsimp only
       refine ⟨by omega, by omega, hlo, fun q h1 h2 => ?_⟩
       by_cases e : q = (i + j) / 2
       · subst e; omega
       · have := rises_lt hr (i := (i + j) / 2) (j := q) (by omega) (by omega); omega
     · try dsimp only
       omega
 · skip
   refine D ?_
   refine kRg (s_slices_isNaN_int64 _) ?_
   refine D ?_
   refine kRg (s_slices_isNaN_int64 _) ?_
   refine D ?_
   refine E ?_
   first
   | exact trivial
   | have hb : lbn xs v = i := lbn_eq (by omega) hlo (fun h => hup i (by omega) h)
     simp [hasI, hb]
theorem s_slices_Insert_int64 (R V : List (List T)) (i : Nat) (hi : i ≤ R.length) (hv : 1 ≤ V.length) (hl : R.length + V.length ≤ 2097152) (fR : ∀ r ∈ R, ∀ t ∈ r, t.flat = true) (fV : ∀ r ∈ V, ∀ t ∈ r, t.flat = true) : SemX prog 80 [.one (.t (.sl true 1 R)), aI i, .one (.t (.sl true 1 V))] [] [.one (.sl true 1 (R.take i ++ V ++ R.drop i))] [] := by
 refine goFC 0 [(82, ⟨none, none, some (2, true), none⟩), (110, ⟨some 10, none, none, none⟩), (156, ⟨some 10, none, none, none⟩)] [(11, 4, [167936], []), (11, 7, [0], []), (11, 8, [167936, 0], [167936]), (15, 4, [0], []), (15, 7, [0], []), (15, 8, [0], [0])] [] func80 (fun cp hcp hcp2 => ?_)
 have hcp3 : R.length ≤ cp := hcp
 have hcV : cpRows (some (0, 0)) V = True := eq_true fV
 have hcT : cpRows (some (0, 0)) (List.take i R) = True := eq_true fun r hr => fR r (List.mem_of_mem_take hr)
 have hcD : cpRows (some (0, 0)) (List.drop i R) = True := eq_true fun r hr => fR r (List.mem_of_mem_drop hr)
 have hX1 : List.take i (R ++ roomR 1 (cp - R.length)) = List.take i R := List.take_append_of_le_length hi
 have hX2 : List.take R.length (R ++ roomR 1 (cp - R.length)) = R := List.take_left' rfl
 have hX3 : List.take (R.length - i) (List.drop i (R ++ roomR 1 (cp - R.length))) = List.drop i R := by rw [List.drop_append_of_le_length hi]; exact List.take_left' (by simp)
 have hA := And.intro hcV (And.intro hcT (And.intro hcD (And.intro hX1 (And.intro hX2 (hX3)))))
 refine D ?_
 refine cC (fun c0 => ?_) (fun c0 => ?_)
 · skip
   omega
 · skip
   refine D ?_
   refine cC (fun c1 => ?_) (fun c1 => ?_)
   · skip
     refine D ?_
     refine E ?_
     obtain rfl : i = R.length := by omega
     simp [List.take_of_length_le]
   · skip
     refine D ?_
     refine cC (fun c2 => ?_) (fun c2 => ?_)
     · skip
       refine D ?_
       refine E ?_
       rw [if_pos (by omega)]
       exact ⟨congrArg (fun r => [TV.one (T.sl true 1 r)]) (ins_grow (by omega) (by omega) (by omega) (by omega) (by omega)), rfl, rfl⟩
     · skip
       refine D ?_
       refine kOv (⟨_, 36, 4, 2, 1, func93, by kernel_rfl, by kernel_rfl, by kernel_rfl, by kernel_rfl, by kernel_rfl, by kernel_rfl⟩ : OvlOk prog 93) ?_
       refine D ?_
       refine cT ?_
       refine D ?_
       refine E ?_
       rw [if_pos (by omega)]
       exact ⟨congrArg (fun r => [TV.one (T.sl true 1 r)]) (ins_room (by omega) (by simp [roomR_len]; omega) (by omega) (by omega) (by omega) (by omega) (by omega)), rfl, rfl⟩
theorem s_rise_I (xs : List Int) (v : Int) (hl : xs.length + 1 ≤ 2097152) (h : hasI xs v = false) : SemX prog 80 [.one (.t (.sl true 1 (xs.map eI_i64))), aI (lbn xs v), .one (.t (.sl true 1 [[.int .i64 v]]))] [] [.one (.sl true 1 ((riseL xs v).map eI_i64))] [] := by
  have := s_slices_Insert_int64 (xs.map eI_i64) [[.int .i64 v]] (lbn xs v) (by simpa using lbn_le xs v) (by simp) (by simpa using hl) (flat_I xs) (by simp [T.flat])
  rwa [← riseL_no h] at this
section
attribute [local go_sem] riseN
theorem s_impl_Node_granted (x : Node) (hx : limN 2097152 x) (h0 : 0 ≤ x.commit) (h1 : x.commit ≤ x.log.length) (p1 : 1 ≤ x.peers) (p2 : x.peers ≤ 5) (p3 : 0 ≤ x.id) (p4 : x.id < x.peers) (nv : rises x.votes) (nl : x.votes.length ≤ 100) (m : Mail) (hme : m.entries.length ≤ 2097152) : SemX prog 63 [.one (.ptr 0 0), aS (eMail false m)] [.var (eNode true x)] [] [.var (eNode true (grantedN x m))] := by
 refine goF [] [(1, 1, [16384], []), (1, 5, [16384], []), (1, 9, [1000000], []), (1, 16, [1000000], []), (2, 3, [1000000], []), (2, 5, [16384], []), (2, 6, [1000008], []), (4, 4, [1000000], []), (4, 7, [16384], []), (4, 8, [], [188416]), (4, 9, [1000008, 188416], [1000008, 188416, 192512]), (4, 12, [1000000], [1000000])] [] func63 ?_
 obtain ⟨hx1, hx2, hx3, hx4⟩ := id hx
 have hl4 := riseL_len x.votes m.from_
 have hlr : limN 2097152 (riseN x m) := ⟨hx.1, by simp [riseN]; omega, hx.2.2.1, hx.2.2.2⟩
 refine D ?_
 refine cC (fun c0 => ?_) (fun c0 => ?_)
 · skip
   refine D ?_
   refine E ?_
   have hg : (m.ok && decide (m.term = x.term) && decide (x.role = 1)) = false := by rcases c0 with (h | h) | h <;> simp [h]
   simp [grantedN, hg]
 · skip
   refine D ?_
   refine kD (s_slices_BinarySearch_int64 x.votes m.from_ nv hx.2.1) ?_
   refine D ?_
   refine cC (fun c1 => ?_) (fun c1 => ?_)
   · skip
     refine D ?_
     refine kDk [] [1000008, 188416] [] (s_rise_I x.votes m.from_ (by omega) c1) ?_
     refine D ?_
     refine kR (s_impl_Node_isQuorum (riseN x m) (riseL x.votes m.from_).length (by omega) (by omega)) ?_
     refine D ?_
     refine cC (fun c2 => ?_) (fun c2 => ?_)
     · skip
       refine D ?_
       refine kRk [1000000] [] [1000005, 192512, 1000009, 1000010] (s_impl_Node_lead (riseN x m) hlr h0 h1 p1 p2 p3 p4) ?_
       refine D ?_
       refine E ?_
       have hg : (m.ok && decide (m.term = x.term) && decide (x.role = 1)) = true := by revert c0; cases m.ok <;> simp
       have he : grantedN x m = leadOf (riseN x m) := by unfold grantedN; rw [if_pos hg]; exact if_pos c2
       first | (rw [he]; done) | (rw [he]; exact rfl)
     · skip
       refine D ?_
       refine E ?_
       have hg : (m.ok && decide (m.term = x.term) && decide (x.role = 1)) = true := by revert c0; cases m.ok <;> simp
       have he : grantedN x m = riseN x m := by unfold grantedN; rw [if_pos hg]; exact if_neg (by intro h; exact absurd (h.symm.trans c2) (by simp))
       first | (rw [he]; done) | (rw [he]; exact rfl)
   · skip
     have hrv := riseL_has c1
     have hA := hrv
     refine D ?_
     refine kR (s_impl_Node_isQuorum (riseN x m) (riseL x.votes m.from_).length (by omega) (by omega)) ?_
     refine D ?_
     refine cC (fun c2 => ?_) (fun c2 => ?_)
     · skip
       refine D ?_
       refine kRk [1000000] [] [1000005, 1000008, 1000009, 1000010] (s_impl_Node_lead (riseN x m) hlr h0 h1 p1 p2 p3 p4) ?_
       refine D ?_
       refine E ?_
       have hg : (m.ok && decide (m.term = x.term) && decide (x.role = 1)) = true := by revert c0; cases m.ok <;> simp
       have hrx : riseN x m = x := by unfold riseN; rw [hrv]
       have he : grantedN x m = leadOf x := by unfold grantedN; rw [if_pos hg, hrx]; exact if_pos c2
       first | (rw [he]; done) | (rw [he]; exact rfl)
     · skip
       refine D ?_
       refine E ?_
       have hg : (m.ok && decide (m.term = x.term) && decide (x.role = 1)) = true := by revert c0; cases m.ok <;> simp
       have hrx : riseN x m = x := by unfold riseN; rw [hrv]
       have he : grantedN x m = x := by unfold grantedN; rw [if_pos hg, hrx]; exact if_neg (by intro h; exact absurd (h.symm.trans c2) (by simp))
       rw [he]
end
theorem s_impl_CommonOf (a b : List Entry) (ha : a.length ≤ 2097152) (hb : b.length ≤ 2097152) : SemX prog 7 [aT (.sl false 9 (a.map eEntry)), aT (.sl false 9 (b.map eEntry))] [] [rI (commonN a b)] [] := by
 refine goF [] [] [] func7 ?_
 refine D ?_
 refine L (α := Nat) (fun i => [(5, .int .i64 i)]) (fun i => []) (fun i => min a.length b.length - i) (fun i => i ≤ min a.length b.length ∧ ∀ q, q < i → eqEn (a.getD q zEntry) (b.getD q zEntry) = true) 0 [] (fun i hL => ?_) (hi := by exact ⟨Nat.zero_le _, fun q h => by omega⟩)
 obtain ⟨hi, hlo⟩ := hL
 refine D ?_
 refine cC (fun c0 => ?_) (fun c0 => ?_)
 · skip
   refine D ?_
   refine N (i+1) [] (hi := ?_) (hm := ?_)
   · obtain ⟨d1, d2⟩ := c0
     have d3 : eqEn (a.getD i zEntry) (b.getD i zEntry) = true := by simp only [eqEn, Bool.and_eq_true, decide_eq_true_eq]; exact d2
     have d4 : i < a.length ∧ i < b.length := by first | omega | (split at d1 <;> omega)
     refine ⟨by omega, fun q hq => ?_⟩
     by_cases e : q = i
     · subst e; exact d3
     · exact hlo q (by omega)
   · obtain ⟨d1, d2⟩ := c0
     have d3 : eqEn (a.getD i zEntry) (b.getD i zEntry) = true := by simp only [eqEn, Bool.and_eq_true, decide_eq_true_eq]; exact d2
     have d4 : i < a.length ∧ i < b.length := by first | omega | (split at d1 <;> omega)
     omega
 · skip
   refine D ?_
   refine E ?_
   first
   | exact trivial
   | have c9 : (decide ((i : Int) < if (b.length : Int) < a.length then (b.length : Int) else a.length) && eqEn (a.getD i zEntry) (b.getD i zEntry)) = false := c0
     have hcn : commonN a b = i := tw_range hi hlo (fun h => by
      cases he : eqEn (a.getD i zEntry) (b.getD i zEntry)
      · rfl
      · rw [he] at c9; simp at c9; first | omega | (split at c9 <;> omega))
     rw [hcn]
theorem s_impl_fits (log : List Entry) (hl : log.length ≤ 2097152) (index term : Int) : SemX prog 81 [aT (.sl false 9 (log.map eEntry)), aI index, aI term] [] [rB (fitsM log index term)] [] := by
 refine goF [] [] [] func81 ?_
 refine D ?_
 refine cC (fun c0 => ?_) (fun c0 => ?_)
 · skip
   refine D ?_
   refine E ?_
   simp [fitsM, c0]
 · skip
   refine D ?_
   refine kR (s_impl_size_Entry (log.map eEntry)) ?_
   refine D ?_
   refine kR (s_impl_in _ _ _) ?_
   refine D ?_
   refine E ?_
   refine ⟨inR_idx hl, ?_⟩
   simp [fitsM, c0]
theorem s_impl_take (log more : List Entry) (i : Nat) (hi : i ≤ log.length) (hl : log.length ≤ 2097152) (hm : more.length ≤ 2097152) : SemX prog 95 [aT (.sl false 9 (log.map eEntry)), aI i, aT (.sl false 9 (more.map eEntry))] [] [.agg (eEntriesResult true (takeR log more i))] [] := by
 refine goF [(46, ⟨some 1, none, none, none⟩)] [(6, 2, [53248], []), (6, 7, [53248], []), (6, 9, [53248], []), (6, 11, [40960], []), (7, 2, [53248], []), (7, 6, [53248], [180224, 53248])] [] func95 ?_
 refine D ?_
 refine kR (s_slices_Clone_Entry log hl) ?_
 refine D ?_
 refine L (α := Nat) (fun k => [(15, .int .i64 k)]) (fun k => []) (fun k => more.length - k) (fun k => k ≤ more.length ∧ i + k ≤ log.length ∧ ∀ q, q < k → bad7 log more i q = false) 0 [] (fun k hL => ?_) (hi := by exact ⟨Nat.zero_le _, hi, fun q h => by omega⟩)
 obtain ⟨hk, hik, hlo⟩ := hL
 have hmi : min (i + k) log.length = i + k := by omega
 have hA := hmi
 refine D ?_
 refine cC (fun c0 => ?_) (fun c0 => ?_)
 · skip
   refine D ?_
   refine kD (s_impl_size_Entry (log.map eEntry)) ?_
   refine D ?_
   refine cC (fun c1 => ?_) (fun c1 => ?_)
   · skip
     refine D ?_
     refine N (k+1) [] (hi := ?_) (hm := ?_)
     · have hb : bad7 log more i k = false := by
        simp [bad7, -List.getD_eq_getElem?_getD]
        exact ⟨by omega, c1.2⟩
       refine ⟨by omega, by omega, fun q hq => ?_⟩
       by_cases e : q = k
       · subst e; exact hb
       · exact hlo q (by omega)
     · omega
   · skip
     refine D ?_
     refine cC (fun c2 => ?_) (fun c2 => ?_)
     · skip
       refine D ?_
       refine E ?_
       have hb : bad7 log more i k = true := by
        simp [-List.getD_eq_getElem?_getD] at c1
        simp [bad7, -List.getD_eq_getElem?_getD]
        by_cases h : log.length ≤ i + k
        · exact .inl h
        · exact .inr (c1 (by omega))
       have ht := take7_at (by omega) hlo hb
       have hl4 : (take7 log more i).length = i + k + (more.length - k) := by rw [ht]; simp; omega
       have he : takeR log more i = ⟨2, []⟩ := by unfold takeR; rw [if_pos (by rw [hl4]; omega)]
       simp [he]
     · skip
       refine D ?_
       refine E ?_
       have hb : bad7 log more i k = true := by
        simp [-List.getD_eq_getElem?_getD] at c1
        simp [bad7, -List.getD_eq_getElem?_getD]
        by_cases h : log.length ≤ i + k
        · exact .inl h
        · exact .inr (c1 (by omega))
       have ht := take7_at (by omega) hlo hb
       have hl4 : (take7 log more i).length = i + k + (more.length - k) := by rw [ht]; simp; omega
       have he : takeR log more i = ⟨0, List.take (i + k) log ++ List.drop k more⟩ := by unfold takeR; rw [if_neg (by rw [hl4]; omega), ht]
       simp [he]
       exact List.take_of_length_le (by simp; omega)
 · skip
   refine D ?_
   refine cC (fun c2 => ?_) (fun c2 => ?_)
   · skip
     refine D ?_
     refine E ?_
     have ht := take7_all (log := log) (more := more) (i := i) (fun q hq => hlo q (by omega))
     have he : takeR log more i = ⟨2, []⟩ := by unfold takeR; rw [if_pos (by rw [ht]; omega)]
     simp [he]
   · skip
     refine D ?_
     refine E ?_
     have ht := take7_all (log := log) (more := more) (i := i) (fun q hq => hlo q (by omega))
     have he : takeR log more i = ⟨0, log⟩ := by unfold takeR; rw [if_neg (by rw [ht]; omega), ht]
     simp [he]
theorem s_impl_TakeEntries (log more : List Entry) (index term : Int) (hl : log.length ≤ 2097152) (hm : more.length ≤ 2097152) (h1 : logFault log = 0) (h2 : logFault more = 0) (h3 : fitsM log index term = true) (h4 : 0 < more.length → term ≤ (more.getD 0 zEntry).term) : SemX prog 82 [aT (.sl false 9 (log.map eEntry)), aI index, aI term, aT (.sl false 9 (more.map eEntry))] [] [.agg (eEntriesResult true (takeR log more index.toNat))] [] := by
 refine goF [] [] [] func82 ?_
 obtain ⟨n, rfl, hn⟩ := fits_nat hl h3
 have hA := And.intro h1 (And.intro h2 (h3))
 refine D ?_
 refine kR (s_impl_LogFault log (by omega)) ?_
 refine D ?_
 refine cT ?_
 refine D ?_
 refine kR (s_impl_LogFault more (by omega)) ?_
 refine D ?_
 refine cF ?_
 refine D ?_
 refine kR (s_impl_fits log hl n term) ?_
 refine D ?_
 refine cF ?_
 refine D ?_
 refine cC (fun c3 => ?_) (fun c3 => ?_)
 · skip
   have := h4 (by omega)
   omega
 · skip
   refine D ?_
   refine kR (s_impl_take log more n hn hl hm) ?_
   refine D ?_
   exact E trivial
section
attribute [local go_sem] followed baseM
theorem s_impl_Node_append (x : Node) (hx : limN 2097152 x) (h0 : 0 ≤ x.commit) (h1 : x.commit ≤ x.log.length) (m : Mail) (hme : m.entries.length ≤ 2097152) (lf : logFault x.log = 0) (mf : logFault m.entries = 0) (mt : 0 < m.entries.length → m.last ≤ (m.entries.getD 0 zEntry).term) (hi0 : 0 ≤ m.index) (hi9 : m.index ≤ 40) : SemX prog 64 [.one (.ptr 0 0), aS (eMail false m), .one (.ptr 1 0)] [.var (eNode true x), .var (eMail true (baseM x m))] [rI (takenC x m)] [.var (eNode true (takenN x m)), .var (eMail true (takenM x m))] := by
 refine goF [(76, ⟨some 1, none, none, none⟩), (178, ⟨some 1, none, none, none⟩)] [(1, 1, [20480], []), (1, 5, [1000000], []), (6, 3, [1000000], []), (6, 5, [20480], []), (6, 7, [20480], []), (6, 8, [99332], []), (7, 2, [20480], []), (7, 7, [1000000], []), (7, 8, [99332], []), (7, 12, [1001000], [1001000]), (9, 3, [1000000], []), (9, 5, [20480], []), (9, 7, [20480], []), (9, 9, [20480], []), (9, 10, [99332], [233473]), (9, 11, [], [32768]), (9, 12, [32768], [32768]), (12, 3, [1000000], []), (12, 5, [32768], []), (12, 6, [99332, 233473], []), (12, 10, [1000000], []), (15, 3, [20480], []), (15, 5, [20480], []), (15, 10, [1001000], [1001000]), (15, 13, [1001000], [1001000]), (16, 4, [1000000], []), (16, 6, [20480], []), (16, 10, [1001000], []), (16, 15, [1000000], [1000000])] [] func64 ?_
 obtain ⟨hx1, hx2, hx3, hx4⟩ := id hx
 refine D ?_
 refine cC (fun c0 => ?_) (fun c0 => ?_)
 · skip
   refine D ?_
   refine E ?_
   obtain ⟨e1, e2, e3⟩ := taken0 c0
   simp [e1, e2, e3, baseM, followed]
 · skip
   refine D ?_
   refine cC (fun c1 => ?_) (fun c1 => ?_)
   · skip
     refine D ?_
     refine E ?_
     obtain ⟨e1, e2, e3⟩ := taken1 c0 c1
     simp [e1, e2, e3, baseM, followed]
   · skip
     refine D ?_
     refine kRk [1000000] [] [1000005, 1000008, 1000009, 1000010] (s_impl_Node_follow x hx) ?_
     refine D ?_
     refine kD (s_impl_fits x.log hx.1 m.index m.last) ?_
     refine D ?_
     refine cC (fun c2 => ?_) (fun c2 => ?_)
     · skip
       refine D ?_
       refine kD (s_impl_size_Entry (x.log.map eEntry)) ?_
       refine D ?_
       refine E ?_
       obtain ⟨e1, e2, e3⟩ := taken2 c0 c1 c2
       simp [e1, e2, e3, baseM, followed]
       exact min_fi _ _
     · skip
       have hfit : fitsM x.log m.index m.last = true := by simpa using c2
       obtain ⟨i, hi, hn⟩ := fits_nat hx.1 hfit
       have hi2 : m.index.toNat = i := by omega
       have htl : takenL x m = take7 x.log m.entries i := by unfold takenL; rw [hi2]
       have hll := take7_len (more := m.entries) hn
       have hml := log_le mf
       have hA := hi
       refine D ?_
       refine kD (s_impl_TakeEntries x.log m.entries i m.last hx.1 hme lf mf (hi ▸ hfit) mt) ?_
       refine D ?_
       refine cC (fun c3 => ?_) (fun c3 => ?_)
       · skip
         obtain ⟨h40, htr⟩ := takeR_bad c3
         have hA := And.intro hA (htr)
         refine D ?_
         refine E ?_
         obtain ⟨e1, e2, e3⟩ := taken3 c0 c1 hfit (by rw [htl]; omega)
         simp [e1, e2, e3, baseM, followed]
       · skip
         obtain ⟨h40, htr⟩ := takeR_ok c3
         have hA := And.intro hA (htr)
         refine D ?_
         refine kD (s_impl_CommonOf x.log (take7 x.log m.entries i) hx.1 (by omega)) ?_
         refine D ?_
         refine cC (fun c4 => ?_) (fun c4 => ?_)
         · skip
           refine D ?_
           refine E ?_
           obtain ⟨e1, e2, e3⟩ := taken4 c0 c1 hfit (by rw [htl]; omega) (by rw [htl]; exact c4)
           simp [e1, e2, e3, baseM, followed]
         · skip
           refine D ?_
           refine kD (s_impl_size_Entry (m.entries.map eEntry)) ?_
           refine D ?_
           refine E ?_
           obtain ⟨e1, e2, e3⟩ := taken5 c0 c1 hfit (by rw [htl]; omega) (by rw [htl]; exact c4)
           simp [e1, e2, e3, baseM, takenOk, followed, takenEnd, htl, hi, min_fi, max_fi]
end
section
attribute [local go_sem] toldOk set_map_I
theorem s_impl_Node_matched (x : Node) (hx : limN 2097152 x) (h0 : 0 ≤ x.commit) (h1 : x.commit ≤ x.log.length) (m : Mail) (hme : m.entries.length ≤ 2097152) (i : Nat) (hf : m.from_ = i) (hi0 : 0 ≤ m.index) (hi9 : m.index ≤ 40) (hL : x.role = 2 → i < x.next.length ∧ i < x.match_.length ∧ 1 ≤ x.next.getD i zI_i64 ∧ x.next.getD i zI_i64 ≤ 41 ∧ 0 ≤ x.match_.getD i zI_i64 ∧ x.match_.getD i zI_i64 ≤ 40) : SemX prog 65 [.one (.ptr 0 0), aS (eMail false m)] [.var (eNode true x)] [] [.var (eNode true (toldN x m))] := by
 refine goF [(84, ⟨some 1, none, none, none⟩), (90, ⟨some 1, none, none, none⟩), (100, ⟨some 1, none, none, none⟩), (154, ⟨some 1, none, none, none⟩)] [(1, 1, [16384], []), (1, 5, [1000000], []), (1, 11, [1000000], []), (2, 3, [1000000], []), (2, 5, [16384], []), (2, 6, [1000010], []), (2, 10, [1000000], []), (2, 12, [16384], []), (2, 13, [1000009], []), (4, 3, [1000009], []), (4, 6, [16384], []), (4, 11, [1000010], []), (4, 15, [1000009], [1000009]), (5, 1, [16384], []), (5, 4, [1000010], []), (5, 8, [16384], []), (5, 12, [1000000], []), (5, 13, [1000005], [])] [] func65 ?_
 obtain ⟨hx1, hx2, hx3, hx4⟩ := id hx
 have hlk : limN 2097152 (toldOk x m) := ⟨hx.1, hx.2.1, by simp [toldOk]; omega, by simp [toldOk]; omega⟩
 have hA := hf
 refine D ?_
 refine cC (fun c0 => ?_) (fun c0 => ?_)
 · skip
   refine D ?_
   refine E ?_
   have he : toldN x m = x := by unfold toldN; exact if_pos c0
   rw [he]
 · skip
   obtain ⟨k1, k2, k3, k4, k5, k6⟩ := hL (by simp at c0; omega)
   refine D ?_
   refine cC (fun c1 => ?_) (fun c1 => ?_)
   · skip
     refine D ?_
     refine E ?_
     have hto : toldN x m = toldNo x m := by unfold toldN; rw [if_neg (by simp at c0; omega), if_neg (by simp [c1])]
     have he : toldNo x m = { x with next := x.next.set i (max (max 1 (min (x.next.getD i zI_i64 - 1) (m.index + 1))) (x.match_.getD i zI_i64 + 1)) } := by unfold toldNo; rw [hf]; rfl
     rw [hto, he, ← told_impl]
     exact rfl
   · skip
     refine D ?_
     refine kDg (s_impl_size_Entry _) ?_
     refine D ?_
     refine cC (fun c2 => ?_) (fun c2 => ?_)
     · skip
       have ht : toldT x m = m.index := by unfold toldT; rw [hf]; exact if_pos c2
       have hgs : (x.match_.set i m.index).getD i zI_i64 = m.index := by simp [k2]
       have hA := And.intro hA (And.intro ht (hgs))
       refine D ?_
       refine kRk [1000000] [] [1000005, 1000008, 1000009, 1000010] (s_impl_Node_agree (toldOk x m) hlk h0 h1) ?_
       refine D ?_
       refine E ?_
       have hto : toldN x m = agreed (toldOk x m) := by unfold toldN; rw [if_neg (by simp at c0; omega), if_pos (by simpa using c1)]
       simp [hto, toldOk, ht, hf]
     · skip
       have ht : toldT x m = x.match_.getD i zI_i64 := by unfold toldT; rw [hf]; exact if_neg (by intro h; simp [-List.getD_eq_getElem?_getD] at c2; have := c2 h.1; have := h.2; omega)
       have hms : x.match_.set i (x.match_.getD i zI_i64) = x.match_ := by simp [k2]
       have hA := And.intro hA (And.intro ht (hms))
       refine D ?_
       refine kRk [1000000] [] [1000005, 1000008, 1000009, 1000010] (s_impl_Node_agree (toldOk x m) hlk h0 h1) ?_
       refine D ?_
       refine E ?_
       have hto : toldN x m = agreed (toldOk x m) := by unfold toldN; rw [if_neg (by simp at c0; omega), if_pos (by simpa using c1)]
       simp [-List.getD_eq_getElem?_getD, hto, toldOk, ht, hf, hms]
end
section
attribute [local go_sem] followed baseM
theorem s_impl_HearMail (x : Node) (hx : limN 2097152 x) (m : Mail) (hme : m.entries.length ≤ 2097152) : SemX prog 35 [aS (eNode false x), aS (eMail false m)] [] [.agg (eNodeResult true (hearMail x m))] [] := by
 refine goF [] [] [] func35 ?_
 obtain ⟨hx1, hx2, hx3, hx4⟩ := id hx
 refine D ?_
 refine kR (s_impl_MailFault x m hx hme) ?_
 refine D ?_
 refine cC (fun c0 => ?_) (fun c0 => ?_)
 · skip
   refine D ?_
   refine E ?_
   have he : hearMail x m = badN (if nodeFault x ≠ 0 then nodeFault x else mailFault x m) := by unfold hearMail; by_cases h : nodeFault x = 0 <;> simp_all
   simp [he, badN, zNode]
 · skip
   have hnm : nodeFault x = 0 ∧ mailFault x m = 0 := by by_cases h : nodeFault x = 0 <;> simp_all
   obtain ⟨hn, hm⟩ := hnm
   have K := hear_ok hx hn hm
   obtain ⟨⟨p1, p2, _⟩, _⟩ := node_ok hn
   obtain ⟨mk, mfr, mtm, mix, mco, mlf, mlt⟩ := mail_ok ⟨p1, p2⟩ hm
   have hrl := riseL_len (newer x m).votes m.from_
   have hnv := K.nv
   have hlr : limN 2097152 (riseN (newer x m) m) := ⟨K.lim.1, by simp [riseN]; omega, K.lim.2.2.1, K.lim.2.2.2⟩
   refine D ?_
   refine kR (s_impl_Node_copied x hx) ?_
   refine D ?_
   refine cC (fun c1 => ?_) (fun c1 => ?_)
   · skip
     have hnw : newer x m = followed { x with term := m.term, voted := -1 } := by unfold newer; rw [if_pos (by omega)]
     have hA := hnw
     refine D ?_
     refine kRk [28672] [] [73732, 73735, 73736, 73737] (s_impl_Node_follow { x with term := m.term, voted := -1 } hx) ?_
     refine D ?_
     refine cC (fun c2 => ?_) (fun c2 => ?_)
     · skip
       refine D ?_
       refine kRg (s_impl_upToDate (newer x m).log K.lim.1 m.index m.last) ?_
       refine D ?_
       refine cC (fun c3 => ?_) (fun c3 => ?_)
       · skip
         refine D ?_
         refine cC (fun c6 => ?_) (fun c6 => ?_)
         · skip
           refine D ?_
           refine E ?_
           cases c6
         · skip
           refine D ?_
           refine E ?_
           have he : hearMail x m = hear x m := by unfold hearMail; rw [if_neg (by simp [hn]), if_neg (by simp [hm])]
           have hu : upOk (newer x m) m = true := by unfold upOk; rw [hnw]; simp [followed, c3]
           have he2 : hear x m = ⟨0, votedN (newer x m) m, [grantM (newer x m) m]⟩ := by unfold hear; exact if_pos c2
           rw [he, he2]
           simp only [votedN, grantM, hu, if_true]
           simp [hnw, followed, eMail, c3]
       · skip
         refine D ?_
         refine cC (fun c6 => ?_) (fun c6 => ?_)
         · skip
           refine D ?_
           refine E ?_
           cases c6
         · skip
           refine D ?_
           refine E ?_
           have he : hearMail x m = hear x m := by unfold hearMail; rw [if_neg (by simp [hn]), if_neg (by simp [hm])]
           have hu : upOk (newer x m) m = false := by unfold upOk; rw [hnw]; first | exact c3 | simp [followed, c3]
           have he2 : hear x m = ⟨0, votedN (newer x m) m, [grantM (newer x m) m]⟩ := by unfold hear; exact if_pos c2
           rw [he, he2]
           simp only [votedN, grantM, hu, Bool.false_eq_true, if_false]
           first | (simp [hnw, followed, eMail, c3]; done) | (simp only [hnw, eMail, c3]; simp)
     · skip
       refine D ?_
       refine cC (fun c4 => ?_) (fun c4 => ?_)
       · skip
         refine D ?_
         refine kRk [28672] [] [115716, 115719, 115720, 115721] (s_impl_Node_granted (newer x m) K.lim K.c0 K.c1 K.p1 K.p2 K.p3 K.p4 K.rv K.nv m hme) ?_
         refine D ?_
         refine cC (fun c6 => ?_) (fun c6 => ?_)
         · skip
           refine D ?_
           refine E ?_
           cases c6
         · skip
           refine D ?_
           refine E ?_
           have he : hearMail x m = hear x m := by unfold hearMail; rw [if_neg (by simp [hn]), if_neg (by simp [hm])]
           have he2 : hear x m = ⟨0, grantedN (newer x m) m, []⟩ := by unfold hear; rw [if_neg c2, if_pos c4]
           simp [he, he2, hnw, followed]
       · skip
         refine D ?_
         refine cC (fun c5 => ?_) (fun c5 => ?_)
         · skip
           refine D ?_
           refine kRk [28672, 36864] [] [115716, 115719, 115720, 115721] (s_impl_Node_append (newer x m) K.lim K.c0 K.c1 m hme K.lf mlf mlt mix.1 mix.2) ?_
           refine D ?_
           refine cC (fun c6 => ?_) (fun c6 => ?_)
           · skip
             refine D ?_
             refine E ?_
             have he : hearMail x m = hear x m := by unfold hearMail; rw [if_neg (by simp [hn]), if_neg (by simp [hm])]
             have he2 : hear x m = badN (takenC (newer x m) m) := by unfold hear; rw [if_neg c2, if_neg c4, if_pos c5, if_pos (by rw [hnw]; exact c6)]
             simp [he, he2, hnw, followed, badN, zNode]
           · skip
             refine D ?_
             refine E ?_
             have he : hearMail x m = hear x m := by unfold hearMail; rw [if_neg (by simp [hn]), if_neg (by simp [hm])]
             have he2 : hear x m = ⟨0, takenN (newer x m) m, [takenM (newer x m) m]⟩ := by unfold hear; rw [if_neg c2, if_neg c4, if_pos c5, if_neg (by rw [hnw]; exact fun h => h c6)]
             simp [he, he2, hnw, followed, eMail, c6]
         · skip
           refine D ?_
           refine kRk [28672] [] [115716, 115719, 115720, 115721] (s_impl_Node_matched (newer x m) K.lim K.c0 K.c1 m hme m.from_.toNat (by omega) mix.1 mix.2 K.tl) ?_
           refine D ?_
           refine cC (fun c6 => ?_) (fun c6 => ?_)
           · skip
             refine D ?_
             refine E ?_
             cases c6
           · skip
             refine D ?_
             refine E ?_
             have he : hearMail x m = hear x m := by unfold hearMail; rw [if_neg (by simp [hn]), if_neg (by simp [hm])]
             have he2 : hear x m = ⟨0, toldN (newer x m) m, []⟩ := by unfold hear; rw [if_neg c2, if_neg c4, if_neg c5]
             simp [he, he2, hnw, followed]
   · skip
     have hnw : newer x m = x := by unfold newer; rw [if_neg (by omega)]
     have hA := hnw
     refine D ?_
     refine cC (fun c2 => ?_) (fun c2 => ?_)
     · skip
       refine D ?_
       refine kRg (s_impl_upToDate (newer x m).log K.lim.1 m.index m.last) ?_
       refine D ?_
       refine cC (fun c3 => ?_) (fun c3 => ?_)
       · skip
         refine D ?_
         refine cC (fun c6 => ?_) (fun c6 => ?_)
         · skip
           refine D ?_
           refine E ?_
           cases c6
         · skip
           refine D ?_
           refine E ?_
           have he : hearMail x m = hear x m := by unfold hearMail; rw [if_neg (by simp [hn]), if_neg (by simp [hm])]
           have hu : upOk (newer x m) m = true := by unfold upOk; rw [hnw]; simp [followed, c3]
           have he2 : hear x m = ⟨0, votedN (newer x m) m, [grantM (newer x m) m]⟩ := by unfold hear; exact if_pos c2
           rw [he, he2]
           simp only [votedN, grantM, hu, if_true]
           simp [hnw, followed, eMail, c3]
       · skip
         refine D ?_
         refine cC (fun c6 => ?_) (fun c6 => ?_)
         · skip
           refine D ?_
           refine E ?_
           cases c6
         · skip
           refine D ?_
           refine E ?_
           have he : hearMail x m = hear x m := by unfold hearMail; rw [if_neg (by simp [hn]), if_neg (by simp [hm])]
           have hu : upOk (newer x m) m = false := by unfold upOk; rw [hnw]; first | exact c3 | simp [followed, c3]
           have he2 : hear x m = ⟨0, votedN (newer x m) m, [grantM (newer x m) m]⟩ := by unfold hear; exact if_pos c2
           rw [he, he2]
           simp only [votedN, grantM, hu, Bool.false_eq_true, if_false]
           first | (simp [hnw, followed, eMail, c3]; done) | (simp only [hnw, eMail, c3]; simp)
     · skip
       refine D ?_
       refine cC (fun c4 => ?_) (fun c4 => ?_)
       · skip
         refine D ?_
         refine kRk [28672] [] [73732, 73735, 73736, 73737] (s_impl_Node_granted (newer x m) K.lim K.c0 K.c1 K.p1 K.p2 K.p3 K.p4 K.rv K.nv m hme) ?_
         refine D ?_
         refine cC (fun c6 => ?_) (fun c6 => ?_)
         · skip
           refine D ?_
           refine E ?_
           cases c6
         · skip
           refine D ?_
           refine E ?_
           have he : hearMail x m = hear x m := by unfold hearMail; rw [if_neg (by simp [hn]), if_neg (by simp [hm])]
           have he2 : hear x m = ⟨0, grantedN (newer x m) m, []⟩ := by unfold hear; rw [if_neg c2, if_pos c4]
           simp [he, he2, hnw, followed]
       · skip
         refine D ?_
         refine cC (fun c5 => ?_) (fun c5 => ?_)
         · skip
           refine D ?_
           refine kRk [28672, 36864] [] [73732, 73735, 73736, 73737] (s_impl_Node_append (newer x m) K.lim K.c0 K.c1 m hme K.lf mlf mlt mix.1 mix.2) ?_
           refine D ?_
           refine cC (fun c6 => ?_) (fun c6 => ?_)
           · skip
             refine D ?_
             refine E ?_
             have he : hearMail x m = hear x m := by unfold hearMail; rw [if_neg (by simp [hn]), if_neg (by simp [hm])]
             have he2 : hear x m = badN (takenC (newer x m) m) := by unfold hear; rw [if_neg c2, if_neg c4, if_pos c5, if_pos (by rw [hnw]; exact c6)]
             simp [he, he2, hnw, followed, badN, zNode]
           · skip
             refine D ?_
             refine E ?_
             have he : hearMail x m = hear x m := by unfold hearMail; rw [if_neg (by simp [hn]), if_neg (by simp [hm])]
             have he2 : hear x m = ⟨0, takenN (newer x m) m, [takenM (newer x m) m]⟩ := by unfold hear; rw [if_neg c2, if_neg c4, if_pos c5, if_neg (by rw [hnw]; exact fun h => h c6)]
             simp [he, he2, hnw, followed, eMail, c6]
         · skip
           refine D ?_
           refine kRk [28672] [] [73732, 73735, 73736, 73737] (s_impl_Node_matched (newer x m) K.lim K.c0 K.c1 m hme m.from_.toNat (by omega) mix.1 mix.2 K.tl) ?_
           refine D ?_
           refine cC (fun c6 => ?_) (fun c6 => ?_)
           · skip
             refine D ?_
             refine E ?_
             cases c6
           · skip
             refine D ?_
             refine E ?_
             have he : hearMail x m = hear x m := by unfold hearMail; rw [if_neg (by simp [hn]), if_neg (by simp [hm])]
             have he2 : hear x m = ⟨0, toldN (newer x m) m, []⟩ := by unfold hear; rw [if_neg c2, if_neg c4, if_neg c5]
             simp [he, he2, hnw, followed]
end
section
attribute [local go_sem] rowV without
theorem s_impl_DeliverMail_1_ok (x : Cluster) (hx : limC 2097152 x) (n : Nat) (hn2 : n < x.mails.length) (hcf : clusterFault x = 0) (i : Nat) (hto : (x.mails.getD n zMail).to_ = i) (hi : i < x.nodes.length) (hmf : mailFault (x.nodes.getD i zNode) (x.mails.getD n zMail) = 0) (v : Value) (hok : doOk (without x n) i (hearMail (x.nodes.getD i zNode) (x.mails.getD n zMail)) = true) : SemX prog 33 [.one (.ptr 0 0), aS (eMail false (x.mails.getD n zMail)), aT (.ptr [.int .i64 n])] [.var [.sl true 10 (x.nodes.map (eNode true)), .sl true 9 ((x.mails.map (eMail true)).set n (rowV (x.mails.getD n zMail) v)), .sl true 2 (x.wins.map eWon), .sl true 10 (x.seals.map eSeal)]] [rI 0] [.var (eCluster true (doC (without x n) i (hearMail (x.nodes.getD i zNode) (x.mails.getD n zMail))))] := by
 refine goF [] [(2, 4, [1000000], []), (2, 6, [20480], []), (2, 7, [37888], []), (2, 8, [37888], []), (2, 9, [20480], []), (2, 10, [37888], [81925, 81928, 81929, 81930, 81931]), (2, 11, [1000000, 37888, 37889, 37890, 37891, 81925, 81928, 81929, 81930, 81931], [1000000, 81925, 81928, 81929, 81930, 81931, 37888, 37889, 37890, 37891, 87040, 87041, 87042, 87043])] [] func33 ?_
 obtain ⟨⟨hn, hN⟩, ⟨hm, hM⟩, hw, hs⟩ := id hx
 have hnf := (cl_nodes hcf hi).1
 have hln := (all_getD zNode).2 hN i hi
 have hlm : (x.mails.getD n zMail).entries.length ≤ 2097152 := (all_getD zMail).2 hM n hn2
 have hsw := fun v => set_without (eMail true) x.mails n (rowV (x.mails.getD n zMail) v)
 have hcp : ∀ v, cpRows none (((x.mails.map (eMail true)).set n (rowV (x.mails.getD n zMail) v)).drop (n + 1)) = True := fun v => by rw [List.drop_set_of_lt (Nat.lt_succ_self _), ← List.map_drop]; exact cpRows_Mail ..
 have hsh : ∀ v, T.noShR (((x.mails.map (eMail true)).set n (rowV (x.mails.getD n zMail) v)).take n ++ ((x.mails.map (eMail true)).set n (rowV (x.mails.getD n zMail) v)).drop (n + 1)) = True := fun v => by rw [hsw]; exact noShR_Mail _
 have hal : ∀ v, T.noShR ((x.mails.map (eMail true)).set n (rowV (x.mails.getD n zMail) v)) = True := fun v => eq_true (noShR_set (by rw [noShR_Mail]; trivial) (by simp [rowV, T.noShL, T.noSh]))
 have hsw2 := hsw
 have hcp2 := hcp
 have hsh2 := hsh
 have hal2 := hal
 simp only [rowV, hto] at hsw2 hcp2 hsh2 hal2
 have hA := And.intro hto (And.intro hsw2 (And.intro hcp2 (And.intro hsh2 (hal2))))
 refine D ?_
 refine kRk [1000000] [] [1000001, 1000002, 1000003, 1000004] (s_impl_Cluster_drop (x.nodes.map (eNode true)) ((x.mails.map (eMail true)).set n (rowV (x.mails.getD n zMail) v)) (x.wins.map eWon) (x.seals.map eSeal) n (by simp; omega) (by simpa using hn2) (hcp v) (hsh v) (noShR_Node _) (hal v) (noShR_Won _) (noShR_Seal _)) ?_
 refine D ?_
 refine kD (s_impl_HearMail (x.nodes.getD i zNode) hln (x.mails.getD n zMail) hlm) ?_
 refine D ?_
 refine kDk [1000000] [81925, 81928, 81929, 81930, 81931] [37888, 37889, 37890, 37891] (s_impl_Cluster_do_ok (without x n) (without_lim hx n) i hi (hearMail (x.nodes.getD i zNode) (x.mails.getD n zMail)) (hear_lim (by omega) hln (by omega)) (hear_commit hln) (fun h => (hear_id h).trans (cl_nodes hcf hi).2.1) (cl_wins hcf).1 hok) ?_
 refine D ?_
 exact E trivial
end
section
attribute [local go_sem] rowV without
theorem s_impl_DeliverMail_1_no (x : Cluster) (hx : limC 2097152 x) (n : Nat) (hn2 : n < x.mails.length) (hcf : clusterFault x = 0) (i : Nat) (hto : (x.mails.getD n zMail).to_ = i) (hi : i < x.nodes.length) (hmf : mailFault (x.nodes.getD i zNode) (x.mails.getD n zMail) = 0) (v : Value) (hok : doOk (without x n) i (hearMail (x.nodes.getD i zNode) (x.mails.getD n zMail)) = false) : SemX prog 33 [.one (.ptr 0 0), aS (eMail false (x.mails.getD n zMail)), aT (.ptr [.int .i64 n])] [.var [.sl true 10 (x.nodes.map (eNode true)), .sl true 9 ((x.mails.map (eMail true)).set n (rowV (x.mails.getD n zMail) v)), .sl true 2 (x.wins.map eWon), .sl true 10 (x.seals.map eSeal)]] [rI (if (hearMail (x.nodes.getD i zNode) (x.mails.getD n zMail)).code ≠ 0 then (hearMail (x.nodes.getD i zNode) (x.mails.getD n zMail)).code else 2)] [.var [.junk, .junk, .junk, .junk]] := by
 refine goF [] [(2, 4, [1000000], []), (2, 6, [20480], []), (2, 7, [37888], []), (2, 8, [37888], []), (2, 9, [20480], []), (2, 10, [37888], [81925, 81928, 81929, 81930, 81931]), (2, 11, [1000000, 37888, 37889, 37890, 37891, 81925, 81928, 81929, 81930, 81931], [1000000, 81925, 81928, 81929, 81930, 81931, 37888, 37889, 37890, 37891])] [] func33 ?_
 obtain ⟨⟨hn, hN⟩, ⟨hm, hM⟩, hw, hs⟩ := id hx
 have hnf := (cl_nodes hcf hi).1
 have hln := (all_getD zNode).2 hN i hi
 have hlm : (x.mails.getD n zMail).entries.length ≤ 2097152 := (all_getD zMail).2 hM n hn2
 have hsw := fun v => set_without (eMail true) x.mails n (rowV (x.mails.getD n zMail) v)
 have hcp : ∀ v, cpRows none (((x.mails.map (eMail true)).set n (rowV (x.mails.getD n zMail) v)).drop (n + 1)) = True := fun v => by rw [List.drop_set_of_lt (Nat.lt_succ_self _), ← List.map_drop]; exact cpRows_Mail ..
 have hsh : ∀ v, T.noShR (((x.mails.map (eMail true)).set n (rowV (x.mails.getD n zMail) v)).take n ++ ((x.mails.map (eMail true)).set n (rowV (x.mails.getD n zMail) v)).drop (n + 1)) = True := fun v => by rw [hsw]; exact noShR_Mail _
 have hal : ∀ v, T.noShR ((x.mails.map (eMail true)).set n (rowV (x.mails.getD n zMail) v)) = True := fun v => eq_true (noShR_set (by rw [noShR_Mail]; trivial) (by simp [rowV, T.noShL, T.noSh]))
 have hsw2 := hsw
 have hcp2 := hcp
 have hsh2 := hsh
 have hal2 := hal
 simp only [rowV, hto] at hsw2 hcp2 hsh2 hal2
 have hA := And.intro hto (And.intro hsw2 (And.intro hcp2 (And.intro hsh2 (hal2))))
 refine D ?_
 refine kRk [1000000] [] [1000001, 1000002, 1000003, 1000004] (s_impl_Cluster_drop (x.nodes.map (eNode true)) ((x.mails.map (eMail true)).set n (rowV (x.mails.getD n zMail) v)) (x.wins.map eWon) (x.seals.map eSeal) n (by simp; omega) (by simpa using hn2) (hcp v) (hsh v) (noShR_Node _) (hal v) (noShR_Won _) (noShR_Seal _)) ?_
 refine D ?_
 refine kD (s_impl_HearMail (x.nodes.getD i zNode) hln (x.mails.getD n zMail) hlm) ?_
 refine D ?_
 refine kDk [1000000] [81925, 81928, 81929, 81930, 81931] [37888, 37889, 37890, 37891] (s_impl_Cluster_do_no (without x n) (without_lim hx n) i hi (hearMail (x.nodes.getD i zNode) (x.mails.getD n zMail)) (hear_lim (by omega) hln (by omega)) (hear_commit hln) (fun h => (hear_id h).trans (cl_nodes hcf hi).2.1) (cl_wins hcf).1 hok) ?_
 refine D ?_
 exact E trivial
end
section
attribute [local go_sem] rowV List.set_set
theorem s_impl_onMail_copyA (x : Cluster) (hx : limC 2097152 x) (p : Int) (h80 : x.mails.length = 80) : SemX prog 28 [aS (eCluster false x), aI p, .one (.fn 31 [])] [] [.agg (eClusterResult true (copyMail x p))] [] := by
 refine goF [(38, ⟨some 1, none, none, none⟩), (68, ⟨some 5, some 139264, some (63, true), some [8]⟩)] [] [] func28 ?_
 obtain ⟨⟨hn, hN⟩, ⟨hm, hM⟩, hw, hs⟩ := id hx
 refine D ?_
 refine kR (s_impl_ClusterFault x hx) ?_
 refine D ?_
 refine kRg (s_impl_size_Mail (x.mails.map (eMail false))) ?_
 refine D ?_
 refine kRg (s_impl_in p 0 (x.mails.length - 1)) ?_
 refine D ?_
 refine cC (fun c0 => ?_) (fun c0 => ?_)
 · skip
   refine D ?_
   refine cT ?_
   refine D ?_
   refine E ?_
   have he : copyMail x p = bad 3 := by unfold copyMail mailGuard; grind
   simp [he, bad, zCluster]
 · skip
   refine D ?_
   refine cC (fun c1 => ?_) (fun c1 => ?_)
   · skip
     refine D ?_
     refine E ?_
     have he : copyMail x p = bad (clusterFault x) := by unfold copyMail mailGuard; grind
     simp [he, bad, zCluster]
   · skip
     have c0n : mailGuard x p = 0 := by unfold mailGuard; grind
     obtain ⟨hcf, n, rfl, hn2⟩ := guard_iff c0n
     have hg := fun r d => getD_set_self (l := x.mails.map (eMail true)) (i := n) (by simp; omega) r d
     have hgB := fun r l d => getD_set_app (l := x.mails.map (eMail true)) (i := n) (by simp; omega) r l d
     have hsB := fun r r2 l => set_app (l := x.mails.map (eMail true)) (i := n) (by simp; omega) r r2 l
     have hs0 := set_getD_map (eMail true) zMail hn2
     have hs1 := snoc_map (eMail true) x.mails (x.mails.getD n zMail)
     simp only [eMail] at hs0 hs1
     have hA := And.intro hg (And.intro hgB (And.intro hsB (And.intro hs0 (hs1))))
     refine D ?_
     refine kR (s_impl_Cluster_copied x hx) ?_
     refine D ?_
     refine RW_takeVN _ _ rfl rfl rfl (by simp only [go_sem, hA] <;> and_intros <;> first | with_reducible exact rfl | (first | (intro v0; exact ⟨v0, rfl⟩) | (first | with_reducible exact rfl | omega | with_reducible trivial | (intros; simp_all; done) | grind))) (fun _ => rfl) (fun v0 => by simp only [go_sem, hA]; exact rfl) (fun v => ?_)
     refine D ?_
     refine RW_callVN 33 8 144385 n 8 (dMail true) (by kernel_rfl) (s_impl_CopyMail_1a (x.nodes.map (eNode true)) ((x.mails.map (eMail true)).set n (rowV (x.mails.getD n zMail) v)) (x.wins.map eWon) (x.seals.map eSeal) (x.mails.getD n zMail) ((all_getD zMail).2 hM n (by omega)) (by simpa using h80)) true [36864] [] [114688, 114689, 114690, 114691] rfl rfl (by simp only [go_sem, hA] <;> and_intros <;> first | with_reducible exact rfl | (first | omega | with_reducible assumption | (refine noShR_set ?_ ?_ <;> simp [noShR_Mail, T.noShL, T.noSh, noShR_Entry]) | grind)) (by exact rfl) (by simp only [go_sem, hA] <;> and_intros <;> first | with_reducible exact rfl | (first | omega | with_reducible assumption | (refine noShR_set ?_ ?_ <;> simp [noShR_Mail, T.noShL, T.noSh, noShR_Entry]) | grind)) (by first | rfl | (simp only [go_sem, hA]; done)) (by simp only [go_sem, hA]; exact rfl) ?_
     refine D ?_
     refine kRk [36864] [] [144384, 144385, 144386, 144387] (s_impl_Cluster_result x 2) ?_
     refine D ?_
     refine E ?_
     have he : copyMail x n = bad 2 := by unfold copyMail; rw [if_neg (by omega), if_pos (by omega)]
     simp [he, resC, bad, zCluster]
end
section
attribute [local go_sem] rowV List.set_set
theorem s_impl_onMail_copyB (x : Cluster) (hx : limC 2097152 x) (p : Int) (h80 : x.mails.length ≠ 80) : SemX prog 28 [aS (eCluster false x), aI p, .one (.fn 31 [])] [] [.agg (eClusterResult true (copyMail x p))] [] := by
 refine goF [(38, ⟨some 1, none, none, none⟩), (68, ⟨some 5, some 139264, some (63, true), some [8]⟩)] [] [] func28 ?_
 obtain ⟨⟨hn, hN⟩, ⟨hm, hM⟩, hw, hs⟩ := id hx
 refine D ?_
 refine kR (s_impl_ClusterFault x hx) ?_
 refine D ?_
 refine kRg (s_impl_size_Mail (x.mails.map (eMail false))) ?_
 refine D ?_
 refine kRg (s_impl_in p 0 (x.mails.length - 1)) ?_
 refine D ?_
 refine cC (fun c0 => ?_) (fun c0 => ?_)
 · skip
   refine D ?_
   refine cT ?_
   refine D ?_
   refine E ?_
   have he : copyMail x p = bad 3 := by unfold copyMail mailGuard; grind
   simp [he, bad, zCluster]
 · skip
   refine D ?_
   refine cC (fun c1 => ?_) (fun c1 => ?_)
   · skip
     refine D ?_
     refine E ?_
     have he : copyMail x p = bad (clusterFault x) := by unfold copyMail mailGuard; grind
     simp [he, bad, zCluster]
   · skip
     have c0n : mailGuard x p = 0 := by unfold mailGuard; grind
     obtain ⟨hcf, n, rfl, hn2⟩ := guard_iff c0n
     have hg := fun r d => getD_set_self (l := x.mails.map (eMail true)) (i := n) (by simp; omega) r d
     have hgB := fun r l d => getD_set_app (l := x.mails.map (eMail true)) (i := n) (by simp; omega) r l d
     have hsB := fun r r2 l => set_app (l := x.mails.map (eMail true)) (i := n) (by simp; omega) r r2 l
     have hs0 := set_getD_map (eMail true) zMail hn2
     have hs1 := snoc_map (eMail true) x.mails (x.mails.getD n zMail)
     simp only [eMail] at hs0 hs1
     have hA := And.intro hg (And.intro hgB (And.intro hsB (And.intro hs0 (hs1))))
     refine D ?_
     refine kR (s_impl_Cluster_copied x hx) ?_
     refine D ?_
     refine RW_takeVN _ _ rfl rfl rfl (by simp only [go_sem, hA] <;> and_intros <;> first | with_reducible exact rfl | (first | (intro v0; exact ⟨v0, rfl⟩) | (first | with_reducible exact rfl | omega | with_reducible trivial | (intros; simp_all; done) | grind))) (fun _ => rfl) (fun v0 => by simp only [go_sem, hA]; exact rfl) (fun v => ?_)
     refine D ?_
     refine RW_callVN 33 8 144385 n 8 (dMail true) (by kernel_rfl) (s_impl_CopyMail_1b (x.nodes.map (eNode true)) ((x.mails.map (eMail true)).set n (rowV (x.mails.getD n zMail) v)) (x.wins.map eWon) (x.seals.map eSeal) (x.mails.getD n zMail) ((all_getD zMail).2 hM n (by omega)) (by simp; omega) (by simpa using h80)) true [36864] [] [114688, 114689, 114690, 114691] rfl rfl (by simp only [go_sem, hA] <;> and_intros <;> first | with_reducible exact rfl | (first | omega | with_reducible assumption | (refine noShR_set ?_ ?_ <;> simp [noShR_Mail, T.noShL, T.noSh, noShR_Entry]) | grind)) (by exact rfl) (by simp only [go_sem, hA] <;> and_intros <;> first | with_reducible exact rfl | (first | omega | with_reducible assumption | (refine noShR_set ?_ ?_ <;> simp [noShR_Mail, T.noShL, T.noSh, noShR_Entry]) | grind)) (by first | rfl | (simp only [go_sem, hA]; done)) (by simp only [go_sem, hA]; exact rfl) ?_
     refine D ?_
     refine kRk [36864] [] [144384, 144385, 144386, 144387] (s_impl_Cluster_result { x with mails := x.mails ++ [(x.mails.getD n zMail)] } 0) ?_
     refine D ?_
     refine E ?_
     have he : copyMail x n = ⟨0, { x with mails := x.mails ++ [x.mails.getD n zMail] }⟩ := by
       have : x.mails.length ≤ 80 := mails_le hcf
       unfold copyMail; rw [if_neg (by omega), if_neg (by omega)]; rfl
     simp [he, resC, eMail, List.take_of_length_le]
end
theorem s_impl_onMail_copy (x : Cluster) (hx : limC 2097152 x) (p : Int) : SemX prog 28 [aS (eCluster false x), aI p, .one (.fn 31 [])] [] [.agg (eClusterResult true (copyMail x p))] [] := by
  by_cases h : x.mails.length = 80
  · exact s_impl_onMail_copyA x hx p h
  · exact s_impl_onMail_copyB x hx p h
section
attribute [local go_sem] rowV without
theorem s_impl_onMail_drop (x : Cluster) (hx : limC 2097152 x) (p : Int)  : SemX prog 28 [aS (eCluster false x), aI p, .one (.fn 29 [.t (.ptr [.int .i64 p])])] [] [.agg (eClusterResult true (dropMail x p))] [] := by
 refine goF [(38, ⟨some 1, none, none, none⟩), (68, ⟨some 5, some 139264, some (63, true), some [8]⟩)] [] [] func28 ?_
 obtain ⟨⟨hn, hN⟩, ⟨hm, hM⟩, hw, hs⟩ := id hx
 refine D ?_
 refine kR (s_impl_ClusterFault x hx) ?_
 refine D ?_
 refine kRg (s_impl_size_Mail (x.mails.map (eMail false))) ?_
 refine D ?_
 refine kRg (s_impl_in p 0 (x.mails.length - 1)) ?_
 refine D ?_
 refine cC (fun c0 => ?_) (fun c0 => ?_)
 · skip
   refine D ?_
   refine cT ?_
   refine D ?_
   refine E ?_
   have he : dropMail x p = bad 3 := by unfold dropMail mailGuard; grind
   simp [he, bad, zCluster]
 · skip
   refine D ?_
   refine cC (fun c1 => ?_) (fun c1 => ?_)
   · skip
     refine D ?_
     refine E ?_
     have he : dropMail x p = bad (clusterFault x) := by unfold dropMail mailGuard; grind
     simp [he, bad, zCluster]
   · skip
     have c0n : mailGuard x p = 0 := by unfold mailGuard; grind
     obtain ⟨hcf, n, rfl, hn2⟩ := guard_iff c0n
     have hsw := fun v => set_without (eMail true) x.mails n (rowV (x.mails.getD n zMail) v)
     have hcp : ∀ v, cpRows none (((x.mails.map (eMail true)).set n (rowV (x.mails.getD n zMail) v)).drop (n + 1)) = True := fun v => by rw [List.drop_set_of_lt (Nat.lt_succ_self _), ← List.map_drop]; exact cpRows_Mail ..
     have hsh : ∀ v, T.noShR (((x.mails.map (eMail true)).set n (rowV (x.mails.getD n zMail) v)).take n ++ ((x.mails.map (eMail true)).set n (rowV (x.mails.getD n zMail) v)).drop (n + 1)) = True := fun v => by rw [hsw]; exact noShR_Mail _
     have hal : ∀ v, T.noShR ((x.mails.map (eMail true)).set n (rowV (x.mails.getD n zMail) v)) = True := fun v => eq_true (noShR_set (by rw [noShR_Mail]; trivial) (by simp [rowV, T.noShL, T.noSh]))
     simp only [rowV] at hsw hcp hsh hal
     have hA := And.intro hsw (And.intro hcp (And.intro hsh (hal)))
     refine D ?_
     refine kR (s_impl_Cluster_copied x hx) ?_
     refine D ?_
     refine RW_takeVN _ _ rfl rfl rfl (by simp only [go_sem, hA] <;> and_intros <;> first | with_reducible exact rfl | (first | (intro v0; exact ⟨v0, rfl⟩) | (first | with_reducible exact rfl | omega | with_reducible trivial | (intros; simp_all; done) | grind))) (fun _ => rfl) (fun v0 => by simp only [go_sem, hA]; exact rfl) (fun v => ?_)
     refine D ?_
     refine kRk [36864] [] [114688, 114689, 114690, 114691] (s_impl_DropMail_1 (x.nodes.map (eNode true)) ((x.mails.map (eMail true)).set n (rowV (x.mails.getD n zMail) v)) (x.wins.map eWon) (x.seals.map eSeal) n (by simp; omega) (by simpa using hn2) (hcp v) (hsh v) (noShR_Node _) (hal v) (noShR_Won _) (noShR_Seal _) (x.mails.getD n zMail)) ?_
     refine D ?_
     refine kRk [36864] [] [144384, 144385, 144386, 144387] (s_impl_Cluster_result (without x n) 0) ?_
     refine D ?_
     refine E ?_
     have he : dropMail x n = ⟨0, without x n⟩ := by unfold dropMail; rw [if_neg (by omega)]; rfl
     simp [he, resC, without]
end
section
attribute [local go_sem] rowV
theorem s_impl_onMail_dlvA (x : Cluster) (hx : limC 2097152 x) (p : Int) (hok : (doOk (without x p.toNat) (x.mails.getD p.toNat zMail).to_.toNat (hearMail (x.nodes.getD (x.mails.getD p.toNat zMail).to_.toNat zNode) (x.mails.getD p.toNat zMail))) = true) : SemX prog 28 [aS (eCluster false x), aI p, .one (.fn 33 [.t (.ptr [.int .i64 p])])] [] [.agg (eClusterResult true (deliverMail x p))] [] := by
 refine goF [(38, ⟨some 1, none, none, none⟩), (68, ⟨some 5, some 139264, some (63, true), some [8]⟩)] [] [] func28 ?_
 obtain ⟨⟨hn, hN⟩, ⟨hm, hM⟩, hw, hs⟩ := id hx
 refine D ?_
 refine kR (s_impl_ClusterFault x hx) ?_
 refine D ?_
 refine kRg (s_impl_size_Mail (x.mails.map (eMail false))) ?_
 refine D ?_
 refine kRg (s_impl_in p 0 (x.mails.length - 1)) ?_
 refine D ?_
 refine cC (fun c0 => ?_) (fun c0 => ?_)
 · skip
   refine D ?_
   refine cT ?_
   refine D ?_
   refine E ?_
   have he : deliverMail x p = bad 3 := by unfold deliverMail mailGuard; grind
   simp [he, bad, zCluster]
 · skip
   refine D ?_
   refine cC (fun c1 => ?_) (fun c1 => ?_)
   · skip
     refine D ?_
     refine E ?_
     have he : deliverMail x p = bad (clusterFault x) := by unfold deliverMail mailGuard; grind
     simp [he, bad, zCluster]
   · skip
     have c0n : mailGuard x p = 0 := by unfold mailGuard; grind
     obtain ⟨hcf, n, rfl, hn2⟩ := guard_iff c0n
     obtain ⟨i, hto, hi, hmf⟩ := cl_mail hcf hn2
     have hit : (x.mails.getD n zMail).to_.toNat = i := by omega
     have hok2 : doOk (without x n) i (hearMail (x.nodes.getD i zNode) (x.mails.getD n zMail)) = true := by
       have h := hok
       simp only [Int.toNat_natCast, hit] at h
       exact h
     refine D ?_
     refine kR (s_impl_Cluster_copied x hx) ?_
     refine D ?_
     refine RW_takeVN _ _ rfl rfl rfl (by simp only [go_sem] <;> and_intros <;> first | with_reducible exact rfl | (first | (intro v0; exact ⟨v0, rfl⟩) | (first | with_reducible exact rfl | omega | with_reducible trivial | (intros; simp_all; done) | grind))) (fun _ => rfl) (fun v0 => by simp only [go_sem]; exact rfl) (fun v => ?_)
     refine D ?_
     refine kRk [36864] [] [114688, 114689, 114690, 114691] (s_impl_DeliverMail_1_ok x hx n hn2 hcf i hto hi hmf v hok2) ?_
     refine D ?_
     refine kRk [36864] [] [144384, 144385, 144386, 144387] (s_impl_Cluster_result (doC (without x n) i (hearMail (x.nodes.getD i zNode) (x.mails.getD n zMail))) 0) ?_
     refine D ?_
     refine E ?_
     have he : deliverMail x n = doR (without x n) i (hearMail (x.nodes.getD i zNode) (x.mails.getD n zMail)) := by unfold deliverMail; rw [if_neg (by omega)]; simp only [Int.toNat_natCast, hit]
     have he2 : doR (without x n) i (hearMail (x.nodes.getD i zNode) (x.mails.getD n zMail)) = ⟨0, doC (without x n) i (hearMail (x.nodes.getD i zNode) (x.mails.getD n zMail))⟩ := by unfold doR; exact if_pos hok2
     simp [he, he2, resC, -List.getD_eq_getElem?_getD]
end
section
attribute [local go_sem] rowV
theorem s_impl_onMail_dlvB (x : Cluster) (hx : limC 2097152 x) (p : Int) (hok : (doOk (without x p.toNat) (x.mails.getD p.toNat zMail).to_.toNat (hearMail (x.nodes.getD (x.mails.getD p.toNat zMail).to_.toNat zNode) (x.mails.getD p.toNat zMail))) = false) : SemX prog 28 [aS (eCluster false x), aI p, .one (.fn 33 [.t (.ptr [.int .i64 p])])] [] [.agg (eClusterResult true (deliverMail x p))] [] := by
 refine goF [(38, ⟨some 1, none, none, none⟩), (68, ⟨some 5, some 139264, some (63, true), some [8]⟩)] [] [] func28 ?_
 obtain ⟨⟨hn, hN⟩, ⟨hm, hM⟩, hw, hs⟩ := id hx
 refine D ?_
 refine kR (s_impl_ClusterFault x hx) ?_
 refine D ?_
 refine kRg (s_impl_size_Mail (x.mails.map (eMail false))) ?_
 refine D ?_
 refine kRg (s_impl_in p 0 (x.mails.length - 1)) ?_
 refine D ?_
 refine cC (fun c0 => ?_) (fun c0 => ?_)
 · skip
   refine D ?_
   refine cT ?_
   refine D ?_
   refine E ?_
   have he : deliverMail x p = bad 3 := by unfold deliverMail mailGuard; grind
   simp [he, bad, zCluster]
 · skip
   refine D ?_
   refine cC (fun c1 => ?_) (fun c1 => ?_)
   · skip
     refine D ?_
     refine E ?_
     have he : deliverMail x p = bad (clusterFault x) := by unfold deliverMail mailGuard; grind
     simp [he, bad, zCluster]
   · skip
     have c0n : mailGuard x p = 0 := by unfold mailGuard; grind
     obtain ⟨hcf, n, rfl, hn2⟩ := guard_iff c0n
     obtain ⟨i, hto, hi, hmf⟩ := cl_mail hcf hn2
     have hit : (x.mails.getD n zMail).to_.toNat = i := by omega
     have hok2 : doOk (without x n) i (hearMail (x.nodes.getD i zNode) (x.mails.getD n zMail)) = false := by
       have h := hok
       simp only [Int.toNat_natCast, hit] at h
       exact h
     refine D ?_
     refine kR (s_impl_Cluster_copied x hx) ?_
     refine D ?_
     refine RW_takeVN _ _ rfl rfl rfl (by simp only [go_sem] <;> and_intros <;> first | with_reducible exact rfl | (first | (intro v0; exact ⟨v0, rfl⟩) | (first | with_reducible exact rfl | omega | with_reducible trivial | (intros; simp_all; done) | grind))) (fun _ => rfl) (fun v0 => by simp only [go_sem]; exact rfl) (fun v => ?_)
     refine D ?_
     refine kRk [36864] [] [114688, 114689, 114690, 114691] (s_impl_DeliverMail_1_no x hx n hn2 hcf i hto hi hmf v hok2) ?_
     refine D ?_
     refine kRk [36864] [] [] (s_impl_Cluster_result_no (if (hearMail (x.nodes.getD i zNode) (x.mails.getD n zMail)).code ≠ 0 then (hearMail (x.nodes.getD i zNode) (x.mails.getD n zMail)).code else 2) (by split <;> omega)) ?_
     refine D ?_
     refine E ?_
     have he : deliverMail x n = doR (without x n) i (hearMail (x.nodes.getD i zNode) (x.mails.getD n zMail)) := by unfold deliverMail; rw [if_neg (by omega)]; simp only [Int.toNat_natCast, hit]
     have he2 : doR (without x n) i (hearMail (x.nodes.getD i zNode) (x.mails.getD n zMail)) = bad (if (hearMail (x.nodes.getD i zNode) (x.mails.getD n zMail)).code ≠ 0 then (hearMail (x.nodes.getD i zNode) (x.mails.getD n zMail)).code else 2) := by unfold doR; exact if_neg (by rw [hok2]; simp)
     simp [he, he2, -List.getD_eq_getElem?_getD]
end
theorem s_impl_onMail_dlv (x : Cluster) (hx : limC 2097152 x) (p : Int) : SemX prog 28 [aS (eCluster false x), aI p, .one (.fn 33 [.t (.ptr [.int .i64 p])])] [] [.agg (eClusterResult true (deliverMail x p))] [] := by
  cases h : (doOk (without x p.toNat) (x.mails.getD p.toNat zMail).to_.toNat (hearMail (x.nodes.getD (x.mails.getD p.toNat zMail).to_.toNat zNode) (x.mails.getD p.toNat zMail)))
  · exact s_impl_onMail_dlvB x hx p h
  · exact s_impl_onMail_dlvA x hx p h
theorem s_impl_DropMail (x : Cluster) (hx : limC 2097152 x) (p : Int) : SemX prog 14 [aS (eCluster false x), aI p] [] [.agg (eClusterResult true (dropMail x p))] [] := by
 refine goF [] [] [] func14 ?_
 refine D ?_
 refine kR (s_impl_onMail_drop x hx p) ?_
 refine D ?_
 exact E trivial
theorem s_impl_CopyMail (x : Cluster) (hx : limC 2097152 x) (p : Int) : SemX prog 15 [aS (eCluster false x), aI p] [] [.agg (eClusterResult true (copyMail x p))] [] := by
 refine goF [] [] [] func15 ?_
 refine D ?_
 refine kR (s_impl_onMail_copy x hx p) ?_
 refine D ?_
 exact E trivial
theorem s_impl_DeliverMail (x : Cluster) (hx : limC 2097152 x) (p : Int) : SemX prog 16 [aS (eCluster false x), aI p] [] [.agg (eClusterResult true (deliverMail x p))] [] := by
 refine goF [] [] [] func16 ?_
 refine D ?_
 refine kR (s_impl_onMail_dlv x hx p) ?_
 refine D ?_
 exact E trivial
theorem s_impl_Cluster_oneLeader (x : Cluster) (C : CF x) (O : OneL x) : SemX prog 36 [aT (.ptr (eCluster false x))] [] [rB true] [] := by
 refine goF [] [] [] func36 ?_
 have hx : limC 2097152 x := cf_lim2 C
 obtain ⟨⟨hn, hN⟩, ⟨hm, hM⟩, hw, hs⟩ := id hx
 have hcz := cf_zero C
 refine D ?_
 refine L (α := Nat) (fun i => [(12, .int .i64 i)]) (fun i => []) (fun i => x.wins.length - i) (fun i => i ≤ x.wins.length) 0 [] (fun i hI => ?_)
 refine D ?_
 refine cC (fun c0 => ?_) (fun c0 => ?_)
 · skip
   refine D ?_
   refine L (α := Nat) (fun j => [(24, .int .i64 j)]) (fun j => []) (fun j => i - j) (fun j => j ≤ i) 0 [] (fun j hI => ?_)
   refine D ?_
   refine cC (fun c1 => ?_) (fun c1 => ?_)
   · skip
     have ho := O i j (by omega) (by omega)
     have hgt := getD_take_lt zWon x.wins (show j < i by omega)
     have hA := hgt
     refine D ?_
     refine cC (fun c2 => ?_) (fun c2 => ?_)
     · skip
       exfalso
       grind
     · skip
       refine D ?_
       exact N (j+1) []
   · skip
     refine D ?_
     exact N (i+1) []
 · skip
   obtain rfl : i = x.wins.length := by omega
   refine D ?_
   exact E trivial
theorem s_impl_Cluster_logsMatch (x : Cluster) (C : CF x) (O : LogsM x) : SemX prog 37 [aT (.ptr (eCluster false x))] [] [rB true] [] := by
 refine goF [(94, ⟨some 1, none, none, none⟩)] [(4, 5, [20480], []), (9, 2, [20480], []), (9, 5, [28672], []), (11, 1, [20480], []), (11, 7, [28672], [])] [] func37 ?_
 have hx : limC 2097152 x := cf_lim2 C
 obtain ⟨⟨hn, hN⟩, ⟨hm, hM⟩, hw, hs⟩ := id hx
 have hcz := cf_zero C
 refine D ?_
 refine L (α := Nat) (fun i => [(14, .int .i64 i)]) (fun i => []) (fun i => x.nodes.length - i) (fun i => i ≤ x.nodes.length) 0 [] (fun i hI => ?_)
 refine D ?_
 refine cC (fun c0 => ?_) (fun c0 => ?_)
 · skip
   have hia := C.nd i (by omega)
   have hil := hia.1.l.n
   have hid := hia.2.1
   have hA := hid
   refine D ?_
   refine L (α := Nat) (fun j => [(26, .int .i64 j)]) (fun j => []) (fun j => i - j) (fun j => j ≤ i) 0 [] (fun j hI => ?_)
   refine D ?_
   refine cC (fun c1 => ?_) (fun c1 => ?_)
   · skip
     have hja := C.nd j (by omega)
     have hjl := hja.1.l.n
     obtain ⟨cc, hc0, hc1, hc2, _, _⟩ := common_at (x.nodes.getD i zNode).log (x.nodes.getD j zNode).log
     have hgt := getD_take_lt zNode x.nodes (show j < i by omega)
     have hA := And.intro hA (hgt)
     refine D ?_
     refine kR (s_impl_CommonOf (x.nodes.getD i zNode).log (x.nodes.getD j zNode).log (by omega) (by omega)) ?_
     refine D ?_
     refine L (α := Nat) (fun k => [(8, .int .i64 k)]) (fun k => []) (fun k => (x.nodes.getD i zNode).log.length + 1 - k) (fun k => commonN (x.nodes.getD i zNode).log (x.nodes.getD j zNode).log ≤ k ∧ k ≤ (x.nodes.getD i zNode).log.length) (commonN (x.nodes.getD i zNode).log (x.nodes.getD j zNode).log) [] (fun k hL => ?_)
     obtain ⟨hk0, hk1⟩ := hL
     refine D ?_
     refine kD (s_impl_size_Entry ((x.nodes.getD i zNode).log.map eEntry)) ?_
     refine D ?_
     refine kD (s_impl_size_Entry ((x.nodes.getD j zNode).log.map eEntry)) ?_
     refine D ?_
     refine cC (fun c2 => ?_) (fun c2 => ?_)
     · skip
       have ho := O i j (by omega) (by omega) k hk0 (by omega) (by omega)
       refine D ?_
       refine cC (fun c3 => ?_) (fun c3 => ?_)
       · skip
         exact absurd c3 ho
       · skip
         refine D ?_
         exact N (k+1) []
     · skip
       refine D ?_
       exact N (j+1) []
   · skip
     refine D ?_
     exact N (i+1) []
 · skip
   obtain rfl : i = x.nodes.length := by omega
   refine D ?_
   exact E trivial
theorem s_impl_Cluster_sealed (x : Cluster) (hs : x.seals.length ≤ 2097152) : SemX prog 19 [aT (.ptr (eCluster false x))] [] [.one (.sl true 9 ((sealedE x).map eEntry))] [] := by
 refine goF [] [] [] func19 ?_
 have hsl := sealed_len x
 refine D ?_
 refine L (α := Nat) (fun i => [(12, .int .i64 i), (3, .ref 28672 0 i)]) (fun i => [(28672, .arr ⟨9, ((sealedE x).take i).map eEntry, 1, none⟩)]) (fun i => x.seals.length - i) (fun i => i ≤ x.seals.length) 0 [] (fun i hI => ?_)
 refine D ?_
 refine cC (fun c0 => ?_) (fun c0 => ?_)
 · skip
   refine D ?_
   refine lp_next (i+1) [(28672,86016)] ?_ ?_ ?_
   · simp only [go_sem] <;> and_intros <;> first | with_reducible exact rfl | (first | omega | (rw [take_succ_map _ zEntry (by rw [sealed_len]; omega), sealed_at]; simp only [eEntry]))
   · omega
   · omega
 · skip
   obtain rfl : i = x.seals.length := by omega
   rw [show x.seals.length = (sealedE x).length from (sealed_len x).symm, List.take_length]
   refine D ?_
   exact E trivial
theorem s_slices_IndexFunc_Node (R : List Node) (hl : R.length ≤ 2097152) (fn : Nat) (sq : List Entry) (hsq : sq.length ≤ 2097152) (q : Node → Bool) (hq : callB prog fn = true) (hf : ∀ b : Node, b ∈ R → SemX prog fn [aS (eNode false b), aT (.ptr [.sl false 9 (sq.map eEntry)])] [] [rB (q b)] []) (h0 : ∀ i, i < R.length → q (R.getD i zNode) = false) : SemX prog 83 [aT (.sl false 10 (R.map (eNode false))), .one (.fn fn [.t (.ptr [.sl false 9 (sq.map eEntry)])])] [] [rI (-1)] [] := by
 refine goF [] [] [] func83 ?_
 refine D ?_
 refine L (α := Nat) (fun x => [(8, .int .i64 x)]) (fun x => []) (fun x => R.length - x) (fun x => x ≤ R.length) 0 [] (fun x hI => ?_)
 refine D ?_
 refine cC (fun c0 => ?_) (fun c0 => ?_)
 · skip
   have h1 := h0 x (by omega)
   refine D ?_
   refine kR (hf (R.getD x zNode) (getD_mem zNode (by omega))) ?_ hq
   refine D ?_
   refine cC (fun c1 => ?_) (fun c1 => ?_)
   · skip
     rw [h1] at c1
     cases c1
   · skip
     refine D ?_
     exact N (x+1) []
 · skip
   refine D ?_
   exact E trivial
theorem s_slices_ContainsFunc_Node (R : List Node) (hl : R.length ≤ 2097152) (fn : Nat) (sq : List Entry) (hsq : sq.length ≤ 2097152) (q : Node → Bool) (hq : callB prog fn = true) (hf : ∀ b : Node, b ∈ R → SemX prog fn [aS (eNode false b), aT (.ptr [.sl false 9 (sq.map eEntry)])] [] [rB (q b)] []) (h0 : ∀ i, i < R.length → q (R.getD i zNode) = false) : SemX prog 66 [aT (.sl false 10 (R.map (eNode false))), .one (.fn fn [.t (.ptr [.sl false 9 (sq.map eEntry)])])] [] [rB false] [] := by
 refine goF [] [] [] func66 ?_
 refine D ?_
 refine kR (s_slices_IndexFunc_Node R hl fn sq hsq q hq hf h0) ?_
 refine D ?_
 refine E ?_
 first
 | exact trivial
 | simp
theorem s_impl_Cluster_sealsKept_1 (x : Node) (hx : limN 2097152 x) (sq : List Entry) (hsq : sq.length ≤ 2097152) : SemX prog 67 [aS (eNode false x), aT (.ptr [.sl false 9 (sq.map eEntry)])] [] [rB (decide ((commonN x.log sq : Int) < x.commit))] [] := by
 refine goF [] [(1, 1, [12288], []), (1, 5, [12288], [])] [] func67 ?_
 refine D ?_
 refine kD (s_impl_CommonOf x.log sq hx.1 hsq) ?_
 refine D ?_
 exact E trivial
theorem s_impl_Cluster_sealsKept (x : Cluster) (C : CF x) (O : SealsK x) : SemX prog 38 [aT (.ptr (eCluster false x))] [] [rB true] [] := by
 refine goF [] [] [] func38 ?_
 have hx : limC 2097152 x := cf_lim2 C
 obtain ⟨⟨hn, hN⟩, ⟨hm, hM⟩, hw, hs⟩ := id hx
 have hcz := cf_zero C
 have hsl := sealed_len x
 refine D ?_
 refine kR (s_impl_Cluster_sealed x hs) ?_
 refine D ?_
 refine kR (s_slices_ContainsFunc_Node x.nodes hn 67 (sealedE x) (by omega) (fun b => decide ((commonN b.log (sealedE x) : Int) < b.commit)) (by kernel_rfl) (fun b hb => s_impl_Cluster_sealsKept_1 b (hN b hb) _ (by omega)) (fun i hi => by have := (O i hi).1; simp only [decide_eq_false_iff_not]; omega)) ?_
 refine D ?_
 exact E trivial
theorem s_impl_Cluster_leadersHave (x : Cluster) (C : CF x) (O : LeadH x) : SemX prog 39 [aT (.ptr (eCluster false x))] [] [rB true] [] := by
 refine goF [] [(8, 1, [28672], []), (8, 3, [20480], []), (8, 8, [20480], []), (8, 13, [20480], []), (8, 18, [28672], [])] [] func39 ?_
 have hx : limC 2097152 x := cf_lim2 C
 obtain ⟨⟨hn, hN⟩, ⟨hm, hM⟩, hw, hs⟩ := id hx
 have hcz := cf_zero C
 refine D ?_
 refine L (α := Nat) (fun i => [(12, .int .i64 i)]) (fun i => []) (fun i => x.nodes.length - i) (fun i => i ≤ x.nodes.length) 0 [] (fun i hI => ?_)
 refine D ?_
 refine cC (fun c0 => ?_) (fun c0 => ?_)
 · skip
   refine D ?_
   refine cC (fun c1 => ?_) (fun c1 => ?_)
   · skip
     refine D ?_
     exact N (i+1) []
   · skip
     have hr : (x.nodes.getD i zNode).role = 2 := by simpa [-List.getD_eq_getElem?_getD] using c1
     refine D ?_
     refine L (α := Nat) (fun j => [(24, .int .i64 j)]) (fun j => []) (fun j => x.seals.length - j) (fun j => j ≤ x.seals.length) 0 [] (fun j hI => ?_)
     refine D ?_
     refine cC (fun c2 => ?_) (fun c2 => ?_)
     · skip
       have ho := O i (by omega) hr j (by omega)
       refine D ?_
       refine cC (fun c3 => ?_) (fun c3 => ?_)
       · skip
         exfalso
         grind
       · skip
         refine D ?_
         exact N (j+1) []
     · skip
       refine D ?_
       exact N (i+1) []
 · skip
   obtain rfl : i = x.nodes.length := by omega
   refine D ?_
   exact E trivial
theorem s_impl_SafeCluster (x : Cluster) (S : SafeC x) : SemX prog 17 [aS (eCluster false x)] [] [rB true] [] := by
 refine goF [] [] [] func17 ?_
 have C := S.f
 have hx : limC 2097152 x := cf_lim2 C
 obtain ⟨⟨hn, hN⟩, ⟨hm, hM⟩, hw, hs⟩ := id hx
 have hcz := cf_zero C
 have hA := hcz
 refine D ?_
 refine kR (s_impl_ClusterFault x hx) ?_
 refine D ?_
 refine kRg (s_impl_Cluster_oneLeader x C S.o) ?_
 refine D ?_
 refine kRg (s_impl_Cluster_logsMatch x C S.l) ?_
 refine D ?_
 refine kRg (s_impl_Cluster_sealsKept x C S.s) ?_
 refine D ?_
 refine kRg (s_impl_Cluster_leadersHave x C S.h) ?_
 refine D ?_
 exact E trivial
section
attribute [local go_sem] lwX
theorem s_laws_lwCluster (code : List Int) (hb : okB code) (watch : Bool) : SemX prog 5 [aT (.sl false 1 (code.map eI_u8)), .one (.t (.bool watch))] [] [.agg (eCluster true (lwC code 50)), rB true] [] := by
 refine goF [(32, ⟨some 1, none, none, none⟩), (34, ⟨some 1, none, none, none⟩), (78, ⟨some 1, none, none, none⟩), (90, ⟨some 1, none, none, none⟩), (154, ⟨some 1, none, none, none⟩), (158, ⟨some 1, none, none, none⟩), (162, ⟨some 1, none, none, none⟩), (168, ⟨some 1, none, none, none⟩), (196, ⟨some 1, none, none, none⟩), (200, ⟨some 1, none, none, none⟩), (216, ⟨some 1, none, none, none⟩), (220, ⟨some 1, none, none, none⟩), (110, ⟨some 1, none, none, none⟩), (60, ⟨some 1, none, none, none⟩)] [(21, 0, [28672], []), (21, 14, [73729, 73730, 73731, 73732], [356353, 356354, 356355, 356356]), (21, 15, [53248], [53248]), (25, 0, [28672], []), (25, 7, [73729, 73730, 73731, 73732], [417793, 417794, 417795, 417796]), (25, 8, [53248], [53248]), (27, 0, [28672], []), (27, 7, [73729, 73730, 73731, 73732], [458753, 458754, 458755, 458756]), (27, 8, [53248], [53248]), (13, 0, [28672], []), (13, 6, [73729, 73730, 73731, 73732], [237569, 237570, 237571, 237572]), (13, 7, [53248], [53248])] [] func5 ?_
 have hv := lwV_bd hb (i := 0) (by omega) 3
 have hnw : (1 + 2 * lwV code 0 3) = (((1 + 2 * lwV code 0 3).toNat : Nat) : Int) := by omega
 have hNC := s_impl_NewCluster (1 + 2 * lwV code 0 3).toNat (by omega)
 rw [← hnw] at hNC
 have hps : decide ((0 : Int) < (newC (1 + 2 * lwV code 0 3).toNat).nodes.length) = true := by have := (lwC_safe hb 0).f.n; exact decide_eq_true (by have h : (lwC code 0).nodes.length = (newC (1 + 2 * lwV code 0 3).toNat).nodes.length := rfl; omega)
 have hA := hps
 refine D ?_
 refine kR (s_laws_lwAt code hb (0) (3) (by omega) (by omega)) ?_
 refine D ?_
 refine kR hNC ?_
 refine D ?_
 refine L (α := Nat) (fun k => [(7, .bool true), (8, .int .i64 k)]) (fun k => [(28672, .var [.ref 73729 0 (lwC code k).nodes.length, .ref 73730 0 (lwC code k).mails.length, .ref 73731 0 (lwC code k).wins.length, .ref 73732 0 (lwC code k).seals.length]), (73729, .arr ⟨10, (lwC code k).nodes.map (eNode true), 1, none⟩), (73730, .arr ⟨9, (lwC code k).mails.map (eMail true), 1, none⟩), (73731, .arr ⟨2, (lwC code k).wins.map eWon, 1, none⟩), (73732, .arr ⟨10, (lwC code k).seals.map eSeal, 1, none⟩)]) (fun k => 50 - k) (fun k => k ≤ 50) 0 [] (fun k hI => ?_) (by simp only [go_sem, hA] <;> and_intros <;> first | with_reducible exact rfl | (first | omega | exact rfl | (simp; done)))
 have hS := lwC_safe hb k
 have hx := cf_lim2 hS.f
 have hn5 := hS.f.n
 have hm8 := hS.f.m
 have hbk := lwV_bd hb (i := (k : Int) + 1) (by omega) 16
 have hb9 := lwV_bd hb (i := (k : Int) + 90) (by omega) 3
 refine D ?_
 refine cC (fun c0 => ?_) (fun c0 => ?_)
 · skip
   refine D ?_
   refine kR (s_laws_lwAt code hb ((k : Int) + 60) ((lwC code k).nodes.length) (by omega) (by omega)) ?_
   refine D ?_
   refine kR (s_laws_lwAt code hb ((k : Int) + 1) (16) (by omega) (by omega)) ?_
   refine D ?_
   refine cC (fun c1 => ?_) (fun c1 => ?_)
   · skip
     refine D ?_
     have hT := (s_impl_TimeoutAt (lwC code k) hx (lwV code (k + 60) (lwC code k).nodes.length))
     have hR : atNode (lwC code k) (lwV code (k + 60) (lwC code k).nodes.length) (timeoutNode ((lwC code k).nodes.getD (lwV code (k + 60) (lwC code k).nodes.length).toNat zNode)) = lwR code k (lwC code k) := by unfold lwR; rw [if_pos c1]; try rfl
     rw [hR] at hT
     refine kR hT ?_
     refine D ?_
     refine cC (fun c10 => ?_) (fun c10 => ?_)
     · skip
       have hc0 : (lwR code k (lwC code k)).code = 0 := by simpa using c10
       have hN : lwC code (k + 1) = (lwR code k (lwC code k)).cluster := if_pos hc0
       have hSf : SafeC (lwR code k (lwC code k)).cluster := hN ▸ lwC_safe hb (k + 1)
       refine D ?_
       refine kRg (s_impl_SafeCluster (lwR code k (lwC code k)).cluster hSf) ?_
       refine D ?_
       refine lp_next (k + 1) [(73729,258049),(73730,258050),(73731,258051),(73732,258052)] ?_ ?_ ?_
       · simp only [go_sem, hA] <;> and_intros <;> first | with_reducible exact rfl | (first | with_reducible exact rfl | omega | (rw [hN]; done) | (cases watch <;> rfl) | (refine int_eq ?_; omega) | (simp; done))
       · omega
       · omega
     · skip
       have hc0 : ¬ (lwR code k (lwC code k)).code = 0 := by simpa using c10
       have hN : lwC code (k + 1) = lwC code k := if_neg hc0
       refine D ?_
       refine lp_next (k + 1) [] ?_ ?_ ?_
       · simp only [go_sem, hA] <;> and_intros <;> first | with_reducible exact rfl | (first | with_reducible exact rfl | omega | (rw [hN]; done) | (cases watch <;> rfl) | (refine int_eq ?_; omega) | (simp; done))
       · omega
       · omega
   · skip
     refine D ?_
     refine cC (fun c2 => ?_) (fun c2 => ?_)
     · skip
       refine D ?_
       refine cC (fun c3 => ?_) (fun c3 => ?_)
       · skip
         refine D ?_
         have hT := (s_impl_SpreadAt (lwC code k) hx (lwV code (k + 60) (lwC code k).nodes.length))
         have hR : atNode (lwC code k) (lwV code (k + 60) (lwC code k).nodes.length) (spreadNode ((lwC code k).nodes.getD (lwV code (k + 60) (lwC code k).nodes.length).toNat zNode)) = lwR code k (lwC code k) := by unfold lwR; rw [if_neg c1, if_pos (by omega)]; try rfl
         rw [hR] at hT
         refine kR hT ?_
         refine D ?_
         refine cC (fun c10 => ?_) (fun c10 => ?_)
         · skip
           have hc0 : (lwR code k (lwC code k)).code = 0 := by simpa using c10
           have hN : lwC code (k + 1) = (lwR code k (lwC code k)).cluster := if_pos hc0
           have hSf : SafeC (lwR code k (lwC code k)).cluster := hN ▸ lwC_safe hb (k + 1)
           refine D ?_
           refine kRg (s_impl_SafeCluster (lwR code k (lwC code k)).cluster hSf) ?_
           refine D ?_
           refine lp_next (k + 1) [(73729,282625),(73730,282626),(73731,282627),(73732,282628)] ?_ ?_ ?_
           · simp only [go_sem, hA] <;> and_intros <;> first | with_reducible exact rfl | (first | with_reducible exact rfl | omega | (rw [hN]; done) | (cases watch <;> rfl) | (refine int_eq ?_; omega) | (simp; done))
           · omega
           · omega
         · skip
           have hc0 : ¬ (lwR code k (lwC code k)).code = 0 := by simpa using c10
           have hN : lwC code (k + 1) = lwC code k := if_neg hc0
           refine D ?_
           refine lp_next (k + 1) [] ?_ ?_ ?_
           · simp only [go_sem, hA] <;> and_intros <;> first | with_reducible exact rfl | (first | with_reducible exact rfl | omega | (rw [hN]; done) | (cases watch <;> rfl) | (refine int_eq ?_; omega) | (simp; done))
           · omega
           · omega
       · skip
         exact absurd c2 (by simpa using c3)
     · skip
       refine D ?_
       refine cC (fun c3 => ?_) (fun c3 => ?_)
       · skip
         refine D ?_
         have hT := (s_impl_SpreadAt (lwC code k) hx (lwV code (k + 60) (lwC code k).nodes.length))
         have hR : atNode (lwC code k) (lwV code (k + 60) (lwC code k).nodes.length) (spreadNode ((lwC code k).nodes.getD (lwV code (k + 60) (lwC code k).nodes.length).toNat zNode)) = lwR code k (lwC code k) := by unfold lwR; rw [if_neg c1, if_pos (by omega)]; try rfl
         rw [hR] at hT
         refine kR hT ?_
         refine D ?_
         refine cC (fun c10 => ?_) (fun c10 => ?_)
         · skip
           have hc0 : (lwR code k (lwC code k)).code = 0 := by simpa using c10
           have hN : lwC code (k + 1) = (lwR code k (lwC code k)).cluster := if_pos hc0
           have hSf : SafeC (lwR code k (lwC code k)).cluster := hN ▸ lwC_safe hb (k + 1)
           refine D ?_
           refine kRg (s_impl_SafeCluster (lwR code k (lwC code k)).cluster hSf) ?_
           refine D ?_
           refine lp_next (k + 1) [(73729,282625),(73730,282626),(73731,282627),(73732,282628)] ?_ ?_ ?_
           · simp only [go_sem, hA] <;> and_intros <;> first | with_reducible exact rfl | (first | with_reducible exact rfl | omega | (rw [hN]; done) | (cases watch <;> rfl) | (refine int_eq ?_; omega) | (simp; done))
           · omega
           · omega
         · skip
           have hc0 : ¬ (lwR code k (lwC code k)).code = 0 := by simpa using c10
           have hN : lwC code (k + 1) = lwC code k := if_neg hc0
           refine D ?_
           refine lp_next (k + 1) [] ?_ ?_ ?_
           · simp only [go_sem, hA] <;> and_intros <;> first | with_reducible exact rfl | (first | with_reducible exact rfl | omega | (rw [hN]; done) | (cases watch <;> rfl) | (refine int_eq ?_; omega) | (simp; done))
           · omega
           · omega
       · skip
         refine D ?_
         refine cC (fun c4 => ?_) (fun c4 => ?_)
         · skip
           refine D ?_
           refine cC (fun c5 => ?_) (fun c5 => ?_)
           · skip
             refine D ?_
             refine kD (s_laws_lwAt code hb ((k : Int) + 90) (3) (by omega) (by omega)) ?_
             refine D ?_
             refine kD (s_laws_lwAt code hb ((k : Int) + 120) (9) (by omega) (by omega)) ?_
             refine D ?_
             have hT := (s_impl_AskAt (lwC code k) hx (lwV code (k + 60) (lwC code k).nodes.length) (1 + lwV code (k + 90) 3) (k + 1) (lwX code k))
             have hR : atNode (lwC code k) (lwV code (k + 60) (lwC code k).nodes.length) (askNode ((lwC code k).nodes.getD (lwV code (k + 60) (lwC code k).nodes.length).toNat zNode) ⟨((lwC code k).nodes.getD (lwV code (k + 60) (lwC code k).nodes.length).toNat zNode).term, 1 + lwV code (k + 90) 3, k + 1, lwX code k⟩) = lwR code k (lwC code k) := by unfold lwR; rw [if_neg c1, if_neg (by omega), if_pos (by omega)]; try rfl
             rw [hR] at hT
             refine kD hT ?_
             refine D ?_
             refine cC (fun c10 => ?_) (fun c10 => ?_)
             · skip
               have hc0 : (lwR code k (lwC code k)).code = 0 := by simpa using c10
               have hN : lwC code (k + 1) = (lwR code k (lwC code k)).cluster := if_pos hc0
               have hSf : SafeC (lwR code k (lwC code k)).cluster := hN ▸ lwC_safe hb (k + 1)
               refine D ?_
               refine kRg (s_impl_SafeCluster (lwR code k (lwC code k)).cluster hSf) ?_
               refine D ?_
               refine lp_next (k + 1) [(73729,356353),(73730,356354),(73731,356355),(73732,356356)] ?_ ?_ ?_
               · simp only [go_sem, hA] <;> and_intros <;> first | with_reducible exact rfl | (first | with_reducible exact rfl | omega | (rw [hN]; done) | (cases watch <;> rfl) | (refine int_eq ?_; omega) | (simp; done))
               · omega
               · omega
             · skip
               have hc0 : ¬ (lwR code k (lwC code k)).code = 0 := by simpa using c10
               have hN : lwC code (k + 1) = lwC code k := if_neg hc0
               refine D ?_
               refine lp_next (k + 1) [] ?_ ?_ ?_
               · simp only [go_sem, hA] <;> and_intros <;> first | with_reducible exact rfl | (first | with_reducible exact rfl | omega | (rw [hN]; done) | (cases watch <;> rfl) | (refine int_eq ?_; omega) | (simp; done))
               · omega
               · omega
           · skip
             exact absurd c4 (by simpa using c5)
         · skip
           refine D ?_
           refine cC (fun c5 => ?_) (fun c5 => ?_)
           · skip
             refine D ?_
             refine kD (s_laws_lwAt code hb ((k : Int) + 90) (3) (by omega) (by omega)) ?_
             refine D ?_
             refine kD (s_laws_lwAt code hb ((k : Int) + 120) (9) (by omega) (by omega)) ?_
             refine D ?_
             have hT := (s_impl_AskAt (lwC code k) hx (lwV code (k + 60) (lwC code k).nodes.length) (1 + lwV code (k + 90) 3) (k + 1) (lwX code k))
             have hR : atNode (lwC code k) (lwV code (k + 60) (lwC code k).nodes.length) (askNode ((lwC code k).nodes.getD (lwV code (k + 60) (lwC code k).nodes.length).toNat zNode) ⟨((lwC code k).nodes.getD (lwV code (k + 60) (lwC code k).nodes.length).toNat zNode).term, 1 + lwV code (k + 90) 3, k + 1, lwX code k⟩) = lwR code k (lwC code k) := by unfold lwR; rw [if_neg c1, if_neg (by omega), if_pos (by omega)]; try rfl
             rw [hR] at hT
             refine kD hT ?_
             refine D ?_
             refine cC (fun c10 => ?_) (fun c10 => ?_)
             · skip
               have hc0 : (lwR code k (lwC code k)).code = 0 := by simpa using c10
               have hN : lwC code (k + 1) = (lwR code k (lwC code k)).cluster := if_pos hc0
               have hSf : SafeC (lwR code k (lwC code k)).cluster := hN ▸ lwC_safe hb (k + 1)
               refine D ?_
               refine kRg (s_impl_SafeCluster (lwR code k (lwC code k)).cluster hSf) ?_
               refine D ?_
               refine lp_next (k + 1) [(73729,356353),(73730,356354),(73731,356355),(73732,356356)] ?_ ?_ ?_
               · simp only [go_sem, hA] <;> and_intros <;> first | with_reducible exact rfl | (first | with_reducible exact rfl | omega | (rw [hN]; done) | (cases watch <;> rfl) | (refine int_eq ?_; omega) | (simp; done))
               · omega
               · omega
             · skip
               have hc0 : ¬ (lwR code k (lwC code k)).code = 0 := by simpa using c10
               have hN : lwC code (k + 1) = lwC code k := if_neg hc0
               refine D ?_
               refine lp_next (k + 1) [] ?_ ?_ ?_
               · simp only [go_sem, hA] <;> and_intros <;> first | with_reducible exact rfl | (first | with_reducible exact rfl | omega | (rw [hN]; done) | (cases watch <;> rfl) | (refine int_eq ?_; omega) | (simp; done))
               · omega
               · omega
           · skip
             refine D ?_
             refine cC (fun c6 => ?_) (fun c6 => ?_)
             · skip
               refine D ?_
               have hT := (s_impl_CrashAt (lwC code k) hx (lwV code (k + 60) (lwC code k).nodes.length))
               have hR : atNode (lwC code k) (lwV code (k + 60) (lwC code k).nodes.length) (crashNode ((lwC code k).nodes.getD (lwV code (k + 60) (lwC code k).nodes.length).toNat zNode)) = lwR code k (lwC code k) := by unfold lwR; rw [if_neg c1, if_neg (by omega), if_neg (by omega), if_pos c6]; try rfl
               rw [hR] at hT
               refine kR hT ?_
               refine D ?_
               refine cC (fun c10 => ?_) (fun c10 => ?_)
               · skip
                 have hc0 : (lwR code k (lwC code k)).code = 0 := by simpa using c10
                 have hN : lwC code (k + 1) = (lwR code k (lwC code k)).cluster := if_pos hc0
                 have hSf : SafeC (lwR code k (lwC code k)).cluster := hN ▸ lwC_safe hb (k + 1)
                 refine D ?_
                 refine kRg (s_impl_SafeCluster (lwR code k (lwC code k)).cluster hSf) ?_
                 refine D ?_
                 refine lp_next (k + 1) [(73729,376833),(73730,376834),(73731,376835),(73732,376836)] ?_ ?_ ?_
                 · simp only [go_sem, hA] <;> and_intros <;> first | with_reducible exact rfl | (first | with_reducible exact rfl | omega | (rw [hN]; done) | (cases watch <;> rfl) | (refine int_eq ?_; omega) | (simp; done))
                 · omega
                 · omega
               · skip
                 have hc0 : ¬ (lwR code k (lwC code k)).code = 0 := by simpa using c10
                 have hN : lwC code (k + 1) = lwC code k := if_neg hc0
                 refine D ?_
                 refine lp_next (k + 1) [] ?_ ?_ ?_
                 · simp only [go_sem, hA] <;> and_intros <;> first | with_reducible exact rfl | (first | with_reducible exact rfl | omega | (rw [hN]; done) | (cases watch <;> rfl) | (refine int_eq ?_; omega) | (simp; done))
                 · omega
                 · omega
             · skip
               refine D ?_
               refine cC (fun c7 => ?_) (fun c7 => ?_)
               · skip
                 refine D ?_
                 refine kD (s_laws_lwAt code hb ((k : Int) + 90) (((lwC code k).mails.length : Int) + 1) (by omega) (by omega)) ?_
                 refine D ?_
                 have hT := (s_impl_DropMail (lwC code k) hx (lwV code (k + 90) ((lwC code k).mails.length + 1)))
                 have hR : dropMail (lwC code k) (lwV code (k + 90) ((lwC code k).mails.length + 1)) = lwR code k (lwC code k) := by unfold lwR; rw [if_neg c1, if_neg (by omega), if_neg (by omega), if_neg c6, if_pos c7]; try rfl
                 rw [hR] at hT
                 refine kD hT ?_
                 refine D ?_
                 refine cC (fun c10 => ?_) (fun c10 => ?_)
                 · skip
                   have hc0 : (lwR code k (lwC code k)).code = 0 := by simpa using c10
                   have hN : lwC code (k + 1) = (lwR code k (lwC code k)).cluster := if_pos hc0
                   have hSf : SafeC (lwR code k (lwC code k)).cluster := hN ▸ lwC_safe hb (k + 1)
                   refine D ?_
                   refine kRg (s_impl_SafeCluster (lwR code k (lwC code k)).cluster hSf) ?_
                   refine D ?_
                   refine lp_next (k + 1) [(73729,417793),(73730,417794),(73731,417795),(73732,417796)] ?_ ?_ ?_
                   · simp only [go_sem, hA] <;> and_intros <;> first | with_reducible exact rfl | (first | with_reducible exact rfl | omega | (rw [hN]; done) | (cases watch <;> rfl) | (refine int_eq ?_; omega) | (simp; done))
                   · omega
                   · omega
                 · skip
                   have hc0 : ¬ (lwR code k (lwC code k)).code = 0 := by simpa using c10
                   have hN : lwC code (k + 1) = lwC code k := if_neg hc0
                   refine D ?_
                   refine lp_next (k + 1) [] ?_ ?_ ?_
                   · simp only [go_sem, hA] <;> and_intros <;> first | with_reducible exact rfl | (first | with_reducible exact rfl | omega | (rw [hN]; done) | (cases watch <;> rfl) | (refine int_eq ?_; omega) | (simp; done))
                   · omega
                   · omega
               · skip
                 refine D ?_
                 refine cC (fun c8 => ?_) (fun c8 => ?_)
                 · skip
                   refine D ?_
                   refine kD (s_laws_lwAt code hb ((k : Int) + 90) (((lwC code k).mails.length : Int) + 1) (by omega) (by omega)) ?_
                   refine D ?_
                   have hT := (s_impl_CopyMail (lwC code k) hx (lwV code (k + 90) ((lwC code k).mails.length + 1)))
                   have hR : copyMail (lwC code k) (lwV code (k + 90) ((lwC code k).mails.length + 1)) = lwR code k (lwC code k) := by unfold lwR; rw [if_neg c1, if_neg (by omega), if_neg (by omega), if_neg c6, if_neg c7, if_pos c8]; try rfl
                   rw [hR] at hT
                   refine kD hT ?_
                   refine D ?_
                   refine cC (fun c10 => ?_) (fun c10 => ?_)
                   · skip
                     have hc0 : (lwR code k (lwC code k)).code = 0 := by simpa using c10
                     have hN : lwC code (k + 1) = (lwR code k (lwC code k)).cluster := if_pos hc0
                     have hSf : SafeC (lwR code k (lwC code k)).cluster := hN ▸ lwC_safe hb (k + 1)
                     refine D ?_
                     refine kRg (s_impl_SafeCluster (lwR code k (lwC code k)).cluster hSf) ?_
                     refine D ?_
                     refine lp_next (k + 1) [(73729,458753),(73730,458754),(73731,458755),(73732,458756)] ?_ ?_ ?_
                     · simp only [go_sem, hA] <;> and_intros <;> first | with_reducible exact rfl | (first | with_reducible exact rfl | omega | (rw [hN]; done) | (cases watch <;> rfl) | (refine int_eq ?_; omega) | (simp; done))
                     · omega
                     · omega
                   · skip
                     have hc0 : ¬ (lwR code k (lwC code k)).code = 0 := by simpa using c10
                     have hN : lwC code (k + 1) = lwC code k := if_neg hc0
                     refine D ?_
                     refine lp_next (k + 1) [] ?_ ?_ ?_
                     · simp only [go_sem, hA] <;> and_intros <;> first | with_reducible exact rfl | (first | with_reducible exact rfl | omega | (rw [hN]; done) | (cases watch <;> rfl) | (refine int_eq ?_; omega) | (simp; done))
                     · omega
                     · omega
                 · skip
                   refine D ?_
                   refine cC (fun c9 => ?_) (fun c9 => ?_)
                   · skip
                     refine D ?_
                     have hT := (s_impl_TimeoutAt (lwC code k) hx (lwV code (k + 60) (lwC code k).nodes.length))
                     have hR : atNode (lwC code k) (lwV code (k + 60) (lwC code k).nodes.length) (timeoutNode ((lwC code k).nodes.getD (lwV code (k + 60) (lwC code k).nodes.length).toNat zNode)) = lwR code k (lwC code k) := by unfold lwR; rw [if_neg c1, if_neg (by omega), if_neg (by omega), if_neg c6, if_neg c7, if_neg c8, if_pos (by omega)]; try rfl
                     rw [hR] at hT
                     refine kR hT ?_
                     refine D ?_
                     refine cC (fun c10 => ?_) (fun c10 => ?_)
                     · skip
                       have hc0 : (lwR code k (lwC code k)).code = 0 := by simpa using c10
                       have hN : lwC code (k + 1) = (lwR code k (lwC code k)).cluster := if_pos hc0
                       have hSf : SafeC (lwR code k (lwC code k)).cluster := hN ▸ lwC_safe hb (k + 1)
                       refine D ?_
                       refine kRg (s_impl_SafeCluster (lwR code k (lwC code k)).cluster hSf) ?_
                       refine D ?_
                       refine lp_next (k + 1) [(73729,208897),(73730,208898),(73731,208899),(73732,208900)] ?_ ?_ ?_
                       · simp only [go_sem, hA] <;> and_intros <;> first | with_reducible exact rfl | (first | with_reducible exact rfl | omega | (rw [hN]; done) | (cases watch <;> rfl) | (refine int_eq ?_; omega) | (simp; done))
                       · omega
                       · omega
                     · skip
                       have hc0 : ¬ (lwR code k (lwC code k)).code = 0 := by simpa using c10
                       have hN : lwC code (k + 1) = lwC code k := if_neg hc0
                       refine D ?_
                       refine lp_next (k + 1) [] ?_ ?_ ?_
                       · simp only [go_sem, hA] <;> and_intros <;> first | with_reducible exact rfl | (first | with_reducible exact rfl | omega | (rw [hN]; done) | (cases watch <;> rfl) | (refine int_eq ?_; omega) | (simp; done))
                       · omega
                       · omega
                   · skip
                     refine D ?_
                     refine kD (s_laws_lwAt code hb ((k : Int) + 90) ((lwC code k).mails.length) (by omega) (by omega)) ?_
                     refine D ?_
                     have hT := (s_impl_DeliverMail (lwC code k) hx (lwV code (k + 90) (lwC code k).mails.length))
                     have hR : deliverMail (lwC code k) (lwV code (k + 90) (lwC code k).mails.length) = lwR code k (lwC code k) := by unfold lwR; rw [if_neg c1, if_neg (by omega), if_neg (by omega), if_neg c6, if_neg c7, if_neg c8, if_neg (by omega)]; try rfl
                     rw [hR] at hT
                     refine kD hT ?_
                     refine D ?_
                     refine cC (fun c10 => ?_) (fun c10 => ?_)
                     · skip
                       have hc0 : (lwR code k (lwC code k)).code = 0 := by simpa using c10
                       have hN : lwC code (k + 1) = (lwR code k (lwC code k)).cluster := if_pos hc0
                       have hSf : SafeC (lwR code k (lwC code k)).cluster := hN ▸ lwC_safe hb (k + 1)
                       refine D ?_
                       refine kRg (s_impl_SafeCluster (lwR code k (lwC code k)).cluster hSf) ?_
                       refine D ?_
                       refine lp_next (k + 1) [(73729,237569),(73730,237570),(73731,237571),(73732,237572)] ?_ ?_ ?_
                       · simp only [go_sem, hA] <;> and_intros <;> first | with_reducible exact rfl | (first | with_reducible exact rfl | omega | (rw [hN]; done) | (cases watch <;> rfl) | (refine int_eq ?_; omega) | (simp; done))
                       · omega
                       · omega
                     · skip
                       have hc0 : ¬ (lwR code k (lwC code k)).code = 0 := by simpa using c10
                       have hN : lwC code (k + 1) = lwC code k := if_neg hc0
                       refine D ?_
                       refine lp_next (k + 1) [] ?_ ?_ ?_
                       · simp only [go_sem, hA] <;> and_intros <;> first | with_reducible exact rfl | (first | with_reducible exact rfl | omega | (rw [hN]; done) | (cases watch <;> rfl) | (refine int_eq ?_; omega) | (simp; done))
                       · omega
                       · omega
 · skip
   obtain rfl : k = 50 := by omega
   refine D ?_
   exact E trivial
end
end Go.H
end
