/- What the functions that several laws reach compute, each by its code, against pure functions. Conditions: those that each theorem states. -/
import Derived.Test.YtpkdcjbkfkhgdaaGreatQC2
section
set_option maxRecDepth 100000
set_option maxHeartbeats 4000000
set_option cbv.maxSteps 4000000
set_option linter.unusedVariables false
set_option linter.unusedSimpArgs false
namespace Go.H
open Go Go.Proofs.Tryz
variable [Inv prog]
theorem s_impl_NodeFault (x : Node) (hx : limN 2097152 x) : SemX prog 21 [aS (eNode false x)] [] [rI (nodeFault x)] [] := by
 refine goF [] [(7, 1, [8192], []), (7, 5, [8192], [])] [] func21 ?_
 obtain ⟨hx1, hx2, hx3, hx4⟩ := id hx
 refine D ?_
 refine kR (s_impl_in _ _ _) ?_
 refine D ?_
 refine kRg (s_impl_Node_isId x x.id) ?_
 refine D ?_
 refine kRg (s_impl_in _ _ _) ?_
 refine D ?_
 refine kRg (s_impl_Node_isId x x.voted) ?_
 refine D ?_
 refine kRg (s_impl_in _ _ _) ?_
 refine D ?_
 refine cC (fun c0 => ?_) (fun c0 => ?_)
 · skip
   have hr : nodeRange x = false := by have hv := voted_eq x; unfold nodeRange; grind
   refine D ?_
   refine E ?_
   first
   | exact trivial
   | unfold nodeFault rangeOk listsOk rises idsOk due
     grind
 · skip
   have hr : nodeRange x = true := by have hv := voted_eq x; unfold nodeRange; grind
   refine D ?_
   refine kR (s_impl_LogFault x.log (by omega)) ?_
   refine D ?_
   refine cC (fun c1 => ?_) (fun c1 => ?_)
   · skip
     refine D ?_
     refine E ?_
     first
     | exact trivial
     | unfold nodeFault rangeOk listsOk rises idsOk due
       grind
   · skip
     refine D ?_
     refine kR (s_impl_size_Entry (x.log.map eEntry)) ?_
     refine D ?_
     refine kD (s_impl_last x.log (by omega)) ?_
     refine D ?_
     refine cC (fun c2 => ?_) (fun c2 => ?_)
     · skip
       refine D ?_
       refine E ?_
       first
       | exact trivial
       | unfold nodeFault rangeOk listsOk rises idsOk due
         grind
     · skip
       refine D ?_
       refine kR (s_impl_in _ _ _) ?_
       refine D ?_
       refine cC (fun c3 => ?_) (fun c3 => ?_)
       · skip
         refine D ?_
         refine E ?_
         first
         | exact trivial
         | unfold nodeFault rangeOk listsOk rises idsOk due
           grind
       · skip
         refine D ?_
         refine cC (fun c4 => ?_) (fun c4 => ?_)
         · skip
           refine D ?_
           refine E ?_
           first
           | exact trivial
           | unfold nodeFault rangeOk listsOk rises idsOk due
             grind
         · skip
           refine D ?_
           refine L (α := Nat) (fun i => [(77, .int .i64 i)]) (fun i => []) (fun i => x.votes.length - i) (fun i => i ≤ x.votes.length ∧ ∀ j, j < i → isId x (x.votes.getD j zI_i64) = true ∧ (0 < j → x.votes.getD (j - 1) zI_i64 < x.votes.getD j zI_i64)) 0 [] (fun i hL => ?_) (hi := by exact ⟨Nat.zero_le _, fun j hj => absurd hj (by omega)⟩)
           obtain ⟨hI, hj⟩ := hL
           refine D ?_
           refine cC (fun c5 => ?_) (fun c5 => ?_)
           · skip
             refine D ?_
             refine kR (s_impl_Node_isId x (x.votes.getD i zI_i64)) ?_
             refine D ?_
             refine cC (fun c6 => ?_) (fun c6 => ?_)
             · skip
               refine D ?_
               refine E ?_
               first
               | exact trivial
               | unfold nodeFault rangeOk listsOk rises idsOk due
                 grind
             · skip
               refine D ?_
               refine N (i+1) [] (hi := ?_) (hm := ?_)
               · refine ⟨by omega, fun j hj2 => ?_⟩
                 rcases Nat.lt_or_ge j i with h | h
                 · exact hj j h
                 · rw [show j = i by omega]; grind
               · omega
           · skip
             obtain rfl : i = x.votes.length := by omega
             refine D ?_
             refine cC (fun c7 => ?_) (fun c7 => ?_)
             · skip
               refine D ?_
               refine kR (s_impl_size_int64 (x.next.map eI_i64)) ?_
               refine D ?_
               refine kRg (s_impl_size_int64 (x.match_.map eI_i64)) ?_
               refine D ?_
               refine cC (fun c8 => ?_) (fun c8 => ?_)
               · skip
                 refine D ?_
                 refine E ?_
                 first
                 | exact trivial
                 | unfold nodeFault rangeOk listsOk rises idsOk due
                   grind
               · skip
                 refine D ?_
                 refine kR (s_slices_ContainsFunc_int64 x.next 63 x.log.length (fun k => !inR k 1 (x.log.length + 1)) (by kernel_rfl) (fun v => s_impl_NodeFault_1 v _ (by omega) (by omega)) hx3) ?_
                 refine D ?_
                 refine cC (fun c9 => ?_) (fun c9 => ?_)
                 · skip
                   refine D ?_
                   refine E ?_
                   first
                   | exact trivial
                   | unfold nodeFault rangeOk listsOk rises idsOk due
                     grind
                 · skip
                   refine D ?_
                   refine kR (s_slices_ContainsFunc_int64 x.match_ 64 x.log.length (fun k => !inR k 0 x.log.length) (by kernel_rfl) (fun v => s_impl_NodeFault_2 v _) hx4) ?_
                   refine D ?_
                   refine cC (fun c10 => ?_) (fun c10 => ?_)
                   · skip
                     refine D ?_
                     refine E ?_
                     first
                     | exact trivial
                     | unfold nodeFault rangeOk listsOk rises idsOk due
                       grind
                   · skip
                     refine D ?_
                     refine cC (fun c11 => ?_) (fun c11 => ?_)
                     · skip
                       refine D ?_
                       refine E ?_
                       first
                       | exact trivial
                       | unfold nodeFault rangeOk listsOk rises idsOk due
                         grind
                     · skip
                       refine D ?_
                       refine E ?_
                       first
                       | exact trivial
                       | unfold nodeFault rangeOk listsOk rises idsOk due
                         grind
             · skip
               refine D ?_
               refine kR (s_impl_size_int64 (x.next.map eI_i64)) ?_
               refine D ?_
               refine kRg (s_impl_size_int64 (x.match_.map eI_i64)) ?_
               refine D ?_
               refine cC (fun c8 => ?_) (fun c8 => ?_)
               · skip
                 refine D ?_
                 refine E ?_
                 first
                 | exact trivial
                 | unfold nodeFault rangeOk listsOk rises idsOk due
                   grind
               · skip
                 refine D ?_
                 refine kR (s_slices_ContainsFunc_int64 x.next 63 x.log.length (fun k => !inR k 1 (x.log.length + 1)) (by kernel_rfl) (fun v => s_impl_NodeFault_1 v _ (by omega) (by omega)) hx3) ?_
                 refine D ?_
                 refine cC (fun c9 => ?_) (fun c9 => ?_)
                 · skip
                   refine D ?_
                   refine E ?_
                   first
                   | exact trivial
                   | unfold nodeFault rangeOk listsOk rises idsOk due
                     grind
                 · skip
                   refine D ?_
                   refine kR (s_slices_ContainsFunc_int64 x.match_ 64 x.log.length (fun k => !inR k 0 x.log.length) (by kernel_rfl) (fun v => s_impl_NodeFault_2 v _) hx4) ?_
                   refine D ?_
                   refine cC (fun c10 => ?_) (fun c10 => ?_)
                   · skip
                     refine D ?_
                     refine E ?_
                     first
                     | exact trivial
                     | unfold nodeFault rangeOk listsOk rises idsOk due
                       grind
                   · skip
                     refine D ?_
                     refine cC (fun c11 => ?_) (fun c11 => ?_)
                     · skip
                       refine D ?_
                       refine E ?_
                       first
                       | exact trivial
                       | unfold nodeFault rangeOk listsOk rises idsOk due
                         grind
                     · skip
                       refine D ?_
                       refine E ?_
                       first
                       | exact trivial
                       | unfold nodeFault rangeOk listsOk rises idsOk due
                         grind
theorem s_impl_MailFault (x : Node) (m : Mail) (hx : limN 2097152 x) (hm : limM 2097152 m) : SemX prog 46 [aS (eNode false x), aS (eMail false m)] [] [rI (if nodeFault x ≠ 0 then nodeFault x else mailFault x m)] [] := by
 refine goF [] [(13, 1, [16384], []), (13, 6, [16384], []), (13, 10, [16384], []), (13, 14, [16384], []), (13, 19, [16384], []), (13, 24, [16384], [])] [] func46 ?_
 have hm1 : m.entries.length ≤ 2097152 := hm
 refine D ?_
 refine kR (s_impl_NodeFault x hx) ?_
 refine D ?_
 refine cC (fun c0 => ?_) (fun c0 => ?_)
 · skip
   refine D ?_
   refine E ?_
   first
   | exact trivial
   | unfold mailFault mailForm mailLog mailZeros mailRange
     grind
 · skip
   refine D ?_
   refine kR (s_impl_in _ _ _) ?_
   refine D ?_
   refine cC (fun c1 => ?_) (fun c1 => ?_)
   · skip
     refine D ?_
     refine E ?_
     first
     | exact trivial
     | unfold mailFault mailForm mailLog mailZeros mailRange
       grind
   · skip
     refine D ?_
     refine kR (s_impl_Node_isId x m.from_) ?_
     refine D ?_
     refine kRg (s_impl_in _ _ _) ?_
     refine D ?_
     refine cC (fun c2 => ?_) (fun c2 => ?_)
     · skip
       refine D ?_
       refine E ?_
       first
       | exact trivial
       | unfold mailFault mailForm mailLog mailZeros mailRange
         grind
     · skip
       refine D ?_
       refine kR (s_impl_in _ _ _) ?_
       refine D ?_
       refine kRg (s_impl_in _ _ _) ?_
       refine D ?_
       refine kRg (s_impl_in _ _ _) ?_
       refine D ?_
       refine cC (fun c3 => ?_) (fun c3 => ?_)
       · skip
         refine D ?_
         refine E ?_
         first
         | exact trivial
         | unfold mailFault mailForm mailLog mailZeros mailRange
           grind
       · skip
         refine D ?_
         refine kR (s_impl_LogFault m.entries (by omega)) ?_
         refine D ?_
         refine cC (fun c4 => ?_) (fun c4 => ?_)
         · skip
           refine D ?_
           refine E ?_
           first
           | exact trivial
           | unfold mailFault mailForm mailLog mailZeros mailRange
             grind
         · skip
           refine D ?_
           refine kDg (s_impl_last m.entries (by omega)) ?_
           refine D ?_
           refine cC (fun c5 => ?_) (fun c5 => ?_)
           · skip
             refine D ?_
             refine cC (fun c8 => ?_) (fun c8 => ?_)
             · skip
               refine D ?_
               refine E ?_
               first
               | exact trivial
               | unfold mailFault mailForm mailLog mailZeros mailRange
                 grind
             · skip
               refine D ?_
               refine E ?_
               first
               | exact trivial
               | unfold mailFault mailForm mailLog mailZeros mailRange
                 grind
           · skip
             refine D ?_
             refine cC (fun c6 => ?_) (fun c6 => ?_)
             · skip
               refine D ?_
               refine cC (fun c8 => ?_) (fun c8 => ?_)
               · skip
                 refine D ?_
                 refine E ?_
                 first
                 | exact trivial
                 | unfold mailFault mailForm mailLog mailZeros mailRange
                   grind
               · skip
                 refine D ?_
                 refine E ?_
                 first
                 | exact trivial
                 | unfold mailFault mailForm mailLog mailZeros mailRange
                   grind
             · skip
               refine D ?_
               refine cC (fun c7 => ?_) (fun c7 => ?_)
               · skip
                 refine D ?_
                 refine cC (fun c8 => ?_) (fun c8 => ?_)
                 · skip
                   refine D ?_
                   refine E ?_
                   first
                   | exact trivial
                   | unfold mailFault mailForm mailLog mailZeros mailRange
                     grind
                 · skip
                   refine D ?_
                   refine E ?_
                   first
                   | exact trivial
                   | unfold mailFault mailForm mailLog mailZeros mailRange
                     grind
               · skip
                 refine D ?_
                 refine cC (fun c8 => ?_) (fun c8 => ?_)
                 · skip
                   refine D ?_
                   refine E ?_
                   first
                   | exact trivial
                   | unfold mailFault mailForm mailLog mailZeros mailRange
                     grind
                 · skip
                   refine D ?_
                   refine E ?_
                   first
                   | exact trivial
                   | unfold mailFault mailForm mailLog mailZeros mailRange
                     grind
theorem s_slices_Clone_Entry (xs : List Entry) (hl : xs.length ≤ 2097152) : SemX prog 65 [aT (.sl false 9 (xs.map eEntry))] [] [.one (.sl true 9 (xs.map eEntry))] [] := by
 refine goF [] [] [] func65 ?_
 refine D ?_
 refine RW_isn (fun b => xs.map eEntry ≠ [] → b = false) rfl rfl (by simp only [go_sem] <;> and_intros <;> first | with_reducible exact rfl | omega | with_reducible trivial | (intros; simp_all; done) | grind) (fun b hb => ?_)
 refine D ?_
 refine cC (fun c0 => ?_) (fun c0 => ?_)
 · skip
   have hx : xs = [] := by
     cases xs with
     | nil => rfl
     | cons a l => have := hb (by simp); rw [this] at c0; cases c0
   subst hx
   refine D ?_
   exact E trivial
 · skip
   refine D ?_
   exact E trivial
theorem s_slices_Clone_int64 (xs : List Int) (hl : xs.length ≤ 2097152) : SemX prog 95 [aT (.sl false 1 (xs.map eI_i64))] [] [.one (.sl true 1 (xs.map eI_i64))] [] := by
 refine goF [] [] [] func95 ?_
 refine D ?_
 refine RW_isn (fun b => xs.map eI_i64 ≠ [] → b = false) rfl rfl (by simp only [go_sem] <;> and_intros <;> first | with_reducible exact rfl | omega | with_reducible trivial | (intros; simp_all; done) | grind) (fun b hb => ?_)
 refine D ?_
 refine cC (fun c0 => ?_) (fun c0 => ?_)
 · skip
   have hx : xs = [] := by
     cases xs with
     | nil => rfl
     | cons a l => have := hb (by simp); rw [this] at c0; cases c0
   subst hx
   refine D ?_
   exact E trivial
 · skip
   refine D ?_
   exact E trivial
theorem s_impl_Node_copied (x : Node) (hx : limN 2097152 x) : SemX prog 47 [aS (eNode false x)] [] [.agg (eNode true x)] [] := by
 refine goF [] [(1, 1, [8192], []), (1, 2, [], [24576]), (1, 4, [8192], []), (1, 5, [], [36864]), (1, 7, [8192], []), (1, 8, [], [49152]), (1, 10, [8192], []), (1, 11, [], [61440]), (1, 13, [8192], [8192]), (1, 15, [8192], [8192]), (1, 17, [8192], [8192]), (1, 19, [8192], [8192])] [] func47 ?_
 refine D ?_
 refine kD (s_slices_Clone_Entry x.log hx.1) ?_
 refine D ?_
 refine kD (s_slices_Clone_int64 x.votes hx.2.1) ?_
 refine D ?_
 refine kD (s_slices_Clone_int64 x.next hx.2.2.1) ?_
 refine D ?_
 refine kD (s_slices_Clone_int64 x.match_ hx.2.2.2) ?_
 refine D ?_
 exact E trivial
theorem s_impl_Node_follow (x : Node) (hx : limN 2097152 x) : SemX prog 48 [.one (.ptr 0 0)] [.var (eNode true x)] [] [.var (eNode true (followed x))] := by
 refine goF [] [] [] func48 ?_
 obtain ⟨hx1, hx2, hx3, hx4⟩ := id hx
 refine D ?_
 refine E ?_
 first
 | exact trivial
 | simp [followed]
theorem s_impl_upToDate (log : List Entry) (hl : log.length ≤ 2097152) (index term : Int) : SemX prog 49 [aT (.sl false 9 (log.map eEntry)), aI index, aI term] [] [rB (upM log index term)] [] := by
 refine goF [] [] [] func49 ?_
 refine D ?_
 refine kR (s_impl_last log (by omega)) ?_
 refine D ?_
 refine kRg (s_impl_size_Entry (log.map eEntry)) ?_
 refine D ?_
 refine E ?_
 first
 | exact trivial
 | simp only [go_sem, upM]
theorem s_cmp_isNaN_int64 (a : Int) : SemX prog 170 [aI a] [] [rB false] [] := by
 refine goF [] [] [] func170 ?_
 refine D ?_
 exact E trivial
theorem s_cmp_Less_int64 (a b : Int) : SemX prog 144 [aI a, aI b] [] [rB (decide (a < b))] [] := by
 refine goF [] [] [] func144 ?_
 refine D ?_
 refine kR (s_cmp_isNaN_int64 _) ?_
 refine D ?_
 refine kRg (s_cmp_isNaN_int64 _) ?_
 refine D ?_
 exact E trivial
theorem s_slices_isNaN_int64 (a : Int) : SemX prog 145 [aI a] [] [rB false] [] := by
 refine goF [] [] [] func145 ?_
 refine D ?_
 exact E trivial
theorem s_slices_BinarySearch_int64 (xs : List Int) (v : Int) (hr : rises xs) (hl : xs.length ≤ 2097152) : SemX prog 96 [aT (.sl false 1 (xs.map eI_i64)), aI v] [] [rI (lbn xs v), rB (hasI xs v)] [] := by
 refine goF [] [] [] func96 ?_
 refine D ?_
 refine L (α := Nat × Nat) (fun p => [(7, .int .i64 p.1), (8, .int .i64 p.2)]) (fun p => []) (fun p => p.2 - p.1) (fun p => p.1 ≤ p.2 ∧ p.2 ≤ xs.length ∧ (∀ q, q < p.1 → xs.getD q zI_i64 < v) ∧ (∀ q, p.2 ≤ q → q < xs.length → v ≤ xs.getD q zI_i64)) (0, xs.length) [] (fun x0 hL => ?_) (hi := by exact ⟨Nat.zero_le _, Nat.le_refl _, fun q h => by omega, fun q h1 h2 => by omega⟩)
 obtain ⟨i, j⟩ := x0
 obtain ⟨hij, hj, hlo, hup⟩ := hL
 try dsimp only at *
 refine D ?_
 refine cC (fun c0 => ?_) (fun c0 => ?_)
 · skip
   have hhf := half_nat i j (by omega)
   have hw1 : IntKind.u64.wrap ((i : Int) + j) = i + j := by have := wrap_u (i + j) (by omega); simpa using this
   have hw2 : IntKind.i64.wrap (((i + j) / 2 : Nat) : Int) = ((i + j) / 2 : Nat) := wrap_small (by omega) (by omega)
   have hA := And.intro hhf (And.intro hw1 (hw2))
   refine D ?_
   refine kR (s_cmp_Less_int64 _ _) ?_
   refine D ?_
   refine cC (fun c1 => ?_) (fun c1 => ?_)
   · skip
     refine D ?_
     refine N ((i + j) / 2 + 1, j) [] (hi := ?_) (hm := ?_)
     · dsimp only
       refine ⟨by omega, by omega, fun q hq => ?_, hup⟩
       by_cases e : q = (i + j) / 2
       · subst e; exact c1
       · have := rises_lt hr (i := q) (j := (i + j) / 2) (by omega) (by omega); omega
     · try dsimp only
       omega
   · skip
     refine D ?_
     refine N (i, (i + j) / 2) [] (hi := ?_) (hm := ?_)
     · dsimp only
       refine ⟨by omega, by omega, hlo, fun q h1 h2 => ?_⟩
       by_cases e : q = (i + j) / 2
       · subst e; omega
       · have := rises_lt hr (i := (i + j) / 2) (j := q) (by omega) (by omega); omega
     · try dsimp only
       omega
 · skip
   refine D ?_
   refine kRg (s_slices_isNaN_int64 _) ?_
   refine D ?_
   refine kRg (s_slices_isNaN_int64 _) ?_
   refine D ?_
   refine E ?_
   first
   | exact trivial
   | have hb : lbn xs v = i := lbn_eq (by omega) hlo (fun h => hup i (by omega) h)
     simp [hasI, hb]
theorem s_slices_Insert_int64 (R V : List (List T)) (i : Nat) (hi : i ≤ R.length) (hv : 1 ≤ V.length) (hl : R.length + V.length ≤ 2097152) (fR : ∀ r ∈ R, ∀ t ∈ r, t.flat = true) (fV : ∀ r ∈ V, ∀ t ∈ r, t.flat = true) : SemX prog 97 [.one (.t (.sl true 1 R)), aI i, .one (.t (.sl true 1 V))] [] [.one (.sl true 1 (R.take i ++ V ++ R.drop i))] [] := by
 refine goFC 0 [(82, ⟨none, none, some (2, true), none⟩), (110, ⟨some 10, none, none, none⟩), (156, ⟨some 10, none, none, none⟩)] [(11, 4, [167936], []), (11, 7, [0], []), (11, 8, [167936, 0], [167936]), (15, 4, [0], []), (15, 7, [0], []), (15, 8, [0], [0])] [] func97 (fun cp hcp hcp2 => ?_)
 have hcp3 : R.length ≤ cp := hcp
 have hcV : cpRows (some (0, 0)) V = True := eq_true fV
 have hcT : cpRows (some (0, 0)) (List.take i R) = True := eq_true fun r hr => fR r (List.mem_of_mem_take hr)
 have hcD : cpRows (some (0, 0)) (List.drop i R) = True := eq_true fun r hr => fR r (List.mem_of_mem_drop hr)
 have hX1 : List.take i (R ++ roomR 1 (cp - R.length)) = List.take i R := List.take_append_of_le_length hi
 have hX2 : List.take R.length (R ++ roomR 1 (cp - R.length)) = R := List.take_left' rfl
 have hX3 : List.take (R.length - i) (List.drop i (R ++ roomR 1 (cp - R.length))) = List.drop i R := by rw [List.drop_append_of_le_length hi]; exact List.take_left' (by simp)
 have hA := And.intro hcV (And.intro hcT (And.intro hcD (And.intro hX1 (And.intro hX2 (hX3)))))
 refine D ?_
 refine cC (fun c0 => ?_) (fun c0 => ?_)
 · skip
   omega
 · skip
   refine D ?_
   refine cC (fun c1 => ?_) (fun c1 => ?_)
   · skip
     refine D ?_
     refine E ?_
     obtain rfl : i = R.length := by omega
     simp [List.take_of_length_le]
   · skip
     refine D ?_
     refine cC (fun c2 => ?_) (fun c2 => ?_)
     · skip
       refine D ?_
       refine E ?_
       rw [if_pos (by omega)]
       exact ⟨congrArg (fun r => [TV.one (T.sl true 1 r)]) (ins_grow (by omega) (by omega) (by omega) (by omega) (by omega)), rfl, rfl⟩
     · skip
       refine D ?_
       refine kOv (⟨_, 42, 4, 2, 1, func146, by kernel_rfl, by kernel_rfl, by kernel_rfl, by kernel_rfl, by kernel_rfl, by kernel_rfl⟩ : OvlOk prog 146) ?_
       refine D ?_
       refine cT ?_
       refine D ?_
       refine E ?_
       rw [if_pos (by omega)]
       exact ⟨congrArg (fun r => [TV.one (T.sl true 1 r)]) (ins_room (by omega) (by simp [roomR_len]; omega) (by omega) (by omega) (by omega) (by omega) (by omega)), rfl, rfl⟩
theorem s_rise_I (xs : List Int) (v : Int) (hl : xs.length + 1 ≤ 2097152) (h : hasI xs v = false) : SemX prog 97 [.one (.t (.sl true 1 (xs.map eI_i64))), aI (lbn xs v), .one (.t (.sl true 1 [[.int .i64 v]]))] [] [.one (.sl true 1 ((riseL xs v).map eI_i64))] [] := by
  have := s_slices_Insert_int64 (xs.map eI_i64) [[.int .i64 v]] (lbn xs v) (by simpa using lbn_le xs v) (by simp) (by simpa using hl) (flat_I xs) (by simp [T.flat])
  rwa [← riseL_no h] at this
theorem s_impl_Node_isQuorum (x : Node) (c : Int) (h0 : 0 ≤ c) (h1 : c ≤ 4194304) : SemX prog 98 [aT (.ptr (eNode false x)), aI c] [] [rB (quor x c)] [] := by
 refine goF [(14, ⟨some 1, none, none, none⟩)] [] [] func98 ?_
 refine D ?_
 refine E ?_
 first
 | exact trivial
 | simp only [go_sem, quor]
theorem s_impl_Node_agree (x : Node) (hx : limN 2097152 x) (h0 : 0 ≤ x.commit) (h1 : x.commit ≤ x.log.length) : SemX prog 102 [.one (.ptr 0 0)] [.var (eNode true x)] [] [.var (eNode true (agreed x))] := by
 refine goF [(38, ⟨some 1, none, none, none⟩), (66, ⟨some 1, none, none, none⟩), (88, ⟨some 1, none, none, none⟩)] [(10, 2, [1000000, 1000005, 1000008, 1000009, 1000010], []), (10, 7, [1000000], []), (10, 10, [1000005], []), (10, 12, [1000005], []), (10, 16, [1000000], [])] [] func102 ?_
 obtain ⟨hx1, hx2, hx3, hx4⟩ := id hx
 refine D ?_
 refine kR (s_impl_size_Entry (x.log.map eEntry)) ?_
 refine D ?_
 refine L (α := Nat) (fun n => [(2, .int .i64 n)]) (fun n => []) (fun n => n) (fun n => n ≤ x.log.length ∧ x.commit ≤ n ∧ agI x = agN x x.commit.toNat n) x.log.length [] (fun n hL => ?_) (hi := by exact ⟨Nat.le_refl _, h1, rfl⟩)
 obtain ⟨hn, hc, ha⟩ := hL
 refine D ?_
 refine cC (fun c0 => ?_) (fun c0 => ?_)
 · skip
   refine D ?_
   refine L (α := Nat) (fun j => [(3, .int .i64 (cntGe (x.match_.take j) n)), (24, .int .i64 j)]) (fun j => []) (fun j => x.match_.length - j) (fun j => j ≤ x.match_.length) 0 [] (fun j hL => ?_) (by (simp only [go_sem] <;> and_intros <;> first | with_reducible exact rfl | (simp [cntGe]; done) | omega))
   obtain hj := hL
   have hcb := cntGe_take_le x.match_ n j
   refine D ?_
   refine cC (fun c1 => ?_) (fun c1 => ?_)
   · skip
     refine D ?_
     refine cC (fun c2 => ?_) (fun c2 => ?_)
     · skip
       refine D ?_
       refine lp_next (j+1) [] ?_ ?_ ?_
       · simp only [go_sem] <;> and_intros <;> first | with_reducible exact rfl | (first | omega | (refine int_eq ?_; rw [cntGe_succ (by omega)]; first | (rw [if_pos (by assumption)]; omega) | (rw [if_neg (by assumption)]; omega)))
       · omega
       · omega
     · skip
       refine D ?_
       refine lp_next (j+1) [] ?_ ?_ ?_
       · simp only [go_sem] <;> and_intros <;> first | with_reducible exact rfl | (first | omega | (refine int_eq ?_; rw [cntGe_succ (by omega)]; first | (rw [if_pos (by assumption)]; omega) | (rw [if_neg (by assumption)]; omega)))
       · omega
       · omega
   · skip
     obtain rfl : j = x.match_.length := by omega
     refine D ?_
     refine kD (s_impl_Node_isQuorum x (cntGe x.match_ n) (by omega) (by have := cntGe_le x.match_ n; omega)) ?_
     refine D ?_
     refine cC (fun c3 => ?_) (fun c3 => ?_)
     · skip
       refine D ?_
       refine E ?_
       have e : agI x = n := by rw [ha, agN_ok x (by omega) (by unfold agOk; simp_all)]
       simp only [agreed, e]
     · skip
       refine D ?_
       refine lp_next (n - 1) [] ?_ ?_ ?_
       · simp only [go_sem] <;> and_intros <;> first | with_reducible exact rfl | (first | omega | (refine int_eq ?_; omega))
       · refine ⟨by omega, by omega, ?_⟩
         rw [ha, agN_no x (by omega) (by unfold agOk; simp_all)]
       · omega
 · skip
   have hn2 : (n : Int) = x.commit := by omega
   refine D ?_
   refine E ?_
   have e : agI x = x.commit := by rw [ha, agN_le x (c := x.commit.toNat) (n := n) (by omega)]; omega
   simp only [agreed, e]
theorem s_math_bits_Mul64 (a b : Int) (ha : 0 ≤ a) (ha2 : a ≤ 1) (hb : 0 ≤ b) (hb2 : b ≤ 5) : SemX prog 186 [.one (.t (.int .u64 a)), .one (.t (.int .u64 b))] [] [.one (.int .u64 0), .one (.int .u64 (a * b))] [] := by
 refine goF [] [] [] func186 ?_
 refine D ?_
 refine E ?_
 first
 | exact trivial
 | have ea : a = 0 ∨ a = 1 := by omega
   have eb : b = 0 ∨ b = 1 ∨ b = 2 ∨ b = 3 ∨ b = 4 ∨ b = 5 := by omega
   rcases ea with rfl | rfl <;> rcases eb with rfl | rfl | rfl | rfl | rfl | rfl <;> exact rfl
theorem s_math_bits_Mul (a b : Int) (ha : 0 ≤ a) (ha2 : a ≤ 1) (hb : 0 ≤ b) (hb2 : b ≤ 5) : SemX prog 172 [.one (.t (.int .u64 a)), .one (.t (.int .u64 b))] [] [.one (.int .u64 0), .one (.int .u64 (a * b))] [] := by
 refine goF [] [] [] func172 ?_
 refine D ?_
 refine cF ?_
 refine D ?_
 refine kR (s_math_bits_Mul64 a b ha ha2 hb hb2) ?_
 refine D ?_
 exact E trivial
theorem s_slices_Repeat_int64 (v : Int) (n : Nat) (h1 : 1 ≤ n) (h5 : n ≤ 5) : SemX prog 148 [aT (.sl false 1 [[.int .i64 v]]), aI n] [] [.one (.sl true 1 ((List.replicate n v).map eI_i64))] [] := by
 refine goF [] [(9, 3, [126976], []), (9, 6, [126976], []), (9, 7, [126976], [126976])] [] func148 ?_
 have hw : IntKind.u64.wrap (n : Int) = n := by
  have : n = 1 ∨ n = 2 ∨ n = 3 ∨ n = 4 ∨ n = 5 := by omega
  rcases this with rfl | rfl | rfl | rfl | rfl <;> rfl
 have hm1 : min n 1 = 1 := by omega
 have hw2 : IntKind.i64.wrap (n : Int) = n := by
  have : n = 1 ∨ n = 2 ∨ n = 3 ∨ n = 4 ∨ n = 5 := by omega
  rcases this with rfl | rfl | rfl | rfl | rfl <;> rfl
 have hA := And.intro hw (And.intro hw2 (hm1))
 refine D ?_
 refine cC (fun c0 => ?_) (fun c0 => ?_)
 · skip
   omega
 · skip
   refine D ?_
   refine kR (s_math_bits_Mul 1 n (by omega) (by omega) (by omega) (by omega)) ?_
   refine D ?_
   refine cC (fun c1 => ?_) (fun c1 => ?_)
   · skip
     omega
   · skip
     refine D ?_
     refine L (α := Nat) (fun k => [(8, .int .i64 k)]) (fun k => [(126976, .arr ⟨1, repV v k n, repVer k, none⟩)]) (fun k => n - k) (fun k => 1 ≤ k ∧ k ≤ n ∧ (k = 1 ∨ k = 2 ∨ k = 4 ∨ k = n)) 1 [] (fun k hL => ?_) (by simp only [go_sem, hA] <;> and_intros <;> first | with_reducible exact rfl | (first | omega | exact arr_eq (repV_0 h1) rfl)) (by omega)
     obtain ⟨hk1, hk2, hk3⟩ := hL
     refine D ?_
     refine cC (fun c2 => ?_) (fun c2 => ?_)
     · skip
       have hlk : (repV v k n).length = n := repV_len hk2
       have hmk : min (n - k) (min k n) = min (n - k) k := by omega
       have hmk2 : min (n - k) k + (n - k - min (n - k) k) = n - k := by omega
       have hA := And.intro hA (And.intro hlk (And.intro hmk (hmk2)))
       refine D ?_
       refine lp_next (k + min (n - k) k) [] ?_ ?_ ?_
       · simp only [go_sem, hA] <;> and_intros <;> first | with_reducible exact rfl | (first | omega | (refine arr_eq (by rw [← repV_step hk2, List.take_take]) ?_; unfold repVer; (repeat' split) <;> omega))
       · omega
       · omega
     · skip
       obtain rfl : k = n := by omega
       have hlk := repV_len (v := v) (Nat.le_refl k)
       have hal : List.take k (repV v k k) = (List.replicate k v).map eI_i64 := by rw [List.take_of_length_le (by omega), repV_all]
       have hA := And.intro hA (And.intro hlk (hal))
       refine D ?_
       exact E trivial
section
attribute [local go_sem] rep_I set_map_I led
theorem s_impl_Node_lead (x : Node) (hx : limN 2097152 x) (h0 : 0 ≤ x.commit) (h1 : x.commit ≤ x.log.length) (p1 : 1 ≤ x.peers) (p2 : x.peers ≤ 5) (p3 : 0 ≤ x.id) (p4 : x.id < x.peers) : SemX prog 99 [.one (.ptr 0 0)] [.var (eNode true x)] [] [.var (eNode true (leadOf x))] := by
 refine goF [(32, ⟨some 1, none, none, none⟩)] [(1, 5, [1000000], []), (1, 6, [1000005], []), (1, 8, [], [69632]), (1, 12, [1000000], []), (1, 13, [69632], [90112]), (1, 17, [1000000], []), (1, 18, [], [110592]), (1, 21, [1000000], [1000000]), (1, 24, [1000000], [1000000]), (2, 3, [1000000], []), (2, 7, [1000000], []), (2, 11, [1000000], []), (2, 12, [1000005], []), (2, 13, [110592], []), (2, 14, [110592], [110592])] [] func99 ?_
 obtain ⟨hx1, hx2, hx3, hx4⟩ := id hx
 have hll : limN 2097152 (led x) := ⟨hx.1, by simp [led], by simp [led]; omega, by simp [led]; omega⟩
 refine D ?_
 refine kD (s_impl_size_Entry (x.log.map eEntry)) ?_
 refine D ?_
 refine kD (s_slices_Repeat_int64 (x.log.length + 1) x.peers.toNat (by omega) (by omega)) ?_
 refine D ?_
 refine kD (s_impl_size_Entry (x.log.map eEntry)) ?_
 refine D ?_
 refine kR (s_impl_Node_isQuorum (led x) 1 (by omega) (by omega)) ?_
 refine D ?_
 refine cC (fun c0 => ?_) (fun c0 => ?_)
 · skip
   refine D ?_
   refine kRk [1000000] [] [1000005, 90112, 110592] (s_impl_Node_agree (led x) hll h0 h1) ?_
   refine D ?_
   refine E ?_
   simp [leadOf, led]
 · skip
   refine D ?_
   refine E ?_
   have hq : quor x 1 = false := c0
   simp [agreed_led hq h0 h1, led]
end
section
attribute [local go_sem] riseN
theorem s_impl_Node_granted (x : Node) (hx : limN 2097152 x) (h0 : 0 ≤ x.commit) (h1 : x.commit ≤ x.log.length) (p1 : 1 ≤ x.peers) (p2 : x.peers ≤ 5) (p3 : 0 ≤ x.id) (p4 : x.id < x.peers) (nv : rises x.votes) (nl : x.votes.length ≤ 100) (m : Mail) (hme : m.entries.length ≤ 2097152) : SemX prog 50 [.one (.ptr 0 0), aS (eMail false m)] [.var (eNode true x)] [] [.var (eNode true (grantedN x m))] := by
 refine goF [] [(1, 1, [16384], []), (1, 5, [16384], []), (1, 9, [1000000], []), (1, 16, [1000000], []), (2, 3, [1000000], []), (2, 5, [16384], []), (2, 6, [1000008], []), (4, 4, [1000000], []), (4, 7, [16384], []), (4, 8, [], [188416]), (4, 9, [1000008, 188416], [1000008, 188416, 192512]), (4, 12, [1000000], [1000000])] [] func50 ?_
 obtain ⟨hx1, hx2, hx3, hx4⟩ := id hx
 have hl4 := riseL_len x.votes m.from_
 have hlr : limN 2097152 (riseN x m) := ⟨hx.1, by simp [riseN]; omega, hx.2.2.1, hx.2.2.2⟩
 refine D ?_
 refine cC (fun c0 => ?_) (fun c0 => ?_)
 · skip
   refine D ?_
   refine E ?_
   have hg : (m.ok && decide (m.term = x.term) && decide (x.role = 1)) = false := by rcases c0 with (h | h) | h <;> simp [h]
   simp [grantedN, hg]
 · skip
   refine D ?_
   refine kD (s_slices_BinarySearch_int64 x.votes m.from_ nv hx.2.1) ?_
   refine D ?_
   refine cC (fun c1 => ?_) (fun c1 => ?_)
   · skip
     refine D ?_
     refine kDk [] [1000008, 188416] [] (s_rise_I x.votes m.from_ (by omega) c1) ?_
     refine D ?_
     refine kR (s_impl_Node_isQuorum (riseN x m) (riseL x.votes m.from_).length (by omega) (by omega)) ?_
     refine D ?_
     refine cC (fun c2 => ?_) (fun c2 => ?_)
     · skip
       refine D ?_
       refine kRk [1000000] [] [1000005, 192512, 1000009, 1000010] (s_impl_Node_lead (riseN x m) hlr h0 h1 p1 p2 p3 p4) ?_
       refine D ?_
       refine E ?_
       have hg : (m.ok && decide (m.term = x.term) && decide (x.role = 1)) = true := by revert c0; cases m.ok <;> simp
       have he : grantedN x m = leadOf (riseN x m) := by unfold grantedN; rw [if_pos hg]; exact if_pos c2
       first | (rw [he]; done) | (rw [he]; exact rfl)
     · skip
       refine D ?_
       refine E ?_
       have hg : (m.ok && decide (m.term = x.term) && decide (x.role = 1)) = true := by revert c0; cases m.ok <;> simp
       have he : grantedN x m = riseN x m := by unfold grantedN; rw [if_pos hg]; exact if_neg (by intro h; exact absurd (h.symm.trans c2) (by simp))
       first | (rw [he]; done) | (rw [he]; exact rfl)
   · skip
     have hrv := riseL_has c1
     have hA := hrv
     refine D ?_
     refine kR (s_impl_Node_isQuorum (riseN x m) (riseL x.votes m.from_).length (by omega) (by omega)) ?_
     refine D ?_
     refine cC (fun c2 => ?_) (fun c2 => ?_)
     · skip
       refine D ?_
       refine kRk [1000000] [] [1000005, 1000008, 1000009, 1000010] (s_impl_Node_lead (riseN x m) hlr h0 h1 p1 p2 p3 p4) ?_
       refine D ?_
       refine E ?_
       have hg : (m.ok && decide (m.term = x.term) && decide (x.role = 1)) = true := by revert c0; cases m.ok <;> simp
       have hrx : riseN x m = x := by unfold riseN; rw [hrv]
       have he : grantedN x m = leadOf x := by unfold grantedN; rw [if_pos hg, hrx]; exact if_pos c2
       first | (rw [he]; done) | (rw [he]; exact rfl)
     · skip
       refine D ?_
       refine E ?_
       have hg : (m.ok && decide (m.term = x.term) && decide (x.role = 1)) = true := by revert c0; cases m.ok <;> simp
       have hrx : riseN x m = x := by unfold riseN; rw [hrv]
       have he : grantedN x m = x := by unfold grantedN; rw [if_pos hg, hrx]; exact if_neg (by intro h; exact absurd (h.symm.trans c2) (by simp))
       rw [he]
end
theorem s_impl_CommonOf (a b : List Entry) (ha : a.length ≤ 2097152) (hb : b.length ≤ 2097152) : SemX prog 17 [aT (.sl false 9 (a.map eEntry)), aT (.sl false 9 (b.map eEntry))] [] [rI (commonN a b)] [] := by
 refine goF [] [] [] func17 ?_
 refine D ?_
 refine L (α := Nat) (fun i => [(5, .int .i64 i)]) (fun i => []) (fun i => min a.length b.length - i) (fun i => i ≤ min a.length b.length ∧ ∀ q, q < i → eqEn (a.getD q zEntry) (b.getD q zEntry) = true) 0 [] (fun i hL => ?_) (hi := by exact ⟨Nat.zero_le _, fun q h => by omega⟩)
 obtain ⟨hi, hlo⟩ := hL
 refine D ?_
 refine cC (fun c0 => ?_) (fun c0 => ?_)
 · skip
   refine D ?_
   refine N (i+1) [] (hi := ?_) (hm := ?_)
   · obtain ⟨d1, d2⟩ := c0
     have d3 : eqEn (a.getD i zEntry) (b.getD i zEntry) = true := by simp only [eqEn, Bool.and_eq_true, decide_eq_true_eq]; exact d2
     have d4 : i < a.length ∧ i < b.length := by first | omega | (split at d1 <;> omega)
     refine ⟨by omega, fun q hq => ?_⟩
     by_cases e : q = i
     · subst e; exact d3
     · exact hlo q (by omega)
   · obtain ⟨d1, d2⟩ := c0
     have d3 : eqEn (a.getD i zEntry) (b.getD i zEntry) = true := by simp only [eqEn, Bool.and_eq_true, decide_eq_true_eq]; exact d2
     have d4 : i < a.length ∧ i < b.length := by first | omega | (split at d1 <;> omega)
     omega
 · skip
   refine D ?_
   refine E ?_
   first
   | exact trivial
   | have c9 : (decide ((i : Int) < if (b.length : Int) < a.length then (b.length : Int) else a.length) && eqEn (a.getD i zEntry) (b.getD i zEntry)) = false := c0
     have hcn : commonN a b = i := tw_range hi hlo (fun h => by
      cases he : eqEn (a.getD i zEntry) (b.getD i zEntry)
      · rfl
      · rw [he] at c9; simp at c9; first | omega | (split at c9 <;> omega))
     rw [hcn]
theorem s_impl_fits (log : List Entry) (hl : log.length ≤ 2097152) (index term : Int) : SemX prog 100 [aT (.sl false 9 (log.map eEntry)), aI index, aI term] [] [rB (fitsM log index term)] [] := by
 refine goF [] [] [] func100 ?_
 refine D ?_
 refine cC (fun c0 => ?_) (fun c0 => ?_)
 · skip
   refine D ?_
   refine E ?_
   simp [fitsM, c0]
 · skip
   refine D ?_
   refine kR (s_impl_size_Entry (log.map eEntry)) ?_
   refine D ?_
   refine kR (s_impl_in _ _ _) ?_
   refine D ?_
   refine E ?_
   refine ⟨inR_idx hl, ?_⟩
   simp [fitsM, c0]
theorem s_impl_take (log more : List Entry) (i : Nat) (hi : i ≤ log.length) (hl : log.length ≤ 2097152) (hm : more.length ≤ 2097152) : SemX prog 149 [aT (.sl false 9 (log.map eEntry)), aI i, aT (.sl false 9 (more.map eEntry))] [] [.agg (eEntriesResult true (takeR log more i))] [] := by
 refine goF [(46, ⟨some 1, none, none, none⟩)] [(6, 2, [53248], []), (6, 7, [53248], []), (6, 9, [53248], []), (6, 11, [40960], []), (7, 2, [53248], []), (7, 6, [53248], [180224, 53248])] [] func149 ?_
 refine D ?_
 refine kR (s_slices_Clone_Entry log hl) ?_
 refine D ?_
 refine L (α := Nat) (fun k => [(15, .int .i64 k)]) (fun k => []) (fun k => more.length - k) (fun k => k ≤ more.length ∧ i + k ≤ log.length ∧ ∀ q, q < k → bad7 log more i q = false) 0 [] (fun k hL => ?_) (hi := by exact ⟨Nat.zero_le _, hi, fun q h => by omega⟩)
 obtain ⟨hk, hik, hlo⟩ := hL
 have hmi : min (i + k) log.length = i + k := by omega
 have hA := hmi
 refine D ?_
 refine cC (fun c0 => ?_) (fun c0 => ?_)
 · skip
   refine D ?_
   refine kD (s_impl_size_Entry (log.map eEntry)) ?_
   refine D ?_
   refine cC (fun c1 => ?_) (fun c1 => ?_)
   · skip
     refine D ?_
     refine N (k+1) [] (hi := ?_) (hm := ?_)
     · have hb : bad7 log more i k = false := by
        simp [bad7, -List.getD_eq_getElem?_getD]
        exact ⟨by omega, c1.2⟩
       refine ⟨by omega, by omega, fun q hq => ?_⟩
       by_cases e : q = k
       · subst e; exact hb
       · exact hlo q (by omega)
     · omega
   · skip
     refine D ?_
     refine cC (fun c2 => ?_) (fun c2 => ?_)
     · skip
       refine D ?_
       refine E ?_
       have hb : bad7 log more i k = true := by
        simp [-List.getD_eq_getElem?_getD] at c1
        simp [bad7, -List.getD_eq_getElem?_getD]
        by_cases h : log.length ≤ i + k
        · exact .inl h
        · exact .inr (c1 (by omega))
       have ht := take7_at (by omega) hlo hb
       have hl4 : (take7 log more i).length = i + k + (more.length - k) := by rw [ht]; simp; omega
       have he : takeR log more i = ⟨2, []⟩ := by unfold takeR; rw [if_pos (by rw [hl4]; omega)]
       simp [he]
     · skip
       refine D ?_
       refine E ?_
       have hb : bad7 log more i k = true := by
        simp [-List.getD_eq_getElem?_getD] at c1
        simp [bad7, -List.getD_eq_getElem?_getD]
        by_cases h : log.length ≤ i + k
        · exact .inl h
        · exact .inr (c1 (by omega))
       have ht := take7_at (by omega) hlo hb
       have hl4 : (take7 log more i).length = i + k + (more.length - k) := by rw [ht]; simp; omega
       have he : takeR log more i = ⟨0, List.take (i + k) log ++ List.drop k more⟩ := by unfold takeR; rw [if_neg (by rw [hl4]; omega), ht]
       simp [he]
       exact List.take_of_length_le (by simp; omega)
 · skip
   refine D ?_
   refine cC (fun c2 => ?_) (fun c2 => ?_)
   · skip
     refine D ?_
     refine E ?_
     have ht := take7_all (log := log) (more := more) (i := i) (fun q hq => hlo q (by omega))
     have he : takeR log more i = ⟨2, []⟩ := by unfold takeR; rw [if_pos (by rw [ht]; omega)]
     simp [he]
   · skip
     refine D ?_
     refine E ?_
     have ht := take7_all (log := log) (more := more) (i := i) (fun q hq => hlo q (by omega))
     have he : takeR log more i = ⟨0, log⟩ := by unfold takeR; rw [if_neg (by rw [ht]; omega), ht]
     simp [he]
theorem s_impl_TakeEntries (log more : List Entry) (index term : Int) (hl : log.length ≤ 2097152) (hm : more.length ≤ 2097152) (h1 : logFault log = 0) (h2 : logFault more = 0) (h3 : fitsM log index term = true) (h4 : 0 < more.length → term ≤ (more.getD 0 zEntry).term) : SemX prog 101 [aT (.sl false 9 (log.map eEntry)), aI index, aI term, aT (.sl false 9 (more.map eEntry))] [] [.agg (eEntriesResult true (takeR log more index.toNat))] [] := by
 refine goF [] [] [] func101 ?_
 obtain ⟨n, rfl, hn⟩ := fits_nat hl h3
 have hA := And.intro h1 (And.intro h2 (h3))
 refine D ?_
 refine kR (s_impl_LogFault log (by omega)) ?_
 refine D ?_
 refine cT ?_
 refine D ?_
 refine kR (s_impl_LogFault more (by omega)) ?_
 refine D ?_
 refine cF ?_
 refine D ?_
 refine kR (s_impl_fits log hl n term) ?_
 refine D ?_
 refine cF ?_
 refine D ?_
 refine cC (fun c3 => ?_) (fun c3 => ?_)
 · skip
   have := h4 (by omega)
   omega
 · skip
   refine D ?_
   refine kR (s_impl_take log more n hn hl hm) ?_
   refine D ?_
   exact E trivial
section
attribute [local go_sem] followed baseM
theorem s_impl_Node_append (x : Node) (hx : limN 2097152 x) (h0 : 0 ≤ x.commit) (h1 : x.commit ≤ x.log.length) (m : Mail) (hme : m.entries.length ≤ 2097152) (lf : logFault x.log = 0) (mf : logFault m.entries = 0) (mt : 0 < m.entries.length → m.last ≤ (m.entries.getD 0 zEntry).term) (hi0 : 0 ≤ m.index) (hi9 : m.index ≤ 40) : SemX prog 51 [.one (.ptr 0 0), aS (eMail false m), .one (.ptr 1 0)] [.var (eNode true x), .var (eMail true (baseM x m))] [rI (takenC x m)] [.var (eNode true (takenN x m)), .var (eMail true (takenM x m))] := by
 refine goF [(76, ⟨some 1, none, none, none⟩), (178, ⟨some 1, none, none, none⟩)] [(1, 1, [20480], []), (1, 5, [1000000], []), (6, 3, [1000000], []), (6, 5, [20480], []), (6, 7, [20480], []), (6, 8, [99332], []), (7, 2, [20480], []), (7, 7, [1000000], []), (7, 8, [99332], []), (7, 12, [1001000], [1001000]), (9, 3, [1000000], []), (9, 5, [20480], []), (9, 7, [20480], []), (9, 9, [20480], []), (9, 10, [99332], [233473]), (9, 11, [], [32768]), (9, 12, [32768], [32768]), (12, 3, [1000000], []), (12, 5, [32768], []), (12, 6, [99332, 233473], []), (12, 10, [1000000], []), (15, 3, [20480], []), (15, 5, [20480], []), (15, 10, [1001000], [1001000]), (15, 13, [1001000], [1001000]), (16, 4, [1000000], []), (16, 6, [20480], []), (16, 10, [1001000], []), (16, 15, [1000000], [1000000])] [] func51 ?_
 obtain ⟨hx1, hx2, hx3, hx4⟩ := id hx
 refine D ?_
 refine cC (fun c0 => ?_) (fun c0 => ?_)
 · skip
   refine D ?_
   refine E ?_
   obtain ⟨e1, e2, e3⟩ := taken0 c0
   simp [e1, e2, e3, baseM, followed]
 · skip
   refine D ?_
   refine cC (fun c1 => ?_) (fun c1 => ?_)
   · skip
     refine D ?_
     refine E ?_
     obtain ⟨e1, e2, e3⟩ := taken1 c0 c1
     simp [e1, e2, e3, baseM, followed]
   · skip
     refine D ?_
     refine kRk [1000000] [] [1000005, 1000008, 1000009, 1000010] (s_impl_Node_follow x hx) ?_
     refine D ?_
     refine kD (s_impl_fits x.log hx.1 m.index m.last) ?_
     refine D ?_
     refine cC (fun c2 => ?_) (fun c2 => ?_)
     · skip
       refine D ?_
       refine kD (s_impl_size_Entry (x.log.map eEntry)) ?_
       refine D ?_
       refine E ?_
       obtain ⟨e1, e2, e3⟩ := taken2 c0 c1 c2
       simp [e1, e2, e3, baseM, followed]
       exact min_fi _ _
     · skip
       have hfit : fitsM x.log m.index m.last = true := by simpa using c2
       obtain ⟨i, hi, hn⟩ := fits_nat hx.1 hfit
       have hi2 : m.index.toNat = i := by omega
       have htl : takenL x m = take7 x.log m.entries i := by unfold takenL; rw [hi2]
       have hll := take7_len (more := m.entries) hn
       have hml := log_le mf
       have hA := hi
       refine D ?_
       refine kD (s_impl_TakeEntries x.log m.entries i m.last hx.1 hme lf mf (hi ▸ hfit) mt) ?_
       refine D ?_
       refine cC (fun c3 => ?_) (fun c3 => ?_)
       · skip
         obtain ⟨h40, htr⟩ := takeR_bad c3
         have hA := And.intro hA (htr)
         refine D ?_
         refine E ?_
         obtain ⟨e1, e2, e3⟩ := taken3 c0 c1 hfit (by rw [htl]; omega)
         simp [e1, e2, e3, baseM, followed]
       · skip
         obtain ⟨h40, htr⟩ := takeR_ok c3
         have hA := And.intro hA (htr)
         refine D ?_
         refine kD (s_impl_CommonOf x.log (take7 x.log m.entries i) hx.1 (by omega)) ?_
         refine D ?_
         refine cC (fun c4 => ?_) (fun c4 => ?_)
         · skip
           refine D ?_
           refine E ?_
           obtain ⟨e1, e2, e3⟩ := taken4 c0 c1 hfit (by rw [htl]; omega) (by rw [htl]; exact c4)
           simp [e1, e2, e3, baseM, followed]
         · skip
           refine D ?_
           refine kD (s_impl_size_Entry (m.entries.map eEntry)) ?_
           refine D ?_
           refine E ?_
           obtain ⟨e1, e2, e3⟩ := taken5 c0 c1 hfit (by rw [htl]; omega) (by rw [htl]; exact c4)
           simp [e1, e2, e3, baseM, takenOk, followed, takenEnd, htl, hi, min_fi, max_fi]
end
section
attribute [local go_sem] toldOk set_map_I
theorem s_impl_Node_matched (x : Node) (hx : limN 2097152 x) (h0 : 0 ≤ x.commit) (h1 : x.commit ≤ x.log.length) (m : Mail) (hme : m.entries.length ≤ 2097152) (i : Nat) (hf : m.from_ = i) (hi0 : 0 ≤ m.index) (hi9 : m.index ≤ 40) (hL : x.role = 2 → i < x.next.length ∧ i < x.match_.length ∧ 1 ≤ x.next.getD i zI_i64 ∧ x.next.getD i zI_i64 ≤ 41 ∧ 0 ≤ x.match_.getD i zI_i64 ∧ x.match_.getD i zI_i64 ≤ 40) : SemX prog 52 [.one (.ptr 0 0), aS (eMail false m)] [.var (eNode true x)] [] [.var (eNode true (toldN x m))] := by
 refine goF [(84, ⟨some 1, none, none, none⟩), (90, ⟨some 1, none, none, none⟩), (100, ⟨some 1, none, none, none⟩), (154, ⟨some 1, none, none, none⟩)] [(1, 1, [16384], []), (1, 5, [1000000], []), (1, 11, [1000000], []), (2, 3, [1000000], []), (2, 5, [16384], []), (2, 6, [1000010], []), (2, 10, [1000000], []), (2, 12, [16384], []), (2, 13, [1000009], []), (4, 3, [1000009], []), (4, 6, [16384], []), (4, 11, [1000010], []), (4, 15, [1000009], [1000009]), (5, 1, [16384], []), (5, 4, [1000010], []), (5, 8, [16384], []), (5, 12, [1000000], []), (5, 13, [1000005], [])] [] func52 ?_
 obtain ⟨hx1, hx2, hx3, hx4⟩ := id hx
 have hlk : limN 2097152 (toldOk x m) := ⟨hx.1, hx.2.1, by simp [toldOk]; omega, by simp [toldOk]; omega⟩
 have hA := hf
 refine D ?_
 refine cC (fun c0 => ?_) (fun c0 => ?_)
 · skip
   refine D ?_
   refine E ?_
   have he : toldN x m = x := by unfold toldN; exact if_pos c0
   rw [he]
 · skip
   obtain ⟨k1, k2, k3, k4, k5, k6⟩ := hL (by simp at c0; omega)
   refine D ?_
   refine cC (fun c1 => ?_) (fun c1 => ?_)
   · skip
     refine D ?_
     refine E ?_
     have hto : toldN x m = toldNo x m := by unfold toldN; rw [if_neg (by simp at c0; omega), if_neg (by simp [c1])]
     have he : toldNo x m = { x with next := x.next.set i (max (max 1 (min (x.next.getD i zI_i64 - 1) (m.index + 1))) (x.match_.getD i zI_i64 + 1)) } := by unfold toldNo; rw [hf]; rfl
     rw [hto, he, ← told_impl]
     exact rfl
   · skip
     refine D ?_
     refine kDg (s_impl_size_Entry _) ?_
     refine D ?_
     refine cC (fun c2 => ?_) (fun c2 => ?_)
     · skip
       have ht : toldT x m = m.index := by unfold toldT; rw [hf]; exact if_pos c2
       have hgs : (x.match_.set i m.index).getD i zI_i64 = m.index := by simp [k2]
       have hA := And.intro hA (And.intro ht (hgs))
       refine D ?_
       refine kRk [1000000] [] [1000005, 1000008, 1000009, 1000010] (s_impl_Node_agree (toldOk x m) hlk h0 h1) ?_
       refine D ?_
       refine E ?_
       have hto : toldN x m = agreed (toldOk x m) := by unfold toldN; rw [if_neg (by simp at c0; omega), if_pos (by simpa using c1)]
       simp [hto, toldOk, ht, hf]
     · skip
       have ht : toldT x m = x.match_.getD i zI_i64 := by unfold toldT; rw [hf]; exact if_neg (by intro h; simp [-List.getD_eq_getElem?_getD] at c2; have := c2 h.1; have := h.2; omega)
       have hms : x.match_.set i (x.match_.getD i zI_i64) = x.match_ := by simp [k2]
       have hA := And.intro hA (And.intro ht (hms))
       refine D ?_
       refine kRk [1000000] [] [1000005, 1000008, 1000009, 1000010] (s_impl_Node_agree (toldOk x m) hlk h0 h1) ?_
       refine D ?_
       refine E ?_
       have hto : toldN x m = agreed (toldOk x m) := by unfold toldN; rw [if_neg (by simp at c0; omega), if_pos (by simpa using c1)]
       simp [-List.getD_eq_getElem?_getD, hto, toldOk, ht, hf, hms]
end
section
attribute [local go_sem] followed baseM
theorem s_impl_HearMail (x : Node) (hx : limN 2097152 x) (m : Mail) (hme : m.entries.length ≤ 2097152) : SemX prog 19 [aS (eNode false x), aS (eMail false m)] [] [.agg (eNodeResult true (hearMail x m))] [] := by
 refine goF [] [] [] func19 ?_
 obtain ⟨hx1, hx2, hx3, hx4⟩ := id hx
 refine D ?_
 refine kR (s_impl_MailFault x m hx hme) ?_
 refine D ?_
 refine cC (fun c0 => ?_) (fun c0 => ?_)
 · skip
   refine D ?_
   refine E ?_
   have he : hearMail x m = badN (if nodeFault x ≠ 0 then nodeFault x else mailFault x m) := by unfold hearMail; by_cases h : nodeFault x = 0 <;> simp_all
   simp [he, badN, zNode]
 · skip
   have hnm : nodeFault x = 0 ∧ mailFault x m = 0 := by by_cases h : nodeFault x = 0 <;> simp_all
   obtain ⟨hn, hm⟩ := hnm
   have K := hear_ok hx hn hm
   obtain ⟨⟨p1, p2, _⟩, _⟩ := node_ok hn
   obtain ⟨mk, mfr, mtm, mix, mco, mlf, mlt⟩ := mail_ok ⟨p1, p2⟩ hm
   have hrl := riseL_len (newer x m).votes m.from_
   have hnv := K.nv
   have hlr : limN 2097152 (riseN (newer x m) m) := ⟨K.lim.1, by simp [riseN]; omega, K.lim.2.2.1, K.lim.2.2.2⟩
   refine D ?_
   refine kR (s_impl_Node_copied x hx) ?_
   refine D ?_
   refine cC (fun c1 => ?_) (fun c1 => ?_)
   · skip
     have hnw : newer x m = followed { x with term := m.term, voted := -1 } := by unfold newer; rw [if_pos (by omega)]
     have hA := hnw
     refine D ?_
     refine kRk [28672] [] [73732, 73735, 73736, 73737] (s_impl_Node_follow { x with term := m.term, voted := -1 } hx) ?_
     refine D ?_
     refine cC (fun c2 => ?_) (fun c2 => ?_)
     · skip
       refine D ?_
       refine kRg (s_impl_upToDate (newer x m).log K.lim.1 m.index m.last) ?_
       refine D ?_
       refine cC (fun c3 => ?_) (fun c3 => ?_)
       · skip
         refine D ?_
         refine cC (fun c6 => ?_) (fun c6 => ?_)
         · skip
           refine D ?_
           refine E ?_
           cases c6
         · skip
           refine D ?_
           refine E ?_
           have he : hearMail x m = hear x m := by unfold hearMail; rw [if_neg (by simp [hn]), if_neg (by simp [hm])]
           have hu : upOk (newer x m) m = true := by unfold upOk; rw [hnw]; simp [followed, c3]
           have he2 : hear x m = ⟨0, votedN (newer x m) m, [grantM (newer x m) m]⟩ := by unfold hear; exact if_pos c2
           rw [he, he2]
           simp only [votedN, grantM, hu, if_true]
           simp [hnw, followed, eMail, c3]
       · skip
         refine D ?_
         refine cC (fun c6 => ?_) (fun c6 => ?_)
         · skip
           refine D ?_
           refine E ?_
           cases c6
         · skip
           refine D ?_
           refine E ?_
           have he : hearMail x m = hear x m := by unfold hearMail; rw [if_neg (by simp [hn]), if_neg (by simp [hm])]
           have hu : upOk (newer x m) m = false := by unfold upOk; rw [hnw]; first | exact c3 | simp [followed, c3]
           have he2 : hear x m = ⟨0, votedN (newer x m) m, [grantM (newer x m) m]⟩ := by unfold hear; exact if_pos c2
           rw [he, he2]
           simp only [votedN, grantM, hu, Bool.false_eq_true, if_false]
           first | (simp [hnw, followed, eMail, c3]; done) | (simp only [hnw, eMail, c3]; simp)
     · skip
       refine D ?_
       refine cC (fun c4 => ?_) (fun c4 => ?_)
       · skip
         refine D ?_
         refine kRk [28672] [] [115716, 115719, 115720, 115721] (s_impl_Node_granted (newer x m) K.lim K.c0 K.c1 K.p1 K.p2 K.p3 K.p4 K.rv K.nv m hme) ?_
         refine D ?_
         refine cC (fun c6 => ?_) (fun c6 => ?_)
         · skip
           refine D ?_
           refine E ?_
           cases c6
         · skip
           refine D ?_
           refine E ?_
           have he : hearMail x m = hear x m := by unfold hearMail; rw [if_neg (by simp [hn]), if_neg (by simp [hm])]
           have he2 : hear x m = ⟨0, grantedN (newer x m) m, []⟩ := by unfold hear; rw [if_neg c2, if_pos c4]
           simp [he, he2, hnw, followed]
       · skip
         refine D ?_
         refine cC (fun c5 => ?_) (fun c5 => ?_)
         · skip
           refine D ?_
           refine kRk [28672, 36864] [] [115716, 115719, 115720, 115721] (s_impl_Node_append (newer x m) K.lim K.c0 K.c1 m hme K.lf mlf mlt mix.1 mix.2) ?_
           refine D ?_
           refine cC (fun c6 => ?_) (fun c6 => ?_)
           · skip
             refine D ?_
             refine E ?_
             have he : hearMail x m = hear x m := by unfold hearMail; rw [if_neg (by simp [hn]), if_neg (by simp [hm])]
             have he2 : hear x m = badN (takenC (newer x m) m) := by unfold hear; rw [if_neg c2, if_neg c4, if_pos c5, if_pos (by rw [hnw]; exact c6)]
             simp [he, he2, hnw, followed, badN, zNode]
           · skip
             refine D ?_
             refine E ?_
             have he : hearMail x m = hear x m := by unfold hearMail; rw [if_neg (by simp [hn]), if_neg (by simp [hm])]
             have he2 : hear x m = ⟨0, takenN (newer x m) m, [takenM (newer x m) m]⟩ := by unfold hear; rw [if_neg c2, if_neg c4, if_pos c5, if_neg (by rw [hnw]; exact fun h => h c6)]
             simp [he, he2, hnw, followed, eMail, c6]
         · skip
           refine D ?_
           refine kRk [28672] [] [115716, 115719, 115720, 115721] (s_impl_Node_matched (newer x m) K.lim K.c0 K.c1 m hme m.from_.toNat (by omega) mix.1 mix.2 K.tl) ?_
           refine D ?_
           refine cC (fun c6 => ?_) (fun c6 => ?_)
           · skip
             refine D ?_
             refine E ?_
             cases c6
           · skip
             refine D ?_
             refine E ?_
             have he : hearMail x m = hear x m := by unfold hearMail; rw [if_neg (by simp [hn]), if_neg (by simp [hm])]
             have he2 : hear x m = ⟨0, toldN (newer x m) m, []⟩ := by unfold hear; rw [if_neg c2, if_neg c4, if_neg c5]
             simp [he, he2, hnw, followed]
   · skip
     have hnw : newer x m = x := by unfold newer; rw [if_neg (by omega)]
     have hA := hnw
     refine D ?_
     refine cC (fun c2 => ?_) (fun c2 => ?_)
     · skip
       refine D ?_
       refine kRg (s_impl_upToDate (newer x m).log K.lim.1 m.index m.last) ?_
       refine D ?_
       refine cC (fun c3 => ?_) (fun c3 => ?_)
       · skip
         refine D ?_
         refine cC (fun c6 => ?_) (fun c6 => ?_)
         · skip
           refine D ?_
           refine E ?_
           cases c6
         · skip
           refine D ?_
           refine E ?_
           have he : hearMail x m = hear x m := by unfold hearMail; rw [if_neg (by simp [hn]), if_neg (by simp [hm])]
           have hu : upOk (newer x m) m = true := by unfold upOk; rw [hnw]; simp [followed, c3]
           have he2 : hear x m = ⟨0, votedN (newer x m) m, [grantM (newer x m) m]⟩ := by unfold hear; exact if_pos c2
           rw [he, he2]
           simp only [votedN, grantM, hu, if_true]
           simp [hnw, followed, eMail, c3]
       · skip
         refine D ?_
         refine cC (fun c6 => ?_) (fun c6 => ?_)
         · skip
           refine D ?_
           refine E ?_
           cases c6
         · skip
           refine D ?_
           refine E ?_
           have he : hearMail x m = hear x m := by unfold hearMail; rw [if_neg (by simp [hn]), if_neg (by simp [hm])]
           have hu : upOk (newer x m) m = false := by unfold upOk; rw [hnw]; first | exact c3 | simp [followed, c3]
           have he2 : hear x m = ⟨0, votedN (newer x m) m, [grantM (newer x m) m]⟩ := by unfold hear; exact if_pos c2
           rw [he, he2]
           simp only [votedN, grantM, hu, Bool.false_eq_true, if_false]
           first | (simp [hnw, followed, eMail, c3]; done) | (simp only [hnw, eMail, c3]; simp)
     · skip
       refine D ?_
       refine cC (fun c4 => ?_) (fun c4 => ?_)
       · skip
         refine D ?_
         refine kRk [28672] [] [73732, 73735, 73736, 73737] (s_impl_Node_granted (newer x m) K.lim K.c0 K.c1 K.p1 K.p2 K.p3 K.p4 K.rv K.nv m hme) ?_
         refine D ?_
         refine cC (fun c6 => ?_) (fun c6 => ?_)
         · skip
           refine D ?_
           refine E ?_
           cases c6
         · skip
           refine D ?_
           refine E ?_
           have he : hearMail x m = hear x m := by unfold hearMail; rw [if_neg (by simp [hn]), if_neg (by simp [hm])]
           have he2 : hear x m = ⟨0, grantedN (newer x m) m, []⟩ := by unfold hear; rw [if_neg c2, if_pos c4]
           simp [he, he2, hnw, followed]
       · skip
         refine D ?_
         refine cC (fun c5 => ?_) (fun c5 => ?_)
         · skip
           refine D ?_
           refine kRk [28672, 36864] [] [73732, 73735, 73736, 73737] (s_impl_Node_append (newer x m) K.lim K.c0 K.c1 m hme K.lf mlf mlt mix.1 mix.2) ?_
           refine D ?_
           refine cC (fun c6 => ?_) (fun c6 => ?_)
           · skip
             refine D ?_
             refine E ?_
             have he : hearMail x m = hear x m := by unfold hearMail; rw [if_neg (by simp [hn]), if_neg (by simp [hm])]
             have he2 : hear x m = badN (takenC (newer x m) m) := by unfold hear; rw [if_neg c2, if_neg c4, if_pos c5, if_pos (by rw [hnw]; exact c6)]
             simp [he, he2, hnw, followed, badN, zNode]
           · skip
             refine D ?_
             refine E ?_
             have he : hearMail x m = hear x m := by unfold hearMail; rw [if_neg (by simp [hn]), if_neg (by simp [hm])]
             have he2 : hear x m = ⟨0, takenN (newer x m) m, [takenM (newer x m) m]⟩ := by unfold hear; rw [if_neg c2, if_neg c4, if_pos c5, if_neg (by rw [hnw]; exact fun h => h c6)]
             simp [he, he2, hnw, followed, eMail, c6]
         · skip
           refine D ?_
           refine kRk [28672] [] [73732, 73735, 73736, 73737] (s_impl_Node_matched (newer x m) K.lim K.c0 K.c1 m hme m.from_.toNat (by omega) mix.1 mix.2 K.tl) ?_
           refine D ?_
           refine cC (fun c6 => ?_) (fun c6 => ?_)
           · skip
             refine D ?_
             refine E ?_
             cases c6
           · skip
             refine D ?_
             refine E ?_
             have he : hearMail x m = hear x m := by unfold hearMail; rw [if_neg (by simp [hn]), if_neg (by simp [hm])]
             have he2 : hear x m = ⟨0, toldN (newer x m) m, []⟩ := by unfold hear; rw [if_neg c2, if_neg c4, if_neg c5]
             simp [he, he2, hnw, followed]
end
theorem s_spec_l8Id (x : Node) (i : Int) : SemX prog 150 [aT (.ptr (eNode false x)), aI i] [] [rB (isId x i)] [] := by
 refine goF [] [] [] func150 ?_
 refine D ?_
 refine kR (s_spec_l1In i 0 (IntKind.wrap .i64 (x.peers - 1))) ?_
 refine D ?_
 refine E ?_
 first
 | exact trivial
 | simp only [go_sem, isId]
theorem s_spec_l5Version (n : Int) : SemX prog 175 [aI n] [] [rB (inR n 0 1000000)] [] := by
 refine goF [] [] [] func175 ?_
 refine D ?_
 refine kR (s_spec_l1In n 0 1000000) ?_
 refine D ?_
 exact E trivial
theorem s_spec_l3Name (n : Int) : SemX prog 176 [aI n] [] [rB (inR n 1 999)] [] := by
 refine goF [] [] [] func176 ?_
 refine D ?_
 refine kR (s_spec_l1In n 1 999) ?_
 refine D ?_
 exact E trivial
theorem s_spec_l2Address (n : Int) : SemX prog 177 [aI n] [] [rB (inR n 0 4294967295)] [] := by
 refine goF [] [] [] func177 ?_
 refine D ?_
 refine kR (s_spec_l1In n 0 4294967295) ?_
 refine D ?_
 exact E trivial
theorem s_spec_l2Port (n : Int) : SemX prog 187 [aI n] [] [rB (inR n 0 65535)] [] := by
 refine goF [] [] [] func187 ?_
 refine D ?_
 refine kR (s_spec_l1In n 0 65535) ?_
 refine D ?_
 exact E trivial
theorem s_spec_l5Number (x : Cmd) : SemX prog 178 [aS (eCmd x)] [] [rB (isNum x)] [] := by
 refine goF [] [] [] func178 ?_
 refine D ?_
 refine cC (fun c0 => ?_) (fun c0 => ?_)
 · skip
   refine D ?_
   refine cC (fun c1 => ?_) (fun c1 => ?_)
   · skip
     refine D ?_
     refine kR (s_spec_l1In _ _ _) ?_
     refine D ?_
     refine E ?_
     first
     | exact trivial
     | simp only [go_sem, isNum]; done
     | try simp only [go_sem, isNum]
       first | (exfalso; omega) | (simp [*]; done)
   · skip
     refine D ?_
     refine cC (fun c2 => ?_) (fun c2 => ?_)
     · skip
       refine D ?_
       refine kR (s_spec_l1In _ _ _) ?_
       refine D ?_
       refine E ?_
       first
       | exact trivial
       | simp only [go_sem, isNum]; done
       | try simp only [go_sem, isNum]
         first | (exfalso; omega) | (simp [*]; done)
     · skip
       refine D ?_
       refine cC (fun c3 => ?_) (fun c3 => ?_)
       · skip
         refine D ?_
         refine kR (s_spec_l1In _ _ _) ?_
         refine D ?_
         refine E ?_
         first
         | exact trivial
         | simp only [go_sem, isNum]; done
         | try simp only [go_sem, isNum]
           first | (exfalso; omega) | (simp [*]; done)
       · skip
         refine D ?_
         refine kR (s_spec_l2Port _) ?_
         refine D ?_
         refine E ?_
         first
         | exact trivial
         | simp only [go_sem, isNum]; done
         | try simp only [go_sem, isNum]
           first | (exfalso; omega) | (simp [*]; done)
 · skip
   refine D ?_
   refine cC (fun c1 => ?_) (fun c1 => ?_)
   · skip
     refine D ?_
     refine kR (s_spec_l1In _ _ _) ?_
     refine D ?_
     refine E ?_
     first
     | exact trivial
     | simp only [go_sem, isNum]; done
     | try simp only [go_sem, isNum]
       first | (exfalso; omega) | (simp [*]; done)
   · skip
     refine D ?_
     refine cC (fun c2 => ?_) (fun c2 => ?_)
     · skip
       refine D ?_
       refine kR (s_spec_l1In _ _ _) ?_
       refine D ?_
       refine E ?_
       first
       | exact trivial
       | simp only [go_sem, isNum]; done
       | try simp only [go_sem, isNum]
         first | (exfalso; omega) | (simp [*]; done)
     · skip
       refine D ?_
       refine cC (fun c3 => ?_) (fun c3 => ?_)
       · skip
         refine D ?_
         refine kR (s_spec_l1In _ _ _) ?_
         refine D ?_
         refine E ?_
         first
         | exact trivial
         | simp only [go_sem, isNum]; done
         | try simp only [go_sem, isNum]
           first | (exfalso; omega) | (simp [*]; done)
       · skip
         refine D ?_
         refine kR (s_spec_l2Port _) ?_
         refine D ?_
         refine E ?_
         first
         | exact trivial
         | simp only [go_sem, isNum]; done
         | try simp only [go_sem, isNum]
           first | (exfalso; omega) | (simp [*]; done)
theorem s_spec_l5Proto (n : Int) : SemX prog 179 [aI n] [] [rB (isPro n)] [] := by
 refine goF [] [] [] func179 ?_
 refine D ?_
 refine E ?_
 first
 | exact trivial
 | simp only [go_sem, isPro]; done
 | try simp only [go_sem, isPro]
   cases decide (n = 6) <;> rfl
section
attribute [local go_sem] exp_eq
theorem s_spec_CmdFault (x : Cmd) : SemX prog 161 [aS (eCmd x)] [] [rI (cmdFault x)] [] := by
 refine goF [] [] [] func161 ?_
 refine D ?_
 refine kR (s_spec_l1In _ _ _) ?_
 refine D ?_
 refine cC (fun c0 => ?_) (fun c0 => ?_)
 · skip
   refine D ?_
   refine E ?_
   first
   | exact trivial
   | simp only [go_sem, cmdFault]; done
   | try simp only [go_sem, cmdFault]
     grind
 · skip
   refine D ?_
   refine kR (s_spec_l5Needs _) ?_
   refine D ?_
   refine kRg (s_spec_l5Version _) ?_
   refine D ?_
   refine kRg (s_spec_l3Name _) ?_
   refine D ?_
   refine kRg (s_spec_l2Address _) ?_
   refine D ?_
   refine kRg (s_spec_l5Number _) ?_
   refine D ?_
   refine kRg (s_spec_l5Proto _) ?_
   refine D ?_
   refine cC (fun c1 => ?_) (fun c1 => ?_)
   · skip
     refine D ?_
     refine E ?_
     first
     | exact trivial
     | simp only [go_sem, cmdFault]; done
     | try simp only [go_sem, cmdFault]
       grind
   · skip
     refine D ?_
     refine cC (fun c2 => ?_) (fun c2 => ?_)
     · skip
       refine D ?_
       refine E ?_
       first
       | exact trivial
       | simp only [go_sem, cmdFault]; done
       | try simp only [go_sem, cmdFault]
         grind
     · skip
       refine D ?_
       refine E ?_
       first
       | exact trivial
       | simp only [go_sem, cmdFault]; done
       | try simp only [go_sem, cmdFault]
         grind
end
theorem s_spec_EntryFault (x : Entry) : SemX prog 121 [aS (eEntry x)] [] [rI (entryFault x)] [] := by
 refine goF [] [] [] func121 ?_
 refine D ?_
 refine kR (s_spec_l1In _ _ _) ?_
 refine D ?_
 refine kRg (s_spec_l1In _ _ _) ?_
 refine D ?_
 refine kRg (s_spec_l1In _ _ _) ?_
 refine D ?_
 refine cC (fun c0 => ?_) (fun c0 => ?_)
 · skip
   refine D ?_
   refine E ?_
   first
   | exact trivial
   | simp only [go_sem, entryFault]; done
   | try simp only [go_sem, entryFault]
     simp only [entryFault, cmdZero]
     grind
 · skip
   refine D ?_
   refine cC (fun c1 => ?_) (fun c1 => ?_)
   · skip
     refine D ?_
     refine E ?_
     first
     | exact trivial
     | simp only [go_sem, entryFault]; done
     | try simp only [go_sem, entryFault]
       simp only [entryFault, cmdZero]
       grind
   · skip
     refine D ?_
     refine cC (fun c2 => ?_) (fun c2 => ?_)
     · skip
       refine D ?_
       refine kR (s_spec_CmdFault _) ?_
       refine D ?_
       refine E ?_
       first
       | exact trivial
       | simp only [go_sem, entryFault]; done
       | try simp only [go_sem, entryFault]
         simp only [entryFault, cmdZero]
         grind
     · skip
       refine D ?_
       refine cC (fun c3 => ?_) (fun c3 => ?_)
       · skip
         refine D ?_
         refine E ?_
         first
         | exact trivial
         | simp only [go_sem, entryFault]; done
         | try simp only [go_sem, entryFault]
           simp only [entryFault, cmdZero]
           grind
       · skip
         refine D ?_
         refine E ?_
         first
         | exact trivial
         | simp only [go_sem, entryFault]; done
         | try simp only [go_sem, entryFault]
           simp only [entryFault, cmdZero]
           grind
theorem s_spec_LogFault (xs : List Entry) (hl : xs.length ≤ 9223372036854775807) : SemX prog 151 [aT (.sl false 9 (xs.map eEntry))] [] [rI (logFault xs)] [] := by
 refine goF [] [] [] func151 ?_
 refine D ?_
 refine cC (fun c0 => ?_) (fun c0 => ?_)
 · skip
   refine D ?_
   refine E ?_
   rw [logFault, if_pos (by omega)]
 · skip
   refine D ?_
   refine L (α := Nat) (fun x => [(3, .int .i64 x)]) (fun x => []) (fun x => xs.length - x) (fun x => x ≤ xs.length ∧ logFault xs = scan (logBad xs) xs.length x) 0 [] (fun x hL => ?_) (hi := by exact ⟨Nat.zero_le _, by simp only [logFault]; rw [if_neg (by omega)]⟩)
   obtain ⟨hI, he⟩ := hL
   refine D ?_
   refine cC (fun c1 => ?_) (fun c1 => ?_)
   · skip
     refine D ?_
     refine kR (s_spec_EntryFault _) ?_
     refine D ?_
     refine cC (fun c2 => ?_) (fun c2 => ?_)
     · skip
       refine D ?_
       refine E ?_
       first
       | exact trivial
       | rw [he, scan_lt (by omega)]
         simp only [logBad]
         grind
     · skip
       refine D ?_
       refine cC (fun c3 => ?_) (fun c3 => ?_)
       · skip
         refine D ?_
         refine E ?_
         first
         | exact trivial
         | rw [he, scan_lt (by omega)]
           simp only [logBad]
           grind
       · skip
         refine D ?_
         refine N (x+1) [] (hi := ?_) (hm := ?_)
         · refine ⟨by omega, ?_⟩
           rw [he, scan_lt (by omega)]
           simp only [logBad]
           grind
         · omega
   · skip
     obtain rfl : x = xs.length := by omega
     refine D ?_
     refine E ?_
     rw [he, scan_ge (by omega)]
theorem s_spec_l8Rises (xs : List Int) (hl : xs.length ≤ 2097152) : SemX prog 173 [aT (.sl false 1 (xs.map eI_i64))] [] [rB (decide (rises xs))] [] := by
 refine goF [] [] [] func173 ?_
 refine D ?_
 refine L (α := Nat) (fun x => [(3, .int .i64 (x + 1 : Nat))]) (fun x => []) (fun x => xs.length + 1 - x) (fun x => (x = 0 ∨ x < xs.length) ∧ ∀ i, 0 < i → i ≤ x → xs.getD (i - 1) zI_i64 < xs.getD i zI_i64) 0 [] (fun x hL => ?_) (hi := by exact ⟨.inl rfl, fun i hi h2 => absurd hi (by omega)⟩)
 obtain ⟨hI, hj⟩ := hL
 refine D ?_
 refine cC (fun c0 => ?_) (fun c0 => ?_)
 · skip
   refine D ?_
   refine cC (fun c1 => ?_) (fun c1 => ?_)
   · skip
     refine D ?_
     refine E ?_
     rw [decide_eq_false]
     intro h
     have := h (x + 1) (by omega) (by omega)
     simp only [Nat.add_sub_cancel] at this
     grind
   · skip
     refine D ?_
     refine N (x+1) [] (hi := ?_) (hm := ?_)
     · refine ⟨by omega, fun i hi h2 => ?_⟩
       rcases Nat.lt_or_ge x i with h | h
       · rw [show i = x + 1 by omega]; simp only [Nat.add_sub_cancel]; grind
       · exact hj i hi h
     · omega
 · skip
   refine D ?_
   refine E ?_
   rw [decide_eq_true]
   intro i h1 h2
   exact hj i h1 (by omega)
theorem s_spec_l8Lists (x : Node) (hx : limN 2097152 x) : SemX prog 152 [aT (.ptr (eNode false x))] [] [rB (decide (listsOk x))] [] := by
 refine goF [] [] [] func152 ?_
 obtain ⟨hx1, hx2, hx3, hx4⟩ := id hx
 refine D ?_
 refine kR (s_spec_l8Rises x.votes hx.2.1) ?_
 refine D ?_
 refine cC (fun c0 => ?_) (fun c0 => ?_)
 · skip
   refine D ?_
   refine E ?_
   symm
   rw [decide_eq_false_iff_not]
   unfold listsOk
   grind
 · skip
   refine D ?_
   refine L (α := Nat) (fun i => [(3, .int .i64 i)]) (fun i => []) (fun i => x.votes.length - i) (fun i => i ≤ x.votes.length ∧ ∀ j, j < i → isId x (x.votes.getD j zI_i64) = true) 0 [] (fun i hL => ?_) (hi := by exact ⟨Nat.zero_le _, fun j hj => absurd hj (by omega)⟩)
   obtain ⟨hI, hj⟩ := hL
   refine D ?_
   refine cC (fun c1 => ?_) (fun c1 => ?_)
   · skip
     refine D ?_
     refine kR (s_spec_l8Id x (x.votes.getD i zI_i64)) ?_
     refine D ?_
     refine cC (fun c2 => ?_) (fun c2 => ?_)
     · skip
       refine D ?_
       refine E ?_
       symm
       rw [decide_eq_false_iff_not]
       unfold listsOk idsOk
       grind
     · skip
       refine D ?_
       refine N (i+1) [] (hi := ?_) (hm := ?_)
       · refine ⟨by omega, fun j hj2 => ?_⟩
         rcases Nat.lt_or_ge j i with h | h
         · exact hj j h
         · rw [show j = i by omega]; simpa using c2
       · omega
   · skip
     obtain rfl : i = x.votes.length := by omega
     refine D ?_
     refine cC (fun c3 => ?_) (fun c3 => ?_)
     · skip
       refine D ?_
       refine E ?_
       first
       | exact trivial
       | rw [Bool.eq_iff_iff]
         simp only [listsOk, idsOk, due]
         have hl1 := hx.2.1
         grind
     · skip
       refine D ?_
       refine E ?_
       first
       | exact trivial
       | rw [Bool.eq_iff_iff]
         simp only [listsOk, idsOk, due]
         have hl1 := hx.2.1
         grind
theorem s_spec_l8Fault (x : Node) (hx : limN 2097152 x) : SemX prog 103 [aT (.ptr (eNode false x))] [] [rI (nodeFault x)] [] := by
 refine goF [(204, ⟨some 1, none, none, none⟩)] [] [] func103 ?_
 obtain ⟨hx1, hx2, hx3, hx4⟩ := id hx
 refine D ?_
 refine kD (s_spec_l1In _ _ _) ?_
 refine D ?_
 refine kDg (s_spec_l8Id x x.id) ?_
 refine D ?_
 refine kDg (s_spec_l1In _ _ _) ?_
 refine D ?_
 refine kDg (s_spec_l1In _ _ _) ?_
 refine D ?_
 refine kDg (s_spec_l1In _ _ _) ?_
 refine D ?_
 refine cC (fun c0 => ?_) (fun c0 => ?_)
 · skip
   have hr : nodeRange x = false := by have hv := voted_eq x; unfold nodeRange; grind
   refine D ?_
   refine E ?_
   first
   | exact trivial
   | unfold nodeFault rangeOk
     grind
 · skip
   have hr : nodeRange x = true := by have hv := voted_eq x; unfold nodeRange; grind
   refine D ?_
   refine kR (s_spec_LogFault x.log (by omega)) ?_
   refine D ?_
   refine cC (fun c1 => ?_) (fun c1 => ?_)
   · skip
     refine D ?_
     refine E ?_
     first
     | exact trivial
     | unfold nodeFault rangeOk
       grind
   · skip
     refine D ?_
     refine kD (s_spec_LastOf x.log (by omega)) ?_
     refine D ?_
     refine cC (fun c2 => ?_) (fun c2 => ?_)
     · skip
       refine D ?_
       refine E ?_
       first
       | exact trivial
       | unfold nodeFault rangeOk
         grind
     · skip
       refine D ?_
       refine kR (s_spec_l1In _ _ _) ?_
       refine D ?_
       refine cC (fun c3 => ?_) (fun c3 => ?_)
       · skip
         refine D ?_
         refine E ?_
         first
         | exact trivial
         | unfold nodeFault rangeOk
           grind
       · skip
         refine D ?_
         refine kR (s_spec_l8Lists x hx) ?_
         refine D ?_
         refine cC (fun c4 => ?_) (fun c4 => ?_)
         · skip
           refine D ?_
           refine E ?_
           first
           | exact trivial
           | unfold nodeFault rangeOk
             grind
         · skip
           have hls : listsOk x := by grind
           have hll := listsOk_len hls
           refine D ?_
           refine L (α := Nat) (fun i => [(5, .int .i64 i)]) (fun i => []) (fun i => x.next.length - i) (fun i => i ≤ x.next.length ∧ ∀ j, j < i → inR (x.next.getD j zI_i64) 1 (x.log.length + 1) = true ∧ inR (x.match_.getD j zI_i64) 0 x.log.length = true) 0 [] (fun i hL => ?_) (hi := by exact ⟨Nat.zero_le _, fun j hj => absurd hj (by omega)⟩)
           obtain ⟨hI, hj⟩ := hL
           refine D ?_
           refine cC (fun c5 => ?_) (fun c5 => ?_)
           · skip
             refine D ?_
             refine kR (s_spec_l1In _ _ _) ?_
             refine D ?_
             refine kRg (s_spec_l1In _ _ _) ?_
             refine D ?_
             refine cC (fun c6 => ?_) (fun c6 => ?_)
             · skip
               refine D ?_
               refine E ?_
               first
               | exact trivial
               | unfold nodeFault rangeOk
                 grind
             · skip
               refine D ?_
               refine N (i+1) [] (hi := ?_) (hm := ?_)
               · refine ⟨by omega, fun j hj2 => ?_⟩
                 rcases Nat.lt_or_ge j i with h | h
                 · exact hj j h
                 · rw [show j = i by omega]; grind
               · omega
           · skip
             obtain rfl : i = x.next.length := by omega
             refine D ?_
             refine cC (fun c7 => ?_) (fun c7 => ?_)
             · skip
               refine D ?_
               refine E ?_
               first
               | exact trivial
               | unfold nodeFault rangeOk
                 grind
             · skip
               refine D ?_
               refine E ?_
               first
               | exact trivial
               | unfold nodeFault rangeOk
                 grind
theorem s_spec_l8Zeros (m : Mail) : SemX prog 153 [aS (eMail false m)] [] [rB (decide (mailZeros m))] [] := by
 refine goF [] [] [] func153 ?_
 refine D ?_
 refine cC (fun c0 => ?_) (fun c0 => ?_)
 · skip
   refine D ?_
   refine E ?_
   first
   | exact trivial
   | rw [Bool.eq_iff_iff]
     simp only [decide_eq_true_eq, mailZeros]
     grind
 · skip
   refine D ?_
   refine cC (fun c1 => ?_) (fun c1 => ?_)
   · skip
     refine D ?_
     refine E ?_
     first
     | exact trivial
     | rw [Bool.eq_iff_iff]
       simp only [decide_eq_true_eq, mailZeros]
       grind
   · skip
     refine D ?_
     refine cC (fun c2 => ?_) (fun c2 => ?_)
     · skip
       refine D ?_
       refine E ?_
       first
       | exact trivial
       | rw [Bool.eq_iff_iff]
         simp only [decide_eq_true_eq, mailZeros]
         grind
     · skip
       refine D ?_
       refine E ?_
       first
       | exact trivial
       | rw [Bool.eq_iff_iff]
         simp only [decide_eq_true_eq, mailZeros]
         grind
theorem s_spec_l8Mail (x : Node) (m : Mail) (hm : limM 2097152 m) : SemX prog 104 [aT (.ptr (eNode false x)), aS (eMail false m)] [] [rI (mailFault x m)] [] := by
 refine goF [] [(3, 2, [16384], []), (3, 7, [16384], []), (3, 16, [16384], []), (3, 25, [16384], []), (3, 31, [16384], []), (3, 37, [16384], []), (3, 39, [16384], []), (3, 45, [16384], []), (8, 1, [16384], []), (8, 6, [16384], []), (8, 10, [16384], []), (8, 14, [16384], []), (8, 19, [16384], []), (8, 24, [16384], [])] [] func104 ?_
 have hm1 : m.entries.length ≤ 2097152 := hm
 refine D ?_
 refine kR (s_spec_l1In _ _ _) ?_
 refine D ?_
 refine cC (fun c0 => ?_) (fun c0 => ?_)
 · skip
   refine D ?_
   refine E ?_
   first
   | exact trivial
   | unfold mailFault mailForm
     grind
 · skip
   refine D ?_
   refine kD (s_spec_l8Id x m.from_) ?_
   refine D ?_
   refine kDg (s_spec_l1In _ _ _) ?_
   refine D ?_
   refine kDg (s_spec_l1In _ _ _) ?_
   refine D ?_
   refine kDg (s_spec_l1In _ _ _) ?_
   refine D ?_
   refine kDg (s_spec_l1In _ _ _) ?_
   refine D ?_
   refine cC (fun c1 => ?_) (fun c1 => ?_)
   · skip
     have hr : mailRange x m = false := by unfold mailRange; grind
     refine D ?_
     refine E ?_
     first
     | exact trivial
     | unfold mailFault mailForm
       grind
   · skip
     have hr : mailRange x m = true := by unfold mailRange; grind
     refine D ?_
     refine kR (s_spec_LogFault m.entries (by omega)) ?_
     refine D ?_
     refine cC (fun c2 => ?_) (fun c2 => ?_)
     · skip
       refine D ?_
       refine E ?_
       first
       | exact trivial
       | unfold mailFault mailForm
         grind
     · skip
       refine D ?_
       refine kDg (s_spec_LastOf m.entries (by omega)) ?_
       refine D ?_
       refine cC (fun c3 => ?_) (fun c3 => ?_)
       · skip
         have hl : ¬ mailLog m := by unfold mailLog; grind
         refine D ?_
         refine E ?_
         first
         | exact trivial
         | unfold mailFault mailForm
           grind
       · skip
         have hl : mailLog m := by unfold mailLog; grind
         refine D ?_
         refine kRg (s_spec_l8Zeros m) ?_
         refine D ?_
         refine cC (fun c4 => ?_) (fun c4 => ?_)
         · skip
           refine D ?_
           refine E ?_
           first
           | exact trivial
           | unfold mailFault mailForm
             grind
         · skip
           refine D ?_
           refine E ?_
           first
           | exact trivial
           | unfold mailFault mailForm
             grind
theorem s_spec_MailFault (x : Node) (m : Mail) (hx : limN 2097152 x) (hm : limM 2097152 m) : SemX prog 53 [aS (eNode false x), aS (eMail false m)] [] [rI (if nodeFault x ≠ 0 then nodeFault x else mailFault x m)] [] := by
 refine goF [] [] [] func53 ?_
 refine D ?_
 refine kR (s_spec_l8Fault x hx) ?_
 refine D ?_
 refine cC (fun c0 => ?_) (fun c0 => ?_)
 · skip
   refine D ?_
   refine E ?_
   first
   | exact trivial
   | grind
 · skip
   refine D ?_
   refine kR (s_spec_l8Mail x m hm) ?_
   refine D ?_
   refine E ?_
   first
   | exact trivial
   | grind
theorem s_spec_l8Bad (c : Int) : SemX prog 54 [aI c] [] [.agg (eNodeResult true (badN c))] [] := by
 refine goF [] [] [] func54 ?_
 refine D ?_
 refine E ?_
 first
 | exact trivial
 | simp [badN, zNode]
theorem s_spec_l7Copy (xs : List Entry) (hl : xs.length ≤ 2097152) : SemX prog 154 [.one (.t (.sl false 9 (xs.map eEntry)))] [] [.one (.sl true 9 (xs.map eEntry))] [] := by
 refine goF [] [] [] func154 ?_
 refine D ?_
 exact E trivial
theorem s_spec_l8Copy (x : Node) (hx : limN 2097152 x) : SemX prog 105 [aS (eNode false x)] [] [.agg (eNode true x)] [] := by
 refine goF [] [] [] func105 ?_
 obtain ⟨hx1, hx2, hx3, hx4⟩ := id hx
 refine D ?_
 refine kR (s_spec_l7Copy x.log hx.1) ?_
 refine D ?_
 exact E trivial
theorem s_spec_l7UpToDate (log : List Entry) (hl : log.length ≤ 2097152) (index term : Int) : SemX prog 155 [aT (.sl false 9 (log.map eEntry)), aI index, aI term] [] [rB (upM log index term)] [] := by
 refine goF [] [] [] func155 ?_
 refine D ?_
 refine kR (s_spec_LastOf log (by omega)) ?_
 refine D ?_
 refine E ?_
 first
 | exact trivial
 | simp only [go_sem, upM]
theorem s_spec_l8Vote (x : Node) (hx : limN 2097152 x) (m : Mail) (hme : m.entries.length ≤ 2097152) (c : Int) (S : List (List T)) : SemX prog 107 [.one (.ptr 0 1), aS (eMail false m)] [.var (.int .i64 c :: eNode true x ++ [.sl true 9 S])] [.agg (eMail true (grantM x m))] [.var (.int .i64 c :: eNode true (votedN x m) ++ [.sl true 9 S])] := by
 refine goF [] [(1, 1, [16384], []), (1, 5, [1000000], []), (1, 11, [1000000], []), (1, 17, [1000000], []), (1, 19, [16384], []), (1, 27, [1000000], []), (1, 29, [16384], []), (1, 31, [16384], []), (1, 32, [1000006], []), (4, 3, [1000000], []), (4, 5, [16384], []), (4, 9, [1000000], []), (4, 12, [20480], [20480])] [] func107 ?_
 obtain ⟨hx1, hx2, hx3, hx4⟩ := id hx
 refine D ?_
 refine kDg (s_spec_l7UpToDate x.log hx.1 m.index m.last) ?_
 refine D ?_
 refine cC (fun c0 => ?_) (fun c0 => ?_)
 · skip
   refine D ?_
   refine E ?_
   have he : upOk x m = true := by simp only [upOk, Bool.and_eq_true, Bool.or_eq_true, decide_eq_true_eq]; exact c0
   exact ⟨by simp [grantM, upOk], by simp [votedN, he]⟩
 · skip
   refine D ?_
   refine E ?_
   have he : upOk x m = false := c0
   exact ⟨by simp [grantM, upOk], by simp [votedN, he]⟩
theorem s_spec_l8Vote_N (x : Node) (hx : limN 2097152 x) (m : Mail) (hme : m.entries.length ≤ 2097152) (c : Int) : SemX prog 107 [.one (.ptr 0 1), aS (eMail false m)] [.var (.int .i64 c :: eNode true x ++ [.nl])] [.agg (eMail true (grantM x m))] [.var (.int .i64 c :: eNode true (votedN x m) ++ [.nl])] := by
 refine goF [] [(1, 1, [16384], []), (1, 5, [1000000], []), (1, 11, [1000000], []), (1, 17, [1000000], []), (1, 19, [16384], []), (1, 27, [1000000], []), (1, 29, [16384], []), (1, 31, [16384], []), (1, 32, [1000006], []), (4, 3, [1000000], []), (4, 5, [16384], []), (4, 9, [1000000], []), (4, 12, [20480], [20480])] [] func107 ?_
 obtain ⟨hx1, hx2, hx3, hx4⟩ := id hx
 refine D ?_
 refine kDg (s_spec_l7UpToDate x.log hx.1 m.index m.last) ?_
 refine D ?_
 refine cC (fun c0 => ?_) (fun c0 => ?_)
 · skip
   refine D ?_
   refine E ?_
   have he : upOk x m = true := by simp only [upOk, Bool.and_eq_true, Bool.or_eq_true, decide_eq_true_eq]; exact c0
   exact ⟨by simp [grantM, upOk], by simp [votedN, he]⟩
 · skip
   refine D ?_
   refine E ?_
   have he : upOk x m = false := c0
   exact ⟨by simp [grantM, upOk], by simp [votedN, he]⟩
theorem s_spec_l1Rise (xs : List Int) (v : Int) (hl : xs.length ≤ 2097152) : SemX prog 108 [.one (.t (.sl true 1 (xs.map eI_i64))), aI v] [] [.one (.sl true 1 ((riseL xs v).map eI_i64))] [] := by
 refine goF [(76, ⟨some 0, none, none, none⟩)] [(6, 0, [], [139264]), (6, 3, [0], []), (6, 4, [139264, 0], [155648, 139264]), (6, 6, [], [163840]), (6, 7, [155648, 163840], [167936, 155648, 163840]), (6, 10, [0], []), (6, 11, [167936, 0], [184320, 167936])] [] func108 ?_
 refine D ?_
 refine L (α := Nat) (fun i => [(5, .int .i64 i)]) (fun i => []) (fun i => xs.length - i) (fun i => i ≤ xs.length ∧ ∀ q, q < i → xs.getD q zI_i64 < v) 0 [] (fun i hL => ?_) (hi := by exact ⟨Nat.zero_le _, fun q h => by omega⟩)
 obtain ⟨hi, hlo⟩ := hL
 refine D ?_
 refine cC (fun c0 => ?_) (fun c0 => ?_)
 · skip
   refine D ?_
   refine N (i+1) [] (hi := ?_) (hm := ?_)
   · simp at c0
     refine ⟨by omega, fun q hq => ?_⟩
     by_cases e : q = i
     · subst e; exact c0.2
     · exact hlo q (by omega)
   · omega
 · skip
   have hb : lbn xs v = i := lbn_eq hi hlo (fun h => by simp [-List.getD_eq_getElem?_getD] at c0; have := c0 h; omega)
   refine D ?_
   refine cC (fun c1 => ?_) (fun c1 => ?_)
   · skip
     refine D ?_
     refine E ?_
     have he : hasI xs v = true := by simp [hasI, hb]; simpa using c1
     simp [riseL, he]
   · skip
     refine D ?_
     refine E ?_
     have he : hasI xs v = false := by simp [hasI, hb]; simpa using c1
     have hm : min i xs.length = i := by omega
     have e1 : List.take (i + 1) (List.take i (List.map eI_i64 xs) ++ [[T.int .i64 v]]) = List.take i (List.map eI_i64 xs) ++ [[T.int .i64 v]] := List.take_of_length_le (by simp; omega)
     simp [riseL, he, hb, hm, e1]
     exact ⟨List.take_of_length_le (by simp; omega), rfl⟩
theorem s_spec_l7Fits (log : List Entry) (hl : log.length ≤ 2097152) (index term : Int) : SemX prog 156 [aT (.sl false 9 (log.map eEntry)), aI index, aI term] [] [rB (fitsM log index term)] [] := by
 refine goF [] [] [] func156 ?_
 refine D ?_
 refine cC (fun c0 => ?_) (fun c0 => ?_)
 · skip
   refine D ?_
   refine E ?_
   simp [fitsM, c0]
 · skip
   refine D ?_
   refine kR (s_spec_l1In _ _ _) ?_
   refine D ?_
   refine E ?_
   refine ⟨inR_idx hl, ?_⟩
   simp [fitsM, c0]
theorem s_spec_l7Take (log more : List Entry) (i : Nat) (hi : i ≤ log.length) (hl : log.length ≤ 2097152) (hm : more.length ≤ 2097152) : SemX prog 157 [aT (.sl false 9 (log.map eEntry)), aI i, aT (.sl false 9 (more.map eEntry))] [] [.one (.sl true 9 ((take7 log more i).map eEntry))] [] := by
 refine goF [(36, ⟨some 1, none, none, none⟩), (30, ⟨some 1, none, none, none⟩)] [(6, 3, [], [159744]), (6, 7, [159744], [176128, 159744])] [] func157 ?_
 refine D ?_
 refine L (α := Nat) (fun k => [(7, .int .i64 k)]) (fun k => []) (fun k => more.length - k) (fun k => k ≤ more.length ∧ i + k ≤ log.length ∧ ∀ q, q < k → bad7 log more i q = false) 0 [] (fun k hL => ?_) (hi := by exact ⟨Nat.zero_le _, hi, fun q h => by omega⟩)
 obtain ⟨hk, hik, hlo⟩ := hL
 have hmi : min (i + k) log.length = i + k := by omega
 have hA := hmi
 refine D ?_
 refine cC (fun c0 => ?_) (fun c0 => ?_)
 · skip
   refine D ?_
   refine cC (fun c1 => ?_) (fun c1 => ?_)
   · skip
     refine D ?_
     refine kD (s_spec_l7Copy (log.take (i + k)) (by simp; omega)) ?_
     refine D ?_
     refine E ?_
     have hb : bad7 log more i k = true := by
      rcases c1 with h | h
      · simp [bad7]; omega
      · simp [bad7, h, -List.getD_eq_getElem?_getD]
     have ht := take7_at (by omega) hlo hb
     rw [ht]
     simp
     exact List.take_of_length_le (by simp; omega)
   · skip
     refine D ?_
     refine N (k+1) [] (hi := ?_) (hm := ?_)
     · have hb : bad7 log more i k = false := by
        simp [-List.getD_eq_getElem?_getD] at c1
        simp [bad7, -List.getD_eq_getElem?_getD]
        exact ⟨by omega, c1.2⟩
       have hb2 : i + k < log.length := by simp [-List.getD_eq_getElem?_getD] at c1; omega
       refine ⟨by omega, by omega, fun q hq => ?_⟩
       by_cases e : q = k
       · subst e; exact hb
       · exact hlo q (by omega)
     · omega
 · skip
   refine D ?_
   refine kR (s_spec_l7Copy log hl) ?_
   refine D ?_
   refine E ?_
   have ht := take7_all (log := log) (more := more) (i := i) (fun q hq => hlo q (by omega))
   rw [ht]
theorem s_spec_CommonOf (a b : List Entry) (ha : a.length ≤ 2097152) (hb : b.length ≤ 2097152) : SemX prog 158 [aT (.sl false 9 (a.map eEntry)), aT (.sl false 9 (b.map eEntry))] [] [rI (commonN a b)] [] := by
 refine goF [] [] [] func158 ?_
 refine D ?_
 refine L (α := Nat) (fun i => [(5, .int .i64 i)]) (fun i => []) (fun i => min a.length b.length - i) (fun i => i ≤ min a.length b.length ∧ ∀ q, q < i → eqEn (a.getD q zEntry) (b.getD q zEntry) = true) 0 [] (fun i hL => ?_) (hi := by exact ⟨Nat.zero_le _, fun q h => by omega⟩)
 obtain ⟨hi, hlo⟩ := hL
 refine D ?_
 refine cC (fun c0 => ?_) (fun c0 => ?_)
 · skip
   refine D ?_
   refine N (i+1) [] (hi := ?_) (hm := ?_)
   · obtain ⟨d1, d2⟩ := c0
     have d3 : eqEn (a.getD i zEntry) (b.getD i zEntry) = true := by simp only [eqEn, Bool.and_eq_true, decide_eq_true_eq]; exact d2
     have d4 : i < a.length ∧ i < b.length := by first | omega | (split at d1 <;> omega)
     refine ⟨by omega, fun q hq => ?_⟩
     by_cases e : q = i
     · subst e; exact d3
     · exact hlo q (by omega)
   · obtain ⟨d1, d2⟩ := c0
     have d3 : eqEn (a.getD i zEntry) (b.getD i zEntry) = true := by simp only [eqEn, Bool.and_eq_true, decide_eq_true_eq]; exact d2
     have d4 : i < a.length ∧ i < b.length := by first | omega | (split at d1 <;> omega)
     omega
 · skip
   refine D ?_
   refine E ?_
   first
   | exact trivial
   | have c9 : (decide ((i : Int) < a.length) && decide ((i : Int) < b.length) && eqEn (a.getD i zEntry) (b.getD i zEntry)) = false := c0
     have hcn : commonN a b = i := tw_range hi hlo (fun h => by
      cases he : eqEn (a.getD i zEntry) (b.getD i zEntry)
      · rfl
      · rw [he] at c9; simp at c9; first | omega | (split at c9 <;> omega))
     rw [hcn]
section
attribute [local go_sem] followed
theorem s_spec_l8Taken (x : Node) (hx : limN 2097152 x) (h0 : 0 ≤ x.commit) (h1 : x.commit ≤ x.log.length) (m : Mail) (hme : m.entries.length ≤ 2097152) (lf : logFault x.log = 0) (mf : logFault m.entries = 0) (mt : 0 < m.entries.length → m.last ≤ (m.entries.getD 0 zEntry).term) (hi0 : 0 ≤ m.index) (hi9 : m.index ≤ 40) (c : Int) (S : List (List T)) (hS : T.noShR S = True) : SemX prog 111 [.one (.ptr 0 1), aS (eMail false m)] [.var (.int .i64 c :: eNode true x ++ [.sl true 9 S])] [.agg (eMail true (takenM x m)), rI (takenC x m)] [.var (.int .i64 c :: eNode true (takenN x m) ++ [.sl true 9 S])] := by
 refine goF [(98, ⟨some 1, none, none, none⟩), (184, ⟨some 1, none, none, none⟩)] [(1, 3, [1000000], []), (1, 5, [16384], []), (1, 9, [1000000], []), (1, 11, [], [28672]), (1, 12, [28672], [28672]), (2, 1, [16384], []), (2, 5, [1000000], []), (7, 3, [1000000], []), (7, 5, [16384], []), (7, 7, [16384], []), (7, 8, [148485], []), (8, 1, [16384], []), (8, 6, [1000000], []), (8, 10, [28672], [28672]), (10, 3, [1000000], []), (10, 5, [16384], []), (10, 7, [16384], []), (10, 8, [148485], [270336]), (13, 3, [1000000], []), (13, 5, [148485, 270336], []), (13, 9, [1000000], []), (17, 4, [1000000], []), (17, 6, [16384], []), (17, 12, [1000000], [1000000])] [] func111 ?_
 obtain ⟨hx1, hx2, hx3, hx4⟩ := id hx
 have hA := hS
 refine D ?_
 refine cC (fun c0 => ?_) (fun c0 => ?_)
 · skip
   refine D ?_
   refine E ?_
   obtain ⟨e1, e2, e3⟩ := taken0 c0
   simp [e1, e2, e3, baseM, followed]
 · skip
   refine D ?_
   refine cC (fun c1 => ?_) (fun c1 => ?_)
   · skip
     refine D ?_
     refine E ?_
     obtain ⟨e1, e2, e3⟩ := taken1 c0 c1
     simp [e1, e2, e3, baseM, followed]
   · skip
     refine D ?_
     refine kRk [1000000] [] [1000006, 1000009, 1000010, 1000011, 1000012] (s_spec_l8Follow x hx c S) ?_
     refine D ?_
     refine kD (s_spec_l7Fits x.log hx.1 m.index m.last) ?_
     refine D ?_
     refine cC (fun c2 => ?_) (fun c2 => ?_)
     · skip
       refine D ?_
       refine kD (s_spec_l1Min _ _) ?_
       refine D ?_
       refine E ?_
       obtain ⟨e1, e2, e3⟩ := taken2 c0 c1 c2
       simp [e1, e2, e3, baseM, followed]
       exact min_if _ _
     · skip
       have hfit : fitsM x.log m.index m.last = true := by simpa using c2
       obtain ⟨i, hi, hn⟩ := fits_nat hx.1 hfit
       have hi2 : m.index.toNat = i := by omega
       have htl : takenL x m = take7 x.log m.entries i := by unfold takenL; rw [hi2]
       have hll := take7_len (more := m.entries) hn
       have hml := log_le mf
       have hA := And.intro hA (hi)
       refine D ?_
       refine kD (s_spec_l7Take x.log m.entries i hn hx.1 hme) ?_
       refine D ?_
       refine cC (fun c3 => ?_) (fun c3 => ?_)
       · skip
         refine D ?_
         refine E ?_
         obtain ⟨e1, e2, e3⟩ := taken3 c0 c1 hfit (by rw [htl]; omega)
         simp [e1, e2, e3, baseM, followed]
       · skip
         refine D ?_
         refine kD (s_spec_CommonOf x.log (take7 x.log m.entries i) hx.1 (by omega)) ?_
         refine D ?_
         refine cC (fun c4 => ?_) (fun c4 => ?_)
         · skip
           refine D ?_
           refine E ?_
           obtain ⟨e1, e2, e3⟩ := taken4 c0 c1 hfit (by rw [htl]; omega) (by rw [htl]; exact c4)
           simp [e1, e2, e3, baseM, followed]
         · skip
           refine D ?_
           refine kD (s_spec_l1Min _ _) ?_
           refine D ?_
           refine kD (s_spec_l1Max _ _) ?_
           refine D ?_
           refine E ?_
           obtain ⟨e1, e2, e3⟩ := taken5 c0 c1 hfit (by rw [htl]; omega) (by rw [htl]; exact c4)
           simp [e1, e2, e3, baseM, takenOk, followed, takenEnd, htl, hi, min_if, max_if]
end
section
attribute [local go_sem] followed
theorem s_spec_l8Taken_N (x : Node) (hx : limN 2097152 x) (h0 : 0 ≤ x.commit) (h1 : x.commit ≤ x.log.length) (m : Mail) (hme : m.entries.length ≤ 2097152) (lf : logFault x.log = 0) (mf : logFault m.entries = 0) (mt : 0 < m.entries.length → m.last ≤ (m.entries.getD 0 zEntry).term) (hi0 : 0 ≤ m.index) (hi9 : m.index ≤ 40) (c : Int) : SemX prog 111 [.one (.ptr 0 1), aS (eMail false m)] [.var (.int .i64 c :: eNode true x ++ [.nl])] [.agg (eMail true (takenM x m)), rI (takenC x m)] [.var (.int .i64 c :: eNode true (takenN x m) ++ [.nl])] := by
 refine goF [(98, ⟨some 1, none, none, none⟩), (184, ⟨some 1, none, none, none⟩)] [(1, 3, [1000000], []), (1, 5, [16384], []), (1, 9, [1000000], []), (1, 11, [], [28672]), (1, 12, [28672], [28672]), (2, 1, [16384], []), (2, 5, [1000000], []), (7, 3, [1000000], []), (7, 5, [16384], []), (7, 7, [16384], []), (7, 8, [148485], []), (8, 1, [16384], []), (8, 6, [1000000], []), (8, 10, [28672], [28672]), (10, 3, [1000000], []), (10, 5, [16384], []), (10, 7, [16384], []), (10, 8, [148485], [270336]), (13, 3, [1000000], []), (13, 5, [148485, 270336], []), (13, 9, [1000000], []), (17, 4, [1000000], []), (17, 6, [16384], []), (17, 12, [1000000], [1000000])] [] func111 ?_
 obtain ⟨hx1, hx2, hx3, hx4⟩ := id hx
 refine D ?_
 refine cC (fun c0 => ?_) (fun c0 => ?_)
 · skip
   refine D ?_
   refine E ?_
   obtain ⟨e1, e2, e3⟩ := taken0 c0
   simp [e1, e2, e3, baseM, followed]
 · skip
   refine D ?_
   refine cC (fun c1 => ?_) (fun c1 => ?_)
   · skip
     refine D ?_
     refine E ?_
     obtain ⟨e1, e2, e3⟩ := taken1 c0 c1
     simp [e1, e2, e3, baseM, followed]
   · skip
     refine D ?_
     refine kRk [1000000] [] [1000006, 1000009, 1000010, 1000011] (s_spec_l8Follow_N x hx c) ?_
     refine D ?_
     refine kD (s_spec_l7Fits x.log hx.1 m.index m.last) ?_
     refine D ?_
     refine cC (fun c2 => ?_) (fun c2 => ?_)
     · skip
       refine D ?_
       refine kD (s_spec_l1Min _ _) ?_
       refine D ?_
       refine E ?_
       obtain ⟨e1, e2, e3⟩ := taken2 c0 c1 c2
       simp [e1, e2, e3, baseM, followed]
       exact min_if _ _
     · skip
       have hfit : fitsM x.log m.index m.last = true := by simpa using c2
       obtain ⟨i, hi, hn⟩ := fits_nat hx.1 hfit
       have hi2 : m.index.toNat = i := by omega
       have htl : takenL x m = take7 x.log m.entries i := by unfold takenL; rw [hi2]
       have hll := take7_len (more := m.entries) hn
       have hml := log_le mf
       have hA := hi
       refine D ?_
       refine kD (s_spec_l7Take x.log m.entries i hn hx.1 hme) ?_
       refine D ?_
       refine cC (fun c3 => ?_) (fun c3 => ?_)
       · skip
         refine D ?_
         refine E ?_
         obtain ⟨e1, e2, e3⟩ := taken3 c0 c1 hfit (by rw [htl]; omega)
         simp [e1, e2, e3, baseM, followed]
       · skip
         refine D ?_
         refine kD (s_spec_CommonOf x.log (take7 x.log m.entries i) hx.1 (by omega)) ?_
         refine D ?_
         refine cC (fun c4 => ?_) (fun c4 => ?_)
         · skip
           refine D ?_
           refine E ?_
           obtain ⟨e1, e2, e3⟩ := taken4 c0 c1 hfit (by rw [htl]; omega) (by rw [htl]; exact c4)
           simp [e1, e2, e3, baseM, followed]
         · skip
           refine D ?_
           refine kD (s_spec_l1Min _ _) ?_
           refine D ?_
           refine kD (s_spec_l1Max _ _) ?_
           refine D ?_
           refine E ?_
           obtain ⟨e1, e2, e3⟩ := taken5 c0 c1 hfit (by rw [htl]; omega) (by rw [htl]; exact c4)
           simp [e1, e2, e3, baseM, takenOk, followed, takenEnd, htl, hi, min_if, max_if]
end
section
attribute [local go_sem] toldOk set_map_I
theorem s_spec_l8Told (x : Node) (hx : limN 2097152 x) (h0 : 0 ≤ x.commit) (h1 : x.commit ≤ x.log.length) (m : Mail) (hme : m.entries.length ≤ 2097152) (i : Nat) (hf : m.from_ = i) (hi0 : 0 ≤ m.index) (hi9 : m.index ≤ 40) (hL : x.role = 2 → i < x.next.length ∧ i < x.match_.length ∧ 1 ≤ x.next.getD i zI_i64 ∧ x.next.getD i zI_i64 ≤ 41 ∧ 0 ≤ x.match_.getD i zI_i64 ∧ x.match_.getD i zI_i64 ≤ 40) (c : Int) (S : List (List T)) (hS : T.noShR S = True) : SemX prog 112 [.one (.ptr 0 1), aS (eMail false m)] [.var (.int .i64 c :: eNode true x ++ [.sl true 9 S])] [] [.var (.int .i64 c :: eNode true (toldN x m) ++ [.sl true 9 S])] := by
 refine goF [(132, ⟨some 1, none, none, none⟩), (156, ⟨some 1, none, none, none⟩), (162, ⟨some 1, none, none, none⟩), (198, ⟨some 1, none, none, none⟩)] [(1, 1, [16384], []), (1, 5, [1000000], []), (1, 11, [1000000], []), (3, 1, [16384], []), (3, 5, [1000000], []), (3, 7, [16384], []), (3, 8, [1000011], []), (3, 9, [1000011], []), (3, 13, [16384], []), (3, 17, [1000000], []), (4, 3, [1000000], []), (4, 5, [16384], []), (4, 7, [16384], []), (4, 8, [1000011], []), (4, 9, [1000011], [1000011]), (5, 3, [1000000], []), (5, 5, [16384], []), (5, 9, [1000000], []), (5, 11, [16384], []), (5, 12, [1000011], []), (5, 13, [1000011], []), (5, 15, [1000010], []), (5, 16, [1000010], [1000010]), (7, 3, [1000000], []), (7, 5, [16384], []), (7, 6, [1000010], []), (7, 7, [1000010], []), (7, 10, [16384], []), (8, 3, [1000000], []), (8, 5, [16384], []), (8, 10, [1000000], []), (8, 12, [16384], []), (8, 13, [1000011], []), (8, 14, [1000011], []), (8, 17, [1000010], []), (8, 18, [1000010], [1000010])] [] func112 ?_
 obtain ⟨hx1, hx2, hx3, hx4⟩ := id hx
 have hlk : limN 2097152 (toldOk x m) := ⟨hx.1, hx.2.1, by simp [toldOk]; omega, by simp [toldOk]; omega⟩
 have hA := hf
 refine D ?_
 refine cC (fun c0 => ?_) (fun c0 => ?_)
 · skip
   refine D ?_
   refine E ?_
   have he : toldN x m = x := by unfold toldN; exact if_pos c0
   rw [he]
 · skip
   obtain ⟨k1, k2, k3, k4, k5, k6⟩ := hL (by simp at c0; omega)
   refine D ?_
   refine cC (fun c1 => ?_) (fun c1 => ?_)
   · skip
     refine D ?_
     refine cC (fun c2 => ?_) (fun c2 => ?_)
     · skip
       have ht : toldT x m = m.index := by unfold toldT; rw [hf]; exact if_pos c2
       have hgs : (x.match_.set i m.index).getD i zI_i64 = m.index := by simp [k2]
       have hA := And.intro hA (And.intro ht (hgs))
       refine D ?_
       refine kRk [1000000] [] [1000006, 1000009, 1000010, 1000011, 1000012] (s_spec_l8Agree (toldOk x m) hlk h0 h1 c S) ?_
       refine D ?_
       refine E ?_
       have hto : toldN x m = agreed (toldOk x m) := by unfold toldN; rw [if_neg (by simp at c0; omega), if_pos (by simpa using c1)]
       simp [hto, toldOk, ht, hf]
     · skip
       have ht : toldT x m = x.match_.getD i zI_i64 := by unfold toldT; rw [hf]; exact if_neg (by intro h; simp [-List.getD_eq_getElem?_getD] at c2; have := c2 h.1; have := h.2; omega)
       have hms : x.match_.set i (x.match_.getD i zI_i64) = x.match_ := by simp [k2]
       have hA := And.intro hA (And.intro ht (hms))
       refine D ?_
       refine kRk [1000000] [] [1000006, 1000009, 1000010, 1000011, 1000012] (s_spec_l8Agree (toldOk x m) hlk h0 h1 c S) ?_
       refine D ?_
       refine E ?_
       have hto : toldN x m = agreed (toldOk x m) := by unfold toldN; rw [if_neg (by simp at c0; omega), if_pos (by simpa using c1)]
       simp [-List.getD_eq_getElem?_getD, hto, toldOk, ht, hf, hms]
   · skip
     refine D ?_
     refine kD (s_spec_l1Min _ _) ?_
     refine D ?_
     refine kD (s_spec_l1Max _ _) ?_
     refine D ?_
     refine kD (s_spec_l1Max _ _) ?_
     refine D ?_
     refine E ?_
     have hto : toldN x m = toldNo x m := by unfold toldN; rw [if_neg (by simp at c0; omega), if_neg (by simp [c1])]
     have he : toldNo x m = { x with next := x.next.set i (max (max 1 (min (x.next.getD i zI_i64 - 1) (m.index + 1))) (x.match_.getD i zI_i64 + 1)) } := by unfold toldNo; rw [hf]; rfl
     rw [hto, he, ← told_spec]
end
section
attribute [local go_sem] toldOk set_map_I
theorem s_spec_l8Told_N (x : Node) (hx : limN 2097152 x) (h0 : 0 ≤ x.commit) (h1 : x.commit ≤ x.log.length) (m : Mail) (hme : m.entries.length ≤ 2097152) (i : Nat) (hf : m.from_ = i) (hi0 : 0 ≤ m.index) (hi9 : m.index ≤ 40) (hL : x.role = 2 → i < x.next.length ∧ i < x.match_.length ∧ 1 ≤ x.next.getD i zI_i64 ∧ x.next.getD i zI_i64 ≤ 41 ∧ 0 ≤ x.match_.getD i zI_i64 ∧ x.match_.getD i zI_i64 ≤ 40) (c : Int) : SemX prog 112 [.one (.ptr 0 1), aS (eMail false m)] [.var (.int .i64 c :: eNode true x ++ [.nl])] [] [.var (.int .i64 c :: eNode true (toldN x m) ++ [.nl])] := by
 refine goF [(132, ⟨some 1, none, none, none⟩), (156, ⟨some 1, none, none, none⟩), (162, ⟨some 1, none, none, none⟩), (198, ⟨some 1, none, none, none⟩)] [(1, 1, [16384], []), (1, 5, [1000000], []), (1, 11, [1000000], []), (3, 1, [16384], []), (3, 5, [1000000], []), (3, 7, [16384], []), (3, 8, [1000011], []), (3, 9, [1000011], []), (3, 13, [16384], []), (3, 17, [1000000], []), (4, 3, [1000000], []), (4, 5, [16384], []), (4, 7, [16384], []), (4, 8, [1000011], []), (4, 9, [1000011], [1000011]), (5, 3, [1000000], []), (5, 5, [16384], []), (5, 9, [1000000], []), (5, 11, [16384], []), (5, 12, [1000011], []), (5, 13, [1000011], []), (5, 15, [1000010], []), (5, 16, [1000010], [1000010]), (7, 3, [1000000], []), (7, 5, [16384], []), (7, 6, [1000010], []), (7, 7, [1000010], []), (7, 10, [16384], []), (8, 3, [1000000], []), (8, 5, [16384], []), (8, 10, [1000000], []), (8, 12, [16384], []), (8, 13, [1000011], []), (8, 14, [1000011], []), (8, 17, [1000010], []), (8, 18, [1000010], [1000010])] [] func112 ?_
 obtain ⟨hx1, hx2, hx3, hx4⟩ := id hx
 have hlk : limN 2097152 (toldOk x m) := ⟨hx.1, hx.2.1, by simp [toldOk]; omega, by simp [toldOk]; omega⟩
 have hA := hf
 refine D ?_
 refine cC (fun c0 => ?_) (fun c0 => ?_)
 · skip
   refine D ?_
   refine E ?_
   have he : toldN x m = x := by unfold toldN; exact if_pos c0
   rw [he]
 · skip
   obtain ⟨k1, k2, k3, k4, k5, k6⟩ := hL (by simp at c0; omega)
   refine D ?_
   refine cC (fun c1 => ?_) (fun c1 => ?_)
   · skip
     refine D ?_
     refine cC (fun c2 => ?_) (fun c2 => ?_)
     · skip
       have ht : toldT x m = m.index := by unfold toldT; rw [hf]; exact if_pos c2
       have hgs : (x.match_.set i m.index).getD i zI_i64 = m.index := by simp [k2]
       have hA := And.intro hA (And.intro ht (hgs))
       refine D ?_
       refine kRk [1000000] [] [1000006, 1000009, 1000010, 1000011] (s_spec_l8Agree_N (toldOk x m) hlk h0 h1 c) ?_
       refine D ?_
       refine E ?_
       have hto : toldN x m = agreed (toldOk x m) := by unfold toldN; rw [if_neg (by simp at c0; omega), if_pos (by simpa using c1)]
       simp [hto, toldOk, ht, hf]
     · skip
       have ht : toldT x m = x.match_.getD i zI_i64 := by unfold toldT; rw [hf]; exact if_neg (by intro h; simp [-List.getD_eq_getElem?_getD] at c2; have := c2 h.1; have := h.2; omega)
       have hms : x.match_.set i (x.match_.getD i zI_i64) = x.match_ := by simp [k2]
       have hA := And.intro hA (And.intro ht (hms))
       refine D ?_
       refine kRk [1000000] [] [1000006, 1000009, 1000010, 1000011] (s_spec_l8Agree_N (toldOk x m) hlk h0 h1 c) ?_
       refine D ?_
       refine E ?_
       have hto : toldN x m = agreed (toldOk x m) := by unfold toldN; rw [if_neg (by simp at c0; omega), if_pos (by simpa using c1)]
       simp [-List.getD_eq_getElem?_getD, hto, toldOk, ht, hf, hms]
   · skip
     refine D ?_
     refine kD (s_spec_l1Min _ _) ?_
     refine D ?_
     refine kD (s_spec_l1Max _ _) ?_
     refine D ?_
     refine kD (s_spec_l1Max _ _) ?_
     refine D ?_
     refine E ?_
     have hto : toldN x m = toldNo x m := by unfold toldN; rw [if_neg (by simp at c0; omega), if_neg (by simp [c1])]
     have he : toldNo x m = { x with next := x.next.set i (max (max 1 (min (x.next.getD i zI_i64 - 1) (m.index + 1))) (x.match_.getD i zI_i64 + 1)) } := by unfold toldNo; rw [hf]; rfl
     rw [hto, he, ← told_spec]
end
section
attribute [local go_sem] followed riseN
theorem s_spec_l8Hear (x : Node) (hx : limN 2097152 x) (m : Mail) (hme : m.entries.length ≤ 2097152) (hn : nodeFault x = 0) (hm : mailFault x m = 0) : SemX prog 55 [aS (eNode false x), aS (eMail false m)] [] [.agg (eNodeResult true (hear x m))] [] := by
 refine goF [(72, ⟨some 11, some 24576, none, some [11]⟩), (85, ⟨some 12, none, none, none⟩)] [(3, 1, [16384], []), (3, 5, [24576], []), (9, 1, [24576], []), (9, 3, [16384], []), (9, 4, [24576, 123909, 123912, 123913, 123914, 45060, 45063, 45064, 45065], [24576, 123909, 123912, 123913, 123914, 159752, 160773, 160776, 160777, 160778, 45060, 45063, 45064, 45065]), (9, 5, [159752], [163840, 159752]), (9, 6, [163840], [167936, 163840]), (9, 8, [24576], [24576]), (11, 1, [16384], []), (11, 4, [16384], []), (11, 8, [24576], []), (11, 15, [24576], []), (12, 4, [24576], []), (12, 6, [16384], []), (12, 7, [123912, 45063], [123912, 286720, 45063]), (12, 10, [24576], [24576])] [] func55 ?_
 obtain ⟨hx1, hx2, hx3, hx4⟩ := id hx
 have K := hear_ok hx hn hm
 obtain ⟨⟨p1, p2, _⟩, _⟩ := node_ok hn
 obtain ⟨mk, mfr, mtm, mix, mco, mlf, mlt⟩ := mail_ok ⟨p1, p2⟩ hm
 have hfi : m.from_ = ((m.from_.toNat : Nat) : Int) := by omega
 have hrl := riseL_len (newer x m).votes m.from_
 have hnv := K.nv
 have hlr : limN 2097152 (riseN (newer x m) m) := ⟨K.lim.1, by simp [riseN]; omega, K.lim.2.2.1, K.lim.2.2.2⟩
 refine D ?_
 refine kR (s_spec_l8Copy x hx) ?_
 refine D ?_
 refine cC (fun c0 => ?_) (fun c0 => ?_)
 · skip
   have hnw : newer x m = followed { x with term := m.term, voted := -1 } := by unfold newer; rw [if_pos (by omega)]
   have hA := hnw
   refine D ?_
   refine kRk [24576] [] [45060, 45063, 45064, 45065] (s_spec_l8Follow_N { x with term := m.term, voted := -1 } hx 0) ?_
   refine D ?_
   refine cC (fun c1 => ?_) (fun c1 => ?_)
   · skip
     refine D ?_
     refine kDk [24576] [] [123909, 123912, 123913, 123914] (s_spec_l8Vote_N (newer x m) K.lim m hme 0) ?_
     refine D ?_
     refine E ?_
     have he : hear x m = ⟨0, votedN (newer x m) m, [grantM (newer x m) m]⟩ := by unfold hear; exact if_pos c1
     simp [he, hnw, followed, eMail]
   · skip
     refine D ?_
     refine cC (fun c2 => ?_) (fun c2 => ?_)
     · skip
       refine D ?_
       refine cC (fun c3 => ?_) (fun c3 => ?_)
       · skip
         refine D ?_
         refine kDk [] [123912] [] (s_spec_l1Rise (newer x m).votes m.from_ K.lim.2.1) ?_
         refine D ?_
         refine kR (s_spec_l8Quorum (riseN (newer x m) m) (riseL (newer x m).votes m.from_).length (by omega) (by omega)) ?_
         refine D ?_
         refine cC (fun c4 => ?_) (fun c4 => ?_)
         · skip
           refine D ?_
           refine kRk [24576] [] [123909, 286720, 123913, 123914] (s_spec_l8Lead_N (riseN (newer x m) m) hlr K.c0 K.c1 K.p1 K.p2 K.p3 K.p4 0) ?_
           refine D ?_
           refine E ?_
           exact absurd c3.2 (by decide)
         · skip
           refine D ?_
           refine E ?_
           exact absurd c3.2 (by decide)
       · skip
         refine D ?_
         refine E ?_
         have he : hear x m = ⟨0, newer x m, []⟩ := by unfold hear; rw [if_neg c1, if_pos c2, grantedN, if_neg (by simp [hnw, followed])]
         simp [he, hnw, followed]
     · skip
       refine D ?_
       refine cC (fun c5 => ?_) (fun c5 => ?_)
       · skip
         refine D ?_
         refine kRk [24576] [] [123909, 123912, 123913, 123914] (s_spec_l8Taken_N (newer x m) K.lim K.c0 K.c1 m hme K.lf mlf mlt mix.1 mix.2 0) ?_
         refine D ?_
         refine cC (fun c6 => ?_) (fun c6 => ?_)
         · skip
           refine D ?_
           refine kR (s_spec_l8Bad (takenC (newer x m) m)) ?_
           refine D ?_
           refine E ?_
           have he : hear x m = badN (takenC (newer x m) m) := by unfold hear; rw [if_neg c1, if_neg c2, if_pos c5, if_pos (by rw [hnw]; exact c6)]
           simp [he, hnw, followed, eMail]
         · skip
           refine D ?_
           refine E ?_
           have he : hear x m = ⟨0, takenN (newer x m) m, [takenM (newer x m) m]⟩ := by unfold hear; rw [if_neg c1, if_neg c2, if_pos c5, if_neg (by rw [hnw]; exact fun h => h c6)]
           simp [he, hnw, followed, eMail]
       · skip
         refine D ?_
         refine cC (fun c7 => ?_) (fun c7 => ?_)
         · skip
           refine D ?_
           refine kRk [24576] [] [123909, 123912, 123913, 123914] (s_spec_l8Told_N (newer x m) K.lim K.c0 K.c1 m hme m.from_.toNat hfi mix.1 mix.2 K.tl 0) ?_
           refine D ?_
           refine E ?_
           have he : hear x m = ⟨0, toldN (newer x m) m, []⟩ := by unfold hear; rw [if_neg c1, if_neg c2, if_neg c5]
           simp [he, hnw, followed, eMail]
         · skip
           refine D ?_
           refine E ?_
           omega
 · skip
   have hnw : newer x m = x := by unfold newer; rw [if_neg (by omega)]
   have hA := hnw
   refine D ?_
   refine cC (fun c1 => ?_) (fun c1 => ?_)
   · skip
     refine D ?_
     refine kDk [24576] [] [45060, 45063, 45064, 45065] (s_spec_l8Vote_N (newer x m) K.lim m hme 0) ?_
     refine D ?_
     refine E ?_
     have he : hear x m = ⟨0, votedN (newer x m) m, [grantM (newer x m) m]⟩ := by unfold hear; exact if_pos c1
     simp [he, hnw, followed, eMail]
   · skip
     refine D ?_
     refine cC (fun c2 => ?_) (fun c2 => ?_)
     · skip
       refine D ?_
       refine cC (fun c3 => ?_) (fun c3 => ?_)
       · skip
         refine D ?_
         refine kDk [] [45063] [] (s_spec_l1Rise (newer x m).votes m.from_ K.lim.2.1) ?_
         refine D ?_
         refine kR (s_spec_l8Quorum (riseN (newer x m) m) (riseL (newer x m).votes m.from_).length (by omega) (by omega)) ?_
         refine D ?_
         refine cC (fun c4 => ?_) (fun c4 => ?_)
         · skip
           refine D ?_
           refine kRk [24576] [] [45060, 286720, 45064, 45065] (s_spec_l8Lead_N (riseN (newer x m) m) hlr K.c0 K.c1 K.p1 K.p2 K.p3 K.p4 0) ?_
           refine D ?_
           refine E ?_
           have hg : (m.ok && decide (m.term = (newer x m).term) && decide ((newer x m).role = 1)) = true := by rw [hnw]; simp [c3]
           have he : hear x m = ⟨0, leadOf (riseN (newer x m) m), []⟩ := by unfold hear; rw [if_neg c1, if_pos c2, grantedN, if_pos hg, if_pos (by first | exact c4 | (simp [hnw, riseN, followed]; exact c4))]
           simp [he, hnw, riseN, followed]
         · skip
           refine D ?_
           refine E ?_
           have hg : (m.ok && decide (m.term = (newer x m).term) && decide ((newer x m).role = 1)) = true := by rw [hnw]; simp [c3]
           have he : hear x m = ⟨0, riseN (newer x m) m, []⟩ := by unfold hear; rw [if_neg c1, if_pos c2, grantedN, if_pos hg, if_neg (by rw [hnw]; intro h; exact absurd (h.symm.trans c4) (by simp))]
           simp [he, hnw, riseN, followed]
       · skip
         refine D ?_
         refine E ?_
         have he : hear x m = ⟨0, newer x m, []⟩ := by unfold hear; rw [if_neg c1, if_pos c2, grantedN, if_neg (by rw [hnw]; intro h; exact absurd (h.symm.trans c3) (by simp))]
         simp [he, hnw]
     · skip
       refine D ?_
       refine cC (fun c5 => ?_) (fun c5 => ?_)
       · skip
         refine D ?_
         refine kRk [24576] [] [45060, 45063, 45064, 45065] (s_spec_l8Taken_N (newer x m) K.lim K.c0 K.c1 m hme K.lf mlf mlt mix.1 mix.2 0) ?_
         refine D ?_
         refine cC (fun c6 => ?_) (fun c6 => ?_)
         · skip
           refine D ?_
           refine kR (s_spec_l8Bad (takenC (newer x m) m)) ?_
           refine D ?_
           refine E ?_
           have he : hear x m = badN (takenC (newer x m) m) := by unfold hear; rw [if_neg c1, if_neg c2, if_pos c5, if_pos (by rw [hnw]; exact c6)]
           simp [he, hnw, followed, eMail]
         · skip
           refine D ?_
           refine E ?_
           have he : hear x m = ⟨0, takenN (newer x m) m, [takenM (newer x m) m]⟩ := by unfold hear; rw [if_neg c1, if_neg c2, if_pos c5, if_neg (by rw [hnw]; exact fun h => h c6)]
           simp [he, hnw, followed, eMail]
       · skip
         refine D ?_
         refine cC (fun c7 => ?_) (fun c7 => ?_)
         · skip
           refine D ?_
           refine kRk [24576] [] [45060, 45063, 45064, 45065] (s_spec_l8Told_N (newer x m) K.lim K.c0 K.c1 m hme m.from_.toNat hfi mix.1 mix.2 K.tl 0) ?_
           refine D ?_
           refine E ?_
           have he : hear x m = ⟨0, toldN (newer x m) m, []⟩ := by unfold hear; rw [if_neg c1, if_neg c2, if_neg c5]
           simp [he, hnw, followed, eMail]
         · skip
           refine D ?_
           refine E ?_
           omega
end
theorem s_spec_HearMail (x : Node) (hx : limN 2097152 x) (m : Mail) (hme : m.entries.length ≤ 2097152) : SemX prog 20 [aS (eNode false x), aS (eMail false m)] [] [.agg (eNodeResult true (hearMail x m))] [] := by
 refine goF [] [] [] func20 ?_
 obtain ⟨hx1, hx2, hx3, hx4⟩ := id hx
 refine D ?_
 refine kR (s_spec_MailFault x m hx hme) ?_
 refine D ?_
 refine cC (fun c0 => ?_) (fun c0 => ?_)
 · skip
   refine D ?_
   refine kR (s_spec_l8Bad (if nodeFault x ≠ 0 then nodeFault x else mailFault x m)) ?_
   refine D ?_
   refine E ?_
   have he : hearMail x m = badN (if nodeFault x ≠ 0 then nodeFault x else mailFault x m) := by unfold hearMail; by_cases h : nodeFault x = 0 <;> simp_all
   simp [he, badN, zNode]
 · skip
   have hnm : nodeFault x = 0 ∧ mailFault x m = 0 := by by_cases h : nodeFault x = 0 <;> simp_all
   obtain ⟨hn, hm⟩ := hnm
   refine D ?_
   refine kR (s_spec_l8Hear x hx m hme hn hm) ?_
   refine D ?_
   refine E ?_
   have he : hearMail x m = hear x m := by unfold hearMail; rw [if_neg (by simp [hn]), if_neg (by simp [hm])]
   rw [he]
end Go.H
end
