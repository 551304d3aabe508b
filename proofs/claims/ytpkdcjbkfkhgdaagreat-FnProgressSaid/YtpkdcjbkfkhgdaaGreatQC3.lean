/- What the functions that several laws reach compute, each by its code, against pure functions. Conditions: those that each theorem states. -/
import Derived.Test.YtpkdcjbkfkhgdaaGreatQC2
section
set_option maxRecDepth 100000
set_option maxHeartbeats 4000000
set_option cbv.maxSteps 4000000
set_option linter.unusedVariables false
set_option linter.unusedSimpArgs false
namespace Go.H
open Go Go.Proofs.Tryz
variable [Inv prog]
section
attribute [local go_sem] lwX
theorem s_laws_lwCluster (code : List Int) (hb : okB code) (watch : Bool) : SemX prog 9 [aT (.sl false 1 (code.map eI_u8)), .one (.t (.bool watch))] [] [.agg (eCluster true (lwC code 50)), rB true] [] := by
 refine goF [(32, ⟨some 1, none, none, none⟩), (34, ⟨some 1, none, none, none⟩), (78, ⟨some 1, none, none, none⟩), (90, ⟨some 1, none, none, none⟩), (154, ⟨some 1, none, none, none⟩), (158, ⟨some 1, none, none, none⟩), (162, ⟨some 1, none, none, none⟩), (168, ⟨some 1, none, none, none⟩), (196, ⟨some 1, none, none, none⟩), (200, ⟨some 1, none, none, none⟩), (216, ⟨some 1, none, none, none⟩), (220, ⟨some 1, none, none, none⟩), (110, ⟨some 1, none, none, none⟩), (60, ⟨some 1, none, none, none⟩)] [(21, 0, [28672], []), (21, 14, [73729, 73730, 73731, 73732], [356353, 356354, 356355, 356356]), (21, 15, [53248], [53248]), (25, 0, [28672], []), (25, 7, [73729, 73730, 73731, 73732], [417793, 417794, 417795, 417796]), (25, 8, [53248], [53248]), (27, 0, [28672], []), (27, 7, [73729, 73730, 73731, 73732], [458753, 458754, 458755, 458756]), (27, 8, [53248], [53248]), (13, 0, [28672], []), (13, 6, [73729, 73730, 73731, 73732], [237569, 237570, 237571, 237572]), (13, 7, [53248], [53248])] [] func9 ?_
 have hv := lwV_bd hb (i := 0) (by omega) 3
 have hnw : (1 + 2 * lwV code 0 3) = (((1 + 2 * lwV code 0 3).toNat : Nat) : Int) := by omega
 have hNC := s_impl_NewCluster (1 + 2 * lwV code 0 3).toNat (by omega)
 rw [← hnw] at hNC
 have hps : decide ((0 : Int) < (newC (1 + 2 * lwV code 0 3).toNat).nodes.length) = true := by have := (lwC_safe hb 0).f.n; exact decide_eq_true (by have h : (lwC code 0).nodes.length = (newC (1 + 2 * lwV code 0 3).toNat).nodes.length := rfl; omega)
 have hA := hps
 refine D ?_
 refine kR (s_laws_lwAt code hb (0) (3) (by omega) (by omega)) ?_
 refine D ?_
 refine kR hNC ?_
 refine D ?_
 refine L (α := Nat) (fun k => [(7, .bool true), (8, .int .i64 k)]) (fun k => [(28672, .var [.ref 73729 0 (lwC code k).nodes.length, .ref 73730 0 (lwC code k).mails.length, .ref 73731 0 (lwC code k).wins.length, .ref 73732 0 (lwC code k).seals.length]), (73729, .arr ⟨10, (lwC code k).nodes.map (eNode true), 1, none⟩), (73730, .arr ⟨9, (lwC code k).mails.map (eMail true), 1, none⟩), (73731, .arr ⟨2, (lwC code k).wins.map eWon, 1, none⟩), (73732, .arr ⟨10, (lwC code k).seals.map eSeal, 1, none⟩)]) (fun k => 50 - k) (fun k => k ≤ 50) 0 [] (fun k hI => ?_) (by simp only [go_sem, hA] <;> and_intros <;> first | with_reducible exact rfl | (first | omega | exact rfl | (simp; done)))
 have hS := lwC_safe hb k
 have hx := cf_lim2 hS.f
 have hn5 := hS.f.n
 have hm8 := hS.f.m
 have hbk := lwV_bd hb (i := (k : Int) + 1) (by omega) 16
 have hb9 := lwV_bd hb (i := (k : Int) + 90) (by omega) 3
 refine D ?_
 refine cC (fun c0 => ?_) (fun c0 => ?_)
 · skip
   refine D ?_
   refine kR (s_laws_lwAt code hb ((k : Int) + 60) ((lwC code k).nodes.length) (by omega) (by omega)) ?_
   refine D ?_
   refine kR (s_laws_lwAt code hb ((k : Int) + 1) (16) (by omega) (by omega)) ?_
   refine D ?_
   refine cC (fun c1 => ?_) (fun c1 => ?_)
   · skip
     refine D ?_
     have hT := (s_impl_TimeoutAt (lwC code k) hx (lwV code (k + 60) (lwC code k).nodes.length))
     have hR : atNode (lwC code k) (lwV code (k + 60) (lwC code k).nodes.length) (timeoutNode ((lwC code k).nodes.getD (lwV code (k + 60) (lwC code k).nodes.length).toNat zNode)) = lwR code k (lwC code k) := by unfold lwR; rw [if_pos c1]; try rfl
     rw [hR] at hT
     refine kR hT ?_
     refine D ?_
     refine cC (fun c10 => ?_) (fun c10 => ?_)
     · skip
       have hc0 : (lwR code k (lwC code k)).code = 0 := by simpa using c10
       have hN : lwC code (k + 1) = (lwR code k (lwC code k)).cluster := if_pos hc0
       have hSf : SafeC (lwR code k (lwC code k)).cluster := hN ▸ lwC_safe hb (k + 1)
       refine D ?_
       refine kRg (s_impl_SafeCluster (lwR code k (lwC code k)).cluster hSf) ?_
       refine D ?_
       refine lp_next (k + 1) [(73729,258049),(73730,258050),(73731,258051),(73732,258052)] ?_ ?_ ?_
       · simp only [go_sem, hA] <;> and_intros <;> first | with_reducible exact rfl | (first | with_reducible exact rfl | omega | (rw [hN]; done) | (cases watch <;> rfl) | (refine int_eq ?_; omega) | (simp; done))
       · omega
       · omega
     · skip
       have hc0 : ¬ (lwR code k (lwC code k)).code = 0 := by simpa using c10
       have hN : lwC code (k + 1) = lwC code k := if_neg hc0
       refine D ?_
       refine lp_next (k + 1) [] ?_ ?_ ?_
       · simp only [go_sem, hA] <;> and_intros <;> first | with_reducible exact rfl | (first | with_reducible exact rfl | omega | (rw [hN]; done) | (cases watch <;> rfl) | (refine int_eq ?_; omega) | (simp; done))
       · omega
       · omega
   · skip
     refine D ?_
     refine cC (fun c2 => ?_) (fun c2 => ?_)
     · skip
       refine D ?_
       refine cC (fun c3 => ?_) (fun c3 => ?_)
       · skip
         refine D ?_
         have hT := (s_impl_SpreadAt (lwC code k) hx (lwV code (k + 60) (lwC code k).nodes.length))
         have hR : atNode (lwC code k) (lwV code (k + 60) (lwC code k).nodes.length) (spreadNode ((lwC code k).nodes.getD (lwV code (k + 60) (lwC code k).nodes.length).toNat zNode)) = lwR code k (lwC code k) := by unfold lwR; rw [if_neg c1, if_pos (by omega)]; try rfl
         rw [hR] at hT
         refine kR hT ?_
         refine D ?_
         refine cC (fun c10 => ?_) (fun c10 => ?_)
         · skip
           have hc0 : (lwR code k (lwC code k)).code = 0 := by simpa using c10
           have hN : lwC code (k + 1) = (lwR code k (lwC code k)).cluster := if_pos hc0
           have hSf : SafeC (lwR code k (lwC code k)).cluster := hN ▸ lwC_safe hb (k + 1)
           refine D ?_
           refine kRg (s_impl_SafeCluster (lwR code k (lwC code k)).cluster hSf) ?_
           refine D ?_
           refine lp_next (k + 1) [(73729,282625),(73730,282626),(73731,282627),(73732,282628)] ?_ ?_ ?_
           · simp only [go_sem, hA] <;> and_intros <;> first | with_reducible exact rfl | (first | with_reducible exact rfl | omega | (rw [hN]; done) | (cases watch <;> rfl) | (refine int_eq ?_; omega) | (simp; done))
           · omega
           · omega
         · skip
           have hc0 : ¬ (lwR code k (lwC code k)).code = 0 := by simpa using c10
           have hN : lwC code (k + 1) = lwC code k := if_neg hc0
           refine D ?_
           refine lp_next (k + 1) [] ?_ ?_ ?_
           · simp only [go_sem, hA] <;> and_intros <;> first | with_reducible exact rfl | (first | with_reducible exact rfl | omega | (rw [hN]; done) | (cases watch <;> rfl) | (refine int_eq ?_; omega) | (simp; done))
           · omega
           · omega
       · skip
         exact absurd c2 (by simpa using c3)
     · skip
       refine D ?_
       refine cC (fun c3 => ?_) (fun c3 => ?_)
       · skip
         refine D ?_
         have hT := (s_impl_SpreadAt (lwC code k) hx (lwV code (k + 60) (lwC code k).nodes.length))
         have hR : atNode (lwC code k) (lwV code (k + 60) (lwC code k).nodes.length) (spreadNode ((lwC code k).nodes.getD (lwV code (k + 60) (lwC code k).nodes.length).toNat zNode)) = lwR code k (lwC code k) := by unfold lwR; rw [if_neg c1, if_pos (by omega)]; try rfl
         rw [hR] at hT
         refine kR hT ?_
         refine D ?_
         refine cC (fun c10 => ?_) (fun c10 => ?_)
         · skip
           have hc0 : (lwR code k (lwC code k)).code = 0 := by simpa using c10
           have hN : lwC code (k + 1) = (lwR code k (lwC code k)).cluster := if_pos hc0
           have hSf : SafeC (lwR code k (lwC code k)).cluster := hN ▸ lwC_safe hb (k + 1)
           refine D ?_
           refine kRg (s_impl_SafeCluster (lwR code k (lwC code k)).cluster hSf) ?_
           refine D ?_
           refine lp_next (k + 1) [(73729,282625),(73730,282626),(73731,282627),(73732,282628)] ?_ ?_ ?_
           · simp only [go_sem, hA] <;> and_intros <;> first | with_reducible exact rfl | (first | with_reducible exact rfl | omega | (rw [hN]; done) | (cases watch <;> rfl) | (refine int_eq ?_; omega) | (simp; done))
           · omega
           · omega
         · skip
           have hc0 : ¬ (lwR code k (lwC code k)).code = 0 := by simpa using c10
           have hN : lwC code (k + 1) = lwC code k := if_neg hc0
           refine D ?_
           refine lp_next (k + 1) [] ?_ ?_ ?_
           · simp only [go_sem, hA] <;> and_intros <;> first | with_reducible exact rfl | (first | with_reducible exact rfl | omega | (rw [hN]; done) | (cases watch <;> rfl) | (refine int_eq ?_; omega) | (simp; done))
           · omega
           · omega
       · skip
         refine D ?_
         refine cC (fun c4 => ?_) (fun c4 => ?_)
         · skip
           refine D ?_
           refine cC (fun c5 => ?_) (fun c5 => ?_)
           · skip
             refine D ?_
             refine kD (s_laws_lwAt code hb ((k : Int) + 90) (3) (by omega) (by omega)) ?_
             refine D ?_
             refine kD (s_laws_lwAt code hb ((k : Int) + 120) (9) (by omega) (by omega)) ?_
             refine D ?_
             have hT := (s_impl_AskAt (lwC code k) hx (lwV code (k + 60) (lwC code k).nodes.length) (1 + lwV code (k + 90) 3) (k + 1) (lwX code k))
             have hR : atNode (lwC code k) (lwV code (k + 60) (lwC code k).nodes.length) (askNode ((lwC code k).nodes.getD (lwV code (k + 60) (lwC code k).nodes.length).toNat zNode) ⟨((lwC code k).nodes.getD (lwV code (k + 60) (lwC code k).nodes.length).toNat zNode).term, 1 + lwV code (k + 90) 3, k + 1, lwX code k⟩) = lwR code k (lwC code k) := by unfold lwR; rw [if_neg c1, if_neg (by omega), if_pos (by omega)]; try rfl
             rw [hR] at hT
             refine kD hT ?_
             refine D ?_
             refine cC (fun c10 => ?_) (fun c10 => ?_)
             · skip
               have hc0 : (lwR code k (lwC code k)).code = 0 := by simpa using c10
               have hN : lwC code (k + 1) = (lwR code k (lwC code k)).cluster := if_pos hc0
               have hSf : SafeC (lwR code k (lwC code k)).cluster := hN ▸ lwC_safe hb (k + 1)
               refine D ?_
               refine kRg (s_impl_SafeCluster (lwR code k (lwC code k)).cluster hSf) ?_
               refine D ?_
               refine lp_next (k + 1) [(73729,356353),(73730,356354),(73731,356355),(73732,356356)] ?_ ?_ ?_
               · simp only [go_sem, hA] <;> and_intros <;> first | with_reducible exact rfl | (first | with_reducible exact rfl | omega | (rw [hN]; done) | (cases watch <;> rfl) | (refine int_eq ?_; omega) | (simp; done))
               · omega
               · omega
             · skip
               have hc0 : ¬ (lwR code k (lwC code k)).code = 0 := by simpa using c10
               have hN : lwC code (k + 1) = lwC code k := if_neg hc0
               refine D ?_
               refine lp_next (k + 1) [] ?_ ?_ ?_
               · simp only [go_sem, hA] <;> and_intros <;> first | with_reducible exact rfl | (first | with_reducible exact rfl | omega | (rw [hN]; done) | (cases watch <;> rfl) | (refine int_eq ?_; omega) | (simp; done))
               · omega
               · omega
           · skip
             exact absurd c4 (by simpa using c5)
         · skip
           refine D ?_
           refine cC (fun c5 => ?_) (fun c5 => ?_)
           · skip
             refine D ?_
             refine kD (s_laws_lwAt code hb ((k : Int) + 90) (3) (by omega) (by omega)) ?_
             refine D ?_
             refine kD (s_laws_lwAt code hb ((k : Int) + 120) (9) (by omega) (by omega)) ?_
             refine D ?_
             have hT := (s_impl_AskAt (lwC code k) hx (lwV code (k + 60) (lwC code k).nodes.length) (1 + lwV code (k + 90) 3) (k + 1) (lwX code k))
             have hR : atNode (lwC code k) (lwV code (k + 60) (lwC code k).nodes.length) (askNode ((lwC code k).nodes.getD (lwV code (k + 60) (lwC code k).nodes.length).toNat zNode) ⟨((lwC code k).nodes.getD (lwV code (k + 60) (lwC code k).nodes.length).toNat zNode).term, 1 + lwV code (k + 90) 3, k + 1, lwX code k⟩) = lwR code k (lwC code k) := by unfold lwR; rw [if_neg c1, if_neg (by omega), if_pos (by omega)]; try rfl
             rw [hR] at hT
             refine kD hT ?_
             refine D ?_
             refine cC (fun c10 => ?_) (fun c10 => ?_)
             · skip
               have hc0 : (lwR code k (lwC code k)).code = 0 := by simpa using c10
               have hN : lwC code (k + 1) = (lwR code k (lwC code k)).cluster := if_pos hc0
               have hSf : SafeC (lwR code k (lwC code k)).cluster := hN ▸ lwC_safe hb (k + 1)
               refine D ?_
               refine kRg (s_impl_SafeCluster (lwR code k (lwC code k)).cluster hSf) ?_
               refine D ?_
               refine lp_next (k + 1) [(73729,356353),(73730,356354),(73731,356355),(73732,356356)] ?_ ?_ ?_
               · simp only [go_sem, hA] <;> and_intros <;> first | with_reducible exact rfl | (first | with_reducible exact rfl | omega | (rw [hN]; done) | (cases watch <;> rfl) | (refine int_eq ?_; omega) | (simp; done))
               · omega
               · omega
             · skip
               have hc0 : ¬ (lwR code k (lwC code k)).code = 0 := by simpa using c10
               have hN : lwC code (k + 1) = lwC code k := if_neg hc0
               refine D ?_
               refine lp_next (k + 1) [] ?_ ?_ ?_
               · simp only [go_sem, hA] <;> and_intros <;> first | with_reducible exact rfl | (first | with_reducible exact rfl | omega | (rw [hN]; done) | (cases watch <;> rfl) | (refine int_eq ?_; omega) | (simp; done))
               · omega
               · omega
           · skip
             refine D ?_
             refine cC (fun c6 => ?_) (fun c6 => ?_)
             · skip
               refine D ?_
               have hT := (s_impl_CrashAt (lwC code k) hx (lwV code (k + 60) (lwC code k).nodes.length))
               have hR : atNode (lwC code k) (lwV code (k + 60) (lwC code k).nodes.length) (crashNode ((lwC code k).nodes.getD (lwV code (k + 60) (lwC code k).nodes.length).toNat zNode)) = lwR code k (lwC code k) := by unfold lwR; rw [if_neg c1, if_neg (by omega), if_neg (by omega), if_pos c6]; try rfl
               rw [hR] at hT
               refine kR hT ?_
               refine D ?_
               refine cC (fun c10 => ?_) (fun c10 => ?_)
               · skip
                 have hc0 : (lwR code k (lwC code k)).code = 0 := by simpa using c10
                 have hN : lwC code (k + 1) = (lwR code k (lwC code k)).cluster := if_pos hc0
                 have hSf : SafeC (lwR code k (lwC code k)).cluster := hN ▸ lwC_safe hb (k + 1)
                 refine D ?_
                 refine kRg (s_impl_SafeCluster (lwR code k (lwC code k)).cluster hSf) ?_
                 refine D ?_
                 refine lp_next (k + 1) [(73729,376833),(73730,376834),(73731,376835),(73732,376836)] ?_ ?_ ?_
                 · simp only [go_sem, hA] <;> and_intros <;> first | with_reducible exact rfl | (first | with_reducible exact rfl | omega | (rw [hN]; done) | (cases watch <;> rfl) | (refine int_eq ?_; omega) | (simp; done))
                 · omega
                 · omega
               · skip
                 have hc0 : ¬ (lwR code k (lwC code k)).code = 0 := by simpa using c10
                 have hN : lwC code (k + 1) = lwC code k := if_neg hc0
                 refine D ?_
                 refine lp_next (k + 1) [] ?_ ?_ ?_
                 · simp only [go_sem, hA] <;> and_intros <;> first | with_reducible exact rfl | (first | with_reducible exact rfl | omega | (rw [hN]; done) | (cases watch <;> rfl) | (refine int_eq ?_; omega) | (simp; done))
                 · omega
                 · omega
             · skip
               refine D ?_
               refine cC (fun c7 => ?_) (fun c7 => ?_)
               · skip
                 refine D ?_
                 refine kD (s_laws_lwAt code hb ((k : Int) + 90) (((lwC code k).mails.length : Int) + 1) (by omega) (by omega)) ?_
                 refine D ?_
                 have hT := (s_impl_DropMail (lwC code k) hx (lwV code (k + 90) ((lwC code k).mails.length + 1)))
                 have hR : dropMail (lwC code k) (lwV code (k + 90) ((lwC code k).mails.length + 1)) = lwR code k (lwC code k) := by unfold lwR; rw [if_neg c1, if_neg (by omega), if_neg (by omega), if_neg c6, if_pos c7]; try rfl
                 rw [hR] at hT
                 refine kD hT ?_
                 refine D ?_
                 refine cC (fun c10 => ?_) (fun c10 => ?_)
                 · skip
                   have hc0 : (lwR code k (lwC code k)).code = 0 := by simpa using c10
                   have hN : lwC code (k + 1) = (lwR code k (lwC code k)).cluster := if_pos hc0
                   have hSf : SafeC (lwR code k (lwC code k)).cluster := hN ▸ lwC_safe hb (k + 1)
                   refine D ?_
                   refine kRg (s_impl_SafeCluster (lwR code k (lwC code k)).cluster hSf) ?_
                   refine D ?_
                   refine lp_next (k + 1) [(73729,417793),(73730,417794),(73731,417795),(73732,417796)] ?_ ?_ ?_
                   · simp only [go_sem, hA] <;> and_intros <;> first | with_reducible exact rfl | (first | with_reducible exact rfl | omega | (rw [hN]; done) | (cases watch <;> rfl) | (refine int_eq ?_; omega) | (simp; done))
                   · omega
                   · omega
                 · skip
                   have hc0 : ¬ (lwR code k (lwC code k)).code = 0 := by simpa using c10
                   have hN : lwC code (k + 1) = lwC code k := if_neg hc0
                   refine D ?_
                   refine lp_next (k + 1) [] ?_ ?_ ?_
                   · simp only [go_sem, hA] <;> and_intros <;> first | with_reducible exact rfl | (first | with_reducible exact rfl | omega | (rw [hN]; done) | (cases watch <;> rfl) | (refine int_eq ?_; omega) | (simp; done))
                   · omega
                   · omega
               · skip
                 refine D ?_
                 refine cC (fun c8 => ?_) (fun c8 => ?_)
                 · skip
                   refine D ?_
                   refine kD (s_laws_lwAt code hb ((k : Int) + 90) (((lwC code k).mails.length : Int) + 1) (by omega) (by omega)) ?_
                   refine D ?_
                   have hT := (s_impl_CopyMail (lwC code k) hx (lwV code (k + 90) ((lwC code k).mails.length + 1)))
                   have hR : copyMail (lwC code k) (lwV code (k + 90) ((lwC code k).mails.length + 1)) = lwR code k (lwC code k) := by unfold lwR; rw [if_neg c1, if_neg (by omega), if_neg (by omega), if_neg c6, if_neg c7, if_pos c8]; try rfl
                   rw [hR] at hT
                   refine kD hT ?_
                   refine D ?_
                   refine cC (fun c10 => ?_) (fun c10 => ?_)
                   · skip
                     have hc0 : (lwR code k (lwC code k)).code = 0 := by simpa using c10
                     have hN : lwC code (k + 1) = (lwR code k (lwC code k)).cluster := if_pos hc0
                     have hSf : SafeC (lwR code k (lwC code k)).cluster := hN ▸ lwC_safe hb (k + 1)
                     refine D ?_
                     refine kRg (s_impl_SafeCluster (lwR code k (lwC code k)).cluster hSf) ?_
                     refine D ?_
                     refine lp_next (k + 1) [(73729,458753),(73730,458754),(73731,458755),(73732,458756)] ?_ ?_ ?_
                     · simp only [go_sem, hA] <;> and_intros <;> first | with_reducible exact rfl | (first | with_reducible exact rfl | omega | (rw [hN]; done) | (cases watch <;> rfl) | (refine int_eq ?_; omega) | (simp; done))
                     · omega
                     · omega
                   · skip
                     have hc0 : ¬ (lwR code k (lwC code k)).code = 0 := by simpa using c10
                     have hN : lwC code (k + 1) = lwC code k := if_neg hc0
                     refine D ?_
                     refine lp_next (k + 1) [] ?_ ?_ ?_
                     · simp only [go_sem, hA] <;> and_intros <;> first | with_reducible exact rfl | (first | with_reducible exact rfl | omega | (rw [hN]; done) | (cases watch <;> rfl) | (refine int_eq ?_; omega) | (simp; done))
                     · omega
                     · omega
                 · skip
                   refine D ?_
                   refine cC (fun c9 => ?_) (fun c9 => ?_)
                   · skip
                     refine D ?_
                     have hT := (s_impl_TimeoutAt (lwC code k) hx (lwV code (k + 60) (lwC code k).nodes.length))
                     have hR : atNode (lwC code k) (lwV code (k + 60) (lwC code k).nodes.length) (timeoutNode ((lwC code k).nodes.getD (lwV code (k + 60) (lwC code k).nodes.length).toNat zNode)) = lwR code k (lwC code k) := by unfold lwR; rw [if_neg c1, if_neg (by omega), if_neg (by omega), if_neg c6, if_neg c7, if_neg c8, if_pos (by omega)]; try rfl
                     rw [hR] at hT
                     refine kR hT ?_
                     refine D ?_
                     refine cC (fun c10 => ?_) (fun c10 => ?_)
                     · skip
                       have hc0 : (lwR code k (lwC code k)).code = 0 := by simpa using c10
                       have hN : lwC code (k + 1) = (lwR code k (lwC code k)).cluster := if_pos hc0
                       have hSf : SafeC (lwR code k (lwC code k)).cluster := hN ▸ lwC_safe hb (k + 1)
                       refine D ?_
                       refine kRg (s_impl_SafeCluster (lwR code k (lwC code k)).cluster hSf) ?_
                       refine D ?_
                       refine lp_next (k + 1) [(73729,208897),(73730,208898),(73731,208899),(73732,208900)] ?_ ?_ ?_
                       · simp only [go_sem, hA] <;> and_intros <;> first | with_reducible exact rfl | (first | with_reducible exact rfl | omega | (rw [hN]; done) | (cases watch <;> rfl) | (refine int_eq ?_; omega) | (simp; done))
                       · omega
                       · omega
                     · skip
                       have hc0 : ¬ (lwR code k (lwC code k)).code = 0 := by simpa using c10
                       have hN : lwC code (k + 1) = lwC code k := if_neg hc0
                       refine D ?_
                       refine lp_next (k + 1) [] ?_ ?_ ?_
                       · simp only [go_sem, hA] <;> and_intros <;> first | with_reducible exact rfl | (first | with_reducible exact rfl | omega | (rw [hN]; done) | (cases watch <;> rfl) | (refine int_eq ?_; omega) | (simp; done))
                       · omega
                       · omega
                   · skip
                     refine D ?_
                     refine kD (s_laws_lwAt code hb ((k : Int) + 90) ((lwC code k).mails.length) (by omega) (by omega)) ?_
                     refine D ?_
                     have hT := (s_impl_DeliverMail (lwC code k) hx (lwV code (k + 90) (lwC code k).mails.length))
                     have hR : deliverMail (lwC code k) (lwV code (k + 90) (lwC code k).mails.length) = lwR code k (lwC code k) := by unfold lwR; rw [if_neg c1, if_neg (by omega), if_neg (by omega), if_neg c6, if_neg c7, if_neg c8, if_neg (by omega)]; try rfl
                     rw [hR] at hT
                     refine kD hT ?_
                     refine D ?_
                     refine cC (fun c10 => ?_) (fun c10 => ?_)
                     · skip
                       have hc0 : (lwR code k (lwC code k)).code = 0 := by simpa using c10
                       have hN : lwC code (k + 1) = (lwR code k (lwC code k)).cluster := if_pos hc0
                       have hSf : SafeC (lwR code k (lwC code k)).cluster := hN ▸ lwC_safe hb (k + 1)
                       refine D ?_
                       refine kRg (s_impl_SafeCluster (lwR code k (lwC code k)).cluster hSf) ?_
                       refine D ?_
                       refine lp_next (k + 1) [(73729,237569),(73730,237570),(73731,237571),(73732,237572)] ?_ ?_ ?_
                       · simp only [go_sem, hA] <;> and_intros <;> first | with_reducible exact rfl | (first | with_reducible exact rfl | omega | (rw [hN]; done) | (cases watch <;> rfl) | (refine int_eq ?_; omega) | (simp; done))
                       · omega
                       · omega
                     · skip
                       have hc0 : ¬ (lwR code k (lwC code k)).code = 0 := by simpa using c10
                       have hN : lwC code (k + 1) = lwC code k := if_neg hc0
                       refine D ?_
                       refine lp_next (k + 1) [] ?_ ?_ ?_
                       · simp only [go_sem, hA] <;> and_intros <;> first | with_reducible exact rfl | (first | with_reducible exact rfl | omega | (rw [hN]; done) | (cases watch <;> rfl) | (refine int_eq ?_; omega) | (simp; done))
                       · omega
                       · omega
 · skip
   obtain rfl : k = 50 := by omega
   refine D ?_
   exact E trivial
end
end Go.H
end
