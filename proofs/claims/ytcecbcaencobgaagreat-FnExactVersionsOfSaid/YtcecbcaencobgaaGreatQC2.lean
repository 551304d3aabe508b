/- What the functions that several laws reach compute, each by its code, against pure functions. Conditions: those that each theorem states. -/
import Derived.Test.YtcecbcaencobgaaGreatQC1
section
set_option maxRecDepth 100000
set_option maxHeartbeats 4000000
set_option cbv.maxSteps 4000000
set_option linter.unusedVariables false
set_option linter.unusedSimpArgs false
namespace Go.H
open Go Go.Proofs.Tryz
variable [Inv prog]
theorem s_spec_l5Apply (c : Config) (hx1 : limG 2097151 c) (K : CfOk c) (x_ : Cmd) (hcf : cmdFault x_ = 0) : SemX prog 73 [aS (eConfig false c), aS (eCmd x_)] [] [.agg (eConfigResult true (applyR c x_))] [] := by
 refine goF [(76, ⟨some 1, none, none, none⟩)] [] [] func73 ?_
 have hx : limG 2097152 c := limG_mono (by omega) hx1
 obtain ⟨hb, hv, hV⟩ := id hx
 have hk9 : 1 ≤ x_.kind ∧ x_.kind ≤ 9 := by
   unfold cmdFault at hcf
   cases h : inR x_.kind 1 9 with
   | false => simp [h] at hcf
   | true => simpa [inR] using h
 have hk0 := K.v0
 have hk1 := K.v1
 refine D ?_
 refine cC (fun c0 => ?_) (fun c0 => ?_)
 · skip
   refine D ?_
   refine E ?_
   have he : applyR c x_ = badC 3 := by unfold applyR; grind
   simp [he, badC, zConfig]
 · skip
   refine D ?_
   refine cC (fun c1 => ?_) (fun c1 => ?_)
   · skip
     refine D ?_
     refine E ?_
     have he : applyR c x_ = badC 9 := by unfold applyR; grind
     simp [he, badC, zConfig]
   · skip
     refine D ?_
     refine kR (s_spec_l5Copy c hx) ?_
     refine D ?_
     refine kR (s_spec_l1In x_.kind 5 8) ?_
     refine D ?_
     refine cC (fun c2 => ?_) (fun c2 => ?_)
     · skip
       have hin : inR x_.kind 5 8 = true := by simpa using c2
       have hkd : x_.kind = 5 ∨ x_.kind = 6 ∨ x_.kind = 7 ∨ x_.kind = 8 := by simp [inR] at hin; omega
       have htu : turned c x_ = turnV c x_ := by unfold turned; rw [if_pos hin]
       refine D ?_
       refine kRk [24576] [] [98305, 98306] (s_spec_l5TurnVip c hx K x_ hkd) ?_
       refine D ?_
       refine cC (fun c3 => ?_) (fun c3 => ?_)
       · skip
         refine D ?_
         refine E ?_
         have he : applyR c x_ = badC (turnV c x_).1 := by unfold applyR; grind
         simp [he, badC, zConfig]
       · skip
         refine D ?_
         refine E ?_
         have he : applyR c x_ = ⟨0, { (turnV c x_).2 with version := c.version + 1 }⟩ := by unfold applyR; grind
         simp [he, badC, zConfig]
     · skip
       have hin : inR x_.kind 5 8 = false := by simpa using c2
       have hkd : x_.kind = 1 ∨ x_.kind = 2 ∨ x_.kind = 3 ∨ x_.kind = 4 ∨ x_.kind = 9 := by simp [inR] at hin; omega
       have htu : turned c x_ = turnB c x_ := by unfold turned; rw [if_neg (by rw [hin]; simp)]
       refine D ?_
       refine kRk [24576] [] [98305, 98306] (s_spec_l5Turn c hx K x_ hkd) ?_
       refine D ?_
       refine cC (fun c3 => ?_) (fun c3 => ?_)
       · skip
         refine D ?_
         refine E ?_
         have he : applyR c x_ = badC (turnB c x_).1 := by unfold applyR; grind
         simp [he, badC, zConfig]
       · skip
         refine D ?_
         refine E ?_
         have he : applyR c x_ = ⟨0, { (turnB c x_).2 with version := c.version + 1 }⟩ := by unfold applyR; grind
         simp [he, badC, zConfig]
end Go.H
end
