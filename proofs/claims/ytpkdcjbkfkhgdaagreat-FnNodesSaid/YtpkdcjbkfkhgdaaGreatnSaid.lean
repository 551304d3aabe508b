/- laws.FnNodes is proved: at every argument the law returns true, and what it was handed is as it was. Conditions: those of the given statement alone. -/
import Derived.Test.YtpkdcjbkfkhgdaaGreatnW1
import Derived.Test.YtpkdcjbkfkhgdaaGreatRows
import Derived.WalkKit
import Derived.ProofKit
import Derived.OpenShut
import Derived.ChangeOld
import Derived.Below
section
namespace Go.Proofs.YtpkdcjbkfkhgdaaGreat.fnNodes
open Go.ChangeShapes Go.WideShapes Go.ChangeAt Go.RowKit
set_option linter.unusedVariables false
set_option linter.unusedSimpArgs false
theorem own : ownKnob Tryz.prog.godebug = none := by kernel_rfl
theorem laidOut : laidOutB Tryz.prog = true := by kernel_rfl
instance inv : H.Inv Tryz.prog := ⟨0, fun _ => True, fun _ _ => Nat.zero_le _, fun _ _ _ _ _ => trivial, by kernel_rfl⟩
set_option maxRecDepth 100000 in
theorem contract (Ht : Type) (enc : TypeId × Value → Ht) (W : World) (base : Nat) (args : Array Value) (ds gs : List (DataW Ht)) (before : List MemPlace)
    (hval : ∀ (j : Nat) t v, Tryz.f5.params[j]? = some t → args[j]? = some v → Value.okWide Tryz.prog W .any base t v)
    (hW : DataW.Whole enc Tryz.prog Tryz.f5.params.toList Rows.fnNodesSpec.vars false W args.toList ds gs before) :
    Calls Tryz.prog 5 args W fun e W' => ∃ v, e = .returned v ∧ Rows.fnNodesSpec.post enc Tryz.prog Tryz.f5 false true false false W args v W' := by
  have hW' := hW
  obtain ⟨p, q, hZ0, hV, rfl, hfz, hnd⟩ := hW
  have hA : DataW.TrodAll enc Tryz.prog W 0 (fun _ => true) true Tryz.f5.params.toList args.toList ds p := hZ0
  rw [Tryz.params5] at hA hval
  obtain ⟨v0, vs0, d0, ds0, p0, q0, e0, rfl, rfl, h0, hA0⟩ := trodAll_cons hA
  obtain ⟨rfl, rfl, rfl⟩ := trodAll_nil hA0
  obtain rfl : args = #[v0] := by cases args; simp_all
  obtain ⟨rfl, rfl⟩ := trodVars_none hV
  have lt0 : ∀ x ∈ p0, x.block < W.heap.size := by obtain ⟨m, hm⟩ := h0; exact DataW.trod_lt m _ _ _ hm
  obtain ⟨n0, l0, c0, rfl⟩ := okWide_slice Tryz.underlying22 (hval 0 22 v0 rfl rfl)
  have h0_ := h0
  obtain ⟨fuel0, hf0⟩ := h0_
  obtain ⟨x0, hx0, hq0, hy0⟩ := H.ofs_22 hf0
  obtain ⟨_, _, es0, hr0, _⟩ := (by simpa only [H.RoL] using hx0 : ∃ u us, _ = u :: us ∧ H.RoT _ _ _ u ∧ us = [])
  cases es0
  have hcall := @H.s_laws_FnNodes inv x0 hq0 hy0 W (H.okW W) (fun _ => False) (fun _ => False) [] [.slice n0 l0 c0] trivial (fun _ h => h) (fun _ h => by rcases h with h | h <;> exact h.elim) (fun _ h => h.elim)
    (by
      simp only [H.ARepL, H.aS, H.aI, H.aT, H.ARep]
      exact ⟨_, _, fun _ => False, fun _ => False, rfl, fun _ h => h.elim, fun _ h => h, (by simp only [H.CRep, H.OwT]; exact hr0), rfl⟩) rfl
  refine hcall.mono fun en W' ⟨v, fz', Sr, So', hp⟩ => ?_
  have he := hp.ret
  subst he
  obtain ⟨vs, hv, hvv⟩ := hp.res
  simp only [H.RRepL, H.RRep, H.rB, H.OwT] at hv
  obtain ⟨u, us, S1, S2, rfl, _, _, rfl, rfl⟩ := hv
  obtain rfl : v = .bool true := hvv
  have bel : Below W.heap.size W W' := ⟨hp.os, hp.tape, hp.output, hp.size, fun k hk => hp.same k hk (fun h => by rcases h with h | h <;> exact h)⟩
  exact ⟨_, rfl, _, _, _, [], _, [], hW', trodAll_mk1 (shut_bool Tryz.underlying4 _), trodAll_cons_mk (Below.trod laidOut (by kernel_rfl) (of_decide_eq_true (by kernel_rfl)) h0 bel lt0) ( trodAll_mk0), rfl, bel.frame _, fun h => by cases h⟩
set_option maxRecDepth 100000 in
theorem lifted (os : Os) (started : os.Started) (Ht : Type) (enc : TypeId × Value → Ht) :
    ReturnsInHanded {} Tryz.checked os 5 .any (Rows.fnNodesSpec.pre6 enc Tryz.prog Tryz.f5 Rows.fnNodesRow.domain false) (Rows.fnNodesSpec.post enc Tryz.prog Tryz.f5 false true false false) := by
  refine returnsInHanded_of_change (C := Tryz.checked) own started (by kernel_rfl) Tryz.func5
    (ChangeSpec.witness6 (enc := enc) (C := Tryz.checked) false ⟨#[], #[.slice none 0 0], []⟩ 8 (by kernel_rfl) (by kernel_rfl) (by kernel_rfl) (by kernel_rfl)) ?_
  intro W base args ds gs before hval hW _ _
  exact contract Ht enc W base args ds gs before hval hW
theorem j1 : mapsRowed Tryz.prog = true := by kernel_rfl
theorem j2 : Tryz.prog.stops = [] := by kernel_rfl
theorem j3 : Tryz.prog.stopKnobs = [] := by kernel_rfl
theorem j4 : Tryz.prog.inPlace 5 = Rows.fnNodesRow.inPlace := by kernel_rfl
theorem j5 : Tryz.prog.unfollowed 5 = Rows.fnNodesRow.unfollowed := by kernel_rfl
theorem j6 : Tryz.prog.recurses 5 = Rows.fnNodesRow.recurses := by kernel_rfl
theorem j7 : Tryz.prog.varsNamed 5 = Rows.fnNodesRow.named := by kernel_rfl
theorem j8 : Tryz.prog.plainKeys = Rows.fnNodesRow.plainKeys := by kernel_rfl
theorem j9 : Tryz.prog.stopsHeard = true := by kernel_rfl
theorem j10 : Tryz.prog.mayEnter = true := by kernel_rfl
theorem j11 : Tryz.prog.liftsFinal = Rows.fnNodesRow.lifted := by kernel_rfl
theorem j12 : Tryz.prog.make = some Rows.fnNodesRow.make := by kernel_rfl
set_option maxRecDepth 100000 in
theorem closed : joinedFacts Tryz.prog 5 Tryz.f5 Rows.fnNodesSpec Rows.fnNodesRow = true := by
  unfold joinedFacts
  rw [laidOut, j1, j2, j3, j4, j5, j6, j7, j8, j9, j10, j11, j12]
  kernel_rfl
theorem said : Rows.FnNodesSaid :=
  OpenClaim.holds_of_wide 5 Tryz.f5 rfl rfl rfl rfl rfl rfl rfl ⟨rfl, rfl, rfl, rfl, rfl⟩ rfl rfl rfl rfl rfl (by kernel_rfl) Tryz.func5 closed
    (of_decide_eq_true (by kernel_rfl)) (by unfold Func.isWrapper; first | (rw [if_pos (by decide +kernel)]; kernel_rfl) | (rw [if_neg (by decide +kernel)]; exact ⟨rfl, rfl⟩))
    (fun os started Ht enc _ => lifted os started Ht enc)
#print axioms said
end Go.Proofs.YtpkdcjbkfkhgdaaGreat.fnNodes
end
