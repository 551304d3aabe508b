/- laws.FnExactTakeUpdate is proved: at every argument the law returns true, and what it was handed is as it was. Conditions: those of the given statement alone. -/
import Derived.Test.YtcecbcaencobgaaGreatTeW1
import Derived.Test.YtcecbcaencobgaaGreatRows
import Derived.WalkKit
import Derived.ProofKit
import Derived.OpenShut
import Derived.ChangeOld
import Derived.Below
section
namespace Go.Proofs.YtcecbcaencobgaaGreat.fnExactTakeUpdate
open Go.ChangeShapes Go.WideShapes Go.ChangeAt Go.RowKit
set_option linter.unusedVariables false
set_option linter.unusedSimpArgs false
theorem own : ownKnob Tryz.prog.godebug = none := by kernel_rfl
theorem laidOut : laidOutB Tryz.prog = true := by kernel_rfl
instance inv : H.Inv Tryz.prog := ⟨0, fun _ => True, fun _ _ => Nat.zero_le _, fun _ _ _ _ _ => trivial, by kernel_rfl⟩
set_option maxRecDepth 100000 in
theorem contract (Ht : Type) (enc : TypeId × Value → Ht) (W : World) (base : Nat) (args : Array Value) (ds gs : List (DataW Ht)) (before : List MemPlace)
    (hval : ∀ (j : Nat) t v, Tryz.f8.params[j]? = some t → args[j]? = some v → Value.okWide Tryz.prog W .any base t v)
    (hW : DataW.Whole enc Tryz.prog Tryz.f8.params.toList Rows.fnExactTakeUpdateSpec.vars false W args.toList ds gs before) :
    Calls Tryz.prog 8 args W fun e W' => ∃ v, e = .returned v ∧ Rows.fnExactTakeUpdateSpec.post enc Tryz.prog Tryz.f8 false true false false W args v W' := by
  have hW' := hW
  obtain ⟨p, q, hZ0, hV, rfl, hfz, hnd⟩ := hW
  have hA : DataW.TrodAll enc Tryz.prog W 0 (fun _ => true) true Tryz.f8.params.toList args.toList ds p := hZ0
  rw [Tryz.params8] at hA hval
  obtain ⟨v0, vs0, d0, ds0, p0, q0, e0, rfl, rfl, h0, hA0⟩ := trodAll_cons hA
  obtain ⟨v1, vs1, d1, ds1, p1, q1, rfl, rfl, rfl, h1, hA1⟩ := trodAll_cons hA0
  obtain ⟨rfl, rfl, rfl⟩ := trodAll_nil hA1
  obtain rfl : args = #[v0, v1] := by cases args; simp_all
  obtain ⟨rfl, rfl⟩ := trodVars_none hV
  have lt0 : ∀ x ∈ p0, x.block < W.heap.size := by obtain ⟨m, hm⟩ := h0; exact DataW.trod_lt m _ _ _ hm
  obtain ⟨cs0, rfl, hcs0⟩ := okWide_struct Tryz.underlying94 (hval 0 94 v0 rfl rfl)
  obtain ⟨x0, hx0, hq0⟩ : ∃ x, H.RoL W (H.okW W) (H.eWatch false x) cs0.toList ∧ H.qWatch x := by
    obtain ⟨fuel, hf⟩ := h0
    exact H.of_94 hf
  have lt1 : ∀ x ∈ p1, x.block < W.heap.size := by obtain ⟨m, hm⟩ := h1; exact DataW.trod_lt m _ _ _ hm
  obtain ⟨cs1, rfl, hcs1⟩ := okWide_struct Tryz.underlying96 (hval 1 96 v1 rfl rfl)
  obtain ⟨x1, hx1, hq1⟩ : ∃ x, H.RoL W (H.okW W) (H.eUpdate false x) cs1.toList ∧ H.qUpdate x := by
    obtain ⟨fuel, hf⟩ := h1
    exact H.of_96 hf
  have hcall := @H.s_laws_FnExactTakeUpdate inv x0 hq0.1 hq0.2.1 (fun i hi => hq0.2.2 _ (H.getD_mem H.zVip hi)) x1 hq1.1.1 hq1.1.2.1 (fun i hi => hq1.1.2.2 _ (H.getD_mem H.zVip hi)) hq1.2 W (H.okW W) (fun _ => False) (fun _ => False) [] [.agg cs0, .agg cs1] trivial (fun _ h => h) (fun _ h => by rcases h with h | h <;> exact h.elim) (fun _ h => h.elim)
    (by
      simp only [H.ARepL, H.aS, H.aI, H.aT, H.ARep]
      exact ⟨_, _, fun _ => False, fun _ => False, rfl, fun _ h => h.elim, fun _ h => h, ⟨cs0.toList, by simp, H.CRepL_ro hx0 rfl⟩, ⟨_, _, fun _ => False, fun _ => False, rfl, fun _ h => h.elim, fun _ h => h, ⟨cs1.toList, by simp, H.CRepL_ro hx1 rfl⟩, rfl⟩⟩) rfl
  refine hcall.mono fun en W' ⟨v, fz', Sr, So', hp⟩ => ?_
  have he := hp.ret
  subst he
  obtain ⟨vs, hv, hvv⟩ := hp.res
  simp only [H.RRepL, H.RRep, H.rB, H.OwT] at hv
  obtain ⟨u, us, S1, S2, rfl, _, _, rfl, rfl⟩ := hv
  obtain rfl : v = .bool true := hvv
  have bel : Below W.heap.size W W' := ⟨hp.os, hp.tape, hp.output, hp.size, fun k hk => hp.same k hk (fun h => by rcases h with h | h <;> exact h)⟩
  exact ⟨_, rfl, _, _, _, [], _, [], hW', trodAll_mk1 (shut_bool Tryz.underlying4 _), trodAll_cons_mk (Below.trod laidOut (by kernel_rfl) (of_decide_eq_true (by kernel_rfl)) h0 bel lt0) ( trodAll_cons_mk (Below.trod laidOut (by kernel_rfl) (of_decide_eq_true (by kernel_rfl)) h1 bel lt1) ( trodAll_mk0)), rfl, bel.frame _, fun h => by cases h⟩
set_option maxRecDepth 100000 in
theorem lifted (os : Os) (started : os.Started) (Ht : Type) (enc : TypeId × Value → Ht) :
    ReturnsInHanded {} Tryz.checked os 8 .any (Rows.fnExactTakeUpdateSpec.pre6 enc Tryz.prog Tryz.f8 Rows.fnExactTakeUpdateRow.domain false) (Rows.fnExactTakeUpdateSpec.post enc Tryz.prog Tryz.f8 false true false false) := by
  refine returnsInHanded_of_change (C := Tryz.checked) own started (by kernel_rfl) Tryz.func8
    (ChangeSpec.witness6 (enc := enc) (C := Tryz.checked) false ⟨#[], #[.agg #[.bool false, .int .i64 0, .slice none 0 0, .slice none 0 0], .agg #[.int .i64 0, .int .i64 0, .bool false, .int .i64 0, .slice none 0 0, .slice none 0 0, .slice none 0 0]], []⟩ 8 (by kernel_rfl) (by kernel_rfl) (by kernel_rfl) (by kernel_rfl)) ?_
  intro W base args ds gs before hval hW _ _
  exact contract Ht enc W base args ds gs before hval hW
theorem said : Rows.FnExactTakeUpdateSaid :=
  OpenClaim.holds_of_wide 8 Tryz.f8 rfl rfl rfl rfl rfl rfl rfl ⟨rfl, rfl, rfl, rfl, rfl⟩ rfl rfl rfl rfl rfl (by kernel_rfl) Tryz.func8 (by kernel_rfl)
    (of_decide_eq_true (by kernel_rfl)) (by unfold Func.isWrapper; first | (rw [if_pos (by decide +kernel)]; kernel_rfl) | (rw [if_neg (by decide +kernel)]; exact ⟨rfl, rfl⟩))
    (fun os started Ht enc _ => lifted os started Ht enc)
#print axioms said
end Go.Proofs.YtcecbcaencobgaaGreat.fnExactTakeUpdate
end
