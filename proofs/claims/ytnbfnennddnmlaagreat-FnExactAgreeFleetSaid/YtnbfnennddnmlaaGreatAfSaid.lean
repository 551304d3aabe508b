/- laws.FnExactAgreeFleet is proved: at every argument the law returns true, and what it was handed is as it was. Conditions: those of the given statement alone. -/
import Derived.Test.YtnbfnennddnmlaaGreatAfW1
import Derived.Test.YtnbfnennddnmlaaGreatRows
import Derived.WalkKit
import Derived.ProofKit
import Derived.OpenShut
import Derived.ChangeOld
import Derived.Below
section
namespace Go.Proofs.YtnbfnennddnmlaaGreat.fnExactAgreeFleet
open Go.ChangeShapes Go.WideShapes Go.ChangeAt Go.RowKit
set_option linter.unusedVariables false
set_option linter.unusedSimpArgs false
theorem own : ownKnob Tryz.prog.godebug = none := by kernel_rfl
theorem laidOut : laidOutB Tryz.prog = true := by kernel_rfl
instance inv : H.Inv Tryz.prog := ⟨0, fun _ => True, fun _ _ => Nat.zero_le _, fun _ _ _ _ _ => trivial, by kernel_rfl⟩
set_option maxRecDepth 100000 in
theorem contract (Ht : Type) (enc : TypeId × Value → Ht) (W : World) (base : Nat) (args : Array Value) (ds gs : List (DataW Ht)) (before : List MemPlace)
    (hval : ∀ (j : Nat) t v, Tryz.f7.params[j]? = some t → args[j]? = some v → Value.okWide Tryz.prog W .any base t v)
    (hW : DataW.Whole enc Tryz.prog Tryz.f7.params.toList Rows.fnExactAgreeFleetSpec.vars false W args.toList ds gs before) :
    Calls Tryz.prog 7 args W fun e W' => ∃ v, e = .returned v ∧ Rows.fnExactAgreeFleetSpec.post enc Tryz.prog Tryz.f7 false true false false W args v W' := by
  have hW' := hW
  obtain ⟨p, q, hZ0, hV, rfl, hfz, hnd⟩ := hW
  have hA : DataW.TrodAll enc Tryz.prog W 0 (fun _ => true) true Tryz.f7.params.toList args.toList ds p := hZ0
  rw [Tryz.params7] at hA hval
  obtain ⟨v0, vs0, d0, ds0, p0, q0, e0, rfl, rfl, h0, hA0⟩ := trodAll_cons hA
  obtain ⟨v1, vs1, d1, ds1, p1, q1, rfl, rfl, rfl, h1, hA1⟩ := trodAll_cons hA0
  obtain ⟨rfl, rfl, rfl⟩ := trodAll_nil hA1
  obtain rfl : args = #[v0, v1] := by cases args; simp_all
  obtain ⟨rfl, rfl⟩ := trodVars_none hV
  have lt0 : ∀ x ∈ p0, x.block < W.heap.size := by obtain ⟨m, hm⟩ := h0; exact DataW.trod_lt m _ _ _ hm
  obtain ⟨cs0, rfl, hcs0⟩ := okWide_struct Tryz.underlying60 (hval 0 60 v0 rfl rfl)
  obtain ⟨x0, hx0, hq0⟩ : ∃ x, H.RoL W (H.okW W) (H.eFleet false x) cs0.toList ∧ H.qFleet x := by
    obtain ⟨fuel, hf⟩ := h0
    exact H.of_60 hf
  have lt1 : ∀ x ∈ p1, x.block < W.heap.size := by obtain ⟨m, hm⟩ := h1; exact DataW.trod_lt m _ _ _ hm
  obtain ⟨cs1, rfl, hcs1⟩ := okWide_struct Tryz.underlying85 (hval 1 85 v1 rfl rfl)
  obtain ⟨x1, hx1, hq1⟩ : ∃ x, H.RoL W (H.okW W) (H.eEntry x) cs1.toList ∧ (fun _ => True) x := by
    obtain ⟨fuel, hf⟩ := h1
    exact H.of_85 hf
  have hcall := @H.s_laws_FnExactAgreeFleet inv x0 hq0 x1 W (H.okW W) (fun _ => False) (fun _ => False) [] [.agg cs0, .agg cs1] trivial (fun _ h => h) (fun _ h => by rcases h with h | h <;> exact h.elim) (fun _ h => h.elim)
    (by
      simp only [H.ARepL, H.aS, H.aI, H.aT, H.ARep]
      exact ⟨_, _, fun _ => False, fun _ => False, rfl, fun _ h => h.elim, fun _ h => h, ⟨cs0.toList, by simp, H.CRepL_ro hx0 rfl⟩, ⟨_, _, fun _ => False, fun _ => False, rfl, fun _ h => h.elim, fun _ h => h, ⟨cs1.toList, by simp, H.CRepL_ro hx1 rfl⟩, rfl⟩⟩) rfl
  refine hcall.mono fun en W' ⟨v, fz', Sr, So', hp⟩ => ?_
  have he := hp.ret
  subst he
  obtain ⟨vs, hv, hvv⟩ := hp.res
  simp only [H.RRepL, H.RRep, H.rB, H.OwT] at hv
  obtain ⟨u, us, S1, S2, rfl, _, _, rfl, rfl⟩ := hv
  obtain rfl : v = .bool true := hvv
  have bel : Below W.heap.size W W' := ⟨hp.os, hp.tape, hp.output, hp.size, fun k hk => hp.same k hk (fun h => by rcases h with h | h <;> exact h)⟩
  exact ⟨_, rfl, _, _, _, [], _, [], hW', trodAll_mk1 (shut_bool Tryz.underlying4 _), trodAll_cons_mk (Below.trod laidOut (by kernel_rfl) (of_decide_eq_true (by kernel_rfl)) h0 bel lt0) ( trodAll_cons_mk (Below.trod laidOut (by kernel_rfl) (of_decide_eq_true (by kernel_rfl)) h1 bel lt1) ( trodAll_mk0)), rfl, bel.frame _, fun h => by cases h⟩
set_option maxRecDepth 100000 in
theorem lifted (os : Os) (started : os.Started) (Ht : Type) (enc : TypeId × Value → Ht) :
    ReturnsInHanded {} Tryz.checked os 7 .any (Rows.fnExactAgreeFleetSpec.pre6 enc Tryz.prog Tryz.f7 Rows.fnExactAgreeFleetRow.domain false) (Rows.fnExactAgreeFleetSpec.post enc Tryz.prog Tryz.f7 false true false false) := by
  refine returnsInHanded_of_change (C := Tryz.checked) own started (by kernel_rfl) Tryz.func7
    (ChangeSpec.witness6 (enc := enc) (C := Tryz.checked) false ⟨#[], #[.agg #[.slice none 0 0, .slice none 0 0], .agg #[.int .i64 0, .int .i64 0, .int .i64 0, .int .i64 0, .int .i64 0, .int .i64 0, .int .i64 0, .int .i64 0, .int .i64 0]], []⟩ 8 (by kernel_rfl) (by kernel_rfl) (by kernel_rfl) (by kernel_rfl)) ?_
  intro W base args ds gs before hval hW _ _
  exact contract Ht enc W base args ds gs before hval hW
theorem j1 : mapsRowed Tryz.prog = true := by kernel_rfl
theorem j2 : Tryz.prog.stops = [] := by kernel_rfl
theorem j3 : Tryz.prog.stopKnobs = [] := by kernel_rfl
theorem j4 : Tryz.prog.inPlace 7 = Rows.fnExactAgreeFleetRow.inPlace := by kernel_rfl
theorem j5 : Tryz.prog.unfollowed 7 = Rows.fnExactAgreeFleetRow.unfollowed := by kernel_rfl
theorem j6 : Tryz.prog.recurses 7 = Rows.fnExactAgreeFleetRow.recurses := by kernel_rfl
theorem j7 : Tryz.prog.varsNamed 7 = Rows.fnExactAgreeFleetRow.named := by kernel_rfl
theorem j8 : Tryz.prog.plainKeys = Rows.fnExactAgreeFleetRow.plainKeys := by kernel_rfl
theorem j9 : Tryz.prog.stopsHeard = true := by kernel_rfl
theorem j10 : Tryz.prog.mayEnter = true := by kernel_rfl
theorem j11 : Tryz.prog.liftsFinal = Rows.fnExactAgreeFleetRow.lifted := by kernel_rfl
theorem j12 : Tryz.prog.make = some Rows.fnExactAgreeFleetRow.make := by kernel_rfl
set_option maxRecDepth 100000 in
theorem closed : joinedFacts Tryz.prog 7 Tryz.f7 Rows.fnExactAgreeFleetSpec Rows.fnExactAgreeFleetRow = true := by
  unfold joinedFacts
  rw [laidOut, j1, j2, j3, j4, j5, j6, j7, j8, j9, j10, j11, j12]
  kernel_rfl
theorem said : Rows.FnExactAgreeFleetSaid :=
  OpenClaim.holds_of_wide 7 Tryz.f7 rfl rfl rfl rfl rfl rfl rfl ⟨rfl, rfl, rfl, rfl, rfl⟩ rfl rfl rfl rfl rfl (by kernel_rfl) Tryz.func7 closed
    (of_decide_eq_true (by kernel_rfl)) (by unfold Func.isWrapper; first | (rw [if_pos (by decide +kernel)]; kernel_rfl) | (rw [if_neg (by decide +kernel)]; exact ⟨rfl, rfl⟩))
    (fun os started Ht enc _ => lifted os started Ht enc)
#print axioms said
end Go.Proofs.YtnbfnennddnmlaaGreat.fnExactAgreeFleet
end
