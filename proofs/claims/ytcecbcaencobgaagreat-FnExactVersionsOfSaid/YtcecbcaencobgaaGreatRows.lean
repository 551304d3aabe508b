/-
  No cell of these rows narrows 'for every input' (looked for: loops, veiled, ifaces, maps, wideKeys, modest, calm, conditions, laid).
  DERIVED. THE GIVEN ROWS OF THIS SEAT. 7 by the template 'for every input the law returns true; each argument reads behind the call as it read before'; 0 by the template 'total and deterministic' (their statements: YtcecbcaencobgaaGreatTotals.lean).
  GIVEN WITH THE SEED: the statements are not yours to turn. If you find one false, say at which input.
  Laid BY PROGRAM, IN A SANDBOX (cutbox-rows.mjs): the forced cells as the released guide's own fill.sh prints them over the translation 48140c70fb9c8b8d… (all of the seat's roots in one cut). By AI agents, Wed Nov 11 2026. No macro, syntax, notation, axiom, sorry.
-/
import Derived.Test.YtcecbcaencobgaaGreatChecked
import GoSem.Claim
import GoSem.ClaimJoined
import GoSem.ClaimMapViews
import Derived.JoinedTies
import Derived.KernelRfl
namespace Go.Proofs.YtcecbcaencobgaaGreat
/- THE CELL 'sum', in the pinned program and in every row, IS THE sha256 OF THE DUMP (.gsa) THAT YtcecbcaencobgaaGreatProg.lean LOADS. Nothing in Lean hashes anything: it is a label: what it is worth is what the hold of that sum in a sandbox is worth. -/
noncomputable def Tryz.pinned : Pinned := { name := "ytcecbcaencobgaagreat", sum := "48140c70fb9c8b8d84a3f8c3a2a4714433386828f476d4f77e9e34df80f6bf22", checked := Tryz.checked }
namespace Rows
def none {H : Type} : Left H := { results := [], args := [] }

/-- 'laws.FnExactApplyCmd': WHATEVER THE INPUT: true; the input reads as it did. -/
def fnExactApplyCmdSpec : ChangeSpec := { name := "fnExactApplyCmd", fn := fun _ => fun
  | [d1, d2] => { results := [.lit (.bool true)], args := [d1, d2] }
  | _ => none }
def fnExactApplyCmdRow : OpenClaim := { program := "ytcecbcaencobgaagreat", sum := "48140c70fb9c8b8d84a3f8c3a2a4714433386828f476d4f77e9e34df80f6bf22", func := "loop.example/g00222/laws.FnExactApplyCmd", spec := "fnExactApplyCmd", inPlace := ["slices.overlaps[int64]"], unfollowed := true, recurses := true, apart := false }
def FnExactApplyCmdSaid : Prop := fnExactApplyCmdRow.holds Tryz.pinned (OpenSpec.ofChange fnExactApplyCmdSpec)

/-- ITS FALSE NEIGHBOUR: 'it returns false'. Refute it at one input. -/
def fnExactApplyCmdWrong : ChangeSpec := { name := "fnExactApplyCmd", fn := fun _ => fun
  | [d1, d2] => { results := [.lit (.bool false)], args := [d1, d2] }
  | _ => none }
def FnExactApplyCmdWrongFalsely : Prop := fnExactApplyCmdRow.holds Tryz.pinned (OpenSpec.ofChange fnExactApplyCmdWrong)

/-- 'laws.FnExactStepUpdate': WHATEVER THE INPUT: true; the input reads as it did. -/
def fnExactStepUpdateSpec : ChangeSpec := { name := "fnExactStepUpdate", fn := fun _ => fun
  | [d1, d2] => { results := [.lit (.bool true)], args := [d1, d2] }
  | _ => none }
def fnExactStepUpdateRow : OpenClaim := { program := "ytcecbcaencobgaagreat", sum := "48140c70fb9c8b8d84a3f8c3a2a4714433386828f476d4f77e9e34df80f6bf22", func := "loop.example/g00222/laws.FnExactStepUpdate", spec := "fnExactStepUpdate", inPlace := ["slices.overlaps[int64]"], unfollowed := true, recurses := true, apart := false }
def FnExactStepUpdateSaid : Prop := fnExactStepUpdateRow.holds Tryz.pinned (OpenSpec.ofChange fnExactStepUpdateSpec)

/-- ITS FALSE NEIGHBOUR: 'it returns false'. Refute it at one input. -/
def fnExactStepUpdateWrong : ChangeSpec := { name := "fnExactStepUpdate", fn := fun _ => fun
  | [d1, d2] => { results := [.lit (.bool false)], args := [d1, d2] }
  | _ => none }
def FnExactStepUpdateWrongFalsely : Prop := fnExactStepUpdateRow.holds Tryz.pinned (OpenSpec.ofChange fnExactStepUpdateWrong)

/-- 'laws.FnExactVersionsOf': WHATEVER THE INPUT: true; the input reads as it did. -/
def fnExactVersionsOfSpec : ChangeSpec := { name := "fnExactVersionsOf", fn := fun _ => fun
  | [d] => { results := [.lit (.bool true)], args := [d] }
  | _ => none }
def fnExactVersionsOfRow : OpenClaim := { program := "ytcecbcaencobgaagreat", sum := "48140c70fb9c8b8d84a3f8c3a2a4714433386828f476d4f77e9e34df80f6bf22", func := "loop.example/g00222/laws.FnExactVersionsOf", spec := "fnExactVersionsOf", inPlace := ["slices.overlaps[int64]", "slices.overlaps[loop.example/g00222/impl.Session]"], unfollowed := true, recurses := true, apart := false }
def FnExactVersionsOfSaid : Prop := fnExactVersionsOfRow.holds Tryz.pinned (OpenSpec.ofChange fnExactVersionsOfSpec)

/-- ITS FALSE NEIGHBOUR: 'it returns false'. Refute it at one input. -/
def fnExactVersionsOfWrong : ChangeSpec := { name := "fnExactVersionsOf", fn := fun _ => fun
  | [d] => { results := [.lit (.bool false)], args := [d] }
  | _ => none }
def FnExactVersionsOfWrongFalsely : Prop := fnExactVersionsOfRow.holds Tryz.pinned (OpenSpec.ofChange fnExactVersionsOfWrong)

/-- 'laws.FnExactReplayEntries': WHATEVER THE INPUT: true; the input reads as it did. -/
def fnExactReplayEntriesSpec : ChangeSpec := { name := "fnExactReplayEntries", fn := fun _ => fun
  | [d] => { results := [.lit (.bool true)], args := [d] }
  | _ => none }
def fnExactReplayEntriesRow : OpenClaim := { program := "ytcecbcaencobgaagreat", sum := "48140c70fb9c8b8d84a3f8c3a2a4714433386828f476d4f77e9e34df80f6bf22", func := "loop.example/g00222/laws.FnExactReplayEntries", spec := "fnExactReplayEntries", inPlace := ["slices.overlaps[int64]", "slices.overlaps[loop.example/g00222/impl.Session]"], unfollowed := true, recurses := true, apart := false }
def FnExactReplayEntriesSaid : Prop := fnExactReplayEntriesRow.holds Tryz.pinned (OpenSpec.ofChange fnExactReplayEntriesSpec)

/-- ITS FALSE NEIGHBOUR: 'it returns false'. Refute it at one input. -/
def fnExactReplayEntriesWrong : ChangeSpec := { name := "fnExactReplayEntries", fn := fun _ => fun
  | [d] => { results := [.lit (.bool false)], args := [d] }
  | _ => none }
def FnExactReplayEntriesWrongFalsely : Prop := fnExactReplayEntriesRow.holds Tryz.pinned (OpenSpec.ofChange fnExactReplayEntriesWrong)

/-- 'laws.FnExactApplyEntry': WHATEVER THE INPUT: true; the input reads as it did. -/
def fnExactApplyEntrySpec : ChangeSpec := { name := "fnExactApplyEntry", fn := fun _ => fun
  | [d1, d2] => { results := [.lit (.bool true)], args := [d1, d2] }
  | _ => none }
def fnExactApplyEntryRow : OpenClaim := { program := "ytcecbcaencobgaagreat", sum := "48140c70fb9c8b8d84a3f8c3a2a4714433386828f476d4f77e9e34df80f6bf22", func := "loop.example/g00222/laws.FnExactApplyEntry", spec := "fnExactApplyEntry", inPlace := ["slices.overlaps[int64]", "slices.overlaps[loop.example/g00222/impl.Session]"], unfollowed := true, recurses := true, apart := false }
def FnExactApplyEntrySaid : Prop := fnExactApplyEntryRow.holds Tryz.pinned (OpenSpec.ofChange fnExactApplyEntrySpec)

/-- ITS FALSE NEIGHBOUR: 'it returns false'. Refute it at one input. -/
def fnExactApplyEntryWrong : ChangeSpec := { name := "fnExactApplyEntry", fn := fun _ => fun
  | [d1, d2] => { results := [.lit (.bool false)], args := [d1, d2] }
  | _ => none }
def FnExactApplyEntryWrongFalsely : Prop := fnExactApplyEntryRow.holds Tryz.pinned (OpenSpec.ofChange fnExactApplyEntryWrong)

/-- 'laws.FnExactTakeUpdate': WHATEVER THE INPUT: true; the input reads as it did. -/
def fnExactTakeUpdateSpec : ChangeSpec := { name := "fnExactTakeUpdate", fn := fun _ => fun
  | [d1, d2] => { results := [.lit (.bool true)], args := [d1, d2] }
  | _ => none }
def fnExactTakeUpdateRow : OpenClaim := { program := "ytcecbcaencobgaagreat", sum := "48140c70fb9c8b8d84a3f8c3a2a4714433386828f476d4f77e9e34df80f6bf22", func := "loop.example/g00222/laws.FnExactTakeUpdate", spec := "fnExactTakeUpdate", inPlace := ["slices.overlaps[int64]"], unfollowed := true, recurses := true, apart := false }
def FnExactTakeUpdateSaid : Prop := fnExactTakeUpdateRow.holds Tryz.pinned (OpenSpec.ofChange fnExactTakeUpdateSpec)

/-- ITS FALSE NEIGHBOUR: 'it returns false'. Refute it at one input. -/
def fnExactTakeUpdateWrong : ChangeSpec := { name := "fnExactTakeUpdate", fn := fun _ => fun
  | [d1, d2] => { results := [.lit (.bool false)], args := [d1, d2] }
  | _ => none }
def FnExactTakeUpdateWrongFalsely : Prop := fnExactTakeUpdateRow.holds Tryz.pinned (OpenSpec.ofChange fnExactTakeUpdateWrong)

/-- 'laws.FnExactTakeMany': WHATEVER THE INPUT: true; the input reads as it did. -/
def fnExactTakeManySpec : ChangeSpec := { name := "fnExactTakeMany", fn := fun _ => fun
  | [d1, d2] => { results := [.lit (.bool true)], args := [d1, d2] }
  | _ => none }
def fnExactTakeManyRow : OpenClaim := { program := "ytcecbcaencobgaagreat", sum := "48140c70fb9c8b8d84a3f8c3a2a4714433386828f476d4f77e9e34df80f6bf22", func := "loop.example/g00222/laws.FnExactTakeMany", spec := "fnExactTakeMany", inPlace := ["slices.overlaps[int64]"], unfollowed := true, recurses := true, apart := false }
def FnExactTakeManySaid : Prop := fnExactTakeManyRow.holds Tryz.pinned (OpenSpec.ofChange fnExactTakeManySpec)

/-- ITS FALSE NEIGHBOUR: 'it returns false'. Refute it at one input. -/
def fnExactTakeManyWrong : ChangeSpec := { name := "fnExactTakeMany", fn := fun _ => fun
  | [d1, d2] => { results := [.lit (.bool false)], args := [d1, d2] }
  | _ => none }
def FnExactTakeManyWrongFalsely : Prop := fnExactTakeManyRow.holds Tryz.pinned (OpenSpec.ofChange fnExactTakeManyWrong)

/- THE SECOND FORM. 'bulk': how many values and letters a reading holds, each counted each time it is reached (what is shared counts as often as it is met; a slice's spare places count too). A statement '..UptoSaid' is the law's where the arguments, and the package variables that the reading takes, are together of bulk at most 1048576: NARROWER than '..Said'. Prove '..Said' where nothing that the law and all that it calls make is longer than what came in: it says more and counts as full. Else prove '..UptoSaid'. A law counts once. -/
mutual
def uptoBulk {H : Type} : DataW H → Nat
  | .lit (.string bytes) => bytes.length + 1
  | .lit _ => 1
  | .nil => 1
  | .ptr d => uptoBulk d + 1
  | .slice elems spare => uptoBulkAll elems + uptoBulkAll spare + 1
  | .agg parts => uptoBulkAll parts + 1
  | .iface _ d => uptoBulk d + 1
  | .map entries => uptoBulkEntries entries + 1
  | .held _ => 1
def uptoBulkAll {H : Type} : List (DataW H) → Nat
  | [] => 0
  | d :: r => uptoBulk d + uptoBulkAll r
def uptoBulkEntries {H : Type} : List (Lit × DataW H) → Nat
  | [] => 0
  | x :: r => uptoBulkEntry x + uptoBulkEntries r
def uptoBulkEntry {H : Type} : Lit × DataW H → Nat
  | (.string bytes, d) => bytes.length + uptoBulk d + 1
  | (_, d) => uptoBulk d + 1
 end
def uptoSmall : (H : Type) → List (DataW H) → Bool := fun _ ds => decide (uptoBulkAll ds ≤ 1048576)
def OpenSpec.upto (s : _root_.Go.ChangeSpec) : _root_.Go.OpenSpec := { _root_.Go.OpenSpec.ofChange s with cond := some uptoSmall }

/-- 'laws.FnExactApplyCmd', WHERE WHAT IT READS IS OF BULK AT MOST 1048576: true; the input reads as it did. -/
def fnExactApplyCmdUptoRow : OpenClaim := { program := "ytcecbcaencobgaagreat", sum := "48140c70fb9c8b8d84a3f8c3a2a4714433386828f476d4f77e9e34df80f6bf22", func := "loop.example/g00222/laws.FnExactApplyCmd", spec := "fnExactApplyCmd", inPlace := ["slices.overlaps[int64]"], unfollowed := true, recurses := true, apart := false, narrowed := true }
def FnExactApplyCmdUptoSaid : Prop := fnExactApplyCmdUptoRow.holds Tryz.pinned (OpenSpec.upto fnExactApplyCmdSpec)

/-- 'laws.FnExactStepUpdate', WHERE WHAT IT READS IS OF BULK AT MOST 1048576: true; the input reads as it did. -/
def fnExactStepUpdateUptoRow : OpenClaim := { program := "ytcecbcaencobgaagreat", sum := "48140c70fb9c8b8d84a3f8c3a2a4714433386828f476d4f77e9e34df80f6bf22", func := "loop.example/g00222/laws.FnExactStepUpdate", spec := "fnExactStepUpdate", inPlace := ["slices.overlaps[int64]"], unfollowed := true, recurses := true, apart := false, narrowed := true }
def FnExactStepUpdateUptoSaid : Prop := fnExactStepUpdateUptoRow.holds Tryz.pinned (OpenSpec.upto fnExactStepUpdateSpec)

/-- 'laws.FnExactVersionsOf', WHERE WHAT IT READS IS OF BULK AT MOST 1048576: true; the input reads as it did. -/
def fnExactVersionsOfUptoRow : OpenClaim := { program := "ytcecbcaencobgaagreat", sum := "48140c70fb9c8b8d84a3f8c3a2a4714433386828f476d4f77e9e34df80f6bf22", func := "loop.example/g00222/laws.FnExactVersionsOf", spec := "fnExactVersionsOf", inPlace := ["slices.overlaps[int64]", "slices.overlaps[loop.example/g00222/impl.Session]"], unfollowed := true, recurses := true, apart := false, narrowed := true }
def FnExactVersionsOfUptoSaid : Prop := fnExactVersionsOfUptoRow.holds Tryz.pinned (OpenSpec.upto fnExactVersionsOfSpec)

/-- 'laws.FnExactReplayEntries', WHERE WHAT IT READS IS OF BULK AT MOST 1048576: true; the input reads as it did. -/
def fnExactReplayEntriesUptoRow : OpenClaim := { program := "ytcecbcaencobgaagreat", sum := "48140c70fb9c8b8d84a3f8c3a2a4714433386828f476d4f77e9e34df80f6bf22", func := "loop.example/g00222/laws.FnExactReplayEntries", spec := "fnExactReplayEntries", inPlace := ["slices.overlaps[int64]", "slices.overlaps[loop.example/g00222/impl.Session]"], unfollowed := true, recurses := true, apart := false, narrowed := true }
def FnExactReplayEntriesUptoSaid : Prop := fnExactReplayEntriesUptoRow.holds Tryz.pinned (OpenSpec.upto fnExactReplayEntriesSpec)

/-- 'laws.FnExactApplyEntry', WHERE WHAT IT READS IS OF BULK AT MOST 1048576: true; the input reads as it did. -/
def fnExactApplyEntryUptoRow : OpenClaim := { program := "ytcecbcaencobgaagreat", sum := "48140c70fb9c8b8d84a3f8c3a2a4714433386828f476d4f77e9e34df80f6bf22", func := "loop.example/g00222/laws.FnExactApplyEntry", spec := "fnExactApplyEntry", inPlace := ["slices.overlaps[int64]", "slices.overlaps[loop.example/g00222/impl.Session]"], unfollowed := true, recurses := true, apart := false, narrowed := true }
def FnExactApplyEntryUptoSaid : Prop := fnExactApplyEntryUptoRow.holds Tryz.pinned (OpenSpec.upto fnExactApplyEntrySpec)

/-- 'laws.FnExactTakeUpdate', WHERE WHAT IT READS IS OF BULK AT MOST 1048576: true; the input reads as it did. -/
def fnExactTakeUpdateUptoRow : OpenClaim := { program := "ytcecbcaencobgaagreat", sum := "48140c70fb9c8b8d84a3f8c3a2a4714433386828f476d4f77e9e34df80f6bf22", func := "loop.example/g00222/laws.FnExactTakeUpdate", spec := "fnExactTakeUpdate", inPlace := ["slices.overlaps[int64]"], unfollowed := true, recurses := true, apart := false, narrowed := true }
def FnExactTakeUpdateUptoSaid : Prop := fnExactTakeUpdateUptoRow.holds Tryz.pinned (OpenSpec.upto fnExactTakeUpdateSpec)

/-- 'laws.FnExactTakeMany', WHERE WHAT IT READS IS OF BULK AT MOST 1048576: true; the input reads as it did. -/
def fnExactTakeManyUptoRow : OpenClaim := { program := "ytcecbcaencobgaagreat", sum := "48140c70fb9c8b8d84a3f8c3a2a4714433386828f476d4f77e9e34df80f6bf22", func := "loop.example/g00222/laws.FnExactTakeMany", spec := "fnExactTakeMany", inPlace := ["slices.overlaps[int64]"], unfollowed := true, recurses := true, apart := false, narrowed := true }
def FnExactTakeManyUptoSaid : Prop := fnExactTakeManyUptoRow.holds Tryz.pinned (OpenSpec.upto fnExactTakeManySpec)

end Rows
end Go.Proofs.YtcecbcaencobgaaGreat
