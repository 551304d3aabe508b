/-
  No cell of these rows narrows 'for every input' (looked for: loops, veiled, ifaces, maps, wideKeys, modest, calm, conditions, laid).
  DERIVED. THE GIVEN ROWS OF THIS SEAT. 9 by the template 'for every input the law returns true; each argument reads behind the call as it read before'; 0 by the template 'total and deterministic' (their statements: YtnbfnennddnmlaaGreatTotals.lean).
  GIVEN WITH THE SEED: the statements are not yours to turn. If you find one false, say at which input.
  Laid BY PROGRAM, IN A SANDBOX (cutbox-rows.mjs): the forced cells as the released guide's own fill.sh prints them over the translation 021a7a7173b388fb… (all of the seat's roots in one cut). By AI agents, Wed Nov 11 2026. No macro, syntax, notation, axiom, sorry.
-/
import Derived.Test.YtnbfnennddnmlaaGreatChecked
import GoSem.Claim
import GoSem.ClaimJoined
import GoSem.ClaimMapViews
import Derived.JoinedTies
import Derived.KernelRfl
namespace Go.Proofs.YtnbfnennddnmlaaGreat
/- THE CELL 'sum', in the pinned program and in every row, IS THE sha256 OF THE DUMP (.gsa) THAT YtnbfnennddnmlaaGreatProg.lean LOADS. Nothing in Lean hashes anything: it is a label: what it is worth is what the hold of that sum in a sandbox is worth. -/
noncomputable def Tryz.pinned : Pinned := { name := "ytnbfnennddnmlaagreat", sum := "021a7a7173b388fbf05b955d7edfc392e7dc15b94607ddf7e807d70984affbed", checked := Tryz.checked }
namespace Rows
def none {H : Type} : Left H := { results := [], args := [] }

/-- 'laws.FnExactTickMux': WHATEVER THE INPUT: true; the input reads as it did. -/
def fnExactTickMuxSpec : ChangeSpec := { name := "fnExactTickMux", fn := fun _ => fun
  | [d1, d2] => { results := [.lit (.bool true)], args := [d1, d2] }
  | _ => none }
def fnExactTickMuxRow : OpenClaim := { program := "ytnbfnennddnmlaagreat", sum := "021a7a7173b388fbf05b955d7edfc392e7dc15b94607ddf7e807d70984affbed", func := "loop.example/g00222/laws.FnExactTickMux", spec := "fnExactTickMux", unfollowed := true, recurses := true, apart := false }
def FnExactTickMuxSaid : Prop := fnExactTickMuxRow.holds Tryz.pinned (OpenSpec.ofChange fnExactTickMuxSpec)

/-- ITS FALSE NEIGHBOUR: 'it returns false'. Refute it at one input. -/
def fnExactTickMuxWrong : ChangeSpec := { name := "fnExactTickMux", fn := fun _ => fun
  | [d1, d2] => { results := [.lit (.bool false)], args := [d1, d2] }
  | _ => none }
def FnExactTickMuxWrongFalsely : Prop := fnExactTickMuxRow.holds Tryz.pinned (OpenSpec.ofChange fnExactTickMuxWrong)

/-- 'laws.FnExactForwardMux': WHATEVER THE INPUT: true; the input reads as it did. -/
def fnExactForwardMuxSpec : ChangeSpec := { name := "fnExactForwardMux", fn := fun _ => fun
  | [d1, d2] => { results := [.lit (.bool true)], args := [d1, d2] }
  | _ => none }
def fnExactForwardMuxRow : OpenClaim := { program := "ytnbfnennddnmlaagreat", sum := "021a7a7173b388fbf05b955d7edfc392e7dc15b94607ddf7e807d70984affbed", func := "loop.example/g00222/laws.FnExactForwardMux", spec := "fnExactForwardMux", unfollowed := true, recurses := true, apart := false }
def FnExactForwardMuxSaid : Prop := fnExactForwardMuxRow.holds Tryz.pinned (OpenSpec.ofChange fnExactForwardMuxSpec)

/-- ITS FALSE NEIGHBOUR: 'it returns false'. Refute it at one input. -/
def fnExactForwardMuxWrong : ChangeSpec := { name := "fnExactForwardMux", fn := fun _ => fun
  | [d1, d2] => { results := [.lit (.bool false)], args := [d1, d2] }
  | _ => none }
def FnExactForwardMuxWrongFalsely : Prop := fnExactForwardMuxRow.holds Tryz.pinned (OpenSpec.ofChange fnExactForwardMuxWrong)

/-- 'laws.FnExactFleetFault': WHATEVER THE INPUT: true; the input reads as it did. -/
def fnExactFleetFaultSpec : ChangeSpec := { name := "fnExactFleetFault", fn := fun _ => fun
  | [d] => { results := [.lit (.bool true)], args := [d] }
  | _ => none }
def fnExactFleetFaultRow : OpenClaim := { program := "ytnbfnennddnmlaagreat", sum := "021a7a7173b388fbf05b955d7edfc392e7dc15b94607ddf7e807d70984affbed", func := "loop.example/g00222/laws.FnExactFleetFault", spec := "fnExactFleetFault", inPlace := ["slices.overlaps[int64]", "slices.overlaps[loop.example/g00222/impl.Session]"], unfollowed := true, recurses := true, apart := false }
def FnExactFleetFaultSaid : Prop := fnExactFleetFaultRow.holds Tryz.pinned (OpenSpec.ofChange fnExactFleetFaultSpec)

/-- ITS FALSE NEIGHBOUR: 'it returns false'. Refute it at one input. -/
def fnExactFleetFaultWrong : ChangeSpec := { name := "fnExactFleetFault", fn := fun _ => fun
  | [d] => { results := [.lit (.bool false)], args := [d] }
  | _ => none }
def FnExactFleetFaultWrongFalsely : Prop := fnExactFleetFaultRow.holds Tryz.pinned (OpenSpec.ofChange fnExactFleetFaultWrong)

/-- 'laws.FnExactInstallMux': WHATEVER THE INPUT: true; the input reads as it did. -/
def fnExactInstallMuxSpec : ChangeSpec := { name := "fnExactInstallMux", fn := fun _ => fun
  | [d1, d2] => { results := [.lit (.bool true)], args := [d1, d2] }
  | _ => none }
def fnExactInstallMuxRow : OpenClaim := { program := "ytnbfnennddnmlaagreat", sum := "021a7a7173b388fbf05b955d7edfc392e7dc15b94607ddf7e807d70984affbed", func := "loop.example/g00222/laws.FnExactInstallMux", spec := "fnExactInstallMux", inPlace := ["slices.overlaps[int64]"], unfollowed := true, recurses := true, apart := false }
def FnExactInstallMuxSaid : Prop := fnExactInstallMuxRow.holds Tryz.pinned (OpenSpec.ofChange fnExactInstallMuxSpec)

/-- ITS FALSE NEIGHBOUR: 'it returns false'. Refute it at one input. -/
def fnExactInstallMuxWrong : ChangeSpec := { name := "fnExactInstallMux", fn := fun _ => fun
  | [d1, d2] => { results := [.lit (.bool false)], args := [d1, d2] }
  | _ => none }
def FnExactInstallMuxWrongFalsely : Prop := fnExactInstallMuxRow.holds Tryz.pinned (OpenSpec.ofChange fnExactInstallMuxWrong)

/-- 'laws.FnExactAgreeFleet': WHATEVER THE INPUT: true; the input reads as it did. -/
def fnExactAgreeFleetSpec : ChangeSpec := { name := "fnExactAgreeFleet", fn := fun _ => fun
  | [d1, d2] => { results := [.lit (.bool true)], args := [d1, d2] }
  | _ => none }
def fnExactAgreeFleetRow : OpenClaim := { program := "ytnbfnennddnmlaagreat", sum := "021a7a7173b388fbf05b955d7edfc392e7dc15b94607ddf7e807d70984affbed", func := "loop.example/g00222/laws.FnExactAgreeFleet", spec := "fnExactAgreeFleet", inPlace := ["slices.overlaps[int64]", "slices.overlaps[loop.example/g00222/impl.Session]"], unfollowed := true, recurses := true, apart := false }
def FnExactAgreeFleetSaid : Prop := fnExactAgreeFleetRow.holds Tryz.pinned (OpenSpec.ofChange fnExactAgreeFleetSpec)

/-- ITS FALSE NEIGHBOUR: 'it returns false'. Refute it at one input. -/
def fnExactAgreeFleetWrong : ChangeSpec := { name := "fnExactAgreeFleet", fn := fun _ => fun
  | [d1, d2] => { results := [.lit (.bool false)], args := [d1, d2] }
  | _ => none }
def FnExactAgreeFleetWrongFalsely : Prop := fnExactAgreeFleetRow.holds Tryz.pinned (OpenSpec.ofChange fnExactAgreeFleetWrong)

/-- 'laws.FnExactRestartMux': WHATEVER THE INPUT: true; the input reads as it did. -/
def fnExactRestartMuxSpec : ChangeSpec := { name := "fnExactRestartMux", fn := fun _ => fun
  | [d1, d2] => { results := [.lit (.bool true)], args := [d1, d2] }
  | _ => none }
def fnExactRestartMuxRow : OpenClaim := { program := "ytnbfnennddnmlaagreat", sum := "021a7a7173b388fbf05b955d7edfc392e7dc15b94607ddf7e807d70984affbed", func := "loop.example/g00222/laws.FnExactRestartMux", spec := "fnExactRestartMux", inPlace := ["slices.overlaps[int64]", "slices.overlaps[loop.example/g00222/impl.Session]"], unfollowed := true, recurses := true, apart := false }
def FnExactRestartMuxSaid : Prop := fnExactRestartMuxRow.holds Tryz.pinned (OpenSpec.ofChange fnExactRestartMuxSpec)

/-- ITS FALSE NEIGHBOUR: 'it returns false'. Refute it at one input. -/
def fnExactRestartMuxWrong : ChangeSpec := { name := "fnExactRestartMux", fn := fun _ => fun
  | [d1, d2] => { results := [.lit (.bool false)], args := [d1, d2] }
  | _ => none }
def FnExactRestartMuxWrongFalsely : Prop := fnExactRestartMuxRow.holds Tryz.pinned (OpenSpec.ofChange fnExactRestartMuxWrong)

/-- 'laws.FnExactTickFleet': WHATEVER THE INPUT: true; the input reads as it did. -/
def fnExactTickFleetSpec : ChangeSpec := { name := "fnExactTickFleet", fn := fun _ => fun
  | [d1, d2] => { results := [.lit (.bool true)], args := [d1, d2] }
  | _ => none }
def fnExactTickFleetRow : OpenClaim := { program := "ytnbfnennddnmlaagreat", sum := "021a7a7173b388fbf05b955d7edfc392e7dc15b94607ddf7e807d70984affbed", func := "loop.example/g00222/laws.FnExactTickFleet", spec := "fnExactTickFleet", inPlace := ["slices.overlaps[int64]", "slices.overlaps[loop.example/g00222/impl.Session]"], unfollowed := true, recurses := true, apart := false }
def FnExactTickFleetSaid : Prop := fnExactTickFleetRow.holds Tryz.pinned (OpenSpec.ofChange fnExactTickFleetSpec)

/-- ITS FALSE NEIGHBOUR: 'it returns false'. Refute it at one input. -/
def fnExactTickFleetWrong : ChangeSpec := { name := "fnExactTickFleet", fn := fun _ => fun
  | [d1, d2] => { results := [.lit (.bool false)], args := [d1, d2] }
  | _ => none }
def FnExactTickFleetWrongFalsely : Prop := fnExactTickFleetRow.holds Tryz.pinned (OpenSpec.ofChange fnExactTickFleetWrong)

/-- 'laws.FnExactSendFleet': WHATEVER THE INPUT: true; the input reads as it did. -/
def fnExactSendFleetSpec : ChangeSpec := { name := "fnExactSendFleet", fn := fun _ => fun
  | [d1, d2, d3] => { results := [.lit (.bool true)], args := [d1, d2, d3] }
  | _ => none }
def fnExactSendFleetRow : OpenClaim := { program := "ytnbfnennddnmlaagreat", sum := "021a7a7173b388fbf05b955d7edfc392e7dc15b94607ddf7e807d70984affbed", func := "loop.example/g00222/laws.FnExactSendFleet", spec := "fnExactSendFleet", inPlace := ["slices.overlaps[int64]", "slices.overlaps[loop.example/g00222/impl.Session]"], unfollowed := true, recurses := true, apart := false }
def FnExactSendFleetSaid : Prop := fnExactSendFleetRow.holds Tryz.pinned (OpenSpec.ofChange fnExactSendFleetSpec)

/-- ITS FALSE NEIGHBOUR: 'it returns false'. Refute it at one input. -/
def fnExactSendFleetWrong : ChangeSpec := { name := "fnExactSendFleet", fn := fun _ => fun
  | [d1, d2, d3] => { results := [.lit (.bool false)], args := [d1, d2, d3] }
  | _ => none }
def FnExactSendFleetWrongFalsely : Prop := fnExactSendFleetRow.holds Tryz.pinned (OpenSpec.ofChange fnExactSendFleetWrong)

/-- 'laws.FnExactSyncFleet': WHATEVER THE INPUT: true; the input reads as it did. -/
def fnExactSyncFleetSpec : ChangeSpec := { name := "fnExactSyncFleet", fn := fun _ => fun
  | [d1, d2, d3] => { results := [.lit (.bool true)], args := [d1, d2, d3] }
  | _ => none }
def fnExactSyncFleetRow : OpenClaim := { program := "ytnbfnennddnmlaagreat", sum := "021a7a7173b388fbf05b955d7edfc392e7dc15b94607ddf7e807d70984affbed", func := "loop.example/g00222/laws.FnExactSyncFleet", spec := "fnExactSyncFleet", inPlace := ["slices.overlaps[int64]", "slices.overlaps[loop.example/g00222/impl.Session]"], unfollowed := true, recurses := true, apart := false }
def FnExactSyncFleetSaid : Prop := fnExactSyncFleetRow.holds Tryz.pinned (OpenSpec.ofChange fnExactSyncFleetSpec)

/-- ITS FALSE NEIGHBOUR: 'it returns false'. Refute it at one input. -/
def fnExactSyncFleetWrong : ChangeSpec := { name := "fnExactSyncFleet", fn := fun _ => fun
  | [d1, d2, d3] => { results := [.lit (.bool false)], args := [d1, d2, d3] }
  | _ => none }
def FnExactSyncFleetWrongFalsely : Prop := fnExactSyncFleetRow.holds Tryz.pinned (OpenSpec.ofChange fnExactSyncFleetWrong)

/- THE SECOND FORM. 'bulk': how many values and letters a reading holds, each counted each time it is reached (what is shared counts as often as it is met; a slice's spare places count too). A statement '..UptoSaid' is the law's where the arguments, and the package variables that the reading takes, are together of bulk at most 1048576: NARROWER than '..Said'. Prove '..Said' where nothing that the law and all that it calls make is longer than what came in: it says more and counts as full. Else prove '..UptoSaid'. A law counts once. -/
mutual
def uptoBulk {H : Type} : DataW H → Nat
  | .lit (.string bytes) => bytes.length + 1
  | .lit _ => 1
  | .nil => 1
  | .ptr d => uptoBulk d + 1
  | .slice elems spare => uptoBulkAll elems + uptoBulkAll spare + 1
  | .agg parts => uptoBulkAll parts + 1
  | .iface _ d => uptoBulk d + 1
  | .map entries => uptoBulkEntries entries + 1
  | .held _ => 1
def uptoBulkAll {H : Type} : List (DataW H) → Nat
  | [] => 0
  | d :: r => uptoBulk d + uptoBulkAll r
def uptoBulkEntries {H : Type} : List (Lit × DataW H) → Nat
  | [] => 0
  | x :: r => uptoBulkEntry x + uptoBulkEntries r
def uptoBulkEntry {H : Type} : Lit × DataW H → Nat
  | (.string bytes, d) => bytes.length + uptoBulk d + 1
  | (_, d) => uptoBulk d + 1
 end
def uptoSmall : (H : Type) → List (DataW H) → Bool := fun _ ds => decide (uptoBulkAll ds ≤ 1048576)
def OpenSpec.upto (s : _root_.Go.ChangeSpec) : _root_.Go.OpenSpec := { _root_.Go.OpenSpec.ofChange s with cond := some uptoSmall }

/-- 'laws.FnExactTickMux', WHERE WHAT IT READS IS OF BULK AT MOST 1048576: true; the input reads as it did. -/
def fnExactTickMuxUptoRow : OpenClaim := { program := "ytnbfnennddnmlaagreat", sum := "021a7a7173b388fbf05b955d7edfc392e7dc15b94607ddf7e807d70984affbed", func := "loop.example/g00222/laws.FnExactTickMux", spec := "fnExactTickMux", unfollowed := true, recurses := true, apart := false, narrowed := true }
def FnExactTickMuxUptoSaid : Prop := fnExactTickMuxUptoRow.holds Tryz.pinned (OpenSpec.upto fnExactTickMuxSpec)

/-- 'laws.FnExactForwardMux', WHERE WHAT IT READS IS OF BULK AT MOST 1048576: true; the input reads as it did. -/
def fnExactForwardMuxUptoRow : OpenClaim := { program := "ytnbfnennddnmlaagreat", sum := "021a7a7173b388fbf05b955d7edfc392e7dc15b94607ddf7e807d70984affbed", func := "loop.example/g00222/laws.FnExactForwardMux", spec := "fnExactForwardMux", unfollowed := true, recurses := true, apart := false, narrowed := true }
def FnExactForwardMuxUptoSaid : Prop := fnExactForwardMuxUptoRow.holds Tryz.pinned (OpenSpec.upto fnExactForwardMuxSpec)

/-- 'laws.FnExactFleetFault', WHERE WHAT IT READS IS OF BULK AT MOST 1048576: true; the input reads as it did. -/
def fnExactFleetFaultUptoRow : OpenClaim := { program := "ytnbfnennddnmlaagreat", sum := "021a7a7173b388fbf05b955d7edfc392e7dc15b94607ddf7e807d70984affbed", func := "loop.example/g00222/laws.FnExactFleetFault", spec := "fnExactFleetFault", inPlace := ["slices.overlaps[int64]", "slices.overlaps[loop.example/g00222/impl.Session]"], unfollowed := true, recurses := true, apart := false, narrowed := true }
def FnExactFleetFaultUptoSaid : Prop := fnExactFleetFaultUptoRow.holds Tryz.pinned (OpenSpec.upto fnExactFleetFaultSpec)

/-- 'laws.FnExactInstallMux', WHERE WHAT IT READS IS OF BULK AT MOST 1048576: true; the input reads as it did. -/
def fnExactInstallMuxUptoRow : OpenClaim := { program := "ytnbfnennddnmlaagreat", sum := "021a7a7173b388fbf05b955d7edfc392e7dc15b94607ddf7e807d70984affbed", func := "loop.example/g00222/laws.FnExactInstallMux", spec := "fnExactInstallMux", inPlace := ["slices.overlaps[int64]"], unfollowed := true, recurses := true, apart := false, narrowed := true }
def FnExactInstallMuxUptoSaid : Prop := fnExactInstallMuxUptoRow.holds Tryz.pinned (OpenSpec.upto fnExactInstallMuxSpec)

/-- 'laws.FnExactAgreeFleet', WHERE WHAT IT READS IS OF BULK AT MOST 1048576: true; the input reads as it did. -/
def fnExactAgreeFleetUptoRow : OpenClaim := { program := "ytnbfnennddnmlaagreat", sum := "021a7a7173b388fbf05b955d7edfc392e7dc15b94607ddf7e807d70984affbed", func := "loop.example/g00222/laws.FnExactAgreeFleet", spec := "fnExactAgreeFleet", inPlace := ["slices.overlaps[int64]", "slices.overlaps[loop.example/g00222/impl.Session]"], unfollowed := true, recurses := true, apart := false, narrowed := true }
def FnExactAgreeFleetUptoSaid : Prop := fnExactAgreeFleetUptoRow.holds Tryz.pinned (OpenSpec.upto fnExactAgreeFleetSpec)

/-- 'laws.FnExactRestartMux', WHERE WHAT IT READS IS OF BULK AT MOST 1048576: true; the input reads as it did. -/
def fnExactRestartMuxUptoRow : OpenClaim := { program := "ytnbfnennddnmlaagreat", sum := "021a7a7173b388fbf05b955d7edfc392e7dc15b94607ddf7e807d70984affbed", func := "loop.example/g00222/laws.FnExactRestartMux", spec := "fnExactRestartMux", inPlace := ["slices.overlaps[int64]", "slices.overlaps[loop.example/g00222/impl.Session]"], unfollowed := true, recurses := true, apart := false, narrowed := true }
def FnExactRestartMuxUptoSaid : Prop := fnExactRestartMuxUptoRow.holds Tryz.pinned (OpenSpec.upto fnExactRestartMuxSpec)

/-- 'laws.FnExactTickFleet', WHERE WHAT IT READS IS OF BULK AT MOST 1048576: true; the input reads as it did. -/
def fnExactTickFleetUptoRow : OpenClaim := { program := "ytnbfnennddnmlaagreat", sum := "021a7a7173b388fbf05b955d7edfc392e7dc15b94607ddf7e807d70984affbed", func := "loop.example/g00222/laws.FnExactTickFleet", spec := "fnExactTickFleet", inPlace := ["slices.overlaps[int64]", "slices.overlaps[loop.example/g00222/impl.Session]"], unfollowed := true, recurses := true, apart := false, narrowed := true }
def FnExactTickFleetUptoSaid : Prop := fnExactTickFleetUptoRow.holds Tryz.pinned (OpenSpec.upto fnExactTickFleetSpec)

/-- 'laws.FnExactSendFleet', WHERE WHAT IT READS IS OF BULK AT MOST 1048576: true; the input reads as it did. -/
def fnExactSendFleetUptoRow : OpenClaim := { program := "ytnbfnennddnmlaagreat", sum := "021a7a7173b388fbf05b955d7edfc392e7dc15b94607ddf7e807d70984affbed", func := "loop.example/g00222/laws.FnExactSendFleet", spec := "fnExactSendFleet", inPlace := ["slices.overlaps[int64]", "slices.overlaps[loop.example/g00222/impl.Session]"], unfollowed := true, recurses := true, apart := false, narrowed := true }
def FnExactSendFleetUptoSaid : Prop := fnExactSendFleetUptoRow.holds Tryz.pinned (OpenSpec.upto fnExactSendFleetSpec)

/-- 'laws.FnExactSyncFleet', WHERE WHAT IT READS IS OF BULK AT MOST 1048576: true; the input reads as it did. -/
def fnExactSyncFleetUptoRow : OpenClaim := { program := "ytnbfnennddnmlaagreat", sum := "021a7a7173b388fbf05b955d7edfc392e7dc15b94607ddf7e807d70984affbed", func := "loop.example/g00222/laws.FnExactSyncFleet", spec := "fnExactSyncFleet", inPlace := ["slices.overlaps[int64]", "slices.overlaps[loop.example/g00222/impl.Session]"], unfollowed := true, recurses := true, apart := false, narrowed := true }
def FnExactSyncFleetUptoSaid : Prop := fnExactSyncFleetUptoRow.holds Tryz.pinned (OpenSpec.upto fnExactSyncFleetSpec)

end Rows
end Go.Proofs.YtnbfnennddnmlaaGreat
