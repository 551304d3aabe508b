/-
  No cell of these rows narrows 'for every input' (looked for: loops, veiled, ifaces, maps, wideKeys, modest, calm, conditions, laid).
  DERIVED. THE GIVEN ROWS OF THIS SEAT. 8 by the template 'for every input the law returns true; each argument reads behind the call as it read before'; 0 by the template 'total and deterministic' (their statements: YtkodedpplfekdaaGreatTotals.lean).
  GIVEN WITH THE SEED: the statements are not yours to turn. If you find one false, say at which input.
  Laid BY PROGRAM, IN A SANDBOX (cutbox-rows.mjs): the forced cells as the released guide's own fill.sh prints them over the translation 8172f15a67e80865… (all of the seat's roots in one cut). By AI agents, Wed Nov 11 2026. No macro, syntax, notation, axiom, sorry.
-/
import Derived.Test.YtkodedpplfekdaaGreatChecked
import GoSem.Claim
import GoSem.ClaimJoined
import GoSem.ClaimMapViews
import Derived.JoinedTies
import Derived.KernelRfl
namespace Go.Proofs.YtkodedpplfekdaaGreat
/- THE CELL 'sum', in the pinned program and in every row, IS THE sha256 OF THE DUMP (.gsa) THAT YtkodedpplfekdaaGreatProg.lean LOADS. Nothing in Lean hashes anything: it is a label: what it is worth is what the hold of that sum in a sandbox is worth. -/
noncomputable def Tryz.pinned : Pinned := { name := "ytkodedpplfekdaagreat", sum := "8172f15a67e80865d36a1c6291a76b5eca676715d1d69358b24eee06f87dc270", checked := Tryz.checked }
namespace Rows
def none {H : Type} : Left H := { results := [], args := [] }

/-- 'laws.FnExactCopyMail': WHATEVER THE INPUT: true; the input reads as it did. -/
def fnExactCopyMailSpec : ChangeSpec := { name := "fnExactCopyMail", fn := fun _ => fun
  | [d1, d2] => { results := [.lit (.bool true)], args := [d1, d2] }
  | _ => none }
def fnExactCopyMailRow : OpenClaim := { program := "ytkodedpplfekdaagreat", sum := "8172f15a67e80865d36a1c6291a76b5eca676715d1d69358b24eee06f87dc270", func := "loop.example/g00222/laws.FnExactCopyMail", spec := "fnExactCopyMail", unfollowed := true, recurses := true, apart := false }
def FnExactCopyMailSaid : Prop := fnExactCopyMailRow.holds Tryz.pinned (OpenSpec.ofChange fnExactCopyMailSpec)

/-- ITS FALSE NEIGHBOUR: 'it returns false'. Refute it at one input. -/
def fnExactCopyMailWrong : ChangeSpec := { name := "fnExactCopyMail", fn := fun _ => fun
  | [d1, d2] => { results := [.lit (.bool false)], args := [d1, d2] }
  | _ => none }
def FnExactCopyMailWrongFalsely : Prop := fnExactCopyMailRow.holds Tryz.pinned (OpenSpec.ofChange fnExactCopyMailWrong)

/-- 'laws.FnExactDropMail': WHATEVER THE INPUT: true; the input reads as it did. -/
def fnExactDropMailSpec : ChangeSpec := { name := "fnExactDropMail", fn := fun _ => fun
  | [d1, d2] => { results := [.lit (.bool true)], args := [d1, d2] }
  | _ => none }
def fnExactDropMailRow : OpenClaim := { program := "ytkodedpplfekdaagreat", sum := "8172f15a67e80865d36a1c6291a76b5eca676715d1d69358b24eee06f87dc270", func := "loop.example/g00222/laws.FnExactDropMail", spec := "fnExactDropMail", unfollowed := true, recurses := true, apart := false }
def FnExactDropMailSaid : Prop := fnExactDropMailRow.holds Tryz.pinned (OpenSpec.ofChange fnExactDropMailSpec)

/-- ITS FALSE NEIGHBOUR: 'it returns false'. Refute it at one input. -/
def fnExactDropMailWrong : ChangeSpec := { name := "fnExactDropMail", fn := fun _ => fun
  | [d1, d2] => { results := [.lit (.bool false)], args := [d1, d2] }
  | _ => none }
def FnExactDropMailWrongFalsely : Prop := fnExactDropMailRow.holds Tryz.pinned (OpenSpec.ofChange fnExactDropMailWrong)

/-- 'laws.FnExactTimeoutAt': WHATEVER THE INPUT: true; the input reads as it did. -/
def fnExactTimeoutAtSpec : ChangeSpec := { name := "fnExactTimeoutAt", fn := fun _ => fun
  | [d1, d2] => { results := [.lit (.bool true)], args := [d1, d2] }
  | _ => none }
def fnExactTimeoutAtRow : OpenClaim := { program := "ytkodedpplfekdaagreat", sum := "8172f15a67e80865d36a1c6291a76b5eca676715d1d69358b24eee06f87dc270", func := "loop.example/g00222/laws.FnExactTimeoutAt", spec := "fnExactTimeoutAt", unfollowed := true, recurses := true, apart := false }
def FnExactTimeoutAtSaid : Prop := fnExactTimeoutAtRow.holds Tryz.pinned (OpenSpec.ofChange fnExactTimeoutAtSpec)

/-- ITS FALSE NEIGHBOUR: 'it returns false'. Refute it at one input. -/
def fnExactTimeoutAtWrong : ChangeSpec := { name := "fnExactTimeoutAt", fn := fun _ => fun
  | [d1, d2] => { results := [.lit (.bool false)], args := [d1, d2] }
  | _ => none }
def FnExactTimeoutAtWrongFalsely : Prop := fnExactTimeoutAtRow.holds Tryz.pinned (OpenSpec.ofChange fnExactTimeoutAtWrong)

/-- 'laws.FnExactHearMail': WHATEVER THE INPUT: true; the input reads as it did. -/
def fnExactHearMailSpec : ChangeSpec := { name := "fnExactHearMail", fn := fun _ => fun
  | [d1, d2] => { results := [.lit (.bool true)], args := [d1, d2] }
  | _ => none }
def fnExactHearMailRow : OpenClaim := { program := "ytkodedpplfekdaagreat", sum := "8172f15a67e80865d36a1c6291a76b5eca676715d1d69358b24eee06f87dc270", func := "loop.example/g00222/laws.FnExactHearMail", spec := "fnExactHearMail", inPlace := ["slices.overlaps[int64]"], unfollowed := true, recurses := true, apart := false }
def FnExactHearMailSaid : Prop := fnExactHearMailRow.holds Tryz.pinned (OpenSpec.ofChange fnExactHearMailSpec)

/-- ITS FALSE NEIGHBOUR: 'it returns false'. Refute it at one input. -/
def fnExactHearMailWrong : ChangeSpec := { name := "fnExactHearMail", fn := fun _ => fun
  | [d1, d2] => { results := [.lit (.bool false)], args := [d1, d2] }
  | _ => none }
def FnExactHearMailWrongFalsely : Prop := fnExactHearMailRow.holds Tryz.pinned (OpenSpec.ofChange fnExactHearMailWrong)

/-- 'laws.FnExactCrashAt': WHATEVER THE INPUT: true; the input reads as it did. -/
def fnExactCrashAtSpec : ChangeSpec := { name := "fnExactCrashAt", fn := fun _ => fun
  | [d1, d2] => { results := [.lit (.bool true)], args := [d1, d2] }
  | _ => none }
def fnExactCrashAtRow : OpenClaim := { program := "ytkodedpplfekdaagreat", sum := "8172f15a67e80865d36a1c6291a76b5eca676715d1d69358b24eee06f87dc270", func := "loop.example/g00222/laws.FnExactCrashAt", spec := "fnExactCrashAt", unfollowed := true, recurses := true, apart := false }
def FnExactCrashAtSaid : Prop := fnExactCrashAtRow.holds Tryz.pinned (OpenSpec.ofChange fnExactCrashAtSpec)

/-- ITS FALSE NEIGHBOUR: 'it returns false'. Refute it at one input. -/
def fnExactCrashAtWrong : ChangeSpec := { name := "fnExactCrashAt", fn := fun _ => fun
  | [d1, d2] => { results := [.lit (.bool false)], args := [d1, d2] }
  | _ => none }
def FnExactCrashAtWrongFalsely : Prop := fnExactCrashAtRow.holds Tryz.pinned (OpenSpec.ofChange fnExactCrashAtWrong)

/-- 'laws.FnExactAskAt': WHATEVER THE INPUT: true; the input reads as it did. -/
def fnExactAskAtSpec : ChangeSpec := { name := "fnExactAskAt", fn := fun _ => fun
  | [d1, d2, d3, d4, d5] => { results := [.lit (.bool true)], args := [d1, d2, d3, d4, d5] }
  | _ => none }
def fnExactAskAtRow : OpenClaim := { program := "ytkodedpplfekdaagreat", sum := "8172f15a67e80865d36a1c6291a76b5eca676715d1d69358b24eee06f87dc270", func := "loop.example/g00222/laws.FnExactAskAt", spec := "fnExactAskAt", unfollowed := true, recurses := true, apart := false }
def FnExactAskAtSaid : Prop := fnExactAskAtRow.holds Tryz.pinned (OpenSpec.ofChange fnExactAskAtSpec)

/-- ITS FALSE NEIGHBOUR: 'it returns false'. Refute it at one input. -/
def fnExactAskAtWrong : ChangeSpec := { name := "fnExactAskAt", fn := fun _ => fun
  | [d1, d2, d3, d4, d5] => { results := [.lit (.bool false)], args := [d1, d2, d3, d4, d5] }
  | _ => none }
def FnExactAskAtWrongFalsely : Prop := fnExactAskAtRow.holds Tryz.pinned (OpenSpec.ofChange fnExactAskAtWrong)

/-- 'laws.FnExactSpreadAt': WHATEVER THE INPUT: true; the input reads as it did. -/
def fnExactSpreadAtSpec : ChangeSpec := { name := "fnExactSpreadAt", fn := fun _ => fun
  | [d1, d2] => { results := [.lit (.bool true)], args := [d1, d2] }
  | _ => none }
def fnExactSpreadAtRow : OpenClaim := { program := "ytkodedpplfekdaagreat", sum := "8172f15a67e80865d36a1c6291a76b5eca676715d1d69358b24eee06f87dc270", func := "loop.example/g00222/laws.FnExactSpreadAt", spec := "fnExactSpreadAt", unfollowed := true, recurses := true, apart := false }
def FnExactSpreadAtSaid : Prop := fnExactSpreadAtRow.holds Tryz.pinned (OpenSpec.ofChange fnExactSpreadAtSpec)

/-- ITS FALSE NEIGHBOUR: 'it returns false'. Refute it at one input. -/
def fnExactSpreadAtWrong : ChangeSpec := { name := "fnExactSpreadAt", fn := fun _ => fun
  | [d1, d2] => { results := [.lit (.bool false)], args := [d1, d2] }
  | _ => none }
def FnExactSpreadAtWrongFalsely : Prop := fnExactSpreadAtRow.holds Tryz.pinned (OpenSpec.ofChange fnExactSpreadAtWrong)

/-- 'laws.FnExactDeliverMail': WHATEVER THE INPUT: true; the input reads as it did. -/
def fnExactDeliverMailSpec : ChangeSpec := { name := "fnExactDeliverMail", fn := fun _ => fun
  | [d1, d2] => { results := [.lit (.bool true)], args := [d1, d2] }
  | _ => none }
def fnExactDeliverMailRow : OpenClaim := { program := "ytkodedpplfekdaagreat", sum := "8172f15a67e80865d36a1c6291a76b5eca676715d1d69358b24eee06f87dc270", func := "loop.example/g00222/laws.FnExactDeliverMail", spec := "fnExactDeliverMail", inPlace := ["slices.overlaps[int64]"], unfollowed := true, recurses := true, apart := false }
def FnExactDeliverMailSaid : Prop := fnExactDeliverMailRow.holds Tryz.pinned (OpenSpec.ofChange fnExactDeliverMailSpec)

/-- ITS FALSE NEIGHBOUR: 'it returns false'. Refute it at one input. -/
def fnExactDeliverMailWrong : ChangeSpec := { name := "fnExactDeliverMail", fn := fun _ => fun
  | [d1, d2] => { results := [.lit (.bool false)], args := [d1, d2] }
  | _ => none }
def FnExactDeliverMailWrongFalsely : Prop := fnExactDeliverMailRow.holds Tryz.pinned (OpenSpec.ofChange fnExactDeliverMailWrong)

/- THE SECOND FORM. 'bulk': how many values and letters a reading holds, each counted each time it is reached (what is shared counts as often as it is met; a slice's spare places count too). A statement '..UptoSaid' is the law's where the arguments, and the package variables that the reading takes, are together of bulk at most 1048576: NARROWER than '..Said'. Prove '..Said' where nothing that the law and all that it calls make is longer than what came in: it says more and counts as full. Else prove '..UptoSaid'. A law counts once. -/
mutual
def uptoBulk {H : Type} : DataW H → Nat
  | .lit (.string bytes) => bytes.length + 1
  | .lit _ => 1
  | .nil => 1
  | .ptr d => uptoBulk d + 1
  | .slice elems spare => uptoBulkAll elems + uptoBulkAll spare + 1
  | .agg parts => uptoBulkAll parts + 1
  | .iface _ d => uptoBulk d + 1
  | .map entries => uptoBulkEntries entries + 1
  | .held _ => 1
def uptoBulkAll {H : Type} : List (DataW H) → Nat
  | [] => 0
  | d :: r => uptoBulk d + uptoBulkAll r
def uptoBulkEntries {H : Type} : List (Lit × DataW H) → Nat
  | [] => 0
  | x :: r => uptoBulkEntry x + uptoBulkEntries r
def uptoBulkEntry {H : Type} : Lit × DataW H → Nat
  | (.string bytes, d) => bytes.length + uptoBulk d + 1
  | (_, d) => uptoBulk d + 1
 end
def uptoSmall : (H : Type) → List (DataW H) → Bool := fun _ ds => decide (uptoBulkAll ds ≤ 1048576)
def OpenSpec.upto (s : _root_.Go.ChangeSpec) : _root_.Go.OpenSpec := { _root_.Go.OpenSpec.ofChange s with cond := some uptoSmall }

/-- 'laws.FnExactCopyMail', WHERE WHAT IT READS IS OF BULK AT MOST 1048576: true; the input reads as it did. -/
def fnExactCopyMailUptoRow : OpenClaim := { program := "ytkodedpplfekdaagreat", sum := "8172f15a67e80865d36a1c6291a76b5eca676715d1d69358b24eee06f87dc270", func := "loop.example/g00222/laws.FnExactCopyMail", spec := "fnExactCopyMail", unfollowed := true, recurses := true, apart := false, narrowed := true }
def FnExactCopyMailUptoSaid : Prop := fnExactCopyMailUptoRow.holds Tryz.pinned (OpenSpec.upto fnExactCopyMailSpec)

/-- 'laws.FnExactDropMail', WHERE WHAT IT READS IS OF BULK AT MOST 1048576: true; the input reads as it did. -/
def fnExactDropMailUptoRow : OpenClaim := { program := "ytkodedpplfekdaagreat", sum := "8172f15a67e80865d36a1c6291a76b5eca676715d1d69358b24eee06f87dc270", func := "loop.example/g00222/laws.FnExactDropMail", spec := "fnExactDropMail", unfollowed := true, recurses := true, apart := false, narrowed := true }
def FnExactDropMailUptoSaid : Prop := fnExactDropMailUptoRow.holds Tryz.pinned (OpenSpec.upto fnExactDropMailSpec)

/-- 'laws.FnExactTimeoutAt', WHERE WHAT IT READS IS OF BULK AT MOST 1048576: true; the input reads as it did. -/
def fnExactTimeoutAtUptoRow : OpenClaim := { program := "ytkodedpplfekdaagreat", sum := "8172f15a67e80865d36a1c6291a76b5eca676715d1d69358b24eee06f87dc270", func := "loop.example/g00222/laws.FnExactTimeoutAt", spec := "fnExactTimeoutAt", unfollowed := true, recurses := true, apart := false, narrowed := true }
def FnExactTimeoutAtUptoSaid : Prop := fnExactTimeoutAtUptoRow.holds Tryz.pinned (OpenSpec.upto fnExactTimeoutAtSpec)

/-- 'laws.FnExactHearMail', WHERE WHAT IT READS IS OF BULK AT MOST 1048576: true; the input reads as it did. -/
def fnExactHearMailUptoRow : OpenClaim := { program := "ytkodedpplfekdaagreat", sum := "8172f15a67e80865d36a1c6291a76b5eca676715d1d69358b24eee06f87dc270", func := "loop.example/g00222/laws.FnExactHearMail", spec := "fnExactHearMail", inPlace := ["slices.overlaps[int64]"], unfollowed := true, recurses := true, apart := false, narrowed := true }
def FnExactHearMailUptoSaid : Prop := fnExactHearMailUptoRow.holds Tryz.pinned (OpenSpec.upto fnExactHearMailSpec)

/-- 'laws.FnExactCrashAt', WHERE WHAT IT READS IS OF BULK AT MOST 1048576: true; the input reads as it did. -/
def fnExactCrashAtUptoRow : OpenClaim := { program := "ytkodedpplfekdaagreat", sum := "8172f15a67e80865d36a1c6291a76b5eca676715d1d69358b24eee06f87dc270", func := "loop.example/g00222/laws.FnExactCrashAt", spec := "fnExactCrashAt", unfollowed := true, recurses := true, apart := false, narrowed := true }
def FnExactCrashAtUptoSaid : Prop := fnExactCrashAtUptoRow.holds Tryz.pinned (OpenSpec.upto fnExactCrashAtSpec)

/-- 'laws.FnExactAskAt', WHERE WHAT IT READS IS OF BULK AT MOST 1048576: true; the input reads as it did. -/
def fnExactAskAtUptoRow : OpenClaim := { program := "ytkodedpplfekdaagreat", sum := "8172f15a67e80865d36a1c6291a76b5eca676715d1d69358b24eee06f87dc270", func := "loop.example/g00222/laws.FnExactAskAt", spec := "fnExactAskAt", unfollowed := true, recurses := true, apart := false, narrowed := true }
def FnExactAskAtUptoSaid : Prop := fnExactAskAtUptoRow.holds Tryz.pinned (OpenSpec.upto fnExactAskAtSpec)

/-- 'laws.FnExactSpreadAt', WHERE WHAT IT READS IS OF BULK AT MOST 1048576: true; the input reads as it did. -/
def fnExactSpreadAtUptoRow : OpenClaim := { program := "ytkodedpplfekdaagreat", sum := "8172f15a67e80865d36a1c6291a76b5eca676715d1d69358b24eee06f87dc270", func := "loop.example/g00222/laws.FnExactSpreadAt", spec := "fnExactSpreadAt", unfollowed := true, recurses := true, apart := false, narrowed := true }
def FnExactSpreadAtUptoSaid : Prop := fnExactSpreadAtUptoRow.holds Tryz.pinned (OpenSpec.upto fnExactSpreadAtSpec)

/-- 'laws.FnExactDeliverMail', WHERE WHAT IT READS IS OF BULK AT MOST 1048576: true; the input reads as it did. -/
def fnExactDeliverMailUptoRow : OpenClaim := { program := "ytkodedpplfekdaagreat", sum := "8172f15a67e80865d36a1c6291a76b5eca676715d1d69358b24eee06f87dc270", func := "loop.example/g00222/laws.FnExactDeliverMail", spec := "fnExactDeliverMail", inPlace := ["slices.overlaps[int64]"], unfollowed := true, recurses := true, apart := false, narrowed := true }
def FnExactDeliverMailUptoSaid : Prop := fnExactDeliverMailUptoRow.holds Tryz.pinned (OpenSpec.upto fnExactDeliverMailSpec)

end Rows
end Go.Proofs.YtkodedpplfekdaaGreat
