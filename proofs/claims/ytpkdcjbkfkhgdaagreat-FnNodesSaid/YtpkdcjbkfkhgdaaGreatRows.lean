/-
  No cell of these rows narrows 'for every input' (looked for: loops, veiled, ifaces, maps, wideKeys, modest, calm, conditions, laid).
  DERIVED. THE GIVEN ROWS OF THIS SEAT. 5 by the template 'for every input the law returns true; each argument reads behind the call as it read before'; 0 by the template 'total and deterministic' (their statements: YtpkdcjbkfkhgdaaGreatTotals.lean).
  GIVEN WITH THE SEED: the statements are not yours to turn. If you find one false, say at which input.
  Laid BY PROGRAM, IN A SANDBOX (cutbox-rows.mjs): the forced cells as the released guide's own fill.sh prints them over the translation 11c322855a9334d4… (all of the seat's roots in one cut). By AI agents, Wed Nov 11 2026. No macro, syntax, notation, axiom, sorry.
-/
import Derived.Test.YtpkdcjbkfkhgdaaGreatChecked
import GoSem.Claim
import GoSem.ClaimJoined
import GoSem.ClaimMapViews
import Derived.JoinedTies
import Derived.KernelRfl
namespace Go.Proofs.YtpkdcjbkfkhgdaaGreat
/- THE CELL 'sum', in the pinned program and in every row, IS THE sha256 OF THE DUMP (.gsa) THAT YtpkdcjbkfkhgdaaGreatProg.lean LOADS. Nothing in Lean hashes anything: it is a label: what it is worth is what the hold of that sum in a sandbox is worth. -/
noncomputable def Tryz.pinned : Pinned := { name := "ytpkdcjbkfkhgdaagreat", sum := "11c322855a9334d41fd52ec6a30de23ff19d0c4f8a589bb7ea173189850e1c04", checked := Tryz.checked }
namespace Rows
def none {H : Type} : Left H := { results := [], args := [] }

/-- 'laws.FnSafe': WHATEVER THE INPUT: true; the input reads as it did. -/
def fnSafeSpec : ChangeSpec := { name := "fnSafe", fn := fun _ => fun
  | [d] => { results := [.lit (.bool true)], args := [d] }
  | _ => none }
def fnSafeRow : OpenClaim := { program := "ytpkdcjbkfkhgdaagreat", sum := "11c322855a9334d41fd52ec6a30de23ff19d0c4f8a589bb7ea173189850e1c04", func := "loop.example/g00222/laws.FnSafe", spec := "fnSafe", inPlace := ["slices.overlaps[int64]"], unfollowed := true, recurses := true, apart := false }
def FnSafeSaid : Prop := fnSafeRow.holds Tryz.pinned (OpenSpec.ofChange fnSafeSpec)

/-- ITS FALSE NEIGHBOUR: 'it returns false'. Refute it at one input. -/
def fnSafeWrong : ChangeSpec := { name := "fnSafe", fn := fun _ => fun
  | [d] => { results := [.lit (.bool false)], args := [d] }
  | _ => none }
def FnSafeWrongFalsely : Prop := fnSafeRow.holds Tryz.pinned (OpenSpec.ofChange fnSafeWrong)

/-- 'laws.FnElects': WHATEVER THE INPUT: true; the input reads as it did. -/
def fnElectsSpec : ChangeSpec := { name := "fnElects", fn := fun _ => fun
  | [d] => { results := [.lit (.bool true)], args := [d] }
  | _ => none }
def fnElectsRow : OpenClaim := { program := "ytpkdcjbkfkhgdaagreat", sum := "11c322855a9334d41fd52ec6a30de23ff19d0c4f8a589bb7ea173189850e1c04", func := "loop.example/g00222/laws.FnElects", spec := "fnElects", inPlace := ["slices.overlaps[int64]"], unfollowed := true, recurses := true, apart := false }
def FnElectsSaid : Prop := fnElectsRow.holds Tryz.pinned (OpenSpec.ofChange fnElectsSpec)

/-- ITS FALSE NEIGHBOUR: 'it returns false'. Refute it at one input. -/
def fnElectsWrong : ChangeSpec := { name := "fnElects", fn := fun _ => fun
  | [d] => { results := [.lit (.bool false)], args := [d] }
  | _ => none }
def FnElectsWrongFalsely : Prop := fnElectsRow.holds Tryz.pinned (OpenSpec.ofChange fnElectsWrong)

/-- 'laws.FnNodes': WHATEVER THE INPUT: true; the input reads as it did. -/
def fnNodesSpec : ChangeSpec := { name := "fnNodes", fn := fun _ => fun
  | [d] => { results := [.lit (.bool true)], args := [d] }
  | _ => none }
def fnNodesRow : OpenClaim := { program := "ytpkdcjbkfkhgdaagreat", sum := "11c322855a9334d41fd52ec6a30de23ff19d0c4f8a589bb7ea173189850e1c04", func := "loop.example/g00222/laws.FnNodes", spec := "fnNodes", inPlace := ["slices.overlaps[int64]"], unfollowed := true, recurses := true, apart := false }
def FnNodesSaid : Prop := fnNodesRow.holds Tryz.pinned (OpenSpec.ofChange fnNodesSpec)

/-- ITS FALSE NEIGHBOUR: 'it returns false'. Refute it at one input. -/
def fnNodesWrong : ChangeSpec := { name := "fnNodes", fn := fun _ => fun
  | [d] => { results := [.lit (.bool false)], args := [d] }
  | _ => none }
def FnNodesWrongFalsely : Prop := fnNodesRow.holds Tryz.pinned (OpenSpec.ofChange fnNodesWrong)

/-- 'laws.FnProgress': WHATEVER THE INPUT: true; the input reads as it did. -/
def fnProgressSpec : ChangeSpec := { name := "fnProgress", fn := fun _ => fun
  | [d] => { results := [.lit (.bool true)], args := [d] }
  | _ => none }
def fnProgressRow : OpenClaim := { program := "ytpkdcjbkfkhgdaagreat", sum := "11c322855a9334d41fd52ec6a30de23ff19d0c4f8a589bb7ea173189850e1c04", func := "loop.example/g00222/laws.FnProgress", spec := "fnProgress", inPlace := ["slices.overlaps[int64]"], unfollowed := true, recurses := true, apart := false }
def FnProgressSaid : Prop := fnProgressRow.holds Tryz.pinned (OpenSpec.ofChange fnProgressSpec)

/-- ITS FALSE NEIGHBOUR: 'it returns false'. Refute it at one input. -/
def fnProgressWrong : ChangeSpec := { name := "fnProgress", fn := fun _ => fun
  | [d] => { results := [.lit (.bool false)], args := [d] }
  | _ => none }
def FnProgressWrongFalsely : Prop := fnProgressRow.holds Tryz.pinned (OpenSpec.ofChange fnProgressWrong)

/-- 'laws.FnClusters': WHATEVER THE INPUT: true; the input reads as it did. -/
def fnClustersSpec : ChangeSpec := { name := "fnClusters", fn := fun _ => fun
  | [d] => { results := [.lit (.bool true)], args := [d] }
  | _ => none }
def fnClustersRow : OpenClaim := { program := "ytpkdcjbkfkhgdaagreat", sum := "11c322855a9334d41fd52ec6a30de23ff19d0c4f8a589bb7ea173189850e1c04", func := "loop.example/g00222/laws.FnClusters", spec := "fnClusters", inPlace := ["slices.overlaps[int64]"], unfollowed := true, recurses := true, apart := false }
def FnClustersSaid : Prop := fnClustersRow.holds Tryz.pinned (OpenSpec.ofChange fnClustersSpec)

/-- ITS FALSE NEIGHBOUR: 'it returns false'. Refute it at one input. -/
def fnClustersWrong : ChangeSpec := { name := "fnClusters", fn := fun _ => fun
  | [d] => { results := [.lit (.bool false)], args := [d] }
  | _ => none }
def FnClustersWrongFalsely : Prop := fnClustersRow.holds Tryz.pinned (OpenSpec.ofChange fnClustersWrong)

/- THE SECOND FORM. 'bulk': how many values and letters a reading holds, each counted each time it is reached (what is shared counts as often as it is met; a slice's spare places count too). A statement '..UptoSaid' is the law's where the arguments, and the package variables that the reading takes, are together of bulk at most 1048576: NARROWER than '..Said'. Prove '..Said' where nothing that the law and all that it calls make is longer than what came in: it says more and counts as full. Else prove '..UptoSaid'. A law counts once. -/
mutual
def uptoBulk {H : Type} : DataW H → Nat
  | .lit (.string bytes) => bytes.length + 1
  | .lit _ => 1
  | .nil => 1
  | .ptr d => uptoBulk d + 1
  | .slice elems spare => uptoBulkAll elems + uptoBulkAll spare + 1
  | .agg parts => uptoBulkAll parts + 1
  | .iface _ d => uptoBulk d + 1
  | .map entries => uptoBulkEntries entries + 1
  | .held _ => 1
def uptoBulkAll {H : Type} : List (DataW H) → Nat
  | [] => 0
  | d :: r => uptoBulk d + uptoBulkAll r
def uptoBulkEntries {H : Type} : List (Lit × DataW H) → Nat
  | [] => 0
  | x :: r => uptoBulkEntry x + uptoBulkEntries r
def uptoBulkEntry {H : Type} : Lit × DataW H → Nat
  | (.string bytes, d) => bytes.length + uptoBulk d + 1
  | (_, d) => uptoBulk d + 1
 end
def uptoSmall : (H : Type) → List (DataW H) → Bool := fun _ ds => decide (uptoBulkAll ds ≤ 1048576)
def OpenSpec.upto (s : _root_.Go.ChangeSpec) : _root_.Go.OpenSpec := { _root_.Go.OpenSpec.ofChange s with cond := some uptoSmall }

/-- 'laws.FnSafe', WHERE WHAT IT READS IS OF BULK AT MOST 1048576: true; the input reads as it did. -/
def fnSafeUptoRow : OpenClaim := { program := "ytpkdcjbkfkhgdaagreat", sum := "11c322855a9334d41fd52ec6a30de23ff19d0c4f8a589bb7ea173189850e1c04", func := "loop.example/g00222/laws.FnSafe", spec := "fnSafe", inPlace := ["slices.overlaps[int64]"], unfollowed := true, recurses := true, apart := false, narrowed := true }
def FnSafeUptoSaid : Prop := fnSafeUptoRow.holds Tryz.pinned (OpenSpec.upto fnSafeSpec)

/-- 'laws.FnElects', WHERE WHAT IT READS IS OF BULK AT MOST 1048576: true; the input reads as it did. -/
def fnElectsUptoRow : OpenClaim := { program := "ytpkdcjbkfkhgdaagreat", sum := "11c322855a9334d41fd52ec6a30de23ff19d0c4f8a589bb7ea173189850e1c04", func := "loop.example/g00222/laws.FnElects", spec := "fnElects", inPlace := ["slices.overlaps[int64]"], unfollowed := true, recurses := true, apart := false, narrowed := true }
def FnElectsUptoSaid : Prop := fnElectsUptoRow.holds Tryz.pinned (OpenSpec.upto fnElectsSpec)

/-- 'laws.FnNodes', WHERE WHAT IT READS IS OF BULK AT MOST 1048576: true; the input reads as it did. -/
def fnNodesUptoRow : OpenClaim := { program := "ytpkdcjbkfkhgdaagreat", sum := "11c322855a9334d41fd52ec6a30de23ff19d0c4f8a589bb7ea173189850e1c04", func := "loop.example/g00222/laws.FnNodes", spec := "fnNodes", inPlace := ["slices.overlaps[int64]"], unfollowed := true, recurses := true, apart := false, narrowed := true }
def FnNodesUptoSaid : Prop := fnNodesUptoRow.holds Tryz.pinned (OpenSpec.upto fnNodesSpec)

/-- 'laws.FnProgress', WHERE WHAT IT READS IS OF BULK AT MOST 1048576: true; the input reads as it did. -/
def fnProgressUptoRow : OpenClaim := { program := "ytpkdcjbkfkhgdaagreat", sum := "11c322855a9334d41fd52ec6a30de23ff19d0c4f8a589bb7ea173189850e1c04", func := "loop.example/g00222/laws.FnProgress", spec := "fnProgress", inPlace := ["slices.overlaps[int64]"], unfollowed := true, recurses := true, apart := false, narrowed := true }
def FnProgressUptoSaid : Prop := fnProgressUptoRow.holds Tryz.pinned (OpenSpec.upto fnProgressSpec)

/-- 'laws.FnClusters', WHERE WHAT IT READS IS OF BULK AT MOST 1048576: true; the input reads as it did. -/
def fnClustersUptoRow : OpenClaim := { program := "ytpkdcjbkfkhgdaagreat", sum := "11c322855a9334d41fd52ec6a30de23ff19d0c4f8a589bb7ea173189850e1c04", func := "loop.example/g00222/laws.FnClusters", spec := "fnClusters", inPlace := ["slices.overlaps[int64]"], unfollowed := true, recurses := true, apart := false, narrowed := true }
def FnClustersUptoSaid : Prop := fnClustersUptoRow.holds Tryz.pinned (OpenSpec.upto fnClustersSpec)

end Rows
end Go.Proofs.YtpkdcjbkfkhgdaaGreat
