/-
  No cell of these rows narrows 'for every input' (looked for: loops, veiled, ifaces, maps, wideKeys, modest, calm, conditions, laid).
  DERIVED. THE GIVEN ROWS OF THIS SEAT. 4 by the template 'for every input the law returns true; each argument reads behind the call as it read before'; 0 by the template 'total and deterministic' (their statements: YtcbjkkpniphhpaaGreatTotals.lean).
  GIVEN WITH THE SEED: the statements are not yours to turn. If you find one false, say at which input.
  Laid BY PROGRAM, IN A SANDBOX (cutbox-rows.mjs): the forced cells as the released guide's own fill.sh prints them over the translation e08adb40f5b4ccde… (all of the seat's roots in one cut). By AI agents, Wed Nov 11 2026. No macro, syntax, notation, axiom, sorry.
-/
import Derived.Test.YtcbjkkpniphhpaaGreatChecked
import GoSem.Claim
import GoSem.ClaimJoined
import GoSem.ClaimMapViews
import Derived.JoinedTies
import Derived.KernelRfl
namespace Go.Proofs.YtcbjkkpniphhpaaGreat
/- THE CELL 'sum', in the pinned program and in every row, IS THE sha256 OF THE DUMP (.gsa) THAT YtcbjkkpniphhpaaGreatProg.lean LOADS. Nothing in Lean hashes anything: it is a label: what it is worth is what the hold of that sum in a sandbox is worth. -/
noncomputable def Tryz.pinned : Pinned := { name := "ytcbjkkpniphhpaagreat", sum := "e08adb40f5b4ccde412d06f20ae2d6bda59a7e1942046143a850a3169553d373", checked := Tryz.checked }
namespace Rows
def none {H : Type} : Left H := { results := [], args := [] }

/-- 'laws.FnReplays': WHATEVER THE INPUT: true; the input reads as it did. -/
def fnReplaysSpec : ChangeSpec := { name := "fnReplays", fn := fun _ => fun
  | [d] => { results := [.lit (.bool true)], args := [d] }
  | _ => none }
def fnReplaysRow : OpenClaim := { program := "ytcbjkkpniphhpaagreat", sum := "e08adb40f5b4ccde412d06f20ae2d6bda59a7e1942046143a850a3169553d373", func := "loop.example/g00222/laws.FnReplays", spec := "fnReplays", inPlace := ["slices.overlaps[int64]", "slices.overlaps[loop.example/g00222/impl.Session]"], unfollowed := true, recurses := true, apart := false }
def FnReplaysSaid : Prop := fnReplaysRow.holds Tryz.pinned (OpenSpec.ofChange fnReplaysSpec)

/-- ITS FALSE NEIGHBOUR: 'it returns false'. Refute it at one input. -/
def fnReplaysWrong : ChangeSpec := { name := "fnReplays", fn := fun _ => fun
  | [d] => { results := [.lit (.bool false)], args := [d] }
  | _ => none }
def FnReplaysWrongFalsely : Prop := fnReplaysRow.holds Tryz.pinned (OpenSpec.ofChange fnReplaysWrong)

/-- 'laws.FnServes': WHATEVER THE INPUT: true; the input reads as it did. -/
def fnServesSpec : ChangeSpec := { name := "fnServes", fn := fun _ => fun
  | [d] => { results := [.lit (.bool true)], args := [d] }
  | _ => none }
def fnServesRow : OpenClaim := { program := "ytcbjkkpniphhpaagreat", sum := "e08adb40f5b4ccde412d06f20ae2d6bda59a7e1942046143a850a3169553d373", func := "loop.example/g00222/laws.FnServes", spec := "fnServes", inPlace := ["slices.overlaps[int64]"], unfollowed := true, recurses := true, apart := false }
def FnServesSaid : Prop := fnServesRow.holds Tryz.pinned (OpenSpec.ofChange fnServesSpec)

/-- ITS FALSE NEIGHBOUR: 'it returns false'. Refute it at one input. -/
def fnServesWrong : ChangeSpec := { name := "fnServes", fn := fun _ => fun
  | [d] => { results := [.lit (.bool false)], args := [d] }
  | _ => none }
def FnServesWrongFalsely : Prop := fnServesRow.holds Tryz.pinned (OpenSpec.ofChange fnServesWrong)

/-- 'laws.FnOnce': WHATEVER THE INPUT: true; the input reads as it did. -/
def fnOnceSpec : ChangeSpec := { name := "fnOnce", fn := fun _ => fun
  | [d] => { results := [.lit (.bool true)], args := [d] }
  | _ => none }
def fnOnceRow : OpenClaim := { program := "ytcbjkkpniphhpaagreat", sum := "e08adb40f5b4ccde412d06f20ae2d6bda59a7e1942046143a850a3169553d373", func := "loop.example/g00222/laws.FnOnce", spec := "fnOnce", inPlace := ["slices.overlaps[int64]", "slices.overlaps[loop.example/g00222/impl.Session]"], unfollowed := true, recurses := true, apart := false }
def FnOnceSaid : Prop := fnOnceRow.holds Tryz.pinned (OpenSpec.ofChange fnOnceSpec)

/-- ITS FALSE NEIGHBOUR: 'it returns false'. Refute it at one input. -/
def fnOnceWrong : ChangeSpec := { name := "fnOnce", fn := fun _ => fun
  | [d] => { results := [.lit (.bool false)], args := [d] }
  | _ => none }
def FnOnceWrongFalsely : Prop := fnOnceRow.holds Tryz.pinned (OpenSpec.ofChange fnOnceWrong)

/-- 'laws.FnWatches': WHATEVER THE INPUT: true; the input reads as it did. -/
def fnWatchesSpec : ChangeSpec := { name := "fnWatches", fn := fun _ => fun
  | [d] => { results := [.lit (.bool true)], args := [d] }
  | _ => none }
def fnWatchesRow : OpenClaim := { program := "ytcbjkkpniphhpaagreat", sum := "e08adb40f5b4ccde412d06f20ae2d6bda59a7e1942046143a850a3169553d373", func := "loop.example/g00222/laws.FnWatches", spec := "fnWatches", inPlace := ["slices.overlaps[int64]"], unfollowed := true, recurses := true, apart := false }
def FnWatchesSaid : Prop := fnWatchesRow.holds Tryz.pinned (OpenSpec.ofChange fnWatchesSpec)

/-- ITS FALSE NEIGHBOUR: 'it returns false'. Refute it at one input. -/
def fnWatchesWrong : ChangeSpec := { name := "fnWatches", fn := fun _ => fun
  | [d] => { results := [.lit (.bool false)], args := [d] }
  | _ => none }
def FnWatchesWrongFalsely : Prop := fnWatchesRow.holds Tryz.pinned (OpenSpec.ofChange fnWatchesWrong)

/- THE SECOND FORM. 'bulk': how many values and letters a reading holds, each counted each time it is reached (what is shared counts as often as it is met; a slice's spare places count too). A statement '..UptoSaid' is the law's where the arguments, and the package variables that the reading takes, are together of bulk at most 1048576: NARROWER than '..Said'. Prove '..Said' where nothing that the law and all that it calls make is longer than what came in: it says more and counts as full. Else prove '..UptoSaid'. A law counts once. -/
mutual
def uptoBulk {H : Type} : DataW H → Nat
  | .lit (.string bytes) => bytes.length + 1
  | .lit _ => 1
  | .nil => 1
  | .ptr d => uptoBulk d + 1
  | .slice elems spare => uptoBulkAll elems + uptoBulkAll spare + 1
  | .agg parts => uptoBulkAll parts + 1
  | .iface _ d => uptoBulk d + 1
  | .map entries => uptoBulkEntries entries + 1
  | .held _ => 1
def uptoBulkAll {H : Type} : List (DataW H) → Nat
  | [] => 0
  | d :: r => uptoBulk d + uptoBulkAll r
def uptoBulkEntries {H : Type} : List (Lit × DataW H) → Nat
  | [] => 0
  | x :: r => uptoBulkEntry x + uptoBulkEntries r
def uptoBulkEntry {H : Type} : Lit × DataW H → Nat
  | (.string bytes, d) => bytes.length + uptoBulk d + 1
  | (_, d) => uptoBulk d + 1
 end
def uptoSmall : (H : Type) → List (DataW H) → Bool := fun _ ds => decide (uptoBulkAll ds ≤ 1048576)
def OpenSpec.upto (s : _root_.Go.ChangeSpec) : _root_.Go.OpenSpec := { _root_.Go.OpenSpec.ofChange s with cond := some uptoSmall }

/-- 'laws.FnReplays', WHERE WHAT IT READS IS OF BULK AT MOST 1048576: true; the input reads as it did. -/
def fnReplaysUptoRow : OpenClaim := { program := "ytcbjkkpniphhpaagreat", sum := "e08adb40f5b4ccde412d06f20ae2d6bda59a7e1942046143a850a3169553d373", func := "loop.example/g00222/laws.FnReplays", spec := "fnReplays", inPlace := ["slices.overlaps[int64]", "slices.overlaps[loop.example/g00222/impl.Session]"], unfollowed := true, recurses := true, apart := false, narrowed := true }
def FnReplaysUptoSaid : Prop := fnReplaysUptoRow.holds Tryz.pinned (OpenSpec.upto fnReplaysSpec)

/-- 'laws.FnServes', WHERE WHAT IT READS IS OF BULK AT MOST 1048576: true; the input reads as it did. -/
def fnServesUptoRow : OpenClaim := { program := "ytcbjkkpniphhpaagreat", sum := "e08adb40f5b4ccde412d06f20ae2d6bda59a7e1942046143a850a3169553d373", func := "loop.example/g00222/laws.FnServes", spec := "fnServes", inPlace := ["slices.overlaps[int64]"], unfollowed := true, recurses := true, apart := false, narrowed := true }
def FnServesUptoSaid : Prop := fnServesUptoRow.holds Tryz.pinned (OpenSpec.upto fnServesSpec)

/-- 'laws.FnOnce', WHERE WHAT IT READS IS OF BULK AT MOST 1048576: true; the input reads as it did. -/
def fnOnceUptoRow : OpenClaim := { program := "ytcbjkkpniphhpaagreat", sum := "e08adb40f5b4ccde412d06f20ae2d6bda59a7e1942046143a850a3169553d373", func := "loop.example/g00222/laws.FnOnce", spec := "fnOnce", inPlace := ["slices.overlaps[int64]", "slices.overlaps[loop.example/g00222/impl.Session]"], unfollowed := true, recurses := true, apart := false, narrowed := true }
def FnOnceUptoSaid : Prop := fnOnceUptoRow.holds Tryz.pinned (OpenSpec.upto fnOnceSpec)

/-- 'laws.FnWatches', WHERE WHAT IT READS IS OF BULK AT MOST 1048576: true; the input reads as it did. -/
def fnWatchesUptoRow : OpenClaim := { program := "ytcbjkkpniphhpaagreat", sum := "e08adb40f5b4ccde412d06f20ae2d6bda59a7e1942046143a850a3169553d373", func := "loop.example/g00222/laws.FnWatches", spec := "fnWatches", inPlace := ["slices.overlaps[int64]"], unfollowed := true, recurses := true, apart := false, narrowed := true }
def FnWatchesUptoSaid : Prop := fnWatchesUptoRow.holds Tryz.pinned (OpenSpec.upto fnWatchesSpec)

end Rows
end Go.Proofs.YtcbjkkpniphhpaaGreat
