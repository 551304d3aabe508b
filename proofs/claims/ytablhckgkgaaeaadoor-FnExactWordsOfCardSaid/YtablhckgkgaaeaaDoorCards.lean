/-
  DERIVED. GIVEN WITH THE SEED: THE CARDS: each row of YtablhckgkgaaeaaDoorRows.lean that lists a variable, with what it lists TIED to the program's text (the seventh form; the later family's looks); each row that meets fmt, with fmt's text TOLD by the authors' own Lean function (tested against real Go, not proved from fmt's source: count such statements apart). THE CARD IS WHAT COUNTS. Prove the row's statement (the work); the ties are given (YtablhckgkgaaeaaDoorTie.lean); close each card by the builder's one call (the guide's Derived/Test/ToyasCard.lean, 'card_holds'). Laid BY PROGRAM, IN A SANDBOX (cutbox-door.mjs). By AI agents, Wed Nov 11 2026. No macro, syntax, notation, axiom, sorry.
-/
import Derived.Test.YtablhckgkgaaeaaDoorRows
import GoSem.ClaimSeven
namespace Go.Proofs.YtablhckgkgaaeaaDoor
namespace Rows

/-- THE TIED CARD OF 'laws.FnExactWordsOf'. -/
def fnExactWordsOfCard : Claim7 := { stood := { row := fnExactWordsOfRow, standIns := [], harness := (true, "afd8ed2c5d5a119f8f148732b3d6805afe17074de152bff1430bbc5b623e7bb8"), looks := false }, kinds := [], alts := [], laidByText := true, laidKinds := [.data, .pinned], laidTests := true, laidLooks := .later }
def FnExactWordsOfCardSaid : Prop := Claim7.holds Tryd.pinned (.plain (OpenSpec.ofChange fnExactWordsOfSpec)) fnExactWordsOfCard

/-- THE TIED CARD OF 'laws.FnExactCmdLine'. -/
def fnExactCmdLineCard : Claim7 := { stood := { row := fnExactCmdLineRow, standIns := [], harness := (true, "afd8ed2c5d5a119f8f148732b3d6805afe17074de152bff1430bbc5b623e7bb8"), looks := false }, kinds := [], alts := [], laidByText := true, laidKinds := [.data, .data, .data], laidTests := true, laidLooks := .later }
def FnExactCmdLineCardSaid : Prop := Claim7.holds Tryd.pinned (.plain (OpenSpec.ofChange fnExactCmdLineSpec)) fnExactCmdLineCard

/-- THE SECOND FORM's CARD OF 'laws.FnExactWordsOf'. -/
def fnExactWordsOfUptoCard : Claim7 := { stood := { row := fnExactWordsOfUptoRow, standIns := [], harness := (true, "afd8ed2c5d5a119f8f148732b3d6805afe17074de152bff1430bbc5b623e7bb8"), looks := false }, kinds := [], alts := [], laidByText := true, laidKinds := [.data, .pinned], laidTests := true, laidLooks := .later }
def FnExactWordsOfUptoCardSaid : Prop := Claim7.holds Tryd.pinned (.plain (OpenSpec.upto fnExactWordsOfSpec)) fnExactWordsOfUptoCard

/-- THE SECOND FORM's CARD OF 'laws.FnExactCmdLine'. -/
def fnExactCmdLineUptoCard : Claim7 := { stood := { row := fnExactCmdLineUptoRow, standIns := [], harness := (true, "afd8ed2c5d5a119f8f148732b3d6805afe17074de152bff1430bbc5b623e7bb8"), looks := false }, kinds := [], alts := [], laidByText := true, laidKinds := [.data, .data, .data], laidTests := true, laidLooks := .later }
def FnExactCmdLineUptoCardSaid : Prop := Claim7.holds Tryd.pinned (.plain (OpenSpec.upto fnExactCmdLineSpec)) fnExactCmdLineUptoCard
end Rows
end Go.Proofs.YtablhckgkgaaeaaDoor
