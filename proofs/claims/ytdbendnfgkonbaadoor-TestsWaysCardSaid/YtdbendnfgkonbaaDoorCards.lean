/-
  DERIVED. GIVEN WITH THE SEED: THE CARDS: each row of YtdbendnfgkonbaaDoorRows.lean that lists a variable, with what it lists TIED to the program's text (the seventh form; the later family's looks); each row that meets fmt, with fmt's text TOLD by the authors' own Lean function (tested against real Go, not proved from fmt's source: count such statements apart). THE CARD IS WHAT COUNTS. Prove the row's statement (the work); the ties are given (YtdbendnfgkonbaaDoorTie.lean); close each card by the builder's one call (the guide's Derived/Test/ToyasCard.lean, 'card_holds'). Laid BY PROGRAM, IN A SANDBOX (cutbox-door.mjs). By AI agents, Wed Nov 11 2026. No macro, syntax, notation, axiom, sorry.
-/
import Derived.Test.YtdbendnfgkonbaaDoorRows
import GoSem.ClaimSeven
namespace Go.Proofs.YtdbendnfgkonbaaDoor
namespace Rows

/-- THE TIED CARD OF 'tickinglaw07.TestsGreedy'. -/
def testsGreedyCard : Claim7 := { stood := { row := testsGreedyRow, standIns := [], harness := (true, "dab00dcf65d67cee71e69cf4849dd3e38156047f319ff6014a246132936f0765"), looks := false }, kinds := [], alts := [], laidByText := true, laidKinds := [.data, .data], laidTests := true, laidLooks := .later }
def TestsGreedyCardSaid : Prop := Claim7.holds Tryd.pinned (.plain (OpenSpec.ofChange testsGreedySpec)) testsGreedyCard

/-- THE TIED CARD OF 'tickinglaw07.TestsLeast'. -/
def testsLeastCard : Claim7 := { stood := { row := testsLeastRow, standIns := [], harness := (true, "dab00dcf65d67cee71e69cf4849dd3e38156047f319ff6014a246132936f0765"), looks := false }, kinds := [], alts := [], laidByText := true, laidKinds := [.data, .data], laidTests := true, laidLooks := .later }
def TestsLeastCardSaid : Prop := Claim7.holds Tryd.pinned (.plain (OpenSpec.ofChange testsLeastSpec)) testsLeastCard

/-- THE TIED CARD OF 'tickinglaw07.TestsMore'. -/
def testsMoreCard : Claim7 := { stood := { row := testsMoreRow, standIns := [], harness := (true, "dab00dcf65d67cee71e69cf4849dd3e38156047f319ff6014a246132936f0765"), looks := false }, kinds := [], alts := [], laidByText := true, laidKinds := [.data, .data], laidTests := true, laidLooks := .later }
def TestsMoreCardSaid : Prop := Claim7.holds Tryd.pinned (.plain (OpenSpec.ofChange testsMoreSpec)) testsMoreCard

/-- THE TIED CARD OF 'tickinglaw07.TestsWays'. -/
def testsWaysCard : Claim7 := { stood := { row := testsWaysRow, standIns := [], harness := (true, "dab00dcf65d67cee71e69cf4849dd3e38156047f319ff6014a246132936f0765"), looks := false }, kinds := [], alts := [], laidByText := true, laidKinds := [.data, .data], laidTests := true, laidLooks := .later }
def TestsWaysCardSaid : Prop := Claim7.holds Tryd.pinned (.plain (OpenSpec.ofChange testsWaysSpec)) testsWaysCard

/-- THE TIED CARD OF 'tickinglaw07.TestsDoubles'. -/
def testsDoublesCard : Claim7 := { stood := { row := testsDoublesRow, standIns := [], harness := (true, "dab00dcf65d67cee71e69cf4849dd3e38156047f319ff6014a246132936f0765"), looks := false }, kinds := [], alts := [], laidByText := true, laidKinds := [.data, .data], laidTests := true, laidLooks := .later }
def TestsDoublesCardSaid : Prop := Claim7.holds Tryd.pinned (.plain (OpenSpec.ofChange testsDoublesSpec)) testsDoublesCard

/-- THE TIED CARD OF 'tickinglaw07.TestsCovers'. -/
def testsCoversCard : Claim7 := { stood := { row := testsCoversRow, standIns := [], harness := (true, "dab00dcf65d67cee71e69cf4849dd3e38156047f319ff6014a246132936f0765"), looks := false }, kinds := [], alts := [], laidByText := true, laidKinds := [.data, .data], laidTests := true, laidLooks := .later }
def TestsCoversCardSaid : Prop := Claim7.holds Tryd.pinned (.plain (OpenSpec.ofChange testsCoversSpec)) testsCoversCard

/-- THE TIED CARD OF 'tickinglaw07.TestsOwn'. -/
def testsOwnCard : Claim7 := { stood := { row := testsOwnRow, standIns := [], harness := (true, "dab00dcf65d67cee71e69cf4849dd3e38156047f319ff6014a246132936f0765"), looks := false }, kinds := [], alts := [], laidByText := true, laidKinds := [.data, .data], laidTests := true, laidLooks := .later }
def TestsOwnCardSaid : Prop := Claim7.holds Tryd.pinned (.plain (OpenSpec.ofChange testsOwnSpec)) testsOwnCard

/-- THE SECOND FORM's CARD OF 'tickinglaw07.TestsGreedy'. -/
def testsGreedyUptoCard : Claim7 := { stood := { row := testsGreedyUptoRow, standIns := [], harness := (true, "dab00dcf65d67cee71e69cf4849dd3e38156047f319ff6014a246132936f0765"), looks := false }, kinds := [], alts := [], laidByText := true, laidKinds := [.data, .data], laidTests := true, laidLooks := .later }
def TestsGreedyUptoCardSaid : Prop := Claim7.holds Tryd.pinned (.plain (OpenSpec.upto testsGreedySpec)) testsGreedyUptoCard

/-- THE SECOND FORM's CARD OF 'tickinglaw07.TestsLeast'. -/
def testsLeastUptoCard : Claim7 := { stood := { row := testsLeastUptoRow, standIns := [], harness := (true, "dab00dcf65d67cee71e69cf4849dd3e38156047f319ff6014a246132936f0765"), looks := false }, kinds := [], alts := [], laidByText := true, laidKinds := [.data, .data], laidTests := true, laidLooks := .later }
def TestsLeastUptoCardSaid : Prop := Claim7.holds Tryd.pinned (.plain (OpenSpec.upto testsLeastSpec)) testsLeastUptoCard

/-- THE SECOND FORM's CARD OF 'tickinglaw07.TestsMore'. -/
def testsMoreUptoCard : Claim7 := { stood := { row := testsMoreUptoRow, standIns := [], harness := (true, "dab00dcf65d67cee71e69cf4849dd3e38156047f319ff6014a246132936f0765"), looks := false }, kinds := [], alts := [], laidByText := true, laidKinds := [.data, .data], laidTests := true, laidLooks := .later }
def TestsMoreUptoCardSaid : Prop := Claim7.holds Tryd.pinned (.plain (OpenSpec.upto testsMoreSpec)) testsMoreUptoCard

/-- THE SECOND FORM's CARD OF 'tickinglaw07.TestsWays'. -/
def testsWaysUptoCard : Claim7 := { stood := { row := testsWaysUptoRow, standIns := [], harness := (true, "dab00dcf65d67cee71e69cf4849dd3e38156047f319ff6014a246132936f0765"), looks := false }, kinds := [], alts := [], laidByText := true, laidKinds := [.data, .data], laidTests := true, laidLooks := .later }
def TestsWaysUptoCardSaid : Prop := Claim7.holds Tryd.pinned (.plain (OpenSpec.upto testsWaysSpec)) testsWaysUptoCard

/-- THE SECOND FORM's CARD OF 'tickinglaw07.TestsDoubles'. -/
def testsDoublesUptoCard : Claim7 := { stood := { row := testsDoublesUptoRow, standIns := [], harness := (true, "dab00dcf65d67cee71e69cf4849dd3e38156047f319ff6014a246132936f0765"), looks := false }, kinds := [], alts := [], laidByText := true, laidKinds := [.data, .data], laidTests := true, laidLooks := .later }
def TestsDoublesUptoCardSaid : Prop := Claim7.holds Tryd.pinned (.plain (OpenSpec.upto testsDoublesSpec)) testsDoublesUptoCard

/-- THE SECOND FORM's CARD OF 'tickinglaw07.TestsCovers'. -/
def testsCoversUptoCard : Claim7 := { stood := { row := testsCoversUptoRow, standIns := [], harness := (true, "dab00dcf65d67cee71e69cf4849dd3e38156047f319ff6014a246132936f0765"), looks := false }, kinds := [], alts := [], laidByText := true, laidKinds := [.data, .data], laidTests := true, laidLooks := .later }
def TestsCoversUptoCardSaid : Prop := Claim7.holds Tryd.pinned (.plain (OpenSpec.upto testsCoversSpec)) testsCoversUptoCard

/-- THE SECOND FORM's CARD OF 'tickinglaw07.TestsOwn'. -/
def testsOwnUptoCard : Claim7 := { stood := { row := testsOwnUptoRow, standIns := [], harness := (true, "dab00dcf65d67cee71e69cf4849dd3e38156047f319ff6014a246132936f0765"), looks := false }, kinds := [], alts := [], laidByText := true, laidKinds := [.data, .data], laidTests := true, laidLooks := .later }
def TestsOwnUptoCardSaid : Prop := Claim7.holds Tryd.pinned (.plain (OpenSpec.upto testsOwnSpec)) testsOwnUptoCard
end Rows
end Go.Proofs.YtdbendnfgkonbaaDoor
