/-
  NARROWER THAN 'FOR EVERY INPUT', by the rows' own cells (each row's printed sentence says how): TestsGreedy: laid · TestsLeast: laid · TestsMore: laid · TestsWays: laid · TestsDoubles: laid · TestsCovers: laid · TestsOwn: laid.
  DERIVED. THE GIVEN ROWS OF THIS SEAT. 7 by the template 'for every input the law returns true; each argument reads behind the call as it read before'; 0 by the template 'total and deterministic' (their statements: YtdbendnfgkonbaaDoorTotals.lean).
  GIVEN WITH THE SEED: the statements are not yours to turn. If you find one false, say at which input.
  Laid BY PROGRAM, IN A SANDBOX (cutbox-rows.mjs): the forced cells as the released guide's own fill.sh prints them over the translation 981a9ab349d8dc29… (all of the seat's roots in one cut). By AI agents, Wed Nov 11 2026. No macro, syntax, notation, axiom, sorry.
-/
import Derived.Test.YtdbendnfgkonbaaDoorChecked
import GoSem.Claim
import GoSem.ClaimJoined
import GoSem.ClaimMapViews
import Derived.JoinedTies
import Derived.KernelRfl
namespace Go.Proofs.YtdbendnfgkonbaaDoor
/- THE CELL 'sum', in the pinned program and in every row, IS THE sha256 OF THE DUMP (.gsa) THAT YtdbendnfgkonbaaDoorProg.lean LOADS. Nothing in Lean hashes anything: it is a label: what it is worth is what the hold of that sum in a sandbox is worth. -/
noncomputable def Tryd.pinned : Pinned := { name := "ytdbendnfgkonbaadoor", sum := "981a9ab349d8dc29078ad5d410da7fb5c7c9b7b18acbeb16221590d344d5dba6", checked := Tryd.checked }
namespace Rows
def none {H : Type} : Left H := { results := [], args := [] }

/- WHAT THE LISTED PACKAGE-LEVEL VARIABLES READ AS WHEN THE CALL BEGINS. Each datum BY PROGRAM (the guide's laid-datum.mjs) off the statement by which the dump's own 'gosem.cut.vars' lays the variable. In a bare row this is a premise. The card (YtdbendnfgkonbaaDoorCards.lean) ties it to the program's text. -/
def laid_math_bits_deBruijn32tab {H : Type} : DataW H := .agg [.lit (.int .u8 0), .lit (.int .u8 1), .lit (.int .u8 28), .lit (.int .u8 2), .lit (.int .u8 29), .lit (.int .u8 14), .lit (.int .u8 24), .lit (.int .u8 3), .lit (.int .u8 30), .lit (.int .u8 22), .lit (.int .u8 20), .lit (.int .u8 15), .lit (.int .u8 25), .lit (.int .u8 17), .lit (.int .u8 4), .lit (.int .u8 8), .lit (.int .u8 31), .lit (.int .u8 27), .lit (.int .u8 13), .lit (.int .u8 23), .lit (.int .u8 21), .lit (.int .u8 19), .lit (.int .u8 16), .lit (.int .u8 7), .lit (.int .u8 26), .lit (.int .u8 12), .lit (.int .u8 18), .lit (.int .u8 6), .lit (.int .u8 11), .lit (.int .u8 5), .lit (.int .u8 10), .lit (.int .u8 9)]
def laid_math_bits_deBruijn64tab {H : Type} : DataW H := .agg [.lit (.int .u8 0), .lit (.int .u8 1), .lit (.int .u8 56), .lit (.int .u8 2), .lit (.int .u8 57), .lit (.int .u8 49), .lit (.int .u8 28), .lit (.int .u8 3), .lit (.int .u8 61), .lit (.int .u8 58), .lit (.int .u8 42), .lit (.int .u8 50), .lit (.int .u8 38), .lit (.int .u8 29), .lit (.int .u8 17), .lit (.int .u8 4), .lit (.int .u8 62), .lit (.int .u8 47), .lit (.int .u8 59), .lit (.int .u8 36), .lit (.int .u8 45), .lit (.int .u8 43), .lit (.int .u8 51), .lit (.int .u8 22), .lit (.int .u8 53), .lit (.int .u8 39), .lit (.int .u8 33), .lit (.int .u8 30), .lit (.int .u8 24), .lit (.int .u8 18), .lit (.int .u8 12), .lit (.int .u8 5), .lit (.int .u8 63), .lit (.int .u8 55), .lit (.int .u8 48), .lit (.int .u8 27), .lit (.int .u8 60), .lit (.int .u8 41), .lit (.int .u8 37), .lit (.int .u8 16), .lit (.int .u8 46), .lit (.int .u8 35), .lit (.int .u8 44), .lit (.int .u8 21), .lit (.int .u8 52), .lit (.int .u8 32), .lit (.int .u8 23), .lit (.int .u8 11), .lit (.int .u8 54), .lit (.int .u8 26), .lit (.int .u8 40), .lit (.int .u8 15), .lit (.int .u8 34), .lit (.int .u8 20), .lit (.int .u8 31), .lit (.int .u8 10), .lit (.int .u8 25), .lit (.int .u8 14), .lit (.int .u8 19), .lit (.int .u8 9), .lit (.int .u8 13), .lit (.int .u8 8), .lit (.int .u8 7), .lit (.int .u8 6)]

/-- 'tickinglaw07.TestsGreedy': WHATEVER THE INPUT: true; the input reads as it did. -/
def testsGreedySpec : ChangeSpec := { name := "testsGreedy", fn := fun _ => fun
  | [d] => { results := [.lit (.bool true)], args := [d] }
  | _ => none }
def testsGreedyRow : OpenClaim := { program := "ytdbendnfgkonbaadoor", sum := "981a9ab349d8dc29078ad5d410da7fb5c7c9b7b18acbeb16221590d344d5dba6", func := "ticking/tickinglaw07.TestsGreedy", spec := "testsGreedy", unfollowed := true, recurses := true, named := ["math/bits.deBruijn32tab", "math/bits.deBruijn64tab"], apart := false, laid := [("math/bits.deBruijn32tab", laid_math_bits_deBruijn32tab), ("math/bits.deBruijn64tab", laid_math_bits_deBruijn64tab)] }
def TestsGreedySaid : Prop := testsGreedyRow.holds Tryd.pinned (OpenSpec.ofChange testsGreedySpec)

/-- ITS FALSE NEIGHBOUR: 'it returns false'. Refute it at one input. -/
def testsGreedyWrong : ChangeSpec := { name := "testsGreedy", fn := fun _ => fun
  | [d] => { results := [.lit (.bool false)], args := [d] }
  | _ => none }
def TestsGreedyWrongFalsely : Prop := testsGreedyRow.holds Tryd.pinned (OpenSpec.ofChange testsGreedyWrong)

/-- 'tickinglaw07.TestsLeast': WHATEVER THE INPUT: true; the input reads as it did. -/
def testsLeastSpec : ChangeSpec := { name := "testsLeast", fn := fun _ => fun
  | [d1, d2] => { results := [.lit (.bool true)], args := [d1, d2] }
  | _ => none }
def testsLeastRow : OpenClaim := { program := "ytdbendnfgkonbaadoor", sum := "981a9ab349d8dc29078ad5d410da7fb5c7c9b7b18acbeb16221590d344d5dba6", func := "ticking/tickinglaw07.TestsLeast", spec := "testsLeast", unfollowed := true, recurses := true, named := ["math/bits.deBruijn32tab", "math/bits.deBruijn64tab"], apart := false, laid := [("math/bits.deBruijn32tab", laid_math_bits_deBruijn32tab), ("math/bits.deBruijn64tab", laid_math_bits_deBruijn64tab)] }
def TestsLeastSaid : Prop := testsLeastRow.holds Tryd.pinned (OpenSpec.ofChange testsLeastSpec)

/-- ITS FALSE NEIGHBOUR: 'it returns false'. Refute it at one input. -/
def testsLeastWrong : ChangeSpec := { name := "testsLeast", fn := fun _ => fun
  | [d1, d2] => { results := [.lit (.bool false)], args := [d1, d2] }
  | _ => none }
def TestsLeastWrongFalsely : Prop := testsLeastRow.holds Tryd.pinned (OpenSpec.ofChange testsLeastWrong)

/-- 'tickinglaw07.TestsMore': WHATEVER THE INPUT: true; the input reads as it did. -/
def testsMoreSpec : ChangeSpec := { name := "testsMore", fn := fun _ => fun
  | [d1, d2, d3] => { results := [.lit (.bool true)], args := [d1, d2, d3] }
  | _ => none }
def testsMoreRow : OpenClaim := { program := "ytdbendnfgkonbaadoor", sum := "981a9ab349d8dc29078ad5d410da7fb5c7c9b7b18acbeb16221590d344d5dba6", func := "ticking/tickinglaw07.TestsMore", spec := "testsMore", unfollowed := true, recurses := true, named := ["math/bits.deBruijn32tab", "math/bits.deBruijn64tab"], apart := false, laid := [("math/bits.deBruijn32tab", laid_math_bits_deBruijn32tab), ("math/bits.deBruijn64tab", laid_math_bits_deBruijn64tab)] }
def TestsMoreSaid : Prop := testsMoreRow.holds Tryd.pinned (OpenSpec.ofChange testsMoreSpec)

/-- ITS FALSE NEIGHBOUR: 'it returns false'. Refute it at one input. -/
def testsMoreWrong : ChangeSpec := { name := "testsMore", fn := fun _ => fun
  | [d1, d2, d3] => { results := [.lit (.bool false)], args := [d1, d2, d3] }
  | _ => none }
def TestsMoreWrongFalsely : Prop := testsMoreRow.holds Tryd.pinned (OpenSpec.ofChange testsMoreWrong)

/-- 'tickinglaw07.TestsWays': WHATEVER THE INPUT: true; the input reads as it did. -/
def testsWaysSpec : ChangeSpec := { name := "testsWays", fn := fun _ => fun
  | [d1, d2] => { results := [.lit (.bool true)], args := [d1, d2] }
  | _ => none }
def testsWaysRow : OpenClaim := { program := "ytdbendnfgkonbaadoor", sum := "981a9ab349d8dc29078ad5d410da7fb5c7c9b7b18acbeb16221590d344d5dba6", func := "ticking/tickinglaw07.TestsWays", spec := "testsWays", unfollowed := true, recurses := true, named := ["math/bits.deBruijn32tab", "math/bits.deBruijn64tab"], apart := false, laid := [("math/bits.deBruijn32tab", laid_math_bits_deBruijn32tab), ("math/bits.deBruijn64tab", laid_math_bits_deBruijn64tab)] }
def TestsWaysSaid : Prop := testsWaysRow.holds Tryd.pinned (OpenSpec.ofChange testsWaysSpec)

/-- ITS FALSE NEIGHBOUR: 'it returns false'. Refute it at one input. -/
def testsWaysWrong : ChangeSpec := { name := "testsWays", fn := fun _ => fun
  | [d1, d2] => { results := [.lit (.bool false)], args := [d1, d2] }
  | _ => none }
def TestsWaysWrongFalsely : Prop := testsWaysRow.holds Tryd.pinned (OpenSpec.ofChange testsWaysWrong)

/-- 'tickinglaw07.TestsDoubles': WHATEVER THE INPUT: true; the input reads as it did. -/
def testsDoublesSpec : ChangeSpec := { name := "testsDoubles", fn := fun _ => fun
  | [d] => { results := [.lit (.bool true)], args := [d] }
  | _ => none }
def testsDoublesRow : OpenClaim := { program := "ytdbendnfgkonbaadoor", sum := "981a9ab349d8dc29078ad5d410da7fb5c7c9b7b18acbeb16221590d344d5dba6", func := "ticking/tickinglaw07.TestsDoubles", spec := "testsDoubles", unfollowed := true, recurses := true, named := ["math/bits.deBruijn32tab", "math/bits.deBruijn64tab"], apart := false, laid := [("math/bits.deBruijn32tab", laid_math_bits_deBruijn32tab), ("math/bits.deBruijn64tab", laid_math_bits_deBruijn64tab)] }
def TestsDoublesSaid : Prop := testsDoublesRow.holds Tryd.pinned (OpenSpec.ofChange testsDoublesSpec)

/-- ITS FALSE NEIGHBOUR: 'it returns false'. Refute it at one input. -/
def testsDoublesWrong : ChangeSpec := { name := "testsDoubles", fn := fun _ => fun
  | [d] => { results := [.lit (.bool false)], args := [d] }
  | _ => none }
def TestsDoublesWrongFalsely : Prop := testsDoublesRow.holds Tryd.pinned (OpenSpec.ofChange testsDoublesWrong)

/-- 'tickinglaw07.TestsCovers': WHATEVER THE INPUT: true; the input reads as it did. -/
def testsCoversSpec : ChangeSpec := { name := "testsCovers", fn := fun _ => fun
  | [d] => { results := [.lit (.bool true)], args := [d] }
  | _ => none }
def testsCoversRow : OpenClaim := { program := "ytdbendnfgkonbaadoor", sum := "981a9ab349d8dc29078ad5d410da7fb5c7c9b7b18acbeb16221590d344d5dba6", func := "ticking/tickinglaw07.TestsCovers", spec := "testsCovers", unfollowed := true, recurses := true, named := ["math/bits.deBruijn32tab", "math/bits.deBruijn64tab"], apart := false, laid := [("math/bits.deBruijn32tab", laid_math_bits_deBruijn32tab), ("math/bits.deBruijn64tab", laid_math_bits_deBruijn64tab)] }
def TestsCoversSaid : Prop := testsCoversRow.holds Tryd.pinned (OpenSpec.ofChange testsCoversSpec)

/-- ITS FALSE NEIGHBOUR: 'it returns false'. Refute it at one input. -/
def testsCoversWrong : ChangeSpec := { name := "testsCovers", fn := fun _ => fun
  | [d] => { results := [.lit (.bool false)], args := [d] }
  | _ => none }
def TestsCoversWrongFalsely : Prop := testsCoversRow.holds Tryd.pinned (OpenSpec.ofChange testsCoversWrong)

/-- 'tickinglaw07.TestsOwn': WHATEVER THE INPUT: true; the input reads as it did. -/
def testsOwnSpec : ChangeSpec := { name := "testsOwn", fn := fun _ => fun
  | [d] => { results := [.lit (.bool true)], args := [d] }
  | _ => none }
def testsOwnRow : OpenClaim := { program := "ytdbendnfgkonbaadoor", sum := "981a9ab349d8dc29078ad5d410da7fb5c7c9b7b18acbeb16221590d344d5dba6", func := "ticking/tickinglaw07.TestsOwn", spec := "testsOwn", unfollowed := true, recurses := true, named := ["math/bits.deBruijn32tab", "math/bits.deBruijn64tab"], apart := false, laid := [("math/bits.deBruijn32tab", laid_math_bits_deBruijn32tab), ("math/bits.deBruijn64tab", laid_math_bits_deBruijn64tab)] }
def TestsOwnSaid : Prop := testsOwnRow.holds Tryd.pinned (OpenSpec.ofChange testsOwnSpec)

/-- ITS FALSE NEIGHBOUR: 'it returns false'. Refute it at one input. -/
def testsOwnWrong : ChangeSpec := { name := "testsOwn", fn := fun _ => fun
  | [d] => { results := [.lit (.bool false)], args := [d] }
  | _ => none }
def TestsOwnWrongFalsely : Prop := testsOwnRow.holds Tryd.pinned (OpenSpec.ofChange testsOwnWrong)

/- THE SECOND FORM. 'bulk': how many values and letters a reading holds, each counted each time it is reached (what is shared counts as often as it is met; a slice's spare places count too). A statement '..UptoSaid' is the law's where the arguments, and the package variables that the reading takes, are together of bulk at most 1048576: NARROWER than '..Said'. Prove '..Said' where nothing that the law and all that it calls make is longer than what came in: it says more and counts as full. Else prove '..UptoSaid'. A law counts once. -/
mutual
def uptoBulk {H : Type} : DataW H → Nat
  | .lit (.string bytes) => bytes.length + 1
  | .lit _ => 1
  | .nil => 1
  | .ptr d => uptoBulk d + 1
  | .slice elems spare => uptoBulkAll elems + uptoBulkAll spare + 1
  | .agg parts => uptoBulkAll parts + 1
  | .iface _ d => uptoBulk d + 1
  | .map entries => uptoBulkEntries entries + 1
  | .held _ => 1
def uptoBulkAll {H : Type} : List (DataW H) → Nat
  | [] => 0
  | d :: r => uptoBulk d + uptoBulkAll r
def uptoBulkEntries {H : Type} : List (Lit × DataW H) → Nat
  | [] => 0
  | x :: r => uptoBulkEntry x + uptoBulkEntries r
def uptoBulkEntry {H : Type} : Lit × DataW H → Nat
  | (.string bytes, d) => bytes.length + uptoBulk d + 1
  | (_, d) => uptoBulk d + 1
 end
def uptoSmall : (H : Type) → List (DataW H) → Bool := fun _ ds => decide (uptoBulkAll ds ≤ 1048576)
def OpenSpec.upto (s : _root_.Go.ChangeSpec) : _root_.Go.OpenSpec := { _root_.Go.OpenSpec.ofChange s with cond := some uptoSmall }

/-- 'tickinglaw07.TestsGreedy', WHERE WHAT IT READS IS OF BULK AT MOST 1048576: true; the input reads as it did. -/
def testsGreedyUptoRow : OpenClaim := { program := "ytdbendnfgkonbaadoor", sum := "981a9ab349d8dc29078ad5d410da7fb5c7c9b7b18acbeb16221590d344d5dba6", func := "ticking/tickinglaw07.TestsGreedy", spec := "testsGreedy", unfollowed := true, recurses := true, named := ["math/bits.deBruijn32tab", "math/bits.deBruijn64tab"], apart := false, laid := [("math/bits.deBruijn32tab", laid_math_bits_deBruijn32tab), ("math/bits.deBruijn64tab", laid_math_bits_deBruijn64tab)], narrowed := true }
def TestsGreedyUptoSaid : Prop := testsGreedyUptoRow.holds Tryd.pinned (OpenSpec.upto testsGreedySpec)

/-- 'tickinglaw07.TestsLeast', WHERE WHAT IT READS IS OF BULK AT MOST 1048576: true; the input reads as it did. -/
def testsLeastUptoRow : OpenClaim := { program := "ytdbendnfgkonbaadoor", sum := "981a9ab349d8dc29078ad5d410da7fb5c7c9b7b18acbeb16221590d344d5dba6", func := "ticking/tickinglaw07.TestsLeast", spec := "testsLeast", unfollowed := true, recurses := true, named := ["math/bits.deBruijn32tab", "math/bits.deBruijn64tab"], apart := false, laid := [("math/bits.deBruijn32tab", laid_math_bits_deBruijn32tab), ("math/bits.deBruijn64tab", laid_math_bits_deBruijn64tab)], narrowed := true }
def TestsLeastUptoSaid : Prop := testsLeastUptoRow.holds Tryd.pinned (OpenSpec.upto testsLeastSpec)

/-- 'tickinglaw07.TestsMore', WHERE WHAT IT READS IS OF BULK AT MOST 1048576: true; the input reads as it did. -/
def testsMoreUptoRow : OpenClaim := { program := "ytdbendnfgkonbaadoor", sum := "981a9ab349d8dc29078ad5d410da7fb5c7c9b7b18acbeb16221590d344d5dba6", func := "ticking/tickinglaw07.TestsMore", spec := "testsMore", unfollowed := true, recurses := true, named := ["math/bits.deBruijn32tab", "math/bits.deBruijn64tab"], apart := false, laid := [("math/bits.deBruijn32tab", laid_math_bits_deBruijn32tab), ("math/bits.deBruijn64tab", laid_math_bits_deBruijn64tab)], narrowed := true }
def TestsMoreUptoSaid : Prop := testsMoreUptoRow.holds Tryd.pinned (OpenSpec.upto testsMoreSpec)

/-- 'tickinglaw07.TestsWays', WHERE WHAT IT READS IS OF BULK AT MOST 1048576: true; the input reads as it did. -/
def testsWaysUptoRow : OpenClaim := { program := "ytdbendnfgkonbaadoor", sum := "981a9ab349d8dc29078ad5d410da7fb5c7c9b7b18acbeb16221590d344d5dba6", func := "ticking/tickinglaw07.TestsWays", spec := "testsWays", unfollowed := true, recurses := true, named := ["math/bits.deBruijn32tab", "math/bits.deBruijn64tab"], apart := false, laid := [("math/bits.deBruijn32tab", laid_math_bits_deBruijn32tab), ("math/bits.deBruijn64tab", laid_math_bits_deBruijn64tab)], narrowed := true }
def TestsWaysUptoSaid : Prop := testsWaysUptoRow.holds Tryd.pinned (OpenSpec.upto testsWaysSpec)

/-- 'tickinglaw07.TestsDoubles', WHERE WHAT IT READS IS OF BULK AT MOST 1048576: true; the input reads as it did. -/
def testsDoublesUptoRow : OpenClaim := { program := "ytdbendnfgkonbaadoor", sum := "981a9ab349d8dc29078ad5d410da7fb5c7c9b7b18acbeb16221590d344d5dba6", func := "ticking/tickinglaw07.TestsDoubles", spec := "testsDoubles", unfollowed := true, recurses := true, named := ["math/bits.deBruijn32tab", "math/bits.deBruijn64tab"], apart := false, laid := [("math/bits.deBruijn32tab", laid_math_bits_deBruijn32tab), ("math/bits.deBruijn64tab", laid_math_bits_deBruijn64tab)], narrowed := true }
def TestsDoublesUptoSaid : Prop := testsDoublesUptoRow.holds Tryd.pinned (OpenSpec.upto testsDoublesSpec)

/-- 'tickinglaw07.TestsCovers', WHERE WHAT IT READS IS OF BULK AT MOST 1048576: true; the input reads as it did. -/
def testsCoversUptoRow : OpenClaim := { program := "ytdbendnfgkonbaadoor", sum := "981a9ab349d8dc29078ad5d410da7fb5c7c9b7b18acbeb16221590d344d5dba6", func := "ticking/tickinglaw07.TestsCovers", spec := "testsCovers", unfollowed := true, recurses := true, named := ["math/bits.deBruijn32tab", "math/bits.deBruijn64tab"], apart := false, laid := [("math/bits.deBruijn32tab", laid_math_bits_deBruijn32tab), ("math/bits.deBruijn64tab", laid_math_bits_deBruijn64tab)], narrowed := true }
def TestsCoversUptoSaid : Prop := testsCoversUptoRow.holds Tryd.pinned (OpenSpec.upto testsCoversSpec)

/-- 'tickinglaw07.TestsOwn', WHERE WHAT IT READS IS OF BULK AT MOST 1048576: true; the input reads as it did. -/
def testsOwnUptoRow : OpenClaim := { program := "ytdbendnfgkonbaadoor", sum := "981a9ab349d8dc29078ad5d410da7fb5c7c9b7b18acbeb16221590d344d5dba6", func := "ticking/tickinglaw07.TestsOwn", spec := "testsOwn", unfollowed := true, recurses := true, named := ["math/bits.deBruijn32tab", "math/bits.deBruijn64tab"], apart := false, laid := [("math/bits.deBruijn32tab", laid_math_bits_deBruijn32tab), ("math/bits.deBruijn64tab", laid_math_bits_deBruijn64tab)], narrowed := true }
def TestsOwnUptoSaid : Prop := testsOwnUptoRow.holds Tryd.pinned (OpenSpec.upto testsOwnSpec)

end Rows
end Go.Proofs.YtdbendnfgkonbaaDoor
