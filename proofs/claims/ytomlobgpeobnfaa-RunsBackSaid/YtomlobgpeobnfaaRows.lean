/-
  No cell of these rows narrows 'for every input' (looked for: loops, veiled, ifaces, maps, wideKeys, modest, calm, conditions, laid).
  DERIVED. THE GIVEN ROWS OF THIS SEAT. 10 by the template 'for every input the law returns true; each argument reads behind the call as it read before'; 0 by the template 'total and deterministic' (their statements: YtomlobgpeobnfaaTotals.lean).
  GIVEN WITH THE SEED: the statements are not yours to turn. If you find one false, say at which input.
  Laid BY PROGRAM, IN A SANDBOX (cutbox-rows.mjs): the forced cells as the released guide's own fill.sh prints them over the translation 26b74cdf8e9628a7… (all of the seat's roots in one cut). By AI agents, Wed Nov 11 2026. No macro, syntax, notation, axiom, sorry.
-/
import Derived.Test.YtomlobgpeobnfaaChecked
import GoSem.Claim
import GoSem.ClaimJoined
import GoSem.ClaimMapViews
import Derived.JoinedTies
import Derived.KernelRfl
namespace Go.Proofs.Ytomlobgpeobnfaa
/- THE CELL 'sum', in the pinned program and in every row, IS THE sha256 OF THE DUMP (.gsa) THAT YtomlobgpeobnfaaProg.lean LOADS. Nothing in Lean hashes anything: it is a label: what it is worth is what the hold of that sum in a sandbox is worth. -/
noncomputable def Try.pinned : Pinned := { name := "ytomlobgpeobnfaa", sum := "26b74cdf8e9628a7aff011665cbe5d5ffb203327ecb8d37e39e04784b668717c", checked := Try.checked }
namespace Rows
def none {H : Type} : Left H := { results := [], args := [] }

/-- 'donjonlaw11.RunsTakes': WHATEVER THE INPUT: true; the input reads as it did. -/
def runsTakesSpec : ChangeSpec := { name := "runsTakes", fn := fun _ => fun
  | [d] => { results := [.lit (.bool true)], args := [d] }
  | _ => none }
def runsTakesRow : OpenClaim := { program := "ytomlobgpeobnfaa", sum := "26b74cdf8e9628a7aff011665cbe5d5ffb203327ecb8d37e39e04784b668717c", func := "donjon/donjonlaw11.RunsTakes", spec := "runsTakes", apart := false }
def RunsTakesSaid : Prop := runsTakesRow.holds Try.pinned (OpenSpec.ofChange runsTakesSpec)

/-- ITS FALSE NEIGHBOUR: 'it returns false'. Refute it at one input. -/
def runsTakesWrong : ChangeSpec := { name := "runsTakes", fn := fun _ => fun
  | [d] => { results := [.lit (.bool false)], args := [d] }
  | _ => none }
def RunsTakesWrongFalsely : Prop := runsTakesRow.holds Try.pinned (OpenSpec.ofChange runsTakesWrong)

/-- 'donjonlaw11.RunsBoth': WHATEVER THE INPUT: true; the input reads as it did. -/
def runsBothSpec : ChangeSpec := { name := "runsBoth", fn := fun _ => fun
  | [d1, d2] => { results := [.lit (.bool true)], args := [d1, d2] }
  | _ => none }
def runsBothRow : OpenClaim := { program := "ytomlobgpeobnfaa", sum := "26b74cdf8e9628a7aff011665cbe5d5ffb203327ecb8d37e39e04784b668717c", func := "donjon/donjonlaw11.RunsBoth", spec := "runsBoth", apart := false }
def RunsBothSaid : Prop := runsBothRow.holds Try.pinned (OpenSpec.ofChange runsBothSpec)

/-- ITS FALSE NEIGHBOUR: 'it returns false'. Refute it at one input. -/
def runsBothWrong : ChangeSpec := { name := "runsBoth", fn := fun _ => fun
  | [d1, d2] => { results := [.lit (.bool false)], args := [d1, d2] }
  | _ => none }
def RunsBothWrongFalsely : Prop := runsBothRow.holds Try.pinned (OpenSpec.ofChange runsBothWrong)

/-- 'donjonlaw11.RunsSets': WHATEVER THE INPUT: true; the input reads as it did. -/
def runsSetsSpec : ChangeSpec := { name := "runsSets", fn := fun _ => fun
  | [d1, d2, d3] => { results := [.lit (.bool true)], args := [d1, d2, d3] }
  | _ => none }
def runsSetsRow : OpenClaim := { program := "ytomlobgpeobnfaa", sum := "26b74cdf8e9628a7aff011665cbe5d5ffb203327ecb8d37e39e04784b668717c", func := "donjon/donjonlaw11.RunsSets", spec := "runsSets", apart := false }
def RunsSetsSaid : Prop := runsSetsRow.holds Try.pinned (OpenSpec.ofChange runsSetsSpec)

/-- ITS FALSE NEIGHBOUR: 'it returns false'. Refute it at one input. -/
def runsSetsWrong : ChangeSpec := { name := "runsSets", fn := fun _ => fun
  | [d1, d2, d3] => { results := [.lit (.bool false)], args := [d1, d2, d3] }
  | _ => none }
def RunsSetsWrongFalsely : Prop := runsSetsRow.holds Try.pinned (OpenSpec.ofChange runsSetsWrong)

/-- 'donjonlaw11.RunsMake': WHATEVER THE INPUT: true; the input reads as it did. -/
def runsMakeSpec : ChangeSpec := { name := "runsMake", fn := fun _ => fun
  | [d1, d2, d3, d4] => { results := [.lit (.bool true)], args := [d1, d2, d3, d4] }
  | _ => none }
def runsMakeRow : OpenClaim := { program := "ytomlobgpeobnfaa", sum := "26b74cdf8e9628a7aff011665cbe5d5ffb203327ecb8d37e39e04784b668717c", func := "donjon/donjonlaw11.RunsMake", spec := "runsMake", apart := false }
def RunsMakeSaid : Prop := runsMakeRow.holds Try.pinned (OpenSpec.ofChange runsMakeSpec)

/-- ITS FALSE NEIGHBOUR: 'it returns false'. Refute it at one input. -/
def runsMakeWrong : ChangeSpec := { name := "runsMake", fn := fun _ => fun
  | [d1, d2, d3, d4] => { results := [.lit (.bool false)], args := [d1, d2, d3, d4] }
  | _ => none }
def RunsMakeWrongFalsely : Prop := runsMakeRow.holds Try.pinned (OpenSpec.ofChange runsMakeWrong)

/-- 'donjonlaw11.RunsTaken': WHATEVER THE INPUT: true; the input reads as it did. -/
def runsTakenSpec : ChangeSpec := { name := "runsTaken", fn := fun _ => fun
  | [d] => { results := [.lit (.bool true)], args := [d] }
  | _ => none }
def runsTakenRow : OpenClaim := { program := "ytomlobgpeobnfaa", sum := "26b74cdf8e9628a7aff011665cbe5d5ffb203327ecb8d37e39e04784b668717c", func := "donjon/donjonlaw11.RunsTaken", spec := "runsTaken", apart := false }
def RunsTakenSaid : Prop := runsTakenRow.holds Try.pinned (OpenSpec.ofChange runsTakenSpec)

/-- ITS FALSE NEIGHBOUR: 'it returns false'. Refute it at one input. -/
def runsTakenWrong : ChangeSpec := { name := "runsTaken", fn := fun _ => fun
  | [d] => { results := [.lit (.bool false)], args := [d] }
  | _ => none }
def RunsTakenWrongFalsely : Prop := runsTakenRow.holds Try.pinned (OpenSpec.ofChange runsTakenWrong)

/-- 'donjonlaw11.RunsGives': WHATEVER THE INPUT: true; the input reads as it did. -/
def runsGivesSpec : ChangeSpec := { name := "runsGives", fn := fun _ => fun
  | [d1, d2] => { results := [.lit (.bool true)], args := [d1, d2] }
  | _ => none }
def runsGivesRow : OpenClaim := { program := "ytomlobgpeobnfaa", sum := "26b74cdf8e9628a7aff011665cbe5d5ffb203327ecb8d37e39e04784b668717c", func := "donjon/donjonlaw11.RunsGives", spec := "runsGives", apart := false }
def RunsGivesSaid : Prop := runsGivesRow.holds Try.pinned (OpenSpec.ofChange runsGivesSpec)

/-- ITS FALSE NEIGHBOUR: 'it returns false'. Refute it at one input. -/
def runsGivesWrong : ChangeSpec := { name := "runsGives", fn := fun _ => fun
  | [d1, d2] => { results := [.lit (.bool false)], args := [d1, d2] }
  | _ => none }
def RunsGivesWrongFalsely : Prop := runsGivesRow.holds Try.pinned (OpenSpec.ofChange runsGivesWrong)

/-- 'donjonlaw11.RunsEncodes': WHATEVER THE INPUT: true; the input reads as it did. -/
def runsEncodesSpec : ChangeSpec := { name := "runsEncodes", fn := fun _ => fun
  | [d] => { results := [.lit (.bool true)], args := [d] }
  | _ => none }
def runsEncodesRow : OpenClaim := { program := "ytomlobgpeobnfaa", sum := "26b74cdf8e9628a7aff011665cbe5d5ffb203327ecb8d37e39e04784b668717c", func := "donjon/donjonlaw11.RunsEncodes", spec := "runsEncodes", recurses := true, apart := false }
def RunsEncodesSaid : Prop := runsEncodesRow.holds Try.pinned (OpenSpec.ofChange runsEncodesSpec)

/-- ITS FALSE NEIGHBOUR: 'it returns false'. Refute it at one input. -/
def runsEncodesWrong : ChangeSpec := { name := "runsEncodes", fn := fun _ => fun
  | [d] => { results := [.lit (.bool false)], args := [d] }
  | _ => none }
def RunsEncodesWrongFalsely : Prop := runsEncodesRow.holds Try.pinned (OpenSpec.ofChange runsEncodesWrong)

/-- 'donjonlaw11.RunsPages': WHATEVER THE INPUT: true; the input reads as it did. -/
def runsPagesSpec : ChangeSpec := { name := "runsPages", fn := fun _ => fun
  | [d1, d2] => { results := [.lit (.bool true)], args := [d1, d2] }
  | _ => none }
def runsPagesRow : OpenClaim := { program := "ytomlobgpeobnfaa", sum := "26b74cdf8e9628a7aff011665cbe5d5ffb203327ecb8d37e39e04784b668717c", func := "donjon/donjonlaw11.RunsPages", spec := "runsPages", apart := false }
def RunsPagesSaid : Prop := runsPagesRow.holds Try.pinned (OpenSpec.ofChange runsPagesSpec)

/-- ITS FALSE NEIGHBOUR: 'it returns false'. Refute it at one input. -/
def runsPagesWrong : ChangeSpec := { name := "runsPages", fn := fun _ => fun
  | [d1, d2] => { results := [.lit (.bool false)], args := [d1, d2] }
  | _ => none }
def RunsPagesWrongFalsely : Prop := runsPagesRow.holds Try.pinned (OpenSpec.ofChange runsPagesWrong)

/-- 'donjonlaw11.RunsDecodes': WHATEVER THE INPUT: true; the input reads as it did. -/
def runsDecodesSpec : ChangeSpec := { name := "runsDecodes", fn := fun _ => fun
  | [d] => { results := [.lit (.bool true)], args := [d] }
  | _ => none }
def runsDecodesRow : OpenClaim := { program := "ytomlobgpeobnfaa", sum := "26b74cdf8e9628a7aff011665cbe5d5ffb203327ecb8d37e39e04784b668717c", func := "donjon/donjonlaw11.RunsDecodes", spec := "runsDecodes", unfollowed := true, recurses := true, apart := false }
def RunsDecodesSaid : Prop := runsDecodesRow.holds Try.pinned (OpenSpec.ofChange runsDecodesSpec)

/-- ITS FALSE NEIGHBOUR: 'it returns false'. Refute it at one input. -/
def runsDecodesWrong : ChangeSpec := { name := "runsDecodes", fn := fun _ => fun
  | [d] => { results := [.lit (.bool false)], args := [d] }
  | _ => none }
def RunsDecodesWrongFalsely : Prop := runsDecodesRow.holds Try.pinned (OpenSpec.ofChange runsDecodesWrong)

/-- 'donjonlaw11.RunsBack': WHATEVER THE INPUT: true; the input reads as it did. -/
def runsBackSpec : ChangeSpec := { name := "runsBack", fn := fun _ => fun
  | [d1, d2, d3] => { results := [.lit (.bool true)], args := [d1, d2, d3] }
  | _ => none }
def runsBackRow : OpenClaim := { program := "ytomlobgpeobnfaa", sum := "26b74cdf8e9628a7aff011665cbe5d5ffb203327ecb8d37e39e04784b668717c", func := "donjon/donjonlaw11.RunsBack", spec := "runsBack", unfollowed := true, recurses := true, apart := false }
def RunsBackSaid : Prop := runsBackRow.holds Try.pinned (OpenSpec.ofChange runsBackSpec)

/-- ITS FALSE NEIGHBOUR: 'it returns false'. Refute it at one input. -/
def runsBackWrong : ChangeSpec := { name := "runsBack", fn := fun _ => fun
  | [d1, d2, d3] => { results := [.lit (.bool false)], args := [d1, d2, d3] }
  | _ => none }
def RunsBackWrongFalsely : Prop := runsBackRow.holds Try.pinned (OpenSpec.ofChange runsBackWrong)

/- THE SECOND FORM. 'bulk': how many values and letters a reading holds, each counted each time it is reached (what is shared counts as often as it is met; a slice's spare places count too). A statement '..UptoSaid' is the law's where the arguments, and the package variables that the reading takes, are together of bulk at most 1048576: NARROWER than '..Said'. Prove '..Said' where nothing that the law and all that it calls make is longer than what came in: it says more and counts as full. Else prove '..UptoSaid'. A law counts once. -/
mutual
def uptoBulk {H : Type} : DataW H → Nat
  | .lit (.string bytes) => bytes.length + 1
  | .lit _ => 1
  | .nil => 1
  | .ptr d => uptoBulk d + 1
  | .slice elems spare => uptoBulkAll elems + uptoBulkAll spare + 1
  | .agg parts => uptoBulkAll parts + 1
  | .iface _ d => uptoBulk d + 1
  | .map entries => uptoBulkEntries entries + 1
  | .held _ => 1
def uptoBulkAll {H : Type} : List (DataW H) → Nat
  | [] => 0
  | d :: r => uptoBulk d + uptoBulkAll r
def uptoBulkEntries {H : Type} : List (Lit × DataW H) → Nat
  | [] => 0
  | x :: r => uptoBulkEntry x + uptoBulkEntries r
def uptoBulkEntry {H : Type} : Lit × DataW H → Nat
  | (.string bytes, d) => bytes.length + uptoBulk d + 1
  | (_, d) => uptoBulk d + 1
 end
def uptoSmall : (H : Type) → List (DataW H) → Bool := fun _ ds => decide (uptoBulkAll ds ≤ 1048576)
def OpenSpec.upto (s : _root_.Go.ChangeSpec) : _root_.Go.OpenSpec := { _root_.Go.OpenSpec.ofChange s with cond := some uptoSmall }

/-- 'donjonlaw11.RunsTakes', WHERE WHAT IT READS IS OF BULK AT MOST 1048576: true; the input reads as it did. -/
def runsTakesUptoRow : OpenClaim := { program := "ytomlobgpeobnfaa", sum := "26b74cdf8e9628a7aff011665cbe5d5ffb203327ecb8d37e39e04784b668717c", func := "donjon/donjonlaw11.RunsTakes", spec := "runsTakes", apart := false, narrowed := true }
def RunsTakesUptoSaid : Prop := runsTakesUptoRow.holds Try.pinned (OpenSpec.upto runsTakesSpec)

/-- 'donjonlaw11.RunsBoth', WHERE WHAT IT READS IS OF BULK AT MOST 1048576: true; the input reads as it did. -/
def runsBothUptoRow : OpenClaim := { program := "ytomlobgpeobnfaa", sum := "26b74cdf8e9628a7aff011665cbe5d5ffb203327ecb8d37e39e04784b668717c", func := "donjon/donjonlaw11.RunsBoth", spec := "runsBoth", apart := false, narrowed := true }
def RunsBothUptoSaid : Prop := runsBothUptoRow.holds Try.pinned (OpenSpec.upto runsBothSpec)

/-- 'donjonlaw11.RunsSets', WHERE WHAT IT READS IS OF BULK AT MOST 1048576: true; the input reads as it did. -/
def runsSetsUptoRow : OpenClaim := { program := "ytomlobgpeobnfaa", sum := "26b74cdf8e9628a7aff011665cbe5d5ffb203327ecb8d37e39e04784b668717c", func := "donjon/donjonlaw11.RunsSets", spec := "runsSets", apart := false, narrowed := true }
def RunsSetsUptoSaid : Prop := runsSetsUptoRow.holds Try.pinned (OpenSpec.upto runsSetsSpec)

/-- 'donjonlaw11.RunsMake', WHERE WHAT IT READS IS OF BULK AT MOST 1048576: true; the input reads as it did. -/
def runsMakeUptoRow : OpenClaim := { program := "ytomlobgpeobnfaa", sum := "26b74cdf8e9628a7aff011665cbe5d5ffb203327ecb8d37e39e04784b668717c", func := "donjon/donjonlaw11.RunsMake", spec := "runsMake", apart := false, narrowed := true }
def RunsMakeUptoSaid : Prop := runsMakeUptoRow.holds Try.pinned (OpenSpec.upto runsMakeSpec)

/-- 'donjonlaw11.RunsTaken', WHERE WHAT IT READS IS OF BULK AT MOST 1048576: true; the input reads as it did. -/
def runsTakenUptoRow : OpenClaim := { program := "ytomlobgpeobnfaa", sum := "26b74cdf8e9628a7aff011665cbe5d5ffb203327ecb8d37e39e04784b668717c", func := "donjon/donjonlaw11.RunsTaken", spec := "runsTaken", apart := false, narrowed := true }
def RunsTakenUptoSaid : Prop := runsTakenUptoRow.holds Try.pinned (OpenSpec.upto runsTakenSpec)

/-- 'donjonlaw11.RunsGives', WHERE WHAT IT READS IS OF BULK AT MOST 1048576: true; the input reads as it did. -/
def runsGivesUptoRow : OpenClaim := { program := "ytomlobgpeobnfaa", sum := "26b74cdf8e9628a7aff011665cbe5d5ffb203327ecb8d37e39e04784b668717c", func := "donjon/donjonlaw11.RunsGives", spec := "runsGives", apart := false, narrowed := true }
def RunsGivesUptoSaid : Prop := runsGivesUptoRow.holds Try.pinned (OpenSpec.upto runsGivesSpec)

/-- 'donjonlaw11.RunsEncodes', WHERE WHAT IT READS IS OF BULK AT MOST 1048576: true; the input reads as it did. -/
def runsEncodesUptoRow : OpenClaim := { program := "ytomlobgpeobnfaa", sum := "26b74cdf8e9628a7aff011665cbe5d5ffb203327ecb8d37e39e04784b668717c", func := "donjon/donjonlaw11.RunsEncodes", spec := "runsEncodes", recurses := true, apart := false, narrowed := true }
def RunsEncodesUptoSaid : Prop := runsEncodesUptoRow.holds Try.pinned (OpenSpec.upto runsEncodesSpec)

/-- 'donjonlaw11.RunsPages', WHERE WHAT IT READS IS OF BULK AT MOST 1048576: true; the input reads as it did. -/
def runsPagesUptoRow : OpenClaim := { program := "ytomlobgpeobnfaa", sum := "26b74cdf8e9628a7aff011665cbe5d5ffb203327ecb8d37e39e04784b668717c", func := "donjon/donjonlaw11.RunsPages", spec := "runsPages", apart := false, narrowed := true }
def RunsPagesUptoSaid : Prop := runsPagesUptoRow.holds Try.pinned (OpenSpec.upto runsPagesSpec)

/-- 'donjonlaw11.RunsDecodes', WHERE WHAT IT READS IS OF BULK AT MOST 1048576: true; the input reads as it did. -/
def runsDecodesUptoRow : OpenClaim := { program := "ytomlobgpeobnfaa", sum := "26b74cdf8e9628a7aff011665cbe5d5ffb203327ecb8d37e39e04784b668717c", func := "donjon/donjonlaw11.RunsDecodes", spec := "runsDecodes", unfollowed := true, recurses := true, apart := false, narrowed := true }
def RunsDecodesUptoSaid : Prop := runsDecodesUptoRow.holds Try.pinned (OpenSpec.upto runsDecodesSpec)

/-- 'donjonlaw11.RunsBack', WHERE WHAT IT READS IS OF BULK AT MOST 1048576: true; the input reads as it did. -/
def runsBackUptoRow : OpenClaim := { program := "ytomlobgpeobnfaa", sum := "26b74cdf8e9628a7aff011665cbe5d5ffb203327ecb8d37e39e04784b668717c", func := "donjon/donjonlaw11.RunsBack", spec := "runsBack", unfollowed := true, recurses := true, apart := false, narrowed := true }
def RunsBackUptoSaid : Prop := runsBackUptoRow.holds Try.pinned (OpenSpec.upto runsBackSpec)

end Rows
end Go.Proofs.Ytomlobgpeobnfaa
