/-
  No cell of these rows narrows 'for every input' (looked for: loops, veiled, ifaces, maps, wideKeys, modest, calm, conditions, laid).
  DERIVED. THE GIVEN ROWS OF THIS SEAT. 13 by the template 'for every input the law returns true; each argument reads behind the call as it read before'; 0 by the template 'total and deterministic' (their statements: YtcamoanigdfihaaGreatTotals.lean).
  GIVEN WITH THE SEED: the statements are not yours to turn. If you find one false, say at which input.
  Laid BY PROGRAM, IN A SANDBOX (cutbox-rows.mjs): the forced cells as the released guide's own fill.sh prints them over the translation e6070e834fa26f04… (all of the seat's roots in one cut). By AI agents, Wed Nov 11 2026. No macro, syntax, notation, axiom, sorry.
-/
import Derived.Test.YtcamoanigdfihaaGreatChecked
import GoSem.Claim
import GoSem.ClaimJoined
import GoSem.ClaimMapViews
import Derived.JoinedTies
import Derived.KernelRfl
namespace Go.Proofs.YtcamoanigdfihaaGreat
/- THE CELL 'sum', in the pinned program and in every row, IS THE sha256 OF THE DUMP (.gsa) THAT YtcamoanigdfihaaGreatProg.lean LOADS. Nothing in Lean hashes anything: it is a label: what it is worth is what the hold of that sum in a sandbox is worth. -/
noncomputable def Tryz.pinned : Pinned := { name := "ytcamoanigdfihaagreat", sum := "e6070e834fa26f0424a78296da61a4243f7d8f9762c79871c09d718635b52b07", checked := Tryz.checked }
namespace Rows
def none {H : Type} : Left H := { results := [], args := [] }

/-- 'donjonlaw17.SoundChecks': WHATEVER THE INPUT: true; the input reads as it did. -/
def soundChecksSpec : ChangeSpec := { name := "soundChecks", fn := fun _ => fun
  | [d1, d2, d3] => { results := [.lit (.bool true)], args := [d1, d2, d3] }
  | _ => none }
def soundChecksRow : OpenClaim := { program := "ytcamoanigdfihaagreat", sum := "e6070e834fa26f0424a78296da61a4243f7d8f9762c79871c09d718635b52b07", func := "donjon/donjonlaw17.SoundChecks", spec := "soundChecks", inPlace := ["internal/bytealg.abigen_runtime_cmpstring", "internal/bytealg.Compare", "slices.overlaps[donjon/api.Entry]"], unfollowed := true, recurses := true, plainKeys := false, apart := false }
def SoundChecksSaid : Prop := soundChecksRow.holds Tryz.pinned (OpenSpec.ofChange soundChecksSpec)

/-- ITS FALSE NEIGHBOUR: 'it returns false'. Refute it at one input. -/
def soundChecksWrong : ChangeSpec := { name := "soundChecks", fn := fun _ => fun
  | [d1, d2, d3] => { results := [.lit (.bool false)], args := [d1, d2, d3] }
  | _ => none }
def SoundChecksWrongFalsely : Prop := soundChecksRow.holds Tryz.pinned (OpenSpec.ofChange soundChecksWrong)

/-- 'donjonlaw17.SoundNone': WHATEVER THE INPUT: true; the input reads as it did. -/
def soundNoneSpec : ChangeSpec := { name := "soundNone", fn := fun _ => fun
  | [d] => { results := [.lit (.bool true)], args := [d] }
  | _ => none }
def soundNoneRow : OpenClaim := { program := "ytcamoanigdfihaagreat", sum := "e6070e834fa26f0424a78296da61a4243f7d8f9762c79871c09d718635b52b07", func := "donjon/donjonlaw17.SoundNone", spec := "soundNone", inPlace := ["internal/bytealg.Compare", "internal/bytealg.abigen_runtime_cmpstring", "slices.overlaps[donjon/api.Entry]"], unfollowed := true, recurses := true, plainKeys := false, apart := false }
def SoundNoneSaid : Prop := soundNoneRow.holds Tryz.pinned (OpenSpec.ofChange soundNoneSpec)

/-- ITS FALSE NEIGHBOUR: 'it returns false'. Refute it at one input. -/
def soundNoneWrong : ChangeSpec := { name := "soundNone", fn := fun _ => fun
  | [d] => { results := [.lit (.bool false)], args := [d] }
  | _ => none }
def SoundNoneWrongFalsely : Prop := soundNoneRow.holds Tryz.pinned (OpenSpec.ofChange soundNoneWrong)

/-- 'donjonlaw17.SoundMade': WHATEVER THE INPUT: true; the input reads as it did. -/
def soundMadeSpec : ChangeSpec := { name := "soundMade", fn := fun _ => fun
  | [d1, d2] => { results := [.lit (.bool true)], args := [d1, d2] }
  | _ => none }
def soundMadeRow : OpenClaim := { program := "ytcamoanigdfihaagreat", sum := "e6070e834fa26f0424a78296da61a4243f7d8f9762c79871c09d718635b52b07", func := "donjon/donjonlaw17.SoundMade", spec := "soundMade", inPlace := ["internal/bytealg.abigen_runtime_cmpstring", "internal/bytealg.Compare", "slices.overlaps[donjon/api.Entry]"], unfollowed := true, recurses := true, plainKeys := false, apart := false }
def SoundMadeSaid : Prop := soundMadeRow.holds Tryz.pinned (OpenSpec.ofChange soundMadeSpec)

/-- ITS FALSE NEIGHBOUR: 'it returns false'. Refute it at one input. -/
def soundMadeWrong : ChangeSpec := { name := "soundMade", fn := fun _ => fun
  | [d1, d2] => { results := [.lit (.bool false)], args := [d1, d2] }
  | _ => none }
def SoundMadeWrongFalsely : Prop := soundMadeRow.holds Tryz.pinned (OpenSpec.ofChange soundMadeWrong)

/-- 'donjonlaw16.ScanPlays': WHATEVER THE INPUT: true; the input reads as it did. -/
def scanPlaysSpec : ChangeSpec := { name := "scanPlays", fn := fun _ => fun
  | [d1, d2] => { results := [.lit (.bool true)], args := [d1, d2] }
  | _ => none }
def scanPlaysRow : OpenClaim := { program := "ytcamoanigdfihaagreat", sum := "e6070e834fa26f0424a78296da61a4243f7d8f9762c79871c09d718635b52b07", func := "donjon/donjonlaw16.ScanPlays", spec := "scanPlays", inPlace := ["internal/bytealg.abigen_runtime_cmpstring", "internal/bytealg.Compare", "slices.overlaps[donjon/api.Entry]"], unfollowed := true, recurses := true, plainKeys := false, apart := false }
def ScanPlaysSaid : Prop := scanPlaysRow.holds Tryz.pinned (OpenSpec.ofChange scanPlaysSpec)

/-- ITS FALSE NEIGHBOUR: 'it returns false'. Refute it at one input. -/
def scanPlaysWrong : ChangeSpec := { name := "scanPlays", fn := fun _ => fun
  | [d1, d2] => { results := [.lit (.bool false)], args := [d1, d2] }
  | _ => none }
def ScanPlaysWrongFalsely : Prop := scanPlaysRow.holds Tryz.pinned (OpenSpec.ofChange scanPlaysWrong)

/-- 'donjonlaw16.ScanBack': WHATEVER THE INPUT: true; the input reads as it did. -/
def scanBackSpec : ChangeSpec := { name := "scanBack", fn := fun _ => fun
  | [d1, d2] => { results := [.lit (.bool true)], args := [d1, d2] }
  | _ => none }
def scanBackRow : OpenClaim := { program := "ytcamoanigdfihaagreat", sum := "e6070e834fa26f0424a78296da61a4243f7d8f9762c79871c09d718635b52b07", func := "donjon/donjonlaw16.ScanBack", spec := "scanBack", inPlace := ["internal/bytealg.abigen_runtime_cmpstring", "internal/bytealg.Compare", "slices.overlaps[donjon/api.Entry]"], unfollowed := true, recurses := true, plainKeys := false, apart := false }
def ScanBackSaid : Prop := scanBackRow.holds Tryz.pinned (OpenSpec.ofChange scanBackSpec)

/-- ITS FALSE NEIGHBOUR: 'it returns false'. Refute it at one input. -/
def scanBackWrong : ChangeSpec := { name := "scanBack", fn := fun _ => fun
  | [d1, d2] => { results := [.lit (.bool false)], args := [d1, d2] }
  | _ => none }
def ScanBackWrongFalsely : Prop := scanBackRow.holds Tryz.pinned (OpenSpec.ofChange scanBackWrong)

/-- 'donjonlaw16.ScanRanges': WHATEVER THE INPUT: true; the input reads as it did. -/
def scanRangesSpec : ChangeSpec := { name := "scanRanges", fn := fun _ => fun
  | [d1, d2, d3, d4, d5] => { results := [.lit (.bool true)], args := [d1, d2, d3, d4, d5] }
  | _ => none }
def scanRangesRow : OpenClaim := { program := "ytcamoanigdfihaagreat", sum := "e6070e834fa26f0424a78296da61a4243f7d8f9762c79871c09d718635b52b07", func := "donjon/donjonlaw16.ScanRanges", spec := "scanRanges", inPlace := ["internal/bytealg.abigen_runtime_cmpstring", "internal/bytealg.Compare", "slices.overlaps[donjon/api.Entry]"], unfollowed := true, recurses := true, plainKeys := false, apart := false }
def ScanRangesSaid : Prop := scanRangesRow.holds Tryz.pinned (OpenSpec.ofChange scanRangesSpec)

/-- ITS FALSE NEIGHBOUR: 'it returns false'. Refute it at one input. -/
def scanRangesWrong : ChangeSpec := { name := "scanRanges", fn := fun _ => fun
  | [d1, d2, d3, d4, d5] => { results := [.lit (.bool false)], args := [d1, d2, d3, d4, d5] }
  | _ => none }
def ScanRangesWrongFalsely : Prop := scanRangesRow.holds Tryz.pinned (OpenSpec.ofChange scanRangesWrong)

/-- 'donjonlaw16.ScanNone': WHATEVER THE INPUT: true; the input reads as it did. -/
def scanNoneSpec : ChangeSpec := { name := "scanNone", fn := fun _ => fun
  | [d] => { results := [.lit (.bool true)], args := [d] }
  | _ => none }
def scanNoneRow : OpenClaim := { program := "ytcamoanigdfihaagreat", sum := "e6070e834fa26f0424a78296da61a4243f7d8f9762c79871c09d718635b52b07", func := "donjon/donjonlaw16.ScanNone", spec := "scanNone", inPlace := ["internal/bytealg.abigen_runtime_cmpstring", "internal/bytealg.Compare", "slices.overlaps[donjon/api.Entry]"], unfollowed := true, recurses := true, plainKeys := false, apart := false }
def ScanNoneSaid : Prop := scanNoneRow.holds Tryz.pinned (OpenSpec.ofChange scanNoneSpec)

/-- ITS FALSE NEIGHBOUR: 'it returns false'. Refute it at one input. -/
def scanNoneWrong : ChangeSpec := { name := "scanNone", fn := fun _ => fun
  | [d] => { results := [.lit (.bool false)], args := [d] }
  | _ => none }
def ScanNoneWrongFalsely : Prop := scanNoneRow.holds Tryz.pinned (OpenSpec.ofChange scanNoneWrong)

/-- 'donjonlaw16.ScanOld': WHATEVER THE INPUT: true; the input reads as it did. -/
def scanOldSpec : ChangeSpec := { name := "scanOld", fn := fun _ => fun
  | [d1, d2] => { results := [.lit (.bool true)], args := [d1, d2] }
  | _ => none }
def scanOldRow : OpenClaim := { program := "ytcamoanigdfihaagreat", sum := "e6070e834fa26f0424a78296da61a4243f7d8f9762c79871c09d718635b52b07", func := "donjon/donjonlaw16.ScanOld", spec := "scanOld", inPlace := ["internal/bytealg.abigen_runtime_cmpstring", "internal/bytealg.Compare", "slices.overlaps[donjon/api.Entry]"], unfollowed := true, recurses := true, plainKeys := false, apart := false }
def ScanOldSaid : Prop := scanOldRow.holds Tryz.pinned (OpenSpec.ofChange scanOldSpec)

/-- ITS FALSE NEIGHBOUR: 'it returns false'. Refute it at one input. -/
def scanOldWrong : ChangeSpec := { name := "scanOld", fn := fun _ => fun
  | [d1, d2] => { results := [.lit (.bool false)], args := [d1, d2] }
  | _ => none }
def ScanOldWrongFalsely : Prop := scanOldRow.holds Tryz.pinned (OpenSpec.ofChange scanOldWrong)

/-- 'donjonlaw15.TreeMem': WHATEVER THE INPUT: true; the input reads as it did. -/
def treeMemSpec : ChangeSpec := { name := "treeMem", fn := fun _ => fun
  | [d1, d2] => { results := [.lit (.bool true)], args := [d1, d2] }
  | _ => none }
def treeMemRow : OpenClaim := { program := "ytcamoanigdfihaagreat", sum := "e6070e834fa26f0424a78296da61a4243f7d8f9762c79871c09d718635b52b07", func := "donjon/donjonlaw15.TreeMem", spec := "treeMem", inPlace := ["internal/bytealg.abigen_runtime_cmpstring", "internal/bytealg.Compare", "slices.overlaps[donjon/api.Entry]"], unfollowed := true, recurses := true, plainKeys := false, apart := false }
def TreeMemSaid : Prop := treeMemRow.holds Tryz.pinned (OpenSpec.ofChange treeMemSpec)

/-- ITS FALSE NEIGHBOUR: 'it returns false'. Refute it at one input. -/
def treeMemWrong : ChangeSpec := { name := "treeMem", fn := fun _ => fun
  | [d1, d2] => { results := [.lit (.bool false)], args := [d1, d2] }
  | _ => none }
def TreeMemWrongFalsely : Prop := treeMemRow.holds Tryz.pinned (OpenSpec.ofChange treeMemWrong)

/-- 'donjonlaw15.TreeOrder': WHATEVER THE INPUT: true; the input reads as it did. -/
def treeOrderSpec : ChangeSpec := { name := "treeOrder", fn := fun _ => fun
  | [d1, d2] => { results := [.lit (.bool true)], args := [d1, d2] }
  | _ => none }
def treeOrderRow : OpenClaim := { program := "ytcamoanigdfihaagreat", sum := "e6070e834fa26f0424a78296da61a4243f7d8f9762c79871c09d718635b52b07", func := "donjon/donjonlaw15.TreeOrder", spec := "treeOrder", inPlace := ["internal/bytealg.abigen_runtime_cmpstring", "internal/bytealg.Compare", "slices.overlaps[donjon/api.Entry]"], unfollowed := true, recurses := true, plainKeys := false, apart := false }
def TreeOrderSaid : Prop := treeOrderRow.holds Tryz.pinned (OpenSpec.ofChange treeOrderSpec)

/-- ITS FALSE NEIGHBOUR: 'it returns false'. Refute it at one input. -/
def treeOrderWrong : ChangeSpec := { name := "treeOrder", fn := fun _ => fun
  | [d1, d2] => { results := [.lit (.bool false)], args := [d1, d2] }
  | _ => none }
def TreeOrderWrongFalsely : Prop := treeOrderRow.holds Tryz.pinned (OpenSpec.ofChange treeOrderWrong)

/-- 'donjonlaw15.TreePlays': WHATEVER THE INPUT: true; the input reads as it did. -/
def treePlaysSpec : ChangeSpec := { name := "treePlays", fn := fun _ => fun
  | [d1, d2] => { results := [.lit (.bool true)], args := [d1, d2] }
  | _ => none }
def treePlaysRow : OpenClaim := { program := "ytcamoanigdfihaagreat", sum := "e6070e834fa26f0424a78296da61a4243f7d8f9762c79871c09d718635b52b07", func := "donjon/donjonlaw15.TreePlays", spec := "treePlays", inPlace := ["internal/bytealg.abigen_runtime_cmpstring", "internal/bytealg.Compare", "slices.overlaps[donjon/api.Entry]"], unfollowed := true, recurses := true, plainKeys := false, apart := false }
def TreePlaysSaid : Prop := treePlaysRow.holds Tryz.pinned (OpenSpec.ofChange treePlaysSpec)

/-- ITS FALSE NEIGHBOUR: 'it returns false'. Refute it at one input. -/
def treePlaysWrong : ChangeSpec := { name := "treePlays", fn := fun _ => fun
  | [d1, d2] => { results := [.lit (.bool false)], args := [d1, d2] }
  | _ => none }
def TreePlaysWrongFalsely : Prop := treePlaysRow.holds Tryz.pinned (OpenSpec.ofChange treePlaysWrong)

/-- 'donjonlaw15.TreeClears': WHATEVER THE INPUT: true; the input reads as it did. -/
def treeClearsSpec : ChangeSpec := { name := "treeClears", fn := fun _ => fun
  | [d1, d2] => { results := [.lit (.bool true)], args := [d1, d2] }
  | _ => none }
def treeClearsRow : OpenClaim := { program := "ytcamoanigdfihaagreat", sum := "e6070e834fa26f0424a78296da61a4243f7d8f9762c79871c09d718635b52b07", func := "donjon/donjonlaw15.TreeClears", spec := "treeClears", inPlace := ["internal/bytealg.abigen_runtime_cmpstring", "internal/bytealg.Compare", "slices.overlaps[donjon/api.Entry]"], unfollowed := true, recurses := true, plainKeys := false, apart := false }
def TreeClearsSaid : Prop := treeClearsRow.holds Tryz.pinned (OpenSpec.ofChange treeClearsSpec)

/-- ITS FALSE NEIGHBOUR: 'it returns false'. Refute it at one input. -/
def treeClearsWrong : ChangeSpec := { name := "treeClears", fn := fun _ => fun
  | [d1, d2] => { results := [.lit (.bool false)], args := [d1, d2] }
  | _ => none }
def TreeClearsWrongFalsely : Prop := treeClearsRow.holds Tryz.pinned (OpenSpec.ofChange treeClearsWrong)

/-- 'donjonlaw15.TreeNone': WHATEVER THE INPUT: true; the input reads as it did. -/
def treeNoneSpec : ChangeSpec := { name := "treeNone", fn := fun _ => fun
  | [d1, d2] => { results := [.lit (.bool true)], args := [d1, d2] }
  | _ => none }
def treeNoneRow : OpenClaim := { program := "ytcamoanigdfihaagreat", sum := "e6070e834fa26f0424a78296da61a4243f7d8f9762c79871c09d718635b52b07", func := "donjon/donjonlaw15.TreeNone", spec := "treeNone", inPlace := ["internal/bytealg.abigen_runtime_cmpstring", "internal/bytealg.Compare", "slices.overlaps[donjon/api.Entry]"], unfollowed := true, recurses := true, plainKeys := false, apart := false }
def TreeNoneSaid : Prop := treeNoneRow.holds Tryz.pinned (OpenSpec.ofChange treeNoneSpec)

/-- ITS FALSE NEIGHBOUR: 'it returns false'. Refute it at one input. -/
def treeNoneWrong : ChangeSpec := { name := "treeNone", fn := fun _ => fun
  | [d1, d2] => { results := [.lit (.bool false)], args := [d1, d2] }
  | _ => none }
def TreeNoneWrongFalsely : Prop := treeNoneRow.holds Tryz.pinned (OpenSpec.ofChange treeNoneWrong)

/- THE SECOND FORM. 'bulk': how many values and letters a reading holds, each counted each time it is reached (what is shared counts as often as it is met; a slice's spare places count too). A statement '..UptoSaid' is the law's where the arguments, and the package variables that the reading takes, are together of bulk at most 1048576: NARROWER than '..Said'. Prove '..Said' where nothing that the law and all that it calls make is longer than what came in: it says more and counts as full. Else prove '..UptoSaid'. A law counts once. -/
mutual
def uptoBulk {H : Type} : DataW H → Nat
  | .lit (.string bytes) => bytes.length + 1
  | .lit _ => 1
  | .nil => 1
  | .ptr d => uptoBulk d + 1
  | .slice elems spare => uptoBulkAll elems + uptoBulkAll spare + 1
  | .agg parts => uptoBulkAll parts + 1
  | .iface _ d => uptoBulk d + 1
  | .map entries => uptoBulkEntries entries + 1
  | .held _ => 1
def uptoBulkAll {H : Type} : List (DataW H) → Nat
  | [] => 0
  | d :: r => uptoBulk d + uptoBulkAll r
def uptoBulkEntries {H : Type} : List (Lit × DataW H) → Nat
  | [] => 0
  | x :: r => uptoBulkEntry x + uptoBulkEntries r
def uptoBulkEntry {H : Type} : Lit × DataW H → Nat
  | (.string bytes, d) => bytes.length + uptoBulk d + 1
  | (_, d) => uptoBulk d + 1
 end
def uptoSmall : (H : Type) → List (DataW H) → Bool := fun _ ds => decide (uptoBulkAll ds ≤ 1048576)
def OpenSpec.upto (s : _root_.Go.ChangeSpec) : _root_.Go.OpenSpec := { _root_.Go.OpenSpec.ofChange s with cond := some uptoSmall }

/-- 'donjonlaw17.SoundChecks', WHERE WHAT IT READS IS OF BULK AT MOST 1048576: true; the input reads as it did. -/
def soundChecksUptoRow : OpenClaim := { program := "ytcamoanigdfihaagreat", sum := "e6070e834fa26f0424a78296da61a4243f7d8f9762c79871c09d718635b52b07", func := "donjon/donjonlaw17.SoundChecks", spec := "soundChecks", inPlace := ["internal/bytealg.abigen_runtime_cmpstring", "internal/bytealg.Compare", "slices.overlaps[donjon/api.Entry]"], unfollowed := true, recurses := true, plainKeys := false, apart := false, narrowed := true }
def SoundChecksUptoSaid : Prop := soundChecksUptoRow.holds Tryz.pinned (OpenSpec.upto soundChecksSpec)

/-- 'donjonlaw17.SoundNone', WHERE WHAT IT READS IS OF BULK AT MOST 1048576: true; the input reads as it did. -/
def soundNoneUptoRow : OpenClaim := { program := "ytcamoanigdfihaagreat", sum := "e6070e834fa26f0424a78296da61a4243f7d8f9762c79871c09d718635b52b07", func := "donjon/donjonlaw17.SoundNone", spec := "soundNone", inPlace := ["internal/bytealg.Compare", "internal/bytealg.abigen_runtime_cmpstring", "slices.overlaps[donjon/api.Entry]"], unfollowed := true, recurses := true, plainKeys := false, apart := false, narrowed := true }
def SoundNoneUptoSaid : Prop := soundNoneUptoRow.holds Tryz.pinned (OpenSpec.upto soundNoneSpec)

/-- 'donjonlaw17.SoundMade', WHERE WHAT IT READS IS OF BULK AT MOST 1048576: true; the input reads as it did. -/
def soundMadeUptoRow : OpenClaim := { program := "ytcamoanigdfihaagreat", sum := "e6070e834fa26f0424a78296da61a4243f7d8f9762c79871c09d718635b52b07", func := "donjon/donjonlaw17.SoundMade", spec := "soundMade", inPlace := ["internal/bytealg.abigen_runtime_cmpstring", "internal/bytealg.Compare", "slices.overlaps[donjon/api.Entry]"], unfollowed := true, recurses := true, plainKeys := false, apart := false, narrowed := true }
def SoundMadeUptoSaid : Prop := soundMadeUptoRow.holds Tryz.pinned (OpenSpec.upto soundMadeSpec)

/-- 'donjonlaw16.ScanPlays', WHERE WHAT IT READS IS OF BULK AT MOST 1048576: true; the input reads as it did. -/
def scanPlaysUptoRow : OpenClaim := { program := "ytcamoanigdfihaagreat", sum := "e6070e834fa26f0424a78296da61a4243f7d8f9762c79871c09d718635b52b07", func := "donjon/donjonlaw16.ScanPlays", spec := "scanPlays", inPlace := ["internal/bytealg.abigen_runtime_cmpstring", "internal/bytealg.Compare", "slices.overlaps[donjon/api.Entry]"], unfollowed := true, recurses := true, plainKeys := false, apart := false, narrowed := true }
def ScanPlaysUptoSaid : Prop := scanPlaysUptoRow.holds Tryz.pinned (OpenSpec.upto scanPlaysSpec)

/-- 'donjonlaw16.ScanBack', WHERE WHAT IT READS IS OF BULK AT MOST 1048576: true; the input reads as it did. -/
def scanBackUptoRow : OpenClaim := { program := "ytcamoanigdfihaagreat", sum := "e6070e834fa26f0424a78296da61a4243f7d8f9762c79871c09d718635b52b07", func := "donjon/donjonlaw16.ScanBack", spec := "scanBack", inPlace := ["internal/bytealg.abigen_runtime_cmpstring", "internal/bytealg.Compare", "slices.overlaps[donjon/api.Entry]"], unfollowed := true, recurses := true, plainKeys := false, apart := false, narrowed := true }
def ScanBackUptoSaid : Prop := scanBackUptoRow.holds Tryz.pinned (OpenSpec.upto scanBackSpec)

/-- 'donjonlaw16.ScanRanges', WHERE WHAT IT READS IS OF BULK AT MOST 1048576: true; the input reads as it did. -/
def scanRangesUptoRow : OpenClaim := { program := "ytcamoanigdfihaagreat", sum := "e6070e834fa26f0424a78296da61a4243f7d8f9762c79871c09d718635b52b07", func := "donjon/donjonlaw16.ScanRanges", spec := "scanRanges", inPlace := ["internal/bytealg.abigen_runtime_cmpstring", "internal/bytealg.Compare", "slices.overlaps[donjon/api.Entry]"], unfollowed := true, recurses := true, plainKeys := false, apart := false, narrowed := true }
def ScanRangesUptoSaid : Prop := scanRangesUptoRow.holds Tryz.pinned (OpenSpec.upto scanRangesSpec)

/-- 'donjonlaw16.ScanNone', WHERE WHAT IT READS IS OF BULK AT MOST 1048576: true; the input reads as it did. -/
def scanNoneUptoRow : OpenClaim := { program := "ytcamoanigdfihaagreat", sum := "e6070e834fa26f0424a78296da61a4243f7d8f9762c79871c09d718635b52b07", func := "donjon/donjonlaw16.ScanNone", spec := "scanNone", inPlace := ["internal/bytealg.abigen_runtime_cmpstring", "internal/bytealg.Compare", "slices.overlaps[donjon/api.Entry]"], unfollowed := true, recurses := true, plainKeys := false, apart := false, narrowed := true }
def ScanNoneUptoSaid : Prop := scanNoneUptoRow.holds Tryz.pinned (OpenSpec.upto scanNoneSpec)

/-- 'donjonlaw16.ScanOld', WHERE WHAT IT READS IS OF BULK AT MOST 1048576: true; the input reads as it did. -/
def scanOldUptoRow : OpenClaim := { program := "ytcamoanigdfihaagreat", sum := "e6070e834fa26f0424a78296da61a4243f7d8f9762c79871c09d718635b52b07", func := "donjon/donjonlaw16.ScanOld", spec := "scanOld", inPlace := ["internal/bytealg.abigen_runtime_cmpstring", "internal/bytealg.Compare", "slices.overlaps[donjon/api.Entry]"], unfollowed := true, recurses := true, plainKeys := false, apart := false, narrowed := true }
def ScanOldUptoSaid : Prop := scanOldUptoRow.holds Tryz.pinned (OpenSpec.upto scanOldSpec)

/-- 'donjonlaw15.TreeMem', WHERE WHAT IT READS IS OF BULK AT MOST 1048576: true; the input reads as it did. -/
def treeMemUptoRow : OpenClaim := { program := "ytcamoanigdfihaagreat", sum := "e6070e834fa26f0424a78296da61a4243f7d8f9762c79871c09d718635b52b07", func := "donjon/donjonlaw15.TreeMem", spec := "treeMem", inPlace := ["internal/bytealg.abigen_runtime_cmpstring", "internal/bytealg.Compare", "slices.overlaps[donjon/api.Entry]"], unfollowed := true, recurses := true, plainKeys := false, apart := false, narrowed := true }
def TreeMemUptoSaid : Prop := treeMemUptoRow.holds Tryz.pinned (OpenSpec.upto treeMemSpec)

/-- 'donjonlaw15.TreeOrder', WHERE WHAT IT READS IS OF BULK AT MOST 1048576: true; the input reads as it did. -/
def treeOrderUptoRow : OpenClaim := { program := "ytcamoanigdfihaagreat", sum := "e6070e834fa26f0424a78296da61a4243f7d8f9762c79871c09d718635b52b07", func := "donjon/donjonlaw15.TreeOrder", spec := "treeOrder", inPlace := ["internal/bytealg.abigen_runtime_cmpstring", "internal/bytealg.Compare", "slices.overlaps[donjon/api.Entry]"], unfollowed := true, recurses := true, plainKeys := false, apart := false, narrowed := true }
def TreeOrderUptoSaid : Prop := treeOrderUptoRow.holds Tryz.pinned (OpenSpec.upto treeOrderSpec)

/-- 'donjonlaw15.TreePlays', WHERE WHAT IT READS IS OF BULK AT MOST 1048576: true; the input reads as it did. -/
def treePlaysUptoRow : OpenClaim := { program := "ytcamoanigdfihaagreat", sum := "e6070e834fa26f0424a78296da61a4243f7d8f9762c79871c09d718635b52b07", func := "donjon/donjonlaw15.TreePlays", spec := "treePlays", inPlace := ["internal/bytealg.abigen_runtime_cmpstring", "internal/bytealg.Compare", "slices.overlaps[donjon/api.Entry]"], unfollowed := true, recurses := true, plainKeys := false, apart := false, narrowed := true }
def TreePlaysUptoSaid : Prop := treePlaysUptoRow.holds Tryz.pinned (OpenSpec.upto treePlaysSpec)

/-- 'donjonlaw15.TreeClears', WHERE WHAT IT READS IS OF BULK AT MOST 1048576: true; the input reads as it did. -/
def treeClearsUptoRow : OpenClaim := { program := "ytcamoanigdfihaagreat", sum := "e6070e834fa26f0424a78296da61a4243f7d8f9762c79871c09d718635b52b07", func := "donjon/donjonlaw15.TreeClears", spec := "treeClears", inPlace := ["internal/bytealg.abigen_runtime_cmpstring", "internal/bytealg.Compare", "slices.overlaps[donjon/api.Entry]"], unfollowed := true, recurses := true, plainKeys := false, apart := false, narrowed := true }
def TreeClearsUptoSaid : Prop := treeClearsUptoRow.holds Tryz.pinned (OpenSpec.upto treeClearsSpec)

/-- 'donjonlaw15.TreeNone', WHERE WHAT IT READS IS OF BULK AT MOST 1048576: true; the input reads as it did. -/
def treeNoneUptoRow : OpenClaim := { program := "ytcamoanigdfihaagreat", sum := "e6070e834fa26f0424a78296da61a4243f7d8f9762c79871c09d718635b52b07", func := "donjon/donjonlaw15.TreeNone", spec := "treeNone", inPlace := ["internal/bytealg.abigen_runtime_cmpstring", "internal/bytealg.Compare", "slices.overlaps[donjon/api.Entry]"], unfollowed := true, recurses := true, plainKeys := false, apart := false, narrowed := true }
def TreeNoneUptoSaid : Prop := treeNoneUptoRow.holds Tryz.pinned (OpenSpec.upto treeNoneSpec)

end Rows
end Go.Proofs.YtcamoanigdfihaaGreat
