/-
  No cell of these rows narrows 'for every input' (looked for: loops, veiled, ifaces, maps, wideKeys, modest, calm, conditions, laid).
  DERIVED. THE GIVEN ROWS OF THIS SEAT. 5 by the template 'for every input the law returns true; each argument reads behind the call as it read before'; 0 by the template 'total and deterministic' (their statements: YtpjbalhhlaofmaaGreatTotals.lean).
  GIVEN WITH THE SEED: the statements are not yours to turn. If you find one false, say at which input.
  Laid BY PROGRAM, IN A SANDBOX (cutbox-rows.mjs): the forced cells as the released guide's own fill.sh prints them over the translation d22bfb04c7491014… (all of the seat's roots in one cut). By AI agents, Wed Nov 11 2026. No macro, syntax, notation, axiom, sorry.
-/
import Derived.Test.YtpjbalhhlaofmaaGreatChecked
import GoSem.Claim
import GoSem.ClaimJoined
import GoSem.ClaimMapViews
import Derived.JoinedTies
import Derived.KernelRfl
namespace Go.Proofs.YtpjbalhhlaofmaaGreat
/- THE CELL 'sum', in the pinned program and in every row, IS THE sha256 OF THE DUMP (.gsa) THAT YtpjbalhhlaofmaaGreatProg.lean LOADS. Nothing in Lean hashes anything: it is a label: what it is worth is what the hold of that sum in a sandbox is worth. -/
noncomputable def Tryz.pinned : Pinned := { name := "ytpjbalhhlaofmaagreat", sum := "d22bfb04c7491014102ed2c5301345080077c12d8a91face749f6da20ea2da8e", checked := Tryz.checked }
namespace Rows
def none {H : Type} : Left H := { results := [], args := [] }

/-- 'donjonlaw23.RollReads': WHATEVER THE INPUT: true; the input reads as it did. -/
def rollReadsSpec : ChangeSpec := { name := "rollReads", fn := fun _ => fun
  | [d1, d2] => { results := [.lit (.bool true)], args := [d1, d2] }
  | _ => none }
def rollReadsRow : OpenClaim := { program := "ytpjbalhhlaofmaagreat", sum := "d22bfb04c7491014102ed2c5301345080077c12d8a91face749f6da20ea2da8e", func := "donjon/donjonlaw23.RollReads", spec := "rollReads", inPlace := ["internal/bytealg.MakeNoZero", "internal/bytealg.abigen_runtime_cmpstring", "internal/bytealg.Compare", "slices.overlaps[donjon/api.Entry]"], unfollowed := true, recurses := true, apart := false }
def RollReadsSaid : Prop := rollReadsRow.holds Tryz.pinned (OpenSpec.ofChange rollReadsSpec)

/-- ITS FALSE NEIGHBOUR: 'it returns false'. Refute it at one input. -/
def rollReadsWrong : ChangeSpec := { name := "rollReads", fn := fun _ => fun
  | [d1, d2] => { results := [.lit (.bool false)], args := [d1, d2] }
  | _ => none }
def RollReadsWrongFalsely : Prop := rollReadsRow.holds Tryz.pinned (OpenSpec.ofChange rollReadsWrong)

/-- 'donjonlaw23.RollNone': WHATEVER THE INPUT: true; the input reads as it did. -/
def rollNoneSpec : ChangeSpec := { name := "rollNone", fn := fun _ => fun
  | [d1, d2] => { results := [.lit (.bool true)], args := [d1, d2] }
  | _ => none }
def rollNoneRow : OpenClaim := { program := "ytpjbalhhlaofmaagreat", sum := "d22bfb04c7491014102ed2c5301345080077c12d8a91face749f6da20ea2da8e", func := "donjon/donjonlaw23.RollNone", spec := "rollNone", inPlace := ["internal/bytealg.MakeNoZero", "internal/bytealg.abigen_runtime_cmpstring", "internal/bytealg.Compare", "slices.overlaps[donjon/api.Entry]"], unfollowed := true, recurses := true, apart := false }
def RollNoneSaid : Prop := rollNoneRow.holds Tryz.pinned (OpenSpec.ofChange rollNoneSpec)

/-- ITS FALSE NEIGHBOUR: 'it returns false'. Refute it at one input. -/
def rollNoneWrong : ChangeSpec := { name := "rollNone", fn := fun _ => fun
  | [d1, d2] => { results := [.lit (.bool false)], args := [d1, d2] }
  | _ => none }
def RollNoneWrongFalsely : Prop := rollNoneRow.holds Tryz.pinned (OpenSpec.ofChange rollNoneWrong)

/-- 'donjonlaw23.RollBytes': WHATEVER THE INPUT: true; the input reads as it did. -/
def rollBytesSpec : ChangeSpec := { name := "rollBytes", fn := fun _ => fun
  | [d] => { results := [.lit (.bool true)], args := [d] }
  | _ => none }
def rollBytesRow : OpenClaim := { program := "ytpjbalhhlaofmaagreat", sum := "d22bfb04c7491014102ed2c5301345080077c12d8a91face749f6da20ea2da8e", func := "donjon/donjonlaw23.RollBytes", spec := "rollBytes", inPlace := ["internal/bytealg.MakeNoZero", "internal/bytealg.abigen_runtime_cmpstring", "internal/bytealg.Compare", "slices.overlaps[donjon/api.Entry]"], unfollowed := true, recurses := true, apart := false }
def RollBytesSaid : Prop := rollBytesRow.holds Tryz.pinned (OpenSpec.ofChange rollBytesSpec)

/-- ITS FALSE NEIGHBOUR: 'it returns false'. Refute it at one input. -/
def rollBytesWrong : ChangeSpec := { name := "rollBytes", fn := fun _ => fun
  | [d] => { results := [.lit (.bool false)], args := [d] }
  | _ => none }
def RollBytesWrongFalsely : Prop := rollBytesRow.holds Tryz.pinned (OpenSpec.ofChange rollBytesWrong)

/-- 'donjonlaw23.RollSame': WHATEVER THE INPUT: true; the input reads as it did. -/
def rollSameSpec : ChangeSpec := { name := "rollSame", fn := fun _ => fun
  | [d1, d2] => { results := [.lit (.bool true)], args := [d1, d2] }
  | _ => none }
def rollSameRow : OpenClaim := { program := "ytpjbalhhlaofmaagreat", sum := "d22bfb04c7491014102ed2c5301345080077c12d8a91face749f6da20ea2da8e", func := "donjon/donjonlaw23.RollSame", spec := "rollSame", inPlace := ["internal/bytealg.MakeNoZero", "internal/bytealg.abigen_runtime_cmpstring", "internal/bytealg.Compare", "slices.overlaps[donjon/api.Entry]"], unfollowed := true, recurses := true, apart := false }
def RollSameSaid : Prop := rollSameRow.holds Tryz.pinned (OpenSpec.ofChange rollSameSpec)

/-- ITS FALSE NEIGHBOUR: 'it returns false'. Refute it at one input. -/
def rollSameWrong : ChangeSpec := { name := "rollSame", fn := fun _ => fun
  | [d1, d2] => { results := [.lit (.bool false)], args := [d1, d2] }
  | _ => none }
def RollSameWrongFalsely : Prop := rollSameRow.holds Tryz.pinned (OpenSpec.ofChange rollSameWrong)

/-- 'donjonlaw23.RollPlays': WHATEVER THE INPUT: true; the input reads as it did. -/
def rollPlaysSpec : ChangeSpec := { name := "rollPlays", fn := fun _ => fun
  | [d] => { results := [.lit (.bool true)], args := [d] }
  | _ => none }
def rollPlaysRow : OpenClaim := { program := "ytpjbalhhlaofmaagreat", sum := "d22bfb04c7491014102ed2c5301345080077c12d8a91face749f6da20ea2da8e", func := "donjon/donjonlaw23.RollPlays", spec := "rollPlays", inPlace := ["internal/bytealg.MakeNoZero", "internal/bytealg.abigen_runtime_cmpstring", "internal/bytealg.Compare", "slices.overlaps[donjon/api.Entry]"], unfollowed := true, recurses := true, apart := false }
def RollPlaysSaid : Prop := rollPlaysRow.holds Tryz.pinned (OpenSpec.ofChange rollPlaysSpec)

/-- ITS FALSE NEIGHBOUR: 'it returns false'. Refute it at one input. -/
def rollPlaysWrong : ChangeSpec := { name := "rollPlays", fn := fun _ => fun
  | [d] => { results := [.lit (.bool false)], args := [d] }
  | _ => none }
def RollPlaysWrongFalsely : Prop := rollPlaysRow.holds Tryz.pinned (OpenSpec.ofChange rollPlaysWrong)

/- THE SECOND FORM. 'bulk': how many values and letters a reading holds, each counted each time it is reached (what is shared counts as often as it is met; a slice's spare places count too). A statement '..UptoSaid' is the law's where the arguments, and the package variables that the reading takes, are together of bulk at most 1048576: NARROWER than '..Said'. Prove '..Said' where nothing that the law and all that it calls make is longer than what came in: it says more and counts as full. Else prove '..UptoSaid'. A law counts once. -/
mutual
def uptoBulk {H : Type} : DataW H → Nat
  | .lit (.string bytes) => bytes.length + 1
  | .lit _ => 1
  | .nil => 1
  | .ptr d => uptoBulk d + 1
  | .slice elems spare => uptoBulkAll elems + uptoBulkAll spare + 1
  | .agg parts => uptoBulkAll parts + 1
  | .iface _ d => uptoBulk d + 1
  | .map entries => uptoBulkEntries entries + 1
  | .held _ => 1
def uptoBulkAll {H : Type} : List (DataW H) → Nat
  | [] => 0
  | d :: r => uptoBulk d + uptoBulkAll r
def uptoBulkEntries {H : Type} : List (Lit × DataW H) → Nat
  | [] => 0
  | x :: r => uptoBulkEntry x + uptoBulkEntries r
def uptoBulkEntry {H : Type} : Lit × DataW H → Nat
  | (.string bytes, d) => bytes.length + uptoBulk d + 1
  | (_, d) => uptoBulk d + 1
 end
def uptoSmall : (H : Type) → List (DataW H) → Bool := fun _ ds => decide (uptoBulkAll ds ≤ 1048576)
def OpenSpec.upto (s : _root_.Go.ChangeSpec) : _root_.Go.OpenSpec := { _root_.Go.OpenSpec.ofChange s with cond := some uptoSmall }

/-- 'donjonlaw23.RollReads', WHERE WHAT IT READS IS OF BULK AT MOST 1048576: true; the input reads as it did. -/
def rollReadsUptoRow : OpenClaim := { program := "ytpjbalhhlaofmaagreat", sum := "d22bfb04c7491014102ed2c5301345080077c12d8a91face749f6da20ea2da8e", func := "donjon/donjonlaw23.RollReads", spec := "rollReads", inPlace := ["internal/bytealg.MakeNoZero", "internal/bytealg.abigen_runtime_cmpstring", "internal/bytealg.Compare", "slices.overlaps[donjon/api.Entry]"], unfollowed := true, recurses := true, apart := false, narrowed := true }
def RollReadsUptoSaid : Prop := rollReadsUptoRow.holds Tryz.pinned (OpenSpec.upto rollReadsSpec)

/-- 'donjonlaw23.RollNone', WHERE WHAT IT READS IS OF BULK AT MOST 1048576: true; the input reads as it did. -/
def rollNoneUptoRow : OpenClaim := { program := "ytpjbalhhlaofmaagreat", sum := "d22bfb04c7491014102ed2c5301345080077c12d8a91face749f6da20ea2da8e", func := "donjon/donjonlaw23.RollNone", spec := "rollNone", inPlace := ["internal/bytealg.MakeNoZero", "internal/bytealg.abigen_runtime_cmpstring", "internal/bytealg.Compare", "slices.overlaps[donjon/api.Entry]"], unfollowed := true, recurses := true, apart := false, narrowed := true }
def RollNoneUptoSaid : Prop := rollNoneUptoRow.holds Tryz.pinned (OpenSpec.upto rollNoneSpec)

/-- 'donjonlaw23.RollBytes', WHERE WHAT IT READS IS OF BULK AT MOST 1048576: true; the input reads as it did. -/
def rollBytesUptoRow : OpenClaim := { program := "ytpjbalhhlaofmaagreat", sum := "d22bfb04c7491014102ed2c5301345080077c12d8a91face749f6da20ea2da8e", func := "donjon/donjonlaw23.RollBytes", spec := "rollBytes", inPlace := ["internal/bytealg.MakeNoZero", "internal/bytealg.abigen_runtime_cmpstring", "internal/bytealg.Compare", "slices.overlaps[donjon/api.Entry]"], unfollowed := true, recurses := true, apart := false, narrowed := true }
def RollBytesUptoSaid : Prop := rollBytesUptoRow.holds Tryz.pinned (OpenSpec.upto rollBytesSpec)

/-- 'donjonlaw23.RollSame', WHERE WHAT IT READS IS OF BULK AT MOST 1048576: true; the input reads as it did. -/
def rollSameUptoRow : OpenClaim := { program := "ytpjbalhhlaofmaagreat", sum := "d22bfb04c7491014102ed2c5301345080077c12d8a91face749f6da20ea2da8e", func := "donjon/donjonlaw23.RollSame", spec := "rollSame", inPlace := ["internal/bytealg.MakeNoZero", "internal/bytealg.abigen_runtime_cmpstring", "internal/bytealg.Compare", "slices.overlaps[donjon/api.Entry]"], unfollowed := true, recurses := true, apart := false, narrowed := true }
def RollSameUptoSaid : Prop := rollSameUptoRow.holds Tryz.pinned (OpenSpec.upto rollSameSpec)

/-- 'donjonlaw23.RollPlays', WHERE WHAT IT READS IS OF BULK AT MOST 1048576: true; the input reads as it did. -/
def rollPlaysUptoRow : OpenClaim := { program := "ytpjbalhhlaofmaagreat", sum := "d22bfb04c7491014102ed2c5301345080077c12d8a91face749f6da20ea2da8e", func := "donjon/donjonlaw23.RollPlays", spec := "rollPlays", inPlace := ["internal/bytealg.MakeNoZero", "internal/bytealg.abigen_runtime_cmpstring", "internal/bytealg.Compare", "slices.overlaps[donjon/api.Entry]"], unfollowed := true, recurses := true, apart := false, narrowed := true }
def RollPlaysUptoSaid : Prop := rollPlaysUptoRow.holds Tryz.pinned (OpenSpec.upto rollPlaysSpec)

end Rows
end Go.Proofs.YtpjbalhhlaofmaaGreat
