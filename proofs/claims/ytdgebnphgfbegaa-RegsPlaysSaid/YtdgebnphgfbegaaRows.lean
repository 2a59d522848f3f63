/-
  No cell of these rows narrows 'for every input' (looked for: loops, veiled, ifaces, maps, wideKeys, modest, calm, conditions, laid).
  DERIVED. THE GIVEN ROWS OF THIS SEAT. 9 by the template 'for every input the law returns true; each argument reads behind the call as it read before'; 0 by the template 'total and deterministic' (their statements: YtdgebnphgfbegaaTotals.lean).
  GIVEN WITH THE SEED: the statements are not yours to turn. If you find one false, say at which input.
  Laid BY PROGRAM, IN A SANDBOX (cutbox-rows.mjs): the forced cells as the released guide's own fill.sh prints them over the translation 90ff3c6c1d1693e1… (all of the seat's roots in one cut). By AI agents, Wed Nov 11 2026. No macro, syntax, notation, axiom, sorry.
-/
import Derived.Test.YtdgebnphgfbegaaChecked
import GoSem.Claim
import GoSem.ClaimJoined
import GoSem.ClaimMapViews
import Derived.JoinedTies
import Derived.KernelRfl
namespace Go.Proofs.Ytdgebnphgfbegaa
/- THE CELL 'sum', in the pinned program and in every row, IS THE sha256 OF THE DUMP (.gsa) THAT YtdgebnphgfbegaaProg.lean LOADS. Nothing in Lean hashes anything: it is a label: what it is worth is what the hold of that sum in a sandbox is worth. -/
noncomputable def Try.pinned : Pinned := { name := "ytdgebnphgfbegaa", sum := "90ff3c6c1d1693e1b0fe9465b538e992c562a26c411e273b635bb136ea166716", checked := Try.checked }
namespace Rows
def none {H : Type} : Left H := { results := [], args := [] }

/-- 'donjonlaw08.DiskSynced': WHATEVER THE INPUT: true; the input reads as it did. -/
def diskSyncedSpec : ChangeSpec := { name := "diskSynced", fn := fun _ => fun
  | [d1, d2, d3] => { results := [.lit (.bool true)], args := [d1, d2, d3] }
  | _ => none }
def diskSyncedRow : OpenClaim := { program := "ytdgebnphgfbegaa", sum := "90ff3c6c1d1693e1b0fe9465b538e992c562a26c411e273b635bb136ea166716", func := "donjon/donjonlaw08.DiskSynced", spec := "diskSynced", apart := false }
def DiskSyncedSaid : Prop := diskSyncedRow.holds Try.pinned (OpenSpec.ofChange diskSyncedSpec)

/-- ITS FALSE NEIGHBOUR: 'it returns false'. Refute it at one input. -/
def diskSyncedWrong : ChangeSpec := { name := "diskSynced", fn := fun _ => fun
  | [d1, d2, d3] => { results := [.lit (.bool false)], args := [d1, d2, d3] }
  | _ => none }
def DiskSyncedWrongFalsely : Prop := diskSyncedRow.holds Try.pinned (OpenSpec.ofChange diskSyncedWrong)

/-- 'donjonlaw09.RegsNone': WHATEVER THE INPUT: true; the input reads as it did. -/
def regsNoneSpec : ChangeSpec := { name := "regsNone", fn := fun _ => fun
  | [d1, d2] => { results := [.lit (.bool true)], args := [d1, d2] }
  | _ => none }
def regsNoneRow : OpenClaim := { program := "ytdgebnphgfbegaa", sum := "90ff3c6c1d1693e1b0fe9465b538e992c562a26c411e273b635bb136ea166716", func := "donjon/donjonlaw09.RegsNone", spec := "regsNone", apart := false }
def RegsNoneSaid : Prop := regsNoneRow.holds Try.pinned (OpenSpec.ofChange regsNoneSpec)

/-- ITS FALSE NEIGHBOUR: 'it returns false'. Refute it at one input. -/
def regsNoneWrong : ChangeSpec := { name := "regsNone", fn := fun _ => fun
  | [d1, d2] => { results := [.lit (.bool false)], args := [d1, d2] }
  | _ => none }
def RegsNoneWrongFalsely : Prop := regsNoneRow.holds Try.pinned (OpenSpec.ofChange regsNoneWrong)

/-- 'donjonlaw09.RegsDraws': WHATEVER THE INPUT: true; the input reads as it did. -/
def regsDrawsSpec : ChangeSpec := { name := "regsDraws", fn := fun _ => fun
  | [d1, d2] => { results := [.lit (.bool true)], args := [d1, d2] }
  | _ => none }
def regsDrawsRow : OpenClaim := { program := "ytdgebnphgfbegaa", sum := "90ff3c6c1d1693e1b0fe9465b538e992c562a26c411e273b635bb136ea166716", func := "donjon/donjonlaw09.RegsDraws", spec := "regsDraws", apart := false }
def RegsDrawsSaid : Prop := regsDrawsRow.holds Try.pinned (OpenSpec.ofChange regsDrawsSpec)

/-- ITS FALSE NEIGHBOUR: 'it returns false'. Refute it at one input. -/
def regsDrawsWrong : ChangeSpec := { name := "regsDraws", fn := fun _ => fun
  | [d1, d2] => { results := [.lit (.bool false)], args := [d1, d2] }
  | _ => none }
def RegsDrawsWrongFalsely : Prop := regsDrawsRow.holds Try.pinned (OpenSpec.ofChange regsDrawsWrong)

/-- 'donjonlaw08.DiskFails': WHATEVER THE INPUT: true; the input reads as it did. -/
def diskFailsSpec : ChangeSpec := { name := "diskFails", fn := fun _ => fun
  | [d1, d2, d3] => { results := [.lit (.bool true)], args := [d1, d2, d3] }
  | _ => none }
def diskFailsRow : OpenClaim := { program := "ytdgebnphgfbegaa", sum := "90ff3c6c1d1693e1b0fe9465b538e992c562a26c411e273b635bb136ea166716", func := "donjon/donjonlaw08.DiskFails", spec := "diskFails", apart := false }
def DiskFailsSaid : Prop := diskFailsRow.holds Try.pinned (OpenSpec.ofChange diskFailsSpec)

/-- ITS FALSE NEIGHBOUR: 'it returns false'. Refute it at one input. -/
def diskFailsWrong : ChangeSpec := { name := "diskFails", fn := fun _ => fun
  | [d1, d2, d3] => { results := [.lit (.bool false)], args := [d1, d2, d3] }
  | _ => none }
def DiskFailsWrongFalsely : Prop := diskFailsRow.holds Try.pinned (OpenSpec.ofChange diskFailsWrong)

/-- 'donjonlaw08.DiskCalm': WHATEVER THE INPUT: true; the input reads as it did. -/
def diskCalmSpec : ChangeSpec := { name := "diskCalm", fn := fun _ => fun
  | [d1, d2] => { results := [.lit (.bool true)], args := [d1, d2] }
  | _ => none }
def diskCalmRow : OpenClaim := { program := "ytdgebnphgfbegaa", sum := "90ff3c6c1d1693e1b0fe9465b538e992c562a26c411e273b635bb136ea166716", func := "donjon/donjonlaw08.DiskCalm", spec := "diskCalm", apart := false }
def DiskCalmSaid : Prop := diskCalmRow.holds Try.pinned (OpenSpec.ofChange diskCalmSpec)

/-- ITS FALSE NEIGHBOUR: 'it returns false'. Refute it at one input. -/
def diskCalmWrong : ChangeSpec := { name := "diskCalm", fn := fun _ => fun
  | [d1, d2] => { results := [.lit (.bool false)], args := [d1, d2] }
  | _ => none }
def DiskCalmWrongFalsely : Prop := diskCalmRow.holds Try.pinned (OpenSpec.ofChange diskCalmWrong)

/-- 'donjonlaw09.RegsRise': WHATEVER THE INPUT: true; the input reads as it did. -/
def regsRiseSpec : ChangeSpec := { name := "regsRise", fn := fun _ => fun
  | [d1, d2] => { results := [.lit (.bool true)], args := [d1, d2] }
  | _ => none }
def regsRiseRow : OpenClaim := { program := "ytdgebnphgfbegaa", sum := "90ff3c6c1d1693e1b0fe9465b538e992c562a26c411e273b635bb136ea166716", func := "donjon/donjonlaw09.RegsRise", spec := "regsRise", apart := false }
def RegsRiseSaid : Prop := regsRiseRow.holds Try.pinned (OpenSpec.ofChange regsRiseSpec)

/-- ITS FALSE NEIGHBOUR: 'it returns false'. Refute it at one input. -/
def regsRiseWrong : ChangeSpec := { name := "regsRise", fn := fun _ => fun
  | [d1, d2] => { results := [.lit (.bool false)], args := [d1, d2] }
  | _ => none }
def RegsRiseWrongFalsely : Prop := regsRiseRow.holds Try.pinned (OpenSpec.ofChange regsRiseWrong)

/-- 'donjonlaw08.DiskPlays': WHATEVER THE INPUT: true; the input reads as it did. -/
def diskPlaysSpec : ChangeSpec := { name := "diskPlays", fn := fun _ => fun
  | [d1, d2] => { results := [.lit (.bool true)], args := [d1, d2] }
  | _ => none }
def diskPlaysRow : OpenClaim := { program := "ytdgebnphgfbegaa", sum := "90ff3c6c1d1693e1b0fe9465b538e992c562a26c411e273b635bb136ea166716", func := "donjon/donjonlaw08.DiskPlays", spec := "diskPlays", apart := false }
def DiskPlaysSaid : Prop := diskPlaysRow.holds Try.pinned (OpenSpec.ofChange diskPlaysSpec)

/-- ITS FALSE NEIGHBOUR: 'it returns false'. Refute it at one input. -/
def diskPlaysWrong : ChangeSpec := { name := "diskPlays", fn := fun _ => fun
  | [d1, d2] => { results := [.lit (.bool false)], args := [d1, d2] }
  | _ => none }
def DiskPlaysWrongFalsely : Prop := diskPlaysRow.holds Try.pinned (OpenSpec.ofChange diskPlaysWrong)

/-- 'donjonlaw08.DiskNone': WHATEVER THE INPUT: true; the input reads as it did. -/
def diskNoneSpec : ChangeSpec := { name := "diskNone", fn := fun _ => fun
  | [d] => { results := [.lit (.bool true)], args := [d] }
  | _ => none }
def diskNoneRow : OpenClaim := { program := "ytdgebnphgfbegaa", sum := "90ff3c6c1d1693e1b0fe9465b538e992c562a26c411e273b635bb136ea166716", func := "donjon/donjonlaw08.DiskNone", spec := "diskNone", apart := false }
def DiskNoneSaid : Prop := diskNoneRow.holds Try.pinned (OpenSpec.ofChange diskNoneSpec)

/-- ITS FALSE NEIGHBOUR: 'it returns false'. Refute it at one input. -/
def diskNoneWrong : ChangeSpec := { name := "diskNone", fn := fun _ => fun
  | [d] => { results := [.lit (.bool false)], args := [d] }
  | _ => none }
def DiskNoneWrongFalsely : Prop := diskNoneRow.holds Try.pinned (OpenSpec.ofChange diskNoneWrong)

/-- 'donjonlaw09.RegsPlays': WHATEVER THE INPUT: true; the input reads as it did. -/
def regsPlaysSpec : ChangeSpec := { name := "regsPlays", fn := fun _ => fun
  | [d1, d2, d3] => { results := [.lit (.bool true)], args := [d1, d2, d3] }
  | _ => none }
def regsPlaysRow : OpenClaim := { program := "ytdgebnphgfbegaa", sum := "90ff3c6c1d1693e1b0fe9465b538e992c562a26c411e273b635bb136ea166716", func := "donjon/donjonlaw09.RegsPlays", spec := "regsPlays", apart := false }
def RegsPlaysSaid : Prop := regsPlaysRow.holds Try.pinned (OpenSpec.ofChange regsPlaysSpec)

/-- ITS FALSE NEIGHBOUR: 'it returns false'. Refute it at one input. -/
def regsPlaysWrong : ChangeSpec := { name := "regsPlays", fn := fun _ => fun
  | [d1, d2, d3] => { results := [.lit (.bool false)], args := [d1, d2, d3] }
  | _ => none }
def RegsPlaysWrongFalsely : Prop := regsPlaysRow.holds Try.pinned (OpenSpec.ofChange regsPlaysWrong)

/- THE SECOND FORM. 'bulk': how many values and letters a reading holds, each counted each time it is reached (what is shared counts as often as it is met; a slice's spare places count too). A statement '..UptoSaid' is the law's where the arguments, and the package variables that the reading takes, are together of bulk at most 1048576: NARROWER than '..Said'. Prove '..Said' where nothing that the law and all that it calls make is longer than what came in: it says more and counts as full. Else prove '..UptoSaid'. A law counts once. -/
mutual
def uptoBulk {H : Type} : DataW H → Nat
  | .lit (.string bytes) => bytes.length + 1
  | .lit _ => 1
  | .nil => 1
  | .ptr d => uptoBulk d + 1
  | .slice elems spare => uptoBulkAll elems + uptoBulkAll spare + 1
  | .agg parts => uptoBulkAll parts + 1
  | .iface _ d => uptoBulk d + 1
  | .map entries => uptoBulkEntries entries + 1
  | .held _ => 1
def uptoBulkAll {H : Type} : List (DataW H) → Nat
  | [] => 0
  | d :: r => uptoBulk d + uptoBulkAll r
def uptoBulkEntries {H : Type} : List (Lit × DataW H) → Nat
  | [] => 0
  | x :: r => uptoBulkEntry x + uptoBulkEntries r
def uptoBulkEntry {H : Type} : Lit × DataW H → Nat
  | (.string bytes, d) => bytes.length + uptoBulk d + 1
  | (_, d) => uptoBulk d + 1
 end
def uptoSmall : (H : Type) → List (DataW H) → Bool := fun _ ds => decide (uptoBulkAll ds ≤ 1048576)
def OpenSpec.upto (s : _root_.Go.ChangeSpec) : _root_.Go.OpenSpec := { _root_.Go.OpenSpec.ofChange s with cond := some uptoSmall }

/-- 'donjonlaw08.DiskSynced', WHERE WHAT IT READS IS OF BULK AT MOST 1048576: true; the input reads as it did. -/
def diskSyncedUptoRow : OpenClaim := { program := "ytdgebnphgfbegaa", sum := "90ff3c6c1d1693e1b0fe9465b538e992c562a26c411e273b635bb136ea166716", func := "donjon/donjonlaw08.DiskSynced", spec := "diskSynced", apart := false, narrowed := true }
def DiskSyncedUptoSaid : Prop := diskSyncedUptoRow.holds Try.pinned (OpenSpec.upto diskSyncedSpec)

/-- 'donjonlaw09.RegsNone', WHERE WHAT IT READS IS OF BULK AT MOST 1048576: true; the input reads as it did. -/
def regsNoneUptoRow : OpenClaim := { program := "ytdgebnphgfbegaa", sum := "90ff3c6c1d1693e1b0fe9465b538e992c562a26c411e273b635bb136ea166716", func := "donjon/donjonlaw09.RegsNone", spec := "regsNone", apart := false, narrowed := true }
def RegsNoneUptoSaid : Prop := regsNoneUptoRow.holds Try.pinned (OpenSpec.upto regsNoneSpec)

/-- 'donjonlaw09.RegsDraws', WHERE WHAT IT READS IS OF BULK AT MOST 1048576: true; the input reads as it did. -/
def regsDrawsUptoRow : OpenClaim := { program := "ytdgebnphgfbegaa", sum := "90ff3c6c1d1693e1b0fe9465b538e992c562a26c411e273b635bb136ea166716", func := "donjon/donjonlaw09.RegsDraws", spec := "regsDraws", apart := false, narrowed := true }
def RegsDrawsUptoSaid : Prop := regsDrawsUptoRow.holds Try.pinned (OpenSpec.upto regsDrawsSpec)

/-- 'donjonlaw08.DiskFails', WHERE WHAT IT READS IS OF BULK AT MOST 1048576: true; the input reads as it did. -/
def diskFailsUptoRow : OpenClaim := { program := "ytdgebnphgfbegaa", sum := "90ff3c6c1d1693e1b0fe9465b538e992c562a26c411e273b635bb136ea166716", func := "donjon/donjonlaw08.DiskFails", spec := "diskFails", apart := false, narrowed := true }
def DiskFailsUptoSaid : Prop := diskFailsUptoRow.holds Try.pinned (OpenSpec.upto diskFailsSpec)

/-- 'donjonlaw08.DiskCalm', WHERE WHAT IT READS IS OF BULK AT MOST 1048576: true; the input reads as it did. -/
def diskCalmUptoRow : OpenClaim := { program := "ytdgebnphgfbegaa", sum := "90ff3c6c1d1693e1b0fe9465b538e992c562a26c411e273b635bb136ea166716", func := "donjon/donjonlaw08.DiskCalm", spec := "diskCalm", apart := false, narrowed := true }
def DiskCalmUptoSaid : Prop := diskCalmUptoRow.holds Try.pinned (OpenSpec.upto diskCalmSpec)

/-- 'donjonlaw09.RegsRise', WHERE WHAT IT READS IS OF BULK AT MOST 1048576: true; the input reads as it did. -/
def regsRiseUptoRow : OpenClaim := { program := "ytdgebnphgfbegaa", sum := "90ff3c6c1d1693e1b0fe9465b538e992c562a26c411e273b635bb136ea166716", func := "donjon/donjonlaw09.RegsRise", spec := "regsRise", apart := false, narrowed := true }
def RegsRiseUptoSaid : Prop := regsRiseUptoRow.holds Try.pinned (OpenSpec.upto regsRiseSpec)

/-- 'donjonlaw08.DiskPlays', WHERE WHAT IT READS IS OF BULK AT MOST 1048576: true; the input reads as it did. -/
def diskPlaysUptoRow : OpenClaim := { program := "ytdgebnphgfbegaa", sum := "90ff3c6c1d1693e1b0fe9465b538e992c562a26c411e273b635bb136ea166716", func := "donjon/donjonlaw08.DiskPlays", spec := "diskPlays", apart := false, narrowed := true }
def DiskPlaysUptoSaid : Prop := diskPlaysUptoRow.holds Try.pinned (OpenSpec.upto diskPlaysSpec)

/-- 'donjonlaw08.DiskNone', WHERE WHAT IT READS IS OF BULK AT MOST 1048576: true; the input reads as it did. -/
def diskNoneUptoRow : OpenClaim := { program := "ytdgebnphgfbegaa", sum := "90ff3c6c1d1693e1b0fe9465b538e992c562a26c411e273b635bb136ea166716", func := "donjon/donjonlaw08.DiskNone", spec := "diskNone", apart := false, narrowed := true }
def DiskNoneUptoSaid : Prop := diskNoneUptoRow.holds Try.pinned (OpenSpec.upto diskNoneSpec)

/-- 'donjonlaw09.RegsPlays', WHERE WHAT IT READS IS OF BULK AT MOST 1048576: true; the input reads as it did. -/
def regsPlaysUptoRow : OpenClaim := { program := "ytdgebnphgfbegaa", sum := "90ff3c6c1d1693e1b0fe9465b538e992c562a26c411e273b635bb136ea166716", func := "donjon/donjonlaw09.RegsPlays", spec := "regsPlays", apart := false, narrowed := true }
def RegsPlaysUptoSaid : Prop := regsPlaysUptoRow.holds Try.pinned (OpenSpec.upto regsPlaysSpec)

end Rows
end Go.Proofs.Ytdgebnphgfbegaa
