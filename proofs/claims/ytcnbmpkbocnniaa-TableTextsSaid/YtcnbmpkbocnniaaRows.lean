/-
  No cell of these rows narrows 'for every input' (looked for: loops, veiled, ifaces, maps, wideKeys, modest, calm, conditions, laid).
  DERIVED. THE GIVEN ROWS OF THIS SEAT. 9 by the template 'for every input the law returns true; each argument reads behind the call as it read before'; 0 by the template 'total and deterministic' (their statements: YtcnbmpkbocnniaaTotals.lean).
  GIVEN WITH THE SEED: the statements are not yours to turn. If you find one false, say at which input.
  Laid BY PROGRAM, IN A SANDBOX (cutbox-rows.mjs): the forced cells as the released guide's own fill.sh prints them over the translation af435a404b1669ed… (all of the seat's roots in one cut). By AI agents, Wed Nov 11 2026. No macro, syntax, notation, axiom, sorry.
-/
import Derived.Test.YtcnbmpkbocnniaaChecked
import GoSem.Claim
import GoSem.ClaimJoined
import GoSem.ClaimMapViews
import Derived.JoinedTies
import Derived.KernelRfl
namespace Go.Proofs.Ytcnbmpkbocnniaa
/- THE CELL 'sum', in the pinned program and in every row, IS THE sha256 OF THE DUMP (.gsa) THAT YtcnbmpkbocnniaaProg.lean LOADS. Nothing in Lean hashes anything: it is a label: what it is worth is what the hold of that sum in a sandbox is worth. -/
noncomputable def Try.pinned : Pinned := { name := "ytcnbmpkbocnniaa", sum := "af435a404b1669edd55b6c8a49c9028dbc7e26fd83215feaf646e7e8705cf0a4", checked := Try.checked }
namespace Rows
def none {H : Type} : Left H := { results := [], args := [] }

/-- 'columbarylaw02.TableTexts': WHATEVER THE INPUT: true; the input reads as it did. -/
def tableTextsSpec : ChangeSpec := { name := "tableTexts", fn := fun _ => fun
  | [d] => { results := [.lit (.bool true)], args := [d] }
  | _ => none }
def tableTextsRow : OpenClaim := { program := "ytcnbmpkbocnniaa", sum := "af435a404b1669edd55b6c8a49c9028dbc7e26fd83215feaf646e7e8705cf0a4", func := "columbary/columbarylaw02.TableTexts", spec := "tableTexts", inPlace := ["slices.overlaps[columbary/table.entry[string, []string]]", "slices.overlaps[columbary/table.entry[int, string]]"], unfollowed := true, recurses := true, apart := false }
def TableTextsSaid : Prop := tableTextsRow.holds Try.pinned (OpenSpec.ofChange tableTextsSpec)

/-- ITS FALSE NEIGHBOUR: 'it returns false'. Refute it at one input. -/
def tableTextsWrong : ChangeSpec := { name := "tableTexts", fn := fun _ => fun
  | [d] => { results := [.lit (.bool false)], args := [d] }
  | _ => none }
def TableTextsWrongFalsely : Prop := tableTextsRow.holds Try.pinned (OpenSpec.ofChange tableTextsWrong)

/-- 'columbarylaw02.TableOwn': WHATEVER THE INPUT: true; the input reads as it did. -/
def tableOwnSpec : ChangeSpec := { name := "tableOwn", fn := fun _ => fun
  | [d] => { results := [.lit (.bool true)], args := [d] }
  | _ => none }
def tableOwnRow : OpenClaim := { program := "ytcnbmpkbocnniaa", sum := "af435a404b1669edd55b6c8a49c9028dbc7e26fd83215feaf646e7e8705cf0a4", func := "columbary/columbarylaw02.TableOwn", spec := "tableOwn", inPlace := ["slices.overlaps[columbary/table.entry[int, int]]", "slices.overlaps[columbary/table.entry[int, string]]"], unfollowed := true, recurses := true, apart := false }
def TableOwnSaid : Prop := tableOwnRow.holds Try.pinned (OpenSpec.ofChange tableOwnSpec)

/-- ITS FALSE NEIGHBOUR: 'it returns false'. Refute it at one input. -/
def tableOwnWrong : ChangeSpec := { name := "tableOwn", fn := fun _ => fun
  | [d] => { results := [.lit (.bool false)], args := [d] }
  | _ => none }
def TableOwnWrongFalsely : Prop := tableOwnRow.holds Try.pinned (OpenSpec.ofChange tableOwnWrong)

/-- 'columbarylaw02.TableFold': WHATEVER THE INPUT: true; the input reads as it did. -/
def tableFoldSpec : ChangeSpec := { name := "tableFold", fn := fun _ => fun
  | [d1, d2] => { results := [.lit (.bool true)], args := [d1, d2] }
  | _ => none }
def tableFoldRow : OpenClaim := { program := "ytcnbmpkbocnniaa", sum := "af435a404b1669edd55b6c8a49c9028dbc7e26fd83215feaf646e7e8705cf0a4", func := "columbary/columbarylaw02.TableFold", spec := "tableFold", inPlace := ["slices.overlaps[columbary/table.entry[int, int]]", "slices.overlaps[columbary/table.entry[int, string]]"], unfollowed := true, recurses := true, apart := false }
def TableFoldSaid : Prop := tableFoldRow.holds Try.pinned (OpenSpec.ofChange tableFoldSpec)

/-- ITS FALSE NEIGHBOUR: 'it returns false'. Refute it at one input. -/
def tableFoldWrong : ChangeSpec := { name := "tableFold", fn := fun _ => fun
  | [d1, d2] => { results := [.lit (.bool false)], args := [d1, d2] }
  | _ => none }
def TableFoldWrongFalsely : Prop := tableFoldRow.holds Try.pinned (OpenSpec.ofChange tableFoldWrong)

/-- 'columbarylaw02.TablePlays': WHATEVER THE INPUT: true; the input reads as it did. -/
def tablePlaysSpec : ChangeSpec := { name := "tablePlays", fn := fun _ => fun
  | [d1, d2] => { results := [.lit (.bool true)], args := [d1, d2] }
  | _ => none }
def tablePlaysRow : OpenClaim := { program := "ytcnbmpkbocnniaa", sum := "af435a404b1669edd55b6c8a49c9028dbc7e26fd83215feaf646e7e8705cf0a4", func := "columbary/columbarylaw02.TablePlays", spec := "tablePlays", inPlace := ["slices.overlaps[columbary/table.entry[int, int]]", "slices.overlaps[columbary/table.entry[int, string]]"], unfollowed := true, recurses := true, apart := false }
def TablePlaysSaid : Prop := tablePlaysRow.holds Try.pinned (OpenSpec.ofChange tablePlaysSpec)

/-- ITS FALSE NEIGHBOUR: 'it returns false'. Refute it at one input. -/
def tablePlaysWrong : ChangeSpec := { name := "tablePlays", fn := fun _ => fun
  | [d1, d2] => { results := [.lit (.bool false)], args := [d1, d2] }
  | _ => none }
def TablePlaysWrongFalsely : Prop := tablePlaysRow.holds Try.pinned (OpenSpec.ofChange tablePlaysWrong)

/-- 'columbarylaw02.TableNil': WHATEVER THE INPUT: true; the input reads as it did. -/
def tableNilSpec : ChangeSpec := { name := "tableNil", fn := fun _ => fun
  | [d1, d2] => { results := [.lit (.bool true)], args := [d1, d2] }
  | _ => none }
def tableNilRow : OpenClaim := { program := "ytcnbmpkbocnniaa", sum := "af435a404b1669edd55b6c8a49c9028dbc7e26fd83215feaf646e7e8705cf0a4", func := "columbary/columbarylaw02.TableNil", spec := "tableNil", inPlace := ["slices.overlaps[columbary/table.entry[int, int]]", "slices.overlaps[columbary/table.entry[int, string]]"], unfollowed := true, recurses := true, apart := false }
def TableNilSaid : Prop := tableNilRow.holds Try.pinned (OpenSpec.ofChange tableNilSpec)

/-- ITS FALSE NEIGHBOUR: 'it returns false'. Refute it at one input. -/
def tableNilWrong : ChangeSpec := { name := "tableNil", fn := fun _ => fun
  | [d1, d2] => { results := [.lit (.bool false)], args := [d1, d2] }
  | _ => none }
def TableNilWrongFalsely : Prop := tableNilRow.holds Try.pinned (OpenSpec.ofChange tableNilWrong)

/-- 'columbarylaw29.ClockOrder': WHATEVER THE INPUT: true; the input reads as it did. -/
def clockOrderSpec : ChangeSpec := { name := "clockOrder", fn := fun _ => fun
  | [d] => { results := [.lit (.bool true)], args := [d] }
  | _ => none }
def clockOrderRow : OpenClaim := { program := "ytcnbmpkbocnniaa", sum := "af435a404b1669edd55b6c8a49c9028dbc7e26fd83215feaf646e7e8705cf0a4", func := "columbary/columbarylaw29.ClockOrder", spec := "clockOrder", inPlace := ["slices.overlaps[columbary/table.entry[int, int]]"], unfollowed := true, recurses := true, apart := false }
def ClockOrderSaid : Prop := clockOrderRow.holds Try.pinned (OpenSpec.ofChange clockOrderSpec)

/-- ITS FALSE NEIGHBOUR: 'it returns false'. Refute it at one input. -/
def clockOrderWrong : ChangeSpec := { name := "clockOrder", fn := fun _ => fun
  | [d] => { results := [.lit (.bool false)], args := [d] }
  | _ => none }
def ClockOrderWrongFalsely : Prop := clockOrderRow.holds Try.pinned (OpenSpec.ofChange clockOrderWrong)

/-- 'columbarylaw29.ClockCounts': WHATEVER THE INPUT: true; the input reads as it did. -/
def clockCountsSpec : ChangeSpec := { name := "clockCounts", fn := fun _ => fun
  | [d] => { results := [.lit (.bool true)], args := [d] }
  | _ => none }
def clockCountsRow : OpenClaim := { program := "ytcnbmpkbocnniaa", sum := "af435a404b1669edd55b6c8a49c9028dbc7e26fd83215feaf646e7e8705cf0a4", func := "columbary/columbarylaw29.ClockCounts", spec := "clockCounts", inPlace := ["slices.overlaps[columbary/table.entry[int, int]]"], unfollowed := true, recurses := true, apart := false }
def ClockCountsSaid : Prop := clockCountsRow.holds Try.pinned (OpenSpec.ofChange clockCountsSpec)

/-- ITS FALSE NEIGHBOUR: 'it returns false'. Refute it at one input. -/
def clockCountsWrong : ChangeSpec := { name := "clockCounts", fn := fun _ => fun
  | [d] => { results := [.lit (.bool false)], args := [d] }
  | _ => none }
def ClockCountsWrongFalsely : Prop := clockCountsRow.holds Try.pinned (OpenSpec.ofChange clockCountsWrong)

/-- 'columbarylaw29.ClockRaces': WHATEVER THE INPUT: true; the input reads as it did. -/
def clockRacesSpec : ChangeSpec := { name := "clockRaces", fn := fun _ => fun
  | [d] => { results := [.lit (.bool true)], args := [d] }
  | _ => none }
def clockRacesRow : OpenClaim := { program := "ytcnbmpkbocnniaa", sum := "af435a404b1669edd55b6c8a49c9028dbc7e26fd83215feaf646e7e8705cf0a4", func := "columbary/columbarylaw29.ClockRaces", spec := "clockRaces", inPlace := ["slices.overlaps[columbary/table.entry[int, int]]"], unfollowed := true, recurses := true, apart := false }
def ClockRacesSaid : Prop := clockRacesRow.holds Try.pinned (OpenSpec.ofChange clockRacesSpec)

/-- ITS FALSE NEIGHBOUR: 'it returns false'. Refute it at one input. -/
def clockRacesWrong : ChangeSpec := { name := "clockRaces", fn := fun _ => fun
  | [d] => { results := [.lit (.bool false)], args := [d] }
  | _ => none }
def ClockRacesWrongFalsely : Prop := clockRacesRow.holds Try.pinned (OpenSpec.ofChange clockRacesWrong)

/-- 'columbarylaw29.ClockTells': WHATEVER THE INPUT: true; the input reads as it did. -/
def clockTellsSpec : ChangeSpec := { name := "clockTells", fn := fun _ => fun
  | [d1, d2, d3] => { results := [.lit (.bool true)], args := [d1, d2, d3] }
  | _ => none }
def clockTellsRow : OpenClaim := { program := "ytcnbmpkbocnniaa", sum := "af435a404b1669edd55b6c8a49c9028dbc7e26fd83215feaf646e7e8705cf0a4", func := "columbary/columbarylaw29.ClockTells", spec := "clockTells", inPlace := ["slices.overlaps[columbary/table.entry[int, int]]"], unfollowed := true, recurses := true, apart := false }
def ClockTellsSaid : Prop := clockTellsRow.holds Try.pinned (OpenSpec.ofChange clockTellsSpec)

/-- ITS FALSE NEIGHBOUR: 'it returns false'. Refute it at one input. -/
def clockTellsWrong : ChangeSpec := { name := "clockTells", fn := fun _ => fun
  | [d1, d2, d3] => { results := [.lit (.bool false)], args := [d1, d2, d3] }
  | _ => none }
def ClockTellsWrongFalsely : Prop := clockTellsRow.holds Try.pinned (OpenSpec.ofChange clockTellsWrong)

/- THE SECOND FORM. 'bulk': how many values and letters a reading holds, each counted each time it is reached (what is shared counts as often as it is met; a slice's spare places count too). A statement '..UptoSaid' is the law's where the arguments, and the package variables that the reading takes, are together of bulk at most 1048576: NARROWER than '..Said'. Prove '..Said' where nothing that the law and all that it calls make is longer than what came in: it says more and counts as full. Else prove '..UptoSaid'. A law counts once. -/
mutual
def uptoBulk {H : Type} : DataW H → Nat
  | .lit (.string bytes) => bytes.length + 1
  | .lit _ => 1
  | .nil => 1
  | .ptr d => uptoBulk d + 1
  | .slice elems spare => uptoBulkAll elems + uptoBulkAll spare + 1
  | .agg parts => uptoBulkAll parts + 1
  | .iface _ d => uptoBulk d + 1
  | .map entries => uptoBulkEntries entries + 1
  | .held _ => 1
def uptoBulkAll {H : Type} : List (DataW H) → Nat
  | [] => 0
  | d :: r => uptoBulk d + uptoBulkAll r
def uptoBulkEntries {H : Type} : List (Lit × DataW H) → Nat
  | [] => 0
  | x :: r => uptoBulkEntry x + uptoBulkEntries r
def uptoBulkEntry {H : Type} : Lit × DataW H → Nat
  | (.string bytes, d) => bytes.length + uptoBulk d + 1
  | (_, d) => uptoBulk d + 1
 end
def uptoSmall : (H : Type) → List (DataW H) → Bool := fun _ ds => decide (uptoBulkAll ds ≤ 1048576)
def OpenSpec.upto (s : _root_.Go.ChangeSpec) : _root_.Go.OpenSpec := { _root_.Go.OpenSpec.ofChange s with cond := some uptoSmall }

/-- 'columbarylaw02.TableTexts', WHERE WHAT IT READS IS OF BULK AT MOST 1048576: true; the input reads as it did. -/
def tableTextsUptoRow : OpenClaim := { program := "ytcnbmpkbocnniaa", sum := "af435a404b1669edd55b6c8a49c9028dbc7e26fd83215feaf646e7e8705cf0a4", func := "columbary/columbarylaw02.TableTexts", spec := "tableTexts", inPlace := ["slices.overlaps[columbary/table.entry[string, []string]]", "slices.overlaps[columbary/table.entry[int, string]]"], unfollowed := true, recurses := true, apart := false, narrowed := true }
def TableTextsUptoSaid : Prop := tableTextsUptoRow.holds Try.pinned (OpenSpec.upto tableTextsSpec)

/-- 'columbarylaw02.TableOwn', WHERE WHAT IT READS IS OF BULK AT MOST 1048576: true; the input reads as it did. -/
def tableOwnUptoRow : OpenClaim := { program := "ytcnbmpkbocnniaa", sum := "af435a404b1669edd55b6c8a49c9028dbc7e26fd83215feaf646e7e8705cf0a4", func := "columbary/columbarylaw02.TableOwn", spec := "tableOwn", inPlace := ["slices.overlaps[columbary/table.entry[int, int]]", "slices.overlaps[columbary/table.entry[int, string]]"], unfollowed := true, recurses := true, apart := false, narrowed := true }
def TableOwnUptoSaid : Prop := tableOwnUptoRow.holds Try.pinned (OpenSpec.upto tableOwnSpec)

/-- 'columbarylaw02.TableFold', WHERE WHAT IT READS IS OF BULK AT MOST 1048576: true; the input reads as it did. -/
def tableFoldUptoRow : OpenClaim := { program := "ytcnbmpkbocnniaa", sum := "af435a404b1669edd55b6c8a49c9028dbc7e26fd83215feaf646e7e8705cf0a4", func := "columbary/columbarylaw02.TableFold", spec := "tableFold", inPlace := ["slices.overlaps[columbary/table.entry[int, int]]", "slices.overlaps[columbary/table.entry[int, string]]"], unfollowed := true, recurses := true, apart := false, narrowed := true }
def TableFoldUptoSaid : Prop := tableFoldUptoRow.holds Try.pinned (OpenSpec.upto tableFoldSpec)

/-- 'columbarylaw02.TablePlays', WHERE WHAT IT READS IS OF BULK AT MOST 1048576: true; the input reads as it did. -/
def tablePlaysUptoRow : OpenClaim := { program := "ytcnbmpkbocnniaa", sum := "af435a404b1669edd55b6c8a49c9028dbc7e26fd83215feaf646e7e8705cf0a4", func := "columbary/columbarylaw02.TablePlays", spec := "tablePlays", inPlace := ["slices.overlaps[columbary/table.entry[int, int]]", "slices.overlaps[columbary/table.entry[int, string]]"], unfollowed := true, recurses := true, apart := false, narrowed := true }
def TablePlaysUptoSaid : Prop := tablePlaysUptoRow.holds Try.pinned (OpenSpec.upto tablePlaysSpec)

/-- 'columbarylaw02.TableNil', WHERE WHAT IT READS IS OF BULK AT MOST 1048576: true; the input reads as it did. -/
def tableNilUptoRow : OpenClaim := { program := "ytcnbmpkbocnniaa", sum := "af435a404b1669edd55b6c8a49c9028dbc7e26fd83215feaf646e7e8705cf0a4", func := "columbary/columbarylaw02.TableNil", spec := "tableNil", inPlace := ["slices.overlaps[columbary/table.entry[int, int]]", "slices.overlaps[columbary/table.entry[int, string]]"], unfollowed := true, recurses := true, apart := false, narrowed := true }
def TableNilUptoSaid : Prop := tableNilUptoRow.holds Try.pinned (OpenSpec.upto tableNilSpec)

/-- 'columbarylaw29.ClockOrder', WHERE WHAT IT READS IS OF BULK AT MOST 1048576: true; the input reads as it did. -/
def clockOrderUptoRow : OpenClaim := { program := "ytcnbmpkbocnniaa", sum := "af435a404b1669edd55b6c8a49c9028dbc7e26fd83215feaf646e7e8705cf0a4", func := "columbary/columbarylaw29.ClockOrder", spec := "clockOrder", inPlace := ["slices.overlaps[columbary/table.entry[int, int]]"], unfollowed := true, recurses := true, apart := false, narrowed := true }
def ClockOrderUptoSaid : Prop := clockOrderUptoRow.holds Try.pinned (OpenSpec.upto clockOrderSpec)

/-- 'columbarylaw29.ClockCounts', WHERE WHAT IT READS IS OF BULK AT MOST 1048576: true; the input reads as it did. -/
def clockCountsUptoRow : OpenClaim := { program := "ytcnbmpkbocnniaa", sum := "af435a404b1669edd55b6c8a49c9028dbc7e26fd83215feaf646e7e8705cf0a4", func := "columbary/columbarylaw29.ClockCounts", spec := "clockCounts", inPlace := ["slices.overlaps[columbary/table.entry[int, int]]"], unfollowed := true, recurses := true, apart := false, narrowed := true }
def ClockCountsUptoSaid : Prop := clockCountsUptoRow.holds Try.pinned (OpenSpec.upto clockCountsSpec)

/-- 'columbarylaw29.ClockRaces', WHERE WHAT IT READS IS OF BULK AT MOST 1048576: true; the input reads as it did. -/
def clockRacesUptoRow : OpenClaim := { program := "ytcnbmpkbocnniaa", sum := "af435a404b1669edd55b6c8a49c9028dbc7e26fd83215feaf646e7e8705cf0a4", func := "columbary/columbarylaw29.ClockRaces", spec := "clockRaces", inPlace := ["slices.overlaps[columbary/table.entry[int, int]]"], unfollowed := true, recurses := true, apart := false, narrowed := true }
def ClockRacesUptoSaid : Prop := clockRacesUptoRow.holds Try.pinned (OpenSpec.upto clockRacesSpec)

/-- 'columbarylaw29.ClockTells', WHERE WHAT IT READS IS OF BULK AT MOST 1048576: true; the input reads as it did. -/
def clockTellsUptoRow : OpenClaim := { program := "ytcnbmpkbocnniaa", sum := "af435a404b1669edd55b6c8a49c9028dbc7e26fd83215feaf646e7e8705cf0a4", func := "columbary/columbarylaw29.ClockTells", spec := "clockTells", inPlace := ["slices.overlaps[columbary/table.entry[int, int]]"], unfollowed := true, recurses := true, apart := false, narrowed := true }
def ClockTellsUptoSaid : Prop := clockTellsUptoRow.holds Try.pinned (OpenSpec.upto clockTellsSpec)

end Rows
end Go.Proofs.Ytcnbmpkbocnniaa
