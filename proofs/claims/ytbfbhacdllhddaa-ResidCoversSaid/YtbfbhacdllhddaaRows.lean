/-
  No cell of these rows narrows 'for every input' (looked for: loops, veiled, ifaces, maps, wideKeys, modest, calm, conditions, laid).
  DERIVED. THE GIVEN ROWS OF THIS SEAT. 5 by the template 'for every input the law returns true; each argument reads behind the call as it read before'; 0 by the template 'total and deterministic' (their statements: YtbfbhacdllhddaaTotals.lean).
  GIVEN WITH THE SEED: the statements are not yours to turn. If you find one false, say at which input.
  Laid BY PROGRAM, IN A SANDBOX (cutbox-rows.mjs): the forced cells as the released guide's own fill.sh prints them over the translation 44f30be2c81cfb74… (all of the seat's roots in one cut). By AI agents, Wed Nov 11 2026. No macro, syntax, notation, axiom, sorry.
-/
import Derived.Test.YtbfbhacdllhddaaChecked
import GoSem.Claim
import GoSem.ClaimJoined
import GoSem.ClaimMapViews
import Derived.JoinedTies
import Derived.KernelRfl
namespace Go.Proofs.Ytbfbhacdllhddaa
/- THE CELL 'sum', in the pinned program and in every row, IS THE sha256 OF THE DUMP (.gsa) THAT YtbfbhacdllhddaaProg.lean LOADS. Nothing in Lean hashes anything: it is a label: what it is worth is what the hold of that sum in a sandbox is worth. -/
noncomputable def Try.pinned : Pinned := { name := "ytbfbhacdllhddaa", sum := "44f30be2c81cfb74d6da779bb1b5c30fde199373b0586f4d6c7f7112f142daa2", checked := Try.checked }
namespace Rows
def none {H : Type} : Left H := { results := [], args := [] }

/-- 'columbarylaw09.AutoWalks': WHATEVER THE INPUT: true; the input reads as it did. -/
def autoWalksSpec : ChangeSpec := { name := "autoWalks", fn := fun _ => fun
  | [d1, d2] => { results := [.lit (.bool true)], args := [d1, d2] }
  | _ => none }
def autoWalksRow : OpenClaim := { program := "ytbfbhacdllhddaa", sum := "44f30be2c81cfb74d6da779bb1b5c30fde199373b0586f4d6c7f7112f142daa2", func := "columbary/columbarylaw09.AutoWalks", spec := "autoWalks", unfollowed := true, recurses := true, apart := false }
def AutoWalksSaid : Prop := autoWalksRow.holds Try.pinned (OpenSpec.ofChange autoWalksSpec)

/-- ITS FALSE NEIGHBOUR: 'it returns false'. Refute it at one input. -/
def autoWalksWrong : ChangeSpec := { name := "autoWalks", fn := fun _ => fun
  | [d1, d2] => { results := [.lit (.bool false)], args := [d1, d2] }
  | _ => none }
def AutoWalksWrongFalsely : Prop := autoWalksRow.holds Try.pinned (OpenSpec.ofChange autoWalksWrong)

/-- 'columbarylaw09.AutoReads': WHATEVER THE INPUT: true; the input reads as it did. -/
def autoReadsSpec : ChangeSpec := { name := "autoReads", fn := fun _ => fun
  | [d1, d2, d3] => { results := [.lit (.bool true)], args := [d1, d2, d3] }
  | _ => none }
def autoReadsRow : OpenClaim := { program := "ytbfbhacdllhddaa", sum := "44f30be2c81cfb74d6da779bb1b5c30fde199373b0586f4d6c7f7112f142daa2", func := "columbary/columbarylaw09.AutoReads", spec := "autoReads", unfollowed := true, recurses := true, apart := false }
def AutoReadsSaid : Prop := autoReadsRow.holds Try.pinned (OpenSpec.ofChange autoReadsSpec)

/-- ITS FALSE NEIGHBOUR: 'it returns false'. Refute it at one input. -/
def autoReadsWrong : ChangeSpec := { name := "autoReads", fn := fun _ => fun
  | [d1, d2, d3] => { results := [.lit (.bool false)], args := [d1, d2, d3] }
  | _ => none }
def AutoReadsWrongFalsely : Prop := autoReadsRow.holds Try.pinned (OpenSpec.ofChange autoReadsWrong)

/-- 'columbarylaw09.AutoTells': WHATEVER THE INPUT: true; the input reads as it did. -/
def autoTellsSpec : ChangeSpec := { name := "autoTells", fn := fun _ => fun
  | [d1, d2, d3, d4, d5] => { results := [.lit (.bool true)], args := [d1, d2, d3, d4, d5] }
  | _ => none }
def autoTellsRow : OpenClaim := { program := "ytbfbhacdllhddaa", sum := "44f30be2c81cfb74d6da779bb1b5c30fde199373b0586f4d6c7f7112f142daa2", func := "columbary/columbarylaw09.AutoTells", spec := "autoTells", unfollowed := true, recurses := true, apart := false }
def AutoTellsSaid : Prop := autoTellsRow.holds Try.pinned (OpenSpec.ofChange autoTellsSpec)

/-- ITS FALSE NEIGHBOUR: 'it returns false'. Refute it at one input. -/
def autoTellsWrong : ChangeSpec := { name := "autoTells", fn := fun _ => fun
  | [d1, d2, d3, d4, d5] => { results := [.lit (.bool false)], args := [d1, d2, d3, d4, d5] }
  | _ => none }
def AutoTellsWrongFalsely : Prop := autoTellsRow.holds Try.pinned (OpenSpec.ofChange autoTellsWrong)

/-- 'columbarylaw09.AutoCost': WHATEVER THE INPUT: true; the input reads as it did. -/
def autoCostSpec : ChangeSpec := { name := "autoCost", fn := fun _ => fun
  | [d1, d2] => { results := [.lit (.bool true)], args := [d1, d2] }
  | _ => none }
def autoCostRow : OpenClaim := { program := "ytbfbhacdllhddaa", sum := "44f30be2c81cfb74d6da779bb1b5c30fde199373b0586f4d6c7f7112f142daa2", func := "columbary/columbarylaw09.AutoCost", spec := "autoCost", unfollowed := true, recurses := true, apart := false }
def AutoCostSaid : Prop := autoCostRow.holds Try.pinned (OpenSpec.ofChange autoCostSpec)

/-- ITS FALSE NEIGHBOUR: 'it returns false'. Refute it at one input. -/
def autoCostWrong : ChangeSpec := { name := "autoCost", fn := fun _ => fun
  | [d1, d2] => { results := [.lit (.bool false)], args := [d1, d2] }
  | _ => none }
def AutoCostWrongFalsely : Prop := autoCostRow.holds Try.pinned (OpenSpec.ofChange autoCostWrong)

/-- 'columbarylaw11.ResidCovers': WHATEVER THE INPUT: true; the input reads as it did. -/
def residCoversSpec : ChangeSpec := { name := "residCovers", fn := fun _ => fun
  | [d1, d2, d3, d4] => { results := [.lit (.bool true)], args := [d1, d2, d3, d4] }
  | _ => none }
def residCoversRow : OpenClaim := { program := "ytbfbhacdllhddaa", sum := "44f30be2c81cfb74d6da779bb1b5c30fde199373b0586f4d6c7f7112f142daa2", func := "columbary/columbarylaw11.ResidCovers", spec := "residCovers", unfollowed := true, recurses := true, apart := false }
def ResidCoversSaid : Prop := residCoversRow.holds Try.pinned (OpenSpec.ofChange residCoversSpec)

/-- ITS FALSE NEIGHBOUR: 'it returns false'. Refute it at one input. -/
def residCoversWrong : ChangeSpec := { name := "residCovers", fn := fun _ => fun
  | [d1, d2, d3, d4] => { results := [.lit (.bool false)], args := [d1, d2, d3, d4] }
  | _ => none }
def ResidCoversWrongFalsely : Prop := residCoversRow.holds Try.pinned (OpenSpec.ofChange residCoversWrong)

/- THE SECOND FORM. 'bulk': how many values and letters a reading holds, each counted each time it is reached (what is shared counts as often as it is met; a slice's spare places count too). A statement '..UptoSaid' is the law's where the arguments, and the package variables that the reading takes, are together of bulk at most 1048576: NARROWER than '..Said'. Prove '..Said' where nothing that the law and all that it calls make is longer than what came in: it says more and counts as full. Else prove '..UptoSaid'. A law counts once. -/
mutual
def uptoBulk {H : Type} : DataW H → Nat
  | .lit (.string bytes) => bytes.length + 1
  | .lit _ => 1
  | .nil => 1
  | .ptr d => uptoBulk d + 1
  | .slice elems spare => uptoBulkAll elems + uptoBulkAll spare + 1
  | .agg parts => uptoBulkAll parts + 1
  | .iface _ d => uptoBulk d + 1
  | .map entries => uptoBulkEntries entries + 1
  | .held _ => 1
def uptoBulkAll {H : Type} : List (DataW H) → Nat
  | [] => 0
  | d :: r => uptoBulk d + uptoBulkAll r
def uptoBulkEntries {H : Type} : List (Lit × DataW H) → Nat
  | [] => 0
  | x :: r => uptoBulkEntry x + uptoBulkEntries r
def uptoBulkEntry {H : Type} : Lit × DataW H → Nat
  | (.string bytes, d) => bytes.length + uptoBulk d + 1
  | (_, d) => uptoBulk d + 1
 end
def uptoSmall : (H : Type) → List (DataW H) → Bool := fun _ ds => decide (uptoBulkAll ds ≤ 1048576)
def OpenSpec.upto (s : _root_.Go.ChangeSpec) : _root_.Go.OpenSpec := { _root_.Go.OpenSpec.ofChange s with cond := some uptoSmall }

/-- 'columbarylaw09.AutoWalks', WHERE WHAT IT READS IS OF BULK AT MOST 1048576: true; the input reads as it did. -/
def autoWalksUptoRow : OpenClaim := { program := "ytbfbhacdllhddaa", sum := "44f30be2c81cfb74d6da779bb1b5c30fde199373b0586f4d6c7f7112f142daa2", func := "columbary/columbarylaw09.AutoWalks", spec := "autoWalks", unfollowed := true, recurses := true, apart := false, narrowed := true }
def AutoWalksUptoSaid : Prop := autoWalksUptoRow.holds Try.pinned (OpenSpec.upto autoWalksSpec)

/-- 'columbarylaw09.AutoReads', WHERE WHAT IT READS IS OF BULK AT MOST 1048576: true; the input reads as it did. -/
def autoReadsUptoRow : OpenClaim := { program := "ytbfbhacdllhddaa", sum := "44f30be2c81cfb74d6da779bb1b5c30fde199373b0586f4d6c7f7112f142daa2", func := "columbary/columbarylaw09.AutoReads", spec := "autoReads", unfollowed := true, recurses := true, apart := false, narrowed := true }
def AutoReadsUptoSaid : Prop := autoReadsUptoRow.holds Try.pinned (OpenSpec.upto autoReadsSpec)

/-- 'columbarylaw09.AutoTells', WHERE WHAT IT READS IS OF BULK AT MOST 1048576: true; the input reads as it did. -/
def autoTellsUptoRow : OpenClaim := { program := "ytbfbhacdllhddaa", sum := "44f30be2c81cfb74d6da779bb1b5c30fde199373b0586f4d6c7f7112f142daa2", func := "columbary/columbarylaw09.AutoTells", spec := "autoTells", unfollowed := true, recurses := true, apart := false, narrowed := true }
def AutoTellsUptoSaid : Prop := autoTellsUptoRow.holds Try.pinned (OpenSpec.upto autoTellsSpec)

/-- 'columbarylaw09.AutoCost', WHERE WHAT IT READS IS OF BULK AT MOST 1048576: true; the input reads as it did. -/
def autoCostUptoRow : OpenClaim := { program := "ytbfbhacdllhddaa", sum := "44f30be2c81cfb74d6da779bb1b5c30fde199373b0586f4d6c7f7112f142daa2", func := "columbary/columbarylaw09.AutoCost", spec := "autoCost", unfollowed := true, recurses := true, apart := false, narrowed := true }
def AutoCostUptoSaid : Prop := autoCostUptoRow.holds Try.pinned (OpenSpec.upto autoCostSpec)

/-- 'columbarylaw11.ResidCovers', WHERE WHAT IT READS IS OF BULK AT MOST 1048576: true; the input reads as it did. -/
def residCoversUptoRow : OpenClaim := { program := "ytbfbhacdllhddaa", sum := "44f30be2c81cfb74d6da779bb1b5c30fde199373b0586f4d6c7f7112f142daa2", func := "columbary/columbarylaw11.ResidCovers", spec := "residCovers", unfollowed := true, recurses := true, apart := false, narrowed := true }
def ResidCoversUptoSaid : Prop := residCoversUptoRow.holds Try.pinned (OpenSpec.upto residCoversSpec)

end Rows
end Go.Proofs.Ytbfbhacdllhddaa
