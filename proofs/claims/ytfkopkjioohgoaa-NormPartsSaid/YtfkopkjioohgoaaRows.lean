/-
  No cell of these rows narrows 'for every input' (looked for: loops, veiled, ifaces, maps, wideKeys, modest, calm, conditions, laid).
  DERIVED. THE GIVEN ROWS OF THIS SEAT. 4 by the template 'for every input the law returns true; each argument reads behind the call as it read before'; 0 by the template 'total and deterministic' (their statements: YtfkopkjioohgoaaTotals.lean).
  GIVEN WITH THE SEED: the statements are not yours to turn. If you find one false, say at which input.
  Laid BY PROGRAM, IN A SANDBOX (cutbox-rows.mjs): the forced cells as the released guide's own fill.sh prints them over the translation efaab18fa5ef0e14… (all of the seat's roots in one cut). By AI agents, Wed Nov 11 2026. No macro, syntax, notation, axiom, sorry.
-/
import Derived.Test.YtfkopkjioohgoaaChecked
import GoSem.Claim
import GoSem.ClaimJoined
import GoSem.ClaimMapViews
import Derived.JoinedTies
import Derived.KernelRfl
namespace Go.Proofs.Ytfkopkjioohgoaa
/- THE CELL 'sum', in the pinned program and in every row, IS THE sha256 OF THE DUMP (.gsa) THAT YtfkopkjioohgoaaProg.lean LOADS. Nothing in Lean hashes anything: it is a label: what it is worth is what the hold of that sum in a sandbox is worth. -/
noncomputable def Try.pinned : Pinned := { name := "ytfkopkjioohgoaa", sum := "efaab18fa5ef0e1448361098487ce3ae122aa526010e6c7e071b8bb43e0aad41", checked := Try.checked }
namespace Rows
def none {H : Type} : Left H := { results := [], args := [] }

/-- 'columbarylaw08.NormParts': WHATEVER THE INPUT: true; the input reads as it did. -/
def normPartsSpec : ChangeSpec := { name := "normParts", fn := fun _ => fun
  | [d1, d2, d3] => { results := [.lit (.bool true)], args := [d1, d2, d3] }
  | _ => none }
def normPartsRow : OpenClaim := { program := "ytfkopkjioohgoaa", sum := "efaab18fa5ef0e1448361098487ce3ae122aa526010e6c7e071b8bb43e0aad41", func := "columbary/columbarylaw08.NormParts", spec := "normParts", unfollowed := true, recurses := true, apart := false }
def NormPartsSaid : Prop := normPartsRow.holds Try.pinned (OpenSpec.ofChange normPartsSpec)

/-- ITS FALSE NEIGHBOUR: 'it returns false'. Refute it at one input. -/
def normPartsWrong : ChangeSpec := { name := "normParts", fn := fun _ => fun
  | [d1, d2, d3] => { results := [.lit (.bool false)], args := [d1, d2, d3] }
  | _ => none }
def NormPartsWrongFalsely : Prop := normPartsRow.holds Try.pinned (OpenSpec.ofChange normPartsWrong)

/-- 'columbarylaw08.NormSame': WHATEVER THE INPUT: true; the input reads as it did. -/
def normSameSpec : ChangeSpec := { name := "normSame", fn := fun _ => fun
  | [d1, d2] => { results := [.lit (.bool true)], args := [d1, d2] }
  | _ => none }
def normSameRow : OpenClaim := { program := "ytfkopkjioohgoaa", sum := "efaab18fa5ef0e1448361098487ce3ae122aa526010e6c7e071b8bb43e0aad41", func := "columbary/columbarylaw08.NormSame", spec := "normSame", unfollowed := true, recurses := true, apart := false }
def NormSameSaid : Prop := normSameRow.holds Try.pinned (OpenSpec.ofChange normSameSpec)

/-- ITS FALSE NEIGHBOUR: 'it returns false'. Refute it at one input. -/
def normSameWrong : ChangeSpec := { name := "normSame", fn := fun _ => fun
  | [d1, d2] => { results := [.lit (.bool false)], args := [d1, d2] }
  | _ => none }
def NormSameWrongFalsely : Prop := normSameRow.holds Try.pinned (OpenSpec.ofChange normSameWrong)

/-- 'columbarylaw08.NormOne': WHATEVER THE INPUT: true; the input reads as it did. -/
def normOneSpec : ChangeSpec := { name := "normOne", fn := fun _ => fun
  | [d1, d2] => { results := [.lit (.bool true)], args := [d1, d2] }
  | _ => none }
def normOneRow : OpenClaim := { program := "ytfkopkjioohgoaa", sum := "efaab18fa5ef0e1448361098487ce3ae122aa526010e6c7e071b8bb43e0aad41", func := "columbary/columbarylaw08.NormOne", spec := "normOne", unfollowed := true, recurses := true, apart := false }
def NormOneSaid : Prop := normOneRow.holds Try.pinned (OpenSpec.ofChange normOneSpec)

/-- ITS FALSE NEIGHBOUR: 'it returns false'. Refute it at one input. -/
def normOneWrong : ChangeSpec := { name := "normOne", fn := fun _ => fun
  | [d1, d2] => { results := [.lit (.bool false)], args := [d1, d2] }
  | _ => none }
def NormOneWrongFalsely : Prop := normOneRow.holds Try.pinned (OpenSpec.ofChange normOneWrong)

/-- 'columbarylaw08.NormBudget': WHATEVER THE INPUT: true; the input reads as it did. -/
def normBudgetSpec : ChangeSpec := { name := "normBudget", fn := fun _ => fun
  | [d1, d2] => { results := [.lit (.bool true)], args := [d1, d2] }
  | _ => none }
def normBudgetRow : OpenClaim := { program := "ytfkopkjioohgoaa", sum := "efaab18fa5ef0e1448361098487ce3ae122aa526010e6c7e071b8bb43e0aad41", func := "columbary/columbarylaw08.NormBudget", spec := "normBudget", unfollowed := true, recurses := true, apart := false }
def NormBudgetSaid : Prop := normBudgetRow.holds Try.pinned (OpenSpec.ofChange normBudgetSpec)

/-- ITS FALSE NEIGHBOUR: 'it returns false'. Refute it at one input. -/
def normBudgetWrong : ChangeSpec := { name := "normBudget", fn := fun _ => fun
  | [d1, d2] => { results := [.lit (.bool false)], args := [d1, d2] }
  | _ => none }
def NormBudgetWrongFalsely : Prop := normBudgetRow.holds Try.pinned (OpenSpec.ofChange normBudgetWrong)

/- THE SECOND FORM. 'bulk': how many values and letters a reading holds, each counted each time it is reached (what is shared counts as often as it is met; a slice's spare places count too). A statement '..UptoSaid' is the law's where the arguments, and the package variables that the reading takes, are together of bulk at most 1048576: NARROWER than '..Said'. Prove '..Said' where nothing that the law and all that it calls make is longer than what came in: it says more and counts as full. Else prove '..UptoSaid'. A law counts once. -/
mutual
def uptoBulk {H : Type} : DataW H → Nat
  | .lit (.string bytes) => bytes.length + 1
  | .lit _ => 1
  | .nil => 1
  | .ptr d => uptoBulk d + 1
  | .slice elems spare => uptoBulkAll elems + uptoBulkAll spare + 1
  | .agg parts => uptoBulkAll parts + 1
  | .iface _ d => uptoBulk d + 1
  | .map entries => uptoBulkEntries entries + 1
  | .held _ => 1
def uptoBulkAll {H : Type} : List (DataW H) → Nat
  | [] => 0
  | d :: r => uptoBulk d + uptoBulkAll r
def uptoBulkEntries {H : Type} : List (Lit × DataW H) → Nat
  | [] => 0
  | x :: r => uptoBulkEntry x + uptoBulkEntries r
def uptoBulkEntry {H : Type} : Lit × DataW H → Nat
  | (.string bytes, d) => bytes.length + uptoBulk d + 1
  | (_, d) => uptoBulk d + 1
 end
def uptoSmall : (H : Type) → List (DataW H) → Bool := fun _ ds => decide (uptoBulkAll ds ≤ 1048576)
def OpenSpec.upto (s : _root_.Go.ChangeSpec) : _root_.Go.OpenSpec := { _root_.Go.OpenSpec.ofChange s with cond := some uptoSmall }

/-- 'columbarylaw08.NormParts', WHERE WHAT IT READS IS OF BULK AT MOST 1048576: true; the input reads as it did. -/
def normPartsUptoRow : OpenClaim := { program := "ytfkopkjioohgoaa", sum := "efaab18fa5ef0e1448361098487ce3ae122aa526010e6c7e071b8bb43e0aad41", func := "columbary/columbarylaw08.NormParts", spec := "normParts", unfollowed := true, recurses := true, apart := false, narrowed := true }
def NormPartsUptoSaid : Prop := normPartsUptoRow.holds Try.pinned (OpenSpec.upto normPartsSpec)

/-- 'columbarylaw08.NormSame', WHERE WHAT IT READS IS OF BULK AT MOST 1048576: true; the input reads as it did. -/
def normSameUptoRow : OpenClaim := { program := "ytfkopkjioohgoaa", sum := "efaab18fa5ef0e1448361098487ce3ae122aa526010e6c7e071b8bb43e0aad41", func := "columbary/columbarylaw08.NormSame", spec := "normSame", unfollowed := true, recurses := true, apart := false, narrowed := true }
def NormSameUptoSaid : Prop := normSameUptoRow.holds Try.pinned (OpenSpec.upto normSameSpec)

/-- 'columbarylaw08.NormOne', WHERE WHAT IT READS IS OF BULK AT MOST 1048576: true; the input reads as it did. -/
def normOneUptoRow : OpenClaim := { program := "ytfkopkjioohgoaa", sum := "efaab18fa5ef0e1448361098487ce3ae122aa526010e6c7e071b8bb43e0aad41", func := "columbary/columbarylaw08.NormOne", spec := "normOne", unfollowed := true, recurses := true, apart := false, narrowed := true }
def NormOneUptoSaid : Prop := normOneUptoRow.holds Try.pinned (OpenSpec.upto normOneSpec)

/-- 'columbarylaw08.NormBudget', WHERE WHAT IT READS IS OF BULK AT MOST 1048576: true; the input reads as it did. -/
def normBudgetUptoRow : OpenClaim := { program := "ytfkopkjioohgoaa", sum := "efaab18fa5ef0e1448361098487ce3ae122aa526010e6c7e071b8bb43e0aad41", func := "columbary/columbarylaw08.NormBudget", spec := "normBudget", unfollowed := true, recurses := true, apart := false, narrowed := true }
def NormBudgetUptoSaid : Prop := normBudgetUptoRow.holds Try.pinned (OpenSpec.upto normBudgetSpec)

end Rows
end Go.Proofs.Ytfkopkjioohgoaa
