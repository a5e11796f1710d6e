/-
  No cell of these rows narrows 'for every input' (looked for: loops, veiled, ifaces, maps, wideKeys, modest, calm, conditions, laid).
  DERIVED. THE GIVEN ROWS OF THIS SEAT. 7 by the template 'for every input the law returns true; each argument reads behind the call as it read before'; 0 by the template 'total and deterministic' (their statements: YtbfbhacdllhddaaGreatTotals.lean).
  GIVEN WITH THE SEED: the statements are not yours to turn. If you find one false, say at which input.
  Laid BY PROGRAM, IN A SANDBOX (cutbox-rows.mjs): the forced cells as the released guide's own fill.sh prints them over the translation 5680b7ea9006c773… (all of the seat's roots in one cut). By AI agents, Wed Nov 11 2026. No macro, syntax, notation, axiom, sorry.
-/
import Derived.Test.YtbfbhacdllhddaaGreatChecked
import GoSem.Claim
import GoSem.ClaimJoined
import GoSem.ClaimMapViews
import Derived.JoinedTies
import Derived.KernelRfl
namespace Go.Proofs.YtbfbhacdllhddaaGreat
/- THE CELL 'sum', in the pinned program and in every row, IS THE sha256 OF THE DUMP (.gsa) THAT YtbfbhacdllhddaaGreatProg.lean LOADS. Nothing in Lean hashes anything: it is a label: what it is worth is what the hold of that sum in a sandbox is worth. -/
noncomputable def Tryz.pinned : Pinned := { name := "ytbfbhacdllhddaagreat", sum := "5680b7ea9006c77303f74c619a857da329c9f5d418f74d7b50f05daa3e939cf0", checked := Tryz.checked }
namespace Rows
def none {H : Type} : Left H := { results := [], args := [] }

/-- 'columbarylaw07.SemiStar': WHATEVER THE INPUT: true; the input reads as it did. -/
def semiStarSpec : ChangeSpec := { name := "semiStar", fn := fun _ => fun
  | [d1, d2] => { results := [.lit (.bool true)], args := [d1, d2] }
  | _ => none }
def semiStarRow : OpenClaim := { program := "ytbfbhacdllhddaagreat", sum := "5680b7ea9006c77303f74c619a857da329c9f5d418f74d7b50f05daa3e939cf0", func := "columbary/columbarylaw07.SemiStar", spec := "semiStar", unfollowed := true, recurses := true, apart := false }
def SemiStarSaid : Prop := semiStarRow.holds Tryz.pinned (OpenSpec.ofChange semiStarSpec)

/-- ITS FALSE NEIGHBOUR: 'it returns false'. Refute it at one input. -/
def semiStarWrong : ChangeSpec := { name := "semiStar", fn := fun _ => fun
  | [d1, d2] => { results := [.lit (.bool false)], args := [d1, d2] }
  | _ => none }
def SemiStarWrongFalsely : Prop := semiStarRow.holds Tryz.pinned (OpenSpec.ofChange semiStarWrong)

/-- 'columbarylaw07.SemiTells': WHATEVER THE INPUT: true; the input reads as it did. -/
def semiTellsSpec : ChangeSpec := { name := "semiTells", fn := fun _ => fun
  | [d1, d2, d3, d4] => { results := [.lit (.bool true)], args := [d1, d2, d3, d4] }
  | _ => none }
def semiTellsRow : OpenClaim := { program := "ytbfbhacdllhddaagreat", sum := "5680b7ea9006c77303f74c619a857da329c9f5d418f74d7b50f05daa3e939cf0", func := "columbary/columbarylaw07.SemiTells", spec := "semiTells", unfollowed := true, recurses := true, apart := false }
def SemiTellsSaid : Prop := semiTellsRow.holds Tryz.pinned (OpenSpec.ofChange semiTellsSpec)

/-- ITS FALSE NEIGHBOUR: 'it returns false'. Refute it at one input. -/
def semiTellsWrong : ChangeSpec := { name := "semiTells", fn := fun _ => fun
  | [d1, d2, d3, d4] => { results := [.lit (.bool false)], args := [d1, d2, d3, d4] }
  | _ => none }
def SemiTellsWrongFalsely : Prop := semiTellsRow.holds Tryz.pinned (OpenSpec.ofChange semiTellsWrong)

/-- 'columbarylaw11.ResidTells': WHATEVER THE INPUT: true; the input reads as it did. -/
def residTellsSpec : ChangeSpec := { name := "residTells", fn := fun _ => fun
  | [d1, d2, d3, d4, d5, d6, d7] => { results := [.lit (.bool true)], args := [d1, d2, d3, d4, d5, d6, d7] }
  | _ => none }
def residTellsRow : OpenClaim := { program := "ytbfbhacdllhddaagreat", sum := "5680b7ea9006c77303f74c619a857da329c9f5d418f74d7b50f05daa3e939cf0", func := "columbary/columbarylaw11.ResidTells", spec := "residTells", unfollowed := true, recurses := true, apart := false }
def ResidTellsSaid : Prop := residTellsRow.holds Tryz.pinned (OpenSpec.ofChange residTellsSpec)

/-- ITS FALSE NEIGHBOUR: 'it returns false'. Refute it at one input. -/
def residTellsWrong : ChangeSpec := { name := "residTells", fn := fun _ => fun
  | [d1, d2, d3, d4, d5, d6, d7] => { results := [.lit (.bool false)], args := [d1, d2, d3, d4, d5, d6, d7] }
  | _ => none }
def ResidTellsWrongFalsely : Prop := residTellsRow.holds Tryz.pinned (OpenSpec.ofChange residTellsWrong)

/-- 'columbarylaw07.SemiKeeps': WHATEVER THE INPUT: true; the input reads as it did. -/
def semiKeepsSpec : ChangeSpec := { name := "semiKeeps", fn := fun _ => fun
  | [d1, d2] => { results := [.lit (.bool true)], args := [d1, d2] }
  | _ => none }
def semiKeepsRow : OpenClaim := { program := "ytbfbhacdllhddaagreat", sum := "5680b7ea9006c77303f74c619a857da329c9f5d418f74d7b50f05daa3e939cf0", func := "columbary/columbarylaw07.SemiKeeps", spec := "semiKeeps", unfollowed := true, recurses := true, apart := false }
def SemiKeepsSaid : Prop := semiKeepsRow.holds Tryz.pinned (OpenSpec.ofChange semiKeepsSpec)

/-- ITS FALSE NEIGHBOUR: 'it returns false'. Refute it at one input. -/
def semiKeepsWrong : ChangeSpec := { name := "semiKeeps", fn := fun _ => fun
  | [d1, d2] => { results := [.lit (.bool false)], args := [d1, d2] }
  | _ => none }
def SemiKeepsWrongFalsely : Prop := semiKeepsRow.holds Tryz.pinned (OpenSpec.ofChange semiKeepsWrong)

/-- 'columbarylaw07.SemiLaws': WHATEVER THE INPUT: true; the input reads as it did. -/
def semiLawsSpec : ChangeSpec := { name := "semiLaws", fn := fun _ => fun
  | [d1, d2, d3] => { results := [.lit (.bool true)], args := [d1, d2, d3] }
  | _ => none }
def semiLawsRow : OpenClaim := { program := "ytbfbhacdllhddaagreat", sum := "5680b7ea9006c77303f74c619a857da329c9f5d418f74d7b50f05daa3e939cf0", func := "columbary/columbarylaw07.SemiLaws", spec := "semiLaws", unfollowed := true, recurses := true, apart := false }
def SemiLawsSaid : Prop := semiLawsRow.holds Tryz.pinned (OpenSpec.ofChange semiLawsSpec)

/-- ITS FALSE NEIGHBOUR: 'it returns false'. Refute it at one input. -/
def semiLawsWrong : ChangeSpec := { name := "semiLaws", fn := fun _ => fun
  | [d1, d2, d3] => { results := [.lit (.bool false)], args := [d1, d2, d3] }
  | _ => none }
def SemiLawsWrongFalsely : Prop := semiLawsRow.holds Tryz.pinned (OpenSpec.ofChange semiLawsWrong)

/-- 'columbarylaw07.SemiWorks': WHATEVER THE INPUT: true; the input reads as it did. -/
def semiWorksSpec : ChangeSpec := { name := "semiWorks", fn := fun _ => fun
  | [d1, d2, d3, d4, d5, d6] => { results := [.lit (.bool true)], args := [d1, d2, d3, d4, d5, d6] }
  | _ => none }
def semiWorksRow : OpenClaim := { program := "ytbfbhacdllhddaagreat", sum := "5680b7ea9006c77303f74c619a857da329c9f5d418f74d7b50f05daa3e939cf0", func := "columbary/columbarylaw07.SemiWorks", spec := "semiWorks", unfollowed := true, recurses := true, apart := false }
def SemiWorksSaid : Prop := semiWorksRow.holds Tryz.pinned (OpenSpec.ofChange semiWorksSpec)

/-- ITS FALSE NEIGHBOUR: 'it returns false'. Refute it at one input. -/
def semiWorksWrong : ChangeSpec := { name := "semiWorks", fn := fun _ => fun
  | [d1, d2, d3, d4, d5, d6] => { results := [.lit (.bool false)], args := [d1, d2, d3, d4, d5, d6] }
  | _ => none }
def SemiWorksWrongFalsely : Prop := semiWorksRow.holds Tryz.pinned (OpenSpec.ofChange semiWorksWrong)

/-- 'columbarylaw11.ResidBack': WHATEVER THE INPUT: true; the input reads as it did. -/
def residBackSpec : ChangeSpec := { name := "residBack", fn := fun _ => fun
  | [d1, d2, d3] => { results := [.lit (.bool true)], args := [d1, d2, d3] }
  | _ => none }
def residBackRow : OpenClaim := { program := "ytbfbhacdllhddaagreat", sum := "5680b7ea9006c77303f74c619a857da329c9f5d418f74d7b50f05daa3e939cf0", func := "columbary/columbarylaw11.ResidBack", spec := "residBack", unfollowed := true, recurses := true, apart := false }
def ResidBackSaid : Prop := residBackRow.holds Tryz.pinned (OpenSpec.ofChange residBackSpec)

/-- ITS FALSE NEIGHBOUR: 'it returns false'. Refute it at one input. -/
def residBackWrong : ChangeSpec := { name := "residBack", fn := fun _ => fun
  | [d1, d2, d3] => { results := [.lit (.bool false)], args := [d1, d2, d3] }
  | _ => none }
def ResidBackWrongFalsely : Prop := residBackRow.holds Tryz.pinned (OpenSpec.ofChange residBackWrong)

/- THE SECOND FORM. 'bulk': how many values and letters a reading holds, each counted each time it is reached (what is shared counts as often as it is met; a slice's spare places count too). A statement '..UptoSaid' is the law's where the arguments, and the package variables that the reading takes, are together of bulk at most 1048576: NARROWER than '..Said'. Prove '..Said' where nothing that the law and all that it calls make is longer than what came in: it says more and counts as full. Else prove '..UptoSaid'. A law counts once. -/
mutual
def uptoBulk {H : Type} : DataW H → Nat
  | .lit (.string bytes) => bytes.length + 1
  | .lit _ => 1
  | .nil => 1
  | .ptr d => uptoBulk d + 1
  | .slice elems spare => uptoBulkAll elems + uptoBulkAll spare + 1
  | .agg parts => uptoBulkAll parts + 1
  | .iface _ d => uptoBulk d + 1
  | .map entries => uptoBulkEntries entries + 1
  | .held _ => 1
def uptoBulkAll {H : Type} : List (DataW H) → Nat
  | [] => 0
  | d :: r => uptoBulk d + uptoBulkAll r
def uptoBulkEntries {H : Type} : List (Lit × DataW H) → Nat
  | [] => 0
  | x :: r => uptoBulkEntry x + uptoBulkEntries r
def uptoBulkEntry {H : Type} : Lit × DataW H → Nat
  | (.string bytes, d) => bytes.length + uptoBulk d + 1
  | (_, d) => uptoBulk d + 1
 end
def uptoSmall : (H : Type) → List (DataW H) → Bool := fun _ ds => decide (uptoBulkAll ds ≤ 1048576)
def OpenSpec.upto (s : _root_.Go.ChangeSpec) : _root_.Go.OpenSpec := { _root_.Go.OpenSpec.ofChange s with cond := some uptoSmall }

/-- 'columbarylaw07.SemiStar', WHERE WHAT IT READS IS OF BULK AT MOST 1048576: true; the input reads as it did. -/
def semiStarUptoRow : OpenClaim := { program := "ytbfbhacdllhddaagreat", sum := "5680b7ea9006c77303f74c619a857da329c9f5d418f74d7b50f05daa3e939cf0", func := "columbary/columbarylaw07.SemiStar", spec := "semiStar", unfollowed := true, recurses := true, apart := false, narrowed := true }
def SemiStarUptoSaid : Prop := semiStarUptoRow.holds Tryz.pinned (OpenSpec.upto semiStarSpec)

/-- 'columbarylaw07.SemiTells', WHERE WHAT IT READS IS OF BULK AT MOST 1048576: true; the input reads as it did. -/
def semiTellsUptoRow : OpenClaim := { program := "ytbfbhacdllhddaagreat", sum := "5680b7ea9006c77303f74c619a857da329c9f5d418f74d7b50f05daa3e939cf0", func := "columbary/columbarylaw07.SemiTells", spec := "semiTells", unfollowed := true, recurses := true, apart := false, narrowed := true }
def SemiTellsUptoSaid : Prop := semiTellsUptoRow.holds Tryz.pinned (OpenSpec.upto semiTellsSpec)

/-- 'columbarylaw11.ResidTells', WHERE WHAT IT READS IS OF BULK AT MOST 1048576: true; the input reads as it did. -/
def residTellsUptoRow : OpenClaim := { program := "ytbfbhacdllhddaagreat", sum := "5680b7ea9006c77303f74c619a857da329c9f5d418f74d7b50f05daa3e939cf0", func := "columbary/columbarylaw11.ResidTells", spec := "residTells", unfollowed := true, recurses := true, apart := false, narrowed := true }
def ResidTellsUptoSaid : Prop := residTellsUptoRow.holds Tryz.pinned (OpenSpec.upto residTellsSpec)

/-- 'columbarylaw07.SemiKeeps', WHERE WHAT IT READS IS OF BULK AT MOST 1048576: true; the input reads as it did. -/
def semiKeepsUptoRow : OpenClaim := { program := "ytbfbhacdllhddaagreat", sum := "5680b7ea9006c77303f74c619a857da329c9f5d418f74d7b50f05daa3e939cf0", func := "columbary/columbarylaw07.SemiKeeps", spec := "semiKeeps", unfollowed := true, recurses := true, apart := false, narrowed := true }
def SemiKeepsUptoSaid : Prop := semiKeepsUptoRow.holds Tryz.pinned (OpenSpec.upto semiKeepsSpec)

/-- 'columbarylaw07.SemiLaws', WHERE WHAT IT READS IS OF BULK AT MOST 1048576: true; the input reads as it did. -/
def semiLawsUptoRow : OpenClaim := { program := "ytbfbhacdllhddaagreat", sum := "5680b7ea9006c77303f74c619a857da329c9f5d418f74d7b50f05daa3e939cf0", func := "columbary/columbarylaw07.SemiLaws", spec := "semiLaws", unfollowed := true, recurses := true, apart := false, narrowed := true }
def SemiLawsUptoSaid : Prop := semiLawsUptoRow.holds Tryz.pinned (OpenSpec.upto semiLawsSpec)

/-- 'columbarylaw07.SemiWorks', WHERE WHAT IT READS IS OF BULK AT MOST 1048576: true; the input reads as it did. -/
def semiWorksUptoRow : OpenClaim := { program := "ytbfbhacdllhddaagreat", sum := "5680b7ea9006c77303f74c619a857da329c9f5d418f74d7b50f05daa3e939cf0", func := "columbary/columbarylaw07.SemiWorks", spec := "semiWorks", unfollowed := true, recurses := true, apart := false, narrowed := true }
def SemiWorksUptoSaid : Prop := semiWorksUptoRow.holds Tryz.pinned (OpenSpec.upto semiWorksSpec)

/-- 'columbarylaw11.ResidBack', WHERE WHAT IT READS IS OF BULK AT MOST 1048576: true; the input reads as it did. -/
def residBackUptoRow : OpenClaim := { program := "ytbfbhacdllhddaagreat", sum := "5680b7ea9006c77303f74c619a857da329c9f5d418f74d7b50f05daa3e939cf0", func := "columbary/columbarylaw11.ResidBack", spec := "residBack", unfollowed := true, recurses := true, apart := false, narrowed := true }
def ResidBackUptoSaid : Prop := residBackUptoRow.holds Tryz.pinned (OpenSpec.upto residBackSpec)

end Rows
end Go.Proofs.YtbfbhacdllhddaaGreat
