/-
  No cell of these rows narrows 'for every input' (looked for: loops, veiled, ifaces, maps, wideKeys, modest, calm, conditions, laid).
  DERIVED. THE GIVEN ROWS OF THIS SEAT. 5 by the template 'for every input the law returns true; each argument reads behind the call as it read before'; 0 by the template 'total and deterministic' (their statements: YtghdleofbkalbaaTotals.lean).
  GIVEN WITH THE SEED: the statements are not yours to turn. If you find one false, say at which input.
  Laid BY PROGRAM, IN A SANDBOX (cutbox-rows.mjs): the forced cells as the released guide's own fill.sh prints them over the translation 281411b0bf9652c9… (all of the seat's roots in one cut). By AI agents, Wed Nov 11 2026. No macro, syntax, notation, axiom, sorry.
-/
import Derived.Test.YtghdleofbkalbaaChecked
import GoSem.Claim
import GoSem.ClaimJoined
import GoSem.ClaimMapViews
import Derived.JoinedTies
import Derived.KernelRfl
namespace Go.Proofs.Ytghdleofbkalbaa
/- THE CELL 'sum', in the pinned program and in every row, IS THE sha256 OF THE DUMP (.gsa) THAT YtghdleofbkalbaaProg.lean LOADS. Nothing in Lean hashes anything: it is a label: what it is worth is what the hold of that sum in a sandbox is worth. -/
noncomputable def Try.pinned : Pinned := { name := "ytghdleofbkalbaa", sum := "281411b0bf9652c9cec1d29788e344befe85f282bae2a9667482df3648292800", checked := Try.checked }
namespace Rows
def none {H : Type} : Left H := { results := [], args := [] }

/-- 'columbarylaw06.LinOrder': WHATEVER THE INPUT: true; the input reads as it did. -/
def linOrderSpec : ChangeSpec := { name := "linOrder", fn := fun _ => fun
  | [d1, d2, d3] => { results := [.lit (.bool true)], args := [d1, d2, d3] }
  | _ => none }
def linOrderRow : OpenClaim := { program := "ytghdleofbkalbaa", sum := "281411b0bf9652c9cec1d29788e344befe85f282bae2a9667482df3648292800", func := "columbary/columbarylaw06.LinOrder", spec := "linOrder", unfollowed := true, recurses := true, apart := false }
def LinOrderSaid : Prop := linOrderRow.holds Try.pinned (OpenSpec.ofChange linOrderSpec)

/-- ITS FALSE NEIGHBOUR: 'it returns false'. Refute it at one input. -/
def linOrderWrong : ChangeSpec := { name := "linOrder", fn := fun _ => fun
  | [d1, d2, d3] => { results := [.lit (.bool false)], args := [d1, d2, d3] }
  | _ => none }
def LinOrderWrongFalsely : Prop := linOrderRow.holds Try.pinned (OpenSpec.ofChange linOrderWrong)

/-- 'columbarylaw06.LinMade': WHATEVER THE INPUT: true; the input reads as it did. -/
def linMadeSpec : ChangeSpec := { name := "linMade", fn := fun _ => fun
  | [d1, d2] => { results := [.lit (.bool true)], args := [d1, d2] }
  | _ => none }
def linMadeRow : OpenClaim := { program := "ytghdleofbkalbaa", sum := "281411b0bf9652c9cec1d29788e344befe85f282bae2a9667482df3648292800", func := "columbary/columbarylaw06.LinMade", spec := "linMade", unfollowed := true, recurses := true, apart := false }
def LinMadeSaid : Prop := linMadeRow.holds Try.pinned (OpenSpec.ofChange linMadeSpec)

/-- ITS FALSE NEIGHBOUR: 'it returns false'. Refute it at one input. -/
def linMadeWrong : ChangeSpec := { name := "linMade", fn := fun _ => fun
  | [d1, d2] => { results := [.lit (.bool false)], args := [d1, d2] }
  | _ => none }
def LinMadeWrongFalsely : Prop := linMadeRow.holds Try.pinned (OpenSpec.ofChange linMadeWrong)

/-- 'columbarylaw06.LinCat': WHATEVER THE INPUT: true; the input reads as it did. -/
def linCatSpec : ChangeSpec := { name := "linCat", fn := fun _ => fun
  | [d1, d2, d3] => { results := [.lit (.bool true)], args := [d1, d2, d3] }
  | _ => none }
def linCatRow : OpenClaim := { program := "ytghdleofbkalbaa", sum := "281411b0bf9652c9cec1d29788e344befe85f282bae2a9667482df3648292800", func := "columbary/columbarylaw06.LinCat", spec := "linCat", unfollowed := true, recurses := true, apart := false }
def LinCatSaid : Prop := linCatRow.holds Try.pinned (OpenSpec.ofChange linCatSpec)

/-- ITS FALSE NEIGHBOUR: 'it returns false'. Refute it at one input. -/
def linCatWrong : ChangeSpec := { name := "linCat", fn := fun _ => fun
  | [d1, d2, d3] => { results := [.lit (.bool false)], args := [d1, d2, d3] }
  | _ => none }
def LinCatWrongFalsely : Prop := linCatRow.holds Try.pinned (OpenSpec.ofChange linCatWrong)

/-- 'columbarylaw06.LinKeeps': WHATEVER THE INPUT: true; the input reads as it did. -/
def linKeepsSpec : ChangeSpec := { name := "linKeeps", fn := fun _ => fun
  | [d1, d2] => { results := [.lit (.bool true)], args := [d1, d2] }
  | _ => none }
def linKeepsRow : OpenClaim := { program := "ytghdleofbkalbaa", sum := "281411b0bf9652c9cec1d29788e344befe85f282bae2a9667482df3648292800", func := "columbary/columbarylaw06.LinKeeps", spec := "linKeeps", unfollowed := true, recurses := true, apart := false }
def LinKeepsSaid : Prop := linKeepsRow.holds Try.pinned (OpenSpec.ofChange linKeepsSpec)

/-- ITS FALSE NEIGHBOUR: 'it returns false'. Refute it at one input. -/
def linKeepsWrong : ChangeSpec := { name := "linKeeps", fn := fun _ => fun
  | [d1, d2] => { results := [.lit (.bool false)], args := [d1, d2] }
  | _ => none }
def LinKeepsWrongFalsely : Prop := linKeepsRow.holds Try.pinned (OpenSpec.ofChange linKeepsWrong)

/-- 'columbarylaw06.LinTells': WHATEVER THE INPUT: true; the input reads as it did. -/
def linTellsSpec : ChangeSpec := { name := "linTells", fn := fun _ => fun
  | [d1, d2] => { results := [.lit (.bool true)], args := [d1, d2] }
  | _ => none }
def linTellsRow : OpenClaim := { program := "ytghdleofbkalbaa", sum := "281411b0bf9652c9cec1d29788e344befe85f282bae2a9667482df3648292800", func := "columbary/columbarylaw06.LinTells", spec := "linTells", unfollowed := true, recurses := true, apart := false }
def LinTellsSaid : Prop := linTellsRow.holds Try.pinned (OpenSpec.ofChange linTellsSpec)

/-- ITS FALSE NEIGHBOUR: 'it returns false'. Refute it at one input. -/
def linTellsWrong : ChangeSpec := { name := "linTells", fn := fun _ => fun
  | [d1, d2] => { results := [.lit (.bool false)], args := [d1, d2] }
  | _ => none }
def LinTellsWrongFalsely : Prop := linTellsRow.holds Try.pinned (OpenSpec.ofChange linTellsWrong)

/- THE SECOND FORM. 'bulk': how many values and letters a reading holds, each counted each time it is reached (what is shared counts as often as it is met; a slice's spare places count too). A statement '..UptoSaid' is the law's where the arguments, and the package variables that the reading takes, are together of bulk at most 1048576: NARROWER than '..Said'. Prove '..Said' where nothing that the law and all that it calls make is longer than what came in: it says more and counts as full. Else prove '..UptoSaid'. A law counts once. -/
mutual
def uptoBulk {H : Type} : DataW H → Nat
  | .lit (.string bytes) => bytes.length + 1
  | .lit _ => 1
  | .nil => 1
  | .ptr d => uptoBulk d + 1
  | .slice elems spare => uptoBulkAll elems + uptoBulkAll spare + 1
  | .agg parts => uptoBulkAll parts + 1
  | .iface _ d => uptoBulk d + 1
  | .map entries => uptoBulkEntries entries + 1
  | .held _ => 1
def uptoBulkAll {H : Type} : List (DataW H) → Nat
  | [] => 0
  | d :: r => uptoBulk d + uptoBulkAll r
def uptoBulkEntries {H : Type} : List (Lit × DataW H) → Nat
  | [] => 0
  | x :: r => uptoBulkEntry x + uptoBulkEntries r
def uptoBulkEntry {H : Type} : Lit × DataW H → Nat
  | (.string bytes, d) => bytes.length + uptoBulk d + 1
  | (_, d) => uptoBulk d + 1
 end
def uptoSmall : (H : Type) → List (DataW H) → Bool := fun _ ds => decide (uptoBulkAll ds ≤ 1048576)
def OpenSpec.upto (s : _root_.Go.ChangeSpec) : _root_.Go.OpenSpec := { _root_.Go.OpenSpec.ofChange s with cond := some uptoSmall }

/-- 'columbarylaw06.LinOrder', WHERE WHAT IT READS IS OF BULK AT MOST 1048576: true; the input reads as it did. -/
def linOrderUptoRow : OpenClaim := { program := "ytghdleofbkalbaa", sum := "281411b0bf9652c9cec1d29788e344befe85f282bae2a9667482df3648292800", func := "columbary/columbarylaw06.LinOrder", spec := "linOrder", unfollowed := true, recurses := true, apart := false, narrowed := true }
def LinOrderUptoSaid : Prop := linOrderUptoRow.holds Try.pinned (OpenSpec.upto linOrderSpec)

/-- 'columbarylaw06.LinMade', WHERE WHAT IT READS IS OF BULK AT MOST 1048576: true; the input reads as it did. -/
def linMadeUptoRow : OpenClaim := { program := "ytghdleofbkalbaa", sum := "281411b0bf9652c9cec1d29788e344befe85f282bae2a9667482df3648292800", func := "columbary/columbarylaw06.LinMade", spec := "linMade", unfollowed := true, recurses := true, apart := false, narrowed := true }
def LinMadeUptoSaid : Prop := linMadeUptoRow.holds Try.pinned (OpenSpec.upto linMadeSpec)

/-- 'columbarylaw06.LinCat', WHERE WHAT IT READS IS OF BULK AT MOST 1048576: true; the input reads as it did. -/
def linCatUptoRow : OpenClaim := { program := "ytghdleofbkalbaa", sum := "281411b0bf9652c9cec1d29788e344befe85f282bae2a9667482df3648292800", func := "columbary/columbarylaw06.LinCat", spec := "linCat", unfollowed := true, recurses := true, apart := false, narrowed := true }
def LinCatUptoSaid : Prop := linCatUptoRow.holds Try.pinned (OpenSpec.upto linCatSpec)

/-- 'columbarylaw06.LinKeeps', WHERE WHAT IT READS IS OF BULK AT MOST 1048576: true; the input reads as it did. -/
def linKeepsUptoRow : OpenClaim := { program := "ytghdleofbkalbaa", sum := "281411b0bf9652c9cec1d29788e344befe85f282bae2a9667482df3648292800", func := "columbary/columbarylaw06.LinKeeps", spec := "linKeeps", unfollowed := true, recurses := true, apart := false, narrowed := true }
def LinKeepsUptoSaid : Prop := linKeepsUptoRow.holds Try.pinned (OpenSpec.upto linKeepsSpec)

/-- 'columbarylaw06.LinTells', WHERE WHAT IT READS IS OF BULK AT MOST 1048576: true; the input reads as it did. -/
def linTellsUptoRow : OpenClaim := { program := "ytghdleofbkalbaa", sum := "281411b0bf9652c9cec1d29788e344befe85f282bae2a9667482df3648292800", func := "columbary/columbarylaw06.LinTells", spec := "linTells", unfollowed := true, recurses := true, apart := false, narrowed := true }
def LinTellsUptoSaid : Prop := linTellsUptoRow.holds Try.pinned (OpenSpec.upto linTellsSpec)

end Rows
end Go.Proofs.Ytghdleofbkalbaa
