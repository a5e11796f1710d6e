/-
  No cell of these rows narrows 'for every input' (looked for: loops, veiled, ifaces, maps, wideKeys, modest, calm, conditions, laid).
  DERIVED. THE GIVEN ROWS OF THIS SEAT. 12 by the template 'for every input the law returns true; each argument reads behind the call as it read before'; 0 by the template 'total and deterministic' (their statements: YtpkofpnfnpicmaaTotals.lean).
  GIVEN WITH THE SEED: the statements are not yours to turn. If you find one false, say at which input.
  Laid BY PROGRAM, IN A SANDBOX (cutbox-rows.mjs): the forced cells as the released guide's own fill.sh prints them over the translation f52368102cc0dc6a… (all of the seat's roots in one cut). By AI agents, Wed Nov 11 2026. No macro, syntax, notation, axiom, sorry.
-/
import Derived.Test.YtpkofpnfnpicmaaChecked
import GoSem.Claim
import GoSem.ClaimJoined
import GoSem.ClaimMapViews
import Derived.JoinedTies
import Derived.KernelRfl
namespace Go.Proofs.Ytpkofpnfnpicmaa
/- THE CELL 'sum', in the pinned program and in every row, IS THE sha256 OF THE DUMP (.gsa) THAT YtpkofpnfnpicmaaProg.lean LOADS. Nothing in Lean hashes anything: it is a label: what it is worth is what the hold of that sum in a sandbox is worth. -/
noncomputable def Try.pinned : Pinned := { name := "ytpkofpnfnpicmaa", sum := "f52368102cc0dc6ab5e191a0ca66186b8a4ece15b5e32ac7e55a4213f45decb5", checked := Try.checked }
namespace Rows
def none {H : Type} : Left H := { results := [], args := [] }

/-- 'columbarylaw03.BagOne': WHATEVER THE INPUT: true; the input reads as it did. -/
def bagOneSpec : ChangeSpec := { name := "bagOne", fn := fun _ => fun
  | [d1, d2] => { results := [.lit (.bool true)], args := [d1, d2] }
  | _ => none }
def bagOneRow : OpenClaim := { program := "ytpkofpnfnpicmaa", sum := "f52368102cc0dc6ab5e191a0ca66186b8a4ece15b5e32ac7e55a4213f45decb5", func := "columbary/columbarylaw03.BagOne", spec := "bagOne", unfollowed := true, recurses := true, apart := false }
def BagOneSaid : Prop := bagOneRow.holds Try.pinned (OpenSpec.ofChange bagOneSpec)

/-- ITS FALSE NEIGHBOUR: 'it returns false'. Refute it at one input. -/
def bagOneWrong : ChangeSpec := { name := "bagOne", fn := fun _ => fun
  | [d1, d2] => { results := [.lit (.bool false)], args := [d1, d2] }
  | _ => none }
def BagOneWrongFalsely : Prop := bagOneRow.holds Try.pinned (OpenSpec.ofChange bagOneWrong)

/-- 'columbarylaw01.MeterPlays': WHATEVER THE INPUT: true; the input reads as it did. -/
def meterPlaysSpec : ChangeSpec := { name := "meterPlays", fn := fun _ => fun
  | [d1, d2] => { results := [.lit (.bool true)], args := [d1, d2] }
  | _ => none }
def meterPlaysRow : OpenClaim := { program := "ytpkofpnfnpicmaa", sum := "f52368102cc0dc6ab5e191a0ca66186b8a4ece15b5e32ac7e55a4213f45decb5", func := "columbary/columbarylaw01.MeterPlays", spec := "meterPlays", apart := false }
def MeterPlaysSaid : Prop := meterPlaysRow.holds Try.pinned (OpenSpec.ofChange meterPlaysSpec)

/-- ITS FALSE NEIGHBOUR: 'it returns false'. Refute it at one input. -/
def meterPlaysWrong : ChangeSpec := { name := "meterPlays", fn := fun _ => fun
  | [d1, d2] => { results := [.lit (.bool false)], args := [d1, d2] }
  | _ => none }
def MeterPlaysWrongFalsely : Prop := meterPlaysRow.holds Try.pinned (OpenSpec.ofChange meterPlaysWrong)

/-- 'columbarylaw01.MeterNil': WHATEVER THE INPUT: true; the input reads as it did. -/
def meterNilSpec : ChangeSpec := { name := "meterNil", fn := fun _ => fun
  | [d] => { results := [.lit (.bool true)], args := [d] }
  | _ => none }
def meterNilRow : OpenClaim := { program := "ytpkofpnfnpicmaa", sum := "f52368102cc0dc6ab5e191a0ca66186b8a4ece15b5e32ac7e55a4213f45decb5", func := "columbary/columbarylaw01.MeterNil", spec := "meterNil", apart := false }
def MeterNilSaid : Prop := meterNilRow.holds Try.pinned (OpenSpec.ofChange meterNilSpec)

/-- ITS FALSE NEIGHBOUR: 'it returns false'. Refute it at one input. -/
def meterNilWrong : ChangeSpec := { name := "meterNil", fn := fun _ => fun
  | [d] => { results := [.lit (.bool false)], args := [d] }
  | _ => none }
def MeterNilWrongFalsely : Prop := meterNilRow.holds Try.pinned (OpenSpec.ofChange meterNilWrong)

/-- 'columbarylaw01.MeterSums': WHATEVER THE INPUT: true; the input reads as it did. -/
def meterSumsSpec : ChangeSpec := { name := "meterSums", fn := fun _ => fun
  | [d1, d2] => { results := [.lit (.bool true)], args := [d1, d2] }
  | _ => none }
def meterSumsRow : OpenClaim := { program := "ytpkofpnfnpicmaa", sum := "f52368102cc0dc6ab5e191a0ca66186b8a4ece15b5e32ac7e55a4213f45decb5", func := "columbary/columbarylaw01.MeterSums", spec := "meterSums", apart := false }
def MeterSumsSaid : Prop := meterSumsRow.holds Try.pinned (OpenSpec.ofChange meterSumsSpec)

/-- ITS FALSE NEIGHBOUR: 'it returns false'. Refute it at one input. -/
def meterSumsWrong : ChangeSpec := { name := "meterSums", fn := fun _ => fun
  | [d1, d2] => { results := [.lit (.bool false)], args := [d1, d2] }
  | _ => none }
def MeterSumsWrongFalsely : Prop := meterSumsRow.holds Try.pinned (OpenSpec.ofChange meterSumsWrong)

/-- 'columbarylaw01.MeterLaws': WHATEVER THE INPUT: true; the input reads as it did. -/
def meterLawsSpec : ChangeSpec := { name := "meterLaws", fn := fun _ => fun
  | [d1, d2, d3, d4] => { results := [.lit (.bool true)], args := [d1, d2, d3, d4] }
  | _ => none }
def meterLawsRow : OpenClaim := { program := "ytpkofpnfnpicmaa", sum := "f52368102cc0dc6ab5e191a0ca66186b8a4ece15b5e32ac7e55a4213f45decb5", func := "columbary/columbarylaw01.MeterLaws", spec := "meterLaws", apart := false }
def MeterLawsSaid : Prop := meterLawsRow.holds Try.pinned (OpenSpec.ofChange meterLawsSpec)

/-- ITS FALSE NEIGHBOUR: 'it returns false'. Refute it at one input. -/
def meterLawsWrong : ChangeSpec := { name := "meterLaws", fn := fun _ => fun
  | [d1, d2, d3, d4] => { results := [.lit (.bool false)], args := [d1, d2, d3, d4] }
  | _ => none }
def MeterLawsWrongFalsely : Prop := meterLawsRow.holds Try.pinned (OpenSpec.ofChange meterLawsWrong)

/-- 'columbarylaw01.MeterLast': WHATEVER THE INPUT: true; the input reads as it did. -/
def meterLastSpec : ChangeSpec := { name := "meterLast", fn := fun _ => fun
  | [d1, d2] => { results := [.lit (.bool true)], args := [d1, d2] }
  | _ => none }
def meterLastRow : OpenClaim := { program := "ytpkofpnfnpicmaa", sum := "f52368102cc0dc6ab5e191a0ca66186b8a4ece15b5e32ac7e55a4213f45decb5", func := "columbary/columbarylaw01.MeterLast", spec := "meterLast", apart := false }
def MeterLastSaid : Prop := meterLastRow.holds Try.pinned (OpenSpec.ofChange meterLastSpec)

/-- ITS FALSE NEIGHBOUR: 'it returns false'. Refute it at one input. -/
def meterLastWrong : ChangeSpec := { name := "meterLast", fn := fun _ => fun
  | [d1, d2] => { results := [.lit (.bool false)], args := [d1, d2] }
  | _ => none }
def MeterLastWrongFalsely : Prop := meterLastRow.holds Try.pinned (OpenSpec.ofChange meterLastWrong)

/-- 'columbarylaw09.AutoLetters': WHATEVER THE INPUT: true; the input reads as it did. -/
def autoLettersSpec : ChangeSpec := { name := "autoLetters", fn := fun _ => fun
  | [d1, d2] => { results := [.lit (.bool true)], args := [d1, d2] }
  | _ => none }
def autoLettersRow : OpenClaim := { program := "ytpkofpnfnpicmaa", sum := "f52368102cc0dc6ab5e191a0ca66186b8a4ece15b5e32ac7e55a4213f45decb5", func := "columbary/columbarylaw09.AutoLetters", spec := "autoLetters", unfollowed := true, recurses := true, apart := false }
def AutoLettersSaid : Prop := autoLettersRow.holds Try.pinned (OpenSpec.ofChange autoLettersSpec)

/-- ITS FALSE NEIGHBOUR: 'it returns false'. Refute it at one input. -/
def autoLettersWrong : ChangeSpec := { name := "autoLetters", fn := fun _ => fun
  | [d1, d2] => { results := [.lit (.bool false)], args := [d1, d2] }
  | _ => none }
def AutoLettersWrongFalsely : Prop := autoLettersRow.holds Try.pinned (OpenSpec.ofChange autoLettersWrong)

/-- 'columbarylaw03.BagOrder': WHATEVER THE INPUT: true; the input reads as it did. -/
def bagOrderSpec : ChangeSpec := { name := "bagOrder", fn := fun _ => fun
  | [d1, d2, d3] => { results := [.lit (.bool true)], args := [d1, d2, d3] }
  | _ => none }
def bagOrderRow : OpenClaim := { program := "ytpkofpnfnpicmaa", sum := "f52368102cc0dc6ab5e191a0ca66186b8a4ece15b5e32ac7e55a4213f45decb5", func := "columbary/columbarylaw03.BagOrder", spec := "bagOrder", unfollowed := true, recurses := true, apart := false }
def BagOrderSaid : Prop := bagOrderRow.holds Try.pinned (OpenSpec.ofChange bagOrderSpec)

/-- ITS FALSE NEIGHBOUR: 'it returns false'. Refute it at one input. -/
def bagOrderWrong : ChangeSpec := { name := "bagOrder", fn := fun _ => fun
  | [d1, d2, d3] => { results := [.lit (.bool false)], args := [d1, d2, d3] }
  | _ => none }
def BagOrderWrongFalsely : Prop := bagOrderRow.holds Try.pinned (OpenSpec.ofChange bagOrderWrong)

/-- 'columbarylaw03.BagTake': WHATEVER THE INPUT: true; the input reads as it did. -/
def bagTakeSpec : ChangeSpec := { name := "bagTake", fn := fun _ => fun
  | [d1, d2] => { results := [.lit (.bool true)], args := [d1, d2] }
  | _ => none }
def bagTakeRow : OpenClaim := { program := "ytpkofpnfnpicmaa", sum := "f52368102cc0dc6ab5e191a0ca66186b8a4ece15b5e32ac7e55a4213f45decb5", func := "columbary/columbarylaw03.BagTake", spec := "bagTake", unfollowed := true, recurses := true, apart := false }
def BagTakeSaid : Prop := bagTakeRow.holds Try.pinned (OpenSpec.ofChange bagTakeSpec)

/-- ITS FALSE NEIGHBOUR: 'it returns false'. Refute it at one input. -/
def bagTakeWrong : ChangeSpec := { name := "bagTake", fn := fun _ => fun
  | [d1, d2] => { results := [.lit (.bool false)], args := [d1, d2] }
  | _ => none }
def BagTakeWrongFalsely : Prop := bagTakeRow.holds Try.pinned (OpenSpec.ofChange bagTakeWrong)

/-- 'columbarylaw03.BagKeeps': WHATEVER THE INPUT: true; the input reads as it did. -/
def bagKeepsSpec : ChangeSpec := { name := "bagKeeps", fn := fun _ => fun
  | [d1, d2] => { results := [.lit (.bool true)], args := [d1, d2] }
  | _ => none }
def bagKeepsRow : OpenClaim := { program := "ytpkofpnfnpicmaa", sum := "f52368102cc0dc6ab5e191a0ca66186b8a4ece15b5e32ac7e55a4213f45decb5", func := "columbary/columbarylaw03.BagKeeps", spec := "bagKeeps", unfollowed := true, recurses := true, apart := false }
def BagKeepsSaid : Prop := bagKeepsRow.holds Try.pinned (OpenSpec.ofChange bagKeepsSpec)

/-- ITS FALSE NEIGHBOUR: 'it returns false'. Refute it at one input. -/
def bagKeepsWrong : ChangeSpec := { name := "bagKeeps", fn := fun _ => fun
  | [d1, d2] => { results := [.lit (.bool false)], args := [d1, d2] }
  | _ => none }
def BagKeepsWrongFalsely : Prop := bagKeepsRow.holds Try.pinned (OpenSpec.ofChange bagKeepsWrong)

/-- 'columbarylaw03.BagLaws': WHATEVER THE INPUT: true; the input reads as it did. -/
def bagLawsSpec : ChangeSpec := { name := "bagLaws", fn := fun _ => fun
  | [d1, d2, d3] => { results := [.lit (.bool true)], args := [d1, d2, d3] }
  | _ => none }
def bagLawsRow : OpenClaim := { program := "ytpkofpnfnpicmaa", sum := "f52368102cc0dc6ab5e191a0ca66186b8a4ece15b5e32ac7e55a4213f45decb5", func := "columbary/columbarylaw03.BagLaws", spec := "bagLaws", unfollowed := true, recurses := true, apart := false }
def BagLawsSaid : Prop := bagLawsRow.holds Try.pinned (OpenSpec.ofChange bagLawsSpec)

/-- ITS FALSE NEIGHBOUR: 'it returns false'. Refute it at one input. -/
def bagLawsWrong : ChangeSpec := { name := "bagLaws", fn := fun _ => fun
  | [d1, d2, d3] => { results := [.lit (.bool false)], args := [d1, d2, d3] }
  | _ => none }
def BagLawsWrongFalsely : Prop := bagLawsRow.holds Try.pinned (OpenSpec.ofChange bagLawsWrong)

/-- 'columbarylaw03.BagTells': WHATEVER THE INPUT: true; the input reads as it did. -/
def bagTellsSpec : ChangeSpec := { name := "bagTells", fn := fun _ => fun
  | [d1, d2] => { results := [.lit (.bool true)], args := [d1, d2] }
  | _ => none }
def bagTellsRow : OpenClaim := { program := "ytpkofpnfnpicmaa", sum := "f52368102cc0dc6ab5e191a0ca66186b8a4ece15b5e32ac7e55a4213f45decb5", func := "columbary/columbarylaw03.BagTells", spec := "bagTells", unfollowed := true, recurses := true, apart := false }
def BagTellsSaid : Prop := bagTellsRow.holds Try.pinned (OpenSpec.ofChange bagTellsSpec)

/-- ITS FALSE NEIGHBOUR: 'it returns false'. Refute it at one input. -/
def bagTellsWrong : ChangeSpec := { name := "bagTells", fn := fun _ => fun
  | [d1, d2] => { results := [.lit (.bool false)], args := [d1, d2] }
  | _ => none }
def BagTellsWrongFalsely : Prop := bagTellsRow.holds Try.pinned (OpenSpec.ofChange bagTellsWrong)

/- THE SECOND FORM. 'bulk': how many values and letters a reading holds, each counted each time it is reached (what is shared counts as often as it is met; a slice's spare places count too). A statement '..UptoSaid' is the law's where the arguments, and the package variables that the reading takes, are together of bulk at most 1048576: NARROWER than '..Said'. Prove '..Said' where nothing that the law and all that it calls make is longer than what came in: it says more and counts as full. Else prove '..UptoSaid'. A law counts once. -/
mutual
def uptoBulk {H : Type} : DataW H → Nat
  | .lit (.string bytes) => bytes.length + 1
  | .lit _ => 1
  | .nil => 1
  | .ptr d => uptoBulk d + 1
  | .slice elems spare => uptoBulkAll elems + uptoBulkAll spare + 1
  | .agg parts => uptoBulkAll parts + 1
  | .iface _ d => uptoBulk d + 1
  | .map entries => uptoBulkEntries entries + 1
  | .held _ => 1
def uptoBulkAll {H : Type} : List (DataW H) → Nat
  | [] => 0
  | d :: r => uptoBulk d + uptoBulkAll r
def uptoBulkEntries {H : Type} : List (Lit × DataW H) → Nat
  | [] => 0
  | x :: r => uptoBulkEntry x + uptoBulkEntries r
def uptoBulkEntry {H : Type} : Lit × DataW H → Nat
  | (.string bytes, d) => bytes.length + uptoBulk d + 1
  | (_, d) => uptoBulk d + 1
 end
def uptoSmall : (H : Type) → List (DataW H) → Bool := fun _ ds => decide (uptoBulkAll ds ≤ 1048576)
def OpenSpec.upto (s : _root_.Go.ChangeSpec) : _root_.Go.OpenSpec := { _root_.Go.OpenSpec.ofChange s with cond := some uptoSmall }

/-- 'columbarylaw03.BagOne', WHERE WHAT IT READS IS OF BULK AT MOST 1048576: true; the input reads as it did. -/
def bagOneUptoRow : OpenClaim := { program := "ytpkofpnfnpicmaa", sum := "f52368102cc0dc6ab5e191a0ca66186b8a4ece15b5e32ac7e55a4213f45decb5", func := "columbary/columbarylaw03.BagOne", spec := "bagOne", unfollowed := true, recurses := true, apart := false, narrowed := true }
def BagOneUptoSaid : Prop := bagOneUptoRow.holds Try.pinned (OpenSpec.upto bagOneSpec)

/-- 'columbarylaw01.MeterPlays', WHERE WHAT IT READS IS OF BULK AT MOST 1048576: true; the input reads as it did. -/
def meterPlaysUptoRow : OpenClaim := { program := "ytpkofpnfnpicmaa", sum := "f52368102cc0dc6ab5e191a0ca66186b8a4ece15b5e32ac7e55a4213f45decb5", func := "columbary/columbarylaw01.MeterPlays", spec := "meterPlays", apart := false, narrowed := true }
def MeterPlaysUptoSaid : Prop := meterPlaysUptoRow.holds Try.pinned (OpenSpec.upto meterPlaysSpec)

/-- 'columbarylaw01.MeterNil', WHERE WHAT IT READS IS OF BULK AT MOST 1048576: true; the input reads as it did. -/
def meterNilUptoRow : OpenClaim := { program := "ytpkofpnfnpicmaa", sum := "f52368102cc0dc6ab5e191a0ca66186b8a4ece15b5e32ac7e55a4213f45decb5", func := "columbary/columbarylaw01.MeterNil", spec := "meterNil", apart := false, narrowed := true }
def MeterNilUptoSaid : Prop := meterNilUptoRow.holds Try.pinned (OpenSpec.upto meterNilSpec)

/-- 'columbarylaw01.MeterSums', WHERE WHAT IT READS IS OF BULK AT MOST 1048576: true; the input reads as it did. -/
def meterSumsUptoRow : OpenClaim := { program := "ytpkofpnfnpicmaa", sum := "f52368102cc0dc6ab5e191a0ca66186b8a4ece15b5e32ac7e55a4213f45decb5", func := "columbary/columbarylaw01.MeterSums", spec := "meterSums", apart := false, narrowed := true }
def MeterSumsUptoSaid : Prop := meterSumsUptoRow.holds Try.pinned (OpenSpec.upto meterSumsSpec)

/-- 'columbarylaw01.MeterLaws', WHERE WHAT IT READS IS OF BULK AT MOST 1048576: true; the input reads as it did. -/
def meterLawsUptoRow : OpenClaim := { program := "ytpkofpnfnpicmaa", sum := "f52368102cc0dc6ab5e191a0ca66186b8a4ece15b5e32ac7e55a4213f45decb5", func := "columbary/columbarylaw01.MeterLaws", spec := "meterLaws", apart := false, narrowed := true }
def MeterLawsUptoSaid : Prop := meterLawsUptoRow.holds Try.pinned (OpenSpec.upto meterLawsSpec)

/-- 'columbarylaw01.MeterLast', WHERE WHAT IT READS IS OF BULK AT MOST 1048576: true; the input reads as it did. -/
def meterLastUptoRow : OpenClaim := { program := "ytpkofpnfnpicmaa", sum := "f52368102cc0dc6ab5e191a0ca66186b8a4ece15b5e32ac7e55a4213f45decb5", func := "columbary/columbarylaw01.MeterLast", spec := "meterLast", apart := false, narrowed := true }
def MeterLastUptoSaid : Prop := meterLastUptoRow.holds Try.pinned (OpenSpec.upto meterLastSpec)

/-- 'columbarylaw09.AutoLetters', WHERE WHAT IT READS IS OF BULK AT MOST 1048576: true; the input reads as it did. -/
def autoLettersUptoRow : OpenClaim := { program := "ytpkofpnfnpicmaa", sum := "f52368102cc0dc6ab5e191a0ca66186b8a4ece15b5e32ac7e55a4213f45decb5", func := "columbary/columbarylaw09.AutoLetters", spec := "autoLetters", unfollowed := true, recurses := true, apart := false, narrowed := true }
def AutoLettersUptoSaid : Prop := autoLettersUptoRow.holds Try.pinned (OpenSpec.upto autoLettersSpec)

/-- 'columbarylaw03.BagOrder', WHERE WHAT IT READS IS OF BULK AT MOST 1048576: true; the input reads as it did. -/
def bagOrderUptoRow : OpenClaim := { program := "ytpkofpnfnpicmaa", sum := "f52368102cc0dc6ab5e191a0ca66186b8a4ece15b5e32ac7e55a4213f45decb5", func := "columbary/columbarylaw03.BagOrder", spec := "bagOrder", unfollowed := true, recurses := true, apart := false, narrowed := true }
def BagOrderUptoSaid : Prop := bagOrderUptoRow.holds Try.pinned (OpenSpec.upto bagOrderSpec)

/-- 'columbarylaw03.BagTake', WHERE WHAT IT READS IS OF BULK AT MOST 1048576: true; the input reads as it did. -/
def bagTakeUptoRow : OpenClaim := { program := "ytpkofpnfnpicmaa", sum := "f52368102cc0dc6ab5e191a0ca66186b8a4ece15b5e32ac7e55a4213f45decb5", func := "columbary/columbarylaw03.BagTake", spec := "bagTake", unfollowed := true, recurses := true, apart := false, narrowed := true }
def BagTakeUptoSaid : Prop := bagTakeUptoRow.holds Try.pinned (OpenSpec.upto bagTakeSpec)

/-- 'columbarylaw03.BagKeeps', WHERE WHAT IT READS IS OF BULK AT MOST 1048576: true; the input reads as it did. -/
def bagKeepsUptoRow : OpenClaim := { program := "ytpkofpnfnpicmaa", sum := "f52368102cc0dc6ab5e191a0ca66186b8a4ece15b5e32ac7e55a4213f45decb5", func := "columbary/columbarylaw03.BagKeeps", spec := "bagKeeps", unfollowed := true, recurses := true, apart := false, narrowed := true }
def BagKeepsUptoSaid : Prop := bagKeepsUptoRow.holds Try.pinned (OpenSpec.upto bagKeepsSpec)

/-- 'columbarylaw03.BagLaws', WHERE WHAT IT READS IS OF BULK AT MOST 1048576: true; the input reads as it did. -/
def bagLawsUptoRow : OpenClaim := { program := "ytpkofpnfnpicmaa", sum := "f52368102cc0dc6ab5e191a0ca66186b8a4ece15b5e32ac7e55a4213f45decb5", func := "columbary/columbarylaw03.BagLaws", spec := "bagLaws", unfollowed := true, recurses := true, apart := false, narrowed := true }
def BagLawsUptoSaid : Prop := bagLawsUptoRow.holds Try.pinned (OpenSpec.upto bagLawsSpec)

/-- 'columbarylaw03.BagTells', WHERE WHAT IT READS IS OF BULK AT MOST 1048576: true; the input reads as it did. -/
def bagTellsUptoRow : OpenClaim := { program := "ytpkofpnfnpicmaa", sum := "f52368102cc0dc6ab5e191a0ca66186b8a4ece15b5e32ac7e55a4213f45decb5", func := "columbary/columbarylaw03.BagTells", spec := "bagTells", unfollowed := true, recurses := true, apart := false, narrowed := true }
def BagTellsUptoSaid : Prop := bagTellsUptoRow.holds Try.pinned (OpenSpec.upto bagTellsSpec)

end Rows
end Go.Proofs.Ytpkofpnfnpicmaa
