/- Plain laws: what a pattern stands for does not hang on its names. -/
import Derived.Test.YtfkopkjioohgoaaPureY
set_option linter.unusedVariables false
set_option linter.unusedSimpArgs false
set_option linter.all false
namespace Go.Cb
def named (s : ByteArray) (x : PN) : PN := ⟨x.k, x.a, x.b, x.n, s⟩
theorem goP_named (s : ByteArray) {tags : Int} : ∀ (r : List PN) (i : Nat) (op : List Int) (st : List Bool), goP tags i (r.map (named s)) op st = goP tags i r op st
  | [], _, _, _ => rfl
  | x :: r, i, op, st => by
    rw [List.map_cons, goP, goP, show stepP tags i (named s x) op st = stepP tags i x op st from rfl]
    cases stepP tags i x op st with
    | none => rfl
    | some q => exact goP_named s r (i + 1) q.1 q.2
theorem chkP_named (s : ByteArray) (p : List PN) (tags : Int) : chkP (p.map (named s)) tags = chkP p tags := by
  unfold chkP
  rw [List.length_map, goP_named]
theorem normF_named (s : ByteArray) : ∀ (r : List PN) (L : List SemS) (st : MSt), normF (r.map (named s)) L st = normF r L st
  | [], _, _ => rfl
  | x :: r, L, st => by
    rw [List.map_cons, normF, normF, show ∀ m, nodeF (named s x) L m = nodeF x L m from fun _ => rfl, normF_named s r]
theorem normS_named (s : ByteArray) (st : MSt) (p : List PN) (tags : Int) : normS st (p.map (named s)) tags = normS st p tags := by
  unfold normS
  rw [chkP_named, normF_named]
/-- The sets of all nodes, those ahead first. -/
def allF : List PN → List SemS → List SemS
  | [], L => L
  | x :: r, L => allF r (L ++ [(nodeF x L none).2.1])
theorem allF_len : ∀ (r : List PN) (L : List SemS), (allF r L).length = L.length + r.length
  | [], _ => rfl
  | x :: r, L => by rw [allF, allF_len r, List.length_append, List.length_cons]; simp; omega
end Go.Cb
