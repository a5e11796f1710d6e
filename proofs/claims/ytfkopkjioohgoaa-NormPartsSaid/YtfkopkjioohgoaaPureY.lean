/- Plain laws: what a pattern stands for, by any budget. -/
import Derived.Test.YtfkopkjioohgoaaPureW
import Derived.Test.YtfkopkjioohgoaaMG
set_option linter.unusedVariables false
set_option linter.unusedSimpArgs false
set_option linter.all false
namespace Go.Cb
open Go.RowKit
theorem stepP_mono {t t' : Int} (h : t ≤ t') {i : Nat} {x : PN} {op : List Int} {st : List Bool} {s : List Int × List Bool} (hs : stepP t i x op st = some s) : stepP t' i x op st = some s := by
  by_cases k3 : x.k = 3
  · unfold stepP at *
    rw [if_neg (by omega), if_pos k3] at *
    split at hs
    · cases hs
    · rename_i h1
      rw [if_neg (by omega)]
      exact hs
  · unfold stepP at *
    rw [if_neg k3] at *
    exact hs
theorem goP_mono {t t' : Int} (h : t ≤ t') : ∀ (r : List PN) (i : Nat) (op : List Int) (st : List Bool), goP t i r op st = true → goP t' i r op st = true
  | [], _, _, _, hg => hg
  | x :: r, i, op, st, hg => by
    rw [goP] at *
    cases hs : stepP t i x op st with
    | none => rw [hs] at hg; cases hg
    | some s =>
      rw [hs] at hg
      rw [stepP_mono h hs]
      exact goP_mono h r (i + 1) s.1 s.2 hg
theorem chkP_mono {t t' : Int} (h : t ≤ t') {p : List PN} (hc : chkP p t = true) : chkP p t' = true := by
  unfold chkP at *
  simp only [Bool.and_eq_true, decide_eq_true_eq] at *
  exact ⟨hc.1, goP_mono h _ _ _ _ hc.2⟩
theorem norm_fit_any {tags : Int} {p : List PN} (hc : chkP p tags = true) (mst : MSt) : NormFit p [] mst :=
  norm_fit (chkP_mono (t' := max tags 0) (by omega) hc) (by omega) mst
theorem nodeF_bud (x : PN) (L : List SemS) (B S : Int) (o : Bool) (h : S ≤ B) : ∃ S' o', (nodeF x L (some (B, S, o))).1 = some (B, S', o') ∧ S ≤ S' ∧ S' ≤ B := by
  unfold nodeF
  split
  · exact ⟨S, o, rfl, Int.le_refl _, h⟩
  · split
    · exact ⟨S, o, rfl, Int.le_refl _, h⟩
    · split
      · exact ⟨S, o, rfl, Int.le_refl _, h⟩
      · split
        · exact catS_bud B S o h _ _
        · split
          · exact starS_bud B S o h _
          · exact ⟨S, o, rfl, Int.le_refl _, h⟩
theorem normF_bud (B : Int) : ∀ (r : List PN) (L : List SemS) (S : Int) (o : Bool), S ≤ B → ∃ S' o', (normF r L (some (B, S, o))).1 = some (B, S', o') ∧ S ≤ S' ∧ S' ≤ B
  | [], _, S, o, h => ⟨S, o, rfl, Int.le_refl _, h⟩
  | x :: r, L, S, o, h => by
    have h1 := spendS_range o 1 h
    obtain ⟨S1, o1, e1, l1, l2⟩ := nodeF_bud x L B (spendS B S o 1) (spendO B S o 1) h1.2
    have e2 : (nodeF x L (spendM (some (B, S, o)) 1).1).1 = some (B, S1, o1) := e1
    rw [normF]
    split
    · split
      · rw [e2]
        obtain ⟨S2, o2, e3, l3, l4⟩ := normF_bud B r (L ++ [(nodeF x L (spendM (some (B, S, o)) 1).1).2.1]) S1 o1 l2
        exact ⟨S2, o2, e3, by omega, l4⟩
      · exact ⟨S1, o1, e2, by omega, l2⟩
    · exact ⟨_, _, rfl, h1.1, h1.2⟩
theorem normS_bud (B S : Int) (o : Bool) (h : S ≤ B) (p : List PN) (tags : Int) : ∃ S' o', (normS (some (B, S, o)) p tags).1 = some (B, S', o') ∧ S ≤ S' ∧ S' ≤ B := by
  unfold normS
  split
  · exact normF_bud B p [] S o h
  · exact ⟨S, o, rfl, Int.le_refl _, h⟩
/-- One node, laid. -/
theorem pat_lit (w : World) (x : PN) (t : TypeId) : Rd patT (w.alloc (.cells #[.int .i64 x.k, .int .i64 x.a, .int .i64 x.b, .int .i64 x.n, .string x.s] t)) All (some ⟨w.heap.size, 0, none⟩) 1 [x] := by
  have hc := heap_alloc_new w (.cells #[.int .i64 x.k, .int .i64 x.a, .int .i64 x.b, .int .i64 x.n, .string x.s] t)
  refine ⟨by simp, by decide, fun j y hj => ?_⟩
  rcases j with _ | j
  · obtain rfl : x = y := by simpa using hj
    refine ⟨_, [.int .i64 x.k, .int .i64 x.a, .int .i64 x.b, .int .i64 x.n, .string x.s], rfl, trivial, rfl, fun i u hu => ?_⟩
    rw [add_plain, cellAt hc, show 0 * patT.sz + i = i by omega]
    rcases i with _ | _ | _ | _ | _ | i
    · exact hu
    · exact hu
    · exact hu
    · exact hu
    · exact hu
    · simp at hu
  · simp at hj
theorem norm_ex1 : normS none [⟨1, 0, 0, 0, ⟨#[]⟩⟩] 0 = (none, [], 0) := by rfl
theorem norm_ex2 : normS none [⟨3, 1, 0, 0, ⟨#[]⟩⟩] 1 = (none, [([1], [])], 0) := by rfl
end Go.Cb
