/- Plain laws: what numbers make is a pattern. -/
import Derived.Test.YtfkopkjioohgoaaMG
set_option linter.unusedVariables false
set_option linter.unusedSimpArgs false
set_option linter.all false
namespace Go.Cb
/-- The state behind these nodes. -/
def runP (tags : Int) : Nat → List PN → List Int → List Bool → Option (List Int × List Bool)
  | _, [], op, st => some (op, st)
  | i, x :: r, op, st => match stepP tags i x op st with
    | none => none
    | some s => runP tags (i + 1) r s.1 s.2
theorem goP_run {tags : Int} : ∀ (r : List PN) (i : Nat) (op : List Int) (st : List Bool) (s : List Int × List Bool), runP tags i r op st = some s → goP tags i r op st = decide (s.1.length = 1)
  | [], _, _, _, _, h => by rw [runP] at h; cases h; rfl
  | x :: r, i, op, st, s, h => by
    rw [runP] at h
    rw [goP]
    cases hs : stepP tags i x op st with
    | none => rw [hs] at h; cases h
    | some s1 => rw [hs] at h; exact goP_run r (i + 1) s1.1 s1.2 s h
theorem runP_snoc {tags : Int} {y : PN} : ∀ (r : List PN) (i : Nat) (op : List Int) (st : List Bool) (s s' : List Int × List Bool), runP tags i r op st = some s → stepP tags (i + r.length) y s.1 s.2 = some s' → runP tags i (r ++ [y]) op st = some s'
  | [], i, op, st, s, s', h, h2 => by
    rw [runP] at h
    cases h
    rw [List.nil_append, runP]
    rw [List.length_nil, Nat.add_zero] at h2
    dsimp only at h2
    rw [h2]
    rfl
  | x :: r, i, op, st, s, s', h, h2 => by
    rw [runP] at h
    rw [List.cons_append, runP]
    cases hs : stepP tags i x op st with
    | none => rw [hs] at h; cases h
    | some s1 =>
      rw [hs] at h
      exact runP_snoc r (i + 1) s1.1 s1.2 s s' h (by rw [show i + 1 + r.length = i + (x :: r).length by rw [List.length_cons]; omega]; exact h2)
/-- A pattern under way is one so far. -/
def RunOk (x : PS) : Prop := ∀ m, runP 4 0 x.p [] (List.replicate (x.p.length + m) false) = some (x.o, x.s ++ List.replicate m false)
theorem rep_off (s : List Bool) (m : Nat) : s ++ List.replicate (m + 1) false = (s ++ [false]) ++ List.replicate m false := by
  rw [List.replicate_succ, List.append_assoc]; rfl
theorem rep_set {s : List Bool} {n : Nat} (h : s.length = n) (m : Nat) (b : Bool) : (s ++ List.replicate (m + 1) false).set n b = (s ++ [b]) ++ List.replicate m false := by
  subst h
  rw [List.set_append_right _ _ (Nat.le_refl _), Nat.sub_self, List.replicate_succ, List.set_cons_zero, List.append_assoc]
  rfl
theorem rep_get (s : List Bool) (m : Nat) (v : Int) : (s ++ List.replicate m false).getD v.toNat false = s.getD v.toNat false := by
  rw [List.getD_eq_getElem?_getD, List.getD_eq_getElem?_getD]
  by_cases h : v.toNat < s.length
  · rw [List.getElem?_append_left h]
  · rw [List.getElem?_append_right (by omega), List.getElem?_replicate, List.getElem?_eq_none (by omega)]
    split <;> rfl
theorem RunOk.add {x : PS} (h : RunOk x) {y : PN} {take : Nat} {b : Bool} (hs : ∀ m, stepP 4 x.p.length y x.o (x.s ++ List.replicate (m + 1) false) = some (x.o.take (x.o.length - take) ++ [(x.p.length : Int)], (x.s ++ [b]) ++ List.replicate m false)) : RunOk (x.add y take b) := fun m => by
  have h1 := h (m + 1)
  have h2 := hs m
  show runP 4 0 (x.p ++ [y]) [] (List.replicate ((x.p ++ [y]).length + m) false) = _
  rw [show (x.p ++ [y]).length + m = x.p.length + (m + 1) by rw [List.length_append, List.length_singleton]; omega]
  exact runP_snoc x.p 0 [] _ _ _ h1 (by rw [Nat.zero_add]; exact h2)
theorem RunOk.two {x : PS} (h : RunOk x) (ho : PSok x) (h2 : 2 ≤ x.o.length) {k : Int} (hk : k = 0 ∨ k = 1) : RunOk (x.two k) := by
  refine h.add fun m => ?_
  have k4 : (4 + k = 4) ∨ (4 + k = 5) := by omega
  unfold stepP pn PS.ta PS.tb PS.st
  dsimp only
  rw [if_neg (by omega), if_neg (by omega), if_pos k4, if_neg (by omega), rep_set ho.lens, rep_get, rep_get]
theorem RunOk.step {x : PS} (h : RunOk x) (ho : PSok x) (n : Int) : RunOk (stepPl x n) := by
  unfold stepPl
  split
  · rename_i h1
    exact h.two ho h1.2 (by split <;> omega)
  · split
    · rename_i h1
      refine h.add fun m => ?_
      have h3 : x.s.getD (x.o.getD (x.o.length - 1) 0).toNat false = false := h1.2.2
      unfold stepP pn PS.tb
      dsimp only
      rw [if_neg (by omega), if_neg (by omega), if_neg (by omega), if_pos rfl, rep_get, h3, if_neg (by
        rintro (h | h | h | h | h)
        · have := h1.2.1; omega
        · exact h rfl
        · exact h rfl
        · exact h rfl
        · cases h), rep_set ho.lens]
    · split
      · refine h.add fun m => ?_
        unfold stepP pn
        dsimp only
        rw [if_pos (by omega), if_neg (by omega), rep_off, Nat.sub_zero, List.take_length]
      · split
        · refine h.add fun m => ?_
          unfold stepP pn
          dsimp only
          rw [if_pos (by omega), if_neg (by omega), rep_off, Nat.sub_zero, List.take_length]
        · refine h.add fun m => ?_
          have hw := withinI_range (v := n.tdiv 64) (n := 4) (by decide)
          have hm : 1 ≤ manyN n ∧ manyN n ≤ 5 := by
            have := withinI_range (v := n.tdiv 16) (n := 5) (by decide)
            unfold manyN
            split <;> omega
          unfold stepP pn
          dsimp only
          rw [if_neg (by omega), if_pos rfl, if_neg (by omega), rep_off, Nat.sub_zero, List.take_length]
theorem stepPl_ok {x : PS} (ho : PSok x) (n : Int) : PSok (stepPl x n) := by
  obtain ⟨y, take, b, e, _, _⟩ := stepPl_cases x n
  rw [e]; exact ho.add _ _ _
theorem goPl_run : ∀ (l : List Int) (x : PS), RunOk x → PSok x → RunOk (goPl l x)
  | [], _, h, _ => h
  | n :: r, x, h, ho => by
    rw [goPl]
    split
    · exact h
    · exact goPl_run r _ (h.step ho n) (stepPl_ok ho n)
theorem onePl_run {x : PS} (h : RunOk x) : RunOk (onePl x) := by
  unfold onePl
  split
  · refine h.add fun m => ?_
    unfold stepP pn
    dsimp only
    rw [if_pos (by omega), if_neg (by omega), rep_off, Nat.sub_zero, List.take_length]
  · exact h
theorem joinPl_run (l : List Int) : ∀ (f i : Nat) (x : PS), RunOk x → PSok x → x.o.length = f + 1 → RunOk (joinPl l f i x) ∧ (joinPl l f i x).o.length = 1
  | 0, _, x, h, _, hf => ⟨h, hf⟩
  | f + 1, i, x, h, ho, hf => by
    have hw := withinI_range (v := l.getD i 0) (n := 2) (by omega)
    obtain ⟨h1, h2⟩ := two_lens (x := x) (by omega) (withinI (l.getD i 0) 2)
    unfold joinPl
    exact joinPl_run l f (i + 1) _ (h.two ho (by omega) (by omega)) (ho.add _ _ _) (by omega)
/-- What numbers make is a pattern of four tags. -/
theorem playPat_chk (l : List Int) : chkP (playPat l) 4 = true := by
  have o0 : PSok ⟨[], [], []⟩ := ⟨rfl, fun v hv => by simp at hv, Nat.le_refl _, fun h => by simp at h⟩
  have r0 : RunOk ⟨[], [], []⟩ := fun m => by
    show some (([] : List Int), List.replicate (0 + m) false) = some ([], [] ++ List.replicate m false)
    rw [Nat.zero_add, List.nil_append]
  have h0 : PSlaw l.length ⟨[], [], []⟩ := ⟨fun y hy => by simp at hy, fun j y hj => by simp at hj⟩
  obtain ⟨a1, a2, a3⟩ := goPl_law l ⟨[], [], []⟩ h0 o0 (by simp) (by simp)
  obtain ⟨b1, b2, b3, b4⟩ := onePl_law a1 a2 a3
  have r1 := onePl_run (goPl_run l _ r0 o0)
  obtain ⟨r2, l2⟩ := joinPl_run l ((onePl (goPl l ⟨[], [], []⟩)).o.length - 1) 0 _ r1 b2 (by omega)
  obtain ⟨_, c1, c2⟩ := playPat_law l
  rw [chkP_go c1 c2]
  have h9 := r2 0
  rw [Nat.add_zero] at h9
  have h8 := goP_run (tags := 4) (playPat l) 0 [] (List.replicate (playPat l).length false) _ h9
  rw [h8]
  exact decide_eq_true l2
end Go.Cb
