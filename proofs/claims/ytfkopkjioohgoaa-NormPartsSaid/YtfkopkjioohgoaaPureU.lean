/- Plain laws: two patterns in one: the answer is both answers together. -/
import Derived.Test.YtfkopkjioohgoaaPureF
import Derived.Test.YtfkopkjioohgoaaPureQ
import Derived.Test.YtfkopkjioohgoaaPureM
import Derived.Test.YtfkopkjioohgoaaPureL
set_option linter.unusedVariables false
set_option linter.unusedSimpArgs false
set_option linter.all false
namespace Go.Cb
/-- A node whose places lie m further. -/
def shN (m : Int) (x : PN) : PN := if 4 ≤ x.k then ⟨x.k, x.a + m, if x.k = 6 then x.b else x.b + m, x.n, x.s⟩ else x
theorem shN_lo {m : Int} {x : PN} (h : ¬ 4 ≤ x.k) : shN m x = x := if_neg h
theorem shN_star {m : Int} {x : PN} (h : x.k = 6) : shN m x = ⟨x.k, x.a + m, x.b, x.n, x.s⟩ := by unfold shN; rw [if_pos (by omega), if_pos h]
theorem shN_two {m : Int} {x : PN} (h : 4 ≤ x.k) (h6 : x.k ≠ 6) : shN m x = ⟨x.k, x.a + m, x.b + m, x.n, x.s⟩ := by unfold shN; rw [if_pos h, if_neg h6]
theorem getD_off {o0 op : List Int} {m : Int} {j : Nat} (h : j ≤ op.length) (h1 : 1 ≤ j) : (o0 ++ op.map (· + m)).getD ((o0 ++ op.map (· + m)).length - j) 0 = op.getD (op.length - j) 0 + m := by
  rw [List.getD_eq_getElem?_getD, List.length_append, List.length_map, List.getElem?_append_right (by omega), show o0.length + op.length - j - o0.length = op.length - j by omega, List.getElem?_map, List.getD_eq_getElem?_getD, List.getElem?_eq_getElem (by omega)]
  rfl
theorem take_off {o0 op : List Int} {m : Int} {j : Nat} (h : j ≤ op.length) : (o0 ++ op.map (· + m)).take ((o0 ++ op.map (· + m)).length - j) = o0 ++ (op.take (op.length - j)).map (· + m) := by
  rw [List.length_append, List.length_map, List.take_append, List.take_of_length_le (by omega), show o0.length + op.length - j - o0.length = op.length - j by omega, List.map_take]
theorem get_off {s0 st : List Bool} {v : Int} (h : 0 ≤ v) : (s0 ++ st).getD (v + (s0.length : Int)).toNat false = st.getD v.toNat false := by
  rw [List.getD_eq_getElem?_getD, List.getElem?_append_right (by omega), show (v + (s0.length : Int)).toNat - s0.length = v.toNat by omega, List.getD_eq_getElem?_getD]
theorem set_off {s0 st : List Bool} {i : Nat} {v : Bool} : (s0 ++ st).set (s0.length + i) v = s0 ++ st.set i v := by
  rw [List.set_append_right _ _ (by omega), show s0.length + i - s0.length = i by omega]
theorem step_off {tags : Int} {i n : Nat} {x : PN} {op o0 : List Int} {st s0 : List Bool} {s : List Int × List Bool} (h : stepP tags i x op st = some s) (ho : OkP i n op st) :
    stepP tags (s0.length + i) (shN s0.length x) (o0 ++ op.map (· + (s0.length : Int))) (s0 ++ st) = some (o0 ++ s.1.map (· + (s0.length : Int)), s0 ++ s.2) := by
  have hi : ((s0.length + i : Nat) : Int) = (i : Int) + (s0.length : Int) := by omega
  have hmem : ∀ j, 1 ≤ j → j ≤ op.length → 0 ≤ op.getD (op.length - j) 0 := fun j h1 h2 => by
    rw [List.getD_eq_getElem?_getD, List.getElem?_eq_getElem (by omega)]
    exact (ho.below _ (List.getElem_mem _)).1
  by_cases k4 : 4 ≤ x.k
  · by_cases k6 : x.k = 6
    · rw [shN_star k6]
      unfold stepP at *
      dsimp only at *
      rw [if_neg (by omega), if_neg (by omega), if_neg (by omega), if_pos k6] at *
      split at h
      · cases h
      · rename_i hc
        cases h
        have h1 : 1 ≤ op.length := by omega
        have ha : op.getD (op.length - 1) 0 = x.a := by
          by_cases e : op.getD (op.length - 1) 0 = x.a
          · exact e
          · exact absurd (.inr (.inr (.inr (.inl e)))) hc
        have hp := hmem 1 (Nat.le_refl _) h1
        rw [if_neg (by
          rintro (e | e | e | e | e)
          · rw [List.length_append, List.length_map] at e; omega
          · exact hc (.inr (.inl e))
          · exact hc (.inr (.inr (.inl e)))
          · rw [getD_off h1 (Nat.le_refl _)] at e; omega
          · rw [get_off (by omega)] at e; exact hc (.inr (.inr (.inr (.inr e)))))]
        dsimp only
        rw [take_off h1, set_off, hi, List.map_append, List.append_assoc]
        rfl
    · rw [shN_two k4 k6]
      unfold stepP at *
      dsimp only at *
      rw [if_neg (by omega), if_neg (by omega)] at *
      split at h
      · rename_i k45
        split at h
        · cases h
        · rename_i hc
          cases h
          have h2 : 2 ≤ op.length := by omega
          have hb : op.getD (op.length - 1) 0 = x.b := by
            by_cases e : op.getD (op.length - 1) 0 = x.b
            · exact e
            · exact absurd (.inr (.inr (.inl e))) hc
          have ha : op.getD (op.length - 2) 0 = x.a := by
            by_cases e : op.getD (op.length - 2) 0 = x.a
            · exact e
            · exact absurd (.inr (.inr (.inr e))) hc
          have p1 := hmem 1 (Nat.le_refl _) (by omega)
          have p2 := hmem 2 (by omega) h2
          rw [if_pos k45, if_neg (by
            rintro (e | e | e | e)
            · rw [List.length_append, List.length_map] at e; omega
            · exact hc (.inr (.inl e))
            · rw [getD_off (by omega) (Nat.le_refl _)] at e; omega
            · rw [getD_off h2 (by omega)] at e; omega)]
          dsimp only
          rw [take_off h2, get_off (by omega), get_off (by omega), set_off, hi, List.map_append, List.append_assoc]
          rfl
      · first | cases h | (rw [if_neg (by omega)] at h; cases h)
  · rw [shN_lo k4]
    unfold stepP at *
    split at h
    · rename_i k1
      split at h
      · cases h
      · rename_i hc
        cases h
        rw [if_pos k1, if_neg hc, hi]
        simp
    · rename_i k1
      split at h
      · rename_i k3
        split at h
        · cases h
        · rename_i hc
          cases h
          rw [if_neg k1, if_pos k3, if_neg hc, hi]
          simp
      · rw [if_neg (by omega), if_neg (by omega)] at h
        cases h
theorem run_off {tags : Int} {n : Nat} {o0 : List Int} {s0 : List Bool} : ∀ (r : List PN) (i : Nat) (op : List Int) (st : List Bool) (s : List Int × List Bool), runP tags i r op st = some s → OkP i n op st →
    runP tags (s0.length + i) (r.map (shN s0.length)) (o0 ++ op.map (· + (s0.length : Int))) (s0 ++ st) = some (o0 ++ s.1.map (· + (s0.length : Int)), s0 ++ s.2)
  | [], _, _, _, _, h, _ => by
    rw [runP] at h
    cases h
    rfl
  | x :: r, i, op, st, s, h, ho => by
    rw [runP] at h
    rw [List.map_cons, runP]
    cases hs : stepP tags i x op st with
    | none => rw [hs] at h; cases h
    | some s1 =>
      rw [hs] at h
      rw [step_off (o0 := o0) hs ho]
      exact run_off r (i + 1) s1.1 s1.2 s h (stepP_ok hs ho)
theorem runP_append {tags : Int} {q : List PN} : ∀ (r : List PN) (i : Nat) (op : List Int) (st : List Bool) (s : List Int × List Bool), runP tags i r op st = some s → runP tags i (r ++ q) op st = runP tags (i + r.length) q s.1 s.2
  | [], i, op, st, s, h => by
    rw [runP] at h
    cases h
    rfl
  | x :: r, i, op, st, s, h => by
    rw [runP] at h
    rw [List.cons_append, runP]
    cases hs : stepP tags i x op st with
    | none => rw [hs] at h; cases h
    | some s1 =>
      rw [hs] at h
      show runP tags (i + 1) (r ++ q) s1.1 s1.2 = _
      rw [runP_append r (i + 1) s1.1 s1.2 s h, List.length_cons]
      congr 1
      omega
theorem getL_off {L0 L : List SemS} {v : Int} (h : 0 ≤ v) : (L0 ++ L).getD (v + (L0.length : Int)).toNat [] = L.getD v.toNat [] := by
  rw [List.getD_eq_getElem?_getD, List.getElem?_append_right (by omega), show (v + (L0.length : Int)).toNat - L0.length = v.toNat by omega, List.getD_eq_getElem?_getD]
theorem nodeF_off {L0 L : List SemS} {x : PN} {st : MSt} (hf : NodeFit x L st) : nodeF (shN L0.length x) (L0 ++ L) st = nodeF x L st := by
  by_cases k4 : 4 ≤ x.k
  · have n2 : ¬ x.k = 2 := by omega
    have n3 : ¬ x.k = 3 := by omega
    by_cases k6 : x.k = 6
    · have ha := hf.a (by omega)
      have n4 : ¬ x.k = 4 := by omega
      have n5 : ¬ x.k = 5 := by omega
      rw [shN_star k6]
      unfold nodeF
      dsimp only
      simp only [if_neg n2, if_neg n3, if_neg n4, if_neg n5, if_pos k6, getL_off ha.1]
    · rw [shN_two k4 k6]
      unfold nodeF
      dsimp only
      by_cases k45 : x.k = 4 ∨ x.k = 5
      · have ha := hf.a (by omega)
        have hb := hf.b k45
        simp only [if_neg n2, if_neg n3, if_neg k6, getL_off ha.1, getL_off hb.1]
      · have n4 : ¬ x.k = 4 := by omega
        have n5 : ¬ x.k = 5 := by omega
        simp only [if_neg n2, if_neg n3, if_neg n4, if_neg n5, if_neg k6]
  · have n4 : ¬ x.k = 4 := by omega
    have n5 : ¬ x.k = 5 := by omega
    have n6 : ¬ x.k = 6 := by omega
    rw [shN_lo k4]
    unfold nodeF
    simp only [if_neg n4, if_neg n5, if_neg n6]
theorem all_off {L0 : List SemS} : ∀ (r : List PN) (L : List SemS), NormFit r L none → (normF r L none).2.2 = 0 → (normF (r.map (shN L0.length)) (L0 ++ L) none).2.2 = 0 ∧ allF (r.map (shN L0.length)) (L0 ++ L) = L0 ++ allF r L
  | [], _, _, _ => ⟨rfl, rfl⟩
  | x :: r, L, hf, h => by
    have h1 : (nodeF x L (spendM none 1).1).1 = none := nodeF_none x L
    obtain ⟨f1, f2⟩ := hf rfl
    rw [normF, if_pos (show (spendM none 1).2 = true from rfl)] at h
    by_cases he : (nodeF x L (spendM none 1).1).2.2 = 0
    · rw [if_pos he, h1] at h
      have f3 := f2 he
      rw [h1] at f3
      obtain ⟨a1, a2⟩ := all_off r _ f3 h
      have hn : nodeF (shN L0.length x) (L0 ++ L) none = nodeF x L none := nodeF_off f1
      rw [List.map_cons, normF, if_pos (show (spendM none 1).2 = true from rfl), show (spendM none 1).1 = none from rfl, hn]
      rw [if_pos (show (nodeF x L none).2.2 = 0 from he), show (nodeF x L none).1 = none from h1, List.append_assoc]
      refine ⟨a1, ?_⟩
      rw [allF, allF, hn, List.append_assoc]
      exact a2
    · rw [if_neg he] at h
      exact absurd h he
theorem pat_set (l : List Int) : ∃ s, normF (playPat l) [] none = (none, s, 0) ∧ normS none (playPat l) 4 = (none, s, 0) ∧ NormFit (playPat l) [] none ∧ SetOk 4 (999999999 * 24) 24 (perB 24) true s ∧ s = (allF (playPat l) []).getD ((playPat l).length - 1) [] := by
  have hc := playPat_chk l
  have hg := hc
  unfold chkP at hg
  simp only [Bool.and_eq_true, decide_eq_true_eq] at hg
  have hok := norm_ok (e := 999999999) hc (by decide) 24 (Nat.le_refl _) (by decide) (by decide) (fun j x hj _ => by have := (List.getElem?_eq_some_iff.1 hj).1; omega) (fun x hx h3 => chk_tag hg.2 x hx h3) none
  have hcode : (normF (playPat l) [] none).2.2 = 0 := by
    rcases hok.2.1 with h | h
    · exact h
    · exact absurd rfl h.2
  have hs := (normF_append (playPat l) [] [] hcode).2
  have hl : (allF (playPat l) []).length = (playPat l).length := by rw [allF_len]; simp
  have h1 := (hok.2.2.1 hcode).1
  rw [hl] at hs
  rw [hs] at h1
  refine ⟨_, hs, ?_, hok.1, h1, rfl⟩
  unfold normS
  rw [if_pos ⟨by decide, by decide, hc⟩, hs]
/-- Two patterns, and a node that joins them. -/
def joinP (k : Int) (p q : List PN) : List PN := (p ++ q.map (shN p.length)) ++ [⟨k, (p.length : Int) - 1, ((p.length : Int) + q.length) - 1, 0, ⟨#[]⟩⟩]
theorem joinP_chk {k : Int} (hk : k = 4 ∨ k = 5) (a b : List Int) (h24 : (playPat a).length + (playPat b).length + 1 ≤ 24) : chkP (joinP k (playPat a) (playPat b)) 4 = true := by
  obtain ⟨_, c1, _⟩ := playPat_law a
  obtain ⟨_, d1, _⟩ := playPat_law b
  obtain ⟨e1, e2⟩ := playPat_end a
  obtain ⟨f1, f2⟩ := playPat_end b
  have lens : ∀ l, (playPS l).s.length = (playPat l).length := fun l => by
    have h := (playPat_end l).2 0
    have o0 : PSok ⟨[], [], []⟩ := ⟨rfl, fun v hv => by simp at hv, Nat.le_refl _, fun h => by simp at h⟩
    have h0 : PSlaw l.length ⟨[], [], []⟩ := ⟨fun y hy => by simp at hy, fun j y hj => by simp at hj⟩
    obtain ⟨a1, a2, a3⟩ := goPl_law l ⟨[], [], []⟩ h0 o0 (by simp) (by simp)
    obtain ⟨b1, b2, b3, b4⟩ := onePl_law a1 a2 a3
    exact (joinPl_law l _ 0 _ b1 b2 (by omega)).2.1.lens
  have la := lens a
  have hlen : (joinP k (playPat a) (playPat b)).length = (playPat a).length + (playPat b).length + 1 := by
    unfold joinP
    rw [List.length_append, List.length_append, List.length_map, List.length_singleton]
  rw [chkP_go (by omega) (by omega), hlen]
  have r1 := e2 ((playPat b).length + 1)
  have r2 := f2 1
  have ok0 : OkP 0 ((playPat b).length + 1) [] (List.replicate ((playPat b).length + 1) false) := ⟨Nat.le_refl _, fun v hv => by simp at hv, by simp⟩
  have r3 := run_off (o0 := (playPS a).o) (s0 := (playPS a).s) _ 0 [] _ _ r2 ok0
  rw [List.map_nil, List.append_nil, Nat.add_zero, la] at r3
  have r4 := runP_append (q := (playPat b).map (shN ((playPat a).length : Int))) _ 0 [] _ _ r1
  rw [Nat.zero_add] at r4
  have r5 := r4.trans r3
  have r6 := runP_snoc (y := ⟨k, ((playPat a).length : Int) - 1, (((playPat a).length : Int) + (playPat b).length) - 1, 0, ⟨#[]⟩⟩) _ 0 [] _ _ _ r5 (by
    unfold stepP
    dsimp only
    rw [e1, f1, if_neg (by omega), if_neg (by omega), if_pos hk, if_neg (by
      rintro (h | h | h | h)
      · simp at h
      · exact h rfl
      · simp at h; omega
      · simp at h)])
  have r7 := goP_run _ 0 [] _ _ r6
  have r8 : goP 4 0 (joinP k (playPat a) (playPat b)) [] (List.replicate ((playPat a).length + ((playPat b).length + 1)) false) = decide _ := r7
  rw [Nat.add_assoc, r8]
  refine decide_eq_true ?_
  simp
theorem parts_law (a b : List Int) : ∃ s t c, normS none (playPat a) 4 = (none, s, 0) ∧ normS none (playPat b) 4 = (none, t, 0) ∧ catS none s t = (none, c, 0) ∧ SetOk 4 (999999999 * 24) 24 (perB 24) true s ∧ SetOk 4 (999999999 * 24) 24 (perB 24) true t ∧ rightS c = true ∧
    ((playPat a).length + (playPat b).length + 1 ≤ 24 → normS none (joinP 4 (playPat a) (playPat b)) 4 = (none, unionS s t, 0) ∧ normS none (joinP 5 (playPat a) (playPat b)) 4 = (none, c, 0)) := by
  obtain ⟨s, s1, s2, _, s3, s4⟩ := pat_set a
  obtain ⟨t, t1, t2, tf, t3, t4⟩ := pat_set b
  obtain ⟨c, c1, c2, _⟩ := cat_none s3 t3 (by decide) (by decide) (by decide) (by decide) (by decide)
  refine ⟨s, t, c, s2, t2, c1, s3, t3, c2.right, fun h24 => ?_⟩
  obtain ⟨_, la1, _⟩ := playPat_law a
  obtain ⟨_, lb1, _⟩ := playPat_law b
  have la : (allF (playPat a) []).length = (playPat a).length := by rw [allF_len]; simp
  have lb : (allF (playPat b) []).length = (playPat b).length := by rw [allF_len]; simp
  obtain ⟨o1, o2⟩ := all_off (L0 := allF (playPat a) []) (playPat b) [] tf (by rw [t1])
  rw [List.append_nil, la] at o1 o2
  have hF : ∀ z : PN, normF ((playPat a ++ (playPat b).map (shN ((playPat a).length : Int))) ++ [z]) [] none = normF [z] (allF (playPat a) [] ++ allF (playPat b) []) none := fun z => by
    rw [List.append_assoc, (normF_append (playPat a) _ [] (by rw [s1])).1, (normF_append _ [z] _ o1).1, o2]
  have hA : (allF (playPat a) [] ++ allF (playPat b) []).getD (((playPat a).length : Int) - 1).toNat [] = s := by
    rw [List.getD_eq_getElem?_getD, List.getElem?_append_left (by omega), ← List.getD_eq_getElem?_getD, s4]
    congr 1
    omega
  have hB : (allF (playPat a) [] ++ allF (playPat b) []).getD ((((playPat a).length : Int) + (playPat b).length) - 1).toNat [] = t := by
    rw [List.getD_eq_getElem?_getD, List.getElem?_append_right (by omega), ← List.getD_eq_getElem?_getD, t4]
    congr 1
    omega
  have hN : ∀ (k : Int) (u : SemS), (k = 4 ∨ k = 5) → nodeF ⟨k, ((playPat a).length : Int) - 1, (((playPat a).length : Int) + (playPat b).length) - 1, 0, ⟨#[]⟩⟩ (allF (playPat a) [] ++ allF (playPat b) []) none = (none, u, 0) → normS none (joinP k (playPat a) (playPat b)) 4 = (none, u, 0) := fun k u hk hn => by
    unfold normS
    rw [if_pos ⟨by decide, by decide, joinP_chk hk a b h24⟩]
    unfold joinP
    rw [hF, normF, if_pos (show (spendM none 1).2 = true from rfl), show (spendM none 1).1 = none from rfl, hn, if_pos rfl, normF]
    rw [List.getD_eq_getElem?_getD, List.length_append (bs := [u]), List.length_singleton, Nat.add_sub_cancel, List.getElem?_append_right (Nat.le_refl _), Nat.sub_self]
    rfl
  refine ⟨hN 4 _ (.inl rfl) ?_, hN 5 _ (.inr rfl) ?_⟩
  · unfold nodeF
    dsimp only
    rw [if_neg (by decide), if_neg (by decide), if_pos rfl, hA, hB]
  · unfold nodeF
    dsimp only
    rw [if_neg (by decide), if_neg (by decide), if_neg (by decide), if_pos rfl, hA, hB, c1]
end Go.Cb
