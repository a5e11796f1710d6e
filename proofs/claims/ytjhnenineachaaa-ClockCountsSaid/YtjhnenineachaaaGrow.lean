/- The library: regions that draw their order, whose first operations only read or make memory of their own, and whose others follow one another: one walk an operation. -/
import Derived.Test.YtjhnenineachaaaLib4
import Derived.StillTail
set_option linter.unusedVariables false
set_option linter.unusedSimpArgs false
set_option linter.all false
namespace Go.Cb
open Go

def cntU (listed : Array Bool) : Nat → Nat
  | 0 => 0
  | n + 1 => cntU listed n + (if listed.getD n false = true then 0 else 1)
theorem cntU_zero {listed : Array Bool} : ∀ {n : Nat}, cntU listed n = 0 → ∀ i, i < n → listed.getD i false = true
  | n + 1, h, i, hi => by
    unfold cntU at h
    by_cases e : i = n
    · subst e
      by_cases hh : listed.getD i false = true
      · exact hh
      · rw [if_neg hh] at h; omega
    · exact cntU_zero (n := n) (by omega) i (by omega)
theorem getD_set_neF {listed : Array Bool} {i j : Nat} (h : i ≠ j) : (listed.setIfInBounds i true).getD j false = listed.getD j false := by
  simp [Array.getElem?_setIfInBounds_ne h]
theorem getD_set_eq {listed : Array Bool} {i : Nat} (h : i < listed.size) : (listed.setIfInBounds i true).getD i false = true := by
  simp [h]
theorem cntU_other {listed : Array Bool} {i : Nat} : ∀ {n : Nat}, n ≤ i → cntU (listed.setIfInBounds i true) n = cntU listed n
  | 0, _ => rfl
  | n + 1, h => by
    unfold cntU
    rw [cntU_other (by omega), getD_set_neF (by omega)]
theorem cntU_set {listed : Array Bool} {i : Nat} (hs : i < listed.size) (hu : listed.getD i false = false) : ∀ {n : Nat}, i < n → cntU (listed.setIfInBounds i true) n + 1 = cntU listed n
  | n + 1, hi => by
    unfold cntU
    by_cases e : i = n
    · subst e
      rw [cntU_other (Nat.le_refl _), getD_set_eq hs, hu]
      simp
    · have := cntU_set hs hu (n := n) (by omega)
      rw [getD_set_neF e]
      omega
theorem cntU_none : ∀ (n m : Nat), cntU (Array.replicate m false) n = n
  | 0, _ => rfl
  | n + 1, m => by
    unfold cntU
    rw [cntU_none n m, getD_replicate_false]
    simp
/-- The least that is not yet carried out. -/
theorem least_un {listed : Array Bool} : ∀ (n : Nat), cntU listed n ≠ 0 → ∃ i, i < n ∧ listed.getD i false = false ∧ ∀ j, j < i → listed.getD j false = true
  | 0, h => absurd rfl h
  | n + 1, h => by
    by_cases h0 : cntU listed n = 0
    · refine ⟨n, by omega, ?_, fun j hj => cntU_zero h0 j hj⟩
      unfold cntU at h
      rw [h0] at h
      by_cases e : listed.getD n false = true
      · rw [if_pos e] at h; exact absurd rfl h
      · simpa using e
    · obtain ⟨i, hi, h1, h2⟩ := least_un n h0
      exact ⟨i, by omega, h1, h2⟩
/-- The first n are done. -/
def headDone (n m : Nat) : Array Bool := (List.replicate n true ++ List.replicate (m - n) false).toArray
theorem headDone_eq {listed : Array Bool} {n m : Nat} (hs : listed.size = m) (hn : n ≤ m) (h1 : ∀ i, i < n → listed.getD i false = true) (h2 : ∀ t, n ≤ t → t < m → listed.getD t true = false) : listed = headDone n m := by
  have : listed.toList = List.replicate n true ++ List.replicate (m - n) false := by
    apply List.ext_getElem
    · simp [hs]; omega
    · intro i hi hi2
      have hi' : i < listed.size := by simpa using hi
      by_cases e : i < n
      · have := h1 i e
        simp [hi'] at this
        rw [List.getElem_append_left (by simp; omega), List.getElem_replicate]
        simpa using this
      · have := h2 i (by omega) (by omega)
        simp [hi'] at this
        rw [List.getElem_append_right (by simp; omega), List.getElem_replicate]
        simpa using this
  unfold headDone
  rw [← this]

/-- May a region be walked so? The first n: each waits but for such as stand ahead of it; all that follows waits for them and goes one by one. -/
def growB (md : Region.Mode) (ops : Array Oper) (n : Nat) : Bool :=
  decide (n < ops.size) && Region.sinkB md ops n && Region.chainB md ops n &&
  ((List.range n).all fun i => ((ops[i]?).map fun o => o.after.all fun e => !Region.binds md e || decide (e.on < i)).getD true) &&
  Region.seqB md ops (ops.size - n) n (headDone n ops.size)

/-- What one of the first n leaves: its value, memory that it made. -/
def growQ (a : Act) (o : Oper) (w1 : World) (φ : Value → Nat → Nat → World → Prop) : Exit → Act → World → Prop :=
  fun ex a' w2 => ex = .normal ∧ ∃ v, a' = a.put o.dst v ∧ Bel w1 w2 ∧ φ v w1.heap.size w2.heap.size w2

section
variable {P : Program} {ops : Array Oper} {md : Region.Mode}
theorem wp_only {o : Oper} {a : Act} {w : World} {K K' : Act → World → Prop} {Q Q' : Exit → Act → World → Prop} (hQ : ∀ ex a w, Q ex a w → ex = .normal) (hK : ∀ a w, K a w → K' a w) (h : o.wp P a w K Q) : o.wp P a w K' Q' := by
  unfold Oper.wp at *
  generalize (execOp a.eval o).run P w = r at *
  cases r with
  | ok n w' =>
    cases n <;> simp only [Oper.upon] at h ⊢
    case enter f args =>
      refine h.mono fun e w'' he => ?_
      cases e with
      | returned v => exact hK _ _ he
      | panicked c => exact absurd (hQ _ _ _ he) (by simp)
      | outgrown => obtain ⟨x, y, hh⟩ := he; exact absurd (hQ _ _ _ hh) (by simp)
    case row r args => exact Rows.mono h (fun _ _ he => hK _ _ he)
    all_goals exact hK _ _ h
  | halt x w' =>
    cases x <;> simp only [Oper.upon] at h ⊢
    exact absurd (hQ _ _ _ h) (by simp)
theorem wpOp_only {i : Nat} {o : Oper} {a : Act} {w : World} {K : Act → World → Prop} {Q Q' : Exit → Act → World → Prop} (hi : ops[i]? = some o) (hQ : ∀ ex a w, Q ex a w → ex = .normal) (hK : ∀ a w, Q .normal a w → K a w) (h : wpList P ops Q [o] a w) : wpOp P ops Q' i K a w := by
  unfold wpList at h
  unfold wpOp
  simp only [hi]
  split at h
  · rename_i hw
    rw [if_pos hw]
    rcases h with h | ⟨_, x, y, hh⟩
    · exact .inl (wp_only hQ (fun a' w' h' => hK a' w' (by unfold wpList at h'; exact h')) h)
    · exact absurd (hQ _ _ _ hh) (by simp)
  · rename_i hw
    rw [if_neg hw]
    unfold wpList at h
    exact hK _ _ h
theorem waits_of {o : Oper} {i : Nat} (hi : ops[i]? = some o) {e : Edge} (he : e ∈ o.after) (hb : Region.binds md e = true) : Region.waitsFor md ops i e.on = true := by
  unfold Region.waitsFor
  rw [hi]
  simp only
  rw [Array.any_eq_true']
  exact ⟨e, he, by simp [hb]⟩

theorem wpAny_grow {n : Nat} {l : List Oper} {Q : Exit → Act → World → Prop} {w : World} (hl : ops = l.toArray) (hB : growB md ops n = true) (fr : (Nat → Value) → Act)
    (hfr : ∀ u i o v, l[i]? = some o → i < n → (fr u).put o.dst v = fr (fun k => if k = i then v else u k))
    (Φ : Nat → Value → Nat → Nat → World → Prop) (hst : ∀ i v lo hi w1 w2, Φ i v lo hi w1 → Bel w1 w2 → Φ i v lo hi w2)
    (hstep : ∀ i o, l[i]? = some o → i < n → ∀ (u : Nat → Value) (ρ : Nat → Nat × Nat) w1, Bel w w1 → (∀ k, Region.waitsFor md ops i k = true → Φ k (u k) (ρ k).1 (ρ k).2 w1) → wpList P ops (growQ (fr u) o w1 (Φ i)) [o] (fr u) w1)
    (htail : ∀ (u : Nat → Value) (ρ : Nat → Nat × Nat) w1, Bel w w1 → (∀ k, k < n → Φ k (u k) (ρ k).1 (ρ k).2 w1 ∧ w.heap.size ≤ (ρ k).1 ∧ (ρ k).1 ≤ (ρ k).2 ∧ (ρ k).2 ≤ w1.heap.size) →
      (∀ i j, i < n → j < n → i ≠ j → (ρ i).2 ≤ (ρ j).1 ∨ (ρ j).2 ≤ (ρ i).1) → wpList P ops Q (l.drop n) (fr u) w1) :
    ∀ (f : Nat) (listed : Array Bool) (u : Nat → Value) (ρ : Nat → Nat × Nat) (w1 : World), HeadInv md ops n listed → cntU listed n = f → Bel w w1 →
      (∀ k, k < n → listed.getD k false = true → Φ k (u k) (ρ k).1 (ρ k).2 w1 ∧ w.heap.size ≤ (ρ k).1 ∧ (ρ k).1 ≤ (ρ k).2 ∧ (ρ k).2 ≤ w1.heap.size) →
      (∀ i j, i < n → j < n → listed.getD i false = true → listed.getD j false = true → i ≠ j → (ρ i).2 ≤ (ρ j).1 ∨ (ρ j).2 ≤ (ρ i).1) →
      wpAny P md ops Q (f + (ops.size - n)) listed (fr u) w1 := by
  unfold growB at hB
  simp only [Bool.and_eq_true, decide_eq_true_eq] at hB
  obtain ⟨⟨⟨⟨hn, hs⟩, hc⟩, hd⟩, hseq⟩ := hB
  have hdep : ∀ i k, i < n → Region.waitsFor md ops i k = true → k < i := fun i k hi hw => by
    obtain ⟨o, ho, e, he, hb, hon⟩ := Region.waitsFor_spec hw
    have h1 := List.all_eq_true.1 hd i (List.mem_range.2 hi)
    rw [ho] at h1
    simp only [Option.map_some, Option.getD_some] at h1
    have h2 := Array.all_eq_true'.1 h1 e he
    simp only [Bool.or_eq_true, Bool.not_eq_true', decide_eq_true_eq] at h2
    rcases h2 with h2 | h2
    · rw [h2] at hb; cases hb
    · omega
  intro f
  induction f with
  | zero =>
    intro listed u ρ w1 inv hcnt hb hΦ hdj
    have hall := cntU_zero hcnt
    have hle := headDone_eq (m := ops.size) inv.size (by omega) hall inv.tail
    have hdl : (l.drop n).length = ops.size - n := by rw [hl]; simp
    have := wpAny_of_seq (P := P) (md := md) (ops := ops) (Q' := Q) (l.drop n) n listed (fr u) w1 (fun j => by rw [hl]; simp) (by rw [hdl, hle]; exact hseq)
      (htail u ρ w1 hb (fun k hk => hΦ k hk (hall k hk)) (fun i j hi hj hij => hdj i j hi hj (hall i hi) (hall j hj) hij))
    rw [hdl] at this
    rwa [Nat.zero_add]
  | succ f ih =>
    intro listed u ρ w1 inv hcnt hb hΦ hdj
    obtain ⟨i0, hi0, hu0, hl0⟩ := least_un n (by omega : cntU listed n ≠ 0)
    have hsz := inv.size
    rw [show f + 1 + (ops.size - n) = (f + (ops.size - n)) + 1 by omega]
    refine ⟨fun h => ?_, fun i hi => ?_⟩
    · exfalso
      have : i0 ∈ Region.ready md ops listed := by
        rw [mem_ready]
        have hlt : i0 < ops.size := by omega
        refine ⟨getD_in (by omega) hu0, ops[i0], Array.getElem?_eq_getElem hlt, fun e he hb => ?_⟩
        exact hl0 _ (hdep i0 e.on hi0 (waits_of (Array.getElem?_eq_getElem hlt) he hb))
      rw [h] at this
      cases this
    · have hin : i < n := by
        rcases Nat.lt_or_ge i n with h | h
        · exact h
        · exact absurd hi (tail_waits hs hc hn inv _ i0 rfl hi0 (getD_in (by omega) hu0) i h)
      obtain ⟨hun, o, ho, hall⟩ := mem_ready.1 hi
      have hlo : l[i]? = some o := by rw [hl] at ho; simpa using ho
      refine wpOp_only ho (fun _ _ _ h => h.1) ?_ (hstep i o hlo hin u ρ w1 hb (fun k hk => ?_))
      · rintro a' w2 ⟨_, v, rfl, hb2, hv⟩
        rw [hfr u i o v hlo hin]
        have hcs := cntU_set (listed := listed) (i := i) (by omega) (getD_both hun) hin
        refine ih _ _ (fun k => if k = i then (w1.heap.size, w2.heap.size) else ρ k) w2 (inv.set hi hin) (by omega) (hb.trans hb2) (fun k hk hlk => ?_) (fun p q hp hq hlp hlq hpq => ?_)
        · by_cases e : k = i
          · subst e
            simp only [if_true]
            exact ⟨hv, hb.size, hb2.size, Nat.le_refl _⟩
          · simp only [if_neg e]
            rw [getD_set_neF (Ne.symm e)] at hlk
            obtain ⟨h1, h2, h3, h4⟩ := hΦ k hk hlk
            exact ⟨hst _ _ _ _ _ _ h1 hb2, h2, h3, Nat.le_trans h4 hb2.size⟩
        · by_cases e1 : p = i
          · subst e1
            have e2 : q ≠ p := Ne.symm hpq
            simp only [if_true, if_neg e2]
            rw [getD_set_neF (Ne.symm e2)] at hlq
            exact .inr (hΦ q hq hlq).2.2.2
          · by_cases e2 : q = i
            · subst e2
              simp only [if_true, if_neg e1]
              rw [getD_set_neF (Ne.symm e1)] at hlp
              exact .inl (hΦ p hp hlp).2.2.2
            · simp only [if_neg e1, if_neg e2]
              rw [getD_set_neF (Ne.symm e1)] at hlp
              rw [getD_set_neF (Ne.symm e2)] at hlq
              exact hdj p q hp hq hlp hlq hpq
      · obtain ⟨o', ho', e, he, hb', hon⟩ := Region.waitsFor_spec hk
        have : o' = o := Option.some.inj (ho'.symm.trans ho)
        subst this
        have h1 := hall e he hb'
        rw [hon] at h1
        exact (hΦ k (by have := hdep i k hin hk; omega) h1).1
end

/-- **The region**: see the head of this text. -/
theorem wp_region_grow {P : Program} {id : Nat} {Q : Exit → Act → World → Prop} {a : Act} {w : World} {l : List Oper} (n : Nat) (hm : P.follows .mixedOrders = true) (hB : growB .any l.toArray n = true) (fr : (Nat → Value) → Act)
    (hfr : ∀ u i o v, l[i]? = some o → i < n → (fr u).put o.dst v = fr (fun k => if k = i then v else u k)) (u0 : Nat → Value) (h0 : a = fr u0)
    (Φ : Nat → Value → Nat → Nat → World → Prop) (hst : ∀ i v lo hi w1 w2, Φ i v lo hi w1 → Bel w1 w2 → Φ i v lo hi w2)
    (hstep : ∀ i o, l[i]? = some o → i < n → ∀ (u : Nat → Value) (ρ : Nat → Nat × Nat) w1, Bel w w1 → (∀ k, Region.waitsFor .any l.toArray i k = true → Φ k (u k) (ρ k).1 (ρ k).2 w1) → wpList P l.toArray (growQ (fr u) o w1 (Φ i)) [o] (fr u) w1)
    (htail : ∀ (u : Nat → Value) (ρ : Nat → Nat × Nat) w1, Bel w w1 → (∀ k, k < n → Φ k (u k) (ρ k).1 (ρ k).2 w1 ∧ w.heap.size ≤ (ρ k).1 ∧ (ρ k).1 ≤ (ρ k).2 ∧ (ρ k).2 ≤ w1.heap.size) →
      (∀ i j, i < n → j < n → i ≠ j → (ρ i).2 ≤ (ρ j).1 ∨ (ρ j).2 ≤ (ρ i).1) → wpList P l.toArray Q (l.drop n) (fr u) w1) :
    (Code.region id l.toArray true).wp P Q a w := by
  refine wp_region_any hm ?_
  subst h0
  have hn : n < l.toArray.size := by
    have := hB
    unfold growB at this
    simp only [Bool.and_eq_true, decide_eq_true_eq] at this
    exact this.1.1.1.1
  have inv0 : HeadInv .any l.toArray n (Array.replicate l.toArray.size false) :=
    ⟨by simp, fun j oj _ hl => (by rw [getD_replicate_false] at hl; cases hl), fun t _ ht => getD_in (by simpa using ht) (getD_replicate_false _ _)⟩
  have := wpAny_grow (P := P) (md := .any) (Q := Q) (w := w) rfl hB fr hfr Φ hst hstep htail n (Array.replicate l.toArray.size false) u0 (fun _ => (0, 0)) { w with drawn := w.drawn + 1 } inv0 (cntU_none _ _) (Bel.refl w).drew
    (fun k _ h => by rw [getD_replicate_false] at h; cases h) (fun i j _ _ h => by rw [getD_replicate_false] at h; cases h)
  rwa [show n + (l.toArray.size - n) = l.toArray.size by omega] at this

/-- What an operation leaves, that stays so while what there is stays as it is: its value, and the blocks that it made (from lo on, below hi). -/
structure SPred where
  φ : Value → Nat → Nat → World → Prop
  st : ∀ v lo hi w1 w2, φ v lo hi w1 → Bel w1 w2 → φ v lo hi w2
/-- This value. -/
def SPred.val (x : Value) : SPred := ⟨fun v _ _ _ => v = x, fun _ _ _ _ _ h _ => h⟩
/-- A slice that reads so, its blocks made by the region (which began when there were b). -/
def SPred.word (b : Nat) (xs : List Int) : SPred := ⟨fun v _ hi w => ∃ A c, v = .slice A xs.length c ∧ RdW w (fun k => b ≤ k ∧ k < hi) A c xs, fun _ _ _ _ _ ⟨A, c, e, h⟩ hb => ⟨A, c, e, h.to hb⟩⟩
/-- A row of one: a word whose blocks were made from b on. -/
def SPred.lit1 (b : Nat) (t : TypeId) (xs : List Int) : SPred :=
  ⟨fun v lo hi w => v = .slice (some ⟨lo, 0, none⟩) 1 1 ∧ b ≤ lo ∧ lo < hi ∧ ∃ A c, w.heap[lo]? = some (.cells #[.slice A xs.length c] t (0, 0)) ∧ RdW w (fun k => b ≤ k ∧ k < lo) A c xs,
    fun _ _ _ w1 w2 ⟨e, h1, h2, A, c, h3, h4⟩ hb => ⟨e, h1, h2, A, c, (hb.block (blk_lt h3)).trans h3, h4.to hb⟩⟩
/-- A linear set (or another pair of a word and words), read alone. -/
def SPred.lin (l : List Int × List (List Int)) : SPred :=
  ⟨fun v lo hi w => ∃ A0 c0 A1 c1, v = .agg #[.slice A0 l.1.length c0, .slice A1 l.2.length c1] ∧ Rd intT w (fun k => lo ≤ k ∧ k < hi) A0 c0 l.1 ∧ Rd bagT w (fun k => lo ≤ k ∧ k < hi) A1 c1 l.2,
    fun _ _ _ _ _ ⟨A0, c0, A1, c1, e, h0, h1⟩ hb => ⟨A0, c0, A1, c1, e, h0.to hb, h1.to hb⟩⟩
/-- A new variable of two cells. -/
def SPred.box (t : TypeId) (a b : Value) : SPred :=
  ⟨fun v lo hi w => v = .pointer (some ⟨lo, 0, none⟩) ∧ lo < hi ∧ Box w t lo a b, fun _ _ _ _ _ ⟨e, h0, h⟩ hb => ⟨e, h0, h.to hb⟩⟩
/-- Nothing is said. -/
def SPred.any : SPred := ⟨fun _ _ _ _ => True, fun _ _ _ _ _ _ _ => trivial⟩

/-- The first operations' slots, whatever they hold. -/
def growFr (l : List Oper) : Nat → Act → (Nat → Value) → Act
  | 0, a, _ => a
  | n + 1, a, u => (growFr l n a u).put ((l[n]?).bind (·.dst)) (u n)
def growSteps (P : Program) (l : List Oper) (n : Nat) (w : World) (a : Act) (Φ : List SPred) : List Oper → Nat → Prop
  | [], _ => True
  | o :: rest, i => (∀ (u : Nat → Value) (ρ : Nat → Nat × Nat) w1, Bel w w1 → (∀ k, Region.waitsFor .any l.toArray i k = true → (Φ.getD k SPred.any).φ (u k) (ρ k).1 (ρ k).2 w1) → wpList P l.toArray (growQ (growFr l n a u) o w1 (Φ.getD i SPred.any).φ) [o] (growFr l n a u) w1) ∧ growSteps P l n w a Φ rest (i + 1)
def growDsts (l : List Oper) (n : Nat) : Bool := (List.range n).all fun i => (List.range n).all fun j => decide (i = j) || ((l[i]?).bind (·.dst)) != ((l[j]?).bind (·.dst))
theorem put_put (a : Act) (d : Option Tmp) (x y : Value) : (a.put d x).put d y = a.put d y := by
  cases d with
  | none => rfl
  | some d => simp [Act.put]
theorem growFr_other {l : List Oper} : ∀ {n : Nat} {a : Act} {u : Nat → Value} {i : Nat} {v : Value}, n ≤ i → growFr l n a (fun k => if k = i then v else u k) = growFr l n a u
  | 0, _, _, _, _, _ => rfl
  | n + 1, a, u, i, v, h => by
    unfold growFr
    rw [growFr_other (by omega)]
    simp only [if_neg (show ¬ n = i by omega)]
theorem growFr_put {l : List Oper} : ∀ {n : Nat} {a : Act} {u : Nat → Value} {i : Nat} {v : Value}, (∀ p q, p < n → q < n → p ≠ q → ((l[p]?).bind (·.dst)) ≠ ((l[q]?).bind (·.dst))) → i < n → (growFr l n a u).put ((l[i]?).bind (·.dst)) v = growFr l n a (fun k => if k = i then v else u k)
  | n + 1, a, u, i, v, hd, hi => by
    unfold growFr
    by_cases e : i = n
    · subst e
      rw [put_put, growFr_other (Nat.le_refl _)]
      simp only [if_true]
    · rw [Act.put_comm _ _ _ (fun d h1 h2 => hd n i (by omega) hi (Ne.symm e) (h1.trans h2.symm)), growFr_put (fun p q hp hq => hd p q (by omega) (by omega)) (by omega)]
      simp only [if_neg (show ¬ n = i from fun h => e h.symm)]
theorem put_self (a : Act) (d : Option Tmp) : ∃ v, a.put d v = a := by
  cases d with
  | none => exact ⟨undef, rfl⟩
  | some d =>
    by_cases h : d < a.tmps.size
    · refine ⟨a.tmps[d], ?_⟩
      obtain ⟨t, ds⟩ := a
      simp only [Act.put, Act.mk.injEq, and_true]
      apply Array.ext_getElem?
      intro i
      rw [Array.getElem?_setIfInBounds]
      split
      · rename_i e
        subst e
        have h' : d < t.size := h
        first | (rw [Array.getElem?_eq_getElem h']) | (rw [if_pos h', Array.getElem?_eq_getElem h'])
      · rfl
    · refine ⟨undef, ?_⟩
      obtain ⟨t, ds⟩ := a
      simp only [Act.put, Act.mk.injEq, and_true]
      exact Array.setIfInBounds_eq_of_size_le (by simpa using h)
theorem growFr_self {l : List Oper} : ∀ (n : Nat) (a : Act), ∃ u, a = growFr l n a u
  | 0, a => ⟨fun _ => undef, rfl⟩
  | n + 1, a => by
    obtain ⟨u, hu⟩ := growFr_self (l := l) n a
    obtain ⟨v, hv⟩ := put_self a ((l[n]?).bind (·.dst))
    refine ⟨fun k => if k = n then v else u k, ?_⟩
    unfold growFr
    rw [growFr_other (Nat.le_refl _), ← hu]
    simp only [if_true]
    exact hv.symm
theorem growSteps_at {P : Program} {l : List Oper} {n : Nat} {w : World} {a : Act} {Φ : List SPred} : ∀ {r : List Oper} {j : Nat}, growSteps P l n w a Φ r j → ∀ i o, r[i]? = some o →
    ∀ (u : Nat → Value) (ρ : Nat → Nat × Nat) w1, Bel w w1 → (∀ k, Region.waitsFor .any l.toArray (j + i) k = true → (Φ.getD k SPred.any).φ (u k) (ρ k).1 (ρ k).2 w1) → wpList P l.toArray (growQ (growFr l n a u) o w1 (Φ.getD (j + i) SPred.any).φ) [o] (growFr l n a u) w1
  | [], _, _, i, o, h => by simp at h
  | x :: r, j, h, 0, o, ho => by
    obtain rfl : x = o := by simpa using ho
    exact h.1
  | x :: r, j, h, i + 1, o, ho => by
    have := growSteps_at h.2 i o (by simpa using ho)
    rw [show j + 1 + i = j + (i + 1) by omega] at this
    exact this
/-- The same, an operation at a time. -/
theorem wp_region_grow2 {P : Program} {id : Nat} {Q : Exit → Act → World → Prop} {a : Act} {w : World} {l : List Oper} (n : Nat) (hm : P.follows .mixedOrders = true) (hB : growB .any l.toArray n = true) (hD : growDsts l n = true) (Φ : List SPred)
    (hstep : growSteps P l n w a Φ (l.take n) 0)
    (htail : ∀ (u : Nat → Value) (ρ : Nat → Nat × Nat) w1, Bel w w1 → (∀ k, k < n → (Φ.getD k SPred.any).φ (u k) (ρ k).1 (ρ k).2 w1 ∧ w.heap.size ≤ (ρ k).1 ∧ (ρ k).1 ≤ (ρ k).2 ∧ (ρ k).2 ≤ w1.heap.size) →
      (∀ i j, i < n → j < n → i ≠ j → (ρ i).2 ≤ (ρ j).1 ∨ (ρ j).2 ≤ (ρ i).1) → wpList P l.toArray Q (l.drop n) (growFr l n a u) w1) :
    (Code.region id l.toArray true).wp P Q a w := by
  have hd : ∀ p q, p < n → q < n → p ≠ q → ((l[p]?).bind (·.dst)) ≠ ((l[q]?).bind (·.dst)) := fun p q hp hq hpq => by
    have h1 := List.all_eq_true.1 hD p (List.mem_range.2 hp)
    have h2 := List.all_eq_true.1 h1 q (List.mem_range.2 hq)
    simp only [Bool.or_eq_true, decide_eq_true_eq, bne_iff_ne] at h2
    rcases h2 with h2 | h2
    · exact absurd h2 hpq
    · exact h2
  obtain ⟨u0, hu0⟩ := growFr_self (l := l) n a
  refine wp_region_grow n hm hB (growFr l n a) (fun u i o v ho hi => ?_) u0 hu0 (fun k => (Φ.getD k SPred.any).φ) (fun i => (Φ.getD i SPred.any).st) (fun i o ho hi u ρ w1 hb hk => ?_) htail
  · have := growFr_put (a := a) (u := u) (v := v) hd hi
    rw [ho] at this
    exact this
  · have := growSteps_at hstep i o (by rw [List.getElem?_take, if_pos hi]; exact ho) u ρ w1 hb
    rw [Nat.zero_add] at this
    exact this hk
/-- The row of one that such a literal is. -/
theorem SPred.lit1_rd {b : Nat} {t : TypeId} {xs : List Int} {v : Value} {lo hi : Nat} {w : World} (h : (SPred.lit1 b t xs).φ v lo hi w) :
    v = .slice (some ⟨lo, 0, none⟩) 1 1 ∧ b ≤ lo ∧ lo < w.heap.size ∧ Rd wbT w (fun k => b ≤ k ∧ k < lo + 1) (some ⟨lo, 0, none⟩) 1 [xs] := by
  obtain ⟨e, h1, h2, A, c, h3, h4⟩ := h
  refine ⟨e, h1, blk_lt h3, by simp, by decide, fun j x hj => ?_⟩
  rcases j with _ | j
  · obtain rfl : xs = x := by simpa using hj
    refine ⟨_, [.slice A xs.length c], rfl, ⟨h1, Nat.lt_succ_self _⟩, ⟨A, c, rfl, h4.mono (fun k hk => ⟨hk.1, by omega⟩)⟩, fun i u hu => ?_⟩
    rcases i with _ | i
    · rw [add_plain, cellAt h3]; exact hu
    · simp at hu
  · simp at hj
end Go.Cb
