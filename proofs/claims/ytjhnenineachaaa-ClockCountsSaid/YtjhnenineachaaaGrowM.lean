/- The library: as Grow, one of the first operations (m) writing to one block (row) that was there. -/
import Derived.Test.YtjhnenineachaaaGrow
import Derived.Maps.AppendAt
set_option linter.unusedVariables false
set_option linter.unusedSimpArgs false
set_option linter.all false
namespace Go.Cb
open Go
theorem gr_bel {w w' : World} {row : Option Nat} (h : Bel w w') : w.grownBy w' row := ⟨h.out.os, h.out.tape, h.out.output, h.size, fun _ hk _ => h.block hk⟩
theorem gr_trans {a b c : World} {row : Option Nat} (h1 : a.grownBy b row) (h2 : b.grownBy c row) : a.grownBy c row :=
  ⟨h2.os.trans h1.os, h2.tape.trans h1.tape, h2.output.trans h1.output, Nat.le_trans h1.size h2.size, fun i hi hne => (h2.block i (Nat.lt_of_lt_of_le hi h1.size) hne).trans (h1.block i hi hne)⟩
def relM (m : Nat) (row : Option Nat) (i : Nat) (a b : World) : Prop := if i = m then a.grownBy b row else Bel a b
def preM (md : Region.Mode) (ops : Array Oper) (m : Nat) (row : Option Nat) (i : Nat) (a b : World) : Prop := if i = m ∨ Region.waitsFor md ops m i = true then Bel a b else a.grownBy b row
/-- What one of the first n leaves: its value, memory that it made. -/
def growQM (a : Act) (o : Oper) (w1 : World) (rel : World → World → Prop) (φ : Value → Nat → Nat → World → Prop) : Exit → Act → World → Prop :=
  fun ex a' w2 => ex = .normal ∧ ∃ v, a' = a.put o.dst v ∧ rel w1 w2 ∧ φ v w1.heap.size w2.heap.size w2
section
variable {P : Program} {ops : Array Oper} {md : Region.Mode}
theorem wpAny_growM {n m : Nat} {row : Option Nat} {l : List Oper} {Q : Exit → Act → World → Prop} {w : World} (hl : ops = l.toArray) (hB : growB md ops n = true) (fr : (Nat → Value) → Act)
    (hfr : ∀ u i o v, l[i]? = some o → i < n → (fr u).put o.dst v = fr (fun k => if k = i then v else u k))
    (Φ : Nat → Value → Nat → Nat → World → Prop) (hst : ∀ i v lo hi w1 w2, Φ i v lo hi w1 → Bel w1 w2 → Φ i v lo hi w2)
    (hstR : ∀ i v lo hi w1 w2, i < n → i ≠ m → w.heap.size ≤ lo → Φ i v lo hi w1 → w1.grownBy w2 row → Φ i v lo hi w2)
    (hstep : ∀ i o, l[i]? = some o → i < n → ∀ (u : Nat → Value) (ρ : Nat → Nat × Nat) w1, preM md ops m row i w w1 → (∀ k, Region.waitsFor md ops i k = true → Φ k (u k) (ρ k).1 (ρ k).2 w1 ∧ w.heap.size ≤ (ρ k).1) → wpList P ops (growQM (fr u) o w1 (relM m row i) (Φ i)) [o] (fr u) w1)
    (htail : ∀ (u : Nat → Value) (ρ : Nat → Nat × Nat) w1, w.grownBy w1 row → (∀ k, k < n → Φ k (u k) (ρ k).1 (ρ k).2 w1 ∧ w.heap.size ≤ (ρ k).1 ∧ (ρ k).1 ≤ (ρ k).2 ∧ (ρ k).2 ≤ w1.heap.size) →
      wpList P ops Q (l.drop n) (fr u) w1) :
    ∀ (f : Nat) (listed : Array Bool) (u : Nat → Value) (ρ : Nat → Nat × Nat) (w1 : World), HeadInv md ops n listed → cntU listed n = f → (listed.getD m false = false → Bel w w1) → w.grownBy w1 row →
      (∀ k, k < n → listed.getD k false = true → Φ k (u k) (ρ k).1 (ρ k).2 w1 ∧ w.heap.size ≤ (ρ k).1 ∧ (ρ k).1 ≤ (ρ k).2 ∧ (ρ k).2 ≤ w1.heap.size) →
      wpAny P md ops Q (f + (ops.size - n)) listed (fr u) w1 := by
  unfold growB at hB
  simp only [Bool.and_eq_true, decide_eq_true_eq] at hB
  obtain ⟨⟨⟨⟨hn, hs⟩, hc⟩, hd⟩, hseq⟩ := hB
  have hdep : ∀ i k, i < n → Region.waitsFor md ops i k = true → k < i := fun i k hi hw => by
    obtain ⟨o, ho, e, he, hb, hon⟩ := Region.waitsFor_spec hw
    have h1 := List.all_eq_true.1 hd i (List.mem_range.2 hi)
    rw [ho] at h1
    simp only [Option.map_some, Option.getD_some] at h1
    have h2 := Array.all_eq_true'.1 h1 e he
    simp only [Bool.or_eq_true, Bool.not_eq_true', decide_eq_true_eq] at h2
    rcases h2 with h2 | h2
    · rw [h2] at hb; cases hb
    · omega
  intro f
  induction f with
  | zero =>
    intro listed u ρ w1 inv hcnt hb hg hΦ
    have hall := cntU_zero hcnt
    have hle := headDone_eq (m := ops.size) inv.size (by omega) hall inv.tail
    have hdl : (l.drop n).length = ops.size - n := by rw [hl]; simp
    have := wpAny_of_seq (P := P) (md := md) (ops := ops) (Q' := Q) (l.drop n) n listed (fr u) w1 (fun j => by rw [hl]; simp) (by rw [hdl, hle]; exact hseq)
      (htail u ρ w1 hg (fun k hk => hΦ k hk (hall k hk)))
    rw [hdl] at this
    rwa [Nat.zero_add]
  | succ f ih =>
    intro listed u ρ w1 inv hcnt hb hg hΦ
    obtain ⟨i0, hi0, hu0, hl0⟩ := least_un n (by omega : cntU listed n ≠ 0)
    have hsz := inv.size
    rw [show f + 1 + (ops.size - n) = (f + (ops.size - n)) + 1 by omega]
    refine ⟨fun h => ?_, fun i hi => ?_⟩
    · exfalso
      have : i0 ∈ Region.ready md ops listed := by
        rw [mem_ready]
        have hlt : i0 < ops.size := by omega
        refine ⟨getD_in (by omega) hu0, ops[i0], Array.getElem?_eq_getElem hlt, fun e he hb => ?_⟩
        exact hl0 _ (hdep i0 e.on hi0 (waits_of (Array.getElem?_eq_getElem hlt) he hb))
      rw [h] at this
      cases this
    · have hin : i < n := by
        rcases Nat.lt_or_ge i n with h | h
        · exact h
        · exact absurd hi (tail_waits hs hc hn inv _ i0 rfl hi0 (getD_in (by omega) hu0) i h)
      obtain ⟨hun, o, ho, hall⟩ := mem_ready.1 hi
      have hlo : l[i]? = some o := by rw [hl] at ho; simpa using ho
      have hunf : listed.getD i false = false := getD_both hun
      have hpre : preM md ops m row i w w1 := by
        unfold preM
        by_cases hc1 : i = m ∨ Region.waitsFor md ops m i = true
        · rw [if_pos hc1]
          refine hb ?_
          rcases hc1 with e | e
          · rw [← e]; exact hunf
          · cases hm : listed.getD m false with
            | false => rfl
            | true =>
              exfalso
              obtain ⟨om, hom, e1, he1, hb1, hon⟩ := Region.waitsFor_spec e
              have := inv.closed m om hom hm e1 he1 hb1
              rw [hon, hunf] at this
              cases this
        · rw [if_neg hc1]
          exact hg
      refine wpOp_only ho (fun _ _ _ h => h.1) ?_ (hstep i o hlo hin u ρ w1 hpre (fun k hk => ?_))
      · rintro a' w2 ⟨_, v, rfl, hb2, hv⟩
        rw [hfr u i o v hlo hin]
        have hcs := cntU_set (listed := listed) (i := i) (by omega) (getD_both hun) hin
        have hg2 : w1.grownBy w2 row := by
          unfold relM at hb2
          by_cases e : i = m
          · rw [if_pos e] at hb2; exact hb2
          · rw [if_neg e] at hb2; exact gr_bel hb2
        refine ih _ _ (fun k => if k = i then (w1.heap.size, w2.heap.size) else ρ k) w2 (inv.set hi hin) (by omega) (fun hmf => ?_) (gr_trans hg hg2) (fun k hk hlk => ?_)
        · by_cases e : i = m
          · subst e
            rw [getD_set_eq (by omega)] at hmf
            cases hmf
          · rw [getD_set_neF e] at hmf
            unfold relM at hb2
            rw [if_neg e] at hb2
            exact (hb hmf).trans hb2
        · by_cases e : k = i
          · subst e
            simp only [if_true]
            exact ⟨hv, hg.size, hg2.size, Nat.le_refl _⟩
          · simp only [if_neg e]
            rw [getD_set_neF (Ne.symm e)] at hlk
            obtain ⟨h1, h2, h3, h4⟩ := hΦ k hk hlk
            refine ⟨?_, h2, h3, Nat.le_trans h4 hg2.size⟩
            by_cases e2 : i = m
            · exact hstR _ _ _ _ _ _ hk (fun h => e (h.trans e2.symm)) h2 h1 hg2
            · unfold relM at hb2
              rw [if_neg e2] at hb2
              exact hst _ _ _ _ _ _ h1 hb2
      · obtain ⟨o', ho', e, he, hb', hon⟩ := Region.waitsFor_spec hk
        have : o' = o := Option.some.inj (ho'.symm.trans ho)
        subst this
        have h1 := hall e he hb'
        rw [hon] at h1
        have h2 := hΦ k (by have := hdep i k hin hk; omega) h1
        exact ⟨h2.1, h2.2.1⟩
end
def growStepsM (P : Program) (l : List Oper) (n m : Nat) (row : Option Nat) (w : World) (a : Act) (Φ : List SPred) : List Oper → Nat → Prop
  | [], _ => True
  | o :: rest, i => (∀ (u : Nat → Value) (ρ : Nat → Nat × Nat) w1, preM .any l.toArray m row i w w1 → (∀ k, Region.waitsFor .any l.toArray i k = true → (Φ.getD k SPred.any).φ (u k) (ρ k).1 (ρ k).2 w1 ∧ w.heap.size ≤ (ρ k).1) → wpList P l.toArray (growQM (growFr l n a u) o w1 (relM m row i) (Φ.getD i SPred.any).φ) [o] (growFr l n a u) w1) ∧ growStepsM P l n m row w a Φ rest (i + 1)
theorem growStepsM_at {P : Program} {l : List Oper} {n m : Nat} {row : Option Nat} {w : World} {a : Act} {Φ : List SPred} : ∀ {r : List Oper} {j : Nat}, growStepsM P l n m row w a Φ r j → ∀ i o, r[i]? = some o →
    ∀ (u : Nat → Value) (ρ : Nat → Nat × Nat) w1, preM .any l.toArray m row (j + i) w w1 → (∀ k, Region.waitsFor .any l.toArray (j + i) k = true → (Φ.getD k SPred.any).φ (u k) (ρ k).1 (ρ k).2 w1 ∧ w.heap.size ≤ (ρ k).1) → wpList P l.toArray (growQM (growFr l n a u) o w1 (relM m row (j + i)) (Φ.getD (j + i) SPred.any).φ) [o] (growFr l n a u) w1
  | [], _, _, i, o, h => by simp at h
  | x :: r, j, h, 0, o, ho => by
    obtain rfl : x = o := by simpa using ho
    exact h.1
  | x :: r, j, h, i + 1, o, ho => by
    have := growStepsM_at h.2 i o (by simpa using ho)
    rw [show j + 1 + i = j + (i + 1) by omega] at this
    exact this
/-- The region: its first n operations in any order, one of which (m) writes to one block; the others one by one behind them. -/
theorem wp_region_growM {P : Program} {id : Nat} {Q : Exit → Act → World → Prop} {a : Act} {w : World} {l : List Oper} (n m : Nat) (row : Option Nat) (hm : P.follows .mixedOrders = true) (hB : growB .any l.toArray n = true) (hD : growDsts l n = true) (Φ : List SPred)
    (hstR : ∀ i, i < n → i ≠ m → ∀ v lo hi w1 w2, w.heap.size ≤ lo → (Φ.getD i SPred.any).φ v lo hi w1 → w1.grownBy w2 row → (Φ.getD i SPred.any).φ v lo hi w2)
    (hstep : growStepsM P l n m row w a Φ (l.take n) 0)
    (htail : ∀ (u : Nat → Value) (ρ : Nat → Nat × Nat) w1, w.grownBy w1 row → (∀ k, k < n → (Φ.getD k SPred.any).φ (u k) (ρ k).1 (ρ k).2 w1 ∧ w.heap.size ≤ (ρ k).1 ∧ (ρ k).1 ≤ (ρ k).2 ∧ (ρ k).2 ≤ w1.heap.size) → wpList P l.toArray Q (l.drop n) (growFr l n a u) w1) :
    (Code.region id l.toArray true).wp P Q a w := by
  have hd : ∀ p q, p < n → q < n → p ≠ q → ((l[p]?).bind (·.dst)) ≠ ((l[q]?).bind (·.dst)) := fun p q hp hq hpq => by
    have h1 := List.all_eq_true.1 hD p (List.mem_range.2 hp)
    have h2 := List.all_eq_true.1 h1 q (List.mem_range.2 hq)
    simp only [Bool.or_eq_true, decide_eq_true_eq, bne_iff_ne] at h2
    rcases h2 with h2 | h2
    · exact absurd h2 hpq
    · exact h2
  obtain ⟨u0, hu0⟩ := growFr_self (l := l) n a
  refine wp_region_any hm ?_
  have hn : n < l.toArray.size := by
    have := hB
    unfold growB at this
    simp only [Bool.and_eq_true, decide_eq_true_eq] at this
    exact this.1.1.1.1
  have inv0 : HeadInv .any l.toArray n (Array.replicate l.toArray.size false) :=
    ⟨by simp, fun j oj _ hl => (by rw [getD_replicate_false] at hl; cases hl), fun t _ ht => getD_in (by simpa using ht) (getD_replicate_false _ _)⟩
  have hb0 : Bel w { w with drawn := w.drawn + 1 } := (Bel.refl w).drew
  have := wpAny_growM (P := P) (md := .any) (Q := Q) (w := w) (m := m) (row := row) rfl hB (growFr l n a) (fun u i o v ho hi => by
      have := growFr_put (a := a) (u := u) (v := v) hd hi
      rw [ho] at this
      exact this) (fun k => (Φ.getD k SPred.any).φ) (fun i => (Φ.getD i SPred.any).st) (fun i v lo hi w1 w2 h1 h2 => hstR i h1 h2 v lo hi w1 w2) (fun i o ho hi u ρ w1 hb hk => by
      have := growStepsM_at hstep i o (by rw [List.getElem?_take, if_pos hi]; exact ho) u ρ w1
      rw [Nat.zero_add] at this
      exact this hb hk) htail n (Array.replicate l.toArray.size false) u0 (fun _ => (0, 0)) { w with drawn := w.drawn + 1 } inv0 (cntU_none _ _) (fun _ => hb0) (gr_bel hb0)
    (fun k _ h => by rw [getD_replicate_false] at h; cases h)
  rw [show n + (l.toArray.size - n) = l.toArray.size by omega] at this
  rw [← hu0] at this
  exact this
theorem relM_bel {m i : Nat} {row : Option Nat} {a b : World} (h : i ≠ m) (hb : Bel a b) : relM m row i a b := by unfold relM; rw [if_neg h]; exact hb
theorem relM_row {m : Nat} {row : Option Nat} {a b : World} (hb : a.grownBy b row) : relM m row m a b := by unfold relM; rw [if_pos rfl]; exact hb
theorem preM_gr {md : Region.Mode} {ops : Array Oper} {m i : Nat} {row : Option Nat} {a b : World} (h : preM md ops m row i a b) : a.grownBy b row := by
  unfold preM at h
  split at h
  · exact gr_bel h
  · exact h
theorem preM_bel {md : Region.Mode} {ops : Array Oper} {m i : Nat} {row : Option Nat} {a b : World} (h : preM md ops m row i a b) (hc : i = m ∨ Region.waitsFor md ops m i = true) : Bel a b := by
  unfold preM at h
  rwa [if_pos hc] at h
/-- A row of one number, new. -/
def SPred.litI (t : TypeId) (x : Int) : SPred := ⟨fun v lo _ w => v = .slice (some ⟨lo, 0, none⟩) 1 1 ∧ w.heap[lo]? = some (.cells #[.int .i64 x] t (0, 0)), fun _ _ _ _ _ ⟨e, h⟩ hb => ⟨e, (hb.block (blk_lt h)).trans h⟩⟩
end Go.Cb
