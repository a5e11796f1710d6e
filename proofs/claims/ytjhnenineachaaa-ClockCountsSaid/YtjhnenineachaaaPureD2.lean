/- Plain laws: clocks are short; which events race. -/
import Derived.Test.YtjhnenineachaaaPureD
set_option linter.unusedVariables false
set_option linter.unusedSimpArgs false
set_option linter.all false
namespace Go.Cb
theorem nodup_len : ∀ (A t : List Int), t.Nodup → (∀ x ∈ t, x ∈ A) → t.length ≤ A.length
  | [], t, _, h => by
    cases t with
    | nil => simp
    | cons x r => exact absurd (h x (by simp)) (by simp)
  | a :: A, t, hn, h => by
    have h1 := nodup_len A (t.erase a) (hn.erase a) (fun x hx => by
      obtain ⟨h1, h2⟩ := (hn.mem_erase_iff).1 hx
      rcases List.mem_cons.1 (h x h2) with e | e
      · exact absurd e h1
      · exact e)
    have h2 := List.length_erase (l := t) (a := a)
    rw [List.length_cons]
    split at h2 <;> omega
/-- All its names are of those that did one of the first events. -/
def KeysE (l : List Ev) (N : Nat) (t : Tb) : Prop := ∀ x ∈ t, ∃ i, i < N ∧ x.1 = actE l i
theorem KeysE.mono {l : List Ev} {N M : Nat} {t : Tb} (h : KeysE l N t) (hm : N ≤ M) : KeysE l M t := fun x hx => by
  obtain ⟨i, h1, h2⟩ := h x hx
  exact ⟨i, by omega, h2⟩
theorem KeysE.nil (l : List Ev) (N : Nat) : KeysE l N [] := fun x hx => by simp at hx
theorem KeysE.put {l : List Ev} {N : Nat} {t : Tb} (h : KeysE l N t) (ht : tabOk cmpI t) {k : Int} (v : Int) (hk : ∃ i, i < N ∧ k = actE l i) : KeysE l N (putT cmpI t k v) := fun x hx => by
  rcases (putT_mem cmpI_ord ht k v x).1 hx with e | e
  · rw [e]; exact hk
  · exact h x e.1
theorem KeysE.step {l : List Ev} {N : Nat} {t : Tb} (h : KeysE l N t) (ht : tabOk cmpI t) {x : Int × Int} (hx : ∃ i, i < N ∧ x.1 = actE l i) : KeysE l N (joinStep t x) := by
  unfold joinStep
  split
  · exact h.put ht _ hx
  · exact h
theorem KeysE.join {l : List Ev} {N : Nat} : ∀ {b t : Tb}, KeysE l N t → tabOk cmpI t → KeysE l N b → KeysE l N (joinT t b)
  | [], _, h, _, _ => h
  | x :: b, t, h, ht, hb => KeysE.join (b := b) (h.step ht (hb x (by simp))) (joinStep_ok ht x) (fun y hy => hb y (by simp [hy]))
theorem KeysE.joins {l : List Ev} {N : Nat} {out : List Tb} (ho : ∀ p, TbOk (out.getD p [])) (hk : ∀ p, KeysE l N (out.getD p [])) : ∀ (ps : List Nat) {t : Tb}, KeysE l N t → tabOk cmpI t → KeysE l N (ps.foldl (fun t p => joinT t (out.getD p [])) t)
  | [], _, h, _ => h
  | p :: ps, t, h, ht => KeysE.joins ho hk ps (h.join ht (hk p)) (joinT_ok _ ht)
theorem clksE_keys (l : List Ev) : ∀ k p, KeysE l k ((clksE l k).getD p [])
  | 0, p => by rw [clksE]; simpa using KeysE.nil l 0
  | k + 1, p => by
    rw [clksE, List.getD_eq_getElem?_getD]
    by_cases h : p < k
    · rw [List.getElem?_append_left (by rw [clksE_len]; exact h), ← List.getD_eq_getElem?_getD]
      exact (clksE_keys l k p).mono (by omega)
    · rw [List.getElem?_append_right (by rw [clksE_len]; omega), clksE_len]
      rcases Nat.eq_zero_or_pos (p - k) with e | e
      · rw [e]
        have hj : KeysE l k (joinsE l (clksE l k) k) := KeysE.joins (clksE_ok l k) (clksE_keys l k) _ (KeysE.nil l k) tabOk_nil
        exact (hj.mono (M := k + 1) (by omega)).put (joins_ok _ TbOk.nil (clksE_ok l k)).ok _ ⟨k, by omega, rfl⟩
      · rw [List.getElem?_eq_none (by simp; omega)]
        exact KeysE.nil _ _
theorem KeysE.len {l : List Ev} {N : Nat} {t : Tb} (h : KeysE l N t) (ht : tabOk cmpI t) : t.length ≤ N := by
  have h1 : (t.map (·.1)).Nodup := by
    rw [List.nodup_iff_pairwise_ne, List.pairwise_map]
    refine ht.imp (fun {x y} h e => ?_)
    rw [e] at h
    have := (cmpI_ord.zero y.1 y.1).2 rfl
    omega
  have h2 := nodup_len ((List.range N).map (actE l)) (t.map (·.1)) h1 (fun k hk => by
    obtain ⟨x, hx, rfl⟩ := List.mem_map.1 hk
    obtain ⟨i, hi, e⟩ := h x hx
    exact List.mem_map.2 ⟨i, List.mem_range.2 hi, e.symm⟩)
  simpa using h2
/-- The state of joining behind some of them: its numbers, its length. -/
structure MidE (l : List Ev) (k : Nat) (t : Tb) : Prop where
  ok : TbOk t
  keys : KeysE l k t
theorem MidE.nil (l : List Ev) (k : Nat) : MidE l k [] := ⟨TbOk.nil, KeysE.nil l k⟩
theorem MidE.join {l : List Ev} {k p : Nat} {t : Tb} (h : MidE l k t) (hp : p < k) : MidE l k (joinT t (clkE l p)) := by
  have h1 := clksE_keys l k p
  rw [clksE_at l hp] at h1
  exact ⟨h.ok.join (clkE_ok l p).pos, h.keys.join h.ok.ok h1⟩
theorem MidE.len {l : List Ev} {k : Nat} {t : Tb} (h : MidE l k t) : t.length ≤ k := h.keys.len h.ok.ok
/-- All that came before, joined, as the code joins them. -/
theorem foldl_clk (l : List Ev) {k : Nat} : ∀ (ps : List Nat) (t : Tb), (∀ p ∈ ps, p < k) → ps.foldl (fun t p => joinT t ((clksE l k).getD p [])) t = ps.foldl (fun t p => joinT t (clkE l p)) t
  | [], _, _ => rfl
  | p :: ps, t, h => by
    rw [List.foldl_cons, List.foldl_cons, clksE_at l (h p (by simp))]
    exact foldl_clk l ps _ (fun q hq => h q (by simp [hq]))
theorem clkE_put (l : List Ev) (k : Nat) : clkE l k = putT cmpI ((predsE l k).foldl (fun t p => joinT t (clkE l p)) []) (actE l k) (valT ((predsE l k).foldl (fun t p => joinT t (clkE l p)) []) (actE l k) + 1) := by
  rw [clkE_eq]
  unfold oneE joinsE
  rw [foldl_clk l _ _ (fun p hp => predsE_lt hp)]
  rfl
theorem clkE_val_le (l : List Ev) (k : Nat) (a : Int) : 0 ≤ vE l k a ∧ vE l k a ≤ (k : Int) + 1 := by
  obtain ⟨h1, h2, _⟩ := vE_cnt l k a
  have : ∀ n, cntE l a n ≤ (n : Int) := fun n => by
    induction n with
    | zero => exact Int.le_refl _
    | succ n ih => rw [cntE]; split <;> omega
  have := this (k + 1)
  omega
/-! ### races -/
def clashE (x y : Ev) : Bool := x.cs.any fun p => y.cs.any fun q => p.1 == q.1 && p.2.1 == q.2.1 && (p.2.2 || q.2.2)
def raceE (l : List Ev) (i j : Nat) : Bool := decide (actE l i ≠ actE l j) && clashE (l.getD i default) (l.getD j default) && !aheadE l i j
/-- The races with the second one j, of the first i. -/
def raceRow (l : List Ev) (j : Nat) : Nat → List (Int × Int)
  | 0 => []
  | i + 1 => raceRow l j i ++ if raceE l i j = true then [((i : Int), (j : Int))] else []
def racesE (l : List Ev) : Nat → List (Int × Int)
  | 0 => []
  | j + 1 => racesE l j ++ raceRow l j j
end Go.Cb
