/- Plain laws: which events are ahead of which, by their clocks. -/
import Derived.Test.YtjhnenineachaaaPureT
set_option linter.unusedVariables false
set_option linter.unusedSimpArgs false
set_option linter.all false
namespace Go.Cb
/-- An event: of whom, what kind, a number, its cells. -/
structure Ev where
  a : Int
  k : Int
  n : Int
  cs : List (Int × Int × Bool)
instance : Inhabited Ev := ⟨⟨0, 0, 0, []⟩⟩
abbrev Tb := List (Int × Int)
def valT (t : Tb) (a : Int) : Int := (getT cmpI t a).getD 0
/-- A clock that has also what another one has. -/
def joinStep (t : Tb) (x : Int × Int) : Tb := if valT t x.1 < x.2 then putT cmpI t x.1 x.2 else t
def joinT (a b : Tb) : Tb := b.foldl joinStep a
/-- An actor's last event, of the first k ones. -/
def ownE (l : List Ev) (a : Int) : Nat → Option Nat
  | 0 => none
  | k + 1 => if (l.getD k default).a = a then some k else ownE l a k
/-- Of the first k events, those of a kind, of a number. -/
def kindE (l : List Ev) (kd n : Int) (k : Nat) : List Nat := (List.range k).filter fun i => (l.getD i default).k == kd && (l.getD i default).n == n
/-- Those that are just ahead of the event k: they are before it. -/
def predsE (l : List Ev) (k : Nat) : List Nat :=
  (ownE l (l.getD k default).a k).toList ++ kindE l 2 (l.getD k default).a k ++ (if (l.getD k default).k = 4 then kindE l 3 (l.getD k default).n k else [])
def joinsE (l : List Ev) (out : List Tb) (k : Nat) : Tb := (predsE l k).foldl (fun t p => joinT t (out.getD p [])) []
def oneE (l : List Ev) (out : List Tb) (k : Nat) : Tb := putT cmpI (joinsE l out k) (l.getD k default).a (valT (joinsE l out k) (l.getD k default).a + 1)
/-- The clocks of the first k events. -/
def clksE (l : List Ev) : Nat → List Tb
  | 0 => []
  | k + 1 => clksE l k ++ [oneE l (clksE l k) k]
def clkE (l : List Ev) (k : Nat) : Tb := (clksE l (k + 1)).getD k []
theorem clksE_len (l : List Ev) : ∀ k, (clksE l k).length = k
  | 0 => rfl
  | k + 1 => by rw [clksE, List.length_append, clksE_len l k]; rfl
theorem clksE_at (l : List Ev) {i : Nat} : ∀ {k : Nat}, i < k → (clksE l k).getD i [] = clkE l i
  | 0, h => absurd h (by omega)
  | k + 1, h => by
    by_cases e : i = k
    · rw [e]; rfl
    · rw [clksE, List.getD_eq_getElem?_getD, List.getElem?_append_left (by rw [clksE_len]; omega), ← List.getD_eq_getElem?_getD]
      exact clksE_at l (by omega)
theorem clkE_eq (l : List Ev) (k : Nat) : clkE l k = oneE l (clksE l k) k := by
  unfold clkE
  rw [clksE, List.getD_eq_getElem?_getD, List.getElem?_append_right (by rw [clksE_len]; omega), clksE_len, Nat.sub_self]
  rfl
theorem ownE_lt {l : List Ev} {a : Int} : ∀ {k p : Nat}, ownE l a k = some p → p < k ∧ (l.getD p default).a = a ∧ ∀ j, p < j → j < k → (l.getD j default).a ≠ a
  | 0, p, h => by cases h
  | k + 1, p, h => by
    rw [ownE] at h
    split at h
    · rename_i e
      injection h with h
      subst h
      exact ⟨by omega, e, fun j h1 h2 => absurd h2 (by omega)⟩
    · rename_i e
      obtain ⟨h1, h2, h3⟩ := ownE_lt h
      refine ⟨by omega, h2, fun j j1 j2 => ?_⟩
      by_cases e2 : j = k
      · rw [e2]; exact e
      · exact h3 j j1 (by omega)
theorem ownE_none {l : List Ev} {a : Int} : ∀ {k : Nat}, ownE l a k = none → ∀ j, j < k → (l.getD j default).a ≠ a
  | 0, _, j, hj => absurd hj (by omega)
  | k + 1, h, j, hj => by
    rw [ownE] at h
    split at h
    · cases h
    · rename_i e
      by_cases e2 : j = k
      · rw [e2]; exact e
      · exact ownE_none h j (by omega)
theorem predsE_lt {l : List Ev} {k p : Nat} (h : p ∈ predsE l k) : p < k := by
  unfold predsE at h
  have hk : ∀ kd n, p ∈ kindE l kd n k → p < k := fun kd n h => by
    unfold kindE at h
    exact List.mem_range.1 (List.mem_filter.1 h).1
  rcases List.mem_append.1 h with h | h
  · rcases List.mem_append.1 h with h | h
    · cases ho : ownE l (l.getD k default).a k with
      | none => rw [ho] at h; simp at h
      | some q =>
        rw [ho] at h
        obtain rfl : p = q := by simpa using h
        exact (ownE_lt ho).1
    · exact hk _ _ h
  · split at h
    · exact hk _ _ h
    · simp at h
/-! ### what a clock says -/
theorem get_put {t : Tb} (ht : tabOk cmpI t) (k v a : Int) : getT cmpI (putT cmpI t k v) a = if a = k then some v else getT cmpI t a := by
  have hp := putT_ok cmpI_ord ht k v
  by_cases e : a = k
  · subst e
    rw [if_pos rfl]
    exact (getT_iff cmpI_ord hp).2 ((putT_mem cmpI_ord ht a v _).2 (.inl rfl))
  · rw [if_neg e]
    cases hg : getT cmpI t a with
    | some u => exact (getT_iff cmpI_ord hp).2 ((putT_mem cmpI_ord ht k v _).2 (.inr ⟨(getT_iff cmpI_ord ht).1 hg, e⟩))
    | none =>
      cases hq : getT cmpI (putT cmpI t k v) a with
      | none => rfl
      | some u =>
        rcases (putT_mem cmpI_ord ht k v _).1 ((getT_iff cmpI_ord hp).1 hq) with h | h
        · exact absurd (Prod.mk.inj h).1 e
        · rw [(getT_iff cmpI_ord ht).2 h.1] at hg; cases hg
theorem valT_put {t : Tb} (ht : tabOk cmpI t) (k v a : Int) : valT (putT cmpI t k v) a = if a = k then v else valT t a := by
  unfold valT
  rw [get_put ht]
  split <;> rfl
theorem valT_mem {t : Tb} (ht : tabOk cmpI t) {a v : Int} (h : (a, v) ∈ t) : valT t a = v := by
  unfold valT
  rw [(getT_iff cmpI_ord ht).2 h]
  rfl
theorem joinStep_ok {t : Tb} (ht : tabOk cmpI t) (x : Int × Int) : tabOk cmpI (joinStep t x) := by
  unfold joinStep
  split
  · exact putT_ok cmpI_ord ht _ _
  · exact ht
theorem joinT_ok : ∀ (b : Tb) {t : Tb}, tabOk cmpI t → tabOk cmpI (joinT t b)
  | [], _, h => h
  | x :: b, _, h => joinT_ok b (joinStep_ok h x)
theorem joinStep_val {t : Tb} (ht : tabOk cmpI t) (x : Int × Int) (a : Int) : valT t a ≤ valT (joinStep t x) a ∧ (a = x.1 → x.2 ≤ valT (joinStep t x) a) ∧ (valT (joinStep t x) a = valT t a ∨ (a = x.1 ∧ valT (joinStep t x) a = x.2)) := by
  unfold joinStep
  by_cases h : valT t x.1 < x.2
  · rw [if_pos h, valT_put ht]
    by_cases e : a = x.1
    · subst e
      rw [if_pos rfl]
      exact ⟨by omega, fun _ => Int.le_refl _, .inr ⟨rfl, rfl⟩⟩
    · rw [if_neg e]
      exact ⟨Int.le_refl _, fun h => absurd h e, .inl rfl⟩
  · rw [if_neg h]
    exact ⟨Int.le_refl _, fun e => by rw [e]; omega, .inl rfl⟩
theorem joinT_val (a : Int) : ∀ (b : Tb) {t : Tb}, tabOk cmpI t → valT t a ≤ valT (joinT t b) a ∧ (∀ v, (a, v) ∈ b → v ≤ valT (joinT t b) a) ∧ (valT (joinT t b) a = valT t a ∨ ∃ v, (a, v) ∈ b ∧ valT (joinT t b) a = v)
  | [], t, _ => ⟨Int.le_refl _, fun v h => by simp at h, .inl rfl⟩
  | x :: b, t, ht => by
    obtain ⟨h1, h2, h3⟩ := joinStep_val ht x a
    obtain ⟨g1, g2, g3⟩ := joinT_val a b (joinStep_ok ht x)
    have e : joinT t (x :: b) = joinT (joinStep t x) b := rfl
    rw [e]
    refine ⟨by omega, fun v hv => ?_, ?_⟩
    · rcases List.mem_cons.1 hv with h | h
      · subst h
        have := h2 rfl
        dsimp only at this
        omega
      · exact g2 v h
    · rcases g3 with g | ⟨v, hv, g⟩
      · rcases h3 with h | ⟨h, h'⟩
        · exact .inl (by omega)
        · refine .inr ⟨x.2, by rw [h]; exact List.mem_cons_self .., by omega⟩
      · exact .inr ⟨v, List.mem_cons_of_mem _ hv, g⟩
/-- A clock: rising, its numbers are one or more. -/
structure TbOk (t : Tb) : Prop where
  ok : tabOk cmpI t
  pos : ∀ x ∈ t, 1 ≤ x.2
theorem TbOk.nil : TbOk [] := ⟨tabOk_nil, fun x hx => by simp at hx⟩
theorem TbOk.val {t : Tb} (h : TbOk t) (a : Int) : 0 ≤ valT t a ∧ (1 ≤ valT t a → (a, valT t a) ∈ t) ∧ (valT t a = 0 → getT cmpI t a = none) := by
  unfold valT
  cases hg : getT cmpI t a with
  | none => exact ⟨Int.le_refl _, fun h => absurd h (by simp), fun _ => rfl⟩
  | some v =>
    have hm := (getT_iff cmpI_ord h.ok).1 hg
    have := h.pos _ hm
    dsimp only at this
    refine ⟨by simp; omega, fun _ => hm, fun e => ?_⟩
    have e2 : v = 0 := e
    omega
theorem TbOk.put {t : Tb} (h : TbOk t) (k v : Int) (hv : 1 ≤ v) : TbOk (putT cmpI t k v) := ⟨putT_ok cmpI_ord h.ok _ _, fun x hx => by
  rcases (putT_mem cmpI_ord h.ok k v x).1 hx with e | e
  · rw [e]; exact hv
  · exact h.pos x e.1⟩
theorem TbOk.joinStep {t : Tb} (h : TbOk t) {x : Int × Int} (hx : 1 ≤ x.2) : TbOk (joinStep t x) := by
  unfold Go.Cb.joinStep
  split
  · exact h.put _ _ hx
  · exact h
theorem TbOk.join : ∀ {b t : Tb}, TbOk t → (∀ x ∈ b, 1 ≤ x.2) → TbOk (joinT t b)
  | [], _, h, _ => h
  | x :: b, t, h, hb => TbOk.join (b := b) (h.joinStep (hb x (by simp))) (fun y hy => hb y (by simp [hy]))
/-- Both of two clocks. -/
theorem join_max {t b : Tb} (ht : TbOk t) (hb : TbOk b) (a : Int) : valT (joinT t b) a = max (valT t a) (valT b a) := by
  obtain ⟨h1, h2, h3⟩ := joinT_val a b ht.ok
  obtain ⟨b1, b2, b3⟩ := hb.val a
  obtain ⟨t1, _, _⟩ := ht.val a
  have h4 : valT b a ≤ valT (joinT t b) a := by
    by_cases h : 1 ≤ valT b a
    · exact h2 _ (b2 h)
    · omega
  rcases h3 with h | ⟨v, hv, h⟩
  · omega
  · have := valT_mem hb.ok hv
    omega
theorem joins_ok : ∀ (ps : List Nat) {out : List Tb} {t : Tb}, TbOk t → (∀ p, TbOk (out.getD p [])) → TbOk (ps.foldl (fun t p => joinT t (out.getD p [])) t)
  | [], _, _, h, _ => h
  | p :: ps, out, t, h, ho => joins_ok ps (h.join (ho p).pos) ho
theorem joins_val (a : Int) : ∀ (ps : List Nat) {out : List Tb} {t : Tb}, TbOk t → (∀ p, TbOk (out.getD p [])) →
    valT t a ≤ valT (ps.foldl (fun t p => joinT t (out.getD p [])) t) a ∧ (∀ p ∈ ps, valT (out.getD p []) a ≤ valT (ps.foldl (fun t p => joinT t (out.getD p [])) t) a) ∧
    (valT (ps.foldl (fun t p => joinT t (out.getD p [])) t) a = valT t a ∨ ∃ p ∈ ps, valT (ps.foldl (fun t p => joinT t (out.getD p [])) t) a = valT (out.getD p []) a)
  | [], _, t, _, _ => ⟨Int.le_refl _, fun p h => by simp at h, .inl rfl⟩
  | p :: ps, out, t, ht, ho => by
    have hm := join_max ht (ho p) a
    obtain ⟨g1, g2, g3⟩ := joins_val a ps (out := out) (t := joinT t (out.getD p [])) (ht.join (ho p).pos) ho
    rw [List.foldl_cons]
    refine ⟨by omega, fun q hq => ?_, ?_⟩
    · rcases List.mem_cons.1 hq with rfl | hq
      · omega
      · exact g2 q hq
    · rcases g3 with g | ⟨q, hq, g⟩
      · by_cases hle : valT (out.getD p []) a ≤ valT t a
        · exact .inl (by omega)
        · exact .inr ⟨p, by simp, by omega⟩
      · exact .inr ⟨q, List.mem_cons_of_mem _ hq, g⟩
theorem clksE_ok (l : List Ev) : ∀ k, ∀ p, TbOk ((clksE l k).getD p [])
  | 0, p => by rw [clksE]; simpa using TbOk.nil
  | k + 1, p => by
    rw [clksE, List.getD_eq_getElem?_getD]
    by_cases h : p < k
    · rw [List.getElem?_append_left (by rw [clksE_len]; exact h), ← List.getD_eq_getElem?_getD]
      exact clksE_ok l k p
    · rw [List.getElem?_append_right (by rw [clksE_len]; omega), clksE_len]
      rcases Nat.eq_zero_or_pos (p - k) with e | e
      · rw [e]
        have hj : TbOk (joinsE l (clksE l k) k) := joins_ok _ TbOk.nil (clksE_ok l k)
        exact hj.put _ _ (by have := (hj.val (l.getD k default).a).1; omega)
      · rw [List.getElem?_eq_none (by simp; omega)]
        exact TbOk.nil
theorem clkE_ok (l : List Ev) (k : Nat) : TbOk (clkE l k) := clksE_ok l (k + 1) k
def actE (l : List Ev) (i : Nat) : Int := (l.getD i default).a
def vE (l : List Ev) (k : Nat) (a : Int) : Int := valT (clkE l k) a
theorem vE_law (l : List Ev) (k : Nat) (a : Int) : ∃ M, vE l k a = (if a = actE l k then M + 1 else M) ∧ 0 ≤ M ∧ (∀ p ∈ predsE l k, vE l p a ≤ M) ∧ (M = 0 ∨ ∃ p ∈ predsE l k, M = vE l p a) := by
  have hok : ∀ p, TbOk ((clksE l k).getD p []) := clksE_ok l k
  have hj : TbOk (joinsE l (clksE l k) k) := joins_ok _ TbOk.nil hok
  obtain ⟨g1, g2, g3⟩ := joins_val a (predsE l k) (out := clksE l k) TbOk.nil hok
  have hat : ∀ p ∈ predsE l k, valT ((clksE l k).getD p []) a = vE l p a := fun p hp => by unfold vE; rw [clksE_at l (predsE_lt hp)]
  refine ⟨valT (joinsE l (clksE l k) k) a, ?_, (hj.val a).1, fun p hp => by rw [← hat p hp]; exact g2 p hp, ?_⟩
  · unfold vE
    rw [clkE_eq]
    unfold oneE
    rw [valT_put hj.ok]
    unfold actE
    split
    · rename_i e; rw [e]
    · rfl
  · rcases g3 with g | ⟨p, hp, g⟩
    · exact .inl g
    · exact .inr ⟨p, hp, by rw [← hat p hp]; exact g⟩
/-- How many of an actor's events there are among the first. -/
def cntE (l : List Ev) (a : Int) : Nat → Int
  | 0 => 0
  | k + 1 => cntE l a k + if actE l k = a then 1 else 0
theorem cntE_mono (l : List Ev) (a : Int) {i : Nat} : ∀ {k : Nat}, i ≤ k → cntE l a i ≤ cntE l a k
  | 0, h => by rw [show i = 0 by omega]; exact Int.le_refl _
  | k + 1, h => by
    by_cases e : i = k + 1
    · rw [e]; exact Int.le_refl _
    · have := cntE_mono l a (i := i) (k := k) (by omega)
      rw [cntE]
      split <;> omega
theorem cntE_same (l : List Ev) (a : Int) {i : Nat} : ∀ {k : Nat}, i ≤ k → (∀ j, i ≤ j → j < k → actE l j ≠ a) → cntE l a k = cntE l a i
  | 0, h, _ => by rw [show i = 0 by omega]
  | k + 1, h, hn => by
    by_cases e : i = k + 1
    · rw [e]
    · rw [cntE, if_neg (hn k (by omega) (by omega)), Int.add_zero]
      exact cntE_same l a (by omega) (fun j h1 h2 => hn j h1 (by omega))
theorem cntE_own {l : List Ev} {a : Int} {k p : Nat} (h : ownE l a k = some p) : cntE l a k = cntE l a (p + 1) := by
  obtain ⟨h1, _, h3⟩ := ownE_lt h
  exact cntE_same l a (by omega) (fun j j1 j2 => h3 j (by omega) j2)
theorem cntE_none {l : List Ev} {a : Int} {k : Nat} (h : ownE l a k = none) : cntE l a k = 0 := by
  have := cntE_same l a (i := 0) (k := k) (by omega) (fun j _ j2 => ownE_none h j j2)
  rw [this]; rfl
theorem own_pred {l : List Ev} {k p : Nat} (h : ownE l (actE l k) k = some p) : p ∈ predsE l k := by
  unfold predsE
  rw [show (l.getD k default).a = actE l k from rfl, h]
  simp
/-- A clock never counts more than there are; of its own actor, just all. -/
theorem vE_cnt (l : List Ev) : ∀ (k : Nat) (a : Int), 0 ≤ vE l k a ∧ vE l k a ≤ cntE l a (k + 1) ∧ (a = actE l k → vE l k a = cntE l a (k + 1)) := by
  intro k
  induction k using Nat.strongRecOn with
  | ind k ih =>
    intro a
    obtain ⟨M, h1, h2, h3, h4⟩ := vE_law l k a
    have hc : cntE l a (k + 1) = cntE l a k + if actE l k = a then 1 else 0 := rfl
    have hM : M ≤ cntE l a k := by
      rcases h4 with h | ⟨p, hp, h⟩
      · rw [h]; have := cntE_mono l a (i := 0) (k := k) (by omega); exact this
      · have hlt := predsE_lt hp
        have := (ih p hlt a).2.1
        have := cntE_mono l a (i := p + 1) (k := k) (by omega)
        omega
    by_cases e : a = actE l k
    · rw [if_pos e] at h1
      rw [if_pos e.symm] at hc
      have hE : M = cntE l a k := by
        cases ho : ownE l (actE l k) k with
        | none =>
          have := cntE_none ho
          rw [← e] at this
          omega
        | some p =>
          have hp := own_pred ho
          obtain ⟨o1, o2, _⟩ := ownE_lt ho
          have h5 := (ih p o1 a).2.2 (by rw [e]; exact o2.symm)
          have h6 := h3 p hp
          have h7 := cntE_own ho
          rw [← e] at h7
          omega
      exact ⟨by omega, by omega, fun _ => by omega⟩
    · rw [if_neg e] at h1
      rw [if_neg (fun h => e h.symm)] at hc
      exact ⟨by omega, by omega, fun h => absurd h e⟩
/-- What a clock counts is ahead: all that one counts, it counts, too. -/
theorem vE_key (l : List Ev) : ∀ (k i : Nat), vE l i (actE l i) ≤ vE l k (actE l i) → i ≤ k ∧ ∀ a, vE l i a ≤ vE l k a := by
  intro k
  induction k using Nat.strongRecOn with
  | ind k ih =>
    intro i hi
    have hci := (vE_cnt l i (actE l i)).2.2 rfl
    have hcp : cntE l (actE l i) (i + 1) = cntE l (actE l i) i + 1 := by rw [cntE, if_pos rfl]
    have hc0 := cntE_mono l (actE l i) (i := 0) (k := i) (by omega)
    have hc00 : cntE l (actE l i) 0 = 0 := rfl
    have step : ∀ p ∈ predsE l k, vE l i (actE l i) ≤ vE l p (actE l i) → i ≤ k ∧ ∀ a, vE l i a ≤ vE l k a := fun p hp h => by
      have hlt := predsE_lt hp
      obtain ⟨h1, h2⟩ := ih p hlt i h
      refine ⟨by omega, fun a => ?_⟩
      obtain ⟨M, g1, _, g3, _⟩ := vE_law l k a
      have := g3 p hp
      have := h2 a
      split at g1 <;> omega
    by_cases e : actE l i = actE l k
    · have hck := (vE_cnt l k (actE l i)).2.2 e
      by_cases e2 : i = k
      · rw [e2]; exact ⟨Nat.le_refl _, fun _ => Int.le_refl _⟩
      · have hlt : i < k := by
          rcases Nat.lt_or_ge i k with h | h
          · exact h
          · have := cntE_mono l (actE l i) (i := k + 1) (k := i) (by omega)
            omega
        cases ho : ownE l (actE l k) k with
        | none => exact absurd e (ownE_none ho i hlt)
        | some p =>
          obtain ⟨o1, o2, o3⟩ := ownE_lt ho
          have hip : i ≤ p := by
            rcases Nat.lt_or_ge p i with h | h
            · exact absurd e (o3 i h hlt)
            · exact h
          have hcp2 := (vE_cnt l p (actE l i)).2.2 (by rw [e]; exact o2.symm)
          have := cntE_mono l (actE l i) (i := i + 1) (k := p + 1) (by omega)
          exact step p (own_pred ho) (by omega)
    · obtain ⟨M, g1, _, _, g4⟩ := vE_law l k (actE l i)
      rw [if_neg e] at g1
      rcases g4 with g | ⟨p, hp, g⟩
      · omega
      · exact step p hp (by omega)
/-- Is an event ahead of another one? -/
def aheadE (l : List Ev) (i j : Nat) : Bool := decide (i < j) && decide (vE l i (actE l i) ≤ vE l j (actE l i))
theorem aheadE_iff {l : List Ev} {i j : Nat} : aheadE l i j = true ↔ i < j ∧ vE l i (actE l i) ≤ vE l j (actE l i) := by
  unfold aheadE
  simp
theorem ahead_trans {l : List Ev} {i j k : Nat} (h1 : aheadE l i j = true) (h2 : aheadE l j k = true) : aheadE l i k = true := by
  obtain ⟨a1, a2⟩ := aheadE_iff.1 h1
  obtain ⟨b1, b2⟩ := aheadE_iff.1 h2
  have := (vE_key l k j b2).2 (actE l i)
  exact aheadE_iff.2 ⟨by omega, by omega⟩
theorem ahead_own {l : List Ev} {i j : Nat} (h : i < j) (e : actE l i = actE l j) : aheadE l i j = true := by
  have h1 := (vE_cnt l i (actE l i)).2.2 rfl
  have h2 := (vE_cnt l j (actE l i)).2.2 e
  have := cntE_mono l (actE l i) (i := i + 1) (k := j + 1) (by omega)
  exact aheadE_iff.2 ⟨h, by omega⟩
/-- Of an actor's events up to this one, those that are ahead of it, or it. -/
def numE (l : List Ev) (j : Nat) (a : Int) : Nat → Int
  | 0 => 0
  | i + 1 => numE l j a i + if actE l i = a ∧ (i = j ∨ aheadE l i j = true) then 1 else 0
theorem numE_min (l : List Ev) (j : Nat) (a : Int) : ∀ i, i ≤ j + 1 → numE l j a i = min (cntE l a i) (vE l j a)
  | 0, _ => by
    have := (vE_cnt l j a).1
    show (0 : Int) = min 0 _
    omega
  | i + 1, hi => by
    have ih := numE_min l j a i (by omega)
    have hv := vE_cnt l j a
    rw [numE, cntE, ih]
    by_cases e : actE l i = a
    · have hc := (vE_cnt l i a).2.2 e.symm
      have hcc : cntE l a (i + 1) = cntE l a i + 1 := by rw [cntE, if_pos e]
      rw [if_pos e]
      by_cases hij : i = j
      · rw [if_pos ⟨e, .inl hij⟩]
        have h5 := hv.2.2 (by rw [← e, hij])
        rw [← hij] at h5 ⊢
        omega
      · by_cases ha : aheadE l i j = true
        · rw [if_pos ⟨e, .inr ha⟩]
          have := (aheadE_iff.1 ha).2
          rw [e] at this
          omega
        · rw [if_neg (fun h => by rcases h.2 with h | h; exact hij h; exact ha h)]
          have : ¬ vE l i (actE l i) ≤ vE l j (actE l i) := fun h => ha (aheadE_iff.2 ⟨by omega, h⟩)
          rw [e] at this
          omega
    · rw [if_neg e, if_neg (fun h => e h.1)]
      omega
/-- A clock counts just the events that are ahead, and its own. -/
theorem numE_val (l : List Ev) (j : Nat) (a : Int) : numE l j a (j + 1) = vE l j a := by
  rw [numE_min l j a (j + 1) (Nat.le_refl _)]
  have := (vE_cnt l j a).2.1
  omega
end Go.Cb
