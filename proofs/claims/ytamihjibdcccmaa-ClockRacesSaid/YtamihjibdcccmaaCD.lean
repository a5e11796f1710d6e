/- Plain laws: which events are ahead of which, by their clocks. -/
import Derived.Test.YtamihjibdcccmaaCA
set_option linter.unusedVariables false
set_option linter.unusedSimpArgs false
set_option linter.all false
namespace Go.Cb
/-- An event: of whom, what kind, a number, its cells. -/
structure Ev where
  a : Int
  k : Int
  n : Int
  cs : List (Int × Int × Bool)
instance : Inhabited Ev := ⟨⟨0, 0, 0, []⟩⟩
abbrev Tb := List (Int × Int)
def valT (t : Tb) (a : Int) : Int := (getT cmpI t a).getD 0
/-- A clock that has also what another one has. -/
def joinStep (t : Tb) (x : Int × Int) : Tb := if valT t x.1 < x.2 then putT cmpI t x.1 x.2 else t
def joinT (a b : Tb) : Tb := b.foldl joinStep a
/-- An actor's last event, of the first k ones. -/
def ownE (l : List Ev) (a : Int) : Nat → Option Nat
  | 0 => none
  | k + 1 => if (l.getD k default).a = a then some k else ownE l a k
/-- Of the first k events, those of a kind, of a number. -/
def kindE (l : List Ev) (kd n : Int) (k : Nat) : List Nat := (List.range k).filter fun i => (l.getD i default).k == kd && (l.getD i default).n == n
/-- Those that are just ahead of the event k: they are before it. -/
def predsE (l : List Ev) (k : Nat) : List Nat :=
  (ownE l (l.getD k default).a k).toList ++ kindE l 2 (l.getD k default).a k ++ (if (l.getD k default).k = 4 then kindE l 3 (l.getD k default).n k else [])
def joinsE (l : List Ev) (out : List Tb) (k : Nat) : Tb := (predsE l k).foldl (fun t p => joinT t (out.getD p [])) []
def oneE (l : List Ev) (out : List Tb) (k : Nat) : Tb := putT cmpI (joinsE l out k) (l.getD k default).a (valT (joinsE l out k) (l.getD k default).a + 1)
/-- The clocks of the first k events. -/
def clksE (l : List Ev) : Nat → List Tb
  | 0 => []
  | k + 1 => clksE l k ++ [oneE l (clksE l k) k]
def clkE (l : List Ev) (k : Nat) : Tb := (clksE l (k + 1)).getD k []
theorem clksE_len (l : List Ev) : ∀ k, (clksE l k).length = k
  | 0 => rfl
  | k + 1 => by rw [clksE, List.length_append, clksE_len l k]; rfl
theorem clksE_at (l : List Ev) {i : Nat} : ∀ {k : Nat}, i < k → (clksE l k).getD i [] = clkE l i
  | 0, h => absurd h (by omega)
  | k + 1, h => by
    by_cases e : i = k
    · rw [e]; rfl
    · rw [clksE, List.getD_eq_getElem?_getD, List.getElem?_append_left (by rw [clksE_len]; omega), ← List.getD_eq_getElem?_getD]
      exact clksE_at l (by omega)
theorem clkE_eq (l : List Ev) (k : Nat) : clkE l k = oneE l (clksE l k) k := by
  unfold clkE
  rw [clksE, List.getD_eq_getElem?_getD, List.getElem?_append_right (by rw [clksE_len]; omega), clksE_len, Nat.sub_self]
  rfl
theorem ownE_lt {l : List Ev} {a : Int} : ∀ {k p : Nat}, ownE l a k = some p → p < k ∧ (l.getD p default).a = a ∧ ∀ j, p < j → j < k → (l.getD j default).a ≠ a
  | 0, p, h => by cases h
  | k + 1, p, h => by
    rw [ownE] at h
    split at h
    · rename_i e
      injection h with h
      subst h
      exact ⟨by omega, e, fun j h1 h2 => absurd h2 (by omega)⟩
    · rename_i e
      obtain ⟨h1, h2, h3⟩ := ownE_lt h
      refine ⟨by omega, h2, fun j j1 j2 => ?_⟩
      by_cases e2 : j = k
      · rw [e2]; exact e
      · exact h3 j j1 (by omega)
theorem ownE_none {l : List Ev} {a : Int} : ∀ {k : Nat}, ownE l a k = none → ∀ j, j < k → (l.getD j default).a ≠ a
  | 0, _, j, hj => absurd hj (by omega)
  | k + 1, h, j, hj => by
    rw [ownE] at h
    split at h
    · cases h
    · rename_i e
      by_cases e2 : j = k
      · rw [e2]; exact e
      · exact ownE_none h j (by omega)
theorem predsE_lt {l : List Ev} {k p : Nat} (h : p ∈ predsE l k) : p < k := by
  unfold predsE at h
  have hk : ∀ kd n, p ∈ kindE l kd n k → p < k := fun kd n h => by
    unfold kindE at h
    exact List.mem_range.1 (List.mem_filter.1 h).1
  rcases List.mem_append.1 h with h | h
  · rcases List.mem_append.1 h with h | h
    · cases ho : ownE l (l.getD k default).a k with
      | none => rw [ho] at h; simp at h
      | some q =>
        rw [ho] at h
        obtain rfl : p = q := by simpa using h
        exact (ownE_lt ho).1
    · exact hk _ _ h
  · split at h
    · exact hk _ _ h
    · simp at h
/-! ### what a clock says -/
theorem get_put {t : Tb} (ht : tabOk cmpI t) (k v a : Int) : getT cmpI (putT cmpI t k v) a = if a = k then some v else getT cmpI t a := by
  have hp := putT_ok cmpI_ord ht k v
  by_cases e : a = k
  · subst e
    rw [if_pos rfl]
    exact (getT_iff cmpI_ord hp).2 ((putT_mem cmpI_ord ht a v _).2 (.inl rfl))
  · rw [if_neg e]
    cases hg : getT cmpI t a with
    | some u => exact (getT_iff cmpI_ord hp).2 ((putT_mem cmpI_ord ht k v _).2 (.inr ⟨(getT_iff cmpI_ord ht).1 hg, e⟩))
    | none =>
      cases hq : getT cmpI (putT cmpI t k v) a with
      | none => rfl
      | some u =>
        rcases (putT_mem cmpI_ord ht k v _).1 ((getT_iff cmpI_ord hp).1 hq) with h | h
        · exact absurd (Prod.mk.inj h).1 e
        · rw [(getT_iff cmpI_ord ht).2 h.1] at hg; cases hg
theorem valT_put {t : Tb} (ht : tabOk cmpI t) (k v a : Int) : valT (putT cmpI t k v) a = if a = k then v else valT t a := by
  unfold valT
  rw [get_put ht]
  split <;> rfl
theorem valT_mem {t : Tb} (ht : tabOk cmpI t) {a v : Int} (h : (a, v) ∈ t) : valT t a = v := by
  unfold valT
  rw [(getT_iff cmpI_ord ht).2 h]
  rfl
theorem joinStep_ok {t : Tb} (ht : tabOk cmpI t) (x : Int × Int) : tabOk cmpI (joinStep t x) := by
  unfold joinStep
  split
  · exact putT_ok cmpI_ord ht _ _
  · exact ht
theorem joinT_ok : ∀ (b : Tb) {t : Tb}, tabOk cmpI t → tabOk cmpI (joinT t b)
  | [], _, h => h
  | x :: b, _, h => joinT_ok b (joinStep_ok h x)
theorem joinStep_val {t : Tb} (ht : tabOk cmpI t) (x : Int × Int) (a : Int) : valT t a ≤ valT (joinStep t x) a ∧ (a = x.1 → x.2 ≤ valT (joinStep t x) a) ∧ (valT (joinStep t x) a = valT t a ∨ (a = x.1 ∧ valT (joinStep t x) a = x.2)) := by
  unfold joinStep
  by_cases h : valT t x.1 < x.2
  · rw [if_pos h, valT_put ht]
    by_cases e : a = x.1
    · subst e
      rw [if_pos rfl]
      exact ⟨by omega, fun _ => Int.le_refl _, .inr ⟨rfl, rfl⟩⟩
    · rw [if_neg e]
      exact ⟨Int.le_refl _, fun h => absurd h e, .inl rfl⟩
  · rw [if_neg h]
    exact ⟨Int.le_refl _, fun e => by rw [e]; omega, .inl rfl⟩
theorem joinT_val (a : Int) : ∀ (b : Tb) {t : Tb}, tabOk cmpI t → valT t a ≤ valT (joinT t b) a ∧ (∀ v, (a, v) ∈ b → v ≤ valT (joinT t b) a) ∧ (valT (joinT t b) a = valT t a ∨ ∃ v, (a, v) ∈ b ∧ valT (joinT t b) a = v)
  | [], t, _ => ⟨Int.le_refl _, fun v h => by simp at h, .inl rfl⟩
  | x :: b, t, ht => by
    obtain ⟨h1, h2, h3⟩ := joinStep_val ht x a
    obtain ⟨g1, g2, g3⟩ := joinT_val a b (joinStep_ok ht x)
    have e : joinT t (x :: b) = joinT (joinStep t x) b := rfl
    rw [e]
    refine ⟨by omega, fun v hv => ?_, ?_⟩
    · rcases List.mem_cons.1 hv with h | h
      · subst h
        have := h2 rfl
        dsimp only at this
        omega
      · exact g2 v h
    · rcases g3 with g | ⟨v, hv, g⟩
      · rcases h3 with h | ⟨h, h'⟩
        · exact .inl (by omega)
        · refine .inr ⟨x.2, by rw [h]; exact List.mem_cons_self .., by omega⟩
      · exact .inr ⟨v, List.mem_cons_of_mem _ hv, g⟩
/-- A clock: rising, its numbers are one or more. -/
structure TbOk (t : Tb) : Prop where
  ok : tabOk cmpI t
  pos : ∀ x ∈ t, 1 ≤ x.2
theorem TbOk.nil : TbOk [] := ⟨tabOk_nil, fun x hx => by simp at hx⟩
theorem TbOk.val {t : Tb} (h : TbOk t) (a : Int) : 0 ≤ valT t a ∧ (1 ≤ valT t a → (a, valT t a) ∈ t) ∧ (valT t a = 0 → getT cmpI t a = none) := by
  unfold valT
  cases hg : getT cmpI t a with
  | none => exact ⟨Int.le_refl _, fun h => absurd h (by simp), fun _ => rfl⟩
  | some v =>
    have hm := (getT_iff cmpI_ord h.ok).1 hg
    have := h.pos _ hm
    dsimp only at this
    refine ⟨by simp; omega, fun _ => hm, fun e => ?_⟩
    have e2 : v = 0 := e
    omega
theorem TbOk.put {t : Tb} (h : TbOk t) (k v : Int) (hv : 1 ≤ v) : TbOk (putT cmpI t k v) := ⟨putT_ok cmpI_ord h.ok _ _, fun x hx => by
  rcases (putT_mem cmpI_ord h.ok k v x).1 hx with e | e
  · rw [e]; exact hv
  · exact h.pos x e.1⟩
theorem TbOk.joinStep {t : Tb} (h : TbOk t) {x : Int × Int} (hx : 1 ≤ x.2) : TbOk (joinStep t x) := by
  unfold Go.Cb.joinStep
  split
  · exact h.put _ _ hx
  · exact h
theorem TbOk.join : ∀ {b t : Tb}, TbOk t → (∀ x ∈ b, 1 ≤ x.2) → TbOk (joinT t b)
  | [], _, h, _ => h
  | x :: b, t, h, hb => TbOk.join (b := b) (h.joinStep (hb x (by simp))) (fun y hy => hb y (by simp [hy]))
/-- Both of two clocks. -/
theorem join_max {t b : Tb} (ht : TbOk t) (hb : TbOk b) (a : Int) : valT (joinT t b) a = max (valT t a) (valT b a) := by
  obtain ⟨h1, h2, h3⟩ := joinT_val a b ht.ok
  obtain ⟨b1, b2, b3⟩ := hb.val a
  obtain ⟨t1, _, _⟩ := ht.val a
  have h4 : valT b a ≤ valT (joinT t b) a := by
    by_cases h : 1 ≤ valT b a
    · exact h2 _ (b2 h)
    · omega
  rcases h3 with h | ⟨v, hv, h⟩
  · omega
  · have := valT_mem hb.ok hv
    omega
theorem joins_ok : ∀ (ps : List Nat) {out : List Tb} {t : Tb}, TbOk t → (∀ p, TbOk (out.getD p [])) → TbOk (ps.foldl (fun t p => joinT t (out.getD p [])) t)
  | [], _, _, h, _ => h
  | p :: ps, out, t, h, ho => joins_ok ps (h.join (ho p).pos) ho
theorem joins_val (a : Int) : ∀ (ps : List Nat) {out : List Tb} {t : Tb}, TbOk t → (∀ p, TbOk (out.getD p [])) →
    valT t a ≤ valT (ps.foldl (fun t p => joinT t (out.getD p [])) t) a ∧ (∀ p ∈ ps, valT (out.getD p []) a ≤ valT (ps.foldl (fun t p => joinT t (out.getD p [])) t) a) ∧
    (valT (ps.foldl (fun t p => joinT t (out.getD p [])) t) a = valT t a ∨ ∃ p ∈ ps, valT (ps.foldl (fun t p => joinT t (out.getD p [])) t) a = valT (out.getD p []) a)
  | [], _, t, _, _ => ⟨Int.le_refl _, fun p h => by simp at h, .inl rfl⟩
  | p :: ps, out, t, ht, ho => by
    have hm := join_max ht (ho p) a
    obtain ⟨g1, g2, g3⟩ := joins_val a ps (out := out) (t := joinT t (out.getD p [])) (ht.join (ho p).pos) ho
    rw [List.foldl_cons]
    refine ⟨by omega, fun q hq => ?_, ?_⟩
    · rcases List.mem_cons.1 hq with rfl | hq
      · omega
      · exact g2 q hq
    · rcases g3 with g | ⟨q, hq, g⟩
      · by_cases hle : valT (out.getD p []) a ≤ valT t a
        · exact .inl (by omega)
        · exact .inr ⟨p, by simp, by omega⟩
      · exact .inr ⟨q, List.mem_cons_of_mem _ hq, g⟩
theorem clksE_ok (l : List Ev) : ∀ k, ∀ p, TbOk ((clksE l k).getD p [])
  | 0, p => by rw [clksE]; simpa using TbOk.nil
  | k + 1, p => by
    rw [clksE, List.getD_eq_getElem?_getD]
    by_cases h : p < k
    · rw [List.getElem?_append_left (by rw [clksE_len]; exact h), ← List.getD_eq_getElem?_getD]
      exact clksE_ok l k p
    · rw [List.getElem?_append_right (by rw [clksE_len]; omega), clksE_len]
      rcases Nat.eq_zero_or_pos (p - k) with e | e
      · rw [e]
        have hj : TbOk (joinsE l (clksE l k) k) := joins_ok _ TbOk.nil (clksE_ok l k)
        exact hj.put _ _ (by have := (hj.val (l.getD k default).a).1; omega)
      · rw [List.getElem?_eq_none (by simp; omega)]
        exact TbOk.nil
theorem clkE_ok (l : List Ev) (k : Nat) : TbOk (clkE l k) := clksE_ok l (k + 1) k
def actE (l : List Ev) (i : Nat) : Int := (l.getD i default).a
def vE (l : List Ev) (k : Nat) (a : Int) : Int := valT (clkE l k) a
theorem vE_law (l : List Ev) (k : Nat) (a : Int) : ∃ M, vE l k a = (if a = actE l k then M + 1 else M) ∧ 0 ≤ M ∧ (∀ p ∈ predsE l k, vE l p a ≤ M) ∧ (M = 0 ∨ ∃ p ∈ predsE l k, M = vE l p a) := by
  have hok : ∀ p, TbOk ((clksE l k).getD p []) := clksE_ok l k
  have hj : TbOk (joinsE l (clksE l k) k) := joins_ok _ TbOk.nil hok
  obtain ⟨g1, g2, g3⟩ := joins_val a (predsE l k) (out := clksE l k) TbOk.nil hok
  have hat : ∀ p ∈ predsE l k, valT ((clksE l k).getD p []) a = vE l p a := fun p hp => by unfold vE; rw [clksE_at l (predsE_lt hp)]
  refine ⟨valT (joinsE l (clksE l k) k) a, ?_, (hj.val a).1, fun p hp => by rw [← hat p hp]; exact g2 p hp, ?_⟩
  · unfold vE
    rw [clkE_eq]
    unfold oneE
    rw [valT_put hj.ok]
    unfold actE
    split
    · rename_i e; rw [e]
    · rfl
  · rcases g3 with g | ⟨p, hp, g⟩
    · exact .inl g
    · exact .inr ⟨p, hp, by rw [← hat p hp]; exact g⟩
/-- How many of an actor's events there are among the first. -/
def cntE (l : List Ev) (a : Int) : Nat → Int
  | 0 => 0
  | k + 1 => cntE l a k + if actE l k = a then 1 else 0
theorem cntE_mono (l : List Ev) (a : Int) {i : Nat} : ∀ {k : Nat}, i ≤ k → cntE l a i ≤ cntE l a k
  | 0, h => by rw [show i = 0 by omega]; exact Int.le_refl _
  | k + 1, h => by
    by_cases e : i = k + 1
    · rw [e]; exact Int.le_refl _
    · have := cntE_mono l a (i := i) (k := k) (by omega)
      rw [cntE]
      split <;> omega
theorem cntE_same (l : List Ev) (a : Int) {i : Nat} : ∀ {k : Nat}, i ≤ k → (∀ j, i ≤ j → j < k → actE l j ≠ a) → cntE l a k = cntE l a i
  | 0, h, _ => by rw [show i = 0 by omega]
  | k + 1, h, hn => by
    by_cases e : i = k + 1
    · rw [e]
    · rw [cntE, if_neg (hn k (by omega) (by omega)), Int.add_zero]
      exact cntE_same l a (by omega) (fun j h1 h2 => hn j h1 (by omega))
theorem cntE_own {l : List Ev} {a : Int} {k p : Nat} (h : ownE l a k = some p) : cntE l a k = cntE l a (p + 1) := by
  obtain ⟨h1, _, h3⟩ := ownE_lt h
  exact cntE_same l a (by omega) (fun j j1 j2 => h3 j (by omega) j2)
theorem cntE_none {l : List Ev} {a : Int} {k : Nat} (h : ownE l a k = none) : cntE l a k = 0 := by
  have := cntE_same l a (i := 0) (k := k) (by omega) (fun j _ j2 => ownE_none h j j2)
  rw [this]; rfl
theorem own_pred {l : List Ev} {k p : Nat} (h : ownE l (actE l k) k = some p) : p ∈ predsE l k := by
  unfold predsE
  rw [show (l.getD k default).a = actE l k from rfl, h]
  simp
/-- A clock never counts more than there are; of its own actor, just all. -/
theorem vE_cnt (l : List Ev) : ∀ (k : Nat) (a : Int), 0 ≤ vE l k a ∧ vE l k a ≤ cntE l a (k + 1) ∧ (a = actE l k → vE l k a = cntE l a (k + 1)) := by
  intro k
  induction k using Nat.strongRecOn with
  | ind k ih =>
    intro a
    obtain ⟨M, h1, h2, h3, h4⟩ := vE_law l k a
    have hc : cntE l a (k + 1) = cntE l a k + if actE l k = a then 1 else 0 := rfl
    have hM : M ≤ cntE l a k := by
      rcases h4 with h | ⟨p, hp, h⟩
      · rw [h]; have := cntE_mono l a (i := 0) (k := k) (by omega); exact this
      · have hlt := predsE_lt hp
        have := (ih p hlt a).2.1
        have := cntE_mono l a (i := p + 1) (k := k) (by omega)
        omega
    by_cases e : a = actE l k
    · rw [if_pos e] at h1
      rw [if_pos e.symm] at hc
      have hE : M = cntE l a k := by
        cases ho : ownE l (actE l k) k with
        | none =>
          have := cntE_none ho
          rw [← e] at this
          omega
        | some p =>
          have hp := own_pred ho
          obtain ⟨o1, o2, _⟩ := ownE_lt ho
          have h5 := (ih p o1 a).2.2 (by rw [e]; exact o2.symm)
          have h6 := h3 p hp
          have h7 := cntE_own ho
          rw [← e] at h7
          omega
      exact ⟨by omega, by omega, fun _ => by omega⟩
    · rw [if_neg e] at h1
      rw [if_neg (fun h => e h.symm)] at hc
      exact ⟨by omega, by omega, fun h => absurd h e⟩
/-- What a clock counts is ahead: all that one counts, it counts, too. -/
theorem vE_key (l : List Ev) : ∀ (k i : Nat), vE l i (actE l i) ≤ vE l k (actE l i) → i ≤ k ∧ ∀ a, vE l i a ≤ vE l k a := by
  intro k
  induction k using Nat.strongRecOn with
  | ind k ih =>
    intro i hi
    have hci := (vE_cnt l i (actE l i)).2.2 rfl
    have hcp : cntE l (actE l i) (i + 1) = cntE l (actE l i) i + 1 := by rw [cntE, if_pos rfl]
    have hc0 := cntE_mono l (actE l i) (i := 0) (k := i) (by omega)
    have hc00 : cntE l (actE l i) 0 = 0 := rfl
    have step : ∀ p ∈ predsE l k, vE l i (actE l i) ≤ vE l p (actE l i) → i ≤ k ∧ ∀ a, vE l i a ≤ vE l k a := fun p hp h => by
      have hlt := predsE_lt hp
      obtain ⟨h1, h2⟩ := ih p hlt i h
      refine ⟨by omega, fun a => ?_⟩
      obtain ⟨M, g1, _, g3, _⟩ := vE_law l k a
      have := g3 p hp
      have := h2 a
      split at g1 <;> omega
    by_cases e : actE l i = actE l k
    · have hck := (vE_cnt l k (actE l i)).2.2 e
      by_cases e2 : i = k
      · rw [e2]; exact ⟨Nat.le_refl _, fun _ => Int.le_refl _⟩
      · have hlt : i < k := by
          rcases Nat.lt_or_ge i k with h | h
          · exact h
          · have := cntE_mono l (actE l i) (i := k + 1) (k := i) (by omega)
            omega
        cases ho : ownE l (actE l k) k with
        | none => exact absurd e (ownE_none ho i hlt)
        | some p =>
          obtain ⟨o1, o2, o3⟩ := ownE_lt ho
          have hip : i ≤ p := by
            rcases Nat.lt_or_ge p i with h | h
            · exact absurd e (o3 i h hlt)
            · exact h
          have hcp2 := (vE_cnt l p (actE l i)).2.2 (by rw [e]; exact o2.symm)
          have := cntE_mono l (actE l i) (i := i + 1) (k := p + 1) (by omega)
          exact step p (own_pred ho) (by omega)
    · obtain ⟨M, g1, _, _, g4⟩ := vE_law l k (actE l i)
      rw [if_neg e] at g1
      rcases g4 with g | ⟨p, hp, g⟩
      · omega
      · exact step p hp (by omega)
/-- Is an event ahead of another one? -/
def aheadE (l : List Ev) (i j : Nat) : Bool := decide (i < j) && decide (vE l i (actE l i) ≤ vE l j (actE l i))
theorem aheadE_iff {l : List Ev} {i j : Nat} : aheadE l i j = true ↔ i < j ∧ vE l i (actE l i) ≤ vE l j (actE l i) := by
  unfold aheadE
  simp
theorem ahead_trans {l : List Ev} {i j k : Nat} (h1 : aheadE l i j = true) (h2 : aheadE l j k = true) : aheadE l i k = true := by
  obtain ⟨a1, a2⟩ := aheadE_iff.1 h1
  obtain ⟨b1, b2⟩ := aheadE_iff.1 h2
  have := (vE_key l k j b2).2 (actE l i)
  exact aheadE_iff.2 ⟨by omega, by omega⟩
theorem ahead_own {l : List Ev} {i j : Nat} (h : i < j) (e : actE l i = actE l j) : aheadE l i j = true := by
  have h1 := (vE_cnt l i (actE l i)).2.2 rfl
  have h2 := (vE_cnt l j (actE l i)).2.2 e
  have := cntE_mono l (actE l i) (i := i + 1) (k := j + 1) (by omega)
  exact aheadE_iff.2 ⟨h, by omega⟩
/-- Of an actor's events up to this one, those that are ahead of it, or it. -/
def numE (l : List Ev) (j : Nat) (a : Int) : Nat → Int
  | 0 => 0
  | i + 1 => numE l j a i + if actE l i = a ∧ (i = j ∨ aheadE l i j = true) then 1 else 0
theorem numE_min (l : List Ev) (j : Nat) (a : Int) : ∀ i, i ≤ j + 1 → numE l j a i = min (cntE l a i) (vE l j a)
  | 0, _ => by
    have := (vE_cnt l j a).1
    show (0 : Int) = min 0 _
    omega
  | i + 1, hi => by
    have ih := numE_min l j a i (by omega)
    have hv := vE_cnt l j a
    rw [numE, cntE, ih]
    by_cases e : actE l i = a
    · have hc := (vE_cnt l i a).2.2 e.symm
      have hcc : cntE l a (i + 1) = cntE l a i + 1 := by rw [cntE, if_pos e]
      rw [if_pos e]
      by_cases hij : i = j
      · rw [if_pos ⟨e, .inl hij⟩]
        have h5 := hv.2.2 (by rw [← e, hij])
        rw [← hij] at h5 ⊢
        omega
      · by_cases ha : aheadE l i j = true
        · rw [if_pos ⟨e, .inr ha⟩]
          have := (aheadE_iff.1 ha).2
          rw [e] at this
          omega
        · rw [if_neg (fun h => by rcases h.2 with h | h; exact hij h; exact ha h)]
          have : ¬ vE l i (actE l i) ≤ vE l j (actE l i) := fun h => ha (aheadE_iff.2 ⟨by omega, h⟩)
          rw [e] at this
          omega
    · rw [if_neg e, if_neg (fun h => e h.1)]
      omega
/-- A clock counts just the events that are ahead, and its own. -/
theorem numE_val (l : List Ev) (j : Nat) (a : Int) : numE l j a (j + 1) = vE l j a := by
  rw [numE_min l j a (j + 1) (Nat.le_refl _)]
  have := (vE_cnt l j a).2.1
  omega
end Go.Cb

/- Plain laws: clocks are short; which events race. -/
namespace Go.Cb
theorem nodup_len : ∀ (A t : List Int), t.Nodup → (∀ x ∈ t, x ∈ A) → t.length ≤ A.length
  | [], t, _, h => by
    cases t with
    | nil => simp
    | cons x r => exact absurd (h x (by simp)) (by simp)
  | a :: A, t, hn, h => by
    have h1 := nodup_len A (t.erase a) (hn.erase a) (fun x hx => by
      obtain ⟨h1, h2⟩ := (hn.mem_erase_iff).1 hx
      rcases List.mem_cons.1 (h x h2) with e | e
      · exact absurd e h1
      · exact e)
    have h2 := List.length_erase (l := t) (a := a)
    rw [List.length_cons]
    split at h2 <;> omega
/-- All its names are of those that did one of the first events. -/
def KeysE (l : List Ev) (N : Nat) (t : Tb) : Prop := ∀ x ∈ t, ∃ i, i < N ∧ x.1 = actE l i
theorem KeysE.mono {l : List Ev} {N M : Nat} {t : Tb} (h : KeysE l N t) (hm : N ≤ M) : KeysE l M t := fun x hx => by
  obtain ⟨i, h1, h2⟩ := h x hx
  exact ⟨i, by omega, h2⟩
theorem KeysE.nil (l : List Ev) (N : Nat) : KeysE l N [] := fun x hx => by simp at hx
theorem KeysE.put {l : List Ev} {N : Nat} {t : Tb} (h : KeysE l N t) (ht : tabOk cmpI t) {k : Int} (v : Int) (hk : ∃ i, i < N ∧ k = actE l i) : KeysE l N (putT cmpI t k v) := fun x hx => by
  rcases (putT_mem cmpI_ord ht k v x).1 hx with e | e
  · rw [e]; exact hk
  · exact h x e.1
theorem KeysE.step {l : List Ev} {N : Nat} {t : Tb} (h : KeysE l N t) (ht : tabOk cmpI t) {x : Int × Int} (hx : ∃ i, i < N ∧ x.1 = actE l i) : KeysE l N (joinStep t x) := by
  unfold joinStep
  split
  · exact h.put ht _ hx
  · exact h
theorem KeysE.join {l : List Ev} {N : Nat} : ∀ {b t : Tb}, KeysE l N t → tabOk cmpI t → KeysE l N b → KeysE l N (joinT t b)
  | [], _, h, _, _ => h
  | x :: b, t, h, ht, hb => KeysE.join (b := b) (h.step ht (hb x (by simp))) (joinStep_ok ht x) (fun y hy => hb y (by simp [hy]))
theorem KeysE.joins {l : List Ev} {N : Nat} {out : List Tb} (ho : ∀ p, TbOk (out.getD p [])) (hk : ∀ p, KeysE l N (out.getD p [])) : ∀ (ps : List Nat) {t : Tb}, KeysE l N t → tabOk cmpI t → KeysE l N (ps.foldl (fun t p => joinT t (out.getD p [])) t)
  | [], _, h, _ => h
  | p :: ps, t, h, ht => KeysE.joins ho hk ps (h.join ht (hk p)) (joinT_ok _ ht)
theorem clksE_keys (l : List Ev) : ∀ k p, KeysE l k ((clksE l k).getD p [])
  | 0, p => by rw [clksE]; simpa using KeysE.nil l 0
  | k + 1, p => by
    rw [clksE, List.getD_eq_getElem?_getD]
    by_cases h : p < k
    · rw [List.getElem?_append_left (by rw [clksE_len]; exact h), ← List.getD_eq_getElem?_getD]
      exact (clksE_keys l k p).mono (by omega)
    · rw [List.getElem?_append_right (by rw [clksE_len]; omega), clksE_len]
      rcases Nat.eq_zero_or_pos (p - k) with e | e
      · rw [e]
        have hj : KeysE l k (joinsE l (clksE l k) k) := KeysE.joins (clksE_ok l k) (clksE_keys l k) _ (KeysE.nil l k) tabOk_nil
        exact (hj.mono (M := k + 1) (by omega)).put (joins_ok _ TbOk.nil (clksE_ok l k)).ok _ ⟨k, by omega, rfl⟩
      · rw [List.getElem?_eq_none (by simp; omega)]
        exact KeysE.nil _ _
theorem KeysE.len {l : List Ev} {N : Nat} {t : Tb} (h : KeysE l N t) (ht : tabOk cmpI t) : t.length ≤ N := by
  have h1 : (t.map (·.1)).Nodup := by
    rw [List.nodup_iff_pairwise_ne, List.pairwise_map]
    refine ht.imp (fun {x y} h e => ?_)
    rw [e] at h
    have := (cmpI_ord.zero y.1 y.1).2 rfl
    omega
  have h2 := nodup_len ((List.range N).map (actE l)) (t.map (·.1)) h1 (fun k hk => by
    obtain ⟨x, hx, rfl⟩ := List.mem_map.1 hk
    obtain ⟨i, hi, e⟩ := h x hx
    exact List.mem_map.2 ⟨i, List.mem_range.2 hi, e.symm⟩)
  simpa using h2
/-- The state of joining behind some of them: its numbers, its length. -/
structure MidE (l : List Ev) (k : Nat) (t : Tb) : Prop where
  ok : TbOk t
  keys : KeysE l k t
theorem MidE.nil (l : List Ev) (k : Nat) : MidE l k [] := ⟨TbOk.nil, KeysE.nil l k⟩
theorem MidE.join {l : List Ev} {k p : Nat} {t : Tb} (h : MidE l k t) (hp : p < k) : MidE l k (joinT t (clkE l p)) := by
  have h1 := clksE_keys l k p
  rw [clksE_at l hp] at h1
  exact ⟨h.ok.join (clkE_ok l p).pos, h.keys.join h.ok.ok h1⟩
theorem MidE.len {l : List Ev} {k : Nat} {t : Tb} (h : MidE l k t) : t.length ≤ k := h.keys.len h.ok.ok
/-- All that came before, joined, as the code joins them. -/
theorem foldl_clk (l : List Ev) {k : Nat} : ∀ (ps : List Nat) (t : Tb), (∀ p ∈ ps, p < k) → ps.foldl (fun t p => joinT t ((clksE l k).getD p [])) t = ps.foldl (fun t p => joinT t (clkE l p)) t
  | [], _, _ => rfl
  | p :: ps, t, h => by
    rw [List.foldl_cons, List.foldl_cons, clksE_at l (h p (by simp))]
    exact foldl_clk l ps _ (fun q hq => h q (by simp [hq]))
theorem clkE_put (l : List Ev) (k : Nat) : clkE l k = putT cmpI ((predsE l k).foldl (fun t p => joinT t (clkE l p)) []) (actE l k) (valT ((predsE l k).foldl (fun t p => joinT t (clkE l p)) []) (actE l k) + 1) := by
  rw [clkE_eq]
  unfold oneE joinsE
  rw [foldl_clk l _ _ (fun p hp => predsE_lt hp)]
  rfl
theorem clkE_val_le (l : List Ev) (k : Nat) (a : Int) : 0 ≤ vE l k a ∧ vE l k a ≤ (k : Int) + 1 := by
  obtain ⟨h1, h2, _⟩ := vE_cnt l k a
  have : ∀ n, cntE l a n ≤ (n : Int) := fun n => by
    induction n with
    | zero => exact Int.le_refl _
    | succ n ih => rw [cntE]; split <;> omega
  have := this (k + 1)
  omega
/-! ### races -/
def clashE (x y : Ev) : Bool := x.cs.any fun p => y.cs.any fun q => p.1 == q.1 && p.2.1 == q.2.1 && (p.2.2 || q.2.2)
def raceE (l : List Ev) (i j : Nat) : Bool := decide (actE l i ≠ actE l j) && clashE (l.getD i default) (l.getD j default) && !aheadE l i j
/-- The races with the second one j, of the first i. -/
def raceRow (l : List Ev) (j : Nat) : Nat → List (Int × Int)
  | 0 => []
  | i + 1 => raceRow l j i ++ if raceE l i j = true then [((i : Int), (j : Int))] else []
def racesE (l : List Ev) : Nat → List (Int × Int)
  | 0 => []
  | j + 1 => racesE l j ++ raceRow l j j
end Go.Cb

/- Plain laws: the document's order of events and its clocks are those of the code. -/
namespace Go.Cb
/-- Is an event just ahead of another one? -/
def dirE (l : List Ev) (i j : Nat) : Bool :=
  actE l i == actE l j || ((l.getD i default).k == 2 && (l.getD i default).n == actE l j) || ((l.getD i default).k == 3 && ((l.getD j default).k == 4 && (l.getD i default).n == (l.getD j default).n))
theorem pred_ahead {l : List Ev} {p k : Nat} (h : p ∈ predsE l k) : aheadE l p k = true := by
  obtain ⟨M, g1, _, g3, _⟩ := vE_law l k (actE l p)
  have h3 := g3 p h
  have h4 := predsE_lt h
  exact aheadE_iff.2 ⟨h4, by split at g1 <;> omega⟩
theorem kindE_mem {l : List Ev} {kd n : Int} {k i : Nat} : i ∈ kindE l kd n k ↔ i < k ∧ (l.getD i default).k = kd ∧ (l.getD i default).n = n := by
  unfold kindE
  rw [List.mem_filter, List.mem_range, Bool.and_eq_true, beq_iff_eq, beq_iff_eq]
theorem pred_dir {l : List Ev} {p k : Nat} (h : p ∈ predsE l k) : dirE l p k = true := by
  unfold predsE at h
  unfold dirE
  rcases List.mem_append.1 h with h | h
  · rcases List.mem_append.1 h with h | h
    · cases ho : ownE l (l.getD k default).a k with
      | none => rw [ho] at h; simp at h
      | some q =>
        rw [ho] at h
        obtain rfl : p = q := by simpa using h
        have e : actE l p = actE l k := (ownE_lt ho).2.1
        rw [e, beq_self_eq_true]; rfl
    · obtain ⟨_, h2, h3⟩ := kindE_mem.1 h
      rw [h2, h3]
      unfold actE
      simp
  · split at h
    · rename_i e
      obtain ⟨_, h2, h3⟩ := kindE_mem.1 h
      rw [h2, h3, e]
      simp
    · simp at h
theorem dir_ahead {l : List Ev} {i j : Nat} (hij : i < j) (h : dirE l i j = true) : aheadE l i j = true := by
  unfold dirE at h
  rw [Bool.or_eq_true, Bool.or_eq_true, Bool.and_eq_true, Bool.and_eq_true, Bool.and_eq_true, beq_iff_eq, beq_iff_eq, beq_iff_eq, beq_iff_eq, beq_iff_eq, beq_iff_eq] at h
  rcases h with (h | ⟨h1, h2⟩) | ⟨h1, h2, h3⟩
  · exact ahead_own hij h
  · refine pred_ahead ?_
    unfold predsE
    exact List.mem_append_left _ (List.mem_append_right _ (kindE_mem.2 ⟨hij, h1, h2⟩))
  · refine pred_ahead ?_
    unfold predsE
    rw [if_pos h2]
    exact List.mem_append_right _ (kindE_mem.2 ⟨hij, h1, h3⟩)
/-- What is ahead is just ahead, or ahead of something that is ahead. -/
theorem ahead_step {l : List Ev} {i j : Nat} (h : aheadE l i j = true) : dirE l i j = true ∨ ∃ p, i < p ∧ p < j ∧ aheadE l i p = true ∧ aheadE l p j = true := by
  obtain ⟨hij, hv⟩ := aheadE_iff.1 h
  by_cases e : actE l i = actE l j
  · left
    unfold dirE
    rw [e, beq_self_eq_true]; rfl
  · obtain ⟨M, g1, _, _, g4⟩ := vE_law l j (actE l i)
    rw [if_neg e] at g1
    have hci := (vE_cnt l i (actE l i)).2.2 rfl
    have hcp : cntE l (actE l i) (i + 1) = cntE l (actE l i) i + 1 := by rw [cntE, if_pos rfl]
    have hc0 := cntE_mono l (actE l i) (i := 0) (k := i) (by omega)
    have hc00 : cntE l (actE l i) 0 = 0 := rfl
    rcases g4 with g | ⟨p, hp, g⟩
    · omega
    · have hlt := predsE_lt hp
      obtain ⟨h1, _⟩ := vE_key l p i (by omega)
      by_cases e2 : i = p
      · left; rw [e2]; exact pred_dir hp
      · exact .inr ⟨p, by omega, hlt, aheadE_iff.2 ⟨by omega, by omega⟩, pred_ahead hp⟩
/-- What the document's row of j says of k, when all from i on have been looked at. -/
def ordA (l : List Ev) (j i k : Nat) : Bool := (decide (i ≤ k) && aheadE l k j) || (List.range j).any fun p => decide (i ≤ p) && (aheadE l p j && aheadE l k p)
theorem ordA_iff {l : List Ev} {j i k : Nat} : ordA l j i k = true ↔ (i ≤ k ∧ aheadE l k j = true) ∨ ∃ p, p < j ∧ i ≤ p ∧ aheadE l p j = true ∧ aheadE l k p = true := by
  unfold ordA
  rw [Bool.or_eq_true, Bool.and_eq_true, decide_eq_true_iff, List.any_eq_true]
  refine or_congr Iff.rfl ⟨?_, ?_⟩
  · rintro ⟨p, h1, h2⟩
    rw [Bool.and_eq_true, decide_eq_true_iff, Bool.and_eq_true] at h2
    exact ⟨p, List.mem_range.1 h1, h2⟩
  · rintro ⟨p, h1, h2, h3, h4⟩
    exact ⟨p, List.mem_range.2 h1, by rw [decide_eq_true h2, h3, h4]; rfl⟩
theorem bool_iff {a b : Bool} (h : a = true ↔ b = true) : a = b := by
  cases a <;> cases b <;> simp_all
theorem ordA_up {l : List Ev} {j i k : Nat} (h : i ≤ k) : ordA l j i k = aheadE l k j := bool_iff (by
  rw [ordA_iff]
  exact ⟨fun hh => by
    rcases hh with ⟨_, h2⟩ | ⟨p, _, _, h2, h3⟩
    · exact h2
    · exact ahead_trans h3 h2, fun hh => .inl ⟨h, hh⟩⟩)
theorem ordA_start {l : List Ev} {j k : Nat} (h : k < j) : ordA l j j k = false := by
  have h2 := (ordA_iff (l := l) (j := j) (i := j) (k := k)).1
  cases hc : ordA l j j k with
  | false => rfl
  | true =>
    rcases h2 hc with ⟨h3, _⟩ | ⟨p, h3, h4, _⟩ <;> omega
/-- The test of the document. -/
theorem ordA_test {l : List Ev} {j i : Nat} (h : i < j) : (ordA l j (i + 1) i || dirE l i j) = aheadE l i j := bool_iff (by
  rw [Bool.or_eq_true, ordA_iff]
  constructor
  · rintro ((⟨h1, _⟩ | ⟨p, _, _, h2, h3⟩) | h1)
    · omega
    · exact ahead_trans h3 h2
    · exact dir_ahead h h1
  · intro hh
    rcases ahead_step hh with h1 | ⟨p, h1, h2, h3, h4⟩
    · exact .inr h1
    · exact .inl (.inr ⟨p, h2, by omega, h4, h3⟩))
theorem ordA_no {l : List Ev} {j i k : Nat} (h : aheadE l i j = false) : ordA l j i k = ordA l j (i + 1) k := bool_iff (by
  rw [ordA_iff, ordA_iff]
  constructor
  · rintro (⟨h1, h2⟩ | ⟨p, h1, h2, h3, h4⟩)
    · by_cases e : k = i
      · rw [e, h] at h2; cases h2
      · exact .inl ⟨by omega, h2⟩
    · by_cases e : p = i
      · rw [e, h] at h3; cases h3
      · exact .inr ⟨p, h1, by omega, h3, h4⟩
  · rintro (⟨h1, h2⟩ | ⟨p, h1, h2, h3, h4⟩)
    · exact .inl ⟨by omega, h2⟩
    · exact .inr ⟨p, h1, by omega, h3, h4⟩)
theorem ordA_yes {l : List Ev} {j i k : Nat} (hij : i < j) (h : aheadE l i j = true) (hk : k < i) : ordA l j i k = (ordA l j (i + 1) k || aheadE l k i) := bool_iff (by
  rw [Bool.or_eq_true, ordA_iff, ordA_iff]
  constructor
  · rintro (⟨h1, h2⟩ | ⟨p, h1, h2, h3, h4⟩)
    · omega
    · by_cases e : p = i
      · rw [e] at h4; exact .inr h4
      · exact .inl (.inr ⟨p, h1, by omega, h3, h4⟩)
  · rintro ((⟨h1, h2⟩ | ⟨p, h1, h2, h3, h4⟩) | h1)
    · omega
    · exact .inr ⟨p, h1, by omega, h3, h4⟩
    · exact .inr ⟨i, hij, Nat.le_refl _, h, h1⟩)
def ordRow (l : List Ev) (j i : Nat) : List Bool := (List.range j).map (ordA l j i)
/-- The row of j: which are ahead of it. -/
def rowE (l : List Ev) (j : Nat) : List Bool := (List.range j).map fun k => aheadE l k j
def rowsE (l : List Ev) (n : Nat) : List (List Bool) := (List.range n).map (rowE l)
theorem ordRow_len (l : List Ev) (j i : Nat) : (ordRow l j i).length = j := by unfold ordRow; simp
theorem rowE_len (l : List Ev) (j : Nat) : (rowE l j).length = j := by unfold rowE; simp
theorem rowsE_len (l : List Ev) (n : Nat) : (rowsE l n).length = n := by unfold rowsE; simp
theorem map_range_get {α : Type} (f : Nat → α) (n k : Nat) : ((List.range n).map f)[k]? = if k < n then some (f k) else none := by
  rw [List.getElem?_map]
  by_cases h : k < n
  · rw [if_pos h, List.getElem?_range h]; rfl
  · rw [if_neg h, List.getElem?_eq_none (by simp; omega)]; rfl
theorem rowE_get {l : List Ev} {j k : Nat} (h : k < j) : (rowE l j)[k]? = some (aheadE l k j) := by
  unfold rowE; rw [map_range_get, if_pos h]
theorem ordRow_get {l : List Ev} {j i k : Nat} (h : k < j) : (ordRow l j i)[k]? = some (ordA l j i k) := by
  unfold ordRow; rw [map_range_get, if_pos h]
theorem rowsE_get {l : List Ev} {n k : Nat} (h : k < n) : (rowsE l n)[k]? = some (rowE l k) := by
  unfold rowsE; rw [map_range_get, if_pos h]
theorem rowsE_next (l : List Ev) (n : Nat) : rowsE l (n + 1) = rowsE l n ++ [rowE l n] := by
  unfold rowsE; rw [List.range_succ, List.map_append]; rfl
theorem ordRow_start (l : List Ev) (j : Nat) : ordRow l j j = List.replicate j false := by
  apply List.ext_getElem?
  intro k
  unfold ordRow
  rw [map_range_get, List.getElem?_replicate]
  by_cases h : k < j
  · rw [if_pos h, if_pos h, ordA_start h]
  · rw [if_neg h, if_neg h]
theorem ordRow_end (l : List Ev) (j : Nat) : ordRow l j 0 = rowE l j := by
  unfold ordRow rowE
  refine List.map_congr_left (fun k _ => ordA_up (Nat.zero_le _))
theorem ordRow_no {l : List Ev} {j i : Nat} (h : aheadE l i j = false) : ordRow l j i = ordRow l j (i + 1) := by
  unfold ordRow
  exact List.map_congr_left (fun k _ => ordA_no h)
/-- The row, while that of i is put to it: the first m. -/
def midRow (l : List Ev) (j i m : Nat) : List Bool := (List.range j).map fun k => if k < m then ordA l j i k else if k = i then true else ordA l j (i + 1) k
theorem midRow_len (l : List Ev) (j i m : Nat) : (midRow l j i m).length = j := by unfold midRow; simp
theorem midRow_get {l : List Ev} {j i m k : Nat} (h : k < j) : (midRow l j i m)[k]? = some (if k < m then ordA l j i k else if k = i then true else ordA l j (i + 1) k) := by
  unfold midRow; rw [map_range_get, if_pos h]
theorem midRow_start {l : List Ev} {j i : Nat} : (ordRow l j (i + 1)).set i true = midRow l j i 0 := by
  apply List.ext_getElem?
  intro k
  rw [List.getElem?_set]
  unfold ordRow midRow
  rw [map_range_get, map_range_get]
  by_cases h : k < j
  · rw [if_pos h, if_pos h]
    by_cases e : i = k
    · subst e; simp [h]
    · rw [if_neg e, if_neg (by omega), if_neg (fun h => e h.symm)]
  · rw [if_neg h, if_neg h]
    by_cases e : i = k
    · subst e; simp [h]
    · rw [if_neg e]
theorem midRow_here {l : List Ev} {j i m : Nat} (hm : m < i) (hij : i < j) : (midRow l j i m)[m]? = some (ordA l j (i + 1) m) := by
  rw [midRow_get (by omega), if_neg (by omega), if_neg (by omega)]
theorem midRow_next {l : List Ev} {j i m : Nat} (hm : m < i) (hij : i < j) (h : aheadE l i j = true) : (midRow l j i m).set m (ordA l j (i + 1) m || aheadE l m i) = midRow l j i (m + 1) := by
  apply List.ext_getElem?
  intro k
  rw [List.getElem?_set, midRow_len]
  by_cases hk : k < j
  · rw [midRow_get hk, midRow_get hk]
    by_cases e : m = k
    · subst e
      rw [if_pos rfl, if_pos (by omega), if_pos (by omega), ordA_yes hij h hm]
    · rw [if_neg e]
      by_cases h2 : k < m
      · rw [if_pos h2, if_pos (by omega)]
      · rw [if_neg h2, if_neg (show ¬ k < m + 1 by omega)]
  · rw [if_neg (by omega), List.getElem?_eq_none (by rw [midRow_len]; omega), List.getElem?_eq_none (by rw [midRow_len]; omega)]
theorem midRow_skip {l : List Ev} {j i m : Nat} (hm : m < i) (hij : i < j) (h : aheadE l i j = true) (hv : (ordA l j (i + 1) m || aheadE l m i) = ordA l j (i + 1) m) : midRow l j i (m + 1) = midRow l j i m := by
  rw [← midRow_next hm hij h, hv]
  apply List.ext_getElem?
  intro k
  rw [List.getElem?_set, midRow_len]
  by_cases e : m = k
  · subst e
    rw [if_pos rfl, if_pos (by omega), midRow_here hm hij]
  · rw [if_neg e]
theorem midRow_end {l : List Ev} {j i : Nat} (hij : i < j) (h : aheadE l i j = true) : midRow l j i i = ordRow l j i := by
  unfold midRow ordRow
  refine List.map_congr_left (fun k hk => ?_)
  by_cases h1 : k < i
  · rw [if_pos h1]
  · rw [if_neg h1]
    by_cases h2 : k = i
    · subst h2
      rw [if_pos rfl, ordA_up (Nat.le_refl _), h]
    · rw [if_neg h2, ordA_up (by omega), ordA_up (by omega)]
/-! ### the document's clocks -/
theorem posT_at {κ β : Type} {cf : κ → κ → Int} {xs : List (κ × β)} {k : κ} {p : Nat} (O : KOrd cf) (hs : tabOk cf xs) (hp : p ≤ xs.length) (h1 : ∀ i x, i < p → xs[i]? = some x → cf x.1 k < 0) (h2 : ∀ x, xs[p]? = some x → 0 ≤ cf x.1 k) : posT cf xs k = p := by
  obtain ⟨a1, a2, a3⟩ := atT O hs k
  rcases Nat.lt_trichotomy (posT cf xs k) p with h | h | h
  · obtain ⟨x, hx⟩ : ∃ x, xs[posT cf xs k]? = some x := ⟨_, List.getElem?_eq_getElem (by omega)⟩
    have := h1 _ x h hx
    have := a3 _ x (Nat.le_refl _) hx
    omega
  · exact h
  · obtain ⟨x, hx⟩ : ∃ x, xs[p]? = some x := ⟨_, List.getElem?_eq_getElem (by omega)⟩
    have := h2 x hx
    have := a2 _ x h hx
    omega
theorem tab_ext : ∀ {s t : Tb}, tabOk cmpI s → tabOk cmpI t → (∀ x, x ∈ s ↔ x ∈ t) → s = t
  | [], [], _, _, _ => rfl
  | [], y :: t, _, _, h => absurd ((h y).2 (by simp)) (by simp)
  | x :: s, [], _, _, h => absurd ((h x).1 (by simp)) (by simp)
  | x :: s, y :: t, hs, ht, h => by
    obtain ⟨s1, s2⟩ := List.pairwise_cons.1 hs
    obtain ⟨t1, t2⟩ := List.pairwise_cons.1 ht
    have irr : ∀ a : Int, ¬ cmpI a a < 0 := fun a hh => by rw [(cmpI_ord.zero a a).2 rfl] at hh; omega
    have e : x = y := by
      rcases List.mem_cons.1 ((h x).1 (by simp)) with e | e
      · exact e
      · rcases List.mem_cons.1 ((h y).2 (by simp)) with e2 | e2
        · exact e2.symm
        · exact absurd (cmpI_ord.trans _ _ _ (t1 x e) (s1 y e2)) (irr _)
    subst e
    rw [tab_ext s2 t2 (fun z => ⟨fun hz => by
      rcases List.mem_cons.1 ((h z).1 (List.mem_cons_of_mem _ hz)) with e | e
      · rw [e] at hz; exact absurd (s1 x hz) (irr _)
      · exact e, fun hz => by
      rcases List.mem_cons.1 ((h z).2 (List.mem_cons_of_mem _ hz)) with e | e
      · rw [e] at hz; exact absurd (t1 x hz) (irr _)
      · exact e⟩)]
theorem tb_ext {s t : Tb} (hs : TbOk s) (ht : TbOk t) (h : ∀ a, valT s a = valT t a) : s = t := by
  have key : ∀ {s t : Tb}, TbOk s → TbOk t → (∀ a, valT s a = valT t a) → ∀ x, x ∈ s → x ∈ t := fun {s t} hs ht h x hx => by
    obtain ⟨a, v⟩ := x
    have h1 := valT_mem hs.ok hx
    have h2 := hs.pos _ hx
    dsimp only at h2
    have h3 := (ht.val a).2.1 (by rw [← h a, h1]; exact h2)
    rwa [← h a, h1] at h3
  exact tab_ext hs.ok ht.ok (fun x => ⟨key hs ht h x, key ht hs (fun a => (h a).symm) x⟩)
def cntStep (t : Tb) (a : Int) : Tb := putT cmpI t a (valT t a + 1)
/-- The document's clock of j, when the first i have been counted. -/
def cntT (l : List Ev) (j : Nat) : Nat → Tb
  | 0 => []
  | i + 1 => if i = j ∨ aheadE l i j = true then cntStep (cntT l j i) (actE l i) else cntT l j i
theorem cntT_ok (l : List Ev) (j : Nat) : ∀ i, TbOk (cntT l j i)
  | 0 => TbOk.nil
  | i + 1 => by
    have h := cntT_ok l j i
    rw [cntT]
    split
    · exact h.put _ _ (by have := (h.val (actE l i)).1; omega)
    · exact h
theorem cntT_val (l : List Ev) (j : Nat) (a : Int) : ∀ i, valT (cntT l j i) a = numE l j a i
  | 0 => rfl
  | i + 1 => by
    have h := cntT_val l j a i
    rw [cntT, numE, ← h]
    by_cases hc : i = j ∨ aheadE l i j = true
    · rw [if_pos hc]
      unfold cntStep
      rw [valT_put (cntT_ok l j i).ok]
      by_cases e : a = actE l i
      · subst e
        rw [if_pos rfl, if_pos ⟨rfl, hc⟩]
      · rw [if_neg e, if_neg (fun hh => e hh.1.symm), Int.add_zero]
    · rw [if_neg hc, if_neg (fun hh => hc hh.2), Int.add_zero]
theorem cntT_end (l : List Ev) (j : Nat) : cntT l j (j + 1) = clkE l j :=
  tb_ext (cntT_ok l j _) (clkE_ok l j) (fun a => by rw [cntT_val, numE_val]; rfl)
theorem cntStep_len (t : Tb) (a : Int) : (cntStep t a).length ≤ t.length + 1 := by
  unfold cntStep
  rw [putT_length]
  split <;> omega
theorem cntT_len (l : List Ev) (j : Nat) : ∀ i, (cntT l j i).length ≤ i
  | 0 => Nat.le_refl _
  | i + 1 => by
    have h := cntT_len l j i
    have h2 := cntStep_len (cntT l j i) (actE l i)
    rw [cntT]
    split <;> omega
/-- It stands there: one more. -/
theorem cntStep_has {t : Tb} (ht : TbOk t) {a v : Int} {k : Nat} (hk : t[k]? = some (a, v)) (h1 : ∀ i x, i < k → t[i]? = some x → x.1 < a) : cntStep t a = t.set k (a, v + 1) := by
  have hp : posT cmpI t a = k := posT_at cmpI_ord ht.ok (by have := (List.getElem?_eq_some_iff.1 hk).1; omega) (fun i x hi hx => by rw [cmpI_lt (h1 i x hi hx)]; omega) (fun x hx => by
    rw [hk] at hx
    injection hx with hx
    rw [← hx, (cmpI_ord.zero a a).2 rfl]
    exact Int.le_refl _)
  have hh : hasT cmpI t a = true := (hasT_iff cmpI_ord).2 ⟨v, by rw [hp]; exact hk⟩
  unfold cntStep putT
  rw [if_pos hh, hp, valT_mem ht.ok (List.mem_of_getElem? hk)]
/-- It does not stand there: it is put there. -/
theorem cntStep_no {t : Tb} (ht : TbOk t) {a : Int} {k : Nat} (hk : k ≤ t.length) (h1 : ∀ i x, i < k → t[i]? = some x → x.1 < a) (h2 : ∀ x, t[k]? = some x → a < x.1) : cntStep t a = t.take k ++ (a, 1) :: t.drop k := by
  have gt : ∀ x : Int, a < x → 0 < cmpI x a := fun x hx => by
    have := (cmpI_ord.neg a x).1 (by rw [cmpI_lt hx]; omega)
    exact this
  have hp : posT cmpI t a = k := posT_at cmpI_ord ht.ok hk (fun i x hi hx => by rw [cmpI_lt (h1 i x hi hx)]; omega) (fun x hx => by have := gt _ (h2 x hx); omega)
  have hh : ¬ hasT cmpI t a = true := fun h => by
    obtain ⟨v, hv⟩ := (hasT_iff cmpI_ord).1 h
    rw [hp] at hv
    have := h2 _ hv
    dsimp only at this
    omega
  have hg : getT cmpI t a = none := by unfold getT; rw [if_neg hh]
  unfold cntStep putT
  rw [if_neg hh, hp]
  unfold valT
  rw [hg]
  rfl
def cntsE (l : List Ev) (n : Nat) : List Tb := (List.range n).map (clkE l)
theorem cntsE_len (l : List Ev) (n : Nat) : (cntsE l n).length = n := by unfold cntsE; simp
theorem cntsE_get {l : List Ev} {n k : Nat} (h : k < n) : (cntsE l n)[k]? = some (clkE l k) := by
  unfold cntsE; rw [map_range_get, if_pos h]
theorem cntsE_next (l : List Ev) (n : Nat) : cntsE l (n + 1) = cntsE l n ++ [clkE l n] := by
  unfold cntsE; rw [List.range_succ, List.map_append]; rfl
end Go.Cb
