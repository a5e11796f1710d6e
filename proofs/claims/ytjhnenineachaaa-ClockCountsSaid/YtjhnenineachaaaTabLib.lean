/- The library: rows of pairs, two cells each; copies within and between rows. -/
import Derived.Test.YtjhnenineachaaaLib2
import Derived.Test.YtjhnenineachaaaPureT
import Derived.Lib.AppendZerosOnto
import Derived.Laws.IdiomCopy
import Derived.Lib.Overlaps
import Derived.Laws.OwnMore
set_option linter.unusedVariables false
set_option linter.unusedSimpArgs false
set_option linter.all false
namespace Go.Cb
open Go.RowKit
theorem run_copy_k {P : Program} (w : World) (dT sT ty elem : TypeId) (b o dLen dCap : Nat) (a : Addr) (sLen sCap m k : Nat) (cs : List Value)
    (hu : P.underlying dT = some (.slice elem)) (hs : (P.info? elem).map (·.size) = some k) (hm : m = Nat.min sLen dLen) (hn : cs.length = m * k)
    (hsrc : ∀ j v, cs[j]? = some v → w.cell? (a.add j) = some v) (hc : ∀ j, j < cs.length → (w.cell? ⟨b, o + j, none⟩).isSome = true) (hf : ∀ j, j < cs.length → w.frozen? ⟨b, o + j, none⟩ = false) (h1 : ∀ v ∈ cs, v.oneCell' = true) :
    (Builtin.copy_ #[dT, sT] ty #[.slice (some ⟨b, o, none⟩) dLen dCap, .slice (some a) sLen sCap]).run P w = .ok (goInt m) (w.setCells b o cs) := by
  have hl := run_loadCells_list (P := P) w a cs hsrc
  have hst := run_storeCells_cells (P := P) b o cs 0 w (by simpa using hc) (by simpa using hf) h1
  cases hq : P.info? elem with
  | none => simp [hq] at hs
  | some i =>
    have hi : i.size = k := by simpa [hq] using hs
    simp [Builtin.copy_, run_underlying hu, Builtin.lenOf, Builtin.firstCells, sizeOf, typeInfo, hq, hi, ← hm, ← hn, hl, hst]
section
variable {κ β : Type} (eK : κ → Value) (eV : β → Value)
def flat2 (xs : List (κ × β)) : List Value := xs.flatMap fun x => [eK x.1, eV x.2]
variable {eK eV}
theorem flat2_nil : flat2 eK eV [] = [] := rfl
theorem flat2_cons (x : κ × β) (xs : List (κ × β)) : flat2 eK eV (x :: xs) = eK x.1 :: eV x.2 :: flat2 eK eV xs := rfl
theorem flat2_append (xs ys : List (κ × β)) : flat2 eK eV (xs ++ ys) = flat2 eK eV xs ++ flat2 eK eV ys := by simp [flat2]
theorem flat2_length (xs : List (κ × β)) : (flat2 eK eV xs).length = xs.length * 2 := by
  induction xs with
  | nil => rfl
  | cons x xs ih => rw [flat2_cons, List.length_cons, List.length_cons, List.length_cons, ih]; omega
theorem flat2_take : ∀ (xs : List (κ × β)) (n : Nat), (flat2 eK eV xs).take (n * 2) = flat2 eK eV (xs.take n)
  | [], n => by simp [flat2]
  | x :: xs, 0 => by simp [flat2]
  | x :: xs, n + 1 => by
    rw [show (n + 1) * 2 = n * 2 + 1 + 1 by omega, flat2_cons, List.take_succ_cons, List.take_succ_cons, flat2_take xs n, List.take_succ_cons, flat2_cons]
theorem flat2_drop : ∀ (xs : List (κ × β)) (n : Nat), (flat2 eK eV xs).drop (n * 2) = flat2 eK eV (xs.drop n)
  | [], n => by simp [flat2]
  | x :: xs, 0 => by simp [flat2]
  | x :: xs, n + 1 => by
    rw [show (n + 1) * 2 = n * 2 + 1 + 1 by omega, flat2_cons, List.drop_succ_cons, List.drop_succ_cons, flat2_drop xs n, List.drop_succ_cons]
theorem flat2_get {xs : List (κ × β)} {j : Nat} {x : κ × β} (h : xs[j]? = some x) : (flat2 eK eV xs)[j * 2]? = some (eK x.1) ∧ (flat2 eK eV xs)[j * 2 + 1]? = some (eV x.2) := by
  have hlt := (List.getElem?_eq_some_iff.1 h).1
  have e : xs.drop j = x :: xs.drop (j + 1) := by
    rw [List.drop_eq_getElem_cons hlt]
    congr 1
    exact (List.getElem?_eq_some_iff.1 h).2
  have h1 := flat2_drop (eK := eK) (eV := eV) xs j
  rw [e, flat2_cons] at h1
  constructor
  · have := List.getElem?_drop (xs := flat2 eK eV xs) (i := j * 2) (j := 0)
    rw [h1] at this
    simpa using this.symm
  · have := List.getElem?_drop (xs := flat2 eK eV xs) (i := j * 2) (j := 1)
    rw [h1] at this
    simpa using this.symm
theorem flat2_one (hK : ∀ x, (eK x).oneCell' = true) (hV : ∀ x, (eV x).oneCell' = true) (xs : List (κ × β)) : ∀ u ∈ flat2 eK eV xs, u.oneCell' = true := by
  intro u hu
  obtain ⟨x, _, hx⟩ := List.mem_flatMap.1 hu
  simp at hx
  rcases hx with rfl | rfl
  · exact hK _
  · exact hV _
theorem flat2_set {xs : List (κ × β)} {j : Nat} {x : κ × β} (h : xs[j]? = some x) (u : β) : (flat2 eK eV xs).set (j * 2 + 1) (eV u) = flat2 eK eV (xs.set j (x.1, u)) := by
  induction xs generalizing j with
  | nil => simp at h
  | cons y ys ih =>
    cases j with
    | zero =>
      simp at h
      subst h
      rfl
    | succ j =>
      rw [show (j + 1) * 2 + 1 = j * 2 + 1 + 1 + 1 by omega, flat2_cons, List.set_cons_succ, List.set_cons_succ, ih (by simpa using h), List.set_cons_succ, flat2_cons]
end

theorem cells_one {v : Value} (h : v.oneCell' = true) : v.cells = #[v] := by
  cases v <;> first | rfl | (simp [Value.oneCell'] at h)
/-! ### cells in a row -/
def setL : List Value → Nat → List Value → List Value
  | xs, _, [] => xs
  | xs, o, c :: cs => setL (xs.set o c) (o + 1) cs
theorem setL_eq : ∀ (cs xs : List Value) (o : Nat), o + cs.length ≤ xs.length → setL xs o cs = xs.take o ++ cs ++ xs.drop (o + cs.length)
  | [], xs, o, h => by simp [setL]
  | c :: cs, xs, o, h => by
    simp only [List.length_cons] at h
    rw [setL, setL_eq cs _ _ (by rw [List.length_set]; omega)]
    rw [show (xs.set o c).take (o + 1) = xs.take o ++ [c] from by
      rw [List.take_add_one, List.getElem?_set_self (by omega), List.take_set_of_le (Nat.le_refl _)]; rfl]
    rw [List.drop_set_of_lt (by omega), List.length_cons, show o + 1 + cs.length = o + (cs.length + 1) by omega]
    simp
theorem ownsRow_setCells {base : Nat} {e : TypeId} {size g n cap : Nat} : ∀ (cs : List Value) (o : Nat) (w : World) (xs : List Value), w.ownsRow base e size (.slice (some ⟨g, 0, none⟩) n cap) n xs →
    (w.setCells g o cs).ownsRow base e size (.slice (some ⟨g, 0, none⟩) n cap) n (setL xs o cs) ∧ w.grownBy (w.setCells g o cs) (some g) ∧ (w.setCells g o cs).heap.size = w.heap.size
  | [], o, w, xs, h => ⟨h, ⟨rfl, rfl, rfl, Nat.le_refl _, fun _ _ _ => rfl⟩, rfl⟩
  | c :: cs, o, w, xs, h => by
    rw [World.setCells, setL]
    obtain ⟨h1, h2⟩ := h.stored o c
    obtain ⟨h3, h4, h5⟩ := ownsRow_setCells cs (o + 1) _ _ h1
    have hs : (w.setCell ⟨g, o, none⟩ c).heap.size = w.heap.size := by simp [World.setCell]
    refine ⟨h3, ⟨h4.os.trans h2.os, h4.tape.trans h2.tape, h4.output.trans h2.output, Nat.le_trans h2.size h4.size, fun k hk hne => (h4.block k (by omega) hne).trans (h2.block k hk hne)⟩, by omega⟩
theorem ownsRow_extend {w : World} {base : Nat} {e : TypeId} {size g n cap : Nat} {xs : List Value} (h : w.ownsRow base e size (.slice (some ⟨g, 0, none⟩) n cap) n xs) (hc : n + 1 ≤ cap) :
    ∃ junk, junk.length = size ∧ w.ownsRow base e size (.slice (some ⟨g, 0, none⟩) (n + 1) cap) (n + 1) (xs ++ junk) := by
  obtain ⟨hl, h2⟩ := h
  rcases h2 with ⟨h2, _⟩ | ⟨g', cap', cur, he, hb, hg, hn, hm, hs, ht⟩
  · simp at h2
  · injection he with he1 _ he2
    injection he1 with he1
    injection he1 with he1
    subst he1 he2
    have hle : (n + 1) * size ≤ cap * size := Nat.mul_le_mul_right _ hc
    have e1 : (n + 1) * size = n * size + size := Nat.succ_mul _ _
    have hj : ((cur.toList.drop (n * size)).take size).length = size := by
      rw [List.length_take, List.length_drop, Array.length_toList]
      omega
    refine ⟨(cur.toList.drop (n * size)).take size, hj, ?_, .inr ⟨g, cap, cur, rfl, hb, hg, hc, hm, hs, ?_⟩⟩
    · rw [List.length_append, hj, hl, e1]
    · rw [e1, List.take_add, ht]
theorem ownsRow_prefix {w : World} {base : Nat} {e : TypeId} {size g n cap : Nat} {xs : List Value} (h : w.ownsRow base e size (.slice (some ⟨g, 0, none⟩) n cap) n xs) {i : Nat} (hi : i ≤ n) :
    w.ownsRow base e size (.slice (some ⟨g, 0, none⟩) i cap) i (xs.take (i * size)) := by
  obtain ⟨hl, h2⟩ := h
  rcases h2 with ⟨h2, _⟩ | ⟨g', cap', cur, he, hb, hg, hn, hm, hs, ht⟩
  · simp at h2
  · injection he with he1 _ he2
    injection he1 with he1
    injection he1 with he1
    subst he1 he2
    have hle : i * size ≤ n * size := Nat.mul_le_mul_right _ hi
    refine ⟨by rw [List.length_take]; omega, .inr ⟨g, cap, cur, rfl, hb, hg, by omega, hm, hs, ?_⟩⟩
    rw [← ht, List.take_take, Nat.min_eq_left hle]
theorem insert_list {F junk : List Value} {i n : Nat} (p : List Value) (hF : F.length = n * 2) (hj : junk.length = 2) (hp : p.length = 2) (hi : i ≤ n) :
    setL (setL (F ++ junk) ((i + 1) * 2) (F.drop (i * 2))) (i * 2) p = F.take (i * 2) ++ p ++ F.drop (i * 2) := by
  have h1 : setL (F ++ junk) ((i + 1) * 2) (F.drop (i * 2)) = (F ++ junk).take ((i + 1) * 2) ++ F.drop (i * 2) := by
    rw [setL_eq _ _ _ (by rw [List.length_drop, List.length_append]; omega), List.drop_eq_nil_of_le (as := F ++ junk) (by rw [List.length_drop, List.length_append]; omega), List.append_nil]
  have hl : ((F ++ junk).take ((i + 1) * 2)).length = (i + 1) * 2 := by rw [List.length_take, List.length_append]; omega
  rw [h1, setL_eq _ _ _ (by rw [List.length_append, List.length_drop]; omega)]
  rw [List.take_append_of_le_length (by omega), List.take_take, Nat.min_eq_left (by omega), List.take_append_of_le_length (by omega)]
  rw [List.drop_append, List.drop_eq_nil_of_le (by omega), List.nil_append, hl, show i * 2 + p.length - (i + 1) * 2 = 0 by omega, List.drop_zero]

/-! ### rows of pairs; tables -/
section
variable {κ β : Type} {eK : κ → Value} {eV : β → Value}
/-- v is a row of the call's own that reads as the pairs xs. -/
def RowP (eK : κ → Value) (eV : β → Value) (e : TypeId) (w : World) (base : Nat) (v : Value) (xs : List (κ × β)) : Prop := w.ownsRow base e 2 v xs.length (flat2 eK eV xs)
theorem RowP.step {e : TypeId} {w w' : World} {base : Nat} {v : Value} {xs : List (κ × β)} (h : RowP eK eV e w base v xs) (hm : ∀ k, v.ownBlock = some k → w'.heap[k]? = w.heap[k]?) : RowP eK eV e w' base v xs := ownsRow_step h hm
theorem RowP.nil (e : TypeId) (w : World) (base : Nat) : RowP eK eV e w base (.slice none 0 0) [] := World.ownsRow_nil _ _ _ _
theorem RowP.form {e : TypeId} {w : World} {base : Nat} {v : Value} {xs : List (κ × β)} (h : RowP eK eV e w base v xs) : (v = .slice none 0 0 ∧ xs = []) ∨ ∃ g c, v = .slice (some ⟨g, 0, none⟩) xs.length c ∧ base ≤ g ∧ g < w.heap.size ∧ xs.length ≤ c ∧ c ≤ maxLen := by
  rcases h.2 with ⟨h1, h2⟩ | ⟨g, c, cur, h1, h2, h3, h4, h5, _⟩
  · exact .inl ⟨h1, List.eq_nil_of_length_eq_zero h2⟩
  · exact .inr ⟨g, c, h1, h2, blk_lt h3, h4, h5⟩
theorem RowP.cells {e : TypeId} {w : World} {base g c n : Nat} {xs : List (κ × β)} (h : RowP eK eV e w base (.slice (some ⟨g, 0, none⟩) n c) xs) {j : Nat} {x : κ × β} (hj : xs[j]? = some x) :
    w.cell? ⟨g, j * 2, none⟩ = some (eK x.1) ∧ w.cell? ⟨g, j * 2 + 1, none⟩ = some (eV x.2) := by
  have h1 := flat2_get (eK := eK) (eV := eV) hj
  have h2 := World.ownsRow.cells h (g := g) rfl
  have a1 := h2 _ _ h1.1
  have a2 := h2 _ _ h1.2
  rw [add_plain] at a1 a2
  exact ⟨a1, a2⟩
theorem RowP.frozen {e : TypeId} {w : World} {base g c n : Nat} {xs : List (κ × β)} (h : RowP eK eV e w base (.slice (some ⟨g, 0, none⟩) n c) xs) (i : Nat) : w.frozen? ⟨g, i, none⟩ = false := by
  rcases h.2 with ⟨h1, h2⟩ | ⟨g', c', cur, h1, h2, h3, _⟩
  · simp at h1
  · injection h1 with h1
    injection h1 with h1
    injection h1 with h1
    subst h1
    exact frozenAt h3 i
theorem RowP.at {e : TypeId} {w : World} {base n c : Nat} {A : Option Addr} {xs : List (κ × β)} (h : RowP eK eV e w base (.slice A n c) xs) {m : Nat} (hm : m < xs.length) :
    ∃ g x, A = some ⟨g, 0, none⟩ ∧ n = xs.length ∧ xs[m]? = some x ∧ g < w.heap.size ∧ w.cell? ⟨g, m * 2, none⟩ = some (eK x.1) ∧ w.cell? ⟨g, m * 2 + 1, none⟩ = some (eV x.2) := by
  rcases h.form with ⟨_, h2⟩ | ⟨g, c', h1, h2, h3, h4, h5⟩
  · rw [h2] at hm; simp at hm
  · injection h1 with e1 e2 e3
    subst e1 e2 e3
    have hx := List.getElem?_eq_getElem hm
    obtain ⟨c1, c2⟩ := h.cells hx
    exact ⟨g, _, rfl, rfl, hx, h3, c1, c2⟩
theorem RowP.set {e : TypeId} {w : World} {base g c n : Nat} {xs : List (κ × β)} (h : RowP eK eV e w base (.slice (some ⟨g, 0, none⟩) n c) xs) (hn : n = xs.length) {j : Nat} {x : κ × β} (hj : xs[j]? = some x) (u : β) :
    RowP eK eV e (w.setCell ⟨g, j * 2 + 1, none⟩ (eV u)) base (.slice (some ⟨g, 0, none⟩) n c) (xs.set j (x.1, u)) := by
  subst hn
  unfold RowP at *
  have h1 := (World.ownsRow.stored h (j * 2 + 1) (eV u)).1
  rw [flat2_set hj u] at h1
  rw [List.length_set]
  exact h1
theorem RowP.heap {e : TypeId} {w w' : World} {base : Nat} {v : Value} {xs : List (κ × β)} (h : RowP eK eV e w base v xs) (hh : w'.heap = w.heap) : RowP eK eV e w' base v xs := h.step (fun _ _ => by rw [hh])
section
variable {P : Program}
/-- append of one pair that lies in a block. -/
theorem run_appendP {w : World} {base : Nat} {v : Value} {xs : List (κ × β)} (t ty e : TypeId) (z : Value) (bytes : Nat) (ht : P.underlying t = some (.slice e))
    (hinfo : (P.info? e).map (fun i => (i.zero, i.size, i.bytes)) = some (some z, 2, bytes)) (hz : z.cells.size = 2) (h : RowP eK eV e w base v xs) (k : κ) (u : β) (vb : Nat)
    (hvb : w.heap[vb]? = some (.cells #[eK k, eV u] e (0, 0))) (hK : ∀ x, (eK x).oneCell' = true) (hV : ∀ x, (eV x).oneCell' = true) (hbig : (xs.length + 1) * bytes ≤ 140737488355328) (hl : xs.length + 1 ≤ maxLen) (hb : base ≤ w.heap.size) :
    ∃ v' w', (Builtin.append_ #[t, t] ty #[v, .slice (some ⟨vb, 0, none⟩) 1 1]).run P w = .ok v' w' ∧ RowP eK eV e w' base v' (xs ++ [(k, u)]) ∧ w.grownBy w' v.ownBlock ∧ (v'.ownBlock = v.ownBlock ∨ v'.ownBlock = some w.heap.size) := by
  obtain ⟨i0, hi, hzz⟩ := Option.map_eq_some_iff.1 hinfo
  simp only [Prod.mk.injEq] at hzz
  obtain ⟨hz0, hz1, hz2⟩ := hzz
  obtain ⟨v', w', hr, h2, h3, _, h5⟩ := run_append_own_at (P := P) w base t ty e i0 z 2 bytes ht hi hz0 hz1 hz2 hz (by omega) v xs.length (flat2 eK eV xs) h ⟨vb, 0, none⟩ 1 1 [eK k, eV u] rfl
    (fun j y hj => by
      rw [add_plain, cellAt hvb]
      rcases j with _ | _ | j
      · exact hj
      · exact hj
      · simp at hj)
    (by
      intro y hy
      simp at hy
      rcases hy with rfl | rfl
      · exact hK _
      · exact hV _) hl hbig hb
  refine ⟨v', w', hr, ?_, h3, h5⟩
  unfold RowP
  rw [flat2_append, List.length_append]
  exact h2
/-- append(s[:p], make(n + 1 - p)...) where there is no room. -/
theorem run_growP {w : World} {base g n c : Nat} {xs : List (κ × β)} (t tn ty e : TypeId) (z : Value) (bytes : Nat) (ht : P.underlying t = some (.slice e)) (htn : P.underlying tn = some (.int .i64))
    (hinfo : (P.info? e).map (fun i => (i.zero, i.size, i.bytes)) = some (some z, 2, bytes)) (hz : z.cells.size = 2) (h : RowP eK eV e w base (.slice (some ⟨g, 0, none⟩) n c) xs) (hn : n = xs.length) {p : Nat} (hp : p < n) (hc : c < n + 1) (hnc : n ≤ c)
    (hbig : (n + 1) * bytes ≤ 140737488355328) (hl : n + 1 ≤ maxLen) (hb : base ≤ w.heap.size) :
    ∃ W1 G zs, (Builtin.append_ #[t, tn] ty #[.slice (some ⟨g, 0, none⟩) p c, .int .i64 ((n + 1 - p : Nat) : Int)]).run P w = .ok (.slice (some ⟨w.heap.size, 0, none⟩) (n + 1) G) W1 ∧
      W1.ownsRow base e 2 (.slice (some ⟨w.heap.size, 0, none⟩) (n + 1) G) (n + 1) ((flat2 eK eV xs).take (p * 2) ++ zs) ∧ zs.length = (n + 1 - p) * 2 ∧ Bel w W1 ∧ W1.heap.size = w.heap.size + 1 ∧ n + 1 ≤ G ∧ G ≤ maxLen := by
  obtain ⟨i0, hi, hzz⟩ := Option.map_eq_some_iff.1 hinfo
  simp only [Prod.mk.injEq] at hzz
  obtain ⟨hz0, hz1, hz2⟩ := hzz
  have hfl := flat2_length (eK := eK) (eV := eV) xs
  have htl : ((flat2 eK eV xs).take (p * 2)).length = p * 2 := by rw [List.length_take]; omega
  have hold : (Builtin.firstCells i0.size p (.slice (some ⟨g, 0, none⟩) p c)).run P w.drew = .ok ((flat2 eK eV xs).take (p * 2)).toArray w.drew := by
    rw [hz1]
    exact run_firstCells_some w.drew 2 p ⟨g, 0, none⟩ p c ((flat2 eK eV xs).take (p * 2)) htl (fun j u hj => by
      rw [List.getElem?_take] at hj
      split at hj
      · exact World.ownsRow.cells h (g := g) rfl j u hj
      · cases hj)
  have hm : n + 1 ≤ 9223372036854775807 := by unfold maxLen at hl; omega
  have hr := Lib.run_append_grow_zeros w t tn ty e i0 z .i64 .i64 ht htn hi hz0 (some ⟨g, 0, none⟩) p c ((flat2 eK eV xs).take (p * 2)) hold (n + 1 - p) (by omega) (by omega) (by omega) (by omega)
    (by rw [hz2]; exact Nat.le_trans (Nat.mul_le_mul_right _ (by omega)) (Nat.le_trans hbig (by omega)))
    (by rw [show p + (n + 1 - p) = n + 1 by omega, hz2]; exact growslice_fits (by omega) hbig)
  rw [show p + (n + 1 - p) = n + 1 by omega] at hr
  have hG1 := grownCap_ge w (n + 1) c e
  have hG2 := grownCap_le_maxLen w (n + 1) c e hl
  refine ⟨_, _, (Builtin.zeroCells z.cells (n + 1 - p)).toList, hr, ⟨?_, .inr ⟨w.heap.size, _, _, rfl, hb, heap_alloc_new w.drew _, hG1, hG2, ?_, ?_⟩⟩, ?_, (Bel.refl w).drew.alloc _, Array.size_push _, hG1, hG2⟩
  · rw [List.length_append, htl, Array.length_toList, size_zeroCells, hz]; omega
  · simp only [Array.size_append, List.size_toArray, size_zeroCells, hz, htl]; omega
  · simp only [Array.toList_append]
    rw [List.take_append_of_le_length (by rw [List.length_append, htl, Array.length_toList, size_zeroCells, hz]; omega), List.take_of_length_le (by rw [List.length_append, htl, Array.length_toList, size_zeroCells, hz]; omega)]
  · rw [Array.length_toList, size_zeroCells, hz]
end
theorem grow_list {F zs : List Value} {p n : Nat} (q : List Value) (hF : F.length = n * 2) (hp : p < n) (hz : zs.length = (n + 1 - p) * 2) (hq : q.length = 2) :
    setL (setL (F.take (p * 2) ++ zs) (p * 2) q) ((p + 1) * 2) (F.drop (p * 2)) = F.take (p * 2) ++ q ++ F.drop (p * 2) := by
  have htl : (F.take (p * 2)).length = p * 2 := by rw [List.length_take]; omega
  have h1 : setL (F.take (p * 2) ++ zs) (p * 2) q = F.take (p * 2) ++ q ++ zs.drop 2 := by
    rw [setL_eq _ _ _ (by rw [List.length_append]; omega), List.take_append_of_le_length (by omega), List.take_take, Nat.min_self, List.drop_append, List.drop_eq_nil_of_le (by omega), List.nil_append, htl, hq, show p * 2 + 2 - p * 2 = 2 by omega]
  have hl2 : (F.take (p * 2) ++ q).length = (p + 1) * 2 := by rw [List.length_append]; omega
  rw [h1, setL_eq _ _ _ (by rw [List.length_append, List.length_drop, List.length_drop]; omega), List.take_append_of_le_length (by omega), List.take_of_length_le (by omega),
    List.drop_eq_nil_of_le (as := F.take (p * 2) ++ q ++ zs.drop 2) (by rw [List.length_append, List.length_drop, List.length_drop]; omega), List.append_nil]
/-- At block g lies a table's row v, that reads as xs. -/
structure Tab (eK : κ → Value) (eV : β → Value) (T e : TypeId) (w : World) (base g : Nat) (v : Value) (xs : List (κ × β)) : Prop where
  box : w.heap[g]? = some (.cells #[v] T (0, 0))
  low : base ≤ g
  row : RowP eK eV e w base v xs
  ne : v.ownBlock ≠ some g
/-- What one step of a table turns: its block, its row. -/
structure Step (g : Nat) (v v' : Value) (w w' : World) : Prop where
  os : w'.os = w.os
  tape : w'.tape = w.tape
  output : w'.output = w.output
  size : w.heap.size ≤ w'.heap.size
  block : ∀ k, k < w.heap.size → k ≠ g → v.ownBlock ≠ some k → w'.heap[k]? = w.heap[k]?
  fresh : ∀ k, v'.ownBlock = some k → v.ownBlock = some k ∨ w.heap.size ≤ k
theorem Step.refl (g : Nat) (v : Value) (w : World) : Step g v v w w := ⟨rfl, rfl, rfl, Nat.le_refl _, fun _ _ _ _ => rfl, fun _ h => .inl h⟩
theorem Step.trans {g : Nat} {v1 v2 v3 : Value} {w1 w2 w3 : World} (h : Step g v1 v2 w1 w2) (k : Step g v2 v3 w2 w3) : Step g v1 v3 w1 w3 where
  os := k.os.trans h.os
  tape := k.tape.trans h.tape
  output := k.output.trans h.output
  size := Nat.le_trans h.size k.size
  block := fun i hi hg hv => (k.block i (Nat.lt_of_lt_of_le hi h.size) hg (fun e => by
    rcases h.fresh i e with e | e
    · exact hv e
    · omega)).trans (h.block i hi hg hv)
  fresh := fun i hi => by
    rcases k.fresh i hi with e | e
    · exact h.fresh i e
    · exact .inr (Nat.le_trans h.size e)
theorem Step.ofBel {w w' : World} (h : Bel w w') (g : Nat) (v : Value) : Step g v v w w' :=
  ⟨h.out.os, h.out.tape, h.out.output, h.size, fun _ hk _ _ => h.block hk, fun _ h => .inl h⟩
theorem Step.bel {g : Nat} {v v' : Value} {a w w' : World} (h : Step g v v' w w') (hb : Bel a w) (hg : a.heap.size ≤ g) (hv : ∀ k, v.ownBlock = some k → a.heap.size ≤ k) : Bel a w' :=
  hb.heap h.os h.tape h.output h.size (fun k hk => h.block k (Nat.lt_of_lt_of_le hk hb.size) (by omega) (fun e => by have := hv k e; omega))
theorem Step.rd {α : Type} {d : Ty α} {g : Nat} {v v' : Value} {w w' : World} {S : Nat → Prop} {A : Option Addr} {c : Nat} {xs : List α} (h : Step g v v' w w') (hr : Rd d w S A c xs) (hS : ∀ k, S k → k ≠ g ∧ v.ownBlock ≠ some k) : Rd d w' S A c xs :=
  hr.step (fun k hk hlt => h.block k hlt (hS k hk).1 (hS k hk).2)
theorem Tab.to {T e : TypeId} {w w' : World} {base g : Nat} {v : Value} {xs : List (κ × β)} (h : Tab eK eV T e w base g v xs) (hb : Bel w w') : Tab eK eV T e w' base g v xs :=
  ⟨(hb.block (blk_lt h.box)).trans h.box, h.low, h.row.step (fun k hk => hb.block (World.ownsRow.lt h.row k hk).2), h.ne⟩
theorem Tab.ge {T e : TypeId} {w : World} {base g : Nat} {v : Value} {xs : List (κ × β)} (h : Tab eK eV T e w base g v xs) : ∀ k, v.ownBlock = some k → base ≤ k := fun k hk => (World.ownsRow.lt h.row k hk).1
theorem Tab.lt {T e : TypeId} {w : World} {base g : Nat} {v : Value} {xs : List (κ × β)} (h : Tab eK eV T e w base g v xs) : g < w.heap.size := blk_lt h.box
/-- Another table's step leaves a table as it is. -/
theorem Tab.other {T e : TypeId} {w w' : World} {base g g' : Nat} {v v1 v2 : Value} {xs : List (κ × β)} (h : Tab eK eV T e w base g v xs) (hs : Step g' v1 v2 w w') (h1 : g ≠ g') (h2 : v1.ownBlock ≠ some g) (h3 : ∀ k, v.ownBlock = some k → k ≠ g' ∧ v1.ownBlock ≠ some k) : Tab eK eV T e w' base g v xs :=
  ⟨(hs.block g h.lt h1 h2).trans h.box, h.low, h.row.step (fun k hk => hs.block k (World.ownsRow.lt h.row k hk).2 (h3 k hk).1 (h3 k hk).2), h.ne⟩
end
end Go.Cb
