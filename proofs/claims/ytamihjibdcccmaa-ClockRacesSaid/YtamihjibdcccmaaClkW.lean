/- The clocks' state: three maps, a row of clocks, tables. -/
import Derived.Test.YtamihjibdcccmaaClk2
import Derived.Test.YtamihjibdcccmaaCB
import Derived.Test.YtamihjibdcccmaaCA
import Derived.Maps.GroupsBeside
set_option linter.unusedVariables false
set_option linter.unusedSimpArgs false
set_option linter.all false
namespace Go.Cb
open Go.RowKit Go.Maps Go.ChangeShapes
section
variable {H : Type}
theorem lits_inj {a b : List Int} (h : lits .i64 a = (lits .i64 b : List (DataW H))) : a = b := by
  unfold lits at h
  exact (List.map_inj_right (fun x y hxy => by cases hxy; rfl)).1 h
/-- What a map of groups says, by its keys. -/
def GrpE (D : DataW H) (f : Int → List Int) : Prop := ∀ a, inI64 a → (D.atKey (.int .i64 a) .nil = .nil ∧ f a = []) ∨ D.atKey (.int .i64 a) .nil = .slice (lits .i64 (f a)) []
theorem GrpE.look {D : DataW H} {f : Int → List Int} (h : GrpE D f) {a : Int} (ha : inI64 a) {w : World} {base : Nat} {e : TypeId} {v : Value} {zs : List Int} (hat : D.atKey (.int .i64 a) .nil = rowDatum .i64 v zs) (hoi : w.ownsInts base e .i64 v zs) : zs = f a := by
  rcases h a ha with ⟨h1, h2⟩ | h1
  · rcases hoi.datum (H := H) with ⟨_, h4⟩ | h3
    · rw [h4, h2]
    · rw [h1, h3] at hat; cases hat
  · rcases hoi.datum (H := H) with ⟨h3, _⟩ | h3
    · rw [h1, h3] at hat; cases hat
    · rw [h1, h3] at hat
      injection hat with h5
      exact (lits_inj h5).symm
theorem GrpE.put {D : DataW H} {f g : Int → List Int} (h : GrpE D f) (hD : IsMap D) {a : Int} (ha : inI64 a) {w : World} {base : Nat} {e : TypeId} {v : Value} {zs : List Int} (hoi : w.ownsInts base e .i64 v zs) (hne : zs ≠ []) (hg : g a = zs) (hgo : ∀ b, b ≠ a → g b = f b) : GrpE (D.put (.int .i64 a) (rowDatum .i64 v zs)) g := by
  intro b hb
  by_cases e1 : b = a
  · subst e1
    refine .inr ?_
    rw [atKey_put_same hD (by trivial), hoi.datum_pos hne, hg]
  · rw [atKey_put_other (fun h => e1 (by injection h)), hgo b e1]
    exact h b hb
theorem GrpE.same {D : DataW H} {f g : Int → List Int} (h : GrpE D f) (hg : ∀ a, g a = f a) : GrpE D g := fun a ha => by
  rw [hg a]
  exact h a ha
theorem GrpE.nil (f : Int → List Int) (hf : ∀ a, f a = []) : GrpE (.map [] : DataW H) f := fun a _ => .inl ⟨rfl, hf a⟩
/-- What a map of numbers says, by its keys. -/
def NumE (D : DataW H) (f : Int → Int) : Prop := ∀ a, inI64 a → D.atKey (.int .i64 a) (.lit (.int .i64 0)) = .lit (.int .i64 (f a))
theorem NumE.look {D : DataW H} {f : Int → Int} (h : NumE D f) {a c : Int} (ha : inI64 a) (hat : D.atKey (.int .i64 a) (.lit (.int .i64 0)) = .lit (.int .i64 c)) : c = f a := by
  rw [h a ha] at hat
  injection hat with h1
  injection h1 with _ h2
  exact h2.symm
theorem NumE.put {D : DataW H} {f g : Int → Int} (h : NumE D f) (hD : IsMap D) {a : Int} (hg : ∀ b, b ≠ a → g b = f b) : NumE (D.put (.int .i64 a) (.lit (.int .i64 (g a)))) g := by
  intro b hb
  by_cases e1 : b = a
  · subst e1
    rw [atKey_put_same hD (by trivial)]
  · rw [atKey_put_other (fun h => e1 (by injection h)), hg b e1]
    exact h b hb
end
def ownN (l : List Ev) (a : Int) (k : Nat) : Int := match ownE l a k with
  | none => 0
  | some p => (p : Int) + 1
theorem ownN_here (l : List Ev) (k : Nat) : ownN l (actE l k) (k + 1) = (k : Int) + 1 := by
  unfold ownN
  rw [ownE, if_pos (show (l.getD k default).a = actE l k from rfl)]
theorem ownN_other (l : List Ev) (k : Nat) {a : Int} (h : a ≠ actE l k) : ownN l a (k + 1) = ownN l a k := by
  unfold ownN
  rw [ownE, if_neg (fun e => h e.symm)]
def kindN (l : List Ev) (kd n : Int) (k : Nat) : List Int := (kindE l kd n k).map fun i : Nat => (i : Int)
theorem kindN_next (l : List Ev) (kd n : Int) (k : Nat) : kindN l kd n (k + 1) = if (l.getD k default).k = kd ∧ (l.getD k default).n = n then kindN l kd n k ++ [(k : Int)] else kindN l kd n k := by
  unfold kindN kindE
  rw [List.range_succ, List.filter_append, List.map_append, List.filter_cons, List.filter_nil]
  by_cases h : (l.getD k default).k = kd ∧ (l.getD k default).n = n
  · have hp : ((l.getD k default).k == kd && (l.getD k default).n == n) = true := by rw [h.1, h.2, beq_self_eq_true, beq_self_eq_true]; rfl
    rw [if_pos h, if_pos hp]
    rfl
  · have hp : ¬ ((l.getD k default).k == kd && (l.getD k default).n == n) = true := by
      rw [Bool.and_eq_true, beq_iff_eq, beq_iff_eq]; exact h
    rw [if_neg h, if_neg hp, List.map_nil, List.append_nil]
theorem kindN_len (l : List Ev) (kd n : Int) (k : Nat) : (kindN l kd n k).length ≤ k := by
  unfold kindN kindE
  rw [List.length_map]
  have := List.length_filter_le (fun i => (l.getD i default).k == kd && (l.getD i default).n == n) (List.range k)
  rwa [List.length_range] at this
theorem bel_none' {w w' : World} (h : Bel w w') : w.grownBy w' none := ⟨h.out.os, h.out.tape, h.out.output, h.size, fun i hi _ => h.block hi⟩
theorem groups_map {H : Type} {P : Program} {k e : TypeId} {q : IntKind} {base b n : Nat} {D : DataW H} {w : World} (h : w.ownsGroups P k base e q b n D) : IsMap D := by
  obtain ⟨es, clock, _, _, _, rfl, _⟩ := h
  exact ⟨_, rfl⟩
theorem num_map {H : Type} {P : Program} {k : TypeId} {R : Value → Option (DataW H × List MemPlace)} {b n : Nat} {D : DataW H} {w : World} (h : w.ownsMap P k R b n D) : IsMap D := by
  obtain ⟨es, clock, _, _, _, rfl⟩ := h
  exact ⟨_, rfl⟩
theorem groups_mono {H : Type} {P : Program} {k e : TypeId} {q : IntKind} {base b n m : Nat} {D : DataW H} {w : World} (h : w.ownsGroups P k base e q b n D) (hm : n ≤ m) : w.ownsGroups P k base e q b m D := by
  obtain ⟨es, clock, h1, h2, h3, h4, h5, h6, h7⟩ := h
  exact ⟨es, clock, h1, h2, Nat.le_trans h3 hm, h4, h5, fun x hx zs ho => Nat.le_trans (h6 x hx zs ho) hm, h7⟩
/-- The same look-up, the map's block being the same. -/
theorem look_same {H : Type} {P : Program} {w w1 : World} {k E t : TypeId} {R : Value → Option (DataW H × List MemPlace)} {b : Nat} {es : Array MapEntry} {clock : Nat} {key v z : Value} {kl : Lit} (K : Keyed P k) (ht : P.underlying t = some (.map k E)) (hz : ∀ w, (zeroValue E).run P w = .ok z w) (hb : w.heap[b]? = some (.map es clock)) (hb1 : w1.heap[b]? = some (.map es clock)) (F : WideElems.Fit P k R es clock) (hkey : keyOf P k key = some kl)
    (hr : (Instr.lookup t (.map (some b)) key false).run P w = .ok v w) : (Instr.lookup t (.map (some b)) key false).run P w1 = .ok v w1 := by
  have F0 : WideElems.Fit P k (fun v => some ((.held v : DataW Value), ([] : List MemPlace))) es clock := ⟨F.size, F.stamped, fun x hx => by
    obtain ⟨y, hy⟩ := F.reads x hx
    exact ⟨(y.1, .held x.val), by simp [WideElems.rd, WideElems.rd_key hy]⟩⟩
  rcases Maps.fit_look false K ht (hz w) hb F0 hkey with ⟨r1, _, a1⟩ | ⟨e0, y, _, _, r1, hR, a1, _⟩
  · rcases Maps.fit_look false K ht (hz w1) hb1 F0 hkey with ⟨r2, _, a2⟩ | ⟨e2, y2, _, _, r2, hR2, a2, _⟩
    · rw [hr] at r1
      obtain rfl : v = z := by simpa using r1
      exact r2
    · exfalso
      injection hR2 with hR2
      subst hR2
      have h1 := a1 .nil
      have h2 := a2 .nil
      rw [h1] at h2
      cases h2
  · rcases Maps.fit_look false K ht (hz w1) hb1 F0 hkey with ⟨r2, _, a2⟩ | ⟨e2, y2, _, _, r2, hR2, a2, _⟩
    · exfalso
      injection hR with hR
      subst hR
      have h1 := a1 .nil
      have h2 := a2 .nil
      rw [h2] at h1
      cases h1
    · injection hR with hR
      injection hR2 with hR2
      subst hR hR2
      have h1 := a1 .nil
      have h2 := a2 .nil
      rw [h1] at h2
      injection h2 with h3
      rw [hr] at r1
      obtain rfl : v = e0.val := by simpa using r1
      rw [h3]
      exact r2
/-- A group that is looked up: in whatever later world; where its row lies; the way back. -/
theorem groups_at {H : Type} {P : Program} {w : World} {base b n : Nat} {e : TypeId} {q : IntKind} {D : DataW H} {k E t : TypeId} {key : Value} {kl : Lit} (hown : w.ownsGroups P k base e q b n D) (K : Keyed P k) (ht : P.underlying t = some (.map k E)) (hz : ∀ w, (zeroValue E).run P w = .ok (.slice none 0 0) w) (hn : n < maxLen) (hkey : keyOf P k key = some kl) :
    ∃ v zs, (∀ w1 : World, w1.heap[b]? = w.heap[b]? → (Instr.lookup t (.map (some b)) key false).run P w1 = .ok v w1) ∧ D.atKey kl .nil = rowDatum q v zs ∧ w.ownsInts base e q v zs ∧ zs.length ≤ n ∧ w.groupBack P t k base e q b n D key kl v ∧ (∀ No : Nat → Prop, w.Shuns b No → ∀ g, v.ownBlock = some g → ¬ No g) := by
  obtain ⟨v, zs, hrun, hat, hoi, hzl, hback⟩ := hown.at K ht (hz w) hn hkey
  obtain ⟨es, clock, hb, F, _⟩ := hown
  refine ⟨v, zs, fun w1 h1 => look_same K ht hz hb (h1.trans hb) F hkey hrun, hat, hoi, hzl, hback, ?_⟩
  rcases Maps.fit_look false K ht (hz w) hb F hkey with ⟨hrun', _, _⟩ | ⟨e0, y, hm0, _, hrun', _, _, _⟩
  · rw [hrun] at hrun'
    obtain rfl : v = .slice none 0 0 := by simpa using hrun'
    intro _ _ g hg'
    cases hg'
  · rw [hrun] at hrun'
    obtain rfl : v = e0.val := by simpa using hrun'
    exact fun No hs g hg' => hs es clock hb e0 hm0 g hg'
/-- The state: the maps behind k1, k2, k3 events, the clocks of the first j. Blocks are told apart by Z: 0 tables, 1 the row of clocks, 2 and 3 rows of groups, 4 the maps. -/
structure StE (H : Type) (P : Program) (tI tP T e : TypeId) (l : List Ev) (b0 M k1 k2 k3 j : Nat) (W : World) (Z : Nat → Nat) (v : Value) (gs : List Nat) : Prop where
  size : M + 3 ≤ W.heap.size
  low : b0 ≤ M
  m1 : ∃ D : DataW H, W.ownsMap P tI (plainElem P tI) M k1 D ∧ NumE D (fun a => ownN l a k1)
  m2 : ∃ D : DataW H, W.ownsGroups P tI (M + 2) tI .i64 (M + 1) k2 D ∧ GrpE D (fun a => kindN l 2 a k2)
  m3 : ∃ D : DataW H, W.ownsGroups P tI (M + 3) tI .i64 (M + 2) k3 D ∧ GrpE D (fun a => kindN l 3 a k3)
  s2 : W.Shuns (M + 1) (fun g => Z g ≠ 2)
  s3 : W.Shuns (M + 2) (fun g => Z g ≠ 3)
  out : Own ptrT tP W b0 (fun _ => False) v gs
  len : gs.length = j
  tabs : ∀ i g, gs[i]? = some g → ∃ vt, Tab (Value.int .i64) (Value.int .i64) T e W b0 g vt (clkE l i) ∧ Z g = 0 ∧ ∀ q, vt.ownBlock = some q → Z q = 0
  zo : ∀ q, v.ownBlock = some q → Z q = 1
  zm : Z M = 4 ∧ Z (M + 1) = 4 ∧ Z (M + 2) = 4
section
variable {H : Type} {P : Program} {tI tP T e : TypeId} {l : List Ev} {b0 M k1 k2 k3 j : Nat} {W W' : World} {Z Z' : Nat → Nat} {v : Value} {gs : List Nat}
/-- Whatever lies behind is told apart anew. -/
theorem StE.rezone (h : StE H P tI tP T e l b0 M k1 k2 k3 j W Z v gs) (hz : ∀ g, g < W.heap.size → Z' g = Z g) : StE H P tI tP T e l b0 M k1 k2 k3 j W Z' v gs where
  size := h.size
  low := h.low
  m1 := h.m1
  m2 := h.m2
  m3 := h.m3
  s2 := by
    obtain ⟨D, h1, _⟩ := h.m2
    exact h.s2.reno h1 (fun g hg => by
      by_cases hl : g < W.heap.size
      · rw [hz g hl] at hg; exact .inl hg
      · exact .inr (by omega))
  s3 := by
    obtain ⟨D, h1, _⟩ := h.m3
    exact h.s3.reno h1 (fun g hg => by
      by_cases hl : g < W.heap.size
      · rw [hz g hl] at hg; exact .inl hg
      · exact .inr (by omega))
  out := h.out
  len := h.len
  tabs := fun i g hg => by
    obtain ⟨vt, h1, h2, h3⟩ := h.tabs i g hg
    exact ⟨vt, h1, by rw [hz g h1.lt]; exact h2, fun q hq => by rw [hz q (World.ownsRow.lt h1.row q hq).2]; exact h3 q hq⟩
  zo := fun q hq => by rw [hz q (h.out.lt hq)]; exact h.zo q hq
  zm := by
    have := h.size
    rw [hz M (by omega), hz (M + 1) (by omega), hz (M + 2) (by omega)]
    exact h.zm
theorem Tab.row1 {w w' : World} {b g : Nat} {vt : Value} {t : Tb} (h : Tab (Value.int .i64) (Value.int .i64) T e w b g vt t) {row : Option Nat} (hg : w.grownBy w' row) (h1 : row ≠ some g) (h2 : ∀ q, vt.ownBlock = some q → row ≠ some q) : Tab (Value.int .i64) (Value.int .i64) T e w' b g vt t :=
  ⟨(hg.block g h.lt (fun e => h1 e.symm)).trans h.box, h.low, h.row.step (fun q hq => hg.block q (World.ownsRow.lt h.row q hq).2 (fun e => h2 q hq e.symm)), h.ne⟩
/-- What is no map, no row of these. -/
theorem StE.tabs_kept (h : StE H P tI tP T e l b0 M k1 k2 k3 j W Z v gs) {row : Option Nat} (hg : W.grownBy W' row) (h0 : ∀ q, row = some q → Z q ≠ 0) :
    ∀ i g, gs[i]? = some g → ∃ vt, Tab (Value.int .i64) (Value.int .i64) T e W' b0 g vt (clkE l i) ∧ Z g = 0 ∧ ∀ q, vt.ownBlock = some q → Z q = 0 := fun i g hi => by
  obtain ⟨vt, h1, h2, h3⟩ := h.tabs i g hi
  exact ⟨vt, Tab.row1 h1 hg (fun e => h0 g e h2) (fun q hq e => h0 q e (h3 q hq)), h2, h3⟩
theorem StE.out_kept (h : StE H P tI tP T e l b0 M k1 k2 k3 j W Z v gs) {row : Option Nat} (hg : W.grownBy W' row) (h0 : ∀ q, row = some q → Z q ≠ 1) : Own ptrT tP W' b0 (fun _ => False) v gs :=
  h.out.step (fun q hq => hg.block q (h.out.lt hq) (fun e => h0 q e.symm (h.zo q hq))) (fun q hq _ _ => hq.elim)
theorem StE.m1_kept (h : StE H P tI tP T e l b0 M k1 k2 k3 j W Z v gs) {row : Option Nat} (hg : W.grownBy W' row) (h0 : row ≠ some M) : ∃ D : DataW H, W'.ownsMap P tI (plainElem P tI) M k1 D ∧ NumE D (fun a => ownN l a k1) := by
  obtain ⟨D, h1, h2⟩ := h.m1
  exact ⟨D, h1.kept hg (fun e => h0 e.symm), h2⟩
theorem StE.m2_kept (h : StE H P tI tP T e l b0 M k1 k2 k3 j W Z v gs) {row : Option Nat} (hg : W.grownBy W' row) (h0 : ∀ q, row = some q → q ≠ M + 1 ∧ Z q ≠ 2) : (∃ D : DataW H, W'.ownsGroups P tI (M + 2) tI .i64 (M + 1) k2 D ∧ GrpE D (fun a => kindN l 2 a k2)) ∧ W'.Shuns (M + 1) (fun g => Z g ≠ 2) := by
  obtain ⟨D, h1, h2⟩ := h.m2
  exact ⟨⟨D, h1.kept hg (fun e => (h0 _ e.symm).1 rfl) (h.s2.rowsOff (fun q hq => (h0 q hq).2)), h2⟩, h.s2.kept hg (by have := h.size; omega) (fun e => (h0 _ e.symm).1 rfl)⟩
theorem StE.m3_kept (h : StE H P tI tP T e l b0 M k1 k2 k3 j W Z v gs) {row : Option Nat} (hg : W.grownBy W' row) (h0 : ∀ q, row = some q → q ≠ M + 2 ∧ Z q ≠ 3) : (∃ D : DataW H, W'.ownsGroups P tI (M + 3) tI .i64 (M + 2) k3 D ∧ GrpE D (fun a => kindN l 3 a k3)) ∧ W'.Shuns (M + 2) (fun g => Z g ≠ 3) := by
  obtain ⟨D, h1, h2⟩ := h.m3
  exact ⟨⟨D, h1.kept hg (fun e => (h0 _ e.symm).1 rfl) (h.s3.rowsOff (fun q hq => (h0 q hq).2)), h2⟩, h.s3.kept hg (by have := h.size; omega) (fun e => (h0 _ e.symm).1 rfl)⟩
theorem StE.bel (h : StE H P tI tP T e l b0 M k1 k2 k3 j W Z v gs) (hb : Bel W W') : StE H P tI tP T e l b0 M k1 k2 k3 j W' Z v gs := by
  have hg := bel_none' hb
  have h2 := h.m2_kept hg (fun q hq => by cases hq)
  have h3 := h.m3_kept hg (fun q hq => by cases hq)
  exact ⟨Nat.le_trans h.size hb.size, h.low, h.m1_kept hg (fun e => by cases e), h2.1, h3.1, h2.2, h3.2, h.out_kept hg (fun q hq => by cases hq), h.len, h.tabs_kept hg (fun q hq => by cases hq), h.zo, h.zm⟩
/-- One clock more. -/
theorem StE.push (h : StE H P tI tP T e l b0 M k1 k2 k3 j W Z v gs) {v1 : Value} {g : Nat} {vt : Value} (hT : Tab (Value.int .i64) (Value.int .i64) T e W b0 g vt (clkE l j)) (hzg : Z g = 0) (hzv : ∀ q, vt.ownBlock = some q → Z q = 0) (hg : W.grownBy W' v.ownBlock)
    (ho : Own ptrT tP W' b0 (fun _ => False) v1 (gs ++ [g])) (hl : v1.ownBlock = v.ownBlock ∨ ∃ b, v1.ownBlock = some b ∧ W.heap.size ≤ b) (hz : ∀ q, W.heap.size ≤ q → Z q = 1) : StE H P tI tP T e l b0 M k1 k2 k3 (j + 1) W' Z v1 (gs ++ [g]) := by
  have z0 : ∀ q, v.ownBlock = some q → Z q ≠ 0 := fun q hq e => by rw [h.zo q hq] at e; cases e
  have hM := h.zm
  have h2 := h.m2_kept hg (fun q hq => ⟨fun e => (by have := h.zo q hq; rw [e, hM.2.1] at this; cases this), fun e => by rw [h.zo q hq] at e; cases e⟩)
  have h3 := h.m3_kept hg (fun q hq => ⟨fun e => (by have := h.zo q hq; rw [e, hM.2.2] at this; cases this), fun e => by rw [h.zo q hq] at e; cases e⟩)
  refine ⟨Nat.le_trans h.size hg.size, h.low, h.m1_kept hg (fun e => by have := h.zo M e; rw [hM.1] at this; cases this), h2.1, h3.1, h2.2, h3.2, ho, by rw [List.length_append, h.len]; rfl, fun i g' hi => ?_, fun q hq => ?_, hM⟩
  · by_cases hlt : i < gs.length
    · rw [List.getElem?_append_left hlt] at hi
      exact h.tabs_kept hg z0 i g' hi
    · rw [List.getElem?_append_right (by omega)] at hi
      have hi0 : i - gs.length = 0 := by
        rcases Nat.eq_zero_or_pos (i - gs.length) with e | e
        · exact e
        · rw [List.getElem?_eq_none (by simp; omega)] at hi; cases hi
      rw [hi0] at hi
      obtain rfl : g = g' := by simpa using hi
      obtain rfl : i = j := by have := h.len; omega
      exact ⟨vt, Tab.row1 hT hg (fun e => z0 g e hzg) (fun q hq e => z0 q e (hzv q hq)), hzg, hzv⟩
  · rcases hl with e | ⟨b, e, hb⟩
    · exact h.zo q (by rw [← e]; exact hq)
    · rw [e] at hq
      injection hq with hq
      exact hz q (by omega)
/-- An actor's last event is kept. -/
theorem StE.own (h : StE H P tI tP T e l b0 M k1 k2 k3 j W Z v gs) (hg : W.grownBy W' (some M)) (hm : ∃ D : DataW H, W'.ownsMap P tI (plainElem P tI) M (k1 + 1) D ∧ NumE D (fun a => ownN l a (k1 + 1))) : StE H P tI tP T e l b0 M (k1 + 1) k2 k3 j W' Z v gs := by
  have hM := h.zm
  have h2 := h.m2_kept hg (fun q hq => by injection hq with hq; exact ⟨by omega, fun e => by rw [← hq, hM.1] at e; cases e⟩)
  have h3 := h.m3_kept hg (fun q hq => by injection hq with hq; exact ⟨by omega, fun e => by rw [← hq, hM.1] at e; cases e⟩)
  exact ⟨Nat.le_trans h.size hg.size, h.low, hm, h2.1, h3.1, h2.2, h3.2, h.out_kept hg (fun q hq e => by injection hq with hq; rw [← hq, hM.1] at e; cases e), h.len, h.tabs_kept hg (fun q hq e => by injection hq with hq; rw [← hq, hM.1] at e; cases e), h.zo, hM⟩
/-- One more of the second map's groups. -/
theorem StE.grp2 (h : StE H P tI tP T e l b0 M k1 k2 k3 j W Z v gs) {W3 : World} {row : Option Nat} (hu : ∀ q, row = some q → Z q = 2) (hg : W.grownBy W3 row) (hg2 : W3.grownBy W' (some (M + 1)))
    (hm : ∃ D : DataW H, W'.ownsGroups P tI (M + 2) tI .i64 (M + 1) (k2 + 1) D ∧ GrpE D (fun a => kindN l 2 a (k2 + 1))) (hs : W'.Shuns (M + 1) (fun g => Z g ≠ 2)) : StE H P tI tP T e l b0 M k1 (k2 + 1) k3 j W' Z v gs := by
  have hM := h.zm
  have a1 := h.m1_kept hg (fun e => by have := hu M e; rw [hM.1] at this; cases this)
  have a3 := h.m3_kept hg (fun q hq => ⟨fun e => (by have := hu q hq; rw [e, hM.2.2] at this; cases this), fun e => by rw [hu q hq] at e; cases e⟩)
  have ao := h.out_kept hg (fun q hq e => by rw [hu q hq] at e; cases e)
  have at_ := h.tabs_kept hg (fun q hq e => by rw [hu q hq] at e; cases e)
  obtain ⟨D1, b1, c1⟩ := a1
  obtain ⟨⟨D3, b3, c3⟩, d3⟩ := a3
  have hsz := h.size
  refine ⟨Nat.le_trans hsz (Nat.le_trans hg.size hg2.size), h.low, ⟨D1, b1.kept hg2 (fun e => by injection e with e; omega), c1⟩, hm, ⟨D3, b3.kept hg2 (fun e => by injection e with e; omega) (d3.rowsOff (fun q hq => by injection hq with hq; rw [← hq, hM.2.1]; decide)), c3⟩, hs,
    d3.kept hg2 (by have := hg.size; omega) (fun e => by injection e with e; omega), ao.step (fun q hq => hg2.block q (ao.lt hq) (fun e => by injection e with e; have := h.zo q hq; rw [e, hM.2.1] at this; cases this)) (fun q hq _ _ => hq.elim), h.len, fun i g hi => ?_, h.zo, hM⟩
  obtain ⟨vt, x1, x2, x3⟩ := at_ i g hi
  exact ⟨vt, Tab.row1 x1 hg2 (fun e => by injection e with e; rw [← e, hM.2.1] at x2; cases x2) (fun q hq e => by injection e with e; have := x3 q hq; rw [← e, hM.2.1] at this; cases this), x2, x3⟩
/-- One more of the third map's groups. -/
theorem StE.grp3 (h : StE H P tI tP T e l b0 M k1 k2 k3 j W Z v gs) {W3 : World} {row : Option Nat} (hu : ∀ q, row = some q → Z q = 3) (hg : W.grownBy W3 row) (hg2 : W3.grownBy W' (some (M + 2)))
    (hm : ∃ D : DataW H, W'.ownsGroups P tI (M + 3) tI .i64 (M + 2) (k3 + 1) D ∧ GrpE D (fun a => kindN l 3 a (k3 + 1))) (hs : W'.Shuns (M + 2) (fun g => Z g ≠ 3)) : StE H P tI tP T e l b0 M k1 k2 (k3 + 1) j W' Z v gs := by
  have hM := h.zm
  have a1 := h.m1_kept hg (fun e => by have := hu M e; rw [hM.1] at this; cases this)
  have a2 := h.m2_kept hg (fun q hq => ⟨fun e => (by have := hu q hq; rw [e, hM.2.1] at this; cases this), fun e => by rw [hu q hq] at e; cases e⟩)
  have ao := h.out_kept hg (fun q hq e => by rw [hu q hq] at e; cases e)
  have at_ := h.tabs_kept hg (fun q hq e => by rw [hu q hq] at e; cases e)
  obtain ⟨D1, b1, c1⟩ := a1
  obtain ⟨⟨D2, b2, c2⟩, d2⟩ := a2
  have hsz := h.size
  refine ⟨Nat.le_trans hsz (Nat.le_trans hg.size hg2.size), h.low, ⟨D1, b1.kept hg2 (fun e => by injection e with e; omega), c1⟩, ⟨D2, b2.kept hg2 (fun e => by injection e with e; omega) (d2.rowsOff (fun q hq => by injection hq with hq; rw [← hq, hM.2.2]; decide)), c2⟩, hm,
    d2.kept hg2 (by have := hg.size; omega) (fun e => by injection e with e; omega), hs, ao.step (fun q hq => hg2.block q (ao.lt hq) (fun e => by injection e with e; have := h.zo q hq; rw [e, hM.2.2] at this; cases this)) (fun q hq _ _ => hq.elim), h.len, fun i g hi => ?_, h.zo, hM⟩
  obtain ⟨vt, x1, x2, x3⟩ := at_ i g hi
  exact ⟨vt, Tab.row1 x1 hg2 (fun e => by injection e with e; rw [← e, hM.2.2] at x2; cases x2) (fun q hq e => by injection e with e; have := x3 q hq; rw [← e, hM.2.2] at this; cases this), x2, x3⟩
/-- An event that is none of a group's. -/
theorem StE.skip2 (h : StE H P tI tP T e l b0 M k1 k2 k3 j W Z v gs) (hk : (l.getD k2 default).k ≠ 2) : StE H P tI tP T e l b0 M k1 (k2 + 1) k3 j W Z v gs := by
  obtain ⟨D, h1, h2⟩ := h.m2
  exact ⟨h.size, h.low, h.m1, ⟨D, groups_mono h1 (by omega), h2.same (fun a => by rw [kindN_next, if_neg (fun hh => hk hh.1)])⟩, h.m3, h.s2, h.s3, h.out, h.len, h.tabs, h.zo, h.zm⟩
theorem StE.skip3 (h : StE H P tI tP T e l b0 M k1 k2 k3 j W Z v gs) (hk : (l.getD k3 default).k ≠ 3) : StE H P tI tP T e l b0 M k1 k2 (k3 + 1) j W Z v gs := by
  obtain ⟨D, h1, h2⟩ := h.m3
  exact ⟨h.size, h.low, h.m1, h.m2, ⟨D, groups_mono h1 (by omega), h2.same (fun a => by rw [kindN_next, if_neg (fun hh => hk hh.1)])⟩, h.s2, h.s3, h.out, h.len, h.tabs, h.zo, h.zm⟩
/-- Three maps, just made. -/
theorem StE.start (H : Type) (P : Program) (tI tP T e : TypeId) (l : List Ev) (w : World) : StE H P tI tP T e l w.heap.size w.heap.size 0 0 0 0 (((w.alloc (.map #[] 0)).alloc (.map #[] 0)).alloc (.map #[] 0)) (fun _ => 4) (.slice none 0 0) [] := by
  have z1 : (w.alloc (.map #[] 0)).heap.size = w.heap.size + 1 := by simp
  have z2 : ((w.alloc (.map #[] 0)).alloc (.map #[] 0)).heap.size = w.heap.size + 2 := by simp
  have g2 := World.ownsGroups_made (H := H) (w.alloc (.map #[] 0)) P tI tI .i64
  have g3 := World.ownsGroups_made (H := H) ((w.alloc (.map #[] 0)).alloc (.map #[] 0)) P tI tI .i64
  have s2 := World.Shuns_made (w.alloc (.map #[] 0)) (fun _ => (4 : Nat) ≠ 2)
  have s3 := World.Shuns_made ((w.alloc (.map #[] 0)).alloc (.map #[] 0)) (fun _ => (4 : Nat) ≠ 3)
  have ga : ((w.alloc (.map #[] 0)).alloc (.map #[] 0)).grownBy (((w.alloc (.map #[] 0)).alloc (.map #[] 0)).alloc (.map #[] 0)) none := World.grownBy_alloc _ _ _
  rw [z1] at g2 s2
  rw [z2] at g3 s3
  refine ⟨by simp, Nat.le_refl _, ⟨.map [], ((World.ownsMap_made w P tI _).alloc _).alloc _, fun a _ => rfl⟩, ⟨.map [], g2.kept ga (by simp) (s2.rowsOff (fun q hq => by cases hq)), GrpE.nil _ (fun a => rfl)⟩, ⟨.map [], g3, GrpE.nil _ (fun a => rfl)⟩,
    s2.kept ga (by rw [z2]; omega) (by simp), s3, Own.nil _ _ _ _ _, rfl, fun i g hi => (by simp at hi), fun q hq => (by cases hq), ⟨rfl, rfl, rfl⟩⟩
/-- Some that were before, joined: short, and right. -/
theorem mid_fold (l : List Ev) {k : Nat} : ∀ (ps : List Nat) (t : Tb), MidE l k t → (∀ p ∈ ps, p < k) → MidE l k (ps.foldl (fun t p => joinT t (clkE l p)) t)
  | [], _, h, _ => h
  | p :: ps, t, h, hp => mid_fold l ps _ (h.join (hp p (by simp))) (fun q hq => hp q (by simp [hq]))
theorem mid_take {l : List Ev} {k p : Nat} {t : Tb} (h : MidE l k t) (hp : p < k) (hk : k ≤ 1000) (j : Nat) : tabOk cmpI (joinT t ((clkE l p).take j)) ∧ (joinT t ((clkE l p).take j)).length ≤ 1000 := by
  have h1 := clksE_keys l k p
  rw [clksE_at l hp] at h1
  have hok := joinT_ok ((clkE l p).take j) h.ok.ok
  have hkk : KeysE l k (joinT t ((clkE l p).take j)) := h.keys.join h.ok.ok (fun x hx => h1 x (List.mem_of_mem_take hx))
  exact ⟨hok, Nat.le_trans (hkk.len hok) hk⟩
theorem kindE_lt {l : List Ev} {kd n : Int} {k p : Nat} (h : p ∈ kindE l kd n k) : p < k := by
  unfold kindE at h
  exact List.mem_range.1 (List.mem_filter.1 h).1
theorem ownN_none {l : List Ev} {a : Int} {k : Nat} (h : ownE l a k = none) : ownN l a k = 0 := by unfold ownN; rw [h]
theorem ownN_some {l : List Ev} {a : Int} {k p : Nat} (h : ownE l a k = some p) : ownN l a k = (p : Int) + 1 := by unfold ownN; rw [h]
/-- What a number's row reads as. -/
theorem own_ints {w : World} {base : Nat} {t : TypeId} {v : Value} {zs : List Int} (h : w.ownsInts base t .i64 v zs) : Own intT t w base (fun _ => False) v zs := by
  refine ⟨zs.map (Value.int .i64), h.1, fun i x hi => ?_⟩
  show ((zs.map (Value.int .i64)).drop (i * 1)).take 1 = [Value.int .i64 x]
  have hlt := (List.getElem?_eq_some_iff.1 hi).1
  rw [Nat.mul_one, List.drop_eq_getElem_cons (by rw [List.length_map]; exact hlt), List.take_succ_cons, List.take_zero, List.getElem_map, (List.getElem?_eq_some_iff.1 hi).2]
theorem ints_rd {w : World} {base : Nat} {t : TypeId} {v : Value} {zs : List Int} (h : w.ownsInts base t .i64 v zs) : ∃ A c, v = .slice A zs.length c ∧ Rd intT w All A c zs := (own_ints h).rdAll
theorem kindN_at {l : List Ev} {kd n : Int} {k : Nat} {zs : List Int} (hz : zs = kindN l kd n k) {i : Nat} (hi : i < zs.length) : ∃ p, (kindE l kd n k)[i]? = some p ∧ zs[i] = (p : Int) ∧ p < k := by
  subst hz
  unfold kindN at hi ⊢
  rw [List.length_map] at hi
  exact ⟨(kindE l kd n k)[i], List.getElem?_eq_getElem hi, by rw [List.getElem_map], kindE_lt (List.getElem_mem hi)⟩
theorem kindN_all {l : List Ev} {kd n : Int} {k : Nat} {zs : List Int} (hz : zs = kindN l kd n k) : (kindE l kd n k).take zs.length = kindE l kd n k := by
  subst hz
  unfold kindN
  rw [List.length_map, List.take_length]
/-- One more of those that were before is joined. -/
theorem fold_more {l : List Ev} (ps qs : List Nat) {i p : Nat} (h : qs[i]? = some p) (t : Tb) : (ps ++ qs.take (i + 1)).foldl (fun t p => joinT t (clkE l p)) t = joinT ((ps ++ qs.take i).foldl (fun t p => joinT t (clkE l p)) t) (clkE l p) := by
  rw [List.take_add_one, h, ← List.append_assoc, List.foldl_append]
  rfl
theorem Tab.lower {w : World} {b b' g : Nat} {vt : Value} {t : Tb} (h : Tab (Value.int .i64) (Value.int .i64) T e w b g vt t) (hb : b' ≤ b) : Tab (Value.int .i64) (Value.int .i64) T e w b' g vt t :=
  ⟨h.box, Nat.le_trans hb h.low, by
    obtain ⟨h1, h2⟩ := h.row
    refine ⟨h1, ?_⟩
    rcases h2 with h2 | ⟨g', cap, cur, a1, a2, a3⟩
    · exact .inl h2
    · exact .inr ⟨g', cap, cur, a1, Nat.le_trans hb a2, a3⟩, h.ne⟩
/-- A row of numbers, that lies in this block or in a new one. -/
def SPred.grpI (base : Nat) (t : TypeId) (zs : List Int) (ob : Option Nat) (n : Nat) : SPred :=
  ⟨fun v _ _ w => w.ownsInts base t .i64 v zs ∧ (v.ownBlock = ob ∨ ∃ g, v.ownBlock = some g ∧ n ≤ g), fun v _ _ _ _ ⟨h1, h2⟩ hb => ⟨h1.kept (bel_none' hb) (by cases v.ownBlock; exact .inl rfl; exact .inr (fun e => by cases e)), h2⟩⟩
end
end Go.Cb
