/- Walks: the patterns that numbers make: one node more. -/
import Derived.Test.YtmdcgekiiopohaaGreatMI
import Derived.Test.YtmdcgekiiopohaaGreatMG
import Derived.Test.YtmdcgekiiopohaaGreatMB
import Derived.StillTailTactics
set_option linter.unusedVariables false
set_option linter.unusedSimpArgs false
set_option linter.all false
namespace Go.Cb
open Go.RowKit
/-- No block at all. -/
abbrev NoB : Nat → Prop := fun _ => False
/-- At block g lies one value. -/
def Cel (w : World) (t : TypeId) (g : Nat) (v : Value) : Prop := w.heap[g]? = some (.cells #[v] t (0, 0))
section
variable {w w' : World} {t : TypeId} {g : Nat} {v : Value}
theorem Cel.cells (h : Cel w t g v) : w.cell? ⟨g, 0, none⟩ = some v ∧ w.frozen? ⟨g, 0, none⟩ = false := ⟨cellAt h 0, frozenAt h 0⟩
theorem Cel.lt (h : Cel w t g v) : g < w.heap.size := blk_lt h
theorem Cel.to (h : Cel w t g v) (hb : Bel w w') : Cel w' t g v := (hb.block h.lt).trans h
theorem Cel.set (h : Cel w t g v) (u : Value) : Cel (w.setCell ⟨g, 0, none⟩ u) t g u := by
  unfold Cel at *
  simp [World.setCell, Array.getElem?_modify, h]
theorem Cel.other {g' : Nat} (h : Cel w t g v) (hu : Upd g' w w') (hne : g ≠ g') : Cel w' t g v := (hu.block g hne).trans h
theorem Cel.grown {ob : Option Nat} (h : Cel w t g v) (hg : w.grownBy w' ob) (hne : ∀ k, ob = some k → k ≠ g) : Cel w' t g v := (hg.block g h.lt (fun e => hne g e.symm rfl)).trans h
theorem Cel.ne {t2 : TypeId} {g2 : Nat} {v2 : Value} (h : Cel w t g v) (h2 : Cel w t2 g2 v2) (hne : t ≠ t2) : g ≠ g2 := fun e => by
  subst e
  have := h.symm.trans h2
  simp at this
  exact hne this.2
end
section
variable {α β : Type} {d : Ty α} {d2 : Ty β} {e e2 t : TypeId} {w w' : World} {base base2 g : Nat} {S S2 : Nat → Prop} {v v2 u : Value} {xs : List α} {ys : List β}
theorem Own.blockTy (h : Own d e w base S v xs) {k : Nat} (hk : v.ownBlock = some k) : ∃ cur fr, w.heap[k]? = some (.cells cur e fr) := by
  obtain ⟨inner, ho, _⟩ := h
  rcases ho.2 with ⟨rfl, _⟩ | ⟨g, cap, cur, rfl, _, hg, _⟩
  · cases hk
  · have : g = k := Option.some.inj hk
    subst this
    exact ⟨cur, _, hg⟩
theorem Own.beside (h : Own d e w base S v xs) (h2 : Own d2 e2 w base2 S2 v2 ys) (hne : e ≠ e2) {k : Nat} (hk : v.ownBlock = some k) : v2.ownBlock ≠ some k := fun hk2 => by
  obtain ⟨c, f, h1⟩ := h.blockTy hk
  obtain ⟨c2, f2, h3⟩ := h2.blockTy hk2
  have := h1.symm.trans h3
  simp at this
  exact hne this.2.1
theorem Own.notCel (h : Own d e w base S v xs) (hc : Cel w t g u) (hne : e ≠ t) {k : Nat} (hk : v.ownBlock = some k) : k ≠ g := fun hk2 => by
  subst hk2
  obtain ⟨c, f, h1⟩ := h.blockTy hk
  have := h1.symm.trans hc
  simp at this
  exact hne this.2.1
/-- A row that leads nowhere, beside another that has grown. -/
theorem Own.stay {ob : Option Nat} (h : Own d e w base NoB v xs) (hg : w.grownBy w' ob) (hne : ∀ k, v.ownBlock = some k → ob ≠ some k) : Own d e w' base NoB v xs :=
  h.step (fun k hk => hg.block k (h.lt hk) (fun e => hne k hk e.symm)) (fun _ hk _ _ => hk.elim)
theorem Own.stayU (h : Own d e w base NoB v xs) (hu : Upd g w w') (hne : ∀ k, v.ownBlock = some k → k ≠ g) : Own d e w' base NoB v xs :=
  h.step (fun k hk => hu.block k (hne k hk)) (fun _ hk _ _ => hk.elim)
end
/-- A row of one, in a block of the region's own. -/
def SPred.one (b : Nat) (t : TypeId) (cs : Array Value) : SPred :=
  ⟨fun v lo hi w => v = .slice (some ⟨lo, 0, none⟩) 1 1 ∧ b ≤ lo ∧ lo < hi ∧ w.heap[lo]? = some (.cells cs t (0, 0)),
    fun _ _ _ _ _ ⟨e, h1, h2, h3⟩ hb => ⟨e, h1, h2, (hb.block (blk_lt h3)).trans h3⟩⟩
theorem SPred.one_rd {α : Type} (d : Ty α) {b : Nat} {t : TypeId} {cs : Array Value} {x : α} {v : Value} {lo hi : Nat} {w : World} (h : (SPred.one b t cs).φ v lo hi w) (hd : d.rd w (fun k => k = lo) x cs.toList) :
    v = .slice (some ⟨lo, 0, none⟩) 1 1 ∧ b ≤ lo ∧ lo < w.heap.size ∧ Rd d w (fun k => k = lo) (some ⟨lo, 0, none⟩) 1 [x] := by
  obtain ⟨e, h1, h2, h3⟩ := h
  refine ⟨e, h1, blk_lt h3, by simp, by decide, fun j y hj => ?_⟩
  rcases j with _ | j
  · obtain rfl : x = y := by simpa using hj
    refine ⟨_, cs.toList, rfl, rfl, hd, fun i u hu => ?_⟩
    rw [add_plain, cellAt h3, Nat.zero_mul, Nat.zero_add]
    simpa using hu
  · simp at hj
end Go.Cb
namespace Go.Proofs.YtmdcgekiiopohaaGreat
open Go.RowKit Go.Cb Go.Sort
theorem info_pn : (Tryz.prog.info? 75).map (fun i => (i.zero, i.size, i.bytes)) = some (some (.agg #[.int .i64 0, .int .i64 0, .int .i64 0, .int .i64 0, .string ByteArray.empty]), 5, 48) := by kernel_rfl
/-- The three variables of a pattern under way. -/
structure PBox (w0 w : World) (gO gP gT : Nat) (vO vP vT : Value) (x : PS) : Prop where
  bel : Bel w0 w
  bO : w0.heap.size ≤ gO
  bP : w0.heap.size ≤ gP
  bT : w0.heap.size ≤ gT
  cO : Cel w 22 gO vO
  cP : Cel w 48 gP vP
  cT : Cel w 83 gT vT
  rO : Own intT 3 w w0.heap.size NoB vO x.o
  rP : Own patT 75 w w0.heap.size NoB vP x.p
  rT : Own boolT 4 w w0.heap.size NoB vT x.s
theorem PBox.to {w0 w w' : World} {gO gP gT : Nat} {vO vP vT : Value} {x : PS} (h : PBox w0 w gO gP gT vO vP vT x) (hb : Bel w w') : PBox w0 w' gO gP gT vO vP vT x :=
  ⟨h.bel.trans hb, h.bO, h.bP, h.bT, h.cO.to hb, h.cP.to hb, h.cT.to hb, h.rO.to hb, h.rP.to hb, h.rT.to hb⟩
/-- A row of it grew, and its variable was set. -/
theorem PBox.setO {w0 w w' : World} {gO gP gT : Nat} {vO vP vT v' : Value} {x : PS} {o' : List Int} (h : PBox w0 w gO gP gT vO vP vT x) (ho : Own intT 3 w' w0.heap.size NoB v' o') (hb : Bel w0 w') (hg : w.grownBy w' vO.ownBlock) :
    PBox w0 (w'.setCell ⟨gO, 0, none⟩ v') gO gP gT v' vP vT ⟨x.p, o', x.s⟩ := by
  have cO := h.cO.grown hg (fun k hk => h.rO.notCel h.cO (by decide) hk)
  have cP := h.cP.grown hg (fun k hk => h.rO.notCel h.cP (by decide) hk)
  have cT := h.cT.grown hg (fun k hk => h.rO.notCel h.cT (by decide) hk)
  have rP := h.rP.stay hg (fun k hk => h.rP.beside h.rO (by decide) hk)
  have rT := h.rT.stay hg (fun k hk => h.rT.beside h.rO (by decide) hk)
  have hu := Upd.one w' gO 0 v'
  exact ⟨hb.upd hu h.bO, h.bO, h.bP, h.bT, cO.set v', cP.other hu (cP.ne cO (by decide)), cT.other hu (cT.ne cO (by decide)), ho.stayU hu (fun k hk => ho.notCel cO (by decide) hk), rP.stayU hu (fun k hk => rP.notCel cO (by decide) hk), rT.stayU hu (fun k hk => rT.notCel cO (by decide) hk)⟩
theorem PBox.setP {w0 w w' : World} {gO gP gT : Nat} {vO vP vT v' : Value} {x : PS} {o' : List PN} (h : PBox w0 w gO gP gT vO vP vT x) (ho : Own patT 75 w' w0.heap.size NoB v' o') (hb : Bel w0 w') (hg : w.grownBy w' vP.ownBlock) :
    PBox w0 (w'.setCell ⟨gP, 0, none⟩ v') gO gP gT vO v' vT ⟨o', x.o, x.s⟩ := by
  have cO := h.cO.grown hg (fun k hk => h.rP.notCel h.cO (by decide) hk)
  have cP := h.cP.grown hg (fun k hk => h.rP.notCel h.cP (by decide) hk)
  have cT := h.cT.grown hg (fun k hk => h.rP.notCel h.cT (by decide) hk)
  have rO := h.rO.stay hg (fun k hk => h.rO.beside h.rP (by decide) hk)
  have rT := h.rT.stay hg (fun k hk => h.rT.beside h.rP (by decide) hk)
  have hu := Upd.one w' gP 0 v'
  exact ⟨hb.upd hu h.bP, h.bO, h.bP, h.bT, cO.other hu (cO.ne cP (by decide)), cP.set v', cT.other hu (cT.ne cP (by decide)), rO.stayU hu (fun k hk => rO.notCel cP (by decide) hk), ho.stayU hu (fun k hk => ho.notCel cP (by decide) hk), rT.stayU hu (fun k hk => rT.notCel cP (by decide) hk)⟩
theorem PBox.setT {w0 w w' : World} {gO gP gT : Nat} {vO vP vT v' : Value} {x : PS} {o' : List Bool} (h : PBox w0 w gO gP gT vO vP vT x) (ho : Own boolT 4 w' w0.heap.size NoB v' o') (hb : Bel w0 w') (hg : w.grownBy w' vT.ownBlock) :
    PBox w0 (w'.setCell ⟨gT, 0, none⟩ v') gO gP gT vO vP v' ⟨x.p, x.o, o'⟩ := by
  have cO := h.cO.grown hg (fun k hk => h.rT.notCel h.cO (by decide) hk)
  have cP := h.cP.grown hg (fun k hk => h.rT.notCel h.cP (by decide) hk)
  have cT := h.cT.grown hg (fun k hk => h.rT.notCel h.cT (by decide) hk)
  have rO := h.rO.stay hg (fun k hk => h.rO.beside h.rT (by decide) hk)
  have rP := h.rP.stay hg (fun k hk => h.rP.beside h.rT (by decide) hk)
  have hu := Upd.one w' gT 0 v'
  exact ⟨hb.upd hu h.bT, h.bO, h.bP, h.bT, cO.other hu (cO.ne cT (by decide)), cP.other hu (cP.ne cT (by decide)), cT.set v', rO.stayU hu (fun k hk => rO.notCel cT (by decide) hk), rP.stayU hu (fun k hk => rP.notCel cT (by decide) hk), ho.stayU hu (fun k hk => ho.notCel cT (by decide) hk)⟩
/-- The node that is put in, in a block of its own. -/
def Cel5 (w : World) (g : Nat) (y : PN) : Prop := w.heap[g]? = some (.cells #[.int .i64 y.k, .int .i64 y.a, .int .i64 y.b, .int .i64 y.n, .string y.s] 75 (0, 0))
theorem Cel5.cells {w : World} {g : Nat} {y : PN} (h : Cel5 w g y) : w.cell? ⟨g, 0, none⟩ = some (.int .i64 y.k) ∧ w.cell? ⟨g, 1, none⟩ = some (.int .i64 y.a) ∧ w.cell? ⟨g, 2, none⟩ = some (.int .i64 y.b) ∧ w.cell? ⟨g, 3, none⟩ = some (.int .i64 y.n) ∧ w.cell? ⟨g, 4, none⟩ = some (.string y.s) :=
  ⟨cellAt h 0, cellAt h 1, cellAt h 2, cellAt h 3, cellAt h 4⟩
theorem Cel5.setO {w0 w w' : World} {gO gP gT N : Nat} {vO vP vT : Value} {x : PS} {y : PN} (h : Cel5 w N y) (hp : PBox w0 w gO gP gT vO vP vT x) (hg : w.grownBy w' vO.ownBlock) (v' : Value) : Cel5 (w'.setCell ⟨gO, 0, none⟩ v') N y := by
  have h1 : Cel5 w' N y := (hg.block N (blk_lt h) (fun e => by
    obtain ⟨c, f, h3⟩ := hp.rO.blockTy e.symm
    have := h.symm.trans h3
    simp at this)).trans h
  refine ((Upd.one w' gO 0 v').block N (fun e => ?_)).trans h1
  have h2 := hp.cO
  rw [← e] at h2
  have := h.symm.trans h2
  simp at this
set_option maxRecDepth 100000 in
set_option maxHeartbeats 16000000 in
theorem patAdd_c (w0 w : World) (gO gP gT : Nat) (vO vP vT : Value) (x : PS) (y : PN) (take : Nat) (b : Bool) (h : PBox w0 w gO gP gT vO vP vT x) (ht : take ≤ x.o.length) (hl : x.o.length ≤ 1000) (hl2 : x.p.length ≤ 1000) (hl3 : x.s.length ≤ 1000) :
    Calls Tryz.prog 38 #[.agg #[.int .i64 y.k, .int .i64 y.a, .int .i64 y.b, .int .i64 y.n, .string y.s], .int .i64 take, .bool b, .pointer (some ⟨gO, 0, none⟩), .pointer (some ⟨gP, 0, none⟩), .pointer (some ⟨gT, 0, none⟩)] w
      fun e w' => e = .returned (.tuple #[]) ∧ ∃ vO' vP' vT', PBox w0 w' gO gP gT vO' vP' vT' (x.add y take b) := by
  obtain ⟨AO, cO, rfl⟩ := h.rO.form
  obtain ⟨AP, cP, rfl⟩ := h.rP.form
  obtain ⟨AT, cT, rfl⟩ := h.rT.form
  obtain ⟨lo, hlo⟩ : ∃ lo, x.o.length = lo := ⟨_, rfl⟩
  obtain ⟨lp, hlp⟩ : ∃ lp, x.p.length = lp := ⟨_, rfl⟩
  obtain ⟨lt, hlt⟩ : ∃ lt, x.s.length = lt := ⟨_, rfl⟩
  have HLO := Lib.hid hlo
  have HLP := Lib.hid hlp
  have HLT := Lib.hid hlt
  rw [hlo] at h ht hl
  rw [hlp] at h hl2
  rw [hlt] at h hl3
  clear hlo hlp hlt
  have hal : Bel w (w.alloc (.cells #[.int .i64 y.k, .int .i64 y.a, .int .i64 y.b, .int .i64 y.n, .string y.s] 75)) := (Bel.refl _).alloc _
  have hbx := heap_alloc_new w (.cells #[.int .i64 y.k, .int .i64 y.a, .int .i64 y.b, .int .i64 y.n, .string y.s] 75)
  have h1 := h.to hal
  go_enter Tryz.func38, Tryz.ntmps38
  go_wp2_with fail
  obtain ⟨N, hN⟩ : ∃ N, w.heap.size = N := ⟨_, rfl⟩
  rw [hN] at hbx ⊢
  generalize (w.alloc (.cells #[.int .i64 y.k, .int .i64 y.a, .int .i64 y.b, .int .i64 y.n, .string y.s] 75)) = W at *
  clear hal h hN
  have e13 : IntKind.i64.wrap ((lo : Int) - (take : Int)) = ((lo - take : Nat) : Int) := by rw [IntKind.wrap_i64]; omega
  refine wp_region_grow2 9 (by kernel_rfl) (by kernel_rfl) (by kernel_rfl) [SPred.val (.slice AO lo cO), SPred.val (.slice AO lo cO), SPred.val (.int .i64 lo), SPred.val (.int .i64 take), SPred.val (.int .i64 (lo - take : Nat)), SPred.val (.slice AO (lo - take) cO), SPred.val (.slice AP lp cP), SPred.val (.int .i64 lp), SPred.one W.heap.size 3 #[.int .i64 lp]] ?_ ?_
  · refine ⟨fun u ρ w2 hb2 hd => ?_, fun u ρ w2 hb2 hd => ?_, fun u ρ w2 hb2 hd => ?_, fun u ρ w2 hb2 hd => ?_, fun u ρ w2 hb2 hd => ?_, fun u ρ w2 hb2 hd => ?_, fun u ρ w2 hb2 hd => ?_, fun u ρ w2 hb2 hd => ?_, fun u ρ w2 hb2 hd => ?_, trivial⟩
    · obtain ⟨c0, f0⟩ := (h1.cO.to hb2).cells
      simp only [growFr, List.getElem?_cons_succ, List.getElem?_cons_zero, Option.bind_some, Act.put, List.setIfInBounds_toArray, List.set_cons_succ, List.set_cons_zero]
      go_wp2_with fail
      exact ⟨rfl, _, rfl, Bel.refl _, rfl⟩
    · obtain ⟨c0, f0⟩ := (h1.cO.to hb2).cells
      simp only [growFr, List.getElem?_cons_succ, List.getElem?_cons_zero, Option.bind_some, Act.put, List.setIfInBounds_toArray, List.set_cons_succ, List.set_cons_zero]
      go_wp2_with fail
      exact ⟨rfl, _, rfl, Bel.refl _, rfl⟩
    · have g1 : u 1 = _ := hd 1 (by kernel_rfl)
      simp only [growFr, List.getElem?_cons_succ, List.getElem?_cons_zero, Option.bind_some, Act.put, List.setIfInBounds_toArray, List.set_cons_succ, List.set_cons_zero, g1]
      go_wp2_with fail
      exact ⟨rfl, _, rfl, Bel.refl _, rfl⟩
    · simp only [growFr, List.getElem?_cons_succ, List.getElem?_cons_zero, Option.bind_some, Act.put, List.setIfInBounds_toArray, List.set_cons_succ, List.set_cons_zero]
      go_wp2_with fail
      exact ⟨rfl, _, rfl, Bel.refl _, rfl⟩
    · have g2 : u 2 = _ := hd 2 (by kernel_rfl)
      have g3 : u 3 = _ := hd 3 (by kernel_rfl)
      simp only [growFr, List.getElem?_cons_succ, List.getElem?_cons_zero, Option.bind_some, Act.put, List.setIfInBounds_toArray, List.set_cons_succ, List.set_cons_zero, g2, g3]
      go_wp2_with fail
      exact ⟨rfl, _, rfl, Bel.refl _, by first | rfl | simp [e13]⟩
    · have g0 : u 0 = _ := hd 0 (by kernel_rfl)
      have g4 : u 4 = _ := hd 4 (by kernel_rfl)
      have hcap := h1.rO.rdAll
      have hlc : lo - take ≤ cO := by
        obtain ⟨A', c', e, r⟩ := h1.rO.rdAll
        injection e with e1 e2 e3
        have := r.cap
        rw [HLO.out] at this
        omega
      clear hcap
      simp only [growFr, List.getElem?_cons_succ, List.getElem?_cons_zero, Option.bind_some, Act.put, List.setIfInBounds_toArray, List.set_cons_succ, List.set_cons_zero, g0, g4]
      go_wp2_with fail
      exact ⟨rfl, _, rfl, Bel.refl _, rfl⟩
    · obtain ⟨c0, f0⟩ := (h1.cP.to hb2).cells
      simp only [growFr, List.getElem?_cons_succ, List.getElem?_cons_zero, Option.bind_some, Act.put, List.setIfInBounds_toArray, List.set_cons_succ, List.set_cons_zero]
      go_wp2_with fail
      exact ⟨rfl, _, rfl, Bel.refl _, rfl⟩
    · have g6 : u 6 = _ := hd 6 (by kernel_rfl)
      simp only [growFr, List.getElem?_cons_succ, List.getElem?_cons_zero, Option.bind_some, Act.put, List.setIfInBounds_toArray, List.set_cons_succ, List.set_cons_zero, g6]
      go_wp2_with fail
      exact ⟨rfl, _, rfl, Bel.refl _, rfl⟩
    · have g7 : u 7 = _ := hd 7 (by kernel_rfl)
      simp only [growFr, List.getElem?_cons_succ, List.getElem?_cons_zero, Option.bind_some, Act.put, List.setIfInBounds_toArray, List.set_cons_succ, List.set_cons_zero, g7]
      go_wp2_with fail
      have hal : Bel w2 (w2.alloc (.cells #[.int .i64 lp] 3)) := (Bel.refl _).alloc _
      exact ⟨rfl, _, rfl, hal, rfl, hb2.size, by simp, heap_alloc_new w2 _⟩
  · intro u ρ w2 hb2 hall hdj
    have g0 : u 0 = _ := (hall 0 (by omega)).1
    have g1 : u 1 = _ := (hall 1 (by omega)).1
    have g2 : u 2 = _ := (hall 2 (by omega)).1
    have g3 : u 3 = _ := (hall 3 (by omega)).1
    have g4 : u 4 = _ := (hall 4 (by omega)).1
    have g5 : u 5 = _ := (hall 5 (by omega)).1
    have g6 : u 6 = _ := (hall 6 (by omega)).1
    have g7 : u 7 = _ := (hall 7 (by omega)).1
    obtain ⟨g8, hlo8, hlt8, hR⟩ := SPred.one_rd intT (x := (lp : Int)) (hall 8 (by omega)).1 rfl
    simp only [List.drop_succ_cons, List.drop_zero, growFr, List.getElem?_cons_succ, List.getElem?_cons_zero, Option.bind_some, Act.put, List.setIfInBounds_toArray, List.set_cons_succ, List.set_cons_zero, g0, g1, g2, g3, g4, g5, g6, g7, g8]
    have h2 := h1.to hb2
    have hbx2 := (hb2.block (blk_lt hbx)).trans hbx
    generalize (ρ 8).1 = q at *
    clear hall hdj g0 g1 g2 g3 g4 g5 g6 g7 g8 h1 hbx
    have HR := Lib.hid hR
    have H2 := Lib.hid h2
    have HB := Lib.hid h2.bel
    have HPRE := Lib.hid (h2.rO.pre (i := lo - take) (by rw [HLO.out]; omega))
    have HBX5 := Lib.hid (show Cel5 w2 N y from hbx2)
    have HOB := Lib.hid (show (Value.slice AO (lo - take) cO).ownBlock = (Value.slice AO lo cO).ownBlock by cases AO <;> rfl)
    clear hR h2 hbx2
    go_wp2_with (at_builtin; first
      | (refine wp_append intT (w0 := w0) 22 3 (.int .i64 0) 8 rfl _ _ rfl Tryz.underlying22 info_int rfl NoB (fun j => j = q) (.slice AO (lo - take) cO) (x.o.take (lo - take)) [(lp : Int)] (some ⟨q, 0, none⟩) 1 1 rfl rfl rfl HPRE.out HR.out (fun _ _ h => h) HB.out (by simp [maxLen]; omega) (by simp; omega) ?_; rintro v6 w6 ho6 hb6 hg6 hf6; rw [HOB.out] at hg6; obtain ⟨A6, c6, hv6⟩ := ho6.form; simp only [List.length_append, List.length_take, HLO.out, List.length_singleton, Nat.min_eq_left (Nat.sub_le lo take)] at hv6; (subst hv6)
         (obtain ⟨y0, y1⟩ := (H2.out.cO.grown hg6 (fun k hk => H2.out.rO.notCel H2.out.cO (by decide) hk)).cells)
         (have H3 := Lib.hid (H2.out.setO ho6 hb6 hg6))
         (have HBX := Lib.hid (HBX5.out.setO H2.out hg6 (.slice A6 (lo - take + 1) c6)))
         obtain ⟨n0, n1, n2, n3, n4⟩ := HBX.out.cells
         obtain ⟨p0, p1⟩ := H3.out.cP.cells
         obtain ⟨t0, t1⟩ := H3.out.cT.cells
         clear ho6 hb6 hg6 hf6)
      | (go_loud (refine wp_append1c patT w0.heap.size 48 75 (.agg #[.int .i64 0, .int .i64 0, .int .i64 0, .int .i64 0, .string ByteArray.empty]) 48 rfl _ _ rfl Tryz.underlying48 info_pn rfl NoB (.slice AP lp cP) x.p y [.int .i64 y.k, .int .i64 y.a, .int .i64 y.b, .int .i64 y.n, .string y.s] w6.heap.size (by simp) rfl rfl H3.out.rP H3.out.bel.size rfl (by rw [HLP.out]; unfold maxLen; omega) (by rw [HLP.out]; omega) ?_); rintro v7 w7 ho7 hg7; obtain ⟨A7, c7, hv7⟩ := ho7.form; rw [List.length_append, HLP.out, List.length_singleton] at hv7; subst hv7
         have H4 := Lib.hid (H3.out.setP ho7 (H3.out.bel.grown hg7 (fun k hk => H3.out.rP.ge hk)) hg7)
         obtain ⟨q0, q1⟩ := (H3.out.cP.grown hg7 (fun k hk => H3.out.rP.notCel H3.out.cP (by decide) hk)).cells
         obtain ⟨t2, t3⟩ := H4.out.cT.cells
         clear ho7 hg7)
      | (go_loud (refine wp_append1c boolT w0.heap.size 83 4 (.bool false) 1 rfl _ _ rfl Tryz.underlying83 info_bool rfl NoB (.slice AT lt cT) x.s b [.bool b] w7.heap.size (by simp) rfl rfl H4.out.rT H4.out.bel.size rfl (by rw [HLT.out]; unfold maxLen; omega) (by rw [HLT.out]; omega) ?_); rintro v8 w8 ho8 hg8; obtain ⟨A8, c8, hv8⟩ := ho8.form; rw [List.length_append, HLT.out, List.length_singleton] at hv8; subst hv8
         have H5 := Lib.hid (H4.out.setT ho8 (H4.out.bel.grown hg8 (fun k hk => H4.out.rT.ge hk)) hg8)
         obtain ⟨r0, r1⟩ := (H4.out.cT.grown hg8 (fun k hk => H4.out.rT.notCel H4.out.cT (by decide) hk)).cells
         clear ho8 hg8))
    go_end0
    have h5 := H5.out
    have hx : x.add y take b = ⟨x.p ++ [y], x.o.take (lo - take) ++ [(lp : Int)], x.s ++ [b]⟩ := by unfold PS.add; rw [HLO.out, HLP.out]
    rw [hx]
    exact ⟨rfl, _, _, _, h5⟩
end Go.Proofs.YtmdcgekiiopohaaGreat

/- Walks: the patterns that numbers make: what stands behind the first loop. -/
namespace Go.Proofs.YtmdcgekiiopohaaGreat
open Go.RowKit Go.Cb Go.Sort
theorem PBox.new (w : World) : PBox w (((w.alloc (.cells #[.slice none 0 0] 48)).alloc (.cells #[.slice none 0 0] 22)).alloc (.cells #[.slice none 0 0] 83)) (w.heap.size + 1) w.heap.size (w.heap.size + 2) (.slice none 0 0) (.slice none 0 0) (.slice none 0 0) ⟨[], [], []⟩ := by
  have b1 : Bel w (w.alloc (.cells #[.slice none 0 0] 48)) := (Bel.refl _).alloc _
  have k1 : Cel (w.alloc (.cells #[.slice none 0 0] 48)) 48 w.heap.size (.slice none 0 0) := heap_alloc_new w _
  have s1 : (w.alloc (.cells #[.slice none 0 0] 48)).heap.size = w.heap.size + 1 := by simp
  generalize (w.alloc (.cells #[.slice none 0 0] 48)) = w1 at *
  have b2 : Bel w1 (w1.alloc (.cells #[.slice none 0 0] 22)) := (Bel.refl _).alloc _
  have k2 : Cel (w1.alloc (.cells #[.slice none 0 0] 22)) 22 w1.heap.size (.slice none 0 0) := heap_alloc_new w1 _
  have s2 : (w1.alloc (.cells #[.slice none 0 0] 22)).heap.size = w1.heap.size + 1 := by simp
  generalize (w1.alloc (.cells #[.slice none 0 0] 22)) = w2 at *
  have b3 : Bel w2 (w2.alloc (.cells #[.slice none 0 0] 83)) := (Bel.refl _).alloc _
  have k3 : Cel (w2.alloc (.cells #[.slice none 0 0] 83)) 83 w2.heap.size (.slice none 0 0) := heap_alloc_new w2 _
  rw [s1] at k2
  rw [s2, s1] at k3
  exact ⟨(b1.trans b2).trans b3, by omega, Nat.le_refl _, by omega, (k2.to b3), (k1.to b2).to b3, k3, Own.nil _ _ _ _ _, Own.nil _ _ _ _ _, Own.nil _ _ _ _ _⟩
/-- The uppermost that are open: where they stand, which hold a star. -/
theorem pbox_top {w0 W : World} {gO gP gT go gs cO cT lo lt : Nat} {vP : Value} {x : PS} (h : PBox w0 W gO gP gT (.slice (some ⟨go, 0, none⟩) lo cO) vP (.slice (some ⟨gs, 0, none⟩) lt cT) x) (ho : PSok x) (hlo : x.o.length = lo) (hlt : x.s.length = lt) {k : Nat} (hk : 1 ≤ k) (hkl : k ≤ lo) :
    ∃ m : Nat, m < lt ∧ lo - k < lo ∧ Hid (x.o.getD (x.o.length - k) 0 = (m : Int)) ∧ W.cell? ⟨go, lo - k, none⟩ = some (.int .i64 (m : Int)) ∧ ∃ s, Hid (x.st (x.o.getD (x.o.length - k) 0) = s) ∧ W.cell? ⟨gs, m, none⟩ = some (.bool s) := by
  have hi : lo - k < x.o.length := by omega
  have h1 := h.rO.cell hi
  have hb := ho.below _ (List.getElem_mem hi)
  have hl := ho.lens
  have hg : x.o.getD (x.o.length - k) 0 = x.o[lo - k] := by
    rw [hlo, List.getD_eq_getElem?_getD, List.getElem?_eq_getElem hi]; rfl
  obtain ⟨m, hm⟩ : ∃ m : Nat, x.o[lo - k] = m := ⟨(x.o[lo - k]).toNat, by omega⟩
  rw [hm] at h1 hb hg
  have hmt : m < x.s.length := by omega
  have h2 := h.rT.cell hmt
  refine ⟨m, by omega, by omega, hg, h1.1, x.s[m], ?_, h2.1⟩
  show x.st (x.o.getD (x.o.length - k) 0) = _
  unfold PS.st
  rw [hg, Int.toNat_natCast, List.getD_eq_getElem?_getD, List.getElem?_eq_getElem hmt]; rfl
/-- The code behind the first loop. -/
noncomputable def patTail : Code := match Tryz.f15.body with
  | some (.seq _ (.seq _ (.seq _ (.seq _ (.seq _ (.seq _ t)))))) => t
  | _ => .skip
/-- Its first region, the branch behind it, and the rest. -/
noncomputable def patTailA : Code := match patTail with | .seq (.seq a _) _ => a | _ => .skip
noncomputable def patTailB : Code := match patTail with | .seq (.seq _ b) _ => b | _ => .skip
noncomputable def patTailC : Code := match patTail with | .seq _ c => c | _ => .skip
set_option maxRecDepth 1000000 in
set_option maxHeartbeats 64000000 in
theorem playPat_tail {u1 u7 u8 u9 u10 u11 u12 u13 u14 u15 u16 u17 u18 u19 u20 u21 u22 u23 u24 u25 u26 u27 u28 u29 u30 u31 u32 u33 u34 u35 u36 u37 u38 u39 u40 u41 u42 u43 u44 u45 u46 u47 u48 u49 u50 u51 u52 u53 u54 u55 u56 u57 u58 u59 u60 u61 u62 u63 u64 u65 u66 u67 u68 u69 u70 u71 u72 u73 u74 u75 u76 u77 u78 u79 u80 u81 u82 u83 u84 u85 u86 u87 u88 u89 u90 u91 u92 u93 u94 u95 u96 u97 u98 u99 u100 u101 u102 u103 u104 u105 u106 u107 u108 u109 u110 u111 u112 u113 u114 u115 u116 u117 u118 u119 u120 u121 u122 u123 u124 u125 u126 u127 u128 u129 u130 u131 u132 u133 u134 u135 u136 u137 u138 u139 u140 u141 u142 u143 u144 u145 u146 u147 u148 u149 u150 u151 u152 u153 u154 u155 u156 u157 u158 u159 u160 u161 u162 u163 u164 u165 u166 u167 u168 u169 u170 u171 u172 u173 u174 u175 u176 u177 u178 u179 u180 : Value} (S : Nat → Prop) (A : Option Addr) (c : Nat) (l : List Int) (w W : World) (h : Rd intT w S A c l) (x : PS) (vO vP vT : Value) (hp : PBox w W (w.heap.size + 1) w.heap.size (w.heap.size + 2) vO vP vT x) (ho : PSok x) (hs24 : x.p.length + x.o.length ≤ 24) (hE : goPl l ⟨[], [], []⟩ = x) (Q : Exit → Act → World → Prop) (hQ : Q = bodyPost Tryz.prog Tryz.f15 fun e w' => ∃ A' c', e = .returned (.slice A' (playPat l).length c') ∧ Rd patT w' (Ge w.heap.size) A' c' (playPat l) ∧ Bel w w')
    (K1 K : Act → World → Prop) (hK1 : ∀ a w, Code.wp Tryz.prog patTailC Q a w → K1 a w) (hK : ∀ a w, Code.wp Tryz.prog patTailB (Exit.then K1 Q) a w → K a w) :
    Code.wp Tryz.prog patTailA (Exit.then K (Exit.then K1 Q)) ⟨#[.slice A l.length c, u1, .slice none 0 0, .pointer (some ⟨w.heap.size, 0, none⟩), .pointer (some ⟨w.heap.size + 1, 0, none⟩), .pointer (some ⟨w.heap.size + 1 + 1, 0, none⟩), .func (.func 38) #[] #[.pointer (some ⟨w.heap.size + 1, 0, none⟩), .pointer (some ⟨w.heap.size, 0, none⟩), .pointer (some ⟨w.heap.size + 1 + 1, 0, none⟩)], u7, u8, u9, u10, u11, u12, u13, u14, u15, u16, u17, u18, u19, u20, u21, u22, u23, u24, u25, u26, u27, u28, u29, u30, u31, u32, u33, u34, u35, u36, u37, u38, u39, u40, u41, u42, u43, u44, u45, u46, u47, u48, u49, u50, u51, u52, u53, u54, u55, u56, u57, u58, u59, u60, u61, u62, u63, u64, u65, u66, u67, u68, u69, u70, u71, u72, u73, u74, u75, u76, u77, u78, u79, u80, u81, u82, u83, u84, u85, u86, u87, u88, u89, u90, u91, u92, u93, u94, u95, u96, u97, u98, u99, u100, u101, u102, u103, u104, u105, u106, u107, u108, u109, u110, u111, u112, u113, u114, u115, u116, u117, u118, u119, u120, u121, u122, u123, u124, u125, u126, u127, u128, u129, u130, u131, u132, u133, u134, u135, u136, u137, u138, u139, u140, u141, u142, u143, u144, u145, u146, u147, u148, u149, u150, u151, u152, u153, u154, u155, u156, u157, u158, u159, u160, u161, u162, u163, u164, u165, u166, u167, u168, u169, u170, u171, u172, u173, u174, u175, u176, u177, u178, u179, u180], []⟩ W := by
  subst hQ
  have lm := h.lenMax
  have H := Lib.hid h
  have HO := Lib.hid ho
  have HS := Lib.hid hs24
  have HE := Lib.hid hE
  obtain ⟨AO, cO, rfl⟩ := hp.rO.form
  obtain ⟨AP, cP, rfl⟩ := hp.rP.form
  obtain ⟨AT, cT, rfl⟩ := hp.rT.form
  obtain ⟨lo, hlo⟩ : ∃ lo, x.o.length = lo := ⟨_, rfl⟩
  obtain ⟨lp, hlp⟩ : ∃ lp, x.p.length = lp := ⟨_, rfl⟩
  obtain ⟨lt, hlt⟩ : ∃ lt, x.s.length = lt := ⟨_, rfl⟩
  have HLO := Lib.hid hlo
  have HLP := Lib.hid hlp
  have HLT := Lib.hid hlt
  have hs : lp + lo ≤ 24 := by have := HS.out; omega
  have hlt2 : lt = lp := by have := HO.out.lens; omega
  have hol : lo ≤ lp := by have := HO.out.lo; omega
  rw [hlo, hlp, hlt] at hp
  clear hlo hlp hlt h ho hs24 hE
  subst hlt2
  have HP := Lib.hid hp
  obtain ⟨o0, o1⟩ := hp.cO.cells
  obtain ⟨p0, p1⟩ := hp.cP.cells
  obtain ⟨t0, t1⟩ := hp.cT.cells
  have hbel := hp.bel
  have hws := hbel.size
  clear hp hbel
  conv => arg 2; whnf
  by_cases z0 : lo = 0
  · have ez : ((lo : Int) == 0) = true := by simp; omega
    have HA := Lib.hid (show ∀ W', Bel W W' → Calls Tryz.prog 38 #[.agg #[.int .i64 2, .int .i64 0, .int .i64 0, .int .i64 0, .string { data := #[] }], .int .i64 0, .bool false, .pointer (some ⟨w.heap.size + 1, 0, none⟩), .pointer (some ⟨w.heap.size, 0, none⟩), .pointer (some ⟨w.heap.size + 1 + 1, 0, none⟩)] W' fun e w' => e = .returned (.tuple #[]) ∧ ∃ vO' vP' vT', PBox w w' (w.heap.size + 1) w.heap.size (w.heap.size + 2) vO' vP' vT' (x.add (pn 2 0 0 0) 0 false) from fun W' hW => patAdd_c w W' _ _ _ _ _ _ x (pn 2 0 0 0) 0 false (HP.out.to hW) (by rw [HLO.out]; omega) (by rw [HLO.out]; omega) (by rw [HLP.out]; omega) (by rw [HLT.out]; omega))
    have HY := Lib.hid (show onePl (goPl l ⟨[], [], []⟩) = x.add (pn 2 0 0 0) 0 false by rw [HE.out]; unfold onePl; rw [if_pos (by rw [HLO.out]; exact z0)])
    have HO' := Lib.hid (HO.out.add (pn 2 0 0 0) 0 false)
    have HL' := Lib.hid (PS.add_lens x (pn 2 0 0 0) (take := 0) false (by omega))
    go_wp2_with fail
    conv => arg 2; whnf
    go_wp2_with (go_at_call 38; refine (HA.out _ ?_).mono ?_; exact Bel.refl _; rintro e w4 ⟨rfl, vO', vP', vT', hp4⟩)
    conv => arg 2; whnf
    go_wp2
    go_loopw [15] (fun v15 wr => ∃ (i : Nat) (W : World) (y : PS) (vO vP vT : Value), W = wr ∧ v15 = .int .i64 i ∧ PBox w W (w.heap.size + 1) w.heap.size (w.heap.size + 2) vO vP vT y ∧ Hid (PSok y) ∧ Hid (y.p.length + y.o.length ≤ 24) ∧ Hid (1 ≤ y.o.length) ∧ Hid (i + y.o.length ≤ 24) ∧ Hid (playPS l = joinPl l (y.o.length - 1) i y)) (fun v15 _ => 24 - (intOf v15).toNat)
    case atStart => exact ⟨0, _, (x.add (pn 2 0 0 0) 0 false), _, _, _, rfl, rfl, hp4, HO'.out, ((by have h8 := HL'.out; have h9 := HLO.out; have h10 := HLP.out; have h11 := HO.out.some_; omega) : (x.add (pn 2 0 0 0) 0 false).p.length + (x.add (pn 2 0 0 0) 0 false).o.length ≤ 24), ((by have h8 := HL'.out; have h9 := HLO.out; omega) : 1 ≤ (x.add (pn 2 0 0 0) 0 false).o.length), ((by have h8 := HL'.out; have h9 := HLO.out; omega) : 0 + (x.add (pn 2 0 0 0) 0 false).o.length ≤ 24), (show playPS l = joinPl l ((x.add (pn 2 0 0 0) 0 false).o.length - 1) 0 (x.add (pn 2 0 0 0) 0 false) by unfold playPS; rw [HY.out])⟩
    clear hp4 o0 o1 p0 p1 t0 t1
    case round =>
      obtain ⟨i, W, y, vO, vP, vT, rfl, rfl, hp, HO, HS, H1, HI, HG⟩ := hrel
      obtain ⟨AO, cO, rfl⟩ := hp.rO.form
      obtain ⟨AP, cP, rfl⟩ := hp.rP.form
      obtain ⟨AT, cT, rfl⟩ := hp.rT.form
      obtain ⟨lo, hlo⟩ : ∃ lo, y.o.length = lo := ⟨_, rfl⟩
      obtain ⟨lp, hlp⟩ : ∃ lp, y.p.length = lp := ⟨_, rfl⟩
      obtain ⟨lt, hlt⟩ : ∃ lt, y.s.length = lt := ⟨_, rfl⟩
      have HLO := Lib.hid hlo
      have HLP := Lib.hid hlp
      have HLT := Lib.hid hlt
      have hs : lp + lo ≤ 24 := by have := HS.out; omega
      have hlt2 : lt = lp := by have := HO.out.lens; omega
      have hol : lo ≤ lp := by have := HO.out.lo; omega
      have h1o : 1 ≤ lo := by have := H1.out; omega
      have hio : i + lo ≤ 24 := by have := HI.out; omega
      rw [hlo, hlp, hlt] at hp
      clear hlo hlp hlt
      subst hlt2
      have HP := Lib.hid hp
      obtain ⟨o0, o1⟩ := hp.cO.cells
      obtain ⟨p0, p1⟩ := hp.cP.cells
      obtain ⟨t0, t1⟩ := hp.cT.cells
      have hbel := hp.bel
      have hws := hbel.size
      clear hp
      by_cases hgt : 1 < lo
      · have hd : decide ((1 : Int) < (lo : Int)) = true := decide_eq_true (by omega)
        obtain ⟨go, rfl, _, _⟩ := HP.out.rO.addr (by rw [HLO.out]; omega)
        obtain ⟨gs, rfl, _, _⟩ := HP.out.rT.addr (by rw [HLT.out]; omega)
        obtain ⟨mb, hmb, hmbl, HTB0, ob0, sb, HSB0, tb0⟩ := pbox_top HP.out HO.out HLO.out HLT.out (k := 1) (by omega) (by omega)
        have HTB := Lib.hid (show y.tb = (mb : Int) from HTB0.out)
        have HSB := Lib.hid (show y.st y.tb = sb from HSB0.out)
        clear HTB0 HSB0
        have ew1 : IntKind.i64.wrap ((lo : Int) - 1) = ((lo - 1 : Nat) : Int) := by rw [IntKind.wrap_i64]; omega
        obtain ⟨ma, hma, hmal, HTA0, oa0, sa, HSA0, ta0⟩ := pbox_top HP.out HO.out HLO.out HLT.out (k := 2) (by omega) (by omega)
        have HTA := Lib.hid (show y.ta = (ma : Int) from HTA0.out)
        have HSA := Lib.hid (show y.st y.ta = sa from HSA0.out)
        clear HTA0 HSA0
        have ew2 : IntKind.i64.wrap ((lo : Int) - 2) = ((lo - 2 : Nat) : Int) := by rw [IntKind.wrap_i64]; omega
        obtain ⟨q, hq⟩ : ∃ q, l.getD i 0 = q := ⟨_, rfl⟩
        have HQ := Lib.hid hq
        have HAT := Lib.hid (show ∀ W', Bel W W' → Calls Tryz.prog 18 #[.slice A l.length c, .int .i64 i] W' fun e w' => e = .returned (.int .i64 q) ∧ W' = w' from fun W' hW => by rw [← hq]; exact playAt_c _ _ _ l i _ (H.out.to (hbel.trans hW)) _ rfl _ rfl)
        clear hq
        have hw4 : ∀ r : Int, 0 ≤ r → r < 2 → IntKind.i64.wrap (4 + r) = 4 + r := fun r h0 h1 => by rw [IntKind.wrap_i64]; omega
        obtain ⟨r, hrr⟩ : ∃ r, withinI q 2 = r := ⟨_, rfl⟩
        have HRR := Lib.hid hrr
        have hr2 := withinI_range (v := q) (n := 2) (by omega)
        rw [hrr] at hr2
        replace hw4 := hw4 r hr2.1 hr2.2
        clear hrr hbel
        cases sa with
        | true =>
          have HA := Lib.hid (show ∀ W', Bel W W' → Calls Tryz.prog 38 #[.agg #[.int .i64 (4 + r), .int .i64 (ma : Int), .int .i64 (mb : Int), .int .i64 0, .string { data := #[] }], .int .i64 2, .bool true, .pointer (some ⟨w.heap.size + 1, 0, none⟩), .pointer (some ⟨w.heap.size, 0, none⟩), .pointer (some ⟨w.heap.size + 1 + 1, 0, none⟩)] W' fun e w' => e = .returned (.tuple #[]) ∧ ∃ vO' vP' vT', PBox w w' (w.heap.size + 1) w.heap.size (w.heap.size + 2) vO' vP' vT' (y.add (pn (4 + r) (ma : Int) (mb : Int) 0) 2 true) from fun W' hW => patAdd_c w W' _ _ _ _ _ _ y (pn (4 + r) (ma : Int) (mb : Int) 0) 2 true (HP.out.to hW) (by rw [HLO.out]; omega) (by rw [HLO.out]; omega) (by rw [HLP.out]; omega) (by rw [HLT.out]; omega))
          have HT := Lib.hid (show y.two r = y.add (pn (4 + r) (ma : Int) (mb : Int) 0) 2 true by unfold PS.two; rw [HSA.out, HSB.out, HTA.out, HTB.out]; rfl)
          have HJ := Lib.hid (show playPS l = joinPl l ((y.add (pn (4 + r) (ma : Int) (mb : Int) 0) 2 true).o.length - 1) (i + 1) (y.add (pn (4 + r) (ma : Int) (mb : Int) 0) 2 true) by rw [HG.out, ← HT.out]; obtain ⟨f, hf⟩ : ∃ f, y.o.length - 1 = f + 1 := ⟨y.o.length - 2, by rw [HLO.out]; omega⟩; rw [hf, joinPl, HQ.out, HRR.out]; congr 1; have h9 := two_lens (x := y) (by rw [HLO.out]; omega) r; omega)
          have HL' := Lib.hid (PS.add_lens y (pn (4 + r) (ma : Int) (mb : Int) 0) (take := 2) true (by rw [HLO.out]; omega))
          have HO' := Lib.hid (HO.out.add (pn (4 + r) (ma : Int) (mb : Int) 0) 2 true)
          go_wp2_with fail
          go_quiet (fail)
          go_wp2_with fail
          refine wp_region_still_tail 19 (by kernel_rfl) (by kernel_rfl) ?_
          simp only [List.take_succ_cons, List.take_zero, List.drop_succ_cons, List.drop_zero]
          change wpStill _ _ (W.drewN nq).drew (fun a' => wpList _ _ _ _ a' (W.drewN nq).drew) _ _
          have hb4 : Bel W (W.drewN nq).drew := ((Bel.refl _).drewN _).drew
          have t04 : (W.drewN nq).drew.cell? ⟨w.heap.size + 1 + 1, 0, none⟩ = some (.slice (some ⟨gs, 0, none⟩) lt cT) := t0
          have ta4 : (W.drewN nq).drew.cell? ⟨gs, ma, none⟩ = _ := ta0
          have tb4 : (W.drewN nq).drew.cell? ⟨gs, mb, none⟩ = _ := tb0
          have R1 := (HAT.out _ hb4).mono fun _ _ (h : _ ∧ _) => (⟨h.1, h.2.symm⟩ : _ ∧ _)
          have R2 := (within_c q 2 (W.drewN nq).drew (by decide)).mono fun _ _ (h : _ ∧ _) => (⟨h.1, h.2.symm⟩ : _ ∧ _)
          rw [HRR.out] at R2
          have HR1 := Lib.hid R1
          have HR2 := Lib.hid R2
          clear R1 R2 t0 ta0 tb0
          generalize (W.drewN nq).drew = w4 at *
          still_step
          still_step
          still_step
          still_call HR1.out
          still_call HR2.out
          still_step -- 5
          still_step -- 6
          still_step -- 7
          still_step -- 8
          still_step -- 9
          still_step -- 10
          still_step -- 11
          still_step -- 12
          still_step -- 13
          still_step -- 14
          still_step -- 15
          still_step -- 16
          still_step -- 17
          still_step -- 18
          refine wpStill_nil ?_
          go_wp2_with (go_at_call 38; refine (HA.out _ ?_).mono ?_; exact hb4; rintro e w5 ⟨rfl, vO', vP', vT', hp4⟩)
          go_roundw
          case rel => exact ⟨i + 1, _, y.add (pn (4 + r) (ma : Int) (mb : Int) 0) 2 true, vO', vP', vT', rfl, by go_num, hp4, HO'.out, (show (y.add (pn (4 + r) (ma : Int) (mb : Int) 0) 2 true).p.length + (y.add (pn (4 + r) (ma : Int) (mb : Int) 0) 2 true).o.length ≤ 24 by have h8 := HL'.out; have h9 := HLO.out; have h10 := HLP.out; omega), (show 1 ≤ (y.add (pn (4 + r) (ma : Int) (mb : Int) 0) 2 true).o.length by have h8 := HL'.out; have h9 := HLO.out; omega), (show i + 1 + (y.add (pn (4 + r) (ma : Int) (mb : Int) 0) 2 true).o.length ≤ 24 by have h8 := HL'.out; have h9 := HLO.out; omega), HJ.out⟩
          case measure => simp [intOf]; omega
        | false =>
          have HA := Lib.hid (show ∀ W', Bel W W' → Calls Tryz.prog 38 #[.agg #[.int .i64 (4 + r), .int .i64 (ma : Int), .int .i64 (mb : Int), .int .i64 0, .string { data := #[] }], .int .i64 2, .bool sb, .pointer (some ⟨w.heap.size + 1, 0, none⟩), .pointer (some ⟨w.heap.size, 0, none⟩), .pointer (some ⟨w.heap.size + 1 + 1, 0, none⟩)] W' fun e w' => e = .returned (.tuple #[]) ∧ ∃ vO' vP' vT', PBox w w' (w.heap.size + 1) w.heap.size (w.heap.size + 2) vO' vP' vT' (y.add (pn (4 + r) (ma : Int) (mb : Int) 0) 2 sb) from fun W' hW => patAdd_c w W' _ _ _ _ _ _ y (pn (4 + r) (ma : Int) (mb : Int) 0) 2 sb (HP.out.to hW) (by rw [HLO.out]; omega) (by rw [HLO.out]; omega) (by rw [HLP.out]; omega) (by rw [HLT.out]; omega))
          have HT := Lib.hid (show y.two r = y.add (pn (4 + r) (ma : Int) (mb : Int) 0) 2 sb by unfold PS.two; rw [HSA.out, HSB.out, HTA.out, HTB.out]; rfl)
          have HJ := Lib.hid (show playPS l = joinPl l ((y.add (pn (4 + r) (ma : Int) (mb : Int) 0) 2 sb).o.length - 1) (i + 1) (y.add (pn (4 + r) (ma : Int) (mb : Int) 0) 2 sb) by rw [HG.out, ← HT.out]; obtain ⟨f, hf⟩ : ∃ f, y.o.length - 1 = f + 1 := ⟨y.o.length - 2, by rw [HLO.out]; omega⟩; rw [hf, joinPl, HQ.out, HRR.out]; congr 1; have h9 := two_lens (x := y) (by rw [HLO.out]; omega) r; omega)
          have HL' := Lib.hid (PS.add_lens y (pn (4 + r) (ma : Int) (mb : Int) 0) (take := 2) sb (by rw [HLO.out]; omega))
          have HO' := Lib.hid (HO.out.add (pn (4 + r) (ma : Int) (mb : Int) 0) 2 sb)
          go_wp2_with fail
          go_quiet (fail)
          go_wp2_with fail
          refine wp_region_still_tail 19 (by kernel_rfl) (by kernel_rfl) ?_
          simp only [List.take_succ_cons, List.take_zero, List.drop_succ_cons, List.drop_zero]
          change wpStill _ _ (W.drewN nq).drew (fun a' => wpList _ _ _ _ a' (W.drewN nq).drew) _ _
          have hb4 : Bel W (W.drewN nq).drew := ((Bel.refl _).drewN _).drew
          have t04 : (W.drewN nq).drew.cell? ⟨w.heap.size + 1 + 1, 0, none⟩ = some (.slice (some ⟨gs, 0, none⟩) lt cT) := t0
          have ta4 : (W.drewN nq).drew.cell? ⟨gs, ma, none⟩ = _ := ta0
          have tb4 : (W.drewN nq).drew.cell? ⟨gs, mb, none⟩ = _ := tb0
          have R1 := (HAT.out _ hb4).mono fun _ _ (h : _ ∧ _) => (⟨h.1, h.2.symm⟩ : _ ∧ _)
          have R2 := (within_c q 2 (W.drewN nq).drew (by decide)).mono fun _ _ (h : _ ∧ _) => (⟨h.1, h.2.symm⟩ : _ ∧ _)
          rw [HRR.out] at R2
          have HR1 := Lib.hid R1
          have HR2 := Lib.hid R2
          clear R1 R2 t0 ta0 tb0
          generalize (W.drewN nq).drew = w4 at *
          still_step
          still_step
          still_step
          still_call HR1.out
          still_call HR2.out
          still_step -- 5
          still_step -- 6
          still_step -- 7
          still_step -- 8
          still_step -- 9
          still_step -- 10
          still_step -- 11
          still_step -- 12
          still_step -- 13
          still_step -- 14
          still_step -- 15
          still_step -- 16
          still_step -- 17
          still_step -- 18
          refine wpStill_nil ?_
          go_wp2_with (go_at_call 38; refine (HA.out _ ?_).mono ?_; exact hb4; rintro e w5 ⟨rfl, vO', vP', vT', hp4⟩)
          go_roundw
          case rel => exact ⟨i + 1, _, y.add (pn (4 + r) (ma : Int) (mb : Int) 0) 2 sb, vO', vP', vT', rfl, by go_num, hp4, HO'.out, (show (y.add (pn (4 + r) (ma : Int) (mb : Int) 0) 2 sb).p.length + (y.add (pn (4 + r) (ma : Int) (mb : Int) 0) 2 sb).o.length ≤ 24 by have h8 := HL'.out; have h9 := HLO.out; have h10 := HLP.out; omega), (show 1 ≤ (y.add (pn (4 + r) (ma : Int) (mb : Int) 0) 2 sb).o.length by have h8 := HL'.out; have h9 := HLO.out; omega), (show i + 1 + (y.add (pn (4 + r) (ma : Int) (mb : Int) 0) 2 sb).o.length ≤ 24 by have h8 := HL'.out; have h9 := HLO.out; omega), HJ.out⟩
          case measure => simp [intOf]; omega
      · have hd : decide ((1 : Int) < (lo : Int)) = false := decide_eq_false (by omega)
        have HF := Lib.hid (show playPat l = y.p by unfold playPat; rw [HG.out, show y.o.length - 1 = 0 by rw [HLO.out]; omega]; rfl)
        clear hbel
        go_wp2
        go_ret
        rw [HF.out, HLP.out]
        obtain ⟨A9, c9, e9, r9⟩ := HP.out.rP.rd
        injection e9 with e91 e92 e93
        subst e91 e93
        exact ⟨_, _, rfl, r9.mono (fun k hk => hk.elim (fun f => f.elim) (fun e => HP.out.rP.ge e.symm)), HP.out.bel⟩
  · have ez : ((lo : Int) == 0) = false := by simp; omega
    have HY := Lib.hid (show onePl (goPl l ⟨[], [], []⟩) = x by rw [HE.out]; unfold onePl; rw [if_neg (by rw [HLO.out]; exact z0)])
    go_wp2
    conv => arg 2; whnf
    go_wp2
    conv => arg 2; whnf
    go_wp2
    go_loopw [15] (fun v15 wr => ∃ (i : Nat) (W : World) (y : PS) (vO vP vT : Value), W = wr ∧ v15 = .int .i64 i ∧ PBox w W (w.heap.size + 1) w.heap.size (w.heap.size + 2) vO vP vT y ∧ Hid (PSok y) ∧ Hid (y.p.length + y.o.length ≤ 24) ∧ Hid (1 ≤ y.o.length) ∧ Hid (i + y.o.length ≤ 24) ∧ Hid (playPS l = joinPl l (y.o.length - 1) i y)) (fun v15 _ => 24 - (intOf v15).toNat)
    case atStart => exact ⟨0, _, x, _, _, _, rfl, rfl, HP.out, HO.out, ((by have := HLO.out; have := HLP.out; omega) : x.p.length + x.o.length ≤ 24), ((by have := HLO.out; omega) : 1 ≤ x.o.length), ((by have := HLO.out; have := HLP.out; omega) : 0 + x.o.length ≤ 24), (show playPS l = joinPl l (x.o.length - 1) 0 x by unfold playPS; rw [HY.out])⟩
    clear o0 o1 p0 p1 t0 t1
    case round =>
      obtain ⟨i, W, y, vO, vP, vT, rfl, rfl, hp, HO, HS, H1, HI, HG⟩ := hrel
      obtain ⟨AO, cO, rfl⟩ := hp.rO.form
      obtain ⟨AP, cP, rfl⟩ := hp.rP.form
      obtain ⟨AT, cT, rfl⟩ := hp.rT.form
      obtain ⟨lo, hlo⟩ : ∃ lo, y.o.length = lo := ⟨_, rfl⟩
      obtain ⟨lp, hlp⟩ : ∃ lp, y.p.length = lp := ⟨_, rfl⟩
      obtain ⟨lt, hlt⟩ : ∃ lt, y.s.length = lt := ⟨_, rfl⟩
      have HLO := Lib.hid hlo
      have HLP := Lib.hid hlp
      have HLT := Lib.hid hlt
      have hs : lp + lo ≤ 24 := by have := HS.out; omega
      have hlt2 : lt = lp := by have := HO.out.lens; omega
      have hol : lo ≤ lp := by have := HO.out.lo; omega
      have h1o : 1 ≤ lo := by have := H1.out; omega
      have hio : i + lo ≤ 24 := by have := HI.out; omega
      rw [hlo, hlp, hlt] at hp
      clear hlo hlp hlt
      subst hlt2
      have HP := Lib.hid hp
      obtain ⟨o0, o1⟩ := hp.cO.cells
      obtain ⟨p0, p1⟩ := hp.cP.cells
      obtain ⟨t0, t1⟩ := hp.cT.cells
      have hbel := hp.bel
      have hws := hbel.size
      clear hp
      by_cases hgt : 1 < lo
      · have hd : decide ((1 : Int) < (lo : Int)) = true := decide_eq_true (by omega)
        obtain ⟨go, rfl, _, _⟩ := HP.out.rO.addr (by rw [HLO.out]; omega)
        obtain ⟨gs, rfl, _, _⟩ := HP.out.rT.addr (by rw [HLT.out]; omega)
        obtain ⟨mb, hmb, hmbl, HTB0, ob0, sb, HSB0, tb0⟩ := pbox_top HP.out HO.out HLO.out HLT.out (k := 1) (by omega) (by omega)
        have HTB := Lib.hid (show y.tb = (mb : Int) from HTB0.out)
        have HSB := Lib.hid (show y.st y.tb = sb from HSB0.out)
        clear HTB0 HSB0
        have ew1 : IntKind.i64.wrap ((lo : Int) - 1) = ((lo - 1 : Nat) : Int) := by rw [IntKind.wrap_i64]; omega
        obtain ⟨ma, hma, hmal, HTA0, oa0, sa, HSA0, ta0⟩ := pbox_top HP.out HO.out HLO.out HLT.out (k := 2) (by omega) (by omega)
        have HTA := Lib.hid (show y.ta = (ma : Int) from HTA0.out)
        have HSA := Lib.hid (show y.st y.ta = sa from HSA0.out)
        clear HTA0 HSA0
        have ew2 : IntKind.i64.wrap ((lo : Int) - 2) = ((lo - 2 : Nat) : Int) := by rw [IntKind.wrap_i64]; omega
        obtain ⟨q, hq⟩ : ∃ q, l.getD i 0 = q := ⟨_, rfl⟩
        have HQ := Lib.hid hq
        have HAT := Lib.hid (show ∀ W', Bel W W' → Calls Tryz.prog 18 #[.slice A l.length c, .int .i64 i] W' fun e w' => e = .returned (.int .i64 q) ∧ W' = w' from fun W' hW => by rw [← hq]; exact playAt_c _ _ _ l i _ (H.out.to (hbel.trans hW)) _ rfl _ rfl)
        clear hq
        have hw4 : ∀ r : Int, 0 ≤ r → r < 2 → IntKind.i64.wrap (4 + r) = 4 + r := fun r h0 h1 => by rw [IntKind.wrap_i64]; omega
        obtain ⟨r, hrr⟩ : ∃ r, withinI q 2 = r := ⟨_, rfl⟩
        have HRR := Lib.hid hrr
        have hr2 := withinI_range (v := q) (n := 2) (by omega)
        rw [hrr] at hr2
        replace hw4 := hw4 r hr2.1 hr2.2
        clear hrr hbel
        cases sa with
        | true =>
          have HA := Lib.hid (show ∀ W', Bel W W' → Calls Tryz.prog 38 #[.agg #[.int .i64 (4 + r), .int .i64 (ma : Int), .int .i64 (mb : Int), .int .i64 0, .string { data := #[] }], .int .i64 2, .bool true, .pointer (some ⟨w.heap.size + 1, 0, none⟩), .pointer (some ⟨w.heap.size, 0, none⟩), .pointer (some ⟨w.heap.size + 1 + 1, 0, none⟩)] W' fun e w' => e = .returned (.tuple #[]) ∧ ∃ vO' vP' vT', PBox w w' (w.heap.size + 1) w.heap.size (w.heap.size + 2) vO' vP' vT' (y.add (pn (4 + r) (ma : Int) (mb : Int) 0) 2 true) from fun W' hW => patAdd_c w W' _ _ _ _ _ _ y (pn (4 + r) (ma : Int) (mb : Int) 0) 2 true (HP.out.to hW) (by rw [HLO.out]; omega) (by rw [HLO.out]; omega) (by rw [HLP.out]; omega) (by rw [HLT.out]; omega))
          have HT := Lib.hid (show y.two r = y.add (pn (4 + r) (ma : Int) (mb : Int) 0) 2 true by unfold PS.two; rw [HSA.out, HSB.out, HTA.out, HTB.out]; rfl)
          have HJ := Lib.hid (show playPS l = joinPl l ((y.add (pn (4 + r) (ma : Int) (mb : Int) 0) 2 true).o.length - 1) (i + 1) (y.add (pn (4 + r) (ma : Int) (mb : Int) 0) 2 true) by rw [HG.out, ← HT.out]; obtain ⟨f, hf⟩ : ∃ f, y.o.length - 1 = f + 1 := ⟨y.o.length - 2, by rw [HLO.out]; omega⟩; rw [hf, joinPl, HQ.out, HRR.out]; congr 1; have h9 := two_lens (x := y) (by rw [HLO.out]; omega) r; omega)
          have HL' := Lib.hid (PS.add_lens y (pn (4 + r) (ma : Int) (mb : Int) 0) (take := 2) true (by rw [HLO.out]; omega))
          have HO' := Lib.hid (HO.out.add (pn (4 + r) (ma : Int) (mb : Int) 0) 2 true)
          go_wp2_with fail
          go_quiet (fail)
          go_wp2_with fail
          refine wp_region_still_tail 19 (by kernel_rfl) (by kernel_rfl) ?_
          simp only [List.take_succ_cons, List.take_zero, List.drop_succ_cons, List.drop_zero]
          change wpStill _ _ (W.drewN nq).drew (fun a' => wpList _ _ _ _ a' (W.drewN nq).drew) _ _
          have hb4 : Bel W (W.drewN nq).drew := ((Bel.refl _).drewN _).drew
          have t04 : (W.drewN nq).drew.cell? ⟨w.heap.size + 1 + 1, 0, none⟩ = some (.slice (some ⟨gs, 0, none⟩) lt cT) := t0
          have ta4 : (W.drewN nq).drew.cell? ⟨gs, ma, none⟩ = _ := ta0
          have tb4 : (W.drewN nq).drew.cell? ⟨gs, mb, none⟩ = _ := tb0
          have R1 := (HAT.out _ hb4).mono fun _ _ (h : _ ∧ _) => (⟨h.1, h.2.symm⟩ : _ ∧ _)
          have R2 := (within_c q 2 (W.drewN nq).drew (by decide)).mono fun _ _ (h : _ ∧ _) => (⟨h.1, h.2.symm⟩ : _ ∧ _)
          rw [HRR.out] at R2
          have HR1 := Lib.hid R1
          have HR2 := Lib.hid R2
          clear R1 R2 t0 ta0 tb0
          generalize (W.drewN nq).drew = w4 at *
          still_step
          still_step
          still_step
          still_call HR1.out
          still_call HR2.out
          still_step -- 5
          still_step -- 6
          still_step -- 7
          still_step -- 8
          still_step -- 9
          still_step -- 10
          still_step -- 11
          still_step -- 12
          still_step -- 13
          still_step -- 14
          still_step -- 15
          still_step -- 16
          still_step -- 17
          still_step -- 18
          refine wpStill_nil ?_
          go_wp2_with (go_at_call 38; refine (HA.out _ ?_).mono ?_; exact hb4; rintro e w5 ⟨rfl, vO', vP', vT', hp4⟩)
          go_roundw
          case rel => exact ⟨i + 1, _, y.add (pn (4 + r) (ma : Int) (mb : Int) 0) 2 true, vO', vP', vT', rfl, by go_num, hp4, HO'.out, (show (y.add (pn (4 + r) (ma : Int) (mb : Int) 0) 2 true).p.length + (y.add (pn (4 + r) (ma : Int) (mb : Int) 0) 2 true).o.length ≤ 24 by have h8 := HL'.out; have h9 := HLO.out; have h10 := HLP.out; omega), (show 1 ≤ (y.add (pn (4 + r) (ma : Int) (mb : Int) 0) 2 true).o.length by have h8 := HL'.out; have h9 := HLO.out; omega), (show i + 1 + (y.add (pn (4 + r) (ma : Int) (mb : Int) 0) 2 true).o.length ≤ 24 by have h8 := HL'.out; have h9 := HLO.out; omega), HJ.out⟩
          case measure => simp [intOf]; omega
        | false =>
          have HA := Lib.hid (show ∀ W', Bel W W' → Calls Tryz.prog 38 #[.agg #[.int .i64 (4 + r), .int .i64 (ma : Int), .int .i64 (mb : Int), .int .i64 0, .string { data := #[] }], .int .i64 2, .bool sb, .pointer (some ⟨w.heap.size + 1, 0, none⟩), .pointer (some ⟨w.heap.size, 0, none⟩), .pointer (some ⟨w.heap.size + 1 + 1, 0, none⟩)] W' fun e w' => e = .returned (.tuple #[]) ∧ ∃ vO' vP' vT', PBox w w' (w.heap.size + 1) w.heap.size (w.heap.size + 2) vO' vP' vT' (y.add (pn (4 + r) (ma : Int) (mb : Int) 0) 2 sb) from fun W' hW => patAdd_c w W' _ _ _ _ _ _ y (pn (4 + r) (ma : Int) (mb : Int) 0) 2 sb (HP.out.to hW) (by rw [HLO.out]; omega) (by rw [HLO.out]; omega) (by rw [HLP.out]; omega) (by rw [HLT.out]; omega))
          have HT := Lib.hid (show y.two r = y.add (pn (4 + r) (ma : Int) (mb : Int) 0) 2 sb by unfold PS.two; rw [HSA.out, HSB.out, HTA.out, HTB.out]; rfl)
          have HJ := Lib.hid (show playPS l = joinPl l ((y.add (pn (4 + r) (ma : Int) (mb : Int) 0) 2 sb).o.length - 1) (i + 1) (y.add (pn (4 + r) (ma : Int) (mb : Int) 0) 2 sb) by rw [HG.out, ← HT.out]; obtain ⟨f, hf⟩ : ∃ f, y.o.length - 1 = f + 1 := ⟨y.o.length - 2, by rw [HLO.out]; omega⟩; rw [hf, joinPl, HQ.out, HRR.out]; congr 1; have h9 := two_lens (x := y) (by rw [HLO.out]; omega) r; omega)
          have HL' := Lib.hid (PS.add_lens y (pn (4 + r) (ma : Int) (mb : Int) 0) (take := 2) sb (by rw [HLO.out]; omega))
          have HO' := Lib.hid (HO.out.add (pn (4 + r) (ma : Int) (mb : Int) 0) 2 sb)
          go_wp2_with fail
          go_quiet (fail)
          go_wp2_with fail
          refine wp_region_still_tail 19 (by kernel_rfl) (by kernel_rfl) ?_
          simp only [List.take_succ_cons, List.take_zero, List.drop_succ_cons, List.drop_zero]
          change wpStill _ _ (W.drewN nq).drew (fun a' => wpList _ _ _ _ a' (W.drewN nq).drew) _ _
          have hb4 : Bel W (W.drewN nq).drew := ((Bel.refl _).drewN _).drew
          have t04 : (W.drewN nq).drew.cell? ⟨w.heap.size + 1 + 1, 0, none⟩ = some (.slice (some ⟨gs, 0, none⟩) lt cT) := t0
          have ta4 : (W.drewN nq).drew.cell? ⟨gs, ma, none⟩ = _ := ta0
          have tb4 : (W.drewN nq).drew.cell? ⟨gs, mb, none⟩ = _ := tb0
          have R1 := (HAT.out _ hb4).mono fun _ _ (h : _ ∧ _) => (⟨h.1, h.2.symm⟩ : _ ∧ _)
          have R2 := (within_c q 2 (W.drewN nq).drew (by decide)).mono fun _ _ (h : _ ∧ _) => (⟨h.1, h.2.symm⟩ : _ ∧ _)
          rw [HRR.out] at R2
          have HR1 := Lib.hid R1
          have HR2 := Lib.hid R2
          clear R1 R2 t0 ta0 tb0
          generalize (W.drewN nq).drew = w4 at *
          still_step
          still_step
          still_step
          still_call HR1.out
          still_call HR2.out
          still_step -- 5
          still_step -- 6
          still_step -- 7
          still_step -- 8
          still_step -- 9
          still_step -- 10
          still_step -- 11
          still_step -- 12
          still_step -- 13
          still_step -- 14
          still_step -- 15
          still_step -- 16
          still_step -- 17
          still_step -- 18
          refine wpStill_nil ?_
          go_wp2_with (go_at_call 38; refine (HA.out _ ?_).mono ?_; exact hb4; rintro e w5 ⟨rfl, vO', vP', vT', hp4⟩)
          go_roundw
          case rel => exact ⟨i + 1, _, y.add (pn (4 + r) (ma : Int) (mb : Int) 0) 2 sb, vO', vP', vT', rfl, by go_num, hp4, HO'.out, (show (y.add (pn (4 + r) (ma : Int) (mb : Int) 0) 2 sb).p.length + (y.add (pn (4 + r) (ma : Int) (mb : Int) 0) 2 sb).o.length ≤ 24 by have h8 := HL'.out; have h9 := HLO.out; have h10 := HLP.out; omega), (show 1 ≤ (y.add (pn (4 + r) (ma : Int) (mb : Int) 0) 2 sb).o.length by have h8 := HL'.out; have h9 := HLO.out; omega), (show i + 1 + (y.add (pn (4 + r) (ma : Int) (mb : Int) 0) 2 sb).o.length ≤ 24 by have h8 := HL'.out; have h9 := HLO.out; omega), HJ.out⟩
          case measure => simp [intOf]; omega
      · have hd : decide ((1 : Int) < (lo : Int)) = false := decide_eq_false (by omega)
        have HF := Lib.hid (show playPat l = y.p by unfold playPat; rw [HG.out, show y.o.length - 1 = 0 by rw [HLO.out]; omega]; rfl)
        clear hbel
        go_wp2
        go_ret
        rw [HF.out, HLP.out]
        obtain ⟨A9, c9, e9, r9⟩ := HP.out.rP.rd
        injection e9 with e91 e92 e93
        subst e91 e93
        exact ⟨_, _, rfl, r9.mono (fun k hk => hk.elim (fun f => f.elim) (fun e => HP.out.rP.ge e.symm)), HP.out.bel⟩
end Go.Proofs.YtmdcgekiiopohaaGreat
