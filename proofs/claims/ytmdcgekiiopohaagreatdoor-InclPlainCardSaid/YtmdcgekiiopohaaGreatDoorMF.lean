/- Walks: semi.copied, semi.same. -/
import Derived.Test.YtmdcgekiiopohaaGreatDoorME
import Derived.Test.YtmdcgekiiopohaaGreatDoorMD
import Derived.Test.YtmdcgekiiopohaaGreatDoorMA
import Derived.Test.YtmdcgekiiopohaaGreatDoorMC
import Derived.Shelf.SlSortCmp.WholeK
import Derived.Shelf.SlSortCmp.NoneTotal
set_option linter.unusedVariables false
set_option linter.unusedSimpArgs false
set_option linter.all false
namespace Go.Proofs.YtmdcgekiiopohaaGreatDoor
open Go.RowKit Go.Cb Go.Sort
end Go.Proofs.YtmdcgekiiopohaaGreatDoor

/- The library: worlds that have grown: draws, and blocks behind. -/
namespace Go.Cb
open Go.RowKit Go.Sort
structure Grw (w w' : World) : Prop where mk :: (out : ∃ (q : Nat) (os : Array Obj), w' = grow (w.drewN q) os)
theorem Grw.refl (w : World) : Grw w w := ⟨0, #[], by rw [grow_empty]; rfl⟩
theorem Grw.trans {a b c : World} (h : Grw a b) (k : Grw b c) : Grw a c := by
  obtain ⟨q, os, rfl⟩ := h.out
  obtain ⟨q', os', rfl⟩ := k.out
  refine ⟨q + q', os ++ os', ?_⟩
  show grow (grow ((a.drewN q).drewN q') os) os' = _
  rw [grow_grow, World.drewN_drewN]
theorem Grw.alloc {a b : World} (h : Grw a b) (o : Obj) : Grw a (b.alloc o) := h.trans ⟨0, #[o], by
  show { b with heap := b.heap.push o } = { b with heap := b.heap ++ #[o], drawn := b.drawn + 0 }
  simp⟩
theorem Grw.drewN {a b : World} (h : Grw a b) (n : Nat) : Grw a (b.drewN n) := h.trans ⟨n, #[], by rw [grow_empty]⟩
theorem Grw.drew {a b : World} (h : Grw a b) : Grw a b.drew := h.drewN 1
theorem Grw.bel {w w' : World} (h : Grw w w') : Bel w w' := by
  obtain ⟨q, os, rfl⟩ := h.out
  exact ⟨⟨rfl, rfl, rfl, by simp [grow, World.drewN], fun k hk => by
    show (w.heap ++ os)[k]? = w.heap[k]?
    rw [Array.getElem?_append_left hk]⟩⟩
instance {w w' : World} : Coe (Grw w w') (Bel w w') := ⟨Grw.bel⟩
theorem Grw.size {a b : World} (h : Grw a b) : a.heap.size ≤ b.heap.size := h.bel.size
theorem Grw.block {a b : World} (h : Grw a b) {k : Nat} (hk : k < a.heap.size) : b.heap[k]? = a.heap[k]? := h.bel.block hk
theorem twoBoxesG (w : World) (a b : Array Value) (t : TypeId) :
    Grw w ((w.alloc (.cells a t)).alloc (.cells b t)) ∧ (∀ i, ((w.alloc (.cells a t)).alloc (.cells b t)).cell? ⟨w.heap.size, i, none⟩ = a[i]?) ∧
    (∀ i, ((w.alloc (.cells a t)).alloc (.cells b t)).cell? ⟨w.heap.size + 1, i, none⟩ = b[i]?) ∧ ((w.alloc (.cells a t)).alloc (.cells b t)).heap.size = w.heap.size + 2 := by
  obtain ⟨_, h⟩ := twoBoxes w a b t
  exact ⟨((Grw.refl _).alloc _).alloc _, h⟩
end Go.Cb

/- Walks: linear sets right, and their order: the worlds have but grown. -/
namespace Go.Proofs.YtmdcgekiiopohaaGreatDoor
open Go.RowKit Go.Cb
theorem bagCompareBG_c (S S' : Nat → Prop) (A B : Option Addr) (ca cb : Nat) (a b : List Int) (w : World) (ha : Rd intT w S A ca a) (hb : Rd intT w S' B cb b) (n m : Nat) (hn : n = a.length) (hm : m = b.length) :
    Calls Tryz.prog 57 #[.slice A n ca, .slice B m cb] w fun e w' => e = .returned (.int .i64 (cmpB a b)) ∧ Grw w w' :=
  (bagCompare_c S S' A B ca cb a b w ha hb n m hn hm).mono fun _ _ ⟨h1, h2⟩ => ⟨h1, h2 ▸ Grw.refl _⟩

set_option maxHeartbeats 4000000 in
theorem linRightG_c (S S' : Nat → Prop) (A B : Option Addr) (ca cb : Nat) (b : List Int) (ps : List (List Int)) (w : World) (h0 : Rd intT w S A ca b) (h1 : Rd bagT w S' B cb ps) (n m : Nat) (hn : n = b.length) (hm : m = ps.length) :
    Calls Tryz.prog 30 #[.agg #[.slice A n ca, .slice B m cb]] w fun e w' => e = .returned (.bool (rightL (b, ps))) ∧ Grw w w' := by
  subst hn hm
  have lm := h1.lenMax
  cases hR : rightB b with
  | false =>
    have Hr := Lib.hid (rightL_no (l := (b, ps)) hR)
    go_enter Tryz.func30, Tryz.ntmps30
    go_wp2_with fail
    refine (right_c _ _ _ _ _ (h0.to ((Grw.refl _).alloc _).bel) _ rfl).mono ?_
    rintro e w' ⟨rfl, rfl⟩
    go_wp2_with fail
    go_ret
    exact ⟨by rw [Hr.out]; rfl, (Grw.refl _).alloc _⟩
  | true =>
    have HR := Lib.hid hR
    go_enter Tryz.func30, Tryz.ntmps30
    go_wp2_with fail
    refine (right_c _ _ _ _ _ (h0.to ((Grw.refl _).alloc _).bel) _ rfl).mono ?_
    rintro e w' ⟨rfl, rfl⟩
    go_wp2_with fail
    have hB1 : Grw w (w.alloc (.cells #[.slice A b.length ca, .slice B ps.length cb] 31)) := (Grw.refl _).alloc _
    have hC1 : (w.alloc (.cells #[.slice A b.length ca, .slice B ps.length cb] 31)).cell? ⟨w.heap.size, 1, none⟩ = some (.slice B ps.length cb) := cellAt (heap_alloc_new w _) 1
    have hS1 : w.heap.size < (w.alloc (.cells #[.slice A b.length ca, .slice B ps.length cb] 31)).heap.size := by simp
    clear hR h0
    generalize w.alloc (.cells #[.slice A b.length ca, .slice B ps.length cb] 31) = W1 at *
    generalize w.heap.size = g at *
    have h1 := h1.to hB1.bel
    go_loopw [2, 12] (fun v2 v12 wr => ∃ k : Nat, k ≤ ps.length ∧ v12 = .int .i64 k ∧ v2 = .bool false ∧ Hid (okTo ps k = true) ∧ Grw W1 wr) (fun _ v12 _ => ps.length - (intOf v12).toNat)
    case atStart => exact ⟨0, Nat.zero_le _, rfl, rfl, rfl, Grw.refl _⟩
    case round =>
      obtain ⟨k, hk, rfl, rfl, hp, hbl⟩ := hrel
      have hC1 := cell_keep hC1 (hbl.block hS1)
      have h1 := h1.to hbl.bel
      by_cases hlt : k < ps.length
      · obtain ⟨ad, P1, c1, rfl, hc1, hr1⟩ := h1.row hlt
        obtain ⟨p, hpe⟩ : ∃ p, ps[k] = p := ⟨_, rfl⟩
        rw [hpe] at hc1 hr1
        have lp := hr1.lenMax
        have Hpe := Lib.hid hpe
        clear hpe
        cases p with
        | nil =>
          have Hb := Lib.hid (rightL_bad (l := (b, ps)) hlt (by unfold okAt; rw [getDl_of hlt, Hpe.out]; rfl))
          go_wp2_with (go_at_call 17; refine (right_c _ _ _ _ _ hr1 _ rfl).mono ?_; rw [show rightB [] = true from rfl]; rintro e w' ⟨rfl, rfl⟩)
          go_ret
          exact ⟨by rw [Hb.out]; rfl, hB1.trans hbl⟩
        | cons x p =>
          cases hq : rightB (x :: p) with
          | false =>
            have Hb := Lib.hid (rightL_bad (l := (b, ps)) hlt (by unfold okAt; rw [getDl_of hlt, Hpe.out, hq]; rfl))
            go_wp2_with (go_at_call 17; refine (right_c _ _ _ _ _ hr1 _ rfl).mono ?_; rw [hq]; rintro e w' ⟨rfl, rfl⟩)
            go_ret
            exact ⟨by rw [Hb.out]; rfl, hB1.trans hbl⟩
          | true =>
            by_cases hk0 : 0 < k
            · obtain ⟨ad2, P2, c2, he2, hc2, hr2⟩ := h1.row (k := k - 1) (by omega)
              injection he2 with he2
              subst he2
              have hs := okTo_succ ps k
              rw [hp.out, okAt_next hlt hk0, Hpe.out, hq] at hs
              obtain ⟨q, hqe⟩ : ∃ q, ps[k - 1] = q := ⟨_, rfl⟩
              rw [hqe] at hc2 hr2 hs
              have Hs := Lib.hid hs
              have Hqe := Lib.hid hqe
              clear hs hqe
              by_cases hcm : cmpB q (x :: p) < 0
              · have hcd : decide (0 ≤ cmpB q (x :: p)) = false := decide_eq_false (by omega)
                have Hs2 := Lib.hid (show okTo ps (k + 1) = true from by rw [Hs.out, decide_eq_true hcm]; rfl)
                go_wp2_with (first
                  | (go_at_call 17; refine (right_c _ _ _ _ _ hr1 _ rfl).mono ?_; rw [hq]; rintro e w' ⟨rfl, rfl⟩)
                  | (go_at_call 57; refine (bagCompareBG_c _ _ _ _ _ _ _ _ _ hr2 hr1 _ _ rfl rfl).mono ?_; rintro e w5 ⟨rfl, hb5⟩))
                go_roundw
                case rel => exact ⟨k + 1, by omega, by go_num, rfl, Hs2.out, by first | exact hbl | exact hbl.trans hb5⟩
                case measure => simp [intOf]; omega
              · have hcd : decide (0 ≤ cmpB q (x :: p)) = true := decide_eq_true (by omega)
                have Hb := Lib.hid (rightL_bad (l := (b, ps)) hlt (by rw [okAt_next hlt hk0, Hpe.out, hq, Hqe.out, decide_eq_false hcm]; rfl))
                go_wp2_with (first
                  | (go_at_call 17; refine (right_c _ _ _ _ _ hr1 _ rfl).mono ?_; rw [hq]; rintro e w' ⟨rfl, rfl⟩)
                  | (go_at_call 57; refine (bagCompareBG_c _ _ _ _ _ _ _ _ _ hr2 hr1 _ _ rfl rfl).mono ?_; rintro e w5 ⟨rfl, hb5⟩))
                go_ret
                exact ⟨by rw [Hb.out]; rfl, by first | exact hB1.trans hbl | exact (hB1.trans hbl).trans hb5⟩
            · have Hs := Lib.hid (show okTo ps (k + 1) = true from by rw [okTo_succ, hp.out, okAt_first hlt hk0, Hpe.out, hq]; rfl)
              go_wp2_with (go_at_call 17; refine (right_c _ _ _ _ _ hr1 _ rfl).mono ?_; rw [hq]; rintro e w' ⟨rfl, rfl⟩)
              go_roundw
              case rel => exact ⟨k + 1, by omega, by go_num, rfl, Hs.out, hbl⟩
              case measure => simp [intOf]; omega
      · obtain rfl : k = ps.length := by omega
        have Hb := Lib.hid (rightL_yes (l := (b, ps)) HR.out hp.out)
        go_wp2
        go_ret
        exact ⟨by rw [Hb.out]; rfl, hB1.trans hbl⟩

set_option maxRecDepth 100000 in
set_option maxHeartbeats 4000000 in
theorem linCompareG_c (S0 S1 S2 S3 : Nat → Prop) (A0 A1 B0 B1 : Option Addr) (c0 c1 d0 d1 : Nat) (x y : Lin) (w : World) (h0 : Rd intT w S0 A0 c0 x.1) (h1 : Rd bagT w S1 A1 c1 x.2) (g0 : Rd intT w S2 B0 d0 y.1) (g1 : Rd bagT w S3 B1 d1 y.2)
    (n0 n1 m0 m1 : Nat) (hn0 : n0 = x.1.length) (hn1 : n1 = x.2.length) (hm0 : m0 = y.1.length) (hm1 : m1 = y.2.length) :
    Calls Tryz.prog 31 #[.agg #[.slice A0 n0 c0, .slice A1 n1 c1], .agg #[.slice B0 m0 d0, .slice B1 m1 d1]] w fun e w' => e = .returned (.int .i64 (cmpLin x y)) ∧ Grw w w' := by
  obtain ⟨a, ps⟩ := x
  obtain ⟨b, qs⟩ := y
  dsimp only at *
  subst hn0 hn1 hm0 hm1
  have l1 := h1.lenMax
  have l2 := g1.lenMax
  obtain ⟨hB1, hX, hY, hsz⟩ := twoBoxesG w #[.slice A0 a.length c0, .slice A1 ps.length c1] #[.slice B0 b.length d0, .slice B1 qs.length d1] 31
  have h0 := h0.to hB1.bel
  have g0 := g0.to hB1.bel
  have h1 := h1.to hB1.bel
  have g1 := g1.to hB1.bel
  have Q1 := linRightG_c _ _ _ _ _ _ _ _ _ h0 h1 _ _ rfl rfl
  cases hA : rightL (a, ps) with
  | false =>
    have He := Lib.hid (cmpLin_no1 (y := (b, qs)) hA)
    rw [hA] at Q1
    clear hA
    go_enter Tryz.func31, Tryz.ntmps31
    go_wp2_with fail
    generalize (w.alloc (.cells #[.slice A0 a.length c0, .slice A1 ps.length c1] 31)).alloc (.cells #[.slice B0 b.length d0, .slice B1 qs.length d1] 31) = W1 at *
    generalize w.heap.size = g at *
    clear hX hY
    refine Q1.mono ?_
    rintro e w' ⟨rfl, hb⟩
    go_wp2_with fail
    go_ret
    exact ⟨by rw [He.out]; rfl, hB1.trans hb⟩
  | true =>
    rw [hA] at Q1
    cases hB : rightL (b, qs) with
    | false =>
      have He := Lib.hid (cmpLin_no2 (x := (a, ps)) hB)
      have HB := Lib.hid hB
      clear hA hB
      go_enter Tryz.func31, Tryz.ntmps31
      go_wp2_with fail
      generalize (w.alloc (.cells #[.slice A0 a.length c0, .slice A1 ps.length c1] 31)).alloc (.cells #[.slice B0 b.length d0, .slice B1 qs.length d1] 31) = W1 at *
      generalize w.heap.size = g at *
      have hY0 : W1.cell? ⟨g + 1, 0, none⟩ = some (.slice B0 b.length d0) := hY 0
      have hY1 : W1.cell? ⟨g + 1, 1, none⟩ = some (.slice B1 qs.length d1) := hY 1
      clear hX hY
      refine Q1.mono ?_
      rintro e w2 ⟨rfl, hb⟩
      have hY0 := cell_keep hY0 (hb.block (by simp only; omega))
      have hY1 := cell_keep hY1 (hb.block (by simp only; omega))
      have Q2 := linRightG_c _ _ _ _ _ _ _ _ _ (g0.to hb.bel) (g1.to hb.bel) _ _ rfl rfl
      rw [HB.out] at Q2
      go_wp2_with fail
      refine Q2.mono ?_
      rintro e w3 ⟨rfl, hb3⟩
      go_wp2_with fail
      go_ret
      exact ⟨by rw [He.out]; rfl, (hB1.trans hb).trans hb3⟩
    | true =>
      have He := Lib.hid (cmpLin_yes hA hB)
      have HB := Lib.hid hB
      clear hA hB
      go_enter Tryz.func31, Tryz.ntmps31
      go_wp2_with fail
      generalize (w.alloc (.cells #[.slice A0 a.length c0, .slice A1 ps.length c1] 31)).alloc (.cells #[.slice B0 b.length d0, .slice B1 qs.length d1] 31) = W1 at *
      generalize w.heap.size = g at *
      have hX0 : W1.cell? ⟨g, 0, none⟩ = some (.slice A0 a.length c0) := hX 0
      have hX1 : W1.cell? ⟨g, 1, none⟩ = some (.slice A1 ps.length c1) := hX 1
      have hY0 : W1.cell? ⟨g + 1, 0, none⟩ = some (.slice B0 b.length d0) := hY 0
      have hY1 : W1.cell? ⟨g + 1, 1, none⟩ = some (.slice B1 qs.length d1) := hY 1
      clear hX hY
      refine Q1.mono ?_
      rintro e w2 ⟨rfl, hb⟩
      have hX0 := cell_keep hX0 (hb.block (by simp only; omega))
      have hX1 := cell_keep hX1 (hb.block (by simp only; omega))
      have hY0 := cell_keep hY0 (hb.block (by simp only; omega))
      have hY1 := cell_keep hY1 (hb.block (by simp only; omega))
      have Q2 := linRightG_c _ _ _ _ _ _ _ _ _ (g0.to hb.bel) (g1.to hb.bel) _ _ rfl rfl
      rw [HB.out] at Q2
      go_wp2_with fail
      refine Q2.mono ?_
      rintro e w3 ⟨rfl, hb3⟩
      have hb13 := hb.trans hb3
      have hs2 := hb.size
      have hX0 := cell_keep hX0 (hb3.block (by simp only; omega))
      have hX1 := cell_keep hX1 (hb3.block (by simp only; omega))
      have hY0 := cell_keep hY0 (hb3.block (by simp only; omega))
      have hY1 := cell_keep hY1 (hb3.block (by simp only; omega))
      go_wp2_with fail
      refine wp_region_still_tail 17 (by kernel_rfl) (by kernel_rfl) ?_
      simp only [List.take_succ_cons, List.take_zero, List.drop_succ_cons, List.drop_zero]
      change wpStill _ _ w3.drew (fun a' => wpList _ _ _ _ a' w3.drew) _ _
      have hb4 : Grw W1 w3.drew := hb13.drew
      have hbw : Grw w3 w3.drew := (Grw.refl _).drew
      have hX0 := cell_keep hX0 (hbw.block (by have := hb3.size; simp only; omega))
      have hX1 := cell_keep hX1 (hbw.block (by have := hb3.size; simp only; omega))
      have hY0 := cell_keep hY0 (hbw.block (by have := hb3.size; simp only; omega))
      have hY1 := cell_keep hY1 (hbw.block (by have := hb3.size; simp only; omega))
      clear hbw
      generalize w3.drew = w4 at *
      have R1 := (bagCompare_c _ _ _ _ _ _ _ _ _ (h0.to hb4.bel) (g0.to hb4.bel) _ _ rfl rfl).mono fun _ _ (h : _ ∧ _) => (⟨h.1, h.2.symm⟩ : _ ∧ _)
      have R2 := (compareBags_c _ _ _ _ _ _ _ _ _ (h1.to hb4.bel) (g1.to hb4.bel) _ _ rfl rfl).mono fun _ _ (h : _ ∧ _) => (⟨h.1, h.2.symm⟩ : _ ∧ _)
      have R3 := (cmpCompare_c (ps.length : Int) (qs.length : Int) w4).mono fun _ _ (h : _ ∧ _) => (⟨h.1, h.2.symm⟩ : _ ∧ _)
      repeat (first | still_step | still_call R1 | still_call R2 | still_call R3)
      refine wpStill_nil ?_
      generalize hB4 : cmpB a b = z0 at *
      generalize cmpI (ps.length : Int) (qs.length : Int) = z1 at *
      generalize cmpBy cmpB ps qs = z2 at *
      clear hB4 R1 R2 R3 hX0 hX1 hY0 hY1
      go_wp2_with fail
      refine (orL_c _ _ _ [z0, z1, z2] _ (Rd.lit (enc := Value.int .i64) w4 3 [z0, z1, z2] (by simp [maxLen])) _ rfl).mono ?_
      rintro e w5 ⟨rfl, rfl⟩
      go_wp2_with fail
      go_ret
      exact ⟨by rw [He.out, or3_list]; rfl, hB1.trans (hb4.alloc _)⟩
end Go.Proofs.YtmdcgekiiopohaaGreatDoor

/- slices.SortFunc over linear sets: the library's contract at a row of the call's own. -/
namespace Go.Proofs
open Go.Shelf Go.RowKit Go.Lib Go.Sort
end Go.Proofs
namespace Go.Proofs.YtmdcgekiiopohaaGreatDoor
open Go.RowKit Go.Cb Go.Sort Go.Proofs Go.Shelf
/-- A linear set where it lies: it reads so in w, outside of block g; its words may be written to. -/
abbrev LinAt (w : World) (S : Nat → Prop) (g : Nat) : Type := { x : (Option Addr × Nat) × (Option Addr × Nat) × Lin // (RdW w (fun q => (S q ∧ q ≠ g) ∧ q < w.heap.size) x.1.1 x.1.2 x.2.2.1 ∧ Rd wbT w (fun q => (S q ∧ q ≠ g) ∧ q < w.heap.size) x.2.1.1 x.2.1.2 x.2.2.2) ∧ rightL x.2.2 = true }
instance (w : World) (S : Nat → Prop) (g : Nat) : Inhabited (LinAt w S g) := ⟨⟨((none, 0), (none, 0), ([], [])), ⟨RdW.nil _ _ _ _ (by decide), Rd.nil _ _ _ _ _ (by decide)⟩, rfl⟩⟩
def encS {w : World} {S : Nat → Prop} {g : Nat} (x : LinAt w S g) : List Value := [.slice x.1.1.1 x.1.2.2.1.length x.1.1.2, .slice x.1.2.1.1 x.1.2.2.2.length x.1.2.1.2]
def cfS {w : World} {S : Nat → Prop} {g : Nat} (x y : LinAt w S g) : Int := cmpLin x.1.2.2 y.1.2.2
theorem swoS {w : World} {S : Nat → Prop} {g : Nat} : SWO (ltOf (cfS (w := w) (S := S) (g := g))) where
  irrefl := fun x => decide_eq_false (by show ¬ cmpLin _ _ < 0; have := cmpLin_neg x.1.2.2 x.1.2.2; omega)
  trans := fun x y z h1 h2 => decide_eq_true (linO.ltt x.2.2 y.2.2 z.2.2 (of_decide_eq_true h1) (of_decide_eq_true h2))
  ntrans := fun x y z h1 h2 => decide_eq_false (by
    have h1 : ¬ cmpLin x.1.2.2 y.1.2.2 < 0 := of_decide_eq_false h1
    have h2 : ¬ cmpLin y.1.2.2 z.1.2.2 < 0 := of_decide_eq_false h2
    show ¬ cmpLin x.1.2.2 z.1.2.2 < 0
    have a1 := cmpLin_neg x.1.2.2 y.1.2.2
    have a2 := cmpLin_neg y.1.2.2 z.1.2.2
    have a3 := cmpLin_neg x.1.2.2 z.1.2.2
    have := cmpLin_trans z.2.2 y.2.2 x.2.2 (by omega) (by omega)
    omega)
theorem sortWK_heap {α : Type} [Inhabited α] (enc : α → List Value) (k : Nat) (w : World) (g m : Nat) (dk : Array α) (os : Array Obj) {i : Nat} (hk : i < w.heap.size) (hne : i ≠ g) : (sortWorldK enc k w g 0 m dk os).heap[i]? = w.heap[i]? :=
  sortW_heap id w g 0 m (flatK enc k dk) os hk hne
end Go.Proofs.YtmdcgekiiopohaaGreatDoor

/- Walks: slices.CompactFunc over linear sets, slices.SortFunc of none. -/
namespace Go.Cb
open Go.RowKit
theorem setL_get {cs xs : List Value} {o : Nat} (h : o + cs.length ≤ xs.length) (k : Nat) : (setL xs o cs)[k]? = if k < o then xs[k]? else if k < o + cs.length then cs[k - o]? else xs[k]? := by
  rw [setL_eq cs xs o h, List.append_assoc, List.getElem?_append, List.length_take, Nat.min_eq_left (by omega)]
  by_cases h1 : k < o
  · rw [if_pos h1, if_pos h1, List.getElem?_take, if_pos h1]
  · rw [if_neg h1, if_neg h1, List.getElem?_append]
    by_cases h2 : k < o + cs.length
    · rw [if_pos h2, if_pos (by omega)]
    · rw [if_neg h2, if_neg (by omega), List.getElem?_drop]
      congr 1; omega
theorem bel_grown {w w' : World} {row : Option Nat} (h : Bel w w') : w.grownBy w' row := ⟨h.out.os, h.out.tape, h.out.output, h.size, fun _ hk _ => h.block hk⟩
section
variable {α : Type} {d : Ty α} {e : TypeId} {w : World} {base g n cap : Nat} {S : Nat → Prop} {xs : List α}
/-- A store into a row, of all the cells of one of its elements. -/
theorem Own.setK (h : Own d e w base S (.slice (some ⟨g, 0, none⟩) n cap) xs) (hn : n = xs.length) {i : Nat} (hi : i < n) {x : α} {us : List Value} (hul : us.length = d.sz) (hu : d.rd w (fun k => S k ∧ k ≠ g) x us) :
    Own d e (w.setCells g (i * d.sz) us) base S (.slice (some ⟨g, 0, none⟩) n cap) (xs.set i x) ∧ w.grownBy (w.setCells g (i * d.sz) us) (some g) := by
  subst hn
  obtain ⟨inner, ho, hr⟩ := h
  obtain ⟨h2, hg, _⟩ := ownsRow_setCells us (i * d.sz) w inner ho
  have hil : inner.length = xs.length * d.sz := ho.1
  have hle : i * d.sz + d.sz ≤ xs.length * d.sz := by rw [← Nat.succ_mul]; exact Nat.mul_le_mul_right _ hi
  have hget := fun t => setL_get (cs := us) (xs := inner) (o := i * d.sz) (by rw [hul]; omega) t
  rw [hul] at hget
  have keep : ∀ y cs, d.rd w (fun k => S k ∧ k ≠ g) y cs → d.rd (w.setCells g (i * d.sz) us) (fun k => S k ∧ some k ≠ (Value.slice (some ⟨g, 0, none⟩) xs.length cap).ownBlock) y cs := fun y cs hy =>
    d.mono (fun q hq => ⟨hq.1, fun e => hq.2 (by injection e)⟩) (d.rd_step hy (fun q hq hlt => hg.block q hlt (fun e => hq.2 (by injection e))))
  refine ⟨⟨_, by rw [List.length_set]; exact h2, fun j y hj => ?_⟩, hg⟩
  by_cases e1 : j = i
  · subst e1
    rw [List.getElem?_set_self hi] at hj
    injection hj with hj
    subst hj
    have : ((setL inner (j * d.sz) us).drop (j * d.sz)).take d.sz = us := by
      apply List.ext_getElem?
      intro t
      rw [List.getElem?_take]
      by_cases ht : t < d.sz
      · rw [if_pos ht, List.getElem?_drop, hget, if_neg (by omega), if_pos (by omega)]
        congr 1; omega
      · rw [if_neg ht, List.getElem?_eq_none (by omega)]
    rw [this]
    exact keep _ _ hu
  · rw [List.getElem?_set_ne (fun h => e1 h.symm)] at hj
    have h4 := hr j y hj
    have : ((setL inner (i * d.sz) us).drop (j * d.sz)).take d.sz = (inner.drop (j * d.sz)).take d.sz := by
      apply List.ext_getElem?
      intro t
      rw [List.getElem?_take, List.getElem?_take]
      by_cases ht : t < d.sz
      · rw [if_pos ht, if_pos ht, List.getElem?_drop, List.getElem?_drop, hget]
        rcases Nat.lt_or_gt_of_ne e1 with h5 | h5
        · have : (j + 1) * d.sz ≤ i * d.sz := Nat.mul_le_mul_right _ h5
          rw [Nat.succ_mul] at this
          rw [if_pos (by omega)]
        · have : (i + 1) * d.sz ≤ j * d.sz := Nat.mul_le_mul_right _ h5
          rw [Nat.succ_mul] at this
          rw [if_neg (by omega), if_neg (by omega)]
      · rw [if_neg ht, if_neg ht]
    rw [this]
    exact keep _ _ (d.mono (fun q hq => ⟨hq.1, fun e => hq.2 (by rw [e]; rfl)⟩) h4)
/-- What stands from k on, overwritten: the row up to k. -/
theorem Own.clearK (h : Own d e w base S (.slice (some ⟨g, 0, none⟩) n cap) xs) (hn : n = xs.length) {k : Nat} (hk : k ≤ n) {cs : List Value} (hcs : k * d.sz + cs.length ≤ n * d.sz) :
    Own d e (w.setCells g (k * d.sz) cs) base S (.slice (some ⟨g, 0, none⟩) k cap) (xs.take k) ∧ w.grownBy (w.setCells g (k * d.sz) cs) (some g) := by
  subst hn
  obtain ⟨inner, ho, hr⟩ := h
  obtain ⟨r1, g1, _⟩ := ownsRow_setCells cs (k * d.sz) w inner ho
  have hil : inner.length = xs.length * d.sz := ho.1
  have r2 := ownsRow_prefix r1 hk
  rw [setL_take] at r2
  refine ⟨⟨inner.take (k * d.sz), by rw [List.length_take, Nat.min_eq_left hk]; exact r2, fun j x hj => ?_⟩, g1⟩
  have hj2 : j < k := by have := (List.getElem?_eq_some_iff.1 hj).1; rw [List.length_take] at this; omega
  rw [List.getElem?_take, if_pos hj2] at hj
  have h1 := hr j x hj
  have hle : j * d.sz + d.sz ≤ k * d.sz := by rw [← Nat.succ_mul]; exact Nat.mul_le_mul_right _ hj2
  rw [List.drop_take, List.take_take, Nat.min_eq_left (by omega)]
  exact d.rd_step h1 (fun q hq hlt => g1.block q hlt hq.2)
end
theorem zeroCells2 (z : Value) (x y : Value) (hz : z.cells = #[x, y]) (hx : x.oneCell' = true) (hy : y.oneCell' = true) (m : Nat) :
    (Builtin.zeroCells z.cells m).toList.length = m * 2 ∧ ∀ v ∈ (Builtin.zeroCells z.cells m).toList, v.oneCell' = true := by
  rw [hz]
  refine ⟨by simp [Builtin.zeroCells], fun v hv => ?_⟩
  simp only [Builtin.zeroCells, Array.toList_map, List.mem_map] at hv
  obtain ⟨i, _, rfl⟩ := hv
  have : i % 2 = 0 ∨ i % 2 = 1 := by omega
  rcases this with h | h
  · show (#[x, y][i % 2]!).oneCell' = true
    rw [h]; exact hx
  · show (#[x, y][i % 2]!).oneCell' = true
    rw [h]; exact hy
theorem run_clearK {P : Program} (w : World) (t e ty : TypeId) (z : Value) (zs : List Value) (ht : P.underlying t = some (.slice e)) (hv : ∀ w, (zeroValue e).run P w = .ok z w) (m : Nat) (hm : 0 < m) (hzc : (Builtin.zeroCells z.cells m).toList = zs) (h1 : ∀ v ∈ zs, v.oneCell' = true) (b o c : Nat)
    (hc : ∀ j, j < zs.length → (w.cell? ⟨b, o + j, none⟩).isSome = true) (hf : ∀ j, j < zs.length → w.frozen? ⟨b, o + j, none⟩ = false) :
    (Builtin.clear_ #[t] ty #[.slice (some ⟨b, o, none⟩) m c]).run P w = .ok (.tuple #[]) (w.setCells b o zs) := by
  have hst := run_storeCells_cells (P := P) b o zs 0 w (by simpa using hc) (by simpa using hf) h1
  simp only [Nat.add_zero] at hst
  obtain ⟨k, rfl⟩ : ∃ k, m = k + 1 := ⟨m - 1, by omega⟩
  simp [Builtin.clear_, run_underlying ht, hv, hzc, hst]
end Go.Cb
namespace Go.Proofs.YtmdcgekiiopohaaGreatDoor
open Go.RowKit Go.Cb Go.Sort Go.Shelf
end Go.Proofs.YtmdcgekiiopohaaGreatDoor

/- Walks: slices.CompactFunc over linear sets. -/
namespace Go.Proofs.YtmdcgekiiopohaaGreatDoor
open Go.RowKit Go.Cb Go.Sort
end Go.Proofs.YtmdcgekiiopohaaGreatDoor

/- Walks: semi.Of, semi.Same. -/
namespace Go.Cb
open Go.RowKit
theorem lit_rd {b : Nat} {w : World} {A0 A1 : Option Addr} {c0 c1 : Nat} {x : Lin} (r0 : RdW w (Ge b) A0 c0 x.1) (r1 : Rd wbT w (Ge b) A1 c1 x.2) (hb : b ≤ w.heap.size) (t : TypeId) :
    Rd wlinT (w.alloc (.cells #[.slice A0 x.1.length c0, .slice A1 x.2.length c1] t)) (Ge b) (some ⟨w.heap.size, 0, none⟩) 1 [x] := by
  have hal : Bel w (w.alloc (.cells #[.slice A0 x.1.length c0, .slice A1 x.2.length c1] t)) := (Bel.refl _).alloc _
  have h3 := heap_alloc_new w (.cells #[.slice A0 x.1.length c0, .slice A1 x.2.length c1] t)
  refine ⟨by simp, by decide, fun j y hj => ?_⟩
  rcases j with _ | j
  · obtain rfl : x = y := by simpa using hj
    refine ⟨_, [.slice A0 x.1.length c0, .slice A1 x.2.length c1], rfl, hb, ⟨[_], [_], rfl, ⟨_, _, rfl, r0.to hal⟩, ⟨_, _, rfl, r1.to hal⟩⟩, fun i u hu => ?_⟩
    rw [add_plain, cellAt h3, show 0 * wlinT.sz + i = i by omega]
    rcases i with _ | _ | i
    · exact hu
    · exact hu
    · simp at hu
  · simp at hj
theorem Own.toGrown {α : Type} {d : Ty α} {e : TypeId} {w w' : World} {base : Nat} {S : Nat → Prop} {v : Value} {xs : List α} (hb : Bel w w') (h : Own d e w base S v xs) : Own d e w' base S v xs := h.to hb
end Go.Cb
namespace Go.Proofs.YtmdcgekiiopohaaGreatDoor
open Go.RowKit Go.Cb Go.Sort Go.Shelf
end Go.Proofs.YtmdcgekiiopohaaGreatDoor
