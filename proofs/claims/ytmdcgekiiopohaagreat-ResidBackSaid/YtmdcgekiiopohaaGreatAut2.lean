/- Walks: the order of items, the program's and the document's. -/
import Derived.Test.YtmdcgekiiopohaaGreatAut1
import Derived.Test.YtmdcgekiiopohaaGreatMF
import Derived.Test.YtmdcgekiiopohaaGreatMC
set_option linter.unusedVariables false
set_option linter.unusedSimpArgs false
set_option linter.all false
namespace Go.Cb
theorem item_orL (x y : Itm) : cmpItem x y = orL [cmpI x.1 y.1, cmpB x.2 y.2] := by
  unfold cmpItem
  simp only [orL]
  by_cases h : cmpI x.1 y.1 = 0
  · rw [if_pos h, if_pos h]
    split
    · assumption
    · rfl
  · rw [if_neg h, if_neg h]
def lessI (x y : Itm) : Bool := decide (cmpItem x y < 0)
theorem lessI_lt {x y : Itm} (h : x.1 < y.1) : lessI x y = true := by
  have h1 := cmpI_neg1 (a := x.1) (b := y.1)
  unfold lessI cmpItem
  rw [if_neg (by omega)]
  exact decide_eq_true (by omega)
theorem lessI_gt {x y : Itm} (h : y.1 < x.1) : lessI x y = false := by
  have h1 := cmpI_le (a := x.1) (b := y.1)
  unfold lessI cmpItem
  rw [if_neg (by omega)]
  exact decide_eq_false (by omega)
theorem lessI_eq {x y : Itm} (h : x.1 = y.1) : lessI x y = decide (cmpB x.2 y.2 < 0) := by
  unfold lessI cmpItem
  rw [if_pos (cmpI_zero.2 h)]
end Go.Cb
namespace Go.Proofs.YtmdcgekiiopohaaGreat
open Go.RowKit Go.Cb Go.Sort
set_option maxRecDepth 100000 in
set_option maxHeartbeats 4000000 in
theorem itemCompare_c (S0 S1 : Nat → Prop) (A0 B0 : Option Addr) (c0 d0 : Nat) (x y : Itm) (w : World) (h0 : Rd intT w S0 A0 c0 x.2) (g0 : Rd intT w S1 B0 d0 y.2) (n m : Nat) (hn : n = x.2.length) (hm : m = y.2.length) :
    Calls Tryz.prog 61 #[.agg #[.int .i64 x.1, .slice A0 n c0], .agg #[.int .i64 y.1, .slice B0 m d0]] w fun e w' => e = .returned (.int .i64 (cmpItem x y)) ∧ Grw w w' := by
  obtain ⟨j, a⟩ := x
  obtain ⟨i, b⟩ := y
  dsimp only at *
  subst hn hm
  have He := Lib.hid (item_orL (j, a) (i, b))
  obtain ⟨hB1, hX, hY, hsz⟩ := twoBoxesG w #[.int .i64 j, .slice A0 a.length c0] #[.int .i64 i, .slice B0 b.length d0] 100
  have h0 := h0.to hB1.bel
  have g0 := g0.to hB1.bel
  go_enter Tryz.func61, Tryz.ntmps61
  go_wp2_with fail
  generalize (w.alloc (.cells #[.int .i64 j, .slice A0 a.length c0] 100)).alloc (.cells #[.int .i64 i, .slice B0 b.length d0] 100) = W1 at *
  generalize w.heap.size = g at *
  have hX0 : W1.drew.cell? ⟨g, 0, none⟩ = some (.int .i64 j) := hX 0
  have hX1 : W1.drew.cell? ⟨g, 1, none⟩ = some (.slice A0 a.length c0) := hX 1
  have hY0 : W1.drew.cell? ⟨g + 1, 0, none⟩ = some (.int .i64 i) := hY 0
  have hY1 : W1.drew.cell? ⟨g + 1, 1, none⟩ = some (.slice B0 b.length d0) := hY 1
  clear hX hY
  refine wp_region_still_tail 10 (by kernel_rfl) (by kernel_rfl) ?_
  simp only [List.take_succ_cons, List.take_zero, List.drop_succ_cons, List.drop_zero]
  change wpStill _ _ W1.drew (fun a' => wpList _ _ _ _ a' W1.drew) _ _
  have hb4 : Grw W1 W1.drew := (Grw.refl _).drew
  generalize W1.drew = w4 at *
  have R1 := (bagCompare_c _ _ _ _ _ _ _ _ _ (h0.to hb4.bel) (g0.to hb4.bel) _ _ rfl rfl).mono fun _ _ (h : _ ∧ _) => (⟨h.1, h.2.symm⟩ : _ ∧ _)
  have R3 := (cmpCompare_c j i w4).mono fun _ _ (h : _ ∧ _) => (⟨h.1, h.2.symm⟩ : _ ∧ _)
  repeat (first | still_step | still_call R1 | still_call R3)
  refine wpStill_nil ?_
  generalize cmpB a b = z0 at *
  generalize cmpI j i = z1 at *
  clear R1 R3 hX0 hX1 hY0 hY1
  go_wp2_with fail
  refine (orL_c _ _ _ [z1, z0] _ (Rd.lit (enc := Value.int .i64) w4 3 [z1, z0] (by simp [maxLen])) _ rfl).mono ?_
  rintro e w5 ⟨rfl, rfl⟩
  go_wp2_with fail
  go_ret
  exact ⟨by rw [He.out]; rfl, hB1.trans (hb4.alloc _)⟩
end Go.Proofs.YtmdcgekiiopohaaGreat
