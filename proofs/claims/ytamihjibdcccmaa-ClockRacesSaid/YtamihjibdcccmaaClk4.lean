/- Walks: have two events a cell that one of them writes. -/
import Derived.Test.YtamihjibdcccmaaClk3
set_option linter.unusedVariables false
set_option linter.unusedSimpArgs false
set_option linter.all false
namespace Go.Proofs.Ytamihjibdcccmaa
open Go.RowKit Go.Cb Go.Sort
set_option maxHeartbeats 8000000 in
set_option maxRecDepth 100000 in
theorem clash_c (S S2 : Nat → Prop) (w : World) (x y : Ev) (Ax Ay : Option Addr) (cx cy : Nat) (hx : Rd cellT w S Ax cx x.cs) (hy : Rd cellT w S2 Ay cy y.cs) :
    Calls Try.prog 19 #[.agg #[.int .i64 x.a, .int .i64 x.k, .int .i64 x.n, .slice Ax x.cs.length cx], .agg #[.int .i64 y.a, .int .i64 y.k, .int .i64 y.n, .slice Ay y.cs.length cy]] w fun e w' => e = .returned (.bool (clashE x y)) ∧ Bel w w' := by
  obtain ⟨xa, xk, xn, xs⟩ := x
  obtain ⟨ya, yk, yn, ys⟩ := y
  dsimp only at hx hy ⊢
  have lx := hx.lenMax
  have ly := hy.lenMax
  unfold maxLen at lx ly
  obtain ⟨W1, e1⟩ : ∃ W1, (w.alloc (.cells #[.int .i64 xa, .int .i64 xk, .int .i64 xn, .slice Ax xs.length cx] 27)).alloc (.cells #[.int .i64 ya, .int .i64 yk, .int .i64 yn, .slice Ay ys.length cy] 27) = W1 := ⟨_, rfl⟩
  have hb1 : Bel w W1 := by rw [← e1]; exact ((Bel.refl _).alloc _).alloc _
  have q3 : W1.cell? ⟨w.heap.size + 1, 3, none⟩ = some (.slice Ay ys.length cy) := by
    rw [← e1]
    have h := heap_alloc_new (w.alloc (.cells #[.int .i64 xa, .int .i64 xk, .int .i64 xn, .slice Ax xs.length cx] 27)) (.cells #[.int .i64 ya, .int .i64 yk, .int .i64 yn, .slice Ay ys.length cy] 27)
    rw [show (w.alloc (.cells #[.int .i64 xa, .int .i64 xk, .int .i64 xn, .slice Ax xs.length cx] 27)).heap.size = w.heap.size + 1 by simp] at h
    exact cellAt h 3
  have p3 : W1.cell? ⟨w.heap.size, 3, none⟩ = some (.slice Ax xs.length cx) := by
    rw [← e1]
    have h := heap_alloc_new w (.cells #[.int .i64 xa, .int .i64 xk, .int .i64 xn, .slice Ax xs.length cx] 27)
    have h2 : Bel (w.alloc (.cells #[.int .i64 xa, .int .i64 xk, .int .i64 xn, .slice Ax xs.length cx] 27)) ((w.alloc (.cells #[.int .i64 xa, .int .i64 xk, .int .i64 xn, .slice Ax xs.length cx] 27)).alloc (.cells #[.int .i64 ya, .int .i64 yk, .int .i64 yn, .slice Ay ys.length cy] 27)) := (Bel.refl _).alloc _
    exact cellAt ((h2.block (by simp)).trans h) 3
  have HQ3 := Lib.hid (fun W' (h : Bel W1 W') => cell_keep q3 (h.block (World.block_lt_of_cell? _ _ q3)))
  have HX := Lib.hid (fun W' (h : Bel W1 W') => (hx.to hb1).to h)
  have HY := Lib.hid (fun W' (h : Bel W1 W') => (hy.to hb1).to h)
  have HB1 := Lib.hid hb1
  clear hx hy hb1 q3
  go_enter Try.func19, Try.ntmps19
  go_wp2
  clear p3
  go_loopw [12] (fun v12 wr => ∃ (i : Nat) (W : World), W = wr ∧ i ≤ xs.length ∧ v12 = .int .i64 i ∧ Hid (∀ (i' : Nat) (p : Int × Int × Bool), i' < i → xs[i']? = some p → ∀ (j : Nat) (q : Int × Int × Bool), ys[j]? = some q → (p.1 == q.1 && p.2.1 == q.2.1 && (p.2.2 || q.2.2)) = false) ∧ Bel W1 W) (fun v12 _ => xs.length - (intOf v12).toNat)
  case atStart => exact ⟨0, _, rfl, Nat.zero_le _, rfl, (fun i' p h => absurd h (by omega) : ∀ (i' : Nat) (p : Int × Int × Bool), i' < 0 → xs[i']? = some p → ∀ (j : Nat) (q : Int × Int × Bool), ys[j]? = some q → (p.1 == q.1 && p.2.1 == q.2.1 && (p.2.2 || q.2.2)) = false), Bel.refl _⟩
  case round =>
    obtain ⟨i, W, rfl, hi, rfl, HN, hbW⟩ := hrel
    by_cases hlt : i < xs.length
    · obtain ⟨⟨p1, p2, p3⟩, hp⟩ : ∃ p, xs[i]? = some p := ⟨_, List.getElem?_eq_getElem hlt⟩
      obtain ⟨ad, rfl, x0, x1, x2⟩ := (HX.out W hbW).cell3 hp
      dsimp only at x0 x1 x2
      have HPX := Lib.hid hp
      have hal : Bel W (W.alloc (.cells #[.int .i64 p1, .int .i64 p2, .bool p3] 32)) := (Bel.refl _).alloc _
      have hnw := heap_alloc_new W (.cells #[.int .i64 p1, .int .i64 p2, .bool p3] 32)
      have hbA := hbW.trans hal
      have r3 := HQ3.out _ hbA
      clear hp hal
      go_wp2
      clear x0 x1 x2 r3
      obtain ⟨gx, hgx⟩ : ∃ g, W.heap.size = g := ⟨_, rfl⟩
      obtain ⟨W2, e2⟩ : ∃ W2, W.alloc (.cells #[.int .i64 p1, .int .i64 p2, .bool p3] 32) = W2 := ⟨_, rfl⟩
      rw [e2] at hnw hbA ⊢
      rw [hgx] at hnw ⊢
      have HNW := Lib.hid hnw
      have HBA := Lib.hid hbA
      clear e2 hgx hnw hbA hbW
      go_loopw [19] (fun v19 wr => ∃ (j : Nat) (W : World), W = wr ∧ j ≤ ys.length ∧ v19 = .int .i64 j ∧ Hid (∀ (j' : Nat) (q : Int × Int × Bool), j' < j → ys[j']? = some q → (p1 == q.1 && p2 == q.2.1 && (p3 || q.2.2)) = false) ∧ Bel W2 W) (fun v19 _ => ys.length - (intOf v19).toNat)
      case atStart => exact ⟨0, _, rfl, Nat.zero_le _, rfl, (fun j' q h => absurd h (by omega) : ∀ (j' : Nat) (q : Int × Int × Bool), j' < 0 → ys[j']? = some q → (p1 == q.1 && p2 == q.2.1 && (p3 || q.2.2)) = false), Bel.refl _⟩
      case round =>
        obtain ⟨j, W3, rfl, hj, rfl, HM, hb3⟩ := hrel
        by_cases hlt2 : j < ys.length
        · obtain ⟨⟨q1, q2, q3⟩, hq⟩ : ∃ q, ys[j]? = some q := ⟨_, List.getElem?_eq_getElem hlt2⟩
          obtain ⟨ad2, rfl, y0, y1, y2⟩ := (HY.out W3 (HBA.out.trans hb3)).cell3 hq
          dsimp only at y0 y1 y2
          have HQX := Lib.hid hq
          have hb4 : Bel W2 (W3.alloc (.cells #[.int .i64 q1, .int .i64 q2, .bool q3] 32)) := hb3.alloc _
          have hgl := blk_lt HNW.out
          have hk := (hb4.block hgl).trans HNW.out
          have z0 : (W3.alloc (.cells #[.int .i64 q1, .int .i64 q2, .bool q3] 32)).cell? ⟨gx, 0, none⟩ = some (.int .i64 p1) := cellAt hk 0
          have z1 : (W3.alloc (.cells #[.int .i64 q1, .int .i64 q2, .bool q3] 32)).cell? ⟨gx, 1, none⟩ = some (.int .i64 p2) := cellAt hk 1
          have z2 : (W3.alloc (.cells #[.int .i64 q1, .int .i64 q2, .bool q3] 32)).cell? ⟨gx, 2, none⟩ = some (.bool p3) := cellAt hk 2
          have hn4 := heap_alloc_new W3 (.cells #[.int .i64 q1, .int .i64 q2, .bool q3] 32)
          have u0 : (W3.alloc (.cells #[.int .i64 q1, .int .i64 q2, .bool q3] 32)).cell? ⟨W3.heap.size, 0, none⟩ = some (.int .i64 q1) := cellAt hn4 0
          have u1 : (W3.alloc (.cells #[.int .i64 q1, .int .i64 q2, .bool q3] 32)).cell? ⟨W3.heap.size, 1, none⟩ = some (.int .i64 q2) := cellAt hn4 1
          have u2 : (W3.alloc (.cells #[.int .i64 q1, .int .i64 q2, .bool q3] 32)).cell? ⟨W3.heap.size, 2, none⟩ = some (.bool q3) := cellAt hn4 2
          have HB4 := Lib.hid hb4
          have HNX := Lib.hid (show (p1 == q1 && p2 == q2 && (p3 || q3)) = false → ∀ (j' : Nat) (q : Int × Int × Bool), j' < j + 1 → ys[j']? = some q → (p1 == q.1 && p2 == q.2.1 && (p3 || q.2.2)) = false from fun h j' q hj' hq' => by
            by_cases e : j' = j
            · rw [e, HQX.out] at hq'
              injection hq' with hq'
              rw [← hq']
              exact h
            · exact HM.out j' q (by omega) hq')
          have HYES := Lib.hid (show (p1 == q1 && p2 == q2 && (p3 || q3)) = true → clashE ⟨xa, xk, xn, xs⟩ ⟨ya, yk, yn, ys⟩ = true from fun h => clash_any (x := ⟨xa, xk, xn, xs⟩) (y := ⟨ya, yk, yn, ys⟩) HPX.out HQX.out h)
          clear hq hb3 hb4 hk hn4
          cases h1 : (p1 == q1) with
          | false =>
            have HN2 := Lib.hid (HNX.out (by rw [h1]; rfl))
            go_wp2
            go_roundw
            case rel => exact ⟨j + 1, _, rfl, by omega, by go_num, HN2, HB4.out⟩
            case measure => simp [intOf]; omega
          | true =>
            cases h2 : (p2 == q2) with
            | false =>
              have HN2 := Lib.hid (HNX.out (by rw [h1, h2]; rfl))
              go_wp2
              go_roundw
              case rel => exact ⟨j + 1, _, rfl, by omega, by go_num, HN2, HB4.out⟩
              case measure => simp [intOf]; omega
            | true =>
              cases p3 with
              | true =>
                have HY2 := Lib.hid (HYES.out (by rw [h1, h2]; rfl))
                go_wp2
                go_ret
                exact ⟨by rw [HY2.out]; rfl, HB1.out.trans (HBA.out.trans HB4.out)⟩
              | false =>
                cases q3 with
                | true =>
                  have HY2 := Lib.hid (HYES.out (by rw [h1, h2]; rfl))
                  go_wp2
                  go_ret
                  exact ⟨by rw [HY2.out]; rfl, HB1.out.trans (HBA.out.trans HB4.out)⟩
                | false =>
                  have HN2 := Lib.hid (HNX.out (by rw [h1, h2]; rfl))
                  go_wp2
                  go_roundw
                  case rel => exact ⟨j + 1, _, rfl, by omega, by go_num, HN2, HB4.out⟩
                  case measure => simp [intOf]; omega
        · obtain rfl : j = ys.length := by omega
          have HNN := Lib.hid (show ∀ (i' : Nat) (p : Int × Int × Bool), i' < i + 1 → xs[i']? = some p → ∀ (j : Nat) (q : Int × Int × Bool), ys[j]? = some q → (p.1 == q.1 && p.2.1 == q.2.1 && (p.2.2 || q.2.2)) = false from fun i' p hi' hp' j q hq' => by
            by_cases e : i' = i
            · rw [e, HPX.out] at hp'
              injection hp' with hp'
              rw [← hp']
              exact HM.out j q (List.getElem?_eq_some_iff.1 hq').1 hq'
            · exact HN.out i' p (by omega) hp' j q hq')
          have HB3 := Lib.hid (HBA.out.trans hb3)
          clear hb3
          go_wp2
          go_roundw
          case rel => exact ⟨i + 1, _, rfl, by omega, by go_num, HNN, HB3.out⟩
          case measure => simp [intOf]; omega
    · obtain rfl : i = xs.length := by omega
      have HF := Lib.hid (show clashE ⟨xa, xk, xn, xs⟩ ⟨ya, yk, yn, ys⟩ = false from clash_none (x := ⟨xa, xk, xn, xs⟩) (y := ⟨ya, yk, yn, ys⟩) (fun i' p hp' => HN.out i' p (List.getElem?_eq_some_iff.1 hp').1 hp'))
      go_wp2
      go_ret
      exact ⟨by rw [HF.out]; rfl, HB1.out.trans hbW⟩
end Go.Proofs.Ytamihjibdcccmaa
