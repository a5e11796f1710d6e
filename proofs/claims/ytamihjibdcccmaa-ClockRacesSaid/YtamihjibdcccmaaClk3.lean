/- Walks: is an event ahead of another one, by their clocks; have two events a cell that one of them writes. -/
import Derived.Test.YtamihjibdcccmaaClkW
import Derived.Test.YtamihjibdcccmaaCA
set_option linter.unusedVariables false
set_option linter.unusedSimpArgs false
set_option linter.all false
namespace Go.Cb
open Go.RowKit
theorem Rd.ptr {w : World} {S : Nat → Prop} {A : Option Addr} {c : Nat} {xs : List Nat} (h : Rd ptrT w S A c xs) {k g : Nat} (hk : xs[k]? = some g) : ∃ ad, A = some ad ∧ w.cell? (ad.add k) = some (.pointer (some ⟨g, 0, none⟩)) := by
  obtain ⟨ad, cs, e, hS, hr, hc⟩ := h.2.2 k _ hk
  have hr : cs = [.pointer (some ⟨g, 0, none⟩)] := hr
  refine ⟨ad, e, ?_⟩
  have := hc 0 (.pointer (some ⟨g, 0, none⟩)) (by rw [hr]; rfl)
  rwa [show k * ptrT.sz + 0 = k from Nat.mul_one k] at this
theorem clash_any {x y : Ev} {i j : Nat} {p q : Int × Int × Bool} (hp : x.cs[i]? = some p) (hq : y.cs[j]? = some q) (h : (p.1 == q.1 && p.2.1 == q.2.1 && (p.2.2 || q.2.2)) = true) : clashE x y = true := by
  unfold clashE
  exact List.any_eq_true.2 ⟨p, List.mem_of_getElem? hp, List.any_eq_true.2 ⟨q, List.mem_of_getElem? hq, h⟩⟩
theorem clash_none {x y : Ev} (h : ∀ (i : Nat) (p : Int × Int × Bool), x.cs[i]? = some p → ∀ (j : Nat) (q : Int × Int × Bool), y.cs[j]? = some q → (p.1 == q.1 && p.2.1 == q.2.1 && (p.2.2 || q.2.2)) = false) : clashE x y = false := by
  unfold clashE
  refine List.any_eq_false.2 (fun p hp => ?_)
  obtain ⟨i, hi⟩ := List.mem_iff_getElem?.1 hp
  refine Bool.not_eq_true _ ▸ (List.any_eq_false.2 (fun q hq => ?_))
  obtain ⟨j, hj⟩ := List.mem_iff_getElem?.1 hq
  rw [h i p hi j q hj]
  simp
end Go.Cb
namespace Go.Proofs.Ytamihjibdcccmaa
open Go.RowKit Go.Cb Go.Sort
set_option maxHeartbeats 8000000 in
set_option maxRecDepth 100000 in
theorem ahead_c (S S2 : Nat → Prop) (A B : Option Addr) (c cB : Nat) (l : List Ev) (gs : List Nat) (b0 : Nat) (w : World) (hl : Rd evT w S A c l) (hp : Rd ptrT w S2 B cB gs) (hgs : gs.length = l.length)
    (ht : ∀ i g, gs[i]? = some g → ∃ vt, TabI w b0 g vt (clkE l i)) (i j : Nat) (hi : i < l.length) (hj : j < l.length) (n m : Nat) (hn : n = l.length) (hm : m = l.length) :
    Calls Try.prog 20 #[.slice A n c, .slice B m cB, .int .i64 i, .int .i64 j] w fun e w' => e = .returned (.bool (aheadE l i j)) ∧ Bel w w' := by
  subst hn hm
  obtain ⟨⟨xa, xk, xn, xcs⟩, hx⟩ : ∃ x, l[i]? = some x := ⟨_, List.getElem?_eq_getElem hi⟩
  have hact : actE l i = xa := by unfold actE; rw [List.getD_eq_getElem?_getD, hx]; rfl
  obtain ⟨gi, hgi⟩ : ∃ g, gs[i]? = some g := ⟨_, List.getElem?_eq_getElem (by omega)⟩
  obtain ⟨gj, hgj⟩ : ∃ g, gs[j]? = some g := ⟨_, List.getElem?_eq_getElem (by omega)⟩
  obtain ⟨vi, hti⟩ := ht i gi hgi
  obtain ⟨vj, htj⟩ := ht j gj hgj
  obtain ⟨ad, Ac, cc, rfl, c0, _, _, _, _⟩ := hl.ev hx
  obtain ⟨bd, rfl, pi⟩ := hp.ptr hgi
  obtain ⟨bd', e', pj⟩ := hp.ptr hgj
  injection e' with e'
  subst e'
  dsimp only at c0
  have K1 := Lib.hid (show ∀ W', Bel w W' → Calls Try.prog 30 #[.pointer (some ⟨gi, 0, none⟩), .int .i64 xa] W' fun e w' => e = .returned (.tuple #[.int .i64 (vE l i xa), .bool (hasT cmpI (clkE l i) xa)]) ∧ Bel W' w' from fun W' h => by
    have Q := get_ii (hti.to h) (clkE_ok l i).ok xa
    rw [opt_val] at Q
    exact Q)
  have K2 := Lib.hid (show ∀ W', Bel w W' → Calls Try.prog 30 #[.pointer (some ⟨gj, 0, none⟩), .int .i64 xa] W' fun e w' => e = .returned (.tuple #[.int .i64 (vE l j xa), .bool (hasT cmpI (clkE l j) xa)]) ∧ Bel W' w' from fun W' h => by
    have Q := get_ii (htj.to h) (clkE_ok l j).ok xa
    rw [opt_val] at Q
    exact Q)
  have HA := Lib.hid (show aheadE l i j = (decide ((i : Int) < (j : Int)) && decide (vE l i xa ≤ vE l j xa)) by
    unfold aheadE
    rw [hact]
    congr 1
    exact decide_eq_decide.2 (by omega))
  have T0 := cellReg c0
  have T1 := cellReg pi
  have HPJ := Lib.hid (fun W' (h : Bel w W') => cell_keep pj (h.block (World.block_lt_of_cell? _ _ pj)))
  have HC0 := Lib.hid (fun W' (h : Bel w W') => cell_keep c0 (h.block (World.block_lt_of_cell? _ _ c0)))
  have i1 : (i : Int) < (l.length : Int) := by omega
  have j1 : (j : Int) < (l.length : Int) := by omega
  have lml : l.length ≤ maxLen := hl.lenMax
  generalize vE l i xa = mi at *
  generalize vE l j xa = mj at *
  generalize hasT cmpI (clkE l i) xa = bi at *
  generalize hasT cmpI (clkE l j) xa = bj at *
  clear hx hact hgi hgj hti htj hl hp ht c0 pi pj hgs
  go_enter Try.func20, Try.ntmps20
  go_wp2_with fail
  refine wp_region_quiet_below (by kernel_rfl) (by kernel_rfl) ?_
  repeat (go_big_quiet_step (first | with_reducible exact callsReg K1.out))
  refine wpQuiet_nil ?_
  intro _ hw'
  obtain ⟨⟨dq, oq⟩, hw''⟩ := hw'
  subst hw''
  have hb1 := bel_regrown w dq oq
  generalize grow (redrawn w dq) oq = W1 at *
  have T2 := cellReg (HC0.out W1 hb1)
  have T3 := cellReg (HPJ.out W1 hb1)
  have K3 := Lib.hid (show ∀ W', Bel W1 W' → Calls Try.prog 30 #[.pointer (some ⟨gj, 0, none⟩), .int .i64 xa] W' fun e w' => e = .returned (.tuple #[.int .i64 mj, .bool bj]) ∧ Bel W' w' from fun W' h => K2.out W' (hb1.trans h))
  have HB1 := Lib.hid hb1
  clear hb1 T0 T1 K1 K2 HPJ HC0
  go_wp2_with fail
  refine wp_region_quiet_below (by kernel_rfl) (by kernel_rfl) ?_
  repeat (go_big_quiet_step (first | with_reducible exact callsReg K3.out))
  refine wpQuiet_nil ?_
  intro _ hw'
  obtain ⟨⟨dq, oq⟩, hw''⟩ := hw'
  subst hw''
  have hb2 := bel_regrown W1 dq oq
  generalize grow (redrawn W1 dq) oq = W2 at *
  by_cases hij : (i : Int) < (j : Int)
  · have d0 : decide ((i : Int) < (j : Int)) = true := decide_eq_true hij
    go_wp2
    go_ret
    exact ⟨by rw [HA.out, d0]; rfl, HB1.out.trans hb2⟩
  · have d0 : decide ((i : Int) < (j : Int)) = false := decide_eq_false hij
    go_wp2
    go_ret
    exact ⟨by rw [HA.out, d0]; rfl, HB1.out.trans hb2⟩
end Go.Proofs.Ytamihjibdcccmaa
