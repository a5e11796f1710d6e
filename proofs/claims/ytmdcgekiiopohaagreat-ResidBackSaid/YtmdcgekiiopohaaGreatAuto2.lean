/- Walks: items; is one of them final. -/
import Derived.Test.YtmdcgekiiopohaaGreatAuto1
set_option linter.unusedVariables false
set_option linter.unusedSimpArgs false
set_option linter.all false
namespace Go.Proofs.YtmdcgekiiopohaaGreat
open Go.RowKit Go.Cb
def itemT : Ty (Int × List Int) := two intT (sl intT)
theorem item_rd {w : World} {S : Nat → Prop} {A : Option Addr} {c : Nat} {l : List (Int × List Int)} (h : Rd itemT w S A c l) {k : Nat} (hk : k < l.length) :
    ∃ ad B cb, A = some ad ∧ w.cell? (ad.add (k * 2)) = some (.int .i64 l[k].1) ∧ w.cell? ⟨(ad.add (k * 2)).block, (ad.add (k * 2)).off + 1, none⟩ = some (.slice B l[k].2.length cb) ∧ Rd intT w S B cb l[k].2 := by
  obtain ⟨ad, cs, e, ⟨c0, c1, rfl, h0, ⟨B, cb, rfl, hr⟩⟩, hc⟩ := h.get (List.getElem?_eq_getElem hk)
  obtain rfl : c0 = [_] := h0
  exact ⟨ad, B, cb, e, hc 0 _ rfl, by have := hc 1 _ rfl; rw [show k * itemT.sz + 1 = k * 2 + 1 from rfl, ← add_add] at this; exact this, hr⟩
theorem final1_c (j : Int) (A : Option Addr) (n c : Nat) (w : World) : Calls Tryz.prog 66 #[.agg #[.int .i64 j, .slice A n c]] w fun e w' => e = .returned (.bool (n == 0)) ∧ Bel w w' := by
  have hn : ((n : Int) == 0) = (n == 0) := by
    cases n with
    | zero => rfl
    | succ n => rw [show ((n + 1 : Nat) == 0) = false from rfl]; simp; omega
  obtain ⟨r, hr⟩ : ∃ r, (n == 0) = r := ⟨_, rfl⟩
  rw [hr] at hn ⊢
  clear hr
  go_enter Tryz.func66, Tryz.ntmps66
  go_wp2
  go_ret
  exact ⟨rfl, (Bel.refl _).alloc _⟩
set_option maxHeartbeats 1000000 in
theorem indexItem_c (S : Nat → Prop) (A : Option Addr) (c : Nat) (l : List (Int × List Int)) (w : World) (h : Rd itemT w S A c l) (n : Nat) (hn : n = l.length) :
    Calls Tryz.prog 85 #[.slice A n c, .func (.func 66) #[] #[]] w fun e w' => (∃ n : Int, e = .returned (.int .i64 n) ∧ (decide (0 ≤ n) = l.any (fun x => x.2.length == 0))) ∧ Bel w w' := by
  subst hn
  have hl := h.lenMax
  have hcf : ∀ (args : Array Value) (w : World), (callFunc 66 args).run Tryz.prog w = .ok (.enter 66 args) w := fun _ _ => by kernel_rfl
  go_enter Tryz.func85, Tryz.ntmps85
  go_wp2
  go_loopw [8] (fun v wr => ∃ k : Nat, k ≤ l.length ∧ v = .int .i64 k ∧ Hid (∀ x ∈ l.take k, (x.2.length == 0) = false) ∧ Bel w wr) (fun v _ => l.length - (intOf v).toNat)
  case atStart => exact ⟨0, Nat.zero_le _, rfl, by intro x hx; simp at hx, Bel.refl _⟩
  case round =>
    obtain ⟨k, hk, rfl, hp, hb⟩ := hrel
    by_cases hlt : k < l.length
    · obtain ⟨ad, B, cb, rfl, hc0, hc1, hr⟩ := item_rd (h.to hb) hlt
      obtain ⟨j, hj⟩ : ∃ j, l[k].1 = j := ⟨_, rfl⟩
      obtain ⟨m, hm⟩ : ∃ m, l[k].2.length = m := ⟨_, rfl⟩
      rw [hj] at hc0
      rw [hm] at hc1
      have Hm := Lib.hid hm
      clear hj hm hr
      cases hok : (m == 0) with
      | false =>
        have Hs := Lib.hid (none_snoc hlt hp (show ((l[k]).2.length == 0) = false by rw [Hm.out]; exact hok))
        go_wp2_with fail
        refine (final1_c _ _ _ _ _).mono ?_
        rw [hok]
        rintro e w' ⟨rfl, hb2⟩
        go_wp2
        go_roundw
        case rel => exact ⟨k + 1, by omega, by go_num, Hs.out, hb.trans hb2⟩
        case measure => simp [intOf]; omega
      | true =>
        have Hs := Lib.hid (any_yes (p := fun x : Int × List Int => x.2.length == 0) hlt (show ((l[k]).2.length == 0) = true by rw [Hm.out]; exact hok))
        go_wp2_with fail
        refine (final1_c _ _ _ _ _).mono ?_
        rw [hok]
        rintro e w' ⟨rfl, hb2⟩
        go_wp2
        go_ret
        exact ⟨⟨_, rfl, Hs.out⟩, hb.trans hb2⟩
    · have Hs := Lib.hid (any_no (show l.length ≤ k by omega) hp)
      go_wp2
      go_ret
      exact ⟨⟨_, rfl, Hs.out⟩, hb⟩
theorem containsItem_c (S : Nat → Prop) (A : Option Addr) (c : Nat) (l : List (Int × List Int)) (w : World) (h : Rd itemT w S A c l) (n : Nat) (hn : n = l.length) :
    Calls Tryz.prog 65 #[.slice A n c, .func (.func 66) #[] #[]] w fun e w' => e = .returned (.bool (l.any (fun x => x.2.length == 0))) ∧ Bel w w' := by
  have C := Lib.hid (indexItem_c S A c l w h n hn)
  clear h hn
  generalize l.any (fun x => x.2.length == 0) = r at *
  go_enter Tryz.func65, Tryz.ntmps65
  go_wp2_with fail
  refine C.out.mono ?_
  rintro e w' ⟨⟨q, rfl, hq⟩, hb⟩
  go_wp2
  go_ret
  exact ⟨rfl, hb⟩
theorem final_c (S : Nat → Prop) (A : Option Addr) (c : Nat) (l : List (Int × List Int)) (w : World) (h : Rd itemT w S A c l) (n : Nat) (hn : n = l.length) :
    Calls Tryz.prog 30 #[.slice A n c] w fun e w' => e = .returned (.bool (l.any (fun x => x.2.length == 0))) ∧ Bel w w' := by
  have C := Lib.hid (containsItem_c S A c l w h n hn)
  clear h hn
  generalize l.any (fun x => x.2.length == 0) = r at *
  go_enter Tryz.func30, Tryz.ntmps30
  go_wp2_with fail
  refine C.out.mono ?_
  rintro e w' ⟨rfl, hb⟩
  go_wp2
  go_ret
  exact ⟨rfl, hb⟩
end Go.Proofs.YtmdcgekiiopohaaGreat
