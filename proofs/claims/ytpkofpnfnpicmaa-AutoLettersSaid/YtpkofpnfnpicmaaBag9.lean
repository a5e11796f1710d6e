/- Walks: what the statements of chapter 3 use. -/
import Derived.Test.YtpkofpnfnpicmaaBag8
import Derived.Test.YtpkofpnfnpicmaaLib2
import Derived.Test.YtpkofpnfnpicmaaPure4
namespace Go.Proofs.Ytpkofpnfnpicmaa
open Go.RowKit Go.Cb

set_option maxHeartbeats 1000000 in
theorem same03_c (S S' : Nat → Prop) (A B : Option Addr) (ca cb : Nat) (a b : List Int) (w : World) (ha : Rd intT w S A ca a) (hb : Rd intT w S' B cb b) (n m : Nat) (hn : n = a.length) (hm : m = b.length) :
    Calls Try.prog 16 #[.slice A n ca, .slice B m cb] w fun e w' => e = .returned (.bool (decide (a = b))) ∧ Bel w w' := by
  subst hn hm
  go_enter Try.func16, Try.ntmps16
  go_wp2_with (go_at_call 34; refine (sameInt_c _ _ _ _ _ _ _ _ _ ha hb _ _ rfl rfl).mono ?_; rintro e w' ⟨rfl, hbl⟩)
  go_ret
  exact ⟨rfl, hbl⟩
set_option maxHeartbeats 1000000 in
theorem wakes03 (w : World) : Calls Try.prog 19 #[] w fun e w' => e = .returned (.bool true) ∧ Bel w w' := by
  go_enter Try.func19, Try.ntmps19
  go_wp2_with fail
  refine (bagOne_c _ _ _).mono ?_
  rintro e w1 ⟨v, rfl, ho, hb⟩
  have ho : Own intT 3 w1 w.heap.size (Ge w.heap.size) v [0, 3] := ho
  obtain ⟨A1, c1, rfl, hr⟩ := ho.rd
  go_wp2_with fail
  refine (sameInt_c _ _ _ _ _ _ [0, 3] [0, 3] _ (hr.to ((Bel.refl _).alloc _)) (Rd.lit (enc := Value.int .i64) w1 3 [0, 3] (by simp [maxLen])) _ _ rfl rfl).mono ?_
  rintro e w' ⟨rfl, hbl⟩
  go_wp2
  go_ret
  exact ⟨rfl, (hb.alloc _).trans hbl⟩
end Go.Proofs.Ytpkofpnfnpicmaa
