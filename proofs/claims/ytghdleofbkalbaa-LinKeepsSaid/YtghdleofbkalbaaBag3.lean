/- Walks: sums of words. -/
import Derived.Test.YtghdleofbkalbaaBag2
import Derived.Test.YtghdleofbkalbaaNum
import Derived.Test.YtghdleofbkalbaaPure2
namespace Go.Proofs.Ytghdleofbkalbaa
open Go.RowKit Go.Cb

theorem addN_sum {x y : Int} (hx : 0 ≤ x ∧ x ≤ far) (hy : 0 ≤ y ∧ y ≤ far) (h : x + y ≤ 1152921504606846976) : addN x y = (x + y, true) := by
  unfold addN
  rw [if_pos ⟨(okN_iff x).2 hx, (okN_iff y).2 hy, h⟩]
theorem addN_over {x y : Int} (h : ¬ x + y ≤ 1152921504606846976) : addN x y = (0, false) := by
  unfold addN
  rw [if_neg (fun h2 => h h2.2.2)]

set_option maxHeartbeats 2000000 in
theorem bagAdd_bad (S : Nat → Prop) (A B : Option Addr) (ca cb : Nat) (a b : List Int) (w : World) (ha : Rd intT w S A ca a) (hb : Rd intT w S B cb b) (hR : rightB a = false ∨ rightB b = false) :
    Calls Try.prog 18 #[.slice A a.length ca, .slice B b.length cb] w fun e w' => e = .returned (.tuple #[.slice none 0 0, .bool false]) ∧ addB a b = ([], false) ∧ w = w' := by
  have Hn := Lib.hid (show addB a b = ([], false) from by unfold addB; rw [if_neg (by rcases hR with h | h <;> simp [h])])
  cases hA : rightB a with
  | false =>
    go_enter Try.func18, Try.ntmps18
    go_wp2_with (go_at_call 39; refine (right_c _ _ _ _ _ (by first | exact ha | exact hb) _ rfl).mono ?_; rintro e w' ⟨rfl, rfl⟩)
    go_ret2
    exact ⟨rfl, Hn.out, rfl⟩
  | true =>
    have hB : rightB b = false := by rcases hR with h | h
                                     · rw [hA] at h; cases h
                                     · exact h
    go_enter Try.func18, Try.ntmps18
    go_wp2_with fail
    refine (right_c _ _ _ _ _ ha _ rfl).mono ?_
    rintro e w' ⟨rfl, rfl⟩
    go_wp2_with fail
    refine (right_c _ _ _ _ _ hb _ rfl).mono ?_
    rintro e w' ⟨rfl, rfl⟩
    go_wp2_with fail
    go_ret2
    exact ⟨rfl, Hn.out, rfl⟩

set_option maxHeartbeats 2000000 in
theorem bagAdd_x (S : Nat → Prop) (A B : Option Addr) (ca cb : Nat) (a b : List Int) (w : World) (ha : Rd intT w S A ca a) (hb : Rd intT w S B cb b) (hA : rightB a = true) (hB : rightB b = true) (hL : ¬ a.length < b.length) :
    Calls Try.prog 18 #[.slice A a.length ca, .slice B b.length cb] w fun e w' => ∃ v, e = .returned (.tuple #[v, .bool (addB a b).2]) ∧ Own intT 3 w' w.heap.size (Ge w.heap.size) v (addB a b).1 ∧ Bel w w' := by
  have la := right_len hA
  have lb := right_len hB
  go_enter Try.func18, Try.ntmps18
  go_wp2_with fail
  refine (right_c _ _ _ _ _ ha _ rfl).mono ?_
  rintro e w' ⟨rfl, rfl⟩
  go_wp2_with fail
  refine (right_c _ _ _ _ _ hb _ rfl).mono ?_
  rintro e w' ⟨rfl, rfl⟩
  go_wp2_with fail
  refine (clone_c S _ _ _ _ ha _ rfl (by omega)).mono ?_
  rintro e w1 ⟨v, rfl, ho, hb1⟩
  obtain ⟨A1, c1, rfl⟩ := ho.form
  go_wp2_with fail
  go_loopw [4, 5, 27] (fun v4 v5 v27 wr => ∃ (k : Nat) (ok : Bool), k ≤ b.length ∧ v27 = .int .i64 k ∧ v5 = .bool ok ∧ v4 = .slice A1 a.length c1 ∧ Own intT 3 wr w.heap.size (Ge w.heap.size) (.slice A1 a.length c1) (addP a (b.take k)) ∧ Hid (∀ i, i < k → a.getD i 0 + b.getD i 0 ≤ far) ∧ Bel w wr) (fun _ _ v27 _ => b.length - (intOf v27).toNat)
  case atStart => exact ⟨0, false, Nat.zero_le _, rfl, rfl, rfl, by rw [List.take_zero, addP_nil]; exact ho, fun i hi => absurd hi (by omega), hb1⟩
  case round =>
    clear ho hb1
    obtain ⟨k, ok, hk, rfl, rfl, rfl, ho, hs, hb1⟩ := hrel
    by_cases hlt : k < b.length
    · have hka : k < a.length := by omega
      have hol : k < (addP a (b.take k)).length := by rw [addP_length]; omega
      obtain ⟨g, rfl, hg, _⟩ := ho.addr (by omega)
      obtain ⟨hc1, hf1⟩ := ho.cell hol
      obtain ⟨ad, hA1, hca⟩ := (ha.to hb1).int hka
      obtain ⟨bd, hB1, hcb⟩ := (hb.to hb1).int hlt
      subst hA1 hB1
      have xa := right_ok (by first | exact hA | exact hB) a[k] (List.getElem_mem hka)
      have xb := right_ok (by first | exact hB | exact hA) b[k] (List.getElem_mem hlt)
      by_cases hsum : a[k] + b[k] ≤ 1152921504606846976
      · have Hn := Lib.hid (addN_sum xa xb hsum)
        have Hsum := Lib.hid hsum
        clear xa xb hsum
        go_wp2_with (go_at_call 42; refine (add_c_to _ _ _ _ Hn.out _).mono ?_; rintro e w' ⟨rfl, rfl⟩)
        go_roundw
        case rel =>
          refine ⟨k + 1, true, by omega, by go_num, rfl, rfl, ?_, ?_, hb1.set hg _⟩
          · rw [addP_step hlt (by omega)]; exact Own.set ho k _
          · intro i hi
            by_cases hik : i < k
            · exact hs i hik
            · obtain rfl : i = k := by omega
              rw [getD_of hka, getD_of hlt]
              exact Hsum.out
        case measure => simp [intOf]; omega
      · have Hn := Lib.hid (addN_over hsum)
        have Hr := Lib.hid (addB_no (a := a) (b := b) (i := k) (by rw [getD_of hka, getD_of hlt]; unfold far; omega))
        clear xa xb hsum
        go_wp2_with (go_at_call 42; refine (add_c_to _ _ _ _ Hn.out _).mono ?_; rintro e w' ⟨rfl, rfl⟩)
        go_ret2
        have hr2 : addB a b = ([], false) := by first | exact Hr.out | exact (addB_comm a b).trans Hr.out
        rw [hr2]
        exact ⟨_, rfl, Own.nil _ _ _ _ _, hb1.set hg _⟩
    · go_wp2
      go_ret2
      have hr2 : addB a b = (addP a b, true) := by
        have := addB_yes (a := a) (b := b) (by first | exact hA | exact hB) (by first | exact hB | exact hA) (by omega) (fun i hi => hs i (by omega))
        first | exact this | exact (addB_comm a b).trans this
      rw [hr2]
      rw [List.take_of_length_le (by omega)] at ho
      exact ⟨_, rfl, ho, hb1⟩
set_option maxHeartbeats 2000000 in
theorem bagAdd_y (S : Nat → Prop) (A B : Option Addr) (ca cb : Nat) (a b : List Int) (w : World) (ha : Rd intT w S A ca a) (hb : Rd intT w S B cb b) (hA : rightB a = true) (hB : rightB b = true) (hL : a.length < b.length) :
    Calls Try.prog 18 #[.slice A a.length ca, .slice B b.length cb] w fun e w' => ∃ v, e = .returned (.tuple #[v, .bool (addB a b).2]) ∧ Own intT 3 w' w.heap.size (Ge w.heap.size) v (addB a b).1 ∧ Bel w w' := by
  have la := right_len hA
  have lb := right_len hB
  go_enter Try.func18, Try.ntmps18
  go_wp2_with fail
  refine (right_c _ _ _ _ _ ha _ rfl).mono ?_
  rintro e w' ⟨rfl, rfl⟩
  go_wp2_with fail
  refine (right_c _ _ _ _ _ hb _ rfl).mono ?_
  rintro e w' ⟨rfl, rfl⟩
  go_wp2_with fail
  refine (clone_c S _ _ _ _ hb _ rfl (by omega)).mono ?_
  rintro e w1 ⟨v, rfl, ho, hb1⟩
  obtain ⟨A1, c1, rfl⟩ := ho.form
  go_wp2_with fail
  go_loopw [4, 5, 27] (fun v4 v5 v27 wr => ∃ (k : Nat) (ok : Bool), k ≤ a.length ∧ v27 = .int .i64 k ∧ v5 = .bool ok ∧ v4 = .slice A1 b.length c1 ∧ Own intT 3 wr w.heap.size (Ge w.heap.size) (.slice A1 b.length c1) (addP b (a.take k)) ∧ Hid (∀ i, i < k → b.getD i 0 + a.getD i 0 ≤ far) ∧ Bel w wr) (fun _ _ v27 _ => a.length - (intOf v27).toNat)
  case atStart => exact ⟨0, false, Nat.zero_le _, rfl, rfl, rfl, by rw [List.take_zero, addP_nil]; exact ho, fun i hi => absurd hi (by omega), hb1⟩
  case round =>
    clear ho hb1
    obtain ⟨k, ok, hk, rfl, rfl, rfl, ho, hs, hb1⟩ := hrel
    by_cases hlt : k < a.length
    · have hka : k < b.length := by omega
      have hol : k < (addP b (a.take k)).length := by rw [addP_length]; omega
      obtain ⟨g, rfl, hg, _⟩ := ho.addr (by omega)
      obtain ⟨hc1, hf1⟩ := ho.cell hol
      obtain ⟨ad, hA1, hca⟩ := (hb.to hb1).int hka
      obtain ⟨bd, hB1, hcb⟩ := (ha.to hb1).int hlt
      subst hA1 hB1
      have xa := right_ok (by first | exact hA | exact hB) b[k] (List.getElem_mem hka)
      have xb := right_ok (by first | exact hB | exact hA) a[k] (List.getElem_mem hlt)
      by_cases hsum : b[k] + a[k] ≤ 1152921504606846976
      · have Hn := Lib.hid (addN_sum xa xb hsum)
        have Hsum := Lib.hid hsum
        clear xa xb hsum
        go_wp2_with (go_at_call 42; refine (add_c_to _ _ _ _ Hn.out _).mono ?_; rintro e w' ⟨rfl, rfl⟩)
        go_roundw
        case rel =>
          refine ⟨k + 1, true, by omega, by go_num, rfl, rfl, ?_, ?_, hb1.set hg _⟩
          · rw [addP_step hlt (by omega)]; exact Own.set ho k _
          · intro i hi
            by_cases hik : i < k
            · exact hs i hik
            · obtain rfl : i = k := by omega
              rw [getD_of hka, getD_of hlt]
              exact Hsum.out
        case measure => simp [intOf]; omega
      · have Hn := Lib.hid (addN_over hsum)
        have Hr := Lib.hid (addB_no (a := b) (b := a) (i := k) (by rw [getD_of hka, getD_of hlt]; unfold far; omega))
        clear xa xb hsum
        go_wp2_with (go_at_call 42; refine (add_c_to _ _ _ _ Hn.out _).mono ?_; rintro e w' ⟨rfl, rfl⟩)
        go_ret2
        have hr2 : addB a b = ([], false) := by first | exact Hr.out | exact (addB_comm a b).trans Hr.out
        rw [hr2]
        exact ⟨_, rfl, Own.nil _ _ _ _ _, hb1.set hg _⟩
    · go_wp2
      go_ret2
      have hr2 : addB a b = (addP b a, true) := by
        have := addB_yes (a := b) (b := a) (by first | exact hA | exact hB) (by first | exact hB | exact hA) (by omega) (fun i hi => hs i (by omega))
        first | exact this | exact (addB_comm a b).trans this
      rw [hr2]
      rw [List.take_of_length_le (by omega)] at ho
      exact ⟨_, rfl, ho, hb1⟩
theorem bagAdd_c (S : Nat → Prop) (A B : Option Addr) (ca cb : Nat) (a b : List Int) (w : World) (ha : Rd intT w S A ca a) (hb : Rd intT w S B cb b) (n m : Nat) (hn : n = a.length) (hm : m = b.length) :
    Calls Try.prog 18 #[.slice A n ca, .slice B m cb] w fun e w' => ∃ v, e = .returned (.tuple #[v, .bool (addB a b).2]) ∧ Own intT 3 w' w.heap.size (Ge w.heap.size) v (addB a b).1 ∧ Bel w w' := by
  subst hn hm
  by_cases hR : rightB a = true ∧ rightB b = true
  · by_cases hL : a.length < b.length
    · exact bagAdd_y S A B ca cb a b w ha hb hR.1 hR.2 hL
    · exact bagAdd_x S A B ca cb a b w ha hb hR.1 hR.2 hL
  · refine (bagAdd_bad S A B ca cb a b w ha hb ?_).mono ?_
    · cases h1 : rightB a with
      | false => exact .inl rfl
      | true =>
        cases h2 : rightB b with
        | false => exact .inr rfl
        | true => exact absurd ⟨h1, h2⟩ hR
    · rintro e w' ⟨rfl, hr, rfl⟩
      rw [hr]
      exact ⟨_, rfl, Own.nil _ _ _ _ _, Bel.refl _⟩
end Go.Proofs.Ytghdleofbkalbaa
