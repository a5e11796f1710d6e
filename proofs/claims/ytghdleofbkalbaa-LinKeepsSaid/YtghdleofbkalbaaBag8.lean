/- Walks: the document's sums of words. -/
import Derived.Test.YtghdleofbkalbaaBag7
import Derived.Test.YtghdleofbkalbaaPure3
namespace Go.Proofs.Ytghdleofbkalbaa
open Go.RowKit Go.Cb

set_option maxHeartbeats 2000000 in
theorem refAdd_bad (S S' : Nat → Prop) (A B : Option Addr) (ca cb : Nat) (a b : List Int) (w : World) (ha : Rd intT w S A ca a) (hb : Rd intT w S' B cb b) (hR : rightB a = false ∨ rightB b = false) :
    Calls Try.prog 48 #[.slice A a.length ca, .slice B b.length cb] w fun e w' => e = .returned (.tuple #[.slice none 0 0, .bool false]) ∧ addB a b = ([], false) ∧ w = w' := by
  have Hn := Lib.hid (show addB a b = ([], false) from by unfold addB; rw [if_neg (by rcases hR with h | h <;> simp [h])])
  cases hA : rightB a with
  | false =>
    go_enter Try.func48, Try.ntmps48
    go_wp2_with fail
    refine (refRight_c _ _ _ _ _ ha _ rfl).mono ?_
    rintro e w' ⟨rfl, rfl⟩
    go_wp2_with fail
    go_ret2
    exact ⟨rfl, Hn.out, rfl⟩
  | true =>
    have hB : rightB b = false := by
      rcases hR with h | h
      · rw [hA] at h; cases h
      · exact h
    go_enter Try.func48, Try.ntmps48
    go_wp2_with fail
    refine (refRight_c _ _ _ _ _ ha _ rfl).mono ?_
    rintro e w' ⟨rfl, rfl⟩
    go_wp2_with fail
    refine (refRight_c _ _ _ _ _ hb _ rfl).mono ?_
    rintro e w' ⟨rfl, rfl⟩
    go_wp2_with fail
    go_ret2
    exact ⟨rfl, Hn.out, rfl⟩

set_option maxHeartbeats 4000000 in
theorem refAdd_x (S S' : Nat → Prop) (A B : Option Addr) (ca cb : Nat) (a b : List Int) (w : World) (ha : Rd intT w S A ca a) (hb : Rd intT w S' B cb b) (hA : rightB a = true) (hB : rightB b = true) (hL : b.length ≤ a.length) :
    Calls Try.prog 48 #[.slice A a.length ca, .slice B b.length cb] w fun e w' => ∃ v, e = .returned (.tuple #[v, .bool (addB a b).2]) ∧ Own intT 3 w' w.heap.size (Ge w.heap.size) v (addB a b).1 ∧ Bel w w' := by
  have la := right_len hA
  have lb := right_len hB
  have hmx : a.length = max a.length b.length := by omega
  have Hmx := Lib.hid hmx
  clear hmx
  go_enter Try.func48, Try.ntmps48
  go_wp2_with fail
  refine (refRight_c _ _ _ _ _ ha _ rfl).mono ?_
  rintro e w' ⟨rfl, rfl⟩
  go_wp2_with fail
  refine (refRight_c _ _ _ _ _ hb _ rfl).mono ?_
  rintro e w' ⟨rfl, rfl⟩
  go_wp2_with (at_make; refine wp_make (enc := Value.int .i64) (fun _ => rfl) (0 : Int) (w0 := w) 23 3 8 rfl _ _ rfl Try.underlying23 info_int rfl a.length _ _ rfl rfl rfl rfl (Bel.refl _) (by omega) (by unfold maxLen; omega) ?_; intro w1 ho hb1 hb2 hsz)
  clear hb2 hsz
  rw [← addF_zero a.length a b] at ho
  go_loopw [4, 5, 28] (fun v4 v5 v28 wr => ∃ k : Nat, k ≤ a.length ∧ v28 = .int .i64 k ∧ Own (scalar (Value.int .i64) (fun _ => rfl)) 3 wr w.heap.size All (.slice (some ⟨w.heap.size, 0, none⟩) a.length a.length) (addF a.length a b k) ∧ Hid (∀ i, i < k → a.getD i 0 + b.getD i 0 ≤ far) ∧ Bel w wr) (fun _ _ v28 _ => a.length - (intOf v28).toNat)
  case atStart => exact ⟨0, Nat.zero_le _, rfl, ho, fun i hi => absurd hi (by omega), hb1⟩
  case round =>
    clear ho hb1
    obtain ⟨k, hk, rfl, ho, hs, hb1⟩ := hrel
    by_cases hlt : k < a.length
    · obtain ⟨hc1, hf1⟩ := ho.cell (i := k) (by rw [addF_len]; exact hlt)
      have Hst := Lib.hid (addF_step a b hlt)
      obtain ⟨x, hx⟩ : ∃ x, a.getD k 0 = x := ⟨_, rfl⟩
      obtain ⟨y, hy⟩ : ∃ y, b.getD k 0 = y := ⟨_, rfl⟩
      have xr := right_getD hA k
      have yr := right_getD hB k
      rw [hx] at xr Hst
      rw [hy] at yr Hst
      have Hx := Lib.hid hx
      have Hy := Lib.hid hy
      have xr1 : x ≤ 1152921504606846976 := xr.2
      have yr1 : y ≤ 1152921504606846976 := yr.2
      have Xa := Lib.hid xr
      have Xb := Lib.hid yr
      clear hx hy xr yr
      have main : (∃ n ok, addN x y = (n, ok) ∧ ((ok = true ∧ n = x + y ∧ x + y ≤ far) ∨ (ok = false ∧ addB a b = ([], false)))) := by
        by_cases hsum : x + y ≤ 1152921504606846976
        · exact ⟨x + y, true, addN_sum Xa.out Xb.out hsum, .inl ⟨rfl, rfl, hsum⟩⟩
        · exact ⟨0, false, addN_over hsum, .inr ⟨rfl, addB_no (i := k) (by rw [Hx.out, Hy.out]; unfold far; omega)⟩⟩
      obtain ⟨n, ok, hn, hcase⟩ := main
      have Hn := Lib.hid hn
      clear hn
      have hcell : (k < a.length → ∃ ad, A = some ad ∧ wr.cell? (ad.add k) = some (.int .i64 x)) ∧ (k < b.length → ∃ bd, B = some bd ∧ wr.cell? (bd.add k) = some (.int .i64 y)) ∧ (¬ k < a.length → x = 0) ∧ (¬ k < b.length → y = 0) := by
        refine ⟨fun h => ?_, fun h => ?_, fun h => ?_, fun h => ?_⟩
        · obtain ⟨ad, h1, h2⟩ := (ha.to hb1).int h
          exact ⟨ad, h1, by rw [h2, ← Hx.out, getD_of h]⟩
        · obtain ⟨ad, h1, h2⟩ := (hb.to hb1).int h
          exact ⟨ad, h1, by rw [h2, ← Hy.out, getD_of h]⟩
        · rw [← Hx.out, getD_out (by omega)]
        · rw [← Hy.out, getD_out (by omega)]
      obtain ⟨q1, q2, q3, q4⟩ := hcell
      have ho2 := Own.set ho k n
      have hfin : ok = true → Own (scalar (Value.int .i64) (fun _ => rfl)) 3 (wr.setCell ⟨w.heap.size, k, none⟩ (.int .i64 n)) w.heap.size All (.slice (some ⟨w.heap.size, 0, none⟩) a.length a.length) (addF a.length a b (k + 1)) ∧ Hid (∀ i, i < k + 1 → a.getD i 0 + b.getD i 0 ≤ far) := by
        intro he
        rcases hcase with ⟨_, h1, h2⟩ | ⟨h1, _⟩
        · rw [h1] at ho2 ⊢
          rw [Hst.out] at ho2
          refine ⟨ho2, fun i hi => ?_⟩
          by_cases hik : i < k
          · exact hs i hik
          · obtain rfl : i = k := by omega
            rw [Hx.out, Hy.out]; exact h2
        · rw [h1] at he; cases he
      have hbad : ok = false → addB a b = ([], false) := by
        intro he
        rcases hcase with ⟨h1, _⟩ | ⟨_, h1⟩
        · rw [h1] at he; cases he
        · exact h1
      clear hcase ho2
      cases ok with
      | true =>
        obtain ⟨h1, h2⟩ := hfin rfl
        have H1 := Lib.hid h1
        clear hfin hbad h1
        by_cases ka : k < a.length
        · obtain ⟨ad, rfl, hca⟩ := q1 ka
          by_cases kb : k < b.length
          · obtain ⟨bd, rfl, hcb⟩ := q2 kb
            clear q1 q2 q3 q4
            go_wp2_with (go_at_call 63; refine (refAdd_c_to _ _ _ _ Hn.out _).mono ?_; rintro e w' ⟨rfl, rfl⟩)
            go_roundw
            case rel => exact ⟨k + 1, by omega, by go_num, H1.out, h2, hb1.set (Nat.le_refl _) _⟩
            case measure => simp [intOf]; omega
          · have Hy0 := q4 kb
            clear q1 q2 q3 q4
            subst Hy0
            go_wp2_with (go_at_call 63; refine (refAdd_c_to _ _ _ _ Hn.out _).mono ?_; rintro e w' ⟨rfl, rfl⟩)
            go_roundw
            case rel => exact ⟨k + 1, by omega, by go_num, H1.out, h2, hb1.set (Nat.le_refl _) _⟩
            case measure => simp [intOf]; omega
        · exact absurd hlt ka
      | false =>
        have Hb := Lib.hid (hbad rfl)
        clear hfin hbad
        by_cases ka : k < a.length
        · obtain ⟨ad, rfl, hca⟩ := q1 ka
          by_cases kb : k < b.length
          · obtain ⟨bd, rfl, hcb⟩ := q2 kb
            clear q1 q2 q3 q4
            go_wp2_with (go_at_call 63; refine (refAdd_c_to _ _ _ _ Hn.out _).mono ?_; rintro e w' ⟨rfl, rfl⟩)
            go_ret2
            rw [Hb.out]
            exact ⟨_, rfl, Own.nil _ _ _ _ _, hb1⟩
          · have Hy0 := q4 kb
            clear q1 q2 q3 q4
            subst Hy0
            go_wp2_with (go_at_call 63; refine (refAdd_c_to _ _ _ _ Hn.out _).mono ?_; rintro e w' ⟨rfl, rfl⟩)
            go_ret2
            rw [Hb.out]
            exact ⟨_, rfl, Own.nil _ _ _ _ _, hb1⟩
        · exact absurd hlt ka
    · have Hr := Lib.hid (addB_all hA hB (fun i hi => hs i (by have := Hmx.out; omega)))
      have he : k = a.length := by omega
      rw [he, addF_full a b Hmx.out] at ho
      go_wp2
      go_ret2
      rw [Hr.out]
      exact ⟨_, rfl, ho.any, hb1⟩
set_option maxHeartbeats 4000000 in
theorem refAdd_y (S S' : Nat → Prop) (A B : Option Addr) (ca cb : Nat) (a b : List Int) (w : World) (ha : Rd intT w S A ca a) (hb : Rd intT w S' B cb b) (hA : rightB a = true) (hB : rightB b = true) (hL : a.length < b.length) :
    Calls Try.prog 48 #[.slice A a.length ca, .slice B b.length cb] w fun e w' => ∃ v, e = .returned (.tuple #[v, .bool (addB a b).2]) ∧ Own intT 3 w' w.heap.size (Ge w.heap.size) v (addB a b).1 ∧ Bel w w' := by
  have la := right_len hA
  have lb := right_len hB
  have hmx : b.length = max a.length b.length := by omega
  have Hmx := Lib.hid hmx
  clear hmx
  go_enter Try.func48, Try.ntmps48
  go_wp2_with fail
  refine (refRight_c _ _ _ _ _ ha _ rfl).mono ?_
  rintro e w' ⟨rfl, rfl⟩
  go_wp2_with fail
  refine (refRight_c _ _ _ _ _ hb _ rfl).mono ?_
  rintro e w' ⟨rfl, rfl⟩
  go_wp2_with (at_make; refine wp_make (enc := Value.int .i64) (fun _ => rfl) (0 : Int) (w0 := w) 23 3 8 rfl _ _ rfl Try.underlying23 info_int rfl b.length _ _ rfl rfl rfl rfl (Bel.refl _) (by omega) (by unfold maxLen; omega) ?_; intro w1 ho hb1 hb2 hsz)
  clear hb2 hsz
  rw [← addF_zero b.length a b] at ho
  go_loopw [4, 5, 28] (fun v4 v5 v28 wr => ∃ k : Nat, k ≤ b.length ∧ v28 = .int .i64 k ∧ Own (scalar (Value.int .i64) (fun _ => rfl)) 3 wr w.heap.size All (.slice (some ⟨w.heap.size, 0, none⟩) b.length b.length) (addF b.length a b k) ∧ Hid (∀ i, i < k → a.getD i 0 + b.getD i 0 ≤ far) ∧ Bel w wr) (fun _ _ v28 _ => b.length - (intOf v28).toNat)
  case atStart => exact ⟨0, Nat.zero_le _, rfl, ho, fun i hi => absurd hi (by omega), hb1⟩
  case round =>
    clear ho hb1
    obtain ⟨k, hk, rfl, ho, hs, hb1⟩ := hrel
    by_cases hlt : k < b.length
    · obtain ⟨hc1, hf1⟩ := ho.cell (i := k) (by rw [addF_len]; exact hlt)
      have Hst := Lib.hid (addF_step a b hlt)
      obtain ⟨x, hx⟩ : ∃ x, a.getD k 0 = x := ⟨_, rfl⟩
      obtain ⟨y, hy⟩ : ∃ y, b.getD k 0 = y := ⟨_, rfl⟩
      have xr := right_getD hA k
      have yr := right_getD hB k
      rw [hx] at xr Hst
      rw [hy] at yr Hst
      have Hx := Lib.hid hx
      have Hy := Lib.hid hy
      have xr1 : x ≤ 1152921504606846976 := xr.2
      have yr1 : y ≤ 1152921504606846976 := yr.2
      have Xa := Lib.hid xr
      have Xb := Lib.hid yr
      clear hx hy xr yr
      have main : (∃ n ok, addN x y = (n, ok) ∧ ((ok = true ∧ n = x + y ∧ x + y ≤ far) ∨ (ok = false ∧ addB a b = ([], false)))) := by
        by_cases hsum : x + y ≤ 1152921504606846976
        · exact ⟨x + y, true, addN_sum Xa.out Xb.out hsum, .inl ⟨rfl, rfl, hsum⟩⟩
        · exact ⟨0, false, addN_over hsum, .inr ⟨rfl, addB_no (i := k) (by rw [Hx.out, Hy.out]; unfold far; omega)⟩⟩
      obtain ⟨n, ok, hn, hcase⟩ := main
      have Hn := Lib.hid hn
      clear hn
      have hcell : (k < a.length → ∃ ad, A = some ad ∧ wr.cell? (ad.add k) = some (.int .i64 x)) ∧ (k < b.length → ∃ bd, B = some bd ∧ wr.cell? (bd.add k) = some (.int .i64 y)) ∧ (¬ k < a.length → x = 0) ∧ (¬ k < b.length → y = 0) := by
        refine ⟨fun h => ?_, fun h => ?_, fun h => ?_, fun h => ?_⟩
        · obtain ⟨ad, h1, h2⟩ := (ha.to hb1).int h
          exact ⟨ad, h1, by rw [h2, ← Hx.out, getD_of h]⟩
        · obtain ⟨ad, h1, h2⟩ := (hb.to hb1).int h
          exact ⟨ad, h1, by rw [h2, ← Hy.out, getD_of h]⟩
        · rw [← Hx.out, getD_out (by omega)]
        · rw [← Hy.out, getD_out (by omega)]
      obtain ⟨q1, q2, q3, q4⟩ := hcell
      have ho2 := Own.set ho k n
      have hfin : ok = true → Own (scalar (Value.int .i64) (fun _ => rfl)) 3 (wr.setCell ⟨w.heap.size, k, none⟩ (.int .i64 n)) w.heap.size All (.slice (some ⟨w.heap.size, 0, none⟩) b.length b.length) (addF b.length a b (k + 1)) ∧ Hid (∀ i, i < k + 1 → a.getD i 0 + b.getD i 0 ≤ far) := by
        intro he
        rcases hcase with ⟨_, h1, h2⟩ | ⟨h1, _⟩
        · rw [h1] at ho2 ⊢
          rw [Hst.out] at ho2
          refine ⟨ho2, fun i hi => ?_⟩
          by_cases hik : i < k
          · exact hs i hik
          · obtain rfl : i = k := by omega
            rw [Hx.out, Hy.out]; exact h2
        · rw [h1] at he; cases he
      have hbad : ok = false → addB a b = ([], false) := by
        intro he
        rcases hcase with ⟨h1, _⟩ | ⟨_, h1⟩
        · rw [h1] at he; cases he
        · exact h1
      clear hcase ho2
      cases ok with
      | true =>
        obtain ⟨h1, h2⟩ := hfin rfl
        have H1 := Lib.hid h1
        clear hfin hbad h1
        by_cases ka : k < a.length
        · obtain ⟨ad, rfl, hca⟩ := q1 ka
          by_cases kb : k < b.length
          · obtain ⟨bd, rfl, hcb⟩ := q2 kb
            clear q1 q2 q3 q4
            go_wp2_with (go_at_call 63; refine (refAdd_c_to _ _ _ _ Hn.out _).mono ?_; rintro e w' ⟨rfl, rfl⟩)
            go_roundw
            case rel => exact ⟨k + 1, by omega, by go_num, H1.out, h2, hb1.set (Nat.le_refl _) _⟩
            case measure => simp [intOf]; omega
          · exact absurd hlt kb
        · have Hx0 := q3 ka
          have kb : k < b.length := by have := Hmx.out; omega
          obtain ⟨bd, rfl, hcb⟩ := q2 kb
          clear q1 q2 q3 q4
          subst Hx0
          go_wp2_with (go_at_call 63; refine (refAdd_c_to _ _ _ _ Hn.out _).mono ?_; rintro e w' ⟨rfl, rfl⟩)
          go_roundw
          case rel => exact ⟨k + 1, by omega, by go_num, H1.out, h2, hb1.set (Nat.le_refl _) _⟩
          case measure => simp [intOf]; omega
      | false =>
        have Hb := Lib.hid (hbad rfl)
        clear hfin hbad
        by_cases ka : k < a.length
        · obtain ⟨ad, rfl, hca⟩ := q1 ka
          by_cases kb : k < b.length
          · obtain ⟨bd, rfl, hcb⟩ := q2 kb
            clear q1 q2 q3 q4
            go_wp2_with (go_at_call 63; refine (refAdd_c_to _ _ _ _ Hn.out _).mono ?_; rintro e w' ⟨rfl, rfl⟩)
            go_ret2
            rw [Hb.out]
            exact ⟨_, rfl, Own.nil _ _ _ _ _, hb1⟩
          · exact absurd hlt kb
        · have Hx0 := q3 ka
          have kb : k < b.length := by have := Hmx.out; omega
          obtain ⟨bd, rfl, hcb⟩ := q2 kb
          clear q1 q2 q3 q4
          subst Hx0
          go_wp2_with (go_at_call 63; refine (refAdd_c_to _ _ _ _ Hn.out _).mono ?_; rintro e w' ⟨rfl, rfl⟩)
          go_ret2
          rw [Hb.out]
          exact ⟨_, rfl, Own.nil _ _ _ _ _, hb1⟩
    · have Hr := Lib.hid (addB_all hA hB (fun i hi => hs i (by have := Hmx.out; omega)))
      have he : k = b.length := by omega
      rw [he, addF_full a b Hmx.out] at ho
      go_wp2
      go_ret2
      rw [Hr.out]
      exact ⟨_, rfl, ho.any, hb1⟩
theorem refAddBag_c (S S' : Nat → Prop) (A B : Option Addr) (ca cb : Nat) (a b : List Int) (w : World) (ha : Rd intT w S A ca a) (hb : Rd intT w S' B cb b) (n m : Nat) (hn : n = a.length) (hm : m = b.length) :
    Calls Try.prog 48 #[.slice A n ca, .slice B m cb] w fun e w' => ∃ v, e = .returned (.tuple #[v, .bool (addB a b).2]) ∧ Own intT 3 w' w.heap.size (Ge w.heap.size) v (addB a b).1 ∧ Bel w w' := by
  subst hn hm
  by_cases hR : rightB a = true ∧ rightB b = true
  · by_cases hL : a.length < b.length
    · exact refAdd_y S S' A B ca cb a b w ha hb hR.1 hR.2 hL
    · exact refAdd_x S S' A B ca cb a b w ha hb hR.1 hR.2 (by omega)
  · refine (refAdd_bad S S' A B ca cb a b w ha hb ?_).mono ?_
    · cases h1 : rightB a with
      | false => exact .inl rfl
      | true =>
        cases h2 : rightB b with
        | false => exact .inr rfl
        | true => exact absurd ⟨h1, h2⟩ hR
    · rintro e w' ⟨rfl, hr, rfl⟩
      rw [hr]
      exact ⟨_, rfl, Own.nil _ _ _ _ _, Bel.refl _⟩
end Go.Proofs.Ytghdleofbkalbaa
