/- Walks: the words that the statements make; the document's sums, differences, order. -/
import Derived.Test.YtpkofpnfnpicmaaBag6
import Derived.Test.YtpkofpnfnpicmaaLib2
namespace Go.Proofs.Ytpkofpnfnpicmaa
open Go.RowKit Go.Cb

set_option maxHeartbeats 4000000 in
theorem playBag_c (S : Nat → Prop) (A : Option Addr) (c : Nat) (l : List Int) (w : World) (h : Rd intT w S A c l) (hr : ∀ x ∈ l, -9223372036854775808 ≤ x ∧ x ≤ 9223372036854775807) (n : Nat) (hn : n = l.length) :
    Calls Try.prog 31 #[.slice A n c] w fun e w' => ∃ v, e = .returned v ∧ Own intT 3 w' w.heap.size (Ge w.heap.size) v (playBag l) ∧ Bel w w' := by
  subst hn
  have hl := h.lenMax
  go_enter Try.func31, Try.ntmps31
  go_wp2_with (at_make; refine wp_make (enc := Value.int .i64) (fun _ => rfl) (0 : Int) (w0 := w) 23 3 8 rfl _ _ rfl Try.underlying23 info_int rfl 4 _ _ rfl rfl rfl rfl (Bel.refl _) (by omega) (by simp [maxLen]) ?_; intro w1 ho hb hb2 hsz)
  rw [← playF_zero l] at ho
  clear hb2 hsz
  go_wp2
  go_loopw [9] (fun v9 wr => ∃ k : Nat, k ≤ 4 ∧ v9 = .int .i64 k ∧ Own (scalar (Value.int .i64) (fun _ => rfl)) 3 wr w.heap.size All (.slice (some ⟨w.heap.size, 0, none⟩) 4 4) (playF l k) ∧ Bel w wr) (fun v9 _ => 4 - (intOf v9).toNat)
  case atStart => exact ⟨0, Nat.zero_le _, rfl, ho, hb⟩
  case round =>
    clear ho hb
    obtain ⟨k, hk, rfl, ho, hb⟩ := hrel
    by_cases hlt : k < 4
    · obtain ⟨hc1, hf1⟩ := ho.cell (i := k) (by rw [playF_len]; exact hlt)
      have hx : -9223372036854775808 ≤ l.getD k 0 ∧ l.getD k 0 ≤ 9223372036854775807 := by
        by_cases hkl : k < l.length
        · rw [getD_of hkl]; exact hr _ (List.getElem_mem hkl)
        · rw [getD_out (by omega)]; omega
      have Hst := Lib.hid (playF_step l hlt)
      obtain ⟨x, hxe⟩ : ∃ x, l.getD k 0 = x := ⟨_, rfl⟩
      rw [hxe] at hx Hst
      have Hxe := Lib.hid hxe
      clear hxe
      obtain ⟨hx0, hx1⟩ := hx
      go_wp2_with (go_at_call 52; refine (playAt_c S A c l k _ (h.to hb) _ rfl _ rfl).mono ?_; rw [Hxe.out]; rintro e w' ⟨rfl, rfl⟩)
      by_cases hpos : 0 ≤ x ∧ x % 11 = 10
      · have Hp := Lib.hid (show playN x = withinI x 40 from by unfold playN; rw [if_pos hpos])
        obtain ⟨p0, p1⟩ := hpos
        have p2 : (x % 11 == 10) = true := by rw [beq_iff_eq]; exact p1
        clear p1
        go_wp2_with fail
        refine (within_c x 4 _ (by omega)).mono ?_
        rintro e w' ⟨rfl, rfl⟩
        have ho2 := Own.set ho k (withinI x 4)
        obtain ⟨hc2, hf2⟩ := ho2.cell (i := k) (by rw [List.length_set, playF_len]; exact hlt)
        go_wp2_with fail
        refine (within_c x 40 _ (by omega)).mono ?_
        rintro e w' ⟨rfl, rfl⟩
        have ho3 := Own.set ho2 k (withinI x 40)
        rw [List.set_set, ← Hp.out, Hst.out] at ho3
        go_wp2
        go_roundw
        case rel => exact ⟨k + 1, by omega, by go_num, by rw [← Hp.out]; exact ho3, (hb.set (Nat.le_refl _) _).set (Nat.le_refl _) _⟩
        case measure => simp [intOf]; omega
      · have Hp := Lib.hid (show playN x = withinI x 4 from by unfold playN; rw [if_neg hpos])
        have ho2 := Own.set ho k (withinI x 4)
        rw [← Hp.out, Hst.out] at ho2
        by_cases p0 : 0 ≤ x
        · have p2 : (x % 11 == 10) = false := by rw [beq_eq_false_iff_ne]; exact fun e => hpos ⟨p0, e⟩
          clear hpos
          go_wp2_with (go_at_call 53; refine (within_c x 4 _ (by omega)).mono ?_; rintro e w' ⟨rfl, rfl⟩)
          go_roundw
          case rel => exact ⟨k + 1, by omega, by go_num, by rw [← Hp.out]; exact ho2, hb.set (Nat.le_refl _) _⟩
          case measure => simp [intOf]; omega
        · have p1 : x.tmod 11 ≤ 0 := (withinI_neg (v := x) (n := 11) (by omega) (by omega)).1
          have p2 : (x.tmod 11 == 10) = false := by rw [beq_eq_false_iff_ne]; omega
          clear hpos p1
          go_wp2_with (go_at_call 53; refine (within_c x 4 _ (by omega)).mono ?_; rintro e w' ⟨rfl, rfl⟩)
          go_roundw
          case rel => exact ⟨k + 1, by omega, by go_num, by rw [← Hp.out]; exact ho2, hb.set (Nat.le_refl _) _⟩
          case measure => simp [intOf]; omega
    · obtain rfl : k = 4 := by omega
      obtain ⟨A2, c2, he, hr2⟩ := ho.rd
      rw [playF_len] at he
      have h1 : A2 = some ⟨w.heap.size, 0, none⟩ := by injection he with he; exact he.symm
      have h2 : c2 = 4 := by injection he with _ _ he; exact he.symm
      subst h1 h2
      clear he
      have Hp := Lib.hid (playF_four l)
      go_wp2_with (go_at_call 35; refine (refNorm_c _ _ _ _ _ hr2 _ (playF_len l 4).symm (by rw [playF_len]; omega)).mono ?_; rintro e w' ⟨v, rfl, hv, hbv⟩)
      go_ret
      refine ⟨_, rfl, ?_, hb.trans hbv⟩
      unfold playBag
      rw [← Hp.out]
      exact (hv.lower hb.size).any

set_option maxHeartbeats 2000000 in
theorem refCompareQ_c (S S' : Nat → Prop) (A B : Option Addr) (ca cb : Nat) (a b : List Int) (w : World) (ha : Rd intT w S A ca a) (hb : Rd intT w S' B cb b) (n m : Nat) (hn : n = a.length) (hm : m = b.length) :
    Calls Try.prog 48 #[.slice A n ca, .slice B m cb] w fun e w' => e = .returned (.int .i64 (cmpB a b)) ∧ Dr w w' := by
  subst hn hm
  have la := ha.lenMax
  have lb := hb.lenMax
  cases hA : rightB a with
  | false =>
    have Hn := Lib.hid (show cmpB a b = 0 from by unfold cmpB; rw [if_neg (by simp [hA])])
    go_enter Try.func48, Try.ntmps48
    go_wp2_with fail
    refine (refRight_c _ _ _ _ _ ha _ rfl).mono ?_
    rintro e w' ⟨rfl, rfl⟩
    go_wp2_with fail
    go_ret
    exact ⟨by rw [Hn.out]; rfl, Dr.refl _⟩
  | true =>
    cases hB : rightB b with
    | false =>
      have Hn := Lib.hid (show cmpB a b = 0 from by unfold cmpB; rw [if_neg (by simp [hB])])
      go_enter Try.func48, Try.ntmps48
      go_wp2_with fail
      refine (refRight_c _ _ _ _ _ ha _ rfl).mono ?_
      rintro e w' ⟨rfl, rfl⟩
      go_wp2_with fail
      refine (refRight_c _ _ _ _ _ hb _ rfl).mono ?_
      rintro e w' ⟨rfl, rfl⟩
      go_wp2_with fail
      go_ret
      exact ⟨by rw [Hn.out]; rfl, Dr.refl _⟩
    | true =>
      by_cases hl : a.length = b.length
      · have Hn := Lib.hid (show cmpB a b = cmpL a b from by unfold cmpB; rw [if_pos ⟨hA, hB⟩, if_pos hl])
        have d : (a.length == b.length) = true := by simpa using hl
        have d2 : ((a.length : Int) != (b.length : Int)) = false := by simp; omega
        have Hl := Lib.hid hl
        clear hl
        go_enter Try.func48, Try.ntmps48
        go_wp2_with fail
        refine (refRight_c _ _ _ _ _ ha _ rfl).mono ?_
        rintro e w' ⟨rfl, rfl⟩
        go_wp2_with fail
        refine (refRight_c _ _ _ _ _ hb _ rfl).mono ?_
        rintro e w' ⟨rfl, rfl⟩
        go_wp2_with fail
        clear hA hB
        go_loopw [26] (fun v wr => ∃ k : Nat, k ≤ a.length ∧ v = .int .i64 k ∧ Hid (∀ i, i < k → a.getD i 0 = b.getD i 0) ∧ Dr w wr) (fun v _ => a.length - (intOf v).toNat)
        case atStart => exact ⟨0, Nat.zero_le _, rfl, fun i hi => absurd hi (by omega), Dr.refl _⟩
        case round =>
          obtain ⟨k, hk, rfl, hp, hbl⟩ := hrel
          by_cases hlt : k < a.length
          · have hltb : k < b.length := by rw [← Hl.out]; exact hlt
            obtain ⟨ad, rfl, hca⟩ := (ha.to hbl.bel).int hlt
            obtain ⟨bd, rfl, hcb⟩ := (hb.to hbl.bel).int hltb
            by_cases h1 : a[k] < b[k]
            · have Hr := Lib.hid ((cmpL_at hlt hltb hp (by omega)).trans (cmpI_lt h1))
              go_wp2
              go_quiet (fail)
              go_wp2
              go_ret
              exact ⟨by rw [Hn.out, Hr.out]; rfl, hbl.drewN _⟩
            · by_cases h2 : b[k] < a[k]
              · have Hr := Lib.hid ((cmpL_at hlt hltb hp (by omega)).trans (cmpI_gt h2))
                go_wp2
                go_quiet (fail)
                go_wp2
                go_quiet (fail)
                go_wp2
                go_ret
                exact ⟨by rw [Hn.out, Hr.out]; rfl, (hbl.drewN _).drewN _⟩
              · have Hs := Lib.hid (agree_snoc hlt hltb hp (by omega))
                go_wp2
                go_quiet (fail)
                go_wp2
                go_quiet (fail)
                go_wp2
                go_roundw
                case rel => exact ⟨k + 1, by omega, by go_num, Hs.out, hbl.drewN _⟩
                case measure => simp [intOf]; omega
          · have Hr := Lib.hid (cmpL_same Hl.out (fun i hi => hp i (by omega)))
            go_wp2
            go_ret
            exact ⟨by rw [Hn.out, Hr.out]; rfl, hbl⟩
      · have d : (a.length == b.length) = false := by simpa using hl
        by_cases h1 : a.length < b.length
        · have Hn := Lib.hid (show cmpB a b = -1 from by unfold cmpB; rw [if_pos ⟨hA, hB⟩, if_neg hl, cmpI_lt (by omega)])
          clear hl
          go_enter Try.func48, Try.ntmps48
          go_wp2_with fail
          refine (refRight_c _ _ _ _ _ ha _ rfl).mono ?_
          rintro e w' ⟨rfl, rfl⟩
          go_wp2_with fail
          refine (refRight_c _ _ _ _ _ hb _ rfl).mono ?_
          rintro e w' ⟨rfl, rfl⟩
          go_wp2_with fail
          go_ret
          exact ⟨by rw [Hn.out]; rfl, Dr.refl _⟩
        · have Hn := Lib.hid (show cmpB a b = 1 from by unfold cmpB; rw [if_pos ⟨hA, hB⟩, if_neg hl, cmpI_gt (by omega)])
          clear hl
          go_enter Try.func48, Try.ntmps48
          go_wp2_with fail
          refine (refRight_c _ _ _ _ _ ha _ rfl).mono ?_
          rintro e w' ⟨rfl, rfl⟩
          go_wp2_with fail
          refine (refRight_c _ _ _ _ _ hb _ rfl).mono ?_
          rintro e w' ⟨rfl, rfl⟩
          go_wp2_with fail
          go_ret
          exact ⟨by rw [Hn.out]; rfl, Dr.refl _⟩
theorem refCompare_c (S S' : Nat → Prop) (A B : Option Addr) (ca cb : Nat) (a b : List Int) (w : World) (ha : Rd intT w S A ca a) (hb : Rd intT w S' B cb b) (n m : Nat) (hn : n = a.length) (hm : m = b.length) :
    Calls Try.prog 48 #[.slice A n ca, .slice B m cb] w fun e w' => e = .returned (.int .i64 (cmpB a b)) ∧ Bel w w' :=
  (refCompareQ_c S S' A B ca cb a b w ha hb n m hn hm).mono fun _ _ ⟨h1, h2⟩ => ⟨h1, h2.bel⟩

set_option maxHeartbeats 2000000 in
theorem bagSub_bad (S S' : Nat → Prop) (A B : Option Addr) (ca cb : Nat) (a b : List Int) (w : World) (ha : Rd intT w S A ca a) (hb : Rd intT w S' B cb b) (hR : rightB a = false ∨ rightB b = false ∨ a.length < b.length) :
    Calls Try.prog 39 #[.slice A a.length ca, .slice B b.length cb] w fun e w' => e = .returned (.tuple #[.slice none 0 0, .bool false]) ∧ subB a b = ([], false) ∧ w = w' := by
  have Hn := Lib.hid (show subB a b = ([], false) from by
    unfold subB
    rw [if_neg]
    rintro ⟨h1, h2, h3⟩
    have := ((leP_iff a b).1 h3).1
    rcases hR with h | h | h
    · rw [h1] at h; cases h
    · rw [h2] at h; cases h
    · omega)
  cases hA : rightB a with
  | false =>
    go_enter Try.func39, Try.ntmps39
    go_wp2_with fail
    refine (right_c _ _ _ _ _ ha _ rfl).mono ?_
    rintro e w' ⟨rfl, rfl⟩
    go_wp2_with fail
    go_ret2
    exact ⟨rfl, Hn.out, rfl⟩
  | true =>
    cases hB : rightB b with
    | false =>
      go_enter Try.func39, Try.ntmps39
      go_wp2_with fail
      refine (right_c _ _ _ _ _ ha _ rfl).mono ?_
      rintro e w' ⟨rfl, rfl⟩
      go_wp2_with fail
      refine (right_c _ _ _ _ _ hb _ rfl).mono ?_
      rintro e w' ⟨rfl, rfl⟩
      go_wp2_with fail
      go_ret2
      exact ⟨rfl, Hn.out, rfl⟩
    | true =>
      have hl : a.length < b.length := by
        rcases hR with h | h | h
        · rw [hA] at h; cases h
        · rw [hB] at h; cases h
        · exact h
      go_enter Try.func39, Try.ntmps39
      go_wp2_with fail
      refine (right_c _ _ _ _ _ ha _ rfl).mono ?_
      rintro e w' ⟨rfl, rfl⟩
      go_wp2_with fail
      refine (right_c _ _ _ _ _ hb _ rfl).mono ?_
      rintro e w' ⟨rfl, rfl⟩
      go_wp2_with fail
      go_ret2
      exact ⟨rfl, Hn.out, rfl⟩
set_option maxHeartbeats 2000000 in
theorem bagSub_good (S S' : Nat → Prop) (A B : Option Addr) (ca cb : Nat) (a b : List Int) (w : World) (ha : Rd intT w S A ca a) (hb : Rd intT w S' B cb b) (hA : rightB a = true) (hB : rightB b = true) (hL : b.length ≤ a.length) :
    Calls Try.prog 39 #[.slice A a.length ca, .slice B b.length cb] w fun e w' => ∃ v, e = .returned (.tuple #[v, .bool (subB a b).2]) ∧ Own intT 3 w' w.heap.size (Ge w.heap.size) v (subB a b).1 ∧ Bel w w' := by
  have la := right_len hA
  have lb := right_len hB
  go_enter Try.func39, Try.ntmps39
  go_wp2_with fail
  refine (right_c _ _ _ _ _ ha _ rfl).mono ?_
  rintro e w' ⟨rfl, rfl⟩
  go_wp2_with fail
  refine (right_c _ _ _ _ _ hb _ rfl).mono ?_
  rintro e w' ⟨rfl, rfl⟩
  go_wp2_with fail
  refine (clone_c S _ _ _ _ ha _ rfl (by omega)).mono ?_
  rintro e w1 ⟨v, rfl, ho, hb1⟩
  obtain ⟨A1, c1, rfl⟩ := ho.form
  go_wp2_with fail
  go_loopw [4, 5, 27] (fun vs v5 vk wr => ∃ (k : Nat), k ≤ b.length ∧ vk = .int .i64 k ∧ vs = .slice A1 a.length c1 ∧ Own intT 3 wr w.heap.size (Ge w.heap.size) (.slice A1 a.length c1) (subP a (b.take k)) ∧ Hid (∀ i, i < k → b.getD i 0 ≤ a.getD i 0) ∧ Bel w wr) (fun _ _ vk _ => b.length - (intOf vk).toNat)
  case atStart => exact ⟨0, Nat.zero_le _, rfl, rfl, by rw [List.take_zero, subP_nil]; exact ho, fun i hi => absurd hi (by omega), hb1⟩
  case round =>
    clear ho hb1
    obtain ⟨k, hk, rfl, rfl, ho, hs, hb1⟩ := hrel
    by_cases hlt : k < b.length
    · have hka : k < a.length := by omega
      have hol : k < (subP a (b.take k)).length := by rw [subP_length _ _ (by rw [List.length_take]; omega)]; omega
      obtain ⟨g, rfl, hg, _⟩ := ho.addr (by omega)
      obtain ⟨hc1, hf1⟩ := ho.cell hol
      rw [subP_at hka hlt hL hol] at hc1
      obtain ⟨ad, hA1, hca⟩ := (ha.to hb1).int hka
      obtain ⟨bd, hB1, hcb⟩ := (hb.to hb1).int hlt
      subst hA1 hB1
      obtain ⟨xa, xa2⟩ := right_ok hA a[k] (List.getElem_mem hka)
      obtain ⟨xb, xb2⟩ := right_ok hB b[k] (List.getElem_mem hlt)
      by_cases hle : b[k] ≤ a[k]
      · have Hle := Lib.hid hle
        have ho2 := Own.set ho k (a[k] - b[k])
        rw [← subP_step hlt hL] at ho2
        have hxx : a[k] ≤ 1152921504606846976 := xa2
        go_wp2
        go_roundw
        case rel =>
          refine ⟨k + 1, by omega, by go_num, rfl, ho2, ?_, hb1.set hg _⟩
          intro i hi
          by_cases hik : i < k
          · exact hs i hik
          · obtain rfl : i = k := by omega
            rw [getD_of hka, getD_of hlt]
            exact Hle.out
        case measure => simp [intOf]; omega
      · have Hr := Lib.hid (subB_no (a := a) (b := b) (by
          rw [← Bool.not_eq_true, leP_iff]
          rintro ⟨_, h3⟩
          have := h3 k hlt
          rw [getD_of hka, getD_of hlt] at this
          exact hle this))
        go_wp2
        go_ret2
        rw [Hr.out]
        exact ⟨_, rfl, Own.nil _ _ _ _ _, hb1⟩
    · have Hr := Lib.hid (subB_yes hA hB ((leP_iff a b).2 ⟨hL, fun i hi => hs i (by omega)⟩))
      rw [List.take_of_length_le (by omega)] at ho
      have hlen : (subP a b).length = a.length := subP_length a b hL
      obtain ⟨A2, c2, he, hr⟩ := ho.rd
      rw [hlen] at he
      have h1 : A1 = A2 := by injection he
      have h2 : c1 = c2 := by injection he
      subst h1 h2
      clear he
      have Hlen := Lib.hid hlen
      clear hlen
      go_wp2_with (go_at_call 59; refine (cut_c _ _ _ _ _ hr _ Hlen.out.symm (by rw [Hlen.out]; omega)).mono ?_; rintro e w3 ⟨v3, rfl, ho3, hb3⟩)
      go_ret2
      rw [Hr.out]
      exact ⟨_, rfl, (ho3.lower hb1.size).any, hb1.trans hb3⟩
theorem bagSub_c (S S' : Nat → Prop) (A B : Option Addr) (ca cb : Nat) (a b : List Int) (w : World) (ha : Rd intT w S A ca a) (hb : Rd intT w S' B cb b) (n m : Nat) (hn : n = a.length) (hm : m = b.length) :
    Calls Try.prog 39 #[.slice A n ca, .slice B m cb] w fun e w' => ∃ v, e = .returned (.tuple #[v, .bool (subB a b).2]) ∧ Own intT 3 w' w.heap.size (Ge w.heap.size) v (subB a b).1 ∧ Bel w w' := by
  subst hn hm
  by_cases hR : rightB a = true ∧ rightB b = true ∧ b.length ≤ a.length
  · exact bagSub_good S S' A B ca cb a b w ha hb hR.1 hR.2.1 hR.2.2
  · refine (bagSub_bad S S' A B ca cb a b w ha hb ?_).mono ?_
    · cases h1 : rightB a with
      | false => exact .inl rfl
      | true =>
        cases h2 : rightB b with
        | false => exact .inr (.inl rfl)
        | true => exact .inr (.inr (by rw [h1, h2] at hR; simp at hR; exact hR))
    · rintro e w' ⟨rfl, hr, rfl⟩
      rw [hr]
      exact ⟨_, rfl, Own.nil _ _ _ _ _, Bel.refl _⟩
set_option maxHeartbeats 2000000 in
theorem refSub_bad (S S' : Nat → Prop) (A B : Option Addr) (ca cb : Nat) (a b : List Int) (w : World) (ha : Rd intT w S A ca a) (hb : Rd intT w S' B cb b) (hR : rightB a = false ∨ rightB b = false ∨ a.length < b.length) :
    Calls Try.prog 45 #[.slice A a.length ca, .slice B b.length cb] w fun e w' => e = .returned (.tuple #[.slice none 0 0, .bool false]) ∧ subB a b = ([], false) ∧ w = w' := by
  have Hn := Lib.hid (show subB a b = ([], false) from by
    unfold subB
    rw [if_neg]
    rintro ⟨h1, h2, h3⟩
    have := ((leP_iff a b).1 h3).1
    rcases hR with h | h | h
    · rw [h1] at h; cases h
    · rw [h2] at h; cases h
    · omega)
  cases hA : rightB a with
  | false =>
    go_enter Try.func45, Try.ntmps45
    go_wp2_with fail
    refine (refRight_c _ _ _ _ _ ha _ rfl).mono ?_
    rintro e w' ⟨rfl, rfl⟩
    go_wp2_with fail
    go_ret2
    exact ⟨rfl, Hn.out, rfl⟩
  | true =>
    cases hB : rightB b with
    | false =>
      go_enter Try.func45, Try.ntmps45
      go_wp2_with fail
      refine (refRight_c _ _ _ _ _ ha _ rfl).mono ?_
      rintro e w' ⟨rfl, rfl⟩
      go_wp2_with fail
      refine (refRight_c _ _ _ _ _ hb _ rfl).mono ?_
      rintro e w' ⟨rfl, rfl⟩
      go_wp2_with fail
      go_ret2
      exact ⟨rfl, Hn.out, rfl⟩
    | true =>
      have hl : a.length < b.length := by
        rcases hR with h | h | h
        · rw [hA] at h; cases h
        · rw [hB] at h; cases h
        · exact h
      go_enter Try.func45, Try.ntmps45
      go_wp2_with fail
      refine (refRight_c _ _ _ _ _ ha _ rfl).mono ?_
      rintro e w' ⟨rfl, rfl⟩
      go_wp2_with fail
      refine (refRight_c _ _ _ _ _ hb _ rfl).mono ?_
      rintro e w' ⟨rfl, rfl⟩
      go_wp2_with fail
      go_ret2
      exact ⟨rfl, Hn.out, rfl⟩
set_option maxHeartbeats 2000000 in
theorem refSub_good (S S' : Nat → Prop) (A B : Option Addr) (ca cb : Nat) (a b : List Int) (w : World) (ha : Rd intT w S A ca a) (hb : Rd intT w S' B cb b) (hA : rightB a = true) (hB : rightB b = true) (hL : b.length ≤ a.length) :
    Calls Try.prog 45 #[.slice A a.length ca, .slice B b.length cb] w fun e w' => ∃ v, e = .returned (.tuple #[v, .bool (subB a b).2]) ∧ Own intT 3 w' w.heap.size (Ge w.heap.size) v (subB a b).1 ∧ Bel w w' := by
  have la := right_len hA
  have lb := right_len hB
  go_enter Try.func45, Try.ntmps45
  go_wp2_with fail
  refine (refRight_c _ _ _ _ _ ha _ rfl).mono ?_
  rintro e w' ⟨rfl, rfl⟩
  go_wp2_with fail
  refine (refRight_c _ _ _ _ _ hb _ rfl).mono ?_
  rintro e w' ⟨rfl, rfl⟩
  go_wp2_with (at_builtin; refine wp_append intT (w0 := w) 23 3 (.int .i64 0) 8 rfl _ _ rfl Try.underlying23 info_int rfl (Ge w.heap.size) S _ [] a A _ ca rfl rfl rfl (Own.nil _ _ _ _ _) ha (fun _ _ h => h) (Bel.refl _) (by simp [maxLen]; omega) (by simp; omega) ?_; rintro v w1 ho hb1 _ _)
  rw [List.nil_append] at ho
  obtain ⟨A1, c1, rfl⟩ := ho.form
  go_wp2_with fail
  go_loopw [4, 5, 28] (fun v4 v5 vk wr => ∃ (k : Nat), k ≤ b.length ∧ vk = .int .i64 k ∧ True ∧ Own intT 3 wr w.heap.size (Ge w.heap.size) (.slice A1 a.length c1) (subP a (b.take k)) ∧ Hid (∀ i, i < k → b.getD i 0 ≤ a.getD i 0) ∧ Bel w wr) (fun _ _ vk _ => b.length - (intOf vk).toNat)
  case atStart => exact ⟨0, Nat.zero_le _, rfl, trivial, by rw [List.take_zero, subP_nil]; exact ho, fun i hi => absurd hi (by omega), hb1⟩
  case round =>
    clear ho hb1
    obtain ⟨k, hk, rfl, -, ho, hs, hb1⟩ := hrel
    by_cases hlt : k < b.length
    · have hka : k < a.length := by omega
      have hol : k < (subP a (b.take k)).length := by rw [subP_length _ _ (by rw [List.length_take]; omega)]; omega
      obtain ⟨g, rfl, hg, _⟩ := ho.addr (by omega)
      obtain ⟨hc1, hf1⟩ := ho.cell hol
      rw [subP_at hka hlt hL hol] at hc1
      obtain ⟨ad, hA1, hca⟩ := (ha.to hb1).int hka
      obtain ⟨bd, hB1, hcb⟩ := (hb.to hb1).int hlt
      subst hA1 hB1
      obtain ⟨xa, xa2⟩ := right_ok hA a[k] (List.getElem_mem hka)
      obtain ⟨xb, xb2⟩ := right_ok hB b[k] (List.getElem_mem hlt)
      by_cases hle : b[k] ≤ a[k]
      · have Hle := Lib.hid hle
        have ho2 := Own.set ho k (a[k] - b[k])
        rw [← subP_step hlt hL] at ho2
        have hxx : a[k] ≤ 1152921504606846976 := xa2
        go_wp2
        go_roundw
        case rel =>
          refine ⟨k + 1, by omega, by go_num, trivial, ho2, ?_, hb1.set hg _⟩
          intro i hi
          by_cases hik : i < k
          · exact hs i hik
          · obtain rfl : i = k := by omega
            rw [getD_of hka, getD_of hlt]
            exact Hle.out
        case measure => simp [intOf]; omega
      · have Hr := Lib.hid (subB_no (a := a) (b := b) (by
          rw [← Bool.not_eq_true, leP_iff]
          rintro ⟨_, h3⟩
          have := h3 k hlt
          rw [getD_of hka, getD_of hlt] at this
          exact hle this))
        go_wp2
        go_ret2
        rw [Hr.out]
        exact ⟨_, rfl, Own.nil _ _ _ _ _, hb1⟩
    · have Hr := Lib.hid (subB_yes hA hB ((leP_iff a b).2 ⟨hL, fun i hi => hs i (by omega)⟩))
      rw [List.take_of_length_le (by omega)] at ho
      have hlen : (subP a b).length = a.length := subP_length a b hL
      obtain ⟨A2, c2, he, hr⟩ := ho.rd
      rw [hlen] at he
      have h1 : A1 = A2 := by injection he
      have h2 : c1 = c2 := by injection he
      subst h1 h2
      clear he
      have Hlen := Lib.hid hlen
      clear hlen
      go_wp2_with (go_at_call 35; refine (refNorm_c _ _ _ _ _ hr _ Hlen.out.symm (by rw [Hlen.out]; omega)).mono ?_; rintro e w3 ⟨v3, rfl, ho3, hb3⟩)
      go_ret2
      rw [Hr.out]
      exact ⟨_, rfl, by rw [← normB_sub hA hB hL (fun i hi => hs i (by omega))]; exact (ho3.lower hb1.size).any, hb1.trans hb3⟩
theorem refSub_c (S S' : Nat → Prop) (A B : Option Addr) (ca cb : Nat) (a b : List Int) (w : World) (ha : Rd intT w S A ca a) (hb : Rd intT w S' B cb b) (n m : Nat) (hn : n = a.length) (hm : m = b.length) :
    Calls Try.prog 45 #[.slice A n ca, .slice B m cb] w fun e w' => ∃ v, e = .returned (.tuple #[v, .bool (subB a b).2]) ∧ Own intT 3 w' w.heap.size (Ge w.heap.size) v (subB a b).1 ∧ Bel w w' := by
  subst hn hm
  by_cases hR : rightB a = true ∧ rightB b = true ∧ b.length ≤ a.length
  · exact refSub_good S S' A B ca cb a b w ha hb hR.1 hR.2.1 hR.2.2
  · refine (refSub_bad S S' A B ca cb a b w ha hb ?_).mono ?_
    · cases h1 : rightB a with
      | false => exact .inl rfl
      | true =>
        cases h2 : rightB b with
        | false => exact .inr (.inl rfl)
        | true => exact .inr (.inr (by rw [h1, h2] at hR; simp at hR; exact hR))
    · rintro e w' ⟨rfl, hr, rfl⟩
      rw [hr]
      exact ⟨_, rfl, Own.nil _ _ _ _ _, Bel.refl _⟩
end Go.Proofs.Ytpkofpnfnpicmaa
