/- MeterLaws: sums and products are alike both ways; what was spent is never more than the budget, and never less than it was: for all numbers and every row of spends. -/
import Derived.Test.YtpkofpnfnpicmaaMeter
import Derived.Test.YtpkofpnfnpicmaaRowLib
namespace Go.Proofs.Ytpkofpnfnpicmaa
open Go.RowKit Go.Cb
set_option maxHeartbeats 4000000 in
set_option maxRecDepth 100000 in
theorem meterLaws_truetruea (w : World) (a b m : Int) (hm0 : m < 0) (hm1 : m ≤ 9223372036854775807) (A : Option Addr) (c : Nat) (l : List Int) (h : Rd intT w All A c l)
    (n x : Int) (hn : addN a b = (n, true)) (hx : mulN a b = (x, true)) (hlo : true = true → a ≤ n ∧ b ≤ n ∧ n ≤ 1152921504606846976) (hlx : true = true → x ≤ 1152921504606846976) :
    Calls Try.prog 7 #[.int .i64 a, .int .i64 b, .int .i64 m, .slice A l.length c] w fun e w' => e = .returned (.bool true) ∧ Bel w w' := by
  have Hn := Lib.hid hn
  have Hn2 := Lib.hid ((addN_comm b a).trans hn)
  have Hx := Lib.hid hx
  have Hx2 := Lib.hid ((mulN_comm b a).trans hx)
  clear hn hx
  try obtain ⟨q1, q2, q3⟩ := hlo rfl
  try have q4 := hlx rfl
  clear hlo hlx
  have hl := h.lenMax
  go_enter Try.func7, Try.ntmps7
  go_wp2_with fail
  refine (add_c_to a b n true Hn.out _).mono ?_
  rintro e w' ⟨rfl, rfl⟩
  go_wp2_with fail
  refine (add_c_to b a n true Hn2.out _).mono ?_
  rintro e w' ⟨rfl, rfl⟩
  go_wp2_with fail
  refine (mul_c_to a b x true Hx.out _).mono ?_
  rintro e w' ⟨rfl, rfl⟩
  go_wp2_with fail
  refine (mul_c_to b a x true Hx2.out _).mono ?_
  rintro e w' ⟨rfl, rfl⟩
  go_wp2_with fail
  refine (newMeter_s1 _ _ (by omega)).mono ?_
  rintro e w1 ⟨g, rfl, hg, hm, hb⟩
  go_wp2_with fail
  rw [show max m 0 = (0 : Int) from by omega] at hm
  go_loopw [18, 96] (fun v18 v96 wr => ∃ (s : Int) (o : Bool) (k : Nat), k ≤ l.length ∧ v96 = .int .i64 k ∧ v18 = .int .i64 s ∧ 0 ≤ s ∧ s ≤ (0 : Int) ∧ Met wr 58 g (0 : Int) s o ∧ Bel w wr) (fun _ v96 _ => l.length - (intOf v96).toNat)
  case atStart => exact ⟨0, false, 0, Nat.zero_le _, rfl, rfl, by omega, by omega, hm, hb⟩
  case round =>
    clear hm hb
    obtain ⟨s, o, k, hk, rfl, rfl, s0, s1, hm, hb⟩ := hrel
    by_cases hlt : k < l.length
    · obtain ⟨ad, rfl, hc⟩ := (h.to hb).int hlt
      cases o with
      | true =>
        go_wp2_with fail
        refine (out_s1 g _ _ _ _ hm).mono ?_
        rintro e w' ⟨rfl, rfl⟩
        go_wp2_with fail
        refine (spendNo_s1 g _ _ _ _ _ hm s0 s1 (.inl rfl) (by omega)).mono ?_
        rintro e w2 ⟨rfl, hm, hu⟩
        replace hb := hb.upd hu hg
        clear hu
        go_wp2_with (first
          | (go_at_call 24; refine (spent_s1 g _ _ _ _ hm).mono ?_; rintro e w' ⟨rfl, rfl⟩)
          | (go_at_call 25; refine (out_s1 g _ _ _ _ hm).mono ?_; rintro e w' ⟨rfl, rfl⟩))
        go_roundw
        case rel => exact ⟨s, true, k + 1, by omega, by go_num, rfl, s0, s1, hm, hb⟩
        case measure => simp [intOf]; omega
      | false =>
        go_wp2_with fail
        refine (out_s1 g _ _ _ _ hm).mono ?_
        rintro e w' ⟨rfl, rfl⟩
        go_wp2_with fail
        by_cases hy : l[k] < 0
        · refine (spendNeg_s1 g _ _ _ _ hm s0 s1 hy (by omega)).mono ?_
          rintro e w2 ⟨rfl, hm, hu⟩
          replace hb := hb.upd hu hg
          clear hu
          go_wp2_with (first
            | (go_at_call 24; refine (spent_s1 g _ _ _ _ hm).mono ?_; rintro e w' ⟨rfl, rfl⟩)
            | (go_at_call 25; refine (out_s1 g _ _ _ _ hm).mono ?_; rintro e w' ⟨rfl, rfl⟩))
          go_roundw
          case rel => exact ⟨s, false, k + 1, by omega, by go_num, rfl, s0, s1, hm, hb⟩
          case measure => simp [intOf]; omega
        · by_cases hs : s + l[k] ≤ (0 : Int)
          · refine (spendYes_s1 g _ _ _ _ hm s0 (by omega) hs (by omega)).mono ?_
            rintro e w2 ⟨rfl, hm, hu⟩
            replace hb := hb.upd hu hg
            clear hu
            go_wp2_with (first
              | (go_at_call 24; refine (spent_s1 g _ _ _ _ hm).mono ?_; rintro e w' ⟨rfl, rfl⟩)
              | (go_at_call 25; refine (out_s1 g _ _ _ _ hm).mono ?_; rintro e w' ⟨rfl, rfl⟩))
            go_roundw
            case rel => exact ⟨s + l[k], false, k + 1, by omega, by go_num, rfl, by omega, hs, hm, hb⟩
            case measure => simp [intOf]; omega
          · refine (spendNo_s1 g _ _ _ _ _ hm s0 s1 (.inr (by omega)) (by omega)).mono ?_
            rintro e w2 ⟨rfl, hm, hu⟩
            replace hb := hb.upd hu hg
            clear hu
            go_wp2_with (first
              | (go_at_call 24; refine (spent_s1 g _ _ _ _ hm).mono ?_; rintro e w' ⟨rfl, rfl⟩)
              | (go_at_call 25; refine (out_s1 g _ _ _ _ hm).mono ?_; rintro e w' ⟨rfl, rfl⟩))
            go_roundw
            case rel => exact ⟨s, true, k + 1, by omega, by go_num, rfl, s0, s1, hm, hb⟩
            case measure => simp [intOf]; omega
    · go_wp2_with (go_at_call 26; refine (wakes01 _).mono ?_; rintro e w9 ⟨rfl, hb9⟩)
      go_ret
      exact ⟨rfl, hb.trans hb9⟩
set_option maxHeartbeats 4000000 in
set_option maxRecDepth 100000 in
theorem meterLaws_truefalsea (w : World) (a b m : Int) (hm0 : m < 0) (hm1 : m ≤ 9223372036854775807) (A : Option Addr) (c : Nat) (l : List Int) (h : Rd intT w All A c l)
    (n x : Int) (hn : addN a b = (n, true)) (hx : mulN a b = (x, false)) (hlo : true = true → a ≤ n ∧ b ≤ n ∧ n ≤ 1152921504606846976) (hlx : false = true → x ≤ 1152921504606846976) :
    Calls Try.prog 7 #[.int .i64 a, .int .i64 b, .int .i64 m, .slice A l.length c] w fun e w' => e = .returned (.bool true) ∧ Bel w w' := by
  have Hn := Lib.hid hn
  have Hn2 := Lib.hid ((addN_comm b a).trans hn)
  have Hx := Lib.hid hx
  have Hx2 := Lib.hid ((mulN_comm b a).trans hx)
  clear hn hx
  try obtain ⟨q1, q2, q3⟩ := hlo rfl
  try have q4 := hlx rfl
  clear hlo hlx
  have hl := h.lenMax
  go_enter Try.func7, Try.ntmps7
  go_wp2_with fail
  refine (add_c_to a b n true Hn.out _).mono ?_
  rintro e w' ⟨rfl, rfl⟩
  go_wp2_with fail
  refine (add_c_to b a n true Hn2.out _).mono ?_
  rintro e w' ⟨rfl, rfl⟩
  go_wp2_with fail
  refine (mul_c_to a b x false Hx.out _).mono ?_
  rintro e w' ⟨rfl, rfl⟩
  go_wp2_with fail
  refine (mul_c_to b a x false Hx2.out _).mono ?_
  rintro e w' ⟨rfl, rfl⟩
  go_wp2_with fail
  refine (newMeter_s1 _ _ (by omega)).mono ?_
  rintro e w1 ⟨g, rfl, hg, hm, hb⟩
  go_wp2_with fail
  rw [show max m 0 = (0 : Int) from by omega] at hm
  go_loopw [18, 96] (fun v18 v96 wr => ∃ (s : Int) (o : Bool) (k : Nat), k ≤ l.length ∧ v96 = .int .i64 k ∧ v18 = .int .i64 s ∧ 0 ≤ s ∧ s ≤ (0 : Int) ∧ Met wr 58 g (0 : Int) s o ∧ Bel w wr) (fun _ v96 _ => l.length - (intOf v96).toNat)
  case atStart => exact ⟨0, false, 0, Nat.zero_le _, rfl, rfl, by omega, by omega, hm, hb⟩
  case round =>
    clear hm hb
    obtain ⟨s, o, k, hk, rfl, rfl, s0, s1, hm, hb⟩ := hrel
    by_cases hlt : k < l.length
    · obtain ⟨ad, rfl, hc⟩ := (h.to hb).int hlt
      cases o with
      | true =>
        go_wp2_with fail
        refine (out_s1 g _ _ _ _ hm).mono ?_
        rintro e w' ⟨rfl, rfl⟩
        go_wp2_with fail
        refine (spendNo_s1 g _ _ _ _ _ hm s0 s1 (.inl rfl) (by omega)).mono ?_
        rintro e w2 ⟨rfl, hm, hu⟩
        replace hb := hb.upd hu hg
        clear hu
        go_wp2_with (first
          | (go_at_call 24; refine (spent_s1 g _ _ _ _ hm).mono ?_; rintro e w' ⟨rfl, rfl⟩)
          | (go_at_call 25; refine (out_s1 g _ _ _ _ hm).mono ?_; rintro e w' ⟨rfl, rfl⟩))
        go_roundw
        case rel => exact ⟨s, true, k + 1, by omega, by go_num, rfl, s0, s1, hm, hb⟩
        case measure => simp [intOf]; omega
      | false =>
        go_wp2_with fail
        refine (out_s1 g _ _ _ _ hm).mono ?_
        rintro e w' ⟨rfl, rfl⟩
        go_wp2_with fail
        by_cases hy : l[k] < 0
        · refine (spendNeg_s1 g _ _ _ _ hm s0 s1 hy (by omega)).mono ?_
          rintro e w2 ⟨rfl, hm, hu⟩
          replace hb := hb.upd hu hg
          clear hu
          go_wp2_with (first
            | (go_at_call 24; refine (spent_s1 g _ _ _ _ hm).mono ?_; rintro e w' ⟨rfl, rfl⟩)
            | (go_at_call 25; refine (out_s1 g _ _ _ _ hm).mono ?_; rintro e w' ⟨rfl, rfl⟩))
          go_roundw
          case rel => exact ⟨s, false, k + 1, by omega, by go_num, rfl, s0, s1, hm, hb⟩
          case measure => simp [intOf]; omega
        · by_cases hs : s + l[k] ≤ (0 : Int)
          · refine (spendYes_s1 g _ _ _ _ hm s0 (by omega) hs (by omega)).mono ?_
            rintro e w2 ⟨rfl, hm, hu⟩
            replace hb := hb.upd hu hg
            clear hu
            go_wp2_with (first
              | (go_at_call 24; refine (spent_s1 g _ _ _ _ hm).mono ?_; rintro e w' ⟨rfl, rfl⟩)
              | (go_at_call 25; refine (out_s1 g _ _ _ _ hm).mono ?_; rintro e w' ⟨rfl, rfl⟩))
            go_roundw
            case rel => exact ⟨s + l[k], false, k + 1, by omega, by go_num, rfl, by omega, hs, hm, hb⟩
            case measure => simp [intOf]; omega
          · refine (spendNo_s1 g _ _ _ _ _ hm s0 s1 (.inr (by omega)) (by omega)).mono ?_
            rintro e w2 ⟨rfl, hm, hu⟩
            replace hb := hb.upd hu hg
            clear hu
            go_wp2_with (first
              | (go_at_call 24; refine (spent_s1 g _ _ _ _ hm).mono ?_; rintro e w' ⟨rfl, rfl⟩)
              | (go_at_call 25; refine (out_s1 g _ _ _ _ hm).mono ?_; rintro e w' ⟨rfl, rfl⟩))
            go_roundw
            case rel => exact ⟨s, true, k + 1, by omega, by go_num, rfl, s0, s1, hm, hb⟩
            case measure => simp [intOf]; omega
    · go_wp2_with (go_at_call 26; refine (wakes01 _).mono ?_; rintro e w9 ⟨rfl, hb9⟩)
      go_ret
      exact ⟨rfl, hb.trans hb9⟩
set_option maxHeartbeats 4000000 in
set_option maxRecDepth 100000 in
theorem meterLaws_falsetruea (w : World) (a b m : Int) (hm0 : m < 0) (hm1 : m ≤ 9223372036854775807) (A : Option Addr) (c : Nat) (l : List Int) (h : Rd intT w All A c l)
    (n x : Int) (hn : addN a b = (n, false)) (hx : mulN a b = (x, true)) (hlo : false = true → a ≤ n ∧ b ≤ n ∧ n ≤ 1152921504606846976) (hlx : true = true → x ≤ 1152921504606846976) :
    Calls Try.prog 7 #[.int .i64 a, .int .i64 b, .int .i64 m, .slice A l.length c] w fun e w' => e = .returned (.bool true) ∧ Bel w w' := by
  have Hn := Lib.hid hn
  have Hn2 := Lib.hid ((addN_comm b a).trans hn)
  have Hx := Lib.hid hx
  have Hx2 := Lib.hid ((mulN_comm b a).trans hx)
  clear hn hx
  try obtain ⟨q1, q2, q3⟩ := hlo rfl
  try have q4 := hlx rfl
  clear hlo hlx
  have hl := h.lenMax
  go_enter Try.func7, Try.ntmps7
  go_wp2_with fail
  refine (add_c_to a b n false Hn.out _).mono ?_
  rintro e w' ⟨rfl, rfl⟩
  go_wp2_with fail
  refine (add_c_to b a n false Hn2.out _).mono ?_
  rintro e w' ⟨rfl, rfl⟩
  go_wp2_with fail
  refine (mul_c_to a b x true Hx.out _).mono ?_
  rintro e w' ⟨rfl, rfl⟩
  go_wp2_with fail
  refine (mul_c_to b a x true Hx2.out _).mono ?_
  rintro e w' ⟨rfl, rfl⟩
  go_wp2_with fail
  refine (newMeter_s1 _ _ (by omega)).mono ?_
  rintro e w1 ⟨g, rfl, hg, hm, hb⟩
  go_wp2_with fail
  rw [show max m 0 = (0 : Int) from by omega] at hm
  go_loopw [18, 96] (fun v18 v96 wr => ∃ (s : Int) (o : Bool) (k : Nat), k ≤ l.length ∧ v96 = .int .i64 k ∧ v18 = .int .i64 s ∧ 0 ≤ s ∧ s ≤ (0 : Int) ∧ Met wr 58 g (0 : Int) s o ∧ Bel w wr) (fun _ v96 _ => l.length - (intOf v96).toNat)
  case atStart => exact ⟨0, false, 0, Nat.zero_le _, rfl, rfl, by omega, by omega, hm, hb⟩
  case round =>
    clear hm hb
    obtain ⟨s, o, k, hk, rfl, rfl, s0, s1, hm, hb⟩ := hrel
    by_cases hlt : k < l.length
    · obtain ⟨ad, rfl, hc⟩ := (h.to hb).int hlt
      cases o with
      | true =>
        go_wp2_with fail
        refine (out_s1 g _ _ _ _ hm).mono ?_
        rintro e w' ⟨rfl, rfl⟩
        go_wp2_with fail
        refine (spendNo_s1 g _ _ _ _ _ hm s0 s1 (.inl rfl) (by omega)).mono ?_
        rintro e w2 ⟨rfl, hm, hu⟩
        replace hb := hb.upd hu hg
        clear hu
        go_wp2_with (first
          | (go_at_call 24; refine (spent_s1 g _ _ _ _ hm).mono ?_; rintro e w' ⟨rfl, rfl⟩)
          | (go_at_call 25; refine (out_s1 g _ _ _ _ hm).mono ?_; rintro e w' ⟨rfl, rfl⟩))
        go_roundw
        case rel => exact ⟨s, true, k + 1, by omega, by go_num, rfl, s0, s1, hm, hb⟩
        case measure => simp [intOf]; omega
      | false =>
        go_wp2_with fail
        refine (out_s1 g _ _ _ _ hm).mono ?_
        rintro e w' ⟨rfl, rfl⟩
        go_wp2_with fail
        by_cases hy : l[k] < 0
        · refine (spendNeg_s1 g _ _ _ _ hm s0 s1 hy (by omega)).mono ?_
          rintro e w2 ⟨rfl, hm, hu⟩
          replace hb := hb.upd hu hg
          clear hu
          go_wp2_with (first
            | (go_at_call 24; refine (spent_s1 g _ _ _ _ hm).mono ?_; rintro e w' ⟨rfl, rfl⟩)
            | (go_at_call 25; refine (out_s1 g _ _ _ _ hm).mono ?_; rintro e w' ⟨rfl, rfl⟩))
          go_roundw
          case rel => exact ⟨s, false, k + 1, by omega, by go_num, rfl, s0, s1, hm, hb⟩
          case measure => simp [intOf]; omega
        · by_cases hs : s + l[k] ≤ (0 : Int)
          · refine (spendYes_s1 g _ _ _ _ hm s0 (by omega) hs (by omega)).mono ?_
            rintro e w2 ⟨rfl, hm, hu⟩
            replace hb := hb.upd hu hg
            clear hu
            go_wp2_with (first
              | (go_at_call 24; refine (spent_s1 g _ _ _ _ hm).mono ?_; rintro e w' ⟨rfl, rfl⟩)
              | (go_at_call 25; refine (out_s1 g _ _ _ _ hm).mono ?_; rintro e w' ⟨rfl, rfl⟩))
            go_roundw
            case rel => exact ⟨s + l[k], false, k + 1, by omega, by go_num, rfl, by omega, hs, hm, hb⟩
            case measure => simp [intOf]; omega
          · refine (spendNo_s1 g _ _ _ _ _ hm s0 s1 (.inr (by omega)) (by omega)).mono ?_
            rintro e w2 ⟨rfl, hm, hu⟩
            replace hb := hb.upd hu hg
            clear hu
            go_wp2_with (first
              | (go_at_call 24; refine (spent_s1 g _ _ _ _ hm).mono ?_; rintro e w' ⟨rfl, rfl⟩)
              | (go_at_call 25; refine (out_s1 g _ _ _ _ hm).mono ?_; rintro e w' ⟨rfl, rfl⟩))
            go_roundw
            case rel => exact ⟨s, true, k + 1, by omega, by go_num, rfl, s0, s1, hm, hb⟩
            case measure => simp [intOf]; omega
    · go_wp2_with (go_at_call 26; refine (wakes01 _).mono ?_; rintro e w9 ⟨rfl, hb9⟩)
      go_ret
      exact ⟨rfl, hb.trans hb9⟩
set_option maxHeartbeats 4000000 in
set_option maxRecDepth 100000 in
theorem meterLaws_falsefalsea (w : World) (a b m : Int) (hm0 : m < 0) (hm1 : m ≤ 9223372036854775807) (A : Option Addr) (c : Nat) (l : List Int) (h : Rd intT w All A c l)
    (n x : Int) (hn : addN a b = (n, false)) (hx : mulN a b = (x, false)) (hlo : false = true → a ≤ n ∧ b ≤ n ∧ n ≤ 1152921504606846976) (hlx : false = true → x ≤ 1152921504606846976) :
    Calls Try.prog 7 #[.int .i64 a, .int .i64 b, .int .i64 m, .slice A l.length c] w fun e w' => e = .returned (.bool true) ∧ Bel w w' := by
  have Hn := Lib.hid hn
  have Hn2 := Lib.hid ((addN_comm b a).trans hn)
  have Hx := Lib.hid hx
  have Hx2 := Lib.hid ((mulN_comm b a).trans hx)
  clear hn hx
  try obtain ⟨q1, q2, q3⟩ := hlo rfl
  try have q4 := hlx rfl
  clear hlo hlx
  have hl := h.lenMax
  go_enter Try.func7, Try.ntmps7
  go_wp2_with fail
  refine (add_c_to a b n false Hn.out _).mono ?_
  rintro e w' ⟨rfl, rfl⟩
  go_wp2_with fail
  refine (add_c_to b a n false Hn2.out _).mono ?_
  rintro e w' ⟨rfl, rfl⟩
  go_wp2_with fail
  refine (mul_c_to a b x false Hx.out _).mono ?_
  rintro e w' ⟨rfl, rfl⟩
  go_wp2_with fail
  refine (mul_c_to b a x false Hx2.out _).mono ?_
  rintro e w' ⟨rfl, rfl⟩
  go_wp2_with fail
  refine (newMeter_s1 _ _ (by omega)).mono ?_
  rintro e w1 ⟨g, rfl, hg, hm, hb⟩
  go_wp2_with fail
  rw [show max m 0 = (0 : Int) from by omega] at hm
  go_loopw [18, 96] (fun v18 v96 wr => ∃ (s : Int) (o : Bool) (k : Nat), k ≤ l.length ∧ v96 = .int .i64 k ∧ v18 = .int .i64 s ∧ 0 ≤ s ∧ s ≤ (0 : Int) ∧ Met wr 58 g (0 : Int) s o ∧ Bel w wr) (fun _ v96 _ => l.length - (intOf v96).toNat)
  case atStart => exact ⟨0, false, 0, Nat.zero_le _, rfl, rfl, by omega, by omega, hm, hb⟩
  case round =>
    clear hm hb
    obtain ⟨s, o, k, hk, rfl, rfl, s0, s1, hm, hb⟩ := hrel
    by_cases hlt : k < l.length
    · obtain ⟨ad, rfl, hc⟩ := (h.to hb).int hlt
      cases o with
      | true =>
        go_wp2_with fail
        refine (out_s1 g _ _ _ _ hm).mono ?_
        rintro e w' ⟨rfl, rfl⟩
        go_wp2_with fail
        refine (spendNo_s1 g _ _ _ _ _ hm s0 s1 (.inl rfl) (by omega)).mono ?_
        rintro e w2 ⟨rfl, hm, hu⟩
        replace hb := hb.upd hu hg
        clear hu
        go_wp2_with (first
          | (go_at_call 24; refine (spent_s1 g _ _ _ _ hm).mono ?_; rintro e w' ⟨rfl, rfl⟩)
          | (go_at_call 25; refine (out_s1 g _ _ _ _ hm).mono ?_; rintro e w' ⟨rfl, rfl⟩))
        go_roundw
        case rel => exact ⟨s, true, k + 1, by omega, by go_num, rfl, s0, s1, hm, hb⟩
        case measure => simp [intOf]; omega
      | false =>
        go_wp2_with fail
        refine (out_s1 g _ _ _ _ hm).mono ?_
        rintro e w' ⟨rfl, rfl⟩
        go_wp2_with fail
        by_cases hy : l[k] < 0
        · refine (spendNeg_s1 g _ _ _ _ hm s0 s1 hy (by omega)).mono ?_
          rintro e w2 ⟨rfl, hm, hu⟩
          replace hb := hb.upd hu hg
          clear hu
          go_wp2_with (first
            | (go_at_call 24; refine (spent_s1 g _ _ _ _ hm).mono ?_; rintro e w' ⟨rfl, rfl⟩)
            | (go_at_call 25; refine (out_s1 g _ _ _ _ hm).mono ?_; rintro e w' ⟨rfl, rfl⟩))
          go_roundw
          case rel => exact ⟨s, false, k + 1, by omega, by go_num, rfl, s0, s1, hm, hb⟩
          case measure => simp [intOf]; omega
        · by_cases hs : s + l[k] ≤ (0 : Int)
          · refine (spendYes_s1 g _ _ _ _ hm s0 (by omega) hs (by omega)).mono ?_
            rintro e w2 ⟨rfl, hm, hu⟩
            replace hb := hb.upd hu hg
            clear hu
            go_wp2_with (first
              | (go_at_call 24; refine (spent_s1 g _ _ _ _ hm).mono ?_; rintro e w' ⟨rfl, rfl⟩)
              | (go_at_call 25; refine (out_s1 g _ _ _ _ hm).mono ?_; rintro e w' ⟨rfl, rfl⟩))
            go_roundw
            case rel => exact ⟨s + l[k], false, k + 1, by omega, by go_num, rfl, by omega, hs, hm, hb⟩
            case measure => simp [intOf]; omega
          · refine (spendNo_s1 g _ _ _ _ _ hm s0 s1 (.inr (by omega)) (by omega)).mono ?_
            rintro e w2 ⟨rfl, hm, hu⟩
            replace hb := hb.upd hu hg
            clear hu
            go_wp2_with (first
              | (go_at_call 24; refine (spent_s1 g _ _ _ _ hm).mono ?_; rintro e w' ⟨rfl, rfl⟩)
              | (go_at_call 25; refine (out_s1 g _ _ _ _ hm).mono ?_; rintro e w' ⟨rfl, rfl⟩))
            go_roundw
            case rel => exact ⟨s, true, k + 1, by omega, by go_num, rfl, s0, s1, hm, hb⟩
            case measure => simp [intOf]; omega
    · go_wp2_with (go_at_call 26; refine (wakes01 _).mono ?_; rintro e w9 ⟨rfl, hb9⟩)
      go_ret
      exact ⟨rfl, hb.trans hb9⟩
set_option maxHeartbeats 4000000 in
set_option maxRecDepth 100000 in
theorem meterLaws_truetrueb (w : World) (a b m : Int) (hm0 : 0 ≤ m) (hm1 : m ≤ 9223372036854775807) (A : Option Addr) (c : Nat) (l : List Int) (h : Rd intT w All A c l)
    (n x : Int) (hn : addN a b = (n, true)) (hx : mulN a b = (x, true)) (hlo : true = true → a ≤ n ∧ b ≤ n ∧ n ≤ 1152921504606846976) (hlx : true = true → x ≤ 1152921504606846976) :
    Calls Try.prog 7 #[.int .i64 a, .int .i64 b, .int .i64 m, .slice A l.length c] w fun e w' => e = .returned (.bool true) ∧ Bel w w' := by
  have Hn := Lib.hid hn
  have Hn2 := Lib.hid ((addN_comm b a).trans hn)
  have Hx := Lib.hid hx
  have Hx2 := Lib.hid ((mulN_comm b a).trans hx)
  clear hn hx
  try obtain ⟨q1, q2, q3⟩ := hlo rfl
  try have q4 := hlx rfl
  clear hlo hlx
  have hl := h.lenMax
  go_enter Try.func7, Try.ntmps7
  go_wp2_with fail
  refine (add_c_to a b n true Hn.out _).mono ?_
  rintro e w' ⟨rfl, rfl⟩
  go_wp2_with fail
  refine (add_c_to b a n true Hn2.out _).mono ?_
  rintro e w' ⟨rfl, rfl⟩
  go_wp2_with fail
  refine (mul_c_to a b x true Hx.out _).mono ?_
  rintro e w' ⟨rfl, rfl⟩
  go_wp2_with fail
  refine (mul_c_to b a x true Hx2.out _).mono ?_
  rintro e w' ⟨rfl, rfl⟩
  go_wp2_with fail
  refine (newMeter_s1 _ _ (by omega)).mono ?_
  rintro e w1 ⟨g, rfl, hg, hm, hb⟩
  go_wp2_with fail
  rw [show max m 0 = m from by omega] at hm
  go_loopw [18, 96] (fun v18 v96 wr => ∃ (s : Int) (o : Bool) (k : Nat), k ≤ l.length ∧ v96 = .int .i64 k ∧ v18 = .int .i64 s ∧ 0 ≤ s ∧ s ≤ m ∧ Met wr 58 g m s o ∧ Bel w wr) (fun _ v96 _ => l.length - (intOf v96).toNat)
  case atStart => exact ⟨0, false, 0, Nat.zero_le _, rfl, rfl, by omega, by omega, hm, hb⟩
  case round =>
    clear hm hb
    obtain ⟨s, o, k, hk, rfl, rfl, s0, s1, hm, hb⟩ := hrel
    by_cases hlt : k < l.length
    · obtain ⟨ad, rfl, hc⟩ := (h.to hb).int hlt
      cases o with
      | true =>
        go_wp2_with fail
        refine (out_s1 g _ _ _ _ hm).mono ?_
        rintro e w' ⟨rfl, rfl⟩
        go_wp2_with fail
        refine (spendNo_s1 g _ _ _ _ _ hm s0 s1 (.inl rfl) (by omega)).mono ?_
        rintro e w2 ⟨rfl, hm, hu⟩
        replace hb := hb.upd hu hg
        clear hu
        go_wp2_with (first
          | (go_at_call 24; refine (spent_s1 g _ _ _ _ hm).mono ?_; rintro e w' ⟨rfl, rfl⟩)
          | (go_at_call 25; refine (out_s1 g _ _ _ _ hm).mono ?_; rintro e w' ⟨rfl, rfl⟩))
        go_roundw
        case rel => exact ⟨s, true, k + 1, by omega, by go_num, rfl, s0, s1, hm, hb⟩
        case measure => simp [intOf]; omega
      | false =>
        go_wp2_with fail
        refine (out_s1 g _ _ _ _ hm).mono ?_
        rintro e w' ⟨rfl, rfl⟩
        go_wp2_with fail
        by_cases hy : l[k] < 0
        · refine (spendNeg_s1 g _ _ _ _ hm s0 s1 hy (by omega)).mono ?_
          rintro e w2 ⟨rfl, hm, hu⟩
          replace hb := hb.upd hu hg
          clear hu
          go_wp2_with (first
            | (go_at_call 24; refine (spent_s1 g _ _ _ _ hm).mono ?_; rintro e w' ⟨rfl, rfl⟩)
            | (go_at_call 25; refine (out_s1 g _ _ _ _ hm).mono ?_; rintro e w' ⟨rfl, rfl⟩))
          go_roundw
          case rel => exact ⟨s, false, k + 1, by omega, by go_num, rfl, s0, s1, hm, hb⟩
          case measure => simp [intOf]; omega
        · by_cases hs : s + l[k] ≤ m
          · refine (spendYes_s1 g _ _ _ _ hm s0 (by omega) hs (by omega)).mono ?_
            rintro e w2 ⟨rfl, hm, hu⟩
            replace hb := hb.upd hu hg
            clear hu
            go_wp2_with (first
              | (go_at_call 24; refine (spent_s1 g _ _ _ _ hm).mono ?_; rintro e w' ⟨rfl, rfl⟩)
              | (go_at_call 25; refine (out_s1 g _ _ _ _ hm).mono ?_; rintro e w' ⟨rfl, rfl⟩))
            go_roundw
            case rel => exact ⟨s + l[k], false, k + 1, by omega, by go_num, rfl, by omega, hs, hm, hb⟩
            case measure => simp [intOf]; omega
          · refine (spendNo_s1 g _ _ _ _ _ hm s0 s1 (.inr (by omega)) (by omega)).mono ?_
            rintro e w2 ⟨rfl, hm, hu⟩
            replace hb := hb.upd hu hg
            clear hu
            go_wp2_with (first
              | (go_at_call 24; refine (spent_s1 g _ _ _ _ hm).mono ?_; rintro e w' ⟨rfl, rfl⟩)
              | (go_at_call 25; refine (out_s1 g _ _ _ _ hm).mono ?_; rintro e w' ⟨rfl, rfl⟩))
            go_roundw
            case rel => exact ⟨s, true, k + 1, by omega, by go_num, rfl, s0, s1, hm, hb⟩
            case measure => simp [intOf]; omega
    · go_wp2_with (go_at_call 26; refine (wakes01 _).mono ?_; rintro e w9 ⟨rfl, hb9⟩)
      go_ret
      exact ⟨rfl, hb.trans hb9⟩
set_option maxHeartbeats 4000000 in
set_option maxRecDepth 100000 in
theorem meterLaws_truefalseb (w : World) (a b m : Int) (hm0 : 0 ≤ m) (hm1 : m ≤ 9223372036854775807) (A : Option Addr) (c : Nat) (l : List Int) (h : Rd intT w All A c l)
    (n x : Int) (hn : addN a b = (n, true)) (hx : mulN a b = (x, false)) (hlo : true = true → a ≤ n ∧ b ≤ n ∧ n ≤ 1152921504606846976) (hlx : false = true → x ≤ 1152921504606846976) :
    Calls Try.prog 7 #[.int .i64 a, .int .i64 b, .int .i64 m, .slice A l.length c] w fun e w' => e = .returned (.bool true) ∧ Bel w w' := by
  have Hn := Lib.hid hn
  have Hn2 := Lib.hid ((addN_comm b a).trans hn)
  have Hx := Lib.hid hx
  have Hx2 := Lib.hid ((mulN_comm b a).trans hx)
  clear hn hx
  try obtain ⟨q1, q2, q3⟩ := hlo rfl
  try have q4 := hlx rfl
  clear hlo hlx
  have hl := h.lenMax
  go_enter Try.func7, Try.ntmps7
  go_wp2_with fail
  refine (add_c_to a b n true Hn.out _).mono ?_
  rintro e w' ⟨rfl, rfl⟩
  go_wp2_with fail
  refine (add_c_to b a n true Hn2.out _).mono ?_
  rintro e w' ⟨rfl, rfl⟩
  go_wp2_with fail
  refine (mul_c_to a b x false Hx.out _).mono ?_
  rintro e w' ⟨rfl, rfl⟩
  go_wp2_with fail
  refine (mul_c_to b a x false Hx2.out _).mono ?_
  rintro e w' ⟨rfl, rfl⟩
  go_wp2_with fail
  refine (newMeter_s1 _ _ (by omega)).mono ?_
  rintro e w1 ⟨g, rfl, hg, hm, hb⟩
  go_wp2_with fail
  rw [show max m 0 = m from by omega] at hm
  go_loopw [18, 96] (fun v18 v96 wr => ∃ (s : Int) (o : Bool) (k : Nat), k ≤ l.length ∧ v96 = .int .i64 k ∧ v18 = .int .i64 s ∧ 0 ≤ s ∧ s ≤ m ∧ Met wr 58 g m s o ∧ Bel w wr) (fun _ v96 _ => l.length - (intOf v96).toNat)
  case atStart => exact ⟨0, false, 0, Nat.zero_le _, rfl, rfl, by omega, by omega, hm, hb⟩
  case round =>
    clear hm hb
    obtain ⟨s, o, k, hk, rfl, rfl, s0, s1, hm, hb⟩ := hrel
    by_cases hlt : k < l.length
    · obtain ⟨ad, rfl, hc⟩ := (h.to hb).int hlt
      cases o with
      | true =>
        go_wp2_with fail
        refine (out_s1 g _ _ _ _ hm).mono ?_
        rintro e w' ⟨rfl, rfl⟩
        go_wp2_with fail
        refine (spendNo_s1 g _ _ _ _ _ hm s0 s1 (.inl rfl) (by omega)).mono ?_
        rintro e w2 ⟨rfl, hm, hu⟩
        replace hb := hb.upd hu hg
        clear hu
        go_wp2_with (first
          | (go_at_call 24; refine (spent_s1 g _ _ _ _ hm).mono ?_; rintro e w' ⟨rfl, rfl⟩)
          | (go_at_call 25; refine (out_s1 g _ _ _ _ hm).mono ?_; rintro e w' ⟨rfl, rfl⟩))
        go_roundw
        case rel => exact ⟨s, true, k + 1, by omega, by go_num, rfl, s0, s1, hm, hb⟩
        case measure => simp [intOf]; omega
      | false =>
        go_wp2_with fail
        refine (out_s1 g _ _ _ _ hm).mono ?_
        rintro e w' ⟨rfl, rfl⟩
        go_wp2_with fail
        by_cases hy : l[k] < 0
        · refine (spendNeg_s1 g _ _ _ _ hm s0 s1 hy (by omega)).mono ?_
          rintro e w2 ⟨rfl, hm, hu⟩
          replace hb := hb.upd hu hg
          clear hu
          go_wp2_with (first
            | (go_at_call 24; refine (spent_s1 g _ _ _ _ hm).mono ?_; rintro e w' ⟨rfl, rfl⟩)
            | (go_at_call 25; refine (out_s1 g _ _ _ _ hm).mono ?_; rintro e w' ⟨rfl, rfl⟩))
          go_roundw
          case rel => exact ⟨s, false, k + 1, by omega, by go_num, rfl, s0, s1, hm, hb⟩
          case measure => simp [intOf]; omega
        · by_cases hs : s + l[k] ≤ m
          · refine (spendYes_s1 g _ _ _ _ hm s0 (by omega) hs (by omega)).mono ?_
            rintro e w2 ⟨rfl, hm, hu⟩
            replace hb := hb.upd hu hg
            clear hu
            go_wp2_with (first
              | (go_at_call 24; refine (spent_s1 g _ _ _ _ hm).mono ?_; rintro e w' ⟨rfl, rfl⟩)
              | (go_at_call 25; refine (out_s1 g _ _ _ _ hm).mono ?_; rintro e w' ⟨rfl, rfl⟩))
            go_roundw
            case rel => exact ⟨s + l[k], false, k + 1, by omega, by go_num, rfl, by omega, hs, hm, hb⟩
            case measure => simp [intOf]; omega
          · refine (spendNo_s1 g _ _ _ _ _ hm s0 s1 (.inr (by omega)) (by omega)).mono ?_
            rintro e w2 ⟨rfl, hm, hu⟩
            replace hb := hb.upd hu hg
            clear hu
            go_wp2_with (first
              | (go_at_call 24; refine (spent_s1 g _ _ _ _ hm).mono ?_; rintro e w' ⟨rfl, rfl⟩)
              | (go_at_call 25; refine (out_s1 g _ _ _ _ hm).mono ?_; rintro e w' ⟨rfl, rfl⟩))
            go_roundw
            case rel => exact ⟨s, true, k + 1, by omega, by go_num, rfl, s0, s1, hm, hb⟩
            case measure => simp [intOf]; omega
    · go_wp2_with (go_at_call 26; refine (wakes01 _).mono ?_; rintro e w9 ⟨rfl, hb9⟩)
      go_ret
      exact ⟨rfl, hb.trans hb9⟩
set_option maxHeartbeats 4000000 in
set_option maxRecDepth 100000 in
theorem meterLaws_falsetrueb (w : World) (a b m : Int) (hm0 : 0 ≤ m) (hm1 : m ≤ 9223372036854775807) (A : Option Addr) (c : Nat) (l : List Int) (h : Rd intT w All A c l)
    (n x : Int) (hn : addN a b = (n, false)) (hx : mulN a b = (x, true)) (hlo : false = true → a ≤ n ∧ b ≤ n ∧ n ≤ 1152921504606846976) (hlx : true = true → x ≤ 1152921504606846976) :
    Calls Try.prog 7 #[.int .i64 a, .int .i64 b, .int .i64 m, .slice A l.length c] w fun e w' => e = .returned (.bool true) ∧ Bel w w' := by
  have Hn := Lib.hid hn
  have Hn2 := Lib.hid ((addN_comm b a).trans hn)
  have Hx := Lib.hid hx
  have Hx2 := Lib.hid ((mulN_comm b a).trans hx)
  clear hn hx
  try obtain ⟨q1, q2, q3⟩ := hlo rfl
  try have q4 := hlx rfl
  clear hlo hlx
  have hl := h.lenMax
  go_enter Try.func7, Try.ntmps7
  go_wp2_with fail
  refine (add_c_to a b n false Hn.out _).mono ?_
  rintro e w' ⟨rfl, rfl⟩
  go_wp2_with fail
  refine (add_c_to b a n false Hn2.out _).mono ?_
  rintro e w' ⟨rfl, rfl⟩
  go_wp2_with fail
  refine (mul_c_to a b x true Hx.out _).mono ?_
  rintro e w' ⟨rfl, rfl⟩
  go_wp2_with fail
  refine (mul_c_to b a x true Hx2.out _).mono ?_
  rintro e w' ⟨rfl, rfl⟩
  go_wp2_with fail
  refine (newMeter_s1 _ _ (by omega)).mono ?_
  rintro e w1 ⟨g, rfl, hg, hm, hb⟩
  go_wp2_with fail
  rw [show max m 0 = m from by omega] at hm
  go_loopw [18, 96] (fun v18 v96 wr => ∃ (s : Int) (o : Bool) (k : Nat), k ≤ l.length ∧ v96 = .int .i64 k ∧ v18 = .int .i64 s ∧ 0 ≤ s ∧ s ≤ m ∧ Met wr 58 g m s o ∧ Bel w wr) (fun _ v96 _ => l.length - (intOf v96).toNat)
  case atStart => exact ⟨0, false, 0, Nat.zero_le _, rfl, rfl, by omega, by omega, hm, hb⟩
  case round =>
    clear hm hb
    obtain ⟨s, o, k, hk, rfl, rfl, s0, s1, hm, hb⟩ := hrel
    by_cases hlt : k < l.length
    · obtain ⟨ad, rfl, hc⟩ := (h.to hb).int hlt
      cases o with
      | true =>
        go_wp2_with fail
        refine (out_s1 g _ _ _ _ hm).mono ?_
        rintro e w' ⟨rfl, rfl⟩
        go_wp2_with fail
        refine (spendNo_s1 g _ _ _ _ _ hm s0 s1 (.inl rfl) (by omega)).mono ?_
        rintro e w2 ⟨rfl, hm, hu⟩
        replace hb := hb.upd hu hg
        clear hu
        go_wp2_with (first
          | (go_at_call 24; refine (spent_s1 g _ _ _ _ hm).mono ?_; rintro e w' ⟨rfl, rfl⟩)
          | (go_at_call 25; refine (out_s1 g _ _ _ _ hm).mono ?_; rintro e w' ⟨rfl, rfl⟩))
        go_roundw
        case rel => exact ⟨s, true, k + 1, by omega, by go_num, rfl, s0, s1, hm, hb⟩
        case measure => simp [intOf]; omega
      | false =>
        go_wp2_with fail
        refine (out_s1 g _ _ _ _ hm).mono ?_
        rintro e w' ⟨rfl, rfl⟩
        go_wp2_with fail
        by_cases hy : l[k] < 0
        · refine (spendNeg_s1 g _ _ _ _ hm s0 s1 hy (by omega)).mono ?_
          rintro e w2 ⟨rfl, hm, hu⟩
          replace hb := hb.upd hu hg
          clear hu
          go_wp2_with (first
            | (go_at_call 24; refine (spent_s1 g _ _ _ _ hm).mono ?_; rintro e w' ⟨rfl, rfl⟩)
            | (go_at_call 25; refine (out_s1 g _ _ _ _ hm).mono ?_; rintro e w' ⟨rfl, rfl⟩))
          go_roundw
          case rel => exact ⟨s, false, k + 1, by omega, by go_num, rfl, s0, s1, hm, hb⟩
          case measure => simp [intOf]; omega
        · by_cases hs : s + l[k] ≤ m
          · refine (spendYes_s1 g _ _ _ _ hm s0 (by omega) hs (by omega)).mono ?_
            rintro e w2 ⟨rfl, hm, hu⟩
            replace hb := hb.upd hu hg
            clear hu
            go_wp2_with (first
              | (go_at_call 24; refine (spent_s1 g _ _ _ _ hm).mono ?_; rintro e w' ⟨rfl, rfl⟩)
              | (go_at_call 25; refine (out_s1 g _ _ _ _ hm).mono ?_; rintro e w' ⟨rfl, rfl⟩))
            go_roundw
            case rel => exact ⟨s + l[k], false, k + 1, by omega, by go_num, rfl, by omega, hs, hm, hb⟩
            case measure => simp [intOf]; omega
          · refine (spendNo_s1 g _ _ _ _ _ hm s0 s1 (.inr (by omega)) (by omega)).mono ?_
            rintro e w2 ⟨rfl, hm, hu⟩
            replace hb := hb.upd hu hg
            clear hu
            go_wp2_with (first
              | (go_at_call 24; refine (spent_s1 g _ _ _ _ hm).mono ?_; rintro e w' ⟨rfl, rfl⟩)
              | (go_at_call 25; refine (out_s1 g _ _ _ _ hm).mono ?_; rintro e w' ⟨rfl, rfl⟩))
            go_roundw
            case rel => exact ⟨s, true, k + 1, by omega, by go_num, rfl, s0, s1, hm, hb⟩
            case measure => simp [intOf]; omega
    · go_wp2_with (go_at_call 26; refine (wakes01 _).mono ?_; rintro e w9 ⟨rfl, hb9⟩)
      go_ret
      exact ⟨rfl, hb.trans hb9⟩
set_option maxHeartbeats 4000000 in
set_option maxRecDepth 100000 in
theorem meterLaws_falsefalseb (w : World) (a b m : Int) (hm0 : 0 ≤ m) (hm1 : m ≤ 9223372036854775807) (A : Option Addr) (c : Nat) (l : List Int) (h : Rd intT w All A c l)
    (n x : Int) (hn : addN a b = (n, false)) (hx : mulN a b = (x, false)) (hlo : false = true → a ≤ n ∧ b ≤ n ∧ n ≤ 1152921504606846976) (hlx : false = true → x ≤ 1152921504606846976) :
    Calls Try.prog 7 #[.int .i64 a, .int .i64 b, .int .i64 m, .slice A l.length c] w fun e w' => e = .returned (.bool true) ∧ Bel w w' := by
  have Hn := Lib.hid hn
  have Hn2 := Lib.hid ((addN_comm b a).trans hn)
  have Hx := Lib.hid hx
  have Hx2 := Lib.hid ((mulN_comm b a).trans hx)
  clear hn hx
  try obtain ⟨q1, q2, q3⟩ := hlo rfl
  try have q4 := hlx rfl
  clear hlo hlx
  have hl := h.lenMax
  go_enter Try.func7, Try.ntmps7
  go_wp2_with fail
  refine (add_c_to a b n false Hn.out _).mono ?_
  rintro e w' ⟨rfl, rfl⟩
  go_wp2_with fail
  refine (add_c_to b a n false Hn2.out _).mono ?_
  rintro e w' ⟨rfl, rfl⟩
  go_wp2_with fail
  refine (mul_c_to a b x false Hx.out _).mono ?_
  rintro e w' ⟨rfl, rfl⟩
  go_wp2_with fail
  refine (mul_c_to b a x false Hx2.out _).mono ?_
  rintro e w' ⟨rfl, rfl⟩
  go_wp2_with fail
  refine (newMeter_s1 _ _ (by omega)).mono ?_
  rintro e w1 ⟨g, rfl, hg, hm, hb⟩
  go_wp2_with fail
  rw [show max m 0 = m from by omega] at hm
  go_loopw [18, 96] (fun v18 v96 wr => ∃ (s : Int) (o : Bool) (k : Nat), k ≤ l.length ∧ v96 = .int .i64 k ∧ v18 = .int .i64 s ∧ 0 ≤ s ∧ s ≤ m ∧ Met wr 58 g m s o ∧ Bel w wr) (fun _ v96 _ => l.length - (intOf v96).toNat)
  case atStart => exact ⟨0, false, 0, Nat.zero_le _, rfl, rfl, by omega, by omega, hm, hb⟩
  case round =>
    clear hm hb
    obtain ⟨s, o, k, hk, rfl, rfl, s0, s1, hm, hb⟩ := hrel
    by_cases hlt : k < l.length
    · obtain ⟨ad, rfl, hc⟩ := (h.to hb).int hlt
      cases o with
      | true =>
        go_wp2_with fail
        refine (out_s1 g _ _ _ _ hm).mono ?_
        rintro e w' ⟨rfl, rfl⟩
        go_wp2_with fail
        refine (spendNo_s1 g _ _ _ _ _ hm s0 s1 (.inl rfl) (by omega)).mono ?_
        rintro e w2 ⟨rfl, hm, hu⟩
        replace hb := hb.upd hu hg
        clear hu
        go_wp2_with (first
          | (go_at_call 24; refine (spent_s1 g _ _ _ _ hm).mono ?_; rintro e w' ⟨rfl, rfl⟩)
          | (go_at_call 25; refine (out_s1 g _ _ _ _ hm).mono ?_; rintro e w' ⟨rfl, rfl⟩))
        go_roundw
        case rel => exact ⟨s, true, k + 1, by omega, by go_num, rfl, s0, s1, hm, hb⟩
        case measure => simp [intOf]; omega
      | false =>
        go_wp2_with fail
        refine (out_s1 g _ _ _ _ hm).mono ?_
        rintro e w' ⟨rfl, rfl⟩
        go_wp2_with fail
        by_cases hy : l[k] < 0
        · refine (spendNeg_s1 g _ _ _ _ hm s0 s1 hy (by omega)).mono ?_
          rintro e w2 ⟨rfl, hm, hu⟩
          replace hb := hb.upd hu hg
          clear hu
          go_wp2_with (first
            | (go_at_call 24; refine (spent_s1 g _ _ _ _ hm).mono ?_; rintro e w' ⟨rfl, rfl⟩)
            | (go_at_call 25; refine (out_s1 g _ _ _ _ hm).mono ?_; rintro e w' ⟨rfl, rfl⟩))
          go_roundw
          case rel => exact ⟨s, false, k + 1, by omega, by go_num, rfl, s0, s1, hm, hb⟩
          case measure => simp [intOf]; omega
        · by_cases hs : s + l[k] ≤ m
          · refine (spendYes_s1 g _ _ _ _ hm s0 (by omega) hs (by omega)).mono ?_
            rintro e w2 ⟨rfl, hm, hu⟩
            replace hb := hb.upd hu hg
            clear hu
            go_wp2_with (first
              | (go_at_call 24; refine (spent_s1 g _ _ _ _ hm).mono ?_; rintro e w' ⟨rfl, rfl⟩)
              | (go_at_call 25; refine (out_s1 g _ _ _ _ hm).mono ?_; rintro e w' ⟨rfl, rfl⟩))
            go_roundw
            case rel => exact ⟨s + l[k], false, k + 1, by omega, by go_num, rfl, by omega, hs, hm, hb⟩
            case measure => simp [intOf]; omega
          · refine (spendNo_s1 g _ _ _ _ _ hm s0 s1 (.inr (by omega)) (by omega)).mono ?_
            rintro e w2 ⟨rfl, hm, hu⟩
            replace hb := hb.upd hu hg
            clear hu
            go_wp2_with (first
              | (go_at_call 24; refine (spent_s1 g _ _ _ _ hm).mono ?_; rintro e w' ⟨rfl, rfl⟩)
              | (go_at_call 25; refine (out_s1 g _ _ _ _ hm).mono ?_; rintro e w' ⟨rfl, rfl⟩))
            go_roundw
            case rel => exact ⟨s, true, k + 1, by omega, by go_num, rfl, s0, s1, hm, hb⟩
            case measure => simp [intOf]; omega
    · go_wp2_with (go_at_call 26; refine (wakes01 _).mono ?_; rintro e w9 ⟨rfl, hb9⟩)
      go_ret
      exact ⟨rfl, hb.trans hb9⟩
theorem MeterLaws_walk (w : World) (a : Int) (_ : inI64 a) (b : Int) (_ : inI64 b) (m : Int) (hm : inI64 m) (A : Option Addr) (c : Nat) (l : List Int) (h : Rd intT w All A c l) (_ : ∀ x ∈ l, inI64 x) (_ : l.length * 8 ≤ 140737488351232) :
    Calls Try.prog 7 #[.int .i64 a, .int .i64 b, .int .i64 m, .slice A l.length c] w fun e w' => e = .returned (.bool true) ∧ Bel w w' := by
  obtain ⟨n, ok, hn⟩ : ∃ n ok, addN a b = (n, ok) := ⟨_, _, rfl⟩
  obtain ⟨x, good, hx⟩ : ∃ x good, mulN a b = (x, good) := ⟨_, _, rfl⟩
  have hlo : ok = true → a ≤ n ∧ b ≤ n ∧ n ≤ 1152921504606846976 := by rintro rfl; have := addN_ok hn; omega
  have hlx : good = true → x ≤ 1152921504606846976 := by rintro rfl; exact (mulN_ok hx).2
  by_cases h0 : m < 0
  · cases ok <;> cases good
    · exact meterLaws_falsefalsea w a b m h0 hm.2 A c l h n x hn hx hlo hlx
    · exact meterLaws_falsetruea w a b m h0 hm.2 A c l h n x hn hx hlo hlx
    · exact meterLaws_truefalsea w a b m h0 hm.2 A c l h n x hn hx hlo hlx
    · exact meterLaws_truetruea w a b m h0 hm.2 A c l h n x hn hx hlo hlx
  · cases ok <;> cases good
    · exact meterLaws_falsefalseb w a b m (by omega) hm.2 A c l h n x hn hx hlo hlx
    · exact meterLaws_falsetrueb w a b m (by omega) hm.2 A c l h n x hn hx hlo hlx
    · exact meterLaws_truefalseb w a b m (by omega) hm.2 A c l h n x hn hx hlo hlx
    · exact meterLaws_truetrueb w a b m (by omega) hm.2 A c l h n x hn hx hlo hlx
end Go.Proofs.Ytpkofpnfnpicmaa
namespace Go.Proofs.Ytpkofpnfnpicmaa.rowMeterLaws
open Go.ChangeShapes Go.WideShapes Go.ChangeAt Go.RowKit Go.Cb
open Go.ChangeMaps (open_string shut_string)
theorem own : ownKnob Try.prog.godebug = none := by kernel_rfl
theorem laidOut : laidOutB Try.prog = true := by kernel_rfl
set_option maxRecDepth 100000 in
theorem lifted (os : Os) (started : os.Started) (H : Type) (enc : TypeId × Value → H) :
    ReturnsInHanded {} Try.checked os 7 .any (Rows.meterLawsSpec.pre6 enc Try.prog Try.f7 Rows.meterLawsRow.domain false) (Rows.meterLawsSpec.post enc Try.prog Try.f7 false true false false) := by
  refine returnsInHanded_of_change_sized (C := Try.checked) own started (by kernel_rfl) Try.func7
    (ChangeSpec.witness6 (enc := enc) (C := Try.checked) false ⟨#[], #[.int .i64 0, .int .i64 0, .int .i64 0, .slice none 0 0], []⟩ 8 (by kernel_rfl) (by kernel_rfl) (by kernel_rfl) (by kernel_rfl)) ?_
  intro W base args ds gs before hval0 hW hcnd hsz0 _
  have hsz : (DataW.weightsEach Try.prog (Try.f7.params.toList ++ Rows.meterLawsSpec.plain.varTypes Try.prog) (ds ++ gs)).all (· ≤ reachBytes) = true := hsz0
  have hval : ∀ (j : Nat) t v, Try.f7.params[j]? = some t → args[j]? = some v → Value.okWide Try.prog W .any base t v := hval0
  have hW' := hW
  obtain ⟨p, q, hA0, hV, rfl, hfz, hnd⟩ := hW
  have hA : DataW.TrodAll enc Try.prog W 0 (fun _ => true) true Try.f7.params.toList args.toList ds p := hA0
  rw [Try.params7] at hA hval hsz
  obtain ⟨v0, vs0, d0, ds0, p0, q0, hargs, rfl, rfl, h0, r0⟩ := trodAll_cons hA
  obtain ⟨v1, vs1, d1, ds1, p1, q1, rfl, rfl, rfl, h1, r1⟩ := trodAll_cons r0
  obtain ⟨v2, vs2, d2, ds2, p2, q2, rfl, rfl, rfl, h2, r2⟩ := trodAll_cons r1
  obtain ⟨v3, vs3, d3, ds3, p3, q3, rfl, rfl, rfl, h3, r3⟩ := trodAll_cons r2
  obtain ⟨rfl, rfl, rfl⟩ := trodAll_nil r3
  obtain rfl : args = #[v0, v1, v2, v3] := by cases args; simp_all
  obtain ⟨rfl, rfl⟩ := trodVars_none hV
  obtain ⟨a0, rfl, rfl, rfl, w0⟩ := open_int Try.underlying3 (hval 0 3 v0 rfl rfl) h0
  obtain ⟨a1, rfl, rfl, rfl, w1⟩ := open_int Try.underlying3 (hval 1 3 v1 rfl rfl) h1
  obtain ⟨a2, rfl, rfl, rfl, w2⟩ := open_int Try.underlying3 (hval 2 3 v2 rfl rfl) h2
  obtain ⟨a3, len3, cap3, rfl⟩ := okWide_slice Try.underlying22 (hval 3 22 v3 rfl rfl)
  have k3 := h3
  have lt3 : ∀ x ∈ p3, x.block < W.heap.size := by obtain ⟨m, hm⟩ := k3; exact DataW.trod_lt m _ _ _ hm
  obtain ⟨l3, rfl, R3, wf3, sz3⟩ := open_rd hsz (j := 3) (t := 22) rfl rfl Try.underlying22 Try.underlying3 (by kernel_rfl) (by kernel_rfl) h3
  clear hA0 hval0 hsz0 hsz
  refine (MeterLaws_walk W a0 (inI64_wf w0) a1 (inI64_wf w1) a2 (inI64_wf w2) a3 cap3 l3 R3 (fun x hx => inI64_wf (wf3 x hx)) sz3).mono fun e W' ⟨he, bel⟩ => ?_
  subst he
  exact ⟨_, rfl, _, _, _, [], _, [], hW', trodAll_mk1 (shut_bool Try.underlying4 _), (trodAll_cons_mk (shut_int Try.underlying3 w0) (trodAll_cons_mk (shut_int Try.underlying3 w1) (trodAll_cons_mk (shut_int Try.underlying3 w2) (trodAll_cons_mk (Below.trod laidOut (by kernel_rfl) (of_decide_eq_true (by kernel_rfl)) k3 bel.out lt3) trodAll_mk0)))), rfl, bel.out.frame _, fun h => by cases h⟩
theorem over : Rows.meterLawsRow.holds Try.pinned (OpenSpec.ofChange Rows.meterLawsSpec) :=
  OpenClaim.holds_of_wide 7 Try.f7 rfl rfl rfl rfl rfl rfl rfl ⟨rfl, rfl, rfl, rfl, rfl⟩ rfl rfl rfl rfl rfl (by kernel_rfl) Try.func7 (by kernel_rfl)
    (of_decide_eq_true (by kernel_rfl)) (by unfold Func.isWrapper; first | (rw [if_pos (by decide +kernel)]; kernel_rfl) | (rw [if_neg (by decide +kernel)]; exact ⟨rfl, rfl⟩))
    (fun os started H enc _ => lifted os started H enc)
end Go.Proofs.Ytpkofpnfnpicmaa.rowMeterLaws
namespace Go.Proofs.Ytpkofpnfnpicmaa
theorem MeterLaws_holds : Rows.MeterLawsSaid := rowMeterLaws.over
#print axioms MeterLaws_holds
end Go.Proofs.Ytpkofpnfnpicmaa
