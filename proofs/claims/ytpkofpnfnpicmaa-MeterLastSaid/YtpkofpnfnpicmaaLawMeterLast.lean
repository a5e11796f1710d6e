/- MeterLast: just the budget may be spent, in pieces or at once; one more may not: for every budget and every cut. -/
import Derived.Test.YtpkofpnfnpicmaaMeter
import Derived.Test.YtpkofpnfnpicmaaRowLib
namespace Go.Proofs.Ytpkofpnfnpicmaa
open Go.RowKit Go.Cb
set_option maxHeartbeats 4000000 in
theorem meterLast_aa (w : World) (b : Int) (hb0 : -9223372036854775808 ≤ b) (hb1 : b ≤ 9223372036854775807) (c : Int) (hB : b < 0) (hC : c < 0) :
    Calls Try.prog 8 #[.int .i64 b, .int .i64 c] w fun e w' => e = .returned (.bool true) ∧ Bel w w' := by
  try obtain ⟨hB, hB2⟩ := hB
  try obtain ⟨hC, hC2⟩ := hC
  go_enter Try.func8, Try.ntmps8
  go_wp2_with fail
  refine (newMeter_s1 _ _ (by omega)).mono ?_
  rintro e w1 ⟨g, rfl, hg, hm, hb⟩
  go_wp2_with fail
  refine (newMeter_s1 _ _ (by omega)).mono ?_
  rintro e w2 ⟨g2, rfl, hg2, hn, hb2⟩
  have hm := hm.to hb2
  have hne : g ≠ g2 := by have := hm.lt; have := hn.lt; have := ‹Met w1 _ g _ _ _›.lt; omega
  have hb := hb.trans hb2
  have hg2 : w.heap.size ≤ g2 := by have := ‹Bel w w1›.size; omega
  clear hb2
  go_wp2_with fail
  refine (spendYes_s1 g _ _ _ _ hm (by omega) (by omega) (by omega) (by omega)).mono ?_
  rintro e w3 ⟨rfl, hm, hu⟩
  replace hn := hn.other hu (Ne.symm hne)
  replace hb := hb.upd hu hg
  clear hu
  go_wp2_with fail
  refine (spendYes_s1 g _ _ _ _ hm (by omega) (by omega) (by omega) (by omega)).mono ?_
  rintro e w4 ⟨rfl, hm, hu⟩
  replace hn := hn.other hu (Ne.symm hne)
  replace hb := hb.upd hu hg
  clear hu
  go_wp2_with fail
  refine (out_s1 g _ _ _ _ hm).mono ?_
  rintro e w' ⟨rfl, rfl⟩
  go_wp2_with fail
  refine (spendYes_s1 g _ _ _ _ hm (by omega) (by omega) (by omega) (by omega)).mono ?_
  rintro e w5 ⟨rfl, hm, hu⟩
  replace hn := hn.other hu (Ne.symm hne)
  replace hb := hb.upd hu hg
  clear hu
  go_wp2_with fail
  refine (spendNo_s1 g _ _ _ _ _ hm (by omega) (by omega) (.inr (by omega)) (by omega)).mono ?_
  rintro e w6 ⟨rfl, hm, hu⟩
  replace hn := hn.other hu (Ne.symm hne)
  replace hb := hb.upd hu hg
  clear hu
  go_wp2_with fail
  refine (spendNo_s1 g _ _ _ _ _ hm (by omega) (by omega) (.inl rfl) (by omega)).mono ?_
  rintro e w7 ⟨rfl, hm, hu⟩
  replace hn := hn.other hu (Ne.symm hne)
  replace hb := hb.upd hu hg
  clear hu
  go_wp2_with fail
  refine (spendYes_s1 g2 _ _ _ _ hn (by omega) (by omega) (by omega) (by omega)).mono ?_
  rintro e w8 ⟨rfl, hn, hu⟩
  replace hm := hm.other hu hne
  replace hb := hb.upd hu hg2
  clear hu
  go_wp2_with fail
  refine (spentEq_s1 g _ _ _ _ hm (7 : Int) (by omega)).mono ?_
  rintro e w' ⟨rfl, rfl⟩
  go_wp2_with fail
  refine (spentEq_s1 g2 _ _ _ _ hn (7 : Int) (by omega)).mono ?_
  rintro e w' ⟨rfl, rfl⟩
  go_wp2_with fail
  refine (wakes01 _).mono ?_
  rintro e w9 ⟨rfl, hb9⟩
  go_wp2
  go_ret
  exact ⟨rfl, hb.trans hb9⟩
set_option maxHeartbeats 4000000 in
theorem meterLast_ab (w : World) (b : Int) (hb0 : -9223372036854775808 ≤ b) (hb1 : b ≤ 9223372036854775807) (c : Int) (hB : b < 0) (hC : 0 ≤ c ∧ c ≤ (7 : Int)) :
    Calls Try.prog 8 #[.int .i64 b, .int .i64 c] w fun e w' => e = .returned (.bool true) ∧ Bel w w' := by
  try obtain ⟨hB, hB2⟩ := hB
  try obtain ⟨hC, hC2⟩ := hC
  go_enter Try.func8, Try.ntmps8
  go_wp2_with fail
  refine (newMeter_s1 _ _ (by omega)).mono ?_
  rintro e w1 ⟨g, rfl, hg, hm, hb⟩
  go_wp2_with fail
  refine (newMeter_s1 _ _ (by omega)).mono ?_
  rintro e w2 ⟨g2, rfl, hg2, hn, hb2⟩
  have hm := hm.to hb2
  have hne : g ≠ g2 := by have := hm.lt; have := hn.lt; have := ‹Met w1 _ g _ _ _›.lt; omega
  have hb := hb.trans hb2
  have hg2 : w.heap.size ≤ g2 := by have := ‹Bel w w1›.size; omega
  clear hb2
  go_wp2_with fail
  refine (spendYes_s1 g _ _ _ _ hm (by omega) (by omega) (by omega) (by omega)).mono ?_
  rintro e w3 ⟨rfl, hm, hu⟩
  replace hn := hn.other hu (Ne.symm hne)
  replace hb := hb.upd hu hg
  clear hu
  go_wp2_with fail
  refine (spendYes_s1 g _ _ _ _ hm (by omega) (by omega) (by omega) (by omega)).mono ?_
  rintro e w4 ⟨rfl, hm, hu⟩
  replace hn := hn.other hu (Ne.symm hne)
  replace hb := hb.upd hu hg
  clear hu
  go_wp2_with fail
  refine (out_s1 g _ _ _ _ hm).mono ?_
  rintro e w' ⟨rfl, rfl⟩
  go_wp2_with fail
  refine (spendYes_s1 g _ _ _ _ hm (by omega) (by omega) (by omega) (by omega)).mono ?_
  rintro e w5 ⟨rfl, hm, hu⟩
  replace hn := hn.other hu (Ne.symm hne)
  replace hb := hb.upd hu hg
  clear hu
  go_wp2_with fail
  refine (spendNo_s1 g _ _ _ _ _ hm (by omega) (by omega) (.inr (by omega)) (by omega)).mono ?_
  rintro e w6 ⟨rfl, hm, hu⟩
  replace hn := hn.other hu (Ne.symm hne)
  replace hb := hb.upd hu hg
  clear hu
  go_wp2_with fail
  refine (spendNo_s1 g _ _ _ _ _ hm (by omega) (by omega) (.inl rfl) (by omega)).mono ?_
  rintro e w7 ⟨rfl, hm, hu⟩
  replace hn := hn.other hu (Ne.symm hne)
  replace hb := hb.upd hu hg
  clear hu
  go_wp2_with fail
  refine (spendYes_s1 g2 _ _ _ _ hn (by omega) (by omega) (by omega) (by omega)).mono ?_
  rintro e w8 ⟨rfl, hn, hu⟩
  replace hm := hm.other hu hne
  replace hb := hb.upd hu hg2
  clear hu
  go_wp2_with fail
  refine (spentEq_s1 g _ _ _ _ hm (7 : Int) (by omega)).mono ?_
  rintro e w' ⟨rfl, rfl⟩
  go_wp2_with fail
  refine (spentEq_s1 g2 _ _ _ _ hn (7 : Int) (by omega)).mono ?_
  rintro e w' ⟨rfl, rfl⟩
  go_wp2_with fail
  refine (wakes01 _).mono ?_
  rintro e w9 ⟨rfl, hb9⟩
  go_wp2
  go_ret
  exact ⟨rfl, hb.trans hb9⟩
set_option maxHeartbeats 4000000 in
theorem meterLast_ac (w : World) (b : Int) (hb0 : -9223372036854775808 ≤ b) (hb1 : b ≤ 9223372036854775807) (c : Int) (hB : b < 0) (hC : (7 : Int) < c) :
    Calls Try.prog 8 #[.int .i64 b, .int .i64 c] w fun e w' => e = .returned (.bool true) ∧ Bel w w' := by
  try obtain ⟨hB, hB2⟩ := hB
  try obtain ⟨hC, hC2⟩ := hC
  go_enter Try.func8, Try.ntmps8
  go_wp2_with fail
  refine (newMeter_s1 _ _ (by omega)).mono ?_
  rintro e w1 ⟨g, rfl, hg, hm, hb⟩
  go_wp2_with fail
  refine (newMeter_s1 _ _ (by omega)).mono ?_
  rintro e w2 ⟨g2, rfl, hg2, hn, hb2⟩
  have hm := hm.to hb2
  have hne : g ≠ g2 := by have := hm.lt; have := hn.lt; have := ‹Met w1 _ g _ _ _›.lt; omega
  have hb := hb.trans hb2
  have hg2 : w.heap.size ≤ g2 := by have := ‹Bel w w1›.size; omega
  clear hb2
  go_wp2_with fail
  refine (spendYes_s1 g _ _ _ _ hm (by omega) (by omega) (by omega) (by omega)).mono ?_
  rintro e w3 ⟨rfl, hm, hu⟩
  replace hn := hn.other hu (Ne.symm hne)
  replace hb := hb.upd hu hg
  clear hu
  go_wp2_with fail
  refine (spendYes_s1 g _ _ _ _ hm (by omega) (by omega) (by omega) (by omega)).mono ?_
  rintro e w4 ⟨rfl, hm, hu⟩
  replace hn := hn.other hu (Ne.symm hne)
  replace hb := hb.upd hu hg
  clear hu
  go_wp2_with fail
  refine (out_s1 g _ _ _ _ hm).mono ?_
  rintro e w' ⟨rfl, rfl⟩
  go_wp2_with fail
  refine (spendYes_s1 g _ _ _ _ hm (by omega) (by omega) (by omega) (by omega)).mono ?_
  rintro e w5 ⟨rfl, hm, hu⟩
  replace hn := hn.other hu (Ne.symm hne)
  replace hb := hb.upd hu hg
  clear hu
  go_wp2_with fail
  refine (spendNo_s1 g _ _ _ _ _ hm (by omega) (by omega) (.inr (by omega)) (by omega)).mono ?_
  rintro e w6 ⟨rfl, hm, hu⟩
  replace hn := hn.other hu (Ne.symm hne)
  replace hb := hb.upd hu hg
  clear hu
  go_wp2_with fail
  refine (spendNo_s1 g _ _ _ _ _ hm (by omega) (by omega) (.inl rfl) (by omega)).mono ?_
  rintro e w7 ⟨rfl, hm, hu⟩
  replace hn := hn.other hu (Ne.symm hne)
  replace hb := hb.upd hu hg
  clear hu
  go_wp2_with fail
  refine (spendYes_s1 g2 _ _ _ _ hn (by omega) (by omega) (by omega) (by omega)).mono ?_
  rintro e w8 ⟨rfl, hn, hu⟩
  replace hm := hm.other hu hne
  replace hb := hb.upd hu hg2
  clear hu
  go_wp2_with fail
  refine (spentEq_s1 g _ _ _ _ hm (7 : Int) (by omega)).mono ?_
  rintro e w' ⟨rfl, rfl⟩
  go_wp2_with fail
  refine (spentEq_s1 g2 _ _ _ _ hn (7 : Int) (by omega)).mono ?_
  rintro e w' ⟨rfl, rfl⟩
  go_wp2_with fail
  refine (wakes01 _).mono ?_
  rintro e w9 ⟨rfl, hb9⟩
  go_wp2
  go_ret
  exact ⟨rfl, hb.trans hb9⟩
set_option maxHeartbeats 4000000 in
theorem meterLast_ba (w : World) (b : Int) (hb0 : -9223372036854775808 ≤ b) (hb1 : b ≤ 9223372036854775807) (c : Int) (hB : 1099511627776 < b) (hC : c < 0) :
    Calls Try.prog 8 #[.int .i64 b, .int .i64 c] w fun e w' => e = .returned (.bool true) ∧ Bel w w' := by
  try obtain ⟨hB, hB2⟩ := hB
  try obtain ⟨hC, hC2⟩ := hC
  go_enter Try.func8, Try.ntmps8
  go_wp2_with fail
  refine (newMeter_s1 _ _ (by omega)).mono ?_
  rintro e w1 ⟨g, rfl, hg, hm, hb⟩
  go_wp2_with fail
  refine (newMeter_s1 _ _ (by omega)).mono ?_
  rintro e w2 ⟨g2, rfl, hg2, hn, hb2⟩
  have hm := hm.to hb2
  have hne : g ≠ g2 := by have := hm.lt; have := hn.lt; have := ‹Met w1 _ g _ _ _›.lt; omega
  have hb := hb.trans hb2
  have hg2 : w.heap.size ≤ g2 := by have := ‹Bel w w1›.size; omega
  clear hb2
  go_wp2_with fail
  refine (spendYes_s1 g _ _ _ _ hm (by omega) (by omega) (by omega) (by omega)).mono ?_
  rintro e w3 ⟨rfl, hm, hu⟩
  replace hn := hn.other hu (Ne.symm hne)
  replace hb := hb.upd hu hg
  clear hu
  go_wp2_with fail
  refine (spendYes_s1 g _ _ _ _ hm (by omega) (by omega) (by omega) (by omega)).mono ?_
  rintro e w4 ⟨rfl, hm, hu⟩
  replace hn := hn.other hu (Ne.symm hne)
  replace hb := hb.upd hu hg
  clear hu
  go_wp2_with fail
  refine (out_s1 g _ _ _ _ hm).mono ?_
  rintro e w' ⟨rfl, rfl⟩
  go_wp2_with fail
  refine (spendYes_s1 g _ _ _ _ hm (by omega) (by omega) (by omega) (by omega)).mono ?_
  rintro e w5 ⟨rfl, hm, hu⟩
  replace hn := hn.other hu (Ne.symm hne)
  replace hb := hb.upd hu hg
  clear hu
  go_wp2_with fail
  refine (spendNo_s1 g _ _ _ _ _ hm (by omega) (by omega) (.inr (by omega)) (by omega)).mono ?_
  rintro e w6 ⟨rfl, hm, hu⟩
  replace hn := hn.other hu (Ne.symm hne)
  replace hb := hb.upd hu hg
  clear hu
  go_wp2_with fail
  refine (spendNo_s1 g _ _ _ _ _ hm (by omega) (by omega) (.inl rfl) (by omega)).mono ?_
  rintro e w7 ⟨rfl, hm, hu⟩
  replace hn := hn.other hu (Ne.symm hne)
  replace hb := hb.upd hu hg
  clear hu
  go_wp2_with fail
  refine (spendYes_s1 g2 _ _ _ _ hn (by omega) (by omega) (by omega) (by omega)).mono ?_
  rintro e w8 ⟨rfl, hn, hu⟩
  replace hm := hm.other hu hne
  replace hb := hb.upd hu hg2
  clear hu
  go_wp2_with fail
  refine (spentEq_s1 g _ _ _ _ hm (7 : Int) (by omega)).mono ?_
  rintro e w' ⟨rfl, rfl⟩
  go_wp2_with fail
  refine (spentEq_s1 g2 _ _ _ _ hn (7 : Int) (by omega)).mono ?_
  rintro e w' ⟨rfl, rfl⟩
  go_wp2_with fail
  refine (wakes01 _).mono ?_
  rintro e w9 ⟨rfl, hb9⟩
  go_wp2
  go_ret
  exact ⟨rfl, hb.trans hb9⟩
set_option maxHeartbeats 4000000 in
theorem meterLast_bb (w : World) (b : Int) (hb0 : -9223372036854775808 ≤ b) (hb1 : b ≤ 9223372036854775807) (c : Int) (hB : 1099511627776 < b) (hC : 0 ≤ c ∧ c ≤ (7 : Int)) :
    Calls Try.prog 8 #[.int .i64 b, .int .i64 c] w fun e w' => e = .returned (.bool true) ∧ Bel w w' := by
  try obtain ⟨hB, hB2⟩ := hB
  try obtain ⟨hC, hC2⟩ := hC
  go_enter Try.func8, Try.ntmps8
  go_wp2_with fail
  refine (newMeter_s1 _ _ (by omega)).mono ?_
  rintro e w1 ⟨g, rfl, hg, hm, hb⟩
  go_wp2_with fail
  refine (newMeter_s1 _ _ (by omega)).mono ?_
  rintro e w2 ⟨g2, rfl, hg2, hn, hb2⟩
  have hm := hm.to hb2
  have hne : g ≠ g2 := by have := hm.lt; have := hn.lt; have := ‹Met w1 _ g _ _ _›.lt; omega
  have hb := hb.trans hb2
  have hg2 : w.heap.size ≤ g2 := by have := ‹Bel w w1›.size; omega
  clear hb2
  go_wp2_with fail
  refine (spendYes_s1 g _ _ _ _ hm (by omega) (by omega) (by omega) (by omega)).mono ?_
  rintro e w3 ⟨rfl, hm, hu⟩
  replace hn := hn.other hu (Ne.symm hne)
  replace hb := hb.upd hu hg
  clear hu
  go_wp2_with fail
  refine (spendYes_s1 g _ _ _ _ hm (by omega) (by omega) (by omega) (by omega)).mono ?_
  rintro e w4 ⟨rfl, hm, hu⟩
  replace hn := hn.other hu (Ne.symm hne)
  replace hb := hb.upd hu hg
  clear hu
  go_wp2_with fail
  refine (out_s1 g _ _ _ _ hm).mono ?_
  rintro e w' ⟨rfl, rfl⟩
  go_wp2_with fail
  refine (spendYes_s1 g _ _ _ _ hm (by omega) (by omega) (by omega) (by omega)).mono ?_
  rintro e w5 ⟨rfl, hm, hu⟩
  replace hn := hn.other hu (Ne.symm hne)
  replace hb := hb.upd hu hg
  clear hu
  go_wp2_with fail
  refine (spendNo_s1 g _ _ _ _ _ hm (by omega) (by omega) (.inr (by omega)) (by omega)).mono ?_
  rintro e w6 ⟨rfl, hm, hu⟩
  replace hn := hn.other hu (Ne.symm hne)
  replace hb := hb.upd hu hg
  clear hu
  go_wp2_with fail
  refine (spendNo_s1 g _ _ _ _ _ hm (by omega) (by omega) (.inl rfl) (by omega)).mono ?_
  rintro e w7 ⟨rfl, hm, hu⟩
  replace hn := hn.other hu (Ne.symm hne)
  replace hb := hb.upd hu hg
  clear hu
  go_wp2_with fail
  refine (spendYes_s1 g2 _ _ _ _ hn (by omega) (by omega) (by omega) (by omega)).mono ?_
  rintro e w8 ⟨rfl, hn, hu⟩
  replace hm := hm.other hu hne
  replace hb := hb.upd hu hg2
  clear hu
  go_wp2_with fail
  refine (spentEq_s1 g _ _ _ _ hm (7 : Int) (by omega)).mono ?_
  rintro e w' ⟨rfl, rfl⟩
  go_wp2_with fail
  refine (spentEq_s1 g2 _ _ _ _ hn (7 : Int) (by omega)).mono ?_
  rintro e w' ⟨rfl, rfl⟩
  go_wp2_with fail
  refine (wakes01 _).mono ?_
  rintro e w9 ⟨rfl, hb9⟩
  go_wp2
  go_ret
  exact ⟨rfl, hb.trans hb9⟩
set_option maxHeartbeats 4000000 in
theorem meterLast_bc (w : World) (b : Int) (hb0 : -9223372036854775808 ≤ b) (hb1 : b ≤ 9223372036854775807) (c : Int) (hB : 1099511627776 < b) (hC : (7 : Int) < c) :
    Calls Try.prog 8 #[.int .i64 b, .int .i64 c] w fun e w' => e = .returned (.bool true) ∧ Bel w w' := by
  try obtain ⟨hB, hB2⟩ := hB
  try obtain ⟨hC, hC2⟩ := hC
  go_enter Try.func8, Try.ntmps8
  go_wp2_with fail
  refine (newMeter_s1 _ _ (by omega)).mono ?_
  rintro e w1 ⟨g, rfl, hg, hm, hb⟩
  go_wp2_with fail
  refine (newMeter_s1 _ _ (by omega)).mono ?_
  rintro e w2 ⟨g2, rfl, hg2, hn, hb2⟩
  have hm := hm.to hb2
  have hne : g ≠ g2 := by have := hm.lt; have := hn.lt; have := ‹Met w1 _ g _ _ _›.lt; omega
  have hb := hb.trans hb2
  have hg2 : w.heap.size ≤ g2 := by have := ‹Bel w w1›.size; omega
  clear hb2
  go_wp2_with fail
  refine (spendYes_s1 g _ _ _ _ hm (by omega) (by omega) (by omega) (by omega)).mono ?_
  rintro e w3 ⟨rfl, hm, hu⟩
  replace hn := hn.other hu (Ne.symm hne)
  replace hb := hb.upd hu hg
  clear hu
  go_wp2_with fail
  refine (spendYes_s1 g _ _ _ _ hm (by omega) (by omega) (by omega) (by omega)).mono ?_
  rintro e w4 ⟨rfl, hm, hu⟩
  replace hn := hn.other hu (Ne.symm hne)
  replace hb := hb.upd hu hg
  clear hu
  go_wp2_with fail
  refine (out_s1 g _ _ _ _ hm).mono ?_
  rintro e w' ⟨rfl, rfl⟩
  go_wp2_with fail
  refine (spendYes_s1 g _ _ _ _ hm (by omega) (by omega) (by omega) (by omega)).mono ?_
  rintro e w5 ⟨rfl, hm, hu⟩
  replace hn := hn.other hu (Ne.symm hne)
  replace hb := hb.upd hu hg
  clear hu
  go_wp2_with fail
  refine (spendNo_s1 g _ _ _ _ _ hm (by omega) (by omega) (.inr (by omega)) (by omega)).mono ?_
  rintro e w6 ⟨rfl, hm, hu⟩
  replace hn := hn.other hu (Ne.symm hne)
  replace hb := hb.upd hu hg
  clear hu
  go_wp2_with fail
  refine (spendNo_s1 g _ _ _ _ _ hm (by omega) (by omega) (.inl rfl) (by omega)).mono ?_
  rintro e w7 ⟨rfl, hm, hu⟩
  replace hn := hn.other hu (Ne.symm hne)
  replace hb := hb.upd hu hg
  clear hu
  go_wp2_with fail
  refine (spendYes_s1 g2 _ _ _ _ hn (by omega) (by omega) (by omega) (by omega)).mono ?_
  rintro e w8 ⟨rfl, hn, hu⟩
  replace hm := hm.other hu hne
  replace hb := hb.upd hu hg2
  clear hu
  go_wp2_with fail
  refine (spentEq_s1 g _ _ _ _ hm (7 : Int) (by omega)).mono ?_
  rintro e w' ⟨rfl, rfl⟩
  go_wp2_with fail
  refine (spentEq_s1 g2 _ _ _ _ hn (7 : Int) (by omega)).mono ?_
  rintro e w' ⟨rfl, rfl⟩
  go_wp2_with fail
  refine (wakes01 _).mono ?_
  rintro e w9 ⟨rfl, hb9⟩
  go_wp2
  go_ret
  exact ⟨rfl, hb.trans hb9⟩
set_option maxHeartbeats 4000000 in
theorem meterLast_ca (w : World) (b : Int) (hb0 : -9223372036854775808 ≤ b) (hb1 : b ≤ 9223372036854775807) (c : Int) (hB : 0 ≤ b ∧ b ≤ 1099511627776) (hC : c < 0) :
    Calls Try.prog 8 #[.int .i64 b, .int .i64 c] w fun e w' => e = .returned (.bool true) ∧ Bel w w' := by
  try obtain ⟨hB, hB2⟩ := hB
  try obtain ⟨hC, hC2⟩ := hC
  go_enter Try.func8, Try.ntmps8
  go_wp2_with fail
  refine (newMeter_s1 _ _ (by omega)).mono ?_
  rintro e w1 ⟨g, rfl, hg, hm, hb⟩
  go_wp2_with fail
  refine (newMeter_s1 _ _ (by omega)).mono ?_
  rintro e w2 ⟨g2, rfl, hg2, hn, hb2⟩
  have hm := hm.to hb2
  have hne : g ≠ g2 := by have := hm.lt; have := hn.lt; have := ‹Met w1 _ g _ _ _›.lt; omega
  have hb := hb.trans hb2
  have hg2 : w.heap.size ≤ g2 := by have := ‹Bel w w1›.size; omega
  clear hb2
  go_wp2_with fail
  refine (spendYes_s1 g _ _ _ _ hm (by omega) (by omega) (by omega) (by omega)).mono ?_
  rintro e w3 ⟨rfl, hm, hu⟩
  replace hn := hn.other hu (Ne.symm hne)
  replace hb := hb.upd hu hg
  clear hu
  go_wp2_with fail
  refine (spendYes_s1 g _ _ _ _ hm (by omega) (by omega) (by omega) (by omega)).mono ?_
  rintro e w4 ⟨rfl, hm, hu⟩
  replace hn := hn.other hu (Ne.symm hne)
  replace hb := hb.upd hu hg
  clear hu
  go_wp2_with fail
  refine (out_s1 g _ _ _ _ hm).mono ?_
  rintro e w' ⟨rfl, rfl⟩
  go_wp2_with fail
  refine (spendYes_s1 g _ _ _ _ hm (by omega) (by omega) (by omega) (by omega)).mono ?_
  rintro e w5 ⟨rfl, hm, hu⟩
  replace hn := hn.other hu (Ne.symm hne)
  replace hb := hb.upd hu hg
  clear hu
  go_wp2_with fail
  refine (spendNo_s1 g _ _ _ _ _ hm (by omega) (by omega) (.inr (by omega)) (by omega)).mono ?_
  rintro e w6 ⟨rfl, hm, hu⟩
  replace hn := hn.other hu (Ne.symm hne)
  replace hb := hb.upd hu hg
  clear hu
  go_wp2_with fail
  refine (spendNo_s1 g _ _ _ _ _ hm (by omega) (by omega) (.inl rfl) (by omega)).mono ?_
  rintro e w7 ⟨rfl, hm, hu⟩
  replace hn := hn.other hu (Ne.symm hne)
  replace hb := hb.upd hu hg
  clear hu
  go_wp2_with fail
  refine (spendYes_s1 g2 _ _ _ _ hn (by omega) (by omega) (by omega) (by omega)).mono ?_
  rintro e w8 ⟨rfl, hn, hu⟩
  replace hm := hm.other hu hne
  replace hb := hb.upd hu hg2
  clear hu
  go_wp2_with fail
  refine (spentEq_s1 g _ _ _ _ hm b (by omega)).mono ?_
  rintro e w' ⟨rfl, rfl⟩
  go_wp2_with fail
  refine (spentEq_s1 g2 _ _ _ _ hn b (by omega)).mono ?_
  rintro e w' ⟨rfl, rfl⟩
  go_wp2_with fail
  refine (wakes01 _).mono ?_
  rintro e w9 ⟨rfl, hb9⟩
  go_wp2
  go_ret
  exact ⟨rfl, hb.trans hb9⟩
set_option maxHeartbeats 4000000 in
theorem meterLast_cb (w : World) (b : Int) (hb0 : -9223372036854775808 ≤ b) (hb1 : b ≤ 9223372036854775807) (c : Int) (hB : 0 ≤ b ∧ b ≤ 1099511627776) (hC : 0 ≤ c ∧ c ≤ b) :
    Calls Try.prog 8 #[.int .i64 b, .int .i64 c] w fun e w' => e = .returned (.bool true) ∧ Bel w w' := by
  try obtain ⟨hB, hB2⟩ := hB
  try obtain ⟨hC, hC2⟩ := hC
  go_enter Try.func8, Try.ntmps8
  go_wp2_with fail
  refine (newMeter_s1 _ _ (by omega)).mono ?_
  rintro e w1 ⟨g, rfl, hg, hm, hb⟩
  go_wp2_with fail
  refine (newMeter_s1 _ _ (by omega)).mono ?_
  rintro e w2 ⟨g2, rfl, hg2, hn, hb2⟩
  have hm := hm.to hb2
  have hne : g ≠ g2 := by have := hm.lt; have := hn.lt; have := ‹Met w1 _ g _ _ _›.lt; omega
  have hb := hb.trans hb2
  have hg2 : w.heap.size ≤ g2 := by have := ‹Bel w w1›.size; omega
  clear hb2
  go_wp2_with fail
  refine (spendYes_s1 g _ _ _ _ hm (by omega) (by omega) (by omega) (by omega)).mono ?_
  rintro e w3 ⟨rfl, hm, hu⟩
  replace hn := hn.other hu (Ne.symm hne)
  replace hb := hb.upd hu hg
  clear hu
  go_wp2_with fail
  refine (spendYes_s1 g _ _ _ _ hm (by omega) (by omega) (by omega) (by omega)).mono ?_
  rintro e w4 ⟨rfl, hm, hu⟩
  replace hn := hn.other hu (Ne.symm hne)
  replace hb := hb.upd hu hg
  clear hu
  go_wp2_with fail
  refine (out_s1 g _ _ _ _ hm).mono ?_
  rintro e w' ⟨rfl, rfl⟩
  go_wp2_with fail
  refine (spendYes_s1 g _ _ _ _ hm (by omega) (by omega) (by omega) (by omega)).mono ?_
  rintro e w5 ⟨rfl, hm, hu⟩
  replace hn := hn.other hu (Ne.symm hne)
  replace hb := hb.upd hu hg
  clear hu
  go_wp2_with fail
  refine (spendNo_s1 g _ _ _ _ _ hm (by omega) (by omega) (.inr (by omega)) (by omega)).mono ?_
  rintro e w6 ⟨rfl, hm, hu⟩
  replace hn := hn.other hu (Ne.symm hne)
  replace hb := hb.upd hu hg
  clear hu
  go_wp2_with fail
  refine (spendNo_s1 g _ _ _ _ _ hm (by omega) (by omega) (.inl rfl) (by omega)).mono ?_
  rintro e w7 ⟨rfl, hm, hu⟩
  replace hn := hn.other hu (Ne.symm hne)
  replace hb := hb.upd hu hg
  clear hu
  go_wp2_with fail
  refine (spendYes_s1 g2 _ _ _ _ hn (by omega) (by omega) (by omega) (by omega)).mono ?_
  rintro e w8 ⟨rfl, hn, hu⟩
  replace hm := hm.other hu hne
  replace hb := hb.upd hu hg2
  clear hu
  go_wp2_with fail
  refine (spentEq_s1 g _ _ _ _ hm b (by omega)).mono ?_
  rintro e w' ⟨rfl, rfl⟩
  go_wp2_with fail
  refine (spentEq_s1 g2 _ _ _ _ hn b (by omega)).mono ?_
  rintro e w' ⟨rfl, rfl⟩
  go_wp2_with fail
  refine (wakes01 _).mono ?_
  rintro e w9 ⟨rfl, hb9⟩
  go_wp2
  go_ret
  exact ⟨rfl, hb.trans hb9⟩
set_option maxHeartbeats 4000000 in
theorem meterLast_cc (w : World) (b : Int) (hb0 : -9223372036854775808 ≤ b) (hb1 : b ≤ 9223372036854775807) (c : Int) (hB : 0 ≤ b ∧ b ≤ 1099511627776) (hC : b < c) :
    Calls Try.prog 8 #[.int .i64 b, .int .i64 c] w fun e w' => e = .returned (.bool true) ∧ Bel w w' := by
  try obtain ⟨hB, hB2⟩ := hB
  try obtain ⟨hC, hC2⟩ := hC
  go_enter Try.func8, Try.ntmps8
  go_wp2_with fail
  refine (newMeter_s1 _ _ (by omega)).mono ?_
  rintro e w1 ⟨g, rfl, hg, hm, hb⟩
  go_wp2_with fail
  refine (newMeter_s1 _ _ (by omega)).mono ?_
  rintro e w2 ⟨g2, rfl, hg2, hn, hb2⟩
  have hm := hm.to hb2
  have hne : g ≠ g2 := by have := hm.lt; have := hn.lt; have := ‹Met w1 _ g _ _ _›.lt; omega
  have hb := hb.trans hb2
  have hg2 : w.heap.size ≤ g2 := by have := ‹Bel w w1›.size; omega
  clear hb2
  go_wp2_with fail
  refine (spendYes_s1 g _ _ _ _ hm (by omega) (by omega) (by omega) (by omega)).mono ?_
  rintro e w3 ⟨rfl, hm, hu⟩
  replace hn := hn.other hu (Ne.symm hne)
  replace hb := hb.upd hu hg
  clear hu
  go_wp2_with fail
  refine (spendYes_s1 g _ _ _ _ hm (by omega) (by omega) (by omega) (by omega)).mono ?_
  rintro e w4 ⟨rfl, hm, hu⟩
  replace hn := hn.other hu (Ne.symm hne)
  replace hb := hb.upd hu hg
  clear hu
  go_wp2_with fail
  refine (out_s1 g _ _ _ _ hm).mono ?_
  rintro e w' ⟨rfl, rfl⟩
  go_wp2_with fail
  refine (spendYes_s1 g _ _ _ _ hm (by omega) (by omega) (by omega) (by omega)).mono ?_
  rintro e w5 ⟨rfl, hm, hu⟩
  replace hn := hn.other hu (Ne.symm hne)
  replace hb := hb.upd hu hg
  clear hu
  go_wp2_with fail
  refine (spendNo_s1 g _ _ _ _ _ hm (by omega) (by omega) (.inr (by omega)) (by omega)).mono ?_
  rintro e w6 ⟨rfl, hm, hu⟩
  replace hn := hn.other hu (Ne.symm hne)
  replace hb := hb.upd hu hg
  clear hu
  go_wp2_with fail
  refine (spendNo_s1 g _ _ _ _ _ hm (by omega) (by omega) (.inl rfl) (by omega)).mono ?_
  rintro e w7 ⟨rfl, hm, hu⟩
  replace hn := hn.other hu (Ne.symm hne)
  replace hb := hb.upd hu hg
  clear hu
  go_wp2_with fail
  refine (spendYes_s1 g2 _ _ _ _ hn (by omega) (by omega) (by omega) (by omega)).mono ?_
  rintro e w8 ⟨rfl, hn, hu⟩
  replace hm := hm.other hu hne
  replace hb := hb.upd hu hg2
  clear hu
  go_wp2_with fail
  refine (spentEq_s1 g _ _ _ _ hm b (by omega)).mono ?_
  rintro e w' ⟨rfl, rfl⟩
  go_wp2_with fail
  refine (spentEq_s1 g2 _ _ _ _ hn b (by omega)).mono ?_
  rintro e w' ⟨rfl, rfl⟩
  go_wp2_with fail
  refine (wakes01 _).mono ?_
  rintro e w9 ⟨rfl, hb9⟩
  go_wp2
  go_ret
  exact ⟨rfl, hb.trans hb9⟩
theorem MeterLast_walk (w : World) (b : Int) (hb : inI64 b) (c : Int) (_ : inI64 c) :
    Calls Try.prog 8 #[.int .i64 b, .int .i64 c] w fun e w' => e = .returned (.bool true) ∧ Bel w w' := by
  obtain ⟨hb0, hb1⟩ := hb
  by_cases h0 : b < 0
  · by_cases k0 : c < 0
    · exact meterLast_aa w b hb0 hb1 c h0 k0
    · by_cases k1 : c ≤ 7
      · exact meterLast_ab w b hb0 hb1 c h0 ⟨by omega, k1⟩
      · exact meterLast_ac w b hb0 hb1 c h0 (by omega)
  · by_cases h1 : 1099511627776 < b
    · by_cases k0 : c < 0
      · exact meterLast_ba w b hb0 hb1 c h1 k0
      · by_cases k1 : c ≤ 7
        · exact meterLast_bb w b hb0 hb1 c h1 ⟨by omega, k1⟩
        · exact meterLast_bc w b hb0 hb1 c h1 (by omega)
    · by_cases k0 : c < 0
      · exact meterLast_ca w b hb0 hb1 c ⟨by omega, by omega⟩ k0
      · by_cases k1 : c ≤ b
        · exact meterLast_cb w b hb0 hb1 c ⟨by omega, by omega⟩ ⟨by omega, k1⟩
        · exact meterLast_cc w b hb0 hb1 c ⟨by omega, by omega⟩ (by omega)
end Go.Proofs.Ytpkofpnfnpicmaa
namespace Go.Proofs.Ytpkofpnfnpicmaa.rowMeterLast
open Go.ChangeShapes Go.WideShapes Go.ChangeAt Go.RowKit Go.Cb
open Go.ChangeMaps (open_string shut_string)
theorem own : ownKnob Try.prog.godebug = none := by kernel_rfl
theorem laidOut : laidOutB Try.prog = true := by kernel_rfl
set_option maxRecDepth 100000 in
theorem lifted (os : Os) (started : os.Started) (H : Type) (enc : TypeId × Value → H) :
    ReturnsInHanded {} Try.checked os 8 .any (Rows.meterLastSpec.pre6 enc Try.prog Try.f8 Rows.meterLastRow.domain false) (Rows.meterLastSpec.post enc Try.prog Try.f8 false true false false) := by
  refine returnsInHanded_of_change_sized (C := Try.checked) own started (by kernel_rfl) Try.func8
    (ChangeSpec.witness6 (enc := enc) (C := Try.checked) false ⟨#[], #[.int .i64 0, .int .i64 0], []⟩ 8 (by kernel_rfl) (by kernel_rfl) (by kernel_rfl) (by kernel_rfl)) ?_
  intro W base args ds gs before hval0 hW hcnd hsz0 _
  have hsz : (DataW.weightsEach Try.prog (Try.f8.params.toList ++ Rows.meterLastSpec.plain.varTypes Try.prog) (ds ++ gs)).all (· ≤ reachBytes) = true := hsz0
  have hval : ∀ (j : Nat) t v, Try.f8.params[j]? = some t → args[j]? = some v → Value.okWide Try.prog W .any base t v := hval0
  have hW' := hW
  obtain ⟨p, q, hA0, hV, rfl, hfz, hnd⟩ := hW
  have hA : DataW.TrodAll enc Try.prog W 0 (fun _ => true) true Try.f8.params.toList args.toList ds p := hA0
  rw [Try.params8] at hA hval hsz
  obtain ⟨v0, vs0, d0, ds0, p0, q0, hargs, rfl, rfl, h0, r0⟩ := trodAll_cons hA
  obtain ⟨v1, vs1, d1, ds1, p1, q1, rfl, rfl, rfl, h1, r1⟩ := trodAll_cons r0
  obtain ⟨rfl, rfl, rfl⟩ := trodAll_nil r1
  obtain rfl : args = #[v0, v1] := by cases args; simp_all
  obtain ⟨rfl, rfl⟩ := trodVars_none hV
  obtain ⟨a0, rfl, rfl, rfl, w0⟩ := open_int Try.underlying3 (hval 0 3 v0 rfl rfl) h0
  obtain ⟨a1, rfl, rfl, rfl, w1⟩ := open_int Try.underlying3 (hval 1 3 v1 rfl rfl) h1
  clear hA0 hval0 hsz0 hsz
  refine (MeterLast_walk W a0 (inI64_wf w0) a1 (inI64_wf w1)).mono fun e W' ⟨he, bel⟩ => ?_
  subst he
  exact ⟨_, rfl, _, _, _, [], _, [], hW', trodAll_mk1 (shut_bool Try.underlying4 _), (trodAll_cons_mk (shut_int Try.underlying3 w0) (trodAll_cons_mk (shut_int Try.underlying3 w1) trodAll_mk0)), rfl, bel.out.frame _, fun h => by cases h⟩
theorem over : Rows.meterLastRow.holds Try.pinned (OpenSpec.ofChange Rows.meterLastSpec) :=
  OpenClaim.holds_of_wide 8 Try.f8 rfl rfl rfl rfl rfl rfl rfl ⟨rfl, rfl, rfl, rfl, rfl⟩ rfl rfl rfl rfl rfl (by kernel_rfl) Try.func8 (by kernel_rfl)
    (of_decide_eq_true (by kernel_rfl)) (by unfold Func.isWrapper; first | (rw [if_pos (by decide +kernel)]; kernel_rfl) | (rw [if_neg (by decide +kernel)]; exact ⟨rfl, rfl⟩))
    (fun os started H enc _ => lifted os started H enc)
end Go.Proofs.Ytpkofpnfnpicmaa.rowMeterLast
namespace Go.Proofs.Ytpkofpnfnpicmaa
theorem MeterLast_holds : Rows.MeterLastSaid := rowMeterLast.over
#print axioms MeterLast_holds
end Go.Proofs.Ytpkofpnfnpicmaa
