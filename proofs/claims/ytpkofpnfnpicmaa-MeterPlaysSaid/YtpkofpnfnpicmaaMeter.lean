/- Walks: meters, the program's and the document's. -/
import Derived.Test.YtpkofpnfnpicmaaNum
namespace Go.Proofs.Ytpkofpnfnpicmaa
open Go.RowKit Go.Cb

set_option maxHeartbeats 1000000 in
theorem spendNil_s1 (n : Int) (w : World) :
    Calls Try.prog 22 #[.pointer none, .int .i64 n] w fun e w' => e = .returned (.bool true) ∧ w = w' := by
  go_enter Try.func22, Try.ntmps22
  go_wp2
  go_ret
  exact ⟨rfl, rfl⟩

set_option maxHeartbeats 1000000 in
theorem spend_s1 (g : Nat) (b s : Int) (o : Bool) (n : Int) (w : World) (hg : Met w 58 g b s o) (h0 : 0 ≤ s) (h1 : s ≤ b) (h2 : b ≤ 9223372036854775807) :
    Calls Try.prog 22 #[.pointer (some ⟨g, 0, none⟩), .int .i64 n] w fun e w' => e = .returned (.bool (spendOk b s o n)) ∧ Met w' 58 g b (spendS b s o n) (spendO b s o n) ∧ Upd g w w' := by
  obtain ⟨c0, c1, c2, cf⟩ := hg.cells
  have f1 := cf 1
  have f2 := cf 2
  clear cf
  cases o with
  | true =>
    have Hk := Lib.hid (show spendOk b s true n = false from rfl)
    have Hs := Lib.hid (show spendS b s true n = s from rfl)
    have Ho := Lib.hid (show spendO b s true n = true from rfl)
    by_cases hn : n < 0
    all_goals
      go_enter Try.func22, Try.ntmps22
      go_wp2
      go_quiet (fail)
      go_wp2
      go_ret
      rw [Hk.out, Hs.out, Ho.out]
      exact ⟨rfl, (hg.drewN _).setO true, ((Upd.refl g w).drewN _).set rfl _⟩
  | false =>
    by_cases hn : n < 0
    · have Hk := Lib.hid (show spendOk b s false n = true from by simp [spendOk]; omega)
      have Hs := Lib.hid (show spendS b s false n = s from by unfold spendS; rw [if_pos Hk.out]; omega)
      have Ho := Lib.hid (show spendO b s false n = false from by unfold spendO; rw [Hk.out]; rfl)
      have d : decide (b - s < 0) = false := decide_eq_false (by omega)
      go_enter Try.func22, Try.ntmps22
      go_wp2
      go_quiet (fail)
      go_wp2
      go_ret
      rw [Hk.out, Hs.out, Ho.out]
      exact ⟨rfl, (hg.drewN _).setS s, ((Upd.refl g w).drewN _).set rfl _⟩
    · by_cases hs : n ≤ b - s
      · have Hk := Lib.hid (show spendOk b s false n = true from by simp [spendOk]; omega)
        have Hs := Lib.hid (show spendS b s false n = s + n from by unfold spendS; rw [if_pos Hk.out]; omega)
        have Ho := Lib.hid (show spendO b s false n = false from by unfold spendO; rw [Hk.out]; rfl)
        have d : decide (b - s < n) = false := decide_eq_false (by omega)
        go_enter Try.func22, Try.ntmps22
        go_wp2
        go_quiet (fail)
        go_wp2
        go_ret
        rw [Hk.out, Hs.out, Ho.out]
        exact ⟨rfl, (hg.drewN _).setS _, ((Upd.refl g w).drewN _).set rfl _⟩
      · have Hk := Lib.hid (show spendOk b s false n = false from by simp [spendOk]; omega)
        have Hs := Lib.hid (show spendS b s false n = s from by unfold spendS; rw [Hk.out]; rfl)
        have Ho := Lib.hid (show spendO b s false n = true from by unfold spendO; rw [Hk.out]; rfl)
        have d : decide (b - s < n) = true := decide_eq_true (by omega)
        go_enter Try.func22, Try.ntmps22
        go_wp2
        go_quiet (fail)
        go_wp2
        go_ret
        rw [Hk.out, Hs.out, Ho.out]
        exact ⟨rfl, (hg.drewN _).setO true, ((Upd.refl g w).drewN _).set rfl _⟩
theorem spendYes_s1 (g : Nat) (b s n : Int) (w : World) (hg : Met w 58 g b s false) (h0 : 0 ≤ s) (hn : 0 ≤ n) (hs : s + n ≤ b) (h2 : b ≤ 9223372036854775807) :
    Calls Try.prog 22 #[.pointer (some ⟨g, 0, none⟩), .int .i64 n] w fun e w' => e = .returned (.bool true) ∧ Met w' 58 g b (s + n) false ∧ Upd g w w' := by
  have Hk : spendOk b s false n = true := by simp [spendOk]; omega
  refine (spend_s1 g b s false n w hg h0 (by omega) h2).mono ?_
  rintro e w' ⟨rfl, hm, hu⟩
  rw [Hk]
  rw [show spendS b s false n = s + n from by unfold spendS; rw [if_pos Hk]; omega, show spendO b s false n = false from by unfold spendO; rw [Hk]; rfl] at hm
  exact ⟨rfl, hm, hu⟩
theorem spendNeg_s1 (g : Nat) (b s n : Int) (w : World) (hg : Met w 58 g b s false) (h0 : 0 ≤ s) (h1 : s ≤ b) (hn : n < 0) (h2 : b ≤ 9223372036854775807) :
    Calls Try.prog 22 #[.pointer (some ⟨g, 0, none⟩), .int .i64 n] w fun e w' => e = .returned (.bool true) ∧ Met w' 58 g b s false ∧ Upd g w w' := by
  have Hk : spendOk b s false n = true := by simp [spendOk]; omega
  refine (spend_s1 g b s false n w hg h0 (by omega) h2).mono ?_
  rintro e w' ⟨rfl, hm, hu⟩
  rw [Hk]
  rw [show spendS b s false n = s from by unfold spendS; rw [if_pos Hk]; omega, show spendO b s false n = false from by unfold spendO; rw [Hk]; rfl] at hm
  exact ⟨rfl, hm, hu⟩
theorem spendNo_s1 (g : Nat) (b s n : Int) (o : Bool) (w : World) (hg : Met w 58 g b s o) (h0 : 0 ≤ s) (h1 : s ≤ b) (hs : o = true ∨ b < s + n) (h2 : b ≤ 9223372036854775807) :
    Calls Try.prog 22 #[.pointer (some ⟨g, 0, none⟩), .int .i64 n] w fun e w' => e = .returned (.bool false) ∧ Met w' 58 g b s true ∧ Upd g w w' := by
  have Hk : spendOk b s o n = false := by
    rcases hs with rfl | hs
    · rfl
    · cases o <;> simp [spendOk]; omega
  refine (spend_s1 g b s o n w hg h0 h1 h2).mono ?_
  rintro e w' ⟨rfl, hm, hu⟩
  rw [Hk]
  rw [show spendS b s o n = s from by unfold spendS; rw [Hk]; rfl, show spendO b s o n = true from by unfold spendO; rw [Hk]; rfl] at hm
  exact ⟨rfl, hm, hu⟩

set_option maxHeartbeats 1000000 in
theorem newMeter_s1 (b : Int) (w : World) (hb : b ≤ 9223372036854775807) :
    Calls Try.prog 20 #[.int .i64 b] w fun e w' => ∃ g, e = .returned (.pointer (some ⟨g, 0, none⟩)) ∧ w.heap.size ≤ g ∧ Met w' 58 g (max b 0) 0 false ∧ Bel w w' := by
  by_cases h : b < 0
  · have Hm := Lib.hid (show max b 0 = 0 from by omega)
    go_enter Try.func20, Try.ntmps20
    go_wp2
    go_ret
    rw [Hm.out]
    exact ⟨_, rfl, Nat.le_refl _, heap_alloc_new w _, (Bel.refl _).alloc _⟩
  · have Hm := Lib.hid (show max b 0 = b from by omega)
    go_enter Try.func20, Try.ntmps20
    go_wp2
    go_ret
    rw [Hm.out]
    exact ⟨_, rfl, Nat.le_refl _, heap_alloc_new w _, (Bel.refl _).alloc _⟩

set_option maxHeartbeats 1000000 in
theorem spentNil_s1 (w : World) :
    Calls Try.prog 24 #[.pointer none] w fun e w' => e = .returned (.int .i64 0) ∧ w = w' := by
  go_enter Try.func24, Try.ntmps24
  go_wp2
  go_ret
  exact ⟨rfl, rfl⟩
set_option maxHeartbeats 1000000 in
theorem spent_s1 (g : Nat) (b s : Int) (o : Bool) (w : World) (hg : Met w 58 g b s o) :
    Calls Try.prog 24 #[.pointer (some ⟨g, 0, none⟩)] w fun e w' => e = .returned (.int .i64 s) ∧ w = w' := by
  obtain ⟨c0, c1, c2, cf⟩ := hg.cells
  clear cf
  go_enter Try.func24, Try.ntmps24
  go_wp2
  go_ret
  exact ⟨rfl, rfl⟩
theorem spentEq_s1 (g : Nat) (b s : Int) (o : Bool) (w : World) (hg : Met w 58 g b s o) (s' : Int) (hs : s = s') :
    Calls Try.prog 24 #[.pointer (some ⟨g, 0, none⟩)] w fun e w' => e = .returned (.int .i64 s') ∧ w = w' := by subst hs; exact spent_s1 g b s o w hg
set_option maxHeartbeats 1000000 in
theorem outNil_s1 (w : World) :
    Calls Try.prog 25 #[.pointer none] w fun e w' => e = .returned (.bool false) ∧ w = w' := by
  go_enter Try.func25, Try.ntmps25
  go_wp2
  go_ret
  exact ⟨rfl, rfl⟩
set_option maxHeartbeats 1000000 in
theorem out_s1 (g : Nat) (b s : Int) (o : Bool) (w : World) (hg : Met w 58 g b s o) :
    Calls Try.prog 25 #[.pointer (some ⟨g, 0, none⟩)] w fun e w' => e = .returned (.bool o) ∧ w = w' := by
  obtain ⟨c0, c1, c2, cf⟩ := hg.cells
  clear cf
  go_enter Try.func25, Try.ntmps25
  go_wp2
  go_ret
  exact ⟨rfl, rfl⟩
set_option maxHeartbeats 1000000 in
theorem spendNil_s2 (n : Int) (w : World) :
    Calls Try.prog 23 #[.pointer none, .int .i64 n] w fun e w' => e = .returned (.bool true) ∧ w = w' := by
  go_enter Try.func23, Try.ntmps23
  go_wp2
  go_ret
  exact ⟨rfl, rfl⟩

set_option maxHeartbeats 1000000 in
theorem spend_s2 (g : Nat) (b s : Int) (o : Bool) (n : Int) (w : World) (hg : Met w 36 g b s o) (h0 : 0 ≤ s) (h1 : s ≤ b) (h2 : b ≤ 9223372036854775807) :
    Calls Try.prog 23 #[.pointer (some ⟨g, 0, none⟩), .int .i64 n] w fun e w' => e = .returned (.bool (spendOk b s o n)) ∧ Met w' 36 g b (spendS b s o n) (spendO b s o n) ∧ Upd g w w' := by
  obtain ⟨c0, c1, c2, cf⟩ := hg.cells
  have f1 := cf 1
  have f2 := cf 2
  clear cf
  cases o with
  | true =>
    have Hk := Lib.hid (show spendOk b s true n = false from rfl)
    have Hs := Lib.hid (show spendS b s true n = s from rfl)
    have Ho := Lib.hid (show spendO b s true n = true from rfl)
    by_cases hn : n < 0
    all_goals
      go_enter Try.func23, Try.ntmps23
      go_wp2
      go_quiet (fail)
      go_wp2
      go_ret
      rw [Hk.out, Hs.out, Ho.out]
      exact ⟨rfl, (hg.drewN _).setO true, ((Upd.refl g w).drewN _).set rfl _⟩
  | false =>
    by_cases hn : n < 0
    · have Hk := Lib.hid (show spendOk b s false n = true from by simp [spendOk]; omega)
      have Hs := Lib.hid (show spendS b s false n = s from by unfold spendS; rw [if_pos Hk.out]; omega)
      have Ho := Lib.hid (show spendO b s false n = false from by unfold spendO; rw [Hk.out]; rfl)
      have d : decide (b - s < 0) = false := decide_eq_false (by omega)
      go_enter Try.func23, Try.ntmps23
      go_wp2
      go_quiet (fail)
      go_wp2
      go_ret
      rw [Hk.out, Hs.out, Ho.out]
      exact ⟨rfl, (hg.drewN _).setS s, ((Upd.refl g w).drewN _).set rfl _⟩
    · by_cases hs : n ≤ b - s
      · have Hk := Lib.hid (show spendOk b s false n = true from by simp [spendOk]; omega)
        have Hs := Lib.hid (show spendS b s false n = s + n from by unfold spendS; rw [if_pos Hk.out]; omega)
        have Ho := Lib.hid (show spendO b s false n = false from by unfold spendO; rw [Hk.out]; rfl)
        have d : decide (b - s < n) = false := decide_eq_false (by omega)
        go_enter Try.func23, Try.ntmps23
        go_wp2
        go_quiet (fail)
        go_wp2
        go_ret
        rw [Hk.out, Hs.out, Ho.out]
        exact ⟨rfl, (hg.drewN _).setS _, ((Upd.refl g w).drewN _).set rfl _⟩
      · have Hk := Lib.hid (show spendOk b s false n = false from by simp [spendOk]; omega)
        have Hs := Lib.hid (show spendS b s false n = s from by unfold spendS; rw [Hk.out]; rfl)
        have Ho := Lib.hid (show spendO b s false n = true from by unfold spendO; rw [Hk.out]; rfl)
        have d : decide (b - s < n) = true := decide_eq_true (by omega)
        go_enter Try.func23, Try.ntmps23
        go_wp2
        go_quiet (fail)
        go_wp2
        go_ret
        rw [Hk.out, Hs.out, Ho.out]
        exact ⟨rfl, (hg.drewN _).setO true, ((Upd.refl g w).drewN _).set rfl _⟩
theorem spendYes_s2 (g : Nat) (b s n : Int) (w : World) (hg : Met w 36 g b s false) (h0 : 0 ≤ s) (hn : 0 ≤ n) (hs : s + n ≤ b) (h2 : b ≤ 9223372036854775807) :
    Calls Try.prog 23 #[.pointer (some ⟨g, 0, none⟩), .int .i64 n] w fun e w' => e = .returned (.bool true) ∧ Met w' 36 g b (s + n) false ∧ Upd g w w' := by
  have Hk : spendOk b s false n = true := by simp [spendOk]; omega
  refine (spend_s2 g b s false n w hg h0 (by omega) h2).mono ?_
  rintro e w' ⟨rfl, hm, hu⟩
  rw [Hk]
  rw [show spendS b s false n = s + n from by unfold spendS; rw [if_pos Hk]; omega, show spendO b s false n = false from by unfold spendO; rw [Hk]; rfl] at hm
  exact ⟨rfl, hm, hu⟩
theorem spendNeg_s2 (g : Nat) (b s n : Int) (w : World) (hg : Met w 36 g b s false) (h0 : 0 ≤ s) (h1 : s ≤ b) (hn : n < 0) (h2 : b ≤ 9223372036854775807) :
    Calls Try.prog 23 #[.pointer (some ⟨g, 0, none⟩), .int .i64 n] w fun e w' => e = .returned (.bool true) ∧ Met w' 36 g b s false ∧ Upd g w w' := by
  have Hk : spendOk b s false n = true := by simp [spendOk]; omega
  refine (spend_s2 g b s false n w hg h0 (by omega) h2).mono ?_
  rintro e w' ⟨rfl, hm, hu⟩
  rw [Hk]
  rw [show spendS b s false n = s from by unfold spendS; rw [if_pos Hk]; omega, show spendO b s false n = false from by unfold spendO; rw [Hk]; rfl] at hm
  exact ⟨rfl, hm, hu⟩
theorem spendNo_s2 (g : Nat) (b s n : Int) (o : Bool) (w : World) (hg : Met w 36 g b s o) (h0 : 0 ≤ s) (h1 : s ≤ b) (hs : o = true ∨ b < s + n) (h2 : b ≤ 9223372036854775807) :
    Calls Try.prog 23 #[.pointer (some ⟨g, 0, none⟩), .int .i64 n] w fun e w' => e = .returned (.bool false) ∧ Met w' 36 g b s true ∧ Upd g w w' := by
  have Hk : spendOk b s o n = false := by
    rcases hs with rfl | hs
    · rfl
    · cases o <;> simp [spendOk]; omega
  refine (spend_s2 g b s o n w hg h0 h1 h2).mono ?_
  rintro e w' ⟨rfl, hm, hu⟩
  rw [Hk]
  rw [show spendS b s o n = s from by unfold spendS; rw [Hk]; rfl, show spendO b s o n = true from by unfold spendO; rw [Hk]; rfl] at hm
  exact ⟨rfl, hm, hu⟩

set_option maxHeartbeats 1000000 in
theorem newMeter_s2 (b : Int) (w : World) (hb : b ≤ 9223372036854775807) :
    Calls Try.prog 21 #[.int .i64 b] w fun e w' => ∃ g, e = .returned (.pointer (some ⟨g, 0, none⟩)) ∧ w.heap.size ≤ g ∧ Met w' 36 g (max b 0) 0 false ∧ Bel w w' := by
  by_cases h : b < 0
  · have Hm := Lib.hid (show max b 0 = 0 from by omega)
    go_enter Try.func21, Try.ntmps21
    go_wp2
    go_ret
    rw [Hm.out]
    exact ⟨_, rfl, Nat.le_refl _, heap_alloc_new w _, (Bel.refl _).alloc _⟩
  · have Hm := Lib.hid (show max b 0 = b from by omega)
    go_enter Try.func21, Try.ntmps21
    go_wp2
    go_ret
    rw [Hm.out]
    exact ⟨_, rfl, Nat.le_refl _, heap_alloc_new w _, (Bel.refl _).alloc _⟩


set_option maxHeartbeats 1000000 in
theorem wakes01 (w : World) :
    Calls Try.prog 26 #[] w fun e w' => e = .returned (.bool true) ∧ Bel w w' := by
  go_enter Try.func26, Try.ntmps26
  go_wp2_with (first
    | (go_at_call 29; refine (mul_c _ _ _).mono ?_; rintro e w' ⟨rfl, rfl⟩)
    | (go_at_call 27; refine (add_c _ _ _).mono ?_; rintro e w' ⟨rfl, rfl⟩)
    | (go_at_call 20; refine (newMeter_s1 _ _ (by omega)).mono ?_; rintro e w1 ⟨g, rfl, hg, hm, hb⟩))
  have hm : Met w1 58 g 2 0 false := hm
  refine (spend_s1 g 2 0 false 2 w1 hm (by omega) (by omega) (by omega)).mono ?_
  rintro e w2 ⟨rfl, hm2, hu2⟩
  have hm2 : Met w2 58 g 2 2 false := hm2
  rw [show spendOk 2 0 false 2 = true from rfl]
  go_wp2_with fail
  refine (spend_s1 g 2 2 false 1 w2 hm2 (by omega) (by omega) (by omega)).mono ?_
  rintro e w3 ⟨rfl, hm3, hu3⟩
  have hm3 : Met w3 58 g 2 2 true := hm3
  rw [show spendOk 2 2 false 1 = false from rfl]
  go_wp2_with fail
  refine (spent_s1 g 2 2 true w3 hm3).mono ?_
  rintro e w' ⟨rfl, rfl⟩
  go_wp2_with fail
  refine (out_s1 g 2 2 true w3 hm3).mono ?_
  rintro e w' ⟨rfl, rfl⟩
  go_wp2
  go_ret
  exact ⟨rfl, (hb.upd hu2 hg).upd hu3 hg⟩
end Go.Proofs.Ytpkofpnfnpicmaa
