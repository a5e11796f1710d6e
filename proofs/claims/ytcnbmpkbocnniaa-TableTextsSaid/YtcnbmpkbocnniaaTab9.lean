/- Walks of tables: a table that there is not; Fold; the example of the document. -/
import Derived.Test.YtcnbmpkbocnniaaTab8
namespace Go.Proofs.Ytcnbmpkbocnniaa
open Go.RowKit Go.Cb
set_option maxHeartbeats 4000000 in
theorem fold_i (f : FuncId) (hcf : ∀ (args : Array Value) (w : World), (callFunc f args).run Try.prog w = .ok (.enter f args) w) (I : Nat → Value → World → Prop) {w : World} {base g : Nat} {v : Value} {xs : List (Int × Int)} (h : Tab (Value.int .i64) (Value.int .i64) 93 96 w base g v xs)
    (hB : ∀ j a w1 w2, I j a w1 → Bel w1 w2 → I j a w2) (hR : ∀ j a w1, I j a w1 → RowP (Value.int .i64) (Value.int .i64) 96 w1 base v xs)
    (hI : ∀ j a w1 x, I j a w1 → xs[j]? = some x → Calls Try.prog f #[a, .int .i64 x.1, .int .i64 x.2] w1 fun e w2 => ∃ a', e = .returned a' ∧ I (j + 1) a' w2) (a : Value) (h0 : I 0 a w) :
    Calls Try.prog 27 #[.pointer (some ⟨g, 0, none⟩), a, .func (.func f) #[] #[]] w fun e w' => ∃ a', e = .returned a' ∧ I xs.length a' w' := by
  obtain ⟨A, c, rfl⟩ : ∃ A c, v = .slice A xs.length c := by
    rcases h.row.form with ⟨h1, h2⟩ | ⟨g', c', h1, _⟩
    · exact ⟨none, 0, by rw [h1, h2]; rfl⟩
    · exact ⟨_, _, h1⟩
  have hlm : xs.length ≤ 9223372036854775807 := by
    rcases h.row.form with ⟨_, h2⟩ | ⟨g, c', h1, h2, h3, h4, h5⟩
    · rw [h2]; simp
    · unfold maxLen at h5; omega
  have hc0 : w.cell? ⟨g, 0, none⟩ = some (.slice A xs.length c) := cellAt h.box 0
  have HB := Lib.hid hB
  have HR := Lib.hid hR
  have HI := Lib.hid hI
  have H0 := Lib.hid h0
  clear hB hR hI h0 h
  go_enter Try.func27, Try.ntmps27
  go_wp2
  clear hc0
  go_loopw [1, 17] (fun v1 v17 wr => ∃ (k : Nat) (W : World), W = wr ∧ k ≤ xs.length ∧ v17 = .int .i64 k ∧ Hid (I k v1 wr)) (fun _ v17 _ => xs.length - (intOf v17).toNat)
  case atStart => exact ⟨0, _, rfl, Nat.zero_le _, rfl, H0⟩
  case round =>
    clear H0
    obtain ⟨k, W, rfl, hk, rfl, HK⟩ := hrel
    by_cases hlt : k < xs.length
    · obtain ⟨g1, ⟨kx, x⟩, rfl, _, hx, hg, hc1, hc2⟩ := (HR.out _ _ _ HK.out).at hlt
      dsimp only at hc1 hc2
      have HX := Lib.hid hx
      clear hx
      go_wp2_with fail
      refine (HI.out k _ _ (kx, x) (HB.out _ _ _ _ HK.out ((Bel.refl W).alloc _)) HX.out).mono ?_
      rintro e w2 ⟨a2, rfl, h2⟩
      have HK2 := Lib.hid h2
      clear h2
      go_wp2
      go_roundw
      case rel => exact ⟨k + 1, _, rfl, by omega, by go_num, HK2⟩
      case measure => simp [intOf]; omega
    · obtain rfl : k = xs.length := by omega
      go_wp2
      go_ret
      exact ⟨_, rfl, HK.out⟩
theorem foldNil_i (f : Value) (a : Value) (w : World) : Calls Try.prog 27 #[.pointer none, a, f] w fun e w' => e = .returned a ∧ w = w' := by
  go_enter Try.func27, Try.ntmps27
  go_wp2
  go_ret
  exact ⟨rfl, rfl⟩
set_option maxHeartbeats 4000000 in
theorem fold_l (f : FuncId) (hcf : ∀ (args : Array Value) (w : World), (callFunc f args).run Try.prog w = .ok (.enter f args) w) (I : Nat → Value → World → Prop) {w : World} {base g : Nat} {v : Value} {xs : List (Int × Int)} (h : Tab (Value.int .i64) (Value.int .i64) 93 96 w base g v xs)
    (hB : ∀ j a w1 w2, I j a w1 → Bel w1 w2 → I j a w2) (hR : ∀ j a w1, I j a w1 → RowP (Value.int .i64) (Value.int .i64) 96 w1 base v xs)
    (hI : ∀ j a w1 x, I j a w1 → xs[j]? = some x → Calls Try.prog f #[a, .int .i64 x.1, .int .i64 x.2] w1 fun e w2 => ∃ a', e = .returned a' ∧ I (j + 1) a' w2) (a : Value) (h0 : I 0 a w) :
    Calls Try.prog 29 #[.pointer (some ⟨g, 0, none⟩), a, .func (.func f) #[] #[]] w fun e w' => ∃ a', e = .returned a' ∧ I xs.length a' w' := by
  obtain ⟨A, c, rfl⟩ : ∃ A c, v = .slice A xs.length c := by
    rcases h.row.form with ⟨h1, h2⟩ | ⟨g', c', h1, _⟩
    · exact ⟨none, 0, by rw [h1, h2]; rfl⟩
    · exact ⟨_, _, h1⟩
  have hlm : xs.length ≤ 9223372036854775807 := by
    rcases h.row.form with ⟨_, h2⟩ | ⟨g, c', h1, h2, h3, h4, h5⟩
    · rw [h2]; simp
    · unfold maxLen at h5; omega
  have hc0 : w.cell? ⟨g, 0, none⟩ = some (.slice A xs.length c) := cellAt h.box 0
  have HB := Lib.hid hB
  have HR := Lib.hid hR
  have HI := Lib.hid hI
  have H0 := Lib.hid h0
  clear hB hR hI h0 h
  go_enter Try.func29, Try.ntmps29
  go_wp2
  clear hc0
  go_loopw [1, 17] (fun v1 v17 wr => ∃ (k : Nat) (W : World), W = wr ∧ k ≤ xs.length ∧ v17 = .int .i64 k ∧ Hid (I k v1 wr)) (fun _ v17 _ => xs.length - (intOf v17).toNat)
  case atStart => exact ⟨0, _, rfl, Nat.zero_le _, rfl, H0⟩
  case round =>
    clear H0
    obtain ⟨k, W, rfl, hk, rfl, HK⟩ := hrel
    by_cases hlt : k < xs.length
    · obtain ⟨g1, ⟨kx, x⟩, rfl, _, hx, hg, hc1, hc2⟩ := (HR.out _ _ _ HK.out).at hlt
      dsimp only at hc1 hc2
      have HX := Lib.hid hx
      clear hx
      go_wp2_with fail
      refine (HI.out k _ _ (kx, x) (HB.out _ _ _ _ HK.out ((Bel.refl W).alloc _)) HX.out).mono ?_
      rintro e w2 ⟨a2, rfl, h2⟩
      have HK2 := Lib.hid h2
      clear h2
      go_wp2
      go_roundw
      case rel => exact ⟨k + 1, _, rfl, by omega, by go_num, HK2⟩
      case measure => simp [intOf]; omega
    · obtain rfl : k = xs.length := by omega
      go_wp2
      go_ret
      exact ⟨_, rfl, HK.out⟩
theorem foldNil_l (f : Value) (a : Value) (w : World) : Calls Try.prog 29 #[.pointer none, a, f] w fun e w' => e = .returned a ∧ w = w' := by
  go_enter Try.func29, Try.ntmps29
  go_wp2
  go_ret
  exact ⟨rfl, rfl⟩
set_option maxHeartbeats 4000000 in
theorem fold_t (f : FuncId) (hcf : ∀ (args : Array Value) (w : World), (callFunc f args).run Try.prog w = .ok (.enter f args) w) (I : Nat → Value → World → Prop) {w : World} {base g : Nat} {v : Value} {xs : List (Int × Int)} (h : Tab (Value.int .i64) (Value.int .i64) 93 96 w base g v xs)
    (hB : ∀ j a w1 w2, I j a w1 → Bel w1 w2 → I j a w2) (hR : ∀ j a w1, I j a w1 → RowP (Value.int .i64) (Value.int .i64) 96 w1 base v xs)
    (hI : ∀ j a w1 x, I j a w1 → xs[j]? = some x → Calls Try.prog f #[a, .int .i64 x.1, .int .i64 x.2] w1 fun e w2 => ∃ a', e = .returned a' ∧ I (j + 1) a' w2) (a : Value) (h0 : I 0 a w) :
    Calls Try.prog 80 #[.pointer (some ⟨g, 0, none⟩), a, .func (.func f) #[] #[]] w fun e w' => ∃ a', e = .returned a' ∧ I xs.length a' w' := by
  obtain ⟨A, c, rfl⟩ : ∃ A c, v = .slice A xs.length c := by
    rcases h.row.form with ⟨h1, h2⟩ | ⟨g', c', h1, _⟩
    · exact ⟨none, 0, by rw [h1, h2]; rfl⟩
    · exact ⟨_, _, h1⟩
  have hlm : xs.length ≤ 9223372036854775807 := by
    rcases h.row.form with ⟨_, h2⟩ | ⟨g, c', h1, h2, h3, h4, h5⟩
    · rw [h2]; simp
    · unfold maxLen at h5; omega
  have hc0 : w.cell? ⟨g, 0, none⟩ = some (.slice A xs.length c) := cellAt h.box 0
  have HB := Lib.hid hB
  have HR := Lib.hid hR
  have HI := Lib.hid hI
  have H0 := Lib.hid h0
  clear hB hR hI h0 h
  go_enter Try.func80, Try.ntmps80
  go_wp2
  clear hc0
  go_loopw [1, 17] (fun v1 v17 wr => ∃ (k : Nat) (W : World), W = wr ∧ k ≤ xs.length ∧ v17 = .int .i64 k ∧ Hid (I k v1 wr)) (fun _ v17 _ => xs.length - (intOf v17).toNat)
  case atStart => exact ⟨0, _, rfl, Nat.zero_le _, rfl, H0⟩
  case round =>
    clear H0
    obtain ⟨k, W, rfl, hk, rfl, HK⟩ := hrel
    by_cases hlt : k < xs.length
    · obtain ⟨g1, ⟨kx, x⟩, rfl, _, hx, hg, hc1, hc2⟩ := (HR.out _ _ _ HK.out).at hlt
      dsimp only at hc1 hc2
      have HX := Lib.hid hx
      clear hx
      go_wp2_with fail
      refine (HI.out k _ _ (kx, x) (HB.out _ _ _ _ HK.out ((Bel.refl W).alloc _)) HX.out).mono ?_
      rintro e w2 ⟨a2, rfl, h2⟩
      have HK2 := Lib.hid h2
      clear h2
      go_wp2
      go_roundw
      case rel => exact ⟨k + 1, _, rfl, by omega, by go_num, HK2⟩
      case measure => simp [intOf]; omega
    · obtain rfl : k = xs.length := by omega
      go_wp2
      go_ret
      exact ⟨_, rfl, HK.out⟩
theorem foldNil_t (f : Value) (a : Value) (w : World) : Calls Try.prog 80 #[.pointer none, a, f] w fun e w' => e = .returned a ∧ w = w' := by
  go_enter Try.func80, Try.ntmps80
  go_wp2
  go_ret
  exact ⟨rfl, rfl⟩
theorem lenNil_ii (w : World) : Calls Try.prog 25 #[.pointer none] w fun e w' => e = .returned (.int .i64 0) ∧ w = w' := by
  go_enter Try.func25, Try.ntmps25
  go_wp2
  go_ret
  exact ⟨rfl, rfl⟩
theorem keysNil_ii (w : World) : Calls Try.prog 22 #[.pointer none] w fun e w' => e = .returned (.slice none 0 0) ∧ w = w' := by
  go_enter Try.func22, Try.ntmps22
  go_wp2
  go_ret
  exact ⟨rfl, rfl⟩
theorem findNil_ii (k : Int) (w : World) : Calls Try.prog 55 #[.pointer none, .int .i64 k] w fun e w' => e = .returned (.tuple #[.int .i64 0, .bool false]) ∧ w = w' := by
  go_enter Try.func55, Try.ntmps55
  go_wp2
  go_ret2
  exact ⟨rfl, rfl⟩
theorem putNil_ii (k u : Int) (w : World) : Calls Try.prog 21 #[.pointer none, .int .i64 k, .int .i64 u] w fun e w' => e = .returned (.tuple #[.int .i64 0, .bool false]) ∧ w = w' := by
  go_enter Try.func21, Try.ntmps21
  go_wp2
  go_ret2
  exact ⟨rfl, rfl⟩
theorem getNil_ii (k : Int) (w : World) : Calls Try.prog 36 #[.pointer none, .int .i64 k] w fun e w' => e = .returned (.tuple #[.int .i64 0, .bool false]) ∧ w = w' := by
  go_enter Try.func36, Try.ntmps36
  go_wp2_with fail
  refine (findNil_ii _ _).mono ?_
  rintro e w1 ⟨rfl, rfl⟩
  go_wp2
  go_ret2
  exact ⟨rfl, rfl⟩
theorem dropNil_ii (k : Int) (w : World) : Calls Try.prog 34 #[.pointer none, .int .i64 k] w fun e w' => e = .returned (.tuple #[.int .i64 0, .bool false]) ∧ w = w' := by
  go_enter Try.func34, Try.ntmps34
  go_wp2_with fail
  refine (findNil_ii _ _).mono ?_
  rintro e w1 ⟨rfl, rfl⟩
  go_wp2
  go_ret2
  exact ⟨rfl, rfl⟩
theorem atNil_ii (w : World) : Calls Try.prog 26 #[.pointer none, .int .i64 0] w fun e w' => e = .returned (.tuple #[.int .i64 0, .int .i64 0, .bool false]) ∧ w = w' := by
  go_enter Try.func26, Try.ntmps26
  go_wp2_with fail
  refine (lenNil_ii _).mono ?_
  rintro e w1 ⟨rfl, rfl⟩
  go_wp2
  go_ret3
  exact ⟨rfl, rfl⟩
set_option maxHeartbeats 2000000 in
theorem wakes02 (w : World) : Calls Try.prog 19 #[] w fun e w' => e = .returned (.bool true) ∧ Bel w w' := by
  have hb1 : Bel w (w.alloc (.cells #[.slice none 0 0] 120)) := (Bel.refl w).alloc _
  have T1 := Lib.hid (newTab_is Value.string w (Nat.le_refl _))
  obtain ⟨W1, hW1⟩ : ∃ W1, w.alloc (.cells #[.slice none 0 0] 120) = W1 := ⟨_, rfl⟩
  rw [hW1] at T1 hb1
  have HW := Lib.hid hW1
  clear hW1
  go_enter Try.func19, Try.ntmps19
  go_wp2_with fail
  refine (new_is w).mono ?_
  rw [HW.out]
  rintro e w1 ⟨rfl, rfl⟩
  obtain ⟨g, hg⟩ : ∃ g, w.heap.size = g := ⟨_, rfl⟩
  have Hg := Lib.hid hg
  rw [hg] at T1 ⊢
  clear hg
  go_wp2_with fail
  refine (len_is T1.out).mono ?_
  rintro e w2 ⟨rfl, rfl⟩
  go_wp2_with fail
  refine (put_is T1.out tabOk_nil (by rw [← Hg.out]; exact hb1.size) (by decide) 7 ⟨#[97]⟩).mono ?_
  rintro e w3 ⟨v3, rfl, t3, s3⟩
  have ok3 := putT_ok cmpI_ord (tabOk_nil (β := ByteArray)) 7 ⟨#[97]⟩
  have e3 : putT cmpI ([] : List (Int × ByteArray)) 7 ⟨#[97]⟩ = [(7, ⟨#[97]⟩)] := by decide
  rw [e3] at t3 ok3
  have T3 := Lib.hid t3
  have hb3 : Bel w w3 := s3.bel hb1 (by rw [Hg.out]; exact Nat.le_refl _) (fun k hk => by cases hk)
  clear t3 s3 e3
  go_wp2_with fail
  refine (get_is T3.out ok3 7).mono ?_
  rw [show hasT cmpI [((7 : Int), (⟨#[97]⟩ : ByteArray))] 7 = true by decide]
  rintro e w4 ⟨rfl, hb4⟩
  generalize optV (.string ⟨#[]⟩) Value.string (getT cmpI [((7 : Int), (⟨#[97]⟩ : ByteArray))] 7) = q
  go_wp2_with fail
  refine (len_is (T3.out.to hb4)).mono ?_
  rintro e w5 ⟨rfl, rfl⟩
  go_wp2
  go_ret
  exact ⟨rfl, hb3.trans hb4⟩
end Go.Proofs.Ytcnbmpkbocnniaa
