/- Walks of tables: a table that there is not; Fold; the example of the document. -/
import Derived.Test.YtamihjibdcccmaaTab8
set_option linter.unusedVariables false
set_option linter.unusedSimpArgs false
set_option linter.all false
namespace Go.Proofs.Ytamihjibdcccmaa
open Go.RowKit Go.Cb
set_option maxHeartbeats 4000000 in
theorem fold_t (f : FuncId) (hcf : ∀ (args : Array Value) (w : World), (callFunc f args).run Try.prog w = .ok (.enter f args) w) (I : Nat → Value → World → Prop) {w : World} {base g : Nat} {v : Value} {xs : List (Int × Int)} (h : Tab (Value.int .i64) (Value.int .i64) 71 73 w base g v xs)
    (hB : ∀ j a w1 w2, I j a w1 → Bel w1 w2 → I j a w2) (hR : ∀ j a w1, I j a w1 → RowP (Value.int .i64) (Value.int .i64) 73 w1 base v xs)
    (hI : ∀ j a w1 x, I j a w1 → xs[j]? = some x → Calls Try.prog f #[a, .int .i64 x.1, .int .i64 x.2] w1 fun e w2 => ∃ a', e = .returned a' ∧ I (j + 1) a' w2) (a : Value) (h0 : I 0 a w) :
    Calls Try.prog 32 #[.pointer (some ⟨g, 0, none⟩), a, .func (.func f) #[] #[]] w fun e w' => ∃ a', e = .returned a' ∧ I xs.length a' w' := by
  obtain ⟨A, c, rfl⟩ : ∃ A c, v = .slice A xs.length c := by
    rcases h.row.form with ⟨h1, h2⟩ | ⟨g', c', h1, _⟩
    · exact ⟨none, 0, by rw [h1, h2]; rfl⟩
    · exact ⟨_, _, h1⟩
  have hlm : xs.length ≤ 9223372036854775807 := by
    rcases h.row.form with ⟨_, h2⟩ | ⟨g, c', h1, h2, h3, h4, h5⟩
    · rw [h2]; simp
    · unfold maxLen at h5; omega
  have hc0 : w.cell? ⟨g, 0, none⟩ = some (.slice A xs.length c) := cellAt h.box 0
  have HB := Lib.hid hB
  have HR := Lib.hid hR
  have HI := Lib.hid hI
  have H0 := Lib.hid h0
  clear hB hR hI h0 h
  go_enter Try.func32, Try.ntmps32
  go_wp2
  clear hc0
  go_loopw [1, 17] (fun v1 v17 wr => ∃ (k : Nat) (W : World), W = wr ∧ k ≤ xs.length ∧ v17 = .int .i64 k ∧ Hid (I k v1 wr)) (fun _ v17 _ => xs.length - (intOf v17).toNat)
  case atStart => exact ⟨0, _, rfl, Nat.zero_le _, rfl, H0⟩
  case round =>
    clear H0
    obtain ⟨k, W, rfl, hk, rfl, HK⟩ := hrel
    by_cases hlt : k < xs.length
    · obtain ⟨g1, ⟨kx, x⟩, rfl, _, hx, hg, hc1, hc2⟩ := (HR.out _ _ _ HK.out).at hlt
      dsimp only at hc1 hc2
      have HX := Lib.hid hx
      clear hx
      go_wp2_with fail
      refine (HI.out k _ _ (kx, x) (HB.out _ _ _ _ HK.out ((Bel.refl W).alloc _)) HX.out).mono ?_
      rintro e w2 ⟨a2, rfl, h2⟩
      have HK2 := Lib.hid h2
      clear h2
      go_wp2
      go_roundw
      case rel => exact ⟨k + 1, _, rfl, by omega, by go_num, HK2⟩
      case measure => simp [intOf]; omega
    · obtain rfl : k = xs.length := by omega
      go_wp2
      go_ret
      exact ⟨_, rfl, HK.out⟩
theorem foldNil_t (f : Value) (a : Value) (w : World) : Calls Try.prog 32 #[.pointer none, a, f] w fun e w' => e = .returned a ∧ w = w' := by
  go_enter Try.func32, Try.ntmps32
  go_wp2
  go_ret
  exact ⟨rfl, rfl⟩
end Go.Proofs.Ytamihjibdcccmaa
