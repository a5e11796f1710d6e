/- Walks of tables: Delete, Drop, At. -/
import Derived.Test.YtamihjibdcccmaaTab5
import Derived.Test.YtamihjibdcccmaaTab6
import Derived.Lib.SliceRun
set_option linter.unusedVariables false
set_option linter.unusedSimpArgs false
set_option linter.all false
namespace Go.Proofs.Ytamihjibdcccmaa
open Go.RowKit Go.Cb
def atV (xs : List (Int × Int)) (i : Int) : Array Value := match (if 0 ≤ i then xs[i.toNat]? else none) with
  | some x => #[.int .i64 x.1, .int .i64 x.2, .bool true]
  | none => #[.int .i64 0, .int .i64 0, .bool false]
set_option maxHeartbeats 1000000 in
theorem at_ii {w : World} {base g : Nat} {v : Value} {xs : List (Int × Int)} (h : Tab (Value.int .i64) (Value.int .i64) 71 73 w base g v xs) (i : Int) :
    Calls Try.prog 24 #[.pointer (some ⟨g, 0, none⟩), .int .i64 i] w fun e w' => e = .returned (.tuple (atV xs i)) ∧ Dr w w' := by
  have CL := Lib.hid (len_ii h)
  by_cases h0 : i < 0
  · have Hs := Lib.hid (show atV xs i = #[.int .i64 0, .int .i64 0, .bool false] by unfold atV; rw [if_neg (by omega)])
    have d0 : decide (i < 0) = true := decide_eq_true h0
    clear h
    go_enter Try.func24, Try.ntmps24
    go_wp2
    go_ret3
    exact ⟨by rw [Hs.out]; rfl, Dr.refl _⟩
  · have d0 : decide (i < 0) = false := decide_eq_false h0
    obtain ⟨k, rfl⟩ := Int.eq_ofNat_of_zero_le (show 0 ≤ i by omega)
    by_cases h1 : k < xs.length
    · obtain ⟨A, c, rfl⟩ : ∃ A c, v = .slice A xs.length c := by
        rcases h.row.form with ⟨h1, h2⟩ | ⟨g', c', h1, _⟩
        · exact ⟨none, 0, by rw [h1, h2]; rfl⟩
        · exact ⟨_, _, h1⟩
      obtain ⟨g1, ⟨kx, x⟩, rfl, _, hx, hg, hc1, hc2⟩ := h.row.at h1
      have Hs := Lib.hid (show atV xs (k : Int) = #[.int .i64 kx, .int .i64 x, .bool true] by unfold atV; rw [if_pos (by omega), Int.toNat_natCast, hx])
      have hc0 : w.cell? ⟨g, 0, none⟩ = some (.slice (some ⟨g1, 0, none⟩) xs.length c) := cellAt h.box 0
      have d1 : decide ((xs.length : Int) ≤ (k : Int)) = false := decide_eq_false (by omega)
      clear h hx
      go_enter Try.func24, Try.ntmps24
      go_wp2_with fail
      refine CL.out.mono ?_
      rintro e w1 ⟨rfl, rfl⟩
      go_wp2
      go_quiet (fail)
      go_wp2
      go_ret3
      exact ⟨by rw [Hs.out]; rfl, (Dr.refl _).drewN _⟩
    · have Hs := Lib.hid (show atV xs (k : Int) = #[.int .i64 0, .int .i64 0, .bool false] by unfold atV; rw [if_pos (by omega), Int.toNat_natCast, List.getElem?_eq_none (by omega)])
      have d1 : decide ((xs.length : Int) ≤ (k : Int)) = true := decide_eq_true (by omega)
      clear h
      go_enter Try.func24, Try.ntmps24
      go_wp2_with fail
      refine CL.out.mono ?_
      rintro e w1 ⟨rfl, rfl⟩
      go_wp2
      go_ret3
      exact ⟨by rw [Hs.out]; rfl, Dr.refl _⟩
end Go.Proofs.Ytamihjibdcccmaa
