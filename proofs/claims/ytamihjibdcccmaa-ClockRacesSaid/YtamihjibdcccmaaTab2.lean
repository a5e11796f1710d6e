/- Walks of tables: how many; what a name has; the names. -/
import Derived.Test.YtamihjibdcccmaaTab1
set_option linter.unusedVariables false
set_option linter.unusedSimpArgs false
set_option linter.all false
namespace Go.Proofs.Ytamihjibdcccmaa
open Go.RowKit Go.Cb
theorem len_ii {β : Type} {eV : β → Value} {w : World} {base g : Nat} {v : Value} {xs : List (Int × β)} (h : Tab (Value.int .i64) eV 71 73 w base g v xs) :
    Calls Try.prog 23 #[.pointer (some ⟨g, 0, none⟩)] w fun e w' => e = .returned (.int .i64 xs.length) ∧ w = w' := by
  obtain ⟨A, c, rfl⟩ : ∃ A c, v = .slice A xs.length c := by
    rcases h.row.form with ⟨h1, h2⟩ | ⟨g', c', h1, _⟩
    · exact ⟨none, 0, by rw [h1, h2]; rfl⟩
    · exact ⟨_, _, h1⟩
  have hc := cellAt h.box 0
  have hc0 : w.cell? ⟨g, 0, none⟩ = some (.slice A xs.length c) := hc
  clear hc h
  go_enter Try.func23, Try.ntmps23
  go_wp2
  go_ret
  exact ⟨rfl, rfl⟩
set_option maxHeartbeats 1000000 in
theorem get_ii {β : Type} {eV : β → Value} {w : World} {base g : Nat} {v : Value} {xs : List (Int × β)} (h : Tab (Value.int .i64) eV 71 73 w base g v xs) (hs : tabOk cmpI xs) (k : Int) :
    Calls Try.prog 30 #[.pointer (some ⟨g, 0, none⟩), (Value.int .i64) k] w fun e w' => e = .returned (.tuple #[optV (.int .i64 0) eV (getT cmpI xs k), .bool (hasT cmpI xs k)]) ∧ Bel w w' := by
  obtain ⟨A, c, rfl⟩ : ∃ A c, v = .slice A xs.length c := by
    rcases h.row.form with ⟨h1, h2⟩ | ⟨g', c', h1, _⟩
    · exact ⟨none, 0, by rw [h1, h2]; rfl⟩
    · exact ⟨_, _, h1⟩
  have CB := Lib.hid (find_ii h hs k)
  cases hh : hasT cmpI xs k with
  | false =>
    have Hg := Lib.hid (show getT cmpI xs k = none from getT_none.2 hh)
    rw [hh] at CB
    clear hh hs h
    generalize posT cmpI xs k = p at *
    go_enter Try.func30, Try.ntmps30
    go_wp2_with fail
    refine CB.out.mono ?_
    rintro e w1 ⟨rfl, hb⟩
    go_wp2
    go_ret2
    exact ⟨by rw [Hg.out]; rfl, hb⟩
  | true =>
    obtain ⟨u, hu⟩ := (hasT_iff cmpI_ord).1 hh
    have Hg := Lib.hid (show getT cmpI xs k = some u by unfold getT; rw [if_pos hh, hu]; rfl)
    have hp := hasT_lt hh
    have hlm : xs.length ≤ 9223372036854775807 := by
      rcases h.row.form with ⟨_, h2⟩ | ⟨g, c', h1, h2, h3, h4, h5⟩
      · rw [h2]; simp
      · unfold maxLen at h5; omega
    rw [hh] at CB
    generalize posT cmpI xs k = p at *
    obtain ⟨g1, x1, rfl, _, hx, hg, hc0, hc1⟩ := h.row.at hp
    rw [hu] at hx
    injection hx with hx
    subst hx
    have hc := cellAt h.box 0
    have hb0 : w.cell? ⟨g, 0, none⟩ = some (.slice (some ⟨g1, 0, none⟩) xs.length c) := hc
    have hgl := h.lt
    clear hc hh hs h hu hc0
    go_enter Try.func30, Try.ntmps30
    go_wp2_with fail
    refine CB.out.mono ?_
    rintro e w1 ⟨rfl, hb⟩
    replace hb0 := cell_keep hb0 (hb.block hgl)
    replace hc1 := cell_keep hc1 (hb.block hg)
    go_wp2
    go_ret2
    exact ⟨by rw [Hg.out]; rfl, hb⟩
end Go.Proofs.Ytamihjibdcccmaa
