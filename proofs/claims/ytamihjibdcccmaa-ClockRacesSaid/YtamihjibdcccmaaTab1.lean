/- Walks of tables: where a name stands. -/
import Derived.Test.YtamihjibdcccmaaCA
import Derived.Test.YtamihjibdcccmaaCmp
set_option linter.unusedVariables false
set_option linter.unusedSimpArgs false
set_option linter.all false
namespace Go.Cb
def optV {β : Type} (z : Value) (eV : β → Value) : Option β → Value
  | none => z
  | some x => eV x
theorem at_done {κ β : Type} {cf : κ → κ → Int} {xs : List (κ × β)} {k : κ} {p : Nat} (hp : p ≤ xs.length) (h1 : ∀ i x, i < p → xs[i]? = some x → cf x.1 k < 0) (h2 : ∀ i x, p ≤ i → xs[i]? = some x → 0 ≤ cf x.1 k) :
    posT cf xs k = p := AtT.pos ⟨hp, h1, h2⟩
theorem has_done {κ β : Type} {cf : κ → κ → Int} {xs : List (κ × β)} {k : κ} {p : Nat} (hp : posT cf xs k = p) {x : κ × β} (hx : xs[p]? = some x) : hasT cf xs k = (cf x.1 k == 0) := by
  unfold hasT
  rw [hp, hx]
  rfl
theorem has_out {κ β : Type} {cf : κ → κ → Int} {xs : List (κ × β)} {k : κ} {p : Nat} (hp : posT cf xs k = p) (hx : xs.length ≤ p) : hasT cf xs k = false := by
  unfold hasT
  rw [hp, List.getElem?_eq_none hx]
  rfl
theorem lo_step {κ β : Type} {cf : κ → κ → Int} (O : KOrd cf) {xs : List (κ × β)} {k : κ} (hs : tabOk cf xs) {m : Nat} {x : κ × β} (hx : xs[m]? = some x) (hc : cf x.1 k < 0) : ∀ i y, i < m + 1 → xs[i]? = some y → cf y.1 k < 0 := by
  intro i y hi hy
  rcases Nat.lt_or_eq_of_le (Nat.le_of_lt_succ hi) with hl | rfl
  · exact O.trans _ _ _ (pair_lt hs hl hy hx) hc
  · rw [hx] at hy
    injection hy with hy
    rw [← hy]; exact hc
theorem hi_step {κ β : Type} {cf : κ → κ → Int} (O : KOrd cf) {xs : List (κ × β)} {k : κ} (hs : tabOk cf xs) {m : Nat} {x : κ × β} (hx : xs[m]? = some x) (hc : ¬ cf x.1 k < 0) : ∀ i y, m ≤ i → xs[i]? = some y → 0 ≤ cf y.1 k := by
  intro i y hi hy
  rcases Nat.lt_or_eq_of_le hi with hl | rfl
  · rcases Int.lt_or_le (cf y.1 k) 0 with h | h
    · exact absurd (O.trans _ _ _ (pair_lt hs hl hx hy) h) hc
    · exact h
  · rw [hx] at hy
    injection hy with hy
    rw [← hy]; omega
open Go.RowKit in
theorem mid_wrap {lo hi m : Nat} (h : lo + hi < 18446744073709551615) (hm : (lo + hi) / 2 = m) (hw : wrap64 ((lo : Int) + (hi : Int)) % 18446744073709551616 = ((lo + hi : Nat) : Int) := by unfold wrap64; omega) : wrap64 (IntKind.u64.wrap (wrap64 ((lo : Int) + (hi : Int))) / 2) = (m : Int) := by
  rw [IntKind.wrap_u64, hw]
  have e : ((lo + hi : Nat) : Int) / 2 = (m : Int) := by omega
  rw [e]
  unfold wrap64
  omega
end Go.Cb
namespace Go.Proofs.Ytamihjibdcccmaa
open Go.RowKit Go.Cb
theorem find1_ii (k0 k : Int) (u : Value) (w : World) : Calls Try.prog 37 #[.agg #[(Value.int .i64) k0, u], (Value.int .i64) k] w fun e w' => e = .returned (.int .i64 (cmpI k0 k)) ∧ Bel w w' := by
  go_enter Try.func37, Try.ntmps37
  go_wp2_with fail
  refine (cmpInt_c _ _ _).mono ?_
  rintro e w1 ⟨rfl, rfl⟩
  go_wp2
  go_ret
  exact ⟨rfl, (Bel.refl _).alloc _⟩
set_option maxHeartbeats 4000000 in
theorem bsearch_ii {β : Type} (eV : β → Value) (w : World) (base : Nat) (A : Option Addr) (c : Nat) (xs : List (Int × β)) (h : RowP (Value.int .i64) eV 73 w base (.slice A xs.length c) xs) (hs : tabOk cmpI xs) (k : Int) :
    Calls Try.prog 36 #[.slice A xs.length c, (Value.int .i64) k, .func (.func 37) #[] #[]] w fun e w' =>
      e = .returned (.tuple #[.int .i64 (posT cmpI xs k), .bool (hasT cmpI xs k)]) ∧ Bel w w' := by
  have hcf : ∀ (args : Array Value) (w : World), (callFunc 37 args).run Try.prog w = .ok (.enter 37 args) w := fun _ _ => by kernel_rfl
  have hlm : xs.length ≤ 9223372036854775807 := by
    rcases h.form with ⟨_, h2⟩ | ⟨g, c', h1, h2, h3, h4, h5⟩
    · rw [h2]; simp
    · unfold maxLen at h5; omega
  have HS := Lib.hid hs
  clear hs
  go_enter Try.func36, Try.ntmps36
  go_wp2
  go_loopw [9, 10] (fun v9 v10 wr => ∃ lo hi : Nat, v9 = .int .i64 lo ∧ v10 = .int .i64 hi ∧ lo ≤ hi ∧ hi ≤ xs.length ∧ Hid (∀ i x, i < lo → xs[i]? = some x → cmpI x.1 k < 0) ∧ Hid (∀ i x, hi ≤ i → xs[i]? = some x → 0 ≤ cmpI x.1 k) ∧ Bel w wr) (fun v9 v10 _ => (intOf v10).toNat - (intOf v9).toNat)
  case atStart => exact ⟨0, xs.length, rfl, rfl, Nat.zero_le _, Nat.le_refl _, fun i x hi => absurd hi (by omega), fun i x hi hx => absurd (List.getElem?_eq_some_iff.1 hx).1 (by omega), Bel.refl _⟩
  case round =>
    obtain ⟨lo, hi, rfl, rfl, hlh, hhn, I1, I2, hb⟩ := hrel
    by_cases hlt : lo < hi
    · obtain ⟨m, hm⟩ : ∃ m, (lo + hi) / 2 = m := ⟨_, rfl⟩
      have hml : m < xs.length := by omega
      obtain ⟨g, ⟨kx, x⟩, rfl, _, hx, hg, hc0, hc1⟩ := (h.step (fun q hq => hb.block (World.ownsRow.lt h q hq).2)).at hml
      have Hx := Lib.hid hx
      obtain ⟨lm1, lm2⟩ : lo ≤ m ∧ m < hi := by omega
      have hW : wrap64 (IntKind.u64.wrap (wrap64 ((lo : Int) + (hi : Int))) / 2) = (m : Int) := mid_wrap (by omega) hm
      clear hx hm
      by_cases hcc : cmpI kx k < 0
      · have Hs := Lib.hid (lo_step cmpI_ord HS.out Hx.out hcc)
        have hd : decide (cmpI kx k < 0) = true := decide_eq_true hcc
        go_wp2_with fail
        refine (find1_ii _ _ _ _).mono ?_
        rintro e w1 ⟨rfl, hb1⟩
        go_wp2
        go_roundw
        case rel => exact ⟨m + 1, hi, by go_num, rfl, by omega, hhn, Hs.out, I2, hb.trans hb1⟩
        case measure => simp [intOf]; omega
      · have Hs := Lib.hid (hi_step cmpI_ord HS.out Hx.out hcc)
        have hd : decide (cmpI kx k < 0) = false := decide_eq_false hcc
        go_wp2_with fail
        refine (find1_ii _ _ _ _).mono ?_
        rintro e w1 ⟨rfl, hb1⟩
        go_wp2
        go_roundw
        case rel => exact ⟨lo, m, rfl, by go_num, by omega, by omega, I1, Hs.out, hb.trans hb1⟩
        case measure => simp [intOf]; omega
    · obtain rfl : hi = lo := by omega
      have hp := at_done hhn I1 I2
      have Hp := Lib.hid hp
      by_cases hl : hi < xs.length
      · obtain ⟨g, ⟨kx, x⟩, rfl, _, hx, hg, hc0, hc1⟩ := (h.step (fun q hq => hb.block (World.ownsRow.lt h q hq).2)).at hl
        have Hs := Lib.hid (has_done hp hx)
        clear hp hx
        go_wp2_with fail
        refine (find1_ii _ _ _ _).mono ?_
        rintro e w1 ⟨rfl, hb1⟩
        go_wp2
        go_ret2
        exact ⟨by rw [Hs.out, Hp.out]; rfl, hb.trans hb1⟩
      · have Hs := Lib.hid (has_out hp (by omega))
        clear hp
        go_wp2
        go_ret2
        exact ⟨by rw [Hs.out, Hp.out]; rfl, hb⟩
theorem new_ii (w : World) : Calls Try.prog 28 #[] w fun e w' => e = .returned (.pointer (some ⟨w.heap.size, 0, none⟩)) ∧ w' = w.alloc (.cells #[.slice none 0 0] 71) := by
  go_enter Try.func28, Try.ntmps28
  go_wp2
  go_ret
  exact ⟨rfl, rfl⟩
theorem newTab_ii {β : Type} (eV : β → Value) (w : World) {base : Nat} (hb : base ≤ w.heap.size) : Tab (Value.int .i64) eV 71 73 (w.alloc (.cells #[.slice none 0 0] 71)) base w.heap.size (.slice none 0 0) [] :=
  ⟨heap_alloc_new w _, hb, RowP.nil _ _ _, by simp [Value.ownBlock]⟩
set_option maxHeartbeats 1000000 in
theorem find_ii {β : Type} {eV : β → Value} {w : World} {base g : Nat} {v : Value} {xs : List (Int × β)} (h : Tab (Value.int .i64) eV 71 73 w base g v xs) (hs : tabOk cmpI xs) (k : Int) :
    Calls Try.prog 34 #[.pointer (some ⟨g, 0, none⟩), (Value.int .i64) k] w fun e w' => e = .returned (.tuple #[.int .i64 (posT cmpI xs k), .bool (hasT cmpI xs k)]) ∧ Bel w w' := by
  obtain ⟨A, c, rfl⟩ : ∃ A c, v = .slice A xs.length c := by
    rcases h.row.form with ⟨h1, h2⟩ | ⟨g', c', h1, _⟩
    · exact ⟨none, 0, by rw [h1, h2]; rfl⟩
    · exact ⟨_, _, h1⟩
  have CB := Lib.hid (bsearch_ii eV w base A c xs h.row hs k)
  have hc := cellAt h.box 0
  have hc0 : w.cell? ⟨g, 0, none⟩ = some (.slice A xs.length c) := hc
  clear hc h hs
  go_enter Try.func34, Try.ntmps34
  go_wp2_with fail
  refine CB.out.mono ?_
  rintro e w1 ⟨rfl, hb⟩
  go_wp2
  go_ret2
  exact ⟨rfl, hb⟩
end Go.Proofs.Ytamihjibdcccmaa
