/- Walks: a clock that has also what another one has. -/
import Derived.Test.YtamihjibdcccmaaTab9
import Derived.Test.YtamihjibdcccmaaCD
set_option linter.unusedVariables false
set_option linter.unusedSimpArgs false
set_option linter.all false
namespace Go.Proofs.Ytamihjibdcccmaa
open Go.RowKit Go.Cb
abbrev TabI (w : World) (base g : Nat) (v : Value) (t : Tb) : Prop := Tab (Value.int .i64) (Value.int .i64) 71 73 w base g v t
theorem opt_val (t : Tb) (a : Int) : optV (.int .i64 0) (Value.int .i64) (getT cmpI t a) = .int .i64 (valT t a) := by
  unfold valT
  cases getT cmpI t a <;> rfl
set_option maxHeartbeats 4000000 in
theorem joined1_c (w0 w : World) (g : Nat) (v : Value) (t : Tb) (a n : Int) (h : TabI w w0.heap.size g v t) (ht : tabOk cmpI t) (hl : t.length ≤ 1000) (hb : Bel w0 w) :
    Calls Try.prog 33 #[.pointer (some ⟨g, 0, none⟩), .int .i64 a, .int .i64 n] w fun e w' => ∃ v', e = .returned (.pointer (some ⟨g, 0, none⟩)) ∧ TabI w' w0.heap.size g v' (joinStep t (a, n)) ∧ Bel w0 w' := by
  have Q1 := get_ii h ht a
  rw [opt_val] at Q1
  have HQ1 := Lib.hid Q1
  have HH := Lib.hid h
  have HT := Lib.hid ht
  have HB := Lib.hid hb
  clear Q1 h ht hb
  by_cases hlt : valT t a < n
  · have HJ := Lib.hid (show joinStep t (a, n) = putT cmpI t a n from if_pos hlt)
    have d0 : decide (valT t a < n) = true := decide_eq_true hlt
    have HP := Lib.hid (fun w1 (hb1 : Bel w w1) => put_ii (HH.out.to hb1) HT.out (Nat.le_trans HB.out.size hb1.size) (by omega) a n)
    rw [opt_val] at HP
    generalize valT t a = x at *
    clear hlt
    go_enter Try.func33, Try.ntmps33
    go_wp2_with fail
    refine HQ1.out.mono ?_
    rintro e w1 ⟨rfl, hb1⟩
    have HP1 := Lib.hid (HP.out w1 hb1)
    have HB1 := Lib.hid hb1
    clear hb1 HQ1 HP
    go_wp2_with fail
    refine HP1.out.mono ?_
    rintro e w2 ⟨v', rfl, hT, hS⟩
    go_wp2
    go_ret
    exact ⟨v', rfl, by rw [HJ.out]; exact hT, hS.bel (HB.out.trans HB1.out) HH.out.low HH.out.ge⟩
  · have HJ := Lib.hid (show joinStep t (a, n) = t from if_neg hlt)
    have d0 : decide (valT t a < n) = false := decide_eq_false hlt
    generalize valT t a = x at *
    clear hlt
    go_enter Try.func33, Try.ntmps33
    go_wp2_with fail
    refine HQ1.out.mono ?_
    rintro e w1 ⟨rfl, hb1⟩
    go_wp2
    go_ret
    exact ⟨v, rfl, by rw [HJ.out]; exact HH.out.to hb1, HB.out.trans hb1⟩
theorem joinT_snoc (t b : Tb) (x : Int × Int) : joinT t (b ++ [x]) = joinStep (joinT t b) x := by
  unfold joinT
  rw [List.foldl_append]
  rfl
set_option maxHeartbeats 4000000 in
theorem joined_c (w0 w : World) (g gb baseb : Nat) (v vb : Value) (t tb : Tb) (h : TabI w w0.heap.size g v t) (htb : TabI w0 baseb gb vb tb) (hm : ∀ j, tabOk cmpI (joinT t (tb.take j)) ∧ (joinT t (tb.take j)).length ≤ 1000) (hb : Bel w0 w) :
    Calls Try.prog 29 #[.pointer (some ⟨g, 0, none⟩), .pointer (some ⟨gb, 0, none⟩)] w fun e w' => ∃ v', e = .returned (.pointer (some ⟨g, 0, none⟩)) ∧ TabI w' w0.heap.size g v' (joinT t tb) ∧ Bel w0 w' := by
  have hcf : ∀ (args : Array Value) (w : World), (callFunc 33 args).run Try.prog w = .ok (.enter 33 args) w := fun _ _ => by kernel_rfl
  have Q := fold_t 33 hcf (fun j a w1 => a = .pointer (some ⟨g, 0, none⟩) ∧ ∃ v', TabI w1 w0.heap.size g v' (joinT t (tb.take j)) ∧ Bel w0 w1) (htb.to hb)
    (fun j a w1 w2 ⟨e, v', h1, h2⟩ hb2 => ⟨e, v', h1.to hb2, h2.trans hb2⟩)
    (fun j a w1 ⟨_, v', _, h2⟩ => (htb.to h2).row)
    (fun j a w1 x ⟨e, v', h1, h2⟩ hx => by
      subst e
      refine (joined1_c w0 w1 g v' _ x.1 x.2 h1 (hm j).1 (hm j).2 h2).mono ?_
      rintro e w2 ⟨v2, rfl, h3, h4⟩
      refine ⟨_, rfl, rfl, v2, ?_, h4⟩
      rw [List.take_add_one, hx]
      show TabI w2 _ g v2 (joinT t (tb.take j ++ [x]))
      rw [joinT_snoc]
      exact h3)
    (.pointer (some ⟨g, 0, none⟩)) ⟨rfl, v, h, hb⟩
  rw [List.take_length] at Q
  have HQ := Lib.hid Q
  clear Q h htb hm hb
  go_enter Try.func29, Try.ntmps29
  go_wp2_with fail
  refine HQ.out.mono ?_
  rintro e w2 ⟨a', rfl, rfl, v', h1, h2⟩
  go_wp2
  go_ret
  exact ⟨v', rfl, h1, h2⟩
end Go.Proofs.Ytamihjibdcccmaa
