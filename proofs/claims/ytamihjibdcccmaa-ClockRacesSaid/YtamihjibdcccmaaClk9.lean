/- Walks: raw events opened; the events that the statements of chapter 29 speak of; the document's example. -/
import Derived.Test.YtamihjibdcccmaaClk7
import Derived.Test.YtamihjibdcccmaaClk8
import Derived.Test.YtamihjibdcccmaaCB
set_option linter.unusedVariables false
set_option linter.unusedSimpArgs false
set_option linter.all false
namespace Go.Cb
open Go.ChangeShapes Go.WideShapes Go.RowKit
theorem opens_struct4 {P : Program} {α β γ δ : Type} {d0 : Ty α} {d1 : Ty β} {d2 : Ty γ} {d3 : Ty δ} {ok0 : α → Prop} {ok1 : β → Prop} {ok2 : γ → Prop} {ok3 : δ → Prop} {t : TypeId} {f0 f1 f2 f3 : Field} (hu : P.underlying t = some (.struct #[f0, f1, f2, f3]))
    (h0 : P.cellsOf f0.type = d0.sz) (h1 : P.cellsOf f1.type = d1.sz) (h2 : P.cellsOf f2.type = d2.sz) (h3 : P.cellsOf f3.type = d3.sz) (ho0 : f0.offset = 0) (ho1 : f1.offset = d0.sz) (ho2 : f2.offset = d0.sz + d1.sz) (ho3 : f3.offset = d0.sz + d1.sz + d2.sz)
    (hc : P.cellsOf t = d0.sz + d1.sz + d2.sz + d3.sz) (o0 : Opens P d0 ok0 f0.type) (o1 : Opens P d1 ok1 f1.type) (o2 : Opens P d2 ok2 f2.type) (o3 : Opens P d3 ok3 f3.type) : Opens P (two d0 (two d1 (two d2 d3))) (fun x => ok0 x.1 ∧ ok1 x.2.1 ∧ ok2 x.2.2.1 ∧ ok3 x.2.2.2) t := fun H enc W base spare held fuel cs x hx => by
  obtain ⟨xs, n, _, _, hl, hlen, hf⟩ := DataW.trod_struct hu hx
  have e0 := hf 0 f0 rfl
  have e1 := hf 1 f1 rfl
  have e2 := hf 2 f2 rfl
  have e3 := hf 3 f3 rfl
  have hl0 : 0 < xs.length := by rw [hlen]; simp
  have hl1 : 1 < xs.length := by rw [hlen]; simp
  have hl2 : 2 < xs.length := by rw [hlen]; simp
  have hl3 : 3 < xs.length := by rw [hlen]; simp
  rw [List.getElem?_eq_getElem hl0] at e0
  rw [List.getElem?_eq_getElem hl1] at e1
  rw [List.getElem?_eq_getElem hl2] at e2
  rw [List.getElem?_eq_getElem hl3] at e3
  obtain ⟨v0, r0, k0⟩ := o0 H enc W base spare held n _ _ e0
  obtain ⟨v1, r1, k1⟩ := o1 H enc W base spare held n _ _ e1
  obtain ⟨v2, r2, k2⟩ := o2 H enc W base spare held n _ _ e2
  obtain ⟨v3, r3, k3⟩ := o3 H enc W base spare held n _ _ e3
  rw [ho0, h0, List.drop_zero] at r0
  rw [ho1, h1] at r1
  rw [ho2, h2] at r2
  rw [ho3, h3, List.take_of_length_le (by rw [List.length_drop]; omega)] at r3
  refine ⟨(v0, v1, v2, v3), ⟨_, cs.drop d0.sz, (List.take_append_drop d0.sz cs).symm, r0, ⟨_, (cs.drop d0.sz).drop d1.sz, (List.take_append_drop d1.sz _).symm, r1, ⟨_, ((cs.drop d0.sz).drop d1.sz).drop d2.sz, (List.take_append_drop d2.sz _).symm, ?_, ?_⟩⟩⟩, k0, k1, k2, k3⟩
  · rw [List.drop_drop]; exact r2
  · rw [List.drop_drop, List.drop_drop, ← Nat.add_assoc]; exact r3
/-- What is known of raw events. -/
def Raw29Ok (l : List (Int × Int × Int × List Int)) : Prop := ∀ x ∈ l, inI64 x.1 ∧ inI64 x.2.1 ∧ inI64 x.2.2.1 ∧ ∀ n ∈ x.2.2.2, inI64 n
theorem evR_ok {x : Int × Int × Int × List Int} (h : inI64 x.1) : inI64 (evR x).a ∧ inI64 (evR x).n := by
  have h1 := withinI_range (v := x.1) (n := 4) (by omega)
  have h2 := withinI_range (v := x.2.2.1) (n := 4) (by omega)
  unfold evR
  dsimp only
  unfold inI64 at *
  constructor
  · split <;> omega
  · omega
theorem evsR_ok {l : List (Int × Int × Int × List Int)} (h : Raw29Ok l) (n m : Nat) : ∀ x ∈ ((l.take n).map evR).take m, inI64 x.a ∧ inI64 x.n := fun x hx => by
  obtain ⟨y, hy, rfl⟩ := List.mem_map.1 (List.mem_of_mem_take hx)
  exact evR_ok (h y (List.mem_of_mem_take hy)).1
/-- Two empty events. -/
theorem rd_two {w : World} {b : Nat} {t : TypeId} (h : w.heap[b]? = some (.cells #[.int .i64 0, .int .i64 0, .int .i64 0, .slice none 0 0, .int .i64 0, .int .i64 0, .int .i64 0, .slice none 0 0] t (0, 0))) : Rd evT w All (some ⟨b, 0, none⟩) 2 [⟨0, 0, 0, []⟩, ⟨0, 0, 0, []⟩] := by
  refine ⟨Nat.le_refl _, by simp [maxLen], fun j y hj => ?_⟩
  have key : y = ⟨0, 0, 0, []⟩ ∧ (j = 0 ∨ j = 1) := by
    rcases j with _ | _ | j
    · exact ⟨by simpa using hj.symm, .inl rfl⟩
    · exact ⟨by simpa using hj.symm, .inr rfl⟩
    · simp at hj
  obtain ⟨rfl, hj2⟩ := key
  refine ⟨_, _, rfl, trivial, evT_rd.2 ⟨none, 0, rfl, Rd.nil _ _ _ _ _ (by decide)⟩, fun i u hu => ?_⟩
  rw [add_plain, cellAt h, show evT.sz = 4 from rfl]
  have hi : i < 4 := (List.getElem?_eq_some_iff.1 hu).1
  rcases hj2 with rfl | rfl
  · rcases i with _ | _ | _ | _ | i
    all_goals first | omega | simpa using hu
  · rcases i with _ | _ | _ | _ | i
    all_goals first | omega | simpa using hu
theorem bef_two : befE [⟨0, 0, 0, []⟩, ⟨0, 0, 0, []⟩] 0 1 = true := by
  have := befE_yes (l := [⟨0, 0, 0, []⟩, ⟨0, 0, 0, []⟩]) (i := 0) (j := 1) (by simp) (by simp)
  rw [show ((0 : Nat) : Int) = 0 from rfl, show ((1 : Nat) : Int) = 1 from rfl] at this
  rw [this]
  exact ahead_own (by omega) rfl
end Go.Cb
namespace Go.Proofs.Ytamihjibdcccmaa
open Go.RowKit Go.Cb Go.Sort
theorem opensRaws29 : Opens Try.prog (sl raw29T) Raw29Ok 22 :=
  opens_slice Try.underlying22 (by kernel_rfl) (opens_struct4 Try.underlying45 (by kernel_rfl) (by kernel_rfl) (by kernel_rfl) (by kernel_rfl) (by kernel_rfl) (by kernel_rfl) (by kernel_rfl) (by kernel_rfl) (by kernel_rfl)
    (opens_int Try.underlying3) (opens_int Try.underlying3) (opens_int Try.underlying3) (opens_slice Try.underlying43 (by kernel_rfl) (opens_int Try.underlying3)))
set_option maxHeartbeats 4000000 in
set_option maxRecDepth 100000 in
theorem wakes29_c (w : World) : Calls Try.prog 9 #[] w fun e w' => e = .returned (.bool true) ∧ Bel w w' := by
  go_enter Try.func9, Try.ntmps9
  go_wp2_with fail
  refine (races_c w none 0 [] (Rd.nil _ _ _ _ _ (by decide)) (by simp) (by simp) 0 rfl).mono ?_
  rintro e w1 ⟨A1, c1, he, _, hb1⟩
  rw [show (racesE [] ([] : List Ev).length).length = 0 from rfl] at he
  subst he
  go_wp2_with fail
  refine (clocks_c w1 none 0 [] (Rd.nil _ _ _ _ _ (by decide)) (by simp) (by simp) 0 rfl).mono ?_
  rintro e w2 ⟨A2, c2, gs, he, _, _, _, hb2⟩
  rw [show ([] : List Ev).length = 0 from rfl] at he
  subst he
  have HB := Lib.hid (hb1.trans hb2)
  clear hb1 hb2
  go_wp2_with fail
  have h := before_c (w2.alloc (.cells #[.int .i64 0, .int .i64 0, .int .i64 0, .slice none 0 0, .int .i64 0, .int .i64 0, .int .i64 0, .slice none 0 0] 27)) (some ⟨w2.heap.size, 0, none⟩) 2 [⟨0, 0, 0, []⟩, ⟨0, 0, 0, []⟩] (rd_two (heap_alloc_new _ _)) (by simp) (by simp [inI64]) 0 1 2 rfl
  rw [bef_two] at h
  refine h.mono ?_
  rintro e w3 ⟨rfl, hb3⟩
  have HB3 := Lib.hid (((HB.out).alloc _).trans hb3)
  clear hb3 h
  go_wp2_with fail
  go_ret
  exact ⟨rfl, HB3.out⟩
end Go.Proofs.Ytamihjibdcccmaa
