/- Walks of tables: Insert; Put. -/
import Derived.Test.YtamihjibdcccmaaTab4
import Derived.Test.YtamihjibdcccmaaCA
set_option linter.unusedVariables false
set_option linter.unusedSimpArgs false
set_option linter.all false
namespace Go.Proofs.Ytamihjibdcccmaa
open Go.RowKit Go.Cb
theorem insert_ii {β : Type} {eV : β → Value} (hV : ∀ x, (eV x).oneCell' = true) {w : World} {base c n : Nat} {A : Option Addr} {xs : List (Int × β)} (h : RowP (Value.int .i64) eV 73 w base (.slice A n c) xs) (hn : n = xs.length) (p : Nat) (hp : p ≤ n) (k : Int) (u : β) (vb : Nat)
    (hvb : w.heap[vb]? = some (.cells #[(Value.int .i64) k, eV u] 73 (0, 0))) (hne : (Value.slice A n c).ownBlock ≠ some vb) (hb : base ≤ w.heap.size) (hbig : (n + 1) * 16 ≤ 140737488355328) :
    Calls Try.prog 35 #[.slice A n c, .int .i64 p, .slice (some ⟨vb, 0, none⟩) 1 1] w fun e w' =>
      ∃ v', e = .returned v' ∧ RowP (Value.int .i64) eV 73 w' base v' (xs.take p ++ (k, u) :: xs.drop p) ∧ w.grownBy w' (Value.slice A n c).ownBlock ∧ ∀ q, v'.ownBlock = some q → (Value.slice A n c).ownBlock = some q ∨ w.heap.size ≤ q := by
  by_cases e : p = n
  · subst e
    refine (insEnd_ii hV h hn k u vb hvb hb (by rw [← hn]; exact hbig)).mono ?_
    rintro e w' ⟨v', rfl, h1, h2, h3⟩
    refine ⟨v', rfl, ?_, h2, fun q hq => ?_⟩
    · rw [List.take_of_length_le (by omega), List.drop_eq_nil_of_le (by omega)]
      exact h1
    · rcases h3 with h3 | h3
      · exact .inl (h3 ▸ hq)
      · rw [h3] at hq
        injection hq with hq
        exact .inr (by omega)
  · have hlt : p < n := by omega
    rcases h.form with ⟨_, h2⟩ | ⟨g, c', h1, q1, q2, q3, q4⟩
    · rw [h2] at hn; simp at hn; omega
    · injection h1 with e1 e2 e3
      subst e1 e3
      by_cases hc : n + 1 ≤ c
      · refine (insRoom_ii hV h hn p hlt k u vb hvb (fun e => hne (by rw [e]; rfl)) hc).mono ?_
        rintro e w' ⟨rfl, h1, h2⟩
        exact ⟨_, rfl, h1, h2, fun q hq => .inl hq⟩
      · refine (insGrow_ii hV h hn p hlt k u vb hvb hb (by omega) hbig).mono ?_
        rintro e w' ⟨G, rfl, h1, h2⟩
        exact ⟨_, rfl, h1, ⟨h2.out.os, h2.out.tape, h2.out.output, h2.size, fun q hq _ => h2.block hq⟩, fun q hq => .inr (by injection hq with hq; exact Nat.le_of_eq hq)⟩
set_option maxHeartbeats 4000000 in
theorem put_ii  {w : World} {base g : Nat} {v : Value} {xs : List (Int × Int)} (h : Tab (Value.int .i64) (Value.int .i64) 71 73 w base g v xs) (hs : tabOk cmpI xs) (hb : base ≤ w.heap.size) (hbig : (xs.length + 1) * 16 ≤ 140737488355328) (k : Int) (u : Int) :
    Calls Try.prog 31 #[.pointer (some ⟨g, 0, none⟩), (Value.int .i64) k, (.int .i64 u)] w fun e w' =>
      ∃ v', e = .returned (.tuple #[optV (.int .i64 0) (Value.int .i64) (getT cmpI xs k), .bool (hasT cmpI xs k)]) ∧ Tab (Value.int .i64) (Value.int .i64) 71 73 w' base g v' (putT cmpI xs k u) ∧ Step g v v' w w' := by
  obtain ⟨A, c, rfl⟩ : ∃ A c, v = .slice A xs.length c := by
    rcases h.row.form with ⟨h1, h2⟩ | ⟨g', c', h1, _⟩
    · exact ⟨none, 0, by rw [h1, h2]; rfl⟩
    · exact ⟨_, _, h1⟩
  have CB := Lib.hid (find_ii h hs k)
  cases hh : hasT cmpI xs k with
  | false =>
    have Hg := Lib.hid (show getT cmpI xs k = none from getT_none.2 hh)
    have Hp := Lib.hid (show putT cmpI xs k u = xs.take (posT cmpI xs k) ++ (k, u) :: xs.drop (posT cmpI xs k) by unfold putT; rw [if_neg (by rw [hh]; simp)])
    have hp := posT_le (cf := cmpI) xs k
    rw [hh] at CB
    clear hh hs
    generalize posT cmpI xs k = p at *
    obtain ⟨n, hn⟩ : ∃ n, xs.length = n := ⟨_, rfl⟩
    rw [hn] at h hp hbig
    rw [hn]
    have HN := Lib.hid hn
    clear hn
    go_enter Try.func31, Try.ntmps31
    go_wp2_with fail
    refine CB.out.mono ?_
    rintro e w1 ⟨rfl, hb1⟩
    have h1 := h.to hb1
    have hc0 : w1.cell? ⟨g, 0, none⟩ = some (.slice A n c) := cellAt h1.box 0
    have HI := Lib.hid (insert_ii (eV := (Value.int .i64)) (fun _ => rfl) (h1.to ((Bel.refl w1).alloc (.cells #[(Value.int .i64) k, (.int .i64 u)] 73))).row HN.out.symm p hp k u w1.heap.size (heap_alloc_new w1 _) (fun e => by have := (World.ownsRow.lt h1.row _ e).2; omega) (by have := hb1.size; simp; omega) hbig)
    go_wp2_with fail
    refine HI.out.mono ?_
    rintro e w2 ⟨v2, rfl, r2, g2, f2⟩
    obtain ⟨s1, s2, s3⟩ := h.store (hb1.alloc _) g2 r2 f2
    have hc2 : w2.cell? ⟨g, 0, none⟩ = some (.slice A n c) := cellAt s1 0
    have hf2 : w2.frozen? ⟨g, 0, none⟩ = false := frozenAt s1 0
    rcases r2.form with ⟨_, hnil⟩ | ⟨g3, c3, rfl, q1, q2, q3, q4⟩
    · simp at hnil
    · generalize (xs.take p ++ (k, u) :: xs.drop p).length = m at *
      rw [← Hp.out] at s2
      clear h h1 hc0 HI r2 g2 f2 s1 q1 q2 q3 q4 hp hbig
      go_wp2
      go_ret2
      exact ⟨_, by rw [Hg.out]; rfl, s2, s3⟩
  | true =>
    obtain ⟨o, ho⟩ := (hasT_iff cmpI_ord).1 hh
    have Hg := Lib.hid (show getT cmpI xs k = some o by unfold getT; rw [if_pos hh, ho]; rfl)
    have Hp := Lib.hid (show putT cmpI xs k u = xs.set (posT cmpI xs k) (k, u) by unfold putT; rw [if_pos hh])
    have hp := hasT_lt hh
    have hlm : xs.length ≤ 9223372036854775807 := by
      rcases h.row.form with ⟨_, h2⟩ | ⟨g, c', h1, h2, h3, h4, h5⟩
      · rw [h2]; simp
      · unfold maxLen at h5; omega
    rw [hh] at CB
    generalize posT cmpI xs k = p at *
    obtain ⟨g1, x1, rfl, _, hx, hg, _, hc1⟩ := h.row.at hp
    rw [ho] at hx
    injection hx with hx
    subst hx
    have hb0 : w.cell? ⟨g, 0, none⟩ = some (.slice (some ⟨g1, 0, none⟩) xs.length c) := cellAt h.box 0
    have hgl := h.lt
    have hfz := h.row.frozen (p * 2 + 1)
    have T := fun W (hW : Bel w W) => h.stored hW rfl ho u
    have HO := Lib.hid ho
    generalize xs.length = n at *
    clear hh hs ho h
    go_enter Try.func31, Try.ntmps31
    go_wp2_with fail
    refine CB.out.mono ?_
    rintro e w1 ⟨rfl, hb1⟩
    replace hb0 := cell_keep hb0 (hb1.block hgl)
    replace hc1 := cell_keep hc1 (hb1.block hg)
    have hfz1 : w1.frozen? ⟨g1, p * 2 + 1, none⟩ = false := by
      unfold World.frozen? at *
      rw [hb1.block hg]; exact hfz
    clear hfz
    go_wp2
    go_region
    all_goals
      go_wp2
      go_ret2
      refine ⟨.slice (some ⟨g1, 0, none⟩) n c, by rw [Hg.out]; rfl, ?_, ?_⟩
      · rw [Hp.out]
        exact (T _ (hb1.drewN _)).1
      · exact (T _ (hb1.drewN _)).2
end Go.Proofs.Ytamihjibdcccmaa
