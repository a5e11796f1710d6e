/- Walks of tables: Delete, Drop. -/
import Derived.Test.YtcnbmpkbocnniaaTab7
import Derived.Deep.RegionLaw
namespace Go.Proofs.Ytcnbmpkbocnniaa
open Go.RowKit Go.Cb
theorem zero_ent (w : World) : (zeroValue 96).run Try.prog w = .ok (.agg #[.int .i64 0, .int .i64 0]) w := by kernel_rfl
set_option maxHeartbeats 4000000 in
set_option maxRecDepth 100000 in
theorem delete_ii {w : World} {base g c p m : Nat} {xs : List (Int × Int)} (h : RowP (Value.int .i64) (Value.int .i64) 96 w base (.slice (some ⟨g, 0, none⟩) (p + 1 + m) c) xs) (hn : p + 1 + m = xs.length) :
    Calls Try.prog 57 #[.slice (some ⟨g, 0, none⟩) (p + 1 + m) c, .int .i64 p, .int .i64 ((p : Int) + 1)] w fun e w' =>
      e = .returned (.slice (some ⟨g, 0, none⟩) (p + m) c) ∧ RowP (Value.int .i64) (Value.int .i64) 96 w' base (.slice (some ⟨g, 0, none⟩) (p + m) c) (xs.take p ++ xs.drop (p + 1)) ∧ w.grownBy w' (some g) := by
  have hfl := flat2_length (eK := Value.int .i64) (eV := Value.int .i64) xs
  obtain ⟨hnc, hcm⟩ : p + 1 + m ≤ c ∧ c ≤ 9223372036854775807 := by
    rcases h.form with ⟨h1, _⟩ | ⟨g', c', h1, _, _, q1, q2⟩
    · injection h1 with e1 e2 e3; cases e1
    · injection h1 with e1 e2 e3
      unfold maxLen at q2
      omega
  obtain ⟨i0, hi0, hz0, hz1, hz2⟩ : ∃ i0, Try.prog.info? 96 = some i0 ∧ i0.zero = some (.agg #[.int .i64 0, .int .i64 0]) ∧ i0.size = 2 ∧ i0.bytes = 16 := by
    obtain ⟨i0, hi, hzz⟩ := Option.map_eq_some_iff.1 info_ii
    simp only [Prod.mk.injEq] at hzz
    exact ⟨i0, hi, hzz⟩
  have h0 : w.ownsRow base 96 2 (.slice (some ⟨g, 0, none⟩) (p + 1 + m) c) (p + 1 + m) (flat2 (Value.int .i64) (Value.int .i64) xs) := by rw [hn]; rw [hn] at h; exact h
  obtain ⟨cur, hg, hcs⟩ : ∃ cur, w.heap[g]? = some (.cells cur 96 (0, 0)) ∧ cur.size = c * 2 := by
    rcases h.2 with ⟨h1, _⟩ | ⟨g', c', cur, h1, _, h3, _, _, h6, _⟩
    · injection h1 with e1; cases e1
    · injection h1 with e1 e2 e3
      injection e1 with e1
      injection e1 with e1
      subst e1 e3
      exact ⟨cur, h3, h6⟩
  have hcell : ∀ j, j < c * 2 → (w.cell? ⟨g, j, none⟩).isSome = true := fun j hj => by
    rw [cellAt hg, Array.getElem?_eq_getElem (by omega)]; rfl
  have hrow : ∀ j y, (flat2 (Value.int .i64) (Value.int .i64) xs)[j]? = some y → w.cell? ⟨g, j, none⟩ = some y := fun j y hj => by
    have := World.ownsRow.cells h0 (g := g) rfl j y hj
    rwa [add_plain] at this
  have hone := flat2_one (eK := Value.int .i64) (eV := Value.int .i64) (fun _ => rfl) (fun _ => rfl) xs
  have hfd : flat2 (Value.int .i64) (Value.int .i64) (xs.take p ++ xs.drop (p + 1)) = (flat2 (Value.int .i64) (Value.int .i64) xs).take (p * 2) ++ (flat2 (Value.int .i64) (Value.int .i64) xs).drop ((p + 1) * 2) := by
    rw [flat2_append, ← flat2_take, ← flat2_drop]
  have hll : (xs.take p ++ xs.drop (p + 1)).length = p + m := by rw [List.length_append, List.length_take, List.length_drop]; omega
  obtain ⟨F, hF⟩ : ∃ F, flat2 (Value.int .i64) (Value.int .i64) xs = F := ⟨_, rfl⟩
  rw [hF] at hfl hrow hone h0 hfd
  rw [← hn] at hfl
  have hdl : (F.drop ((p + 1) * 2)).length = m * 2 := by rw [List.length_drop]; omega
  obtain ⟨B, hA, hsrc⟩ : ∃ B : Addr, (if c = p + 1 then some (⟨g, 0, none⟩ : Addr) else some ⟨g, (p + 1) * 2, none⟩) = some B ∧ (∀ t u, (F.drop ((p + 1) * 2))[t]? = some u → w.drew.cell? (B.add t) = some u) := by
    by_cases e : c = p + 1
    · refine ⟨⟨g, 0, none⟩, by simp [e], fun t u hu => ?_⟩
      have hm0 : m = 0 := by omega
      have := (List.getElem?_eq_some_iff.1 hu).1
      omega
    · refine ⟨⟨g, (p + 1) * 2, none⟩, by simp [e], fun t u hu => ?_⟩
      rw [Addr.add_lit]
      rw [List.getElem?_drop] at hu
      exact hrow _ u hu
  obtain ⟨r1, g1, s1⟩ := ownsRow_setCells (F.drop ((p + 1) * 2)) (p * 2) w.drew F (ownsRow_step h0 (fun _ _ => rfl))
  have hfz : ∀ j, (w.drew.setCells g (p * 2) (F.drop ((p + 1) * 2))).frozen? ⟨g, j, none⟩ = false := fun j => by rw [World.frozen?_setCells]; exact frozenAt hg j
  have hcl1 : ∀ j, j < c * 2 → ((w.drew.setCells g (p * 2) (F.drop ((p + 1) * 2))).cell? ⟨g, j, none⟩).isSome = true := fun j hj =>
    isSome_setCells g _ _ w.drew (fun i hi => hcell (p * 2 + i) (by omega)) j (hcell j hj)
  have hclr := fun ty c0 => run_clear1 (P := Try.prog) (w.drew.setCells g (p * 2) (F.drop ((p + 1) * 2))) 91 96 ty (.agg #[.int .i64 0, .int .i64 0]) [.int .i64 0, .int .i64 0] Try.underlying91 zero_ent (by kernel_rfl)
    (by intro v hv; simp at hv; subst hv; rfl) rfl g ((p + m) * 2) c0 (fun j hj => hcl1 ((p + m) * 2 + j) (by omega)) (fun j hj => hfz _)
  obtain ⟨r2, g2, s2⟩ := ownsRow_setCells [.int .i64 0, .int .i64 0] ((p + m) * 2) _ _ r1
  have r3 := ownsRow_prefix r2 (i := p + m) (by omega)
  rw [delete_list hfl rfl] at r3
  have R : RowP (Value.int .i64) (Value.int .i64) 96 ((w.drew.setCells g (p * 2) (F.drop ((p + 1) * 2))).setCells g ((p + m) * 2) [.int .i64 0, .int .i64 0]) base (.slice (some ⟨g, 0, none⟩) (p + m) c) (xs.take p ++ xs.drop (p + 1)) := by
    unfold RowP
    rw [hll, hfd]
    exact r3
  have G : w.grownBy ((w.drew.setCells g (p * 2) (F.drop ((p + 1) * 2))).setCells g ((p + m) * 2) [.int .i64 0, .int .i64 0]) (some g) :=
    ⟨g2.os.trans g1.os, g2.tape.trans g1.tape, g2.output.trans g1.output, Nat.le_trans g1.size g2.size, fun q hq hqn => (g2.block q (by rw [s1]; exact hq) hqn).trans (g1.block q hq hqn)⟩
  have hone2 : ∀ u ∈ F.drop ((p + 1) * 2), u.oneCell' = true := fun y hy => hone y (List.mem_of_mem_drop hy)
  have hsp : ∀ j, j < (F.drop ((p + 1) * 2)).length → (w.drew.cell? ⟨g, 0 + p * 2 + j, none⟩).isSome = true ∧ w.drew.frozen? ⟨g, 0 + p * 2 + j, none⟩ = false := fun j hj => by
    rw [Nat.zero_add]
    exact ⟨hcell (p * 2 + j) (by omega), frozenAt hg _⟩
  obtain ⟨W1, hW1⟩ : ∃ W1, W1 = w.drew.setCells g (p * 2) (F.drop ((p + 1) * 2)) := ⟨_, rfl⟩
  rw [← hW1] at hclr R G
  have HW := Lib.hid (show W1 = w.drew.setCells g (0 + p * 2) (F.drop ((p + 1) * 2)) by rw [Nat.zero_add]; exact hW1)
  have HCL := Lib.hid hclr
  have HSRC := Lib.hid hsrc
  have HSP := Lib.hid hsp
  have H1 := Lib.hid hone2
  have HD := Lib.hid hdl
  have mixed : Try.prog.follows .mixedOrders = true := by kernel_rfl
  have hq1 : ((p : Int) == (p : Int) + 1) = false := by rw [beq_eq_false_iff_ne]; omega
  have hb1 : (0 : Int) ≤ (p : Int) + 1 := by omega
  have hb2 : (p : Int) ≤ (p : Int) + 1 := by omega
  have hb3 : (p : Int) + 1 ≤ (p : Int) + 1 + (m : Int) := by omega
  have htn : ((p : Int) + 1).toNat = p + 1 := by omega
  have hb4 : ¬ (c = p) := by omega
  have hb5 : ¬ (c = p + m) := by omega
  have hb6 : p + 1 + m - (p + m) = 1 := by omega
  have hb7 : p + 1 + m - (p + 1) = m := by omega
  have hb8 : p ≤ c := by omega
  have hb9 : p + m ≤ c := by omega
  have hclr := HCL.out
  clear hn hclr hsrc hsp hone2 hdl hW1 r1 r2 r3 g1 g2 s1 s2 hcl1 hfz hone hrow hcell hcs hg h0 h hF hfl hll hfd
  go_enter Try.func57, Try.ntmps57
  go_wp2_with fail
  go_region_law (refine step_append_room rfl (.tmp 22) (.tmp 25) 91 rfl 96 i0 2 Try.underlying91 hi0 hz1 g 0 p c (by simp [Act.eval, Act.put]) B m (c - (p + 1)) (F.drop ((p + 1) * 2)) (by simp [Act.eval, Act.put]) HD.out HSRC.out H1.out (by omega) HSP.out ?_; rw [← HW.out])
  go_wp2
  go_ret
  exact ⟨rfl, R, G⟩
set_option maxHeartbeats 4000000 in
theorem drop_ii {w : World} {base g : Nat} {v : Value} {xs : List (Int × Int)} (h : Tab (Value.int .i64) (Value.int .i64) 93 96 w base g v xs) (hs : tabOk cmpI xs) (k : Int) :
    Calls Try.prog 34 #[.pointer (some ⟨g, 0, none⟩), .int .i64 k] w fun e w' =>
      ∃ v', e = .returned (.tuple #[optV (.int .i64 0) (Value.int .i64) (getT cmpI xs k), .bool (hasT cmpI xs k)]) ∧ Tab (Value.int .i64) (Value.int .i64) 93 96 w' base g v' (dropT cmpI xs k) ∧ Step g v v' w w' := by
  obtain ⟨A, c, rfl⟩ : ∃ A c, v = .slice A xs.length c := by
    rcases h.row.form with ⟨h1, h2⟩ | ⟨g', c', h1, _⟩
    · exact ⟨none, 0, by rw [h1, h2]; rfl⟩
    · exact ⟨_, _, h1⟩
  have CB := Lib.hid (find_ii h hs k)
  cases hh : hasT cmpI xs k with
  | false =>
    have Hg := Lib.hid (show getT cmpI xs k = none from getT_none.2 hh)
    have Hp := Lib.hid (show dropT cmpI xs k = xs by unfold dropT; rw [if_neg (by rw [hh]; simp)])
    rw [hh] at CB
    have HT := Lib.hid (fun w1 (hb : Bel w w1) => h.to hb)
    clear hh hs h
    generalize posT cmpI xs k = p at *
    go_enter Try.func34, Try.ntmps34
    go_wp2_with fail
    refine CB.out.mono ?_
    rintro e w1 ⟨rfl, hb⟩
    go_wp2
    go_ret2
    exact ⟨_, by rw [Hg.out]; rfl, by rw [Hp.out]; exact HT.out _ hb, Step.ofBel hb _ _⟩
  | true =>
    obtain ⟨o, ho⟩ := (hasT_iff cmpI_ord).1 hh
    have Hg := Lib.hid (show getT cmpI xs k = some o by unfold getT; rw [if_pos hh, ho]; rfl)
    have Hp := Lib.hid (show dropT cmpI xs k = xs.take (posT cmpI xs k) ++ xs.drop (posT cmpI xs k + 1) by unfold dropT; rw [if_pos hh])
    have hp := hasT_lt hh
    have hlm : xs.length ≤ 9223372036854775807 := by
      rcases h.row.form with ⟨_, h2⟩ | ⟨g, c', h1, h2, h3, h4, h5⟩
      · rw [h2]; simp
      · unfold maxLen at h5; omega
    rw [hh] at CB
    generalize posT cmpI xs k = p at *
    obtain ⟨g1, x1, rfl, _, hx, hg, _, hc1⟩ := h.row.at hp
    rw [ho] at hx
    injection hx with hx
    subst hx
    have hb0 : w.cell? ⟨g, 0, none⟩ = some (.slice (some ⟨g1, 0, none⟩) xs.length c) := cellAt h.box 0
    have hgl := h.lt
    obtain ⟨m, hm⟩ : ∃ m, p + 1 + m = xs.length := ⟨xs.length - (p + 1), by omega⟩
    rw [← hm] at h hb0 hlm ⊢
    have HM := Lib.hid hm
    have HH := Lib.hid h
    clear hh hs ho h hm hp
    go_enter Try.func34, Try.ntmps34
    go_wp2_with fail
    refine CB.out.mono ?_
    rintro e w1 ⟨rfl, hb⟩
    replace hb0 := cell_keep hb0 (hb.block hgl)
    replace hc1 := cell_keep hc1 (hb.block hg)
    go_wp2_with fail
    refine (delete_ii (HH.out.to hb).row HM.out).mono ?_
    rintro e w2 ⟨rfl, r2, g2⟩
    obtain ⟨s1, s2, s3⟩ := HH.out.store hb g2 r2 (fun q hq => .inl hq)
    have hc2 : w2.cell? ⟨g, 0, none⟩ = some (.slice (some ⟨g1, 0, none⟩) (p + 1 + m) c) := cellAt s1 0
    have hf2 : w2.frozen? ⟨g, 0, none⟩ = false := frozenAt s1 0
    clear s1 r2 g2
    go_wp2
    go_ret2
    exact ⟨_, by rw [Hg.out]; rfl, by rw [Hp.out]; exact s2, s3⟩
end Go.Proofs.Ytcnbmpkbocnniaa
