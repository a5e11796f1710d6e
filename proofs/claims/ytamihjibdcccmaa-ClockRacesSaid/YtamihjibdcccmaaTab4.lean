/- Walks of tables: slices.Insert, its three roads. -/
import Derived.Test.YtamihjibdcccmaaTab3
import Derived.Deep.RegionLaw
set_option linter.unusedVariables false
set_option linter.unusedSimpArgs false
set_option linter.all false
namespace Go.Proofs.Ytamihjibdcccmaa
open Go.RowKit Go.Cb
set_option maxHeartbeats 2000000 in
set_option maxRecDepth 100000 in
theorem insEnd_ii {β : Type} {eV : β → Value} (hV : ∀ x, (eV x).oneCell' = true) {w : World} {base c n : Nat} {A : Option Addr} {xs : List (Int × β)} (h : RowP (Value.int .i64) eV 73 w base (.slice A n c) xs) (hn : n = xs.length) (k : Int) (u : β) (vb : Nat)
    (hvb : w.heap[vb]? = some (.cells #[(Value.int .i64) k, eV u] 73 (0, 0))) (hb : base ≤ w.heap.size) (hbig : (xs.length + 1) * 16 ≤ 140737488355328) :
    Calls Try.prog 35 #[.slice A n c, .int .i64 n, .slice (some ⟨vb, 0, none⟩) 1 1] w fun e w' =>
      ∃ v', e = .returned v' ∧ RowP (Value.int .i64) eV 73 w' base v' (xs ++ [(k, u)]) ∧ w.grownBy w' (Value.slice A n c).ownBlock ∧ (v'.ownBlock = (Value.slice A n c).ownBlock ∨ v'.ownBlock = some w.heap.size) := by
  obtain ⟨v', w', hr, h2, h3, h5⟩ := run_appendP 69 69 73 _ 16 Try.underlying69 info_ii rfl h k u vb hvb (fun _ => rfl) hV hbig (by unfold maxLen; omega) hb
  have HR := Lib.hid hr
  have hnn : n ≤ c ∧ c ≤ 9223372036854775807 := by
    rcases h.form with ⟨h1, _⟩ | ⟨g, c', h1, _, _, q1, q2⟩
    · injection h1 with e1 e2 e3; omega
    · injection h1 with e1 e2 e3
      unfold maxLen at q2
      omega
  obtain ⟨hc1, hc2⟩ := hnn
  clear hr h hvb
  cases A with
  | none =>
    go_enter Try.func35, Try.ntmps35
    go_wp2_with (at_builtin; refine Lib.wpList_append_run _ rfl _ _ _ _ rfl _ _ rfl rfl _ _ HR.out ?_)
    go_ret
    exact ⟨_, rfl, h2, h3, h5⟩
  | some a =>
    go_enter Try.func35, Try.ntmps35
    go_wp2_with (at_builtin; refine Lib.wpList_append_run _ rfl _ _ _ _ rfl _ _ rfl rfl _ _ HR.out ?_)
    all_goals
      go_ret
      exact ⟨_, rfl, h2, h3, h5⟩
set_option maxHeartbeats 4000000 in
set_option maxRecDepth 100000 in
theorem insRoom_ii {β : Type} {eV : β → Value} (hV : ∀ x, (eV x).oneCell' = true) {w : World} {base g c n : Nat} {xs : List (Int × β)} (h : RowP (Value.int .i64) eV 73 w base (.slice (some ⟨g, 0, none⟩) n c) xs) (hn : n = xs.length) (p : Nat) (hp : p < n) (k : Int) (u : β) (vb : Nat)
    (hvb : w.heap[vb]? = some (.cells #[(Value.int .i64) k, eV u] 73 (0, 0))) (hne : vb ≠ g) (hc : n + 1 ≤ c) :
    Calls Try.prog 35 #[.slice (some ⟨g, 0, none⟩) n c, .int .i64 p, .slice (some ⟨vb, 0, none⟩) 1 1] w fun e w' =>
      e = .returned (.slice (some ⟨g, 0, none⟩) (n + 1) c) ∧ RowP (Value.int .i64) eV 73 w' base (.slice (some ⟨g, 0, none⟩) (n + 1) c) (xs.take p ++ (k, u) :: xs.drop p) ∧ w.grownBy w' (some g) := by
  have hfl := flat2_length (eK := (Value.int .i64)) (eV := eV) xs
  have hcm : c ≤ 9223372036854775807 := by
    rcases h.form with ⟨h1, _⟩ | ⟨g', c', h1, _, _, q1, q2⟩
    · injection h1 with e1 e2 e3; cases e1
    · injection h1 with e1 e2 e3
      unfold maxLen at q2
      omega
  have hsz : (Try.prog.info? 73).map (·.size) = some 2 := by kernel_rfl
  obtain ⟨cur, hg, hcs⟩ : ∃ cur, w.heap[g]? = some (.cells cur 73 (0, 0)) ∧ cur.size = c * 2 := by
    rcases h.2 with ⟨h1, _⟩ | ⟨g', c', cur, h1, _, h3, _, _, h6, _⟩
    · injection h1 with e1; cases e1
    · injection h1 with e1 e2 e3
      injection e1 with e1
      injection e1 with e1
      subst e1 e3
      exact ⟨cur, h3, h6⟩
  have hov := fun lb cb => overlaps_ii w vb g ((p + 1) * 2) lb cb _ _ _ _ hvb hg (by omega) hne
  have hcell : ∀ j, j < (n + 1) * 2 → (w.cell? ⟨g, j, none⟩).isSome = true := fun j hj => by
    rw [cellAt hg, Array.getElem?_eq_getElem (by omega)]; rfl
  have h0 : w.ownsRow base 73 2 (.slice (some ⟨g, 0, none⟩) n c) n (flat2 (Value.int .i64) eV xs) := by subst hn; exact h
  have hrow := fun j y (hj : (flat2 (Value.int .i64) eV xs)[j]? = some y) => World.ownsRow.cells h0 (g := g) rfl j y hj
  have hone := flat2_one (eK := (Value.int .i64)) (eV := eV) (fun _ => rfl) hV xs
  obtain ⟨junk, hjl, hx⟩ := ownsRow_extend h0 (by omega)
  obtain ⟨F, hF⟩ : ∃ F, flat2 (Value.int .i64) eV xs = F := ⟨_, rfl⟩
  rw [hF] at hfl hrow hone hx
  have hdl : (F.drop (p * 2)).length = (n - p) * 2 := by rw [List.length_drop]; omega
  -- the first copy
  have hcp1 : ∀ (W : World) (dc sc : Nat), W.heap = w.heap → (Builtin.copy_ #[69, 69] 3 #[.slice (some ⟨g, (p + 1) * 2, none⟩) (n - p) dc, .slice (some ⟨g, p * 2, none⟩) (n + 1 - p) sc]).run Try.prog W = .ok (goInt (n - p : Nat)) (W.setCells g ((p + 1) * 2) (F.drop (p * 2))) := fun W dc sc hW =>
    run_copy_k W _ _ _ 73 g ((p + 1) * 2) (n - p) dc ⟨g, p * 2, none⟩ (n + 1 - p) sc (n - p) 2 (F.drop (p * 2)) Try.underlying69 hsz (by simp only [Nat.min_def]; split <;> omega) hdl
      (fun j y hj => by
        rw [Addr.add_lit]
        have := hrow (p * 2 + j) y (by rwa [List.getElem?_drop] at hj)
        rw [add_plain] at this
        unfold World.cell? at *
        rw [hW]; exact this)
      (fun j hj => by
        have := hcell ((p + 1) * 2 + j) (by omega)
        unfold World.cell? at *
        rw [hW]; exact this)
      (fun j hj => by
        have := frozenAt hg ((p + 1) * 2 + j)
        unfold World.frozen? at *
        rw [hW]; exact this) (fun y hy => hone y (List.mem_of_mem_drop hy))
  have hcp2 : ∀ (W : World) (dc : Nat), W.heap = (w.drew.setCells g ((p + 1) * 2) (F.drop (p * 2))).heap → (Builtin.copy_ #[69, 69] 3 #[.slice (some ⟨g, p * 2, none⟩) (n + 1 - p) dc, .slice (some ⟨vb, 0, none⟩) 1 1]).run Try.prog W = .ok (goInt (1 : Nat)) (W.setCells g (p * 2) [(Value.int .i64) k, eV u]) := fun W dc hW =>
    run_copy_k W _ _ _ 73 g (p * 2) (n + 1 - p) dc ⟨vb, 0, none⟩ 1 1 1 2 [(Value.int .i64) k, eV u] Try.underlying69 hsz (by simp only [Nat.min_def]; split <;> omega) rfl
      (fun j y hj => by
        have : W.cell? ⟨vb, j, none⟩ = (w.drew.setCells g ((p + 1) * 2) (F.drop (p * 2))).cell? ⟨vb, j, none⟩ := by unfold World.cell?; rw [hW]
        rw [add_plain, this, World.cell?_setCells_out g _ _ _ _ (fun e _ => absurd e hne)]
        show w.cell? ⟨vb, j, none⟩ = _
        rw [cellAt hvb]
        rcases j with _ | _ | j
        · exact hj
        · exact hj
        · simp at hj)
      (fun j hj => by
        have : W.cell? ⟨g, p * 2 + j, none⟩ = (w.drew.setCells g ((p + 1) * 2) (F.drop (p * 2))).cell? ⟨g, p * 2 + j, none⟩ := by unfold World.cell?; rw [hW]
        rw [this]
        exact isSome_setCells g (F.drop (p * 2)) ((p + 1) * 2) w.drew (fun i hi => hcell ((p + 1) * 2 + i) (by rw [hdl] at hi; omega)) (p * 2 + j) (hcell (p * 2 + j) (by have hj2 : j < 2 := hj; omega)))
      (fun j hj => by
        have : W.frozen? ⟨g, p * 2 + j, none⟩ = (w.drew.setCells g ((p + 1) * 2) (F.drop (p * 2))).frozen? ⟨g, p * 2 + j, none⟩ := by unfold World.frozen?; rw [hW]
        rw [this, World.frozen?_setCells]
        exact frozenAt hg _)
      (by
        intro y hy
        simp at hy
        rcases hy with rfl | rfl
        · rfl
        · exact hV _)
  have hx1 : w.drew.ownsRow base 73 2 (.slice (some ⟨g, 0, none⟩) (n + 1) c) (n + 1) (F ++ junk) := ownsRow_step hx (fun _ _ => rfl)
  obtain ⟨r1, g1, s1⟩ := ownsRow_setCells (F.drop (p * 2)) ((p + 1) * 2) _ _ hx1
  obtain ⟨r2, g2, s2⟩ := ownsRow_setCells [(Value.int .i64) k, eV u] (p * 2) _ _ r1
  rw [insert_list (n := n) _ (by rw [hfl, hn]) hjl rfl (by omega)] at r2
  have R : RowP (Value.int .i64) eV 73 ((w.drew.setCells g ((p + 1) * 2) (F.drop (p * 2))).setCells g (p * 2) [(Value.int .i64) k, eV u]) base (.slice (some ⟨g, 0, none⟩) (n + 1) c) (xs.take p ++ (k, u) :: xs.drop p) := by
    unfold RowP
    have e1 : (xs.take p ++ (k, u) :: xs.drop p).length = n + 1 := by rw [List.length_append, List.length_cons, List.length_take, List.length_drop]; omega
    have e2 : flat2 (Value.int .i64) eV (xs.take p ++ (k, u) :: xs.drop p) = F.take (p * 2) ++ [(Value.int .i64) k, eV u] ++ F.drop (p * 2) := by
      rw [flat2_append, flat2_cons, ← flat2_take, ← flat2_drop, hF]
      simp
    rw [e1, e2]
    exact r2
  have G : w.grownBy ((w.drew.setCells g ((p + 1) * 2) (F.drop (p * 2))).setCells g (p * 2) [(Value.int .i64) k, eV u]) (some g) :=
    ⟨g2.os.trans g1.os, g2.tape.trans g1.tape, g2.output.trans g1.output, Nat.le_trans g1.size g2.size, fun q hq hqn => (g2.block q (by rw [s1]; exact hq) hqn).trans (g1.block q hq hqn)⟩
  have HOV := Lib.hid hov
  have HC1 := Lib.hid hcp1
  have HC2 := Lib.hid hcp2
  have hq1 : ((p : Int) == (n : Int)) = false := by rw [beq_eq_false_iff_ne]; omega
  have hq2 : decide ((n : Int) + 1 > (c : Int)) = false := decide_eq_false (by omega)
  have hq3 : decide ((c : Int) < (n : Int) + 1) = false := decide_eq_false (by omega)
  have hb4 : ¬ (c = p) := by omega
  have hb5 : ¬ (c = p + 1) := by omega
  have hov := HOV.out
  have mixed : Try.prog.follows .mixedOrders = true := by kernel_rfl
  have hw1 : IntKind.i64.wrap ((p : Int) + 1) = (p : Int) + 1 := by rw [IntKind.wrap_i64]; omega
  have htn : ((p : Int) + 1).toNat = p + 1 := by omega
  have hb1 : (0 : Int) ≤ (p : Int) + 1 := by omega
  have hb2 : (p : Int) + 1 ≤ (n : Int) + 1 := by omega
  have hb3 : (p : Int) ≤ (n : Int) + 1 := by omega
  clear hn r1 r2 g1 g2 s1 s2 hx hx1 hcp1 hcp2 hone hrow hcell h h0 hF hfl hdl hjl hcs hg hvb hsz
  go_enter Try.func35, Try.ntmps35
  go_wp2_with (simp only [hov])
  clear hov
  go_region_law (refine step_copy_runI rfl (.tmp 73) (.tmp 76) 69 69 rfl (.slice (some ⟨g, (p + 1) * 2, none⟩) (n - p) (c - (p + 1))) (.slice (some ⟨g, p * 2, none⟩) (n + 1 - p) (c - p)) (by simp [Act.eval, Act.put]) (by simp [Act.eval, Act.put]) (HC1.out _ _ _ rfl) ?_)
  go_wp2_with (refine wpList_copy_runI _ rfl _ _ 69 69 rfl _ _ rfl rfl (HC2.out _ _ rfl) ?_)
  go_ret
  exact ⟨rfl, R, G⟩
set_option maxHeartbeats 4000000 in
set_option maxRecDepth 100000 in
theorem insGrow_ii {β : Type} {eV : β → Value} (hV : ∀ x, (eV x).oneCell' = true) {w : World} {base g c n : Nat} {xs : List (Int × β)} (h : RowP (Value.int .i64) eV 73 w base (.slice (some ⟨g, 0, none⟩) n c) xs) (hn : n = xs.length) (p : Nat) (hp : p < n) (k : Int) (u : β) (vb : Nat)
    (hvb : w.heap[vb]? = some (.cells #[(Value.int .i64) k, eV u] 73 (0, 0))) (hb : base ≤ w.heap.size) (hc : c < n + 1) (hbig : (n + 1) * 16 ≤ 140737488355328) :
    Calls Try.prog 35 #[.slice (some ⟨g, 0, none⟩) n c, .int .i64 p, .slice (some ⟨vb, 0, none⟩) 1 1] w fun e w' =>
      ∃ G, e = .returned (.slice (some ⟨w.heap.size, 0, none⟩) (n + 1) G) ∧ RowP (Value.int .i64) eV 73 w' base (.slice (some ⟨w.heap.size, 0, none⟩) (n + 1) G) (xs.take p ++ (k, u) :: xs.drop p) ∧ Bel w w' := by
  have hfl := flat2_length (eK := (Value.int .i64)) (eV := eV) xs
  have hgl : g < w.heap.size := (World.ownsRow.lt h g rfl).2
  have hvl : vb < w.heap.size := blk_lt hvb
  have hnc : n ≤ c := by
    rcases h.form with ⟨h1, _⟩ | ⟨g', c', h1, _, _, q1, q2⟩
    · injection h1 with e1 e2 e3; cases e1
    · injection h1 with e1 e2 e3; omega
  have hsz : (Try.prog.info? 73).map (·.size) = some 2 := by kernel_rfl
  have hml : n + 1 ≤ maxLen := by unfold maxLen; omega
  obtain ⟨W1, G, zs, hr, ho, hzl, hbel, hws, hG1, hG2⟩ := run_growP 69 3 69 73 _ 16 Try.underlying69 Try.underlying3 info_ii rfl h hn hp hc hnc hbig hml hb
  have h0 : w.ownsRow base 73 2 (.slice (some ⟨g, 0, none⟩) n c) n (flat2 (Value.int .i64) eV xs) := by subst hn; exact h
  have hrow : ∀ j y, (flat2 (Value.int .i64) eV xs)[j]? = some y → W1.cell? ⟨g, j, none⟩ = some y := fun j y hj => by
    have := World.ownsRow.cells h0 (g := g) rfl j y hj
    rw [add_plain] at this
    exact cell_keep this (hbel.block hgl)
  have hone := flat2_one (eK := (Value.int .i64)) (eV := eV) (fun _ => rfl) hV xs
  have hvb1 : W1.heap[vb]? = some (.cells #[(Value.int .i64) k, eV u] 73 (0, 0)) := (hbel.block hvl).trans hvb
  obtain ⟨N, hN⟩ : ∃ N, w.heap.size = N := ⟨_, rfl⟩
  rw [hN] at hr ho hws hgl hvl ⊢
  obtain ⟨cur, hg, hcs⟩ : ∃ cur, W1.heap[N]? = some (.cells cur 73 (0, 0)) ∧ cur.size = G * 2 := by
    rcases ho.2 with ⟨h1, _⟩ | ⟨g', c', cur, h1, _, h3, _, _, h6, _⟩
    · injection h1 with e1; cases e1
    · injection h1 with e1 e2 e3
      injection e1 with e1
      injection e1 with e1
      subst e1 e3
      exact ⟨cur, h3, h6⟩
  have hcell : ∀ j, j < (n + 1) * 2 → (W1.cell? ⟨N, j, none⟩).isSome = true := fun j hj => by
    rw [cellAt hg, Array.getElem?_eq_getElem (by omega)]; rfl
  obtain ⟨F, hF⟩ : ∃ F, flat2 (Value.int .i64) eV xs = F := ⟨_, rfl⟩
  rw [hF] at hfl hrow hone ho
  have hdl : (F.drop (p * 2)).length = (n - p) * 2 := by rw [List.length_drop]; omega
  have hcpA : ∀ (W : World) (dc : Nat), W.heap = W1.heap → (Builtin.copy_ #[69, 69] 3 #[.slice (some ⟨N, p * 2, none⟩) (n + 1 - p) dc, .slice (some ⟨vb, 0, none⟩) 1 1]).run Try.prog W = .ok (goInt (1 : Nat)) (W.setCells N (p * 2) [(Value.int .i64) k, eV u]) := fun W dc hW =>
    run_copy_k W _ _ _ 73 N (p * 2) (n + 1 - p) dc ⟨vb, 0, none⟩ 1 1 1 2 [(Value.int .i64) k, eV u] Try.underlying69 hsz (by simp only [Nat.min_def]; split <;> omega) rfl
      (fun j y hj => by
        rw [add_plain]
        have : W1.cell? ⟨vb, j, none⟩ = some y := by
          rw [cellAt hvb1]
          rcases j with _ | _ | j
          · exact hj
          · exact hj
          · simp at hj
        unfold World.cell? at *
        rw [hW]; exact this)
      (fun j hj => by
        have := hcell (p * 2 + j) (by have hj2 : j < 2 := hj; omega)
        unfold World.cell? at *
        rw [hW]; exact this)
      (fun j hj => by
        have := frozenAt hg (p * 2 + j)
        unfold World.frozen? at *
        rw [hW]; exact this)
      (by
        intro y hy
        simp at hy
        rcases hy with rfl | rfl
        · rfl
        · exact hV _)
  have hgN : g ≠ N := by omega
  have hcpB : ∀ (W : World) (dc sc : Nat), W.heap = (W1.setCells N (p * 2) [(Value.int .i64) k, eV u]).heap → (Builtin.copy_ #[69, 69] 3 #[.slice (some ⟨N, (p + 1) * 2, none⟩) (n - p) dc, .slice (some ⟨g, p * 2, none⟩) (n - p) sc]).run Try.prog W = .ok (goInt (n - p : Nat)) (W.setCells N ((p + 1) * 2) (F.drop (p * 2))) := fun W dc sc hW =>
    run_copy_k W _ _ _ 73 N ((p + 1) * 2) (n - p) dc ⟨g, p * 2, none⟩ (n - p) sc (n - p) 2 (F.drop (p * 2)) Try.underlying69 hsz (by simp only [Nat.min_def]; split <;> omega) hdl
      (fun j y hj => by
        rw [Addr.add_lit]
        have : W.cell? ⟨g, p * 2 + j, none⟩ = (W1.setCells N (p * 2) [(Value.int .i64) k, eV u]).cell? ⟨g, p * 2 + j, none⟩ := by unfold World.cell?; rw [hW]
        rw [this, World.cell?_setCells_out N _ _ _ _ (fun e _ => absurd e hgN)]
        exact hrow (p * 2 + j) y (by rwa [List.getElem?_drop] at hj))
      (fun j hj => by
        have : W.cell? ⟨N, (p + 1) * 2 + j, none⟩ = (W1.setCells N (p * 2) [(Value.int .i64) k, eV u]).cell? ⟨N, (p + 1) * 2 + j, none⟩ := by unfold World.cell?; rw [hW]
        rw [this]
        rw [hdl] at hj
        exact isSome_setCells N [(Value.int .i64) k, eV u] (p * 2) W1 (fun i hi => hcell (p * 2 + i) (by have hi2 : i < 2 := hi; omega)) ((p + 1) * 2 + j) (hcell ((p + 1) * 2 + j) (by omega)))
      (fun j hj => by
        have : W.frozen? ⟨N, (p + 1) * 2 + j, none⟩ = (W1.setCells N (p * 2) [(Value.int .i64) k, eV u]).frozen? ⟨N, (p + 1) * 2 + j, none⟩ := by unfold World.frozen?; rw [hW]
        rw [this, World.frozen?_setCells]
        exact frozenAt hg _) (fun y hy => hone y (List.mem_of_mem_drop hy))
  obtain ⟨r1, g1, s1⟩ := ownsRow_setCells [(Value.int .i64) k, eV u] (p * 2) _ _ ho
  have r1' : (W1.setCells N (p * 2) [(Value.int .i64) k, eV u]).drew.ownsRow base 73 2 (.slice (some ⟨N, 0, none⟩) (n + 1) G) (n + 1) (setL (F.take (p * 2) ++ zs) (p * 2) [(Value.int .i64) k, eV u]) := ownsRow_step r1 (fun _ _ => rfl)
  obtain ⟨r2, g2, s2⟩ := ownsRow_setCells (F.drop (p * 2)) ((p + 1) * 2) _ _ r1'
  rw [grow_list (n := n) _ (by rw [hfl, hn]) hp hzl rfl] at r2
  have R : RowP (Value.int .i64) eV 73 ((W1.setCells N (p * 2) [(Value.int .i64) k, eV u]).drew.setCells N ((p + 1) * 2) (F.drop (p * 2))) base (.slice (some ⟨N, 0, none⟩) (n + 1) G) (xs.take p ++ (k, u) :: xs.drop p) := by
    unfold RowP
    have e1 : (xs.take p ++ (k, u) :: xs.drop p).length = n + 1 := by rw [List.length_append, List.length_cons, List.length_take, List.length_drop]; omega
    have e2 : flat2 (Value.int .i64) eV (xs.take p ++ (k, u) :: xs.drop p) = F.take (p * 2) ++ [(Value.int .i64) k, eV u] ++ F.drop (p * 2) := by
      rw [flat2_append, flat2_cons, ← flat2_take, ← flat2_drop, hF]
      simp
    rw [e1, e2]
    exact r2
  have B : Bel w ((W1.setCells N (p * 2) [(Value.int .i64) k, eV u]).drew.setCells N ((p + 1) * 2) (F.drop (p * 2))) :=
    (((hbel.grown g1 (fun q hq => by injection hq with hq; omega)).drew).grown g2 (fun q hq => by injection hq with hq; omega))
  have hkk : ((n + 1 - p : Nat) : Int) = (n : Int) + 1 - (p : Int) := by omega
  rw [hkk] at hr
  have HR := Lib.hid hr
  have HCA := Lib.hid hcpA
  have HCB := Lib.hid hcpB
  have hq1 : ((p : Int) == (n : Int)) = false := by rw [beq_eq_false_iff_ne]; omega
  have hq3 : decide ((c : Int) < (n : Int) + 1) = true := decide_eq_true (by omega)
  have hb4 : ¬ (c = p) := by omega
  have hb6 : ¬ (G = p) := by omega
  have hb7 : ¬ (G = p + 1) := by omega
  have mixed : Try.prog.follows .mixedOrders = true := by kernel_rfl
  have hw1 : IntKind.i64.wrap ((p : Int) + 1) = (p : Int) + 1 := by rw [IntKind.wrap_i64]; omega
  have htn : ((p : Int) + 1).toNat = p + 1 := by omega
  have hb1 : (0 : Int) ≤ (p : Int) + 1 := by omega
  have hb2 : (p : Int) + 1 ≤ (n : Int) + 1 := by omega
  have hb3 : (p : Int) ≤ (n : Int) + 1 := by omega
  have hb5 : (p : Int) ≤ (n : Int) := by omega
  have hG3 : G ≤ 9223372036854775807 := by unfold maxLen at hG2; omega
  clear hn hkk r1 r1' r2 g1 g2 s1 s2 hr hcpA hcpB hone hrow hcell h h0 hF hfl hdl hzl hcs hg hvb hvb1 hsz hN hws ho
  go_enter Try.func35, Try.ntmps35
  go_wp2_with (first
    | (at_builtin; refine Lib.wpList_append_run _ rfl _ _ _ _ rfl _ _ rfl rfl _ _ HR.out ?_)
    | (refine wpList_copy_runI _ rfl _ _ 69 69 rfl _ _ rfl rfl (HCA.out _ _ rfl) ?_))
  go_region_law (refine step_copy_runI rfl (.tmp 50) (.tmp 53) 69 69 rfl (.slice (some ⟨N, (p + 1) * 2, none⟩) (n - p) (G - (p + 1))) (.slice (some ⟨g, p * 2, none⟩) (n - p) (c - p)) (by simp [Act.eval, Act.put]) (by simp [Act.eval, Act.put]) (HCB.out _ _ _ rfl) ?_)
  go_wp2
  go_ret
  exact ⟨G, rfl, R, B⟩
end Go.Proofs.Ytamihjibdcccmaa
