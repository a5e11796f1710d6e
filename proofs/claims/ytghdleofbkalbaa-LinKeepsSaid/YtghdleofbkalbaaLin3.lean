/- Walks: the document's linear sets made. -/
import Derived.Test.YtghdleofbkalbaaLin2
import Derived.Test.YtghdleofbkalbaaPure7
import Derived.Laws.ResultCell
namespace Go.Proofs.Ytghdleofbkalbaa
open Go.RowKit Go.Cb
set_option maxHeartbeats 2000000 in
theorem zero_c (S : Nat → Prop) (A : Option Addr) (c : Nat) (l : List Int) (w : World) (h : Rd intT w S A c l) (n : Nat) (hn : n = l.length) :
    Calls Try.prog 46 #[.slice A n c] w fun e w' => e = .returned (.bool (zeroB l)) ∧ w = w' := by
  subst hn
  have lm := h.lenMax
  go_enter Try.func46, Try.ntmps46
  go_wp2
  go_loop [7] (fun v => ∃ k : Nat, k ≤ l.length ∧ v = .int .i64 k ∧ Hid (∀ x ∈ l.take k, (x == 0) = true)) (fun v => l.length - (intOf v).toNat)
  case atStart => exact ⟨0, Nat.zero_le _, rfl, by intro x hx; simp at hx⟩
  case round =>
    obtain ⟨k, hk, rfl, hp⟩ := hrel
    by_cases hlt : k < l.length
    · obtain ⟨ad, rfl, hc⟩ := h.int hlt
      cases hz : (l[k] == 0) with
      | true =>
        have Hs := Lib.hid (all_snoc hlt hp.out hz)
        have hz2 : (l[k] != 0) = false := by rw [bne, hz]; rfl
        go_wp2
        go_round
        case rel => exact ⟨k + 1, by omega, by go_num, Hs.out⟩
        case measure => simp [intOf]; omega
      | false =>
        have He := Lib.hid (show zeroB l = false from by
          unfold zeroB
          rw [← Bool.not_eq_true, List.all_eq_true]
          intro h2
          rw [h2 l[k] (List.getElem_mem hlt)] at hz
          cases hz)
        have hz2 : (l[k] != 0) = true := by rw [bne, hz]; rfl
        go_wp2
        go_ret
        exact ⟨by rw [He.out]; rfl, rfl⟩
    · have He := Lib.hid (show zeroB l = true from by
        unfold zeroB
        rw [List.all_eq_true]
        intro x hx
        exact hp.out x (by rwa [List.take_of_length_le (by omega)]))
      go_wp2
      go_ret
      exact ⟨by rw [He.out]; rfl, rfl⟩

theorem info_bag : (Try.prog.info? 23).map (fun i => (i.zero, i.size, i.bytes)) = some (some (.slice none 0 0), 1, 24) := by kernel_rfl
theorem putOwn {S : Nat → Prop} {w w1 : World} {v1 v2 : Value} {j : Nat} (h : w.heap.size ≤ w1.heap.size) (h1 : ∀ k, v1.ownBlock = some k → k < w1.heap.size) (h2 : v2.ownBlock = (Value.slice none 0 0).ownBlock ∨ v2.ownBlock = some w1.heap.size) (hj : False ∨ some j = v2.ownBlock) :
    (S j ∨ w.heap.size ≤ j) ∧ some j ≠ v1.ownBlock := by
  rcases hj with hj | hj
  · exact hj.elim
  · rcases h2 with h2 | h2
    · rw [h2] at hj
      exact absurd (show some j = none from hj) (by simp)
    · rw [h2] at hj
      injection hj with hj
      subst hj
      exact ⟨.inr h, fun e => by have := h1 _ e.symm; omega⟩
set_option maxRecDepth 100000 in
set_option maxHeartbeats 4000000 in
theorem put_c (S S' : Nat → Prop) (A B : Option Addr) (c cb : Nat) (ps : List (List Int)) (b : List Int) (w : World) (h : Rd bagT w S A c ps) (hb : Rd intT w S' B cb b) (n m : Nat) (hn : n = ps.length) (hm : m = b.length) (hl : ps.length ≤ 1000000) (hl2 : b.length ≤ 1000000) :
    Calls Try.prog 47 #[.slice A n c, .slice B m cb] w fun e w' => ∃ A' c', e = .returned (.slice A' (putB ps b).length c') ∧ Rd bagT w' (fun k => S k ∨ w.heap.size ≤ k) A' c' (putB ps b) ∧ Bel w w' := by
  subst hn hm
  have lm := h.lenMax
  go_enter Try.func47, Try.ntmps47
  go_wp2
  go_loopw [5] (fun v wr => ∃ (k : Nat) (W : World), W = wr ∧ k ≤ ps.length ∧ v = .int .i64 k ∧ Hid (allBelow ps b k) ∧ Dr w W) (fun v _ => ps.length - (intOf v).toNat)
  case atStart => exact ⟨0, _, rfl, Nat.zero_le _, rfl, allBelow_zero _ _, Dr.refl _⟩
  case round =>
    obtain ⟨k, W, rfl, hk, rfl, hp, hbl⟩ := hrel
    have h1 := h.to hbl.bel
    have hb1 := hb.to hbl.bel
    by_cases hlt : k < ps.length
    · obtain ⟨ad, P, cp, rfl, hpc, hpr⟩ := h1.row hlt
      obtain ⟨z, hz⟩ : ∃ z, cmpB ps[k] b = z := ⟨_, rfl⟩
      have Q : ∀ W', Dr W W' → Calls Try.prog 50 #[.slice P ps[k].length cp, .slice B b.length cb] W' fun e w' => e = .returned (.int .i64 z) ∧ Dr W' w' := fun W' hd => by
        have := refCompareQ_c _ _ _ _ _ _ _ _ _ (hpr.to hd.bel) (hb1.to hd.bel) _ _ rfl rfl
        rw [hz] at this
        exact this
      by_cases h0 : z < 0
      · have Hs := Lib.hid (allBelow_snoc hp.out hlt (hz ▸ h0))
        clear hz
        go_wp2_with (go_at_call 50; refine (Q _ (Dr.refl _)).mono ?_; rintro e w3 ⟨rfl, hd⟩)
        go_roundw
        case rel => exact ⟨k + 1, _, rfl, by omega, by go_num, Hs.out, hbl.trans hd⟩
        case measure => simp [intOf]; omega
      · by_cases h2 : z = 0
        · have He := Lib.hid (putB_same hlt hp.out (hz.trans h2))
          subst h2
          clear hz
          go_wp2_with fail
          refine (Q _ (Dr.refl _)).mono ?_
          rintro e w3 ⟨rfl, q, rfl⟩
          have hd : Dr W (W.drewN q) := ⟨q, rfl⟩
          have Q2 := Q _ hd
          go_wp2_with fail
          refine Q2.mono ?_
          rintro e w4 ⟨rfl, hd2⟩
          go_wp2_with fail
          go_ret
          exact ⟨_, _, by rw [He.out]; rfl, by rw [He.out]; exact (h1.to (hd.trans hd2).bel).mono (fun _ hj => .inl hj), (hbl.trans (hd.trans hd2)).bel⟩
        · have He := Lib.hid (putB_in hlt hp.out (by rw [hz]; omega))
          have hz1 : (z == 0) = false := by simpa using h2
          have hLw := h.bound
          have hcap := h.cap
          have hck : ¬ c = k := by omega
          have hD : Rd bagT w (fun j => S j ∧ j < w.heap.size) (some (ad.add k)) (c - k) (ps.drop k) := by
            have := hLw.drop k (by omega)
            rw [if_neg hck, show k * bagT.sz = k from Nat.mul_one k] at this
            exact this
          have hL := hLw.to hbl.bel
          clear hz
          go_wp2_with fail
          refine (Q _ (Dr.refl _)).mono ?_
          rintro e w3 ⟨rfl, q, rfl⟩
          have hd : Dr W (W.drewN q) := ⟨q, rfl⟩
          have Q2 := Q _ hd
          go_wp2_with fail
          refine Q2.mono ?_
          rintro e w4 ⟨rfl, hd2⟩
          replace hL := (hL.to hd.bel).to hd2.bel
          replace hb1 := (hb1.to hd.bel).to hd2.bel
          have hbw := (hbl.trans (hd.trans hd2)).bel
          clear Q Q2
          go_wp2_with (first
            | (at_builtin; refine wp_append bagT (w0 := w) 24 23 (.slice none 0 0) 24 rfl _ _ rfl Try.underlying24 info_bag rfl (fun j => S j ∨ w.heap.size ≤ j) (fun j => S j ∧ j < w.heap.size) (.slice none 0 0) [] (ps.take k) _ _ c rfl rfl (by simp; omega) (Own.nil _ _ _ _ _) (hL.take k) (bagT.rdNil (fun _ hj _ => .inl hj.1)) hbw (by simp [maxLen]; omega) (by simp; omega) ?_; rintro v1 w1 ho1 hb1 hg1 _; rw [List.nil_append] at ho1)
            | (at_builtin; refine wp_append intT (w0 := w) 23 3 (.int .i64 0) 8 rfl _ _ rfl Try.underlying23 info_int rfl (Ge w.heap.size) S' (.slice none 0 0) [] b _ _ cb rfl rfl rfl (Own.nil _ _ _ _ _) (hb.to hb1) (fun _ _ h => h) hb1 (by simp [maxLen]; omega) (by simp; omega) ?_; rintro v2 w2 ho2 hb2 hg2 hv2; rw [List.nil_append] at ho2; obtain ⟨A2, c2, rfl, hr2⟩ := (ho2.any (S' := fun _ => False)).rd)
            | (at_builtin; refine wp_append1 bagT (w0 := w) 24 23 (.slice none 0 0) 24 rfl _ _ rfl Try.underlying24 info_bag rfl (fun j => S j ∨ w.heap.size ≤ j) v1 (ps.take k) b [.slice A2 b.length c2] rfl rfl (ho1.to ((Bel.refl w1).grown hg2 (by intro k hk; cases hk))) ⟨A2, c2, rfl, hr2.mono (fun j hj => putOwn hb1.size (fun _ => ho1.lt) hv2 hj)⟩ hb2 (by simp [maxLen]; omega) (by simp; omega) ?_; rintro v3 w3 ho3 hb3 hg3 _)
            | (at_builtin; refine wp_append bagT (w0 := w) 24 23 (.slice none 0 0) 24 rfl _ _ rfl Try.underlying24 info_bag rfl (fun j => S j ∨ w.heap.size ≤ j) (fun j => S j ∧ j < w.heap.size) v3 (ps.take k ++ [b]) (ps.drop k) (some (ad.add k)) _ (c - k) rfl rfl (by simp) ho3 (hD.to hb3) (bagT.rdS (fun j hj _ => ⟨.inl hj.1, fun e => by have := ho3.ge e.symm; omega⟩)) hb3 (by simp [maxLen]; omega) (by simp; omega) ?_; rintro v4 w5 ho4 hb4 _ _; rw [← He.out] at ho4; obtain ⟨A4, c4, rfl, hr4⟩ := ho4.rd))
          go_ret
          exact ⟨_, _, rfl, hr4.mono (fun j hj => by
            rcases hj with hj | hj
            · exact hj
            · exact .inr (ho4.ge hj.symm)), hb4⟩
    · obtain rfl : k = ps.length := by omega
      have He := Lib.hid (putB_end hp.out)
      have hLw := h.bound
      have hL := hLw.to hbl.bel
      have hbw := hbl.bel
      have hcap := h.cap
      have hcm := h.capMax
      go_wp2_with (first
        | (at_builtin; refine wp_append bagT (w0 := w) 24 23 (.slice none 0 0) 24 rfl _ _ rfl Try.underlying24 info_bag rfl (fun j => S j ∨ w.heap.size ≤ j) (fun j => S j ∧ j < w.heap.size) (.slice none 0 0) [] (ps.take ps.length) _ _ c rfl rfl (by simp) (Own.nil _ _ _ _ _) (hL.take ps.length) (bagT.rdNil (fun _ hj _ => .inl hj.1)) hbw (by simp [maxLen] <;> omega) (by simp <;> omega) ?_; rintro v1 w1 ho1 hb1 hg1 _; rw [List.nil_append] at ho1)
        | (at_builtin; refine wp_append intT (w0 := w) 23 3 (.int .i64 0) 8 rfl _ _ rfl Try.underlying23 info_int rfl (Ge w.heap.size) S' (.slice none 0 0) [] b _ _ cb rfl rfl rfl (Own.nil _ _ _ _ _) (hb.to hb1) (fun _ _ h => h) hb1 (by simp [maxLen] <;> omega) (by simp <;> omega) ?_; rintro v2 w2 ho2 hb2 hg2 hv2; rw [List.nil_append] at ho2; obtain ⟨A2, c2, rfl, hr2⟩ := (ho2.any (S' := fun _ => False)).rd)
        | (at_builtin; refine wp_append1 bagT (w0 := w) 24 23 (.slice none 0 0) 24 rfl _ _ rfl Try.underlying24 info_bag rfl (fun j => S j ∨ w.heap.size ≤ j) v1 (ps.take ps.length) b [.slice A2 b.length c2] rfl rfl (ho1.to ((Bel.refl w1).grown hg2 (by intro k hk; cases hk))) ⟨A2, c2, rfl, hr2.mono (fun j hj => putOwn hb1.size (fun _ => ho1.lt) hv2 hj)⟩ hb2 (by simp [maxLen] <;> omega) (by simp <;> omega) ?_; rintro v3 w3 ho3 hb3 hg3 _)
        | (at_builtin; refine wp_append bagT (w0 := w) 24 23 (.slice none 0 0) 24 rfl _ _ rfl Try.underlying24 info_bag rfl (fun j => S j ∨ w.heap.size ≤ j) (fun j => S j ∧ j < w.heap.size) v3 (ps.take ps.length ++ [b]) (ps.drop ps.length) _ _ _ rfl rfl (by simp) ho3 (Rd.drop_nil bagT w3 _ _ _ _ (by omega)) (bagT.rdS (fun j hj _ => ⟨.inl hj.1, fun e => by have := ho3.ge e.symm; omega⟩)) hb3 (by simp [maxLen] <;> omega) (by simp <;> omega) ?_; rintro v4 w5 ho4 hb4 _ _; rw [← He.out] at ho4; obtain ⟨A4, c4, rfl, hr4⟩ := ho4.rd))
      all_goals
        go_ret
        exact ⟨_, _, rfl, hr4.mono (fun j hj => by
          rcases hj with hj | hj
          · exact hj
          · exact .inr (ho4.ge hj.symm)), hb4⟩

set_option maxRecDepth 100000 in
set_option maxHeartbeats 4000000 in
theorem refOfLin_bad (S S' : Nat → Prop) (A B : Option Addr) (ca cb : Nat) (base : List Int) (ps : List (List Int)) (w : World) (h0 : Rd intT w S A ca base) (h1 : Rd bagT w S' B cb ps) (n m : Nat) (hn : n = base.length) (hm : m = ps.length)
    (hl : base.length ≤ 1000000) (hl2 : ps.length ≤ 1000000) (hl3 : ∀ p ∈ ps, p.length ≤ 1000000) (hbad : badB base = true) :
    Calls Try.prog 23 #[.slice A n ca, .slice B m cb] w fun e w' => ∃ A0 c0 A1 c1, e = .returned (.tuple #[.agg #[.slice A0 (ofLin base ps).1.1.length c0, .slice A1 (ofLin base ps).1.2.length c1], .bool (ofLin base ps).2]) ∧ Rd intT w' (Ge w.heap.size) A0 c0 (ofLin base ps).1.1 ∧ Rd bagT w' (Ge w.heap.size) A1 c1 (ofLin base ps).1.2 ∧ Bel w w' := by
  subst hn hm
  have lm := h1.lenMax
  have lb := h0.lenMax
  have He := Lib.hid (ofLin_no (ps := ps) hbad)
  unfold badB at hbad
  simp only [Bool.and_eq_true, Bool.not_eq_true', List.isEmpty_iff] at hbad
  obtain ⟨hb1, hb2⟩ := hbad
  have Hb1 := Lib.hid hb1
  have Hb2 := Lib.hid hb2
  clear hb1 hb2
  go_enter Try.func23, Try.ntmps23
  go_wp2_with fail
  have B0 := Box.new w 26 (.slice none 0 0) (.slice none 0 0)
  have hb0 : Bel w (w.alloc (.cells #[.slice none 0 0, .slice none 0 0] 26)) := (Bel.refl _).alloc _
  generalize w.alloc (.cells #[.slice none 0 0, .slice none 0 0] 26) = W0 at *
  refine (refNorm_c _ _ _ _ _ (h0.to hb0) _ rfl (by omega)).mono ?_
  rw [Hb1.out]
  rintro e w2 ⟨v2, rfl, ho2, hb2⟩
  obtain ⟨A2, c2, rfl, hr2⟩ := ho2.rd
  have B1 := (B0.to hb2).to ((Bel.refl w2).alloc (.cells #[.slice A2 ([] : List Int).length c2, .slice none 0 0] 26))
  have hb3 : Bel w (w2.alloc (.cells #[.slice A2 ([] : List Int).length c2, .slice none 0 0] 26)) := (hb0.trans hb2).alloc _
  go_wp2_with fail
  refine (zero_c _ _ _ _ _ (h0.to hb3) _ rfl).mono ?_
  rw [Hb2.out]
  rintro e w4 ⟨rfl, rfl⟩
  generalize w2.alloc (.cells #[.slice A2 ([] : List Int).length c2, .slice none 0 0] 26) = W3 at *
  obtain ⟨x0, x1, f0, f1⟩ := B1.cells
  obtain ⟨y0, y1, g0, g1⟩ := (B1.set0 (.slice none 0 0)).cells
  go_wp2_with fail
  (try simp only [Exit.inBlock, Exit.then])
  refine bodyPost_ret (v := .tuple #[.agg #[.slice none 0 0, .slice none 0 0], .bool false]) ?_ rfl ?_
  · rw [results_cell_tmp rfl]
    go_simp
  · rw [He.out]
    exact ⟨none, 0, none, 0, rfl, Rd.nil _ _ _ _ _ (by simp [maxLen]), Rd.nil _ _ _ _ _ (by simp [maxLen]), (hb3.set (Nat.le_refl _) _).set (Nat.le_refl _) _⟩
set_option maxRecDepth 100000 in
set_option maxHeartbeats 8000000 in
theorem refOfLin_nil (S S' : Nat → Prop) (A B : Option Addr) (ca cb : Nat) (base : List Int) (ps : List (List Int)) (w : World) (h0 : Rd intT w S A ca base) (h1 : Rd bagT w S' B cb ps) (n m : Nat) (hn : n = base.length) (hm : m = ps.length)
    (hl : base.length ≤ 1000000) (hl2 : ps.length ≤ 1000000) (hl3 : ∀ p ∈ ps, p.length ≤ 1000000) (hbad : badB base = false) (hnb : normB base = []) :
    Calls Try.prog 23 #[.slice A n ca, .slice B m cb] w fun e w' => ∃ A0 c0 A1 c1, e = .returned (.tuple #[.agg #[.slice A0 (ofLin base ps).1.1.length c0, .slice A1 (ofLin base ps).1.2.length c1], .bool (ofLin base ps).2]) ∧ Rd intT w' (Ge w.heap.size) A0 c0 (ofLin base ps).1.1 ∧ Rd bagT w' (Ge w.heap.size) A1 c1 (ofLin base ps).1.2 ∧ Bel w w' := by
  subst hn hm
  have lm := h1.lenMax
  have lb := h0.lenMax
  have Hbad := Lib.hid hbad
  have Hb1 := Lib.hid hnb
  have Hb2 : normB base = [] → zeroB base = true := fun e => by
    have := hbad
    unfold badB at this
    rw [e] at this
    simpa using this
  have Hl3 := Lib.hid hl3
  clear hbad hnb hl3
  go_enter Try.func23, Try.ntmps23
  go_wp2_with fail
  have B0 := Box.new w 26 (.slice none 0 0) (.slice none 0 0)
  have hb0 : Bel w (w.alloc (.cells #[.slice none 0 0, .slice none 0 0] 26)) := (Bel.refl _).alloc _
  have hs0 : (w.alloc (.cells #[.slice none 0 0, .slice none 0 0] 26)).heap.size = w.heap.size + 1 := by simp
  generalize w.alloc (.cells #[.slice none 0 0, .slice none 0 0] 26) = W0 at *
  refine (refNorm_c _ _ _ _ _ (h0.to hb0) _ rfl (by omega)).mono ?_
  rw [Hb1.out]
  rintro e w2 ⟨v2, rfl, ho2, hb2⟩
  obtain ⟨A2, c2, rfl, hr2⟩ := ho2.rdOne
  have B1 := (B0.to hb2).to ((Bel.refl w2).alloc (.cells #[.slice A2 ([] : List Int).length c2, .slice none 0 0] 26))
  have L1 := Box.new w2 26 (.slice A2 ([] : List Int).length c2) (.slice none 0 0)
  have hr2 := hr2.to ((Bel.refl w2).alloc (.cells #[.slice A2 ([] : List Int).length c2, .slice none 0 0] 26))
  have hb3 : Bel w (w2.alloc (.cells #[.slice A2 ([] : List Int).length c2, .slice none 0 0] 26)) := (hb0.trans hb2).alloc _
  have hsz := (hb0.trans hb2).size
  have hsz2 := hb2.size
  have Z := Hb2 Hb1.out
  have HZ := Lib.hid Z
  clear Z Hb2
  go_wp2_with fail
  refine (zero_c _ _ _ _ _ (h0.to hb3) _ rfl).mono ?_
  rw [HZ.out]
  rintro e w4 ⟨rfl, rfl⟩
  generalize w2.alloc (.cells #[.slice A2 ([] : List Int).length c2, .slice none 0 0] 26) = W3 at *
  obtain ⟨x0, x1, f0, f1⟩ := L1.cells
  go_wp2_with fail
  have LL : w2.heap.size < W3.heap.size := L1.lt
  clear x0 x1 f0 f1
  replace hr2 : Rd intT W3 (fun k => w.heap.size ≤ k ∧ k ≠ w2.heap.size ∧ k ≠ w.heap.size) A2 c2 [] := hr2.mono (fun k hk => ⟨by omega, by omega, by omega⟩)
  have hLR : w2.heap.size ≠ w.heap.size := by omega
  have hLw : w.heap.size ≤ w2.heap.size := hsz
  generalize w2.heap.size = L at *
  clear ho2 hb2 hb0 hs0
  go_loopw [25] (fun v wr => ∃ (k : Nat) (W : World) (acc : List (List Int)) (AP : Option Addr) (cP : Nat), W = wr ∧ k ≤ ps.length ∧ v = .int .i64 k ∧ Hid (ofF [] ps = ofF acc (ps.drop k)) ∧ acc.length ≤ k ∧
      Box W 26 w.heap.size (.slice none 0 0) (.slice none 0 0) ∧ Box W 26 L (.slice A2 ([] : List Int).length c2) (.slice AP acc.length cP) ∧
      Rd intT W (fun k => w.heap.size ≤ k ∧ k ≠ L ∧ k ≠ w.heap.size) A2 c2 [] ∧ Rd bagT W (fun k => w.heap.size ≤ k ∧ k ≠ L ∧ k ≠ w.heap.size) AP cP acc ∧ Bel w W) (fun v _ => ps.length - (intOf v).toNat)
  case atStart => exact ⟨0, _, [], none, 0, rfl, Nat.zero_le _, rfl, rfl, Nat.zero_le _, B1, L1, hr2, Rd.nil _ _ _ _ _ (by simp [maxLen]), hb3⟩
  case round =>
    clear B1 L1 hr2 hb3 LL
    obtain ⟨k, W, acc, AP, cP, rfl, hk, rfl, hp, hacc, B1, L1, hr2, hrP, hb3⟩ := hrel
    by_cases hlt : k < ps.length
    · obtain ⟨ad, P, cp, rfl, hpc, hpr⟩ := (h1.to hb3).row hlt
      have hl3 := Hl3.out ps[k] (List.getElem_mem hlt)
      have hs := hp.out.trans (ofF_at acc hlt)
      obtain ⟨p, hpe⟩ : ∃ p, ps[k] = p := ⟨_, rfl⟩
      rw [hpe] at hpc hpr hl3 hs
      clear hpe
      have lp := hpr.lenMax
      have Hs := Lib.hid hs
      clear hs
      cases hbp : badB p with
      | true =>
        rw [hbp] at Hs
        have He := Lib.hid (ofLin_no2 (ps := ps) Hbad.out (Hs.out.trans (if_pos rfl)))
        unfold badB at hbp
        simp only [Bool.and_eq_true, Bool.not_eq_true', List.isEmpty_iff] at hbp
        have Hq1 := Lib.hid hbp.1
        have Hq2 := Lib.hid hbp.2
        clear hbp
        go_wp2_with fail
        refine (refNorm_c _ _ _ _ _ hpr _ rfl (by omega)).mono ?_
        rw [Hq1.out]
        rintro e w5 ⟨v5, rfl, ho5, hb5⟩
        obtain ⟨A5, c5, rfl, hr5⟩ := ho5.rdOne
        have B2 := B1.to hb5
        go_wp2_with fail
        refine (zero_c _ _ _ _ _ (hpr.to hb5) _ rfl).mono ?_
        rw [Hq2.out]
        rintro e w6 ⟨rfl, rfl⟩
        obtain ⟨x0, x1, f0, f1⟩ := B2.cells
        obtain ⟨y0, y1, g0, g1⟩ := (B2.set0 (.slice none 0 0)).cells
        go_wp2_with fail
        (try simp only [Exit.inBlock, Exit.then])
        refine bodyPost_ret (v := .tuple #[.agg #[.slice none 0 0, .slice none 0 0], .bool false]) ?_ rfl ?_
        · rw [results_cell_tmp rfl]
          go_simp
        · rw [He.out]
          exact ⟨none, 0, none, 0, rfl, Rd.nil _ _ _ _ _ (by simp [maxLen]), Rd.nil _ _ _ _ _ (by simp [maxLen]), ((hb3.trans hb5).set (Nat.le_refl _) _).set (Nat.le_refl _) _⟩
      | false =>
        rw [hbp] at Hs
        have Hz : normB p = [] → zeroB p = true := fun e => by
          unfold badB at hbp
          rw [e] at hbp
          simpa using hbp
        have Hs2 := Lib.hid (Hs.out.trans (if_neg (by simp)))
        clear Hs hbp
        obtain ⟨q, hq⟩ : ∃ q, normB p = q := ⟨_, rfl⟩
        have lq := normB_len p
        rw [hq] at Hs2 Hz lq
        have Hq := Lib.hid hq
        clear hq
        cases q with
        | nil =>
          have Hz2 := Lib.hid (Hz rfl)
          have Hs3 := Lib.hid (show ofF [] ps = ofF acc (ps.drop (k + 1)) from Hs2.out)
          clear Hz lq Hs2
          go_wp2_with fail
          refine (refNorm_c _ _ _ _ _ hpr _ rfl (by omega)).mono ?_
          rw [Hq.out]
          rintro e w5 ⟨v5, rfl, ho5, hb5⟩
          obtain ⟨A5, c5, rfl, hr5⟩ := ho5.rdOne
          go_wp2_with fail
          refine (zero_c _ _ _ _ _ (hpr.to hb5) _ rfl).mono ?_
          rw [Hz2.out]
          rintro e w6 ⟨rfl, rfl⟩
          go_wp2_with fail
          go_roundw
          case rel => exact ⟨k + 1, _, acc, AP, cP, rfl, by omega, by go_num, Hs3.out, by omega, B1.to hb5, L1.to hb5, hr2.to hb5, hrP.to hb5, hb3.trans hb5⟩
          case measure => simp [intOf]; omega
        | cons y q =>
          have Hs3 := Lib.hid (show ofF [] ps = ofF (putB acc (y :: q)) (ps.drop (k + 1)) from Hs2.out)
          clear Hz Hs2
          have lq2 : q.length ≤ 11 := by simpa using lq
          go_wp2_with fail
          refine (refNorm_c _ _ _ _ _ hpr _ rfl (by omega)).mono ?_
          rw [Hq.out]
          rintro e w5 ⟨v5, rfl, ho5, hb5⟩
          obtain ⟨A5, c5, rfl, hr5⟩ := ho5.rdOne
          have L2 := L1.to hb5
          obtain ⟨x0, x1, f0, f1⟩ := L2.cells
          go_wp2_with fail
          refine (put_c _ _ _ _ _ _ acc (y :: q) _ (hrP.to hb5) hr5 _ _ rfl rfl (by omega) (by omega)).mono ?_
          rintro e w6 ⟨A6, c6, rfl, hr6, hb6⟩
          have L3 := L2.to hb6
          have l5 := L2.lt
          obtain ⟨x0, x1, f0, f1⟩ := L3.cells
          have lpl := putB_length acc (y :: q)
          have hu := Upd.one w6 L 1 (.slice A6 (putB acc (y :: q)).length c6)
          go_wp2_with fail
          go_roundw
          case rel => exact ⟨k + 1, _, putB acc (y :: q), A6, c6, rfl, by omega, by go_num, Hs3.out, by omega, ((B1.to hb5).to hb6).other hu (Ne.symm hLR), L3.set1 _, ((hr2.to hb5).to hb6).upd hu (fun h => h.2.1 rfl),
              (hr6.mono (fun j hj => by have := (hb3.trans hb5).size; omega)).upd hu (fun h => h.2.1 rfl), ((hb3.trans hb5).trans hb6).upd hu hLw⟩
          case measure => simp [intOf]; omega
    · have Hs := Lib.hid (show ofF [] ps = some acc from by rw [hp.out, List.drop_eq_nil_of_le (by omega)]; rfl)
      have He := Lib.hid (ofLin_yes Hbad.out Hs.out)
      obtain ⟨x0, x1, f0, f1⟩ := B1.cells
      obtain ⟨y0, y1, g0, g1⟩ := L1.cells
      obtain ⟨z0, z1, k0, k1⟩ := (B1.set0 (.slice A2 ([] : List Int).length c2)).cells
      have hu := (Upd.one W w.heap.size 0 (.slice A2 ([] : List Int).length c2)).set (p := ⟨w.heap.size, 1, none⟩) rfl (.slice AP acc.length cP)
      obtain ⟨t0, t1, m0, m1⟩ := ((B1.set0 (.slice A2 ([] : List Int).length c2)).set1 (.slice AP acc.length cP)).cells
      go_wp2_with fail
      (try simp only [Exit.inBlock, Exit.then])
      refine bodyPost_ret (v := .tuple #[.agg #[.slice A2 ([] : List Int).length c2, .slice AP acc.length cP], .bool true]) ?_ rfl ?_
      · rw [results_cell_tmp rfl]
        go_simp
      · rw [He.out, Hb1.out]
        exact ⟨_, _, _, _, rfl, (hr2.upd hu (fun h => h.2.2 rfl)).mono (fun _ h => h.1), (hrP.upd hu (fun h => h.2.2 rfl)).mono (fun _ h => h.1), hb3.upd hu (Nat.le_refl _)⟩
set_option maxRecDepth 100000 in
set_option maxHeartbeats 8000000 in
theorem refOfLin_cons (S S' : Nat → Prop) (A B : Option Addr) (ca cb : Nat) (base : List Int) (ps : List (List Int)) (w : World) (h0 : Rd intT w S A ca base) (h1 : Rd bagT w S' B cb ps) (n m : Nat) (hn : n = base.length) (hm : m = ps.length)
    (hl : base.length ≤ 1000000) (hl2 : ps.length ≤ 1000000) (hl3 : ∀ p ∈ ps, p.length ≤ 1000000) (hbad : badB base = false)(x : Int) (nb : List Int) (hnb : normB base = (x :: nb)) :
    Calls Try.prog 23 #[.slice A n ca, .slice B m cb] w fun e w' => ∃ A0 c0 A1 c1, e = .returned (.tuple #[.agg #[.slice A0 (ofLin base ps).1.1.length c0, .slice A1 (ofLin base ps).1.2.length c1], .bool (ofLin base ps).2]) ∧ Rd intT w' (Ge w.heap.size) A0 c0 (ofLin base ps).1.1 ∧ Rd bagT w' (Ge w.heap.size) A1 c1 (ofLin base ps).1.2 ∧ Bel w w' := by
  subst hn hm
  have lm := h1.lenMax
  have lb := h0.lenMax
  have Hbad := Lib.hid hbad
  have Hb1 := Lib.hid hnb
  have Hb2 : normB base = [] → zeroB base = true := fun e => by
    have := hbad
    unfold badB at this
    rw [e] at this
    simpa using this
  have Hl3 := Lib.hid hl3
  clear hbad hnb hl3
  go_enter Try.func23, Try.ntmps23
  go_wp2_with fail
  have B0 := Box.new w 26 (.slice none 0 0) (.slice none 0 0)
  have hb0 : Bel w (w.alloc (.cells #[.slice none 0 0, .slice none 0 0] 26)) := (Bel.refl _).alloc _
  have hs0 : (w.alloc (.cells #[.slice none 0 0, .slice none 0 0] 26)).heap.size = w.heap.size + 1 := by simp
  generalize w.alloc (.cells #[.slice none 0 0, .slice none 0 0] 26) = W0 at *
  refine (refNorm_c _ _ _ _ _ (h0.to hb0) _ rfl (by omega)).mono ?_
  rw [Hb1.out]
  rintro e w2 ⟨v2, rfl, ho2, hb2⟩
  obtain ⟨A2, c2, rfl, hr2⟩ := ho2.rdOne
  have B1 := (B0.to hb2).to ((Bel.refl w2).alloc (.cells #[.slice A2 ((x :: nb) : List Int).length c2, .slice none 0 0] 26))
  have L1 := Box.new w2 26 (.slice A2 ((x :: nb) : List Int).length c2) (.slice none 0 0)
  have hr2 := hr2.to ((Bel.refl w2).alloc (.cells #[.slice A2 ((x :: nb) : List Int).length c2, .slice none 0 0] 26))
  have hb3 : Bel w (w2.alloc (.cells #[.slice A2 ((x :: nb) : List Int).length c2, .slice none 0 0] 26)) := (hb0.trans hb2).alloc _
  have hsz := (hb0.trans hb2).size
  have hsz2 := hb2.size
  have lnb : (x :: nb).length ≤ 12 := by have := normB_len base; rwa [Hb1.out] at this
  have lnb2 : nb.length ≤ 11 := by simpa using lnb
  clear Hb2 lnb
  go_wp2_with fail
  generalize w2.alloc (.cells #[.slice A2 ((x :: nb) : List Int).length c2, .slice none 0 0] 26) = W3 at *
  obtain ⟨x0, x1, f0, f1⟩ := L1.cells
  go_wp2_with fail
  have LL : w2.heap.size < W3.heap.size := L1.lt
  clear x0 x1 f0 f1
  replace hr2 : Rd intT W3 (fun k => w.heap.size ≤ k ∧ k ≠ w2.heap.size ∧ k ≠ w.heap.size) A2 c2 (x :: nb) := hr2.mono (fun k hk => ⟨by omega, by omega, by omega⟩)
  have hLR : w2.heap.size ≠ w.heap.size := by omega
  have hLw : w.heap.size ≤ w2.heap.size := hsz
  generalize w2.heap.size = L at *
  clear ho2 hb2 hb0 hs0
  go_loopw [25] (fun v wr => ∃ (k : Nat) (W : World) (acc : List (List Int)) (AP : Option Addr) (cP : Nat), W = wr ∧ k ≤ ps.length ∧ v = .int .i64 k ∧ Hid (ofF [] ps = ofF acc (ps.drop k)) ∧ acc.length ≤ k ∧
      Box W 26 w.heap.size (.slice none 0 0) (.slice none 0 0) ∧ Box W 26 L (.slice A2 ((x :: nb) : List Int).length c2) (.slice AP acc.length cP) ∧
      Rd intT W (fun k => w.heap.size ≤ k ∧ k ≠ L ∧ k ≠ w.heap.size) A2 c2 (x :: nb) ∧ Rd bagT W (fun k => w.heap.size ≤ k ∧ k ≠ L ∧ k ≠ w.heap.size) AP cP acc ∧ Bel w W) (fun v _ => ps.length - (intOf v).toNat)
  case atStart => exact ⟨0, _, [], none, 0, rfl, Nat.zero_le _, rfl, rfl, Nat.zero_le _, B1, L1, hr2, Rd.nil _ _ _ _ _ (by simp [maxLen]), hb3⟩
  case round =>
    clear B1 L1 hr2 hb3 LL
    obtain ⟨k, W, acc, AP, cP, rfl, hk, rfl, hp, hacc, B1, L1, hr2, hrP, hb3⟩ := hrel
    by_cases hlt : k < ps.length
    · obtain ⟨ad, P, cp, rfl, hpc, hpr⟩ := (h1.to hb3).row hlt
      have hl3 := Hl3.out ps[k] (List.getElem_mem hlt)
      have hs := hp.out.trans (ofF_at acc hlt)
      obtain ⟨p, hpe⟩ : ∃ p, ps[k] = p := ⟨_, rfl⟩
      rw [hpe] at hpc hpr hl3 hs
      clear hpe
      have lp := hpr.lenMax
      have Hs := Lib.hid hs
      clear hs
      cases hbp : badB p with
      | true =>
        rw [hbp] at Hs
        have He := Lib.hid (ofLin_no2 (ps := ps) Hbad.out (Hs.out.trans (if_pos rfl)))
        unfold badB at hbp
        simp only [Bool.and_eq_true, Bool.not_eq_true', List.isEmpty_iff] at hbp
        have Hq1 := Lib.hid hbp.1
        have Hq2 := Lib.hid hbp.2
        clear hbp
        go_wp2_with fail
        refine (refNorm_c _ _ _ _ _ hpr _ rfl (by omega)).mono ?_
        rw [Hq1.out]
        rintro e w5 ⟨v5, rfl, ho5, hb5⟩
        obtain ⟨A5, c5, rfl, hr5⟩ := ho5.rdOne
        have B2 := B1.to hb5
        go_wp2_with fail
        refine (zero_c _ _ _ _ _ (hpr.to hb5) _ rfl).mono ?_
        rw [Hq2.out]
        rintro e w6 ⟨rfl, rfl⟩
        obtain ⟨x0, x1, f0, f1⟩ := B2.cells
        obtain ⟨y0, y1, g0, g1⟩ := (B2.set0 (.slice none 0 0)).cells
        go_wp2_with fail
        (try simp only [Exit.inBlock, Exit.then])
        refine bodyPost_ret (v := .tuple #[.agg #[.slice none 0 0, .slice none 0 0], .bool false]) ?_ rfl ?_
        · rw [results_cell_tmp rfl]
          go_simp
        · rw [He.out]
          exact ⟨none, 0, none, 0, rfl, Rd.nil _ _ _ _ _ (by simp [maxLen]), Rd.nil _ _ _ _ _ (by simp [maxLen]), ((hb3.trans hb5).set (Nat.le_refl _) _).set (Nat.le_refl _) _⟩
      | false =>
        rw [hbp] at Hs
        have Hz : normB p = [] → zeroB p = true := fun e => by
          unfold badB at hbp
          rw [e] at hbp
          simpa using hbp
        have Hs2 := Lib.hid (Hs.out.trans (if_neg (by simp)))
        clear Hs hbp
        obtain ⟨q, hq⟩ : ∃ q, normB p = q := ⟨_, rfl⟩
        have lq := normB_len p
        rw [hq] at Hs2 Hz lq
        have Hq := Lib.hid hq
        clear hq
        cases q with
        | nil =>
          have Hz2 := Lib.hid (Hz rfl)
          have Hs3 := Lib.hid (show ofF [] ps = ofF acc (ps.drop (k + 1)) from Hs2.out)
          clear Hz lq Hs2
          go_wp2_with fail
          refine (refNorm_c _ _ _ _ _ hpr _ rfl (by omega)).mono ?_
          rw [Hq.out]
          rintro e w5 ⟨v5, rfl, ho5, hb5⟩
          obtain ⟨A5, c5, rfl, hr5⟩ := ho5.rdOne
          go_wp2_with fail
          refine (zero_c _ _ _ _ _ (hpr.to hb5) _ rfl).mono ?_
          rw [Hz2.out]
          rintro e w6 ⟨rfl, rfl⟩
          go_wp2_with fail
          go_roundw
          case rel => exact ⟨k + 1, _, acc, AP, cP, rfl, by omega, by go_num, Hs3.out, by omega, B1.to hb5, L1.to hb5, hr2.to hb5, hrP.to hb5, hb3.trans hb5⟩
          case measure => simp [intOf]; omega
        | cons y q =>
          have Hs3 := Lib.hid (show ofF [] ps = ofF (putB acc (y :: q)) (ps.drop (k + 1)) from Hs2.out)
          clear Hz Hs2
          have lq2 : q.length ≤ 11 := by simpa using lq
          go_wp2_with fail
          refine (refNorm_c _ _ _ _ _ hpr _ rfl (by omega)).mono ?_
          rw [Hq.out]
          rintro e w5 ⟨v5, rfl, ho5, hb5⟩
          obtain ⟨A5, c5, rfl, hr5⟩ := ho5.rdOne
          have L2 := L1.to hb5
          obtain ⟨x0, x1, f0, f1⟩ := L2.cells
          go_wp2_with fail
          refine (put_c _ _ _ _ _ _ acc (y :: q) _ (hrP.to hb5) hr5 _ _ rfl rfl (by omega) (by omega)).mono ?_
          rintro e w6 ⟨A6, c6, rfl, hr6, hb6⟩
          have L3 := L2.to hb6
          have l5 := L2.lt
          obtain ⟨x0, x1, f0, f1⟩ := L3.cells
          have lpl := putB_length acc (y :: q)
          have hu := Upd.one w6 L 1 (.slice A6 (putB acc (y :: q)).length c6)
          go_wp2_with fail
          go_roundw
          case rel => exact ⟨k + 1, _, putB acc (y :: q), A6, c6, rfl, by omega, by go_num, Hs3.out, by omega, ((B1.to hb5).to hb6).other hu (Ne.symm hLR), L3.set1 _, ((hr2.to hb5).to hb6).upd hu (fun h => h.2.1 rfl),
              (hr6.mono (fun j hj => by have := (hb3.trans hb5).size; omega)).upd hu (fun h => h.2.1 rfl), ((hb3.trans hb5).trans hb6).upd hu hLw⟩
          case measure => simp [intOf]; omega
    · have Hs := Lib.hid (show ofF [] ps = some acc from by rw [hp.out, List.drop_eq_nil_of_le (by omega)]; rfl)
      have He := Lib.hid (ofLin_yes Hbad.out Hs.out)
      obtain ⟨x0, x1, f0, f1⟩ := B1.cells
      obtain ⟨y0, y1, g0, g1⟩ := L1.cells
      obtain ⟨z0, z1, k0, k1⟩ := (B1.set0 (.slice A2 ((x :: nb) : List Int).length c2)).cells
      have hu := (Upd.one W w.heap.size 0 (.slice A2 ((x :: nb) : List Int).length c2)).set (p := ⟨w.heap.size, 1, none⟩) rfl (.slice AP acc.length cP)
      obtain ⟨t0, t1, m0, m1⟩ := ((B1.set0 (.slice A2 ((x :: nb) : List Int).length c2)).set1 (.slice AP acc.length cP)).cells
      go_wp2_with fail
      (try simp only [Exit.inBlock, Exit.then])
      refine bodyPost_ret (v := .tuple #[.agg #[.slice A2 ((x :: nb) : List Int).length c2, .slice AP acc.length cP], .bool true]) ?_ rfl ?_
      · rw [results_cell_tmp rfl]
        go_simp
      · rw [He.out, Hb1.out]
        exact ⟨_, _, _, _, rfl, (hr2.upd hu (fun h => h.2.2 rfl)).mono (fun _ h => h.1), (hrP.upd hu (fun h => h.2.2 rfl)).mono (fun _ h => h.1), hb3.upd hu (Nat.le_refl _)⟩
theorem refOfLin_c (S S' : Nat → Prop) (A B : Option Addr) (ca cb : Nat) (base : List Int) (ps : List (List Int)) (w : World) (h0 : Rd intT w S A ca base) (h1 : Rd bagT w S' B cb ps) (n m : Nat) (hn : n = base.length) (hm : m = ps.length)
    (hl : base.length ≤ 1000000) (hl2 : ps.length ≤ 1000000) (hl3 : ∀ p ∈ ps, p.length ≤ 1000000) :
    Calls Try.prog 23 #[.slice A n ca, .slice B m cb] w fun e w' => ∃ A0 c0 A1 c1, e = .returned (.tuple #[.agg #[.slice A0 (ofLin base ps).1.1.length c0, .slice A1 (ofLin base ps).1.2.length c1], .bool (ofLin base ps).2]) ∧ Rd intT w' (Ge w.heap.size) A0 c0 (ofLin base ps).1.1 ∧ Rd bagT w' (Ge w.heap.size) A1 c1 (ofLin base ps).1.2 ∧ Bel w w' := by
  cases hbad : badB base with
  | true => exact refOfLin_bad S S' A B ca cb base ps w h0 h1 n m hn hm hl hl2 hl3 hbad
  | false =>
    cases hnb : normB base with
    | nil => exact refOfLin_nil S S' A B ca cb base ps w h0 h1 n m hn hm hl hl2 hl3 hbad hnb
    | cons x nb => exact refOfLin_cons S S' A B ca cb base ps w h0 h1 n m hn hm hl hl2 hl3 hbad x nb hnb
end Go.Proofs.Ytghdleofbkalbaa
