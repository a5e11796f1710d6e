/- AutoTells: of any set and any items, any letter, by any budget: are they right, the next ones, are they final. -/
import Derived.Test.YtbfbhacdllhddaaPureB
import Derived.Test.YtbfbhacdllhddaaOf9
import Derived.Test.YtbfbhacdllhddaaAut11
import Derived.Test.YtbfbhacdllhddaaAut4
import Derived.Test.YtbfbhacdllhddaaMB
set_option linter.unusedVariables false
set_option linter.unusedSimpArgs false
set_option linter.all false
namespace Go.Cb
theorem and15_range (x : Int) : 0 ≤ bits .and .u64 x 15 ∧ bits .and .u64 x 15 ≤ 18446744073709551615 := by
  show 0 ≤ IntKind.u64.wrap ((BitVec.ofInt 64 x &&& BitVec.ofInt 64 15).toNat : Int) ∧ IntKind.u64.wrap ((BitVec.ofInt 64 x &&& BitVec.ofInt 64 15).toNat : Int) ≤ _
  rw [IntKind.wrap_u64]
  omega
theorem startS_len {s : SemS} : (startS s).length ≤ s.length := by
  unfold startS
  split
  · simp
  · exact Nat.zero_le _
theorem rawI_len (l : List Itm) : (rawI (l.take 6)).length ≤ 6 := by unfold rawI; rw [List.length_map, List.length_take]; omega
theorem itemsF_bud (s : SemS) (letter : Int) (B : Int) : ∀ (l : List Itm) (S : Int) (o : Bool) (acc : List Itm), S ≤ B → ∃ S' o', (itemsF s letter l (some (B, S, o)) acc).1 = some (B, S', o') ∧ S ≤ S' ∧ S' ≤ B
  | [], S, o, acc, h => ⟨S, o, rfl, Int.le_refl _, h⟩
  | x :: r, S, o, acc, h => by
    have h1 := spendS_range o (((2 ^ (s.getD x.1.toNat ([], [])).2.length : Nat) : Int)) h
    rw [itemsF]
    split
    · exact ⟨S, o, rfl, Int.le_refl _, h⟩
    · split
      · split
        · exact ⟨_, _, rfl, h1.1, h1.2⟩
        · obtain ⟨S', o', e, l1, l2⟩ := itemsF_bud s letter B r (spendS B S o ((2 ^ (s.getD x.1.toNat ([], [])).2.length : Nat) : Int)) (spendO B S o ((2 ^ (s.getD x.1.toNat ([], [])).2.length : Nat) : Int)) _ h1.2
          exact ⟨S', o', e, by omega, l2⟩
      · exact ⟨_, _, rfl, h1.1, h1.2⟩
theorem nextS_bud (B S : Int) (o : Bool) (h : S ≤ B) (s : SemS) (l : List Itm) (letter : Int) : ∃ S' o', (nextS (some (B, S, o)) s l letter).1 = some (B, S', o') ∧ S ≤ S' ∧ S' ≤ B := by
  obtain ⟨S', o', e, l1, l2⟩ := itemsF_bud s letter B l S o [] h
  unfold nextS
  split
  · split
    · exact ⟨S', o', e, l1, l2⟩
    · exact ⟨S', o', e, l1, l2⟩
  · exact ⟨S, o, rfl, Int.le_refl _, h⟩
theorem MetO.at1 {w : World} {t : TypeId} {v : Value} {mb : Option Nat} {b s : Int} {o : Bool} (h : MetO w t v mb (some (b, s, o))) {g : Nat} (hv : v = .pointer (some ⟨g, 0, none⟩)) : Met w t g b s o ∧ 0 ≤ s ∧ s ≤ b ∧ b ≤ 9223372036854775807 := by
  subst hv
  obtain ⟨g', e1, e2, h⟩ := h
  injection e1 with e1
  injection e1 with e1
  injection e1 with e1
  subst e1
  exact h
theorem MetO.of1 {w : World} {t : TypeId} {g : Nat} {b s : Int} {o : Bool} (h : Met w t g b s o) (h0 : 0 ≤ s) (h1 : s ≤ b) (h2 : b ≤ 9223372036854775807) : MetO w t (.pointer (some ⟨g, 0, none⟩)) (some g) (some (b, s, o)) := ⟨g, rfl, rfl, h, h0, h1, h2⟩
/-- A budget stays where another's is spent. -/
theorem Met.by_ {w w' : World} {t : TypeId} {g g' : Nat} {b s : Int} {o : Bool} (h : Met w t g b s o) (hg : w.grownBy w' (some g')) (hne : g ≠ g') : Met w' t g b s o :=
  (hg.block g h.lt (fun e => by injection e with e; exact hne e)).trans h
end Go.Cb
namespace Go.Proofs.Ytbfbhacdllhddaa
open Go.RowKit Go.Cb Go.Sort
/-- Items that lie anywhere. -/
def itmsP (l : List Itm) : SPred := ⟨fun v _ _ w => ∃ A c, v = .slice A l.length c ∧ Rd itemT w All A c l, fun _ _ _ _ _ ⟨A, c, e, h⟩ hb => ⟨A, c, e, h.to hb⟩⟩
abbrev raw9T : Ty Itm := itemT
theorem opensRaws9 : Opens Try.prog (sl raw9T) (fun x => ∀ r ∈ x, inI64 r.1 ∧ ∀ n ∈ r.2, inI64 n) 50 :=
  opens_slice Try.underlying50 (by kernel_rfl) (opens_struct2 Try.underlying96 (by kernel_rfl) (by kernel_rfl) (by kernel_rfl) (by kernel_rfl) (by kernel_rfl) (opens_int Try.underlying3) (opens_slice Try.underlying22 (by kernel_rfl) (opens_int Try.underlying3)))
set_option maxHeartbeats 64000000 in
set_option maxRecDepth 100000 in
/-- Behind the two sets of items: whatever items these are. -/
theorem AutoTells_walk (w : World) (L : Option Addr) (cl : Nat) (l : List Int) (hl : Rd intT w All L cl l) (il : ∀ x ∈ l, inI64 x) (_ : l.length * 8 ≤ 140737488351232)
    (C : Option Addr) (cc : Nat) (raw : List Itm) (hraw : Rd raw9T w All C cc raw) (_ : ∀ r ∈ raw, inI64 r.1 ∧ ∀ n ∈ r.2, inI64 n) (letter : Int) (ilet : inU64 letter) (budget : Int) (_ : inI64 budget) (how : Int) (ihow : inI64 how) :
    Calls Try.prog 5 #[.slice L l.length cl, .slice C raw.length cc, .int .u64 letter, .int .i64 budget, .int .i64 how] w fun e w' => e = .returned (.bool true) ∧ Bel w w' := by
  have oP := playSem_P l
  obtain ⟨s, hs⟩ : ∃ s, playSem l = s := ⟨_, rfl⟩
  have Hs := Lib.hid hs
  rw [hs] at oP
  have hs6 := oP.six
  have PER := Lib.hid oP.per
  have HB := Bel.refl w
  have hr := withinI_range (v := budget) (n := 60) (by decide)
  obtain ⟨B, hB⟩ : ∃ B, withinI budget 60 = B := ⟨_, rfl⟩
  have HBd := Lib.hid hB
  rw [hB] at hr
  have HBr := Lib.hid hr
  have r6 := rawI_len raw
  obtain ⟨rw6, hrw⟩ : ∃ r, rawI (raw.take 6) = r := ⟨_, rfl⟩
  have HRW := Lib.hid hrw
  rw [hrw] at r6
  have st6 := startS_len (s := s)
  clear hs hB hr oP hrw
  by_cases h0 : how.tmod 3 = 0
  · have e0 : (how.tmod 3 != 0) = false := by simp [h0]
    clear h0
    go_enter Try.func5, Try.ntmps5
    go_wp2_with fail
    refine (playSemi_c _ L cl l w hl il _ rfl).mono ?_
    rw [Hs.out]
    rintro e w1 ⟨v, rfl, r, hb⟩
    obtain ⟨As, cs, rfl, hr⟩ := r.rd
    have HB := HB.trans hb
    have Q := oflaw09_c _ C cc raw w1 (hraw.to hb) _ rfl
    rw [HRW.out] at Q
    have HQ := Lib.hid Q
    clear Q
    go_wp2_with fail
    refine HQ.out.mono ?_
    rintro e w2 ⟨v, rfl, ⟨Ar, cr, rfl, hrr⟩, hb2⟩
    have HB := HB.trans hb2
    have hr := (hr.to hb2).all
    clear HQ hb hb2
    have hxx := hrr.all
    obtain ⟨lt, hlte⟩ : ∃ lt, lt = letter := ⟨_, rfl⟩
    subst hlte
    have hlt : 0 ≤ lt ∧ lt ≤ 18446744073709551615 := ilet
    obtain ⟨wx, hwx⟩ : ∃ wx, wx = w2 := ⟨_, rfl⟩
    subst hwx
    obtain ⟨xs, hxs⟩ : ∃ xs, xs = rw6 := ⟨_, rfl⟩
    subst hxs
    obtain ⟨Ax, hAx⟩ : ∃ x, x = Ar := ⟨_, rfl⟩
    subst hAx
    obtain ⟨cx, hcx⟩ : ∃ x, x = cr := ⟨_, rfl⟩
    subst hcx
    clear hrr
    have hr0 := hr.bound
    have hx0 := hxx.bound
    have HS0 := Lib.hid (fun W (h : Bel wx W) => (hr0.to h))
    have HX0 := Lib.hid (fun W (h : Bel wx W) => (hx0.to h))
    have HW := Lib.hid HB
    clear hr hxx hr0 hx0 HB
    have hBr := HBr.out
    go_wp2_with fail
    refine (within_c budget 60 _ (by decide)).mono ?_
    rw [HBd.out]
    rintro e wB ⟨rfl, rfl⟩
    go_wp2_with fail
    refine (newMeter_s1 B _ (by omega)).mono ?_
    rintro e wm ⟨g, rfl, hg, HM, hb⟩
    have HBN := hb
    clear hb
    go_wp2_with fail
    refine (within_c budget 60 _ (by decide)).mono ?_
    rw [HBd.out]
    rintro e wB ⟨rfl, rfl⟩
    go_wp2_with fail
    refine (newMeter_s2 B _ (by omega)).mono ?_
    rintro e W0 ⟨g2, rfl, hg2, HR, hb⟩
    have hgl := HM.lt
    have hne : g ≠ g2 := by omega
    replace HM := HM.to hb
    replace HBN := HBN.trans hb
    have hNg : wx.heap.size ≤ g := by omega
    have hNg2 : wx.heap.size ≤ g2 := by omega
    rw [show max B 0 = B by omega] at HM HR
    clear hb hg hg2 hgl
    have hB9 : B ≤ 9223372036854775807 := by omega
    have hB0 : 0 ≤ B := by omega
    obtain ⟨s1, o1, f0, l0, l1⟩ := nextS_bud B 0 false hB0 s xs lt
    obtain ⟨a, ha⟩ : ∃ a, (nextS (some (B, 0, false)) s xs lt).2.1 = a := ⟨_, rfl⟩
    obtain ⟨ec, hec⟩ : ∃ e, (nextS (some (B, 0, false)) s xs lt).2.2 = e := ⟨_, rfl⟩
    have E0 := Lib.hid (show nextS (some (B, 0, false)) s xs lt = (some (B, s1, o1), a, ec) by rw [← f0, ← ha, ← hec])
    clear f0 ha hec
    obtain ⟨R, hR⟩ : ∃ R, rightI s xs = R := ⟨_, rfl⟩
    obtain ⟨F, hF⟩ : ∃ F, xs.any (fun x => x.2.length == 0) = F := ⟨_, rfl⟩
    have HR_ := Lib.hid hR
    have HF_ := Lib.hid hF
    clear hR hF
    have HMK := Lib.hid HM
    have HRK := Lib.hid HR
    have hgs1 := HM.lt
    have hrs1 := HR.lt
    have Q := autoNext_c (.pointer (some ⟨g, 0, none⟩)) (some g) (some (B, 0, false)) _ _ As Ax cs cx s xs lt W0 (MetO.of1 HM (Int.le_refl _) hB0 hB9) (HS0.out _ HBN) (HX0.out _ HBN) (fun j hj e => by injection e with e; have := hj.2; omega) (fun j hj e => by injection e with e; have := hj.2; omega) _ _ rfl rfl PER.out (by omega) hlt
    rw [E0.out] at Q
    dsimp only at Q
    have HQ := Lib.hid Q
    clear Q HM HR
    go_wp2_with fail
    refine HQ.out.mono ?_
    clear HQ
    rintro e wa ⟨v, rfl, r, hm, hg⟩
    obtain ⟨Aa, cA, rfl, hra⟩ := r
    have HM := (hm.at1 rfl).1
    have HR := HRK.out.by_ hg (Ne.symm hne)
    have HBN := HBN.grown hg (fun j e => by injection e with e; omega)
    clear hm hg HMK HRK
    have HMK := Lib.hid HM
    have HRK := Lib.hid HR
    have hgs2 := HM.lt
    have hrs2 := HR.lt
    have Q := refNext_c (.pointer (some ⟨g2, 0, none⟩)) (some g2) (some (B, 0, false)) _ _ As Ax cs cx s xs lt wa (MetO.of1 HR (Int.le_refl _) hB0 hB9) (HS0.out _ HBN) (HX0.out _ HBN) (fun j hj e => by injection e with e; have := hj.2; omega) (fun j hj e => by injection e with e; have := hj.2; omega) _ _ rfl rfl PER.out (by omega) hlt
    rw [E0.out] at Q
    dsimp only at Q
    have HQ := Lib.hid Q
    clear Q HM HR
    go_wp2_with fail
    refine HQ.out.mono ?_
    clear HQ
    rintro e W ⟨v, rfl, r, hm, hg⟩
    obtain ⟨Ab, cB, rfl, hrb⟩ := r
    have HR := (hm.at1 rfl).1
    have HM := HMK.out.by_ hg hne
    replace hra := (hra.bound.step' (fun j hj => hg.block j hj.2 (fun e => by injection e with e; have := hj.1; unfold Ge at this; omega))).all
    replace hrb := hrb.all
    have HBN := HBN.grown hg (fun j e => by injection e with e; omega)
    clear hm hg HMK HRK
    obtain ⟨q0, q1, q2, _⟩ := HR.cells
    have HQ1 := Lib.hid q1
    have HMW := Lib.hid HM
    have HSR := Lib.hid (fun W' (h : Bel W W') => (HS0.out _ (HBN.trans h)).all)
    have HXR := Lib.hid (fun W' (h : Bel W W') => (HX0.out _ (HBN.trans h)).all)
    have HBW := Lib.hid (HW.out.trans HBN)
    have Kright1 := Lib.hid (show ∀ W', Bel W W' → Calls Try.prog 15 #[.slice As s.length cs, .slice Ax xs.length cx] W' fun e w' => e = .returned (.bool R) ∧ Bel W' w' from fun W' h => by
      have := autoRight_c _ _ _ _ _ _ s xs W' (HSR.out _ h) (HXR.out _ h) _ _ rfl rfl
      rwa [HR_.out] at this)
    have Kright2 := Lib.hid (show ∀ W', Bel W W' → Calls Try.prog 24 #[.slice As s.length cs, .slice Ax xs.length cx] W' fun e w' => e = .returned (.bool R) ∧ Bel W' w' from fun W' h => by
      have := refRightItems_c _ _ _ _ _ _ s xs W' (HSR.out _ h) (HXR.out _ h) _ _ rfl rfl
      rwa [HR_.out] at this)
    have Kfin1 := Lib.hid (show ∀ W', Bel W W' → Calls Try.prog 20 #[.slice Ax xs.length cx] W' fun e w' => e = .returned (.bool F) ∧ Bel W' w' from fun W' h => by
      have := final_c _ _ _ xs W' (HXR.out _ h) _ rfl
      rwa [HF_.out] at this)
    have Kfin2 := Lib.hid (show ∀ W', Bel W W' → Calls Try.prog 25 #[.slice Ax xs.length cx] W' fun e w' => e = .returned (.bool F) ∧ Bel W' w' from fun W' h => by
      have := refFinal_c _ _ _ xs W' (HXR.out _ h) _ rfl
      rwa [HF_.out] at this)
    have Ksame2 := Lib.hid (show ∀ W', Bel W W' → Calls Try.prog 14 #[.slice Aa a.length cA, .slice Ab a.length cB] W' fun e w' => e = .returned (.bool true) ∧ Bel W' w' from fun W' h => by
      have := refSameItems_c _ _ Aa Ab cA cB a a W' (hra.to h) (hrb.to h) _ _ rfl rfl
      rwa [decide_eq_true (show a = a from rfl)] at this)
    have Kspent := Lib.hid (show ∀ W', Bel W W' → Calls Try.prog 26 #[.pointer (some ⟨g, 0, none⟩)] W' fun e w' => e = .returned (.int .i64 s1) ∧ Bel W' w' from fun W' h => (spent_s1 g B s1 o1 W' (HMW.out.to h)).mono fun e w' ⟨a, b⟩ => ⟨a, by subst b; exact Bel.refl _⟩)
    have Kwakes := Lib.hid (show ∀ W', Bel W W' → Calls Try.prog 16 #[] W' fun e w' => e = .returned (.bool true) ∧ Bel W' w' from fun W' _ => wakes09 W')
    have hbb : ∀ b : Bool, (b == b) = true := fun b => by cases b <;> rfl
    have hRR := hbb R
    have hFF := hbb F
    have hee : (ec == ec) = true := by simp
    have hss : (s1 == s1) = true := by simp
    clear hbb q0 q1 q2 HM HR HBN hra hrb
    go_wp2_with fail
    refine wp_region_grow2 43 (by kernel_rfl) (by kernel_rfl) (by kernel_rfl) [SPred.val (.slice As s.length cs), itmsP (startS s), SPred.val (.slice As s.length cs), itmsP (startS s), SPred.val (.bool true), SPred.val (.bool true), SPred.val (.slice As s.length cs), SPred.val (.slice Ax xs.length cx), SPred.val (.bool R), SPred.val (.slice As s.length cs), SPred.val (.slice Ax xs.length cx), SPred.val (.bool R), SPred.val (.bool true), SPred.val (.bool true), SPred.val (.bool true), SPred.val (.slice Ax xs.length cx), SPred.val (.bool F), SPred.val (.slice Ax xs.length cx), SPred.val (.bool F), SPred.val (.bool true), SPred.val (.bool true), SPred.val (.bool true), SPred.val (.slice Aa a.length cA), SPred.val (.slice Ab a.length cB), SPred.val (.bool true), SPred.val (.bool true), SPred.val (.bool true), SPred.val (.int .i64 ec), SPred.val (.int .i64 ec), SPred.val (.bool true), SPred.val (.bool true), SPred.val (.bool true), SPred.val (.pointer (some ⟨g, 0, none⟩)), SPred.val (.int .i64 s1), SPred.val (.pointer (some ⟨g2, 0, none⟩)), SPred.val (.pointer (some ⟨g2, 0, none⟩)), SPred.val (.pointer (some ⟨g2, 1, none⟩)), SPred.val (.int .i64 s1), SPred.val (.bool true), SPred.val (.bool true), SPred.val (.bool true), SPred.val (.bool true), SPred.val (.bool true)] ?_ ?_
    · refine ⟨fun u ρ w2 hb2 hd => ?_, fun u ρ w2 hb2 hd => ?_, fun u ρ w2 hb2 hd => ?_, fun u ρ w2 hb2 hd => ?_, fun u ρ w2 hb2 hd => ?_, fun u ρ w2 hb2 hd => ?_, fun u ρ w2 hb2 hd => ?_, fun u ρ w2 hb2 hd => ?_, fun u ρ w2 hb2 hd => ?_, fun u ρ w2 hb2 hd => ?_, fun u ρ w2 hb2 hd => ?_, fun u ρ w2 hb2 hd => ?_, fun u ρ w2 hb2 hd => ?_, fun u ρ w2 hb2 hd => ?_, fun u ρ w2 hb2 hd => ?_, fun u ρ w2 hb2 hd => ?_, fun u ρ w2 hb2 hd => ?_, fun u ρ w2 hb2 hd => ?_, fun u ρ w2 hb2 hd => ?_, fun u ρ w2 hb2 hd => ?_, fun u ρ w2 hb2 hd => ?_, fun u ρ w2 hb2 hd => ?_, fun u ρ w2 hb2 hd => ?_, fun u ρ w2 hb2 hd => ?_, fun u ρ w2 hb2 hd => ?_, fun u ρ w2 hb2 hd => ?_, fun u ρ w2 hb2 hd => ?_, fun u ρ w2 hb2 hd => ?_, fun u ρ w2 hb2 hd => ?_, fun u ρ w2 hb2 hd => ?_, fun u ρ w2 hb2 hd => ?_, fun u ρ w2 hb2 hd => ?_, fun u ρ w2 hb2 hd => ?_, fun u ρ w2 hb2 hd => ?_, fun u ρ w2 hb2 hd => ?_, fun u ρ w2 hb2 hd => ?_, fun u ρ w2 hb2 hd => ?_, fun u ρ w2 hb2 hd => ?_, fun u ρ w2 hb2 hd => ?_, fun u ρ w2 hb2 hd => ?_, fun u ρ w2 hb2 hd => ?_, fun u ρ w2 hb2 hd => ?_, fun u ρ w2 hb2 hd => ?_, trivial⟩
      · simp only [growFr, List.getElem?_cons_succ, List.getElem?_cons_zero, Option.bind_some, Act.put, List.setIfInBounds_toArray, List.set_cons_succ, List.set_cons_zero]
        go_wp2_with fail
        exact ⟨rfl, _, rfl, Bel.refl _, rfl⟩
      · have h0 : u 0 = _ := hd 0 (by kernel_rfl)
        simp only [growFr, List.getElem?_cons_succ, List.getElem?_cons_zero, Option.bind_some, Act.put, List.setIfInBounds_toArray, List.set_cons_succ, List.set_cons_zero, h0]
        go_wp2_with fail
        refine (autoStart_c _ As cs s _ (HSR.out _ hb2) _ rfl (by omega)).mono ?_
        rintro e w3 ⟨v3, rfl, ⟨A3, c3, rfl, r3⟩, hb3⟩
        go_wp2_with fail
        exact ⟨rfl, _, rfl, hb3, A3, c3, rfl, r3.all⟩
      · simp only [growFr, List.getElem?_cons_succ, List.getElem?_cons_zero, Option.bind_some, Act.put, List.setIfInBounds_toArray, List.set_cons_succ, List.set_cons_zero]
        go_wp2_with fail
        exact ⟨rfl, _, rfl, Bel.refl _, rfl⟩
      · have h2 : u 2 = _ := hd 2 (by kernel_rfl)
        simp only [growFr, List.getElem?_cons_succ, List.getElem?_cons_zero, Option.bind_some, Act.put, List.setIfInBounds_toArray, List.set_cons_succ, List.set_cons_zero, h2]
        go_wp2_with fail
        refine (refStartI_c _ As cs s _ (HSR.out _ hb2) _ rfl (by omega)).mono ?_
        rintro e w3 ⟨v3, rfl, ⟨A3, c3, rfl, r3⟩, hb3⟩
        go_wp2_with fail
        exact ⟨rfl, _, rfl, hb3, A3, c3, rfl, r3.all⟩
      · obtain ⟨A1, c1, h1, r1⟩ : (itmsP (startS s)).φ (u 1) (ρ 1).1 (ρ 1).2 w2 := hd 1 (by kernel_rfl)
        obtain ⟨A3, c3, h3, r3⟩ : (itmsP (startS s)).φ (u 3) (ρ 3).1 (ρ 3).2 w2 := hd 3 (by kernel_rfl)
        simp only [growFr, List.getElem?_cons_succ, List.getElem?_cons_zero, Option.bind_some, Act.put, List.setIfInBounds_toArray, List.set_cons_succ, List.set_cons_zero, h1, h3]
        go_wp2_with fail
        have Q := refSameItems_c _ _ A1 A3 c1 c3 (startS s) (startS s) w2 r1 r3 _ _ rfl rfl
        rw [decide_eq_true (show startS s = startS s from rfl)] at Q
        refine Q.mono ?_
        rintro e w3 ⟨rfl, hb3⟩
        go_wp2_with fail
        exact ⟨rfl, _, rfl, hb3, rfl⟩
      · have h4 : u 4 = _ := hd 4 (by kernel_rfl)
        simp only [growFr, List.getElem?_cons_succ, List.getElem?_cons_zero, Option.bind_some, Act.put, List.setIfInBounds_toArray, List.set_cons_succ, List.set_cons_zero, h4]
        go_wp2_with fail
        exact ⟨rfl, _, rfl, Bel.refl _, rfl⟩
      · have h5 : u 5 = _ := hd 5 (by kernel_rfl)
        simp only [growFr, List.getElem?_cons_succ, List.getElem?_cons_zero, Option.bind_some, Act.put, List.setIfInBounds_toArray, List.set_cons_succ, List.set_cons_zero, h5]
        go_wp2_with fail
        exact ⟨rfl, _, rfl, Bel.refl _, rfl⟩
      · have h5 : u 5 = _ := hd 5 (by kernel_rfl)
        simp only [growFr, List.getElem?_cons_succ, List.getElem?_cons_zero, Option.bind_some, Act.put, List.setIfInBounds_toArray, List.set_cons_succ, List.set_cons_zero, h5]
        go_wp2_with fail
        exact ⟨rfl, _, rfl, Bel.refl _, rfl⟩
      · have h5 : u 5 = _ := hd 5 (by kernel_rfl)
        have h6 : u 6 = _ := hd 6 (by kernel_rfl)
        have h7 : u 7 = _ := hd 7 (by kernel_rfl)
        simp only [growFr, List.getElem?_cons_succ, List.getElem?_cons_zero, Option.bind_some, Act.put, List.setIfInBounds_toArray, List.set_cons_succ, List.set_cons_zero, h5, h6, h7]
        go_wp2_with fail
        refine (Kright1.out _ hb2).mono ?_
        rintro e w3 ⟨rfl, hb3⟩
        go_wp2_with fail
        exact ⟨rfl, _, rfl, hb3, rfl⟩
      · have h5 : u 5 = _ := hd 5 (by kernel_rfl)
        simp only [growFr, List.getElem?_cons_succ, List.getElem?_cons_zero, Option.bind_some, Act.put, List.setIfInBounds_toArray, List.set_cons_succ, List.set_cons_zero, h5]
        go_wp2_with fail
        exact ⟨rfl, _, rfl, Bel.refl _, rfl⟩
      · have h5 : u 5 = _ := hd 5 (by kernel_rfl)
        simp only [growFr, List.getElem?_cons_succ, List.getElem?_cons_zero, Option.bind_some, Act.put, List.setIfInBounds_toArray, List.set_cons_succ, List.set_cons_zero, h5]
        go_wp2_with fail
        exact ⟨rfl, _, rfl, Bel.refl _, rfl⟩
      · have h5 : u 5 = _ := hd 5 (by kernel_rfl)
        have h9 : u 9 = _ := hd 9 (by kernel_rfl)
        have h10 : u 10 = _ := hd 10 (by kernel_rfl)
        simp only [growFr, List.getElem?_cons_succ, List.getElem?_cons_zero, Option.bind_some, Act.put, List.setIfInBounds_toArray, List.set_cons_succ, List.set_cons_zero, h5, h9, h10]
        go_wp2_with fail
        refine (Kright2.out _ hb2).mono ?_
        rintro e w3 ⟨rfl, hb3⟩
        go_wp2_with fail
        exact ⟨rfl, _, rfl, hb3, rfl⟩
      · have h5 : u 5 = _ := hd 5 (by kernel_rfl)
        have h8 : u 8 = _ := hd 8 (by kernel_rfl)
        have h11 : u 11 = _ := hd 11 (by kernel_rfl)
        simp only [growFr, List.getElem?_cons_succ, List.getElem?_cons_zero, Option.bind_some, Act.put, List.setIfInBounds_toArray, List.set_cons_succ, List.set_cons_zero, h5, h8, h11]
        go_wp2_with fail
        exact ⟨rfl, _, rfl, Bel.refl _, rfl⟩
      · have h5 : u 5 = _ := hd 5 (by kernel_rfl)
        have h12 : u 12 = _ := hd 12 (by kernel_rfl)
        simp only [growFr, List.getElem?_cons_succ, List.getElem?_cons_zero, Option.bind_some, Act.put, List.setIfInBounds_toArray, List.set_cons_succ, List.set_cons_zero, h5, h12]
        go_wp2_with fail
        exact ⟨rfl, _, rfl, Bel.refl _, rfl⟩
      · have h13 : u 13 = _ := hd 13 (by kernel_rfl)
        simp only [growFr, List.getElem?_cons_succ, List.getElem?_cons_zero, Option.bind_some, Act.put, List.setIfInBounds_toArray, List.set_cons_succ, List.set_cons_zero, h13]
        go_wp2_with fail
        exact ⟨rfl, _, rfl, Bel.refl _, rfl⟩
      · have h14 : u 14 = _ := hd 14 (by kernel_rfl)
        simp only [growFr, List.getElem?_cons_succ, List.getElem?_cons_zero, Option.bind_some, Act.put, List.setIfInBounds_toArray, List.set_cons_succ, List.set_cons_zero, h14]
        go_wp2_with fail
        exact ⟨rfl, _, rfl, Bel.refl _, rfl⟩
      · have h14 : u 14 = _ := hd 14 (by kernel_rfl)
        have h15 : u 15 = _ := hd 15 (by kernel_rfl)
        simp only [growFr, List.getElem?_cons_succ, List.getElem?_cons_zero, Option.bind_some, Act.put, List.setIfInBounds_toArray, List.set_cons_succ, List.set_cons_zero, h14, h15]
        go_wp2_with fail
        refine (Kfin1.out _ hb2).mono ?_
        rintro e w3 ⟨rfl, hb3⟩
        go_wp2_with fail
        exact ⟨rfl, _, rfl, hb3, rfl⟩
      · have h14 : u 14 = _ := hd 14 (by kernel_rfl)
        simp only [growFr, List.getElem?_cons_succ, List.getElem?_cons_zero, Option.bind_some, Act.put, List.setIfInBounds_toArray, List.set_cons_succ, List.set_cons_zero, h14]
        go_wp2_with fail
        exact ⟨rfl, _, rfl, Bel.refl _, rfl⟩
      · have h14 : u 14 = _ := hd 14 (by kernel_rfl)
        have h17 : u 17 = _ := hd 17 (by kernel_rfl)
        simp only [growFr, List.getElem?_cons_succ, List.getElem?_cons_zero, Option.bind_some, Act.put, List.setIfInBounds_toArray, List.set_cons_succ, List.set_cons_zero, h14, h17]
        go_wp2_with fail
        refine (Kfin2.out _ hb2).mono ?_
        rintro e w3 ⟨rfl, hb3⟩
        go_wp2_with fail
        exact ⟨rfl, _, rfl, hb3, rfl⟩
      · have h14 : u 14 = _ := hd 14 (by kernel_rfl)
        have h16 : u 16 = _ := hd 16 (by kernel_rfl)
        have h18 : u 18 = _ := hd 18 (by kernel_rfl)
        simp only [growFr, List.getElem?_cons_succ, List.getElem?_cons_zero, Option.bind_some, Act.put, List.setIfInBounds_toArray, List.set_cons_succ, List.set_cons_zero, h14, h16, h18]
        go_wp2_with fail
        exact ⟨rfl, _, rfl, Bel.refl _, rfl⟩
      · have h14 : u 14 = _ := hd 14 (by kernel_rfl)
        have h19 : u 19 = _ := hd 19 (by kernel_rfl)
        simp only [growFr, List.getElem?_cons_succ, List.getElem?_cons_zero, Option.bind_some, Act.put, List.setIfInBounds_toArray, List.set_cons_succ, List.set_cons_zero, h14, h19]
        go_wp2_with fail
        exact ⟨rfl, _, rfl, Bel.refl _, rfl⟩
      · have h20 : u 20 = _ := hd 20 (by kernel_rfl)
        simp only [growFr, List.getElem?_cons_succ, List.getElem?_cons_zero, Option.bind_some, Act.put, List.setIfInBounds_toArray, List.set_cons_succ, List.set_cons_zero, h20]
        go_wp2_with fail
        exact ⟨rfl, _, rfl, Bel.refl _, rfl⟩
      · have h21 : u 21 = _ := hd 21 (by kernel_rfl)
        simp only [growFr, List.getElem?_cons_succ, List.getElem?_cons_zero, Option.bind_some, Act.put, List.setIfInBounds_toArray, List.set_cons_succ, List.set_cons_zero, h21]
        go_wp2_with fail
        exact ⟨rfl, _, rfl, Bel.refl _, rfl⟩
      · have h21 : u 21 = _ := hd 21 (by kernel_rfl)
        simp only [growFr, List.getElem?_cons_succ, List.getElem?_cons_zero, Option.bind_some, Act.put, List.setIfInBounds_toArray, List.set_cons_succ, List.set_cons_zero, h21]
        go_wp2_with fail
        exact ⟨rfl, _, rfl, Bel.refl _, rfl⟩
      · have h21 : u 21 = _ := hd 21 (by kernel_rfl)
        have h22 : u 22 = _ := hd 22 (by kernel_rfl)
        have h23 : u 23 = _ := hd 23 (by kernel_rfl)
        simp only [growFr, List.getElem?_cons_succ, List.getElem?_cons_zero, Option.bind_some, Act.put, List.setIfInBounds_toArray, List.set_cons_succ, List.set_cons_zero, h21, h22, h23]
        go_wp2_with fail
        refine (Ksame2.out _ hb2).mono ?_
        rintro e w3 ⟨rfl, hb3⟩
        go_wp2_with fail
        exact ⟨rfl, _, rfl, hb3, rfl⟩
      · have h21 : u 21 = _ := hd 21 (by kernel_rfl)
        have h24 : u 24 = _ := hd 24 (by kernel_rfl)
        simp only [growFr, List.getElem?_cons_succ, List.getElem?_cons_zero, Option.bind_some, Act.put, List.setIfInBounds_toArray, List.set_cons_succ, List.set_cons_zero, h21, h24]
        go_wp2_with fail
        exact ⟨rfl, _, rfl, Bel.refl _, rfl⟩
      · have h25 : u 25 = _ := hd 25 (by kernel_rfl)
        simp only [growFr, List.getElem?_cons_succ, List.getElem?_cons_zero, Option.bind_some, Act.put, List.setIfInBounds_toArray, List.set_cons_succ, List.set_cons_zero, h25]
        go_wp2_with fail
        exact ⟨rfl, _, rfl, Bel.refl _, rfl⟩
      · have h26 : u 26 = _ := hd 26 (by kernel_rfl)
        simp only [growFr, List.getElem?_cons_succ, List.getElem?_cons_zero, Option.bind_some, Act.put, List.setIfInBounds_toArray, List.set_cons_succ, List.set_cons_zero, h26]
        go_wp2_with fail
        exact ⟨rfl, _, rfl, Bel.refl _, rfl⟩
      · have h26 : u 26 = _ := hd 26 (by kernel_rfl)
        simp only [growFr, List.getElem?_cons_succ, List.getElem?_cons_zero, Option.bind_some, Act.put, List.setIfInBounds_toArray, List.set_cons_succ, List.set_cons_zero, h26]
        go_wp2_with fail
        exact ⟨rfl, _, rfl, Bel.refl _, rfl⟩
      · have h26 : u 26 = _ := hd 26 (by kernel_rfl)
        have h27 : u 27 = _ := hd 27 (by kernel_rfl)
        have h28 : u 28 = _ := hd 28 (by kernel_rfl)
        simp only [growFr, List.getElem?_cons_succ, List.getElem?_cons_zero, Option.bind_some, Act.put, List.setIfInBounds_toArray, List.set_cons_succ, List.set_cons_zero, h26, h27, h28]
        go_wp2_with fail
        exact ⟨rfl, _, rfl, Bel.refl _, rfl⟩
      · have h26 : u 26 = _ := hd 26 (by kernel_rfl)
        have h29 : u 29 = _ := hd 29 (by kernel_rfl)
        simp only [growFr, List.getElem?_cons_succ, List.getElem?_cons_zero, Option.bind_some, Act.put, List.setIfInBounds_toArray, List.set_cons_succ, List.set_cons_zero, h26, h29]
        go_wp2_with fail
        exact ⟨rfl, _, rfl, Bel.refl _, rfl⟩
      · have h30 : u 30 = _ := hd 30 (by kernel_rfl)
        simp only [growFr, List.getElem?_cons_succ, List.getElem?_cons_zero, Option.bind_some, Act.put, List.setIfInBounds_toArray, List.set_cons_succ, List.set_cons_zero, h30]
        go_wp2_with fail
        exact ⟨rfl, _, rfl, Bel.refl _, rfl⟩
      · have h31 : u 31 = _ := hd 31 (by kernel_rfl)
        simp only [growFr, List.getElem?_cons_succ, List.getElem?_cons_zero, Option.bind_some, Act.put, List.setIfInBounds_toArray, List.set_cons_succ, List.set_cons_zero, h31]
        go_wp2_with fail
        exact ⟨rfl, _, rfl, Bel.refl _, rfl⟩
      · have h31 : u 31 = _ := hd 31 (by kernel_rfl)
        have h32 : u 32 = _ := hd 32 (by kernel_rfl)
        simp only [growFr, List.getElem?_cons_succ, List.getElem?_cons_zero, Option.bind_some, Act.put, List.setIfInBounds_toArray, List.set_cons_succ, List.set_cons_zero, h31, h32]
        go_wp2_with fail
        refine (Kspent.out _ hb2).mono ?_
        rintro e w3 ⟨rfl, hb3⟩
        go_wp2_with fail
        exact ⟨rfl, _, rfl, hb3, rfl⟩
      · have h31 : u 31 = _ := hd 31 (by kernel_rfl)
        simp only [growFr, List.getElem?_cons_succ, List.getElem?_cons_zero, Option.bind_some, Act.put, List.setIfInBounds_toArray, List.set_cons_succ, List.set_cons_zero, h31]
        go_wp2_with fail
        exact ⟨rfl, _, rfl, Bel.refl _, rfl⟩
      · have h31 : u 31 = _ := hd 31 (by kernel_rfl)
        have h34 : u 34 = _ := hd 34 (by kernel_rfl)
        simp only [growFr, List.getElem?_cons_succ, List.getElem?_cons_zero, Option.bind_some, Act.put, List.setIfInBounds_toArray, List.set_cons_succ, List.set_cons_zero, h31, h34]
        go_wp2_with fail
        exact ⟨rfl, _, rfl, Bel.refl _, rfl⟩
      · have h31 : u 31 = _ := hd 31 (by kernel_rfl)
        have h35 : u 35 = _ := hd 35 (by kernel_rfl)
        simp only [growFr, List.getElem?_cons_succ, List.getElem?_cons_zero, Option.bind_some, Act.put, List.setIfInBounds_toArray, List.set_cons_succ, List.set_cons_zero, h31, h35]
        go_wp2_with fail
        exact ⟨rfl, _, rfl, Bel.refl _, rfl⟩
      · have h31 : u 31 = _ := hd 31 (by kernel_rfl)
        have h36 : u 36 = _ := hd 36 (by kernel_rfl)
        have q1 := cell_keep HQ1.out (hb2.block (World.block_lt_of_cell? _ _ HQ1.out))
        simp only [growFr, List.getElem?_cons_succ, List.getElem?_cons_zero, Option.bind_some, Act.put, List.setIfInBounds_toArray, List.set_cons_succ, List.set_cons_zero, h31, h36]
        go_wp2_with fail
        exact ⟨rfl, _, rfl, Bel.refl _, rfl⟩
      · have h31 : u 31 = _ := hd 31 (by kernel_rfl)
        have h33 : u 33 = _ := hd 33 (by kernel_rfl)
        have h37 : u 37 = _ := hd 37 (by kernel_rfl)
        simp only [growFr, List.getElem?_cons_succ, List.getElem?_cons_zero, Option.bind_some, Act.put, List.setIfInBounds_toArray, List.set_cons_succ, List.set_cons_zero, h31, h33, h37]
        go_wp2_with fail
        exact ⟨rfl, _, rfl, Bel.refl _, rfl⟩
      · have h31 : u 31 = _ := hd 31 (by kernel_rfl)
        have h38 : u 38 = _ := hd 38 (by kernel_rfl)
        simp only [growFr, List.getElem?_cons_succ, List.getElem?_cons_zero, Option.bind_some, Act.put, List.setIfInBounds_toArray, List.set_cons_succ, List.set_cons_zero, h31, h38]
        go_wp2_with fail
        exact ⟨rfl, _, rfl, Bel.refl _, rfl⟩
      · have h39 : u 39 = _ := hd 39 (by kernel_rfl)
        simp only [growFr, List.getElem?_cons_succ, List.getElem?_cons_zero, Option.bind_some, Act.put, List.setIfInBounds_toArray, List.set_cons_succ, List.set_cons_zero, h39]
        go_wp2_with fail
        exact ⟨rfl, _, rfl, Bel.refl _, rfl⟩
      · have h40 : u 40 = _ := hd 40 (by kernel_rfl)
        simp only [growFr, List.getElem?_cons_succ, List.getElem?_cons_zero, Option.bind_some, Act.put, List.setIfInBounds_toArray, List.set_cons_succ, List.set_cons_zero, h40]
        go_wp2_with fail
        refine (Kwakes.out _ hb2).mono ?_
        rintro e w3 ⟨rfl, hb3⟩
        go_wp2_with fail
        exact ⟨rfl, _, rfl, hb3, rfl⟩
      · have h40 : u 40 = _ := hd 40 (by kernel_rfl)
        have h41 : u 41 = _ := hd 41 (by kernel_rfl)
        simp only [growFr, List.getElem?_cons_succ, List.getElem?_cons_zero, Option.bind_some, Act.put, List.setIfInBounds_toArray, List.set_cons_succ, List.set_cons_zero, h40, h41]
        go_wp2_with fail
        exact ⟨rfl, _, rfl, Bel.refl _, rfl⟩
    · intro u ρ w2 hb2 hall hdj
      have h0 : u 0 = _ := (hall 0 (by omega)).1
      obtain ⟨A1, c1, h1, _⟩ : (itmsP (startS s)).φ (u 1) (ρ 1).1 (ρ 1).2 w2 := (hall 1 (by omega)).1
      have h2 : u 2 = _ := (hall 2 (by omega)).1
      obtain ⟨A3, c3, h3, _⟩ : (itmsP (startS s)).φ (u 3) (ρ 3).1 (ρ 3).2 w2 := (hall 3 (by omega)).1
      have h4 : u 4 = _ := (hall 4 (by omega)).1
      have h5 : u 5 = _ := (hall 5 (by omega)).1
      have h6 : u 6 = _ := (hall 6 (by omega)).1
      have h7 : u 7 = _ := (hall 7 (by omega)).1
      have h8 : u 8 = _ := (hall 8 (by omega)).1
      have h9 : u 9 = _ := (hall 9 (by omega)).1
      have h10 : u 10 = _ := (hall 10 (by omega)).1
      have h11 : u 11 = _ := (hall 11 (by omega)).1
      have h12 : u 12 = _ := (hall 12 (by omega)).1
      have h13 : u 13 = _ := (hall 13 (by omega)).1
      have h14 : u 14 = _ := (hall 14 (by omega)).1
      have h15 : u 15 = _ := (hall 15 (by omega)).1
      have h16 : u 16 = _ := (hall 16 (by omega)).1
      have h17 : u 17 = _ := (hall 17 (by omega)).1
      have h18 : u 18 = _ := (hall 18 (by omega)).1
      have h19 : u 19 = _ := (hall 19 (by omega)).1
      have h20 : u 20 = _ := (hall 20 (by omega)).1
      have h21 : u 21 = _ := (hall 21 (by omega)).1
      have h22 : u 22 = _ := (hall 22 (by omega)).1
      have h23 : u 23 = _ := (hall 23 (by omega)).1
      have h24 : u 24 = _ := (hall 24 (by omega)).1
      have h25 : u 25 = _ := (hall 25 (by omega)).1
      have h26 : u 26 = _ := (hall 26 (by omega)).1
      have h27 : u 27 = _ := (hall 27 (by omega)).1
      have h28 : u 28 = _ := (hall 28 (by omega)).1
      have h29 : u 29 = _ := (hall 29 (by omega)).1
      have h30 : u 30 = _ := (hall 30 (by omega)).1
      have h31 : u 31 = _ := (hall 31 (by omega)).1
      have h32 : u 32 = _ := (hall 32 (by omega)).1
      have h33 : u 33 = _ := (hall 33 (by omega)).1
      have h34 : u 34 = _ := (hall 34 (by omega)).1
      have h35 : u 35 = _ := (hall 35 (by omega)).1
      have h36 : u 36 = _ := (hall 36 (by omega)).1
      have h37 : u 37 = _ := (hall 37 (by omega)).1
      have h38 : u 38 = _ := (hall 38 (by omega)).1
      have h39 : u 39 = _ := (hall 39 (by omega)).1
      have h40 : u 40 = _ := (hall 40 (by omega)).1
      have h41 : u 41 = _ := (hall 41 (by omega)).1
      have h42 : u 42 = _ := (hall 42 (by omega)).1
      clear hall hdj
      simp only [List.drop_succ_cons, List.drop_zero, growFr, List.getElem?_cons_succ, List.getElem?_cons_zero, Option.bind_some, Act.put, List.setIfInBounds_toArray, List.set_cons_succ, List.set_cons_zero, h0, h1, h2, h3, h4, h5, h6, h7, h8, h9, h10, h11, h12, h13, h14, h15, h16, h17, h18, h19, h20, h21, h22, h23, h24, h25, h26, h27, h28, h29, h30, h31, h32, h33, h34, h35, h36, h37, h38, h39, h40, h41, h42]
      clear h0 h1 h2 h3 h4 h5 h6 h7 h8 h9 h10 h11 h12 h13 h14 h15 h16 h17 h18 h19 h20 h21 h22 h23 h24 h25 h26 h27 h28 h29 h30 h31 h32 h33 h34 h35 h36 h37 h38 h39 h40 h41 h42
      go_wp2_with fail
      go_ret
      exact ⟨rfl, HBW.out.trans hb2⟩
  · have e0 : (how.tmod 3 != 0) = true := by simp [h0]
    clear h0
    go_enter Try.func5, Try.ntmps5
    go_wp2_with fail
    refine (playSemi_c _ L cl l w hl il _ rfl).mono ?_
    rw [Hs.out]
    rintro e w1 ⟨v, rfl, r, hb⟩
    obtain ⟨As, cs, rfl, hr⟩ := r.rd
    have HB := HB.trans hb
    have Q := oflaw09_c _ C cc raw w1 (hraw.to hb) _ rfl
    rw [HRW.out] at Q
    have HQ := Lib.hid Q
    clear Q
    go_wp2_with fail
    refine HQ.out.mono ?_
    rintro e w2 ⟨v, rfl, ⟨Ar, cr, rfl, hrr⟩, hb2⟩
    have HB := HB.trans hb2
    have hr := (hr.to hb2).all
    clear HQ hb hb2
    have Q := autoStart_c _ As cs s w2 hr _ rfl (by omega)
    have HQ := Lib.hid Q
    clear Q
    go_wp2_with fail
    refine HQ.out.mono ?_
    rintro e wx ⟨v, rfl, ⟨Ax, cx, rfl, hrx⟩, hb3⟩
    have HB := HB.trans hb3
    have hr := hr.to hb3
    have hxx := hrx.all
    have hlt := and15_range letter
    obtain ⟨xs, hxs⟩ : ∃ xs, xs = startS s := ⟨_, rfl⟩
    rw [← hxs] at hxx st6 ⊢
    have HXS := Lib.hid hxs
    clear hxs HQ hrx hb3 hrr
    go_wp2_with fail
    obtain ⟨lt, hlte⟩ : ∃ lt, bits .and .u64 letter 15 = lt := ⟨_, rfl⟩
    rw [hlte] at hlt ⊢
    clear hlte
    have hr0 := hr.bound
    have hx0 := hxx.bound
    have HS0 := Lib.hid (fun W (h : Bel wx W) => (hr0.to h))
    have HX0 := Lib.hid (fun W (h : Bel wx W) => (hx0.to h))
    have HW := Lib.hid HB
    clear hr hxx hr0 hx0 HB
    have hBr := HBr.out
    go_wp2_with fail
    refine (within_c budget 60 _ (by decide)).mono ?_
    rw [HBd.out]
    rintro e wB ⟨rfl, rfl⟩
    go_wp2_with fail
    refine (newMeter_s1 B _ (by omega)).mono ?_
    rintro e wm ⟨g, rfl, hg, HM, hb⟩
    have HBN := hb
    clear hb
    go_wp2_with fail
    refine (within_c budget 60 _ (by decide)).mono ?_
    rw [HBd.out]
    rintro e wB ⟨rfl, rfl⟩
    go_wp2_with fail
    refine (newMeter_s2 B _ (by omega)).mono ?_
    rintro e W0 ⟨g2, rfl, hg2, HR, hb⟩
    have hgl := HM.lt
    have hne : g ≠ g2 := by omega
    replace HM := HM.to hb
    replace HBN := HBN.trans hb
    have hNg : wx.heap.size ≤ g := by omega
    have hNg2 : wx.heap.size ≤ g2 := by omega
    rw [show max B 0 = B by omega] at HM HR
    clear hb hg hg2 hgl
    have hB9 : B ≤ 9223372036854775807 := by omega
    have hB0 : 0 ≤ B := by omega
    obtain ⟨s1, o1, f0, l0, l1⟩ := nextS_bud B 0 false hB0 s xs lt
    obtain ⟨a, ha⟩ : ∃ a, (nextS (some (B, 0, false)) s xs lt).2.1 = a := ⟨_, rfl⟩
    obtain ⟨ec, hec⟩ : ∃ e, (nextS (some (B, 0, false)) s xs lt).2.2 = e := ⟨_, rfl⟩
    have E0 := Lib.hid (show nextS (some (B, 0, false)) s xs lt = (some (B, s1, o1), a, ec) by rw [← f0, ← ha, ← hec])
    clear f0 ha hec
    obtain ⟨R, hR⟩ : ∃ R, rightI s xs = R := ⟨_, rfl⟩
    obtain ⟨F, hF⟩ : ∃ F, xs.any (fun x => x.2.length == 0) = F := ⟨_, rfl⟩
    have HR_ := Lib.hid hR
    have HF_ := Lib.hid hF
    clear hR hF
    have HMK := Lib.hid HM
    have HRK := Lib.hid HR
    have hgs1 := HM.lt
    have hrs1 := HR.lt
    have Q := autoNext_c (.pointer (some ⟨g, 0, none⟩)) (some g) (some (B, 0, false)) _ _ As Ax cs cx s xs lt W0 (MetO.of1 HM (Int.le_refl _) hB0 hB9) (HS0.out _ HBN) (HX0.out _ HBN) (fun j hj e => by injection e with e; have := hj.2; omega) (fun j hj e => by injection e with e; have := hj.2; omega) _ _ rfl rfl PER.out (by omega) hlt
    rw [E0.out] at Q
    dsimp only at Q
    have HQ := Lib.hid Q
    clear Q HM HR
    go_wp2_with fail
    refine HQ.out.mono ?_
    clear HQ
    rintro e wa ⟨v, rfl, r, hm, hg⟩
    obtain ⟨Aa, cA, rfl, hra⟩ := r
    have HM := (hm.at1 rfl).1
    have HR := HRK.out.by_ hg (Ne.symm hne)
    have HBN := HBN.grown hg (fun j e => by injection e with e; omega)
    clear hm hg HMK HRK
    have HMK := Lib.hid HM
    have HRK := Lib.hid HR
    have hgs2 := HM.lt
    have hrs2 := HR.lt
    have Q := refNext_c (.pointer (some ⟨g2, 0, none⟩)) (some g2) (some (B, 0, false)) _ _ As Ax cs cx s xs lt wa (MetO.of1 HR (Int.le_refl _) hB0 hB9) (HS0.out _ HBN) (HX0.out _ HBN) (fun j hj e => by injection e with e; have := hj.2; omega) (fun j hj e => by injection e with e; have := hj.2; omega) _ _ rfl rfl PER.out (by omega) hlt
    rw [E0.out] at Q
    dsimp only at Q
    have HQ := Lib.hid Q
    clear Q HM HR
    go_wp2_with fail
    refine HQ.out.mono ?_
    clear HQ
    rintro e W ⟨v, rfl, r, hm, hg⟩
    obtain ⟨Ab, cB, rfl, hrb⟩ := r
    have HR := (hm.at1 rfl).1
    have HM := HMK.out.by_ hg hne
    replace hra := (hra.bound.step' (fun j hj => hg.block j hj.2 (fun e => by injection e with e; have := hj.1; unfold Ge at this; omega))).all
    replace hrb := hrb.all
    have HBN := HBN.grown hg (fun j e => by injection e with e; omega)
    clear hm hg HMK HRK
    obtain ⟨q0, q1, q2, _⟩ := HR.cells
    have HQ1 := Lib.hid q1
    have HMW := Lib.hid HM
    have HSR := Lib.hid (fun W' (h : Bel W W') => (HS0.out _ (HBN.trans h)).all)
    have HXR := Lib.hid (fun W' (h : Bel W W') => (HX0.out _ (HBN.trans h)).all)
    have HBW := Lib.hid (HW.out.trans HBN)
    have Kright1 := Lib.hid (show ∀ W', Bel W W' → Calls Try.prog 15 #[.slice As s.length cs, .slice Ax xs.length cx] W' fun e w' => e = .returned (.bool R) ∧ Bel W' w' from fun W' h => by
      have := autoRight_c _ _ _ _ _ _ s xs W' (HSR.out _ h) (HXR.out _ h) _ _ rfl rfl
      rwa [HR_.out] at this)
    have Kright2 := Lib.hid (show ∀ W', Bel W W' → Calls Try.prog 24 #[.slice As s.length cs, .slice Ax xs.length cx] W' fun e w' => e = .returned (.bool R) ∧ Bel W' w' from fun W' h => by
      have := refRightItems_c _ _ _ _ _ _ s xs W' (HSR.out _ h) (HXR.out _ h) _ _ rfl rfl
      rwa [HR_.out] at this)
    have Kfin1 := Lib.hid (show ∀ W', Bel W W' → Calls Try.prog 20 #[.slice Ax xs.length cx] W' fun e w' => e = .returned (.bool F) ∧ Bel W' w' from fun W' h => by
      have := final_c _ _ _ xs W' (HXR.out _ h) _ rfl
      rwa [HF_.out] at this)
    have Kfin2 := Lib.hid (show ∀ W', Bel W W' → Calls Try.prog 25 #[.slice Ax xs.length cx] W' fun e w' => e = .returned (.bool F) ∧ Bel W' w' from fun W' h => by
      have := refFinal_c _ _ _ xs W' (HXR.out _ h) _ rfl
      rwa [HF_.out] at this)
    have Ksame2 := Lib.hid (show ∀ W', Bel W W' → Calls Try.prog 14 #[.slice Aa a.length cA, .slice Ab a.length cB] W' fun e w' => e = .returned (.bool true) ∧ Bel W' w' from fun W' h => by
      have := refSameItems_c _ _ Aa Ab cA cB a a W' (hra.to h) (hrb.to h) _ _ rfl rfl
      rwa [decide_eq_true (show a = a from rfl)] at this)
    have Kspent := Lib.hid (show ∀ W', Bel W W' → Calls Try.prog 26 #[.pointer (some ⟨g, 0, none⟩)] W' fun e w' => e = .returned (.int .i64 s1) ∧ Bel W' w' from fun W' h => (spent_s1 g B s1 o1 W' (HMW.out.to h)).mono fun e w' ⟨a, b⟩ => ⟨a, by subst b; exact Bel.refl _⟩)
    have Kwakes := Lib.hid (show ∀ W', Bel W W' → Calls Try.prog 16 #[] W' fun e w' => e = .returned (.bool true) ∧ Bel W' w' from fun W' _ => wakes09 W')
    have hbb : ∀ b : Bool, (b == b) = true := fun b => by cases b <;> rfl
    have hRR := hbb R
    have hFF := hbb F
    have hee : (ec == ec) = true := by simp
    have hss : (s1 == s1) = true := by simp
    clear hbb q0 q1 q2 HM HR HBN hra hrb
    go_wp2_with fail
    refine wp_region_grow2 43 (by kernel_rfl) (by kernel_rfl) (by kernel_rfl) [SPred.val (.slice As s.length cs), itmsP (startS s), SPred.val (.slice As s.length cs), itmsP (startS s), SPred.val (.bool true), SPred.val (.bool true), SPred.val (.slice As s.length cs), SPred.val (.slice Ax xs.length cx), SPred.val (.bool R), SPred.val (.slice As s.length cs), SPred.val (.slice Ax xs.length cx), SPred.val (.bool R), SPred.val (.bool true), SPred.val (.bool true), SPred.val (.bool true), SPred.val (.slice Ax xs.length cx), SPred.val (.bool F), SPred.val (.slice Ax xs.length cx), SPred.val (.bool F), SPred.val (.bool true), SPred.val (.bool true), SPred.val (.bool true), SPred.val (.slice Aa a.length cA), SPred.val (.slice Ab a.length cB), SPred.val (.bool true), SPred.val (.bool true), SPred.val (.bool true), SPred.val (.int .i64 ec), SPred.val (.int .i64 ec), SPred.val (.bool true), SPred.val (.bool true), SPred.val (.bool true), SPred.val (.pointer (some ⟨g, 0, none⟩)), SPred.val (.int .i64 s1), SPred.val (.pointer (some ⟨g2, 0, none⟩)), SPred.val (.pointer (some ⟨g2, 0, none⟩)), SPred.val (.pointer (some ⟨g2, 1, none⟩)), SPred.val (.int .i64 s1), SPred.val (.bool true), SPred.val (.bool true), SPred.val (.bool true), SPred.val (.bool true), SPred.val (.bool true)] ?_ ?_
    · refine ⟨fun u ρ w2 hb2 hd => ?_, fun u ρ w2 hb2 hd => ?_, fun u ρ w2 hb2 hd => ?_, fun u ρ w2 hb2 hd => ?_, fun u ρ w2 hb2 hd => ?_, fun u ρ w2 hb2 hd => ?_, fun u ρ w2 hb2 hd => ?_, fun u ρ w2 hb2 hd => ?_, fun u ρ w2 hb2 hd => ?_, fun u ρ w2 hb2 hd => ?_, fun u ρ w2 hb2 hd => ?_, fun u ρ w2 hb2 hd => ?_, fun u ρ w2 hb2 hd => ?_, fun u ρ w2 hb2 hd => ?_, fun u ρ w2 hb2 hd => ?_, fun u ρ w2 hb2 hd => ?_, fun u ρ w2 hb2 hd => ?_, fun u ρ w2 hb2 hd => ?_, fun u ρ w2 hb2 hd => ?_, fun u ρ w2 hb2 hd => ?_, fun u ρ w2 hb2 hd => ?_, fun u ρ w2 hb2 hd => ?_, fun u ρ w2 hb2 hd => ?_, fun u ρ w2 hb2 hd => ?_, fun u ρ w2 hb2 hd => ?_, fun u ρ w2 hb2 hd => ?_, fun u ρ w2 hb2 hd => ?_, fun u ρ w2 hb2 hd => ?_, fun u ρ w2 hb2 hd => ?_, fun u ρ w2 hb2 hd => ?_, fun u ρ w2 hb2 hd => ?_, fun u ρ w2 hb2 hd => ?_, fun u ρ w2 hb2 hd => ?_, fun u ρ w2 hb2 hd => ?_, fun u ρ w2 hb2 hd => ?_, fun u ρ w2 hb2 hd => ?_, fun u ρ w2 hb2 hd => ?_, fun u ρ w2 hb2 hd => ?_, fun u ρ w2 hb2 hd => ?_, fun u ρ w2 hb2 hd => ?_, fun u ρ w2 hb2 hd => ?_, fun u ρ w2 hb2 hd => ?_, fun u ρ w2 hb2 hd => ?_, trivial⟩
      · simp only [growFr, List.getElem?_cons_succ, List.getElem?_cons_zero, Option.bind_some, Act.put, List.setIfInBounds_toArray, List.set_cons_succ, List.set_cons_zero]
        go_wp2_with fail
        exact ⟨rfl, _, rfl, Bel.refl _, rfl⟩
      · have h0 : u 0 = _ := hd 0 (by kernel_rfl)
        simp only [growFr, List.getElem?_cons_succ, List.getElem?_cons_zero, Option.bind_some, Act.put, List.setIfInBounds_toArray, List.set_cons_succ, List.set_cons_zero, h0]
        go_wp2_with fail
        refine (autoStart_c _ As cs s _ (HSR.out _ hb2) _ rfl (by omega)).mono ?_
        rintro e w3 ⟨v3, rfl, ⟨A3, c3, rfl, r3⟩, hb3⟩
        go_wp2_with fail
        exact ⟨rfl, _, rfl, hb3, A3, c3, rfl, r3.all⟩
      · simp only [growFr, List.getElem?_cons_succ, List.getElem?_cons_zero, Option.bind_some, Act.put, List.setIfInBounds_toArray, List.set_cons_succ, List.set_cons_zero]
        go_wp2_with fail
        exact ⟨rfl, _, rfl, Bel.refl _, rfl⟩
      · have h2 : u 2 = _ := hd 2 (by kernel_rfl)
        simp only [growFr, List.getElem?_cons_succ, List.getElem?_cons_zero, Option.bind_some, Act.put, List.setIfInBounds_toArray, List.set_cons_succ, List.set_cons_zero, h2]
        go_wp2_with fail
        refine (refStartI_c _ As cs s _ (HSR.out _ hb2) _ rfl (by omega)).mono ?_
        rintro e w3 ⟨v3, rfl, ⟨A3, c3, rfl, r3⟩, hb3⟩
        go_wp2_with fail
        exact ⟨rfl, _, rfl, hb3, A3, c3, rfl, r3.all⟩
      · obtain ⟨A1, c1, h1, r1⟩ : (itmsP (startS s)).φ (u 1) (ρ 1).1 (ρ 1).2 w2 := hd 1 (by kernel_rfl)
        obtain ⟨A3, c3, h3, r3⟩ : (itmsP (startS s)).φ (u 3) (ρ 3).1 (ρ 3).2 w2 := hd 3 (by kernel_rfl)
        simp only [growFr, List.getElem?_cons_succ, List.getElem?_cons_zero, Option.bind_some, Act.put, List.setIfInBounds_toArray, List.set_cons_succ, List.set_cons_zero, h1, h3]
        go_wp2_with fail
        have Q := refSameItems_c _ _ A1 A3 c1 c3 (startS s) (startS s) w2 r1 r3 _ _ rfl rfl
        rw [decide_eq_true (show startS s = startS s from rfl)] at Q
        refine Q.mono ?_
        rintro e w3 ⟨rfl, hb3⟩
        go_wp2_with fail
        exact ⟨rfl, _, rfl, hb3, rfl⟩
      · have h4 : u 4 = _ := hd 4 (by kernel_rfl)
        simp only [growFr, List.getElem?_cons_succ, List.getElem?_cons_zero, Option.bind_some, Act.put, List.setIfInBounds_toArray, List.set_cons_succ, List.set_cons_zero, h4]
        go_wp2_with fail
        exact ⟨rfl, _, rfl, Bel.refl _, rfl⟩
      · have h5 : u 5 = _ := hd 5 (by kernel_rfl)
        simp only [growFr, List.getElem?_cons_succ, List.getElem?_cons_zero, Option.bind_some, Act.put, List.setIfInBounds_toArray, List.set_cons_succ, List.set_cons_zero, h5]
        go_wp2_with fail
        exact ⟨rfl, _, rfl, Bel.refl _, rfl⟩
      · have h5 : u 5 = _ := hd 5 (by kernel_rfl)
        simp only [growFr, List.getElem?_cons_succ, List.getElem?_cons_zero, Option.bind_some, Act.put, List.setIfInBounds_toArray, List.set_cons_succ, List.set_cons_zero, h5]
        go_wp2_with fail
        exact ⟨rfl, _, rfl, Bel.refl _, rfl⟩
      · have h5 : u 5 = _ := hd 5 (by kernel_rfl)
        have h6 : u 6 = _ := hd 6 (by kernel_rfl)
        have h7 : u 7 = _ := hd 7 (by kernel_rfl)
        simp only [growFr, List.getElem?_cons_succ, List.getElem?_cons_zero, Option.bind_some, Act.put, List.setIfInBounds_toArray, List.set_cons_succ, List.set_cons_zero, h5, h6, h7]
        go_wp2_with fail
        refine (Kright1.out _ hb2).mono ?_
        rintro e w3 ⟨rfl, hb3⟩
        go_wp2_with fail
        exact ⟨rfl, _, rfl, hb3, rfl⟩
      · have h5 : u 5 = _ := hd 5 (by kernel_rfl)
        simp only [growFr, List.getElem?_cons_succ, List.getElem?_cons_zero, Option.bind_some, Act.put, List.setIfInBounds_toArray, List.set_cons_succ, List.set_cons_zero, h5]
        go_wp2_with fail
        exact ⟨rfl, _, rfl, Bel.refl _, rfl⟩
      · have h5 : u 5 = _ := hd 5 (by kernel_rfl)
        simp only [growFr, List.getElem?_cons_succ, List.getElem?_cons_zero, Option.bind_some, Act.put, List.setIfInBounds_toArray, List.set_cons_succ, List.set_cons_zero, h5]
        go_wp2_with fail
        exact ⟨rfl, _, rfl, Bel.refl _, rfl⟩
      · have h5 : u 5 = _ := hd 5 (by kernel_rfl)
        have h9 : u 9 = _ := hd 9 (by kernel_rfl)
        have h10 : u 10 = _ := hd 10 (by kernel_rfl)
        simp only [growFr, List.getElem?_cons_succ, List.getElem?_cons_zero, Option.bind_some, Act.put, List.setIfInBounds_toArray, List.set_cons_succ, List.set_cons_zero, h5, h9, h10]
        go_wp2_with fail
        refine (Kright2.out _ hb2).mono ?_
        rintro e w3 ⟨rfl, hb3⟩
        go_wp2_with fail
        exact ⟨rfl, _, rfl, hb3, rfl⟩
      · have h5 : u 5 = _ := hd 5 (by kernel_rfl)
        have h8 : u 8 = _ := hd 8 (by kernel_rfl)
        have h11 : u 11 = _ := hd 11 (by kernel_rfl)
        simp only [growFr, List.getElem?_cons_succ, List.getElem?_cons_zero, Option.bind_some, Act.put, List.setIfInBounds_toArray, List.set_cons_succ, List.set_cons_zero, h5, h8, h11]
        go_wp2_with fail
        exact ⟨rfl, _, rfl, Bel.refl _, rfl⟩
      · have h5 : u 5 = _ := hd 5 (by kernel_rfl)
        have h12 : u 12 = _ := hd 12 (by kernel_rfl)
        simp only [growFr, List.getElem?_cons_succ, List.getElem?_cons_zero, Option.bind_some, Act.put, List.setIfInBounds_toArray, List.set_cons_succ, List.set_cons_zero, h5, h12]
        go_wp2_with fail
        exact ⟨rfl, _, rfl, Bel.refl _, rfl⟩
      · have h13 : u 13 = _ := hd 13 (by kernel_rfl)
        simp only [growFr, List.getElem?_cons_succ, List.getElem?_cons_zero, Option.bind_some, Act.put, List.setIfInBounds_toArray, List.set_cons_succ, List.set_cons_zero, h13]
        go_wp2_with fail
        exact ⟨rfl, _, rfl, Bel.refl _, rfl⟩
      · have h14 : u 14 = _ := hd 14 (by kernel_rfl)
        simp only [growFr, List.getElem?_cons_succ, List.getElem?_cons_zero, Option.bind_some, Act.put, List.setIfInBounds_toArray, List.set_cons_succ, List.set_cons_zero, h14]
        go_wp2_with fail
        exact ⟨rfl, _, rfl, Bel.refl _, rfl⟩
      · have h14 : u 14 = _ := hd 14 (by kernel_rfl)
        have h15 : u 15 = _ := hd 15 (by kernel_rfl)
        simp only [growFr, List.getElem?_cons_succ, List.getElem?_cons_zero, Option.bind_some, Act.put, List.setIfInBounds_toArray, List.set_cons_succ, List.set_cons_zero, h14, h15]
        go_wp2_with fail
        refine (Kfin1.out _ hb2).mono ?_
        rintro e w3 ⟨rfl, hb3⟩
        go_wp2_with fail
        exact ⟨rfl, _, rfl, hb3, rfl⟩
      · have h14 : u 14 = _ := hd 14 (by kernel_rfl)
        simp only [growFr, List.getElem?_cons_succ, List.getElem?_cons_zero, Option.bind_some, Act.put, List.setIfInBounds_toArray, List.set_cons_succ, List.set_cons_zero, h14]
        go_wp2_with fail
        exact ⟨rfl, _, rfl, Bel.refl _, rfl⟩
      · have h14 : u 14 = _ := hd 14 (by kernel_rfl)
        have h17 : u 17 = _ := hd 17 (by kernel_rfl)
        simp only [growFr, List.getElem?_cons_succ, List.getElem?_cons_zero, Option.bind_some, Act.put, List.setIfInBounds_toArray, List.set_cons_succ, List.set_cons_zero, h14, h17]
        go_wp2_with fail
        refine (Kfin2.out _ hb2).mono ?_
        rintro e w3 ⟨rfl, hb3⟩
        go_wp2_with fail
        exact ⟨rfl, _, rfl, hb3, rfl⟩
      · have h14 : u 14 = _ := hd 14 (by kernel_rfl)
        have h16 : u 16 = _ := hd 16 (by kernel_rfl)
        have h18 : u 18 = _ := hd 18 (by kernel_rfl)
        simp only [growFr, List.getElem?_cons_succ, List.getElem?_cons_zero, Option.bind_some, Act.put, List.setIfInBounds_toArray, List.set_cons_succ, List.set_cons_zero, h14, h16, h18]
        go_wp2_with fail
        exact ⟨rfl, _, rfl, Bel.refl _, rfl⟩
      · have h14 : u 14 = _ := hd 14 (by kernel_rfl)
        have h19 : u 19 = _ := hd 19 (by kernel_rfl)
        simp only [growFr, List.getElem?_cons_succ, List.getElem?_cons_zero, Option.bind_some, Act.put, List.setIfInBounds_toArray, List.set_cons_succ, List.set_cons_zero, h14, h19]
        go_wp2_with fail
        exact ⟨rfl, _, rfl, Bel.refl _, rfl⟩
      · have h20 : u 20 = _ := hd 20 (by kernel_rfl)
        simp only [growFr, List.getElem?_cons_succ, List.getElem?_cons_zero, Option.bind_some, Act.put, List.setIfInBounds_toArray, List.set_cons_succ, List.set_cons_zero, h20]
        go_wp2_with fail
        exact ⟨rfl, _, rfl, Bel.refl _, rfl⟩
      · have h21 : u 21 = _ := hd 21 (by kernel_rfl)
        simp only [growFr, List.getElem?_cons_succ, List.getElem?_cons_zero, Option.bind_some, Act.put, List.setIfInBounds_toArray, List.set_cons_succ, List.set_cons_zero, h21]
        go_wp2_with fail
        exact ⟨rfl, _, rfl, Bel.refl _, rfl⟩
      · have h21 : u 21 = _ := hd 21 (by kernel_rfl)
        simp only [growFr, List.getElem?_cons_succ, List.getElem?_cons_zero, Option.bind_some, Act.put, List.setIfInBounds_toArray, List.set_cons_succ, List.set_cons_zero, h21]
        go_wp2_with fail
        exact ⟨rfl, _, rfl, Bel.refl _, rfl⟩
      · have h21 : u 21 = _ := hd 21 (by kernel_rfl)
        have h22 : u 22 = _ := hd 22 (by kernel_rfl)
        have h23 : u 23 = _ := hd 23 (by kernel_rfl)
        simp only [growFr, List.getElem?_cons_succ, List.getElem?_cons_zero, Option.bind_some, Act.put, List.setIfInBounds_toArray, List.set_cons_succ, List.set_cons_zero, h21, h22, h23]
        go_wp2_with fail
        refine (Ksame2.out _ hb2).mono ?_
        rintro e w3 ⟨rfl, hb3⟩
        go_wp2_with fail
        exact ⟨rfl, _, rfl, hb3, rfl⟩
      · have h21 : u 21 = _ := hd 21 (by kernel_rfl)
        have h24 : u 24 = _ := hd 24 (by kernel_rfl)
        simp only [growFr, List.getElem?_cons_succ, List.getElem?_cons_zero, Option.bind_some, Act.put, List.setIfInBounds_toArray, List.set_cons_succ, List.set_cons_zero, h21, h24]
        go_wp2_with fail
        exact ⟨rfl, _, rfl, Bel.refl _, rfl⟩
      · have h25 : u 25 = _ := hd 25 (by kernel_rfl)
        simp only [growFr, List.getElem?_cons_succ, List.getElem?_cons_zero, Option.bind_some, Act.put, List.setIfInBounds_toArray, List.set_cons_succ, List.set_cons_zero, h25]
        go_wp2_with fail
        exact ⟨rfl, _, rfl, Bel.refl _, rfl⟩
      · have h26 : u 26 = _ := hd 26 (by kernel_rfl)
        simp only [growFr, List.getElem?_cons_succ, List.getElem?_cons_zero, Option.bind_some, Act.put, List.setIfInBounds_toArray, List.set_cons_succ, List.set_cons_zero, h26]
        go_wp2_with fail
        exact ⟨rfl, _, rfl, Bel.refl _, rfl⟩
      · have h26 : u 26 = _ := hd 26 (by kernel_rfl)
        simp only [growFr, List.getElem?_cons_succ, List.getElem?_cons_zero, Option.bind_some, Act.put, List.setIfInBounds_toArray, List.set_cons_succ, List.set_cons_zero, h26]
        go_wp2_with fail
        exact ⟨rfl, _, rfl, Bel.refl _, rfl⟩
      · have h26 : u 26 = _ := hd 26 (by kernel_rfl)
        have h27 : u 27 = _ := hd 27 (by kernel_rfl)
        have h28 : u 28 = _ := hd 28 (by kernel_rfl)
        simp only [growFr, List.getElem?_cons_succ, List.getElem?_cons_zero, Option.bind_some, Act.put, List.setIfInBounds_toArray, List.set_cons_succ, List.set_cons_zero, h26, h27, h28]
        go_wp2_with fail
        exact ⟨rfl, _, rfl, Bel.refl _, rfl⟩
      · have h26 : u 26 = _ := hd 26 (by kernel_rfl)
        have h29 : u 29 = _ := hd 29 (by kernel_rfl)
        simp only [growFr, List.getElem?_cons_succ, List.getElem?_cons_zero, Option.bind_some, Act.put, List.setIfInBounds_toArray, List.set_cons_succ, List.set_cons_zero, h26, h29]
        go_wp2_with fail
        exact ⟨rfl, _, rfl, Bel.refl _, rfl⟩
      · have h30 : u 30 = _ := hd 30 (by kernel_rfl)
        simp only [growFr, List.getElem?_cons_succ, List.getElem?_cons_zero, Option.bind_some, Act.put, List.setIfInBounds_toArray, List.set_cons_succ, List.set_cons_zero, h30]
        go_wp2_with fail
        exact ⟨rfl, _, rfl, Bel.refl _, rfl⟩
      · have h31 : u 31 = _ := hd 31 (by kernel_rfl)
        simp only [growFr, List.getElem?_cons_succ, List.getElem?_cons_zero, Option.bind_some, Act.put, List.setIfInBounds_toArray, List.set_cons_succ, List.set_cons_zero, h31]
        go_wp2_with fail
        exact ⟨rfl, _, rfl, Bel.refl _, rfl⟩
      · have h31 : u 31 = _ := hd 31 (by kernel_rfl)
        have h32 : u 32 = _ := hd 32 (by kernel_rfl)
        simp only [growFr, List.getElem?_cons_succ, List.getElem?_cons_zero, Option.bind_some, Act.put, List.setIfInBounds_toArray, List.set_cons_succ, List.set_cons_zero, h31, h32]
        go_wp2_with fail
        refine (Kspent.out _ hb2).mono ?_
        rintro e w3 ⟨rfl, hb3⟩
        go_wp2_with fail
        exact ⟨rfl, _, rfl, hb3, rfl⟩
      · have h31 : u 31 = _ := hd 31 (by kernel_rfl)
        simp only [growFr, List.getElem?_cons_succ, List.getElem?_cons_zero, Option.bind_some, Act.put, List.setIfInBounds_toArray, List.set_cons_succ, List.set_cons_zero, h31]
        go_wp2_with fail
        exact ⟨rfl, _, rfl, Bel.refl _, rfl⟩
      · have h31 : u 31 = _ := hd 31 (by kernel_rfl)
        have h34 : u 34 = _ := hd 34 (by kernel_rfl)
        simp only [growFr, List.getElem?_cons_succ, List.getElem?_cons_zero, Option.bind_some, Act.put, List.setIfInBounds_toArray, List.set_cons_succ, List.set_cons_zero, h31, h34]
        go_wp2_with fail
        exact ⟨rfl, _, rfl, Bel.refl _, rfl⟩
      · have h31 : u 31 = _ := hd 31 (by kernel_rfl)
        have h35 : u 35 = _ := hd 35 (by kernel_rfl)
        simp only [growFr, List.getElem?_cons_succ, List.getElem?_cons_zero, Option.bind_some, Act.put, List.setIfInBounds_toArray, List.set_cons_succ, List.set_cons_zero, h31, h35]
        go_wp2_with fail
        exact ⟨rfl, _, rfl, Bel.refl _, rfl⟩
      · have h31 : u 31 = _ := hd 31 (by kernel_rfl)
        have h36 : u 36 = _ := hd 36 (by kernel_rfl)
        have q1 := cell_keep HQ1.out (hb2.block (World.block_lt_of_cell? _ _ HQ1.out))
        simp only [growFr, List.getElem?_cons_succ, List.getElem?_cons_zero, Option.bind_some, Act.put, List.setIfInBounds_toArray, List.set_cons_succ, List.set_cons_zero, h31, h36]
        go_wp2_with fail
        exact ⟨rfl, _, rfl, Bel.refl _, rfl⟩
      · have h31 : u 31 = _ := hd 31 (by kernel_rfl)
        have h33 : u 33 = _ := hd 33 (by kernel_rfl)
        have h37 : u 37 = _ := hd 37 (by kernel_rfl)
        simp only [growFr, List.getElem?_cons_succ, List.getElem?_cons_zero, Option.bind_some, Act.put, List.setIfInBounds_toArray, List.set_cons_succ, List.set_cons_zero, h31, h33, h37]
        go_wp2_with fail
        exact ⟨rfl, _, rfl, Bel.refl _, rfl⟩
      · have h31 : u 31 = _ := hd 31 (by kernel_rfl)
        have h38 : u 38 = _ := hd 38 (by kernel_rfl)
        simp only [growFr, List.getElem?_cons_succ, List.getElem?_cons_zero, Option.bind_some, Act.put, List.setIfInBounds_toArray, List.set_cons_succ, List.set_cons_zero, h31, h38]
        go_wp2_with fail
        exact ⟨rfl, _, rfl, Bel.refl _, rfl⟩
      · have h39 : u 39 = _ := hd 39 (by kernel_rfl)
        simp only [growFr, List.getElem?_cons_succ, List.getElem?_cons_zero, Option.bind_some, Act.put, List.setIfInBounds_toArray, List.set_cons_succ, List.set_cons_zero, h39]
        go_wp2_with fail
        exact ⟨rfl, _, rfl, Bel.refl _, rfl⟩
      · have h40 : u 40 = _ := hd 40 (by kernel_rfl)
        simp only [growFr, List.getElem?_cons_succ, List.getElem?_cons_zero, Option.bind_some, Act.put, List.setIfInBounds_toArray, List.set_cons_succ, List.set_cons_zero, h40]
        go_wp2_with fail
        refine (Kwakes.out _ hb2).mono ?_
        rintro e w3 ⟨rfl, hb3⟩
        go_wp2_with fail
        exact ⟨rfl, _, rfl, hb3, rfl⟩
      · have h40 : u 40 = _ := hd 40 (by kernel_rfl)
        have h41 : u 41 = _ := hd 41 (by kernel_rfl)
        simp only [growFr, List.getElem?_cons_succ, List.getElem?_cons_zero, Option.bind_some, Act.put, List.setIfInBounds_toArray, List.set_cons_succ, List.set_cons_zero, h40, h41]
        go_wp2_with fail
        exact ⟨rfl, _, rfl, Bel.refl _, rfl⟩
    · intro u ρ w2 hb2 hall hdj
      have h0 : u 0 = _ := (hall 0 (by omega)).1
      obtain ⟨A1, c1, h1, _⟩ : (itmsP (startS s)).φ (u 1) (ρ 1).1 (ρ 1).2 w2 := (hall 1 (by omega)).1
      have h2 : u 2 = _ := (hall 2 (by omega)).1
      obtain ⟨A3, c3, h3, _⟩ : (itmsP (startS s)).φ (u 3) (ρ 3).1 (ρ 3).2 w2 := (hall 3 (by omega)).1
      have h4 : u 4 = _ := (hall 4 (by omega)).1
      have h5 : u 5 = _ := (hall 5 (by omega)).1
      have h6 : u 6 = _ := (hall 6 (by omega)).1
      have h7 : u 7 = _ := (hall 7 (by omega)).1
      have h8 : u 8 = _ := (hall 8 (by omega)).1
      have h9 : u 9 = _ := (hall 9 (by omega)).1
      have h10 : u 10 = _ := (hall 10 (by omega)).1
      have h11 : u 11 = _ := (hall 11 (by omega)).1
      have h12 : u 12 = _ := (hall 12 (by omega)).1
      have h13 : u 13 = _ := (hall 13 (by omega)).1
      have h14 : u 14 = _ := (hall 14 (by omega)).1
      have h15 : u 15 = _ := (hall 15 (by omega)).1
      have h16 : u 16 = _ := (hall 16 (by omega)).1
      have h17 : u 17 = _ := (hall 17 (by omega)).1
      have h18 : u 18 = _ := (hall 18 (by omega)).1
      have h19 : u 19 = _ := (hall 19 (by omega)).1
      have h20 : u 20 = _ := (hall 20 (by omega)).1
      have h21 : u 21 = _ := (hall 21 (by omega)).1
      have h22 : u 22 = _ := (hall 22 (by omega)).1
      have h23 : u 23 = _ := (hall 23 (by omega)).1
      have h24 : u 24 = _ := (hall 24 (by omega)).1
      have h25 : u 25 = _ := (hall 25 (by omega)).1
      have h26 : u 26 = _ := (hall 26 (by omega)).1
      have h27 : u 27 = _ := (hall 27 (by omega)).1
      have h28 : u 28 = _ := (hall 28 (by omega)).1
      have h29 : u 29 = _ := (hall 29 (by omega)).1
      have h30 : u 30 = _ := (hall 30 (by omega)).1
      have h31 : u 31 = _ := (hall 31 (by omega)).1
      have h32 : u 32 = _ := (hall 32 (by omega)).1
      have h33 : u 33 = _ := (hall 33 (by omega)).1
      have h34 : u 34 = _ := (hall 34 (by omega)).1
      have h35 : u 35 = _ := (hall 35 (by omega)).1
      have h36 : u 36 = _ := (hall 36 (by omega)).1
      have h37 : u 37 = _ := (hall 37 (by omega)).1
      have h38 : u 38 = _ := (hall 38 (by omega)).1
      have h39 : u 39 = _ := (hall 39 (by omega)).1
      have h40 : u 40 = _ := (hall 40 (by omega)).1
      have h41 : u 41 = _ := (hall 41 (by omega)).1
      have h42 : u 42 = _ := (hall 42 (by omega)).1
      clear hall hdj
      simp only [List.drop_succ_cons, List.drop_zero, growFr, List.getElem?_cons_succ, List.getElem?_cons_zero, Option.bind_some, Act.put, List.setIfInBounds_toArray, List.set_cons_succ, List.set_cons_zero, h0, h1, h2, h3, h4, h5, h6, h7, h8, h9, h10, h11, h12, h13, h14, h15, h16, h17, h18, h19, h20, h21, h22, h23, h24, h25, h26, h27, h28, h29, h30, h31, h32, h33, h34, h35, h36, h37, h38, h39, h40, h41, h42]
      clear h0 h1 h2 h3 h4 h5 h6 h7 h8 h9 h10 h11 h12 h13 h14 h15 h16 h17 h18 h19 h20 h21 h22 h23 h24 h25 h26 h27 h28 h29 h30 h31 h32 h33 h34 h35 h36 h37 h38 h39 h40 h41 h42
      go_wp2_with fail
      go_ret
      exact ⟨rfl, HBW.out.trans hb2⟩
end Go.Proofs.Ytbfbhacdllhddaa
namespace Go.Proofs.Ytbfbhacdllhddaa.rowAutoTells
open Go.ChangeShapes Go.WideShapes Go.ChangeAt Go.RowKit Go.Cb
open Go.ChangeMaps (open_string shut_string)
theorem own : ownKnob Try.prog.godebug = none := by kernel_rfl
theorem laidOut : laidOutB Try.prog = true := by kernel_rfl
set_option maxRecDepth 100000 in
theorem lifted (os : Os) (started : os.Started) (H : Type) (enc : TypeId × Value → H) :
    ReturnsInHanded {} Try.checked os 5 .any (Rows.autoTellsSpec.pre6 enc Try.prog Try.f5 Rows.autoTellsRow.domain false) (Rows.autoTellsSpec.post enc Try.prog Try.f5 false true false false) := by
  refine returnsInHanded_of_change_sized (C := Try.checked) own started (by kernel_rfl) Try.func5
    (ChangeSpec.witness6 (enc := enc) (C := Try.checked) false ⟨#[], #[.slice none 0 0, .slice none 0 0, .int .u64 0, .int .i64 0, .int .i64 0], []⟩ 8 (by kernel_rfl) (by kernel_rfl) (by kernel_rfl) (by kernel_rfl)) ?_
  intro W base args ds gs before hval0 hW hcnd hsz0 _
  have hsz : (DataW.weightsEach Try.prog (Try.f5.params.toList ++ Rows.autoTellsSpec.plain.varTypes Try.prog) (ds ++ gs)).all (· ≤ reachBytes) = true := hsz0
  have hval : ∀ (j : Nat) t v, Try.f5.params[j]? = some t → args[j]? = some v → Value.okWide Try.prog W .any base t v := hval0
  have hW' := hW
  obtain ⟨p, q, hA0, hV, rfl, hfz, hnd⟩ := hW
  have hA : DataW.TrodAll enc Try.prog W 0 (fun _ => true) true Try.f5.params.toList args.toList ds p := hA0
  rw [Try.params5] at hA hval hsz
  obtain ⟨v0, vs0, d0, ds0, p0, q0, hargs, rfl, rfl, h0, r0⟩ := trodAll_cons hA
  obtain ⟨v1, vs1, d1, ds1, p1, q1, rfl, rfl, rfl, h1, r1⟩ := trodAll_cons r0
  obtain ⟨v2, vs2, d2, ds2, p2, q2, rfl, rfl, rfl, h2, r2⟩ := trodAll_cons r1
  obtain ⟨v3, vs3, d3, ds3, p3, q3, rfl, rfl, rfl, h3, r3⟩ := trodAll_cons r2
  obtain ⟨v4, vs4, d4, ds4, p4, q4, rfl, rfl, rfl, h4, r4⟩ := trodAll_cons r3
  obtain ⟨rfl, rfl, rfl⟩ := trodAll_nil r4
  obtain rfl : args = #[v0, v1, v2, v3, v4] := by cases args; simp_all
  obtain ⟨rfl, rfl⟩ := trodVars_none hV
  obtain ⟨a0, len0, cap0, rfl⟩ := okWide_slice Try.underlying22 (hval 0 22 v0 rfl rfl)
  have k0 := h0
  have lt0 : ∀ x ∈ p0, x.block < W.heap.size := by obtain ⟨m, hm⟩ := k0; exact DataW.trod_lt m _ _ _ hm
  obtain ⟨l0, rfl, R0, wf0, sz0⟩ := open_rd hsz (j := 0) (t := 22) rfl rfl Try.underlying22 Try.underlying3 (by kernel_rfl) (by kernel_rfl) h0
  obtain ⟨a1, len1, cap1, rfl⟩ := okWide_slice Try.underlying50 (hval 1 50 v1 rfl rfl)
  have k1 := h1
  have lt1 : ∀ x ∈ p1, x.block < W.heap.size := by obtain ⟨m, hm⟩ := k1; exact DataW.trod_lt m _ _ _ hm
  obtain ⟨m1, hm1⟩ := h1
  obtain ⟨x1, R1, ok1⟩ := opensRaws9 _ _ _ _ _ _ _ _ _ hm1
  replace R1 : (sl raw9T).rd W All x1 [.slice a1 len1 cap1] := R1
  obtain ⟨A1, c1, eq1, q1⟩ := R1
  obtain ⟨rfl, rfl, rfl⟩ : a1 = A1 ∧ len1 = x1.length ∧ cap1 = c1 := by simpa using eq1
  obtain ⟨a2, rfl, rfl, rfl, w2⟩ := open_int Try.underlying30 (hval 2 30 v2 rfl rfl) h2
  obtain ⟨a3, rfl, rfl, rfl, w3⟩ := open_int Try.underlying3 (hval 3 3 v3 rfl rfl) h3
  obtain ⟨a4, rfl, rfl, rfl, w4⟩ := open_int Try.underlying3 (hval 4 3 v4 rfl rfl) h4
  clear hA0 hval0 hsz0 hsz
  refine (AutoTells_walk W a0 cap0 l0 R0 (fun x hx => inI64_wf (wf0 x hx)) sz0 a1 cap1 x1 q1 ok1 a2 (inU64_wf w2) a3 (inI64_wf w3) a4 (inI64_wf w4)).mono fun e W' ⟨he, bel⟩ => ?_
  subst he
  exact ⟨_, rfl, _, _, _, [], _, [], hW', trodAll_mk1 (shut_bool Try.underlying4 _), (trodAll_cons_mk (Below.trod laidOut (by kernel_rfl) (of_decide_eq_true (by kernel_rfl)) k0 bel.out lt0) (trodAll_cons_mk (Below.trod laidOut (by kernel_rfl) (of_decide_eq_true (by kernel_rfl)) k1 bel.out lt1) (trodAll_cons_mk (shut_int Try.underlying30 w2) (trodAll_cons_mk (shut_int Try.underlying3 w3) (trodAll_cons_mk (shut_int Try.underlying3 w4) trodAll_mk0))))), rfl, bel.out.frame _, fun h => by cases h⟩
theorem over : Rows.autoTellsRow.holds Try.pinned (OpenSpec.ofChange Rows.autoTellsSpec) :=
  OpenClaim.holds_of_wide 5 Try.f5 rfl rfl rfl rfl rfl rfl rfl ⟨rfl, rfl, rfl, rfl, rfl⟩ rfl rfl rfl rfl rfl (by kernel_rfl) Try.func5 (by kernel_rfl)
    (of_decide_eq_true (by kernel_rfl)) (by unfold Func.isWrapper; first | (rw [if_pos (by decide +kernel)]; kernel_rfl) | (rw [if_neg (by decide +kernel)]; exact ⟨rfl, rfl⟩))
    (fun os started H enc _ => lifted os started H enc)
end Go.Proofs.Ytbfbhacdllhddaa.rowAutoTells
namespace Go.Proofs.Ytbfbhacdllhddaa
theorem AutoTells_holds : Rows.AutoTellsSaid := rowAutoTells.over
#print axioms AutoTells_holds
end Go.Proofs.Ytbfbhacdllhddaa
