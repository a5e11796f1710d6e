/- SemiKeeps: what is handed in stays as it was; what is answered is one's own. -/
import Derived.Test.YtbfbhacdllhddaaGreatPureL
import Derived.Test.YtbfbhacdllhddaaGreatMK
import Derived.Test.YtbfbhacdllhddaaGreatKeepS
import Derived.Test.YtbfbhacdllhddaaGreatMB
set_option linter.unusedVariables false
set_option linter.unusedSimpArgs false
set_option linter.all false
namespace Go.Cb
theorem ofS_self {s : SemS} (h : rightS s = true) : ofS s = (s, true) :=
  Prod.ext (semi_ext (ofS_right s) h (fun u => ofS_mem_iff (fun x hx => rightS_each h hx))) (by rw [ofS_yes (fun x hx => rightS_each h hx)])
end Go.Cb
namespace Go.Proofs.YtbfbhacdllhddaaGreat
open Go.RowKit Go.Cb Go.Sort
theorem semCatP_c (S S' : Nat → Prop) (A B : Option Addr) (ca cb : Nat) (a b : SemS) (w : World) (ha : Rd linT w S A ca a) (hb : Rd linT w S' B cb b) (n m : Nat) (hn : n = a.length) (hm2 : m = b.length) (hl : a.length ≤ 32768) (hl2 : b.length ≤ 32768) (h3 : ∀ x ∈ a, ∀ y ∈ b, x.2.length + y.2.length ≤ 4294967295) :
    Calls Tryz.prog 36 #[.pointer none, .slice A n ca, .slice B m cb] w fun e w' => ∃ v, e = .returned (.tuple #[v, .int .i64 (catS none a b).2.2]) ∧ PSem 30 w.heap.size w' v (catS none a b).2.1 ∧ Bel w w' := semCatN_c S S' A B ca cb a b w ha hb n m hn hm2 hl hl2 h3
set_option maxHeartbeats 32000000 in
set_option maxRecDepth 100000 in
theorem SemiKeeps_walk (w : World) (A : Option Addr) (ca : Nat) (a : List Int) (ha : Rd intT w All A ca a) (ia : ∀ x ∈ a, inI64 x) (_ : a.length * 8 ≤ 140737488351232)
    (B : Option Addr) (cb : Nat) (b : List Int) (hb0 : Rd intT w All B cb b) (ib : ∀ x ∈ b, inI64 x) (_ : b.length * 8 ≤ 140737488351232) :
    Calls Tryz.prog 6 #[.slice A a.length ca, .slice B b.length cb] w fun e w' => e = .returned (.bool true) ∧ Bel w w' := by
  obtain ⟨ox, hx6⟩ := playSem_ok a
  obtain ⟨oy, hy6⟩ := playSem_ok b
  obtain ⟨x, hx⟩ : ∃ x, playSem a = x := ⟨_, rfl⟩
  obtain ⟨y, hy⟩ : ∃ y, playSem b = y := ⟨_, rfl⟩
  have Hx := Lib.hid hx
  have Hy := Lib.hid hy
  rw [hx] at ox hx6
  rw [hy] at oy hy6
  obtain ⟨c9, c, ec, hc⟩ : ∃ c9 c ec, catS none x y = (c9, c, ec) := ⟨_, _, _, rfl⟩
  have EC := Lib.hid hc
  obtain ⟨u, hu⟩ : ∃ u, unionS x y = u := ⟨_, rfl⟩
  have EU := Lib.hid hu
  have Ox := Lib.hid (ofS_self ox.right)
  have Oy := Lib.hid (ofS_self oy.right)
  have Px := Lib.hid (fun v (hv : v ∈ x) => Nat.le_trans (ox.per v hv) (show 8 ≤ 16 by decide))
  have Py := Lib.hid (fun v (hv : v ∈ y) => Nat.le_trans (oy.per v hv) (show 8 ≤ 16 by decide))
  have PXY := Lib.hid (show ∀ v ∈ x ++ y, v.2.length ≤ 4294967296 from fun v hv => by
    rcases List.mem_append.1 hv with h | h
    · exact Nat.le_trans (ox.per v h) (by decide)
    · exact Nat.le_trans (oy.per v h) (by decide))
  have HB := Bel.refl w
  clear hx hy hc hu ox oy
  go_enter Tryz.func6, Tryz.ntmps6
  have Q := playSemi_c _ A ca a w (ha.to HB) ia _ rfl
  rw [Hx.out] at Q
  have HQ := Lib.hid Q
  clear Q
  go_wp2_with fail
  refine HQ.out.mono ?_
  rintro e w1 ⟨v, rfl, r, hb⟩
  obtain ⟨Ax, cx, rfl, hr⟩ := r.rd
  clear HQ
  replace HB := HB.trans hb
  have Kx := Lib.hid (fun W (h : Bel w1 W) => (hr.to h).all)
  clear hr
  clear hb
  have Q := playSemi_c _ B cb b w1 (hb0.to HB) ib _ rfl
  rw [Hy.out] at Q
  have HQ := Lib.hid Q
  clear Q
  go_wp2_with fail
  refine HQ.out.mono ?_
  rintro e w2 ⟨v, rfl, r, hb⟩
  obtain ⟨Ay, cy, rfl, hr⟩ := r.rd
  clear HQ
  replace Kx := Lib.hid (fun W h => Kx.out W (hb.trans h))
  replace HB := HB.trans hb
  have Ky := Lib.hid (fun W (h : Bel w2 W) => (hr.to h).all)
  clear hr
  clear hb
  have Q := ofD_c _ Ax cx x w2 (Kx.out _ (Bel.refl _)) _ rfl (by omega) (fun v hv => Nat.le_trans (Px.out v hv) (by decide))
  rw [Ox.out] at Q
  have HQ := Lib.hid Q
  clear Q
  go_wp2_with fail
  refine HQ.out.mono ?_
  rintro e w3 ⟨v, rfl, r, hb⟩
  obtain ⟨Au0, cu0, rfl, hr⟩ := r.rd
  clear HQ
  replace Kx := Lib.hid (fun W h => Kx.out W (hb.trans h))
  replace Ky := Lib.hid (fun W h => Ky.out W (hb.trans h))
  replace HB := HB.trans hb
  have Ku0 := Lib.hid (fun W (h : Bel w3 W) => (hr.to h).all)
  clear hr
  clear hb
  have Q := ofD_c _ Ay cy y w3 (Ky.out _ (Bel.refl _)) _ rfl (by omega) (fun v hv => Nat.le_trans (Py.out v hv) (by decide))
  rw [Oy.out] at Q
  have HQ := Lib.hid Q
  clear Q
  go_wp2_with fail
  refine HQ.out.mono ?_
  rintro e w4 ⟨v, rfl, r, hb⟩
  obtain ⟨Av0, cv0, rfl, hr⟩ := r.rd
  clear HQ
  replace Kx := Lib.hid (fun W h => Kx.out W (hb.trans h))
  replace Ky := Lib.hid (fun W h => Ky.out W (hb.trans h))
  replace Ku0 := Lib.hid (fun W h => Ku0.out W (hb.trans h))
  replace HB := HB.trans hb
  have Kv0 := Lib.hid (fun W (h : Bel w4 W) => (hr.to h).all)
  clear hr
  clear hb
  obtain ⟨s, hs⟩ : ∃ s, w4.heap.size = s := ⟨_, rfl⟩
  have hws : w.heap.size ≤ s := by have := HB.size; omega
  have Lx := Lib.hid (fun W (h : Bel w4 W) => (((Kx.out _ (Bel.refl _)).bound).mono (S' := fun k => k < s) (fun k hk => by have := hk.2; omega)).to h)
  have Ly := Lib.hid (fun W (h : Bel w4 W) => (((Ky.out _ (Bel.refl _)).bound).mono (S' := fun k => k < s) (fun k hk => by have := hk.2; omega)).to h)
  have Lu0 := Lib.hid (fun W (h : Bel w4 W) => (((Ku0.out _ (Bel.refl _)).bound).mono (S' := fun k => k < s) (fun k hk => by have := hk.2; omega)).to h)
  have Lv0 := Lib.hid (fun W (h : Bel w4 W) => (((Kv0.out _ (Bel.refl _)).bound).mono (S' := fun k => k < s) (fun k hk => by have := hk.2; omega)).to h)
  have HW4 := Lib.hid HB
  have HB := Bel.refl w4
  clear Ku0 Kv0
  have Q := semCatP_c _ _ Ax Ay cx cy x y w4 (Kx.out _ (Bel.refl _)) (Ky.out _ (Bel.refl _)) _ _ rfl rfl (by omega) (by omega) (fun u hu v hv => by have h1 := Px.out u hu; have h2 := Py.out v hv; omega)
  rw [EC.out] at Q
  dsimp only at Q
  have HQ := Lib.hid Q
  clear Q
  go_wp2_with fail
  refine HQ.out.mono ?_
  rintro e w5 ⟨v, rfl, r, hb⟩
  obtain ⟨Ac, cc, rfl, hr⟩ := Own.rdGe r
  clear HQ r
  have hsz := HB.size
  have Wc := Lib.hid (fun W (h : Bel w5 W) => (hr.mono (S' := Ge s) (fun k hk => by unfold Ge at *; omega)).to h)
  replace Kx := Lib.hid (fun W h => Kx.out W (hb.trans h))
  replace Ky := Lib.hid (fun W h => Ky.out W (hb.trans h))
  replace HB := HB.trans hb
  clear hb hr hsz
  have Q := semiOf_c _ Ax cx x w5 (Kx.out _ (Bel.refl _)) _ rfl (by omega) (fun v hv => Nat.le_trans (Px.out v hv) (by decide))
  rw [Ox.out] at Q
  dsimp only at Q
  have HQ := Lib.hid Q
  clear Q
  go_wp2_with fail
  refine HQ.out.mono ?_
  rintro e w6 ⟨v, rfl, r, hb⟩
  obtain ⟨Ao, co, rfl, hr⟩ := Own.rdGe r
  clear HQ r
  have hsz := HB.size
  have Wo := Lib.hid (fun W (h : Bel w6 W) => (hr.mono (S' := Ge s) (fun k hk => by unfold Ge at *; omega)).to h)
  replace Kx := Lib.hid (fun W h => Kx.out W (hb.trans h))
  replace Ky := Lib.hid (fun W h => Ky.out W (hb.trans h))
  replace Wc := Lib.hid (fun W h => Wc.out W (hb.trans h))
  replace HB := HB.trans hb
  clear hb hr hsz
  have Q := union_c _ _ Ax Ay cx cy x y w6 (Kx.out _ (Bel.refl _)) (Ky.out _ (Bel.refl _)) _ _ rfl rfl (by omega) (fun v hv => PXY.out v hv)
  rw [EU.out] at Q
  have HQ := Lib.hid Q
  clear Q
  go_wp2_with fail
  refine HQ.out.mono ?_
  rintro e w7 ⟨v, rfl, r, hb⟩
  obtain ⟨Au, cu, rfl, hr⟩ := Own.rdGe r
  clear HQ r
  have hsz := HB.size
  have Wu := Lib.hid (fun W (h : Bel w7 W) => (hr.mono (S' := Ge s) (fun k hk => by unfold Ge at *; omega)).to h)
  replace Kx := Lib.hid (fun W h => Kx.out W (hb.trans h))
  replace Ky := Lib.hid (fun W h => Ky.out W (hb.trans h))
  replace Wc := Lib.hid (fun W h => Wc.out W (hb.trans h))
  replace Wo := Lib.hid (fun W h => Wo.out W (hb.trans h))
  replace HB := HB.trans hb
  clear hb hr hsz
  have HW := Lib.hid HB
  have hs7 : s ≤ w7.heap.size := by have := HB.size; omega
  have ha7 : Bel w7 (w7.alloc (.cells #[.slice Ac c.length cc, .slice Ao x.length co, .slice Au u.length cu] 25)) := (Bel.refl _).alloc _
  have hL : ∀ i, (w7.alloc (.cells #[.slice Ac c.length cc, .slice Ao x.length co, .slice Au u.length cu] 25)).cell? ⟨w7.heap.size, i, none⟩ = (#[.slice Ac c.length cc, .slice Ao x.length co, .slice Au u.length cu] : Array Value)[i]? := fun i => cellAt (heap_alloc_new w7 _) i
  go_wp2_with fail
  have HB9 := Lib.hid (HB.trans ha7)
  replace Wc := Wc.out _ ha7
  replace Wo := Wo.out _ ha7
  replace Wu := Wu.out _ ha7
  have hs9 : s ≤ (w7.alloc (.cells #[.slice Ac c.length cc, .slice Ao x.length co, .slice Au u.length cu] 25)).heap.size := by simp; omega
  clear ha7 HB Kx Ky
  generalize w7.alloc (.cells #[.slice Ac c.length cc, .slice Ao x.length co, .slice Au u.length cu] 25) = W9 at *
  generalize w7.heap.size = L at *
  have KEY := Lib.hid (show ∀ k, k < 3 → ∃ A d xs, W9.cell? ⟨L, k, none⟩ = some (.slice A (xs : SemS).length d) ∧ Rd wlinT W9 (Ge s) A d xs from fun k hk => by
    obtain rfl | rfl | rfl : k = 0 ∨ k = 1 ∨ k = 2 := by omega
    · exact ⟨_, _, c, hL 0, Wc⟩
    · exact ⟨_, _, x, hL 1, Wo⟩
    · exact ⟨_, _, u, hL 2, Wu⟩)
  clear hL Wc Wo Wu
  go_loopw [55] (fun v wr => ∃ (k : Nat) (W : World), W = wr ∧ k ≤ 3 ∧ v = .int .i64 k ∧ Shp s W9 W) (fun v _ => 3 - (intOf v).toNat)
  case atStart => exact ⟨0, _, rfl, by omega, rfl, Shp.refl _ _⟩
  case round =>
    obtain ⟨k, W, rfl, hk, rfl, hS⟩ := hrel
    by_cases hlt : k < 3
    · obtain ⟨E, t, ls, g0, rls⟩ := KEY.out k hlt
      have j0 := hS.slc g0
      have lsm := rls.lenMax
      have HR := Lib.hid rls
      clear g0 rls
      go_wp2_with fail
      clear j0
      go_loopw [61] (fun v wr => ∃ (j : Nat) (W2 : World), W2 = wr ∧ j ≤ ls.length ∧ v = .int .i64 j ∧ Shp s W9 W2) (fun v _ => ls.length - (intOf v).toNat)
      case atStart => exact ⟨0, _, rfl, Nat.zero_le _, rfl, hS⟩
      case round =>
        clear hS
        obtain ⟨j, W2, rfl, hj, rfl, hS⟩ := hrel
        by_cases hjl : j < ls.length
        · obtain ⟨ad, E0, t0, E1, t1, rfl, j0, j1, rb, rps⟩ := hS.linAt HR.out hjl
          obtain ⟨⟨lb, lps⟩, hle⟩ : ∃ y, ls[j] = y := ⟨_, rfl⟩
          rw [hle] at j0 j1 rb rps
          dsimp only at j0 j1 rb rps
          have lbm := rb.rd.lenMax
          have lpm := rps.lenMax
          have hal : Bel W2 (W2.alloc (.cells #[.slice E0 lb.length t0, .slice E1 lps.length t1] 30)) := (Bel.refl _).alloc _
          have T := Box.new W2 30 (.slice E0 lb.length t0) (.slice E1 lps.length t1)
          have hsW : s ≤ W2.heap.size := Nat.le_trans hs9 hS.size
          have hS2 := hS.trans (Shp.of hal hsW)
          obtain ⟨z0, z1, _, _⟩ := T.cells
          clear hal hle
          go_wp2_with fail
          clear j0 j1 z0 z1
          generalize W2.alloc (.cells #[.slice E0 lb.length t0, .slice E1 lps.length t1] 30) = Wb at *
          obtain ⟨T0, T1, _, _⟩ := T.cells
          generalize W2.heap.size = TG at *
          go_loopw [68] (fun v wr => ∃ (i : Nat) (W' : World), W' = wr ∧ i ≤ lb.length ∧ v = .int .i64 i ∧ Shp s Wb W') (fun v _ => lb.length - (intOf v).toNat)
          case atStart => exact ⟨0, _, rfl, Nat.zero_le _, rfl, Shp.refl _ _⟩
          case round =>
            obtain ⟨i, W', rfl, hi, rfl, hS3⟩ := hrel
            have j0 := hS3.slc T0
            have j1 := hS3.slc T1
            by_cases hil : i < lb.length
            · obtain ⟨gg, n, rfl, hgs, hc, hf⟩ := (hS2.trans hS3).slot rb hil
              go_wp2
              go_roundw
              case rel => exact ⟨i + 1, _, rfl, by omega, by go_num, hS3.trans (Shp.set hgs hc)⟩
              case measure => simp [intOf]; omega
            · obtain rfl : i = lb.length := by omega
              clear j0 hil
              go_wp2
              clear j1
              go_loopw [82] (fun v wr => ∃ (i : Nat) (W'' : World), W'' = wr ∧ i ≤ lps.length ∧ v = .int .i64 i ∧ Shp s Wb W'') (fun v _ => lps.length - (intOf v).toNat)
              case atStart => exact ⟨0, _, rfl, Nat.zero_le _, rfl, hS3⟩
              case round =>
                clear hS3
                obtain ⟨i, W3', rfl, hi, rfl, hS3⟩ := hrel
                by_cases hil : i < lps.length
                · obtain ⟨ad3, Bp, cbp, rfl, hpc, hpr⟩ := rps.rowW hil
                  obtain ⟨p, hpe⟩ : ∃ p, lps[i] = p := ⟨_, rfl⟩
                  rw [hpe] at hpc hpr
                  clear hpe
                  have lp := hpr.rd.lenMax
                  have j0 := (hS2.trans hS3).slc hpc
                  clear hpc
                  go_wp2
                  clear j0
                  go_loopw [88] (fun v wr => ∃ (m : Nat) (W4' : World), W4' = wr ∧ m ≤ p.length ∧ v = .int .i64 m ∧ Shp s Wb W4') (fun v _ => p.length - (intOf v).toNat)
                  case atStart => exact ⟨0, _, rfl, Nat.zero_le _, rfl, hS3⟩
                  case round =>
                    clear hS3
                    obtain ⟨m, W4', rfl, hm, rfl, hS3⟩ := hrel
                    by_cases hml : m < p.length
                    · obtain ⟨gg, n, rfl, hgs, hc, hf⟩ := (hS2.trans hS3).slot (hpr.mono (S' := Ge s) (fun k hk => hk)) hml
                      go_wp2
                      go_roundw
                      case rel => exact ⟨m + 1, _, rfl, by omega, by go_num, hS3.trans (Shp.set hgs hc)⟩
                      case measure => simp [intOf]; omega
                    · obtain rfl : m = p.length := by omega
                      go_wp2
                      go_roundw
                      case rel => exact ⟨i + 1, _, rfl, by omega, by go_num, hS3⟩
                      case measure => simp [intOf]; omega
                · obtain rfl : i = lps.length := by omega
                  go_wp2
                  go_roundw
                  case rel => exact ⟨j + 1, _, rfl, by omega, by go_num, hS2.trans hS3⟩
                  case measure => simp [intOf]; omega
        · obtain rfl : j = ls.length := by omega
          go_wp2
          go_roundw
          case rel => exact ⟨k + 1, _, rfl, by omega, by go_num, hS⟩
          case measure => simp [intOf]; omega
    · obtain rfl : k = 3 := by omega
      have bw := HB9.out.shp hS (by omega)
      have q1 := (Lx.out _ HB9.out).low hS
      have q2 := (Lu0.out _ HB9.out).low hS
      have q3 := (Ly.out _ HB9.out).low hS
      have q4 := (Lv0.out _ HB9.out).low hS
      have Q1 := Lib.hid (show Calls Tryz.prog 21 #[.slice Ax x.length cx, .slice Au0 x.length cu0] W fun e w' => e = .returned (.bool true) ∧ Bel W w' from by
        have := sameSem_c _ _ Ax Au0 cx cu0 x x W q1 q2 _ _ rfl rfl
        rwa [decide_eq_true (show x = x from rfl)] at this)
      have Q2 := Lib.hid (show ∀ W', Bel W W' → Calls Tryz.prog 21 #[.slice Ay y.length cy, .slice Av0 y.length cv0] W' fun e w' => e = .returned (.bool true) ∧ Bel W' w' from fun W' h => by
        have := sameSem_c _ _ Ay Av0 cy cv0 y y W' (q3.to h) (q4.to h) _ _ rfl rfl
        rwa [decide_eq_true (show y = y from rfl)] at this)
      clear q1 q2 q3 q4
      go_wp2_with fail
      refine Q1.out.mono ?_
      rintro e w10 ⟨rfl, hb10⟩
      go_wp2_with fail
      refine (Q2.out _ hb10).mono ?_
      rintro e w11 ⟨rfl, hb11⟩
      go_wp2_with fail
      refine (wakes07 _).mono ?_
      rintro e w12 ⟨rfl, hb12⟩
      go_wp2
      go_ret
      exact ⟨rfl, HW4.out.trans (((bw.trans hb10).trans hb11).trans hb12)⟩
end Go.Proofs.YtbfbhacdllhddaaGreat
namespace Go.Proofs.YtbfbhacdllhddaaGreat.rowSemiKeeps
open Go.ChangeShapes Go.WideShapes Go.ChangeAt Go.RowKit Go.Cb
open Go.ChangeMaps (open_string shut_string)
theorem own : ownKnob Tryz.prog.godebug = none := by kernel_rfl
theorem laidOut : laidOutB Tryz.prog = true := by kernel_rfl
set_option maxRecDepth 100000 in
theorem lifted (os : Os) (started : os.Started) (H : Type) (enc : TypeId × Value → H) :
    ReturnsInHanded {} Tryz.checked os 6 .any (Rows.semiKeepsSpec.pre6 enc Tryz.prog Tryz.f6 Rows.semiKeepsRow.domain false) (Rows.semiKeepsSpec.post enc Tryz.prog Tryz.f6 false true false false) := by
  refine returnsInHanded_of_change_sized (C := Tryz.checked) own started (by kernel_rfl) Tryz.func6
    (ChangeSpec.witness6 (enc := enc) (C := Tryz.checked) false ⟨#[], #[.slice none 0 0, .slice none 0 0], []⟩ 8 (by kernel_rfl) (by kernel_rfl) (by kernel_rfl) (by kernel_rfl)) ?_
  intro W base args ds gs before hval0 hW hcnd hsz0 _
  have hsz : (DataW.weightsEach Tryz.prog (Tryz.f6.params.toList ++ Rows.semiKeepsSpec.plain.varTypes Tryz.prog) (ds ++ gs)).all (· ≤ reachBytes) = true := hsz0
  have hval : ∀ (j : Nat) t v, Tryz.f6.params[j]? = some t → args[j]? = some v → Value.okWide Tryz.prog W .any base t v := hval0
  have hW' := hW
  obtain ⟨p, q, hA0, hV, rfl, hfz, hnd⟩ := hW
  have hA : DataW.TrodAll enc Tryz.prog W 0 (fun _ => true) true Tryz.f6.params.toList args.toList ds p := hA0
  rw [Tryz.params6] at hA hval hsz
  obtain ⟨v0, vs0, d0, ds0, p0, q0, hargs, rfl, rfl, h0, r0⟩ := trodAll_cons hA
  obtain ⟨v1, vs1, d1, ds1, p1, q1, rfl, rfl, rfl, h1, r1⟩ := trodAll_cons r0
  obtain ⟨rfl, rfl, rfl⟩ := trodAll_nil r1
  obtain rfl : args = #[v0, v1] := by cases args; simp_all
  obtain ⟨rfl, rfl⟩ := trodVars_none hV
  obtain ⟨a0, len0, cap0, rfl⟩ := okWide_slice Tryz.underlying22 (hval 0 22 v0 rfl rfl)
  have k0 := h0
  have lt0 : ∀ x ∈ p0, x.block < W.heap.size := by obtain ⟨m, hm⟩ := k0; exact DataW.trod_lt m _ _ _ hm
  obtain ⟨l0, rfl, R0, wf0, sz0⟩ := open_rd hsz (j := 0) (t := 22) rfl rfl Tryz.underlying22 Tryz.underlying3 (by kernel_rfl) (by kernel_rfl) h0
  obtain ⟨a1, len1, cap1, rfl⟩ := okWide_slice Tryz.underlying22 (hval 1 22 v1 rfl rfl)
  have k1 := h1
  have lt1 : ∀ x ∈ p1, x.block < W.heap.size := by obtain ⟨m, hm⟩ := k1; exact DataW.trod_lt m _ _ _ hm
  obtain ⟨l1, rfl, R1, wf1, sz1⟩ := open_rd hsz (j := 1) (t := 22) rfl rfl Tryz.underlying22 Tryz.underlying3 (by kernel_rfl) (by kernel_rfl) h1
  clear hA0 hval0 hsz0 hsz
  refine (SemiKeeps_walk W a0 cap0 l0 R0 (fun x hx => inI64_wf (wf0 x hx)) sz0 a1 cap1 l1 R1 (fun x hx => inI64_wf (wf1 x hx)) sz1).mono fun e W' ⟨he, bel⟩ => ?_
  subst he
  exact ⟨_, rfl, _, _, _, [], _, [], hW', trodAll_mk1 (shut_bool Tryz.underlying4 _), (trodAll_cons_mk (Below.trod laidOut (by kernel_rfl) (of_decide_eq_true (by kernel_rfl)) k0 bel.out lt0) (trodAll_cons_mk (Below.trod laidOut (by kernel_rfl) (of_decide_eq_true (by kernel_rfl)) k1 bel.out lt1) trodAll_mk0)), rfl, bel.out.frame _, fun h => by cases h⟩
theorem over : Rows.semiKeepsRow.holds Tryz.pinned (OpenSpec.ofChange Rows.semiKeepsSpec) :=
  OpenClaim.holds_of_wide 6 Tryz.f6 rfl rfl rfl rfl rfl rfl rfl ⟨rfl, rfl, rfl, rfl, rfl⟩ rfl rfl rfl rfl rfl (by kernel_rfl) Tryz.func6 (by kernel_rfl)
    (of_decide_eq_true (by kernel_rfl)) (by unfold Func.isWrapper; first | (rw [if_pos (by decide +kernel)]; kernel_rfl) | (rw [if_neg (by decide +kernel)]; exact ⟨rfl, rfl⟩))
    (fun os started H enc _ => lifted os started H enc)
end Go.Proofs.YtbfbhacdllhddaaGreat.rowSemiKeeps
namespace Go.Proofs.YtbfbhacdllhddaaGreat
theorem SemiKeeps_holds : Rows.SemiKeepsSaid := rowSemiKeeps.over
#print axioms SemiKeeps_holds
end Go.Proofs.YtbfbhacdllhddaaGreat
