/- NormParts: a sum's words are those of both, a cat's those of both together. -/
import Derived.Test.YtfkopkjioohgoaaSameW
import Derived.Test.YtfkopkjioohgoaaPureU
import Derived.Test.YtfkopkjioohgoaaWak8
import Derived.Test.YtfkopkjioohgoaaMK
import Derived.Test.YtfkopkjioohgoaaMB
set_option linter.unusedVariables false
set_option linter.unusedSimpArgs false
set_option linter.all false
namespace Go.Cb
open Go.RowKit
/-- A node's own block, its places moved. -/
theorem node_world (W : World) (t : TypeId) (k a b n : Int) (s : ByteArray) (a' b' : Int) : ∃ W1 W2 W3, W.alloc (.cells #[.int .i64 k, .int .i64 a, .int .i64 b, .int .i64 n, .string s] t) = W1 ∧ W1.setCell ⟨W.heap.size, 1, none⟩ (.int .i64 a') = W2 ∧ W2.setCell ⟨W.heap.size, 2, none⟩ (.int .i64 b') = W3 ∧
    W1.heap[W.heap.size]? = some (.cells #[.int .i64 k, .int .i64 a, .int .i64 b, .int .i64 n, .string s] t) ∧ W2.heap[W.heap.size]? = some (.cells #[.int .i64 k, .int .i64 a', .int .i64 b, .int .i64 n, .string s] t) ∧ W3.heap[W.heap.size]? = some (.cells #[.int .i64 k, .int .i64 a', .int .i64 b', .int .i64 n, .string s] t) ∧ Bel W W1 ∧ Bel W W2 ∧ Bel W W3 := by
  have h1 := heap_alloc_new W (.cells #[.int .i64 k, .int .i64 a, .int .i64 b, .int .i64 n, .string s] t)
  have b1 : Bel W (W.alloc (.cells #[.int .i64 k, .int .i64 a, .int .i64 b, .int .i64 n, .string s] t)) := (Bel.refl _).alloc _
  obtain ⟨W1, e1⟩ : ∃ W1, W.alloc (.cells #[.int .i64 k, .int .i64 a, .int .i64 b, .int .i64 n, .string s] t) = W1 := ⟨_, rfl⟩
  rw [e1] at h1 b1
  have h2 : (W1.setCell ⟨W.heap.size, 1, none⟩ (.int .i64 a')).heap[W.heap.size]? = some (.cells #[.int .i64 k, .int .i64 a', .int .i64 b, .int .i64 n, .string s] t) := by
    simp [World.setCell, Array.getElem?_modify, h1]
  obtain ⟨W2, e2⟩ : ∃ W2, W1.setCell ⟨W.heap.size, 1, none⟩ (.int .i64 a') = W2 := ⟨_, rfl⟩
  rw [e2] at h2
  have h3 : (W2.setCell ⟨W.heap.size, 2, none⟩ (.int .i64 b')).heap[W.heap.size]? = some (.cells #[.int .i64 k, .int .i64 a', .int .i64 b', .int .i64 n, .string s] t) := by
    simp [World.setCell, Array.getElem?_modify, h2]
  have b2 : Bel W W2 := by rw [← e2]; exact b1.set (Nat.le_refl _) _
  exact ⟨W1, W2, _, e1, e2, rfl, h1, h2, h3, b1, b2, b2.set (Nat.le_refl _) _⟩
theorem nodes_low {tags : Int} {n : Nat} : ∀ {r : List PN} {i : Nat} {op : List Int} {st : List Bool}, goP tags i r op st = true → OkP i n op st → ∀ x ∈ r, 4 ≤ x.k → (0 ≤ x.a ∧ x.a < i + r.length) ∧ (x.k ≠ 6 → 0 ≤ x.b ∧ x.b < i + r.length)
  | [], _, _, _, _, _, x, hx, _ => by simp at hx
  | y :: r, i, op, st, hg, ho, x, hx, h4 => by
    rw [goP] at hg
    cases hs : stepP tags i y op st with
    | none => rw [hs] at hg; cases hg
    | some s =>
      rw [hs] at hg
      have hl : ((y :: r).length : Int) = r.length + 1 := by simp
      rcases List.mem_cons.1 hx with rfl | hx
      · have hm : ∀ j, 1 ≤ j → j ≤ op.length → 0 ≤ op.getD (op.length - j) 0 ∧ op.getD (op.length - j) 0 < i := fun j h1 h2 => by
          rw [List.getD_eq_getElem?_getD, List.getElem?_eq_getElem (by omega)]
          exact ho.below _ (List.getElem_mem _)
        unfold stepP at hs
        rw [if_neg (by omega), if_neg (by omega)] at hs
        split at hs
        · split at hs
          · cases hs
          · rename_i hc
            have h2 : 2 ≤ op.length := by omega
            have e1 : op.getD (op.length - 1) 0 = x.b := by
              by_cases e : op.getD (op.length - 1) 0 = x.b
              · exact e
              · exact absurd (.inr (.inr (.inl e))) hc
            have e2 : op.getD (op.length - 2) 0 = x.a := by
              by_cases e : op.getD (op.length - 2) 0 = x.a
              · exact e
              · exact absurd (.inr (.inr (.inr e))) hc
            have m1 := hm 1 (by omega) (by omega)
            have m2 := hm 2 (by omega) h2
            omega
        · split at hs
          · split at hs
            · cases hs
            · rename_i hc
              have h1 : 1 ≤ op.length := by omega
              have e1 : op.getD (op.length - 1) 0 = x.a := by
                by_cases e : op.getD (op.length - 1) 0 = x.a
                · exact e
                · exact absurd (.inr (.inr (.inr (.inl e)))) hc
              have m1 := hm 1 (by omega) (by omega)
              omega
          · cases hs
      · have := nodes_low hg (stepP_ok hs ho) x hx h4
        omega
theorem play_low (l : List Int) : ∀ x ∈ playPat l, 4 ≤ x.k → (0 ≤ x.a ∧ x.a < 24) ∧ (x.k ≠ 6 → 0 ≤ x.b ∧ x.b < 24) := fun x hx h4 => by
  obtain ⟨_, c1, c2⟩ := playPat_law l
  have hc := playPat_chk l
  rw [chkP_go c1 c2] at hc
  have := nodes_low (n := (playPat l).length) hc ⟨Nat.le_refl _, fun v hv => by simp at hv, by simp⟩ x hx h4
  omega
end Go.Cb
namespace Go.Proofs.Ytfkopkjioohgoaa
open Go.RowKit Go.Cb Go.Sort
theorem normP_c (W W1 : World) (A : Option Addr) (c n : Nat) (p : List PN) (tags : Int) (s : SemS) (ec : Int) (hW : Bel W W1) (h : Rd patT W1 All A c p) (hn : n = p.length) (hs : normS none p tags = (none, s, ec)) :
    Calls Try.prog 9 #[.pointer none, .slice A n c, .int .i64 tags] W1 fun e w' => ∃ A c, e = .returned (.tuple #[.slice A s.length c, .int .i64 ec]) ∧ Rd linT w' All A c s ∧ Bel W w' := by
  have Q := normOf_c (.pointer none) none none _ A c p tags W1 ⟨rfl, rfl⟩ h (fun _ _ => by simp) n hn (fun hc => norm_fit_any hc none)
  rw [hs] at Q
  refine Q.mono ?_
  rintro e w' ⟨v, he, ⟨A, c, hv, r⟩, _, hg⟩
  subst hv
  exact ⟨A, c, he, r.all, hW.trans ((Bel.refl _).grown hg (fun k hk => by cases hk))⟩
set_option maxHeartbeats 64000000 in
set_option maxRecDepth 100000 in
theorem NormParts_walk (w : World) (A0 : Option Addr) (ca : Nat) (a : List Int) (ha : Rd intT w All A0 ca a) (ia : ∀ x ∈ a, inI64 x) (_ : a.length * 8 ≤ 140737488351232)
    (B0 : Option Addr) (cb : Nat) (b : List Int) (hb0 : Rd intT w All B0 cb b) (ib : ∀ x ∈ b, inI64 x) (_ : b.length * 8 ≤ 140737488351232) (kind : Int) (_ : inI64 kind) :
    Calls Try.prog 3 #[.slice A0 a.length ca, .slice B0 b.length cb, .int .i64 kind] w fun e w' => e = .returned (.bool true) ∧ Bel w w' := by
  obtain ⟨a8, ha8⟩ : ∃ x, a.take 8 = x := ⟨_, rfl⟩
  obtain ⟨b8, hb8⟩ : ∃ x, b.take 8 = x := ⟨_, rfl⟩
  have IA := Lib.hid (show ∀ x ∈ a8, inI64 x by rw [← ha8]; exact fun x hx => ia x (List.mem_of_mem_take hx))
  have IB := Lib.hid (show ∀ x ∈ b8, inI64 x by rw [← hb8]; exact fun x hx => ib x (List.mem_of_mem_take hx))
  have HC1 := Lib.hid (cutIntS_c _ A0 ca a 8 w ha _ rfl (Nat.le_trans (Nat.mul_le_mul_right _ (List.length_take_le 8 a)) (by decide)) 8 rfl)
  have HC2 := Lib.hid (fun W (h : Bel w W) => cutIntS_c _ B0 cb b 8 W (hb0.to h) _ rfl (Nat.le_trans (Nat.mul_le_mul_right _ (List.length_take_le 8 b)) (by decide)) 8 rfl)
  rw [ha8] at HC1
  rw [hb8] at HC2
  obtain ⟨s, t, cs, e1, e2, e3, so, to, cr, ej⟩ := parts_law a8 b8
  obtain ⟨_, p1, p2⟩ := playPat_law a8
  obtain ⟨_, q1, q2⟩ := playPat_law b8
  have LQ0 := play_low b8
  obtain ⟨p, hp⟩ : ∃ p, playPat a8 = p := ⟨_, rfl⟩
  obtain ⟨q, hq⟩ : ∃ q, playPat b8 = q := ⟨_, rfl⟩
  have Hp := Lib.hid hp
  have Hq := Lib.hid hq
  rw [hp] at e1 ej p1 p2
  rw [hq] at e2 ej q1 q2 LQ0
  have E1 := Lib.hid e1
  have E2 := Lib.hid e2
  have E3 := Lib.hid e3
  have EJ := Lib.hid ej
  have LQ := Lib.hid LQ0
  have PL := Lib.hid (And.intro p2 q2)
  have CR := Lib.hid cr
  have UR := Lib.hid (unionS_right s t)
  have sl : s.length ≤ 2048 := so.size
  have tl : t.length ≤ 2048 := to.size
  have SP := Lib.hid (show ∀ x ∈ s, x.2.length ≤ 2048 from fun x hx => Nat.le_trans (so.per x hx) (perB_24 (Nat.le_refl _)))
  have TP := Lib.hid (show ∀ x ∈ t, x.2.length ≤ 2048 from fun x hx => Nat.le_trans (to.per x hx) (perB_24 (Nat.le_refl _)))
  have SL := Lib.hid (And.intro sl tl)
  have hw1 : IntKind.i64.wrap ((p.length : Int) + (q.length : Int)) = (p.length : Int) + (q.length : Int) := by rw [IntKind.wrap_i64]; omega
  have hw2 : IntKind.i64.wrap ((p.length : Int) + (q.length : Int) + 1) = (p.length : Int) + (q.length : Int) + 1 := by rw [IntKind.wrap_i64]; omega
  have hw3 : IntKind.i64.wrap ((p.length : Int) - 1) = (p.length : Int) - 1 := by rw [IntKind.wrap_i64]; omega
  have hw4 : IntKind.i64.wrap ((p.length : Int) + (q.length : Int) - 1) = (p.length : Int) + (q.length : Int) - 1 := by rw [IntKind.wrap_i64]; omega
  clear ha8 hb8 hp hq e1 e2 e3 ej so to cr LQ0 ha hb0 sl tl
  go_enter Try.func3, Try.ntmps3
  go_wp2_with fail
  refine HC1.out.mono ?_
  rintro e w1 ⟨v, rfl, ho1, hb1⟩
  obtain ⟨A1, c1, rfl, r1⟩ := ho1.rdAll
  have Q := playPat_c _ A1 c1 a8 w1 r1 IA.out _ rfl
  rw [Hp.out] at Q
  have HQ := Lib.hid Q
  have HB1 := Lib.hid hb1
  clear Q ho1 r1 hb1 HC1
  go_wp2_with fail
  refine HQ.out.mono ?_
  rintro e w2 ⟨Ap, cp, rfl, hrp, hb2⟩
  have HP := Lib.hid hrp.all
  have HB2 := Lib.hid (HB1.out.trans hb2)
  clear HQ hrp hb2
  go_wp2_with fail
  refine (HC2.out w2 HB2.out).mono ?_
  rintro e w3 ⟨v, rfl, ho3, hb3⟩
  obtain ⟨A3, c3, rfl, r3⟩ := ho3.rdAll
  have Q := playPat_c _ A3 c3 b8 w3 r3 IB.out _ rfl
  rw [Hq.out] at Q
  have HQ := Lib.hid Q
  have HP3 := Lib.hid (HP.out.to hb3)
  have HB3 := Lib.hid (HB2.out.trans hb3)
  clear Q ho3 r3 hb3 HC2 HP
  go_wp2_with fail
  refine HQ.out.mono ?_
  rintro e wq ⟨Aq, cq, rfl, hrq, hbq⟩
  have HQ0 := Lib.hid hrq.all
  have HP4 := Lib.hid (HP3.out.to hbq)
  have HBQ := Lib.hid (HB3.out.trans hbq)
  clear HQ hrq hbq HP3
  go_wp2_with fail
  refine (normP_c wq wq Ap cp _ p 4 _ _ (Bel.refl _) HP4.out rfl E1.out).mono ?_
  rintro e ws ⟨As, cs1, rfl, hrs, hbs⟩
  have HS5 := Lib.hid hrs
  have HP5 := Lib.hid (HP4.out.to hbs)
  have HQ5 := Lib.hid (HQ0.out.to hbs)
  have HB5 := Lib.hid (HBQ.out.trans hbs)
  clear hrs hbs HP4 HQ0
  go_wp2_with fail
  refine (normP_c ws ws Aq cq _ q 4 _ _ (Bel.refl _) HQ5.out rfl E2.out).mono ?_
  rintro e w4 ⟨At, ct1, rfl, hrt, hbt⟩
  have HT := Lib.hid hrt
  have HS := Lib.hid (HS5.out.to hbt)
  have HP := Lib.hid (HP5.out.to hbt)
  have HQX := Lib.hid (HQ5.out.to hbt)
  have HW := Lib.hid (HB5.out.trans hbt)
  clear hrt hbt HS5 HP5 HQ5
  by_cases h24 : 24 < p.length + q.length + 1
  · have d0 : decide (24 < (p.length : Int) + (q.length : Int) + 1) = true := decide_eq_true (by omega)
    go_wp2_with fail
    refine (wakes08 _).mono ?_
    rintro e w9 ⟨rfl, hb9⟩
    go_wp2
    go_ret
    exact ⟨rfl, HW.out.trans hb9⟩
  · have d0 : decide (24 < (p.length : Int) + (q.length : Int) + 1) = false := decide_eq_false (by omega)
    obtain ⟨ej1, ej2⟩ := EJ.out (by omega)
    have EJ1 := Lib.hid ej1
    have EJ2 := Lib.hid ej2
    clear ej1 ej2 EJ
    go_wp2_with fail
    refine (copyP_c _ Ap cp p w4 HP.out _ rfl p2).mono ?_
    rintro e w5 ⟨v, rfl, ho5, hb5⟩
    obtain ⟨A5, c5, rfl⟩ := ho5.form
    have HO5 := Lib.hid ho5
    have HB6 := Lib.hid hb5
    clear ho5 hb5 h24
    go_wp2
    go_loopw [13, 63] (fun v13 v63 wr => ∃ (j : Nat) (W : World) (AQ : Option Addr) (cQ : Nat), W = wr ∧ j ≤ q.length ∧ v63 = .int .i64 j ∧ v13 = .slice AQ (p.length + j) cQ ∧ Own patT 35 W w4.heap.size (Ge w4.heap.size) (.slice AQ (p.length + j) cQ) (p ++ (q.take j).map (shN p.length)) ∧ Bel w4 W) (fun _ v63 _ => q.length - (intOf v63).toNat)
    case atStart => exact ⟨0, _, A5, c5, rfl, Nat.zero_le _, rfl, rfl, by rw [List.take_zero, List.map_nil, List.append_nil]; exact HO5.out, HB6.out⟩
    case round =>
      obtain ⟨j, W, AQ, cQ, rfl, hj, rfl, rfl, hO, hbW⟩ := hrel
      clear HO5 HB6
      by_cases hlt : j < q.length
      · obtain ⟨x, hx⟩ : ∃ x, q[j]? = some x := ⟨_, List.getElem?_eq_getElem hlt⟩
        have hxm : x ∈ q := List.mem_of_getElem? hx
        have hlow := LQ.out x hxm
        obtain ⟨ad, rfl, g0, g1, g2, g3, g4⟩ := (HQX.out.to hbW).prowW hx
        obtain ⟨M, hM⟩ : ∃ M, p ++ (q.take j).map (shN p.length) = M := ⟨_, rfl⟩
        have HML := Lib.hid (show M.length = p.length + j by rw [← hM, List.length_append, List.length_map, List.length_take]; omega)
        have hnx : p ++ (q.take (j + 1)).map (shN p.length) = M ++ [shN p.length x] := by
          rw [List.take_add_one, hx, ← hM, List.append_assoc]; simp
        rw [hM] at hO
        obtain ⟨xk, xa, xb, xn, xs⟩ := x
        dsimp only at g0 g1 g2 g3 g4 hlow
        obtain ⟨W1, W2, W3, e1, e2, e3, h1, h2, h3, b1, b2, b3⟩ := node_world W 35 xk xa xb xn xs (xa + (p.length : Int)) (xb + (p.length : Int))
        have s0 : W1.cell? ⟨W.heap.size, 0, none⟩ = some (.int .i64 xk) := cellAt h1 0
        have s1 : W1.cell? ⟨W.heap.size, 1, none⟩ = some (.int .i64 xa) := cellAt h1 1
        have s2 : W1.cell? ⟨W.heap.size, 2, none⟩ = some (.int .i64 xb) := cellAt h1 2
        have s3 : W1.cell? ⟨W.heap.size, 3, none⟩ = some (.int .i64 xn) := cellAt h1 3
        have s4 : W1.cell? ⟨W.heap.size, 4, none⟩ = some (.string xs) := cellAt h1 4
        have sf : W1.frozen? ⟨W.heap.size, 1, none⟩ = false := frozenAt h1 1
        have t0 : W2.cell? ⟨W.heap.size, 0, none⟩ = some (.int .i64 xk) := cellAt h2 0
        have t1 : W2.cell? ⟨W.heap.size, 1, none⟩ = some (.int .i64 (xa + (p.length : Int))) := cellAt h2 1
        have t2 : W2.cell? ⟨W.heap.size, 2, none⟩ = some (.int .i64 xb) := cellAt h2 2
        have t3 : W2.cell? ⟨W.heap.size, 3, none⟩ = some (.int .i64 xn) := cellAt h2 3
        have t4 : W2.cell? ⟨W.heap.size, 4, none⟩ = some (.string xs) := cellAt h2 4
        have tf : W2.frozen? ⟨W.heap.size, 2, none⟩ = false := frozenAt h2 2
        have u0 : W3.cell? ⟨W.heap.size, 0, none⟩ = some (.int .i64 xk) := cellAt h3 0
        have u1 : W3.cell? ⟨W.heap.size, 1, none⟩ = some (.int .i64 (xa + (p.length : Int))) := cellAt h3 1
        have u2 : W3.cell? ⟨W.heap.size, 2, none⟩ = some (.int .i64 (xb + (p.length : Int))) := cellAt h3 2
        have u3 : W3.cell? ⟨W.heap.size, 3, none⟩ = some (.int .i64 xn) := cellAt h3 3
        have u4 : W3.cell? ⟨W.heap.size, 4, none⟩ = some (.string xs) := cellAt h3 4
        have HO1 := Lib.hid (hO.to b1)
        have HO2 := Lib.hid (hO.to b2)
        have HO3 := Lib.hid (hO.to b3)
        have HBA := Lib.hid (hbW.trans b1)
        have HBB := Lib.hid (hbW.trans b2)
        have HBC := Lib.hid (hbW.trans b3)
        clear hM hx hxm hO hbW h1 h2 h3 b1 b2 b3
        by_cases k4 : 4 ≤ xk
        · obtain ⟨ha, hb⟩ := hlow k4
          have c4 : decide (4 ≤ xk) = true := decide_eq_true k4
          have wa : IntKind.i64.wrap (xa + (p.length : Int)) = xa + (p.length : Int) := by rw [IntKind.wrap_i64]; omega
          by_cases k6 : xk = 6
          · have HMX := Lib.hid (show M ++ [⟨xk, xa + (p.length : Int), xb, xn, xs⟩] = p ++ (q.take (j + 1)).map (shN p.length) by rw [hnx, shN_star (x := ⟨xk, xa, xb, xn, xs⟩) k6])
            have c6 : (xk != 6) = false := by simp [k6]
            have HOZ := HO2
            have HBZ := HBB
            clear hnx k6 k4 ha hb hlow HO1 HO2 HO3 HBA HBB HBC
            go_wp2_with (at_builtin; go_loud (refine wp_append1w patT (w0 := w4) 23 35 (.agg #[.int .i64 0, .int .i64 0, .int .i64 0, .int .i64 0, .string ByteArray.empty]) 48 rfl _ _ rfl Try.underlying23 infoPN rfl (Ge w4.heap.size) (.slice AQ (p.length + j) cQ) M ⟨xk, (xa + (p.length : Int)), xb, xn, xs⟩ [.int .i64 xk, .int .i64 (xa + (p.length : Int)), .int .i64 xb, .int .i64 xn, .string xs] _ (by simp) rfl rfl HOZ.out rfl HBZ.out (by rw [HML.out]; unfold maxLen; omega) (by rw [HML.out]; omega) ?_); go_loud (rintro v2 w2z ho2 hb2 hg2 hf2; obtain ⟨A2, c2, hv2⟩ := ho2.form; rw [List.length_append, HML.out] at hv2; subst hv2; rw [HMX.out] at ho2))
            go_roundw
            case rel => exact ⟨j + 1, _, A2, c2, rfl, by omega, by go_num, rfl, ho2, hb2⟩
            case measure => simp [intOf]; omega
          · have HMX := Lib.hid (show M ++ [⟨xk, xa + (p.length : Int), xb + (p.length : Int), xn, xs⟩] = p ++ (q.take (j + 1)).map (shN p.length) by rw [hnx, shN_two (x := ⟨xk, xa, xb, xn, xs⟩) k4 k6])
            have c6 : (xk != 6) = true := by simp [k6]
            have wb : IntKind.i64.wrap (xb + (p.length : Int)) = xb + (p.length : Int) := by have := hb k6; rw [IntKind.wrap_i64]; omega
            have HOZ := HO3
            have HBZ := HBC
            clear hnx k6 k4 ha hb hlow HO1 HO2 HO3 HBA HBB HBC
            go_wp2_with (at_builtin; go_loud (refine wp_append1w patT (w0 := w4) 23 35 (.agg #[.int .i64 0, .int .i64 0, .int .i64 0, .int .i64 0, .string ByteArray.empty]) 48 rfl _ _ rfl Try.underlying23 infoPN rfl (Ge w4.heap.size) (.slice AQ (p.length + j) cQ) M ⟨xk, (xa + (p.length : Int)), (xb + (p.length : Int)), xn, xs⟩ [.int .i64 xk, .int .i64 (xa + (p.length : Int)), .int .i64 (xb + (p.length : Int)), .int .i64 xn, .string xs] _ (by simp) rfl rfl HOZ.out rfl HBZ.out (by rw [HML.out]; unfold maxLen; omega) (by rw [HML.out]; omega) ?_); go_loud (rintro v2 w2z ho2 hb2 hg2 hf2; obtain ⟨A2, c2, hv2⟩ := ho2.form; rw [List.length_append, HML.out] at hv2; subst hv2; rw [HMX.out] at ho2))
            go_roundw
            case rel => exact ⟨j + 1, _, A2, c2, rfl, by omega, by go_num, rfl, ho2, hb2⟩
            case measure => simp [intOf]; omega
        · have HMX := Lib.hid (show M ++ [⟨xk, xa, xb, xn, xs⟩] = p ++ (q.take (j + 1)).map (shN p.length) by rw [hnx, shN_lo (x := ⟨xk, xa, xb, xn, xs⟩) k4])
          have c4 : decide (4 ≤ xk) = false := decide_eq_false k4
          have HOZ := HO1
          have HBZ := HBA
          clear hnx k4 hlow HO1 HO2 HO3 HBA HBB HBC
          go_wp2_with (at_builtin; go_loud (refine wp_append1w patT (w0 := w4) 23 35 (.agg #[.int .i64 0, .int .i64 0, .int .i64 0, .int .i64 0, .string ByteArray.empty]) 48 rfl _ _ rfl Try.underlying23 infoPN rfl (Ge w4.heap.size) (.slice AQ (p.length + j) cQ) M ⟨xk, xa, xb, xn, xs⟩ [.int .i64 xk, .int .i64 xa, .int .i64 xb, .int .i64 xn, .string xs] _ (by simp) rfl rfl HOZ.out rfl HBZ.out (by rw [HML.out]; unfold maxLen; omega) (by rw [HML.out]; omega) ?_); go_loud (rintro v2 w2z ho2 hb2 hg2 hf2; obtain ⟨A2, c2, hv2⟩ := ho2.form; rw [List.length_append, HML.out] at hv2; subst hv2; rw [HMX.out] at ho2))
          go_roundw
          case rel => exact ⟨j + 1, _, A2, c2, rfl, by omega, by go_num, rfl, ho2, hb2⟩
          case measure => simp [intOf]; omega
      · obtain rfl : j = q.length := by omega
        rw [List.take_length] at hO
        have HO := Lib.hid hO
        have HBW := Lib.hid hbW
        have hk01 := withinI_range (v := kind) (n := 2) (by decide)
        obtain ⟨kk, hkk⟩ : ∃ kk, withinI kind 2 = kk := ⟨_, rfl⟩
        have KQ := Lib.hid (within_c kind 2 W (by decide))
        rw [hkk] at KQ hk01
        have SLx := SL.out
        have PLx := PL.out
        clear hkk hO hbW hlt hj
        obtain rfl | rfl : kk = 0 ∨ kk = 1 := by omega
        · clear hk01
          go_wp2_with fail
          refine KQ.out.mono ?_
          rintro e wk ⟨rfl, rfl⟩
          clear KQ
          have hlm : (p ++ q.map (shN p.length)).length = p.length + q.length := by rw [List.length_append, List.length_map]
          have HLM := Lib.hid hlm
          have HJL := Lib.hid (show p.length + q.length + 1 = (joinP 4 p q).length by unfold joinP; rw [List.length_append, hlm]; rfl)
          clear hlm
          go_wp2_with (at_builtin; go_loud (refine wp_append1w patT (w0 := w4) 23 35 (.agg #[.int .i64 0, .int .i64 0, .int .i64 0, .int .i64 0, .string ByteArray.empty]) 48 rfl _ _ rfl Try.underlying23 infoPN rfl (Ge w4.heap.size) (.slice AQ (p.length + q.length) cQ) (p ++ q.map (shN p.length)) ⟨4, (p.length : Int) - 1, (p.length : Int) + (q.length : Int) - 1, 0, ⟨#[]⟩⟩ [.int .i64 4, .int .i64 ((p.length : Int) - 1), .int .i64 ((p.length : Int) + (q.length : Int) - 1), .int .i64 0, .string ⟨#[]⟩] _ (by simp) rfl rfl HO.out rfl HBW.out (by rw [HLM.out]; unfold maxLen; omega) (by rw [HLM.out]; omega) ?_); go_loud (rintro v2 w6 ho6 hb6 _ _; obtain ⟨A6, c6, hv6⟩ := ho6.form; rw [List.length_append, HLM.out] at hv6; subst hv6; obtain ⟨A7, c7, e7, r7⟩ := ho6.rdAll; have HR6 := Lib.hid (And.intro e7 r7); clear e7 r7; have HB6 := Lib.hid hb6; clear ho6 hb6))
          obtain ⟨e7, r7⟩ := HR6.out
          injection e7 with z1 z2 z3
          clear z2
          subst z1 z3
          have HRX := Lib.hid (show Rd patT w6 All A6 c6 (joinP 4 p q) from r7)
          clear r7 HR6
          refine (normP_c w6 w6 A6 c6 _ _ 4 _ _ (Bel.refl _) HRX.out HJL.out EJ1.out).mono ?_
          rintro e w7 ⟨Au, cu, rfl, hru, hb7⟩
          have HU := Lib.hid hru
          have HB7 := Lib.hid (HB6.out.trans hb7)
          clear hru hb7
          have Q := union_c _ _ As At cs1 ct1 s t w7 (HS.out.to HB7.out) (HT.out.to HB7.out) _ _ rfl rfl (by omega) (fun u hu => by rcases List.mem_append.1 hu with h | h; exact Nat.le_trans (SP.out u h) (by decide); exact Nat.le_trans (TP.out u h) (by decide))
          have HQ := Lib.hid Q
          clear Q
          go_wp2_with fail
          refine HQ.out.mono ?_
          rintro e w8 ⟨v, rfl, r, hb8⟩
          obtain ⟨Aw, cw, rfl, hrw⟩ := PSem.rd (t := 46) r
          have HWN := Lib.hid hrw.all
          have HU8 := Lib.hid (HU.out.to hb8)
          have HB8 := Lib.hid (HB7.out.trans hb8)
          clear HQ r hrw hb8
          have Q := sameSem_c _ _ Au Aw cu cw (unionS s t) (unionS s t) w8 HU8.out HWN.out _ _ rfl rfl
          rw [decide_eq_true (show unionS s t = unionS s t from rfl)] at Q
          have HQ := Lib.hid Q
          clear Q
          go_wp2_with fail
          refine HQ.out.mono ?_
          rintro e wa ⟨rfl, hba⟩
          have Q := semRight_c _ Au cu (unionS s t) wa (HU8.out.to hba) _ rfl
          rw [UR.out] at Q
          have HQ2 := Lib.hid Q
          have HBa := Lib.hid (HB8.out.trans hba)
          clear Q HQ hba
          go_wp2_with fail
          refine HQ2.out.mono ?_
          rintro e wb ⟨rfl, hbb⟩
          go_wp2_with fail
          refine (wakes08 _).mono ?_
          rintro e wc ⟨rfl, hbc⟩
          go_wp2
          go_ret
          exact ⟨rfl, ((HW.out.trans HBa.out).trans hbb).trans hbc⟩
        · clear hk01
          go_wp2_with fail
          refine KQ.out.mono ?_
          rintro e wk ⟨rfl, rfl⟩
          clear KQ
          have hlm : (p ++ q.map (shN p.length)).length = p.length + q.length := by rw [List.length_append, List.length_map]
          have HLM := Lib.hid hlm
          have HJL := Lib.hid (show p.length + q.length + 1 = (joinP 5 p q).length by unfold joinP; rw [List.length_append, hlm]; rfl)
          clear hlm
          go_wp2_with (at_builtin; go_loud (refine wp_append1w patT (w0 := w4) 23 35 (.agg #[.int .i64 0, .int .i64 0, .int .i64 0, .int .i64 0, .string ByteArray.empty]) 48 rfl _ _ rfl Try.underlying23 infoPN rfl (Ge w4.heap.size) (.slice AQ (p.length + q.length) cQ) (p ++ q.map (shN p.length)) ⟨5, (p.length : Int) - 1, (p.length : Int) + (q.length : Int) - 1, 0, ⟨#[]⟩⟩ [.int .i64 5, .int .i64 ((p.length : Int) - 1), .int .i64 ((p.length : Int) + (q.length : Int) - 1), .int .i64 0, .string ⟨#[]⟩] _ (by simp) rfl rfl HO.out rfl HBW.out (by rw [HLM.out]; unfold maxLen; omega) (by rw [HLM.out]; omega) ?_); go_loud (rintro v2 w6 ho6 hb6 _ _; obtain ⟨A6, c6, hv6⟩ := ho6.form; rw [List.length_append, HLM.out] at hv6; subst hv6; obtain ⟨A7, c7, e7, r7⟩ := ho6.rdAll; have HR6 := Lib.hid (And.intro e7 r7); clear e7 r7; have HB6 := Lib.hid hb6; clear ho6 hb6))
          obtain ⟨e7, r7⟩ := HR6.out
          injection e7 with z1 z2 z3
          clear z2
          subst z1 z3
          have HRX := Lib.hid (show Rd patT w6 All A6 c6 (joinP 5 p q) from r7)
          clear r7 HR6
          refine (normP_c w6 w6 A6 c6 _ _ 4 _ _ (Bel.refl _) HRX.out HJL.out EJ2.out).mono ?_
          rintro e w7 ⟨Au, cu, rfl, hru, hb7⟩
          have HU := Lib.hid hru
          have HB7 := Lib.hid (HB6.out.trans hb7)
          clear hru hb7
          have Q := union_c _ _ As At cs1 ct1 s t w7 (HS.out.to HB7.out) (HT.out.to HB7.out) _ _ rfl rfl (by omega) (fun u hu => by rcases List.mem_append.1 hu with h | h; exact Nat.le_trans (SP.out u h) (by decide); exact Nat.le_trans (TP.out u h) (by decide))
          have HQ := Lib.hid Q
          clear Q
          go_wp2_with fail
          refine HQ.out.mono ?_
          rintro e w8 ⟨v, rfl, r, hb8⟩
          obtain ⟨Aw, cw, rfl, hrw⟩ := PSem.rd (t := 46) r
          have HWN := Lib.hid hrw.all
          have HU8 := Lib.hid (HU.out.to hb8)
          have HB8 := Lib.hid (HB7.out.trans hb8)
          clear HQ r hrw hb8
          have Q := semCatN_c _ _ As At cs1 ct1 s t w8 (HS.out.to HB8.out) (HT.out.to HB8.out) _ _ rfl rfl (by omega) (by omega) (fun u hu v hv => by have h1 := SP.out u hu; have h2 := TP.out v hv; omega)
          rw [E3.out] at Q
          have HQ := Lib.hid Q
          clear Q
          go_wp2_with fail
          refine HQ.out.mono ?_
          rintro e w9 ⟨v, rfl, r, hb9⟩
          obtain ⟨Ac, cc, rfl, hrc⟩ := PSem.rd (t := 46) r
          have HCN := Lib.hid hrc.all
          have HU9 := Lib.hid (HU8.out.to hb9)
          have HB9 := Lib.hid (HB8.out.trans hb9)
          clear HQ r hrc hb9
          have Q := sameSem_c _ _ Au Ac cu cc (cs) (cs) w9 HU9.out HCN.out _ _ rfl rfl
          rw [decide_eq_true (show cs = cs from rfl)] at Q
          have HQ := Lib.hid Q
          clear Q
          go_wp2_with fail
          refine HQ.out.mono ?_
          rintro e wa ⟨rfl, hba⟩
          have Q := semRight_c _ Au cu (cs) wa (HU9.out.to hba) _ rfl
          rw [CR.out] at Q
          have HQ2 := Lib.hid Q
          have HBa := Lib.hid (HB9.out.trans hba)
          clear Q HQ hba
          go_wp2_with fail
          refine HQ2.out.mono ?_
          rintro e wb ⟨rfl, hbb⟩
          go_wp2_with fail
          refine (wakes08 _).mono ?_
          rintro e wc ⟨rfl, hbc⟩
          go_wp2
          go_ret
          exact ⟨rfl, ((HW.out.trans HBa.out).trans hbb).trans hbc⟩
end Go.Proofs.Ytfkopkjioohgoaa
namespace Go.Proofs.Ytfkopkjioohgoaa.rowNormParts
open Go.ChangeShapes Go.WideShapes Go.ChangeAt Go.RowKit Go.Cb
open Go.ChangeMaps (open_string shut_string)
theorem own : ownKnob Try.prog.godebug = none := by kernel_rfl
theorem laidOut : laidOutB Try.prog = true := by kernel_rfl
set_option maxRecDepth 100000 in
theorem lifted (os : Os) (started : os.Started) (H : Type) (enc : TypeId × Value → H) :
    ReturnsInHanded {} Try.checked os 3 .any (Rows.normPartsSpec.pre6 enc Try.prog Try.f3 Rows.normPartsRow.domain false) (Rows.normPartsSpec.post enc Try.prog Try.f3 false true false false) := by
  refine returnsInHanded_of_change_sized (C := Try.checked) own started (by kernel_rfl) Try.func3
    (ChangeSpec.witness6 (enc := enc) (C := Try.checked) false ⟨#[], #[.slice none 0 0, .slice none 0 0, .int .i64 0], []⟩ 8 (by kernel_rfl) (by kernel_rfl) (by kernel_rfl) (by kernel_rfl)) ?_
  intro W base args ds gs before hval0 hW hcnd hsz0 _
  have hsz : (DataW.weightsEach Try.prog (Try.f3.params.toList ++ Rows.normPartsSpec.plain.varTypes Try.prog) (ds ++ gs)).all (· ≤ reachBytes) = true := hsz0
  have hval : ∀ (j : Nat) t v, Try.f3.params[j]? = some t → args[j]? = some v → Value.okWide Try.prog W .any base t v := hval0
  have hW' := hW
  obtain ⟨p, q, hA0, hV, rfl, hfz, hnd⟩ := hW
  have hA : DataW.TrodAll enc Try.prog W 0 (fun _ => true) true Try.f3.params.toList args.toList ds p := hA0
  rw [Try.params3] at hA hval hsz
  obtain ⟨v0, vs0, d0, ds0, p0, q0, hargs, rfl, rfl, h0, r0⟩ := trodAll_cons hA
  obtain ⟨v1, vs1, d1, ds1, p1, q1, rfl, rfl, rfl, h1, r1⟩ := trodAll_cons r0
  obtain ⟨v2, vs2, d2, ds2, p2, q2, rfl, rfl, rfl, h2, r2⟩ := trodAll_cons r1
  obtain ⟨rfl, rfl, rfl⟩ := trodAll_nil r2
  obtain rfl : args = #[v0, v1, v2] := by cases args; simp_all
  obtain ⟨rfl, rfl⟩ := trodVars_none hV
  obtain ⟨a0, len0, cap0, rfl⟩ := okWide_slice Try.underlying22 (hval 0 22 v0 rfl rfl)
  have k0 := h0
  have lt0 : ∀ x ∈ p0, x.block < W.heap.size := by obtain ⟨m, hm⟩ := k0; exact DataW.trod_lt m _ _ _ hm
  obtain ⟨l0, rfl, R0, wf0, sz0⟩ := open_rd hsz (j := 0) (t := 22) rfl rfl Try.underlying22 Try.underlying3 (by kernel_rfl) (by kernel_rfl) h0
  obtain ⟨a1, len1, cap1, rfl⟩ := okWide_slice Try.underlying22 (hval 1 22 v1 rfl rfl)
  have k1 := h1
  have lt1 : ∀ x ∈ p1, x.block < W.heap.size := by obtain ⟨m, hm⟩ := k1; exact DataW.trod_lt m _ _ _ hm
  obtain ⟨l1, rfl, R1, wf1, sz1⟩ := open_rd hsz (j := 1) (t := 22) rfl rfl Try.underlying22 Try.underlying3 (by kernel_rfl) (by kernel_rfl) h1
  obtain ⟨a2, rfl, rfl, rfl, w2⟩ := open_int Try.underlying3 (hval 2 3 v2 rfl rfl) h2
  clear hA0 hval0 hsz0 hsz
  refine (NormParts_walk W a0 cap0 l0 R0 (fun x hx => inI64_wf (wf0 x hx)) sz0 a1 cap1 l1 R1 (fun x hx => inI64_wf (wf1 x hx)) sz1 a2 (inI64_wf w2)).mono fun e W' ⟨he, bel⟩ => ?_
  subst he
  exact ⟨_, rfl, _, _, _, [], _, [], hW', trodAll_mk1 (shut_bool Try.underlying4 _), (trodAll_cons_mk (Below.trod laidOut (by kernel_rfl) (of_decide_eq_true (by kernel_rfl)) k0 bel.out lt0) (trodAll_cons_mk (Below.trod laidOut (by kernel_rfl) (of_decide_eq_true (by kernel_rfl)) k1 bel.out lt1) (trodAll_cons_mk (shut_int Try.underlying3 w2) trodAll_mk0))), rfl, bel.out.frame _, fun h => by cases h⟩
theorem over : Rows.normPartsRow.holds Try.pinned (OpenSpec.ofChange Rows.normPartsSpec) :=
  OpenClaim.holds_of_wide 3 Try.f3 rfl rfl rfl rfl rfl rfl rfl ⟨rfl, rfl, rfl, rfl, rfl⟩ rfl rfl rfl rfl rfl (by kernel_rfl) Try.func3 (by kernel_rfl)
    (of_decide_eq_true (by kernel_rfl)) (by unfold Func.isWrapper; first | (rw [if_pos (by decide +kernel)]; kernel_rfl) | (rw [if_neg (by decide +kernel)]; exact ⟨rfl, rfl⟩))
    (fun os started H enc _ => lifted os started H enc)
end Go.Proofs.Ytfkopkjioohgoaa.rowNormParts
namespace Go.Proofs.Ytfkopkjioohgoaa
theorem NormParts_holds : Rows.NormPartsSaid := rowNormParts.over
#print axioms NormParts_holds
end Go.Proofs.Ytfkopkjioohgoaa
