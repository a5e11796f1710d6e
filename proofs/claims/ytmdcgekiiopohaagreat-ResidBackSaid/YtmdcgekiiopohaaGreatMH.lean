/- The library: a table's steps. -/
import Derived.Test.YtmdcgekiiopohaaGreatMA
import Derived.Test.YtmdcgekiiopohaaGreatMG
set_option linter.unusedVariables false
set_option linter.unusedSimpArgs false
set_option linter.all false
namespace Go.Cb
open Go.RowKit
section
variable {κ β : Type} {eK : κ → Value} {eV : β → Value}
theorem cells_set1 {w : World} {T : TypeId} {g : Nat} {v : Value} (h : w.heap[g]? = some (.cells #[v] T (0, 0))) (v2 : Value) : (w.setCell ⟨g, 0, none⟩ v2).heap[g]? = some (.cells #[v2] T (0, 0)) := by
  simp [World.setCell, Array.getElem?_modify, h]
theorem Tab.store {T e : TypeId} {w W w2 : World} {base g : Nat} {v v2 : Value} {xs ys : List (κ × β)} (h : Tab eK eV T e w base g v xs) (hw : Bel w W) (g2 : W.grownBy w2 v.ownBlock) (r2 : RowP eK eV e w2 base v2 ys) (f2 : ∀ q, v2.ownBlock = some q → v.ownBlock = some q ∨ W.heap.size ≤ q) :
    w2.heap[g]? = some (.cells #[v] T (0, 0)) ∧ Tab eK eV T e (w2.setCell ⟨g, 0, none⟩ v2) base g v2 ys ∧ Step g v v2 w (w2.setCell ⟨g, 0, none⟩ v2) := by
  have hW := h.to hw
  have hbx : w2.heap[g]? = some (.cells #[v] T (0, 0)) := (g2.block g hW.lt (fun e => h.ne e.symm)).trans hW.box
  have hne : v2.ownBlock ≠ some g := fun e => by
    rcases f2 g e with e | e
    · exact h.ne e
    · have := hW.lt; omega
  have hu := (Upd.refl g w2).set (p := ⟨g, 0, none⟩) rfl v2
  refine ⟨hbx, ⟨cells_set1 hbx v2, h.low, r2.step (fun k hk => hu.block k (fun e => hne (e ▸ hk))), hne⟩, ⟨?_, ?_, ?_, ?_, ?_, ?_⟩⟩
  · exact hu.os.trans (g2.os.trans hw.out.os)
  · exact hu.tape.trans (g2.tape.trans hw.out.tape)
  · exact hu.output.trans (g2.output.trans hw.out.output)
  · have := hw.size; have := g2.size; have := hu.size; omega
  · intro k hk hkg hkv
    exact (hu.block k hkg).trans ((g2.block k (Nat.lt_of_lt_of_le hk hw.size) (fun e => hkv e.symm)).trans (hw.block hk))
  · intro q hq
    rcases f2 q hq with e | e
    · exact .inl e
    · exact .inr (Nat.le_trans hw.size e)
theorem Tab.stored {T e : TypeId} {w W : World} {base g g1 n c : Nat} {xs : List (κ × β)} (h : Tab eK eV T e w base g (.slice (some ⟨g1, 0, none⟩) n c) xs) (hw : Bel w W) (hn : n = xs.length) {p : Nat} {x : κ × β} (hx : xs[p]? = some x) (u : β) :
    Tab eK eV T e (W.setCell ⟨g1, p * 2 + 1, none⟩ (eV u)) base g (.slice (some ⟨g1, 0, none⟩) n c) (xs.set p (x.1, u)) ∧ Step g (.slice (some ⟨g1, 0, none⟩) n c) (.slice (some ⟨g1, 0, none⟩) n c) w (W.setCell ⟨g1, p * 2 + 1, none⟩ (eV u)) := by
  have hW := h.to hw
  have hu := (Upd.refl g1 W).set (p := ⟨g1, p * 2 + 1, none⟩) rfl (eV u)
  have hne : g ≠ g1 := fun e => h.ne (by rw [e]; rfl)
  refine ⟨⟨(hu.block g hne).trans hW.box, h.low, hW.row.set hn hx u, h.ne⟩, ⟨hu.os.trans hw.out.os, hu.tape.trans hw.out.tape, hu.output.trans hw.out.output, by have := hw.size; have := hu.size; omega, ?_, fun q hq => .inl hq⟩⟩
  intro k hk hkg hkv
  exact (hu.block k (fun e => hkv (by rw [e]; rfl))).trans (hw.block hk)
end
section
variable {P : Program} {ops : Array Oper} {rest : List Oper} {o : Oper} {a : Act} {Q : Exit → Act → World → Prop}
/-- make([]T, 0, n), T of one cell. Ahead of it: 'at_make'. -/
theorem wp_make0 {α : Type} {enc : α → Value} (h1 : ∀ x, (enc x).oneCell' = true) {w0 W : World} (t e : TypeId) (z : Value) (bytes : Nat) (hgd : o.guard = none) (l c : Operand)
    (ho : o.op = .makeSlice t l c) (ht : P.underlying t = some (.slice e)) (hinfo : (P.info? e).map (fun i => (i.zero, i.size, i.bytes)) = some (some z, 1, bytes))
    (n : Nat) (C : Int) (hl : a.eval l = .int .i64 0) (hc : a.eval c = .int .i64 C) (hC : C = (n : Int)) (HB : Bel w0 W) (hb : bytes * n ≤ 281474976710656) (hn : n ≤ maxLen)
    (h : ∀ w1, Own (scalar enc h1) e w1 w0.heap.size All (.slice (some ⟨W.heap.size, 0, none⟩) 0 n) [] → Bel w0 w1 → wpList P ops Q rest (a.put o.dst (.slice (some ⟨W.heap.size, 0, none⟩) 0 n)) w1) :
    wpList P ops Q (o :: rest) a W := by
  obtain ⟨i0, hi, hzz⟩ := Option.map_eq_some_iff.1 hinfo
  simp only [Prod.mk.injEq] at hzz
  obtain ⟨hz0, hz1, hz2⟩ := hzz
  subst hC
  obtain ⟨w', hrun, h2, h3⟩ := run_make_own (P := P) W w0.heap.size t e i0 z 1 ht hi hz0 hz1 .i64 .i64 n (by rw [hz2]; exact hb) hn HB.size
  refine wpList_plain hgd fun K hK => ?_
  unfold Oper.wp execOp
  simp only [ho, hl, hc, Sem.run_bind, hrun, Sem.run_pure, Result.andThen_ok]
  exact hK _ _ (h _ (Own.ofRow h2) (HB.grown h3 (by intro k hk; cases hk)))
/-- wp_append1, the variadic's block being given by its number. -/
theorem wp_append1b {α : Type} (d : Ty α) {w0 W : World} (t e : TypeId) (z : Value) (bytes : Nat) (hgd : o.guard = none) (s x : Operand)
    (ho : o.op = .call { callee := .builtin .append, args := #[s, x], argTypes := #[t, t] })
    (ht : P.underlying t = some (.slice e)) (hinfo : (P.info? e).map (fun i => (i.zero, i.size, i.bytes)) = some (some z, d.sz, bytes)) (hz : z.cells.size = d.sz)
    (S : Nat → Prop) (v : Value) (xs : List α) (y : α) (cs : List Value) (b : Nat) (hb : b = W.heap.size) (hs : a.eval s = v) (hx : a.eval x = .slice (some ⟨b, 0, none⟩) 1 1) (HO : Own d e W w0.heap.size S v xs) (HR : d.rd W (fun k => S k ∧ some k ≠ v.ownBlock) y cs)
    (HB : Bel w0 W) (hl : xs.length + 1 ≤ maxLen) (hl2 : (xs.length + 1) * bytes ≤ 140737488355328)
    (h : ∀ v1 w1, Own d e w1 w0.heap.size S v1 (xs ++ [y]) → Bel w0 w1 → W.grownBy w1 v.ownBlock → (v1.ownBlock = v.ownBlock ∨ ∃ b, v1.ownBlock = some b ∧ W.heap.size ≤ b) → wpList P ops Q rest (a.put o.dst v1) w1) :
    wpList P ops Q (o :: rest) a (W.alloc (.cells cs.toArray e)) :=
  wp_append1 d t e z bytes hgd s x ho ht hinfo hz S v xs y cs hs (by rw [← hb]; exact hx) HO HR HB hl hl2 h
end
theorem delete_list {F zs : List Value} {p m : Nat} (hF : F.length = (p + 1 + m) * 2) (hz : zs.length = 2) : (setL (setL F (p * 2) (F.drop ((p + 1) * 2))) ((p + m) * 2) zs).take ((p + m) * 2) = F.take (p * 2) ++ F.drop ((p + 1) * 2) := by
  have hd : (F.drop ((p + 1) * 2)).length = m * 2 := by rw [List.length_drop]; omega
  have ht : (F.take (p * 2)).length = p * 2 := by rw [List.length_take]; omega
  have hl : (F.take (p * 2) ++ F.drop ((p + 1) * 2)).length = (p + m) * 2 := by rw [List.length_append]; omega
  rw [setL_eq _ F _ (by omega)]
  have hl2 : (F.take (p * 2) ++ F.drop ((p + 1) * 2) ++ F.drop (p * 2 + (F.drop ((p + 1) * 2)).length)).length = (p + 1 + m) * 2 := by rw [List.length_append, hl, List.length_drop]; omega
  rw [setL_eq _ _ _ (by rw [hl2]; omega), List.append_assoc (List.take _ _) zs, List.take_append_of_le_length (by rw [List.length_take, hl2]; omega), List.take_take, Nat.min_self,
    List.take_append_of_le_length (by omega), List.take_of_length_le (by omega)]
theorem run_clear1 {P : Program} (w : World) (t e ty : TypeId) (z : Value) (zs : List Value) (ht : P.underlying t = some (.slice e)) (hv : ∀ w, (zeroValue e).run P w = .ok z w) (hzc : (Builtin.zeroCells z.cells 1).toList = zs) (h1 : ∀ v ∈ zs, v.oneCell' = true) (hzl : zs.length = 2) (b o c : Nat)
    (hc : ∀ j, j < 2 → (w.cell? ⟨b, o + j, none⟩).isSome = true) (hf : ∀ j, j < 2 → w.frozen? ⟨b, o + j, none⟩ = false) :
    (Builtin.clear_ #[t] ty #[.slice (some ⟨b, o, none⟩) 1 c]).run P w = .ok (.tuple #[]) (w.setCells b o zs) := by
  have hst := run_storeCells_cells (P := P) b o zs 0 w (by rw [hzl]; simpa using hc) (by rw [hzl]; simpa using hf) h1
  simp only [Nat.add_zero] at hst
  simp [Builtin.clear_, run_underlying ht, hv, hzc, hst]
end Go.Cb

/- Walks: patterns, right or not. -/
namespace Go.Cb
open Go.RowKit
theorem nth_cell {w : World} {ad : Addr} {n j : Nat} {v : Value} (h : w.cell? (ad.add (n + (j + 1))) = some v) : w.cell? ⟨(ad.add n).block, (ad.add n).off + (j + 1), none⟩ = some v := by
  have : (⟨(ad.add n).block, (ad.add n).off + (j + 1), none⟩ : Addr) = ad.add (n + (j + 1)) := by
    obtain ⟨b, o, sp⟩ := ad
    unfold Addr.add
    by_cases h1 : n = 0
    · subst h1; simp
    · simp [h1]; omega
  rw [this]
  exact h
theorem Rd.prow {w : World} {S : Nat → Prop} {A : Option Addr} {c : Nat} {xs : List PN} (h : Rd patT w S A c xs) {k : Nat} {x : PN} (hk : xs[k]? = some x) :
    ∃ ad, A = some ad ∧ w.cell? (ad.add (k * 5)) = some (.int .i64 x.k) ∧ w.cell? ⟨(ad.add (k * 5)).block, (ad.add (k * 5)).off + 1, none⟩ = some (.int .i64 x.a) ∧ w.cell? ⟨(ad.add (k * 5)).block, (ad.add (k * 5)).off + 2, none⟩ = some (.int .i64 x.b) ∧ w.cell? ⟨(ad.add (k * 5)).block, (ad.add (k * 5)).off + 3, none⟩ = some (.int .i64 x.n) ∧ w.cell? ⟨(ad.add (k * 5)).block, (ad.add (k * 5)).off + 4, none⟩ = some (.string x.s) := by
  obtain ⟨ad, cs, e, hS, hr, hc⟩ := h.2.2 k _ hk
  obtain rfl : cs = [.int .i64 x.k, .int .i64 x.a, .int .i64 x.b, .int .i64 x.n, .string x.s] := hr
  exact ⟨ad, e, hc 0 _ rfl, nth_cell (hc 1 _ rfl), nth_cell (hc 2 _ rfl), nth_cell (hc 3 _ rfl), nth_cell (hc 4 _ rfl)⟩
theorem stepP_pair_no {tags : Int} {i : Nat} {x : PN} {op : List Int} {st : List Bool} (hk : x.k = 4 ∨ x.k = 5) (h : op.length < 2 ∨ x.n ≠ 0 ∨ op.getD (op.length - 1) 0 ≠ x.b ∨ op.getD (op.length - 2) 0 ≠ x.a) : stepP tags i x op st = none := by
  unfold stepP; rw [if_neg (by omega), if_neg (by omega), if_pos hk, if_pos h]
theorem stepP_pair_ok {tags : Int} {i : Nat} {x : PN} {op : List Int} {st : List Bool} (hk : x.k = 4 ∨ x.k = 5) (h1 : 2 ≤ op.length) (h2 : x.n = 0) (h3 : op.getD (op.length - 1) 0 = x.b) (h4 : op.getD (op.length - 2) 0 = x.a) :
    stepP tags i x op st = some (op.take (op.length - 2) ++ [(i : Int)], st.set i (st.getD x.a.toNat false || st.getD x.b.toNat false)) := by
  unfold stepP
  rw [if_neg (by omega), if_neg (by omega), if_pos hk, if_neg (fun h => by
    rcases h with h | h | h | h
    · omega
    · exact h h2
    · exact h h3
    · exact h h4)]
theorem stepP_star_no {tags : Int} {i : Nat} {x : PN} {op : List Int} {st : List Bool} (hk : x.k = 6) (h : op.length < 1 ∨ x.n ≠ 0 ∨ x.b ≠ 0 ∨ op.getD (op.length - 1) 0 ≠ x.a ∨ st.getD x.a.toNat false = true) : stepP tags i x op st = none := by
  unfold stepP; rw [if_neg (by omega), if_neg (by omega), if_neg (by omega), if_pos hk, if_pos h]
theorem stepP_star_ok {tags : Int} {i : Nat} {x : PN} {op : List Int} {st : List Bool} (hk : x.k = 6) (h1 : 1 ≤ op.length) (h2 : x.n = 0) (h3 : x.b = 0) (h4 : op.getD (op.length - 1) 0 = x.a) (h5 : st.getD x.a.toNat false = false) :
    stepP tags i x op st = some (op.take (op.length - 1) ++ [(i : Int)], st.set i true) := by
  unfold stepP
  rw [if_neg (by omega), if_neg (by omega), if_neg (by omega), if_pos hk, if_neg (fun h => by
    rcases h with h | h | h | h | h
    · omega
    · exact h h2
    · exact h h3
    · exact h h4
    · rw [h5] at h; cases h)]
theorem own_ne_step {v v1 : Value} {g N : Nat} (h : v1.ownBlock = v.ownBlock ∨ ∃ b, v1.ownBlock = some b ∧ N ≤ b) (hv : ∀ j, v.ownBlock = some j → j ≠ g) (hg : g < N) : ∀ j, v1.ownBlock = some j → j ≠ g := by
  intro j hj
  rcases h with h | ⟨b, h, hb⟩
  · exact hv j (h.symm.trans hj)
  · rw [h] at hj; injection hj with hj; omega
theorem Own.stars {e : TypeId} {W W2 : World} {b g n c : Nat} {v : Value} {st : List Bool} (h : Own boolT e W b (fun _ => False) (.slice (some ⟨g, 0, none⟩) n c) st) (hg2 : W.grownBy W2 v.ownBlock) (hv : ∀ j, v.ownBlock = some j → j ≠ g) :
    Own boolT e W2 b (fun _ => False) (.slice (some ⟨g, 0, none⟩) n c) st :=
  h.step (fun k hk => hg2.block k (h.lt hk) (fun e => hv k e.symm (Option.some.inj hk).symm)) (fun _ hk => hk.elim)
end Go.Cb
namespace Go.Proofs.YtmdcgekiiopohaaGreat
open Go.RowKit Go.Cb Go.Sort
theorem info_bool : (Tryz.prog.info? 4).map (fun i => (i.zero, i.size, i.bytes)) = some (some (.bool false), 1, 1) := by kernel_rfl
set_option maxRecDepth 100000 in
set_option maxHeartbeats 32000000 in
theorem checkPat_c (S : Nat → Prop) (A : Option Addr) (c : Nat) (p : List PN) (tags : Int) (w : World) (h : Rd patT w S A c p) (n : Nat) (hn : n = p.length) :
    Calls Tryz.prog 31 #[.slice A n c, .int .i64 tags] w fun e w' => e = .returned (.bool (chkP p tags)) ∧ Bel w w' := by
  subst hn
  have lm := h.lenMax
  by_cases h1 : p.length < 1
  · have Hu := Lib.hid (chkP_no (tags := tags) (.inl h1))
    have d1 : decide ((p.length : Int) < 1) = true := decide_eq_true (by omega)
    go_enter Tryz.func31, Tryz.ntmps31
    go_wp2
    go_ret
    exact ⟨by rw [Hu.out]; rfl, Bel.refl _⟩
  · by_cases h2 : 24 < p.length
    · have Hu := Lib.hid (chkP_no (tags := tags) (.inr h2))
      have d1 : decide ((p.length : Int) < 1) = false := decide_eq_false (by omega)
      have d2 : decide (24 < (p.length : Int)) = true := decide_eq_true (by omega)
      go_enter Tryz.func31, Tryz.ntmps31
      go_wp2
      go_ret
      exact ⟨by rw [Hu.out]; rfl, Bel.refl _⟩
    · have Hu := Lib.hid (chkP_go (tags := tags) (p := p) (by omega) (by omega))
      have d1 : decide ((p.length : Int) < 1) = false := decide_eq_false (by omega)
      have d2 : decide (24 < (p.length : Int)) = false := decide_eq_false (by omega)
      have hp24 : p.length ≤ 24 := by omega
      go_enter Tryz.func31, Tryz.ntmps31
      go_wp2_with (at_make; refine wp_make (enc := Value.bool) (fun _ => rfl) false (w0 := w) 83 4 1 rfl _ _ rfl Tryz.underlying83 info_bool rfl p.length _ _ rfl rfl rfl rfl (Bel.refl _) (by omega) (by unfold maxLen; omega) ?_; intro w1 ho1 hb1 _ hz1)
      have hgs : w.heap.size < w1.heap.size := by omega
      go_loopw [5, 23] (fun v5 v23 wr => ∃ (i : Nat) (W : World) (AO : Option Addr) (cO : Nat) (op : List Int) (st : List Bool), W = wr ∧ i ≤ p.length ∧ v23 = .int .i64 i ∧ v5 = .slice AO op.length cO ∧ Hid (goP tags 0 p [] (List.replicate p.length false) = goP tags i (p.drop i) op st) ∧ Hid (OkP i p.length op st) ∧
          Own intT 3 W w.heap.size (fun _ => False) (.slice AO op.length cO) op ∧ Own boolT 4 W w.heap.size (fun _ => False) (.slice (some ⟨w.heap.size, 0, none⟩) p.length p.length) st ∧ Hid (∀ j, (Value.slice AO op.length cO).ownBlock = some j → j ≠ w.heap.size) ∧ Bel w W) (fun _ v23 _ => p.length - (intOf v23).toNat)
      case atStart => exact ⟨0, _, none, 0, [], List.replicate p.length false, rfl, Nat.zero_le _, rfl, rfl, rfl, (⟨by simp, by simp, by simp⟩ : OkP 0 p.length [] (List.replicate p.length false)), Own.nil _ _ _ _ _, Own.any ho1, (fun j hj => by (cases hj) : ∀ j, (Value.slice none 0 0).ownBlock = some j → j ≠ w.heap.size), hb1⟩
      case round =>
        clear ho1 hb1
        obtain ⟨i, W, AO, cO, op, st, rfl, hi, rfl, rfl, HG, HK, hO, hT, HN, hb⟩ := hrel
        by_cases hlt : i < p.length
        · obtain ⟨x, hx⟩ : ∃ x, p[i]? = some x := ⟨_, List.getElem?_eq_getElem hlt⟩
          have HX := Lib.hid hx
          obtain ⟨ad, rfl, g0, g1, g2, g3, g4⟩ := (h.to hb).prow hx
          clear hx
          obtain ⟨xk, xa, xb, xn, xs⟩ := x
          dsimp only at g0 g1 g2 g3 g4
          have hbW := hb.size
          have hal : Bel W (W.alloc (.cells #[.int .i64 xk, .int .i64 xa, .int .i64 xb, .int .i64 xn, .string xs] 75)) := (Bel.refl _).alloc _
          have hbx := heap_alloc_new W (.cells #[.int .i64 xk, .int .i64 xa, .int .i64 xb, .int .i64 xn, .string xs] 75)
          have hO1 := hO.to hal
          have hT1 := hT.to hal
          have hb1 := hb.trans hal
          have t0 : (W.alloc (.cells #[.int .i64 xk, .int .i64 xa, .int .i64 xb, .int .i64 xn, .string xs] 75)).cell? ⟨W.heap.size, 0, none⟩ = some (.int .i64 xk) := cellAt hbx 0
          have t1 : (W.alloc (.cells #[.int .i64 xk, .int .i64 xa, .int .i64 xb, .int .i64 xn, .string xs] 75)).cell? ⟨W.heap.size, 1, none⟩ = some (.int .i64 xa) := cellAt hbx 1
          have t2 : (W.alloc (.cells #[.int .i64 xk, .int .i64 xa, .int .i64 xb, .int .i64 xn, .string xs] 75)).cell? ⟨W.heap.size, 2, none⟩ = some (.int .i64 xb) := cellAt hbx 2
          have t3 : (W.alloc (.cells #[.int .i64 xk, .int .i64 xa, .int .i64 xb, .int .i64 xn, .string xs] 75)).cell? ⟨W.heap.size, 3, none⟩ = some (.int .i64 xn) := cellAt hbx 3
          have hcap : op.length ≤ cO := by
            obtain ⟨A', c', he, hr⟩ := hO.rd
            injection he with e1 e2 e3
            have h1 := hr.cap
            omega
          have hcap2 : (op.length : Int) ≤ (cO : Int) := by omega
          have hll : op.length ≤ 24 := by have := HK.out.len; omega
          have l0 : decide ((op.length : Int) < 0) = false := decide_eq_false (by omega)
          have HO1 := Lib.hid hO1
          have HT1 := Lib.hid hT1
          have hwl : w.heap.size < W.heap.size := by have := hT.lt (k := w.heap.size) rfl; omega
          clear hbx hO hT hO1 hT1
          by_cases k1 : xk = 1
          · subst k1
            by_cases ea : xa ≠ 0
            · have f : (xa != 0) = true := by simp [ea]
              have HS := Lib.hid (HG.out.trans (goP_none HX.out (by unfold stepP; simp [ea])))
              clear ea
              go_wp2
              go_ret
              exact ⟨by rw [Hu.out, HS.out]; rfl, hb1⟩
            · obtain rfl : xa = 0 := by omega
              by_cases eb : xb ≠ 0
              · have f : (xb != 0) = true := by simp [eb]
                have HS := Lib.hid (HG.out.trans (goP_none HX.out (by unfold stepP; simp [eb])))
                clear eb
                go_wp2
                go_ret
                exact ⟨by rw [Hu.out, HS.out]; rfl, hb1⟩
              · obtain rfl : xb = 0 := by omega
                by_cases en : xn ≠ 0
                · have f : (xn != 0) = true := by simp [en]
                  have HS := Lib.hid (HG.out.trans (goP_none HX.out (by unfold stepP; simp [en])))
                  clear en
                  go_wp2
                  go_ret
                  exact ⟨by rw [Hu.out, HS.out]; rfl, hb1⟩
                · obtain rfl : xn = 0 := by omega
                  have HS := Lib.hid (HG.out.trans (goP_some (s := (op ++ [(i : Int)], st)) HX.out (by rfl)))
                  have HN2 := Lib.hid HN.out
                  go_wp2
                  go_quiet (fail)
                  go_wp2_with (at_builtin; go_loud (refine wp_append1b intT (w0 := w) 22 3 (.int .i64 0) 8 rfl _ _ rfl Tryz.underlying22 info_int rfl (fun _ => False) (.slice AO op.length cO) op (i : Int) [.int .i64 i] _ (by simp) rfl rfl (HO1.out.to ((Bel.refl _).drewN _)) rfl (hb1.drewN _) (by unfold maxLen; omega) (by omega) ?_); go_loud (rintro v2 w2 ho2 hb2 hg2 hf2; have HT2 := Lib.hid (Own.stars (HT1.out.to ((Bel.refl _).drewN _)) hg2 HN2.out); have HNX := Lib.hid (own_ne_step hf2 HN2.out (by simp; omega)); obtain ⟨A2, c2, hv2⟩ := ho2.form; rw [List.length_append] at hv2; subst hv2))
                  go_roundw
                  case rel => exact ⟨i + 1, _, A2, c2, op ++ [(i : Int)], st, rfl, by omega, by go_num, by rw [List.length_append]; rfl, HS.out, HK.out.push0, by rw [show (op ++ [(i : Int)]).length = op.length + 1 by rw [List.length_append]; rfl]; exact ho2, HT2.out, by rw [show (op ++ [(i : Int)]).length = op.length + 1 by rw [List.length_append]; rfl]; exact HNX.out, hb2⟩
                  case measure => simp [intOf]; omega
          · have n1 : (xk == 1) = false := by simp [k1]
            by_cases k2 : xk = 2
            · subst k2
              by_cases ea : xa ≠ 0
              · have f : (xa != 0) = true := by simp [ea]
                have HS := Lib.hid (HG.out.trans (goP_none HX.out (by unfold stepP; simp [ea])))
                clear ea
                go_wp2
                go_ret
                exact ⟨by rw [Hu.out, HS.out]; rfl, hb1⟩
              · obtain rfl : xa = 0 := by omega
                by_cases eb : xb ≠ 0
                · have f : (xb != 0) = true := by simp [eb]
                  have HS := Lib.hid (HG.out.trans (goP_none HX.out (by unfold stepP; simp [eb])))
                  clear eb
                  go_wp2
                  go_ret
                  exact ⟨by rw [Hu.out, HS.out]; rfl, hb1⟩
                · obtain rfl : xb = 0 := by omega
                  by_cases en : xn ≠ 0
                  · have f : (xn != 0) = true := by simp [en]
                    have HS := Lib.hid (HG.out.trans (goP_none HX.out (by unfold stepP; simp [en])))
                    clear en
                    go_wp2
                    go_ret
                    exact ⟨by rw [Hu.out, HS.out]; rfl, hb1⟩
                  · obtain rfl : xn = 0 := by omega
                    have HS := Lib.hid (HG.out.trans (goP_some (s := (op ++ [(i : Int)], st)) HX.out (by rfl)))
                    have HN2 := Lib.hid HN.out
                    go_wp2
                    go_quiet (fail)
                    go_wp2_with (at_builtin; go_loud (refine wp_append1b intT (w0 := w) 22 3 (.int .i64 0) 8 rfl _ _ rfl Tryz.underlying22 info_int rfl (fun _ => False) (.slice AO op.length cO) op (i : Int) [.int .i64 i] _ (by simp) rfl rfl (HO1.out.to ((Bel.refl _).drewN _)) rfl (hb1.drewN _) (by unfold maxLen; omega) (by omega) ?_); go_loud (rintro v2 w2 ho2 hb2 hg2 hf2; have HT2 := Lib.hid (Own.stars (HT1.out.to ((Bel.refl _).drewN _)) hg2 HN2.out); have HNX := Lib.hid (own_ne_step hf2 HN2.out (by simp; omega)); obtain ⟨A2, c2, hv2⟩ := ho2.form; rw [List.length_append] at hv2; subst hv2))
                    go_roundw
                    case rel => exact ⟨i + 1, _, A2, c2, op ++ [(i : Int)], st, rfl, by omega, by go_num, by rw [List.length_append]; rfl, HS.out, HK.out.push0, by rw [show (op ++ [(i : Int)]).length = op.length + 1 by rw [List.length_append]; rfl]; exact ho2, HT2.out, by rw [show (op ++ [(i : Int)]).length = op.length + 1 by rw [List.length_append]; rfl]; exact HNX.out, hb2⟩
                    case measure => simp [intOf]; omega
            · have n2 : (xk == 2) = false := by simp [k2]
              by_cases k3 : xk = 3
              · subst k3
                by_cases e1 : xn < 0
                · have f1 : decide (xn < 0) = true := decide_eq_true e1
                  have HS := Lib.hid (HG.out.trans (goP_none HX.out (by unfold stepP; simp; omega)))
                  clear e1
                  go_wp2
                  go_ret
                  exact ⟨by rw [Hu.out, HS.out]; rfl, hb1⟩
                · have f1 : decide (xn < 0) = false := decide_eq_false e1
                  by_cases e2 : tags ≤ xn
                  · have f2 : decide (tags ≤ xn) = true := decide_eq_true e2
                    have HS := Lib.hid (HG.out.trans (goP_none HX.out (by unfold stepP; simp; omega)))
                    clear e2
                    go_wp2
                    go_ret
                    exact ⟨by rw [Hu.out, HS.out]; rfl, hb1⟩
                  · have f2 : decide (tags ≤ xn) = false := decide_eq_false e2
                    by_cases e3 : xa < 1
                    · have f3 : decide (xa < 1) = true := decide_eq_true e3
                      have HS := Lib.hid (HG.out.trans (goP_none HX.out (by unfold stepP; simp; omega)))
                      clear e3
                      go_wp2
                      go_ret
                      exact ⟨by rw [Hu.out, HS.out]; rfl, hb1⟩
                    · have f3 : decide (xa < 1) = false := decide_eq_false e3
                      by_cases e4 : 999999999 < xa
                      · have f4 : decide (999999999 < xa) = true := decide_eq_true e4
                        have HS := Lib.hid (HG.out.trans (goP_none HX.out (by unfold stepP; simp; omega)))
                        clear e4
                        go_wp2
                        go_ret
                        exact ⟨by rw [Hu.out, HS.out]; rfl, hb1⟩
                      · have f4 : decide (999999999 < xa) = false := decide_eq_false e4
                        by_cases e5 : xb ≠ 0
                        · have f5 : (xb != 0) = true := by simp [e5]
                          have HS := Lib.hid (HG.out.trans (goP_none HX.out (by unfold stepP; simp; omega)))
                          clear e5
                          go_wp2
                          go_ret
                          exact ⟨by rw [Hu.out, HS.out]; rfl, hb1⟩
                        · obtain rfl : xb = 0 := by omega
                          have HS := Lib.hid (HG.out.trans (goP_some (s := (op ++ [(i : Int)], st)) HX.out (by unfold stepP; simp; omega)))
                          have HN2 := Lib.hid HN.out
                          go_wp2
                          go_quiet (fail)
                          go_wp2_with (at_builtin; go_loud (refine wp_append1b intT (w0 := w) 22 3 (.int .i64 0) 8 rfl _ _ rfl Tryz.underlying22 info_int rfl (fun _ => False) (.slice AO op.length cO) op (i : Int) [.int .i64 i] _ (by simp) rfl rfl (HO1.out.to ((Bel.refl _).drewN _)) rfl (hb1.drewN _) (by unfold maxLen; omega) (by omega) ?_); go_loud (rintro v2 w2 ho2 hb2 hg2 hf2; have HT2 := Lib.hid (Own.stars (HT1.out.to ((Bel.refl _).drewN _)) hg2 HN2.out); have HNX := Lib.hid (own_ne_step hf2 HN2.out (by simp; omega)); obtain ⟨A2, c2, hv2⟩ := ho2.form; rw [List.length_append] at hv2; subst hv2))
                          go_roundw
                          case rel => exact ⟨i + 1, _, A2, c2, op ++ [(i : Int)], st, rfl, by omega, by go_num, by rw [List.length_append]; rfl, HS.out, HK.out.push0, by rw [show (op ++ [(i : Int)]).length = op.length + 1 by rw [List.length_append]; rfl]; exact ho2, HT2.out, by rw [show (op ++ [(i : Int)]).length = op.length + 1 by rw [List.length_append]; rfl]; exact HNX.out, hb2⟩
                          case measure => simp [intOf]; omega
              · have n3 : (xk == 3) = false := by simp [k3]
                by_cases k4 : xk = 4
                · subst k4
                  by_cases e1 : op.length < 2
                  · have f1 : decide ((op.length : Int) < 2) = true := decide_eq_true (by omega)
                    have HS := Lib.hid (HG.out.trans (goP_none HX.out (by exact stepP_pair_no (.inl rfl) (.inl e1))))
                    clear e1
                    go_wp2
                    go_ret
                    exact ⟨by rw [Hu.out, HS.out]; rfl, hb1⟩
                  · have f1 : decide ((op.length : Int) < 2) = false := decide_eq_false (by omega)
                    by_cases e2 : xn ≠ 0
                    · have f2 : (xn != 0) = true := by simp [e2]
                      have HS := Lib.hid (HG.out.trans (goP_none HX.out (by exact stepP_pair_no (.inl rfl) (.inr (.inl e2)))))
                      clear e2
                      go_wp2
                      go_ret
                      exact ⟨by rw [Hu.out, HS.out]; rfl, hb1⟩
                    · obtain rfl : xn = 0 := by omega
                      obtain ⟨go, rfl, hgo1, hgo2⟩ := HO1.out.addr (by omega)
                      obtain ⟨y1, hy1⟩ : ∃ y, op.getD (op.length - 1) 0 = y := ⟨_, rfl⟩
                      have q1 : op[op.length - 1]'(by omega) = y1 := by rw [← hy1, List.getD_eq_getElem?_getD, List.getElem?_eq_getElem (by omega)]; rfl
                      have hb_1 := HK.out.below y1 (by rw [← q1]; exact List.getElem_mem _)
                      have C1 := (HO1.out.cell (i := op.length - 1) (by omega)).1
                      rw [q1] at C1
                      have HY1 := Lib.hid hy1
                      have hw1 : IntKind.i64.wrap ((op.length : Int) - 1) = ((op.length - 1 : Nat) : Int) := by rw [IntKind.wrap_i64]; omega
                      clear hy1 q1
                      obtain ⟨y2, hy2⟩ : ∃ y, op.getD (op.length - 2) 0 = y := ⟨_, rfl⟩
                      have q2 : op[op.length - 2]'(by omega) = y2 := by rw [← hy2, List.getD_eq_getElem?_getD, List.getElem?_eq_getElem (by omega)]; rfl
                      have hb_2 := HK.out.below y2 (by rw [← q2]; exact List.getElem_mem _)
                      have C2 := (HO1.out.cell (i := op.length - 2) (by omega)).1
                      rw [q2] at C2
                      have HY2 := Lib.hid hy2
                      have hw2 : IntKind.i64.wrap ((op.length : Int) - 2) = ((op.length - 2 : Nat) : Int) := by rw [IntKind.wrap_i64]; omega
                      clear hy2 q2
                      by_cases e3 : y1 ≠ xb
                      · have f3 : (y1 != xb) = true := by simp [e3]
                        have HS := Lib.hid (HG.out.trans (goP_none HX.out (by exact stepP_pair_no (.inl rfl) (.inr (.inr (.inl (by rw [HY1.out]; exact e3)))))))
                        clear e3
                        go_wp2
                        go_quiet (fail)
                        go_wp2
                        go_ret
                        exact ⟨by rw [Hu.out, HS.out]; rfl, hb1.drewN _⟩
                      · obtain rfl : xb = y1 := by omega
                        by_cases e4 : y2 ≠ xa
                        · have f4 : (y2 != xa) = true := by simp [e4]
                          have HS := Lib.hid (HG.out.trans (goP_none HX.out (by exact stepP_pair_no (.inl rfl) (.inr (.inr (.inr (by rw [HY2.out]; exact e4)))))))
                          clear e4
                          go_wp2
                          go_quiet (fail)
                          go_wp2
                          go_ret
                          exact ⟨by rw [Hu.out, HS.out]; rfl, hb1.drewN _⟩
                        · obtain rfl : xa = y2 := by omega
                          obtain ⟨ma, hma⟩ : ∃ m : Nat, xa = m := ⟨xa.toNat, by omega⟩
                          subst hma
                          obtain ⟨mb, hmb⟩ : ∃ m : Nat, xb = m := ⟨xb.toNat, by omega⟩
                          subst hmb
                          obtain ⟨sa, hsa⟩ : ∃ s, st.getD ma false = s := ⟨_, rfl⟩
                          have pa : st[ma]'(by rw [HK.out.stars]; omega) = sa := by rw [← hsa, List.getD_eq_getElem?_getD, List.getElem?_eq_getElem (by rw [HK.out.stars]; omega)]; rfl
                          have Da := (HT1.out.cell (i := ma) (by rw [HK.out.stars]; omega)).1
                          rw [pa] at Da
                          have HSa := Lib.hid hsa
                          clear hsa pa
                          obtain ⟨sb, hsb⟩ : ∃ s, st.getD mb false = s := ⟨_, rfl⟩
                          have pb : st[mb]'(by rw [HK.out.stars]; omega) = sb := by rw [← hsb, List.getD_eq_getElem?_getD, List.getElem?_eq_getElem (by rw [HK.out.stars]; omega)]; rfl
                          have Db := (HT1.out.cell (i := mb) (by rw [HK.out.stars]; omega)).1
                          rw [pb] at Db
                          have HSb := Lib.hid hsb
                          clear hsb pb
                          have hWa : W.heap.size ≠ w.heap.size := by omega
                          cases sa with
                          | true =>
                            have HLN := Lib.hid (show (op.take (op.length - 2)).length = op.length - 2 by rw [List.length_take]; omega)
                            have HN2 := Lib.hid (show ∀ j, (Value.slice (some ⟨go, 0, none⟩) (op.length - 2) cO).ownBlock = some j → j ≠ w.heap.size from HN.out)
                            have hgne : go ≠ w.heap.size := HN.out go rfl
                            have hF := (HT1.out.cell (i := i) (by rw [HK.out.stars]; omega)).2
                            have hFc := (HT1.out.cell (i := i) (by rw [HK.out.stars]; omega)).1
                            have HOX := Lib.hid (show ∀ q : Nat, Own intT 3 (((W.alloc (.cells #[.int .i64 4, .int .i64 (ma : Int), .int .i64 (mb : Int), .int .i64 0, .string xs] 75)).drewN q).setCell ⟨w.heap.size, i, none⟩ (.bool true)) w.heap.size (fun _ => False) (.slice (some ⟨go, 0, none⟩) (op.length - 2) cO) (op.take (op.length - 2)) from fun q => ((HO1.out.to ((Bel.refl _).drewN q)).prefix_ rfl (by omega)).step (fun k hk => Below.heap_setCell _ _ _ _ (HN2.out k hk)) (fun _ hk => hk.elim))
                            have HTX := Lib.hid (show ∀ q : Nat, Own boolT 4 (((W.alloc (.cells #[.int .i64 4, .int .i64 (ma : Int), .int .i64 (mb : Int), .int .i64 0, .string xs] 75)).drewN q).setCell ⟨w.heap.size, i, none⟩ (.bool true)) w.heap.size (fun _ => False) (.slice (some ⟨w.heap.size, 0, none⟩) p.length p.length) (st.set i true) from fun q => Own.set (HT1.out.to ((Bel.refl _).drewN q)) i true)
                            have HBX := Lib.hid (show ∀ q : Nat, Bel w (((W.alloc (.cells #[.int .i64 4, .int .i64 (ma : Int), .int .i64 (mb : Int), .int .i64 0, .string xs] 75)).drewN q).setCell ⟨w.heap.size, i, none⟩ (.bool true)) from fun q => (hb1.drewN q).set (Nat.le_refl _) _)
                            have HS := Lib.hid (HG.out.trans (goP_some (s := (op.take (op.length - 2) ++ [(i : Int)], st.set i true)) HX.out (by rw [stepP_pair_ok (.inl rfl) (by omega) rfl HY1.out HY2.out]; simp only [Int.toNat_natCast]; rw [HSa.out, HSb.out]; rfl)))
                            go_wp2
                            go_quiet (fail)
                            go_wp2_with (at_builtin; go_loud (refine wp_append1b intT (w0 := w) 22 3 (.int .i64 0) 8 rfl _ _ rfl Tryz.underlying22 info_int rfl (fun _ => False) (.slice (some ⟨go, 0, none⟩) (op.length - 2) cO) (op.take (op.length - 2)) (i : Int) [.int .i64 i] _ (by simp) rfl rfl (HOX.out _) rfl (HBX.out _) (by rw [HLN.out]; unfold maxLen; omega) (by rw [HLN.out]; omega) ?_); go_loud (rintro v2 w2 ho2 hb2 hg2 hf2; have HT2 := Lib.hid (Own.stars (HTX.out _) hg2 HN2.out); have HNX := Lib.hid (own_ne_step hf2 HN2.out (by simp [World.setCell]; omega)); obtain ⟨A2, c2, hv2⟩ := ho2.form; rw [List.length_append, HLN.out] at hv2; subst hv2))
                            go_roundw
                            case rel => exact ⟨i + 1, _, A2, c2, (op.take (op.length - 2)) ++ [(i : Int)], (st.set i true), rfl, by omega, by go_num, by rw [List.length_append, HLN.out]; rfl, HS.out, HK.out.push _, by rw [show ((op.take (op.length - 2)) ++ [(i : Int)]).length = (op.length - 2) + 1 by rw [List.length_append, HLN.out]; rfl]; exact ho2, HT2.out, by rw [show ((op.take (op.length - 2)) ++ [(i : Int)]).length = (op.length - 2) + 1 by rw [List.length_append, HLN.out]; rfl]; exact HNX.out, hb2⟩
                            case measure => simp [intOf]; omega
                          | false =>
                            have HLN := Lib.hid (show (op.take (op.length - 2)).length = op.length - 2 by rw [List.length_take]; omega)
                            have HN2 := Lib.hid (show ∀ j, (Value.slice (some ⟨go, 0, none⟩) (op.length - 2) cO).ownBlock = some j → j ≠ w.heap.size from HN.out)
                            have hgne : go ≠ w.heap.size := HN.out go rfl
                            have hF := (HT1.out.cell (i := i) (by rw [HK.out.stars]; omega)).2
                            have hFc := (HT1.out.cell (i := i) (by rw [HK.out.stars]; omega)).1
                            have HOX := Lib.hid (show ∀ q : Nat, Own intT 3 (((W.alloc (.cells #[.int .i64 4, .int .i64 (ma : Int), .int .i64 (mb : Int), .int .i64 0, .string xs] 75)).drewN q).setCell ⟨w.heap.size, i, none⟩ (.bool sb)) w.heap.size (fun _ => False) (.slice (some ⟨go, 0, none⟩) (op.length - 2) cO) (op.take (op.length - 2)) from fun q => ((HO1.out.to ((Bel.refl _).drewN q)).prefix_ rfl (by omega)).step (fun k hk => Below.heap_setCell _ _ _ _ (HN2.out k hk)) (fun _ hk => hk.elim))
                            have HTX := Lib.hid (show ∀ q : Nat, Own boolT 4 (((W.alloc (.cells #[.int .i64 4, .int .i64 (ma : Int), .int .i64 (mb : Int), .int .i64 0, .string xs] 75)).drewN q).setCell ⟨w.heap.size, i, none⟩ (.bool sb)) w.heap.size (fun _ => False) (.slice (some ⟨w.heap.size, 0, none⟩) p.length p.length) (st.set i sb) from fun q => Own.set (HT1.out.to ((Bel.refl _).drewN q)) i sb)
                            have HBX := Lib.hid (show ∀ q : Nat, Bel w (((W.alloc (.cells #[.int .i64 4, .int .i64 (ma : Int), .int .i64 (mb : Int), .int .i64 0, .string xs] 75)).drewN q).setCell ⟨w.heap.size, i, none⟩ (.bool sb)) from fun q => (hb1.drewN q).set (Nat.le_refl _) _)
                            have HS := Lib.hid (HG.out.trans (goP_some (s := (op.take (op.length - 2) ++ [(i : Int)], st.set i sb)) HX.out (by rw [stepP_pair_ok (.inl rfl) (by omega) rfl HY1.out HY2.out]; simp only [Int.toNat_natCast]; rw [HSa.out, HSb.out]; rfl)))
                            go_wp2
                            go_quiet (fail)
                            go_wp2_with (at_builtin; go_loud (refine wp_append1b intT (w0 := w) 22 3 (.int .i64 0) 8 rfl _ _ rfl Tryz.underlying22 info_int rfl (fun _ => False) (.slice (some ⟨go, 0, none⟩) (op.length - 2) cO) (op.take (op.length - 2)) (i : Int) [.int .i64 i] _ (by simp) rfl rfl (HOX.out _) rfl (HBX.out _) (by rw [HLN.out]; unfold maxLen; omega) (by rw [HLN.out]; omega) ?_); go_loud (rintro v2 w2 ho2 hb2 hg2 hf2; have HT2 := Lib.hid (Own.stars (HTX.out _) hg2 HN2.out); have HNX := Lib.hid (own_ne_step hf2 HN2.out (by simp [World.setCell]; omega)); obtain ⟨A2, c2, hv2⟩ := ho2.form; rw [List.length_append, HLN.out] at hv2; subst hv2))
                            go_roundw
                            case rel => exact ⟨i + 1, _, A2, c2, (op.take (op.length - 2)) ++ [(i : Int)], (st.set i sb), rfl, by omega, by go_num, by rw [List.length_append, HLN.out]; rfl, HS.out, HK.out.push _, by rw [show ((op.take (op.length - 2)) ++ [(i : Int)]).length = (op.length - 2) + 1 by rw [List.length_append, HLN.out]; rfl]; exact ho2, HT2.out, by rw [show ((op.take (op.length - 2)) ++ [(i : Int)]).length = (op.length - 2) + 1 by rw [List.length_append, HLN.out]; rfl]; exact HNX.out, hb2⟩
                            case measure => simp [intOf]; omega
                · have n4 : (xk == 4) = false := by simp [k4]
                  by_cases k5 : xk = 5
                  · subst k5
                    by_cases e1 : op.length < 2
                    · have f1 : decide ((op.length : Int) < 2) = true := decide_eq_true (by omega)
                      have HS := Lib.hid (HG.out.trans (goP_none HX.out (by exact stepP_pair_no (.inr rfl) (.inl e1))))
                      clear e1
                      go_wp2
                      go_ret
                      exact ⟨by rw [Hu.out, HS.out]; rfl, hb1⟩
                    · have f1 : decide ((op.length : Int) < 2) = false := decide_eq_false (by omega)
                      by_cases e2 : xn ≠ 0
                      · have f2 : (xn != 0) = true := by simp [e2]
                        have HS := Lib.hid (HG.out.trans (goP_none HX.out (by exact stepP_pair_no (.inr rfl) (.inr (.inl e2)))))
                        clear e2
                        go_wp2
                        go_ret
                        exact ⟨by rw [Hu.out, HS.out]; rfl, hb1⟩
                      · obtain rfl : xn = 0 := by omega
                        obtain ⟨go, rfl, hgo1, hgo2⟩ := HO1.out.addr (by omega)
                        obtain ⟨y1, hy1⟩ : ∃ y, op.getD (op.length - 1) 0 = y := ⟨_, rfl⟩
                        have q1 : op[op.length - 1]'(by omega) = y1 := by rw [← hy1, List.getD_eq_getElem?_getD, List.getElem?_eq_getElem (by omega)]; rfl
                        have hb_1 := HK.out.below y1 (by rw [← q1]; exact List.getElem_mem _)
                        have C1 := (HO1.out.cell (i := op.length - 1) (by omega)).1
                        rw [q1] at C1
                        have HY1 := Lib.hid hy1
                        have hw1 : IntKind.i64.wrap ((op.length : Int) - 1) = ((op.length - 1 : Nat) : Int) := by rw [IntKind.wrap_i64]; omega
                        clear hy1 q1
                        obtain ⟨y2, hy2⟩ : ∃ y, op.getD (op.length - 2) 0 = y := ⟨_, rfl⟩
                        have q2 : op[op.length - 2]'(by omega) = y2 := by rw [← hy2, List.getD_eq_getElem?_getD, List.getElem?_eq_getElem (by omega)]; rfl
                        have hb_2 := HK.out.below y2 (by rw [← q2]; exact List.getElem_mem _)
                        have C2 := (HO1.out.cell (i := op.length - 2) (by omega)).1
                        rw [q2] at C2
                        have HY2 := Lib.hid hy2
                        have hw2 : IntKind.i64.wrap ((op.length : Int) - 2) = ((op.length - 2 : Nat) : Int) := by rw [IntKind.wrap_i64]; omega
                        clear hy2 q2
                        by_cases e3 : y1 ≠ xb
                        · have f3 : (y1 != xb) = true := by simp [e3]
                          have HS := Lib.hid (HG.out.trans (goP_none HX.out (by exact stepP_pair_no (.inr rfl) (.inr (.inr (.inl (by rw [HY1.out]; exact e3)))))))
                          clear e3
                          go_wp2
                          go_quiet (fail)
                          go_wp2
                          go_ret
                          exact ⟨by rw [Hu.out, HS.out]; rfl, hb1.drewN _⟩
                        · obtain rfl : xb = y1 := by omega
                          by_cases e4 : y2 ≠ xa
                          · have f4 : (y2 != xa) = true := by simp [e4]
                            have HS := Lib.hid (HG.out.trans (goP_none HX.out (by exact stepP_pair_no (.inr rfl) (.inr (.inr (.inr (by rw [HY2.out]; exact e4)))))))
                            clear e4
                            go_wp2
                            go_quiet (fail)
                            go_wp2
                            go_ret
                            exact ⟨by rw [Hu.out, HS.out]; rfl, hb1.drewN _⟩
                          · obtain rfl : xa = y2 := by omega
                            obtain ⟨ma, hma⟩ : ∃ m : Nat, xa = m := ⟨xa.toNat, by omega⟩
                            subst hma
                            obtain ⟨mb, hmb⟩ : ∃ m : Nat, xb = m := ⟨xb.toNat, by omega⟩
                            subst hmb
                            obtain ⟨sa, hsa⟩ : ∃ s, st.getD ma false = s := ⟨_, rfl⟩
                            have pa : st[ma]'(by rw [HK.out.stars]; omega) = sa := by rw [← hsa, List.getD_eq_getElem?_getD, List.getElem?_eq_getElem (by rw [HK.out.stars]; omega)]; rfl
                            have Da := (HT1.out.cell (i := ma) (by rw [HK.out.stars]; omega)).1
                            rw [pa] at Da
                            have HSa := Lib.hid hsa
                            clear hsa pa
                            obtain ⟨sb, hsb⟩ : ∃ s, st.getD mb false = s := ⟨_, rfl⟩
                            have pb : st[mb]'(by rw [HK.out.stars]; omega) = sb := by rw [← hsb, List.getD_eq_getElem?_getD, List.getElem?_eq_getElem (by rw [HK.out.stars]; omega)]; rfl
                            have Db := (HT1.out.cell (i := mb) (by rw [HK.out.stars]; omega)).1
                            rw [pb] at Db
                            have HSb := Lib.hid hsb
                            clear hsb pb
                            have hWa : W.heap.size ≠ w.heap.size := by omega
                            cases sa with
                            | true =>
                              have HLN := Lib.hid (show (op.take (op.length - 2)).length = op.length - 2 by rw [List.length_take]; omega)
                              have HN2 := Lib.hid (show ∀ j, (Value.slice (some ⟨go, 0, none⟩) (op.length - 2) cO).ownBlock = some j → j ≠ w.heap.size from HN.out)
                              have hgne : go ≠ w.heap.size := HN.out go rfl
                              have hF := (HT1.out.cell (i := i) (by rw [HK.out.stars]; omega)).2
                              have hFc := (HT1.out.cell (i := i) (by rw [HK.out.stars]; omega)).1
                              have HOX := Lib.hid (show ∀ q : Nat, Own intT 3 (((W.alloc (.cells #[.int .i64 5, .int .i64 (ma : Int), .int .i64 (mb : Int), .int .i64 0, .string xs] 75)).drewN q).setCell ⟨w.heap.size, i, none⟩ (.bool true)) w.heap.size (fun _ => False) (.slice (some ⟨go, 0, none⟩) (op.length - 2) cO) (op.take (op.length - 2)) from fun q => ((HO1.out.to ((Bel.refl _).drewN q)).prefix_ rfl (by omega)).step (fun k hk => Below.heap_setCell _ _ _ _ (HN2.out k hk)) (fun _ hk => hk.elim))
                              have HTX := Lib.hid (show ∀ q : Nat, Own boolT 4 (((W.alloc (.cells #[.int .i64 5, .int .i64 (ma : Int), .int .i64 (mb : Int), .int .i64 0, .string xs] 75)).drewN q).setCell ⟨w.heap.size, i, none⟩ (.bool true)) w.heap.size (fun _ => False) (.slice (some ⟨w.heap.size, 0, none⟩) p.length p.length) (st.set i true) from fun q => Own.set (HT1.out.to ((Bel.refl _).drewN q)) i true)
                              have HBX := Lib.hid (show ∀ q : Nat, Bel w (((W.alloc (.cells #[.int .i64 5, .int .i64 (ma : Int), .int .i64 (mb : Int), .int .i64 0, .string xs] 75)).drewN q).setCell ⟨w.heap.size, i, none⟩ (.bool true)) from fun q => (hb1.drewN q).set (Nat.le_refl _) _)
                              have HS := Lib.hid (HG.out.trans (goP_some (s := (op.take (op.length - 2) ++ [(i : Int)], st.set i true)) HX.out (by rw [stepP_pair_ok (.inr rfl) (by omega) rfl HY1.out HY2.out]; simp only [Int.toNat_natCast]; rw [HSa.out, HSb.out]; rfl)))
                              go_wp2
                              go_quiet (fail)
                              go_wp2_with (at_builtin; go_loud (refine wp_append1b intT (w0 := w) 22 3 (.int .i64 0) 8 rfl _ _ rfl Tryz.underlying22 info_int rfl (fun _ => False) (.slice (some ⟨go, 0, none⟩) (op.length - 2) cO) (op.take (op.length - 2)) (i : Int) [.int .i64 i] _ (by simp) rfl rfl (HOX.out _) rfl (HBX.out _) (by rw [HLN.out]; unfold maxLen; omega) (by rw [HLN.out]; omega) ?_); go_loud (rintro v2 w2 ho2 hb2 hg2 hf2; have HT2 := Lib.hid (Own.stars (HTX.out _) hg2 HN2.out); have HNX := Lib.hid (own_ne_step hf2 HN2.out (by simp [World.setCell]; omega)); obtain ⟨A2, c2, hv2⟩ := ho2.form; rw [List.length_append, HLN.out] at hv2; subst hv2))
                              go_roundw
                              case rel => exact ⟨i + 1, _, A2, c2, (op.take (op.length - 2)) ++ [(i : Int)], (st.set i true), rfl, by omega, by go_num, by rw [List.length_append, HLN.out]; rfl, HS.out, HK.out.push _, by rw [show ((op.take (op.length - 2)) ++ [(i : Int)]).length = (op.length - 2) + 1 by rw [List.length_append, HLN.out]; rfl]; exact ho2, HT2.out, by rw [show ((op.take (op.length - 2)) ++ [(i : Int)]).length = (op.length - 2) + 1 by rw [List.length_append, HLN.out]; rfl]; exact HNX.out, hb2⟩
                              case measure => simp [intOf]; omega
                            | false =>
                              have HLN := Lib.hid (show (op.take (op.length - 2)).length = op.length - 2 by rw [List.length_take]; omega)
                              have HN2 := Lib.hid (show ∀ j, (Value.slice (some ⟨go, 0, none⟩) (op.length - 2) cO).ownBlock = some j → j ≠ w.heap.size from HN.out)
                              have hgne : go ≠ w.heap.size := HN.out go rfl
                              have hF := (HT1.out.cell (i := i) (by rw [HK.out.stars]; omega)).2
                              have hFc := (HT1.out.cell (i := i) (by rw [HK.out.stars]; omega)).1
                              have HOX := Lib.hid (show ∀ q : Nat, Own intT 3 (((W.alloc (.cells #[.int .i64 5, .int .i64 (ma : Int), .int .i64 (mb : Int), .int .i64 0, .string xs] 75)).drewN q).setCell ⟨w.heap.size, i, none⟩ (.bool sb)) w.heap.size (fun _ => False) (.slice (some ⟨go, 0, none⟩) (op.length - 2) cO) (op.take (op.length - 2)) from fun q => ((HO1.out.to ((Bel.refl _).drewN q)).prefix_ rfl (by omega)).step (fun k hk => Below.heap_setCell _ _ _ _ (HN2.out k hk)) (fun _ hk => hk.elim))
                              have HTX := Lib.hid (show ∀ q : Nat, Own boolT 4 (((W.alloc (.cells #[.int .i64 5, .int .i64 (ma : Int), .int .i64 (mb : Int), .int .i64 0, .string xs] 75)).drewN q).setCell ⟨w.heap.size, i, none⟩ (.bool sb)) w.heap.size (fun _ => False) (.slice (some ⟨w.heap.size, 0, none⟩) p.length p.length) (st.set i sb) from fun q => Own.set (HT1.out.to ((Bel.refl _).drewN q)) i sb)
                              have HBX := Lib.hid (show ∀ q : Nat, Bel w (((W.alloc (.cells #[.int .i64 5, .int .i64 (ma : Int), .int .i64 (mb : Int), .int .i64 0, .string xs] 75)).drewN q).setCell ⟨w.heap.size, i, none⟩ (.bool sb)) from fun q => (hb1.drewN q).set (Nat.le_refl _) _)
                              have HS := Lib.hid (HG.out.trans (goP_some (s := (op.take (op.length - 2) ++ [(i : Int)], st.set i sb)) HX.out (by rw [stepP_pair_ok (.inr rfl) (by omega) rfl HY1.out HY2.out]; simp only [Int.toNat_natCast]; rw [HSa.out, HSb.out]; rfl)))
                              go_wp2
                              go_quiet (fail)
                              go_wp2_with (at_builtin; go_loud (refine wp_append1b intT (w0 := w) 22 3 (.int .i64 0) 8 rfl _ _ rfl Tryz.underlying22 info_int rfl (fun _ => False) (.slice (some ⟨go, 0, none⟩) (op.length - 2) cO) (op.take (op.length - 2)) (i : Int) [.int .i64 i] _ (by simp) rfl rfl (HOX.out _) rfl (HBX.out _) (by rw [HLN.out]; unfold maxLen; omega) (by rw [HLN.out]; omega) ?_); go_loud (rintro v2 w2 ho2 hb2 hg2 hf2; have HT2 := Lib.hid (Own.stars (HTX.out _) hg2 HN2.out); have HNX := Lib.hid (own_ne_step hf2 HN2.out (by simp [World.setCell]; omega)); obtain ⟨A2, c2, hv2⟩ := ho2.form; rw [List.length_append, HLN.out] at hv2; subst hv2))
                              go_roundw
                              case rel => exact ⟨i + 1, _, A2, c2, (op.take (op.length - 2)) ++ [(i : Int)], (st.set i sb), rfl, by omega, by go_num, by rw [List.length_append, HLN.out]; rfl, HS.out, HK.out.push _, by rw [show ((op.take (op.length - 2)) ++ [(i : Int)]).length = (op.length - 2) + 1 by rw [List.length_append, HLN.out]; rfl]; exact ho2, HT2.out, by rw [show ((op.take (op.length - 2)) ++ [(i : Int)]).length = (op.length - 2) + 1 by rw [List.length_append, HLN.out]; rfl]; exact HNX.out, hb2⟩
                              case measure => simp [intOf]; omega
                  · have n5 : (xk == 5) = false := by simp [k5]
                    by_cases k6 : xk = 6
                    · subst k6
                      by_cases e1 : op.length < 1
                      · have f1 : decide ((op.length : Int) < 1) = true := decide_eq_true (by omega)
                        have HS := Lib.hid (HG.out.trans (goP_none HX.out (by exact stepP_star_no rfl (.inl e1))))
                        clear e1
                        go_wp2
                        go_ret
                        exact ⟨by rw [Hu.out, HS.out]; rfl, hb1⟩
                      · have f1 : decide ((op.length : Int) < 1) = false := decide_eq_false (by omega)
                        by_cases e2 : xn ≠ 0
                        · have f2 : (xn != 0) = true := by simp [e2]
                          have HS := Lib.hid (HG.out.trans (goP_none HX.out (by exact stepP_star_no rfl (.inr (.inl e2)))))
                          clear e2
                          go_wp2
                          go_ret
                          exact ⟨by rw [Hu.out, HS.out]; rfl, hb1⟩
                        · obtain rfl : xn = 0 := by omega
                          by_cases e3 : xb ≠ 0
                          · have f3 : (xb != 0) = true := by simp [e3]
                            have HS := Lib.hid (HG.out.trans (goP_none HX.out (by exact stepP_star_no rfl (.inr (.inr (.inl e3))))))
                            clear e3
                            go_wp2
                            go_ret
                            exact ⟨by rw [Hu.out, HS.out]; rfl, hb1⟩
                          · obtain rfl : xb = 0 := by omega
                            obtain ⟨go, rfl, hgo1, hgo2⟩ := HO1.out.addr (by omega)
                            obtain ⟨y1, hy1⟩ : ∃ y, op.getD (op.length - 1) 0 = y := ⟨_, rfl⟩
                            have q1 : op[op.length - 1]'(by omega) = y1 := by rw [← hy1, List.getD_eq_getElem?_getD, List.getElem?_eq_getElem (by omega)]; rfl
                            have hb_1 := HK.out.below y1 (by rw [← q1]; exact List.getElem_mem _)
                            have C1 := (HO1.out.cell (i := op.length - 1) (by omega)).1
                            rw [q1] at C1
                            have HY1 := Lib.hid hy1
                            have hw1 : IntKind.i64.wrap ((op.length : Int) - 1) = ((op.length - 1 : Nat) : Int) := by rw [IntKind.wrap_i64]; omega
                            clear hy1 q1
                            by_cases e4 : y1 ≠ xa
                            · have f4 : (y1 != xa) = true := by simp [e4]
                              have HS := Lib.hid (HG.out.trans (goP_none HX.out (by exact stepP_star_no rfl (.inr (.inr (.inr (.inl (by rw [HY1.out]; exact e4))))))))
                              clear e4
                              go_wp2
                              go_quiet (fail)
                              go_wp2
                              go_ret
                              exact ⟨by rw [Hu.out, HS.out]; rfl, hb1.drewN _⟩
                            · obtain rfl : xa = y1 := by omega
                              obtain ⟨ma, hma⟩ : ∃ m : Nat, xa = m := ⟨xa.toNat, by omega⟩
                              subst hma
                              obtain ⟨sa, hsa⟩ : ∃ s, st.getD ma false = s := ⟨_, rfl⟩
                              have pa : st[ma]'(by rw [HK.out.stars]; omega) = sa := by rw [← hsa, List.getD_eq_getElem?_getD, List.getElem?_eq_getElem (by rw [HK.out.stars]; omega)]; rfl
                              have Da := (HT1.out.cell (i := ma) (by rw [HK.out.stars]; omega)).1
                              rw [pa] at Da
                              have HSa := Lib.hid hsa
                              clear hsa pa
                              cases sa with
                              | true =>
                                have HS := Lib.hid (HG.out.trans (goP_none HX.out (by exact stepP_star_no rfl (.inr (.inr (.inr (.inr (by simp only [Int.toNat_natCast]; exact HSa.out))))))))
                                go_wp2
                                go_quiet (fail)
                                go_wp2
                                go_ret
                                exact ⟨by rw [Hu.out, HS.out]; rfl, hb1.drewN _⟩
                              | false =>
                                have HLN := Lib.hid (show (op.take (op.length - 1)).length = op.length - 1 by rw [List.length_take]; omega)
                                have HN2 := Lib.hid (show ∀ j, (Value.slice (some ⟨go, 0, none⟩) (op.length - 1) cO).ownBlock = some j → j ≠ w.heap.size from HN.out)
                                have hgne : go ≠ w.heap.size := HN.out go rfl
                                have hF := (HT1.out.cell (i := i) (by rw [HK.out.stars]; omega)).2
                                have hFc := (HT1.out.cell (i := i) (by rw [HK.out.stars]; omega)).1
                                have HOX := Lib.hid (show ∀ q : Nat, Own intT 3 (((W.alloc (.cells #[.int .i64 6, .int .i64 (ma : Int), .int .i64 0, .int .i64 0, .string xs] 75)).drewN q).setCell ⟨w.heap.size, i, none⟩ (.bool true)) w.heap.size (fun _ => False) (.slice (some ⟨go, 0, none⟩) (op.length - 1) cO) (op.take (op.length - 1)) from fun q => ((HO1.out.to ((Bel.refl _).drewN q)).prefix_ rfl (by omega)).step (fun k hk => Below.heap_setCell _ _ _ _ (HN2.out k hk)) (fun _ hk => hk.elim))
                                have HTX := Lib.hid (show ∀ q : Nat, Own boolT 4 (((W.alloc (.cells #[.int .i64 6, .int .i64 (ma : Int), .int .i64 0, .int .i64 0, .string xs] 75)).drewN q).setCell ⟨w.heap.size, i, none⟩ (.bool true)) w.heap.size (fun _ => False) (.slice (some ⟨w.heap.size, 0, none⟩) p.length p.length) (st.set i true) from fun q => Own.set (HT1.out.to ((Bel.refl _).drewN q)) i true)
                                have HBX := Lib.hid (show ∀ q : Nat, Bel w (((W.alloc (.cells #[.int .i64 6, .int .i64 (ma : Int), .int .i64 0, .int .i64 0, .string xs] 75)).drewN q).setCell ⟨w.heap.size, i, none⟩ (.bool true)) from fun q => (hb1.drewN q).set (Nat.le_refl _) _)
                                have HS := Lib.hid (HG.out.trans (goP_some (s := (op.take (op.length - 1) ++ [(i : Int)], st.set i true)) HX.out (by exact stepP_star_ok rfl (by omega) rfl rfl HY1.out (by simp only [Int.toNat_natCast]; exact HSa.out))))
                                go_wp2
                                go_quiet (fail)
                                go_wp2_with (at_builtin; go_loud (refine wp_append1b intT (w0 := w) 22 3 (.int .i64 0) 8 rfl _ _ rfl Tryz.underlying22 info_int rfl (fun _ => False) (.slice (some ⟨go, 0, none⟩) (op.length - 1) cO) (op.take (op.length - 1)) (i : Int) [.int .i64 i] _ (by simp) rfl rfl (HOX.out _) rfl (HBX.out _) (by rw [HLN.out]; unfold maxLen; omega) (by rw [HLN.out]; omega) ?_); go_loud (rintro v2 w2 ho2 hb2 hg2 hf2; have HT2 := Lib.hid (Own.stars (HTX.out _) hg2 HN2.out); have HNX := Lib.hid (own_ne_step hf2 HN2.out (by simp [World.setCell]; omega)); obtain ⟨A2, c2, hv2⟩ := ho2.form; rw [List.length_append, HLN.out] at hv2; subst hv2))
                                go_roundw
                                case rel => exact ⟨i + 1, _, A2, c2, (op.take (op.length - 1)) ++ [(i : Int)], (st.set i true), rfl, by omega, by go_num, by rw [List.length_append, HLN.out]; rfl, HS.out, HK.out.push _, by rw [show ((op.take (op.length - 1)) ++ [(i : Int)]).length = (op.length - 1) + 1 by rw [List.length_append, HLN.out]; rfl]; exact ho2, HT2.out, by rw [show ((op.take (op.length - 1)) ++ [(i : Int)]).length = (op.length - 1) + 1 by rw [List.length_append, HLN.out]; rfl]; exact HNX.out, hb2⟩
                                case measure => simp [intOf]; omega
                    · have n6 : (xk == 6) = false := by simp [k6]
                      have HS := Lib.hid (HG.out.trans (goP_none HX.out (by unfold stepP; simp [k1, k2, k3, k4, k5, k6])))
                      clear k1 k2 k3 k4 k5 k6
                      go_wp2
                      go_ret
                      exact ⟨by rw [Hu.out, HS.out]; rfl, hb1⟩
        · obtain rfl : i = p.length := by omega
          have HR := Lib.hid (show goP tags 0 p [] (List.replicate p.length false) = decide (op.length = 1) by rw [HG.out, List.drop_length]; rfl)
          by_cases hop : op.length = 1
          · have d3 : ((op.length : Int) == 1) = true := by simp; omega
            have HR2 := Lib.hid (HR.out.trans (decide_eq_true hop))
            clear hop
            go_wp2
            go_ret
            exact ⟨by rw [Hu.out, HR2.out]; rfl, hb⟩
          · have d3 : ((op.length : Int) == 1) = false := by simp; omega
            have HR2 := Lib.hid (HR.out.trans (decide_eq_false hop))
            clear hop
            go_wp2
            go_ret
            exact ⟨by rw [Hu.out, HR2.out]; rfl, hb⟩
end Go.Proofs.YtmdcgekiiopohaaGreat
