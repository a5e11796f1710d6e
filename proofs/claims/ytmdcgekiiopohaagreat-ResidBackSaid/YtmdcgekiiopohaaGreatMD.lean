/- Walks: a word without noughts; words alike; the words of a set, sorted. -/
import Derived.Test.YtmdcgekiiopohaaGreatMC
import Derived.Test.YtmdcgekiiopohaaGreatMA
import Derived.Lib.SliceRun
import Derived.Shelf.SlSortCmp.Whole1
import Derived.Shelf.SlGeneric
import Derived.Ground.SlsfProg
import Derived.Shelf.SlSortCmp.NoneTotal
import Derived.Laws.ResultCell
set_option linter.unusedVariables false
set_option linter.unusedSimpArgs false
namespace Go.Proofs.YtmdcgekiiopohaaGreat
open Go.RowKit Go.Cb
set_option maxHeartbeats 2000000 in
theorem equalB_c (S S' : Nat → Prop) (A B : Option Addr) (ca cb : Nat) (a b : List Int) (w : World) (ha : Rd intT w S A ca a) (hb : Rd intT w S' B cb b) (n m : Nat) (hn : n = a.length) (hm : m = b.length) :
    Calls Tryz.prog 80 #[.slice A n ca, .slice B m cb] w fun e w' => e = .returned (.bool (decide (a = b))) ∧ Dr w w' := by
  subst hn hm
  have la := ha.lenMax
  have lb := hb.lenMax
  by_cases hl : a.length = b.length
  · have hlb : (a.length == b.length) = true := by simpa using hl
    have hlc : ((a.length : Int) != (b.length : Int)) = false := by simp; omega
    have Hl := Lib.hid hl
    clear hl
    go_enter Tryz.func80, Tryz.ntmps80
    go_wp2
    go_loopw [13] (fun v wr => ∃ k : Nat, k ≤ a.length ∧ v = .int .i64 k ∧ Hid (∀ i, i < k → a.getD i 0 = b.getD i 0) ∧ Dr w wr) (fun v _ => a.length - (intOf v).toNat)
    case atStart => exact ⟨0, Nat.zero_le _, rfl, fun i hi => absurd hi (by omega), Dr.refl _⟩
    case round =>
      obtain ⟨k, hk, rfl, hp, hbl⟩ := hrel
      by_cases hlt : k < a.length
      · have hltb : k < b.length := by rw [← Hl.out]; exact hlt
        obtain ⟨ad, rfl, hca⟩ := (ha.to hbl.bel).int hlt
        obtain ⟨bd, rfl, hcb⟩ := (hb.to hbl.bel).int hltb
        cases he : (a[k] == b[k]) with
        | true =>
          have Hs := Lib.hid (agree_snoc hlt hltb hp (beq_iff_eq.1 he))
          have he2 : (a[k] != b[k]) = false := by rw [bne, he]; rfl
          go_wp2
          go_quiet (fail)
          go_wp2
          go_roundw
          case rel => exact ⟨k + 1, by omega, by go_num, Hs.out, hbl.drewN _⟩
          case measure => simp [intOf]; omega
        | false =>
          have Hs := Lib.hid (show decide (a = b) = false from decide_eq_false (fun e => by subst e; simp at he))
          have he2 : (a[k] != b[k]) = true := by rw [bne, he]; rfl
          go_wp2
          go_quiet (fail)
          go_wp2
          go_ret
          exact ⟨by rw [Hs.out]; rfl, hbl.drewN _⟩
      · have Hs := Lib.hid (show decide (a = b) = true from decide_eq_true (list_ext Hl.out (fun i hi => hp i (by omega))))
        go_wp2
        go_ret
        exact ⟨by rw [Hs.out]; rfl, hbl⟩
  · have hlb : (a.length == b.length) = false := by simpa using hl
    have hlc : ((a.length : Int) != (b.length : Int)) = true := by simp; omega
    have Hs := Lib.hid (show decide (a = b) = false from decide_eq_false (fun e => hl (by rw [e])))
    clear hl
    go_enter Tryz.func80, Tryz.ntmps80
    go_wp2
    go_ret
    exact ⟨by rw [Hs.out]; rfl, Dr.refl _⟩
end Go.Proofs.YtmdcgekiiopohaaGreat

/- Walks: slices.CompactFunc over words. -/
namespace Go.Cb
open Go.RowKit
theorem ownsRow_pre {w : World} {base : Nat} {e : TypeId} {size g n cap : Nat} {xs : List Value} (h : w.ownsRow base e size (.slice (some ⟨g, 0, none⟩) n cap) n xs) {i : Nat} (hi : i ≤ n) :
    w.ownsRow base e size (.slice (some ⟨g, 0, none⟩) i cap) i (xs.take (i * size)) := by
  obtain ⟨hl, h2⟩ := h
  rcases h2 with ⟨h2, _⟩ | ⟨g', cap', cur, he, hb, hg, hn, hm, hs, ht⟩
  · simp at h2
  · injection he with he1 _ he2
    injection he1 with he1
    injection he1 with he1
    subst he1 he2
    have hle : i * size ≤ n * size := Nat.mul_le_mul_right _ hi
    refine ⟨by rw [List.length_take]; omega, .inr ⟨g, cap, cur, rfl, hb, hg, by omega, hm, hs, ?_⟩⟩
    rw [← ht, List.take_take, Nat.min_eq_left hle]
/-- A store into a row of one-cell elements. -/
theorem Own.set1 {α : Type} {d : Ty α} (hd : d.sz = 1) {e : TypeId} {w : World} {base g n cap : Nat} {S : Nat → Prop} {xs : List α} (h : Own d e w base S (.slice (some ⟨g, 0, none⟩) n cap) xs) (hn : n = xs.length) {i : Nat} (hi : i < n) {x : α} {u : Value} (hu : d.rd w (fun k => S k ∧ k ≠ g) x [u]) :
    Own d e (w.setCell ⟨g, i, none⟩ u) base S (.slice (some ⟨g, 0, none⟩) n cap) (xs.set i x) := by
  subst hn
  obtain ⟨inner, ho, hr⟩ := h
  rw [hd] at ho hr
  obtain ⟨h2, h3⟩ := World.ownsRow.stored ho i u
  have hil : inner.length = xs.length := by have := ho.1; omega
  have hob : (Value.slice (some ⟨g, 0, none⟩) xs.length cap).ownBlock = some g := rfl
  have keep : ∀ y cs, d.rd w (fun k => S k ∧ some k ≠ (Value.slice (some ⟨g, 0, none⟩) xs.length cap).ownBlock) y cs → d.rd (w.setCell ⟨g, i, none⟩ u) (fun k => S k ∧ some k ≠ (Value.slice (some ⟨g, 0, none⟩) xs.length cap).ownBlock) y cs := fun y cs hy =>
    d.step (fun k hk => by
      have hne : k ≠ g := fun e => hk.2 (by rw [e]; rfl)
      exact Below.heap_setCell w ⟨g, i, none⟩ u k hne) hy
  refine ⟨inner.set i u, by rw [hd, List.length_set]; exact h2, fun j y hj => ?_⟩
  rw [hd]
  by_cases e1 : j = i
  · subst e1
    rw [List.getElem?_set_self (by omega)] at hj
    injection hj with hj
    subst hj
    have : ((inner.set j u).drop (j * 1)).take 1 = [u] := by
      rw [Nat.mul_one, List.drop_eq_getElem_cons (by rw [List.length_set]; omega), List.getElem_set_self]; rfl
    rw [this]
    exact keep _ _ (d.mono (fun k hk => ⟨hk.1, fun e => hk.2 (by rw [hob] at e; injection e)⟩) hu)
  · rw [List.getElem?_set_ne (fun h => e1 h.symm)] at hj
    have hjl := (List.getElem?_eq_some_iff.1 hj).1
    have h4 := hr j y hj
    have : ((inner.set i u).drop (j * 1)).take 1 = (inner.drop (j * 1)).take 1 := by
      rw [Nat.mul_one, List.drop_eq_getElem_cons (by rw [List.length_set]; omega), List.drop_eq_getElem_cons (show j < inner.length by omega), List.getElem_set_ne (fun h => e1 h.symm)]
      rfl
    rw [this]
    exact keep _ _ h4
theorem Own.prefix_ {α : Type} {d : Ty α} {e : TypeId} {w : World} {base g n cap : Nat} {S : Nat → Prop} {xs : List α} (h : Own d e w base S (.slice (some ⟨g, 0, none⟩) n cap) xs) (hn : n = xs.length) {i : Nat} (hi : i ≤ n) :
    Own d e w base S (.slice (some ⟨g, 0, none⟩) i cap) (xs.take i) := by
  subst hn
  obtain ⟨inner, ho, hr⟩ := h
  have hil : inner.length = xs.length * d.sz := ho.1
  refine ⟨inner.take (i * d.sz), by rw [List.length_take, Nat.min_eq_left hi]; exact ownsRow_pre ho hi, fun j x hj => ?_⟩
  have hj2 : j < i := by have := (List.getElem?_eq_some_iff.1 hj).1; rw [List.length_take] at this; omega
  rw [List.getElem?_take, if_pos hj2] at hj
  have h1 := hr j x hj
  have hle : j * d.sz + d.sz ≤ i * d.sz := by rw [← Nat.succ_mul]; exact Nat.mul_le_mul_right _ hj2
  rw [List.drop_take, List.take_take, Nat.min_eq_left (by omega)]
  exact h1
theorem dr_grown {w w' : World} {row : Option Nat} (h : Dr w w') : w.grownBy w' row := by
  obtain ⟨q, rfl⟩ := h
  exact ⟨rfl, rfl, rfl, Nat.le_refl _, fun _ _ _ => rfl⟩
theorem grown_drewN {w W : World} {row : Option Nat} (h : w.grownBy W row) (q : Nat) : w.grownBy (W.drewN q) row := ⟨h.os, h.tape, h.output, h.size, h.block⟩
theorem grown_trans {w W W2 : World} {row : Option Nat} (h : w.grownBy W row) (k : W.grownBy W2 row) : w.grownBy W2 row :=
  ⟨k.os.trans h.os, k.tape.trans h.tape, k.output.trans h.output, Nat.le_trans h.size k.size, fun q hq hn => (k.block q (Nat.lt_of_lt_of_le hq h.size) hn).trans (h.block q hq hn)⟩
theorem grown_set {w W : World} {g : Nat} (h : w.grownBy W (some g)) (i : Nat) (u : Value) : w.grownBy (W.setCell ⟨g, i, none⟩ u) (some g) :=
  ⟨h.os, h.tape, h.output, by have := h.size; simpa [World.setCell] using this, fun q hq hn => (Below.heap_setCell W ⟨g, i, none⟩ u q (fun e => hn (by rw [e]))).trans (h.block q hq hn)⟩
theorem set_take {α : Type} {ys : List α} {k : Nat} (hk : k < ys.length) (u : α) : (ys.set k u).take (k + 1) = ys.take k ++ [u] := by
  rw [List.take_add_one, List.getElem?_set_self hk, List.take_set_of_le (Nat.le_refl _)]; rfl
theorem setL_take : ∀ (cs xs : List Value) (o : Nat), (setL xs o cs).take o = xs.take o
  | [], _, _ => rfl
  | c :: cs, xs, o => by
    rw [setL]
    have h := setL_take cs (xs.set o c) (o + 1)
    have h2 : ((setL (xs.set o c) (o + 1) cs).take (o + 1)).take o = ((xs.set o c).take (o + 1)).take o := by rw [h]
    rw [List.take_take, List.take_take, Nat.min_eq_left (by omega)] at h2
    rw [h2, List.take_set_of_le (Nat.le_refl _)]
theorem Own.cleared {α : Type} {d : Ty α} (hd : d.sz = 1) {e : TypeId} {w : World} {base g n cap : Nat} {S : Nat → Prop} {ys : List α} (h : Own d e w base S (.slice (some ⟨g, 0, none⟩) n cap) ys) (hn : n = ys.length) {k : Nat} (hk : k ≤ n) (cs : List Value) :
    Own d e (w.setCells g k cs) base S (.slice (some ⟨g, 0, none⟩) k cap) (ys.take k) ∧ w.grownBy (w.setCells g k cs) (some g) := by
  subst hn
  obtain ⟨inner, ho, hr⟩ := h
  rw [hd] at ho hr
  obtain ⟨r1, g1, _⟩ := ownsRow_setCells cs k w inner ho
  have r2 := ownsRow_prefix r1 hk
  rw [Nat.mul_one, setL_take] at r2
  refine ⟨⟨inner.take k, by rw [hd, List.length_take, Nat.min_eq_left hk]; exact r2, fun j x hj => ?_⟩, g1⟩
  rw [hd]
  have hj2 : j < k := by have := (List.getElem?_eq_some_iff.1 hj).1; rw [List.length_take] at this; omega
  rw [List.getElem?_take, if_pos hj2] at hj
  have h1 := hr j x hj
  rw [Nat.mul_one] at h1 ⊢
  rw [List.drop_take, List.take_take, Nat.min_eq_left (by omega)]
  refine d.mono (fun q hq => hq) (d.rd_step h1 (fun q hq hlt => g1.block q hlt hq.2))
end Go.Cb
namespace Go.Proofs.YtmdcgekiiopohaaGreat
open Go.RowKit Go.Cb
end Go.Proofs.YtmdcgekiiopohaaGreat

/- slices.SortFunc over words: the library's contract at a row of the call's own. -/
namespace Go.Cb
open Go.RowKit Go.Sort Go.Proofs
theorem sortW_heap {α : Type} [Inhabited α] (enc : α → Value) (w : World) (g off m : Nat) (dk : Array α) (os : Array Obj) {k : Nat} (hk : k < w.heap.size) (hne : k ≠ g) : (sortWorld enc w g off m dk os).heap[k]? = w.heap[k]? := by
  show ((putRow enc (Sort.ahead w m) g off dk).heap ++ os)[k]? = _
  rw [Array.getElem?_append_left (by rw [Go.Sort.size_putRow]; exact hk)]
  show ((Sort.ahead w m).heap.modify g _)[k]? = _
  rw [Array.getElem?_modify, if_neg (Ne.symm hne)]
  rfl
theorem sortW_row {α : Type} [Inhabited α] (enc : α → Value) (w : World) (g m : Nat) (dk : Array α) (os : Array Obj) {cur : Array Value} {e : TypeId} (hg : w.heap[g]? = some (.cells cur e (0, 0))) : (sortWorld enc w g 0 m dk os).heap[g]? = some (.cells (putCells enc 0 dk cur) e (0, 0)) := by
  have hk : g < w.heap.size := blk_lt hg
  show ((putRow enc (Sort.ahead w m) g 0 dk).heap ++ os)[g]? = _
  rw [Array.getElem?_append_left (by rw [Go.Sort.size_putRow]; exact hk)]
  show ((Sort.ahead w m).heap.modify g _)[g]? = _
  rw [Array.getElem?_modify, if_pos rfl]
  show (w.heap[g]?).map _ = _
  rw [hg]
  rfl
theorem putC_take {α : Type} [Inhabited α] (enc : α → Value) (cur : Array Value) (d : Array α) (h : d.size ≤ cur.size) : (putCells enc 0 d cur).toList.take d.size = d.toList.map enc := by
  apply List.ext_getElem?
  intro i
  rw [List.getElem?_take]
  by_cases hi : i < d.size
  · rw [if_pos hi, Array.getElem?_toList, List.getElem?_map, Array.getElem?_toList, Array.getElem?_eq_getElem hi]
    unfold putCells
    rw [Array.getElem?_mapIdx, Array.getElem?_eq_getElem (by omega)]
    simp [hi, getElem!_pos]
  · rw [if_neg hi, List.getElem?_map, Array.getElem?_toList, Array.getElem?_eq_none (by omega)]; rfl
end Go.Cb
namespace Go.Proofs
open Go.Shelf Go.RowKit Go.Lib Go.Sort
end Go.Proofs
namespace Go.Proofs.YtmdcgekiiopohaaGreat
end Go.Proofs.YtmdcgekiiopohaaGreat

/- Walks: lin.Of. -/
namespace Go.Cb
theorem nzB_snoc {ps : List (List Int)} {k : Nat} {p : List Int} (h : ps[k]? = some p) : nzB (ps.take (k + 1)) = if (normB p).isEmpty = true then nzB (ps.take k) else nzB (ps.take k) ++ [normB p] := by
  unfold nzB
  rw [List.take_add_one, h]
  simp only [Option.toList_some, List.map_append, List.map_cons, List.map_nil, List.filter_append]
  by_cases e : (normB p).isEmpty = true
  · rw [if_pos e]; simp [e]
  · rw [if_neg e]; simp [e]
theorem own_snoc {α : Type} {d : Ty α} {e : TypeId} {w : World} {base : Nat} {S : Nat → Prop} {v : Value} {q : List α} {x : α} (h : Own d e w base S v (q ++ [x])) : ∃ A c, v = .slice A (q.length + 1) c := by
  obtain ⟨A, c, hv⟩ := h.form
  exact ⟨A, c, by rw [hv, List.length_append]; rfl⟩
theorem nzB_length (ps : List (List Int)) : (nzB ps).length ≤ ps.length := by
  unfold nzB
  exact Nat.le_trans (List.length_filter_le _ _) (by rw [List.length_map]; exact Nat.le_refl _)
end Go.Cb
namespace Go.Proofs.YtmdcgekiiopohaaGreat
open Go.RowKit Go.Cb Go.Proofs
end Go.Proofs.YtmdcgekiiopohaaGreat

/- Walks: lin.Cat. -/
namespace Go.Cb
open Go.RowKit
/-- A linear set that was made: in blocks from b on, its words may be written to. -/
def LinRes (b : Nat) (w : World) (v : Value) (l : Lin) : Prop := ∃ A0 c0 A1 c1, v = .agg #[.slice A0 l.1.length c0, .slice A1 l.2.length c1] ∧ RdW w (Ge b) A0 c0 l.1 ∧ Rd wbT w (Ge b) A1 c1 l.2
theorem LinRes.to {b : Nat} {w w' : World} {v : Value} {l : Lin} (h : LinRes b w v l) (hb : Bel w w') : LinRes b w' v l := by
  obtain ⟨A0, c0, A1, c1, e, r0, r1⟩ := h
  exact ⟨A0, c0, A1, c1, e, r0.to hb, r1.to hb⟩
theorem LinRes.lower {b b' : Nat} {w : World} {v : Value} {l : Lin} (h : LinRes b w v l) (hb : b' ≤ b) : LinRes b' w v l := by
  obtain ⟨A0, c0, A1, c1, e, r0, r1⟩ := h
  exact ⟨A0, c0, A1, c1, e, r0.mono (fun k hk => by unfold Ge at *; omega), r1.mono (fun k hk => by unfold Ge at *; omega)⟩
theorem LinRes.none_ (b : Nat) (w : World) : LinRes b w (.agg #[.slice none 0 0, .slice none 0 0]) ([], []) :=
  ⟨none, 0, none, 0, rfl, RdW.nil _ _ _ _ (by decide), Rd.nil _ _ _ _ _ (by decide)⟩
theorem Rd.pair {α : Type} {d : Ty α} {W : World} {S : Nat → Prop} {A B : Option Addr} {ca cb : Nat} {xs ys : List α} (hx : Rd d W S A ca xs) (hy : Rd d W S B cb ys) (e : TypeId) :
    Rd (sl d) (W.alloc (.cells #[.slice A xs.length ca, .slice B ys.length cb] e)) All (some ⟨W.heap.size, 0, none⟩) 2 [xs, ys] := by
  have hb : Bel W (W.alloc (.cells #[.slice A xs.length ca, .slice B ys.length cb] e)) := (Bel.refl W).alloc _
  have hc := heap_alloc_new W (.cells #[.slice A xs.length ca, .slice B ys.length cb] e)
  refine ⟨by simp, by decide, fun j x hj => ?_⟩
  rcases j with _ | _ | j
  · obtain rfl : xs = x := by simpa using hj
    refine ⟨_, [.slice A xs.length ca], rfl, trivial, ⟨A, ca, rfl, (hx.to hb).all⟩, fun i u hu => ?_⟩
    rcases i with _ | i
    · rw [add_plain, cellAt hc]; exact hu
    · simp at hu
  · obtain rfl : ys = x := by simpa using hj
    refine ⟨_, [.slice B ys.length cb], rfl, trivial, ⟨B, cb, rfl, (hy.to hb).all⟩, fun i u hu => ?_⟩
    rcases i with _ | i
    · rw [add_plain, cellAt hc]; exact hu
    · simp at hu
  · simp at hj
end Go.Cb
namespace Go.Proofs.YtmdcgekiiopohaaGreat
open Go.RowKit Go.Cb
end Go.Proofs.YtmdcgekiiopohaaGreat
