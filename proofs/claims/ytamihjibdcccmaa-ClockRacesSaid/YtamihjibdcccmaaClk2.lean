/- Walks: events, and where they lie; whatever events the statements of chapter 29 take. -/
import Derived.Test.YtamihjibdcccmaaClk1
set_option linter.unusedVariables false
set_option linter.unusedSimpArgs false
set_option linter.all false
namespace Go.Cb
open Go.RowKit
def cellT : Ty (Int × Int × Bool) := two intT (two intT boolT)
/-- An event, as four cells. -/
def evT : Ty Ev := iso (two intT (two intT (two intT (sl cellT)))) (fun e => (e.a, e.k, e.n, e.cs))
def ptrT : Ty Nat := scalar (fun g => .pointer (some ⟨g, 0, none⟩)) (fun _ => rfl)
def raw29T : Ty (Int × Int × Int × List Int) := two intT (two intT (two intT (sl intT)))
theorem cellT_rd {w : World} {S : Nat → Prop} {x : Int × Int × Bool} {cs : List Value} : cellT.rd w S x cs ↔ cs = [.int .i64 x.1, .int .i64 x.2.1, .bool x.2.2] := by
  constructor
  · rintro ⟨c0, c1, rfl, h0, c2, c3, rfl, h2, h3⟩
    have e0 : c0 = [Value.int .i64 x.1] := h0
    have e2 : c2 = [Value.int .i64 x.2.1] := h2
    have e3 : c3 = [Value.bool x.2.2] := h3
    rw [e0, e2, e3]; rfl
  · rintro rfl
    exact ⟨[_], [_, _], rfl, rfl, [_], [_], rfl, rfl, rfl⟩
theorem evT_rd {w : World} {S : Nat → Prop} {x : Ev} {cs : List Value} : evT.rd w S x cs ↔ ∃ A c, cs = [.int .i64 x.a, .int .i64 x.k, .int .i64 x.n, .slice A x.cs.length c] ∧ Rd cellT w S A c x.cs := by
  constructor
  · rintro ⟨c0, c1, rfl, h0, c2, c3, rfl, h2, c4, c5, rfl, h4, A, c, e5, h5⟩
    have e0 : c0 = [Value.int .i64 x.a] := h0
    have e2 : c2 = [Value.int .i64 x.k] := h2
    have e4 : c4 = [Value.int .i64 x.n] := h4
    exact ⟨A, c, by rw [e0, e2, e4, e5]; rfl, h5⟩
  · rintro ⟨A, c, rfl, h⟩
    exact ⟨[_], [_, _, _], rfl, rfl, [_], [_, _], rfl, rfl, [_], [_], rfl, rfl, A, c, rfl, h⟩
theorem nth_cellE {w : World} {ad : Addr} {n j : Nat} {v : Value} (h : w.cell? (ad.add (n + (j + 1))) = some v) : w.cell? ⟨(ad.add n).block, (ad.add n).off + (j + 1), none⟩ = some v := by
  have : (⟨(ad.add n).block, (ad.add n).off + (j + 1), none⟩ : Addr) = ad.add (n + (j + 1)) := by
    obtain ⟨b, o, sp⟩ := ad
    unfold Addr.add
    by_cases h1 : n = 0
    · subst h1; simp
    · simp [h1]; omega
  rw [this]
  exact h
/-- An event's cells. -/
theorem Rd.ev {w : World} {S : Nat → Prop} {A : Option Addr} {c : Nat} {xs : List Ev} (h : Rd evT w S A c xs) {k : Nat} {x : Ev} (hk : xs[k]? = some x) :
    ∃ ad Ac cc, A = some ad ∧ w.cell? (ad.add (k * 4)) = some (.int .i64 x.a) ∧ w.cell? ⟨(ad.add (k * 4)).block, (ad.add (k * 4)).off + 1, none⟩ = some (.int .i64 x.k) ∧ w.cell? ⟨(ad.add (k * 4)).block, (ad.add (k * 4)).off + 2, none⟩ = some (.int .i64 x.n) ∧ w.cell? ⟨(ad.add (k * 4)).block, (ad.add (k * 4)).off + 3, none⟩ = some (.slice Ac x.cs.length cc) ∧ Rd cellT w S Ac cc x.cs := by
  obtain ⟨ad, cs, e, hS, hr, hc⟩ := h.2.2 k _ hk
  obtain ⟨Ac, cc, rfl, hcs⟩ := evT_rd.1 hr
  exact ⟨ad, Ac, cc, e, hc 0 _ rfl, nth_cellE (hc 1 _ rfl), nth_cellE (hc 2 _ rfl), nth_cellE (hc 3 _ rfl), hcs⟩
/-- A cell's three. -/
theorem Rd.cell3 {w : World} {S : Nat → Prop} {A : Option Addr} {c : Nat} {xs : List (Int × Int × Bool)} (h : Rd cellT w S A c xs) {k : Nat} {x : Int × Int × Bool} (hk : xs[k]? = some x) :
    ∃ ad, A = some ad ∧ w.cell? (ad.add (k * 3)) = some (.int .i64 x.1) ∧ w.cell? ⟨(ad.add (k * 3)).block, (ad.add (k * 3)).off + 1, none⟩ = some (.int .i64 x.2.1) ∧ w.cell? ⟨(ad.add (k * 3)).block, (ad.add (k * 3)).off + 2, none⟩ = some (.bool x.2.2) := by
  obtain ⟨ad, cs, e, hS, hr, hc⟩ := h.2.2 k _ hk
  rw [cellT_rd.1 hr] at hc
  exact ⟨ad, e, hc 0 _ rfl, nth_cellE (hc 1 _ rfl), nth_cellE (hc 2 _ rfl)⟩
/-- What the statements make of a raw event. -/
def evOf (x : Int × Int × Int × List Int) : Ev :=
  ⟨if x.1.tmod 17 = 16 then x.1 else withinI x.1 4, withinI x.2.1 5, withinI x.2.2.1 4, (x.2.2.2.take 3).map fun c => (withinI c 3, withinI (c.tdiv 3) 2, c.tmod 2 == 0)⟩
end Go.Cb
