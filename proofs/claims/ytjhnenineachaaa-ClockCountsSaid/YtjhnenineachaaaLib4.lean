/- The library: words that may be written to. -/
import Derived.Test.YtjhnenineachaaaLib3
set_option linter.unusedVariables false
set_option linter.unusedSimpArgs false
set_option linter.all false
namespace Go.Cb
open Go.RowKit
/-- The cells of a slice of n elements (of one cell) may be written to. -/
def Wr (w : World) (A : Option Addr) (n : Nat) : Prop := ∀ i, i < n → ∃ g, A = some ⟨g, 0, none⟩ ∧ w.frozen? ⟨g, i, none⟩ = false
theorem Wr.step' {w w' : World} {S : Nat → Prop} {A : Option Addr} {c : Nat} {xs : List Int} (h : Wr w A xs.length) (hr : Rd intT w S A c xs) (hs : ∀ k, S k → w'.heap[k]? = w.heap[k]?) : Wr w' A xs.length := by
  intro i hi
  obtain ⟨g, rfl, hf⟩ := h i hi
  obtain ⟨ad, cs, e, hS, _, _⟩ := hr.2.2 i _ (List.getElem?_eq_getElem hi)
  injection e with e
  subst e
  exact ⟨g, rfl, (World.frozen?_of_block (w := w) (hs g hS)).trans hf⟩
/-- A slice of numbers that reads as xs and may be written to. -/
structure RdW (w : World) (S : Nat → Prop) (A : Option Addr) (c : Nat) (xs : List Int) : Prop where
  rd : Rd intT w S A c xs
  wr : Wr w A xs.length
section
variable {w w' : World} {S S' : Nat → Prop} {A : Option Addr} {c : Nat} {xs : List Int}
theorem RdW.mono (h : RdW w S A c xs) (hS : ∀ k, S k → S' k) : RdW w S' A c xs := ⟨h.rd.mono hS, h.wr⟩
theorem RdW.bound (h : RdW w S A c xs) : RdW w (fun k => S k ∧ k < w.heap.size) A c xs := ⟨h.rd.bound, h.wr⟩
theorem RdW.step' (h : RdW w S A c xs) (hs : ∀ k, S k → w'.heap[k]? = w.heap[k]?) : RdW w' S A c xs := ⟨h.rd.step' hs, h.wr.step' h.rd hs⟩
theorem RdW.to (h : RdW w S A c xs) (hb : Bel w w') : RdW w' S A c xs := ((h.bound.step' (fun _ hk => hb.block hk.2))).mono (fun _ hk => hk.1)
theorem RdW.upd {g : Nat} (h : RdW w S A c xs) (hu : Upd g w w') (hg : ¬ S g) : RdW w' S A c xs := h.step' (fun k hk => hu.block k (fun e => hg (e ▸ hk)))
theorem RdW.nil (w : World) (S : Nat → Prop) (A : Option Addr) (c : Nat) (hc : c ≤ maxLen) : RdW w S A c [] := ⟨Rd.nil _ _ _ _ _ hc, fun i hi => absurd hi (by simp)⟩
end
/-- A word that may be written to. -/
def wbT : Ty (List Int) where
  sz := 1
  pos := by omega
  rd := fun w S xs cs => ∃ A c, cs = [.slice A xs.length c] ∧ RdW w S A c xs
  len := by rintro w S x cs ⟨A, c, rfl, _⟩; rfl
  one := by
    rintro w S x cs ⟨A, c, rfl, _⟩ u hu
    rw [List.mem_singleton.1 hu]; rfl
  mono := by rintro w S S' x cs hS ⟨A, c, rfl, h⟩; exact ⟨A, c, rfl, h.mono hS⟩
  bound := by rintro w S x cs ⟨A, c, rfl, h⟩; exact ⟨A, c, rfl, h.bound⟩
  step := by rintro w w' S x cs hs ⟨A, c, rfl, h⟩; exact ⟨A, c, rfl, h.step' hs⟩
def wbsT : Ty (List (List Int)) := sl wbT
def wlinT : Ty (List Int × List (List Int)) := two wbT wbsT
theorem wb_bag {w : World} {S : Nat → Prop} {x : List Int} {cs : List Value} (h : wbT.rd w S x cs) : bagT.rd w S x cs := by
  obtain ⟨A, c, e, h⟩ := h
  exact ⟨A, c, e, h.rd⟩
theorem Rd.as {α : Type} {d d' : Ty α} {w : World} {S : Nat → Prop} {A : Option Addr} {c : Nat} {xs : List α} (h : Rd d w S A c xs) (hz : d'.sz = d.sz) (hd : ∀ S x cs, d.rd w S x cs → d'.rd w S x cs) : Rd d' w S A c xs :=
  ⟨h.1, h.2.1, fun j x hj => by
    obtain ⟨ad, cs, e, hS, hr, hc⟩ := h.2.2 j x hj
    exact ⟨ad, cs, e, hS, hd _ _ _ hr, fun i u hu => by rw [hz]; exact hc i u hu⟩⟩
theorem Rd.bags {w : World} {S : Nat → Prop} {A : Option Addr} {c : Nat} {xs : List (List Int)} (h : Rd wbT w S A c xs) : Rd bagT w S A c xs := h.as rfl (fun _ _ _ => wb_bag)
theorem Own.as {α : Type} {d d' : Ty α} {e : TypeId} {w : World} {base : Nat} {S : Nat → Prop} {v : Value} {xs : List α} (h : Own d e w base S v xs) (hz : d'.sz = d.sz) (hd : ∀ S x cs, d.rd w S x cs → d'.rd w S x cs) : Own d' e w base S v xs := by
  obtain ⟨inner, ho, hr⟩ := h
  exact ⟨inner, by rw [hz]; exact ho, fun j x hj => by rw [hz]; exact hd _ _ _ (hr j x hj)⟩
theorem Own.bags {e : TypeId} {w : World} {base : Nat} {S : Nat → Prop} {v : Value} {xs : List (List Int)} (h : Own wbT e w base S v xs) : Own bagT e w base S v xs := h.as rfl (fun _ _ _ => wb_bag)
/-- A row of numbers of the call's own may be written to. -/
theorem Own.wr {e : TypeId} {w : World} {base n c : Nat} {A : Option Addr} {S : Nat → Prop} {xs : List Int} (h : Own intT e w base S (.slice A n c) xs) : Wr w A xs.length := by
  intro i hi
  obtain ⟨g, rfl, _, _⟩ := h.addr (by omega)
  exact ⟨g, rfl, (h.cell hi).2⟩
theorem Own.rdW {e : TypeId} {w : World} {base : Nat} {S : Nat → Prop} {v : Value} {xs : List Int} (h : Own intT e w base S v xs) : ∃ A c, v = .slice A xs.length c ∧ RdW w (fun k => base ≤ k ∧ k < w.heap.size) A c xs := by
  obtain ⟨A, c, rfl, hr⟩ := h.rdOne
  exact ⟨A, c, rfl, hr, h.wr⟩
theorem wlin_lin {w : World} {S : Nat → Prop} {x : List Int × List (List Int)} {cs : List Value} (h : wlinT.rd w S x cs) : linT.rd w S x cs := by
  obtain ⟨c0, c1, rfl, h0, ⟨A, c, rfl, h1⟩⟩ := h
  exact ⟨c0, _, rfl, wb_bag h0, ⟨A, c, rfl, h1.bags⟩⟩
end Go.Cb
