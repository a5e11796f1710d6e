/- Plain laws: words with noughts behind them; the words of a set in any order. -/
import Derived.Test.YtghdleofbkalbaaPure10
namespace Go.Cb
theorem cutB_pad {b zs : List Int} (hb : rightB b = true) (hz : ∀ x ∈ zs, x = 0) : cutB (b ++ zs) = b := by
  have h := cutB_eq (l := b ++ zs) (k := b.length) (by rw [List.length_append]; omega) (by rw [List.drop_left]; exact hz) (by
    rcases Nat.eq_zero_or_pos b.length with h0 | h0
    · exact .inl h0
    · refine .inr ⟨h0, ?_⟩
      unfold rightB at hb
      simp only [Bool.and_eq_true] at hb
      have h3 := hb.1.2
      rw [List.getLast?_eq_getElem?, List.getElem?_eq_getElem (by omega)] at h3
      rw [List.getElem_append_left (by omega)]
      intro e
      rw [e] at h3
      simp at h3)
  rw [h, List.take_left]
theorem normB_pad {b zs : List Int} (hb : rightB b = true) (hz : ∀ x ∈ zs, x = 0) : normB (b ++ zs) = b := by
  unfold normB
  rw [cutB_pad hb hz, if_pos hb]
theorem badB_pad {b zs : List Int} (hb : rightB b = true) (hz : ∀ x ∈ zs, x = 0) : badB (b ++ zs) = false := by
  unfold badB
  rw [normB_pad hb hz]
  cases b with
  | cons x r => rfl
  | nil =>
    have : zeroB ([] ++ zs) = true := by
      unfold zeroB
      rw [List.all_eq_true]
      intro x hx
      rw [hz x (by simpa using hx)]; rfl
    rw [this]; rfl
theorem ofF_any {xps P : List (List Int)} (hg : Good xps) (h1 : ∀ q ∈ P, (∃ p ∈ xps, q = p ++ [0, 0]) ∨ q = [] ∨ q = [0]) (h2 : ∀ p ∈ xps, p ++ [0, 0] ∈ P) : ofF [] P = some xps := by
  have hz : ∀ x ∈ [(0 : Int), 0], x = 0 := fun x hx => by simp at hx; exact hx
  cases e : ofF [] P with
  | none =>
    obtain ⟨q, hq, hb⟩ := ofF_none.1 e
    rcases h1 q hq with ⟨p, hp, rfl⟩ | rfl | rfl
    · rw [badB_pad (hg.each p hp).2 hz] at hb; cases hb
    · exact absurd hb (by decide)
    · exact absurd hb (by decide)
  | some r =>
    obtain ⟨g, m⟩ := ofF_mems Good.nil e
    congr 1
    refine ext_rise g.up hg.up (fun x => ?_)
    rw [m x]
    constructor
    · rintro (h | h)
      · simp at h
      · obtain ⟨h3, h4⟩ := List.mem_filter.1 h
        obtain ⟨q, hq, rfl⟩ := List.mem_map.1 h3
        rcases h1 q hq with ⟨p, hp, rfl⟩ | rfl | rfl
        · rw [normB_pad (hg.each p hp).2 hz]; exact hp
        · exact absurd h4 (by decide)
        · exact absurd h4 (by decide)
    · intro hx
      refine .inr (List.mem_filter.2 ⟨List.mem_map.2 ⟨x ++ [0, 0], h2 x hx, normB_pad (hg.each x hx).2 hz⟩, ?_⟩)
      have := (hg.each x hx).1
      simp [this]
def padB (xps : List (List Int)) : List (List Int) := xps.map fun p => p ++ [0, 0]
theorem made_any {xb : List Int} {xps P : List (List Int)} (hb : rightB xb = true) (hg : Good xps) (h1 : ∀ q ∈ P, (∃ p ∈ xps, q = p ++ [0, 0]) ∨ q = [] ∨ q = [0]) (h2 : ∀ p ∈ xps, p ++ [0, 0] ∈ P) : ofLin (xb ++ [0]) P = ((xb, xps), true) := by
  have hz : ∀ x ∈ [(0 : Int)], x = 0 := fun x hx => by simpa using hx
  rw [ofLin_yes (badB_pad hb hz) (ofF_any hg h1 h2), normB_pad hb hz]
theorem pad_mem {xps : List (List Int)} {q : List Int} (h : q ∈ padB xps) : ∃ p ∈ xps, q = p ++ [0, 0] := by
  obtain ⟨p, hp, rfl⟩ := List.mem_map.1 h
  exact ⟨p, hp, rfl⟩
theorem turn_ok {xb : List Int} {xps : List (List Int)} (hb : rightB xb = true) (hg : Good xps) {k : Nat} {pk : List Int} (hk : (padB xps)[k]? = some pk) :
    ofLin (xb ++ [0]) ((padB xps).drop k ++ (padB xps).take k ++ [pk, [], [0]]) = ((xb, xps), true) := by
  refine made_any hb hg (fun q hq => ?_) (fun p hp => ?_)
  · rcases List.mem_append.1 hq with hq | hq
    · rcases List.mem_append.1 hq with hq | hq
      · exact .inl (pad_mem (List.mem_of_mem_drop hq))
      · exact .inl (pad_mem (List.mem_of_mem_take hq))
    · simp at hq
      rcases hq with rfl | rfl | rfl
      · exact .inl (pad_mem (List.mem_of_getElem? hk))
      · exact .inr (.inl rfl)
      · exact .inr (.inr rfl)
  · have hm : p ++ [0, 0] ∈ padB xps := List.mem_map.2 ⟨p, hp, rfl⟩
    rw [← List.take_append_drop k (padB xps)] at hm
    rcases List.mem_append.1 hm with hm | hm
    · exact List.mem_append.2 (.inl (List.mem_append.2 (.inr hm)))
    · exact List.mem_append.2 (.inl (List.mem_append.2 (.inl hm)))
theorem none_ok {xb : List Int} (hb : rightB xb = true) : ofLin (xb ++ [0]) [] = ((xb, []), true) := made_any hb Good.nil (fun q hq => by simp at hq) (fun p hp => by simp at hp)
end Go.Cb
