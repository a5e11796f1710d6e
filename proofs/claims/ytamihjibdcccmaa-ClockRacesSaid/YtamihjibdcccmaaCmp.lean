/- Walks: cmp.Compare of numbers and of texts. -/
import Derived.Test.YtamihjibdcccmaaCA
import Derived.Test.YtamihjibdcccmaaRows
set_option linter.unusedVariables false
set_option linter.unusedSimpArgs false
set_option linter.all false
namespace Go.Cb
def cmpS (a b : ByteArray) : Int := if Op.bytesLess a.toList b.toList then -1 else if Op.bytesLess b.toList a.toList then 1 else 0
theorem u8_eq {a b : UInt8} (h1 : ¬ a.toNat < b.toNat) (h2 : ¬ b.toNat < a.toNat) : a = b := UInt8.toNat_inj.1 (by omega)
theorem bl_cons (a b : UInt8) (x y : List UInt8) : Op.bytesLess (a :: x) (b :: y) = (decide (a.toNat < b.toNat) || (decide (a = b) && Op.bytesLess x y)) := by
  rw [Op.bytesLess]
  congr 1
theorem bl_irrefl : ∀ x : List UInt8, Op.bytesLess x x = false
  | [] => by simp [Op.bytesLess]
  | a :: x => by rw [bl_cons, bl_irrefl x]; simp
theorem bl_tri : ∀ x y : List UInt8, Op.bytesLess x y = false → Op.bytesLess y x = false → x = y
  | [], [], _, _ => rfl
  | [], _ :: _, h, _ => by simp [Op.bytesLess] at h
  | _ :: _, [], _, h => by simp [Op.bytesLess] at h
  | a :: x, b :: y, h1, h2 => by
    rw [bl_cons] at h1 h2
    simp only [Bool.or_eq_false_iff, Bool.and_eq_false_iff, decide_eq_false_iff_not] at h1 h2
    obtain rfl := u8_eq h1.1 h2.1
    have e1 := h1.2.resolve_left (fun h => h rfl)
    have e2 := h2.2.resolve_left (fun h => h rfl)
    rw [bl_tri x y e1 e2]
theorem bl_trans : ∀ x y z : List UInt8, Op.bytesLess x y = true → Op.bytesLess y z = true → Op.bytesLess x z = true
  | _, [], _, h, _ => by simp [Op.bytesLess] at h
  | _, _ :: _, [], _, h => by simp [Op.bytesLess] at h
  | [], _ :: _, _ :: _, _, _ => by simp [Op.bytesLess]
  | a :: x, b :: y, c :: z, h1, h2 => by
    rw [bl_cons] at h1 h2 ⊢
    simp only [Bool.or_eq_true, Bool.and_eq_true, decide_eq_true_eq] at h1 h2 ⊢
    rcases h1 with h1 | ⟨rfl, h1⟩
    · rcases h2 with h2 | ⟨rfl, h2⟩
      · exact .inl (by omega)
      · exact .inl h1
    · rcases h2 with h2 | ⟨rfl, h2⟩
      · exact .inl h2
      · exact .inr ⟨rfl, bl_trans x y z h1 h2⟩
theorem bytes_inj {a b : ByteArray} (h : a.toList = b.toList) : a = b := by
  have e : ∀ c : ByteArray, c.toList = c.data.toList := ByteArray.toList_eq
  rw [e, e] at h
  exact ByteArray.ext (Array.toList_inj.1 h)
theorem cmpS_neg1 {a b : ByteArray} : cmpS a b < 0 ↔ Op.bytesLess a.toList b.toList = true := by
  unfold cmpS
  split
  · simp_all
  · split <;> simp_all
theorem cmpS_pos {a b : ByteArray} : 0 < cmpS a b ↔ Op.bytesLess b.toList a.toList = true := by
  unfold cmpS
  split
  · rename_i h
    have h2 : Op.bytesLess b.toList a.toList = false := by
      cases e : Op.bytesLess b.toList a.toList with
      | false => rfl
      | true => rw [← bl_irrefl a.toList, bl_trans _ _ _ h e] at *
    simp [h2]
  · split <;> simp_all
theorem cmpS_ord : KOrd cmpS where
  zero := fun a b => by
    constructor
    · intro h
      refine bytes_inj (bl_tri _ _ ?_ ?_)
      · cases e : Op.bytesLess a.toList b.toList with
        | false => rfl
        | true => have := cmpS_neg1.2 e; omega
      · cases e : Op.bytesLess b.toList a.toList with
        | false => rfl
        | true => have := cmpS_pos.2 e; omega
    · rintro rfl
      unfold cmpS
      rw [bl_irrefl]; rfl
  neg := fun a b => by rw [cmpS_neg1, cmpS_pos]
  trans := fun a b c h1 h2 => cmpS_neg1.2 (bl_trans _ _ _ (cmpS_neg1.1 h1) (cmpS_neg1.1 h2))
end Go.Cb
namespace Go.Proofs.Ytamihjibdcccmaa
open Go.RowKit Go.Cb
theorem isNaNI_c (a : Int) (w : World) : Calls Try.prog 41 #[.int .i64 a] w fun e w' => e = .returned (.bool false) ∧ w = w' := by
  go_enter Try.func41, Try.ntmps41
  go_wp2
  go_ret
  exact ⟨by simp, rfl⟩
set_option maxHeartbeats 1000000 in
theorem cmpInt_c (a b : Int) (w : World) : Calls Try.prog 38 #[.int .i64 a, .int .i64 b] w fun e w' => e = .returned (.int .i64 (cmpI a b)) ∧ w = w' := by
  go_enter Try.func38, Try.ntmps38
  go_wp2_with (go_at_call 41; refine (isNaNI_c _ _).mono ?_; rintro e w' ⟨rfl, rfl⟩)
  all_goals (go_ret; refine ⟨?_, rfl⟩; unfold cmpI; (repeat' split) <;> first | rfl | (exfalso; omega))
end Go.Proofs.Ytamihjibdcccmaa
