/- Walks of tables: the names. -/
import Derived.Test.YtcnbmpkbocnniaaTab2
import Derived.Test.YtcnbmpkbocnniaaTabLib2
namespace Go.Proofs.Ytcnbmpkbocnniaa
open Go.RowKit Go.Cb
theorem infoK_ii : (Try.prog.info? 3).map (fun i => (i.zero, i.size, i.bytes)) = some (some (.int .i64 0), 1, 8) := by kernel_rfl
set_option maxHeartbeats 4000000 in
set_option maxRecDepth 100000 in
theorem keys_ii  {w : World} {base g : Nat} {v : Value} {xs : List (Int × Int)} (h : Tab (Value.int .i64) (Value.int .i64) 93 96 w base g v xs) (hbig : xs.length * 8 ≤ 140737488355328) :
    Calls Try.prog 22 #[.pointer (some ⟨g, 0, none⟩)] w fun e w' => ∃ v', e = .returned v' ∧ Own (scalar (Value.int .i64) (fun _ => rfl)) 3 w' w.heap.size (Ge w.heap.size) v' (xs.map (·.1)) ∧ Bel w w' := by
  obtain ⟨A, c, rfl⟩ : ∃ A c, v = .slice A xs.length c := by
    rcases h.row.form with ⟨h1, h2⟩ | ⟨g', c', h1, _⟩
    · exact ⟨none, 0, by rw [h1, h2]; rfl⟩
    · exact ⟨_, _, h1⟩
  have hc0 : w.cell? ⟨g, 0, none⟩ = some (.slice A xs.length c) := cellAt h.box 0
  have hgl := h.lt
  go_enter Try.func22, Try.ntmps22
  go_wp2_with (at_make; refine wp_make0 (enc := (Value.int .i64)) (fun _ => rfl) (w0 := w) 35 3 (.int .i64 0) 8 rfl _ _ rfl Try.underlying35 infoK_ii xs.length _ rfl rfl rfl (Bel.refl _) (by omega) (by unfold maxLen; omega) ?_; intro w1 ho hb1; replace hc0 := cell_keep hc0 (hb1.block hgl))
  go_loopw [3, 19] (fun v3 v19 wr => ∃ (k : Nat) (W : World), W = wr ∧ k ≤ xs.length ∧ v19 = .int .i64 k ∧ Own (scalar (Value.int .i64) (fun _ => rfl)) 3 wr w.heap.size All v3 ((xs.take k).map (·.1)) ∧ Bel w wr) (fun _ v19 _ => xs.length - (intOf v19).toNat)
  case atStart => exact ⟨0, _, rfl, Nat.zero_le _, rfl, ho, hb1⟩
  case round =>
    clear ho hb1 hc0
    obtain ⟨k, W, rfl, hk, rfl, ho, hb⟩ := hrel
    by_cases hlt : k < xs.length
    · obtain ⟨g1, ⟨kx, x⟩, rfl, _, hx, hg, hc1, hc2⟩ := (h.to hb).row.at hlt
      dsimp only at hc1 hc2
      have Hs := Lib.hid (show (xs.take k).map (·.1) ++ [kx] = (xs.take (k + 1)).map (·.1) by rw [List.take_add_one, hx]; simp)
      have hlk : ((xs.take k).map (·.1)).length = k := by rw [List.length_map, List.length_take]; omega
      have HL := Lib.hid hlk
      clear hx hlk
      go_wp2_with (at_builtin; refine wp_append1b (scalar (Value.int .i64) (fun _ => rfl)) (w0 := w) 35 3 (.int .i64 0) 8 rfl _ _ rfl Try.underlying35 infoK_ii rfl All _ _ kx [(Value.int .i64) kx] _ (by simp) rfl rfl (ho.to ((Bel.refl W).alloc _)) rfl (hb.alloc _) (by rw [HL.out]; unfold maxLen; omega) (by rw [HL.out]; omega) ?_; rintro v2 w2 ho2 hb2 hg2 _)
      rw [Hs.out] at ho2
      go_roundw
      case rel => exact ⟨k + 1, _, rfl, by omega, by go_num, ho2, hb2⟩
      case measure => simp [intOf]; omega
    · obtain rfl : k = xs.length := by omega
      have Hs := Lib.hid (show (xs.take xs.length).map (·.1) = xs.map (·.1) by rw [List.take_length])
      go_wp2
      go_ret
      exact ⟨_, rfl, by rw [← Hs.out]; exact ho.any, hb⟩
theorem infoK_ss : (Try.prog.info? 9).map (fun i => (i.zero, i.size, i.bytes)) = some (some (.string ⟨#[]⟩), 1, 16) := by kernel_rfl
set_option maxHeartbeats 4000000 in
set_option maxRecDepth 100000 in
theorem keys_ss {VA : Option Addr} {VC : Nat} {w : World} {base g : Nat} {v : Value} {xs : List (ByteArray × Nat)} (h : Tab Value.string (fun i : Nat => Value.slice VA i VC) 80 85 w base g v xs) (hbig : xs.length * 16 ≤ 140737488355328) :
    Calls Try.prog 15 #[.pointer (some ⟨g, 0, none⟩)] w fun e w' => ∃ v', e = .returned v' ∧ Own (scalar Value.string (fun _ => rfl)) 9 w' w.heap.size (Ge w.heap.size) v' (xs.map (·.1)) ∧ Bel w w' := by
  obtain ⟨A, c, rfl⟩ : ∃ A c, v = .slice A xs.length c := by
    rcases h.row.form with ⟨h1, h2⟩ | ⟨g', c', h1, _⟩
    · exact ⟨none, 0, by rw [h1, h2]; rfl⟩
    · exact ⟨_, _, h1⟩
  have hc0 : w.cell? ⟨g, 0, none⟩ = some (.slice A xs.length c) := cellAt h.box 0
  have hgl := h.lt
  go_enter Try.func15, Try.ntmps15
  go_wp2_with (at_make; refine wp_make0 (enc := Value.string) (fun _ => rfl) (w0 := w) 22 9 (.string ⟨#[]⟩) 16 rfl _ _ rfl Try.underlying22 infoK_ss xs.length _ rfl rfl rfl (Bel.refl _) (by omega) (by unfold maxLen; omega) ?_; intro w1 ho hb1; replace hc0 := cell_keep hc0 (hb1.block hgl))
  go_loopw [3, 19] (fun v3 v19 wr => ∃ (k : Nat) (W : World), W = wr ∧ k ≤ xs.length ∧ v19 = .int .i64 k ∧ Own (scalar Value.string (fun _ => rfl)) 9 wr w.heap.size All v3 ((xs.take k).map (·.1)) ∧ Bel w wr) (fun _ v19 _ => xs.length - (intOf v19).toNat)
  case atStart => exact ⟨0, _, rfl, Nat.zero_le _, rfl, ho, hb1⟩
  case round =>
    clear ho hb1 hc0
    obtain ⟨k, W, rfl, hk, rfl, ho, hb⟩ := hrel
    by_cases hlt : k < xs.length
    · obtain ⟨g1, ⟨kx, x⟩, rfl, _, hx, hg, hc1, hc2⟩ := (h.to hb).row.at hlt
      dsimp only at hc1 hc2
      have Hs := Lib.hid (show (xs.take k).map (·.1) ++ [kx] = (xs.take (k + 1)).map (·.1) by rw [List.take_add_one, hx]; simp)
      have hlk : ((xs.take k).map (·.1)).length = k := by rw [List.length_map, List.length_take]; omega
      have HL := Lib.hid hlk
      clear hx hlk
      go_wp2_with (at_builtin; refine wp_append1b (scalar Value.string (fun _ => rfl)) (w0 := w) 22 9 (.string ⟨#[]⟩) 16 rfl _ _ rfl Try.underlying22 infoK_ss rfl All _ _ kx [Value.string kx] _ (by simp) rfl rfl (ho.to ((Bel.refl W).alloc _)) rfl (hb.alloc _) (by rw [HL.out]; unfold maxLen; omega) (by rw [HL.out]; omega) ?_; rintro v2 w2 ho2 hb2 hg2 _)
      rw [Hs.out] at ho2
      go_roundw
      case rel => exact ⟨k + 1, _, rfl, by omega, by go_num, ho2, hb2⟩
      case measure => simp [intOf]; omega
    · obtain rfl : k = xs.length := by omega
      have Hs := Lib.hid (show (xs.take xs.length).map (·.1) = xs.map (·.1) by rw [List.take_length])
      go_wp2
      go_ret
      exact ⟨_, rfl, by rw [← Hs.out]; exact ho.any, hb⟩
end Go.Proofs.Ytcnbmpkbocnniaa
