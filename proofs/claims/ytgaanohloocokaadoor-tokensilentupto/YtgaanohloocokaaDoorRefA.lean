/-
  Walks of phasorref04's small functions: letter, digit, more, size.
-/
import Derived.Test.YtgaanohloocokaaDoorBase
import Derived.Test.YtgaanohloocokaaDoorPlain
namespace Go.Proofs.YtgaanohloocokaaDoor
open Go.RowKit

theorem r_digit (c : Int) (w : World) (h0 : 0 ≤ c) :
    Calls Tryd.prog 25 #[.int .u8 c] w fun e w' => e = .returned (.bool (isDig c.toNat)) ∧ w = w' := by
  go_enter Tryd.func25, Tryd.ntmps25
  go_wp2
  all_goals go_ret
  all_goals exact ⟨ret_bool (by rw [Bool.eq_iff_iff]; simp [isDig]; omega), rfl⟩
theorem r_letter (c : Int) (w : World) (h0 : 0 ≤ c) :
    Calls Tryd.prog 24 #[.int .u8 c] w fun e w' => e = .returned (.bool (isLet c.toNat)) ∧ w = w' := by
  go_enter Tryd.func24, Tryd.ntmps24
  go_wp2
  all_goals go_ret
  all_goals exact ⟨ret_bool (by rw [Bool.eq_iff_iff]; simp [isLet]; omega), rfl⟩
theorem r_more (s : ByteArray) (i lo hi : Int) (w : World) (h0 : 0 ≤ i) (hl : 0 ≤ lo) (hh : 0 ≤ hi) (hs : s.size ≤ 140737488351232) :
    Calls Tryd.prog 52 #[.string s, .int .i64 i, .int .u8 lo, .int .u8 hi] w fun e w' => e = .returned (.bool (moreB s i.toNat lo.toNat hi.toNat)) ∧ w = w' := by
  obtain ⟨i, rfl⟩ := Int.eq_ofNat_of_zero_le h0
  obtain ⟨lo, rfl⟩ := Int.eq_ofNat_of_zero_le hl
  obtain ⟨hi, rfl⟩ := Int.eq_ofNat_of_zero_le hh
  by_cases hi : i < s.size
  · have HB := B_eq s i hi
    go_enter Tryd.func52, Tryd.ntmps52
    go_wp2
    all_goals go_ret
    all_goals exact ⟨ret_bool (by rw [Bool.eq_iff_iff]; simp [moreB, hi]; omega), rfl⟩
  · go_enter Tryd.func52, Tryd.ntmps52
    go_wp2
    all_goals go_ret
    all_goals exact ⟨ret_bool (by simp [moreB]; omega), rfl⟩
set_option maxHeartbeats 4000000 in
theorem r_size (s : ByteArray) (i : Int) (w : World) (h0 : 0 ≤ i) (hi : i < s.size) (hs : s.size ≤ 140737488351232) :
    Calls Tryd.prog 32 #[.string s, .int .i64 i] w fun e w' => e = .returned (.int .i64 (rsz s i.toNat)) ∧ w = w' := by
  obtain ⟨i, rfl⟩ := Int.eq_ofNat_of_zero_le h0
  have hi : i < s.size := by omega
  have HB := B_eq s i hi
  have hb := B_lt s i
  go_enter Tryd.func32, Tryd.ntmps32
  go_wp2_with (go_at_call 52; refine (r_more s _ _ _ _ (by omega) (by omega) (by omega) hs).mono ?_; rintro e w' ⟨rfl, rfl⟩)
  all_goals go_ret
  all_goals
    refine ⟨ret_int ?_, rfl⟩
    try simp only [Int.toNat_natCast]
    unfold rsz
    repeat (first | rfl | (rw [if_pos (by first | (simp [*]; done) | (simp [*]; omega))]; rfl) | rw [if_neg (by first | (simp [*]; done) | (simp [*]; omega) | (simp_all; done) | (simp_all; omega))])
end Go.Proofs.YtgaanohloocokaaDoor
