/-
  Walks of package token: letter, digit, rest, byteAt, take.
-/
import Derived.Test.YtgaanohloocokaaDoorBase2
import Derived.Test.YtgaanohloocokaaDoorPlain
import Derived.Test.YtgaanohloocokaaDoorShelf
import Derived.IntWalk
namespace Go.Proofs.YtgaanohloocokaaDoor
open Go.RowKit

theorem t_digit (c : Int) (w : World) (h0 : 0 ≤ c) :
    Calls Tryd.prog 40 #[.int .u8 c] w fun e w' => e = .returned (.bool (isDig c.toNat)) ∧ w = w' := by
  go_enter Tryd.func40, Tryd.ntmps40
  go_wp2
  all_goals go_ret
  all_goals exact ⟨ret_bool (by rw [Bool.eq_iff_iff]; simp [isDig]; omega), rfl⟩
theorem t_letter (c : Int) (w : World) (h0 : 0 ≤ c) :
    Calls Tryd.prog 37 #[.int .u8 c] w fun e w' => e = .returned (.bool (isLet c.toNat)) ∧ w = w' := by
  go_enter Tryd.func37, Tryd.ntmps37
  go_wp2
  all_goals go_ret
  all_goals exact ⟨ret_bool (by rw [Bool.eq_iff_iff]; simp [isLet]; omega), rfl⟩
theorem t_word (c : Int) (w : World) (h0 : 0 ≤ c) :
    Calls Tryd.prog 39 #[.int .u8 c] w fun e w' => e = .returned (.bool (isWord c.toNat)) ∧ w = w' := by
  cases hl : isLet c.toNat <;> cases hd : isDig c.toNat
  all_goals
    go_enter Tryd.func39, Tryd.ntmps39
    go_wp2_with (first | (go_at_call 40; refine (t_digit _ _ (by omega)).mono ?_; rintro e w' ⟨rfl, rfl⟩) | (go_at_call 37; refine (t_letter _ _ (by omega)).mono ?_; rintro e w' ⟨rfl, rfl⟩))
    go_ret
    exact ⟨ret_bool (by simp [isWord, hl, hd]), rfl⟩

/-- a cutter: its text, its place, line and column -/
def Cut (w : World) (g : Nat) (s : ByteArray) (o : Nat) (l c : Int) : Prop := Blk w g 55 #[.string s, .int .i64 o, .int .i64 l, .int .i64 c]

theorem t_rest (g : Nat) (s : ByteArray) (o : Nat) (l c : Int) (w : World) (h : Cut w g s o l c) (ho : o ≤ s.size) :
    Calls Tryd.prog 36 #[.pointer (some ⟨g, 0, none⟩)] w fun e w' => e = .returned (.string (s.extract o s.size)) ∧ ∃ n, w.drewN n = w' := by
  have c0 : w.cell? ⟨g, 0, none⟩ = some (.string s) := Blk.cell h 0
  have c1 : w.cell? ⟨g, 1, none⟩ = some (.int .i64 o) := Blk.cell h 1
  have ho0 : (0 : Int) ≤ o := by omega
  have ho1 : (o : Int) ≤ s.size := by omega
  go_enter Tryd.func36, Tryd.ntmps36
  go_wp2_with fail
  go_quiet (fail)
  go_wp2
  go_ret
  exact ⟨rfl, _, rfl⟩

theorem t_byteAt (g : Nat) (s : ByteArray) (o : Nat) (l c : Int) (k : Int) (w : World) (h : Cut w g s o l c) (ho : o ≤ s.size) (hs : s.size ≤ 140737488351232) (hk : 0 ≤ k) :
    Calls Tryd.prog 33 #[.pointer (some ⟨g, 0, none⟩), .int .i64 k] w fun e w' => e = .returned (.int .u8 (if o + k.toNat < s.size then (B s (o + k.toNat) : Int) else 0)) ∧ ∃ n, w.drewN n = w' := by
  obtain ⟨k, rfl⟩ := Int.eq_ofNat_of_zero_le hk
  rw [Int.toNat_natCast]
  obtain ⟨X, hX⟩ : ∃ X, s.extract o s.size = X := ⟨_, rfl⟩
  have hXs : X.size = s.size - o := by rw [← hX]; exact size_ext (Nat.le_refl _)
  have HXB := Lib.hid (show o + k < s.size → B X k = B s (o + k) from fun hj => by rw [← hX]; exact B_extract hj (Nat.le_refl _))
  have HC := Lib.hid h
  have HX := Lib.hid hX
  have HXs := Lib.hid hXs
  clear h hX hXs
  by_cases hlt : o + k < s.size
  · have hkX : k < X.size := by have := HXs.out; omega
    have HB := (B_eq X k hkX).trans (HXB.out hlt)
    rw [if_pos hlt]
    go_enter Tryd.func33, Tryd.ntmps33
    go_wp2_with (go_at_call 36; refine (t_rest g s o l c _ HC.out ho).mono ?_; rintro e w1 ⟨rfl, n, rfl⟩; rw [HX.out])
    go_ret
    exact ⟨rfl, _, rfl⟩
  · have hkX : ¬ k < X.size := by have := HXs.out; omega
    rw [if_neg hlt]
    go_enter Tryd.func33, Tryd.ntmps33
    go_wp2_with (go_at_call 36; refine (t_rest g s o l c _ HC.out ho).mono ?_; rintro e w1 ⟨rfl, n, rfl⟩; rw [HX.out])
    go_ret
    exact ⟨rfl, _, rfl⟩

end Go.Proofs.YtgaanohloocokaaDoor
