/-
  Walks of package token: many.
-/
import Derived.Test.YtgaanohloocokaaDoorTokC
namespace Go.Proofs.YtgaanohloocokaaDoor
open Go.RowKit

set_option maxRecDepth 100000 in
set_option maxHeartbeats 4000000 in
theorem t_many_dig (g : Nat) (s : ByteArray) (o : Nat) (l c : Int) (k : Int) (w : World) (h : Cut w g s o l c) (hk : 0 ≤ k) (ho : o + k ≤ s.size) (hs : s.size ≤ 140737488351232) :
    Calls Tryd.prog 38 #[.pointer (some ⟨g, 0, none⟩), .int .i64 k, .func (.func 40) #[] #[]] w fun e w' => e = .returned (.int .i64 ((many isDig s (o + k.toNat) : Int) - o)) ∧ ∃ n, w.drewN n = w' := by
  obtain ⟨k, rfl⟩ := Int.eq_ofNat_of_zero_le hk
  rw [Int.toNat_natCast]
  have hok : o + k ≤ s.size := by omega
  obtain ⟨X, hX⟩ : ∃ X, s.extract o s.size = X := ⟨_, rfl⟩
  have hXs : X.size = s.size - o := by rw [← hX]; exact size_ext (Nat.le_refl _)
  obtain ⟨K, hK⟩ : ∃ K, many isDig X k = K := ⟨_, rfl⟩
  have hKe : K = many isDig s (o + k) - o := by rw [← hK, ← hX]; exact many_tail _ _ _ _ hok
  have hge := many_ge isDig s (o + k)
  have HKe := Lib.hid (show (K : Int) = (many isDig s (o + k) : Int) - o by omega)
  have hkK : k ≤ K := by omega
  have hKX : K ≤ X.size := by rw [← hK]; exact many_le _ _ (by omega)
  have HW := Lib.hid (show ∀ j, k ≤ j → j < K → isDig (B X j) = true from fun j a b => many_all isDig X k a (by rw [hK]; exact b))
  have HE := Lib.hid (show K < X.size → isDig (B X K) = false from fun h => by rw [← hK] at h ⊢; exact many_end _ _ _ h)
  have HX := Lib.hid hX
  have HXs := Lib.hid hXs
  have HC := Lib.hid h
  clear hX hXs hK hKe hge h
  have hXb : X.size ≤ 140737488351232 := by have := HXs.out; omega
  go_enter Tryd.func38, Tryd.ntmps38
  go_wp2_with fail
  refine (t_rest g s o l c _ HC.out (by omega)).mono ?_
  rintro e w1 ⟨rfl, m, rfl⟩
  rw [HX.out]
  go_wp2
  go_loop [8] (fun v => ∃ q : Nat, q ≤ K ∧ k ≤ q ∧ v = .int .i64 q) (fun v => X.size - (intOf v).toNat)
  case atStart => exact ⟨k, hkK, Nat.le_refl _, rfl⟩
  case round =>
    obtain ⟨q, hq, hkq, rfl⟩ := hrel
    by_cases hqK : q < K
    · have hqX : q < X.size := by omega
      have HB := B_eq X q hqX
      have hx := HW.out q hkq hqK
      go_wp2_with (go_at_call 40; refine (t_digit _ _ (by omega)).mono ?_; rintro e w' ⟨rfl, rfl⟩)
      go_round
      case rel => exact ⟨q + 1, by omega, by omega, by go_num⟩
      case measure => simp [intOf]; omega
    · obtain rfl : K = q := by omega
      by_cases hqX : K < X.size
      · have HB := B_eq X K hqX
        have hx := HE.out hqX
        go_wp2_with (go_at_call 40; refine (t_digit _ _ (by omega)).mono ?_; rintro e w' ⟨rfl, rfl⟩)
        go_ret
        exact ⟨ret_int HKe.out, _, rfl⟩
      · go_wp2_with (go_at_call 40; refine (t_digit _ _ (by omega)).mono ?_; rintro e w' ⟨rfl, rfl⟩)
        go_ret
        exact ⟨ret_int HKe.out, _, rfl⟩

set_option maxRecDepth 100000 in
set_option maxHeartbeats 4000000 in
theorem t_many_word (g : Nat) (s : ByteArray) (o : Nat) (l c : Int) (k : Int) (w : World) (h : Cut w g s o l c) (hk : 0 ≤ k) (ho : o + k ≤ s.size) (hs : s.size ≤ 140737488351232) :
    Calls Tryd.prog 38 #[.pointer (some ⟨g, 0, none⟩), .int .i64 k, .func (.func 39) #[] #[]] w fun e w' => e = .returned (.int .i64 ((many isWord s (o + k.toNat) : Int) - o)) ∧ ∃ n, w.drewN n = w' := by
  obtain ⟨k, rfl⟩ := Int.eq_ofNat_of_zero_le hk
  rw [Int.toNat_natCast]
  have hok : o + k ≤ s.size := by omega
  obtain ⟨X, hX⟩ : ∃ X, s.extract o s.size = X := ⟨_, rfl⟩
  have hXs : X.size = s.size - o := by rw [← hX]; exact size_ext (Nat.le_refl _)
  obtain ⟨K, hK⟩ : ∃ K, many isWord X k = K := ⟨_, rfl⟩
  have hKe : K = many isWord s (o + k) - o := by rw [← hK, ← hX]; exact many_tail _ _ _ _ hok
  have hge := many_ge isWord s (o + k)
  have HKe := Lib.hid (show (K : Int) = (many isWord s (o + k) : Int) - o by omega)
  have hkK : k ≤ K := by omega
  have hKX : K ≤ X.size := by rw [← hK]; exact many_le _ _ (by omega)
  have HW := Lib.hid (show ∀ j, k ≤ j → j < K → isWord (B X j) = true from fun j a b => many_all isWord X k a (by rw [hK]; exact b))
  have HE := Lib.hid (show K < X.size → isWord (B X K) = false from fun h => by rw [← hK] at h ⊢; exact many_end _ _ _ h)
  have HX := Lib.hid hX
  have HXs := Lib.hid hXs
  have HC := Lib.hid h
  clear hX hXs hK hKe hge h
  have hXb : X.size ≤ 140737488351232 := by have := HXs.out; omega
  go_enter Tryd.func38, Tryd.ntmps38
  go_wp2_with fail
  refine (t_rest g s o l c _ HC.out (by omega)).mono ?_
  rintro e w1 ⟨rfl, m, rfl⟩
  rw [HX.out]
  go_wp2
  go_loop [8] (fun v => ∃ q : Nat, q ≤ K ∧ k ≤ q ∧ v = .int .i64 q) (fun v => X.size - (intOf v).toNat)
  case atStart => exact ⟨k, hkK, Nat.le_refl _, rfl⟩
  case round =>
    obtain ⟨q, hq, hkq, rfl⟩ := hrel
    by_cases hqK : q < K
    · have hqX : q < X.size := by omega
      have HB := B_eq X q hqX
      have hx := HW.out q hkq hqK
      go_wp2_with (go_at_call 39; refine (t_word _ _ (by omega)).mono ?_; rintro e w' ⟨rfl, rfl⟩)
      go_round
      case rel => exact ⟨q + 1, by omega, by omega, by go_num⟩
      case measure => simp [intOf]; omega
    · obtain rfl : K = q := by omega
      by_cases hqX : K < X.size
      · have HB := B_eq X K hqX
        have hx := HE.out hqX
        go_wp2_with (go_at_call 39; refine (t_word _ _ (by omega)).mono ?_; rintro e w' ⟨rfl, rfl⟩)
        go_ret
        exact ⟨ret_int HKe.out, _, rfl⟩
      · go_wp2_with (go_at_call 39; refine (t_word _ _ (by omega)).mono ?_; rintro e w' ⟨rfl, rfl⟩)
        go_ret
        exact ⟨ret_int HKe.out, _, rfl⟩

end Go.Proofs.YtgaanohloocokaaDoor
