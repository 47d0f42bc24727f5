/-
  Walks of phasorref04.At and Name.
-/
import Derived.Test.YtgaanohloocokaaDoorRefB
import Derived.Test.YtgaanohloocokaaDoorPlain
namespace Go.Proofs.YtgaanohloocokaaDoor
open Go.RowKit

theorem r_At (s : ByteArray) (off : Int) (w : World) (hs : s.size ≤ 140737488351232) :
    Calls Tryd.prog 10 #[.string s, .int .i64 off] w fun e w' => e = .returned (spotV s (clampN s off)) ∧ Below w.heap.size w w' := by
  have hb0 := Lib.hid (Blk.new w 23 #[.int .i64 0, .int .i64 0, .int .i64 0])
  have hw0 := Lib.hid ((Below.refl w.heap.size w).alloc (Nat.le_refl _) (.cells #[.int .i64 0, .int .i64 0, .int .i64 0] 23))
  by_cases h1 : off < 0
  · have hc : clampN s off = 0 := by unfold clampN; rw [if_pos h1]
    have HC := Lib.hid hc
    clear hc
    have h2 : ¬ ((s.size : Int) < 0) := by omega
    go_enter Tryd.func10, Tryd.ntmps10
    go_wp2_with (go_at_call 23; refine (r_on s _ _ _ _ _ (by omega) (by omega) (by omega) hs (by omega) (by omega) (by omega) (by omega)).mono ?_; rintro e w1 ⟨rfl, hb1⟩; have hB := hb0.out.below hb1; have hW := hw0.out.trans (hb1.mono (by simp)); clear hb1; obtain ⟨x0, x1, x2, y0, y1, y2⟩ := hB.three; have hz := hB.lt)
    rw [HC.out]
    exact bodyPost_ret (results_c rfl _ _ w.heap.size 23 _ rfl (by simpa [P] using ((hB.set 0 _).set 1 _).set 2 _) wideSpot) rfl ⟨rfl, ((hW.setCell (Nat.le_refl _) _).setCell (Nat.le_refl _) _).setCell (Nat.le_refl _) _⟩
  · by_cases h2 : (s.size : Int) < off
    · have hc : clampN s off = s.size := by unfold clampN; rw [if_neg h1, if_pos h2]
      have HC := Lib.hid hc
      clear hc
      go_enter Tryd.func10, Tryd.ntmps10
      go_wp2_with (go_at_call 23; refine (r_on s _ _ _ _ _ (by omega) (by omega) (by omega) hs (by omega) (by omega) (by omega) (by omega)).mono ?_; rintro e w1 ⟨rfl, hb1⟩; have hB := hb0.out.below hb1; have hW := hw0.out.trans (hb1.mono (by simp)); clear hb1; obtain ⟨x0, x1, x2, y0, y1, y2⟩ := hB.three; have hz := hB.lt)
      rw [HC.out]
      exact bodyPost_ret (results_c rfl _ _ w.heap.size 23 _ rfl (by simpa [P] using ((hB.set 0 _).set 1 _).set 2 _) wideSpot) rfl ⟨rfl, ((hW.setCell (Nat.le_refl _) _).setCell (Nat.le_refl _) _).setCell (Nat.le_refl _) _⟩
    · have hc : clampN s off = off.toNat := by unfold clampN; rw [if_neg h1, if_neg h2]
      obtain ⟨off, rfl⟩ := Int.eq_ofNat_of_zero_le (a := off) (by omega)
      rw [Int.toNat_natCast] at hc
      have HC := Lib.hid hc
      clear hc
      go_enter Tryd.func10, Tryd.ntmps10
      go_wp2_with (go_at_call 23; refine (r_on s _ _ _ _ _ (by omega) (by omega) (by omega) hs (by omega) (by omega) (by omega) (by omega)).mono ?_; rintro e w1 ⟨rfl, hb1⟩; have hB := hb0.out.below hb1; have hW := hw0.out.trans (hb1.mono (by simp)); clear hb1; obtain ⟨x0, x1, x2, y0, y1, y2⟩ := hB.three; have hz := hB.lt)
      rw [HC.out]
      exact bodyPost_ret (results_c rfl _ _ w.heap.size 23 _ rfl (by simpa [P] using ((hB.set 0 _).set 1 _).set 2 _) wideSpot) rfl ⟨rfl, ((hW.setCell (Nat.le_refl _) _).setCell (Nat.le_refl _) _).setCell (Nat.le_refl _) _⟩

set_option maxHeartbeats 2000000 in
theorem r_Name (s : ByteArray) (w : World) (hs : s.size ≤ 140737488351232) :
    Calls Tryd.prog 12 #[.string s] w fun e w' => e = .returned (.bool (nameB s)) ∧ w = w' := by
  by_cases h0 : 0 < s.size
  · have HB0 := B_eq s 0 h0
    have hs0 : (0 : Int) < s.size := by omega
    have e0 : ((s.size : Int) == 0) = false := beq_eq_false_iff_ne.2 (by omega)
    by_cases h32 : s.size ≤ 32
    · cases hl : isLet (B s 0) with
      | true =>
        obtain ⟨K, hK⟩ : ∃ K, many isWord s 0 = K := ⟨_, rfl⟩
        have hKs : K ≤ s.size := by rw [← hK]; exact many_le _ _ (by omega)
        have hN : nameB s = decide (K = s.size) := by unfold nameB; rw [hK, hl, decide_eq_true h0, decide_eq_true h32]; rfl
        rw [hN]
        have HW := Lib.hid (show ∀ j, j < K → isWord (B s j) = true from fun j b => many_all isWord s 0 (Nat.zero_le _) (by rw [hK]; exact b))
        have HE := Lib.hid (show K < s.size → isWord (B s K) = false from fun h => by rw [← hK] at h ⊢; exact many_end _ _ _ h)
        clear hK hN
        go_enter Tryd.func12, Tryd.ntmps12
        go_wp2_with (go_at_call 24; refine (r_letter _ _ (by omega)).mono ?_; rintro e w' ⟨rfl, rfl⟩)
        go_loop [3] (fun v => ∃ m : Nat, m ≤ K ∧ v = .int .i64 m) (fun v => s.size - (intOf v).toNat)
        case atStart => exact ⟨0, by omega, rfl⟩
        case round =>
          obtain ⟨m, hm, rfl⟩ := hrel
          by_cases hms : m < s.size
          · have HB := B_eq s m hms
            by_cases hmK : m < K
            · have hx := HW.out m hmK
              unfold isWord at hx
              cases hx1 : isLet (B s m) with
              | true =>
                clear hx
                go_wp2_with (first | (go_at_call 25; refine (r_digit _ _ (by omega)).mono ?_; rintro e w' ⟨rfl, rfl⟩) | (go_at_call 24; refine (r_letter _ _ (by omega)).mono ?_; rintro e w' ⟨rfl, rfl⟩))
                go_round
                case rel => exact ⟨m + 1, by omega, by go_num⟩
                case measure => simp [intOf]; omega
              | false =>
                have hx2 : isDig (B s m) = true := by simpa [hx1] using hx
                clear hx
                go_wp2_with (first | (go_at_call 25; refine (r_digit _ _ (by omega)).mono ?_; rintro e w' ⟨rfl, rfl⟩) | (go_at_call 24; refine (r_letter _ _ (by omega)).mono ?_; rintro e w' ⟨rfl, rfl⟩))
                go_round
                case rel => exact ⟨m + 1, by omega, by go_num⟩
                case measure => simp [intOf]; omega
            · obtain rfl : K = m := by omega
              have hx := HE.out hms
              unfold isWord at hx
              have hx1 : isLet (B s K) = false := by cases h : isLet (B s K) <;> simp_all
              have hx2 : isDig (B s K) = false := by cases h : isDig (B s K) <;> simp_all
              clear hx
              go_wp2_with (first | (go_at_call 25; refine (r_digit _ _ (by omega)).mono ?_; rintro e w' ⟨rfl, rfl⟩) | (go_at_call 24; refine (r_letter _ _ (by omega)).mono ?_; rintro e w' ⟨rfl, rfl⟩))
              go_ret
              exact ⟨ret_bool (decide_eq_false (by omega)).symm, rfl⟩
          · have hKe : K = s.size := by omega
            have HKe := Lib.hid hKe
            clear hKe
            go_wp2
            go_ret
            exact ⟨ret_bool (decide_eq_true HKe.out).symm, rfl⟩
      | false =>
        have hN : nameB s = false := by unfold nameB; rw [hl]; simp
        rw [hN]
        go_enter Tryd.func12, Tryd.ntmps12
        go_wp2_with (go_at_call 24; refine (r_letter _ _ (by omega)).mono ?_; rintro e w' ⟨rfl, rfl⟩)
        go_ret
        exact ⟨rfl, rfl⟩
    · have hN : nameB s = false := by unfold nameB; rw [decide_eq_false h32]; simp
      rw [hN]
      go_enter Tryd.func12, Tryd.ntmps12
      go_wp2_with (go_at_call 24; refine (r_letter _ _ (by omega)).mono ?_; rintro e w' ⟨rfl, rfl⟩)
      go_ret
      exact ⟨rfl, rfl⟩
  · have hN : nameB s = false := by unfold nameB; rw [decide_eq_false h0]; simp
    rw [hN]
    have e0 : ((s.size : Int) == 0) = true := beq_iff_eq.2 (by omega)
    go_enter Tryd.func12, Tryd.ntmps12
    go_wp2_with (go_at_call 24; refine (r_letter _ _ (by omega)).mono ?_; rintro e w' ⟨rfl, rfl⟩)
    go_ret
    exact ⟨rfl, rfl⟩

end Go.Proofs.YtgaanohloocokaaDoor
