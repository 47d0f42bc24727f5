/-
  Walks of phasorref04.number, a whole number.
-/
import Derived.Test.YtgaanohloocokaaDoorRefD
namespace Go.Proofs.YtgaanohloocokaaDoor
open Go.RowKit

set_option maxRecDepth 100000 in
set_option maxHeartbeats 4000000 in
theorem r_number_int (s : ByteArray) (i : Nat) (w : World) (h1 : i < s.size) (hs : s.size ≤ 140737488351232) (hd : isDig (B s i) = true)
    (hc : (decide (many isDig s i + 1 < s.size) && B s (many isDig s i) == 46 && isDig (B s (many isDig s i + 1))) = false) :
    Calls Tryd.prog 46 #[.string s, .int .i64 i] w fun e w' => e = .returned (.tuple #[.agg #[.int .i64 (numTok s i).1.k, .string (numTok s i).1.t, .int .i64 (numTok s i).1.n, .int .i64 0, .int .i64 0, .int .i64 0], .int .i64 (numTok s i).2.1, .int .i64 (numTok s i).2.2]) ∧ Below w.heap.size w w' := by
  obtain ⟨N, hN⟩ : ∃ N, numTok s i = N := ⟨_, rfl⟩
  rw [hN]
  obtain ⟨K, hK⟩ : ∃ K, many isDig s i = K := ⟨_, rfl⟩
  obtain ⟨z, hz⟩ : ∃ z, ((B s i : Int) == 48) = z := ⟨_, rfl⟩
  obtain ⟨D, hD⟩ : ∃ D, dval s i K = D := ⟨_, rfl⟩
  have hzN : (B s i == 48) = z := by rw [← hz, Bool.eq_iff_iff]; simp; omega
  rw [hK] at hc
  have hN' := hN
  simp only [numTok, hK, hzN, hc, hD] at hN'
  rw [if_neg (by simp)] at hN'
  have hiK : i < K := by rw [← hK, many_step h1 hd]; exact many_ge _ _ _
  have hKs : K ≤ s.size := by rw [← hK]; exact many_le _ _ (by omega)
  have hdig : ∀ j, i ≤ j → j < K → isDig (B s j) = true := fun j a b => many_all isDig s i a (by rw [hK]; exact b)
  obtain ⟨X, hX⟩ : ∃ X, s.extract i K = X := ⟨_, rfl⟩
  have hXs : X.size = K - i := by rw [← hX]; exact size_ext hKs
  have hXi : (X.size : Int) = (K : Int) - i := by omega
  have HXB := Lib.hid (show ∀ j, i + j < K → B X j = B s (i + j) from fun j hj => by rw [← hX]; exact B_extract hj hKs)
  have HXS := Lib.hid hXs
  have HDIG := Lib.hid hdig
  obtain ⟨lq, hlq⟩ : ∃ lq, isLet (B s K) = lq := ⟨_, rfl⟩
  rw [hlq] at hN'
  have FN := Lib.hid (fin_num hN')
  clear hN hN' hzN hdig hXs hXi
  have HBi := B_eq s i h1
  have HK := Lib.hid hK
  have HD := Lib.hid hD
  clear hK hD
  have key : K = s.size ∨ (K < s.size ∧ ¬ K + 1 < s.size) ∨ (K + 1 < s.size ∧ ¬ B s K = 46) ∨ (K + 1 < s.size ∧ B s K = 46 ∧ isDig (B s (K + 1)) = false) := by
    by_cases a : K + 1 < s.size
    · by_cases b : B s K = 46
      · right; right; right; exact ⟨a, b, by simpa [a, b] using hc⟩
      · right; right; left; exact ⟨a, b⟩
    · omega
  clear hc
  have HE : Hid (K < s.size → isDig (B s K) = false) := fun h => by rw [← HK.out] at h ⊢; exact many_end _ _ _ h
  go_enter Tryd.func46, Tryd.ntmps46
  go_wp2
  go_loop [7] (fun v => ∃ m : Nat, m ≤ K ∧ i ≤ m ∧ v = .int .i64 m ∧ Hid (many isDig s m = K)) (fun v => s.size - (intOf v).toNat)
  case atStart => exact ⟨i, by omega, by omega, rfl, HK⟩
  case round =>
    obtain ⟨m, hm, him, rfl, HM1⟩ := hrel
    by_cases hmK : m < K
    · have HB := B_eq s m (by omega)
      have hdm := HDIG.out m him hmK
      have He := Lib.hid ((many_step (by omega) hdm).symm.trans HM1.out)
      go_wp2_with (go_at_call 25; refine (r_digit _ _ (by omega)).mono ?_; rintro e w' ⟨rfl, rfl⟩)
      go_round
      case rel => exact ⟨m + 1, by omega, by omega, by go_num, He⟩
      case measure => simp [intOf]; omega
    · obtain rfl : K = m := by omega
      clear hm hmK HM1
      have hK0 : (0 : Int) ≤ (K : Int) := by omega
      rcases key with key | key | key | key
      · have hlt : ¬ K < s.size := by omega
        clear key
        go_wp2_with (go_at_call 25; refine (r_digit _ _ (by omega)).mono ?_; rintro e w' ⟨rfl, rfl⟩)
        all_goals
          go_loop [11, 12] (fun v u => ∃ j nn : Nat, j ≤ K - i ∧ nn ≤ 10000000009 ∧ v = .int .i64 nn ∧ u = .int .i64 j ∧ Hid (dvalF s (K - i - j) (i + j) nn = D)) (fun _ u => K - (intOf u).toNat)
          case atStart => exact ⟨0, 0, by omega, by omega, rfl, rfl, HD⟩
          case round =>
            obtain ⟨j, nn, hj, hnn, rfl, rfl, HDJ⟩ := hrel
            by_cases a : j < K - i
            · have hjX : j < X.size := by have := HXS.out; omega
              by_cases b : nn ≤ 1000000000
              · have HBX := (B_eq X j hjX).trans (HXB.out j (by omega))
                have hdj := HDIG.out (i + j) (by omega) (by omega)
                have hb1 : 48 ≤ B s (i + j) := by simp [isDig] at hdj; omega
                have hb2 : B s (i + j) ≤ 57 := by simp [isDig] at hdj; omega
                clear hdj
                have HD2 : Hid (dvalF s (K - i - (j + 1)) (i + (j + 1)) (10 * nn + (B s (i + j) - 48)) = D) := by
                  have e := HDJ.out
                  rw [show K - i - j = (K - i - (j + 1)) + 1 from by omega] at e
                  exact e
                go_wp2
                go_round
                case rel => exact ⟨j + 1, 10 * nn + (B s (i + j) - 48), by omega, by omega, by go_num, by go_num, HD2⟩
                case measure => simp [intOf]; omega
              · have hD : 1000000000 < D := by have := dval_ge s (K - i - j) (i + j) nn; rw [HDJ.out] at this; omega
                go_wp2_with (first | (go_at_call 25; refine (r_digit _ _ (by omega)).mono ?_; rintro e w' ⟨rfl, rfl⟩) | (go_at_call 24; refine (r_letter _ _ (by omega)).mono ?_; rintro e w' ⟨rfl, rfl⟩))
                all_goals
                  refine bodyPost_ret (results_ctt rfl _ _ w.heap.size 37 _ rfl ((Blk.new _ _ _).alloc _) wideToken) rfl ⟨?_, ((Below.refl _ _).alloc (Nat.le_refl _) _).alloc (by simp) _⟩
                  first | (rw [← FN.out.1 (by assumption) (decide_eq_true (by omega))]; rfl) | (rw [← FN.out.2.1 (decide_eq_true (by omega))]; rfl) | (rw [← FN.out.2.2.1 (decide_eq_true (by omega)) (by assumption)]; rfl) | (rw [← FN.out.2.2.2 (by first | exact Or.inl (by assumption) | exact Or.inr (decide_eq_false (by omega))) (decide_eq_false (by omega)) (by first | exact Or.inl (decide_eq_false (by omega)) | exact Or.inr (by assumption))]; rfl) | (rename_i hh; rcases hh with (hh | hh) | hh <;> first | (rw [← FN.out.1 (by assumption) (decide_eq_true (by omega))]; rfl) | (rw [← FN.out.2.1 (decide_eq_true (by omega))]; rfl) | (rw [← FN.out.2.2.1 (decide_eq_true (by omega)) (by assumption)]; rfl)) | (rename_i hh; rcases hh with hh | hh <;> first | (rw [← FN.out.1 (by assumption) (decide_eq_true (by omega))]; rfl) | (rw [← FN.out.2.1 (decide_eq_true (by omega))]; rfl) | (rw [← FN.out.2.2.1 (decide_eq_true (by omega)) (by assumption)]; rfl)) | (rename_i hh; obtain ⟨_, hh⟩ := hh; (rw [← FN.out.2.2.2 (by first | exact Or.inl (by assumption) | exact Or.inr (decide_eq_false (by omega))) (decide_eq_false (by omega)) (by first | exact Or.inl (decide_eq_false (by omega)) | exact Or.inr (by assumption))]; rfl))
            · have hjX : ¬ j < X.size := by have := HXS.out; omega
              obtain rfl : nn = D := by have e := HDJ.out; rw [show K - i - j = 0 from by omega] at e; exact e
              by_cases b : nn ≤ 1000000000
              · go_wp2_with (first | (go_at_call 25; refine (r_digit _ _ (by omega)).mono ?_; rintro e w' ⟨rfl, rfl⟩) | (go_at_call 24; refine (r_letter _ _ (by omega)).mono ?_; rintro e w' ⟨rfl, rfl⟩))
                all_goals
                  refine bodyPost_ret (results_ctt rfl _ _ w.heap.size 37 _ rfl ((Blk.new _ _ _).alloc _) wideToken) rfl ⟨?_, ((Below.refl _ _).alloc (Nat.le_refl _) _).alloc (by simp) _⟩
                  first | (rw [← FN.out.1 (by assumption) (decide_eq_true (by omega))]; rfl) | (rw [← FN.out.2.1 (decide_eq_true (by omega))]; rfl) | (rw [← FN.out.2.2.1 (decide_eq_true (by omega)) (by assumption)]; rfl) | (rw [← FN.out.2.2.2 (by first | exact Or.inl (by assumption) | exact Or.inr (decide_eq_false (by omega))) (decide_eq_false (by omega)) (by first | exact Or.inl (decide_eq_false (by omega)) | exact Or.inr (by assumption))]; rfl) | (rename_i hh; rcases hh with (hh | hh) | hh <;> first | (rw [← FN.out.1 (by assumption) (decide_eq_true (by omega))]; rfl) | (rw [← FN.out.2.1 (decide_eq_true (by omega))]; rfl) | (rw [← FN.out.2.2.1 (decide_eq_true (by omega)) (by assumption)]; rfl)) | (rename_i hh; rcases hh with hh | hh <;> first | (rw [← FN.out.1 (by assumption) (decide_eq_true (by omega))]; rfl) | (rw [← FN.out.2.1 (decide_eq_true (by omega))]; rfl) | (rw [← FN.out.2.2.1 (decide_eq_true (by omega)) (by assumption)]; rfl)) | (rename_i hh; obtain ⟨_, hh⟩ := hh; (rw [← FN.out.2.2.2 (by first | exact Or.inl (by assumption) | exact Or.inr (decide_eq_false (by omega))) (decide_eq_false (by omega)) (by first | exact Or.inl (decide_eq_false (by omega)) | exact Or.inr (by assumption))]; rfl))
              · go_wp2_with (first | (go_at_call 25; refine (r_digit _ _ (by omega)).mono ?_; rintro e w' ⟨rfl, rfl⟩) | (go_at_call 24; refine (r_letter _ _ (by omega)).mono ?_; rintro e w' ⟨rfl, rfl⟩))
                all_goals
                  refine bodyPost_ret (results_ctt rfl _ _ w.heap.size 37 _ rfl ((Blk.new _ _ _).alloc _) wideToken) rfl ⟨?_, ((Below.refl _ _).alloc (Nat.le_refl _) _).alloc (by simp) _⟩
                  first | (rw [← FN.out.1 (by assumption) (decide_eq_true (by omega))]; rfl) | (rw [← FN.out.2.1 (decide_eq_true (by omega))]; rfl) | (rw [← FN.out.2.2.1 (decide_eq_true (by omega)) (by assumption)]; rfl) | (rw [← FN.out.2.2.2 (by first | exact Or.inl (by assumption) | exact Or.inr (decide_eq_false (by omega))) (decide_eq_false (by omega)) (by first | exact Or.inl (decide_eq_false (by omega)) | exact Or.inr (by assumption))]; rfl) | (rename_i hh; rcases hh with (hh | hh) | hh <;> first | (rw [← FN.out.1 (by assumption) (decide_eq_true (by omega))]; rfl) | (rw [← FN.out.2.1 (decide_eq_true (by omega))]; rfl) | (rw [← FN.out.2.2.1 (decide_eq_true (by omega)) (by assumption)]; rfl)) | (rename_i hh; rcases hh with hh | hh <;> first | (rw [← FN.out.1 (by assumption) (decide_eq_true (by omega))]; rfl) | (rw [← FN.out.2.1 (decide_eq_true (by omega))]; rfl) | (rw [← FN.out.2.2.1 (decide_eq_true (by omega)) (by assumption)]; rfl)) | (rename_i hh; obtain ⟨_, hh⟩ := hh; (rw [← FN.out.2.2.2 (by first | exact Or.inl (by assumption) | exact Or.inr (decide_eq_false (by omega))) (decide_eq_false (by omega)) (by first | exact Or.inl (decide_eq_false (by omega)) | exact Or.inr (by assumption))]; rfl))
      · obtain ⟨k1, k2⟩ := key
        have HB := B_eq s K k1
        have hdK := HE.out k1
        go_wp2_with (go_at_call 25; refine (r_digit _ _ (by omega)).mono ?_; rintro e w' ⟨rfl, rfl⟩)
        all_goals
          go_loop [11, 12] (fun v u => ∃ j nn : Nat, j ≤ K - i ∧ nn ≤ 10000000009 ∧ v = .int .i64 nn ∧ u = .int .i64 j ∧ Hid (dvalF s (K - i - j) (i + j) nn = D)) (fun _ u => K - (intOf u).toNat)
          case atStart => exact ⟨0, 0, by omega, by omega, rfl, rfl, HD⟩
          case round =>
            obtain ⟨j, nn, hj, hnn, rfl, rfl, HDJ⟩ := hrel
            by_cases a : j < K - i
            · have hjX : j < X.size := by have := HXS.out; omega
              by_cases b : nn ≤ 1000000000
              · have HBX := (B_eq X j hjX).trans (HXB.out j (by omega))
                have hdj := HDIG.out (i + j) (by omega) (by omega)
                have hb1 : 48 ≤ B s (i + j) := by simp [isDig] at hdj; omega
                have hb2 : B s (i + j) ≤ 57 := by simp [isDig] at hdj; omega
                clear hdj
                have HD2 : Hid (dvalF s (K - i - (j + 1)) (i + (j + 1)) (10 * nn + (B s (i + j) - 48)) = D) := by
                  have e := HDJ.out
                  rw [show K - i - j = (K - i - (j + 1)) + 1 from by omega] at e
                  exact e
                go_wp2
                go_round
                case rel => exact ⟨j + 1, 10 * nn + (B s (i + j) - 48), by omega, by omega, by go_num, by go_num, HD2⟩
                case measure => simp [intOf]; omega
              · have hD : 1000000000 < D := by have := dval_ge s (K - i - j) (i + j) nn; rw [HDJ.out] at this; omega
                go_wp2_with (first | (go_at_call 25; refine (r_digit _ _ (by omega)).mono ?_; rintro e w' ⟨rfl, rfl⟩) | (go_at_call 24; refine (r_letter _ _ (by omega)).mono ?_; rintro e w' ⟨rfl, rfl⟩))
                all_goals
                  refine bodyPost_ret (results_ctt rfl _ _ w.heap.size 37 _ rfl ((Blk.new _ _ _).alloc _) wideToken) rfl ⟨?_, ((Below.refl _ _).alloc (Nat.le_refl _) _).alloc (by simp) _⟩
                  first | (rw [← FN.out.1 (by assumption) (decide_eq_true (by omega))]; rfl) | (rw [← FN.out.2.1 (decide_eq_true (by omega))]; rfl) | (rw [← FN.out.2.2.1 (decide_eq_true (by omega)) (by assumption)]; rfl) | (rw [← FN.out.2.2.2 (by first | exact Or.inl (by assumption) | exact Or.inr (decide_eq_false (by omega))) (decide_eq_false (by omega)) (by first | exact Or.inl (decide_eq_false (by omega)) | exact Or.inr (by assumption))]; rfl) | (rename_i hh; rcases hh with (hh | hh) | hh <;> first | (rw [← FN.out.1 (by assumption) (decide_eq_true (by omega))]; rfl) | (rw [← FN.out.2.1 (decide_eq_true (by omega))]; rfl) | (rw [← FN.out.2.2.1 (decide_eq_true (by omega)) (by assumption)]; rfl)) | (rename_i hh; rcases hh with hh | hh <;> first | (rw [← FN.out.1 (by assumption) (decide_eq_true (by omega))]; rfl) | (rw [← FN.out.2.1 (decide_eq_true (by omega))]; rfl) | (rw [← FN.out.2.2.1 (decide_eq_true (by omega)) (by assumption)]; rfl)) | (rename_i hh; obtain ⟨_, hh⟩ := hh; (rw [← FN.out.2.2.2 (by first | exact Or.inl (by assumption) | exact Or.inr (decide_eq_false (by omega))) (decide_eq_false (by omega)) (by first | exact Or.inl (decide_eq_false (by omega)) | exact Or.inr (by assumption))]; rfl))
            · have hjX : ¬ j < X.size := by have := HXS.out; omega
              obtain rfl : nn = D := by have e := HDJ.out; rw [show K - i - j = 0 from by omega] at e; exact e
              by_cases b : nn ≤ 1000000000
              · go_wp2_with (first | (go_at_call 25; refine (r_digit _ _ (by omega)).mono ?_; rintro e w' ⟨rfl, rfl⟩) | (go_at_call 24; refine (r_letter _ _ (by omega)).mono ?_; rintro e w' ⟨rfl, rfl⟩))
                all_goals
                  refine bodyPost_ret (results_ctt rfl _ _ w.heap.size 37 _ rfl ((Blk.new _ _ _).alloc _) wideToken) rfl ⟨?_, ((Below.refl _ _).alloc (Nat.le_refl _) _).alloc (by simp) _⟩
                  first | (rw [← FN.out.1 (by assumption) (decide_eq_true (by omega))]; rfl) | (rw [← FN.out.2.1 (decide_eq_true (by omega))]; rfl) | (rw [← FN.out.2.2.1 (decide_eq_true (by omega)) (by assumption)]; rfl) | (rw [← FN.out.2.2.2 (by first | exact Or.inl (by assumption) | exact Or.inr (decide_eq_false (by omega))) (decide_eq_false (by omega)) (by first | exact Or.inl (decide_eq_false (by omega)) | exact Or.inr (by assumption))]; rfl) | (rename_i hh; rcases hh with (hh | hh) | hh <;> first | (rw [← FN.out.1 (by assumption) (decide_eq_true (by omega))]; rfl) | (rw [← FN.out.2.1 (decide_eq_true (by omega))]; rfl) | (rw [← FN.out.2.2.1 (decide_eq_true (by omega)) (by assumption)]; rfl)) | (rename_i hh; rcases hh with hh | hh <;> first | (rw [← FN.out.1 (by assumption) (decide_eq_true (by omega))]; rfl) | (rw [← FN.out.2.1 (decide_eq_true (by omega))]; rfl) | (rw [← FN.out.2.2.1 (decide_eq_true (by omega)) (by assumption)]; rfl)) | (rename_i hh; obtain ⟨_, hh⟩ := hh; (rw [← FN.out.2.2.2 (by first | exact Or.inl (by assumption) | exact Or.inr (decide_eq_false (by omega))) (decide_eq_false (by omega)) (by first | exact Or.inl (decide_eq_false (by omega)) | exact Or.inr (by assumption))]; rfl))
              · go_wp2_with (first | (go_at_call 25; refine (r_digit _ _ (by omega)).mono ?_; rintro e w' ⟨rfl, rfl⟩) | (go_at_call 24; refine (r_letter _ _ (by omega)).mono ?_; rintro e w' ⟨rfl, rfl⟩))
                all_goals
                  refine bodyPost_ret (results_ctt rfl _ _ w.heap.size 37 _ rfl ((Blk.new _ _ _).alloc _) wideToken) rfl ⟨?_, ((Below.refl _ _).alloc (Nat.le_refl _) _).alloc (by simp) _⟩
                  first | (rw [← FN.out.1 (by assumption) (decide_eq_true (by omega))]; rfl) | (rw [← FN.out.2.1 (decide_eq_true (by omega))]; rfl) | (rw [← FN.out.2.2.1 (decide_eq_true (by omega)) (by assumption)]; rfl) | (rw [← FN.out.2.2.2 (by first | exact Or.inl (by assumption) | exact Or.inr (decide_eq_false (by omega))) (decide_eq_false (by omega)) (by first | exact Or.inl (decide_eq_false (by omega)) | exact Or.inr (by assumption))]; rfl) | (rename_i hh; rcases hh with (hh | hh) | hh <;> first | (rw [← FN.out.1 (by assumption) (decide_eq_true (by omega))]; rfl) | (rw [← FN.out.2.1 (decide_eq_true (by omega))]; rfl) | (rw [← FN.out.2.2.1 (decide_eq_true (by omega)) (by assumption)]; rfl)) | (rename_i hh; rcases hh with hh | hh <;> first | (rw [← FN.out.1 (by assumption) (decide_eq_true (by omega))]; rfl) | (rw [← FN.out.2.1 (decide_eq_true (by omega))]; rfl) | (rw [← FN.out.2.2.1 (decide_eq_true (by omega)) (by assumption)]; rfl)) | (rename_i hh; obtain ⟨_, hh⟩ := hh; (rw [← FN.out.2.2.2 (by first | exact Or.inl (by assumption) | exact Or.inr (decide_eq_false (by omega))) (decide_eq_false (by omega)) (by first | exact Or.inl (decide_eq_false (by omega)) | exact Or.inr (by assumption))]; rfl))
      · obtain ⟨k1, k2⟩ := key
        have hKlt : K < s.size := by omega
        have HB := B_eq s K hKlt
        have HB1 := B_eq s (K + 1) k1
        have hdK := HE.out hKlt
        have n46 : ((B s K : Int) == 46) = false := beq_eq_false_iff_ne.2 (by omega)
        go_wp2_with (go_at_call 25; refine (r_digit _ _ (by omega)).mono ?_; rintro e w' ⟨rfl, rfl⟩)
        all_goals
          go_loop [11, 12] (fun v u => ∃ j nn : Nat, j ≤ K - i ∧ nn ≤ 10000000009 ∧ v = .int .i64 nn ∧ u = .int .i64 j ∧ Hid (dvalF s (K - i - j) (i + j) nn = D)) (fun _ u => K - (intOf u).toNat)
          case atStart => exact ⟨0, 0, by omega, by omega, rfl, rfl, HD⟩
          case round =>
            obtain ⟨j, nn, hj, hnn, rfl, rfl, HDJ⟩ := hrel
            by_cases a : j < K - i
            · have hjX : j < X.size := by have := HXS.out; omega
              by_cases b : nn ≤ 1000000000
              · have HBX := (B_eq X j hjX).trans (HXB.out j (by omega))
                have hdj := HDIG.out (i + j) (by omega) (by omega)
                have hb1 : 48 ≤ B s (i + j) := by simp [isDig] at hdj; omega
                have hb2 : B s (i + j) ≤ 57 := by simp [isDig] at hdj; omega
                clear hdj
                have HD2 : Hid (dvalF s (K - i - (j + 1)) (i + (j + 1)) (10 * nn + (B s (i + j) - 48)) = D) := by
                  have e := HDJ.out
                  rw [show K - i - j = (K - i - (j + 1)) + 1 from by omega] at e
                  exact e
                go_wp2
                go_round
                case rel => exact ⟨j + 1, 10 * nn + (B s (i + j) - 48), by omega, by omega, by go_num, by go_num, HD2⟩
                case measure => simp [intOf]; omega
              · have hD : 1000000000 < D := by have := dval_ge s (K - i - j) (i + j) nn; rw [HDJ.out] at this; omega
                go_wp2_with (first | (go_at_call 25; refine (r_digit _ _ (by omega)).mono ?_; rintro e w' ⟨rfl, rfl⟩) | (go_at_call 24; refine (r_letter _ _ (by omega)).mono ?_; rintro e w' ⟨rfl, rfl⟩))
                all_goals
                  refine bodyPost_ret (results_ctt rfl _ _ w.heap.size 37 _ rfl ((Blk.new _ _ _).alloc _) wideToken) rfl ⟨?_, ((Below.refl _ _).alloc (Nat.le_refl _) _).alloc (by simp) _⟩
                  first | (rw [← FN.out.1 (by assumption) (decide_eq_true (by omega))]; rfl) | (rw [← FN.out.2.1 (decide_eq_true (by omega))]; rfl) | (rw [← FN.out.2.2.1 (decide_eq_true (by omega)) (by assumption)]; rfl) | (rw [← FN.out.2.2.2 (by first | exact Or.inl (by assumption) | exact Or.inr (decide_eq_false (by omega))) (decide_eq_false (by omega)) (by first | exact Or.inl (decide_eq_false (by omega)) | exact Or.inr (by assumption))]; rfl) | (rename_i hh; rcases hh with (hh | hh) | hh <;> first | (rw [← FN.out.1 (by assumption) (decide_eq_true (by omega))]; rfl) | (rw [← FN.out.2.1 (decide_eq_true (by omega))]; rfl) | (rw [← FN.out.2.2.1 (decide_eq_true (by omega)) (by assumption)]; rfl)) | (rename_i hh; rcases hh with hh | hh <;> first | (rw [← FN.out.1 (by assumption) (decide_eq_true (by omega))]; rfl) | (rw [← FN.out.2.1 (decide_eq_true (by omega))]; rfl) | (rw [← FN.out.2.2.1 (decide_eq_true (by omega)) (by assumption)]; rfl)) | (rename_i hh; obtain ⟨_, hh⟩ := hh; (rw [← FN.out.2.2.2 (by first | exact Or.inl (by assumption) | exact Or.inr (decide_eq_false (by omega))) (decide_eq_false (by omega)) (by first | exact Or.inl (decide_eq_false (by omega)) | exact Or.inr (by assumption))]; rfl))
            · have hjX : ¬ j < X.size := by have := HXS.out; omega
              obtain rfl : nn = D := by have e := HDJ.out; rw [show K - i - j = 0 from by omega] at e; exact e
              by_cases b : nn ≤ 1000000000
              · go_wp2_with (first | (go_at_call 25; refine (r_digit _ _ (by omega)).mono ?_; rintro e w' ⟨rfl, rfl⟩) | (go_at_call 24; refine (r_letter _ _ (by omega)).mono ?_; rintro e w' ⟨rfl, rfl⟩))
                all_goals
                  refine bodyPost_ret (results_ctt rfl _ _ w.heap.size 37 _ rfl ((Blk.new _ _ _).alloc _) wideToken) rfl ⟨?_, ((Below.refl _ _).alloc (Nat.le_refl _) _).alloc (by simp) _⟩
                  first | (rw [← FN.out.1 (by assumption) (decide_eq_true (by omega))]; rfl) | (rw [← FN.out.2.1 (decide_eq_true (by omega))]; rfl) | (rw [← FN.out.2.2.1 (decide_eq_true (by omega)) (by assumption)]; rfl) | (rw [← FN.out.2.2.2 (by first | exact Or.inl (by assumption) | exact Or.inr (decide_eq_false (by omega))) (decide_eq_false (by omega)) (by first | exact Or.inl (decide_eq_false (by omega)) | exact Or.inr (by assumption))]; rfl) | (rename_i hh; rcases hh with (hh | hh) | hh <;> first | (rw [← FN.out.1 (by assumption) (decide_eq_true (by omega))]; rfl) | (rw [← FN.out.2.1 (decide_eq_true (by omega))]; rfl) | (rw [← FN.out.2.2.1 (decide_eq_true (by omega)) (by assumption)]; rfl)) | (rename_i hh; rcases hh with hh | hh <;> first | (rw [← FN.out.1 (by assumption) (decide_eq_true (by omega))]; rfl) | (rw [← FN.out.2.1 (decide_eq_true (by omega))]; rfl) | (rw [← FN.out.2.2.1 (decide_eq_true (by omega)) (by assumption)]; rfl)) | (rename_i hh; obtain ⟨_, hh⟩ := hh; (rw [← FN.out.2.2.2 (by first | exact Or.inl (by assumption) | exact Or.inr (decide_eq_false (by omega))) (decide_eq_false (by omega)) (by first | exact Or.inl (decide_eq_false (by omega)) | exact Or.inr (by assumption))]; rfl))
              · go_wp2_with (first | (go_at_call 25; refine (r_digit _ _ (by omega)).mono ?_; rintro e w' ⟨rfl, rfl⟩) | (go_at_call 24; refine (r_letter _ _ (by omega)).mono ?_; rintro e w' ⟨rfl, rfl⟩))
                all_goals
                  refine bodyPost_ret (results_ctt rfl _ _ w.heap.size 37 _ rfl ((Blk.new _ _ _).alloc _) wideToken) rfl ⟨?_, ((Below.refl _ _).alloc (Nat.le_refl _) _).alloc (by simp) _⟩
                  first | (rw [← FN.out.1 (by assumption) (decide_eq_true (by omega))]; rfl) | (rw [← FN.out.2.1 (decide_eq_true (by omega))]; rfl) | (rw [← FN.out.2.2.1 (decide_eq_true (by omega)) (by assumption)]; rfl) | (rw [← FN.out.2.2.2 (by first | exact Or.inl (by assumption) | exact Or.inr (decide_eq_false (by omega))) (decide_eq_false (by omega)) (by first | exact Or.inl (decide_eq_false (by omega)) | exact Or.inr (by assumption))]; rfl) | (rename_i hh; rcases hh with (hh | hh) | hh <;> first | (rw [← FN.out.1 (by assumption) (decide_eq_true (by omega))]; rfl) | (rw [← FN.out.2.1 (decide_eq_true (by omega))]; rfl) | (rw [← FN.out.2.2.1 (decide_eq_true (by omega)) (by assumption)]; rfl)) | (rename_i hh; rcases hh with hh | hh <;> first | (rw [← FN.out.1 (by assumption) (decide_eq_true (by omega))]; rfl) | (rw [← FN.out.2.1 (decide_eq_true (by omega))]; rfl) | (rw [← FN.out.2.2.1 (decide_eq_true (by omega)) (by assumption)]; rfl)) | (rename_i hh; obtain ⟨_, hh⟩ := hh; (rw [← FN.out.2.2.2 (by first | exact Or.inl (by assumption) | exact Or.inr (decide_eq_false (by omega))) (decide_eq_false (by omega)) (by first | exact Or.inl (decide_eq_false (by omega)) | exact Or.inr (by assumption))]; rfl))
      · obtain ⟨k1, k2, k3⟩ := key
        have hKlt : K < s.size := by omega
        have HB := B_eq s K hKlt
        have HB1 := B_eq s (K + 1) k1
        have hdK := HE.out hKlt
        have n46 : ((B s K : Int) == 46) = true := beq_iff_eq.2 (by omega)
        clear k2
        go_wp2_with (go_at_call 25; refine (r_digit _ _ (by omega)).mono ?_; rintro e w' ⟨rfl, rfl⟩)
        all_goals
          go_loop [11, 12] (fun v u => ∃ j nn : Nat, j ≤ K - i ∧ nn ≤ 10000000009 ∧ v = .int .i64 nn ∧ u = .int .i64 j ∧ Hid (dvalF s (K - i - j) (i + j) nn = D)) (fun _ u => K - (intOf u).toNat)
          case atStart => exact ⟨0, 0, by omega, by omega, rfl, rfl, HD⟩
          case round =>
            obtain ⟨j, nn, hj, hnn, rfl, rfl, HDJ⟩ := hrel
            by_cases a : j < K - i
            · have hjX : j < X.size := by have := HXS.out; omega
              by_cases b : nn ≤ 1000000000
              · have HBX := (B_eq X j hjX).trans (HXB.out j (by omega))
                have hdj := HDIG.out (i + j) (by omega) (by omega)
                have hb1 : 48 ≤ B s (i + j) := by simp [isDig] at hdj; omega
                have hb2 : B s (i + j) ≤ 57 := by simp [isDig] at hdj; omega
                clear hdj
                have HD2 : Hid (dvalF s (K - i - (j + 1)) (i + (j + 1)) (10 * nn + (B s (i + j) - 48)) = D) := by
                  have e := HDJ.out
                  rw [show K - i - j = (K - i - (j + 1)) + 1 from by omega] at e
                  exact e
                go_wp2
                go_round
                case rel => exact ⟨j + 1, 10 * nn + (B s (i + j) - 48), by omega, by omega, by go_num, by go_num, HD2⟩
                case measure => simp [intOf]; omega
              · have hD : 1000000000 < D := by have := dval_ge s (K - i - j) (i + j) nn; rw [HDJ.out] at this; omega
                go_wp2_with (first | (go_at_call 25; refine (r_digit _ _ (by omega)).mono ?_; rintro e w' ⟨rfl, rfl⟩) | (go_at_call 24; refine (r_letter _ _ (by omega)).mono ?_; rintro e w' ⟨rfl, rfl⟩))
                all_goals
                  refine bodyPost_ret (results_ctt rfl _ _ w.heap.size 37 _ rfl ((Blk.new _ _ _).alloc _) wideToken) rfl ⟨?_, ((Below.refl _ _).alloc (Nat.le_refl _) _).alloc (by simp) _⟩
                  first | (rw [← FN.out.1 (by assumption) (decide_eq_true (by omega))]; rfl) | (rw [← FN.out.2.1 (decide_eq_true (by omega))]; rfl) | (rw [← FN.out.2.2.1 (decide_eq_true (by omega)) (by assumption)]; rfl) | (rw [← FN.out.2.2.2 (by first | exact Or.inl (by assumption) | exact Or.inr (decide_eq_false (by omega))) (decide_eq_false (by omega)) (by first | exact Or.inl (decide_eq_false (by omega)) | exact Or.inr (by assumption))]; rfl) | (rename_i hh; rcases hh with (hh | hh) | hh <;> first | (rw [← FN.out.1 (by assumption) (decide_eq_true (by omega))]; rfl) | (rw [← FN.out.2.1 (decide_eq_true (by omega))]; rfl) | (rw [← FN.out.2.2.1 (decide_eq_true (by omega)) (by assumption)]; rfl)) | (rename_i hh; rcases hh with hh | hh <;> first | (rw [← FN.out.1 (by assumption) (decide_eq_true (by omega))]; rfl) | (rw [← FN.out.2.1 (decide_eq_true (by omega))]; rfl) | (rw [← FN.out.2.2.1 (decide_eq_true (by omega)) (by assumption)]; rfl)) | (rename_i hh; obtain ⟨_, hh⟩ := hh; (rw [← FN.out.2.2.2 (by first | exact Or.inl (by assumption) | exact Or.inr (decide_eq_false (by omega))) (decide_eq_false (by omega)) (by first | exact Or.inl (decide_eq_false (by omega)) | exact Or.inr (by assumption))]; rfl))
            · have hjX : ¬ j < X.size := by have := HXS.out; omega
              obtain rfl : nn = D := by have e := HDJ.out; rw [show K - i - j = 0 from by omega] at e; exact e
              by_cases b : nn ≤ 1000000000
              · go_wp2_with (first | (go_at_call 25; refine (r_digit _ _ (by omega)).mono ?_; rintro e w' ⟨rfl, rfl⟩) | (go_at_call 24; refine (r_letter _ _ (by omega)).mono ?_; rintro e w' ⟨rfl, rfl⟩))
                all_goals
                  refine bodyPost_ret (results_ctt rfl _ _ w.heap.size 37 _ rfl ((Blk.new _ _ _).alloc _) wideToken) rfl ⟨?_, ((Below.refl _ _).alloc (Nat.le_refl _) _).alloc (by simp) _⟩
                  first | (rw [← FN.out.1 (by assumption) (decide_eq_true (by omega))]; rfl) | (rw [← FN.out.2.1 (decide_eq_true (by omega))]; rfl) | (rw [← FN.out.2.2.1 (decide_eq_true (by omega)) (by assumption)]; rfl) | (rw [← FN.out.2.2.2 (by first | exact Or.inl (by assumption) | exact Or.inr (decide_eq_false (by omega))) (decide_eq_false (by omega)) (by first | exact Or.inl (decide_eq_false (by omega)) | exact Or.inr (by assumption))]; rfl) | (rename_i hh; rcases hh with (hh | hh) | hh <;> first | (rw [← FN.out.1 (by assumption) (decide_eq_true (by omega))]; rfl) | (rw [← FN.out.2.1 (decide_eq_true (by omega))]; rfl) | (rw [← FN.out.2.2.1 (decide_eq_true (by omega)) (by assumption)]; rfl)) | (rename_i hh; rcases hh with hh | hh <;> first | (rw [← FN.out.1 (by assumption) (decide_eq_true (by omega))]; rfl) | (rw [← FN.out.2.1 (decide_eq_true (by omega))]; rfl) | (rw [← FN.out.2.2.1 (decide_eq_true (by omega)) (by assumption)]; rfl)) | (rename_i hh; obtain ⟨_, hh⟩ := hh; (rw [← FN.out.2.2.2 (by first | exact Or.inl (by assumption) | exact Or.inr (decide_eq_false (by omega))) (decide_eq_false (by omega)) (by first | exact Or.inl (decide_eq_false (by omega)) | exact Or.inr (by assumption))]; rfl))
              · go_wp2_with (first | (go_at_call 25; refine (r_digit _ _ (by omega)).mono ?_; rintro e w' ⟨rfl, rfl⟩) | (go_at_call 24; refine (r_letter _ _ (by omega)).mono ?_; rintro e w' ⟨rfl, rfl⟩))
                all_goals
                  refine bodyPost_ret (results_ctt rfl _ _ w.heap.size 37 _ rfl ((Blk.new _ _ _).alloc _) wideToken) rfl ⟨?_, ((Below.refl _ _).alloc (Nat.le_refl _) _).alloc (by simp) _⟩
                  first | (rw [← FN.out.1 (by assumption) (decide_eq_true (by omega))]; rfl) | (rw [← FN.out.2.1 (decide_eq_true (by omega))]; rfl) | (rw [← FN.out.2.2.1 (decide_eq_true (by omega)) (by assumption)]; rfl) | (rw [← FN.out.2.2.2 (by first | exact Or.inl (by assumption) | exact Or.inr (decide_eq_false (by omega))) (decide_eq_false (by omega)) (by first | exact Or.inl (decide_eq_false (by omega)) | exact Or.inr (by assumption))]; rfl) | (rename_i hh; rcases hh with (hh | hh) | hh <;> first | (rw [← FN.out.1 (by assumption) (decide_eq_true (by omega))]; rfl) | (rw [← FN.out.2.1 (decide_eq_true (by omega))]; rfl) | (rw [← FN.out.2.2.1 (decide_eq_true (by omega)) (by assumption)]; rfl)) | (rename_i hh; rcases hh with hh | hh <;> first | (rw [← FN.out.1 (by assumption) (decide_eq_true (by omega))]; rfl) | (rw [← FN.out.2.1 (decide_eq_true (by omega))]; rfl) | (rw [← FN.out.2.2.1 (decide_eq_true (by omega)) (by assumption)]; rfl)) | (rename_i hh; obtain ⟨_, hh⟩ := hh; (rw [← FN.out.2.2.2 (by first | exact Or.inl (by assumption) | exact Or.inr (decide_eq_false (by omega))) (decide_eq_false (by omega)) (by first | exact Or.inl (decide_eq_false (by omega)) | exact Or.inr (by assumption))]; rfl))
end Go.Proofs.YtgaanohloocokaaDoor
