/-
  Walks of phasorref04.number.
-/
import Derived.Test.YtgaanohloocokaaDoorRefA
import Derived.Test.YtgaanohloocokaaDoorPlain
namespace Go.Proofs.YtgaanohloocokaaDoor
open Go.RowKit

set_option maxRecDepth 100000 in
set_option maxHeartbeats 2000000 in
theorem r_number_real (s : ByteArray) (i : Nat) (w : World) (h1 : i < s.size) (hs : s.size ≤ 140737488351232) (hd : isDig (B s i) = true)
    (c1 : many isDig s i + 1 < s.size) (c2 : B s (many isDig s i) = 46) (c3 : isDig (B s (many isDig s i + 1)) = true) :
    Calls Tryd.prog 46 #[.string s, .int .i64 i] w fun e w' => e = .returned (.tuple #[.agg #[.int .i64 (numTok s i).1.k, .string (numTok s i).1.t, .int .i64 (numTok s i).1.n, .int .i64 0, .int .i64 0, .int .i64 0], .int .i64 (numTok s i).2.1, .int .i64 (numTok s i).2.2]) ∧ Below w.heap.size w w' := by
  obtain ⟨N, hN⟩ : ∃ N, numTok s i = N := ⟨_, rfl⟩
  rw [hN]
  obtain ⟨K, hK⟩ : ∃ K, many isDig s i = K := ⟨_, rfl⟩
  obtain ⟨M, hM⟩ : ∃ M, many isDig s (K + 1) = M := ⟨_, rfl⟩
  obtain ⟨z, hz⟩ : ∃ z, ((B s i : Int) == 48) = z := ⟨_, rfl⟩
  have hzN : (B s i == 48) = z := by rw [← hz, Bool.eq_iff_iff]; simp; omega
  rw [hK] at c1 c2 c3
  have hN' := hN
  simp only [numTok, hK, hM, hzN, c1, c2, c3, decide_true, beq_self_eq_true, Bool.and_self, if_true] at hN'
  have HN := Lib.hid hN'
  clear hN hN' hzN
  have hiK : i < K := by rw [← hK, many_step h1 hd]; exact many_ge _ _ _
  have hKM : K + 1 < M := by rw [← hM, many_step c1 c3]; exact many_ge _ _ _
  have hMs : M ≤ s.size := by rw [← hM]; exact many_le _ _ (by omega)
  have HBi := B_eq s i h1
  have HK := Lib.hid hK
  have HM := Lib.hid hM
  have HC2 := Lib.hid c2
  clear hK hM c2
  go_enter Tryd.func46, Tryd.ntmps46
  go_wp2
  go_loop [7] (fun v => ∃ m : Nat, m ≤ K ∧ i ≤ m ∧ v = .int .i64 m ∧ Hid (many isDig s m = K)) (fun v => s.size - (intOf v).toNat)
  case atStart => exact ⟨i, by omega, by omega, rfl, HK⟩
  case round =>
    obtain ⟨m, hm, him, rfl, HM1⟩ := hrel
    have HB := B_eq s m (by omega)
    cases hdm : isDig (B s m) with
    | true =>
      have e := (many_step (by omega) hdm).symm.trans HM1.out
      have hle : m + 1 ≤ K := by rw [← e]; exact many_ge _ _ _
      have He := Lib.hid e
      clear e
      go_wp2_with (go_at_call 25; refine (r_digit _ _ (by omega)).mono ?_; rintro e w' ⟨rfl, rfl⟩)
      go_round
      case rel => exact ⟨m + 1, by omega, by omega, by go_num, He⟩
      case measure => simp [intOf]; omega
    | false =>
      obtain rfl : m = K := (many_no hdm).symm.trans HM1.out
      have HC := Lib.hid HC2.out
      have HB1 := B_eq s (m + 1) (by omega)
      rw [HC2.out] at HB hdm
      clear HC2
      have hml : m ≤ s.size := by omega
      go_wp2_with (go_at_call 25; refine (r_digit _ _ (by omega)).mono ?_; rintro e w' ⟨rfl, rfl⟩)
      all_goals
        go_loop [7] (fun v => ∃ q : Nat, q ≤ M ∧ m + 1 ≤ q ∧ v = .int .i64 q ∧ Hid (many isDig s q = M)) (fun v => s.size - (intOf v).toNat)
        case atStart => exact ⟨m + 1, by omega, by omega, by go_num, HM⟩
        case round =>
          obtain ⟨q, hq, hmq, rfl, HM2⟩ := hrel
          by_cases hqs : q < s.size
          · have HBq := B_eq s q hqs
            cases hdq : isDig (B s q) with
            | true =>
              have e := (many_step hqs hdq).symm.trans HM2.out
              have hle : q + 1 ≤ M := by rw [← e]; exact many_ge _ _ _
              have He := Lib.hid e
              clear e
              go_wp2_with (go_at_call 25; refine (r_digit _ _ (by omega)).mono ?_; rintro e w' ⟨rfl, rfl⟩)
              go_round
              case rel => exact ⟨q + 1, by omega, by omega, by go_num, He⟩
              case measure => simp [intOf]; omega
            | false =>
              obtain rfl : q = M := (many_no hdq).symm.trans HM2.out
              obtain ⟨lq, hlq⟩ : ∃ lq, isLet (B s q) = lq := ⟨_, rfl⟩
              have hd2 : decide (q < s.size) = true := decide_eq_true hqs
              rw [hlq, hd2] at HN
              have hiq : i ≤ q := by omega
              have hql : q ≤ s.size := by omega
              go_wp2_with (first | (go_at_call 25; refine (r_digit _ _ (by omega)).mono ?_; rintro e w' ⟨rfl, rfl⟩) | (go_at_call 24; refine (r_letter _ _ (by omega)).mono ?_; rintro e w' ⟨rfl, rfl⟩))
              all_goals
                refine bodyPost_ret (results_ctt rfl _ _ w.heap.size 37 _ rfl ((Blk.new _ _ _).alloc _) wideToken) rfl ⟨?_, ((Below.refl _ _).alloc (Nat.le_refl _) _).alloc (by simp) _⟩
                rw [← HN.out]
                first | (rw [if_pos (by simp [*]; first | done | omega | assumption_mod_cast)]; rfl) | (rw [if_neg (by simp [*]; first | done | omega | assumption_mod_cast)]; rfl)
          · obtain rfl : q = M := (many_out hqs).symm.trans HM2.out
            have hd2 : decide (q < s.size) = false := decide_eq_false hqs
            rw [hd2] at HN
            have hiq : i ≤ q := by omega
            have hql : q ≤ s.size := by omega
            go_wp2_with (first | (go_at_call 25; refine (r_digit _ _ (by omega)).mono ?_; rintro e w' ⟨rfl, rfl⟩) | (go_at_call 24; refine (r_letter _ _ (by omega)).mono ?_; rintro e w' ⟨rfl, rfl⟩))
            all_goals
              refine bodyPost_ret (results_ctt rfl _ _ w.heap.size 37 _ rfl ((Blk.new _ _ _).alloc _) wideToken) rfl ⟨?_, ((Below.refl _ _).alloc (Nat.le_refl _) _).alloc (by simp) _⟩
              rw [← HN.out]
              first | (rw [if_pos (by simp [*]; first | done | omega | assumption_mod_cast)]; rfl) | (rw [if_neg (by simp [*]; first | done | omega | assumption_mod_cast)]; rfl)
end Go.Proofs.YtgaanohloocokaaDoor
