/-
  Walks of phasorref04.skip, Marks.
-/
import Derived.Test.YtgaanohloocokaaDoorRefA
import Derived.Test.YtgaanohloocokaaDoorPlain
namespace Go.Proofs.YtgaanohloocokaaDoor
open Go.RowKit

set_option maxHeartbeats 2000000 in
theorem r_skip (s : ByteArray) (i : Int) (w : World) (h0 : 0 ≤ i) (h1 : i ≤ s.size) (hs : s.size ≤ 140737488351232) :
    Calls Tryd.prog 28 #[.string s, .int .i64 i] w fun e w' => e = .returned (.int .i64 (skip s i.toNat)) ∧ w = w' := by
  obtain ⟨i, rfl⟩ := Int.eq_ofNat_of_zero_le h0
  have h1 : i ≤ s.size := by omega
  rw [Int.toNat_natCast]
  obtain ⟨R, hR⟩ : ∃ R, skip s i = R := ⟨_, rfl⟩
  rw [hR]
  have HR := Lib.hid hR
  clear hR
  go_enter Tryd.func28, Tryd.ntmps28
  go_wp2
  go_loop [1] (fun v => ∃ k : Nat, k ≤ s.size ∧ v = .int .i64 k ∧ Hid (skip s k = R)) (fun v => s.size - (intOf v).toNat)
  case atStart => exact ⟨i, h1, rfl, HR⟩
  case round =>
    obtain ⟨k, hk, rfl, HK⟩ := hrel
    by_cases hlt : k < s.size
    · have HB := B_eq s k hlt
      have hbb := B_lt s k
      cases hb : isBlank (B s k) with
      | true =>
        have hv : B s k = 32 ∨ B s k = 9 ∨ B s k = 10 ∨ B s k = 13 := by simpa [isBlank, or_assoc] using hb
        have Hn := Lib.hid (show skip s (k + 1) = R from (skip_blank hlt hb).symm.trans HK.out)
        clear HK hb
        rcases hv with h | h | h | h
        all_goals
          rw [h] at HB hbb
          clear h
          go_wp2
          go_round
          case rel => exact ⟨k + 1, by omega, by go_num, Hn⟩
          case measure => simp [intOf]; omega
      | false =>
        have hv : ¬ B s k = 32 ∧ ¬ B s k = 9 ∧ ¬ B s k = 10 ∧ ¬ B s k = 13 := by simpa [isBlank, and_assoc] using hb
        have n32 : ((B s k : Int) == 32) = false := beq_eq_false_iff_ne.2 (by omega)
        have n9 : ((B s k : Int) == 9) = false := beq_eq_false_iff_ne.2 (by omega)
        have n10 : ((B s k : Int) == 10) = false := beq_eq_false_iff_ne.2 (by omega)
        have n13 : ((B s k : Int) == 13) = false := beq_eq_false_iff_ne.2 (by omega)
        have Hb := Lib.hid hb
        clear hb
        by_cases h47 : B s k = 47
        · rw [h47] at HB hbb
          by_cases h2 : k + 1 < s.size
          · have HB1 := B_eq s (k + 1) h2
            by_cases g47 : B s (k + 1) = 47
            · rw [g47] at HB1
              have HC : Hid (isCom s k = true) := by show isCom s k = true; simp [isCom, h47, g47, h2]
              clear g47 h47 hv n32 n9 n10 n13
              go_wp2
              obtain ⟨E, hE⟩ : ∃ E, many notNl s k = E := ⟨_, rfl⟩
              have hEs : E ≤ s.size := by rw [← hE]; exact many_le _ _ (by omega)
              have hEk : k < E := by rw [← hE]; exact com_gt HC.out
              have Hn := Lib.hid (show skip s E = R from by rw [← hE, ← skip_com hlt Hb.out HC.out]; exact HK.out)
              have HE := Lib.hid hE
              clear hE HK HB HB1
              go_loop [1] (fun v => ∃ m : Nat, m ≤ E ∧ k ≤ m ∧ v = .int .i64 m ∧ Hid (many notNl s m = E)) (fun v => s.size - (intOf v).toNat)
              case atStart => exact ⟨k, by omega, by omega, rfl, HE⟩
              case round =>
                obtain ⟨m, hm, hkm, rfl, HM⟩ := hrel
                by_cases hms : m < s.size
                · have HB := B_eq s m hms
                  by_cases hnl : B s m = 10
                  · have nnl : ((B s m : Int) != 10) = false := by simp [hnl]
                    have e := Lib.hid (show m = E from (many_no (by simp [notNl, hnl])).symm.trans HM.out)
                    clear hnl
                    go_wp2
                    obtain rfl : E = m := e.out.symm
                    go_round
                    case rel => exact ⟨E, by omega, rfl, Hn⟩
                    case measure => simp [intOf]; omega
                  · have nnl : ((B s m : Int) != 10) = true := bne_iff_ne.2 (by omega)
                    have e : many notNl s (m + 1) = E := (many_step hms (by simp [notNl, hnl])).symm.trans HM.out
                    have HE2 := Lib.hid e
                    have hle : m + 1 ≤ E := by rw [← e]; exact many_ge _ _ _
                    clear e
                    go_wp2
                    go_round
                    case rel => exact ⟨m + 1, by omega, by omega, by go_num, HE2⟩
                    case measure => simp [intOf]; omega
                · have e := Lib.hid (show m = E from (many_out hms).symm.trans HM.out)
                  go_wp2
                  obtain rfl : E = m := e.out.symm
                  go_round
                  case rel => exact ⟨E, by omega, rfl, Hn⟩
                  case measure => simp [intOf]; omega
            · have nn : ((B s (k + 1) : Int) != 47) = true := bne_iff_ne.2 (by omega)
              have Hn := Lib.hid (show k = R from (skip_stop Hb.out (by simp [isCom, g47])).symm.trans HK.out)
              go_wp2
              go_ret
              exact ⟨ret_int (by rw [Hn.out]), rfl⟩
          · have Hn := Lib.hid (show k = R from (skip_stop Hb.out (by simp [isCom, h2])).symm.trans HK.out)
            go_wp2
            go_ret
            exact ⟨ret_int (by rw [Hn.out]), rfl⟩
        · have nn : ((B s k : Int) != 47) = true := bne_iff_ne.2 (by omega)
          have Hn := Lib.hid (show k = R from (skip_stop Hb.out (by simp [isCom, h47])).symm.trans HK.out)
          go_wp2
          go_ret
          exact ⟨ret_int (by rw [Hn.out]), rfl⟩
    · have Hn := Lib.hid (show k = R from (skip_out hlt).symm.trans HK.out)
      go_wp2
      go_ret
      exact ⟨ret_int (by rw [Hn.out]), rfl⟩

end Go.Proofs.YtgaanohloocokaaDoor
