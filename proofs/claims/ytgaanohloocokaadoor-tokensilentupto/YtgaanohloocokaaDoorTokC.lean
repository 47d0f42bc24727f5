/-
  Walks of package token: strings.Cut at a newline, skip, many.
-/
import Derived.Test.YtgaanohloocokaaDoorTokB
import Derived.Test.YtgaanohloocokaaDoorPlain
namespace Go.Proofs.YtgaanohloocokaaDoor
open Go.RowKit

/-- internal/stringslite.Cut at one byte: what stands ahead of it -/
theorem l_Cut (s : ByteArray) (c : UInt8) (w : World) (hs : s.size ≤ 140737488351232) :
    Calls Tryd.prog 54 #[.string s, .string ⟨#[c]⟩] w fun e w' => ∃ b f, e = .returned (.tuple #[.string (s.extract 0 (many (isNot c) s 0)), .string b, .bool f]) ∧ ∃ n, w.drewN n = w' := by
  obtain ⟨K, hK⟩ : ∃ K, many (isNot c) s 0 = K := ⟨_, rfl⟩
  have hKs : K ≤ s.size := by rw [← hK]; exact many_le _ _ (by omega)
  have hI := index_many s c
  rw [hK] at hI ⊢
  clear hK
  by_cases hlt : K < s.size
  · rw [if_pos hlt] at hI
    have HI := Lib.hid hI
    clear hI
    have hK0 : (0 : Int) ≤ K := by omega
    have hK1 : (0 : Int) ≤ (K : Int) + 1 := by omega
    have hK2 : (K : Int) + 1 ≤ s.size := by omega
    have hw : IntKind.i64.wrap ((K : Int) + 1) = (K : Int) + 1 := Go.IntWalk.i64_in _ (by omega)
    go_enter Tryd.func54, Tryd.ntmps54
    go_wp2_with (go_at_call 63; refine (Tryd.stringslite_Index_one s c _).mono ?_; rintro e w1 ⟨rfl, rfl⟩; rw [HI.out])
    go_quiet (fail)
    go_wp2
    go_ret3
    exact ⟨_, _, rfl, _, rfl⟩
  · rw [if_neg hlt] at hI
    have HI := Lib.hid hI
    clear hI
    have hE : s.extract 0 K = s := by rw [show K = s.size from by omega]; exact ByteArray.extract_zero_size
    rw [hE]
    go_enter Tryd.func54, Tryd.ntmps54
    go_wp2_with (go_at_call 63; refine (Tryd.stringslite_Index_one s c _).mono ?_; rintro e w1 ⟨rfl, rfl⟩; rw [HI.out])
    go_ret3
    exact ⟨_, _, rfl, 0, rfl⟩

theorem l_Cut2 (s : ByteArray) (c : UInt8) (w : World) (hs : s.size ≤ 140737488351232) :
    Calls Tryd.prog 35 #[.string s, .string ⟨#[c]⟩] w fun e w' => ∃ b f, e = .returned (.tuple #[.string (s.extract 0 (many (isNot c) s 0)), .string b, .bool f]) ∧ ∃ n, w.drewN n = w' := by
  go_enter Tryd.func35, Tryd.ntmps35
  go_wp2_with (go_at_call 54; refine (l_Cut s c _ hs).mono ?_; rintro e w1 ⟨b, f, rfl, n, rfl⟩)
  go_ret3
  exact ⟨_, _, rfl, _, rfl⟩

set_option maxRecDepth 100000 in
set_option maxHeartbeats 4000000 in
theorem t_skip (g : Nat) (s : ByteArray) (o : Nat) (w : World) (h : CutP w g s o) (hB : Bd s o) (hG : GL w) (hg : NG ≤ g) (ho : o ≤ s.size) (hs : s.size ≤ 140737488351232) :
    Calls Tryd.prog 26 #[.pointer (some ⟨g, 0, none⟩)] w fun e w' => e = .returned (.tuple #[]) ∧ CutP w' g s (skip s o) ∧ Kp (at_ g) w w' := by
  obtain ⟨R, hR⟩ : ∃ R, skip s o = R := ⟨_, rfl⟩
  rw [hR]
  have HR := Lib.hid hR
  have HC := Lib.hid h
  have HG := Lib.hid hG
  have HB := Lib.hid hB
  clear hR h hG hB
  go_enter Tryd.func26, Tryd.ntmps26
  go_wp2
  go_step3
  go_wp2
  go_step3
  go_wp2
  go_loopg [2] (s.size - o) (fun q b wr => ∃ k : Nat, k ≤ s.size ∧ Hid (q = s.size - k) ∧ Hid (CutP wr g s k) ∧ Hid (Kp (at_ g) w wr) ∧ Hid (Bd s k) ∧ Hid (skip s k = R))
  case atStart => exact ⟨o, ho, rfl, HC, Kp.refl _ _, HB, HR⟩
  case round =>
    obtain ⟨k, hk, HQ, HC1, HK1, HB1, HS1⟩ := hrel
    have HG1 := Lib.hid (HG.out.kp HK1.out (fun i e => by have : i = g := e; omega))
    go_wp2_with fail
    refine (t_byteAt g s k _ _ _ _ HC1.out hk hs (by omega)).mono ?_
    rintro e w1 ⟨rfl, n1, rfl⟩
    simp only [Int.toNat_zero, Nat.add_zero]
    by_cases hlt : k < s.size
    · rw [if_pos hlt]
      have hbb := B_lt s k
      cases hb : isBlank (B s k) with
      | true =>
        have hv : B s k = 32 ∨ B s k = 9 ∨ B s k = 10 ∨ B s k = 13 := by simpa [isBlank, or_assoc] using hb
        have Hn := Lib.hid (show skip s (k + 1) = R from (skip_blank hlt hb).symm.trans HS1.out)
        have hok : EndOk s k (k + (1 : Int).toNat) := Or.inr (Or.inr ⟨by simp, by simpa using blank_lt hb⟩)
        have HOK := Lib.hid hok
        have HB2 := Lib.hid (Bd_after hlt (blank_lt hb))
        clear hb hok
        rcases hv with h | h | h | h
        all_goals
          rw [h]
          clear h
          go_wp2_with fail
          refine (t_take g s k _ _ (Blk.drewN HC1.out _) HB1.out (HG1.out.drewN _) hg (by omega) (by omega) hs HOK.out).mono ?_
          rintro e w2 ⟨rfl, HC2, HK2⟩
          have HC2 := Lib.hid HC2
          have HK2 := Lib.hid HK2
          go_wp2
          go_roundg (s.size - (k + 1))
          case measure => have := HQ.out; omega
          case rel => exact ⟨k + 1, by omega, rfl, HC2, Lib.hid ((HK1.out.drewN _).trans_same HK2.out), HB2, Hn⟩
      | false =>
        have hv : ¬ B s k = 32 ∧ ¬ B s k = 9 ∧ ¬ B s k = 10 ∧ ¬ B s k = 13 := by simpa [isBlank, and_assoc] using hb
        have n32 : ((B s k : Int) == 32) = false := beq_eq_false_iff_ne.2 (by omega)
        have n9 : ((B s k : Int) == 9) = false := beq_eq_false_iff_ne.2 (by omega)
        have n10 : ((B s k : Int) == 10) = false := beq_eq_false_iff_ne.2 (by omega)
        have n13 : ((B s k : Int) == 13) = false := beq_eq_false_iff_ne.2 (by omega)
        have Hb := Lib.hid hb
        clear hb hv
        by_cases h47 : B s k = 47
        · have e47 : ((B s k : Int) == 47) = true := by rw [h47]; rfl
          have H47 := Lib.hid h47
          clear h47
          go_wp2_with fail
          refine (t_byteAt g s k _ _ _ _ (Blk.drewN HC1.out _) hk hs (by omega)).mono ?_
          rintro e w1 ⟨rfl, n2, rfl⟩
          simp only [show (1 : Int).toNat = 1 from rfl]
          by_cases g47 : k + 1 < s.size ∧ B s (k + 1) = 47
          · rw [if_pos g47.1, g47.2]
            obtain ⟨E, hE⟩ : ∃ E, many notNl s k = E := ⟨_, rfl⟩
            have hc : isCom s k = true := by simp [isCom, H47.out, g47.1, g47.2]
            have hEs : E ≤ s.size := by rw [← hE]; exact many_le _ _ hk
            have hEk : k < E := by rw [← hE]; exact com_gt hc
            have Hn := Lib.hid (show skip s E = R from by rw [← hE, ← skip_com hlt Hb.out hc]; exact HS1.out)
            have hend : E = s.size ∨ B s E < 128 := by
              by_cases q : E = s.size
              · exact Or.inl q
              · right
                have := many_end notNl s k (by omega)
                rw [hE] at this
                simp [notNl] at this
                omega
            have HB2 := Lib.hid (Bd_ascii hEs hend)
            have hok : EndOk s k (k + (((E - k : Nat) : Int)).toNat) := by
              rw [Int.toNat_natCast, show k + (E - k) = E from by omega]
              rcases hend with q | q
              · exact Or.inl q
              · exact Or.inr (Or.inl q)
            have HOK := Lib.hid hok
            obtain ⟨X, hX⟩ : ∃ X, s.extract k s.size = X := ⟨_, rfl⟩
            have hXs : X.size = s.size - k := by rw [← hX]; exact size_ext (Nat.le_refl _)
            have hXm : many (isNot 10) X 0 = E - k := by rw [← hX, many_tail _ _ _ _ (by omega), isNot_nl, Nat.add_zero, hE]
            obtain ⟨L, hL⟩ : ∃ L, X.extract 0 (E - k) = L := ⟨_, rfl⟩
            have hLs : L.size = E - k := by rw [← hL, size_ext (by omega)]; omega
            have HX := Lib.hid hX
            have HXs := Lib.hid hXs
            have HXm := Lib.hid hXm
            have HL := Lib.hid hL
            have HLs := Lib.hid hLs
            clear hX hXs hXm hL hLs hE hc g47 hok hend
            go_wp2_with fail
            refine (t_rest g s k _ _ _ (Blk.drewN HC1.out _) hk).mono ?_
            rintro e w1 ⟨rfl, n3, rfl⟩
            rw [HX.out]
            go_wp2_with fail
            refine (l_Cut2 X 10 _ (by have := HXs.out; omega)).mono ?_
            rintro e w1 ⟨b2, b3, rfl, n4, rfl⟩
            rw [HXm.out, HL.out]
            go_wp2_with fail
            rw [HLs.out]
            refine (t_take g s k _ _ (Blk.drewN HC1.out _) HB1.out (HG1.out.drewN _) hg (by omega) (by omega) hs HOK.out).mono ?_
            rintro e w2 ⟨rfl, HC2, HK2⟩
            have HC2 := Lib.hid HC2
            have HK2 := Lib.hid HK2
            go_wp2
            go_roundg (s.size - E)
            case measure => have := HQ.out; omega
            case rel => exact ⟨E, by omega, rfl, Lib.hid (by have := HC2.out; rwa [Int.toNat_natCast, show k + (E - k) = E from by omega] at this), Lib.hid ((HK1.out.drewN _).trans_same HK2.out), HB2, Hn⟩
          · have Hn := Lib.hid (show k = R from (skip_stop Hb.out (by
              cases q : isCom s k with
              | false => rfl
              | true => simp [isCom] at q; exact absurd ⟨q.1.2, q.2⟩ g47)).symm.trans HS1.out)
            by_cases h1 : k + 1 < s.size
            · rw [if_pos h1]
              have nn : ((B s (k + 1) : Int) == 47) = false := beq_eq_false_iff_ne.2 (fun q => g47 ⟨h1, by omega⟩)
              clear g47
              go_wp2
              rw [Exit.noGoto_normal]
              go_end0
              exact ⟨rfl, by rw [← Hn.out]; exact Blk.drewN HC1.out _, HK1.out.drewN _⟩
            · rw [if_neg h1]
              clear g47
              go_wp2
              rw [Exit.noGoto_normal]
              go_end0
              exact ⟨rfl, by rw [← Hn.out]; exact Blk.drewN HC1.out _, HK1.out.drewN _⟩
        · have e47 : ((B s k : Int) == 47) = false := beq_eq_false_iff_ne.2 (by omega)
          have Hn := Lib.hid (show k = R from (skip_stop Hb.out (by simp [isCom, h47])).symm.trans HS1.out)
          go_wp2
          rw [Exit.noGoto_normal]
          go_end0
          exact ⟨rfl, by rw [← Hn.out]; exact Blk.drewN HC1.out _, HK1.out.drewN _⟩
    · rw [if_neg hlt]
      have Hn := Lib.hid (show k = R from (skip_out hlt).symm.trans HS1.out)
      go_wp2
      rw [Exit.noGoto_normal]
      go_end0
      exact ⟨rfl, by rw [← Hn.out]; exact Blk.drewN HC1.out _, HK1.out.drewN _⟩

end Go.Proofs.YtgaanohloocokaaDoor
