/-
  Walks of package token: token at a mark.
-/
import Derived.Test.YtgaanohloocokaaDoorTokL
import Derived.Test.YtgaanohloocokaaDoorPlain
namespace Go.Proofs.YtgaanohloocokaaDoor
open Go.RowKit

set_option maxRecDepth 100000 in
set_option maxHeartbeats 4000000 in
theorem t_tok_mark (g : Nat) (s : ByteArray) (o : Nat) (w : World) (h : CutP w g s o) (hB : Bd s o) (hG : GL w) (hg : NG ≤ g) (ho : o ≤ s.size) (hs : s.size ≤ 140737488351232) (h1 : o < s.size) (hl : isLet (B s o) = false) (hd : isDig (B s o) = false) (hq : ¬ B s o = 34) :
    Calls Tryd.prog 27 #[.pointer (some ⟨g, 0, none⟩)] w (TokPost g s o w (one s o)) := by
  have hbv : bv s o = B s o := bv_in h1
  have hl2 : isLet (bv s o).toNat = false := by rw [hbv, Int.toNat_natCast]; exact hl
  have hd2 : isDig (bv s o).toNat = false := by rw [hbv, Int.toNat_natCast]; exact hd
  have n34 : (bv s o == 34) = false := beq_eq_false_iff_ne.2 (by omega)
  have HY := Lib.hid (fun n hn hm => one_mark_yes s o h1 hl hd hq n hn hm)
  have HNO := Lib.hid (fun hm => one_mark_no s o h1 hl hd hq hm)
  clear hbv hl hd
  obtain ⟨N, hNN⟩ : ∃ N, one s o = N := ⟨_, rfl⟩
  rw [hNN]
  have HNN := Lib.hid hNN
  clear hNN
  obtain ⟨X, hX⟩ : ∃ X, s.extract o s.size = X := ⟨_, rfl⟩
  have hXs : X.size = s.size - o := by rw [← hX]; exact size_ext (Nat.le_refl _)
  have hXe : X.toList.isEmpty = decide (s.size ≤ o) := by
    rw [Go.ByteArray.toList_eq, Bool.eq_iff_iff]
    simp only [List.isEmpty_iff, decide_eq_true_eq]
    have hl : X.data.toList.length = X.size := by rw [Array.length_toList]; rfl
    constructor
    · intro q; rw [q] at hl; simp at hl; omega
    · intro q; exact List.eq_nil_of_length_eq_zero (by omega)
  have HX := Lib.hid hX
  have HXs := Lib.hid hXs
  have HC := Lib.hid h
  have HG := Lib.hid hG
  have HB := Lib.hid hB
  have hglt := HC.out.lt
  have hb0 := bv_ge s o
  obtain ⟨cc0, cc1, cc2, cc3, cf0, cf1, cf2, cf3⟩ := HC.out.four
  clear hX hXs h hG hB
  go_enter Tryd.func27, Tryd.ntmps27
  go_wp2_with fail
  refine (t_byte g s o _ _ _ _ (Blk.alloc (Blk.alloc HC.out _) _) ho hs (by omega)).mono ?_
  rintro e w1 ⟨rfl, n1, rfl⟩
  rw [Int.toNat_zero, Nat.add_zero]
  have HC5 := Lib.hid (show CutP (((w.alloc (.cells #[.int .i64 0, .string ⟨#[]⟩, .int .i64 0, .int .i64 0, .int .i64 0, .int .i64 0] 37)).alloc (.cells #[.int .i64 0, .string ⟨#[]⟩, .int .i64 0, .int .i64 o, .int .i64 (P s o).1, .int .i64 (P s o).2] 37)).drewN n1) g s o from Blk.drewN (Blk.alloc (Blk.alloc HC.out _) _) _)
  have HR5 := Lib.hid (show Blk (((w.alloc (.cells #[.int .i64 0, .string ⟨#[]⟩, .int .i64 0, .int .i64 0, .int .i64 0, .int .i64 0] 37)).alloc (.cells #[.int .i64 0, .string ⟨#[]⟩, .int .i64 0, .int .i64 o, .int .i64 (P s o).1, .int .i64 (P s o).2] 37)).drewN n1) w.heap.size 37 #[.int .i64 0, .string ⟨#[]⟩, .int .i64 0, .int .i64 0, .int .i64 0, .int .i64 0] from Blk.drewN (Blk.alloc (Blk.new _ _ _) _) _)
  have HT5 := Lib.hid (show Blk (((w.alloc (.cells #[.int .i64 0, .string ⟨#[]⟩, .int .i64 0, .int .i64 0, .int .i64 0, .int .i64 0] 37)).alloc (.cells #[.int .i64 0, .string ⟨#[]⟩, .int .i64 0, .int .i64 o, .int .i64 (P s o).1, .int .i64 (P s o).2] 37)).drewN n1) (w.heap.size + 1) 37 #[.int .i64 0, .string ⟨#[]⟩, .int .i64 0, .int .i64 o, .int .i64 (P s o).1, .int .i64 (P s o).2] from Blk.drewN (by simpa using Blk.new (w.alloc (.cells #[.int .i64 0, .string ⟨#[]⟩, .int .i64 0, .int .i64 0, .int .i64 0, .int .i64 0] 37)) 37 #[.int .i64 0, .string ⟨#[]⟩, .int .i64 0, .int .i64 o, .int .i64 (P s o).1, .int .i64 (P s o).2]) _)
  have HG5 := Lib.hid (show GL (((w.alloc (.cells #[.int .i64 0, .string ⟨#[]⟩, .int .i64 0, .int .i64 0, .int .i64 0, .int .i64 0] 37)).alloc (.cells #[.int .i64 0, .string ⟨#[]⟩, .int .i64 0, .int .i64 o, .int .i64 (P s o).1, .int .i64 (P s o).2] 37)).drewN n1) from ((HG.out.alloc _).alloc _).drewN _)
  have HK5 := Lib.hid (show Kp (at_ g) w (((w.alloc (.cells #[.int .i64 0, .string ⟨#[]⟩, .int .i64 0, .int .i64 0, .int .i64 0, .int .i64 0] 37)).alloc (.cells #[.int .i64 0, .string ⟨#[]⟩, .int .i64 0, .int .i64 o, .int .i64 (P s o).1, .int .i64 (P s o).2] 37)).drewN n1) from ((((Kp.refl _ _).alloc _).alloc _).drewN _))
  obtain ⟨w5, hw5⟩ : ∃ w5, ((w.alloc (.cells #[.int .i64 0, .string ⟨#[]⟩, .int .i64 0, .int .i64 0, .int .i64 0, .int .i64 0] 37)).alloc (.cells #[.int .i64 0, .string ⟨#[]⟩, .int .i64 0, .int .i64 o, .int .i64 (P s o).1, .int .i64 (P s o).2] 37)).drewN n1 = w5 := ⟨_, rfl⟩
  rw [hw5] at HC5 HR5 HT5 HG5 HK5 ⊢
  clear hw5 cc0 cc1 cc2 cc3 cf0 cf1 cf2 cf3
  obtain ⟨rt0, rt1, rt2, rt3, rt4, rt5, rf0, rf1, rf2, rf3, rf4, rf5⟩ := HR5.out.six
  obtain ⟨ct0, ct1, ct2, ct3, ct4, ct5, fr0, fr1, fr2, fr3, fr4, fr5⟩ := HT5.out.six
  have hz5 := HT5.out.lt
  have hz6 := HR5.out.lt
  have hgr : g ≠ w.heap.size := by omega
  have hgt : g ≠ w.heap.size + 1 := by omega
  have hng := HG.out.size
  go_wp2_with fail
  refine (t_rest g s o _ _ _ HC5.out ho).mono ?_
  rintro e w1 ⟨rfl, n2, rfl⟩
  rw [HX.out]
  have hXt : X.toList.isEmpty = false := by rw [hXe]; exact decide_eq_false (by omega)
  clear hXe
  have HPM := Lib.hid (fun m => prefix_mark s o m ho)
  go_wp2_with fail
  refine (t_letter _ _ hb0).mono ?_
  rintro e w' ⟨rfl, rfl⟩
  go_wp2_with fail
  refine (t_digit _ _ hb0).mono ?_
  rintro e w' ⟨rfl, rfl⟩
  go_wp2_with fail
  refine (t_marks _).mono ?_
  rintro e w6 ⟨rfl, hb6⟩
  have HC6 := Lib.hid (show CutP w6 g s o from Blk.below (Blk.drewN HC5.out _) hb6)
  have HT6 := Lib.hid (Blk.below (Blk.drewN HT5.out _) hb6)
  have HR6 := Lib.hid (Blk.below (Blk.drewN HR5.out _) hb6)
  have HG6 := Lib.hid ((HG5.out.drewN _).below hb6)
  have HK6 := Lib.hid ((HK5.out.drewN _).below hb6)
  clear hb6 rt0 rt1 rt2 rt3 rt4 rt5 rf0 rf1 rf2 rf3 rf4 rf5 ct0 ct1 ct2 ct3 ct4 ct5 fr0 fr1 fr2 fr3 fr4 fr5
  go_wp2
  go_loopw [73] (fun v wr => ∃ n : Nat, n ≤ 10 ∧ v = .int .i64 n ∧ Hid (∀ m, m < n → markAt s o (mp m) = false) ∧ Hid (CutP wr g s o) ∧ Hid (Blk wr (w.heap.size + 1) 37 #[.int .i64 0, .string ⟨#[]⟩, .int .i64 0, .int .i64 o, .int .i64 (P s o).1, .int .i64 (P s o).2]) ∧
      Hid (Blk wr w.heap.size 37 #[.int .i64 0, .string ⟨#[]⟩, .int .i64 0, .int .i64 0, .int .i64 0, .int .i64 0]) ∧ Hid (GL wr) ∧ Hid (Kp (at_ g) w wr)) (fun v _ => 10 - (intOf v).toNat)
  case atStart => exact ⟨0, by omega, rfl, fun m hm => by omega, HC6, HT6, HR6, HG6, HK6⟩
  case round =>
    obtain ⟨n, hn, rfl, HA, HC7, HT7, HR7, HG7, HK7⟩ := hrel
    by_cases hn10 : n < 10
    · have hidx := fun wx => marks_index wx n hn10
      obtain ⟨mm, hmm⟩ : ∃ mm, mp n = mm := ⟨_, rfl⟩
      have hm10 : mm < 10 := by rw [← hmm]; unfold mp; split <;> omega
      obtain ⟨M, hM⟩ : ∃ M, MK mm = M := ⟨_, rfl⟩
      rw [hmm, hM] at hidx
      have hz := MK_size mm
      rw [hM] at hz
      have HMM := Lib.hid hmm
      have HM := Lib.hid hM
      clear hmm hM
      obtain ⟨hz1, hz2⟩ := hz
      have hidx' : ∀ (A : Array Value), A = marksA → ∀ wx, (Instr.index 72 (.agg A) (.int .i64 (n : Int))).run Tryd.prog wx = .ok (.string M) wx := fun A e wx => by subst e; exact hidx wx
      cases hat : markAt s o mm with
      | true =>
        have HN := Lib.hid (show N = (⟨5, M, 0⟩, o + M.size, 0) by rw [← HNN.out, HY.out mm hm10 hat, HM.out])
        have HOK := Lib.hid (show EndOk s o (o + ((M.size : Int)).toNat) by rw [Int.toNat_natCast]; have := mark_ascii hm10 hat; rwa [HM.out] at this)
        have hx := (markAt_iff s o mm).1 hat
        rw [HM.out] at hx
        have hle : o + M.size ≤ s.size := hx.1
        have HXM := Lib.hid hx.2
        have HAT := Lib.hid hat
        clear hx hat
        go_wp2_with fail
        refine (t_rest g s o _ _ _ HC7.out ho).mono ?_
        rintro e w1 ⟨rfl, n7, rfl⟩
        rw [HX.out]
        go_wp2_with fail
        refine (Tryd.strings_HasPrefix X M _).mono ?_
        rintro e w1 ⟨rfl, rfl⟩
        rw [← HX.out, ← HM.out, HPM.out mm, HAT.out, HM.out, HX.out]
        go_wp2_with fail
        refine (t_take g s o _ _ (Blk.drewN HC7.out _) HB.out (HG7.out.drewN _) hg (by omega) (by omega) hs HOK.out).mono ?_
        rintro e w8 ⟨rfl, HC8, HK8⟩
        rw [Int.toNat_natCast] at *
        rw [HXM.out]
        have HR8 := Lib.hid (Blk.kp (Blk.drewN HR7.out _) HK8 (fun q => hgr q.symm))
        have HT8 := Lib.hid (Blk.kp (Blk.drewN HT7.out _) HK8 (fun q => hgt q.symm))
        have HK9 := Lib.hid ((HK7.out.drewN _).trans_same HK8)
        have HC9 := Lib.hid HC8
        clear HC8 HK8
        obtain ⟨ct0, ct1, ct2, ct3, ct4, ct5, fr0, fr1, fr2, fr3, fr4, fr5⟩ := HT8.out.six
        obtain ⟨rt0, rt1, rt2, rt3, rt4, rt5, rf0, rf1, rf2, rf3, rf4, rf5⟩ := HR8.out.six
        go_wp2
        rw [HN.out]
        refine bodyPost_ret (results_ct (p := 2) (u := 3) rfl _ _ w.heap.size 37 _ rfl (Blk.six_set (Blk.far (p := ⟨w.heap.size + 1, 1, none⟩) (Blk.far (p := ⟨w.heap.size + 1, 0, none⟩) HR8.out (by simp) _) (by simp) _)) wideToken) rfl ?_
        exact six_post (N := (⟨5, M, 0⟩, o + M.size, 0)) (⟨5, M, 0⟩) (fun _ => rfl) (Cut.far (Cut.far HC9.out hgt 0 _) hgt 1 _) ((HK9.out.at_new (by omega) 0 _).at_new (by omega) 1 _) hgr (Nat.le_refl _)
      | false =>
        have HAT := Lib.hid hat
        clear hat
        go_wp2_with fail
        refine (t_rest g s o _ _ _ HC7.out ho).mono ?_
        rintro e w1 ⟨rfl, n7, rfl⟩
        rw [HX.out]
        go_wp2_with fail
        refine (Tryd.strings_HasPrefix X M _).mono ?_
        rintro e w1 ⟨rfl, rfl⟩
        rw [← HX.out, ← HM.out, HPM.out mm, HAT.out, HM.out, HX.out]
        go_wp2
        go_roundw
        case rel => exact ⟨n + 1, by omega, by go_num, fun m h => by
          by_cases e : m = n
          · rw [e, HMM.out]; exact HAT.out
          · exact HA.out m (by omega), Blk.drewN HC7.out _, Blk.drewN HT7.out _, Blk.drewN HR7.out _, HG7.out.drewN _, HK7.out.drewN _⟩
        case measure => simp [intOf]; omega
    · obtain rfl : n = 10 := by omega
      have HN := Lib.hid (show N = (Tk.zero, o, 40) by
        rw [← HNN.out]
        refine HNO.out (fun m hm => ?_)
        by_cases h8 : m < 2
        · have := HA.out (m + 8) (by omega)
          unfold mp at this
          rw [if_neg (by omega), show m + 8 - 8 = m from by omega] at this
          exact this
        · have := HA.out (m - 2) (by omega)
          unfold mp at this
          rw [if_pos (by omega), show m - 2 + 2 = m from by omega] at this
          exact this)
      obtain ⟨ct0, ct1, ct2, ct3, ct4, ct5, fr0, fr1, fr2, fr3, fr4, fr5⟩ := HT7.out.six
      obtain ⟨rt0, rt1, rt2, rt3, rt4, rt5, rf0, rf1, rf2, rf3, rf4, rf5⟩ := HR7.out.six
      have hz7 := HT7.out.lt
      have hz8 := HR7.out.lt
      go_wp2
      rw [HN.out]
      refine bodyPost_ret (results_ct (p := 2) (u := 3) rfl _ _ w.heap.size 37 _ rfl (Blk.six_set (HR7.out)) wideToken) rfl ?_
      exact six_post (N := (Tk.zero, o, 40)) (Tk.zero) (fun q => absurd q (by simp)) (HC7.out) (HK7.out) hgr (Nat.le_refl _)

end Go.Proofs.YtgaanohloocokaaDoor
