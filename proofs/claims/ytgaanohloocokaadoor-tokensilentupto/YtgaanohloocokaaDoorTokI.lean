/-
  Walks of package token: number, without a point (huge).
-/
import Derived.Test.YtgaanohloocokaaDoorTokF
namespace Go.Proofs.YtgaanohloocokaaDoor
open Go.RowKit

set_option maxRecDepth 100000 in
set_option maxHeartbeats 4000000 in
theorem t_number_huge_a (g h' : Nat) (s : ByteArray) (o : Nat) (a b c : Int) (w : World) (h : CutP w g s o) (hT : Blk w h' 37 #[.int .i64 0, .string ⟨#[]⟩, .int .i64 0, .int .i64 a, .int .i64 b, .int .i64 c]) (hB : Bd s o) (hG : GL w) (hg : NG ≤ g) (hh : NG ≤ h') (hgh : g ≠ h') (ho : o < s.size) (hs : s.size ≤ 140737488351232) (hd : isDig (B s o) = true)
    (hr : (bv s (many isDig s o) == 46) = false) (hD1 : 9223372036854775808 ≤ dval s o (many isDig s o)) :
    Calls Tryd.prog 41 #[.pointer (some ⟨g, 0, none⟩), .pointer (some ⟨h', 0, none⟩)] w (NumPost g h' s o a b c w (numTok s o)) := by
  obtain ⟨K, hK⟩ : ∃ K, many isDig s o = K := ⟨_, rfl⟩
  have hoK : o < K := by rw [← hK, many_step ho hd]; exact many_ge _ _ _
  have hKs : K ≤ s.size := by rw [← hK]; exact many_le _ _ (by omega)
  have hdig : ∀ j, o ≤ j → j < K → isDig (B s j) = true := fun j a b => many_all isDig s o a (by rw [hK]; exact b)
  have hN := numTok_bv s o K hK
  rw [hK] at hr
  rw [hr, Bool.false_and, if_neg (by simp)] at hN
  rw [hK] at hD1
  obtain ⟨n, hn⟩ : ∃ n, K = o + n := ⟨K - o, by omega⟩
  subst hn
  have hn0 : 0 < n := by omega
  obtain ⟨X, hX⟩ : ∃ X, s.extract o s.size = X := ⟨_, rfl⟩
  have hXs : X.size = s.size - o := by rw [← hX]; exact size_ext (Nat.le_refl _)
  obtain ⟨W, hW⟩ : ∃ W, s.extract o (o + n) = W := ⟨_, rfl⟩
  have hWs : W.size = n := by rw [← hW, size_ext hKs]; omega
  have hXW : X.extract 0 n = W := by
    rw [← hX, ← hW, ByteArray.extract_extract]
    congr 1
    omega
  have hWp : 0 < W.size := by omega
  have HBW : (W[0]'hWp).toNat = B s o := by
    rw [B_eq W 0 hWp, ← hW, B_extract (by omega) hKs, Nat.add_zero]
  have hnX : n ≤ X.size := by omega
  have hsl := fun wx => run_slice_string_h (P := Tryd.prog) (w := wx) (t := 9) (s := X) Tryd.underlying9 .i64 (n : Int) (by omega) (by omega)
  simp only [Int.toNat_natCast, hXW] at hsl
  have hWi : (W.size : Int) = n := by omega
  have HX := Lib.hid hX
  have HW := Lib.hid hW
  have HWs := Lib.hid hWs
  have HC := Lib.hid h
  have HT := Lib.hid hT
  have HG := Lib.hid hG
  have HB := Lib.hid hB
  have HDIG := Lib.hid hdig
  have HK := Lib.hid (show ((many isDig s (o + (0 : Int).toNat) : Int)) - o = (n : Int) by rw [show o + (0 : Int).toNat = o from by simp, hK]; omega)
  have HKK := Lib.hid hK
  have key : (1 < n ∧ ((B s o : Int) == 48) = true) ∨ (¬ 1 < n) ∨ (1 < n ∧ ((B s o : Int) == 48) = false) := by
    by_cases a : 1 < n
    · cases q : ((B s o : Int) == 48)
      · exact Or.inr (Or.inr ⟨a, rfl⟩)
      · exact Or.inl ⟨a, rfl⟩
    · exact Or.inr (Or.inl a)
  have hz48 : (B s o == 48) = ((B s o : Int) == 48) := by rw [Bool.eq_iff_iff]; simp; omega
  have hlt1 : decide (o + 1 < o + n) = decide (1 < n) := by rw [Bool.eq_iff_iff]; simp
  rw [hz48, hlt1] at hN
  have HKEY := Lib.hid key
  have hhg : h' ≠ g := fun e => hgh e.symm
  clear key
  obtain ⟨ct0, ct1, ct2, ct3, ct4, ct5, fr0, fr1, fr2, fr3, fr4, fr5⟩ := HT.out.six
  have hb0 := bv_ge s (o + n)
  have hb1 := bv_le s (o + n)
  have hb2 := bv_ge s (o + n + 1)
  have hb3 := bv_le s (o + n + 1)
  clear hX hXs hW hWs hXW hdig hK hz48 hlt1
  obtain ⟨D, hD⟩ : ∃ D, dval s o (o + n) = D := ⟨_, rfl⟩
  rw [hD] at hN
  have HD := Lib.hid hD
  have hDD := hD1
  rw [hD] at hDD
  have hDI : (0 : Int) ≤ D := by omega
  have HOK := Lib.hid (show EndOk s o (o + ((n : Int)).toNat) from by rw [Int.toNat_natCast]; exact Or.inr (Or.inr ⟨by omega, dig_lt (HDIG.out _ (by omega) (by omega))⟩))
  obtain ⟨lq, hlq⟩ : ∃ lq, isLet (bv s (o + n)).toNat = lq := ⟨_, rfl⟩
  rw [hlq] at hN
  obtain ⟨N, hNN⟩ : ∃ N, numTok s o = N := ⟨_, rfl⟩
  have FN := Lib.hid (fin_int (hN.symm.trans hNN))
  have HNN := Lib.hid hNN
  rw [hNN]
  clear hN hNN hD hD1
  go_enter Tryd.func41, Tryd.ntmps41
  go_wp2_with fail
  refine (t_many_dig g s o _ _ _ _ HC.out (by omega) (by omega) hs).mono ?_
  rintro e w1 ⟨rfl, n1, rfl⟩
  rw [HK.out]
  go_wp2_with fail
  refine (t_rest g s o _ _ _ (Blk.drewN HC.out _) (by omega)).mono ?_
  rintro e w1 ⟨rfl, n2, rfl⟩
  rw [HX.out]
  go_wp2_with fail
  refine (t_byte g s o _ _ _ _ (Blk.drewN (Cut.far HC.out hgh _ _) _) (by omega) hs (by omega)).mono ?_
  rintro e w1 ⟨rfl, n3, rfl⟩
  rw [Int.toNat_natCast]
  have HCX := Lib.hid (show Cut (((w.setCell ⟨h', 0, none⟩ (.int .i64 2)).drewN (n1 + n2)).drewN n3) g s o (P s o).1 (P s o).2 from Blk.drewN (Blk.drewN (Cut.far HC.out hgh _ _) _) _)
  have HTX := Lib.hid (show Blk (((w.setCell ⟨h', 0, none⟩ (.int .i64 2)).drewN (n1 + n2)).drewN n3) h' 37 #[.int .i64 2, .string ⟨#[]⟩, .int .i64 0, .int .i64 a, .int .i64 b, .int .i64 c] from Blk.drewN (Blk.drewN (by simpa using HT.out.set 0 (.int .i64 2)) _) _)
  have HGX := Lib.hid (show GL (((w.setCell ⟨h', 0, none⟩ (.int .i64 2)).drewN (n1 + n2)).drewN n3) from ((HG.out.setCell (p := ⟨h', 0, none⟩) hh (.int .i64 2)).drewN _).drewN _)
  have HKX := Lib.hid (show Kp (at2 g h') w (((w.setCell ⟨h', 0, none⟩ (.int .i64 2)).drewN (n1 + n2)).drewN n3) from (((Kp.refl (at2 g h') w).at2_set 0 (.int .i64 2)).drewN _).drewN _)
  obtain ⟨w5, hw5⟩ : ∃ w5, ((w.setCell ⟨h', 0, none⟩ (.int .i64 2)).drewN (n1 + n2)).drewN n3 = w5 := ⟨_, rfl⟩
  rw [hw5] at HCX HTX HGX HKX ⊢
  clear hw5 ct0 ct1 ct2 ct3 ct4 ct5 fr0 fr1 fr2 fr3 fr4 fr5
  obtain ⟨ct0, ct1, ct2, ct3, ct4, ct5, fr0, fr1, fr2, fr3, fr4, fr5⟩ := HTX.out.six
  rcases HKEY.out with ⟨k1, k2⟩ | k1 | ⟨k1, k2⟩
  · go_wp2
    go_ret
    rw [← FN.out.1 (decide_eq_true k1) k2]
    exact ⟨rfl, ⟨2, ⟨#[]⟩, 0⟩, fun q => absurd q (by simp), HTX.out, HCX.out, HKX.out⟩
  · have LT : decide (1 < n) = false := decide_eq_false k1
    cases lq with
    | true =>
      go_wp2_with fail
      refine (t_byte g s o _ _ _ _ HCX.out (by omega) hs (by omega)).mono ?_
      rintro e w1 ⟨rfl, n6, rfl⟩
      rw [Int.toNat_natCast]
      go_wp2_with fail
      refine (t_letter _ _ (by omega)).mono ?_
      rintro e w' ⟨rfl, rfl⟩
      go_wp2
      go_ret
      rw [← FN.out.2.1 (by simp)]
      exact ⟨rfl, ⟨2, ⟨#[]⟩, 0⟩, fun q => absurd q (by simp), Blk.drewN HTX.out _, Blk.drewN HCX.out _, HKX.out.drewN _⟩
    | false =>
      go_wp2_with fail
      refine (t_byte g s o _ _ _ _ HCX.out (by omega) hs (by omega)).mono ?_
      rintro e w1 ⟨rfl, n6, rfl⟩
      rw [Int.toNat_natCast]
      go_wp2_with fail
      refine (t_letter _ _ (by omega)).mono ?_
      rintro e w' ⟨rfl, rfl⟩
      go_wp2_with fail
      rw [← HW.out]
      refine (l_Atoi_big (by omega) hKs hs HDIG.out (by have := HD.out; omega) _ (HGX.out.drewN n6)).mono ?_
      rintro e w4 ⟨v, T, p, rfl, hb4⟩
      have HC4 := Lib.hid (Blk.below (Blk.drewN HCX.out n6) hb4)
      have HT4 := Lib.hid (Blk.below (Blk.drewN HTX.out n6) hb4)
      have HK4 := Lib.hid ((HKX.out.drewN n6).below hb4)
      clear hb4 ct0 ct1 ct2 ct3 ct4 ct5 fr0 fr1 fr2 fr3 fr4 fr5
      go_wp2
      go_ret
      rw [← FN.out.2.2.1 (decide_eq_true (by omega))]
      exact ⟨rfl, ⟨2, ⟨#[]⟩, 0⟩, fun q => absurd q (by simp), HT4.out, HC4.out, HK4.out⟩
  · have HK2' := Lib.hid k2
    cases lq with
    | true =>
      go_wp2_with fail
      refine (t_byte g s o _ _ _ _ HCX.out (by omega) hs (by omega)).mono ?_
      rintro e w1 ⟨rfl, n6, rfl⟩
      rw [Int.toNat_natCast]
      go_wp2_with fail
      refine (t_letter _ _ (by omega)).mono ?_
      rintro e w' ⟨rfl, rfl⟩
      go_wp2
      go_ret
      rw [← FN.out.2.1 (by simp)]
      exact ⟨rfl, ⟨2, ⟨#[]⟩, 0⟩, fun q => absurd q (by simp), Blk.drewN HTX.out _, Blk.drewN HCX.out _, HKX.out.drewN _⟩
    | false =>
      go_wp2_with fail
      refine (t_byte g s o _ _ _ _ HCX.out (by omega) hs (by omega)).mono ?_
      rintro e w1 ⟨rfl, n6, rfl⟩
      rw [Int.toNat_natCast]
      go_wp2_with fail
      refine (t_letter _ _ (by omega)).mono ?_
      rintro e w' ⟨rfl, rfl⟩
      go_wp2_with fail
      rw [← HW.out]
      refine (l_Atoi_big (by omega) hKs hs HDIG.out (by have := HD.out; omega) _ (HGX.out.drewN n6)).mono ?_
      rintro e w4 ⟨v, T, p, rfl, hb4⟩
      have HC4 := Lib.hid (Blk.below (Blk.drewN HCX.out n6) hb4)
      have HT4 := Lib.hid (Blk.below (Blk.drewN HTX.out n6) hb4)
      have HK4 := Lib.hid ((HKX.out.drewN n6).below hb4)
      clear hb4 ct0 ct1 ct2 ct3 ct4 ct5 fr0 fr1 fr2 fr3 fr4 fr5
      go_wp2
      go_ret
      rw [← FN.out.2.2.1 (decide_eq_true (by omega))]
      exact ⟨rfl, ⟨2, ⟨#[]⟩, 0⟩, fun q => absurd q (by simp), HT4.out, HC4.out, HK4.out⟩

set_option maxRecDepth 100000 in
set_option maxHeartbeats 4000000 in
theorem t_number_huge_b (g h' : Nat) (s : ByteArray) (o : Nat) (a b c : Int) (w : World) (h : CutP w g s o) (hT : Blk w h' 37 #[.int .i64 0, .string ⟨#[]⟩, .int .i64 0, .int .i64 a, .int .i64 b, .int .i64 c]) (hB : Bd s o) (hG : GL w) (hg : NG ≤ g) (hh : NG ≤ h') (hgh : g ≠ h') (ho : o < s.size) (hs : s.size ≤ 140737488351232) (hd : isDig (B s o) = true)
    (hr : (bv s (many isDig s o) == 46) = true) (hr2 : isDig (bv s (many isDig s o + 1)).toNat = false) (hD1 : 9223372036854775808 ≤ dval s o (many isDig s o)) :
    Calls Tryd.prog 41 #[.pointer (some ⟨g, 0, none⟩), .pointer (some ⟨h', 0, none⟩)] w (NumPost g h' s o a b c w (numTok s o)) := by
  obtain ⟨K, hK⟩ : ∃ K, many isDig s o = K := ⟨_, rfl⟩
  have hoK : o < K := by rw [← hK, many_step ho hd]; exact many_ge _ _ _
  have hKs : K ≤ s.size := by rw [← hK]; exact many_le _ _ (by omega)
  have hdig : ∀ j, o ≤ j → j < K → isDig (B s j) = true := fun j a b => many_all isDig s o a (by rw [hK]; exact b)
  have hN := numTok_bv s o K hK
  rw [hK] at hr hr2
  rw [hr, hr2, Bool.and_false, if_neg (by simp)] at hN
  rw [hK] at hD1
  obtain ⟨n, hn⟩ : ∃ n, K = o + n := ⟨K - o, by omega⟩
  subst hn
  have hn0 : 0 < n := by omega
  obtain ⟨X, hX⟩ : ∃ X, s.extract o s.size = X := ⟨_, rfl⟩
  have hXs : X.size = s.size - o := by rw [← hX]; exact size_ext (Nat.le_refl _)
  obtain ⟨W, hW⟩ : ∃ W, s.extract o (o + n) = W := ⟨_, rfl⟩
  have hWs : W.size = n := by rw [← hW, size_ext hKs]; omega
  have hXW : X.extract 0 n = W := by
    rw [← hX, ← hW, ByteArray.extract_extract]
    congr 1
    omega
  have hWp : 0 < W.size := by omega
  have HBW : (W[0]'hWp).toNat = B s o := by
    rw [B_eq W 0 hWp, ← hW, B_extract (by omega) hKs, Nat.add_zero]
  have hnX : n ≤ X.size := by omega
  have hsl := fun wx => run_slice_string_h (P := Tryd.prog) (w := wx) (t := 9) (s := X) Tryd.underlying9 .i64 (n : Int) (by omega) (by omega)
  simp only [Int.toNat_natCast, hXW] at hsl
  have hWi : (W.size : Int) = n := by omega
  have HX := Lib.hid hX
  have HW := Lib.hid hW
  have HWs := Lib.hid hWs
  have HC := Lib.hid h
  have HT := Lib.hid hT
  have HG := Lib.hid hG
  have HB := Lib.hid hB
  have HDIG := Lib.hid hdig
  have HK := Lib.hid (show ((many isDig s (o + (0 : Int).toNat) : Int)) - o = (n : Int) by rw [show o + (0 : Int).toNat = o from by simp, hK]; omega)
  have HKK := Lib.hid hK
  have key : (1 < n ∧ ((B s o : Int) == 48) = true) ∨ (¬ 1 < n) ∨ (1 < n ∧ ((B s o : Int) == 48) = false) := by
    by_cases a : 1 < n
    · cases q : ((B s o : Int) == 48)
      · exact Or.inr (Or.inr ⟨a, rfl⟩)
      · exact Or.inl ⟨a, rfl⟩
    · exact Or.inr (Or.inl a)
  have hz48 : (B s o == 48) = ((B s o : Int) == 48) := by rw [Bool.eq_iff_iff]; simp; omega
  have hlt1 : decide (o + 1 < o + n) = decide (1 < n) := by rw [Bool.eq_iff_iff]; simp
  rw [hz48, hlt1] at hN
  have HKEY := Lib.hid key
  have hhg : h' ≠ g := fun e => hgh e.symm
  clear key
  obtain ⟨ct0, ct1, ct2, ct3, ct4, ct5, fr0, fr1, fr2, fr3, fr4, fr5⟩ := HT.out.six
  have hb0 := bv_ge s (o + n)
  have hb1 := bv_le s (o + n)
  have hb2 := bv_ge s (o + n + 1)
  have hb3 := bv_le s (o + n + 1)
  clear hX hXs hW hWs hXW hdig hK hz48 hlt1
  obtain ⟨D, hD⟩ : ∃ D, dval s o (o + n) = D := ⟨_, rfl⟩
  rw [hD] at hN
  have HD := Lib.hid hD
  have hDD := hD1
  rw [hD] at hDD
  have hDI : (0 : Int) ≤ D := by omega
  have HOK := Lib.hid (show EndOk s o (o + ((n : Int)).toNat) from by rw [Int.toNat_natCast]; exact Or.inr (Or.inr ⟨by omega, dig_lt (HDIG.out _ (by omega) (by omega))⟩))
  obtain ⟨lq, hlq⟩ : ∃ lq, isLet (bv s (o + n)).toNat = lq := ⟨_, rfl⟩
  rw [hlq] at hN
  obtain ⟨N, hNN⟩ : ∃ N, numTok s o = N := ⟨_, rfl⟩
  have FN := Lib.hid (fin_int (hN.symm.trans hNN))
  have HNN := Lib.hid hNN
  rw [hNN]
  clear hN hNN hD hD1
  go_enter Tryd.func41, Tryd.ntmps41
  go_wp2_with fail
  refine (t_many_dig g s o _ _ _ _ HC.out (by omega) (by omega) hs).mono ?_
  rintro e w1 ⟨rfl, n1, rfl⟩
  rw [HK.out]
  go_wp2_with fail
  refine (t_rest g s o _ _ _ (Blk.drewN HC.out _) (by omega)).mono ?_
  rintro e w1 ⟨rfl, n2, rfl⟩
  rw [HX.out]
  go_wp2_with fail
  refine (t_byte g s o _ _ _ _ (Blk.drewN (Cut.far HC.out hgh _ _) _) (by omega) hs (by omega)).mono ?_
  rintro e w1 ⟨rfl, n3, rfl⟩
  rw [Int.toNat_natCast]
  go_wp2_with fail
  refine (t_byte g s o _ _ _ _ (Blk.drewN (Cut.far HC.out hgh _ _) _) (by omega) hs (by omega)).mono ?_
  rintro e w1 ⟨rfl, n4, rfl⟩
  rw [show o + ((n : Int) + 1).toNat = o + n + 1 from by omega]
  have HCX := Lib.hid (show Cut (((w.setCell ⟨h', 0, none⟩ (.int .i64 2)).drewN (n1 + n2 + n3)).drewN n4) g s o (P s o).1 (P s o).2 from Blk.drewN (Blk.drewN (Cut.far HC.out hgh _ _) _) _)
  have HTX := Lib.hid (show Blk (((w.setCell ⟨h', 0, none⟩ (.int .i64 2)).drewN (n1 + n2 + n3)).drewN n4) h' 37 #[.int .i64 2, .string ⟨#[]⟩, .int .i64 0, .int .i64 a, .int .i64 b, .int .i64 c] from Blk.drewN (Blk.drewN (by simpa using HT.out.set 0 (.int .i64 2)) _) _)
  have HGX := Lib.hid (show GL (((w.setCell ⟨h', 0, none⟩ (.int .i64 2)).drewN (n1 + n2 + n3)).drewN n4) from ((HG.out.setCell (p := ⟨h', 0, none⟩) hh (.int .i64 2)).drewN _).drewN _)
  have HKX := Lib.hid (show Kp (at2 g h') w (((w.setCell ⟨h', 0, none⟩ (.int .i64 2)).drewN (n1 + n2 + n3)).drewN n4) from (((Kp.refl (at2 g h') w).at2_set 0 (.int .i64 2)).drewN _).drewN _)
  obtain ⟨w5, hw5⟩ : ∃ w5, ((w.setCell ⟨h', 0, none⟩ (.int .i64 2)).drewN (n1 + n2 + n3)).drewN n4 = w5 := ⟨_, rfl⟩
  rw [hw5] at HCX HTX HGX HKX ⊢
  clear hw5 ct0 ct1 ct2 ct3 ct4 ct5 fr0 fr1 fr2 fr3 fr4 fr5
  obtain ⟨ct0, ct1, ct2, ct3, ct4, ct5, fr0, fr1, fr2, fr3, fr4, fr5⟩ := HTX.out.six
  go_wp2_with fail
  refine (t_digit _ _ (by omega)).mono ?_
  rintro e w' ⟨rfl, rfl⟩
  rcases HKEY.out with ⟨k1, k2⟩ | k1 | ⟨k1, k2⟩
  · go_wp2
    go_ret
    rw [← FN.out.1 (decide_eq_true k1) k2]
    exact ⟨rfl, ⟨2, ⟨#[]⟩, 0⟩, fun q => absurd q (by simp), HTX.out, HCX.out, HKX.out⟩
  · have LT : decide (1 < n) = false := decide_eq_false k1
    cases lq with
    | true =>
      go_wp2_with fail
      refine (t_byte g s o _ _ _ _ HCX.out (by omega) hs (by omega)).mono ?_
      rintro e w1 ⟨rfl, n6, rfl⟩
      rw [Int.toNat_natCast]
      go_wp2_with fail
      refine (t_letter _ _ (by omega)).mono ?_
      rintro e w' ⟨rfl, rfl⟩
      go_wp2
      go_ret
      rw [← FN.out.2.1 (by simp)]
      exact ⟨rfl, ⟨2, ⟨#[]⟩, 0⟩, fun q => absurd q (by simp), Blk.drewN HTX.out _, Blk.drewN HCX.out _, HKX.out.drewN _⟩
    | false =>
      go_wp2_with fail
      refine (t_byte g s o _ _ _ _ HCX.out (by omega) hs (by omega)).mono ?_
      rintro e w1 ⟨rfl, n6, rfl⟩
      rw [Int.toNat_natCast]
      go_wp2_with fail
      refine (t_letter _ _ (by omega)).mono ?_
      rintro e w' ⟨rfl, rfl⟩
      go_wp2_with fail
      rw [← HW.out]
      refine (l_Atoi_big (by omega) hKs hs HDIG.out (by have := HD.out; omega) _ (HGX.out.drewN n6)).mono ?_
      rintro e w4 ⟨v, T, p, rfl, hb4⟩
      have HC4 := Lib.hid (Blk.below (Blk.drewN HCX.out n6) hb4)
      have HT4 := Lib.hid (Blk.below (Blk.drewN HTX.out n6) hb4)
      have HK4 := Lib.hid ((HKX.out.drewN n6).below hb4)
      clear hb4 ct0 ct1 ct2 ct3 ct4 ct5 fr0 fr1 fr2 fr3 fr4 fr5
      go_wp2
      go_ret
      rw [← FN.out.2.2.1 (decide_eq_true (by omega))]
      exact ⟨rfl, ⟨2, ⟨#[]⟩, 0⟩, fun q => absurd q (by simp), HT4.out, HC4.out, HK4.out⟩
  · have HK2' := Lib.hid k2
    cases lq with
    | true =>
      go_wp2_with fail
      refine (t_byte g s o _ _ _ _ HCX.out (by omega) hs (by omega)).mono ?_
      rintro e w1 ⟨rfl, n6, rfl⟩
      rw [Int.toNat_natCast]
      go_wp2_with fail
      refine (t_letter _ _ (by omega)).mono ?_
      rintro e w' ⟨rfl, rfl⟩
      go_wp2
      go_ret
      rw [← FN.out.2.1 (by simp)]
      exact ⟨rfl, ⟨2, ⟨#[]⟩, 0⟩, fun q => absurd q (by simp), Blk.drewN HTX.out _, Blk.drewN HCX.out _, HKX.out.drewN _⟩
    | false =>
      go_wp2_with fail
      refine (t_byte g s o _ _ _ _ HCX.out (by omega) hs (by omega)).mono ?_
      rintro e w1 ⟨rfl, n6, rfl⟩
      rw [Int.toNat_natCast]
      go_wp2_with fail
      refine (t_letter _ _ (by omega)).mono ?_
      rintro e w' ⟨rfl, rfl⟩
      go_wp2_with fail
      rw [← HW.out]
      refine (l_Atoi_big (by omega) hKs hs HDIG.out (by have := HD.out; omega) _ (HGX.out.drewN n6)).mono ?_
      rintro e w4 ⟨v, T, p, rfl, hb4⟩
      have HC4 := Lib.hid (Blk.below (Blk.drewN HCX.out n6) hb4)
      have HT4 := Lib.hid (Blk.below (Blk.drewN HTX.out n6) hb4)
      have HK4 := Lib.hid ((HKX.out.drewN n6).below hb4)
      clear hb4 ct0 ct1 ct2 ct3 ct4 ct5 fr0 fr1 fr2 fr3 fr4 fr5
      go_wp2
      go_ret
      rw [← FN.out.2.2.1 (decide_eq_true (by omega))]
      exact ⟨rfl, ⟨2, ⟨#[]⟩, 0⟩, fun q => absurd q (by simp), HT4.out, HC4.out, HK4.out⟩

end Go.Proofs.YtgaanohloocokaaDoor
