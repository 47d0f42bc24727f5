/-
  Walks of package token: number, with a point.
-/
import Derived.Test.YtgaanohloocokaaDoorTokE
namespace Go.Proofs.YtgaanohloocokaaDoor
open Go.RowKit

theorem Cut.far {w : World} {g h : Nat} {s : ByteArray} {o : Nat} {l c : Int} (k : Cut w g s o l c) (hgh : g ≠ h) (i : Nat) (u : Value) : Cut (w.setCell ⟨h, i, none⟩ u) g s o l c := Blk.far (p := ⟨h, i, none⟩) k hgh u

/-- what cutting a number comes to -/
def NumPost (g h : Nat) (s : ByteArray) (o : Nat) (a b c : Int) (w : World) (N : Tk × Nat × Int) (e : Ending) (w' : World) : Prop :=
  e = .returned (.int .i64 N.2.2) ∧ ∃ T : Tk, (N.2.2 = 0 → T = N.1) ∧
    Blk w' h 37 #[.int .i64 T.k, .string T.t, .int .i64 T.n, .int .i64 a, .int .i64 b, .int .i64 c] ∧ CutP w' g s (if N.2.2 = 0 then N.2.1 else o) ∧ Kp (at2 g h) w w'

theorem Kp.at2_set {w w' : World} {g h : Nat} (k : Kp (at2 g h) w w') (i : Nat) (u : Value) : Kp (at2 g h) w (w'.setCell ⟨h, i, none⟩ u) := Kp.setCell (p := ⟨h, i, none⟩) k (fun _ => Or.inr rfl) u
theorem Kp.at2_left {w w' w2 : World} {g h : Nat} (k : Kp (at2 g h) w w') (k2 : Kp (at_ g) w' w2) : Kp (at2 g h) w w2 := k.trans k2 (fun _ _ t => Or.inl t)

set_option maxRecDepth 100000 in
set_option maxHeartbeats 4000000 in
theorem t_number_real (g h' : Nat) (s : ByteArray) (o : Nat) (a b c : Int) (w : World) (h : CutP w g s o) (hT : Blk w h' 37 #[.int .i64 0, .string ⟨#[]⟩, .int .i64 0, .int .i64 a, .int .i64 b, .int .i64 c]) (hB : Bd s o) (hG : GL w) (hg : NG ≤ g) (hh : NG ≤ h') (hgh : g ≠ h') (ho : o < s.size) (hs : s.size ≤ 140737488351232) (hd : isDig (B s o) = true)
    (hr : (bv s (many isDig s o) == 46) = true) (hr2 : isDig (bv s (many isDig s o + 1)).toNat = true) :
    Calls Tryd.prog 41 #[.pointer (some ⟨g, 0, none⟩), .pointer (some ⟨h', 0, none⟩)] w (NumPost g h' s o a b c w (numTok s o)) := by
  obtain ⟨K, hK⟩ : ∃ K, many isDig s o = K := ⟨_, rfl⟩
  have hoK : o < K := by rw [← hK, many_step ho hd]; exact many_ge _ _ _
  have hKs : K ≤ s.size := by rw [← hK]; exact many_le _ _ (by omega)
  have hdig : ∀ j, o ≤ j → j < K → isDig (B s j) = true := fun j a b => many_all isDig s o a (by rw [hK]; exact b)
  have hN := numTok_bv s o K hK
  rw [hK] at hr hr2
  rw [hr, hr2, Bool.and_self, if_pos rfl] at hN
  obtain ⟨n, hn⟩ : ∃ n, K = o + n := ⟨K - o, by omega⟩
  subst hn
  have hn0 : 0 < n := by omega
  obtain ⟨X, hX⟩ : ∃ X, s.extract o s.size = X := ⟨_, rfl⟩
  have hXs : X.size = s.size - o := by rw [← hX]; exact size_ext (Nat.le_refl _)
  obtain ⟨W, hW⟩ : ∃ W, s.extract o (o + n) = W := ⟨_, rfl⟩
  have hWs : W.size = n := by rw [← hW, size_ext hKs]; omega
  have hXW : X.extract 0 n = W := by
    rw [← hX, ← hW, ByteArray.extract_extract]
    congr 1
    omega
  have hWp : 0 < W.size := by omega
  have HBW : (W[0]'hWp).toNat = B s o := by
    rw [B_eq W 0 hWp, ← hW, B_extract (by omega) hKs, Nat.add_zero]
  have hnX : n ≤ X.size := by omega
  have hsl := fun wx => run_slice_string_h (P := Tryd.prog) (w := wx) (t := 9) (s := X) Tryd.underlying9 .i64 (n : Int) (by omega) (by omega)
  simp only [Int.toNat_natCast, hXW] at hsl
  have hWi : (W.size : Int) = n := by omega
  have HX := Lib.hid hX
  have HW := Lib.hid hW
  have HWs := Lib.hid hWs
  have HC := Lib.hid h
  have HT := Lib.hid hT
  have HG := Lib.hid hG
  have HB := Lib.hid hB
  have HDIG := Lib.hid hdig
  have HK := Lib.hid (show ((many isDig s (o + (0 : Int).toNat) : Int)) - o = (n : Int) by rw [show o + (0 : Int).toNat = o from by simp, hK]; omega)
  have HKK := Lib.hid hK
  have key : (1 < n ∧ ((B s o : Int) == 48) = true) ∨ (¬ 1 < n) ∨ (1 < n ∧ ((B s o : Int) == 48) = false) := by
    by_cases a : 1 < n
    · cases q : ((B s o : Int) == 48)
      · exact Or.inr (Or.inr ⟨a, rfl⟩)
      · exact Or.inl ⟨a, rfl⟩
    · exact Or.inr (Or.inl a)
  have hz48 : (B s o == 48) = ((B s o : Int) == 48) := by rw [Bool.eq_iff_iff]; simp; omega
  have hlt1 : decide (o + 1 < o + n) = decide (1 < n) := by rw [Bool.eq_iff_iff]; simp
  rw [hz48, hlt1] at hN
  have HKEY := Lib.hid key
  have hhg : h' ≠ g := fun e => hgh e.symm
  clear key
  obtain ⟨ct0, ct1, ct2, ct3, ct4, ct5, fr0, fr1, fr2, fr3, fr4, fr5⟩ := HT.out.six
  have hb0 := bv_ge s (o + n)
  have hb1 := bv_le s (o + n)
  have hb2 := bv_ge s (o + n + 1)
  have hb3 := bv_le s (o + n + 1)
  clear hX hXs hW hWs hXW hdig hK hz48 hlt1
  have hM1 : o + n + 1 < s.size := by
    rcases Nat.lt_or_ge (o + n + 1) s.size with q | q
    · exact q
    · rw [bv_out (by omega)] at hr2; exact absurd hr2 (by decide)
  obtain ⟨M, hM⟩ : ∃ M, many isDig s (o + n + 1) = M := ⟨_, rfl⟩
  have hM2 : o + n + 1 < M := by
    rw [← hM, many_step hM1 (by rw [bv_in hM1, Int.toNat_natCast] at hr2; exact hr2)]; exact many_ge _ _ _
  have hMs : M ≤ s.size := by rw [← hM]; exact many_le _ _ (by omega)
  have hMd : B s (M - 1) < 128 := dig_lt (many_all isDig s (o + n + 1) (by omega) (by omega))
  rw [hM] at hN
  obtain ⟨m, hm⟩ : ∃ m, M = o + m := ⟨M - o, by omega⟩
  subst hm
  have HM := Lib.hid (show ((many isDig s (o + ((n : Int) + 1).toNat) : Int)) - o = (m : Int) by rw [show o + ((n : Int) + 1).toNat = o + n + 1 from by omega, hM]; omega)
  have HOK := Lib.hid (show EndOk s o (o + ((m : Int)).toNat) from by rw [Int.toNat_natCast]; exact Or.inr (Or.inr ⟨by omega, hMd⟩))
  obtain ⟨lq, hlq⟩ : ∃ lq, isLet (bv s (o + m)).toNat = lq := ⟨_, rfl⟩
  rw [hlq] at hN
  obtain ⟨N, hNN⟩ : ∃ N, numTok s o = N := ⟨_, rfl⟩
  have FN := Lib.hid (fin_real (hN.symm.trans hNN))
  have HNN := Lib.hid hNN
  have hc0 := bv_ge s (o + m)
  rw [hNN]
  clear hN hNN hM hMd
  go_enter Tryd.func41, Tryd.ntmps41
  go_wp2_with fail
  refine (t_many_dig g s o _ _ _ _ HC.out (by omega) (by omega) hs).mono ?_
  rintro e w1 ⟨rfl, n1, rfl⟩
  rw [HK.out]
  go_wp2_with fail
  refine (t_rest g s o _ _ _ (Blk.drewN HC.out _) (by omega)).mono ?_
  rintro e w1 ⟨rfl, n2, rfl⟩
  rw [HX.out]
  go_wp2_with fail
  refine (t_byte g s o _ _ _ _ (Blk.drewN (Cut.far HC.out hgh _ _) _) (by omega) hs (by omega)).mono ?_
  rintro e w1 ⟨rfl, n3, rfl⟩
  rw [Int.toNat_natCast]
  go_wp2_with fail
  refine (t_byte g s o _ _ _ _ (Blk.drewN (Cut.far HC.out hgh _ _) _) (by omega) hs (by omega)).mono ?_
  rintro e w1 ⟨rfl, n4, rfl⟩
  rw [show o + ((n : Int) + 1).toNat = o + n + 1 from by omega]
  go_wp2_with fail
  refine (t_digit _ _ (by omega)).mono ?_
  rintro e w' ⟨rfl, rfl⟩
  go_wp2_with fail
  refine (t_many_dig g s o _ _ _ _ (Blk.drewN (Cut.far HC.out hgh _ _) _) (by omega) (by omega) hs).mono ?_
  rintro e w1 ⟨rfl, n5, rfl⟩
  rw [HM.out]
  have HC5 := Lib.hid (show Cut (((w.setCell ⟨h', 0, none⟩ (.int .i64 2)).drewN (n1 + n2 + n3 + n4)).drewN n5) g s o (P s o).1 (P s o).2 from Blk.drewN (Blk.drewN (Cut.far HC.out hgh _ _) _) _)
  have HT5 := Lib.hid (show Blk (((w.setCell ⟨h', 0, none⟩ (.int .i64 2)).drewN (n1 + n2 + n3 + n4)).drewN n5) h' 37 #[.int .i64 2, .string ⟨#[]⟩, .int .i64 0, .int .i64 a, .int .i64 b, .int .i64 c] from Blk.drewN (Blk.drewN (by simpa using HT.out.set 0 (.int .i64 2)) _) _)
  have HG5 := Lib.hid (((HG.out.setCell (p := ⟨h', 0, none⟩) hh (.int .i64 2)).drewN (n1 + n2 + n3 + n4)).drewN n5)
  have HK5 := Lib.hid ((((Kp.refl (at2 g h') w).at2_set 0 (.int .i64 2)).drewN (n1 + n2 + n3 + n4)).drewN n5)
  obtain ⟨w5, hw5⟩ : ∃ w5, ((w.setCell ⟨h', 0, none⟩ (.int .i64 2)).drewN (n1 + n2 + n3 + n4)).drewN n5 = w5 := ⟨_, rfl⟩
  rw [hw5] at HC5 HT5 HG5 HK5 ⊢
  clear hw5 ct0 ct1 ct2 ct3 ct4 ct5 fr0 fr1 fr2 fr3 fr4 fr5
  obtain ⟨ct0, ct1, ct2, ct3, ct4, ct5, fr0, fr1, fr2, fr3, fr4, fr5⟩ := HT5.out.six
  rcases HKEY.out with ⟨k1, k2⟩ | k1 | ⟨k1, k2⟩
  · go_wp2
    go_ret
    rw [← FN.out.1 (decide_eq_true k1) k2]
    exact ⟨rfl, ⟨3, ⟨#[]⟩, 0⟩, fun q => absurd q (by simp), ((by simpa using HT5.out.set 0 (.int .i64 3))), ((Cut.far HC5.out hgh _ _)), (HK5.out.at2_set _ _)⟩
  · have LT : decide (1 < n) = false := decide_eq_false k1
    cases lq with
    | true =>
      go_wp2_with fail
      refine (t_byte g s o _ _ _ _ (Cut.far HC5.out hgh _ _) (by omega) hs (by omega)).mono ?_
      rintro e w1 ⟨rfl, n6, rfl⟩
      rw [Int.toNat_natCast]
      go_wp2_with fail
      refine (t_letter _ _ (by omega)).mono ?_
      rintro e w' ⟨rfl, rfl⟩
      go_wp2
      go_ret
      rw [← FN.out.2.1 (by simp)]
      exact ⟨rfl, ⟨3, ⟨#[]⟩, 0⟩, fun q => absurd q (by simp), (Blk.drewN (by simpa using HT5.out.set 0 (.int .i64 3)) _), (Blk.drewN (Cut.far HC5.out hgh _ _) _), (HK5.out.at2_set _ _).drewN _⟩
    | false =>
      go_wp2_with fail
      refine (t_byte g s o _ _ _ _ (Cut.far HC5.out hgh _ _) (by omega) hs (by omega)).mono ?_
      rintro e w1 ⟨rfl, n6, rfl⟩
      rw [Int.toNat_natCast]
      go_wp2_with fail
      refine (t_letter _ _ (by omega)).mono ?_
      rintro e w' ⟨rfl, rfl⟩
      go_wp2_with fail
      refine (t_take g s o _ _ (Blk.drewN (Cut.far HC5.out hgh _ _) _) HB.out ((HG5.out.setCell (p := ⟨h', 0, none⟩) hh _).drewN _) hg (by omega) (by omega) hs HOK.out).mono ?_
      rintro e w2 ⟨rfl, HC2, HK2⟩
      rw [Int.toNat_natCast] at *
      have HT2 : Blk w2 h' 37 #[.int .i64 3, .string ⟨#[]⟩, .int .i64 0, .int .i64 a, .int .i64 b, .int .i64 c] := Blk.kp (Blk.drewN (by simpa using HT5.out.set 0 (.int .i64 3)) _) HK2 hhg
      have HKW := Lib.hid (Kp.at2_left ((HK5.out.at2_set _ _).drewN _) HK2)
      have HC2 := Lib.hid HC2
      have HT3 := Lib.hid HT2
      clear ct0 ct1 ct2 ct3 ct4 ct5 fr0 fr1 fr2 fr3 fr4 fr5
      obtain ⟨ct0, ct1, ct2, ct3, ct4, ct5, fr0, fr1, fr2, fr3, fr4, fr5⟩ := HT2.six
      clear HT2 HK2
      go_wp2
      go_ret
      rw [← FN.out.2.2 (Or.inl LT) (by simp)]
      exact ⟨rfl, ⟨3, s.extract o (o + m), 0⟩, fun _ => rfl, (by simpa using HT3.out.set 1 (.string (s.extract o (o + m)))), Cut.far HC2.out hgh _ _, HKW.out.at2_set _ _⟩

  · have HK2' := Lib.hid k2
    cases lq with
    | true =>
      go_wp2_with fail
      refine (t_byte g s o _ _ _ _ (Cut.far HC5.out hgh _ _) (by omega) hs (by omega)).mono ?_
      rintro e w1 ⟨rfl, n6, rfl⟩
      rw [Int.toNat_natCast]
      go_wp2_with fail
      refine (t_letter _ _ (by omega)).mono ?_
      rintro e w' ⟨rfl, rfl⟩
      go_wp2
      go_ret
      rw [← FN.out.2.1 (by simp)]
      exact ⟨rfl, ⟨3, ⟨#[]⟩, 0⟩, fun q => absurd q (by simp), (Blk.drewN (by simpa using HT5.out.set 0 (.int .i64 3)) _), (Blk.drewN (Cut.far HC5.out hgh _ _) _), (HK5.out.at2_set _ _).drewN _⟩
    | false =>
      go_wp2_with fail
      refine (t_byte g s o _ _ _ _ (Cut.far HC5.out hgh _ _) (by omega) hs (by omega)).mono ?_
      rintro e w1 ⟨rfl, n6, rfl⟩
      rw [Int.toNat_natCast]
      go_wp2_with fail
      refine (t_letter _ _ (by omega)).mono ?_
      rintro e w' ⟨rfl, rfl⟩
      go_wp2_with fail
      refine (t_take g s o _ _ (Blk.drewN (Cut.far HC5.out hgh _ _) _) HB.out ((HG5.out.setCell (p := ⟨h', 0, none⟩) hh _).drewN _) hg (by omega) (by omega) hs HOK.out).mono ?_
      rintro e w2 ⟨rfl, HC2, HK2⟩
      rw [Int.toNat_natCast] at *
      have HT2 : Blk w2 h' 37 #[.int .i64 3, .string ⟨#[]⟩, .int .i64 0, .int .i64 a, .int .i64 b, .int .i64 c] := Blk.kp (Blk.drewN (by simpa using HT5.out.set 0 (.int .i64 3)) _) HK2 hhg
      have HKW := Lib.hid (Kp.at2_left ((HK5.out.at2_set _ _).drewN _) HK2)
      have HC2 := Lib.hid HC2
      have HT3 := Lib.hid HT2
      clear ct0 ct1 ct2 ct3 ct4 ct5 fr0 fr1 fr2 fr3 fr4 fr5
      obtain ⟨ct0, ct1, ct2, ct3, ct4, ct5, fr0, fr1, fr2, fr3, fr4, fr5⟩ := HT2.six
      clear HT2 HK2
      go_wp2
      go_ret
      rw [← FN.out.2.2 (Or.inr HK2'.out) (by simp)]
      exact ⟨rfl, ⟨3, s.extract o (o + m), 0⟩, fun _ => rfl, (by simpa using HT3.out.set 1 (.string (s.extract o (o + m)))), Cut.far HC2.out hgh _ _, HKW.out.at2_set _ _⟩


end Go.Proofs.YtgaanohloocokaaDoor
