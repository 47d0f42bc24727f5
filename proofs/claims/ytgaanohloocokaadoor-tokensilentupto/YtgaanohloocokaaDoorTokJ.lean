/-
  Walks of package token: number (whole), token: what its ways share; at the end, at a digit.
-/
import Derived.Test.YtgaanohloocokaaDoorTokG
import Derived.Test.YtgaanohloocokaaDoorTokH
import Derived.Test.YtgaanohloocokaaDoorTokI
namespace Go.Proofs.YtgaanohloocokaaDoor
open Go.RowKit

theorem t_number (g h' : Nat) (s : ByteArray) (o : Nat) (a b c : Int) (w : World) (h : CutP w g s o) (hT : Blk w h' 37 #[.int .i64 0, .string ⟨#[]⟩, .int .i64 0, .int .i64 a, .int .i64 b, .int .i64 c]) (hB : Bd s o) (hG : GL w) (hg : NG ≤ g) (hh : NG ≤ h') (hgh : g ≠ h') (ho : o < s.size) (hs : s.size ≤ 140737488351232) (hd : isDig (B s o) = true) :
    Calls Tryd.prog 41 #[.pointer (some ⟨g, 0, none⟩), .pointer (some ⟨h', 0, none⟩)] w (NumPost g h' s o a b c w (numTok s o)) := by
  cases hr : (bv s (many isDig s o) == 46) with
  | true =>
    cases hr2 : isDig (bv s (many isDig s o + 1)).toNat with
    | true => exact t_number_real g h' s o a b c w h hT hB hG hg hh hgh ho hs hd hr hr2
    | false =>
      by_cases h1 : dval s o (many isDig s o) ≤ 1000000000
      · exact t_number_ok_b g h' s o a b c w h hT hB hG hg hh hgh ho hs hd hr hr2 h1
      · by_cases h2 : dval s o (many isDig s o) < 9223372036854775808
        · exact t_number_big_b g h' s o a b c w h hT hB hG hg hh hgh ho hs hd hr hr2 (by omega) h2
        · exact t_number_huge_b g h' s o a b c w h hT hB hG hg hh hgh ho hs hd hr hr2 (by omega)
  | false =>
    by_cases h1 : dval s o (many isDig s o) ≤ 1000000000
    · exact t_number_ok_a g h' s o a b c w h hT hB hG hg hh hgh ho hs hd hr h1
    · by_cases h2 : dval s o (many isDig s o) < 9223372036854775808
      · exact t_number_big_a g h' s o a b c w h hT hB hG hg hh hgh ho hs hd hr (by omega) h2
      · exact t_number_huge_a g h' s o a b c w h hT hB hG hg hh hgh ho hs hd hr (by omega)

/-- what cutting one token comes to -/
def TokPost (g : Nat) (s : ByteArray) (o : Nat) (w : World) (N : Tk × Nat × Int) (e : Ending) (w' : World) : Prop :=
  ∃ T : Tk, (N.2.2 = 0 → T = N.1) ∧ e = .returned (.tuple #[.agg #[.int .i64 T.k, .string T.t, .int .i64 T.n, .int .i64 o, .int .i64 (P s o).1, .int .i64 (P s o).2], .int .i64 N.2.2]) ∧
    CutP w' g s (if N.2.2 = 0 then N.2.1 else o) ∧ Kp (at_ g) w w'
theorem Kp.at_new {w w' : World} {g h : Nat} (k : Kp (at_ g) w w') (hh : w.heap.size ≤ h) (i : Nat) (u : Value) : Kp (at_ g) w (w'.setCell ⟨h, i, none⟩ u) := Kp.setCell (p := ⟨h, i, none⟩) k (fun q => by have : h < w.heap.size := q; omega) u
theorem Blk.six_set {w : World} {g : Nat} {t : TypeId} {v0 v1 v2 v3 v4 v5 u0 u1 u2 u3 u4 u5 : Value} (h : Blk w g t #[v0, v1, v2, v3, v4, v5]) :
    Blk ((((((w.setCell ⟨g, 0, none⟩ u0).setCell ⟨g, 1, none⟩ u1).setCell ⟨g, 2, none⟩ u2).setCell ⟨g, 3, none⟩ u3).setCell ⟨g, 4, none⟩ u4).setCell ⟨g, 5, none⟩ u5) g t #[u0, u1, u2, u3, u4, u5] := by
  simpa using (((((h.set 0 u0).set 1 u1).set 2 u2).set 3 u3).set 4 u4).set 5 u5

theorem CutP.six {w : World} {g h : Nat} {s : ByteArray} {o : Nat} (k : CutP w g s o) (hgh : g ≠ h) (u0 u1 u2 u3 u4 u5 : Value) :
    CutP ((((((w.setCell ⟨h, 0, none⟩ u0).setCell ⟨h, 1, none⟩ u1).setCell ⟨h, 2, none⟩ u2).setCell ⟨h, 3, none⟩ u3).setCell ⟨h, 4, none⟩ u4).setCell ⟨h, 5, none⟩ u5) g s o :=
  Cut.far (Cut.far (Cut.far (Cut.far (Cut.far (Cut.far k hgh 0 u0) hgh 1 u1) hgh 2 u2) hgh 3 u3) hgh 4 u4) hgh 5 u5
theorem Kp.six {w w' : World} {g h : Nat} (k : Kp (at_ g) w w') (hh : w.heap.size ≤ h) (u0 u1 u2 u3 u4 u5 : Value) :
    Kp (at_ g) w ((((((w'.setCell ⟨h, 0, none⟩ u0).setCell ⟨h, 1, none⟩ u1).setCell ⟨h, 2, none⟩ u2).setCell ⟨h, 3, none⟩ u3).setCell ⟨h, 4, none⟩ u4).setCell ⟨h, 5, none⟩ u5) :=
  (((((k.at_new hh 0 u0).at_new hh 1 u1).at_new hh 2 u2).at_new hh 3 u3).at_new hh 4 u4).at_new hh 5 u5
theorem six_post {g h : Nat} {s : ByteArray} {o : Nat} {w w' : World} {N : Tk × Nat × Int} (T : Tk) (hT : N.2.2 = 0 → T = N.1) (hC : CutP w' g s (if N.2.2 = 0 then N.2.1 else o)) (hK : Kp (at_ g) w w') (hgh : g ≠ h) (hh : w.heap.size ≤ h) :
    TokPost g s o w N (.returned (.tuple #[.agg #[.int .i64 T.k, .string T.t, .int .i64 T.n, .int .i64 o, .int .i64 (P s o).1, .int .i64 (P s o).2], .int .i64 N.2.2]))
      ((((((w'.setCell ⟨h, 0, none⟩ (.int .i64 T.k)).setCell ⟨h, 1, none⟩ (.string T.t)).setCell ⟨h, 2, none⟩ (.int .i64 T.n)).setCell ⟨h, 3, none⟩ (.int .i64 o)).setCell ⟨h, 4, none⟩ (.int .i64 (P s o).1)).setCell ⟨h, 5, none⟩ (.int .i64 (P s o).2)) :=
  ⟨T, hT, rfl, hC.six hgh _ _ _ _ _ _, hK.six hh _ _ _ _ _ _⟩
/-- of the two cells' blocks one may be left out behind the call -/
theorem Kp.at2_new {w w' w2 : World} {g h : Nat} (k : Kp (at_ g) w w') (k2 : Kp (at2 g h) w' w2) (hh : w.heap.size ≤ h) : Kp (at_ g) w w2 :=
  k.trans k2 (fun i hi t => by
    rcases t with t | t
    · exact t
    · omega)

set_option maxRecDepth 100000 in
set_option maxHeartbeats 4000000 in
theorem t_tok_end (g : Nat) (s : ByteArray) (o : Nat) (w : World) (h : CutP w g s o) (hB : Bd s o) (hG : GL w) (hg : NG ≤ g) (ho : o ≤ s.size) (hs : s.size ≤ 140737488351232) (h1 : ¬ o < s.size) :
    Calls Tryd.prog 27 #[.pointer (some ⟨g, 0, none⟩)] w (TokPost g s o w (one s o)) := by
  obtain ⟨N, hNN⟩ : ∃ N, one s o = N := ⟨_, rfl⟩
  rw [hNN]
  have HNN := Lib.hid hNN
  clear hNN
  obtain ⟨X, hX⟩ : ∃ X, s.extract o s.size = X := ⟨_, rfl⟩
  have hXs : X.size = s.size - o := by rw [← hX]; exact size_ext (Nat.le_refl _)
  have hXe : X.toList.isEmpty = decide (s.size ≤ o) := by
    rw [Go.ByteArray.toList_eq, Bool.eq_iff_iff]
    simp only [List.isEmpty_iff, decide_eq_true_eq]
    have hl : X.data.toList.length = X.size := by rw [Array.length_toList]; rfl
    constructor
    · intro q; rw [q] at hl; simp at hl; omega
    · intro q; exact List.eq_nil_of_length_eq_zero (by omega)
  have HX := Lib.hid hX
  have HXs := Lib.hid hXs
  have HC := Lib.hid h
  have HG := Lib.hid hG
  have HB := Lib.hid hB
  have hglt := HC.out.lt
  have hb0 := bv_ge s o
  obtain ⟨cc0, cc1, cc2, cc3, cf0, cf1, cf2, cf3⟩ := HC.out.four
  clear hX hXs h hG hB
  go_enter Tryd.func27, Tryd.ntmps27
  go_wp2_with fail
  refine (t_byte g s o _ _ _ _ (Blk.alloc (Blk.alloc HC.out _) _) ho hs (by omega)).mono ?_
  rintro e w1 ⟨rfl, n1, rfl⟩
  rw [Int.toNat_zero, Nat.add_zero]
  have HC5 := Lib.hid (show CutP (((w.alloc (.cells #[.int .i64 0, .string ⟨#[]⟩, .int .i64 0, .int .i64 0, .int .i64 0, .int .i64 0] 37)).alloc (.cells #[.int .i64 0, .string ⟨#[]⟩, .int .i64 0, .int .i64 o, .int .i64 (P s o).1, .int .i64 (P s o).2] 37)).drewN n1) g s o from Blk.drewN (Blk.alloc (Blk.alloc HC.out _) _) _)
  have HR5 := Lib.hid (show Blk (((w.alloc (.cells #[.int .i64 0, .string ⟨#[]⟩, .int .i64 0, .int .i64 0, .int .i64 0, .int .i64 0] 37)).alloc (.cells #[.int .i64 0, .string ⟨#[]⟩, .int .i64 0, .int .i64 o, .int .i64 (P s o).1, .int .i64 (P s o).2] 37)).drewN n1) w.heap.size 37 #[.int .i64 0, .string ⟨#[]⟩, .int .i64 0, .int .i64 0, .int .i64 0, .int .i64 0] from Blk.drewN (Blk.alloc (Blk.new _ _ _) _) _)
  have HT5 := Lib.hid (show Blk (((w.alloc (.cells #[.int .i64 0, .string ⟨#[]⟩, .int .i64 0, .int .i64 0, .int .i64 0, .int .i64 0] 37)).alloc (.cells #[.int .i64 0, .string ⟨#[]⟩, .int .i64 0, .int .i64 o, .int .i64 (P s o).1, .int .i64 (P s o).2] 37)).drewN n1) (w.heap.size + 1) 37 #[.int .i64 0, .string ⟨#[]⟩, .int .i64 0, .int .i64 o, .int .i64 (P s o).1, .int .i64 (P s o).2] from Blk.drewN (by simpa using Blk.new (w.alloc (.cells #[.int .i64 0, .string ⟨#[]⟩, .int .i64 0, .int .i64 0, .int .i64 0, .int .i64 0] 37)) 37 #[.int .i64 0, .string ⟨#[]⟩, .int .i64 0, .int .i64 o, .int .i64 (P s o).1, .int .i64 (P s o).2]) _)
  have HG5 := Lib.hid (show GL (((w.alloc (.cells #[.int .i64 0, .string ⟨#[]⟩, .int .i64 0, .int .i64 0, .int .i64 0, .int .i64 0] 37)).alloc (.cells #[.int .i64 0, .string ⟨#[]⟩, .int .i64 0, .int .i64 o, .int .i64 (P s o).1, .int .i64 (P s o).2] 37)).drewN n1) from ((HG.out.alloc _).alloc _).drewN _)
  have HK5 := Lib.hid (show Kp (at_ g) w (((w.alloc (.cells #[.int .i64 0, .string ⟨#[]⟩, .int .i64 0, .int .i64 0, .int .i64 0, .int .i64 0] 37)).alloc (.cells #[.int .i64 0, .string ⟨#[]⟩, .int .i64 0, .int .i64 o, .int .i64 (P s o).1, .int .i64 (P s o).2] 37)).drewN n1) from ((((Kp.refl _ _).alloc _).alloc _).drewN _))
  obtain ⟨w5, hw5⟩ : ∃ w5, ((w.alloc (.cells #[.int .i64 0, .string ⟨#[]⟩, .int .i64 0, .int .i64 0, .int .i64 0, .int .i64 0] 37)).alloc (.cells #[.int .i64 0, .string ⟨#[]⟩, .int .i64 0, .int .i64 o, .int .i64 (P s o).1, .int .i64 (P s o).2] 37)).drewN n1 = w5 := ⟨_, rfl⟩
  rw [hw5] at HC5 HR5 HT5 HG5 HK5 ⊢
  clear hw5 cc0 cc1 cc2 cc3 cf0 cf1 cf2 cf3
  obtain ⟨rt0, rt1, rt2, rt3, rt4, rt5, rf0, rf1, rf2, rf3, rf4, rf5⟩ := HR5.out.six
  obtain ⟨ct0, ct1, ct2, ct3, ct4, ct5, fr0, fr1, fr2, fr3, fr4, fr5⟩ := HT5.out.six
  have hz5 := HT5.out.lt
  have hz6 := HR5.out.lt
  have hgr : g ≠ w.heap.size := by omega
  have hgt : g ≠ w.heap.size + 1 := by omega
  have hng := HG.out.size
  go_wp2_with fail
  refine (t_rest g s o _ _ _ HC5.out ho).mono ?_
  rintro e w1 ⟨rfl, n2, rfl⟩
  rw [HX.out]
  have hle : s.size ≤ o := by omega
  have hXt : X.toList.isEmpty = true := by rw [hXe]; exact decide_eq_true hle
  clear hXe
  go_wp2
  have hN : N = (Tk.zero, o, 0) := by rw [← HNN.out]; unfold one; rw [if_pos (by omega)]
  rw [hN]
  refine bodyPost_ret (results_ct (p := 2) (u := 3) rfl _ _ w.heap.size 37 _ rfl (Blk.six_set (Blk.drewN HR5.out n2)) wideToken) rfl ?_
  exact (six_post (N := (Tk.zero, o, 0)) (Tk.zero) (fun _ => rfl) (Blk.drewN HC5.out n2) (HK5.out.drewN n2) hgr (Nat.le_refl _))

set_option maxRecDepth 100000 in
set_option maxHeartbeats 4000000 in
theorem t_tok_dig (g : Nat) (s : ByteArray) (o : Nat) (w : World) (h : CutP w g s o) (hB : Bd s o) (hG : GL w) (hg : NG ≤ g) (ho : o ≤ s.size) (hs : s.size ≤ 140737488351232) (h1 : o < s.size) (hl : isLet (B s o) = false) (hd : isDig (B s o) = true) :
    Calls Tryd.prog 27 #[.pointer (some ⟨g, 0, none⟩)] w (TokPost g s o w (one s o)) := by
  have hbv : (bv s o).toNat = B s o := by rw [bv_in h1, Int.toNat_natCast]
  have hl2 : isLet (bv s o).toNat = false := by rw [hbv]; exact hl
  have hd2 : isDig (bv s o).toNat = true := by rw [hbv]; exact hd
  have h1e : one s o = numTok s o := by unfold one; rw [if_neg (by omega), if_neg (by rw [hl]; simp), if_pos hd]
  rw [h1e]
  clear h1e hbv hl
  obtain ⟨N, hNN⟩ : ∃ N, numTok s o = N := ⟨_, rfl⟩
  rw [hNN]
  have HNN := Lib.hid hNN
  clear hNN
  obtain ⟨X, hX⟩ : ∃ X, s.extract o s.size = X := ⟨_, rfl⟩
  have hXs : X.size = s.size - o := by rw [← hX]; exact size_ext (Nat.le_refl _)
  have hXe : X.toList.isEmpty = decide (s.size ≤ o) := by
    rw [Go.ByteArray.toList_eq, Bool.eq_iff_iff]
    simp only [List.isEmpty_iff, decide_eq_true_eq]
    have hl : X.data.toList.length = X.size := by rw [Array.length_toList]; rfl
    constructor
    · intro q; rw [q] at hl; simp at hl; omega
    · intro q; exact List.eq_nil_of_length_eq_zero (by omega)
  have HX := Lib.hid hX
  have HXs := Lib.hid hXs
  have HC := Lib.hid h
  have HG := Lib.hid hG
  have HB := Lib.hid hB
  have hglt := HC.out.lt
  have hb0 := bv_ge s o
  obtain ⟨cc0, cc1, cc2, cc3, cf0, cf1, cf2, cf3⟩ := HC.out.four
  clear hX hXs h hG hB
  go_enter Tryd.func27, Tryd.ntmps27
  go_wp2_with fail
  refine (t_byte g s o _ _ _ _ (Blk.alloc (Blk.alloc HC.out _) _) ho hs (by omega)).mono ?_
  rintro e w1 ⟨rfl, n1, rfl⟩
  rw [Int.toNat_zero, Nat.add_zero]
  have HC5 := Lib.hid (show CutP (((w.alloc (.cells #[.int .i64 0, .string ⟨#[]⟩, .int .i64 0, .int .i64 0, .int .i64 0, .int .i64 0] 37)).alloc (.cells #[.int .i64 0, .string ⟨#[]⟩, .int .i64 0, .int .i64 o, .int .i64 (P s o).1, .int .i64 (P s o).2] 37)).drewN n1) g s o from Blk.drewN (Blk.alloc (Blk.alloc HC.out _) _) _)
  have HR5 := Lib.hid (show Blk (((w.alloc (.cells #[.int .i64 0, .string ⟨#[]⟩, .int .i64 0, .int .i64 0, .int .i64 0, .int .i64 0] 37)).alloc (.cells #[.int .i64 0, .string ⟨#[]⟩, .int .i64 0, .int .i64 o, .int .i64 (P s o).1, .int .i64 (P s o).2] 37)).drewN n1) w.heap.size 37 #[.int .i64 0, .string ⟨#[]⟩, .int .i64 0, .int .i64 0, .int .i64 0, .int .i64 0] from Blk.drewN (Blk.alloc (Blk.new _ _ _) _) _)
  have HT5 := Lib.hid (show Blk (((w.alloc (.cells #[.int .i64 0, .string ⟨#[]⟩, .int .i64 0, .int .i64 0, .int .i64 0, .int .i64 0] 37)).alloc (.cells #[.int .i64 0, .string ⟨#[]⟩, .int .i64 0, .int .i64 o, .int .i64 (P s o).1, .int .i64 (P s o).2] 37)).drewN n1) (w.heap.size + 1) 37 #[.int .i64 0, .string ⟨#[]⟩, .int .i64 0, .int .i64 o, .int .i64 (P s o).1, .int .i64 (P s o).2] from Blk.drewN (by simpa using Blk.new (w.alloc (.cells #[.int .i64 0, .string ⟨#[]⟩, .int .i64 0, .int .i64 0, .int .i64 0, .int .i64 0] 37)) 37 #[.int .i64 0, .string ⟨#[]⟩, .int .i64 0, .int .i64 o, .int .i64 (P s o).1, .int .i64 (P s o).2]) _)
  have HG5 := Lib.hid (show GL (((w.alloc (.cells #[.int .i64 0, .string ⟨#[]⟩, .int .i64 0, .int .i64 0, .int .i64 0, .int .i64 0] 37)).alloc (.cells #[.int .i64 0, .string ⟨#[]⟩, .int .i64 0, .int .i64 o, .int .i64 (P s o).1, .int .i64 (P s o).2] 37)).drewN n1) from ((HG.out.alloc _).alloc _).drewN _)
  have HK5 := Lib.hid (show Kp (at_ g) w (((w.alloc (.cells #[.int .i64 0, .string ⟨#[]⟩, .int .i64 0, .int .i64 0, .int .i64 0, .int .i64 0] 37)).alloc (.cells #[.int .i64 0, .string ⟨#[]⟩, .int .i64 0, .int .i64 o, .int .i64 (P s o).1, .int .i64 (P s o).2] 37)).drewN n1) from ((((Kp.refl _ _).alloc _).alloc _).drewN _))
  obtain ⟨w5, hw5⟩ : ∃ w5, ((w.alloc (.cells #[.int .i64 0, .string ⟨#[]⟩, .int .i64 0, .int .i64 0, .int .i64 0, .int .i64 0] 37)).alloc (.cells #[.int .i64 0, .string ⟨#[]⟩, .int .i64 0, .int .i64 o, .int .i64 (P s o).1, .int .i64 (P s o).2] 37)).drewN n1 = w5 := ⟨_, rfl⟩
  rw [hw5] at HC5 HR5 HT5 HG5 HK5 ⊢
  clear hw5 cc0 cc1 cc2 cc3 cf0 cf1 cf2 cf3
  obtain ⟨rt0, rt1, rt2, rt3, rt4, rt5, rf0, rf1, rf2, rf3, rf4, rf5⟩ := HR5.out.six
  obtain ⟨ct0, ct1, ct2, ct3, ct4, ct5, fr0, fr1, fr2, fr3, fr4, fr5⟩ := HT5.out.six
  have hz5 := HT5.out.lt
  have hz6 := HR5.out.lt
  have hgr : g ≠ w.heap.size := by omega
  have hgt : g ≠ w.heap.size + 1 := by omega
  have hng := HG.out.size
  go_wp2_with fail
  refine (t_rest g s o _ _ _ HC5.out ho).mono ?_
  rintro e w1 ⟨rfl, n2, rfl⟩
  rw [HX.out]
  have hXt : X.toList.isEmpty = false := by rw [hXe]; exact decide_eq_false (by omega)
  clear hXe
  go_wp2_with fail
  refine (t_letter _ _ hb0).mono ?_
  rintro e w' ⟨rfl, rfl⟩
  go_wp2_with fail
  refine (t_digit _ _ hb0).mono ?_
  rintro e w' ⟨rfl, rfl⟩
  go_wp2_with fail
  refine (t_number g (w.heap.size + 1) s o _ _ _ _ (Blk.drewN HC5.out _) (Blk.drewN HT5.out _) HB.out (HG5.out.drewN _) hg (by omega) hgt h1 hs hd).mono ?_
  rintro e w6 ⟨rfl, T, hTe, hT6, hC6, hK6⟩
  rw [HNN.out] at hTe hC6 ⊢
  have HTe := Lib.hid hTe
  have HC6 := Lib.hid hC6
  have HR6 := Lib.hid (Blk.kp (Blk.drewN HR5.out _) hK6 (fun q => by
    have q : w.heap.size = g ∨ w.heap.size = w.heap.size + 1 := q
    omega))
  have HK6 := Lib.hid (Kp.at2_new (HK5.out.drewN _) hK6 (by omega))
  have HT6 := Lib.hid hT6
  clear hTe hC6 hK6 rt0 rt1 rt2 rt3 rt4 rt5 rf0 rf1 rf2 rf3 rf4 rf5 ct0 ct1 ct2 ct3 ct4 ct5 fr0 fr1 fr2 fr3 fr4 fr5
  obtain ⟨ct0, ct1, ct2, ct3, ct4, ct5, fr0, fr1, fr2, fr3, fr4, fr5⟩ := hT6.six
  obtain ⟨rt0, rt1, rt2, rt3, rt4, rt5, rf0, rf1, rf2, rf3, rf4, rf5⟩ := HR6.out.six
  clear hT6
  go_wp2
  refine bodyPost_ret (results_ct (p := 2) (u := 3) rfl _ _ w.heap.size 37 _ rfl (Blk.six_set (HR6.out)) wideToken) rfl ?_
  exact (six_post (T) HTe.out (HC6.out) (HK6.out) hgr (Nat.le_refl _))

set_option maxRecDepth 100000 in
set_option maxHeartbeats 4000000 in
theorem t_tok_name (g : Nat) (s : ByteArray) (o : Nat) (w : World) (h : CutP w g s o) (hB : Bd s o) (hG : GL w) (hg : NG ≤ g) (ho : o ≤ s.size) (hs : s.size ≤ 140737488351232) (h1 : o < s.size) (hl : isLet (B s o) = true) :
    Calls Tryd.prog 27 #[.pointer (some ⟨g, 0, none⟩)] w (TokPost g s o w (one s o)) := by
  have hbv : (bv s o).toNat = B s o := by rw [bv_in h1, Int.toNat_natCast]
  have hl2 : isLet (bv s o).toNat = true := by rw [hbv]; exact hl
  obtain ⟨K, hK⟩ : ∃ K, many isWord s o = K := ⟨_, rfl⟩
  have hoK : o < K := by rw [← hK, many_step h1 (by simp [isWord, hl])]; exact many_ge _ _ _
  have hKs : K ≤ s.size := by rw [← hK]; exact many_le _ _ (by omega)
  have hKl : B s (K - 1) < 128 := word_lt (many_all isWord s o (by omega) (by rw [hK]; omega))
  have h1e : one s o = if 32 < K - o then (Tk.zero, K, 42) else (⟨1, s.extract o K, 0⟩, K, 0) := by
    unfold one; rw [if_neg (by omega), if_pos hl, hK]
  obtain ⟨n, hn⟩ : ∃ n, K = o + n := ⟨K - o, by omega⟩
  subst hn
  rw [show o + n - o = n from by omega] at h1e
  rw [h1e]
  have HK := Lib.hid (show ((many isWord s (o + (0 : Int).toNat) : Int)) - o = (n : Int) by rw [show o + (0 : Int).toNat = o from by simp, hK]; omega)
  have HOK := Lib.hid (show EndOk s o (o + ((n : Int)).toNat) from by rw [Int.toNat_natCast]; exact Or.inr (Or.inr ⟨by omega, hKl⟩))
  clear h1e hbv hl hK hKl
  obtain ⟨N, hNN⟩ : ∃ N, (if 32 < n then ((Tk.zero, o + n, 42) : Tk × Nat × Int) else (⟨1, s.extract o (o + n), 0⟩, o + n, 0)) = N := ⟨_, rfl⟩
  rw [hNN]
  have HNN := Lib.hid hNN
  clear hNN
  obtain ⟨X, hX⟩ : ∃ X, s.extract o s.size = X := ⟨_, rfl⟩
  have hXs : X.size = s.size - o := by rw [← hX]; exact size_ext (Nat.le_refl _)
  have hXe : X.toList.isEmpty = decide (s.size ≤ o) := by
    rw [Go.ByteArray.toList_eq, Bool.eq_iff_iff]
    simp only [List.isEmpty_iff, decide_eq_true_eq]
    have hl : X.data.toList.length = X.size := by rw [Array.length_toList]; rfl
    constructor
    · intro q; rw [q] at hl; simp at hl; omega
    · intro q; exact List.eq_nil_of_length_eq_zero (by omega)
  have HX := Lib.hid hX
  have HXs := Lib.hid hXs
  have HC := Lib.hid h
  have HG := Lib.hid hG
  have HB := Lib.hid hB
  have hglt := HC.out.lt
  have hb0 := bv_ge s o
  obtain ⟨cc0, cc1, cc2, cc3, cf0, cf1, cf2, cf3⟩ := HC.out.four
  clear hX hXs h hG hB
  go_enter Tryd.func27, Tryd.ntmps27
  go_wp2_with fail
  refine (t_byte g s o _ _ _ _ (Blk.alloc (Blk.alloc HC.out _) _) ho hs (by omega)).mono ?_
  rintro e w1 ⟨rfl, n1, rfl⟩
  rw [Int.toNat_zero, Nat.add_zero]
  have HC5 := Lib.hid (show CutP (((w.alloc (.cells #[.int .i64 0, .string ⟨#[]⟩, .int .i64 0, .int .i64 0, .int .i64 0, .int .i64 0] 37)).alloc (.cells #[.int .i64 0, .string ⟨#[]⟩, .int .i64 0, .int .i64 o, .int .i64 (P s o).1, .int .i64 (P s o).2] 37)).drewN n1) g s o from Blk.drewN (Blk.alloc (Blk.alloc HC.out _) _) _)
  have HR5 := Lib.hid (show Blk (((w.alloc (.cells #[.int .i64 0, .string ⟨#[]⟩, .int .i64 0, .int .i64 0, .int .i64 0, .int .i64 0] 37)).alloc (.cells #[.int .i64 0, .string ⟨#[]⟩, .int .i64 0, .int .i64 o, .int .i64 (P s o).1, .int .i64 (P s o).2] 37)).drewN n1) w.heap.size 37 #[.int .i64 0, .string ⟨#[]⟩, .int .i64 0, .int .i64 0, .int .i64 0, .int .i64 0] from Blk.drewN (Blk.alloc (Blk.new _ _ _) _) _)
  have HT5 := Lib.hid (show Blk (((w.alloc (.cells #[.int .i64 0, .string ⟨#[]⟩, .int .i64 0, .int .i64 0, .int .i64 0, .int .i64 0] 37)).alloc (.cells #[.int .i64 0, .string ⟨#[]⟩, .int .i64 0, .int .i64 o, .int .i64 (P s o).1, .int .i64 (P s o).2] 37)).drewN n1) (w.heap.size + 1) 37 #[.int .i64 0, .string ⟨#[]⟩, .int .i64 0, .int .i64 o, .int .i64 (P s o).1, .int .i64 (P s o).2] from Blk.drewN (by simpa using Blk.new (w.alloc (.cells #[.int .i64 0, .string ⟨#[]⟩, .int .i64 0, .int .i64 0, .int .i64 0, .int .i64 0] 37)) 37 #[.int .i64 0, .string ⟨#[]⟩, .int .i64 0, .int .i64 o, .int .i64 (P s o).1, .int .i64 (P s o).2]) _)
  have HG5 := Lib.hid (show GL (((w.alloc (.cells #[.int .i64 0, .string ⟨#[]⟩, .int .i64 0, .int .i64 0, .int .i64 0, .int .i64 0] 37)).alloc (.cells #[.int .i64 0, .string ⟨#[]⟩, .int .i64 0, .int .i64 o, .int .i64 (P s o).1, .int .i64 (P s o).2] 37)).drewN n1) from ((HG.out.alloc _).alloc _).drewN _)
  have HK5 := Lib.hid (show Kp (at_ g) w (((w.alloc (.cells #[.int .i64 0, .string ⟨#[]⟩, .int .i64 0, .int .i64 0, .int .i64 0, .int .i64 0] 37)).alloc (.cells #[.int .i64 0, .string ⟨#[]⟩, .int .i64 0, .int .i64 o, .int .i64 (P s o).1, .int .i64 (P s o).2] 37)).drewN n1) from ((((Kp.refl _ _).alloc _).alloc _).drewN _))
  obtain ⟨w5, hw5⟩ : ∃ w5, ((w.alloc (.cells #[.int .i64 0, .string ⟨#[]⟩, .int .i64 0, .int .i64 0, .int .i64 0, .int .i64 0] 37)).alloc (.cells #[.int .i64 0, .string ⟨#[]⟩, .int .i64 0, .int .i64 o, .int .i64 (P s o).1, .int .i64 (P s o).2] 37)).drewN n1 = w5 := ⟨_, rfl⟩
  rw [hw5] at HC5 HR5 HT5 HG5 HK5 ⊢
  clear hw5 cc0 cc1 cc2 cc3 cf0 cf1 cf2 cf3
  obtain ⟨rt0, rt1, rt2, rt3, rt4, rt5, rf0, rf1, rf2, rf3, rf4, rf5⟩ := HR5.out.six
  obtain ⟨ct0, ct1, ct2, ct3, ct4, ct5, fr0, fr1, fr2, fr3, fr4, fr5⟩ := HT5.out.six
  have hz5 := HT5.out.lt
  have hz6 := HR5.out.lt
  have hgr : g ≠ w.heap.size := by omega
  have hgt : g ≠ w.heap.size + 1 := by omega
  have hng := HG.out.size
  go_wp2_with fail
  refine (t_rest g s o _ _ _ HC5.out ho).mono ?_
  rintro e w1 ⟨rfl, n2, rfl⟩
  rw [HX.out]
  have hXt : X.toList.isEmpty = false := by rw [hXe]; exact decide_eq_false (by omega)
  clear hXe
  go_wp2_with fail
  refine (t_letter _ _ hb0).mono ?_
  rintro e w' ⟨rfl, rfl⟩
  go_wp2_with fail
  refine (t_many_word g s o _ _ _ _ (Blk.drewN HC5.out _) (by omega) (by omega) hs).mono ?_
  rintro e w1 ⟨rfl, n3, rfl⟩
  rw [HK.out]
  by_cases h32 : 32 < n
  · have HN := Lib.hid (show N = (Tk.zero, o + n, 42) by rw [← HNN.out, if_pos h32])
    go_wp2
    rw [HN.out]
    refine bodyPost_ret (results_ct (p := 2) (u := 3) rfl _ _ w.heap.size 37 _ rfl (Blk.six_set (Blk.drewN HR5.out _)) wideToken) rfl ?_
    exact (six_post (N := (Tk.zero, o + n, 42)) (Tk.zero) (fun q => absurd q (by simp)) (Blk.drewN HC5.out _) (HK5.out.drewN _) hgr (Nat.le_refl _))
  · have HN := Lib.hid (show N = (⟨1, s.extract o (o + n), 0⟩, o + n, 0) by rw [← HNN.out, if_neg h32])
    go_wp2_with fail
    refine (t_take g s o _ _ (Blk.drewN HC5.out _) HB.out (HG5.out.drewN _) hg (by omega) (by omega) hs HOK.out).mono ?_
    rintro e w6 ⟨rfl, HC6, HK6⟩
    rw [Int.toNat_natCast] at *
    have HR6 := Lib.hid (Blk.kp (Blk.drewN HR5.out _) HK6 (fun q => hgr q.symm))
    have HT6 := Lib.hid (Blk.kp (Blk.drewN HT5.out _) HK6 (fun q => hgt q.symm))
    have HK7 := Lib.hid ((HK5.out.drewN _).trans_same HK6)
    have HC7 := Lib.hid HC6
    clear HC6 HK6 rt0 rt1 rt2 rt3 rt4 rt5 rf0 rf1 rf2 rf3 rf4 rf5 ct0 ct1 ct2 ct3 ct4 ct5 fr0 fr1 fr2 fr3 fr4 fr5
    obtain ⟨ct0, ct1, ct2, ct3, ct4, ct5, fr0, fr1, fr2, fr3, fr4, fr5⟩ := HT6.out.six
    obtain ⟨rt0, rt1, rt2, rt3, rt4, rt5, rf0, rf1, rf2, rf3, rf4, rf5⟩ := HR6.out.six
    go_wp2
    rw [HN.out]
    refine bodyPost_ret (results_ct (p := 2) (u := 3) rfl _ _ w.heap.size 37 _ rfl (Blk.six_set (Blk.far (p := ⟨w.heap.size + 1, 1, none⟩) (Blk.far (p := ⟨w.heap.size + 1, 0, none⟩) HR6.out (by simp) _) (by simp) _)) wideToken) rfl ?_
    exact (six_post (N := (⟨1, s.extract o (o + n), 0⟩, o + n, 0)) (⟨1, s.extract o (o + n), 0⟩) (fun _ => rfl) (Cut.far (Cut.far HC7.out hgt 0 _) hgt 1 _) ((HK7.out.at_new (by omega) 0 _).at_new (by omega) 1 _) hgr (Nat.le_refl _))

end Go.Proofs.YtgaanohloocokaaDoor
