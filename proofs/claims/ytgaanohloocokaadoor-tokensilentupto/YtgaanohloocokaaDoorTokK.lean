/-
  Walks of package token: token at a quote.
-/
import Derived.Test.YtgaanohloocokaaDoorTokJ
import Derived.Test.YtgaanohloocokaaDoorPlain
import Derived.Deep.RegionWith
namespace Go.Proofs.YtgaanohloocokaaDoor
open Go.RowKit

set_option maxRecDepth 100000 in
set_option maxHeartbeats 4000000 in
theorem t_tok_text (g : Nat) (s : ByteArray) (o : Nat) (w : World) (h : CutP w g s o) (hB : Bd s o) (hG : GL w) (hg : NG ≤ g) (ho : o ≤ s.size) (hs : s.size ≤ 140737488351232) (h1 : o < s.size) (hq : B s o = 34) :
    Calls Tryd.prog 27 #[.pointer (some ⟨g, 0, none⟩)] w (TokPost g s o w (one s o)) := by
  have e34 : bv s o = 34 := by rw [bv_in h1, hq]; rfl
  have l34 : isLet 34 = false := by decide
  have d34 : isDig 34 = false := by decide
  have h1e : one s o = if many inText s (o + 1) < s.size ∧ B s (many inText s (o + 1)) = 34 then (⟨4, s.extract (o + 1) (many inText s (o + 1)), 0⟩, many inText s (o + 1) + 1, 0) else (Tk.zero, o, 43) := by
    unfold one; rw [if_neg (by omega), if_neg (by simp [isLet, hq]), if_neg (by simp [isDig, hq]), if_pos hq]
  have H1E := Lib.hid h1e
  clear h1e
  obtain ⟨N, hNN⟩ : ∃ N, one s o = N := ⟨_, rfl⟩
  rw [hNN]
  have HNN := Lib.hid hNN
  clear hNN
  obtain ⟨X, hX⟩ : ∃ X, s.extract o s.size = X := ⟨_, rfl⟩
  have hXs : X.size = s.size - o := by rw [← hX]; exact size_ext (Nat.le_refl _)
  have hXe : X.toList.isEmpty = decide (s.size ≤ o) := by
    rw [Go.ByteArray.toList_eq, Bool.eq_iff_iff]
    simp only [List.isEmpty_iff, decide_eq_true_eq]
    have hl : X.data.toList.length = X.size := by rw [Array.length_toList]; rfl
    constructor
    · intro q; rw [q] at hl; simp at hl; omega
    · intro q; exact List.eq_nil_of_length_eq_zero (by omega)
  have HX := Lib.hid hX
  have HXs := Lib.hid hXs
  have HC := Lib.hid h
  have HG := Lib.hid hG
  have HB := Lib.hid hB
  have hglt := HC.out.lt
  have hb0 := bv_ge s o
  obtain ⟨cc0, cc1, cc2, cc3, cf0, cf1, cf2, cf3⟩ := HC.out.four
  clear hX hXs h hG hB
  go_enter Tryd.func27, Tryd.ntmps27
  go_wp2_with fail
  refine (t_byte g s o _ _ _ _ (Blk.alloc (Blk.alloc HC.out _) _) ho hs (by omega)).mono ?_
  rintro e w1 ⟨rfl, n1, rfl⟩
  rw [Int.toNat_zero, Nat.add_zero]
  have HC5 := Lib.hid (show CutP (((w.alloc (.cells #[.int .i64 0, .string ⟨#[]⟩, .int .i64 0, .int .i64 0, .int .i64 0, .int .i64 0] 37)).alloc (.cells #[.int .i64 0, .string ⟨#[]⟩, .int .i64 0, .int .i64 o, .int .i64 (P s o).1, .int .i64 (P s o).2] 37)).drewN n1) g s o from Blk.drewN (Blk.alloc (Blk.alloc HC.out _) _) _)
  have HR5 := Lib.hid (show Blk (((w.alloc (.cells #[.int .i64 0, .string ⟨#[]⟩, .int .i64 0, .int .i64 0, .int .i64 0, .int .i64 0] 37)).alloc (.cells #[.int .i64 0, .string ⟨#[]⟩, .int .i64 0, .int .i64 o, .int .i64 (P s o).1, .int .i64 (P s o).2] 37)).drewN n1) w.heap.size 37 #[.int .i64 0, .string ⟨#[]⟩, .int .i64 0, .int .i64 0, .int .i64 0, .int .i64 0] from Blk.drewN (Blk.alloc (Blk.new _ _ _) _) _)
  have HT5 := Lib.hid (show Blk (((w.alloc (.cells #[.int .i64 0, .string ⟨#[]⟩, .int .i64 0, .int .i64 0, .int .i64 0, .int .i64 0] 37)).alloc (.cells #[.int .i64 0, .string ⟨#[]⟩, .int .i64 0, .int .i64 o, .int .i64 (P s o).1, .int .i64 (P s o).2] 37)).drewN n1) (w.heap.size + 1) 37 #[.int .i64 0, .string ⟨#[]⟩, .int .i64 0, .int .i64 o, .int .i64 (P s o).1, .int .i64 (P s o).2] from Blk.drewN (by simpa using Blk.new (w.alloc (.cells #[.int .i64 0, .string ⟨#[]⟩, .int .i64 0, .int .i64 0, .int .i64 0, .int .i64 0] 37)) 37 #[.int .i64 0, .string ⟨#[]⟩, .int .i64 0, .int .i64 o, .int .i64 (P s o).1, .int .i64 (P s o).2]) _)
  have HG5 := Lib.hid (show GL (((w.alloc (.cells #[.int .i64 0, .string ⟨#[]⟩, .int .i64 0, .int .i64 0, .int .i64 0, .int .i64 0] 37)).alloc (.cells #[.int .i64 0, .string ⟨#[]⟩, .int .i64 0, .int .i64 o, .int .i64 (P s o).1, .int .i64 (P s o).2] 37)).drewN n1) from ((HG.out.alloc _).alloc _).drewN _)
  have HK5 := Lib.hid (show Kp (at_ g) w (((w.alloc (.cells #[.int .i64 0, .string ⟨#[]⟩, .int .i64 0, .int .i64 0, .int .i64 0, .int .i64 0] 37)).alloc (.cells #[.int .i64 0, .string ⟨#[]⟩, .int .i64 0, .int .i64 o, .int .i64 (P s o).1, .int .i64 (P s o).2] 37)).drewN n1) from ((((Kp.refl _ _).alloc _).alloc _).drewN _))
  obtain ⟨w5, hw5⟩ : ∃ w5, ((w.alloc (.cells #[.int .i64 0, .string ⟨#[]⟩, .int .i64 0, .int .i64 0, .int .i64 0, .int .i64 0] 37)).alloc (.cells #[.int .i64 0, .string ⟨#[]⟩, .int .i64 0, .int .i64 o, .int .i64 (P s o).1, .int .i64 (P s o).2] 37)).drewN n1 = w5 := ⟨_, rfl⟩
  rw [hw5] at HC5 HR5 HT5 HG5 HK5 ⊢
  clear hw5 cc0 cc1 cc2 cc3 cf0 cf1 cf2 cf3
  obtain ⟨rt0, rt1, rt2, rt3, rt4, rt5, rf0, rf1, rf2, rf3, rf4, rf5⟩ := HR5.out.six
  obtain ⟨ct0, ct1, ct2, ct3, ct4, ct5, fr0, fr1, fr2, fr3, fr4, fr5⟩ := HT5.out.six
  have hz5 := HT5.out.lt
  have hz6 := HR5.out.lt
  have hgr : g ≠ w.heap.size := by omega
  have hgt : g ≠ w.heap.size + 1 := by omega
  have hng := HG.out.size
  go_wp2_with fail
  refine (t_rest g s o _ _ _ HC5.out ho).mono ?_
  rintro e w1 ⟨rfl, n2, rfl⟩
  rw [HX.out]
  have hXt : X.toList.isEmpty = false := by rw [hXe]; exact decide_eq_false (by omega)
  clear hXe
  obtain ⟨Q, hQ⟩ : ∃ Q, many (isNot 34) s (o + 1) = Q := ⟨_, rfl⟩
  have hQg : o + 1 ≤ Q := by rw [← hQ]; exact many_ge _ _ _
  have hQs : Q ≤ s.size := by rw [← hQ]; exact many_le _ _ (by omega)
  obtain ⟨Y, hY⟩ : ∃ Y, s.extract (o + 1) s.size = Y := ⟨_, rfl⟩
  have hYs : Y.size = s.size - (o + 1) := by rw [← hY]; exact size_ext (Nat.le_refl _)
  have hXY : X.extract 1 X.size = Y := by
    rw [HXs.out, ← HX.out, ← hY, ByteArray.extract_extract]
    congr 1
    omega
  obtain ⟨q, hq⟩ : ∃ q, Q = o + 1 + q := ⟨Q - (o + 1), by omega⟩
  subst hq
  have hYq : many (isNot 34) Y 0 = q := by rw [← hY, many_tail _ _ _ _ (by omega), Nat.add_zero, hQ]; omega
  have hIX : Lib.indexByte Y.data.toList 34 = if q < Y.size then (q : Int) else -1 := by rw [index_many, hYq]
  have hX1 : 1 ≤ X.size := by have := HXs.out; omega
  have hsl := fun wx => run_slice_string_l (P := Tryd.prog) (w := wx) (t := 9) (s := X) Tryd.underlying9 .i64 (1 : Int) (by omega) (by omega)
  simp only [show (1 : Int).toNat = 1 from rfl, hXY] at hsl
  have HQ := Lib.hid hQ
  have HIX := Lib.hid hIX
  have HYs := Lib.hid hYs
  clear hQ hY hYs hXY hYq hIX
  go_wp2_with fail
  refine (t_letter _ _ (by omega)).mono ?_
  rintro e w' ⟨rfl, rfl⟩
  go_wp2_with fail
  refine (t_digit _ _ (by omega)).mono ?_
  rintro e w' ⟨rfl, rfl⟩
  go_wp2_with fail
  refine (t_rest g s o _ _ _ (Blk.drewN HC5.out _) ho).mono ?_
  rintro e w1 ⟨rfl, n3, rfl⟩
  rw [HX.out]
  go_wp2_with fail
  refine (Tryd.strings_IndexByte Y _ _).mono ?_
  rintro e w1 ⟨rfl, rfl⟩
  rw [show ((34 : Int).toNat.toUInt8) = (34 : UInt8) from rfl, HIX.out]
  by_cases hqY : q < Y.size
  · rw [if_pos hqY]
    have hq1 : o + 1 + q < s.size := by have := HYs.out; omega
    obtain ⟨Z, hZ⟩ : ∃ Z, s.extract (o + 1) (o + 1 + q) = Z := ⟨_, rfl⟩
    have hXZ : X.extract 1 (q + 1) = Z := by
      rw [← HX.out, ← hZ, ByteArray.extract_extract]
      congr 1
      all_goals omega
    have hsl2 := fun wx => slice_nn (P := Tryd.prog) 9 Tryd.underlying9 X (1 : Int) ((q : Int) + 1) 1 (q + 1) rfl (by omega) (by omega) (by have := HXs.out; omega) wx
    simp only [hXZ] at hsl2
    obtain ⟨nl, hnl⟩ : ∃ nl, decide ((0 : Int) ≤ Lib.indexByte Z.data.toList 10) = nl := ⟨_, rfl⟩
    have hnl' := hnl
    rw [index_many] at hnl'
    have HZ := Lib.hid hZ
    have HNL := Lib.hid hnl
    have HNL' := Lib.hid hnl'
    have hqI : (q : Int) + 1 ≤ s.size := by omega
    clear hXZ hZ hnl hnl'
    go_wp2_with fail
    refine (t_rest g s o _ _ _ (Blk.drewN HC5.out _) ho).mono ?_
    rintro e w1 ⟨rfl, n4, rfl⟩
    rw [HX.out]
    go_wp2_with fail
    refine (Tryd.strings_Contains_one Z 10 _).mono ?_
    rintro e w1 ⟨rfl, rfl⟩
    rw [HNL.out]
    cases nl with
    | true =>
      have HN := Lib.hid (show N = (Tk.zero, o, 43) by
        rw [← HNN.out, H1E.out, if_neg (text_nl (by rw [HQ.out]; exact hq1) (by
          rw [HQ.out, HZ.out]
          have := HNL'.out
          simp only [decide_eq_true_eq] at this
          rcases Nat.lt_or_ge (many (isNot 10) Z 0) Z.size with q | q
          · exact q
          · rw [if_neg (by omega)] at this; omega))])
      go_wp2
      rw [HN.out]
      refine bodyPost_ret (results_ct (p := 2) (u := 3) rfl _ _ w.heap.size 37 _ rfl (Blk.six_set (Blk.drewN HR5.out _)) wideToken) rfl ?_
      exact six_post (N := (Tk.zero, o, 43)) (Tk.zero) (fun q => absurd q (by simp)) (Blk.drewN HC5.out _) (HK5.out.drewN _) hgr (Nat.le_refl _)
    | false =>
      have hNo : ¬ many (isNot 10) Z 0 < Z.size := by
        intro c
        have := HNL'.out
        rw [if_pos c] at this
        simp at this
      have hT := text_ok (s := s) (o := o) (by rw [HQ.out]; exact hq1) (by rw [HQ.out, HZ.out]; exact hNo)
      have HN := Lib.hid (show N = (⟨4, Z, 0⟩, o + 1 + q + 1, 0) by
        rw [← HNN.out, H1E.out, hT.1, HQ.out, if_pos ⟨hq1, by rw [← HQ.out]; exact hT.2⟩, HZ.out])
      have HOK := Lib.hid (show EndOk s o (o + ((q : Int) + 2).toNat) from Or.inr (Or.inr ⟨by omega, by
        rw [show o + ((q : Int) + 2).toNat - 1 = o + 1 + q from by omega, ← HQ.out, hT.2]
        omega⟩))
      clear hNo hT
      have hsl3 := fun (wx : World) => slice_nn (P := Tryd.prog) 9 Tryd.underlying9 (s.extract o (o + ((q : Int) + 2).toNat)) (1 : Int) ((q : Int) + 1) 1 (q + 1) rfl (by omega) (by omega) (by rw [size_ext (by omega)]; omega) wx
      have hZ3 : (s.extract o (o + ((q : Int) + 2).toNat)).extract 1 (q + 1) = Z := by
        rw [← HZ.out, ByteArray.extract_extract]
        congr 1
        all_goals omega
      simp only [hZ3] at hsl3
      obtain ⟨V, hV⟩ : ∃ V, s.extract o (o + ((q : Int) + 2).toNat) = V := ⟨_, rfl⟩
      rw [hV] at hsl3
      have HV := Lib.hid hV
      clear hZ3 hV
      go_wp2_with fail
      have hw1 : IntKind.i64.wrap ((q : Int) + 1) = (q : Int) + 1 := Go.IntWalk.i64_in _ (by omega)
      have hw2 : IntKind.i64.wrap ((q : Int) + 2) = (q : Int) + 2 := Go.IntWalk.i64_in _ (by omega)
      go_region_with (go_at_call 34; refine (t_take g s o _ _ (Blk.drewN HC5.out _) HB.out (HG5.out.drewN _) hg (by omega) (by omega) hs HOK.out).mono ?_; rintro e w6 ⟨rfl, HC6, HK6⟩; rw [HV.out]; have HR6 := Lib.hid (Blk.kp (Blk.drewN HR5.out _) HK6 (fun q => hgr q.symm)); have HT6 := Lib.hid (Blk.kp (Blk.drewN HT5.out _) HK6 (fun q => hgt q.symm)); have HK7 := Lib.hid ((HK5.out.drewN _).trans_same HK6); have HC7 := Lib.hid HC6; clear HC6 HK6 rt0 rt1 rt2 rt3 rt4 rt5 rf0 rf1 rf2 rf3 rf4 rf5 ct0 ct1 ct2 ct3 ct4 ct5 fr0 fr1 fr2 fr3 fr4 fr5; obtain ⟨ct0, ct1, ct2, ct3, ct4, ct5, fr0, fr1, fr2, fr3, fr4, fr5⟩ := HT6.out.six; obtain ⟨rt0, rt1, rt2, rt3, rt4, rt5, rf0, rf1, rf2, rf3, rf4, rf5⟩ := HR6.out.six)
      go_wp2
      rw [HN.out]
      refine bodyPost_ret (results_ct (p := 2) (u := 3) rfl _ _ w.heap.size 37 _ rfl (Blk.six_set (Blk.far (p := ⟨w.heap.size + 1, 1, none⟩) (Blk.far (p := ⟨w.heap.size + 1, 0, none⟩) HR6.out (by simp) _) (by simp) _)) wideToken) rfl ?_
      have HC8 : CutP w6 g s (o + 1 + q + 1) := by
        have := HC7.out
        rwa [show o + ((q : Int) + 2).toNat = o + 1 + q + 1 from by omega] at this
      exact six_post (N := (⟨4, Z, 0⟩, o + 1 + q + 1, 0)) (⟨4, Z, 0⟩) (fun _ => rfl) (Cut.far (Cut.far HC8 hgt 0 _) hgt 1 _) ((HK7.out.at_new (by omega) 0 _).at_new (by omega) 1 _) hgr (Nat.le_refl _)
  · rw [if_neg hqY]
    have hq1 : ¬ o + 1 + q < s.size := by have := HYs.out; omega
    have HN := Lib.hid (show N = (Tk.zero, o, 43) by
      rw [← HNN.out, H1E.out, if_neg (text_none (by rw [HQ.out]; exact hq1))])
    go_wp2
    rw [HN.out]
    refine bodyPost_ret (results_ct (p := 2) (u := 3) rfl _ _ w.heap.size 37 _ rfl (Blk.six_set (Blk.drewN HR5.out _)) wideToken) rfl ?_
    exact six_post (N := (Tk.zero, o, 43)) (Tk.zero) (fun q => absurd q (by simp)) (Blk.drewN HC5.out _) (HK5.out.drewN _) hgr (Nat.le_refl _)

end Go.Proofs.YtgaanohloocokaaDoor
