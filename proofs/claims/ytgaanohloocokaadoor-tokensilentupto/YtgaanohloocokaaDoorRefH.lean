/-
  Walks of phasorref04.one (whole) and Scan.
-/
import Derived.Test.YtgaanohloocokaaDoorRefB
import Derived.Test.YtgaanohloocokaaDoorRefC
import Derived.Test.YtgaanohloocokaaDoorRefG
import Derived.Test.YtgaanohloocokaaDoorOwn
namespace Go.Proofs.YtgaanohloocokaaDoor
open Go.RowKit

theorem r_one (s : ByteArray) (i : Int) (w : World) (h0 : 0 ≤ i) (hs : s.size ≤ 140737488351232) :
    Calls Tryd.prog 29 #[.string s, .int .i64 i] w fun e w' => e = .returned (tkV (one s i.toNat)) ∧ Below w.heap.size w w' := by
  obtain ⟨i, rfl⟩ := Int.eq_ofNat_of_zero_le h0
  rw [Int.toNat_natCast]
  by_cases h1 : i < s.size
  · cases hl : isLet (B s i) with
    | true => exact r_one_name s i w h1 hs hl
    | false =>
      cases hd : isDig (B s i) with
      | true => exact r_one_dig s i w h1 hs hl hd
      | false =>
        by_cases hq : B s i = 34
        · exact r_one_text s i w h1 hs hq
        · exact r_one_marks s i w _ h1 hs hl hd hq (fun n hn hm _ => (one_mark_yes s i h1 hl hd hq n hn hm).symm) (fun hm => (one_mark_no s i h1 hl hd hq hm).symm)
  · exact r_one_end s i w h1

set_option maxRecDepth 100000 in
set_option maxHeartbeats 4000000 in
theorem r_Scan (s : ByteArray) (w : World) (hs : s.size ≤ 100000000) :
    Calls Tryd.prog 15 #[.string s] w (ScPost s w (scan s)) := by
  have hs' : s.size ≤ 140737488351232 := by omega
  obtain ⟨R, hR⟩ : ∃ R, scan s = R := ⟨_, rfl⟩
  rw [hR]
  have HR := Lib.hid hR
  clear hR
  obtain ⟨i0, hi, hq0, hq1, hq2⟩ := info_parts infoToken
  have hP0 := P_bd s 0 (by omega)
  go_enter Tryd.func15, Tryd.ntmps15
  go_wp2
  go_loopw [4, 5] (fun v u wr => ∃ (k o f : Nat) (pre : List Tp), u = .int .i64 k ∧ k ≤ s.size ∧ o ≤ k ∧ pre.length ≤ k ∧ Hid (s.size - k < f) ∧ Hid (Bd s k) ∧ Hid (Bd s o) ∧ Hid (wr.ownsRow (w.heap.size + 2) 37 6 v pre.length (tpRow pre)) ∧
      Hid (Blk wr w.heap.size 31 #[.int .i64 0, .int .i64 0, .int .i64 0, .int .i64 0]) ∧ Hid (Blk wr (w.heap.size + 1) 23 #[.int .i64 o, .int .i64 (P s o).1, .int .i64 (P s o).2]) ∧ Hid (Below w.heap.size w wr) ∧ Hid (joinSc pre (scanF s f k) = R)) (fun _ u _ => s.size - (intOf u).toNat)
  case atStart => exact ⟨0, 0, s.size + 1, [], rfl, by omega, by omega, by simp, by show _ < _; omega, Bd_zero s, Bd_zero s, ⟨rfl, Or.inl ⟨rfl, rfl⟩⟩, (Blk.new _ _ _).alloc _, Lib.hid (by simpa [P_zero] using Blk.new (w.alloc (.cells #[.int .i64 0, .int .i64 0, .int .i64 0, .int .i64 0] 31)) 23 #[.int .i64 0, .int .i64 1, .int .i64 1]), ((Below.refl _ _).alloc (Nat.le_refl _) _).alloc (by simp) _, (join_nil _ _ _).trans HR.out⟩
  case round =>
    obtain ⟨k, o, f, pre, rfl, hk, hok, hpre, Hf, HBk, HBo, HO, HF, HS, HW, HJ⟩ := hrel
    obtain ⟨f, rfl⟩ : ∃ m, f = m + 1 := ⟨f - 1, by have : s.size - k < f := Hf.out; omega⟩
    obtain ⟨j, hj⟩ : ∃ j, skip s k = j := ⟨_, rfl⟩
    have hkj : k ≤ j := by rw [← hj]; exact skip_ge hk
    have hjs : j ≤ s.size := by rw [← hj]; exact skip_le hk
    have HBj : Hid (Bd s j) := by rw [← hj]; exact skip_Bd hk HBk.out
    have Hj := Lib.hid hj
    have HPo := Lib.hid (P_bd s o (by omega))
    clear hj
    obtain ⟨N, hN⟩ : ∃ N, one s j = N := ⟨_, rfl⟩
    have HN := Lib.hid hN
    clear hN
    have HNs := Lib.hid (one_spec s j hjs HBj.out)
    obtain ⟨x0, x1, x2, y0, y1, y2⟩ := HS.out.three
    have hz1 := HS.out.lt
    go_wp2_with fail
    refine (r_skip s _ _ (by omega) (by omega) hs').mono ?_
    rintro e w1 ⟨rfl, rfl⟩
    rw [Int.toNat_natCast, Hj.out]
    go_wp2_with fail
    have hp := HPo.out
    refine (r_on s _ _ _ _ _ (by omega) (by omega) (by omega) hs' (by omega) (by omega) (by omega) (by omega)).mono ?_
    rintro e w1 ⟨rfl, hb1⟩
    rw [Int.toNat_natCast, Int.toNat_natCast, ← HBo.out j (by omega) hjs]
    clear hp x0 x1 x2 y0 y1 y2
    have HS1 := Lib.hid (HS.out.below hb1)
    have HF1 := Lib.hid (HF.out.below hb1)
    have HW1 := Lib.hid (HW.out.trans (hb1.mono HW.out.size))
    have HO1 := Lib.hid (ownsRow_below HO.out hb1)
    clear HS HF HW HO hb1
    obtain ⟨x0, x1, x2, y0, y1, y2⟩ := HS1.out.three
    have hz2 := HS1.out.lt
    go_wp2_with fail
    refine (r_one s _ _ (by omega) hs').mono ?_
    rintro e w2 ⟨rfl, hb2⟩
    rw [Int.toNat_natCast, HN.out]
    have hNs := HNs.out
    rw [HN.out] at hNs
    have HS2 := Lib.hid (Blk.below (by simpa using ((HS1.out.set 0 _).set 1 _).set 2 _) hb2)
    have HF2 := Lib.hid (Blk.below (((HF1.out.far (by simp) _).far (by simp) _).far (by simp) _) hb2)
    have HW2 := Lib.hid ((((HW1.out.setCell (by simp) _).setCell (by simp) _).setCell (by simp) _).trans (hb2.mono (by simp; have := HW1.out.size; omega)))
    have HO2 := Lib.hid (ownsRow_below (ownsRow_set (ownsRow_set (ownsRow_set HO1.out (p := ⟨w.heap.size + 1, 0, none⟩) HS1.out (by decide) (.int .i64 j)) (p := ⟨w.heap.size + 1, 1, none⟩) (HS1.out.set 0 _) (by decide) (.int .i64 (P s j).1)) (p := ⟨w.heap.size + 1, 2, none⟩) ((HS1.out.set 0 _).set 1 _) (by decide) (.int .i64 (P s j).2)) hb2)
    clear x0 x1 x2 y0 y1 y2 HS1 HF1 HW1 HO1 hb2
    obtain ⟨x0, x1, x2, y0, y1, y2⟩ := HS2.out.three
    obtain ⟨u0, u1, u2, u3, v0, v1, v2, v3⟩ := HF2.out.four
    have hz3 := HS2.out.lt
    have hz4 := HF2.out.lt
    unfold tkV
    by_cases he : N.2.2 = 0
    · have heb : (N.2.2 != 0) = false := by simp [he]
      by_cases hk0 : N.1.k = 0
      · have hkb : (N.1.k == 0) = true := by simp [hk0]
        have HE := Lib.hid he
        have HK := Lib.hid hk0
        clear he hk0
        go_wp2_with (at_builtin; refine wpList_append_own _ rfl _ _ 28 rfl (w.heap.size + 2) 37 i0 (.agg #[.int .i64 0, .string ⟨#[]⟩, .int .i64 0, .int .i64 0, .int .i64 0, .int .i64 0]) 6 56 Tryd.underlying28 hi hq0 hq1 hq2 rfl (by decide) _ _ _ rfl ((HO2.out.alloc _).alloc _) ⟨w2.heap.size + 1, 0, none⟩ 1 1 (tpCells (mkTp s j N.1)) rfl rfl ?hnews ?hone ?h63 ?hbytes ?hbase ?_; (case hnews => exact two_new _ _ _ (tpCells (mkTp s j N.1))); (case hone => exact tpCells_one _); (case h63 => unfold maxLen; omega); (case hbytes => omega); (case hbase => simp; omega); intro v' w3 hown hgrow _; have HO3 := Lib.hid hown; have HT3 := Lib.hid (grown_blk_new HO2.out hgrow ((Blk.new w2 37 (tpCells (mkTp s j N.1)).toArray).alloc _) (Nat.le_refl _)); have HS3 := Lib.hid (grown_blk ((HO2.out.alloc _).alloc _) hgrow ((HS2.out.alloc _).alloc _) (by decide)); have HF3 := Lib.hid (grown_blk ((HO2.out.alloc _).alloc _) hgrow ((HF2.out.alloc _).alloc _) (by decide)); have HW3 := Lib.hid (((HW2.out.alloc HW2.out.size _).alloc (by simp; have := HW2.out.size; omega) _).grown hgrow (by simp; have := HW2.out.size; omega) (fun b hb => by have := own_ge HO2.out b hb; omega)); clear hown hgrow; have ct : w3.cell? ⟨w2.heap.size, 0, none⟩ = some (.int .i64 N.1.k) := HT3.out.cell 0; have hz5 := HF3.out.lt; obtain ⟨p0, p1, p2, p3, q0, q1, q2, q3⟩ := HF3.out.four)
        have HR2 : Hid (R = (pre ++ [mkTp s j N.1], 0, 0)) := by
          have e := HJ.out
          rw [scan_end (by rw [Hj.out, HN.out]; exact HE.out) (by rw [Hj.out, HN.out]; exact HK.out), Hj.out, HN.out] at e
          exact e.symm
        rw [HR2.out]
        refine bodyPost_ret (results_tc rfl _ _ w.heap.size 31 _ rfl (by simpa using (((HF3.out.set 0 _).set 1 _).set 2 _).set 3 _) wideFault) rfl ⟨v', rfl, ?_, (((HW3.out.setCell (Nat.le_refl _) _).setCell (Nat.le_refl _) _).setCell (Nat.le_refl _) _).setCell (Nat.le_refl _) _⟩
        simp only [List.length_append, List.length_cons, List.length_nil, Nat.zero_add, tpRow_snoc]
        exact ownsRow_base (ownsRow_set (ownsRow_set (ownsRow_set (ownsRow_set HO3.out (p := ⟨w.heap.size, 0, none⟩) HF3.out (by decide) _) (p := ⟨w.heap.size, 1, none⟩) (HF3.out.set 0 _) (by decide) _) (p := ⟨w.heap.size, 2, none⟩) ((HF3.out.set 0 _).set 1 _) (by decide) _) (p := ⟨w.heap.size, 3, none⟩) (((HF3.out.set 0 _).set 1 _).set 2 _) (by decide) _) (by omega)
      · have hkb : (N.1.k == 0) = false := by simp [hk0]
        have HE := Lib.hid he
        have HK := Lib.hid hk0
        have HR2 : Hid (joinSc (pre ++ [mkTp s j N.1]) (scanF s f N.2.1) = R) := by
          have e := HJ.out
          rw [scan_more (by rw [Hj.out, HN.out]; exact HE.out) (by rw [Hj.out, HN.out]; exact HK.out), Hj.out, HN.out] at e
          exact e
        have hlt : j < N.2.1 := hNs.2.2.2 he hk0
        have hle : N.2.1 ≤ s.size := hNs.2.1
        have HBn := Lib.hid hNs.2.2.1
        clear he hk0 hNs
        go_wp2_with (at_builtin; refine wpList_append_own _ rfl _ _ 28 rfl (w.heap.size + 2) 37 i0 (.agg #[.int .i64 0, .string ⟨#[]⟩, .int .i64 0, .int .i64 0, .int .i64 0, .int .i64 0]) 6 56 Tryd.underlying28 hi hq0 hq1 hq2 rfl (by decide) _ _ _ rfl ((HO2.out.alloc _).alloc _) ⟨w2.heap.size + 1, 0, none⟩ 1 1 (tpCells (mkTp s j N.1)) rfl rfl ?hnews ?hone ?h63 ?hbytes ?hbase ?_; (case hnews => exact two_new _ _ _ (tpCells (mkTp s j N.1))); (case hone => exact tpCells_one _); (case h63 => unfold maxLen; omega); (case hbytes => omega); (case hbase => simp; omega); intro v' w3 hown hgrow _; have HO3 := Lib.hid hown; have HT3 := Lib.hid (grown_blk_new HO2.out hgrow ((Blk.new w2 37 (tpCells (mkTp s j N.1)).toArray).alloc _) (Nat.le_refl _)); have HS3 := Lib.hid (grown_blk ((HO2.out.alloc _).alloc _) hgrow ((HS2.out.alloc _).alloc _) (by decide)); have HF3 := Lib.hid (grown_blk ((HO2.out.alloc _).alloc _) hgrow ((HF2.out.alloc _).alloc _) (by decide)); have HW3 := Lib.hid (((HW2.out.alloc HW2.out.size _).alloc (by simp; have := HW2.out.size; omega) _).grown hgrow (by simp; have := HW2.out.size; omega) (fun b hb => by have := own_ge HO2.out b hb; omega)); clear hown hgrow; have ct : w3.cell? ⟨w2.heap.size, 0, none⟩ = some (.int .i64 N.1.k) := HT3.out.cell 0; have hz5 := HF3.out.lt; obtain ⟨p0, p1, p2, p3, q0, q1, q2, q3⟩ := HF3.out.four)
        go_roundw
        case rel =>
          have h1 : s.size - k < f + 1 := Hf.out
          exact ⟨N.2.1, j, f, pre ++ [mkTp s j N.1], rfl, hle, by omega, by simp; omega, by show _ < _; omega, HBn, HBj, by simpa only [List.length_append, List.length_cons, List.length_nil, Nat.zero_add, tpRow_snoc] using HO3, HF3, HS3, HW3, HR2⟩
        case measure => simp [intOf]; omega
    · have heb : (N.2.2 != 0) = true := by simp [he]
      have HE := Lib.hid he
      clear he
      have HR : Hid (R = ([], N.2.2, j)) := by
        have e := HJ.out
        rw [scan_err (by rw [Hj.out, HN.out]; exact HE.out), Hj.out, HN.out] at e
        exact e.symm
      go_wp2
      go_region
      go_wp2
      rw [HR.out]
      refine bodyPost_ret (results_tc rfl _ _ w.heap.size 31 _ rfl (Blk.drew (Blk.alloc (by simpa using (((HF2.out.set 0 _).set 1 _).set 2 _).set 3 _) _)) wideFault) rfl ⟨.slice none 0 0, ?_, ⟨rfl, Or.inl ⟨rfl, rfl⟩⟩, ?_⟩
      · unfold faultV
        rw [if_neg HE.out]
        rfl
      · exact (((((HW2.out.setCell (Nat.le_refl _) _).setCell (Nat.le_refl _) _).setCell (Nat.le_refl _) _).setCell (Nat.le_refl _) _).alloc (by simp; exact HW2.out.size) _).drew

end Go.Proofs.YtgaanohloocokaaDoor
