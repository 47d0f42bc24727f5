/-
  Walks of package token: token (whole) and Scan.
-/
import Derived.Test.YtgaanohloocokaaDoorTokK
import Derived.Test.YtgaanohloocokaaDoorTokM
import Derived.Test.YtgaanohloocokaaDoorOwn
namespace Go.Proofs.YtgaanohloocokaaDoor
open Go.RowKit

theorem t_token (g : Nat) (s : ByteArray) (o : Nat) (w : World) (h : CutP w g s o) (hB : Bd s o) (hG : GL w) (hg : NG ≤ g) (ho : o ≤ s.size) (hs : s.size ≤ 140737488351232) :
    Calls Tryd.prog 27 #[.pointer (some ⟨g, 0, none⟩)] w (TokPost g s o w (one s o)) := by
  by_cases h1 : o < s.size
  · cases hl : isLet (B s o) with
    | true => exact t_tok_name g s o w h hB hG hg ho hs h1 hl
    | false =>
      cases hd : isDig (B s o) with
      | true => exact t_tok_dig g s o w h hB hG hg ho hs h1 hl hd
      | false =>
        by_cases hq : B s o = 34
        · exact t_tok_text g s o w h hB hG hg ho hs h1 hq
        · exact t_tok_mark g s o w h hB hG hg ho hs h1 hl hd hq
  · exact t_tok_end g s o w h hB hG hg ho hs h1

/-- what was there when the call began is as it was: only a newer block has turned -/
theorem Kp.to_below_old {w w1 w2 : World} {g : Nat} (k : Kp (at_ g) w1 w2) (hle : w.heap.size ≤ w1.heap.size) (hg : w.heap.size ≤ g) : Below w.heap.size w1 w2 :=
  ⟨k.os, k.tape, k.output, k.size, fun i hi => k.block i (by omega) (fun q => by have q : i = g := q; omega)⟩

set_option maxRecDepth 100000 in
set_option maxHeartbeats 4000000 in
theorem t_Scan (s : ByteArray) (w : World) (hG : GL w) (hs : s.size ≤ 100000000) :
    Calls Tryd.prog 14 #[.string s] w (ScPost s w (scan s)) := by
  have hs' : s.size ≤ 140737488351232 := by omega
  obtain ⟨R, hR⟩ : ∃ R, scan s = R := ⟨_, rfl⟩
  rw [hR]
  have HR := Lib.hid hR
  have HG := Lib.hid hG
  clear hR hG
  obtain ⟨i0, hi, hq0, hq1, hq2⟩ := info_parts infoToken
  have hng := HG.out.size
  go_enter Tryd.func14, Tryd.ntmps14
  go_wp2
  go_loopg [5] (s.size + 1) (fun f v wr => ∃ (k : Nat) (pre : List Tp), k ≤ s.size ∧ pre.length ≤ k ∧ Hid (s.size - k < f) ∧ Hid (Bd s k) ∧ Hid (wr.ownsRow (w.heap.size + 2) 37 6 v pre.length (tpRow pre)) ∧
      Hid (Blk wr w.heap.size 31 #[.int .i64 0, .int .i64 0, .int .i64 0, .int .i64 0]) ∧ Hid (CutP wr (w.heap.size + 1) s k) ∧ Hid (Below w.heap.size w wr) ∧ Hid (GL wr) ∧ Hid (joinSc pre (scanF s f k) = R))
  case atStart => exact ⟨0, [], by omega, by simp, by show _ < _; omega, Bd_zero s, ⟨rfl, Or.inl ⟨rfl, rfl⟩⟩, (Blk.new _ _ _).alloc _, Lib.hid (by simpa [CutP, Cut, P_zero] using Blk.new (w.alloc (.cells #[.int .i64 0, .int .i64 0, .int .i64 0, .int .i64 0] 31)) 55 #[.string s, .int .i64 0, .int .i64 1, .int .i64 1]), ((Below.refl _ _).alloc (Nat.le_refl _) _).alloc (by simp) _, (HG.out.alloc _).alloc _, (join_nil _ _ _).trans HR.out⟩
  case round =>
    obtain ⟨k, pre, hk, hpre, Hf, HBk, HO, HF, HC, HW, HGr, HJ⟩ := hrel
    obtain ⟨f, rfl⟩ : ∃ m, gk = m + 1 := ⟨gk - 1, by have : s.size - k < gk := Hf.out; omega⟩
    obtain ⟨j, hj⟩ : ∃ j, skip s k = j := ⟨_, rfl⟩
    have hkj : k ≤ j := by rw [← hj]; exact skip_ge hk
    have hjs : j ≤ s.size := by rw [← hj]; exact skip_le hk
    have HBj : Hid (Bd s j) := by rw [← hj]; exact skip_Bd hk HBk.out
    have Hj := Lib.hid hj
    clear hj
    obtain ⟨N, hN⟩ : ∃ N, one s j = N := ⟨_, rfl⟩
    have HN := Lib.hid hN
    clear hN
    have HNs := Lib.hid (one_spec s j hjs HBj.out)
    go_wp2_with fail
    refine (t_skip (w.heap.size + 1) s k _ HC.out HBk.out HGr.out (by omega) hk hs').mono ?_
    rintro e w1 ⟨rfl, HC1, HK1⟩
    rw [Hj.out] at HC1
    have HO1 := Lib.hid (ownsRow_kp HO.out HK1 (fun b cs hb q => by have q : b = w.heap.size + 1 := q; subst q; have := HC.out; unfold CutP Cut Blk at this; unfold Blk at hb; rw [this] at hb; cases hb))
    have HF1 := Lib.hid (Blk.kp HF.out HK1 (fun q => by have q : w.heap.size = w.heap.size + 1 := q; omega))
    have HW1 := Lib.hid (HW.out.trans (Kp.to_below_old HK1 HW.out.size (by omega)))
    have HG1 := Lib.hid (HGr.out.kp HK1 (fun b q => by have q : b = w.heap.size + 1 := q; omega))
    have HC1 := Lib.hid HC1
    clear HK1 HO HF HW HGr HC
    go_wp2_with fail
    refine (t_token (w.heap.size + 1) s j _ HC1.out HBj.out HG1.out (by omega) hjs hs').mono ?_
    rintro e w2 ⟨T, hTe, rfl, HC2, HK2⟩
    rw [HN.out] at hTe HC2 ⊢
    have hNs := HNs.out
    rw [HN.out] at hNs
    have HO2 := Lib.hid (ownsRow_kp HO1.out HK2 (fun b cs hb q => by have q : b = w.heap.size + 1 := q; subst q; have := HC1.out; unfold CutP Cut Blk at this; unfold Blk at hb; rw [this] at hb; cases hb))
    have HF2 := Lib.hid (Blk.kp HF1.out HK2 (fun q => by have q : w.heap.size = w.heap.size + 1 := q; omega))
    have HW2 := Lib.hid (HW1.out.trans (Kp.to_below_old HK2 HW1.out.size (by omega)))
    have HG2 := Lib.hid (HG1.out.kp HK2 (fun b q => by have q : b = w.heap.size + 1 := q; omega))
    have HC2 := Lib.hid HC2
    have hz3 := HC2.out.lt
    have hz4 := HF2.out.lt
    clear HK2 HO1 HF1 HW1 HG1 HC1
    obtain ⟨u0, u1, u2, u3, v0, v1, v2, v3⟩ := HF2.out.four
    by_cases he : N.2.2 = 0
    · have heb : (N.2.2 != 0) = false := by simp [he]
      obtain rfl : T = N.1 := hTe he
      have HC2 : Hid (CutP w2 (w.heap.size + 1) s N.2.1) := by have := HC2.out; rwa [if_pos he] at this
      by_cases hk0 : N.1.k = 0
      · have hkb : (N.1.k == 0) = true := by simp [hk0]
        have HE := Lib.hid he
        have HK := Lib.hid hk0
        clear he hk0 hTe hNs
        go_wp2_with (at_builtin; refine wpList_append_own _ rfl _ _ 28 rfl (w.heap.size + 2) 37 i0 (.agg #[.int .i64 0, .string ⟨#[]⟩, .int .i64 0, .int .i64 0, .int .i64 0, .int .i64 0]) 6 56 Tryd.underlying28 hi hq0 hq1 hq2 rfl (by decide) _ _ _ rfl ((HO2.out.alloc _).alloc _) ⟨w2.heap.size + 1, 0, none⟩ 1 1 (tpCells (mkTp s j N.1)) rfl rfl ?hnews ?hone ?h63 ?hbytes ?hbase ?_; (case hnews => exact two_new _ _ _ (tpCells (mkTp s j N.1))); (case hone => exact tpCells_one _); (case h63 => unfold maxLen; omega); (case hbytes => omega); (case hbase => simp; omega); intro v' w3 hown hgrow _; have HO3 := Lib.hid hown; have HT3 := Lib.hid (grown_blk_new HO2.out hgrow ((Blk.new w2 37 (tpCells (mkTp s j N.1)).toArray).alloc _) (Nat.le_refl _)); have HC3 := Lib.hid (show CutP w3 (w.heap.size + 1) s N.2.1 from grown_blk ((HO2.out.alloc _).alloc _) hgrow (Blk.alloc (Blk.alloc HC2.out _) _) (by decide)); have HF3 := Lib.hid (grown_blk ((HO2.out.alloc _).alloc _) hgrow ((HF2.out.alloc _).alloc _) (by decide)); have HW3 := Lib.hid (((HW2.out.alloc HW2.out.size _).alloc (by simp; have := HW2.out.size; omega) _).grown hgrow (by simp; have := HW2.out.size; omega) (fun b hb => by have := own_ge HO2.out b hb; omega)); have HG3 := Lib.hid (((HG2.out.alloc _).alloc _).kp (S := fun b => NG ≤ b) ⟨hgrow.os, hgrow.tape, hgrow.output, hgrow.size, fun b hb hn => hgrow.block b hb (fun q => hn (by have := own_ge HO2.out b q.symm; omega))⟩ (fun _ q => q)); clear hown hgrow; have ct : w3.cell? ⟨w2.heap.size, 0, none⟩ = some (.int .i64 N.1.k) := HT3.out.cell 0; have hz5 := HF3.out.lt; obtain ⟨p0, p1, p2, p3, q0, q1, q2, q3⟩ := HF3.out.four)
        have HR2 : Hid (R = (pre ++ [mkTp s j N.1], 0, 0)) := by
          have e := HJ.out
          rw [scan_end (by rw [Hj.out, HN.out]; exact HE.out) (by rw [Hj.out, HN.out]; exact HK.out), Hj.out, HN.out] at e
          exact e.symm
        rw [HR2.out]
        refine bodyPost_ret (results_tc rfl _ _ w.heap.size 31 _ rfl (by simpa using (((HF3.out.set 0 _).set 1 _).set 2 _).set 3 _) wideFault) rfl ⟨v', rfl, ?_, (((HW3.out.setCell (Nat.le_refl _) _).setCell (Nat.le_refl _) _).setCell (Nat.le_refl _) _).setCell (Nat.le_refl _) _⟩
        simp only [List.length_append, List.length_cons, List.length_nil, Nat.zero_add, tpRow_snoc]
        exact ownsRow_base (ownsRow_set (ownsRow_set (ownsRow_set (ownsRow_set HO3.out (p := ⟨w.heap.size, 0, none⟩) HF3.out (by decide) _) (p := ⟨w.heap.size, 1, none⟩) (HF3.out.set 0 _) (by decide) _) (p := ⟨w.heap.size, 2, none⟩) ((HF3.out.set 0 _).set 1 _) (by decide) _) (p := ⟨w.heap.size, 3, none⟩) (((HF3.out.set 0 _).set 1 _).set 2 _) (by decide) _) (by omega)
      · have hkb : (N.1.k == 0) = false := by simp [hk0]
        have HE := Lib.hid he
        have HK := Lib.hid hk0
        have HR2 : Hid (joinSc (pre ++ [mkTp s j N.1]) (scanF s f N.2.1) = R) := by
          have e := HJ.out
          rw [scan_more (by rw [Hj.out, HN.out]; exact HE.out) (by rw [Hj.out, HN.out]; exact HK.out), Hj.out, HN.out] at e
          exact e
        have hlt : j < N.2.1 := hNs.2.2.2 he hk0
        have hle : N.2.1 ≤ s.size := hNs.2.1
        have HBn := Lib.hid hNs.2.2.1
        clear he hk0 hNs hTe
        go_wp2_with (at_builtin; refine wpList_append_own _ rfl _ _ 28 rfl (w.heap.size + 2) 37 i0 (.agg #[.int .i64 0, .string ⟨#[]⟩, .int .i64 0, .int .i64 0, .int .i64 0, .int .i64 0]) 6 56 Tryd.underlying28 hi hq0 hq1 hq2 rfl (by decide) _ _ _ rfl ((HO2.out.alloc _).alloc _) ⟨w2.heap.size + 1, 0, none⟩ 1 1 (tpCells (mkTp s j N.1)) rfl rfl ?hnews ?hone ?h63 ?hbytes ?hbase ?_; (case hnews => exact two_new _ _ _ (tpCells (mkTp s j N.1))); (case hone => exact tpCells_one _); (case h63 => unfold maxLen; omega); (case hbytes => omega); (case hbase => simp; omega); intro v' w3 hown hgrow _; have HO3 := Lib.hid hown; have HT3 := Lib.hid (grown_blk_new HO2.out hgrow ((Blk.new w2 37 (tpCells (mkTp s j N.1)).toArray).alloc _) (Nat.le_refl _)); have HC3 := Lib.hid (show CutP w3 (w.heap.size + 1) s N.2.1 from grown_blk ((HO2.out.alloc _).alloc _) hgrow (Blk.alloc (Blk.alloc HC2.out _) _) (by decide)); have HF3 := Lib.hid (grown_blk ((HO2.out.alloc _).alloc _) hgrow ((HF2.out.alloc _).alloc _) (by decide)); have HW3 := Lib.hid (((HW2.out.alloc HW2.out.size _).alloc (by simp; have := HW2.out.size; omega) _).grown hgrow (by simp; have := HW2.out.size; omega) (fun b hb => by have := own_ge HO2.out b hb; omega)); have HG3 := Lib.hid (((HG2.out.alloc _).alloc _).kp (S := fun b => NG ≤ b) ⟨hgrow.os, hgrow.tape, hgrow.output, hgrow.size, fun b hb hn => hgrow.block b hb (fun q => hn (by have := own_ge HO2.out b q.symm; omega))⟩ (fun _ q => q)); clear hown hgrow; have ct : w3.cell? ⟨w2.heap.size, 0, none⟩ = some (.int .i64 N.1.k) := HT3.out.cell 0; have hz5 := HF3.out.lt; obtain ⟨p0, p1, p2, p3, q0, q1, q2, q3⟩ := HF3.out.four)
        go_roundg f
        case measure => omega
        case rel =>
          have h1 : s.size - k < f + 1 := Hf.out
          exact ⟨N.2.1, pre ++ [mkTp s j N.1], hle, by simp; omega, by show _ < _; omega, HBn, by simpa only [List.length_append, List.length_cons, List.length_nil, Nat.zero_add, tpRow_snoc] using HO3, HF3, HC3, HW3, HG3, HR2⟩
    · have heb : (N.2.2 != 0) = true := by simp [he]
      have HE := Lib.hid he
      clear he hTe
      have HR : Hid (R = ([], N.2.2, j)) := by
        have e := HJ.out
        rw [scan_err (by rw [Hj.out, HN.out]; exact HE.out), Hj.out, HN.out] at e
        exact e.symm
      go_wp2
      go_region
      go_wp2
      rw [HR.out]
      refine bodyPost_ret (results_tc rfl _ _ w.heap.size 31 _ rfl (Blk.drew (Blk.alloc (by simpa using (((HF2.out.set 0 _).set 1 _).set 2 _).set 3 _) _)) wideFault) rfl ⟨.slice none 0 0, ?_, ⟨rfl, Or.inl ⟨rfl, rfl⟩⟩, ?_⟩
      · unfold faultV
        rw [if_neg HE.out]
        rfl
      · exact (((((HW2.out.setCell (Nat.le_refl _) _).setCell (Nat.le_refl _) _).setCell (Nat.le_refl _) _).setCell (Nat.le_refl _) _).alloc (by simp; exact HW2.out.size) _).drew

end Go.Proofs.YtgaanohloocokaaDoor
