/-
  Walks of same (at two rows of the same tokens: true) and of TokenScans: it answers true.
-/
import Derived.Test.YtgaanohloocokaaDoorLawA
import Derived.Test.YtgaanohloocokaaDoorPlan2
namespace Go.Proofs.YtgaanohloocokaaDoor
open Go.RowKit

set_option maxRecDepth 100000 in
set_option maxHeartbeats 4000000 in
theorem l_same (v u : Value) (L : List Tq) (w : World) (hv : TkRow w v L) (hu : TkRow w u L) (hl : L.length ≤ 140737488355328) :
    Calls Tryd.prog 16 #[v, u] w fun e w' => e = .returned (.bool true) ∧ Below w.heap.size w w' := by
  obtain ⟨a, cap, rfl, hc, hx⟩ := hv
  obtain ⟨b, cup, rfl, hd, hy⟩ := hu
  have HX := Lib.hid hx
  have HY := Lib.hid hy
  clear hx hy
  go_enter Tryd.func16, Tryd.ntmps16
  go_wp2
  go_loopw [4, 5] (fun z i wr => ∃ k : Nat, i = .int .i64 k ∧ k ≤ L.length ∧ Hid (Below w.heap.size w wr)) (fun _ i _ => L.length - (intOf i).toNat)
  case atStart => exact ⟨0, rfl, Nat.zero_le _, Below.refl _ _⟩
  case round =>
    obtain ⟨k, rfl, hk, HB⟩ := hrel
    by_cases hlt : k < L.length
    · obtain ⟨x, hx⟩ : ∃ x, L[k]? = some x := ⟨_, List.getElem?_eq_getElem hlt⟩
      obtain ⟨g, o, rfl, hg, hx1⟩ := HX.out k x hx
      obtain ⟨c0, c1, c2, c3, c4, c5⟩ := row_cells (w := wr) (fun j u hu => (HB.out.cell hg).trans (hx1 j u hu))
      obtain ⟨g2, o2, rfl, hg2, hx2⟩ := HY.out k x hx
      obtain ⟨d0, d1, d2, d3, d4, d5⟩ := row_cells (w := wr) (fun j u hu => (HB.out.cell hg2).trans (hx2 j u hu))
      have hE := eq_token 0 wr x.k x.k x.t x.t x.n x.n x.o x.o x.l x.l x.c x.c
      simp only [beq_self_eq_true, Bool.and_self, Bool.true_and] at hE
      clear hx hx1 hx2
      go_wp2_with fail
      go_quiet (fail)
      go_wp2
      go_roundw
      case rel => exact ⟨k + 1, rfl, hlt, HB.out.trans ((below_drewN _ _).mono HB.out.size)⟩
      case measure => simp [intOf]; omega
    · go_wp2
      go_ret
      exact ⟨rfl, HB.out⟩

set_option maxRecDepth 100000 in
set_option maxHeartbeats 4000000 in
theorem l_TokenScans (s : ByteArray) (w : World) (hG : GL w) (hs : s.size ≤ 90000000) :
    Calls Tryd.prog 4 #[.string s] w fun e w' => e = .returned (.bool true) ∧ Below w.heap.size w w' := by
  have HG := Lib.hid hG
  clear hG
  obtain ⟨R, hR⟩ : ∃ R, scan s = R := ⟨_, rfl⟩
  have HR := Lib.hid hR
  obtain ⟨x0, x1, x2, x3, hF⟩ : ∃ x0 x1 x2 x3, faultV s R = .agg #[.int .i64 x0, .int .i64 x1, .int .i64 x2, .int .i64 x3] := by
    unfold faultV
    split
    · exact ⟨_, _, _, _, rfl⟩
    · exact ⟨_, _, _, _, rfl⟩
  have HF := Lib.hid hF
  have HL : Hid (R.1.length ≤ s.size + 1) := by
    show R.1.length ≤ s.size + 1
    rw [← hR]
    exact scan_len s
  clear hR hF
  go_enter Tryd.func4, Tryd.ntmps4
  go_wp2_with fail
  refine (t_Scan s _ HG.out (by omega)).mono ?_
  rw [HR.out]
  rintro e w1 ⟨v, rfl, hown, hb1⟩
  rw [HF.out]
  have HB1 := Lib.hid hb1
  have HO1 := Lib.hid (TkRow.of_own hown)
  clear hown hb1
  go_wp2_with fail
  have hz1 := HB1.out.size
  have hB := Blk.new w1 31 #[.int .i64 x0, .int .i64 x1, .int .i64 x2, .int .i64 x3]
  have HK := Lib.hid ((Below.refl w1.heap.size w1).alloc (Nat.le_refl _) (.cells #[.int .i64 x0, .int .i64 x1, .int .i64 x2, .int .i64 x3] 31))
  refine (r_Scan s _ (by omega)).mono ?_
  rw [HR.out]
  rintro e w2 ⟨u, rfl, hown, hb1⟩
  rw [HF.out]
  have hB2 := hB.below hb1
  have HK2 := Lib.hid (HK.out.trans (hb1.mono (by simp)))
  have HB2 := Lib.hid (HB1.out.trans (HK2.out.mono hz1))
  have HO2 := Lib.hid (HO1.out.below HK2.out)
  have HO3 := Lib.hid (TkRow.of_own hown)
  clear hB hb1 hown HO1
  obtain ⟨c0, c1, c2, c3, _, _, _, _⟩ := hB2.four
  have hz2 := hB2.lt
  have hE := eq_fault 0 (w2.alloc (.cells #[.int .i64 x0, .int .i64 x1, .int .i64 x2, .int .i64 x3] 31)) x0 x0 x1 x1 x2 x2 x3 x3
  simp only [beq_self_eq_true, Bool.and_self, Bool.true_and] at hE
  go_wp2_with fail
  refine (l_same v u _ _ (HO2.out.below ((Below.refl _ _).alloc (Nat.le_refl _) _)) (HO3.out.below ((Below.refl _ _).alloc (Nat.le_refl _) _)) (by simp; have := HL.out; omega)).mono ?_
  rintro e w3 ⟨rfl, hb3⟩
  have HB3 := Lib.hid ((HB2.out.alloc HB2.out.size (.cells #[.int .i64 x0, .int .i64 x1, .int .i64 x2, .int .i64 x3] 31)).trans (hb3.mono (by simp; have := HB2.out.size; omega)))
  clear hb3 hE c0 c1 c2 c3
  go_wp2_with fail
  refine (l_alive _ (HG.out.below HB3.out)).mono ?_
  rintro e w4 ⟨rfl, hb4⟩
  go_wp2
  go_ret
  exact ⟨rfl, HB3.out.trans (hb4.mono HB3.out.size)⟩

end Go.Proofs.YtgaanohloocokaaDoor
