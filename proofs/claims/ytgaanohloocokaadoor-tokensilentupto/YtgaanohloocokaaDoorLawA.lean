/-
  Walks of num and alive.
-/
import Derived.Test.YtgaanohloocokaaDoorPlain
import Derived.Test.YtgaanohloocokaaDoorTokW
import Derived.Test.YtgaanohloocokaaDoorEqs
import Derived.Test.YtgaanohloocokaaDoorTokO
import Derived.Test.YtgaanohloocokaaDoorRefI
namespace Go.Proofs.YtgaanohloocokaaDoor
open Go.RowKit

theorem l_num (e : Int) (w : World) : Calls Tryd.prog 21 #[.int .i64 e] w fun r w' => r = .returned (.int .i64 e) ∧ w = w' := by
  go_enter Tryd.func21, Tryd.ntmps21
  go_wp2
  go_ret
  exact ⟨rfl, rfl⟩

set_option maxRecDepth 100000 in
set_option maxHeartbeats 4000000 in
theorem l_alive (w : World) (hG : GL w) :
    Calls Tryd.prog 13 #[] w fun e w' => e = .returned (.bool true) ∧ Below w.heap.size w w' := by
  have HG := Lib.hid hG
  clear hG
  go_enter Tryd.func13, Tryd.ntmps13
  go_wp2_with fail
  refine (t_Scan _ _ HG.out (by decide)).mono ?_
  rw [sc1]
  rintro e w1 ⟨v, rfl, hown, hb1⟩
  rw [faultV_ok]
  obtain ⟨g, cap, cur, rfl, hcap, hg, hgl, _, hcell⟩ := own_blk hown (by decide)
  obtain ⟨c0, _⟩ := hcell 7 (.string ⟨#[113]⟩) rfl
  obtain ⟨c1, _⟩ := hcell 20 (.int .i64 0) rfl
  obtain ⟨c2, _⟩ := hcell 21 (.int .i64 5) rfl
  obtain ⟨c3, _⟩ := hcell 36 (.int .i64 0) rfl
  clear hown hcell hg
  have HB1 := Lib.hid hb1
  clear hb1
  go_wp2_with fail
  have hzz := HB1.out.size
  have hb2 := Blk.new w1 31 #[.int .i64 0, .int .i64 0, .int .i64 0, .int .i64 0]
  refine (t_Scan _ _ ((HG.out.below HB1.out).alloc _) (by decide)).mono ?_
  rw [sc2]
  rintro e w2 ⟨v, rfl, hown, hbb⟩
  obtain ⟨a2, cap2, rfl, _⟩ := own_slice hown
  rw [faultV_err (by decide), sp2]
  have hb3 := hb2.below hbb
  have HK := Lib.hid (((Below.refl w1.heap.size w1).alloc (Nat.le_refl _) (.cells #[.int .i64 0, .int .i64 0, .int .i64 0, .int .i64 0] 31)).trans (hbb.mono (by simp)))
  have HB2 := Lib.hid (HB1.out.trans (HK.out.mono hzz))
  clear hown hb2 hbb
  have hz3 := hb3.lt
  obtain ⟨d0, d1, d2, d3, _, _, _, _⟩ := hb3.four
  replace c0 := (HK.out.cell (p := ⟨g, 7, none⟩) hgl).trans c0
  replace c1 := (HK.out.cell (p := ⟨g, 20, none⟩) hgl).trans c1
  replace c2 := (HK.out.cell (p := ⟨g, 21, none⟩) hgl).trans c2
  replace c3 := (HK.out.cell (p := ⟨g, 36, none⟩) hgl).trans c3
  go_wp2_with fail
  have hB := Blk.new w2 31 #[.int .i64 41, .int .i64 3, .int .i64 2, .int .i64 2]
  have hC := Blk.new (w2.alloc (.cells #[.int .i64 41, .int .i64 3, .int .i64 2, .int .i64 2] 31)) 37 #[.int .i64 1, .string ⟨#[97]⟩, .int .i64 0, .int .i64 0, .int .i64 0, .int .i64 0, .int .i64 5, .string ⟨#[45, 62]⟩, .int .i64 0, .int .i64 0, .int .i64 0, .int .i64 0, .int .i64 2, .string ⟨#[]⟩, .int .i64 7, .int .i64 0, .int .i64 0, .int .i64 0]
  rw [show (w2.alloc (.cells #[.int .i64 41, .int .i64 3, .int .i64 2, .int .i64 2] 31)).heap.size = w2.heap.size + 1 from by simp] at hC
  have hrow : TkRow ((w2.alloc (.cells #[.int .i64 41, .int .i64 3, .int .i64 2, .int .i64 2] 31)).alloc (.cells #[.int .i64 1, .string ⟨#[97]⟩, .int .i64 0, .int .i64 0, .int .i64 0, .int .i64 0, .int .i64 5, .string ⟨#[45, 62]⟩, .int .i64 0, .int .i64 0, .int .i64 0, .int .i64 0, .int .i64 2, .string ⟨#[]⟩, .int .i64 7, .int .i64 0, .int .i64 0, .int .i64 0] 37)) (.slice (some ⟨w2.heap.size + 1, 0, none⟩) 3 3)
      [⟨1, ⟨#[97]⟩, 0, 0, 0, 0⟩, ⟨5, ⟨#[45, 62]⟩, 0, 0, 0, 0⟩, ⟨2, ⟨#[]⟩, 7, 0, 0, 0⟩] := by
    refine ⟨_, 3, rfl, Nat.le_refl _, fun i x hi => ⟨w2.heap.size + 1, 0, rfl, by simp, fun j u hu => ?_⟩⟩
    have hj : j < 6 := by
      rcases Nat.lt_or_ge j 6 with q | q
      · exact q
      · rw [List.getElem?_eq_none (by simpa [Tq.cells] using q)] at hu; cases hu
    have hi3 : i < 3 := by
      rcases Nat.lt_or_ge i 3 with q | q
      · exact q
      · rw [List.getElem?_eq_none (by simpa using q)] at hi; cases hi
    refine (hC.cell (0 + i * 6 + j)).trans ?_
    rw [← hu]
    match i, hi3, hi with
    | 0, _, hi => cases hi; match j, hj with | 0, _ => rfl | 1, _ => rfl | 2, _ => rfl | 3, _ => rfl | 4, _ => rfl | 5, _ => rfl
    | 1, _, hi => cases hi; match j, hj with | 0, _ => rfl | 1, _ => rfl | 2, _ => rfl | 3, _ => rfl | 4, _ => rfl | 5, _ => rfl
    | 2, _, hi => cases hi; match j, hj with | 0, _ => rfl | 1, _ => rfl | 2, _ => rfl | 3, _ => rfl | 4, _ => rfl | 5, _ => rfl
  have hgl2 : g < w2.heap.size := by have := HK.out.size; omega
  refine (t_Join _ _ _ (((HG.out.below HB2.out).alloc _).alloc _) hrow (by decide) (by
    intro x hx
    rcases List.mem_cons.1 hx with rfl | hx
    · exact ⟨by decide, by decide⟩
    rcases List.mem_cons.1 hx with rfl | hx
    · exact ⟨by decide, by decide⟩
    rcases List.mem_cons.1 hx with rfl | hx
    · exact ⟨by decide, by decide⟩
    cases hx)).mono ?_
  rw [jn1]
  rintro e w3 ⟨rfl, hb4⟩
  have hb5 := ((hb3.alloc _).alloc _).below hb4
  have hb6 := (hB.alloc _).below hb4
  have HK2 := Lib.hid ((((Below.refl w2.heap.size w2).alloc (Nat.le_refl _) (.cells #[.int .i64 41, .int .i64 3, .int .i64 2, .int .i64 2] 31)).alloc (by simp) (.cells #[.int .i64 1, .string ⟨#[97]⟩, .int .i64 0, .int .i64 0, .int .i64 0, .int .i64 0, .int .i64 5, .string ⟨#[45, 62]⟩, .int .i64 0, .int .i64 0, .int .i64 0, .int .i64 0, .int .i64 2, .string ⟨#[]⟩, .int .i64 7, .int .i64 0, .int .i64 0, .int .i64 0] 37)).trans (hb4.mono (by simp; omega)))
  have HB3 := Lib.hid (HB2.out.trans (HK2.out.mono HB2.out.size))
  clear hb4 hB hC hrow hb3 d0 d1 d2 d3
  have hz5 := hb5.lt
  have hz6 := hb6.lt
  obtain ⟨d0, d1, d2, d3, _, _, _, _⟩ := hb5.four
  obtain ⟨e0, e1, e2, e3, _, _, _, _⟩ := hb6.four
  replace c0 := (HK2.out.cell (p := ⟨g, 7, none⟩) hgl2).trans c0
  replace c1 := (HK2.out.cell (p := ⟨g, 20, none⟩) hgl2).trans c1
  replace c2 := (HK2.out.cell (p := ⟨g, 21, none⟩) hgl2).trans c2
  replace c3 := (HK2.out.cell (p := ⟨g, 36, none⟩) hgl2).trans c3
  have hf1 := eq_fault 0 w3 0 0 0 0 0 0 0 0
  go_wp2_with fail
  refine (l_num 0 w3).mono ?_
  rintro e w4 ⟨rfl, rfl⟩
  go_wp2_with fail
  refine (t_Name _ _ (HG.out.below HB3.out) (by decide)).mono ?_
  rw [nameSc_eq, nm1]
  rintro e w4 ⟨rfl, hb7⟩
  have HB4 := Lib.hid (HB3.out.trans (hb7.mono HB3.out.size))
  clear hb7 c0 c1 c2 c3 d0 d1 d2 d3 e0 e1 e2 e3 hb5 hb6
  go_wp2_with fail
  refine (t_Name _ _ (HG.out.below HB4.out) (by decide)).mono ?_
  rw [nameSc_eq, nm2]
  rintro e w5 ⟨rfl, hb7⟩
  have HB5 := Lib.hid (HB4.out.trans (hb7.mono HB4.out.size))
  clear hb7
  go_wp2_with fail
  refine (t_At _ 4 _ (by decide)).mono ?_
  rw [at1]
  rintro e w6 ⟨rfl, hb7⟩
  have HB6 := Lib.hid (HB5.out.trans (hb7.mono HB5.out.size))
  clear hb7
  have hE := eq_spot 0 w6 4 4 2 2 1 1
  go_wp2
  go_ret
  exact ⟨rfl, HB6.out⟩

end Go.Proofs.YtgaanohloocokaaDoor
