/-
  Walk of TokenFirst: it answers true.
-/
import Derived.Test.YtgaanohloocokaaDoorLawA
import Derived.Test.YtgaanohloocokaaDoorPlan2
import Derived.Deep.RegionHeld3
namespace Go.Proofs.YtgaanohloocokaaDoor
open Go.RowKit

set_option maxRecDepth 100000 in
set_option maxHeartbeats 4000000 in
theorem l_TokenFirst (s : ByteArray) (w : World) (hG : GL w) (hs : s.size ≤ 90000000) :
    Calls Tryd.prog 8 #[.string s] w fun e w' => e = .returned (.bool true) ∧ Below w.heap.size w w' := by
  have HG := Lib.hid hG
  clear hG
  obtain ⟨R, hR⟩ : ∃ R, scan s = R := ⟨_, rfl⟩
  have HR := Lib.hid hR
  obtain ⟨l, c, o⟩ := R
  go_enter Tryd.func8, Tryd.ntmps8
  by_cases hc : c = 0
  · subst hc
    clear hR
    go_wp2_with fail
    refine (t_Scan s _ HG.out (by omega)).mono ?_
    rw [HR.out]
    rintro e w1 ⟨v, rfl, hown, hb1⟩
    rw [faultV_ok]
    obtain ⟨a1, cap1, rfl, _⟩ := own_slice hown
    have HB1 := Lib.hid hb1
    clear hown hb1
    have hz1 := HB1.out.size
    have hE := eq_fault 0 (w1.alloc (.cells #[.int .i64 0, .int .i64 0, .int .i64 0, .int .i64 0] 31)) 0 0 0 0 0 0 0 0
    simp only [beq_self_eq_true, Bool.and_self, Bool.true_and] at hE
    have HB2 := Lib.hid (HB1.out.alloc hz1 (.cells #[.int .i64 0, .int .i64 0, .int .i64 0, .int .i64 0] 31))
    go_wp2_with fail
    refine (l_alive _ (HG.out.below HB2.out)).mono ?_
    rintro e w2 ⟨rfl, hb⟩
    go_wp2
    go_ret
    exact ⟨rfl, HB2.out.trans (hb.mono HB2.out.size)⟩
  · have hp := scan_pre (s := s) (by rw [hR]; exact hc)
    rw [hR] at hp
    obtain ⟨ho, hpre⟩ := hp
    simp only at ho hpre
    clear hR
    obtain ⟨R2, hR2⟩ : ∃ R2, scan (s.extract 0 o) = R2 := ⟨_, rfl⟩
    rw [hR2] at hpre
    obtain ⟨l2, c2, o2⟩ := R2
    simp only at hpre
    subst hpre
    have HR2 := Lib.hid hR2
    clear hR2
    obtain ⟨p1, hp1⟩ : ∃ x, (P s o).1 = x := ⟨_, rfl⟩
    obtain ⟨p2, hp2⟩ : ∃ x, (P s o).2 = x := ⟨_, rfl⟩
    have HV : Hid (spotV s (clampN s (o : Int)) = .agg #[.int .i64 o, .int .i64 p1, .int .i64 p2]) := by
      show spotV s (clampN s (o : Int)) = _
      rw [show clampN s (o : Int) = o from by unfold clampN; rw [if_neg (by omega), if_neg (by omega)]; simp]
      unfold spotV; rw [hp1, hp2]
    have HF : Hid (faultV s (l, c, o) = .agg #[.int .i64 c, .int .i64 o, .int .i64 p1, .int .i64 p2]) := by
      show faultV s (l, c, o) = _
      rw [faultV_err hc, hp1, hp2]
    have hcb : (c == 0) = false := by simp [hc]
    clear hp1 hp2 hc
    go_wp2_with fail
    refine (t_Scan s _ HG.out (by omega)).mono ?_
    rw [HR.out]
    rintro e w1 ⟨v, rfl, hown, hb1⟩
    rw [HF.out]
    obtain ⟨a1, cap1, rfl, _⟩ := own_slice hown
    have HB1 := Lib.hid hb1
    clear hown hb1
    have hz1 := HB1.out.size
    have hE := eq_fault 0 (w1.alloc (.cells #[.int .i64 c, .int .i64 o, .int .i64 p1, .int .i64 p2] 31)) c 0 o 0 p1 0 p2 0
    simp only [hcb, Bool.false_and] at hE
    have hB := Blk.new w1 31 #[.int .i64 c, .int .i64 o, .int .i64 p1, .int .i64 p2]
    have HB2 := Lib.hid (HB1.out.alloc hz1 (.cells #[.int .i64 c, .int .i64 o, .int .i64 p1, .int .i64 p2] 31))
    go_wp2_with fail
    obtain ⟨w2, hw2⟩ : ∃ w2, w1.alloc (.cells #[.int .i64 c, .int .i64 o, .int .i64 p1, .int .i64 p2] 31) = w2 := ⟨_, rfl⟩
    rw [hw2] at HB2 hB ⊢
    clear hw2 hE
    obtain ⟨c0, c1, c2, c3, _, _, _, _⟩ := hB.four
    have hlt := hB.lt
    have hE := fun wx => eq_spot 0 wx o o p1 p1 p2 p2
    simp only [beq_self_eq_true, Bool.and_self, Bool.true_and] at hE
    have hg1 : ¬ ((o : Int) < 0) := by omega
    have hg2 : ¬ ((s.size : Int) < (o : Int)) := by omega
    clear hB
    have hBd : Below w.heap.size w w2.drew := HB2.out.drew
    go_region_held3 (fun w' => w'.cell? ⟨w1.heap.size, 1, none⟩ = some (.int .i64 o) ∧ w'.cell? ⟨w1.heap.size, 2, none⟩ = some (.int .i64 p1) ∧ w'.cell? ⟨w1.heap.size, 3, none⟩ = some (.int .i64 p2) ∧ w1.heap.size < w'.heap.size ∧ Below w.heap.size w w')
      (first
        | (exact ⟨z1, z2, z3, z4, z5⟩)
        | go_keep
        | ((try dsimp only); (repeat' apply And.intro); all_goals (first | assumption | go_keep)))
      ((go_at_call 9; refine (t_At s o _ (by omega)).mono ?_; rw [HV.out]; rintro e w' ⟨rfl, hb⟩; have z1 := (hb.cell (p := ⟨w1.heap.size, 1, none⟩) (show w1.heap.size < w2.drew.heap.size from hlt)).trans c1; have z2 := (hb.cell (p := ⟨w1.heap.size, 2, none⟩) (show w1.heap.size < w2.drew.heap.size from hlt)).trans c2; have z3 := (hb.cell (p := ⟨w1.heap.size, 3, none⟩) (show w1.heap.size < w2.drew.heap.size from hlt)).trans c3; have z4 : w1.heap.size < w'.heap.size := Nat.lt_of_lt_of_le hlt hb.size; have z5 : Below w.heap.size w w' := hBd.trans (hb.mono (show w.heap.size ≤ w2.heap.size by omega))))
    have HZ := Lib.hid z5
    clear hE c0 c1 c2 c3 hlt hBd HB2 z2 z3 hb
    have hsl := fun wx => run_slice_string_h (P := Tryd.prog) (w := wx) (t := 9) (s := s) Tryd.underlying9 .i64 (o : Int) (by omega) (by omega)
    simp only [Int.toNat_natCast] at hsl
    go_wp2_with fail
    refine (t_Scan (s.extract 0 o) _ (HG.out.below HZ.out) (by rw [size_pre ho]; omega)).mono ?_
    rw [HR2.out]
    rintro e w3 ⟨v3, rfl, hown, hb3⟩
    rw [faultV_ok]
    obtain ⟨a3, cap3, rfl, _⟩ := own_slice hown
    have HB3 := Lib.hid (HZ.out.trans (hb3.mono HZ.out.size))
    clear hown hb3 hsl z1 z4 z5
    have hE2 := eq_fault 0 (w3.alloc (.cells #[.int .i64 0, .int .i64 0, .int .i64 0, .int .i64 0] 31)) 0 0 0 0 0 0 0 0
    simp only [beq_self_eq_true, Bool.and_self, Bool.true_and] at hE2
    have HB4 := Lib.hid (HB3.out.alloc HB3.out.size (.cells #[.int .i64 0, .int .i64 0, .int .i64 0, .int .i64 0] 31))
    go_wp2_with fail
    refine (l_alive _ (HG.out.below HB4.out)).mono ?_
    rintro e w5 ⟨rfl, hb⟩
    go_wp2
    go_ret
    exact ⟨rfl, HB4.out.trans (hb.mono HB4.out.size)⟩

end Go.Proofs.YtgaanohloocokaaDoor
