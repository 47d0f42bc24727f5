/-
  Walk of TokenSpots: it answers true.
-/
import Derived.Test.YtgaanohloocokaaDoorLawA
namespace Go.Proofs.YtgaanohloocokaaDoor
open Go.RowKit

set_option maxRecDepth 100000 in
set_option maxHeartbeats 4000000 in
theorem l_TokenSpots (s : ByteArray) (off : Int) (w : World) (hG : GL w) (hs : s.size ≤ 90000000) :
    Calls Tryd.prog 3 #[.string s, .int .i64 off] w fun e w' => e = .returned (.bool true) ∧ Below w.heap.size w w' := by
  have HG := Lib.hid hG
  clear hG
  obtain ⟨F, hF⟩ : ∃ F, clampN s off = F := ⟨_, rfl⟩
  obtain ⟨N, hN⟩ : ∃ N, nameB s = N := ⟨_, rfl⟩
  have HF := Lib.hid hF
  have HN := Lib.hid hN
  clear hF hN
  obtain ⟨p1, hp1⟩ : ∃ x, (P s F).1 = x := ⟨_, rfl⟩
  obtain ⟨p2, hp2⟩ : ∃ x, (P s F).2 = x := ⟨_, rfl⟩
  have HV : Hid (spotV s (clampN s off) = .agg #[.int .i64 F, .int .i64 p1, .int .i64 p2]) := by
    show spotV s (clampN s off) = _
    rw [HF.out]; unfold spotV; rw [hp1, hp2]
  clear hp1 hp2
  go_enter Tryd.func3, Tryd.ntmps3
  go_wp2_with fail
  refine (t_At s off _ (by omega)).mono ?_
  rintro e w1 ⟨rfl, hb1⟩
  have HB1 := Lib.hid hb1
  clear hb1
  rw [HV.out]
  go_wp2_with fail
  refine (r_At s off _ (by omega)).mono ?_
  rintro e w2 ⟨rfl, hb1⟩
  have HB2 := Lib.hid (HB1.out.trans (hb1.mono HB1.out.size))
  clear hb1
  rw [HV.out]
  have hE := eq_spot 0 w2 F F p1 p1 p2 p2
  simp only [beq_self_eq_true, Bool.and_self, Bool.true_and] at hE
  go_wp2_with fail
  refine (t_Name s _ (HG.out.below HB2.out) (by omega)).mono ?_
  rw [nameSc_eq, HN.out]
  rintro e w3 ⟨rfl, hb1⟩
  have HB3 := Lib.hid (HB2.out.trans (hb1.mono HB2.out.size))
  clear hb1 hE
  go_wp2_with fail
  refine (r_Name s _ (by omega)).mono ?_
  rw [HN.out]
  rintro e w4 ⟨rfl, rfl⟩
  go_wp2_with fail
  trace_state
  refine (l_alive _ (HG.out.below HB3.out)).mono ?_
  rintro e w5 ⟨rfl, hb1⟩
  go_wp2
  go_ret
  exact ⟨rfl, HB3.out.trans (hb1.mono HB3.out.size)⟩

end Go.Proofs.YtgaanohloocokaaDoor
