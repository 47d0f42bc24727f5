/-
  Walk of TokenWrites: it answers true.
-/
import Derived.Test.YtgaanohloocokaaDoorLawA
import Derived.Test.YtgaanohloocokaaDoorRefO
namespace Go.Proofs.YtgaanohloocokaaDoor
open Go.RowKit

theorem writeV_tuple (k n : Int) (t : ByteArray) : ∃ a e, writeV k n t = .tuple #[.string a, .int .i64 e] := by
  unfold writeV; split
  · exact ⟨_, _, rfl⟩
  · exact ⟨_, _, rfl⟩
theorem joinV_tuple (L : List Tq) : ∃ a e, joinV L = .tuple #[.string a, .int .i64 e] := by
  unfold joinV; split
  · exact ⟨_, _, rfl⟩
  · exact ⟨_, _, rfl⟩

set_option maxRecDepth 100000 in
set_option maxHeartbeats 4000000 in
theorem l_TokenWrites (x : Tq) (v : Value) (L : List Tq) (w : World) (hG : GL w) (hx : x.ok) (hv : TkRow w v L) (hl : L.length ≤ 1048600) (hok : ∀ x ∈ L, x.ok) :
    Calls Tryd.prog 5 #[.agg #[.int .i64 x.k, .string x.t, .int .i64 x.n, .int .i64 x.o, .int .i64 x.l, .int .i64 x.c], v] w fun e w' => e = .returned (.bool true) ∧ Below w.heap.size w w' := by
  have HG := Lib.hid hG
  have HX := Lib.hid hx
  have HV := Lib.hid hv
  have HK := Lib.hid hok
  obtain ⟨a, ea, hW⟩ := writeV_tuple x.k x.n x.t
  obtain ⟨b, eb, hJ⟩ := joinV_tuple L
  have HW := Lib.hid hW
  have HJ := Lib.hid hJ
  clear hG hx hok hW hJ
  have hB := Blk.new w 37 #[.int .i64 x.k, .string x.t, .int .i64 x.n, .int .i64 x.o, .int .i64 x.l, .int .i64 x.c]
  have HB0 := Lib.hid ((Below.refl w.heap.size w).alloc (Nat.le_refl _) (.cells #[.int .i64 x.k, .string x.t, .int .i64 x.n, .int .i64 x.o, .int .i64 x.l, .int .i64 x.c] 37))
  obtain ⟨cap, vp, hvs, _⟩ := hv
  subst hvs
  go_enter Tryd.func5, Tryd.ntmps5
  go_wp2_with fail
  refine (t_Write x.k x.n x.o x.l x.c x.t _ (HG.out.alloc _) HX.out.1 (by have := HX.out.2; omega)).mono ?_
  rintro e w1 ⟨rfl, hb1⟩
  rw [HW.out]
  have hB1 := hB.below hb1
  have HB1 := Lib.hid (HB0.out.trans (hb1.mono (by simp)))
  clear hB hb1
  obtain ⟨c0, c1, c2, c3, c4, c5, _, _, _, _, _, _⟩ := hB1.six
  have hz1 := hB1.lt
  go_wp2_with fail
  refine (r_Write x.k x.n x.o x.l x.c x.t _ (HG.out.below HB1.out) HX.out.1 (by have := HX.out.2; omega)).mono ?_
  rintro e w2 ⟨rfl, hb1⟩
  rw [HW.out]
  have HB2 := Lib.hid (HB1.out.trans (hb1.mono HB1.out.size))
  clear hB1 hb1 c0 c1 c2 c3 c4 c5
  go_wp2_with fail
  refine (t_Join _ L _ (HG.out.below HB2.out) (HV.out.below HB2.out) hl HK.out).mono ?_
  rintro e w3 ⟨rfl, hb1⟩
  rw [HJ.out]
  have HB3 := Lib.hid (HB2.out.trans (hb1.mono HB2.out.size))
  clear hb1
  go_wp2_with fail
  refine (r_Join _ L _ (HG.out.below HB3.out) (HV.out.below HB3.out) hl HK.out).mono ?_
  rintro e w4 ⟨rfl, hb1⟩
  rw [HJ.out]
  have HB4 := Lib.hid (HB3.out.trans (hb1.mono HB3.out.size))
  clear hb1
  go_wp2_with fail
  refine (l_num _ _).mono ?_
  rintro e w5 ⟨rfl, rfl⟩
  go_wp2_with fail
  refine (l_num _ _).mono ?_
  rintro e w5 ⟨rfl, rfl⟩
  go_wp2_with fail
  refine (l_alive _ (HG.out.below HB4.out)).mono ?_
  rintro e w5 ⟨rfl, hb1⟩
  go_wp2
  go_ret
  exact ⟨rfl, HB4.out.trans (hb1.mono HB4.out.size)⟩

end Go.Proofs.YtgaanohloocokaaDoor
