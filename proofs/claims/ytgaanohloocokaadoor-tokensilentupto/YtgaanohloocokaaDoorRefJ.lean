/-
  Walks of strconv.Itoa and phasorref04.Write.
-/
import Derived.Test.YtgaanohloocokaaDoorRefH
import Derived.Test.YtgaanohloocokaaDoorPlain
import Derived.Test.YtgaanohloocokaaDoorShelf
import Derived.Lib.AppendIntMem
namespace Go.Proofs.YtgaanohloocokaaDoor
open Go.RowKit

theorem l_Itoa (n : Int) (h0 : -9223372036854775808 ≤ n) (h1 : n ≤ 9223372036854775807) (w : World) (hG : GL w) :
    Calls Tryd.prog 30 #[.int .i64 n] w fun e w' => e = .returned (.string ⟨(Lib.itoa n).toArray⟩) ∧ Below w.heap.size w w' := by
  refine (Tryd.strconv_Itoa n h0 h1 w hG.pow10).mono ?_
  rintro e w' ⟨rfl, k, os, rfl⟩
  exact ⟨rfl, Lib.below_grow _ w (Nat.le_refl _) k os⟩

set_option maxRecDepth 100000 in
set_option maxHeartbeats 4000000 in
theorem r_Write_0 (n o l c : Int) (t : ByteArray) (w : World) (hG : GL w) (hn : -9223372036854775808 ≤ n ∧ n ≤ 9223372036854775807) (hs : t.size ≤ 140737488351000) :
    Calls Tryd.prog 18 #[.agg #[.int .i64 0, .string t, .int .i64 n, .int .i64 o, .int .i64 l, .int .i64 c]] w fun e w' => e = .returned (writeV 0 n t) ∧ Below w.heap.size w w' := by
  have HG := Lib.hid hG
  have hz := wtxt_size (k := 0) (t := t) hn
  obtain ⟨X, hX⟩ : ∃ X, (⟨#[]⟩ : ByteArray) = X := ⟨_, rfl⟩
  have hX1 : wtxt 0 n t = X := hX
  rw [hX1] at hz
  have hw0 := Lib.hid ((Below.refl w.heap.size w).alloc (Nat.le_refl _) (.cells #[.int .i64 0, .string t, .int .i64 n, .int .i64 o, .int .i64 l, .int .i64 c] 37))
  have hb0 := Lib.hid (Blk.new w 37 #[.int .i64 0, .string t, .int .i64 n, .int .i64 o, .int .i64 l, .int .i64 c])
  obtain ⟨N, hN⟩ : ∃ N, one X 0 = N := ⟨_, rfl⟩
  obtain ⟨⟨nk, nt, nn⟩, no, nr⟩ := N
  obtain ⟨b0, e0⟩ : ∃ b, (nr == 0) = b := ⟨_, rfl⟩
  obtain ⟨b1, e1⟩ : ∃ b, ((no : Int) == X.size) = b := ⟨_, rfl⟩
  obtain ⟨b2, e2⟩ : ∃ b, (nk == 0) = b := ⟨_, rfl⟩
  obtain ⟨b3, e3⟩ : ∃ b, (nt.toList == t.toList) = b := ⟨_, rfl⟩
  obtain ⟨b4, e4⟩ : ∃ b, (nn == n) = b := ⟨_, rfl⟩
  have HV := Lib.hid (write_all hX1 hN e0 e1 e2 e3 e4)
  have HN := Lib.hid hN
  have HX := Lib.hid hX
  rw [HV.out]
  clear hN hX hX1 hG
  go_enter Tryd.func18, Tryd.ntmps18
  go_wp2_with fail
  rw [HX.out]
  refine (r_one _ _ _ (by omega) (by omega)).mono ?_
  rintro e w1 ⟨rfl, hb1⟩
  rw [Int.toNat_zero, HN.out]
  unfold tkV
  simp only
  have HW := Lib.hid (hw0.out.trans (hb1.mono (by simp)))
  obtain ⟨x0, x1, x2, x3, x4, x5, y0, y1, y2, y3, y4, y5⟩ := (hb0.out.below hb1).six
  have hz1 := (hb0.out.below hb1).lt
  clear hb1
  cases b0
  · go_wp2
    all_goals
      go_ret2
      first | exact ⟨rfl, HW.out.alloc HW.out.size _⟩ | (exfalso; simp_all; done) | trace_state
  cases b1
  · go_wp2
    all_goals
      go_ret2
      first | exact ⟨rfl, HW.out.alloc HW.out.size _⟩ | (exfalso; simp_all; done) | trace_state
  cases b2
  · go_wp2
    all_goals
      go_ret2
      first | exact ⟨rfl, HW.out.alloc HW.out.size _⟩ | (exfalso; simp_all; done) | trace_state
  cases b3
  · go_wp2
    all_goals
      go_ret2
      first | exact ⟨rfl, HW.out.alloc HW.out.size _⟩ | (exfalso; simp_all; done) | trace_state
  cases b4
  · go_wp2
    all_goals
      go_ret2
      first | exact ⟨rfl, HW.out.alloc HW.out.size _⟩ | (exfalso; simp_all; done) | trace_state
  go_wp2
  all_goals
    go_ret2
    first | exact ⟨rfl, HW.out.alloc HW.out.size _⟩ | (exfalso; simp_all; done) | trace_state

end Go.Proofs.YtgaanohloocokaaDoor
