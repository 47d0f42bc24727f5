/-
  Walk of token.Write at kind 4.
-/
import Derived.Test.YtgaanohloocokaaDoorTokR
namespace Go.Proofs.YtgaanohloocokaaDoor
open Go.RowKit

set_option maxRecDepth 100000 in
set_option maxHeartbeats 4000000 in
theorem t_Write_4 (n o l c : Int) (t : ByteArray) (w : World) (hG : GL w) (hn : -9223372036854775808 ≤ n ∧ n ≤ 9223372036854775807) (hs : t.size ≤ 90000000) :
    Calls Tryd.prog 17 #[.agg #[.int .i64 4, .string t, .int .i64 n, .int .i64 o, .int .i64 l, .int .i64 c]] w fun e w' => e = .returned (writeS 4 n t) ∧ Below w.heap.size w w' := by
  have HG := Lib.hid hG
  have hz := wtxt_size (k := 4) (t := t) hn
  obtain ⟨X, hX⟩ : ∃ X, (⟨#[34]⟩ : ByteArray) ++ t ++ ⟨#[34]⟩ = X := ⟨_, rfl⟩
  have hX1 : wtxt 4 n t = X := hX
  rw [hX1] at hz
  have hw0 := Lib.hid ((Below.refl w.heap.size w).alloc (Nat.le_refl _) (.cells #[.int .i64 4, .string t, .int .i64 n, .int .i64 0, .int .i64 0, .int .i64 0] 37))
  have hb0 := Lib.hid (Blk.new w 37 #[.int .i64 4, .string t, .int .i64 n, .int .i64 0, .int .i64 0, .int .i64 0])
  obtain ⟨R, hR⟩ : ∃ R, scan X = R := ⟨_, rfl⟩
  obtain ⟨rl, rc, ro⟩ := R
  have HR := Lib.hid hR
  have HX1 := Lib.hid hX1
  have HX := Lib.hid hX
  clear hR hX hX1 hG
  go_enter Tryd.func17, Tryd.ntmps17
  go_wp2_with fail
  rw [HX.out]
  refine (t_Scan X _ (HG.out.alloc _) (by omega)).mono ?_
  rintro e w1 ⟨v, rfl, hown, hb1⟩
  rw [HR.out] at hown ⊢
  have HW := Lib.hid (hw0.out.trans (hb1.mono (by simp)))
  have HB := Lib.hid (hb0.out.below hb1)
  clear hb1
  by_cases hc : rc = 0
  · subst hc
    rw [faultV_ok]
    rcases rl with _ | ⟨x, r⟩
    · exact absurd rfl (scan_ne HR.out)
    · obtain ⟨g, cap, cur, rfl, hcap, hg, hgl, _, hcell⟩ := own_blk hown (by simp)
      obtain ⟨c0, d0⟩ := hcell 0 (.int .i64 x.t.k) rfl
      obtain ⟨c1, d1⟩ := hcell 1 (.string x.t.t) rfl
      obtain ⟨c2, d2⟩ := hcell 2 (.int .i64 x.t.n) rfl
      obtain ⟨c3, d3⟩ := hcell 3 (.int .i64 x.o) rfl
      obtain ⟨c4, d4⟩ := hcell 4 (.int .i64 x.l) rfl
      obtain ⟨c5, d5⟩ := hcell 5 (.int .i64 x.c) rfl
      obtain ⟨x0, x1, x2, x3, x4, x5, y0, y1, y2, y3, y4, y5⟩ := HB.out.six
      have hgw : w.heap.size + 1 ≤ g := by simpa using hg
      have hz1 := HB.out.lt
      have hne : ¬ g = w.heap.size := by omega
      have hne2 : ¬ w.heap.size = g := by omega
      clear hown hcell hg
      obtain ⟨b2, e2⟩ : ∃ b, (x.t.k == 4) = b := ⟨_, rfl⟩
      obtain ⟨b3, e3⟩ : ∃ b, (x.t.t.toList == t.toList) = b := ⟨_, rfl⟩
      obtain ⟨b4, e4⟩ : ∃ b, (x.t.n == n) = b := ⟨_, rfl⟩
      obtain ⟨b5, e5⟩ : ∃ b, (X.size == 0) = b := ⟨_, rfl⟩
      obtain ⟨b6, e6⟩ : ∃ b, (r.length == 1) = b := ⟨_, rfl⟩
      have HV := Lib.hid (writeS_all HX1.out HR.out e2 e3 e4 e5 e6)
      go_wp2_with fail
      have hE := eq_token 0 (w1.alloc (.cells #[.int .i64 0, .int .i64 0, .int .i64 0, .int .i64 0] 31)) x.t.k 4 x.t.t t x.t.n n 0 0 0 0 0 0
      rw [e2, e3, e4] at hE
      cases b2
      · go_quiet (fail)
        go_wp2
        all_goals
          go_ret2
          refine ⟨by rw [HV.out]; rfl, ?_⟩
          exact (((((HW.out.setCell (show w.heap.size ≤ g by omega) _).setCell (show w.heap.size ≤ g by omega) _).setCell (show w.heap.size ≤ g by omega) _).alloc (by simpa using HW.out.size) _).trans ((below_drewN _ _).mono (by have := HW.out.size; simp; omega)))
      cases b3
      · go_quiet (fail)
        go_wp2
        all_goals
          go_ret2
          refine ⟨by rw [HV.out]; rfl, ?_⟩
          exact (((((HW.out.setCell (show w.heap.size ≤ g by omega) _).setCell (show w.heap.size ≤ g by omega) _).setCell (show w.heap.size ≤ g by omega) _).alloc (by simpa using HW.out.size) _).trans ((below_drewN _ _).mono (by have := HW.out.size; simp; omega)))
      cases b4
      · go_quiet (fail)
        go_wp2
        all_goals
          go_ret2
          refine ⟨by rw [HV.out]; rfl, ?_⟩
          exact (((((HW.out.setCell (show w.heap.size ≤ g by omega) _).setCell (show w.heap.size ≤ g by omega) _).setCell (show w.heap.size ≤ g by omega) _).alloc (by simpa using HW.out.size) _).trans ((below_drewN _ _).mono (by have := HW.out.size; simp; omega)))
      have e5' : X.toList.isEmpty = b5 := by rw [isE]; exact e5
      have e6' : ((r.length : Int) + 1 == 2) = b6 := by rw [← e6, Bool.eq_iff_iff]; simp; omega
      cases b5
      · cases b6
        · go_quiet (fail)
          go_wp2
          all_goals
            go_ret2
            refine ⟨by rw [HV.out]; rfl, ?_⟩
            exact (((((HW.out.setCell (show w.heap.size ≤ g by omega) _).setCell (show w.heap.size ≤ g by omega) _).setCell (show w.heap.size ≤ g by omega) _).alloc (by simpa using HW.out.size) _).trans ((below_drewN _ _).mono (by have := HW.out.size; simp; omega)))
        · go_quiet (fail)
          go_wp2
          all_goals
            go_ret2
            refine ⟨by rw [HV.out]; rfl, ?_⟩
            exact (((((HW.out.setCell (show w.heap.size ≤ g by omega) _).setCell (show w.heap.size ≤ g by omega) _).setCell (show w.heap.size ≤ g by omega) _).alloc (by simpa using HW.out.size) _).trans ((below_drewN _ _).mono (by have := HW.out.size; simp; omega)))
      · go_quiet (fail)
        go_wp2
        all_goals
          go_ret2
          refine ⟨by rw [HV.out]; rfl, ?_⟩
          exact (((((HW.out.setCell (show w.heap.size ≤ g by omega) _).setCell (show w.heap.size ≤ g by omega) _).setCell (show w.heap.size ≤ g by omega) _).alloc (by simpa using HW.out.size) _).trans ((below_drewN _ _).mono (by have := HW.out.size; simp; omega)))
  · rw [faultV_err hc]
    have hcb : (rc == 0) = false := by simp [hc]
    have HV := Lib.hid (writeS_err HX1.out HR.out hc)
    obtain ⟨a, cap, rfl, _⟩ := own_slice hown
    clear hown hc
    go_wp2
    go_ret2
    exact ⟨by rw [HV.out]; rfl, HW.out.alloc HW.out.size _⟩

end Go.Proofs.YtgaanohloocokaaDoor
