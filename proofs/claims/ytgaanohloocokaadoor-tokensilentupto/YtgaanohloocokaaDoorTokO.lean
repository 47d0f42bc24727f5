/-
  Walks of package token: At.
-/
import Derived.Test.YtgaanohloocokaaDoorBase2
import Derived.Test.YtgaanohloocokaaDoorPlain
import Derived.Lib.OthersKept
namespace Go.Proofs.YtgaanohloocokaaDoor
open Go.RowKit

theorem it_set {w : World} {k b : Nat} {o : Obj} (h : w.heap[k]? = some o) (hne : k ≠ b) (i : Nat) (u : Value) : (w.setCell ⟨b, i, none⟩ u).heap[k]? = some o := by
  rw [Below.heap_setCell _ _ _ _ hne]; exact h
theorem Blk.iterAt {w : World} {g : Nat} {t : TypeId} {cs : Array Value} (h : Blk w g t cs) {k : Nat} (hne : g ≠ k) (s : ByteArray) (p : Nat) : Blk (w.iterAt k s p) g t cs := by
  unfold Blk at *; rw [Go.Lib.iterAt_other _ _ _ _ _ hne]; exact h

set_option maxRecDepth 100000 in
set_option maxHeartbeats 4000000 in
theorem t_At (s : ByteArray) (off : Int) (w : World) (hs : s.size ≤ 140737488351232) :
    Calls Tryd.prog 9 #[.string s, .int .i64 off] w fun e w' => e = .returned (spotV s (clampN s off)) ∧ Below w.heap.size w w' := by
  obtain ⟨F, hF⟩ : ∃ F, clampN s off = F := ⟨_, rfl⟩
  have hFs : F ≤ s.size := by rw [← hF]; exact clampN_le s off
  have hmm : min (max off 0) (s.size : Int) = (F : Int) := by
    rw [← hF]; unfold clampN
    split
    · omega
    · split <;> omega
  rw [hF]
  clear hF
  have HR := Lib.hid (show spot s F 0 1 1 = P s F from rfl)
  go_enter Tryd.func9, Tryd.ntmps9
  go_wp2
  go_loopg [6] s.size (fun q v wr => ∃ (k : Nat) (l c : Int), k ≤ s.size ∧ Hid (q = s.size - k) ∧ 0 ≤ l ∧ l ≤ k + 1 ∧ 0 ≤ c ∧ c ≤ k + 1 ∧ Hid (wr.heap[w.heap.size + 1 + 1]? = some (.stringIter s k)) ∧ Hid (Blk wr (w.heap.size + 1) 23 #[.int .i64 F, .int .i64 l, .int .i64 c]) ∧
      Hid (Blk wr w.heap.size 23 #[.int .i64 0, .int .i64 0, .int .i64 0]) ∧ Hid (Below w.heap.size w wr) ∧ Hid (spot s F k l c = P s F))
  case atStart => exact ⟨0, 1, 1, by omega, by show _ = _; omega, by omega, by omega, by omega, by omega, Lib.hid (by simpa using World.iter_heap ((w.alloc (.cells #[.int .i64 0, .int .i64 0, .int .i64 0] 23)).alloc (.cells #[.int .i64 F, .int .i64 1, .int .i64 1] 23)) s 0),
      Lib.hid (Blk.alloc (by simpa using Blk.new (w.alloc (.cells #[.int .i64 0, .int .i64 0, .int .i64 0] 23)) 23 #[.int .i64 F, .int .i64 1, .int .i64 1]) _), Lib.hid (Blk.alloc (Blk.alloc (Blk.new _ _ _) _) _), Lib.hid ((((Below.refl _ _).alloc (Nat.le_refl _) _).alloc (by simp) _).alloc (by simp; omega) _), HR⟩
  case round =>
    obtain ⟨k, l, c, hk, HQ, a1, a2, a3, a4, HI, HB, HZ, HW, HS⟩ := hrel
    have hgz := blk_lt HI.out
    have hz1 := HB.out.lt
    have hz0 := HZ.out.lt
    obtain ⟨x0, x1, x2, y0, y1, y2⟩ := HB.out.three
    obtain ⟨p0, p1, p2, q0, q1, q2⟩ := HZ.out.three
    by_cases hlt : k < s.size
    · have hnx := fun ty => Go.Lib.run_next_any_at (P := Tryd.prog) wr (w.heap.size + 1 + 1) s k ty HI.out hlt
      have hw := wd_pos s k hlt
      obtain ⟨D, hD⟩ : ∃ D, Utf8.decode s k = D := ⟨_, rfl⟩
      have hwd : wd s k = D.2 := by unfold wd; rw [hD]
      have hwle : k + D.2 ≤ s.size := by rw [← hwd]; exact wd_le hlt (Nat.le_refl _) (Or.inl rfl)
      have hr10 : D.1 = 10 ↔ B s k = 10 := by rw [← hD]; exact dec_nl s k
      rw [hD] at hnx
      have HI2 := Lib.hid (Go.Lib.iterAt_heap wr (w.heap.size + 1 + 1) s k (k + D.2) HI.out)
      have HB2 := Lib.hid (Blk.iterAt HB.out (show w.heap.size + 1 ≠ w.heap.size + 1 + 1 by omega) s (k + D.2))
      have HZ2 := Lib.hid (Blk.iterAt HZ.out (show w.heap.size ≠ w.heap.size + 1 + 1 by omega) s (k + D.2))
      have HW2 := Lib.hid (Go.Lib.below_iterAt HW.out (show w.heap.size ≤ w.heap.size + 1 + 1 by omega) s (k + D.2))
      obtain ⟨w2, hw2⟩ : ∃ w2, wr.iterAt (w.heap.size + 1 + 1) s (k + D.2) = w2 := ⟨_, rfl⟩
      rw [hw2] at HI2 HB2 HZ2 HW2 hnx
      clear hw2 x0 x1 x2 y0 y1 y2 p0 p1 p2 q0 q1 q2
      obtain ⟨x0, x1, x2, y0, y1, y2⟩ := HB2.out.three
      obtain ⟨p0, p1, p2, q0, q1, q2⟩ := HZ2.out.three
      have hz1 := HB2.out.lt
      have hz0 := HZ2.out.lt
      have HWD := Lib.hid hwd
      have HR10 := Lib.hid hr10
      have HDD := Lib.hid hD
      clear hwd hr10 hD
      by_cases hF : F ≤ k
      · have hFI : (F : Int) ≤ (k : Int) := by omega
        have e := HS.out
        rw [spot_stop s F k l c (by omega)] at e
        have HE := Lib.hid e
        clear e
        go_wp2
        refine bodyPost_ret (results_c rfl _ _ w.heap.size 23 _ rfl (by simpa using ((HZ2.out.set 0 _).set 1 _).set 2 _) wideSpot) rfl ⟨?_, ((HW2.out.setCell (Nat.le_refl _) _).setCell (Nat.le_refl _) _).setCell (Nat.le_refl _) _⟩
        unfold spotV
        rw [← HE.out]
      · have hFI : ¬ (F : Int) ≤ (k : Int) := by omega
        by_cases h10 : B s k = 10
        · have e10 : ((D.1 : Int) == 10) = true := by rw [HR10.out.2 h10]; rfl
          have HSN := Lib.hid (show spot s F (k + D.2) (l + 1) 1 = P s F by rw [← HWD.out, ← spot_nl s F k l c (by omega) hFs h10]; exact HS.out)
          have hD2 : 1 ≤ D.2 := by rw [← HWD.out]; exact hw
          clear h10
          go_wp2
          go_roundg (s.size - (k + D.2))
          case measure => have := HQ.out; omega
          case rel => exact ⟨k + D.2, l + 1, 1, hwle, rfl, by omega, by omega, by omega, by omega, Lib.hid (it_set (it_set (it_set HI2.out (by omega) 2 _) (by omega) 1 _) (by omega) 2 _), Lib.hid (by simpa using ((HB2.out.set 2 _).set 1 _).set 2 _), Lib.hid (((HZ2.out.far (p := ⟨w.heap.size + 1, 2, none⟩) (by simp) _).far (p := ⟨w.heap.size + 1, 1, none⟩) (by simp) _).far (p := ⟨w.heap.size + 1, 2, none⟩) (by simp) _), Lib.hid (((HW2.out.setCell (by simp) _).setCell (by simp) _).setCell (by simp) _), HSN⟩
        · have e10 : ((D.1 : Int) == 10) = false := beq_eq_false_iff_ne.2 (fun e => h10 (HR10.out.1 (by omega)))
          have HSN := Lib.hid (show spot s F (k + D.2) l (c + 1) = P s F by rw [← HWD.out, ← spot_ch s F k l c (by omega) hFs h10]; exact HS.out)
          have hD2 : 1 ≤ D.2 := by rw [← HWD.out]; exact hw
          clear h10
          go_wp2
          go_roundg (s.size - (k + D.2))
          case measure => have := HQ.out; omega
          case rel => exact ⟨k + D.2, l, c + 1, hwle, rfl, by omega, by omega, by omega, by omega, Lib.hid (it_set HI2.out (by omega) 2 _), Lib.hid (by simpa using HB2.out.set 2 _), Lib.hid (HZ2.out.far (p := ⟨w.heap.size + 1, 2, none⟩) (by simp) _), Lib.hid (HW2.out.setCell (by simp) _), HSN⟩
    · have hnx := fun ty => Go.Lib.run_next_end_at (P := Tryd.prog) wr (w.heap.size + 1 + 1) s k ty HI.out hlt
      have e := HS.out
      rw [spot_stop s F k l c (by omega)] at e
      have HE := Lib.hid e
      clear e
      go_wp2
      refine bodyPost_ret (results_c rfl _ _ w.heap.size 23 _ rfl (by simpa using ((HZ.out.set 0 _).set 1 _).set 2 _) wideSpot) rfl ⟨?_, ((HW.out.setCell (Nat.le_refl _) _).setCell (Nat.le_refl _) _).setCell (Nat.le_refl _) _⟩
      unfold spotV
      rw [← HE.out]

end Go.Proofs.YtgaanohloocokaaDoor
