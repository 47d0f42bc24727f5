/-
  Walks of phasorref04.on, At.
-/
import Derived.Test.YtgaanohloocokaaDoorRefA
import Derived.Test.YtgaanohloocokaaDoorPlain
namespace Go.Proofs.YtgaanohloocokaaDoor
open Go.RowKit

/-- what the loop of 'on' holds -/
def OnRel (s : ByteArray) (w : World) (off : Nat) (o : Int) (R : Int × Int) (k : Nat) (wr : World) (l c : Int) : Prop :=
  Blk wr w.heap.size 23 #[.int .i64 o, .int .i64 l, .int .i64 c] ∧ Blk wr (w.heap.size + 1) 23 #[.int .i64 0, .int .i64 0, .int .i64 0] ∧ Below w.heap.size w wr ∧ spot s off k l c = R

set_option maxHeartbeats 1000000 in
theorem r_on (s : ByteArray) (o l c off : Int) (w : World) (h0 : 0 ≤ o) (h1 : o ≤ off) (h2 : off ≤ s.size) (hs : s.size ≤ 140737488351232) (hl0 : 0 ≤ l) (hl : l ≤ o + 1) (hc0 : 0 ≤ c) (hc : c ≤ o + 1) :
    Calls Tryd.prog 23 #[.string s, .agg #[.int .i64 o, .int .i64 l, .int .i64 c], .int .i64 off] w fun e w' =>
      e = .returned (.agg #[.int .i64 off, .int .i64 (spot s off.toNat o.toNat l c).1, .int .i64 (spot s off.toNat o.toNat l c).2]) ∧ Below w.heap.size w w' := by
  obtain ⟨o, rfl⟩ := Int.eq_ofNat_of_zero_le h0
  obtain ⟨off, rfl⟩ := Int.eq_ofNat_of_zero_le (a := off) (by omega)
  have h2 : off ≤ s.size := by omega
  rw [Int.toNat_natCast, Int.toNat_natCast]
  obtain ⟨R, hR⟩ : ∃ R, spot s off o l c = R := ⟨_, rfl⟩
  rw [hR]
  have HR := Lib.hid hR
  clear hR
  go_enter Tryd.func23, Tryd.ntmps23
  go_wp2
  go_loopw [7] (fun i wr => ∃ (k : Nat) (l' c' : Int), i = .int .i64 k ∧ OnRel s w off o R k wr l' c' ∧ 0 ≤ l' ∧ l' ≤ k + 1 ∧ 0 ≤ c' ∧ c' ≤ k + 1) (fun i _ => off - (intOf i).toNat)
  case atStart => exact ⟨o, l, c, rfl, ⟨(Blk.new _ _ _).alloc _, by simpa using Blk.new (w.alloc _) _ _, ((Below.refl _ _).alloc (Nat.le_refl _) _).alloc (by simp) _, HR.out⟩, hl0, hl, hc0, hc⟩
  case round =>
    obtain ⟨k, l', c', rfl, ⟨hB, hB2, hb, hsp⟩, a1, a2, a3, a4⟩ := hrel
    have x0 := hB.cell 0
    have x1 := hB.cell 1
    have x2 := hB.cell 2
    have f0 := hB.frozen 0
    have f1 := hB.frozen 1
    have f2 := hB.frozen 2
    have y0 := hB2.frozen 0
    have y1 := hB2.frozen 1
    have y2 := hB2.frozen 2
    have z0 := hB2.cell 0
    have z1 := hB2.cell 1
    have z2 := hB2.cell 2
    have n2 := hB2.lt
    simp at x0 x1 x2 z0 z1 z2
    have HSP := Lib.hid hsp
    clear hsp
    by_cases hk : k < off
    · have HB := B_eq s k (by omega)
      have hwd := wd_pos s k (by omega)
      have hbb := B_lt s k
      have hr4 := rsz_le s k
      have HRZ := Lib.hid (rsz_eq s k (by omega))
      by_cases hn : B s k = 10
      · have hnb : ((B s k : Int) == 10) = true := by simp [hn]
        have HN := Lib.hid hn
        clear hn
        go_wp2_with (go_at_call 32; refine (r_size s _ _ (by omega) (by omega) hs).mono ?_; rintro e w' ⟨rfl, rfl⟩)
        go_roundw
        case rel =>
          have := HRZ.out
          exact ⟨k + rsz s k, l' + 1, 1, by go_num, ⟨by simpa using ((hB.set 2 _).set 1 _).set 2 _, ((hB2.far (by simp) _).far (by simp) _).far (by simp) _, ((hb.setCell (by simp) _).setCell (by simp) _).setCell (by simp) _, by rw [← HSP.out, spot_nl s off k l' c' hk h2 HN.out, this]⟩, by omega, by omega, by omega, by omega⟩
        case measure => have := HRZ.out; simp [intOf]; omega
      · have hnb : ((B s k : Int) == 10) = false := by simp; omega
        have HN := Lib.hid hn
        clear hn
        go_wp2_with (go_at_call 32; refine (r_size s _ _ (by omega) (by omega) hs).mono ?_; rintro e w' ⟨rfl, rfl⟩)
        go_roundw
        case rel =>
          have := HRZ.out
          exact ⟨k + rsz s k, l', c' + 1, by go_num, ⟨by simpa using hB.set 2 _, hB2.far (by simp) _, hb.setCell (by simp) _, by rw [← HSP.out, spot_ch s off k l' c' hk h2 HN.out, this]⟩, by omega, by omega, by omega, by omega⟩
        case measure => have := HRZ.out; simp [intOf]; omega
    · go_wp2
      refine bodyPost_ret (v := .agg #[.int .i64 off, .int .i64 l', .int .i64 c']) (results_c rfl _ _ (w.heap.size + 1) 23 _ rfl (by simpa using (((hB2.far (by simp) _).set 0 _).set 1 _).set 2 _) wideSpot) rfl ⟨?_, ?_⟩
      · have e := HSP.out
        rw [spot_stop s off k l' c' hk] at e
        rw [← e]
      · exact (((hb.setCell (by simp) _).setCell (by simp) _).setCell (by simp) _).setCell (by simp) _

end Go.Proofs.YtgaanohloocokaaDoor
