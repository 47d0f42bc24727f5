/-
  Walks of package token: take.
-/
import Derived.Test.YtgaanohloocokaaDoorTokA
namespace Go.Proofs.YtgaanohloocokaaDoor
open Go.RowKit

theorem Kp.set_at {w w' : World} {g : Nat} (h : Kp (at_ g) w w') (i : Nat) (u : Value) : Kp (at_ g) w (w'.setCell ⟨g, i, none⟩ u) := Kp.setCell (p := ⟨g, i, none⟩) h (fun _ => show g = g from rfl) u
theorem decodeGo_at {T : ByteArray} {k : Nat} (h : k < T.size) : Lib.decodeGo (T.extract k T.size) = Utf8.decode T k := by
  unfold Lib.decodeGo
  rw [if_neg (by rw [Lib.tail_size]; omega), Lib.tail_decode]
  rfl

set_option maxRecDepth 100000 in
set_option maxHeartbeats 4000000 in
theorem t_take0 (g : Nat) (s : ByteArray) (o n : Nat) (l c : Int) (w : World) (h : Cut w g s o l c) (hG : GL w) (hg : NG ≤ g) (hn : o + n ≤ s.size) (hs : s.size ≤ 140737488351232)
    (hl0 : 0 ≤ l) (hl : l ≤ o + 1) (hc0 : 0 ≤ c) (hc : c ≤ o + 1) :
    Calls Tryd.prog 34 #[.pointer (some ⟨g, 0, none⟩), .int .i64 n] w fun e w' => e = .returned (.string (s.extract o (o + n))) ∧
      Cut w' g s (o + n) (spot (s.extract o (o + n)) n 0 l c).1 (spot (s.extract o (o + n)) n 0 l c).2 ∧ Kp (at_ g) w w' := by
  obtain ⟨X, hX⟩ : ∃ X, s.extract o s.size = X := ⟨_, rfl⟩
  have hXs : X.size = s.size - o := by rw [← hX]; exact size_ext (Nat.le_refl _)
  obtain ⟨T, hT⟩ : ∃ T, s.extract o (o + n) = T := ⟨_, rfl⟩
  have hTs : T.size = n := by rw [← hT, size_ext hn]; omega
  have hXT : X.extract 0 n = T := by
    rw [← hX, ← hT, ByteArray.extract_extract]
    congr 1
    omega
  rw [hT]
  obtain ⟨R, hR⟩ : ∃ R, spot T n 0 l c = R := ⟨_, rfl⟩
  rw [hR]
  have HX := Lib.hid hX
  have HXT := Lib.hid hXT
  have HTs := Lib.hid hTs
  have HR := Lib.hid hR
  have HC := Lib.hid h
  have HG := Lib.hid hG
  have hnX : n ≤ X.size := by omega
  have hsl := fun wx => run_slice_string_h (P := Tryd.prog) (w := wx) (t := 9) (s := X) Tryd.underlying9 .i64 (n : Int) (by omega) (by omega)
  simp only [Int.toNat_natCast, hXT] at hsl
  clear hX hXT hTs hR h hG hT hXs
  go_enter Tryd.func34, Tryd.ntmps34
  go_wp2_with (go_at_call 36; refine (t_rest g s o l c _ HC.out (by omega)).mono ?_; rintro e w1 ⟨rfl, m, rfl⟩; rw [HX.out])
  go_loopw [6] (fun v wr => ∃ (k : Nat) (l' c' : Int), v = .int .i64 k ∧ k ≤ n ∧ 0 ≤ l' ∧ l' ≤ o + k + 1 ∧ 0 ≤ c' ∧ c' ≤ o + k + 1 ∧ Hid (Cut wr g s o l' c') ∧ Hid (Kp (at_ g) w wr) ∧ Hid (spot T n k l' c' = R)) (fun v _ => n - (intOf v).toNat)
  case atStart => exact ⟨0, l, c, rfl, by omega, by omega, by omega, by omega, by omega, HC.out.drewN _, (Kp.refl _ _).drewN _, HR⟩
  case round =>
    obtain ⟨k, l', c', rfl, hk, a1, a2, a3, a4, HC1, HK1, HS1⟩ := hrel
    have hkn : (n : Int) = T.size := by have := HTs.out; omega
    by_cases hlt : k < n
    · have hkT : k < T.size := by have := HTs.out; omega
      have hkT1 : (k : Int) ≤ T.size := by omega
      have hw1 := wd_pos T k hkT
      have hw2 : k + wd T k ≤ n := by have := wd_le (s := T) (i := k) (p := T.size) hkT (Nat.le_refl _) (Or.inl rfl); have := HTs.out; omega
      have HD := Lib.hid (decodeGo_at hkT)
      have HNT := Lib.hid HTs.out
      clear hkn
      obtain ⟨D, hD⟩ : ∃ D, Utf8.decode T k = D := ⟨_, rfl⟩
      have hwd : wd T k = D.2 := by unfold wd; rw [hD]
      have hr10 : D.1 = 10 ↔ B T k = 10 := by rw [← hD]; exact dec_nl T k
      have HG1 := Lib.hid (HG.out.kp HK1.out (fun i e => by have : i = g := e; omega))
      rw [hwd] at hw1 hw2
      have HWD := Lib.hid hwd
      have HR10 := Lib.hid hr10
      have HDD := Lib.hid hD
      clear hwd hr10 hD
      go_wp2_with fail
      refine (Tryd.utf8_DecodeRuneInString _ _ HG1.out.utf8).mono ?_
      rintro e w2 ⟨rfl, hb⟩
      rw [HD.out, HDD.out]
      have HC2 := Lib.hid (Blk.below HC1.out hb)
      have HK2 := Lib.hid (HK1.out.below hb)
      clear hb HC1 HK1 HG1
      obtain ⟨c0, c1, c2, c3, f0, f1, f2, f3⟩ := HC2.out.four
      by_cases h10 : B T k = 10
      · have e10 : ((D.1 : Int) == 10) = true := by rw [HR10.out.2 h10]; rfl
        have HSN := Lib.hid (show spot T n (k + D.2) (l' + 1) 1 = R by rw [← HWD.out, ← spot_nl T n k l' c' hlt (by have := HTs.out; omega) h10]; exact HS1.out)
        clear h10
        go_wp2
        go_roundw
        case rel => exact ⟨k + D.2, l' + 1, 1, by go_num, hw2, by omega, by omega, by omega, by omega, Lib.hid (show Blk _ _ _ _ from by simpa using ((Blk.set HC2.out 3 _).set 2 _).set 3 _), Lib.hid (((HK2.out.set_at _ _).set_at _ _).set_at _ _), HSN⟩
        case measure => simp [intOf]; omega
      · have e10 : ((D.1 : Int) == 10) = false := beq_eq_false_iff_ne.2 (fun e => h10 (HR10.out.1 (by omega)))
        have HSN := Lib.hid (show spot T n (k + D.2) l' (c' + 1) = R by rw [← HWD.out, ← spot_ch T n k l' c' hlt (by have := HTs.out; omega) h10]; exact HS1.out)
        clear h10
        go_wp2
        go_roundw
        case rel => exact ⟨k + D.2, l', c' + 1, by go_num, hw2, by omega, by omega, by omega, by omega, Lib.hid (show Blk _ _ _ _ from by simpa using Blk.set HC2.out 3 _), Lib.hid (HK2.out.set_at _ _), HSN⟩
        case measure => simp [intOf]; omega
    · obtain ⟨c0, c1, c2, c3, f0, f1, f2, f3⟩ := HC1.out.four
      have hkT : ¬ k < T.size := by have := HTs.out; omega
      clear hkn
      go_wp2
      go_ret
      have e := HS1.out
      rw [spot_stop _ _ _ _ _ hlt] at e
      rw [← e]
      exact ⟨rfl, show Blk _ _ _ _ from by simpa using Blk.set HC1.out 1 _, HK1.out.set_at _ _⟩

/-- a cutter at a place, its line and column right -/
def CutP (w : World) (g : Nat) (s : ByteArray) (o : Nat) : Prop := Cut w g s o (P s o).1 (P s o).2

theorem t_take (g : Nat) (s : ByteArray) (o : Nat) (n : Int) (w : World) (h : CutP w g s o) (hB : Bd s o) (hG : GL w) (hg : NG ≤ g) (hn0 : 0 ≤ n) (hn : o + n ≤ s.size) (hs : s.size ≤ 140737488351232) (hok : EndOk s o (o + n.toNat)) :
    Calls Tryd.prog 34 #[.pointer (some ⟨g, 0, none⟩), .int .i64 n] w fun e w' => e = .returned (.string (s.extract o (o + n.toNat))) ∧ CutP w' g s (o + n.toNat) ∧ Kp (at_ g) w w' := by
  obtain ⟨n, rfl⟩ := Int.eq_ofNat_of_zero_le hn0
  rw [Int.toNat_natCast] at *
  have hn' : o + n ≤ s.size := by omega
  have hp := P_bd s o (by omega)
  refine (t_take0 g s o n (P s o).1 (P s o).2 w h hG hg hn' hs (by omega) (by omega) (by omega) (by omega)).mono ?_
  rintro e w1 ⟨rfl, h1, h2⟩
  refine ⟨rfl, ?_, h2⟩
  have e := spot_ext (s := s) (o := o) (e := o + n) hn' hok _ 0 (P s o).1 (P s o).2 rfl (by omega)
  rw [show o + n - o = n from by omega, Nat.add_zero, ← hB (o + n) (by omega) hn'] at e
  unfold CutP
  rw [← e]
  exact h1

end Go.Proofs.YtgaanohloocokaaDoor
