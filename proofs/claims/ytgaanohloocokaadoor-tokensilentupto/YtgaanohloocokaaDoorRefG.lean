/-
  Walks of phasorref04.one at a quote and at a mark.
-/
import Derived.Test.YtgaanohloocokaaDoorRefF
import Derived.Test.YtgaanohloocokaaDoorPlain
import Derived.Test.YtgaanohloocokaaDoorBase2
import Derived.IntWalk
import Derived.RegionTactic
import Derived.ChangeAlike
import Derived.StillTailTactics
namespace Go.Proofs.YtgaanohloocokaaDoor
open Go.RowKit

set_option maxRecDepth 100000 in
set_option maxHeartbeats 4000000 in
theorem r_one_text (s : ByteArray) (i : Nat) (w : World) (h1 : i < s.size) (hs : s.size ≤ 140737488351232) (hq : B s i = 34) :
    Calls Tryd.prog 29 #[.string s, .int .i64 i] w fun e w' => e = .returned (tkV (one s i)) ∧ Below w.heap.size w w' := by
  obtain ⟨K, hK⟩ : ∃ K, many inText s (i + 1) = K := ⟨_, rfl⟩
  have hiK : i + 1 ≤ K := by rw [← hK]; exact many_ge _ _ _
  have hKs : K ≤ s.size := by rw [← hK]; exact many_le _ _ (by omega)
  have hw : ∀ j, i + 1 ≤ j → j < K → inText (B s j) = true := fun j a b => many_all inText s (i + 1) a (by rw [hK]; exact b)
  have he : K < s.size → inText (B s K) = false := fun h => by rw [← hK] at h ⊢; exact many_end _ _ _ h
  have hN : one s i = if K < s.size ∧ B s K = 34 then (⟨4, s.extract (i + 1) K, 0⟩, K + 1, 0) else (Tk.zero, i, 43) := by
    unfold one; rw [if_neg (by omega), if_neg (by simp [isLet, hq]), if_neg (by simp [isDig, hq]), if_pos hq, hK]
  have HN := Lib.hid hN
  have HK := Lib.hid hK
  have HW := Lib.hid hw
  have HE := Lib.hid he
  clear hN hK hw he
  have HBi := B_eq s i h1
  rw [hq] at HBi
  clear hq
  have l34 : isLet 34 = false := by decide
  have d34 : isDig 34 = false := by decide
  go_enter Tryd.func29, Tryd.ntmps29
  go_wp2_with (first | (go_at_call 25; refine (r_digit _ _ (by omega)).mono ?_; rintro e w' ⟨rfl, rfl⟩) | (go_at_call 24; refine (r_letter _ _ (by omega)).mono ?_; rintro e w' ⟨rfl, rfl⟩))
  go_loop [8] (fun v => ∃ m : Nat, m ≤ K ∧ i + 1 ≤ m ∧ v = .int .i64 m) (fun v => s.size - (intOf v).toNat)
  case atStart => exact ⟨i + 1, by omega, by omega, by go_num⟩
  case round =>
    obtain ⟨m, hm, him, rfl⟩ := hrel
    by_cases hmK : m < K
    · have hms : m < s.size := by omega
      have HB := B_eq s m hms
      have hx := HW.out m him hmK
      have hx1 : ¬ B s m = 10 ∧ ¬ B s m = 34 := by simpa [inText] using hx
      clear hx
      have n10 : ((B s m : Int) != 10) = true := bne_iff_ne.2 (by omega)
      have n34 : ((B s m : Int) == 34) = false := beq_eq_false_iff_ne.2 (by omega)
      clear hx1
      go_wp2_with (first | (go_at_call 25; refine (r_digit _ _ (by omega)).mono ?_; rintro e w' ⟨rfl, rfl⟩) | (go_at_call 24; refine (r_letter _ _ (by omega)).mono ?_; rintro e w' ⟨rfl, rfl⟩))
      go_round
      case rel => exact ⟨m + 1, by omega, by omega, by go_num⟩
      case measure => simp [intOf]; omega
    · obtain rfl : K = m := by omega
      by_cases hms : K < s.size
      · have HB := B_eq s K hms
        have hx := HE.out hms
        by_cases h34 : B s K = 34
        · have n10 : ((B s K : Int) != 10) = true := bne_iff_ne.2 (by omega)
          have n34 : ((B s K : Int) == 34) = true := beq_iff_eq.2 (by omega)
          have HN2 := Lib.hid (HN.out.trans (if_pos ⟨hms, h34⟩))
          have hsl := fun wx => slice_nn (P := Tryd.prog) 9 Tryd.underlying9 s ((i : Int) + 1) (K : Int) (i + 1) K (by omega) rfl hiK hKs wx
          clear h34 hx
          go_wp2_with (first | (go_at_call 25; refine (r_digit _ _ (by omega)).mono ?_; rintro e w' ⟨rfl, rfl⟩) | (go_at_call 24; refine (r_letter _ _ (by omega)).mono ?_; rintro e w' ⟨rfl, rfl⟩))
          rw [HN2.out]
          exact bodyPost_ret (results_ctt rfl _ _ w.heap.size 37 _ rfl (Blk.new _ _ _) wideToken) rfl ⟨rfl, (Below.refl _ _).alloc (Nat.le_refl _) _⟩
        · have h10 : B s K = 10 := by simp [inText] at hx; omega
          have n10 : ((B s K : Int) != 10) = false := by rw [h10]; rfl
          have HN2 := Lib.hid (HN.out.trans (if_neg (fun q => h34 q.2)))
          clear h34 hx h10
          go_wp2_with (first | (go_at_call 25; refine (r_digit _ _ (by omega)).mono ?_; rintro e w' ⟨rfl, rfl⟩) | (go_at_call 24; refine (r_letter _ _ (by omega)).mono ?_; rintro e w' ⟨rfl, rfl⟩))
          rw [HN2.out]
          exact bodyPost_ret (results_ctt rfl _ _ w.heap.size 37 _ rfl (Blk.new _ _ _) wideToken) rfl ⟨rfl, (Below.refl _ _).alloc (Nat.le_refl _) _⟩
      · have HN2 := Lib.hid (HN.out.trans (if_neg (fun q => hms q.1)))
        go_wp2_with (first | (go_at_call 25; refine (r_digit _ _ (by omega)).mono ?_; rintro e w' ⟨rfl, rfl⟩) | (go_at_call 24; refine (r_letter _ _ (by omega)).mono ?_; rintro e w' ⟨rfl, rfl⟩))
        rw [HN2.out]
        exact bodyPost_ret (results_ctt rfl _ _ w.heap.size 37 _ rfl (Blk.new _ _ _) wideToken) rfl ⟨rfl, (Below.refl _ _).alloc (Nat.le_refl _) _⟩

theorem marksV_at : ∀ n, n < 10 → marksV[n]? = some (.string (MK n))
  | 0, _ => rfl | 1, _ => rfl | 2, _ => rfl | 3, _ => rfl | 4, _ => rfl | 5, _ => rfl | 6, _ => rfl | 7, _ => rfl | 8, _ => rfl | 9, _ => rfl
  | n + 10, h => by omega

set_option maxRecDepth 100000 in
set_option maxHeartbeats 4000000 in
theorem r_one_marks (s : ByteArray) (i : Nat) (w : World) (N : Tk × Nat × Int) (h1 : i < s.size) (hs : s.size ≤ 140737488351232) (hl : isLet (B s i) = false) (hd : isDig (B s i) = false) (hq : ¬ B s i = 34)
    (hyes : ∀ n, n < 10 → markAt s i n = true → (∀ m, m < n → markAt s i m = false) → (⟨5, MK n, 0⟩, i + (MK n).size, 0) = N) (hno : (∀ m, m < 10 → markAt s i m = false) → (Tk.zero, i, 40) = N) :
    Calls Tryd.prog 29 #[.string s, .int .i64 i] w fun e w' => e = .returned (tkV N) ∧ Below w.heap.size w w' := by
  have HY := Lib.hid hyes
  have HN := Lib.hid hno
  clear hyes hno
  have HB := B_eq s i h1
  have n34 : ((B s i : Int) == 34) = false := beq_eq_false_iff_ne.2 (by omega)
  have his : (i : Int) ≤ s.size := by omega
  clear hq
  go_enter Tryd.func29, Tryd.ntmps29
  go_wp2_with (first | (go_at_call 47; refine (r_Marks _).mono ?_; rintro e w' ⟨rfl, rfl⟩) | (first | (go_at_call 25; refine (r_digit _ _ (by omega)).mono ?_; rintro e w' ⟨rfl, rfl⟩) | (go_at_call 24; refine (r_letter _ _ (by omega)).mono ?_; rintro e w' ⟨rfl, rfl⟩)))
  go_loopw [10] (fun v wr => ∃ n : Nat, n ≤ 10 ∧ v = .int .i64 n ∧ Hid (∀ m, m < n → markAt s i m = false) ∧ Hid (Blk wr w.heap.size 37 #[.int .i64 0, .string ⟨#[]⟩, .int .i64 0, .int .i64 0, .int .i64 0, .int .i64 0]) ∧ Hid (Blk wr (w.heap.size + 1) 9 marksV) ∧ Hid (Below w.heap.size w wr)) (fun v _ => 10 - (intOf v).toNat)
  case atStart => exact ⟨0, by omega, rfl, fun m hm => by omega, (Blk.new _ _ _).alloc _, Lib.hid (by simpa using Blk.new (w.alloc (.cells #[.int .i64 0, .string ⟨#[]⟩, .int .i64 0, .int .i64 0, .int .i64 0, .int .i64 0] 37)) 9 marksV), ((Below.refl _ _).alloc (Nat.le_refl _) _).alloc (by simp) _⟩
  case round =>
    obtain ⟨n, hn, rfl, HA, HB1, HB2, HW⟩ := hrel
    by_cases hn10 : n < 10
    · have hcell : wr.cell? ⟨w.heap.size + 1, n, none⟩ = some (.string (MK n)) := (HB2.out.cell n).trans (marksV_at n hn10)
      have hk := MK_size n
      obtain ⟨X, hX⟩ : ∃ X, MK n = X := ⟨_, rfl⟩
      have HX := Lib.hid hX
      rw [hX] at hcell hk
      clear hX
      obtain ⟨hk1, hk2⟩ := hk
      by_cases hfit : i + X.size ≤ s.size
      · have hg : decide ((X.size : Int) ≤ (s.size : Int) - i) = true := decide_eq_true (by omega)
        have hn0 : (0 : Int) ≤ n := by omega
        have hn1 : (n : Int) < 10 := by omega
        have hw : IntKind.i64.wrap ((s.size : Int) - i) = (s.size : Int) - i := Go.IntWalk.i64_in _ (by omega)
        have hw2 : IntKind.i64.wrap ((i : Int) + X.size) = (i : Int) + X.size := Go.IntWalk.i64_in _ (by omega)
        have hsl := fun wx => slice_nn (P := Tryd.prog) 9 Tryd.underlying9 s (i : Int) ((i : Int) + X.size) i (i + X.size) rfl (by omega) (by omega) hfit wx
        have hmk : (decide (i + X.size ≤ s.size) && ((s.extract i (i + X.size)).toList == X.toList)) = markAt s i n := by rw [← HX.out]; rfl
        cases hm : ((s.extract i (i + X.size)).toList == X.toList) with
        | true =>
          have HM := Lib.hid (show markAt s i n = true by rw [← hmk, hm, decide_eq_true hfit]; rfl)
          clear hmk
          have HE := Lib.hid (HY.out n hn10 HM.out HA.out)
          go_wp2_with fail
          go_quiet (fail)
          go_wp2
          obtain ⟨w2, hw2⟩ : ∃ w2, wr.drewN nq = w2 := ⟨_, rfl⟩
          have HB1' : Blk w2 w.heap.size 37 #[.int .i64 0, .string ⟨#[]⟩, .int .i64 0, .int .i64 0, .int .i64 0, .int .i64 0] := by rw [← hw2]; exact HB1.out.drewN _
          have HW' := Lib.hid (show Below w.heap.size w w2 by rw [← hw2]; exact HW.out.trans ((below_drewN _ _).mono HW.out.size))
          have hcell' : w2.cell? ⟨w.heap.size + 1, n, none⟩ = some (.string X) := by rw [← hw2]; exact hcell
          rw [hw2]
          clear hw2 hcell
          obtain ⟨c0, c1, c2, c3, c4, c5, f0, f1, f2, f3, f4, f5⟩ := HB1'.six
          have hz := HB1'.lt
          have HB3 := Lib.hid HB1'
          clear HB1' HB1 HB2 HY HN HA HM
          go_region
          go_wp2
          rw [← HE.out, HX.out]
          exact bodyPost_ret (results_ctt rfl _ _ w.heap.size 37 _ rfl (by simpa using ((((((HB3.out.set 0 _).set 1 _).set 2 _).set 3 _).set 4 _).set 5 _).drew) wideToken) rfl ⟨rfl, ((((((HW'.out.setCell (Nat.le_refl _) _).setCell (Nat.le_refl _) _).setCell (Nat.le_refl _) _).setCell (Nat.le_refl _) _).setCell (Nat.le_refl _) _).setCell (Nat.le_refl _) _).drew⟩
        | false =>
          have HM := Lib.hid (show markAt s i n = false by rw [← hmk, hm]; simp)
          clear hmk
          go_wp2_with fail
          go_quiet (fail)
          go_wp2
          go_roundw
          case rel => exact ⟨n + 1, by omega, by go_num, fun m h => by
            by_cases e : m = n
            · subst e; exact HM.out
            · exact HA.out m (by omega), HB1.out.drewN _, HB2.out.drewN _, HW.out.trans (below_drewN _ _ |>.mono HW.out.size)⟩
          case measure => simp [intOf]; omega
      · have hg : decide ((X.size : Int) ≤ (s.size : Int) - i) = false := decide_eq_false (by omega)
        have hn0 : (0 : Int) ≤ n := by omega
        have hn1 : (n : Int) < 10 := by omega
        have hw : IntKind.i64.wrap ((s.size : Int) - i) = (s.size : Int) - i := Go.IntWalk.i64_in _ (by omega)
        have HM := Lib.hid (show markAt s i n = false by unfold markAt; rw [HX.out, decide_eq_false hfit]; rfl)
        go_wp2_with fail
        go_quiet (fail)
        go_wp2
        go_roundw
        case rel => exact ⟨n + 1, by omega, by go_num, fun m h => by
          by_cases e : m = n
          · subst e; exact HM.out
          · exact HA.out m (by omega), HB1.out.drewN _, HB2.out.drewN _, HW.out.trans (below_drewN _ _ |>.mono HW.out.size)⟩
        case measure => simp [intOf]; omega
    · obtain rfl : n = 10 := by omega
      have HE := Lib.hid (HN.out HA.out)
      obtain ⟨c0, c1, c2, c3, c4, c5, f0, f1, f2, f3, f4, f5⟩ := HB1.out.six
      have hz := HB1.out.lt
      go_wp2
      rw [← HE.out]
      exact bodyPost_ret (results_ctt rfl _ _ w.heap.size 37 _ rfl (by simpa [Tk.zero] using (((((HB1.out.set 0 _).set 1 _).set 2 _).set 3 _).set 4 _).set 5 _) wideToken) rfl ⟨rfl, (((((HW.out.setCell (Nat.le_refl _) _).setCell (Nat.le_refl _) _).setCell (Nat.le_refl _) _).setCell (Nat.le_refl _) _).setCell (Nat.le_refl _) _).setCell (Nat.le_refl _) _⟩

end Go.Proofs.YtgaanohloocokaaDoor
