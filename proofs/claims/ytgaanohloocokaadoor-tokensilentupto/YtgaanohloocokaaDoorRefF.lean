/-
  Walks of phasorref04.Marks and one (all but marks).
-/
import Derived.Test.YtgaanohloocokaaDoorRefE
namespace Go.Proofs.YtgaanohloocokaaDoor
open Go.RowKit

def marksV : Array Value := #[.string ⟨#[45, 62]⟩, .string ⟨#[61, 61]⟩, .string ⟨#[59]⟩, .string ⟨#[44]⟩, .string ⟨#[40]⟩, .string ⟨#[41]⟩, .string ⟨#[91]⟩, .string ⟨#[93]⟩, .string ⟨#[123]⟩, .string ⟨#[125]⟩]

theorem r_Marks (w : World) :
    Calls Tryd.prog 47 #[] w fun e w' => e = .returned (.slice (some ⟨w.heap.size, 0, none⟩) 10 10) ∧ w.alloc (.cells marksV 9) = w' := by
  go_enter Tryd.func47, Tryd.ntmps47
  go_wp2
  go_ret
  exact ⟨rfl, rfl⟩

/-- what a token and where it ends look like -/
def tkV (N : Tk × Nat × Int) : Value := .tuple #[.agg #[.int .i64 N.1.k, .string N.1.t, .int .i64 N.1.n, .int .i64 0, .int .i64 0, .int .i64 0], .int .i64 N.2.1, .int .i64 N.2.2]

theorem r_number (s : ByteArray) (i : Int) (w : World) (h0 : 0 ≤ i) (h1 : i < s.size) (hs : s.size ≤ 140737488351232) (hd : isDig (B s i.toNat) = true) :
    Calls Tryd.prog 46 #[.string s, .int .i64 i] w fun e w' => e = .returned (tkV (numTok s i.toNat)) ∧ Below w.heap.size w w' := by
  obtain ⟨i, rfl⟩ := Int.eq_ofNat_of_zero_le h0
  rw [Int.toNat_natCast] at *
  cases hc : (decide (many isDig s i + 1 < s.size) && B s (many isDig s i) == 46 && isDig (B s (many isDig s i + 1))) with
  | true =>
    have hc' := hc
    simp only [Bool.and_eq_true, decide_eq_true_eq, beq_iff_eq] at hc'
    exact r_number_real s i w (by omega) hs hd hc'.1.1 hc'.1.2 hc'.2
  | false => exact r_number_int s i w (by omega) hs hd hc

set_option maxRecDepth 100000 in
set_option maxHeartbeats 4000000 in
theorem r_one_end (s : ByteArray) (i : Nat) (w : World) (h1 : ¬ i < s.size) :
    Calls Tryd.prog 29 #[.string s, .int .i64 i] w fun e w' => e = .returned (tkV (one s i)) ∧ Below w.heap.size w w' := by
  have hN : one s i = (Tk.zero, i, 0) := by unfold one; rw [if_pos (by omega)]
  rw [hN]
  go_enter Tryd.func29, Tryd.ntmps29
  go_wp2
  exact bodyPost_ret (results_ctt rfl _ _ w.heap.size 37 _ rfl (Blk.new _ _ _) wideToken) rfl ⟨rfl, (Below.refl _ _).alloc (Nat.le_refl _) _⟩

set_option maxRecDepth 100000 in
set_option maxHeartbeats 4000000 in
theorem r_one_dig (s : ByteArray) (i : Nat) (w : World) (h1 : i < s.size) (hs : s.size ≤ 140737488351232) (hl : isLet (B s i) = false) (hd : isDig (B s i) = true) :
    Calls Tryd.prog 29 #[.string s, .int .i64 i] w fun e w' => e = .returned (tkV (one s i)) ∧ Below w.heap.size w w' := by
  have hN : one s i = numTok s i := by unfold one; rw [if_neg (by omega), if_neg (by rw [hl]; simp), if_pos hd]
  rw [hN]
  clear hN
  obtain ⟨N, hN⟩ : ∃ N, numTok s i = N := ⟨_, rfl⟩
  rw [hN]
  have HN := Lib.hid hN
  clear hN
  have HB := B_eq s i h1
  have HD := Lib.hid hd
  have HG := Lib.hid (show w.heap.size < (w.alloc (.cells #[.int .i64 0, .string ⟨#[]⟩, .int .i64 0, .int .i64 0, .int .i64 0, .int .i64 0] 37)).heap.size by simp)
  have HB0 := Lib.hid (Blk.new w 37 #[.int .i64 0, .string ⟨#[]⟩, .int .i64 0, .int .i64 0, .int .i64 0, .int .i64 0])
  have HW := Lib.hid ((Below.refl w.heap.size w).alloc (Nat.le_refl _) (.cells #[.int .i64 0, .string ⟨#[]⟩, .int .i64 0, .int .i64 0, .int .i64 0, .int .i64 0] 37))
  go_enter Tryd.func29, Tryd.ntmps29
  go_wp2_with (first | (go_at_call 25; refine (r_digit _ _ (by omega)).mono ?_; rintro e w' ⟨rfl, rfl⟩) | (go_at_call 24; refine (r_letter _ _ (by omega)).mono ?_; rintro e w' ⟨rfl, rfl⟩) | (go_at_call 46; refine (r_number s _ _ (by omega) (by omega) hs (by rw [Int.toNat_natCast]; exact HD.out)).mono ?_; rintro e w1 ⟨rfl, hb1⟩; rw [Int.toNat_natCast, HN.out]; have hB1 := HB0.out.below hb1; have hW1 := HW.out.trans (hb1.mono (by simp)); obtain ⟨c0, c1, c2, c3, c4, c5, f0, f1, f2, f3, f4, f5⟩ := hB1.six; have hz := hB1.lt; clear hb1; unfold tkV))
  exact bodyPost_ret (results_ctt rfl _ _ w.heap.size 37 _ rfl (by simpa using (((((hB1.set 0 _).set 1 _).set 2 _).set 3 _).set 4 _).set 5 _) wideToken) rfl ⟨rfl, (((((hW1.setCell (Nat.le_refl _) _).setCell (Nat.le_refl _) _).setCell (Nat.le_refl _) _).setCell (Nat.le_refl _) _).setCell (Nat.le_refl _) _).setCell (Nat.le_refl _) _⟩

set_option maxRecDepth 100000 in
set_option maxHeartbeats 4000000 in
theorem r_one_name (s : ByteArray) (i : Nat) (w : World) (h1 : i < s.size) (hs : s.size ≤ 140737488351232) (hl : isLet (B s i) = true) :
    Calls Tryd.prog 29 #[.string s, .int .i64 i] w fun e w' => e = .returned (tkV (one s i)) ∧ Below w.heap.size w w' := by
  obtain ⟨K, hK⟩ : ∃ K, many isWord s i = K := ⟨_, rfl⟩
  have hiK : i < K := by rw [← hK, many_step h1 (by simp [isWord, hl])]; exact many_ge _ _ _
  have hKs : K ≤ s.size := by rw [← hK]; exact many_le _ _ (by omega)
  have hw : ∀ j, i ≤ j → j < K → isWord (B s j) = true := fun j a b => many_all isWord s i a (by rw [hK]; exact b)
  have he : K < s.size → isWord (B s K) = false := fun h => by rw [← hK] at h ⊢; exact many_end _ _ _ h
  have hN : one s i = if 32 < K - i then (Tk.zero, K, 42) else (⟨1, s.extract i K, 0⟩, K, 0) := by
    unfold one; rw [if_neg (by omega), if_pos hl, hK]
  have HN := Lib.hid hN
  have HK := Lib.hid hK
  have HW := Lib.hid hw
  have HE := Lib.hid he
  clear hN hK hw he
  have HBi := B_eq s i h1
  have hnd : isDig (B s i) = false ∨ isDig (B s i) = true := by cases isDig (B s i) <;> simp
  go_enter Tryd.func29, Tryd.ntmps29
  go_wp2_with (first | (go_at_call 25; refine (r_digit _ _ (by omega)).mono ?_; rintro e w' ⟨rfl, rfl⟩) | (go_at_call 24; refine (r_letter _ _ (by omega)).mono ?_; rintro e w' ⟨rfl, rfl⟩))
  go_loop [7] (fun v => ∃ m : Nat, m ≤ K ∧ i ≤ m ∧ v = .int .i64 m) (fun v => s.size - (intOf v).toNat)
  case atStart => exact ⟨i, by omega, by omega, rfl⟩
  case round =>
    obtain ⟨m, hm, him, rfl⟩ := hrel
    by_cases hmK : m < K
    · have hms : m < s.size := by omega
      have HB := B_eq s m hms
      have hx := HW.out m him hmK
      unfold isWord at hx
      cases hx1 : isLet (B s m) with
      | true =>
        clear hx
        go_wp2_with (first | (go_at_call 25; refine (r_digit _ _ (by omega)).mono ?_; rintro e w' ⟨rfl, rfl⟩) | (go_at_call 24; refine (r_letter _ _ (by omega)).mono ?_; rintro e w' ⟨rfl, rfl⟩))
        go_round
        case rel => exact ⟨m + 1, by omega, by omega, by go_num⟩
        case measure => simp [intOf]; omega
      | false =>
        have hx2 : isDig (B s m) = true := by simpa [hx1] using hx
        clear hx
        go_wp2_with (first | (go_at_call 25; refine (r_digit _ _ (by omega)).mono ?_; rintro e w' ⟨rfl, rfl⟩) | (go_at_call 24; refine (r_letter _ _ (by omega)).mono ?_; rintro e w' ⟨rfl, rfl⟩))
        go_round
        case rel => exact ⟨m + 1, by omega, by omega, by go_num⟩
        case measure => simp [intOf]; omega
    · obtain rfl : K = m := by omega
      by_cases hms : K < s.size
      · have HB := B_eq s K hms
        have hx := HE.out hms
        unfold isWord at hx
        have hx1 : isLet (B s K) = false := by cases h : isLet (B s K) <;> simp_all
        have hx2 : isDig (B s K) = false := by cases h : isDig (B s K) <;> simp_all
        clear hx
        by_cases h32 : 32 < K - i
        · go_wp2_with (first | (go_at_call 25; refine (r_digit _ _ (by omega)).mono ?_; rintro e w' ⟨rfl, rfl⟩) | (go_at_call 24; refine (r_letter _ _ (by omega)).mono ?_; rintro e w' ⟨rfl, rfl⟩))
          rw [HN.out, if_pos h32]
          exact bodyPost_ret (results_ctt rfl _ _ w.heap.size 37 _ rfl (Blk.new _ _ _) wideToken) rfl ⟨rfl, (Below.refl _ _).alloc (Nat.le_refl _) _⟩
        · go_wp2_with (first | (go_at_call 25; refine (r_digit _ _ (by omega)).mono ?_; rintro e w' ⟨rfl, rfl⟩) | (go_at_call 24; refine (r_letter _ _ (by omega)).mono ?_; rintro e w' ⟨rfl, rfl⟩))
          rw [HN.out, if_neg h32]
          exact bodyPost_ret (results_ctt rfl _ _ w.heap.size 37 _ rfl (Blk.new _ _ _) wideToken) rfl ⟨rfl, (Below.refl _ _).alloc (Nat.le_refl _) _⟩
      · by_cases h32 : 32 < K - i
        · go_wp2_with (first | (go_at_call 25; refine (r_digit _ _ (by omega)).mono ?_; rintro e w' ⟨rfl, rfl⟩) | (go_at_call 24; refine (r_letter _ _ (by omega)).mono ?_; rintro e w' ⟨rfl, rfl⟩))
          rw [HN.out, if_pos h32]
          exact bodyPost_ret (results_ctt rfl _ _ w.heap.size 37 _ rfl (Blk.new _ _ _) wideToken) rfl ⟨rfl, (Below.refl _ _).alloc (Nat.le_refl _) _⟩
        · go_wp2_with (first | (go_at_call 25; refine (r_digit _ _ (by omega)).mono ?_; rintro e w' ⟨rfl, rfl⟩) | (go_at_call 24; refine (r_letter _ _ (by omega)).mono ?_; rintro e w' ⟨rfl, rfl⟩))
          rw [HN.out, if_neg h32]
          exact bodyPost_ret (results_ctt rfl _ _ w.heap.size 37 _ rfl (Blk.new _ _ _) wideToken) rfl ⟨rfl, (Below.refl _ _).alloc (Nat.le_refl _) _⟩

end Go.Proofs.YtgaanohloocokaaDoor
