/-
  Plain words: a token is read by its own bytes and by what ends it; what is put together of tokens and gaps is cut into them again; what stands ahead of a fault. No program in sight.
-/
import Derived.Test.YtgaanohloocokaaDoorPlain
namespace Go.Proofs.YtgaanohloocokaaDoor
open Go.RowKit

theorem scanF_len (s : ByteArray) : ∀ f i, (scanF s f i).1.length ≤ f := by
  intro f
  induction f with
  | zero => intro i; exact Nat.le_refl _
  | succ f ih =>
    intro i
    unfold scanF
    simp only
    split
    · exact Nat.zero_le _
    · split
      · simp
      · split
        · have := ih (one s (skip s i)).2.1
          simp; omega
        · exact Nat.zero_le _
theorem scan_len (s : ByteArray) : (scan s).1.length ≤ s.size + 1 := scanF_len s _ _

theorem ba_B {a b : ByteArray} (hz : a.size = b.size) (h : ∀ j, j < a.size → B a j = B b j) : a = b := by
  apply ByteArray.ext
  apply Array.ext
  · exact hz
  · intro j h1 h2
    have := h j h1
    rw [← B_eq a j h1, ← B_eq b j h2] at this
    exact UInt8.toNat_inj.1 this

/-- two texts hold the same bytes from here on, so many -/
structure Agree (s : ByteArray) (i : Nat) (s' : ByteArray) (i' n : Nat) : Prop where
  h1 : i + n ≤ s.size
  h2 : i' + n ≤ s'.size
  hB : ∀ j, j < n → B s (i + j) = B s' (i' + j)

theorem Agree.ext {s s' : ByteArray} {i i' n : Nat} (g : Agree s i s' i' n) {a b : Nat} (hb : b ≤ n) : s.extract (i + a) (i + b) = s'.extract (i' + a) (i' + b) := by
  have h1 := g.h1
  have h2 := g.h2
  apply ba_B
  · rw [size_ext (by omega), size_ext (by omega)]; omega
  · intro j hj
    rw [size_ext (by omega)] at hj
    rw [B_extract (by omega) (by omega), B_extract (by omega) (by omega), Nat.add_assoc, Nat.add_assoc]
    exact g.hB (a + j) (by omega)
theorem many_loc {p : Nat → Bool} {s s' : ByteArray} {i i' n a m : Nat} (g : Agree s i s' i' n) (he : many p s (i + a) = i + m) (hm : m ≤ n) (hst : m = n → i' + n < s'.size → p (B s' (i' + n)) = false) : many p s' (i' + a) = i' + m := by
  have h1 := g.h1
  have h2 := g.h2
  have hge := many_ge p s (i + a)
  rw [he] at hge
  refine many_eq rfl (by omega) (by omega) ?_ ?_
  · intro j hj hj2
    have := many_all p s (i + a) (j := i + (j - i')) (by omega) (by rw [he]; omega)
    rw [g.hB (j - i') (by omega), show i' + (j - i') = j from by omega] at this
    exact this
  · intro hlt
    by_cases hmn : m = n
    · subst hmn; exact hst rfl hlt
    · have := many_end p s (i + a) (by rw [he]; omega)
      rw [he, g.hB m (by omega)] at this
      exact this
theorem dvalF_loc {s s' : ByteArray} {i i' n : Nat} (g : Agree s i s' i' n) : ∀ f a k, a + f ≤ n → dvalF s f (i + a) k = dvalF s' f (i' + a) k := by
  intro f
  induction f with
  | zero => intro a k _; rfl
  | succ f ih =>
    intro a k h
    show dvalF s f (i + a + 1) _ = dvalF s' f (i' + a + 1) _
    rw [g.hB a (by omega), Nat.add_assoc, Nat.add_assoc]
    exact ih (a + 1) _ (by omega)

theorem isDig_word {c : Nat} (h : isWord c = false) : isDig c = false := by
  unfold isWord at h; cases hd : isDig c <;> simp [hd] at h ⊢
theorem isLet_word {c : Nat} (h : isWord c = false) : isLet c = false := by
  unfold isWord at h; cases hd : isLet c <;> simp [hd] at h ⊢

/-- what stands behind the token -/
structure Behind (s : ByteArray) (e : Nat) (s' : ByteArray) (e' : Nat) : Prop where
  hl : e' < s'.size → (e < s.size ∧ B s e = B s' e') ∨ (isWord (B s' e') = false ∧ B s' e' ≠ 46)
  hd : e' + 1 < s'.size → B s' e' = 46 → e + 1 < s.size ∧ B s (e + 1) = B s' (e' + 1)

theorem Behind.stop {s s' : ByteArray} {e e' : Nat} (g : Behind s e s' e') (p : Nat → Bool) (hp : ∀ c, isWord c = false → p c = false) (h : e < s.size → p (B s e) = false) (h2 : e' < s'.size) : p (B s' e') = false := by
  rcases g.hl h2 with ⟨a, b⟩ | ⟨a, _⟩
  · rw [← b]; exact h a
  · exact hp _ a

/-- A TOKEN IS READ BY ITS OWN BYTES AND BY WHAT ENDS IT. -/
theorem one_loc {s s' : ByteArray} {i i' n : Nat} {x : Tk} (h : one s i = (x, i + n, 0)) (hk : x.k ≠ 0) (g : Agree s i s' i' n) (q : Behind s (i + n) s' (i' + n)) : one s' i' = (x, i' + n, 0) := by
  have h1 := g.h1
  have h2 := g.h2
  have hz : i < s.size := by
    have := one_start (s := s) (i := i) (by rw [h]) (by rw [h]; exact hk)
    exact this.1
  unfold one at h
  rw [if_neg (by omega)] at h
  by_cases hl : isLet (B s i) = true
  · rw [if_pos hl] at h
    simp only at h
    split at h
    · simp at h
    · rename_i h32
      simp only [Prod.mk.injEq, and_true] at h
      obtain ⟨hx, he⟩ := h
      have hn : 0 < n := by
        have := many_step (p := isWord) hz (by unfold isWord; rw [hl]; rfl)
        have := many_ge isWord s (i + 1)
        omega
      have hb0 := g.hB 0 hn
      simp only [Nat.add_zero] at hb0
      have hm : many isWord s' i' = i' + n := by
        have := many_loc (a := 0) (m := n) g he (Nat.le_refl _) (fun _ hlt => q.stop isWord (fun _ h => h) (fun hh => by have := many_end isWord s i (by rw [he]; exact hh); rw [he] at this; exact this) hlt)
        exact this
      unfold one
      rw [if_neg (by omega), if_pos (by rw [← hb0]; exact hl)]
      simp only
      rw [hm, if_neg (by rw [he] at h32; omega), ← hx]
      have := g.ext (a := 0) (b := n) (Nat.le_refl _)
      simp only [Nat.add_zero] at this
      rw [he, this]
  rw [if_neg hl] at h
  by_cases hd : isDig (B s i) = true
  · rw [if_pos hd] at h
    obtain ⟨k, hkk⟩ : ∃ k, many isDig s i = k := ⟨_, rfl⟩
    have hge := many_step (p := isDig) hz hd
    have hge2 := many_ge isDig s (i + 1)
    have hkle := many_le isDig s (i := i) (by omega)
    rw [hkk] at hge hkle
    unfold numTok at h
    simp only at h
    rw [hkk] at h
    have hn : 0 < n := by
      split at h
      · split at h
        · simp at h
        · simp only [Prod.mk.injEq, and_true] at h
          have := many_ge isDig s (k + 1)
          omega
      · split at h
        · simp at h
        · simp only [Prod.mk.injEq, and_true] at h
          omega
    have hb0 := g.hB 0 hn
    simp only [Nat.add_zero] at hb0
    have hone : one s' i' = numTok s' i' := by
      unfold one
      rw [if_neg (by omega), if_neg (by rw [← hb0]; exact hl), if_pos (by rw [← hb0]; exact hd)]
    rw [hone]
    split at h
    · rename_i hdot
      simp only [Bool.and_eq_true, decide_eq_true_eq, beq_iff_eq] at hdot
      obtain ⟨⟨hd1, hd2⟩, hd3⟩ := hdot
      obtain ⟨e, hee⟩ : ∃ e, many isDig s (k + 1) = e := ⟨_, rfl⟩
      rw [hee] at h
      split at h
      · simp at h
      · rename_i hbad
        simp only [Prod.mk.injEq, and_true] at h
        obtain ⟨hx, he⟩ := h
        have he2 := many_step (p := isDig) hd1 hd3
        have he3 := many_ge isDig s (k + 1 + 1)
        rw [hee] at he2
        obtain ⟨m, rfl⟩ : ∃ m, k = i + m := ⟨k - i, by omega⟩
        have hmn : m + 1 < n := by omega
        have hk' : many isDig s' i' = i' + m := many_loc (a := 0) g hkk (by omega) (fun hh => by omega)
        have hbm := g.hB m (by omega)
        have hbm1 := g.hB (m + 1) (by omega)
        have he' : many isDig s' (i' + m + 1) = i' + n := many_loc (a := m + 1) (m := n) g (by rw [← Nat.add_assoc, hee, he]) (Nat.le_refl _) (fun _ hlt => q.stop isDig (fun _ h => isDig_word h) (fun hh => by have := many_end isDig s (i + m + 1) (by rw [hee, he]; exact hh); rw [hee, he] at this; exact this) hlt)
        unfold numTok
        simp only
        rw [hk', he', if_pos (by simp only [Bool.and_eq_true, decide_eq_true_eq, beq_iff_eq]; refine ⟨⟨by omega, by rw [← hbm]; exact hd2⟩, by rw [Nat.add_assoc, ← hbm1, ← Nat.add_assoc]; exact hd3⟩)]
        simp only [Bool.or_eq_true, Bool.and_eq_true, decide_eq_true_eq, beq_iff_eq, not_or, not_and] at hbad
        rw [if_neg]
        · rw [← hx, he]
          have := g.ext (a := 0) (b := n) (Nat.le_refl _)
          simp only [Nat.add_zero] at this
          rw [this]
        · simp only [Bool.or_eq_true, Bool.and_eq_true, decide_eq_true_eq, beq_iff_eq, not_or, not_and]
          refine ⟨fun hh => by have := hbad.1 (by rw [hb0]; exact hh); omega, fun hh => ?_⟩
          have := q.stop isLet (fun _ h => isLet_word h) (fun hh => by have := hbad.2 (by rw [he]; exact hh); rw [he] at this; simpa using this) hh
          simp [this]
    · rename_i hdot
      split at h
      · simp at h
      · rename_i hbad
        simp only [Prod.mk.injEq, and_true] at h
        obtain ⟨hx, he⟩ := h
        subst he
        have hk' : many isDig s' i' = i' + n := many_loc (a := 0) g hkk (Nat.le_refl _) (fun _ hlt => q.stop isDig (fun _ h => isDig_word h) (fun hh => by have := many_end isDig s i (by rw [hkk]; exact hh); rw [hkk] at this; exact this) hlt)
        unfold numTok
        simp only
        simp only [Bool.or_eq_true, Bool.and_eq_true, decide_eq_true_eq, beq_iff_eq, not_or, not_and] at hbad hdot
        have hdv : dval s' i' (i' + n) = dval s i (i + n) := by
          unfold dval
          rw [show i' + n - i' = n from by omega, show i + n - i = n from by omega]
          exact (dvalF_loc g n 0 0 (by omega)).symm
        rw [hk', if_neg, if_neg, hdv, ← hx]
        · simp only [Bool.or_eq_true, Bool.and_eq_true, decide_eq_true_eq, beq_iff_eq, not_or, not_and]
          refine ⟨⟨fun hh => by have := hbad.1.1 (by rw [hb0]; exact hh); omega, by rw [hdv]; exact hbad.1.2⟩, fun hh => ?_⟩
          have := q.stop isLet (fun _ h => isLet_word h) (fun hh => by have := hbad.2 hh; simpa using this) hh
          simp [this]
        · simp only [Bool.and_eq_true, decide_eq_true_eq, beq_iff_eq, not_and]
          intro a b
          obtain ⟨c, d⟩ := q.hd a.1 a.2
          rcases q.hl (by omega) with ⟨u, v⟩ | ⟨u, v⟩
          · have := hdot ⟨c, by rw [v]; exact a.2⟩
            rw [d] at this
            exact this b
          · exact v a.2
  rw [if_neg hd] at h
  by_cases hq : B s i = 34
  · rw [if_pos hq] at h
    simp only at h
    obtain ⟨k, hkk⟩ : ∃ k, many inText s (i + 1) = k := ⟨_, rfl⟩
    have hge := many_ge inText s (i + 1)
    rw [hkk] at h hge
    split at h
    · rename_i hc
      simp only [Prod.mk.injEq, and_true] at h
      obtain ⟨hx, he⟩ := h
      obtain ⟨m, rfl⟩ : ∃ m, k = i + m := ⟨k - i, by omega⟩
      have hn : 0 < n := by omega
      have hb0 := g.hB 0 hn
      simp only [Nat.add_zero] at hb0
      have hk' : many inText s' (i' + 1) = i' + m := many_loc (a := 1) g hkk (by omega) (fun hh => by omega)
      unfold one
      rw [if_neg (by omega), if_neg (by rw [← hb0]; exact hl), if_neg (by rw [← hb0]; exact hd), if_pos (by rw [← hb0]; exact hq)]
      simp only
      rw [hk', if_pos ⟨by omega, by rw [← g.hB m (by omega)]; exact hc.2⟩, ← hx, g.ext (a := 1) (b := m) (by omega), show i' + m + 1 = i' + n from by omega]
    · simp at h
  rw [if_neg hq] at h
  by_cases hm2 : isMark2 s i = true
  · rw [if_pos hm2] at h
    simp only [Prod.mk.injEq, and_true] at h
    obtain ⟨hx, he⟩ := h
    obtain rfl : n = 2 := by omega
    have hb0 := g.hB 0 (by omega)
    have hb1 := g.hB 1 (by omega)
    simp only [Nat.add_zero] at hb0
    have hm2' : isMark2 s' i' = true := by
      unfold isMark2 at hm2 ⊢
      rw [← hb0, ← hb1, decide_eq_true (show i' + 1 < s'.size by omega)]
      simp only [Bool.and_eq_true] at hm2
      rw [hm2.2]; rfl
    unfold one
    have := g.ext (a := 0) (b := 2) (Nat.le_refl _)
    simp only [Nat.add_zero] at this
    rw [if_neg (by omega), if_neg (by rw [← hb0]; exact hl), if_neg (by rw [← hb0]; exact hd), if_neg (by rw [← hb0]; exact hq), if_pos hm2', ← hx, this]
  rw [if_neg hm2] at h
  by_cases hm1 : isMark1 (B s i) = true
  · rw [if_pos hm1] at h
    simp only [Prod.mk.injEq, and_true] at h
    obtain ⟨hx, he⟩ := h
    obtain rfl : n = 1 := by omega
    have hb0 := g.hB 0 (by omega)
    simp only [Nat.add_zero] at hb0
    have hm2' : ¬ isMark2 s' i' = true := by
      rw [hb0] at hm1
      intro hh
      simp [isMark2] at hh
      simp [isMark1] at hm1
      omega
    unfold one
    have := g.ext (a := 0) (b := 1) (Nat.le_refl _)
    simp only [Nat.add_zero] at this
    rw [if_neg (by omega), if_neg (by rw [← hb0]; exact hl), if_neg (by rw [← hb0]; exact hd), if_neg (by rw [← hb0]; exact hq), if_neg hm2', if_pos (by rw [← hb0]; exact hm1), ← hx, this]
  rw [if_neg hm1] at h
  simp at h

theorem agree_pre {s : ByteArray} {i n o : Nat} (h : i + n ≤ o) (ho : o ≤ s.size) : Agree s i (s.extract 0 o) i n :=
  ⟨by omega, by rw [size_ext ho]; omega, fun j hj => by rw [B_extract (by omega) ho, Nat.zero_add]⟩
theorem B_pre {s : ByteArray} {j o : Nat} (h : j < o) (ho : o ≤ s.size) : B (s.extract 0 o) j = B s j := by
  rw [B_extract (by omega) ho, Nat.zero_add]
theorem size_pre {s : ByteArray} {o : Nat} (ho : o ≤ s.size) : (s.extract 0 o).size = o := by rw [size_ext ho]; omega

theorem com_two {s : ByteArray} {i : Nat} (h : isCom s i = true) : i + 2 ≤ many notNl s i := by
  unfold isCom at h
  simp only [Bool.and_eq_true, beq_iff_eq, decide_eq_true_eq] at h
  obtain ⟨⟨a, b⟩, c⟩ := h
  rw [many_step (by omega) (by rw [a]; rfl), many_step b (by rw [c]; rfl)]
  exact many_ge _ _ _
/-- what is passed by is passed by in the part ahead, too -/
theorem skip_pre {s : ByteArray} {o : Nat} (ho : o ≤ s.size) : ∀ d i j, s.size - i = d → i ≤ s.size → skip s i = j → j ≤ o → skip (s.extract 0 o) i = j := by
  intro d
  induction d using Nat.strongRecOn with
  | ind d ih =>
    intro i j hd hi hj hjo
    have hij : i ≤ j := by rw [← hj]; exact skip_ge hi
    by_cases hlt : i < s.size
    · rw [skip_eq hlt] at hj
      by_cases hb : isBlank (B s i) = true
      · rw [if_pos hb] at hj
        have h1 : i + 1 ≤ j := by rw [← hj]; exact skip_ge (by omega)
        rw [skip_blank (by rw [size_pre ho]; omega) (by rw [B_pre (by omega) ho]; exact hb)]
        exact ih (s.size - (i + 1)) (by omega) (i + 1) j rfl (by omega) hj hjo
      · rw [if_neg hb] at hj
        by_cases hc : isCom s i = true
        · rw [if_pos hc] at hj
          obtain ⟨K, hK⟩ : ∃ K, many notNl s i = K := ⟨_, rfl⟩
          have h2 := com_two hc
          have hKs := many_le notNl s (i := i) hi
          rw [hK] at h2 hKs hj
          have h1 : K ≤ j := by rw [← hj]; exact skip_ge hKs
          have hm : many notNl (s.extract 0 o) i = K := by
            have := many_loc (p := notNl) (a := 0) (m := K - i) (agree_pre (s := s) (i := i) (n := K - i) (o := o) (by omega) ho) (by rw [Nat.add_zero, hK]; omega) (Nat.le_refl _)
              (fun _ hlt => by
                rw [size_pre ho] at hlt
                rw [B_pre hlt ho, show i + (K - i) = K from by omega]
                have := many_end notNl s i (by rw [hK]; omega)
                rw [hK] at this; exact this)
            rw [Nat.add_zero] at this
            rw [this]; omega
          have hc' : isCom (s.extract 0 o) i = true := by
            unfold isCom at hc ⊢
            rw [B_pre (by omega) ho, B_pre (by omega) ho, decide_eq_true (show i + 1 < (s.extract 0 o).size by rw [size_pre ho]; omega)]
            simp only [Bool.and_eq_true, beq_iff_eq, decide_eq_true_eq] at hc ⊢
            exact ⟨⟨hc.1.1, trivial⟩, hc.2⟩
          rw [skip_com (by rw [size_pre ho]; omega) (by rw [B_pre (by omega) ho]; simpa using hb) hc', hm]
          exact ih (s.size - K) (by omega) K j rfl (by omega) hj hjo
        · rw [if_neg hc] at hj
          subst hj
          by_cases hio : i < o
          · refine skip_stop (by rw [B_pre hio ho]; simpa using hb) ?_
            cases hcc : isCom (s.extract 0 o) i with
            | false => rfl
            | true =>
              exfalso
              apply hc
              unfold isCom at hcc ⊢
              simp only [Bool.and_eq_true, beq_iff_eq, decide_eq_true_eq] at hcc ⊢
              rw [size_pre ho] at hcc
              obtain ⟨⟨a, b⟩, c⟩ := hcc
              rw [B_pre (by omega) ho] at a c
              exact ⟨⟨a, by omega⟩, c⟩
          · exact skip_out (by rw [size_pre ho]; omega)
    · rw [skip_out hlt] at hj
      subst hj
      exact skip_out (by rw [size_pre ho]; omega)

theorem scanF_pre {s : ByteArray} {c : Int} {o : Nat} (hc : c ≠ 0) : ∀ f i, i ≤ s.size → Bd s i → (scanF s f i).2 = (c, o) →
    i ≤ o ∧ o ≤ s.size ∧ ∀ f', o - i < f' → (scanF (s.extract 0 o) f' i).2.1 = 0 := by
  intro f
  induction f with
  | zero => intro i _ _ h; simp only [scanF, Prod.mk.injEq] at h; exact absurd h.1.symm hc
  | succ f ih =>
    intro i hi hB h
    obtain ⟨j, hj⟩ : ∃ j, skip s i = j := ⟨_, rfl⟩
    have hij : i ≤ j := by rw [← hj]; exact skip_ge hi
    have hjs : j ≤ s.size := by rw [← hj]; exact skip_le hi
    have hBj : Bd s j := by rw [← hj]; exact skip_Bd hi hB
    have hsp := one_spec s j hjs hBj
    obtain ⟨x, e, er⟩ : ∃ x, x = one s j := ⟨_, rfl⟩
    unfold scanF at h
    simp only at h
    rw [hj] at h
    split at h
    · rename_i herr
      simp only [Prod.mk.injEq] at h
      obtain ⟨_, rfl⟩ := h
      refine ⟨hij, hjs, fun f' hf' => ?_⟩
      obtain ⟨f', rfl⟩ : ∃ m, f' = m + 1 := ⟨f' - 1, by omega⟩
      unfold scanF
      simp only
      rw [skip_pre hjs _ i j rfl hi hj (Nat.le_refl _)]
      have hp := one_past (s.extract 0 j)
      rw [size_pre hjs] at hp
      rw [hp]
      simp [Tk.zero]
    · rename_i herr
      split at h
      · simp only [Prod.mk.injEq] at h; exact absurd h.1.symm hc
      · rename_i hk0
        have herr0 : (one s j).2.2 = 0 := by simpa using herr
        have hlt := hsp.2.2.2 herr0 hk0
        split at h
        · simp only [Prod.mk.injEq] at h; exact absurd h.1.symm hc
        · have h2 : (scanF s f (one s j).2.1).2 = (c, o) := h
          obtain ⟨h3, h4, h5⟩ := ih (one s j).2.1 hsp.2.1 hsp.2.2.1 h2
          refine ⟨by omega, h4, fun f' hf' => ?_⟩
          obtain ⟨f', rfl⟩ : ∃ m, f' = m + 1 := ⟨f' - 1, by omega⟩
          obtain ⟨e, he⟩ : ∃ e, (one s j).2.1 = e := ⟨_, rfl⟩
          rw [he] at hlt h3 h5
          have hone : one s j = ((one s j).1, j + (e - j), 0) := by
            rw [show j + (e - j) = e from by omega, ← he, ← herr0]
          have hl := one_loc (s' := s.extract 0 o) (i' := j) hone hk0 (agree_pre (by omega) h4)
            ⟨fun hh => Or.inl ⟨by rw [size_pre h4] at hh; omega, by rw [size_pre h4] at hh; rw [B_pre hh h4]⟩, fun hh _ => ⟨by rw [size_pre h4] at hh; omega, by rw [size_pre h4] at hh; rw [B_pre hh h4]⟩⟩
          rw [show j + (e - j) = e from by omega] at hl
          unfold scanF
          simp only
          rw [skip_pre h4 _ i j rfl hi hj (by omega), hl]
          simp only [ne_eq, not_true_eq_false, if_false, if_neg hk0]
          have := h5 f' (by omega)
          rw [if_pos this]
/-- WHAT STANDS AHEAD OF A FAULT IS A TEXT WITHOUT ONE. -/
theorem scan_pre {s : ByteArray} (h : (scan s).2.1 ≠ 0) : (scan s).2.2 ≤ s.size ∧ (scan (s.extract 0 (scan s).2.2)).2.1 = 0 := by
  obtain ⟨h1, h2, h3⟩ := scanF_pre (s := s) (c := (scan s).2.1) (o := (scan s).2.2) h (s.size + 1) 0 (Nat.zero_le _) (Bd_zero s) rfl
  refine ⟨h2, ?_⟩
  have := h3 ((s.extract 0 (scan s).2.2).size + 1) (by rw [size_pre h2]; omega)
  exact this

theorem B_app (a b : ByteArray) (j : Nat) (h : j < (a ++ b).size) : B (a ++ b) j = if j < a.size then B a j else B b (j - a.size) := by
  have hz := h
  rw [ByteArray.size_append] at hz
  rw [← B_eq _ j h]
  have e : (a ++ b)[j] = (a.data ++ b.data)[j]'(by simpa using hz) := by
    show (a ++ b).data[j]'_ = _
    simp only [ByteArray.data_append]
  rw [e, Array.getElem_append]
  split
  · rename_i hh
    rw [if_pos (by simpa using hh), ← B_eq a j (by simpa using hh)]; rfl
  · rename_i hh
    rw [if_neg (by simpa using hh), ← B_eq b (j - a.size) (by have h9 : ¬ j < a.size := (by simpa using hh); omega)]; rfl

theorem dig_byte {u : Nat} (h : u < 10) : (UInt8.ofNat (48 + u)).toNat = 48 + u := by
  rw [UInt8.toNat_ofNat']; omega
theorem dec_val (u : Nat) : dfold 0 (Lib.decDigits u) = u := by
  induction u using Nat.strongRecOn with
  | _ u ih =>
    rw [Lib.decDigits]
    split
    · rename_i h
      show 10 * 0 + ((UInt8.ofNat (48 + u)).toNat - 48) = u
      rw [dig_byte h]; omega
    · have := ih (u / 10) (by omega)
      unfold dfold at this ⊢
      rw [List.foldl_append, this]
      show 10 * (u / 10) + ((UInt8.ofNat (48 + u % 10)).toNat - 48) = u
      rw [dig_byte (by omega)]; omega
theorem dec_head (u : Nat) (h1 : 1 ≤ u) : ∀ c, (Lib.decDigits u).head? = some c → c.toNat ≠ 48 := by
  induction u using Nat.strongRecOn with
  | _ u ih =>
    intro c hc
    rw [Lib.decDigits] at hc
    split at hc
    · rename_i h
      simp only [List.head?_cons, Option.some.injEq] at hc
      subst hc
      rw [dig_byte h]; omega
    · have h2 := (dec_digits (u / 10)).1
      obtain ⟨c0, r, hr⟩ := List.exists_cons_of_ne_nil h2
      rw [hr] at hc
      simp only [List.cons_append, List.head?_cons, Option.some.injEq] at hc
      subst hc
      exact ih (u / 10) (by omega) (by omega) c0 (by rw [hr]; rfl)
theorem B_list {l : List UInt8} {j : Nat} (h : j < l.length) : B ⟨l.toArray⟩ j = (l[j]).toNat := by
  have hz : (⟨l.toArray⟩ : ByteArray).size = l.length := by
    show l.toArray.size = _
    simp
  rw [← B_eq _ j (by rw [hz]; exact h)]
  congr 1
theorem size_list (l : List UInt8) : (⟨l.toArray⟩ : ByteArray).size = l.length := by
  show l.toArray.size = _
  simp
theorem one_itoa {n : Int} (h0 : 0 ≤ n) (h1 : n ≤ 1000000000) : one ⟨(Lib.itoa n).toArray⟩ 0 = (⟨2, ⟨#[]⟩, n⟩, (⟨(Lib.itoa n).toArray⟩ : ByteArray).size, 0) := by
  obtain ⟨hz, ha⟩ := itoa_many h0
  obtain ⟨u, rfl⟩ := Int.eq_ofNat_of_zero_le h0
  rw [Lib.itoa_nonneg] at hz ha ⊢
  obtain ⟨X, hX⟩ : ∃ X : ByteArray, ⟨(Lib.decDigits u).toArray⟩ = X := ⟨_, rfl⟩
  have hd0 := ha 0 hz
  have hm : many isDig ⟨(Lib.decDigits u).toArray⟩ 0 = (⟨(Lib.decDigits u).toArray⟩ : ByteArray).size := many_eq rfl (Nat.zero_le _) (Nat.le_refl _) (fun j _ h => ha j h) (fun h => absurd h (Nat.lt_irrefl _))
  have hv : dval ⟨(Lib.decDigits u).toArray⟩ 0 (⟨(Lib.decDigits u).toArray⟩ : ByteArray).size = u := by
    unfold dval
    have := dvalF_list ⟨(Lib.decDigits u).toArray⟩ ((⟨(Lib.decDigits u).toArray⟩ : ByteArray).size - 0) 0 0 rfl
    rw [this]
    exact dec_val u
  have hbad : ¬ (B ⟨(Lib.decDigits u).toArray⟩ 0 = 48 ∧ 0 + 1 < (⟨(Lib.decDigits u).toArray⟩ : ByteArray).size) := by
    rintro ⟨a, b⟩
    rw [size_list] at b
    by_cases h10 : u < 10
    · rw [Lib.decDigits_one h10] at b
      simp at b
    · rw [B_list (by omega)] at a
      refine dec_head u (by omega) ((Lib.decDigits u)[0]'(by omega)) ?_ a
      rw [List.head?_eq_getElem?, List.getElem?_eq_getElem]
  have hl : ¬ isLet (B ⟨(Lib.decDigits u).toArray⟩ 0) = true := by
    intro hl
    simp [isDig] at hd0
    simp [isLet] at hl
    omega
  rw [hX] at hz ha hd0 hm hv hbad hl ⊢
  unfold one
  rw [if_neg (by omega), if_neg hl, if_pos hd0]
  unfold numTok
  simp only
  rw [hm, if_neg, if_neg, hv]
  · simp only [Bool.or_eq_true, Bool.and_eq_true, decide_eq_true_eq, beq_iff_eq, not_or]
    refine ⟨⟨hbad, by rw [hv]; omega⟩, by omega⟩
  · simp only [Bool.and_eq_true, decide_eq_true_eq, beq_iff_eq]
    omega

theorem write_one {k n : Int} {t : ByteArray} (h : writeB k n t = true) : one (wtxt k n t) 0 = (⟨k, t, n⟩, (wtxt k n t).size, 0) := by
  unfold writeB sayB at h
  obtain ⟨N, hN⟩ : ∃ N, one (wtxt k n t) 0 = N := ⟨_, rfl⟩
  rw [hN] at h ⊢
  simp only [Bool.and_eq_true, beq_iff_eq] at h
  obtain ⟨h0, h1, h2, h3, h4⟩ := h
  obtain ⟨⟨a, b, c⟩, e, r⟩ := N
  simp only at h0 h1 h2 h3 h4
  have h3' : b = t := ba_ext (by rw [← ByteArray.toList_eq, ← ByteArray.toList_eq]; exact h3)
  subst h2 h3' h4
  simp only [Prod.mk.injEq, true_and]
  exact ⟨by omega, h0⟩
theorem one_write {k n : Int} {t : ByteArray} (h : one (wtxt k n t) 0 = (⟨k, t, n⟩, (wtxt k n t).size, 0)) : writeB k n t = true := by
  unfold writeB sayB
  rw [h]
  simp
theorem numTok_k2 {s : ByteArray} {j e : Nat} {x : Tk} (h : numTok s j = (x, e, 0)) : (x.k = 2 ∧ x.t = ⟨#[]⟩ ∧ 0 ≤ x.n ∧ x.n ≤ 1000000000) ∨ (x.k = 3 ∧ x.n = 0) := by
  unfold numTok at h
  simp only at h
  split at h
  · split at h
    · simp at h
    · simp only [Prod.mk.injEq] at h
      right
      rw [← h.1]
      exact ⟨rfl, rfl⟩
  · split at h
    · simp at h
    · rename_i hb
      simp only [Prod.mk.injEq] at h
      left
      rw [← h.1]
      simp only [Bool.or_eq_true, decide_eq_true_eq, not_or] at hb
      refine ⟨rfl, rfl, ?_, ?_⟩
      · show (0 : Int) ≤ (dval _ _ _ : Nat); omega
      · show ((dval _ _ _ : Nat) : Int) ≤ _; omega
theorem one_sorts {s : ByteArray} {j e : Nat} {x : Tk} (h : one s j = (x, e, 0)) (hk : x.k ≠ 0) : ((x.k = 1 ∨ x.k = 3 ∨ x.k = 5 ∨ x.k = 4) ∧ x.n = 0) ∨ (x.k = 2 ∧ x.t = ⟨#[]⟩ ∧ 0 ≤ x.n ∧ x.n ≤ 1000000000) := by
  unfold one at h
  split at h
  · simp only [Prod.mk.injEq] at h; rw [← h.1] at hk; exact absurd rfl hk
  · split at h
    · simp only at h
      split at h
      · simp at h
      · simp only [Prod.mk.injEq] at h; left; rw [← h.1]; exact ⟨Or.inl rfl, rfl⟩
    · split at h
      · rcases numTok_k2 h with q | q
        · exact Or.inr q
        · exact Or.inl ⟨Or.inr (Or.inl q.1), q.2⟩
      · split at h
        · simp only at h
          split at h
          · simp only [Prod.mk.injEq] at h; left; rw [← h.1]; exact ⟨Or.inr (Or.inr (Or.inr rfl)), rfl⟩
          · simp at h
        · split at h
          · simp only [Prod.mk.injEq] at h; left; rw [← h.1]; exact ⟨Or.inr (Or.inr (Or.inl rfl)), rfl⟩
          · split at h
            · simp only [Prod.mk.injEq] at h; left; rw [← h.1]; exact ⟨Or.inr (Or.inr (Or.inl rfl)), rfl⟩
            · simp at h

theorem one_piece {s : ByteArray} {j n : Nat} {x : Tk} (h : one s j = (x, j + n, 0)) (hk : x.k ≠ 0) (hz : j + n ≤ s.size) : one (s.extract j (j + n)) 0 = (x, (s.extract j (j + n)).size, 0) := by
  have hzz : (s.extract j (j + n)).size = n := by rw [size_ext hz]; omega
  have := one_loc (s' := s.extract j (j + n)) (i' := 0) h hk ⟨hz, by omega, fun m hm => by rw [Nat.zero_add, B_extract (by omega) hz]⟩ ⟨fun hh => by omega, fun hh => by omega⟩
  rw [this, hzz, Nat.zero_add]
/-- WHAT IS READ CAN BE WRITTEN -/
theorem one_writes {s : ByteArray} {j n : Nat} {x : Tk} (h : one s j = (x, j + n, 0)) (hk : x.k ≠ 0) (hz : j + n ≤ s.size) : writeB x.k x.n x.t = true := by
  rcases one_sorts h hk with ⟨hs, hn⟩ | ⟨h2, ht, hn0, hn1⟩
  · have hp := one_piece h hk hz
    have hw : wtxt x.k x.n x.t = s.extract j (j + n) := by
      by_cases h4 : x.k = 4
      · obtain ⟨K, hKt, hKe, hKs, hKj⟩ := one_k4 (s := s) (j := j) (by rw [h]; exact h4)
        rw [h] at hKt hKe
        simp only at hKt hKe
        rw [h4, wtxt_4, hKt]
        have hq : B s j = 34 ∧ B s K = 34 := by
          unfold one at h
          have hlt : ¬ s.size ≤ j := by omega
          rw [if_neg hlt] at h
          split at h
          · simp only at h
            split at h
            · simp at h
            · simp only [Prod.mk.injEq] at h; rw [← h.1] at h4; exact absurd h4 (by simp)
          · split at h
            · exact absurd (by rw [h]; exact h4) (numTok_k4 s j)
            · split at h
              · rename_i hq
                simp only at h
                split at h
                · rename_i hc
                  simp only [Prod.mk.injEq] at h
                  refine ⟨hq, ?_⟩
                  have : many inText s (j + 1) = K := by omega
                  rw [← this]; exact hc.2
                · simp at h
              · split at h
                · simp only [Prod.mk.injEq] at h; rw [← h.1] at h4; exact absurd h4 (by simp)
                · split at h
                  · simp only [Prod.mk.injEq] at h; rw [← h.1] at h4; exact absurd h4 (by simp)
                  · simp at h
        have hz1 : ((⟨#[34]⟩ : ByteArray) ++ s.extract (j + 1) K ++ ⟨#[34]⟩).size = K + 1 - j := by
          rw [ByteArray.size_append, ByteArray.size_append, size_ext (by omega)]
          show 1 + (K - (j + 1)) + 1 = _
          omega
        apply ba_B
        · rw [hz1, size_ext hz]; omega
        · intro m hm
          rw [hz1] at hm
          rw [B_extract (by omega) hz, B_app _ _ _ (by rw [hz1]; exact hm)]
          have e1 : (⟨#[34]⟩ : ByteArray).size = 1 := rfl
          rw [ByteArray.size_append, size_ext (by omega), e1]
          by_cases m0 : m = 0
          · subst m0
            rw [if_pos (by omega), B_app _ _ _ (by rw [ByteArray.size_append, size_ext (by omega), e1]; omega), if_pos (by omega), Nat.add_zero, hq.1]; rfl
          · by_cases mK : m = K - j
            · rw [if_neg (by omega), mK, show j + (K - j) = K from by omega, hq.2, show K - j - (1 + (K - (j + 1))) = 0 from by omega]; rfl
            · rw [if_pos (by omega), B_app _ _ _ (by rw [ByteArray.size_append, size_ext (by omega), e1]; omega), if_neg (by omega), B_extract (by omega) (by omega), e1]
              congr 1; omega
      · have hs' : x.k = 1 ∨ x.k = 3 ∨ x.k = 5 := by omega
        rw [wtxt_t (by omega) (by omega) h4]
        have := one_text (s := s) (j := j) (by rw [h]; exact hs')
        rw [h] at this
        exact this
    apply one_write
    rw [hw, hp]
  · apply one_write
    obtain ⟨k, t, n'⟩ := x
    simp only at h2 ht hn0 hn1 ⊢
    subst h2 ht
    rw [wtxt_2]
    exact one_itoa hn0 hn1

theorem one_zero {s : ByteArray} {j : Nat} (h : (one s j).2.2 = 0) (hk : (one s j).1.k = 0) : (one s j).1 = Tk.zero := by
  unfold one at h hk ⊢
  split at h
  · rename_i c; rw [if_pos c]
  · rename_i c
    rw [if_neg c] at hk ⊢
    split at h
    · rename_i hl
      rw [if_pos hl] at hk
      simp only at h hk
      split at h
      · simp at h
      · rename_i h32; rw [if_neg h32] at hk; simp at hk
    · rename_i hl
      rw [if_neg hl] at hk
      split at h
      · rename_i hd
        rw [if_pos hd] at hk
        have : numTok s j = ((numTok s j).1, (numTok s j).2.1, 0) := by rw [← h]
        rcases numTok_k2 this with q | q <;> omega
      · rename_i hd
        rw [if_neg hd] at hk
        split at h
        · rename_i hq
          rw [if_pos hq] at hk
          simp only at h hk
          split at h
          · rename_i hc; rw [if_pos hc] at hk; simp at hk
          · simp at h
        · rename_i hq
          rw [if_neg hq] at hk
          split at h
          · rename_i hm; rw [if_pos hm] at hk; simp at hk
          · rename_i hm
            rw [if_neg hm] at hk
            split at h
            · rename_i h1; rw [if_pos h1] at hk; simp at hk
            · simp at h
theorem one_end {s : ByteArray} {j : Nat} (h : (one s j).2.2 = 0) (hk : (one s j).1.k = 0) (hj : j ≤ s.size) : j = s.size := by
  unfold one at h hk
  split at h
  · omega
  · rename_i c
    rw [if_neg c] at hk
    split at h
    · rename_i hl
      rw [if_pos hl] at hk
      simp only at h hk
      split at h
      · simp at h
      · rename_i h32; rw [if_neg h32] at hk; simp at hk
    · rename_i hl
      rw [if_neg hl] at hk
      split at h
      · rename_i hd
        rw [if_pos hd] at hk
        have : numTok s j = ((numTok s j).1, (numTok s j).2.1, 0) := by rw [← h]
        rcases numTok_k2 this with q | q <;> omega
      · rename_i hd
        rw [if_neg hd] at hk
        split at h
        · rename_i hq
          rw [if_pos hq] at hk
          simp only at h hk
          split at h
          · rename_i hc; rw [if_pos hc] at hk; simp at hk
          · simp at h
        · rename_i hq
          rw [if_neg hq] at hk
          split at h
          · rename_i hm; rw [if_pos hm] at hk; simp at hk
          · rename_i hm
            rw [if_neg hm] at hk
            split at h
            · rename_i h1; rw [if_pos h1] at hk; simp at hk
            · simp at h
theorem one_tsize {s : ByteArray} {j : Nat} (hj : j ≤ s.size) : (one s j).1.t.size ≤ s.size := by
  have key : ∀ a b, (s.extract a b).size ≤ s.size := fun a b => by rw [ByteArray.size_extract]; omega
  have hz : (Tk.zero).t.size ≤ s.size := Nat.zero_le _
  unfold one
  split
  · exact hz
  · split
    · simp only; split
      · exact hz
      · exact key _ _
    · split
      · unfold numTok
        simp only
        split
        · split
          · exact hz
          · exact key _ _
        · split
          · exact hz
          · exact Nat.zero_le _
      · split
        · simp only; split
          · exact key _ _
          · exact hz
        · split
          · exact key _ _
          · split
            · exact key _ _
            · exact hz

/-- tokens lie from here on to the end, with nothing else between them than what is passed by -/
inductive Lies (s : ByteArray) : Nat → List Tk → Prop
  | nil (i : Nat) (h : skip s i = s.size) : Lies s i []
  | cons (i j : Nat) (x : Tk) (n : Nat) (r : List Tk) (hj : skip s i = j) (h : one s j = (x, j + n, 0)) (hk : x.k ≠ 0) (hr : Lies s (j + n) r) : Lies s i (x :: r)

theorem Lies.skipped {s : ByteArray} {i i' : Nat} {L : List Tk} (h : Lies s i L) (e : skip s i = skip s i') : Lies s i' L := by
  cases h with
  | nil _ h => exact .nil _ (by rw [← e]; exact h)
  | cons _ j x n r hj h hk hr => exact .cons _ j x n r (by rw [← e]; exact hj) h hk hr

/-- then scanning comes to them -/
theorem Lies.scanF {s : ByteArray} {L : List Tk} {i : Nat} (h : Lies s i L) : ∀ f, i ≤ s.size → Bd s i → s.size - i < f → (scanF s f i).2.1 = 0 ∧ (Go.Proofs.YtgaanohloocokaaDoor.scanF s f i).1.map (·.t) = L ++ [Tk.zero] := by
  induction h with
  | nil i h =>
    intro f hi hB hf
    obtain ⟨f, rfl⟩ : ∃ m, f = m + 1 := ⟨f - 1, by omega⟩
    unfold Go.Proofs.YtgaanohloocokaaDoor.scanF
    simp only
    rw [h, one_past]
    simp [Tk.zero, mkTp]
  | cons i j x n r hj h hk hr ih =>
    intro f hi hB hf
    obtain ⟨f, rfl⟩ : ∃ m, f = m + 1 := ⟨f - 1, by omega⟩
    have hij : i ≤ j := by rw [← hj]; exact skip_ge hi
    have hjs : j ≤ s.size := by rw [← hj]; exact skip_le hi
    have hBj : Bd s j := by rw [← hj]; exact skip_Bd hi hB
    have hsp := one_spec s j hjs hBj
    rw [h] at hsp
    have hlt : j < j + n := hsp.2.2.2 rfl hk
    have hle : j + n ≤ s.size := hsp.2.1
    obtain ⟨a, b⟩ := ih f hle hsp.2.2.1 (by omega)
    unfold Go.Proofs.YtgaanohloocokaaDoor.scanF
    simp only
    rw [hj, h]
    simp only [ne_eq, not_true_eq_false, if_false, if_neg hk, if_pos a]
    exact ⟨trivial, by rw [List.map_cons, b]; rfl⟩
theorem Lies.scan {s : ByteArray} {L : List Tk} (h : Lies s 0 L) : (scan s).2.1 = 0 ∧ (Go.Proofs.YtgaanohloocokaaDoor.scan s).1.map (·.t) = L ++ [Tk.zero] :=
  h.scanF (s.size + 1) (Nat.zero_le _) (Bd_zero s) (by omega)
/-- and what scanning comes to lies there -/
theorem lies_of_scanF {s : ByteArray} : ∀ f i, i ≤ s.size → Bd s i → s.size - i < f → (scanF s f i).2.1 = 0 → ∃ L, (scanF s f i).1.map (·.t) = L ++ [Tk.zero] ∧ Lies s i L := by
  intro f
  induction f with
  | zero => intro i _ _ h; omega
  | succ f ih =>
    intro i hi hB hf h
    obtain ⟨j, hj⟩ : ∃ j, skip s i = j := ⟨_, rfl⟩
    have hij : i ≤ j := by rw [← hj]; exact skip_ge hi
    have hjs : j ≤ s.size := by rw [← hj]; exact skip_le hi
    have hBj : Bd s j := by rw [← hj]; exact skip_Bd hi hB
    have hsp := one_spec s j hjs hBj
    unfold scanF at h ⊢
    simp only at h ⊢
    rw [hj] at h ⊢
    split at h
    · rename_i he; exact absurd h he
    · rename_i he
      rw [if_neg he]
      have he0 : (one s j).2.2 = 0 := by simpa using he
      split at h
      · rename_i hk0
        rw [if_pos hk0]
        refine ⟨[], ?_, .nil _ ?_⟩
        · have : (one s j).1 = Tk.zero := one_zero he0 hk0
          simp [mkTp, this]
        · rw [hj]; exact one_end he0 hk0 hjs
      · rename_i hk0
        rw [if_neg hk0]
        have hlt := hsp.2.2.2 he0 hk0
        split at h
        · rename_i hR
          rw [if_pos hR]
          obtain ⟨L, h1, h2⟩ := ih (one s j).2.1 hsp.2.1 hsp.2.2.1 (by omega) hR
          refine ⟨(one s j).1 :: L, by rw [List.map_cons, h1]; rfl, .cons i j (one s j).1 ((one s j).2.1 - j) L hj ?_ hk0 ?_⟩
          · rw [show j + ((one s j).2.1 - j) = (one s j).2.1 from by omega, ← he0]
          · rw [show j + ((one s j).2.1 - j) = (one s j).2.1 from by omega]; exact h2
        · rename_i hR; exact absurd h hR
theorem lies_of_scan {s : ByteArray} (h : (scan s).2.1 = 0) : ∃ L, (scan s).1.map (·.t) = L ++ [Tk.zero] ∧ Lies s 0 L :=
  lies_of_scanF (s.size + 1) 0 (Nat.zero_le _) (Bd_zero s) (by omega) h
theorem Lies.writes {s : ByteArray} {L : List Tk} {i : Nat} (h : Lies s i L) : i ≤ s.size → Bd s i → ∀ x ∈ L, writeB x.k x.n x.t = true ∧ x.k ≠ 0 ∧ x.t.size ≤ s.size := by
  induction h with
  | nil i h => intro _ _ x hx; cases hx
  | cons i j x n r hj h hk hr ih =>
    intro hi hB y hy
    have hjs : j ≤ s.size := by rw [← hj]; exact skip_le hi
    have hBj : Bd s j := by rw [← hj]; exact skip_Bd hi hB
    have hsp := one_spec s j hjs hBj
    rw [h] at hsp
    have hle : j + n ≤ s.size := hsp.2.1
    rcases List.mem_cons.1 hy with rfl | hy
    · refine ⟨one_writes h hk hle, hk, ?_⟩
      have := one_tsize (s := s) (j := j) hjs
      rw [h] at this
      exact this
    · exact ih hle hsp.2.2.1 y hy

/-- the bytes of a text stand here -/
def Stands (s : ByteArray) (p : Nat) (t : ByteArray) : Prop := p + t.size ≤ s.size ∧ ∀ j, j < t.size → B s (p + j) = B t j
theorem Stands.left {s a b : ByteArray} {p : Nat} (h : Stands s p (a ++ b)) : Stands s p a := by
  obtain ⟨h1, h2⟩ := h
  rw [ByteArray.size_append] at h1
  refine ⟨by omega, fun j hj => ?_⟩
  have hz : j < (a ++ b).size := by rw [ByteArray.size_append]; omega
  rw [h2 j hz, B_app _ _ _ hz, if_pos hj]
theorem Stands.right {s a b : ByteArray} {p : Nat} (h : Stands s p (a ++ b)) : Stands s (p + a.size) b := by
  obtain ⟨h1, h2⟩ := h
  rw [ByteArray.size_append] at h1
  refine ⟨by omega, fun j hj => ?_⟩
  have hz : a.size + j < (a ++ b).size := by rw [ByteArray.size_append]; omega
  rw [Nat.add_assoc, h2 _ hz, B_app _ _ _ hz, if_neg (by omega), show a.size + j - a.size = j from by omega]
theorem Stands.self (s : ByteArray) : Stands s 0 s := ⟨by omega, fun j _ => by rw [Nat.zero_add]⟩
/-- a gap is passed by -/
def Gap (g : ByteArray) : Prop := ∀ s p, Stands s p g → skip s p = skip s (p + g.size)
/-- what may stand behind a token -/
def Sep (u : ByteArray) : Prop := 0 < u.size → isWord (B u 0) = false ∧ B u 0 ≠ 46
/-- gaps and tokens, one behind the other, and a last gap -/
def asm : List (ByteArray × Tk × ByteArray) → ByteArray → ByteArray
  | [], z => z
  | (g, _, t) :: r, z => g ++ (t ++ asm r z)
def Good : List (ByteArray × Tk × ByteArray) → ByteArray → Prop
  | [], z => Gap z
  | (g, x, t) :: r, z => Gap g ∧ x.k ≠ 0 ∧ one t 0 = (x, t.size, 0) ∧ Sep (asm r z) ∧ Good r z
theorem lies_asm {s z : ByteArray} : ∀ (r : List (ByteArray × Tk × ByteArray)) (p : Nat), Good r z → Stands s p (asm r z) → p + (asm r z).size = s.size → Lies s p (r.map (·.2.1)) := by
  intro r
  induction r with
  | nil =>
    intro p hg hs hz
    refine .nil _ ?_
    rw [hg s p hs]
    show skip s (p + (asm [] z).size) = _
    rw [hz]
    exact skip_out (by omega)
  | cons y r ih =>
    obtain ⟨g, x, t⟩ := y
    intro p hg hs hz
    obtain ⟨h1, h2, h3, h4, h5⟩ := hg
    have hs1 : Stands s p (g ++ (t ++ asm r z)) := hs
    have sg := hs1.left
    have st := hs1.right.left
    have sr := hs1.right.right
    have hz2 : p + g.size + t.size + (asm r z).size = s.size := by
      have : p + (g ++ (t ++ asm r z)).size = s.size := hz
      rw [ByteArray.size_append, ByteArray.size_append] at this
      omega
    have hone : one s (p + g.size) = (x, p + g.size + t.size, 0) := by
      have h3' : one t 0 = (x, 0 + t.size, 0) := by rw [h3, Nat.zero_add]
      refine one_loc h3' h2 ⟨by omega, st.1, fun j hj => by rw [Nat.zero_add]; exact (st.2 j hj).symm⟩ ⟨fun hh => Or.inr ?_, fun hh he => ?_⟩
      · have hp : 0 < (asm r z).size := by omega
        have := sr.2 0 hp
        rw [Nat.add_zero] at this
        rw [this]
        exact h4 hp
      · have hp : 0 < (asm r z).size := by omega
        have := sr.2 0 hp
        rw [Nat.add_zero] at this
        rw [this] at he
        exact absurd he (h4 hp).2
    have hst := one_start (s := s) (i := p + g.size) (by rw [hone]) (by rw [hone]; exact h2)
    refine .cons p (p + g.size) x t.size _ ?_ hone h2 (ih _ h5 sr hz2)
    rw [h1 s p sg]
    exact skip_stop hst.2.1 hst.2.2
/-- WHAT IS PUT TOGETHER OF TOKENS AND GAPS IS CUT INTO THE TOKENS. -/
theorem scan_asm {r : List (ByteArray × Tk × ByteArray)} {z : ByteArray} (h : Good r z) : (scan (asm r z)).2.1 = 0 ∧ (scan (asm r z)).1.map (·.t) = r.map (·.2.1) ++ [Tk.zero] :=
  (lies_asm r 0 h (Stands.self _) (Nat.zero_add _)).scan

theorem gap_nil : Gap ⟨#[]⟩ := fun s p _ => by
  show skip s p = skip s (p + 0)
  rw [Nat.add_zero]
theorem Gap.app {a b : ByteArray} (ha : Gap a) (hb : Gap b) : Gap (a ++ b) := fun s p h => by
  rw [ha s p h.left, hb s _ h.right, ByteArray.size_append, Nat.add_assoc]
theorem gap_blank {c : UInt8} (h : isBlank c.toNat = true) : Gap ⟨#[c]⟩ := fun s p q => by
  have h0 := q.2 0 (by show 0 < 1; omega)
  have hz : p + 1 ≤ s.size := q.1
  rw [Nat.add_zero] at h0
  exact skip_blank (by omega) (by rw [h0]; exact h)
theorem gap_com {g : ByteArray} {n : Nat} (hn : g.size = n + 3) (h0 : B g 0 = 47) (h1 : B g 1 = 47) (hm : ∀ j, j < n + 2 → B g j ≠ 10) (he : B g (n + 2) = 10) : Gap g := fun s p q => by
  obtain ⟨hz, hb⟩ := q
  have b0 := hb 0 (by omega)
  have b1 := hb 1 (by omega)
  have be := hb (n + 2) (by omega)
  rw [Nat.add_zero, h0] at b0
  rw [h1] at b1
  rw [he] at be
  have hmany : many notNl s p = p + (n + 2) := by
    refine many_eq rfl (by omega) (by omega) ?_ ?_
    · intro j hj1 hj2
      have := hb (j - p) (by omega)
      rw [show p + (j - p) = j from by omega] at this
      have h2 := hm (j - p) (by omega)
      rw [← this] at h2
      simp [notNl, h2]
    · intro _; rw [be]; rfl
  rw [skip_com (by omega) (by rw [b0]; rfl) (by unfold isCom; rw [b0, b1, decide_eq_true (show p + 1 < s.size by omega)]; rfl), hmany, skip_blank (by omega) (by rw [be]; rfl), hn]
  rfl

/-- the gaps that the law lays between tokens -/
def GP (n : Nat) : ByteArray := match n with | 0 => ⟨#[32]⟩ | 1 => ⟨#[10]⟩ | 2 => ⟨#[32, 47, 47, 32, 34, 32, 59, 10]⟩ | 3 => ⟨#[9, 13, 32]⟩ | _ => ⟨#[47, 47, 10, 47, 47, 255, 10]⟩
theorem gap_GP (n : Nat) : Gap (GP n) := by
  unfold GP
  split
  · exact gap_blank rfl
  · exact gap_blank rfl
  · exact Gap.app (a := ⟨#[32]⟩) (b := ⟨#[47, 47, 32, 34, 32, 59, 10]⟩) (gap_blank rfl) (gap_com (n := 4) rfl rfl rfl (by decide) rfl)
  · exact Gap.app (a := ⟨#[9]⟩) (b := ⟨#[13, 32]⟩) (gap_blank rfl) (Gap.app (a := ⟨#[13]⟩) (b := ⟨#[32]⟩) (gap_blank rfl) (gap_blank rfl))
  · exact Gap.app (a := ⟨#[47, 47, 10]⟩) (b := ⟨#[47, 47, 255, 10]⟩) (gap_com (n := 0) rfl rfl rfl (by decide) rfl) (gap_com (n := 1) rfl rfl rfl (by decide) rfl)
/-- the first byte of a gap ends a token -/
def SepG (g : ByteArray) : Prop := 0 < g.size ∧ isWord (B g 0) = false ∧ B g 0 ≠ 46
theorem sep_GP (n : Nat) : SepG (GP n) := by
  unfold GP SepG
  split <;> decide
theorem SepG.sep {g u : ByteArray} (h : SepG g) : Sep (g ++ u) := fun hz => by
  rw [B_app _ _ _ hz, if_pos h.1]
  exact h.2

def tkq (x : Tq) : Tk := ⟨x.k, x.t, x.n⟩
def qtk (x : Tk) : Tq := ⟨x.k, x.t, x.n, 0, 0, 0⟩
def plainQ (x : Tq) : Tq := ⟨x.k, x.t, x.n, 0, 0, 0⟩
def endsQ (l : List Tq) : Bool := match l.getLast? with | some x => x.k == 0 | none => false
theorem wq_nil {x : Tq} (h : x.k = 0) (hw : writeB x.k x.n x.t = true) : wq x = ⟨#[]⟩ ∧ tkq x = Tk.zero := by
  have h1 := write_one hw
  obtain ⟨k, t, n, o, l, c⟩ := x
  simp only at h hw h1
  subst h
  rw [wtxt_0, one_nil] at h1
  simp only [Prod.mk.injEq] at h1
  exact ⟨rfl, h1.1.symm⟩
def tlA : List Tq → ByteArray
  | [] => ⟨#[]⟩
  | y :: r => ⟨#[32]⟩ ++ (wq y ++ tlA r)
theorem joinA_cons (x : Tq) (r : List Tq) : joinA (x :: r) = wq x ++ tlA r := by
  apply ba_ext
  unfold joinA joinL
  simp only [List.map_cons, Lib.join_cons, ByteArray.data_append, Array.toList_append]
  congr 1
  induction r with
  | nil => rfl
  | cons y r ih =>
    show Lib.joinTail [32] ((wq y).data.toList :: _) = _
    unfold tlA
    simp only [Lib.joinTail, List.map_cons, List.flatten_cons, ByteArray.data_append, Array.toList_append] at ih ⊢
    rw [ih]
    rfl
theorem back_asm : ∀ (r : List Tq) (x : Tq) (g : ByteArray), jBad (x :: r) = false → Gap g →
    ∃ rr z, g ++ (wq x ++ tlA r) = asm rr z ∧ Good rr z ∧ rr.map (·.2.1) ++ [Tk.zero] = (x :: r).map tkq ++ (if endsQ (x :: r) = true then [] else [Tk.zero]) := by
  intro r
  induction r with
  | nil =>
    intro x g hb hg
    have hw : writeB x.k x.n x.t = true := by
      unfold jBad badQ at hb
      cases hw : writeB x.k x.n x.t with
      | true => rfl
      | false => rw [hw] at hb; simp at hb
    by_cases hk : x.k = 0
    · obtain ⟨h1, h2⟩ := wq_nil hk hw
      refine ⟨[], g, ?_, hg, ?_⟩
      · rw [h1]; apply ba_ext; simp [tlA, asm]
      · rw [show endsQ [x] = true from by simp [endsQ, hk]]
        simp [h2]
    · refine ⟨[(g, tkq x, wq x)], ⟨#[]⟩, rfl, ⟨hg, hk, write_one hw, fun h => absurd h (by show ¬ 0 < 0; omega), gap_nil⟩, ?_⟩
      rw [show endsQ [x] = false from by simp [endsQ, hk]]
      simp
  | cons y r ih =>
    intro x g hb hg
    have hb1 : badQ x (y :: r).length = false ∧ jBad (y :: r) = false := by
      unfold jBad at hb
      simpa using hb
    have hw : writeB x.k x.n x.t = true ∧ x.k ≠ 0 := by
      have := hb1.1
      unfold badQ at this
      simpa using this
    obtain ⟨rr, z, h1, h2, h3⟩ := ih y ⟨#[32]⟩ hb1.2 (gap_blank rfl)
    refine ⟨(g, tkq x, wq x) :: rr, z, ?_, ⟨hg, hw.2, write_one hw.1, ?_, h2⟩, ?_⟩
    · show g ++ (wq x ++ (⟨#[32]⟩ ++ (wq y ++ tlA r))) = g ++ (wq x ++ asm rr z)
      rw [h1]
    · rw [← h1]; exact SepG.sep (sep_GP 0)
    · rw [List.map_cons, List.cons_append, h3]
      rw [show endsQ (x :: y :: r) = endsQ (y :: r) from by simp [endsQ]]
      rfl
theorem scan_joined (l : List Tq) (h : jBad l = false) : (scan (joinA l)).2.1 = 0 ∧ (scan (joinA l)).1.map (·.t) = l.map tkq ++ (if endsQ l = true then [] else [Tk.zero]) := by
  cases l with
  | nil => rw [joinA_nil, scan_nil]; exact ⟨rfl, rfl⟩
  | cons x r =>
    obtain ⟨rr, z, h1, h2, h3⟩ := back_asm r x ⟨#[]⟩ h gap_nil
    have h4 : joinA (x :: r) = asm rr z := by
      rw [← h1, joinA_cons]
      apply ba_ext; simp
    rw [h4]
    obtain ⟨a, b⟩ := scan_asm h2
    exact ⟨a, by rw [b, h3]⟩

/-- tokens, each with a gap behind it -/
def catS : List (ByteArray × ByteArray) → ByteArray
  | [] => ⟨#[]⟩
  | (t, g) :: r => t ++ (g ++ catS r)
theorem silent_asm (ge : ByteArray) (hge : Gap ge) : ∀ (L : List (Tk × ByteArray)) (g : ByteArray), Gap g → SepG g → (∀ y ∈ L, Gap y.2 ∧ SepG y.2 ∧ writeB y.1.k y.1.n y.1.t = true ∧ y.1.k ≠ 0) →
    ∃ rr z, g ++ catS (L.map (fun y => (wq (qtk y.1), y.2)) ++ [(⟨#[]⟩, ge)]) = asm rr z ∧ Good rr z ∧ rr.map (·.2.1) = L.map (·.1) := by
  intro L
  induction L with
  | nil =>
    intro g hg _ _
    refine ⟨[], g ++ ge, ?_, hg.app hge, rfl⟩
    apply ba_ext
    simp [catS, asm]
  | cons y L ih =>
    intro g hg hs hL
    obtain ⟨a, b, c, d⟩ := hL y (by simp)
    obtain ⟨rr, z, h1, h2, h3⟩ := ih y.2 a b (fun q hq => hL q (List.mem_cons_of_mem _ hq))
    refine ⟨(g, y.1, wq (qtk y.1)) :: rr, z, ?_, ⟨hg, d, write_one c, ?_, h2⟩, by rw [List.map_cons, List.map_cons, h3]⟩
    · rw [List.map_cons, List.cons_append]
      show g ++ (wq (qtk y.1) ++ (y.2 ++ catS _)) = g ++ (wq (qtk y.1) ++ asm rr z)
      rw [h1]
    · rw [← h1]; exact b.sep

end Go.Proofs.YtgaanohloocokaaDoor
