/-
  Plain words and laws of the token layer: places, runes, the scanner, names, writing, rows and joining. No program in sight.
-/
import Derived.Lib.DecodeN
import Derived.Lib.RuneCountTail
import Derived.RowKit3
import GoSem.Step
import Derived.Laws.Strings
import Derived.Lib.IndexLaws
import Derived.Lib.AtoiAll
import Derived.Lib.ItoaLen
import Derived.Lib.ItoaMem
import Derived.Lib.Join
import Derived.KernelRfl
-- A: Plain words: bytes of a text, letters, digits, spots. 
namespace Go.Proofs.YtgaanohloocokaaDoor
open Go.RowKit

theorem ret_bool {a b : Bool} (h : a = b) : Ending.returned (.bool a) = .returned (.bool b) := by rw [h]
theorem ret_int {k : IntKind} {a b : Int} (h : a = b) : Ending.returned (.int k a) = .returned (.int k b) := by rw [h]

def isDig (c : Nat) : Bool := decide (48 ≤ c) && decide (c ≤ 57)
def isLet (c : Nat) : Bool := decide (97 ≤ c) && decide (c ≤ 122) || (decide (65 ≤ c) && decide (c ≤ 90) || c == 95)

/-- the byte at a place -/
def B (s : ByteArray) (i : Nat) : Nat := (s.get! i).toNat
theorem B_lt (s : ByteArray) (i : Nat) : B s i < 256 := UInt8.toNat_lt _
theorem B_eq (s : ByteArray) (i : Nat) (h : i < s.size) : (s[i]).toNat = B s i := by
  unfold B
  show (s.data[i]).toNat = (s.data[i]!).toNat
  rw [getElem!_pos s.data i h]

def moreB (s : ByteArray) (i lo hi : Nat) : Bool := decide (i < s.size) && (decide (lo ≤ B s i) && decide (B s i ≤ hi))

/-- phasorref04.size: how many bytes the rune at a place has -/
def rsz (s : ByteArray) (i : Nat) : Nat :=
  let c := B s i
  if (decide (194 ≤ c) && decide (c ≤ 223) && moreB s (i + 1) 128 191) = true then 2
  else if (c == 224 && moreB s (i + 1) 160 191 && moreB s (i + 2) 128 191) = true then 3
  else if (c == 237 && moreB s (i + 1) 128 159 && moreB s (i + 2) 128 191) = true then 3
  else if (decide (225 ≤ c) && decide (c ≤ 239) && c != 237 && moreB s (i + 1) 128 191 && moreB s (i + 2) 128 191) = true then 3
  else if (c == 240 && moreB s (i + 1) 144 191 && moreB s (i + 2) 128 191 && moreB s (i + 3) 128 191) = true then 4
  else if (decide (241 ≤ c) && decide (c ≤ 243) && moreB s (i + 1) 128 191 && moreB s (i + 2) 128 191 && moreB s (i + 3) 128 191) = true then 4
  else if (c == 244 && moreB s (i + 1) 128 143 && moreB s (i + 2) 128 191 && moreB s (i + 3) 128 191) = true then 4
  else 1

end Go.Proofs.YtgaanohloocokaaDoor

-- B: Plain words: runes and spots. 
namespace Go.Proofs.YtgaanohloocokaaDoor
open Go.RowKit

/-- the width of the rune that begins at a place -/
def wd (s : ByteArray) (i : Nat) : Nat := (Utf8.decode s i).2

theorem slow2 {n b0 b1 b2 b3 lo hi : Nat} (h : 1 < n ∧ lo ≤ b1 ∧ b1 ≤ hi) : 2 = (Lib.slowN n b0 b1 b2 b3 2 lo hi).2 := by
  unfold Lib.slowN; rw [if_neg (by omega), if_neg (by omega), if_pos (by omega)]
theorem slow2n {n b0 b1 b2 b3 lo hi : Nat} (h : ¬ (1 < n ∧ lo ≤ b1 ∧ b1 ≤ hi)) : 1 = (Lib.slowN n b0 b1 b2 b3 2 lo hi).2 := by
  unfold Lib.slowN
  by_cases a : n < 2
  · rw [if_pos a]
  · rw [if_neg a, if_pos (by omega)]
theorem slow3 {n b0 b1 b2 b3 lo hi : Nat} (h : 1 < n ∧ lo ≤ b1 ∧ b1 ≤ hi) (h2 : 2 < n ∧ 128 ≤ b2 ∧ b2 ≤ 191) : 3 = (Lib.slowN n b0 b1 b2 b3 3 lo hi).2 := by
  unfold Lib.slowN; rw [if_neg (by omega), if_neg (by omega), if_neg (by omega), if_neg (by omega), if_pos (by omega)]
theorem slow3n {n b0 b1 b2 b3 lo hi : Nat} (h : ¬ ((1 < n ∧ lo ≤ b1 ∧ b1 ≤ hi) ∧ (2 < n ∧ 128 ≤ b2 ∧ b2 ≤ 191))) : 1 = (Lib.slowN n b0 b1 b2 b3 3 lo hi).2 := by
  unfold Lib.slowN
  by_cases a : n < 3
  · rw [if_pos a]
  · rw [if_neg a]
    by_cases b : b1 < lo ∨ hi < b1
    · rw [if_pos b]
    · rw [if_neg b, if_neg (by omega), if_pos (by omega)]
theorem slow4 {n b0 b1 b2 b3 lo hi : Nat} (h : 1 < n ∧ lo ≤ b1 ∧ b1 ≤ hi) (h2 : 2 < n ∧ 128 ≤ b2 ∧ b2 ≤ 191) (h3 : 3 < n ∧ 128 ≤ b3 ∧ b3 ≤ 191) : 4 = (Lib.slowN n b0 b1 b2 b3 4 lo hi).2 := by
  unfold Lib.slowN; rw [if_neg (by omega), if_neg (by omega), if_neg (by omega), if_neg (by omega), if_neg (by omega), if_neg (by omega)]
theorem slow4n {n b0 b1 b2 b3 lo hi : Nat} (h : ¬ ((1 < n ∧ lo ≤ b1 ∧ b1 ≤ hi) ∧ (2 < n ∧ 128 ≤ b2 ∧ b2 ≤ 191) ∧ (3 < n ∧ 128 ≤ b3 ∧ b3 ≤ 191))) : 1 = (Lib.slowN n b0 b1 b2 b3 4 lo hi).2 := by
  unfold Lib.slowN
  by_cases a : n < 4
  · rw [if_pos a]
  · rw [if_neg a]
    by_cases b : b1 < lo ∨ hi < b1
    · rw [if_pos b]
    · rw [if_neg b, if_neg (by omega)]
      by_cases c : b2 < 128 ∨ 191 < b2
      · rw [if_pos c]
      · rw [if_neg c, if_neg (by omega), if_pos (by omega)]

set_option maxHeartbeats 4000000 in
set_option maxRecDepth 100000 in
theorem rsz_eq (s : ByteArray) (i : Nat) (h : i < s.size) : rsz s i = wd s i := by
  have h0 := B_lt s i
  have h1 := B_lt s (i + 1)
  have h2 := B_lt s (i + 2)
  have h3 := B_lt s (i + 3)
  unfold wd
  rw [Lib.decode_at]
  unfold B at h0 h1 h2 h3
  unfold rsz moreB B
  generalize (s.get! i).toNat = b0 at *
  generalize (s.get! (i + 1)).toNat = b1 at *
  generalize (s.get! (i + 2)).toNat = b2 at *
  generalize (s.get! (i + 3)).toNat = b3 at *
  have c1 : (i + 1 < s.size) = (1 < s.size - i) := propext ⟨fun h => by omega, fun h => by omega⟩
  have c2 : (i + 2 < s.size) = (2 < s.size - i) := propext ⟨fun h => by omega, fun h => by omega⟩
  have c3 : (i + 3 < s.size) = (3 < s.size - i) := propext ⟨fun h => by omega, fun h => by omega⟩
  simp only [c1, c2, c3]
  have hn : 1 ≤ s.size - i := by omega
  generalize s.size - i = n at *
  clear c1 c2 c3 h
  simp only [Bool.and_eq_true, decide_eq_true_eq, beq_iff_eq, bne_iff_ne, ne_eq]
  have key : b0 < 194 ∨ 245 ≤ b0 ∨ (194 ≤ b0 ∧ b0 < 224) ∨ b0 = 224 ∨ ((225 ≤ b0 ∧ b0 < 237) ∨ (238 ≤ b0 ∧ b0 < 240)) ∨ b0 = 237 ∨ b0 = 240 ∨ (241 ≤ b0 ∧ b0 < 244) ∨ b0 = 244 := by omega
  rcases key with k | k | k | k | k | k | k | k | k
  · have e : (Lib.decodeN n b0 b1 b2 b3).2 = 1 := by
      unfold Lib.decodeN
      by_cases ha : b0 < 128
      · rw [if_pos ha]
      · rw [if_neg ha]
        by_cases h6 : b0 / 32 = 6 ∧ (1 < n ∧ b1 / 64 = 2)
        · rw [if_pos h6, if_neg (by omega)]
        · rw [if_neg h6, if_neg (by omega), if_neg (by omega)]
    rw [e, if_neg (by omega), if_neg (by omega), if_neg (by omega), if_neg (by omega), if_neg (by omega), if_neg (by omega), if_neg (by omega)]
  · have e : (Lib.decodeN n b0 b1 b2 b3).2 = 1 := by
      unfold Lib.decodeN
      rw [if_neg (by omega), if_neg (by omega), if_neg (by omega)]
      by_cases h6 : b0 / 8 = 30 ∧ (1 < n ∧ b1 / 64 = 2) ∧ (2 < n ∧ b2 / 64 = 2) ∧ (3 < n ∧ b3 / 64 = 2)
      · rw [if_pos h6, if_neg (by omega)]
      · rw [if_neg h6]
    rw [e, if_neg (by omega), if_neg (by omega), if_neg (by omega), if_neg (by omega), if_neg (by omega), if_neg (by omega), if_neg (by omega)]
  · rw [← Lib.slow_C2 n b0 b1 b2 b3 hn h1 h2 h3 k]
    clear hn
    split
    · rename_i h; exact slow2 (by omega)
    · rename_i h; rw [if_neg (by omega), if_neg (by omega), if_neg (by omega), if_neg (by omega), if_neg (by omega), if_neg (by omega)]; exact slow2n (fun q => h (by omega))
  · rw [← Lib.slow_E0 n b0 b1 b2 b3 hn h1 h2 h3 k]; rw [if_neg (by omega)]
    clear hn
    split
    · rename_i h; exact slow3 (by omega) (by omega)
    · rename_i h; rw [if_neg (by omega), if_neg (by omega), if_neg (by omega), if_neg (by omega), if_neg (by omega)]; exact slow3n (fun q => h (by omega))
  · rw [← Lib.slow_E1 n b0 b1 b2 b3 hn h1 h2 h3 k]; rw [if_neg (by omega), if_neg (by omega), if_neg (by omega)]
    clear hn
    split
    · rename_i h; exact slow3 (by omega) (by omega)
    · rename_i h; rw [if_neg (by omega), if_neg (by omega), if_neg (by omega)]; exact slow3n (fun q => h (by omega))
  · rw [← Lib.slow_ED n b0 b1 b2 b3 hn h1 h2 h3 k]; rw [if_neg (by omega), if_neg (by omega)]
    clear hn
    split
    · rename_i h; exact slow3 (by omega) (by omega)
    · rename_i h; rw [if_neg (by omega), if_neg (by omega), if_neg (by omega), if_neg (by omega)]; exact slow3n (fun q => h (by omega))
  · rw [← Lib.slow_F0 n b0 b1 b2 b3 hn h1 h2 h3 k]; rw [if_neg (by omega), if_neg (by omega), if_neg (by omega), if_neg (by omega)]
    clear hn
    split
    · rename_i h; exact slow4 (by omega) (by omega) (by omega)
    · rename_i h; rw [if_neg (by omega), if_neg (by omega)]; exact slow4n (fun q => h (by omega))
  · rw [← Lib.slow_F1 n b0 b1 b2 b3 hn h1 h2 h3 k]; rw [if_neg (by omega), if_neg (by omega), if_neg (by omega), if_neg (by omega), if_neg (by omega)]
    clear hn
    split
    · rename_i h; exact slow4 (by omega) (by omega) (by omega)
    · rename_i h; rw [if_neg (by omega)]; exact slow4n (fun q => h (by omega))
  · rw [← Lib.slow_F4 n b0 b1 b2 b3 hn h1 h2 h3 k]; rw [if_neg (by omega), if_neg (by omega), if_neg (by omega), if_neg (by omega), if_neg (by omega), if_neg (by omega)]
    clear hn
    split
    · rename_i h; exact slow4 (by omega) (by omega) (by omega)
    · rename_i h; exact slow4n (fun q => h (by omega))

theorem wd_pos (s : ByteArray) (i : Nat) (h : i < s.size) : 1 ≤ wd s i := by
  rw [← rsz_eq s i h]; unfold rsz
  simp only
  repeat' split
  all_goals omega

theorem rsz_le (s : ByteArray) (i : Nat) : rsz s i ≤ 4 := by
  unfold rsz
  simp only
  repeat' split
  all_goals omega

theorem wd_ascii (s : ByteArray) (i : Nat) (h : B s i < 128) : wd s i = 1 := by
  unfold wd; rw [Lib.decode_at]; unfold B at h; unfold Lib.decodeN; rw [if_pos h]

theorem dec_nl (s : ByteArray) (i : Nat) : (Utf8.decode s i).1 = 10 ↔ B s i = 10 := by
  rw [Lib.decode_at]
  have h1 := B_lt s (i + 1)
  have h2 := B_lt s (i + 2)
  have h3 := B_lt s (i + 3)
  unfold B at *
  generalize (s.get! i).toNat = b0 at *
  generalize (s.get! (i + 1)).toNat = b1 at *
  generalize (s.get! (i + 2)).toNat = b2 at *
  generalize (s.get! (i + 3)).toNat = b3 at *
  unfold Lib.decodeN
  repeat' split
  all_goals first | exact Iff.rfl | (simp only; omega)

/-- line and column, from a place on up to another -/
def adv (s : ByteArray) (off : Nat) : Nat → Nat → Int → Int → Int × Int
  | 0, _, l, c => (l, c)
  | f + 1, i, l, c => if i < off then (if B s i = 10 then adv s off f (i + wd s i) (l + 1) 1 else adv s off f (i + wd s i) l (c + 1)) else (l, c)
/-- from a place, a line and a column to the line and column of a later byte -/
def spot (s : ByteArray) (off i : Nat) (l c : Int) : Int × Int := adv s off (off - i) i l c

theorem adv_fuel (s : ByteArray) (off : Nat) (hoff : off ≤ s.size) : ∀ f g i l c, off - i ≤ f → off - i ≤ g → adv s off f i l c = adv s off g i l c := by
  intro f
  induction f with
  | zero =>
    intro g i l c h1 h2
    cases g with
    | zero => rfl
    | succ g => simp only [adv]; rw [if_neg (by omega)]
  | succ f ih =>
    intro g i l c h1 h2
    cases g with
    | zero => simp only [adv]; rw [if_neg (by omega)]
    | succ g =>
      simp only [adv]
      by_cases h : i < off
      · have := wd_pos s i (by omega)
        rw [if_pos h, if_pos h, ih g _ _ _ (by omega) (by omega), ih g _ _ _ (by omega) (by omega)]
      · rw [if_neg h, if_neg h]

theorem spot_stop (s : ByteArray) (off i : Nat) (l c : Int) (h : ¬ i < off) : spot s off i l c = (l, c) := by
  unfold spot; rw [show off - i = 0 from by omega]; rfl
theorem spot_step (s : ByteArray) (off i : Nat) (l c : Int) (h : i < off) (hoff : off ≤ s.size) :
    spot s off i l c = if B s i = 10 then spot s off (i + wd s i) (l + 1) 1 else spot s off (i + wd s i) l (c + 1) := by
  have := wd_pos s i (by omega)
  unfold spot
  obtain ⟨n, hn⟩ : ∃ n, off - i = n + 1 := ⟨off - i - 1, by omega⟩
  rw [hn]
  simp only [adv]
  rw [if_pos h, adv_fuel s off hoff n (off - (i + wd s i)) _ _ _ (by omega) (by omega), adv_fuel s off hoff n (off - (i + wd s i)) _ _ _ (by omega) (by omega)]
theorem spot_nl (s : ByteArray) (off i : Nat) (l c : Int) (h : i < off) (hoff : off ≤ s.size) (hb : B s i = 10) : spot s off i l c = spot s off (i + wd s i) (l + 1) 1 := by
  rw [spot_step s off i l c h hoff, if_pos hb]
theorem spot_ch (s : ByteArray) (off i : Nat) (l c : Int) (h : i < off) (hoff : off ≤ s.size) (hb : ¬ B s i = 10) : spot s off i l c = spot s off (i + wd s i) l (c + 1) := by
  rw [spot_step s off i l c h hoff, if_neg hb]

end Go.Proofs.YtgaanohloocokaaDoor

-- C: Plain words: rows of bytes, blanks and comments, tokens, scanning; rune boundaries. 
namespace Go.Proofs.YtgaanohloocokaaDoor
open Go.RowKit

/-- the first place from i on whose byte does not answer p, or the end -/
def runTo (p : Nat → Bool) (s : ByteArray) : Nat → Nat → Nat
  | 0, i => i
  | f + 1, i => if i < s.size ∧ p (B s i) = true then runTo p s f (i + 1) else i
def many (p : Nat → Bool) (s : ByteArray) (i : Nat) : Nat := runTo p s (s.size - i) i

theorem many_step {p : Nat → Bool} {s : ByteArray} {i : Nat} (h : i < s.size) (hp : p (B s i) = true) : many p s i = many p s (i + 1) := by
  unfold many
  obtain ⟨n, hn⟩ : ∃ n, s.size - i = n + 1 := ⟨s.size - i - 1, by omega⟩
  rw [hn, show s.size - (i + 1) = n from by omega]
  simp only [runTo]
  rw [if_pos ⟨h, hp⟩]
theorem many_stop {p : Nat → Bool} {s : ByteArray} {i : Nat} (h : ¬ (i < s.size ∧ p (B s i) = true)) : many p s i = i := by
  unfold many
  cases s.size - i with
  | zero => rfl
  | succ n => simp only [runTo]; rw [if_neg h]
theorem many_out {p : Nat → Bool} {s : ByteArray} {i : Nat} (h : ¬ i < s.size) : many p s i = i := many_stop (fun q => h q.1)
theorem many_no {p : Nat → Bool} {s : ByteArray} {i : Nat} (h : p (B s i) = false) : many p s i = i := many_stop (fun q => by rw [h] at q; exact absurd q.2 (by simp))

theorem many_all_spec (p : Nat → Bool) (s : ByteArray) : ∀ d i, s.size - i = d → i ≤ many p s i ∧ (i ≤ s.size → many p s i ≤ s.size) ∧ (∀ j, i ≤ j → j < many p s i → p (B s j) = true) ∧ (many p s i < s.size → p (B s (many p s i)) = false) := by
  intro d
  induction d with
  | zero =>
    intro i hd
    rw [many_out (by omega)]
    exact ⟨Nat.le_refl _, fun h => h, fun j h1 h2 => by omega, fun h => by omega⟩
  | succ d ih =>
    intro i hd
    cases hp : p (B s i) with
    | true =>
      rw [many_step (by omega) hp]
      obtain ⟨a, b, c, e⟩ := ih (i + 1) (by omega)
      refine ⟨by omega, fun h => b (by omega), fun j h1 h2 => ?_, e⟩
      by_cases hj : j = i
      · subst hj; exact hp
      · exact c j (by omega) h2
    | false =>
      rw [many_no hp]
      exact ⟨Nat.le_refl _, fun h => h, fun j h1 h2 => by omega, fun _ => hp⟩
theorem many_ge (p : Nat → Bool) (s : ByteArray) (i : Nat) : i ≤ many p s i := (many_all_spec p s _ i rfl).1
theorem many_le (p : Nat → Bool) (s : ByteArray) {i : Nat} (h : i ≤ s.size) : many p s i ≤ s.size := (many_all_spec p s _ i rfl).2.1 h
theorem many_all (p : Nat → Bool) (s : ByteArray) (i : Nat) {j : Nat} (h : i ≤ j) (h2 : j < many p s i) : p (B s j) = true := (many_all_spec p s _ i rfl).2.2.1 j h h2
theorem many_end (p : Nat → Bool) (s : ByteArray) (i : Nat) (h : many p s i < s.size) : p (B s (many p s i)) = false := (many_all_spec p s _ i rfl).2.2.2 h
/-- the place is the one -/
theorem many_eq {p : Nat → Bool} {s : ByteArray} : ∀ {d i e : Nat}, e - i = d → i ≤ e → e ≤ s.size → (∀ j, i ≤ j → j < e → p (B s j) = true) → (e < s.size → p (B s e) = false) → many p s i = e := by
  intro d
  induction d with
  | zero =>
    intro i e hd h1 h2 ha he
    obtain rfl : i = e := by omega
    exact many_stop (fun q => by rw [he q.1] at q; exact absurd q.2 (by simp))
  | succ d ih =>
    intro i e hd h1 h2 ha he
    rw [many_step (by omega) (ha i (Nat.le_refl _) (by omega))]
    exact ih (by omega) (by omega) h2 (fun j a b => ha j (by omega) b) he

def isBlank (c : Nat) : Bool := c == 32 || c == 9 || c == 10 || c == 13
def notNl (c : Nat) : Bool := c != 10
def isWord (c : Nat) : Bool := isLet c || isDig c
def inText (c : Nat) : Bool := c != 10 && c != 34
/-- does a comment begin here -/
def isCom (s : ByteArray) (i : Nat) : Bool := B s i == 47 && decide (i + 1 < s.size) && B s (i + 1) == 47

/-- over blanks and comments -/
def skipF (s : ByteArray) : Nat → Nat → Nat
  | 0, i => i
  | f + 1, i => if i < s.size then (if isBlank (B s i) = true then skipF s f (i + 1) else if isCom s i = true then skipF s f (many notNl s i) else i) else i
def skip (s : ByteArray) (i : Nat) : Nat := skipF s (s.size - i) i

theorem com_gt {s : ByteArray} {i : Nat} (h : isCom s i = true) : i < many notNl s i := by
  unfold isCom at h
  simp only [Bool.and_eq_true, beq_iff_eq, decide_eq_true_eq] at h
  rw [many_step (by omega) (by simp [notNl, h.1.1])]
  have := many_ge notNl s (i + 1)
  omega
theorem skipF_fuel (s : ByteArray) : ∀ f g i, s.size - i ≤ f → s.size - i ≤ g → skipF s f i = skipF s g i := by
  intro f
  induction f with
  | zero =>
    intro g i h1 h2
    cases g with
    | zero => rfl
    | succ g => simp only [skipF]; rw [if_neg (by omega)]
  | succ f ih =>
    intro g i h1 h2
    cases g with
    | zero => simp only [skipF]; rw [if_neg (by omega)]
    | succ g =>
      simp only [skipF]
      by_cases h : i < s.size
      · rw [if_pos h, if_pos h, ih g (i + 1) (by omega) (by omega)]
        by_cases hc : isCom s i = true
        · have := com_gt hc
          rw [if_pos hc, if_pos hc, ih g (many notNl s i) (by omega) (by omega)]
        · rw [if_neg hc, if_neg hc]
      · rw [if_neg h, if_neg h]
theorem skip_out {s : ByteArray} {i : Nat} (h : ¬ i < s.size) : skip s i = i := by
  unfold skip; rw [show s.size - i = 0 from by omega]; rfl
theorem skip_eq {s : ByteArray} {i : Nat} (h : i < s.size) : skip s i = if isBlank (B s i) = true then skip s (i + 1) else if isCom s i = true then skip s (many notNl s i) else i := by
  unfold skip
  obtain ⟨n, hn⟩ : ∃ n, s.size - i = n + 1 := ⟨s.size - i - 1, by omega⟩
  rw [hn]
  simp only [skipF]
  rw [if_pos h, show s.size - (i + 1) = n from by omega]
  by_cases hc : isCom s i = true
  · have := com_gt hc
    rw [if_pos hc, if_pos hc, skipF_fuel s n (s.size - many notNl s i) _ (by omega) (Nat.le_refl _)]
  · rw [if_neg hc, if_neg hc]
theorem skip_blank {s : ByteArray} {i : Nat} (h : i < s.size) (hb : isBlank (B s i) = true) : skip s i = skip s (i + 1) := by rw [skip_eq h, if_pos hb]
theorem skip_com {s : ByteArray} {i : Nat} (h : i < s.size) (hb : isBlank (B s i) = false) (hc : isCom s i = true) : skip s i = skip s (many notNl s i) := by
  rw [skip_eq h, if_neg (by rw [hb]; simp), if_pos hc]
theorem skip_stop {s : ByteArray} {i : Nat} (hb : isBlank (B s i) = false) (hc : isCom s i = false) : skip s i = i := by
  by_cases h : i < s.size
  · rw [skip_eq h, if_neg (by rw [hb]; simp), if_neg (by rw [hc]; simp)]
  · exact skip_out h

/-- a token: its kind, its text, its number -/
structure Tk where
  k : Int
  t : ByteArray
  n : Int
def Tk.zero : Tk := ⟨0, ⟨#[]⟩, 0⟩

/-- the number that digits write -/
def dvalF (s : ByteArray) : Nat → Nat → Nat → Nat
  | 0, _, n => n
  | f + 1, i, n => dvalF s f (i + 1) (10 * n + (B s i - 48))
def dval (s : ByteArray) (i k : Nat) : Nat := dvalF s (k - i) i 0

/-- a number, or a real one -/
def numTok (s : ByteArray) (i : Nat) : Tk × Nat × Int :=
  let k := many isDig s i
  let bad := B s i == 48 && decide (i + 1 < k)
  if (decide (k + 1 < s.size) && B s k == 46 && isDig (B s (k + 1))) = true then
    let m := many isDig s (k + 1)
    if (bad || decide (m < s.size) && isLet (B s m)) = true then (Tk.zero, m, 41) else (⟨3, s.extract i m, 0⟩, m, 0)
  else if (bad || decide (1000000000 < dval s i k) || decide (k < s.size) && isLet (B s k)) = true then (Tk.zero, k, 41) else (⟨2, ⟨#[]⟩, dval s i k⟩, k, 0)

def isMark1 (c : Nat) : Bool := c == 59 || c == 44 || c == 40 || c == 41 || c == 91 || c == 93 || c == 123 || c == 125
def isMark2 (s : ByteArray) (i : Nat) : Bool := decide (i + 1 < s.size) && (B s i == 45 && B s (i + 1) == 62 || B s i == 61 && B s (i + 1) == 61)

/-- the token at a place, where it ends, and what is wrong -/
def one (s : ByteArray) (i : Nat) : Tk × Nat × Int :=
  if s.size ≤ i then (Tk.zero, i, 0)
  else if isLet (B s i) = true then
    let k := many isWord s i
    if 32 < k - i then (Tk.zero, k, 42) else (⟨1, s.extract i k, 0⟩, k, 0)
  else if isDig (B s i) = true then numTok s i
  else if B s i = 34 then
    let k := many inText s (i + 1)
    if k < s.size ∧ B s k = 34 then (⟨4, s.extract (i + 1) k, 0⟩, k + 1, 0) else (Tk.zero, i, 43)
  else if isMark2 s i = true then (⟨5, s.extract i (i + 2), 0⟩, i + 2, 0)
  else if isMark1 (B s i) = true then (⟨5, s.extract i (i + 1), 0⟩, i + 1, 0)
  else (Tk.zero, i, 40)

theorem B_extract {s : ByteArray} {a b j : Nat} (h : a + j < b) (hb : b ≤ s.size) : B (s.extract a b) j = B s (a + j) := by
  have h1 : j < (s.extract a b).size := by rw [ByteArray.size_extract]; omega
  rw [← B_eq _ j h1, ← B_eq _ (a + j) (by omega)]
  simp [ByteArray.getElem_extract]
theorem size_ext {s : ByteArray} {a b : Nat} (hb : b ≤ s.size) : (s.extract a b).size = b - a := by rw [ByteArray.size_extract]; omega

theorem dval_ge (s : ByteArray) : ∀ f i n, n ≤ dvalF s f i n := by
  intro f
  induction f with
  | zero => intro i n; exact Nat.le_refl _
  | succ f ih => intro i n; have := ih (i + 1) (10 * n + (B s i - 48)); simp only [dvalF]; omega

theorem fin_num {α : Type} {z lt big inn lq : Bool} {a b N : α} (h : (if (z && lt || big || inn && lq) = true then a else b) = N) :
    (z = true → lt = true → a = N) ∧ (big = true → a = N) ∧ (inn = true → lq = true → a = N) ∧ ((¬ z = true ∨ lt = false) → big = false → (inn = false ∨ lq = false) → b = N) := by
  cases z <;> cases lt <;> cases big <;> cases inn <;> cases lq <;> simp_all

end Go.Proofs.YtgaanohloocokaaDoor

-- D: Plain words: marks. 
namespace Go.Proofs.YtgaanohloocokaaDoor
open Go.RowKit

def MK (n : Nat) : ByteArray := match n with | 0 => ⟨#[45, 62]⟩ | 1 => ⟨#[61, 61]⟩ | 2 => ⟨#[59]⟩ | 3 => ⟨#[44]⟩ | 4 => ⟨#[40]⟩ | 5 => ⟨#[41]⟩ | 6 => ⟨#[91]⟩ | 7 => ⟨#[93]⟩ | 8 => ⟨#[123]⟩ | _ => ⟨#[125]⟩
theorem MK_size (n : Nat) : 1 ≤ (MK n).size ∧ (MK n).size ≤ 2 := by
  unfold MK; split <;> decide
/-- does mark n stand here -/
def markAt (s : ByteArray) (i n : Nat) : Bool := decide (i + (MK n).size ≤ s.size) && ((s.extract i (i + (MK n).size)).toList == (MK n).toList)

theorem ext1 {s : ByteArray} {i : Nat} (h : i < s.size) : (s.extract i (i + 1)).data.toList = [s[i]] := by
  rw [ByteArray.data_extract, Array.toList_extract, List.extract_eq_take_drop, List.drop_eq_getElem_cons (by simpa using h), show i + 1 - i = 1 from by omega]
  rfl
theorem ext2 {s : ByteArray} {i : Nat} (h : i + 1 < s.size) : (s.extract i (i + 2)).data.toList = [s[i], s[i + 1]] := by
  rw [ByteArray.data_extract, Array.toList_extract, List.extract_eq_take_drop, List.drop_eq_getElem_cons (by simp; exact Nat.lt_of_succ_lt h), List.drop_eq_getElem_cons (by simpa using h), show i + 2 - i = 2 from by omega]
  rfl
theorem ba_ext {a b : ByteArray} (h : a.data.toList = b.data.toList) : a = b := by
  cases a; cases b; simp only [ByteArray.mk.injEq] at *; exact Array.toList_inj.1 h

theorem mark_one {s : ByteArray} {i : Nat} {c : UInt8} (h : i < s.size) : (s.extract i (i + 1) = ⟨#[c]⟩) ↔ B s i = c.toNat := by
  constructor
  · intro e
    have e2 := congrArg (fun b : ByteArray => b.data.toList) e
    rw [← B_eq s i h]
    simp only [ext1 h, List.cons.injEq, and_true] at e2
    rw [e2]
  · intro e
    apply ba_ext
    rw [ext1 h]
    rw [← B_eq s i h] at e
    rw [UInt8.toNat_inj.1 e]
theorem mark_two {s : ByteArray} {i : Nat} {c d : UInt8} (h : i + 1 < s.size) : (s.extract i (i + 2) = ⟨#[c, d]⟩) ↔ B s i = c.toNat ∧ B s (i + 1) = d.toNat := by
  constructor
  · intro e
    have e2 := congrArg (fun b : ByteArray => b.data.toList) e
    rw [← B_eq s i (by omega), ← B_eq s (i + 1) h]
    simp only [ext2 h, List.cons.injEq, and_true] at e2
    rw [e2.1, e2.2]
    exact ⟨rfl, rfl⟩
  · intro e
    apply ba_ext
    rw [ext2 h]
    rw [← B_eq s i (by omega), ← B_eq s (i + 1) h] at e
    rw [UInt8.toNat_inj.1 e.1, UInt8.toNat_inj.1 e.2]
theorem markAt_iff (s : ByteArray) (i n : Nat) : markAt s i n = true ↔ i + (MK n).size ≤ s.size ∧ s.extract i (i + (MK n).size) = MK n := by
  unfold markAt
  simp only [Bool.and_eq_true, decide_eq_true_eq, beq_iff_eq, ByteArray.toList_eq]
  exact ⟨fun h => ⟨h.1, ba_ext h.2⟩, fun h => ⟨h.1, by rw [h.2]⟩⟩

def mkB (n : Nat) : Nat := match n with | 2 => 59 | 3 => 44 | 4 => 40 | 5 => 41 | 6 => 91 | 7 => 93 | 8 => 123 | _ => 125
theorem markAt_0 {s : ByteArray} {i : Nat} : markAt s i 0 = true ↔ i + 1 < s.size ∧ B s i = 45 ∧ B s (i + 1) = 62 := by
  rw [markAt_iff]
  show i + 2 ≤ s.size ∧ s.extract i (i + 2) = ⟨#[45, 62]⟩ ↔ _
  constructor
  · rintro ⟨h, e⟩; exact ⟨by omega, (mark_two (by omega)).1 e⟩
  · rintro ⟨h, e⟩; exact ⟨by omega, (mark_two h).2 e⟩
theorem markAt_1 {s : ByteArray} {i : Nat} : markAt s i 1 = true ↔ i + 1 < s.size ∧ B s i = 61 ∧ B s (i + 1) = 61 := by
  rw [markAt_iff]
  show i + 2 ≤ s.size ∧ s.extract i (i + 2) = ⟨#[61, 61]⟩ ↔ _
  constructor
  · rintro ⟨h, e⟩; exact ⟨by omega, (mark_two (by omega)).1 e⟩
  · rintro ⟨h, e⟩; exact ⟨by omega, (mark_two h).2 e⟩
theorem markAt_n {s : ByteArray} {i n : Nat} (h2 : 2 ≤ n) (h : i < s.size) : markAt s i n = true ↔ B s i = mkB n := by
  rw [markAt_iff]
  match n, h2 with
  | 2, _ => exact ⟨fun q => (mark_one h).1 q.2, fun q => ⟨h, (mark_one h).2 q⟩⟩
  | 3, _ => exact ⟨fun q => (mark_one h).1 q.2, fun q => ⟨h, (mark_one h).2 q⟩⟩
  | 4, _ => exact ⟨fun q => (mark_one h).1 q.2, fun q => ⟨h, (mark_one h).2 q⟩⟩
  | 5, _ => exact ⟨fun q => (mark_one h).1 q.2, fun q => ⟨h, (mark_one h).2 q⟩⟩
  | 6, _ => exact ⟨fun q => (mark_one h).1 q.2, fun q => ⟨h, (mark_one h).2 q⟩⟩
  | 7, _ => exact ⟨fun q => (mark_one h).1 q.2, fun q => ⟨h, (mark_one h).2 q⟩⟩
  | 8, _ => exact ⟨fun q => (mark_one h).1 q.2, fun q => ⟨h, (mark_one h).2 q⟩⟩
  | n + 9, _ => exact ⟨fun q => (mark_one h).1 q.2, fun q => ⟨h, (mark_one h).2 q⟩⟩

theorem isMark1_iff (c : Nat) : isMark1 c = true ↔ ∃ n, 2 ≤ n ∧ n < 10 ∧ c = mkB n := by
  unfold isMark1
  simp only [Bool.or_eq_true, beq_iff_eq]
  constructor
  · rintro (((((((h | h) | h) | h) | h) | h) | h) | h)
    · exact ⟨2, by omega, by omega, h⟩
    · exact ⟨3, by omega, by omega, h⟩
    · exact ⟨4, by omega, by omega, h⟩
    · exact ⟨5, by omega, by omega, h⟩
    · exact ⟨6, by omega, by omega, h⟩
    · exact ⟨7, by omega, by omega, h⟩
    · exact ⟨8, by omega, by omega, h⟩
    · exact ⟨9, by omega, by omega, h⟩
  · rintro ⟨n, h2, h10, e⟩
    match n, h2, h10 with
    | 2, _, _ => simp [mkB] at e; omega
    | 3, _, _ => simp [mkB] at e; omega
    | 4, _, _ => simp [mkB] at e; omega
    | 5, _, _ => simp [mkB] at e; omega
    | 6, _, _ => simp [mkB] at e; omega
    | 7, _, _ => simp [mkB] at e; omega
    | 8, _, _ => simp [mkB] at e; omega
    | 9, _, _ => simp [mkB] at e; omega
    | n + 10, _, h => omega
theorem isMark2_iff (s : ByteArray) (i : Nat) : isMark2 s i = true ↔ markAt s i 0 = true ∨ markAt s i 1 = true := by
  rw [markAt_0, markAt_1]
  unfold isMark2
  simp only [Bool.and_eq_true, Bool.or_eq_true, decide_eq_true_eq, beq_iff_eq]
  omega

theorem one_mark (s : ByteArray) (i : Nat) (h1 : i < s.size) (hl : isLet (B s i) = false) (hd : isDig (B s i) = false) (hq : ¬ B s i = 34) :
    one s i = if isMark2 s i = true then (⟨5, s.extract i (i + 2), 0⟩, i + 2, 0) else if isMark1 (B s i) = true then (⟨5, s.extract i (i + 1), 0⟩, i + 1, 0) else (Tk.zero, i, 40) := by
  unfold one
  rw [if_neg (by omega), if_neg (by rw [hl]; simp), if_neg (by rw [hd]; simp), if_neg hq]
theorem one_mark_yes (s : ByteArray) (i : Nat) (h1 : i < s.size) (hl : isLet (B s i) = false) (hd : isDig (B s i) = false) (hq : ¬ B s i = 34)
    (n : Nat) (hn : n < 10) (hm : markAt s i n = true) : one s i = (⟨5, MK n, 0⟩, i + (MK n).size, 0) := by
  rw [one_mark s i h1 hl hd hq]
  have hx := (markAt_iff s i n).1 hm
  by_cases h2 : 2 ≤ n
  · have hb := (markAt_n h2 h1).1 hm
    have hz : (MK n).size = 1 := by
      match n, h2, hn with
      | 2, _, _ => rfl | 3, _, _ => rfl | 4, _, _ => rfl | 5, _, _ => rfl | 6, _, _ => rfl | 7, _, _ => rfl | 8, _, _ => rfl | 9, _, _ => rfl
      | n + 10, _, h => omega
    rw [hz] at hx ⊢
    have hne : ¬ isMark2 s i = true := by
      rw [isMark2_iff, markAt_0, markAt_1, hb]
      match n, h2, hn with
      | 2, _, _ => simp [mkB] | 3, _, _ => simp [mkB] | 4, _, _ => simp [mkB] | 5, _, _ => simp [mkB] | 6, _, _ => simp [mkB] | 7, _, _ => simp [mkB] | 8, _, _ => simp [mkB] | 9, _, _ => simp [mkB]
      | n + 10, _, h => omega
    rw [if_neg hne, if_pos ((isMark1_iff _).2 ⟨n, h2, hn, hb⟩), hx.2]
  · have hz : (MK n).size = 2 := by
      match n, hn with
      | 0, _ => rfl | 1, _ => rfl
      | n + 2, _ => omega
    have h01 : isMark2 s i = true := by
      rw [isMark2_iff]
      match n, hm with
      | 0, hm => exact Or.inl hm
      | 1, hm => exact Or.inr hm
      | n + 2, _ => omega
    rw [hz] at hx ⊢
    rw [if_pos h01, hx.2]
theorem one_mark_no (s : ByteArray) (i : Nat) (h1 : i < s.size) (hl : isLet (B s i) = false) (hd : isDig (B s i) = false) (hq : ¬ B s i = 34)
    (hm : ∀ m, m < 10 → markAt s i m = false) : one s i = (Tk.zero, i, 40) := by
  rw [one_mark s i h1 hl hd hq, if_neg, if_neg]
  · rw [isMark1_iff]; rintro ⟨n, h2, h10, e⟩
    have := (markAt_n h2 h1).2 e
    rw [hm n h10] at this; cases this
  · rw [isMark2_iff, hm 0 (by omega), hm 1 (by omega)]; simp

end Go.Proofs.YtgaanohloocokaaDoor

-- E: Plain words: rune boundaries; where skipping and tokens end. 
namespace Go.Proofs.YtgaanohloocokaaDoor
open Go.RowKit

/-- line and column of a place -/
def P (s : ByteArray) (i : Nat) : Int × Int := spot s i 0 1 1
theorem P_zero (s : ByteArray) : P s 0 = (1, 1) := rfl
/-- a place from which on lines and columns can be counted -/
def Bd (s : ByteArray) (o : Nat) : Prop := ∀ e, o ≤ e → e ≤ s.size → P s e = spot s e o (P s o).1 (P s o).2

theorem Bd_zero (s : ByteArray) : Bd s 0 := by
  intro e h1 h2
  unfold P
  rw [spot_stop s 0 0 1 1 (by omega)]
theorem Bd_next {s : ByteArray} {o : Nat} (h : Bd s o) (ho : o < s.size) (hw : o + wd s o ≤ s.size) : Bd s (o + wd s o) := by
  have hp := wd_pos s o ho
  have e1 := h (o + wd s o) (by omega) hw
  intro e h1 h2
  rw [h e (by omega) h2]
  rw [spot_step s _ o _ _ (by omega) hw] at e1
  rw [spot_step s e o _ _ (by omega) h2]
  by_cases hb : B s o = 10
  · rw [if_pos hb, spot_stop s _ _ _ _ (by omega)] at e1
    rw [if_pos hb, e1]
  · rw [if_neg hb, spot_stop s _ _ _ _ (by omega)] at e1
    rw [if_neg hb, e1]

/-- no rune swallows a byte below 128 -/
theorem wd_le {s : ByteArray} {i p : Nat} (h : i < p) (hp : p ≤ s.size) (ha : p = s.size ∨ B s p < 128) : i + wd s i ≤ p := by
  rw [← rsz_eq s i (by omega)]
  have hx : ∀ j lo hi, 128 ≤ lo → moreB s j lo hi = true → j ≠ p ∧ j < s.size := by
    intro j lo hi hlo hm
    unfold moreB at hm
    simp only [Bool.and_eq_true, decide_eq_true_eq] at hm
    refine ⟨fun e => ?_, hm.1⟩
    subst e
    omega
  unfold rsz
  simp only
  split
  · rename_i c; simp only [Bool.and_eq_true] at c; have := hx _ _ _ (by omega) c.2; omega
  · split
    · rename_i c; simp only [Bool.and_eq_true] at c; have := hx _ _ _ (by omega) c.1.2; have := hx _ _ _ (by omega) c.2; omega
    · split
      · rename_i c; simp only [Bool.and_eq_true] at c; have := hx _ _ _ (by omega) c.1.2; have := hx _ _ _ (by omega) c.2; omega
      · split
        · rename_i c; simp only [Bool.and_eq_true] at c; have := hx _ _ _ (by omega) c.1.2; have := hx _ _ _ (by omega) c.2; omega
        · split
          · rename_i c; simp only [Bool.and_eq_true] at c; have := hx _ _ _ (by omega) c.1.1.2; have := hx _ _ _ (by omega) c.1.2; have := hx _ _ _ (by omega) c.2; omega
          · split
            · rename_i c; simp only [Bool.and_eq_true] at c; have := hx _ _ _ (by omega) c.1.1.2; have := hx _ _ _ (by omega) c.1.2; have := hx _ _ _ (by omega) c.2; omega
            · split
              · rename_i c; simp only [Bool.and_eq_true] at c; have := hx _ _ _ (by omega) c.1.1.2; have := hx _ _ _ (by omega) c.1.2; have := hx _ _ _ (by omega) c.2; omega
              · omega

theorem Bd_reach {s : ByteArray} {p : Nat} (hp : p ≤ s.size) (ha : p = s.size ∨ B s p < 128) : ∀ d i, p - i = d → i ≤ p → Bd s i → Bd s p := by
  intro d
  induction d using Nat.strongRecOn with
  | _ d ih =>
    intro i hd hi hb
    by_cases he : i = p
    · subst he; exact hb
    · have hw := wd_le (by omega) hp ha (s := s) (i := i)
      have hpos := wd_pos s i (by omega)
      exact ih (p - (i + wd s i)) (by omega) (i + wd s i) rfl hw (Bd_next hb (by omega) (by omega))
theorem Bd_ascii {s : ByteArray} {p : Nat} (hp : p ≤ s.size) (ha : p = s.size ∨ B s p < 128) : Bd s p := Bd_reach hp ha _ 0 rfl (by omega) (Bd_zero s)
theorem Bd_after {s : ByteArray} {p : Nat} (hp : p < s.size) (ha : B s p < 128) : Bd s (p + 1) := by
  have h := Bd_ascii (s := s) (p := p) (by omega) (Or.inr ha)
  have hw := wd_ascii s p ha
  have := Bd_next h hp (by omega)
  rwa [hw] at this
theorem Bd_prev {s : ByteArray} {p : Nat} (h0 : 0 < p) (hp : p ≤ s.size) (ha : B s (p - 1) < 128) : Bd s p := by
  have := Bd_after (s := s) (p := p - 1) (by omega) ha
  rwa [show p - 1 + 1 = p from by omega] at this

theorem blank_lt {c : Nat} (h : isBlank c = true) : c < 128 := by simp [isBlank] at h; omega
theorem dig_lt {c : Nat} (h : isDig c = true) : c < 128 := by simp [isDig] at h; omega
theorem let_lt {c : Nat} (h : isLet c = true) : c < 128 := by simp [isLet] at h; omega
theorem word_lt {c : Nat} (h : isWord c = true) : c < 128 := by
  unfold isWord at h
  cases hl : isLet c with
  | true => exact let_lt hl
  | false => rw [hl] at h; exact dig_lt (by simpa using h)

/-- what skipping comes to -/
theorem skip_spec (s : ByteArray) : ∀ d i, s.size - i = d → i ≤ s.size → i ≤ skip s i ∧ skip s i ≤ s.size ∧ (Bd s i → Bd s (skip s i)) ∧ isBlank (B s (skip s i)) = false ∧ isCom s (skip s i) = false ∨ skip s i = s.size ∧ i ≤ s.size ∧ (Bd s i → Bd s (skip s i)) := by
  intro d
  induction d using Nat.strongRecOn with
  | _ d ih =>
    intro i hd hi
    by_cases h : i < s.size
    · cases hb : isBlank (B s i) with
      | true =>
        rw [skip_blank h hb]
        rcases ih (s.size - (i + 1)) (by omega) (i + 1) rfl (by omega) with ⟨a, b, c, e⟩ | ⟨a, b, c⟩
        · exact Or.inl ⟨by omega, b, fun _ => c (Bd_after h (blank_lt hb)), e⟩
        · exact Or.inr ⟨a, by omega, fun _ => c (Bd_after h (blank_lt hb))⟩
      | false =>
        cases hc : isCom s i with
        | true =>
          rw [skip_com h hb hc]
          have hg := com_gt hc
          have hle := many_le notNl s (i := i) (by omega)
          have hbd : Bd s (many notNl s i) := by
            by_cases hE : many notNl s i = s.size
            · exact Bd_ascii hle (Or.inl hE)
            · have := many_end notNl s i (by omega)
              exact Bd_ascii hle (Or.inr (by simp [notNl] at this; omega))
          rcases ih (s.size - many notNl s i) (by omega) (many notNl s i) rfl hle with ⟨a, b, c, e⟩ | ⟨a, b, c⟩
          · exact Or.inl ⟨by omega, b, fun _ => c hbd, e⟩
          · exact Or.inr ⟨a, by omega, fun _ => c hbd⟩
        | false =>
          rw [skip_stop hb hc]
          exact Or.inl ⟨Nat.le_refl _, hi, fun q => q, hb, hc⟩
    · rw [skip_out h]
      exact Or.inr ⟨by omega, hi, fun q => q⟩
theorem skip_ge {s : ByteArray} {i : Nat} (h : i ≤ s.size) : i ≤ skip s i := by
  rcases skip_spec s _ i rfl h with ⟨a, _⟩ | ⟨a, _⟩ <;> omega
theorem skip_le {s : ByteArray} {i : Nat} (h : i ≤ s.size) : skip s i ≤ s.size := by
  rcases skip_spec s _ i rfl h with ⟨_, a, _⟩ | ⟨a, _⟩ <;> omega
theorem skip_Bd {s : ByteArray} {i : Nat} (h : i ≤ s.size) (hb : Bd s i) : Bd s (skip s i) := by
  rcases skip_spec s _ i rfl h with ⟨_, _, c, _⟩ | ⟨_, _, c⟩ <;> exact c hb

theorem numTok_end (s : ByteArray) (i : Nat) (h : i < s.size) (hd : isDig (B s i) = true) : i < (numTok s i).2.1 ∧ (numTok s i).2.1 ≤ s.size ∧ Bd s (numTok s i).2.1 := by
  have h1 : i < many isDig s i := by rw [many_step h hd]; exact many_ge _ _ _
  have h2 := many_le isDig s (i := i) (by omega)
  have hbk : Bd s (many isDig s i) := Bd_prev (by omega) h2 (dig_lt (many_all isDig s i (by omega) (by omega)))
  unfold numTok
  simp only
  split
  · rename_i c
    simp only [Bool.and_eq_true, decide_eq_true_eq, beq_iff_eq] at c
    have h3 : many isDig s i + 1 < many isDig s (many isDig s i + 1) := by
      rw [many_step (i := many isDig s i + 1) c.1.1 c.2]; exact many_ge _ _ _
    have h4 := many_le isDig s (i := many isDig s i + 1) (by omega)
    have hbm : Bd s (many isDig s (many isDig s i + 1)) := Bd_prev (by omega) h4 (dig_lt (many_all isDig s (many isDig s i + 1) (by omega) (by omega)))
    split
    · exact ⟨by simp only; omega, h4, hbm⟩
    · exact ⟨by simp only; omega, h4, hbm⟩
  · split
    · exact ⟨h1, h2, hbk⟩
    · exact ⟨h1, h2, hbk⟩

theorem one_spec (s : ByteArray) (i : Nat) (h : i ≤ s.size) (hb : Bd s i) : i ≤ (one s i).2.1 ∧ (one s i).2.1 ≤ s.size ∧ Bd s (one s i).2.1 ∧ ((one s i).2.2 = 0 → (one s i).1.k ≠ 0 → i < (one s i).2.1) := by
  unfold one
  split
  · exact ⟨Nat.le_refl _, h, hb, fun _ q => absurd rfl q⟩
  · rename_i hlt
    have hlt : i < s.size := by omega
    split
    · rename_i hl
      have h1 : i < many isWord s i := by rw [many_step hlt (by simp [isWord, hl])]; exact many_ge _ _ _
      have h2 := many_le isWord s (i := i) (by omega)
      have h3 : Bd s (many isWord s i) := Bd_prev (by omega) h2 (word_lt (many_all isWord s i (by omega) (by omega)))
      simp only
      split
      · exact ⟨by simp only; omega, h2, h3, fun q => absurd q (by simp)⟩
      · exact ⟨by simp only; omega, h2, h3, fun _ _ => h1⟩
    · split
      · rename_i hd
        obtain ⟨a, b, c⟩ := numTok_end s i hlt hd
        exact ⟨by omega, b, c, fun _ _ => a⟩
      · split
        · rename_i hq
          have h2 := many_le inText s (i := i + 1) (by omega)
          have h1 := many_ge inText s (i + 1)
          simp only
          split
          · rename_i c
            exact ⟨by simp only; omega, by simp only; omega, Bd_after c.1 (by omega), fun _ _ => by simp only; omega⟩
          · exact ⟨Nat.le_refl _, h, hb, fun q => absurd q (by simp)⟩
        · split
          · rename_i c
            have c' := (isMark2_iff s i).1 c
            rw [markAt_0, markAt_1] at c'
            exact ⟨by simp only; omega, by simp only; omega, Bd_after (p := i + 1) (by omega) (by omega), fun _ _ => by simp only; omega⟩
          · split
            · rename_i c
              obtain ⟨n, _, _, e⟩ := (isMark1_iff _).1 c
              have : B s i < 128 := by rw [e]; unfold mkB; split <;> omega
              exact ⟨by simp only; omega, by simp only; omega, Bd_after hlt this, fun _ _ => by simp only; omega⟩
            · exact ⟨Nat.le_refl _, h, hb, fun q => absurd q (by simp)⟩

/-- line and column are at least 1 and grow no faster than the place -/
theorem spot_bd (s : ByteArray) (off : Nat) (hoff : off ≤ s.size) : ∀ d i l c, off - i = d → i ≤ off → 1 ≤ l → 1 ≤ c → l ≤ (i : Int) + 1 → c ≤ (i : Int) + 1 →
    1 ≤ (spot s off i l c).1 ∧ (spot s off i l c).1 ≤ (off : Int) + 1 ∧ 1 ≤ (spot s off i l c).2 ∧ (spot s off i l c).2 ≤ (off : Int) + 1 := by
  intro d
  induction d using Nat.strongRecOn with
  | _ d ih =>
    intro i l c hd hi h1 h2 h3 h4
    by_cases h : i < off
    · have hw := wd_pos s i (by omega)
      rw [spot_step s off i l c h hoff]
      by_cases ho : i + wd s i ≤ off
      · split
        · exact ih _ (by omega) _ _ _ rfl ho (by omega) (by omega) (by omega) (by omega)
        · exact ih _ (by omega) _ _ _ rfl ho (by omega) (by omega) (by omega) (by omega)
      · split
        · rw [spot_stop _ _ _ _ _ (by omega)]; simp only; omega
        · rw [spot_stop _ _ _ _ _ (by omega)]; simp only; omega
    · rw [spot_stop _ _ _ _ _ h]; simp only; omega
theorem P_bd (s : ByteArray) (i : Nat) (h : i ≤ s.size) : 1 ≤ (P s i).1 ∧ (P s i).1 ≤ (i : Int) + 1 ∧ 1 ≤ (P s i).2 ∧ (P s i).2 ≤ (i : Int) + 1 :=
  spot_bd s i h _ 0 1 1 rfl (by omega) (by omega) (by omega) (by omega) (by omega)

end Go.Proofs.YtgaanohloocokaaDoor

-- F: Plain words: scanning. 
namespace Go.Proofs.YtgaanohloocokaaDoor
open Go.RowKit

/-- a token with its place, line and column -/
structure Tp where
  t : Tk
  o : Nat
  l : Int
  c : Int
def mkTp (s : ByteArray) (i : Nat) (t : Tk) : Tp := ⟨t, i, (P s i).1, (P s i).2⟩
/-- what scanning comes to: tokens, or a fault's number and place -/
abbrev Sc := List Tp × Int × Nat
def scanF (s : ByteArray) : Nat → Nat → Sc
  | 0, _ => ([], 0, 0)
  | f + 1, i =>
    let j := skip s i
    if (one s j).2.2 ≠ 0 then ([], (one s j).2.2, j)
    else if (one s j).1.k = 0 then ([mkTp s j (one s j).1], 0, 0)
    else
      let R := scanF s f (one s j).2.1
      if R.2.1 = 0 then (mkTp s j (one s j).1 :: R.1, 0, 0) else ([], R.2.1, R.2.2)
def joinSc (l : List Tp) (R : Sc) : Sc := if R.2.1 = 0 then (l ++ R.1, 0, 0) else ([], R.2.1, R.2.2)
def scan (s : ByteArray) : Sc := scanF s (s.size + 1) 0

theorem join_nil (s : ByteArray) (f i : Nat) : joinSc [] (scanF s f i) = scanF s f i := by
  unfold joinSc
  cases f with
  | zero => rfl
  | succ f =>
    simp only [scanF]
    split
    · rfl
    · split
      · rfl
      · split
        · rfl
        · rfl
theorem scan_err {s : ByteArray} {f i : Nat} {l : List Tp} (h : (one s (skip s i)).2.2 ≠ 0) : joinSc l (scanF s (f + 1) i) = ([], (one s (skip s i)).2.2, skip s i) := by
  simp only [scanF]; rw [if_pos h]; unfold joinSc; rw [if_neg h]
theorem scan_end {s : ByteArray} {f i : Nat} {l : List Tp} (h : (one s (skip s i)).2.2 = 0) (h2 : (one s (skip s i)).1.k = 0) : joinSc l (scanF s (f + 1) i) = (l ++ [mkTp s (skip s i) (one s (skip s i)).1], 0, 0) := by
  simp only [scanF]; rw [if_neg (fun q => q h), if_pos h2]; rfl
theorem scan_more {s : ByteArray} {f i : Nat} {l : List Tp} (h : (one s (skip s i)).2.2 = 0) (h2 : (one s (skip s i)).1.k ≠ 0) :
    joinSc l (scanF s (f + 1) i) = joinSc (l ++ [mkTp s (skip s i) (one s (skip s i)).1]) (scanF s f (one s (skip s i)).2.1) := by
  simp only [scanF]; rw [if_neg (fun q => q h), if_neg h2]
  unfold joinSc
  split
  · rename_i c; rw [if_pos rfl]; simp
  · rfl

/-- the cells of a row of tokens -/
def tpCells (x : Tp) : List Value := [.int .i64 x.t.k, .string x.t.t, .int .i64 x.t.n, .int .i64 x.o, .int .i64 x.l, .int .i64 x.c]
def tpRow (l : List Tp) : List Value := l.flatMap tpCells
theorem tpRow_length (l : List Tp) : (tpRow l).length = l.length * 6 := by
  induction l with
  | nil => rfl
  | cons x l ih => simp only [tpRow, List.flatMap_cons, List.length_append, List.length_cons] at *; rw [ih]; simp [tpCells]; omega
theorem tpRow_snoc (l : List Tp) (x : Tp) : tpRow (l ++ [x]) = tpRow l ++ tpCells x := by simp [tpRow]
theorem tpRow_at : ∀ (l : List Tp) (i j : Nat) (x : Tp), l[i]? = some x → j < 6 → (tpRow l)[i * 6 + j]? = (tpCells x)[j]?
  | [], i, j, x, h, _ => by simp at h
  | y :: l, 0, j, x, h, hj => by
    obtain rfl : y = x := by simpa using h
    simp only [tpRow, List.flatMap_cons]
    rw [List.getElem?_append_left (by simp [tpCells]; omega)]
    congr 1
    omega
  | y :: l, i + 1, j, x, h, hj => by
    have := tpRow_at l i j x (by simpa using h) hj
    simp only [tpRow, List.flatMap_cons]
    rw [List.getElem?_append_right (by simp [tpCells]; omega)]
    rw [← this]
    congr 1
    simp [tpCells]
    omega

/-- a fault as its four numbers -/
def faultV (s : ByteArray) (R : Sc) : Value := if R.2.1 = 0 then .agg #[.int .i64 0, .int .i64 0, .int .i64 0, .int .i64 0] else .agg #[.int .i64 R.2.1, .int .i64 R.2.2, .int .i64 (P s R.2.2).1, .int .i64 (P s R.2.2).2]

end Go.Proofs.YtgaanohloocokaaDoor

-- G: Plain words: clamped places; names. 
namespace Go.Proofs.YtgaanohloocokaaDoor
open Go.RowKit

def clampN (s : ByteArray) (off : Int) : Nat := if off < 0 then 0 else if (s.size : Int) < off then s.size else off.toNat
theorem clampN_le (s : ByteArray) (off : Int) : clampN s off ≤ s.size := by
  unfold clampN; split
  · omega
  · split <;> omega
def spotV (s : ByteArray) (o : Nat) : Value := .agg #[.int .i64 o, .int .i64 (P s o).1, .int .i64 (P s o).2]

/-- is the text a name -/
def nameB (s : ByteArray) : Bool := decide (0 < s.size) && decide (s.size ≤ 32) && isLet (B s 0) && decide (many isWord s 0 = s.size)

end Go.Proofs.YtgaanohloocokaaDoor

-- H: Plain words: a piece of a text has its text's runes. 
namespace Go.Proofs.YtgaanohloocokaaDoor
open Go.RowKit

/-- a piece may end here -/
def EndOk (s : ByteArray) (o e : Nat) : Prop := e = s.size ∨ B s e < 128 ∨ (o < e ∧ B s (e - 1) < 128)

theorem moreB_ext {s : ByteArray} {o e i lo hi : Nat} (he : e ≤ s.size) (h : o + i < e) : moreB (s.extract o e) i lo hi = moreB s (o + i) lo hi := by
  unfold moreB
  rw [B_extract h he, size_ext he, decide_eq_true (show i < e - o by omega), decide_eq_true (show o + i < s.size by omega)]
theorem moreB_past {s : ByteArray} {o e i lo hi : Nat} (he : e ≤ s.size) (h : e ≤ o + i) : moreB (s.extract o e) i lo hi = false := by
  unfold moreB
  rw [size_ext he, decide_eq_false (show ¬ i < e - o by omega)]; rfl
theorem moreB_low {s : ByteArray} {i lo hi : Nat} (hlo : 128 ≤ lo) (h : s.size ≤ i ∨ B s i < 128) : moreB s i lo hi = false := by
  unfold moreB
  rcases h with h | h
  · rw [decide_eq_false (show ¬ i < s.size by omega)]; rfl
  · rw [decide_eq_false (show ¬ lo ≤ B s i by omega)]; simp
theorem rsz_low {s : ByteArray} {i : Nat} (h : B s i < 128) : rsz s i = 1 := by
  unfold rsz
  simp only
  rw [if_neg (by simp; omega), if_neg (by simp; omega), if_neg (by simp; omega), if_neg (by simp; omega), if_neg (by simp; omega), if_neg (by simp; omega), if_neg (by simp; omega)]

theorem rsz_ext {s : ByteArray} {o e i : Nat} (he : e ≤ s.size) (h : o + i < e) (hok : EndOk s o e) : rsz (s.extract o e) i = rsz s (o + i) := by
  have hB : B (s.extract o e) i = B s (o + i) := B_extract h he
  by_cases hlow : B s (o + i) < 128
  · rw [rsz_low hlow, rsz_low (by rw [hB]; exact hlow)]
  · have hend : ∀ lo hi, 128 ≤ lo → (moreB s e lo hi = false) ∨ (o + i + 1 < e ∧ ∀ lo' hi', 128 ≤ lo' → moreB s (e - 1) lo' hi' = false) := by
      intro lo hi hlo
      rcases hok with q | q | ⟨q1, q⟩
      · exact Or.inl (moreB_low hlo (Or.inl (by omega)))
      · exact Or.inl (moreB_low hlo (Or.inr q))
      · refine Or.inr ⟨?_, fun lo' hi' h' => moreB_low h' (Or.inr q)⟩
        by_cases hh : o + i + 1 < e
        · exact hh
        · rw [show e - 1 = o + i from by omega] at q; omega
    unfold rsz
    simp only [hB]
    by_cases h4 : o + i + 3 < e
    · simp only [moreB_ext he (show o + (i + 1) < e by omega), moreB_ext he (show o + (i + 2) < e by omega), moreB_ext he (show o + (i + 3) < e by omega), ← Nat.add_assoc]
    · by_cases h3 : o + i + 2 < e
      · have e3 : e = o + i + 3 := by omega
        simp only [moreB_ext he (show o + (i + 1) < e by omega), moreB_ext he (show o + (i + 2) < e by omega), moreB_past (o := o) (i := i + 3) he (by omega), ← Nat.add_assoc]
        rcases hend 128 191 (by omega) with q | ⟨_, q⟩
        · rw [e3] at q; simp only [q]
        · have q2 := q 128 191 (by omega)
          rw [show e - 1 = o + i + 2 from by omega] at q2
          simp only [q2, Bool.and_false, Bool.false_and]
      · by_cases h2 : o + i + 1 < e
        · have e2 : e = o + i + 2 := by omega
          simp only [moreB_ext he (show o + (i + 1) < e by omega), moreB_past (o := o) (i := i + 2) he (by omega), moreB_past (o := o) (i := i + 3) he (by omega), ← Nat.add_assoc]
          rcases hend 128 191 (by omega) with q | ⟨_, q⟩
          · rw [e2] at q; simp only [q, Bool.and_false, Bool.false_and]
          · have q1 := q 128 191 (by omega)
            have q2 := q 160 191 (by omega)
            have q3 := q 128 159 (by omega)
            have q4 := q 144 191 (by omega)
            have q5 := q 128 143 (by omega)
            rw [show e - 1 = o + i + 1 from by omega] at q1 q2 q3 q4 q5
            simp only [q1, q2, q3, q4, q5, Bool.and_false, Bool.false_and]
        · have e1 : e = o + i + 1 := by omega
          have hq : ∀ lo hi, 128 ≤ lo → moreB s (o + i + 1) lo hi = false := by
            intro lo hi hlo
            rcases hend lo hi hlo with q | ⟨q, _⟩
            · rwa [e1] at q
            · omega
          simp only [moreB_past (o := o) (i := i + 1) he (by omega), moreB_past (o := o) (i := i + 2) he (by omega), moreB_past (o := o) (i := i + 3) he (by omega), hq 128 191 (by omega), hq 160 191 (by omega), hq 128 159 (by omega), hq 144 191 (by omega), hq 128 143 (by omega), Bool.and_false, Bool.false_and]
theorem wd_ext {s : ByteArray} {o e i : Nat} (he : e ≤ s.size) (h : o + i < e) (hok : EndOk s o e) : wd (s.extract o e) i = wd s (o + i) := by
  rw [← rsz_eq _ i (by rw [size_ext he]; omega), ← rsz_eq s _ (by omega), rsz_ext he h hok]

theorem spot_ext {s : ByteArray} {o e : Nat} (he : e ≤ s.size) (hok : EndOk s o e) : ∀ d i l c, e - (o + i) = d → o + i ≤ e → spot (s.extract o e) (e - o) i l c = spot s e (o + i) l c := by
  intro d
  induction d using Nat.strongRecOn with
  | _ d ih =>
    intro i l c hd hi
    have hsz := size_ext (a := o) he
    by_cases h : o + i < e
    · have hw := wd_pos s (o + i) (by omega)
      rw [spot_step _ _ _ _ _ (show i < e - o by omega) (by omega), spot_step _ _ _ _ _ h he, wd_ext he h hok, B_extract h he]
      have hx : ∀ l c, spot (s.extract o e) (e - o) (i + wd s (o + i)) l c = spot s e (o + i + wd s (o + i)) l c := by
        intro l c
        by_cases hle : o + (i + wd s (o + i)) ≤ e
        · rw [ih _ (by omega) (i + wd s (o + i)) l c rfl hle, Nat.add_assoc]
        · rw [spot_stop _ _ _ _ _ (by omega), spot_stop _ _ _ _ _ (by omega)]
      rw [hx, hx]
    · rw [spot_stop _ _ _ _ _ (by omega), spot_stop _ _ _ _ _ h]

end Go.Proofs.YtgaanohloocokaaDoor

-- I: Plain words: the first byte of a kind, as the library finds it. 
namespace Go.Proofs.YtgaanohloocokaaDoor
open Go.RowKit

def isNot (c : UInt8) (b : Nat) : Bool := b != c.toNat

theorem list_B {X : ByteArray} {k : Nat} (h : k < X.size) : X.data.toList[k]? = some X[k] := by
  rw [List.getElem?_eq_getElem (by simpa using h)]; rfl
theorem list_isNot {X : ByteArray} {k : Nat} {c : UInt8} (h : k < X.size) : (X.data.toList[k]? ≠ some c) ↔ isNot c (B X k) = true := by
  rw [list_B h, ← B_eq X k h]
  unfold isNot
  simp only [ne_eq, Option.some.injEq, bne_iff_ne]
  constructor
  · intro q e; exact q (UInt8.toNat_inj.1 e)
  · intro q e; exact q (by rw [e])

theorem index_many (X : ByteArray) (c : UInt8) : Lib.indexByte X.data.toList c = if many (isNot c) X 0 < X.size then (many (isNot c) X 0 : Int) else -1 := by
  have hlen : X.data.toList.length = X.size := by rw [Array.length_toList]; rfl
  have hge := Lib.indexByte_ge X.data.toList c
  by_cases hn : Lib.indexByte X.data.toList c = -1
  · have ha := Lib.indexByte_none hn
    have e : many (isNot c) X 0 = X.size := many_eq (d := X.size) rfl (by omega) (Nat.le_refl _) (fun j _ hj => (list_isNot hj).1 (ha j)) (fun h => absurd h (by omega))
    rw [hn, e, if_neg (by omega)]
  · obtain ⟨o, ho⟩ := Int.eq_ofNat_of_zero_le (a := Lib.indexByte X.data.toList c) (by omega)
    obtain ⟨h1, h2⟩ := Lib.indexByte_some ho
    have hlt : o < X.size := by
      rcases Nat.lt_or_ge o X.size with q | q
      · exact q
      · rw [List.getElem?_eq_none (by omega)] at h1; cases h1
    have e : many (isNot c) X 0 = o := many_eq (d := o) (by omega) (by omega) (by omega) (fun j _ hj => (list_isNot (by omega)).1 (h2 j hj)) (fun h => by
      have := mt (list_isNot (c := c) h).2
      cases hq : isNot c (B X o) with
      | false => rfl
      | true => exact absurd h1 ((list_isNot h).2 hq))
    rw [ho, e, if_pos hlt]

theorem many_tail (p : Nat → Bool) (s : ByteArray) (o k : Nat) (h : o + k ≤ s.size) : many p (s.extract o s.size) k = many p s (o + k) - o := by
  have hz := size_ext (s := s) (a := o) (Nat.le_refl s.size)
  have h1 := many_ge p s (o + k)
  have h2 := many_le p s h
  refine many_eq (d := many p s (o + k) - o - k) rfl (by omega) (by omega) (fun j a b => ?_) (fun hlt => ?_)
  · rw [B_extract (by omega) (Nat.le_refl _)]
    exact many_all p s (o + k) (by omega) (by omega)
  · rw [B_extract (by omega) (Nat.le_refl _), show o + (many p s (o + k) - o) = many p s (o + k) from by omega]
    exact many_end p s (o + k) (by omega)

theorem isNot_nl : isNot 10 = notNl := rfl

end Go.Proofs.YtgaanohloocokaaDoor

-- J: Plain words: the number that digits write, as the library reads it. 
namespace Go.Proofs.YtgaanohloocokaaDoor
open Go.RowKit

def dfold (n : Nat) (l : List UInt8) : Nat := l.foldl (fun n c => 10 * n + (c.toNat - 48)) n
theorem dfold_ge : ∀ (l : List UInt8) (n : Nat), n ≤ dfold n l
  | [], n => Nat.le_refl _
  | c :: r, n => by
    have := dfold_ge r (10 * n + (c.toNat - 48))
    simp only [dfold, List.foldl_cons] at this ⊢
    omega
theorem parse_digits : ∀ (l : List UInt8) (acc : Nat), (∀ c ∈ l, 48 ≤ c.toNat ∧ c.toNat ≤ 57) → acc < 18446744073709551616 →
    Lib.parseUint10 acc l = if dfold acc l < 18446744073709551616 then .ok (dfold acc l) else .range
  | [], acc, _, ha => by
    exact (if_pos (show dfold acc [] < 18446744073709551616 from ha)).symm
  | c :: r, acc, hd, ha => by
    have hc := hd c (by simp)
    have hg := dfold_ge r (10 * acc + (c.toNat - 48))
    have he : dfold acc (c :: r) = dfold (10 * acc + (c.toNat - 48)) r := rfl
    simp only [Lib.parseUint10]
    rw [if_pos hc, he]
    by_cases h1 : 1844674407370955162 ≤ acc
    · rw [if_pos h1, if_neg (by omega)]
    · rw [if_neg h1]
      by_cases h2 : 18446744073709551616 ≤ acc * 10 + (c.toNat - 48)
      · rw [if_pos h2, if_neg (by omega)]
      · rw [if_neg h2, show acc * 10 + (c.toNat - 48) = 10 * acc + (c.toNat - 48) from by omega]
        exact parse_digits r _ (fun x hx => hd x (by simp [hx])) (by omega)
theorem atoi_digits (l : List UInt8) (hne : l ≠ []) (hd : ∀ c ∈ l, 48 ≤ c.toNat ∧ c.toNat ≤ 57) :
    Lib.atoiAll l = if dfold 0 l < 9223372036854775808 then .ok (dfold 0 l : Int) else .range := by
  cases l with
  | nil => exact absurd rfl hne
  | cons c r =>
    have hc := hd c (by simp)
    have hp := parse_digits (c :: r) 0 hd (by omega)
    unfold Lib.atoiAll Lib.parseMag
    simp only
    rw [if_neg (show ¬ (c.toNat = 43 ∨ c.toNat = 45) by omega), if_neg (by simp), hp]
    by_cases h : dfold 0 (c :: r) < 18446744073709551616
    · rw [if_pos h]
      simp only
      by_cases h2 : dfold 0 (c :: r) < 9223372036854775808
      · rw [if_neg (by omega), if_neg (by omega), if_pos h2, if_neg (by omega)]
      · rw [if_pos ⟨by omega, by omega⟩, if_neg h2]
    · rw [if_neg h, if_neg (by omega)]

theorem dvalF_list (X : ByteArray) : ∀ d i n, X.size - i = d → dvalF X (X.size - i) i n = dfold n (X.data.toList.drop i) := by
  have hlen : X.data.toList.length = X.size := by rw [Array.length_toList]; rfl
  intro d
  induction d with
  | zero =>
    intro i n hd
    rw [hd, List.drop_eq_nil_of_le (by omega)]
    rfl
  | succ d ih =>
    intro i n hd
    have hlt : i < X.size := by omega
    have := ih (i + 1) (10 * n + (B X i - 48)) (by omega)
    rw [hd, List.drop_eq_getElem_cons (by omega)]
    rw [show X.size - (i + 1) = d from by omega] at this
    simp only [dvalF]
    rw [this, ← B_eq X i hlt]
    rfl
theorem dvalF_ext {s : ByteArray} {o e : Nat} (he : e ≤ s.size) : ∀ f i n, o + i + f ≤ e → dvalF (s.extract o e) f i n = dvalF s f (o + i) n := by
  intro f
  induction f with
  | zero => intro i n _; rfl
  | succ f ih =>
    intro i n h
    simp only [dvalF]
    rw [ih (i + 1) _ (by omega), B_extract (by omega) he]
    rfl
/-- what Atoi makes of a row of digits -/
theorem atoi_dval {s : ByteArray} {o e : Nat} (hoe : o < e) (he : e ≤ s.size) (hd : ∀ j, o ≤ j → j < e → isDig (B s j) = true) :
    Lib.atoiAll (s.extract o e).data.toList = if dval s o e < 9223372036854775808 then .ok (dval s o e : Int) else .range := by
  have hz := size_ext (s := s) (a := o) he
  have hlen : (s.extract o e).data.toList.length = (s.extract o e).size := by rw [Array.length_toList]; rfl
  have hD : dfold 0 (s.extract o e).data.toList = dval s o e := by
    have h1 := dvalF_list (s.extract o e) _ 0 0 rfl
    rw [List.drop_zero] at h1
    rw [← h1, hz]
    have h2 := dvalF_ext (o := o) he (e - o) 0 0 (by omega)
    rw [Nat.sub_zero, h2]
    rfl
  rw [atoi_digits, hD]
  · intro q; rw [q] at hlen; simp at hlen; omega
  · intro c hc
    obtain ⟨j, hj, rfl⟩ := List.mem_iff_getElem.1 hc
    have hj' : j < (s.extract o e).size := by omega
    have h1 := hd (o + j) (by omega) (by omega)
    rw [← B_extract (show o + j < e by omega) he, ← B_eq _ j hj'] at h1
    have : (s.extract o e).data.toList[j] = (s.extract o e)[j] := rfl
    rw [this]
    simp [isDig] at h1
    omega

end Go.Proofs.YtgaanohloocokaaDoor

-- K: Plain words: a number's shape by the bytes that are there or 0. 
namespace Go.Proofs.YtgaanohloocokaaDoor
open Go.RowKit

/-- the byte at a place, or 0 behind the end -/
def bv (s : ByteArray) (i : Nat) : Int := if i < s.size then (B s i : Int) else 0
theorem bv_ge (s : ByteArray) (i : Nat) : 0 ≤ bv s i := by unfold bv; split <;> omega
theorem bv_le (s : ByteArray) (i : Nat) : bv s i ≤ 255 := by unfold bv; have := B_lt s i; split <;> omega
theorem bv_in {s : ByteArray} {i : Nat} (h : i < s.size) : bv s i = B s i := by unfold bv; rw [if_pos h]
theorem bv_out {s : ByteArray} {i : Nat} (h : ¬ i < s.size) : bv s i = 0 := by unfold bv; rw [if_neg h]
theorem bv_let (s : ByteArray) (i : Nat) : isLet (bv s i).toNat = (decide (i < s.size) && isLet (B s i)) := by
  by_cases h : i < s.size
  · rw [bv_in h, decide_eq_true h, Int.toNat_natCast]; rfl
  · rw [bv_out h, decide_eq_false h]; rfl
theorem bv_dot (s : ByteArray) (i : Nat) : ((bv s i == 46) && isDig (bv s (i + 1)).toNat) = (decide (i + 1 < s.size) && B s i == 46 && isDig (B s (i + 1))) := by
  by_cases h : i + 1 < s.size
  · rw [bv_in h, bv_in (show i < s.size by omega), decide_eq_true h, Int.toNat_natCast, Bool.true_and]
    congr 1
    rw [Bool.eq_iff_iff]
    simp only [beq_iff_eq]
    omega
  · rw [bv_out h, decide_eq_false h]
    simp [isDig]

theorem numTok_bv (s : ByteArray) (i k : Nat) (hk : many isDig s i = k) : numTok s i =
    if (bv s k == 46 && isDig (bv s (k + 1)).toNat) = true then
      (if (B s i == 48 && decide (i + 1 < k) || isLet (bv s (many isDig s (k + 1))).toNat) = true then (Tk.zero, many isDig s (k + 1), 41) else (⟨3, s.extract i (many isDig s (k + 1)), 0⟩, many isDig s (k + 1), 0))
    else if (B s i == 48 && decide (i + 1 < k) || decide (1000000000 < dval s i k) || isLet (bv s k).toNat) = true then (Tk.zero, k, 41) else (⟨2, ⟨#[]⟩, dval s i k⟩, k, 0) := by
  subst hk
  unfold numTok
  simp only
  rw [bv_dot]
  split
  · rw [bv_let]
  · rw [bv_let]

theorem fin_real {α : Type} {z lt lq : Bool} {a b N : α} (h : (if (z && lt || lq) = true then a else b) = N) :
    (lt = true → z = true → a = N) ∧ (lq = true → a = N) ∧ ((lt = false ∨ z = false) → lq = false → b = N) := by
  cases z <;> cases lt <;> cases lq <;> simp_all
theorem fin_int {α : Type} {z lt big lq : Bool} {a b N : α} (h : (if (z && lt || big || lq) = true then a else b) = N) :
    (lt = true → z = true → a = N) ∧ (lq = true → a = N) ∧ (big = true → a = N) ∧ ((lt = false ∨ z = false) → big = false → lq = false → b = N) := by
  cases z <;> cases lt <;> cases big <;> cases lq <;> simp_all

end Go.Proofs.YtgaanohloocokaaDoor

-- L: Plain words: quoted texts as the program finds them. 
namespace Go.Proofs.YtgaanohloocokaaDoor
open Go.RowKit

theorem text_none {s : ByteArray} {o : Nat} (h : ¬ many (isNot 34) s (o + 1) < s.size) : ¬ (many inText s (o + 1) < s.size ∧ B s (many inText s (o + 1)) = 34) := by
  rintro ⟨a, b⟩
  have h1 := many_ge inText s (o + 1)
  have := many_all (isNot 34) s (o + 1) h1 (by omega)
  simp [isNot, b] at this
theorem text_nl {s : ByteArray} {o : Nat} (h : many (isNot 34) s (o + 1) < s.size) (hm : many (isNot 10) (s.extract (o + 1) (many (isNot 34) s (o + 1))) 0 < (s.extract (o + 1) (many (isNot 34) s (o + 1))).size) :
    ¬ (many inText s (o + 1) < s.size ∧ B s (many inText s (o + 1)) = 34) := by
  rintro ⟨a, b⟩
  have hg := many_ge (isNot 34) s (o + 1)
  have he := many_end (isNot 10) _ 0 hm
  rw [size_ext (by omega)] at hm
  rw [B_extract (by omega) (by omega)] at he
  simp [isNot] at he
  have hk : many inText s (o + 1) ≤ o + 1 + many (isNot 10) (s.extract (o + 1) (many (isNot 34) s (o + 1))) 0 := by
    rcases Nat.lt_or_ge (o + 1 + many (isNot 10) (s.extract (o + 1) (many (isNot 34) s (o + 1))) 0) (many inText s (o + 1)) with q | q
    · have := many_all inText s (o + 1) (by omega) q
      simp [inText, he] at this
    · exact q
  have h1 := many_ge inText s (o + 1)
  have := many_all (isNot 34) s (o + 1) h1 (by omega)
  simp [isNot, b] at this
theorem text_ok {s : ByteArray} {o : Nat} (h : many (isNot 34) s (o + 1) < s.size) (hm : ¬ many (isNot 10) (s.extract (o + 1) (many (isNot 34) s (o + 1))) 0 < (s.extract (o + 1) (many (isNot 34) s (o + 1))).size) :
    many inText s (o + 1) = many (isNot 34) s (o + 1) ∧ B s (many (isNot 34) s (o + 1)) = 34 := by
  have hg := many_ge (isNot 34) s (o + 1)
  have he := many_end (isNot 34) s (o + 1) h
  simp [isNot] at he
  refine ⟨many_eq rfl hg (by omega) (fun j a b => ?_) (fun _ => by simp [inText, he]), he⟩
  have h1 := many_all (isNot 34) s (o + 1) a b
  rw [size_ext (by omega)] at hm
  have h2 := many_all (isNot 10) (s.extract (o + 1) (many (isNot 34) s (o + 1))) 0 (Nat.zero_le (j - (o + 1))) (by omega)
  rw [B_extract (by omega) (by omega), show o + 1 + (j - (o + 1)) = j from by omega] at h2
  simp [isNot] at h1 h2
  simp [inText]
  omega

end Go.Proofs.YtgaanohloocokaaDoor

-- M: Plain words: a mark as a prefix. 
namespace Go.Proofs.YtgaanohloocokaaDoor
open Go.RowKit

theorem ext_take {s : ByteArray} {o k : Nat} (h : o + k ≤ s.size) : (s.extract o (o + k)).data.toList = (s.extract o s.size).data.toList.take k := by
  rw [ByteArray.data_extract, ByteArray.data_extract, Array.toList_extract, Array.toList_extract, List.extract_eq_take_drop, List.extract_eq_take_drop, List.take_take]
  congr 1
  omega
theorem prefix_mark (s : ByteArray) (o m : Nat) (ho : o ≤ s.size) : Lib.hasPrefix (s.extract o s.size).data.toList (MK m).data.toList = markAt s o m := by
  have hl : (s.extract o s.size).data.toList.length = s.size - o := by
    rw [Array.length_toList]; exact size_ext (Nat.le_refl _)
  have hp : (MK m).data.toList.length = (MK m).size := by rw [Array.length_toList]; rfl
  rw [Bool.eq_iff_iff, markAt_iff]
  unfold Lib.hasPrefix
  rw [List.isPrefixOf_iff_prefix, List.prefix_iff_eq_take, hp]
  constructor
  · intro e
    have e2 := congrArg List.length e
    rw [hp, List.length_take, hl] at e2
    have hle : o + (MK m).size ≤ s.size := by omega
    refine ⟨hle, ba_ext ?_⟩
    rw [ext_take hle, ← e]
  · rintro ⟨hle, e⟩
    rw [← ext_take hle, e]
theorem mark_ascii {s : ByteArray} {o m : Nat} (hm : m < 10) (h : markAt s o m = true) : EndOk s o (o + (MK m).size) := by
  have hx := (markAt_iff s o m).1 h
  have hz := MK_size m
  refine Or.inr (Or.inr ⟨by omega, ?_⟩)
  by_cases h2 : 2 ≤ m
  · have h1 : (MK m).size = 1 := by
      match m, h2, hm with
      | 2, _, _ => rfl | 3, _, _ => rfl | 4, _, _ => rfl | 5, _, _ => rfl | 6, _, _ => rfl | 7, _, _ => rfl | 8, _, _ => rfl | 9, _, _ => rfl
      | n + 10, _, h => omega
    rw [h1] at hx ⊢
    have := (markAt_n h2 (show o < s.size by omega)).1 h
    rw [show o + 1 - 1 = o from rfl, this]
    unfold mkB
    split <;> omega
  · match m, h with
    | 0, h => have := markAt_0.1 h; show B s (o + 1) < 128; omega
    | 1, h => have := markAt_1.1 h; show B s (o + 1) < 128; omega
    | n + 2, _ => omega

end Go.Proofs.YtgaanohloocokaaDoor

-- N: Plain words: writing a token. 
namespace Go.Proofs.YtgaanohloocokaaDoor
open Go.RowKit

/-- the text that a token is written as -/
def wtxt (k n : Int) (t : ByteArray) : ByteArray := if k = 0 then ⟨#[]⟩ else if k = 2 then ⟨(Lib.itoa n).toArray⟩ else if k = 4 then (⟨#[34]⟩ : ByteArray) ++ t ++ ⟨#[34]⟩ else t
/-- does the first token of the text, which must be all of it, say the token -/
def sayB (N : Tk × Nat × Int) (z : Nat) (k n : Int) (t : ByteArray) : Bool := N.2.2 == 0 && ((N.2.1 : Int) == z && (N.1.k == k && (N.1.t.toList == t.toList && N.1.n == n)))
def writeB (k n : Int) (t : ByteArray) : Bool := sayB (one (wtxt k n t) 0) (wtxt k n t).size k n t
def writeV (k n : Int) (t : ByteArray) : Value := if writeB k n t = true then .tuple #[.string (wtxt k n t), .int .i64 0] else .tuple #[.string ⟨#[]⟩, .int .i64 2]

theorem numTok_kind (s : ByteArray) (i : Nat) : 0 ≤ (numTok s i).1.k ∧ (numTok s i).1.k ≤ 5 := by
  unfold numTok
  simp only
  split <;> split <;> simp [Tk.zero]
theorem one_kind (s : ByteArray) (i : Nat) : 0 ≤ (one s i).1.k ∧ (one s i).1.k ≤ 5 := by
  unfold one
  split
  · simp [Tk.zero]
  · split
    · simp only; split <;> simp [Tk.zero]
    · split
      · exact numTok_kind s i
      · split
        · simp only; split <;> simp [Tk.zero]
        · split
          · simp
          · split <;> simp [Tk.zero]
theorem write_out {k n : Int} {t : ByteArray} (h : ¬ (0 ≤ k ∧ k ≤ 5)) : writeV k n t = .tuple #[.string ⟨#[]⟩, .int .i64 2] := by
  unfold writeV
  rw [if_neg]
  intro hw
  unfold writeB sayB at hw
  simp only [Bool.and_eq_true, beq_iff_eq] at hw
  have := one_kind (wtxt k n t) 0
  omega
theorem wtxt_0 (n : Int) (t : ByteArray) : wtxt 0 n t = ⟨#[]⟩ := rfl
theorem wtxt_2 (n : Int) (t : ByteArray) : wtxt 2 n t = ⟨(Lib.itoa n).toArray⟩ := rfl
theorem wtxt_4 (n : Int) (t : ByteArray) : wtxt 4 n t = (⟨#[34]⟩ : ByteArray) ++ t ++ ⟨#[34]⟩ := rfl
theorem wtxt_t {k n : Int} {t : ByteArray} (h0 : ¬ k = 0) (h2 : ¬ k = 2) (h4 : ¬ k = 4) : wtxt k n t = t := by
  unfold wtxt; rw [if_neg h0, if_neg h2, if_neg h4]
theorem wtxt_size {k n : Int} {t : ByteArray} (hn : -9223372036854775808 ≤ n ∧ n ≤ 9223372036854775807) : (wtxt k n t).size ≤ t.size + 21 := by
  have h := Lib.itoa_length_le n hn.1 hn.2
  unfold wtxt
  split
  · show 0 ≤ _; omega
  · split
    · show (Lib.itoa n).toArray.size ≤ _
      rw [List.size_toArray]; omega
    · split
      · rw [ByteArray.size_append, ByteArray.size_append]
        show 1 + t.size + 1 ≤ _; omega
      · omega
/-- the answer by the single tests -/
theorem write_all {k n : Int} {t s : ByteArray} {N : Tk × Nat × Int} (hs : wtxt k n t = s) (hN : one s 0 = N) {b0 b1 b2 b3 b4 : Bool} (h0 : (N.2.2 == 0) = b0) (h1 : ((N.2.1 : Int) == s.size) = b1) (h2 : (N.1.k == k) = b2) (h3 : (N.1.t.toList == t.toList) = b3) (h4 : (N.1.n == n) = b4) :
    writeV k n t = if (b0 && (b1 && (b2 && (b3 && b4)))) = true then .tuple #[.string s, .int .i64 0] else .tuple #[.string ⟨#[]⟩, .int .i64 2] := by
  unfold writeV writeB sayB
  rw [hs, hN, h0, h1, h2, h3, h4]

end Go.Proofs.YtgaanohloocokaaDoor

-- O: Plain words: writing a token by scanning its text. 
namespace Go.Proofs.YtgaanohloocokaaDoor
open Go.RowKit

/-- does scanning say the token, and, but for the empty text, nothing else -/
def sayS (R : Sc) (z : Nat) (k n : Int) (t : ByteArray) : Bool :=
  R.2.1 == 0 && (match R.1 with | x :: r => (x.t.k == k && (x.t.t.toList == t.toList && x.t.n == n)) && (z == 0 || r.length == 1) | [] => false)
def writeS (k n : Int) (t : ByteArray) : Value := if sayS (scan (wtxt k n t)) (wtxt k n t).size k n t = true then .tuple #[.string (wtxt k n t), .int .i64 0] else .tuple #[.string ⟨#[]⟩, .int .i64 2]
theorem scanF_ne (s : ByteArray) : ∀ f i, s.size < f + i → i ≤ s.size → Bd s i → (scanF s f i).2.1 = 0 → (scanF s f i).1 ≠ [] := by
  intro f
  induction f with
  | zero => intro i h1 h2; omega
  | succ f ih =>
    intro i h1 h2 hb h3
    rw [← join_nil] at h3 ⊢
    by_cases he : (one s (skip s i)).2.2 = 0
    · by_cases hk : (one s (skip s i)).1.k = 0
      · rw [scan_end he hk]; simp
      · rw [scan_more he hk] at h3 ⊢
        unfold joinSc at h3 ⊢
        split
        · simp
        · rename_i h; rw [if_neg h] at h3; exact absurd h3 h
    · rw [scan_err he] at h3; exact absurd h3 he
theorem scan_ne {s : ByteArray} {l : List Tp} {o : Nat} (h : scan s = (l, 0, o)) : l ≠ [] := by
  have := scanF_ne s (s.size + 1) 0 (by omega) (by omega) (Bd_zero s)
  unfold scan at h
  rw [h] at this
  exact this rfl
theorem writeS_err {k n : Int} {t s : ByteArray} {l : List Tp} {c : Int} {o : Nat} (hs : wtxt k n t = s) (hR : scan s = (l, c, o)) (hc : ¬ c = 0) : writeS k n t = .tuple #[.string ⟨#[]⟩, .int .i64 2] := by
  unfold writeS sayS
  rw [hs, hR]
  simp [hc]
theorem writeS_all {k n : Int} {t s : ByteArray} {x : Tp} {r : List Tp} {o : Nat} (hs : wtxt k n t = s) (hR : scan s = (x :: r, 0, o)) {b2 b3 b4 b5 b6 : Bool} (h2 : (x.t.k == k) = b2) (h3 : (x.t.t.toList == t.toList) = b3) (h4 : (x.t.n == n) = b4) (h5 : (s.size == 0) = b5) (h6 : (r.length == 1) = b6) :
    writeS k n t = if ((b2 && (b3 && b4)) && (b5 || b6)) = true then .tuple #[.string s, .int .i64 0] else .tuple #[.string ⟨#[]⟩, .int .i64 2] := by
  unfold writeS sayS
  rw [hs, hR, ← h2, ← h3, ← h4, ← h5, ← h6]
  simp

end Go.Proofs.YtgaanohloocokaaDoor

-- P: Plain words: one token that spans the whole text; names by scanning. 
namespace Go.Proofs.YtgaanohloocokaaDoor
open Go.RowKit

theorem one_start {s : ByteArray} {i : Nat} (h : (one s i).2.2 = 0) (hk : (one s i).1.k ≠ 0) : i < s.size ∧ isBlank (B s i) = false ∧ isCom s i = false := by
  unfold one at h hk
  split at h
  · rename_i c; rw [if_pos c] at hk; exact absurd rfl hk
  · rename_i c
    rw [if_neg c] at hk
    have hlt : i < s.size := by omega
    refine ⟨hlt, ?_⟩
    have key : ¬ B s i = 32 → ¬ B s i = 9 → ¬ B s i = 10 → ¬ B s i = 13 → ¬ B s i = 47 → isBlank (B s i) = false ∧ isCom s i = false := by
      intro a b c d e
      simp [isBlank, isCom, a, b, c, d, e]
    split at h
    · rename_i hl
      simp [isLet] at hl
      exact key (by omega) (by omega) (by omega) (by omega) (by omega)
    · rename_i hl
      rw [if_neg hl] at hk
      split at h
      · rename_i hd
        simp [isDig] at hd
        exact key (by omega) (by omega) (by omega) (by omega) (by omega)
      · rename_i hd
        rw [if_neg hd] at hk
        split at h
        · exact key (by omega) (by omega) (by omega) (by omega) (by omega)
        · rename_i hq
          rw [if_neg hq] at hk
          split at h
          · rename_i hm
            simp [isMark2] at hm
            exact key (by omega) (by omega) (by omega) (by omega) (by omega)
          · rename_i hm
            rw [if_neg hm] at hk
            split at h
            · rename_i h1
              simp [isMark1] at h1
              exact key (by omega) (by omega) (by omega) (by omega) (by omega)
            · exact absurd h (by simp)
theorem one_past (s : ByteArray) : one s s.size = (Tk.zero, s.size, 0) := by unfold one; rw [if_pos (Nat.le_refl _)]
/-- a token that spans the whole text -/
theorem scan_span {s : ByteArray} {x : Tk} (h : one s 0 = (x, s.size, 0)) (hk : x.k ≠ 0) : skip s 0 = 0 ∧ scan s = ([mkTp s 0 x, mkTp s s.size Tk.zero], 0, 0) := by
  obtain ⟨h1, h2, h3⟩ := one_start (s := s) (i := 0) (by rw [h]) (by rw [h]; exact hk)
  have h0 : skip s 0 = 0 := skip_stop h2 h3
  refine ⟨h0, ?_⟩
  obtain ⟨f, hf⟩ : ∃ f, s.size = f + 1 := ⟨s.size - 1, by omega⟩
  have e2 : scanF s s.size s.size = ([mkTp s s.size Tk.zero], 0, 0) := by
    rw [show scanF s s.size s.size = scanF s (f + 1) s.size from by rw [hf], ← join_nil]
    have hs := skip_out (s := s) (i := s.size) (by omega)
    rw [scan_end (by rw [hs, one_past]) (by rw [hs, one_past]; rfl), hs, one_past]
    rfl
  unfold scan
  rw [← join_nil, scan_more (by rw [h0, h]) (by rw [h0, h]; exact hk), h0, h, e2]
  rfl
theorem scan_head {s : ByteArray} {x : Tp} {r : List Tp} {o : Nat} (h : scan s = (x :: r, 0, o)) : x = mkTp s (skip s 0) (one s (skip s 0)).1 := by
  unfold scan at h
  rw [← join_nil] at h
  by_cases he : (one s (skip s 0)).2.2 = 0
  · by_cases hk : (one s (skip s 0)).1.k = 0
    · rw [scan_end he hk] at h
      simp at h; exact h.1.1.symm
    · rw [scan_more he hk] at h
      unfold joinSc at h
      split at h
      · simp at h; exact h.1.1.symm
      · simp at h
  · rw [scan_err he] at h
    simp at h
theorem numTok_k1 (s : ByteArray) (j : Nat) : (numTok s j).1.k ≠ 1 := by
  unfold numTok
  simp only
  split <;> split <;> simp [Tk.zero]
theorem one_k1 {s : ByteArray} {j : Nat} (h : (one s j).1.k = 1) : j < s.size ∧ isLet (B s j) = true ∧ (one s j).1.t = s.extract j (many isWord s j) ∧ many isWord s j - j ≤ 32 := by
  unfold one at h ⊢
  split at h
  · exact absurd h (by simp [Tk.zero])
  · rename_i c
    rw [if_neg c]
    split at h
    · rename_i hl
      rw [if_pos hl]
      simp only at h ⊢
      split at h
      · exact absurd h (by simp [Tk.zero])
      · rename_i h32
        rw [if_neg h32]
        exact ⟨by omega, hl, rfl, by omega⟩
    · split at h
      · exact absurd h (numTok_k1 s j)
      · split at h
        · simp only at h
          split at h <;> exact absurd h (by simp [Tk.zero])
        · split at h
          · exact absurd h (by simp)
          · split at h <;> exact absurd h (by simp [Tk.zero])
theorem ext_all (s : ByteArray) : s.extract 0 s.size = s := by
  simp
theorem name_scan (s : ByteArray) : nameB s = true ↔ ∃ x y o, scan s = ([x, y], 0, o) ∧ x.t.k = 1 ∧ x.t.t = s := by
  constructor
  · intro h
    unfold nameB at h
    simp only [Bool.and_eq_true, decide_eq_true_eq] at h
    obtain ⟨⟨⟨h0, h32⟩, hl⟩, hm⟩ := h
    have h1 : one s 0 = (⟨1, s, 0⟩, s.size, 0) := by
      unfold one
      rw [if_neg (by omega), if_pos hl]
      simp only
      rw [hm, if_neg (by omega), ext_all]
    obtain ⟨_, e⟩ := scan_span h1 (by simp)
    exact ⟨_, _, _, e, rfl, rfl⟩
  · rintro ⟨x, y, o, h, hk, ht⟩
    have hx := scan_head h
    have hj := skip_le (s := s) (i := 0) (by omega)
    generalize skip s 0 = j at hx hj
    subst hx
    obtain ⟨a, b, c, d⟩ := one_k1 hk
    have ht' : s.extract j (many isWord s j) = s := by rw [← c]; exact ht
    have hle := many_le isWord s (i := j) (by omega)
    have hge := many_ge isWord s j
    have hsz : many isWord s j - j = s.size := by rw [← size_ext hle, ht']
    have hj0 : j = 0 := by omega
    subst hj0
    unfold nameB
    rw [b, decide_eq_true (show 0 < s.size from a), decide_eq_true (show s.size ≤ 32 by omega), decide_eq_true (show many isWord s 0 = s.size by omega)]
    rfl

end Go.Proofs.YtgaanohloocokaaDoor

-- Q: Plain words: both ways of checking a written token agree. 
namespace Go.Proofs.YtgaanohloocokaaDoor
open Go.RowKit

theorem numTok_text (s : ByteArray) (j : Nat) (hj : j < s.size) (hd : isDig (B s j) = true) (h : (numTok s j).1.k = 3) : (numTok s j).1.t = s.extract j (numTok s j).2.1 := by
  unfold numTok at h ⊢
  simp only at h ⊢
  split at h
  · rename_i c
    rw [if_pos c]
    split at h
    · exact absurd h (by simp [Tk.zero])
    · rename_i c2; rw [if_neg c2]
  · split at h
    · exact absurd h (by simp [Tk.zero])
    · exact absurd h (by simp)
/-- the text of a name, a real or a mark is what it spans -/
theorem one_text {s : ByteArray} {j : Nat} (h : (one s j).1.k = 1 ∨ (one s j).1.k = 3 ∨ (one s j).1.k = 5) : (one s j).1.t = s.extract j (one s j).2.1 := by
  unfold one at h ⊢
  split at h
  · exact absurd h (by simp [Tk.zero])
  · rename_i c
    rw [if_neg c]
    split at h
    · rename_i hl
      rw [if_pos hl]
      simp only at h ⊢
      split at h
      · exact absurd h (by simp [Tk.zero])
      · rename_i h32
        rw [if_neg h32]
    · rename_i hl
      rw [if_neg hl]
      split at h
      · rename_i hd
        rw [if_pos hd]
        have hk : (numTok s j).1.k = 3 := by
          rcases h with h | h | h
          · exact absurd h (numTok_k1 s j)
          · exact h
          · revert h; unfold numTok; simp only; split <;> split <;> simp [Tk.zero]
        exact numTok_text s j (by omega) hd hk
      · rename_i hd
        rw [if_neg hd]
        split at h
        · simp only at h
          split at h <;> exact absurd h (by simp [Tk.zero])
        · rename_i hq
          rw [if_neg hq]
          split at h
          · rename_i hm; rw [if_pos hm]
          · rename_i hm
            rw [if_neg hm]
            split at h
            · rename_i h1; rw [if_pos h1]
            · exact absurd h (by simp [Tk.zero])
theorem numTok_k4 (s : ByteArray) (j : Nat) : (numTok s j).1.k ≠ 4 := by
  unfold numTok
  simp only
  split <;> split <;> simp [Tk.zero]
/-- a quoted text lies between its quotes -/
theorem one_k4 {s : ByteArray} {j : Nat} (h : (one s j).1.k = 4) : ∃ K, (one s j).1.t = s.extract (j + 1) K ∧ (one s j).2.1 = K + 1 ∧ K < s.size ∧ j + 1 ≤ K := by
  unfold one at h ⊢
  split at h
  · exact absurd h (by simp [Tk.zero])
  · rename_i c
    rw [if_neg c]
    split at h
    · simp only at h
      split at h <;> exact absurd h (by simp [Tk.zero])
    · rename_i hl
      rw [if_neg hl]
      split at h
      · exact absurd h (numTok_k4 s j)
      · rename_i hd
        rw [if_neg hd]
        split at h
        · rename_i hq
          rw [if_pos hq]
          simp only at h ⊢
          split at h
          · rename_i c2
            rw [if_pos c2]
            exact ⟨_, rfl, rfl, c2.1, many_ge _ _ _⟩
          · exact absurd h (by simp [Tk.zero])
        · split at h
          · exact absurd h (by simp)
          · split at h <;> exact absurd h (by simp [Tk.zero])
theorem scan_head2 {s : ByteArray} {x : Tp} {r : List Tp} {o : Nat} (h : scan s = (x :: r, 0, o)) : (one s (skip s 0)).2.2 = 0 := by
  unfold scan at h
  rw [← join_nil] at h
  by_cases he : (one s (skip s 0)).2.2 = 0
  · exact he
  · rw [scan_err he] at h
    simp at h

end Go.Proofs.YtgaanohloocokaaDoor

-- R: Plain words: both ways of checking a written token agree. 
namespace Go.Proofs.YtgaanohloocokaaDoor
open Go.RowKit

theorem dec_digits (u : Nat) : Lib.decDigits u ≠ [] ∧ ∀ c ∈ Lib.decDigits u, 48 ≤ c.toNat ∧ c.toNat ≤ 57 := by
  induction u using Nat.strongRecOn with
  | _ u ih =>
    rw [Lib.decDigits]
    split
    · refine ⟨by simp, ?_⟩
      intro c hc
      simp at hc
      subst hc
      simp [UInt8.toNat_ofNat']
      omega
    · obtain ⟨a, b⟩ := ih (u / 10) (by omega)
      refine ⟨by simp, ?_⟩
      intro c hc
      simp at hc
      rcases hc with hc | hc
      · exact b c hc
      · subst hc
        simp [UInt8.toNat_ofNat']
        omega
/-- the digits of a number are one token -/
theorem itoa_many {n : Int} (h : 0 ≤ n) : 0 < (⟨(Lib.itoa n).toArray⟩ : ByteArray).size ∧ ∀ j, j < (⟨(Lib.itoa n).toArray⟩ : ByteArray).size → isDig (B ⟨(Lib.itoa n).toArray⟩ j) = true := by
  obtain ⟨u, rfl⟩ := Int.eq_ofNat_of_zero_le h
  rw [Lib.itoa_nonneg]
  obtain ⟨a, b⟩ := dec_digits u
  have hz : (⟨(Lib.decDigits u).toArray⟩ : ByteArray).size = (Lib.decDigits u).length := by
    show (Lib.decDigits u).toArray.size = _
    simp
  refine ⟨by rw [hz]; exact List.length_pos_iff.2 a, fun j hj => ?_⟩
  rw [← B_eq _ j hj]
  rw [hz] at hj
  have hc := b ((Lib.decDigits u)[j]) (List.getElem_mem hj)
  have he : (⟨(Lib.decDigits u).toArray⟩ : ByteArray)[j]'(by rw [hz]; exact hj) = (Lib.decDigits u)[j] := by
    show (Lib.decDigits u).toArray[j]'_ = _
    simp
  rw [he]
  simp [isDig, hc.1, hc.2]
theorem numTok_n (s : ByteArray) (j : Nat) : 0 ≤ (numTok s j).1.n := by
  unfold numTok
  simp only
  split <;> split <;> simp [Tk.zero]
theorem one_n (s : ByteArray) (j : Nat) : 0 ≤ (one s j).1.n := by
  unfold one
  split
  · simp [Tk.zero]
  · split
    · simp only; split <;> simp [Tk.zero]
    · split
      · exact numTok_n s j
      · split
        · simp only; split <;> simp [Tk.zero]
        · split
          · simp
          · split <;> simp [Tk.zero]
theorem one_digits {s : ByteArray} (h0 : 0 < s.size) (h : ∀ j, j < s.size → isDig (B s j) = true) : skip s 0 = 0 ∧ (one s 0).2.1 = s.size := by
  have hd := h 0 h0
  have hl : isLet (B s 0) = false := by
    simp [isDig] at hd
    simp [isLet]; omega
  have hm : many isDig s 0 = s.size := many_eq rfl (by omega) (Nat.le_refl _) (fun j _ b => h j b) (fun q => absurd q (by omega))
  have hb : isBlank (B s 0) = false ∧ isCom s 0 = false := by
    simp [isDig] at hd
    have : ¬ B s 0 = 47 := by omega
    simp [isBlank, isCom, this]; omega
  refine ⟨skip_stop hb.1 hb.2, ?_⟩
  unfold one
  rw [if_neg (by omega), if_neg (by rw [hl]; simp), if_pos hd]
  unfold numTok
  simp only [hm]
  rw [if_neg (by simp only [Bool.and_eq_true, decide_eq_true_eq]; omega)]
  split <;> rfl

end Go.Proofs.YtgaanohloocokaaDoor

-- S: Plain words: both ways of checking a written token agree. 
namespace Go.Proofs.YtgaanohloocokaaDoor
open Go.RowKit

theorem sayB_iff (N : Tk × Nat × Int) (z : Nat) (k n : Int) (t : ByteArray) : sayB N z k n t = true ↔ N = (⟨k, t, n⟩, z, 0) := by
  obtain ⟨⟨a, b, c⟩, d, e⟩ := N
  unfold sayB
  simp only [Bool.and_eq_true, beq_iff_eq, Prod.mk.injEq, Tk.mk.injEq]
  constructor
  · rintro ⟨h0, h1, h2, h3, h4⟩
    exact ⟨⟨h2, ba_ext (by rw [← ByteArray.toList_eq, ← ByteArray.toList_eq]; exact h3), h4⟩, by omega, h0⟩
  · rintro ⟨⟨h2, h3, h4⟩, h1, h0⟩
    exact ⟨h0, by omega, h2, by rw [h3], h4⟩
theorem sayS_of {x : Tp} {r : List Tp} {o z : Nat} {k n : Int} {t : ByteArray} (h : sayS (x :: r, 0, o) z k n t = true) : x.t = ⟨k, t, n⟩ := by
  unfold sayS at h
  simp only [Bool.and_eq_true, beq_iff_eq] at h
  obtain ⟨_, ⟨h1, h2, h3⟩, _⟩ := h
  obtain ⟨⟨a, b, c⟩, _⟩ := x
  simp only at h1 h2 h3
  rw [h1, h3, ba_ext (a := b) (b := t) (by rw [← ByteArray.toList_eq, ← ByteArray.toList_eq]; exact h2)]
theorem size_nil : (⟨#[]⟩ : ByteArray).size = 0 := rfl
theorem one_nil : one ⟨#[]⟩ 0 = (Tk.zero, 0, 0) := by unfold one; rw [if_pos (by rw [size_nil]; omega)]
theorem scan_nil : scan ⟨#[]⟩ = ([mkTp ⟨#[]⟩ 0 Tk.zero], 0, 0) := by
  have hs : skip ⟨#[]⟩ 0 = 0 := skip_out (by rw [size_nil]; omega)
  unfold scan
  rw [← join_nil, scan_end (by rw [hs, one_nil]) (by rw [hs, one_nil]; rfl), hs, one_nil]
  rfl
theorem say_eq (k n : Int) (t : ByteArray) : sayS (scan (wtxt k n t)) (wtxt k n t).size k n t = sayB (one (wtxt k n t) 0) (wtxt k n t).size k n t := by
  rw [Bool.eq_iff_iff, sayB_iff]
  by_cases hk : k = 0
  · subst hk
    rw [wtxt_0, scan_nil, one_nil, size_nil]
    constructor
    · intro h
      rw [← sayS_of h]; rfl
    · intro h
      simp only [Prod.mk.injEq, and_true] at h
      unfold sayS
      simp only [mkTp, h]
      simp
  · obtain ⟨s, hs⟩ : ∃ s, wtxt k n t = s := ⟨_, rfl⟩
    rw [hs]
    constructor
    · intro h
      obtain ⟨R, hR⟩ : ∃ R, scan s = R := ⟨_, rfl⟩
      rw [hR] at h
      obtain ⟨l, c, o⟩ := R
      have hc : c = 0 := by unfold sayS at h; simp only [Bool.and_eq_true, beq_iff_eq] at h; exact h.1
      subst hc
      rcases l with _ | ⟨x, r⟩
      · unfold sayS at h; simp at h
      · have hx := scan_head hR
        have he := scan_head2 hR
        have ht := sayS_of h
        have hj := skip_le (s := s) (i := 0) (by omega)
        rw [hx] at ht
        simp only [mkTp] at ht
        obtain ⟨hlt, _, _⟩ := one_start he (by rw [ht]; exact hk)
        have hsp := one_spec s (skip s 0) hj (skip_Bd (by omega) (Bd_zero s))
        have key : skip s 0 = 0 ∧ (one s (skip s 0)).2.1 = s.size := by
          by_cases h2 : k = 2
          · subst h2
            rw [wtxt_2] at hs
            have hn := one_n s (skip s 0)
            rw [ht] at hn
            obtain ⟨a, b⟩ := itoa_many (n := n) hn
            rw [hs] at a b
            obtain ⟨c, d⟩ := one_digits a b
            exact ⟨c, by rw [c]; exact d⟩
          · by_cases h4 : k = 4
            · subst h4
              rw [wtxt_4] at hs
              obtain ⟨K, a, b, c, d⟩ := one_k4 (s := s) (j := skip s 0) (by rw [ht])
              rw [ht] at a
              simp only at a
              have hz : s.size = 1 + t.size + 1 := by rw [← hs, ByteArray.size_append, ByteArray.size_append]; rfl
              have hz2 : t.size = K - (skip s 0 + 1) := by rw [a, size_ext (by omega)]
              omega
            · have hw := wtxt_t (n := n) (t := t) hk h2 h4
              rw [hw] at hs
              subst hs
              have hkk := one_kind t (skip t 0)
              rw [ht] at hkk
              simp only at hkk
              have a := one_text (s := t) (j := skip t 0) (by rw [ht]; simp only; omega)
              rw [ht] at a
              simp only at a
              have hz2 : t.size = (one t (skip t 0)).2.1 - skip t 0 := by
                have := congrArg ByteArray.size a
                rwa [size_ext hsp.2.1] at this
              omega
        rw [key.1] at ht he key
        rw [← ht]
        exact Prod.ext rfl (Prod.ext key.2 he)
    · intro h
      obtain ⟨_, e⟩ := scan_span h hk
      rw [e]
      unfold sayS
      simp [mkTp]
theorem writeS_eq (k n : Int) (t : ByteArray) : writeS k n t = writeV k n t := by
  unfold writeS writeV writeB
  rw [say_eq]

end Go.Proofs.YtgaanohloocokaaDoor

-- T: Plain words: rows of tokens, and joining them. 
namespace Go.Proofs.YtgaanohloocokaaDoor
open Go.RowKit

/-- a token as it lies in memory -/
structure Tq where
  k : Int
  t : ByteArray
  n : Int
  o : Int
  l : Int
  c : Int
def Tq.cells (x : Tq) : List Value := [.int .i64 x.k, .string x.t, .int .i64 x.n, .int .i64 x.o, .int .i64 x.l, .int .i64 x.c]
def Tp.q (x : Tp) : Tq := ⟨x.t.k, x.t.t, x.t.n, x.o, x.l, x.c⟩
def Tq.ok (x : Tq) : Prop := (-9223372036854775808 ≤ x.n ∧ x.n ≤ 9223372036854775807) ∧ x.t.size ≤ 90000000

def wq (x : Tq) : ByteArray := wtxt x.k x.n x.t
/-- may the token not be joined, 'm' more behind it -/
def badQ (x : Tq) (m : Nat) : Bool := !writeB x.k x.n x.t || (x.k == 0 && decide (0 < m))
def jBad : List Tq → Bool
  | [] => false
  | x :: r => badQ x r.length || jBad r
def joinL (l : List Tq) : List UInt8 := Lib.join ((l.map wq).map (·.data.toList)) [32]
def joinA (l : List Tq) : ByteArray := ⟨(joinL l).toArray⟩
def joinV (l : List Tq) : Value := if jBad l = true then .tuple #[.string ⟨#[]⟩, .int .i64 2] else .tuple #[.string (joinA l), .int .i64 0]

theorem jBad_append (pre : List Tq) (x : Tq) (r : List Tq) (h : badQ x r.length = true) : jBad (pre ++ x :: r) = true := by
  induction pre with
  | nil => simp [jBad, h]
  | cons y p ih => simp [jBad, ih]
theorem joinA_nil : joinA [] = ⟨#[]⟩ := rfl
theorem joinA_one (x : Tq) : joinA [x] = wq x := by
  unfold joinA joinL
  simp only [List.map_cons, List.map_nil, Lib.join_one]
theorem joinL_snoc (pre : List Tq) (x : Tq) (h : pre ≠ []) : joinL (pre ++ [x]) = joinL pre ++ [32] ++ (wq x).data.toList := by
  unfold joinL
  cases pre with
  | nil => exact absurd rfl h
  | cons y p => simp only [List.cons_append, List.map_cons, Lib.join_cons, Lib.joinTail, List.map_append, List.map_nil, List.flatten_append, List.flatten_cons, List.flatten_nil, List.append_nil, List.append_assoc]
theorem joinA_snoc (pre : List Tq) (x : Tq) (h : pre ≠ []) : joinA (pre ++ [x]) = joinA pre ++ ⟨#[32]⟩ ++ wq x := by
  apply ba_ext
  unfold joinA
  rw [joinL_snoc pre x h]
  simp
theorem lens_le (l : List Tq) (M : Nat) (h : ∀ x ∈ l, (wq x).size ≤ M) : Lib.lens ((l.map wq).map (·.data.toList)) ≤ l.length * M := by
  induction l with
  | nil => exact Nat.zero_le _
  | cons x p ih =>
    have h1 := ih (fun y hy => h y (List.mem_cons_of_mem _ hy))
    have h2 := h x (by simp)
    simp only [Lib.lens, List.map_cons, List.sum_cons, List.length_cons, Nat.succ_mul] at h1 ⊢
    have h3 : (wq x).data.toList.length = (wq x).size := by simp
    omega
theorem joinA_size (l : List Tq) (M : Nat) (h : ∀ x ∈ l, (wq x).size ≤ M) : (joinA l).size ≤ l.length * (M + 1) := by
  show (List.toArray _).size ≤ _
  rw [List.size_toArray]
  cases l with
  | nil => exact Nat.zero_le _
  | cons x p =>
    have h1 := lens_le p M (fun y hy => h y (List.mem_cons_of_mem _ hy))
    have h2 := h x (by simp)
    have h3 : (wq x).data.toList.length = (wq x).size := by simp
    unfold joinL
    rw [List.map_cons, List.map_cons, Lib.join_cons, List.length_append, Lib.joinTail_length]
    simp only [List.length_cons, List.length_nil, List.length_map, Nat.add_mul, Nat.mul_add, Nat.one_mul, Nat.mul_one] at h1 h2 h3 ⊢
    omega
theorem wq_size {x : Tq} (h : x.ok) : (wq x).size ≤ 90000021 := by
  have := wtxt_size (k := x.k) (t := x.t) h.1
  have h2 := h.2
  unfold wq; omega
theorem joinA_le (l : List Tq) (hl : l.length ≤ 1048600) (h : ∀ x ∈ l, x.ok) : (joinA l).size ≤ 100000000000000 := by
  have h1 := joinA_size l 90000021 (fun x hx => wq_size (h x hx))
  have h2 : l.length * (90000021 + 1) ≤ 1048600 * (90000021 + 1) := Nat.mul_le_mul_right _ hl
  omega
theorem joinA_len (l : List Tq) : (Lib.join ((l.map wq).map (·.data.toList)) (⟨#[32]⟩ : ByteArray).data.toList).length = (joinA l).size := by
  unfold joinA joinL
  show _ = (List.toArray _).size
  rw [List.size_toArray]
theorem joinA_eq (l : List Tq) : (⟨(Lib.join ((l.map wq).map (·.data.toList)) (⟨#[32]⟩ : ByteArray).data.toList).toArray⟩ : ByteArray) = joinA l := rfl

theorem joinV_bad {l pre r : List Tq} {x : Tq} (hl : l = pre ++ x :: r) (h : badQ x r.length = true) : joinV l = .tuple #[.string ⟨#[]⟩, .int .i64 2] := by
  unfold joinV
  rw [hl, jBad_append pre x r h, if_pos rfl]
theorem jBad_snoc {pre r : List Tq} {x : Tq} (h : ∀ i y, pre[i]? = some y → badQ y ((pre ++ x :: r).length - i - 1) = false) (hx : badQ x r.length = false) : ∀ i y, (pre ++ [x])[i]? = some y → badQ y ((pre ++ x :: r).length - i - 1) = false := by
  intro i y hy
  rw [List.getElem?_append] at hy
  split at hy
  · exact h i y hy
  · next hi =>
    have : i = pre.length := by
      rcases Nat.lt_or_ge (i - pre.length) 1 with q | q
      · omega
      · rw [List.getElem?_eq_none (by simpa using q)] at hy; cases hy
    subst this
    simp at hy
    subst hy
    rw [List.length_append, List.length_cons, show pre.length + (r.length + 1) - pre.length - 1 = r.length from by omega]
    exact hx
theorem jBad_all {l : List Tq} (h : ∀ i y, l[i]? = some y → badQ y (l.length - i - 1) = false) : jBad l = false := by
  induction l with
  | nil => rfl
  | cons x r ih =>
    unfold jBad
    have h0 := h 0 x rfl
    rw [show (x :: r).length - 0 - 1 = r.length from by simp] at h0
    rw [h0, Bool.false_or]
    apply ih
    intro i y hy
    have := h (i + 1) y (by simpa using hy)
    rw [List.length_cons, show r.length + 1 - (i + 1) - 1 = r.length - i - 1 from by omega] at this
    exact this
theorem joinV_ok {l : List Tq} (h : ∀ i y, l[i]? = some y → badQ y (l.length - i - 1) = false) : joinV l = .tuple #[.string (joinA l), .int .i64 0] := by
  unfold joinV
  rw [jBad_all h, if_neg (by simp)]

end Go.Proofs.YtgaanohloocokaaDoor

-- U: Plain words at the literals of 'alive'. 
namespace Go.Proofs.YtgaanohloocokaaDoor
open Go.RowKit

theorem sc1 : scan ⟨#[99, 120, 32, 113, 91, 48, 93, 59, 32, 47, 47, 32, 120]⟩ =
    ([⟨⟨1, ⟨#[99, 120]⟩, 0⟩, 0, 1, 1⟩, ⟨⟨1, ⟨#[113]⟩, 0⟩, 3, 1, 4⟩, ⟨⟨5, ⟨#[91]⟩, 0⟩, 4, 1, 5⟩, ⟨⟨2, ⟨#[]⟩, 0⟩, 5, 1, 6⟩, ⟨⟨5, ⟨#[93]⟩, 0⟩, 6, 1, 7⟩, ⟨⟨5, ⟨#[59]⟩, 0⟩, 7, 1, 8⟩, ⟨⟨0, ⟨#[]⟩, 0⟩, 13, 1, 14⟩], 0, 0) := by kernel_rfl
theorem sc2 : scan ⟨#[97, 10, 32, 48, 48, 55]⟩ = ([], 41, 3) := by kernel_rfl
theorem sp2 : P ⟨#[97, 10, 32, 48, 48, 55]⟩ 3 = (2, 2) := by kernel_rfl
theorem jn1 : joinV [⟨1, ⟨#[97]⟩, 0, 0, 0, 0⟩, ⟨5, ⟨#[45, 62]⟩, 0, 0, 0, 0⟩, ⟨2, ⟨#[]⟩, 7, 0, 0, 0⟩] = .tuple #[.string ⟨#[97, 32, 45, 62, 32, 55]⟩, .int .i64 0] := by kernel_rfl
theorem nm1 : nameB ⟨#[113, 95, 49]⟩ = true := by kernel_rfl
theorem nm2 : nameB ⟨#[49, 113]⟩ = false := by kernel_rfl
theorem at1 : spotV ⟨#[97, 195, 169, 10, 98]⟩ (clampN ⟨#[97, 195, 169, 10, 98]⟩ 4) = .agg #[.int .i64 4, .int .i64 2, .int .i64 1] := by kernel_rfl

end Go.Proofs.YtgaanohloocokaaDoor
