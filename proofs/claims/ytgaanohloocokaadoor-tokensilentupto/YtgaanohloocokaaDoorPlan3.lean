/-
  Plain words: blanks and comments between the tokens of a text turn nothing. No program in sight.
-/
import Derived.Test.YtgaanohloocokaaDoorPlan2
namespace Go.Proofs.YtgaanohloocokaaDoor
open Go.RowKit

theorem numTok_code (s : ByteArray) (j : Nat) : (numTok s j).2.2 = 0 ∨ (40 ≤ (numTok s j).2.2 ∧ (numTok s j).2.2 ≤ 43) := by
  unfold numTok
  simp only
  split <;> split <;> simp
theorem one_code (s : ByteArray) (j : Nat) : (one s j).2.2 = 0 ∨ (40 ≤ (one s j).2.2 ∧ (one s j).2.2 ≤ 43) := by
  unfold one
  split
  · simp
  · split
    · simp only; split <;> simp
    · split
      · exact numTok_code s j
      · split
        · simp only; split <;> simp
        · split
          · simp
          · split <;> simp
theorem scanF_code (s : ByteArray) : ∀ f i, (scanF s f i).2.1 = 0 ∨ (40 ≤ (scanF s f i).2.1 ∧ (scanF s f i).2.1 ≤ 43) := by
  intro f
  induction f with
  | zero => intro i; exact Or.inl rfl
  | succ f ih =>
    intro i
    unfold scanF
    simp only
    split
    · exact one_code s _
    · split
      · exact Or.inl rfl
      · split
        · exact Or.inl rfl
        · exact ih _
theorem scan_code (s : ByteArray) : (scan s).2.1 = 0 ∨ (40 ≤ (scan s).2.1 ∧ (scan s).2.1 ≤ 43) := scanF_code s _ _

theorem one_span {s : ByteArray} {j : Nat} (hj : j ≤ s.size) : (one s j).1.t.size ≤ (one s j).2.1 - j := by
  have key : ∀ a b, (s.extract a b).size ≤ b - a := fun a b => by rw [ByteArray.size_extract]; omega
  unfold one
  split
  · exact Nat.zero_le _
  · split
    · simp only; split
      · exact Nat.zero_le _
      · exact key _ _
    · split
      · unfold numTok
        simp only
        split
        · split
          · exact Nat.zero_le _
          · exact key _ _
        · split
          · exact Nat.zero_le _
          · exact Nat.zero_le _
      · split
        · simp only; split
          · exact Nat.le_trans (key _ _) (by simp only; omega)
          · exact Nat.zero_le _
        · split
          · exact key _ _
          · split
            · exact key _ _
            · exact Nat.zero_le _
theorem Lies.sum {s : ByteArray} {L : List Tk} {i : Nat} (h : Lies s i L) : i ≤ s.size → Bd s i → (L.map fun x => x.t.size + 1).sum ≤ 2 * (s.size - i) := by
  induction h with
  | nil i h => intro _ _; exact Nat.zero_le _
  | cons i j x n r hj h hk hr ih =>
    intro hi hB
    have hij : i ≤ j := by rw [← hj]; exact skip_ge hi
    have hjs : j ≤ s.size := by rw [← hj]; exact skip_le hi
    have hBj : Bd s j := by rw [← hj]; exact skip_Bd hi hB
    have hsp := one_spec s j hjs hBj
    have hsn := one_span (s := s) (j := j) hjs
    rw [h] at hsp hsn
    have hlt : j < j + n := hsp.2.2.2 rfl hk
    have hle : j + n ≤ s.size := hsp.2.1
    have := ih hle hsp.2.2.1
    simp only at hsn
    rw [List.map_cons, List.sum_cons]
    omega

/-- the text of the law: tokens, each with the gap that the marks tell -/
def catG (f : Nat → Nat) : Nat → List Tq → ByteArray
  | _, [] => ⟨#[]⟩
  | i, x :: r => wq x ++ (GP (f i) ++ catG f (i + 1) r)
theorem app_nil_ba (a : ByteArray) : a ++ ⟨#[]⟩ = a := by apply ba_ext; simp
theorem app_assoc_ba (a b c : ByteArray) : a ++ b ++ c = a ++ (b ++ c) := by apply ba_ext; simp
theorem nil_app_ba (a : ByteArray) : (⟨#[]⟩ : ByteArray) ++ a = a := by apply ba_ext; simp
theorem catG_snoc (f : Nat → Nat) (x : Tq) : ∀ (l : List Tq) (i : Nat), catG f i (l ++ [x]) = catG f i l ++ (wq x ++ GP (f (i + l.length))) := by
  intro l
  induction l with
  | nil => intro i; show wq x ++ (GP (f i) ++ ⟨#[]⟩) = ⟨#[]⟩ ++ (wq x ++ GP (f (i + 0))); rw [app_nil_ba, nil_app_ba, Nat.add_zero]
  | cons y l ih =>
    intro i
    show wq y ++ (GP (f i) ++ catG f (i + 1) (l ++ [x])) = wq y ++ (GP (f i) ++ catG f (i + 1) l) ++ _
    rw [ih (i + 1), app_assoc_ba, app_assoc_ba, List.length_cons, show i + 1 + l.length = i + (l.length + 1) from by omega]
theorem catG_tk (f : Nat → Nat) : ∀ (l : List Tp) (i : Nat), catG f i (l.map Tp.q) = catG f i ((l.map (·.t)).map qtk) := by
  intro l
  induction l with
  | nil => intro i; rfl
  | cons y l ih =>
    intro i
    simp only [List.map_cons, catG]
    rw [ih (i + 1)]
    rfl
def LP (f : Nat → Nat) : Nat → List Tk → List (Tk × ByteArray)
  | _, [] => []
  | i, x :: r => (x, GP (f i)) :: LP f (i + 1) r
theorem LP_fst (f : Nat → Nat) : ∀ (L : List Tk) (i : Nat), (LP f i L).map (·.1) = L := by
  intro L
  induction L with
  | nil => intro i; rfl
  | cons x r ih => intro i; simp only [LP, List.map_cons, ih (i + 1)]
theorem LP_mem (f : Nat → Nat) : ∀ (L : List Tk) (i : Nat), ∀ y ∈ LP f i L, (∃ n, y.2 = GP n) ∧ y.1 ∈ L := by
  intro L
  induction L with
  | nil => intro i y hy; cases hy
  | cons x r ih =>
    intro i y hy
    rcases List.mem_cons.1 hy with rfl | hy
    · exact ⟨⟨_, rfl⟩, by simp⟩
    · exact ⟨(ih (i + 1) y hy).1, List.mem_cons_of_mem _ (ih (i + 1) y hy).2⟩
theorem catG_LP (f : Nat → Nat) : ∀ (L : List Tk) (i : Nat), catG f i ((L ++ [Tk.zero]).map qtk) = catS ((LP f i L).map (fun y => (wq (qtk y.1), y.2)) ++ [(⟨#[]⟩, GP (f (i + L.length)))]) := by
  intro L
  induction L with
  | nil => intro i; rfl
  | cons x r ih =>
    intro i
    show wq (qtk x) ++ (GP (f i) ++ catG f (i + 1) ((r ++ [Tk.zero]).map qtk)) = wq (qtk x) ++ (GP (f i) ++ catS _)
    rw [ih (i + 1), List.length_cons, show i + 1 + r.length = i + (r.length + 1) from by omega]
    rfl
/-- BLANKS AND COMMENTS BETWEEN THE TOKENS TURN NOTHING. -/
theorem silent_scan {s : ByteArray} (h : (scan s).2.1 = 0) (f : Nat → Nat) :
    (scan (⟨#[10]⟩ ++ catG f 0 ((scan s).1.map Tp.q))).2.1 = 0 ∧ (scan (⟨#[10]⟩ ++ catG f 0 ((scan s).1.map Tp.q))).1.map (·.t) = (scan s).1.map (·.t) := by
  obtain ⟨L, h1, h2⟩ := lies_of_scan h
  have hw := h2.writes (Nat.zero_le _) (Bd_zero s)
  rw [catG_tk, h1, catG_LP]
  obtain ⟨rr, z, e1, e2, e3⟩ := silent_asm (GP (f (0 + L.length))) (gap_GP _) (LP f 0 L) ⟨#[10]⟩ (gap_GP 1) (sep_GP 1) (fun y hy => by
    obtain ⟨⟨n, hn⟩, hm⟩ := LP_mem f L 0 y hy
    rw [hn]
    exact ⟨gap_GP n, sep_GP n, (hw y.1 hm).1, (hw y.1 hm).2.1⟩)
  rw [e1]
  obtain ⟨a, b⟩ := scan_asm e2
  exact ⟨a, by rw [b, e3, LP_fst]⟩
theorem silent_writes {s : ByteArray} (h : (scan s).2.1 = 0) : ∀ x ∈ (scan s).1.map Tp.q, writeB x.k x.n x.t = true := by
  obtain ⟨L, h1, h2⟩ := lies_of_scan h
  have hw := h2.writes (Nat.zero_le _) (Bd_zero s)
  intro x hx
  obtain ⟨y, hy, rfl⟩ := List.mem_map.1 hx
  have : y.t ∈ (scan s).1.map (·.t) := List.mem_map_of_mem hy
  rw [h1] at this
  show writeB y.t.k y.t.n y.t.t = true
  rcases List.mem_append.1 this with q | q
  · exact (hw _ q).1
  · simp at q
    rw [q]
    decide +kernel
theorem GP_size (n : Nat) : (GP n).size ≤ 8 := by
  unfold GP
  split <;> decide
theorem catG_size (f : Nat → Nat) : ∀ (l : List Tq) (i : Nat), (∀ x ∈ l, -9223372036854775808 ≤ x.n ∧ x.n ≤ 9223372036854775807) → (catG f i l).size ≤ (l.map fun x => x.t.size + 29).sum := by
  intro l
  induction l with
  | nil => intro i _; exact Nat.zero_le _
  | cons x r ih =>
    intro i h
    have h1 := ih (i + 1) (fun q hq => h q (List.mem_cons_of_mem _ hq))
    have h2 := wtxt_size (k := x.k) (t := x.t) (h x (by simp))
    have h3 := GP_size (f i)
    show (wq x ++ (GP (f i) ++ catG f (i + 1) r)).size ≤ _
    rw [ByteArray.size_append, ByteArray.size_append, List.map_cons, List.sum_cons]
    unfold wq
    omega
theorem Lies.range {s : ByteArray} {L : List Tk} {i : Nat} (h : Lies s i L) : ∀ x ∈ L, 0 ≤ x.n ∧ x.n ≤ 1000000000 := by
  induction h with
  | nil i h => intro x hx; cases hx
  | cons i j x n r hj h hk hr ih =>
    intro y hy
    rcases List.mem_cons.1 hy with rfl | hy
    · rcases one_sorts h hk with q | q
      · rw [q.2]; decide
      · exact q.2.2
    · exact ih y hy
theorem scan_ok {s : ByteArray} (h : (scan s).2.1 = 0) (hs : s.size ≤ 90000000) : ∀ x ∈ (scan s).1.map Tp.q, x.ok := by
  obtain ⟨L, h1, h2⟩ := lies_of_scan h
  have hw := h2.writes (Nat.zero_le _) (Bd_zero s)
  have hr := h2.range
  intro x hx
  obtain ⟨y, hy, rfl⟩ := List.mem_map.1 hx
  have : y.t ∈ (scan s).1.map (·.t) := List.mem_map_of_mem hy
  rw [h1] at this
  show (-9223372036854775808 ≤ y.t.n ∧ y.t.n ≤ 9223372036854775807) ∧ y.t.t.size ≤ 90000000
  rcases List.mem_append.1 this with q | q
  · have a := hr _ q
    have b := (hw _ q).2.2
    omega
  · simp at q
    rw [q]
    decide
theorem sum_29 (l : List Tk) : (l.map fun x => x.t.size + 29).sum ≤ 29 * (l.map fun x => x.t.size + 1).sum := by
  induction l with
  | nil => exact Nat.zero_le _
  | cons x r ih =>
    rw [List.map_cons, List.map_cons, List.sum_cons, List.sum_cons]
    omega
theorem silent_size {s : ByteArray} (h : (scan s).2.1 = 0) (f : Nat → Nat) (hs : s.size ≤ 1048576) : ((⟨#[10]⟩ : ByteArray) ++ catG f 0 ((scan s).1.map Tp.q)).size ≤ 90000000 := by
  obtain ⟨L, h1, h2⟩ := lies_of_scan h
  have hsum := h2.sum (Nat.zero_le _) (Bd_zero s)
  have h3 := catG_size f ((scan s).1.map Tp.q) 0 (fun x hx => (scan_ok h (by omega) x hx).1)
  have h4 : (((scan s).1.map Tp.q).map fun x => x.t.size + 29) = ((scan s).1.map (·.t)).map fun x => x.t.size + 29 := by
    rw [List.map_map, List.map_map]; rfl
  rw [h4, h1, List.map_append, List.sum_append] at h3
  have h5 := sum_29 L
  have h6 : (([Tk.zero] : List Tk).map fun x => x.t.size + 29).sum = 29 := rfl
  rw [ByteArray.size_append]
  have h7 : (⟨#[10]⟩ : ByteArray).size = 1 := rfl
  omega

end Go.Proofs.YtgaanohloocokaaDoor
