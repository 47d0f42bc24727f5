/-
  Tokens and rows of tokens that come in, opened.
-/
import Derived.Test.YtgaanohloocokaaDoorRow
import Derived.Test.YtgaanohloocokaaDoorLaid
import Derived.Test.YtgaanohloocokaaDoorBulk
import Derived.Test.YtgaanohloocokaaDoorPlan2
import Derived.Deep.Slices
import Derived.Carry
import Derived.OpenShut
import Derived.SliceStrings
namespace Go.Proofs.YtgaanohloocokaaDoor
open Go.ChangeShapes Go.WideShapes Go.ChangeAt Go.RowKit

theorem ng_le {W : World} (h : W.ShapedOpen Tryd.prog) : NG ≤ W.heap.size := by
  have h0 : (((begin Tryd.prog (fun _ _ => 0) default).world.heap[NG - 1]?).bind Obj.row?).isSome = true := by kernel_rfl
  obtain ⟨⟨z, t⟩, hz⟩ := Option.isSome_iff_exists.1 h0
  have hn : NG - 1 < Tryd.prog.globals.size := of_decide_eq_true (by kernel_rfl)
  obtain ⟨cs, hc, _⟩ := h.1 (NG - 1) z t hn hz
  have := blk_lt hc
  have h1 : 1 ≤ NG := of_decide_eq_true (by kernel_rfl)
  omega
theorem gl_of {W : World} (h : laidMet Tryd.prog laidAll W) (hz : NG ≤ W.heap.size) : GL W := ⟨W, laid_w h, Nat.le_refl _, hz, Below.refl _ _⟩
theorem laidOut : laidOutB Tryd.prog = true := by kernel_rfl

/-- a token as a datum -/
def tokD {H : Type} (q : Tq) : DataW H := .agg [.lit (.int .i64 q.k), .lit (.string q.t.data.toList), .lit (.int .i64 q.n), .agg [.lit (.int .i64 q.o), .lit (.int .i64 q.l), .lit (.int .i64 q.c)]]

section
variable {H : Type} {enc : TypeId × Value → H} {w : World} {base : Nat} {spare : Nat → Bool} {held : Bool}
theorem wf_bounds {n : Int} (h : (Lit.int .i64 n).wf = true) : -9223372036854775808 ≤ n ∧ n ≤ 9223372036854775807 := by
  have e1 : IntKind.i64.min = -9223372036854775808 := rfl
  have e2 : IntKind.i64.max = 9223372036854775807 := rfl
  simp [Lit.wf, e1, e2] at h
  exact h
theorem open_spot {fuel : Nat} {a b c : Value} {x : DataW H × List MemPlace} (h : DataW.trod enc Tryd.prog w base spare held fuel 23 [a, b, c] = some x) :
    ∃ o l q, a = .int .i64 o ∧ b = .int .i64 l ∧ c = .int .i64 q ∧ x.1 = .agg [.lit (.int .i64 o), .lit (.int .i64 l), .lit (.int .i64 q)] := by
  obtain ⟨xs, n, rfl, rfl, hl, hxl, hf⟩ := DataW.trod_struct Tryd.underlying23 h
  have c3 : Tryd.prog.cellsOf 3 = 1 := by kernel_rfl
  match xs, hxl with
  | [y0, y1, y2], _ =>
    have g0 := hf 0 _ rfl
    have g1 := hf 1 _ rfl
    have g2 := hf 2 _ rfl
    simp [c3] at g0 g1 g2
    obtain ⟨o, e0, z0, _⟩ := DataW.trod_int Tryd.underlying3 g0
    obtain ⟨l, e1, z1, _⟩ := DataW.trod_int Tryd.underlying3 g1
    obtain ⟨q, e2, z2, _⟩ := DataW.trod_int Tryd.underlying3 g2
    simp only [List.cons.injEq, and_true] at e0 e1 e2
    exact ⟨o, l, q, e0, e1, e2, by simp [z0, z1, z2]⟩
set_option maxRecDepth 100000 in
theorem open_token {fuel : Nat} {cs : List Value} {x : DataW H × List MemPlace} (h : DataW.trod enc Tryd.prog w base spare held fuel 37 cs = some x) :
    ∃ q : Tq, cs = q.cells ∧ x.1 = tokD q ∧ (-9223372036854775808 ≤ q.n ∧ q.n ≤ 9223372036854775807) ∧ q.t.size ≤ maxLen := by
  obtain ⟨xs, n, rfl, rfl, hl, hxl, hf⟩ := DataW.trod_struct Tryd.underlying37 h
  have c6 : Tryd.prog.cellsOf 37 = 6 := by kernel_rfl
  have c35 : Tryd.prog.cellsOf 35 = 1 := by kernel_rfl
  have c9 : Tryd.prog.cellsOf 9 = 1 := by kernel_rfl
  have c3 : Tryd.prog.cellsOf 3 = 1 := by kernel_rfl
  have c23 : Tryd.prog.cellsOf 23 = 3 := by kernel_rfl
  rw [c6] at hl
  match xs, hxl, cs, hl with
  | [y0, y1, y2, y3], _, [a, b, c, d, e, f], _ =>
    have g0 := hf 0 _ rfl
    have g1 := hf 1 _ rfl
    have g2 := hf 2 _ rfl
    have g3 := hf 3 _ rfl
    simp [c3, c35, c9, c23] at g0 g1 g2 g3
    obtain ⟨k, e0, z0, _⟩ := DataW.trod_int Tryd.underlying35 g0
    obtain ⟨t, e1, z1, ht⟩ := DataW.trod_string Tryd.underlying9 g1
    obtain ⟨m, e2, z2, hm⟩ := DataW.trod_int Tryd.underlying3 g2
    obtain ⟨o, l, q, e3, e4, e5, z3⟩ := open_spot g3
    simp only [List.cons.injEq, and_true] at e0 e1 e2
    exact ⟨⟨k, t, m, o, l, q⟩, by rw [e0, e1, e2, e3, e4, e5]; rfl, by simp [z0, z1, z2, z3, tokD], wf_bounds hm, ht⟩
set_option maxRecDepth 100000 in
/-- A ROW OF TOKENS THAT CAME IN -/
theorem open_tokens {fuel : Nat} {cs : List Value} {x : DataW H × List MemPlace} (h : DataW.trod enc Tryd.prog w base spare held fuel 28 cs = some x) :
    ∃ v L, cs = [v] ∧ TkRow w v L ∧ (∀ q ∈ L, (-9223372036854775808 ≤ q.n ∧ q.n ≤ 9223372036854775807) ∧ q.t.size ≤ maxLen) ∧ ((L = [] ∧ x.1 = .nil) ∨ ∃ sp, x.1 = .slice (L.map tokD) sp) := by
  have c6 : Tryd.prog.cellsOf 37 = 6 := by kernel_rfl
  rcases Deep.open_slice Tryd.underlying28 h with ⟨rfl, rfl⟩ | ⟨a, len, cap, m, n, D, Pl, rfl, hb, hlc, hcm, hm, rfl, hx⟩
  · exact ⟨_, [], rfl, ⟨none, 0, rfl, Nat.le_refl _, fun i x hi => by simp at hi⟩, (fun q hq => by cases hq), Or.inl ⟨rfl, rfl⟩⟩
  · have hlm : len ≤ m := by rw [hm]; split <;> omega
    rw [c6] at hx
    have each : ∀ i, i < len → ∃ q : Tq, w.cells? base (a.add (i * 6)) 6 = some q.cells ∧ D i = tokD q ∧ (-9223372036854775808 ≤ q.n ∧ q.n ≤ 9223372036854775807) ∧ q.t.size ≤ maxLen := by
      intro i hi
      obtain ⟨cs', h1, h2⟩ := hx i (by omega)
      obtain ⟨q, rfl, hd, hn, ht⟩ := open_token h2
      exact ⟨q, h1, hd, hn, ht⟩
    have : Inhabited Tq := ⟨⟨0, ⟨#[]⟩, 0, 0, 0, 0⟩⟩
    obtain ⟨Q, hQ⟩ := Deep.choose_lt each
    refine ⟨_, (List.range len).map Q, rfl, ⟨some a, cap, by simp, by simpa using hlc, fun i x hi => ?_⟩, fun q hq => ?_, Or.inr ⟨(List.range (m - len)).map fun j => D (len + j), ?_⟩⟩
    · rw [List.getElem?_map] at hi
      obtain ⟨y, hy, rfl⟩ := Option.map_eq_some_iff.1 hi
      have hil : i < len := by
        rcases Nat.lt_or_ge i len with q | q
        · exact q
        · rw [List.getElem?_eq_none (by simpa using q)] at hy; cases hy
      obtain rfl : i = y := by simpa [List.getElem?_range hil] using hy
      have h0 := (World.cells?_some (hQ 0 (by omega)).1).2.2 0 (by omega)
      simp only [Nat.zero_mul, Addr.add, if_true] at h0
      have hsp : a.spot = none := by
        unfold World.cell? at h0
        cases hs : a.spot with
        | none => rfl
        | some v =>
          rw [hs] at h0
          split at h0
          · simp [Tq.cells] at h0
          · simp [Tq.cells] at h0
      obtain ⟨g, o, sp⟩ := a
      simp only at hsp
      subst hsp
      have hc := (World.cells?_some (hQ i hil).1).2.2
      refine ⟨g, o, rfl, ?_, fun j u hu => ?_⟩
      · have h1 := hc 0 (by omega)
        rw [add_plain, add_plain] at h1
        have : w.cell? ⟨g, o + i * 6 + 0, none⟩ = some (.int .i64 (Q i).k) := h1
        exact block_lt_of_cell this
      · have hj : j < 6 := by
          rcases Nat.lt_or_ge j 6 with q | q
          · exact q
          · rw [List.getElem?_eq_none (by simpa [Tq.cells] using q)] at hu; cases hu
        have h1 := hc j hj
        rw [add_plain, add_plain] at h1
        rw [h1]; exact hu
    · obtain ⟨i, hi, rfl⟩ := List.mem_map.1 hq
      exact (hQ i (List.mem_range.1 hi)).2.2
    · simp only [List.map_map]
      congr 1
      exact List.map_congr_left fun i hi => (hQ i (List.mem_range.1 hi)).2.1
end

theorem tokD_bulk {H : Type} (q : Tq) : q.t.size + 8 ≤ Rows.uptoBulk (tokD (H := H) q) := by
  have h : q.t.data.toList.length = q.t.size := by simp
  simp only [tokD, Rows.uptoBulk, Rows.uptoBulkAll]
  omega
theorem row_bulk {H : Type} {L : List Tq} {d : DataW H} (h : (L = [] ∧ d = .nil) ∨ ∃ sp, d = .slice (L.map tokD) sp) : L.length ≤ Rows.uptoBulk d ∧ ∀ q ∈ L, q.t.size ≤ Rows.uptoBulk d := by
  rcases h with ⟨rfl, rfl⟩ | ⟨sp, rfl⟩
  · exact ⟨Nat.zero_le _, (fun q hq => by cases hq)⟩
  · have h1 := bulks.slice_elems (H := H) (L.map tokD) sp
    have h2 := bulks.length_le (H := H) (L.map tokD)
    rw [List.length_map] at h2
    refine ⟨by omega, fun q hq => ?_⟩
    have h3 := bulks.part_le (H := H) (d := tokD q) (l := L.map tokD) (List.mem_map_of_mem hq)
    have h4 := tokD_bulk (H := H) q
    omega

theorem tlA_size : ∀ (r : List Tq), (∀ q ∈ r, -9223372036854775808 ≤ q.n ∧ q.n ≤ 9223372036854775807) → (tlA r).size ≤ (r.map fun x => x.t.size + 22).sum := by
  intro r
  induction r with
  | nil => intro _; exact Nat.zero_le _
  | cons y r ih =>
    intro h
    have h1 := ih (fun q hq => h q (List.mem_cons_of_mem _ hq))
    have h2 := wtxt_size (k := y.k) (t := y.t) (h y (by simp))
    show ((⟨#[32]⟩ : ByteArray) ++ (wq y ++ tlA r)).size ≤ _
    rw [ByteArray.size_append, ByteArray.size_append, List.map_cons, List.sum_cons]
    have h3 : (⟨#[32]⟩ : ByteArray).size = 1 := rfl
    unfold wq
    omega
theorem joinA_sum (L : List Tq) (h : ∀ q ∈ L, -9223372036854775808 ≤ q.n ∧ q.n ≤ 9223372036854775807) : (joinA L).size ≤ (L.map fun x => x.t.size + 22).sum := by
  cases L with
  | nil => exact Nat.zero_le _
  | cons x r =>
    have h1 := tlA_size r (fun q hq => h q (List.mem_cons_of_mem _ hq))
    have h2 := wtxt_size (k := x.k) (t := x.t) (h x (by simp))
    rw [joinA_cons, ByteArray.size_append, List.map_cons, List.sum_cons]
    unfold wq
    omega
theorem sum_bulk {H : Type} (L : List Tq) : (L.map fun x => x.t.size + 22).sum ≤ 3 * Rows.uptoBulkAll (L.map (tokD (H := H))) := by
  induction L with
  | nil => exact Nat.zero_le _
  | cons x r ih =>
    have h := tokD_bulk (H := H) x
    simp only [List.map_cons, List.sum_cons, Rows.uptoBulkAll] at ih ⊢
    omega
theorem join_bulk {H : Type} {L : List Tq} {d : DataW H} (h : (L = [] ∧ d = .nil) ∨ ∃ sp, d = .slice (L.map tokD) sp) (hq : ∀ q ∈ L, q.ok) (hd : Rows.uptoBulk d ≤ 1048576) : (joinA L).size ≤ 90000000 := by
  rcases h with ⟨rfl, rfl⟩ | ⟨sp, rfl⟩
  · exact Nat.zero_le _
  · have h1 := bulks.slice_elems (H := H) (L.map tokD) sp
    have h2 := joinA_sum L (fun q hh => (hq q hh).1)
    have h3 := sum_bulk (H := H) L
    omega

end Go.Proofs.YtgaanohloocokaaDoor
