/-
  Rows of tokens in memory.
-/
import Derived.Test.YtgaanohloocokaaDoorOwn
import Derived.Test.YtgaanohloocokaaDoorPlain
import Derived.Test.YtgaanohloocokaaDoorTokQ
namespace Go.Proofs.YtgaanohloocokaaDoor
open Go.RowKit

/-- a value is a row of tokens -/
def TkRow (w : World) (v : Value) (l : List Tq) : Prop :=
  ∃ a cap, v = .slice a l.length cap ∧ l.length ≤ cap ∧ ∀ i x, l[i]? = some x → ∃ g o, a = some ⟨g, o, none⟩ ∧ g < w.heap.size ∧ ∀ j u, x.cells[j]? = some u → w.cell? ⟨g, o + i * 6 + j, none⟩ = some u
theorem TkRow.below {w w1 : World} {v : Value} {l : List Tq} (h : TkRow w v l) (hb : Below w.heap.size w w1) : TkRow w1 v l := by
  obtain ⟨a, cap, hv, hc, hx⟩ := h
  refine ⟨a, cap, hv, hc, fun i x hi => ?_⟩
  obtain ⟨g, o, ha, hg, hq⟩ := hx i x hi
  exact ⟨g, o, ha, Nat.lt_of_lt_of_le hg hb.size, fun j u hu => (hb.cell hg).trans (hq j u hu)⟩
theorem TkRow.of_own {w : World} {base : Nat} {e : TypeId} {v : Value} {l : List Tp} (h : w.ownsRow base e 6 v l.length (tpRow l)) : TkRow w v (l.map Tp.q) := by
  by_cases hl : 0 < l.length
  · obtain ⟨g, cap, cur, rfl, hc, _, hg, _, hx⟩ := own_blk h hl
    refine ⟨some ⟨g, 0, none⟩, cap, by simp, by simpa using hc, fun i x hi => ⟨g, 0, rfl, hg, fun j u hu => ?_⟩⟩
    rw [List.getElem?_map] at hi
    obtain ⟨y, hy, rfl⟩ := Option.map_eq_some_iff.1 hi
    have hj : j < 6 := by
      rcases Nat.lt_or_ge j 6 with q | q
      · exact q
      · rw [List.getElem?_eq_none (by simpa [Tq.cells] using q)] at hu; cases hu
    rw [Nat.zero_add]
    exact (hx (i * 6 + j) u (by rw [tpRow_at l i j y hy hj]; exact hu)).1
  · obtain rfl : l = [] := by cases l with | nil => rfl | cons => simp at hl
    obtain ⟨a, cap, rfl, hc⟩ := own_slice h
    exact ⟨a, cap, rfl, hc, fun i x hi => by simp at hi⟩
theorem row_cells {w : World} {g o i : Nat} {x : Tq} (h : ∀ j u, x.cells[j]? = some u → w.cell? ⟨g, o + i * 6 + j, none⟩ = some u) :
    w.cell? ⟨g, o + i * 6, none⟩ = some (.int .i64 x.k) ∧ w.cell? ⟨g, o + i * 6 + 1, none⟩ = some (.string x.t) ∧ w.cell? ⟨g, o + i * 6 + 2, none⟩ = some (.int .i64 x.n) ∧
      w.cell? ⟨g, o + i * 6 + 3, none⟩ = some (.int .i64 x.o) ∧ w.cell? ⟨g, o + i * 6 + 4, none⟩ = some (.int .i64 x.l) ∧ w.cell? ⟨g, o + i * 6 + 5, none⟩ = some (.int .i64 x.c) :=
  ⟨h 0 _ rfl, h 1 _ rfl, h 2 _ rfl, h 3 _ rfl, h 4 _ rfl, h 5 _ rfl⟩

end Go.Proofs.YtgaanohloocokaaDoor
