/-
  Walk of plain: the tokens of a row without their spots.
-/
import Derived.Test.YtgaanohloocokaaDoorRow
import Derived.Test.YtgaanohloocokaaDoorPlan2
namespace Go.Proofs.YtgaanohloocokaaDoor
open Go.RowKit

def rowQ (l : List Tq) : List Value := l.flatMap Tq.cells
theorem rowQ_q (l : List Tp) : rowQ (l.map Tp.q) = tpRow l := by
  unfold rowQ tpRow
  rw [List.flatMap_map]
  rfl
theorem rowQ_snoc (l : List Tq) (x : Tq) : rowQ (l ++ [x]) = rowQ l ++ x.cells := by simp [rowQ]
theorem rowQ_at : ∀ (l : List Tq) (i j : Nat) (x : Tq), l[i]? = some x → j < 6 → (rowQ l)[i * 6 + j]? = x.cells[j]?
  | [], i, j, x, h, _ => by simp at h
  | y :: l, 0, j, x, h, hj => by
    obtain rfl : y = x := by simpa using h
    show (y.cells ++ rowQ l)[0 * 6 + j]? = _
    rw [Nat.zero_mul, Nat.zero_add, List.getElem?_append_left (by simpa [Tq.cells] using hj)]
  | y :: l, i + 1, j, x, h, hj => by
    show (y.cells ++ rowQ l)[(i + 1) * 6 + j]? = _
    have hl : y.cells.length = 6 := rfl
    rw [List.getElem?_append_right (by rw [hl]; omega), hl, show (i + 1) * 6 + j - 6 = i * 6 + j from by omega]
    exact rowQ_at l i j x (by simpa using h) hj
theorem TkRow.of_ownQ {w : World} {base : Nat} {e : TypeId} {v : Value} {l : List Tq} (h : w.ownsRow base e 6 v l.length (rowQ l)) : TkRow w v l := by
  by_cases hl : 0 < l.length
  · obtain ⟨g, cap, cur, rfl, hc, _, hg, _, hx⟩ := own_blk h hl
    refine ⟨some ⟨g, 0, none⟩, cap, rfl, hc, fun i x hi => ⟨g, 0, rfl, hg, fun j u hu => ?_⟩⟩
    have hj : j < 6 := by
      rcases Nat.lt_or_ge j 6 with q | q
      · exact q
      · rw [List.getElem?_eq_none (by simpa [Tq.cells] using q)] at hu; cases hu
    rw [Nat.zero_add]
    exact (hx (i * 6 + j) u (by rw [rowQ_at l i j x hi hj]; exact hu)).1
  · obtain rfl : l = [] := by cases l with | nil => rfl | cons => simp at hl
    obtain ⟨a, cap, rfl, hc⟩ := own_slice h
    exact ⟨a, cap, rfl, hc, fun i x hi => by simp at hi⟩
theorem cells_one (x : Tq) : ∀ u ∈ x.cells, u.oneCell' = true := by
  intro u hu
  simp [Tq.cells] at hu
  rcases hu with rfl | rfl | rfl | rfl | rfl | rfl <;> rfl

/-- what plain comes to -/
def PlPost (L : List Tq) (w : World) (e : Ending) (w' : World) : Prop :=
  ∃ v, e = .returned v ∧ w'.ownsRow w.heap.size 37 6 v (L.map plainQ).length (rowQ (L.map plainQ)) ∧ Below w.heap.size w w'

set_option maxRecDepth 100000 in
set_option maxHeartbeats 4000000 in
theorem l_plain (v : Value) (L : List Tq) (w : World) (hv : TkRow w v L) (hl : L.length ≤ 90000001) :
    Calls Tryd.prog 22 #[v] w (PlPost L w) := by
  obtain ⟨a, cap, rfl, hc, hx⟩ := hv
  obtain ⟨i0, hi, hq0, hq1, hq2⟩ := info_parts infoToken
  have HX := Lib.hid hx
  clear hx
  go_enter Tryd.func22, Tryd.ntmps22
  go_wp2
  go_loopw [3, 4] (fun u i wr => ∃ (pre r : List Tq), i = .int .i64 pre.length ∧ Hid (wr.ownsRow w.heap.size 37 6 u pre.length (rowQ (pre.map plainQ))) ∧ Hid (L = pre ++ r) ∧ pre.length ≤ L.length ∧ Hid (Below w.heap.size w wr)) (fun _ i _ => L.length - (intOf i).toNat)
  case atStart => exact ⟨[], L, rfl, ⟨rfl, Or.inl ⟨rfl, rfl⟩⟩, rfl, Nat.zero_le _, Below.refl _ _⟩
  case round =>
    obtain ⟨pre, r, rfl, HO, HL, hpl, HB⟩ := hrel
    rcases r with _ | ⟨x, r⟩
    · have hle : ¬ pre.length < L.length := by rw [HL.out]; simp
      obtain rfl : L = pre := by rw [HL.out]; simp
      go_wp2
      go_ret
      exact ⟨_, rfl, by simpa using HO.out, HB.out⟩
    · have hlt : pre.length < L.length := by rw [HL.out]; simp
      have hLx : L[pre.length]? = some x := by rw [HL.out]; simp
      obtain ⟨g, o, rfl, hg, hx⟩ := HX.out pre.length x hLx
      obtain ⟨c0, c1, c2, c3, c4, c5⟩ := row_cells (w := wr) (fun j u hu => (HB.out.cell hg).trans (hx j u hu))
      clear hLx hx
      have hzr := HB.out.size
      have hgr : g < wr.heap.size := by omega
      go_wp2_with (at_builtin; refine wpList_append_own _ rfl _ _ 28 rfl w.heap.size 37 i0 (.agg #[.int .i64 0, .string ⟨#[]⟩, .int .i64 0, .int .i64 0, .int .i64 0, .int .i64 0]) 6 56 Tryd.underlying28 hi hq0 hq1 hq2 rfl (by decide) _ _ _ rfl ((HO.out.alloc _).alloc _) ⟨wr.heap.size + 1, 0, none⟩ 1 1 (plainQ x).cells rfl rfl ?hnews ?hone ?h63 ?hbytes ?hbase ?_; (case hnews => exact two_new _ _ _ (plainQ x).cells); (case hone => exact cells_one _); (case h63 => unfold maxLen; omega); (case hbytes => omega); (case hbase => simp; omega); intro v' w3 hown hgrow _; have HO3 := Lib.hid hown; have HB3 := Lib.hid (((HB.out.alloc HB.out.size _).alloc (by simp; have := HB.out.size; omega) _).grown hgrow (by simp; have := HB.out.size; omega) (fun b hb => by have := own_ge HO.out b hb; omega)); clear hown hgrow)
      trace_state
      go_roundw
      case rel => exact ⟨pre ++ [x], r, by simp, by simpa [rowQ_snoc] using HO3, HL.out.trans (by simp), by simp; omega, HB3⟩
      case measure => simp [intOf]; omega

end Go.Proofs.YtgaanohloocokaaDoor
