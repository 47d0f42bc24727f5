/-
  '==' on spots, faults and tokens.
-/
import Derived.Test.YtgaanohloocokaaDoorBase2
import Derived.Laws.StructEq
namespace Go.Proofs.YtgaanohloocokaaDoor
open Go.RowKit

section
variable {P : Program} {w : World} {d : Nat} {xs ys : Array Value} {f : Field} {fs : List Field} {a b : Value} {r s : Bool}
/-- one field more -/
theorem flds_more (hn : f.name ≠ "_") (ha : (part f.type xs f.offset).run P w = .ok a w) (hb : (part f.type ys f.offset).run P w = .ok b w)
    (he : (Op.equalIn d f.type a b).run P w = .ok r w) (hr : (Op.eqFields d xs ys fs).run P w = .ok s w) : (Op.eqFields d xs ys (f :: fs)).run P w = .ok (r && s) w := by
  unfold Op.eqFields
  rw [if_pos hn]
  simp only [Sem.run_bind, ha, hb, he, Result.andThen_ok]
  cases r
  · simp
  · simpa using hr
theorem flds_none : (Op.eqFields d xs ys []).run P w = .ok true w := by simp [Op.eqFields]
theorem agg_eq {t : TypeId} {fl : Array Field} (hu : P.underlying t = some (.struct fl)) (hp : P.stoodInHeld t = false) (h : (Op.eqFields d xs ys fl.toList).run P w = .ok r w) :
    (Op.equalIn (d + 1) t (.agg xs) (.agg ys)).run P w = .ok r w := by
  have hf : P.fieldsOf t = fl := by simp [Program.fieldsOf, hu]
  rw [run_equalIn_struct (P := P) w d t xs ys (by rw [hf]; exact hu) hp, hf]
  exact h
end

theorem eq_spot (d : Nat) (w : World) (x0 y0 x1 y1 x2 y2 : Int) :
    (Op.equalIn (d + 2) 23 (.agg #[.int .i64 x0, .int .i64 x1, .int .i64 x2]) (.agg #[.int .i64 y0, .int .i64 y1, .int .i64 y2])).run Tryd.prog w = .ok (x0 == y0 && (x1 == y1 && (x2 == y2 && true))) w := by
  refine agg_eq Tryd.underlying23 (by kernel_rfl) ?_
  refine flds_more (by decide) (by go_simp; rfl) (by go_simp; rfl) (by go_simp) ?_
  refine flds_more (by decide) (by go_simp; rfl) (by go_simp; rfl) (by go_simp) ?_
  refine flds_more (by decide) (by go_simp; rfl) (by go_simp; rfl) (by go_simp) ?_
  exact flds_none
theorem eq_fault (d : Nat) (w : World) (x0 y0 x1 y1 x2 y2 x3 y3 : Int) :
    (Op.equalIn (d + 3) 31 (.agg #[.int .i64 x0, .int .i64 x1, .int .i64 x2, .int .i64 x3]) (.agg #[.int .i64 y0, .int .i64 y1, .int .i64 y2, .int .i64 y3])).run Tryd.prog w = .ok (x0 == y0 && ((x1 == y1 && (x2 == y2 && (x3 == y3 && true))) && true)) w := by
  refine agg_eq Tryd.underlying31 (by kernel_rfl) ?_
  refine flds_more (by decide) (by go_simp; rfl) (by go_simp; rfl) (by go_simp) ?_
  refine flds_more (by decide) (by go_simp) (by go_simp) (eq_spot d w _ _ _ _ _ _) ?_
  exact flds_none
theorem eq_token (d : Nat) (w : World) (x0 y0 : Int) (x1 y1 : ByteArray) (x2 y2 x3 y3 x4 y4 x5 y5 : Int) :
    (Op.equalIn (d + 3) 37 (.agg #[.int .i64 x0, .string x1, .int .i64 x2, .int .i64 x3, .int .i64 x4, .int .i64 x5]) (.agg #[.int .i64 y0, .string y1, .int .i64 y2, .int .i64 y3, .int .i64 y4, .int .i64 y5])).run Tryd.prog w =
      .ok (x0 == y0 && (x1.toList == y1.toList && (x2 == y2 && ((x3 == y3 && (x4 == y4 && (x5 == y5 && true))) && true)))) w := by
  refine agg_eq Tryd.underlying37 (by kernel_rfl) ?_
  refine flds_more (by decide) (by go_simp; rfl) (by go_simp; rfl) (by go_simp) ?_
  refine flds_more (by decide) (by go_simp; rfl) (by go_simp; rfl) (by go_simp) ?_
  refine flds_more (by decide) (by go_simp; rfl) (by go_simp; rfl) (by go_simp) ?_
  refine flds_more (by decide) (by go_simp) (by go_simp) (eq_spot d w _ _ _ _ _ _) ?_
  exact flds_none

end Go.Proofs.YtgaanohloocokaaDoor
