/-
  Walks of package token: marks.
-/
import Derived.Test.YtgaanohloocokaaDoorTokJ
namespace Go.Proofs.YtgaanohloocokaaDoor
open Go.RowKit

def marksA : Array Value := #[.string ⟨#[59]⟩, .string ⟨#[44]⟩, .string ⟨#[40]⟩, .string ⟨#[41]⟩, .string ⟨#[91]⟩, .string ⟨#[93]⟩, .string ⟨#[123]⟩, .string ⟨#[125]⟩, .string ⟨#[45, 62]⟩, .string ⟨#[61, 61]⟩]
/-- the program's order of marks -/
def mp (n : Nat) : Nat := if n < 8 then n + 2 else n - 8
theorem wideMarks : Wide Tryd.prog 72 10 := ⟨⟨_, Tryd.underlying72, by kernel_rfl⟩, by kernel_rfl⟩

theorem t_marks (w : World) :
    Calls Tryd.prog 44 #[] w fun e w' => e = .returned (.agg marksA) ∧ Below w.heap.size w w' := by
  go_enter Tryd.func44, Tryd.ntmps44
  go_wp2
  refine bodyPost_ret (results_c rfl _ _ w.heap.size 72 marksA rfl (Blk.new _ _ _) wideMarks) rfl ⟨rfl, (Below.refl _ _).alloc (Nat.le_refl _) _⟩

theorem marks_index (wx : World) : ∀ n : Nat, n < 10 → (Instr.index 72 (.agg marksA) (.int .i64 (n : Int))).run Tryd.prog wx = .ok (.string (MK (mp n))) wx
  | 0, _ => by kernel_rfl
  | 1, _ => by kernel_rfl
  | 2, _ => by kernel_rfl
  | 3, _ => by kernel_rfl
  | 4, _ => by kernel_rfl
  | 5, _ => by kernel_rfl
  | 6, _ => by kernel_rfl
  | 7, _ => by kernel_rfl
  | 8, _ => by kernel_rfl
  | 9, _ => by kernel_rfl
  | n + 10, h => by omega

end Go.Proofs.YtgaanohloocokaaDoor
