/-
  More words for the walks of this seat.
-/
import Derived.Test.YtgaanohloocokaaDoorBase
import Derived.Test.YtgaanohloocokaaDoorPlain
namespace Go.Proofs.YtgaanohloocokaaDoor
open Go.RowKit

theorem slice_nn {P : Program} (T : TypeId) (hu : P.underlying T = some .string) (s : ByteArray) (a b : Int) (a' b' : Nat) (ha : a = a') (hb : b = b') (h1 : a' ≤ b') (h2 : b' ≤ s.size) (wx : World) :
    (Instr.slice T (.string s) (some (.int .i64 a)) (some (.int .i64 b)) none).run P wx = .ok (.string (s.extract a' b')) wx := by
  subst ha hb
  have := run_slice_string (P := P) (w := wx) T s .i64 .i64 (a' : Int) (b' : Int) hu (by omega) (by omega) (by omega)
  simpa using this

end Go.Proofs.YtgaanohloocokaaDoor
