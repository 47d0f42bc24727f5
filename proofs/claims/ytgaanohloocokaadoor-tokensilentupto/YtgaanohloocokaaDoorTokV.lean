/-
  token.Write as a whole: the answer is writeV, the answer of the document's own Write.
-/
import Derived.Test.YtgaanohloocokaaDoorTokS
import Derived.Test.YtgaanohloocokaaDoorTokT
import Derived.Test.YtgaanohloocokaaDoorTokU
import Derived.Test.YtgaanohloocokaaDoorPlain
namespace Go.Proofs.YtgaanohloocokaaDoor
open Go.RowKit

theorem t_Write (k n o l c : Int) (t : ByteArray) (w : World) (hG : GL w) (hn : -9223372036854775808 ≤ n ∧ n ≤ 9223372036854775807) (hs : t.size ≤ 90000000) :
    Calls Tryd.prog 17 #[.agg #[.int .i64 k, .string t, .int .i64 n, .int .i64 o, .int .i64 l, .int .i64 c]] w fun e w' => e = .returned (writeV k n t) ∧ Below w.heap.size w w' := by
  rw [← writeS_eq]
  by_cases h0 : k = 0
  · subst h0; exact t_Write_0 n o l c t w hG hn hs
  by_cases h2 : k = 2
  · subst h2; exact t_Write_2 n o l c t w hG hn hs
  by_cases h4 : k = 4
  · subst h4; exact t_Write_4 n o l c t w hG hn hs
  exact t_Write_t k n o l c t w hG hn hs h0 h2 h4
end Go.Proofs.YtgaanohloocokaaDoor
