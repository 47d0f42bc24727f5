/-
  Walk of phasorref04.Write.
-/
import Derived.Test.YtgaanohloocokaaDoorRefK
import Derived.Test.YtgaanohloocokaaDoorRefL
import Derived.Test.YtgaanohloocokaaDoorRefM
namespace Go.Proofs.YtgaanohloocokaaDoor
open Go.RowKit

set_option maxRecDepth 100000 in
set_option maxHeartbeats 4000000 in
theorem r_Write (k n o l c : Int) (t : ByteArray) (w : World) (hG : GL w) (hn : -9223372036854775808 ≤ n ∧ n ≤ 9223372036854775807) (hs : t.size ≤ 140737488351000) :
    Calls Tryd.prog 18 #[.agg #[.int .i64 k, .string t, .int .i64 n, .int .i64 o, .int .i64 l, .int .i64 c]] w fun e w' => e = .returned (writeV k n t) ∧ Below w.heap.size w w' := by
  by_cases h0 : k = 0
  · subst h0; exact r_Write_0 n o l c t w hG hn hs
  by_cases h1 : k = 1
  · subst h1; exact r_Write_1 n o l c t w hG hn hs
  by_cases h2 : k = 2
  · subst h2; exact r_Write_2 n o l c t w hG hn hs
  by_cases h3 : k = 3
  · subst h3; exact r_Write_3 n o l c t w hG hn hs
  by_cases h4 : k = 4
  · subst h4; exact r_Write_4 n o l c t w hG hn hs
  by_cases h5 : k = 5
  · subst h5; exact r_Write_5 n o l c t w hG hn hs
  have HV := Lib.hid (write_out (k := k) (n := n) (t := t) (by omega))
  have hw0 := Lib.hid ((Below.refl w.heap.size w).alloc (Nat.le_refl _) (.cells #[.int .i64 k, .string t, .int .i64 n, .int .i64 o, .int .i64 l, .int .i64 c] 37))
  have e0 : (k == 0) = false := beq_eq_false_iff_ne.2 h0
  have e1 : (k == 1) = false := beq_eq_false_iff_ne.2 h1
  have e2 : (k == 2) = false := beq_eq_false_iff_ne.2 h2
  have e3 : (k == 3) = false := beq_eq_false_iff_ne.2 h3
  have e4 : (k == 4) = false := beq_eq_false_iff_ne.2 h4
  have e5 : (k == 5) = false := beq_eq_false_iff_ne.2 h5
  rw [HV.out]
  clear h0 h1 h2 h3 h4 h5 hG
  go_enter Tryd.func18, Tryd.ntmps18
  go_wp2
  go_ret2
  exact ⟨rfl, hw0.out⟩

end Go.Proofs.YtgaanohloocokaaDoor
