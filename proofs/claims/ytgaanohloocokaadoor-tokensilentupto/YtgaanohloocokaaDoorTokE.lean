/-
  Walks of package token: byteAt by one word, Atoi at digits.
-/
import Derived.Test.YtgaanohloocokaaDoorTokD
import Derived.Test.YtgaanohloocokaaDoorPlain
namespace Go.Proofs.YtgaanohloocokaaDoor
open Go.RowKit

theorem t_byte (g : Nat) (s : ByteArray) (o : Nat) (l c : Int) (k : Int) (w : World) (h : Cut w g s o l c) (ho : o ≤ s.size) (hs : s.size ≤ 140737488351232) (hk : 0 ≤ k) :
    Calls Tryd.prog 33 #[.pointer (some ⟨g, 0, none⟩), .int .i64 k] w fun e w' => e = .returned (.int .u8 (bv s (o + k.toNat))) ∧ ∃ n, w.drewN n = w' :=
  t_byteAt g s o l c k w h ho hs hk

theorem l_Atoi_ok {s : ByteArray} {o e : Nat} (hoe : o < e) (he : e ≤ s.size) (hs : s.size ≤ 140737488351232) (hd : ∀ j, o ≤ j → j < e → isDig (B s j) = true) (hv : dval s o e < 9223372036854775808) (w : World) :
    Calls Tryd.prog 55 #[.string (s.extract o e)] w fun x w' => x = .returned (.tuple #[.int .i64 (dval s o e), .nilIface]) ∧ Below w.heap.size w w' := by
  have hz := size_ext (s := s) (a := o) he
  refine (Tryd.strconv_Atoi_ok (s.extract o e) (by omega) (dval s o e) (by rw [atoi_dval hoe he hd, if_pos hv]) w).mono ?_
  rintro x w' ⟨rfl, rfl | ⟨t, rfl⟩⟩
  · exact ⟨rfl, Below.refl _ _⟩
  · exact ⟨rfl, Go.Joins.below_bytesWorld _ _ _ _ (Nat.le_refl _)⟩
theorem l_Atoi_big {s : ByteArray} {o e : Nat} (hoe : o < e) (he : e ≤ s.size) (hs : s.size ≤ 140737488351232) (hd : ∀ j, o ≤ j → j < e → isDig (B s j) = true) (hv : ¬ dval s o e < 9223372036854775808) (w : World) (hG : GL w) :
    Calls Tryd.prog 55 #[.string (s.extract o e)] w fun x w' => ∃ v T p, x = .returned (.tuple #[.int .i64 v, .iface T (.pointer (some p))]) ∧ Below w.heap.size w w' := by
  have hz := size_ext (s := s) (a := o) he
  obtain ⟨tp, p, hp⟩ := hG.rng
  refine (Tryd.strconv_Atoi_range_var (s.extract o e) (by omega) (by rw [atoi_dval hoe he hd, if_neg hv]) tp p w hp).mono ?_
  rintro x w' ⟨N, rfl, _, _, hb⟩
  exact ⟨_, _, _, rfl, hb⟩

end Go.Proofs.YtgaanohloocokaaDoor
