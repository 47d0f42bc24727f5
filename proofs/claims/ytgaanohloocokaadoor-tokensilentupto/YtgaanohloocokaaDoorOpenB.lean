/-
  A row of bytes that comes in, opened.
-/
import Derived.Test.YtgaanohloocokaaDoorOpen
import Derived.Test.YtgaanohloocokaaDoorLawH
import Derived.ChangeSlices
namespace Go.Proofs.YtgaanohloocokaaDoor
open Go.ChangeShapes Go.WideShapes Go.ChangeAt Go.RowKit

theorem u8_bounds {n : Int} (h : (Lit.int .u8 n).wf = true) : 0 ≤ n ∧ n ≤ 255 := by
  have e1 : IntKind.u8.min = 0 := rfl
  have e2 : IntKind.u8.max = 255 := rfl
  simp [Lit.wf, e1, e2] at h
  exact h
section
variable {H : Type} {enc : TypeId × Value → H} {w : World} {base : Nat} {spare : Nat → Bool} {held : Bool}
theorem open_bytes {fuel : Nat} {cs : List Value} {x : DataW H × List MemPlace} (h : DataW.trod enc Tryd.prog w base spare held fuel 48 cs = some x) : ∃ v ms, cs = [v] ∧ MkRow w v ms := by
  rcases open_ints Tryd.underlying48 Tryd.underlying5 (by kernel_rfl) h with ⟨rfl, rfl⟩ | ⟨a, len, cap, zs, rfl, hb, hlc, hcm, hzl, rfl, hcell, hwf⟩
  · exact ⟨_, [], rfl, none, 0, rfl, fun i b hi => by simp at hi⟩
  · have hlz : len ≤ zs.length := by rw [hzl]; split <;> omega
    refine ⟨_, (zs.take len).map Int.toNat, rfl, some a, cap, by simp [Nat.min_eq_left hlz], fun i b hi => ?_⟩
    rw [List.getElem?_map] at hi
    obtain ⟨z, hz, rfl⟩ := Option.map_eq_some_iff.1 hi
    have hil : i < len := by
      rcases Nat.lt_or_ge i len with q | q
      · exact q
      · rw [List.getElem?_take, if_neg (by omega)] at hz; cases hz
    rw [List.getElem?_take, if_pos hil] at hz
    have hgd : zs.getD i 0 = z := by rw [List.getD, hz]; rfl
    have hb8 := u8_bounds (hwf z (List.mem_of_getElem? hz))
    have h0 := hcell 0 (by omega)
    simp only [Addr.add, if_true] at h0
    have hsp : a.spot = none := by
      unfold World.cell? at h0
      cases hs : a.spot with
      | none => rfl
      | some v =>
        rw [hs] at h0
        split at h0
        · simp at h0
        · simp at h0
    obtain ⟨g, o, sp⟩ := a
    simp only at hsp
    subst hsp
    have hc := hcell i (by omega)
    rw [add_plain, hgd] at hc
    refine ⟨by omega, g, o, rfl, block_lt_of_cell hc, ?_⟩
    rw [hc, Int.toNat_of_nonneg hb8.1]
end

end Go.Proofs.YtgaanohloocokaaDoor
