/-
  What scanning says of names; an own row's block.
-/
import Derived.Test.YtgaanohloocokaaDoorTokP
import Derived.Test.YtgaanohloocokaaDoorPlain
namespace Go.Proofs.YtgaanohloocokaaDoor
open Go.RowKit

theorem nameSc_eq (s : ByteArray) : nameSc s (scan s) = nameB s := by
  rw [Bool.eq_iff_iff, name_scan]
  obtain ⟨R, hR⟩ : ∃ R, scan s = R := ⟨_, rfl⟩
  rw [hR]
  obtain ⟨l, c, o⟩ := R
  unfold nameSc
  simp only [Bool.and_eq_true, beq_iff_eq]
  constructor
  · rintro ⟨rfl, h⟩
    rcases l with _ | ⟨x, _ | ⟨y, _ | ⟨z, r⟩⟩⟩
    · simp at h
    · simp at h
    · simp only [Bool.and_eq_true, beq_iff_eq] at h
      exact ⟨x, y, o, rfl, h.1, ba_ext (by rw [← ByteArray.toList_eq, ← ByteArray.toList_eq]; exact h.2)⟩
    · simp at h
  · rintro ⟨x, y, o', h, h1, h2⟩
    simp only [Prod.mk.injEq] at h
    obtain ⟨rfl, rfl, rfl⟩ := h
    exact ⟨rfl, by simp [h1, h2]⟩
theorem own_blk {w : World} {base : Nat} {e : TypeId} {size : Nat} {v : Value} {n : Nat} {xs : List Value} (h : w.ownsRow base e size v n xs) (hn : 0 < n) :
    ∃ g cap cur, v = .slice (some ⟨g, 0, none⟩) n cap ∧ n ≤ cap ∧ base ≤ g ∧ g < w.heap.size ∧ Blk w g e cur ∧ ∀ j u, xs[j]? = some u → w.cell? ⟨g, j, none⟩ = some u ∧ w.frozen? ⟨g, j, none⟩ = false := by
  obtain ⟨h1, h2⟩ := h
  rcases h2 with ⟨_, h0⟩ | ⟨g, cap, cur, hv, hg, hh, hnc, _, hsz, hx⟩
  · omega
  · have hb : Blk w g e cur := hh
    refine ⟨g, cap, cur, hv, hnc, hg, blk_lt hh, hh, fun j u hu => ⟨?_, hb.frozen j⟩⟩
    rw [hb.cell j]
    rw [← hx] at hu
    rw [List.getElem?_take] at hu
    split at hu
    · simpa using hu
    · cases hu
theorem isE (X : ByteArray) : X.toList.isEmpty = (X.size == 0) := by
  rw [ByteArray.toList_eq, ← ByteArray.size_data, ← Array.length_toList]
  cases X.data.toList <;> simp

end Go.Proofs.YtgaanohloocokaaDoor
