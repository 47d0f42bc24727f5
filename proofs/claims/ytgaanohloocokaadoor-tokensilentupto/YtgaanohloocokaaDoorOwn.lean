/-
  Words for rows of tokens that a call makes.
-/
import Derived.Test.YtgaanohloocokaaDoorBase2
import Derived.Test.YtgaanohloocokaaDoorPlain
import Derived.OwnWalk
import Derived.Laws.AppendOwn
namespace Go.Proofs.YtgaanohloocokaaDoor
open Go.RowKit

theorem infoToken : (Tryd.prog.info? 37).map (fun i => (i.zero, i.size, i.bytes)) = some (some (.agg #[.int .i64 0, .string ⟨#[]⟩, .int .i64 0, .int .i64 0, .int .i64 0, .int .i64 0]), 6, 56) := by kernel_rfl

theorem ownsRow_below {w w1 : World} {base : Nat} {e : TypeId} {size : Nat} {v : Value} {n : Nat} {xs : List Value} (h : w.ownsRow base e size v n xs) (hb : Below w.heap.size w w1) : w1.ownsRow base e size v n xs := by
  obtain ⟨h1, h2⟩ := h
  refine ⟨h1, ?_⟩
  rcases h2 with h2 | ⟨g, cap, cur, hv, hg, hh, r⟩
  · exact Or.inl h2
  · exact Or.inr ⟨g, cap, cur, hv, hg, by rw [hb.block g (blk_lt hh)]; exact hh, r⟩
theorem ownsRow_set {w : World} {base : Nat} {e : TypeId} {size : Nat} {v : Value} {n : Nat} {xs : List Value} (h : w.ownsRow base e size v n xs) {p : Addr} {t : TypeId} {cs : Array Value} (hp : Blk w p.block t cs) (ht : t ≠ e) (u : Value) : (w.setCell p u).ownsRow base e size v n xs := by
  obtain ⟨h1, h2⟩ := h
  refine ⟨h1, ?_⟩
  rcases h2 with h2 | ⟨g, cap, cur, hv, hg, hh, r⟩
  · exact Or.inl h2
  · refine Or.inr ⟨g, cap, cur, hv, hg, ?_, r⟩
    rw [Below.heap_setCell]
    · exact hh
    · rintro rfl
      unfold Blk at hp
      rw [hp] at hh
      cases hh
      exact ht rfl

theorem ownsRow_base {w : World} {base base' : Nat} {e : TypeId} {size : Nat} {v : Value} {n : Nat} {xs : List Value} (h : w.ownsRow base e size v n xs) (hb : base' ≤ base) : w.ownsRow base' e size v n xs := by
  obtain ⟨h1, h2⟩ := h
  refine ⟨h1, ?_⟩
  rcases h2 with h2 | ⟨g, cap, cur, hv, hg, r⟩
  · exact Or.inl h2
  · exact Or.inr ⟨g, cap, cur, hv, by omega, r⟩
theorem own_some {w : World} {base : Nat} {e : TypeId} {size : Nat} {v : Value} {n : Nat} {xs : List Value} (h : w.ownsRow base e size v n xs) {b : Nat} (hb : v.ownBlock = some b) : ∃ cs, Blk w b e cs := by
  obtain ⟨h1, h2⟩ := h
  rcases h2 with ⟨hv, _⟩ | ⟨g, cap, cur, hv, hg, hh, r⟩
  · subst hv; simp [Value.ownBlock] at hb
  · subst hv
    simp [Value.ownBlock] at hb
    subst hb
    exact ⟨cur, hh⟩
theorem grown_blk {w w' : World} {base : Nat} {e : TypeId} {size : Nat} {v : Value} {n : Nat} {xs : List Value} (ho : w.ownsRow base e size v n xs) (hg : w.grownBy w' v.ownBlock) {g : Nat} {t : TypeId} {cs : Array Value} (hb : Blk w g t cs) (ht : t ≠ e) : Blk w' g t cs := by
  have hne : some g ≠ v.ownBlock := fun q => by
    obtain ⟨cs', hc⟩ := own_some ho q.symm
    unfold Blk at hb hc
    rw [hb] at hc
    cases hc
    exact ht rfl
  have hl := hb.lt
  unfold Blk at *
  rw [hg.block g hl hne]; exact hb
theorem grown_blk_new {w0 w w' : World} {base : Nat} {e : TypeId} {size : Nat} {v : Value} {n : Nat} {xs : List Value} (ho : w0.ownsRow base e size v n xs) (hg : w.grownBy w' v.ownBlock) {g : Nat} {t : TypeId} {cs : Array Value} (hb : Blk w g t cs) (hge : w0.heap.size ≤ g) : Blk w' g t cs := by
  have hne : some g ≠ v.ownBlock := fun q => by
    obtain ⟨cs', hc⟩ := own_some ho q.symm
    have := hc.lt
    omega
  have hl := hb.lt
  unfold Blk at *
  rw [hg.block g hl hne]; exact hb
theorem own_ge {w : World} {base : Nat} {e : TypeId} {size : Nat} {v : Value} {n : Nat} {xs : List Value} (h : w.ownsRow base e size v n xs) : ∀ b, v.ownBlock = some b → base ≤ b := by
  intro b hb
  obtain ⟨h1, h2⟩ := h
  rcases h2 with ⟨hv, _⟩ | ⟨g, cap, cur, hv, hg, hh, r⟩
  · subst hv; simp [Value.ownBlock] at hb
  · subst hv
    simp [Value.ownBlock] at hb
    omega
theorem blk_cells {w : World} {g : Nat} {t : TypeId} {cs : List Value} (h : Blk w g t cs.toArray) : ∀ j u, cs[j]? = some u → w.cell? (Addr.add ⟨g, 0, none⟩ j) = some u := by
  intro j u hu
  have hadd : (⟨g, 0, none⟩ : Addr).add j = ⟨g, j, none⟩ := by unfold Addr.add; split <;> simp_all
  rw [hadd, h.cell j]
  simpa using hu
theorem two_new (w : World) (A : Obj) (t : TypeId) (cs : List Value) : ∀ j u, cs[j]? = some u → ((w.alloc A).alloc (.cells cs.toArray t)).cell? (Addr.add ⟨w.heap.size + 1, 0, none⟩ j) = some u :=
  blk_cells (t := t) (by simpa using Blk.new (w.alloc A) t cs.toArray)
theorem tpCells_one (x : Tp) : ∀ u ∈ tpCells x, u.oneCell' = true := by
  intro u hu
  simp [tpCells] at hu
  rcases hu with rfl | rfl | rfl | rfl | rfl | rfl <;> rfl

/-- what scanning hands back -/
def ScPost (s : ByteArray) (w : World) (R : Sc) (e : Ending) (w' : World) : Prop :=
  ∃ v, e = .returned (.tuple #[v, faultV s R]) ∧ w'.ownsRow w.heap.size 37 6 v R.1.length (tpRow R.1) ∧ Below w.heap.size w w'

theorem ownsRow_kp {w w1 : World} {S : Nat → Prop} {base : Nat} {e : TypeId} {size : Nat} {v : Value} {n : Nat} {xs : List Value} (h : w.ownsRow base e size v n xs) (hk : Kp S w w1) (hS : ∀ b cs, Blk w b e cs → ¬ S b) : w1.ownsRow base e size v n xs := by
  obtain ⟨h1, h2⟩ := h
  refine ⟨h1, ?_⟩
  rcases h2 with h2 | ⟨g, cap, cur, hv, hg, hh, r⟩
  · exact Or.inl h2
  · exact Or.inr ⟨g, cap, cur, hv, hg, hk.blk hh (hS g cur hh), r⟩

/-- an owned row that is not empty lies in a block, and its cells read -/
theorem own_cells {w : World} {base : Nat} {e : TypeId} {size : Nat} {v : Value} {n : Nat} {xs : List Value} (h : w.ownsRow base e size v n xs) (hn : 0 < n) :
    ∃ g cap, v = .slice (some ⟨g, 0, none⟩) n cap ∧ n ≤ cap ∧ base ≤ g ∧ g < w.heap.size ∧ ∀ j u, xs[j]? = some u → w.cell? ⟨g, j, none⟩ = some u := by
  obtain ⟨h1, h2⟩ := h
  rcases h2 with ⟨_, h0⟩ | ⟨g, cap, cur, hv, hg, hh, hnc, _, hsz, hx⟩
  · omega
  · refine ⟨g, cap, hv, hnc, hg, blk_lt hh, fun j u hu => ?_⟩
    have hb : Blk w g e cur := hh
    rw [hb.cell j]
    rw [← hx] at hu
    rw [List.getElem?_take] at hu
    split at hu
    · simpa using hu
    · cases hu
theorem own_slice {w : World} {base : Nat} {e : TypeId} {size : Nat} {v : Value} {n : Nat} {xs : List Value} (h : w.ownsRow base e size v n xs) : ∃ a cap, v = .slice a n cap ∧ n ≤ cap := by
  obtain ⟨h1, h2⟩ := h
  rcases h2 with ⟨hv, h0⟩ | ⟨g, cap, cur, hv, hg, hh, hnc, _⟩
  · exact ⟨none, 0, by rw [hv, h0], by omega⟩
  · exact ⟨_, cap, hv, hnc⟩

end Go.Proofs.YtgaanohloocokaaDoor
