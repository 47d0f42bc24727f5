/-
  Laws: a string's bytes appended to a row of bytes whose tail is not frozen, or that is full.
-/
import Derived.Test.YtgaanohloocokaaDoorOwn
import Derived.Lib.FrozenHead
import Derived.Deep.AppendLies
namespace Go.Proofs.YtgaanohloocokaaDoor
open Go.RowKit

/-- a row of bytes that the call made: its tail is not frozen, or it is full -/
def RowX (w : World) (base : Nat) (e : TypeId) (v : Value) (n : Nat) (xs : List Value) : Prop :=
  xs.length = n ∧ ∃ g cap cur fz, v = .slice (some ⟨g, 0, none⟩) n cap ∧ base ≤ g ∧ w.heap[g]? = some (.cells cur e fz) ∧ (fz.2 ≤ n ∨ n = cap) ∧ n ≤ cap ∧ cap ≤ maxLen ∧ cur.size = cap ∧ cur.toList.take n = xs
theorem RowX.ofF {w : World} {base : Nat} {e : TypeId} {v : Value} {n : Nat} {xs : List Value} (h : w.ownsRowF base e 1 v n xs) (hv : v ≠ .slice none 0 0) : RowX w base e v n xs := by
  obtain ⟨h1, h2⟩ := h
  rcases h2 with ⟨a, _⟩ | ⟨g, cap, cur, fz, rfl, a, b, c, d, f, k, l⟩
  · exact absurd a hv
  · exact ⟨by simpa using h1, g, cap, cur, fz, rfl, a, b, Or.inl (by simpa using c), d, f, by simpa using k, by simpa using l⟩
section
variable {P : Program} (w : World)
theorem run_append_X (base : Nat) (t u ty e : TypeId) (i : TypeInfo) (ht : P.underlying t = some (.slice e)) (hu : P.underlying u = some .string) (hi : P.info? e = some i) (hz : i.zero = some (.int .u8 0))
    (hsize : i.size = 1) (hby : i.bytes = 1)
    (v : Value) (n : Nat) (xs : List Value) (hown : RowX w base e v n xs) (s : ByteArray)
    (h63 : n + s.size ≤ maxLen) (hbytes : n + s.size ≤ 140737488355328) (hbase : base ≤ w.heap.size) :
    ∃ v' w', (Builtin.append_ #[t, u] ty #[v, .string s]).run P w = .ok v' w' ∧ RowX w' base e v' (n + s.size) (xs ++ Lib.strCells s) ∧ w.grownBy w' v.ownBlock := by
  obtain ⟨hxl, g, cap, cur, fz, rfl, hbg, hg, hfz, hnc, hcm, hcs, htake⟩ := hown
  by_cases hf : fz.2 ≤ n
  · obtain ⟨v', w', a, b, c, d⟩ := Lib.run_append_own_stringF (P := P) w base t u ty e i ht hu hi hz hsize hby _ n xs ⟨by simpa using hxl, Or.inr ⟨g, cap, cur, fz, rfl, hbg, hg, by simpa using hf, hnc, hcm, by simpa using hcs, by simpa using htake⟩⟩ s h63 hbytes hbase
    refine ⟨v', w', a, RowX.ofF b (fun q => ?_), c⟩
    have := (d.1 q).1
    simp at this
  · have hcap : n = cap := by rcases hfz with q | q; exact absurd q hf; exact q
    subst hcap
    have hsmall : n + s.size ≤ 9223372036854775807 := by simp only [maxLen] at h63; omega
    by_cases hs0 : s.size = 0
    · have hn : Lib.strCells s = [] := List.eq_nil_of_length_eq_zero (by rw [Lib.strCells_length]; exact hs0)
      refine ⟨.slice (some ⟨g, 0, none⟩) n n, w, ?_, ?_, ⟨rfl, rfl, rfl, Nat.le_refl _, fun _ _ _ => rfl⟩⟩
      · have hff := Lib.run_firstCells_string (P := P) w 1 s
        have hst : (storeCells ((⟨g, 0, none⟩ : Addr).add n) ([] : List Value) 0).run P w = .ok () w := rfl
        rw [hn, hs0] at hff
        simp [Builtin.append_, run_underlying ht, run_underlying hu, sizeOf, typeInfo, hi, hsize, Builtin.lenOf, hs0, hff, Addr.add_lit, storeCells]
      · rw [hs0, hn, List.append_nil, Nat.add_zero]
        exact ⟨hxl, g, n, cur, fz, rfl, hbg, hg, Or.inr rfl, Nat.le_refl _, hcm, hcs, htake⟩
    · have holds : ∀ j u, xs[j]? = some u → w.cell? ((⟨g, 0, none⟩ : Addr).add j) = some u := by
        intro j u hj
        have hadd : (⟨g, 0, none⟩ : Addr).add j = ⟨g, j, none⟩ := by unfold Addr.add; split <;> simp_all
        rw [hadd, cell_of_row w g j cur e fz hg]
        rw [← htake, List.getElem?_take] at hj
        split at hj
        · simpa using hj
        · cases hj
      have hr := Lib.run_append_grow_string (P := P) w t u ty e i (.int .u8 0) ht hu hi hz ⟨g, 0, none⟩ n n xs (by rw [hsize]; simpa using hxl) holds s (by omega) (by omega) (by rw [hby]; exact growslice_fits (by omega) (by omega))
      have hge := grownCap_ge w (n + s.size) n e
      have hcm2 : grownCap w (n + s.size) n e ≤ maxLen := grownCap_le_maxLen w (n + s.size) n e h63
      refine ⟨_, _, hr, ⟨by rw [List.length_append, hxl, Lib.strCells_length], w.heap.size, _, _, (0, 0), rfl, hbase, heap_alloc_new w.drew _, Or.inl (Nat.zero_le _), hge, hcm2, ?_, ?_⟩, ⟨rfl, rfl, rfl, by simp, fun k hk _ => _root_.Go.heap_alloc_old w.drew _ hk⟩⟩
      · have hz1 : (Value.int IntKind.u8 0).cells.size = 1 := rfl
        simp only [Array.size_append, List.size_toArray, size_zeroCells, hz1, hxl, Lib.strCells_length]
        omega
      · simp only [Array.toList_append, List.append_assoc]
        rw [← List.append_assoc]
        have hlen : (xs ++ Lib.strCells s).length = n + s.size := by rw [List.length_append, hxl, Lib.strCells_length]
        rw [← hlen]
        exact List.take_left
/-- at a step of a region that draws its order -/
theorem step_append_X {ops : Array Oper} {o : Oper} {a : Act} {K : Act → World → Prop} {Q : Exit → Act → World → Prop} {E : Prop} (hgd : o.guard = none) (sl x : Operand) (t u : TypeId)
    (ho : o.op = .call { callee := .builtin .append, args := #[sl, x], argTypes := #[t, u] })
    (base : Nat) (e : TypeId) (i : TypeInfo) (ht : P.underlying t = some (.slice e)) (hu : P.underlying u = some .string) (hi : P.info? e = some i) (hz : i.zero = some (.int .u8 0))
    (hsize : i.size = 1) (hby : i.bytes = 1)
    (v : Value) (n : Nat) (xs : List Value) (hs : a.eval sl = v) (hown : RowX w base e v n xs) (s : ByteArray) (hx : a.eval x = .string s)
    (h63 : n + s.size ≤ maxLen) (hbytes : n + s.size ≤ 140737488355328) (hbase : base ≤ w.heap.size)
    (h : ∀ v' w', RowX w' base e v' (n + s.size) (xs ++ Lib.strCells s) → w.grownBy w' v.ownBlock → K (a.put o.dst v') w') :
    if Region.wanted o (yielded ops a.tmps) = true then Oper.wp P o a w K Q else E := by
  have hw : Region.wanted o (yielded ops a.tmps) = true := by simp [Region.wanted, hgd]
  rw [if_pos hw]
  obtain ⟨v', w', hr, h2, h3⟩ := run_append_X (P := P) w base t u o.type e i ht hu hi hz hsize hby v n xs hown s h63 hbytes hbase
  unfold Oper.wp execOp
  simp only [ho, resolve, invoke, builtin, Sem.run_bind, Sem.run_pure, Result.andThen_ok, List.map_toArray, List.map_cons, List.map_nil, hs, hx, hr]
  exact h v' w' h2 h3
end

theorem RowX.far {w : World} {base : Nat} {e : TypeId} {v : Value} {n : Nat} {xs : List Value} (h : RowX w base e v n xs) {g : Nat} {t : TypeId} {cs : Array Value} (hb : Blk w g t cs) (ht : t ≠ e) : some g ≠ v.ownBlock := fun q => by
  obtain ⟨_, g', cap, cur, fz, rfl, _, hg, _⟩ := h
  simp [Value.ownBlock] at q
  subst q
  unfold Blk at hb
  rw [hb] at hg
  cases hg
  exact ht rfl
theorem RowX.blk {w w' : World} {base : Nat} {e : TypeId} {v : Value} {n : Nat} {xs : List Value} (h : RowX w base e v n xs) (hg : w.grownBy w' v.ownBlock) {g : Nat} {t : TypeId} {cs : Array Value} (hb : Blk w g t cs) (ht : t ≠ e) : Blk w' g t cs := by
  have hne := h.far hb ht
  have hl := hb.lt
  unfold Blk at *
  rw [hg.block g hl hne]; exact hb
theorem RowX.own {w w' : World} {base base2 : Nat} {e t : TypeId} {size : Nat} {v u : Value} {n m : Nat} {xs ys : List Value} (h : RowX w base e v n xs) (hg : w.grownBy w' v.ownBlock) (ho : w.ownsRow base2 t size u m ys) (ht : t ≠ e) : w'.ownsRow base2 t size u m ys := by
  obtain ⟨h1, h2⟩ := ho
  refine ⟨h1, ?_⟩
  rcases h2 with h2 | ⟨g, cap, cur, hv, hb, hh, r⟩
  · exact Or.inl h2
  · exact Or.inr ⟨g, cap, cur, hv, hb, h.blk hg (show Blk w g t cur from hh) ht, r⟩
theorem RowX.ge {w : World} {base : Nat} {e : TypeId} {v : Value} {n : Nat} {xs : List Value} (h : RowX w base e v n xs) : ∀ b, v.ownBlock = some b → base ≤ b := by
  obtain ⟨_, g', cap, cur, fz, rfl, hb, _⟩ := h
  intro b hb2
  simp [Value.ownBlock] at hb2
  omega
theorem RowX.below {w w' : World} {base : Nat} {e : TypeId} {v : Value} {n : Nat} {xs : List Value} (h : RowX w base e v n xs) (hb : Below w.heap.size w w') : RowX w' base e v n xs := by
  obtain ⟨a, g', cap, cur, fz, hv, b, c, d⟩ := h
  exact ⟨a, g', cap, cur, fz, hv, b, by rw [hb.block g' (blk_lt c)]; exact c, d⟩
theorem RowX.drew {w : World} {base : Nat} {e : TypeId} {v : Value} {n : Nat} {xs : List Value} (h : RowX w base e v n xs) : RowX w.drew base e v n xs := h
theorem RowX.bytes {w : World} {base : Nat} {e : TypeId} {v : Value} {s : ByteArray} (h : RowX w base e v s.size (Lib.strCells s)) : ∃ g cap, v = .slice (some ⟨g, 0, none⟩) s.size cap ∧ ∀ j (hj : j < s.size), w.cell? ⟨g, 0 + j, none⟩ = some (.int .u8 (s[j].toNat : Int)) := by
  obtain ⟨a, g, cap, cur, fz, rfl, b, c, d, e1, e2, e3, e4⟩ := h
  refine ⟨g, cap, rfl, fun j hj => ?_⟩
  rw [Nat.zero_add, cell_of_row w g j cur e fz c]
  have h1 : (Lib.strCells s)[j]? = some (.int .u8 (s[j].toNat : Int)) := by
    unfold Lib.strCells
    rw [List.getElem?_map, List.getElem?_eq_getElem (by simpa using hj)]
    rfl
  have h2 : (cur.toList.take s.size)[j]? = some (.int .u8 (s[j].toNat : Int)) := by rw [e4]; exact h1
  rw [List.getElem?_take, if_pos hj] at h2
  simpa using h2

end Go.Proofs.YtgaanohloocokaaDoor
