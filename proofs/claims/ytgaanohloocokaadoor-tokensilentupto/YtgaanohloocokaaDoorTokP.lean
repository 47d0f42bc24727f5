/-
  Walks of package token: Name.
-/
import Derived.Test.YtgaanohloocokaaDoorTokN
namespace Go.Proofs.YtgaanohloocokaaDoor
open Go.RowKit

theorem faultV_ok (s : ByteArray) (l : List Tp) (o : Nat) : faultV s (l, 0, o) = .agg #[.int .i64 0, .int .i64 0, .int .i64 0, .int .i64 0] := rfl
theorem faultV_err {s : ByteArray} {l : List Tp} {c : Int} {o : Nat} (h : ¬ c = 0) : faultV s (l, c, o) = .agg #[.int .i64 c, .int .i64 o, .int .i64 (P s o).1, .int .i64 (P s o).2] := by
  unfold faultV; rw [if_neg h]

/-- is what scanning came to one name and the end -/
def nameSc (s : ByteArray) (R : Sc) : Bool := (R.2.1 == 0) && (match R.1 with | [x, _] => x.t.k == 1 && (x.t.t.toList == s.toList) | _ => false)

set_option maxRecDepth 100000 in
set_option maxHeartbeats 4000000 in
theorem t_Name (s : ByteArray) (w : World) (hG : GL w) (hs : s.size ≤ 100000000) :
    Calls Tryd.prog 11 #[.string s] w fun e w' => e = .returned (.bool (nameSc s (scan s))) ∧ Below w.heap.size w w' := by
  obtain ⟨R, hR⟩ : ∃ R, scan s = R := ⟨_, rfl⟩
  rw [hR]
  obtain ⟨l, c, o⟩ := R
  have HR := Lib.hid hR
  have HG := Lib.hid hG
  clear hR hG
  go_enter Tryd.func11, Tryd.ntmps11
  go_wp2_with fail
  refine (t_Scan s _ HG.out hs).mono ?_
  rintro e w1 ⟨v, rfl, hown, hb⟩
  rw [HR.out] at hown ⊢
  have HB := Lib.hid hb
  clear hb HR
  by_cases hc : c = 0
  · subst hc
    rw [faultV_ok]
    rcases l with _ | ⟨x, _ | ⟨y, _ | ⟨z, r⟩⟩⟩
    · obtain ⟨a, cap, rfl, _⟩ := own_slice hown
      clear hown
      go_wp2
      go_ret
      exact ⟨rfl, HB.out.alloc HB.out.size _⟩
    · obtain ⟨a, cap, rfl, _⟩ := own_slice hown
      clear hown
      go_wp2
      go_ret
      exact ⟨rfl, HB.out.alloc HB.out.size _⟩
    · obtain ⟨g, cap, rfl, hcap, hg, hgl, hcell⟩ := own_cells hown (by simp)
      have c0 := hcell 0 (.int .i64 x.t.k) rfl
      have c1 := hcell 1 (.string x.t.t) rfl
      clear hown hcell
      obtain ⟨kb, hkb⟩ : ∃ kb, (x.t.k == 1) = kb := ⟨_, rfl⟩
      obtain ⟨tb, htb⟩ : ∃ tb, (x.t.t.toList == s.toList) = tb := ⟨_, rfl⟩
      have hN : nameSc s ([x, y], 0, o) = (kb && tb) := by simp [nameSc, hkb, htb]
      have HN := Lib.hid hN
      clear hN
      cases kb <;> cases tb
      all_goals
        go_wp2
        go_ret
        exact ⟨ret_bool HN.out.symm, HB.out.alloc HB.out.size _⟩
    · obtain ⟨a, cap, rfl, _⟩ := own_slice hown
      clear hown
      have hlen : ((r.length : Int) + 1 + 1 + 1 == 2) = false := beq_eq_false_iff_ne.2 (by omega)
      go_wp2
      go_ret
      exact ⟨rfl, HB.out.alloc HB.out.size _⟩
  · rw [faultV_err hc]
    have hcb : (c == 0) = false := by simp [hc]
    have hN : nameSc s (l, c, o) = false := by simp [nameSc, hc]
    have HN := Lib.hid hN
    obtain ⟨a, cap, rfl, _⟩ := own_slice hown
    clear hown hc hN
    go_wp2
    go_ret
    exact ⟨ret_bool HN.out.symm, HB.out.alloc HB.out.size _⟩

end Go.Proofs.YtgaanohloocokaaDoor
