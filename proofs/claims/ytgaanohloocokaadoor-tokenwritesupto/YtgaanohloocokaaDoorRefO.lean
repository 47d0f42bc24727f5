/-
  Walk of phasorref04.Join.
-/
import Derived.Test.YtgaanohloocokaaDoorRow
import Derived.Test.YtgaanohloocokaaDoorRefN
namespace Go.Proofs.YtgaanohloocokaaDoor
open Go.RowKit

set_option maxRecDepth 100000 in
set_option maxHeartbeats 4000000 in
theorem r_Join (v : Value) (L : List Tq) (w : World) (hG : GL w) (hv : TkRow w v L) (hl : L.length ≤ 1048600) (hok : ∀ x ∈ L, x.ok) :
    Calls Tryd.prog 20 #[v] w fun e w' => e = .returned (joinV L) ∧ Below w.heap.size w w' := by
  obtain ⟨a, cap, rfl, hc, hx⟩ := hv
  have HX := Lib.hid hx
  have HG := Lib.hid hG
  have HK := Lib.hid hok
  clear hx hG hok
  go_enter Tryd.func20, Tryd.ntmps20
  go_wp2
  go_loopw [4, 5] (fun u i wr => ∃ (pre r : List Tq), i = .int .i64 pre.length ∧ u = .string (joinA pre) ∧ Hid (L = pre ++ r) ∧ pre.length ≤ L.length ∧ (joinA pre).size ≤ 100000000000000 ∧ Hid (Below w.heap.size w wr) ∧ Hid (∀ i y, pre[i]? = some y → badQ y (L.length - i - 1) = false)) (fun _ i _ => L.length - (intOf i).toNat)
  case atStart => exact ⟨[], L, rfl, rfl, rfl, Nat.zero_le _, by show 0 ≤ _; omega, Below.refl _ _, by show ∀ i y, _ → _; intro i y h; simp at h⟩
  case round =>
    obtain ⟨pre, r, rfl, rfl, HL, hpl, hsz, HB, HP⟩ := hrel
    rcases r with _ | ⟨x, r⟩
    · have hle : ¬ pre.length < L.length := by rw [HL.out]; simp
      go_wp2
      obtain rfl : L = pre := by rw [HL.out]; simp
      have HV : Hid (joinV L = .tuple #[.string (joinA L), .int .i64 0]) := joinV_ok HP.out
      go_ret2
      exact ⟨by rw [HV.out]; rfl, HB.out⟩
    · have hlt : pre.length < L.length := by rw [HL.out]; simp
      have hLx : L[pre.length]? = some x := by rw [HL.out]; simp
      have hxk := HK.out x (by rw [HL.out]; simp)
      obtain ⟨g, o, rfl, hg, hx⟩ := HX.out pre.length x hLx
      obtain ⟨c0, c1, c2, c3, c4, c5⟩ := row_cells (w := wr) (fun j u hu => (HB.out.cell hg).trans (hx j u hu))
      clear hx
      clear hLx
      obtain ⟨hn, ht⟩ := hxk
      have hzr := HB.out.size
      go_wp2_with fail
      refine (r_Write x.k x.n x.o x.l x.c x.t _ (HG.out.below HB.out) hn (by omega)).mono ?_
      rintro e w1 ⟨rfl, hb1⟩
      have HB1 := Lib.hid (HB.out.trans (hb1.mono hzr))
      have d0 := (hb1.cell (p := ⟨g, o + pre.length * 6, none⟩) (show g < wr.heap.size by omega)).trans c0
      clear c0 c1 c2 c3 c4 c5 hb1 hzr
      cases hw : writeB x.k x.n x.t
      · have HBad : Hid (joinV L = .tuple #[.string ⟨#[]⟩, .int .i64 2]) := joinV_bad HL.out (by unfold badQ; rw [hw]; rfl)
        rw [show writeV x.k x.n x.t = .tuple #[.string ⟨#[]⟩, .int .i64 2] from by unfold writeV; rw [hw]; rfl]
        go_wp2
        go_ret2
        exact ⟨by rw [HBad.out]; rfl, HB1.out⟩
      · rw [show writeV x.k x.n x.t = .tuple #[.string (wq x), .int .i64 0] from by unfold writeV; rw [hw]; rfl]
        have hws : (wq x).size ≤ 90000021 := wq_size ⟨hn, ht⟩
        have HW := Lib.hid hw
        have hLl : L.length = pre.length + (r.length + 1) := by rw [HL.out]; simp
        obtain ⟨b, hb⟩ : ∃ b, (x.k == 0) = b := ⟨_, rfl⟩
        by_cases hbad : b = true ∧ 0 < r.length
        · obtain ⟨rfl, hr⟩ := hbad
          have HBad : Hid (joinV L = .tuple #[.string ⟨#[]⟩, .int .i64 2]) := joinV_bad HL.out (by unfold badQ; rw [HW.out, hb]; simpa using hr)
          clear hw
          have hlt2 : (pre.length : Int) < (L.length : Int) - 1 := by omega
          go_wp2
          go_ret2
          exact ⟨by rw [HBad.out]; rfl, HB1.out⟩
        · have HGood : Hid (badQ x r.length = false) := by
            show badQ x r.length = false
            unfold badQ
            rw [HW.out, hb]
            cases b
            · rfl
            · simp at hbad; simp [hbad]
          clear hw
          have HN : Hid (∀ i y, (pre ++ [x])[i]? = some y → badQ y (L.length - i - 1) = false) := by
            have h1 := HP.out
            have h2 := HL.out
            rw [h2] at h1 ⊢
            exact jBad_snoc h1 HGood.out
          have HLN : Hid (L = (pre ++ [x]) ++ r) := HL.out.trans (by simp)
          have HS : Hid ((joinA (pre ++ [x])).size ≤ 100000000000000) := by
            refine joinA_le _ (by simp; omega) (fun y hy => HK.out y ?_)
            have h2 := HLN.out
            rw [h2]
            exact List.mem_append_left _ hy
          have hpl2 : (pre ++ [x]).length = pre.length + 1 := by simp
          have hple : pre.length + 1 ≤ L.length := by omega
          have hcb : b = false ∨ decide ((pre.length : Int) < (L.length : Int) - 1) = false := by
            cases b
            · exact Or.inl rfl
            · right; simp at hbad; subst hbad; simp at hLl ⊢; omega
          have hsz2 : (joinA pre).size + 1 + (wq x).size ≤ 100000090000100 := by omega
          clear hLl hbad
          by_cases hp : 0 < pre.length
          · have HJ : Hid (joinA (pre ++ [x]) = joinA pre ++ ⟨#[32]⟩ ++ wq x) := joinA_snoc pre x (fun q => by subst q; simp at hp)
            cases b
            · go_wp2
              go_roundw
              case rel => exact ⟨pre ++ [x], r, by simp, by rw [HJ.out], HLN, by omega, HS.out, HB1, HN⟩
              case measure => simp [intOf]; omega
            · have hcd : decide ((pre.length : Int) < (L.length : Int) - 1) = false := by simpa using hcb
              go_wp2
              go_roundw
              case rel => exact ⟨pre ++ [x], r, by simp, by rw [HJ.out], HLN, by omega, HS.out, HB1, HN⟩
              case measure => simp [intOf]; omega
          · have HJ : Hid (joinA (pre ++ [x]) = joinA pre ++ wq x) := by
              obtain rfl : pre = [] := by cases pre with | nil => rfl | cons => simp at hp
              show joinA [x] = _
              rw [joinA_one, joinA_nil]
              exact (ByteArray.empty_append).symm
            cases b
            · go_wp2
              go_roundw
              case rel => exact ⟨pre ++ [x], r, by simp, by rw [HJ.out], HLN, by omega, HS.out, HB1, HN⟩
              case measure => simp [intOf]; omega
            · have hcd : decide ((pre.length : Int) < (L.length : Int) - 1) = false := by simpa using hcb
              go_wp2
              go_roundw
              case rel => exact ⟨pre ++ [x], r, by simp, by rw [HJ.out], HLN, by omega, HS.out, HB1, HN⟩
              case measure => simp [intOf]; omega

end Go.Proofs.YtgaanohloocokaaDoor
