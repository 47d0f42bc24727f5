/-
  Walk of TokenBack: it answers true.
-/
import Derived.Test.YtgaanohloocokaaDoorLawC
import Derived.Test.YtgaanohloocokaaDoorLawF
namespace Go.Proofs.YtgaanohloocokaaDoor
open Go.RowKit

/-- the tokens that must come back -/
def wantQ (L : List Tq) : List Tq := L.map plainQ ++ (if endsQ L = true then [] else [⟨0, ⟨#[]⟩, 0, 0, 0, 0⟩])
theorem plain_tks (l : List Tp) : (l.map Tp.q).map plainQ = (l.map (·.t)).map qtk := by
  rw [List.map_map, List.map_map]; rfl
theorem back_want {L : List Tq} (h : jBad L = false) : ((scan (joinA L)).1.map Tp.q).map plainQ = wantQ L := by
  rw [plain_tks, (scan_joined L h).2, List.map_append, List.map_map]
  unfold wantQ
  congr 1
  split <;> rfl

set_option maxRecDepth 100000 in
set_option maxHeartbeats 4000000 in
theorem l_TokenBack (v : Value) (L : List Tq) (w : World) (hG : GL w) (hv : TkRow w v L) (hl : L.length ≤ 1048600) (hok : ∀ x ∈ L, x.ok) (hz : (joinA L).size ≤ 90000000) :
    Calls Tryd.prog 6 #[v] w fun e w' => e = .returned (.bool true) ∧ Below w.heap.size w w' := by
  have HG := Lib.hid hG
  have HV := Lib.hid hv
  have HK := Lib.hid hok
  clear hG hok
  obtain ⟨i0, hi, hq0, hq1, hq2⟩ := info_parts infoToken
  obtain ⟨a0, cap0, hvs, hcap0, _⟩ := hv
  subst hvs
  go_enter Tryd.func6, Tryd.ntmps6
  cases hbad : jBad L with
  | true =>
    have HJ : Hid (joinV L = .tuple #[.string ⟨#[]⟩, .int .i64 2]) := by show joinV L = _; unfold joinV; rw [hbad, if_pos rfl]
    clear hbad
    go_wp2_with fail
    refine (t_Join _ L _ HG.out HV.out hl HK.out).mono ?_
    rintro e w1 ⟨rfl, hb1⟩
    rw [HJ.out]
    have HB1 := Lib.hid hb1
    clear hb1
    go_wp2_with fail
    refine (l_num _ _).mono ?_
    rintro e w2 ⟨rfl, rfl⟩
    go_wp2_with fail
    refine (l_alive _ (HG.out.below HB1.out)).mono ?_
    rintro e w2 ⟨rfl, hb⟩
    go_wp2
    go_ret
    exact ⟨rfl, HB1.out.trans (hb.mono HB1.out.size)⟩
  | false =>
    have HJ : Hid (joinV L = .tuple #[.string (joinA L), .int .i64 0]) := by show joinV L = _; unfold joinV; rw [hbad]; rfl
    have HW := Lib.hid (back_want hbad)
    have hs := (scan_joined L hbad).1
    obtain ⟨R, hR⟩ : ∃ R, scan (joinA L) = R := ⟨_, rfl⟩
    rw [hR] at hs HW
    obtain ⟨m, c, o⟩ := R
    simp only at hs HW
    subst hs
    have HR := Lib.hid hR
    have HM : Hid (m.length ≤ (joinA L).size + 1) := by
      show m.length ≤ _
      have := scan_len (joinA L)
      rw [hR] at this; exact this
    clear hR hbad
    go_wp2_with fail
    refine (t_Join _ L _ HG.out HV.out hl HK.out).mono ?_
    rintro e w1 ⟨rfl, hb1⟩
    rw [HJ.out]
    have HB1 := Lib.hid hb1
    clear hb1
    go_wp2_with fail
    refine (l_num _ _).mono ?_
    rintro e w2 ⟨rfl, rfl⟩
    go_wp2_with fail
    refine (t_Scan (joinA L) _ (HG.out.below HB1.out) (by omega)).mono ?_
    rw [HR.out]
    rintro e w2 ⟨v2, rfl, hown, hb2⟩
    rw [faultV_ok]
    have hm0 := TkRow.of_own hown
    obtain ⟨a2, cap2, rfl, _⟩ := own_slice hown
    have HB2 := Lib.hid (HB1.out.trans (hb2.mono HB1.out.size))
    have HO2 := Lib.hid hm0
    clear hown hb2 hm0
    have hz2 := HB2.out.size
    have hF := Blk.new w2 31 #[.int .i64 0, .int .i64 0, .int .i64 0, .int .i64 0]
    have HK2 := Lib.hid ((Below.refl w2.heap.size w2).alloc (Nat.le_refl _) (.cells #[.int .i64 0, .int .i64 0, .int .i64 0, .int .i64 0] 31))
    go_wp2_with fail
    refine (l_plain _ L _ ((HV.out.below HB2.out).below HK2.out) (by omega)).mono ?_
    rintro e w3 ⟨v3, rfl, hown, hb3⟩
    have hF3 := hF.below hb3
    have HK3 := Lib.hid (HK2.out.trans (hb3.mono (by simp)))
    have HB3 := Lib.hid (HB2.out.trans (HK3.out.mono hz2))
    have HO3 := Lib.hid (HO2.out.below HK3.out)
    have HP := Lib.hid hown
    obtain ⟨a3, cap3, rfl, _⟩ := own_slice hown
    clear hF hb3 hown
    obtain ⟨d0, d1, d2, d3, _, _, _, _⟩ := hF3.four
    have hz3 := hF3.lt
    have HWl : Hid ((wantQ L).length ≤ L.length + 1) := by
      show (wantQ L).length ≤ _
      unfold wantQ
      rw [List.length_append, List.length_map]
      split <;> simp
    have hEf := fun wx => eq_fault 0 wx 0 0 0 0 0 0 0 0
    simp only [beq_self_eq_true, Bool.and_self, Bool.true_and] at hEf
    clear d0 d1 d2 d3
    have HP : Hid (w3.ownsRow (w2.heap.size + 1) 37 6 (.slice a3 L.length cap3) L.length (rowQ (L.map plainQ))) := by
      show w3.ownsRow _ _ _ _ _ _
      have h := HP.out
      simpa using h
    rw [show (L.map plainQ).length = L.length from by simp]
    rcases List.eq_nil_or_concat L with hnil | ⟨pre, x, hcat⟩
    · have HWv : Hid (wantQ L = L.map plainQ ++ [⟨0, ⟨#[]⟩, 0, 0, 0, 0⟩]) := by show wantQ L = _; rw [hnil]; rfl
      have hn0 : L.length = 0 := by rw [hnil]; rfl
      rw [hn0] at HP
      clear hnil
      go_wp2_with (at_builtin; refine wpList_append_own _ rfl _ _ 28 rfl (w2.heap.size + 1) 37 i0 (.agg #[.int .i64 0, .string ⟨#[]⟩, .int .i64 0, .int .i64 0, .int .i64 0, .int .i64 0]) 6 56 Tryd.underlying28 hi hq0 hq1 hq2 rfl (by decide) _ _ _ rfl (HP.out.alloc _) ⟨w3.heap.size, 0, none⟩ 1 1 (⟨0, ⟨#[]⟩, 0, 0, 0, 0⟩ : Tq).cells rfl rfl ?hnews ?hone ?h63 ?hbytes ?hbase ?_; (case hnews => exact blk_cells (Blk.new w3 37 ((⟨0, ⟨#[]⟩, 0, 0, 0, 0⟩ : Tq).cells).toArray)); (case hone => exact cells_one _); (case h63 => unfold maxLen; omega); (case hbytes => omega); (case hbase => simp; omega); intro v4 w4 hown4 hgrow _; have hF4 := grown_blk (HP.out.alloc _) hgrow (hF3.alloc _) (by decide); have hz4 := hF4.lt; obtain ⟨f0, f1, f2, f3, _, _, _, _⟩ := hF4.four; clear hF4; have HK4 := Lib.hid ((HK3.out.alloc HK3.out.size _).grown hgrow (by simp; have := HK3.out.size; omega) (fun b hb => by have := own_ge HP.out b hb; omega)); have HB4 := Lib.hid (HB2.out.trans (HK4.out.mono hz2)); have HW4 := Lib.hid (TkRow.of_ownQ (l := wantQ L) (by rw [HWv.out, rowQ_snoc]; simpa [hn0] using hown4)); clear hown4 hgrow hF3)
      refine (l_plain _ (m.map Tp.q) _ (HO2.out.below HK4.out) (by simp; have h1 := HM.out; omega)).mono ?_
      rintro e w5 ⟨v5, rfl, hown5, hb5⟩
      have HO5 := Lib.hid (TkRow.of_ownQ hown5)
      rw [HW.out] at HO5
      have HW5 := Lib.hid (HW4.out.below hb5)
      have HB5 := Lib.hid (HB4.out.trans (hb5.mono HB4.out.size))
      clear hown5 hb5 f0 f1 f2 f3
      go_wp2_with fail
      refine (l_same _ _ _ _ HO5.out HW5.out (by have := HWl.out; omega)).mono ?_
      rintro e w6 ⟨rfl, hb6⟩
      have HB6 := Lib.hid (HB5.out.trans (hb6.mono HB5.out.size))
      clear hb6
      go_wp2_with fail
      refine (l_alive _ (HG.out.below HB6.out)).mono ?_
      rintro e w7 ⟨rfl, hb7⟩
      go_wp2
      go_ret
      exact ⟨rfl, HB6.out.trans (hb7.mono HB6.out.size)⟩
    · have hcat' : L = pre ++ [x] := by rw [hcat]; simp
      have hends : endsQ L = (x.k == 0) := by rw [hcat']; simp [endsQ]
      have hnl : L.length = pre.length + 1 := by rw [hcat']; simp
      have hcell : w3.cell? ⟨w2.heap.size, 0, none⟩ = some (.int .i64 0) := hF3.cell 0
      obtain ⟨gp, capp, curp, hsl, hcapp, _, hgp, _, hcl⟩ := own_blk HP.out (by omega)
      simp only [Value.slice.injEq] at hsl
      obtain ⟨rfl, _, rfl⟩ := hsl
      have hk := (hcl (pre.length * 6 + 0) (.int .i64 x.k) (by
        rw [rowQ_at (L.map plainQ) pre.length 0 (plainQ x) (by rw [hcat']; simp) (by omega)]; rfl)).1
      rw [Nat.add_zero] at hk
      clear hcat hcl hcell
      rw [hnl] at HP
      cases hxk : (x.k == 0) with
      | true =>
        have HWv : Hid (wantQ L = L.map plainQ) := by
          show wantQ L = _
          unfold wantQ; rw [hends, hxk]; simp
        clear hcat' hends
        have hxk2 : (x.k != 0) = false := by simp [bne, hxk]
        have hF4 := hF3
        have HK4 := HK3
        have HB4 := HB3
        have HW4 : Hid (TkRow w3 (.slice (some ⟨gp, 0, none⟩) (pre.length + 1) cap3) (wantQ L)) := by
          show TkRow w3 _ _
          rw [HWv.out]
          exact TkRow.of_ownQ (by rw [List.length_map, hnl]; exact HP.out)
        have hz4 := hF4.lt
        obtain ⟨f0, f1, f2, f3, _, _, _, _⟩ := hF4.four
        clear hF4
        go_wp2_with fail
        refine (l_plain _ (m.map Tp.q) _ (HO2.out.below HK4.out) (by simp; have h1 := HM.out; omega)).mono ?_
        rintro e w5 ⟨v5, rfl, hown5, hb5⟩
        have HO5 := Lib.hid (TkRow.of_ownQ hown5)
        rw [HW.out] at HO5
        have HW5 := Lib.hid (HW4.out.below hb5)
        have HB5 := Lib.hid (HB4.out.trans (hb5.mono HB4.out.size))
        clear hown5 hb5 f0 f1 f2 f3
        go_wp2_with fail
        refine (l_same _ _ _ _ HO5.out HW5.out (by have := HWl.out; omega)).mono ?_
        rintro e w6 ⟨rfl, hb6⟩
        have HB6 := Lib.hid (HB5.out.trans (hb6.mono HB5.out.size))
        clear hb6
        go_wp2_with fail
        refine (l_alive _ (HG.out.below HB6.out)).mono ?_
        rintro e w7 ⟨rfl, hb7⟩
        go_wp2
        go_ret
        exact ⟨rfl, HB6.out.trans (hb7.mono HB6.out.size)⟩
      | false =>
        have HWv : Hid (wantQ L = L.map plainQ ++ [⟨0, ⟨#[]⟩, 0, 0, 0, 0⟩]) := by
          show wantQ L = _
          unfold wantQ; rw [hends, hxk]; rfl
        clear hcat' hends
        have hxk2 : (x.k != 0) = true := by simp [bne, hxk]
        go_wp2_with (at_builtin; refine wpList_append_own _ rfl _ _ 28 rfl (w2.heap.size + 1) 37 i0 (.agg #[.int .i64 0, .string ⟨#[]⟩, .int .i64 0, .int .i64 0, .int .i64 0, .int .i64 0]) 6 56 Tryd.underlying28 hi hq0 hq1 hq2 rfl (by decide) _ _ _ rfl (HP.out.alloc _) ⟨w3.heap.size, 0, none⟩ 1 1 (⟨0, ⟨#[]⟩, 0, 0, 0, 0⟩ : Tq).cells rfl rfl ?hnews ?hone ?h63 ?hbytes ?hbase ?_; (case hnews => exact blk_cells (Blk.new w3 37 ((⟨0, ⟨#[]⟩, 0, 0, 0, 0⟩ : Tq).cells).toArray)); (case hone => exact cells_one _); (case h63 => unfold maxLen; omega); (case hbytes => omega); (case hbase => simp; omega); intro v4 w4 hown4 hgrow _; have hF4 := grown_blk (HP.out.alloc _) hgrow (hF3.alloc _) (by decide); have hz4 := hF4.lt; obtain ⟨f0, f1, f2, f3, _, _, _, _⟩ := hF4.four; clear hF4; have HK4 := Lib.hid ((HK3.out.alloc HK3.out.size _).grown hgrow (by simp; have := HK3.out.size; omega) (fun b hb => by have := own_ge HP.out b hb; omega)); have HB4 := Lib.hid (HB2.out.trans (HK4.out.mono hz2)); have HW4 := Lib.hid (TkRow.of_ownQ (l := wantQ L) (by rw [HWv.out, rowQ_snoc]; simpa [hnl] using hown4)); clear hown4 hgrow hF3)
        refine (l_plain _ (m.map Tp.q) _ (HO2.out.below HK4.out) (by simp; have h1 := HM.out; omega)).mono ?_
        rintro e w5 ⟨v5, rfl, hown5, hb5⟩
        have HO5 := Lib.hid (TkRow.of_ownQ hown5)
        rw [HW.out] at HO5
        have HW5 := Lib.hid (HW4.out.below hb5)
        have HB5 := Lib.hid (HB4.out.trans (hb5.mono HB4.out.size))
        clear hown5 hb5 f0 f1 f2 f3
        go_wp2_with fail
        refine (l_same _ _ _ _ HO5.out HW5.out (by have := HWl.out; omega)).mono ?_
        rintro e w6 ⟨rfl, hb6⟩
        have HB6 := Lib.hid (HB5.out.trans (hb6.mono HB5.out.size))
        clear hb6
        go_wp2_with fail
        refine (l_alive _ (HG.out.below HB6.out)).mono ?_
        rintro e w7 ⟨rfl, hb7⟩
        go_wp2
        go_ret
        exact ⟨rfl, HB6.out.trans (hb7.mono HB6.out.size)⟩

end Go.Proofs.YtgaanohloocokaaDoor
