/-
  Walk of token.Join.
-/
import Derived.Test.YtgaanohloocokaaDoorRow
import Derived.Test.YtgaanohloocokaaDoorTokV
namespace Go.Proofs.YtgaanohloocokaaDoor
open Go.RowKit

theorem infoString : (Tryd.prog.info? 9).map (fun i => (i.zero, i.size, i.bytes)) = some (some (.string ⟨#[]⟩), 1, 16) := by kernel_rfl
def strRow (l : List Tq) : List Value := l.map fun x => Value.string (wq x)

set_option maxRecDepth 100000 in
set_option maxHeartbeats 4000000 in
theorem t_Join (v : Value) (L : List Tq) (w : World) (hG : GL w) (hv : TkRow w v L) (hl : L.length ≤ 1048600) (hok : ∀ x ∈ L, x.ok) :
    Calls Tryd.prog 19 #[v] w fun e w' => e = .returned (joinV L) ∧ Below w.heap.size w w' := by
  obtain ⟨a, cap, rfl, hc, hx⟩ := hv
  obtain ⟨i0, hi, hq0, hq1, hq2⟩ := info_parts infoString
  have HX := Lib.hid hx
  have HG := Lib.hid hG
  have HK := Lib.hid hok
  clear hx hG hok
  go_enter Tryd.func19, Tryd.ntmps19
  go_wp2
  go_loopw [4, 11] (fun u i wr => ∃ (pre r : List Tq), i = .int .i64 pre.length ∧ Hid (wr.ownsRow w.heap.size 9 1 u pre.length (strRow pre)) ∧ Hid (L = pre ++ r) ∧ pre.length ≤ L.length ∧ Hid (Below w.heap.size w wr) ∧ Hid (∀ i y, pre[i]? = some y → badQ y (L.length - i - 1) = false)) (fun _ i _ => L.length - (intOf i).toNat)
  case atStart => exact ⟨[], L, rfl, ⟨rfl, Or.inl ⟨rfl, rfl⟩⟩, rfl, Nat.zero_le _, Below.refl _ _, by show ∀ i y, _ → _; intro i y h; simp at h⟩
  case round =>
    obtain ⟨pre, r, rfl, HO, HL, hpl, HB, HP⟩ := hrel
    rcases r with _ | ⟨x, r⟩
    · have hle : ¬ pre.length < L.length := by rw [HL.out]; simp
      obtain rfl : L = pre := by rw [HL.out]; simp
      have HV : Hid (joinV L = .tuple #[.string (joinA L), .int .i64 0]) := joinV_ok HP.out
      obtain ⟨a2, cap2, rfl, hcap2⟩ := own_slice HO.out
      go_wp2_with fail
      by_cases hz : 0 < L.length
      · obtain ⟨g, cap3, cur, hv3, hcap3, hg, hgl, _, hcell⟩ := own_blk HO.out hz
        cases hv3
        have hj := Tryd.strings_Join g 0 cap2 (L.map wq) ⟨#[32]⟩ _ (fun j x hj => by
          rw [Nat.zero_add]
          exact (hcell j (.string x) (by
            unfold strRow
            rw [List.getElem?_map] at hj ⊢
            obtain ⟨y, hy, rfl⟩ := Option.map_eq_some_iff.1 hj
            rw [hy]; rfl)).1) hgl (by simp; omega) (by simpa using hcap2) (by rw [joinA_len]; have := joinA_le L hl HK.out; omega)
        rw [joinA_eq, List.length_map] at hj
        refine hj.mono ?_
        rintro e w1 ⟨rfl, hb1⟩
        go_wp2
        go_ret2
        exact ⟨by rw [HV.out]; rfl, HB.out.trans (hb1.mono HB.out.size)⟩
      · have hz0 : L.length = 0 := by omega
        obtain rfl : L = [] := by cases L with | nil => rfl | cons => simp at hz0
        refine (Tryd.strings_Join_none a2 cap2 ⟨#[32]⟩ _).mono ?_
        rintro e w1 ⟨rfl, rfl⟩
        go_wp2
        go_ret2
        exact ⟨by rw [HV.out]; rfl, HB.out⟩
    · have hlt : pre.length < L.length := by rw [HL.out]; simp
      have hLx : L[pre.length]? = some x := by rw [HL.out]; simp
      have hxk := HK.out x (by rw [HL.out]; simp)
      obtain ⟨g, o, rfl, hg, hx⟩ := HX.out pre.length x hLx
      obtain ⟨c0, c1, c2, c3, c4, c5⟩ := row_cells (w := wr) (fun j u hu => (HB.out.cell hg).trans (hx j u hu))
      clear hLx hx
      obtain ⟨hn, ht⟩ := hxk
      have hzr := HB.out.size
      have hgr : g < wr.heap.size := by omega
      go_wp2_with fail
      have hb0 := Blk.new wr 37 #[.int .i64 x.k, .string x.t, .int .i64 x.n, .int .i64 x.o, .int .i64 x.l, .int .i64 x.c]
      refine (t_Write x.k x.n x.o x.l x.c x.t _ ((HG.out.below HB.out).alloc _) hn (by omega)).mono ?_
      rintro e w1 ⟨rfl, hb1⟩
      have HB1 := Lib.hid ((HB.out.alloc hzr _).trans (hb1.mono (by simp; omega)))
      have hb2 := hb0.below hb1
      have d0 : w1.cell? ⟨wr.heap.size, 0, none⟩ = some (.int .i64 x.k) := hb2.cell 0
      have hz1 := hb2.lt
      have HO1 := Lib.hid (ownsRow_below (HO.out.alloc _) hb1)
      clear c0 c1 c2 c3 c4 c5 hb1 hb0 hb2 HO
      cases hw : writeB x.k x.n x.t
      · have HBad : Hid (joinV L = .tuple #[.string ⟨#[]⟩, .int .i64 2]) := joinV_bad HL.out (by unfold badQ; rw [hw]; rfl)
        rw [show writeV x.k x.n x.t = .tuple #[.string ⟨#[]⟩, .int .i64 2] from by unfold writeV; rw [hw]; rfl]
        clear hw
        go_wp2
        go_ret2
        exact ⟨by rw [HBad.out]; rfl, HB1.out⟩
      · rw [show writeV x.k x.n x.t = .tuple #[.string (wq x), .int .i64 0] from by unfold writeV; rw [hw]; rfl]
        have hws : (wq x).size ≤ 90000021 := wq_size ⟨hn, ht⟩
        have HW := Lib.hid hw
        have hLl : L.length = pre.length + (r.length + 1) := by rw [HL.out]; simp
        obtain ⟨b, hb⟩ : ∃ b, (x.k == 0) = b := ⟨_, rfl⟩
        by_cases hbad : b = true ∧ 0 < r.length
        · obtain ⟨rfl, hr⟩ := hbad
          have HBad : Hid (joinV L = .tuple #[.string ⟨#[]⟩, .int .i64 2]) := joinV_bad HL.out (by unfold badQ; rw [HW.out, hb]; simpa using hr)
          clear hw
          have hlt2 : (pre.length : Int) < (L.length : Int) - 1 := by omega
          clear hLl
          go_wp2
          go_ret2
          exact ⟨by rw [HBad.out]; rfl, HB1.out⟩
        · have HGood : Hid (badQ x r.length = false) := by
            show badQ x r.length = false
            unfold badQ
            rw [HW.out, hb]
            cases b
            · rfl
            · simp at hbad; simp [hbad]
          clear hw
          have HN : Hid (∀ i y, (pre ++ [x])[i]? = some y → badQ y (L.length - i - 1) = false) := by
            have h1 := HP.out
            have h2 := HL.out
            rw [h2] at h1 ⊢
            exact jBad_snoc h1 HGood.out
          have HLN : Hid (L = (pre ++ [x]) ++ r) := HL.out.trans (by simp)
          have hpl2 : (pre ++ [x]).length = pre.length + 1 := by simp
          have hple : pre.length + 1 ≤ L.length := by omega
          have hcb : b = false ∨ decide ((pre.length : Int) < (L.length : Int) - 1) = false := by
            cases b
            · exact Or.inl rfl
            · right; simp at hbad; subst hbad; simp at hLl ⊢; omega
          clear hLl hbad
          cases b
          · go_wp2_with (at_builtin; refine wpList_append_own _ rfl _ _ 49 rfl w.heap.size 9 i0 (.string ⟨#[]⟩) 1 16 Tryd.underlying49 hi hq0 hq1 hq2 rfl (by decide) _ _ _ rfl (HO1.out.alloc _) ⟨w1.heap.size, 0, none⟩ 1 1 [.string (wq x)] rfl rfl ?hnews ?hone ?h63 ?hbytes ?hbase ?_; (case hnews => exact blk_cells (Blk.new w1 9 [Value.string (wq x)].toArray)); (case hone => intro u hu; simp at hu; subst hu; rfl); (case h63 => unfold maxLen; omega); (case hbytes => omega); (case hbase => simp; have := HB1.out.size; omega); intro v' w3 hown hgrow _; have HO3 := Lib.hid hown; have HB3 := Lib.hid ((HB1.out.alloc HB1.out.size _).grown hgrow (by simp; have := HB1.out.size; omega) (fun b hb => by have := own_ge HO1.out b hb; omega)); clear hown hgrow)
            go_roundw
            case rel => exact ⟨pre ++ [x], r, by simp, by simpa [strRow] using HO3, HLN, by omega, HB3, HN⟩
            case measure => simp [intOf]; omega
          · have hcd : decide ((pre.length : Int) < (L.length : Int) - 1) = false := by simpa using hcb
            go_wp2_with (at_builtin; refine wpList_append_own _ rfl _ _ 49 rfl w.heap.size 9 i0 (.string ⟨#[]⟩) 1 16 Tryd.underlying49 hi hq0 hq1 hq2 rfl (by decide) _ _ _ rfl (HO1.out.alloc _) ⟨w1.heap.size, 0, none⟩ 1 1 [.string (wq x)] rfl rfl ?hnews ?hone ?h63 ?hbytes ?hbase ?_; (case hnews => exact blk_cells (Blk.new w1 9 [Value.string (wq x)].toArray)); (case hone => intro u hu; simp at hu; subst hu; rfl); (case h63 => unfold maxLen; omega); (case hbytes => omega); (case hbase => simp; have := HB1.out.size; omega); intro v' w3 hown hgrow _; have HO3 := Lib.hid hown; have HB3 := Lib.hid ((HB1.out.alloc HB1.out.size _).grown hgrow (by simp; have := HB1.out.size; omega) (fun b hb => by have := own_ge HO1.out b hb; omega)); clear hown hgrow)
            go_roundw
            case rel => exact ⟨pre ++ [x], r, by simp, by simpa [strRow] using HO3, HLN, by omega, HB3, HN⟩
            case measure => simp [intOf]; omega

end Go.Proofs.YtgaanohloocokaaDoor
