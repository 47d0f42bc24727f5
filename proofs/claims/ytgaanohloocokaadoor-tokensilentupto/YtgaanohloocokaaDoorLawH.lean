/-
  Walk of TokenSilent: it answers true.
-/
import Derived.Test.YtgaanohloocokaaDoorLawC
import Derived.Test.YtgaanohloocokaaDoorLawG
import Derived.Test.YtgaanohloocokaaDoorPlan3
import Derived.Test.YtgaanohloocokaaDoorAppX
import Derived.Deep.RegionHeld3
import Derived.Lib.SlBytesRow
import Derived.Lib.SlBytesConst
namespace Go.Proofs.YtgaanohloocokaaDoor
open Go.RowKit

/-- a row of bytes that came in -/
def MkRow (w : World) (v : Value) (ms : List Nat) : Prop :=
  ∃ a cap, v = .slice a ms.length cap ∧ ∀ (i b : Nat), ms[i]? = some b → b < 256 ∧ ∃ g o, a = some ⟨g, o, none⟩ ∧ g < w.heap.size ∧ w.cell? ⟨g, o + i, none⟩ = some (.int .u8 (b : Int))
def mf (ms : List Nat) (i : Nat) : Nat := ms.getD i 0 % 5
def TX (ms : List Nat) (l : List Tq) : ByteArray := ⟨#[10]⟩ ++ catG (mf ms) 0 l
theorem TX_snoc (ms : List Nat) (l : List Tq) (x : Tq) : TX ms (l ++ [x]) = TX ms l ++ wq x ++ GP (mf ms l.length) := by
  unfold TX
  rw [catG_snoc, Nat.zero_add, app_assoc_ba, app_assoc_ba]
theorem TX_le (ms : List Nat) (f : Nat → Nat) : ∀ (l r : List Tq) (i : Nat), (catG f i l).size ≤ (catG f i (l ++ r)).size := by
  intro l
  induction l with
  | nil => intro r i; exact Nat.zero_le _
  | cons x l ih =>
    intro r i
    have := ih r (i + 1)
    show (wq x ++ (GP (f i) ++ catG f (i + 1) l)).size ≤ (wq x ++ (GP (f i) ++ catG f (i + 1) (l ++ r))).size
    rw [ByteArray.size_append, ByteArray.size_append, ByteArray.size_append, ByteArray.size_append]
    omega
theorem TX_pre (ms : List Nat) (l r : List Tq) : (TX ms l).size ≤ (TX ms (l ++ r)).size := by
  have := TX_le ms (mf ms) l r 0
  unfold TX
  rw [ByteArray.size_append, ByteArray.size_append]
  omega
theorem strCells_app (a b : ByteArray) : Lib.strCells (a ++ b) = Lib.strCells a ++ Lib.strCells b := by
  unfold Lib.strCells
  simp
theorem infoU8 : (Tryd.prog.info? 5).map (fun i => (i.zero, i.size, i.bytes)) = some (some (.int .u8 0), 1, 1) := by kernel_rfl
/-- the law's gaps as they lie -/
def gapCells : Array Value := #[.string ⟨#[32]⟩, .string ⟨#[10]⟩, .string ⟨#[32, 47, 47, 32, 34, 32, 59, 10]⟩, .string ⟨#[9, 13, 32]⟩, .string ⟨#[47, 47, 10, 47, 47, 255, 10]⟩]
theorem gap_cell {w : World} {G n : Nat} (h : Blk w G 9 gapCells) (hn : n < 5) : w.cell? ⟨G, n, none⟩ = some (.string (GP n)) := by
  rw [h.cell n]
  match n, hn with
  | 0, _ => rfl
  | 1, _ => rfl
  | 2, _ => rfl
  | 3, _ => rfl
  | 4, _ => rfl
def SlPost (w : World) (e : Ending) (w' : World) : Prop := e = .returned (.bool true) ∧ Below w.heap.size w w'

set_option maxRecDepth 100000 in
set_option maxHeartbeats 1000000 in
theorem l_TokenSilent (s : ByteArray) (u : Value) (ms : List Nat) (w : World) (hG : GL w) (hs : s.size ≤ 1048576) (hu : MkRow w u ms) :
    Calls Tryd.prog 7 #[.string s, u] w (SlPost w) := by
  have HG := Lib.hid hG
  obtain ⟨au, capu, rfl, hmu⟩ := hu
  have HU := Lib.hid hmu
  clear hG hmu
  obtain ⟨i0, hi, hq0, hq1, hq2⟩ := info_parts infoU8
  obtain ⟨R, hR⟩ : ∃ R, scan s = R := ⟨_, rfl⟩
  have HR := Lib.hid hR
  have hcode := scan_code s
  have hlen := scan_len s
  rw [hR] at hcode hlen
  obtain ⟨l, c, o⟩ := R
  simp only at hcode hlen
  go_enter Tryd.func7, Tryd.ntmps7
  by_cases hc : c = 0
  · subst hc
    have hS0 : (scan s).2.1 = 0 := by rw [hR]
    have HO := Lib.hid (scan_ok hS0 (by omega))
    have HWr := Lib.hid (silent_writes hS0)
    have HSc := Lib.hid (silent_scan hS0 (mf ms))
    have HSz := Lib.hid (silent_size hS0 (mf ms) hs)
    rw [hR] at HO HWr HSc HSz
    obtain ⟨L, hL⟩ : ∃ L, l.map Tp.q = L := ⟨_, rfl⟩
    have hLl : L.length = l.length := by rw [← hL]; simp
    simp only at HO HWr HSc HSz
    rw [hL] at HO HWr HSc HSz
    have HL := Lib.hid hL
    clear hR hS0 hcode hL
    go_wp2_with fail
    refine (t_Scan s _ HG.out (by omega)).mono ?_
    rw [HR.out]
    rintro e w1 ⟨v, rfl, hown, hb1⟩
    rw [faultV_ok]
    obtain ⟨a1, cap1, rfl, hcap1⟩ := own_slice hown
    have HB1 := Lib.hid hb1
    have HN1 := Lib.hid hown
    clear hown hb1
    have hz1 := HB1.out.size
    have hE := eq_fault 0 (w1.alloc (.cells #[.int .i64 0, .int .i64 0, .int .i64 0, .int .i64 0] 31)) 0 0 0 0 0 0 0 0
    simp only [beq_self_eq_true, Bool.and_self, Bool.true_and] at hE
    obtain ⟨W2, hW2⟩ : ∃ W2, (w1.alloc (.cells #[.int .i64 0, .int .i64 0, .int .i64 0, .int .i64 0] 31)).alloc (.cells gapCells 9) = W2 := ⟨_, rfl⟩
    have hzW : W2.heap.size = w1.heap.size + 1 + 1 := by rw [← hW2]; simp
    have hcv0 := Lib.run_convert_bytes_const (P := Tryd.prog) W2 48 5 #[.int .u8 10] 1 1 Tryd.underlying48 Tryd.underlying5
    have hcv : (convert 48 48 (.slice (some ⟨w1.heap.size + 1 + 1, 0, none⟩) 1 1)).run Tryd.prog (W2.alloc (.cells #[.int .u8 10] 5)) = .ok (.slice (some ⟨w1.heap.size + 1 + 1, 0, none⟩) 1 1) (W2.alloc (.cells #[.int .u8 10] 5 (1, 2))) := by
      rw [← hzW]; exact hcv0
    have HG0 : Hid (Blk W2 (w1.heap.size + 1) 9 gapCells) := by
      show Blk W2 _ _ _
      have h := Blk.new (w1.alloc (.cells #[.int .i64 0, .int .i64 0, .int .i64 0, .int .i64 0] 31)) 9 gapCells
      rw [← hW2]
      simpa using h
    have HB2 : Hid (Below w.heap.size w W2) := by
      show Below w.heap.size w W2
      rw [← hW2]
      exact (HB1.out.alloc hz1 _).alloc (by simp; omega) _
    have HN2 : Hid (W2.ownsRow w.heap.size 37 6 (.slice a1 l.length cap1) l.length (tpRow l)) := by
      show W2.ownsRow _ _ _ _ _ _
      rw [← hW2]
      exact (HN1.out.alloc _).alloc _
    have HW2 := Lib.hid hW2
    clear hcv0
    unfold gapCells at hW2
    go_wp2_with fail
    go_loopw [8, 9] (fun z i wr => ∃ (pre r : List Tq), i = .int .i64 pre.length ∧ Hid (L = pre ++ r) ∧ pre.length ≤ L.length ∧ Hid (RowX wr w.heap.size 5 z (TX ms pre).size (Lib.strCells (TX ms pre))) ∧ Hid (Blk wr (w1.heap.size + 1) 9 gapCells) ∧
        Hid (wr.ownsRow w.heap.size 37 6 (.slice a1 l.length cap1) l.length (tpRow l)) ∧ Hid (Below w.heap.size w wr)) (fun _ i _ => L.length - (intOf i).toNat)
    case atStart =>
      refine ⟨[], L, rfl, rfl, Nat.zero_le _, ?_, HG0.out.alloc _, HN2.out.alloc _, HB2.out.alloc HB2.out.size _⟩
      refine ⟨rfl, w1.heap.size + 1 + 1, 1, #[.int .u8 10], (1, 2), rfl, by omega, ?_, Or.inr rfl, Nat.le_refl _, by unfold maxLen; omega, rfl, rfl⟩
      rw [← hzW]
      exact heap_alloc_new W2 _
    case round =>
      obtain ⟨pre, r, rfl, HP, hpl, HT, HGp, HN, HB⟩ := hrel
      rcases r with _ | ⟨x, r⟩
      · obtain rfl : L = pre := by rw [HP.out]; simp
        have hle : ¬ L.length < l.length := by omega
        obtain ⟨R2, hR2⟩ : ∃ R2, scan (TX ms L) = R2 := ⟨_, rfl⟩
        have hs2 := HSc.out
        rw [show (⟨#[10]⟩ : ByteArray) ++ catG (mf ms) 0 L = TX ms L from rfl, hR2] at hs2
        obtain ⟨m, c2, o2⟩ := R2
        obtain ⟨hs2, hs3⟩ := hs2
        simp only at hs2 hs3
        subst hs2
        have HR2 := Lib.hid hR2
        have HZ : Hid ((TX ms L).size ≤ 90000000) := HSz.out
        have HM : Hid (m.length ≤ (TX ms L).size + 1) := by
          show m.length ≤ _
          have := scan_len (TX ms L)
          rw [hR2] at this; exact this
        have HPl : Hid ((m.map Tp.q).map plainQ = L.map plainQ) := by
          show (m.map Tp.q).map plainQ = L.map plainQ
          rw [← HL.out, plain_tks, plain_tks, hs3]
        clear hR2 hs3
        obtain ⟨gt, capt, rfl, hby⟩ := HT.out.bytes
        have hcw := Lib.run_convert_whole (P := Tryd.prog) wr 48 5 9 Tryd.underlying48 Tryd.underlying5 Tryd.underlying9 gt 0 (TX ms L) hby capt
        go_wp2_with fail
        refine (t_Scan (TX ms L) _ (HG.out.below HB.out) (by have := HZ.out; omega)).mono ?_
        rw [HR2.out]
        rintro e w3 ⟨v2, rfl, hown, hb2⟩
        rw [faultV_ok]
        have HO2 := Lib.hid (TkRow.of_own hown)
        obtain ⟨a2, cap2, rfl, _⟩ := own_slice hown
        have HB2 := Lib.hid (HB.out.trans (hb2.mono HB.out.size))
        have HN2 : Hid (TkRow w3 (.slice a1 l.length cap1) L) := by
          show TkRow w3 _ L
          rw [← HL.out]
          exact (TkRow.of_own HN.out).below hb2
        clear hown hb2 hby hcw
        have hz2 := HB2.out.size
        have hF := Blk.new w3 31 #[.int .i64 0, .int .i64 0, .int .i64 0, .int .i64 0]
        have HK2 := Lib.hid ((Below.refl w3.heap.size w3).alloc (Nat.le_refl _) (.cells #[.int .i64 0, .int .i64 0, .int .i64 0, .int .i64 0] 31))
        have hE2 := eq_fault 0 (w3.alloc (.cells #[.int .i64 0, .int .i64 0, .int .i64 0, .int .i64 0] 31)) 0 0 0 0 0 0 0 0
        simp only [beq_self_eq_true, Bool.and_self, Bool.true_and] at hE2
        go_wp2_with fail
        refine (l_plain _ L _ (HN2.out.below HK2.out) (by omega)).mono ?_
        rintro e w4 ⟨v4, rfl, hown4, hb4⟩
        have HK4 := Lib.hid (HK2.out.trans (hb4.mono (by simp)))
        have HO4 := Lib.hid (TkRow.of_ownQ hown4)
        clear hF hb4 hown4 hE2
        go_wp2_with fail
        refine (l_plain _ (m.map Tp.q) _ (HO2.out.below HK4.out) (by simp; have h1 := HM.out; have h2 := HZ.out; omega)).mono ?_
        rintro e w5 ⟨v5, rfl, hown5, hb5⟩
        have HO5 := Lib.hid (TkRow.of_ownQ hown5)
        rw [HPl.out] at HO5
        have HO6 := Lib.hid (HO4.out.below hb5)
        have HB5 := Lib.hid ((HB2.out.trans (HK4.out.mono hz2)).trans (hb5.mono (by have := HK4.out.size; omega)))
        clear hown5 hb5
        go_wp2_with fail
        refine (l_same _ _ _ _ HO6.out HO5.out (by simp; omega)).mono ?_
        rintro e w6 ⟨rfl, hb6⟩
        have HB6 := Lib.hid (HB5.out.trans (hb6.mono HB5.out.size))
        clear hb6
        go_wp2_with fail
        refine (l_alive _ (HG.out.below HB6.out)).mono ?_
        rintro e w7 ⟨rfl, hb7⟩
        go_wp2
        go_ret
        exact ⟨rfl, HB6.out.trans (hb7.mono HB6.out.size)⟩
      · have hlt : pre.length < l.length := by rw [← hLl, HP.out]; simp
        have hLx : L[pre.length]? = some x := by rw [HP.out]; simp
        have hxm : x ∈ L := by rw [HP.out]; simp
        have hxo := HO.out x hxm
        have hxw := HWr.out x hxm
        have hrow : TkRow wr (.slice a1 l.length cap1) L := by rw [← HL.out]; exact TkRow.of_own HN.out
        obtain ⟨aa, cc, ha, _, hq⟩ := hrow
        obtain ⟨g, og, ha2, hg, hx⟩ := hq pre.length x hLx
        simp only [Value.slice.injEq] at ha
        obtain ⟨rfl, -, rfl⟩ := ha
        subst ha2
        obtain ⟨k0, k1, k2, k3, k4, k5⟩ := row_cells hx
        clear hx hq hLx hxm
        have hTs : Hid ((TX ms (pre ++ [x])).size ≤ 90000000) := by
          show (TX ms (pre ++ [x])).size ≤ 90000000
          have h1 := TX_pre ms (pre ++ [x]) r
          have h2 : (TX ms L).size ≤ 90000000 := HSz.out
          rw [HP.out, show pre ++ x :: r = (pre ++ [x]) ++ r from by simp] at h2
          omega
        have hWv : writeV x.k x.n x.t = .tuple #[.string (wq x), .int .i64 0] := by unfold writeV; rw [if_pos hxw]; rfl
        have HWv := Lib.hid hWv
        clear hWv hxw
        obtain ⟨hxn, hxt⟩ := hxo
        have hzr := HB.out.size
        go_wp2_with fail
        refine (t_Write x.k x.n x.o x.l x.c x.t _ (HG.out.below HB.out) hxn (by omega)).mono ?_
        rintro e w3 ⟨rfl, hb1⟩
        rw [HWv.out]
        have HB3 := Lib.hid (HB.out.trans (hb1.mono hzr))
        have HT3 := Lib.hid (HT.out.below hb1)
        have HG3 := Lib.hid (HGp.out.below hb1)
        have HN3 := Lib.hid (ownsRow_below HN.out hb1)
        clear hb1 k0 k1 k2 k3 k4 k5 HT HGp HN
        go_wp2_with fail
        refine (l_num _ _).mono ?_
        rintro e w4 ⟨rfl, rfl⟩
        by_cases hm : pre.length < ms.length
        · obtain ⟨b, hb⟩ : ∃ b, ms[pre.length]? = some b := ⟨_, List.getElem?_eq_getElem hm⟩
          obtain ⟨hb2, gm, om, ham, hgm, hcm⟩ := HU.out pre.length b hb
          subst ham
          have km := (HB3.out.cell (p := ⟨gm, om + pre.length, none⟩) hgm).trans hcm
          have hmf : Hid (mf ms pre.length = b % 5) := by show mf ms pre.length = b % 5; unfold mf; rw [List.getD, hb]; rfl
          go_wp2_with fail
          obtain ⟨n, hn⟩ : ∃ n, mf ms pre.length = n := ⟨_, rfl⟩
          have hn5 : n < 5 := by rw [← hn]; exact Nat.mod_lt _ (by omega)
          rw [show ((b : Int) % 5) = (n : Int) from by rw [← hn, hmf.out]; omega]
          have HTn : Hid (TX ms (pre ++ [x]) = TX ms pre ++ wq x ++ GP n) := by
            show TX ms (pre ++ [x]) = _
            rw [TX_snoc, hn]
          have hTz : (TX ms pre).size + (wq x).size + (GP n).size ≤ 90000000 := by
            have h := hTs.out
            rw [HTn.out, ByteArray.size_append, ByteArray.size_append] at h
            exact h
          clear hn hTs HWv
          have hz3 := HB3.out.size
          have hc0 : w3.drew.cell? ⟨w1.heap.size + 1, n, none⟩ = some (.string (GP n)) := gap_cell HG3.out hn5
          have hi1 : (0 : Int) ≤ (n : Int) := by omega
          have hi2 : (n : Int) < (5 : Int) := by omega
          go_region_held3 (fun w' => w'.cell? ⟨w1.heap.size + 1, n, none⟩ = some (.string (GP n)))
            (first | exact z2 | exact z1 | go_keep)
            ((first
              | (refine step_append_X _ (by rfl) _ _ 48 9 (by rfl) w.heap.size 5 i0 Tryd.underlying48 Tryd.underlying9 hi hq0 hq1 hq2 u8 (TX ms pre).size (Lib.strCells (TX ms pre)) (by rfl) HT3.out.drew (wq x) (by rfl) (by unfold maxLen; omega) (by omega) (by show w.heap.size ≤ w3.heap.size; omega) ?_; intro v4 w4 hx4 hg4; have z1 := gap_cell (HT3.out.drew.blk hg4 HG3.out.drew (by decide)) hn5)
              | (refine step_append_X _ (by rfl) _ _ 48 9 (by rfl) w.heap.size 5 i0 Tryd.underlying48 Tryd.underlying9 hi hq0 hq1 hq2 v4 ((TX ms pre).size + (wq x).size) (Lib.strCells (TX ms pre) ++ Lib.strCells (wq x)) (by rfl) hx4 (GP n) (by rfl) (by unfold maxLen; omega) (by omega) (by have := hg4.size; have h9 : w.heap.size ≤ w3.drew.heap.size := hz3; omega) ?_; intro v5 w5 hx5 hg5; have z2 := gap_cell (hx4.blk hg5 (HT3.out.drew.blk hg4 HG3.out.drew (by decide)) (by decide)) hn5)))
          have HX5 : Hid (RowX w5 w.heap.size 5 v5 (TX ms (pre ++ [x])).size (Lib.strCells (TX ms (pre ++ [x])))) := by
            show RowX _ _ _ _ _ _
            rw [HTn.out, ByteArray.size_append, ByteArray.size_append, strCells_app, strCells_app]
            exact hx5
          have HG5 := Lib.hid (hx4.blk hg5 (HT3.out.drew.blk hg4 HG3.out.drew (by decide)) (by decide))
          have HN5 := Lib.hid (hx4.own hg5 (HT3.out.drew.own hg4 HN3.out.drew (by decide)) (by decide))
          have HB5 := Lib.hid ((HB3.out.drew.grown hg4 (by show w.heap.size ≤ w3.heap.size; omega) HT3.out.drew.ge).grown hg5 (by have := hg4.size; have h9 : w.heap.size ≤ w3.drew.heap.size := hz3; omega) hx4.ge)
          clear hx4 hg4 hx5 hg5 z1 z2
          go_wp2
          go_roundw
          case rel => exact ⟨pre ++ [x], r, by simp, HP.out.trans (by simp), by simp; omega, HX5, HG5, HN5, HB5⟩
          case measure => simp [intOf]; omega
        · have hmf : Hid (mf ms pre.length = 0) := by show mf ms pre.length = 0; unfold mf; rw [List.getD, List.getElem?_eq_none (by omega)]; rfl
          go_wp2_with fail
          have hn : mf ms pre.length = 0 := hmf.out
          have hn5 : 0 < 5 := by omega
          have HTn : Hid (TX ms (pre ++ [x]) = TX ms pre ++ wq x ++ GP 0) := by
            show TX ms (pre ++ [x]) = _
            rw [TX_snoc, hn]
          have hTz : (TX ms pre).size + (wq x).size + (GP 0).size ≤ 90000000 := by
            have h := hTs.out
            rw [HTn.out, ByteArray.size_append, ByteArray.size_append] at h
            exact h
          clear hn hTs HWv
          have hz3 := HB3.out.size
          have hc0 : w3.drew.cell? ⟨w1.heap.size + 1, 0, none⟩ = some (.string (GP 0)) := gap_cell HG3.out hn5
          go_region_held3 (fun w' => w'.cell? ⟨w1.heap.size + 1, 0, none⟩ = some (.string (GP 0)))
            (first | exact z2 | exact z1 | go_keep)
            ((first
              | (refine step_append_X _ (by rfl) _ _ 48 9 (by rfl) w.heap.size 5 i0 Tryd.underlying48 Tryd.underlying9 hi hq0 hq1 hq2 u8 (TX ms pre).size (Lib.strCells (TX ms pre)) (by rfl) HT3.out.drew (wq x) (by rfl) (by unfold maxLen; omega) (by omega) (by show w.heap.size ≤ w3.heap.size; omega) ?_; intro v4 w4 hx4 hg4; have z1 := gap_cell (HT3.out.drew.blk hg4 HG3.out.drew (by decide)) hn5)
              | (refine step_append_X _ (by rfl) _ _ 48 9 (by rfl) w.heap.size 5 i0 Tryd.underlying48 Tryd.underlying9 hi hq0 hq1 hq2 v4 ((TX ms pre).size + (wq x).size) (Lib.strCells (TX ms pre) ++ Lib.strCells (wq x)) (by rfl) hx4 (GP 0) (by rfl) (by unfold maxLen; omega) (by omega) (by have := hg4.size; have h9 : w.heap.size ≤ w3.drew.heap.size := hz3; omega) ?_; intro v5 w5 hx5 hg5; have z2 := gap_cell (hx4.blk hg5 (HT3.out.drew.blk hg4 HG3.out.drew (by decide)) (by decide)) hn5)))
          have HX5 : Hid (RowX w5 w.heap.size 5 v5 (TX ms (pre ++ [x])).size (Lib.strCells (TX ms (pre ++ [x])))) := by
            show RowX _ _ _ _ _ _
            rw [HTn.out, ByteArray.size_append, ByteArray.size_append, strCells_app, strCells_app]
            exact hx5
          have HG5 := Lib.hid (hx4.blk hg5 (HT3.out.drew.blk hg4 HG3.out.drew (by decide)) (by decide))
          have HN5 := Lib.hid (hx4.own hg5 (HT3.out.drew.own hg4 HN3.out.drew (by decide)) (by decide))
          have HB5 := Lib.hid ((HB3.out.drew.grown hg4 (by show w.heap.size ≤ w3.heap.size; omega) HT3.out.drew.ge).grown hg5 (by have := hg4.size; have h9 : w.heap.size ≤ w3.drew.heap.size := hz3; omega) hx4.ge)
          clear hx4 hg4 hx5 hg5 z1 z2
          go_wp2
          go_roundw
          case rel => exact ⟨pre ++ [x], r, by simp, HP.out.trans (by simp), by simp; omega, HX5, HG5, HN5, HB5⟩
          case measure => simp [intOf]; omega
  · have hcb : (c == 0) = false := by simp [hc]
    have hc40 : 40 ≤ c ∧ c ≤ 43 := by rcases hcode with q | q; exact absurd q hc; exact q
    obtain ⟨p1, hp1⟩ : ∃ x, (P s o).1 = x := ⟨_, rfl⟩
    obtain ⟨p2, hp2⟩ : ∃ x, (P s o).2 = x := ⟨_, rfl⟩
    have HF : Hid (faultV s (l, c, o) = .agg #[.int .i64 c, .int .i64 o, .int .i64 p1, .int .i64 p2]) := by
      show faultV s (l, c, o) = _
      rw [faultV_err hc, hp1, hp2]
    clear hp1 hp2 hc hR hcode hlen
    go_wp2_with fail
    refine (t_Scan s _ HG.out (by omega)).mono ?_
    rw [HR.out]
    rintro e w1 ⟨v, rfl, hown, hb1⟩
    rw [HF.out]
    obtain ⟨a1, cap1, rfl, _⟩ := own_slice hown
    have HB1 := Lib.hid hb1
    clear hown hb1
    have hz1 := HB1.out.size
    have hE := eq_fault 0 (w1.alloc (.cells #[.int .i64 c, .int .i64 o, .int .i64 p1, .int .i64 p2] 31)) c 0 o 0 p1 0 p2 0
    simp only [hcb, Bool.false_and] at hE
    have HB2 := Lib.hid (HB1.out.alloc hz1 (.cells #[.int .i64 c, .int .i64 o, .int .i64 p1, .int .i64 p2] 31))
    go_wp2_with fail
    refine (l_num c _).mono ?_
    rintro e w2 ⟨rfl, rfl⟩
    obtain ⟨hc1, hc2⟩ := hc40
    go_wp2_with fail
    refine (l_num c _).mono ?_
    rintro e w2 ⟨rfl, rfl⟩
    go_wp2_with fail
    refine (l_alive _ (HG.out.below HB2.out)).mono ?_
    rintro e w2 ⟨rfl, hb⟩
    go_wp2
    go_ret
    exact ⟨rfl, HB2.out.trans (hb.mono HB2.out.size)⟩

end Go.Proofs.YtgaanohloocokaaDoor
