/-
  What the rows' list of variables gives the walks, and a world in which it is met.
-/
import Derived.Test.YtgaanohloocokaaDoorRows
import Derived.Test.YtgaanohloocokaaDoorBase
import Derived.Test.YtgaanohloocokaaDoorShelf
import Derived.Deep.DeepHandedRow
import Derived.Deep.DeepWitnessRowRef
import Derived.Lib.LaidIn
import Derived.Lib.LaidTab
import Derived.Lib.LaidU8T
import Derived.Stop.LaidErr
namespace Go.Proofs.YtgaanohloocokaaDoor
open Go.RowKit Go.Shelf Go.Lib

theorem own : ownKnob Tryd.prog.godebug = none := by kernel_rfl
theorem star : "*" ++ "errors.errorString" = "*errors.errorString" := by decide
theorem rowErr (u : TypeId) (h : Tryd.prog.typeName? 3 u = some "*errors.errorString") : u = 127 :=
  typeName_ptr_named (nm := "errors.errorString") (by rw [star]; kernel_rfl) (by kernel_rfl) (by decide) u (by rw [star]; exact h)

/-- the rows' list -/
def laidAll : List (String × DataW Unit) := [("math/bits.deBruijn32tab", Rows.laid_math_bits_deBruijn32tab), ("math/bits.deBruijn64tab", Rows.laid_math_bits_deBruijn64tab), ("internal/strconv.uint64pow10", Rows.laid_internal_strconv_uint64pow10), ("unicode/utf8.acceptRanges", Rows.laid_unicode_utf8_acceptRanges), ("strconv.ErrRange", Rows.laid_strconv_ErrRange), ("strconv.ErrSyntax", Rows.laid_strconv_ErrSyntax), ("unicode/utf8.first", Rows.laid_unicode_utf8_first)]

theorem dPow : (Rows.laid_internal_strconv_uint64pow10 : DataW Unit) = tabData .u64 Lib.pow10Tab := by kernel_rfl
theorem dAcc : (Rows.laid_unicode_utf8_acceptRanges : DataW Unit) = acceptData := by kernel_rfl
theorem dFirst : Rows.laid_unicode_utf8_first = firstData := by kernel_rfl

def ren : Ren := ⟨fun x => x, fun x => if x = 119 then 99 else if x = 138 then 102 else if x = 139 then 103 else 5, fun x => if x = 3 then 0 else 1⟩

theorem laid_w {W : World} (h : laidMet Tryd.prog laidAll W) : LaidW W := by
  have r1 : VarReads Tryd.prog W "unicode/utf8.first" Rows.laid_unicode_utf8_first := Lib.laidMet.reads h (by simp [laidAll])
  have r2 : VarReads Tryd.prog W "unicode/utf8.acceptRanges" Rows.laid_unicode_utf8_acceptRanges := Lib.laidMet.reads h (by simp [laidAll])
  rw [dFirst] at r1
  rw [dAcc] at r2
  refine ⟨?_, ?_, ?_, ?_⟩
  · exact utf8Tabs_of_readsT (ρ := ren) ⟨by kernel_rfl, by kernel_rfl, by kernel_rfl, by kernel_rfl⟩ ⟨by kernel_rfl, by kernel_rfl, by kernel_rfl, by kernel_rfl, by kernel_rfl, by kernel_rfl, by kernel_rfl⟩
      r1 r2
  · have h2 := h.tail.tail
    rw [dPow] at h2
    exact Lib.tabIs_of_head (g := 3) (t := 112) (e := 91) (n := 20) (by kernel_rfl) (by kernel_rfl) Tryd.underlying112 Tryd.underlying91 (by kernel_rfl) (by kernel_rfl) h2
  · obtain ⟨a, t, hv, _⟩ := laid_sentinel (g := 4) h.tail.tail.tail.tail.tail (by kernel_rfl) (by kernel_rfl) Tryd.underlying80 rowErr Tryd.underlying127 Tryd.underlying129 rfl rfl Tryd.underlying9 (by kernel_rfl) (by kernel_rfl)
    exact ⟨_, _, hv⟩
  · obtain ⟨a, t, hv, _⟩ := laid_sentinel (g := 5) h.tail.tail.tail.tail (by kernel_rfl) (by kernel_rfl) Tryd.underlying80 rowErr Tryd.underlying127 Tryd.underlying129 rfl rfl Tryd.underlying9 (by kernel_rfl) (by kernel_rfl)
    exact ⟨_, _, hv⟩

def one1 : DataW Unit → Value
  | .lit (.int k n) => .int k n
  | _ => undef
def cells1 : DataW Unit → Array Value
  | .agg ps => (ps.map one1).toArray
  | _ => #[]
def cells2 : DataW Unit → Array Value
  | .agg ps => (ps.flatMap fun p => match p with | .agg qs => qs.map one1 | _ => []).toArray
  | _ => #[]
/-- THE WITNESS: the settled world with the two errors' blocks more, the listed variables holding what their initialisers laid. -/
noncomputable def laidWorld (os : Os) : World :=
  let N := (World.settled Tryd.prog os).heap.size
  let w0 := World.holding Tryd.prog os ⟨#[
    .cells #[.string ⟨#[105, 110, 118, 97, 108, 105, 100, 32, 115, 121, 110, 116, 97, 120]⟩] 129, .cells #[.string ⟨#[118, 97, 108, 117, 101, 32, 111, 117, 116, 32, 111, 102, 32, 114, 97, 110, 103, 101]⟩] 129], #[], []⟩
  let put (h : Array Obj) (g : Nat) (cs : Array Value) : Array Obj := h.modify g fun
    | .cells _ t frozen => .cells cs t frozen
    | o => o
  let h0 := put (put w0.heap 4 #[.iface 127 (.pointer (some ⟨N, 0, none⟩))]) 5 #[.iface 127 (.pointer (some ⟨N + 1, 0, none⟩))]
  let h1 := put h0 0 (cells1 Rows.laid_unicode_utf8_first)
  let h2 := put h1 1 (cells2 Rows.laid_unicode_utf8_acceptRanges)
  let h3 := put h2 3 (cells1 Rows.laid_internal_strconv_uint64pow10)
  let h4 := put h3 6 (cells1 Rows.laid_math_bits_deBruijn32tab)
  let h5 := put h4 7 (cells1 Rows.laid_math_bits_deBruijn64tab)
  { w0 with heap := h5 }

noncomputable abbrev N0 : Nat := (World.settled Tryd.prog default).heap.size
theorem laid_met (os : Os) (args : Array Value) : laidMet Tryd.prog laidAll ((laidWorld os).forCall (fun _ _ => 0) ⟨#[], args, []⟩).memory :=
  (LaidIn.of_run [0, 1, 2, 3, 4, 5, 6, 7, N0, N0 + 1] 8 (by kernel_rfl) (by kernel_rfl) (by kernel_rfl) (by kernel_rfl) : LaidIn Tryd.prog ((laidWorld os).forCall (fun _ _ => 0) ⟨#[], args, []⟩).memory laidAll [0, 1, 2, 3, 4, 5, 6, 7, N0, N0 + 1]).met

end Go.Proofs.YtgaanohloocokaaDoor
