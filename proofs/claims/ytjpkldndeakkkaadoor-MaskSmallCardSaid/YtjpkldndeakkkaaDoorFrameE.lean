/- What the laws of the masks list: the two errors of strconv; a world for the witnesses in which all that is listed lies. -/
import Derived.Test.YtjpkldndeakkkaaDoorFrameB
import Derived.Test.YtjpkldndeakkkaaDoorMskG
import Derived.LaidLaws
namespace Go.Proofs.YtjpkldndeakkkaaDoor
open Go Go.ChangeShapes Go.WideShapes Go.ChangeAt Go.RowKit
theorem gErrRange : Tryd.prog.globalNamed "strconv.ErrRange" = some 2 := by kernel_rfl
theorem gErrSyntax : Tryd.prog.globalNamed "strconv.ErrSyntax" = some 1 := by kernel_rfl
theorem gErrRangeType : (Tryd.prog.globals[2]?).map (·.type) = some 57 := by kernel_rfl
theorem gErrSyntaxType : (Tryd.prog.globals[1]?).map (·.type) = some 57 := by kernel_rfl
theorem ev_of_laid {W : World} (h : laidMetH Tryd.prog [("math/bits.deBruijn32tab", Rows.laid_math_bits_deBruijn32tab), ("math/bits.deBruijn64tab", Rows.laid_math_bits_deBruijn64tab), ("internal/strconv.uint64pow10", Rows.laid_internal_strconv_uint64pow10), ("strconv.ErrRange", Rows.laid_strconv_ErrRange), ("strconv.ErrSyntax", Rows.laid_strconv_ErrSyntax)] W) : EV W := by
  obtain ⟨ps, ⟨g0, t0, cs0, f0, p0, q0, hg0, ht0, hv0, hd0, ⟨g1, t1, cs1, f1, p1, q1, hg1, ht1, hv1, hd1, ⟨g2, t2, cs2, f2, p2, q2, hg2, ht2, hv2, hd2, ⟨g3, t3, cs3, f3, p3, q3, hg3, ht3, hv3, hd3, ⟨g4, t4, cs4, f4, p4, q4, hg4, ht4, hv4, hd4, hq4, e4⟩, e3⟩, e2⟩, e1⟩, e0⟩, hnd, hrows⟩ := h
  obtain rfl := Option.some.inj (gErrRange.symm.trans hg3)
  obtain rfl := Option.some.inj (gErrSyntax.symm.trans hg4)
  obtain rfl := Option.some.inj (gErrRangeType.symm.trans ht3)
  obtain rfl := Option.some.inj (gErrSyntaxType.symm.trans ht4)
  obtain ⟨l3⟩ := cs3
  obtain ⟨l4⟩ := cs4
  obtain ⟨_, u3, v3, rfl, _, _⟩ := iface_of_trod Tryd.underlying57 hd3
  obtain ⟨_, u4, v4, rfl, _, _⟩ := iface_of_trod Tryd.underlying57 hd4
  exact ⟨⟨u4, v4, by simpa using World.var?_cell hg4 hv4 0⟩, ⟨u3, v3, by simpa using World.var?_cell hg3 hv3 0⟩⟩
/-- The cells of math/bits.deBruijn32tab. -/
def cells_laid_math_bits_deBruijn32tab : Array Value := #[.int .u8 0, .int .u8 1, .int .u8 28, .int .u8 2, .int .u8 29, .int .u8 14, .int .u8 24, .int .u8 3, .int .u8 30, .int .u8 22, .int .u8 20, .int .u8 15, .int .u8 25, .int .u8 17, .int .u8 4, .int .u8 8, .int .u8 31, .int .u8 27, .int .u8 13, .int .u8 23, .int .u8 21, .int .u8 19, .int .u8 16, .int .u8 7, .int .u8 26, .int .u8 12, .int .u8 18, .int .u8 6, .int .u8 11, .int .u8 5, .int .u8 10, .int .u8 9]
/-- The cells of math/bits.deBruijn64tab. -/
def cells_laid_math_bits_deBruijn64tab : Array Value := #[.int .u8 0, .int .u8 1, .int .u8 56, .int .u8 2, .int .u8 57, .int .u8 49, .int .u8 28, .int .u8 3, .int .u8 61, .int .u8 58, .int .u8 42, .int .u8 50, .int .u8 38, .int .u8 29, .int .u8 17, .int .u8 4, .int .u8 62, .int .u8 47, .int .u8 59, .int .u8 36, .int .u8 45, .int .u8 43, .int .u8 51, .int .u8 22, .int .u8 53, .int .u8 39, .int .u8 33, .int .u8 30, .int .u8 24, .int .u8 18, .int .u8 12, .int .u8 5, .int .u8 63, .int .u8 55, .int .u8 48, .int .u8 27, .int .u8 60, .int .u8 41, .int .u8 37, .int .u8 16, .int .u8 46, .int .u8 35, .int .u8 44, .int .u8 21, .int .u8 52, .int .u8 32, .int .u8 23, .int .u8 11, .int .u8 54, .int .u8 26, .int .u8 40, .int .u8 15, .int .u8 34, .int .u8 20, .int .u8 31, .int .u8 10, .int .u8 25, .int .u8 14, .int .u8 19, .int .u8 9, .int .u8 13, .int .u8 8, .int .u8 7, .int .u8 6]
/-- The cells of internal/strconv.uint64pow10. -/
def cells_laid_internal_strconv_uint64pow10 : Array Value := #[.int .u64 1, .int .u64 10, .int .u64 100, .int .u64 1000, .int .u64 10000, .int .u64 100000, .int .u64 1000000, .int .u64 10000000, .int .u64 100000000, .int .u64 1000000000, .int .u64 10000000000, .int .u64 100000000000, .int .u64 1000000000000, .int .u64 10000000000000, .int .u64 100000000000000, .int .u64 1000000000000000, .int .u64 10000000000000000, .int .u64 100000000000000000, .int .u64 1000000000000000000, .int .u64 10000000000000000000]
abbrev rangeS : ByteArray := { data := #[118, 97, 108, 117, 101, 32, 111, 117, 116, 32, 111, 102, 32, 114, 97, 110, 103, 101] }
abbrev syntaxS : ByteArray := { data := #[105, 110, 118, 97, 108, 105, 100, 32, 115, 121, 110, 116, 97, 120] }
noncomputable def low : Nat := (World.holding Tryd.prog default ⟨#[], #[], []⟩).heap.size
noncomputable def laidWorld (os : Os) : World :=
  let w0 := World.holding Tryd.prog os ⟨#[.cells #[.string rangeS] 117, .cells #[.string syntaxS] 117], #[], []⟩
  { w0 with heap := (((((w0.heap).modify 4 (fun o => match o with | .cells _ t frozen => .cells cells_laid_math_bits_deBruijn32tab t frozen | o => o)).modify 5 (fun o => match o with | .cells _ t frozen => .cells cells_laid_math_bits_deBruijn64tab t frozen | o => o)).modify 3 (fun o => match o with | .cells _ t frozen => .cells cells_laid_internal_strconv_uint64pow10 t frozen | o => o)).modify 2 (fun o => match o with | .cells _ t frozen => .cells #[.iface 115 (.pointer (some ⟨low, 0, none⟩))] t frozen | o => o)).modify 1 (fun o => match o with | .cells _ t frozen => .cells #[.iface 115 (.pointer (some ⟨low + 1, 0, none⟩))] t frozen | o => o) }
end Go.Proofs.YtjpkldndeakkkaaDoor
