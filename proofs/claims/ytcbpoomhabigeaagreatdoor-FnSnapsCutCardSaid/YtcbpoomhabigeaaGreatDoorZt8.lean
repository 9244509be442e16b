/- What the rows list of the library's variables: a world that has it, and what it gives. -/
import Derived.Test.YtcbpoomhabigeaaGreatDoorZt7
import Derived.Test.YtcbpoomhabigeaaGreatDoorRows
import Derived.Stop.LaidErr
import Derived.LaidSub
import Derived.LaidHandle
import Derived.LaidLaws
import Derived.ProofKit
set_option linter.all false
section
namespace Go.Proofs.YtcbpoomhabigeaaGreatDoor
open Go Go.Vm
noncomputable def Eq1 : List (String × DataW Unit) := [("math/bits.deBruijn32tab", Rows.laid_math_bits_deBruijn32tab), ("math/bits.deBruijn64tab", Rows.laid_math_bits_deBruijn64tab), ("internal/strconv.uint64pow10", Rows.laid_internal_strconv_uint64pow10), ("strconv.ErrRange", Rows.laid_strconv_ErrRange), ("strconv.ErrSyntax", Rows.laid_strconv_ErrSyntax)]
abbrev H14 : ByteArray := { data := #[105, 110, 118, 97, 108, 105, 100, 32, 115, 121, 110, 116, 97, 120] }
abbrev H15 : ByteArray := { data := #[118, 97, 108, 117, 101, 32, 111, 117, 116, 32, 111, 102, 32, 114, 97, 110, 103, 101] }
noncomputable def low : Nat := (World.holding Tryz.prog default ⟨#[], #[], []⟩).heap.size
def Hm3 (cs : Array Value) : Obj → Obj
 | .cells _ t frozen => .cells cs t frozen
 | o => o
noncomputable def Eq2 (os : Os) : World :=
 let w0 := World.holding Tryz.prog os ⟨#[.cells #[.string H14] 272, .cells #[.string H15] 272], #[], []⟩
 {w0 with heap := ((((w0.heap.modify 0 (Hm3 #[.iface 270 (.pointer (some ⟨low, 0, none⟩))])).modify 1 (Hm3 #[.iface 270 (.pointer (some ⟨low + 1, 0, none⟩))])).modify 2 (Hm3 #[.int .u64 1, .int .u64 10, .int .u64 100, .int .u64 1000, .int .u64 10000, .int .u64 100000, .int .u64 1000000, .int .u64 10000000, .int .u64 100000000, .int .u64 1000000000, .int .u64 10000000000, .int .u64 100000000000, .int .u64 1000000000000, .int .u64 10000000000000, .int .u64 100000000000000, .int .u64 1000000000000000, .int .u64 10000000000000000, .int .u64 100000000000000000, .int .u64 1000000000000000000, .int .u64 10000000000000000000])).modify 3 (Hm3 #[.int .u8 0, .int .u8 1, .int .u8 28, .int .u8 2, .int .u8 29, .int .u8 14, .int .u8 24, .int .u8 3, .int .u8 30, .int .u8 22, .int .u8 20, .int .u8 15, .int .u8 25, .int .u8 17, .int .u8 4, .int .u8 8, .int .u8 31, .int .u8 27, .int .u8 13, .int .u8 23, .int .u8 21, .int .u8 19, .int .u8 16, .int .u8 7, .int .u8 26, .int .u8 12, .int .u8 18, .int .u8 6, .int .u8 11, .int .u8 5, .int .u8 10, .int .u8 9])).modify 4 (Hm3 #[.int .u8 0, .int .u8 1, .int .u8 56, .int .u8 2, .int .u8 57, .int .u8 49, .int .u8 28, .int .u8 3, .int .u8 61, .int .u8 58, .int .u8 42, .int .u8 50, .int .u8 38, .int .u8 29, .int .u8 17, .int .u8 4, .int .u8 62, .int .u8 47, .int .u8 59, .int .u8 36, .int .u8 45, .int .u8 43, .int .u8 51, .int .u8 22, .int .u8 53, .int .u8 39, .int .u8 33, .int .u8 30, .int .u8 24, .int .u8 18, .int .u8 12, .int .u8 5, .int .u8 63, .int .u8 55, .int .u8 48, .int .u8 27, .int .u8 60, .int .u8 41, .int .u8 37, .int .u8 16, .int .u8 46, .int .u8 35, .int .u8 44, .int .u8 21, .int .u8 52, .int .u8 32, .int .u8 23, .int .u8 11, .int .u8 54, .int .u8 26, .int .u8 40, .int .u8 15, .int .u8 34, .int .u8 20, .int .u8 31, .int .u8 10, .int .u8 25, .int .u8 14, .int .u8 19, .int .u8 9, .int .u8 13, .int .u8 8, .int .u8 7, .int .u8 6]) }
set_option maxRecDepth 100000 in
theorem Ej1 (os : Os) (args : Array Value) : laidMetH Tryz.prog Eq1 ((Eq2 os).forCall (fun _ _ => 0) ⟨#[], args, []⟩).memory :=
 laidMetH_of_parts (laidMet_of_run' 70 (by kernel_rfl) (by kernel_rfl)) (by kernel_rfl)
theorem gES : Tryz.prog.globalNamed "strconv.ErrSyntax" = some 0 := by kernel_rfl
theorem H16 : (Tryz.prog.globals[0]?).map (·.type) = some 190 := by kernel_rfl
theorem Hw8 : Tryz.prog.cellsOf 272 = 1 := by kernel_rfl
theorem Hw9 : Tryz.prog.cellsOf 9 = 1 := by kernel_rfl
theorem H01 : "*" ++ "errors.errorString" = "*errors.errorString" := by decide
theorem H17 (u : TypeId) (h : Tryz.prog.typeName? 3 u = some "*errors.errorString") : u = 270 :=
 typeName_ptr_named (nm := "errors.errorString") (by rw [H01]; kernel_rfl) (by kernel_rfl) (by decide) u (by rw [H01]; exact h)
theorem F45 {W : World} (h : laidMetH Tryz.prog Eq1 W) : Ek7 W := by
 have h1 := (laidMetH_iff.1 h).1
 have h2 : laidMet Tryz.prog Eq1 W := h1
 have h3 := h2.tail.tail.tail.tail
 obtain ⟨a0, s0, hv0, -, -, -⟩ := laid_sentinel h3 gES H16 Tryz.underlying190 H17 Tryz.underlying270 Tryz.underlying272 rfl rfl Tryz.underlying9 Hw8 Hw9
 intro g hg
 have hg : g = 0 := (Option.some.inj hg).symm
 subst hg
 exact ⟨_, by have h0 := World.var?_cell gES hv0 0; simpa using h0, .inr ⟨_, _, rfl⟩⟩
theorem own : ownKnob Tryz.prog.godebug = none := by kernel_rfl
theorem Hr7 : laidOutB Tryz.prog = true := by kernel_rfl
theorem H18 {a b : Bool} (h : a = true) (k : b = true) : (a && b) = true := by rw [h, k]; rfl
end Go.Proofs.YtcbpoomhabigeaaGreatDoor
end
