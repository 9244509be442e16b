/- The machine computes them. -/
import Derived.Test.YtcbpoomhabigeaaGreatDoorZj4
import Derived.Test.YtcbpoomhabigeaaGreatDoorProg
import Derived.KernelRfl
section
set_option linter.unusedVariables false
namespace Go.Vm
open Go Go.Proofs
abbrev J0 : Ty := (.fld .str (.fld .str (.fld (.int .i64) .nil)))
abbrev D9 : Ty := (.fld (.slice 99 J0) .nil)
abbrev G8 : Ty := (.fld .str (.fld (.int .i64) (.fld .bool .nil)))
abbrev C2 : Ty := (.fld (.int .i64) (.fld (.int .i64) (.fld .str .nil)))
abbrev E9 : Ty := (.fld (.int .i64) (.fld (.int .i64) (.fld (.slice 85 C2) .nil)))
abbrev A5 : Ty := (.fld (.int .i64) (.fld (.int .i64) (.fld (.int .i64) (.fld E9 .nil))))
abbrev b7 : Ty := (.fld (.int .i64) (.fld .str (.fld .str (.fld .str .nil))))
abbrev B6 : Ty := (.fld (.slice 5 (.int .u8)) (.fld (.int .i64) (.fld (.int .i64) .nil)))
abbrev H1 : Ty := (.fld (.int .i64) (.fld (.int .i64) (.fld (.int .i64) (.fld (.int .i64) (.fld (.int .i64) (.fld (.slice 3 (.int .i64)) (.fld .str (.fld (.slice 3 (.int .i64)) (.fld (.int .i64) .nil)))))))))
abbrev S9 : Ty := (.fld (.int .i64) (.fld (.int .i64) (.fld (.int .i64) (.fld H1 (.fld (.int .i64) (.fld (.int .i64) .nil))))))
abbrev Ei8 : Ty := (.fld (.int .i64) (.fld (.int .i64) (.fld (.slice 3 (.int .i64)) .nil)))
abbrev Cf8 : Ty := (.fld (.int .i64) (.fld (.int .i64) .nil))
abbrev Ap6 : Ty := (.fld (.slice 162 H1) (.fld (.slice 215 (.slice 260 Cf8)) (.fld (.slice 4 .bool) .nil)))
abbrev A55 : Ty := (.fld (.slice 158 C2) (.fld Ap6 (.fld (.slice 164 Ei8) .nil)))
noncomputable def D40 (k : Nat) : Cfg := { eqs := [], tab := [(22, (.slice 5 (.int .u8)))], spec := [], mspec := [], inl := [(7, Tryz.f7)], keep := [], join := [], hold := [], ptrs := [], maps := [], fuel := k }
noncomputable def Fq7 : VV → Ms → Option Bool := H0 [.bool] []
theorem Gf2 (k : Nat) (a0 : List Int) : D1 (D40 k) Fq7 k 7 [C3 (.slice 5 (.int .u8)) a0] ms0 = Eg7 k a0 := by kernel_rfl
noncomputable def Ei9 (k : Nat) : Spec := .imm (.slice 5 (.int .u8)) fun (a0 : List Int) => .body (Eg7 k a0) (D7 [.bool] [])
noncomputable def Cm8 (k : Nat) : Cfg := { eqs := [], tab := [], spec := [], mspec := [], inl := [(55, Tryz.f55)], keep := [], join := [], hold := [], ptrs := [], maps := [], fuel := k }
noncomputable def Ej0 : VV → Ms → Option Bool := H0 [.bool] []
theorem Fq8 (k : Nat) (a0 : Int) (a1 : Int) (a2 : Int) : D1 (Cm8 k) Ej0 k 55 [C3 (.int .i64) a0, C3 (.int .i64) a1, C3 (.int .i64) a2] ms0 = E7 k a0 a1 a2 := by kernel_rfl
noncomputable def I5 (k : Nat) : Spec := .imm (.int .i64) fun (a0 : Int) => .imm (.int .i64) fun (a1 : Int) => .imm (.int .i64) fun (a2 : Int) => .body (E7 k a0 a1 a2) (D7 [.bool] [])
noncomputable def Ba8 (k : Nat) : Cfg := { eqs := [], tab := [(3, (.int .i64)), (5, (.int .u8))], spec := [], mspec := [], inl := [(138, Tryz.f138)], keep := [], join := [], hold := [], ptrs := [], maps := [], fuel := k }
noncomputable def Cx3 : VV → Ms → Option Int := H0 [(.int .u8)] []
theorem Dj6 (k : Nat) (a0 : Int) : D1 (Ba8 k) Cx3 k 138 [C3 (.int .i64) a0] ms0 = At7 k a0 := by kernel_rfl
noncomputable def Bw5 (k : Nat) : Spec := .imm (.int .i64) fun (a0 : Int) => .body (At7 k a0) (D7 [(.int .u8)] [])
noncomputable def Au7 (k : Nat) : Cfg := { eqs := [], tab := [(9, .str), (22, (.slice 5 (.int .u8)))], spec := [(138, Bw5 k)], mspec := [], inl := [(100, Tryz.f100)], keep := [(10000001005, [0, 3, 4])], join := [], hold := [], ptrs := [], maps := [], fuel := k }
noncomputable def Ba9 : VV → Ms → Option ByteArray := H0 [.str] []
noncomputable def Al5 (k n : Nat) (a0 : Int) (v1 : Bool) (v2 : ByteArray) : Option ByteArray := w7 (Au7 k) Ba9 n true 10000001005 (cd [1, 1, 1, 1, 0, 0, 0] (bo Tryz.f100)) [.b 0, .s (cd [1, 1, 1, 1, 1] (bo Tryz.f100)), .fn Tryz.f100] ⟨⟨(P4 30 0 [(0, one (.int .i64 a0)), (3, one (.bool v1)), (4, one (.str v2))]), []⟩, 10000001000, 1, [(0, (P4 0 0 []))]⟩
theorem D41 (k n : Nat) (a0 : Int) (v1 : Bool) (v2 : ByteArray) : Al5 k (n + 1) a0 v1 v2 = Cd2 k (Al5 k n) a0 v1 v2 := by kernel_rfl
theorem Ct5 (k : Nat) : ∀ n : Nat, Al5 k n = Az5 k n
 | 0 => (by funext a0 v1 v2; rfl)
 | n + 1 => by
  obtain h0 := Ct5 k n
  exact (by funext a0 v1 v2; rw [D41, h0] <;> rfl)
theorem Ej1 (k : Nat) (a0 : Int) : D1 (Au7 k) Ba9 k 100 [C3 (.int .i64) a0] ms0 = Cr0 k (Al5 k k) a0 := by kernel_rfl
theorem Ej2 (k : Nat) (a0 : Int) : D1 (Au7 k) Ba9 k 100 [C3 (.int .i64) a0] ms0 = A21 k a0 := by rw [Ej1, show Al5 k k = Az5 k k from (Ct5 k k)] <;> rfl
noncomputable def Cf9 (k : Nat) : Spec := .imm (.int .i64) fun (a0 : Int) => .body (A21 k a0) (D7 [.str] [])
noncomputable def Ax5 (k : Nat) : Cfg := { eqs := [], tab := [], spec := [(55, I5 k), (100, Cf9 k)], mspec := [], inl := [(50, Tryz.f50)], keep := [], join := [], hold := [], ptrs := [], maps := [], fuel := k }
noncomputable def Cg0 : VV → Ms → Option ByteArray := H0 [.str] []
theorem Cx4 (k : Nat) (a0 : Int) : D1 (Ax5 k) Cg0 k 50 [C3 (.int .i64) a0] ms0 = U8 k a0 := by kernel_rfl
noncomputable def Ac9 (k : Nat) : Spec := .imm (.int .i64) fun (a0 : Int) => .body (U8 k a0) (D7 [.str] [])
noncomputable def Bg1 (k : Nat) : Cfg := { eqs := [], tab := [(9, .str), (24, (.slice 99 J0)), (26, D9), (99, J0)], spec := [], mspec := [], inl := [(101, Tryz.f101)], keep := [(10100001002, [1, 2, 5])], join := [], hold := [], ptrs := [], maps := [], fuel := k }
noncomputable def Bw6 : VV → Ms → Option Int := H0 [(.int .i64)] []
noncomputable def A56 (k n : Nat) (a1 : ByteArray) (v1 : Int) (a0 : B4) : Option Int := w7 (Bg1 k) Bw6 n true 10100001002 (cd [1, 0, 1, 0, 0] (bo Tryz.f101)) [.b 0, .s (cd [1, 1] (bo Tryz.f101)), .fn Tryz.f101] ⟨⟨(P4 22 0 [(1, one (.str a1)), (2, one (.ptr 9000000 0)), (5, one (.int .i64 v1))]), [(9000000, .box [.slc 99 J0 a0.1])]⟩, 10100001000, 1, [(0, (P4 0 0 []))]⟩
theorem E66 (k n : Nat) (a1 : ByteArray) (v1 : Int) (a0 : B4) : A56 k (n + 1) a1 v1 a0 = Bj7 k (A56 k n) a1 v1 a0 := by kernel_rfl
theorem Dx1 (k : Nat) : ∀ n : Nat, A56 k n = Ag8 k n
 | 0 => (by funext a1 v1 a0; rfl)
 | n + 1 => by
  obtain h0 := Dx1 k n
  exact (by funext a1 v1 a0; rw [E66, h0] <;> rfl)
theorem Fq9 (k : Nat) (a0 : B4) (a1 : ByteArray) : D1 (Bg1 k) Bw6 k 101 [C3 D9 a0, C3 .str a1] ms0 = Du9 k (A56 k k) a0 a1 := by kernel_rfl
theorem Fr0 (k : Nat) (a0 : B4) (a1 : ByteArray) : D1 (Bg1 k) Bw6 k 101 [C3 D9 a0, C3 .str a1] ms0 = Az6 k a0 a1 := by rw [Fq9, show A56 k k = Ag8 k k from (Dx1 k k)] <;> rfl
noncomputable def Ca3 (k : Nat) : Spec := .imm D9 fun (a0 : B4) => .imm .str fun (a1 : ByteArray) => .body (Az6 k a0 a1) (D7 [(.int .i64)] [])
noncomputable def Ca4 (k : Nat) : Cfg := { eqs := [], tab := [(9, .str), (24, (.slice 99 J0)), (26, D9), (99, J0)], spec := [(101, Ca3 k)], mspec := [], inl := [(51, Tryz.f51)], keep := [], join := [], hold := [], ptrs := [], maps := [], fuel := k }
noncomputable def D42 : VV → Ms → Option (ByteArray × Bool) := H0 [.str, .bool] []
theorem E67 (k : Nat) (a0 : B4) (a1 : ByteArray) : D1 (Ca4 k) D42 k 51 [C3 D9 a0, C3 .str a1] ms0 = Be4 k a0 a1 := by kernel_rfl
noncomputable def Ct6 (k : Nat) : Spec := .imm D9 fun (a0 : B4) => .imm .str fun (a1 : ByteArray) => .body (Be4 k a0 a1) (D7 [.str, .bool] [])
noncomputable def A57 (k : Nat) : Cfg := { eqs := [], tab := [(3, (.int .i64)), (5, (.int .u8)), (9, .str), (22, (.slice 5 (.int .u8)))], spec := [], mspec := [], inl := [(109, Tryz.f109)], keep := [(10900001002, [0, 3])], join := [], hold := [], ptrs := [], maps := [], fuel := k }
noncomputable def Bm1 : VV → Ms → Option ByteArray := H0 [.str] []
noncomputable def Au8 (k n : Nat) (a0 : Int) (xs1 : List Int) : Option ByteArray := w7 (A57 k) Bm1 n true 10900001002 (cd [1, 1, 0, 0, 0] (bo Tryz.f109)) [.b 0, .s (cd [1, 1, 1] (bo Tryz.f109)), .fn Tryz.f109] ⟨⟨(P4 22 0 [(0, one (.int .i64 a0)), (3, one (.row 9000000 none none))]), [(9000000, .row 5 (.int .u8) xs1 true)]⟩, 10900001000, 1, [(0, (P4 0 0 []))]⟩
theorem Ej3 (k n : Nat) (a0 : Int) (xs1 : List Int) : Au8 k (n + 1) a0 xs1 = A84 k (Au8 k n) a0 xs1 := by kernel_rfl
theorem Dc6 (k : Nat) : ∀ n : Nat, Au8 k n = w8 k n
 | 0 => (by funext a0 xs1; rfl)
 | n + 1 => by
  obtain h0 := Dc6 k n
  exact (by funext a0 xs1; rw [Ej3, h0] <;> rfl)
theorem E68 (k : Nat) (a0 : Int) : D1 (A57 k) Bm1 k 109 [C3 (.int .i64) a0] ms0 = B91 k (Au8 k k) a0 := by kernel_rfl
theorem E69 (k : Nat) (a0 : Int) : D1 (A57 k) Bm1 k 109 [C3 (.int .i64) a0] ms0 = I9 k a0 := by rw [E68, show Au8 k k = w8 k k from (Dc6 k k)] <;> rfl
noncomputable def T0 (k : Nat) : Spec := .imm (.int .i64) fun (a0 : Int) => .body (I9 k a0) (D7 [.str] [])
noncomputable def Bw7 (k : Nat) : Cfg := { eqs := [], tab := [(5, (.int .u8)), (9, .str), (22, (.slice 5 (.int .u8))), (139, (.int .u32))], spec := [], mspec := [], inl := [(144, Tryz.f144)], keep := [], join := [], hold := [], ptrs := [], maps := [], fuel := k }
noncomputable def Dj7 : VV → Ms → Option ByteArray := H0 [.str] []
theorem Ej4 (k : Nat) (a0 : Int) : D1 (Bw7 k) Dj7 k 144 [C3 (.int .u32) a0] ms0 = B28 k a0 := by kernel_rfl
noncomputable def Cg1 (k : Nat) : Spec := .imm (.int .u32) fun (a0 : Int) => .body (B28 k a0) (D7 [.str] [])
noncomputable def Aj1 (k : Nat) : Cfg := { eqs := [], tab := [(5, (.int .u8)), (9, .str), (139, (.int .u32))], spec := [], mspec := [], inl := [(163, Tryz.f163)], keep := [(16300001002, [0, 1, 5]), (16300001006, [0, 1, 5, 6])], join := [], hold := [], ptrs := [], maps := [], fuel := k }
noncomputable def At0 : VV → Ms → Option Int := H0 [(.int .u32)] []
noncomputable def Al6 (k n : Nat) (a0 : Int) (a1 : ByteArray) (v1 : Int) : Option Int := w7 (Aj1 k) At0 n true 16300001002 (cd [1, 0, 1, 0, 0] (bo Tryz.f163)) [.b 0, .s (cd [1, 1] (bo Tryz.f163)), .fn Tryz.f163] ⟨⟨(P4 33 0 [(0, one (.int .u32 a0)), (1, one (.str a1)), (5, one (.int .i64 v1))]), []⟩, 16300001000, 1, [(0, (P4 0 0 []))]⟩
noncomputable def A06 (k n : Nat) (v2 : Int) (a1 : ByteArray) (v1 : Int) (v3 : Int) : Option Int := w7 (Aj1 k) At0 n true 16300001006 (cd [1, 0, 1, 0, 0, 1, 0, 0, 1, 1, 0, 0] (bo Tryz.f163)) [.b 2, .b 1, .s (cd [1, 0, 1, 0, 0, 1, 1] (bo Tryz.f163)), .l 16300001002 (cd [1, 0, 1, 0, 0] (bo Tryz.f163)), .b 0, .s (cd [1, 1] (bo Tryz.f163)), .fn Tryz.f163] ⟨⟨(P4 33 0 [(0, one (.int .u32 v2)), (1, one (.str a1)), (5, one (.int .i64 v1)), (6, one (.int .i64 v3))]), []⟩, 16300001000, 1, [(0, (P4 0 0 []))]⟩
theorem D43 (k n : Nat) (a0 : Int) (a1 : ByteArray) (v1 : Int) : Al6 k (n + 1) a0 a1 v1 = Ak1 k (A06 k n) a0 a1 v1 := by kernel_rfl
theorem D44 (k n : Nat) (v2 : Int) (a1 : ByteArray) (v1 : Int) (v3 : Int) : A06 k (n + 1) v2 a1 v1 v3 = Ak2 k (A06 k n) (Al6 k n) v2 a1 v1 v3 := by kernel_rfl
theorem Ct7 (k : Nat) : ∀ n : Nat, Al6 k n = j6 k n ∧ A06 k n = Ak3 k n
 | 0 => ⟨(by funext a0 a1 v1; rfl), (by funext v2 a1 v1 v3; rfl)⟩
 | n + 1 => by
  obtain ⟨h0, h1⟩ := Ct7 k n
  exact ⟨(by funext a0 a1 v1; rw [D43, h1] <;> rfl), (by funext v2 a1 v1 v3; rw [D44, h1, h0] <;> rfl)⟩
theorem Ej5 (k : Nat) (a0 : Int) (a1 : ByteArray) : D1 (Aj1 k) At0 k 163 [C3 (.int .u32) a0, C3 .str a1] ms0 = Cr1 k (Al6 k k) a0 a1 := by kernel_rfl
theorem Ej6 (k : Nat) (a0 : Int) (a1 : ByteArray) : D1 (Aj1 k) At0 k 163 [C3 (.int .u32) a0, C3 .str a1] ms0 = B29 k a0 a1 := by rw [Ej5, show Al6 k k = j6 k k from (Ct7 k k).1] <;> rfl
noncomputable def Cg2 (k : Nat) : Spec := .imm (.int .u32) fun (a0 : Int) => .imm .str fun (a1 : ByteArray) => .body (B29 k a0 a1) (D7 [(.int .u32)] [])
noncomputable def Cm9 (k : Nat) : Cfg := { eqs := [], tab := [], spec := [(163, Cg2 k)], mspec := [], inl := [(145, Tryz.f145)], keep := [], join := [], hold := [], ptrs := [], maps := [], fuel := k }
noncomputable def Ej7 : VV → Ms → Option Int := H0 [(.int .u32)] []
theorem Fr1 (k : Nat) (a0 : ByteArray) : D1 (Cm9 k) Ej7 k 145 [C3 .str a0] ms0 = Bj8 k a0 := by kernel_rfl
noncomputable def Dc7 (k : Nat) : Spec := .imm .str fun (a0 : ByteArray) => .body (Bj8 k a0) (D7 [(.int .u32)] [])
noncomputable def Cn0 (k : Nat) : Cfg := { eqs := [], tab := [(9, .str)], spec := [(55, I5 k), (109, T0 k), (144, Cg1 k), (145, Dc7 k)], mspec := [], inl := [(106, Tryz.f106)], keep := [], join := [], hold := [], ptrs := [], maps := [], fuel := k }
noncomputable def Ej8 : VV → Ms → Option (ByteArray × Bool) := H0 [.str, .bool] []
theorem Fr2 (k : Nat) (a0 : ByteArray) : D1 (Cn0 k) Ej8 k 106 [C3 .str a0] ms0 = T2 k a0 := by kernel_rfl
noncomputable def Ar3 (k : Nat) : Spec := .imm .str fun (a0 : ByteArray) => .body (T2 k a0) (D7 [.str, .bool] [])
noncomputable def Au9 (k : Nat) : Cfg := { eqs := [], tab := [(3, (.int .i64)), (5, (.int .u8)), (9, .str)], spec := [(55, I5 k), (109, T0 k)], mspec := [], inl := [(139, Tryz.f139)], keep := [(13900001006, [0, 1, 7, 8, 9])], join := [], hold := [], ptrs := [], maps := [], fuel := k }
noncomputable def Bb0 : VV → Ms → Option (Int × Int × Bool) := H0 [(.int .i64), (.int .i64), .bool] []
noncomputable def Al7 (k n : Nat) (a0 : ByteArray) (a1 : Int) (v1 : Int) (v2 : Int) (v3 : Int) : Option (Int × Int × Bool) := w7 (Au9 k) Bb0 n true 13900001006 (cd [1, 1, 1, 1, 0, 1, 0, 0] (bo Tryz.f139)) [.b 0, .s (cd [1, 1, 1, 1, 1] (bo Tryz.f139)), .fn Tryz.f139] ⟨⟨(P4 58 0 [(0, one (.str a0)), (1, one (.int .i64 a1)), (7, one (.int .i64 v1)), (8, one (.int .i64 v2)), (9, one (.int .i64 v3))]), []⟩, 13900001000, 1, [(0, (P4 0 0 []))]⟩
theorem D45 (k n : Nat) (a0 : ByteArray) (a1 : Int) (v1 : Int) (v2 : Int) (v3 : Int) : Al7 k (n + 1) a0 a1 v1 v2 v3 = Ak4 k (Al7 k n) a0 a1 v1 v2 v3 := by kernel_rfl
theorem Ct8 (k : Nat) : ∀ n : Nat, Al7 k n = R7 k n
 | 0 => (by funext a0 a1 v1 v2 v3; rfl)
 | n + 1 => by
  obtain h0 := Ct8 k n
  exact (by funext a0 a1 v1 v2 v3; rw [D45, h0] <;> rfl)
theorem Ej9 (k : Nat) (a0 : ByteArray) (a1 : Int) : D1 (Au9 k) Bb0 k 139 [C3 .str a0, C3 (.int .i64) a1] ms0 = Bt9 k (Al7 k k) a0 a1 := by kernel_rfl
theorem Ek0 (k : Nat) (a0 : ByteArray) (a1 : Int) : D1 (Au9 k) Bb0 k 139 [C3 .str a0, C3 (.int .i64) a1] ms0 = p6 k a0 a1 := by rw [Ej9, show Al7 k k = R7 k k from (Ct8 k k)] <;> rfl
noncomputable def Bm2 (k : Nat) : Spec := .imm .str fun (a0 : ByteArray) => .imm (.int .i64) fun (a1 : Int) => .body (p6 k a0 a1) (D7 [(.int .i64), (.int .i64), .bool] [])
noncomputable def Av0 (k : Nat) : Cfg := { eqs := [], tab := [(9, .str), (75, (.slice 9 .str))], spec := [(106, Ar3 k), (139, Bm2 k)], mspec := [], inl := [(102, Tryz.f102)], keep := [(10200001005, [0, 4, 5])], join := [], hold := [], ptrs := [], maps := [], fuel := k }
noncomputable def Bb1 : VV → Ms → Option (List ByteArray × Int) := H0 [(.slice 9 .str), (.int .i64)] [.o]
noncomputable def Al8 (k n : Nat) (a0 : ByteArray) (v1 : Int) (xs2 : List ByteArray) : Option (List ByteArray × Int) := w7 (Av0 k) Bb1 n true 10200001005 (cd [1, 1, 1, 1, 0, 0, 0] (bo Tryz.f102)) [.b 0, .s (cd [1, 1, 1, 1, 1] (bo Tryz.f102)), .fn Tryz.f102] ⟨⟨(P4 79 0 [(0, one (.str a0)), (4, one (.row 9000000 none none)), (5, one (.int .i64 v1))]), [(9000000, .row 9 .str xs2 true)]⟩, 10200001000, 1, [(0, (P4 0 0 []))]⟩
theorem D46 (k n : Nat) (a0 : ByteArray) (v1 : Int) (xs2 : List ByteArray) : Al8 k (n + 1) a0 v1 xs2 = Bj9 k (Al8 k n) a0 v1 xs2 := by kernel_rfl
theorem Ct9 (k : Nat) : ∀ n : Nat, Al8 k n = j7 k n
 | 0 => (by funext a0 v1 xs2; rfl)
 | n + 1 => by
  obtain h0 := Ct9 k n
  exact (by funext a0 v1 xs2; rw [D46, h0] <;> rfl)
theorem Ek1 (k : Nat) (a0 : ByteArray) : D1 (Av0 k) Bb1 k 102 [C3 .str a0] ms0 = Cr2 k (Al8 k k) a0 := by kernel_rfl
theorem Ek2 (k : Nat) (a0 : ByteArray) : D1 (Av0 k) Bb1 k 102 [C3 .str a0] ms0 = Be5 k a0 := by rw [Ek1, show Al8 k k = j7 k k from (Ct9 k k)] <;> rfl
noncomputable def Cg3 (k : Nat) : Spec := .imm .str fun (a0 : ByteArray) => .body (Be5 k a0) (D7 [(.slice 9 .str), (.int .i64)] [.o])
noncomputable def Ca5 (k : Nat) : Cfg := { eqs := [], tab := [(3, (.int .i64)), (4, .bool), (9, .str), (176, G8)], spec := [(139, Bm2 k)], mspec := [], inl := [(127, Tryz.f127)], keep := [], join := [], hold := [], ptrs := [], maps := [], fuel := k }
noncomputable def D47 : VV → Ms → Option (Int × M7 × Unit) := A78 [(.int .i64)] [] [.box G8]
theorem E70 (k : Nat) (a0 : M7) : D1 (Ca5 k) D47 k 127 (N1 1 [.box G8] (a0, ())) (ms1 [.box G8] (a0, ())) = At8 k a0 := by kernel_rfl
noncomputable def Bw8 (k : Nat) : MSpec := .box G8 fun (a0 : M7) => .body (At8 k a0) (fun r => D7 [(.int .i64)] [] r.1) (fun r => poV [.box G8] r.2)
noncomputable def Bw9 (k : Nat) : Cfg := { eqs := [], tab := [(3, (.int .i64)), (4, .bool), (9, .str), (176, G8)], spec := [], mspec := [], inl := [(140, Tryz.f140)], keep := [], join := [], hold := [], ptrs := [], maps := [], fuel := k }
noncomputable def Dj8 : VV → Ms → Option (ByteArray × M7 × Unit) := A78 [.str] [] [.box G8, .imm (.int .i64)]
theorem Ek3 (k : Nat) (a0 : M7) (a1 : Int) : D1 (Bw9 k) Dj8 k 140 (N1 1 [.box G8, .imm (.int .i64)] (a0, a1, ())) (ms1 [.box G8, .imm (.int .i64)] (a0, a1, ())) = Ab0 k a0 a1 := by kernel_rfl
noncomputable def Bm3 (k : Nat) : MSpec := .box G8 fun (a0 : M7) => .imm (.int .i64) fun (a1 : Int) => .body (Ab0 k a0 a1) (fun r => D7 [.str] [] r.1) (fun r => poV [.box G8, .imm (.int .i64)] r.2)
noncomputable def Ca6 (k : Nat) : Cfg := { eqs := [], tab := [(4, .bool), (176, G8)], spec := [(109, T0 k)], mspec := [(127, Bw8 k), (140, Bm3 k)], inl := [(103, Tryz.f103)], keep := [], join := [], hold := [], ptrs := [], maps := [], fuel := k }
noncomputable def D48 : VV → Ms → Option (Int × Int × Bool) := H0 [(.int .i64), (.int .i64), .bool] []
theorem E71 (k : Nat) (a0 : ByteArray) (a1 : ByteArray) : D1 (Ca6 k) D48 k 103 [C3 .str a0, C3 .str a1] ms0 = At9 k a0 a1 := by kernel_rfl
noncomputable def Bx0 (k : Nat) : Spec := .imm .str fun (a0 : ByteArray) => .imm .str fun (a1 : ByteArray) => .body (At9 k a0 a1) (D7 [(.int .i64), (.int .i64), .bool] [])
noncomputable def Av1 (k : Nat) : Cfg := { eqs := [], tab := [(3, (.int .i64)), (49, (.slice 3 (.int .i64)))], spec := [(55, I5 k)], mspec := [], inl := [(180, Tryz.f180)], keep := [(18000001002, [0, 1, 2, 7])], join := [], hold := [], ptrs := [], maps := [], fuel := k }
noncomputable def Bb2 : VV → Ms → Option Bool := H0 [.bool] []
noncomputable def Al9 (k n : Nat) (a0 : List Int) (a1 : Int) (a2 : Int) (v1 : Int) : Option Bool := w7 (Av1 k) Bb2 n true 18000001002 (cd [1, 0, 1, 0, 0] (bo Tryz.f180)) [.b 0, .s (cd [1, 1] (bo Tryz.f180)), .fn Tryz.f180] ⟨⟨(P4 38 0 [(0, one (.slc 3 (.int .i64) a0)), (1, one (.int .i64 a1)), (2, one (.int .i64 a2)), (7, one (.int .i64 v1))]), []⟩, 18000001000, 1, [(0, (P4 0 0 []))]⟩
theorem D49 (k n : Nat) (a0 : List Int) (a1 : Int) (a2 : Int) (v1 : Int) : Al9 k (n + 1) a0 a1 a2 v1 = Az7 k (Al9 k n) a0 a1 a2 v1 := by kernel_rfl
theorem Cu0 (k : Nat) : ∀ n : Nat, Al9 k n = X6 k n
 | 0 => (by funext a0 a1 a2 v1; rfl)
 | n + 1 => by
  obtain h0 := Cu0 k n
  exact (by funext a0 a1 a2 v1; rw [D49, h0] <;> rfl)
theorem Ek4 (k : Nat) (a0 : List Int) (a1 : Int) (a2 : Int) : D1 (Av1 k) Bb2 k 180 [C3 (.slice 3 (.int .i64)) a0, C3 (.int .i64) a1, C3 (.int .i64) a2] ms0 = Cr3 k (Al9 k k) a0 a1 a2 := by kernel_rfl
theorem Ek5 (k : Nat) (a0 : List Int) (a1 : Int) (a2 : Int) : D1 (Av1 k) Bb2 k 180 [C3 (.slice 3 (.int .i64)) a0, C3 (.int .i64) a1, C3 (.int .i64) a2] ms0 = B30 k a0 a1 a2 := by rw [Ek4, show Al9 k k = X6 k k from (Cu0 k k)] <;> rfl
noncomputable def Cg4 (k : Nat) : Spec := .imm (.slice 3 (.int .i64)) fun (a0 : List Int) => .imm (.int .i64) fun (a1 : Int) => .imm (.int .i64) fun (a2 : Int) => .body (B30 k a0 a1 a2) (D7 [.bool] [])
noncomputable def Ca7 (k : Nat) : Cfg := { eqs := [], tab := [(49, (.slice 3 (.int .i64)))], spec := [(55, I5 k), (180, Cg4 k)], mspec := [], inl := [(159, Tryz.f159)], keep := [], join := [], hold := [], ptrs := [], maps := [], fuel := k }
noncomputable def D50 : VV → Ms → Option Bool := H0 [.bool] []
theorem E72 (k : Nat) (a0 : List Int) : D1 (Ca7 k) D50 k 159 [C3 (.slice 3 (.int .i64)) a0] ms0 = Au0 k a0 := by kernel_rfl
noncomputable def Bx1 (k : Nat) : Spec := .imm (.slice 3 (.int .i64)) fun (a0 : List Int) => .body (Au0 k a0) (D7 [.bool] [])
noncomputable def Am0 (k : Nat) : Cfg := { eqs := [], tab := [(3, (.int .i64)), (5, (.int .u8)), (9, .str), (49, (.slice 3 (.int .i64)))], spec := [(159, Bx1 k)], mspec := [], inl := [(128, Tryz.f128)], keep := [(12800001003, [0, 4, 5])], join := [], hold := [], ptrs := [], maps := [], fuel := k }
noncomputable def A58 : VV → Ms → Option (List Int × Bool) := H0 [(.slice 3 (.int .i64)), .bool] [.o]
noncomputable def Af2 (k n : Nat) (a0 : ByteArray) (v1 : Int) (xs2 : List Int) : Option (List Int × Bool) := w7 (Am0 k) A58 n true 12800001003 (cd [1, 1, 0, 1, 0, 0] (bo Tryz.f128)) [.b 0, .s (cd [1, 1, 1] (bo Tryz.f128)), .fn Tryz.f128] ⟨⟨(P4 36 0 [(0, one (.str a0)), (4, one (.row 9000000 none none)), (5, one (.int .i64 v1))]), [(9000000, .row 3 (.int .i64) xs2 true)]⟩, 12800001000, 1, [(0, (P4 0 0 []))]⟩
theorem Dj9 (k n : Nat) (a0 : ByteArray) (v1 : Int) (xs2 : List Int) : Af2 k (n + 1) a0 v1 xs2 = Ba3 k (Af2 k n) a0 v1 xs2 := by kernel_rfl
theorem Cg5 (k : Nat) : ∀ n : Nat, Af2 k n = Y1 k n
 | 0 => (by funext a0 v1 xs2; rfl)
 | n + 1 => by
  obtain h0 := Cg5 k n
  exact (by funext a0 v1 xs2; rw [Dj9, h0] <;> rfl)
theorem D51 (k : Nat) (a0 : ByteArray) : D1 (Am0 k) A58 k 128 [C3 .str a0] ms0 = Cd3 k (Af2 k k) a0 := by kernel_rfl
theorem D52 (k : Nat) (a0 : ByteArray) : D1 (Am0 k) A58 k 128 [C3 .str a0] ms0 = A40 k a0 := by rw [D51, show Af2 k k = Y1 k k from (Cg5 k k)] <;> rfl
noncomputable def B67 (k : Nat) : Spec := .imm .str fun (a0 : ByteArray) => .body (A40 k a0) (D7 [(.slice 3 (.int .i64)), .bool] [.o])
noncomputable def Bx2 (k : Nat) : Cfg := { eqs := [], tab := [(3, (.int .i64)), (9, .str), (85, C2)], spec := [(55, I5 k), (128, B67 k)], mspec := [], inl := [(141, Tryz.f141)], keep := [], join := [], hold := [], ptrs := [], maps := [], fuel := k }
noncomputable def Dk0 : VV → Ms → Option Bool := H0 [.bool] []
theorem Ek6 (k : Nat) (a0 : A9) : D1 (Bx2 k) Dk0 k 141 [C3 C2 a0] ms0 = A22 k a0 := by kernel_rfl
noncomputable def Bm4 (k : Nat) : Spec := .imm C2 fun (a0 : A9) => .body (A22 k a0) (D7 [.bool] [])
noncomputable def Bg2 (k : Nat) : Cfg := { eqs := [], tab := [(3, (.int .i64)), (27, (.slice 85 C2)), (29, E9), (85, C2)], spec := [(55, I5 k), (141, Bm4 k)], mspec := [], inl := [(104, Tryz.f104)], keep := [(10400001005, [1, 3, 4])], join := [], hold := [], ptrs := [], maps := [], fuel := k }
noncomputable def Bx3 : VV → Ms → Option Bool := H0 [.bool] []
noncomputable def A59 (k n : Nat) (v1 : Int) (v2 : Int) (a0 : C4) : Option Bool := w7 (Bg2 k) Bx3 n true 10400001005 (cd [1, 1, 1, 0, 1, 0, 0] (bo Tryz.f104)) [.b 0, .s (cd [1, 1, 1, 1] (bo Tryz.f104)), .fn Tryz.f104] ⟨⟨(P4 62 0 [(1, one (.ptr 9000000 0)), (3, one (.int .i64 v1)), (4, one (.int .i64 v2))]), [(9000000, .box [.int .i64 a0.1, .int .i64 a0.2.1, .slc 85 C2 a0.2.2.1])]⟩, 10400001000, 1, [(0, (P4 0 0 []))]⟩
theorem E73 (k n : Nat) (v1 : Int) (v2 : Int) (a0 : C4) : A59 k (n + 1) v1 v2 a0 = Bk0 k (A59 k n) v1 v2 a0 := by kernel_rfl
theorem Dx2 (k : Nat) : ∀ n : Nat, A59 k n = w9 k n
 | 0 => (by funext v1 v2 a0; rfl)
 | n + 1 => by
  obtain h0 := Dx2 k n
  exact (by funext v1 v2 a0; rw [E73, h0] <;> rfl)
theorem Fr3 (k : Nat) (a0 : C4) : D1 (Bg2 k) Bx3 k 104 [C3 E9 a0] ms0 = Dv0 k (A59 k k) a0 := by kernel_rfl
theorem Fr4 (k : Nat) (a0 : C4) : D1 (Bg2 k) Bx3 k 104 [C3 E9 a0] ms0 = Az8 k a0 := by rw [Fr3, show A59 k k = w9 k k from (Dx2 k k)] <;> rfl
noncomputable def A60 (k : Nat) : Spec := .imm E9 fun (a0 : C4) => .body (Az8 k a0) (D7 [.bool] [])
noncomputable def Bb3 (k : Nat) : Cfg := { eqs := [], tab := [(3, (.int .i64)), (5, (.int .u8)), (9, .str), (22, (.slice 5 (.int .u8))), (85, C2)], spec := [(55, I5 k), (109, T0 k), (141, Bm4 k)], mspec := [], inl := [(110, Tryz.f110)], keep := [], join := [], hold := [], ptrs := [], maps := [], fuel := k }
noncomputable def Cx5 : VV → Ms → Option (ByteArray × Bool) := H0 [.str, .bool] []
theorem Dk1 (k : Nat) (a0 : Int) (a1 : A9) : D1 (Bb3 k) Cx5 k 110 [C3 (.int .i64) a0, C3 C2 a1] ms0 = i8 k a0 a1 := by kernel_rfl
noncomputable def A61 (k : Nat) : Spec := .imm (.int .i64) fun (a0 : Int) => .imm C2 fun (a1 : A9) => .body (i8 k a0 a1) (D7 [.str, .bool] [])
noncomputable def Bb4 (k : Nat) : Cfg := { eqs := [], tab := [(3, (.int .i64)), (4, .bool), (5, (.int .u8)), (9, .str), (85, C2), (176, G8)], spec := [(110, A61 k)], mspec := [(127, Bw8 k), (140, Bm3 k)], inl := [(142, Tryz.f142)], keep := [], join := [], hold := [], ptrs := [], maps := [], fuel := k }
noncomputable def Cx6 : VV → Ms → Option (Int × A9 × Bool) := H0 [(.int .i64), C2, .bool] []
theorem Dk2 (k : Nat) (a0 : ByteArray) : D1 (Bb4 k) Cx6 k 142 [C3 .str a0] ms0 = Au1 k a0 := by kernel_rfl
noncomputable def Bx4 (k : Nat) : Spec := .imm .str fun (a0 : ByteArray) => .body (Au1 k a0) (D7 [(.int .i64), C2, .bool] [])
noncomputable def Bx5 (k : Nat) : Cfg := { eqs := [], tab := [(3, (.int .i64)), (27, (.slice 85 C2)), (29, E9)], spec := [], mspec := [], inl := [(162, Tryz.f162)], keep := [], join := [], hold := [], ptrs := [], maps := [], fuel := k }
noncomputable def Dk3 : VV → Ms → Option Int := H0 [(.int .i64)] []
theorem Ek7 (k : Nat) (a0 : C4) : D1 (Bx5 k) Dk3 k 162 [C3 E9 a0] ms0 = Ab1 k a0 := by kernel_rfl
noncomputable def A07 (k : Nat) : Spec := .imm E9 fun (a0 : C4) => .body (Ab1 k a0) (D7 [(.int .i64)] [])
noncomputable def Ca8 (k : Nat) : Cfg := { eqs := [], tab := [(3, (.int .i64)), (27, (.slice 85 C2)), (29, E9), (85, C2)], spec := [(55, I5 k), (104, A60 k), (162, A07 k)], mspec := [], inl := [(143, Tryz.f143)], keep := [], join := [], hold := [], ptrs := [], maps := [], fuel := k }
noncomputable def D53 : VV → Ms → Option (C4 × Bool) := H0 [E9, .bool] [.o]
theorem E74 (k : Nat) (a0 : C4) (a1 : Int) (a2 : A9) : D1 (Ca8 k) D53 k 143 [C3 E9 a0, C3 (.int .i64) a1, C3 C2 a2] ms0 = Bu0 k a0 a1 a2 := by kernel_rfl
noncomputable def Cu1 (k : Nat) : Spec := .imm E9 fun (a0 : C4) => .imm (.int .i64) fun (a1 : Int) => .imm C2 fun (a2 : A9) => .body (Bu0 k a0 a1 a2) (D7 [E9, .bool] [.o])
noncomputable def Bx6 (k : Nat) : Cfg := { eqs := [], tab := [(3, (.int .i64)), (29, E9), (31, A5), (85, C2)], spec := [(55, I5 k), (103, Bx0 k), (142, Bx4 k), (143, Cu1 k)], mspec := [], inl := [(105, Tryz.f105)], keep := [], join := [], hold := [], ptrs := [], maps := [], fuel := k }
noncomputable def Dk4 : VV → Ms → Option (Bool × A0 × Unit) := A78 [.bool] [] [.box A5, .imm .str]
theorem Ek8 (k : Nat) (a0 : A0) (a1 : ByteArray) : D1 (Bx6 k) Dk4 k 105 (N1 1 [.box A5, .imm .str] (a0, a1, ())) (ms1 [.box A5, .imm .str] (a0, a1, ())) = Ab2 k a0 a1 := by kernel_rfl
noncomputable def Cg6 (k : Nat) : MSpec := .box A5 fun (a0 : A0) => .imm .str fun (a1 : ByteArray) => .body (Ab2 k a0 a1) (fun r => D7 [.bool] [] r.1) (fun r => poV [.box A5, .imm .str] r.2)
noncomputable def X2 (k : Nat) : Cfg := { eqs := [], tab := [(9, .str), (29, E9), (31, A5), (75, (.slice 9 .str))], spec := [(55, I5 k), (102, Cg3 k), (103, Bx0 k), (104, A60 k), (106, Ar3 k)], mspec := [(105, Cg6 k)], inl := [(52, Tryz.f52)], keep := [(5200001010, [4, 7, 12, 13, 14])], join := [], hold := [], ptrs := [], maps := [], fuel := k }
noncomputable def t8 : VV → Ms → Option (A0 × Int × Bool) := H0 [A5, (.int .i64), .bool] [.s]
noncomputable def Ad0 (k n : Nat) (v3 : Int) (v4 : Int) (r1 : List ByteArray × Int) (v5 : Int) (v6 : Int) (v7 : Int) (v8 : Int) (v9 : Int) (v10 : List A9) : Option (A0 × Int × Bool) := w7 (X2 k) t8 n true 5200001010 (cd [1, 1, 1, 1, 1, 1, 1, 0, 1, 0, 0] (bo Tryz.f52)) [.b 0, .s (cd [1, 1, 1, 1, 1, 1, 1, 1] (bo Tryz.f52)), .fn Tryz.f52] ⟨⟨(P4 85 0 [(4, one (.ptr 9000000 0)), (7, one (.row 9000001 none none)), (12, one (.ptr 9000002 0)), (13, one (.int .i64 v3)), (14, one (.int .i64 v4))]), [(9000000, .box [.int .i64 0, .int .i64 0, .int .i64 0, .int .i64 0, .int .i64 0, .nilS]), (9000001, .row 9 .str r1.1 true), (9000002, .box [.int .i64 v5, .int .i64 v6, .int .i64 v7, .int .i64 v8, .int .i64 v9, .slc 85 C2 v10])]⟩, 5200001000, 1, [(0, (P4 0 0 []))]⟩
noncomputable def b8 (k n : Nat) (v1 : Int) (v2 : Int) (r1 : List ByteArray × Int) (a0 : Int) (r3 : Int × Int × Bool) : Option (A0 × Int × Bool) := w7 (X2 k) t8 n true 5200001010 (cd [1, 1, 1, 1, 1, 1, 1, 0, 1, 0, 0] (bo Tryz.f52)) [.b 0, .s (cd [1, 1, 1, 1, 1, 1, 1, 1] (bo Tryz.f52)), .fn Tryz.f52] ⟨⟨(P4 85 0 [(4, one (.ptr 9000000 0)), (7, one (.row 9000001 none none)), (12, one (.ptr 9000002 0)), (13, one (.int .i64 v1)), (14, one (.int .i64 v2))]), [(9000000, .box [.int .i64 0, .int .i64 0, .int .i64 0, .int .i64 0, .int .i64 0, .nilS]), (9000001, .row 9 .str r1.1 true), (9000002, .box [.int .i64 a0, .int .i64 0, .int .i64 0, .int .i64 r3.1, .int .i64 r3.2.1, .nilS])]⟩, 5200001000, 1, [(0, (P4 0 0 []))]⟩
theorem Cn1 (k n : Nat) (v3 : Int) (v4 : Int) (r1 : List ByteArray × Int) (v5 : Int) (v6 : Int) (v7 : Int) (v8 : Int) (v9 : Int) (v10 : List A9) : Ad0 k (n + 1) v3 v4 r1 v5 v6 v7 v8 v9 v10 = Ap9 k (Ad0 k n) v3 v4 r1 v5 v6 v7 v8 v9 v10 := by kernel_rfl
theorem Cn2 (k n : Nat) (v1 : Int) (v2 : Int) (r1 : List ByteArray × Int) (a0 : Int) (r3 : Int × Int × Bool) : b8 k (n + 1) v1 v2 r1 a0 r3 = Ab3 k (Ad0 k n) (b8 k n) v1 v2 r1 a0 r3 := by kernel_rfl
theorem Bp4 (k : Nat) : ∀ n : Nat, Ad0 k n = V5 k n ∧ b8 k n = J6 k n
 | 0 => ⟨(by funext v3 v4 r1 v5 v6 v7 v8 v9 v10; rfl), (by funext v1 v2 r1 a0 r3; rfl)⟩
 | n + 1 => by
  obtain ⟨h1, h0⟩ := Bp4 k n
  exact ⟨(by funext v3 v4 r1 v5 v6 v7 v8 v9 v10; rw [Cn1, h1] <;> rfl), (by funext v1 v2 r1 a0 r3; rw [Cn2, h1, h0] <;> rfl)⟩
theorem Cx7 (k : Nat) (a0 : Int) (a1 : ByteArray) : D1 (X2 k) t8 k 52 [C3 (.int .i64) a0, C3 .str a1] ms0 = Bo9 k (b8 k k) a0 a1 := by kernel_rfl
theorem Cx8 (k : Nat) (a0 : Int) (a1 : ByteArray) : D1 (X2 k) t8 k 52 [C3 (.int .i64) a0, C3 .str a1] ms0 = p7 k a0 a1 := by rw [Cx7, show b8 k k = J6 k k from (Bp4 k k).2] <;> rfl
noncomputable def Bg3 (k : Nat) : Spec := .imm (.int .i64) fun (a0 : Int) => .imm .str fun (a1 : ByteArray) => .body (p7 k a0 a1) (D7 [A5, (.int .i64), .bool] [.s])
noncomputable def Bx7 (k : Nat) : Cfg := { eqs := [], tab := [(9, .str)], spec := [(55, I5 k)], mspec := [], inl := [(107, Tryz.f107)], keep := [], join := [], hold := [], ptrs := [], maps := [], fuel := k }
noncomputable def Dk5 : VV → Ms → Option Bool := H0 [.bool] []
theorem Ek9 (k : Nat) (a0 : ByteArray) : D1 (Bx7 k) Dk5 k 107 [C3 .str a0] ms0 = T3 k a0 := by kernel_rfl
noncomputable def Bm5 (k : Nat) : Spec := .imm .str fun (a0 : ByteArray) => .body (T3 k a0) (D7 [.bool] [])
noncomputable def A62 (k : Nat) : Cfg := { eqs := [], tab := [(3, (.int .i64)), (9, .str), (24, (.slice 99 J0)), (26, D9), (99, J0)], spec := [(55, I5 k), (107, Bm5 k)], mspec := [], inl := [(53, Tryz.f53)], keep := [(5300001004, [1, 3])], join := [], hold := [], ptrs := [], maps := [], fuel := k }
noncomputable def Bm6 : VV → Ms → Option Bool := H0 [.bool] []
noncomputable def Av2 (k n : Nat) (v1 : Int) (a0 : B4) : Option Bool := w7 (A62 k) Bm6 n true 5300001004 (cd [1, 1, 0, 1, 0, 0] (bo Tryz.f53)) [.b 0, .s (cd [1, 1, 1] (bo Tryz.f53)), .fn Tryz.f53] ⟨⟨(P4 56 0 [(1, one (.ptr 9000000 0)), (3, one (.int .i64 v1))]), [(9000000, .box [.slc 99 J0 a0.1])]⟩, 5300001000, 1, [(0, (P4 0 0 []))]⟩
theorem El0 (k n : Nat) (v1 : Int) (a0 : B4) : Av2 k (n + 1) v1 a0 = A85 k (Av2 k n) v1 a0 := by kernel_rfl
theorem Dc8 (k : Nat) : ∀ n : Nat, Av2 k n = j0 k n
 | 0 => (by funext v1 a0; rfl)
 | n + 1 => by
  obtain h0 := Dc8 k n
  exact (by funext v1 a0; rw [El0, h0] <;> rfl)
theorem E75 (k : Nat) (a0 : B4) : D1 (A62 k) Bm6 k 53 [C3 D9 a0] ms0 = C89 k (Av2 k k) a0 := by kernel_rfl
theorem E76 (k : Nat) (a0 : B4) : D1 (A62 k) Bm6 k 53 [C3 D9 a0] ms0 = F9 k a0 := by rw [E75, show Av2 k k = j0 k k from (Dc8 k k)] <;> rfl
noncomputable def A98 (k : Nat) : Spec := .imm D9 fun (a0 : B4) => .body (F9 k a0) (D7 [.bool] [])
noncomputable def Bb5 (k : Nat) : Cfg := { eqs := [], tab := [(3, (.int .i64)), (29, E9), (31, A5)], spec := [(55, I5 k), (104, A60 k)], mspec := [], inl := [(54, Tryz.f54)], keep := [], join := [], hold := [], ptrs := [], maps := [], fuel := k }
noncomputable def Cx9 : VV → Ms → Option Bool := H0 [.bool] []
theorem Dk6 (k : Nat) (a0 : A0) : D1 (Bb5 k) Cx9 k 54 [C3 A5 a0] ms0 = x9 k a0 := by kernel_rfl
noncomputable def A63 (k : Nat) : Spec := .imm A5 fun (a0 : A0) => .body (x9 k a0) (D7 [.bool] [])
noncomputable def Av3 (k : Nat) : Cfg := { eqs := [85], tab := [(3, (.int .i64)), (27, (.slice 85 C2)), (29, E9), (85, C2)], spec := [], mspec := [], inl := [(108, Tryz.f108)], keep := [(10800001004, [2, 3, 5])], join := [], hold := [], ptrs := [], maps := [], fuel := k }
noncomputable def Bb6 : VV → Ms → Option Bool := H0 [.bool] []
noncomputable def Am1 (k n : Nat) (v1 : Int) (a0 : C4) (a1 : C4) : Option Bool := w7 (Av3 k) Bb6 n true 10800001004 (cd [1, 1, 0, 1, 0, 0] (bo Tryz.f108)) [.b 0, .s (cd [1, 1, 1] (bo Tryz.f108)), .fn Tryz.f108] ⟨⟨(P4 45 0 [(2, one (.ptr 9000000 0)), (3, one (.ptr 9000001 0)), (5, one (.int .i64 v1))]), [(9000000, .box [.int .i64 a0.1, .int .i64 a0.2.1, .slc 85 C2 a0.2.2.1]), (9000001, .box [.int .i64 a1.1, .int .i64 a1.2.1, .slc 85 C2 a1.2.2.1])]⟩, 10800001000, 1, [(0, (P4 0 0 []))]⟩
theorem D54 (k n : Nat) (v1 : Int) (a0 : C4) (a1 : C4) : Am1 k (n + 1) v1 a0 a1 = Az9 k (Am1 k n) v1 a0 a1 := by kernel_rfl
theorem Cu2 (k : Nat) : ∀ n : Nat, Am1 k n = j8 k n
 | 0 => (by funext v1 a0 a1; rfl)
 | n + 1 => by
  obtain h0 := Cu2 k n
  exact (by funext v1 a0 a1; rw [D54, h0] <;> rfl)
theorem El1 (k : Nat) (a0 : C4) (a1 : C4) : D1 (Av3 k) Bb6 k 108 [C3 E9 a0, C3 E9 a1] ms0 = Cr4 k (Am1 k k) a0 a1 := by kernel_rfl
theorem El2 (k : Nat) (a0 : C4) (a1 : C4) : D1 (Av3 k) Bb6 k 108 [C3 E9 a0, C3 E9 a1] ms0 = Be6 k a0 a1 := by rw [El1, show Am1 k k = j8 k k from (Cu2 k k)] <;> rfl
noncomputable def Cg7 (k : Nat) : Spec := .imm E9 fun (a0 : C4) => .imm E9 fun (a1 : C4) => .body (Be6 k a0 a1) (D7 [.bool] [])
noncomputable def Bx8 (k : Nat) : Cfg := { eqs := [], tab := [(3, (.int .i64)), (29, E9), (31, A5)], spec := [(108, Cg7 k)], mspec := [], inl := [(56, Tryz.f56)], keep := [], join := [], hold := [], ptrs := [], maps := [], fuel := k }
noncomputable def Dk7 : VV → Ms → Option Bool := H0 [.bool] []
theorem El3 (k : Nat) (a0 : A0) (a1 : A0) : D1 (Bx8 k) Dk7 k 56 [C3 A5 a0, C3 A5 a1] ms0 = A23 k a0 a1 := by kernel_rfl
noncomputable def Cg8 (k : Nat) : Spec := .imm A5 fun (a0 : A0) => .imm A5 fun (a1 : A0) => .body (A23 k a0 a1) (D7 [.bool] [])
noncomputable def Bx9 (k : Nat) : Cfg := { eqs := [], tab := [(27, (.slice 85 C2)), (29, E9), (31, A5)], spec := [], mspec := [], inl := [(57, Tryz.f57)], keep := [], join := [], hold := [], ptrs := [], maps := [], fuel := k }
noncomputable def Dk8 : VV → Ms → Option A0 := H0 [A5] [.o]
theorem El4 (k : Nat) (a0 : A0) : D1 (Bx9 k) Dk8 k 57 [C3 A5 a0] ms0 = Ai1 k a0 := by kernel_rfl
noncomputable def A08 (k : Nat) : Spec := .imm A5 fun (a0 : A0) => .body (Ai1 k a0) (D7 [A5] [.o])
noncomputable def By0 (k : Nat) : Cfg := { eqs := [], tab := [], spec := [(106, Ar3 k), (109, T0 k)], mspec := [], inl := [(59, Tryz.f59)], keep := [], join := [], hold := [], ptrs := [], maps := [], fuel := k }
noncomputable def Dk9 : VV → Ms → Option ByteArray := H0 [.str] []
theorem El5 (k : Nat) (a0 : Int) (a1 : Int) : D1 (By0 k) Dk9 k 59 [C3 (.int .i64) a0, C3 (.int .i64) a1] ms0 = L9 k a0 a1 := by kernel_rfl
noncomputable def Bm7 (k : Nat) : Spec := .imm (.int .i64) fun (a0 : Int) => .imm (.int .i64) fun (a1 : Int) => .body (L9 k a0 a1) (D7 [.str] [])
noncomputable def Af3 (k : Nat) : Cfg := { eqs := [], tab := [(3, (.int .i64)), (9, .str), (22, (.slice 5 (.int .u8))), (27, (.slice 85 C2)), (29, E9), (85, C2)], spec := [(106, Ar3 k), (110, A61 k)], mspec := [], inl := [(60, Tryz.f60)], keep := [(6000001003, [2, 5, 6])], join := [], hold := [], ptrs := [], maps := [], fuel := k }
noncomputable def Ax6 : VV → Ms → Option ByteArray := H0 [.str] []
noncomputable def Aa4 (k n : Nat) (a1 : Int) (a0 : C4) (xs1 : List Int) : Option ByteArray := w7 (Af3 k) Ax6 n true 6000001003 (cd [1, 1, 0, 1, 0, 0] (bo Tryz.f60)) [.b 0, .s (cd [1, 1, 1] (bo Tryz.f60)), .fn Tryz.f60] ⟨⟨(P4 45 0 [(2, one (.ptr 9000000 0)), (5, one (.row 9000001 none none)), (6, one (.int .i64 a1))]), [(9000000, .box [.int .i64 a0.1, .int .i64 a0.2.1, .slc 85 C2 a0.2.2.1]), (9000001, .row 5 (.int .u8) xs1 true)]⟩, 6000001000, 1, [(0, (P4 0 0 []))]⟩
theorem Dc9 (k n : Nat) (a1 : Int) (a0 : C4) (xs1 : List Int) : Aa4 k (n + 1) a1 a0 xs1 = Ak5 k (Aa4 k n) a1 a0 xs1 := by kernel_rfl
theorem B68 (k : Nat) : ∀ n : Nat, Aa4 k n = V9 k n
 | 0 => (by funext a1 a0 xs1; rfl)
 | n + 1 => by
  obtain h0 := B68 k n
  exact (by funext a1 a0 xs1; rw [Dc9, h0] <;> rfl)
theorem Dl0 (k : Nat) (a0 : C4) (a1 : Int) : D1 (Af3 k) Ax6 k 60 [C3 E9 a0, C3 (.int .i64) a1] ms0 = B62 k (Aa4 k k) a0 a1 := by kernel_rfl
theorem Dl1 (k : Nat) (a0 : C4) (a1 : Int) : D1 (Af3 k) Ax6 k 60 [C3 E9 a0, C3 (.int .i64) a1] ms0 = F6 k a0 a1 := by rw [Dl0, show Aa4 k k = V9 k k from (B68 k k)] <;> rfl
noncomputable def A64 (k : Nat) : Spec := .imm E9 fun (a0 : C4) => .imm (.int .i64) fun (a1 : Int) => .body (F6 k a0 a1) (D7 [.str] [])
noncomputable def Ax7 (k : Nat) : Cfg := { eqs := [], tab := [(3, (.int .i64)), (9, .str), (29, E9), (31, A5)], spec := [(54, A63 k), (59, Bm7 k), (60, A64 k), (106, Ar3 k), (109, T0 k)], mspec := [], inl := [(84, Tryz.f84)], keep := [], join := [], hold := [], ptrs := [], maps := [], fuel := k }
noncomputable def Cg9 : VV → Ms → Option (ByteArray × Bool) := H0 [.str, .bool] []
theorem Cy0 (k : Nat) (a0 : A0) : D1 (Ax7 k) Cg9 k 84 [C3 A5 a0] ms0 = p8 k a0 := by kernel_rfl
noncomputable def Ar4 (k : Nat) : Spec := .imm A5 fun (a0 : A0) => .body (p8 k a0) (D7 [.str, .bool] [])
noncomputable def By1 (k : Nat) : Cfg := { eqs := [], tab := [(3, (.int .i64)), (29, E9), (31, A5), (40, (.slice 93 b7)), (93, b7)], spec := [(50, Ac9 k), (57, A08 k), (84, Ar4 k)], mspec := [], inl := [(58, Tryz.f58)], keep := [], join := [], hold := [], ptrs := [], maps := [], fuel := k }
noncomputable def Dl2 : VV → Ms → Option (List E8 × A0 × Bool) := H0 [(.slice 93 b7), A5, .bool] [.o, .o]
theorem El6 (k : Nat) (a0 : A0) (a1 : A0) : D1 (By1 k) Dl2 k 58 [C3 A5 a0, C3 A5 a1] ms0 = H4 k a0 a1 := by kernel_rfl
noncomputable def Ch0 (k : Nat) : Spec := .imm A5 fun (a0 : A0) => .imm A5 fun (a1 : A0) => .body (H4 k a0 a1) (D7 [(.slice 93 b7), A5, .bool] [.o, .o])
noncomputable def n8 (k : Nat) : Cfg := { eqs := [85], tab := [(3, (.int .i64)), (9, .str), (26, D9), (27, (.slice 85 C2)), (29, E9), (31, A5), (40, (.slice 93 b7)), (85, C2), (93, b7)], spec := [(50, Ac9 k), (51, Ct6 k), (52, Bg3 k), (53, A98 k), (54, A63 k), (55, I5 k), (56, Cg8 k), (57, A08 k), (58, Ch0 k), (59, Bm7 k), (60, A64 k)], mspec := [], inl := [(14, Tryz.f14)], keep := [(1400001012, [4, 5, 7, 10, 11, 18, 19])], join := [], hold := [], ptrs := [], maps := [], fuel := k }
noncomputable def Am2 : VV → Ms → Option (List E8 × A0 × Bool) := H0 [(.slice 93 b7), A5, .bool] [.o, .o]
noncomputable def b9 (k n : Nat) (r1 : ByteArray) (r2 : ByteArray × Bool) (v1 : Int) (a1 : A0) (a2 : A0) (r10 : A0) : Option (List E8 × A0 × Bool) := w7 (n8 k) Am2 n true 1400001012 (cd [1, 1, 1, 1, 1, 1, 1, 1, 1, 1, 0, 0, 0] (bo Tryz.f14)) [.b 0, .s (cd [1, 1, 1, 1, 1, 1, 1, 1, 1, 1, 1] (bo Tryz.f14)), .fn Tryz.f14] ⟨⟨(P4 215 0 [(4, one (.ptr 9000000 0)), (5, one (.ptr 9000001 0)), (7, one (.ptr 9000002 0)), (10, one (.str r1)), (11, one (.str r2.1)), (18, one (.ptr 9000003 0)), (19, one (.int .i64 v1))]), [(9000000, .box [.int .i64 a1.1, .int .i64 a1.2.1, .int .i64 a1.2.2.1, .int .i64 a1.2.2.2.1.1, .int .i64 a1.2.2.2.1.2.1, .slc 85 C2 a1.2.2.2.1.2.2.1]), (9000001, .box [.int .i64 a2.1, .int .i64 a2.2.1, .int .i64 a2.2.2.1, .int .i64 a2.2.2.2.1.1, .int .i64 a2.2.2.2.1.2.1, .slc 85 C2 a2.2.2.2.1.2.2.1]), (9000002, .box [.int .i64 0, .int .i64 0, .int .i64 0, .int .i64 0, .int .i64 0, .nilS]), (9000003, .box [.int .i64 r10.1, .int .i64 r10.2.1, .int .i64 r10.2.2.1, .int .i64 r10.2.2.2.1.1, .int .i64 r10.2.2.2.1.2.1, .row 9000004 none none]), (9000004, .row 85 C2 r10.2.2.2.1.2.2.1 true)]⟩, 1400001000, 1, [(0, (P4 0 0 []))]⟩
theorem Cn3 (k n : Nat) (r1 : ByteArray) (r2 : ByteArray × Bool) (v1 : Int) (a1 : A0) (a2 : A0) (r10 : A0) : b9 k (n + 1) r1 r2 v1 a1 a2 r10 = Aq0 k (b9 k n) r1 r2 v1 a1 a2 r10 := by kernel_rfl
theorem Bp5 (k : Nat) : ∀ n : Nat, b9 k n = Q1 k n
 | 0 => (by funext r1 r2 v1 a1 a2 r10; rfl)
 | n + 1 => by
  obtain h0 := Bp5 k n
  exact (by funext r1 r2 v1 a1 a2 r10; rw [Cn3, h0] <;> rfl)
theorem Cy1 (k : Nat) (a0 : B4) (a1 : A0) (a2 : A0) : D1 (n8 k) Am2 k 14 [C3 D9 a0, C3 A5 a1, C3 A5 a2] ms0 = Ax0 k (b9 k k) a0 a1 a2 := by kernel_rfl
theorem Cy2 (k : Nat) (a0 : B4) (a1 : A0) (a2 : A0) : D1 (n8 k) Am2 k 14 [C3 D9 a0, C3 A5 a1, C3 A5 a2] ms0 = U9 k a0 a1 a2 := by rw [Cy1, show b9 k k = Q1 k k from (Bp5 k k)] <;> rfl
noncomputable def Ar5 (k : Nat) : Spec := .imm D9 fun (a0 : B4) => .imm A5 fun (a1 : A0) => .imm A5 fun (a2 : A0) => .body (U9 k a0 a1 a2) (D7 [(.slice 93 b7), A5, .bool] [.o, .o])
noncomputable def Ar6 (k : Nat) : Cfg := { eqs := [], tab := [(9, .str), (24, (.slice 99 J0)), (26, D9), (99, J0)], spec := [], mspec := [], inl := [(72, Tryz.f72)], keep := [(7200001003, [2, 3, 4, 5, 6]), (7200001009, [2, 3, 4, 5, 7])], join := [], hold := [(7200001003, [(5, [0, 0], 99, J0, false, false)])], ptrs := [], maps := [], fuel := k }
noncomputable def A09 : VV → Ms → Option B4 := H0 [D9] [.o]
noncomputable def A99 (k n : Nat) (v3 : Int) (a0 : B4) (a1 : C7) (xs4 : List C7) : Option B4 := w7 (Ar6 k) A09 n true 7200001009 (cd [1, 1, 1, 1, 0, 1, 0, 0] (bo Tryz.f72)) [.b 2, .s (cd [1, 1, 1, 1, 1] (bo Tryz.f72)), .fn Tryz.f72] ⟨⟨(P4 68 0 [(2, one (.ptr 9000000 0)), (3, one (.ptr 9000001 0)), (4, one (.ptr 9000002 0)), (5, one (.ptr 9000003 0)), (7, one (.int .i64 v3))]), [(9000000, .box [.slc 99 J0 a0.1]), (9000001, .box [.str a1.1, .str a1.2.1, .int .i64 a1.2.2.1]), (9000002, .box [.nilS]), (9000003, .box [.row 9000004 none none]), (9000004, .row 99 J0 xs4 true)]⟩, 7200001000, 1, [(0, (P4 0 0 []))]⟩
noncomputable def Av4 (k n : Nat) (v1 : Int) (a0 : B4) (a1 : C7) (xs2 : List C7) : Option B4 := w7 (Ar6 k) A09 n true 7200001003 (cd [1, 1, 0, 1, 0, 0] (bo Tryz.f72)) [.b 0, .s (cd [1, 1, 1] (bo Tryz.f72)), .fn Tryz.f72] ⟨⟨(P4 68 0 [(2, one (.ptr 9000000 0)), (3, one (.ptr 9000001 0)), (4, one (.ptr 9000002 0)), (5, one (.ptr 9000003 0)), (6, one (.int .i64 v1))]), [(9000000, .box [.slc 99 J0 a0.1]), (9000001, .box [.str a1.1, .str a1.2.1, .int .i64 a1.2.2.1]), (9000002, .box [.nilS]), (9000003, .box [.row 9000004 none none]), (9000004, .row 99 J0 xs2 true)]⟩, 7200001000, 1, [(0, (P4 0 0 []))]⟩
theorem El7 (k n : Nat) (v3 : Int) (a0 : B4) (a1 : C7) (xs4 : List C7) : A99 k (n + 1) v3 a0 a1 xs4 = A86 k (A99 k n) v3 a0 a1 xs4 := by kernel_rfl
theorem El8 (k n : Nat) (v1 : Int) (a0 : B4) (a1 : C7) (xs2 : List C7) : Av4 k (n + 1) v1 a0 a1 xs2 = A87 k (Av4 k n) (A99 k n) v1 a0 a1 xs2 := by kernel_rfl
theorem Dd0 (k : Nat) : ∀ n : Nat, A99 k n = Ai2 k n ∧ Av4 k n = y0 k n
 | 0 => ⟨(by funext v3 a0 a1 xs4; rfl), (by funext v1 a0 a1 xs2; rfl)⟩
 | n + 1 => by
  obtain ⟨h1, h0⟩ := Dd0 k n
  exact ⟨(by funext v3 a0 a1 xs4; rw [El7, h1] <;> rfl), (by funext v1 a0 a1 xs2; rw [El8, h0, h1] <;> rfl)⟩
theorem E77 (k : Nat) (a0 : B4) (a1 : C7) : D1 (Ar6 k) A09 k 72 [C3 D9 a0, C3 J0 a1] ms0 = C90 k (Av4 k k) a0 a1 := by kernel_rfl
theorem E78 (k : Nat) (a0 : B4) (a1 : C7) : D1 (Ar6 k) A09 k 72 [C3 D9 a0, C3 J0 a1] ms0 = I3 k a0 a1 := by rw [E77, show Av4 k k = y0 k k from (Dd0 k k).2] <;> rfl
noncomputable def Cu3 (k : Nat) : Spec := .imm D9 fun (a0 : B4) => .imm J0 fun (a1 : C7) => .body (I3 k a0 a1) (D7 [D9] [.o])
noncomputable def Aa5 (k : Nat) : Cfg := { eqs := [], tab := [(9, .str), (24, (.slice 99 J0)), (26, D9), (99, J0)], spec := [], mspec := [], inl := [(111, Tryz.f111)], keep := [(11100001003, [1, 2, 4, 5, 6])], join := [], hold := [(11100001003, [(5, [0, 0], 99, J0, false, false)])], ptrs := [], maps := [], fuel := k }
noncomputable def Ar7 : VV → Ms → Option B4 := H0 [D9] [.o]
noncomputable def n9 (k n : Nat) (a1 : ByteArray) (v1 : Int) (a0 : B4) (xs2 : List C7) : Option B4 := w7 (Aa5 k) Ar7 n true 11100001003 (cd [1, 1, 0, 1, 0, 0] (bo Tryz.f111)) [.b 0, .s (cd [1, 1, 1] (bo Tryz.f111)), .fn Tryz.f111] ⟨⟨(P4 34 0 [(1, one (.str a1)), (2, one (.ptr 9000000 0)), (4, one (.ptr 9000001 0)), (5, one (.ptr 9000002 0)), (6, one (.int .i64 v1))]), [(9000000, .box [.slc 99 J0 a0.1]), (9000001, .box [.nilS]), (9000002, .box [.row 9000003 none none]), (9000003, .row 99 J0 xs2 true)]⟩, 11100001000, 1, [(0, (P4 0 0 []))]⟩
theorem Cy3 (k n : Nat) (a1 : ByteArray) (v1 : Int) (a0 : B4) (xs2 : List C7) : n9 k (n + 1) a1 v1 a0 xs2 = Ag4 k (n9 k n) a1 v1 a0 xs2 := by kernel_rfl
theorem By2 (k : Nat) : ∀ n : Nat, n9 k n = T8 k n
 | 0 => (by funext a1 v1 a0 xs2; rfl)
 | n + 1 => by
  obtain h0 := By2 k n
  exact (by funext a1 v1 a0 xs2; rw [Cy3, h0] <;> rfl)
theorem Dd1 (k : Nat) (a0 : B4) (a1 : ByteArray) : D1 (Aa5 k) Ar7 k 111 [C3 D9 a0, C3 .str a1] ms0 = Bu1 k (n9 k k) a0 a1 := by kernel_rfl
theorem Dd2 (k : Nat) (a0 : B4) (a1 : ByteArray) : D1 (Aa5 k) Ar7 k 111 [C3 D9 a0, C3 .str a1] ms0 = G7 k a0 a1 := by rw [Dd1, show n9 k k = T8 k k from (By2 k k)] <;> rfl
noncomputable def Bp6 (k : Nat) : Spec := .imm D9 fun (a0 : B4) => .imm .str fun (a1 : ByteArray) => .body (G7 k a0 a1) (D7 [D9] [.o])
noncomputable def Cn4 (k : Nat) : Cfg := { eqs := [], tab := [(3, (.int .i64)), (9, .str), (24, (.slice 99 J0)), (26, D9), (93, b7), (99, J0)], spec := [(53, A98 k), (72, Cu3 k), (101, Ca3 k), (107, Bm5 k), (111, Bp6 k)], mspec := [], inl := [(61, Tryz.f61)], keep := [], join := [], hold := [], ptrs := [], maps := [], fuel := k }
noncomputable def El9 : VV → Ms → Option (B4 × Bool) := H0 [D9, .bool] [.o]
theorem Fr5 (k : Nat) (a0 : B4) (a1 : E8) : D1 (Cn4 k) El9 k 61 [C3 D9 a0, C3 b7 a1] ms0 = Z0 k a0 a1 := by kernel_rfl
noncomputable def Dd3 (k : Nat) : Spec := .imm D9 fun (a0 : B4) => .imm b7 fun (a1 : E8) => .body (Z0 k a0 a1) (D7 [D9, .bool] [.o])
noncomputable def A65 (k : Nat) : Cfg := { eqs := [], tab := [(24, (.slice 99 J0)), (26, D9), (40, (.slice 93 b7)), (93, b7)], spec := [(61, Dd3 k)], mspec := [], inl := [(15, Tryz.f15)], keep := [(1500001003, [1, 4, 6, 7])], join := [], hold := [], ptrs := [], maps := [], fuel := k }
noncomputable def Bm8 : VV → Ms → Option (B4 × Int) := H0 [D9, (.int .i64)] [.o]
noncomputable def Av5 (k n : Nat) (a1 : List E8) (v1 : Int) (xs2 : List C7) : Option (B4 × Int) := w7 (A65 k) Bm8 n true 1500001003 (cd [1, 1, 0, 1, 0, 0] (bo Tryz.f15)) [.b 0, .s (cd [1, 1, 1] (bo Tryz.f15)), .fn Tryz.f15] ⟨⟨(P4 38 0 [(1, one (.slc 93 b7 a1)), (4, one (.ptr 9000000 0)), (6, one (.ptr 9000001 0)), (7, one (.int .i64 v1))]), [(9000000, .box [.nilS]), (9000001, .box [.row 9000002 none none]), (9000002, .row 99 J0 xs2 true)]⟩, 1500001000, 1, [(0, (P4 0 0 []))]⟩
theorem Em0 (k n : Nat) (a1 : List E8) (v1 : Int) (xs2 : List C7) : Av5 k (n + 1) a1 v1 xs2 = A88 k (Av5 k n) a1 v1 xs2 := by kernel_rfl
theorem Dd4 (k : Nat) : ∀ n : Nat, Av5 k n = j1 k n
 | 0 => (by funext a1 v1 xs2; rfl)
 | n + 1 => by
  obtain h0 := Dd4 k n
  exact (by funext a1 v1 xs2; rw [Em0, h0] <;> rfl)
theorem E79 (k : Nat) (a0 : B4) (a1 : List E8) : D1 (A65 k) Bm8 k 15 [C3 D9 a0, C3 (.slice 93 b7) a1] ms0 = C91 k (Av5 k k) a0 a1 := by kernel_rfl
theorem E80 (k : Nat) (a0 : B4) (a1 : List E8) : D1 (A65 k) Bm8 k 15 [C3 D9 a0, C3 (.slice 93 b7) a1] ms0 = A41 k a0 a1 := by rw [E79, show Av5 k k = j1 k k from (Dd4 k k)] <;> rfl
noncomputable def By3 (k : Nat) : Spec := .imm D9 fun (a0 : B4) => .imm (.slice 93 b7) fun (a1 : List E8) => .body (A41 k a0 a1) (D7 [D9, (.int .i64)] [.o])
noncomputable def By4 (k : Nat) : Cfg := { eqs := [], tab := [(3, (.int .i64)), (5, (.int .u8)), (22, (.slice 5 (.int .u8))), (129, B6)], spec := [], mspec := [], inl := [(64, Tryz.f64)], keep := [], join := [], hold := [], ptrs := [], maps := [], fuel := k }
noncomputable def Dl3 : VV → Ms → Option (Int × A4 × Unit) := A78 [(.int .i64)] [] [.box B6]
theorem Em1 (k : Nat) (a0 : A4) : D1 (By4 k) Dl3 k 64 (N1 1 [.box B6] (a0, ())) (ms1 [.box B6] (a0, ())) = Ab4 k a0 := by kernel_rfl
noncomputable def Ch1 (k : Nat) : MSpec := .box B6 fun (a0 : A4) => .body (Ab4 k a0) (fun r => D7 [(.int .i64)] [] r.1) (fun r => poV [.box B6] r.2)
noncomputable def Bm9 (k : Nat) : Cfg := { eqs := [], tab := [], spec := [], mspec := [(64, Ch1 k)], inl := [(65, Tryz.f65)], keep := [], join := [], hold := [], ptrs := [], maps := [], fuel := k }
noncomputable def Dd5 : VV → Ms → Option (Int × A4 × Unit) := A78 [(.int .i64)] [] [.box B6, .imm (.int .i64)]
theorem D55 (k : Nat) (a0 : A4) (a1 : Int) : D1 (Bm9 k) Dd5 k 65 (N1 1 [.box B6, .imm (.int .i64)] (a0, a1, ())) (ms1 [.box B6, .imm (.int .i64)] (a0, a1, ())) = C5 k a0 a1 := by kernel_rfl
noncomputable def N3 (k : Nat) : MSpec := .box B6 fun (a0 : A4) => .imm (.int .i64) fun (a1 : Int) => .body (C5 k a0 a1) (fun r => D7 [(.int .i64)] [] r.1) (fun r => poV [.box B6, .imm (.int .i64)] r.2)
noncomputable def By5 (k : Nat) : Cfg := { eqs := [], tab := [(3, (.int .i64)), (27, (.slice 85 C2)), (29, E9), (85, C2)], spec := [], mspec := [], inl := [(86, Tryz.f86)], keep := [], join := [], hold := [], ptrs := [], maps := [], fuel := k }
noncomputable def Dl4 : VV → Ms → Option (Int × Int) := H0 [(.int .i64), (.int .i64)] []
theorem Em2 (k : Nat) (a0 : C4) : D1 (By5 k) Dl4 k 86 [C3 E9 a0] ms0 = Ai3 k a0 := by kernel_rfl
noncomputable def Bn0 (k : Nat) : Spec := .imm E9 fun (a0 : C4) => .body (Ai3 k a0) (D7 [(.int .i64), (.int .i64)] [])
noncomputable def By6 (k : Nat) : Cfg := { eqs := [], tab := [], spec := [], mspec := [(65, N3 k)], inl := [(88, Tryz.f88)], keep := [], join := [], hold := [], ptrs := [], maps := [], fuel := k }
noncomputable def Dl5 : VV → Ms → Option (Bool × A4 × Unit) := A78 [.bool] [] [.box B6, .imm (.int .i64)]
theorem Em3 (k : Nat) (a0 : A4) (a1 : Int) : D1 (By6 k) Dl5 k 88 (N1 1 [.box B6, .imm (.int .i64)] (a0, a1, ())) (ms1 [.box B6, .imm (.int .i64)] (a0, a1, ())) = P2 k a0 a1 := by kernel_rfl
noncomputable def n4 (k : Nat) : MSpec := .box B6 fun (a0 : A4) => .imm (.int .i64) fun (a1 : Int) => .body (P2 k a0 a1) (fun r => D7 [.bool] [] r.1) (fun r => poV [.box B6, .imm (.int .i64)] r.2)
noncomputable def Av6 (k : Nat) : Cfg := { eqs := [], tab := [(49, (.slice 3 (.int .i64)))], spec := [], mspec := [(88, n4 k)], inl := [(70, Tryz.f70)], keep := [(7000001003, [0, 3, 4])], join := [], hold := [], ptrs := [], maps := [], fuel := k }
noncomputable def Bb7 : VV → Ms → Option (List Int × A4 × Unit) := A78 [(.slice 3 (.int .i64))] [.o] [.box B6]
noncomputable def Am3 (k n : Nat) (v1 : Int) (v2 : List Int) (v3 : Int) (v4 : Int) (xs5 : List Int) : Option (List Int × A4 × Unit) := w7 (Av6 k) Bb7 n true 7000001003 (cd [1, 1, 0, 1, 0, 0] (bo Tryz.f70)) [.b 0, .s (cd [1, 1, 1] (bo Tryz.f70)), .fn Tryz.f70] ⟨⟨(P4 23 0 [(0, one (.ptr 9000000 0)), (3, one (.row 9000001 none none)), (4, one (.int .i64 v1))]), [(9000000, .box [.slc 5 (.int .u8) v2, .int .i64 v3, .int .i64 v4]), (9000001, .row 3 (.int .i64) xs5 true)]⟩, 7000001000, 1, [(0, (P4 1 0 [(0, one (.ptr 9000000 0))]))]⟩
theorem D56 (k n : Nat) (v1 : Int) (v2 : List Int) (v3 : Int) (v4 : Int) (xs5 : List Int) : Am3 k (n + 1) v1 v2 v3 v4 xs5 = Bk1 k (Am3 k n) v1 v2 v3 v4 xs5 := by kernel_rfl
theorem Cu4 (k : Nat) : ∀ n : Nat, Am3 k n = j9 k n
 | 0 => (by funext v1 v2 v3 v4 xs5; rfl)
 | n + 1 => by
  obtain h0 := Cu4 k n
  exact (by funext v1 v2 v3 v4 xs5; rw [D56, h0] <;> rfl)
theorem Em4 (k : Nat) (a0 : A4) : D1 (Av6 k) Bb7 k 70 (N1 1 [.box B6] (a0, ())) (ms1 [.box B6] (a0, ())) = Cr5 k (Am3 k k) a0 := by kernel_rfl
theorem Em5 (k : Nat) (a0 : A4) : D1 (Av6 k) Bb7 k 70 (N1 1 [.box B6] (a0, ())) (ms1 [.box B6] (a0, ())) = Be7 k a0 := by rw [Em4, show Am3 k k = j9 k k from (Cu4 k k)] <;> rfl
noncomputable def Ch2 (k : Nat) : MSpec := .box B6 fun (a0 : A4) => .body (Be7 k a0) (fun r => D7 [(.slice 3 (.int .i64))] [.o] r.1) (fun r => poV [.box B6] r.2)
noncomputable def Am4 (k : Nat) : Cfg := { eqs := [], tab := [(3, (.int .i64)), (5, (.int .u8)), (9, .str), (22, (.slice 5 (.int .u8))), (49, (.slice 3 (.int .i64)))], spec := [(159, Bx1 k)], mspec := [], inl := [(121, Tryz.f121)], keep := [(12100001005, [0, 4, 5])], join := [], hold := [], ptrs := [], maps := [], fuel := k }
noncomputable def A66 : VV → Ms → Option (ByteArray × Bool) := H0 [.str, .bool] []
noncomputable def Af4 (k n : Nat) (a0 : List Int) (v1 : Int) (xs2 : List Int) : Option (ByteArray × Bool) := w7 (Am4 k) A66 n true 12100001005 (cd [1, 1, 1, 0, 1, 0, 0] (bo Tryz.f121)) [.b 0, .s (cd [1, 1, 1, 1] (bo Tryz.f121)), .fn Tryz.f121] ⟨⟨(P4 26 0 [(0, one (.slc 3 (.int .i64) a0)), (4, one (.row 9000000 none none)), (5, one (.int .i64 v1))]), [(9000000, .row 5 (.int .u8) xs2 true)]⟩, 12100001000, 1, [(0, (P4 0 0 []))]⟩
theorem Dl6 (k n : Nat) (a0 : List Int) (v1 : Int) (xs2 : List Int) : Af4 k (n + 1) a0 v1 xs2 = Ba4 k (Af4 k n) a0 v1 xs2 := by kernel_rfl
theorem Ch3 (k : Nat) : ∀ n : Nat, Af4 k n = Y2 k n
 | 0 => (by funext a0 v1 xs2; rfl)
 | n + 1 => by
  obtain h0 := Ch3 k n
  exact (by funext a0 v1 xs2; rw [Dl6, h0] <;> rfl)
theorem D57 (k : Nat) (a0 : List Int) : D1 (Am4 k) A66 k 121 [C3 (.slice 3 (.int .i64)) a0] ms0 = Cd4 k (Af4 k k) a0 := by kernel_rfl
theorem D58 (k : Nat) (a0 : List Int) : D1 (Am4 k) A66 k 121 [C3 (.slice 3 (.int .i64)) a0] ms0 = A42 k a0 := by rw [D57, show Af4 k k = Y2 k k from (Ch3 k k)] <;> rfl
noncomputable def B69 (k : Nat) : Spec := .imm (.slice 3 (.int .i64)) fun (a0 : List Int) => .body (A42 k a0) (D7 [.str, .bool] [])
noncomputable def A67 (k : Nat) : Cfg := { eqs := [], tab := [(3, (.int .i64)), (49, (.slice 3 (.int .i64)))], spec := [], mspec := [(65, N3 k)], inl := [(157, Tryz.f157)], keep := [], join := [], hold := [], ptrs := [], maps := [], fuel := k }
noncomputable def Cn5 : VV → Ms → Option (Int × A4 × Unit) := A78 [(.int .i64)] [] [.box B6, .imm (.slice 3 (.int .i64))]
theorem Dd6 (k : Nat) (a0 : A4) (a1 : List Int) : D1 (A67 k) Cn5 k 157 (N1 1 [.box B6, .imm (.slice 3 (.int .i64))] (a0, a1, ())) (ms1 [.box B6, .imm (.slice 3 (.int .i64))] (a0, a1, ())) = Ab5 k a0 a1 := by kernel_rfl
noncomputable def Ax8 (k : Nat) : MSpec := .box B6 fun (a0 : A4) => .imm (.slice 3 (.int .i64)) fun (a1 : List Int) => .body (Ab5 k a0 a1) (fun r => D7 [(.int .i64)] [] r.1) (fun r => poV [.box B6, .imm (.slice 3 (.int .i64))] r.2)
noncomputable def Bn1 (k : Nat) : Cfg := { eqs := [], tab := [(9, .str)], spec := [(109, T0 k)], mspec := [], inl := [(116, Tryz.f116)], keep := [], join := [], hold := [], ptrs := [], maps := [], fuel := k }
noncomputable def Dd7 : VV → Ms → Option ByteArray := H0 [.str] []
theorem D59 (k : Nat) (a0 : ByteArray) : D1 (Bn1 k) Dd7 k 116 [C3 .str a0] ms0 = Ag9 k a0 := by kernel_rfl
noncomputable def Bb8 (k : Nat) : Spec := .imm .str fun (a0 : ByteArray) => .body (Ag9 k a0) (D7 [.str] [])
noncomputable def Af5 (k : Nat) : Cfg := { eqs := [], tab := [(3, (.int .i64)), (49, (.slice 3 (.int .i64)))], spec := [(55, I5 k)], mspec := [], inl := [(195, Tryz.f195)], keep := [(19500001002, [0, 3])], join := [], hold := [], ptrs := [], maps := [], fuel := k }
noncomputable def Ax9 : VV → Ms → Option Bool := H0 [.bool] []
noncomputable def Aa6 (k n : Nat) (a0 : List Int) (v1 : Int) : Option Bool := w7 (Af5 k) Ax9 n true 19500001002 (cd [1, 0, 1, 0, 0] (bo Tryz.f195)) [.b 0, .s (cd [1, 1] (bo Tryz.f195)), .fn Tryz.f195] ⟨⟨(P4 19 0 [(0, one (.slc 3 (.int .i64) a0)), (3, one (.int .i64 v1))]), []⟩, 19500001000, 1, [(0, (P4 0 0 []))]⟩
theorem Dd8 (k n : Nat) (a0 : List Int) (v1 : Int) : Aa6 k (n + 1) a0 v1 = Ak6 k (Aa6 k n) a0 v1 := by kernel_rfl
theorem B70 (k : Nat) : ∀ n : Nat, Aa6 k n = W0 k n
 | 0 => (by funext a0 v1; rfl)
 | n + 1 => by
  obtain h0 := B70 k n
  exact (by funext a0 v1; rw [Dd8, h0] <;> rfl)
theorem Dl7 (k : Nat) (a0 : List Int) : D1 (Af5 k) Ax9 k 195 [C3 (.slice 3 (.int .i64)) a0] ms0 = B63 k (Aa6 k k) a0 := by kernel_rfl
theorem Dl8 (k : Nat) (a0 : List Int) : D1 (Af5 k) Ax9 k 195 [C3 (.slice 3 (.int .i64)) a0] ms0 = X7 k a0 := by rw [Dl7, show Aa6 k k = W0 k k from (B70 k k)] <;> rfl
noncomputable def By7 (k : Nat) : Spec := .imm (.slice 3 (.int .i64)) fun (a0 : List Int) => .body (X7 k a0) (D7 [.bool] [])
noncomputable def By8 (k : Nat) : Cfg := { eqs := [], tab := [(3, (.int .i64)), (9, .str), (49, (.slice 3 (.int .i64))), (162, H1)], spec := [(55, I5 k), (195, By7 k)], mspec := [], inl := [(170, Tryz.f170)], keep := [], join := [], hold := [], ptrs := [], maps := [], fuel := k }
noncomputable def Dl9 : VV → Ms → Option Bool := H0 [.bool] []
theorem Em6 (k : Nat) (a0 : C1) : D1 (By8 k) Dl9 k 170 [C3 H1 a0] ms0 = W9 k a0 := by kernel_rfl
noncomputable def Bn2 (k : Nat) : Spec := .imm H1 fun (a0 : C1) => .body (W9 k a0) (D7 [.bool] [])
noncomputable def Av7 (k : Nat) : Cfg := { eqs := [], tab := [(3, (.int .i64)), (4, .bool), (49, (.slice 3 (.int .i64))), (162, H1)], spec := [(55, I5 k), (170, Bn2 k)], mspec := [], inl := [(152, Tryz.f152)], keep := [(15200001004, [1, 3])], join := [], hold := [], ptrs := [], maps := [], fuel := k }
noncomputable def Bb9 : VV → Ms → Option Bool := H0 [.bool] []
noncomputable def Am5 (k n : Nat) (v1 : Int) (a0 : C1) : Option Bool := w7 (Av7 k) Bb9 n true 15200001004 (cd [1, 1, 0, 1, 0, 0] (bo Tryz.f152)) [.b 0, .s (cd [1, 1, 1] (bo Tryz.f152)), .fn Tryz.f152] ⟨⟨(P4 77 0 [(1, one (.ptr 9000000 0)), (3, one (.int .i64 v1))]), [(9000000, .box [.int .i64 a0.1, .int .i64 a0.2.1, .int .i64 a0.2.2.1, .int .i64 a0.2.2.2.1, .int .i64 a0.2.2.2.2.1, .slc 3 (.int .i64) a0.2.2.2.2.2.1, .str a0.2.2.2.2.2.2.1, .slc 3 (.int .i64) a0.2.2.2.2.2.2.2.1, .int .i64 a0.2.2.2.2.2.2.2.2.1])]⟩, 15200001000, 1, [(0, (P4 0 0 []))]⟩
theorem D60 (k n : Nat) (v1 : Int) (a0 : C1) : Am5 k (n + 1) v1 a0 = A00 k (Am5 k n) v1 a0 := by kernel_rfl
theorem Cu5 (k : Nat) : ∀ n : Nat, Am5 k n = U4 k n
 | 0 => (by funext v1 a0; rfl)
 | n + 1 => by
  obtain h0 := Cu5 k n
  exact (by funext v1 a0; rw [D60, h0] <;> rfl)
theorem Em7 (k : Nat) (a0 : C1) : D1 (Av7 k) Bb9 k 152 [C3 H1 a0] ms0 = Bu2 k (Am5 k k) a0 := by kernel_rfl
theorem Em8 (k : Nat) (a0 : C1) : D1 (Av7 k) Bb9 k 152 [C3 H1 a0] ms0 = M9 k a0 := by rw [Em7, show Am5 k k = U4 k k from (Cu5 k k)] <;> rfl
noncomputable def A10 (k : Nat) : Spec := .imm H1 fun (a0 : C1) => .body (M9 k a0) (D7 [.bool] [])
noncomputable def By9 (k : Nat) : Cfg := { eqs := [], tab := [(3, (.int .i64)), (5, (.int .u8)), (9, .str), (22, (.slice 5 (.int .u8)))], spec := [], mspec := [], inl := [(171, Tryz.f171)], keep := [], join := [], hold := [], ptrs := [], maps := [], fuel := k }
noncomputable def Dm0 : VV → Ms → Option ByteArray := H0 [.str] []
theorem Em9 (k : Nat) (a0 : Int) : D1 (By9 k) Dm0 k 171 [C3 (.int .i64) a0] ms0 = X0 k a0 := by kernel_rfl
noncomputable def Bn3 (k : Nat) : Spec := .imm (.int .i64) fun (a0 : Int) => .body (X0 k a0) (D7 [.str] [])
noncomputable def o0 (k : Nat) : Cfg := { eqs := [], tab := [(3, (.int .i64)), (9, .str), (49, (.slice 3 (.int .i64))), (162, H1)], spec := [(109, T0 k), (116, Bb8 k), (171, Bn3 k)], mspec := [], inl := [(153, Tryz.f153)], keep := [(15300001003, [1, 3, 4])], join := [], hold := [], ptrs := [], maps := [], fuel := k }
noncomputable def Am6 : VV → Ms → Option ByteArray := H0 [.str] []
noncomputable def c6 (k n : Nat) (v1 : ByteArray) (v2 : Int) (a0 : C1) : Option ByteArray := w7 (o0 k) Am6 n true 15300001003 (cd [1, 1, 0, 1, 0, 0] (bo Tryz.f153)) [.b 0, .s (cd [1, 1, 1] (bo Tryz.f153)), .fn Tryz.f153] ⟨⟨(P4 45 0 [(1, one (.ptr 9000000 0)), (3, one (.str v1)), (4, one (.int .i64 v2))]), [(9000000, .box [.int .i64 a0.1, .int .i64 a0.2.1, .int .i64 a0.2.2.1, .int .i64 a0.2.2.2.1, .int .i64 a0.2.2.2.2.1, .slc 3 (.int .i64) a0.2.2.2.2.2.1, .str a0.2.2.2.2.2.2.1, .slc 3 (.int .i64) a0.2.2.2.2.2.2.2.1, .int .i64 a0.2.2.2.2.2.2.2.2.1])]⟩, 15300001000, 1, [(0, (P4 0 0 []))]⟩
theorem Cn6 (k n : Nat) (v1 : ByteArray) (v2 : Int) (a0 : C1) : c6 k (n + 1) v1 v2 a0 = Ab6 k (c6 k n) v1 v2 a0 := by kernel_rfl
theorem Bp7 (k : Nat) : ∀ n : Nat, c6 k n = Q2 k n
 | 0 => (by funext v1 v2 a0; rfl)
 | n + 1 => by
  obtain h0 := Bp7 k n
  exact (by funext v1 v2 a0; rw [Cn6, h0] <;> rfl)
theorem Cy4 (k : Nat) (a0 : C1) : D1 (o0 k) Am6 k 153 [C3 H1 a0] ms0 = Ax1 k (c6 k k) a0 := by kernel_rfl
theorem Cy5 (k : Nat) (a0 : C1) : D1 (o0 k) Am6 k 153 [C3 H1 a0] ms0 = Y3 k a0 := by rw [Cy4, show c6 k k = Q2 k k from (Bp7 k k)] <;> rfl
noncomputable def Ar8 (k : Nat) : Spec := .imm H1 fun (a0 : C1) => .body (Y3 k a0) (D7 [.str] [])
noncomputable def Af6 (k : Nat) : Cfg := { eqs := [], tab := [(3, (.int .i64)), (49, (.slice 3 (.int .i64))), (162, H1)], spec := [(109, T0 k), (152, A10 k), (153, Ar8 k)], mspec := [], inl := [(117, Tryz.f117)], keep := [(11700001005, [1, 4, 5])], join := [], hold := [], ptrs := [], maps := [], fuel := k }
noncomputable def Ay0 : VV → Ms → Option (ByteArray × Bool) := H0 [.str, .bool] []
noncomputable def Aa7 (k n : Nat) (v1 : ByteArray) (v2 : Int) (a0 : C1) : Option (ByteArray × Bool) := w7 (Af6 k) Ay0 n true 11700001005 (cd [1, 1, 1, 0, 1, 0, 0] (bo Tryz.f117)) [.b 0, .s (cd [1, 1, 1, 1] (bo Tryz.f117)), .fn Tryz.f117] ⟨⟨(P4 40 0 [(1, one (.ptr 9000000 0)), (4, one (.str v1)), (5, one (.int .i64 v2))]), [(9000000, .box [.int .i64 a0.1, .int .i64 a0.2.1, .int .i64 a0.2.2.1, .int .i64 a0.2.2.2.1, .int .i64 a0.2.2.2.2.1, .slc 3 (.int .i64) a0.2.2.2.2.2.1, .str a0.2.2.2.2.2.2.1, .slc 3 (.int .i64) a0.2.2.2.2.2.2.2.1, .int .i64 a0.2.2.2.2.2.2.2.2.1])]⟩, 11700001000, 1, [(0, (P4 0 0 []))]⟩
theorem Dd9 (k n : Nat) (v1 : ByteArray) (v2 : Int) (a0 : C1) : Aa7 k (n + 1) v1 v2 a0 = Ak7 k (Aa7 k n) v1 v2 a0 := by kernel_rfl
theorem B71 (k : Nat) : ∀ n : Nat, Aa7 k n = W2 k n
 | 0 => (by funext v1 v2 a0; rfl)
 | n + 1 => by
  obtain h0 := B71 k n
  exact (by funext v1 v2 a0; rw [Dd9, h0] <;> rfl)
theorem Dm1 (k : Nat) (a0 : C1) : D1 (Af6 k) Ay0 k 117 [C3 H1 a0] ms0 = B64 k (Aa7 k k) a0 := by kernel_rfl
theorem Dm2 (k : Nat) (a0 : C1) : D1 (Af6 k) Ay0 k 117 [C3 H1 a0] ms0 = Au2 k a0 := by rw [Dm1, show Aa7 k k = W2 k k from (B71 k k)] <;> rfl
noncomputable def Bz0 (k : Nat) : Spec := .imm H1 fun (a0 : C1) => .body (Au2 k a0) (D7 [.str, .bool] [])
noncomputable def o5 (k : Nat) : Cfg := { eqs := [], tab := [(3, (.int .i64)), (49, (.slice 3 (.int .i64)))], spec := [], mspec := [], inl := [(151, Tryz.f151)], keep := [(15100001004, [0, 1, 5])], join := [], hold := [], ptrs := [], maps := [], fuel := k }
noncomputable def Am7 : VV → Ms → Option Bool := H0 [.bool] []
noncomputable def c7 (k n : Nat) (a0 : List Int) (a1 : List Int) (v1 : Int) : Option Bool := w7 (o5 k) Am7 n true 15100001004 (cd [1, 1, 0, 1, 0, 0] (bo Tryz.f151)) [.b 0, .s (cd [1, 1, 1] (bo Tryz.f151)), .fn Tryz.f151] ⟨⟨(P4 26 0 [(0, one (.slc 3 (.int .i64) a0)), (1, one (.slc 3 (.int .i64) a1)), (5, one (.int .i64 v1))]), []⟩, 15100001000, 1, [(0, (P4 0 0 []))]⟩
theorem Cn7 (k n : Nat) (a0 : List Int) (a1 : List Int) (v1 : Int) : c7 k (n + 1) a0 a1 v1 = Ab7 k (c7 k n) a0 a1 v1 := by kernel_rfl
theorem Bp8 (k : Nat) : ∀ n : Nat, c7 k n = Q3 k n
 | 0 => (by funext a0 a1 v1; rfl)
 | n + 1 => by
  obtain h0 := Bp8 k n
  exact (by funext a0 a1 v1; rw [Cn7, h0] <;> rfl)
theorem Cy6 (k : Nat) (a0 : List Int) (a1 : List Int) : D1 (o5 k) Am7 k 151 [C3 (.slice 3 (.int .i64)) a0, C3 (.slice 3 (.int .i64)) a1] ms0 = Ag5 k (c7 k k) a0 a1 := by kernel_rfl
theorem Cy7 (k : Nat) (a0 : List Int) (a1 : List Int) : D1 (o5 k) Am7 k 151 [C3 (.slice 3 (.int .i64)) a0, C3 (.slice 3 (.int .i64)) a1] ms0 = R8 k a0 a1 := by rw [Cy6, show c7 k k = Q3 k k from (Bp8 k k)] <;> rfl
noncomputable def Bg4 (k : Nat) : Spec := .imm (.slice 3 (.int .i64)) fun (a0 : List Int) => .imm (.slice 3 (.int .i64)) fun (a1 : List Int) => .body (R8 k a0 a1) (D7 [.bool] [])
noncomputable def Bz1 (k : Nat) : Cfg := { eqs := [], tab := [(3, (.int .i64)), (9, .str), (49, (.slice 3 (.int .i64))), (162, H1)], spec := [(151, Bg4 k)], mspec := [], inl := [(193, Tryz.f193)], keep := [], join := [], hold := [], ptrs := [], maps := [], fuel := k }
noncomputable def Dm3 : VV → Ms → Option Bool := H0 [.bool] []
theorem En0 (k : Nat) (a0 : C1) (a1 : C1) : D1 (Bz1 k) Dm3 k 193 [C3 H1 a0, C3 H1 a1] ms0 = A24 k a0 a1 := by kernel_rfl
noncomputable def Ch4 (k : Nat) : Spec := .imm H1 fun (a0 : C1) => .imm H1 fun (a1 : C1) => .body (A24 k a0 a1) (D7 [.bool] [])
noncomputable def Bn4 (k : Nat) : Cfg := { eqs := [], tab := [(162, H1)], spec := [(193, Ch4 k)], mspec := [], inl := [(172, Tryz.f172)], keep := [], join := [], hold := [], ptrs := [], maps := [], fuel := k }
noncomputable def De0 : VV → Ms → Option Bool := H0 [.bool] []
theorem D61 (k : Nat) (a0 : C1) : D1 (Bn4 k) De0 k 172 [C3 H1 a0] ms0 = Aq1 k a0 := by kernel_rfl
noncomputable def B72 (k : Nat) : Spec := .imm H1 fun (a0 : C1) => .body (Aq1 k a0) (D7 [.bool] [])
noncomputable def Bc0 (k : Nat) : Cfg := { eqs := [], tab := [(3, (.int .i64)), (49, (.slice 3 (.int .i64))), (162, H1), (169, S9)], spec := [(55, I5 k), (152, A10 k), (170, Bn2 k), (172, B72 k)], mspec := [], inl := [(154, Tryz.f154)], keep := [], join := [], hold := [], ptrs := [], maps := [], fuel := k }
noncomputable def Cy8 : VV → Ms → Option Bool := H0 [.bool] []
theorem Dm4 (k : Nat) (a0 : H9) : D1 (Bc0 k) Cy8 k 154 [C3 S9 a0] ms0 = Ai4 k a0 := by kernel_rfl
noncomputable def Bz2 (k : Nat) : Spec := .imm S9 fun (a0 : H9) => .body (Ai4 k a0) (D7 [.bool] [])
noncomputable def Ay1 (k : Nat) : Cfg := { eqs := [], tab := [(3, (.int .i64)), (162, H1), (169, S9)], spec := [(109, T0 k), (116, Bb8 k), (117, Bz0 k), (153, Ar8 k), (154, Bz2 k), (171, Bn3 k)], mspec := [], inl := [(160, Tryz.f160)], keep := [], join := [], hold := [], ptrs := [], maps := [], fuel := k }
noncomputable def Ch5 : VV → Ms → Option (ByteArray × Bool) := H0 [.str, .bool] []
theorem Cy9 (k : Nat) (a0 : H9) : D1 (Ay1 k) Ch5 k 160 [C3 S9 a0] ms0 = p9 k a0 := by kernel_rfl
noncomputable def Bg5 (k : Nat) : Spec := .imm S9 fun (a0 : H9) => .body (p9 k a0) (D7 [.str, .bool] [])
noncomputable def Av8 (k : Nat) : Cfg := { eqs := [], tab := [(112, (.slice 164 Ei8)), (114, A55), (164, Ei8)], spec := [], mspec := [], inl := [(118, Tryz.f118)], keep := [(11800001003, [0, 1, 2])], join := [], hold := [(11800001003, [(1, [0, 4], 164, Ei8, false, false)])], ptrs := [], maps := [], fuel := k }
noncomputable def Bc1 : VV → Ms → Option Ap3 := H0 [A55] [.o, .o, .o, .o, .o]
noncomputable def Am8 (k n : Nat) (v1 : Int) (xs2 : List C88) : Option Ap3 := w7 (Av8 k) Bc1 n true 11800001003 (cd [1, 1, 0, 1, 0, 0] (bo Tryz.f118)) [.b 0, .s (cd [1, 1, 1] (bo Tryz.f118)), .fn Tryz.f118] ⟨⟨(P4 16 0 [(0, one (.ptr 9000000 0)), (1, one (.ptr 9000001 0)), (2, one (.int .i64 v1))]), [(9000000, .box [.nilS, .nilS, .nilS, .nilS, .nilS]), (9000001, .box [.nilS, .nilS, .nilS, .nilS, .row 9000002 none none]), (9000002, .row 164 Ei8 xs2 true)]⟩, 11800001000, 1, [(0, (P4 0 0 []))]⟩
theorem D62 (k n : Nat) (v1 : Int) (xs2 : List C88) : Am8 k (n + 1) v1 xs2 = Bk2 k (Am8 k n) v1 xs2 := by kernel_rfl
theorem Cu6 (k : Nat) : ∀ n : Nat, Am8 k n = l6 k n
 | 0 => (by funext v1 xs2; rfl)
 | n + 1 => by
  obtain h0 := Cu6 k n
  exact (by funext v1 xs2; rw [D62, h0] <;> rfl)
theorem En1 (k : Nat) : D1 (Av8 k) Bc1 k 118 [] ms0 = Cr6 k (Am8 k k) := by kernel_rfl
theorem En2 (k : Nat) : D1 (Av8 k) Bc1 k 118 [] ms0 = Be8 k := by rw [En1, show Am8 k k = l6 k k from (Cu6 k k)] <;> rfl
noncomputable def Ch6 (k : Nat) : Spec := .body (Be8 k) (D7 [A55] [.o, .o, .o, .o, .o])
noncomputable def Bz3 (k : Nat) : MSpec := .box B6 fun (a0 : A4) => .body (A89 k a0) (fun r => D7 [H1] [.o, .o] r.1) (fun r => poV [.box B6] r.2)
noncomputable def Cu7 (k : Nat) : Spec := .imm Ap6 fun (a0 : n7) => .body (C92 k a0) (D7 [(.slice 3 (.int .i64))] [.o])
noncomputable def Ch7 (k : Nat) : Spec := .imm Ap6 fun (a0 : n7) => .imm (.slice 3 (.int .i64)) fun (a1 : List Int) => .body (A25 k a0 a1) (D7 [(.int .i64)] [])
noncomputable def Bz4 (k : Nat) : Spec := .imm Ap6 fun (a0 : n7) => .imm (.slice 3 (.int .i64)) fun (a1 : List Int) => .body (Ai5 k a0 a1) (D7 [(.slice 260 Cf8), .bool] [.o])
noncomputable def Ch8 (k : Nat) : Spec := .imm (.slice 162 H1) fun (a0 : List C1) => .imm (.slice 260 Cf8) fun (a1 : List Bo8) => .imm H1 fun (a2 : C1) => .body (Cl2 k a0 a1 a2) (D7 [.bool] [])
noncomputable def Aj2 (k : Nat) : Cfg := { eqs := [], tab := [(3, (.int .i64)), (49, (.slice 3 (.int .i64))), (107, (.slice 162 H1)), (111, Ap6), (162, H1)], spec := [(176, Cu7 k), (177, Ch7 k), (178, Bz4 k), (179, Ch8 k)], mspec := [(65, N3 k), (88, n4 k), (175, Bz3 k)], inl := [(158, Tryz.f158)], keep := [(15800001008, [0, 2, 4, 6, 7, 8, 9, 10]), (15800001018, [0, 2, 4, 6, 7, 11, 13])], join := [], hold := [], ptrs := [], maps := [], fuel := k }
noncomputable def At1 : VV → Ms → Option (C1 × A4 × Unit) := A78 [H1] [.o, .o] [.box B6, .imm Ap6, .imm (.int .i64)]
noncomputable def A11 (k n : Nat) (a2 : Int) (v6 : Int) (v7 : List Int) (v8 : Int) (v9 : Int) (a1 : n7) (v10 : Int) (v11 : Int) (v12 : Int) (v13 : Int) (v14 : ByteArray) (r6 : Int) (xs15 : List Bo8) (xs16 : List Int) (xs17 : List Int) : Option (C1 × A4 × Unit) := w7 (Aj2 k) At1 n true 15800001018 (cd [1, 1, 1, 1, 1, 1, 1, 1, 1, 1, 1, 0, 1, 0, 0] (bo Tryz.f158)) [.b 2, .s (cd [1, 1, 1, 1, 1, 1, 1, 1, 1, 1, 1, 1] (bo Tryz.f158)), .fn Tryz.f158] ⟨⟨(P4 130 0 [(0, one (.ptr 9000000 0)), (2, one (.int .i64 a2)), (4, one (.ptr 9000001 0)), (6, one (.ptr 9000002 0)), (7, one (.ptr 9000003 0)), (11, one (.row 9000004 none none)), (13, one (.int .i64 v6))]), [(9000000, .box [.slc 5 (.int .u8) v7, .int .i64 v8, .int .i64 v9]), (9000001, .box [.slc 162 H1 a1.1, .slc 215 (.slice 260 Cf8) a1.2.1, .slc 4 .bool a1.2.2.1]), (9000002, .box [.int .i64 0, .int .i64 0, .int .i64 0, .int .i64 0, .int .i64 0, .nilS, .str ByteArray.empty, .nilS, .int .i64 0]), (9000003, .box [.int .i64 a2, .int .i64 v10, .int .i64 v11, .int .i64 v12, .int .i64 v13, .row 9000005 none none, .str v14, .row 9000006 none none, .int .i64 r6]), (9000004, .row 260 Cf8 xs15 true), (9000005, .row 3 (.int .i64) xs16 true), (9000006, .row 3 (.int .i64) xs17 true)]⟩, 15800001000, 1, [(0, (P4 3 0 [(0, one (.ptr 9000000 0))]))]⟩
noncomputable def Am9 (k n : Nat) (a2 : Int) (v1 : Int) (v2 : List Int) (v3 : Int) (v4 : Int) (a1 : n7) (r1 : C1 × A4 × Unit) (r2 : List Int) (xs5 : List Int) : Option (C1 × A4 × Unit) := w7 (Aj2 k) At1 n true 15800001008 (cd [1, 1, 1, 1, 1, 1, 0, 1, 0, 0] (bo Tryz.f158)) [.b 0, .s (cd [1, 1, 1, 1, 1, 1, 1] (bo Tryz.f158)), .fn Tryz.f158] ⟨⟨(P4 130 0 [(0, one (.ptr 9000000 0)), (2, one (.int .i64 a2)), (4, one (.ptr 9000001 0)), (6, one (.ptr 9000002 0)), (7, one (.ptr 9000003 0)), (8, one (.row 9000004 none none)), (9, one (.row 9000005 none none)), (10, one (.int .i64 v1))]), [(9000000, .box [.slc 5 (.int .u8) v2, .int .i64 v3, .int .i64 v4]), (9000001, .box [.slc 162 H1 a1.1, .slc 215 (.slice 260 Cf8) a1.2.1, .slc 4 .bool a1.2.2.1]), (9000002, .box [.int .i64 0, .int .i64 0, .int .i64 0, .int .i64 0, .int .i64 0, .nilS, .str ByteArray.empty, .nilS, .int .i64 0]), (9000003, .box [.int .i64 a2, .int .i64 r1.1.2.1, .int .i64 r1.1.2.2.1, .int .i64 r1.1.2.2.2.1, .int .i64 r1.1.2.2.2.2.1, .row 9000006 none none, .str r1.1.2.2.2.2.2.2.1, .row 9000007 none none, .int .i64 r1.1.2.2.2.2.2.2.2.2.1]), (9000004, .row 3 (.int .i64) r2 true), (9000005, .row 3 (.int .i64) xs5 true), (9000006, .row 3 (.int .i64) r1.1.2.2.2.2.2.1 true), (9000007, .row 3 (.int .i64) r1.1.2.2.2.2.2.2.2.1 true)]⟩, 15800001000, 1, [(0, (P4 3 0 [(0, one (.ptr 9000000 0))]))]⟩
theorem D63 (k n : Nat) (a2 : Int) (v6 : Int) (v7 : List Int) (v8 : Int) (v9 : Int) (a1 : n7) (v10 : Int) (v11 : Int) (v12 : Int) (v13 : Int) (v14 : ByteArray) (r6 : Int) (xs15 : List Bo8) (xs16 : List Int) (xs17 : List Int) : A11 k (n + 1) a2 v6 v7 v8 v9 a1 v10 v11 v12 v13 v14 r6 xs15 xs16 xs17 = Cd5 k (A11 k n) a2 v6 v7 v8 v9 a1 v10 v11 v12 v13 v14 r6 xs15 xs16 xs17 := by kernel_rfl
theorem D64 (k n : Nat) (a2 : Int) (v1 : Int) (v2 : List Int) (v3 : Int) (v4 : Int) (a1 : n7) (r1 : C1 × A4 × Unit) (r2 : List Int) (xs5 : List Int) : Am9 k (n + 1) a2 v1 v2 v3 v4 a1 r1 r2 xs5 = Cd6 k (Am9 k n) (A11 k n) a2 v1 v2 v3 v4 a1 r1 r2 xs5 := by kernel_rfl
theorem Cu8 (k : Nat) : ∀ n : Nat, A11 k n = Bk3 k n ∧ Am9 k n = A01 k n
 | 0 => ⟨(by funext a2 v6 v7 v8 v9 a1 v10 v11 v12 v13 v14 r6 xs15 xs16 xs17; rfl), (by funext a2 v1 v2 v3 v4 a1 r1 r2 xs5; rfl)⟩
 | n + 1 => by
  obtain ⟨h1, h0⟩ := Cu8 k n
  exact ⟨(by funext a2 v6 v7 v8 v9 a1 v10 v11 v12 v13 v14 r6 xs15 xs16 xs17; rw [D63, h1] <;> rfl), (by funext a2 v1 v2 v3 v4 a1 r1 r2 xs5; rw [D64, h0, h1] <;> rfl)⟩
theorem En3 (k : Nat) (a0 : A4) (a1 : n7) (a2 : Int) : D1 (Aj2 k) At1 k 158 (N1 1 [.box B6, .imm Ap6, .imm (.int .i64)] (a0, a1, a2, ())) (ms1 [.box B6, .imm Ap6, .imm (.int .i64)] (a0, a1, a2, ())) = Bu3 k (Am9 k k) a0 a1 a2 := by kernel_rfl
theorem En4 (k : Nat) (a0 : A4) (a1 : n7) (a2 : Int) : D1 (Aj2 k) At1 k 158 (N1 1 [.box B6, .imm Ap6, .imm (.int .i64)] (a0, a1, a2, ())) (ms1 [.box B6, .imm Ap6, .imm (.int .i64)] (a0, a1, a2, ())) = N9 k a0 a1 a2 := by rw [En3, show Am9 k k = A01 k k from (Cu8 k k).2] <;> rfl
noncomputable def Ch9 (k : Nat) : MSpec := .box B6 fun (a0 : A4) => .imm Ap6 fun (a1 : n7) => .imm (.int .i64) fun (a2 : Int) => .body (N9 k a0 a1 a2) (fun r => D7 [H1] [.o, .o] r.1) (fun r => poV [.box B6, .imm Ap6, .imm (.int .i64)] r.2)
noncomputable def Aa8 (k : Nat) : Cfg := { eqs := [], tab := [(3, (.int .i64)), (49, (.slice 3 (.int .i64))), (106, (.slice 158 C2)), (111, Ap6), (114, A55), (158, C2), (162, H1), (169, S9)], spec := [(152, A10 k)], mspec := [(65, N3 k), (88, n4 k), (157, Ax8 k), (158, Ch9 k)], inl := [(120, Tryz.f120)], keep := [(12050001006, [0, 3, 4, 5])], join := [(12000001006, 12050001006)], hold := [], ptrs := [], maps := [], fuel := k }
noncomputable def Ar9 : VV → Ms → Option (H9 × A4 × Unit) := A78 [S9] [.o, .o] [.box B6, .imm A55]
noncomputable def Ag6 (k n : Nat) (v1 : List Int) (v2 : Int) (v3 : Int) (a1 : Ap3) (v4 : Int) : Option (H9 × A4 × Unit) := w7 (Aa8 k) Ar9 n false 12050001006 (cd [1, 1, 1, 1] (bo Tryz.f120)) [.fn Tryz.f120] ⟨⟨(P4 122 0 [(0, one (.ptr 9000000 0)), (3, one (.ptr 9000001 0)), (4, one (.ptr 9000002 0)), (5, one (.ptr 9000003 0))]), [(9000000, .box [.slc 5 (.int .u8) v1, .int .i64 v2, .int .i64 v3]), (9000001, .box [.slc 158 C2 a1.1, .slc 162 H1 a1.2.1.1, .slc 215 (.slice 260 Cf8) a1.2.1.2.1, .slc 4 .bool a1.2.1.2.2.1, .slc 164 Ei8 a1.2.2.1]), (9000002, .box [.int .i64 0, .int .i64 0, .int .i64 0, .int .i64 0, .int .i64 0, .int .i64 0, .int .i64 0, .int .i64 0, .nilS, .str ByteArray.empty, .nilS, .int .i64 0, .int .i64 0, .int .i64 0]), (9000003, .box [.int .i64 v4, .int .i64 0, .int .i64 0, .int .i64 0, .int .i64 0, .int .i64 0, .int .i64 0, .int .i64 0, .nilS, .str ByteArray.empty, .nilS, .int .i64 0, .int .i64 0, .int .i64 0])]⟩, 12000001000, 1, [(0, (P4 2 0 [(0, one (.ptr 9000000 0))]))]⟩
theorem Cz0 (k n : Nat) (v1 : List Int) (v2 : Int) (v3 : Int) (a1 : Ap3) (v4 : Int) : Ag6 k (n + 1) v1 v2 v3 a1 v4 = Ax2 k v1 v2 v3 a1 v4 := by kernel_rfl
theorem Bz5 (k : Nat) : ∀ n : Nat, Ag6 k n = T9 k n
 | 0 => (by funext v1 v2 v3 a1 v4; rfl)
 | n + 1 => by
  obtain h0 := Bz5 k n
  exact (by funext v1 v2 v3 a1 v4; rw [Cz0] <;> rfl)
theorem De1 (k : Nat) (a0 : A4) (a1 : Ap3) : D1 (Aa8 k) Ar9 k 120 (N1 1 [.box B6, .imm A55] (a0, a1, ())) (ms1 [.box B6, .imm A55] (a0, a1, ())) = Bu4 k (Ag6 k k) a0 a1 := by kernel_rfl
theorem De2 (k : Nat) (a0 : A4) (a1 : Ap3) : D1 (Aa8 k) Ar9 k 120 (N1 1 [.box B6, .imm A55] (a0, a1, ())) (ms1 [.box B6, .imm A55] (a0, a1, ())) = Ak8 k a0 a1 := by rw [De1, show Ag6 k k = T9 k k from (Bz5 k k)] <;> rfl
noncomputable def Bp9 (k : Nat) : MSpec := .box B6 fun (a0 : A4) => .imm A55 fun (a1 : Ap3) => .body (Ak8 k a0 a1) (fun r => D7 [S9] [.o, .o] r.1) (fun r => poV [.box B6, .imm A55] r.2)
noncomputable def Bn5 (k : Nat) : Cfg := { eqs := [], tab := [(106, (.slice 158 C2)), (114, A55), (158, C2), (169, S9)], spec := [(118, Ch6 k)], mspec := [(65, N3 k), (120, Bp9 k)], inl := [(161, Tryz.f161)], keep := [], join := [], hold := [], ptrs := [], maps := [], fuel := k }
noncomputable def De3 : VV → Ms → Option (H9 × A4 × Unit) := A78 [S9] [.o, .o] [.box B6]
theorem D65 (k : Nat) (a0 : A4) : D1 (Bn5 k) De3 k 161 (N1 1 [.box B6] (a0, ())) (ms1 [.box B6] (a0, ())) = A43 k a0 := by kernel_rfl
noncomputable def B73 (k : Nat) : MSpec := .box B6 fun (a0 : A4) => .body (A43 k a0) (fun r => D7 [S9] [.o, .o] r.1) (fun r => poV [.box B6] r.2)
noncomputable def Bn6 (k : Nat) : Cfg := { eqs := [], tab := [(3, (.int .i64)), (9, .str), (49, (.slice 3 (.int .i64))), (85, C2)], spec := [(121, B69 k), (160, Bg5 k)], mspec := [(70, Ch2 k), (157, Ax8 k), (161, B73 k)], inl := [(130, Tryz.f130)], keep := [], join := [], hold := [], ptrs := [], maps := [], fuel := k }
noncomputable def De4 : VV → Ms → Option (A9 × A4 × Unit) := A78 [C2] [] [.box B6, .imm (.int .i64)]
theorem D66 (k : Nat) (a0 : A4) (a1 : Int) : D1 (Bn6 k) De4 k 130 (N1 1 [.box B6, .imm (.int .i64)] (a0, a1, ())) (ms1 [.box B6, .imm (.int .i64)] (a0, a1, ())) = Ah0 k a0 a1 := by kernel_rfl
noncomputable def Bc2 (k : Nat) : MSpec := .box B6 fun (a0 : A4) => .imm (.int .i64) fun (a1 : Int) => .body (Ah0 k a0 a1) (fun r => D7 [C2] [] r.1) (fun r => poV [.box B6, .imm (.int .i64)] r.2)
noncomputable def Bz6 (k : Nat) : Cfg := { eqs := [], tab := [(3, (.int .i64)), (27, (.slice 85 C2)), (29, E9), (85, C2)], spec := [(162, A07 k)], mspec := [], inl := [(132, Tryz.f132)], keep := [], join := [], hold := [], ptrs := [], maps := [], fuel := k }
noncomputable def Dm5 : VV → Ms → Option Int := H0 [(.int .i64)] []
theorem En5 (k : Nat) (a0 : C4) (a1 : Int) : D1 (Bz6 k) Dm5 k 132 [C3 E9 a0, C3 (.int .i64) a1] ms0 = Aq2 k a0 a1 := by kernel_rfl
noncomputable def Bn7 (k : Nat) : Spec := .imm E9 fun (a0 : C4) => .imm (.int .i64) fun (a1 : Int) => .body (Aq2 k a0 a1) (D7 [(.int .i64)] [])
noncomputable def Bc3 (k : Nat) : Cfg := { eqs := [], tab := [(3, (.int .i64)), (27, (.slice 85 C2)), (29, E9)], spec := [(55, I5 k), (104, A60 k), (132, Bn7 k), (162, A07 k)], mspec := [], inl := [(131, Tryz.f131)], keep := [], join := [], hold := [], ptrs := [], maps := [], fuel := k }
noncomputable def Cz1 : VV → Ms → Option C4 := H0 [E9] [.o]
theorem Dm6 (k : Nat) (a0 : C4) (a1 : Int) (a2 : Int) : D1 (Bc3 k) Cz1 k 131 [C3 E9 a0, C3 (.int .i64) a1, C3 (.int .i64) a2] ms0 = Au3 k a0 a1 a2 := by kernel_rfl
noncomputable def Bz7 (k : Nat) : Spec := .imm E9 fun (a0 : C4) => .imm (.int .i64) fun (a1 : Int) => .imm (.int .i64) fun (a2 : Int) => .body (Au3 k a0 a1 a2) (D7 [E9] [.o])
noncomputable def Av9 (k : Nat) : Cfg := { eqs := [], tab := [(3, (.int .i64)), (27, (.slice 85 C2)), (29, E9)], spec := [(86, Bn0 k), (131, Bz7 k), (132, Bn7 k)], mspec := [(65, N3 k), (88, n4 k), (130, Bc2 k)], inl := [(87, Tryz.f87)], keep := [(8700001007, [0, 4, 6, 8, 9])], join := [], hold := [], ptrs := [], maps := [], fuel := k }
noncomputable def Bc4 : VV → Ms → Option (C4 × A4 × Unit) := A78 [E9] [.o] [.box B6, .imm E9]
noncomputable def An0 (k n : Nat) (v1 : Int) (v2 : Int) (v3 : List Int) (v4 : Int) (v5 : Int) (a1 : C4) (xs6 : List A9) : Option (C4 × A4 × Unit) := w7 (Av9 k) Bc4 n true 8700001007 (cd [1, 1, 1, 1, 1, 0, 1, 0, 0] (bo Tryz.f87)) [.b 0, .s (cd [1, 1, 1, 1, 1, 1] (bo Tryz.f87)), .fn Tryz.f87] ⟨⟨(P4 78 0 [(0, one (.ptr 9000000 0)), (4, one (.ptr 9000001 0)), (6, one (.int .i64 v1)), (8, one (.ptr 9000002 0)), (9, one (.int .i64 v2))]), [(9000000, .box [.slc 5 (.int .u8) v3, .int .i64 v4, .int .i64 v5]), (9000001, .box [.int .i64 0, .int .i64 0, .nilS]), (9000002, .box [.int .i64 a1.1, .int .i64 a1.2.1, .row 9000003 none none]), (9000003, .row 85 C2 xs6 true)]⟩, 8700001000, 1, [(0, (P4 2 0 [(0, one (.ptr 9000000 0))]))]⟩
theorem D67 (k n : Nat) (v1 : Int) (v2 : Int) (v3 : List Int) (v4 : Int) (v5 : Int) (a1 : C4) (xs6 : List A9) : An0 k (n + 1) v1 v2 v3 v4 v5 a1 xs6 = Bk4 k (An0 k n) v1 v2 v3 v4 v5 a1 xs6 := by kernel_rfl
theorem Cu9 (k : Nat) : ∀ n : Nat, An0 k n = U5 k n
 | 0 => (by funext v1 v2 v3 v4 v5 a1 xs6; rfl)
 | n + 1 => by
  obtain h0 := Cu9 k n
  exact (by funext v1 v2 v3 v4 v5 a1 xs6; rw [D67, h0] <;> rfl)
theorem En6 (k : Nat) (a0 : A4) (a1 : C4) : D1 (Av9 k) Bc4 k 87 (N1 1 [.box B6, .imm E9] (a0, a1, ())) (ms1 [.box B6, .imm E9] (a0, a1, ())) = Cr7 k (An0 k k) a0 a1 := by kernel_rfl
theorem En7 (k : Nat) (a0 : A4) (a1 : C4) : D1 (Av9 k) Bc4 k 87 (N1 1 [.box B6, .imm E9] (a0, a1, ())) (ms1 [.box B6, .imm E9] (a0, a1, ())) = Be9 k a0 a1 := by rw [En6, show An0 k k = U5 k k from (Cu9 k k)] <;> rfl
noncomputable def Ci0 (k : Nat) : MSpec := .box B6 fun (a0 : A4) => .imm E9 fun (a1 : C4) => .body (Be9 k a0 a1) (fun r => D7 [E9] [.o] r.1) (fun r => poV [.box B6, .imm E9] r.2)
noncomputable def Bz8 (k : Nat) : Cfg := { eqs := [], tab := [(3, (.int .i64)), (29, E9), (31, A5)], spec := [(57, A08 k)], mspec := [(65, N3 k), (87, Ci0 k), (88, n4 k)], inl := [(35, Tryz.f35)], keep := [], join := [], hold := [], ptrs := [], maps := [], fuel := k }
noncomputable def Dm7 : VV → Ms → Option (A0 × A4 × Unit) := A78 [A5] [.o] [.box B6, .imm A5]
theorem En8 (k : Nat) (a0 : A4) (a1 : A0) : D1 (Bz8 k) Dm7 k 35 (N1 1 [.box B6, .imm A5] (a0, a1, ())) (ms1 [.box B6, .imm A5] (a0, a1, ())) = Ab8 k a0 a1 := by kernel_rfl
noncomputable def Bn8 (k : Nat) : MSpec := .box B6 fun (a0 : A4) => .imm A5 fun (a1 : A0) => .body (Ab8 k a0 a1) (fun r => D7 [A5] [.o] r.1) (fun r => poV [.box B6, .imm A5] r.2)
noncomputable def Aj3 (k : Nat) : Cfg := { eqs := [], tab := [(3, (.int .i64)), (9, .str), (24, (.slice 99 J0)), (26, D9), (31, A5), (99, J0)], spec := [(14, Ar5 k), (15, By3 k), (50, Ac9 k), (84, Ar4 k)], mspec := [(35, Bn8 k), (65, N3 k)], inl := [(33, Tryz.f33)], keep := [(3300001004, [0, 3, 4, 5, 8, 9])], join := [], hold := [(3300001004, [(3, [0, 5], 85, C2, true, false)])], ptrs := [], maps := [], fuel := k }
noncomputable def At2 : VV → Ms → Option ((B4 × A0) × A4 × Unit) := A78 [D9, A5] [.o, .s] [.box B6, .imm A5]
noncomputable def A12 (k n : Nat) (v5 : Int) (v6 : List Int) (v7 : Int) (v8 : Int) (v9 : Int) (v10 : Int) (v11 : Int) (v12 : Int) (v13 : Int) (xs14 : List A9) (xs15 : List C7) : Option ((B4 × A0) × A4 × Unit) := w7 (Aj3 k) At2 n true 3300001004 (cd [1, 1, 1, 0, 1, 0, 0] (bo Tryz.f33)) [.b 0, .s (cd [1, 1, 1, 1] (bo Tryz.f33)), .fn Tryz.f33] ⟨⟨(P4 55 0 [(0, one (.ptr 9000000 0)), (3, one (.ptr 9000001 0)), (4, one (.ptr 9000002 0)), (5, one (.ptr 9000003 0)), (8, one (.ptr 9000004 0)), (9, one (.int .i64 v5))]), [(9000000, .box [.slc 5 (.int .u8) v6, .int .i64 v7, .int .i64 v8]), (9000001, .box [.int .i64 v9, .int .i64 v10, .int .i64 v11, .int .i64 v12, .int .i64 v13, .row 9000005 none none]), (9000002, .box [.nilS]), (9000003, .box [.int .i64 0, .int .i64 0, .int .i64 0, .int .i64 0, .int .i64 0, .nilS]), (9000004, .box [.row 9000006 none none]), (9000005, .row 85 C2 xs14 false), (9000006, .row 99 J0 xs15 true)]⟩, 3300001000, 1, [(0, (P4 2 0 [(0, one (.ptr 9000000 0))]))]⟩
noncomputable def An1 (k n : Nat) (v1 : Int) (v2 : List Int) (v3 : Int) (v4 : Int) (a1 : A0) (r2 : ByteArray) (r1 : ByteArray × Bool) : Option ((B4 × A0) × A4 × Unit) := w7 (Aj3 k) At2 n true 3300001004 (cd [1, 1, 1, 0, 1, 0, 0] (bo Tryz.f33)) [.b 0, .s (cd [1, 1, 1, 1] (bo Tryz.f33)), .fn Tryz.f33] ⟨⟨(P4 55 0 [(0, one (.ptr 9000000 0)), (3, one (.ptr 9000001 0)), (4, one (.ptr 9000002 0)), (5, one (.ptr 9000003 0)), (8, one (.ptr 9000004 0)), (9, one (.int .i64 v1))]), [(9000000, .box [.slc 5 (.int .u8) v2, .int .i64 v3, .int .i64 v4]), (9000001, .box [.int .i64 a1.1, .int .i64 a1.2.1, .int .i64 a1.2.2.1, .int .i64 a1.2.2.2.1.1, .int .i64 a1.2.2.2.1.2.1, .slc 85 C2 a1.2.2.2.1.2.2.1]), (9000002, .box [.nilS]), (9000003, .box [.int .i64 0, .int .i64 0, .int .i64 0, .int .i64 0, .int .i64 0, .nilS]), (9000004, .box [.row 9000005 none none]), (9000005, .row 99 J0 ([(r2, r1.1, (r1.1.size : Int), ())] : List C7) true)]⟩, 3300001000, 1, [(0, (P4 2 0 [(0, one (.ptr 9000000 0))]))]⟩
theorem D68 (k n : Nat) (v5 : Int) (v6 : List Int) (v7 : Int) (v8 : Int) (v9 : Int) (v10 : Int) (v11 : Int) (v12 : Int) (v13 : Int) (xs14 : List A9) (xs15 : List C7) : A12 k (n + 1) v5 v6 v7 v8 v9 v10 v11 v12 v13 xs14 xs15 = Bk5 k (A12 k n) v5 v6 v7 v8 v9 v10 v11 v12 v13 xs14 xs15 := by kernel_rfl
theorem D69 (k n : Nat) (v1 : Int) (v2 : List Int) (v3 : Int) (v4 : Int) (a1 : A0) (r2 : ByteArray) (r1 : ByteArray × Bool) : An1 k (n + 1) v1 v2 v3 v4 a1 r2 r1 = Bk6 k (A12 k n) (An1 k n) v1 v2 v3 v4 a1 r2 r1 := by kernel_rfl
theorem Cv0 (k : Nat) : ∀ n : Nat, A12 k n = Ab9 k n ∧ An1 k n = l7 k n
 | 0 => ⟨(by funext v5 v6 v7 v8 v9 v10 v11 v12 v13 xs14 xs15; rfl), (by funext v1 v2 v3 v4 a1 r2 r1; rfl)⟩
 | n + 1 => by
  obtain ⟨h1, h0⟩ := Cv0 k n
  exact ⟨(by funext v5 v6 v7 v8 v9 v10 v11 v12 v13 xs14 xs15; rw [D68, h1] <;> rfl), (by funext v1 v2 v3 v4 a1 r2 r1; rw [D69, h1, h0] <;> rfl)⟩
theorem En9 (k : Nat) (a0 : A4) (a1 : A0) : D1 (Aj3 k) At2 k 33 (N1 1 [.box B6, .imm A5] (a0, a1, ())) (ms1 [.box B6, .imm A5] (a0, a1, ())) = Bu5 k (An1 k k) a0 a1 := by kernel_rfl
theorem Eo0 (k : Nat) (a0 : A4) (a1 : A0) : D1 (Aj3 k) At2 k 33 (N1 1 [.box B6, .imm A5] (a0, a1, ())) (ms1 [.box B6, .imm A5] (a0, a1, ())) = Ai6 k a0 a1 := by rw [En9, show An1 k k = l7 k k from (Cv0 k k).2] <;> rfl
noncomputable def Ci1 (k : Nat) : MSpec := .box B6 fun (a0 : A4) => .imm A5 fun (a1 : A0) => .body (Ai6 k a0 a1) (fun r => D7 [D9, A5] [.o, .s] r.1) (fun r => poV [.box B6, .imm A5] r.2)
noncomputable def An2 (k : Nat) : Cfg := { eqs := [], tab := [(3, (.int .i64)), (27, (.slice 85 C2)), (29, E9)], spec := [], mspec := [(65, N3 k), (88, n4 k), (130, Bc2 k)], inl := [(85, Tryz.f85)], keep := [(8500001004, [0, 2, 3, 4, 5])], join := [], hold := [(8500001004, [(3, [0, 2], 85, C2, false, false)])], ptrs := [], maps := [], fuel := k }
noncomputable def A68 : VV → Ms → Option (C4 × A4 × Unit) := A78 [E9] [.o] [.box B6]
noncomputable def Af7 (k n : Nat) (v1 : Int) (v2 : Int) (v3 : List Int) (v4 : Int) (v5 : Int) (r1 : Int × A4 × Unit) (r2 : Int × A4 × Unit) (r3 : Int × A4 × Unit) (xs6 : List A9) : Option (C4 × A4 × Unit) := w7 (An2 k) A68 n true 8500001004 (cd [1, 1, 1, 0, 1, 0, 0] (bo Tryz.f85)) [.b 0, .s (cd [1, 1, 1, 1] (bo Tryz.f85)), .fn Tryz.f85] ⟨⟨(P4 38 0 [(0, one (.ptr 9000000 0)), (2, one (.ptr 9000001 0)), (3, one (.ptr 9000002 0)), (4, one (.int .i64 v1)), (5, one (.int .i64 v2))]), [(9000000, .box [.slc 5 (.int .u8) v3, .int .i64 v4, .int .i64 v5]), (9000001, .box [.int .i64 0, .int .i64 0, .nilS]), (9000002, .box [.int .i64 (B8 (r1.1 * r2.1)), .int .i64 r3.1, .row 9000003 none none]), (9000003, .row 85 C2 xs6 true)]⟩, 8500001000, 1, [(0, (P4 1 0 [(0, one (.ptr 9000000 0))]))]⟩
theorem Dm8 (k n : Nat) (v1 : Int) (v2 : Int) (v3 : List Int) (v4 : Int) (v5 : Int) (r1 : Int × A4 × Unit) (r2 : Int × A4 × Unit) (r3 : Int × A4 × Unit) (xs6 : List A9) : Af7 k (n + 1) v1 v2 v3 v4 v5 r1 r2 r3 xs6 = Ba5 k (Af7 k n) v1 v2 v3 v4 v5 r1 r2 r3 xs6 := by kernel_rfl
theorem Ci2 (k : Nat) : ∀ n : Nat, Af7 k n = Y4 k n
 | 0 => (by funext v1 v2 v3 v4 v5 r1 r2 r3 xs6; rfl)
 | n + 1 => by
  obtain h0 := Ci2 k n
  exact (by funext v1 v2 v3 v4 v5 r1 r2 r3 xs6; rw [Dm8, h0] <;> rfl)
theorem D70 (k : Nat) (a0 : A4) : D1 (An2 k) A68 k 85 (N1 1 [.box B6] (a0, ())) (ms1 [.box B6] (a0, ())) = Cd7 k (Af7 k k) a0 := by kernel_rfl
theorem D71 (k : Nat) (a0 : A4) : D1 (An2 k) A68 k 85 (N1 1 [.box B6] (a0, ())) (ms1 [.box B6] (a0, ())) = A44 k a0 := by rw [D70, show Af7 k k = Y4 k k from (Ci2 k k)] <;> rfl
noncomputable def B74 (k : Nat) : MSpec := .box B6 fun (a0 : A4) => .body (A44 k a0) (fun r => D7 [E9] [.o] r.1) (fun r => poV [.box B6] r.2)
noncomputable def Bn9 (k : Nat) : Cfg := { eqs := [], tab := [(29, E9), (31, A5)], spec := [(86, Bn0 k)], mspec := [(65, N3 k), (85, B74 k)], inl := [(34, Tryz.f34)], keep := [], join := [], hold := [], ptrs := [], maps := [], fuel := k }
noncomputable def De5 : VV → Ms → Option (A0 × A4 × Unit) := A78 [A5] [.o] [.box B6]
theorem D72 (k : Nat) (a0 : A4) : D1 (Bn9 k) De5 k 34 (N1 1 [.box B6] (a0, ())) (ms1 [.box B6] (a0, ())) = Ah1 k a0 := by kernel_rfl
noncomputable def B75 (k : Nat) : MSpec := .box B6 fun (a0 : A4) => .body (Ah1 k a0) (fun r => D7 [A5] [.o] r.1) (fun r => poV [.box B6] r.2)
noncomputable def P9 (k : Nat) : Cfg := { eqs := [], tab := [(3, (.int .i64)), (5, (.int .u8)), (22, (.slice 5 (.int .u8))), (26, D9), (31, A5), (129, B6)], spec := [], mspec := [(33, Ci1 k), (34, B75 k), (35, Bn8 k)], inl := [(8, Tryz.f8), (32, Tryz.f32)], keep := [(3200002003, [0, 3, 4])], join := [], hold := [], ptrs := [], maps := [], fuel := k }
noncomputable def c8 : VV → Ms → Option (B4 × A0 × A0) := H0 [D9, A5, A5] [.o, .s, .o]
noncomputable def O9 (k n : Nat) (a0 : List Int) (v1 : Int) (v2 : Int) : Option (B4 × A0 × A0) := w7 (P9 k) c8 n true 3200002003 (cd [1, 1, 0, 1, 0, 0] (bo Tryz.f32)) [.b 0, .s (cd [1, 1, 1] (bo Tryz.f32)), .fn Tryz.f32, .op (rg (cd [1, 0] (bo Tryz.f8))) ((rg (cd [1, 0] (bo Tryz.f8))).drop 2) 2 (some 9), .s (cd [1, 1] (bo Tryz.f8)), .fn Tryz.f8] ⟨⟨(P4 32 0 [(0, one (.slc 5 (.int .u8) a0)), (3, one (.int .i64 v1)), (4, one (.int .i64 v2))]), [(9000000, .box [.nilS]), (9000001, .box [.int .i64 0, .int .i64 0, .int .i64 0, .int .i64 0, .int .i64 0, .nilS]), (9000002, .box [.int .i64 0, .int .i64 0, .int .i64 0, .int .i64 0, .int .i64 0, .nilS])]⟩, 3200002000, 2, [(800001000, (P4 22 0 [(0, one (.slc 5 (.int .u8) a0)), (2, one (.ptr 9000000 0)), (3, one (.ptr 9000001 0)), (4, one (.ptr 9000002 0)), (8, one (.slc 5 (.int .u8) a0))])), (0, (P4 0 0 []))]⟩
theorem Bo0 (k n : Nat) (a0 : List Int) (v1 : Int) (v2 : Int) : O9 k (n + 1) a0 v1 v2 = Ak9 k (O9 k n) a0 v1 v2 := by kernel_rfl
theorem Ap7 (k : Nat) : ∀ n : Nat, O9 k n = O7 k n
 | 0 => (by funext a0 v1 v2; rfl)
 | n + 1 => by
  obtain h0 := Ap7 k n
  exact (by funext a0 v1 v2; rw [Bo0, h0] <;> rfl)
theorem Br4 (k : Nat) (a0 : List Int) : D1 (P9 k) c8 k 8 [C3 (.slice 5 (.int .u8)) a0] ms0 = Ap4 k (O9 k k) a0 := by kernel_rfl
theorem Br5 (k : Nat) (a0 : List Int) : D1 (P9 k) c8 k 8 [C3 (.slice 5 (.int .u8)) a0] ms0 = U0 k a0 := by rw [Br4, show O9 k k = O7 k k from (Ap7 k k)] <;> rfl
noncomputable def An3 (k : Nat) : Spec := .imm (.slice 5 (.int .u8)) fun (a0 : List Int) => .body (U0 k a0) (D7 [D9, A5, A5] [.o, .s, .o])
noncomputable def Ca9 (k : Nat) : Cfg := { eqs := [], tab := [], spec := [], mspec := [], inl := [(39, Tryz.f39)], keep := [], join := [], hold := [], ptrs := [], maps := [], fuel := k }
noncomputable def D73 : VV → Ms → Option Bool := H0 [.bool] []
theorem E81 (k : Nat) (a0 : Int) (a1 : Int) (a2 : Int) : D1 (Ca9 k) D73 k 39 [C3 (.int .i64) a0, C3 (.int .i64) a1, C3 (.int .i64) a2] ms0 = M5 k a0 a1 a2 := by kernel_rfl
noncomputable def M8 (k : Nat) : Spec := .imm (.int .i64) fun (a0 : Int) => .imm (.int .i64) fun (a1 : Int) => .imm (.int .i64) fun (a2 : Int) => .body (M5 k a0 a1 a2) (D7 [.bool] [])
noncomputable def A69 (k : Nat) : Cfg := { eqs := [], tab := [(3, (.int .i64)), (49, (.slice 3 (.int .i64)))], spec := [(39, M8 k)], mspec := [], inl := [(123, Tryz.f123)], keep := [(12300001002, [0, 5, 6, 7])], join := [], hold := [], ptrs := [], maps := [], fuel := k }
noncomputable def Bo1 : VV → Ms → Option Bool := H0 [.bool] []
noncomputable def Aw0 (k n : Nat) (a0 : List Int) (v1 : Int) : Option Bool := w7 (A69 k) Bo1 n true 12300001002 (cd [1, 0, 1, 0, 0] (bo Tryz.f123)) [.b 0, .s (cd [1, 1] (bo Tryz.f123)), .fn Tryz.f123] ⟨⟨(P4 32 0 [(0, one (.slc 3 (.int .i64) a0)), (5, one (.slc 3 (.int .i64) a0)), (6, one (.int .i64 (a0.length : Int))), (7, one (.int .i64 v1))]), []⟩, 12300001000, 1, [(0, (P4 0 0 []))]⟩
theorem Eo1 (k n : Nat) (a0 : List Int) (v1 : Int) : Aw0 k (n + 1) a0 v1 = A90 k (Aw0 k n) a0 v1 := by kernel_rfl
theorem De6 (k : Nat) : ∀ n : Nat, Aw0 k n = j2 k n
 | 0 => (by funext a0 v1; rfl)
 | n + 1 => by
  obtain h0 := De6 k n
  exact (by funext a0 v1; rw [Eo1, h0] <;> rfl)
theorem E82 (k : Nat) (a0 : List Int) : D1 (A69 k) Bo1 k 123 [C3 (.slice 3 (.int .i64)) a0] ms0 = C93 k (Aw0 k k) a0 := by kernel_rfl
theorem E83 (k : Nat) (a0 : List Int) : D1 (A69 k) Bo1 k 123 [C3 (.slice 3 (.int .i64)) a0] ms0 = Bu6 k a0 := by rw [E82, show Aw0 k k = j2 k k from (De6 k k)] <;> rfl
noncomputable def Cv1 (k : Nat) : Spec := .imm (.slice 3 (.int .i64)) fun (a0 : List Int) => .body (Bu6 k a0) (D7 [.bool] [])
noncomputable def An4 (k : Nat) : Cfg := { eqs := [], tab := [(3, (.int .i64)), (5, (.int .u8)), (9, .str), (49, (.slice 3 (.int .i64)))], spec := [(123, Cv1 k)], mspec := [], inl := [(80, Tryz.f80)], keep := [(8000001003, [0, 4, 5])], join := [], hold := [(8000001003, [(4, [0], 3, (.int .i64), false, false)])], ptrs := [], maps := [], fuel := k }
noncomputable def A70 : VV → Ms → Option (List Int × Bool) := H0 [(.slice 3 (.int .i64)), .bool] [.o]
noncomputable def Af8 (k n : Nat) (a0 : ByteArray) (v1 : Int) (xs2 : List Int) : Option (List Int × Bool) := w7 (An4 k) A70 n true 8000001003 (cd [1, 1, 0, 1, 0, 0] (bo Tryz.f80)) [.b 0, .s (cd [1, 1, 1] (bo Tryz.f80)), .fn Tryz.f80] ⟨⟨(P4 23 0 [(0, one (.str a0)), (4, one (.row 9000000 none none)), (5, one (.int .i64 v1))]), [(9000000, .row 3 (.int .i64) xs2 true)]⟩, 8000001000, 1, [(0, (P4 0 0 []))]⟩
theorem Dm9 (k n : Nat) (a0 : ByteArray) (v1 : Int) (xs2 : List Int) : Af8 k (n + 1) a0 v1 xs2 = Ba6 k (Af8 k n) a0 v1 xs2 := by kernel_rfl
theorem Ci3 (k : Nat) : ∀ n : Nat, Af8 k n = Y5 k n
 | 0 => (by funext a0 v1 xs2; rfl)
 | n + 1 => by
  obtain h0 := Ci3 k n
  exact (by funext a0 v1 xs2; rw [Dm9, h0] <;> rfl)
theorem D74 (k : Nat) (a0 : ByteArray) : D1 (An4 k) A70 k 80 [C3 .str a0] ms0 = Cd8 k (Af8 k k) a0 := by kernel_rfl
theorem D75 (k : Nat) (a0 : ByteArray) : D1 (An4 k) A70 k 80 [C3 .str a0] ms0 = A45 k a0 := by rw [D74, show Af8 k k = Y5 k k from (Ci3 k k)] <;> rfl
noncomputable def B76 (k : Nat) : Spec := .imm .str fun (a0 : ByteArray) => .body (A45 k a0) (D7 [(.slice 3 (.int .i64)), .bool] [.o])
noncomputable def Bz9 (k : Nat) : Cfg := { eqs := [], tab := [(3, (.int .i64)), (9, .str), (85, C2)], spec := [(39, M8 k), (80, B76 k)], mspec := [], inl := [(97, Tryz.f97)], keep := [], join := [], hold := [], ptrs := [], maps := [], fuel := k }
noncomputable def Dn0 : VV → Ms → Option Bool := H0 [.bool] []
theorem Eo2 (k : Nat) (a0 : A9) : D1 (Bz9 k) Dn0 k 97 [C3 C2 a0] ms0 = Ai7 k a0 := by kernel_rfl
noncomputable def A13 (k : Nat) : Spec := .imm C2 fun (a0 : A9) => .body (Ai7 k a0) (D7 [.bool] [])
noncomputable def Bg6 (k : Nat) : Cfg := { eqs := [], tab := [(3, (.int .i64)), (27, (.slice 85 C2)), (29, E9), (85, C2)], spec := [(39, M8 k), (97, A13 k)], mspec := [], inl := [(43, Tryz.f43)], keep := [(4300001005, [3, 34, 35, 36])], join := [], hold := [], ptrs := [], maps := [], fuel := k }
noncomputable def B00 : VV → Ms → Option Bool := H0 [.bool] []
noncomputable def A71 (k n : Nat) (v1 : Int) (a0 : C4) (v2 : Int) : Option Bool := w7 (Bg6 k) B00 n true 4300001005 (cd [1, 1, 1, 0, 1, 0, 0] (bo Tryz.f43)) [.b 0, .s (cd [1, 1, 1, 1] (bo Tryz.f43)), .fn Tryz.f43] ⟨⟨(P4 52 0 [(3, one (.int .i64 v1)), (34, one (.slc 85 C2 a0.2.2.1)), (35, one (.int .i64 (a0.2.2.1.length : Int))), (36, one (.int .i64 v2))]), []⟩, 4300001000, 1, [(0, (P4 0 0 []))]⟩
theorem E84 (k n : Nat) (v1 : Int) (a0 : C4) (v2 : Int) : A71 k (n + 1) v1 a0 v2 = Bk7 k (A71 k n) v1 a0 v2 := by kernel_rfl
theorem Dx3 (k : Nat) : ∀ n : Nat, A71 k n = z7 k n
 | 0 => (by funext v1 a0 v2; rfl)
 | n + 1 => by
  obtain h0 := Dx3 k n
  exact (by funext v1 a0 v2; rw [E84, h0] <;> rfl)
theorem Fr6 (k : Nat) (a0 : C4) : D1 (Bg6 k) B00 k 43 [C3 E9 a0] ms0 = Dv1 k (A71 k k) a0 := by kernel_rfl
theorem Fr7 (k : Nat) (a0 : C4) : D1 (Bg6 k) B00 k 43 [C3 E9 a0] ms0 = A91 k a0 := by rw [Fr6, show A71 k k = z7 k k from (Dx3 k k)] <;> rfl
noncomputable def Cb0 (k : Nat) : Spec := .imm E9 fun (a0 : C4) => .body (A91 k a0) (D7 [.bool] [])
noncomputable def Bc5 (k : Nat) : Cfg := { eqs := [], tab := [(3, (.int .i64)), (29, E9), (31, A5)], spec := [(39, M8 k), (43, Cb0 k)], mspec := [], inl := [(12, Tryz.f12)], keep := [], join := [], hold := [], ptrs := [], maps := [], fuel := k }
noncomputable def Cz2 : VV → Ms → Option Bool := H0 [.bool] []
theorem Dn1 (k : Nat) (a0 : A0) : D1 (Bc5 k) Cz2 k 12 [C3 A5 a0] ms0 = V0 k a0 := by kernel_rfl
noncomputable def d9 (k : Nat) : Spec := .imm A5 fun (a0 : A0) => .body (V0 k a0) (D7 [.bool] [])
noncomputable def Aw1 (k : Nat) : Cfg := { eqs := [], tab := [(3, (.int .i64)), (5, (.int .u8)), (9, .str), (22, (.slice 5 (.int .u8)))], spec := [(39, M8 k)], mspec := [], inl := [(93, Tryz.f93)], keep := [(9300001004, [0, 4])], join := [], hold := [(9300001004, [(4, [0], 5, (.int .u8), false, false)])], ptrs := [], maps := [], fuel := k }
noncomputable def Bc6 : VV → Ms → Option (ByteArray × Bool) := H0 [.str, .bool] []
noncomputable def An5 (k n : Nat) (a0 : Int) (xs1 : List Int) : Option (ByteArray × Bool) := w7 (Aw1 k) Bc6 n true 9300001004 (cd [1, 1, 1, 0, 0, 0] (bo Tryz.f93)) [.b 0, .s (cd [1, 1, 1, 1] (bo Tryz.f93)), .fn Tryz.f93] ⟨⟨(P4 25 0 [(0, one (.int .i64 a0)), (4, one (.row 9000000 none none))]), [(9000000, .row 5 (.int .u8) xs1 true)]⟩, 9300001000, 1, [(0, (P4 0 0 []))]⟩
theorem D76 (k n : Nat) (a0 : Int) (xs1 : List Int) : An5 k (n + 1) a0 xs1 = A02 k (An5 k n) a0 xs1 := by kernel_rfl
theorem Cv2 (k : Nat) : ∀ n : Nat, An5 k n = l8 k n
 | 0 => (by funext a0 xs1; rfl)
 | n + 1 => by
  obtain h0 := Cv2 k n
  exact (by funext a0 xs1; rw [D76, h0] <;> rfl)
theorem Eo3 (k : Nat) (a0 : Int) : D1 (Aw1 k) Bc6 k 93 [C3 (.int .i64) a0] ms0 = A92 k (An5 k k) a0 := by kernel_rfl
theorem Eo4 (k : Nat) (a0 : Int) : D1 (Aw1 k) Bc6 k 93 [C3 (.int .i64) a0] ms0 = X1 k a0 := by rw [Eo3, show An5 k k = l8 k k from (Cv2 k k)] <;> rfl
noncomputable def A14 (k : Nat) : Spec := .imm (.int .i64) fun (a0 : Int) => .body (X1 k a0) (D7 [.str, .bool] [])
noncomputable def Aj4 (k : Nat) : Cfg := { eqs := [], tab := [(5, (.int .u8)), (9, .str), (139, (.int .u32))], spec := [], mspec := [], inl := [(133, Tryz.f133)], keep := [(13300001002, [0, 1, 5]), (13300001006, [0, 1, 5, 6])], join := [], hold := [], ptrs := [], maps := [], fuel := k }
noncomputable def At3 : VV → Ms → Option Int := H0 [(.int .u32)] []
noncomputable def An6 (k n : Nat) (a0 : Int) (a1 : ByteArray) (v1 : Int) : Option Int := w7 (Aj4 k) At3 n true 13300001002 (cd [1, 0, 1, 0, 0] (bo Tryz.f133)) [.b 0, .s (cd [1, 1] (bo Tryz.f133)), .fn Tryz.f133] ⟨⟨(P4 33 0 [(0, one (.int .u32 a0)), (1, one (.str a1)), (5, one (.int .i64 v1))]), []⟩, 13300001000, 1, [(0, (P4 0 0 []))]⟩
noncomputable def A15 (k n : Nat) (v2 : Int) (a1 : ByteArray) (v1 : Int) (v3 : Int) : Option Int := w7 (Aj4 k) At3 n true 13300001006 (cd [1, 0, 1, 0, 0, 1, 0, 0, 1, 1, 0, 0] (bo Tryz.f133)) [.b 2, .b 1, .s (cd [1, 0, 1, 0, 0, 1, 1] (bo Tryz.f133)), .l 13300001002 (cd [1, 0, 1, 0, 0] (bo Tryz.f133)), .b 0, .s (cd [1, 1] (bo Tryz.f133)), .fn Tryz.f133] ⟨⟨(P4 33 0 [(0, one (.int .u32 v2)), (1, one (.str a1)), (5, one (.int .i64 v1)), (6, one (.int .i64 v3))]), []⟩, 13300001000, 1, [(0, (P4 0 0 []))]⟩
theorem D77 (k n : Nat) (a0 : Int) (a1 : ByteArray) (v1 : Int) : An6 k (n + 1) a0 a1 v1 = Bk8 k (A15 k n) a0 a1 v1 := by kernel_rfl
theorem D78 (k n : Nat) (v2 : Int) (a1 : ByteArray) (v1 : Int) (v3 : Int) : A15 k (n + 1) v2 a1 v1 v3 = Bk9 k (A15 k n) (An6 k n) v2 a1 v1 v3 := by kernel_rfl
theorem Cv3 (k : Nat) : ∀ n : Nat, An6 k n = Bl0 k n ∧ A15 k n = D11 k n
 | 0 => ⟨(by funext a0 a1 v1; rfl), (by funext v2 a1 v1 v3; rfl)⟩
 | n + 1 => by
  obtain ⟨h0, h1⟩ := Cv3 k n
  exact ⟨(by funext a0 a1 v1; rw [D77, h1] <;> rfl), (by funext v2 a1 v1 v3; rw [D78, h1, h0] <;> rfl)⟩
theorem Eo5 (k : Nat) (a0 : Int) (a1 : ByteArray) : D1 (Aj4 k) At3 k 133 [C3 (.int .u32) a0, C3 .str a1] ms0 = Cr8 k (An6 k k) a0 a1 := by kernel_rfl
theorem Eo6 (k : Nat) (a0 : Int) (a1 : ByteArray) : D1 (Aj4 k) At3 k 133 [C3 (.int .u32) a0, C3 .str a1] ms0 = B31 k a0 a1 := by rw [Eo5, show An6 k k = Bl0 k k from (Cv3 k k).1] <;> rfl
noncomputable def Ci4 (k : Nat) : Spec := .imm (.int .u32) fun (a0 : Int) => .imm .str fun (a1 : ByteArray) => .body (B31 k a0 a1) (D7 [(.int .u32)] [])
noncomputable def Cn8 (k : Nat) : Cfg := { eqs := [], tab := [], spec := [(133, Ci4 k)], mspec := [], inl := [(94, Tryz.f94)], keep := [], join := [], hold := [], ptrs := [], maps := [], fuel := k }
noncomputable def Eo7 : VV → Ms → Option Int := H0 [(.int .u32)] []
theorem Fr8 (k : Nat) (a0 : ByteArray) : D1 (Cn8 k) Eo7 k 94 [C3 .str a0] ms0 = Cd9 k a0 := by kernel_rfl
noncomputable def De7 (k : Nat) : Spec := .imm .str fun (a0 : ByteArray) => .body (Cd9 k a0) (D7 [(.int .u32)] [])
noncomputable def Cn9 (k : Nat) : Cfg := { eqs := [], tab := [(5, (.int .u8)), (9, .str), (22, (.slice 5 (.int .u8))), (139, (.int .u32))], spec := [(39, M8 k), (93, A14 k), (94, De7 k)], mspec := [], inl := [(41, Tryz.f41)], keep := [], join := [], hold := [], ptrs := [], maps := [], fuel := k }
noncomputable def Eo8 : VV → Ms → Option (ByteArray × Bool) := H0 [.str, .bool] []
theorem Fr9 (k : Nat) (a0 : ByteArray) : D1 (Cn9 k) Eo8 k 41 [C3 .str a0] ms0 = l9 k a0 := by kernel_rfl
noncomputable def A72 (k : Nat) : Spec := .imm .str fun (a0 : ByteArray) => .body (l9 k a0) (D7 [.str, .bool] [])
noncomputable def B01 (k : Nat) : Cfg := { eqs := [], tab := [(3, (.int .i64)), (9, .str), (22, (.slice 5 (.int .u8))), (49, (.slice 3 (.int .i64)))], spec := [(93, A14 k)], mspec := [], inl := [(75, Tryz.f75)], keep := [(7500001003, [4, 9, 10, 11])], join := [], hold := [(7500001003, [(4, [0], 5, (.int .u8), false, false)])], ptrs := [], maps := [], fuel := k }
noncomputable def Cb1 : VV → Ms → Option (ByteArray × Bool) := H0 [.str, .bool] []
noncomputable def Bg7 (k n : Nat) (a0 : List Int) (v1 : Int) (xs2 : List Int) : Option (ByteArray × Bool) := w7 (B01 k) Cb1 n true 7500001003 (cd [1, 1, 0, 1, 0, 0] (bo Tryz.f75)) [.b 0, .s (cd [1, 1, 1] (bo Tryz.f75)), .fn Tryz.f75] ⟨⟨(P4 28 0 [(4, one (.row 9000000 none none)), (9, one (.slc 3 (.int .i64) a0)), (10, one (.int .i64 (a0.length : Int))), (11, one (.int .i64 v1))]), [(9000000, .row 5 (.int .u8) xs2 true)]⟩, 7500001000, 1, [(0, (P4 0 0 []))]⟩
theorem Fs0 (k n : Nat) (a0 : List Int) (v1 : Int) (xs2 : List Int) : Bg7 k (n + 1) a0 v1 xs2 = B32 k (Bg7 k n) a0 v1 xs2 := by kernel_rfl
theorem Eo9 (k : Nat) : ∀ n : Nat, Bg7 k n = Aq3 k n
 | 0 => (by funext a0 v1 xs2; rfl)
 | n + 1 => by
  obtain h0 := Eo9 k n
  exact (by funext a0 v1 xs2; rw [Fs0, h0] <;> rfl)
theorem F22 (k : Nat) (a0 : List Int) : D1 (B01 k) Cb1 k 75 [C3 (.slice 3 (.int .i64)) a0] ms0 = C94 k (Bg7 k k) a0 := by kernel_rfl
theorem F23 (k : Nat) (a0 : List Int) : D1 (B01 k) Cb1 k 75 [C3 (.slice 3 (.int .i64)) a0] ms0 = B92 k a0 := by rw [F22, show Bg7 k k = Aq3 k k from (Eo9 k k)] <;> rfl
noncomputable def Co0 (k : Nat) : Spec := .imm (.slice 3 (.int .i64)) fun (a0 : List Int) => .body (B92 k a0) (D7 [.str, .bool] [])
noncomputable def Bc7 (k : Nat) : Cfg := { eqs := [], tab := [(49, (.slice 3 (.int .i64)))], spec := [(41, A72 k), (75, Co0 k)], mspec := [], inl := [(36, Tryz.f36)], keep := [], join := [], hold := [], ptrs := [], maps := [], fuel := k }
noncomputable def Cz3 : VV → Ms → Option ByteArray := H0 [.str] []
theorem Dn2 (k : Nat) (a0 : ByteArray) (a1 : Int) (a2 : Int) : D1 (Bc7 k) Cz3 k 36 [C3 .str a0, C3 (.int .i64) a1, C3 (.int .i64) a2] ms0 = J7 k a0 a1 a2 := by kernel_rfl
noncomputable def A73 (k : Nat) : Spec := .imm .str fun (a0 : ByteArray) => .imm (.int .i64) fun (a1 : Int) => .imm (.int .i64) fun (a2 : Int) => .body (J7 k a0 a1 a2) (D7 [.str] [])
noncomputable def Bc8 (k : Nat) : Cfg := { eqs := [], tab := [(3, (.int .i64)), (5, (.int .u8)), (9, .str), (22, (.slice 5 (.int .u8))), (49, (.slice 3 (.int .i64))), (85, C2)], spec := [(39, M8 k), (75, Co0 k), (97, A13 k)], mspec := [], inl := [(89, Tryz.f89)], keep := [], join := [], hold := [], ptrs := [], maps := [], fuel := k }
noncomputable def Cz4 : VV → Ms → Option (ByteArray × Bool) := H0 [.str, .bool] []
theorem Dn3 (k : Nat) (a0 : Int) (a1 : A9) : D1 (Bc8 k) Cz4 k 89 [C3 (.int .i64) a0, C3 C2 a1] ms0 = Ai8 k a0 a1 := by kernel_rfl
noncomputable def B02 (k : Nat) : Spec := .imm (.int .i64) fun (a0 : Int) => .imm C2 fun (a1 : A9) => .body (Ai8 k a0 a1) (D7 [.str, .bool] [])
noncomputable def o6 (k : Nat) : Cfg := { eqs := [], tab := [(3, (.int .i64)), (9, .str), (22, (.slice 5 (.int .u8))), (27, (.slice 85 C2)), (29, E9), (85, C2)], spec := [(41, A72 k), (89, B02 k)], mspec := [], inl := [(37, Tryz.f37)], keep := [(3700001003, [2, 5, 6])], join := [], hold := [(3700001003, [(5, [0], 5, (.int .u8), false, false)])], ptrs := [], maps := [], fuel := k }
noncomputable def An7 : VV → Ms → Option ByteArray := H0 [.str] []
noncomputable def e9 (k n : Nat) (a1 : Int) (a0 : C4) (xs1 : List Int) : Option ByteArray := w7 (o6 k) An7 n true 3700001003 (cd [1, 1, 0, 1, 0, 0] (bo Tryz.f37)) [.b 0, .s (cd [1, 1, 1] (bo Tryz.f37)), .fn Tryz.f37] ⟨⟨(P4 43 0 [(2, one (.ptr 9000000 0)), (5, one (.row 9000001 none none)), (6, one (.int .i64 a1))]), [(9000000, .box [.int .i64 a0.1, .int .i64 a0.2.1, .slc 85 C2 a0.2.2.1]), (9000001, .row 5 (.int .u8) xs1 true)]⟩, 3700001000, 1, [(0, (P4 0 0 []))]⟩
theorem Co1 (k n : Nat) (a1 : Int) (a0 : C4) (xs1 : List Int) : e9 k (n + 1) a1 a0 xs1 = Ac0 k (e9 k n) a1 a0 xs1 := by kernel_rfl
theorem Bq0 (k : Nat) : ∀ n : Nat, e9 k n = Q4 k n
 | 0 => (by funext a1 a0 xs1; rfl)
 | n + 1 => by
  obtain h0 := Bq0 k n
  exact (by funext a1 a0 xs1; rw [Co1, h0] <;> rfl)
theorem Cz5 (k : Nat) (a0 : C4) (a1 : Int) : D1 (o6 k) An7 k 37 [C3 E9 a0, C3 (.int .i64) a1] ms0 = Bp0 k (e9 k k) a0 a1 := by kernel_rfl
theorem Cz6 (k : Nat) (a0 : C4) (a1 : Int) : D1 (o6 k) An7 k 37 [C3 E9 a0, C3 (.int .i64) a1] ms0 = G2 k a0 a1 := by rw [Cz5, show e9 k k = Q4 k k from (Bq0 k k)] <;> rfl
noncomputable def As0 (k : Nat) : Spec := .imm E9 fun (a0 : C4) => .imm (.int .i64) fun (a1 : Int) => .body (G2 k a0 a1) (D7 [.str] [])
noncomputable def Ay2 (k : Nat) : Cfg := { eqs := [], tab := [(3, (.int .i64)), (9, .str), (29, E9), (31, A5)], spec := [(12, d9 k), (36, A73 k), (37, As0 k)], mspec := [], inl := [(9, Tryz.f9)], keep := [], join := [], hold := [], ptrs := [], maps := [], fuel := k }
noncomputable def Ci5 : VV → Ms → Option (ByteArray × Bool) := H0 [.str, .bool] []
theorem Cz7 (k : Nat) (a0 : A0) : D1 (Ay2 k) Ci5 k 9 [C3 A5 a0] ms0 = q7 k a0 := by kernel_rfl
noncomputable def As1 (k : Nat) : Spec := .imm A5 fun (a0 : A0) => .body (q7 k a0) (D7 [.str, .bool] [])
noncomputable def Aw2 (k : Nat) : Cfg := { eqs := [], tab := [(3, (.int .i64)), (5, (.int .u8)), (9, .str)], spec := [(39, M8 k), (93, A14 k)], mspec := [], inl := [(90, Tryz.f90)], keep := [(9000001005, [0, 1, 7, 8])], join := [], hold := [], ptrs := [], maps := [], fuel := k }
noncomputable def Bc9 : VV → Ms → Option (Int × Int × Bool) := H0 [(.int .i64), (.int .i64), .bool] []
noncomputable def An8 (k n : Nat) (a0 : ByteArray) (a1 : Int) (v1 : Int) (v2 : Int) : Option (Int × Int × Bool) := w7 (Aw2 k) Bc9 n true 9000001005 (cd [1, 1, 1, 0, 1, 0, 0] (bo Tryz.f90)) [.b 0, .s (cd [1, 1, 1, 1] (bo Tryz.f90)), .fn Tryz.f90] ⟨⟨(P4 63 0 [(0, one (.str a0)), (1, one (.int .i64 a1)), (7, one (.int .i64 v1)), (8, one (.int .i64 v2))]), []⟩, 9000001000, 1, [(0, (P4 0 0 []))]⟩
theorem D79 (k n : Nat) (a0 : ByteArray) (a1 : Int) (v1 : Int) (v2 : Int) : An8 k (n + 1) a0 a1 v1 v2 = Al0 k (An8 k n) a0 a1 v1 v2 := by kernel_rfl
theorem Cv4 (k : Nat) : ∀ n : Nat, An8 k n = S0 k n
 | 0 => (by funext a0 a1 v1 v2; rfl)
 | n + 1 => by
  obtain h0 := Cv4 k n
  exact (by funext a0 a1 v1 v2; rw [D79, h0] <;> rfl)
theorem Ep0 (k : Nat) (a0 : ByteArray) (a1 : Int) : D1 (Aw2 k) Bc9 k 90 [C3 .str a0, C3 (.int .i64) a1] ms0 = Bu7 k (An8 k k) a0 a1 := by kernel_rfl
theorem Ep1 (k : Nat) (a0 : ByteArray) (a1 : Int) : D1 (Aw2 k) Bc9 k 90 [C3 .str a0, C3 (.int .i64) a1] ms0 = q8 k a0 a1 := by rw [Ep0, show An8 k k = S0 k k from (Cv4 k k)] <;> rfl
noncomputable def Bo2 (k : Nat) : Spec := .imm .str fun (a0 : ByteArray) => .imm (.int .i64) fun (a1 : Int) => .body (q8 k a0 a1) (D7 [(.int .i64), (.int .i64), .bool] [])
noncomputable def Aw3 (k : Nat) : Cfg := { eqs := [], tab := [(9, .str), (75, (.slice 9 .str))], spec := [(41, A72 k), (90, Bo2 k)], mspec := [], inl := [(38, Tryz.f38)], keep := [(3800001005, [0, 4, 5])], join := [], hold := [(3800001005, [(4, [0], 9, .str, false, false)])], ptrs := [], maps := [], fuel := k }
noncomputable def Bd0 : VV → Ms → Option (List ByteArray × Int) := H0 [(.slice 9 .str), (.int .i64)] [.o]
noncomputable def An9 (k n : Nat) (a0 : ByteArray) (v1 : Int) (xs2 : List ByteArray) : Option (List ByteArray × Int) := w7 (Aw3 k) Bd0 n true 3800001005 (cd [1, 1, 1, 1, 0, 0] (bo Tryz.f38)) [.b 0, .fn Tryz.f38] ⟨⟨(P4 71 0 [(0, one (.str a0)), (4, one (.row 9000000 none none)), (5, one (.int .i64 v1))]), [(9000000, .row 9 .str xs2 true)]⟩, 3800001000, 1, [(0, (P4 0 0 []))]⟩
theorem D80 (k n : Nat) (a0 : ByteArray) (v1 : Int) (xs2 : List ByteArray) : An9 k (n + 1) a0 v1 xs2 = Bl1 k (An9 k n) a0 v1 xs2 := by kernel_rfl
theorem Cv5 (k : Nat) : ∀ n : Nat, An9 k n = m7 k n
 | 0 => (by funext a0 v1 xs2; rfl)
 | n + 1 => by
  obtain h0 := Cv5 k n
  exact (by funext a0 v1 xs2; rw [D80, h0] <;> rfl)
theorem Ep2 (k : Nat) (a0 : ByteArray) : D1 (Aw3 k) Bd0 k 38 [C3 .str a0] ms0 = Cr9 k (An9 k k) a0 := by kernel_rfl
theorem Ep3 (k : Nat) (a0 : ByteArray) : D1 (Aw3 k) Bd0 k 38 [C3 .str a0] ms0 = Bf0 k a0 := by rw [Ep2, show An9 k k = m7 k k from (Cv5 k k)] <;> rfl
noncomputable def Ci6 (k : Nat) : Spec := .imm .str fun (a0 : ByteArray) => .body (Bf0 k a0) (D7 [(.slice 9 .str), (.int .i64)] [.o])
noncomputable def A74 (k : Nat) : Cfg := { eqs := [], tab := [(3, (.int .i64)), (4, .bool), (9, .str), (122, G8)], spec := [(90, Bo2 k)], mspec := [], inl := [(79, Tryz.f79)], keep := [], join := [], hold := [], ptrs := [], maps := [], fuel := k }
noncomputable def Co2 : VV → Ms → Option (Int × M7 × Unit) := A78 [(.int .i64)] [] [.box G8]
theorem De8 (k : Nat) (a0 : M7) : D1 (A74 k) Co2 k 79 (N1 1 [.box G8] (a0, ())) (ms1 [.box G8] (a0, ())) = X8 k a0 := by kernel_rfl
noncomputable def Ay3 (k : Nat) : MSpec := .box G8 fun (a0 : M7) => .body (X8 k a0) (fun r => D7 [(.int .i64)] [] r.1) (fun r => poV [.box G8] r.2)
noncomputable def Ay4 (k : Nat) : Cfg := { eqs := [], tab := [(3, (.int .i64)), (4, .bool), (5, (.int .u8)), (9, .str), (122, G8)], spec := [], mspec := [], inl := [(91, Tryz.f91)], keep := [], join := [], hold := [], ptrs := [], maps := [], fuel := k }
noncomputable def Ci7 : VV → Ms → Option (Int × M7 × Unit) := A78 [(.int .i64)] [] [.box G8]
theorem Cz8 (k : Nat) (a0 : M7) : D1 (Ay4 k) Ci7 k 91 (N1 1 [.box G8] (a0, ())) (ms1 [.box G8] (a0, ())) = S1 k a0 := by kernel_rfl
noncomputable def As2 (k : Nat) : MSpec := .box G8 fun (a0 : M7) => .body (S1 k a0) (fun r => D7 [(.int .i64)] [] r.1) (fun r => poV [.box G8] r.2)
noncomputable def Ay5 (k : Nat) : Cfg := { eqs := [], tab := [(3, (.int .i64)), (4, .bool), (9, .str), (122, G8)], spec := [], mspec := [], inl := [(92, Tryz.f92)], keep := [], join := [], hold := [], ptrs := [], maps := [], fuel := k }
noncomputable def Ci8 : VV → Ms → Option (Bool × M7 × Unit) := A78 [.bool] [] [.box G8]
theorem Cz9 (k : Nat) (a0 : M7) : D1 (Ay5 k) Ci8 k 92 (N1 1 [.box G8] (a0, ())) (ms1 [.box G8] (a0, ())) = q9 k a0 := by kernel_rfl
noncomputable def Bg8 (k : Nat) : MSpec := .box G8 fun (a0 : M7) => .body (q9 k a0) (fun r => D7 [.bool] [] r.1) (fun r => poV [.box G8] r.2)
noncomputable def De9 (k : Nat) : Cfg := { eqs := [], tab := [(3, (.int .i64)), (5, (.int .u8)), (122, G8)], spec := [], mspec := [(79, Ay3 k), (91, As2 k), (92, Bg8 k)], inl := [(40, Tryz.f40)], keep := [], join := [], hold := [], ptrs := [], maps := [], fuel := k }
noncomputable def E85 : VV → Ms → Option (Int × Int × Bool) := H0 [(.int .i64), (.int .i64), .bool] []
theorem F24 (k : Nat) (a0 : ByteArray) (a1 : Int) : D1 (De9 k) E85 k 40 [C3 .str a0, C3 (.int .u8) a1] ms0 = Bu8 k a0 a1 := by kernel_rfl
noncomputable def Co3 (k : Nat) : Spec := .imm .str fun (a0 : ByteArray) => .imm (.int .u8) fun (a1 : Int) => .body (Bu8 k a0 a1) (D7 [(.int .i64), (.int .i64), .bool] [])
noncomputable def Bd1 (k : Nat) : Cfg := { eqs := [], tab := [(3, (.int .i64)), (4, .bool), (9, .str), (85, C2), (122, G8)], spec := [(39, M8 k), (97, A13 k)], mspec := [(79, Ay3 k), (91, As2 k)], inl := [(95, Tryz.f95)], keep := [], join := [], hold := [], ptrs := [], maps := [], fuel := k }
noncomputable def C00 : VV → Ms → Option (Int × A9 × Bool) := H0 [(.int .i64), C2, .bool] []
theorem Dn4 (k : Nat) (a0 : ByteArray) : D1 (Bd1 k) C00 k 95 [C3 .str a0] ms0 = Au4 k a0 := by kernel_rfl
noncomputable def B03 (k : Nat) : Spec := .imm .str fun (a0 : ByteArray) => .body (Au4 k a0) (D7 [(.int .i64), C2, .bool] [])
noncomputable def B04 (k : Nat) : Cfg := { eqs := [], tab := [(27, (.slice 85 C2)), (29, E9)], spec := [], mspec := [], inl := [(49, Tryz.f49)], keep := [], join := [], hold := [], ptrs := [], maps := [], fuel := k }
noncomputable def Dn5 : VV → Ms → Option C4 := H0 [E9] [.o]
theorem Ep4 (k : Nat) (a0 : C4) : D1 (B04 k) Dn5 k 49 [C3 E9 a0] ms0 = I2 k a0 := by kernel_rfl
noncomputable def A16 (k : Nat) : Spec := .imm E9 fun (a0 : C4) => .body (I2 k a0) (D7 [E9] [.o])
noncomputable def Df0 (k : Nat) : Cfg := { eqs := [], tab := [(3, (.int .i64)), (27, (.slice 85 C2)), (29, E9)], spec := [], mspec := [], inl := [(134, Tryz.f134)], keep := [], join := [], hold := [], ptrs := [], maps := [], fuel := k }
noncomputable def E86 : VV → Ms → Option Int := H0 [(.int .i64)] []
theorem F25 (k : Nat) (a0 : C4) : D1 (Df0 k) E86 k 134 [C3 E9 a0] ms0 = C95 k a0 := by kernel_rfl
noncomputable def Dx4 (k : Nat) : Spec := .imm E9 fun (a0 : C4) => .body (C95 k a0) (D7 [(.int .i64)] [])
noncomputable def Cb2 (k : Nat) : Cfg := { eqs := [], tab := [(3, (.int .i64)), (27, (.slice 85 C2)), (29, E9), (85, C2)], spec := [(39, M8 k), (43, Cb0 k), (49, A16 k), (134, Dx4 k)], mspec := [], inl := [(96, Tryz.f96)], keep := [], join := [], hold := [], ptrs := [], maps := [], fuel := k }
noncomputable def D81 : VV → Ms → Option (C4 × Bool) := H0 [E9, .bool] [.o]
theorem E87 (k : Nat) (a0 : C4) (a1 : Int) (a2 : A9) : D1 (Cb2 k) D81 k 96 [C3 E9 a0, C3 (.int .i64) a1, C3 C2 a2] ms0 = Bu9 k a0 a1 a2 := by kernel_rfl
noncomputable def Cv6 (k : Nat) : Spec := .imm E9 fun (a0 : C4) => .imm (.int .i64) fun (a1 : Int) => .imm C2 fun (a2 : A9) => .body (Bu9 k a0 a1 a2) (D7 [E9, .bool] [.o])
noncomputable def Df1 (k : Nat) : Cfg := { eqs := [], tab := [(3, (.int .i64)), (29, E9), (31, A5), (85, C2)], spec := [(12, d9 k), (40, Co3 k), (95, B03 k), (96, Cv6 k)], mspec := [], inl := [(42, Tryz.f42)], keep := [], join := [], hold := [], ptrs := [], maps := [], fuel := k }
noncomputable def E88 : VV → Ms → Option (A0 × Bool) := H0 [A5, .bool] [.s]
theorem F26 (k : Nat) (a0 : A0) (a1 : ByteArray) : D1 (Df1 k) E88 k 42 [C3 A5 a0, C3 .str a1] ms0 = Bv0 k a0 a1 := by kernel_rfl
noncomputable def Dx5 (k : Nat) : Spec := .imm A5 fun (a0 : A0) => .imm .str fun (a1 : ByteArray) => .body (Bv0 k a0 a1) (D7 [A5, .bool] [.s])
noncomputable def X3 (k : Nat) : Cfg := { eqs := [], tab := [(9, .str), (29, E9), (31, A5), (75, (.slice 9 .str))], spec := [(12, d9 k), (38, Ci6 k), (39, M8 k), (40, Co3 k), (41, A72 k), (42, Dx5 k)], mspec := [], inl := [(10, Tryz.f10)], keep := [(1000001011, [4, 12, 15, 65, 66, 67])], join := [], hold := [], ptrs := [], maps := [], fuel := k }
noncomputable def u0 : VV → Ms → Option (A0 × Int × Bool) := H0 [A5, (.int .i64), .bool] [.s]
noncomputable def Ad1 (k n : Nat) (v1 : Int) (r1 : List ByteArray × Int) (v2 : Int) (v3 : Int) (v4 : Int) (v5 : Int) (v6 : Int) (v7 : Int) (v8 : List A9) : Option (A0 × Int × Bool) := w7 (X3 k) u0 n true 1000001011 (cd [1, 1, 1, 1, 1, 1, 1, 1, 0, 1, 0, 0] (bo Tryz.f10)) [.b 0, .s (cd [1, 1, 1, 1, 1, 1, 1, 1, 1] (bo Tryz.f10)), .fn Tryz.f10] ⟨⟨(P4 92 0 [(4, one (.ptr 9000000 0)), (12, one (.ptr 9000001 0)), (15, one (.int .i64 v1)), (65, one (.row 9000002 (some 1) none)), (66, one (.int .i64 (((r1.1.length - 1) : Nat) : Int))), (67, one (.int .i64 v2))]), [(9000000, .box [.int .i64 0, .int .i64 0, .int .i64 0, .int .i64 0, .int .i64 0, .nilS]), (9000001, .box [.int .i64 v3, .int .i64 v4, .int .i64 v5, .int .i64 v6, .int .i64 v7, .slc 85 C2 v8]), (9000002, .row 9 .str r1.1 true)]⟩, 1000001000, 1, [(0, (P4 0 0 []))]⟩
noncomputable def Ad2 (k n : Nat) (r5 : ByteArray × Bool) (r1 : List ByteArray × Int) (a0 : Int) (r3 : Int × Int × Bool) : Option (A0 × Int × Bool) := w7 (X3 k) u0 n true 1000001011 (cd [1, 1, 1, 1, 1, 1, 1, 1, 0, 1, 0, 0] (bo Tryz.f10)) [.b 0, .s (cd [1, 1, 1, 1, 1, 1, 1, 1, 1] (bo Tryz.f10)), .fn Tryz.f10] ⟨⟨(P4 92 0 [(4, one (.ptr 9000000 0)), (12, one (.ptr 9000001 0)), (15, one (.int .i64 (r5.1.size : Int))), (65, one (.row 9000002 (some 1) none)), (66, one (.int .i64 (((r1.1.length - 1) : Nat) : Int))), (67, one (.int .i64 0))]), [(9000000, .box [.int .i64 0, .int .i64 0, .int .i64 0, .int .i64 0, .int .i64 0, .nilS]), (9000001, .box [.int .i64 a0, .int .i64 0, .int .i64 0, .int .i64 r3.1, .int .i64 r3.2.1, .nilS]), (9000002, .row 9 .str r1.1 true)]⟩, 1000001000, 1, [(0, (P4 0 0 []))]⟩
theorem Co4 (k n : Nat) (v1 : Int) (r1 : List ByteArray × Int) (v2 : Int) (v3 : Int) (v4 : Int) (v5 : Int) (v6 : Int) (v7 : Int) (v8 : List A9) : Ad1 k (n + 1) v1 r1 v2 v3 v4 v5 v6 v7 v8 = Aq4 k (Ad1 k n) v1 r1 v2 v3 v4 v5 v6 v7 v8 := by kernel_rfl
theorem Co5 (k n : Nat) (r5 : ByteArray × Bool) (r1 : List ByteArray × Int) (a0 : Int) (r3 : Int × Int × Bool) : Ad2 k (n + 1) r5 r1 a0 r3 = Ac1 k (Ad1 k n) r5 r1 a0 r3 := by kernel_rfl
theorem Bq1 (k : Nat) : ∀ n : Nat, Ad1 k n = V6 k n ∧ Ad2 k n = M0 k n
 | 0 => ⟨(by funext v1 r1 v2 v3 v4 v5 v6 v7 v8; rfl), (by funext r5 r1 a0 r3; rfl)⟩
 | n + 1 => by
  obtain ⟨h1, h0⟩ := Bq1 k n
  exact ⟨(by funext v1 r1 v2 v3 v4 v5 v6 v7 v8; rw [Co4, h1] <;> rfl), (by funext r5 r1 a0 r3; rw [Co5, h1] <;> rfl)⟩
theorem C01 (k : Nat) (a0 : Int) (a1 : ByteArray) : D1 (X3 k) u0 k 10 [C3 (.int .i64) a0, C3 .str a1] ms0 = Bp1 k (Ad2 k k) a0 a1 := by kernel_rfl
theorem C02 (k : Nat) (a0 : Int) (a1 : ByteArray) : D1 (X3 k) u0 k 10 [C3 (.int .i64) a0, C3 .str a1] ms0 = N2 k a0 a1 := by rw [C01, show Ad2 k k = M0 k k from (Bq1 k k).2] <;> rfl
noncomputable def Ad3 (k : Nat) : Spec := .imm (.int .i64) fun (a0 : Int) => .imm .str fun (a1 : ByteArray) => .body (N2 k a0 a1) (D7 [A5, (.int .i64), .bool] [.s])
noncomputable def Aw4 (k : Nat) : Cfg := { eqs := [85], tab := [(3, (.int .i64)), (27, (.slice 85 C2)), (29, E9), (85, C2)], spec := [], mspec := [], inl := [(11, Tryz.f11)], keep := [(1100001004, [2, 3, 5])], join := [], hold := [], ptrs := [], maps := [], fuel := k }
noncomputable def Bd2 : VV → Ms → Option Bool := H0 [.bool] []
noncomputable def Ao0 (k n : Nat) (v1 : Int) (a0 : C4) (a1 : C4) : Option Bool := w7 (Aw4 k) Bd2 n true 1100001004 (cd [1, 1, 0, 1, 0, 0] (bo Tryz.f11)) [.b 0, .s (cd [1, 1, 1] (bo Tryz.f11)), .fn Tryz.f11] ⟨⟨(P4 45 0 [(2, one (.ptr 9000000 0)), (3, one (.ptr 9000001 0)), (5, one (.int .i64 v1))]), [(9000000, .box [.int .i64 a0.1, .int .i64 a0.2.1, .slc 85 C2 a0.2.2.1]), (9000001, .box [.int .i64 a1.1, .int .i64 a1.2.1, .slc 85 C2 a1.2.2.1])]⟩, 1100001000, 1, [(0, (P4 0 0 []))]⟩
theorem D82 (k n : Nat) (v1 : Int) (a0 : C4) (a1 : C4) : Ao0 k (n + 1) v1 a0 a1 = A03 k (Ao0 k n) v1 a0 a1 := by kernel_rfl
theorem Cv7 (k : Nat) : ∀ n : Nat, Ao0 k n = m8 k n
 | 0 => (by funext v1 a0 a1; rfl)
 | n + 1 => by
  obtain h0 := Cv7 k n
  exact (by funext v1 a0 a1; rw [D82, h0] <;> rfl)
theorem Ep5 (k : Nat) (a0 : C4) (a1 : C4) : D1 (Aw4 k) Bd2 k 11 [C3 E9 a0, C3 E9 a1] ms0 = Cs0 k (Ao0 k k) a0 a1 := by kernel_rfl
theorem Ep6 (k : Nat) (a0 : C4) (a1 : C4) : D1 (Aw4 k) Bd2 k 11 [C3 E9 a0, C3 E9 a1] ms0 = Aq5 k a0 a1 := by rw [Ep5, show Ao0 k k = m8 k k from (Cv7 k k)] <;> rfl
noncomputable def Ci9 (k : Nat) : Spec := .imm E9 fun (a0 : C4) => .imm E9 fun (a1 : C4) => .body (Aq5 k a0 a1) (D7 [.bool] [])
noncomputable def Bq2 (k : Nat) : Spec := A36 (D7 [.str] []) [.int .i64] fun x => Ce0 k x.1
noncomputable def B05 (k : Nat) : Cfg := { eqs := [], tab := [], spec := [(114, Bq2 k)], mspec := [], inl := [(63, Tryz.f63)], keep := [], join := [], hold := [], ptrs := [], maps := [], fuel := k }
noncomputable def Dn6 : VV → Ms → Option ByteArray := H0 [.str] []
theorem Ep7 (k : Nat) (a0 : Int) : D1 (B05 k) Dn6 k 63 [C3 (.int .i64) a0] ms0 = A26 k a0 := by kernel_rfl
noncomputable def Cj0 (k : Nat) : Spec := .imm (.int .i64) fun (a0 : Int) => .body (A26 k a0) (D7 [.str] [])
noncomputable def Ay6 (k : Nat) : Cfg := { eqs := [], tab := [], spec := [(39, M8 k), (63, Cj0 k)], mspec := [], inl := [(18, Tryz.f18)], keep := [], join := [], hold := [], ptrs := [], maps := [], fuel := k }
noncomputable def Cj1 : VV → Ms → Option ByteArray := H0 [.str] []
theorem C03 (k : Nat) (a0 : Int) : D1 (Ay6 k) Cj1 k 18 [C3 (.int .i64) a0] ms0 = O6 k a0 := by kernel_rfl
noncomputable def g7 (k : Nat) : Spec := .imm (.int .i64) fun (a0 : Int) => .body (O6 k a0) (D7 [.str] [])
noncomputable def A75 (k : Nat) : Cfg := { eqs := [], tab := [(9, .str), (24, (.slice 99 J0)), (26, D9), (99, J0)], spec := [], mspec := [], inl := [(98, Tryz.f98), (135, Tryz.f135), (136, Tryz.f136)], keep := [(13500002002, [0, 1, 7, 8])], join := [], hold := [], ptrs := [], maps := [], fuel := k }
noncomputable def Bo3 : VV → Ms → Option Int := H0 [(.int .i64)] []
noncomputable def Aw5 (k n : Nat) (a0 : B4) (v1 : Int) (a1 : ByteArray) : Option Int := w7 (A75 k) Bo3 n true 13500002002 (cd [1, 0, 1, 0, 0] (bo Tryz.f135)) [.b 0, .s (cd [1, 1] (bo Tryz.f135)), .fn Tryz.f135, .op (rg (cd [1, 0] (bo Tryz.f98))) ((rg (cd [1, 0] (bo Tryz.f98))).drop 4) 4 (some 8), .s (cd [1, 1] (bo Tryz.f98)), .fn Tryz.f98] ⟨⟨(P4 19 0 [(0, one (.slc 99 J0 a0.1)), (1, one (.fn 136 [9000000])), (7, one (.int .i64 (a0.1.length : Int))), (8, one (.int .i64 v1))]), [(9000000, .box [.str a1]), (9000001, .box [.slc 99 J0 a0.1])]⟩, 13500002000, 2, [(9800001000, (P4 9 0 [(0, .v ⟨true, [.slc 99 J0 a0.1]⟩), (1, one (.str a1)), (2, one (.ptr 9000001 0)), (3, one (.ptr 9000000 0)), (4, one (.int .i64 0)), (5, one (.ptr 9000001 0)), (6, one (.slc 99 J0 a0.1)), (7, one (.fn 136 [9000000]))])), (0, (P4 0 0 []))]⟩
theorem Ep8 (k n : Nat) (a0 : B4) (v1 : Int) (a1 : ByteArray) : Aw5 k (n + 1) a0 v1 a1 = A93 k (Aw5 k n) a0 v1 a1 := by kernel_rfl
theorem Df2 (k : Nat) : ∀ n : Nat, Aw5 k n = z8 k n
 | 0 => (by funext a0 v1 a1; rfl)
 | n + 1 => by
  obtain h0 := Df2 k n
  exact (by funext a0 v1 a1; rw [Ep8, h0] <;> rfl)
theorem E89 (k : Nat) (a0 : B4) (a1 : ByteArray) : D1 (A75 k) Bo3 k 98 [C3 D9 a0, C3 .str a1] ms0 = C96 k (Aw5 k k) a0 a1 := by kernel_rfl
theorem E90 (k : Nat) (a0 : B4) (a1 : ByteArray) : D1 (A75 k) Bo3 k 98 [C3 D9 a0, C3 .str a1] ms0 = Bf1 k a0 a1 := by rw [E89, show Aw5 k k = z8 k k from (Df2 k k)] <;> rfl
noncomputable def B06 (k : Nat) : Spec := .imm D9 fun (a0 : B4) => .imm .str fun (a1 : ByteArray) => .body (Bf1 k a0 a1) (D7 [(.int .i64)] [])
noncomputable def Cb3 (k : Nat) : Cfg := { eqs := [], tab := [(9, .str), (24, (.slice 99 J0)), (26, D9), (99, J0)], spec := [(98, B06 k)], mspec := [], inl := [(44, Tryz.f44)], keep := [], join := [], hold := [], ptrs := [], maps := [], fuel := k }
noncomputable def D83 : VV → Ms → Option (ByteArray × Bool) := H0 [.str, .bool] []
theorem E91 (k : Nat) (a0 : B4) (a1 : ByteArray) : D1 (Cb3 k) D83 k 44 [C3 D9 a0, C3 .str a1] ms0 = A46 k a0 a1 := by kernel_rfl
noncomputable def B07 (k : Nat) : Spec := .imm D9 fun (a0 : B4) => .imm .str fun (a1 : ByteArray) => .body (A46 k a0 a1) (D7 [.str, .bool] [])
noncomputable def A76 (k : Nat) : Cfg := { eqs := [], tab := [(3, (.int .i64)), (9, .str), (24, (.slice 99 J0)), (26, D9), (99, J0)], spec := [(39, M8 k)], mspec := [], inl := [(45, Tryz.f45)], keep := [(4500001002, [1, 6, 7, 8])], join := [], hold := [], ptrs := [], maps := [], fuel := k }
noncomputable def Bo4 : VV → Ms → Option Bool := H0 [.bool] []
noncomputable def Aw6 (k n : Nat) (a0 : B4) (v1 : Int) : Option Bool := w7 (A76 k) Bo4 n true 4500001002 (cd [1, 0, 1, 0, 0] (bo Tryz.f45)) [.b 0, .s (cd [1, 1] (bo Tryz.f45)), .fn Tryz.f45] ⟨⟨(P4 54 0 [(1, one (.ptr 9000000 0)), (6, one (.slc 99 J0 a0.1)), (7, one (.int .i64 (a0.1.length : Int))), (8, one (.int .i64 v1))]), [(9000000, .box [.slc 99 J0 a0.1])]⟩, 4500001000, 1, [(0, (P4 0 0 []))]⟩
theorem Ep9 (k n : Nat) (a0 : B4) (v1 : Int) : Aw6 k (n + 1) a0 v1 = A94 k (Aw6 k n) a0 v1 := by kernel_rfl
theorem Df3 (k : Nat) : ∀ n : Nat, Aw6 k n = Aa0 k n
 | 0 => (by funext a0 v1; rfl)
 | n + 1 => by
  obtain h0 := Df3 k n
  exact (by funext a0 v1; rw [Ep9, h0] <;> rfl)
theorem E92 (k : Nat) (a0 : B4) : D1 (A76 k) Bo4 k 45 [C3 D9 a0] ms0 = C97 k (Aw6 k k) a0 := by kernel_rfl
theorem E93 (k : Nat) (a0 : B4) : D1 (A76 k) Bo4 k 45 [C3 D9 a0] ms0 = A47 k a0 := by rw [E92, show Aw6 k k = Aa0 k k from (Df3 k k)] <;> rfl
noncomputable def B08 (k : Nat) : Spec := .imm D9 fun (a0 : B4) => .body (A47 k a0) (D7 [.bool] [])
noncomputable def H3 (k : Nat) : Cfg := { eqs := [85], tab := [(27, (.slice 85 C2)), (85, C2)], spec := [], mspec := [], inl := [(137, Tryz.f137)], keep := [(13700001004, [0, 1, 12, 13])], join := [], hold := [], ptrs := [], maps := [], fuel := k }
noncomputable def L6 : VV → Ms → Option Bool := H0 [.bool] []
noncomputable def G9 (k n : Nat) (a0 : List A9) (a1 : List A9) (v1 : Int) : Option Bool := w7 (H3 k) L6 n true 13700001004 (cd [1, 1, 0, 1, 0, 0] (bo Tryz.f137)) [.b 0, .s (cd [1, 1, 1] (bo Tryz.f137)), .fn Tryz.f137] ⟨⟨(P4 26 0 [(0, one (.slc 85 C2 a0)), (1, one (.slc 85 C2 a1)), (12, one (.int .i64 (a0.length : Int))), (13, one (.int .i64 v1))]), []⟩, 13700001000, 1, [(0, (P4 0 0 []))]⟩
theorem Ad4 (k n : Nat) (a0 : List A9) (a1 : List A9) (v1 : Int) : G9 k (n + 1) a0 a1 v1 = I6 k (G9 k n) a0 a1 v1 := by kernel_rfl
theorem U2 (k : Nat) : ∀ n : Nat, G9 k n = E4 k n
 | 0 => (by funext a0 a1 v1; rfl)
 | n + 1 => by
  obtain h0 := U2 k n
  exact (by funext a0 a1 v1; rw [Ad4, h0] <;> rfl)
theorem Ae1 (k : Nat) (a0 : List A9) (a1 : List A9) : D1 (H3 k) L6 k 137 [C3 (.slice 85 C2) a0, C3 (.slice 85 C2) a1] ms0 = U1 k (G9 k k) a0 a1 := by kernel_rfl
theorem Ae2 (k : Nat) (a0 : List A9) (a1 : List A9) : D1 (H3 k) L6 k 137 [C3 (.slice 85 C2) a0, C3 (.slice 85 C2) a1] ms0 = H7 k a0 a1 := by rw [Ae1, show G9 k k = E4 k k from (U2 k k)] <;> rfl
noncomputable def T6 (k : Nat) : Spec := .imm (.slice 85 C2) fun (a0 : List A9) => .imm (.slice 85 C2) fun (a1 : List A9) => .body (H7 k a0 a1) (D7 [.bool] [])
noncomputable def B09 (k : Nat) : Cfg := { eqs := [], tab := [(3, (.int .i64)), (27, (.slice 85 C2)), (29, E9)], spec := [(137, T6 k)], mspec := [], inl := [(99, Tryz.f99)], keep := [], join := [], hold := [], ptrs := [], maps := [], fuel := k }
noncomputable def Dn7 : VV → Ms → Option Bool := H0 [.bool] []
theorem Eq0 (k : Nat) (a0 : C4) (a1 : C4) : D1 (B09 k) Dn7 k 99 [C3 E9 a0, C3 E9 a1] ms0 = Bf2 k a0 a1 := by kernel_rfl
noncomputable def Cj2 (k : Nat) : Spec := .imm E9 fun (a0 : C4) => .imm E9 fun (a1 : C4) => .body (Bf2 k a0 a1) (D7 [.bool] [])
noncomputable def Ay7 (k : Nat) : Cfg := { eqs := [], tab := [(3, (.int .i64)), (29, E9), (31, A5)], spec := [(99, Cj2 k)], mspec := [], inl := [(46, Tryz.f46)], keep := [], join := [], hold := [], ptrs := [], maps := [], fuel := k }
noncomputable def Cj3 : VV → Ms → Option Bool := H0 [.bool] []
theorem C04 (k : Nat) (a0 : A0) (a1 : A0) : D1 (Ay7 k) Cj3 k 46 [C3 A5 a0, C3 A5 a1] ms0 = Ae8 k a0 a1 := by kernel_rfl
noncomputable def Bg9 (k : Nat) : Spec := .imm A5 fun (a0 : A0) => .imm A5 fun (a1 : A0) => .body (Ae8 k a0 a1) (D7 [.bool] [])
noncomputable def B10 (k : Nat) : Cfg := { eqs := [], tab := [(26, D9)], spec := [(98, B06 k)], mspec := [], inl := [(47, Tryz.f47)], keep := [], join := [], hold := [], ptrs := [], maps := [], fuel := k }
noncomputable def Dn8 : VV → Ms → Option Bool := H0 [.bool] []
theorem Eq1 (k : Nat) (a0 : B4) (a1 : ByteArray) : D1 (B10 k) Dn8 k 47 [C3 D9 a0, C3 .str a1] ms0 = B33 k a0 a1 := by kernel_rfl
noncomputable def Cj4 (k : Nat) : Spec := .imm D9 fun (a0 : B4) => .imm .str fun (a1 : ByteArray) => .body (B33 k a0 a1) (D7 [.bool] [])
noncomputable def Df4 (k : Nat) : Cfg := { eqs := [], tab := [(3, (.int .i64)), (29, E9), (31, A5), (40, (.slice 93 b7)), (93, b7)], spec := [(9, As1 k), (18, g7 k), (49, A16 k)], mspec := [], inl := [(48, Tryz.f48)], keep := [], join := [], hold := [], ptrs := [], maps := [], fuel := k }
noncomputable def E94 : VV → Ms → Option (List E8 × A0 × Bool) := H0 [(.slice 93 b7), A5, .bool] [.o, .o]
theorem F27 (k : Nat) (a0 : Int) (a1 : A0) : D1 (Df4 k) E94 k 48 [C3 (.int .i64) a0, C3 A5 a1] ms0 = W7 k a0 a1 := by kernel_rfl
noncomputable def Co6 (k : Nat) : Spec := .imm (.int .i64) fun (a0 : Int) => .imm A5 fun (a1 : A0) => .body (W7 k a0 a1) (D7 [(.slice 93 b7), A5, .bool] [.o, .o])
noncomputable def o7 (k : Nat) : Cfg := { eqs := [85], tab := [(3, (.int .i64)), (9, .str), (26, D9), (27, (.slice 85 C2)), (29, E9), (31, A5), (40, (.slice 93 b7)), (85, C2), (93, b7)], spec := [(10, Ad3 k), (12, d9 k), (18, g7 k), (36, A73 k), (37, As0 k), (44, B07 k), (45, B08 k), (46, Bg9 k), (47, Cj4 k), (48, Co6 k), (49, A16 k)], mspec := [], inl := [(13, Tryz.f13)], keep := [(1300001008, [4, 5, 7, 9, 10, 15, 16, 17])], join := [], hold := [], ptrs := [], maps := [], fuel := k }
noncomputable def Ao1 : VV → Ms → Option (List E8 × A0 × Bool) := H0 [(.slice 93 b7), A5, .bool] [.o, .o]
noncomputable def g8 (k n : Nat) (r1 : ByteArray) (r2 : ByteArray × Bool) (v1 : Int) (a1 : A0) (a2 : A0) : Option (List E8 × A0 × Bool) := w7 (o7 k) Ao1 n true 1300001008 (cd [1, 1, 1, 1, 1, 1, 1, 0, 0, 0] (bo Tryz.f13)) [.b 0, .s (cd [1, 1, 1, 1, 1, 1, 1, 1] (bo Tryz.f13)), .fn Tryz.f13] ⟨⟨(P4 184 0 [(4, one (.ptr 9000000 0)), (5, one (.ptr 9000001 0)), (7, one (.ptr 9000002 0)), (9, one (.str r1)), (10, one (.str r2.1)), (15, one (.ptr 9000003 0)), (16, one (.ptr 9000004 0)), (17, one (.int .i64 v1))]), [(9000000, .box [.int .i64 a1.1, .int .i64 a1.2.1, .int .i64 a1.2.2.1, .int .i64 a1.2.2.2.1.1, .int .i64 a1.2.2.2.1.2.1, .slc 85 C2 a1.2.2.2.1.2.2.1]), (9000001, .box [.int .i64 a2.1, .int .i64 a2.2.1, .int .i64 a2.2.2.1, .int .i64 a2.2.2.2.1.1, .int .i64 a2.2.2.2.1.2.1, .slc 85 C2 a2.2.2.2.1.2.2.1]), (9000002, .box [.int .i64 0, .int .i64 0, .int .i64 0, .int .i64 0, .int .i64 0, .nilS]), (9000003, .box [.int .i64 a1.2.2.2.1.1, .int .i64 a1.2.2.2.1.2.1, .slc 85 C2 a1.2.2.2.1.2.2.1]), (9000004, .box [.int .i64 a2.2.2.2.1.1, .int .i64 a2.2.2.2.1.2.1, .slc 85 C2 a2.2.2.2.1.2.2.1])]⟩, 1300001000, 1, [(0, (P4 0 0 []))]⟩
theorem Co7 (k n : Nat) (r1 : ByteArray) (r2 : ByteArray × Bool) (v1 : Int) (a1 : A0) (a2 : A0) : g8 k (n + 1) r1 r2 v1 a1 a2 = Aq6 k (g8 k n) r1 r2 v1 a1 a2 := by kernel_rfl
theorem Bq3 (k : Nat) : ∀ n : Nat, g8 k n = Q5 k n
 | 0 => (by funext r1 r2 v1 a1 a2; rfl)
 | n + 1 => by
  obtain h0 := Bq3 k n
  exact (by funext r1 r2 v1 a1 a2; rw [Co7, h0] <;> rfl)
theorem C05 (k : Nat) (a0 : B4) (a1 : A0) (a2 : A0) : D1 (o7 k) Ao1 k 13 [C3 D9 a0, C3 A5 a1, C3 A5 a2] ms0 = Ax3 k (g8 k k) a0 a1 a2 := by kernel_rfl
theorem C06 (k : Nat) (a0 : B4) (a1 : A0) (a2 : A0) : D1 (o7 k) Ao1 k 13 [C3 D9 a0, C3 A5 a1, C3 A5 a2] ms0 = s5 k a0 a1 a2 := by rw [C05, show g8 k k = Q5 k k from (Bq3 k k)] <;> rfl
noncomputable def Bh0 (k : Nat) : Spec := .imm D9 fun (a0 : B4) => .imm A5 fun (a1 : A0) => .imm A5 fun (a2 : A0) => .body (s5 k a0 a1 a2) (D7 [(.slice 93 b7), A5, .bool] [.o, .o])
noncomputable def P0 (k : Nat) : Cfg := { eqs := [], tab := [(9, .str)], spec := [], mspec := [], inl := [(164, Tryz.f164)], keep := [], join := [], hold := [], ptrs := [], maps := [], fuel := k }
noncomputable def Ah6 : VV → Ms → Option Bool := H0 [.bool] []
theorem Ao2 (k : Nat) (a0 : ByteArray) (a1 : ByteArray) : D1 (P0 k) Ah6 k 164 [C3 .str a0, C3 .str a1] ms0 = M1 k a0 a1 := by kernel_rfl
noncomputable def W5 (k : Nat) : Spec := .imm .str fun (a0 : ByteArray) => .imm .str fun (a1 : ByteArray) => .body (M1 k a0 a1) (D7 [.bool] [])
noncomputable def P1 (k : Nat) : Cfg := { eqs := [], tab := [(9, .str)], spec := [(164, W5 k)], mspec := [], inl := [(146, Tryz.f146)], keep := [], join := [], hold := [], ptrs := [], maps := [], fuel := k }
noncomputable def Ah7 : VV → Ms → Option (ByteArray × Bool) := H0 [.str, .bool] []
theorem Ao3 (k : Nat) (a0 : ByteArray) (a1 : ByteArray) : D1 (P1 k) Ah7 k 146 [C3 .str a0, C3 .str a1] ms0 = M2 k a0 a1 := by kernel_rfl
noncomputable def W6 (k : Nat) : Spec := .imm .str fun (a0 : ByteArray) => .imm .str fun (a1 : ByteArray) => .body (M2 k a0 a1) (D7 [.str, .bool] [])
noncomputable def Ae3 (k : Nat) : Cfg := { eqs := [], tab := [], spec := [(146, W6 k)], mspec := [], inl := [(112, Tryz.f112)], keep := [], join := [], hold := [], ptrs := [], maps := [], fuel := k }
noncomputable def Br6 : VV → Ms → Option (ByteArray × Bool) := H0 [.str, .bool] []
theorem B48 (k : Nat) (a0 : ByteArray) (a1 : ByteArray) : D1 (Ae3 k) Br6 k 112 [C3 .str a0, C3 .str a1] ms0 = t6 k a0 a1 := by kernel_rfl
noncomputable def Aw7 (k : Nat) : Spec := .imm .str fun (a0 : ByteArray) => .imm .str fun (a1 : ByteArray) => .body (t6 k a0 a1) (D7 [.str, .bool] [])
noncomputable def Bh1 (k : Nat) : Spec := A36 (D7 [.int .i64, .bool] []) [.str] fun x => B65 k x.1
noncomputable def Bo5 (k : Nat) : Cfg := { eqs := [], tab := [], spec := [(112, Aw7 k), (113, Bh1 k)], mspec := [], inl := [(62, Tryz.f62)], keep := [], join := [], hold := [], ptrs := [], maps := [], fuel := k }
noncomputable def Df5 : VV → Ms → Option Int := H0 [(.int .i64)] []
theorem D84 (k : Nat) (a0 : ByteArray) (a1 : ByteArray) (a2 : Int) : D1 (Bo5 k) Df5 k 62 [C3 .str a0, C3 .str a1, C3 (.int .i64) a2] ms0 = m9 k a0 a1 a2 := by kernel_rfl
noncomputable def B77 (k : Nat) : Spec := .imm .str fun (a0 : ByteArray) => .imm .str fun (a1 : ByteArray) => .imm (.int .i64) fun (a2 : Int) => .body (m9 k a0 a1 a2) (D7 [(.int .i64)] [])
noncomputable def X4 (k : Nat) : Cfg := { eqs := [], tab := [(9, .str), (24, (.slice 99 J0)), (26, D9), (31, A5), (40, (.slice 93 b7)), (93, b7), (99, J0)], spec := [(10, Ad3 k), (18, g7 k), (44, B07 k), (45, B08 k), (48, Co6 k), (62, B77 k)], mspec := [], inl := [(16, Tryz.f16)], keep := [(1600001003, [1, 2, 5, 20, 21, 22]), (1600001015, [2, 5, 8, 10, 11, 13, 58, 59, 60])], join := [], hold := [(1600001015, [(13, [0], 93, b7, false, false)])], ptrs := [], maps := [], fuel := k }
noncomputable def u2 : VV → Ms → Option (A0 × List E8 × Bool) := H0 [A5, (.slice 93 b7), .bool] [.s, .o]
noncomputable def Ad5 (k n : Nat) (v1 : Int) (r4 : ByteArray × Bool) (r5 : A0 × Int × Bool) (a0 : B4) (v3 : Int) (xs4 : List E8) : Option (A0 × List E8 × Bool) := w7 (X4 k) u2 n true 1600001015 (cd [1, 1, 1, 1, 1, 1, 1, 1, 0, 1, 0, 0] (bo Tryz.f16)) [.b 2, .s (cd [1, 1, 1, 1, 1, 1, 1, 1, 1] (bo Tryz.f16)), .fn Tryz.f16] ⟨⟨(P4 106 0 [(2, one (.ptr 9000000 0)), (5, one (.int .i64 v1)), (8, one (.str r4.1)), (10, one (.ptr 9000001 0)), (11, one (.int .i64 r5.2.1)), (13, one (.row 9000002 none none)), (58, one (.slc 99 J0 a0.1)), (59, one (.int .i64 (a0.1.length : Int))), (60, one (.int .i64 v3))]), [(9000000, .box [.int .i64 0, .int .i64 0, .int .i64 0, .int .i64 0, .int .i64 0, .nilS]), (9000001, .box [.int .i64 r5.1.1, .int .i64 r5.1.2.1, .int .i64 r5.1.2.2.1, .int .i64 r5.1.2.2.2.1.1, .int .i64 r5.1.2.2.2.1.2.1, .slc 85 C2 r5.1.2.2.2.1.2.2.1]), (9000002, .row 93 b7 xs4 true)]⟩, 1600001000, 1, [(0, (P4 0 0 []))]⟩
noncomputable def g9 (k n : Nat) (v1 : Int) (a0 : B4) (v2 : Int) : Option (A0 × List E8 × Bool) := w7 (X4 k) u2 n true 1600001003 (cd [1, 1, 0, 1, 0, 0] (bo Tryz.f16)) [.b 0, .s (cd [1, 1, 1] (bo Tryz.f16)), .fn Tryz.f16] ⟨⟨(P4 106 0 [(1, one (.ptr 9000000 0)), (2, one (.ptr 9000001 0)), (5, one (.int .i64 v1)), (20, one (.slc 99 J0 a0.1)), (21, one (.int .i64 (a0.1.length : Int))), (22, one (.int .i64 v2))]), [(9000000, .box [.slc 99 J0 a0.1]), (9000001, .box [.int .i64 0, .int .i64 0, .int .i64 0, .int .i64 0, .int .i64 0, .nilS])]⟩, 1600001000, 1, [(0, (P4 0 0 []))]⟩
theorem Co8 (k n : Nat) (v1 : Int) (r4 : ByteArray × Bool) (r5 : A0 × Int × Bool) (a0 : B4) (v3 : Int) (xs4 : List E8) : Ad5 k (n + 1) v1 r4 r5 a0 v3 xs4 = Ac2 k (Ad5 k n) v1 r4 r5 a0 v3 xs4 := by kernel_rfl
theorem Co9 (k n : Nat) (v1 : Int) (a0 : B4) (v2 : Int) : g9 k (n + 1) v1 a0 v2 = Ac3 k (g9 k n) (Ad5 k n) v1 a0 v2 := by kernel_rfl
theorem Bq4 (k : Nat) : ∀ n : Nat, Ad5 k n = V7 k n ∧ g9 k n = Q6 k n
 | 0 => ⟨(by funext v1 r4 r5 a0 v3 xs4; rfl), (by funext v1 a0 v2; rfl)⟩
 | n + 1 => by
  obtain ⟨h1, h0⟩ := Bq4 k n
  exact ⟨(by funext v1 r4 r5 a0 v3 xs4; rw [Co8, h1] <;> rfl), (by funext v1 a0 v2; rw [Co9, h0, h1] <;> rfl)⟩
theorem C07 (k : Nat) (a0 : B4) : D1 (X4 k) u2 k 16 [C3 D9 a0] ms0 = Bp2 k (g9 k k) a0 := by kernel_rfl
theorem C08 (k : Nat) (a0 : B4) : D1 (X4 k) u2 k 16 [C3 D9 a0] ms0 = s6 k a0 := by rw [C07, show g9 k k = Q6 k k from (Bq4 k k).2] <;> rfl
noncomputable def Bh2 (k : Nat) : Spec := .imm D9 fun (a0 : B4) => .body (s6 k a0) (D7 [A5, (.slice 93 b7), .bool] [.s, .o])
noncomputable def Aw8 (k : Nat) : Cfg := { eqs := [], tab := [(3, (.int .i64)), (9, .str), (24, (.slice 99 J0)), (26, D9), (99, J0)], spec := [(53, A98 k)], mspec := [], inl := [(17, Tryz.f17)], keep := [(1700001004, [1, 3])], join := [], hold := [], ptrs := [], maps := [], fuel := k }
noncomputable def Bd3 : VV → Ms → Option Bool := H0 [.bool] []
noncomputable def Ao4 (k n : Nat) (v1 : Int) (a0 : B4) : Option Bool := w7 (Aw8 k) Bd3 n true 1700001004 (cd [1, 1, 0, 1, 0, 0] (bo Tryz.f17)) [.b 0, .s (cd [1, 1, 1] (bo Tryz.f17)), .fn Tryz.f17] ⟨⟨(P4 28 0 [(1, one (.ptr 9000000 0)), (3, one (.int .i64 v1))]), [(9000000, .box [.slc 99 J0 a0.1])]⟩, 1700001000, 1, [(0, (P4 0 0 []))]⟩
theorem D85 (k n : Nat) (v1 : Int) (a0 : B4) : Ao4 k (n + 1) v1 a0 = Bl2 k (Ao4 k n) v1 a0 := by kernel_rfl
theorem Cv8 (k : Nat) : ∀ n : Nat, Ao4 k n = Ac4 k n
 | 0 => (by funext v1 a0; rfl)
 | n + 1 => by
  obtain h0 := Cv8 k n
  exact (by funext v1 a0; rw [D85, h0] <;> rfl)
theorem Eq2 (k : Nat) (a0 : B4) : D1 (Aw8 k) Bd3 k 17 [C3 D9 a0] ms0 = Cs1 k (Ao4 k k) a0 := by kernel_rfl
theorem Eq3 (k : Nat) (a0 : B4) : D1 (Aw8 k) Bd3 k 17 [C3 D9 a0] ms0 = Bf3 k a0 := by rw [Eq2, show Ao4 k k = Ac4 k k from (Cv8 k k)] <;> rfl
noncomputable def Cj5 (k : Nat) : Spec := .imm D9 fun (a0 : B4) => .body (Bf3 k a0) (D7 [.bool] [])
noncomputable def A77 (k : Nat) : Cfg := { eqs := [], tab := [(3, (.int .i64)), (4, .bool), (9, .str), (26, D9), (29, E9), (31, A5), (40, (.slice 93 b7))], spec := [(7, Ei9 k), (8, An3 k), (9, As1 k), (10, Ad3 k), (11, Ci9 k), (12, d9 k), (13, Bh0 k), (14, Ar5 k), (15, By3 k), (16, Bh2 k), (17, Cj5 k), (18, g7 k)], mspec := [], inl := [(3, Tryz.f3)], keep := [], join := [], hold := [], ptrs := [], maps := [], fuel := k }
noncomputable def Cp0 : VV → Ms → Option Bool := H0 [.bool] []
theorem Df6 (k : Nat) (a0 : List Int) : D1 (A77 k) Cp0 k 3 [C3 (.slice 5 (.int .u8)) a0] ms0 = Ac5 k a0 := by kernel_rfl
noncomputable def C09 (k : Nat) : Spec := .imm (.slice 5 (.int .u8)) fun (a0 : List Int) => .body (Ac5 k a0) (D7 [.bool] [])
end Go.Vm
end
