/- The machine computes them. -/
import Derived.Test.YtcbpoomhabigeaaGreatDoorZc4
import Derived.Test.YtcbpoomhabigeaaGreatDoorProg
import Derived.KernelRfl
section
set_option linter.unusedVariables false
namespace Go.Vm
open Go Go.Proofs
abbrev J0 : Ty := (.fld .str (.fld .str (.fld (.int .i64) .nil)))
abbrev D8 : Ty := (.fld (.slice 99 J0) .nil)
abbrev G9 : Ty := (.fld .str (.fld (.int .i64) (.fld .bool .nil)))
abbrev C3 : Ty := (.fld (.int .i64) (.fld (.int .i64) (.fld .str .nil)))
abbrev E6 : Ty := (.fld (.int .i64) (.fld (.int .i64) (.fld (.slice 85 C3) .nil)))
abbrev A6 : Ty := (.fld (.int .i64) (.fld (.int .i64) (.fld (.int .i64) (.fld E6 .nil))))
abbrev X4 : Ty := (.fld (.int .i64) (.fld .str (.fld .str (.fld .str .nil))))
abbrev B9 : Ty := (.fld (.slice 5 (.int .u8)) (.fld (.int .i64) (.fld (.int .i64) .nil)))
abbrev H1 : Ty := (.fld (.int .i64) (.fld (.int .i64) (.fld (.int .i64) (.fld (.int .i64) (.fld (.int .i64) (.fld (.slice 3 (.int .i64)) (.fld .str (.fld (.slice 3 (.int .i64)) (.fld (.int .i64) .nil)))))))))
abbrev T2 : Ty := (.fld (.int .i64) (.fld (.int .i64) (.fld (.int .i64) (.fld H1 (.fld (.int .i64) (.fld (.int .i64) .nil))))))
abbrev Er0 : Ty := (.fld (.int .i64) (.fld (.int .i64) (.fld (.slice 3 (.int .i64)) .nil)))
abbrev Ck6 : Ty := (.fld (.int .i64) (.fld (.int .i64) .nil))
abbrev Ar3 : Ty := (.fld (.slice 162 H1) (.fld (.slice 215 (.slice 260 Ck6)) (.fld (.slice 4 .bool) .nil)))
abbrev A76 : Ty := (.fld (.slice 158 C3) (.fld Ar3 (.fld (.slice 164 Er0) .nil)))
noncomputable def Ea8 (k : Nat) : Cfg := { eqs := [], tab := [(22, (.slice 5 (.int .u8)))], spec := [], mspec := [], inl := [(7, Tryz.f7)], keep := [], join := [], hold := [], ptrs := [], maps := [], fuel := k }
noncomputable def F01 : VV → Ms → Option Bool := G5 [.bool] []
theorem Gp2 (k : Nat) (a0 : List Int) : D1 (Ea8 k) F01 k 7 [C4 (.slice 5 (.int .u8)) a0] ms0 = Eo0 k a0 := by kernel_rfl
noncomputable def Er1 (k : Nat) : Spec := .imm (.slice 5 (.int .u8)) fun (a0 : List Int) => .body (Eo0 k a0) (D9 [.bool] [])
noncomputable def Cs1 (k : Nat) : Cfg := { eqs := [], tab := [], spec := [], mspec := [], inl := [(55, Tryz.f55)], keep := [], join := [], hold := [], ptrs := [], maps := [], fuel := k }
noncomputable def Er2 : VV → Ms → Option Bool := G5 [.bool] []
theorem F02 (k : Nat) (a0 : Int) (a1 : Int) (a2 : Int) : D1 (Cs1 k) Er2 k 55 [C4 (.int .i64) a0, C4 (.int .i64) a1, C4 (.int .i64) a2] ms0 = E9 k a0 a1 a2 := by kernel_rfl
noncomputable def I3 (k : Nat) : Spec := .imm (.int .i64) fun (a0 : Int) => .imm (.int .i64) fun (a1 : Int) => .imm (.int .i64) fun (a2 : Int) => .body (E9 k a0 a1 a2) (D9 [.bool] [])
noncomputable def Bd5 (k : Nat) : Cfg := { eqs := [], tab := [(3, (.int .i64)), (5, (.int .u8))], spec := [], mspec := [], inl := [(138, Tryz.f138)], keep := [], join := [], hold := [], ptrs := [], maps := [], fuel := k }
noncomputable def C27 : VV → Ms → Option Int := G5 [(.int .u8)] []
theorem Dp8 (k : Nat) (a0 : Int) : D1 (Bd5 k) C27 k 138 [C4 (.int .i64) a0] ms0 = Av2 k a0 := by kernel_rfl
noncomputable def Bz8 (k : Nat) : Spec := .imm (.int .i64) fun (a0 : Int) => .body (Av2 k a0) (D9 [(.int .u8)] [])
noncomputable def Aw3 (k : Nat) : Cfg := { eqs := [], tab := [(9, .str), (22, (.slice 5 (.int .u8)))], spec := [(138, Bz8 k)], mspec := [], inl := [(100, Tryz.f100)], keep := [(10000001005, [0, 3, 4])], join := [], hold := [], ptrs := [], maps := [], fuel := k }
noncomputable def Bd6 : VV → Ms → Option ByteArray := G5 [.str] []
noncomputable def An1 (k n : Nat) (a0 : Int) (v1 : Bool) (v2 : ByteArray) : Option ByteArray := w7 (Aw3 k) Bd6 n true 10000001005 (cd [1, 1, 1, 1, 0, 0, 0] (bo Tryz.f100)) [.b 0, .s (cd [1, 1, 1, 1, 1] (bo Tryz.f100)), .fn Tryz.f100] ⟨⟨(O0 30 0 [(0, one (.int .i64 a0)), (3, one (.bool v1)), (4, one (.str v2))]), []⟩, 10000001000, 1, [(0, (O0 0 0 []))]⟩
theorem Ea9 (k n : Nat) (a0 : Int) (v1 : Bool) (v2 : ByteArray) : An1 k (n + 1) a0 v1 v2 = Ch8 k (An1 k n) a0 v1 v2 := by kernel_rfl
theorem Cy7 (k : Nat) : ∀ n : Nat, An1 k n = A16 k n
 | 0 => (by funext a0 v1 v2; rfl)
 | n + 1 => by
  obtain h0 := Cy7 k n
  exact (by funext a0 v1 v2; rw [Ea9, h0] <;> rfl)
theorem Er3 (k : Nat) (a0 : Int) : D1 (Aw3 k) Bd6 k 100 [C4 (.int .i64) a0] ms0 = Cw3 k (An1 k k) a0 := by kernel_rfl
theorem Er4 (k : Nat) (a0 : Int) : D1 (Aw3 k) Bd6 k 100 [C4 (.int .i64) a0] ms0 = A42 k a0 := by rw [Er3, show An1 k k = A16 k k from (Cy7 k k)] <;> rfl
noncomputable def Ck7 (k : Nat) : Spec := .imm (.int .i64) fun (a0 : Int) => .body (A42 k a0) (D9 [.str] [])
noncomputable def Az6 (k : Nat) : Cfg := { eqs := [], tab := [], spec := [(55, I3 k), (100, Ck7 k)], mspec := [], inl := [(50, Tryz.f50)], keep := [], join := [], hold := [], ptrs := [], maps := [], fuel := k }
noncomputable def Ck8 : VV → Ms → Option ByteArray := G5 [.str] []
theorem C28 (k : Nat) (a0 : Int) : D1 (Az6 k) Ck8 k 50 [C4 (.int .i64) a0] ms0 = V3 k a0 := by kernel_rfl
noncomputable def Ae4 (k : Nat) : Spec := .imm (.int .i64) fun (a0 : Int) => .body (V3 k a0) (D9 [.str] [])
noncomputable def Bi9 (k : Nat) : Cfg := { eqs := [], tab := [(9, .str), (24, (.slice 99 J0)), (26, D8), (99, J0)], spec := [], mspec := [], inl := [(101, Tryz.f101)], keep := [(10100001002, [1, 2, 5])], join := [], hold := [], ptrs := [], maps := [], fuel := k }
noncomputable def Bz9 : VV → Ms → Option Int := G5 [(.int .i64)] []
noncomputable def A77 (k n : Nat) (a1 : ByteArray) (v1 : Int) (a0 : B4) : Option Int := w7 (Bi9 k) Bz9 n true 10100001002 (cd [1, 0, 1, 0, 0] (bo Tryz.f101)) [.b 0, .s (cd [1, 1] (bo Tryz.f101)), .fn Tryz.f101] ⟨⟨(O0 22 0 [(1, one (.str a1)), (2, one (.ptr 9000000 0)), (5, one (.int .i64 v1))]), [(9000000, .box [.slc 99 J0 a0.1])]⟩, 10100001000, 1, [(0, (O0 0 0 []))]⟩
theorem Ff1 (k n : Nat) (a1 : ByteArray) (v1 : Int) (a0 : B4) : A77 k (n + 1) a1 v1 a0 = Bm6 k (A77 k n) a1 v1 a0 := by kernel_rfl
theorem D42 (k : Nat) : ∀ n : Nat, A77 k n = Ai0 k n
 | 0 => (by funext a1 v1 a0; rfl)
 | n + 1 => by
  obtain h0 := D42 k n
  exact (by funext a1 v1 a0; rw [Ff1, h0] <;> rfl)
theorem F03 (k : Nat) (a0 : B4) (a1 : ByteArray) : D1 (Bi9 k) Bz9 k 101 [C4 D8 a0, C4 .str a1] ms0 = D13 k (A77 k k) a0 a1 := by kernel_rfl
theorem F04 (k : Nat) (a0 : B4) (a1 : ByteArray) : D1 (Bi9 k) Bz9 k 101 [C4 D8 a0, C4 .str a1] ms0 = A17 k a0 a1 := by rw [F03, show A77 k k = Ai0 k k from (D42 k k)] <;> rfl
noncomputable def Ce7 (k : Nat) : Spec := .imm D8 fun (a0 : B4) => .imm .str fun (a1 : ByteArray) => .body (A17 k a0 a1) (D9 [(.int .i64)] [])
noncomputable def Ce8 (k : Nat) : Cfg := { eqs := [], tab := [(9, .str), (24, (.slice 99 J0)), (26, D8), (99, J0)], spec := [(101, Ce7 k)], mspec := [], inl := [(51, Tryz.f51)], keep := [], join := [], hold := [], ptrs := [], maps := [], fuel := k }
noncomputable def Eb0 : VV → Ms → Option (ByteArray × Bool) := G5 [.str, .bool] []
theorem Ff2 (k : Nat) (a0 : B4) (a1 : ByteArray) : D1 (Ce8 k) Eb0 k 51 [C4 D8 a0, C4 .str a1] ms0 = Bh1 k a0 a1 := by kernel_rfl
noncomputable def Cy8 (k : Nat) : Spec := .imm D8 fun (a0 : B4) => .imm .str fun (a1 : ByteArray) => .body (Bh1 k a0 a1) (D9 [.str, .bool] [])
noncomputable def A78 (k : Nat) : Cfg := { eqs := [], tab := [(3, (.int .i64)), (5, (.int .u8)), (9, .str), (22, (.slice 5 (.int .u8)))], spec := [], mspec := [], inl := [(109, Tryz.f109)], keep := [(10900001002, [0, 3])], join := [], hold := [], ptrs := [], maps := [], fuel := k }
noncomputable def Bp1 : VV → Ms → Option ByteArray := G5 [.str] []
noncomputable def Aw4 (k n : Nat) (a0 : Int) (xs1 : List Int) : Option ByteArray := w7 (A78 k) Bp1 n true 10900001002 (cd [1, 1, 0, 0, 0] (bo Tryz.f109)) [.b 0, .s (cd [1, 1, 1] (bo Tryz.f109)), .fn Tryz.f109] ⟨⟨(O0 22 0 [(0, one (.int .i64 a0)), (3, one (.row 9000000 none none))]), [(9000000, .row 5 (.int .u8) xs1 true)]⟩, 10900001000, 1, [(0, (O0 0 0 []))]⟩
theorem Er5 (k n : Nat) (a0 : Int) (xs1 : List Int) : Aw4 k (n + 1) a0 xs1 = Ba7 k (Aw4 k n) a0 xs1 := by kernel_rfl
theorem Di7 (k : Nat) : ∀ n : Nat, Aw4 k n = Aa7 k n
 | 0 => (by funext a0 xs1; rfl)
 | n + 1 => by
  obtain h0 := Di7 k n
  exact (by funext a0 xs1; rw [Er5, h0] <;> rfl)
theorem Ff3 (k : Nat) (a0 : Int) : D1 (A78 k) Bp1 k 109 [C4 (.int .i64) a0] ms0 = Cd3 k (Aw4 k k) a0 := by kernel_rfl
theorem Ff4 (k : Nat) (a0 : Int) : D1 (A78 k) Bp1 k 109 [C4 (.int .i64) a0] ms0 = J2 k a0 := by rw [Ff3, show Aw4 k k = Aa7 k k from (Di7 k k)] <;> rfl
noncomputable def T3 (k : Nat) : Spec := .imm (.int .i64) fun (a0 : Int) => .body (J2 k a0) (D9 [.str] [])
noncomputable def B00 (k : Nat) : Cfg := { eqs := [], tab := [(5, (.int .u8)), (9, .str), (22, (.slice 5 (.int .u8))), (139, (.int .u32))], spec := [], mspec := [], inl := [(144, Tryz.f144)], keep := [], join := [], hold := [], ptrs := [], maps := [], fuel := k }
noncomputable def Dp9 : VV → Ms → Option ByteArray := G5 [.str] []
theorem Er6 (k : Nat) (a0 : Int) : D1 (B00 k) Dp9 k 144 [C4 (.int .u32) a0] ms0 = B63 k a0 := by kernel_rfl
noncomputable def Ck9 (k : Nat) : Spec := .imm (.int .u32) fun (a0 : Int) => .body (B63 k a0) (D9 [.str] [])
noncomputable def Ak6 (k : Nat) : Cfg := { eqs := [], tab := [(5, (.int .u8)), (9, .str), (139, (.int .u32))], spec := [], mspec := [], inl := [(163, Tryz.f163)], keep := [(16300001002, [0, 1, 5]), (16300001006, [0, 1, 5, 6])], join := [], hold := [], ptrs := [], maps := [], fuel := k }
noncomputable def Au4 : VV → Ms → Option Int := G5 [(.int .u32)] []
noncomputable def An2 (k n : Nat) (a0 : Int) (a1 : ByteArray) (v1 : Int) : Option Int := w7 (Ak6 k) Au4 n true 16300001002 (cd [1, 0, 1, 0, 0] (bo Tryz.f163)) [.b 0, .s (cd [1, 1] (bo Tryz.f163)), .fn Tryz.f163] ⟨⟨(O0 33 0 [(0, one (.int .u32 a0)), (1, one (.str a1)), (5, one (.int .i64 v1))]), []⟩, 16300001000, 1, [(0, (O0 0 0 []))]⟩
noncomputable def A27 (k n : Nat) (v2 : Int) (a1 : ByteArray) (v1 : Int) (v3 : Int) : Option Int := w7 (Ak6 k) Au4 n true 16300001006 (cd [1, 0, 1, 0, 0, 1, 0, 0, 1, 1, 0, 0] (bo Tryz.f163)) [.b 2, .b 1, .s (cd [1, 0, 1, 0, 0, 1, 1] (bo Tryz.f163)), .l 16300001002 (cd [1, 0, 1, 0, 0] (bo Tryz.f163)), .b 0, .s (cd [1, 1] (bo Tryz.f163)), .fn Tryz.f163] ⟨⟨(O0 33 0 [(0, one (.int .u32 v2)), (1, one (.str a1)), (5, one (.int .i64 v1)), (6, one (.int .i64 v3))]), []⟩, 16300001000, 1, [(0, (O0 0 0 []))]⟩
theorem Eb1 (k n : Nat) (a0 : Int) (a1 : ByteArray) (v1 : Int) : An2 k (n + 1) a0 a1 v1 = Al6 k (A27 k n) a0 a1 v1 := by kernel_rfl
theorem Eb2 (k n : Nat) (v2 : Int) (a1 : ByteArray) (v1 : Int) (v3 : Int) : A27 k (n + 1) v2 a1 v1 v3 = Al7 k (A27 k n) (An2 k n) v2 a1 v1 v3 := by kernel_rfl
theorem Cy9 (k : Nat) : ∀ n : Nat, An2 k n = m9 k n ∧ A27 k n = Al8 k n
 | 0 => ⟨(by funext a0 a1 v1; rfl), (by funext v2 a1 v1 v3; rfl)⟩
 | n + 1 => by
  obtain ⟨h0, h1⟩ := Cy9 k n
  exact ⟨(by funext a0 a1 v1; rw [Eb1, h1] <;> rfl), (by funext v2 a1 v1 v3; rw [Eb2, h1, h0] <;> rfl)⟩
theorem Er7 (k : Nat) (a0 : Int) (a1 : ByteArray) : D1 (Ak6 k) Au4 k 163 [C4 (.int .u32) a0, C4 .str a1] ms0 = Cw4 k (An2 k k) a0 a1 := by kernel_rfl
theorem Er8 (k : Nat) (a0 : Int) (a1 : ByteArray) : D1 (Ak6 k) Au4 k 163 [C4 (.int .u32) a0, C4 .str a1] ms0 = B64 k a0 a1 := by rw [Er7, show An2 k k = m9 k k from (Cy9 k k).1] <;> rfl
noncomputable def Cl0 (k : Nat) : Spec := .imm (.int .u32) fun (a0 : Int) => .imm .str fun (a1 : ByteArray) => .body (B64 k a0 a1) (D9 [(.int .u32)] [])
noncomputable def Cs2 (k : Nat) : Cfg := { eqs := [], tab := [], spec := [(163, Cl0 k)], mspec := [], inl := [(145, Tryz.f145)], keep := [], join := [], hold := [], ptrs := [], maps := [], fuel := k }
noncomputable def Er9 : VV → Ms → Option Int := G5 [(.int .u32)] []
theorem F05 (k : Nat) (a0 : ByteArray) : D1 (Cs2 k) Er9 k 145 [C4 .str a0] ms0 = Bm7 k a0 := by kernel_rfl
noncomputable def Di8 (k : Nat) : Spec := .imm .str fun (a0 : ByteArray) => .body (Bm7 k a0) (D9 [(.int .u32)] [])
noncomputable def Cs3 (k : Nat) : Cfg := { eqs := [], tab := [(9, .str)], spec := [(55, I3 k), (109, T3 k), (144, Ck9 k), (145, Di8 k)], mspec := [], inl := [(106, Tryz.f106)], keep := [], join := [], hold := [], ptrs := [], maps := [], fuel := k }
noncomputable def Es0 : VV → Ms → Option (ByteArray × Bool) := G5 [.str, .bool] []
theorem F06 (k : Nat) (a0 : ByteArray) : D1 (Cs3 k) Es0 k 106 [C4 .str a0] ms0 = T4 k a0 := by kernel_rfl
noncomputable def As7 (k : Nat) : Spec := .imm .str fun (a0 : ByteArray) => .body (T4 k a0) (D9 [.str, .bool] [])
noncomputable def Aw5 (k : Nat) : Cfg := { eqs := [], tab := [(3, (.int .i64)), (5, (.int .u8)), (9, .str)], spec := [(55, I3 k), (109, T3 k)], mspec := [], inl := [(139, Tryz.f139)], keep := [(13900001006, [0, 1, 7, 8, 9])], join := [], hold := [], ptrs := [], maps := [], fuel := k }
noncomputable def Bd7 : VV → Ms → Option (Int × Int × Bool) := G5 [(.int .i64), (.int .i64), .bool] []
noncomputable def An3 (k n : Nat) (a0 : ByteArray) (a1 : Int) (v1 : Int) (v2 : Int) (v3 : Int) : Option (Int × Int × Bool) := w7 (Aw5 k) Bd7 n true 13900001006 (cd [1, 1, 1, 1, 0, 1, 0, 0] (bo Tryz.f139)) [.b 0, .s (cd [1, 1, 1, 1, 1] (bo Tryz.f139)), .fn Tryz.f139] ⟨⟨(O0 58 0 [(0, one (.str a0)), (1, one (.int .i64 a1)), (7, one (.int .i64 v1)), (8, one (.int .i64 v2)), (9, one (.int .i64 v3))]), []⟩, 13900001000, 1, [(0, (O0 0 0 []))]⟩
theorem Eb3 (k n : Nat) (a0 : ByteArray) (a1 : Int) (v1 : Int) (v2 : Int) (v3 : Int) : An3 k (n + 1) a0 a1 v1 v2 v3 = Al9 k (An3 k n) a0 a1 v1 v2 v3 := by kernel_rfl
theorem Cz0 (k : Nat) : ∀ n : Nat, An3 k n = R9 k n
 | 0 => (by funext a0 a1 v1 v2 v3; rfl)
 | n + 1 => by
  obtain h0 := Cz0 k n
  exact (by funext a0 a1 v1 v2 v3; rw [Eb3, h0] <;> rfl)
theorem Es1 (k : Nat) (a0 : ByteArray) (a1 : Int) : D1 (Aw5 k) Bd7 k 139 [C4 .str a0, C4 (.int .i64) a1] ms0 = Bx2 k (An3 k k) a0 a1 := by kernel_rfl
theorem Es2 (k : Nat) (a0 : ByteArray) (a1 : Int) : D1 (Aw5 k) Bd7 k 139 [C4 .str a0, C4 (.int .i64) a1] ms0 = u0 k a0 a1 := by rw [Es1, show An3 k k = R9 k k from (Cz0 k k)] <;> rfl
noncomputable def Bp2 (k : Nat) : Spec := .imm .str fun (a0 : ByteArray) => .imm (.int .i64) fun (a1 : Int) => .body (u0 k a0 a1) (D9 [(.int .i64), (.int .i64), .bool] [])
noncomputable def Aw6 (k : Nat) : Cfg := { eqs := [], tab := [(9, .str), (75, (.slice 9 .str))], spec := [(106, As7 k), (139, Bp2 k)], mspec := [], inl := [(102, Tryz.f102)], keep := [(10200001005, [0, 4, 5])], join := [], hold := [], ptrs := [], maps := [], fuel := k }
noncomputable def Bd8 : VV → Ms → Option (List ByteArray × Int) := G5 [(.slice 9 .str), (.int .i64)] [.o]
noncomputable def An4 (k n : Nat) (a0 : ByteArray) (v1 : Int) (xs2 : List ByteArray) : Option (List ByteArray × Int) := w7 (Aw6 k) Bd8 n true 10200001005 (cd [1, 1, 1, 1, 0, 0, 0] (bo Tryz.f102)) [.b 0, .s (cd [1, 1, 1, 1, 1] (bo Tryz.f102)), .fn Tryz.f102] ⟨⟨(O0 79 0 [(0, one (.str a0)), (4, one (.row 9000000 none none)), (5, one (.int .i64 v1))]), [(9000000, .row 9 .str xs2 true)]⟩, 10200001000, 1, [(0, (O0 0 0 []))]⟩
theorem Eb4 (k n : Nat) (a0 : ByteArray) (v1 : Int) (xs2 : List ByteArray) : An4 k (n + 1) a0 v1 xs2 = Bm8 k (An4 k n) a0 v1 xs2 := by kernel_rfl
theorem Cz1 (k : Nat) : ∀ n : Nat, An4 k n = n4 k n
 | 0 => (by funext a0 v1 xs2; rfl)
 | n + 1 => by
  obtain h0 := Cz1 k n
  exact (by funext a0 v1 xs2; rw [Eb4, h0] <;> rfl)
theorem Es3 (k : Nat) (a0 : ByteArray) : D1 (Aw6 k) Bd8 k 102 [C4 .str a0] ms0 = Cw5 k (An4 k k) a0 := by kernel_rfl
theorem Es4 (k : Nat) (a0 : ByteArray) : D1 (Aw6 k) Bd8 k 102 [C4 .str a0] ms0 = Bh2 k a0 := by rw [Es3, show An4 k k = n4 k k from (Cz1 k k)] <;> rfl
noncomputable def Cl1 (k : Nat) : Spec := .imm .str fun (a0 : ByteArray) => .body (Bh2 k a0) (D9 [(.slice 9 .str), (.int .i64)] [.o])
noncomputable def Ce9 (k : Nat) : Cfg := { eqs := [], tab := [(3, (.int .i64)), (4, .bool), (9, .str), (176, G9)], spec := [(139, Bp2 k)], mspec := [], inl := [(127, Tryz.f127)], keep := [], join := [], hold := [], ptrs := [], maps := [], fuel := k }
noncomputable def Eb5 : VV → Ms → Option (Int × M9 × Unit) := Ba1 [(.int .i64)] [] [.box G9]
theorem Ff5 (k : Nat) (a0 : M9) : D1 (Ce9 k) Eb5 k 127 (N3 1 [.box G9] (a0, ())) (ms1 [.box G9] (a0, ())) = Av3 k a0 := by kernel_rfl
noncomputable def B01 (k : Nat) : MSpec := .box G9 fun (a0 : M9) => .body (Av3 k a0) (fun r => D9 [(.int .i64)] [] r.1) (fun r => poV [.box G9] r.2)
noncomputable def B02 (k : Nat) : Cfg := { eqs := [], tab := [(3, (.int .i64)), (4, .bool), (9, .str), (176, G9)], spec := [], mspec := [], inl := [(140, Tryz.f140)], keep := [], join := [], hold := [], ptrs := [], maps := [], fuel := k }
noncomputable def Dq0 : VV → Ms → Option (ByteArray × M9 × Unit) := Ba1 [.str] [] [.box G9, .imm (.int .i64)]
theorem Es5 (k : Nat) (a0 : M9) (a1 : Int) : D1 (B02 k) Dq0 k 140 (N3 1 [.box G9, .imm (.int .i64)] (a0, a1, ())) (ms1 [.box G9, .imm (.int .i64)] (a0, a1, ())) = Ac8 k a0 a1 := by kernel_rfl
noncomputable def Bp3 (k : Nat) : MSpec := .box G9 fun (a0 : M9) => .imm (.int .i64) fun (a1 : Int) => .body (Ac8 k a0 a1) (fun r => D9 [.str] [] r.1) (fun r => poV [.box G9, .imm (.int .i64)] r.2)
noncomputable def Cf0 (k : Nat) : Cfg := { eqs := [], tab := [(4, .bool), (176, G9)], spec := [(109, T3 k)], mspec := [(127, B01 k), (140, Bp3 k)], inl := [(103, Tryz.f103)], keep := [], join := [], hold := [], ptrs := [], maps := [], fuel := k }
noncomputable def Eb6 : VV → Ms → Option (Int × Int × Bool) := G5 [(.int .i64), (.int .i64), .bool] []
theorem Ff6 (k : Nat) (a0 : ByteArray) (a1 : ByteArray) : D1 (Cf0 k) Eb6 k 103 [C4 .str a0, C4 .str a1] ms0 = Av4 k a0 a1 := by kernel_rfl
noncomputable def B03 (k : Nat) : Spec := .imm .str fun (a0 : ByteArray) => .imm .str fun (a1 : ByteArray) => .body (Av4 k a0 a1) (D9 [(.int .i64), (.int .i64), .bool] [])
noncomputable def Aw7 (k : Nat) : Cfg := { eqs := [], tab := [(3, (.int .i64)), (49, (.slice 3 (.int .i64)))], spec := [(55, I3 k)], mspec := [], inl := [(180, Tryz.f180)], keep := [(18000001002, [0, 1, 2, 7])], join := [], hold := [], ptrs := [], maps := [], fuel := k }
noncomputable def Bd9 : VV → Ms → Option Bool := G5 [.bool] []
noncomputable def An5 (k n : Nat) (a0 : List Int) (a1 : Int) (a2 : Int) (v1 : Int) : Option Bool := w7 (Aw7 k) Bd9 n true 18000001002 (cd [1, 0, 1, 0, 0] (bo Tryz.f180)) [.b 0, .s (cd [1, 1] (bo Tryz.f180)), .fn Tryz.f180] ⟨⟨(O0 38 0 [(0, one (.slc 3 (.int .i64) a0)), (1, one (.int .i64 a1)), (2, one (.int .i64 a2)), (7, one (.int .i64 v1))]), []⟩, 18000001000, 1, [(0, (O0 0 0 []))]⟩
theorem Eb7 (k n : Nat) (a0 : List Int) (a1 : Int) (a2 : Int) (v1 : Int) : An5 k (n + 1) a0 a1 a2 v1 = A18 k (An5 k n) a0 a1 a2 v1 := by kernel_rfl
theorem Cz2 (k : Nat) : ∀ n : Nat, An5 k n = Y5 k n
 | 0 => (by funext a0 a1 a2 v1; rfl)
 | n + 1 => by
  obtain h0 := Cz2 k n
  exact (by funext a0 a1 a2 v1; rw [Eb7, h0] <;> rfl)
theorem Es6 (k : Nat) (a0 : List Int) (a1 : Int) (a2 : Int) : D1 (Aw7 k) Bd9 k 180 [C4 (.slice 3 (.int .i64)) a0, C4 (.int .i64) a1, C4 (.int .i64) a2] ms0 = Cw6 k (An5 k k) a0 a1 a2 := by kernel_rfl
theorem Es7 (k : Nat) (a0 : List Int) (a1 : Int) (a2 : Int) : D1 (Aw7 k) Bd9 k 180 [C4 (.slice 3 (.int .i64)) a0, C4 (.int .i64) a1, C4 (.int .i64) a2] ms0 = B65 k a0 a1 a2 := by rw [Es6, show An5 k k = Y5 k k from (Cz2 k k)] <;> rfl
noncomputable def Cl2 (k : Nat) : Spec := .imm (.slice 3 (.int .i64)) fun (a0 : List Int) => .imm (.int .i64) fun (a1 : Int) => .imm (.int .i64) fun (a2 : Int) => .body (B65 k a0 a1 a2) (D9 [.bool] [])
noncomputable def Cf1 (k : Nat) : Cfg := { eqs := [], tab := [(49, (.slice 3 (.int .i64)))], spec := [(55, I3 k), (180, Cl2 k)], mspec := [], inl := [(159, Tryz.f159)], keep := [], join := [], hold := [], ptrs := [], maps := [], fuel := k }
noncomputable def Eb8 : VV → Ms → Option Bool := G5 [.bool] []
theorem Ff7 (k : Nat) (a0 : List Int) : D1 (Cf1 k) Eb8 k 159 [C4 (.slice 3 (.int .i64)) a0] ms0 = Av5 k a0 := by kernel_rfl
noncomputable def B04 (k : Nat) : Spec := .imm (.slice 3 (.int .i64)) fun (a0 : List Int) => .body (Av5 k a0) (D9 [.bool] [])
noncomputable def An6 (k : Nat) : Cfg := { eqs := [], tab := [(3, (.int .i64)), (5, (.int .u8)), (9, .str), (49, (.slice 3 (.int .i64)))], spec := [(159, B04 k)], mspec := [], inl := [(128, Tryz.f128)], keep := [(12800001003, [0, 4, 5])], join := [], hold := [], ptrs := [], maps := [], fuel := k }
noncomputable def A79 : VV → Ms → Option (List Int × Bool) := G5 [(.slice 3 (.int .i64)), .bool] [.o]
noncomputable def Ag5 (k n : Nat) (a0 : ByteArray) (v1 : Int) (xs2 : List Int) : Option (List Int × Bool) := w7 (An6 k) A79 n true 12800001003 (cd [1, 1, 0, 1, 0, 0] (bo Tryz.f128)) [.b 0, .s (cd [1, 1, 1] (bo Tryz.f128)), .fn Tryz.f128] ⟨⟨(O0 36 0 [(0, one (.str a0)), (4, one (.row 9000000 none none)), (5, one (.int .i64 v1))]), [(9000000, .row 3 (.int .i64) xs2 true)]⟩, 12800001000, 1, [(0, (O0 0 0 []))]⟩
theorem Dq1 (k n : Nat) (a0 : ByteArray) (v1 : Int) (xs2 : List Int) : Ag5 k (n + 1) a0 v1 xs2 = Bc7 k (Ag5 k n) a0 v1 xs2 := by kernel_rfl
theorem Cl3 (k : Nat) : ∀ n : Nat, Ag5 k n = Z1 k n
 | 0 => (by funext a0 v1 xs2; rfl)
 | n + 1 => by
  obtain h0 := Cl3 k n
  exact (by funext a0 v1 xs2; rw [Dq1, h0] <;> rfl)
theorem Eb9 (k : Nat) (a0 : ByteArray) : D1 (An6 k) A79 k 128 [C4 .str a0] ms0 = Ch9 k (Ag5 k k) a0 := by kernel_rfl
theorem Ec0 (k : Nat) (a0 : ByteArray) : D1 (An6 k) A79 k 128 [C4 .str a0] ms0 = A60 k a0 := by rw [Eb9, show Ag5 k k = Z1 k k from (Cl3 k k)] <;> rfl
noncomputable def Ca8 (k : Nat) : Spec := .imm .str fun (a0 : ByteArray) => .body (A60 k a0) (D9 [(.slice 3 (.int .i64)), .bool] [.o])
noncomputable def B05 (k : Nat) : Cfg := { eqs := [], tab := [(3, (.int .i64)), (9, .str), (85, C3)], spec := [(55, I3 k), (128, Ca8 k)], mspec := [], inl := [(141, Tryz.f141)], keep := [], join := [], hold := [], ptrs := [], maps := [], fuel := k }
noncomputable def Dq2 : VV → Ms → Option Bool := G5 [.bool] []
theorem Es8 (k : Nat) (a0 : B2) : D1 (B05 k) Dq2 k 141 [C4 C3 a0] ms0 = A43 k a0 := by kernel_rfl
noncomputable def Bp4 (k : Nat) : Spec := .imm C3 fun (a0 : B2) => .body (A43 k a0) (D9 [.bool] [])
noncomputable def Bj0 (k : Nat) : Cfg := { eqs := [], tab := [(3, (.int .i64)), (27, (.slice 85 C3)), (29, E6), (85, C3)], spec := [(55, I3 k), (141, Bp4 k)], mspec := [], inl := [(104, Tryz.f104)], keep := [(10400001005, [1, 3, 4])], join := [], hold := [], ptrs := [], maps := [], fuel := k }
noncomputable def B06 : VV → Ms → Option Bool := G5 [.bool] []
noncomputable def A80 (k n : Nat) (v1 : Int) (v2 : Int) (a0 : B7) : Option Bool := w7 (Bj0 k) B06 n true 10400001005 (cd [1, 1, 1, 0, 1, 0, 0] (bo Tryz.f104)) [.b 0, .s (cd [1, 1, 1, 1] (bo Tryz.f104)), .fn Tryz.f104] ⟨⟨(O0 62 0 [(1, one (.ptr 9000000 0)), (3, one (.int .i64 v1)), (4, one (.int .i64 v2))]), [(9000000, .box [.int .i64 a0.1, .int .i64 a0.2.1, .slc 85 C3 a0.2.2.1])]⟩, 10400001000, 1, [(0, (O0 0 0 []))]⟩
theorem Ff8 (k n : Nat) (v1 : Int) (v2 : Int) (a0 : B7) : A80 k (n + 1) v1 v2 a0 = Bm9 k (A80 k n) v1 v2 a0 := by kernel_rfl
theorem D43 (k : Nat) : ∀ n : Nat, A80 k n = Aa8 k n
 | 0 => (by funext v1 v2 a0; rfl)
 | n + 1 => by
  obtain h0 := D43 k n
  exact (by funext v1 v2 a0; rw [Ff8, h0] <;> rfl)
theorem F07 (k : Nat) (a0 : B7) : D1 (Bj0 k) B06 k 104 [C4 E6 a0] ms0 = D14 k (A80 k k) a0 := by kernel_rfl
theorem F08 (k : Nat) (a0 : B7) : D1 (Bj0 k) B06 k 104 [C4 E6 a0] ms0 = A19 k a0 := by rw [F07, show A80 k k = Aa8 k k from (D43 k k)] <;> rfl
noncomputable def A81 (k : Nat) : Spec := .imm E6 fun (a0 : B7) => .body (A19 k a0) (D9 [.bool] [])
noncomputable def Be0 (k : Nat) : Cfg := { eqs := [], tab := [(3, (.int .i64)), (5, (.int .u8)), (9, .str), (22, (.slice 5 (.int .u8))), (85, C3)], spec := [(55, I3 k), (109, T3 k), (141, Bp4 k)], mspec := [], inl := [(110, Tryz.f110)], keep := [], join := [], hold := [], ptrs := [], maps := [], fuel := k }
noncomputable def C29 : VV → Ms → Option (ByteArray × Bool) := G5 [.str, .bool] []
theorem Dq3 (k : Nat) (a0 : Int) (a1 : B2) : D1 (Be0 k) C29 k 110 [C4 (.int .i64) a0, C4 C3 a1] ms0 = j7 k a0 a1 := by kernel_rfl
noncomputable def A82 (k : Nat) : Spec := .imm (.int .i64) fun (a0 : Int) => .imm C3 fun (a1 : B2) => .body (j7 k a0 a1) (D9 [.str, .bool] [])
noncomputable def Be1 (k : Nat) : Cfg := { eqs := [], tab := [(3, (.int .i64)), (4, .bool), (5, (.int .u8)), (9, .str), (85, C3), (176, G9)], spec := [(110, A82 k)], mspec := [(127, B01 k), (140, Bp3 k)], inl := [(142, Tryz.f142)], keep := [], join := [], hold := [], ptrs := [], maps := [], fuel := k }
noncomputable def C30 : VV → Ms → Option (Int × B2 × Bool) := G5 [(.int .i64), C3, .bool] []
theorem Dq4 (k : Nat) (a0 : ByteArray) : D1 (Be1 k) C30 k 142 [C4 .str a0] ms0 = Av6 k a0 := by kernel_rfl
noncomputable def B07 (k : Nat) : Spec := .imm .str fun (a0 : ByteArray) => .body (Av6 k a0) (D9 [(.int .i64), C3, .bool] [])
noncomputable def B08 (k : Nat) : Cfg := { eqs := [], tab := [(3, (.int .i64)), (27, (.slice 85 C3)), (29, E6)], spec := [], mspec := [], inl := [(162, Tryz.f162)], keep := [], join := [], hold := [], ptrs := [], maps := [], fuel := k }
noncomputable def Dq5 : VV → Ms → Option Int := G5 [(.int .i64)] []
theorem Es9 (k : Nat) (a0 : B7) : D1 (B08 k) Dq5 k 162 [C4 E6 a0] ms0 = Ac9 k a0 := by kernel_rfl
noncomputable def A28 (k : Nat) : Spec := .imm E6 fun (a0 : B7) => .body (Ac9 k a0) (D9 [(.int .i64)] [])
noncomputable def Cf2 (k : Nat) : Cfg := { eqs := [], tab := [(3, (.int .i64)), (27, (.slice 85 C3)), (29, E6), (85, C3)], spec := [(55, I3 k), (104, A81 k), (162, A28 k)], mspec := [], inl := [(143, Tryz.f143)], keep := [], join := [], hold := [], ptrs := [], maps := [], fuel := k }
noncomputable def Ec1 : VV → Ms → Option (B7 × Bool) := G5 [E6, .bool] [.o]
theorem Ff9 (k : Nat) (a0 : B7) (a1 : Int) (a2 : B2) : D1 (Cf2 k) Ec1 k 143 [C4 E6 a0, C4 (.int .i64) a1, C4 C3 a2] ms0 = Bx3 k a0 a1 a2 := by kernel_rfl
noncomputable def Cz3 (k : Nat) : Spec := .imm E6 fun (a0 : B7) => .imm (.int .i64) fun (a1 : Int) => .imm C3 fun (a2 : B2) => .body (Bx3 k a0 a1 a2) (D9 [E6, .bool] [.o])
noncomputable def B09 (k : Nat) : Cfg := { eqs := [], tab := [(3, (.int .i64)), (29, E6), (31, A6), (85, C3)], spec := [(55, I3 k), (103, B03 k), (142, B07 k), (143, Cz3 k)], mspec := [], inl := [(105, Tryz.f105)], keep := [], join := [], hold := [], ptrs := [], maps := [], fuel := k }
noncomputable def Dq6 : VV → Ms → Option (Bool × A0 × Unit) := Ba1 [.bool] [] [.box A6, .imm .str]
theorem Et0 (k : Nat) (a0 : A0) (a1 : ByteArray) : D1 (B09 k) Dq6 k 105 (N3 1 [.box A6, .imm .str] (a0, a1, ())) (ms1 [.box A6, .imm .str] (a0, a1, ())) = Ad0 k a0 a1 := by kernel_rfl
noncomputable def Cl4 (k : Nat) : MSpec := .box A6 fun (a0 : A0) => .imm .str fun (a1 : ByteArray) => .body (Ad0 k a0 a1) (fun r => D9 [.bool] [] r.1) (fun r => poV [.box A6, .imm .str] r.2)
noncomputable def Y1 (k : Nat) : Cfg := { eqs := [], tab := [(9, .str), (29, E6), (31, A6), (75, (.slice 9 .str))], spec := [(55, I3 k), (102, Cl1 k), (103, B03 k), (104, A81 k), (106, As7 k)], mspec := [(105, Cl4 k)], inl := [(52, Tryz.f52)], keep := [(5200001010, [4, 7, 12, 13, 14])], join := [], hold := [], ptrs := [], maps := [], fuel := k }
noncomputable def x9 : VV → Ms → Option (A0 × Int × Bool) := G5 [A6, (.int .i64), .bool] [.s]
noncomputable def Ae5 (k n : Nat) (v3 : Int) (v4 : Int) (r1 : List ByteArray × Int) (v5 : Int) (v6 : Int) (v7 : Int) (v8 : Int) (v9 : Int) (v10 : List B2) : Option (A0 × Int × Bool) := w7 (Y1 k) x9 n true 5200001010 (cd [1, 1, 1, 1, 1, 1, 1, 0, 1, 0, 0] (bo Tryz.f52)) [.b 0, .s (cd [1, 1, 1, 1, 1, 1, 1, 1] (bo Tryz.f52)), .fn Tryz.f52] ⟨⟨(O0 85 0 [(4, one (.ptr 9000000 0)), (7, one (.row 9000001 none none)), (12, one (.ptr 9000002 0)), (13, one (.int .i64 v3)), (14, one (.int .i64 v4))]), [(9000000, .box [.int .i64 0, .int .i64 0, .int .i64 0, .int .i64 0, .int .i64 0, .nilS]), (9000001, .row 9 .str r1.1 true), (9000002, .box [.int .i64 v5, .int .i64 v6, .int .i64 v7, .int .i64 v8, .int .i64 v9, .slc 85 C3 v10])]⟩, 5200001000, 1, [(0, (O0 0 0 []))]⟩
noncomputable def g7 (k n : Nat) (v1 : Int) (v2 : Int) (r1 : List ByteArray × Int) (a0 : Int) (r3 : Int × Int × Bool) : Option (A0 × Int × Bool) := w7 (Y1 k) x9 n true 5200001010 (cd [1, 1, 1, 1, 1, 1, 1, 0, 1, 0, 0] (bo Tryz.f52)) [.b 0, .s (cd [1, 1, 1, 1, 1, 1, 1, 1] (bo Tryz.f52)), .fn Tryz.f52] ⟨⟨(O0 85 0 [(4, one (.ptr 9000000 0)), (7, one (.row 9000001 none none)), (12, one (.ptr 9000002 0)), (13, one (.int .i64 v1)), (14, one (.int .i64 v2))]), [(9000000, .box [.int .i64 0, .int .i64 0, .int .i64 0, .int .i64 0, .int .i64 0, .nilS]), (9000001, .row 9 .str r1.1 true), (9000002, .box [.int .i64 a0, .int .i64 0, .int .i64 0, .int .i64 r3.1, .int .i64 r3.2.1, .nilS])]⟩, 5200001000, 1, [(0, (O0 0 0 []))]⟩
theorem Cs4 (k n : Nat) (v3 : Int) (v4 : Int) (r1 : List ByteArray × Int) (v5 : Int) (v6 : Int) (v7 : Int) (v8 : Int) (v9 : Int) (v10 : List B2) : Ae5 k (n + 1) v3 v4 r1 v5 v6 v7 v8 v9 v10 = Ar5 k (Ae5 k n) v3 v4 r1 v5 v6 v7 v8 v9 v10 := by kernel_rfl
theorem Cs5 (k n : Nat) (v1 : Int) (v2 : Int) (r1 : List ByteArray × Int) (a0 : Int) (r3 : Int × Int × Bool) : g7 k (n + 1) v1 v2 r1 a0 r3 = Ad1 k (Ae5 k n) (g7 k n) v1 v2 r1 a0 r3 := by kernel_rfl
theorem Bs6 (k : Nat) : ∀ n : Nat, Ae5 k n = W0 k n ∧ g7 k n = J8 k n
 | 0 => ⟨(by funext v3 v4 r1 v5 v6 v7 v8 v9 v10; rfl), (by funext v1 v2 r1 a0 r3; rfl)⟩
 | n + 1 => by
  obtain ⟨h1, h0⟩ := Bs6 k n
  exact ⟨(by funext v3 v4 r1 v5 v6 v7 v8 v9 v10; rw [Cs4, h1] <;> rfl), (by funext v1 v2 r1 a0 r3; rw [Cs5, h1, h0] <;> rfl)⟩
theorem C31 (k : Nat) (a0 : Int) (a1 : ByteArray) : D1 (Y1 k) x9 k 52 [C4 (.int .i64) a0, C4 .str a1] ms0 = Bs1 k (g7 k k) a0 a1 := by kernel_rfl
theorem C32 (k : Nat) (a0 : Int) (a1 : ByteArray) : D1 (Y1 k) x9 k 52 [C4 (.int .i64) a0, C4 .str a1] ms0 = u2 k a0 a1 := by rw [C31, show g7 k k = J8 k k from (Bs6 k k).2] <;> rfl
noncomputable def Bj1 (k : Nat) : Spec := .imm (.int .i64) fun (a0 : Int) => .imm .str fun (a1 : ByteArray) => .body (u2 k a0 a1) (D9 [A6, (.int .i64), .bool] [.s])
noncomputable def B10 (k : Nat) : Cfg := { eqs := [], tab := [(9, .str)], spec := [(55, I3 k)], mspec := [], inl := [(107, Tryz.f107)], keep := [], join := [], hold := [], ptrs := [], maps := [], fuel := k }
noncomputable def Dq7 : VV → Ms → Option Bool := G5 [.bool] []
theorem Et1 (k : Nat) (a0 : ByteArray) : D1 (B10 k) Dq7 k 107 [C4 .str a0] ms0 = T5 k a0 := by kernel_rfl
noncomputable def Bp5 (k : Nat) : Spec := .imm .str fun (a0 : ByteArray) => .body (T5 k a0) (D9 [.bool] [])
noncomputable def A83 (k : Nat) : Cfg := { eqs := [], tab := [(3, (.int .i64)), (9, .str), (24, (.slice 99 J0)), (26, D8), (99, J0)], spec := [(55, I3 k), (107, Bp5 k)], mspec := [], inl := [(53, Tryz.f53)], keep := [(5300001004, [1, 3])], join := [], hold := [], ptrs := [], maps := [], fuel := k }
noncomputable def Bp6 : VV → Ms → Option Bool := G5 [.bool] []
noncomputable def Aw8 (k n : Nat) (v1 : Int) (a0 : B4) : Option Bool := w7 (A83 k) Bp6 n true 5300001004 (cd [1, 1, 0, 1, 0, 0] (bo Tryz.f53)) [.b 0, .s (cd [1, 1, 1] (bo Tryz.f53)), .fn Tryz.f53] ⟨⟨(O0 56 0 [(1, one (.ptr 9000000 0)), (3, one (.int .i64 v1))]), [(9000000, .box [.slc 99 J0 a0.1])]⟩, 5300001000, 1, [(0, (O0 0 0 []))]⟩
theorem Et2 (k n : Nat) (v1 : Int) (a0 : B4) : Aw8 k (n + 1) v1 a0 = Ba8 k (Aw8 k n) v1 a0 := by kernel_rfl
theorem Di9 (k : Nat) : ∀ n : Nat, Aw8 k n = j8 k n
 | 0 => (by funext v1 a0; rfl)
 | n + 1 => by
  obtain h0 := Di9 k n
  exact (by funext v1 a0; rw [Et2, h0] <;> rfl)
theorem Fg0 (k : Nat) (a0 : B4) : D1 (A83 k) Bp6 k 53 [C4 D8 a0] ms0 = De9 k (Aw8 k k) a0 := by kernel_rfl
theorem Fg1 (k : Nat) (a0 : B4) : D1 (A83 k) Bp6 k 53 [C4 D8 a0] ms0 = G0 k a0 := by rw [Fg0, show Aw8 k k = j8 k k from (Di9 k k)] <;> rfl
noncomputable def Bc1 (k : Nat) : Spec := .imm D8 fun (a0 : B4) => .body (G0 k a0) (D9 [.bool] [])
noncomputable def Be2 (k : Nat) : Cfg := { eqs := [], tab := [(3, (.int .i64)), (29, E6), (31, A6)], spec := [(55, I3 k), (104, A81 k)], mspec := [], inl := [(54, Tryz.f54)], keep := [], join := [], hold := [], ptrs := [], maps := [], fuel := k }
noncomputable def C33 : VV → Ms → Option Bool := G5 [.bool] []
theorem Dq8 (k : Nat) (a0 : A0) : D1 (Be2 k) C33 k 54 [C4 A6 a0] ms0 = Aa9 k a0 := by kernel_rfl
noncomputable def A84 (k : Nat) : Spec := .imm A6 fun (a0 : A0) => .body (Aa9 k a0) (D9 [.bool] [])
noncomputable def Aw9 (k : Nat) : Cfg := { eqs := [85], tab := [(3, (.int .i64)), (27, (.slice 85 C3)), (29, E6), (85, C3)], spec := [], mspec := [], inl := [(108, Tryz.f108)], keep := [(10800001004, [2, 3, 5])], join := [], hold := [], ptrs := [], maps := [], fuel := k }
noncomputable def Be3 : VV → Ms → Option Bool := G5 [.bool] []
noncomputable def An7 (k n : Nat) (v1 : Int) (a0 : B7) (a1 : B7) : Option Bool := w7 (Aw9 k) Be3 n true 10800001004 (cd [1, 1, 0, 1, 0, 0] (bo Tryz.f108)) [.b 0, .s (cd [1, 1, 1] (bo Tryz.f108)), .fn Tryz.f108] ⟨⟨(O0 45 0 [(2, one (.ptr 9000000 0)), (3, one (.ptr 9000001 0)), (5, one (.int .i64 v1))]), [(9000000, .box [.int .i64 a0.1, .int .i64 a0.2.1, .slc 85 C3 a0.2.2.1]), (9000001, .box [.int .i64 a1.1, .int .i64 a1.2.1, .slc 85 C3 a1.2.2.1])]⟩, 10800001000, 1, [(0, (O0 0 0 []))]⟩
theorem Ec2 (k n : Nat) (v1 : Int) (a0 : B7) (a1 : B7) : An7 k (n + 1) v1 a0 a1 = A20 k (An7 k n) v1 a0 a1 := by kernel_rfl
theorem Cz4 (k : Nat) : ∀ n : Nat, An7 k n = n5 k n
 | 0 => (by funext v1 a0 a1; rfl)
 | n + 1 => by
  obtain h0 := Cz4 k n
  exact (by funext v1 a0 a1; rw [Ec2, h0] <;> rfl)
theorem Et3 (k : Nat) (a0 : B7) (a1 : B7) : D1 (Aw9 k) Be3 k 108 [C4 E6 a0, C4 E6 a1] ms0 = Cw7 k (An7 k k) a0 a1 := by kernel_rfl
theorem Et4 (k : Nat) (a0 : B7) (a1 : B7) : D1 (Aw9 k) Be3 k 108 [C4 E6 a0, C4 E6 a1] ms0 = Bh3 k a0 a1 := by rw [Et3, show An7 k k = n5 k k from (Cz4 k k)] <;> rfl
noncomputable def Cl5 (k : Nat) : Spec := .imm E6 fun (a0 : B7) => .imm E6 fun (a1 : B7) => .body (Bh3 k a0 a1) (D9 [.bool] [])
noncomputable def B11 (k : Nat) : Cfg := { eqs := [], tab := [(3, (.int .i64)), (29, E6), (31, A6)], spec := [(108, Cl5 k)], mspec := [], inl := [(56, Tryz.f56)], keep := [], join := [], hold := [], ptrs := [], maps := [], fuel := k }
noncomputable def Dq9 : VV → Ms → Option Bool := G5 [.bool] []
theorem Et5 (k : Nat) (a0 : A0) (a1 : A0) : D1 (B11 k) Dq9 k 56 [C4 A6 a0, C4 A6 a1] ms0 = A44 k a0 a1 := by kernel_rfl
noncomputable def Cl6 (k : Nat) : Spec := .imm A6 fun (a0 : A0) => .imm A6 fun (a1 : A0) => .body (A44 k a0 a1) (D9 [.bool] [])
noncomputable def B12 (k : Nat) : Cfg := { eqs := [], tab := [(27, (.slice 85 C3)), (29, E6), (31, A6)], spec := [], mspec := [], inl := [(57, Tryz.f57)], keep := [], join := [], hold := [], ptrs := [], maps := [], fuel := k }
noncomputable def Dr0 : VV → Ms → Option A0 := G5 [A6] [.o]
theorem Et6 (k : Nat) (a0 : A0) : D1 (B12 k) Dr0 k 57 [C4 A6 a0] ms0 = Aj5 k a0 := by kernel_rfl
noncomputable def A29 (k : Nat) : Spec := .imm A6 fun (a0 : A0) => .body (Aj5 k a0) (D9 [A6] [.o])
noncomputable def B13 (k : Nat) : Cfg := { eqs := [], tab := [], spec := [(106, As7 k), (109, T3 k)], mspec := [], inl := [(59, Tryz.f59)], keep := [], join := [], hold := [], ptrs := [], maps := [], fuel := k }
noncomputable def Dr1 : VV → Ms → Option ByteArray := G5 [.str] []
theorem Et7 (k : Nat) (a0 : Int) (a1 : Int) : D1 (B13 k) Dr1 k 59 [C4 (.int .i64) a0, C4 (.int .i64) a1] ms0 = M2 k a0 a1 := by kernel_rfl
noncomputable def Bp7 (k : Nat) : Spec := .imm (.int .i64) fun (a0 : Int) => .imm (.int .i64) fun (a1 : Int) => .body (M2 k a0 a1) (D9 [.str] [])
noncomputable def Ag6 (k : Nat) : Cfg := { eqs := [], tab := [(3, (.int .i64)), (9, .str), (22, (.slice 5 (.int .u8))), (27, (.slice 85 C3)), (29, E6), (85, C3)], spec := [(106, As7 k), (110, A82 k)], mspec := [], inl := [(60, Tryz.f60)], keep := [(6000001003, [2, 5, 6])], join := [], hold := [], ptrs := [], maps := [], fuel := k }
noncomputable def Az7 : VV → Ms → Option ByteArray := G5 [.str] []
noncomputable def Ab9 (k n : Nat) (a1 : Int) (a0 : B7) (xs1 : List Int) : Option ByteArray := w7 (Ag6 k) Az7 n true 6000001003 (cd [1, 1, 0, 1, 0, 0] (bo Tryz.f60)) [.b 0, .s (cd [1, 1, 1] (bo Tryz.f60)), .fn Tryz.f60] ⟨⟨(O0 45 0 [(2, one (.ptr 9000000 0)), (5, one (.row 9000001 none none)), (6, one (.int .i64 a1))]), [(9000000, .box [.int .i64 a0.1, .int .i64 a0.2.1, .slc 85 C3 a0.2.2.1]), (9000001, .row 5 (.int .u8) xs1 true)]⟩, 6000001000, 1, [(0, (O0 0 0 []))]⟩
theorem Dj0 (k n : Nat) (a1 : Int) (a0 : B7) (xs1 : List Int) : Ab9 k (n + 1) a1 a0 xs1 = Am0 k (Ab9 k n) a1 a0 xs1 := by kernel_rfl
theorem Ca9 (k : Nat) : ∀ n : Nat, Ab9 k n = W5 k n
 | 0 => (by funext a1 a0 xs1; rfl)
 | n + 1 => by
  obtain h0 := Ca9 k n
  exact (by funext a1 a0 xs1; rw [Dj0, h0] <;> rfl)
theorem Dr2 (k : Nat) (a0 : B7) (a1 : Int) : D1 (Ag6 k) Az7 k 60 [C4 E6 a0, C4 (.int .i64) a1] ms0 = Ca0 k (Ab9 k k) a0 a1 := by kernel_rfl
theorem Dr3 (k : Nat) (a0 : B7) (a1 : Int) : D1 (Ag6 k) Az7 k 60 [C4 E6 a0, C4 (.int .i64) a1] ms0 = F8 k a0 a1 := by rw [Dr2, show Ab9 k k = W5 k k from (Ca9 k k)] <;> rfl
noncomputable def A85 (k : Nat) : Spec := .imm E6 fun (a0 : B7) => .imm (.int .i64) fun (a1 : Int) => .body (F8 k a0 a1) (D9 [.str] [])
noncomputable def Az8 (k : Nat) : Cfg := { eqs := [], tab := [(3, (.int .i64)), (9, .str), (29, E6), (31, A6)], spec := [(54, A84 k), (59, Bp7 k), (60, A85 k), (106, As7 k), (109, T3 k)], mspec := [], inl := [(84, Tryz.f84)], keep := [], join := [], hold := [], ptrs := [], maps := [], fuel := k }
noncomputable def Cl7 : VV → Ms → Option (ByteArray × Bool) := G5 [.str, .bool] []
theorem C34 (k : Nat) (a0 : A0) : D1 (Az8 k) Cl7 k 84 [C4 A6 a0] ms0 = u3 k a0 := by kernel_rfl
noncomputable def As8 (k : Nat) : Spec := .imm A6 fun (a0 : A0) => .body (u3 k a0) (D9 [.str, .bool] [])
noncomputable def B14 (k : Nat) : Cfg := { eqs := [], tab := [(3, (.int .i64)), (29, E6), (31, A6), (40, (.slice 93 X4)), (93, X4)], spec := [(50, Ae4 k), (57, A29 k), (84, As8 k)], mspec := [], inl := [(58, Tryz.f58)], keep := [], join := [], hold := [], ptrs := [], maps := [], fuel := k }
noncomputable def Dr4 : VV → Ms → Option (List F2 × A0 × Bool) := G5 [(.slice 93 X4), A6, .bool] [.o, .o]
theorem Et8 (k : Nat) (a0 : A0) (a1 : A0) : D1 (B14 k) Dr4 k 58 [C4 A6 a0, C4 A6 a1] ms0 = H4 k a0 a1 := by kernel_rfl
noncomputable def Cl8 (k : Nat) : Spec := .imm A6 fun (a0 : A0) => .imm A6 fun (a1 : A0) => .body (H4 k a0 a1) (D9 [(.slice 93 X4), A6, .bool] [.o, .o])
noncomputable def q8 (k : Nat) : Cfg := { eqs := [85], tab := [(3, (.int .i64)), (9, .str), (26, D8), (27, (.slice 85 C3)), (29, E6), (31, A6), (40, (.slice 93 X4)), (85, C3), (93, X4)], spec := [(50, Ae4 k), (51, Cy8 k), (52, Bj1 k), (53, Bc1 k), (54, A84 k), (55, I3 k), (56, Cl6 k), (57, A29 k), (58, Cl8 k), (59, Bp7 k), (60, A85 k)], mspec := [], inl := [(14, Tryz.f14)], keep := [(1400001012, [4, 5, 7, 10, 11, 18, 19])], join := [], hold := [], ptrs := [], maps := [], fuel := k }
noncomputable def An8 : VV → Ms → Option (List F2 × A0 × Bool) := G5 [(.slice 93 X4), A6, .bool] [.o, .o]
noncomputable def g8 (k n : Nat) (r1 : ByteArray) (r2 : ByteArray × Bool) (v1 : Int) (a1 : A0) (a2 : A0) (r10 : A0) : Option (List F2 × A0 × Bool) := w7 (q8 k) An8 n true 1400001012 (cd [1, 1, 1, 1, 1, 1, 1, 1, 1, 1, 0, 0, 0] (bo Tryz.f14)) [.b 0, .s (cd [1, 1, 1, 1, 1, 1, 1, 1, 1, 1, 1] (bo Tryz.f14)), .fn Tryz.f14] ⟨⟨(O0 215 0 [(4, one (.ptr 9000000 0)), (5, one (.ptr 9000001 0)), (7, one (.ptr 9000002 0)), (10, one (.str r1)), (11, one (.str r2.1)), (18, one (.ptr 9000003 0)), (19, one (.int .i64 v1))]), [(9000000, .box [.int .i64 a1.1, .int .i64 a1.2.1, .int .i64 a1.2.2.1, .int .i64 a1.2.2.2.1.1, .int .i64 a1.2.2.2.1.2.1, .slc 85 C3 a1.2.2.2.1.2.2.1]), (9000001, .box [.int .i64 a2.1, .int .i64 a2.2.1, .int .i64 a2.2.2.1, .int .i64 a2.2.2.2.1.1, .int .i64 a2.2.2.2.1.2.1, .slc 85 C3 a2.2.2.2.1.2.2.1]), (9000002, .box [.int .i64 0, .int .i64 0, .int .i64 0, .int .i64 0, .int .i64 0, .nilS]), (9000003, .box [.int .i64 r10.1, .int .i64 r10.2.1, .int .i64 r10.2.2.1, .int .i64 r10.2.2.2.1.1, .int .i64 r10.2.2.2.1.2.1, .row 9000004 none none]), (9000004, .row 85 C3 r10.2.2.2.1.2.2.1 true)]⟩, 1400001000, 1, [(0, (O0 0 0 []))]⟩
theorem Cs6 (k n : Nat) (r1 : ByteArray) (r2 : ByteArray × Bool) (v1 : Int) (a1 : A0) (a2 : A0) (r10 : A0) : g8 k (n + 1) r1 r2 v1 a1 a2 r10 = Ar6 k (g8 k n) r1 r2 v1 a1 a2 r10 := by kernel_rfl
theorem Bs7 (k : Nat) : ∀ n : Nat, g8 k n = Q3 k n
 | 0 => (by funext r1 r2 v1 a1 a2 r10; rfl)
 | n + 1 => by
  obtain h0 := Bs7 k n
  exact (by funext r1 r2 v1 a1 a2 r10; rw [Cs6, h0] <;> rfl)
theorem C35 (k : Nat) (a0 : B4) (a1 : A0) (a2 : A0) : D1 (q8 k) An8 k 14 [C4 D8 a0, C4 A6 a1, C4 A6 a2] ms0 = Ay7 k (g8 k k) a0 a1 a2 := by kernel_rfl
theorem C36 (k : Nat) (a0 : B4) (a1 : A0) (a2 : A0) : D1 (q8 k) An8 k 14 [C4 D8 a0, C4 A6 a1, C4 A6 a2] ms0 = V4 k a0 a1 a2 := by rw [C35, show g8 k k = Q3 k k from (Bs7 k k)] <;> rfl
noncomputable def As9 (k : Nat) : Spec := .imm D8 fun (a0 : B4) => .imm A6 fun (a1 : A0) => .imm A6 fun (a2 : A0) => .body (V4 k a0 a1 a2) (D9 [(.slice 93 X4), A6, .bool] [.o, .o])
noncomputable def At0 (k : Nat) : Cfg := { eqs := [], tab := [(9, .str), (24, (.slice 99 J0)), (26, D8), (99, J0)], spec := [], mspec := [], inl := [(72, Tryz.f72)], keep := [(7200001003, [2, 3, 4, 5, 6]), (7200001009, [2, 3, 4, 5, 7])], join := [], hold := [(7200001003, [(5, [0, 0], 99, J0, false, false)])], ptrs := [], maps := [], fuel := k }
noncomputable def A30 : VV → Ms → Option B4 := G5 [D8] [.o]
noncomputable def Bc2 (k n : Nat) (v3 : Int) (a0 : B4) (a1 : C2) (xs4 : List C2) : Option B4 := w7 (At0 k) A30 n true 7200001009 (cd [1, 1, 1, 1, 0, 1, 0, 0] (bo Tryz.f72)) [.b 2, .s (cd [1, 1, 1, 1, 1] (bo Tryz.f72)), .fn Tryz.f72] ⟨⟨(O0 68 0 [(2, one (.ptr 9000000 0)), (3, one (.ptr 9000001 0)), (4, one (.ptr 9000002 0)), (5, one (.ptr 9000003 0)), (7, one (.int .i64 v3))]), [(9000000, .box [.slc 99 J0 a0.1]), (9000001, .box [.str a1.1, .str a1.2.1, .int .i64 a1.2.2.1]), (9000002, .box [.nilS]), (9000003, .box [.row 9000004 none none]), (9000004, .row 99 J0 xs4 true)]⟩, 7200001000, 1, [(0, (O0 0 0 []))]⟩
noncomputable def Ax0 (k n : Nat) (v1 : Int) (a0 : B4) (a1 : C2) (xs2 : List C2) : Option B4 := w7 (At0 k) A30 n true 7200001003 (cd [1, 1, 0, 1, 0, 0] (bo Tryz.f72)) [.b 0, .s (cd [1, 1, 1] (bo Tryz.f72)), .fn Tryz.f72] ⟨⟨(O0 68 0 [(2, one (.ptr 9000000 0)), (3, one (.ptr 9000001 0)), (4, one (.ptr 9000002 0)), (5, one (.ptr 9000003 0)), (6, one (.int .i64 v1))]), [(9000000, .box [.slc 99 J0 a0.1]), (9000001, .box [.str a1.1, .str a1.2.1, .int .i64 a1.2.2.1]), (9000002, .box [.nilS]), (9000003, .box [.row 9000004 none none]), (9000004, .row 99 J0 xs2 true)]⟩, 7200001000, 1, [(0, (O0 0 0 []))]⟩
theorem Et9 (k n : Nat) (v3 : Int) (a0 : B4) (a1 : C2) (xs4 : List C2) : Bc2 k (n + 1) v3 a0 a1 xs4 = Ba9 k (Bc2 k n) v3 a0 a1 xs4 := by kernel_rfl
theorem Eu0 (k n : Nat) (v1 : Int) (a0 : B4) (a1 : C2) (xs2 : List C2) : Ax0 k (n + 1) v1 a0 a1 xs2 = Bb0 k (Ax0 k n) (Bc2 k n) v1 a0 a1 xs2 := by kernel_rfl
theorem Dj1 (k : Nat) : ∀ n : Nat, Bc2 k n = Aj6 k n ∧ Ax0 k n = Ab0 k n
 | 0 => ⟨(by funext v3 a0 a1 xs4; rfl), (by funext v1 a0 a1 xs2; rfl)⟩
 | n + 1 => by
  obtain ⟨h1, h0⟩ := Dj1 k n
  exact ⟨(by funext v3 a0 a1 xs4; rw [Et9, h1] <;> rfl), (by funext v1 a0 a1 xs2; rw [Eu0, h0, h1] <;> rfl)⟩
theorem Fg2 (k : Nat) (a0 : B4) (a1 : C2) : D1 (At0 k) A30 k 72 [C4 D8 a0, C4 J0 a1] ms0 = Df0 k (Ax0 k k) a0 a1 := by kernel_rfl
theorem Fg3 (k : Nat) (a0 : B4) (a1 : C2) : D1 (At0 k) A30 k 72 [C4 D8 a0, C4 J0 a1] ms0 = I6 k a0 a1 := by rw [Fg2, show Ax0 k k = Ab0 k k from (Dj1 k k).2] <;> rfl
noncomputable def Cz5 (k : Nat) : Spec := .imm D8 fun (a0 : B4) => .imm J0 fun (a1 : C2) => .body (I6 k a0 a1) (D9 [D8] [.o])
noncomputable def Ac0 (k : Nat) : Cfg := { eqs := [], tab := [(9, .str), (24, (.slice 99 J0)), (26, D8), (99, J0)], spec := [], mspec := [], inl := [(111, Tryz.f111)], keep := [(11100001003, [1, 2, 4, 5, 6])], join := [], hold := [(11100001003, [(5, [0, 0], 99, J0, false, false)])], ptrs := [], maps := [], fuel := k }
noncomputable def At1 : VV → Ms → Option B4 := G5 [D8] [.o]
noncomputable def q9 (k n : Nat) (a1 : ByteArray) (v1 : Int) (a0 : B4) (xs2 : List C2) : Option B4 := w7 (Ac0 k) At1 n true 11100001003 (cd [1, 1, 0, 1, 0, 0] (bo Tryz.f111)) [.b 0, .s (cd [1, 1, 1] (bo Tryz.f111)), .fn Tryz.f111] ⟨⟨(O0 34 0 [(1, one (.str a1)), (2, one (.ptr 9000000 0)), (4, one (.ptr 9000001 0)), (5, one (.ptr 9000002 0)), (6, one (.int .i64 v1))]), [(9000000, .box [.slc 99 J0 a0.1]), (9000001, .box [.nilS]), (9000002, .box [.row 9000003 none none]), (9000003, .row 99 J0 xs2 true)]⟩, 11100001000, 1, [(0, (O0 0 0 []))]⟩
theorem C37 (k n : Nat) (a1 : ByteArray) (v1 : Int) (a0 : B4) (xs2 : List C2) : q9 k (n + 1) a1 v1 a0 xs2 = Ah6 k (q9 k n) a1 v1 a0 xs2 := by kernel_rfl
theorem B15 (k : Nat) : ∀ n : Nat, q9 k n = U0 k n
 | 0 => (by funext a1 v1 a0 xs2; rfl)
 | n + 1 => by
  obtain h0 := B15 k n
  exact (by funext a1 v1 a0 xs2; rw [C37, h0] <;> rfl)
theorem Dj2 (k : Nat) (a0 : B4) (a1 : ByteArray) : D1 (Ac0 k) At1 k 111 [C4 D8 a0, C4 .str a1] ms0 = Bx4 k (q9 k k) a0 a1 := by kernel_rfl
theorem Dj3 (k : Nat) (a0 : B4) (a1 : ByteArray) : D1 (Ac0 k) At1 k 111 [C4 D8 a0, C4 .str a1] ms0 = G8 k a0 a1 := by rw [Dj2, show q9 k k = U0 k k from (B15 k k)] <;> rfl
noncomputable def Bs8 (k : Nat) : Spec := .imm D8 fun (a0 : B4) => .imm .str fun (a1 : ByteArray) => .body (G8 k a0 a1) (D9 [D8] [.o])
noncomputable def Cs7 (k : Nat) : Cfg := { eqs := [], tab := [(3, (.int .i64)), (9, .str), (24, (.slice 99 J0)), (26, D8), (93, X4), (99, J0)], spec := [(53, Bc1 k), (72, Cz5 k), (101, Ce7 k), (107, Bp5 k), (111, Bs8 k)], mspec := [], inl := [(61, Tryz.f61)], keep := [], join := [], hold := [], ptrs := [], maps := [], fuel := k }
noncomputable def Eu1 : VV → Ms → Option (B4 × Bool) := G5 [D8, .bool] [.o]
theorem F09 (k : Nat) (a0 : B4) (a1 : F2) : D1 (Cs7 k) Eu1 k 61 [C4 D8 a0, C4 X4 a1] ms0 = b8 k a0 a1 := by kernel_rfl
noncomputable def Dj4 (k : Nat) : Spec := .imm D8 fun (a0 : B4) => .imm X4 fun (a1 : F2) => .body (b8 k a0 a1) (D9 [D8, .bool] [.o])
noncomputable def A86 (k : Nat) : Cfg := { eqs := [], tab := [(24, (.slice 99 J0)), (26, D8), (40, (.slice 93 X4)), (93, X4)], spec := [(61, Dj4 k)], mspec := [], inl := [(15, Tryz.f15)], keep := [(1500001003, [1, 4, 6, 7])], join := [], hold := [], ptrs := [], maps := [], fuel := k }
noncomputable def Bp8 : VV → Ms → Option (B4 × Int) := G5 [D8, (.int .i64)] [.o]
noncomputable def Ax1 (k n : Nat) (a1 : List F2) (v1 : Int) (xs2 : List C2) : Option (B4 × Int) := w7 (A86 k) Bp8 n true 1500001003 (cd [1, 1, 0, 1, 0, 0] (bo Tryz.f15)) [.b 0, .s (cd [1, 1, 1] (bo Tryz.f15)), .fn Tryz.f15] ⟨⟨(O0 38 0 [(1, one (.slc 93 X4 a1)), (4, one (.ptr 9000000 0)), (6, one (.ptr 9000001 0)), (7, one (.int .i64 v1))]), [(9000000, .box [.nilS]), (9000001, .box [.row 9000002 none none]), (9000002, .row 99 J0 xs2 true)]⟩, 1500001000, 1, [(0, (O0 0 0 []))]⟩
theorem Eu2 (k n : Nat) (a1 : List F2) (v1 : Int) (xs2 : List C2) : Ax1 k (n + 1) a1 v1 xs2 = Bb1 k (Ax1 k n) a1 v1 xs2 := by kernel_rfl
theorem Dj5 (k : Nat) : ∀ n : Nat, Ax1 k n = j9 k n
 | 0 => (by funext a1 v1 xs2; rfl)
 | n + 1 => by
  obtain h0 := Dj5 k n
  exact (by funext a1 v1 xs2; rw [Eu2, h0] <;> rfl)
theorem Fg4 (k : Nat) (a0 : B4) (a1 : List F2) : D1 (A86 k) Bp8 k 15 [C4 D8 a0, C4 (.slice 93 X4) a1] ms0 = Df1 k (Ax1 k k) a0 a1 := by kernel_rfl
theorem Fg5 (k : Nat) (a0 : B4) (a1 : List F2) : D1 (A86 k) Bp8 k 15 [C4 D8 a0, C4 (.slice 93 X4) a1] ms0 = Av7 k a0 a1 := by rw [Fg4, show Ax1 k k = j9 k k from (Dj5 k k)] <;> rfl
noncomputable def Bc3 (k : Nat) : Spec := .imm D8 fun (a0 : B4) => .imm (.slice 93 X4) fun (a1 : List F2) => .body (Av7 k a0 a1) (D9 [D8, (.int .i64)] [.o])
noncomputable def B16 (k : Nat) : Cfg := { eqs := [], tab := [(3, (.int .i64)), (5, (.int .u8)), (22, (.slice 5 (.int .u8))), (129, B9)], spec := [], mspec := [], inl := [(64, Tryz.f64)], keep := [], join := [], hold := [], ptrs := [], maps := [], fuel := k }
noncomputable def Dr5 : VV → Ms → Option (Int × A5 × Unit) := Ba1 [(.int .i64)] [] [.box B9]
theorem Eu3 (k : Nat) (a0 : A5) : D1 (B16 k) Dr5 k 64 (N3 1 [.box B9] (a0, ())) (ms1 [.box B9] (a0, ())) = X6 k a0 := by kernel_rfl
noncomputable def Bp9 (k : Nat) : MSpec := .box B9 fun (a0 : A5) => .body (X6 k a0) (fun r => D9 [(.int .i64)] [] r.1) (fun r => poV [.box B9] r.2)
noncomputable def Bq0 (k : Nat) : Cfg := { eqs := [], tab := [], spec := [], mspec := [(64, Bp9 k)], inl := [(65, Tryz.f65)], keep := [], join := [], hold := [], ptrs := [], maps := [], fuel := k }
noncomputable def Dj6 : VV → Ms → Option (Int × A5 × Unit) := Ba1 [(.int .i64)] [] [.box B9, .imm (.int .i64)]
theorem Ec3 (k : Nat) (a0 : A5) (a1 : Int) : D1 (Bq0 k) Dj6 k 65 (N3 1 [.box B9, .imm (.int .i64)] (a0, a1, ())) (ms1 [.box B9, .imm (.int .i64)] (a0, a1, ())) = C7 k a0 a1 := by kernel_rfl
noncomputable def M0 (k : Nat) : MSpec := .box B9 fun (a0 : A5) => .imm (.int .i64) fun (a1 : Int) => .body (C7 k a0 a1) (fun r => D9 [(.int .i64)] [] r.1) (fun r => poV [.box B9, .imm (.int .i64)] r.2)
noncomputable def B17 (k : Nat) : Cfg := { eqs := [], tab := [(3, (.int .i64)), (27, (.slice 85 C3)), (29, E6), (85, C3)], spec := [], mspec := [], inl := [(86, Tryz.f86)], keep := [], join := [], hold := [], ptrs := [], maps := [], fuel := k }
noncomputable def Dr6 : VV → Ms → Option (Int × Int) := G5 [(.int .i64), (.int .i64)] []
theorem Eu4 (k : Nat) (a0 : B7) : D1 (B17 k) Dr6 k 86 [C4 E6 a0] ms0 = Aj7 k a0 := by kernel_rfl
noncomputable def Bq1 (k : Nat) : Spec := .imm E6 fun (a0 : B7) => .body (Aj7 k a0) (D9 [(.int .i64), (.int .i64)] [])
noncomputable def B18 (k : Nat) : Cfg := { eqs := [], tab := [], spec := [], mspec := [(65, M0 k)], inl := [(88, Tryz.f88)], keep := [], join := [], hold := [], ptrs := [], maps := [], fuel := k }
noncomputable def Dr7 : VV → Ms → Option (Bool × A5 × Unit) := Ba1 [.bool] [] [.box B9, .imm (.int .i64)]
theorem Eu5 (k : Nat) (a0 : A5) (a1 : Int) : D1 (B18 k) Dr7 k 88 (N3 1 [.box B9, .imm (.int .i64)] (a0, a1, ())) (ms1 [.box B9, .imm (.int .i64)] (a0, a1, ())) = P4 k a0 a1 := by kernel_rfl
noncomputable def o9 (k : Nat) : MSpec := .box B9 fun (a0 : A5) => .imm (.int .i64) fun (a1 : Int) => .body (P4 k a0 a1) (fun r => D9 [.bool] [] r.1) (fun r => poV [.box B9, .imm (.int .i64)] r.2)
noncomputable def Ax2 (k : Nat) : Cfg := { eqs := [], tab := [(49, (.slice 3 (.int .i64)))], spec := [], mspec := [(88, o9 k)], inl := [(70, Tryz.f70)], keep := [(7000001003, [0, 3, 4])], join := [], hold := [], ptrs := [], maps := [], fuel := k }
noncomputable def Be4 : VV → Ms → Option (List Int × A5 × Unit) := Ba1 [(.slice 3 (.int .i64))] [.o] [.box B9]
noncomputable def An9 (k n : Nat) (v1 : Int) (v2 : List Int) (v3 : Int) (v4 : Int) (xs5 : List Int) : Option (List Int × A5 × Unit) := w7 (Ax2 k) Be4 n true 7000001003 (cd [1, 1, 0, 1, 0, 0] (bo Tryz.f70)) [.b 0, .s (cd [1, 1, 1] (bo Tryz.f70)), .fn Tryz.f70] ⟨⟨(O0 23 0 [(0, one (.ptr 9000000 0)), (3, one (.row 9000001 none none)), (4, one (.int .i64 v1))]), [(9000000, .box [.slc 5 (.int .u8) v2, .int .i64 v3, .int .i64 v4]), (9000001, .row 3 (.int .i64) xs5 true)]⟩, 7000001000, 1, [(0, (O0 1 0 [(0, one (.ptr 9000000 0))]))]⟩
theorem Ec4 (k n : Nat) (v1 : Int) (v2 : List Int) (v3 : Int) (v4 : Int) (xs5 : List Int) : An9 k (n + 1) v1 v2 v3 v4 xs5 = Bn0 k (An9 k n) v1 v2 v3 v4 xs5 := by kernel_rfl
theorem Cz6 (k : Nat) : ∀ n : Nat, An9 k n = n6 k n
 | 0 => (by funext v1 v2 v3 v4 xs5; rfl)
 | n + 1 => by
  obtain h0 := Cz6 k n
  exact (by funext v1 v2 v3 v4 xs5; rw [Ec4, h0] <;> rfl)
theorem Eu6 (k : Nat) (a0 : A5) : D1 (Ax2 k) Be4 k 70 (N3 1 [.box B9] (a0, ())) (ms1 [.box B9] (a0, ())) = Cw8 k (An9 k k) a0 := by kernel_rfl
theorem Eu7 (k : Nat) (a0 : A5) : D1 (Ax2 k) Be4 k 70 (N3 1 [.box B9] (a0, ())) (ms1 [.box B9] (a0, ())) = Bh4 k a0 := by rw [Eu6, show An9 k k = n6 k k from (Cz6 k k)] <;> rfl
noncomputable def Cl9 (k : Nat) : MSpec := .box B9 fun (a0 : A5) => .body (Bh4 k a0) (fun r => D9 [(.slice 3 (.int .i64))] [.o] r.1) (fun r => poV [.box B9] r.2)
noncomputable def Ao0 (k : Nat) : Cfg := { eqs := [], tab := [(3, (.int .i64)), (5, (.int .u8)), (9, .str), (22, (.slice 5 (.int .u8))), (49, (.slice 3 (.int .i64)))], spec := [(159, B04 k)], mspec := [], inl := [(121, Tryz.f121)], keep := [(12100001005, [0, 4, 5])], join := [], hold := [], ptrs := [], maps := [], fuel := k }
noncomputable def A87 : VV → Ms → Option (ByteArray × Bool) := G5 [.str, .bool] []
noncomputable def Ag7 (k n : Nat) (a0 : List Int) (v1 : Int) (xs2 : List Int) : Option (ByteArray × Bool) := w7 (Ao0 k) A87 n true 12100001005 (cd [1, 1, 1, 0, 1, 0, 0] (bo Tryz.f121)) [.b 0, .s (cd [1, 1, 1, 1] (bo Tryz.f121)), .fn Tryz.f121] ⟨⟨(O0 26 0 [(0, one (.slc 3 (.int .i64) a0)), (4, one (.row 9000000 none none)), (5, one (.int .i64 v1))]), [(9000000, .row 5 (.int .u8) xs2 true)]⟩, 12100001000, 1, [(0, (O0 0 0 []))]⟩
theorem Dr8 (k n : Nat) (a0 : List Int) (v1 : Int) (xs2 : List Int) : Ag7 k (n + 1) a0 v1 xs2 = Bc8 k (Ag7 k n) a0 v1 xs2 := by kernel_rfl
theorem Cm0 (k : Nat) : ∀ n : Nat, Ag7 k n = Z2 k n
 | 0 => (by funext a0 v1 xs2; rfl)
 | n + 1 => by
  obtain h0 := Cm0 k n
  exact (by funext a0 v1 xs2; rw [Dr8, h0] <;> rfl)
theorem Ec5 (k : Nat) (a0 : List Int) : D1 (Ao0 k) A87 k 121 [C4 (.slice 3 (.int .i64)) a0] ms0 = Ci0 k (Ag7 k k) a0 := by kernel_rfl
theorem Ec6 (k : Nat) (a0 : List Int) : D1 (Ao0 k) A87 k 121 [C4 (.slice 3 (.int .i64)) a0] ms0 = A61 k a0 := by rw [Ec5, show Ag7 k k = Z2 k k from (Cm0 k k)] <;> rfl
noncomputable def Cb0 (k : Nat) : Spec := .imm (.slice 3 (.int .i64)) fun (a0 : List Int) => .body (A61 k a0) (D9 [.str, .bool] [])
noncomputable def A88 (k : Nat) : Cfg := { eqs := [], tab := [(3, (.int .i64)), (49, (.slice 3 (.int .i64)))], spec := [], mspec := [(65, M0 k)], inl := [(157, Tryz.f157)], keep := [], join := [], hold := [], ptrs := [], maps := [], fuel := k }
noncomputable def Cs8 : VV → Ms → Option (Int × A5 × Unit) := Ba1 [(.int .i64)] [] [.box B9, .imm (.slice 3 (.int .i64))]
theorem Dj7 (k : Nat) (a0 : A5) (a1 : List Int) : D1 (A88 k) Cs8 k 157 (N3 1 [.box B9, .imm (.slice 3 (.int .i64))] (a0, a1, ())) (ms1 [.box B9, .imm (.slice 3 (.int .i64))] (a0, a1, ())) = Ad2 k a0 a1 := by kernel_rfl
noncomputable def Az9 (k : Nat) : MSpec := .box B9 fun (a0 : A5) => .imm (.slice 3 (.int .i64)) fun (a1 : List Int) => .body (Ad2 k a0 a1) (fun r => D9 [(.int .i64)] [] r.1) (fun r => poV [.box B9, .imm (.slice 3 (.int .i64))] r.2)
noncomputable def Bq2 (k : Nat) : Cfg := { eqs := [], tab := [(9, .str)], spec := [(109, T3 k)], mspec := [], inl := [(116, Tryz.f116)], keep := [], join := [], hold := [], ptrs := [], maps := [], fuel := k }
noncomputable def Dj8 : VV → Ms → Option ByteArray := G5 [.str] []
theorem Ec7 (k : Nat) (a0 : ByteArray) : D1 (Bq2 k) Dj8 k 116 [C4 .str a0] ms0 = Ai1 k a0 := by kernel_rfl
noncomputable def Be5 (k : Nat) : Spec := .imm .str fun (a0 : ByteArray) => .body (Ai1 k a0) (D9 [.str] [])
noncomputable def Ag8 (k : Nat) : Cfg := { eqs := [], tab := [(3, (.int .i64)), (49, (.slice 3 (.int .i64)))], spec := [(55, I3 k)], mspec := [], inl := [(195, Tryz.f195)], keep := [(19500001002, [0, 3])], join := [], hold := [], ptrs := [], maps := [], fuel := k }
noncomputable def A00 : VV → Ms → Option Bool := G5 [.bool] []
noncomputable def Ac1 (k n : Nat) (a0 : List Int) (v1 : Int) : Option Bool := w7 (Ag8 k) A00 n true 19500001002 (cd [1, 0, 1, 0, 0] (bo Tryz.f195)) [.b 0, .s (cd [1, 1] (bo Tryz.f195)), .fn Tryz.f195] ⟨⟨(O0 19 0 [(0, one (.slc 3 (.int .i64) a0)), (3, one (.int .i64 v1))]), []⟩, 19500001000, 1, [(0, (O0 0 0 []))]⟩
theorem Dj9 (k n : Nat) (a0 : List Int) (v1 : Int) : Ac1 k (n + 1) a0 v1 = Am1 k (Ac1 k n) a0 v1 := by kernel_rfl
theorem Cb1 (k : Nat) : ∀ n : Nat, Ac1 k n = W6 k n
 | 0 => (by funext a0 v1; rfl)
 | n + 1 => by
  obtain h0 := Cb1 k n
  exact (by funext a0 v1; rw [Dj9, h0] <;> rfl)
theorem Dr9 (k : Nat) (a0 : List Int) : D1 (Ag8 k) A00 k 195 [C4 (.slice 3 (.int .i64)) a0] ms0 = Ca1 k (Ac1 k k) a0 := by kernel_rfl
theorem Ds0 (k : Nat) (a0 : List Int) : D1 (Ag8 k) A00 k 195 [C4 (.slice 3 (.int .i64)) a0] ms0 = Y6 k a0 := by rw [Dr9, show Ac1 k k = W6 k k from (Cb1 k k)] <;> rfl
noncomputable def B19 (k : Nat) : Spec := .imm (.slice 3 (.int .i64)) fun (a0 : List Int) => .body (Y6 k a0) (D9 [.bool] [])
noncomputable def B20 (k : Nat) : Cfg := { eqs := [], tab := [(3, (.int .i64)), (9, .str), (49, (.slice 3 (.int .i64))), (162, H1)], spec := [(55, I3 k), (195, B19 k)], mspec := [], inl := [(170, Tryz.f170)], keep := [], join := [], hold := [], ptrs := [], maps := [], fuel := k }
noncomputable def Ds1 : VV → Ms → Option Bool := G5 [.bool] []
theorem Eu8 (k : Nat) (a0 : C5) : D1 (B20 k) Ds1 k 170 [C4 H1 a0] ms0 = X7 k a0 := by kernel_rfl
noncomputable def Bq3 (k : Nat) : Spec := .imm H1 fun (a0 : C5) => .body (X7 k a0) (D9 [.bool] [])
noncomputable def Ax3 (k : Nat) : Cfg := { eqs := [], tab := [(3, (.int .i64)), (4, .bool), (49, (.slice 3 (.int .i64))), (162, H1)], spec := [(55, I3 k), (170, Bq3 k)], mspec := [], inl := [(152, Tryz.f152)], keep := [(15200001004, [1, 3])], join := [], hold := [], ptrs := [], maps := [], fuel := k }
noncomputable def Be6 : VV → Ms → Option Bool := G5 [.bool] []
noncomputable def Ao1 (k n : Nat) (v1 : Int) (a0 : C5) : Option Bool := w7 (Ax3 k) Be6 n true 15200001004 (cd [1, 1, 0, 1, 0, 0] (bo Tryz.f152)) [.b 0, .s (cd [1, 1, 1] (bo Tryz.f152)), .fn Tryz.f152] ⟨⟨(O0 77 0 [(1, one (.ptr 9000000 0)), (3, one (.int .i64 v1))]), [(9000000, .box [.int .i64 a0.1, .int .i64 a0.2.1, .int .i64 a0.2.2.1, .int .i64 a0.2.2.2.1, .int .i64 a0.2.2.2.2.1, .slc 3 (.int .i64) a0.2.2.2.2.2.1, .str a0.2.2.2.2.2.2.1, .slc 3 (.int .i64) a0.2.2.2.2.2.2.2.1, .int .i64 a0.2.2.2.2.2.2.2.2.1])]⟩, 15200001000, 1, [(0, (O0 0 0 []))]⟩
theorem Ec8 (k n : Nat) (v1 : Int) (a0 : C5) : Ao1 k (n + 1) v1 a0 = A21 k (Ao1 k n) v1 a0 := by kernel_rfl
theorem Cz7 (k : Nat) : ∀ n : Nat, Ao1 k n = U8 k n
 | 0 => (by funext v1 a0; rfl)
 | n + 1 => by
  obtain h0 := Cz7 k n
  exact (by funext v1 a0; rw [Ec8, h0] <;> rfl)
theorem Eu9 (k : Nat) (a0 : C5) : D1 (Ax3 k) Be6 k 152 [C4 H1 a0] ms0 = Bx5 k (Ao1 k k) a0 := by kernel_rfl
theorem Ev0 (k : Nat) (a0 : C5) : D1 (Ax3 k) Be6 k 152 [C4 H1 a0] ms0 = N1 k a0 := by rw [Eu9, show Ao1 k k = U8 k k from (Cz7 k k)] <;> rfl
noncomputable def A31 (k : Nat) : Spec := .imm H1 fun (a0 : C5) => .body (N1 k a0) (D9 [.bool] [])
noncomputable def B21 (k : Nat) : Cfg := { eqs := [], tab := [(3, (.int .i64)), (5, (.int .u8)), (9, .str), (22, (.slice 5 (.int .u8)))], spec := [], mspec := [], inl := [(171, Tryz.f171)], keep := [], join := [], hold := [], ptrs := [], maps := [], fuel := k }
noncomputable def Ds2 : VV → Ms → Option ByteArray := G5 [.str] []
theorem Ev1 (k : Nat) (a0 : Int) : D1 (B21 k) Ds2 k 171 [C4 (.int .i64) a0] ms0 = X8 k a0 := by kernel_rfl
noncomputable def Bq4 (k : Nat) : Spec := .imm (.int .i64) fun (a0 : Int) => .body (X8 k a0) (D9 [.str] [])
noncomputable def s5 (k : Nat) : Cfg := { eqs := [], tab := [(3, (.int .i64)), (9, .str), (49, (.slice 3 (.int .i64))), (162, H1)], spec := [(109, T3 k), (116, Be5 k), (171, Bq4 k)], mspec := [], inl := [(153, Tryz.f153)], keep := [(15300001003, [1, 3, 4])], join := [], hold := [], ptrs := [], maps := [], fuel := k }
noncomputable def Ao2 : VV → Ms → Option ByteArray := G5 [.str] []
noncomputable def g9 (k n : Nat) (v1 : ByteArray) (v2 : Int) (a0 : C5) : Option ByteArray := w7 (s5 k) Ao2 n true 15300001003 (cd [1, 1, 0, 1, 0, 0] (bo Tryz.f153)) [.b 0, .s (cd [1, 1, 1] (bo Tryz.f153)), .fn Tryz.f153] ⟨⟨(O0 45 0 [(1, one (.ptr 9000000 0)), (3, one (.str v1)), (4, one (.int .i64 v2))]), [(9000000, .box [.int .i64 a0.1, .int .i64 a0.2.1, .int .i64 a0.2.2.1, .int .i64 a0.2.2.2.1, .int .i64 a0.2.2.2.2.1, .slc 3 (.int .i64) a0.2.2.2.2.2.1, .str a0.2.2.2.2.2.2.1, .slc 3 (.int .i64) a0.2.2.2.2.2.2.2.1, .int .i64 a0.2.2.2.2.2.2.2.2.1])]⟩, 15300001000, 1, [(0, (O0 0 0 []))]⟩
theorem Cs9 (k n : Nat) (v1 : ByteArray) (v2 : Int) (a0 : C5) : g9 k (n + 1) v1 v2 a0 = Ad3 k (g9 k n) v1 v2 a0 := by kernel_rfl
theorem Bs9 (k : Nat) : ∀ n : Nat, g9 k n = Q4 k n
 | 0 => (by funext v1 v2 a0; rfl)
 | n + 1 => by
  obtain h0 := Bs9 k n
  exact (by funext v1 v2 a0; rw [Cs9, h0] <;> rfl)
theorem C38 (k : Nat) (a0 : C5) : D1 (s5 k) Ao2 k 153 [C4 H1 a0] ms0 = Ay8 k (g9 k k) a0 := by kernel_rfl
theorem C39 (k : Nat) (a0 : C5) : D1 (s5 k) Ao2 k 153 [C4 H1 a0] ms0 = Z3 k a0 := by rw [C38, show g9 k k = Q4 k k from (Bs9 k k)] <;> rfl
noncomputable def At2 (k : Nat) : Spec := .imm H1 fun (a0 : C5) => .body (Z3 k a0) (D9 [.str] [])
noncomputable def Ag9 (k : Nat) : Cfg := { eqs := [], tab := [(3, (.int .i64)), (49, (.slice 3 (.int .i64))), (162, H1)], spec := [(109, T3 k), (152, A31 k), (153, At2 k)], mspec := [], inl := [(117, Tryz.f117)], keep := [(11700001005, [1, 4, 5])], join := [], hold := [], ptrs := [], maps := [], fuel := k }
noncomputable def A01 : VV → Ms → Option (ByteArray × Bool) := G5 [.str, .bool] []
noncomputable def Ac2 (k n : Nat) (v1 : ByteArray) (v2 : Int) (a0 : C5) : Option (ByteArray × Bool) := w7 (Ag9 k) A01 n true 11700001005 (cd [1, 1, 1, 0, 1, 0, 0] (bo Tryz.f117)) [.b 0, .s (cd [1, 1, 1, 1] (bo Tryz.f117)), .fn Tryz.f117] ⟨⟨(O0 40 0 [(1, one (.ptr 9000000 0)), (4, one (.str v1)), (5, one (.int .i64 v2))]), [(9000000, .box [.int .i64 a0.1, .int .i64 a0.2.1, .int .i64 a0.2.2.1, .int .i64 a0.2.2.2.1, .int .i64 a0.2.2.2.2.1, .slc 3 (.int .i64) a0.2.2.2.2.2.1, .str a0.2.2.2.2.2.2.1, .slc 3 (.int .i64) a0.2.2.2.2.2.2.2.1, .int .i64 a0.2.2.2.2.2.2.2.2.1])]⟩, 11700001000, 1, [(0, (O0 0 0 []))]⟩
theorem Dk0 (k n : Nat) (v1 : ByteArray) (v2 : Int) (a0 : C5) : Ac2 k (n + 1) v1 v2 a0 = Am2 k (Ac2 k n) v1 v2 a0 := by kernel_rfl
theorem Cb2 (k : Nat) : ∀ n : Nat, Ac2 k n = W7 k n
 | 0 => (by funext v1 v2 a0; rfl)
 | n + 1 => by
  obtain h0 := Cb2 k n
  exact (by funext v1 v2 a0; rw [Dk0, h0] <;> rfl)
theorem Ds3 (k : Nat) (a0 : C5) : D1 (Ag9 k) A01 k 117 [C4 H1 a0] ms0 = Ca2 k (Ac2 k k) a0 := by kernel_rfl
theorem Ds4 (k : Nat) (a0 : C5) : D1 (Ag9 k) A01 k 117 [C4 H1 a0] ms0 = Av8 k a0 := by rw [Ds3, show Ac2 k k = W7 k k from (Cb2 k k)] <;> rfl
noncomputable def B22 (k : Nat) : Spec := .imm H1 fun (a0 : C5) => .body (Av8 k a0) (D9 [.str, .bool] [])
noncomputable def s6 (k : Nat) : Cfg := { eqs := [], tab := [(3, (.int .i64)), (49, (.slice 3 (.int .i64)))], spec := [], mspec := [], inl := [(151, Tryz.f151)], keep := [(15100001004, [0, 1, 5])], join := [], hold := [], ptrs := [], maps := [], fuel := k }
noncomputable def Ao3 : VV → Ms → Option Bool := G5 [.bool] []
noncomputable def i6 (k n : Nat) (a0 : List Int) (a1 : List Int) (v1 : Int) : Option Bool := w7 (s6 k) Ao3 n true 15100001004 (cd [1, 1, 0, 1, 0, 0] (bo Tryz.f151)) [.b 0, .s (cd [1, 1, 1] (bo Tryz.f151)), .fn Tryz.f151] ⟨⟨(O0 26 0 [(0, one (.slc 3 (.int .i64) a0)), (1, one (.slc 3 (.int .i64) a1)), (5, one (.int .i64 v1))]), []⟩, 15100001000, 1, [(0, (O0 0 0 []))]⟩
theorem Ct0 (k n : Nat) (a0 : List Int) (a1 : List Int) (v1 : Int) : i6 k (n + 1) a0 a1 v1 = Ad4 k (i6 k n) a0 a1 v1 := by kernel_rfl
theorem Bt0 (k : Nat) : ∀ n : Nat, i6 k n = Q5 k n
 | 0 => (by funext a0 a1 v1; rfl)
 | n + 1 => by
  obtain h0 := Bt0 k n
  exact (by funext a0 a1 v1; rw [Ct0, h0] <;> rfl)
theorem C40 (k : Nat) (a0 : List Int) (a1 : List Int) : D1 (s6 k) Ao3 k 151 [C4 (.slice 3 (.int .i64)) a0, C4 (.slice 3 (.int .i64)) a1] ms0 = Ah7 k (i6 k k) a0 a1 := by kernel_rfl
theorem C41 (k : Nat) (a0 : List Int) (a1 : List Int) : D1 (s6 k) Ao3 k 151 [C4 (.slice 3 (.int .i64)) a0, C4 (.slice 3 (.int .i64)) a1] ms0 = S0 k a0 a1 := by rw [C40, show i6 k k = Q5 k k from (Bt0 k k)] <;> rfl
noncomputable def Bj2 (k : Nat) : Spec := .imm (.slice 3 (.int .i64)) fun (a0 : List Int) => .imm (.slice 3 (.int .i64)) fun (a1 : List Int) => .body (S0 k a0 a1) (D9 [.bool] [])
noncomputable def B23 (k : Nat) : Cfg := { eqs := [], tab := [(3, (.int .i64)), (9, .str), (49, (.slice 3 (.int .i64))), (162, H1)], spec := [(151, Bj2 k)], mspec := [], inl := [(193, Tryz.f193)], keep := [], join := [], hold := [], ptrs := [], maps := [], fuel := k }
noncomputable def Ds5 : VV → Ms → Option Bool := G5 [.bool] []
theorem Ev2 (k : Nat) (a0 : C5) (a1 : C5) : D1 (B23 k) Ds5 k 193 [C4 H1 a0, C4 H1 a1] ms0 = A45 k a0 a1 := by kernel_rfl
noncomputable def Cm1 (k : Nat) : Spec := .imm H1 fun (a0 : C5) => .imm H1 fun (a1 : C5) => .body (A45 k a0 a1) (D9 [.bool] [])
noncomputable def Bq5 (k : Nat) : Cfg := { eqs := [], tab := [(162, H1)], spec := [(193, Cm1 k)], mspec := [], inl := [(172, Tryz.f172)], keep := [], join := [], hold := [], ptrs := [], maps := [], fuel := k }
noncomputable def Dk1 : VV → Ms → Option Bool := G5 [.bool] []
theorem Ec9 (k : Nat) (a0 : C5) : D1 (Bq5 k) Dk1 k 172 [C4 H1 a0] ms0 = Ar7 k a0 := by kernel_rfl
noncomputable def Cb3 (k : Nat) : Spec := .imm H1 fun (a0 : C5) => .body (Ar7 k a0) (D9 [.bool] [])
noncomputable def Be7 (k : Nat) : Cfg := { eqs := [], tab := [(3, (.int .i64)), (49, (.slice 3 (.int .i64))), (162, H1), (169, T2)], spec := [(55, I3 k), (152, A31 k), (170, Bq3 k), (172, Cb3 k)], mspec := [], inl := [(154, Tryz.f154)], keep := [], join := [], hold := [], ptrs := [], maps := [], fuel := k }
noncomputable def C42 : VV → Ms → Option Bool := G5 [.bool] []
theorem Ds6 (k : Nat) (a0 : I1) : D1 (Be7 k) C42 k 154 [C4 T2 a0] ms0 = Aj8 k a0 := by kernel_rfl
noncomputable def B24 (k : Nat) : Spec := .imm T2 fun (a0 : I1) => .body (Aj8 k a0) (D9 [.bool] [])
noncomputable def A02 (k : Nat) : Cfg := { eqs := [], tab := [(3, (.int .i64)), (162, H1), (169, T2)], spec := [(109, T3 k), (116, Be5 k), (117, B22 k), (153, At2 k), (154, B24 k), (171, Bq4 k)], mspec := [], inl := [(160, Tryz.f160)], keep := [], join := [], hold := [], ptrs := [], maps := [], fuel := k }
noncomputable def Cm2 : VV → Ms → Option (ByteArray × Bool) := G5 [.str, .bool] []
theorem C43 (k : Nat) (a0 : I1) : D1 (A02 k) Cm2 k 160 [C4 T2 a0] ms0 = u4 k a0 := by kernel_rfl
noncomputable def Bj3 (k : Nat) : Spec := .imm T2 fun (a0 : I1) => .body (u4 k a0) (D9 [.str, .bool] [])
noncomputable def Ax4 (k : Nat) : Cfg := { eqs := [], tab := [(112, (.slice 164 Er0)), (114, A76), (164, Er0)], spec := [], mspec := [], inl := [(118, Tryz.f118)], keep := [(11800001003, [0, 1, 2])], join := [], hold := [(11800001003, [(1, [0, 4], 164, Er0, false, false)])], ptrs := [], maps := [], fuel := k }
noncomputable def Be8 : VV → Ms → Option Ar1 := G5 [A76] [.o, .o, .o, .o, .o]
noncomputable def Ao4 (k n : Nat) (v1 : Int) (xs2 : List De8) : Option Ar1 := w7 (Ax4 k) Be8 n true 11800001003 (cd [1, 1, 0, 1, 0, 0] (bo Tryz.f118)) [.b 0, .s (cd [1, 1, 1] (bo Tryz.f118)), .fn Tryz.f118] ⟨⟨(O0 16 0 [(0, one (.ptr 9000000 0)), (1, one (.ptr 9000001 0)), (2, one (.int .i64 v1))]), [(9000000, .box [.nilS, .nilS, .nilS, .nilS, .nilS]), (9000001, .box [.nilS, .nilS, .nilS, .nilS, .row 9000002 none none]), (9000002, .row 164 Er0 xs2 true)]⟩, 11800001000, 1, [(0, (O0 0 0 []))]⟩
theorem Ed0 (k n : Nat) (v1 : Int) (xs2 : List De8) : Ao4 k (n + 1) v1 xs2 = Bn1 k (Ao4 k n) v1 xs2 := by kernel_rfl
theorem Cz8 (k : Nat) : ∀ n : Nat, Ao4 k n = n7 k n
 | 0 => (by funext v1 xs2; rfl)
 | n + 1 => by
  obtain h0 := Cz8 k n
  exact (by funext v1 xs2; rw [Ed0, h0] <;> rfl)
theorem Ev3 (k : Nat) : D1 (Ax4 k) Be8 k 118 [] ms0 = Cw9 k (Ao4 k k) := by kernel_rfl
theorem Ev4 (k : Nat) : D1 (Ax4 k) Be8 k 118 [] ms0 = Bh5 k := by rw [Ev3, show Ao4 k k = n7 k k from (Cz8 k k)] <;> rfl
noncomputable def Cm3 (k : Nat) : Spec := .body (Bh5 k) (D9 [A76] [.o, .o, .o, .o, .o])
noncomputable def B25 (k : Nat) : MSpec := .box B9 fun (a0 : A5) => .body (Bb2 k a0) (fun r => D9 [H1] [.o, .o] r.1) (fun r => poV [.box B9] r.2)
noncomputable def Cz9 (k : Nat) : Spec := .imm Ar3 fun (a0 : p7) => .body (Df2 k a0) (D9 [(.slice 3 (.int .i64))] [.o])
noncomputable def Cm4 (k : Nat) : Spec := .imm Ar3 fun (a0 : p7) => .imm (.slice 3 (.int .i64)) fun (a1 : List Int) => .body (A46 k a0 a1) (D9 [(.int .i64)] [])
noncomputable def B26 (k : Nat) : Spec := .imm Ar3 fun (a0 : p7) => .imm (.slice 3 (.int .i64)) fun (a1 : List Int) => .body (Aj9 k a0 a1) (D9 [(.slice 260 Ck6), .bool] [.o])
noncomputable def Cm5 (k : Nat) : Spec := .imm (.slice 162 H1) fun (a0 : List C5) => .imm (.slice 260 Ck6) fun (a1 : List Bs0) => .imm H1 fun (a2 : C5) => .body (Cq4 k a0 a1 a2) (D9 [.bool] [])
noncomputable def Ak7 (k : Nat) : Cfg := { eqs := [], tab := [(3, (.int .i64)), (49, (.slice 3 (.int .i64))), (107, (.slice 162 H1)), (111, Ar3), (162, H1)], spec := [(176, Cz9 k), (177, Cm4 k), (178, B26 k), (179, Cm5 k)], mspec := [(65, M0 k), (88, o9 k), (175, B25 k)], inl := [(158, Tryz.f158)], keep := [(15800001008, [0, 2, 4, 6, 7, 8, 9, 10]), (15800001018, [0, 2, 4, 6, 7, 11, 13])], join := [], hold := [], ptrs := [], maps := [], fuel := k }
noncomputable def Au5 : VV → Ms → Option (C5 × A5 × Unit) := Ba1 [H1] [.o, .o] [.box B9, .imm Ar3, .imm (.int .i64)]
noncomputable def A32 (k n : Nat) (a2 : Int) (v6 : Int) (v7 : List Int) (v8 : Int) (v9 : Int) (a1 : p7) (v10 : Int) (v11 : Int) (v12 : Int) (v13 : Int) (v14 : ByteArray) (r6 : Int) (xs15 : List Bs0) (xs16 : List Int) (xs17 : List Int) : Option (C5 × A5 × Unit) := w7 (Ak7 k) Au5 n true 15800001018 (cd [1, 1, 1, 1, 1, 1, 1, 1, 1, 1, 1, 0, 1, 0, 0] (bo Tryz.f158)) [.b 2, .s (cd [1, 1, 1, 1, 1, 1, 1, 1, 1, 1, 1, 1] (bo Tryz.f158)), .fn Tryz.f158] ⟨⟨(O0 130 0 [(0, one (.ptr 9000000 0)), (2, one (.int .i64 a2)), (4, one (.ptr 9000001 0)), (6, one (.ptr 9000002 0)), (7, one (.ptr 9000003 0)), (11, one (.row 9000004 none none)), (13, one (.int .i64 v6))]), [(9000000, .box [.slc 5 (.int .u8) v7, .int .i64 v8, .int .i64 v9]), (9000001, .box [.slc 162 H1 a1.1, .slc 215 (.slice 260 Ck6) a1.2.1, .slc 4 .bool a1.2.2.1]), (9000002, .box [.int .i64 0, .int .i64 0, .int .i64 0, .int .i64 0, .int .i64 0, .nilS, .str ByteArray.empty, .nilS, .int .i64 0]), (9000003, .box [.int .i64 a2, .int .i64 v10, .int .i64 v11, .int .i64 v12, .int .i64 v13, .row 9000005 none none, .str v14, .row 9000006 none none, .int .i64 r6]), (9000004, .row 260 Ck6 xs15 true), (9000005, .row 3 (.int .i64) xs16 true), (9000006, .row 3 (.int .i64) xs17 true)]⟩, 15800001000, 1, [(0, (O0 3 0 [(0, one (.ptr 9000000 0))]))]⟩
noncomputable def Ao5 (k n : Nat) (a2 : Int) (v1 : Int) (v2 : List Int) (v3 : Int) (v4 : Int) (a1 : p7) (r1 : C5 × A5 × Unit) (r2 : List Int) (xs5 : List Int) : Option (C5 × A5 × Unit) := w7 (Ak7 k) Au5 n true 15800001008 (cd [1, 1, 1, 1, 1, 1, 0, 1, 0, 0] (bo Tryz.f158)) [.b 0, .s (cd [1, 1, 1, 1, 1, 1, 1] (bo Tryz.f158)), .fn Tryz.f158] ⟨⟨(O0 130 0 [(0, one (.ptr 9000000 0)), (2, one (.int .i64 a2)), (4, one (.ptr 9000001 0)), (6, one (.ptr 9000002 0)), (7, one (.ptr 9000003 0)), (8, one (.row 9000004 none none)), (9, one (.row 9000005 none none)), (10, one (.int .i64 v1))]), [(9000000, .box [.slc 5 (.int .u8) v2, .int .i64 v3, .int .i64 v4]), (9000001, .box [.slc 162 H1 a1.1, .slc 215 (.slice 260 Ck6) a1.2.1, .slc 4 .bool a1.2.2.1]), (9000002, .box [.int .i64 0, .int .i64 0, .int .i64 0, .int .i64 0, .int .i64 0, .nilS, .str ByteArray.empty, .nilS, .int .i64 0]), (9000003, .box [.int .i64 a2, .int .i64 r1.1.2.1, .int .i64 r1.1.2.2.1, .int .i64 r1.1.2.2.2.1, .int .i64 r1.1.2.2.2.2.1, .row 9000006 none none, .str r1.1.2.2.2.2.2.2.1, .row 9000007 none none, .int .i64 r1.1.2.2.2.2.2.2.2.2.1]), (9000004, .row 3 (.int .i64) r2 true), (9000005, .row 3 (.int .i64) xs5 true), (9000006, .row 3 (.int .i64) r1.1.2.2.2.2.2.1 true), (9000007, .row 3 (.int .i64) r1.1.2.2.2.2.2.2.2.1 true)]⟩, 15800001000, 1, [(0, (O0 3 0 [(0, one (.ptr 9000000 0))]))]⟩
theorem Ed1 (k n : Nat) (a2 : Int) (v6 : Int) (v7 : List Int) (v8 : Int) (v9 : Int) (a1 : p7) (v10 : Int) (v11 : Int) (v12 : Int) (v13 : Int) (v14 : ByteArray) (r6 : Int) (xs15 : List Bs0) (xs16 : List Int) (xs17 : List Int) : A32 k (n + 1) a2 v6 v7 v8 v9 a1 v10 v11 v12 v13 v14 r6 xs15 xs16 xs17 = Ci1 k (A32 k n) a2 v6 v7 v8 v9 a1 v10 v11 v12 v13 v14 r6 xs15 xs16 xs17 := by kernel_rfl
theorem Ed2 (k n : Nat) (a2 : Int) (v1 : Int) (v2 : List Int) (v3 : Int) (v4 : Int) (a1 : p7) (r1 : C5 × A5 × Unit) (r2 : List Int) (xs5 : List Int) : Ao5 k (n + 1) a2 v1 v2 v3 v4 a1 r1 r2 xs5 = Ci2 k (Ao5 k n) (A32 k n) a2 v1 v2 v3 v4 a1 r1 r2 xs5 := by kernel_rfl
theorem C00 (k : Nat) : ∀ n : Nat, A32 k n = Bn2 k n ∧ Ao5 k n = A22 k n
 | 0 => ⟨(by funext a2 v6 v7 v8 v9 a1 v10 v11 v12 v13 v14 r6 xs15 xs16 xs17; rfl), (by funext a2 v1 v2 v3 v4 a1 r1 r2 xs5; rfl)⟩
 | n + 1 => by
  obtain ⟨h1, h0⟩ := C00 k n
  exact ⟨(by funext a2 v6 v7 v8 v9 a1 v10 v11 v12 v13 v14 r6 xs15 xs16 xs17; rw [Ed1, h1] <;> rfl), (by funext a2 v1 v2 v3 v4 a1 r1 r2 xs5; rw [Ed2, h0, h1] <;> rfl)⟩
theorem Ev5 (k : Nat) (a0 : A5) (a1 : p7) (a2 : Int) : D1 (Ak7 k) Au5 k 158 (N3 1 [.box B9, .imm Ar3, .imm (.int .i64)] (a0, a1, a2, ())) (ms1 [.box B9, .imm Ar3, .imm (.int .i64)] (a0, a1, a2, ())) = Bx6 k (Ao5 k k) a0 a1 a2 := by kernel_rfl
theorem Ev6 (k : Nat) (a0 : A5) (a1 : p7) (a2 : Int) : D1 (Ak7 k) Au5 k 158 (N3 1 [.box B9, .imm Ar3, .imm (.int .i64)] (a0, a1, a2, ())) (ms1 [.box B9, .imm Ar3, .imm (.int .i64)] (a0, a1, a2, ())) = O5 k a0 a1 a2 := by rw [Ev5, show Ao5 k k = A22 k k from (C00 k k).2] <;> rfl
noncomputable def Cm6 (k : Nat) : MSpec := .box B9 fun (a0 : A5) => .imm Ar3 fun (a1 : p7) => .imm (.int .i64) fun (a2 : Int) => .body (O5 k a0 a1 a2) (fun r => D9 [H1] [.o, .o] r.1) (fun r => poV [.box B9, .imm Ar3, .imm (.int .i64)] r.2)
noncomputable def Ac3 (k : Nat) : Cfg := { eqs := [], tab := [(3, (.int .i64)), (49, (.slice 3 (.int .i64))), (106, (.slice 158 C3)), (111, Ar3), (114, A76), (158, C3), (162, H1), (169, T2)], spec := [(152, A31 k)], mspec := [(65, M0 k), (88, o9 k), (157, Az9 k), (158, Cm6 k)], inl := [(120, Tryz.f120)], keep := [(12050001006, [0, 3, 4, 5])], join := [(12000001006, 12050001006)], hold := [], ptrs := [], maps := [], fuel := k }
noncomputable def At3 : VV → Ms → Option (I1 × A5 × Unit) := Ba1 [T2] [.o, .o] [.box B9, .imm A76]
noncomputable def Ah8 (k n : Nat) (v1 : List Int) (v2 : Int) (v3 : Int) (a1 : Ar1) (v4 : Int) : Option (I1 × A5 × Unit) := w7 (Ac3 k) At3 n false 12050001006 (cd [1, 1, 1, 1] (bo Tryz.f120)) [.fn Tryz.f120] ⟨⟨(O0 122 0 [(0, one (.ptr 9000000 0)), (3, one (.ptr 9000001 0)), (4, one (.ptr 9000002 0)), (5, one (.ptr 9000003 0))]), [(9000000, .box [.slc 5 (.int .u8) v1, .int .i64 v2, .int .i64 v3]), (9000001, .box [.slc 158 C3 a1.1, .slc 162 H1 a1.2.1.1, .slc 215 (.slice 260 Ck6) a1.2.1.2.1, .slc 4 .bool a1.2.1.2.2.1, .slc 164 Er0 a1.2.2.1]), (9000002, .box [.int .i64 0, .int .i64 0, .int .i64 0, .int .i64 0, .int .i64 0, .int .i64 0, .int .i64 0, .int .i64 0, .nilS, .str ByteArray.empty, .nilS, .int .i64 0, .int .i64 0, .int .i64 0]), (9000003, .box [.int .i64 v4, .int .i64 0, .int .i64 0, .int .i64 0, .int .i64 0, .int .i64 0, .int .i64 0, .int .i64 0, .nilS, .str ByteArray.empty, .nilS, .int .i64 0, .int .i64 0, .int .i64 0])]⟩, 12000001000, 1, [(0, (O0 2 0 [(0, one (.ptr 9000000 0))]))]⟩
theorem C44 (k n : Nat) (v1 : List Int) (v2 : Int) (v3 : Int) (a1 : Ar1) (v4 : Int) : Ah8 k (n + 1) v1 v2 v3 a1 v4 = Ay9 k v1 v2 v3 a1 v4 := by kernel_rfl
theorem B27 (k : Nat) : ∀ n : Nat, Ah8 k n = U1 k n
 | 0 => (by funext v1 v2 v3 a1 v4; rfl)
 | n + 1 => by
  obtain h0 := B27 k n
  exact (by funext v1 v2 v3 a1 v4; rw [C44] <;> rfl)
theorem Dk2 (k : Nat) (a0 : A5) (a1 : Ar1) : D1 (Ac3 k) At3 k 120 (N3 1 [.box B9, .imm A76] (a0, a1, ())) (ms1 [.box B9, .imm A76] (a0, a1, ())) = Bx7 k (Ah8 k k) a0 a1 := by kernel_rfl
theorem Dk3 (k : Nat) (a0 : A5) (a1 : Ar1) : D1 (Ac3 k) At3 k 120 (N3 1 [.box B9, .imm A76] (a0, a1, ())) (ms1 [.box B9, .imm A76] (a0, a1, ())) = Am3 k a0 a1 := by rw [Dk2, show Ah8 k k = U1 k k from (B27 k k)] <;> rfl
noncomputable def Bt1 (k : Nat) : MSpec := .box B9 fun (a0 : A5) => .imm A76 fun (a1 : Ar1) => .body (Am3 k a0 a1) (fun r => D9 [T2] [.o, .o] r.1) (fun r => poV [.box B9, .imm A76] r.2)
noncomputable def Bq6 (k : Nat) : Cfg := { eqs := [], tab := [(106, (.slice 158 C3)), (114, A76), (158, C3), (169, T2)], spec := [(118, Cm3 k)], mspec := [(65, M0 k), (120, Bt1 k)], inl := [(161, Tryz.f161)], keep := [], join := [], hold := [], ptrs := [], maps := [], fuel := k }
noncomputable def Dk4 : VV → Ms → Option (I1 × A5 × Unit) := Ba1 [T2] [.o, .o] [.box B9]
theorem Ed3 (k : Nat) (a0 : A5) : D1 (Bq6 k) Dk4 k 161 (N3 1 [.box B9] (a0, ())) (ms1 [.box B9] (a0, ())) = A62 k a0 := by kernel_rfl
noncomputable def Cb4 (k : Nat) : MSpec := .box B9 fun (a0 : A5) => .body (A62 k a0) (fun r => D9 [T2] [.o, .o] r.1) (fun r => poV [.box B9] r.2)
noncomputable def Bq7 (k : Nat) : Cfg := { eqs := [], tab := [(3, (.int .i64)), (9, .str), (49, (.slice 3 (.int .i64))), (85, C3)], spec := [(121, Cb0 k), (160, Bj3 k)], mspec := [(70, Cl9 k), (157, Az9 k), (161, Cb4 k)], inl := [(130, Tryz.f130)], keep := [], join := [], hold := [], ptrs := [], maps := [], fuel := k }
noncomputable def Dk5 : VV → Ms → Option (B2 × A5 × Unit) := Ba1 [C3] [] [.box B9, .imm (.int .i64)]
theorem Ed4 (k : Nat) (a0 : A5) (a1 : Int) : D1 (Bq7 k) Dk5 k 130 (N3 1 [.box B9, .imm (.int .i64)] (a0, a1, ())) (ms1 [.box B9, .imm (.int .i64)] (a0, a1, ())) = Ai2 k a0 a1 := by kernel_rfl
noncomputable def Be9 (k : Nat) : MSpec := .box B9 fun (a0 : A5) => .imm (.int .i64) fun (a1 : Int) => .body (Ai2 k a0 a1) (fun r => D9 [C3] [] r.1) (fun r => poV [.box B9, .imm (.int .i64)] r.2)
noncomputable def B28 (k : Nat) : Cfg := { eqs := [], tab := [(3, (.int .i64)), (27, (.slice 85 C3)), (29, E6), (85, C3)], spec := [(162, A28 k)], mspec := [], inl := [(132, Tryz.f132)], keep := [], join := [], hold := [], ptrs := [], maps := [], fuel := k }
noncomputable def Ds7 : VV → Ms → Option Int := G5 [(.int .i64)] []
theorem Ev7 (k : Nat) (a0 : B7) (a1 : Int) : D1 (B28 k) Ds7 k 132 [C4 E6 a0, C4 (.int .i64) a1] ms0 = Ar8 k a0 a1 := by kernel_rfl
noncomputable def Bq8 (k : Nat) : Spec := .imm E6 fun (a0 : B7) => .imm (.int .i64) fun (a1 : Int) => .body (Ar8 k a0 a1) (D9 [(.int .i64)] [])
noncomputable def Bf0 (k : Nat) : Cfg := { eqs := [], tab := [(3, (.int .i64)), (27, (.slice 85 C3)), (29, E6)], spec := [(55, I3 k), (104, A81 k), (132, Bq8 k), (162, A28 k)], mspec := [], inl := [(131, Tryz.f131)], keep := [], join := [], hold := [], ptrs := [], maps := [], fuel := k }
noncomputable def C45 : VV → Ms → Option B7 := G5 [E6] [.o]
theorem Ds8 (k : Nat) (a0 : B7) (a1 : Int) (a2 : Int) : D1 (Bf0 k) C45 k 131 [C4 E6 a0, C4 (.int .i64) a1, C4 (.int .i64) a2] ms0 = Av9 k a0 a1 a2 := by kernel_rfl
noncomputable def B29 (k : Nat) : Spec := .imm E6 fun (a0 : B7) => .imm (.int .i64) fun (a1 : Int) => .imm (.int .i64) fun (a2 : Int) => .body (Av9 k a0 a1 a2) (D9 [E6] [.o])
noncomputable def Ax5 (k : Nat) : Cfg := { eqs := [], tab := [(3, (.int .i64)), (27, (.slice 85 C3)), (29, E6)], spec := [(86, Bq1 k), (131, B29 k), (132, Bq8 k)], mspec := [(65, M0 k), (88, o9 k), (130, Be9 k)], inl := [(87, Tryz.f87)], keep := [(8700001007, [0, 4, 6, 8, 9])], join := [], hold := [], ptrs := [], maps := [], fuel := k }
noncomputable def Bf1 : VV → Ms → Option (B7 × A5 × Unit) := Ba1 [E6] [.o] [.box B9, .imm E6]
noncomputable def Ao6 (k n : Nat) (v1 : Int) (v2 : Int) (v3 : List Int) (v4 : Int) (v5 : Int) (a1 : B7) (xs6 : List B2) : Option (B7 × A5 × Unit) := w7 (Ax5 k) Bf1 n true 8700001007 (cd [1, 1, 1, 1, 1, 0, 1, 0, 0] (bo Tryz.f87)) [.b 0, .s (cd [1, 1, 1, 1, 1, 1] (bo Tryz.f87)), .fn Tryz.f87] ⟨⟨(O0 78 0 [(0, one (.ptr 9000000 0)), (4, one (.ptr 9000001 0)), (6, one (.int .i64 v1)), (8, one (.ptr 9000002 0)), (9, one (.int .i64 v2))]), [(9000000, .box [.slc 5 (.int .u8) v3, .int .i64 v4, .int .i64 v5]), (9000001, .box [.int .i64 0, .int .i64 0, .nilS]), (9000002, .box [.int .i64 a1.1, .int .i64 a1.2.1, .row 9000003 none none]), (9000003, .row 85 C3 xs6 true)]⟩, 8700001000, 1, [(0, (O0 2 0 [(0, one (.ptr 9000000 0))]))]⟩
theorem Ed5 (k n : Nat) (v1 : Int) (v2 : Int) (v3 : List Int) (v4 : Int) (v5 : Int) (a1 : B7) (xs6 : List B2) : Ao6 k (n + 1) v1 v2 v3 v4 v5 a1 xs6 = Bn3 k (Ao6 k n) v1 v2 v3 v4 v5 a1 xs6 := by kernel_rfl
theorem C01 (k : Nat) : ∀ n : Nat, Ao6 k n = U9 k n
 | 0 => (by funext v1 v2 v3 v4 v5 a1 xs6; rfl)
 | n + 1 => by
  obtain h0 := C01 k n
  exact (by funext v1 v2 v3 v4 v5 a1 xs6; rw [Ed5, h0] <;> rfl)
theorem Ev8 (k : Nat) (a0 : A5) (a1 : B7) : D1 (Ax5 k) Bf1 k 87 (N3 1 [.box B9, .imm E6] (a0, a1, ())) (ms1 [.box B9, .imm E6] (a0, a1, ())) = Cx0 k (Ao6 k k) a0 a1 := by kernel_rfl
theorem Ev9 (k : Nat) (a0 : A5) (a1 : B7) : D1 (Ax5 k) Bf1 k 87 (N3 1 [.box B9, .imm E6] (a0, a1, ())) (ms1 [.box B9, .imm E6] (a0, a1, ())) = Bh6 k a0 a1 := by rw [Ev8, show Ao6 k k = U9 k k from (C01 k k)] <;> rfl
noncomputable def Cm7 (k : Nat) : MSpec := .box B9 fun (a0 : A5) => .imm E6 fun (a1 : B7) => .body (Bh6 k a0 a1) (fun r => D9 [E6] [.o] r.1) (fun r => poV [.box B9, .imm E6] r.2)
noncomputable def B30 (k : Nat) : Cfg := { eqs := [], tab := [(3, (.int .i64)), (29, E6), (31, A6)], spec := [(57, A29 k)], mspec := [(65, M0 k), (87, Cm7 k), (88, o9 k)], inl := [(35, Tryz.f35)], keep := [], join := [], hold := [], ptrs := [], maps := [], fuel := k }
noncomputable def Ds9 : VV → Ms → Option (A0 × A5 × Unit) := Ba1 [A6] [.o] [.box B9, .imm A6]
theorem Ew0 (k : Nat) (a0 : A5) (a1 : A0) : D1 (B30 k) Ds9 k 35 (N3 1 [.box B9, .imm A6] (a0, a1, ())) (ms1 [.box B9, .imm A6] (a0, a1, ())) = Ad5 k a0 a1 := by kernel_rfl
noncomputable def Bq9 (k : Nat) : MSpec := .box B9 fun (a0 : A5) => .imm A6 fun (a1 : A0) => .body (Ad5 k a0 a1) (fun r => D9 [A6] [.o] r.1) (fun r => poV [.box B9, .imm A6] r.2)
noncomputable def Ak8 (k : Nat) : Cfg := { eqs := [], tab := [(3, (.int .i64)), (9, .str), (24, (.slice 99 J0)), (26, D8), (31, A6), (99, J0)], spec := [(14, As9 k), (15, Bc3 k), (50, Ae4 k), (84, As8 k)], mspec := [(35, Bq9 k), (65, M0 k)], inl := [(33, Tryz.f33)], keep := [(3300001004, [0, 3, 4, 5, 8, 9])], join := [], hold := [(3300001004, [(3, [0, 5], 85, C3, true, false)])], ptrs := [], maps := [], fuel := k }
noncomputable def Au6 : VV → Ms → Option ((B4 × A0) × A5 × Unit) := Ba1 [D8, A6] [.o, .s] [.box B9, .imm A6]
noncomputable def A33 (k n : Nat) (v5 : Int) (v6 : List Int) (v7 : Int) (v8 : Int) (v9 : Int) (v10 : Int) (v11 : Int) (v12 : Int) (v13 : Int) (xs14 : List B2) (xs15 : List C2) : Option ((B4 × A0) × A5 × Unit) := w7 (Ak8 k) Au6 n true 3300001004 (cd [1, 1, 1, 0, 1, 0, 0] (bo Tryz.f33)) [.b 0, .s (cd [1, 1, 1, 1] (bo Tryz.f33)), .fn Tryz.f33] ⟨⟨(O0 55 0 [(0, one (.ptr 9000000 0)), (3, one (.ptr 9000001 0)), (4, one (.ptr 9000002 0)), (5, one (.ptr 9000003 0)), (8, one (.ptr 9000004 0)), (9, one (.int .i64 v5))]), [(9000000, .box [.slc 5 (.int .u8) v6, .int .i64 v7, .int .i64 v8]), (9000001, .box [.int .i64 v9, .int .i64 v10, .int .i64 v11, .int .i64 v12, .int .i64 v13, .row 9000005 none none]), (9000002, .box [.nilS]), (9000003, .box [.int .i64 0, .int .i64 0, .int .i64 0, .int .i64 0, .int .i64 0, .nilS]), (9000004, .box [.row 9000006 none none]), (9000005, .row 85 C3 xs14 false), (9000006, .row 99 J0 xs15 true)]⟩, 3300001000, 1, [(0, (O0 2 0 [(0, one (.ptr 9000000 0))]))]⟩
noncomputable def Ao7 (k n : Nat) (v1 : Int) (v2 : List Int) (v3 : Int) (v4 : Int) (a1 : A0) (r2 : ByteArray) (r1 : ByteArray × Bool) : Option ((B4 × A0) × A5 × Unit) := w7 (Ak8 k) Au6 n true 3300001004 (cd [1, 1, 1, 0, 1, 0, 0] (bo Tryz.f33)) [.b 0, .s (cd [1, 1, 1, 1] (bo Tryz.f33)), .fn Tryz.f33] ⟨⟨(O0 55 0 [(0, one (.ptr 9000000 0)), (3, one (.ptr 9000001 0)), (4, one (.ptr 9000002 0)), (5, one (.ptr 9000003 0)), (8, one (.ptr 9000004 0)), (9, one (.int .i64 v1))]), [(9000000, .box [.slc 5 (.int .u8) v2, .int .i64 v3, .int .i64 v4]), (9000001, .box [.int .i64 a1.1, .int .i64 a1.2.1, .int .i64 a1.2.2.1, .int .i64 a1.2.2.2.1.1, .int .i64 a1.2.2.2.1.2.1, .slc 85 C3 a1.2.2.2.1.2.2.1]), (9000002, .box [.nilS]), (9000003, .box [.int .i64 0, .int .i64 0, .int .i64 0, .int .i64 0, .int .i64 0, .nilS]), (9000004, .box [.row 9000005 none none]), (9000005, .row 99 J0 ([(r2, r1.1, (r1.1.size : Int), ())] : List C2) true)]⟩, 3300001000, 1, [(0, (O0 2 0 [(0, one (.ptr 9000000 0))]))]⟩
theorem Ed6 (k n : Nat) (v5 : Int) (v6 : List Int) (v7 : Int) (v8 : Int) (v9 : Int) (v10 : Int) (v11 : Int) (v12 : Int) (v13 : Int) (xs14 : List B2) (xs15 : List C2) : A33 k (n + 1) v5 v6 v7 v8 v9 v10 v11 v12 v13 xs14 xs15 = Bn4 k (A33 k n) v5 v6 v7 v8 v9 v10 v11 v12 v13 xs14 xs15 := by kernel_rfl
theorem Ed7 (k n : Nat) (v1 : Int) (v2 : List Int) (v3 : Int) (v4 : Int) (a1 : A0) (r2 : ByteArray) (r1 : ByteArray × Bool) : Ao7 k (n + 1) v1 v2 v3 v4 a1 r2 r1 = Bn5 k (A33 k n) (Ao7 k n) v1 v2 v3 v4 a1 r2 r1 := by kernel_rfl
theorem C02 (k : Nat) : ∀ n : Nat, A33 k n = Ad6 k n ∧ Ao7 k n = n8 k n
 | 0 => ⟨(by funext v5 v6 v7 v8 v9 v10 v11 v12 v13 xs14 xs15; rfl), (by funext v1 v2 v3 v4 a1 r2 r1; rfl)⟩
 | n + 1 => by
  obtain ⟨h1, h0⟩ := C02 k n
  exact ⟨(by funext v5 v6 v7 v8 v9 v10 v11 v12 v13 xs14 xs15; rw [Ed6, h1] <;> rfl), (by funext v1 v2 v3 v4 a1 r2 r1; rw [Ed7, h1, h0] <;> rfl)⟩
theorem Ew1 (k : Nat) (a0 : A5) (a1 : A0) : D1 (Ak8 k) Au6 k 33 (N3 1 [.box B9, .imm A6] (a0, a1, ())) (ms1 [.box B9, .imm A6] (a0, a1, ())) = Bx8 k (Ao7 k k) a0 a1 := by kernel_rfl
theorem Ew2 (k : Nat) (a0 : A5) (a1 : A0) : D1 (Ak8 k) Au6 k 33 (N3 1 [.box B9, .imm A6] (a0, a1, ())) (ms1 [.box B9, .imm A6] (a0, a1, ())) = Ak0 k a0 a1 := by rw [Ew1, show Ao7 k k = n8 k k from (C02 k k).2] <;> rfl
noncomputable def Cm8 (k : Nat) : MSpec := .box B9 fun (a0 : A5) => .imm A6 fun (a1 : A0) => .body (Ak0 k a0 a1) (fun r => D9 [D8, A6] [.o, .s] r.1) (fun r => poV [.box B9, .imm A6] r.2)
noncomputable def Ao8 (k : Nat) : Cfg := { eqs := [], tab := [(3, (.int .i64)), (27, (.slice 85 C3)), (29, E6)], spec := [], mspec := [(65, M0 k), (88, o9 k), (130, Be9 k)], inl := [(85, Tryz.f85)], keep := [(8500001004, [0, 2, 3, 4, 5])], join := [], hold := [(8500001004, [(3, [0, 2], 85, C3, false, false)])], ptrs := [], maps := [], fuel := k }
noncomputable def A89 : VV → Ms → Option (B7 × A5 × Unit) := Ba1 [E6] [.o] [.box B9]
noncomputable def Ah0 (k n : Nat) (v1 : Int) (v2 : Int) (v3 : List Int) (v4 : Int) (v5 : Int) (r1 : Int × A5 × Unit) (r2 : Int × A5 × Unit) (r3 : Int × A5 × Unit) (xs6 : List B2) : Option (B7 × A5 × Unit) := w7 (Ao8 k) A89 n true 8500001004 (cd [1, 1, 1, 0, 1, 0, 0] (bo Tryz.f85)) [.b 0, .s (cd [1, 1, 1, 1] (bo Tryz.f85)), .fn Tryz.f85] ⟨⟨(O0 38 0 [(0, one (.ptr 9000000 0)), (2, one (.ptr 9000001 0)), (3, one (.ptr 9000002 0)), (4, one (.int .i64 v1)), (5, one (.int .i64 v2))]), [(9000000, .box [.slc 5 (.int .u8) v3, .int .i64 v4, .int .i64 v5]), (9000001, .box [.int .i64 0, .int .i64 0, .nilS]), (9000002, .box [.int .i64 (B0 (r1.1 * r2.1)), .int .i64 r3.1, .row 9000003 none none]), (9000003, .row 85 C3 xs6 true)]⟩, 8500001000, 1, [(0, (O0 1 0 [(0, one (.ptr 9000000 0))]))]⟩
theorem Dt0 (k n : Nat) (v1 : Int) (v2 : Int) (v3 : List Int) (v4 : Int) (v5 : Int) (r1 : Int × A5 × Unit) (r2 : Int × A5 × Unit) (r3 : Int × A5 × Unit) (xs6 : List B2) : Ah0 k (n + 1) v1 v2 v3 v4 v5 r1 r2 r3 xs6 = Bc9 k (Ah0 k n) v1 v2 v3 v4 v5 r1 r2 r3 xs6 := by kernel_rfl
theorem Cm9 (k : Nat) : ∀ n : Nat, Ah0 k n = Z4 k n
 | 0 => (by funext v1 v2 v3 v4 v5 r1 r2 r3 xs6; rfl)
 | n + 1 => by
  obtain h0 := Cm9 k n
  exact (by funext v1 v2 v3 v4 v5 r1 r2 r3 xs6; rw [Dt0, h0] <;> rfl)
theorem Ed8 (k : Nat) (a0 : A5) : D1 (Ao8 k) A89 k 85 (N3 1 [.box B9] (a0, ())) (ms1 [.box B9] (a0, ())) = Ci3 k (Ah0 k k) a0 := by kernel_rfl
theorem Ed9 (k : Nat) (a0 : A5) : D1 (Ao8 k) A89 k 85 (N3 1 [.box B9] (a0, ())) (ms1 [.box B9] (a0, ())) = A63 k a0 := by rw [Ed8, show Ah0 k k = Z4 k k from (Cm9 k k)] <;> rfl
noncomputable def Cb5 (k : Nat) : MSpec := .box B9 fun (a0 : A5) => .body (A63 k a0) (fun r => D9 [E6] [.o] r.1) (fun r => poV [.box B9] r.2)
noncomputable def Br0 (k : Nat) : Cfg := { eqs := [], tab := [(29, E6), (31, A6)], spec := [(86, Bq1 k)], mspec := [(65, M0 k), (85, Cb5 k)], inl := [(34, Tryz.f34)], keep := [], join := [], hold := [], ptrs := [], maps := [], fuel := k }
noncomputable def Dk6 : VV → Ms → Option (A0 × A5 × Unit) := Ba1 [A6] [.o] [.box B9]
theorem Ee0 (k : Nat) (a0 : A5) : D1 (Br0 k) Dk6 k 34 (N3 1 [.box B9] (a0, ())) (ms1 [.box B9] (a0, ())) = Ai3 k a0 := by kernel_rfl
noncomputable def Cb6 (k : Nat) : MSpec := .box B9 fun (a0 : A5) => .body (Ai3 k a0) (fun r => D9 [A6] [.o] r.1) (fun r => poV [.box B9] r.2)
noncomputable def P8 (k : Nat) : Cfg := { eqs := [], tab := [(3, (.int .i64)), (5, (.int .u8)), (22, (.slice 5 (.int .u8))), (26, D8), (31, A6), (129, B9)], spec := [], mspec := [(33, Cm8 k), (34, Cb6 k), (35, Bq9 k)], inl := [(8, Tryz.f8), (32, Tryz.f32)], keep := [(3200002003, [0, 3, 4])], join := [], hold := [], ptrs := [], maps := [], fuel := k }
noncomputable def i7 : VV → Ms → Option (B4 × A0 × A0) := G5 [D8, A6, A6] [.o, .s, .o]
noncomputable def P0 (k n : Nat) (a0 : List Int) (v1 : Int) (v2 : Int) : Option (B4 × A0 × A0) := w7 (P8 k) i7 n true 3200002003 (cd [1, 1, 0, 1, 0, 0] (bo Tryz.f32)) [.b 0, .s (cd [1, 1, 1] (bo Tryz.f32)), .fn Tryz.f32, .op (rg (cd [1, 0] (bo Tryz.f8))) ((rg (cd [1, 0] (bo Tryz.f8))).drop 2) 2 (some 9), .s (cd [1, 1] (bo Tryz.f8)), .fn Tryz.f8] ⟨⟨(O0 32 0 [(0, one (.slc 5 (.int .u8) a0)), (3, one (.int .i64 v1)), (4, one (.int .i64 v2))]), [(9000000, .box [.nilS]), (9000001, .box [.int .i64 0, .int .i64 0, .int .i64 0, .int .i64 0, .int .i64 0, .nilS]), (9000002, .box [.int .i64 0, .int .i64 0, .int .i64 0, .int .i64 0, .int .i64 0, .nilS])]⟩, 3200002000, 2, [(800001000, (O0 22 0 [(0, one (.slc 5 (.int .u8) a0)), (2, one (.ptr 9000000 0)), (3, one (.ptr 9000001 0)), (4, one (.ptr 9000002 0)), (8, one (.slc 5 (.int .u8) a0))])), (0, (O0 0 0 []))]⟩
theorem Br1 (k n : Nat) (a0 : List Int) (v1 : Int) (v2 : Int) : P0 k (n + 1) a0 v1 v2 = Am4 k (P0 k n) a0 v1 v2 := by kernel_rfl
theorem Ar4 (k : Nat) : ∀ n : Nat, P0 k n = O9 k n
 | 0 => (by funext a0 v1 v2; rfl)
 | n + 1 => by
  obtain h0 := Ar4 k n
  exact (by funext a0 v1 v2; rw [Br1, h0] <;> rfl)
theorem Bu7 (k : Nat) (a0 : List Int) : D1 (P8 k) i7 k 8 [C4 (.slice 5 (.int .u8)) a0] ms0 = Ar2 k (P0 k k) a0 := by kernel_rfl
theorem Bu8 (k : Nat) (a0 : List Int) : D1 (P8 k) i7 k 8 [C4 (.slice 5 (.int .u8)) a0] ms0 = U4 k a0 := by rw [Bu7, show P0 k k = O9 k k from (Ar4 k k)] <;> rfl
noncomputable def Ao9 (k : Nat) : Spec := .imm (.slice 5 (.int .u8)) fun (a0 : List Int) => .body (U4 k a0) (D9 [D8, A6, A6] [.o, .s, .o])
noncomputable def Cf3 (k : Nat) : Cfg := { eqs := [], tab := [], spec := [], mspec := [], inl := [(39, Tryz.f39)], keep := [], join := [], hold := [], ptrs := [], maps := [], fuel := k }
noncomputable def Ee1 : VV → Ms → Option Bool := G5 [.bool] []
theorem Fg6 (k : Nat) (a0 : Int) (a1 : Int) (a2 : Int) : D1 (Cf3 k) Ee1 k 39 [C4 (.int .i64) a0, C4 (.int .i64) a1, C4 (.int .i64) a2] ms0 = M7 k a0 a1 a2 := by kernel_rfl
noncomputable def N0 (k : Nat) : Spec := .imm (.int .i64) fun (a0 : Int) => .imm (.int .i64) fun (a1 : Int) => .imm (.int .i64) fun (a2 : Int) => .body (M7 k a0 a1 a2) (D9 [.bool] [])
noncomputable def A90 (k : Nat) : Cfg := { eqs := [], tab := [(3, (.int .i64)), (49, (.slice 3 (.int .i64)))], spec := [(39, N0 k)], mspec := [], inl := [(123, Tryz.f123)], keep := [(12300001002, [0, 5, 6, 7])], join := [], hold := [], ptrs := [], maps := [], fuel := k }
noncomputable def Br2 : VV → Ms → Option Bool := G5 [.bool] []
noncomputable def Ax6 (k n : Nat) (a0 : List Int) (v1 : Int) : Option Bool := w7 (A90 k) Br2 n true 12300001002 (cd [1, 0, 1, 0, 0] (bo Tryz.f123)) [.b 0, .s (cd [1, 1] (bo Tryz.f123)), .fn Tryz.f123] ⟨⟨(O0 32 0 [(0, one (.slc 3 (.int .i64) a0)), (5, one (.slc 3 (.int .i64) a0)), (6, one (.int .i64 (a0.length : Int))), (7, one (.int .i64 v1))]), []⟩, 12300001000, 1, [(0, (O0 0 0 []))]⟩
theorem Ew3 (k n : Nat) (a0 : List Int) (v1 : Int) : Ax6 k (n + 1) a0 v1 = Bb3 k (Ax6 k n) a0 v1 := by kernel_rfl
theorem Dk7 (k : Nat) : ∀ n : Nat, Ax6 k n = l6 k n
 | 0 => (by funext a0 v1; rfl)
 | n + 1 => by
  obtain h0 := Dk7 k n
  exact (by funext a0 v1; rw [Ew3, h0] <;> rfl)
theorem Fg7 (k : Nat) (a0 : List Int) : D1 (A90 k) Br2 k 123 [C4 (.slice 3 (.int .i64)) a0] ms0 = Df3 k (Ax6 k k) a0 := by kernel_rfl
theorem Fg8 (k : Nat) (a0 : List Int) : D1 (A90 k) Br2 k 123 [C4 (.slice 3 (.int .i64)) a0] ms0 = Bx9 k a0 := by rw [Fg7, show Ax6 k k = l6 k k from (Dk7 k k)] <;> rfl
noncomputable def C03 (k : Nat) : Spec := .imm (.slice 3 (.int .i64)) fun (a0 : List Int) => .body (Bx9 k a0) (D9 [.bool] [])
noncomputable def Ap0 (k : Nat) : Cfg := { eqs := [], tab := [(3, (.int .i64)), (5, (.int .u8)), (9, .str), (49, (.slice 3 (.int .i64)))], spec := [(123, C03 k)], mspec := [], inl := [(80, Tryz.f80)], keep := [(8000001003, [0, 4, 5])], join := [], hold := [(8000001003, [(4, [0], 3, (.int .i64), false, false)])], ptrs := [], maps := [], fuel := k }
noncomputable def A91 : VV → Ms → Option (List Int × Bool) := G5 [(.slice 3 (.int .i64)), .bool] [.o]
noncomputable def Ah1 (k n : Nat) (a0 : ByteArray) (v1 : Int) (xs2 : List Int) : Option (List Int × Bool) := w7 (Ap0 k) A91 n true 8000001003 (cd [1, 1, 0, 1, 0, 0] (bo Tryz.f80)) [.b 0, .s (cd [1, 1, 1] (bo Tryz.f80)), .fn Tryz.f80] ⟨⟨(O0 23 0 [(0, one (.str a0)), (4, one (.row 9000000 none none)), (5, one (.int .i64 v1))]), [(9000000, .row 3 (.int .i64) xs2 true)]⟩, 8000001000, 1, [(0, (O0 0 0 []))]⟩
theorem Dt1 (k n : Nat) (a0 : ByteArray) (v1 : Int) (xs2 : List Int) : Ah1 k (n + 1) a0 v1 xs2 = Bd0 k (Ah1 k n) a0 v1 xs2 := by kernel_rfl
theorem Cn0 (k : Nat) : ∀ n : Nat, Ah1 k n = Z5 k n
 | 0 => (by funext a0 v1 xs2; rfl)
 | n + 1 => by
  obtain h0 := Cn0 k n
  exact (by funext a0 v1 xs2; rw [Dt1, h0] <;> rfl)
theorem Ee2 (k : Nat) (a0 : ByteArray) : D1 (Ap0 k) A91 k 80 [C4 .str a0] ms0 = Ci4 k (Ah1 k k) a0 := by kernel_rfl
theorem Ee3 (k : Nat) (a0 : ByteArray) : D1 (Ap0 k) A91 k 80 [C4 .str a0] ms0 = A64 k a0 := by rw [Ee2, show Ah1 k k = Z5 k k from (Cn0 k k)] <;> rfl
noncomputable def Cb7 (k : Nat) : Spec := .imm .str fun (a0 : ByteArray) => .body (A64 k a0) (D9 [(.slice 3 (.int .i64)), .bool] [.o])
noncomputable def B31 (k : Nat) : Cfg := { eqs := [], tab := [(3, (.int .i64)), (9, .str), (85, C3)], spec := [(39, N0 k), (80, Cb7 k)], mspec := [], inl := [(97, Tryz.f97)], keep := [], join := [], hold := [], ptrs := [], maps := [], fuel := k }
noncomputable def Dt2 : VV → Ms → Option Bool := G5 [.bool] []
theorem Ew4 (k : Nat) (a0 : B2) : D1 (B31 k) Dt2 k 97 [C4 C3 a0] ms0 = Ak1 k a0 := by kernel_rfl
noncomputable def A34 (k : Nat) : Spec := .imm C3 fun (a0 : B2) => .body (Ak1 k a0) (D9 [.bool] [])
noncomputable def Bj4 (k : Nat) : Cfg := { eqs := [], tab := [(3, (.int .i64)), (27, (.slice 85 C3)), (29, E6), (85, C3)], spec := [(39, N0 k), (97, A34 k)], mspec := [], inl := [(43, Tryz.f43)], keep := [(4300001005, [3, 34, 35, 36])], join := [], hold := [], ptrs := [], maps := [], fuel := k }
noncomputable def B32 : VV → Ms → Option Bool := G5 [.bool] []
noncomputable def A92 (k n : Nat) (v1 : Int) (a0 : B7) (v2 : Int) : Option Bool := w7 (Bj4 k) B32 n true 4300001005 (cd [1, 1, 1, 0, 1, 0, 0] (bo Tryz.f43)) [.b 0, .s (cd [1, 1, 1, 1] (bo Tryz.f43)), .fn Tryz.f43] ⟨⟨(O0 52 0 [(3, one (.int .i64 v1)), (34, one (.slc 85 C3 a0.2.2.1)), (35, one (.int .i64 (a0.2.2.1.length : Int))), (36, one (.int .i64 v2))]), []⟩, 4300001000, 1, [(0, (O0 0 0 []))]⟩
theorem Fg9 (k n : Nat) (v1 : Int) (a0 : B7) (v2 : Int) : A92 k (n + 1) v1 a0 v2 = Bn6 k (A92 k n) v1 a0 v2 := by kernel_rfl
theorem D44 (k : Nat) : ∀ n : Nat, A92 k n = Ab1 k n
 | 0 => (by funext v1 a0 v2; rfl)
 | n + 1 => by
  obtain h0 := D44 k n
  exact (by funext v1 a0 v2; rw [Fg9, h0] <;> rfl)
theorem F10 (k : Nat) (a0 : B7) : D1 (Bj4 k) B32 k 43 [C4 E6 a0] ms0 = D15 k (A92 k k) a0 := by kernel_rfl
theorem F11 (k : Nat) (a0 : B7) : D1 (Bj4 k) B32 k 43 [C4 E6 a0] ms0 = Bb4 k a0 := by rw [F10, show A92 k k = Ab1 k k from (D44 k k)] <;> rfl
noncomputable def Cf4 (k : Nat) : Spec := .imm E6 fun (a0 : B7) => .body (Bb4 k a0) (D9 [.bool] [])
noncomputable def Bf2 (k : Nat) : Cfg := { eqs := [], tab := [(3, (.int .i64)), (29, E6), (31, A6)], spec := [(39, N0 k), (43, Cf4 k)], mspec := [], inl := [(12, Tryz.f12)], keep := [], join := [], hold := [], ptrs := [], maps := [], fuel := k }
noncomputable def C46 : VV → Ms → Option Bool := G5 [.bool] []
theorem Dt3 (k : Nat) (a0 : A0) : D1 (Bf2 k) C46 k 12 [C4 A6 a0] ms0 = Y7 k a0 := by kernel_rfl
noncomputable def Ac4 (k : Nat) : Spec := .imm A6 fun (a0 : A0) => .body (Y7 k a0) (D9 [.bool] [])
noncomputable def Ax7 (k : Nat) : Cfg := { eqs := [], tab := [(3, (.int .i64)), (5, (.int .u8)), (9, .str), (22, (.slice 5 (.int .u8)))], spec := [(39, N0 k)], mspec := [], inl := [(93, Tryz.f93)], keep := [(9300001004, [0, 4])], join := [], hold := [(9300001004, [(4, [0], 5, (.int .u8), false, false)])], ptrs := [], maps := [], fuel := k }
noncomputable def Bf3 : VV → Ms → Option (ByteArray × Bool) := G5 [.str, .bool] []
noncomputable def Ap1 (k n : Nat) (a0 : Int) (xs1 : List Int) : Option (ByteArray × Bool) := w7 (Ax7 k) Bf3 n true 9300001004 (cd [1, 1, 1, 0, 0, 0] (bo Tryz.f93)) [.b 0, .s (cd [1, 1, 1, 1] (bo Tryz.f93)), .fn Tryz.f93] ⟨⟨(O0 25 0 [(0, one (.int .i64 a0)), (4, one (.row 9000000 none none))]), [(9000000, .row 5 (.int .u8) xs1 true)]⟩, 9300001000, 1, [(0, (O0 0 0 []))]⟩
theorem Ee4 (k n : Nat) (a0 : Int) (xs1 : List Int) : Ap1 k (n + 1) a0 xs1 = A23 k (Ap1 k n) a0 xs1 := by kernel_rfl
theorem C04 (k : Nat) : ∀ n : Nat, Ap1 k n = n9 k n
 | 0 => (by funext a0 xs1; rfl)
 | n + 1 => by
  obtain h0 := C04 k n
  exact (by funext a0 xs1; rw [Ee4, h0] <;> rfl)
theorem Ew5 (k : Nat) (a0 : Int) : D1 (Ax7 k) Bf3 k 93 [C4 (.int .i64) a0] ms0 = Bb5 k (Ap1 k k) a0 := by kernel_rfl
theorem Ew6 (k : Nat) (a0 : Int) : D1 (Ax7 k) Bf3 k 93 [C4 (.int .i64) a0] ms0 = X9 k a0 := by rw [Ew5, show Ap1 k k = n9 k k from (C04 k k)] <;> rfl
noncomputable def A35 (k : Nat) : Spec := .imm (.int .i64) fun (a0 : Int) => .body (X9 k a0) (D9 [.str, .bool] [])
noncomputable def Ak9 (k : Nat) : Cfg := { eqs := [], tab := [(5, (.int .u8)), (9, .str), (139, (.int .u32))], spec := [], mspec := [], inl := [(133, Tryz.f133)], keep := [(13300001002, [0, 1, 5]), (13300001006, [0, 1, 5, 6])], join := [], hold := [], ptrs := [], maps := [], fuel := k }
noncomputable def Au7 : VV → Ms → Option Int := G5 [(.int .u32)] []
noncomputable def Ap2 (k n : Nat) (a0 : Int) (a1 : ByteArray) (v1 : Int) : Option Int := w7 (Ak9 k) Au7 n true 13300001002 (cd [1, 0, 1, 0, 0] (bo Tryz.f133)) [.b 0, .s (cd [1, 1] (bo Tryz.f133)), .fn Tryz.f133] ⟨⟨(O0 33 0 [(0, one (.int .u32 a0)), (1, one (.str a1)), (5, one (.int .i64 v1))]), []⟩, 13300001000, 1, [(0, (O0 0 0 []))]⟩
noncomputable def A36 (k n : Nat) (v2 : Int) (a1 : ByteArray) (v1 : Int) (v3 : Int) : Option Int := w7 (Ak9 k) Au7 n true 13300001006 (cd [1, 0, 1, 0, 0, 1, 0, 0, 1, 1, 0, 0] (bo Tryz.f133)) [.b 2, .b 1, .s (cd [1, 0, 1, 0, 0, 1, 1] (bo Tryz.f133)), .l 13300001002 (cd [1, 0, 1, 0, 0] (bo Tryz.f133)), .b 0, .s (cd [1, 1] (bo Tryz.f133)), .fn Tryz.f133] ⟨⟨(O0 33 0 [(0, one (.int .u32 v2)), (1, one (.str a1)), (5, one (.int .i64 v1)), (6, one (.int .i64 v3))]), []⟩, 13300001000, 1, [(0, (O0 0 0 []))]⟩
theorem Ee5 (k n : Nat) (a0 : Int) (a1 : ByteArray) (v1 : Int) : Ap2 k (n + 1) a0 a1 v1 = Bn7 k (A36 k n) a0 a1 v1 := by kernel_rfl
theorem Ee6 (k n : Nat) (v2 : Int) (a1 : ByteArray) (v1 : Int) (v3 : Int) : A36 k (n + 1) v2 a1 v1 v3 = Bn8 k (A36 k n) (Ap2 k n) v2 a1 v1 v3 := by kernel_rfl
theorem C05 (k : Nat) : ∀ n : Nat, Ap2 k n = Bn9 k n ∧ A36 k n = D84 k n
 | 0 => ⟨(by funext a0 a1 v1; rfl), (by funext v2 a1 v1 v3; rfl)⟩
 | n + 1 => by
  obtain ⟨h0, h1⟩ := C05 k n
  exact ⟨(by funext a0 a1 v1; rw [Ee5, h1] <;> rfl), (by funext v2 a1 v1 v3; rw [Ee6, h1, h0] <;> rfl)⟩
theorem Ew7 (k : Nat) (a0 : Int) (a1 : ByteArray) : D1 (Ak9 k) Au7 k 133 [C4 (.int .u32) a0, C4 .str a1] ms0 = Cx1 k (Ap2 k k) a0 a1 := by kernel_rfl
theorem Ew8 (k : Nat) (a0 : Int) (a1 : ByteArray) : D1 (Ak9 k) Au7 k 133 [C4 (.int .u32) a0, C4 .str a1] ms0 = B66 k a0 a1 := by rw [Ew7, show Ap2 k k = Bn9 k k from (C05 k k).1] <;> rfl
noncomputable def Cn1 (k : Nat) : Spec := .imm (.int .u32) fun (a0 : Int) => .imm .str fun (a1 : ByteArray) => .body (B66 k a0 a1) (D9 [(.int .u32)] [])
noncomputable def Ct1 (k : Nat) : Cfg := { eqs := [], tab := [], spec := [(133, Cn1 k)], mspec := [], inl := [(94, Tryz.f94)], keep := [], join := [], hold := [], ptrs := [], maps := [], fuel := k }
noncomputable def Ew9 : VV → Ms → Option Int := G5 [(.int .u32)] []
theorem F12 (k : Nat) (a0 : ByteArray) : D1 (Ct1 k) Ew9 k 94 [C4 .str a0] ms0 = Ci5 k a0 := by kernel_rfl
noncomputable def Dk8 (k : Nat) : Spec := .imm .str fun (a0 : ByteArray) => .body (Ci5 k a0) (D9 [(.int .u32)] [])
noncomputable def Ct2 (k : Nat) : Cfg := { eqs := [], tab := [(5, (.int .u8)), (9, .str), (22, (.slice 5 (.int .u8))), (139, (.int .u32))], spec := [(39, N0 k), (93, A35 k), (94, Dk8 k)], mspec := [], inl := [(41, Tryz.f41)], keep := [], join := [], hold := [], ptrs := [], maps := [], fuel := k }
noncomputable def Ex0 : VV → Ms → Option (ByteArray × Bool) := G5 [.str, .bool] []
theorem F13 (k : Nat) (a0 : ByteArray) : D1 (Ct2 k) Ex0 k 41 [C4 .str a0] ms0 = o0 k a0 := by kernel_rfl
noncomputable def A93 (k : Nat) : Spec := .imm .str fun (a0 : ByteArray) => .body (o0 k a0) (D9 [.str, .bool] [])
noncomputable def B33 (k : Nat) : Cfg := { eqs := [], tab := [(3, (.int .i64)), (9, .str), (22, (.slice 5 (.int .u8))), (49, (.slice 3 (.int .i64)))], spec := [(93, A35 k)], mspec := [], inl := [(75, Tryz.f75)], keep := [(7500001003, [4, 9, 10, 11])], join := [], hold := [(7500001003, [(4, [0], 5, (.int .u8), false, false)])], ptrs := [], maps := [], fuel := k }
noncomputable def Cf5 : VV → Ms → Option (ByteArray × Bool) := G5 [.str, .bool] []
noncomputable def Bj5 (k n : Nat) (a0 : List Int) (v1 : Int) (xs2 : List Int) : Option (ByteArray × Bool) := w7 (B33 k) Cf5 n true 7500001003 (cd [1, 1, 0, 1, 0, 0] (bo Tryz.f75)) [.b 0, .s (cd [1, 1, 1] (bo Tryz.f75)), .fn Tryz.f75] ⟨⟨(O0 28 0 [(4, one (.row 9000000 none none)), (9, one (.slc 3 (.int .i64) a0)), (10, one (.int .i64 (a0.length : Int))), (11, one (.int .i64 v1))]), [(9000000, .row 5 (.int .u8) xs2 true)]⟩, 7500001000, 1, [(0, (O0 0 0 []))]⟩
theorem F14 (k n : Nat) (a0 : List Int) (v1 : Int) (xs2 : List Int) : Bj5 k (n + 1) a0 v1 xs2 = B67 k (Bj5 k n) a0 v1 xs2 := by kernel_rfl
theorem Ex1 (k : Nat) : ∀ n : Nat, Bj5 k n = Ar9 k n
 | 0 => (by funext a0 v1 xs2; rfl)
 | n + 1 => by
  obtain h0 := Ex1 k n
  exact (by funext a0 v1 xs2; rw [F14, h0] <;> rfl)
theorem Gb6 (k : Nat) (a0 : List Int) : D1 (B33 k) Cf5 k 75 [C4 (.slice 3 (.int .i64)) a0] ms0 = Df4 k (Bj5 k k) a0 := by kernel_rfl
theorem Gb7 (k : Nat) (a0 : List Int) : D1 (B33 k) Cf5 k 75 [C4 (.slice 3 (.int .i64)) a0] ms0 = Cd4 k a0 := by rw [Gb6, show Bj5 k k = Ar9 k k from (Ex1 k k)] <;> rfl
noncomputable def Ct3 (k : Nat) : Spec := .imm (.slice 3 (.int .i64)) fun (a0 : List Int) => .body (Cd4 k a0) (D9 [.str, .bool] [])
noncomputable def Bf4 (k : Nat) : Cfg := { eqs := [], tab := [(49, (.slice 3 (.int .i64)))], spec := [(41, A93 k), (75, Ct3 k)], mspec := [], inl := [(36, Tryz.f36)], keep := [], join := [], hold := [], ptrs := [], maps := [], fuel := k }
noncomputable def C47 : VV → Ms → Option ByteArray := G5 [.str] []
theorem Dt4 (k : Nat) (a0 : ByteArray) (a1 : Int) (a2 : Int) : D1 (Bf4 k) C47 k 36 [C4 .str a0, C4 (.int .i64) a1, C4 (.int .i64) a2] ms0 = K7 k a0 a1 a2 := by kernel_rfl
noncomputable def A94 (k : Nat) : Spec := .imm .str fun (a0 : ByteArray) => .imm (.int .i64) fun (a1 : Int) => .imm (.int .i64) fun (a2 : Int) => .body (K7 k a0 a1 a2) (D9 [.str] [])
noncomputable def Bf5 (k : Nat) : Cfg := { eqs := [], tab := [(3, (.int .i64)), (5, (.int .u8)), (9, .str), (22, (.slice 5 (.int .u8))), (49, (.slice 3 (.int .i64))), (85, C3)], spec := [(39, N0 k), (75, Ct3 k), (97, A34 k)], mspec := [], inl := [(89, Tryz.f89)], keep := [], join := [], hold := [], ptrs := [], maps := [], fuel := k }
noncomputable def C48 : VV → Ms → Option (ByteArray × Bool) := G5 [.str, .bool] []
theorem Dt5 (k : Nat) (a0 : Int) (a1 : B2) : D1 (Bf5 k) C48 k 89 [C4 (.int .i64) a0, C4 C3 a1] ms0 = Ak2 k a0 a1 := by kernel_rfl
noncomputable def B34 (k : Nat) : Spec := .imm (.int .i64) fun (a0 : Int) => .imm C3 fun (a1 : B2) => .body (Ak2 k a0 a1) (D9 [.str, .bool] [])
noncomputable def s7 (k : Nat) : Cfg := { eqs := [], tab := [(3, (.int .i64)), (9, .str), (22, (.slice 5 (.int .u8))), (27, (.slice 85 C3)), (29, E6), (85, C3)], spec := [(41, A93 k), (89, B34 k)], mspec := [], inl := [(37, Tryz.f37)], keep := [(3700001003, [2, 5, 6])], join := [], hold := [(3700001003, [(5, [0], 5, (.int .u8), false, false)])], ptrs := [], maps := [], fuel := k }
noncomputable def Ap3 : VV → Ms → Option ByteArray := G5 [.str] []
noncomputable def i8 (k n : Nat) (a1 : Int) (a0 : B7) (xs1 : List Int) : Option ByteArray := w7 (s7 k) Ap3 n true 3700001003 (cd [1, 1, 0, 1, 0, 0] (bo Tryz.f37)) [.b 0, .s (cd [1, 1, 1] (bo Tryz.f37)), .fn Tryz.f37] ⟨⟨(O0 43 0 [(2, one (.ptr 9000000 0)), (5, one (.row 9000001 none none)), (6, one (.int .i64 a1))]), [(9000000, .box [.int .i64 a0.1, .int .i64 a0.2.1, .slc 85 C3 a0.2.2.1]), (9000001, .row 5 (.int .u8) xs1 true)]⟩, 3700001000, 1, [(0, (O0 0 0 []))]⟩
theorem Ct4 (k n : Nat) (a1 : Int) (a0 : B7) (xs1 : List Int) : i8 k (n + 1) a1 a0 xs1 = Ad7 k (i8 k n) a1 a0 xs1 := by kernel_rfl
theorem Bt2 (k : Nat) : ∀ n : Nat, i8 k n = Q6 k n
 | 0 => (by funext a1 a0 xs1; rfl)
 | n + 1 => by
  obtain h0 := Bt2 k n
  exact (by funext a1 a0 xs1; rw [Ct4, h0] <;> rfl)
theorem C49 (k : Nat) (a0 : B7) (a1 : Int) : D1 (s7 k) Ap3 k 37 [C4 E6 a0, C4 (.int .i64) a1] ms0 = Bs2 k (i8 k k) a0 a1 := by kernel_rfl
theorem C50 (k : Nat) (a0 : B7) (a1 : Int) : D1 (s7 k) Ap3 k 37 [C4 E6 a0, C4 (.int .i64) a1] ms0 = G3 k a0 a1 := by rw [C49, show i8 k k = Q6 k k from (Bt2 k k)] <;> rfl
noncomputable def At4 (k : Nat) : Spec := .imm E6 fun (a0 : B7) => .imm (.int .i64) fun (a1 : Int) => .body (G3 k a0 a1) (D9 [.str] [])
noncomputable def A03 (k : Nat) : Cfg := { eqs := [], tab := [(3, (.int .i64)), (9, .str), (29, E6), (31, A6)], spec := [(12, Ac4 k), (36, A94 k), (37, At4 k)], mspec := [], inl := [(9, Tryz.f9)], keep := [], join := [], hold := [], ptrs := [], maps := [], fuel := k }
noncomputable def Cn2 : VV → Ms → Option (ByteArray × Bool) := G5 [.str, .bool] []
theorem C51 (k : Nat) (a0 : A0) : D1 (A03 k) Cn2 k 9 [C4 A6 a0] ms0 = Ag1 k a0 := by kernel_rfl
noncomputable def Bj6 (k : Nat) : Spec := .imm A6 fun (a0 : A0) => .body (Ag1 k a0) (D9 [.str, .bool] [])
noncomputable def Ax8 (k : Nat) : Cfg := { eqs := [], tab := [(3, (.int .i64)), (5, (.int .u8)), (9, .str)], spec := [(39, N0 k), (93, A35 k)], mspec := [], inl := [(90, Tryz.f90)], keep := [(9000001005, [0, 1, 7, 8])], join := [], hold := [], ptrs := [], maps := [], fuel := k }
noncomputable def Bf6 : VV → Ms → Option (Int × Int × Bool) := G5 [(.int .i64), (.int .i64), .bool] []
noncomputable def Ap4 (k n : Nat) (a0 : ByteArray) (a1 : Int) (v1 : Int) (v2 : Int) : Option (Int × Int × Bool) := w7 (Ax8 k) Bf6 n true 9000001005 (cd [1, 1, 1, 0, 1, 0, 0] (bo Tryz.f90)) [.b 0, .s (cd [1, 1, 1, 1] (bo Tryz.f90)), .fn Tryz.f90] ⟨⟨(O0 63 0 [(0, one (.str a0)), (1, one (.int .i64 a1)), (7, one (.int .i64 v1)), (8, one (.int .i64 v2))]), []⟩, 9000001000, 1, [(0, (O0 0 0 []))]⟩
theorem Ee7 (k n : Nat) (a0 : ByteArray) (a1 : Int) (v1 : Int) (v2 : Int) : Ap4 k (n + 1) a0 a1 v1 v2 = Am5 k (Ap4 k n) a0 a1 v1 v2 := by kernel_rfl
theorem C06 (k : Nat) : ∀ n : Nat, Ap4 k n = S3 k n
 | 0 => (by funext a0 a1 v1 v2; rfl)
 | n + 1 => by
  obtain h0 := C06 k n
  exact (by funext a0 a1 v1 v2; rw [Ee7, h0] <;> rfl)
theorem Ex2 (k : Nat) (a0 : ByteArray) (a1 : Int) : D1 (Ax8 k) Bf6 k 90 [C4 .str a0, C4 (.int .i64) a1] ms0 = By0 k (Ap4 k k) a0 a1 := by kernel_rfl
theorem Ex3 (k : Nat) (a0 : ByteArray) (a1 : Int) : D1 (Ax8 k) Bf6 k 90 [C4 .str a0, C4 (.int .i64) a1] ms0 = u5 k a0 a1 := by rw [Ex2, show Ap4 k k = S3 k k from (C06 k k)] <;> rfl
noncomputable def Br3 (k : Nat) : Spec := .imm .str fun (a0 : ByteArray) => .imm (.int .i64) fun (a1 : Int) => .body (u5 k a0 a1) (D9 [(.int .i64), (.int .i64), .bool] [])
noncomputable def Ax9 (k : Nat) : Cfg := { eqs := [], tab := [(9, .str), (75, (.slice 9 .str))], spec := [(41, A93 k), (90, Br3 k)], mspec := [], inl := [(38, Tryz.f38)], keep := [(3800001005, [0, 4, 5])], join := [], hold := [(3800001005, [(4, [0], 9, .str, false, false)])], ptrs := [], maps := [], fuel := k }
noncomputable def Bf7 : VV → Ms → Option (List ByteArray × Int) := G5 [(.slice 9 .str), (.int .i64)] [.o]
noncomputable def Ap5 (k n : Nat) (a0 : ByteArray) (v1 : Int) (xs2 : List ByteArray) : Option (List ByteArray × Int) := w7 (Ax9 k) Bf7 n true 3800001005 (cd [1, 1, 1, 1, 0, 0] (bo Tryz.f38)) [.b 0, .fn Tryz.f38] ⟨⟨(O0 71 0 [(0, one (.str a0)), (4, one (.row 9000000 none none)), (5, one (.int .i64 v1))]), [(9000000, .row 9 .str xs2 true)]⟩, 3800001000, 1, [(0, (O0 0 0 []))]⟩
theorem Ee8 (k n : Nat) (a0 : ByteArray) (v1 : Int) (xs2 : List ByteArray) : Ap5 k (n + 1) a0 v1 xs2 = Bo0 k (Ap5 k n) a0 v1 xs2 := by kernel_rfl
theorem C07 (k : Nat) : ∀ n : Nat, Ap5 k n = o5 k n
 | 0 => (by funext a0 v1 xs2; rfl)
 | n + 1 => by
  obtain h0 := C07 k n
  exact (by funext a0 v1 xs2; rw [Ee8, h0] <;> rfl)
theorem Ex4 (k : Nat) (a0 : ByteArray) : D1 (Ax9 k) Bf7 k 38 [C4 .str a0] ms0 = Cx2 k (Ap5 k k) a0 := by kernel_rfl
theorem Ex5 (k : Nat) (a0 : ByteArray) : D1 (Ax9 k) Bf7 k 38 [C4 .str a0] ms0 = Bh7 k a0 := by rw [Ex4, show Ap5 k k = o5 k k from (C07 k k)] <;> rfl
noncomputable def Cn3 (k : Nat) : Spec := .imm .str fun (a0 : ByteArray) => .body (Bh7 k a0) (D9 [(.slice 9 .str), (.int .i64)] [.o])
noncomputable def A95 (k : Nat) : Cfg := { eqs := [], tab := [(3, (.int .i64)), (4, .bool), (9, .str), (122, G9)], spec := [(90, Br3 k)], mspec := [], inl := [(79, Tryz.f79)], keep := [], join := [], hold := [], ptrs := [], maps := [], fuel := k }
noncomputable def Ct5 : VV → Ms → Option (Int × M9 × Unit) := Ba1 [(.int .i64)] [] [.box G9]
theorem Dk9 (k : Nat) (a0 : M9) : D1 (A95 k) Ct5 k 79 (N3 1 [.box G9] (a0, ())) (ms1 [.box G9] (a0, ())) = Y8 k a0 := by kernel_rfl
noncomputable def A04 (k : Nat) : MSpec := .box G9 fun (a0 : M9) => .body (Y8 k a0) (fun r => D9 [(.int .i64)] [] r.1) (fun r => poV [.box G9] r.2)
noncomputable def A05 (k : Nat) : Cfg := { eqs := [], tab := [(3, (.int .i64)), (4, .bool), (5, (.int .u8)), (9, .str), (122, G9)], spec := [], mspec := [], inl := [(91, Tryz.f91)], keep := [], join := [], hold := [], ptrs := [], maps := [], fuel := k }
noncomputable def Cn4 : VV → Ms → Option (Int × M9 × Unit) := Ba1 [(.int .i64)] [] [.box G9]
theorem C52 (k : Nat) (a0 : M9) : D1 (A05 k) Cn4 k 91 (N3 1 [.box G9] (a0, ())) (ms1 [.box G9] (a0, ())) = S4 k a0 := by kernel_rfl
noncomputable def At5 (k : Nat) : MSpec := .box G9 fun (a0 : M9) => .body (S4 k a0) (fun r => D9 [(.int .i64)] [] r.1) (fun r => poV [.box G9] r.2)
noncomputable def A06 (k : Nat) : Cfg := { eqs := [], tab := [(3, (.int .i64)), (4, .bool), (9, .str), (122, G9)], spec := [], mspec := [], inl := [(92, Tryz.f92)], keep := [], join := [], hold := [], ptrs := [], maps := [], fuel := k }
noncomputable def Cn5 : VV → Ms → Option (Bool × M9 × Unit) := Ba1 [.bool] [] [.box G9]
theorem C53 (k : Nat) (a0 : M9) : D1 (A06 k) Cn5 k 92 (N3 1 [.box G9] (a0, ())) (ms1 [.box G9] (a0, ())) = u6 k a0 := by kernel_rfl
noncomputable def Bj7 (k : Nat) : MSpec := .box G9 fun (a0 : M9) => .body (u6 k a0) (fun r => D9 [.bool] [] r.1) (fun r => poV [.box G9] r.2)
noncomputable def Dl0 (k : Nat) : Cfg := { eqs := [], tab := [(3, (.int .i64)), (5, (.int .u8)), (122, G9)], spec := [], mspec := [(79, A04 k), (91, At5 k), (92, Bj7 k)], inl := [(40, Tryz.f40)], keep := [], join := [], hold := [], ptrs := [], maps := [], fuel := k }
noncomputable def Fh0 : VV → Ms → Option (Int × Int × Bool) := G5 [(.int .i64), (.int .i64), .bool] []
theorem Gb8 (k : Nat) (a0 : ByteArray) (a1 : Int) : D1 (Dl0 k) Fh0 k 40 [C4 .str a0, C4 (.int .u8) a1] ms0 = By1 k a0 a1 := by kernel_rfl
noncomputable def Ct6 (k : Nat) : Spec := .imm .str fun (a0 : ByteArray) => .imm (.int .u8) fun (a1 : Int) => .body (By1 k a0 a1) (D9 [(.int .i64), (.int .i64), .bool] [])
noncomputable def Bf8 (k : Nat) : Cfg := { eqs := [], tab := [(3, (.int .i64)), (4, .bool), (9, .str), (85, C3), (122, G9)], spec := [(39, N0 k), (97, A34 k)], mspec := [(79, A04 k), (91, At5 k)], inl := [(95, Tryz.f95)], keep := [], join := [], hold := [], ptrs := [], maps := [], fuel := k }
noncomputable def C54 : VV → Ms → Option (Int × B2 × Bool) := G5 [(.int .i64), C3, .bool] []
theorem Dt6 (k : Nat) (a0 : ByteArray) : D1 (Bf8 k) C54 k 95 [C4 .str a0] ms0 = Aw0 k a0 := by kernel_rfl
noncomputable def B35 (k : Nat) : Spec := .imm .str fun (a0 : ByteArray) => .body (Aw0 k a0) (D9 [(.int .i64), C3, .bool] [])
noncomputable def B36 (k : Nat) : Cfg := { eqs := [], tab := [(27, (.slice 85 C3)), (29, E6)], spec := [], mspec := [], inl := [(49, Tryz.f49)], keep := [], join := [], hold := [], ptrs := [], maps := [], fuel := k }
noncomputable def Dt7 : VV → Ms → Option B7 := G5 [E6] [.o]
theorem Ex6 (k : Nat) (a0 : B7) : D1 (B36 k) Dt7 k 49 [C4 E6 a0] ms0 = I4 k a0 := by kernel_rfl
noncomputable def A37 (k : Nat) : Spec := .imm E6 fun (a0 : B7) => .body (I4 k a0) (D9 [E6] [.o])
noncomputable def Dl1 (k : Nat) : Cfg := { eqs := [], tab := [(3, (.int .i64)), (27, (.slice 85 C3)), (29, E6)], spec := [], mspec := [], inl := [(134, Tryz.f134)], keep := [], join := [], hold := [], ptrs := [], maps := [], fuel := k }
noncomputable def Fh1 : VV → Ms → Option Int := G5 [(.int .i64)] []
theorem Gb9 (k : Nat) (a0 : B7) : D1 (Dl1 k) Fh1 k 134 [C4 E6 a0] ms0 = Df5 k a0 := by kernel_rfl
noncomputable def D45 (k : Nat) : Spec := .imm E6 fun (a0 : B7) => .body (Df5 k a0) (D9 [(.int .i64)] [])
noncomputable def Cf6 (k : Nat) : Cfg := { eqs := [], tab := [(3, (.int .i64)), (27, (.slice 85 C3)), (29, E6), (85, C3)], spec := [(39, N0 k), (43, Cf4 k), (49, A37 k), (134, D45 k)], mspec := [], inl := [(96, Tryz.f96)], keep := [], join := [], hold := [], ptrs := [], maps := [], fuel := k }
noncomputable def Ee9 : VV → Ms → Option (B7 × Bool) := G5 [E6, .bool] [.o]
theorem Fh2 (k : Nat) (a0 : B7) (a1 : Int) (a2 : B2) : D1 (Cf6 k) Ee9 k 96 [C4 E6 a0, C4 (.int .i64) a1, C4 C3 a2] ms0 = By2 k a0 a1 a2 := by kernel_rfl
noncomputable def C08 (k : Nat) : Spec := .imm E6 fun (a0 : B7) => .imm (.int .i64) fun (a1 : Int) => .imm C3 fun (a2 : B2) => .body (By2 k a0 a1 a2) (D9 [E6, .bool] [.o])
noncomputable def Dl2 (k : Nat) : Cfg := { eqs := [], tab := [(3, (.int .i64)), (29, E6), (31, A6), (85, C3)], spec := [(12, Ac4 k), (40, Ct6 k), (95, B35 k), (96, C08 k)], mspec := [], inl := [(42, Tryz.f42)], keep := [], join := [], hold := [], ptrs := [], maps := [], fuel := k }
noncomputable def Fh3 : VV → Ms → Option (A0 × Bool) := G5 [A6, .bool] [.s]
theorem Gc0 (k : Nat) (a0 : A0) (a1 : ByteArray) : D1 (Dl2 k) Fh3 k 42 [C4 A6 a0, C4 .str a1] ms0 = By3 k a0 a1 := by kernel_rfl
noncomputable def D46 (k : Nat) : Spec := .imm A6 fun (a0 : A0) => .imm .str fun (a1 : ByteArray) => .body (By3 k a0 a1) (D9 [A6, .bool] [.s])
noncomputable def Y2 (k : Nat) : Cfg := { eqs := [], tab := [(9, .str), (29, E6), (31, A6), (75, (.slice 9 .str))], spec := [(12, Ac4 k), (38, Cn3 k), (39, N0 k), (40, Ct6 k), (41, A93 k), (42, D46 k)], mspec := [], inl := [(10, Tryz.f10)], keep := [(1000001011, [4, 12, 15, 65, 66, 67])], join := [], hold := [], ptrs := [], maps := [], fuel := k }
noncomputable def y0 : VV → Ms → Option (A0 × Int × Bool) := G5 [A6, (.int .i64), .bool] [.s]
noncomputable def Ae6 (k n : Nat) (v1 : Int) (r1 : List ByteArray × Int) (v2 : Int) (v3 : Int) (v4 : Int) (v5 : Int) (v6 : Int) (v7 : Int) (v8 : List B2) : Option (A0 × Int × Bool) := w7 (Y2 k) y0 n true 1000001011 (cd [1, 1, 1, 1, 1, 1, 1, 1, 0, 1, 0, 0] (bo Tryz.f10)) [.b 0, .s (cd [1, 1, 1, 1, 1, 1, 1, 1, 1] (bo Tryz.f10)), .fn Tryz.f10] ⟨⟨(O0 92 0 [(4, one (.ptr 9000000 0)), (12, one (.ptr 9000001 0)), (15, one (.int .i64 v1)), (65, one (.row 9000002 (some 1) none)), (66, one (.int .i64 (((r1.1.length - 1) : Nat) : Int))), (67, one (.int .i64 v2))]), [(9000000, .box [.int .i64 0, .int .i64 0, .int .i64 0, .int .i64 0, .int .i64 0, .nilS]), (9000001, .box [.int .i64 v3, .int .i64 v4, .int .i64 v5, .int .i64 v6, .int .i64 v7, .slc 85 C3 v8]), (9000002, .row 9 .str r1.1 true)]⟩, 1000001000, 1, [(0, (O0 0 0 []))]⟩
noncomputable def Ae7 (k n : Nat) (r5 : ByteArray × Bool) (r1 : List ByteArray × Int) (a0 : Int) (r3 : Int × Int × Bool) : Option (A0 × Int × Bool) := w7 (Y2 k) y0 n true 1000001011 (cd [1, 1, 1, 1, 1, 1, 1, 1, 0, 1, 0, 0] (bo Tryz.f10)) [.b 0, .s (cd [1, 1, 1, 1, 1, 1, 1, 1, 1] (bo Tryz.f10)), .fn Tryz.f10] ⟨⟨(O0 92 0 [(4, one (.ptr 9000000 0)), (12, one (.ptr 9000001 0)), (15, one (.int .i64 (r5.1.size : Int))), (65, one (.row 9000002 (some 1) none)), (66, one (.int .i64 (((r1.1.length - 1) : Nat) : Int))), (67, one (.int .i64 0))]), [(9000000, .box [.int .i64 0, .int .i64 0, .int .i64 0, .int .i64 0, .int .i64 0, .nilS]), (9000001, .box [.int .i64 a0, .int .i64 0, .int .i64 0, .int .i64 r3.1, .int .i64 r3.2.1, .nilS]), (9000002, .row 9 .str r1.1 true)]⟩, 1000001000, 1, [(0, (O0 0 0 []))]⟩
theorem Ct7 (k n : Nat) (v1 : Int) (r1 : List ByteArray × Int) (v2 : Int) (v3 : Int) (v4 : Int) (v5 : Int) (v6 : Int) (v7 : Int) (v8 : List B2) : Ae6 k (n + 1) v1 r1 v2 v3 v4 v5 v6 v7 v8 = As0 k (Ae6 k n) v1 r1 v2 v3 v4 v5 v6 v7 v8 := by kernel_rfl
theorem Ct8 (k n : Nat) (r5 : ByteArray × Bool) (r1 : List ByteArray × Int) (a0 : Int) (r3 : Int × Int × Bool) : Ae7 k (n + 1) r5 r1 a0 r3 = Ad8 k (Ae6 k n) r5 r1 a0 r3 := by kernel_rfl
theorem Bt3 (k : Nat) : ∀ n : Nat, Ae6 k n = W2 k n ∧ Ae7 k n = M3 k n
 | 0 => ⟨(by funext v1 r1 v2 v3 v4 v5 v6 v7 v8; rfl), (by funext r5 r1 a0 r3; rfl)⟩
 | n + 1 => by
  obtain ⟨h1, h0⟩ := Bt3 k n
  exact ⟨(by funext v1 r1 v2 v3 v4 v5 v6 v7 v8; rw [Ct7, h1] <;> rfl), (by funext r5 r1 a0 r3; rw [Ct8, h1] <;> rfl)⟩
theorem C55 (k : Nat) (a0 : Int) (a1 : ByteArray) : D1 (Y2 k) y0 k 10 [C4 (.int .i64) a0, C4 .str a1] ms0 = Bs3 k (Ae7 k k) a0 a1 := by kernel_rfl
theorem C56 (k : Nat) (a0 : Int) (a1 : ByteArray) : D1 (Y2 k) y0 k 10 [C4 (.int .i64) a0, C4 .str a1] ms0 = S5 k a0 a1 := by rw [C55, show Ae7 k k = M3 k k from (Bt3 k k).2] <;> rfl
noncomputable def At6 (k : Nat) : Spec := .imm (.int .i64) fun (a0 : Int) => .imm .str fun (a1 : ByteArray) => .body (S5 k a0 a1) (D9 [A6, (.int .i64), .bool] [.s])
noncomputable def Ay0 (k : Nat) : Cfg := { eqs := [85], tab := [(3, (.int .i64)), (27, (.slice 85 C3)), (29, E6), (85, C3)], spec := [], mspec := [], inl := [(11, Tryz.f11)], keep := [(1100001004, [2, 3, 5])], join := [], hold := [], ptrs := [], maps := [], fuel := k }
noncomputable def Bf9 : VV → Ms → Option Bool := G5 [.bool] []
noncomputable def Ap6 (k n : Nat) (v1 : Int) (a0 : B7) (a1 : B7) : Option Bool := w7 (Ay0 k) Bf9 n true 1100001004 (cd [1, 1, 0, 1, 0, 0] (bo Tryz.f11)) [.b 0, .s (cd [1, 1, 1] (bo Tryz.f11)), .fn Tryz.f11] ⟨⟨(O0 45 0 [(2, one (.ptr 9000000 0)), (3, one (.ptr 9000001 0)), (5, one (.int .i64 v1))]), [(9000000, .box [.int .i64 a0.1, .int .i64 a0.2.1, .slc 85 C3 a0.2.2.1]), (9000001, .box [.int .i64 a1.1, .int .i64 a1.2.1, .slc 85 C3 a1.2.2.1])]⟩, 1100001000, 1, [(0, (O0 0 0 []))]⟩
theorem Ef0 (k n : Nat) (v1 : Int) (a0 : B7) (a1 : B7) : Ap6 k (n + 1) v1 a0 a1 = A24 k (Ap6 k n) v1 a0 a1 := by kernel_rfl
theorem C09 (k : Nat) : ∀ n : Nat, Ap6 k n = o6 k n
 | 0 => (by funext v1 a0 a1; rfl)
 | n + 1 => by
  obtain h0 := C09 k n
  exact (by funext v1 a0 a1; rw [Ef0, h0] <;> rfl)
theorem Ex7 (k : Nat) (a0 : B7) (a1 : B7) : D1 (Ay0 k) Bf9 k 11 [C4 E6 a0, C4 E6 a1] ms0 = Cx3 k (Ap6 k k) a0 a1 := by kernel_rfl
theorem Ex8 (k : Nat) (a0 : B7) (a1 : B7) : D1 (Ay0 k) Bf9 k 11 [C4 E6 a0, C4 E6 a1] ms0 = Bh8 k a0 a1 := by rw [Ex7, show Ap6 k k = o6 k k from (C09 k k)] <;> rfl
noncomputable def Cn6 (k : Nat) : Spec := .imm E6 fun (a0 : B7) => .imm E6 fun (a1 : B7) => .body (Bh8 k a0 a1) (D9 [.bool] [])
noncomputable def Bt4 (k : Nat) : Spec := A56 (D9 [.str] []) [.int .i64] fun x => Ci6 k x.1
noncomputable def B37 (k : Nat) : Cfg := { eqs := [], tab := [], spec := [(114, Bt4 k)], mspec := [], inl := [(63, Tryz.f63)], keep := [], join := [], hold := [], ptrs := [], maps := [], fuel := k }
noncomputable def Dt8 : VV → Ms → Option ByteArray := G5 [.str] []
theorem Ex9 (k : Nat) (a0 : Int) : D1 (B37 k) Dt8 k 63 [C4 (.int .i64) a0] ms0 = A47 k a0 := by kernel_rfl
noncomputable def Cn7 (k : Nat) : Spec := .imm (.int .i64) fun (a0 : Int) => .body (A47 k a0) (D9 [.str] [])
noncomputable def A07 (k : Nat) : Cfg := { eqs := [], tab := [], spec := [(39, N0 k), (63, Cn7 k)], mspec := [], inl := [(18, Tryz.f18)], keep := [], join := [], hold := [], ptrs := [], maps := [], fuel := k }
noncomputable def Cn8 : VV → Ms → Option ByteArray := G5 [.str] []
theorem C57 (k : Nat) (a0 : Int) : D1 (A07 k) Cn8 k 18 [C4 (.int .i64) a0] ms0 = S6 k a0 := by kernel_rfl
noncomputable def Ae8 (k : Nat) : Spec := .imm (.int .i64) fun (a0 : Int) => .body (S6 k a0) (D9 [.str] [])
noncomputable def A96 (k : Nat) : Cfg := { eqs := [], tab := [(9, .str), (24, (.slice 99 J0)), (26, D8), (99, J0)], spec := [], mspec := [], inl := [(98, Tryz.f98), (135, Tryz.f135), (136, Tryz.f136)], keep := [(13500002002, [0, 1, 7, 8])], join := [], hold := [], ptrs := [], maps := [], fuel := k }
noncomputable def Br4 : VV → Ms → Option Int := G5 [(.int .i64)] []
noncomputable def Ay1 (k n : Nat) (a0 : B4) (v1 : Int) (a1 : ByteArray) : Option Int := w7 (A96 k) Br4 n true 13500002002 (cd [1, 0, 1, 0, 0] (bo Tryz.f135)) [.b 0, .s (cd [1, 1] (bo Tryz.f135)), .fn Tryz.f135, .op (rg (cd [1, 0] (bo Tryz.f98))) ((rg (cd [1, 0] (bo Tryz.f98))).drop 4) 4 (some 8), .s (cd [1, 1] (bo Tryz.f98)), .fn Tryz.f98] ⟨⟨(O0 19 0 [(0, one (.slc 99 J0 a0.1)), (1, one (.fn 136 [9000000])), (7, one (.int .i64 (a0.1.length : Int))), (8, one (.int .i64 v1))]), [(9000000, .box [.str a1]), (9000001, .box [.slc 99 J0 a0.1])]⟩, 13500002000, 2, [(9800001000, (O0 9 0 [(0, .v ⟨true, [.slc 99 J0 a0.1]⟩), (1, one (.str a1)), (2, one (.ptr 9000001 0)), (3, one (.ptr 9000000 0)), (4, one (.int .i64 0)), (5, one (.ptr 9000001 0)), (6, one (.slc 99 J0 a0.1)), (7, one (.fn 136 [9000000]))])), (0, (O0 0 0 []))]⟩
theorem Ey0 (k n : Nat) (a0 : B4) (v1 : Int) (a1 : ByteArray) : Ay1 k (n + 1) a0 v1 a1 = Bb6 k (Ay1 k n) a0 v1 a1 := by kernel_rfl
theorem Dl3 (k : Nat) : ∀ n : Nat, Ay1 k n = Ab2 k n
 | 0 => (by funext a0 v1 a1; rfl)
 | n + 1 => by
  obtain h0 := Dl3 k n
  exact (by funext a0 v1 a1; rw [Ey0, h0] <;> rfl)
theorem Fh4 (k : Nat) (a0 : B4) (a1 : ByteArray) : D1 (A96 k) Br4 k 98 [C4 D8 a0, C4 .str a1] ms0 = Df6 k (Ay1 k k) a0 a1 := by kernel_rfl
theorem Fh5 (k : Nat) (a0 : B4) (a1 : ByteArray) : D1 (A96 k) Br4 k 98 [C4 D8 a0, C4 .str a1] ms0 = Bh9 k a0 a1 := by rw [Fh4, show Ay1 k k = Ab2 k k from (Dl3 k k)] <;> rfl
noncomputable def B38 (k : Nat) : Spec := .imm D8 fun (a0 : B4) => .imm .str fun (a1 : ByteArray) => .body (Bh9 k a0 a1) (D9 [(.int .i64)] [])
noncomputable def Cf7 (k : Nat) : Cfg := { eqs := [], tab := [(9, .str), (24, (.slice 99 J0)), (26, D8), (99, J0)], spec := [(98, B38 k)], mspec := [], inl := [(44, Tryz.f44)], keep := [], join := [], hold := [], ptrs := [], maps := [], fuel := k }
noncomputable def Ef1 : VV → Ms → Option (ByteArray × Bool) := G5 [.str, .bool] []
theorem Fh6 (k : Nat) (a0 : B4) (a1 : ByteArray) : D1 (Cf7 k) Ef1 k 44 [C4 D8 a0, C4 .str a1] ms0 = A65 k a0 a1 := by kernel_rfl
noncomputable def B39 (k : Nat) : Spec := .imm D8 fun (a0 : B4) => .imm .str fun (a1 : ByteArray) => .body (A65 k a0 a1) (D9 [.str, .bool] [])
noncomputable def A97 (k : Nat) : Cfg := { eqs := [], tab := [(3, (.int .i64)), (9, .str), (24, (.slice 99 J0)), (26, D8), (99, J0)], spec := [(39, N0 k)], mspec := [], inl := [(45, Tryz.f45)], keep := [(4500001002, [1, 6, 7, 8])], join := [], hold := [], ptrs := [], maps := [], fuel := k }
noncomputable def Br5 : VV → Ms → Option Bool := G5 [.bool] []
noncomputable def Ay2 (k n : Nat) (a0 : B4) (v1 : Int) : Option Bool := w7 (A97 k) Br5 n true 4500001002 (cd [1, 0, 1, 0, 0] (bo Tryz.f45)) [.b 0, .s (cd [1, 1] (bo Tryz.f45)), .fn Tryz.f45] ⟨⟨(O0 54 0 [(1, one (.ptr 9000000 0)), (6, one (.slc 99 J0 a0.1)), (7, one (.int .i64 (a0.1.length : Int))), (8, one (.int .i64 v1))]), [(9000000, .box [.slc 99 J0 a0.1])]⟩, 4500001000, 1, [(0, (O0 0 0 []))]⟩
theorem Ey1 (k n : Nat) (a0 : B4) (v1 : Int) : Ay2 k (n + 1) a0 v1 = Bb7 k (Ay2 k n) a0 v1 := by kernel_rfl
theorem Dl4 (k : Nat) : ∀ n : Nat, Ay2 k n = Ab3 k n
 | 0 => (by funext a0 v1; rfl)
 | n + 1 => by
  obtain h0 := Dl4 k n
  exact (by funext a0 v1; rw [Ey1, h0] <;> rfl)
theorem Fh7 (k : Nat) (a0 : B4) : D1 (A97 k) Br5 k 45 [C4 D8 a0] ms0 = Df7 k (Ay2 k k) a0 := by kernel_rfl
theorem Fh8 (k : Nat) (a0 : B4) : D1 (A97 k) Br5 k 45 [C4 D8 a0] ms0 = A66 k a0 := by rw [Fh7, show Ay2 k k = Ab3 k k from (Dl4 k k)] <;> rfl
noncomputable def B40 (k : Nat) : Spec := .imm D8 fun (a0 : B4) => .body (A66 k a0) (D9 [.bool] [])
noncomputable def H3 (k : Nat) : Cfg := { eqs := [85], tab := [(27, (.slice 85 C3)), (85, C3)], spec := [], mspec := [], inl := [(137, Tryz.f137)], keep := [(13700001004, [0, 1, 12, 13])], join := [], hold := [], ptrs := [], maps := [], fuel := k }
noncomputable def L9 : VV → Ms → Option Bool := G5 [.bool] []
noncomputable def H0 (k n : Nat) (a0 : List B2) (a1 : List B2) (v1 : Int) : Option Bool := w7 (H3 k) L9 n true 13700001004 (cd [1, 1, 0, 1, 0, 0] (bo Tryz.f137)) [.b 0, .s (cd [1, 1, 1] (bo Tryz.f137)), .fn Tryz.f137] ⟨⟨(O0 26 0 [(0, one (.slc 85 C3 a0)), (1, one (.slc 85 C3 a1)), (12, one (.int .i64 (a0.length : Int))), (13, one (.int .i64 v1))]), []⟩, 13700001000, 1, [(0, (O0 0 0 []))]⟩
theorem Ae9 (k n : Nat) (a0 : List B2) (a1 : List B2) (v1 : Int) : H0 k (n + 1) a0 a1 v1 = I9 k (H0 k n) a0 a1 v1 := by kernel_rfl
theorem U6 (k : Nat) : ∀ n : Nat, H0 k n = E7 k n
 | 0 => (by funext a0 a1 v1; rfl)
 | n + 1 => by
  obtain h0 := U6 k n
  exact (by funext a0 a1 v1; rw [Ae9, h0] <;> rfl)
theorem Af4 (k : Nat) (a0 : List B2) (a1 : List B2) : D1 (H3 k) L9 k 137 [C4 (.slice 85 C3) a0, C4 (.slice 85 C3) a1] ms0 = U5 k (H0 k k) a0 a1 := by kernel_rfl
theorem Af5 (k : Nat) (a0 : List B2) (a1 : List B2) : D1 (H3 k) L9 k 137 [C4 (.slice 85 C3) a0, C4 (.slice 85 C3) a1] ms0 = H8 k a0 a1 := by rw [Af4, show H0 k k = E7 k k from (U6 k k)] <;> rfl
noncomputable def T8 (k : Nat) : Spec := .imm (.slice 85 C3) fun (a0 : List B2) => .imm (.slice 85 C3) fun (a1 : List B2) => .body (H8 k a0 a1) (D9 [.bool] [])
noncomputable def B41 (k : Nat) : Cfg := { eqs := [], tab := [(3, (.int .i64)), (27, (.slice 85 C3)), (29, E6)], spec := [(137, T8 k)], mspec := [], inl := [(99, Tryz.f99)], keep := [], join := [], hold := [], ptrs := [], maps := [], fuel := k }
noncomputable def Dt9 : VV → Ms → Option Bool := G5 [.bool] []
theorem Ey2 (k : Nat) (a0 : B7) (a1 : B7) : D1 (B41 k) Dt9 k 99 [C4 E6 a0, C4 E6 a1] ms0 = Bi0 k a0 a1 := by kernel_rfl
noncomputable def Cn9 (k : Nat) : Spec := .imm E6 fun (a0 : B7) => .imm E6 fun (a1 : B7) => .body (Bi0 k a0 a1) (D9 [.bool] [])
noncomputable def A08 (k : Nat) : Cfg := { eqs := [], tab := [(3, (.int .i64)), (29, E6), (31, A6)], spec := [(99, Cn9 k)], mspec := [], inl := [(46, Tryz.f46)], keep := [], join := [], hold := [], ptrs := [], maps := [], fuel := k }
noncomputable def Co0 : VV → Ms → Option Bool := G5 [.bool] []
theorem C58 (k : Nat) (a0 : A0) (a1 : A0) : D1 (A08 k) Co0 k 46 [C4 A6 a0, C4 A6 a1] ms0 = Ag2 k a0 a1 := by kernel_rfl
noncomputable def Bj8 (k : Nat) : Spec := .imm A6 fun (a0 : A0) => .imm A6 fun (a1 : A0) => .body (Ag2 k a0 a1) (D9 [.bool] [])
noncomputable def B42 (k : Nat) : Cfg := { eqs := [], tab := [(26, D8)], spec := [(98, B38 k)], mspec := [], inl := [(47, Tryz.f47)], keep := [], join := [], hold := [], ptrs := [], maps := [], fuel := k }
noncomputable def Du0 : VV → Ms → Option Bool := G5 [.bool] []
theorem Ey3 (k : Nat) (a0 : B4) (a1 : ByteArray) : D1 (B42 k) Du0 k 47 [C4 D8 a0, C4 .str a1] ms0 = B68 k a0 a1 := by kernel_rfl
noncomputable def Co1 (k : Nat) : Spec := .imm D8 fun (a0 : B4) => .imm .str fun (a1 : ByteArray) => .body (B68 k a0 a1) (D9 [.bool] [])
noncomputable def Dl5 (k : Nat) : Cfg := { eqs := [], tab := [(3, (.int .i64)), (29, E6), (31, A6), (40, (.slice 93 X4)), (93, X4)], spec := [(9, Bj6 k), (18, Ae8 k), (49, A37 k)], mspec := [], inl := [(48, Tryz.f48)], keep := [], join := [], hold := [], ptrs := [], maps := [], fuel := k }
noncomputable def Fh9 : VV → Ms → Option (List F2 × A0 × Bool) := G5 [(.slice 93 X4), A6, .bool] [.o, .o]
theorem Gc1 (k : Nat) (a0 : Int) (a1 : A0) : D1 (Dl5 k) Fh9 k 48 [C4 (.int .i64) a0, C4 A6 a1] ms0 = X3 k a0 a1 := by kernel_rfl
noncomputable def Ct9 (k : Nat) : Spec := .imm (.int .i64) fun (a0 : Int) => .imm A6 fun (a1 : A0) => .body (X3 k a0 a1) (D9 [(.slice 93 X4), A6, .bool] [.o, .o])
noncomputable def s8 (k : Nat) : Cfg := { eqs := [85], tab := [(3, (.int .i64)), (9, .str), (26, D8), (27, (.slice 85 C3)), (29, E6), (31, A6), (40, (.slice 93 X4)), (85, C3), (93, X4)], spec := [(10, At6 k), (12, Ac4 k), (18, Ae8 k), (36, A94 k), (37, At4 k), (44, B39 k), (45, B40 k), (46, Bj8 k), (47, Co1 k), (48, Ct9 k), (49, A37 k)], mspec := [], inl := [(13, Tryz.f13)], keep := [(1300001008, [4, 5, 7, 9, 10, 15, 16, 17])], join := [], hold := [], ptrs := [], maps := [], fuel := k }
noncomputable def Ap7 : VV → Ms → Option (List F2 × A0 × Bool) := G5 [(.slice 93 X4), A6, .bool] [.o, .o]
noncomputable def j0 (k n : Nat) (r1 : ByteArray) (r2 : ByteArray × Bool) (v1 : Int) (a1 : A0) (a2 : A0) : Option (List F2 × A0 × Bool) := w7 (s8 k) Ap7 n true 1300001008 (cd [1, 1, 1, 1, 1, 1, 1, 0, 0, 0] (bo Tryz.f13)) [.b 0, .s (cd [1, 1, 1, 1, 1, 1, 1, 1] (bo Tryz.f13)), .fn Tryz.f13] ⟨⟨(O0 184 0 [(4, one (.ptr 9000000 0)), (5, one (.ptr 9000001 0)), (7, one (.ptr 9000002 0)), (9, one (.str r1)), (10, one (.str r2.1)), (15, one (.ptr 9000003 0)), (16, one (.ptr 9000004 0)), (17, one (.int .i64 v1))]), [(9000000, .box [.int .i64 a1.1, .int .i64 a1.2.1, .int .i64 a1.2.2.1, .int .i64 a1.2.2.2.1.1, .int .i64 a1.2.2.2.1.2.1, .slc 85 C3 a1.2.2.2.1.2.2.1]), (9000001, .box [.int .i64 a2.1, .int .i64 a2.2.1, .int .i64 a2.2.2.1, .int .i64 a2.2.2.2.1.1, .int .i64 a2.2.2.2.1.2.1, .slc 85 C3 a2.2.2.2.1.2.2.1]), (9000002, .box [.int .i64 0, .int .i64 0, .int .i64 0, .int .i64 0, .int .i64 0, .nilS]), (9000003, .box [.int .i64 a1.2.2.2.1.1, .int .i64 a1.2.2.2.1.2.1, .slc 85 C3 a1.2.2.2.1.2.2.1]), (9000004, .box [.int .i64 a2.2.2.2.1.1, .int .i64 a2.2.2.2.1.2.1, .slc 85 C3 a2.2.2.2.1.2.2.1])]⟩, 1300001000, 1, [(0, (O0 0 0 []))]⟩
theorem Cu0 (k n : Nat) (r1 : ByteArray) (r2 : ByteArray × Bool) (v1 : Int) (a1 : A0) (a2 : A0) : j0 k (n + 1) r1 r2 v1 a1 a2 = As1 k (j0 k n) r1 r2 v1 a1 a2 := by kernel_rfl
theorem Bt5 (k : Nat) : ∀ n : Nat, j0 k n = Q7 k n
 | 0 => (by funext r1 r2 v1 a1 a2; rfl)
 | n + 1 => by
  obtain h0 := Bt5 k n
  exact (by funext r1 r2 v1 a1 a2; rw [Cu0, h0] <;> rfl)
theorem C59 (k : Nat) (a0 : B4) (a1 : A0) (a2 : A0) : D1 (s8 k) Ap7 k 13 [C4 D8 a0, C4 A6 a1, C4 A6 a2] ms0 = Az0 k (j0 k k) a0 a1 a2 := by kernel_rfl
theorem C60 (k : Nat) (a0 : B4) (a1 : A0) (a2 : A0) : D1 (s8 k) Ap7 k 13 [C4 D8 a0, C4 A6 a1, C4 A6 a2] ms0 = u7 k a0 a1 a2 := by rw [C59, show j0 k k = Q7 k k from (Bt5 k k)] <;> rfl
noncomputable def Bj9 (k : Nat) : Spec := .imm D8 fun (a0 : B4) => .imm A6 fun (a1 : A0) => .imm A6 fun (a2 : A0) => .body (u7 k a0 a1 a2) (D9 [(.slice 93 X4), A6, .bool] [.o, .o])
noncomputable def P1 (k : Nat) : Cfg := { eqs := [], tab := [(9, .str)], spec := [], mspec := [], inl := [(164, Tryz.f164)], keep := [], join := [], hold := [], ptrs := [], maps := [], fuel := k }
noncomputable def Aj0 : VV → Ms → Option Bool := G5 [.bool] []
theorem Ap8 (k : Nat) (a0 : ByteArray) (a1 : ByteArray) : D1 (P1 k) Aj0 k 164 [C4 .str a0, C4 .str a1] ms0 = M4 k a0 a1 := by kernel_rfl
noncomputable def X1 (k : Nat) : Spec := .imm .str fun (a0 : ByteArray) => .imm .str fun (a1 : ByteArray) => .body (M4 k a0 a1) (D9 [.bool] [])
noncomputable def P2 (k : Nat) : Cfg := { eqs := [], tab := [(9, .str)], spec := [(164, X1 k)], mspec := [], inl := [(146, Tryz.f146)], keep := [], join := [], hold := [], ptrs := [], maps := [], fuel := k }
noncomputable def Aj1 : VV → Ms → Option (ByteArray × Bool) := G5 [.str, .bool] []
theorem Ap9 (k : Nat) (a0 : ByteArray) (a1 : ByteArray) : D1 (P2 k) Aj1 k 146 [C4 .str a0, C4 .str a1] ms0 = M5 k a0 a1 := by kernel_rfl
noncomputable def X2 (k : Nat) : Spec := .imm .str fun (a0 : ByteArray) => .imm .str fun (a1 : ByteArray) => .body (M5 k a0 a1) (D9 [.str, .bool] [])
noncomputable def Af6 (k : Nat) : Cfg := { eqs := [], tab := [], spec := [(146, X2 k)], mspec := [], inl := [(112, Tryz.f112)], keep := [], join := [], hold := [], ptrs := [], maps := [], fuel := k }
noncomputable def Bu9 : VV → Ms → Option (ByteArray × Bool) := G5 [.str, .bool] []
theorem B85 (k : Nat) (a0 : ByteArray) (a1 : ByteArray) : D1 (Af6 k) Bu9 k 112 [C4 .str a0, C4 .str a1] ms0 = w9 k a0 a1 := by kernel_rfl
noncomputable def Ay3 (k : Nat) : Spec := .imm .str fun (a0 : ByteArray) => .imm .str fun (a1 : ByteArray) => .body (w9 k a0 a1) (D9 [.str, .bool] [])
noncomputable def Bk0 (k : Nat) : Spec := A56 (D9 [.int .i64, .bool] []) [.str] fun x => Ca3 k x.1
noncomputable def Br6 (k : Nat) : Cfg := { eqs := [], tab := [], spec := [(112, Ay3 k), (113, Bk0 k)], mspec := [], inl := [(62, Tryz.f62)], keep := [], join := [], hold := [], ptrs := [], maps := [], fuel := k }
noncomputable def Dl6 : VV → Ms → Option Int := G5 [(.int .i64)] []
theorem Ef2 (k : Nat) (a0 : ByteArray) (a1 : ByteArray) (a2 : Int) : D1 (Br6 k) Dl6 k 62 [C4 .str a0, C4 .str a1, C4 (.int .i64) a2] ms0 = o7 k a0 a1 a2 := by kernel_rfl
noncomputable def Cb8 (k : Nat) : Spec := .imm .str fun (a0 : ByteArray) => .imm .str fun (a1 : ByteArray) => .imm (.int .i64) fun (a2 : Int) => .body (o7 k a0 a1 a2) (D9 [(.int .i64)] [])
noncomputable def Y3 (k : Nat) : Cfg := { eqs := [], tab := [(9, .str), (24, (.slice 99 J0)), (26, D8), (31, A6), (40, (.slice 93 X4)), (93, X4), (99, J0)], spec := [(10, At6 k), (18, Ae8 k), (44, B39 k), (45, B40 k), (48, Ct9 k), (62, Cb8 k)], mspec := [], inl := [(16, Tryz.f16)], keep := [(1600001003, [1, 2, 5, 20, 21, 22]), (1600001015, [2, 5, 8, 10, 11, 13, 58, 59, 60])], join := [], hold := [(1600001015, [(13, [0], 93, X4, false, false)])], ptrs := [], maps := [], fuel := k }
noncomputable def z7 : VV → Ms → Option (A0 × List F2 × Bool) := G5 [A6, (.slice 93 X4), .bool] [.s, .o]
noncomputable def Af0 (k n : Nat) (v1 : Int) (r4 : ByteArray × Bool) (r5 : A0 × Int × Bool) (a0 : B4) (v3 : Int) (xs4 : List F2) : Option (A0 × List F2 × Bool) := w7 (Y3 k) z7 n true 1600001015 (cd [1, 1, 1, 1, 1, 1, 1, 1, 0, 1, 0, 0] (bo Tryz.f16)) [.b 2, .s (cd [1, 1, 1, 1, 1, 1, 1, 1, 1] (bo Tryz.f16)), .fn Tryz.f16] ⟨⟨(O0 106 0 [(2, one (.ptr 9000000 0)), (5, one (.int .i64 v1)), (8, one (.str r4.1)), (10, one (.ptr 9000001 0)), (11, one (.int .i64 r5.2.1)), (13, one (.row 9000002 none none)), (58, one (.slc 99 J0 a0.1)), (59, one (.int .i64 (a0.1.length : Int))), (60, one (.int .i64 v3))]), [(9000000, .box [.int .i64 0, .int .i64 0, .int .i64 0, .int .i64 0, .int .i64 0, .nilS]), (9000001, .box [.int .i64 r5.1.1, .int .i64 r5.1.2.1, .int .i64 r5.1.2.2.1, .int .i64 r5.1.2.2.2.1.1, .int .i64 r5.1.2.2.2.1.2.1, .slc 85 C3 r5.1.2.2.2.1.2.2.1]), (9000002, .row 93 X4 xs4 true)]⟩, 1600001000, 1, [(0, (O0 0 0 []))]⟩
noncomputable def j3 (k n : Nat) (v1 : Int) (a0 : B4) (v2 : Int) : Option (A0 × List F2 × Bool) := w7 (Y3 k) z7 n true 1600001003 (cd [1, 1, 0, 1, 0, 0] (bo Tryz.f16)) [.b 0, .s (cd [1, 1, 1] (bo Tryz.f16)), .fn Tryz.f16] ⟨⟨(O0 106 0 [(1, one (.ptr 9000000 0)), (2, one (.ptr 9000001 0)), (5, one (.int .i64 v1)), (20, one (.slc 99 J0 a0.1)), (21, one (.int .i64 (a0.1.length : Int))), (22, one (.int .i64 v2))]), [(9000000, .box [.slc 99 J0 a0.1]), (9000001, .box [.int .i64 0, .int .i64 0, .int .i64 0, .int .i64 0, .int .i64 0, .nilS])]⟩, 1600001000, 1, [(0, (O0 0 0 []))]⟩
theorem Cu1 (k n : Nat) (v1 : Int) (r4 : ByteArray × Bool) (r5 : A0 × Int × Bool) (a0 : B4) (v3 : Int) (xs4 : List F2) : Af0 k (n + 1) v1 r4 r5 a0 v3 xs4 = Ad9 k (Af0 k n) v1 r4 r5 a0 v3 xs4 := by kernel_rfl
theorem Cu2 (k n : Nat) (v1 : Int) (a0 : B4) (v2 : Int) : j3 k (n + 1) v1 a0 v2 = Ae0 k (j3 k n) (Af0 k n) v1 a0 v2 := by kernel_rfl
theorem Bt6 (k : Nat) : ∀ n : Nat, Af0 k n = W3 k n ∧ j3 k n = Q8 k n
 | 0 => ⟨(by funext v1 r4 r5 a0 v3 xs4; rfl), (by funext v1 a0 v2; rfl)⟩
 | n + 1 => by
  obtain ⟨h1, h0⟩ := Bt6 k n
  exact ⟨(by funext v1 r4 r5 a0 v3 xs4; rw [Cu1, h1] <;> rfl), (by funext v1 a0 v2; rw [Cu2, h0, h1] <;> rfl)⟩
theorem C61 (k : Nat) (a0 : B4) : D1 (Y3 k) z7 k 16 [C4 D8 a0] ms0 = Bs4 k (j3 k k) a0 := by kernel_rfl
theorem C62 (k : Nat) (a0 : B4) : D1 (Y3 k) z7 k 16 [C4 D8 a0] ms0 = V5 k a0 := by rw [C61, show j3 k k = Q8 k k from (Bt6 k k).2] <;> rfl
noncomputable def Bk1 (k : Nat) : Spec := .imm D8 fun (a0 : B4) => .body (V5 k a0) (D9 [A6, (.slice 93 X4), .bool] [.s, .o])
noncomputable def j4 (k : Nat) : Cfg := { eqs := [], tab := [(3, (.int .i64)), (5, (.int .u8)), (22, (.slice 5 (.int .u8))), (49, (.slice 3 (.int .i64))), (129, B9)], spec := [], mspec := [(64, Bp9 k), (65, M0 k)], inl := [(19, Tryz.f19), (32, Tryz.f32)], keep := [(1900001005, [3, 4, 5]), (3200002003, [0, 3, 4])], join := [], hold := [], ptrs := [], maps := [], fuel := k }
noncomputable def Af1 : VV → Ms → Option (List Int) := G5 [(.slice 3 (.int .i64))] [.o]
noncomputable def Ah9 (k n : Nat) (v3 : Int) (v4 : List Int) (v5 : Int) (v6 : Int) (xs7 : List Int) : Option (List Int) := w7 (j4 k) Af1 n true 1900001005 (cd [1, 1, 1, 1, 0, 1, 0, 0] (bo Tryz.f19)) [.b 0, .s (cd [1, 1, 1, 1, 1] (bo Tryz.f19)), .fn Tryz.f19] ⟨⟨(O0 21 0 [(3, one (.ptr 9000000 0)), (4, one (.row 9000001 none none)), (5, one (.int .i64 v3))]), [(9000000, .box [.slc 5 (.int .u8) v4, .int .i64 v5, .int .i64 v6]), (9000001, .row 3 (.int .i64) xs7 true)]⟩, 1900001000, 1, [(0, (O0 0 0 []))]⟩
noncomputable def s9 (k n : Nat) (a0 : List Int) (v1 : Int) (v2 : Int) : Option (List Int) := w7 (j4 k) Af1 n true 3200002003 (cd [1, 1, 0, 1, 0, 0] (bo Tryz.f32)) [.b 0, .s (cd [1, 1, 1] (bo Tryz.f32)), .fn Tryz.f32, .op (rg (cd [1, 0] (bo Tryz.f19))) ((rg (cd [1, 0] (bo Tryz.f19))).drop 2) 2 (some 7), .s (cd [1, 1] (bo Tryz.f19)), .fn Tryz.f19] ⟨⟨(O0 32 0 [(0, one (.slc 5 (.int .u8) a0)), (3, one (.int .i64 v1)), (4, one (.int .i64 v2))]), []⟩, 3200002000, 2, [(1900001000, (O0 21 0 [(0, one (.slc 5 (.int .u8) a0)), (2, one (.nilS)), (6, one (.slc 5 (.int .u8) a0))])), (0, (O0 0 0 []))]⟩
theorem C63 (k n : Nat) (v3 : Int) (v4 : List Int) (v5 : Int) (v6 : Int) (xs7 : List Int) : Ah9 k (n + 1) v3 v4 v5 v6 xs7 = Az1 k (Ah9 k n) v3 v4 v5 v6 xs7 := by kernel_rfl
theorem C64 (k n : Nat) (a0 : List Int) (v1 : Int) (v2 : Int) : s9 k (n + 1) a0 v1 v2 = Az2 k (s9 k n) (Ah9 k n) a0 v1 v2 := by kernel_rfl
theorem B43 (k : Nat) : ∀ n : Nat, Ah9 k n = U2 k n ∧ s9 k n = U3 k n
 | 0 => ⟨(by funext v3 v4 v5 v6 xs7; rfl), (by funext a0 v1 v2; rfl)⟩
 | n + 1 => by
  obtain ⟨h1, h0⟩ := B43 k n
  exact ⟨(by funext v3 v4 v5 v6 xs7; rw [C63, h1] <;> rfl), (by funext a0 v1 v2; rw [C64, h0, h1] <;> rfl)⟩
theorem Dl7 (k : Nat) (a0 : List Int) : D1 (j4 k) Af1 k 19 [C4 (.slice 5 (.int .u8)) a0] ms0 = By4 k (s9 k k) a0 := by kernel_rfl
theorem Dl8 (k : Nat) (a0 : List Int) : D1 (j4 k) Af1 k 19 [C4 (.slice 5 (.int .u8)) a0] ms0 = Am6 k a0 := by rw [Dl7, show s9 k k = U3 k k from (B43 k k).2] <;> rfl
noncomputable def Bt7 (k : Nat) : Spec := .imm (.slice 5 (.int .u8)) fun (a0 : List Int) => .body (Am6 k a0) (D9 [(.slice 3 (.int .i64))] [.o])
noncomputable def Aq0 (k : Nat) : Cfg := { eqs := [], tab := [(3, (.int .i64)), (9, .str), (24, (.slice 99 J0)), (26, D8), (49, (.slice 3 (.int .i64))), (99, J0)], spec := [(53, Bc1 k)], mspec := [], inl := [(66, Tryz.f66)], keep := [(6600001005, [1, 2, 4, 6, 7])], join := [], hold := [(6600001005, [(6, [0, 0], 99, J0, false, false)])], ptrs := [], maps := [], fuel := k }
noncomputable def A98 : VV → Ms → Option (B4 × Bool) := G5 [D8, .bool] [.o]
noncomputable def Ah2 (k n : Nat) (a1 : List Int) (v1 : Int) (a0 : B4) (xs2 : List C2) : Option (B4 × Bool) := w7 (Aq0 k) A98 n true 6600001005 (cd [1, 1, 1, 0, 1, 0, 0] (bo Tryz.f66)) [.b 0, .s (cd [1, 1, 1, 1] (bo Tryz.f66)), .fn Tryz.f66] ⟨⟨(O0 63 0 [(1, one (.slc 3 (.int .i64) a1)), (2, one (.ptr 9000000 0)), (4, one (.ptr 9000001 0)), (6, one (.ptr 9000002 0)), (7, one (.int .i64 v1))]), [(9000000, .box [.slc 99 J0 a0.1]), (9000001, .box [.nilS]), (9000002, .box [.row 9000003 none none]), (9000003, .row 99 J0 xs2 true)]⟩, 6600001000, 1, [(0, (O0 0 0 []))]⟩
theorem Du1 (k n : Nat) (a1 : List Int) (v1 : Int) (a0 : B4) (xs2 : List C2) : Ah2 k (n + 1) a1 v1 a0 xs2 = Bd1 k (Ah2 k n) a1 v1 a0 xs2 := by kernel_rfl
theorem Co2 (k : Nat) : ∀ n : Nat, Ah2 k n = V6 k n
 | 0 => (by funext a1 v1 a0 xs2; rfl)
 | n + 1 => by
  obtain h0 := Co2 k n
  exact (by funext a1 v1 a0 xs2; rw [Du1, h0] <;> rfl)
theorem Ef3 (k : Nat) (a0 : B4) (a1 : List Int) : D1 (Aq0 k) A98 k 66 [C4 D8 a0, C4 (.slice 3 (.int .i64)) a1] ms0 = Ci7 k (Ah2 k k) a0 a1 := by kernel_rfl
theorem Ef4 (k : Nat) (a0 : B4) (a1 : List Int) : D1 (Aq0 k) A98 k 66 [C4 D8 a0, C4 (.slice 3 (.int .i64)) a1] ms0 = A67 k a0 a1 := by rw [Ef3, show Ah2 k k = V6 k k from (Co2 k k)] <;> rfl
noncomputable def Cb9 (k : Nat) : Spec := .imm D8 fun (a0 : B4) => .imm (.slice 3 (.int .i64)) fun (a1 : List Int) => .body (A67 k a0 a1) (D9 [D8, .bool] [.o])
noncomputable def B44 (k : Nat) : Cfg := { eqs := [], tab := [(26, D8), (40, (.slice 93 X4))], spec := [(15, Bc3 k), (55, I3 k), (66, Cb9 k)], mspec := [], inl := [(20, Tryz.f20)], keep := [], join := [], hold := [], ptrs := [], maps := [], fuel := k }
noncomputable def Du2 : VV → Ms → Option (B4 × Bool) := G5 [D8, .bool] [.o]
theorem Ey4 (k : Nat) (a0 : B4) (a1 : List F2) (a2 : Int) (a3 : List Int) : D1 (B44 k) Du2 k 20 [C4 D8 a0, C4 (.slice 93 X4) a1, C4 (.int .i64) a2, C4 (.slice 3 (.int .i64)) a3] ms0 = Bi1 k a0 a1 a2 a3 := by kernel_rfl
noncomputable def Co3 (k : Nat) : Spec := .imm D8 fun (a0 : B4) => .imm (.slice 93 X4) fun (a1 : List F2) => .imm (.int .i64) fun (a2 : Int) => .imm (.slice 3 (.int .i64)) fun (a3 : List Int) => .body (Bi1 k a0 a1 a2 a3) (D9 [D8, .bool] [.o])
noncomputable def Bk2 (k : Nat) : Cfg := { eqs := [], tab := [(3, (.int .i64)), (49, (.slice 3 (.int .i64)))], spec := [], mspec := [], inl := [(21, Tryz.f21)], keep := [(2100001003, [0, 3, 4])], join := [], hold := [], ptrs := [], maps := [], fuel := k }
noncomputable def B45 : VV → Ms → Option (List Int) := G5 [(.slice 3 (.int .i64))] [.o]
noncomputable def A99 (k n : Nat) (a0 : List Int) (v1 : Int) (xs2 : List Int) : Option (List Int) := w7 (Bk2 k) B45 n true 2100001003 (cd [1, 1, 0, 1, 0, 0] (bo Tryz.f21)) [.b 0, .s (cd [1, 1, 1] (bo Tryz.f21)), .fn Tryz.f21] ⟨⟨(O0 19 0 [(0, one (.slc 3 (.int .i64) a0)), (3, one (.row 9000000 none none)), (4, one (.int .i64 v1))]), [(9000000, .row 3 (.int .i64) xs2 true)]⟩, 2100001000, 1, [(0, (O0 0 0 []))]⟩
theorem Fi0 (k n : Nat) (a0 : List Int) (v1 : Int) (xs2 : List Int) : A99 k (n + 1) a0 v1 xs2 = Cd5 k (A99 k n) a0 v1 xs2 := by kernel_rfl
theorem D47 (k : Nat) : ∀ n : Nat, A99 k n = Ai4 k n
 | 0 => (by funext a0 v1 xs2; rfl)
 | n + 1 => by
  obtain h0 := D47 k n
  exact (by funext a0 v1 xs2; rw [Fi0, h0] <;> rfl)
theorem F15 (k : Nat) (a0 : List Int) : D1 (Bk2 k) B45 k 21 [C4 (.slice 3 (.int .i64)) a0] ms0 = D16 k (A99 k k) a0 := by kernel_rfl
theorem F16 (k : Nat) (a0 : List Int) : D1 (Bk2 k) B45 k 21 [C4 (.slice 3 (.int .i64)) a0] ms0 = Ci8 k a0 := by rw [F15, show A99 k k = Ai4 k k from (D47 k k)] <;> rfl
noncomputable def Dl9 (k : Nat) : Spec := .imm (.slice 3 (.int .i64)) fun (a0 : List Int) => .body (Ci8 k a0) (D9 [(.slice 3 (.int .i64))] [.o])
noncomputable def Dm0 (k : Nat) : Cfg := { eqs := [], tab := [(3, (.int .i64)), (27, (.slice 85 C3)), (29, E6)], spec := [], mspec := [], inl := [(67, Tryz.f67)], keep := [], join := [], hold := [], ptrs := [], maps := [], fuel := k }
noncomputable def Fi1 : VV → Ms → Option Int := G5 [(.int .i64)] []
theorem Gc2 (k : Nat) (a0 : B7) : D1 (Dm0 k) Fi1 k 67 [C4 E6 a0] ms0 = Bd2 k a0 := by kernel_rfl
noncomputable def D48 (k : Nat) : Spec := .imm E6 fun (a0 : B7) => .body (Bd2 k a0) (D9 [(.int .i64)] [])
noncomputable def Ba0 (k : Nat) : Cfg := { eqs := [85], tab := [(3, (.int .i64)), (27, (.slice 85 C3)), (29, E6), (85, C3)], spec := [(67, D48 k)], mspec := [], inl := [(22, Tryz.f22)], keep := [(2200001002, [3, 4, 5, 7])], join := [], hold := [], ptrs := [], maps := [], fuel := k }
noncomputable def Br7 : VV → Ms → Option Bool := G5 [.bool] []
noncomputable def Ay4 (k n : Nat) (v1 : Int) (a0 : B7) (a1 : B7) (a2 : B7) : Option Bool := w7 (Ba0 k) Br7 n true 2200001002 (cd [1, 0, 1, 0, 0] (bo Tryz.f22)) [.b 0, .s (cd [1, 1] (bo Tryz.f22)), .fn Tryz.f22] ⟨⟨(O0 80 0 [(3, one (.ptr 9000000 0)), (4, one (.ptr 9000001 0)), (5, one (.ptr 9000002 0)), (7, one (.int .i64 v1))]), [(9000000, .box [.int .i64 a0.1, .int .i64 a0.2.1, .slc 85 C3 a0.2.2.1]), (9000001, .box [.int .i64 a1.1, .int .i64 a1.2.1, .slc 85 C3 a1.2.2.1]), (9000002, .box [.int .i64 a2.1, .int .i64 a2.2.1, .slc 85 C3 a2.2.2.1])]⟩, 2200001000, 1, [(0, (O0 0 0 []))]⟩
theorem Ey5 (k n : Nat) (v1 : Int) (a0 : B7) (a1 : B7) (a2 : B7) : Ay4 k (n + 1) v1 a0 a1 a2 = By5 k (Ay4 k n) v1 a0 a1 a2 := by kernel_rfl
theorem Dm1 (k : Nat) : ∀ n : Nat, Ay4 k n = V7 k n
 | 0 => (by funext v1 a0 a1 a2; rfl)
 | n + 1 => by
  obtain h0 := Dm1 k n
  exact (by funext v1 a0 a1 a2; rw [Ey5, h0] <;> rfl)
theorem Fi2 (k : Nat) (a0 : B7) (a1 : B7) (a2 : B7) : D1 (Ba0 k) Br7 k 22 [C4 E6 a0, C4 E6 a1, C4 E6 a2] ms0 = Df8 k (Ay4 k k) a0 a1 a2 := by kernel_rfl
theorem Fi3 (k : Nat) (a0 : B7) (a1 : B7) (a2 : B7) : D1 (Ba0 k) Br7 k 22 [C4 E6 a0, C4 E6 a1, C4 E6 a2] ms0 = A68 k a0 a1 a2 := by rw [Fi2, show Ay4 k k = V7 k k from (Dm1 k k)] <;> rfl
noncomputable def C10 (k : Nat) : Spec := .imm E6 fun (a0 : B7) => .imm E6 fun (a1 : B7) => .imm E6 fun (a2 : B7) => .body (A68 k a0 a1 a2) (D9 [.bool] [])
noncomputable def Aq1 (k : Nat) : Cfg := { eqs := [], tab := [(3, (.int .i64)), (4, .bool), (26, D8), (29, E6), (31, A6), (40, (.slice 93 X4)), (49, (.slice 3 (.int .i64)))], spec := [(7, Er1 k), (8, Ao9 k), (11, Cn6 k), (13, Bj9 k), (14, As9 k), (15, Bc3 k), (16, Bk1 k), (19, Bt7 k), (20, Co3 k), (21, Dl9 k), (22, C10 k)], mspec := [], inl := [(4, Tryz.f4)], keep := [], join := [], hold := [], ptrs := [], maps := [], fuel := k }
noncomputable def B86 : VV → Ms → Option Bool := G5 [.bool] []
theorem Co4 (k : Nat) (a0 : List Int) : D1 (Aq1 k) B86 k 4 [C4 (.slice 5 (.int .u8)) a0] ms0 = Y0 k a0 := by kernel_rfl
noncomputable def Cf8 (k : Nat) : Spec := .imm (.slice 5 (.int .u8)) fun (a0 : List Int) => .body (Y0 k a0) (D9 [.bool] [])
end Go.Vm
end
