/- The machine computes them. -/
import Derived.Test.YtcbpoomhabigeaaGreatDoorZs4
import Derived.Test.YtcbpoomhabigeaaGreatDoorProg
import Derived.KernelRfl
set_option linter.all false
section
namespace Go.Vm
open Go Go.Proofs
abbrev I2 : Ty := (.fld .str (.fld .str (.fld (.int .i64) .nil)))
abbrev F4 : Ty := (.fld (.slice 99 I2) .nil)
abbrev Y4 : Ty := (.fld .str (.fld (.int .i64) (.fld .bool .nil)))
abbrev O4 : Ty := (.fld (.int .i64) (.fld (.int .i64) (.fld .str .nil)))
abbrev An1 : Ty := (.fld (.int .i64) (.fld .str (.fld .str (.fld .str .nil))))
abbrev C8 : Ty := (.fld (.slice 5 (.int .u8)) (.fld (.int .i64) (.fld (.int .i64) .nil)))
abbrev A4 : Ty := (.fld (.int .i64) (.fld (.int .i64) (.fld (.int .i64) (.fld (.int .i64) (.fld (.int .i64) (.fld (.slice 3 (.int .i64)) (.fld .str (.fld (.slice 3 (.int .i64)) (.fld (.int .i64) .nil)))))))))
abbrev V6 : Ty := (.fld (.int .i64) (.fld (.int .i64) (.fld (.int .i64) (.fld A4 (.fld (.int .i64) (.fld (.int .i64) .nil))))))
abbrev Ak2 : Ty := (.fld (.int .i64) (.fld (.int .i64) (.fld (.slice 3 (.int .i64)) .nil)))
abbrev B2 : Ty := (.fld (.int .i64) (.fld (.int .i64) .nil))
abbrev D6 : Ty := (.fld (.slice 162 A4) (.fld (.slice 215 (.slice 260 B2)) (.fld (.slice 4 .bool) .nil)))
abbrev L6 : Ty := (.fld (.slice 158 O4) (.fld D6 (.fld (.slice 164 Ak2) .nil)))
abbrev X9 : Ty := (.fld (.int .i64) (.fld (.int .i64) (.fld (.slice 3 (.int .i64)) (.fld .str .nil))))
noncomputable def Ei6 (k : Nat) : Cfg := { eqs := [], tab := [(22, (.slice 5 (.int .u8)))], spec := [], mspec := [], inl := [(7, Tryz.f7)], keep := [], join := [], hold := [], ptrs := [], maps := [], fuel := k }
noncomputable def Gk9 : VV → Ms → Option Bool := F7 [.bool] []
theorem G81 (k : Nat) (a0 : List Int) : C4 (Ei6 k) Gk9 k 7 [B3 (.slice 5 (.int .u8)) a0] ms0 = E14 k a0 := by kernel_rfl
noncomputable def E56 (k : Nat) : Spec := .imm (.slice 5 (.int .u8)) fun (a0 : List Int) => .body (E14 k a0) (D7 [.bool] [])
noncomputable def C14 (k : Nat) : Cfg := { eqs := [], tab := [], spec := [], mspec := [], inl := [(55, Tryz.f55)], keep := [], join := [], hold := [], ptrs := [], maps := [], fuel := k }
noncomputable def E57 : VV → Ms → Option Bool := F7 [.bool] []
theorem Gl0 (k : Nat) (a0 : Int) (a1 : Int) (a2 : Int) : C4 (C14 k) E57 k 55 [B3 (.int .i64) a0, B3 (.int .i64) a1, B3 (.int .i64) a2] ms0 = D9 k a0 a1 a2 := by kernel_rfl
noncomputable def I1 (k : Nat) : Spec := .imm (.int .i64) fun (a0 : Int) => .imm (.int .i64) fun (a1 : Int) => .imm (.int .i64) fun (a2 : Int) => .body (D9 k a0 a1 a2) (D7 [.bool] [])
noncomputable def B73 (k : Nat) : Cfg := { eqs := [], tab := [(9, .str)], spec := [(55, I1 k)], mspec := [], inl := [(107, Tryz.f107)], keep := [], join := [], hold := [], ptrs := [], maps := [], fuel := k }
noncomputable def Dy1 : VV → Ms → Option Bool := F7 [.bool] []
theorem E58 (k : Nat) (a0 : ByteArray) : C4 (B73 k) Dy1 k 107 [B3 .str a0] ms0 = Q1 k a0 := by kernel_rfl
noncomputable def Bw7 (k : Nat) : Spec := .imm .str fun (a0 : ByteArray) => .body (Q1 k a0) (D7 [.bool] [])
noncomputable def Bb7 (k : Nat) : Cfg := { eqs := [], tab := [(3, (.int .i64)), (9, .str), (24, (.slice 99 I2)), (26, F4), (99, I2)], spec := [(55, I1 k), (107, Bw7 k)], mspec := [], inl := [(53, Tryz.f53)], keep := [(5300001004, [1, 3])], join := [], hold := [], ptrs := [], maps := [], fuel := k }
noncomputable def Bw8 : VV → Ms → Option Bool := F7 [.bool] []
noncomputable def Ay0 (k n : Nat) (v1 : Int) (a0 : B9) : Option Bool := Q0 (Bb7 k) Bw8 n true 5300001004 (cd [1, 1, 0, 1, 0, 0] (bo Tryz.f53)) [.b 0, .s (cd [1, 1, 1] (bo Tryz.f53)), .fn Tryz.f53] ⟨⟨(G4 56 0 [(1, one (.ptr 9000000 0)), (3, one (.int .i64 v1))]), [(9000000, .box [.slc 99 I2 a0.1])]⟩, 5300001000, 1, [(0, (G4 0 0 []))]⟩
theorem E59 (k n : Nat) (v1 : Int) (a0 : B9) : Ay0 k (n + 1) v1 a0 = Bf3 k (Ay0 k n) v1 a0 := by kernel_rfl
theorem Do4 (k : Nat) : ∀ n : Nat, Ay0 k n = c7 k n
 | 0 => (by funext v1 a0; rfl)
 | n + 1 => by
  obtain h0 := Do4 k n
  exact (by funext v1 a0; rw [E59, h0] <;> rfl)
theorem Fu2 (k : Nat) (a0 : B9) : C4 (Bb7 k) Bw8 k 53 [B3 F4 a0] ms0 = Dj5 k (Ay0 k k) a0 := by kernel_rfl
theorem Fu3 (k : Nat) (a0 : B9) : C4 (Bb7 k) Bw8 k 53 [B3 F4 a0] ms0 = F5 k a0 := by rw [Fu2, show Ay0 k k = c7 k k from (Do4 k k)] <;> rfl
noncomputable def C85 (k : Nat) : Spec := .imm F4 fun (a0 : B9) => .body (F5 k a0) (D7 [.bool] [])
noncomputable def Au2 (k : Nat) : Cfg := { eqs := [], tab := [(9, .str), (24, (.slice 99 I2)), (26, F4), (99, I2)], spec := [], mspec := [], inl := [(72, Tryz.f72)], keep := [(7200001003, [2, 3, 4, 5, 6]), (7200001009, [2, 3, 4, 5, 7])], join := [], hold := [(7200001003, [(5, [0, 0], 99, I2, false, false)])], ptrs := [], maps := [], fuel := k }
noncomputable def A51 : VV → Ms → Option B9 := F7 [F4] [.o]
noncomputable def Bh2 (k n : Nat) (v3 : Int) (a0 : B9) (a1 : B4) (xs4 : List B4) : Option B9 := Q0 (Au2 k) A51 n true 7200001009 (cd [1, 1, 1, 1, 0, 1, 0, 0] (bo Tryz.f72)) [.b 2, .s (cd [1, 1, 1, 1, 1] (bo Tryz.f72)), .fn Tryz.f72] ⟨⟨(G4 68 0 [(2, one (.ptr 9000000 0)), (3, one (.ptr 9000001 0)), (4, one (.ptr 9000002 0)), (5, one (.ptr 9000003 0)), (7, one (.int .i64 v3))]), [(9000000, .box [.slc 99 I2 a0.1]), (9000001, .box [.str a1.1, .str a1.2.1, .int .i64 a1.2.2.1]), (9000002, .box [.nilS]), (9000003, .box [.row 9000004 none none]), (9000004, .row 99 I2 xs4 true)]⟩, 7200001000, 1, [(0, (G4 0 0 []))]⟩
noncomputable def Ay1 (k n : Nat) (v1 : Int) (a0 : B9) (a1 : B4) (xs2 : List B4) : Option B9 := Q0 (Au2 k) A51 n true 7200001003 (cd [1, 1, 0, 1, 0, 0] (bo Tryz.f72)) [.b 0, .s (cd [1, 1, 1] (bo Tryz.f72)), .fn Tryz.f72] ⟨⟨(G4 68 0 [(2, one (.ptr 9000000 0)), (3, one (.ptr 9000001 0)), (4, one (.ptr 9000002 0)), (5, one (.ptr 9000003 0)), (6, one (.int .i64 v1))]), [(9000000, .box [.slc 99 I2 a0.1]), (9000001, .box [.str a1.1, .str a1.2.1, .int .i64 a1.2.2.1]), (9000002, .box [.nilS]), (9000003, .box [.row 9000004 none none]), (9000004, .row 99 I2 xs2 true)]⟩, 7200001000, 1, [(0, (G4 0 0 []))]⟩
theorem E60 (k n : Nat) (v3 : Int) (a0 : B9) (a1 : B4) (xs4 : List B4) : Bh2 k (n + 1) v3 a0 a1 xs4 = Bf4 k (Bh2 k n) v3 a0 a1 xs4 := by kernel_rfl
theorem E61 (k n : Nat) (v1 : Int) (a0 : B9) (a1 : B4) (xs2 : List B4) : Ay1 k (n + 1) v1 a0 a1 xs2 = Bf5 k (Ay1 k n) (Bh2 k n) v1 a0 a1 xs2 := by kernel_rfl
theorem Do5 (k : Nat) : ∀ n : Nat, Bh2 k n = Ai7 k n ∧ Ay1 k n = s8 k n
 | 0 => ⟨(by funext v3 a0 a1 xs4; rfl), (by funext v1 a0 a1 xs2; rfl)⟩
 | n + 1 => by
  obtain ⟨h1, h0⟩ := Do5 k n
  exact ⟨(by funext v3 a0 a1 xs4; rw [E60, h1] <;> rfl), (by funext v1 a0 a1 xs2; rw [E61, h0, h1] <;> rfl)⟩
theorem Fu4 (k : Nat) (a0 : B9) (a1 : B4) : C4 (Au2 k) A51 k 72 [B3 F4 a0, B3 I2 a1] ms0 = Dj6 k (Ay1 k k) a0 a1 := by kernel_rfl
theorem Fu5 (k : Nat) (a0 : B9) (a1 : B4) : C4 (Au2 k) A51 k 72 [B3 F4 a0, B3 I2 a1] ms0 = G6 k a0 a1 := by rw [Fu4, show Ay1 k k = s8 k k from (Do5 k k).2] <;> rfl
noncomputable def B74 (k : Nat) : Spec := .imm F4 fun (a0 : B9) => .imm I2 fun (a1 : B4) => .body (G6 k a0 a1) (D7 [F4] [.o])
noncomputable def Bq1 (k : Nat) : Cfg := { eqs := [], tab := [(9, .str), (24, (.slice 99 I2)), (26, F4), (99, I2)], spec := [], mspec := [], inl := [(101, Tryz.f101)], keep := [(10100001002, [1, 2, 5])], join := [], hold := [], ptrs := [], maps := [], fuel := k }
noncomputable def B75 : VV → Ms → Option Int := F7 [(.int .i64)] []
noncomputable def Bb8 (k n : Nat) (a1 : ByteArray) (v1 : Int) (a0 : B9) : Option Int := Q0 (Bq1 k) B75 n true 10100001002 (cd [1, 0, 1, 0, 0] (bo Tryz.f101)) [.b 0, .s (cd [1, 1] (bo Tryz.f101)), .fn Tryz.f101] ⟨⟨(G4 22 0 [(1, one (.str a1)), (2, one (.ptr 9000000 0)), (5, one (.int .i64 v1))]), [(9000000, .box [.slc 99 I2 a0.1])]⟩, 10100001000, 1, [(0, (G4 0 0 []))]⟩
theorem Fu6 (k n : Nat) (a1 : ByteArray) (v1 : Int) (a0 : B9) : Bb8 k (n + 1) a1 v1 a0 = Bs9 k (Bb8 k n) a1 v1 a0 := by kernel_rfl
theorem Eb6 (k : Nat) : ∀ n : Nat, Bb8 k n = Ah4 k n
 | 0 => (by funext a1 v1 a0; rfl)
 | n + 1 => by
  obtain h0 := Eb6 k n
  exact (by funext a1 v1 a0; rw [Fu6, h0] <;> rfl)
theorem Gl1 (k : Nat) (a0 : B9) (a1 : ByteArray) : C4 (Bq1 k) B75 k 101 [B3 F4 a0, B3 .str a1] ms0 = D89 k (Bb8 k k) a0 a1 := by kernel_rfl
theorem Gl2 (k : Nat) (a0 : B9) (a1 : ByteArray) : C4 (Bq1 k) B75 k 101 [B3 F4 a0, B3 .str a1] ms0 = Bf6 k a0 a1 := by rw [Gl1, show Bb8 k k = Ah4 k k from (Eb6 k k)] <;> rfl
noncomputable def Do6 (k : Nat) : Spec := .imm F4 fun (a0 : B9) => .imm .str fun (a1 : ByteArray) => .body (Bf6 k a0 a1) (D7 [(.int .i64)] [])
noncomputable def Aa0 (k : Nat) : Cfg := { eqs := [], tab := [(9, .str), (24, (.slice 99 I2)), (26, F4), (99, I2)], spec := [], mspec := [], inl := [(111, Tryz.f111)], keep := [(11100001003, [1, 2, 4, 5, 6])], join := [], hold := [(11100001003, [(5, [0, 0], 99, I2, false, false)])], ptrs := [], maps := [], fuel := k }
noncomputable def Au3 : VV → Ms → Option B9 := F7 [F4] [.o]
noncomputable def l8 (k n : Nat) (a1 : ByteArray) (v1 : Int) (a0 : B9) (xs2 : List B4) : Option B9 := Q0 (Aa0 k) Au3 n true 11100001003 (cd [1, 1, 0, 1, 0, 0] (bo Tryz.f111)) [.b 0, .s (cd [1, 1, 1] (bo Tryz.f111)), .fn Tryz.f111] ⟨⟨(G4 34 0 [(1, one (.str a1)), (2, one (.ptr 9000000 0)), (4, one (.ptr 9000001 0)), (5, one (.ptr 9000002 0)), (6, one (.int .i64 v1))]), [(9000000, .box [.slc 99 I2 a0.1]), (9000001, .box [.nilS]), (9000002, .box [.row 9000003 none none]), (9000003, .row 99 I2 xs2 true)]⟩, 11100001000, 1, [(0, (G4 0 0 []))]⟩
theorem Dc5 (k n : Nat) (a1 : ByteArray) (v1 : Int) (a0 : B9) (xs2 : List B4) : l8 k (n + 1) a1 v1 a0 xs2 = Ag7 k (l8 k n) a1 v1 a0 xs2 := by kernel_rfl
theorem B76 (k : Nat) : ∀ n : Nat, l8 k n = Q4 k n
 | 0 => (by funext a1 v1 a0 xs2; rfl)
 | n + 1 => by
  obtain h0 := B76 k n
  exact (by funext a1 v1 a0 xs2; rw [Dc5, h0] <;> rfl)
theorem Do7 (k : Nat) (a0 : B9) (a1 : ByteArray) : C4 (Aa0 k) Au3 k 111 [B3 F4 a0, B3 .str a1] ms0 = B39 k (l8 k k) a0 a1 := by kernel_rfl
theorem Do8 (k : Nat) (a0 : B9) (a1 : ByteArray) : C4 (Aa0 k) Au3 k 111 [B3 F4 a0, B3 .str a1] ms0 = F9 k a0 a1 := by rw [Do7, show l8 k k = Q4 k k from (B76 k k)] <;> rfl
noncomputable def B14 (k : Nat) : Spec := .imm F4 fun (a0 : B9) => .imm .str fun (a1 : ByteArray) => .body (F9 k a0 a1) (D7 [F4] [.o])
noncomputable def C15 (k : Nat) : Cfg := { eqs := [], tab := [(3, (.int .i64)), (9, .str), (24, (.slice 99 I2)), (26, F4), (93, An1), (99, I2)], spec := [(53, C85 k), (72, B74 k), (101, Do6 k), (107, Bw7 k), (111, B14 k)], mspec := [], inl := [(61, Tryz.f61)], keep := [], join := [], hold := [], ptrs := [], maps := [], fuel := k }
noncomputable def E62 : VV → Ms → Option (B9 × Bool) := F7 [F4, .bool] [.o]
theorem Gl3 (k : Nat) (a0 : B9) (a1 : I3) : C4 (C15 k) E62 k 61 [B3 F4 a0, B3 An1 a1] ms0 = Y2 k a0 a1 := by kernel_rfl
noncomputable def Do9 (k : Nat) : Spec := .imm F4 fun (a0 : B9) => .imm An1 fun (a1 : I3) => .body (Y2 k a0 a1) (D7 [F4, .bool] [.o])
noncomputable def Bb9 (k : Nat) : Cfg := { eqs := [], tab := [(24, (.slice 99 I2)), (26, F4), (40, (.slice 93 An1)), (93, An1)], spec := [(61, Do9 k)], mspec := [], inl := [(15, Tryz.f15)], keep := [(1500001003, [1, 4, 6, 7])], join := [], hold := [], ptrs := [], maps := [], fuel := k }
noncomputable def Bw9 : VV → Ms → Option (B9 × Int) := F7 [F4, (.int .i64)] [.o]
noncomputable def Ay2 (k n : Nat) (a1 : List I3) (v1 : Int) (xs2 : List B4) : Option (B9 × Int) := Q0 (Bb9 k) Bw9 n true 1500001003 (cd [1, 1, 0, 1, 0, 0] (bo Tryz.f15)) [.b 0, .s (cd [1, 1, 1] (bo Tryz.f15)), .fn Tryz.f15] ⟨⟨(G4 38 0 [(1, one (.slc 93 An1 a1)), (4, one (.ptr 9000000 0)), (6, one (.ptr 9000001 0)), (7, one (.int .i64 v1))]), [(9000000, .box [.nilS]), (9000001, .box [.row 9000002 none none]), (9000002, .row 99 I2 xs2 true)]⟩, 1500001000, 1, [(0, (G4 0 0 []))]⟩
theorem E63 (k n : Nat) (a1 : List I3) (v1 : Int) (xs2 : List B4) : Ay2 k (n + 1) a1 v1 xs2 = Bf7 k (Ay2 k n) a1 v1 xs2 := by kernel_rfl
theorem Dp0 (k : Nat) : ∀ n : Nat, Ay2 k n = c8 k n
 | 0 => (by funext a1 v1 xs2; rfl)
 | n + 1 => by
  obtain h0 := Dp0 k n
  exact (by funext a1 v1 xs2; rw [E63, h0] <;> rfl)
theorem Fu7 (k : Nat) (a0 : B9) (a1 : List I3) : C4 (Bb9 k) Bw9 k 15 [B3 F4 a0, B3 (.slice 93 An1) a1] ms0 = Dj7 k (Ay2 k k) a0 a1 := by kernel_rfl
theorem Fu8 (k : Nat) (a0 : B9) (a1 : List I3) : C4 (Bb9 k) Bw9 k 15 [B3 F4 a0, B3 (.slice 93 An1) a1] ms0 = B40 k a0 a1 := by rw [Fu7, show Ay2 k k = c8 k k from (Dp0 k k)] <;> rfl
noncomputable def C86 (k : Nat) : Spec := .imm F4 fun (a0 : B9) => .imm (.slice 93 An1) fun (a1 : List I3) => .body (B40 k a0 a1) (D7 [F4, (.int .i64)] [.o])
noncomputable def B77 (k : Nat) : Cfg := { eqs := [], tab := [(3, (.int .i64)), (5, (.int .u8)), (22, (.slice 5 (.int .u8))), (129, C8)], spec := [], mspec := [], inl := [(64, Tryz.f64)], keep := [], join := [], hold := [], ptrs := [], maps := [], fuel := k }
noncomputable def Dy2 : VV → Ms → Option (Int × A9 × Unit) := Cq1 [(.int .i64)] [] [.box C8]
theorem E64 (k : Nat) (a0 : A9) : C4 (B77 k) Dy2 k 64 (S7 1 [.box C8] (a0, ())) (ms1 [.box C8] (a0, ())) = Ab8 k a0 := by kernel_rfl
noncomputable def Cu5 (k : Nat) : MSpec := .box C8 fun (a0 : A9) => .body (Ab8 k a0) (fun r => D7 [(.int .i64)] [] r.1) (fun r => poV [.box C8] r.2)
noncomputable def Bx0 (k : Nat) : Cfg := { eqs := [], tab := [], spec := [], mspec := [(64, Cu5 k)], inl := [(65, Tryz.f65)], keep := [], join := [], hold := [], ptrs := [], maps := [], fuel := k }
noncomputable def Dp1 : VV → Ms → Option (Int × A9 × Unit) := Cq1 [(.int .i64)] [] [.box C8, .imm (.int .i64)]
theorem Ei7 (k : Nat) (a0 : A9) (a1 : Int) : C4 (Bx0 k) Dp1 k 65 (S7 1 [.box C8, .imm (.int .i64)] (a0, a1, ())) (ms1 [.box C8, .imm (.int .i64)] (a0, a1, ())) = C7 k a0 a1 := by kernel_rfl
noncomputable def P5 (k : Nat) : MSpec := .box C8 fun (a0 : A9) => .imm (.int .i64) fun (a1 : Int) => .body (C7 k a0 a1) (fun r => D7 [(.int .i64)] [] r.1) (fun r => poV [.box C8, .imm (.int .i64)] r.2)
noncomputable def Bc0 (k : Nat) : Cfg := { eqs := [], tab := [(3, (.int .i64)), (5, (.int .u8)), (9, .str), (22, (.slice 5 (.int .u8)))], spec := [], mspec := [], inl := [(109, Tryz.f109)], keep := [(10900001002, [0, 3])], join := [], hold := [], ptrs := [], maps := [], fuel := k }
noncomputable def Bx1 : VV → Ms → Option ByteArray := F7 [.str] []
noncomputable def Ay3 (k n : Nat) (a0 : Int) (xs1 : List Int) : Option ByteArray := Q0 (Bc0 k) Bx1 n true 10900001002 (cd [1, 1, 0, 0, 0] (bo Tryz.f109)) [.b 0, .s (cd [1, 1, 1] (bo Tryz.f109)), .fn Tryz.f109] ⟨⟨(G4 22 0 [(0, one (.int .i64 a0)), (3, one (.row 9000000 none none))]), [(9000000, .row 5 (.int .u8) xs1 true)]⟩, 10900001000, 1, [(0, (G4 0 0 []))]⟩
theorem E65 (k n : Nat) (a0 : Int) (xs1 : List Int) : Ay3 k (n + 1) a0 xs1 = Bf8 k (Ay3 k n) a0 xs1 := by kernel_rfl
theorem Dp2 (k : Nat) : ∀ n : Nat, Ay3 k n = s9 k n
 | 0 => (by funext a0 xs1; rfl)
 | n + 1 => by
  obtain h0 := Dp2 k n
  exact (by funext a0 xs1; rw [E65, h0] <;> rfl)
theorem Fu9 (k : Nat) (a0 : Int) : C4 (Bc0 k) Bx1 k 109 [B3 (.int .i64) a0] ms0 = Cl4 k (Ay3 k k) a0 := by kernel_rfl
theorem Fv0 (k : Nat) (a0 : Int) : C4 (Bc0 k) Bx1 k 109 [B3 (.int .i64) a0] ms0 = L9 k a0 := by rw [Fu9, show Ay3 k k = s9 k k from (Dp2 k k)] <;> rfl
noncomputable def Aj8 (k : Nat) : Spec := .imm (.int .i64) fun (a0 : Int) => .body (L9 k a0) (D7 [.str] [])
noncomputable def Ae8 (k : Nat) : Cfg := { eqs := [], tab := [(3, (.int .i64)), (49, (.slice 3 (.int .i64)))], spec := [(55, I1 k)], mspec := [], inl := [(195, Tryz.f195)], keep := [(19500001002, [0, 3])], join := [], hold := [], ptrs := [], maps := [], fuel := k }
noncomputable def A19 : VV → Ms → Option Bool := F7 [.bool] []
noncomputable def Aa1 (k n : Nat) (a0 : List Int) (v1 : Int) : Option Bool := Q0 (Ae8 k) A19 n true 19500001002 (cd [1, 0, 1, 0, 0] (bo Tryz.f195)) [.b 0, .s (cd [1, 1] (bo Tryz.f195)), .fn Tryz.f195] ⟨⟨(G4 19 0 [(0, one (.slc 3 (.int .i64) a0)), (3, one (.int .i64 v1))]), []⟩, 19500001000, 1, [(0, (G4 0 0 []))]⟩
theorem Dp3 (k n : Nat) (a0 : List Int) (v1 : Int) : Aa1 k (n + 1) a0 v1 = Ak9 k (Aa1 k n) a0 v1 := by kernel_rfl
theorem Ci4 (k : Nat) : ∀ n : Nat, Aa1 k n = S8 k n
 | 0 => (by funext a0 v1; rfl)
 | n + 1 => by
  obtain h0 := Ci4 k n
  exact (by funext a0 v1; rw [Dp3, h0] <;> rfl)
theorem Dy3 (k : Nat) (a0 : List Int) : C4 (Ae8 k) A19 k 195 [B3 (.slice 3 (.int .i64)) a0] ms0 = Cg3 k (Aa1 k k) a0 := by kernel_rfl
theorem Dy4 (k : Nat) (a0 : List Int) : C4 (Ae8 k) A19 k 195 [B3 (.slice 3 (.int .i64)) a0] ms0 = U5 k a0 := by rw [Dy3, show Aa1 k k = S8 k k from (Ci4 k k)] <;> rfl
noncomputable def B78 (k : Nat) : Spec := .imm (.slice 3 (.int .i64)) fun (a0 : List Int) => .body (U5 k a0) (D7 [.bool] [])
noncomputable def B79 (k : Nat) : Cfg := { eqs := [], tab := [(3, (.int .i64)), (9, .str), (49, (.slice 3 (.int .i64))), (162, A4)], spec := [(55, I1 k), (195, B78 k)], mspec := [], inl := [(170, Tryz.f170)], keep := [], join := [], hold := [], ptrs := [], maps := [], fuel := k }
noncomputable def Dy5 : VV → Ms → Option Bool := F7 [.bool] []
theorem E66 (k : Nat) (a0 : A0) : C4 (B79 k) Dy5 k 170 [B3 A4 a0] ms0 = U2 k a0 := by kernel_rfl
noncomputable def Bx2 (k : Nat) : Spec := .imm A4 fun (a0 : A0) => .body (U2 k a0) (D7 [.bool] [])
noncomputable def Ay4 (k : Nat) : Cfg := { eqs := [], tab := [(3, (.int .i64)), (4, .bool), (49, (.slice 3 (.int .i64))), (162, A4)], spec := [(55, I1 k), (170, Bx2 k)], mspec := [], inl := [(152, Tryz.f152)], keep := [(15200001004, [1, 3])], join := [], hold := [], ptrs := [], maps := [], fuel := k }
noncomputable def Bk7 : VV → Ms → Option Bool := F7 [.bool] []
noncomputable def An2 (k n : Nat) (v1 : Int) (a0 : A0) : Option Bool := Q0 (Ay4 k) Bk7 n true 15200001004 (cd [1, 1, 0, 1, 0, 0] (bo Tryz.f152)) [.b 0, .s (cd [1, 1, 1] (bo Tryz.f152)), .fn Tryz.f152] ⟨⟨(G4 77 0 [(1, one (.ptr 9000000 0)), (3, one (.int .i64 v1))]), [(9000000, .box [.int .i64 a0.1, .int .i64 a0.2.1, .int .i64 a0.2.2.1, .int .i64 a0.2.2.2.1, .int .i64 a0.2.2.2.2.1, .slc 3 (.int .i64) a0.2.2.2.2.2.1, .str a0.2.2.2.2.2.2.1, .slc 3 (.int .i64) a0.2.2.2.2.2.2.2.1, .int .i64 a0.2.2.2.2.2.2.2.2.1])]⟩, 15200001000, 1, [(0, (G4 0 0 []))]⟩
theorem Ei8 (k n : Nat) (v1 : Int) (a0 : A0) : An2 k (n + 1) v1 a0 = A32 k (An2 k n) v1 a0 := by kernel_rfl
theorem C87 (k : Nat) : ∀ n : Nat, An2 k n = Q9 k n
 | 0 => (by funext v1 a0; rfl)
 | n + 1 => by
  obtain h0 := C87 k n
  exact (by funext v1 a0; rw [Ei8, h0] <;> rfl)
theorem E67 (k : Nat) (a0 : A0) : C4 (Ay4 k) Bk7 k 152 [B3 A4 a0] ms0 = B41 k (An2 k k) a0 := by kernel_rfl
theorem E68 (k : Nat) (a0 : A0) : C4 (Ay4 k) Bk7 k 152 [B3 A4 a0] ms0 = I9 k a0 := by rw [E67, show An2 k k = Q9 k k from (C87 k k)] <;> rfl
noncomputable def Ad3 (k : Nat) : Spec := .imm A4 fun (a0 : A0) => .body (I9 k a0) (D7 [.bool] [])
noncomputable def Bc1 (k : Nat) : Cfg := { eqs := [], tab := [(3, (.int .i64)), (107, (.slice 162 A4)), (111, D6), (162, A4)], spec := [], mspec := [], inl := [(190, Tryz.f190)], keep := [(19000001002, [1, 2, 5])], join := [], hold := [], ptrs := [], maps := [], fuel := k }
noncomputable def Bx3 : VV → Ms → Option Int := F7 [(.int .i64)] []
noncomputable def Ay5 (k n : Nat) (a1 : Int) (v1 : Int) (a0 : A6) : Option Int := Q0 (Bc1 k) Bx3 n true 19000001002 (cd [1, 0, 1, 0, 0] (bo Tryz.f190)) [.b 0, .s (cd [1, 1] (bo Tryz.f190)), .fn Tryz.f190] ⟨⟨(G4 22 0 [(1, one (.int .i64 a1)), (2, one (.ptr 9000000 0)), (5, one (.int .i64 v1))]), [(9000000, .box [.slc 162 A4 a0.1, .slc 215 (.slice 260 B2) a0.2.1, .slc 4 .bool a0.2.2.1])]⟩, 19000001000, 1, [(0, (G4 0 0 []))]⟩
theorem E69 (k n : Nat) (a1 : Int) (v1 : Int) (a0 : A6) : Ay5 k (n + 1) a1 v1 a0 = Bf9 k (Ay5 k n) a1 v1 a0 := by kernel_rfl
theorem Dp4 (k : Nat) : ∀ n : Nat, Ay5 k n = t6 k n
 | 0 => (by funext a1 v1 a0; rfl)
 | n + 1 => by
  obtain h0 := Dp4 k n
  exact (by funext a1 v1 a0; rw [E69, h0] <;> rfl)
theorem Fv1 (k : Nat) (a0 : A6) (a1 : Int) : C4 (Bc1 k) Bx3 k 190 [B3 D6 a0, B3 (.int .i64) a1] ms0 = Dj8 k (Ay5 k k) a0 a1 := by kernel_rfl
theorem Fv2 (k : Nat) (a0 : A6) (a1 : Int) : C4 (Bc1 k) Bx3 k 190 [B3 D6 a0, B3 (.int .i64) a1] ms0 = A90 k a0 a1 := by rw [Fv1, show Ay5 k k = t6 k k from (Dp4 k k)] <;> rfl
noncomputable def Bh3 (k : Nat) : Spec := .imm D6 fun (a0 : A6) => .imm (.int .i64) fun (a1 : Int) => .body (A90 k a0 a1) (D7 [(.int .i64)] [])
noncomputable def Ay6 (k : Nat) : Cfg := { eqs := [], tab := [(3, (.int .i64)), (49, (.slice 3 (.int .i64))), (107, (.slice 162 A4)), (111, D6), (162, A4)], spec := [(190, Bh3 k)], mspec := [], inl := [(177, Tryz.f177)], keep := [(17700001003, [1, 2, 5, 6])], join := [], hold := [], ptrs := [], maps := [], fuel := k }
noncomputable def Bk8 : VV → Ms → Option Int := F7 [(.int .i64)] []
noncomputable def An3 (k n : Nat) (a1 : List Int) (v1 : Int) (v2 : Int) (a0 : A6) : Option Int := Q0 (Ay6 k) Bk8 n true 17700001003 (cd [1, 1, 0, 1, 0, 0] (bo Tryz.f177)) [.b 0, .s (cd [1, 1, 1] (bo Tryz.f177)), .fn Tryz.f177] ⟨⟨(G4 42 0 [(1, one (.slc 3 (.int .i64) a1)), (2, one (.ptr 9000000 0)), (5, one (.int .i64 v1)), (6, one (.int .i64 v2))]), [(9000000, .box [.slc 162 A4 a0.1, .slc 215 (.slice 260 B2) a0.2.1, .slc 4 .bool a0.2.2.1])]⟩, 17700001000, 1, [(0, (G4 0 0 []))]⟩
theorem Ei9 (k n : Nat) (a1 : List Int) (v1 : Int) (v2 : Int) (a0 : A6) : An3 k (n + 1) a1 v1 v2 a0 = Bt0 k (An3 k n) a1 v1 v2 a0 := by kernel_rfl
theorem C88 (k : Nat) : ∀ n : Nat, An3 k n = g6 k n
 | 0 => (by funext a1 v1 v2 a0; rfl)
 | n + 1 => by
  obtain h0 := C88 k n
  exact (by funext a1 v1 v2 a0; rw [Ei9, h0] <;> rfl)
theorem E70 (k : Nat) (a0 : A6) (a1 : List Int) : C4 (Ay6 k) Bk8 k 177 [B3 D6 a0, B3 (.slice 3 (.int .i64)) a1] ms0 = C48 k (An3 k k) a0 a1 := by kernel_rfl
theorem E71 (k : Nat) (a0 : A6) (a1 : List Int) : C4 (Ay6 k) Bk8 k 177 [B3 D6 a0, B3 (.slice 3 (.int .i64)) a1] ms0 = J0 k a0 a1 := by rw [E70, show An3 k k = g6 k k from (C88 k k)] <;> rfl
noncomputable def A52 (k : Nat) : Spec := .imm D6 fun (a0 : A6) => .imm (.slice 3 (.int .i64)) fun (a1 : List Int) => .body (J0 k a0 a1) (D7 [(.int .i64)] [])
noncomputable def Ay7 (k : Nat) : Cfg := { eqs := [], tab := [(3, (.int .i64)), (107, (.slice 162 A4)), (162, A4)], spec := [], mspec := [], inl := [(204, Tryz.f204)], keep := [(20400001002, [0, 1, 4, 6])], join := [], hold := [], ptrs := [], maps := [], fuel := k }
noncomputable def Bk9 : VV → Ms → Option (A0 × Bool) := F7 [A4, .bool] [.s, .s]
noncomputable def An4 (k n : Nat) (a0 : List A0) (a1 : Int) (v1 : Int) : Option (A0 × Bool) := Q0 (Ay7 k) Bk9 n true 20400001002 (cd [1, 0, 1, 0, 0] (bo Tryz.f204)) [.b 0, .s (cd [1, 1] (bo Tryz.f204)), .fn Tryz.f204] ⟨⟨(G4 25 0 [(0, one (.slc 162 A4 a0)), (1, one (.int .i64 a1)), (4, one (.ptr 9000000 0)), (6, one (.int .i64 v1))]), [(9000000, .box [.int .i64 0, .int .i64 0, .int .i64 0, .int .i64 0, .int .i64 0, .nilS, .str ByteArray.empty, .nilS, .int .i64 0])]⟩, 20400001000, 1, [(0, (G4 0 0 []))]⟩
theorem Ej0 (k n : Nat) (a0 : List A0) (a1 : Int) (v1 : Int) : An4 k (n + 1) a0 a1 v1 = A33 k (An4 k n) a0 a1 v1 := by kernel_rfl
theorem C89 (k : Nat) : ∀ n : Nat, An4 k n = g7 k n
 | 0 => (by funext a0 a1 v1; rfl)
 | n + 1 => by
  obtain h0 := C89 k n
  exact (by funext a0 a1 v1; rw [Ej0, h0] <;> rfl)
theorem E72 (k : Nat) (a0 : List A0) (a1 : Int) : C4 (Ay7 k) Bk9 k 204 [B3 (.slice 162 A4) a0, B3 (.int .i64) a1] ms0 = C49 k (An4 k k) a0 a1 := by kernel_rfl
theorem E73 (k : Nat) (a0 : List A0) (a1 : Int) : C4 (Ay7 k) Bk9 k 204 [B3 (.slice 162 A4) a0, B3 (.int .i64) a1] ms0 = L7 k a0 a1 := by rw [E72, show An4 k k = g7 k k from (C89 k k)] <;> rfl
noncomputable def V7 (k : Nat) : Spec := .imm (.slice 162 A4) fun (a0 : List A0) => .imm (.int .i64) fun (a1 : Int) => .body (L7 k a0 a1) (D7 [A4, .bool] [.s, .s])
noncomputable def Dp5 (k : Nat) : Cfg := { eqs := [], tab := [(3, (.int .i64)), (215, (.slice 260 B2)), (260, B2)], spec := [], mspec := [], inl := [(205, Tryz.f205)], keep := [(20500001002, [0, 1, 5])], join := [], hold := [], ptrs := [], maps := [], fuel := k }
noncomputable def Dp6 : VV → Ms → Option Int := F7 [(.int .i64)] []
noncomputable def Cu6 (k n : Nat) (a0 : List A1) (a1 : Int) (v1 : Int) : Option Int := Q0 (Dp5 k) Dp6 n true 20500001002 (cd [1, 0, 1, 0, 0] (bo Tryz.f205)) [.b 0, .s (cd [1, 1] (bo Tryz.f205)), .fn Tryz.f205] ⟨⟨(G4 24 0 [(0, one (.slc 260 B2 a0)), (1, one (.int .i64 a1)), (5, one (.int .i64 v1))]), []⟩, 20500001000, 1, [(0, (G4 0 0 []))]⟩
theorem G82 (k n : Nat) (a0 : List A1) (a1 : Int) (v1 : Int) : Cu6 k (n + 1) a0 a1 v1 = Df9 k (Cu6 k n) a0 a1 v1 := by kernel_rfl
theorem Gy8 (k : Nat) : ∀ n : Nat, Cu6 k n = Bt1 k n
 | 0 => (by funext a0 a1 v1; rfl)
 | n + 1 => by
  obtain h0 := Gy8 k n
  exact (by funext a0 a1 v1; rw [G82, h0] <;> rfl)
theorem Hd8 (k : Nat) (a0 : List A1) (a1 : Int) : C4 (Dp5 k) Dp6 k 205 [B3 (.slice 260 B2) a0, B3 (.int .i64) a1] ms0 = Gu3 k (Cu6 k k) a0 a1 := by kernel_rfl
theorem Hd9 (k : Nat) (a0 : List A1) (a1 : Int) : C4 (Dp5 k) Dp6 k 205 [B3 (.slice 260 B2) a0, B3 (.int .i64) a1] ms0 = Ce2 k a0 a1 := by rw [Hd8, show Cu6 k k = Bt1 k k from (Gy8 k k)] <;> rfl
noncomputable def Bh4 (k : Nat) : Spec := .imm (.slice 260 B2) fun (a0 : List A1) => .imm (.int .i64) fun (a1 : Int) => .body (Ce2 k a0 a1) (D7 [(.int .i64)] [])
noncomputable def Bx4 (k : Nat) : Cfg := { eqs := [], tab := [(3, (.int .i64)), (162, A4)], spec := [(55, I1 k), (204, V7 k), (205, Bh4 k)], mspec := [], inl := [(208, Tryz.f208)], keep := [], join := [], hold := [], ptrs := [], maps := [], fuel := k }
noncomputable def Dp7 : VV → Ms → Option Int := F7 [(.int .i64)] []
theorem Ej1 (k : Nat) (a0 : List A0) (a1 : List A1) (a2 : Int) : C4 (Bx4 k) Dp7 k 208 [B3 (.slice 162 A4) a0, B3 (.slice 260 B2) a1, B3 (.int .i64) a2] ms0 = Q5 k a0 a1 a2 := by kernel_rfl
noncomputable def o8 (k : Nat) : Spec := .imm (.slice 162 A4) fun (a0 : List A0) => .imm (.slice 260 B2) fun (a1 : List A1) => .imm (.int .i64) fun (a2 : Int) => .body (Q5 k a0 a1 a2) (D7 [(.int .i64)] [])
noncomputable def B80 (k : Nat) : Cfg := { eqs := [], tab := [(3, (.int .i64)), (49, (.slice 3 (.int .i64))), (162, A4)], spec := [(55, I1 k), (204, V7 k), (205, Bh4 k)], mspec := [], inl := [(209, Tryz.f209)], keep := [], join := [], hold := [], ptrs := [], maps := [], fuel := k }
noncomputable def Dy6 : VV → Ms → Option Int := F7 [(.int .i64)] []
theorem E74 (k : Nat) (a0 : List A0) (a1 : List A1) (a2 : Int) : C4 (B80 k) Dy6 k 209 [B3 (.slice 162 A4) a0, B3 (.slice 260 B2) a1, B3 (.int .i64) a2] ms0 = U3 k a0 a1 a2 := by kernel_rfl
noncomputable def An5 (k : Nat) : Spec := .imm (.slice 162 A4) fun (a0 : List A0) => .imm (.slice 260 B2) fun (a1 : List A1) => .imm (.int .i64) fun (a2 : Int) => .body (U3 k a0 a1 a2) (D7 [(.int .i64)] [])
noncomputable def An6 (k : Nat) : Cfg := { eqs := [], tab := [(3, (.int .i64)), (215, (.slice 260 B2)), (260, B2)], spec := [], mspec := [], inl := [(236, Tryz.f236)], keep := [(23600001002, [0, 3])], join := [], hold := [], ptrs := [], maps := [], fuel := k }
noncomputable def Bc2 : VV → Ms → Option Bool := F7 [.bool] []
noncomputable def Ae9 (k n : Nat) (a0 : List A1) (v1 : Int) : Option Bool := Q0 (An6 k) Bc2 n true 23600001002 (cd [1, 0, 1, 0, 0] (bo Tryz.f236)) [.b 0, .s (cd [1, 1] (bo Tryz.f236)), .fn Tryz.f236] ⟨⟨(G4 16 0 [(0, one (.slc 260 B2 a0)), (3, one (.int .i64 v1))]), []⟩, 23600001000, 1, [(0, (G4 0 0 []))]⟩
theorem Dy7 (k n : Nat) (a0 : List A1) (v1 : Int) : Ae9 k (n + 1) a0 v1 = Av2 k (Ae9 k n) a0 v1 := by kernel_rfl
theorem Cu7 (k : Nat) : ∀ n : Nat, Ae9 k n = W5 k n
 | 0 => (by funext a0 v1; rfl)
 | n + 1 => by
  obtain h0 := Cu7 k n
  exact (by funext a0 v1; rw [Dy7, h0] <;> rfl)
theorem Ej2 (k : Nat) (a0 : List A1) : C4 (An6 k) Bc2 k 236 [B3 (.slice 260 B2) a0] ms0 = Cq4 k (Ae9 k k) a0 := by kernel_rfl
theorem Ej3 (k : Nat) (a0 : List A1) : C4 (An6 k) Bc2 k 236 [B3 (.slice 260 B2) a0] ms0 = A91 k a0 := by rw [Ej2, show Ae9 k k = W5 k k from (Cu7 k k)] <;> rfl
noncomputable def Ci5 (k : Nat) : Spec := .imm (.slice 260 B2) fun (a0 : List A1) => .body (A91 k a0) (D7 [.bool] [])
noncomputable def B81 (k : Nat) : Cfg := { eqs := [], tab := [(3, (.int .i64)), (162, A4)], spec := [(204, V7 k), (205, Bh4 k), (208, o8 k), (236, Ci5 k)], mspec := [], inl := [(225, Tryz.f225)], keep := [], join := [], hold := [], ptrs := [], maps := [], fuel := k }
noncomputable def Dy8 : VV → Ms → Option Bool := F7 [.bool] []
theorem E75 (k : Nat) (a0 : List A0) (a1 : List A1) (a2 : A0) : C4 (B81 k) Dy8 k 225 [B3 (.slice 162 A4) a0, B3 (.slice 260 B2) a1, B3 A4 a2] ms0 = Bn9 k a0 a1 a2 := by kernel_rfl
noncomputable def Cu8 (k : Nat) : Spec := .imm (.slice 162 A4) fun (a0 : List A0) => .imm (.slice 260 B2) fun (a1 : List A1) => .imm A4 fun (a2 : A0) => .body (Bn9 k a0 a1 a2) (D7 [.bool] [])
noncomputable def Bl0 (k : Nat) : Cfg := { eqs := [], tab := [(3, (.int .i64)), (162, A4)], spec := [(208, o8 k), (209, An5 k), (225, Cu8 k)], mspec := [], inl := [(206, Tryz.f206)], keep := [], join := [], hold := [], ptrs := [], maps := [], fuel := k }
noncomputable def Dc6 : VV → Ms → Option Bool := F7 [.bool] []
theorem Dy9 (k : Nat) (a0 : List A0) (a1 : List A1) (a2 : A0) : C4 (Bl0 k) Dc6 k 206 [B3 (.slice 162 A4) a0, B3 (.slice 260 B2) a1, B3 A4 a2] ms0 = Ai8 k a0 a1 a2 := by kernel_rfl
noncomputable def B82 (k : Nat) : Spec := .imm (.slice 162 A4) fun (a0 : List A0) => .imm (.slice 260 B2) fun (a1 : List A1) => .imm A4 fun (a2 : A0) => .body (Ai8 k a0 a1 a2) (D7 [.bool] [])
noncomputable def An7 (k : Nat) : Cfg := { eqs := [], tab := [(3, (.int .i64)), (49, (.slice 3 (.int .i64))), (162, A4)], spec := [(208, o8 k), (209, An5 k)], mspec := [], inl := [(207, Tryz.f207)], keep := [(20700001005, [0, 1, 5, 7, 8])], join := [], hold := [], ptrs := [], maps := [], fuel := k }
noncomputable def Bc3 : VV → Ms → Option Bool := F7 [.bool] []
noncomputable def Af0 (k n : Nat) (a0 : List A0) (a1 : List A1) (r1 : Int) (v1 : Int) (a2 : A0) : Option Bool := Q0 (An7 k) Bc3 n true 20700001005 (cd [1, 1, 1, 0, 1, 0, 0] (bo Tryz.f207)) [.b 0, .s (cd [1, 1, 1, 1] (bo Tryz.f207)), .fn Tryz.f207] ⟨⟨(G4 57 0 [(0, one (.slc 162 A4 a0)), (1, one (.slc 260 B2 a1)), (5, one (.ptr 9000000 0)), (7, one (.int .i64 r1)), (8, one (.int .i64 v1))]), [(9000000, .box [.int .i64 a2.1, .int .i64 a2.2.1, .int .i64 a2.2.2.1, .int .i64 a2.2.2.2.1, .int .i64 a2.2.2.2.2.1, .slc 3 (.int .i64) a2.2.2.2.2.2.1, .str a2.2.2.2.2.2.2.1, .slc 3 (.int .i64) a2.2.2.2.2.2.2.2.1, .int .i64 a2.2.2.2.2.2.2.2.2.1])]⟩, 20700001000, 1, [(0, (G4 0 0 []))]⟩
theorem Dz0 (k n : Nat) (a0 : List A0) (a1 : List A1) (r1 : Int) (v1 : Int) (a2 : A0) : Af0 k (n + 1) a0 a1 r1 v1 a2 = Bi8 k (Af0 k n) a0 a1 r1 v1 a2 := by kernel_rfl
theorem Cu9 (k : Nat) : ∀ n : Nat, Af0 k n = R9 k n
 | 0 => (by funext a0 a1 r1 v1 a2; rfl)
 | n + 1 => by
  obtain h0 := Cu9 k n
  exact (by funext a0 a1 r1 v1 a2; rw [Dz0, h0] <;> rfl)
theorem Ej4 (k : Nat) (a0 : List A0) (a1 : List A1) (a2 : A0) : C4 (An7 k) Bc3 k 207 [B3 (.slice 162 A4) a0, B3 (.slice 260 B2) a1, B3 A4 a2] ms0 = Cq5 k (Af0 k k) a0 a1 a2 := by kernel_rfl
theorem Ej5 (k : Nat) (a0 : List A0) (a1 : List A1) (a2 : A0) : C4 (An7 k) Bc3 k 207 [B3 (.slice 162 A4) a0, B3 (.slice 260 B2) a1, B3 A4 a2] ms0 = A92 k a0 a1 a2 := by rw [Ej4, show Af0 k k = R9 k k from (Cu9 k k)] <;> rfl
noncomputable def Ci6 (k : Nat) : Spec := .imm (.slice 162 A4) fun (a0 : List A0) => .imm (.slice 260 B2) fun (a1 : List A1) => .imm A4 fun (a2 : A0) => .body (A92 k a0 a1 a2) (D7 [.bool] [])
noncomputable def B83 (k : Nat) : Cfg := { eqs := [], tab := [(3, (.int .i64)), (162, A4), (215, (.slice 260 B2))], spec := [(152, Ad3 k), (204, V7 k), (205, Bh4 k), (206, B82 k), (207, Ci6 k), (208, o8 k), (209, An5 k)], mspec := [], inl := [(179, Tryz.f179)], keep := [], join := [], hold := [], ptrs := [], maps := [], fuel := k }
noncomputable def Dz1 : VV → Ms → Option Bool := F7 [.bool] []
theorem E76 (k : Nat) (a0 : List A0) (a1 : List A1) (a2 : A0) : C4 (B83 k) Dz1 k 179 [B3 (.slice 162 A4) a0, B3 (.slice 260 B2) a1, B3 A4 a2] ms0 = As3 k a0 a1 a2 := by kernel_rfl
noncomputable def A53 (k : Nat) : Spec := .imm (.slice 162 A4) fun (a0 : List A0) => .imm (.slice 260 B2) fun (a1 : List A1) => .imm A4 fun (a2 : A0) => .body (As3 k a0 a1 a2) (D7 [.bool] [])
noncomputable def C16 (k : Nat) : Cfg := { eqs := [], tab := [(3, (.int .i64)), (162, A4)], spec := [(55, I1 k)], mspec := [], inl := [(191, Tryz.f191)], keep := [], join := [], hold := [], ptrs := [], maps := [], fuel := k }
noncomputable def E77 : VV → Ms → Option Int := F7 [(.int .i64)] []
theorem Gl4 (k : Nat) (a0 : A0) : C4 (C16 k) E77 k 191 [B3 A4 a0] ms0 = A34 k a0 := by kernel_rfl
noncomputable def Cm6 (k : Nat) : Spec := .imm A4 fun (a0 : A0) => .body (A34 k a0) (D7 [(.int .i64)] [])
noncomputable def Cm7 (k : Nat) : Cfg := { eqs := [], tab := [], spec := [(55, I1 k)], mspec := [], inl := [(230, Tryz.f230)], keep := [], join := [], hold := [], ptrs := [], maps := [], fuel := k }
noncomputable def Ej6 : VV → Ms → Option Bool := F7 [.bool] []
theorem Fv3 (k : Nat) (a0 : Int) : C4 (Cm7 k) Ej6 k 230 [B3 (.int .i64) a0] ms0 = Bo0 k a0 := by kernel_rfl
noncomputable def C90 (k : Nat) : Spec := .imm (.int .i64) fun (a0 : Int) => .body (Bo0 k a0) (D7 [.bool] [])
noncomputable def Ay8 (k : Nat) : Cfg := { eqs := [], tab := [(3, (.int .i64)), (215, (.slice 260 B2)), (260, B2)], spec := [(55, I1 k), (230, C90 k)], mspec := [], inl := [(218, Tryz.f218)], keep := [(21800001004, [0, 3])], join := [], hold := [], ptrs := [], maps := [], fuel := k }
noncomputable def Bl1 : VV → Ms → Option Bool := F7 [.bool] []
noncomputable def An8 (k n : Nat) (a0 : List A1) (v1 : Int) : Option Bool := Q0 (Ay8 k) Bl1 n true 21800001004 (cd [1, 1, 0, 1, 0, 0] (bo Tryz.f218)) [.b 0, .s (cd [1, 1, 1] (bo Tryz.f218)), .fn Tryz.f218] ⟨⟨(G4 47 0 [(0, one (.slc 260 B2 a0)), (3, one (.int .i64 v1))]), []⟩, 21800001000, 1, [(0, (G4 0 0 []))]⟩
theorem Ej7 (k n : Nat) (a0 : List A1) (v1 : Int) : An8 k (n + 1) a0 v1 = Bt2 k (An8 k n) a0 v1 := by kernel_rfl
theorem C91 (k : Nat) : ∀ n : Nat, An8 k n = U6 k n
 | 0 => (by funext a0 v1; rfl)
 | n + 1 => by
  obtain h0 := C91 k n
  exact (by funext a0 v1; rw [Ej7, h0] <;> rfl)
theorem E78 (k : Nat) (a0 : List A1) : C4 (Ay8 k) Bl1 k 218 [B3 (.slice 260 B2) a0] ms0 = C50 k (An8 k k) a0 := by kernel_rfl
theorem E79 (k : Nat) (a0 : List A1) : C4 (Ay8 k) Bl1 k 218 [B3 (.slice 260 B2) a0] ms0 = A72 k a0 := by rw [E78, show An8 k k = U6 k k from (C91 k k)] <;> rfl
noncomputable def Cv0 (k : Nat) : Spec := .imm (.slice 260 B2) fun (a0 : List A1) => .body (A72 k a0) (D7 [.bool] [])
noncomputable def Cd8 (k : Nat) : Cfg := { eqs := [], tab := [(3, (.int .i64)), (215, (.slice 260 B2)), (260, B2)], spec := [(218, Cv0 k)], mspec := [], inl := [(192, Tryz.f192)], keep := [(19200001003, [0, 1, 2, 7, 8]), (19200001009, [0, 1, 7, 9])], join := [], hold := [], ptrs := [], maps := [], fuel := k }
noncomputable def Cd9 : VV → Ms → Option (List A1) := F7 [(.slice 260 B2)] [.o]
noncomputable def Cv1 (k n : Nat) (a0 : List A1) (a1 : Int) (v3 : Int) (xs4 : List A1) : Option (List A1) := Q0 (Cd8 k) Cd9 n true 19200001009 (cd [1, 1, 1, 1, 0, 1, 0, 0] (bo Tryz.f192)) [.b 2, .s (cd [1, 1, 1, 1, 1] (bo Tryz.f192)), .fn Tryz.f192] ⟨⟨(G4 69 0 [(0, one (.slc 260 B2 a0)), (1, one (.int .i64 a1)), (7, one (.row 9000000 none none)), (9, one (.int .i64 v3))]), [(9000000, .row 260 B2 xs4 true)]⟩, 19200001000, 1, [(0, (G4 0 0 []))]⟩
noncomputable def B84 (k n : Nat) (a0 : List A1) (a1 : Int) (a2 : Int) (v1 : Int) (xs2 : List A1) : Option (List A1) := Q0 (Cd8 k) Cd9 n true 19200001003 (cd [1, 1, 0, 1, 0, 0] (bo Tryz.f192)) [.b 0, .s (cd [1, 1, 1] (bo Tryz.f192)), .fn Tryz.f192] ⟨⟨(G4 69 0 [(0, one (.slc 260 B2 a0)), (1, one (.int .i64 a1)), (2, one (.int .i64 a2)), (7, one (.row 9000000 none none)), (8, one (.int .i64 v1))]), [(9000000, .row 260 B2 xs2 true)]⟩, 19200001000, 1, [(0, (G4 0 0 []))]⟩
theorem Gy9 (k n : Nat) (a0 : List A1) (a1 : Int) (v3 : Int) (xs4 : List A1) : Cv1 k (n + 1) a0 a1 v3 xs4 = Dj9 k (Cv1 k n) a0 a1 v3 xs4 := by kernel_rfl
theorem Gz0 (k n : Nat) (a0 : List A1) (a1 : Int) (a2 : Int) (v1 : Int) (xs2 : List A1) : B84 k (n + 1) a0 a1 a2 v1 xs2 = Dk0 k (B84 k n) (Cv1 k n) a0 a1 a2 v1 xs2 := by kernel_rfl
theorem Gf1 (k : Nat) : ∀ n : Nat, Cv1 k n = B42 k n ∧ B84 k n = A93 k n
 | 0 => ⟨(by funext a0 a1 v3 xs4; rfl), (by funext a0 a1 a2 v1 xs2; rfl)⟩
 | n + 1 => by
  obtain ⟨h1, h0⟩ := Gf1 k n
  exact ⟨(by funext a0 a1 v3 xs4; rw [Gy9, h1] <;> rfl), (by funext a0 a1 a2 v1 xs2; rw [Gz0, h0, h1] <;> rfl)⟩
theorem G83 (k : Nat) (a0 : List A1) (a1 : Int) (a2 : Int) : C4 (Cd8 k) Cd9 k 192 [B3 (.slice 260 B2) a0, B3 (.int .i64) a1, B3 (.int .i64) a2] ms0 = Gd1 k (B84 k k) a0 a1 a2 := by kernel_rfl
theorem G84 (k : Nat) (a0 : List A1) (a1 : Int) (a2 : Int) : C4 (Cd8 k) Cd9 k 192 [B3 (.slice 260 B2) a0, B3 (.int .i64) a1, B3 (.int .i64) a2] ms0 = D90 k a0 a1 a2 := by rw [G83, show B84 k k = A93 k k from (Gf1 k k).2] <;> rfl
noncomputable def Dp8 (k : Nat) : Spec := .imm (.slice 260 B2) fun (a0 : List A1) => .imm (.int .i64) fun (a1 : Int) => .imm (.int .i64) fun (a2 : Int) => .body (D90 k a0 a1 a2) (D7 [(.slice 260 B2)] [.o])
noncomputable def Aa2 (k : Nat) : Cfg := { eqs := [], tab := [(3, (.int .i64)), (49, (.slice 3 (.int .i64))), (108, (.slice 215 (.slice 260 B2))), (215, (.slice 260 B2)), (260, B2)], spec := [], mspec := [], inl := [(231, Tryz.f231)], keep := [(23100001003, [0, 3, 4]), (23100001007, [0, 3, 4, 5, 6]), (23100001010, [0, 3, 4, 5, 6, 7])], join := [], hold := [], ptrs := [], maps := [], fuel := k }
noncomputable def Af1 : VV → Ms → Option (List Int) := F7 [(.slice 3 (.int .i64))] [.o]
noncomputable def An9 (k n : Nat) (a0 : List (List A1)) (v1 : Int) (xs2 : List Int) : Option (List Int) := Q0 (Aa2 k) Af1 n true 23100001003 (cd [1, 1, 0, 1, 0, 0] (bo Tryz.f231)) [.b 0, .s (cd [1, 1, 1] (bo Tryz.f231)), .fn Tryz.f231] ⟨⟨(G4 47 0 [(0, one (.slc 215 (.slice 260 B2) a0)), (3, one (.row 9000000 none none)), (4, one (.int .i64 v1))]), [(9000000, .row 3 (.int .i64) xs2 true)]⟩, 23100001000, 1, [(0, (G4 0 0 []))]⟩
noncomputable def A54 (k n : Nat) (a0 : List (List A1)) (v1 : Int) (v3 : Bool) (v4 : Int) (xs2 : List Int) : Option (List Int) := Q0 (Aa2 k) Af1 n true 23100001007 (cd [1, 1, 0, 1, 0, 0, 1, 0, 0, 1, 0, 1, 0, 0] (bo Tryz.f231)) [.b 2, .s (cd [1, 1, 0, 1, 0, 0, 1, 0, 0, 1, 1] (bo Tryz.f231)), .b 1, .s (cd [1, 1, 0, 1, 0, 0, 1, 1] (bo Tryz.f231)), .l 23100001003 (cd [1, 1, 0, 1, 0, 0] (bo Tryz.f231)), .b 0, .s (cd [1, 1, 1] (bo Tryz.f231)), .fn Tryz.f231] ⟨⟨(G4 47 0 [(0, one (.slc 215 (.slice 260 B2) a0)), (3, one (.row 9000000 none none)), (4, one (.int .i64 v1)), (5, one (.bool v3)), (6, one (.int .i64 v4))]), [(9000000, .row 3 (.int .i64) xs2 true)]⟩, 23100001000, 1, [(0, (G4 0 0 []))]⟩
noncomputable def A55 (k n : Nat) (a0 : List (List A1)) (v1 : Int) (v5 : Bool) (v4 : Int) (v6 : Int) (xs2 : List Int) : Option (List Int) := Q0 (Aa2 k) Af1 n true 23100001010 (cd [1, 1, 0, 1, 0, 0, 1, 0, 0, 1, 0, 1, 0, 0, 1, 0, 0, 1, 0, 0] (bo Tryz.f231)) [.b 4, .b 3, .s (cd [1, 1, 0, 1, 0, 0, 1, 0, 0, 1, 0, 1, 0, 0, 1, 1] (bo Tryz.f231)), .l 23100001007 (cd [1, 1, 0, 1, 0, 0, 1, 0, 0, 1, 0, 1, 0, 0] (bo Tryz.f231)), .b 2, .s (cd [1, 1, 0, 1, 0, 0, 1, 0, 0, 1, 1] (bo Tryz.f231)), .b 1, .s (cd [1, 1, 0, 1, 0, 0, 1, 1] (bo Tryz.f231)), .l 23100001003 (cd [1, 1, 0, 1, 0, 0] (bo Tryz.f231)), .b 0, .s (cd [1, 1, 1] (bo Tryz.f231)), .fn Tryz.f231] ⟨⟨(G4 47 0 [(0, one (.slc 215 (.slice 260 B2) a0)), (3, one (.row 9000000 none none)), (4, one (.int .i64 v1)), (5, one (.bool v5)), (6, one (.int .i64 v4)), (7, one (.int .i64 v6))]), [(9000000, .row 3 (.int .i64) xs2 true)]⟩, 23100001000, 1, [(0, (G4 0 0 []))]⟩
theorem Ej8 (k n : Nat) (a0 : List (List A1)) (v1 : Int) (xs2 : List Int) : An9 k (n + 1) a0 v1 xs2 = A35 k (A54 k n) a0 v1 xs2 := by kernel_rfl
theorem Ej9 (k n : Nat) (a0 : List (List A1)) (v1 : Int) (v3 : Bool) (v4 : Int) (xs2 : List Int) : A54 k (n + 1) a0 v1 v3 v4 xs2 = A36 k (A55 k n) (An9 k n) a0 v1 v3 v4 xs2 := by kernel_rfl
theorem Ek0 (k n : Nat) (a0 : List (List A1)) (v1 : Int) (v5 : Bool) (v4 : Int) (v6 : Int) (xs2 : List Int) : A55 k (n + 1) a0 v1 v5 v4 v6 xs2 = A37 k (A55 k n) (A54 k n) a0 v1 v5 v4 v6 xs2 := by kernel_rfl
theorem C92 (k : Nat) : ∀ n : Nat, An9 k n = g8 k n ∧ A54 k n = Al0 k n ∧ A55 k n = Al1 k n
 | 0 => ⟨(by funext a0 v1 xs2; rfl), (by funext a0 v1 v3 v4 xs2; rfl), (by funext a0 v1 v5 v4 v6 xs2; rfl)⟩
 | n + 1 => by
  obtain ⟨h0, h1, h2⟩ := C92 k n
  exact ⟨(by funext a0 v1 xs2; rw [Ej8, h1] <;> rfl), (by funext a0 v1 v3 v4 xs2; rw [Ej9, h2, h0] <;> rfl), (by funext a0 v1 v5 v4 v6 xs2; rw [Ek0, h2, h1] <;> rfl)⟩
theorem E80 (k : Nat) (a0 : List (List A1)) : C4 (Aa2 k) Af1 k 231 [B3 (.slice 215 (.slice 260 B2)) a0] ms0 = C51 k (An9 k k) a0 := by kernel_rfl
theorem E81 (k : Nat) (a0 : List (List A1)) : C4 (Aa2 k) Af1 k 231 [B3 (.slice 215 (.slice 260 B2)) a0] ms0 = A73 k a0 := by rw [E80, show An9 k k = g8 k k from (C92 k k).1] <;> rfl
noncomputable def Bx5 (k : Nat) : Spec := .imm (.slice 215 (.slice 260 B2)) fun (a0 : List (List A1)) => .body (A73 k a0) (D7 [(.slice 3 (.int .i64))] [.o])
noncomputable def Ao0 (k : Nat) : Cfg := { eqs := [], tab := [(108, (.slice 215 (.slice 260 B2))), (215, (.slice 260 B2))], spec := [(205, Bh4 k)], mspec := [], inl := [(232, Tryz.f232)], keep := [(23200001002, [0, 1, 5])], join := [], hold := [], ptrs := [], maps := [], fuel := k }
noncomputable def Bc4 : VV → Ms → Option Bool := F7 [.bool] []
noncomputable def Af2 (k n : Nat) (a0 : List (List A1)) (a1 : Int) (v1 : Int) : Option Bool := Q0 (Ao0 k) Bc4 n true 23200001002 (cd [1, 0, 1, 0, 0] (bo Tryz.f232)) [.b 0, .s (cd [1, 1] (bo Tryz.f232)), .fn Tryz.f232] ⟨⟨(G4 24 0 [(0, one (.slc 215 (.slice 260 B2) a0)), (1, one (.int .i64 a1)), (5, one (.int .i64 v1))]), []⟩, 23200001000, 1, [(0, (G4 0 0 []))]⟩
theorem Dz2 (k n : Nat) (a0 : List (List A1)) (a1 : Int) (v1 : Int) : Af2 k (n + 1) a0 a1 v1 = Bi9 k (Af2 k n) a0 a1 v1 := by kernel_rfl
theorem Cv2 (k : Nat) : ∀ n : Nat, Af2 k n = W6 k n
 | 0 => (by funext a0 a1 v1; rfl)
 | n + 1 => by
  obtain h0 := Cv2 k n
  exact (by funext a0 a1 v1; rw [Dz2, h0] <;> rfl)
theorem Ek1 (k : Nat) (a0 : List (List A1)) (a1 : Int) : C4 (Ao0 k) Bc4 k 232 [B3 (.slice 215 (.slice 260 B2)) a0, B3 (.int .i64) a1] ms0 = Cq6 k (Af2 k k) a0 a1 := by kernel_rfl
theorem Ek2 (k : Nat) (a0 : List (List A1)) (a1 : Int) : C4 (Ao0 k) Bc4 k 232 [B3 (.slice 215 (.slice 260 B2)) a0, B3 (.int .i64) a1] ms0 = As4 k a0 a1 := by rw [Ek1, show Af2 k k = W6 k k from (Cv2 k k)] <;> rfl
noncomputable def Bl2 (k : Nat) : Spec := .imm (.slice 215 (.slice 260 B2)) fun (a0 : List (List A1)) => .imm (.int .i64) fun (a1 : Int) => .body (As4 k a0 a1) (D7 [.bool] [])
noncomputable def Bc5 (k : Nat) : Cfg := { eqs := [], tab := [(3, (.int .i64)), (49, (.slice 3 (.int .i64))), (108, (.slice 215 (.slice 260 B2))), (215, (.slice 260 B2)), (260, B2)], spec := [(205, Bh4 k), (231, Bx5 k), (232, Bl2 k)], mspec := [], inl := [(222, Tryz.f222)], keep := [(22200001004, [0, 3, 4, 5])], join := [], hold := [], ptrs := [], maps := [], fuel := k }
noncomputable def Bx6 : VV → Ms → Option (List A1) := F7 [(.slice 260 B2)] [.o]
noncomputable def Ay9 (k n : Nat) (a0 : List (List A1)) (v1 : Int) (xs2 : List A1) (r1 : List Int) : Option (List A1) := Q0 (Bc5 k) Bx6 n true 22200001004 (cd [1, 1, 1, 0, 1, 0, 0] (bo Tryz.f222)) [.b 0, .s (cd [1, 1, 1, 1] (bo Tryz.f222)), .fn Tryz.f222] ⟨⟨(G4 38 0 [(0, one (.slc 215 (.slice 260 B2) a0)), (3, one (.row 9000000 none none)), (4, one (.row 9000001 none none)), (5, one (.int .i64 v1))]), [(9000000, .row 260 B2 xs2 true), (9000001, .row 3 (.int .i64) r1 true)]⟩, 22200001000, 1, [(0, (G4 0 0 []))]⟩
theorem E82 (k n : Nat) (a0 : List (List A1)) (v1 : Int) (xs2 : List A1) (r1 : List Int) : Ay9 k (n + 1) a0 v1 xs2 r1 = B43 k (Ay9 k n) a0 v1 xs2 r1 := by kernel_rfl
theorem Dp9 (k : Nat) : ∀ n : Nat, Ay9 k n = t7 k n
 | 0 => (by funext a0 v1 xs2 r1; rfl)
 | n + 1 => by
  obtain h0 := Dp9 k n
  exact (by funext a0 v1 xs2 r1; rw [E82, h0] <;> rfl)
theorem Fv4 (k : Nat) (a0 : List (List A1)) : C4 (Bc5 k) Bx6 k 222 [B3 (.slice 215 (.slice 260 B2)) a0] ms0 = Dk1 k (Ay9 k k) a0 := by kernel_rfl
theorem Fv5 (k : Nat) (a0 : List (List A1)) : C4 (Bc5 k) Bx6 k 222 [B3 (.slice 215 (.slice 260 B2)) a0] ms0 = Bo1 k a0 := by rw [Fv4, show Ay9 k k = t7 k k from (Dp9 k k)] <;> rfl
noncomputable def C93 (k : Nat) : Spec := .imm (.slice 215 (.slice 260 B2)) fun (a0 : List (List A1)) => .body (Bo1 k a0) (D7 [(.slice 260 B2)] [.o])
noncomputable def Bq2 (k : Nat) : Cfg := { eqs := [], tab := [(3, (.int .i64)), (49, (.slice 3 (.int .i64)))], spec := [(231, Bx5 k), (232, Bl2 k)], mspec := [], inl := [(223, Tryz.f223)], keep := [(22300001004, [0, 3, 4, 5])], join := [], hold := [], ptrs := [], maps := [], fuel := k }
noncomputable def B85 : VV → Ms → Option (List Int) := F7 [(.slice 3 (.int .i64))] [.o]
noncomputable def Bc6 (k n : Nat) (a0 : List (List A1)) (v1 : Int) (xs2 : List Int) (r1 : List Int) : Option (List Int) := Q0 (Bq2 k) B85 n true 22300001004 (cd [1, 1, 1, 0, 1, 0, 0] (bo Tryz.f223)) [.b 0, .s (cd [1, 1, 1, 1] (bo Tryz.f223)), .fn Tryz.f223] ⟨⟨(G4 30 0 [(0, one (.slc 215 (.slice 260 B2) a0)), (3, one (.row 9000000 none none)), (4, one (.row 9000001 none none)), (5, one (.int .i64 v1))]), [(9000000, .row 3 (.int .i64) xs2 true), (9000001, .row 3 (.int .i64) r1 true)]⟩, 22300001000, 1, [(0, (G4 0 0 []))]⟩
theorem Fv6 (k n : Nat) (a0 : List (List A1)) (v1 : Int) (xs2 : List Int) (r1 : List Int) : Bc6 k (n + 1) a0 v1 xs2 r1 = Cl5 k (Bc6 k n) a0 v1 xs2 r1 := by kernel_rfl
theorem Eb7 (k : Nat) : ∀ n : Nat, Bc6 k n = Ah5 k n
 | 0 => (by funext a0 v1 xs2 r1; rfl)
 | n + 1 => by
  obtain h0 := Eb7 k n
  exact (by funext a0 v1 xs2 r1; rw [Fv6, h0] <;> rfl)
theorem Gl5 (k : Nat) (a0 : List (List A1)) : C4 (Bq2 k) B85 k 223 [B3 (.slice 215 (.slice 260 B2)) a0] ms0 = D91 k (Bc6 k k) a0 := by kernel_rfl
theorem Gl6 (k : Nat) (a0 : List (List A1)) : C4 (Bq2 k) B85 k 223 [B3 (.slice 215 (.slice 260 B2)) a0] ms0 = Cq7 k a0 := by rw [Gl5, show Bc6 k k = Ah5 k k from (Eb7 k k)] <;> rfl
noncomputable def Dq0 (k : Nat) : Spec := .imm (.slice 215 (.slice 260 B2)) fun (a0 : List (List A1)) => .body (Cq7 k a0) (D7 [(.slice 3 (.int .i64))] [.o])
noncomputable def Bq3 (k : Nat) : Cfg := { eqs := [], tab := [(3, (.int .i64)), (49, (.slice 3 (.int .i64)))], spec := [], mspec := [], inl := [(201, Tryz.f201)], keep := [(20100001002, [0, 1, 5])], join := [], hold := [], ptrs := [], maps := [], fuel := k }
noncomputable def B86 : VV → Ms → Option Bool := F7 [.bool] []
noncomputable def Bc7 (k n : Nat) (a0 : List Int) (a1 : Int) (v1 : Int) : Option Bool := Q0 (Bq3 k) B86 n true 20100001002 (cd [1, 0, 1, 0, 0] (bo Tryz.f201)) [.b 0, .s (cd [1, 1] (bo Tryz.f201)), .fn Tryz.f201] ⟨⟨(G4 18 0 [(0, one (.slc 3 (.int .i64) a0)), (1, one (.int .i64 a1)), (5, one (.int .i64 v1))]), []⟩, 20100001000, 1, [(0, (G4 0 0 []))]⟩
theorem Fv7 (k n : Nat) (a0 : List Int) (a1 : Int) (v1 : Int) : Bc7 k (n + 1) a0 a1 v1 = Cl6 k (Bc7 k n) a0 a1 v1 := by kernel_rfl
theorem Eb8 (k : Nat) : ∀ n : Nat, Bc7 k n = Ah6 k n
 | 0 => (by funext a0 a1 v1; rfl)
 | n + 1 => by
  obtain h0 := Eb8 k n
  exact (by funext a0 a1 v1; rw [Fv7, h0] <;> rfl)
theorem Gl7 (k : Nat) (a0 : List Int) (a1 : Int) : C4 (Bq3 k) B86 k 201 [B3 (.slice 3 (.int .i64)) a0, B3 (.int .i64) a1] ms0 = D92 k (Bc7 k k) a0 a1 := by kernel_rfl
theorem Gl8 (k : Nat) (a0 : List Int) (a1 : Int) : C4 (Bq3 k) B86 k 201 [B3 (.slice 3 (.int .i64)) a0, B3 (.int .i64) a1] ms0 = Av3 k a0 a1 := by rw [Gl7, show Bc7 k k = Ah6 k k from (Eb8 k k)] <;> rfl
noncomputable def Bc8 (k : Nat) : Spec := .imm (.slice 3 (.int .i64)) fun (a0 : List Int) => .imm (.int .i64) fun (a1 : Int) => .body (Av3 k a0 a1) (D7 [.bool] [])
noncomputable def Bc9 (k : Nat) : Cfg := { eqs := [], tab := [(3, (.int .i64)), (49, (.slice 3 (.int .i64)))], spec := [], mspec := [], inl := [(202, Tryz.f202)], keep := [(20200001004, [0, 1, 5, 6, 7])], join := [], hold := [], ptrs := [], maps := [], fuel := k }
noncomputable def Bx7 : VV → Ms → Option (List Int) := F7 [(.slice 3 (.int .i64))] [.o]
noncomputable def Az0 (k n : Nat) (a0 : List Int) (a1 : Int) (v1 : Bool) (v2 : Int) (xs3 : List Int) : Option (List Int) := Q0 (Bc9 k) Bx7 n true 20200001004 (cd [1, 1, 1, 0, 1, 0, 0] (bo Tryz.f202)) [.b 0, .s (cd [1, 1, 1, 1] (bo Tryz.f202)), .fn Tryz.f202] ⟨⟨(G4 49 0 [(0, one (.slc 3 (.int .i64) a0)), (1, one (.int .i64 a1)), (5, one (.row 9000000 none none)), (6, one (.bool v1)), (7, one (.int .i64 v2))]), [(9000000, .row 3 (.int .i64) xs3 true)]⟩, 20200001000, 1, [(0, (G4 0 0 []))]⟩
theorem E83 (k n : Nat) (a0 : List Int) (a1 : Int) (v1 : Bool) (v2 : Int) (xs3 : List Int) : Az0 k (n + 1) a0 a1 v1 v2 xs3 = B44 k (Az0 k n) a0 a1 v1 v2 xs3 := by kernel_rfl
theorem Dq1 (k : Nat) : ∀ n : Nat, Az0 k n = U8 k n
 | 0 => (by funext a0 a1 v1 v2 xs3; rfl)
 | n + 1 => by
  obtain h0 := Dq1 k n
  exact (by funext a0 a1 v1 v2 xs3; rw [E83, h0] <;> rfl)
theorem Fv8 (k : Nat) (a0 : List Int) (a1 : Int) : C4 (Bc9 k) Bx7 k 202 [B3 (.slice 3 (.int .i64)) a0, B3 (.int .i64) a1] ms0 = Dk2 k (Az0 k k) a0 a1 := by kernel_rfl
theorem Fv9 (k : Nat) (a0 : List Int) (a1 : Int) : C4 (Bc9 k) Bx7 k 202 [B3 (.slice 3 (.int .i64)) a0, B3 (.int .i64) a1] ms0 = Bo2 k a0 a1 := by rw [Fv8, show Az0 k k = U8 k k from (Dq1 k k)] <;> rfl
noncomputable def B87 (k : Nat) : Spec := .imm (.slice 3 (.int .i64)) fun (a0 : List Int) => .imm (.int .i64) fun (a1 : Int) => .body (Bo2 k a0 a1) (D7 [(.slice 3 (.int .i64))] [.o])
noncomputable def o9 (k : Nat) : Cfg := { eqs := [], tab := [(3, (.int .i64)), (49, (.slice 3 (.int .i64))), (162, A4)], spec := [(201, Bc8 k), (204, V7 k)], mspec := [], inl := [(233, Tryz.f233)], keep := [(23300001003, [0, 5, 6]), (23300001007, [0, 5, 6, 7, 9])], join := [], hold := [(23300001003, [(6, [0], 3, (.int .i64), false, true)]), (23300001007, [(6, [0], 3, (.int .i64), false, true)])], ptrs := [], maps := [], fuel := k }
noncomputable def Ah0 : VV → Ms → Option (List Int) := F7 [(.slice 3 (.int .i64))] [.o]
noncomputable def Aa3 (k n : Nat) (a0 : List A0) (u1 : Nat) (xs2 : List Int) (xs3 : List Int) : Option (List Int) := Q0 (o9 k) Ah0 n true 23300001003 (cd [1, 1, 1, 0, 0, 0] (bo Tryz.f233)) [.b 0, .s (cd [1, 1, 1, 1] (bo Tryz.f233)), .fn Tryz.f233] ⟨⟨(G4 73 0 [(0, one (.slc 162 A4 a0)), (5, one (.row 9000000 none none)), (6, one (.row 9000001 (some u1) none))]), [(9000000, .row 3 (.int .i64) xs2 true), (9000001, .row 3 (.int .i64) xs3 true)]⟩, 23300001000, 1, [(0, (G4 0 0 []))]⟩
noncomputable def Ao1 (k n : Nat) (a0 : List A0) (u4 : Nat) (v5 : Int) (xs6 : List Int) (xs7 : List Int) (r1 : A0 × Bool) : Option (List Int) := Q0 (o9 k) Ah0 n true 23300001007 (cd [1, 1, 1, 0, 0, 0, 1, 0, 1, 1, 1, 0, 0] (bo Tryz.f233)) [.b 2, .b 1, .l 23300001003 (cd [1, 1, 1, 0, 0, 0] (bo Tryz.f233)), .b 0, .s (cd [1, 1, 1, 1] (bo Tryz.f233)), .fn Tryz.f233] ⟨⟨(G4 73 0 [(0, one (.slc 162 A4 a0)), (5, one (.row 9000000 none none)), (6, one (.row 9000001 (some u4) none)), (7, one (.ptr 9000002 0)), (9, one (.int .i64 v5))]), [(9000000, .row 3 (.int .i64) xs6 true), (9000001, .row 3 (.int .i64) xs7 true), (9000002, .box [.int .i64 r1.1.1, .int .i64 r1.1.2.1, .int .i64 r1.1.2.2.1, .int .i64 r1.1.2.2.2.1, .int .i64 r1.1.2.2.2.2.1, .slc 3 (.int .i64) r1.1.2.2.2.2.2.1, .str r1.1.2.2.2.2.2.2.1, .slc 3 (.int .i64) r1.1.2.2.2.2.2.2.2.1, .int .i64 r1.1.2.2.2.2.2.2.2.2.1])]⟩, 23300001000, 1, [(0, (G4 0 0 []))]⟩
theorem Dq2 (k n : Nat) (a0 : List A0) (u1 : Nat) (xs2 : List Int) (xs3 : List Int) : Aa3 k (n + 1) a0 u1 xs2 xs3 = Al2 k (Ao1 k n) a0 u1 xs2 xs3 := by kernel_rfl
theorem Dq3 (k n : Nat) (a0 : List A0) (u4 : Nat) (v5 : Int) (xs6 : List Int) (xs7 : List Int) (r1 : A0 × Bool) : Ao1 k (n + 1) a0 u4 v5 xs6 xs7 r1 = Al3 k (Ao1 k n) (Aa3 k n) a0 u4 v5 xs6 xs7 r1 := by kernel_rfl
theorem Ci7 (k : Nat) : ∀ n : Nat, Aa3 k n = S9 k n ∧ Ao1 k n = T0 k n
 | 0 => ⟨(by funext a0 u1 xs2 xs3; rfl), (by funext a0 u4 v5 xs6 xs7 r1; rfl)⟩
 | n + 1 => by
  obtain ⟨h0, h1⟩ := Ci7 k n
  exact ⟨(by funext a0 u1 xs2 xs3; rw [Dq2, h1] <;> rfl), (by funext a0 u4 v5 xs6 xs7 r1; rw [Dq3, h1, h0] <;> rfl)⟩
theorem Dz3 (k : Nat) (a0 : List A0) (a1 : Int) : C4 (o9 k) Ah0 k 233 [B3 (.slice 162 A4) a0, B3 (.int .i64) a1] ms0 = Cg4 k (Aa3 k k) a0 a1 := by kernel_rfl
theorem Dz4 (k : Nat) (a0 : List A0) (a1 : Int) : C4 (o9 k) Ah0 k 233 [B3 (.slice 162 A4) a0, B3 (.int .i64) a1] ms0 = Aw9 k a0 a1 := by rw [Dz3, show Aa3 k k = S9 k k from (Ci7 k k).1] <;> rfl
noncomputable def B88 (k : Nat) : Spec := .imm (.slice 162 A4) fun (a0 : List A0) => .imm (.int .i64) fun (a1 : Int) => .body (Aw9 k a0 a1) (D7 [(.slice 3 (.int .i64))] [.o])
noncomputable def Ao2 (k : Nat) : Cfg := { eqs := [], tab := [(3, (.int .i64)), (49, (.slice 3 (.int .i64)))], spec := [(201, Bc8 k)], mspec := [], inl := [(234, Tryz.f234)], keep := [(23400001002, [0, 1, 2, 7])], join := [], hold := [], ptrs := [], maps := [], fuel := k }
noncomputable def Bd0 : VV → Ms → Option Bool := F7 [.bool] []
noncomputable def Af3 (k n : Nat) (a0 : List Int) (a1 : List Int) (a2 : List Int) (v1 : Int) : Option Bool := Q0 (Ao2 k) Bd0 n true 23400001002 (cd [1, 0, 1, 0, 0] (bo Tryz.f234)) [.b 0, .s (cd [1, 1] (bo Tryz.f234)), .fn Tryz.f234] ⟨⟨(G4 29 0 [(0, one (.slc 3 (.int .i64) a0)), (1, one (.slc 3 (.int .i64) a1)), (2, one (.slc 3 (.int .i64) a2)), (7, one (.int .i64 v1))]), []⟩, 23400001000, 1, [(0, (G4 0 0 []))]⟩
theorem Dz5 (k n : Nat) (a0 : List Int) (a1 : List Int) (a2 : List Int) (v1 : Int) : Af3 k (n + 1) a0 a1 a2 v1 = Bj0 k (Af3 k n) a0 a1 a2 v1 := by kernel_rfl
theorem Cv3 (k : Nat) : ∀ n : Nat, Af3 k n = S0 k n
 | 0 => (by funext a0 a1 a2 v1; rfl)
 | n + 1 => by
  obtain h0 := Cv3 k n
  exact (by funext a0 a1 a2 v1; rw [Dz5, h0] <;> rfl)
theorem Ek3 (k : Nat) (a0 : List Int) (a1 : List Int) (a2 : List Int) : C4 (Ao2 k) Bd0 k 234 [B3 (.slice 3 (.int .i64)) a0, B3 (.slice 3 (.int .i64)) a1, B3 (.slice 3 (.int .i64)) a2] ms0 = Cq8 k (Af3 k k) a0 a1 a2 := by kernel_rfl
theorem Ek4 (k : Nat) (a0 : List Int) (a1 : List Int) (a2 : List Int) : C4 (Ao2 k) Bd0 k 234 [B3 (.slice 3 (.int .i64)) a0, B3 (.slice 3 (.int .i64)) a1, B3 (.slice 3 (.int .i64)) a2] ms0 = As5 k a0 a1 a2 := by rw [Ek3, show Af3 k k = S0 k k from (Cv3 k k)] <;> rfl
noncomputable def Ci8 (k : Nat) : Spec := .imm (.slice 3 (.int .i64)) fun (a0 : List Int) => .imm (.slice 3 (.int .i64)) fun (a1 : List Int) => .imm (.slice 3 (.int .i64)) fun (a2 : List Int) => .body (As5 k a0 a1 a2) (D7 [.bool] [])
noncomputable def Bx8 (k : Nat) : Cfg := { eqs := [], tab := [(3, (.int .i64)), (162, A4)], spec := [], mspec := [], inl := [(237, Tryz.f237)], keep := [], join := [], hold := [], ptrs := [], maps := [], fuel := k }
noncomputable def Dq4 : VV → Ms → Option Bool := F7 [.bool] []
theorem Ek5 (k : Nat) (a0 : A0) : C4 (Bx8 k) Dq4 k 237 [B3 A4 a0] ms0 = u0 k a0 := by kernel_rfl
noncomputable def Ci9 (k : Nat) : Spec := .imm A4 fun (a0 : A0) => .body (u0 k a0) (D7 [.bool] [])
noncomputable def B89 (k : Nat) : Cfg := { eqs := [], tab := [(3, (.int .i64)), (4, .bool), (162, A4)], spec := [(209, An5 k), (237, Ci9 k)], mspec := [], inl := [(235, Tryz.f235)], keep := [], join := [], hold := [], ptrs := [], maps := [], fuel := k }
noncomputable def Dz6 : VV → Ms → Option Bool := F7 [.bool] []
theorem E84 (k : Nat) (a0 : List A0) (a1 : List A1) (a2 : A0) (a3 : A0) : C4 (B89 k) Dz6 k 235 [B3 (.slice 162 A4) a0, B3 (.slice 260 B2) a1, B3 A4 a2, B3 A4 a3] ms0 = Bo3 k a0 a1 a2 a3 := by kernel_rfl
noncomputable def Cv4 (k : Nat) : Spec := .imm (.slice 162 A4) fun (a0 : List A0) => .imm (.slice 260 B2) fun (a1 : List A1) => .imm A4 fun (a2 : A0) => .imm A4 fun (a3 : A0) => .body (Bo3 k a0 a1 a2 a3) (D7 [.bool] [])
noncomputable def Ad4 (k : Nat) : Cfg := { eqs := [], tab := [(3, (.int .i64)), (49, (.slice 3 (.int .i64))), (162, A4), (275, (.slice 49 (.slice 3 (.int .i64))))], spec := [(201, Bc8 k), (202, B87 k), (204, V7 k), (233, B88 k), (234, Ci8 k), (235, Cv4 k)], mspec := [], inl := [(224, Tryz.f224)], keep := [(22400001003, [0, 1, 2, 7, 8]), (22400001010, [0, 1, 7, 11, 12]), (22400001014, [0, 1, 7, 11, 13]), (22400001018, [0, 1, 7, 11, 13, 14, 15, 16])], join := [], hold := [], ptrs := [], maps := [], fuel := k }
noncomputable def Aa4 : VV → Ms → Option (List Int) := F7 [(.slice 3 (.int .i64))] [.o]
noncomputable def Bx9 (k n : Nat) (a0 : List A0) (a1 : List A1) (xs2 : List Int) (xs4 : List (List Int)) (xs5 : List Int) : Option (List Int) := Q0 (Ad4 k) Aa4 n true 22400001014 (cd [1, 1, 1, 1, 1, 1, 0, 0, 0] (bo Tryz.f224)) [.b 4, .s (cd [1, 1, 1, 1, 1, 1, 1] (bo Tryz.f224)), .fn Tryz.f224] ⟨⟨(G4 115 0 [(0, one (.slc 162 A4 a0)), (1, one (.slc 260 B2 a1)), (7, one (.row 9000000 none none)), (11, one (.row 9000001 none none)), (13, one (.row 9000002 none none))]), [(9000000, .row 3 (.int .i64) xs2 true), (9000001, .row 49 (.slice 3 (.int .i64)) xs4 true), (9000002, .row 3 (.int .i64) xs5 true)]⟩, 22400001000, 1, [(0, (G4 0 0 []))]⟩
noncomputable def By0 (k n : Nat) (a0 : List A0) (a1 : List A1) (v6 : Int) (xs2 : List Int) (xs4 : List (List Int)) (xs5 : List Int) : Option (List Int) := Q0 (Ad4 k) Aa4 n true 22400001018 (cd [1, 1, 1, 1, 1, 1, 0, 0, 0, 1, 0, 1, 1, 0, 1, 0, 0] (bo Tryz.f224)) [.b 6, .s (cd [1, 1, 1, 1, 1, 1, 0, 0, 0, 1, 0, 1, 1, 1] (bo Tryz.f224)), .b 5, .l 22400001014 (cd [1, 1, 1, 1, 1, 1, 0, 0, 0] (bo Tryz.f224)), .b 4, .s (cd [1, 1, 1, 1, 1, 1, 1] (bo Tryz.f224)), .fn Tryz.f224] ⟨⟨(G4 115 0 [(0, one (.slc 162 A4 a0)), (1, one (.slc 260 B2 a1)), (7, one (.row 9000000 none none)), (11, one (.row 9000001 none none)), (13, one (.row 9000002 none none)), (14, one (.ptr 9000003 0)), (15, one (.bool false)), (16, one (.int .i64 v6))]), [(9000000, .row 3 (.int .i64) xs2 true), (9000001, .row 49 (.slice 3 (.int .i64)) xs4 true), (9000002, .row 3 (.int .i64) xs5 true), (9000003, .box [.int .i64 0, .int .i64 0, .int .i64 0, .int .i64 0, .int .i64 0, .nilS, .str ByteArray.empty, .nilS, .int .i64 0])]⟩, 22400001000, 1, [(0, (G4 0 0 []))]⟩
noncomputable def By1 (k n : Nat) (a0 : List A0) (a1 : List A1) (v7 : Int) (xs2 : List Int) (xs4 : List (List Int)) (xs5 : List Int) (v8 : Int) (v9 : Int) (v10 : Int) (v11 : Int) (v12 : Int) (v13 : List Int) (v14 : ByteArray) (v15 : List Int) (v16 : Int) : Option (List Int) := Q0 (Ad4 k) Aa4 n true 22400001018 (cd [1, 1, 1, 1, 1, 1, 0, 0, 0, 1, 0, 1, 1, 0, 1, 0, 0] (bo Tryz.f224)) [.b 6, .s (cd [1, 1, 1, 1, 1, 1, 0, 0, 0, 1, 0, 1, 1, 1] (bo Tryz.f224)), .b 5, .l 22400001014 (cd [1, 1, 1, 1, 1, 1, 0, 0, 0] (bo Tryz.f224)), .b 4, .s (cd [1, 1, 1, 1, 1, 1, 1] (bo Tryz.f224)), .fn Tryz.f224] ⟨⟨(G4 115 0 [(0, one (.slc 162 A4 a0)), (1, one (.slc 260 B2 a1)), (7, one (.row 9000000 none none)), (11, one (.row 9000001 none none)), (13, one (.row 9000002 none none)), (14, one (.ptr 9000003 0)), (15, one (.bool true)), (16, one (.int .i64 v7))]), [(9000000, .row 3 (.int .i64) xs2 true), (9000001, .row 49 (.slice 3 (.int .i64)) xs4 true), (9000002, .row 3 (.int .i64) xs5 true), (9000003, .box [.int .i64 v8, .int .i64 v9, .int .i64 v10, .int .i64 v11, .int .i64 v12, .slc 3 (.int .i64) v13, .str v14, .slc 3 (.int .i64) v15, .int .i64 v16])]⟩, 22400001000, 1, [(0, (G4 0 0 []))]⟩
noncomputable def By2 (k n : Nat) (a0 : List A0) (a1 : List A1) (v3 : Int) (xs2 : List Int) (xs4 : List (List Int)) : Option (List Int) := Q0 (Ad4 k) Aa4 n true 22400001010 (cd [1, 1, 1, 1, 0, 1, 0, 0] (bo Tryz.f224)) [.b 2, .s (cd [1, 1, 1, 1, 1] (bo Tryz.f224)), .fn Tryz.f224] ⟨⟨(G4 115 0 [(0, one (.slc 162 A4 a0)), (1, one (.slc 260 B2 a1)), (7, one (.row 9000000 none none)), (11, one (.row 9000001 none none)), (12, one (.int .i64 v3))]), [(9000000, .row 3 (.int .i64) xs2 true), (9000001, .row 49 (.slice 3 (.int .i64)) xs4 true)]⟩, 22400001000, 1, [(0, (G4 0 0 []))]⟩
noncomputable def Bd1 (k n : Nat) (a0 : List A0) (a1 : List A1) (a2 : List Int) (v1 : Int) (xs2 : List Int) : Option (List Int) := Q0 (Ad4 k) Aa4 n true 22400001003 (cd [1, 1, 0, 1, 0, 0] (bo Tryz.f224)) [.b 0, .s (cd [1, 1, 1] (bo Tryz.f224)), .fn Tryz.f224] ⟨⟨(G4 115 0 [(0, one (.slc 162 A4 a0)), (1, one (.slc 260 B2 a1)), (2, one (.slc 3 (.int .i64) a2)), (7, one (.row 9000000 none none)), (8, one (.int .i64 v1))]), [(9000000, .row 3 (.int .i64) xs2 true)]⟩, 22400001000, 1, [(0, (G4 0 0 []))]⟩
theorem Fw0 (k n : Nat) (a0 : List A0) (a1 : List A1) (xs2 : List Int) (xs4 : List (List Int)) (xs5 : List Int) : Bx9 k (n + 1) a0 a1 xs2 xs4 xs5 = Bt3 k (By0 k n) a0 a1 xs2 xs4 xs5 := by kernel_rfl
theorem Fw1 (k n : Nat) (a0 : List A0) (a1 : List A1) (v6 : Int) (xs2 : List Int) (xs4 : List (List Int)) (xs5 : List Int) : By0 k (n + 1) a0 a1 v6 xs2 xs4 xs5 = Bt4 k (By0 k n) (By1 k n) a0 a1 v6 xs2 xs4 xs5 := by kernel_rfl
theorem Fw2 (k n : Nat) (a0 : List A0) (a1 : List A1) (v7 : Int) (xs2 : List Int) (xs4 : List (List Int)) (xs5 : List Int) (v8 : Int) (v9 : Int) (v10 : Int) (v11 : Int) (v12 : Int) (v13 : List Int) (v14 : ByteArray) (v15 : List Int) (v16 : Int) : By1 k (n + 1) a0 a1 v7 xs2 xs4 xs5 v8 v9 v10 v11 v12 v13 v14 v15 v16 = Bt5 k (By1 k n) (Bx9 k n) a0 a1 v7 xs2 xs4 xs5 v8 v9 v10 v11 v12 v13 v14 v15 v16 := by kernel_rfl
theorem Fw3 (k n : Nat) (a0 : List A0) (a1 : List A1) (v3 : Int) (xs2 : List Int) (xs4 : List (List Int)) : By2 k (n + 1) a0 a1 v3 xs2 xs4 = Cl7 k (By2 k n) (Bx9 k n) a0 a1 v3 xs2 xs4 := by kernel_rfl
theorem Fw4 (k n : Nat) (a0 : List A0) (a1 : List A1) (a2 : List Int) (v1 : Int) (xs2 : List Int) : Bd1 k (n + 1) a0 a1 a2 v1 xs2 = Cl8 k (Bd1 k n) (By2 k n) a0 a1 a2 v1 xs2 := by kernel_rfl
theorem Eb9 (k : Nat) : ∀ n : Nat, Bx9 k n = As6 k n ∧ By0 k n = As7 k n ∧ By1 k n = As8 k n ∧ By2 k n = As9 k n ∧ Bd1 k n = Ah7 k n
 | 0 => ⟨(by funext a0 a1 xs2 xs4 xs5; rfl), (by funext a0 a1 v6 xs2 xs4 xs5; rfl), (by funext a0 a1 v7 xs2 xs4 xs5 v8 v9 v10 v11 v12 v13 v14 v15 v16; rfl), (by funext a0 a1 v3 xs2 xs4; rfl), (by funext a0 a1 a2 v1 xs2; rfl)⟩
 | n + 1 => by
  obtain ⟨h2, h3, h4, h1, h0⟩ := Eb9 k n
  exact ⟨(by funext a0 a1 xs2 xs4 xs5; rw [Fw0, h3] <;> rfl), (by funext a0 a1 v6 xs2 xs4 xs5; rw [Fw1, h3, h4] <;> rfl), (by funext a0 a1 v7 xs2 xs4 xs5 v8 v9 v10 v11 v12 v13 v14 v15 v16; rw [Fw2, h4, h2] <;> rfl), (by funext a0 a1 v3 xs2 xs4; rw [Fw3, h1, h2] <;> rfl), (by funext a0 a1 a2 v1 xs2; rw [Fw4, h0, h1] <;> rfl)⟩
theorem Gl9 (k : Nat) (a0 : List A0) (a1 : List A1) (a2 : List Int) : C4 (Ad4 k) Aa4 k 224 [B3 (.slice 162 A4) a0, B3 (.slice 260 B2) a1, B3 (.slice 3 (.int .i64)) a2] ms0 = D93 k (Bd1 k k) a0 a1 a2 := by kernel_rfl
theorem Gm0 (k : Nat) (a0 : List A0) (a1 : List A1) (a2 : List Int) : C4 (Ad4 k) Aa4 k 224 [B3 (.slice 162 A4) a0, B3 (.slice 260 B2) a1, B3 (.slice 3 (.int .i64)) a2] ms0 = Cq9 k a0 a1 a2 := by rw [Gl9, show Bd1 k k = Ah7 k k from (Eb9 k k).2.2.2.2] <;> rfl
noncomputable def Dq5 (k : Nat) : Spec := .imm (.slice 162 A4) fun (a0 : List A0) => .imm (.slice 260 B2) fun (a1 : List A1) => .imm (.slice 3 (.int .i64)) fun (a2 : List Int) => .body (Cq9 k a0 a1 a2) (D7 [(.slice 3 (.int .i64))] [.o])
noncomputable def Aa5 (k : Nat) : Cfg := { eqs := [], tab := [(3, (.int .i64)), (49, (.slice 3 (.int .i64))), (108, (.slice 215 (.slice 260 B2))), (162, A4), (215, (.slice 260 B2))], spec := [(179, A53 k), (191, Cm6 k), (192, Dp8 k), (204, V7 k), (205, Bh4 k), (222, C93 k), (223, Dq0 k), (224, Dq5 k)], mspec := [], inl := [(203, Tryz.f203)], keep := [(20300001009, [0, 1, 5, 6, 7, 8]), (20300001012, [0, 1, 5, 6, 7, 8, 9]), (20300001019, [0, 5, 11, 12])], join := [], hold := [], ptrs := [], maps := [], fuel := k }
noncomputable def Af4 : VV → Ms → Option (List A1) := F7 [(.slice 260 B2)] [.o]
noncomputable def A56 (k n : Nat) (a0 : List A0) (v5 : Int) (r1 : List A1) (r5 : List Int) : Option (List A1) := Q0 (Aa5 k) Af4 n true 20300001019 (cd [1, 1, 1, 1, 1, 1, 1, 1, 0, 1, 0, 0] (bo Tryz.f203)) [.b 4, .s (cd [1, 1, 1, 1, 1, 1, 1, 1, 1] (bo Tryz.f203)), .fn Tryz.f203] ⟨⟨(G4 95 0 [(0, one (.slc 162 A4 a0)), (5, one (.row 9000000 none none)), (11, one (.row 9000001 none none)), (12, one (.int .i64 v5))]), [(9000000, .row 260 B2 r1 true), (9000001, .row 3 (.int .i64) r5 true)]⟩, 20300001000, 1, [(0, (G4 0 0 []))]⟩
noncomputable def Ao3 (k n : Nat) (a0 : List A0) (a1 : List (List A1)) (v1 : Int) (r1 : List A1) (r2 : List Int) (xs2 : List Int) : Option (List A1) := Q0 (Aa5 k) Af4 n true 20300001009 (cd [1, 1, 1, 1, 1, 1, 0, 1, 0, 0] (bo Tryz.f203)) [.b 0, .s (cd [1, 1, 1, 1, 1, 1, 1] (bo Tryz.f203)), .fn Tryz.f203] ⟨⟨(G4 95 0 [(0, one (.slc 162 A4 a0)), (1, one (.slc 215 (.slice 260 B2) a1)), (5, one (.row 9000000 none none)), (6, one (.row 9000001 none none)), (7, one (.row 9000002 none none)), (8, one (.int .i64 v1))]), [(9000000, .row 260 B2 r1 true), (9000001, .row 3 (.int .i64) r2 true), (9000002, .row 3 (.int .i64) xs2 true)]⟩, 20300001000, 1, [(0, (G4 0 0 []))]⟩
noncomputable def A57 (k n : Nat) (a0 : List A0) (a1 : List (List A1)) (v1 : Int) (v3 : Int) (r1 : List A1) (r2 : List Int) (xs4 : List Int) : Option (List A1) := Q0 (Aa5 k) Af4 n true 20300001012 (cd [1, 1, 1, 1, 1, 1, 0, 1, 0, 0, 1, 0, 0, 1, 0, 0] (bo Tryz.f203)) [.b 2, .b 1, .s (cd [1, 1, 1, 1, 1, 1, 0, 1, 0, 0, 1, 1] (bo Tryz.f203)), .l 20300001009 (cd [1, 1, 1, 1, 1, 1, 0, 1, 0, 0] (bo Tryz.f203)), .b 0, .s (cd [1, 1, 1, 1, 1, 1, 1] (bo Tryz.f203)), .fn Tryz.f203] ⟨⟨(G4 95 0 [(0, one (.slc 162 A4 a0)), (1, one (.slc 215 (.slice 260 B2) a1)), (5, one (.row 9000000 none none)), (6, one (.row 9000001 none none)), (7, one (.row 9000002 none none)), (8, one (.int .i64 v1)), (9, one (.int .i64 v3))]), [(9000000, .row 260 B2 r1 true), (9000001, .row 3 (.int .i64) r2 true), (9000002, .row 3 (.int .i64) xs4 true)]⟩, 20300001000, 1, [(0, (G4 0 0 []))]⟩
theorem Ek6 (k n : Nat) (a0 : List A0) (v5 : Int) (r1 : List A1) (r5 : List Int) : A56 k (n + 1) a0 v5 r1 r5 = Bt6 k (A56 k n) a0 v5 r1 r5 := by kernel_rfl
theorem Ek7 (k n : Nat) (a0 : List A0) (a1 : List (List A1)) (v1 : Int) (r1 : List A1) (r2 : List Int) (xs2 : List Int) : Ao3 k (n + 1) a0 a1 v1 r1 r2 xs2 = A38 k (A57 k n) (A56 k n) a0 a1 v1 r1 r2 xs2 := by kernel_rfl
theorem Ek8 (k n : Nat) (a0 : List A0) (a1 : List (List A1)) (v1 : Int) (v3 : Int) (r1 : List A1) (r2 : List Int) (xs4 : List Int) : A57 k (n + 1) a0 a1 v1 v3 r1 r2 xs4 = A39 k (A57 k n) (Ao3 k n) a0 a1 v1 v3 r1 r2 xs4 := by kernel_rfl
theorem C94 (k : Nat) : ∀ n : Nat, A56 k n = g9 k n ∧ Ao3 k n = i6 k n ∧ A57 k n = Al5 k n
 | 0 => ⟨(by funext a0 v5 r1 r5; rfl), (by funext a0 a1 v1 r1 r2 xs2; rfl), (by funext a0 a1 v1 v3 r1 r2 xs4; rfl)⟩
 | n + 1 => by
  obtain ⟨h2, h0, h1⟩ := C94 k n
  exact ⟨(by funext a0 v5 r1 r5; rw [Ek6, h2] <;> rfl), (by funext a0 a1 v1 r1 r2 xs2; rw [Ek7, h1, h2] <;> rfl), (by funext a0 a1 v1 v3 r1 r2 xs4; rw [Ek8, h1, h0] <;> rfl)⟩
theorem E85 (k : Nat) (a0 : List A0) (a1 : List (List A1)) : C4 (Aa5 k) Af4 k 203 [B3 (.slice 162 A4) a0, B3 (.slice 215 (.slice 260 B2)) a1] ms0 = C52 k (Ao3 k k) a0 a1 := by kernel_rfl
theorem E86 (k : Nat) (a0 : List A0) (a1 : List (List A1)) : C4 (Aa5 k) Af4 k 203 [B3 (.slice 162 A4) a0, B3 (.slice 215 (.slice 260 B2)) a1] ms0 = Bo4 k a0 a1 := by rw [E85, show Ao3 k k = i6 k k from (C94 k k).2.1] <;> rfl
noncomputable def Cv5 (k : Nat) : Spec := .imm (.slice 162 A4) fun (a0 : List A0) => .imm (.slice 215 (.slice 260 B2)) fun (a1 : List (List A1)) => .body (Bo4 k a0 a1) (D7 [(.slice 260 B2)] [.o])
noncomputable def Af5 (k : Nat) : Cfg := { eqs := [], tab := [(3, (.int .i64)), (49, (.slice 3 (.int .i64))), (107, (.slice 162 A4)), (108, (.slice 215 (.slice 260 B2))), (111, D6), (215, (.slice 260 B2))], spec := [(190, Bh3 k), (203, Cv5 k)], mspec := [], inl := [(178, Tryz.f178)], keep := [(17800001003, [1, 2, 6, 7])], join := [], hold := [], ptrs := [], maps := [], fuel := k }
noncomputable def A20 : VV → Ms → Option (List A1 × Bool) := F7 [(.slice 260 B2), .bool] [.o]
noncomputable def Aa6 (k n : Nat) (a1 : List Int) (v1 : Int) (a0 : A6) (xs2 : List (List A1)) : Option (List A1 × Bool) := Q0 (Af5 k) A20 n true 17800001003 (cd [1, 1, 0, 1, 0, 0] (bo Tryz.f178)) [.b 0, .s (cd [1, 1, 1] (bo Tryz.f178)), .fn Tryz.f178] ⟨⟨(G4 44 0 [(1, one (.slc 3 (.int .i64) a1)), (2, one (.ptr 9000000 0)), (6, one (.row 9000001 none none)), (7, one (.int .i64 v1))]), [(9000000, .box [.slc 162 A4 a0.1, .slc 215 (.slice 260 B2) a0.2.1, .slc 4 .bool a0.2.2.1]), (9000001, .row 215 (.slice 260 B2) xs2 true)]⟩, 17800001000, 1, [(0, (G4 0 0 []))]⟩
theorem Dq6 (k n : Nat) (a1 : List Int) (v1 : Int) (a0 : A6) (xs2 : List (List A1)) : Aa6 k (n + 1) a1 v1 a0 xs2 = A94 k (Aa6 k n) a1 v1 a0 xs2 := by kernel_rfl
theorem Cj0 (k : Nat) : ∀ n : Nat, Aa6 k n = T1 k n
 | 0 => (by funext a1 v1 a0 xs2; rfl)
 | n + 1 => by
  obtain h0 := Cj0 k n
  exact (by funext a1 v1 a0 xs2; rw [Dq6, h0] <;> rfl)
theorem Dz7 (k : Nat) (a0 : A6) (a1 : List Int) : C4 (Af5 k) A20 k 178 [B3 D6 a0, B3 (.slice 3 (.int .i64)) a1] ms0 = Cg5 k (Aa6 k k) a0 a1 := by kernel_rfl
theorem Dz8 (k : Nat) (a0 : A6) (a1 : List Int) : C4 (Af5 k) A20 k 178 [B3 D6 a0, B3 (.slice 3 (.int .i64)) a1] ms0 = M6 k a0 a1 := by rw [Dz7, show Aa6 k k = T1 k k from (Cj0 k k)] <;> rfl
noncomputable def Ao4 (k : Nat) : Spec := .imm D6 fun (a0 : A6) => .imm (.slice 3 (.int .i64)) fun (a1 : List Int) => .body (M6 k a0 a1) (D7 [(.slice 260 B2), .bool] [.o])
noncomputable def Cm8 (k : Nat) : Cfg := { eqs := [], tab := [(3, (.int .i64)), (49, (.slice 3 (.int .i64))), (107, (.slice 162 A4)), (108, (.slice 215 (.slice 260 B2))), (109, (.slice 4 .bool)), (111, D6), (162, A4)], spec := [(152, Ad3 k), (177, A52 k), (178, Ao4 k), (179, A53 k), (190, Bh3 k), (191, Cm6 k), (192, Dp8 k)], mspec := [], inl := [(168, Tryz.f168)], keep := [], join := [], hold := [], ptrs := [], maps := [], fuel := k }
noncomputable def Ek9 : VV → Ms → Option (A6 × Bool) := F7 [D6, .bool] [.o, .o, .o]
theorem Fw5 (k : Nat) (a0 : A6) (a1 : A0) : C4 (Cm8 k) Ek9 k 168 [B3 D6 a0, B3 A4 a1] ms0 = A95 k a0 a1 := by kernel_rfl
noncomputable def B90 (k : Nat) : Spec := .imm D6 fun (a0 : A6) => .imm A4 fun (a1 : A0) => .body (A95 k a0 a1) (D7 [D6, .bool] [.o, .o, .o])
noncomputable def l9 (k : Nat) : Cfg := { eqs := [], tab := [(3, (.int .i64)), (49, (.slice 3 (.int .i64)))], spec := [], mspec := [], inl := [(151, Tryz.f151)], keep := [(15100001004, [0, 1, 5])], join := [], hold := [], ptrs := [], maps := [], fuel := k }
noncomputable def Ao5 : VV → Ms → Option Bool := F7 [.bool] []
noncomputable def Z7 (k n : Nat) (a0 : List Int) (a1 : List Int) (v1 : Int) : Option Bool := Q0 (l9 k) Ao5 n true 15100001004 (cd [1, 1, 0, 1, 0, 0] (bo Tryz.f151)) [.b 0, .s (cd [1, 1, 1] (bo Tryz.f151)), .fn Tryz.f151] ⟨⟨(G4 26 0 [(0, one (.slc 3 (.int .i64) a0)), (1, one (.slc 3 (.int .i64) a1)), (5, one (.int .i64 v1))]), []⟩, 15100001000, 1, [(0, (G4 0 0 []))]⟩
theorem C17 (k n : Nat) (a0 : List Int) (a1 : List Int) (v1 : Int) : Z7 k (n + 1) a0 a1 v1 = S4 k (Z7 k n) a0 a1 v1 := by kernel_rfl
theorem B15 (k : Nat) : ∀ n : Nat, Z7 k n = H6 k n
 | 0 => (by funext a0 a1 v1; rfl)
 | n + 1 => by
  obtain h0 := B15 k n
  exact (by funext a0 a1 v1; rw [C17, h0] <;> rfl)
theorem Dc7 (k : Nat) (a0 : List Int) (a1 : List Int) : C4 (l9 k) Ao5 k 151 [B3 (.slice 3 (.int .i64)) a0, B3 (.slice 3 (.int .i64)) a1] ms0 = Ag8 k (Z7 k k) a0 a1 := by kernel_rfl
theorem Dc8 (k : Nat) (a0 : List Int) (a1 : List Int) : C4 (l9 k) Ao5 k 151 [B3 (.slice 3 (.int .i64)) a0, B3 (.slice 3 (.int .i64)) a1] ms0 = M0 k a0 a1 := by rw [Dc7, show Z7 k k = H6 k k from (B15 k k)] <;> rfl
noncomputable def Au4 (k : Nat) : Spec := .imm (.slice 3 (.int .i64)) fun (a0 : List Int) => .imm (.slice 3 (.int .i64)) fun (a1 : List Int) => .body (M0 k a0 a1) (D7 [.bool] [])
noncomputable def B91 (k : Nat) : Cfg := { eqs := [], tab := [(3, (.int .i64)), (9, .str), (49, (.slice 3 (.int .i64))), (162, A4)], spec := [(151, Au4 k)], mspec := [], inl := [(193, Tryz.f193)], keep := [], join := [], hold := [], ptrs := [], maps := [], fuel := k }
noncomputable def Dz9 : VV → Ms → Option Bool := F7 [.bool] []
theorem E87 (k : Nat) (a0 : A0) (a1 : A0) : C4 (B91 k) Dz9 k 193 [B3 A4 a0, B3 A4 a1] ms0 = Ai9 k a0 a1 := by kernel_rfl
noncomputable def By3 (k : Nat) : Spec := .imm A4 fun (a0 : A0) => .imm A4 fun (a1 : A0) => .body (Ai9 k a0 a1) (D7 [.bool] [])
noncomputable def Z8 (k : Nat) : Cfg := { eqs := [260], tab := [(215, (.slice 260 B2)), (260, B2)], spec := [], mspec := [], inl := [(194, Tryz.f194)], keep := [(19400001004, [0, 1, 5])], join := [], hold := [], ptrs := [], maps := [], fuel := k }
noncomputable def Ai1 : VV → Ms → Option Bool := F7 [.bool] []
noncomputable def V8 (k n : Nat) (a0 : List A1) (a1 : List A1) (v1 : Int) : Option Bool := Q0 (Z8 k) Ai1 n true 19400001004 (cd [1, 1, 0, 1, 0, 0] (bo Tryz.f194)) [.b 0, .s (cd [1, 1, 1] (bo Tryz.f194)), .fn Tryz.f194] ⟨⟨(G4 26 0 [(0, one (.slc 260 B2 a0)), (1, one (.slc 260 B2 a1)), (5, one (.int .i64 v1))]), []⟩, 19400001000, 1, [(0, (G4 0 0 []))]⟩
theorem Cv6 (k n : Nat) (a0 : List A1) (a1 : List A1) (v1 : Int) : V8 k (n + 1) a0 a1 v1 = p9 k (V8 k n) a0 a1 v1 := by kernel_rfl
theorem Bq4 (k : Nat) : ∀ n : Nat, V8 k n = K9 k n
 | 0 => (by funext a0 a1 v1; rfl)
 | n + 1 => by
  obtain h0 := Bq4 k n
  exact (by funext a0 a1 v1; rw [Cv6, h0] <;> rfl)
theorem C18 (k : Nat) (a0 : List A1) (a1 : List A1) : C4 (Z8 k) Ai1 k 194 [B3 (.slice 260 B2) a0, B3 (.slice 260 B2) a1] ms0 = Bo5 k (V8 k k) a0 a1 := by kernel_rfl
theorem C19 (k : Nat) (a0 : List A1) (a1 : List A1) : C4 (Z8 k) Ai1 k 194 [B3 (.slice 260 B2) a0, B3 (.slice 260 B2) a1] ms0 = Z0 k a0 a1 := by rw [C18, show V8 k k = K9 k k from (Bq4 k k)] <;> rfl
noncomputable def Bh5 (k : Nat) : Spec := .imm (.slice 260 B2) fun (a0 : List A1) => .imm (.slice 260 B2) fun (a1 : List A1) => .body (Z0 k a0 a1) (D7 [.bool] [])
noncomputable def Aa7 (k : Nat) : Cfg := { eqs := [], tab := [(4, .bool), (107, (.slice 162 A4)), (108, (.slice 215 (.slice 260 B2))), (109, (.slice 4 .bool)), (111, D6), (162, A4), (215, (.slice 260 B2))], spec := [(193, By3 k), (194, Bh5 k)], mspec := [], inl := [(169, Tryz.f169)], keep := [(16900001004, [2, 3, 5]), (16900001009, [2, 3, 6]), (16900001014, [2, 3, 7])], join := [], hold := [], ptrs := [], maps := [], fuel := k }
noncomputable def Af6 : VV → Ms → Option Bool := F7 [.bool] []
noncomputable def A58 (k n : Nat) (v3 : Int) (a0 : A6) (a1 : A6) : Option Bool := Q0 (Aa7 k) Af6 n true 16900001014 (cd [1, 1, 1, 1, 0, 1, 0, 0] (bo Tryz.f169)) [.b 4, .s (cd [1, 1, 1, 1, 1] (bo Tryz.f169)), .fn Tryz.f169] ⟨⟨(G4 89 0 [(2, one (.ptr 9000000 0)), (3, one (.ptr 9000001 0)), (7, one (.int .i64 v3))]), [(9000000, .box [.slc 162 A4 a0.1, .slc 215 (.slice 260 B2) a0.2.1, .slc 4 .bool a0.2.2.1]), (9000001, .box [.slc 162 A4 a1.1, .slc 215 (.slice 260 B2) a1.2.1, .slc 4 .bool a1.2.2.1])]⟩, 16900001000, 1, [(0, (G4 0 0 []))]⟩
noncomputable def A59 (k n : Nat) (v2 : Int) (a0 : A6) (a1 : A6) : Option Bool := Q0 (Aa7 k) Af6 n true 16900001009 (cd [1, 1, 1, 0, 1, 0, 0] (bo Tryz.f169)) [.b 2, .s (cd [1, 1, 1, 1] (bo Tryz.f169)), .fn Tryz.f169] ⟨⟨(G4 89 0 [(2, one (.ptr 9000000 0)), (3, one (.ptr 9000001 0)), (6, one (.int .i64 v2))]), [(9000000, .box [.slc 162 A4 a0.1, .slc 215 (.slice 260 B2) a0.2.1, .slc 4 .bool a0.2.2.1]), (9000001, .box [.slc 162 A4 a1.1, .slc 215 (.slice 260 B2) a1.2.1, .slc 4 .bool a1.2.2.1])]⟩, 16900001000, 1, [(0, (G4 0 0 []))]⟩
noncomputable def Ao6 (k n : Nat) (v1 : Int) (a0 : A6) (a1 : A6) : Option Bool := Q0 (Aa7 k) Af6 n true 16900001004 (cd [1, 1, 0, 1, 0, 0] (bo Tryz.f169)) [.b 0, .s (cd [1, 1, 1] (bo Tryz.f169)), .fn Tryz.f169] ⟨⟨(G4 89 0 [(2, one (.ptr 9000000 0)), (3, one (.ptr 9000001 0)), (5, one (.int .i64 v1))]), [(9000000, .box [.slc 162 A4 a0.1, .slc 215 (.slice 260 B2) a0.2.1, .slc 4 .bool a0.2.2.1]), (9000001, .box [.slc 162 A4 a1.1, .slc 215 (.slice 260 B2) a1.2.1, .slc 4 .bool a1.2.2.1])]⟩, 16900001000, 1, [(0, (G4 0 0 []))]⟩
theorem El0 (k n : Nat) (v3 : Int) (a0 : A6) (a1 : A6) : A58 k (n + 1) v3 a0 a1 = A40 k (A58 k n) v3 a0 a1 := by kernel_rfl
theorem El1 (k n : Nat) (v2 : Int) (a0 : A6) (a1 : A6) : A59 k (n + 1) v2 a0 a1 = A41 k (A59 k n) (A58 k n) v2 a0 a1 := by kernel_rfl
theorem El2 (k n : Nat) (v1 : Int) (a0 : A6) (a1 : A6) : Ao6 k (n + 1) v1 a0 a1 = A42 k (Ao6 k n) (A59 k n) v1 a0 a1 := by kernel_rfl
theorem C95 (k : Nat) : ∀ n : Nat, A58 k n = Ab9 k n ∧ A59 k n = Ac0 k n ∧ Ao6 k n = U9 k n
 | 0 => ⟨(by funext v3 a0 a1; rfl), (by funext v2 a0 a1; rfl), (by funext v1 a0 a1; rfl)⟩
 | n + 1 => by
  obtain ⟨h2, h1, h0⟩ := C95 k n
  exact ⟨(by funext v3 a0 a1; rw [El0, h2] <;> rfl), (by funext v2 a0 a1; rw [El1, h1, h2] <;> rfl), (by funext v1 a0 a1; rw [El2, h0, h1] <;> rfl)⟩
theorem E88 (k : Nat) (a0 : A6) (a1 : A6) : C4 (Aa7 k) Af6 k 169 [B3 D6 a0, B3 D6 a1] ms0 = C53 k (Ao6 k k) a0 a1 := by kernel_rfl
theorem E89 (k : Nat) (a0 : A6) (a1 : A6) : C4 (Aa7 k) Af6 k 169 [B3 D6 a0, B3 D6 a1] ms0 = Bo6 k a0 a1 := by rw [E88, show Ao6 k k = U9 k k from (C95 k k).2.2] <;> rfl
noncomputable def Cv7 (k : Nat) : Spec := .imm D6 fun (a0 : A6) => .imm D6 fun (a1 : A6) => .body (Bo6 k a0 a1) (D7 [.bool] [])
noncomputable def Bd2 (k : Nat) : Cfg := { eqs := [], tab := [(107, (.slice 162 A4)), (111, D6), (162, A4)], spec := [(168, B90 k), (169, Cv7 k)], mspec := [], inl := [(149, Tryz.f149)], keep := [(14900001005, [1, 3, 4])], join := [], hold := [(14900001005, [(3, [0, 0], 162, A4, false, false), (3, [0, 1], 215, (.slice 260 B2), false, false), (3, [0, 2], 4, .bool, false, false)])], ptrs := [], maps := [], fuel := k }
noncomputable def By4 : VV → Ms → Option Bool := F7 [.bool] []
noncomputable def Az1 (k n : Nat) (v1 : Int) (a0 : A6) (xs2 : List A0) (xs3 : List (List A1)) (xs4 : List Bool) : Option Bool := Q0 (Bd2 k) By4 n true 14900001005 (cd [1, 1, 1, 0, 1, 0, 0] (bo Tryz.f149)) [.b 0, .s (cd [1, 1, 1, 1] (bo Tryz.f149)), .fn Tryz.f149] ⟨⟨(G4 35 0 [(1, one (.ptr 9000000 0)), (3, one (.ptr 9000001 0)), (4, one (.int .i64 v1))]), [(9000000, .box [.slc 162 A4 a0.1, .slc 215 (.slice 260 B2) a0.2.1, .slc 4 .bool a0.2.2.1]), (9000001, .box [.row 9000002 none none, .row 9000003 none none, .row 9000004 none none]), (9000002, .row 162 A4 xs2 true), (9000003, .row 215 (.slice 260 B2) xs3 true), (9000004, .row 4 .bool xs4 true)]⟩, 14900001000, 1, [(0, (G4 0 0 []))]⟩
theorem E90 (k n : Nat) (v1 : Int) (a0 : A6) (xs2 : List A0) (xs3 : List (List A1)) (xs4 : List Bool) : Az1 k (n + 1) v1 a0 xs2 xs3 xs4 = B45 k (Az1 k n) v1 a0 xs2 xs3 xs4 := by kernel_rfl
theorem Dq7 (k : Nat) : ∀ n : Nat, Az1 k n = u6 k n
 | 0 => (by funext v1 a0 xs2 xs3 xs4; rfl)
 | n + 1 => by
  obtain h0 := Dq7 k n
  exact (by funext v1 a0 xs2 xs3 xs4; rw [E90, h0] <;> rfl)
theorem Fw6 (k : Nat) (a0 : A6) : C4 (Bd2 k) By4 k 149 [B3 D6 a0] ms0 = Dk5 k (Az1 k k) a0 := by kernel_rfl
theorem Fw7 (k : Nat) (a0 : A6) : C4 (Bd2 k) By4 k 149 [B3 D6 a0] ms0 = B46 k a0 := by rw [Fw6, show Az1 k k = u6 k k from (Dq7 k k)] <;> rfl
noncomputable def C96 (k : Nat) : Spec := .imm D6 fun (a0 : A6) => .body (B46 k a0) (D7 [.bool] [])
noncomputable def Bd3 (k : Nat) : Cfg := { eqs := [], tab := [(3, (.int .i64)), (4, .bool), (49, (.slice 3 (.int .i64))), (107, (.slice 162 A4)), (109, (.slice 4 .bool)), (111, D6), (162, A4)], spec := [], mspec := [], inl := [(150, Tryz.f150)], keep := [(15000001003, [1, 3, 4])], join := [], hold := [], ptrs := [], maps := [], fuel := k }
noncomputable def By5 : VV → Ms → Option (List Int) := F7 [(.slice 3 (.int .i64))] [.o]
noncomputable def Az2 (k n : Nat) (v1 : Int) (a0 : A6) (xs2 : List Int) : Option (List Int) := Q0 (Bd3 k) By5 n true 15000001003 (cd [1, 1, 0, 1, 0, 0] (bo Tryz.f150)) [.b 0, .s (cd [1, 1, 1] (bo Tryz.f150)), .fn Tryz.f150] ⟨⟨(G4 38 0 [(1, one (.ptr 9000000 0)), (3, one (.row 9000001 none none)), (4, one (.int .i64 v1))]), [(9000000, .box [.slc 162 A4 a0.1, .slc 215 (.slice 260 B2) a0.2.1, .slc 4 .bool a0.2.2.1]), (9000001, .row 3 (.int .i64) xs2 true)]⟩, 15000001000, 1, [(0, (G4 0 0 []))]⟩
theorem E91 (k n : Nat) (v1 : Int) (a0 : A6) (xs2 : List Int) : Az2 k (n + 1) v1 a0 xs2 = B47 k (Az2 k n) v1 a0 xs2 := by kernel_rfl
theorem Dq8 (k : Nat) : ∀ n : Nat, Az2 k n = u7 k n
 | 0 => (by funext v1 a0 xs2; rfl)
 | n + 1 => by
  obtain h0 := Dq8 k n
  exact (by funext v1 a0 xs2; rw [E91, h0] <;> rfl)
theorem Fw8 (k : Nat) (a0 : A6) : C4 (Bd3 k) By5 k 150 [B3 D6 a0] ms0 = Dk6 k (Az2 k k) a0 := by kernel_rfl
theorem Fw9 (k : Nat) (a0 : A6) : C4 (Bd3 k) By5 k 150 [B3 D6 a0] ms0 = B48 k a0 := by rw [Fw8, show Az2 k k = u7 k k from (Dq8 k k)] <;> rfl
noncomputable def C97 (k : Nat) : Spec := .imm D6 fun (a0 : A6) => .body (B48 k a0) (D7 [(.slice 3 (.int .i64))] [.o])
noncomputable def Au5 (k : Nat) : Cfg := { eqs := [], tab := [(3, (.int .i64)), (9, .str), (49, (.slice 3 (.int .i64))), (106, (.slice 158 O4)), (111, D6), (112, (.slice 164 Ak2)), (114, L6), (158, O4), (164, Ak2)], spec := [(55, I1 k), (149, C96 k), (150, C97 k), (151, Au4 k)], mspec := [], inl := [(115, Tryz.f115)], keep := [(11500001004, [1, 3]), (11500001011, [1, 5, 6])], join := [], hold := [], ptrs := [], maps := [], fuel := k }
noncomputable def A60 : VV → Ms → Option Bool := F7 [.bool] []
noncomputable def Bh6 (k n : Nat) (v2 : Int) (a0 : C0) (r4 : List Int) : Option Bool := Q0 (Au5 k) A60 n true 11500001011 (cd [1, 1, 1, 1, 0, 1, 0, 0] (bo Tryz.f115)) [.b 2, .s (cd [1, 1, 1, 1, 1] (bo Tryz.f115)), .fn Tryz.f115] ⟨⟨(G4 113 0 [(1, one (.ptr 9000000 0)), (5, one (.row 9000001 none none)), (6, one (.int .i64 v2))]), [(9000000, .box [.slc 158 O4 a0.1, .slc 162 A4 a0.2.1.1, .slc 215 (.slice 260 B2) a0.2.1.2.1, .slc 4 .bool a0.2.1.2.2.1, .slc 164 Ak2 a0.2.2.1]), (9000001, .row 3 (.int .i64) r4 true)]⟩, 11500001000, 1, [(0, (G4 0 0 []))]⟩
noncomputable def Az3 (k n : Nat) (v1 : Int) (a0 : C0) : Option Bool := Q0 (Au5 k) A60 n true 11500001004 (cd [1, 1, 0, 1, 0, 0] (bo Tryz.f115)) [.b 0, .s (cd [1, 1, 1] (bo Tryz.f115)), .fn Tryz.f115] ⟨⟨(G4 113 0 [(1, one (.ptr 9000000 0)), (3, one (.int .i64 v1))]), [(9000000, .box [.slc 158 O4 a0.1, .slc 162 A4 a0.2.1.1, .slc 215 (.slice 260 B2) a0.2.1.2.1, .slc 4 .bool a0.2.1.2.2.1, .slc 164 Ak2 a0.2.2.1])]⟩, 11500001000, 1, [(0, (G4 0 0 []))]⟩
theorem E92 (k n : Nat) (v2 : Int) (a0 : C0) (r4 : List Int) : Bh6 k (n + 1) v2 a0 r4 = Bg0 k (Bh6 k n) v2 a0 r4 := by kernel_rfl
theorem E93 (k n : Nat) (v1 : Int) (a0 : C0) : Az3 k (n + 1) v1 a0 = Bg1 k (Az3 k n) (Bh6 k n) v1 a0 := by kernel_rfl
theorem Dq9 (k : Nat) : ∀ n : Nat, Bh6 k n = u9 k n ∧ Az3 k n = N9 k n
 | 0 => ⟨(by funext v2 a0 r4; rfl), (by funext v1 a0; rfl)⟩
 | n + 1 => by
  obtain ⟨h1, h0⟩ := Dq9 k n
  exact ⟨(by funext v2 a0 r4; rw [E92, h1] <;> rfl), (by funext v1 a0; rw [E93, h0, h1] <;> rfl)⟩
theorem Fx0 (k : Nat) (a0 : C0) : C4 (Au5 k) A60 k 115 [B3 L6 a0] ms0 = Dk7 k (Az3 k k) a0 := by kernel_rfl
theorem Fx1 (k : Nat) (a0 : C0) : C4 (Au5 k) A60 k 115 [B3 L6 a0] ms0 = Al6 k a0 := by rw [Fx0, show Az3 k k = N9 k k from (Dq9 k k).2] <;> rfl
noncomputable def B92 (k : Nat) : Spec := .imm L6 fun (a0 : C0) => .body (Al6 k a0) (D7 [.bool] [])
noncomputable def By6 (k : Nat) : Cfg := { eqs := [], tab := [(9, .str)], spec := [(109, Aj8 k)], mspec := [], inl := [(116, Tryz.f116)], keep := [], join := [], hold := [], ptrs := [], maps := [], fuel := k }
noncomputable def Dr0 : VV → Ms → Option ByteArray := F7 [.str] []
theorem El3 (k : Nat) (a0 : ByteArray) : C4 (By6 k) Dr0 k 116 [B3 .str a0] ms0 = W7 k a0 := by kernel_rfl
noncomputable def Av6 (k : Nat) : Spec := .imm .str fun (a0 : ByteArray) => .body (W7 k a0) (D7 [.str] [])
noncomputable def B93 (k : Nat) : Cfg := { eqs := [], tab := [(3, (.int .i64)), (5, (.int .u8)), (9, .str), (22, (.slice 5 (.int .u8)))], spec := [], mspec := [], inl := [(171, Tryz.f171)], keep := [], join := [], hold := [], ptrs := [], maps := [], fuel := k }
noncomputable def D00 : VV → Ms → Option ByteArray := F7 [.str] []
theorem E94 (k : Nat) (a0 : Int) : C4 (B93 k) D00 k 171 [B3 (.int .i64) a0] ms0 = n7 k a0 := by kernel_rfl
noncomputable def Cv8 (k : Nat) : Spec := .imm (.int .i64) fun (a0 : Int) => .body (n7 k a0) (D7 [.str] [])
noncomputable def m6 (k : Nat) : Cfg := { eqs := [], tab := [(3, (.int .i64)), (9, .str), (49, (.slice 3 (.int .i64))), (162, A4)], spec := [(109, Aj8 k), (116, Av6 k), (171, Cv8 k)], mspec := [], inl := [(153, Tryz.f153)], keep := [(15300001003, [1, 3, 4])], join := [], hold := [], ptrs := [], maps := [], fuel := k }
noncomputable def Ao7 : VV → Ms → Option ByteArray := F7 [.str] []
noncomputable def Z9 (k n : Nat) (v1 : ByteArray) (v2 : Int) (a0 : A0) : Option ByteArray := Q0 (m6 k) Ao7 n true 15300001003 (cd [1, 1, 0, 1, 0, 0] (bo Tryz.f153)) [.b 0, .s (cd [1, 1, 1] (bo Tryz.f153)), .fn Tryz.f153] ⟨⟨(G4 45 0 [(1, one (.ptr 9000000 0)), (3, one (.str v1)), (4, one (.int .i64 v2))]), [(9000000, .box [.int .i64 a0.1, .int .i64 a0.2.1, .int .i64 a0.2.2.1, .int .i64 a0.2.2.2.1, .int .i64 a0.2.2.2.2.1, .slc 3 (.int .i64) a0.2.2.2.2.2.1, .str a0.2.2.2.2.2.2.1, .slc 3 (.int .i64) a0.2.2.2.2.2.2.2.1, .int .i64 a0.2.2.2.2.2.2.2.2.1])]⟩, 15300001000, 1, [(0, (G4 0 0 []))]⟩
theorem C20 (k n : Nat) (v1 : ByteArray) (v2 : Int) (a0 : A0) : Z9 k (n + 1) v1 v2 a0 = Ac1 k (Z9 k n) v1 v2 a0 := by kernel_rfl
theorem B16 (k : Nat) : ∀ n : Nat, Z9 k n = O2 k n
 | 0 => (by funext v1 v2 a0; rfl)
 | n + 1 => by
  obtain h0 := B16 k n
  exact (by funext v1 v2 a0; rw [C20, h0] <;> rfl)
theorem Dc9 (k : Nat) (a0 : A0) : C4 (m6 k) Ao7 k 153 [B3 A4 a0] ms0 = A12 k (Z9 k k) a0 := by kernel_rfl
theorem Dd0 (k : Nat) (a0 : A0) : C4 (m6 k) Ao7 k 153 [B3 A4 a0] ms0 = n8 k a0 := by rw [Dc9, show Z9 k k = O2 k k from (B16 k k)] <;> rfl
noncomputable def Bq5 (k : Nat) : Spec := .imm A4 fun (a0 : A0) => .body (n8 k a0) (D7 [.str] [])
noncomputable def Af7 (k : Nat) : Cfg := { eqs := [], tab := [(3, (.int .i64)), (49, (.slice 3 (.int .i64))), (162, A4)], spec := [(109, Aj8 k), (152, Ad3 k), (153, Bq5 k)], mspec := [], inl := [(117, Tryz.f117)], keep := [(11700001005, [1, 4, 5])], join := [], hold := [], ptrs := [], maps := [], fuel := k }
noncomputable def A21 : VV → Ms → Option (ByteArray × Bool) := F7 [.str, .bool] []
noncomputable def Aa8 (k n : Nat) (v1 : ByteArray) (v2 : Int) (a0 : A0) : Option (ByteArray × Bool) := Q0 (Af7 k) A21 n true 11700001005 (cd [1, 1, 1, 0, 1, 0, 0] (bo Tryz.f117)) [.b 0, .s (cd [1, 1, 1, 1] (bo Tryz.f117)), .fn Tryz.f117] ⟨⟨(G4 40 0 [(1, one (.ptr 9000000 0)), (4, one (.str v1)), (5, one (.int .i64 v2))]), [(9000000, .box [.int .i64 a0.1, .int .i64 a0.2.1, .int .i64 a0.2.2.1, .int .i64 a0.2.2.2.1, .int .i64 a0.2.2.2.2.1, .slc 3 (.int .i64) a0.2.2.2.2.2.1, .str a0.2.2.2.2.2.2.1, .slc 3 (.int .i64) a0.2.2.2.2.2.2.2.1, .int .i64 a0.2.2.2.2.2.2.2.2.1])]⟩, 11700001000, 1, [(0, (G4 0 0 []))]⟩
theorem Dr1 (k n : Nat) (v1 : ByteArray) (v2 : Int) (a0 : A0) : Aa8 k (n + 1) v1 v2 a0 = Al7 k (Aa8 k n) v1 v2 a0 := by kernel_rfl
theorem Cj1 (k : Nat) : ∀ n : Nat, Aa8 k n = T2 k n
 | 0 => (by funext v1 v2 a0; rfl)
 | n + 1 => by
  obtain h0 := Cj1 k n
  exact (by funext v1 v2 a0; rw [Dr1, h0] <;> rfl)
theorem D01 (k : Nat) (a0 : A0) : C4 (Af7 k) A21 k 117 [B3 A4 a0] ms0 = Cg6 k (Aa8 k k) a0 := by kernel_rfl
theorem D02 (k : Nat) (a0 : A0) : C4 (Af7 k) A21 k 117 [B3 A4 a0] ms0 = Ax0 k a0 := by rw [D01, show Aa8 k k = T2 k k from (Cj1 k k)] <;> rfl
noncomputable def B94 (k : Nat) : Spec := .imm A4 fun (a0 : A0) => .body (Ax0 k a0) (D7 [.str, .bool] [])
noncomputable def j8 (k : Nat) : Cfg := { eqs := [], tab := [(3, (.int .i64)), (9, .str), (22, (.slice 5 (.int .u8))), (106, (.slice 158 O4)), (107, (.slice 162 A4)), (111, D6), (112, (.slice 164 Ak2)), (114, L6), (158, O4), (162, A4), (164, Ak2)], spec := [(109, Aj8 k), (115, B92 k), (116, Av6 k), (117, B94 k)], mspec := [], inl := [(68, Tryz.f68)], keep := [(6800001005, [1, 4, 5]), (6800001011, [1, 4, 7]), (6800001016, [1, 4, 10])], join := [], hold := [], ptrs := [], maps := [], fuel := k }
noncomputable def Aa9 : VV → Ms → Option (ByteArray × Bool) := F7 [.str, .bool] []
noncomputable def Av7 (k n : Nat) (v5 : Int) (a0 : C0) (xs4 : List Int) : Option (ByteArray × Bool) := Q0 (j8 k) Aa9 n true 6800001016 (cd [1, 1, 1, 1, 1, 1, 0, 1, 0, 0] (bo Tryz.f68)) [.b 4, .s (cd [1, 1, 1, 1, 1, 1, 1] (bo Tryz.f68)), .fn Tryz.f68] ⟨⟨(G4 98 0 [(1, one (.ptr 9000000 0)), (4, one (.row 9000001 none none)), (10, one (.int .i64 v5))]), [(9000000, .box [.slc 158 O4 a0.1, .slc 162 A4 a0.2.1.1, .slc 215 (.slice 260 B2) a0.2.1.2.1, .slc 4 .bool a0.2.1.2.2.1, .slc 164 Ak2 a0.2.2.1]), (9000001, .row 5 (.int .u8) xs4 true)]⟩, 6800001000, 1, [(0, (G4 0 0 []))]⟩
noncomputable def Av8 (k n : Nat) (v3 : Int) (a0 : C0) (xs4 : List Int) : Option (ByteArray × Bool) := Q0 (j8 k) Aa9 n true 6800001011 (cd [1, 1, 1, 1, 1, 0, 1, 0, 0] (bo Tryz.f68)) [.b 2, .s (cd [1, 1, 1, 1, 1, 1] (bo Tryz.f68)), .fn Tryz.f68] ⟨⟨(G4 98 0 [(1, one (.ptr 9000000 0)), (4, one (.row 9000001 none none)), (7, one (.int .i64 v3))]), [(9000000, .box [.slc 158 O4 a0.1, .slc 162 A4 a0.2.1.1, .slc 215 (.slice 260 B2) a0.2.1.2.1, .slc 4 .bool a0.2.1.2.2.1, .slc 164 Ak2 a0.2.2.1]), (9000001, .row 5 (.int .u8) xs4 true)]⟩, 6800001000, 1, [(0, (G4 0 0 []))]⟩
noncomputable def Af8 (k n : Nat) (v1 : Int) (a0 : C0) (xs2 : List Int) : Option (ByteArray × Bool) := Q0 (j8 k) Aa9 n true 6800001005 (cd [1, 1, 1, 0, 1, 0, 0] (bo Tryz.f68)) [.b 0, .s (cd [1, 1, 1, 1] (bo Tryz.f68)), .fn Tryz.f68] ⟨⟨(G4 98 0 [(1, one (.ptr 9000000 0)), (4, one (.row 9000001 none none)), (5, one (.int .i64 v1))]), [(9000000, .box [.slc 158 O4 a0.1, .slc 162 A4 a0.2.1.1, .slc 215 (.slice 260 B2) a0.2.1.2.1, .slc 4 .bool a0.2.1.2.2.1, .slc 164 Ak2 a0.2.2.1]), (9000001, .row 5 (.int .u8) xs2 true)]⟩, 6800001000, 1, [(0, (G4 0 0 []))]⟩
theorem D03 (k n : Nat) (v5 : Int) (a0 : C0) (xs4 : List Int) : Av7 k (n + 1) v5 a0 xs4 = Bj1 k (Av7 k n) v5 a0 xs4 := by kernel_rfl
theorem D04 (k n : Nat) (v3 : Int) (a0 : C0) (xs4 : List Int) : Av8 k (n + 1) v3 a0 xs4 = Bj2 k (Av8 k n) (Av7 k n) v3 a0 xs4 := by kernel_rfl
theorem D05 (k n : Nat) (v1 : Int) (a0 : C0) (xs2 : List Int) : Af8 k (n + 1) v1 a0 xs2 = Bj3 k (Af8 k n) (Av8 k n) v1 a0 xs2 := by kernel_rfl
theorem Cv9 (k : Nat) : ∀ n : Nat, Av7 k n = n9 k n ∧ Av8 k n = o0 k n ∧ Af8 k n = W8 k n
 | 0 => ⟨(by funext v5 a0 xs4; rfl), (by funext v3 a0 xs4; rfl), (by funext v1 a0 xs2; rfl)⟩
 | n + 1 => by
  obtain ⟨h2, h1, h0⟩ := Cv9 k n
  exact ⟨(by funext v5 a0 xs4; rw [D03, h2] <;> rfl), (by funext v3 a0 xs4; rw [D04, h1, h2] <;> rfl), (by funext v1 a0 xs2; rw [D05, h0, h1] <;> rfl)⟩
theorem El4 (k : Nat) (a0 : C0) : C4 (j8 k) Aa9 k 68 [B3 L6 a0] ms0 = Cr0 k (Af8 k k) a0 := by kernel_rfl
theorem El5 (k : Nat) (a0 : C0) : C4 (j8 k) Aa9 k 68 [B3 L6 a0] ms0 = Ah8 k a0 := by rw [El4, show Af8 k k = W8 k k from (Cv9 k k).2.2] <;> rfl
noncomputable def Cj2 (k : Nat) : Spec := .imm L6 fun (a0 : C0) => .body (Ah8 k a0) (D7 [.str, .bool] [])
noncomputable def Az4 (k : Nat) : Cfg := { eqs := [], tab := [(112, (.slice 164 Ak2)), (114, L6), (164, Ak2)], spec := [], mspec := [], inl := [(118, Tryz.f118)], keep := [(11800001003, [0, 1, 2])], join := [], hold := [(11800001003, [(1, [0, 4], 164, Ak2, false, false)])], ptrs := [], maps := [], fuel := k }
noncomputable def Bl3 : VV → Ms → Option C0 := F7 [L6] [.o, .o, .o, .o, .o]
noncomputable def Ao8 (k n : Nat) (v1 : Int) (xs2 : List J5) : Option C0 := Q0 (Az4 k) Bl3 n true 11800001003 (cd [1, 1, 0, 1, 0, 0] (bo Tryz.f118)) [.b 0, .s (cd [1, 1, 1] (bo Tryz.f118)), .fn Tryz.f118] ⟨⟨(G4 16 0 [(0, one (.ptr 9000000 0)), (1, one (.ptr 9000001 0)), (2, one (.int .i64 v1))]), [(9000000, .box [.nilS, .nilS, .nilS, .nilS, .nilS]), (9000001, .box [.nilS, .nilS, .nilS, .nilS, .row 9000002 none none]), (9000002, .row 164 Ak2 xs2 true)]⟩, 11800001000, 1, [(0, (G4 0 0 []))]⟩
theorem El6 (k n : Nat) (v1 : Int) (xs2 : List J5) : Ao8 k (n + 1) v1 xs2 = Cr1 k (Ao8 k n) v1 xs2 := by kernel_rfl
theorem C98 (k : Nat) : ∀ n : Nat, Ao8 k n = A43 k n
 | 0 => (by funext v1 xs2; rfl)
 | n + 1 => by
  obtain h0 := C98 k n
  exact (by funext v1 xs2; rw [El6, h0] <;> rfl)
theorem E95 (k : Nat) : C4 (Az4 k) Bl3 k 118 [] ms0 = C54 k (Ao8 k k) := by kernel_rfl
theorem E96 (k : Nat) : C4 (Az4 k) Bl3 k 118 [] ms0 = Bo7 k := by rw [E95, show Ao8 k k = A43 k k from (C98 k k)] <;> rfl
noncomputable def Cw0 (k : Nat) : Spec := .body (Bo7 k) (D7 [L6] [.o, .o, .o, .o, .o])
noncomputable def Bl4 (k : Nat) : Cfg := { eqs := [], tab := [(3, (.int .i64)), (5, (.int .u8))], spec := [], mspec := [], inl := [(138, Tryz.f138)], keep := [], join := [], hold := [], ptrs := [], maps := [], fuel := k }
noncomputable def Dd1 : VV → Ms → Option Int := F7 [(.int .u8)] []
theorem D06 (k : Nat) (a0 : Int) : C4 (Bl4 k) Dd1 k 138 [B3 (.int .i64) a0] ms0 = w5 k a0 := by kernel_rfl
noncomputable def B95 (k : Nat) : Spec := .imm (.int .i64) fun (a0 : Int) => .body (w5 k a0) (D7 [(.int .u8)] [])
noncomputable def Az5 (k : Nat) : Cfg := { eqs := [], tab := [(9, .str), (22, (.slice 5 (.int .u8)))], spec := [(138, B95 k)], mspec := [], inl := [(100, Tryz.f100)], keep := [(10000001005, [0, 3, 4])], join := [], hold := [], ptrs := [], maps := [], fuel := k }
noncomputable def Bl5 : VV → Ms → Option ByteArray := F7 [.str] []
noncomputable def Ao9 (k n : Nat) (a0 : Int) (v1 : Bool) (v2 : ByteArray) : Option ByteArray := Q0 (Az5 k) Bl5 n true 10000001005 (cd [1, 1, 1, 1, 0, 0, 0] (bo Tryz.f100)) [.b 0, .s (cd [1, 1, 1, 1, 1] (bo Tryz.f100)), .fn Tryz.f100] ⟨⟨(G4 30 0 [(0, one (.int .i64 a0)), (3, one (.bool v1)), (4, one (.str v2))]), []⟩, 10000001000, 1, [(0, (G4 0 0 []))]⟩
theorem El7 (k n : Nat) (a0 : Int) (v1 : Bool) (v2 : ByteArray) : Ao9 k (n + 1) a0 v1 v2 = Bt7 k (Ao9 k n) a0 v1 v2 := by kernel_rfl
theorem C99 (k : Nat) : ∀ n : Nat, Ao9 k n = i7 k n
 | 0 => (by funext a0 v1 v2; rfl)
 | n + 1 => by
  obtain h0 := C99 k n
  exact (by funext a0 v1 v2; rw [El7, h0] <;> rfl)
theorem E97 (k : Nat) (a0 : Int) : C4 (Az5 k) Bl5 k 100 [B3 (.int .i64) a0] ms0 = C55 k (Ao9 k k) a0 := by kernel_rfl
theorem E98 (k : Nat) (a0 : Int) : C4 (Az5 k) Bl5 k 100 [B3 (.int .i64) a0] ms0 = Z1 k a0 := by rw [E97, show Ao9 k k = i7 k k from (C99 k k)] <;> rfl
noncomputable def By7 (k : Nat) : Spec := .imm (.int .i64) fun (a0 : Int) => .body (Z1 k a0) (D7 [.str] [])
noncomputable def By8 (k : Nat) : Cfg := { eqs := [], tab := [(162, A4)], spec := [(193, By3 k)], mspec := [], inl := [(172, Tryz.f172)], keep := [], join := [], hold := [], ptrs := [], maps := [], fuel := k }
noncomputable def Dr2 : VV → Ms → Option Bool := F7 [.bool] []
theorem El8 (k : Nat) (a0 : A0) : C4 (By8 k) Dr2 k 172 [B3 A4 a0] ms0 = At0 k a0 := by kernel_rfl
noncomputable def Cj3 (k : Nat) : Spec := .imm A4 fun (a0 : A0) => .body (At0 k a0) (D7 [.bool] [])
noncomputable def Bl6 (k : Nat) : Cfg := { eqs := [], tab := [(3, (.int .i64)), (49, (.slice 3 (.int .i64))), (162, A4), (169, V6)], spec := [(55, I1 k), (152, Ad3 k), (170, Bx2 k), (172, Cj3 k)], mspec := [], inl := [(154, Tryz.f154)], keep := [], join := [], hold := [], ptrs := [], maps := [], fuel := k }
noncomputable def Dd2 : VV → Ms → Option Bool := F7 [.bool] []
theorem D07 (k : Nat) (a0 : D1) : C4 (Bl6 k) Dd2 k 154 [B3 V6 a0] ms0 = Aj0 k a0 := by kernel_rfl
noncomputable def B96 (k : Nat) : Spec := .imm V6 fun (a0 : D1) => .body (Aj0 k a0) (D7 [.bool] [])
noncomputable def B97 (k : Nat) : Cfg := { eqs := [], tab := [(49, (.slice 3 (.int .i64))), (162, A4)], spec := [], mspec := [], inl := [(219, Tryz.f219)], keep := [], join := [], hold := [], ptrs := [], maps := [], fuel := k }
noncomputable def D08 : VV → Ms → Option A0 := F7 [A4] [.o, .o]
theorem E99 (k : Nat) (a0 : A0) : C4 (B97 k) D08 k 219 [B3 A4 a0] ms0 = At1 k a0 := by kernel_rfl
noncomputable def By9 (k : Nat) : Spec := .imm A4 fun (a0 : A0) => .body (At1 k a0) (D7 [A4] [.o, .o])
noncomputable def m7 (k : Nat) : Cfg := { eqs := [], tab := [(107, (.slice 162 A4)), (162, A4)], spec := [(219, By9 k)], mspec := [], inl := [(196, Tryz.f196)], keep := [(19600001003, [0, 3, 4])], join := [], hold := [], ptrs := [], maps := [], fuel := k }
noncomputable def Ap0 : VV → Ms → Option (List A0) := F7 [(.slice 162 A4)] [.o]
noncomputable def b8 (k n : Nat) (a0 : List A0) (v1 : Int) (xs2 : List A0) : Option (List A0) := Q0 (m7 k) Ap0 n true 19600001003 (cd [1, 1, 0, 1, 0, 0] (bo Tryz.f196)) [.b 0, .s (cd [1, 1, 1] (bo Tryz.f196)), .fn Tryz.f196] ⟨⟨(G4 21 0 [(0, one (.slc 162 A4 a0)), (3, one (.row 9000000 none none)), (4, one (.int .i64 v1))]), [(9000000, .row 162 A4 xs2 true)]⟩, 19600001000, 1, [(0, (G4 0 0 []))]⟩
theorem C21 (k n : Nat) (a0 : List A0) (v1 : Int) (xs2 : List A0) : b8 k (n + 1) a0 v1 xs2 = At2 k (b8 k n) a0 v1 xs2 := by kernel_rfl
theorem B17 (k : Nat) : ∀ n : Nat, b8 k n = O3 k n
 | 0 => (by funext a0 v1 xs2; rfl)
 | n + 1 => by
  obtain h0 := B17 k n
  exact (by funext a0 v1 xs2; rw [C21, h0] <;> rfl)
theorem Dd3 (k : Nat) (a0 : List A0) : C4 (m7 k) Ap0 k 196 [B3 (.slice 162 A4) a0] ms0 = B08 k (b8 k k) a0 := by kernel_rfl
theorem Dd4 (k : Nat) (a0 : List A0) : C4 (m7 k) Ap0 k 196 [B3 (.slice 162 A4) a0] ms0 = Ae4 k a0 := by rw [Dd3, show b8 k k = O3 k k from (B17 k k)] <;> rfl
noncomputable def Bq6 (k : Nat) : Spec := .imm (.slice 162 A4) fun (a0 : List A0) => .body (Ae4 k a0) (D7 [(.slice 162 A4)] [.o])
noncomputable def Az6 (k : Nat) : Cfg := { eqs := [], tab := [(107, (.slice 162 A4)), (108, (.slice 215 (.slice 260 B2))), (109, (.slice 4 .bool)), (111, D6), (215, (.slice 260 B2))], spec := [(196, Bq6 k)], mspec := [], inl := [(173, Tryz.f173)], keep := [(17300001003, [1, 2, 3, 4])], join := [], hold := [(17300001003, [(3, [0, 1], 215, (.slice 260 B2), false, false)])], ptrs := [], maps := [], fuel := k }
noncomputable def Bl7 : VV → Ms → Option A6 := F7 [D6] [.o, .o, .o]
noncomputable def Ap1 (k n : Nat) (v1 : Int) (a0 : A6) (r1 : List A0) (xs2 : List (List A1)) : Option A6 := Q0 (Az6 k) Bl7 n true 17300001003 (cd [1, 1, 0, 1, 0, 0] (bo Tryz.f173)) [.b 0, .s (cd [1, 1, 1] (bo Tryz.f173)), .fn Tryz.f173] ⟨⟨(G4 33 0 [(1, one (.ptr 9000000 0)), (2, one (.ptr 9000001 0)), (3, one (.ptr 9000002 0)), (4, one (.int .i64 v1))]), [(9000000, .box [.slc 162 A4 a0.1, .slc 215 (.slice 260 B2) a0.2.1, .slc 4 .bool a0.2.2.1]), (9000001, .box [.nilS, .nilS, .nilS]), (9000002, .box [.row 9000003 none none, .row 9000004 none none, .row 9000005 none none]), (9000003, .row 162 A4 r1 true), (9000004, .row 215 (.slice 260 B2) xs2 true), (9000005, .row 4 .bool (([] : List Bool) ++ a0.2.2.1) true)]⟩, 17300001000, 1, [(0, (G4 0 0 []))]⟩
theorem El9 (k n : Nat) (v1 : Int) (a0 : A6) (r1 : List A0) (xs2 : List (List A1)) : Ap1 k (n + 1) v1 a0 r1 xs2 = Bt8 k (Ap1 k n) v1 a0 r1 xs2 := by kernel_rfl
theorem Da0 (k : Nat) : ∀ n : Nat, Ap1 k n = i8 k n
 | 0 => (by funext v1 a0 r1 xs2; rfl)
 | n + 1 => by
  obtain h0 := Da0 k n
  exact (by funext v1 a0 r1 xs2; rw [El9, h0] <;> rfl)
theorem Fa0 (k : Nat) (a0 : A6) : C4 (Az6 k) Bl7 k 173 [B3 D6 a0] ms0 = C56 k (Ap1 k k) a0 := by kernel_rfl
theorem Fa1 (k : Nat) (a0 : A6) : C4 (Az6 k) Bl7 k 173 [B3 D6 a0] ms0 = A74 k a0 := by rw [Fa0, show Ap1 k k = i8 k k from (Da0 k k)] <;> rfl
noncomputable def Bz0 (k : Nat) : Spec := .imm D6 fun (a0 : A6) => .body (A74 k a0) (D7 [D6] [.o, .o, .o])
noncomputable def Az7 (k : Nat) : Cfg := { eqs := [], tab := [(49, (.slice 3 (.int .i64))), (106, (.slice 158 O4)), (111, D6), (112, (.slice 164 Ak2)), (114, L6), (164, Ak2)], spec := [(173, Bz0 k)], mspec := [], inl := [(155, Tryz.f155)], keep := [(15500001003, [1, 2, 3, 4])], join := [], hold := [(15500001003, [(3, [0, 4], 164, Ak2, false, false)])], ptrs := [], maps := [], fuel := k }
noncomputable def Bl8 : VV → Ms → Option C0 := F7 [L6] [.o, .o, .o, .o, .o]
noncomputable def Ap2 (k n : Nat) (v1 : Int) (a0 : C0) (r1 : A6) (xs2 : List J5) : Option C0 := Q0 (Az7 k) Bl8 n true 15500001003 (cd [1, 1, 0, 1, 0, 0] (bo Tryz.f155)) [.b 0, .s (cd [1, 1, 1] (bo Tryz.f155)), .fn Tryz.f155] ⟨⟨(G4 38 0 [(1, one (.ptr 9000000 0)), (2, one (.ptr 9000001 0)), (3, one (.ptr 9000002 0)), (4, one (.int .i64 v1))]), [(9000000, .box [.slc 158 O4 a0.1, .slc 162 A4 a0.2.1.1, .slc 215 (.slice 260 B2) a0.2.1.2.1, .slc 4 .bool a0.2.1.2.2.1, .slc 164 Ak2 a0.2.2.1]), (9000001, .box [.nilS, .nilS, .nilS, .nilS, .nilS]), (9000002, .box [.row 9000003 none none, .row 9000004 none none, .row 9000005 none none, .row 9000006 none none, .row 9000007 none none]), (9000003, .row 158 O4 (([] : List D4) ++ a0.1) true), (9000004, .row 162 A4 r1.1 true), (9000005, .row 215 (.slice 260 B2) r1.2.1 true), (9000006, .row 4 .bool r1.2.2.1 true), (9000007, .row 164 Ak2 xs2 true)]⟩, 15500001000, 1, [(0, (G4 0 0 []))]⟩
theorem Em0 (k n : Nat) (v1 : Int) (a0 : C0) (r1 : A6) (xs2 : List J5) : Ap2 k (n + 1) v1 a0 r1 xs2 = Bt9 k (Ap2 k n) v1 a0 r1 xs2 := by kernel_rfl
theorem Da1 (k : Nat) : ∀ n : Nat, Ap2 k n = j0 k n
 | 0 => (by funext v1 a0 r1 xs2; rfl)
 | n + 1 => by
  obtain h0 := Da1 k n
  exact (by funext v1 a0 r1 xs2; rw [Em0, h0] <;> rfl)
theorem Fa2 (k : Nat) (a0 : C0) : C4 (Az7 k) Bl8 k 155 [B3 L6 a0] ms0 = C57 k (Ap2 k k) a0 := by kernel_rfl
theorem Fa3 (k : Nat) (a0 : C0) : C4 (Az7 k) Bl8 k 155 [B3 L6 a0] ms0 = Aj1 k a0 := by rw [Fa2, show Ap2 k k = j0 k k from (Da1 k k)] <;> rfl
noncomputable def Cw1 (k : Nat) : Spec := .imm L6 fun (a0 : C0) => .body (Aj1 k a0) (D7 [L6] [.o, .o, .o, .o, .o])
noncomputable def Bz1 (k : Nat) : Cfg := { eqs := [], tab := [(107, (.slice 162 A4)), (108, (.slice 215 (.slice 260 B2))), (109, (.slice 4 .bool)), (111, D6), (162, A4)], spec := [(168, B90 k), (173, Bz0 k)], mspec := [], inl := [(198, Tryz.f198)], keep := [], join := [], hold := [], ptrs := [], maps := [], fuel := k }
noncomputable def Dr3 : VV → Ms → Option (A6 × Bool) := F7 [D6, .bool] [.o, .o, .o]
theorem Em1 (k : Nat) (a0 : A6) (a1 : A0) : C4 (Bz1 k) Dr3 k 198 [B3 D6 a0, B3 A4 a1] ms0 = At3 k a0 a1 := by kernel_rfl
noncomputable def Cj4 (k : Nat) : Spec := .imm D6 fun (a0 : A6) => .imm A4 fun (a1 : A0) => .body (At3 k a0 a1) (D7 [D6, .bool] [.o, .o, .o])
noncomputable def Au6 (k : Nat) : Cfg := { eqs := [], tab := [(3, (.int .i64)), (49, (.slice 3 (.int .i64))), (107, (.slice 162 A4)), (111, D6), (162, A4)], spec := [(201, Bc8 k), (202, B87 k)], mspec := [], inl := [(176, Tryz.f176)], keep := [(17600001003, [1, 3, 4]), (17600001007, [1, 3, 4, 5, 6])], join := [], hold := [], ptrs := [], maps := [], fuel := k }
noncomputable def A61 : VV → Ms → Option (List Int) := F7 [(.slice 3 (.int .i64))] [.o]
noncomputable def Az8 (k n : Nat) (v1 : Int) (a0 : A6) (xs2 : List Int) : Option (List Int) := Q0 (Au6 k) A61 n true 17600001003 (cd [1, 1, 0, 1, 0, 0] (bo Tryz.f176)) [.b 0, .s (cd [1, 1, 1] (bo Tryz.f176)), .fn Tryz.f176] ⟨⟨(G4 49 0 [(1, one (.ptr 9000000 0)), (3, one (.row 9000001 none none)), (4, one (.int .i64 v1))]), [(9000000, .box [.slc 162 A4 a0.1, .slc 215 (.slice 260 B2) a0.2.1, .slc 4 .bool a0.2.2.1]), (9000001, .row 3 (.int .i64) xs2 true)]⟩, 17600001000, 1, [(0, (G4 0 0 []))]⟩
noncomputable def Bh7 (k n : Nat) (v1 : Int) (v3 : Bool) (v4 : Int) (a0 : A6) (xs2 : List Int) : Option (List Int) := Q0 (Au6 k) A61 n true 17600001007 (cd [1, 1, 0, 1, 0, 0, 1, 0, 0, 1, 0, 1, 0, 0] (bo Tryz.f176)) [.b 2, .s (cd [1, 1, 0, 1, 0, 0, 1, 0, 0, 1, 1] (bo Tryz.f176)), .b 1, .s (cd [1, 1, 0, 1, 0, 0, 1, 1] (bo Tryz.f176)), .l 17600001003 (cd [1, 1, 0, 1, 0, 0] (bo Tryz.f176)), .b 0, .s (cd [1, 1, 1] (bo Tryz.f176)), .fn Tryz.f176] ⟨⟨(G4 49 0 [(1, one (.ptr 9000000 0)), (3, one (.row 9000001 none none)), (4, one (.int .i64 v1)), (5, one (.bool v3)), (6, one (.int .i64 v4))]), [(9000000, .box [.slc 162 A4 a0.1, .slc 215 (.slice 260 B2) a0.2.1, .slc 4 .bool a0.2.2.1]), (9000001, .row 3 (.int .i64) xs2 true)]⟩, 17600001000, 1, [(0, (G4 0 0 []))]⟩
theorem Fa4 (k n : Nat) (v1 : Int) (a0 : A6) (xs2 : List Int) : Az8 k (n + 1) v1 a0 xs2 = Bg2 k (Bh7 k n) v1 a0 xs2 := by kernel_rfl
theorem Fa5 (k n : Nat) (v1 : Int) (v3 : Bool) (v4 : Int) (a0 : A6) (xs2 : List Int) : Bh7 k (n + 1) v1 v3 v4 a0 xs2 = Bg3 k (Bh7 k n) (Az8 k n) v1 v3 v4 a0 xs2 := by kernel_rfl
theorem Dr4 (k : Nat) : ∀ n : Nat, Az8 k n = w6 k n ∧ Bh7 k n = Ax2 k n
 | 0 => ⟨(by funext v1 a0 xs2; rfl), (by funext v1 v3 v4 a0 xs2; rfl)⟩
 | n + 1 => by
  obtain ⟨h0, h1⟩ := Dr4 k n
  exact ⟨(by funext v1 a0 xs2; rw [Fa4, h1] <;> rfl), (by funext v1 v3 v4 a0 xs2; rw [Fa5, h1, h0] <;> rfl)⟩
theorem Fx2 (k : Nat) (a0 : A6) : C4 (Au6 k) A61 k 176 [B3 D6 a0] ms0 = Dk8 k (Az8 k k) a0 := by kernel_rfl
theorem Fx3 (k : Nat) (a0 : A6) : C4 (Au6 k) A61 k 176 [B3 D6 a0] ms0 = Al8 k a0 := by rw [Fx2, show Az8 k k = w6 k k from (Dr4 k k).1] <;> rfl
noncomputable def Bh8 (k : Nat) : Spec := .imm D6 fun (a0 : A6) => .body (Al8 k a0) (D7 [(.slice 3 (.int .i64))] [.o])
noncomputable def B98 (k : Nat) : Cfg := { eqs := [], tab := [(111, D6)], spec := [(176, Bh8 k), (178, Ao4 k)], mspec := [], inl := [(221, Tryz.f221)], keep := [], join := [], hold := [], ptrs := [], maps := [], fuel := k }
noncomputable def D09 : VV → Ms → Option (List A1) := F7 [(.slice 260 B2)] [.o]
theorem Fa6 (k : Nat) (a0 : A6) : C4 (B98 k) D09 k 221 [B3 D6 a0] ms0 = Bo8 k a0 := by kernel_rfl
noncomputable def Cw2 (k : Nat) : Spec := .imm D6 fun (a0 : A6) => .body (Bo8 k a0) (D7 [(.slice 260 B2)] [.o])
noncomputable def Az9 (k : Nat) : Cfg := { eqs := [], tab := [(49, (.slice 3 (.int .i64))), (107, (.slice 162 A4)), (111, D6)], spec := [(208, o8 k), (221, Cw2 k)], mspec := [], inl := [(199, Tryz.f199)], keep := [(19900001004, [1, 3, 4, 5])], join := [], hold := [], ptrs := [], maps := [], fuel := k }
noncomputable def Bl9 : VV → Ms → Option (List Int) := F7 [(.slice 3 (.int .i64))] [.o]
noncomputable def Ap3 (k n : Nat) (v1 : Int) (a0 : A6) (xs2 : List Int) (r1 : List A1) : Option (List Int) := Q0 (Az9 k) Bl9 n true 19900001004 (cd [1, 1, 1, 0, 1, 0, 0] (bo Tryz.f199)) [.b 0, .s (cd [1, 1, 1, 1] (bo Tryz.f199)), .fn Tryz.f199] ⟨⟨(G4 24 0 [(1, one (.ptr 9000000 0)), (3, one (.row 9000001 none none)), (4, one (.row 9000002 none none)), (5, one (.int .i64 v1))]), [(9000000, .box [.slc 162 A4 a0.1, .slc 215 (.slice 260 B2) a0.2.1, .slc 4 .bool a0.2.2.1]), (9000001, .row 3 (.int .i64) xs2 true), (9000002, .row 260 B2 r1 true)]⟩, 19900001000, 1, [(0, (G4 0 0 []))]⟩
theorem Em2 (k n : Nat) (v1 : Int) (a0 : A6) (xs2 : List Int) (r1 : List A1) : Ap3 k (n + 1) v1 a0 xs2 r1 = Bu0 k (Ap3 k n) v1 a0 xs2 r1 := by kernel_rfl
theorem Da2 (k : Nat) : ∀ n : Nat, Ap3 k n = j1 k n
 | 0 => (by funext v1 a0 xs2 r1; rfl)
 | n + 1 => by
  obtain h0 := Da2 k n
  exact (by funext v1 a0 xs2 r1; rw [Em2, h0] <;> rfl)
theorem Fa7 (k : Nat) (a0 : A6) : C4 (Az9 k) Bl9 k 199 [B3 D6 a0] ms0 = C58 k (Ap3 k k) a0 := by kernel_rfl
theorem Fa8 (k : Nat) (a0 : A6) : C4 (Az9 k) Bl9 k 199 [B3 D6 a0] ms0 = Bo9 k a0 := by rw [Fa7, show Ap3 k k = j1 k k from (Da2 k k)] <;> rfl
noncomputable def Cw3 (k : Nat) : Spec := .imm D6 fun (a0 : A6) => .body (Bo9 k a0) (D7 [(.slice 3 (.int .i64))] [.o])
noncomputable def C22 (k : Nat) : Cfg := { eqs := [], tab := [(3, (.int .i64)), (49, (.slice 3 (.int .i64))), (111, D6), (162, A4)], spec := [(55, I1 k), (176, Bh8 k), (177, A52 k), (219, By9 k)], mspec := [], inl := [(220, Tryz.f220)], keep := [], join := [], hold := [], ptrs := [], maps := [], fuel := k }
noncomputable def Fa9 : VV → Ms → Option A0 := F7 [A4] [.o, .o]
theorem Gm1 (k : Nat) (a0 : A6) (a1 : Int) (a2 : A0) : C4 (C22 k) Fa9 k 220 [B3 D6 a0, B3 (.int .i64) a1, B3 A4 a2] ms0 = Cr2 k a0 a1 a2 := by kernel_rfl
noncomputable def Dr5 (k : Nat) : Spec := .imm D6 fun (a0 : A6) => .imm (.int .i64) fun (a1 : Int) => .imm A4 fun (a2 : A0) => .body (Cr2 k a0 a1 a2) (D7 [A4] [.o, .o])
noncomputable def e8 (k : Nat) : Cfg := { eqs := [], tab := [(3, (.int .i64)), (4, .bool), (9, .str), (49, (.slice 3 (.int .i64))), (106, (.slice 158 O4)), (109, (.slice 4 .bool)), (111, D6), (112, (.slice 164 Ak2)), (114, L6), (158, O4), (162, A4), (164, Ak2), (169, V6)], spec := [(55, I1 k), (100, By7 k), (115, B92 k), (154, B96 k), (155, Cw1 k), (198, Cj4 k), (199, Cw3 k), (220, Dr5 k)], mspec := [], inl := [(119, Tryz.f119), (156, Tryz.f156), (174, Tryz.f174), (197, Tryz.f197)], keep := [(11900001008, [1, 6, 9, 11, 12]), (11900001015, [1, 5, 6, 9, 10, 13]), (17400003023, [11, 12, 13]), (19700004009, [0, 7, 10])], join := [], hold := [(11900001015, [(9, [0, 1], 162, A4, true, false), (9, [0, 2], 215, (.slice 260 B2), true, false), (9, [0, 3], 4, .bool, true, false)])], ptrs := [], maps := [], fuel := k }
noncomputable def p0 : VV → Ms → Option (C0 × ByteArray × Bool) := F7 [L6, .str, .bool] [.o, .o, .o, .o, .o]
noncomputable def Ap4 (k n : Nat) (a1 : Int) (v1 : Int) (xs2 : List D4) (r4 : C0) : Option (C0 × ByteArray × Bool) := Q0 (e8 k) p0 n true 11900001008 (cd [1, 1, 1, 1, 0, 1, 0, 1, 0, 1, 0, 0] (bo Tryz.f119)) [.b 0, .s (cd [1, 1, 1, 1, 0, 1, 0, 1, 1] (bo Tryz.f119)), .s (cd [1, 1, 1, 1, 1] (bo Tryz.f119)), .fn Tryz.f119] ⟨⟨(G4 96 0 [(1, one (.int .i64 a1)), (6, one (.ptr 9000000 0)), (9, one (.ptr 9000001 0)), (11, one (.row 9000002 none none)), (12, one (.int .i64 v1))]), [(9000000, .box [.nilS, .nilS, .nilS, .nilS, .nilS]), (9000001, .box [.row 9000003 none none, .row 9000004 none none, .row 9000005 none none, .row 9000006 none none, .row 9000007 none none]), (9000002, .row 158 O4 xs2 true), (9000003, .row 158 O4 r4.1 true), (9000004, .row 162 A4 r4.2.1.1 true), (9000005, .row 215 (.slice 260 B2) r4.2.1.2.1 true), (9000006, .row 4 .bool r4.2.1.2.2.1 true), (9000007, .row 164 Ak2 r4.2.2.1 true)]⟩, 11900001000, 1, [(0, (G4 0 0 []))]⟩
noncomputable def j9 (k n : Nat) (a1 : Int) (v3 : ByteArray) (v4 : Int) (a2 : D1) (xs5 : List D4) (xs6 : List A0) (xs7 : List (List A1)) (xs8 : List Bool) (xs9 : List J5) : Option (C0 × ByteArray × Bool) := Q0 (e8 k) p0 n true 11900001015 (cd [1, 1, 1, 1, 0, 1, 1, 1, 0, 0] (bo Tryz.f119)) [.b 2, .s (cd [1, 1, 1, 1, 1] (bo Tryz.f119)), .fn Tryz.f119] ⟨⟨(G4 96 0 [(1, one (.int .i64 a1)), (5, one (.ptr 9000000 0)), (6, one (.ptr 9000001 0)), (9, one (.ptr 9000002 0)), (10, one (.str v3)), (13, one (.int .i64 v4))]), [(9000000, .box [.int .i64 a2.1, .int .i64 a2.2.1, .int .i64 a2.2.2.1, .int .i64 a2.2.2.2.1.1, .int .i64 a2.2.2.2.1.2.1, .int .i64 a2.2.2.2.1.2.2.1, .int .i64 a2.2.2.2.1.2.2.2.1, .int .i64 a2.2.2.2.1.2.2.2.2.1, .slc 3 (.int .i64) a2.2.2.2.1.2.2.2.2.2.1, .str a2.2.2.2.1.2.2.2.2.2.2.1, .slc 3 (.int .i64) a2.2.2.2.1.2.2.2.2.2.2.2.1, .int .i64 a2.2.2.2.1.2.2.2.2.2.2.2.2.1, .int .i64 a2.2.2.2.2.1, .int .i64 a2.2.2.2.2.2.1]), (9000001, .box [.nilS, .nilS, .nilS, .nilS, .nilS]), (9000002, .box [.row 9000003 none none, .row 9000004 none none, .row 9000005 none none, .row 9000006 none none, .row 9000007 none none]), (9000003, .row 158 O4 xs5 true), (9000004, .row 162 A4 xs6 false), (9000005, .row 215 (.slice 260 B2) xs7 false), (9000006, .row 4 .bool xs8 false), (9000007, .row 164 Ak2 xs9 true)]⟩, 11900001000, 1, [(0, (G4 0 0 []))]⟩
noncomputable def A62 (k n : Nat) (v10 : Int) (r8 : A0) (a2 : D1) (xs5 : List D4) (v4 : Int) (r9 : A6 × Bool) (xs11 : List J5) (a1 : Int) (v3 : ByteArray) : Option (C0 × ByteArray × Bool) := Q0 (e8 k) p0 n true 19700004009 (cd [1, 1, 1, 1, 1, 1, 0, 1, 0, 0] (bo Tryz.f197)) [.b 0, .s (cd [1, 1, 1, 1, 1, 1, 1] (bo Tryz.f197)), .fn Tryz.f197, .op (rg (cd [1, 0, 1, 0, 1, 0, 0] (bo Tryz.f174))) ((rg (cd [1, 0, 1, 0, 1, 0, 0] (bo Tryz.f174))).drop 5) 5 (some 22), .s (cd [1, 0, 1, 0, 1, 0, 1] (bo Tryz.f174)), .b 0, .s (cd [1, 1] (bo Tryz.f174)), .fn Tryz.f174, .op (rg (cd [1, 1, 1, 0] (bo Tryz.f156))) ((rg (cd [1, 1, 1, 0] (bo Tryz.f156))).drop 4) 4 (some 47), .s (cd [1, 1, 1, 1] (bo Tryz.f156)), .fn Tryz.f156, .op (rg (cd [1, 1, 1, 1, 0, 1, 1, 1, 0, 0, 1, 0, 0, 1, 0, 0] (bo Tryz.f119))) ((rg (cd [1, 1, 1, 1, 0, 1, 1, 1, 0, 0, 1, 0, 0, 1, 0, 0] (bo Tryz.f119))).drop 4) 4 (some 85), .s (cd [1, 1, 1, 1, 0, 1, 1, 1, 0, 0, 1, 0, 0, 1, 0, 1] (bo Tryz.f119)), .b 3, .s (cd [1, 1, 1, 1, 0, 1, 1, 1, 0, 0, 1, 1] (bo Tryz.f119)), .l 11900001015 (cd [1, 1, 1, 1, 0, 1, 1, 1, 0, 0] (bo Tryz.f119)), .b 2, .s (cd [1, 1, 1, 1, 1] (bo Tryz.f119)), .fn Tryz.f119] ⟨⟨(G4 76 0 [(0, one (.ptr 9000000 0)), (7, one (.ptr 9000001 0)), (10, one (.int .i64 v10))]), [(9000000, .box [.row 9000005 none none, .row 9000008 none none, .row 9000009 none none, .row 9000010 none none, .row 9000011 none none]), (9000001, .box [.int .i64 r8.1, .int .i64 r8.2.1, .int .i64 r8.2.2.1, .int .i64 r8.2.2.2.1, .int .i64 r8.2.2.2.2.1, .row 9000012 none none, .str r8.2.2.2.2.2.2.1, .row 9000013 none none, .int .i64 r8.2.2.2.2.2.2.2.2.1]), (9000002, .box [.int .i64 a2.1, .int .i64 a2.2.1, .int .i64 a2.2.2.1, .int .i64 a2.2.2.2.1.1, .int .i64 a2.2.2.2.1.2.1, .int .i64 a2.2.2.2.1.2.2.1, .int .i64 a2.2.2.2.1.2.2.2.1, .int .i64 a2.2.2.2.1.2.2.2.2.1, .slc 3 (.int .i64) a2.2.2.2.1.2.2.2.2.2.1, .str a2.2.2.2.1.2.2.2.2.2.2.1, .slc 3 (.int .i64) a2.2.2.2.1.2.2.2.2.2.2.2.1, .int .i64 a2.2.2.2.1.2.2.2.2.2.2.2.2.1, .int .i64 a2.2.2.2.2.1, .int .i64 a2.2.2.2.2.2.1]), (9000003, .box [.int .i64 a2.1, .int .i64 a2.2.1, .int .i64 a2.2.2.1, .int .i64 a2.2.2.2.1.1, .int .i64 a2.2.2.2.1.2.1, .int .i64 a2.2.2.2.1.2.2.1, .int .i64 a2.2.2.2.1.2.2.2.1, .int .i64 a2.2.2.2.1.2.2.2.2.1, .slc 3 (.int .i64) a2.2.2.2.1.2.2.2.2.2.1, .str a2.2.2.2.1.2.2.2.2.2.2.1, .slc 3 (.int .i64) a2.2.2.2.1.2.2.2.2.2.2.2.1, .int .i64 a2.2.2.2.1.2.2.2.2.2.2.2.2.1, .int .i64 a2.2.2.2.2.1, .int .i64 a2.2.2.2.2.2.1]), (9000004, .box [.int .i64 (rd A8 xs5 v4.toNat).1, .int .i64 (rd A8 xs5 v4.toNat).2.1, .str (rd A8 xs5 v4.toNat).2.2.1]), (9000005, .row 158 O4 xs5 true), (9000006, .box [.int .i64 a2.1, .int .i64 a2.2.1, .int .i64 a2.2.2.1, .int .i64 a2.2.2.2.1.1, .int .i64 a2.2.2.2.1.2.1, .int .i64 a2.2.2.2.1.2.2.1, .int .i64 a2.2.2.2.1.2.2.2.1, .int .i64 a2.2.2.2.1.2.2.2.2.1, .slc 3 (.int .i64) a2.2.2.2.1.2.2.2.2.2.1, .str a2.2.2.2.1.2.2.2.2.2.2.1, .slc 3 (.int .i64) a2.2.2.2.1.2.2.2.2.2.2.2.1, .int .i64 a2.2.2.2.1.2.2.2.2.2.2.2.2.1, .int .i64 a2.2.2.2.2.1, .int .i64 a2.2.2.2.2.2.1]), (9000007, .box [.nilS, .nilS, .nilS, .nilS, .nilS]), (9000008, .row 162 A4 r9.1.1 true), (9000009, .row 215 (.slice 260 B2) r9.1.2.1 true), (9000010, .row 4 .bool r9.1.2.2.1 true), (9000011, .row 164 Ak2 xs11 true), (9000012, .row 3 (.int .i64) r8.2.2.2.2.2.1 false), (9000013, .row 3 (.int .i64) r8.2.2.2.2.2.2.2.1 false)]⟩, 19700004000, 4, [(17400003000, (G4 113 0 [(0, one (.ptr 9000000 0)), (1, one (.int .i64 a1)), (2, .v ⟨true, [.int .i64 a2.1, .int .i64 a2.2.1, .int .i64 a2.2.2.1, .int .i64 a2.2.2.2.1.1, .int .i64 a2.2.2.2.1.2.1, .int .i64 a2.2.2.2.1.2.2.1, .int .i64 a2.2.2.2.1.2.2.2.1, .int .i64 a2.2.2.2.1.2.2.2.2.1, .slc 3 (.int .i64) a2.2.2.2.1.2.2.2.2.2.1, .str a2.2.2.2.1.2.2.2.2.2.2.1, .slc 3 (.int .i64) a2.2.2.2.1.2.2.2.2.2.2.2.1, .int .i64 a2.2.2.2.1.2.2.2.2.2.2.2.2.1, .int .i64 a2.2.2.2.2.1, .int .i64 a2.2.2.2.2.2.1]⟩), (5, one (.ptr 9000002 0)), (6, one (.str (⟨#[]⟩ : ByteArray))), (14, one (.ptr 9000002 0)), (15, one (.int .i64 a2.1)), (16, one (.bool true)), (17, one (.bool (a2.1 == 2))), (18, one (.ptr 9000000 0)), (19, one (.int .i64 a1)), (20, one (.ptr 9000002 3)), (21, .v ⟨true, [.int .i64 a2.2.2.2.1.1, .int .i64 a2.2.2.2.1.2.1, .int .i64 a2.2.2.2.1.2.2.1, .int .i64 a2.2.2.2.1.2.2.2.1, .int .i64 a2.2.2.2.1.2.2.2.2.1, .slc 3 (.int .i64) a2.2.2.2.1.2.2.2.2.2.1, .str a2.2.2.2.1.2.2.2.2.2.2.1, .slc 3 (.int .i64) a2.2.2.2.1.2.2.2.2.2.2.2.1, .int .i64 a2.2.2.2.1.2.2.2.2.2.2.2.2.1]⟩)])), (15600002000, (G4 61 0 [(0, one (.ptr 9000000 0)), (1, one (.int .i64 v4)), (2, one (.int .i64 a1)), (3, .v ⟨true, [.int .i64 a2.1, .int .i64 a2.2.1, .int .i64 a2.2.2.1, .int .i64 a2.2.2.2.1.1, .int .i64 a2.2.2.2.1.2.1, .int .i64 a2.2.2.2.1.2.2.1, .int .i64 a2.2.2.2.1.2.2.2.1, .int .i64 a2.2.2.2.1.2.2.2.2.1, .slc 3 (.int .i64) a2.2.2.2.1.2.2.2.2.2.1, .str a2.2.2.2.1.2.2.2.2.2.2.1, .slc 3 (.int .i64) a2.2.2.2.1.2.2.2.2.2.2.2.1, .int .i64 a2.2.2.2.1.2.2.2.2.2.2.2.2.1, .int .i64 a2.2.2.2.2.1, .int .i64 a2.2.2.2.2.2.1]⟩), (7, one (.ptr 9000003 0)), (8, one (.str (⟨#[]⟩ : ByteArray))), (9, one (.ptr 9000004 0)), (11, one (.ptr 9000000 0)), (12, one (.ptr 9000000 0)), (13, one (.ptr 9000000 0)), (14, one (.row 9000005 none none)), (15, one (.int .i64 v4)), (16, one (.eptr 9000005 v4.toNat 0)), (17, .v ⟨true, [.int .i64 (rd A8 xs5 v4.toNat).1, .int .i64 (rd A8 xs5 v4.toNat).2.1, .str (rd A8 xs5 v4.toNat).2.2.1]⟩), (18, one (.bool false)), (19, one (.ptr 9000003 2)), (20, one (.int .i64 a2.2.2.1)), (21, one (.ptr 9000004 1)), (22, one (.int .i64 (rd A8 xs5 v4.toNat).2.1)), (23, one (.int .i64 (B5 ((rd A8 xs5 v4.toNat).2.1 + 1)))), (24, one (.bool (decide (a2.2.2.1 > (B5 ((rd A8 xs5 v4.toNat).2.1 + 1)))))), (25, one (.bool false)), (26, one (.ptr 9000003 2)), (27, one (.int .i64 a2.2.2.1)), (28, one (.ptr 9000004 1)), (29, one (.int .i64 (rd A8 xs5 v4.toNat).2.1)), (30, one (.bool (decide (a2.2.2.1 < (rd A8 xs5 v4.toNat).2.1)))), (31, one (.bool false)), (32, one (.ptr 9000003 2)), (33, one (.int .i64 a2.2.2.1)), (34, one (.bool (a2.2.2.1 == 0))), (35, one (.bool (a2.2.2.1 == 0))), (36, one (.bool false)), (37, one (.ptr 9000003 2)), (38, one (.int .i64 a2.2.2.1)), (39, one (.ptr 9000004 1)), (40, one (.int .i64 (rd A8 xs5 v4.toNat).2.1)), (41, one (.bool (a2.2.2.1 == (rd A8 xs5 v4.toNat).2.1))), (44, one (.ptr 9000000 0)), (45, one (.int .i64 a1)), (46, .v ⟨true, [.int .i64 a2.1, .int .i64 a2.2.1, .int .i64 a2.2.2.1, .int .i64 a2.2.2.2.1.1, .int .i64 a2.2.2.2.1.2.1, .int .i64 a2.2.2.2.1.2.2.1, .int .i64 a2.2.2.2.1.2.2.2.1, .int .i64 a2.2.2.2.1.2.2.2.2.1, .slc 3 (.int .i64) a2.2.2.2.1.2.2.2.2.2.1, .str a2.2.2.2.1.2.2.2.2.2.2.1, .slc 3 (.int .i64) a2.2.2.2.1.2.2.2.2.2.2.2.1, .int .i64 a2.2.2.2.1.2.2.2.2.2.2.2.2.1, .int .i64 a2.2.2.2.2.1, .int .i64 a2.2.2.2.2.2.1]⟩)])), (11900001000, (G4 96 0 [(1, one (.int .i64 a1)), (5, one (.ptr 9000006 0)), (6, one (.ptr 9000007 0)), (9, one (.ptr 9000000 0)), (10, one (.str v3)), (13, one (.int .i64 v4)), (66, one (.int .i64 v4)), (67, one (.ptr 9000000 0)), (68, one (.row 9000005 none none)), (69, one (.int .i64 (xs5.length : Int))), (70, one (.bool true)), (73, one (.ptr 9000000 0)), (74, one (.row 9000005 none none)), (75, one (.int .i64 v4)), (76, one (.eptr 9000005 v4.toNat 0)), (77, one (.eptr 9000005 v4.toNat 0)), (78, one (.int .i64 (rd A8 xs5 v4.toNat).1)), (79, one (.ptr 9000006 1)), (80, one (.int .i64 a2.2.1)), (81, one (.bool true)), (82, one (.int .i64 v4)), (83, one (.int .i64 a1)), (84, .v ⟨true, [.int .i64 a2.1, .int .i64 a2.2.1, .int .i64 a2.2.2.1, .int .i64 a2.2.2.2.1.1, .int .i64 a2.2.2.2.1.2.1, .int .i64 a2.2.2.2.1.2.2.1, .int .i64 a2.2.2.2.1.2.2.2.1, .int .i64 a2.2.2.2.1.2.2.2.2.1, .slc 3 (.int .i64) a2.2.2.2.1.2.2.2.2.2.1, .str a2.2.2.2.1.2.2.2.2.2.2.1, .slc 3 (.int .i64) a2.2.2.2.1.2.2.2.2.2.2.2.1, .int .i64 a2.2.2.2.1.2.2.2.2.2.2.2.2.1, .int .i64 a2.2.2.2.2.1, .int .i64 a2.2.2.2.2.2.1]⟩)])), (0, (G4 0 0 []))]⟩
noncomputable def A63 (k n : Nat) (v12 : ByteArray) (v13 : Int) (r14 : List Int) (a2 : D1) (xs5 : List D4) (v4 : Int) (xs6 : List A0) (xs7 : List (List A1)) (xs8 : List Bool) (xs9 : List J5) (a1 : Int) (v3 : ByteArray) : Option (C0 × ByteArray × Bool) := Q0 (e8 k) p0 n true 17400003023 (cd [1, 1, 1, 1, 0, 1, 0, 0] (bo Tryz.f174)) [.b 1, .s (cd [1, 1, 1, 1, 1] (bo Tryz.f174)), .fn Tryz.f174, .op (rg (cd [1, 1, 1, 0] (bo Tryz.f156))) ((rg (cd [1, 1, 1, 0] (bo Tryz.f156))).drop 4) 4 (some 47), .s (cd [1, 1, 1, 1] (bo Tryz.f156)), .fn Tryz.f156, .op (rg (cd [1, 1, 1, 1, 0, 1, 1, 1, 0, 0, 1, 0, 0, 1, 0, 0] (bo Tryz.f119))) ((rg (cd [1, 1, 1, 1, 0, 1, 1, 1, 0, 0, 1, 0, 0, 1, 0, 0] (bo Tryz.f119))).drop 4) 4 (some 85), .s (cd [1, 1, 1, 1, 0, 1, 1, 1, 0, 0, 1, 0, 0, 1, 0, 1] (bo Tryz.f119)), .b 3, .s (cd [1, 1, 1, 1, 0, 1, 1, 1, 0, 0, 1, 1] (bo Tryz.f119)), .l 11900001015 (cd [1, 1, 1, 1, 0, 1, 1, 1, 0, 0] (bo Tryz.f119)), .b 2, .s (cd [1, 1, 1, 1, 1] (bo Tryz.f119)), .fn Tryz.f119] ⟨⟨(G4 113 0 [(11, one (.str v12)), (12, one (.row 9000000 none none)), (13, one (.int .i64 v13))]), [(9000000, .row 3 (.int .i64) r14 true), (9000001, .box [.row 9000004 none none, .row 9000007 none none, .row 9000008 none none, .row 9000009 none none, .row 9000010 none none]), (9000002, .box [.int .i64 a2.1, .int .i64 a2.2.1, .int .i64 a2.2.2.1, .int .i64 a2.2.2.2.1.1, .int .i64 a2.2.2.2.1.2.1, .int .i64 a2.2.2.2.1.2.2.1, .int .i64 a2.2.2.2.1.2.2.2.1, .int .i64 a2.2.2.2.1.2.2.2.2.1, .slc 3 (.int .i64) a2.2.2.2.1.2.2.2.2.2.1, .str a2.2.2.2.1.2.2.2.2.2.2.1, .slc 3 (.int .i64) a2.2.2.2.1.2.2.2.2.2.2.2.1, .int .i64 a2.2.2.2.1.2.2.2.2.2.2.2.2.1, .int .i64 a2.2.2.2.2.1, .int .i64 a2.2.2.2.2.2.1]), (9000003, .box [.int .i64 (rd A8 xs5 v4.toNat).1, .int .i64 (rd A8 xs5 v4.toNat).2.1, .str (rd A8 xs5 v4.toNat).2.2.1]), (9000004, .row 158 O4 xs5 true), (9000005, .box [.int .i64 a2.1, .int .i64 a2.2.1, .int .i64 a2.2.2.1, .int .i64 a2.2.2.2.1.1, .int .i64 a2.2.2.2.1.2.1, .int .i64 a2.2.2.2.1.2.2.1, .int .i64 a2.2.2.2.1.2.2.2.1, .int .i64 a2.2.2.2.1.2.2.2.2.1, .slc 3 (.int .i64) a2.2.2.2.1.2.2.2.2.2.1, .str a2.2.2.2.1.2.2.2.2.2.2.1, .slc 3 (.int .i64) a2.2.2.2.1.2.2.2.2.2.2.2.1, .int .i64 a2.2.2.2.1.2.2.2.2.2.2.2.2.1, .int .i64 a2.2.2.2.2.1, .int .i64 a2.2.2.2.2.2.1]), (9000006, .box [.nilS, .nilS, .nilS, .nilS, .nilS]), (9000007, .row 162 A4 xs6 false), (9000008, .row 215 (.slice 260 B2) xs7 false), (9000009, .row 4 .bool xs8 false), (9000010, .row 164 Ak2 xs9 true)]⟩, 17400003000, 3, [(15600002000, (G4 61 0 [(0, one (.ptr 9000001 0)), (1, one (.int .i64 v4)), (2, one (.int .i64 a1)), (3, .v ⟨true, [.int .i64 a2.1, .int .i64 a2.2.1, .int .i64 a2.2.2.1, .int .i64 a2.2.2.2.1.1, .int .i64 a2.2.2.2.1.2.1, .int .i64 a2.2.2.2.1.2.2.1, .int .i64 a2.2.2.2.1.2.2.2.1, .int .i64 a2.2.2.2.1.2.2.2.2.1, .slc 3 (.int .i64) a2.2.2.2.1.2.2.2.2.2.1, .str a2.2.2.2.1.2.2.2.2.2.2.1, .slc 3 (.int .i64) a2.2.2.2.1.2.2.2.2.2.2.2.1, .int .i64 a2.2.2.2.1.2.2.2.2.2.2.2.2.1, .int .i64 a2.2.2.2.2.1, .int .i64 a2.2.2.2.2.2.1]⟩), (7, one (.ptr 9000002 0)), (8, one (.str (⟨#[]⟩ : ByteArray))), (9, one (.ptr 9000003 0)), (11, one (.ptr 9000001 0)), (12, one (.ptr 9000001 0)), (13, one (.ptr 9000001 0)), (14, one (.row 9000004 none none)), (15, one (.int .i64 v4)), (16, one (.eptr 9000004 v4.toNat 0)), (17, .v ⟨true, [.int .i64 (rd A8 xs5 v4.toNat).1, .int .i64 (rd A8 xs5 v4.toNat).2.1, .str (rd A8 xs5 v4.toNat).2.2.1]⟩), (18, one (.bool false)), (19, one (.ptr 9000002 2)), (20, one (.int .i64 a2.2.2.1)), (21, one (.ptr 9000003 1)), (22, one (.int .i64 (rd A8 xs5 v4.toNat).2.1)), (23, one (.int .i64 (B5 ((rd A8 xs5 v4.toNat).2.1 + 1)))), (24, one (.bool (decide (a2.2.2.1 > (B5 ((rd A8 xs5 v4.toNat).2.1 + 1)))))), (25, one (.bool false)), (26, one (.ptr 9000002 2)), (27, one (.int .i64 a2.2.2.1)), (28, one (.ptr 9000003 1)), (29, one (.int .i64 (rd A8 xs5 v4.toNat).2.1)), (30, one (.bool (decide (a2.2.2.1 < (rd A8 xs5 v4.toNat).2.1)))), (31, one (.bool false)), (32, one (.ptr 9000002 2)), (33, one (.int .i64 a2.2.2.1)), (34, one (.bool (a2.2.2.1 == 0))), (35, one (.bool (a2.2.2.1 == 0))), (36, one (.bool false)), (37, one (.ptr 9000002 2)), (38, one (.int .i64 a2.2.2.1)), (39, one (.ptr 9000003 1)), (40, one (.int .i64 (rd A8 xs5 v4.toNat).2.1)), (41, one (.bool (a2.2.2.1 == (rd A8 xs5 v4.toNat).2.1))), (44, one (.ptr 9000001 0)), (45, one (.int .i64 a1)), (46, .v ⟨true, [.int .i64 a2.1, .int .i64 a2.2.1, .int .i64 a2.2.2.1, .int .i64 a2.2.2.2.1.1, .int .i64 a2.2.2.2.1.2.1, .int .i64 a2.2.2.2.1.2.2.1, .int .i64 a2.2.2.2.1.2.2.2.1, .int .i64 a2.2.2.2.1.2.2.2.2.1, .slc 3 (.int .i64) a2.2.2.2.1.2.2.2.2.2.1, .str a2.2.2.2.1.2.2.2.2.2.2.1, .slc 3 (.int .i64) a2.2.2.2.1.2.2.2.2.2.2.2.1, .int .i64 a2.2.2.2.1.2.2.2.2.2.2.2.2.1, .int .i64 a2.2.2.2.2.1, .int .i64 a2.2.2.2.2.2.1]⟩)])), (11900001000, (G4 96 0 [(1, one (.int .i64 a1)), (5, one (.ptr 9000005 0)), (6, one (.ptr 9000006 0)), (9, one (.ptr 9000001 0)), (10, one (.str v3)), (13, one (.int .i64 v4)), (66, one (.int .i64 v4)), (67, one (.ptr 9000001 0)), (68, one (.row 9000004 none none)), (69, one (.int .i64 (xs5.length : Int))), (70, one (.bool true)), (73, one (.ptr 9000001 0)), (74, one (.row 9000004 none none)), (75, one (.int .i64 v4)), (76, one (.eptr 9000004 v4.toNat 0)), (77, one (.eptr 9000004 v4.toNat 0)), (78, one (.int .i64 (rd A8 xs5 v4.toNat).1)), (79, one (.ptr 9000005 1)), (80, one (.int .i64 a2.2.1)), (81, one (.bool true)), (82, one (.int .i64 v4)), (83, one (.int .i64 a1)), (84, .v ⟨true, [.int .i64 a2.1, .int .i64 a2.2.1, .int .i64 a2.2.2.1, .int .i64 a2.2.2.2.1.1, .int .i64 a2.2.2.2.1.2.1, .int .i64 a2.2.2.2.1.2.2.1, .int .i64 a2.2.2.2.1.2.2.2.1, .int .i64 a2.2.2.2.1.2.2.2.2.1, .slc 3 (.int .i64) a2.2.2.2.1.2.2.2.2.2.1, .str a2.2.2.2.1.2.2.2.2.2.2.1, .slc 3 (.int .i64) a2.2.2.2.1.2.2.2.2.2.2.2.1, .int .i64 a2.2.2.2.1.2.2.2.2.2.2.2.2.1, .int .i64 a2.2.2.2.2.1, .int .i64 a2.2.2.2.2.2.1]⟩)])), (0, (G4 0 0 []))]⟩
theorem Em3 (k n : Nat) (a1 : Int) (v1 : Int) (xs2 : List D4) (r4 : C0) : Ap4 k (n + 1) a1 v1 xs2 r4 = Bu1 k (Ap4 k n) a1 v1 xs2 r4 := by kernel_rfl
theorem Em4 (k n : Nat) (a1 : Int) (v3 : ByteArray) (v4 : Int) (a2 : D1) (xs5 : List D4) (xs6 : List A0) (xs7 : List (List A1)) (xs8 : List Bool) (xs9 : List J5) : j9 k (n + 1) a1 v3 v4 a2 xs5 xs6 xs7 xs8 xs9 = Ac2 k (j9 k n) (A62 k n) (A63 k n) a1 v3 v4 a2 xs5 xs6 xs7 xs8 xs9 := by kernel_rfl
theorem Em5 (k n : Nat) (v10 : Int) (r8 : A0) (a2 : D1) (xs5 : List D4) (v4 : Int) (r9 : A6 × Bool) (xs11 : List J5) (a1 : Int) (v3 : ByteArray) : A62 k (n + 1) v10 r8 a2 xs5 v4 r9 xs11 a1 v3 = A44 k (A62 k n) (j9 k n) v10 r8 a2 xs5 v4 r9 xs11 a1 v3 := by kernel_rfl
theorem Em6 (k n : Nat) (v12 : ByteArray) (v13 : Int) (r14 : List Int) (a2 : D1) (xs5 : List D4) (v4 : Int) (xs6 : List A0) (xs7 : List (List A1)) (xs8 : List Bool) (xs9 : List J5) (a1 : Int) (v3 : ByteArray) : A63 k (n + 1) v12 v13 r14 a2 xs5 v4 xs6 xs7 xs8 xs9 a1 v3 = A45 k (A63 k n) (j9 k n) v12 v13 r14 a2 xs5 v4 xs6 xs7 xs8 xs9 a1 v3 := by kernel_rfl
theorem B99 (k : Nat) : ∀ n : Nat, Ap4 k n = R5 k n ∧ j9 k n = H3 k n ∧ A62 k n = Ac3 k n ∧ A63 k n = Ac4 k n
 | 0 => ⟨(by funext a1 v1 xs2 r4; rfl), (by funext a1 v3 v4 a2 xs5 xs6 xs7 xs8 xs9; rfl), (by funext v10 r8 a2 xs5 v4 r9 xs11 a1 v3; rfl), (by funext v12 v13 r14 a2 xs5 v4 xs6 xs7 xs8 xs9 a1 v3; rfl)⟩
 | n + 1 => by
  obtain ⟨h0, h1, h2, h3⟩ := B99 k n
  exact ⟨(by funext a1 v1 xs2 r4; rw [Em3, h0] <;> rfl), (by funext a1 v3 v4 a2 xs5 xs6 xs7 xs8 xs9; rw [Em4, h1, h2, h3] <;> rfl), (by funext v10 r8 a2 xs5 v4 r9 xs11 a1 v3; rw [Em5, h2, h1] <;> rfl), (by funext v12 v13 r14 a2 xs5 v4 xs6 xs7 xs8 xs9 a1 v3; rw [Em6, h3, h1] <;> rfl)⟩
theorem Fb0 (k : Nat) (a0 : C0) (a1 : Int) (a2 : D1) : C4 (e8 k) p0 k 119 [B3 L6 a0, B3 (.int .i64) a1, B3 V6 a2] ms0 = C59 k (Ap4 k k) (j9 k k) a0 a1 a2 := by kernel_rfl
theorem Fb1 (k : Nat) (a0 : C0) (a1 : Int) (a2 : D1) : C4 (e8 k) p0 k 119 [B3 L6 a0, B3 (.int .i64) a1, B3 V6 a2] ms0 = Bp0 k a0 a1 a2 := by rw [Fb0, show Ap4 k k = R5 k k from (B99 k k).1, show j9 k k = H3 k k from (B99 k k).2.1] <;> rfl
noncomputable def Cw4 (k : Nat) : Spec := .imm L6 fun (a0 : C0) => .imm (.int .i64) fun (a1 : Int) => .imm V6 fun (a2 : D1) => .body (Bp0 k a0 a1 a2) (D7 [L6, .str, .bool] [.o, .o, .o, .o, .o])
noncomputable def Ca0 (k : Nat) : Cfg := { eqs := [], tab := [], spec := [], mspec := [(65, P5 k)], inl := [(88, Tryz.f88)], keep := [], join := [], hold := [], ptrs := [], maps := [], fuel := k }
noncomputable def D10 : VV → Ms → Option (Bool × A9 × Unit) := Cq1 [.bool] [] [.box C8, .imm (.int .i64)]
theorem Fb2 (k : Nat) (a0 : A9) (a1 : Int) : C4 (Ca0 k) D10 k 88 (S7 1 [.box C8, .imm (.int .i64)] (a0, a1, ())) (ms1 [.box C8, .imm (.int .i64)] (a0, a1, ())) = N7 k a0 a1 := by kernel_rfl
noncomputable def Ap5 (k : Nat) : MSpec := .box C8 fun (a0 : A9) => .imm (.int .i64) fun (a1 : Int) => .body (N7 k a0 a1) (fun r => D7 [.bool] [] r.1) (fun r => poV [.box C8, .imm (.int .i64)] r.2)
noncomputable def Bd4 (k : Nat) : Cfg := { eqs := [], tab := [(3, (.int .i64)), (49, (.slice 3 (.int .i64)))], spec := [], mspec := [(65, P5 k)], inl := [(157, Tryz.f157)], keep := [], join := [], hold := [], ptrs := [], maps := [], fuel := k }
noncomputable def C23 : VV → Ms → Option (Int × A9 × Unit) := Cq1 [(.int .i64)] [] [.box C8, .imm (.slice 3 (.int .i64))]
theorem Dr6 (k : Nat) (a0 : A9) (a1 : List Int) : C4 (Bd4 k) C23 k 157 (S7 1 [.box C8, .imm (.slice 3 (.int .i64))] (a0, a1, ())) (ms1 [.box C8, .imm (.slice 3 (.int .i64))] (a0, a1, ())) = R6 k a0 a1 := by kernel_rfl
noncomputable def A22 (k : Nat) : MSpec := .box C8 fun (a0 : A9) => .imm (.slice 3 (.int .i64)) fun (a1 : List Int) => .body (R6 k a0 a1) (fun r => D7 [(.int .i64)] [] r.1) (fun r => poV [.box C8, .imm (.slice 3 (.int .i64))] r.2)
noncomputable def Ca1 (k : Nat) : Cfg := { eqs := [], tab := [(9, .str), (75, (.slice 9 .str))], spec := [], mspec := [(65, P5 k)], inl := [(200, Tryz.f200)], keep := [], join := [], hold := [], ptrs := [], maps := [], fuel := k }
noncomputable def D11 : VV → Ms → Option (ByteArray × A9 × Unit) := Cq1 [.str] [] [.box C8, .imm (.slice 9 .str)]
theorem Fb3 (k : Nat) (a0 : A9) (a1 : List ByteArray) : C4 (Ca1 k) D11 k 200 (S7 1 [.box C8, .imm (.slice 9 .str)] (a0, a1, ())) (ms1 [.box C8, .imm (.slice 9 .str)] (a0, a1, ())) = A75 k a0 a1 := by kernel_rfl
noncomputable def Cw5 (k : Nat) : MSpec := .box C8 fun (a0 : A9) => .imm (.slice 9 .str) fun (a1 : List ByteArray) => .body (A75 k a0 a1) (fun r => D7 [.str] [] r.1) (fun r => poV [.box C8, .imm (.slice 9 .str)] r.2)
noncomputable def Af9 (k : Nat) : Cfg := { eqs := [], tab := [(3, (.int .i64)), (9, .str), (49, (.slice 3 (.int .i64))), (75, (.slice 9 .str)), (162, A4)], spec := [], mspec := [(65, P5 k), (88, Ap5 k), (157, A22 k), (200, Cw5 k)], inl := [(175, Tryz.f175)], keep := [(17500001012, [0, 2, 3, 4])], join := [], hold := [(17500001012, [(3, [0, 5], 3, (.int .i64), false, false)])], ptrs := [], maps := [], fuel := k }
noncomputable def A23 : VV → Ms → Option (A0 × A9 × Unit) := Cq1 [A4] [.o, .o] [.box C8]
noncomputable def Ab0 (k n : Nat) (v1 : Int) (v2 : List Int) (v3 : Int) (v4 : Int) (r1 : Int × A9 × Unit) (r2 : Int × A9 × Unit) (xs5 : List Int) : Option (A0 × A9 × Unit) := Q0 (Af9 k) A23 n true 17500001012 (cd [1, 1, 0, 1, 0, 1, 1, 1, 0, 0, 1, 0, 0] (bo Tryz.f175)) [.b 1, .s (cd [1, 1, 0, 1, 0, 1, 1, 1, 0, 1] (bo Tryz.f175)), .b 0, .s (cd [1, 1, 1] (bo Tryz.f175)), .fn Tryz.f175] ⟨⟨(G4 67 0 [(0, one (.ptr 9000000 0)), (2, one (.ptr 9000001 0)), (3, one (.ptr 9000002 0)), (4, one (.int .i64 v1))]), [(9000000, .box [.slc 5 (.int .u8) v2, .int .i64 v3, .int .i64 v4]), (9000001, .box [.int .i64 0, .int .i64 0, .int .i64 0, .int .i64 0, .int .i64 0, .nilS, .str ByteArray.empty, .nilS, .int .i64 0]), (9000002, .box [.int .i64 0, .int .i64 r1.1, .int .i64 (B5 (1 + r2.1)), .int .i64 0, .int .i64 0, .row 9000003 none none, .str ByteArray.empty, .nilS, .int .i64 0]), (9000003, .row 3 (.int .i64) xs5 true)]⟩, 17500001000, 1, [(0, (G4 1 0 [(0, one (.ptr 9000000 0))]))]⟩
theorem Dr7 (k n : Nat) (v1 : Int) (v2 : List Int) (v3 : Int) (v4 : Int) (r1 : Int × A9 × Unit) (r2 : Int × A9 × Unit) (xs5 : List Int) : Ab0 k (n + 1) v1 v2 v3 v4 r1 r2 xs5 = A96 k (Ab0 k n) v1 v2 v3 v4 r1 r2 xs5 := by kernel_rfl
theorem Cj5 (k : Nat) : ∀ n : Nat, Ab0 k n = T3 k n
 | 0 => (by funext v1 v2 v3 v4 r1 r2 xs5; rfl)
 | n + 1 => by
  obtain h0 := Cj5 k n
  exact (by funext v1 v2 v3 v4 r1 r2 xs5; rw [Dr7, h0] <;> rfl)
theorem D12 (k : Nat) (a0 : A9) : C4 (Af9 k) A23 k 175 (S7 1 [.box C8] (a0, ())) (ms1 [.box C8] (a0, ())) = Cg7 k (Ab0 k k) a0 := by kernel_rfl
theorem D13 (k : Nat) (a0 : A9) : C4 (Af9 k) A23 k 175 (S7 1 [.box C8] (a0, ())) (ms1 [.box C8] (a0, ())) = Aj2 k a0 := by rw [D12, show Ab0 k k = T3 k k from (Cj5 k k)] <;> rfl
noncomputable def Ca2 (k : Nat) : MSpec := .box C8 fun (a0 : A9) => .body (Aj2 k a0) (fun r => D7 [A4] [.o, .o] r.1) (fun r => poV [.box C8] r.2)
noncomputable def Aj9 (k : Nat) : Cfg := { eqs := [], tab := [(3, (.int .i64)), (49, (.slice 3 (.int .i64))), (107, (.slice 162 A4)), (111, D6), (162, A4)], spec := [(176, Bh8 k), (177, A52 k), (178, Ao4 k), (179, A53 k)], mspec := [(65, P5 k), (88, Ap5 k), (175, Ca2 k)], inl := [(158, Tryz.f158)], keep := [(15800001008, [0, 2, 4, 6, 7, 8, 9, 10]), (15800001018, [0, 2, 4, 6, 7, 11, 13])], join := [], hold := [], ptrs := [], maps := [], fuel := k }
noncomputable def Av9 : VV → Ms → Option (A0 × A9 × Unit) := Cq1 [A4] [.o, .o] [.box C8, .imm D6, .imm (.int .i64)]
noncomputable def A64 (k n : Nat) (a2 : Int) (v6 : Int) (v7 : List Int) (v8 : Int) (v9 : Int) (a1 : A6) (v10 : Int) (v11 : Int) (v12 : Int) (v13 : Int) (v14 : ByteArray) (r6 : Int) (xs15 : List A1) (xs16 : List Int) (xs17 : List Int) : Option (A0 × A9 × Unit) := Q0 (Aj9 k) Av9 n true 15800001018 (cd [1, 1, 1, 1, 1, 1, 1, 1, 1, 1, 1, 0, 1, 0, 0] (bo Tryz.f158)) [.b 2, .s (cd [1, 1, 1, 1, 1, 1, 1, 1, 1, 1, 1, 1] (bo Tryz.f158)), .fn Tryz.f158] ⟨⟨(G4 130 0 [(0, one (.ptr 9000000 0)), (2, one (.int .i64 a2)), (4, one (.ptr 9000001 0)), (6, one (.ptr 9000002 0)), (7, one (.ptr 9000003 0)), (11, one (.row 9000004 none none)), (13, one (.int .i64 v6))]), [(9000000, .box [.slc 5 (.int .u8) v7, .int .i64 v8, .int .i64 v9]), (9000001, .box [.slc 162 A4 a1.1, .slc 215 (.slice 260 B2) a1.2.1, .slc 4 .bool a1.2.2.1]), (9000002, .box [.int .i64 0, .int .i64 0, .int .i64 0, .int .i64 0, .int .i64 0, .nilS, .str ByteArray.empty, .nilS, .int .i64 0]), (9000003, .box [.int .i64 a2, .int .i64 v10, .int .i64 v11, .int .i64 v12, .int .i64 v13, .row 9000005 none none, .str v14, .row 9000006 none none, .int .i64 r6]), (9000004, .row 260 B2 xs15 true), (9000005, .row 3 (.int .i64) xs16 true), (9000006, .row 3 (.int .i64) xs17 true)]⟩, 15800001000, 1, [(0, (G4 3 0 [(0, one (.ptr 9000000 0))]))]⟩
noncomputable def Ap6 (k n : Nat) (a2 : Int) (v1 : Int) (v2 : List Int) (v3 : Int) (v4 : Int) (a1 : A6) (r1 : A0 × A9 × Unit) (r2 : List Int) (xs5 : List Int) : Option (A0 × A9 × Unit) := Q0 (Aj9 k) Av9 n true 15800001008 (cd [1, 1, 1, 1, 1, 1, 0, 1, 0, 0] (bo Tryz.f158)) [.b 0, .s (cd [1, 1, 1, 1, 1, 1, 1] (bo Tryz.f158)), .fn Tryz.f158] ⟨⟨(G4 130 0 [(0, one (.ptr 9000000 0)), (2, one (.int .i64 a2)), (4, one (.ptr 9000001 0)), (6, one (.ptr 9000002 0)), (7, one (.ptr 9000003 0)), (8, one (.row 9000004 none none)), (9, one (.row 9000005 none none)), (10, one (.int .i64 v1))]), [(9000000, .box [.slc 5 (.int .u8) v2, .int .i64 v3, .int .i64 v4]), (9000001, .box [.slc 162 A4 a1.1, .slc 215 (.slice 260 B2) a1.2.1, .slc 4 .bool a1.2.2.1]), (9000002, .box [.int .i64 0, .int .i64 0, .int .i64 0, .int .i64 0, .int .i64 0, .nilS, .str ByteArray.empty, .nilS, .int .i64 0]), (9000003, .box [.int .i64 a2, .int .i64 r1.1.2.1, .int .i64 r1.1.2.2.1, .int .i64 r1.1.2.2.2.1, .int .i64 r1.1.2.2.2.2.1, .row 9000006 none none, .str r1.1.2.2.2.2.2.2.1, .row 9000007 none none, .int .i64 r1.1.2.2.2.2.2.2.2.2.1]), (9000004, .row 3 (.int .i64) r2 true), (9000005, .row 3 (.int .i64) xs5 true), (9000006, .row 3 (.int .i64) r1.1.2.2.2.2.2.1 true), (9000007, .row 3 (.int .i64) r1.1.2.2.2.2.2.2.2.1 true)]⟩, 15800001000, 1, [(0, (G4 3 0 [(0, one (.ptr 9000000 0))]))]⟩
theorem Em7 (k n : Nat) (a2 : Int) (v6 : Int) (v7 : List Int) (v8 : Int) (v9 : Int) (a1 : A6) (v10 : Int) (v11 : Int) (v12 : Int) (v13 : Int) (v14 : ByteArray) (r6 : Int) (xs15 : List A1) (xs16 : List Int) (xs17 : List Int) : A64 k (n + 1) a2 v6 v7 v8 v9 a1 v10 v11 v12 v13 v14 r6 xs15 xs16 xs17 = Bu3 k (A64 k n) a2 v6 v7 v8 v9 a1 v10 v11 v12 v13 v14 r6 xs15 xs16 xs17 := by kernel_rfl
theorem Em8 (k n : Nat) (a2 : Int) (v1 : Int) (v2 : List Int) (v3 : Int) (v4 : Int) (a1 : A6) (r1 : A0 × A9 × Unit) (r2 : List Int) (xs5 : List Int) : Ap6 k (n + 1) a2 v1 v2 v3 v4 a1 r1 r2 xs5 = Bu4 k (Ap6 k n) (A64 k n) a2 v1 v2 v3 v4 a1 r1 r2 xs5 := by kernel_rfl
theorem Da3 (k : Nat) : ∀ n : Nat, A64 k n = V0 k n ∧ Ap6 k n = V2 k n
 | 0 => ⟨(by funext a2 v6 v7 v8 v9 a1 v10 v11 v12 v13 v14 r6 xs15 xs16 xs17; rfl), (by funext a2 v1 v2 v3 v4 a1 r1 r2 xs5; rfl)⟩
 | n + 1 => by
  obtain ⟨h1, h0⟩ := Da3 k n
  exact ⟨(by funext a2 v6 v7 v8 v9 a1 v10 v11 v12 v13 v14 r6 xs15 xs16 xs17; rw [Em7, h1] <;> rfl), (by funext a2 v1 v2 v3 v4 a1 r1 r2 xs5; rw [Em8, h0, h1] <;> rfl)⟩
theorem Fb4 (k : Nat) (a0 : A9) (a1 : A6) (a2 : Int) : C4 (Aj9 k) Av9 k 158 (S7 1 [.box C8, .imm D6, .imm (.int .i64)] (a0, a1, a2, ())) (ms1 [.box C8, .imm D6, .imm (.int .i64)] (a0, a1, a2, ())) = C60 k (Ap6 k k) a0 a1 a2 := by kernel_rfl
theorem Fb5 (k : Nat) (a0 : A9) (a1 : A6) (a2 : Int) : C4 (Aj9 k) Av9 k 158 (S7 1 [.box C8, .imm D6, .imm (.int .i64)] (a0, a1, a2, ())) (ms1 [.box C8, .imm D6, .imm (.int .i64)] (a0, a1, a2, ())) = N8 k a0 a1 a2 := by rw [Fb4, show Ap6 k k = V2 k k from (Da3 k k).2] <;> rfl
noncomputable def Cw6 (k : Nat) : MSpec := .box C8 fun (a0 : A9) => .imm D6 fun (a1 : A6) => .imm (.int .i64) fun (a2 : Int) => .body (N8 k a0 a1 a2) (fun r => D7 [A4] [.o, .o] r.1) (fun r => poV [.box C8, .imm D6, .imm (.int .i64)] r.2)
noncomputable def Ab1 (k : Nat) : Cfg := { eqs := [], tab := [(3, (.int .i64)), (49, (.slice 3 (.int .i64))), (106, (.slice 158 O4)), (111, D6), (114, L6), (158, O4), (162, A4), (169, V6)], spec := [(152, Ad3 k)], mspec := [(65, P5 k), (88, Ap5 k), (157, A22 k), (158, Cw6 k)], inl := [(120, Tryz.f120)], keep := [(12050001006, [0, 3, 4, 5])], join := [(12000001006, 12050001006)], hold := [], ptrs := [], maps := [], fuel := k }
noncomputable def Au7 : VV → Ms → Option (D1 × A9 × Unit) := Cq1 [V6] [.o, .o] [.box C8, .imm L6]
noncomputable def Ah1 (k n : Nat) (v1 : List Int) (v2 : Int) (v3 : Int) (a1 : C0) (v4 : Int) : Option (D1 × A9 × Unit) := Q0 (Ab1 k) Au7 n false 12050001006 (cd [1, 1, 1, 1] (bo Tryz.f120)) [.fn Tryz.f120] ⟨⟨(G4 122 0 [(0, one (.ptr 9000000 0)), (3, one (.ptr 9000001 0)), (4, one (.ptr 9000002 0)), (5, one (.ptr 9000003 0))]), [(9000000, .box [.slc 5 (.int .u8) v1, .int .i64 v2, .int .i64 v3]), (9000001, .box [.slc 158 O4 a1.1, .slc 162 A4 a1.2.1.1, .slc 215 (.slice 260 B2) a1.2.1.2.1, .slc 4 .bool a1.2.1.2.2.1, .slc 164 Ak2 a1.2.2.1]), (9000002, .box [.int .i64 0, .int .i64 0, .int .i64 0, .int .i64 0, .int .i64 0, .int .i64 0, .int .i64 0, .int .i64 0, .nilS, .str ByteArray.empty, .nilS, .int .i64 0, .int .i64 0, .int .i64 0]), (9000003, .box [.int .i64 v4, .int .i64 0, .int .i64 0, .int .i64 0, .int .i64 0, .int .i64 0, .int .i64 0, .int .i64 0, .nilS, .str ByteArray.empty, .nilS, .int .i64 0, .int .i64 0, .int .i64 0])]⟩, 12000001000, 1, [(0, (G4 2 0 [(0, one (.ptr 9000000 0))]))]⟩
theorem Dd5 (k n : Nat) (v1 : List Int) (v2 : Int) (v3 : Int) (a1 : C0) (v4 : Int) : Ah1 k (n + 1) v1 v2 v3 a1 v4 = A13 k v1 v2 v3 a1 v4 := by kernel_rfl
theorem Ca3 (k : Nat) : ∀ n : Nat, Ah1 k n = I5 k n
 | 0 => (by funext v1 v2 v3 a1 v4; rfl)
 | n + 1 => by
  obtain h0 := Ca3 k n
  exact (by funext v1 v2 v3 a1 v4; rw [Dd5] <;> rfl)
theorem Dr8 (k : Nat) (a0 : A9) (a1 : C0) : C4 (Ab1 k) Au7 k 120 (S7 1 [.box C8, .imm L6] (a0, a1, ())) (ms1 [.box C8, .imm L6] (a0, a1, ())) = A97 k (Ah1 k k) a0 a1 := by kernel_rfl
theorem Dr9 (k : Nat) (a0 : A9) (a1 : C0) : C4 (Ab1 k) Au7 k 120 (S7 1 [.box C8, .imm L6] (a0, a1, ())) (ms1 [.box C8, .imm L6] (a0, a1, ())) = Ac5 k a0 a1 := by rw [Dr8, show Ah1 k k = I5 k k from (Ca3 k k)] <;> rfl
noncomputable def B18 (k : Nat) : MSpec := .box C8 fun (a0 : A9) => .imm L6 fun (a1 : C0) => .body (Ac5 k a0 a1) (fun r => D7 [V6] [.o, .o] r.1) (fun r => poV [.box C8, .imm L6] r.2)
noncomputable def A00 (k : Nat) : Cfg := { eqs := [], tab := [(114, L6)], spec := [(118, Cw0 k), (119, Cw4 k)], mspec := [(65, P5 k), (120, B18 k)], inl := [(69, Tryz.f69)], keep := [(6900001003, [0, 1, 4, 5, 6])], join := [], hold := [(6900001003, [(5, [0, 0], 158, O4, true, false), (5, [0, 1], 162, A4, true, false), (5, [0, 2], 215, (.slice 260 B2), true, false), (5, [0, 3], 4, .bool, true, false), (5, [0, 4], 164, Ak2, true, false)])], ptrs := [], maps := [], fuel := k }
noncomputable def Bm0 : VV → Ms → Option (C0 × A9 × Unit) := Cq1 [L6] [.s, .s, .s, .s, .s] [.box C8, .imm (.int .i64)]
noncomputable def Ap7 (k n : Nat) (a1 : Int) (v1 : Int) (v2 : List Int) (v3 : Int) (v4 : Int) (xs5 : List D4) (xs6 : List A0) (xs7 : List (List A1)) (xs8 : List Bool) (xs9 : List J5) : Option (C0 × A9 × Unit) := Q0 (A00 k) Bm0 n true 6900001003 (cd [1, 1, 0, 1, 0, 0] (bo Tryz.f69)) [.b 0, .s (cd [1, 1, 1] (bo Tryz.f69)), .fn Tryz.f69] ⟨⟨(G4 33 0 [(0, one (.ptr 9000000 0)), (1, one (.int .i64 a1)), (4, one (.ptr 9000001 0)), (5, one (.ptr 9000002 0)), (6, one (.int .i64 v1))]), [(9000000, .box [.slc 5 (.int .u8) v2, .int .i64 v3, .int .i64 v4]), (9000001, .box [.nilS, .nilS, .nilS, .nilS, .nilS]), (9000002, .box [.row 9000003 none none, .row 9000004 none none, .row 9000005 none none, .row 9000006 none none, .row 9000007 none none]), (9000003, .row 158 O4 xs5 false), (9000004, .row 162 A4 xs6 false), (9000005, .row 215 (.slice 260 B2) xs7 false), (9000006, .row 4 .bool xs8 false), (9000007, .row 164 Ak2 xs9 false)]⟩, 6900001000, 1, [(0, (G4 2 0 [(0, one (.ptr 9000000 0))]))]⟩
theorem Em9 (k n : Nat) (a1 : Int) (v1 : Int) (v2 : List Int) (v3 : Int) (v4 : Int) (xs5 : List D4) (xs6 : List A0) (xs7 : List (List A1)) (xs8 : List Bool) (xs9 : List J5) : Ap7 k (n + 1) a1 v1 v2 v3 v4 xs5 xs6 xs7 xs8 xs9 = Bu5 k (Ap7 k n) a1 v1 v2 v3 v4 xs5 xs6 xs7 xs8 xs9 := by kernel_rfl
theorem Da4 (k : Nat) : ∀ n : Nat, Ap7 k n = j2 k n
 | 0 => (by funext a1 v1 v2 v3 v4 xs5 xs6 xs7 xs8 xs9; rfl)
 | n + 1 => by
  obtain h0 := Da4 k n
  exact (by funext a1 v1 v2 v3 v4 xs5 xs6 xs7 xs8 xs9; rw [Em9, h0] <;> rfl)
theorem Fb6 (k : Nat) (a0 : A9) (a1 : Int) : C4 (A00 k) Bm0 k 69 (S7 1 [.box C8, .imm (.int .i64)] (a0, a1, ())) (ms1 [.box C8, .imm (.int .i64)] (a0, a1, ())) = C61 k (Ap7 k k) a0 a1 := by kernel_rfl
theorem Fb7 (k : Nat) (a0 : A9) (a1 : Int) : C4 (A00 k) Bm0 k 69 (S7 1 [.box C8, .imm (.int .i64)] (a0, a1, ())) (ms1 [.box C8, .imm (.int .i64)] (a0, a1, ())) = A76 k a0 a1 := by rw [Fb6, show Ap7 k k = j2 k k from (Da4 k k)] <;> rfl
noncomputable def Cw7 (k : Nat) : MSpec := .box C8 fun (a0 : A9) => .imm (.int .i64) fun (a1 : Int) => .body (A76 k a0 a1) (fun r => D7 [L6] [.s, .s, .s, .s, .s] r.1) (fun r => poV [.box C8, .imm (.int .i64)] r.2)
noncomputable def A01 (k : Nat) : Cfg := { eqs := [], tab := [(49, (.slice 3 (.int .i64)))], spec := [], mspec := [(88, Ap5 k)], inl := [(70, Tryz.f70)], keep := [(7000001003, [0, 3, 4])], join := [], hold := [], ptrs := [], maps := [], fuel := k }
noncomputable def Bm1 : VV → Ms → Option (List Int × A9 × Unit) := Cq1 [(.slice 3 (.int .i64))] [.o] [.box C8]
noncomputable def Ap8 (k n : Nat) (v1 : Int) (v2 : List Int) (v3 : Int) (v4 : Int) (xs5 : List Int) : Option (List Int × A9 × Unit) := Q0 (A01 k) Bm1 n true 7000001003 (cd [1, 1, 0, 1, 0, 0] (bo Tryz.f70)) [.b 0, .s (cd [1, 1, 1] (bo Tryz.f70)), .fn Tryz.f70] ⟨⟨(G4 23 0 [(0, one (.ptr 9000000 0)), (3, one (.row 9000001 none none)), (4, one (.int .i64 v1))]), [(9000000, .box [.slc 5 (.int .u8) v2, .int .i64 v3, .int .i64 v4]), (9000001, .row 3 (.int .i64) xs5 true)]⟩, 7000001000, 1, [(0, (G4 1 0 [(0, one (.ptr 9000000 0))]))]⟩
theorem En0 (k n : Nat) (v1 : Int) (v2 : List Int) (v3 : Int) (v4 : Int) (xs5 : List Int) : Ap8 k (n + 1) v1 v2 v3 v4 xs5 = Bu6 k (Ap8 k n) v1 v2 v3 v4 xs5 := by kernel_rfl
theorem Da5 (k : Nat) : ∀ n : Nat, Ap8 k n = j3 k n
 | 0 => (by funext v1 v2 v3 v4 xs5; rfl)
 | n + 1 => by
  obtain h0 := Da5 k n
  exact (by funext v1 v2 v3 v4 xs5; rw [En0, h0] <;> rfl)
theorem Fb8 (k : Nat) (a0 : A9) : C4 (A01 k) Bm1 k 70 (S7 1 [.box C8] (a0, ())) (ms1 [.box C8] (a0, ())) = C62 k (Ap8 k k) a0 := by kernel_rfl
theorem Fb9 (k : Nat) (a0 : A9) : C4 (A01 k) Bm1 k 70 (S7 1 [.box C8] (a0, ())) (ms1 [.box C8] (a0, ())) = A77 k a0 := by rw [Fb8, show Ap8 k k = j3 k k from (Da5 k k)] <;> rfl
noncomputable def Cw8 (k : Nat) : MSpec := .box C8 fun (a0 : A9) => .body (A77 k a0) (fun r => D7 [(.slice 3 (.int .i64))] [.o] r.1) (fun r => poV [.box C8] r.2)
noncomputable def A02 (k : Nat) : Cfg := { eqs := [], tab := [(3, (.int .i64)), (49, (.slice 3 (.int .i64)))], spec := [(55, I1 k)], mspec := [], inl := [(180, Tryz.f180)], keep := [(18000001002, [0, 1, 2, 7])], join := [], hold := [], ptrs := [], maps := [], fuel := k }
noncomputable def Bm2 : VV → Ms → Option Bool := F7 [.bool] []
noncomputable def Ap9 (k n : Nat) (a0 : List Int) (a1 : Int) (a2 : Int) (v1 : Int) : Option Bool := Q0 (A02 k) Bm2 n true 18000001002 (cd [1, 0, 1, 0, 0] (bo Tryz.f180)) [.b 0, .s (cd [1, 1] (bo Tryz.f180)), .fn Tryz.f180] ⟨⟨(G4 38 0 [(0, one (.slc 3 (.int .i64) a0)), (1, one (.int .i64 a1)), (2, one (.int .i64 a2)), (7, one (.int .i64 v1))]), []⟩, 18000001000, 1, [(0, (G4 0 0 []))]⟩
theorem En1 (k n : Nat) (a0 : List Int) (a1 : Int) (a2 : Int) (v1 : Int) : Ap9 k (n + 1) a0 a1 a2 v1 = A46 k (Ap9 k n) a0 a1 a2 v1 := by kernel_rfl
theorem Da6 (k : Nat) : ∀ n : Nat, Ap9 k n = V3 k n
 | 0 => (by funext a0 a1 a2 v1; rfl)
 | n + 1 => by
  obtain h0 := Da6 k n
  exact (by funext a0 a1 a2 v1; rw [En1, h0] <;> rfl)
theorem Fc0 (k : Nat) (a0 : List Int) (a1 : Int) (a2 : Int) : C4 (A02 k) Bm2 k 180 [B3 (.slice 3 (.int .i64)) a0, B3 (.int .i64) a1, B3 (.int .i64) a2] ms0 = C63 k (Ap9 k k) a0 a1 a2 := by kernel_rfl
theorem Fc1 (k : Nat) (a0 : List Int) (a1 : Int) (a2 : Int) : C4 (A02 k) Bm2 k 180 [B3 (.slice 3 (.int .i64)) a0, B3 (.int .i64) a1, B3 (.int .i64) a2] ms0 = Cc9 k a0 a1 a2 := by rw [Fc0, show Ap9 k k = V3 k k from (Da6 k k)] <;> rfl
noncomputable def Cw9 (k : Nat) : Spec := .imm (.slice 3 (.int .i64)) fun (a0 : List Int) => .imm (.int .i64) fun (a1 : Int) => .imm (.int .i64) fun (a2 : Int) => .body (Cc9 k a0 a1 a2) (D7 [.bool] [])
noncomputable def Cm9 (k : Nat) : Cfg := { eqs := [], tab := [(49, (.slice 3 (.int .i64)))], spec := [(55, I1 k), (180, Cw9 k)], mspec := [], inl := [(159, Tryz.f159)], keep := [], join := [], hold := [], ptrs := [], maps := [], fuel := k }
noncomputable def En2 : VV → Ms → Option Bool := F7 [.bool] []
theorem Fx4 (k : Nat) (a0 : List Int) : C4 (Cm9 k) En2 k 159 [B3 (.slice 3 (.int .i64)) a0] ms0 = B49 k a0 := by kernel_rfl
noncomputable def Da7 (k : Nat) : Spec := .imm (.slice 3 (.int .i64)) fun (a0 : List Int) => .body (B49 k a0) (D7 [.bool] [])
noncomputable def Aq0 (k : Nat) : Cfg := { eqs := [], tab := [(3, (.int .i64)), (5, (.int .u8)), (9, .str), (22, (.slice 5 (.int .u8))), (49, (.slice 3 (.int .i64)))], spec := [(159, Da7 k)], mspec := [], inl := [(121, Tryz.f121)], keep := [(12100001005, [0, 4, 5])], join := [], hold := [], ptrs := [], maps := [], fuel := k }
noncomputable def Bd5 : VV → Ms → Option (ByteArray × Bool) := F7 [.str, .bool] []
noncomputable def Ag0 (k n : Nat) (a0 : List Int) (v1 : Int) (xs2 : List Int) : Option (ByteArray × Bool) := Q0 (Aq0 k) Bd5 n true 12100001005 (cd [1, 1, 1, 0, 1, 0, 0] (bo Tryz.f121)) [.b 0, .s (cd [1, 1, 1, 1] (bo Tryz.f121)), .fn Tryz.f121] ⟨⟨(G4 26 0 [(0, one (.slc 3 (.int .i64) a0)), (4, one (.row 9000000 none none)), (5, one (.int .i64 v1))]), [(9000000, .row 5 (.int .u8) xs2 true)]⟩, 12100001000, 1, [(0, (G4 0 0 []))]⟩
theorem D14 (k n : Nat) (a0 : List Int) (v1 : Int) (xs2 : List Int) : Ag0 k (n + 1) a0 v1 xs2 = Bj4 k (Ag0 k n) a0 v1 xs2 := by kernel_rfl
theorem Cx0 (k : Nat) : ∀ n : Nat, Ag0 k n = W9 k n
 | 0 => (by funext a0 v1 xs2; rfl)
 | n + 1 => by
  obtain h0 := Cx0 k n
  exact (by funext a0 v1 xs2; rw [D14, h0] <;> rfl)
theorem En3 (k : Nat) (a0 : List Int) : C4 (Aq0 k) Bd5 k 121 [B3 (.slice 3 (.int .i64)) a0] ms0 = Cr3 k (Ag0 k k) a0 := by kernel_rfl
theorem En4 (k : Nat) (a0 : List Int) : C4 (Aq0 k) Bd5 k 121 [B3 (.slice 3 (.int .i64)) a0] ms0 = A98 k a0 := by rw [En3, show Ag0 k k = W9 k k from (Cx0 k k)] <;> rfl
noncomputable def Cj6 (k : Nat) : Spec := .imm (.slice 3 (.int .i64)) fun (a0 : List Int) => .body (A98 k a0) (D7 [.str, .bool] [])
noncomputable def Ca4 (k : Nat) : Cfg := { eqs := [], tab := [(5, (.int .u8)), (9, .str), (22, (.slice 5 (.int .u8))), (139, (.int .u32))], spec := [], mspec := [], inl := [(144, Tryz.f144)], keep := [], join := [], hold := [], ptrs := [], maps := [], fuel := k }
noncomputable def D15 : VV → Ms → Option ByteArray := F7 [.str] []
theorem Fc2 (k : Nat) (a0 : Int) : C4 (Ca4 k) D15 k 144 [B3 (.int .u32) a0] ms0 = Cd0 k a0 := by kernel_rfl
noncomputable def Cx1 (k : Nat) : Spec := .imm (.int .u32) fun (a0 : Int) => .body (Cd0 k a0) (D7 [.str] [])
noncomputable def Ak0 (k : Nat) : Cfg := { eqs := [], tab := [(5, (.int .u8)), (9, .str), (139, (.int .u32))], spec := [], mspec := [], inl := [(163, Tryz.f163)], keep := [(16300001002, [0, 1, 5]), (16300001006, [0, 1, 5, 6])], join := [], hold := [], ptrs := [], maps := [], fuel := k }
noncomputable def Aw0 : VV → Ms → Option Int := F7 [(.int .u32)] []
noncomputable def Aq1 (k n : Nat) (a0 : Int) (a1 : ByteArray) (v1 : Int) : Option Int := Q0 (Ak0 k) Aw0 n true 16300001002 (cd [1, 0, 1, 0, 0] (bo Tryz.f163)) [.b 0, .s (cd [1, 1] (bo Tryz.f163)), .fn Tryz.f163] ⟨⟨(G4 33 0 [(0, one (.int .u32 a0)), (1, one (.str a1)), (5, one (.int .i64 v1))]), []⟩, 16300001000, 1, [(0, (G4 0 0 []))]⟩
noncomputable def A65 (k n : Nat) (v2 : Int) (a1 : ByteArray) (v1 : Int) (v3 : Int) : Option Int := Q0 (Ak0 k) Aw0 n true 16300001006 (cd [1, 0, 1, 0, 0, 1, 0, 0, 1, 1, 0, 0] (bo Tryz.f163)) [.b 2, .b 1, .s (cd [1, 0, 1, 0, 0, 1, 1] (bo Tryz.f163)), .l 16300001002 (cd [1, 0, 1, 0, 0] (bo Tryz.f163)), .b 0, .s (cd [1, 1] (bo Tryz.f163)), .fn Tryz.f163] ⟨⟨(G4 33 0 [(0, one (.int .u32 v2)), (1, one (.str a1)), (5, one (.int .i64 v1)), (6, one (.int .i64 v3))]), []⟩, 16300001000, 1, [(0, (G4 0 0 []))]⟩
theorem En5 (k n : Nat) (a0 : Int) (a1 : ByteArray) (v1 : Int) : Aq1 k (n + 1) a0 a1 v1 = Al9 k (A65 k n) a0 a1 v1 := by kernel_rfl
theorem En6 (k n : Nat) (v2 : Int) (a1 : ByteArray) (v1 : Int) (v3 : Int) : A65 k (n + 1) v2 a1 v1 v3 = Am0 k (A65 k n) (Aq1 k n) v2 a1 v1 v3 := by kernel_rfl
theorem Da8 (k : Nat) : ∀ n : Nat, Aq1 k n = j4 k n ∧ A65 k n = Am1 k n
 | 0 => ⟨(by funext a0 a1 v1; rfl), (by funext v2 a1 v1 v3; rfl)⟩
 | n + 1 => by
  obtain ⟨h0, h1⟩ := Da8 k n
  exact ⟨(by funext a0 a1 v1; rw [En5, h1] <;> rfl), (by funext v2 a1 v1 v3; rw [En6, h1, h0] <;> rfl)⟩
theorem Fc3 (k : Nat) (a0 : Int) (a1 : ByteArray) : C4 (Ak0 k) Aw0 k 163 [B3 (.int .u32) a0, B3 .str a1] ms0 = C64 k (Aq1 k k) a0 a1 := by kernel_rfl
theorem Fc4 (k : Nat) (a0 : Int) (a1 : ByteArray) : C4 (Ak0 k) Aw0 k 163 [B3 (.int .u32) a0, B3 .str a1] ms0 = Cd1 k a0 a1 := by rw [Fc3, show Aq1 k k = j4 k k from (Da8 k k).1] <;> rfl
noncomputable def Cx2 (k : Nat) : Spec := .imm (.int .u32) fun (a0 : Int) => .imm .str fun (a1 : ByteArray) => .body (Cd1 k a0 a1) (D7 [(.int .u32)] [])
noncomputable def C24 (k : Nat) : Cfg := { eqs := [], tab := [], spec := [(163, Cx2 k)], mspec := [], inl := [(145, Tryz.f145)], keep := [], join := [], hold := [], ptrs := [], maps := [], fuel := k }
noncomputable def Fc5 : VV → Ms → Option Int := F7 [(.int .u32)] []
theorem Gm2 (k : Nat) (a0 : ByteArray) : C4 (C24 k) Fc5 k 145 [B3 .str a0] ms0 = Bu7 k a0 := by kernel_rfl
noncomputable def Ds0 (k : Nat) : Spec := .imm .str fun (a0 : ByteArray) => .body (Bu7 k a0) (D7 [(.int .u32)] [])
noncomputable def Cn0 (k : Nat) : Cfg := { eqs := [], tab := [(9, .str)], spec := [(144, Cx1 k), (145, Ds0 k)], mspec := [], inl := [(122, Tryz.f122)], keep := [], join := [], hold := [], ptrs := [], maps := [], fuel := k }
noncomputable def En7 : VV → Ms → Option (ByteArray × Bool) := F7 [.str, .bool] []
theorem Fx5 (k : Nat) (a0 : ByteArray) : C4 (Cn0 k) En7 k 122 [B3 .str a0] ms0 = B50 k a0 := by kernel_rfl
noncomputable def Da9 (k : Nat) : Spec := .imm .str fun (a0 : ByteArray) => .body (B50 k a0) (D7 [.str, .bool] [])
noncomputable def Bz2 (k : Nat) : Cfg := { eqs := [], tab := [(3, (.int .i64)), (9, .str), (49, (.slice 3 (.int .i64))), (56, X9)], spec := [(55, I1 k), (109, Aj8 k), (116, Av6 k), (121, Cj6 k), (122, Da9 k)], mspec := [], inl := [(71, Tryz.f71)], keep := [], join := [], hold := [], ptrs := [], maps := [], fuel := k }
noncomputable def Ds1 : VV → Ms → Option (ByteArray × Bool) := F7 [.str, .bool] []
theorem En8 (k : Nat) (a0 : E5) : C4 (Bz2 k) Ds1 k 71 [B3 X9 a0] ms0 = A99 k a0 := by kernel_rfl
noncomputable def Cj7 (k : Nat) : Spec := .imm X9 fun (a0 : E5) => .body (A99 k a0) (D7 [.str, .bool] [])
noncomputable def Bz3 (k : Nat) : Cfg := { eqs := [], tab := [], spec := [(55, I1 k), (100, By7 k)], mspec := [], inl := [(73, Tryz.f73)], keep := [], join := [], hold := [], ptrs := [], maps := [], fuel := k }
noncomputable def Ds2 : VV → Ms → Option ByteArray := F7 [.str] []
theorem En9 (k : Nat) (a0 : Int) : C4 (Bz3 k) Ds2 k 73 [B3 (.int .i64) a0] ms0 = At4 k a0 := by kernel_rfl
noncomputable def Cj8 (k : Nat) : Spec := .imm (.int .i64) fun (a0 : Int) => .body (At4 k a0) (D7 [.str] [])
noncomputable def O5 (k : Nat) : Cfg := { eqs := [], tab := [(3, (.int .i64)), (5, (.int .u8)), (9, .str), (22, (.slice 5 (.int .u8))), (26, F4), (56, X9), (99, I2), (129, C8)], spec := [(68, Cj2 k), (71, Cj7 k), (72, B74 k), (73, Cj8 k)], mspec := [(65, P5 k), (69, Cw7 k), (70, Cw8 k)], inl := [(23, Tryz.f23), (32, Tryz.f32)], keep := [(2300001004, [2, 3, 4, 5, 6]), (3200002003, [0, 3, 4])], join := [], hold := [(2300001004, [(5, [0, 0], 99, I2, false, false)])], ptrs := [], maps := [], fuel := k }
noncomputable def V9 : VV → Ms → Option (B9 × E5) := F7 [F4, X9] [.o, .o]
noncomputable def Y5 (k n : Nat) (v3 : Int) (a0 : List Int) (v4 : Int) (v1 : Int) (xs5 : List B4) : Option (B9 × E5) := Q0 (O5 k) V9 n true 2300001004 (cd [1, 1, 1, 0, 1, 0, 0] (bo Tryz.f23)) [.b 0, .s (cd [1, 1, 1, 1] (bo Tryz.f23)), .fn Tryz.f23] ⟨⟨(G4 67 0 [(2, one (.ptr 9000000 0)), (3, one (.ptr 9000001 0)), (4, one (.ptr 9000002 0)), (5, one (.ptr 9000003 0)), (6, one (.int .i64 v3))]), [(9000000, .box [.nilS]), (9000001, .box [.int .i64 0, .int .i64 0, .nilS, .str ByteArray.empty]), (9000002, .box [.slc 5 (.int .u8) a0, .int .i64 v4, .int .i64 v1]), (9000003, .box [.row 9000004 none none]), (9000004, .row 99 I2 xs5 true)]⟩, 2300001000, 1, [(0, (G4 0 0 []))]⟩
noncomputable def Q6 (k n : Nat) (a0 : List Int) (v1 : Int) (v2 : Int) : Option (B9 × E5) := Q0 (O5 k) V9 n true 3200002003 (cd [1, 1, 0, 1, 0, 0] (bo Tryz.f32)) [.b 0, .s (cd [1, 1, 1] (bo Tryz.f32)), .fn Tryz.f32, .op (rg (cd [1, 0] (bo Tryz.f23))) ((rg (cd [1, 0] (bo Tryz.f23))).drop 2) 2 (some 15), .s (cd [1, 1] (bo Tryz.f23)), .fn Tryz.f23] ⟨⟨(G4 32 0 [(0, one (.slc 5 (.int .u8) a0)), (3, one (.int .i64 v1)), (4, one (.int .i64 v2))]), [(9000000, .box [.nilS]), (9000001, .box [.int .i64 0, .int .i64 0, .nilS, .str ByteArray.empty])]⟩, 3200002000, 2, [(2300001000, (G4 67 0 [(0, one (.slc 5 (.int .u8) a0)), (2, one (.ptr 9000000 0)), (3, one (.ptr 9000001 0)), (14, one (.slc 5 (.int .u8) a0))])), (0, (G4 0 0 []))]⟩
theorem Ce6 (k n : Nat) (v3 : Int) (a0 : List Int) (v4 : Int) (v1 : Int) (xs5 : List B4) : Y5 k (n + 1) v3 a0 v4 v1 xs5 = Ad7 k (Y5 k n) v3 a0 v4 v1 xs5 := by kernel_rfl
theorem Ce7 (k n : Nat) (a0 : List Int) (v1 : Int) (v2 : Int) : Q6 k (n + 1) a0 v1 v2 = Ad8 k (Q6 k n) (Y5 k n) a0 v1 v2 := by kernel_rfl
theorem Bd6 (k : Nat) : ∀ n : Nat, Y5 k n = K5 k n ∧ Q6 k n = K6 k n
 | 0 => ⟨(by funext v3 a0 v4 v1 xs5; rfl), (by funext a0 v1 v2; rfl)⟩
 | n + 1 => by
  obtain ⟨h1, h0⟩ := Bd6 k n
  exact ⟨(by funext v3 a0 v4 v1 xs5; rw [Ce6, h1] <;> rfl), (by funext a0 v1 v2; rw [Ce7, h0, h1] <;> rfl)⟩
theorem Cn1 (k : Nat) (a0 : List Int) : C4 (O5 k) V9 k 23 [B3 (.slice 5 (.int .u8)) a0] ms0 = Ba0 k (Q6 k k) a0 := by kernel_rfl
theorem Cn2 (k : Nat) (a0 : List Int) : C4 (O5 k) V9 k 23 [B3 (.slice 5 (.int .u8)) a0] ms0 = Z2 k a0 := by rw [Cn1, show Q6 k k = K6 k k from (Bd6 k k).2] <;> rfl
noncomputable def A28 (k : Nat) : Spec := .imm (.slice 5 (.int .u8)) fun (a0 : List Int) => .body (Z2 k a0) (D7 [F4, X9] [.o, .o])
noncomputable def Cn3 (k : Nat) : Cfg := { eqs := [], tab := [], spec := [], mspec := [], inl := [(39, Tryz.f39)], keep := [], join := [], hold := [], ptrs := [], maps := [], fuel := k }
noncomputable def Eo0 : VV → Ms → Option Bool := F7 [.bool] []
theorem Fx6 (k : Nat) (a0 : Int) (a1 : Int) (a2 : Int) : C4 (Cn3 k) Eo0 k 39 [B3 (.int .i64) a0, B3 (.int .i64) a1, B3 (.int .i64) a2] ms0 = Z3 k a0 a1 a2 := by kernel_rfl
noncomputable def Ab2 (k : Nat) : Spec := .imm (.int .i64) fun (a0 : Int) => .imm (.int .i64) fun (a1 : Int) => .imm (.int .i64) fun (a2 : Int) => .body (Z3 k a0 a1 a2) (D7 [.bool] [])
noncomputable def Bd7 (k : Nat) : Cfg := { eqs := [], tab := [(3, (.int .i64)), (49, (.slice 3 (.int .i64)))], spec := [(39, Ab2 k)], mspec := [], inl := [(123, Tryz.f123)], keep := [(12300001002, [0, 5, 6, 7])], join := [], hold := [], ptrs := [], maps := [], fuel := k }
noncomputable def Bz4 : VV → Ms → Option Bool := F7 [.bool] []
noncomputable def A03 (k n : Nat) (a0 : List Int) (v1 : Int) : Option Bool := Q0 (Bd7 k) Bz4 n true 12300001002 (cd [1, 0, 1, 0, 0] (bo Tryz.f123)) [.b 0, .s (cd [1, 1] (bo Tryz.f123)), .fn Tryz.f123] ⟨⟨(G4 32 0 [(0, one (.slc 3 (.int .i64) a0)), (5, one (.slc 3 (.int .i64) a0)), (6, one (.int .i64 (a0.length : Int))), (7, one (.int .i64 v1))]), []⟩, 12300001000, 1, [(0, (G4 0 0 []))]⟩
theorem Fc6 (k n : Nat) (a0 : List Int) (v1 : Int) : A03 k (n + 1) a0 v1 = Bg4 k (A03 k n) a0 v1 := by kernel_rfl
theorem Ds3 (k : Nat) : ∀ n : Nat, A03 k n = d9 k n
 | 0 => (by funext a0 v1; rfl)
 | n + 1 => by
  obtain h0 := Ds3 k n
  exact (by funext a0 v1; rw [Fc6, h0] <;> rfl)
theorem Fx7 (k : Nat) (a0 : List Int) : C4 (Bd7 k) Bz4 k 123 [B3 (.slice 3 (.int .i64)) a0] ms0 = Dk9 k (A03 k k) a0 := by kernel_rfl
theorem Fx8 (k : Nat) (a0 : List Int) : C4 (Bd7 k) Bz4 k 123 [B3 (.slice 3 (.int .i64)) a0] ms0 = Bp1 k a0 := by rw [Fx7, show A03 k k = d9 k k from (Ds3 k k)] <;> rfl
noncomputable def Ca5 (k : Nat) : Spec := .imm (.slice 3 (.int .i64)) fun (a0 : List Int) => .body (Bp1 k a0) (D7 [.bool] [])
noncomputable def Aq2 (k : Nat) : Cfg := { eqs := [], tab := [(3, (.int .i64)), (5, (.int .u8)), (9, .str), (22, (.slice 5 (.int .u8))), (49, (.slice 3 (.int .i64)))], spec := [(123, Ca5 k)], mspec := [], inl := [(74, Tryz.f74)], keep := [(7400001005, [4, 10, 11, 12])], join := [], hold := [(7400001005, [(4, [0], 5, (.int .u8), false, false)])], ptrs := [], maps := [], fuel := k }
noncomputable def Bd8 : VV → Ms → Option (ByteArray × Bool) := F7 [.str, .bool] []
noncomputable def Ag1 (k n : Nat) (a0 : List Int) (v1 : Int) (xs2 : List Int) : Option (ByteArray × Bool) := Q0 (Aq2 k) Bd8 n true 7400001005 (cd [1, 1, 1, 0, 1, 0, 0] (bo Tryz.f74)) [.b 0, .s (cd [1, 1, 1, 1] (bo Tryz.f74)), .fn Tryz.f74] ⟨⟨(G4 24 0 [(4, one (.row 9000000 none none)), (10, one (.slc 3 (.int .i64) a0)), (11, one (.int .i64 (a0.length : Int))), (12, one (.int .i64 v1))]), [(9000000, .row 5 (.int .u8) xs2 true)]⟩, 7400001000, 1, [(0, (G4 0 0 []))]⟩
theorem D16 (k n : Nat) (a0 : List Int) (v1 : Int) (xs2 : List Int) : Ag1 k (n + 1) a0 v1 xs2 = Bj5 k (Ag1 k n) a0 v1 xs2 := by kernel_rfl
theorem Cx3 (k : Nat) : ∀ n : Nat, Ag1 k n = X0 k n
 | 0 => (by funext a0 v1 xs2; rfl)
 | n + 1 => by
  obtain h0 := Cx3 k n
  exact (by funext a0 v1 xs2; rw [D16, h0] <;> rfl)
theorem Eo1 (k : Nat) (a0 : List Int) : C4 (Aq2 k) Bd8 k 74 [B3 (.slice 3 (.int .i64)) a0] ms0 = Cr4 k (Ag1 k k) a0 := by kernel_rfl
theorem Eo2 (k : Nat) (a0 : List Int) : C4 (Aq2 k) Bd8 k 74 [B3 (.slice 3 (.int .i64)) a0] ms0 = Ba1 k a0 := by rw [Eo1, show Ag1 k k = X0 k k from (Cx3 k k)] <;> rfl
noncomputable def Cj9 (k : Nat) : Spec := .imm (.slice 3 (.int .i64)) fun (a0 : List Int) => .body (Ba1 k a0) (D7 [.str, .bool] [])
noncomputable def A04 (k : Nat) : Cfg := { eqs := [], tab := [(3, (.int .i64)), (5, (.int .u8)), (9, .str), (22, (.slice 5 (.int .u8)))], spec := [(39, Ab2 k)], mspec := [], inl := [(93, Tryz.f93)], keep := [(9300001004, [0, 4])], join := [], hold := [(9300001004, [(4, [0], 5, (.int .u8), false, false)])], ptrs := [], maps := [], fuel := k }
noncomputable def Bm3 : VV → Ms → Option (ByteArray × Bool) := F7 [.str, .bool] []
noncomputable def Aq3 (k n : Nat) (a0 : Int) (xs1 : List Int) : Option (ByteArray × Bool) := Q0 (A04 k) Bm3 n true 9300001004 (cd [1, 1, 1, 0, 0, 0] (bo Tryz.f93)) [.b 0, .s (cd [1, 1, 1, 1] (bo Tryz.f93)), .fn Tryz.f93] ⟨⟨(G4 25 0 [(0, one (.int .i64 a0)), (4, one (.row 9000000 none none))]), [(9000000, .row 5 (.int .u8) xs1 true)]⟩, 9300001000, 1, [(0, (G4 0 0 []))]⟩
theorem Eo3 (k n : Nat) (a0 : Int) (xs1 : List Int) : Aq3 k (n + 1) a0 xs1 = A47 k (Aq3 k n) a0 xs1 := by kernel_rfl
theorem Db0 (k : Nat) : ∀ n : Nat, Aq3 k n = j5 k n
 | 0 => (by funext a0 xs1; rfl)
 | n + 1 => by
  obtain h0 := Db0 k n
  exact (by funext a0 xs1; rw [Eo3, h0] <;> rfl)
theorem Fc7 (k : Nat) (a0 : Int) : C4 (A04 k) Bm3 k 93 [B3 (.int .i64) a0] ms0 = Bg5 k (Aq3 k k) a0 := by kernel_rfl
theorem Fc8 (k : Nat) (a0 : Int) : C4 (A04 k) Bm3 k 93 [B3 (.int .i64) a0] ms0 = U4 k a0 := by rw [Fc7, show Aq3 k k = j5 k k from (Db0 k k)] <;> rfl
noncomputable def A66 (k : Nat) : Spec := .imm (.int .i64) fun (a0 : Int) => .body (U4 k a0) (D7 [.str, .bool] [])
noncomputable def Ca6 (k : Nat) : Cfg := { eqs := [], tab := [(3, (.int .i64)), (9, .str), (22, (.slice 5 (.int .u8))), (49, (.slice 3 (.int .i64)))], spec := [(93, A66 k)], mspec := [], inl := [(75, Tryz.f75)], keep := [(7500001003, [4, 9, 10, 11])], join := [], hold := [(7500001003, [(4, [0], 5, (.int .u8), false, false)])], ptrs := [], maps := [], fuel := k }
noncomputable def Cn4 : VV → Ms → Option (ByteArray × Bool) := F7 [.str, .bool] []
noncomputable def Bq7 (k n : Nat) (a0 : List Int) (v1 : Int) (xs2 : List Int) : Option (ByteArray × Bool) := Q0 (Ca6 k) Cn4 n true 7500001003 (cd [1, 1, 0, 1, 0, 0] (bo Tryz.f75)) [.b 0, .s (cd [1, 1, 1] (bo Tryz.f75)), .fn Tryz.f75] ⟨⟨(G4 28 0 [(4, one (.row 9000000 none none)), (9, one (.slc 3 (.int .i64) a0)), (10, one (.int .i64 (a0.length : Int))), (11, one (.int .i64 v1))]), [(9000000, .row 5 (.int .u8) xs2 true)]⟩, 7500001000, 1, [(0, (G4 0 0 []))]⟩
theorem Gm3 (k n : Nat) (a0 : List Int) (v1 : Int) (xs2 : List Int) : Bq7 k (n + 1) a0 v1 xs2 = Cd2 k (Bq7 k n) a0 v1 xs2 := by kernel_rfl
theorem Fc9 (k : Nat) : ∀ n : Nat, Bq7 k n = At5 k n
 | 0 => (by funext a0 v1 xs2; rfl)
 | n + 1 => by
  obtain h0 := Fc9 k n
  exact (by funext a0 v1 xs2; rw [Gm3, h0] <;> rfl)
theorem Gz1 (k : Nat) (a0 : List Int) : C4 (Ca6 k) Cn4 k 75 [B3 (.slice 3 (.int .i64)) a0] ms0 = Dl0 k (Bq7 k k) a0 := by kernel_rfl
theorem Gz2 (k : Nat) (a0 : List Int) : C4 (Ca6 k) Cn4 k 75 [B3 (.slice 3 (.int .i64)) a0] ms0 = Cz8 k a0 := by rw [Gz1, show Bq7 k k = At5 k k from (Fc9 k k)] <;> rfl
noncomputable def Ec0 (k : Nat) : Spec := .imm (.slice 3 (.int .i64)) fun (a0 : List Int) => .body (Cz8 k a0) (D7 [.str, .bool] [])
noncomputable def Bm4 (k : Nat) : Cfg := { eqs := [], tab := [(9, .str)], spec := [(93, A66 k)], mspec := [], inl := [(76, Tryz.f76)], keep := [], join := [], hold := [], ptrs := [], maps := [], fuel := k }
noncomputable def Dd6 : VV → Ms → Option (ByteArray × Bool) := F7 [.str, .bool] []
theorem D17 (k : Nat) (a0 : ByteArray) : C4 (Bm4 k) Dd6 k 76 [B3 .str a0] ms0 = w7 k a0 := by kernel_rfl
noncomputable def Ca7 (k : Nat) : Spec := .imm .str fun (a0 : ByteArray) => .body (w7 k a0) (D7 [.str, .bool] [])
noncomputable def Ak1 (k : Nat) : Cfg := { eqs := [], tab := [(5, (.int .u8)), (9, .str), (139, (.int .u32))], spec := [], mspec := [], inl := [(133, Tryz.f133)], keep := [(13300001002, [0, 1, 5]), (13300001006, [0, 1, 5, 6])], join := [], hold := [], ptrs := [], maps := [], fuel := k }
noncomputable def Aw1 : VV → Ms → Option Int := F7 [(.int .u32)] []
noncomputable def Aq4 (k n : Nat) (a0 : Int) (a1 : ByteArray) (v1 : Int) : Option Int := Q0 (Ak1 k) Aw1 n true 13300001002 (cd [1, 0, 1, 0, 0] (bo Tryz.f133)) [.b 0, .s (cd [1, 1] (bo Tryz.f133)), .fn Tryz.f133] ⟨⟨(G4 33 0 [(0, one (.int .u32 a0)), (1, one (.str a1)), (5, one (.int .i64 v1))]), []⟩, 13300001000, 1, [(0, (G4 0 0 []))]⟩
noncomputable def A67 (k n : Nat) (v2 : Int) (a1 : ByteArray) (v1 : Int) (v3 : Int) : Option Int := Q0 (Ak1 k) Aw1 n true 13300001006 (cd [1, 0, 1, 0, 0, 1, 0, 0, 1, 1, 0, 0] (bo Tryz.f133)) [.b 2, .b 1, .s (cd [1, 0, 1, 0, 0, 1, 1] (bo Tryz.f133)), .l 13300001002 (cd [1, 0, 1, 0, 0] (bo Tryz.f133)), .b 0, .s (cd [1, 1] (bo Tryz.f133)), .fn Tryz.f133] ⟨⟨(G4 33 0 [(0, one (.int .u32 v2)), (1, one (.str a1)), (5, one (.int .i64 v1)), (6, one (.int .i64 v3))]), []⟩, 13300001000, 1, [(0, (G4 0 0 []))]⟩
theorem Eo4 (k n : Nat) (a0 : Int) (a1 : ByteArray) (v1 : Int) : Aq4 k (n + 1) a0 a1 v1 = Bu8 k (A67 k n) a0 a1 v1 := by kernel_rfl
theorem Eo5 (k n : Nat) (v2 : Int) (a1 : ByteArray) (v1 : Int) (v3 : Int) : A67 k (n + 1) v2 a1 v1 v3 = Bu9 k (A67 k n) (Aq4 k n) v2 a1 v1 v3 := by kernel_rfl
theorem Db1 (k : Nat) : ∀ n : Nat, Aq4 k n = Bv0 k n ∧ A67 k n = Eg2 k n
 | 0 => ⟨(by funext a0 a1 v1; rfl), (by funext v2 a1 v1 v3; rfl)⟩
 | n + 1 => by
  obtain ⟨h0, h1⟩ := Db1 k n
  exact ⟨(by funext a0 a1 v1; rw [Eo4, h1] <;> rfl), (by funext v2 a1 v1 v3; rw [Eo5, h1, h0] <;> rfl)⟩
theorem Fd0 (k : Nat) (a0 : Int) (a1 : ByteArray) : C4 (Ak1 k) Aw1 k 133 [B3 (.int .u32) a0, B3 .str a1] ms0 = C65 k (Aq4 k k) a0 a1 := by kernel_rfl
theorem Fd1 (k : Nat) (a0 : Int) (a1 : ByteArray) : C4 (Ak1 k) Aw1 k 133 [B3 (.int .u32) a0, B3 .str a1] ms0 = Cd3 k a0 a1 := by rw [Fd0, show Aq4 k k = Bv0 k k from (Db1 k k).1] <;> rfl
noncomputable def Cx4 (k : Nat) : Spec := .imm (.int .u32) fun (a0 : Int) => .imm .str fun (a1 : ByteArray) => .body (Cd3 k a0 a1) (D7 [(.int .u32)] [])
noncomputable def C25 (k : Nat) : Cfg := { eqs := [], tab := [], spec := [(133, Cx4 k)], mspec := [], inl := [(94, Tryz.f94)], keep := [], join := [], hold := [], ptrs := [], maps := [], fuel := k }
noncomputable def Fd2 : VV → Ms → Option Int := F7 [(.int .u32)] []
theorem Gm4 (k : Nat) (a0 : ByteArray) : C4 (C25 k) Fd2 k 94 [B3 .str a0] ms0 = Cr5 k a0 := by kernel_rfl
noncomputable def Ds4 (k : Nat) : Spec := .imm .str fun (a0 : ByteArray) => .body (Cr5 k a0) (D7 [(.int .u32)] [])
noncomputable def Cn5 (k : Nat) : Cfg := { eqs := [], tab := [(5, (.int .u8)), (9, .str), (22, (.slice 5 (.int .u8))), (139, (.int .u32))], spec := [(94, Ds4 k)], mspec := [], inl := [(77, Tryz.f77)], keep := [], join := [], hold := [], ptrs := [], maps := [], fuel := k }
noncomputable def Eo6 : VV → Ms → Option (ByteArray × Bool) := F7 [.str, .bool] []
theorem Fx9 (k : Nat) (a0 : ByteArray) : C4 (Cn5 k) Eo6 k 77 [B3 .str a0] ms0 = Bp2 k a0 := by kernel_rfl
noncomputable def Ca8 (k : Nat) : Spec := .imm .str fun (a0 : ByteArray) => .body (Bp2 k a0) (D7 [.str, .bool] [])
noncomputable def Bz5 (k : Nat) : Cfg := { eqs := [], tab := [(3, (.int .i64)), (9, .str), (49, (.slice 3 (.int .i64))), (56, X9)], spec := [(39, Ab2 k), (74, Cj9 k), (75, Ec0 k), (76, Ca7 k), (77, Ca8 k)], mspec := [], inl := [(24, Tryz.f24)], keep := [], join := [], hold := [], ptrs := [], maps := [], fuel := k }
noncomputable def Ds5 : VV → Ms → Option (ByteArray × Bool) := F7 [.str, .bool] []
theorem Eo7 (k : Nat) (a0 : E5) : C4 (Bz5 k) Ds5 k 24 [B3 X9 a0] ms0 = Ah9 k a0 := by kernel_rfl
noncomputable def Aw2 (k : Nat) : Spec := .imm X9 fun (a0 : E5) => .body (Ah9 k a0) (D7 [.str, .bool] [])
noncomputable def Bz6 (k : Nat) : Cfg := { eqs := [], tab := [(9, .str)], spec := [(77, Ca8 k)], mspec := [], inl := [(78, Tryz.f78)], keep := [], join := [], hold := [], ptrs := [], maps := [], fuel := k }
noncomputable def Ds6 : VV → Ms → Option (ByteArray × Bool) := F7 [.str, .bool] []
theorem Eo8 (k : Nat) (a0 : ByteArray) : C4 (Bz6 k) Ds6 k 78 [B3 .str a0] ms0 = Ba2 k a0 := by kernel_rfl
noncomputable def Ck0 (k : Nat) : Spec := .imm .str fun (a0 : ByteArray) => .body (Ba2 k a0) (D7 [.str, .bool] [])
noncomputable def A05 (k : Nat) : Cfg := { eqs := [], tab := [(3, (.int .i64)), (5, (.int .u8)), (9, .str)], spec := [(39, Ab2 k), (93, A66 k)], mspec := [], inl := [(90, Tryz.f90)], keep := [(9000001005, [0, 1, 7, 8])], join := [], hold := [], ptrs := [], maps := [], fuel := k }
noncomputable def Bm5 : VV → Ms → Option (Int × Int × Bool) := F7 [(.int .i64), (.int .i64), .bool] []
noncomputable def Aq5 (k n : Nat) (a0 : ByteArray) (a1 : Int) (v1 : Int) (v2 : Int) : Option (Int × Int × Bool) := Q0 (A05 k) Bm5 n true 9000001005 (cd [1, 1, 1, 0, 1, 0, 0] (bo Tryz.f90)) [.b 0, .s (cd [1, 1, 1, 1] (bo Tryz.f90)), .fn Tryz.f90] ⟨⟨(G4 63 0 [(0, one (.str a0)), (1, one (.int .i64 a1)), (7, one (.int .i64 v1)), (8, one (.int .i64 v2))]), []⟩, 9000001000, 1, [(0, (G4 0 0 []))]⟩
theorem Eo9 (k n : Nat) (a0 : ByteArray) (a1 : Int) (v1 : Int) (v2 : Int) : Aq5 k (n + 1) a0 a1 v1 v2 = Am2 k (Aq5 k n) a0 a1 v1 v2 := by kernel_rfl
theorem Db2 (k : Nat) : ∀ n : Nat, Aq5 k n = P3 k n
 | 0 => (by funext a0 a1 v1 v2; rfl)
 | n + 1 => by
  obtain h0 := Db2 k n
  exact (by funext a0 a1 v1 v2; rw [Eo9, h0] <;> rfl)
theorem Fd3 (k : Nat) (a0 : ByteArray) (a1 : Int) : C4 (A05 k) Bm5 k 90 [B3 .str a0, B3 (.int .i64) a1] ms0 = B51 k (Aq5 k k) a0 a1 := by kernel_rfl
theorem Fd4 (k : Nat) (a0 : ByteArray) (a1 : Int) : C4 (A05 k) Bm5 k 90 [B3 .str a0, B3 (.int .i64) a1] ms0 = At6 k a0 a1 := by rw [Fd3, show Aq5 k k = P3 k k from (Db2 k k)] <;> rfl
noncomputable def Bz7 (k : Nat) : Spec := .imm .str fun (a0 : ByteArray) => .imm (.int .i64) fun (a1 : Int) => .body (At6 k a0 a1) (D7 [(.int .i64), (.int .i64), .bool] [])
noncomputable def Bd9 (k : Nat) : Cfg := { eqs := [], tab := [(3, (.int .i64)), (4, .bool), (9, .str), (122, Y4)], spec := [(90, Bz7 k)], mspec := [], inl := [(79, Tryz.f79)], keep := [], join := [], hold := [], ptrs := [], maps := [], fuel := k }
noncomputable def C26 : VV → Ms → Option (Int × Ab7 × Unit) := Cq1 [(.int .i64)] [] [.box Y4]
theorem Ds7 (k : Nat) (a0 : Ab7) : C4 (Bd9 k) C26 k 79 (S7 1 [.box Y4] (a0, ())) (ms1 [.box Y4] (a0, ())) = Ac6 k a0 := by kernel_rfl
noncomputable def B19 (k : Nat) : MSpec := .box Y4 fun (a0 : Ab7) => .body (Ac6 k a0) (fun r => D7 [(.int .i64)] [] r.1) (fun r => poV [.box Y4] r.2)
noncomputable def Aq6 (k : Nat) : Cfg := { eqs := [], tab := [(3, (.int .i64)), (5, (.int .u8)), (9, .str), (49, (.slice 3 (.int .i64)))], spec := [(123, Ca5 k)], mspec := [], inl := [(80, Tryz.f80)], keep := [(8000001003, [0, 4, 5])], join := [], hold := [(8000001003, [(4, [0], 3, (.int .i64), false, false)])], ptrs := [], maps := [], fuel := k }
noncomputable def Be0 : VV → Ms → Option (List Int × Bool) := F7 [(.slice 3 (.int .i64)), .bool] [.o]
noncomputable def Ag2 (k n : Nat) (a0 : ByteArray) (v1 : Int) (xs2 : List Int) : Option (List Int × Bool) := Q0 (Aq6 k) Be0 n true 8000001003 (cd [1, 1, 0, 1, 0, 0] (bo Tryz.f80)) [.b 0, .s (cd [1, 1, 1] (bo Tryz.f80)), .fn Tryz.f80] ⟨⟨(G4 23 0 [(0, one (.str a0)), (4, one (.row 9000000 none none)), (5, one (.int .i64 v1))]), [(9000000, .row 3 (.int .i64) xs2 true)]⟩, 8000001000, 1, [(0, (G4 0 0 []))]⟩
theorem D18 (k n : Nat) (a0 : ByteArray) (v1 : Int) (xs2 : List Int) : Ag2 k (n + 1) a0 v1 xs2 = Bj6 k (Ag2 k n) a0 v1 xs2 := by kernel_rfl
theorem Cx5 (k : Nat) : ∀ n : Nat, Ag2 k n = X1 k n
 | 0 => (by funext a0 v1 xs2; rfl)
 | n + 1 => by
  obtain h0 := Cx5 k n
  exact (by funext a0 v1 xs2; rw [D18, h0] <;> rfl)
theorem Ep0 (k : Nat) (a0 : ByteArray) : C4 (Aq6 k) Be0 k 80 [B3 .str a0] ms0 = Cr6 k (Ag2 k k) a0 := by kernel_rfl
theorem Ep1 (k : Nat) (a0 : ByteArray) : C4 (Aq6 k) Be0 k 80 [B3 .str a0] ms0 = Ba3 k a0 := by rw [Ep0, show Ag2 k k = X1 k k from (Cx5 k k)] <;> rfl
noncomputable def Ck1 (k : Nat) : Spec := .imm .str fun (a0 : ByteArray) => .body (Ba3 k a0) (D7 [(.slice 3 (.int .i64)), .bool] [.o])
noncomputable def Bm6 (k : Nat) : Cfg := { eqs := [], tab := [(9, .str)], spec := [(90, Bz7 k)], mspec := [], inl := [(124, Tryz.f124)], keep := [], join := [], hold := [], ptrs := [], maps := [], fuel := k }
noncomputable def Dd7 : VV → Ms → Option (ByteArray × Int × Bool) := F7 [.str, (.int .i64), .bool] []
theorem D19 (k : Nat) (a0 : ByteArray) (a1 : Int) : C4 (Bm6 k) Dd7 k 124 [B3 .str a0, B3 (.int .i64) a1] ms0 = Aj3 k a0 a1 := by kernel_rfl
noncomputable def Ca9 (k : Nat) : Spec := .imm .str fun (a0 : ByteArray) => .imm (.int .i64) fun (a1 : Int) => .body (Aj3 k a0 a1) (D7 [.str, (.int .i64), .bool] [])
noncomputable def A24 (k : Nat) : Cfg := { eqs := [], tab := [(3, (.int .i64)), (4, .bool), (9, .str), (122, Y4)], spec := [(124, Ca9 k)], mspec := [], inl := [(81, Tryz.f81)], keep := [], join := [], hold := [], ptrs := [], maps := [], fuel := k }
noncomputable def Cx6 : VV → Ms → Option (ByteArray × Ab7 × Unit) := Cq1 [.str] [] [.box Y4]
theorem Dd8 (k : Nat) (a0 : Ab7) : C4 (A24 k) Cx6 k 81 (S7 1 [.box Y4] (a0, ())) (ms1 [.box Y4] (a0, ())) = X2 k a0 := by kernel_rfl
noncomputable def Bq8 (k : Nat) : MSpec := .box Y4 fun (a0 : Ab7) => .body (X2 k a0) (fun r => D7 [.str] [] r.1) (fun r => poV [.box Y4] r.2)
noncomputable def Bz8 (k : Nat) : Cfg := { eqs := [], tab := [(4, .bool), (9, .str), (49, (.slice 3 (.int .i64))), (56, X9), (122, Y4)], spec := [(24, Aw2 k), (78, Ck0 k), (80, Ck1 k)], mspec := [(79, B19 k), (81, Bq8 k)], inl := [(25, Tryz.f25)], keep := [], join := [], hold := [], ptrs := [], maps := [], fuel := k }
noncomputable def Ds8 : VV → Ms → Option (E5 × Bool) := F7 [X9, .bool] [.o]
theorem Ep2 (k : Nat) (a0 : ByteArray) : C4 (Bz8 k) Ds8 k 25 [B3 .str a0] ms0 = Ai0 k a0 := by kernel_rfl
noncomputable def Bm7 (k : Nat) : Spec := .imm .str fun (a0 : ByteArray) => .body (Ai0 k a0) (D7 [X9, .bool] [.o])
noncomputable def Aq7 (k : Nat) : Cfg := { eqs := [], tab := [(3, (.int .i64)), (49, (.slice 3 (.int .i64)))], spec := [], mspec := [], inl := [(26, Tryz.f26)], keep := [(2600001004, [0, 1, 5])], join := [], hold := [], ptrs := [], maps := [], fuel := k }
noncomputable def Be1 : VV → Ms → Option Bool := F7 [.bool] []
noncomputable def Ag3 (k n : Nat) (a0 : List Int) (a1 : List Int) (v1 : Int) : Option Bool := Q0 (Aq7 k) Be1 n true 2600001004 (cd [1, 1, 0, 1, 0, 0] (bo Tryz.f26)) [.b 0, .s (cd [1, 1, 1] (bo Tryz.f26)), .fn Tryz.f26] ⟨⟨(G4 26 0 [(0, one (.slc 3 (.int .i64) a0)), (1, one (.slc 3 (.int .i64) a1)), (5, one (.int .i64 v1))]), []⟩, 2600001000, 1, [(0, (G4 0 0 []))]⟩
theorem D20 (k n : Nat) (a0 : List Int) (a1 : List Int) (v1 : Int) : Ag3 k (n + 1) a0 a1 v1 = Bj7 k (Ag3 k n) a0 a1 v1 := by kernel_rfl
theorem Cx7 (k : Nat) : ∀ n : Nat, Ag3 k n = X3 k n
 | 0 => (by funext a0 a1 v1; rfl)
 | n + 1 => by
  obtain h0 := Cx7 k n
  exact (by funext a0 a1 v1; rw [D20, h0] <;> rfl)
theorem Ep3 (k : Nat) (a0 : List Int) (a1 : List Int) : C4 (Aq7 k) Be1 k 26 [B3 (.slice 3 (.int .i64)) a0, B3 (.slice 3 (.int .i64)) a1] ms0 = Cr7 k (Ag3 k k) a0 a1 := by kernel_rfl
theorem Ep4 (k : Nat) (a0 : List Int) (a1 : List Int) : C4 (Aq7 k) Be1 k 26 [B3 (.slice 3 (.int .i64)) a0, B3 (.slice 3 (.int .i64)) a1] ms0 = Ba4 k a0 a1 := by rw [Ep3, show Ag3 k k = X3 k k from (Cx7 k k)] <;> rfl
noncomputable def Ck2 (k : Nat) : Spec := .imm (.slice 3 (.int .i64)) fun (a0 : List Int) => .imm (.slice 3 (.int .i64)) fun (a1 : List Int) => .body (Ba4 k a0 a1) (D7 [.bool] [])
noncomputable def B20 (k : Nat) : Spec := Bs8 (D7 [.str] []) [.int .i64] fun x => Bv1 k x.1
noncomputable def Cb0 (k : Nat) : Cfg := { eqs := [], tab := [], spec := [(114, B20 k)], mspec := [], inl := [(63, Tryz.f63)], keep := [], join := [], hold := [], ptrs := [], maps := [], fuel := k }
noncomputable def D21 : VV → Ms → Option ByteArray := F7 [.str] []
theorem Fd5 (k : Nat) (a0 : Int) : C4 (Cb0 k) D21 k 63 [B3 (.int .i64) a0] ms0 = A78 k a0 := by kernel_rfl
noncomputable def Cx8 (k : Nat) : Spec := .imm (.int .i64) fun (a0 : Int) => .body (A78 k a0) (D7 [.str] [])
noncomputable def Bz9 (k : Nat) : Cfg := { eqs := [], tab := [], spec := [(39, Ab2 k), (63, Cx8 k)], mspec := [], inl := [(30, Tryz.f30)], keep := [], join := [], hold := [], ptrs := [], maps := [], fuel := k }
noncomputable def Ds9 : VV → Ms → Option ByteArray := F7 [.str] []
theorem Ep5 (k : Nat) (a0 : Int) : C4 (Bz9 k) Ds9 k 30 [B3 (.int .i64) a0] ms0 = w8 k a0 := by kernel_rfl
noncomputable def Bm8 (k : Nat) : Spec := .imm (.int .i64) fun (a0 : Int) => .body (w8 k a0) (D7 [.str] [])
noncomputable def Be2 (k : Nat) : Cfg := { eqs := [], tab := [(3, (.int .i64)), (9, .str), (24, (.slice 99 I2)), (26, F4), (99, I2)], spec := [(39, Ab2 k)], mspec := [], inl := [(45, Tryz.f45)], keep := [(4500001002, [1, 6, 7, 8])], join := [], hold := [], ptrs := [], maps := [], fuel := k }
noncomputable def B00 : VV → Ms → Option Bool := F7 [.bool] []
noncomputable def A06 (k n : Nat) (a0 : B9) (v1 : Int) : Option Bool := Q0 (Be2 k) B00 n true 4500001002 (cd [1, 0, 1, 0, 0] (bo Tryz.f45)) [.b 0, .s (cd [1, 1] (bo Tryz.f45)), .fn Tryz.f45] ⟨⟨(G4 54 0 [(1, one (.ptr 9000000 0)), (6, one (.slc 99 I2 a0.1)), (7, one (.int .i64 (a0.1.length : Int))), (8, one (.int .i64 v1))]), [(9000000, .box [.slc 99 I2 a0.1])]⟩, 4500001000, 1, [(0, (G4 0 0 []))]⟩
theorem Fd6 (k n : Nat) (a0 : B9) (v1 : Int) : A06 k (n + 1) a0 v1 = Bg6 k (A06 k n) a0 v1 := by kernel_rfl
theorem Dt0 (k : Nat) : ∀ n : Nat, A06 k n = w9 k n
 | 0 => (by funext a0 v1; rfl)
 | n + 1 => by
  obtain h0 := Dt0 k n
  exact (by funext a0 v1; rw [Fd6, h0] <;> rfl)
theorem Fy0 (k : Nat) (a0 : B9) : C4 (Be2 k) B00 k 45 [B3 F4 a0] ms0 = Dl1 k (A06 k k) a0 := by kernel_rfl
theorem Fy1 (k : Nat) (a0 : B9) : C4 (Be2 k) B00 k 45 [B3 F4 a0] ms0 = Bp3 k a0 := by rw [Fy0, show A06 k k = w9 k k from (Dt0 k k)] <;> rfl
noncomputable def Cb1 (k : Nat) : Spec := .imm F4 fun (a0 : B9) => .body (Bp3 k a0) (D7 [.bool] [])
noncomputable def Be3 (k : Nat) : Cfg := { eqs := [], tab := [(9, .str), (24, (.slice 99 I2)), (26, F4), (99, I2)], spec := [], mspec := [], inl := [(98, Tryz.f98), (135, Tryz.f135), (136, Tryz.f136)], keep := [(13500002002, [0, 1, 7, 8])], join := [], hold := [], ptrs := [], maps := [], fuel := k }
noncomputable def B01 : VV → Ms → Option Int := F7 [(.int .i64)] []
noncomputable def A07 (k n : Nat) (a0 : B9) (v1 : Int) (a1 : ByteArray) : Option Int := Q0 (Be3 k) B01 n true 13500002002 (cd [1, 0, 1, 0, 0] (bo Tryz.f135)) [.b 0, .s (cd [1, 1] (bo Tryz.f135)), .fn Tryz.f135, .op (rg (cd [1, 0] (bo Tryz.f98))) ((rg (cd [1, 0] (bo Tryz.f98))).drop 4) 4 (some 8), .s (cd [1, 1] (bo Tryz.f98)), .fn Tryz.f98] ⟨⟨(G4 19 0 [(0, one (.slc 99 I2 a0.1)), (1, one (.fn 136 [9000000])), (7, one (.int .i64 (a0.1.length : Int))), (8, one (.int .i64 v1))]), [(9000000, .box [.str a1]), (9000001, .box [.slc 99 I2 a0.1])]⟩, 13500002000, 2, [(9800001000, (G4 9 0 [(0, .v ⟨true, [.slc 99 I2 a0.1]⟩), (1, one (.str a1)), (2, one (.ptr 9000001 0)), (3, one (.ptr 9000000 0)), (4, one (.int .i64 0)), (5, one (.ptr 9000001 0)), (6, one (.slc 99 I2 a0.1)), (7, one (.fn 136 [9000000]))])), (0, (G4 0 0 []))]⟩
theorem Fd7 (k n : Nat) (a0 : B9) (v1 : Int) (a1 : ByteArray) : A07 k (n + 1) a0 v1 a1 = Bg7 k (A07 k n) a0 v1 a1 := by kernel_rfl
theorem Dt1 (k : Nat) : ∀ n : Nat, A07 k n = x9 k n
 | 0 => (by funext a0 v1 a1; rfl)
 | n + 1 => by
  obtain h0 := Dt1 k n
  exact (by funext a0 v1 a1; rw [Fd7, h0] <;> rfl)
theorem Fy2 (k : Nat) (a0 : B9) (a1 : ByteArray) : C4 (Be3 k) B01 k 98 [B3 F4 a0, B3 .str a1] ms0 = Dl2 k (A07 k k) a0 a1 := by kernel_rfl
theorem Fy3 (k : Nat) (a0 : B9) (a1 : ByteArray) : C4 (Be3 k) B01 k 98 [B3 F4 a0, B3 .str a1] ms0 = B52 k a0 a1 := by rw [Fy2, show A07 k k = x9 k k from (Dt1 k k)] <;> rfl
noncomputable def Db3 (k : Nat) : Spec := .imm F4 fun (a0 : B9) => .imm .str fun (a1 : ByteArray) => .body (B52 k a0 a1) (D7 [(.int .i64)] [])
noncomputable def Cb2 (k : Nat) : Cfg := { eqs := [], tab := [(26, F4)], spec := [(98, Db3 k)], mspec := [], inl := [(47, Tryz.f47)], keep := [], join := [], hold := [], ptrs := [], maps := [], fuel := k }
noncomputable def D22 : VV → Ms → Option Bool := F7 [.bool] []
theorem Fd8 (k : Nat) (a0 : B9) (a1 : ByteArray) : C4 (Cb2 k) D22 k 47 [B3 F4 a0, B3 .str a1] ms0 = Bp4 k a0 a1 := by kernel_rfl
noncomputable def Cx9 (k : Nat) : Spec := .imm F4 fun (a0 : B9) => .imm .str fun (a1 : ByteArray) => .body (Bp4 k a0 a1) (D7 [.bool] [])
noncomputable def N5 (k : Nat) : Cfg := { eqs := [], tab := [(9, .str)], spec := [], mspec := [], inl := [(164, Tryz.f164)], keep := [], join := [], hold := [], ptrs := [], maps := [], fuel := k }
noncomputable def Ai2 : VV → Ms → Option Bool := F7 [.bool] []
theorem Aq8 (k : Nat) (a0 : ByteArray) (a1 : ByteArray) : C4 (N5 k) Ai2 k 164 [B3 .str a0, B3 .str a1] ms0 = J6 k a0 a1 := by kernel_rfl
noncomputable def T8 (k : Nat) : Spec := .imm .str fun (a0 : ByteArray) => .imm .str fun (a1 : ByteArray) => .body (J6 k a0 a1) (D7 [.bool] [])
noncomputable def N6 (k : Nat) : Cfg := { eqs := [], tab := [(9, .str)], spec := [(164, T8 k)], mspec := [], inl := [(146, Tryz.f146)], keep := [], join := [], hold := [], ptrs := [], maps := [], fuel := k }
noncomputable def Ai3 : VV → Ms → Option (ByteArray × Bool) := F7 [.str, .bool] []
theorem Aq9 (k : Nat) (a0 : ByteArray) (a1 : ByteArray) : C4 (N6 k) Ai3 k 146 [B3 .str a0, B3 .str a1] ms0 = J7 k a0 a1 := by kernel_rfl
noncomputable def T9 (k : Nat) : Spec := .imm .str fun (a0 : ByteArray) => .imm .str fun (a1 : ByteArray) => .body (J7 k a0 a1) (D7 [.str, .bool] [])
noncomputable def Ad9 (k : Nat) : Cfg := { eqs := [], tab := [], spec := [(146, T9 k)], mspec := [], inl := [(112, Tryz.f112)], keep := [], join := [], hold := [], ptrs := [], maps := [], fuel := k }
noncomputable def B23 : VV → Ms → Option (ByteArray × Bool) := F7 [.str, .bool] []
theorem Ce8 (k : Nat) (a0 : ByteArray) (a1 : ByteArray) : C4 (Ad9 k) B23 k 112 [B3 .str a0, B3 .str a1] ms0 = q7 k a0 a1 := by kernel_rfl
noncomputable def A08 (k : Nat) : Spec := .imm .str fun (a0 : ByteArray) => .imm .str fun (a1 : ByteArray) => .body (q7 k a0 a1) (D7 [.str, .bool] [])
noncomputable def Bq9 (k : Nat) : Spec := Bs8 (D7 [.int .i64, .bool] []) [.str] fun x => Cg8 k x.1
noncomputable def B02 (k : Nat) : Cfg := { eqs := [], tab := [], spec := [(112, A08 k), (113, Bq9 k)], mspec := [], inl := [(62, Tryz.f62)], keep := [], join := [], hold := [], ptrs := [], maps := [], fuel := k }
noncomputable def Dt2 : VV → Ms → Option Int := F7 [(.int .i64)] []
theorem Ep6 (k : Nat) (a0 : ByteArray) (a1 : ByteArray) (a2 : Int) : C4 (B02 k) Dt2 k 62 [B3 .str a0, B3 .str a1, B3 (.int .i64) a2] ms0 = X4 k a0 a1 a2 := by kernel_rfl
noncomputable def Aw3 (k : Nat) : Spec := .imm .str fun (a0 : ByteArray) => .imm .str fun (a1 : ByteArray) => .imm (.int .i64) fun (a2 : Int) => .body (X4 k a0 a1 a2) (D7 [(.int .i64)] [])
noncomputable def Ad5 (k : Nat) : Cfg := { eqs := [], tab := [(3, (.int .i64)), (9, .str), (24, (.slice 99 I2)), (26, F4), (40, (.slice 93 An1)), (56, X9), (93, An1), (99, I2)], spec := [(24, Aw2 k), (30, Bm8 k), (45, Cb1 k), (47, Cx9 k), (62, Aw3 k)], mspec := [], inl := [(27, Tryz.f27)], keep := [(2700001008, [2, 3, 6, 8, 9]), (2700001014, [8, 10, 59, 60, 61])], join := [], hold := [(2700001008, [(8, [0], 93, An1, false, false)])], ptrs := [], maps := [], fuel := k }
noncomputable def Ar0 : VV → Ms → Option (List I3 × Bool) := F7 [(.slice 93 An1), .bool] [.o]
noncomputable def Aw4 (k n : Nat) (r4 : ByteArray) (a0 : B9) (v3 : Int) (xs4 : List I3) : Option (List I3 × Bool) := Q0 (Ad5 k) Ar0 n true 2700001014 (cd [1, 1, 1, 1, 1, 1, 1, 1, 0, 1, 0, 0] (bo Tryz.f27)) [.b 2, .s (cd [1, 1, 1, 1, 1, 1, 1, 1, 1] (bo Tryz.f27)), .fn Tryz.f27] ⟨⟨(G4 83 0 [(8, one (.row 9000000 none none)), (10, one (.str r4)), (59, one (.slc 99 I2 a0.1)), (60, one (.int .i64 (a0.1.length : Int))), (61, one (.int .i64 v3))]), [(9000000, .row 93 An1 xs4 true)]⟩, 2700001000, 1, [(0, (G4 0 0 []))]⟩
noncomputable def Ag4 (k n : Nat) (r1 : ByteArray × Bool) (v1 : Int) (a0 : B9) (a1 : E5) (xs2 : List I3) : Option (List I3 × Bool) := Q0 (Ad5 k) Ar0 n true 2700001008 (cd [1, 1, 1, 1, 1, 0, 1, 0, 0] (bo Tryz.f27)) [.b 0, .s (cd [1, 1, 1, 1, 1, 1] (bo Tryz.f27)), .fn Tryz.f27] ⟨⟨(G4 83 0 [(2, one (.ptr 9000000 0)), (3, one (.ptr 9000001 0)), (6, one (.str r1.1)), (8, one (.row 9000002 none none)), (9, one (.int .i64 v1))]), [(9000000, .box [.slc 99 I2 a0.1]), (9000001, .box [.int .i64 a1.1, .int .i64 a1.2.1, .slc 3 (.int .i64) a1.2.2.1, .str a1.2.2.2.1]), (9000002, .row 93 An1 xs2 true)]⟩, 2700001000, 1, [(0, (G4 0 0 []))]⟩
theorem D23 (k n : Nat) (r4 : ByteArray) (a0 : B9) (v3 : Int) (xs4 : List I3) : Aw4 k (n + 1) r4 a0 v3 xs4 = Bj8 k (Aw4 k n) r4 a0 v3 xs4 := by kernel_rfl
theorem D24 (k n : Nat) (r1 : ByteArray × Bool) (v1 : Int) (a0 : B9) (a1 : E5) (xs2 : List I3) : Ag4 k (n + 1) r1 v1 a0 a1 xs2 = Bj9 k (Ag4 k n) (Aw4 k n) r1 v1 a0 a1 xs2 := by kernel_rfl
theorem Cy0 (k : Nat) : ∀ n : Nat, Aw4 k n = o6 k n ∧ Ag4 k n = X5 k n
 | 0 => ⟨(by funext r4 a0 v3 xs4; rfl), (by funext r1 v1 a0 a1 xs2; rfl)⟩
 | n + 1 => by
  obtain ⟨h1, h0⟩ := Cy0 k n
  exact ⟨(by funext r4 a0 v3 xs4; rw [D23, h1] <;> rfl), (by funext r1 v1 a0 a1 xs2; rw [D24, h0, h1] <;> rfl)⟩
theorem Ep7 (k : Nat) (a0 : B9) (a1 : E5) : C4 (Ad5 k) Ar0 k 27 [B3 F4 a0, B3 X9 a1] ms0 = Cr8 k (Ag4 k k) a0 a1 := by kernel_rfl
theorem Ep8 (k : Nat) (a0 : B9) (a1 : E5) : C4 (Ad5 k) Ar0 k 27 [B3 F4 a0, B3 X9 a1] ms0 = Ba5 k a0 a1 := by rw [Ep7, show Ag4 k k = X5 k k from (Cy0 k k).2] <;> rfl
noncomputable def Ck3 (k : Nat) : Spec := .imm F4 fun (a0 : B9) => .imm X9 fun (a1 : E5) => .body (Ba5 k a0 a1) (D7 [(.slice 93 An1), .bool] [.o])
noncomputable def Ab3 (k : Nat) : Cfg := { eqs := [], tab := [(3, (.int .i64)), (9, .str), (24, (.slice 99 I2)), (26, F4), (56, X9), (99, I2)], spec := [(25, Bm7 k), (45, Cb1 k), (62, Aw3 k)], mspec := [], inl := [(28, Tryz.f28)], keep := [(2800001006, [2, 4, 5, 16, 17, 18])], join := [], hold := [(2800001006, [(4, [0, 2], 3, (.int .i64), false, false)])], ptrs := [], maps := [], fuel := k }
noncomputable def Au8 : VV → Ms → Option (E5 × Bool) := F7 [X9, .bool] [.o]
noncomputable def m8 (k n : Nat) (v1 : Bool) (a0 : B9) (v2 : Int) (v3 : Int) (v4 : Int) (v5 : ByteArray) (xs6 : List Int) : Option (E5 × Bool) := Q0 (Ab3 k) Au8 n true 2800001006 (cd [1, 1, 1, 1, 0, 1, 0, 0] (bo Tryz.f28)) [.b 0, .s (cd [1, 1, 1, 1, 1] (bo Tryz.f28)), .fn Tryz.f28] ⟨⟨(G4 56 0 [(2, one (.ptr 9000000 0)), (4, one (.ptr 9000001 0)), (5, one (.bool v1)), (16, one (.slc 99 I2 a0.1)), (17, one (.int .i64 (a0.1.length : Int))), (18, one (.int .i64 v2))]), [(9000000, .box [.int .i64 0, .int .i64 0, .nilS, .str ByteArray.empty]), (9000001, .box [.int .i64 v3, .int .i64 v4, .row 9000002 none none, .str v5]), (9000002, .row 3 (.int .i64) xs6 true)]⟩, 2800001000, 1, [(0, (G4 0 0 []))]⟩
theorem Dd9 (k n : Nat) (v1 : Bool) (a0 : B9) (v2 : Int) (v3 : Int) (v4 : Int) (v5 : ByteArray) (xs6 : List Int) : m8 k (n + 1) v1 a0 v2 v3 v4 v5 xs6 = A14 k (m8 k n) v1 a0 v2 v3 v4 v5 xs6 := by kernel_rfl
theorem Cb3 (k : Nat) : ∀ n : Nat, m8 k n = O0 k n
 | 0 => (by funext v1 a0 v2 v3 v4 v5 xs6; rfl)
 | n + 1 => by
  obtain h0 := Cb3 k n
  exact (by funext v1 a0 v2 v3 v4 v5 xs6; rw [Dd9, h0] <;> rfl)
theorem Dt3 (k : Nat) (a0 : B9) : C4 (Ab3 k) Au8 k 28 [B3 F4 a0] ms0 = B53 k (m8 k k) a0 := by kernel_rfl
theorem Dt4 (k : Nat) (a0 : B9) : C4 (Ab3 k) Au8 k 28 [B3 F4 a0] ms0 = Ac7 k a0 := by rw [Dt3, show m8 k k = O0 k k from (Cb3 k k)] <;> rfl
noncomputable def A25 (k : Nat) : Spec := .imm F4 fun (a0 : B9) => .body (Ac7 k a0) (D7 [X9, .bool] [.o])
noncomputable def Ar1 (k : Nat) : Cfg := { eqs := [], tab := [(3, (.int .i64)), (9, .str), (24, (.slice 99 I2)), (26, F4), (40, (.slice 93 An1)), (56, X9), (93, An1), (99, I2)], spec := [(28, A25 k), (62, Aw3 k)], mspec := [], inl := [(29, Tryz.f29)], keep := [(2900001006, [3, 5, 17, 18, 19])], join := [], hold := [(2900001006, [(5, [0], 93, An1, false, false)])], ptrs := [], maps := [], fuel := k }
noncomputable def Be4 : VV → Ms → Option (List I3) := F7 [(.slice 93 An1)] [.o]
noncomputable def Ag5 (k n : Nat) (a0 : B9) (v1 : Int) (r1 : E5 × Bool) (xs2 : List I3) : Option (List I3) := Q0 (Ar1 k) Be4 n true 2900001006 (cd [1, 1, 1, 1, 0, 1, 0, 0] (bo Tryz.f29)) [.b 0, .s (cd [1, 1, 1, 1, 1] (bo Tryz.f29)), .fn Tryz.f29] ⟨⟨(G4 47 0 [(3, one (.ptr 9000000 0)), (5, one (.row 9000001 none none)), (17, one (.slc 99 I2 a0.1)), (18, one (.int .i64 (a0.1.length : Int))), (19, one (.int .i64 v1))]), [(9000000, .box [.int .i64 r1.1.1, .int .i64 r1.1.2.1, .row 9000002 none none, .str r1.1.2.2.2.1]), (9000001, .row 93 An1 xs2 true), (9000002, .row 3 (.int .i64) r1.1.2.2.1 true)]⟩, 2900001000, 1, [(0, (G4 0 0 []))]⟩
theorem D25 (k n : Nat) (a0 : B9) (v1 : Int) (r1 : E5 × Bool) (xs2 : List I3) : Ag5 k (n + 1) a0 v1 r1 xs2 = Bk0 k (Ag5 k n) a0 v1 r1 xs2 := by kernel_rfl
theorem Cy1 (k : Nat) : ∀ n : Nat, Ag5 k n = P4 k n
 | 0 => (by funext a0 v1 r1 xs2; rfl)
 | n + 1 => by
  obtain h0 := Cy1 k n
  exact (by funext a0 v1 r1 xs2; rw [D25, h0] <;> rfl)
theorem Ep9 (k : Nat) (a0 : B9) : C4 (Ar1 k) Be4 k 29 [B3 F4 a0] ms0 = Cr9 k (Ag5 k k) a0 := by kernel_rfl
theorem Eq0 (k : Nat) (a0 : B9) : C4 (Ar1 k) Be4 k 29 [B3 F4 a0] ms0 = Ba6 k a0 := by rw [Ep9, show Ag5 k k = P4 k k from (Cy1 k k)] <;> rfl
noncomputable def Ck4 (k : Nat) : Spec := .imm F4 fun (a0 : B9) => .body (Ba6 k a0) (D7 [(.slice 93 An1)] [.o])
noncomputable def Cb4 (k : Nat) : Cfg := { eqs := [], tab := [(3, (.int .i64)), (9, .str), (26, F4), (40, (.slice 93 An1)), (49, (.slice 3 (.int .i64))), (56, X9)], spec := [(7, E56 k), (15, C86 k), (23, A28 k), (24, Aw2 k), (25, Bm7 k), (26, Ck2 k), (27, Ck3 k), (28, A25 k), (29, Ck4 k), (30, Bm8 k)], mspec := [], inl := [(5, Tryz.f5)], keep := [], join := [], hold := [], ptrs := [], maps := [], fuel := k }
noncomputable def D26 : VV → Ms → Option Bool := F7 [.bool] []
theorem Fd9 (k : Nat) (a0 : List Int) : C4 (Cb4 k) D26 k 5 [B3 (.slice 5 (.int .u8)) a0] ms0 = A79 k a0 := by kernel_rfl
noncomputable def Eq1 (k : Nat) : Spec := .imm (.slice 5 (.int .u8)) fun (a0 : List Int) => .body (A79 k a0) (D7 [.bool] [])
end Go.Vm
end
