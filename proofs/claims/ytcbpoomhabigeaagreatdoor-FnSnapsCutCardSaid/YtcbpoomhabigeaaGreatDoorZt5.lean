/- The machine computes them. -/
import Derived.Test.YtcbpoomhabigeaaGreatDoorZt4
import Derived.Test.YtcbpoomhabigeaaGreatDoorProg
import Derived.KernelRfl
set_option linter.all false
section
namespace Go.Vm
open Go Go.Proofs
abbrev H2 : Ty := (.fld .str (.fld .str (.fld (.int .i64) .nil)))
abbrev E6 : Ty := (.fld (.slice 99 H2) .nil)
abbrev G7 : Ty := (.fld .str (.fld (.int .i64) (.fld .bool .nil)))
abbrev Q0 : Ty := (.fld (.int .i64) (.fld (.int .i64) (.fld .str .nil)))
abbrev Ag7 : Ty := (.fld (.int .i64) (.fld .str (.fld .str (.fld .str .nil))))
abbrev D1 : Ty := (.fld (.slice 5 (.int .u8)) (.fld (.int .i64) (.fld (.int .i64) .nil)))
abbrev A6 : Ty := (.fld (.int .i64) (.fld (.int .i64) (.fld (.int .i64) (.fld (.int .i64) (.fld (.int .i64) (.fld (.slice 3 (.int .i64)) (.fld .str (.fld (.slice 3 (.int .i64)) (.fld (.int .i64) .nil)))))))))
abbrev Y0 : Ty := (.fld (.int .i64) (.fld (.int .i64) (.fld (.int .i64) (.fld A6 (.fld (.int .i64) (.fld (.int .i64) .nil))))))
abbrev An3 : Ty := (.fld (.int .i64) (.fld (.int .i64) (.fld (.slice 3 (.int .i64)) .nil)))
abbrev B7 : Ty := (.fld (.int .i64) (.fld (.int .i64) .nil))
abbrev E7 : Ty := (.fld (.slice 162 A6) (.fld (.slice 215 (.slice 260 B7)) (.fld (.slice 4 .bool) .nil)))
abbrev M6 : Ty := (.fld (.slice 158 Q0) (.fld E7 (.fld (.slice 164 An3) .nil)))
abbrev Q3 : Ty := (.fld (.int .i64) (.fld (.int .i64) (.fld (.slice 3 (.int .i64)) (.fld .str .nil))))
noncomputable def Ew6 (k : Nat) : Cfg := { eqs := [], tab := [(22, (.slice 5 (.int .u8)))], spec := [], mspec := [], inl := [(7, Tryz.f7)], keep := [], join := [], hold := [], ptrs := [], maps := [], fuel := k }
noncomputable def G25 : VV → Ms → Option Bool := F6 [.bool] []
theorem Hq2 (k : Nat) (a0 : List Int) : C5 (Ew6 k) G25 k 7 [B5 (.slice 5 (.int .u8)) a0] ms0 = Fh3 k a0 := by kernel_rfl
noncomputable def Fl4 (k : Nat) : Spec := .imm (.slice 5 (.int .u8)) fun (a0 : List Int) => .body (Fh3 k a0) (E5 [.bool] [])
noncomputable def Da3 (k : Nat) : Cfg := { eqs := [], tab := [], spec := [], mspec := [], inl := [(55, Tryz.f55)], keep := [], join := [], hold := [], ptrs := [], maps := [], fuel := k }
noncomputable def Fl5 : VV → Ms → Option Bool := F6 [.bool] []
theorem G26 (k : Nat) (a0 : Int) (a1 : Int) (a2 : Int) : C5 (Da3 k) Fl5 k 55 [B5 (.int .i64) a0, B5 (.int .i64) a1, B5 (.int .i64) a2] ms0 = E9 k a0 a1 a2 := by kernel_rfl
noncomputable def H7 (k : Nat) : Spec := .imm (.int .i64) fun (a0 : Int) => .imm (.int .i64) fun (a1 : Int) => .imm (.int .i64) fun (a2 : Int) => .body (E9 k a0 a1 a2) (E5 [.bool] [])
noncomputable def Ce1 (k : Nat) : Cfg := { eqs := [], tab := [(9, .str)], spec := [(55, H7 k)], mspec := [], inl := [(107, Tryz.f107)], keep := [], join := [], hold := [], ptrs := [], maps := [], fuel := k }
noncomputable def Eb4 : VV → Ms → Option Bool := F6 [.bool] []
theorem Fl6 (k : Nat) (a0 : ByteArray) : C5 (Ce1 k) Eb4 k 107 [B5 .str a0] ms0 = S5 k a0 := by kernel_rfl
noncomputable def B26 (k : Nat) : Spec := .imm .str fun (a0 : ByteArray) => .body (S5 k a0) (E5 [.bool] [])
noncomputable def Bg1 (k : Nat) : Cfg := { eqs := [], tab := [(3, (.int .i64)), (9, .str), (24, (.slice 99 H2)), (26, E6), (99, H2)], spec := [(55, H7 k), (107, B26 k)], mspec := [], inl := [(53, Tryz.f53)], keep := [(5300001004, [1, 3])], join := [], hold := [], ptrs := [], maps := [], fuel := k }
noncomputable def B27 : VV → Ms → Option Bool := F6 [.bool] []
noncomputable def A22 (k n : Nat) (v1 : Int) (a0 : B3) : Option Bool := P3 (Bg1 k) B27 n true 5300001004 (cd [1, 1, 0, 1, 0, 0] (bo Tryz.f53)) [.b 0, .s (cd [1, 1, 1] (bo Tryz.f53)), .fn Tryz.f53] ⟨⟨(G3 56 0 [(1, one (.ptr 9000000 0)), (3, one (.int .i64 v1))]), [(9000000, .box [.slc 99 H2 a0.1])]⟩, 5300001000, 1, [(0, (G3 0 0 []))]⟩
theorem Fl7 (k n : Nat) (v1 : Int) (a0 : B3) : A22 k (n + 1) v1 a0 = Bk0 k (A22 k n) v1 a0 := by kernel_rfl
theorem Dz3 (k : Nat) : ∀ n : Nat, A22 k n = j4 k n
 | 0 => (by funext v1 a0; rfl)
 | n + 1 => by
  obtain h0 := Dz3 k n
  exact (by funext v1 a0; rw [Fl7, h0] <;> rfl)
theorem Ga9 (k : Nat) (a0 : B3) : C5 (Bg1 k) B27 k 53 [B5 E6 a0] ms0 = Du2 k (A22 k k) a0 := by kernel_rfl
theorem Gb0 (k : Nat) (a0 : B3) : C5 (Bg1 k) B27 k 53 [B5 E6 a0] ms0 = F7 k a0 := by rw [Ga9, show A22 k k = j4 k k from (Dz3 k k)] <;> rfl
noncomputable def Bm3 (k : Nat) : Spec := .imm E6 fun (a0 : B3) => .body (F7 k a0) (E5 [.bool] [])
noncomputable def Ay0 (k : Nat) : Cfg := { eqs := [], tab := [(9, .str), (24, (.slice 99 H2)), (26, E6), (99, H2)], spec := [], mspec := [], inl := [(72, Tryz.f72)], keep := [(7200001003, [2, 3, 4, 5, 6]), (7200001009, [2, 3, 4, 5, 7])], join := [], hold := [(7200001003, [(5, [0, 0], 99, H2, false, false)])], ptrs := [], maps := [], fuel := k }
noncomputable def A96 : VV → Ms → Option B3 := F6 [E6] [.o]
noncomputable def Bm4 (k n : Nat) (v3 : Int) (a0 : B3) (a1 : B1) (xs4 : List B1) : Option B3 := P3 (Ay0 k) A96 n true 7200001009 (cd [1, 1, 1, 1, 0, 1, 0, 0] (bo Tryz.f72)) [.b 2, .s (cd [1, 1, 1, 1, 1] (bo Tryz.f72)), .fn Tryz.f72] ⟨⟨(G3 68 0 [(2, one (.ptr 9000000 0)), (3, one (.ptr 9000001 0)), (4, one (.ptr 9000002 0)), (5, one (.ptr 9000003 0)), (7, one (.int .i64 v3))]), [(9000000, .box [.slc 99 H2 a0.1]), (9000001, .box [.str a1.1, .str a1.2.1, .int .i64 a1.2.2.1]), (9000002, .box [.nilS]), (9000003, .box [.row 9000004 none none]), (9000004, .row 99 H2 xs4 true)]⟩, 7200001000, 1, [(0, (G3 0 0 []))]⟩
noncomputable def A23 (k n : Nat) (v1 : Int) (a0 : B3) (a1 : B1) (xs2 : List B1) : Option B3 := P3 (Ay0 k) A96 n true 7200001003 (cd [1, 1, 0, 1, 0, 0] (bo Tryz.f72)) [.b 0, .s (cd [1, 1, 1] (bo Tryz.f72)), .fn Tryz.f72] ⟨⟨(G3 68 0 [(2, one (.ptr 9000000 0)), (3, one (.ptr 9000001 0)), (4, one (.ptr 9000002 0)), (5, one (.ptr 9000003 0)), (6, one (.int .i64 v1))]), [(9000000, .box [.slc 99 H2 a0.1]), (9000001, .box [.str a1.1, .str a1.2.1, .int .i64 a1.2.2.1]), (9000002, .box [.nilS]), (9000003, .box [.row 9000004 none none]), (9000004, .row 99 H2 xs2 true)]⟩, 7200001000, 1, [(0, (G3 0 0 []))]⟩
theorem Fl8 (k n : Nat) (v3 : Int) (a0 : B3) (a1 : B1) (xs4 : List B1) : Bm4 k (n + 1) v3 a0 a1 xs4 = Bk1 k (Bm4 k n) v3 a0 a1 xs4 := by kernel_rfl
theorem Fl9 (k n : Nat) (v1 : Int) (a0 : B3) (a1 : B1) (xs2 : List B1) : A23 k (n + 1) v1 a0 a1 xs2 = Bk2 k (A23 k n) (Bm4 k n) v1 a0 a1 xs2 := by kernel_rfl
theorem Dz4 (k : Nat) : ∀ n : Nat, Bm4 k n = Al9 k n ∧ A23 k n = Aa4 k n
 | 0 => ⟨(by funext v3 a0 a1 xs4; rfl), (by funext v1 a0 a1 xs2; rfl)⟩
 | n + 1 => by
  obtain ⟨h1, h0⟩ := Dz4 k n
  exact ⟨(by funext v3 a0 a1 xs4; rw [Fl8, h1] <;> rfl), (by funext v1 a0 a1 xs2; rw [Fl9, h0, h1] <;> rfl)⟩
theorem Gb1 (k : Nat) (a0 : B3) (a1 : B1) : C5 (Ay0 k) A96 k 72 [B5 E6 a0, B5 H2 a1] ms0 = Du3 k (A23 k k) a0 a1 := by kernel_rfl
theorem Gb2 (k : Nat) (a0 : B3) (a1 : B1) : C5 (Ay0 k) A96 k 72 [B5 E6 a0, B5 H2 a1] ms0 = G9 k a0 a1 := by rw [Gb1, show A23 k k = Aa4 k k from (Dz4 k k).2] <;> rfl
noncomputable def Ce2 (k : Nat) : Spec := .imm E6 fun (a0 : B3) => .imm H2 fun (a1 : B1) => .body (G9 k a0 a1) (E5 [E6] [.o])
noncomputable def Bv6 (k : Nat) : Cfg := { eqs := [], tab := [(9, .str), (24, (.slice 99 H2)), (26, E6), (99, H2)], spec := [], mspec := [], inl := [(101, Tryz.f101)], keep := [(10100001002, [1, 2, 5])], join := [], hold := [], ptrs := [], maps := [], fuel := k }
noncomputable def Ce3 : VV → Ms → Option Int := F6 [(.int .i64)] []
noncomputable def Bg2 (k n : Nat) (a1 : ByteArray) (v1 : Int) (a0 : B3) : Option Int := P3 (Bv6 k) Ce3 n true 10100001002 (cd [1, 0, 1, 0, 0] (bo Tryz.f101)) [.b 0, .s (cd [1, 1] (bo Tryz.f101)), .fn Tryz.f101] ⟨⟨(G3 22 0 [(1, one (.str a1)), (2, one (.ptr 9000000 0)), (5, one (.int .i64 v1))]), [(9000000, .box [.slc 99 H2 a0.1])]⟩, 10100001000, 1, [(0, (G3 0 0 []))]⟩
theorem Gb3 (k n : Nat) (a1 : ByteArray) (v1 : Int) (a0 : B3) : Bg2 k (n + 1) a1 v1 a0 = By8 k (Bg2 k n) a1 v1 a0 := by kernel_rfl
theorem Ep3 (k : Nat) : ∀ n : Nat, Bg2 k n = Ak6 k n
 | 0 => (by funext a1 v1 a0; rfl)
 | n + 1 => by
  obtain h0 := Ep3 k n
  exact (by funext a1 v1 a0; rw [Gb3, h0] <;> rfl)
theorem G27 (k : Nat) (a0 : B3) (a1 : ByteArray) : C5 (Bv6 k) Ce3 k 101 [B5 E6 a0, B5 .str a1] ms0 = Em4 k (Bg2 k k) a0 a1 := by kernel_rfl
theorem G28 (k : Nat) (a0 : B3) (a1 : ByteArray) : C5 (Bv6 k) Ce3 k 101 [B5 E6 a0, B5 .str a1] ms0 = Bk3 k a0 a1 := by rw [G27, show Bg2 k k = Ak6 k k from (Ep3 k k)] <;> rfl
noncomputable def Dz5 (k : Nat) : Spec := .imm E6 fun (a0 : B3) => .imm .str fun (a1 : ByteArray) => .body (Bk3 k a0 a1) (E5 [(.int .i64)] [])
noncomputable def Ac4 (k : Nat) : Cfg := { eqs := [], tab := [(9, .str), (24, (.slice 99 H2)), (26, E6), (99, H2)], spec := [], mspec := [], inl := [(111, Tryz.f111)], keep := [(11100001003, [1, 2, 4, 5, 6])], join := [], hold := [(11100001003, [(5, [0, 0], 99, H2, false, false)])], ptrs := [], maps := [], fuel := k }
noncomputable def Ay1 : VV → Ms → Option B3 := F6 [E6] [.o]
noncomputable def p9 (k n : Nat) (a1 : ByteArray) (v1 : Int) (a0 : B3) (xs2 : List B1) : Option B3 := P3 (Ac4 k) Ay1 n true 11100001003 (cd [1, 1, 0, 1, 0, 0] (bo Tryz.f111)) [.b 0, .s (cd [1, 1, 1] (bo Tryz.f111)), .fn Tryz.f111] ⟨⟨(G3 34 0 [(1, one (.str a1)), (2, one (.ptr 9000000 0)), (4, one (.ptr 9000001 0)), (5, one (.ptr 9000002 0)), (6, one (.int .i64 v1))]), [(9000000, .box [.slc 99 H2 a0.1]), (9000001, .box [.nilS]), (9000002, .box [.row 9000003 none none]), (9000003, .row 99 H2 xs2 true)]⟩, 11100001000, 1, [(0, (G3 0 0 []))]⟩
theorem Dm1 (k n : Nat) (a1 : ByteArray) (v1 : Int) (a0 : B3) (xs2 : List B1) : p9 k (n + 1) a1 v1 a0 xs2 = Aj8 k (p9 k n) a1 v1 a0 xs2 := by kernel_rfl
theorem Ce4 (k : Nat) : ∀ n : Nat, p9 k n = S8 k n
 | 0 => (by funext a1 v1 a0 xs2; rfl)
 | n + 1 => by
  obtain h0 := Ce4 k n
  exact (by funext a1 v1 a0 xs2; rw [Dm1, h0] <;> rfl)
theorem Dz6 (k : Nat) (a0 : B3) (a1 : ByteArray) : C5 (Ac4 k) Ay1 k 111 [B5 E6 a0, B5 .str a1] ms0 = Ca6 k (p9 k k) a0 a1 := by kernel_rfl
theorem Dz7 (k : Nat) (a0 : B3) (a1 : ByteArray) : C5 (Ac4 k) Ay1 k 111 [B5 E6 a0, B5 .str a1] ms0 = G1 k a0 a1 := by rw [Dz6, show p9 k k = S8 k k from (Ce4 k k)] <;> rfl
noncomputable def B76 (k : Nat) : Spec := .imm E6 fun (a0 : B3) => .imm .str fun (a1 : ByteArray) => .body (G1 k a0 a1) (E5 [E6] [.o])
noncomputable def Da4 (k : Nat) : Cfg := { eqs := [], tab := [(3, (.int .i64)), (9, .str), (24, (.slice 99 H2)), (26, E6), (93, Ag7), (99, H2)], spec := [(53, Bm3 k), (72, Ce2 k), (101, Dz5 k), (107, B26 k), (111, B76 k)], mspec := [], inl := [(61, Tryz.f61)], keep := [], join := [], hold := [], ptrs := [], maps := [], fuel := k }
noncomputable def Fm0 : VV → Ms → Option (B3 × Bool) := F6 [E6, .bool] [.o]
theorem G29 (k : Nat) (a0 : B3) (a1 : I4) : C5 (Da4 k) Fm0 k 61 [B5 E6 a0, B5 Ag7 a1] ms0 = b9 k a0 a1 := by kernel_rfl
noncomputable def Dz8 (k : Nat) : Spec := .imm E6 fun (a0 : B3) => .imm Ag7 fun (a1 : I4) => .body (b9 k a0 a1) (E5 [E6, .bool] [.o])
noncomputable def Bg3 (k : Nat) : Cfg := { eqs := [], tab := [(24, (.slice 99 H2)), (26, E6), (40, (.slice 93 Ag7)), (93, Ag7)], spec := [(61, Dz8 k)], mspec := [], inl := [(15, Tryz.f15)], keep := [(1500001003, [1, 4, 6, 7])], join := [], hold := [], ptrs := [], maps := [], fuel := k }
noncomputable def B28 : VV → Ms → Option (B3 × Int) := F6 [E6, (.int .i64)] [.o]
noncomputable def A24 (k n : Nat) (a1 : List I4) (v1 : Int) (xs2 : List B1) : Option (B3 × Int) := P3 (Bg3 k) B28 n true 1500001003 (cd [1, 1, 0, 1, 0, 0] (bo Tryz.f15)) [.b 0, .s (cd [1, 1, 1] (bo Tryz.f15)), .fn Tryz.f15] ⟨⟨(G3 38 0 [(1, one (.slc 93 Ag7 a1)), (4, one (.ptr 9000000 0)), (6, one (.ptr 9000001 0)), (7, one (.int .i64 v1))]), [(9000000, .box [.nilS]), (9000001, .box [.row 9000002 none none]), (9000002, .row 99 H2 xs2 true)]⟩, 1500001000, 1, [(0, (G3 0 0 []))]⟩
theorem Fm1 (k n : Nat) (a1 : List I4) (v1 : Int) (xs2 : List B1) : A24 k (n + 1) a1 v1 xs2 = Bk4 k (A24 k n) a1 v1 xs2 := by kernel_rfl
theorem Dz9 (k : Nat) : ∀ n : Nat, A24 k n = j5 k n
 | 0 => (by funext a1 v1 xs2; rfl)
 | n + 1 => by
  obtain h0 := Dz9 k n
  exact (by funext a1 v1 xs2; rw [Fm1, h0] <;> rfl)
theorem Gb4 (k : Nat) (a0 : B3) (a1 : List I4) : C5 (Bg3 k) B28 k 15 [B5 E6 a0, B5 (.slice 93 Ag7) a1] ms0 = Du4 k (A24 k k) a0 a1 := by kernel_rfl
theorem Gb5 (k : Nat) (a0 : B3) (a1 : List I4) : C5 (Bg3 k) B28 k 15 [B5 E6 a0, B5 (.slice 93 Ag7) a1] ms0 = H0 k a0 a1 := by rw [Gb4, show A24 k k = j5 k k from (Dz9 k k)] <;> rfl
noncomputable def Ce5 (k : Nat) : Spec := .imm E6 fun (a0 : B3) => .imm (.slice 93 Ag7) fun (a1 : List I4) => .body (H0 k a0 a1) (E5 [E6, (.int .i64)] [.o])
noncomputable def Ce6 (k : Nat) : Cfg := { eqs := [], tab := [(3, (.int .i64)), (5, (.int .u8)), (22, (.slice 5 (.int .u8))), (129, D1)], spec := [], mspec := [], inl := [(64, Tryz.f64)], keep := [], join := [], hold := [], ptrs := [], maps := [], fuel := k }
noncomputable def Eb5 : VV → Ms → Option (Int × B0 × Unit) := Ca5 [(.int .i64)] [] [.box D1]
theorem Fm2 (k : Nat) (a0 : B0) : C5 (Ce6 k) Eb5 k 64 (S1 1 [.box D1] (a0, ())) (ms1 [.box D1] (a0, ())) = W6 k a0 := by kernel_rfl
noncomputable def B29 (k : Nat) : MSpec := .box D1 fun (a0 : B0) => .body (W6 k a0) (fun r => E5 [(.int .i64)] [] r.1) (fun r => poV [.box D1] r.2)
noncomputable def B30 (k : Nat) : Cfg := { eqs := [], tab := [], spec := [], mspec := [(64, B29 k)], inl := [(65, Tryz.f65)], keep := [], join := [], hold := [], ptrs := [], maps := [], fuel := k }
noncomputable def D00 : VV → Ms → Option (Int × B0 × Unit) := Ca5 [(.int .i64)] [] [.box D1, .imm (.int .i64)]
theorem Ew7 (k : Nat) (a0 : B0) (a1 : Int) : C5 (B30 k) D00 k 65 (S1 1 [.box D1, .imm (.int .i64)] (a0, a1, ())) (ms1 [.box D1, .imm (.int .i64)] (a0, a1, ())) = D0 k a0 a1 := by kernel_rfl
noncomputable def O3 (k : Nat) : MSpec := .box D1 fun (a0 : B0) => .imm (.int .i64) fun (a1 : Int) => .body (D0 k a0 a1) (fun r => E5 [(.int .i64)] [] r.1) (fun r => poV [.box D1, .imm (.int .i64)] r.2)
noncomputable def Bg4 (k : Nat) : Cfg := { eqs := [], tab := [(3, (.int .i64)), (5, (.int .u8)), (9, .str), (22, (.slice 5 (.int .u8)))], spec := [], mspec := [], inl := [(109, Tryz.f109)], keep := [(10900001002, [0, 3])], join := [], hold := [], ptrs := [], maps := [], fuel := k }
noncomputable def B31 : VV → Ms → Option ByteArray := F6 [.str] []
noncomputable def A25 (k n : Nat) (a0 : Int) (xs1 : List Int) : Option ByteArray := P3 (Bg4 k) B31 n true 10900001002 (cd [1, 1, 0, 0, 0] (bo Tryz.f109)) [.b 0, .s (cd [1, 1, 1] (bo Tryz.f109)), .fn Tryz.f109] ⟨⟨(G3 22 0 [(0, one (.int .i64 a0)), (3, one (.row 9000000 none none))]), [(9000000, .row 5 (.int .u8) xs1 true)]⟩, 10900001000, 1, [(0, (G3 0 0 []))]⟩
theorem Fm3 (k n : Nat) (a0 : Int) (xs1 : List Int) : A25 k (n + 1) a0 xs1 = Bk5 k (A25 k n) a0 xs1 := by kernel_rfl
theorem D01 (k : Nat) : ∀ n : Nat, A25 k n = Aa5 k n
 | 0 => (by funext a0 xs1; rfl)
 | n + 1 => by
  obtain h0 := D01 k n
  exact (by funext a0 xs1; rw [Fm3, h0] <;> rfl)
theorem Gb6 (k : Nat) (a0 : Int) : C5 (Bg4 k) B31 k 109 [B5 (.int .i64) a0] ms0 = Ct6 k (A25 k k) a0 := by kernel_rfl
theorem Gb7 (k : Nat) (a0 : Int) : C5 (Bg4 k) B31 k 109 [B5 (.int .i64) a0] ms0 = N0 k a0 := by rw [Gb6, show A25 k k = Aa5 k k from (D01 k k)] <;> rfl
noncomputable def Ac5 (k : Nat) : Spec := .imm (.int .i64) fun (a0 : Int) => .body (N0 k a0) (E5 [.str] [])
noncomputable def Ah8 (k : Nat) : Cfg := { eqs := [], tab := [(3, (.int .i64)), (49, (.slice 3 (.int .i64)))], spec := [(55, H7 k)], mspec := [], inl := [(195, Tryz.f195)], keep := [(19500001002, [0, 3])], join := [], hold := [], ptrs := [], maps := [], fuel := k }
noncomputable def A65 : VV → Ms → Option Bool := F6 [.bool] []
noncomputable def Ac6 (k n : Nat) (a0 : List Int) (v1 : Int) : Option Bool := P3 (Ah8 k) A65 n true 19500001002 (cd [1, 0, 1, 0, 0] (bo Tryz.f195)) [.b 0, .s (cd [1, 1] (bo Tryz.f195)), .fn Tryz.f195] ⟨⟨(G3 19 0 [(0, one (.slc 3 (.int .i64) a0)), (3, one (.int .i64 v1))]), []⟩, 19500001000, 1, [(0, (G3 0 0 []))]⟩
theorem D02 (k n : Nat) (a0 : List Int) (v1 : Int) : Ac6 k (n + 1) a0 v1 = Ao1 k (Ac6 k n) a0 v1 := by kernel_rfl
theorem Cq1 (k : Nat) : ∀ n : Nat, Ac6 k n = V2 k n
 | 0 => (by funext a0 v1; rfl)
 | n + 1 => by
  obtain h0 := Cq1 k n
  exact (by funext a0 v1; rw [D02, h0] <;> rfl)
theorem Eb6 (k : Nat) (a0 : List Int) : C5 (Ah8 k) A65 k 195 [B5 (.slice 3 (.int .i64)) a0] ms0 = Cn8 k (Ac6 k k) a0 := by kernel_rfl
theorem Eb7 (k : Nat) (a0 : List Int) : C5 (Ah8 k) A65 k 195 [B5 (.slice 3 (.int .i64)) a0] ms0 = X1 k a0 := by rw [Eb6, show Ac6 k k = V2 k k from (Cq1 k k)] <;> rfl
noncomputable def Ce7 (k : Nat) : Spec := .imm (.slice 3 (.int .i64)) fun (a0 : List Int) => .body (X1 k a0) (E5 [.bool] [])
noncomputable def Ce8 (k : Nat) : Cfg := { eqs := [], tab := [(3, (.int .i64)), (9, .str), (49, (.slice 3 (.int .i64))), (162, A6)], spec := [(55, H7 k), (195, Ce7 k)], mspec := [], inl := [(170, Tryz.f170)], keep := [], join := [], hold := [], ptrs := [], maps := [], fuel := k }
noncomputable def Eb8 : VV → Ms → Option Bool := F6 [.bool] []
theorem Fm4 (k : Nat) (a0 : A0) : C5 (Ce8 k) Eb8 k 170 [B5 A6 a0] ms0 = W7 k a0 := by kernel_rfl
noncomputable def B32 (k : Nat) : Spec := .imm A6 fun (a0 : A0) => .body (W7 k a0) (E5 [.bool] [])
noncomputable def A26 (k : Nat) : Cfg := { eqs := [], tab := [(3, (.int .i64)), (4, .bool), (49, (.slice 3 (.int .i64))), (162, A6)], spec := [(55, H7 k), (170, B32 k)], mspec := [], inl := [(152, Tryz.f152)], keep := [(15200001004, [1, 3])], join := [], hold := [], ptrs := [], maps := [], fuel := k }
noncomputable def Bp6 : VV → Ms → Option Bool := F6 [.bool] []
noncomputable def Aq1 (k n : Nat) (v1 : Int) (a0 : A0) : Option Bool := P3 (A26 k) Bp6 n true 15200001004 (cd [1, 1, 0, 1, 0, 0] (bo Tryz.f152)) [.b 0, .s (cd [1, 1, 1] (bo Tryz.f152)), .fn Tryz.f152] ⟨⟨(G3 77 0 [(1, one (.ptr 9000000 0)), (3, one (.int .i64 v1))]), [(9000000, .box [.int .i64 a0.1, .int .i64 a0.2.1, .int .i64 a0.2.2.1, .int .i64 a0.2.2.2.1, .int .i64 a0.2.2.2.2.1, .slc 3 (.int .i64) a0.2.2.2.2.2.1, .str a0.2.2.2.2.2.2.1, .slc 3 (.int .i64) a0.2.2.2.2.2.2.2.1, .int .i64 a0.2.2.2.2.2.2.2.2.1])]⟩, 15200001000, 1, [(0, (G3 0 0 []))]⟩
theorem Ew8 (k n : Nat) (v1 : Int) (a0 : A0) : Aq1 k (n + 1) v1 a0 = A77 k (Aq1 k n) v1 a0 := by kernel_rfl
theorem Di2 (k : Nat) : ∀ n : Nat, Aq1 k n = T7 k n
 | 0 => (by funext v1 a0; rfl)
 | n + 1 => by
  obtain h0 := Di2 k n
  exact (by funext v1 a0; rw [Ew8, h0] <;> rfl)
theorem Fm5 (k : Nat) (a0 : A0) : C5 (A26 k) Bp6 k 152 [B5 A6 a0] ms0 = Ca7 k (Aq1 k k) a0 := by kernel_rfl
theorem Fm6 (k : Nat) (a0 : A0) : C5 (A26 k) Bp6 k 152 [B5 A6 a0] ms0 = J8 k a0 := by rw [Fm5, show Aq1 k k = T7 k k from (Di2 k k)] <;> rfl
noncomputable def Af8 (k : Nat) : Spec := .imm A6 fun (a0 : A0) => .body (J8 k a0) (E5 [.bool] [])
noncomputable def Bg5 (k : Nat) : Cfg := { eqs := [], tab := [(3, (.int .i64)), (107, (.slice 162 A6)), (111, E7), (162, A6)], spec := [], mspec := [], inl := [(190, Tryz.f190)], keep := [(19000001002, [1, 2, 5])], join := [], hold := [], ptrs := [], maps := [], fuel := k }
noncomputable def B33 : VV → Ms → Option Int := F6 [(.int .i64)] []
noncomputable def A27 (k n : Nat) (a1 : Int) (v1 : Int) (a0 : A8) : Option Int := P3 (Bg5 k) B33 n true 19000001002 (cd [1, 0, 1, 0, 0] (bo Tryz.f190)) [.b 0, .s (cd [1, 1] (bo Tryz.f190)), .fn Tryz.f190] ⟨⟨(G3 22 0 [(1, one (.int .i64 a1)), (2, one (.ptr 9000000 0)), (5, one (.int .i64 v1))]), [(9000000, .box [.slc 162 A6 a0.1, .slc 215 (.slice 260 B7) a0.2.1, .slc 4 .bool a0.2.2.1])]⟩, 19000001000, 1, [(0, (G3 0 0 []))]⟩
theorem Fm7 (k n : Nat) (a1 : Int) (v1 : Int) (a0 : A8) : A27 k (n + 1) a1 v1 a0 = Bk6 k (A27 k n) a1 v1 a0 := by kernel_rfl
theorem D03 (k : Nat) : ∀ n : Nat, A27 k n = Aa6 k n
 | 0 => (by funext a1 v1 a0; rfl)
 | n + 1 => by
  obtain h0 := D03 k n
  exact (by funext a1 v1 a0; rw [Fm7, h0] <;> rfl)
theorem Gb8 (k : Nat) (a0 : A8) (a1 : Int) : C5 (Bg5 k) B33 k 190 [B5 E7 a0, B5 (.int .i64) a1] ms0 = Du5 k (A27 k k) a0 a1 := by kernel_rfl
theorem Gb9 (k : Nat) (a0 : A8) (a1 : Int) : C5 (Bg5 k) B33 k 190 [B5 E7 a0, B5 (.int .i64) a1] ms0 = Bd6 k a0 a1 := by rw [Gb8, show A27 k k = Aa6 k k from (D03 k k)] <;> rfl
noncomputable def Bm5 (k : Nat) : Spec := .imm E7 fun (a0 : A8) => .imm (.int .i64) fun (a1 : Int) => .body (Bd6 k a0 a1) (E5 [(.int .i64)] [])
noncomputable def A28 (k : Nat) : Cfg := { eqs := [], tab := [(3, (.int .i64)), (49, (.slice 3 (.int .i64))), (107, (.slice 162 A6)), (111, E7), (162, A6)], spec := [(190, Bm5 k)], mspec := [], inl := [(177, Tryz.f177)], keep := [(17700001003, [1, 2, 5, 6])], join := [], hold := [], ptrs := [], maps := [], fuel := k }
noncomputable def Bp7 : VV → Ms → Option Int := F6 [(.int .i64)] []
noncomputable def Aq2 (k n : Nat) (a1 : List Int) (v1 : Int) (v2 : Int) (a0 : A8) : Option Int := P3 (A28 k) Bp7 n true 17700001003 (cd [1, 1, 0, 1, 0, 0] (bo Tryz.f177)) [.b 0, .s (cd [1, 1, 1] (bo Tryz.f177)), .fn Tryz.f177] ⟨⟨(G3 42 0 [(1, one (.slc 3 (.int .i64) a1)), (2, one (.ptr 9000000 0)), (5, one (.int .i64 v1)), (6, one (.int .i64 v2))]), [(9000000, .box [.slc 162 A6 a0.1, .slc 215 (.slice 260 B7) a0.2.1, .slc 4 .bool a0.2.2.1])]⟩, 17700001000, 1, [(0, (G3 0 0 []))]⟩
theorem Ew9 (k n : Nat) (a1 : List Int) (v1 : Int) (v2 : Int) (a0 : A8) : Aq2 k (n + 1) a1 v1 v2 a0 = By9 k (Aq2 k n) a1 v1 v2 a0 := by kernel_rfl
theorem Di3 (k : Nat) : ∀ n : Nat, Aq2 k n = l7 k n
 | 0 => (by funext a1 v1 v2 a0; rfl)
 | n + 1 => by
  obtain h0 := Di3 k n
  exact (by funext a1 v1 v2 a0; rw [Ew9, h0] <;> rfl)
theorem Fm8 (k : Nat) (a0 : A8) (a1 : List Int) : C5 (A28 k) Bp7 k 177 [B5 E7 a0, B5 (.slice 3 (.int .i64)) a1] ms0 = De2 k (Aq2 k k) a0 a1 := by kernel_rfl
theorem Fm9 (k : Nat) (a0 : A8) (a1 : List Int) : C5 (A28 k) Bp7 k 177 [B5 E7 a0, B5 (.slice 3 (.int .i64)) a1] ms0 = J9 k a0 a1 := by rw [Fm8, show Aq2 k k = l7 k k from (Di3 k k)] <;> rfl
noncomputable def A97 (k : Nat) : Spec := .imm E7 fun (a0 : A8) => .imm (.slice 3 (.int .i64)) fun (a1 : List Int) => .body (J9 k a0 a1) (E5 [(.int .i64)] [])
noncomputable def A29 (k : Nat) : Cfg := { eqs := [], tab := [(3, (.int .i64)), (107, (.slice 162 A6)), (162, A6)], spec := [], mspec := [], inl := [(204, Tryz.f204)], keep := [(20400001002, [0, 1, 4, 6])], join := [], hold := [], ptrs := [], maps := [], fuel := k }
noncomputable def Bp8 : VV → Ms → Option (A0 × Bool) := F6 [A6, .bool] [.s, .s]
noncomputable def Aq3 (k n : Nat) (a0 : List A0) (a1 : Int) (v1 : Int) : Option (A0 × Bool) := P3 (A29 k) Bp8 n true 20400001002 (cd [1, 0, 1, 0, 0] (bo Tryz.f204)) [.b 0, .s (cd [1, 1] (bo Tryz.f204)), .fn Tryz.f204] ⟨⟨(G3 25 0 [(0, one (.slc 162 A6 a0)), (1, one (.int .i64 a1)), (4, one (.ptr 9000000 0)), (6, one (.int .i64 v1))]), [(9000000, .box [.int .i64 0, .int .i64 0, .int .i64 0, .int .i64 0, .int .i64 0, .nilS, .str ByteArray.empty, .nilS, .int .i64 0])]⟩, 20400001000, 1, [(0, (G3 0 0 []))]⟩
theorem Ex0 (k n : Nat) (a0 : List A0) (a1 : Int) (v1 : Int) : Aq3 k (n + 1) a0 a1 v1 = A78 k (Aq3 k n) a0 a1 v1 := by kernel_rfl
theorem Di4 (k : Nat) : ∀ n : Nat, Aq3 k n = l8 k n
 | 0 => (by funext a0 a1 v1; rfl)
 | n + 1 => by
  obtain h0 := Di4 k n
  exact (by funext a0 a1 v1; rw [Ex0, h0] <;> rfl)
theorem Fn0 (k : Nat) (a0 : List A0) (a1 : Int) : C5 (A29 k) Bp8 k 204 [B5 (.slice 162 A6) a0, B5 (.int .i64) a1] ms0 = De3 k (Aq3 k k) a0 a1 := by kernel_rfl
theorem Fn1 (k : Nat) (a0 : List A0) (a1 : Int) : C5 (A29 k) Bp8 k 204 [B5 (.slice 162 A6) a0, B5 (.int .i64) a1] ms0 = M9 k a0 a1 := by rw [Fn0, show Aq3 k k = l8 k k from (Di4 k k)] <;> rfl
noncomputable def Y1 (k : Nat) : Spec := .imm (.slice 162 A6) fun (a0 : List A0) => .imm (.int .i64) fun (a1 : Int) => .body (M9 k a0 a1) (E5 [A6, .bool] [.s, .s])
noncomputable def D04 (k : Nat) : Cfg := { eqs := [], tab := [(3, (.int .i64)), (215, (.slice 260 B7)), (260, B7)], spec := [], mspec := [], inl := [(205, Tryz.f205)], keep := [(20500001002, [0, 1, 5])], join := [], hold := [], ptrs := [], maps := [], fuel := k }
noncomputable def D05 : VV → Ms → Option Int := F6 [(.int .i64)] []
noncomputable def C34 (k n : Nat) (a0 : List A1) (a1 : Int) (v1 : Int) : Option Int := P3 (D04 k) D05 n true 20500001002 (cd [1, 0, 1, 0, 0] (bo Tryz.f205)) [.b 0, .s (cd [1, 1] (bo Tryz.f205)), .fn Tryz.f205] ⟨⟨(G3 24 0 [(0, one (.slc 260 B7 a0)), (1, one (.int .i64 a1)), (5, one (.int .i64 v1))]), []⟩, 20500001000, 1, [(0, (G3 0 0 []))]⟩
theorem Hq3 (k n : Nat) (a0 : List A1) (a1 : Int) (v1 : Int) : C34 k (n + 1) a0 a1 v1 = Dq5 k (C34 k n) a0 a1 v1 := by kernel_rfl
theorem Hg5 (k : Nat) : ∀ n : Nat, C34 k n = Bz0 k n
 | 0 => (by funext a0 a1 v1; rfl)
 | n + 1 => by
  obtain h0 := Hg5 k n
  exact (by funext a0 a1 v1; rw [Hq3, h0] <;> rfl)
theorem Hv7 (k : Nat) (a0 : List A1) (a1 : Int) : C5 (D04 k) D05 k 205 [B5 (.slice 260 B7) a0, B5 (.int .i64) a1] ms0 = Hc2 k (C34 k k) a0 a1 := by kernel_rfl
theorem Hv8 (k : Nat) (a0 : List A1) (a1 : Int) : C5 (D04 k) D05 k 205 [B5 (.slice 260 B7) a0, B5 (.int .i64) a1] ms0 = Cl6 k a0 a1 := by rw [Hv7, show C34 k k = Bz0 k k from (Hg5 k k)] <;> rfl
noncomputable def Bm6 (k : Nat) : Spec := .imm (.slice 260 B7) fun (a0 : List A1) => .imm (.int .i64) fun (a1 : Int) => .body (Cl6 k a0 a1) (E5 [(.int .i64)] [])
noncomputable def B34 (k : Nat) : Cfg := { eqs := [], tab := [(3, (.int .i64)), (162, A6)], spec := [(55, H7 k), (204, Y1 k), (205, Bm6 k)], mspec := [], inl := [(208, Tryz.f208)], keep := [], join := [], hold := [], ptrs := [], maps := [], fuel := k }
noncomputable def D06 : VV → Ms → Option Int := F6 [(.int .i64)] []
theorem Ex1 (k : Nat) (a0 : List A0) (a1 : List A1) (a2 : Int) : C5 (B34 k) D06 k 208 [B5 (.slice 162 A6) a0, B5 (.slice 260 B7) a1, B5 (.int .i64) a2] ms0 = S9 k a0 a1 a2 := by kernel_rfl
noncomputable def w7 (k : Nat) : Spec := .imm (.slice 162 A6) fun (a0 : List A0) => .imm (.slice 260 B7) fun (a1 : List A1) => .imm (.int .i64) fun (a2 : Int) => .body (S9 k a0 a1 a2) (E5 [(.int .i64)] [])
noncomputable def Ce9 (k : Nat) : Cfg := { eqs := [], tab := [(3, (.int .i64)), (49, (.slice 3 (.int .i64))), (162, A6)], spec := [(55, H7 k), (204, Y1 k), (205, Bm6 k)], mspec := [], inl := [(209, Tryz.f209)], keep := [], join := [], hold := [], ptrs := [], maps := [], fuel := k }
noncomputable def Eb9 : VV → Ms → Option Int := F6 [(.int .i64)] []
theorem Fn2 (k : Nat) (a0 : List A0) (a1 : List A1) (a2 : Int) : C5 (Ce9 k) Eb9 k 209 [B5 (.slice 162 A6) a0, B5 (.slice 260 B7) a1, B5 (.int .i64) a2] ms0 = W8 k a0 a1 a2 := by kernel_rfl
noncomputable def Aq4 (k : Nat) : Spec := .imm (.slice 162 A6) fun (a0 : List A0) => .imm (.slice 260 B7) fun (a1 : List A1) => .imm (.int .i64) fun (a2 : Int) => .body (W8 k a0 a1 a2) (E5 [(.int .i64)] [])
noncomputable def Aq5 (k : Nat) : Cfg := { eqs := [], tab := [(3, (.int .i64)), (215, (.slice 260 B7)), (260, B7)], spec := [], mspec := [], inl := [(236, Tryz.f236)], keep := [(23600001002, [0, 3])], join := [], hold := [], ptrs := [], maps := [], fuel := k }
noncomputable def Bg6 : VV → Ms → Option Bool := F6 [.bool] []
noncomputable def Ah9 (k n : Nat) (a0 : List A1) (v1 : Int) : Option Bool := P3 (Aq5 k) Bg6 n true 23600001002 (cd [1, 0, 1, 0, 0] (bo Tryz.f236)) [.b 0, .s (cd [1, 1] (bo Tryz.f236)), .fn Tryz.f236] ⟨⟨(G3 16 0 [(0, one (.slc 260 B7 a0)), (3, one (.int .i64 v1))]), []⟩, 23600001000, 1, [(0, (G3 0 0 []))]⟩
theorem Ec0 (k n : Nat) (a0 : List A1) (v1 : Int) : Ah9 k (n + 1) a0 v1 = Az3 k (Ah9 k n) a0 v1 := by kernel_rfl
theorem C35 (k : Nat) : ∀ n : Nat, Ah9 k n = Y6 k n
 | 0 => (by funext a0 v1; rfl)
 | n + 1 => by
  obtain h0 := C35 k n
  exact (by funext a0 v1; rw [Ec0, h0] <;> rfl)
theorem Ex2 (k : Nat) (a0 : List A1) : C5 (Aq5 k) Bg6 k 236 [B5 (.slice 260 B7) a0] ms0 = Cz1 k (Ah9 k k) a0 := by kernel_rfl
theorem Ex3 (k : Nat) (a0 : List A1) : C5 (Aq5 k) Bg6 k 236 [B5 (.slice 260 B7) a0] ms0 = Bd7 k a0 := by rw [Ex2, show Ah9 k k = Y6 k k from (C35 k k)] <;> rfl
noncomputable def Cq2 (k : Nat) : Spec := .imm (.slice 260 B7) fun (a0 : List A1) => .body (Bd7 k a0) (E5 [.bool] [])
noncomputable def Cf0 (k : Nat) : Cfg := { eqs := [], tab := [(3, (.int .i64)), (162, A6)], spec := [(204, Y1 k), (205, Bm6 k), (208, w7 k), (236, Cq2 k)], mspec := [], inl := [(225, Tryz.f225)], keep := [], join := [], hold := [], ptrs := [], maps := [], fuel := k }
noncomputable def Ec1 : VV → Ms → Option Bool := F6 [.bool] []
theorem Fn3 (k : Nat) (a0 : List A0) (a1 : List A1) (a2 : A0) : C5 (Cf0 k) Ec1 k 225 [B5 (.slice 162 A6) a0, B5 (.slice 260 B7) a1, B5 A6 a2] ms0 = Bt0 k a0 a1 a2 := by kernel_rfl
noncomputable def C36 (k : Nat) : Spec := .imm (.slice 162 A6) fun (a0 : List A0) => .imm (.slice 260 B7) fun (a1 : List A1) => .imm A6 fun (a2 : A0) => .body (Bt0 k a0 a1 a2) (E5 [.bool] [])
noncomputable def Bp9 (k : Nat) : Cfg := { eqs := [], tab := [(3, (.int .i64)), (162, A6)], spec := [(208, w7 k), (209, Aq4 k), (225, C36 k)], mspec := [], inl := [(206, Tryz.f206)], keep := [], join := [], hold := [], ptrs := [], maps := [], fuel := k }
noncomputable def Dm2 : VV → Ms → Option Bool := F6 [.bool] []
theorem Ec2 (k : Nat) (a0 : List A0) (a1 : List A1) (a2 : A0) : C5 (Bp9 k) Dm2 k 206 [B5 (.slice 162 A6) a0, B5 (.slice 260 B7) a1, B5 A6 a2] ms0 = Am0 k a0 a1 a2 := by kernel_rfl
noncomputable def Cf1 (k : Nat) : Spec := .imm (.slice 162 A6) fun (a0 : List A0) => .imm (.slice 260 B7) fun (a1 : List A1) => .imm A6 fun (a2 : A0) => .body (Am0 k a0 a1 a2) (E5 [.bool] [])
noncomputable def Aq6 (k : Nat) : Cfg := { eqs := [], tab := [(3, (.int .i64)), (49, (.slice 3 (.int .i64))), (162, A6)], spec := [(208, w7 k), (209, Aq4 k)], mspec := [], inl := [(207, Tryz.f207)], keep := [(20700001005, [0, 1, 5, 7, 8])], join := [], hold := [], ptrs := [], maps := [], fuel := k }
noncomputable def Bg7 : VV → Ms → Option Bool := F6 [.bool] []
noncomputable def Ai0 (k n : Nat) (a0 : List A0) (a1 : List A1) (r1 : Int) (v1 : Int) (a2 : A0) : Option Bool := P3 (Aq6 k) Bg7 n true 20700001005 (cd [1, 1, 1, 0, 1, 0, 0] (bo Tryz.f207)) [.b 0, .s (cd [1, 1, 1, 1] (bo Tryz.f207)), .fn Tryz.f207] ⟨⟨(G3 57 0 [(0, one (.slc 162 A6 a0)), (1, one (.slc 260 B7 a1)), (5, one (.ptr 9000000 0)), (7, one (.int .i64 r1)), (8, one (.int .i64 v1))]), [(9000000, .box [.int .i64 a2.1, .int .i64 a2.2.1, .int .i64 a2.2.2.1, .int .i64 a2.2.2.2.1, .int .i64 a2.2.2.2.2.1, .slc 3 (.int .i64) a2.2.2.2.2.2.1, .str a2.2.2.2.2.2.2.1, .slc 3 (.int .i64) a2.2.2.2.2.2.2.2.1, .int .i64 a2.2.2.2.2.2.2.2.2.1])]⟩, 20700001000, 1, [(0, (G3 0 0 []))]⟩
theorem Ec3 (k n : Nat) (a0 : List A0) (a1 : List A1) (r1 : Int) (v1 : Int) (a2 : A0) : Ai0 k (n + 1) a0 a1 r1 v1 a2 = Bn9 k (Ai0 k n) a0 a1 r1 v1 a2 := by kernel_rfl
theorem C37 (k : Nat) : ∀ n : Nat, Ai0 k n = U4 k n
 | 0 => (by funext a0 a1 r1 v1 a2; rfl)
 | n + 1 => by
  obtain h0 := C37 k n
  exact (by funext a0 a1 r1 v1 a2; rw [Ec3, h0] <;> rfl)
theorem Ex4 (k : Nat) (a0 : List A0) (a1 : List A1) (a2 : A0) : C5 (Aq6 k) Bg7 k 207 [B5 (.slice 162 A6) a0, B5 (.slice 260 B7) a1, B5 A6 a2] ms0 = Cz2 k (Ai0 k k) a0 a1 a2 := by kernel_rfl
theorem Ex5 (k : Nat) (a0 : List A0) (a1 : List A1) (a2 : A0) : C5 (Aq6 k) Bg7 k 207 [B5 (.slice 162 A6) a0, B5 (.slice 260 B7) a1, B5 A6 a2] ms0 = Bd8 k a0 a1 a2 := by rw [Ex4, show Ai0 k k = U4 k k from (C37 k k)] <;> rfl
noncomputable def Cq3 (k : Nat) : Spec := .imm (.slice 162 A6) fun (a0 : List A0) => .imm (.slice 260 B7) fun (a1 : List A1) => .imm A6 fun (a2 : A0) => .body (Bd8 k a0 a1 a2) (E5 [.bool] [])
noncomputable def Cf2 (k : Nat) : Cfg := { eqs := [], tab := [(3, (.int .i64)), (162, A6), (215, (.slice 260 B7))], spec := [(152, Af8 k), (204, Y1 k), (205, Bm6 k), (206, Cf1 k), (207, Cq3 k), (208, w7 k), (209, Aq4 k)], mspec := [], inl := [(179, Tryz.f179)], keep := [], join := [], hold := [], ptrs := [], maps := [], fuel := k }
noncomputable def Ec4 : VV → Ms → Option Bool := F6 [.bool] []
theorem Fn4 (k : Nat) (a0 : List A0) (a1 : List A1) (a2 : A0) : C5 (Cf2 k) Ec4 k 179 [B5 (.slice 162 A6) a0, B5 (.slice 260 B7) a1, B5 A6 a2] ms0 = Av5 k a0 a1 a2 := by kernel_rfl
noncomputable def A98 (k : Nat) : Spec := .imm (.slice 162 A6) fun (a0 : List A0) => .imm (.slice 260 B7) fun (a1 : List A1) => .imm A6 fun (a2 : A0) => .body (Av5 k a0 a1 a2) (E5 [.bool] [])
noncomputable def Da5 (k : Nat) : Cfg := { eqs := [], tab := [(3, (.int .i64)), (162, A6)], spec := [(55, H7 k)], mspec := [], inl := [(191, Tryz.f191)], keep := [], join := [], hold := [], ptrs := [], maps := [], fuel := k }
noncomputable def Fn5 : VV → Ms → Option Int := F6 [(.int .i64)] []
theorem G30 (k : Nat) (a0 : A0) : C5 (Da5 k) Fn5 k 191 [B5 A6 a0] ms0 = A79 k a0 := by kernel_rfl
noncomputable def Cu9 (k : Nat) : Spec := .imm A6 fun (a0 : A0) => .body (A79 k a0) (E5 [(.int .i64)] [])
noncomputable def Cv0 (k : Nat) : Cfg := { eqs := [], tab := [], spec := [(55, H7 k)], mspec := [], inl := [(230, Tryz.f230)], keep := [], join := [], hold := [], ptrs := [], maps := [], fuel := k }
noncomputable def Ex6 : VV → Ms → Option Bool := F6 [.bool] []
theorem Gc0 (k : Nat) (a0 : Int) : C5 (Cv0 k) Ex6 k 230 [B5 (.int .i64) a0] ms0 = Bt1 k a0 := by kernel_rfl
noncomputable def Di5 (k : Nat) : Spec := .imm (.int .i64) fun (a0 : Int) => .body (Bt1 k a0) (E5 [.bool] [])
noncomputable def A30 (k : Nat) : Cfg := { eqs := [], tab := [(3, (.int .i64)), (215, (.slice 260 B7)), (260, B7)], spec := [(55, H7 k), (230, Di5 k)], mspec := [], inl := [(218, Tryz.f218)], keep := [(21800001004, [0, 3])], join := [], hold := [], ptrs := [], maps := [], fuel := k }
noncomputable def Bq0 : VV → Ms → Option Bool := F6 [.bool] []
noncomputable def Aq7 (k n : Nat) (a0 : List A1) (v1 : Int) : Option Bool := P3 (A30 k) Bq0 n true 21800001004 (cd [1, 1, 0, 1, 0, 0] (bo Tryz.f218)) [.b 0, .s (cd [1, 1, 1] (bo Tryz.f218)), .fn Tryz.f218] ⟨⟨(G3 47 0 [(0, one (.slc 260 B7 a0)), (3, one (.int .i64 v1))]), []⟩, 21800001000, 1, [(0, (G3 0 0 []))]⟩
theorem Ex7 (k n : Nat) (a0 : List A1) (v1 : Int) : Aq7 k (n + 1) a0 v1 = Bz1 k (Aq7 k n) a0 v1 := by kernel_rfl
theorem Di6 (k : Nat) : ∀ n : Nat, Aq7 k n = X2 k n
 | 0 => (by funext a0 v1; rfl)
 | n + 1 => by
  obtain h0 := Di6 k n
  exact (by funext a0 v1; rw [Ex7, h0] <;> rfl)
theorem Fn6 (k : Nat) (a0 : List A1) : C5 (A30 k) Bq0 k 218 [B5 (.slice 260 B7) a0] ms0 = De4 k (Aq7 k k) a0 := by kernel_rfl
theorem Fn7 (k : Nat) (a0 : List A1) : C5 (A30 k) Bq0 k 218 [B5 (.slice 260 B7) a0] ms0 = Bb8 k a0 := by rw [Fn6, show Aq7 k k = X2 k k from (Di6 k k)] <;> rfl
noncomputable def C38 (k : Nat) : Spec := .imm (.slice 260 B7) fun (a0 : List A1) => .body (Bb8 k a0) (E5 [.bool] [])
noncomputable def Cl2 (k : Nat) : Cfg := { eqs := [], tab := [(3, (.int .i64)), (215, (.slice 260 B7)), (260, B7)], spec := [(218, C38 k)], mspec := [], inl := [(192, Tryz.f192)], keep := [(19200001003, [0, 1, 2, 7, 8]), (19200001009, [0, 1, 7, 9])], join := [], hold := [], ptrs := [], maps := [], fuel := k }
noncomputable def Cl3 : VV → Ms → Option (List A1) := F6 [(.slice 260 B7)] [.o]
noncomputable def C39 (k n : Nat) (a0 : List A1) (a1 : Int) (v3 : Int) (xs4 : List A1) : Option (List A1) := P3 (Cl2 k) Cl3 n true 19200001009 (cd [1, 1, 1, 1, 0, 1, 0, 0] (bo Tryz.f192)) [.b 2, .s (cd [1, 1, 1, 1, 1] (bo Tryz.f192)), .fn Tryz.f192] ⟨⟨(G3 69 0 [(0, one (.slc 260 B7 a0)), (1, one (.int .i64 a1)), (7, one (.row 9000000 none none)), (9, one (.int .i64 v3))]), [(9000000, .row 260 B7 xs4 true)]⟩, 19200001000, 1, [(0, (G3 0 0 []))]⟩
noncomputable def Cf3 (k n : Nat) (a0 : List A1) (a1 : Int) (a2 : Int) (v1 : Int) (xs2 : List A1) : Option (List A1) := P3 (Cl2 k) Cl3 n true 19200001003 (cd [1, 1, 0, 1, 0, 0] (bo Tryz.f192)) [.b 0, .s (cd [1, 1, 1] (bo Tryz.f192)), .fn Tryz.f192] ⟨⟨(G3 69 0 [(0, one (.slc 260 B7 a0)), (1, one (.int .i64 a1)), (2, one (.int .i64 a2)), (7, one (.row 9000000 none none)), (8, one (.int .i64 v1))]), [(9000000, .row 260 B7 xs2 true)]⟩, 19200001000, 1, [(0, (G3 0 0 []))]⟩
theorem Hg6 (k n : Nat) (a0 : List A1) (a1 : Int) (v3 : Int) (xs4 : List A1) : C39 k (n + 1) a0 a1 v3 xs4 = Du6 k (C39 k n) a0 a1 v3 xs4 := by kernel_rfl
theorem Hg7 (k n : Nat) (a0 : List A1) (a1 : Int) (a2 : Int) (v1 : Int) (xs2 : List A1) : Cf3 k (n + 1) a0 a1 a2 v1 xs2 = Du7 k (Cf3 k n) (C39 k n) a0 a1 a2 v1 xs2 := by kernel_rfl
theorem Gw8 (k : Nat) : ∀ n : Nat, C39 k n = Ca8 k n ∧ Cf3 k n = Bd9 k n
 | 0 => ⟨(by funext a0 a1 v3 xs4; rfl), (by funext a0 a1 a2 v1 xs2; rfl)⟩
 | n + 1 => by
  obtain ⟨h1, h0⟩ := Gw8 k n
  exact ⟨(by funext a0 a1 v3 xs4; rw [Hg6, h1] <;> rfl), (by funext a0 a1 a2 v1 xs2; rw [Hg7, h0, h1] <;> rfl)⟩
theorem Hq4 (k : Nat) (a0 : List A1) (a1 : Int) (a2 : Int) : C5 (Cl2 k) Cl3 k 192 [B5 (.slice 260 B7) a0, B5 (.int .i64) a1, B5 (.int .i64) a2] ms0 = Gu8 k (Cf3 k k) a0 a1 a2 := by kernel_rfl
theorem Hq5 (k : Nat) (a0 : List A1) (a1 : Int) (a2 : Int) : C5 (Cl2 k) Cl3 k 192 [B5 (.slice 260 B7) a0, B5 (.int .i64) a1, B5 (.int .i64) a2] ms0 = Em5 k a0 a1 a2 := by rw [Hq4, show Cf3 k k = Bd9 k k from (Gw8 k k).2] <;> rfl
noncomputable def D07 (k : Nat) : Spec := .imm (.slice 260 B7) fun (a0 : List A1) => .imm (.int .i64) fun (a1 : Int) => .imm (.int .i64) fun (a2 : Int) => .body (Em5 k a0 a1 a2) (E5 [(.slice 260 B7)] [.o])
noncomputable def Ac7 (k : Nat) : Cfg := { eqs := [], tab := [(3, (.int .i64)), (49, (.slice 3 (.int .i64))), (108, (.slice 215 (.slice 260 B7))), (215, (.slice 260 B7)), (260, B7)], spec := [], mspec := [], inl := [(231, Tryz.f231)], keep := [(23100001003, [0, 3, 4]), (23100001007, [0, 3, 4, 5, 6]), (23100001010, [0, 3, 4, 5, 6, 7])], join := [], hold := [], ptrs := [], maps := [], fuel := k }
noncomputable def Ai1 : VV → Ms → Option (List Int) := F6 [(.slice 3 (.int .i64))] [.o]
noncomputable def Aq8 (k n : Nat) (a0 : List (List A1)) (v1 : Int) (xs2 : List Int) : Option (List Int) := P3 (Ac7 k) Ai1 n true 23100001003 (cd [1, 1, 0, 1, 0, 0] (bo Tryz.f231)) [.b 0, .s (cd [1, 1, 1] (bo Tryz.f231)), .fn Tryz.f231] ⟨⟨(G3 47 0 [(0, one (.slc 215 (.slice 260 B7) a0)), (3, one (.row 9000000 none none)), (4, one (.int .i64 v1))]), [(9000000, .row 3 (.int .i64) xs2 true)]⟩, 23100001000, 1, [(0, (G3 0 0 []))]⟩
noncomputable def A99 (k n : Nat) (a0 : List (List A1)) (v1 : Int) (v3 : Bool) (v4 : Int) (xs2 : List Int) : Option (List Int) := P3 (Ac7 k) Ai1 n true 23100001007 (cd [1, 1, 0, 1, 0, 0, 1, 0, 0, 1, 0, 1, 0, 0] (bo Tryz.f231)) [.b 2, .s (cd [1, 1, 0, 1, 0, 0, 1, 0, 0, 1, 1] (bo Tryz.f231)), .b 1, .s (cd [1, 1, 0, 1, 0, 0, 1, 1] (bo Tryz.f231)), .l 23100001003 (cd [1, 1, 0, 1, 0, 0] (bo Tryz.f231)), .b 0, .s (cd [1, 1, 1] (bo Tryz.f231)), .fn Tryz.f231] ⟨⟨(G3 47 0 [(0, one (.slc 215 (.slice 260 B7) a0)), (3, one (.row 9000000 none none)), (4, one (.int .i64 v1)), (5, one (.bool v3)), (6, one (.int .i64 v4))]), [(9000000, .row 3 (.int .i64) xs2 true)]⟩, 23100001000, 1, [(0, (G3 0 0 []))]⟩
noncomputable def Ba0 (k n : Nat) (a0 : List (List A1)) (v1 : Int) (v5 : Bool) (v4 : Int) (v6 : Int) (xs2 : List Int) : Option (List Int) := P3 (Ac7 k) Ai1 n true 23100001010 (cd [1, 1, 0, 1, 0, 0, 1, 0, 0, 1, 0, 1, 0, 0, 1, 0, 0, 1, 0, 0] (bo Tryz.f231)) [.b 4, .b 3, .s (cd [1, 1, 0, 1, 0, 0, 1, 0, 0, 1, 0, 1, 0, 0, 1, 1] (bo Tryz.f231)), .l 23100001007 (cd [1, 1, 0, 1, 0, 0, 1, 0, 0, 1, 0, 1, 0, 0] (bo Tryz.f231)), .b 2, .s (cd [1, 1, 0, 1, 0, 0, 1, 0, 0, 1, 1] (bo Tryz.f231)), .b 1, .s (cd [1, 1, 0, 1, 0, 0, 1, 1] (bo Tryz.f231)), .l 23100001003 (cd [1, 1, 0, 1, 0, 0] (bo Tryz.f231)), .b 0, .s (cd [1, 1, 1] (bo Tryz.f231)), .fn Tryz.f231] ⟨⟨(G3 47 0 [(0, one (.slc 215 (.slice 260 B7) a0)), (3, one (.row 9000000 none none)), (4, one (.int .i64 v1)), (5, one (.bool v5)), (6, one (.int .i64 v4)), (7, one (.int .i64 v6))]), [(9000000, .row 3 (.int .i64) xs2 true)]⟩, 23100001000, 1, [(0, (G3 0 0 []))]⟩
theorem Ex8 (k n : Nat) (a0 : List (List A1)) (v1 : Int) (xs2 : List Int) : Aq8 k (n + 1) a0 v1 xs2 = A80 k (A99 k n) a0 v1 xs2 := by kernel_rfl
theorem Ex9 (k n : Nat) (a0 : List (List A1)) (v1 : Int) (v3 : Bool) (v4 : Int) (xs2 : List Int) : A99 k (n + 1) a0 v1 v3 v4 xs2 = A81 k (Ba0 k n) (Aq8 k n) a0 v1 v3 v4 xs2 := by kernel_rfl
theorem Ey0 (k n : Nat) (a0 : List (List A1)) (v1 : Int) (v5 : Bool) (v4 : Int) (v6 : Int) (xs2 : List Int) : Ba0 k (n + 1) a0 v1 v5 v4 v6 xs2 = A82 k (Ba0 k n) (A99 k n) a0 v1 v5 v4 v6 xs2 := by kernel_rfl
theorem Di7 (k : Nat) : ∀ n : Nat, Aq8 k n = l9 k n ∧ A99 k n = Ao2 k n ∧ Ba0 k n = Ao3 k n
 | 0 => ⟨(by funext a0 v1 xs2; rfl), (by funext a0 v1 v3 v4 xs2; rfl), (by funext a0 v1 v5 v4 v6 xs2; rfl)⟩
 | n + 1 => by
  obtain ⟨h0, h1, h2⟩ := Di7 k n
  exact ⟨(by funext a0 v1 xs2; rw [Ex8, h1] <;> rfl), (by funext a0 v1 v3 v4 xs2; rw [Ex9, h2, h0] <;> rfl), (by funext a0 v1 v5 v4 v6 xs2; rw [Ey0, h2, h1] <;> rfl)⟩
theorem Fn8 (k : Nat) (a0 : List (List A1)) : C5 (Ac7 k) Ai1 k 231 [B5 (.slice 215 (.slice 260 B7)) a0] ms0 = De5 k (Aq8 k k) a0 := by kernel_rfl
theorem Fn9 (k : Nat) (a0 : List (List A1)) : C5 (Ac7 k) Ai1 k 231 [B5 (.slice 215 (.slice 260 B7)) a0] ms0 = Bb9 k a0 := by rw [Fn8, show Aq8 k k = l9 k k from (Di7 k k).1] <;> rfl
noncomputable def B35 (k : Nat) : Spec := .imm (.slice 215 (.slice 260 B7)) fun (a0 : List (List A1)) => .body (Bb9 k a0) (E5 [(.slice 3 (.int .i64))] [.o])
noncomputable def Aq9 (k : Nat) : Cfg := { eqs := [], tab := [(108, (.slice 215 (.slice 260 B7))), (215, (.slice 260 B7))], spec := [(205, Bm6 k)], mspec := [], inl := [(232, Tryz.f232)], keep := [(23200001002, [0, 1, 5])], join := [], hold := [], ptrs := [], maps := [], fuel := k }
noncomputable def Bg8 : VV → Ms → Option Bool := F6 [.bool] []
noncomputable def Ai2 (k n : Nat) (a0 : List (List A1)) (a1 : Int) (v1 : Int) : Option Bool := P3 (Aq9 k) Bg8 n true 23200001002 (cd [1, 0, 1, 0, 0] (bo Tryz.f232)) [.b 0, .s (cd [1, 1] (bo Tryz.f232)), .fn Tryz.f232] ⟨⟨(G3 24 0 [(0, one (.slc 215 (.slice 260 B7) a0)), (1, one (.int .i64 a1)), (5, one (.int .i64 v1))]), []⟩, 23200001000, 1, [(0, (G3 0 0 []))]⟩
theorem Ec5 (k n : Nat) (a0 : List (List A1)) (a1 : Int) (v1 : Int) : Ai2 k (n + 1) a0 a1 v1 = Bo0 k (Ai2 k n) a0 a1 v1 := by kernel_rfl
theorem C40 (k : Nat) : ∀ n : Nat, Ai2 k n = Y7 k n
 | 0 => (by funext a0 a1 v1; rfl)
 | n + 1 => by
  obtain h0 := C40 k n
  exact (by funext a0 a1 v1; rw [Ec5, h0] <;> rfl)
theorem Ey1 (k : Nat) (a0 : List (List A1)) (a1 : Int) : C5 (Aq9 k) Bg8 k 232 [B5 (.slice 215 (.slice 260 B7)) a0, B5 (.int .i64) a1] ms0 = Cz3 k (Ai2 k k) a0 a1 := by kernel_rfl
theorem Ey2 (k : Nat) (a0 : List (List A1)) (a1 : Int) : C5 (Aq9 k) Bg8 k 232 [B5 (.slice 215 (.slice 260 B7)) a0, B5 (.int .i64) a1] ms0 = Av6 k a0 a1 := by rw [Ey1, show Ai2 k k = Y7 k k from (C40 k k)] <;> rfl
noncomputable def Bq1 (k : Nat) : Spec := .imm (.slice 215 (.slice 260 B7)) fun (a0 : List (List A1)) => .imm (.int .i64) fun (a1 : Int) => .body (Av6 k a0 a1) (E5 [.bool] [])
noncomputable def Bg9 (k : Nat) : Cfg := { eqs := [], tab := [(3, (.int .i64)), (49, (.slice 3 (.int .i64))), (108, (.slice 215 (.slice 260 B7))), (215, (.slice 260 B7)), (260, B7)], spec := [(205, Bm6 k), (231, B35 k), (232, Bq1 k)], mspec := [], inl := [(222, Tryz.f222)], keep := [(22200001004, [0, 3, 4, 5])], join := [], hold := [], ptrs := [], maps := [], fuel := k }
noncomputable def B36 : VV → Ms → Option (List A1) := F6 [(.slice 260 B7)] [.o]
noncomputable def A31 (k n : Nat) (a0 : List (List A1)) (v1 : Int) (xs2 : List A1) (r1 : List Int) : Option (List A1) := P3 (Bg9 k) B36 n true 22200001004 (cd [1, 1, 1, 0, 1, 0, 0] (bo Tryz.f222)) [.b 0, .s (cd [1, 1, 1, 1] (bo Tryz.f222)), .fn Tryz.f222] ⟨⟨(G3 38 0 [(0, one (.slc 215 (.slice 260 B7) a0)), (3, one (.row 9000000 none none)), (4, one (.row 9000001 none none)), (5, one (.int .i64 v1))]), [(9000000, .row 260 B7 xs2 true), (9000001, .row 3 (.int .i64) r1 true)]⟩, 22200001000, 1, [(0, (G3 0 0 []))]⟩
theorem Fo0 (k n : Nat) (a0 : List (List A1)) (v1 : Int) (xs2 : List A1) (r1 : List Int) : A31 k (n + 1) a0 v1 xs2 r1 = Ca9 k (A31 k n) a0 v1 xs2 r1 := by kernel_rfl
theorem D08 (k : Nat) : ∀ n : Nat, A31 k n = Aa7 k n
 | 0 => (by funext a0 v1 xs2 r1; rfl)
 | n + 1 => by
  obtain h0 := D08 k n
  exact (by funext a0 v1 xs2 r1; rw [Fo0, h0] <;> rfl)
theorem Gc1 (k : Nat) (a0 : List (List A1)) : C5 (Bg9 k) B36 k 222 [B5 (.slice 215 (.slice 260 B7)) a0] ms0 = Du8 k (A31 k k) a0 := by kernel_rfl
theorem Gc2 (k : Nat) (a0 : List (List A1)) : C5 (Bg9 k) B36 k 222 [B5 (.slice 215 (.slice 260 B7)) a0] ms0 = Bt2 k a0 := by rw [Gc1, show A31 k k = Aa7 k k from (D08 k k)] <;> rfl
noncomputable def Di8 (k : Nat) : Spec := .imm (.slice 215 (.slice 260 B7)) fun (a0 : List (List A1)) => .body (Bt2 k a0) (E5 [(.slice 260 B7)] [.o])
noncomputable def Bv7 (k : Nat) : Cfg := { eqs := [], tab := [(3, (.int .i64)), (49, (.slice 3 (.int .i64)))], spec := [(231, B35 k), (232, Bq1 k)], mspec := [], inl := [(223, Tryz.f223)], keep := [(22300001004, [0, 3, 4, 5])], join := [], hold := [], ptrs := [], maps := [], fuel := k }
noncomputable def Cf4 : VV → Ms → Option (List Int) := F6 [(.slice 3 (.int .i64))] [.o]
noncomputable def Bh0 (k n : Nat) (a0 : List (List A1)) (v1 : Int) (xs2 : List Int) (r1 : List Int) : Option (List Int) := P3 (Bv7 k) Cf4 n true 22300001004 (cd [1, 1, 1, 0, 1, 0, 0] (bo Tryz.f223)) [.b 0, .s (cd [1, 1, 1, 1] (bo Tryz.f223)), .fn Tryz.f223] ⟨⟨(G3 30 0 [(0, one (.slc 215 (.slice 260 B7) a0)), (3, one (.row 9000000 none none)), (4, one (.row 9000001 none none)), (5, one (.int .i64 v1))]), [(9000000, .row 3 (.int .i64) xs2 true), (9000001, .row 3 (.int .i64) r1 true)]⟩, 22300001000, 1, [(0, (G3 0 0 []))]⟩
theorem Gc3 (k n : Nat) (a0 : List (List A1)) (v1 : Int) (xs2 : List Int) (r1 : List Int) : Bh0 k (n + 1) a0 v1 xs2 r1 = Ct7 k (Bh0 k n) a0 v1 xs2 r1 := by kernel_rfl
theorem Ep4 (k : Nat) : ∀ n : Nat, Bh0 k n = Ak7 k n
 | 0 => (by funext a0 v1 xs2 r1; rfl)
 | n + 1 => by
  obtain h0 := Ep4 k n
  exact (by funext a0 v1 xs2 r1; rw [Gc3, h0] <;> rfl)
theorem G31 (k : Nat) (a0 : List (List A1)) : C5 (Bv7 k) Cf4 k 223 [B5 (.slice 215 (.slice 260 B7)) a0] ms0 = Em6 k (Bh0 k k) a0 := by kernel_rfl
theorem G32 (k : Nat) (a0 : List (List A1)) : C5 (Bv7 k) Cf4 k 223 [B5 (.slice 215 (.slice 260 B7)) a0] ms0 = Cz4 k a0 := by rw [G31, show Bh0 k k = Ak7 k k from (Ep4 k k)] <;> rfl
noncomputable def D09 (k : Nat) : Spec := .imm (.slice 215 (.slice 260 B7)) fun (a0 : List (List A1)) => .body (Cz4 k a0) (E5 [(.slice 3 (.int .i64))] [.o])
noncomputable def Bv8 (k : Nat) : Cfg := { eqs := [], tab := [(3, (.int .i64)), (49, (.slice 3 (.int .i64)))], spec := [], mspec := [], inl := [(201, Tryz.f201)], keep := [(20100001002, [0, 1, 5])], join := [], hold := [], ptrs := [], maps := [], fuel := k }
noncomputable def Cf5 : VV → Ms → Option Bool := F6 [.bool] []
noncomputable def Bh1 (k n : Nat) (a0 : List Int) (a1 : Int) (v1 : Int) : Option Bool := P3 (Bv8 k) Cf5 n true 20100001002 (cd [1, 0, 1, 0, 0] (bo Tryz.f201)) [.b 0, .s (cd [1, 1] (bo Tryz.f201)), .fn Tryz.f201] ⟨⟨(G3 18 0 [(0, one (.slc 3 (.int .i64) a0)), (1, one (.int .i64 a1)), (5, one (.int .i64 v1))]), []⟩, 20100001000, 1, [(0, (G3 0 0 []))]⟩
theorem Gc4 (k n : Nat) (a0 : List Int) (a1 : Int) (v1 : Int) : Bh1 k (n + 1) a0 a1 v1 = Ct8 k (Bh1 k n) a0 a1 v1 := by kernel_rfl
theorem Ep5 (k : Nat) : ∀ n : Nat, Bh1 k n = Ak8 k n
 | 0 => (by funext a0 a1 v1; rfl)
 | n + 1 => by
  obtain h0 := Ep5 k n
  exact (by funext a0 a1 v1; rw [Gc4, h0] <;> rfl)
theorem G33 (k : Nat) (a0 : List Int) (a1 : Int) : C5 (Bv8 k) Cf5 k 201 [B5 (.slice 3 (.int .i64)) a0, B5 (.int .i64) a1] ms0 = Em7 k (Bh1 k k) a0 a1 := by kernel_rfl
theorem G34 (k : Nat) (a0 : List Int) (a1 : Int) : C5 (Bv8 k) Cf5 k 201 [B5 (.slice 3 (.int .i64)) a0, B5 (.int .i64) a1] ms0 = Az4 k a0 a1 := by rw [G33, show Bh1 k k = Ak8 k k from (Ep5 k k)] <;> rfl
noncomputable def Bh2 (k : Nat) : Spec := .imm (.slice 3 (.int .i64)) fun (a0 : List Int) => .imm (.int .i64) fun (a1 : Int) => .body (Az4 k a0 a1) (E5 [.bool] [])
noncomputable def Bh3 (k : Nat) : Cfg := { eqs := [], tab := [(3, (.int .i64)), (49, (.slice 3 (.int .i64)))], spec := [], mspec := [], inl := [(202, Tryz.f202)], keep := [(20200001004, [0, 1, 5, 6, 7])], join := [], hold := [], ptrs := [], maps := [], fuel := k }
noncomputable def B37 : VV → Ms → Option (List Int) := F6 [(.slice 3 (.int .i64))] [.o]
noncomputable def A32 (k n : Nat) (a0 : List Int) (a1 : Int) (v1 : Bool) (v2 : Int) (xs3 : List Int) : Option (List Int) := P3 (Bh3 k) B37 n true 20200001004 (cd [1, 1, 1, 0, 1, 0, 0] (bo Tryz.f202)) [.b 0, .s (cd [1, 1, 1, 1] (bo Tryz.f202)), .fn Tryz.f202] ⟨⟨(G3 49 0 [(0, one (.slc 3 (.int .i64) a0)), (1, one (.int .i64 a1)), (5, one (.row 9000000 none none)), (6, one (.bool v1)), (7, one (.int .i64 v2))]), [(9000000, .row 3 (.int .i64) xs3 true)]⟩, 20200001000, 1, [(0, (G3 0 0 []))]⟩
theorem Fo1 (k n : Nat) (a0 : List Int) (a1 : Int) (v1 : Bool) (v2 : Int) (xs3 : List Int) : A32 k (n + 1) a0 a1 v1 v2 xs3 = Cb0 k (A32 k n) a0 a1 v1 v2 xs3 := by kernel_rfl
theorem D10 (k : Nat) : ∀ n : Nat, A32 k n = X4 k n
 | 0 => (by funext a0 a1 v1 v2 xs3; rfl)
 | n + 1 => by
  obtain h0 := D10 k n
  exact (by funext a0 a1 v1 v2 xs3; rw [Fo1, h0] <;> rfl)
theorem Gc5 (k : Nat) (a0 : List Int) (a1 : Int) : C5 (Bh3 k) B37 k 202 [B5 (.slice 3 (.int .i64)) a0, B5 (.int .i64) a1] ms0 = Du9 k (A32 k k) a0 a1 := by kernel_rfl
theorem Gc6 (k : Nat) (a0 : List Int) (a1 : Int) : C5 (Bh3 k) B37 k 202 [B5 (.slice 3 (.int .i64)) a0, B5 (.int .i64) a1] ms0 = Bt3 k a0 a1 := by rw [Gc5, show A32 k k = X4 k k from (D10 k k)] <;> rfl
noncomputable def Cf6 (k : Nat) : Spec := .imm (.slice 3 (.int .i64)) fun (a0 : List Int) => .imm (.int .i64) fun (a1 : Int) => .body (Bt3 k a0 a1) (E5 [(.slice 3 (.int .i64))] [.o])
noncomputable def w8 (k : Nat) : Cfg := { eqs := [], tab := [(3, (.int .i64)), (49, (.slice 3 (.int .i64))), (162, A6)], spec := [(201, Bh2 k), (204, Y1 k)], mspec := [], inl := [(233, Tryz.f233)], keep := [(23300001003, [0, 5, 6]), (23300001007, [0, 5, 6, 7, 9])], join := [], hold := [(23300001003, [(6, [0], 3, (.int .i64), false, true)]), (23300001007, [(6, [0], 3, (.int .i64), false, true)])], ptrs := [], maps := [], fuel := k }
noncomputable def Ak1 : VV → Ms → Option (List Int) := F6 [(.slice 3 (.int .i64))] [.o]
noncomputable def Ac8 (k n : Nat) (a0 : List A0) (u1 : Nat) (xs2 : List Int) (xs3 : List Int) : Option (List Int) := P3 (w8 k) Ak1 n true 23300001003 (cd [1, 1, 1, 0, 0, 0] (bo Tryz.f233)) [.b 0, .s (cd [1, 1, 1, 1] (bo Tryz.f233)), .fn Tryz.f233] ⟨⟨(G3 73 0 [(0, one (.slc 162 A6 a0)), (5, one (.row 9000000 none none)), (6, one (.row 9000001 (some u1) none))]), [(9000000, .row 3 (.int .i64) xs2 true), (9000001, .row 3 (.int .i64) xs3 true)]⟩, 23300001000, 1, [(0, (G3 0 0 []))]⟩
noncomputable def Ar0 (k n : Nat) (a0 : List A0) (u4 : Nat) (v5 : Int) (xs6 : List Int) (xs7 : List Int) (r1 : A0 × Bool) : Option (List Int) := P3 (w8 k) Ak1 n true 23300001007 (cd [1, 1, 1, 0, 0, 0, 1, 0, 1, 1, 1, 0, 0] (bo Tryz.f233)) [.b 2, .b 1, .l 23300001003 (cd [1, 1, 1, 0, 0, 0] (bo Tryz.f233)), .b 0, .s (cd [1, 1, 1, 1] (bo Tryz.f233)), .fn Tryz.f233] ⟨⟨(G3 73 0 [(0, one (.slc 162 A6 a0)), (5, one (.row 9000000 none none)), (6, one (.row 9000001 (some u4) none)), (7, one (.ptr 9000002 0)), (9, one (.int .i64 v5))]), [(9000000, .row 3 (.int .i64) xs6 true), (9000001, .row 3 (.int .i64) xs7 true), (9000002, .box [.int .i64 r1.1.1, .int .i64 r1.1.2.1, .int .i64 r1.1.2.2.1, .int .i64 r1.1.2.2.2.1, .int .i64 r1.1.2.2.2.2.1, .slc 3 (.int .i64) r1.1.2.2.2.2.2.1, .str r1.1.2.2.2.2.2.2.1, .slc 3 (.int .i64) r1.1.2.2.2.2.2.2.2.1, .int .i64 r1.1.2.2.2.2.2.2.2.2.1])]⟩, 23300001000, 1, [(0, (G3 0 0 []))]⟩
theorem D11 (k n : Nat) (a0 : List A0) (u1 : Nat) (xs2 : List Int) (xs3 : List Int) : Ac8 k (n + 1) a0 u1 xs2 xs3 = Ao4 k (Ar0 k n) a0 u1 xs2 xs3 := by kernel_rfl
theorem D12 (k n : Nat) (a0 : List A0) (u4 : Nat) (v5 : Int) (xs6 : List Int) (xs7 : List Int) (r1 : A0 × Bool) : Ar0 k (n + 1) a0 u4 v5 xs6 xs7 r1 = Ao5 k (Ar0 k n) (Ac8 k n) a0 u4 v5 xs6 xs7 r1 := by kernel_rfl
theorem Cq4 (k : Nat) : ∀ n : Nat, Ac8 k n = V3 k n ∧ Ar0 k n = V4 k n
 | 0 => ⟨(by funext a0 u1 xs2 xs3; rfl), (by funext a0 u4 v5 xs6 xs7 r1; rfl)⟩
 | n + 1 => by
  obtain ⟨h0, h1⟩ := Cq4 k n
  exact ⟨(by funext a0 u1 xs2 xs3; rw [D11, h1] <;> rfl), (by funext a0 u4 v5 xs6 xs7 r1; rw [D12, h1, h0] <;> rfl)⟩
theorem Ec6 (k : Nat) (a0 : List A0) (a1 : Int) : C5 (w8 k) Ak1 k 233 [B5 (.slice 162 A6) a0, B5 (.int .i64) a1] ms0 = Cn9 k (Ac8 k k) a0 a1 := by kernel_rfl
theorem Ec7 (k : Nat) (a0 : List A0) (a1 : Int) : C5 (w8 k) Ak1 k 233 [B5 (.slice 162 A6) a0, B5 (.int .i64) a1] ms0 = A10 k a0 a1 := by rw [Ec6, show Ac8 k k = V3 k k from (Cq4 k k).1] <;> rfl
noncomputable def Cf7 (k : Nat) : Spec := .imm (.slice 162 A6) fun (a0 : List A0) => .imm (.int .i64) fun (a1 : Int) => .body (A10 k a0 a1) (E5 [(.slice 3 (.int .i64))] [.o])
noncomputable def Ar1 (k : Nat) : Cfg := { eqs := [], tab := [(3, (.int .i64)), (49, (.slice 3 (.int .i64)))], spec := [(201, Bh2 k)], mspec := [], inl := [(234, Tryz.f234)], keep := [(23400001002, [0, 1, 2, 7])], join := [], hold := [], ptrs := [], maps := [], fuel := k }
noncomputable def Bh4 : VV → Ms → Option Bool := F6 [.bool] []
noncomputable def Ai3 (k n : Nat) (a0 : List Int) (a1 : List Int) (a2 : List Int) (v1 : Int) : Option Bool := P3 (Ar1 k) Bh4 n true 23400001002 (cd [1, 0, 1, 0, 0] (bo Tryz.f234)) [.b 0, .s (cd [1, 1] (bo Tryz.f234)), .fn Tryz.f234] ⟨⟨(G3 29 0 [(0, one (.slc 3 (.int .i64) a0)), (1, one (.slc 3 (.int .i64) a1)), (2, one (.slc 3 (.int .i64) a2)), (7, one (.int .i64 v1))]), []⟩, 23400001000, 1, [(0, (G3 0 0 []))]⟩
theorem Ec8 (k n : Nat) (a0 : List Int) (a1 : List Int) (a2 : List Int) (v1 : Int) : Ai3 k (n + 1) a0 a1 a2 v1 = Bo1 k (Ai3 k n) a0 a1 a2 v1 := by kernel_rfl
theorem C41 (k : Nat) : ∀ n : Nat, Ai3 k n = U5 k n
 | 0 => (by funext a0 a1 a2 v1; rfl)
 | n + 1 => by
  obtain h0 := C41 k n
  exact (by funext a0 a1 a2 v1; rw [Ec8, h0] <;> rfl)
theorem Ey3 (k : Nat) (a0 : List Int) (a1 : List Int) (a2 : List Int) : C5 (Ar1 k) Bh4 k 234 [B5 (.slice 3 (.int .i64)) a0, B5 (.slice 3 (.int .i64)) a1, B5 (.slice 3 (.int .i64)) a2] ms0 = Cz5 k (Ai3 k k) a0 a1 a2 := by kernel_rfl
theorem Ey4 (k : Nat) (a0 : List Int) (a1 : List Int) (a2 : List Int) : C5 (Ar1 k) Bh4 k 234 [B5 (.slice 3 (.int .i64)) a0, B5 (.slice 3 (.int .i64)) a1, B5 (.slice 3 (.int .i64)) a2] ms0 = Av7 k a0 a1 a2 := by rw [Ey3, show Ai3 k k = U5 k k from (C41 k k)] <;> rfl
noncomputable def Cq5 (k : Nat) : Spec := .imm (.slice 3 (.int .i64)) fun (a0 : List Int) => .imm (.slice 3 (.int .i64)) fun (a1 : List Int) => .imm (.slice 3 (.int .i64)) fun (a2 : List Int) => .body (Av7 k a0 a1 a2) (E5 [.bool] [])
noncomputable def B38 (k : Nat) : Cfg := { eqs := [], tab := [(3, (.int .i64)), (162, A6)], spec := [], mspec := [], inl := [(237, Tryz.f237)], keep := [], join := [], hold := [], ptrs := [], maps := [], fuel := k }
noncomputable def D13 : VV → Ms → Option Bool := F6 [.bool] []
theorem Ey5 (k : Nat) (a0 : A0) : C5 (B38 k) D13 k 237 [B5 A6 a0] ms0 = Aa9 k a0 := by kernel_rfl
noncomputable def Cq6 (k : Nat) : Spec := .imm A6 fun (a0 : A0) => .body (Aa9 k a0) (E5 [.bool] [])
noncomputable def Cf8 (k : Nat) : Cfg := { eqs := [], tab := [(3, (.int .i64)), (4, .bool), (162, A6)], spec := [(209, Aq4 k), (237, Cq6 k)], mspec := [], inl := [(235, Tryz.f235)], keep := [], join := [], hold := [], ptrs := [], maps := [], fuel := k }
noncomputable def Ec9 : VV → Ms → Option Bool := F6 [.bool] []
theorem Fo2 (k : Nat) (a0 : List A0) (a1 : List A1) (a2 : A0) (a3 : A0) : C5 (Cf8 k) Ec9 k 235 [B5 (.slice 162 A6) a0, B5 (.slice 260 B7) a1, B5 A6 a2, B5 A6 a3] ms0 = Bt4 k a0 a1 a2 a3 := by kernel_rfl
noncomputable def C42 (k : Nat) : Spec := .imm (.slice 162 A6) fun (a0 : List A0) => .imm (.slice 260 B7) fun (a1 : List A1) => .imm A6 fun (a2 : A0) => .imm A6 fun (a3 : A0) => .body (Bt4 k a0 a1 a2 a3) (E5 [.bool] [])
noncomputable def Af9 (k : Nat) : Cfg := { eqs := [], tab := [(3, (.int .i64)), (49, (.slice 3 (.int .i64))), (162, A6), (275, (.slice 49 (.slice 3 (.int .i64))))], spec := [(201, Bh2 k), (202, Cf6 k), (204, Y1 k), (233, Cf7 k), (234, Cq5 k), (235, C42 k)], mspec := [], inl := [(224, Tryz.f224)], keep := [(22400001003, [0, 1, 2, 7, 8]), (22400001010, [0, 1, 7, 11, 12]), (22400001014, [0, 1, 7, 11, 13]), (22400001018, [0, 1, 7, 11, 13, 14, 15, 16])], join := [], hold := [], ptrs := [], maps := [], fuel := k }
noncomputable def Ac9 : VV → Ms → Option (List Int) := F6 [(.slice 3 (.int .i64))] [.o]
noncomputable def B39 (k n : Nat) (a0 : List A0) (a1 : List A1) (xs2 : List Int) (xs4 : List (List Int)) (xs5 : List Int) : Option (List Int) := P3 (Af9 k) Ac9 n true 22400001014 (cd [1, 1, 1, 1, 1, 1, 0, 0, 0] (bo Tryz.f224)) [.b 4, .s (cd [1, 1, 1, 1, 1, 1, 1] (bo Tryz.f224)), .fn Tryz.f224] ⟨⟨(G3 115 0 [(0, one (.slc 162 A6 a0)), (1, one (.slc 260 B7 a1)), (7, one (.row 9000000 none none)), (11, one (.row 9000001 none none)), (13, one (.row 9000002 none none))]), [(9000000, .row 3 (.int .i64) xs2 true), (9000001, .row 49 (.slice 3 (.int .i64)) xs4 true), (9000002, .row 3 (.int .i64) xs5 true)]⟩, 22400001000, 1, [(0, (G3 0 0 []))]⟩
noncomputable def B40 (k n : Nat) (a0 : List A0) (a1 : List A1) (v6 : Int) (xs2 : List Int) (xs4 : List (List Int)) (xs5 : List Int) : Option (List Int) := P3 (Af9 k) Ac9 n true 22400001018 (cd [1, 1, 1, 1, 1, 1, 0, 0, 0, 1, 0, 1, 1, 0, 1, 0, 0] (bo Tryz.f224)) [.b 6, .s (cd [1, 1, 1, 1, 1, 1, 0, 0, 0, 1, 0, 1, 1, 1] (bo Tryz.f224)), .b 5, .l 22400001014 (cd [1, 1, 1, 1, 1, 1, 0, 0, 0] (bo Tryz.f224)), .b 4, .s (cd [1, 1, 1, 1, 1, 1, 1] (bo Tryz.f224)), .fn Tryz.f224] ⟨⟨(G3 115 0 [(0, one (.slc 162 A6 a0)), (1, one (.slc 260 B7 a1)), (7, one (.row 9000000 none none)), (11, one (.row 9000001 none none)), (13, one (.row 9000002 none none)), (14, one (.ptr 9000003 0)), (15, one (.bool false)), (16, one (.int .i64 v6))]), [(9000000, .row 3 (.int .i64) xs2 true), (9000001, .row 49 (.slice 3 (.int .i64)) xs4 true), (9000002, .row 3 (.int .i64) xs5 true), (9000003, .box [.int .i64 0, .int .i64 0, .int .i64 0, .int .i64 0, .int .i64 0, .nilS, .str ByteArray.empty, .nilS, .int .i64 0])]⟩, 22400001000, 1, [(0, (G3 0 0 []))]⟩
noncomputable def B41 (k n : Nat) (a0 : List A0) (a1 : List A1) (v7 : Int) (xs2 : List Int) (xs4 : List (List Int)) (xs5 : List Int) (v8 : Int) (v9 : Int) (v10 : Int) (v11 : Int) (v12 : Int) (v13 : List Int) (v14 : ByteArray) (v15 : List Int) (v16 : Int) : Option (List Int) := P3 (Af9 k) Ac9 n true 22400001018 (cd [1, 1, 1, 1, 1, 1, 0, 0, 0, 1, 0, 1, 1, 0, 1, 0, 0] (bo Tryz.f224)) [.b 6, .s (cd [1, 1, 1, 1, 1, 1, 0, 0, 0, 1, 0, 1, 1, 1] (bo Tryz.f224)), .b 5, .l 22400001014 (cd [1, 1, 1, 1, 1, 1, 0, 0, 0] (bo Tryz.f224)), .b 4, .s (cd [1, 1, 1, 1, 1, 1, 1] (bo Tryz.f224)), .fn Tryz.f224] ⟨⟨(G3 115 0 [(0, one (.slc 162 A6 a0)), (1, one (.slc 260 B7 a1)), (7, one (.row 9000000 none none)), (11, one (.row 9000001 none none)), (13, one (.row 9000002 none none)), (14, one (.ptr 9000003 0)), (15, one (.bool true)), (16, one (.int .i64 v7))]), [(9000000, .row 3 (.int .i64) xs2 true), (9000001, .row 49 (.slice 3 (.int .i64)) xs4 true), (9000002, .row 3 (.int .i64) xs5 true), (9000003, .box [.int .i64 v8, .int .i64 v9, .int .i64 v10, .int .i64 v11, .int .i64 v12, .slc 3 (.int .i64) v13, .str v14, .slc 3 (.int .i64) v15, .int .i64 v16])]⟩, 22400001000, 1, [(0, (G3 0 0 []))]⟩
noncomputable def B42 (k n : Nat) (a0 : List A0) (a1 : List A1) (v3 : Int) (xs2 : List Int) (xs4 : List (List Int)) : Option (List Int) := P3 (Af9 k) Ac9 n true 22400001010 (cd [1, 1, 1, 1, 0, 1, 0, 0] (bo Tryz.f224)) [.b 2, .s (cd [1, 1, 1, 1, 1] (bo Tryz.f224)), .fn Tryz.f224] ⟨⟨(G3 115 0 [(0, one (.slc 162 A6 a0)), (1, one (.slc 260 B7 a1)), (7, one (.row 9000000 none none)), (11, one (.row 9000001 none none)), (12, one (.int .i64 v3))]), [(9000000, .row 3 (.int .i64) xs2 true), (9000001, .row 49 (.slice 3 (.int .i64)) xs4 true)]⟩, 22400001000, 1, [(0, (G3 0 0 []))]⟩
noncomputable def Bh5 (k n : Nat) (a0 : List A0) (a1 : List A1) (a2 : List Int) (v1 : Int) (xs2 : List Int) : Option (List Int) := P3 (Af9 k) Ac9 n true 22400001003 (cd [1, 1, 0, 1, 0, 0] (bo Tryz.f224)) [.b 0, .s (cd [1, 1, 1] (bo Tryz.f224)), .fn Tryz.f224] ⟨⟨(G3 115 0 [(0, one (.slc 162 A6 a0)), (1, one (.slc 260 B7 a1)), (2, one (.slc 3 (.int .i64) a2)), (7, one (.row 9000000 none none)), (8, one (.int .i64 v1))]), [(9000000, .row 3 (.int .i64) xs2 true)]⟩, 22400001000, 1, [(0, (G3 0 0 []))]⟩
theorem Gc7 (k n : Nat) (a0 : List A0) (a1 : List A1) (xs2 : List Int) (xs4 : List (List Int)) (xs5 : List Int) : B39 k (n + 1) a0 a1 xs2 xs4 xs5 = Bz2 k (B40 k n) a0 a1 xs2 xs4 xs5 := by kernel_rfl
theorem Gc8 (k n : Nat) (a0 : List A0) (a1 : List A1) (v6 : Int) (xs2 : List Int) (xs4 : List (List Int)) (xs5 : List Int) : B40 k (n + 1) a0 a1 v6 xs2 xs4 xs5 = Bz3 k (B40 k n) (B41 k n) a0 a1 v6 xs2 xs4 xs5 := by kernel_rfl
theorem Gc9 (k n : Nat) (a0 : List A0) (a1 : List A1) (v7 : Int) (xs2 : List Int) (xs4 : List (List Int)) (xs5 : List Int) (v8 : Int) (v9 : Int) (v10 : Int) (v11 : Int) (v12 : Int) (v13 : List Int) (v14 : ByteArray) (v15 : List Int) (v16 : Int) : B41 k (n + 1) a0 a1 v7 xs2 xs4 xs5 v8 v9 v10 v11 v12 v13 v14 v15 v16 = Bz4 k (B41 k n) (B39 k n) a0 a1 v7 xs2 xs4 xs5 v8 v9 v10 v11 v12 v13 v14 v15 v16 := by kernel_rfl
theorem Gd0 (k n : Nat) (a0 : List A0) (a1 : List A1) (v3 : Int) (xs2 : List Int) (xs4 : List (List Int)) : B42 k (n + 1) a0 a1 v3 xs2 xs4 = Ct9 k (B42 k n) (B39 k n) a0 a1 v3 xs2 xs4 := by kernel_rfl
theorem Gd1 (k n : Nat) (a0 : List A0) (a1 : List A1) (a2 : List Int) (v1 : Int) (xs2 : List Int) : Bh5 k (n + 1) a0 a1 a2 v1 xs2 = Cu0 k (Bh5 k n) (B42 k n) a0 a1 a2 v1 xs2 := by kernel_rfl
theorem Ep6 (k : Nat) : ∀ n : Nat, B39 k n = Av8 k n ∧ B40 k n = Av9 k n ∧ B41 k n = Aw0 k n ∧ B42 k n = Aw1 k n ∧ Bh5 k n = Ak9 k n
 | 0 => ⟨(by funext a0 a1 xs2 xs4 xs5; rfl), (by funext a0 a1 v6 xs2 xs4 xs5; rfl), (by funext a0 a1 v7 xs2 xs4 xs5 v8 v9 v10 v11 v12 v13 v14 v15 v16; rfl), (by funext a0 a1 v3 xs2 xs4; rfl), (by funext a0 a1 a2 v1 xs2; rfl)⟩
 | n + 1 => by
  obtain ⟨h2, h3, h4, h1, h0⟩ := Ep6 k n
  exact ⟨(by funext a0 a1 xs2 xs4 xs5; rw [Gc7, h3] <;> rfl), (by funext a0 a1 v6 xs2 xs4 xs5; rw [Gc8, h3, h4] <;> rfl), (by funext a0 a1 v7 xs2 xs4 xs5 v8 v9 v10 v11 v12 v13 v14 v15 v16; rw [Gc9, h4, h2] <;> rfl), (by funext a0 a1 v3 xs2 xs4; rw [Gd0, h1, h2] <;> rfl), (by funext a0 a1 a2 v1 xs2; rw [Gd1, h0, h1] <;> rfl)⟩
theorem G35 (k : Nat) (a0 : List A0) (a1 : List A1) (a2 : List Int) : C5 (Af9 k) Ac9 k 224 [B5 (.slice 162 A6) a0, B5 (.slice 260 B7) a1, B5 (.slice 3 (.int .i64)) a2] ms0 = Em8 k (Bh5 k k) a0 a1 a2 := by kernel_rfl
theorem G36 (k : Nat) (a0 : List A0) (a1 : List A1) (a2 : List Int) : C5 (Af9 k) Ac9 k 224 [B5 (.slice 162 A6) a0, B5 (.slice 260 B7) a1, B5 (.slice 3 (.int .i64)) a2] ms0 = Cz6 k a0 a1 a2 := by rw [G35, show Bh5 k k = Ak9 k k from (Ep6 k k).2.2.2.2] <;> rfl
noncomputable def D14 (k : Nat) : Spec := .imm (.slice 162 A6) fun (a0 : List A0) => .imm (.slice 260 B7) fun (a1 : List A1) => .imm (.slice 3 (.int .i64)) fun (a2 : List Int) => .body (Cz6 k a0 a1 a2) (E5 [(.slice 3 (.int .i64))] [.o])
noncomputable def Ad0 (k : Nat) : Cfg := { eqs := [], tab := [(3, (.int .i64)), (49, (.slice 3 (.int .i64))), (108, (.slice 215 (.slice 260 B7))), (162, A6), (215, (.slice 260 B7))], spec := [(179, A98 k), (191, Cu9 k), (192, D07 k), (204, Y1 k), (205, Bm6 k), (222, Di8 k), (223, D09 k), (224, D14 k)], mspec := [], inl := [(203, Tryz.f203)], keep := [(20300001009, [0, 1, 5, 6, 7, 8]), (20300001012, [0, 1, 5, 6, 7, 8, 9]), (20300001019, [0, 5, 11, 12])], join := [], hold := [], ptrs := [], maps := [], fuel := k }
noncomputable def Ai4 : VV → Ms → Option (List A1) := F6 [(.slice 260 B7)] [.o]
noncomputable def Ba1 (k n : Nat) (a0 : List A0) (v5 : Int) (r1 : List A1) (r5 : List Int) : Option (List A1) := P3 (Ad0 k) Ai4 n true 20300001019 (cd [1, 1, 1, 1, 1, 1, 1, 1, 0, 1, 0, 0] (bo Tryz.f203)) [.b 4, .s (cd [1, 1, 1, 1, 1, 1, 1, 1, 1] (bo Tryz.f203)), .fn Tryz.f203] ⟨⟨(G3 95 0 [(0, one (.slc 162 A6 a0)), (5, one (.row 9000000 none none)), (11, one (.row 9000001 none none)), (12, one (.int .i64 v5))]), [(9000000, .row 260 B7 r1 true), (9000001, .row 3 (.int .i64) r5 true)]⟩, 20300001000, 1, [(0, (G3 0 0 []))]⟩
noncomputable def Ar2 (k n : Nat) (a0 : List A0) (a1 : List (List A1)) (v1 : Int) (r1 : List A1) (r2 : List Int) (xs2 : List Int) : Option (List A1) := P3 (Ad0 k) Ai4 n true 20300001009 (cd [1, 1, 1, 1, 1, 1, 0, 1, 0, 0] (bo Tryz.f203)) [.b 0, .s (cd [1, 1, 1, 1, 1, 1, 1] (bo Tryz.f203)), .fn Tryz.f203] ⟨⟨(G3 95 0 [(0, one (.slc 162 A6 a0)), (1, one (.slc 215 (.slice 260 B7) a1)), (5, one (.row 9000000 none none)), (6, one (.row 9000001 none none)), (7, one (.row 9000002 none none)), (8, one (.int .i64 v1))]), [(9000000, .row 260 B7 r1 true), (9000001, .row 3 (.int .i64) r2 true), (9000002, .row 3 (.int .i64) xs2 true)]⟩, 20300001000, 1, [(0, (G3 0 0 []))]⟩
noncomputable def Ba2 (k n : Nat) (a0 : List A0) (a1 : List (List A1)) (v1 : Int) (v3 : Int) (r1 : List A1) (r2 : List Int) (xs4 : List Int) : Option (List A1) := P3 (Ad0 k) Ai4 n true 20300001012 (cd [1, 1, 1, 1, 1, 1, 0, 1, 0, 0, 1, 0, 0, 1, 0, 0] (bo Tryz.f203)) [.b 2, .b 1, .s (cd [1, 1, 1, 1, 1, 1, 0, 1, 0, 0, 1, 1] (bo Tryz.f203)), .l 20300001009 (cd [1, 1, 1, 1, 1, 1, 0, 1, 0, 0] (bo Tryz.f203)), .b 0, .s (cd [1, 1, 1, 1, 1, 1, 1] (bo Tryz.f203)), .fn Tryz.f203] ⟨⟨(G3 95 0 [(0, one (.slc 162 A6 a0)), (1, one (.slc 215 (.slice 260 B7) a1)), (5, one (.row 9000000 none none)), (6, one (.row 9000001 none none)), (7, one (.row 9000002 none none)), (8, one (.int .i64 v1)), (9, one (.int .i64 v3))]), [(9000000, .row 260 B7 r1 true), (9000001, .row 3 (.int .i64) r2 true), (9000002, .row 3 (.int .i64) xs4 true)]⟩, 20300001000, 1, [(0, (G3 0 0 []))]⟩
theorem Ey6 (k n : Nat) (a0 : List A0) (v5 : Int) (r1 : List A1) (r5 : List Int) : Ba1 k (n + 1) a0 v5 r1 r5 = Bz5 k (Ba1 k n) a0 v5 r1 r5 := by kernel_rfl
theorem Ey7 (k n : Nat) (a0 : List A0) (a1 : List (List A1)) (v1 : Int) (r1 : List A1) (r2 : List Int) (xs2 : List Int) : Ar2 k (n + 1) a0 a1 v1 r1 r2 xs2 = A83 k (Ba2 k n) (Ba1 k n) a0 a1 v1 r1 r2 xs2 := by kernel_rfl
theorem Ey8 (k n : Nat) (a0 : List A0) (a1 : List (List A1)) (v1 : Int) (v3 : Int) (r1 : List A1) (r2 : List Int) (xs4 : List Int) : Ba2 k (n + 1) a0 a1 v1 v3 r1 r2 xs4 = A84 k (Ba2 k n) (Ar2 k n) a0 a1 v1 v3 r1 r2 xs4 := by kernel_rfl
theorem Di9 (k : Nat) : ∀ n : Nat, Ba1 k n = m6 k n ∧ Ar2 k n = m7 k n ∧ Ba2 k n = Ao7 k n
 | 0 => ⟨(by funext a0 v5 r1 r5; rfl), (by funext a0 a1 v1 r1 r2 xs2; rfl), (by funext a0 a1 v1 v3 r1 r2 xs4; rfl)⟩
 | n + 1 => by
  obtain ⟨h2, h0, h1⟩ := Di9 k n
  exact ⟨(by funext a0 v5 r1 r5; rw [Ey6, h2] <;> rfl), (by funext a0 a1 v1 r1 r2 xs2; rw [Ey7, h1, h2] <;> rfl), (by funext a0 a1 v1 v3 r1 r2 xs4; rw [Ey8, h1, h0] <;> rfl)⟩
theorem Fo3 (k : Nat) (a0 : List A0) (a1 : List (List A1)) : C5 (Ad0 k) Ai4 k 203 [B5 (.slice 162 A6) a0, B5 (.slice 215 (.slice 260 B7)) a1] ms0 = De6 k (Ar2 k k) a0 a1 := by kernel_rfl
theorem Fo4 (k : Nat) (a0 : List A0) (a1 : List (List A1)) : C5 (Ad0 k) Ai4 k 203 [B5 (.slice 162 A6) a0, B5 (.slice 215 (.slice 260 B7)) a1] ms0 = Bt5 k a0 a1 := by rw [Fo3, show Ar2 k k = m7 k k from (Di9 k k).2.1] <;> rfl
noncomputable def C43 (k : Nat) : Spec := .imm (.slice 162 A6) fun (a0 : List A0) => .imm (.slice 215 (.slice 260 B7)) fun (a1 : List (List A1)) => .body (Bt5 k a0 a1) (E5 [(.slice 260 B7)] [.o])
noncomputable def Ai5 (k : Nat) : Cfg := { eqs := [], tab := [(3, (.int .i64)), (49, (.slice 3 (.int .i64))), (107, (.slice 162 A6)), (108, (.slice 215 (.slice 260 B7))), (111, E7), (215, (.slice 260 B7))], spec := [(190, Bm5 k), (203, C43 k)], mspec := [], inl := [(178, Tryz.f178)], keep := [(17800001003, [1, 2, 6, 7])], join := [], hold := [], ptrs := [], maps := [], fuel := k }
noncomputable def A66 : VV → Ms → Option (List A1 × Bool) := F6 [(.slice 260 B7), .bool] [.o]
noncomputable def Ad1 (k n : Nat) (a1 : List Int) (v1 : Int) (a0 : A8) (xs2 : List (List A1)) : Option (List A1 × Bool) := P3 (Ai5 k) A66 n true 17800001003 (cd [1, 1, 0, 1, 0, 0] (bo Tryz.f178)) [.b 0, .s (cd [1, 1, 1] (bo Tryz.f178)), .fn Tryz.f178] ⟨⟨(G3 44 0 [(1, one (.slc 3 (.int .i64) a1)), (2, one (.ptr 9000000 0)), (6, one (.row 9000001 none none)), (7, one (.int .i64 v1))]), [(9000000, .box [.slc 162 A6 a0.1, .slc 215 (.slice 260 B7) a0.2.1, .slc 4 .bool a0.2.2.1]), (9000001, .row 215 (.slice 260 B7) xs2 true)]⟩, 17800001000, 1, [(0, (G3 0 0 []))]⟩
theorem D15 (k n : Nat) (a1 : List Int) (v1 : Int) (a0 : A8) (xs2 : List (List A1)) : Ad1 k (n + 1) a1 v1 a0 xs2 = Be0 k (Ad1 k n) a1 v1 a0 xs2 := by kernel_rfl
theorem Cq7 (k : Nat) : ∀ n : Nat, Ad1 k n = V5 k n
 | 0 => (by funext a1 v1 a0 xs2; rfl)
 | n + 1 => by
  obtain h0 := Cq7 k n
  exact (by funext a1 v1 a0 xs2; rw [D15, h0] <;> rfl)
theorem Ed0 (k : Nat) (a0 : A8) (a1 : List Int) : C5 (Ai5 k) A66 k 178 [B5 E7 a0, B5 (.slice 3 (.int .i64)) a1] ms0 = Co0 k (Ad1 k k) a0 a1 := by kernel_rfl
theorem Ed1 (k : Nat) (a0 : A8) (a1 : List Int) : C5 (Ai5 k) A66 k 178 [B5 E7 a0, B5 (.slice 3 (.int .i64)) a1] ms0 = N8 k a0 a1 := by rw [Ed0, show Ad1 k k = V5 k k from (Cq7 k k)] <;> rfl
noncomputable def Ar3 (k : Nat) : Spec := .imm E7 fun (a0 : A8) => .imm (.slice 3 (.int .i64)) fun (a1 : List Int) => .body (N8 k a0 a1) (E5 [(.slice 260 B7), .bool] [.o])
noncomputable def Cv1 (k : Nat) : Cfg := { eqs := [], tab := [(3, (.int .i64)), (49, (.slice 3 (.int .i64))), (107, (.slice 162 A6)), (108, (.slice 215 (.slice 260 B7))), (109, (.slice 4 .bool)), (111, E7), (162, A6)], spec := [(152, Af8 k), (177, A97 k), (178, Ar3 k), (179, A98 k), (190, Bm5 k), (191, Cu9 k), (192, D07 k)], mspec := [], inl := [(168, Tryz.f168)], keep := [], join := [], hold := [], ptrs := [], maps := [], fuel := k }
noncomputable def Ey9 : VV → Ms → Option (A8 × Bool) := F6 [E7, .bool] [.o, .o, .o]
theorem Gd2 (k : Nat) (a0 : A8) (a1 : A0) : C5 (Cv1 k) Ey9 k 168 [B5 E7 a0, B5 A6 a1] ms0 = Be1 k a0 a1 := by kernel_rfl
noncomputable def Cf9 (k : Nat) : Spec := .imm E7 fun (a0 : A8) => .imm A6 fun (a1 : A0) => .body (Be1 k a0 a1) (E5 [E7, .bool] [.o, .o, .o])
noncomputable def q7 (k : Nat) : Cfg := { eqs := [], tab := [(3, (.int .i64)), (49, (.slice 3 (.int .i64)))], spec := [], mspec := [], inl := [(151, Tryz.f151)], keep := [(15100001004, [0, 1, 5])], join := [], hold := [], ptrs := [], maps := [], fuel := k }
noncomputable def Ar4 : VV → Ms → Option Bool := F6 [.bool] []
noncomputable def i6 (k n : Nat) (a0 : List Int) (a1 : List Int) (v1 : Int) : Option Bool := P3 (q7 k) Ar4 n true 15100001004 (cd [1, 1, 0, 1, 0, 0] (bo Tryz.f151)) [.b 0, .s (cd [1, 1, 1] (bo Tryz.f151)), .fn Tryz.f151] ⟨⟨(G3 26 0 [(0, one (.slc 3 (.int .i64) a0)), (1, one (.slc 3 (.int .i64) a1)), (5, one (.int .i64 v1))]), []⟩, 15100001000, 1, [(0, (G3 0 0 []))]⟩
theorem Da6 (k n : Nat) (a0 : List Int) (a1 : List Int) (v1 : Int) : i6 k (n + 1) a0 a1 v1 = U9 k (i6 k n) a0 a1 v1 := by kernel_rfl
theorem B77 (k : Nat) : ∀ n : Nat, i6 k n = I2 k n
 | 0 => (by funext a0 a1 v1; rfl)
 | n + 1 => by
  obtain h0 := B77 k n
  exact (by funext a0 a1 v1; rw [Da6, h0] <;> rfl)
theorem Dm3 (k : Nat) (a0 : List Int) (a1 : List Int) : C5 (q7 k) Ar4 k 151 [B5 (.slice 3 (.int .i64)) a0, B5 (.slice 3 (.int .i64)) a1] ms0 = Aj9 k (i6 k k) a0 a1 := by kernel_rfl
theorem Dm4 (k : Nat) (a0 : List Int) (a1 : List Int) : C5 (q7 k) Ar4 k 151 [B5 (.slice 3 (.int .i64)) a0, B5 (.slice 3 (.int .i64)) a1] ms0 = N1 k a0 a1 := by rw [Dm3, show i6 k k = I2 k k from (B77 k k)] <;> rfl
noncomputable def Ay2 (k : Nat) : Spec := .imm (.slice 3 (.int .i64)) fun (a0 : List Int) => .imm (.slice 3 (.int .i64)) fun (a1 : List Int) => .body (N1 k a0 a1) (E5 [.bool] [])
noncomputable def Cg0 (k : Nat) : Cfg := { eqs := [], tab := [(3, (.int .i64)), (9, .str), (49, (.slice 3 (.int .i64))), (162, A6)], spec := [(151, Ay2 k)], mspec := [], inl := [(193, Tryz.f193)], keep := [], join := [], hold := [], ptrs := [], maps := [], fuel := k }
noncomputable def Ed2 : VV → Ms → Option Bool := F6 [.bool] []
theorem Fo5 (k : Nat) (a0 : A0) (a1 : A0) : C5 (Cg0 k) Ed2 k 193 [B5 A6 a0, B5 A6 a1] ms0 = Am1 k a0 a1 := by kernel_rfl
noncomputable def B43 (k : Nat) : Spec := .imm A6 fun (a0 : A0) => .imm A6 fun (a1 : A0) => .body (Am1 k a0 a1) (E5 [.bool] [])
noncomputable def i7 (k : Nat) : Cfg := { eqs := [260], tab := [(215, (.slice 260 B7)), (260, B7)], spec := [], mspec := [], inl := [(194, Tryz.f194)], keep := [(19400001004, [0, 1, 5])], join := [], hold := [], ptrs := [], maps := [], fuel := k }
noncomputable def Al3 : VV → Ms → Option Bool := F6 [.bool] []
noncomputable def Y2 (k n : Nat) (a0 : List A1) (a1 : List A1) (v1 : Int) : Option Bool := P3 (i7 k) Al3 n true 19400001004 (cd [1, 1, 0, 1, 0, 0] (bo Tryz.f194)) [.b 0, .s (cd [1, 1, 1] (bo Tryz.f194)), .fn Tryz.f194] ⟨⟨(G3 26 0 [(0, one (.slc 260 B7 a0)), (1, one (.slc 260 B7 a1)), (5, one (.int .i64 v1))]), []⟩, 19400001000, 1, [(0, (G3 0 0 []))]⟩
theorem C44 (k n : Nat) (a0 : List A1) (a1 : List A1) (v1 : Int) : Y2 k (n + 1) a0 a1 v1 = z8 k (Y2 k n) a0 a1 v1 := by kernel_rfl
theorem Bv9 (k : Nat) : ∀ n : Nat, Y2 k n = M4 k n
 | 0 => (by funext a0 a1 v1; rfl)
 | n + 1 => by
  obtain h0 := Bv9 k n
  exact (by funext a0 a1 v1; rw [C44, h0] <;> rfl)
theorem Da7 (k : Nat) (a0 : List A1) (a1 : List A1) : C5 (i7 k) Al3 k 194 [B5 (.slice 260 B7) a0, B5 (.slice 260 B7) a1] ms0 = Bt6 k (Y2 k k) a0 a1 := by kernel_rfl
theorem Da8 (k : Nat) (a0 : List A1) (a1 : List A1) : C5 (i7 k) Al3 k 194 [B5 (.slice 260 B7) a0, B5 (.slice 260 B7) a1] ms0 = f9 k a0 a1 := by rw [Da7, show Y2 k k = M4 k k from (Bv9 k k)] <;> rfl
noncomputable def Bm7 (k : Nat) : Spec := .imm (.slice 260 B7) fun (a0 : List A1) => .imm (.slice 260 B7) fun (a1 : List A1) => .body (f9 k a0 a1) (E5 [.bool] [])
noncomputable def Ad2 (k : Nat) : Cfg := { eqs := [], tab := [(4, .bool), (107, (.slice 162 A6)), (108, (.slice 215 (.slice 260 B7))), (109, (.slice 4 .bool)), (111, E7), (162, A6), (215, (.slice 260 B7))], spec := [(193, B43 k), (194, Bm7 k)], mspec := [], inl := [(169, Tryz.f169)], keep := [(16900001004, [2, 3, 5]), (16900001009, [2, 3, 6]), (16900001014, [2, 3, 7])], join := [], hold := [], ptrs := [], maps := [], fuel := k }
noncomputable def Ai6 : VV → Ms → Option Bool := F6 [.bool] []
noncomputable def Ba3 (k n : Nat) (v3 : Int) (a0 : A8) (a1 : A8) : Option Bool := P3 (Ad2 k) Ai6 n true 16900001014 (cd [1, 1, 1, 1, 0, 1, 0, 0] (bo Tryz.f169)) [.b 4, .s (cd [1, 1, 1, 1, 1] (bo Tryz.f169)), .fn Tryz.f169] ⟨⟨(G3 89 0 [(2, one (.ptr 9000000 0)), (3, one (.ptr 9000001 0)), (7, one (.int .i64 v3))]), [(9000000, .box [.slc 162 A6 a0.1, .slc 215 (.slice 260 B7) a0.2.1, .slc 4 .bool a0.2.2.1]), (9000001, .box [.slc 162 A6 a1.1, .slc 215 (.slice 260 B7) a1.2.1, .slc 4 .bool a1.2.2.1])]⟩, 16900001000, 1, [(0, (G3 0 0 []))]⟩
noncomputable def Ba4 (k n : Nat) (v2 : Int) (a0 : A8) (a1 : A8) : Option Bool := P3 (Ad2 k) Ai6 n true 16900001009 (cd [1, 1, 1, 0, 1, 0, 0] (bo Tryz.f169)) [.b 2, .s (cd [1, 1, 1, 1] (bo Tryz.f169)), .fn Tryz.f169] ⟨⟨(G3 89 0 [(2, one (.ptr 9000000 0)), (3, one (.ptr 9000001 0)), (6, one (.int .i64 v2))]), [(9000000, .box [.slc 162 A6 a0.1, .slc 215 (.slice 260 B7) a0.2.1, .slc 4 .bool a0.2.2.1]), (9000001, .box [.slc 162 A6 a1.1, .slc 215 (.slice 260 B7) a1.2.1, .slc 4 .bool a1.2.2.1])]⟩, 16900001000, 1, [(0, (G3 0 0 []))]⟩
noncomputable def Ar5 (k n : Nat) (v1 : Int) (a0 : A8) (a1 : A8) : Option Bool := P3 (Ad2 k) Ai6 n true 16900001004 (cd [1, 1, 0, 1, 0, 0] (bo Tryz.f169)) [.b 0, .s (cd [1, 1, 1] (bo Tryz.f169)), .fn Tryz.f169] ⟨⟨(G3 89 0 [(2, one (.ptr 9000000 0)), (3, one (.ptr 9000001 0)), (5, one (.int .i64 v1))]), [(9000000, .box [.slc 162 A6 a0.1, .slc 215 (.slice 260 B7) a0.2.1, .slc 4 .bool a0.2.2.1]), (9000001, .box [.slc 162 A6 a1.1, .slc 215 (.slice 260 B7) a1.2.1, .slc 4 .bool a1.2.2.1])]⟩, 16900001000, 1, [(0, (G3 0 0 []))]⟩
theorem Ez0 (k n : Nat) (v3 : Int) (a0 : A8) (a1 : A8) : Ba3 k (n + 1) v3 a0 a1 = A85 k (Ba3 k n) v3 a0 a1 := by kernel_rfl
theorem Ez1 (k n : Nat) (v2 : Int) (a0 : A8) (a1 : A8) : Ba4 k (n + 1) v2 a0 a1 = A86 k (Ba4 k n) (Ba3 k n) v2 a0 a1 := by kernel_rfl
theorem Ez2 (k n : Nat) (v1 : Int) (a0 : A8) (a1 : A8) : Ar5 k (n + 1) v1 a0 a1 = A87 k (Ar5 k n) (Ba4 k n) v1 a0 a1 := by kernel_rfl
theorem Dj0 (k : Nat) : ∀ n : Nat, Ba3 k n = Ae3 k n ∧ Ba4 k n = Ae4 k n ∧ Ar5 k n = X5 k n
 | 0 => ⟨(by funext v3 a0 a1; rfl), (by funext v2 a0 a1; rfl), (by funext v1 a0 a1; rfl)⟩
 | n + 1 => by
  obtain ⟨h2, h1, h0⟩ := Dj0 k n
  exact ⟨(by funext v3 a0 a1; rw [Ez0, h2] <;> rfl), (by funext v2 a0 a1; rw [Ez1, h1, h2] <;> rfl), (by funext v1 a0 a1; rw [Ez2, h0, h1] <;> rfl)⟩
theorem Fo6 (k : Nat) (a0 : A8) (a1 : A8) : C5 (Ad2 k) Ai6 k 169 [B5 E7 a0, B5 E7 a1] ms0 = De7 k (Ar5 k k) a0 a1 := by kernel_rfl
theorem Fo7 (k : Nat) (a0 : A8) (a1 : A8) : C5 (Ad2 k) Ai6 k 169 [B5 E7 a0, B5 E7 a1] ms0 = Bt7 k a0 a1 := by rw [Fo6, show Ar5 k k = X5 k k from (Dj0 k k).2.2] <;> rfl
noncomputable def C45 (k : Nat) : Spec := .imm E7 fun (a0 : A8) => .imm E7 fun (a1 : A8) => .body (Bt7 k a0 a1) (E5 [.bool] [])
noncomputable def Bh6 (k : Nat) : Cfg := { eqs := [], tab := [(107, (.slice 162 A6)), (111, E7), (162, A6)], spec := [(168, Cf9 k), (169, C45 k)], mspec := [], inl := [(149, Tryz.f149)], keep := [(14900001005, [1, 3, 4])], join := [], hold := [(14900001005, [(3, [0, 0], 162, A6, false, false), (3, [0, 1], 215, (.slice 260 B7), false, false), (3, [0, 2], 4, .bool, false, false)])], ptrs := [], maps := [], fuel := k }
noncomputable def B44 : VV → Ms → Option Bool := F6 [.bool] []
noncomputable def A33 (k n : Nat) (v1 : Int) (a0 : A8) (xs2 : List A0) (xs3 : List (List A1)) (xs4 : List Bool) : Option Bool := P3 (Bh6 k) B44 n true 14900001005 (cd [1, 1, 1, 0, 1, 0, 0] (bo Tryz.f149)) [.b 0, .s (cd [1, 1, 1, 1] (bo Tryz.f149)), .fn Tryz.f149] ⟨⟨(G3 35 0 [(1, one (.ptr 9000000 0)), (3, one (.ptr 9000001 0)), (4, one (.int .i64 v1))]), [(9000000, .box [.slc 162 A6 a0.1, .slc 215 (.slice 260 B7) a0.2.1, .slc 4 .bool a0.2.2.1]), (9000001, .box [.row 9000002 none none, .row 9000003 none none, .row 9000004 none none]), (9000002, .row 162 A6 xs2 true), (9000003, .row 215 (.slice 260 B7) xs3 true), (9000004, .row 4 .bool xs4 true)]⟩, 14900001000, 1, [(0, (G3 0 0 []))]⟩
theorem Fo8 (k n : Nat) (v1 : Int) (a0 : A8) (xs2 : List A0) (xs3 : List (List A1)) (xs4 : List Bool) : A33 k (n + 1) v1 a0 xs2 xs3 xs4 = Cb1 k (A33 k n) v1 a0 xs2 xs3 xs4 := by kernel_rfl
theorem D16 (k : Nat) : ∀ n : Nat, A33 k n = Ab1 k n
 | 0 => (by funext v1 a0 xs2 xs3 xs4; rfl)
 | n + 1 => by
  obtain h0 := D16 k n
  exact (by funext v1 a0 xs2 xs3 xs4; rw [Fo8, h0] <;> rfl)
theorem Gd3 (k : Nat) (a0 : A8) : C5 (Bh6 k) B44 k 149 [B5 E7 a0] ms0 = Dv2 k (A33 k k) a0 := by kernel_rfl
theorem Gd4 (k : Nat) (a0 : A8) : C5 (Bh6 k) B44 k 149 [B5 E7 a0] ms0 = Cb2 k a0 := by rw [Gd3, show A33 k k = Ab1 k k from (D16 k k)] <;> rfl
noncomputable def Dj1 (k : Nat) : Spec := .imm E7 fun (a0 : A8) => .body (Cb2 k a0) (E5 [.bool] [])
noncomputable def Bh7 (k : Nat) : Cfg := { eqs := [], tab := [(3, (.int .i64)), (4, .bool), (49, (.slice 3 (.int .i64))), (107, (.slice 162 A6)), (109, (.slice 4 .bool)), (111, E7), (162, A6)], spec := [], mspec := [], inl := [(150, Tryz.f150)], keep := [(15000001003, [1, 3, 4])], join := [], hold := [], ptrs := [], maps := [], fuel := k }
noncomputable def B45 : VV → Ms → Option (List Int) := F6 [(.slice 3 (.int .i64))] [.o]
noncomputable def A34 (k n : Nat) (v1 : Int) (a0 : A8) (xs2 : List Int) : Option (List Int) := P3 (Bh7 k) B45 n true 15000001003 (cd [1, 1, 0, 1, 0, 0] (bo Tryz.f150)) [.b 0, .s (cd [1, 1, 1] (bo Tryz.f150)), .fn Tryz.f150] ⟨⟨(G3 38 0 [(1, one (.ptr 9000000 0)), (3, one (.row 9000001 none none)), (4, one (.int .i64 v1))]), [(9000000, .box [.slc 162 A6 a0.1, .slc 215 (.slice 260 B7) a0.2.1, .slc 4 .bool a0.2.2.1]), (9000001, .row 3 (.int .i64) xs2 true)]⟩, 15000001000, 1, [(0, (G3 0 0 []))]⟩
theorem Fo9 (k n : Nat) (v1 : Int) (a0 : A8) (xs2 : List Int) : A34 k (n + 1) v1 a0 xs2 = Cb3 k (A34 k n) v1 a0 xs2 := by kernel_rfl
theorem D17 (k : Nat) : ∀ n : Nat, A34 k n = Ab2 k n
 | 0 => (by funext v1 a0 xs2; rfl)
 | n + 1 => by
  obtain h0 := D17 k n
  exact (by funext v1 a0 xs2; rw [Fo9, h0] <;> rfl)
theorem Gd5 (k : Nat) (a0 : A8) : C5 (Bh7 k) B45 k 150 [B5 E7 a0] ms0 = Dv3 k (A34 k k) a0 := by kernel_rfl
theorem Gd6 (k : Nat) (a0 : A8) : C5 (Bh7 k) B45 k 150 [B5 E7 a0] ms0 = Cb4 k a0 := by rw [Gd5, show A34 k k = Ab2 k k from (D17 k k)] <;> rfl
noncomputable def Dj2 (k : Nat) : Spec := .imm E7 fun (a0 : A8) => .body (Cb4 k a0) (E5 [(.slice 3 (.int .i64))] [.o])
noncomputable def Ay3 (k : Nat) : Cfg := { eqs := [], tab := [(3, (.int .i64)), (9, .str), (49, (.slice 3 (.int .i64))), (106, (.slice 158 Q0)), (111, E7), (112, (.slice 164 An3)), (114, M6), (158, Q0), (164, An3)], spec := [(55, H7 k), (149, Dj1 k), (150, Dj2 k), (151, Ay2 k)], mspec := [], inl := [(115, Tryz.f115)], keep := [(11500001004, [1, 3]), (11500001011, [1, 5, 6])], join := [], hold := [], ptrs := [], maps := [], fuel := k }
noncomputable def Ba5 : VV → Ms → Option Bool := F6 [.bool] []
noncomputable def Bm8 (k n : Nat) (v2 : Int) (a0 : C2) (r4 : List Int) : Option Bool := P3 (Ay3 k) Ba5 n true 11500001011 (cd [1, 1, 1, 1, 0, 1, 0, 0] (bo Tryz.f115)) [.b 2, .s (cd [1, 1, 1, 1, 1] (bo Tryz.f115)), .fn Tryz.f115] ⟨⟨(G3 113 0 [(1, one (.ptr 9000000 0)), (5, one (.row 9000001 none none)), (6, one (.int .i64 v2))]), [(9000000, .box [.slc 158 Q0 a0.1, .slc 162 A6 a0.2.1.1, .slc 215 (.slice 260 B7) a0.2.1.2.1, .slc 4 .bool a0.2.1.2.2.1, .slc 164 An3 a0.2.2.1]), (9000001, .row 3 (.int .i64) r4 true)]⟩, 11500001000, 1, [(0, (G3 0 0 []))]⟩
noncomputable def A35 (k n : Nat) (v1 : Int) (a0 : C2) : Option Bool := P3 (Ay3 k) Ba5 n true 11500001004 (cd [1, 1, 0, 1, 0, 0] (bo Tryz.f115)) [.b 0, .s (cd [1, 1, 1] (bo Tryz.f115)), .fn Tryz.f115] ⟨⟨(G3 113 0 [(1, one (.ptr 9000000 0)), (3, one (.int .i64 v1))]), [(9000000, .box [.slc 158 Q0 a0.1, .slc 162 A6 a0.2.1.1, .slc 215 (.slice 260 B7) a0.2.1.2.1, .slc 4 .bool a0.2.1.2.2.1, .slc 164 An3 a0.2.2.1])]⟩, 11500001000, 1, [(0, (G3 0 0 []))]⟩
theorem Fp0 (k n : Nat) (v2 : Int) (a0 : C2) (r4 : List Int) : Bm8 k (n + 1) v2 a0 r4 = Bk7 k (Bm8 k n) v2 a0 r4 := by kernel_rfl
theorem Fp1 (k n : Nat) (v1 : Int) (a0 : C2) : A35 k (n + 1) v1 a0 = Bk8 k (A35 k n) (Bm8 k n) v1 a0 := by kernel_rfl
theorem D18 (k : Nat) : ∀ n : Nat, Bm8 k n = Ab3 k n ∧ A35 k n = P0 k n
 | 0 => ⟨(by funext v2 a0 r4; rfl), (by funext v1 a0; rfl)⟩
 | n + 1 => by
  obtain ⟨h1, h0⟩ := D18 k n
  exact ⟨(by funext v2 a0 r4; rw [Fp0, h1] <;> rfl), (by funext v1 a0; rw [Fp1, h0, h1] <;> rfl)⟩
theorem Gd7 (k : Nat) (a0 : C2) : C5 (Ay3 k) Ba5 k 115 [B5 M6 a0] ms0 = Dv4 k (A35 k k) a0 := by kernel_rfl
theorem Gd8 (k : Nat) (a0 : C2) : C5 (Ay3 k) Ba5 k 115 [B5 M6 a0] ms0 = Ao8 k a0 := by rw [Gd7, show A35 k k = P0 k k from (D18 k k).2] <;> rfl
noncomputable def Cg1 (k : Nat) : Spec := .imm M6 fun (a0 : C2) => .body (Ao8 k a0) (E5 [.bool] [])
noncomputable def B46 (k : Nat) : Cfg := { eqs := [], tab := [(9, .str)], spec := [(109, Ac5 k)], mspec := [], inl := [(116, Tryz.f116)], keep := [], join := [], hold := [], ptrs := [], maps := [], fuel := k }
noncomputable def D19 : VV → Ms → Option ByteArray := F6 [.str] []
theorem Ez3 (k : Nat) (a0 : ByteArray) : C5 (B46 k) D19 k 116 [B5 .str a0] ms0 = Y8 k a0 := by kernel_rfl
noncomputable def Az8 (k : Nat) : Spec := .imm .str fun (a0 : ByteArray) => .body (Y8 k a0) (E5 [.str] [])
noncomputable def Cg2 (k : Nat) : Cfg := { eqs := [], tab := [(3, (.int .i64)), (5, (.int .u8)), (9, .str), (22, (.slice 5 (.int .u8)))], spec := [], mspec := [], inl := [(171, Tryz.f171)], keep := [], join := [], hold := [], ptrs := [], maps := [], fuel := k }
noncomputable def Ed3 : VV → Ms → Option ByteArray := F6 [.str] []
theorem Fp2 (k : Nat) (a0 : Int) : C5 (Cg2 k) Ed3 k 171 [B5 (.int .i64) a0] ms0 = u0 k a0 := by kernel_rfl
noncomputable def C46 (k : Nat) : Spec := .imm (.int .i64) fun (a0 : Int) => .body (u0 k a0) (E5 [.str] [])
noncomputable def q8 (k : Nat) : Cfg := { eqs := [], tab := [(3, (.int .i64)), (9, .str), (49, (.slice 3 (.int .i64))), (162, A6)], spec := [(109, Ac5 k), (116, Az8 k), (171, C46 k)], mspec := [], inl := [(153, Tryz.f153)], keep := [(15300001003, [1, 3, 4])], join := [], hold := [], ptrs := [], maps := [], fuel := k }
noncomputable def Ar6 : VV → Ms → Option ByteArray := F6 [.str] []
noncomputable def i8 (k n : Nat) (v1 : ByteArray) (v2 : Int) (a0 : A0) : Option ByteArray := P3 (q8 k) Ar6 n true 15300001003 (cd [1, 1, 0, 1, 0, 0] (bo Tryz.f153)) [.b 0, .s (cd [1, 1, 1] (bo Tryz.f153)), .fn Tryz.f153] ⟨⟨(G3 45 0 [(1, one (.ptr 9000000 0)), (3, one (.str v1)), (4, one (.int .i64 v2))]), [(9000000, .box [.int .i64 a0.1, .int .i64 a0.2.1, .int .i64 a0.2.2.1, .int .i64 a0.2.2.2.1, .int .i64 a0.2.2.2.2.1, .slc 3 (.int .i64) a0.2.2.2.2.2.1, .str a0.2.2.2.2.2.2.1, .slc 3 (.int .i64) a0.2.2.2.2.2.2.2.1, .int .i64 a0.2.2.2.2.2.2.2.2.1])]⟩, 15300001000, 1, [(0, (G3 0 0 []))]⟩
theorem Da9 (k n : Nat) (v1 : ByteArray) (v2 : Int) (a0 : A0) : i8 k (n + 1) v1 v2 a0 = Ae5 k (i8 k n) v1 v2 a0 := by kernel_rfl
theorem B78 (k : Nat) : ∀ n : Nat, i8 k n = P8 k n
 | 0 => (by funext v1 v2 a0; rfl)
 | n + 1 => by
  obtain h0 := B78 k n
  exact (by funext v1 v2 a0; rw [Da9, h0] <;> rfl)
theorem Dm5 (k : Nat) (a0 : A0) : C5 (q8 k) Ar6 k 153 [B5 A6 a0] ms0 = A56 k (i8 k k) a0 := by kernel_rfl
theorem Dm6 (k : Nat) (a0 : A0) : C5 (q8 k) Ar6 k 153 [B5 A6 a0] ms0 = u5 k a0 := by rw [Dm5, show i8 k k = P8 k k from (B78 k k)] <;> rfl
noncomputable def Bw0 (k : Nat) : Spec := .imm A6 fun (a0 : A0) => .body (u5 k a0) (E5 [.str] [])
noncomputable def Ai7 (k : Nat) : Cfg := { eqs := [], tab := [(3, (.int .i64)), (49, (.slice 3 (.int .i64))), (162, A6)], spec := [(109, Ac5 k), (152, Af8 k), (153, Bw0 k)], mspec := [], inl := [(117, Tryz.f117)], keep := [(11700001005, [1, 4, 5])], join := [], hold := [], ptrs := [], maps := [], fuel := k }
noncomputable def A67 : VV → Ms → Option (ByteArray × Bool) := F6 [.str, .bool] []
noncomputable def Ad3 (k n : Nat) (v1 : ByteArray) (v2 : Int) (a0 : A0) : Option (ByteArray × Bool) := P3 (Ai7 k) A67 n true 11700001005 (cd [1, 1, 1, 0, 1, 0, 0] (bo Tryz.f117)) [.b 0, .s (cd [1, 1, 1, 1] (bo Tryz.f117)), .fn Tryz.f117] ⟨⟨(G3 40 0 [(1, one (.ptr 9000000 0)), (4, one (.str v1)), (5, one (.int .i64 v2))]), [(9000000, .box [.int .i64 a0.1, .int .i64 a0.2.1, .int .i64 a0.2.2.1, .int .i64 a0.2.2.2.1, .int .i64 a0.2.2.2.2.1, .slc 3 (.int .i64) a0.2.2.2.2.2.1, .str a0.2.2.2.2.2.2.1, .slc 3 (.int .i64) a0.2.2.2.2.2.2.2.1, .int .i64 a0.2.2.2.2.2.2.2.2.1])]⟩, 11700001000, 1, [(0, (G3 0 0 []))]⟩
theorem D20 (k n : Nat) (v1 : ByteArray) (v2 : Int) (a0 : A0) : Ad3 k (n + 1) v1 v2 a0 = Ao9 k (Ad3 k n) v1 v2 a0 := by kernel_rfl
theorem Cq8 (k : Nat) : ∀ n : Nat, Ad3 k n = V6 k n
 | 0 => (by funext v1 v2 a0; rfl)
 | n + 1 => by
  obtain h0 := Cq8 k n
  exact (by funext v1 v2 a0; rw [D20, h0] <;> rfl)
theorem Ed4 (k : Nat) (a0 : A0) : C5 (Ai7 k) A67 k 117 [B5 A6 a0] ms0 = Co1 k (Ad3 k k) a0 := by kernel_rfl
theorem Ed5 (k : Nat) (a0 : A0) : C5 (Ai7 k) A67 k 117 [B5 A6 a0] ms0 = A11 k a0 := by rw [Ed4, show Ad3 k k = V6 k k from (Cq8 k k)] <;> rfl
noncomputable def Cg3 (k : Nat) : Spec := .imm A6 fun (a0 : A0) => .body (A11 k a0) (E5 [.str, .bool] [])
noncomputable def o8 (k : Nat) : Cfg := { eqs := [], tab := [(3, (.int .i64)), (9, .str), (22, (.slice 5 (.int .u8))), (106, (.slice 158 Q0)), (107, (.slice 162 A6)), (111, E7), (112, (.slice 164 An3)), (114, M6), (158, Q0), (162, A6), (164, An3)], spec := [(109, Ac5 k), (115, Cg1 k), (116, Az8 k), (117, Cg3 k)], mspec := [], inl := [(68, Tryz.f68)], keep := [(6800001005, [1, 4, 5]), (6800001011, [1, 4, 7]), (6800001016, [1, 4, 10])], join := [], hold := [], ptrs := [], maps := [], fuel := k }
noncomputable def Ad4 : VV → Ms → Option (ByteArray × Bool) := F6 [.str, .bool] []
noncomputable def Az9 (k n : Nat) (v5 : Int) (a0 : C2) (xs4 : List Int) : Option (ByteArray × Bool) := P3 (o8 k) Ad4 n true 6800001016 (cd [1, 1, 1, 1, 1, 1, 0, 1, 0, 0] (bo Tryz.f68)) [.b 4, .s (cd [1, 1, 1, 1, 1, 1, 1] (bo Tryz.f68)), .fn Tryz.f68] ⟨⟨(G3 98 0 [(1, one (.ptr 9000000 0)), (4, one (.row 9000001 none none)), (10, one (.int .i64 v5))]), [(9000000, .box [.slc 158 Q0 a0.1, .slc 162 A6 a0.2.1.1, .slc 215 (.slice 260 B7) a0.2.1.2.1, .slc 4 .bool a0.2.1.2.2.1, .slc 164 An3 a0.2.2.1]), (9000001, .row 5 (.int .u8) xs4 true)]⟩, 6800001000, 1, [(0, (G3 0 0 []))]⟩
noncomputable def A00 (k n : Nat) (v3 : Int) (a0 : C2) (xs4 : List Int) : Option (ByteArray × Bool) := P3 (o8 k) Ad4 n true 6800001011 (cd [1, 1, 1, 1, 1, 0, 1, 0, 0] (bo Tryz.f68)) [.b 2, .s (cd [1, 1, 1, 1, 1, 1] (bo Tryz.f68)), .fn Tryz.f68] ⟨⟨(G3 98 0 [(1, one (.ptr 9000000 0)), (4, one (.row 9000001 none none)), (7, one (.int .i64 v3))]), [(9000000, .box [.slc 158 Q0 a0.1, .slc 162 A6 a0.2.1.1, .slc 215 (.slice 260 B7) a0.2.1.2.1, .slc 4 .bool a0.2.1.2.2.1, .slc 164 An3 a0.2.2.1]), (9000001, .row 5 (.int .u8) xs4 true)]⟩, 6800001000, 1, [(0, (G3 0 0 []))]⟩
noncomputable def Ai8 (k n : Nat) (v1 : Int) (a0 : C2) (xs2 : List Int) : Option (ByteArray × Bool) := P3 (o8 k) Ad4 n true 6800001005 (cd [1, 1, 1, 0, 1, 0, 0] (bo Tryz.f68)) [.b 0, .s (cd [1, 1, 1, 1] (bo Tryz.f68)), .fn Tryz.f68] ⟨⟨(G3 98 0 [(1, one (.ptr 9000000 0)), (4, one (.row 9000001 none none)), (5, one (.int .i64 v1))]), [(9000000, .box [.slc 158 Q0 a0.1, .slc 162 A6 a0.2.1.1, .slc 215 (.slice 260 B7) a0.2.1.2.1, .slc 4 .bool a0.2.1.2.2.1, .slc 164 An3 a0.2.2.1]), (9000001, .row 5 (.int .u8) xs2 true)]⟩, 6800001000, 1, [(0, (G3 0 0 []))]⟩
theorem Ed6 (k n : Nat) (v5 : Int) (a0 : C2) (xs4 : List Int) : Az9 k (n + 1) v5 a0 xs4 = Bo2 k (Az9 k n) v5 a0 xs4 := by kernel_rfl
theorem Ed7 (k n : Nat) (v3 : Int) (a0 : C2) (xs4 : List Int) : A00 k (n + 1) v3 a0 xs4 = Bo3 k (A00 k n) (Az9 k n) v3 a0 xs4 := by kernel_rfl
theorem Ed8 (k n : Nat) (v1 : Int) (a0 : C2) (xs2 : List Int) : Ai8 k (n + 1) v1 a0 xs2 = Bo4 k (Ai8 k n) (A00 k n) v1 a0 xs2 := by kernel_rfl
theorem C47 (k : Nat) : ∀ n : Nat, Az9 k n = u6 k n ∧ A00 k n = u7 k n ∧ Ai8 k n = Y9 k n
 | 0 => ⟨(by funext v5 a0 xs4; rfl), (by funext v3 a0 xs4; rfl), (by funext v1 a0 xs2; rfl)⟩
 | n + 1 => by
  obtain ⟨h2, h1, h0⟩ := C47 k n
  exact ⟨(by funext v5 a0 xs4; rw [Ed6, h2] <;> rfl), (by funext v3 a0 xs4; rw [Ed7, h1, h2] <;> rfl), (by funext v1 a0 xs2; rw [Ed8, h0, h1] <;> rfl)⟩
theorem Ez4 (k : Nat) (a0 : C2) : C5 (o8 k) Ad4 k 68 [B5 M6 a0] ms0 = Cz7 k (Ai8 k k) a0 := by kernel_rfl
theorem Ez5 (k : Nat) (a0 : C2) : C5 (o8 k) Ad4 k 68 [B5 M6 a0] ms0 = Al0 k a0 := by rw [Ez4, show Ai8 k k = Y9 k k from (C47 k k).2.2] <;> rfl
noncomputable def Cq9 (k : Nat) : Spec := .imm M6 fun (a0 : C2) => .body (Al0 k a0) (E5 [.str, .bool] [])
noncomputable def A36 (k : Nat) : Cfg := { eqs := [], tab := [(112, (.slice 164 An3)), (114, M6), (164, An3)], spec := [], mspec := [], inl := [(118, Tryz.f118)], keep := [(11800001003, [0, 1, 2])], join := [], hold := [(11800001003, [(1, [0, 4], 164, An3, false, false)])], ptrs := [], maps := [], fuel := k }
noncomputable def Bq2 : VV → Ms → Option C2 := F6 [M6] [.o, .o, .o, .o, .o]
noncomputable def Ar7 (k n : Nat) (v1 : Int) (xs2 : List K8) : Option C2 := P3 (A36 k) Bq2 n true 11800001003 (cd [1, 1, 0, 1, 0, 0] (bo Tryz.f118)) [.b 0, .s (cd [1, 1, 1] (bo Tryz.f118)), .fn Tryz.f118] ⟨⟨(G3 16 0 [(0, one (.ptr 9000000 0)), (1, one (.ptr 9000001 0)), (2, one (.int .i64 v1))]), [(9000000, .box [.nilS, .nilS, .nilS, .nilS, .nilS]), (9000001, .box [.nilS, .nilS, .nilS, .nilS, .row 9000002 none none]), (9000002, .row 164 An3 xs2 true)]⟩, 11800001000, 1, [(0, (G3 0 0 []))]⟩
theorem Ez6 (k n : Nat) (v1 : Int) (xs2 : List K8) : Ar7 k (n + 1) v1 xs2 = Cz8 k (Ar7 k n) v1 xs2 := by kernel_rfl
theorem Dj3 (k : Nat) : ∀ n : Nat, Ar7 k n = A88 k n
 | 0 => (by funext v1 xs2; rfl)
 | n + 1 => by
  obtain h0 := Dj3 k n
  exact (by funext v1 xs2; rw [Ez6, h0] <;> rfl)
theorem Fp3 (k : Nat) : C5 (A36 k) Bq2 k 118 [] ms0 = De8 k (Ar7 k k) := by kernel_rfl
theorem Fp4 (k : Nat) : C5 (A36 k) Bq2 k 118 [] ms0 = Bt8 k := by rw [Fp3, show Ar7 k k = A88 k k from (Dj3 k k)] <;> rfl
noncomputable def C48 (k : Nat) : Spec := .body (Bt8 k) (E5 [M6] [.o, .o, .o, .o, .o])
noncomputable def Bq3 (k : Nat) : Cfg := { eqs := [], tab := [(3, (.int .i64)), (5, (.int .u8))], spec := [], mspec := [], inl := [(138, Tryz.f138)], keep := [], join := [], hold := [], ptrs := [], maps := [], fuel := k }
noncomputable def Dm7 : VV → Ms → Option Int := F6 [(.int .u8)] []
theorem Ed9 (k : Nat) (a0 : Int) : C5 (Bq3 k) Dm7 k 138 [B5 (.int .i64) a0] ms0 = Ab4 k a0 := by kernel_rfl
noncomputable def Cg4 (k : Nat) : Spec := .imm (.int .i64) fun (a0 : Int) => .body (Ab4 k a0) (E5 [(.int .u8)] [])
noncomputable def A37 (k : Nat) : Cfg := { eqs := [], tab := [(9, .str), (22, (.slice 5 (.int .u8)))], spec := [(138, Cg4 k)], mspec := [], inl := [(100, Tryz.f100)], keep := [(10000001005, [0, 3, 4])], join := [], hold := [], ptrs := [], maps := [], fuel := k }
noncomputable def Bq4 : VV → Ms → Option ByteArray := F6 [.str] []
noncomputable def Ar8 (k n : Nat) (a0 : Int) (v1 : Bool) (v2 : ByteArray) : Option ByteArray := P3 (A37 k) Bq4 n true 10000001005 (cd [1, 1, 1, 1, 0, 0, 0] (bo Tryz.f100)) [.b 0, .s (cd [1, 1, 1, 1, 1] (bo Tryz.f100)), .fn Tryz.f100] ⟨⟨(G3 30 0 [(0, one (.int .i64 a0)), (3, one (.bool v1)), (4, one (.str v2))]), []⟩, 10000001000, 1, [(0, (G3 0 0 []))]⟩
theorem Ez7 (k n : Nat) (a0 : Int) (v1 : Bool) (v2 : ByteArray) : Ar8 k (n + 1) a0 v1 v2 = Bz6 k (Ar8 k n) a0 v1 v2 := by kernel_rfl
theorem Dj4 (k : Nat) : ∀ n : Nat, Ar8 k n = m8 k n
 | 0 => (by funext a0 v1 v2; rfl)
 | n + 1 => by
  obtain h0 := Dj4 k n
  exact (by funext a0 v1 v2; rw [Ez7, h0] <;> rfl)
theorem Fp5 (k : Nat) (a0 : Int) : C5 (A37 k) Bq4 k 100 [B5 (.int .i64) a0] ms0 = De9 k (Ar8 k k) a0 := by kernel_rfl
theorem Fp6 (k : Nat) (a0 : Int) : C5 (A37 k) Bq4 k 100 [B5 (.int .i64) a0] ms0 = W9 k a0 := by rw [Fp5, show Ar8 k k = m8 k k from (Dj4 k k)] <;> rfl
noncomputable def Ba6 (k : Nat) : Spec := .imm (.int .i64) fun (a0 : Int) => .body (W9 k a0) (E5 [.str] [])
noncomputable def B47 (k : Nat) : Cfg := { eqs := [], tab := [(162, A6)], spec := [(193, B43 k)], mspec := [], inl := [(172, Tryz.f172)], keep := [], join := [], hold := [], ptrs := [], maps := [], fuel := k }
noncomputable def D21 : VV → Ms → Option Bool := F6 [.bool] []
theorem Ez8 (k : Nat) (a0 : A0) : C5 (B47 k) D21 k 172 [B5 A6 a0] ms0 = Aw2 k a0 := by kernel_rfl
noncomputable def Cr0 (k : Nat) : Spec := .imm A6 fun (a0 : A0) => .body (Aw2 k a0) (E5 [.bool] [])
noncomputable def Bq5 (k : Nat) : Cfg := { eqs := [], tab := [(3, (.int .i64)), (49, (.slice 3 (.int .i64))), (162, A6), (169, Y0)], spec := [(55, H7 k), (152, Af8 k), (170, B32 k), (172, Cr0 k)], mspec := [], inl := [(154, Tryz.f154)], keep := [], join := [], hold := [], ptrs := [], maps := [], fuel := k }
noncomputable def Dm8 : VV → Ms → Option Bool := F6 [.bool] []
theorem Ee0 (k : Nat) (a0 : D2) : C5 (Bq5 k) Dm8 k 154 [B5 Y0 a0] ms0 = Am2 k a0 := by kernel_rfl
noncomputable def Cg5 (k : Nat) : Spec := .imm Y0 fun (a0 : D2) => .body (Am2 k a0) (E5 [.bool] [])
noncomputable def Cg6 (k : Nat) : Cfg := { eqs := [], tab := [(49, (.slice 3 (.int .i64))), (162, A6)], spec := [], mspec := [], inl := [(219, Tryz.f219)], keep := [], join := [], hold := [], ptrs := [], maps := [], fuel := k }
noncomputable def Ee1 : VV → Ms → Option A0 := F6 [A6] [.o, .o]
theorem Fp7 (k : Nat) (a0 : A0) : C5 (Cg6 k) Ee1 k 219 [B5 A6 a0] ms0 = Aw3 k a0 := by kernel_rfl
noncomputable def B48 (k : Nat) : Spec := .imm A6 fun (a0 : A0) => .body (Aw3 k a0) (E5 [A6] [.o, .o])
noncomputable def q9 (k : Nat) : Cfg := { eqs := [], tab := [(107, (.slice 162 A6)), (162, A6)], spec := [(219, B48 k)], mspec := [], inl := [(196, Tryz.f196)], keep := [(19600001003, [0, 3, 4])], join := [], hold := [], ptrs := [], maps := [], fuel := k }
noncomputable def Ar9 : VV → Ms → Option (List A0) := F6 [(.slice 162 A6)] [.o]
noncomputable def j0 (k n : Nat) (a0 : List A0) (v1 : Int) (xs2 : List A0) : Option (List A0) := P3 (q9 k) Ar9 n true 19600001003 (cd [1, 1, 0, 1, 0, 0] (bo Tryz.f196)) [.b 0, .s (cd [1, 1, 1] (bo Tryz.f196)), .fn Tryz.f196] ⟨⟨(G3 21 0 [(0, one (.slc 162 A6 a0)), (3, one (.row 9000000 none none)), (4, one (.int .i64 v1))]), [(9000000, .row 162 A6 xs2 true)]⟩, 19600001000, 1, [(0, (G3 0 0 []))]⟩
theorem Db0 (k n : Nat) (a0 : List A0) (v1 : Int) (xs2 : List A0) : j0 k (n + 1) a0 v1 xs2 = Aw4 k (j0 k n) a0 v1 xs2 := by kernel_rfl
theorem B79 (k : Nat) : ∀ n : Nat, j0 k n = P9 k n
 | 0 => (by funext a0 v1 xs2; rfl)
 | n + 1 => by
  obtain h0 := B79 k n
  exact (by funext a0 v1 xs2; rw [Db0, h0] <;> rfl)
theorem Dm9 (k : Nat) (a0 : List A0) : C5 (q9 k) Ar9 k 196 [B5 (.slice 162 A6) a0] ms0 = B70 k (j0 k k) a0 := by kernel_rfl
theorem Dn0 (k : Nat) (a0 : List A0) : C5 (q9 k) Ar9 k 196 [B5 (.slice 162 A6) a0] ms0 = Ah3 k a0 := by rw [Dm9, show j0 k k = P9 k k from (B79 k k)] <;> rfl
noncomputable def Bw1 (k : Nat) : Spec := .imm (.slice 162 A6) fun (a0 : List A0) => .body (Ah3 k a0) (E5 [(.slice 162 A6)] [.o])
noncomputable def A38 (k : Nat) : Cfg := { eqs := [], tab := [(107, (.slice 162 A6)), (108, (.slice 215 (.slice 260 B7))), (109, (.slice 4 .bool)), (111, E7), (215, (.slice 260 B7))], spec := [(196, Bw1 k)], mspec := [], inl := [(173, Tryz.f173)], keep := [(17300001003, [1, 2, 3, 4])], join := [], hold := [(17300001003, [(3, [0, 1], 215, (.slice 260 B7), false, false)])], ptrs := [], maps := [], fuel := k }
noncomputable def Bq6 : VV → Ms → Option A8 := F6 [E7] [.o, .o, .o]
noncomputable def As0 (k n : Nat) (v1 : Int) (a0 : A8) (r1 : List A0) (xs2 : List (List A1)) : Option A8 := P3 (A38 k) Bq6 n true 17300001003 (cd [1, 1, 0, 1, 0, 0] (bo Tryz.f173)) [.b 0, .s (cd [1, 1, 1] (bo Tryz.f173)), .fn Tryz.f173] ⟨⟨(G3 33 0 [(1, one (.ptr 9000000 0)), (2, one (.ptr 9000001 0)), (3, one (.ptr 9000002 0)), (4, one (.int .i64 v1))]), [(9000000, .box [.slc 162 A6 a0.1, .slc 215 (.slice 260 B7) a0.2.1, .slc 4 .bool a0.2.2.1]), (9000001, .box [.nilS, .nilS, .nilS]), (9000002, .box [.row 9000003 none none, .row 9000004 none none, .row 9000005 none none]), (9000003, .row 162 A6 r1 true), (9000004, .row 215 (.slice 260 B7) xs2 true), (9000005, .row 4 .bool (([] : List Bool) ++ a0.2.2.1) true)]⟩, 17300001000, 1, [(0, (G3 0 0 []))]⟩
theorem Ez9 (k n : Nat) (v1 : Int) (a0 : A8) (r1 : List A0) (xs2 : List (List A1)) : As0 k (n + 1) v1 a0 r1 xs2 = Bz7 k (As0 k n) v1 a0 r1 xs2 := by kernel_rfl
theorem Dj5 (k : Nat) : ∀ n : Nat, As0 k n = m9 k n
 | 0 => (by funext v1 a0 r1 xs2; rfl)
 | n + 1 => by
  obtain h0 := Dj5 k n
  exact (by funext v1 a0 r1 xs2; rw [Ez9, h0] <;> rfl)
theorem Fp8 (k : Nat) (a0 : A8) : C5 (A38 k) Bq6 k 173 [B5 E7 a0] ms0 = Df0 k (As0 k k) a0 := by kernel_rfl
theorem Fp9 (k : Nat) (a0 : A8) : C5 (A38 k) Bq6 k 173 [B5 E7 a0] ms0 = Bc0 k a0 := by rw [Fp8, show As0 k k = m9 k k from (Dj5 k k)] <;> rfl
noncomputable def B49 (k : Nat) : Spec := .imm E7 fun (a0 : A8) => .body (Bc0 k a0) (E5 [E7] [.o, .o, .o])
noncomputable def A39 (k : Nat) : Cfg := { eqs := [], tab := [(49, (.slice 3 (.int .i64))), (106, (.slice 158 Q0)), (111, E7), (112, (.slice 164 An3)), (114, M6), (164, An3)], spec := [(173, B49 k)], mspec := [], inl := [(155, Tryz.f155)], keep := [(15500001003, [1, 2, 3, 4])], join := [], hold := [(15500001003, [(3, [0, 4], 164, An3, false, false)])], ptrs := [], maps := [], fuel := k }
noncomputable def Bq7 : VV → Ms → Option C2 := F6 [M6] [.o, .o, .o, .o, .o]
noncomputable def As1 (k n : Nat) (v1 : Int) (a0 : C2) (r1 : A8) (xs2 : List K8) : Option C2 := P3 (A39 k) Bq7 n true 15500001003 (cd [1, 1, 0, 1, 0, 0] (bo Tryz.f155)) [.b 0, .s (cd [1, 1, 1] (bo Tryz.f155)), .fn Tryz.f155] ⟨⟨(G3 38 0 [(1, one (.ptr 9000000 0)), (2, one (.ptr 9000001 0)), (3, one (.ptr 9000002 0)), (4, one (.int .i64 v1))]), [(9000000, .box [.slc 158 Q0 a0.1, .slc 162 A6 a0.2.1.1, .slc 215 (.slice 260 B7) a0.2.1.2.1, .slc 4 .bool a0.2.1.2.2.1, .slc 164 An3 a0.2.2.1]), (9000001, .box [.nilS, .nilS, .nilS, .nilS, .nilS]), (9000002, .box [.row 9000003 none none, .row 9000004 none none, .row 9000005 none none, .row 9000006 none none, .row 9000007 none none]), (9000003, .row 158 Q0 (([] : List D9) ++ a0.1) true), (9000004, .row 162 A6 r1.1 true), (9000005, .row 215 (.slice 260 B7) r1.2.1 true), (9000006, .row 4 .bool r1.2.2.1 true), (9000007, .row 164 An3 xs2 true)]⟩, 15500001000, 1, [(0, (G3 0 0 []))]⟩
theorem E00 (k n : Nat) (v1 : Int) (a0 : C2) (r1 : A8) (xs2 : List K8) : As1 k (n + 1) v1 a0 r1 xs2 = Bz8 k (As1 k n) v1 a0 r1 xs2 := by kernel_rfl
theorem Dj6 (k : Nat) : ∀ n : Nat, As1 k n = n6 k n
 | 0 => (by funext v1 a0 r1 xs2; rfl)
 | n + 1 => by
  obtain h0 := Dj6 k n
  exact (by funext v1 a0 r1 xs2; rw [E00, h0] <;> rfl)
theorem Fq0 (k : Nat) (a0 : C2) : C5 (A39 k) Bq7 k 155 [B5 M6 a0] ms0 = Df1 k (As1 k k) a0 := by kernel_rfl
theorem Fq1 (k : Nat) (a0 : C2) : C5 (A39 k) Bq7 k 155 [B5 M6 a0] ms0 = Am3 k a0 := by rw [Fq0, show As1 k k = n6 k k from (Dj6 k k)] <;> rfl
noncomputable def C49 (k : Nat) : Spec := .imm M6 fun (a0 : C2) => .body (Am3 k a0) (E5 [M6] [.o, .o, .o, .o, .o])
noncomputable def B50 (k : Nat) : Cfg := { eqs := [], tab := [(107, (.slice 162 A6)), (108, (.slice 215 (.slice 260 B7))), (109, (.slice 4 .bool)), (111, E7), (162, A6)], spec := [(168, Cf9 k), (173, B49 k)], mspec := [], inl := [(198, Tryz.f198)], keep := [], join := [], hold := [], ptrs := [], maps := [], fuel := k }
noncomputable def D22 : VV → Ms → Option (A8 × Bool) := F6 [E7, .bool] [.o, .o, .o]
theorem E01 (k : Nat) (a0 : A8) (a1 : A0) : C5 (B50 k) D22 k 198 [B5 E7 a0, B5 A6 a1] ms0 = Aw5 k a0 a1 := by kernel_rfl
noncomputable def Cr1 (k : Nat) : Spec := .imm E7 fun (a0 : A8) => .imm A6 fun (a1 : A0) => .body (Aw5 k a0 a1) (E5 [E7, .bool] [.o, .o, .o])
noncomputable def Ay4 (k : Nat) : Cfg := { eqs := [], tab := [(3, (.int .i64)), (49, (.slice 3 (.int .i64))), (107, (.slice 162 A6)), (111, E7), (162, A6)], spec := [(201, Bh2 k), (202, Cf6 k)], mspec := [], inl := [(176, Tryz.f176)], keep := [(17600001003, [1, 3, 4]), (17600001007, [1, 3, 4, 5, 6])], join := [], hold := [], ptrs := [], maps := [], fuel := k }
noncomputable def Ba7 : VV → Ms → Option (List Int) := F6 [(.slice 3 (.int .i64))] [.o]
noncomputable def A40 (k n : Nat) (v1 : Int) (a0 : A8) (xs2 : List Int) : Option (List Int) := P3 (Ay4 k) Ba7 n true 17600001003 (cd [1, 1, 0, 1, 0, 0] (bo Tryz.f176)) [.b 0, .s (cd [1, 1, 1] (bo Tryz.f176)), .fn Tryz.f176] ⟨⟨(G3 49 0 [(1, one (.ptr 9000000 0)), (3, one (.row 9000001 none none)), (4, one (.int .i64 v1))]), [(9000000, .box [.slc 162 A6 a0.1, .slc 215 (.slice 260 B7) a0.2.1, .slc 4 .bool a0.2.2.1]), (9000001, .row 3 (.int .i64) xs2 true)]⟩, 17600001000, 1, [(0, (G3 0 0 []))]⟩
noncomputable def Bm9 (k n : Nat) (v1 : Int) (v3 : Bool) (v4 : Int) (a0 : A8) (xs2 : List Int) : Option (List Int) := P3 (Ay4 k) Ba7 n true 17600001007 (cd [1, 1, 0, 1, 0, 0, 1, 0, 0, 1, 0, 1, 0, 0] (bo Tryz.f176)) [.b 2, .s (cd [1, 1, 0, 1, 0, 0, 1, 0, 0, 1, 1] (bo Tryz.f176)), .b 1, .s (cd [1, 1, 0, 1, 0, 0, 1, 1] (bo Tryz.f176)), .l 17600001003 (cd [1, 1, 0, 1, 0, 0] (bo Tryz.f176)), .b 0, .s (cd [1, 1, 1] (bo Tryz.f176)), .fn Tryz.f176] ⟨⟨(G3 49 0 [(1, one (.ptr 9000000 0)), (3, one (.row 9000001 none none)), (4, one (.int .i64 v1)), (5, one (.bool v3)), (6, one (.int .i64 v4))]), [(9000000, .box [.slc 162 A6 a0.1, .slc 215 (.slice 260 B7) a0.2.1, .slc 4 .bool a0.2.2.1]), (9000001, .row 3 (.int .i64) xs2 true)]⟩, 17600001000, 1, [(0, (G3 0 0 []))]⟩
theorem Fq2 (k n : Nat) (v1 : Int) (a0 : A8) (xs2 : List Int) : A40 k (n + 1) v1 a0 xs2 = Bk9 k (Bm9 k n) v1 a0 xs2 := by kernel_rfl
theorem Fq3 (k n : Nat) (v1 : Int) (v3 : Bool) (v4 : Int) (a0 : A8) (xs2 : List Int) : Bm9 k (n + 1) v1 v3 v4 a0 xs2 = Bl0 k (Bm9 k n) (A40 k n) v1 v3 v4 a0 xs2 := by kernel_rfl
theorem D23 (k : Nat) : ∀ n : Nat, A40 k n = Ab5 k n ∧ Bm9 k n = A13 k n
 | 0 => ⟨(by funext v1 a0 xs2; rfl), (by funext v1 v3 v4 a0 xs2; rfl)⟩
 | n + 1 => by
  obtain ⟨h0, h1⟩ := D23 k n
  exact ⟨(by funext v1 a0 xs2; rw [Fq2, h1] <;> rfl), (by funext v1 v3 v4 a0 xs2; rw [Fq3, h1, h0] <;> rfl)⟩
theorem Gd9 (k : Nat) (a0 : A8) : C5 (Ay4 k) Ba7 k 176 [B5 E7 a0] ms0 = Dv5 k (A40 k k) a0 := by kernel_rfl
theorem Ge0 (k : Nat) (a0 : A8) : C5 (Ay4 k) Ba7 k 176 [B5 E7 a0] ms0 = Ap0 k a0 := by rw [Gd9, show A40 k k = Ab5 k k from (D23 k k).1] <;> rfl
noncomputable def Bn0 (k : Nat) : Spec := .imm E7 fun (a0 : A8) => .body (Ap0 k a0) (E5 [(.slice 3 (.int .i64))] [.o])
noncomputable def Cg7 (k : Nat) : Cfg := { eqs := [], tab := [(111, E7)], spec := [(176, Bn0 k), (178, Ar3 k)], mspec := [], inl := [(221, Tryz.f221)], keep := [], join := [], hold := [], ptrs := [], maps := [], fuel := k }
noncomputable def Ee2 : VV → Ms → Option (List A1) := F6 [(.slice 260 B7)] [.o]
theorem Fq4 (k : Nat) (a0 : A8) : C5 (Cg7 k) Ee2 k 221 [B5 E7 a0] ms0 = Bt9 k a0 := by kernel_rfl
noncomputable def C50 (k : Nat) : Spec := .imm E7 fun (a0 : A8) => .body (Bt9 k a0) (E5 [(.slice 260 B7)] [.o])
noncomputable def A41 (k : Nat) : Cfg := { eqs := [], tab := [(49, (.slice 3 (.int .i64))), (107, (.slice 162 A6)), (111, E7)], spec := [(208, w7 k), (221, C50 k)], mspec := [], inl := [(199, Tryz.f199)], keep := [(19900001004, [1, 3, 4, 5])], join := [], hold := [], ptrs := [], maps := [], fuel := k }
noncomputable def Bq8 : VV → Ms → Option (List Int) := F6 [(.slice 3 (.int .i64))] [.o]
noncomputable def As2 (k n : Nat) (v1 : Int) (a0 : A8) (xs2 : List Int) (r1 : List A1) : Option (List Int) := P3 (A41 k) Bq8 n true 19900001004 (cd [1, 1, 1, 0, 1, 0, 0] (bo Tryz.f199)) [.b 0, .s (cd [1, 1, 1, 1] (bo Tryz.f199)), .fn Tryz.f199] ⟨⟨(G3 24 0 [(1, one (.ptr 9000000 0)), (3, one (.row 9000001 none none)), (4, one (.row 9000002 none none)), (5, one (.int .i64 v1))]), [(9000000, .box [.slc 162 A6 a0.1, .slc 215 (.slice 260 B7) a0.2.1, .slc 4 .bool a0.2.2.1]), (9000001, .row 3 (.int .i64) xs2 true), (9000002, .row 260 B7 r1 true)]⟩, 19900001000, 1, [(0, (G3 0 0 []))]⟩
theorem E02 (k n : Nat) (v1 : Int) (a0 : A8) (xs2 : List Int) (r1 : List A1) : As2 k (n + 1) v1 a0 xs2 r1 = Bz9 k (As2 k n) v1 a0 xs2 r1 := by kernel_rfl
theorem Dj7 (k : Nat) : ∀ n : Nat, As2 k n = n7 k n
 | 0 => (by funext v1 a0 xs2 r1; rfl)
 | n + 1 => by
  obtain h0 := Dj7 k n
  exact (by funext v1 a0 xs2 r1; rw [E02, h0] <;> rfl)
theorem Fq5 (k : Nat) (a0 : A8) : C5 (A41 k) Bq8 k 199 [B5 E7 a0] ms0 = Df2 k (As2 k k) a0 := by kernel_rfl
theorem Fq6 (k : Nat) (a0 : A8) : C5 (A41 k) Bq8 k 199 [B5 E7 a0] ms0 = Bu0 k a0 := by rw [Fq5, show As2 k k = n7 k k from (Dj7 k k)] <;> rfl
noncomputable def C51 (k : Nat) : Spec := .imm E7 fun (a0 : A8) => .body (Bu0 k a0) (E5 [(.slice 3 (.int .i64))] [.o])
noncomputable def Db1 (k : Nat) : Cfg := { eqs := [], tab := [(3, (.int .i64)), (49, (.slice 3 (.int .i64))), (111, E7), (162, A6)], spec := [(55, H7 k), (176, Bn0 k), (177, A97 k), (219, B48 k)], mspec := [], inl := [(220, Tryz.f220)], keep := [], join := [], hold := [], ptrs := [], maps := [], fuel := k }
noncomputable def Fq7 : VV → Ms → Option A0 := F6 [A6] [.o, .o]
theorem G37 (k : Nat) (a0 : A8) (a1 : Int) (a2 : A0) : C5 (Db1 k) Fq7 k 220 [B5 E7 a0, B5 (.int .i64) a1, B5 A6 a2] ms0 = Cz9 k a0 a1 a2 := by kernel_rfl
noncomputable def D24 (k : Nat) : Spec := .imm E7 fun (a0 : A8) => .imm (.int .i64) fun (a1 : Int) => .imm A6 fun (a2 : A0) => .body (Cz9 k a0 a1 a2) (E5 [A6] [.o, .o])
noncomputable def j9 (k : Nat) : Cfg := { eqs := [], tab := [(3, (.int .i64)), (4, .bool), (9, .str), (49, (.slice 3 (.int .i64))), (106, (.slice 158 Q0)), (109, (.slice 4 .bool)), (111, E7), (112, (.slice 164 An3)), (114, M6), (158, Q0), (162, A6), (164, An3), (169, Y0)], spec := [(55, H7 k), (100, Ba6 k), (115, Cg1 k), (154, Cg5 k), (155, C49 k), (198, Cr1 k), (199, C51 k), (220, D24 k)], mspec := [], inl := [(119, Tryz.f119), (156, Tryz.f156), (174, Tryz.f174), (197, Tryz.f197)], keep := [(11900001008, [1, 6, 9, 11, 12]), (11900001015, [1, 5, 6, 9, 10, 13]), (17400003023, [11, 12, 13]), (19700004009, [0, 7, 10])], join := [], hold := [(11900001015, [(9, [0, 1], 162, A6, true, false), (9, [0, 2], 215, (.slice 260 B7), true, false), (9, [0, 3], 4, .bool, true, false)])], ptrs := [], maps := [], fuel := k }
noncomputable def w9 : VV → Ms → Option (C2 × ByteArray × Bool) := F6 [M6, .str, .bool] [.o, .o, .o, .o, .o]
noncomputable def As3 (k n : Nat) (a1 : Int) (v1 : Int) (xs2 : List D9) (r4 : C2) : Option (C2 × ByteArray × Bool) := P3 (j9 k) w9 n true 11900001008 (cd [1, 1, 1, 1, 0, 1, 0, 1, 0, 1, 0, 0] (bo Tryz.f119)) [.b 0, .s (cd [1, 1, 1, 1, 0, 1, 0, 1, 1] (bo Tryz.f119)), .s (cd [1, 1, 1, 1, 1] (bo Tryz.f119)), .fn Tryz.f119] ⟨⟨(G3 96 0 [(1, one (.int .i64 a1)), (6, one (.ptr 9000000 0)), (9, one (.ptr 9000001 0)), (11, one (.row 9000002 none none)), (12, one (.int .i64 v1))]), [(9000000, .box [.nilS, .nilS, .nilS, .nilS, .nilS]), (9000001, .box [.row 9000003 none none, .row 9000004 none none, .row 9000005 none none, .row 9000006 none none, .row 9000007 none none]), (9000002, .row 158 Q0 xs2 true), (9000003, .row 158 Q0 r4.1 true), (9000004, .row 162 A6 r4.2.1.1 true), (9000005, .row 215 (.slice 260 B7) r4.2.1.2.1 true), (9000006, .row 4 .bool r4.2.1.2.2.1 true), (9000007, .row 164 An3 r4.2.2.1 true)]⟩, 11900001000, 1, [(0, (G3 0 0 []))]⟩
noncomputable def o9 (k n : Nat) (a1 : Int) (v3 : ByteArray) (v4 : Int) (a2 : D2) (xs5 : List D9) (xs6 : List A0) (xs7 : List (List A1)) (xs8 : List Bool) (xs9 : List K8) : Option (C2 × ByteArray × Bool) := P3 (j9 k) w9 n true 11900001015 (cd [1, 1, 1, 1, 0, 1, 1, 1, 0, 0] (bo Tryz.f119)) [.b 2, .s (cd [1, 1, 1, 1, 1] (bo Tryz.f119)), .fn Tryz.f119] ⟨⟨(G3 96 0 [(1, one (.int .i64 a1)), (5, one (.ptr 9000000 0)), (6, one (.ptr 9000001 0)), (9, one (.ptr 9000002 0)), (10, one (.str v3)), (13, one (.int .i64 v4))]), [(9000000, .box [.int .i64 a2.1, .int .i64 a2.2.1, .int .i64 a2.2.2.1, .int .i64 a2.2.2.2.1.1, .int .i64 a2.2.2.2.1.2.1, .int .i64 a2.2.2.2.1.2.2.1, .int .i64 a2.2.2.2.1.2.2.2.1, .int .i64 a2.2.2.2.1.2.2.2.2.1, .slc 3 (.int .i64) a2.2.2.2.1.2.2.2.2.2.1, .str a2.2.2.2.1.2.2.2.2.2.2.1, .slc 3 (.int .i64) a2.2.2.2.1.2.2.2.2.2.2.2.1, .int .i64 a2.2.2.2.1.2.2.2.2.2.2.2.2.1, .int .i64 a2.2.2.2.2.1, .int .i64 a2.2.2.2.2.2.1]), (9000001, .box [.nilS, .nilS, .nilS, .nilS, .nilS]), (9000002, .box [.row 9000003 none none, .row 9000004 none none, .row 9000005 none none, .row 9000006 none none, .row 9000007 none none]), (9000003, .row 158 Q0 xs5 true), (9000004, .row 162 A6 xs6 false), (9000005, .row 215 (.slice 260 B7) xs7 false), (9000006, .row 4 .bool xs8 false), (9000007, .row 164 An3 xs9 true)]⟩, 11900001000, 1, [(0, (G3 0 0 []))]⟩
noncomputable def Ba8 (k n : Nat) (v10 : Int) (r8 : A0) (a2 : D2) (xs5 : List D9) (v4 : Int) (r9 : A8 × Bool) (xs11 : List K8) (a1 : Int) (v3 : ByteArray) : Option (C2 × ByteArray × Bool) := P3 (j9 k) w9 n true 19700004009 (cd [1, 1, 1, 1, 1, 1, 0, 1, 0, 0] (bo Tryz.f197)) [.b 0, .s (cd [1, 1, 1, 1, 1, 1, 1] (bo Tryz.f197)), .fn Tryz.f197, .op (rg (cd [1, 0, 1, 0, 1, 0, 0] (bo Tryz.f174))) ((rg (cd [1, 0, 1, 0, 1, 0, 0] (bo Tryz.f174))).drop 5) 5 (some 22), .s (cd [1, 0, 1, 0, 1, 0, 1] (bo Tryz.f174)), .b 0, .s (cd [1, 1] (bo Tryz.f174)), .fn Tryz.f174, .op (rg (cd [1, 1, 1, 0] (bo Tryz.f156))) ((rg (cd [1, 1, 1, 0] (bo Tryz.f156))).drop 4) 4 (some 47), .s (cd [1, 1, 1, 1] (bo Tryz.f156)), .fn Tryz.f156, .op (rg (cd [1, 1, 1, 1, 0, 1, 1, 1, 0, 0, 1, 0, 0, 1, 0, 0] (bo Tryz.f119))) ((rg (cd [1, 1, 1, 1, 0, 1, 1, 1, 0, 0, 1, 0, 0, 1, 0, 0] (bo Tryz.f119))).drop 4) 4 (some 85), .s (cd [1, 1, 1, 1, 0, 1, 1, 1, 0, 0, 1, 0, 0, 1, 0, 1] (bo Tryz.f119)), .b 3, .s (cd [1, 1, 1, 1, 0, 1, 1, 1, 0, 0, 1, 1] (bo Tryz.f119)), .l 11900001015 (cd [1, 1, 1, 1, 0, 1, 1, 1, 0, 0] (bo Tryz.f119)), .b 2, .s (cd [1, 1, 1, 1, 1] (bo Tryz.f119)), .fn Tryz.f119] ⟨⟨(G3 76 0 [(0, one (.ptr 9000000 0)), (7, one (.ptr 9000001 0)), (10, one (.int .i64 v10))]), [(9000000, .box [.row 9000005 none none, .row 9000008 none none, .row 9000009 none none, .row 9000010 none none, .row 9000011 none none]), (9000001, .box [.int .i64 r8.1, .int .i64 r8.2.1, .int .i64 r8.2.2.1, .int .i64 r8.2.2.2.1, .int .i64 r8.2.2.2.2.1, .row 9000012 none none, .str r8.2.2.2.2.2.2.1, .row 9000013 none none, .int .i64 r8.2.2.2.2.2.2.2.2.1]), (9000002, .box [.int .i64 a2.1, .int .i64 a2.2.1, .int .i64 a2.2.2.1, .int .i64 a2.2.2.2.1.1, .int .i64 a2.2.2.2.1.2.1, .int .i64 a2.2.2.2.1.2.2.1, .int .i64 a2.2.2.2.1.2.2.2.1, .int .i64 a2.2.2.2.1.2.2.2.2.1, .slc 3 (.int .i64) a2.2.2.2.1.2.2.2.2.2.1, .str a2.2.2.2.1.2.2.2.2.2.2.1, .slc 3 (.int .i64) a2.2.2.2.1.2.2.2.2.2.2.2.1, .int .i64 a2.2.2.2.1.2.2.2.2.2.2.2.2.1, .int .i64 a2.2.2.2.2.1, .int .i64 a2.2.2.2.2.2.1]), (9000003, .box [.int .i64 a2.1, .int .i64 a2.2.1, .int .i64 a2.2.2.1, .int .i64 a2.2.2.2.1.1, .int .i64 a2.2.2.2.1.2.1, .int .i64 a2.2.2.2.1.2.2.1, .int .i64 a2.2.2.2.1.2.2.2.1, .int .i64 a2.2.2.2.1.2.2.2.2.1, .slc 3 (.int .i64) a2.2.2.2.1.2.2.2.2.2.1, .str a2.2.2.2.1.2.2.2.2.2.2.1, .slc 3 (.int .i64) a2.2.2.2.1.2.2.2.2.2.2.2.1, .int .i64 a2.2.2.2.1.2.2.2.2.2.2.2.2.1, .int .i64 a2.2.2.2.2.1, .int .i64 a2.2.2.2.2.2.1]), (9000004, .box [.int .i64 (rd A9 xs5 v4.toNat).1, .int .i64 (rd A9 xs5 v4.toNat).2.1, .str (rd A9 xs5 v4.toNat).2.2.1]), (9000005, .row 158 Q0 xs5 true), (9000006, .box [.int .i64 a2.1, .int .i64 a2.2.1, .int .i64 a2.2.2.1, .int .i64 a2.2.2.2.1.1, .int .i64 a2.2.2.2.1.2.1, .int .i64 a2.2.2.2.1.2.2.1, .int .i64 a2.2.2.2.1.2.2.2.1, .int .i64 a2.2.2.2.1.2.2.2.2.1, .slc 3 (.int .i64) a2.2.2.2.1.2.2.2.2.2.1, .str a2.2.2.2.1.2.2.2.2.2.2.1, .slc 3 (.int .i64) a2.2.2.2.1.2.2.2.2.2.2.2.1, .int .i64 a2.2.2.2.1.2.2.2.2.2.2.2.2.1, .int .i64 a2.2.2.2.2.1, .int .i64 a2.2.2.2.2.2.1]), (9000007, .box [.nilS, .nilS, .nilS, .nilS, .nilS]), (9000008, .row 162 A6 r9.1.1 true), (9000009, .row 215 (.slice 260 B7) r9.1.2.1 true), (9000010, .row 4 .bool r9.1.2.2.1 true), (9000011, .row 164 An3 xs11 true), (9000012, .row 3 (.int .i64) r8.2.2.2.2.2.1 false), (9000013, .row 3 (.int .i64) r8.2.2.2.2.2.2.2.1 false)]⟩, 19700004000, 4, [(17400003000, (G3 113 0 [(0, one (.ptr 9000000 0)), (1, one (.int .i64 a1)), (2, .v ⟨true, [.int .i64 a2.1, .int .i64 a2.2.1, .int .i64 a2.2.2.1, .int .i64 a2.2.2.2.1.1, .int .i64 a2.2.2.2.1.2.1, .int .i64 a2.2.2.2.1.2.2.1, .int .i64 a2.2.2.2.1.2.2.2.1, .int .i64 a2.2.2.2.1.2.2.2.2.1, .slc 3 (.int .i64) a2.2.2.2.1.2.2.2.2.2.1, .str a2.2.2.2.1.2.2.2.2.2.2.1, .slc 3 (.int .i64) a2.2.2.2.1.2.2.2.2.2.2.2.1, .int .i64 a2.2.2.2.1.2.2.2.2.2.2.2.2.1, .int .i64 a2.2.2.2.2.1, .int .i64 a2.2.2.2.2.2.1]⟩), (5, one (.ptr 9000002 0)), (6, one (.str (⟨#[]⟩ : ByteArray))), (14, one (.ptr 9000002 0)), (15, one (.int .i64 a2.1)), (16, one (.bool true)), (17, one (.bool (a2.1 == 2))), (18, one (.ptr 9000000 0)), (19, one (.int .i64 a1)), (20, one (.ptr 9000002 3)), (21, .v ⟨true, [.int .i64 a2.2.2.2.1.1, .int .i64 a2.2.2.2.1.2.1, .int .i64 a2.2.2.2.1.2.2.1, .int .i64 a2.2.2.2.1.2.2.2.1, .int .i64 a2.2.2.2.1.2.2.2.2.1, .slc 3 (.int .i64) a2.2.2.2.1.2.2.2.2.2.1, .str a2.2.2.2.1.2.2.2.2.2.2.1, .slc 3 (.int .i64) a2.2.2.2.1.2.2.2.2.2.2.2.1, .int .i64 a2.2.2.2.1.2.2.2.2.2.2.2.2.1]⟩)])), (15600002000, (G3 61 0 [(0, one (.ptr 9000000 0)), (1, one (.int .i64 v4)), (2, one (.int .i64 a1)), (3, .v ⟨true, [.int .i64 a2.1, .int .i64 a2.2.1, .int .i64 a2.2.2.1, .int .i64 a2.2.2.2.1.1, .int .i64 a2.2.2.2.1.2.1, .int .i64 a2.2.2.2.1.2.2.1, .int .i64 a2.2.2.2.1.2.2.2.1, .int .i64 a2.2.2.2.1.2.2.2.2.1, .slc 3 (.int .i64) a2.2.2.2.1.2.2.2.2.2.1, .str a2.2.2.2.1.2.2.2.2.2.2.1, .slc 3 (.int .i64) a2.2.2.2.1.2.2.2.2.2.2.2.1, .int .i64 a2.2.2.2.1.2.2.2.2.2.2.2.2.1, .int .i64 a2.2.2.2.2.1, .int .i64 a2.2.2.2.2.2.1]⟩), (7, one (.ptr 9000003 0)), (8, one (.str (⟨#[]⟩ : ByteArray))), (9, one (.ptr 9000004 0)), (11, one (.ptr 9000000 0)), (12, one (.ptr 9000000 0)), (13, one (.ptr 9000000 0)), (14, one (.row 9000005 none none)), (15, one (.int .i64 v4)), (16, one (.eptr 9000005 v4.toNat 0)), (17, .v ⟨true, [.int .i64 (rd A9 xs5 v4.toNat).1, .int .i64 (rd A9 xs5 v4.toNat).2.1, .str (rd A9 xs5 v4.toNat).2.2.1]⟩), (18, one (.bool false)), (19, one (.ptr 9000003 2)), (20, one (.int .i64 a2.2.2.1)), (21, one (.ptr 9000004 1)), (22, one (.int .i64 (rd A9 xs5 v4.toNat).2.1)), (23, one (.int .i64 (B4 ((rd A9 xs5 v4.toNat).2.1 + 1)))), (24, one (.bool (decide (a2.2.2.1 > (B4 ((rd A9 xs5 v4.toNat).2.1 + 1)))))), (25, one (.bool false)), (26, one (.ptr 9000003 2)), (27, one (.int .i64 a2.2.2.1)), (28, one (.ptr 9000004 1)), (29, one (.int .i64 (rd A9 xs5 v4.toNat).2.1)), (30, one (.bool (decide (a2.2.2.1 < (rd A9 xs5 v4.toNat).2.1)))), (31, one (.bool false)), (32, one (.ptr 9000003 2)), (33, one (.int .i64 a2.2.2.1)), (34, one (.bool (a2.2.2.1 == 0))), (35, one (.bool (a2.2.2.1 == 0))), (36, one (.bool false)), (37, one (.ptr 9000003 2)), (38, one (.int .i64 a2.2.2.1)), (39, one (.ptr 9000004 1)), (40, one (.int .i64 (rd A9 xs5 v4.toNat).2.1)), (41, one (.bool (a2.2.2.1 == (rd A9 xs5 v4.toNat).2.1))), (44, one (.ptr 9000000 0)), (45, one (.int .i64 a1)), (46, .v ⟨true, [.int .i64 a2.1, .int .i64 a2.2.1, .int .i64 a2.2.2.1, .int .i64 a2.2.2.2.1.1, .int .i64 a2.2.2.2.1.2.1, .int .i64 a2.2.2.2.1.2.2.1, .int .i64 a2.2.2.2.1.2.2.2.1, .int .i64 a2.2.2.2.1.2.2.2.2.1, .slc 3 (.int .i64) a2.2.2.2.1.2.2.2.2.2.1, .str a2.2.2.2.1.2.2.2.2.2.2.1, .slc 3 (.int .i64) a2.2.2.2.1.2.2.2.2.2.2.2.1, .int .i64 a2.2.2.2.1.2.2.2.2.2.2.2.2.1, .int .i64 a2.2.2.2.2.1, .int .i64 a2.2.2.2.2.2.1]⟩)])), (11900001000, (G3 96 0 [(1, one (.int .i64 a1)), (5, one (.ptr 9000006 0)), (6, one (.ptr 9000007 0)), (9, one (.ptr 9000000 0)), (10, one (.str v3)), (13, one (.int .i64 v4)), (66, one (.int .i64 v4)), (67, one (.ptr 9000000 0)), (68, one (.row 9000005 none none)), (69, one (.int .i64 (xs5.length : Int))), (70, one (.bool true)), (73, one (.ptr 9000000 0)), (74, one (.row 9000005 none none)), (75, one (.int .i64 v4)), (76, one (.eptr 9000005 v4.toNat 0)), (77, one (.eptr 9000005 v4.toNat 0)), (78, one (.int .i64 (rd A9 xs5 v4.toNat).1)), (79, one (.ptr 9000006 1)), (80, one (.int .i64 a2.2.1)), (81, one (.bool true)), (82, one (.int .i64 v4)), (83, one (.int .i64 a1)), (84, .v ⟨true, [.int .i64 a2.1, .int .i64 a2.2.1, .int .i64 a2.2.2.1, .int .i64 a2.2.2.2.1.1, .int .i64 a2.2.2.2.1.2.1, .int .i64 a2.2.2.2.1.2.2.1, .int .i64 a2.2.2.2.1.2.2.2.1, .int .i64 a2.2.2.2.1.2.2.2.2.1, .slc 3 (.int .i64) a2.2.2.2.1.2.2.2.2.2.1, .str a2.2.2.2.1.2.2.2.2.2.2.1, .slc 3 (.int .i64) a2.2.2.2.1.2.2.2.2.2.2.2.1, .int .i64 a2.2.2.2.1.2.2.2.2.2.2.2.2.1, .int .i64 a2.2.2.2.2.1, .int .i64 a2.2.2.2.2.2.1]⟩)])), (0, (G3 0 0 []))]⟩
noncomputable def Ba9 (k n : Nat) (v12 : ByteArray) (v13 : Int) (r14 : List Int) (a2 : D2) (xs5 : List D9) (v4 : Int) (xs6 : List A0) (xs7 : List (List A1)) (xs8 : List Bool) (xs9 : List K8) (a1 : Int) (v3 : ByteArray) : Option (C2 × ByteArray × Bool) := P3 (j9 k) w9 n true 17400003023 (cd [1, 1, 1, 1, 0, 1, 0, 0] (bo Tryz.f174)) [.b 1, .s (cd [1, 1, 1, 1, 1] (bo Tryz.f174)), .fn Tryz.f174, .op (rg (cd [1, 1, 1, 0] (bo Tryz.f156))) ((rg (cd [1, 1, 1, 0] (bo Tryz.f156))).drop 4) 4 (some 47), .s (cd [1, 1, 1, 1] (bo Tryz.f156)), .fn Tryz.f156, .op (rg (cd [1, 1, 1, 1, 0, 1, 1, 1, 0, 0, 1, 0, 0, 1, 0, 0] (bo Tryz.f119))) ((rg (cd [1, 1, 1, 1, 0, 1, 1, 1, 0, 0, 1, 0, 0, 1, 0, 0] (bo Tryz.f119))).drop 4) 4 (some 85), .s (cd [1, 1, 1, 1, 0, 1, 1, 1, 0, 0, 1, 0, 0, 1, 0, 1] (bo Tryz.f119)), .b 3, .s (cd [1, 1, 1, 1, 0, 1, 1, 1, 0, 0, 1, 1] (bo Tryz.f119)), .l 11900001015 (cd [1, 1, 1, 1, 0, 1, 1, 1, 0, 0] (bo Tryz.f119)), .b 2, .s (cd [1, 1, 1, 1, 1] (bo Tryz.f119)), .fn Tryz.f119] ⟨⟨(G3 113 0 [(11, one (.str v12)), (12, one (.row 9000000 none none)), (13, one (.int .i64 v13))]), [(9000000, .row 3 (.int .i64) r14 true), (9000001, .box [.row 9000004 none none, .row 9000007 none none, .row 9000008 none none, .row 9000009 none none, .row 9000010 none none]), (9000002, .box [.int .i64 a2.1, .int .i64 a2.2.1, .int .i64 a2.2.2.1, .int .i64 a2.2.2.2.1.1, .int .i64 a2.2.2.2.1.2.1, .int .i64 a2.2.2.2.1.2.2.1, .int .i64 a2.2.2.2.1.2.2.2.1, .int .i64 a2.2.2.2.1.2.2.2.2.1, .slc 3 (.int .i64) a2.2.2.2.1.2.2.2.2.2.1, .str a2.2.2.2.1.2.2.2.2.2.2.1, .slc 3 (.int .i64) a2.2.2.2.1.2.2.2.2.2.2.2.1, .int .i64 a2.2.2.2.1.2.2.2.2.2.2.2.2.1, .int .i64 a2.2.2.2.2.1, .int .i64 a2.2.2.2.2.2.1]), (9000003, .box [.int .i64 (rd A9 xs5 v4.toNat).1, .int .i64 (rd A9 xs5 v4.toNat).2.1, .str (rd A9 xs5 v4.toNat).2.2.1]), (9000004, .row 158 Q0 xs5 true), (9000005, .box [.int .i64 a2.1, .int .i64 a2.2.1, .int .i64 a2.2.2.1, .int .i64 a2.2.2.2.1.1, .int .i64 a2.2.2.2.1.2.1, .int .i64 a2.2.2.2.1.2.2.1, .int .i64 a2.2.2.2.1.2.2.2.1, .int .i64 a2.2.2.2.1.2.2.2.2.1, .slc 3 (.int .i64) a2.2.2.2.1.2.2.2.2.2.1, .str a2.2.2.2.1.2.2.2.2.2.2.1, .slc 3 (.int .i64) a2.2.2.2.1.2.2.2.2.2.2.2.1, .int .i64 a2.2.2.2.1.2.2.2.2.2.2.2.2.1, .int .i64 a2.2.2.2.2.1, .int .i64 a2.2.2.2.2.2.1]), (9000006, .box [.nilS, .nilS, .nilS, .nilS, .nilS]), (9000007, .row 162 A6 xs6 false), (9000008, .row 215 (.slice 260 B7) xs7 false), (9000009, .row 4 .bool xs8 false), (9000010, .row 164 An3 xs9 true)]⟩, 17400003000, 3, [(15600002000, (G3 61 0 [(0, one (.ptr 9000001 0)), (1, one (.int .i64 v4)), (2, one (.int .i64 a1)), (3, .v ⟨true, [.int .i64 a2.1, .int .i64 a2.2.1, .int .i64 a2.2.2.1, .int .i64 a2.2.2.2.1.1, .int .i64 a2.2.2.2.1.2.1, .int .i64 a2.2.2.2.1.2.2.1, .int .i64 a2.2.2.2.1.2.2.2.1, .int .i64 a2.2.2.2.1.2.2.2.2.1, .slc 3 (.int .i64) a2.2.2.2.1.2.2.2.2.2.1, .str a2.2.2.2.1.2.2.2.2.2.2.1, .slc 3 (.int .i64) a2.2.2.2.1.2.2.2.2.2.2.2.1, .int .i64 a2.2.2.2.1.2.2.2.2.2.2.2.2.1, .int .i64 a2.2.2.2.2.1, .int .i64 a2.2.2.2.2.2.1]⟩), (7, one (.ptr 9000002 0)), (8, one (.str (⟨#[]⟩ : ByteArray))), (9, one (.ptr 9000003 0)), (11, one (.ptr 9000001 0)), (12, one (.ptr 9000001 0)), (13, one (.ptr 9000001 0)), (14, one (.row 9000004 none none)), (15, one (.int .i64 v4)), (16, one (.eptr 9000004 v4.toNat 0)), (17, .v ⟨true, [.int .i64 (rd A9 xs5 v4.toNat).1, .int .i64 (rd A9 xs5 v4.toNat).2.1, .str (rd A9 xs5 v4.toNat).2.2.1]⟩), (18, one (.bool false)), (19, one (.ptr 9000002 2)), (20, one (.int .i64 a2.2.2.1)), (21, one (.ptr 9000003 1)), (22, one (.int .i64 (rd A9 xs5 v4.toNat).2.1)), (23, one (.int .i64 (B4 ((rd A9 xs5 v4.toNat).2.1 + 1)))), (24, one (.bool (decide (a2.2.2.1 > (B4 ((rd A9 xs5 v4.toNat).2.1 + 1)))))), (25, one (.bool false)), (26, one (.ptr 9000002 2)), (27, one (.int .i64 a2.2.2.1)), (28, one (.ptr 9000003 1)), (29, one (.int .i64 (rd A9 xs5 v4.toNat).2.1)), (30, one (.bool (decide (a2.2.2.1 < (rd A9 xs5 v4.toNat).2.1)))), (31, one (.bool false)), (32, one (.ptr 9000002 2)), (33, one (.int .i64 a2.2.2.1)), (34, one (.bool (a2.2.2.1 == 0))), (35, one (.bool (a2.2.2.1 == 0))), (36, one (.bool false)), (37, one (.ptr 9000002 2)), (38, one (.int .i64 a2.2.2.1)), (39, one (.ptr 9000003 1)), (40, one (.int .i64 (rd A9 xs5 v4.toNat).2.1)), (41, one (.bool (a2.2.2.1 == (rd A9 xs5 v4.toNat).2.1))), (44, one (.ptr 9000001 0)), (45, one (.int .i64 a1)), (46, .v ⟨true, [.int .i64 a2.1, .int .i64 a2.2.1, .int .i64 a2.2.2.1, .int .i64 a2.2.2.2.1.1, .int .i64 a2.2.2.2.1.2.1, .int .i64 a2.2.2.2.1.2.2.1, .int .i64 a2.2.2.2.1.2.2.2.1, .int .i64 a2.2.2.2.1.2.2.2.2.1, .slc 3 (.int .i64) a2.2.2.2.1.2.2.2.2.2.1, .str a2.2.2.2.1.2.2.2.2.2.2.1, .slc 3 (.int .i64) a2.2.2.2.1.2.2.2.2.2.2.2.1, .int .i64 a2.2.2.2.1.2.2.2.2.2.2.2.2.1, .int .i64 a2.2.2.2.2.1, .int .i64 a2.2.2.2.2.2.1]⟩)])), (11900001000, (G3 96 0 [(1, one (.int .i64 a1)), (5, one (.ptr 9000005 0)), (6, one (.ptr 9000006 0)), (9, one (.ptr 9000001 0)), (10, one (.str v3)), (13, one (.int .i64 v4)), (66, one (.int .i64 v4)), (67, one (.ptr 9000001 0)), (68, one (.row 9000004 none none)), (69, one (.int .i64 (xs5.length : Int))), (70, one (.bool true)), (73, one (.ptr 9000001 0)), (74, one (.row 9000004 none none)), (75, one (.int .i64 v4)), (76, one (.eptr 9000004 v4.toNat 0)), (77, one (.eptr 9000004 v4.toNat 0)), (78, one (.int .i64 (rd A9 xs5 v4.toNat).1)), (79, one (.ptr 9000005 1)), (80, one (.int .i64 a2.2.1)), (81, one (.bool true)), (82, one (.int .i64 v4)), (83, one (.int .i64 a1)), (84, .v ⟨true, [.int .i64 a2.1, .int .i64 a2.2.1, .int .i64 a2.2.2.1, .int .i64 a2.2.2.2.1.1, .int .i64 a2.2.2.2.1.2.1, .int .i64 a2.2.2.2.1.2.2.1, .int .i64 a2.2.2.2.1.2.2.2.1, .int .i64 a2.2.2.2.1.2.2.2.2.1, .slc 3 (.int .i64) a2.2.2.2.1.2.2.2.2.2.1, .str a2.2.2.2.1.2.2.2.2.2.2.1, .slc 3 (.int .i64) a2.2.2.2.1.2.2.2.2.2.2.2.1, .int .i64 a2.2.2.2.1.2.2.2.2.2.2.2.2.1, .int .i64 a2.2.2.2.2.1, .int .i64 a2.2.2.2.2.2.1]⟩)])), (0, (G3 0 0 []))]⟩
theorem E03 (k n : Nat) (a1 : Int) (v1 : Int) (xs2 : List D9) (r4 : C2) : As3 k (n + 1) a1 v1 xs2 r4 = B00 k (As3 k n) a1 v1 xs2 r4 := by kernel_rfl
theorem E04 (k n : Nat) (a1 : Int) (v3 : ByteArray) (v4 : Int) (a2 : D2) (xs5 : List D9) (xs6 : List A0) (xs7 : List (List A1)) (xs8 : List Bool) (xs9 : List K8) : o9 k (n + 1) a1 v3 v4 a2 xs5 xs6 xs7 xs8 xs9 = Ae6 k (o9 k n) (Ba8 k n) (Ba9 k n) a1 v3 v4 a2 xs5 xs6 xs7 xs8 xs9 := by kernel_rfl
theorem E05 (k n : Nat) (v10 : Int) (r8 : A0) (a2 : D2) (xs5 : List D9) (v4 : Int) (r9 : A8 × Bool) (xs11 : List K8) (a1 : Int) (v3 : ByteArray) : Ba8 k (n + 1) v10 r8 a2 xs5 v4 r9 xs11 a1 v3 = A89 k (Ba8 k n) (o9 k n) v10 r8 a2 xs5 v4 r9 xs11 a1 v3 := by kernel_rfl
theorem E06 (k n : Nat) (v12 : ByteArray) (v13 : Int) (r14 : List Int) (a2 : D2) (xs5 : List D9) (v4 : Int) (xs6 : List A0) (xs7 : List (List A1)) (xs8 : List Bool) (xs9 : List K8) (a1 : Int) (v3 : ByteArray) : Ba9 k (n + 1) v12 v13 r14 a2 xs5 v4 xs6 xs7 xs8 xs9 a1 v3 = A90 k (Ba9 k n) (o9 k n) v12 v13 r14 a2 xs5 v4 xs6 xs7 xs8 xs9 a1 v3 := by kernel_rfl
theorem Cg8 (k : Nat) : ∀ n : Nat, As3 k n = T8 k n ∧ o9 k n = I0 k n ∧ Ba8 k n = Ae7 k n ∧ Ba9 k n = Ae8 k n
 | 0 => ⟨(by funext a1 v1 xs2 r4; rfl), (by funext a1 v3 v4 a2 xs5 xs6 xs7 xs8 xs9; rfl), (by funext v10 r8 a2 xs5 v4 r9 xs11 a1 v3; rfl), (by funext v12 v13 r14 a2 xs5 v4 xs6 xs7 xs8 xs9 a1 v3; rfl)⟩
 | n + 1 => by
  obtain ⟨h0, h1, h2, h3⟩ := Cg8 k n
  exact ⟨(by funext a1 v1 xs2 r4; rw [E03, h0] <;> rfl), (by funext a1 v3 v4 a2 xs5 xs6 xs7 xs8 xs9; rw [E04, h1, h2, h3] <;> rfl), (by funext v10 r8 a2 xs5 v4 r9 xs11 a1 v3; rw [E05, h2, h1] <;> rfl), (by funext v12 v13 r14 a2 xs5 v4 xs6 xs7 xs8 xs9 a1 v3; rw [E06, h3, h1] <;> rfl)⟩
theorem Fq8 (k : Nat) (a0 : C2) (a1 : Int) (a2 : D2) : C5 (j9 k) w9 k 119 [B5 M6 a0, B5 (.int .i64) a1, B5 Y0 a2] ms0 = Df3 k (As3 k k) (o9 k k) a0 a1 a2 := by kernel_rfl
theorem Fq9 (k : Nat) (a0 : C2) (a1 : Int) (a2 : D2) : C5 (j9 k) w9 k 119 [B5 M6 a0, B5 (.int .i64) a1, B5 Y0 a2] ms0 = Bu1 k a0 a1 a2 := by rw [Fq8, show As3 k k = T8 k k from (Cg8 k k).1, show o9 k k = I0 k k from (Cg8 k k).2.1] <;> rfl
noncomputable def C52 (k : Nat) : Spec := .imm M6 fun (a0 : C2) => .imm (.int .i64) fun (a1 : Int) => .imm Y0 fun (a2 : D2) => .body (Bu1 k a0 a1 a2) (E5 [M6, .str, .bool] [.o, .o, .o, .o, .o])
noncomputable def Cg9 (k : Nat) : Cfg := { eqs := [], tab := [], spec := [], mspec := [(65, O3 k)], inl := [(88, Tryz.f88)], keep := [], join := [], hold := [], ptrs := [], maps := [], fuel := k }
noncomputable def Ee3 : VV → Ms → Option (Bool × B0 × Unit) := Ca5 [.bool] [] [.box D1, .imm (.int .i64)]
theorem Fr0 (k : Nat) (a0 : B0) (a1 : Int) : C5 (Cg9 k) Ee3 k 88 (S1 1 [.box D1, .imm (.int .i64)] (a0, a1, ())) (ms1 [.box D1, .imm (.int .i64)] (a0, a1, ())) = O8 k a0 a1 := by kernel_rfl
noncomputable def As4 (k : Nat) : MSpec := .box D1 fun (a0 : B0) => .imm (.int .i64) fun (a1 : Int) => .body (O8 k a0 a1) (fun r => E5 [.bool] [] r.1) (fun r => poV [.box D1, .imm (.int .i64)] r.2)
noncomputable def Bh8 (k : Nat) : Cfg := { eqs := [], tab := [(3, (.int .i64)), (49, (.slice 3 (.int .i64)))], spec := [], mspec := [(65, O3 k)], inl := [(157, Tryz.f157)], keep := [], join := [], hold := [], ptrs := [], maps := [], fuel := k }
noncomputable def Db2 : VV → Ms → Option (Int × B0 × Unit) := Ca5 [(.int .i64)] [] [.box D1, .imm (.slice 3 (.int .i64))]
theorem D25 (k : Nat) (a0 : B0) (a1 : List Int) : C5 (Bh8 k) Db2 k 157 (S1 1 [.box D1, .imm (.slice 3 (.int .i64))] (a0, a1, ())) (ms1 [.box D1, .imm (.slice 3 (.int .i64))] (a0, a1, ())) = T9 k a0 a1 := by kernel_rfl
noncomputable def A68 (k : Nat) : MSpec := .box D1 fun (a0 : B0) => .imm (.slice 3 (.int .i64)) fun (a1 : List Int) => .body (T9 k a0 a1) (fun r => E5 [(.int .i64)] [] r.1) (fun r => poV [.box D1, .imm (.slice 3 (.int .i64))] r.2)
noncomputable def Ch0 (k : Nat) : Cfg := { eqs := [], tab := [(9, .str), (75, (.slice 9 .str))], spec := [], mspec := [(65, O3 k)], inl := [(200, Tryz.f200)], keep := [], join := [], hold := [], ptrs := [], maps := [], fuel := k }
noncomputable def Ee4 : VV → Ms → Option (ByteArray × B0 × Unit) := Ca5 [.str] [] [.box D1, .imm (.slice 9 .str)]
theorem Fr1 (k : Nat) (a0 : B0) (a1 : List ByteArray) : C5 (Ch0 k) Ee4 k 200 (S1 1 [.box D1, .imm (.slice 9 .str)] (a0, a1, ())) (ms1 [.box D1, .imm (.slice 9 .str)] (a0, a1, ())) = Bc1 k a0 a1 := by kernel_rfl
noncomputable def C53 (k : Nat) : MSpec := .box D1 fun (a0 : B0) => .imm (.slice 9 .str) fun (a1 : List ByteArray) => .body (Bc1 k a0 a1) (fun r => E5 [.str] [] r.1) (fun r => poV [.box D1, .imm (.slice 9 .str)] r.2)
noncomputable def Ai9 (k : Nat) : Cfg := { eqs := [], tab := [(3, (.int .i64)), (9, .str), (49, (.slice 3 (.int .i64))), (75, (.slice 9 .str)), (162, A6)], spec := [], mspec := [(65, O3 k), (88, As4 k), (157, A68 k), (200, C53 k)], inl := [(175, Tryz.f175)], keep := [(17500001012, [0, 2, 3, 4])], join := [], hold := [(17500001012, [(3, [0, 5], 3, (.int .i64), false, false)])], ptrs := [], maps := [], fuel := k }
noncomputable def A69 : VV → Ms → Option (A0 × B0 × Unit) := Ca5 [A6] [.o, .o] [.box D1]
noncomputable def Ad5 (k n : Nat) (v1 : Int) (v2 : List Int) (v3 : Int) (v4 : Int) (r1 : Int × B0 × Unit) (r2 : Int × B0 × Unit) (xs5 : List Int) : Option (A0 × B0 × Unit) := P3 (Ai9 k) A69 n true 17500001012 (cd [1, 1, 0, 1, 0, 1, 1, 1, 0, 0, 1, 0, 0] (bo Tryz.f175)) [.b 1, .s (cd [1, 1, 0, 1, 0, 1, 1, 1, 0, 1] (bo Tryz.f175)), .b 0, .s (cd [1, 1, 1] (bo Tryz.f175)), .fn Tryz.f175] ⟨⟨(G3 67 0 [(0, one (.ptr 9000000 0)), (2, one (.ptr 9000001 0)), (3, one (.ptr 9000002 0)), (4, one (.int .i64 v1))]), [(9000000, .box [.slc 5 (.int .u8) v2, .int .i64 v3, .int .i64 v4]), (9000001, .box [.int .i64 0, .int .i64 0, .int .i64 0, .int .i64 0, .int .i64 0, .nilS, .str ByteArray.empty, .nilS, .int .i64 0]), (9000002, .box [.int .i64 0, .int .i64 r1.1, .int .i64 (B4 (1 + r2.1)), .int .i64 0, .int .i64 0, .row 9000003 none none, .str ByteArray.empty, .nilS, .int .i64 0]), (9000003, .row 3 (.int .i64) xs5 true)]⟩, 17500001000, 1, [(0, (G3 1 0 [(0, one (.ptr 9000000 0))]))]⟩
theorem D26 (k n : Nat) (v1 : Int) (v2 : List Int) (v3 : Int) (v4 : Int) (r1 : Int × B0 × Unit) (r2 : Int × B0 × Unit) (xs5 : List Int) : Ad5 k (n + 1) v1 v2 v3 v4 r1 r2 xs5 = Be2 k (Ad5 k n) v1 v2 v3 v4 r1 r2 xs5 := by kernel_rfl
theorem Cr2 (k : Nat) : ∀ n : Nat, Ad5 k n = V7 k n
 | 0 => (by funext v1 v2 v3 v4 r1 r2 xs5; rfl)
 | n + 1 => by
  obtain h0 := Cr2 k n
  exact (by funext v1 v2 v3 v4 r1 r2 xs5; rw [D26, h0] <;> rfl)
theorem Ee5 (k : Nat) (a0 : B0) : C5 (Ai9 k) A69 k 175 (S1 1 [.box D1] (a0, ())) (ms1 [.box D1] (a0, ())) = Co2 k (Ad5 k k) a0 := by kernel_rfl
theorem Ee6 (k : Nat) (a0 : B0) : C5 (Ai9 k) A69 k 175 (S1 1 [.box D1] (a0, ())) (ms1 [.box D1] (a0, ())) = Am4 k a0 := by rw [Ee5, show Ad5 k k = V7 k k from (Cr2 k k)] <;> rfl
noncomputable def Ch1 (k : Nat) : MSpec := .box D1 fun (a0 : B0) => .body (Am4 k a0) (fun r => E5 [A6] [.o, .o] r.1) (fun r => poV [.box D1] r.2)
noncomputable def An0 (k : Nat) : Cfg := { eqs := [], tab := [(3, (.int .i64)), (49, (.slice 3 (.int .i64))), (107, (.slice 162 A6)), (111, E7), (162, A6)], spec := [(176, Bn0 k), (177, A97 k), (178, Ar3 k), (179, A98 k)], mspec := [(65, O3 k), (88, As4 k), (175, Ch1 k)], inl := [(158, Tryz.f158)], keep := [(15800001008, [0, 2, 4, 6, 7, 8, 9, 10]), (15800001018, [0, 2, 4, 6, 7, 11, 13])], join := [], hold := [], ptrs := [], maps := [], fuel := k }
noncomputable def A01 : VV → Ms → Option (A0 × B0 × Unit) := Ca5 [A6] [.o, .o] [.box D1, .imm E7, .imm (.int .i64)]
noncomputable def Bb0 (k n : Nat) (a2 : Int) (v6 : Int) (v7 : List Int) (v8 : Int) (v9 : Int) (a1 : A8) (v10 : Int) (v11 : Int) (v12 : Int) (v13 : Int) (v14 : ByteArray) (r6 : Int) (xs15 : List A1) (xs16 : List Int) (xs17 : List Int) : Option (A0 × B0 × Unit) := P3 (An0 k) A01 n true 15800001018 (cd [1, 1, 1, 1, 1, 1, 1, 1, 1, 1, 1, 0, 1, 0, 0] (bo Tryz.f158)) [.b 2, .s (cd [1, 1, 1, 1, 1, 1, 1, 1, 1, 1, 1, 1] (bo Tryz.f158)), .fn Tryz.f158] ⟨⟨(G3 130 0 [(0, one (.ptr 9000000 0)), (2, one (.int .i64 a2)), (4, one (.ptr 9000001 0)), (6, one (.ptr 9000002 0)), (7, one (.ptr 9000003 0)), (11, one (.row 9000004 none none)), (13, one (.int .i64 v6))]), [(9000000, .box [.slc 5 (.int .u8) v7, .int .i64 v8, .int .i64 v9]), (9000001, .box [.slc 162 A6 a1.1, .slc 215 (.slice 260 B7) a1.2.1, .slc 4 .bool a1.2.2.1]), (9000002, .box [.int .i64 0, .int .i64 0, .int .i64 0, .int .i64 0, .int .i64 0, .nilS, .str ByteArray.empty, .nilS, .int .i64 0]), (9000003, .box [.int .i64 a2, .int .i64 v10, .int .i64 v11, .int .i64 v12, .int .i64 v13, .row 9000005 none none, .str v14, .row 9000006 none none, .int .i64 r6]), (9000004, .row 260 B7 xs15 true), (9000005, .row 3 (.int .i64) xs16 true), (9000006, .row 3 (.int .i64) xs17 true)]⟩, 15800001000, 1, [(0, (G3 3 0 [(0, one (.ptr 9000000 0))]))]⟩
noncomputable def As5 (k n : Nat) (a2 : Int) (v1 : Int) (v2 : List Int) (v3 : Int) (v4 : Int) (a1 : A8) (r1 : A0 × B0 × Unit) (r2 : List Int) (xs5 : List Int) : Option (A0 × B0 × Unit) := P3 (An0 k) A01 n true 15800001008 (cd [1, 1, 1, 1, 1, 1, 0, 1, 0, 0] (bo Tryz.f158)) [.b 0, .s (cd [1, 1, 1, 1, 1, 1, 1] (bo Tryz.f158)), .fn Tryz.f158] ⟨⟨(G3 130 0 [(0, one (.ptr 9000000 0)), (2, one (.int .i64 a2)), (4, one (.ptr 9000001 0)), (6, one (.ptr 9000002 0)), (7, one (.ptr 9000003 0)), (8, one (.row 9000004 none none)), (9, one (.row 9000005 none none)), (10, one (.int .i64 v1))]), [(9000000, .box [.slc 5 (.int .u8) v2, .int .i64 v3, .int .i64 v4]), (9000001, .box [.slc 162 A6 a1.1, .slc 215 (.slice 260 B7) a1.2.1, .slc 4 .bool a1.2.2.1]), (9000002, .box [.int .i64 0, .int .i64 0, .int .i64 0, .int .i64 0, .int .i64 0, .nilS, .str ByteArray.empty, .nilS, .int .i64 0]), (9000003, .box [.int .i64 a2, .int .i64 r1.1.2.1, .int .i64 r1.1.2.2.1, .int .i64 r1.1.2.2.2.1, .int .i64 r1.1.2.2.2.2.1, .row 9000006 none none, .str r1.1.2.2.2.2.2.2.1, .row 9000007 none none, .int .i64 r1.1.2.2.2.2.2.2.2.2.1]), (9000004, .row 3 (.int .i64) r2 true), (9000005, .row 3 (.int .i64) xs5 true), (9000006, .row 3 (.int .i64) r1.1.2.2.2.2.2.1 true), (9000007, .row 3 (.int .i64) r1.1.2.2.2.2.2.2.2.1 true)]⟩, 15800001000, 1, [(0, (G3 3 0 [(0, one (.ptr 9000000 0))]))]⟩
theorem E07 (k n : Nat) (a2 : Int) (v6 : Int) (v7 : List Int) (v8 : Int) (v9 : Int) (a1 : A8) (v10 : Int) (v11 : Int) (v12 : Int) (v13 : Int) (v14 : ByteArray) (r6 : Int) (xs15 : List A1) (xs16 : List Int) (xs17 : List Int) : Bb0 k (n + 1) a2 v6 v7 v8 v9 a1 v10 v11 v12 v13 v14 r6 xs15 xs16 xs17 = B02 k (Bb0 k n) a2 v6 v7 v8 v9 a1 v10 v11 v12 v13 v14 r6 xs15 xs16 xs17 := by kernel_rfl
theorem E08 (k n : Nat) (a2 : Int) (v1 : Int) (v2 : List Int) (v3 : Int) (v4 : Int) (a1 : A8) (r1 : A0 × B0 × Unit) (r2 : List Int) (xs5 : List Int) : As5 k (n + 1) a2 v1 v2 v3 v4 a1 r1 r2 xs5 = B03 k (As5 k n) (Bb0 k n) a2 v1 v2 v3 v4 a1 r1 r2 xs5 := by kernel_rfl
theorem Dj8 (k : Nat) : ∀ n : Nat, Bb0 k n = X6 k n ∧ As5 k n = X7 k n
 | 0 => ⟨(by funext a2 v6 v7 v8 v9 a1 v10 v11 v12 v13 v14 r6 xs15 xs16 xs17; rfl), (by funext a2 v1 v2 v3 v4 a1 r1 r2 xs5; rfl)⟩
 | n + 1 => by
  obtain ⟨h1, h0⟩ := Dj8 k n
  exact ⟨(by funext a2 v6 v7 v8 v9 a1 v10 v11 v12 v13 v14 r6 xs15 xs16 xs17; rw [E07, h1] <;> rfl), (by funext a2 v1 v2 v3 v4 a1 r1 r2 xs5; rw [E08, h0, h1] <;> rfl)⟩
theorem Fr2 (k : Nat) (a0 : B0) (a1 : A8) (a2 : Int) : C5 (An0 k) A01 k 158 (S1 1 [.box D1, .imm E7, .imm (.int .i64)] (a0, a1, a2, ())) (ms1 [.box D1, .imm E7, .imm (.int .i64)] (a0, a1, a2, ())) = Df4 k (As5 k k) a0 a1 a2 := by kernel_rfl
theorem Fr3 (k : Nat) (a0 : B0) (a1 : A8) (a2 : Int) : C5 (An0 k) A01 k 158 (S1 1 [.box D1, .imm E7, .imm (.int .i64)] (a0, a1, a2, ())) (ms1 [.box D1, .imm E7, .imm (.int .i64)] (a0, a1, a2, ())) = O9 k a0 a1 a2 := by rw [Fr2, show As5 k k = X7 k k from (Dj8 k k).2] <;> rfl
noncomputable def C54 (k : Nat) : MSpec := .box D1 fun (a0 : B0) => .imm E7 fun (a1 : A8) => .imm (.int .i64) fun (a2 : Int) => .body (O9 k a0 a1 a2) (fun r => E5 [A6] [.o, .o] r.1) (fun r => poV [.box D1, .imm E7, .imm (.int .i64)] r.2)
noncomputable def Ad6 (k : Nat) : Cfg := { eqs := [], tab := [(3, (.int .i64)), (49, (.slice 3 (.int .i64))), (106, (.slice 158 Q0)), (111, E7), (114, M6), (158, Q0), (162, A6), (169, Y0)], spec := [(152, Af8 k)], mspec := [(65, O3 k), (88, As4 k), (157, A68 k), (158, C54 k)], inl := [(120, Tryz.f120)], keep := [(12050001006, [0, 3, 4, 5])], join := [(12000001006, 12050001006)], hold := [], ptrs := [], maps := [], fuel := k }
noncomputable def Ay5 : VV → Ms → Option (D2 × B0 × Unit) := Ca5 [Y0] [.o, .o] [.box D1, .imm M6]
noncomputable def Ak2 (k n : Nat) (v1 : List Int) (v2 : Int) (v3 : Int) (a1 : C2) (v4 : Int) : Option (D2 × B0 × Unit) := P3 (Ad6 k) Ay5 n false 12050001006 (cd [1, 1, 1, 1] (bo Tryz.f120)) [.fn Tryz.f120] ⟨⟨(G3 122 0 [(0, one (.ptr 9000000 0)), (3, one (.ptr 9000001 0)), (4, one (.ptr 9000002 0)), (5, one (.ptr 9000003 0))]), [(9000000, .box [.slc 5 (.int .u8) v1, .int .i64 v2, .int .i64 v3]), (9000001, .box [.slc 158 Q0 a1.1, .slc 162 A6 a1.2.1.1, .slc 215 (.slice 260 B7) a1.2.1.2.1, .slc 4 .bool a1.2.1.2.2.1, .slc 164 An3 a1.2.2.1]), (9000002, .box [.int .i64 0, .int .i64 0, .int .i64 0, .int .i64 0, .int .i64 0, .int .i64 0, .int .i64 0, .int .i64 0, .nilS, .str ByteArray.empty, .nilS, .int .i64 0, .int .i64 0, .int .i64 0]), (9000003, .box [.int .i64 v4, .int .i64 0, .int .i64 0, .int .i64 0, .int .i64 0, .int .i64 0, .int .i64 0, .int .i64 0, .nilS, .str ByteArray.empty, .nilS, .int .i64 0, .int .i64 0, .int .i64 0])]⟩, 12000001000, 1, [(0, (G3 2 0 [(0, one (.ptr 9000000 0))]))]⟩
theorem Dn1 (k n : Nat) (v1 : List Int) (v2 : Int) (v3 : Int) (a1 : C2) (v4 : Int) : Ak2 k (n + 1) v1 v2 v3 a1 v4 = A57 k v1 v2 v3 a1 v4 := by kernel_rfl
theorem Ch2 (k : Nat) : ∀ n : Nat, Ak2 k n = J3 k n
 | 0 => (by funext v1 v2 v3 a1 v4; rfl)
 | n + 1 => by
  obtain h0 := Ch2 k n
  exact (by funext v1 v2 v3 a1 v4; rw [Dn1] <;> rfl)
theorem D27 (k : Nat) (a0 : B0) (a1 : C2) : C5 (Ad6 k) Ay5 k 120 (S1 1 [.box D1, .imm M6] (a0, a1, ())) (ms1 [.box D1, .imm M6] (a0, a1, ())) = Be3 k (Ak2 k k) a0 a1 := by kernel_rfl
theorem D28 (k : Nat) (a0 : B0) (a1 : C2) : C5 (Ad6 k) Ay5 k 120 (S1 1 [.box D1, .imm M6] (a0, a1, ())) (ms1 [.box D1, .imm M6] (a0, a1, ())) = Ae9 k a0 a1 := by rw [D27, show Ak2 k k = J3 k k from (Ch2 k k)] <;> rfl
noncomputable def B80 (k : Nat) : MSpec := .box D1 fun (a0 : B0) => .imm M6 fun (a1 : C2) => .body (Ae9 k a0 a1) (fun r => E5 [Y0] [.o, .o] r.1) (fun r => poV [.box D1, .imm M6] r.2)
noncomputable def A42 (k : Nat) : Cfg := { eqs := [], tab := [(114, M6)], spec := [(118, C48 k), (119, C52 k)], mspec := [(65, O3 k), (120, B80 k)], inl := [(69, Tryz.f69)], keep := [(6900001003, [0, 1, 4, 5, 6])], join := [], hold := [(6900001003, [(5, [0, 0], 158, Q0, true, false), (5, [0, 1], 162, A6, true, false), (5, [0, 2], 215, (.slice 260 B7), true, false), (5, [0, 3], 4, .bool, true, false), (5, [0, 4], 164, An3, true, false)])], ptrs := [], maps := [], fuel := k }
noncomputable def Bq9 : VV → Ms → Option (C2 × B0 × Unit) := Ca5 [M6] [.s, .s, .s, .s, .s] [.box D1, .imm (.int .i64)]
noncomputable def As6 (k n : Nat) (a1 : Int) (v1 : Int) (v2 : List Int) (v3 : Int) (v4 : Int) (xs5 : List D9) (xs6 : List A0) (xs7 : List (List A1)) (xs8 : List Bool) (xs9 : List K8) : Option (C2 × B0 × Unit) := P3 (A42 k) Bq9 n true 6900001003 (cd [1, 1, 0, 1, 0, 0] (bo Tryz.f69)) [.b 0, .s (cd [1, 1, 1] (bo Tryz.f69)), .fn Tryz.f69] ⟨⟨(G3 33 0 [(0, one (.ptr 9000000 0)), (1, one (.int .i64 a1)), (4, one (.ptr 9000001 0)), (5, one (.ptr 9000002 0)), (6, one (.int .i64 v1))]), [(9000000, .box [.slc 5 (.int .u8) v2, .int .i64 v3, .int .i64 v4]), (9000001, .box [.nilS, .nilS, .nilS, .nilS, .nilS]), (9000002, .box [.row 9000003 none none, .row 9000004 none none, .row 9000005 none none, .row 9000006 none none, .row 9000007 none none]), (9000003, .row 158 Q0 xs5 false), (9000004, .row 162 A6 xs6 false), (9000005, .row 215 (.slice 260 B7) xs7 false), (9000006, .row 4 .bool xs8 false), (9000007, .row 164 An3 xs9 false)]⟩, 6900001000, 1, [(0, (G3 2 0 [(0, one (.ptr 9000000 0))]))]⟩
theorem E09 (k n : Nat) (a1 : Int) (v1 : Int) (v2 : List Int) (v3 : Int) (v4 : Int) (xs5 : List D9) (xs6 : List A0) (xs7 : List (List A1)) (xs8 : List Bool) (xs9 : List K8) : As6 k (n + 1) a1 v1 v2 v3 v4 xs5 xs6 xs7 xs8 xs9 = B04 k (As6 k n) a1 v1 v2 v3 v4 xs5 xs6 xs7 xs8 xs9 := by kernel_rfl
theorem Dj9 (k : Nat) : ∀ n : Nat, As6 k n = n8 k n
 | 0 => (by funext a1 v1 v2 v3 v4 xs5 xs6 xs7 xs8 xs9; rfl)
 | n + 1 => by
  obtain h0 := Dj9 k n
  exact (by funext a1 v1 v2 v3 v4 xs5 xs6 xs7 xs8 xs9; rw [E09, h0] <;> rfl)
theorem Fr4 (k : Nat) (a0 : B0) (a1 : Int) : C5 (A42 k) Bq9 k 69 (S1 1 [.box D1, .imm (.int .i64)] (a0, a1, ())) (ms1 [.box D1, .imm (.int .i64)] (a0, a1, ())) = Df5 k (As6 k k) a0 a1 := by kernel_rfl
theorem Fr5 (k : Nat) (a0 : B0) (a1 : Int) : C5 (A42 k) Bq9 k 69 (S1 1 [.box D1, .imm (.int .i64)] (a0, a1, ())) (ms1 [.box D1, .imm (.int .i64)] (a0, a1, ())) = Bc2 k a0 a1 := by rw [Fr4, show As6 k k = n8 k k from (Dj9 k k)] <;> rfl
noncomputable def C55 (k : Nat) : MSpec := .box D1 fun (a0 : B0) => .imm (.int .i64) fun (a1 : Int) => .body (Bc2 k a0 a1) (fun r => E5 [M6] [.s, .s, .s, .s, .s] r.1) (fun r => poV [.box D1, .imm (.int .i64)] r.2)
noncomputable def A43 (k : Nat) : Cfg := { eqs := [], tab := [(49, (.slice 3 (.int .i64)))], spec := [], mspec := [(88, As4 k)], inl := [(70, Tryz.f70)], keep := [(7000001003, [0, 3, 4])], join := [], hold := [], ptrs := [], maps := [], fuel := k }
noncomputable def Br0 : VV → Ms → Option (List Int × B0 × Unit) := Ca5 [(.slice 3 (.int .i64))] [.o] [.box D1]
noncomputable def As7 (k n : Nat) (v1 : Int) (v2 : List Int) (v3 : Int) (v4 : Int) (xs5 : List Int) : Option (List Int × B0 × Unit) := P3 (A43 k) Br0 n true 7000001003 (cd [1, 1, 0, 1, 0, 0] (bo Tryz.f70)) [.b 0, .s (cd [1, 1, 1] (bo Tryz.f70)), .fn Tryz.f70] ⟨⟨(G3 23 0 [(0, one (.ptr 9000000 0)), (3, one (.row 9000001 none none)), (4, one (.int .i64 v1))]), [(9000000, .box [.slc 5 (.int .u8) v2, .int .i64 v3, .int .i64 v4]), (9000001, .row 3 (.int .i64) xs5 true)]⟩, 7000001000, 1, [(0, (G3 1 0 [(0, one (.ptr 9000000 0))]))]⟩
theorem E10 (k n : Nat) (v1 : Int) (v2 : List Int) (v3 : Int) (v4 : Int) (xs5 : List Int) : As7 k (n + 1) v1 v2 v3 v4 xs5 = B05 k (As7 k n) v1 v2 v3 v4 xs5 := by kernel_rfl
theorem Dk0 (k : Nat) : ∀ n : Nat, As7 k n = n9 k n
 | 0 => (by funext v1 v2 v3 v4 xs5; rfl)
 | n + 1 => by
  obtain h0 := Dk0 k n
  exact (by funext v1 v2 v3 v4 xs5; rw [E10, h0] <;> rfl)
theorem Fr6 (k : Nat) (a0 : B0) : C5 (A43 k) Br0 k 70 (S1 1 [.box D1] (a0, ())) (ms1 [.box D1] (a0, ())) = Df6 k (As7 k k) a0 := by kernel_rfl
theorem Fr7 (k : Nat) (a0 : B0) : C5 (A43 k) Br0 k 70 (S1 1 [.box D1] (a0, ())) (ms1 [.box D1] (a0, ())) = Bc3 k a0 := by rw [Fr6, show As7 k k = n9 k k from (Dk0 k k)] <;> rfl
noncomputable def C56 (k : Nat) : MSpec := .box D1 fun (a0 : B0) => .body (Bc3 k a0) (fun r => E5 [(.slice 3 (.int .i64))] [.o] r.1) (fun r => poV [.box D1] r.2)
noncomputable def A44 (k : Nat) : Cfg := { eqs := [], tab := [(3, (.int .i64)), (49, (.slice 3 (.int .i64)))], spec := [(55, H7 k)], mspec := [], inl := [(180, Tryz.f180)], keep := [(18000001002, [0, 1, 2, 7])], join := [], hold := [], ptrs := [], maps := [], fuel := k }
noncomputable def Br1 : VV → Ms → Option Bool := F6 [.bool] []
noncomputable def As8 (k n : Nat) (a0 : List Int) (a1 : Int) (a2 : Int) (v1 : Int) : Option Bool := P3 (A44 k) Br1 n true 18000001002 (cd [1, 0, 1, 0, 0] (bo Tryz.f180)) [.b 0, .s (cd [1, 1] (bo Tryz.f180)), .fn Tryz.f180] ⟨⟨(G3 38 0 [(0, one (.slc 3 (.int .i64) a0)), (1, one (.int .i64 a1)), (2, one (.int .i64 a2)), (7, one (.int .i64 v1))]), []⟩, 18000001000, 1, [(0, (G3 0 0 []))]⟩
theorem E11 (k n : Nat) (a0 : List Int) (a1 : Int) (a2 : Int) (v1 : Int) : As8 k (n + 1) a0 a1 a2 v1 = A91 k (As8 k n) a0 a1 a2 v1 := by kernel_rfl
theorem Dk1 (k : Nat) : ∀ n : Nat, As8 k n = X8 k n
 | 0 => (by funext a0 a1 a2 v1; rfl)
 | n + 1 => by
  obtain h0 := Dk1 k n
  exact (by funext a0 a1 a2 v1; rw [E11, h0] <;> rfl)
theorem Fr8 (k : Nat) (a0 : List Int) (a1 : Int) (a2 : Int) : C5 (A44 k) Br1 k 180 [B5 (.slice 3 (.int .i64)) a0, B5 (.int .i64) a1, B5 (.int .i64) a2] ms0 = Df7 k (As8 k k) a0 a1 a2 := by kernel_rfl
theorem Fr9 (k : Nat) (a0 : List Int) (a1 : Int) (a2 : Int) : C5 (A44 k) Br1 k 180 [B5 (.slice 3 (.int .i64)) a0, B5 (.int .i64) a1, B5 (.int .i64) a2] ms0 = Ck3 k a0 a1 a2 := by rw [Fr8, show As8 k k = X8 k k from (Dk1 k k)] <;> rfl
noncomputable def C57 (k : Nat) : Spec := .imm (.slice 3 (.int .i64)) fun (a0 : List Int) => .imm (.int .i64) fun (a1 : Int) => .imm (.int .i64) fun (a2 : Int) => .body (Ck3 k a0 a1 a2) (E5 [.bool] [])
noncomputable def Cv2 (k : Nat) : Cfg := { eqs := [], tab := [(49, (.slice 3 (.int .i64)))], spec := [(55, H7 k), (180, C57 k)], mspec := [], inl := [(159, Tryz.f159)], keep := [], join := [], hold := [], ptrs := [], maps := [], fuel := k }
noncomputable def E12 : VV → Ms → Option Bool := F6 [.bool] []
theorem Ge1 (k : Nat) (a0 : List Int) : C5 (Cv2 k) E12 k 159 [B5 (.slice 3 (.int .i64)) a0] ms0 = A14 k a0 := by kernel_rfl
noncomputable def Ch3 (k : Nat) : Spec := .imm (.slice 3 (.int .i64)) fun (a0 : List Int) => .body (A14 k a0) (E5 [.bool] [])
noncomputable def As9 (k : Nat) : Cfg := { eqs := [], tab := [(3, (.int .i64)), (5, (.int .u8)), (9, .str), (22, (.slice 5 (.int .u8))), (49, (.slice 3 (.int .i64)))], spec := [(159, Ch3 k)], mspec := [], inl := [(121, Tryz.f121)], keep := [(12100001005, [0, 4, 5])], join := [], hold := [], ptrs := [], maps := [], fuel := k }
noncomputable def Bh9 : VV → Ms → Option (ByteArray × Bool) := F6 [.str, .bool] []
noncomputable def Aj0 (k n : Nat) (a0 : List Int) (v1 : Int) (xs2 : List Int) : Option (ByteArray × Bool) := P3 (As9 k) Bh9 n true 12100001005 (cd [1, 1, 1, 0, 1, 0, 0] (bo Tryz.f121)) [.b 0, .s (cd [1, 1, 1, 1] (bo Tryz.f121)), .fn Tryz.f121] ⟨⟨(G3 26 0 [(0, one (.slc 3 (.int .i64) a0)), (4, one (.row 9000000 none none)), (5, one (.int .i64 v1))]), [(9000000, .row 5 (.int .u8) xs2 true)]⟩, 12100001000, 1, [(0, (G3 0 0 []))]⟩
theorem Ee7 (k n : Nat) (a0 : List Int) (v1 : Int) (xs2 : List Int) : Aj0 k (n + 1) a0 v1 xs2 = Bo5 k (Aj0 k n) a0 v1 xs2 := by kernel_rfl
theorem C58 (k : Nat) : ∀ n : Nat, Aj0 k n = Z0 k n
 | 0 => (by funext a0 v1 xs2; rfl)
 | n + 1 => by
  obtain h0 := C58 k n
  exact (by funext a0 v1 xs2; rw [Ee7, h0] <;> rfl)
theorem E13 (k : Nat) (a0 : List Int) : C5 (As9 k) Bh9 k 121 [B5 (.slice 3 (.int .i64)) a0] ms0 = C00 k (Aj0 k k) a0 := by kernel_rfl
theorem E14 (k : Nat) (a0 : List Int) : C5 (As9 k) Bh9 k 121 [B5 (.slice 3 (.int .i64)) a0] ms0 = Be4 k a0 := by rw [E13, show Aj0 k k = Z0 k k from (C58 k k)] <;> rfl
noncomputable def Cr3 (k : Nat) : Spec := .imm (.slice 3 (.int .i64)) fun (a0 : List Int) => .body (Be4 k a0) (E5 [.str, .bool] [])
noncomputable def Ch4 (k : Nat) : Cfg := { eqs := [], tab := [(5, (.int .u8)), (9, .str), (22, (.slice 5 (.int .u8))), (139, (.int .u32))], spec := [], mspec := [], inl := [(144, Tryz.f144)], keep := [], join := [], hold := [], ptrs := [], maps := [], fuel := k }
noncomputable def Ee8 : VV → Ms → Option ByteArray := F6 [.str] []
theorem Fs0 (k : Nat) (a0 : Int) : C5 (Ch4 k) Ee8 k 144 [B5 (.int .u32) a0] ms0 = Bu2 k a0 := by kernel_rfl
noncomputable def B51 (k : Nat) : Spec := .imm (.int .u32) fun (a0 : Int) => .body (Bu2 k a0) (E5 [.str] [])
noncomputable def An1 (k : Nat) : Cfg := { eqs := [], tab := [(5, (.int .u8)), (9, .str), (139, (.int .u32))], spec := [], mspec := [], inl := [(163, Tryz.f163)], keep := [(16300001002, [0, 1, 5]), (16300001006, [0, 1, 5, 6])], join := [], hold := [], ptrs := [], maps := [], fuel := k }
noncomputable def A02 : VV → Ms → Option Int := F6 [(.int .u32)] []
noncomputable def At0 (k n : Nat) (a0 : Int) (a1 : ByteArray) (v1 : Int) : Option Int := P3 (An1 k) A02 n true 16300001002 (cd [1, 0, 1, 0, 0] (bo Tryz.f163)) [.b 0, .s (cd [1, 1] (bo Tryz.f163)), .fn Tryz.f163] ⟨⟨(G3 33 0 [(0, one (.int .u32 a0)), (1, one (.str a1)), (5, one (.int .i64 v1))]), []⟩, 16300001000, 1, [(0, (G3 0 0 []))]⟩
noncomputable def Bb1 (k n : Nat) (v2 : Int) (a1 : ByteArray) (v1 : Int) (v3 : Int) : Option Int := P3 (An1 k) A02 n true 16300001006 (cd [1, 0, 1, 0, 0, 1, 0, 0, 1, 1, 0, 0] (bo Tryz.f163)) [.b 2, .b 1, .s (cd [1, 0, 1, 0, 0, 1, 1] (bo Tryz.f163)), .l 16300001002 (cd [1, 0, 1, 0, 0] (bo Tryz.f163)), .b 0, .s (cd [1, 1] (bo Tryz.f163)), .fn Tryz.f163] ⟨⟨(G3 33 0 [(0, one (.int .u32 v2)), (1, one (.str a1)), (5, one (.int .i64 v1)), (6, one (.int .i64 v3))]), []⟩, 16300001000, 1, [(0, (G3 0 0 []))]⟩
theorem E15 (k n : Nat) (a0 : Int) (a1 : ByteArray) (v1 : Int) : At0 k (n + 1) a0 a1 v1 = Ap1 k (Bb1 k n) a0 a1 v1 := by kernel_rfl
theorem E16 (k n : Nat) (v2 : Int) (a1 : ByteArray) (v1 : Int) (v3 : Int) : Bb1 k (n + 1) v2 a1 v1 v3 = Ap2 k (Bb1 k n) (At0 k n) v2 a1 v1 v3 := by kernel_rfl
theorem Dk2 (k : Nat) : ∀ n : Nat, At0 k n = o0 k n ∧ Bb1 k n = Ap3 k n
 | 0 => ⟨(by funext a0 a1 v1; rfl), (by funext v2 a1 v1 v3; rfl)⟩
 | n + 1 => by
  obtain ⟨h0, h1⟩ := Dk2 k n
  exact ⟨(by funext a0 a1 v1; rw [E15, h1] <;> rfl), (by funext v2 a1 v1 v3; rw [E16, h1, h0] <;> rfl)⟩
theorem Fs1 (k : Nat) (a0 : Int) (a1 : ByteArray) : C5 (An1 k) A02 k 163 [B5 (.int .u32) a0, B5 .str a1] ms0 = Df8 k (At0 k k) a0 a1 := by kernel_rfl
theorem Fs2 (k : Nat) (a0 : Int) (a1 : ByteArray) : C5 (An1 k) A02 k 163 [B5 (.int .u32) a0, B5 .str a1] ms0 = Ck4 k a0 a1 := by rw [Fs1, show At0 k k = o0 k k from (Dk2 k k).1] <;> rfl
noncomputable def C59 (k : Nat) : Spec := .imm (.int .u32) fun (a0 : Int) => .imm .str fun (a1 : ByteArray) => .body (Ck4 k a0 a1) (E5 [(.int .u32)] [])
noncomputable def Db3 (k : Nat) : Cfg := { eqs := [], tab := [], spec := [(163, C59 k)], mspec := [], inl := [(145, Tryz.f145)], keep := [], join := [], hold := [], ptrs := [], maps := [], fuel := k }
noncomputable def Fs3 : VV → Ms → Option Int := F6 [(.int .u32)] []
theorem G38 (k : Nat) (a0 : ByteArray) : C5 (Db3 k) Fs3 k 145 [B5 .str a0] ms0 = Bl1 k a0 := by kernel_rfl
noncomputable def Cv3 (k : Nat) : Spec := .imm .str fun (a0 : ByteArray) => .body (Bl1 k a0) (E5 [(.int .u32)] [])
noncomputable def Cv4 (k : Nat) : Cfg := { eqs := [], tab := [(9, .str)], spec := [(144, B51 k), (145, Cv3 k)], mspec := [], inl := [(122, Tryz.f122)], keep := [], join := [], hold := [], ptrs := [], maps := [], fuel := k }
noncomputable def E17 : VV → Ms → Option (ByteArray × Bool) := F6 [.str, .bool] []
theorem Ge2 (k : Nat) (a0 : ByteArray) : C5 (Cv4 k) E17 k 122 [B5 .str a0] ms0 = Cb5 k a0 := by kernel_rfl
noncomputable def Dk3 (k : Nat) : Spec := .imm .str fun (a0 : ByteArray) => .body (Cb5 k a0) (E5 [.str, .bool] [])
noncomputable def B52 (k : Nat) : Cfg := { eqs := [], tab := [(3, (.int .i64)), (9, .str), (49, (.slice 3 (.int .i64))), (56, Q3)], spec := [(55, H7 k), (109, Ac5 k), (116, Az8 k), (121, Cr3 k), (122, Dk3 k)], mspec := [], inl := [(71, Tryz.f71)], keep := [], join := [], hold := [], ptrs := [], maps := [], fuel := k }
noncomputable def D29 : VV → Ms → Option (ByteArray × Bool) := F6 [.str, .bool] []
theorem E18 (k : Nat) (a0 : D8) : C5 (B52 k) D29 k 71 [B5 Q3 a0] ms0 = Aw6 k a0 := by kernel_rfl
noncomputable def Br2 (k : Nat) : Spec := .imm Q3 fun (a0 : D8) => .body (Aw6 k a0) (E5 [.str, .bool] [])
noncomputable def B53 (k : Nat) : Cfg := { eqs := [], tab := [], spec := [(55, H7 k), (100, Ba6 k)], mspec := [], inl := [(73, Tryz.f73)], keep := [], join := [], hold := [], ptrs := [], maps := [], fuel := k }
noncomputable def D30 : VV → Ms → Option ByteArray := F6 [.str] []
theorem E19 (k : Nat) (a0 : Int) : C5 (B53 k) D30 k 73 [B5 (.int .i64) a0] ms0 = Al1 k a0 := by kernel_rfl
noncomputable def Br3 (k : Nat) : Spec := .imm (.int .i64) fun (a0 : Int) => .body (Al1 k a0) (E5 [.str] [])
noncomputable def Q1 (k : Nat) : Cfg := { eqs := [], tab := [(3, (.int .i64)), (5, (.int .u8)), (9, .str), (22, (.slice 5 (.int .u8))), (26, E6), (56, Q3), (99, H2), (129, D1)], spec := [(68, Cq9 k), (71, Br2 k), (72, Ce2 k), (73, Br3 k)], mspec := [(65, O3 k), (69, C55 k), (70, C56 k)], inl := [(23, Tryz.f23), (32, Tryz.f32)], keep := [(2300001004, [2, 3, 4, 5, 6]), (3200002003, [0, 3, 4])], join := [], hold := [(2300001004, [(5, [0, 0], 99, H2, false, false)])], ptrs := [], maps := [], fuel := k }
noncomputable def Y3 : VV → Ms → Option (B3 × D8) := F6 [E6, Q3] [.o, .o]
noncomputable def c8 (k n : Nat) (v3 : Int) (a0 : List Int) (v4 : Int) (v1 : Int) (xs5 : List B1) : Option (B3 × D8) := P3 (Q1 k) Y3 n true 2300001004 (cd [1, 1, 1, 0, 1, 0, 0] (bo Tryz.f23)) [.b 0, .s (cd [1, 1, 1, 1] (bo Tryz.f23)), .fn Tryz.f23] ⟨⟨(G3 67 0 [(2, one (.ptr 9000000 0)), (3, one (.ptr 9000001 0)), (4, one (.ptr 9000002 0)), (5, one (.ptr 9000003 0)), (6, one (.int .i64 v3))]), [(9000000, .box [.nilS]), (9000001, .box [.int .i64 0, .int .i64 0, .nilS, .str ByteArray.empty]), (9000002, .box [.slc 5 (.int .u8) a0, .int .i64 v4, .int .i64 v1]), (9000003, .box [.row 9000004 none none]), (9000004, .row 99 H2 xs5 true)]⟩, 2300001000, 1, [(0, (G3 0 0 []))]⟩
noncomputable def T3 (k n : Nat) (a0 : List Int) (v1 : Int) (v2 : Int) : Option (B3 × D8) := P3 (Q1 k) Y3 n true 3200002003 (cd [1, 1, 0, 1, 0, 0] (bo Tryz.f32)) [.b 0, .s (cd [1, 1, 1] (bo Tryz.f32)), .fn Tryz.f32, .op (rg (cd [1, 0] (bo Tryz.f23))) ((rg (cd [1, 0] (bo Tryz.f23))).drop 2) 2 (some 15), .s (cd [1, 1] (bo Tryz.f23)), .fn Tryz.f23] ⟨⟨(G3 32 0 [(0, one (.slc 5 (.int .u8) a0)), (3, one (.int .i64 v1)), (4, one (.int .i64 v2))]), [(9000000, .box [.nilS]), (9000001, .box [.int .i64 0, .int .i64 0, .nilS, .str ByteArray.empty])]⟩, 3200002000, 2, [(2300001000, (G3 67 0 [(0, one (.slc 5 (.int .u8) a0)), (2, one (.ptr 9000000 0)), (3, one (.ptr 9000001 0)), (14, one (.slc 5 (.int .u8) a0))])), (0, (G3 0 0 []))]⟩
theorem Cm1 (k n : Nat) (v3 : Int) (a0 : List Int) (v4 : Int) (v1 : Int) (xs5 : List B1) : c8 k (n + 1) v3 a0 v4 v1 xs5 = Ag4 k (c8 k n) v3 a0 v4 v1 xs5 := by kernel_rfl
theorem Cm2 (k n : Nat) (a0 : List Int) (v1 : Int) (v2 : Int) : T3 k (n + 1) a0 v1 v2 = Ag5 k (T3 k n) (c8 k n) a0 v1 v2 := by kernel_rfl
theorem Bi0 (k : Nat) : ∀ n : Nat, c8 k n = M0 k n ∧ T3 k n = M1 k n
 | 0 => ⟨(by funext v3 a0 v4 v1 xs5; rfl), (by funext a0 v1 v2; rfl)⟩
 | n + 1 => by
  obtain ⟨h1, h0⟩ := Bi0 k n
  exact ⟨(by funext v3 a0 v4 v1 xs5; rw [Cm1, h1] <;> rfl), (by funext a0 v1 v2; rw [Cm2, h0, h1] <;> rfl)⟩
theorem Cv5 (k : Nat) (a0 : List Int) : C5 (Q1 k) Y3 k 23 [B5 (.slice 5 (.int .u8)) a0] ms0 = Be5 k (T3 k k) a0 := by kernel_rfl
theorem Cv6 (k : Nat) (a0 : List Int) : C5 (Q1 k) Y3 k 23 [B5 (.slice 5 (.int .u8)) a0] ms0 = g6 k a0 := by rw [Cv5, show T3 k k = M1 k k from (Bi0 k k).2] <;> rfl
noncomputable def A73 (k : Nat) : Spec := .imm (.slice 5 (.int .u8)) fun (a0 : List Int) => .body (g6 k a0) (E5 [E6, Q3] [.o, .o])
noncomputable def Cv7 (k : Nat) : Cfg := { eqs := [], tab := [], spec := [], mspec := [], inl := [(39, Tryz.f39)], keep := [], join := [], hold := [], ptrs := [], maps := [], fuel := k }
noncomputable def E20 : VV → Ms → Option Bool := F6 [.bool] []
theorem Ge3 (k : Nat) (a0 : Int) (a1 : Int) (a2 : Int) : C5 (Cv7 k) E20 k 39 [B5 (.int .i64) a0, B5 (.int .i64) a1, B5 (.int .i64) a2] ms0 = g7 k a0 a1 a2 := by kernel_rfl
noncomputable def Ad7 (k : Nat) : Spec := .imm (.int .i64) fun (a0 : Int) => .imm (.int .i64) fun (a1 : Int) => .imm (.int .i64) fun (a2 : Int) => .body (g7 k a0 a1 a2) (E5 [.bool] [])
noncomputable def Bi1 (k : Nat) : Cfg := { eqs := [], tab := [(3, (.int .i64)), (49, (.slice 3 (.int .i64)))], spec := [(39, Ad7 k)], mspec := [], inl := [(123, Tryz.f123)], keep := [(12300001002, [0, 5, 6, 7])], join := [], hold := [], ptrs := [], maps := [], fuel := k }
noncomputable def B54 : VV → Ms → Option Bool := F6 [.bool] []
noncomputable def A45 (k n : Nat) (a0 : List Int) (v1 : Int) : Option Bool := P3 (Bi1 k) B54 n true 12300001002 (cd [1, 0, 1, 0, 0] (bo Tryz.f123)) [.b 0, .s (cd [1, 1] (bo Tryz.f123)), .fn Tryz.f123] ⟨⟨(G3 32 0 [(0, one (.slc 3 (.int .i64) a0)), (5, one (.slc 3 (.int .i64) a0)), (6, one (.int .i64 (a0.length : Int))), (7, one (.int .i64 v1))]), []⟩, 12300001000, 1, [(0, (G3 0 0 []))]⟩
theorem Fs4 (k n : Nat) (a0 : List Int) (v1 : Int) : A45 k (n + 1) a0 v1 = Bl2 k (A45 k n) a0 v1 := by kernel_rfl
theorem D31 (k : Nat) : ∀ n : Nat, A45 k n = j6 k n
 | 0 => (by funext a0 v1; rfl)
 | n + 1 => by
  obtain h0 := D31 k n
  exact (by funext a0 v1; rw [Fs4, h0] <;> rfl)
theorem Ge4 (k : Nat) (a0 : List Int) : C5 (Bi1 k) B54 k 123 [B5 (.slice 3 (.int .i64)) a0] ms0 = Dv6 k (A45 k k) a0 := by kernel_rfl
theorem Ge5 (k : Nat) (a0 : List Int) : C5 (Bi1 k) B54 k 123 [B5 (.slice 3 (.int .i64)) a0] ms0 = Bu3 k a0 := by rw [Ge4, show A45 k k = j6 k k from (D31 k k)] <;> rfl
noncomputable def Ch5 (k : Nat) : Spec := .imm (.slice 3 (.int .i64)) fun (a0 : List Int) => .body (Bu3 k a0) (E5 [.bool] [])
noncomputable def At1 (k : Nat) : Cfg := { eqs := [], tab := [(3, (.int .i64)), (5, (.int .u8)), (9, .str), (22, (.slice 5 (.int .u8))), (49, (.slice 3 (.int .i64)))], spec := [(123, Ch5 k)], mspec := [], inl := [(74, Tryz.f74)], keep := [(7400001005, [4, 10, 11, 12])], join := [], hold := [(7400001005, [(4, [0], 5, (.int .u8), false, false)])], ptrs := [], maps := [], fuel := k }
noncomputable def Bi2 : VV → Ms → Option (ByteArray × Bool) := F6 [.str, .bool] []
noncomputable def Aj1 (k n : Nat) (a0 : List Int) (v1 : Int) (xs2 : List Int) : Option (ByteArray × Bool) := P3 (At1 k) Bi2 n true 7400001005 (cd [1, 1, 1, 0, 1, 0, 0] (bo Tryz.f74)) [.b 0, .s (cd [1, 1, 1, 1] (bo Tryz.f74)), .fn Tryz.f74] ⟨⟨(G3 24 0 [(4, one (.row 9000000 none none)), (10, one (.slc 3 (.int .i64) a0)), (11, one (.int .i64 (a0.length : Int))), (12, one (.int .i64 v1))]), [(9000000, .row 5 (.int .u8) xs2 true)]⟩, 7400001000, 1, [(0, (G3 0 0 []))]⟩
theorem Ee9 (k n : Nat) (a0 : List Int) (v1 : Int) (xs2 : List Int) : Aj1 k (n + 1) a0 v1 xs2 = Bo6 k (Aj1 k n) a0 v1 xs2 := by kernel_rfl
theorem C60 (k : Nat) : ∀ n : Nat, Aj1 k n = Z1 k n
 | 0 => (by funext a0 v1 xs2; rfl)
 | n + 1 => by
  obtain h0 := C60 k n
  exact (by funext a0 v1 xs2; rw [Ee9, h0] <;> rfl)
theorem E21 (k : Nat) (a0 : List Int) : C5 (At1 k) Bi2 k 74 [B5 (.slice 3 (.int .i64)) a0] ms0 = C01 k (Aj1 k k) a0 := by kernel_rfl
theorem E22 (k : Nat) (a0 : List Int) : C5 (At1 k) Bi2 k 74 [B5 (.slice 3 (.int .i64)) a0] ms0 = Be6 k a0 := by rw [E21, show Aj1 k k = Z1 k k from (C60 k k)] <;> rfl
noncomputable def Cr4 (k : Nat) : Spec := .imm (.slice 3 (.int .i64)) fun (a0 : List Int) => .body (Be6 k a0) (E5 [.str, .bool] [])
noncomputable def A46 (k : Nat) : Cfg := { eqs := [], tab := [(3, (.int .i64)), (5, (.int .u8)), (9, .str), (22, (.slice 5 (.int .u8)))], spec := [(39, Ad7 k)], mspec := [], inl := [(93, Tryz.f93)], keep := [(9300001004, [0, 4])], join := [], hold := [(9300001004, [(4, [0], 5, (.int .u8), false, false)])], ptrs := [], maps := [], fuel := k }
noncomputable def Br4 : VV → Ms → Option (ByteArray × Bool) := F6 [.str, .bool] []
noncomputable def At2 (k n : Nat) (a0 : Int) (xs1 : List Int) : Option (ByteArray × Bool) := P3 (A46 k) Br4 n true 9300001004 (cd [1, 1, 1, 0, 0, 0] (bo Tryz.f93)) [.b 0, .s (cd [1, 1, 1, 1] (bo Tryz.f93)), .fn Tryz.f93] ⟨⟨(G3 25 0 [(0, one (.int .i64 a0)), (4, one (.row 9000000 none none))]), [(9000000, .row 5 (.int .u8) xs1 true)]⟩, 9300001000, 1, [(0, (G3 0 0 []))]⟩
theorem E23 (k n : Nat) (a0 : Int) (xs1 : List Int) : At2 k (n + 1) a0 xs1 = A92 k (At2 k n) a0 xs1 := by kernel_rfl
theorem Dk4 (k : Nat) : ∀ n : Nat, At2 k n = o6 k n
 | 0 => (by funext a0 xs1; rfl)
 | n + 1 => by
  obtain h0 := Dk4 k n
  exact (by funext a0 xs1; rw [E23, h0] <;> rfl)
theorem Fs5 (k : Nat) (a0 : Int) : C5 (A46 k) Br4 k 93 [B5 (.int .i64) a0] ms0 = Bl3 k (At2 k k) a0 := by kernel_rfl
theorem Fs6 (k : Nat) (a0 : Int) : C5 (A46 k) Br4 k 93 [B5 (.int .i64) a0] ms0 = X0 k a0 := by rw [Fs5, show At2 k k = o6 k k from (Dk4 k k)] <;> rfl
noncomputable def Bb2 (k : Nat) : Spec := .imm (.int .i64) fun (a0 : Int) => .body (X0 k a0) (E5 [.str, .bool] [])
noncomputable def Ch6 (k : Nat) : Cfg := { eqs := [], tab := [(3, (.int .i64)), (9, .str), (22, (.slice 5 (.int .u8))), (49, (.slice 3 (.int .i64)))], spec := [(93, Bb2 k)], mspec := [], inl := [(75, Tryz.f75)], keep := [(7500001003, [4, 9, 10, 11])], join := [], hold := [(7500001003, [(4, [0], 5, (.int .u8), false, false)])], ptrs := [], maps := [], fuel := k }
noncomputable def Cv8 : VV → Ms → Option (ByteArray × Bool) := F6 [.str, .bool] []
noncomputable def Bw2 (k n : Nat) (a0 : List Int) (v1 : Int) (xs2 : List Int) : Option (ByteArray × Bool) := P3 (Ch6 k) Cv8 n true 7500001003 (cd [1, 1, 0, 1, 0, 0] (bo Tryz.f75)) [.b 0, .s (cd [1, 1, 1] (bo Tryz.f75)), .fn Tryz.f75] ⟨⟨(G3 28 0 [(4, one (.row 9000000 none none)), (9, one (.slc 3 (.int .i64) a0)), (10, one (.int .i64 (a0.length : Int))), (11, one (.int .i64 v1))]), [(9000000, .row 5 (.int .u8) xs2 true)]⟩, 7500001000, 1, [(0, (G3 0 0 []))]⟩
theorem G39 (k n : Nat) (a0 : List Int) (v1 : Int) (xs2 : List Int) : Bw2 k (n + 1) a0 v1 xs2 = Ck5 k (Bw2 k n) a0 v1 xs2 := by kernel_rfl
theorem Fs7 (k : Nat) : ∀ n : Nat, Bw2 k n = Aw7 k n
 | 0 => (by funext a0 v1 xs2; rfl)
 | n + 1 => by
  obtain h0 := Fs7 k n
  exact (by funext a0 v1 xs2; rw [G39, h0] <;> rfl)
theorem Hg8 (k : Nat) (a0 : List Int) : C5 (Ch6 k) Cv8 k 75 [B5 (.slice 3 (.int .i64)) a0] ms0 = Dv7 k (Bw2 k k) a0 := by kernel_rfl
theorem Hg9 (k : Nat) (a0 : List Int) : C5 (Ch6 k) Cv8 k 75 [B5 (.slice 3 (.int .i64)) a0] ms0 = C89 k a0 := by rw [Hg8, show Bw2 k k = Aw7 k k from (Fs7 k k)] <;> rfl
noncomputable def Ep7 (k : Nat) : Spec := .imm (.slice 3 (.int .i64)) fun (a0 : List Int) => .body (C89 k a0) (E5 [.str, .bool] [])
noncomputable def Br5 (k : Nat) : Cfg := { eqs := [], tab := [(9, .str)], spec := [(93, Bb2 k)], mspec := [], inl := [(76, Tryz.f76)], keep := [], join := [], hold := [], ptrs := [], maps := [], fuel := k }
noncomputable def Dn2 : VV → Ms → Option (ByteArray × Bool) := F6 [.str, .bool] []
theorem Ef0 (k : Nat) (a0 : ByteArray) : C5 (Br5 k) Dn2 k 76 [B5 .str a0] ms0 = Ab6 k a0 := by kernel_rfl
noncomputable def Ch7 (k : Nat) : Spec := .imm .str fun (a0 : ByteArray) => .body (Ab6 k a0) (E5 [.str, .bool] [])
noncomputable def An2 (k : Nat) : Cfg := { eqs := [], tab := [(5, (.int .u8)), (9, .str), (139, (.int .u32))], spec := [], mspec := [], inl := [(133, Tryz.f133)], keep := [(13300001002, [0, 1, 5]), (13300001006, [0, 1, 5, 6])], join := [], hold := [], ptrs := [], maps := [], fuel := k }
noncomputable def A03 : VV → Ms → Option Int := F6 [(.int .u32)] []
noncomputable def At3 (k n : Nat) (a0 : Int) (a1 : ByteArray) (v1 : Int) : Option Int := P3 (An2 k) A03 n true 13300001002 (cd [1, 0, 1, 0, 0] (bo Tryz.f133)) [.b 0, .s (cd [1, 1] (bo Tryz.f133)), .fn Tryz.f133] ⟨⟨(G3 33 0 [(0, one (.int .u32 a0)), (1, one (.str a1)), (5, one (.int .i64 v1))]), []⟩, 13300001000, 1, [(0, (G3 0 0 []))]⟩
noncomputable def Bb3 (k n : Nat) (v2 : Int) (a1 : ByteArray) (v1 : Int) (v3 : Int) : Option Int := P3 (An2 k) A03 n true 13300001006 (cd [1, 0, 1, 0, 0, 1, 0, 0, 1, 1, 0, 0] (bo Tryz.f133)) [.b 2, .b 1, .s (cd [1, 0, 1, 0, 0, 1, 1] (bo Tryz.f133)), .l 13300001002 (cd [1, 0, 1, 0, 0] (bo Tryz.f133)), .b 0, .s (cd [1, 1] (bo Tryz.f133)), .fn Tryz.f133] ⟨⟨(G3 33 0 [(0, one (.int .u32 v2)), (1, one (.str a1)), (5, one (.int .i64 v1)), (6, one (.int .i64 v3))]), []⟩, 13300001000, 1, [(0, (G3 0 0 []))]⟩
theorem E24 (k n : Nat) (a0 : Int) (a1 : ByteArray) (v1 : Int) : At3 k (n + 1) a0 a1 v1 = B06 k (Bb3 k n) a0 a1 v1 := by kernel_rfl
theorem E25 (k n : Nat) (v2 : Int) (a1 : ByteArray) (v1 : Int) (v3 : Int) : Bb3 k (n + 1) v2 a1 v1 v3 = B07 k (Bb3 k n) (At3 k n) v2 a1 v1 v3 := by kernel_rfl
theorem Dk5 (k : Nat) : ∀ n : Nat, At3 k n = B08 k n ∧ Bb3 k n = Eu1 k n
 | 0 => ⟨(by funext a0 a1 v1; rfl), (by funext v2 a1 v1 v3; rfl)⟩
 | n + 1 => by
  obtain ⟨h0, h1⟩ := Dk5 k n
  exact ⟨(by funext a0 a1 v1; rw [E24, h1] <;> rfl), (by funext v2 a1 v1 v3; rw [E25, h1, h0] <;> rfl)⟩
theorem Fs8 (k : Nat) (a0 : Int) (a1 : ByteArray) : C5 (An2 k) A03 k 133 [B5 (.int .u32) a0, B5 .str a1] ms0 = Df9 k (At3 k k) a0 a1 := by kernel_rfl
theorem Fs9 (k : Nat) (a0 : Int) (a1 : ByteArray) : C5 (An2 k) A03 k 133 [B5 (.int .u32) a0, B5 .str a1] ms0 = Ck6 k a0 a1 := by rw [Fs8, show At3 k k = B08 k k from (Dk5 k k).1] <;> rfl
noncomputable def C61 (k : Nat) : Spec := .imm (.int .u32) fun (a0 : Int) => .imm .str fun (a1 : ByteArray) => .body (Ck6 k a0 a1) (E5 [(.int .u32)] [])
noncomputable def Db4 (k : Nat) : Cfg := { eqs := [], tab := [], spec := [(133, C61 k)], mspec := [], inl := [(94, Tryz.f94)], keep := [], join := [], hold := [], ptrs := [], maps := [], fuel := k }
noncomputable def Ft0 : VV → Ms → Option Int := F6 [(.int .u32)] []
theorem G40 (k : Nat) (a0 : ByteArray) : C5 (Db4 k) Ft0 k 94 [B5 .str a0] ms0 = C02 k a0 := by kernel_rfl
noncomputable def D32 (k : Nat) : Spec := .imm .str fun (a0 : ByteArray) => .body (C02 k a0) (E5 [(.int .u32)] [])
noncomputable def Cv9 (k : Nat) : Cfg := { eqs := [], tab := [(5, (.int .u8)), (9, .str), (22, (.slice 5 (.int .u8))), (139, (.int .u32))], spec := [(94, D32 k)], mspec := [], inl := [(77, Tryz.f77)], keep := [], join := [], hold := [], ptrs := [], maps := [], fuel := k }
noncomputable def E26 : VV → Ms → Option (ByteArray × Bool) := F6 [.str, .bool] []
theorem Ge6 (k : Nat) (a0 : ByteArray) : C5 (Cv9 k) E26 k 77 [B5 .str a0] ms0 = Bu4 k a0 := by kernel_rfl
noncomputable def Ch8 (k : Nat) : Spec := .imm .str fun (a0 : ByteArray) => .body (Bu4 k a0) (E5 [.str, .bool] [])
noncomputable def B55 (k : Nat) : Cfg := { eqs := [], tab := [(3, (.int .i64)), (9, .str), (49, (.slice 3 (.int .i64))), (56, Q3)], spec := [(39, Ad7 k), (74, Cr4 k), (75, Ep7 k), (76, Ch7 k), (77, Ch8 k)], mspec := [], inl := [(24, Tryz.f24)], keep := [], join := [], hold := [], ptrs := [], maps := [], fuel := k }
noncomputable def D33 : VV → Ms → Option (ByteArray × Bool) := F6 [.str, .bool] []
theorem E27 (k : Nat) (a0 : D8) : C5 (B55 k) D33 k 24 [B5 Q3 a0] ms0 = Aw8 k a0 := by kernel_rfl
noncomputable def Br6 (k : Nat) : Spec := .imm Q3 fun (a0 : D8) => .body (Aw8 k a0) (E5 [.str, .bool] [])
noncomputable def B56 (k : Nat) : Cfg := { eqs := [], tab := [(9, .str)], spec := [(77, Ch8 k)], mspec := [], inl := [(78, Tryz.f78)], keep := [], join := [], hold := [], ptrs := [], maps := [], fuel := k }
noncomputable def D34 : VV → Ms → Option (ByteArray × Bool) := F6 [.str, .bool] []
theorem E28 (k : Nat) (a0 : ByteArray) : C5 (B56 k) D34 k 78 [B5 .str a0] ms0 = Be7 k a0 := by kernel_rfl
noncomputable def Cr5 (k : Nat) : Spec := .imm .str fun (a0 : ByteArray) => .body (Be7 k a0) (E5 [.str, .bool] [])
noncomputable def A47 (k : Nat) : Cfg := { eqs := [], tab := [(3, (.int .i64)), (5, (.int .u8)), (9, .str)], spec := [(39, Ad7 k), (93, Bb2 k)], mspec := [], inl := [(90, Tryz.f90)], keep := [(9000001005, [0, 1, 7, 8])], join := [], hold := [], ptrs := [], maps := [], fuel := k }
noncomputable def Br7 : VV → Ms → Option (Int × Int × Bool) := F6 [(.int .i64), (.int .i64), .bool] []
noncomputable def At4 (k n : Nat) (a0 : ByteArray) (a1 : Int) (v1 : Int) (v2 : Int) : Option (Int × Int × Bool) := P3 (A47 k) Br7 n true 9000001005 (cd [1, 1, 1, 0, 1, 0, 0] (bo Tryz.f90)) [.b 0, .s (cd [1, 1, 1, 1] (bo Tryz.f90)), .fn Tryz.f90] ⟨⟨(G3 63 0 [(0, one (.str a0)), (1, one (.int .i64 a1)), (7, one (.int .i64 v1)), (8, one (.int .i64 v2))]), []⟩, 9000001000, 1, [(0, (G3 0 0 []))]⟩
theorem E29 (k n : Nat) (a0 : ByteArray) (a1 : Int) (v1 : Int) (v2 : Int) : At4 k (n + 1) a0 a1 v1 v2 = Ap4 k (At4 k n) a0 a1 v1 v2 := by kernel_rfl
theorem Dk6 (k : Nat) : ∀ n : Nat, At4 k n = R5 k n
 | 0 => (by funext a0 a1 v1 v2; rfl)
 | n + 1 => by
  obtain h0 := Dk6 k n
  exact (by funext a0 a1 v1 v2; rw [E29, h0] <;> rfl)
theorem Ft1 (k : Nat) (a0 : ByteArray) (a1 : Int) : C5 (A47 k) Br7 k 90 [B5 .str a0, B5 (.int .i64) a1] ms0 = Cb6 k (At4 k k) a0 a1 := by kernel_rfl
theorem Ft2 (k : Nat) (a0 : ByteArray) (a1 : Int) : C5 (A47 k) Br7 k 90 [B5 .str a0, B5 (.int .i64) a1] ms0 = Aw9 k a0 a1 := by rw [Ft1, show At4 k k = R5 k k from (Dk6 k k)] <;> rfl
noncomputable def B57 (k : Nat) : Spec := .imm .str fun (a0 : ByteArray) => .imm (.int .i64) fun (a1 : Int) => .body (Aw9 k a0 a1) (E5 [(.int .i64), (.int .i64), .bool] [])
noncomputable def Bi3 (k : Nat) : Cfg := { eqs := [], tab := [(3, (.int .i64)), (4, .bool), (9, .str), (122, G7)], spec := [(90, B57 k)], mspec := [], inl := [(79, Tryz.f79)], keep := [], join := [], hold := [], ptrs := [], maps := [], fuel := k }
noncomputable def Db5 : VV → Ms → Option (Int × K7 × Unit) := Ca5 [(.int .i64)] [] [.box G7]
theorem D35 (k : Nat) (a0 : K7) : C5 (Bi3 k) Db5 k 79 (S1 1 [.box G7] (a0, ())) (ms1 [.box G7] (a0, ())) = Af0 k a0 := by kernel_rfl
noncomputable def B81 (k : Nat) : MSpec := .box G7 fun (a0 : K7) => .body (Af0 k a0) (fun r => E5 [(.int .i64)] [] r.1) (fun r => poV [.box G7] r.2)
noncomputable def At5 (k : Nat) : Cfg := { eqs := [], tab := [(3, (.int .i64)), (5, (.int .u8)), (9, .str), (49, (.slice 3 (.int .i64)))], spec := [(123, Ch5 k)], mspec := [], inl := [(80, Tryz.f80)], keep := [(8000001003, [0, 4, 5])], join := [], hold := [(8000001003, [(4, [0], 3, (.int .i64), false, false)])], ptrs := [], maps := [], fuel := k }
noncomputable def Bi4 : VV → Ms → Option (List Int × Bool) := F6 [(.slice 3 (.int .i64)), .bool] [.o]
noncomputable def Aj2 (k n : Nat) (a0 : ByteArray) (v1 : Int) (xs2 : List Int) : Option (List Int × Bool) := P3 (At5 k) Bi4 n true 8000001003 (cd [1, 1, 0, 1, 0, 0] (bo Tryz.f80)) [.b 0, .s (cd [1, 1, 1] (bo Tryz.f80)), .fn Tryz.f80] ⟨⟨(G3 23 0 [(0, one (.str a0)), (4, one (.row 9000000 none none)), (5, one (.int .i64 v1))]), [(9000000, .row 3 (.int .i64) xs2 true)]⟩, 8000001000, 1, [(0, (G3 0 0 []))]⟩
theorem Ef1 (k n : Nat) (a0 : ByteArray) (v1 : Int) (xs2 : List Int) : Aj2 k (n + 1) a0 v1 xs2 = Bo7 k (Aj2 k n) a0 v1 xs2 := by kernel_rfl
theorem C62 (k : Nat) : ∀ n : Nat, Aj2 k n = Z2 k n
 | 0 => (by funext a0 v1 xs2; rfl)
 | n + 1 => by
  obtain h0 := C62 k n
  exact (by funext a0 v1 xs2; rw [Ef1, h0] <;> rfl)
theorem E30 (k : Nat) (a0 : ByteArray) : C5 (At5 k) Bi4 k 80 [B5 .str a0] ms0 = C03 k (Aj2 k k) a0 := by kernel_rfl
theorem E31 (k : Nat) (a0 : ByteArray) : C5 (At5 k) Bi4 k 80 [B5 .str a0] ms0 = Be8 k a0 := by rw [E30, show Aj2 k k = Z2 k k from (C62 k k)] <;> rfl
noncomputable def Cr6 (k : Nat) : Spec := .imm .str fun (a0 : ByteArray) => .body (Be8 k a0) (E5 [(.slice 3 (.int .i64)), .bool] [.o])
noncomputable def Br8 (k : Nat) : Cfg := { eqs := [], tab := [(9, .str)], spec := [(90, B57 k)], mspec := [], inl := [(124, Tryz.f124)], keep := [], join := [], hold := [], ptrs := [], maps := [], fuel := k }
noncomputable def Dn3 : VV → Ms → Option (ByteArray × Int × Bool) := F6 [.str, (.int .i64), .bool] []
theorem Ef2 (k : Nat) (a0 : ByteArray) (a1 : Int) : C5 (Br8 k) Dn3 k 124 [B5 .str a0, B5 (.int .i64) a1] ms0 = Am5 k a0 a1 := by kernel_rfl
noncomputable def Ch9 (k : Nat) : Spec := .imm .str fun (a0 : ByteArray) => .imm (.int .i64) fun (a1 : Int) => .body (Am5 k a0 a1) (E5 [.str, (.int .i64), .bool] [])
noncomputable def A70 (k : Nat) : Cfg := { eqs := [], tab := [(3, (.int .i64)), (4, .bool), (9, .str), (122, G7)], spec := [(124, Ch9 k)], mspec := [], inl := [(81, Tryz.f81)], keep := [], join := [], hold := [], ptrs := [], maps := [], fuel := k }
noncomputable def C63 : VV → Ms → Option (ByteArray × K7 × Unit) := Ca5 [.str] [] [.box G7]
theorem Dn4 (k : Nat) (a0 : K7) : C5 (A70 k) C63 k 81 (S1 1 [.box G7] (a0, ())) (ms1 [.box G7] (a0, ())) = Z3 k a0 := by kernel_rfl
noncomputable def Bw3 (k : Nat) : MSpec := .box G7 fun (a0 : K7) => .body (Z3 k a0) (fun r => E5 [.str] [] r.1) (fun r => poV [.box G7] r.2)
noncomputable def B58 (k : Nat) : Cfg := { eqs := [], tab := [(4, .bool), (9, .str), (49, (.slice 3 (.int .i64))), (56, Q3), (122, G7)], spec := [(24, Br6 k), (78, Cr5 k), (80, Cr6 k)], mspec := [(79, B81 k), (81, Bw3 k)], inl := [(25, Tryz.f25)], keep := [], join := [], hold := [], ptrs := [], maps := [], fuel := k }
noncomputable def D36 : VV → Ms → Option (D8 × Bool) := F6 [Q3, .bool] [.o]
theorem E32 (k : Nat) (a0 : ByteArray) : C5 (B58 k) D36 k 25 [B5 .str a0] ms0 = Ax0 k a0 := by kernel_rfl
noncomputable def Cr7 (k : Nat) : Spec := .imm .str fun (a0 : ByteArray) => .body (Ax0 k a0) (E5 [Q3, .bool] [.o])
noncomputable def B82 (k : Nat) : Spec := By7 (E5 [.str] []) [.int .i64] fun x => B09 k x.1
noncomputable def Ci0 (k : Nat) : Cfg := { eqs := [], tab := [], spec := [(114, B82 k)], mspec := [], inl := [(63, Tryz.f63)], keep := [], join := [], hold := [], ptrs := [], maps := [], fuel := k }
noncomputable def Ef3 : VV → Ms → Option ByteArray := F6 [.str] []
theorem Ft3 (k : Nat) (a0 : Int) : C5 (Ci0 k) Ef3 k 63 [B5 (.int .i64) a0] ms0 = Bc4 k a0 := by kernel_rfl
noncomputable def C64 (k : Nat) : Spec := .imm (.int .i64) fun (a0 : Int) => .body (Bc4 k a0) (E5 [.str] [])
noncomputable def B59 (k : Nat) : Cfg := { eqs := [], tab := [], spec := [(39, Ad7 k), (63, C64 k)], mspec := [], inl := [(30, Tryz.f30)], keep := [], join := [], hold := [], ptrs := [], maps := [], fuel := k }
noncomputable def D37 : VV → Ms → Option ByteArray := F6 [.str] []
theorem E33 (k : Nat) (a0 : Int) : C5 (B59 k) D37 k 30 [B5 (.int .i64) a0] ms0 = Ax1 k a0 := by kernel_rfl
noncomputable def Cr8 (k : Nat) : Spec := .imm (.int .i64) fun (a0 : Int) => .body (Ax1 k a0) (E5 [.str] [])
noncomputable def Bi5 (k : Nat) : Cfg := { eqs := [], tab := [(3, (.int .i64)), (9, .str), (24, (.slice 99 H2)), (26, E6), (99, H2)], spec := [(39, Ad7 k)], mspec := [], inl := [(45, Tryz.f45)], keep := [(4500001002, [1, 6, 7, 8])], join := [], hold := [], ptrs := [], maps := [], fuel := k }
noncomputable def B60 : VV → Ms → Option Bool := F6 [.bool] []
noncomputable def A48 (k n : Nat) (a0 : B3) (v1 : Int) : Option Bool := P3 (Bi5 k) B60 n true 4500001002 (cd [1, 0, 1, 0, 0] (bo Tryz.f45)) [.b 0, .s (cd [1, 1] (bo Tryz.f45)), .fn Tryz.f45] ⟨⟨(G3 54 0 [(1, one (.ptr 9000000 0)), (6, one (.slc 99 H2 a0.1)), (7, one (.int .i64 (a0.1.length : Int))), (8, one (.int .i64 v1))]), [(9000000, .box [.slc 99 H2 a0.1])]⟩, 4500001000, 1, [(0, (G3 0 0 []))]⟩
theorem Ft4 (k n : Nat) (a0 : B3) (v1 : Int) : A48 k (n + 1) a0 v1 = Bl4 k (A48 k n) a0 v1 := by kernel_rfl
theorem D38 (k : Nat) : ∀ n : Nat, A48 k n = Ab7 k n
 | 0 => (by funext a0 v1; rfl)
 | n + 1 => by
  obtain h0 := D38 k n
  exact (by funext a0 v1; rw [Ft4, h0] <;> rfl)
theorem Ge7 (k : Nat) (a0 : B3) : C5 (Bi5 k) B60 k 45 [B5 E6 a0] ms0 = Dv8 k (A48 k k) a0 := by kernel_rfl
theorem Ge8 (k : Nat) (a0 : B3) : C5 (Bi5 k) B60 k 45 [B5 E6 a0] ms0 = Bu5 k a0 := by rw [Ge7, show A48 k k = Ab7 k k from (D38 k k)] <;> rfl
noncomputable def Ci1 (k : Nat) : Spec := .imm E6 fun (a0 : B3) => .body (Bu5 k a0) (E5 [.bool] [])
noncomputable def Bi6 (k : Nat) : Cfg := { eqs := [], tab := [(9, .str), (24, (.slice 99 H2)), (26, E6), (99, H2)], spec := [], mspec := [], inl := [(98, Tryz.f98), (135, Tryz.f135), (136, Tryz.f136)], keep := [(13500002002, [0, 1, 7, 8])], join := [], hold := [], ptrs := [], maps := [], fuel := k }
noncomputable def B61 : VV → Ms → Option Int := F6 [(.int .i64)] []
noncomputable def A49 (k n : Nat) (a0 : B3) (v1 : Int) (a1 : ByteArray) : Option Int := P3 (Bi6 k) B61 n true 13500002002 (cd [1, 0, 1, 0, 0] (bo Tryz.f135)) [.b 0, .s (cd [1, 1] (bo Tryz.f135)), .fn Tryz.f135, .op (rg (cd [1, 0] (bo Tryz.f98))) ((rg (cd [1, 0] (bo Tryz.f98))).drop 4) 4 (some 8), .s (cd [1, 1] (bo Tryz.f98)), .fn Tryz.f98] ⟨⟨(G3 19 0 [(0, one (.slc 99 H2 a0.1)), (1, one (.fn 136 [9000000])), (7, one (.int .i64 (a0.1.length : Int))), (8, one (.int .i64 v1))]), [(9000000, .box [.str a1]), (9000001, .box [.slc 99 H2 a0.1])]⟩, 13500002000, 2, [(9800001000, (G3 9 0 [(0, .v ⟨true, [.slc 99 H2 a0.1]⟩), (1, one (.str a1)), (2, one (.ptr 9000001 0)), (3, one (.ptr 9000000 0)), (4, one (.int .i64 0)), (5, one (.ptr 9000001 0)), (6, one (.slc 99 H2 a0.1)), (7, one (.fn 136 [9000000]))])), (0, (G3 0 0 []))]⟩
theorem Ft5 (k n : Nat) (a0 : B3) (v1 : Int) (a1 : ByteArray) : A49 k (n + 1) a0 v1 a1 = Bl5 k (A49 k n) a0 v1 a1 := by kernel_rfl
theorem D39 (k : Nat) : ∀ n : Nat, A49 k n = Ab8 k n
 | 0 => (by funext a0 v1 a1; rfl)
 | n + 1 => by
  obtain h0 := D39 k n
  exact (by funext a0 v1 a1; rw [Ft5, h0] <;> rfl)
theorem Ge9 (k : Nat) (a0 : B3) (a1 : ByteArray) : C5 (Bi6 k) B61 k 98 [B5 E6 a0, B5 .str a1] ms0 = Dv9 k (A49 k k) a0 a1 := by kernel_rfl
theorem Gf0 (k : Nat) (a0 : B3) (a1 : ByteArray) : C5 (Bi6 k) B61 k 98 [B5 E6 a0, B5 .str a1] ms0 = Cb7 k a0 a1 := by rw [Ge9, show A49 k k = Ab8 k k from (D39 k k)] <;> rfl
noncomputable def Dk7 (k : Nat) : Spec := .imm E6 fun (a0 : B3) => .imm .str fun (a1 : ByteArray) => .body (Cb7 k a0 a1) (E5 [(.int .i64)] [])
noncomputable def Ci2 (k : Nat) : Cfg := { eqs := [], tab := [(26, E6)], spec := [(98, Dk7 k)], mspec := [], inl := [(47, Tryz.f47)], keep := [], join := [], hold := [], ptrs := [], maps := [], fuel := k }
noncomputable def Ef4 : VV → Ms → Option Bool := F6 [.bool] []
theorem Ft6 (k : Nat) (a0 : B3) (a1 : ByteArray) : C5 (Ci2 k) Ef4 k 47 [B5 E6 a0, B5 .str a1] ms0 = Bu6 k a0 a1 := by kernel_rfl
noncomputable def C65 (k : Nat) : Spec := .imm E6 fun (a0 : B3) => .imm .str fun (a1 : ByteArray) => .body (Bu6 k a0 a1) (E5 [.bool] [])
noncomputable def O6 (k : Nat) : Cfg := { eqs := [], tab := [(9, .str)], spec := [], mspec := [], inl := [(164, Tryz.f164)], keep := [], join := [], hold := [], ptrs := [], maps := [], fuel := k }
noncomputable def Al4 : VV → Ms → Option Bool := F6 [.bool] []
theorem At6 (k : Nat) (a0 : ByteArray) (a1 : ByteArray) : C5 (O6 k) Al4 k 164 [B5 .str a0, B5 .str a1] ms0 = K9 k a0 a1 := by kernel_rfl
noncomputable def W3 (k : Nat) : Spec := .imm .str fun (a0 : ByteArray) => .imm .str fun (a1 : ByteArray) => .body (K9 k a0 a1) (E5 [.bool] [])
noncomputable def O7 (k : Nat) : Cfg := { eqs := [], tab := [(9, .str)], spec := [(164, W3 k)], mspec := [], inl := [(146, Tryz.f146)], keep := [], join := [], hold := [], ptrs := [], maps := [], fuel := k }
noncomputable def Al5 : VV → Ms → Option (ByteArray × Bool) := F6 [.str, .bool] []
theorem At7 (k : Nat) (a0 : ByteArray) (a1 : ByteArray) : C5 (O7 k) Al5 k 146 [B5 .str a0, B5 .str a1] ms0 = L5 k a0 a1 := by kernel_rfl
noncomputable def W4 (k : Nat) : Spec := .imm .str fun (a0 : ByteArray) => .imm .str fun (a1 : ByteArray) => .body (L5 k a0 a1) (E5 [.str, .bool] [])
noncomputable def Ag8 (k : Nat) : Cfg := { eqs := [], tab := [], spec := [(146, W4 k)], mspec := [], inl := [(112, Tryz.f112)], keep := [], join := [], hold := [], ptrs := [], maps := [], fuel := k }
noncomputable def B88 : VV → Ms → Option (ByteArray × Bool) := F6 [.str, .bool] []
theorem Cm3 (k : Nat) (a0 : ByteArray) (a1 : ByteArray) : C5 (Ag8 k) B88 k 112 [B5 .str a0, B5 .str a1] ms0 = Aa0 k a0 a1 := by kernel_rfl
noncomputable def A50 (k : Nat) : Spec := .imm .str fun (a0 : ByteArray) => .imm .str fun (a1 : ByteArray) => .body (Aa0 k a0 a1) (E5 [.str, .bool] [])
noncomputable def Bw4 (k : Nat) : Spec := By7 (E5 [.int .i64, .bool] []) [.str] fun x => Co3 k x.1
noncomputable def B62 (k : Nat) : Cfg := { eqs := [], tab := [], spec := [(112, A50 k), (113, Bw4 k)], mspec := [], inl := [(62, Tryz.f62)], keep := [], join := [], hold := [], ptrs := [], maps := [], fuel := k }
noncomputable def D40 : VV → Ms → Option Int := F6 [(.int .i64)] []
theorem E34 (k : Nat) (a0 : ByteArray) (a1 : ByteArray) (a2 : Int) : C5 (B62 k) D40 k 62 [B5 .str a0, B5 .str a1, B5 (.int .i64) a2] ms0 = Z4 k a0 a1 a2 := by kernel_rfl
noncomputable def A04 (k : Nat) : Spec := .imm .str fun (a0 : ByteArray) => .imm .str fun (a1 : ByteArray) => .imm (.int .i64) fun (a2 : Int) => .body (Z4 k a0 a1 a2) (E5 [(.int .i64)] [])
noncomputable def Ag0 (k : Nat) : Cfg := { eqs := [], tab := [(3, (.int .i64)), (9, .str), (24, (.slice 99 H2)), (26, E6), (40, (.slice 93 Ag7)), (56, Q3), (93, Ag7), (99, H2)], spec := [(24, Br6 k), (30, Cr8 k), (45, Ci1 k), (47, C65 k), (62, A04 k)], mspec := [], inl := [(27, Tryz.f27)], keep := [(2700001008, [2, 3, 6, 8, 9]), (2700001014, [8, 10, 59, 60, 61])], join := [], hold := [(2700001008, [(8, [0], 93, Ag7, false, false)])], ptrs := [], maps := [], fuel := k }
noncomputable def At8 : VV → Ms → Option (List I4 × Bool) := F6 [(.slice 93 Ag7), .bool] [.o]
noncomputable def A05 (k n : Nat) (r4 : ByteArray) (a0 : B3) (v3 : Int) (xs4 : List I4) : Option (List I4 × Bool) := P3 (Ag0 k) At8 n true 2700001014 (cd [1, 1, 1, 1, 1, 1, 1, 1, 0, 1, 0, 0] (bo Tryz.f27)) [.b 2, .s (cd [1, 1, 1, 1, 1, 1, 1, 1, 1] (bo Tryz.f27)), .fn Tryz.f27] ⟨⟨(G3 83 0 [(8, one (.row 9000000 none none)), (10, one (.str r4)), (59, one (.slc 99 H2 a0.1)), (60, one (.int .i64 (a0.1.length : Int))), (61, one (.int .i64 v3))]), [(9000000, .row 93 Ag7 xs4 true)]⟩, 2700001000, 1, [(0, (G3 0 0 []))]⟩
noncomputable def Aj3 (k n : Nat) (r1 : ByteArray × Bool) (v1 : Int) (a0 : B3) (a1 : D8) (xs2 : List I4) : Option (List I4 × Bool) := P3 (Ag0 k) At8 n true 2700001008 (cd [1, 1, 1, 1, 1, 0, 1, 0, 0] (bo Tryz.f27)) [.b 0, .s (cd [1, 1, 1, 1, 1, 1] (bo Tryz.f27)), .fn Tryz.f27] ⟨⟨(G3 83 0 [(2, one (.ptr 9000000 0)), (3, one (.ptr 9000001 0)), (6, one (.str r1.1)), (8, one (.row 9000002 none none)), (9, one (.int .i64 v1))]), [(9000000, .box [.slc 99 H2 a0.1]), (9000001, .box [.int .i64 a1.1, .int .i64 a1.2.1, .slc 3 (.int .i64) a1.2.2.1, .str a1.2.2.2.1]), (9000002, .row 93 Ag7 xs2 true)]⟩, 2700001000, 1, [(0, (G3 0 0 []))]⟩
theorem Ef5 (k n : Nat) (r4 : ByteArray) (a0 : B3) (v3 : Int) (xs4 : List I4) : A05 k (n + 1) r4 a0 v3 xs4 = Bo8 k (A05 k n) r4 a0 v3 xs4 := by kernel_rfl
theorem Ef6 (k n : Nat) (r1 : ByteArray × Bool) (v1 : Int) (a0 : B3) (a1 : D8) (xs2 : List I4) : Aj3 k (n + 1) r1 v1 a0 a1 xs2 = Bo9 k (Aj3 k n) (A05 k n) r1 v1 a0 a1 xs2 := by kernel_rfl
theorem C66 (k : Nat) : ∀ n : Nat, A05 k n = u9 k n ∧ Aj3 k n = Z5 k n
 | 0 => ⟨(by funext r4 a0 v3 xs4; rfl), (by funext r1 v1 a0 a1 xs2; rfl)⟩
 | n + 1 => by
  obtain ⟨h1, h0⟩ := C66 k n
  exact ⟨(by funext r4 a0 v3 xs4; rw [Ef5, h1] <;> rfl), (by funext r1 v1 a0 a1 xs2; rw [Ef6, h0, h1] <;> rfl)⟩
theorem E35 (k : Nat) (a0 : B3) (a1 : D8) : C5 (Ag0 k) At8 k 27 [B5 E6 a0, B5 Q3 a1] ms0 = C04 k (Aj3 k k) a0 a1 := by kernel_rfl
theorem E36 (k : Nat) (a0 : B3) (a1 : D8) : C5 (Ag0 k) At8 k 27 [B5 E6 a0, B5 Q3 a1] ms0 = Ab9 k a0 a1 := by rw [E35, show Aj3 k k = Z5 k k from (C66 k k).2] <;> rfl
noncomputable def Cr9 (k : Nat) : Spec := .imm E6 fun (a0 : B3) => .imm Q3 fun (a1 : D8) => .body (Ab9 k a0 a1) (E5 [(.slice 93 Ag7), .bool] [.o])
noncomputable def Ad8 (k : Nat) : Cfg := { eqs := [], tab := [(3, (.int .i64)), (9, .str), (24, (.slice 99 H2)), (26, E6), (56, Q3), (99, H2)], spec := [(25, Cr7 k), (45, Ci1 k), (62, A04 k)], mspec := [], inl := [(28, Tryz.f28)], keep := [(2800001006, [2, 4, 5, 16, 17, 18])], join := [], hold := [(2800001006, [(4, [0, 2], 3, (.int .i64), false, false)])], ptrs := [], maps := [], fuel := k }
noncomputable def Ay6 : VV → Ms → Option (D8 × Bool) := F6 [Q3, .bool] [.o]
noncomputable def s7 (k n : Nat) (v1 : Bool) (a0 : B3) (v2 : Int) (v3 : Int) (v4 : Int) (v5 : ByteArray) (xs6 : List Int) : Option (D8 × Bool) := P3 (Ad8 k) Ay6 n true 2800001006 (cd [1, 1, 1, 1, 0, 1, 0, 0] (bo Tryz.f28)) [.b 0, .s (cd [1, 1, 1, 1, 1] (bo Tryz.f28)), .fn Tryz.f28] ⟨⟨(G3 56 0 [(2, one (.ptr 9000000 0)), (4, one (.ptr 9000001 0)), (5, one (.bool v1)), (16, one (.slc 99 H2 a0.1)), (17, one (.int .i64 (a0.1.length : Int))), (18, one (.int .i64 v2))]), [(9000000, .box [.int .i64 0, .int .i64 0, .nilS, .str ByteArray.empty]), (9000001, .box [.int .i64 v3, .int .i64 v4, .row 9000002 none none, .str v5]), (9000002, .row 3 (.int .i64) xs6 true)]⟩, 2800001000, 1, [(0, (G3 0 0 []))]⟩
theorem Dn5 (k n : Nat) (v1 : Bool) (a0 : B3) (v2 : Int) (v3 : Int) (v4 : Int) (v5 : ByteArray) (xs6 : List Int) : s7 k (n + 1) v1 a0 v2 v3 v4 v5 xs6 = A58 k (s7 k n) v1 a0 v2 v3 v4 v5 xs6 := by kernel_rfl
theorem Ci3 (k : Nat) : ∀ n : Nat, s7 k n = P1 k n
 | 0 => (by funext v1 a0 v2 v3 v4 v5 xs6; rfl)
 | n + 1 => by
  obtain h0 := Ci3 k n
  exact (by funext v1 a0 v2 v3 v4 v5 xs6; rw [Dn5, h0] <;> rfl)
theorem D41 (k : Nat) (a0 : B3) : C5 (Ad8 k) Ay6 k 28 [B5 E6 a0] ms0 = Cb8 k (s7 k k) a0 := by kernel_rfl
theorem D42 (k : Nat) (a0 : B3) : C5 (Ad8 k) Ay6 k 28 [B5 E6 a0] ms0 = U0 k a0 := by rw [D41, show s7 k k = P1 k k from (Ci3 k k)] <;> rfl
noncomputable def A71 (k : Nat) : Spec := .imm E6 fun (a0 : B3) => .body (U0 k a0) (E5 [Q3, .bool] [.o])
noncomputable def At9 (k : Nat) : Cfg := { eqs := [], tab := [(3, (.int .i64)), (9, .str), (24, (.slice 99 H2)), (26, E6), (40, (.slice 93 Ag7)), (56, Q3), (93, Ag7), (99, H2)], spec := [(28, A71 k), (62, A04 k)], mspec := [], inl := [(29, Tryz.f29)], keep := [(2900001006, [3, 5, 17, 18, 19])], join := [], hold := [(2900001006, [(5, [0], 93, Ag7, false, false)])], ptrs := [], maps := [], fuel := k }
noncomputable def Bi7 : VV → Ms → Option (List I4) := F6 [(.slice 93 Ag7)] [.o]
noncomputable def Aj4 (k n : Nat) (a0 : B3) (v1 : Int) (r1 : D8 × Bool) (xs2 : List I4) : Option (List I4) := P3 (At9 k) Bi7 n true 2900001006 (cd [1, 1, 1, 1, 0, 1, 0, 0] (bo Tryz.f29)) [.b 0, .s (cd [1, 1, 1, 1, 1] (bo Tryz.f29)), .fn Tryz.f29] ⟨⟨(G3 47 0 [(3, one (.ptr 9000000 0)), (5, one (.row 9000001 none none)), (17, one (.slc 99 H2 a0.1)), (18, one (.int .i64 (a0.1.length : Int))), (19, one (.int .i64 v1))]), [(9000000, .box [.int .i64 r1.1.1, .int .i64 r1.1.2.1, .row 9000002 none none, .str r1.1.2.2.2.1]), (9000001, .row 93 Ag7 xs2 true), (9000002, .row 3 (.int .i64) r1.1.2.2.1 true)]⟩, 2900001000, 1, [(0, (G3 0 0 []))]⟩
theorem Ef7 (k n : Nat) (a0 : B3) (v1 : Int) (r1 : D8 × Bool) (xs2 : List I4) : Aj4 k (n + 1) a0 v1 r1 xs2 = Bp0 k (Aj4 k n) a0 v1 r1 xs2 := by kernel_rfl
theorem C67 (k : Nat) : ∀ n : Nat, Aj4 k n = R6 k n
 | 0 => (by funext a0 v1 r1 xs2; rfl)
 | n + 1 => by
  obtain h0 := C67 k n
  exact (by funext a0 v1 r1 xs2; rw [Ef7, h0] <;> rfl)
theorem E37 (k : Nat) (a0 : B3) : C5 (At9 k) Bi7 k 29 [B5 E6 a0] ms0 = C05 k (Aj4 k k) a0 := by kernel_rfl
theorem E38 (k : Nat) (a0 : B3) : C5 (At9 k) Bi7 k 29 [B5 E6 a0] ms0 = C4 k a0 := by rw [E37, show Aj4 k k = R6 k k from (C67 k k)] <;> rfl
noncomputable def Cs0 (k : Nat) : Spec := .imm E6 fun (a0 : B3) => .body (C4 k a0) (E5 [(.slice 93 Ag7)] [.o])
noncomputable def j1 (k : Nat) : Cfg := { eqs := [], tab := [(3, (.int .i64)), (5, (.int .u8)), (22, (.slice 5 (.int .u8))), (49, (.slice 3 (.int .i64))), (129, D1)], spec := [], mspec := [(64, B29 k), (65, O3 k)], inl := [(19, Tryz.f19), (32, Tryz.f32)], keep := [(1900001005, [3, 4, 5]), (3200002003, [0, 3, 4])], join := [], hold := [], ptrs := [], maps := [], fuel := k }
noncomputable def Ag1 : VV → Ms → Option (List Int) := F6 [(.slice 3 (.int .i64))] [.o]
noncomputable def Ak3 (k n : Nat) (v3 : Int) (v4 : List Int) (v5 : Int) (v6 : Int) (xs7 : List Int) : Option (List Int) := P3 (j1 k) Ag1 n true 1900001005 (cd [1, 1, 1, 1, 0, 1, 0, 0] (bo Tryz.f19)) [.b 0, .s (cd [1, 1, 1, 1, 1] (bo Tryz.f19)), .fn Tryz.f19] ⟨⟨(G3 21 0 [(3, one (.ptr 9000000 0)), (4, one (.row 9000001 none none)), (5, one (.int .i64 v3))]), [(9000000, .box [.slc 5 (.int .u8) v4, .int .i64 v5, .int .i64 v6]), (9000001, .row 3 (.int .i64) xs7 true)]⟩, 1900001000, 1, [(0, (G3 0 0 []))]⟩
noncomputable def s8 (k n : Nat) (a0 : List Int) (v1 : Int) (v2 : Int) : Option (List Int) := P3 (j1 k) Ag1 n true 3200002003 (cd [1, 1, 0, 1, 0, 0] (bo Tryz.f32)) [.b 0, .s (cd [1, 1, 1] (bo Tryz.f32)), .fn Tryz.f32, .op (rg (cd [1, 0] (bo Tryz.f19))) ((rg (cd [1, 0] (bo Tryz.f19))).drop 2) 2 (some 7), .s (cd [1, 1] (bo Tryz.f19)), .fn Tryz.f19] ⟨⟨(G3 32 0 [(0, one (.slc 5 (.int .u8) a0)), (3, one (.int .i64 v1)), (4, one (.int .i64 v2))]), []⟩, 3200002000, 2, [(1900001000, (G3 21 0 [(0, one (.slc 5 (.int .u8) a0)), (2, one (.nilS)), (6, one (.slc 5 (.int .u8) a0))])), (0, (G3 0 0 []))]⟩
theorem Dn6 (k n : Nat) (v3 : Int) (v4 : List Int) (v5 : Int) (v6 : Int) (xs7 : List Int) : Ak3 k (n + 1) v3 v4 v5 v6 xs7 = A59 k (Ak3 k n) v3 v4 v5 v6 xs7 := by kernel_rfl
theorem Dn7 (k n : Nat) (a0 : List Int) (v1 : Int) (v2 : Int) : s8 k (n + 1) a0 v1 v2 = A60 k (s8 k n) (Ak3 k n) a0 v1 v2 := by kernel_rfl
theorem Ci4 (k : Nat) : ∀ n : Nat, Ak3 k n = T0 k n ∧ s8 k n = T1 k n
 | 0 => ⟨(by funext v3 v4 v5 v6 xs7; rfl), (by funext a0 v1 v2; rfl)⟩
 | n + 1 => by
  obtain ⟨h1, h0⟩ := Ci4 k n
  exact ⟨(by funext v3 v4 v5 v6 xs7; rw [Dn6, h1] <;> rfl), (by funext a0 v1 v2; rw [Dn7, h0, h1] <;> rfl)⟩
theorem D43 (k : Nat) (a0 : List Int) : C5 (j1 k) Ag1 k 19 [B5 (.slice 5 (.int .u8)) a0] ms0 = Cb9 k (s8 k k) a0 := by kernel_rfl
theorem D44 (k : Nat) (a0 : List Int) : C5 (j1 k) Ag1 k 19 [B5 (.slice 5 (.int .u8)) a0] ms0 = X9 k a0 := by rw [D43, show s8 k k = T1 k k from (Ci4 k k).2] <;> rfl
noncomputable def B83 (k : Nat) : Spec := .imm (.slice 5 (.int .u8)) fun (a0 : List Int) => .body (X9 k a0) (E5 [(.slice 3 (.int .i64))] [.o])
noncomputable def Au0 (k : Nat) : Cfg := { eqs := [], tab := [(3, (.int .i64)), (9, .str), (24, (.slice 99 H2)), (26, E6), (49, (.slice 3 (.int .i64))), (99, H2)], spec := [(53, Bm3 k)], mspec := [], inl := [(66, Tryz.f66)], keep := [(6600001005, [1, 2, 4, 6, 7])], join := [], hold := [(6600001005, [(6, [0, 0], 99, H2, false, false)])], ptrs := [], maps := [], fuel := k }
noncomputable def Bi8 : VV → Ms → Option (B3 × Bool) := F6 [E6, .bool] [.o]
noncomputable def Aj5 (k n : Nat) (a1 : List Int) (v1 : Int) (a0 : B3) (xs2 : List B1) : Option (B3 × Bool) := P3 (Au0 k) Bi8 n true 6600001005 (cd [1, 1, 1, 0, 1, 0, 0] (bo Tryz.f66)) [.b 0, .s (cd [1, 1, 1, 1] (bo Tryz.f66)), .fn Tryz.f66] ⟨⟨(G3 63 0 [(1, one (.slc 3 (.int .i64) a1)), (2, one (.ptr 9000000 0)), (4, one (.ptr 9000001 0)), (6, one (.ptr 9000002 0)), (7, one (.int .i64 v1))]), [(9000000, .box [.slc 99 H2 a0.1]), (9000001, .box [.nilS]), (9000002, .box [.row 9000003 none none]), (9000003, .row 99 H2 xs2 true)]⟩, 6600001000, 1, [(0, (G3 0 0 []))]⟩
theorem Ef8 (k n : Nat) (a1 : List Int) (v1 : Int) (a0 : B3) (xs2 : List B1) : Aj5 k (n + 1) a1 v1 a0 xs2 = Bp1 k (Aj5 k n) a1 v1 a0 xs2 := by kernel_rfl
theorem C68 (k : Nat) : ∀ n : Nat, Aj5 k n = U6 k n
 | 0 => (by funext a1 v1 a0 xs2; rfl)
 | n + 1 => by
  obtain h0 := C68 k n
  exact (by funext a1 v1 a0 xs2; rw [Ef8, h0] <;> rfl)
theorem E39 (k : Nat) (a0 : B3) (a1 : List Int) : C5 (Au0 k) Bi8 k 66 [B5 E6 a0, B5 (.slice 3 (.int .i64)) a1] ms0 = C06 k (Aj5 k k) a0 a1 := by kernel_rfl
theorem E40 (k : Nat) (a0 : B3) (a1 : List Int) : C5 (Au0 k) Bi8 k 66 [B5 E6 a0, B5 (.slice 3 (.int .i64)) a1] ms0 = Be9 k a0 a1 := by rw [E39, show Aj5 k k = U6 k k from (C68 k k)] <;> rfl
noncomputable def Cs1 (k : Nat) : Spec := .imm E6 fun (a0 : B3) => .imm (.slice 3 (.int .i64)) fun (a1 : List Int) => .body (Be9 k a0 a1) (E5 [E6, .bool] [.o])
noncomputable def Ci5 (k : Nat) : Cfg := { eqs := [], tab := [(26, E6), (40, (.slice 93 Ag7))], spec := [(15, Ce5 k), (55, H7 k), (66, Cs1 k)], mspec := [], inl := [(20, Tryz.f20)], keep := [], join := [], hold := [], ptrs := [], maps := [], fuel := k }
noncomputable def Ef9 : VV → Ms → Option (B3 × Bool) := F6 [E6, .bool] [.o]
theorem Ft7 (k : Nat) (a0 : B3) (a1 : List I4) (a2 : Int) (a3 : List Int) : C5 (Ci5 k) Ef9 k 20 [B5 E6 a0, B5 (.slice 93 Ag7) a1, B5 (.int .i64) a2, B5 (.slice 3 (.int .i64)) a3] ms0 = Am6 k a0 a1 a2 a3 := by kernel_rfl
noncomputable def C69 (k : Nat) : Spec := .imm E6 fun (a0 : B3) => .imm (.slice 93 Ag7) fun (a1 : List I4) => .imm (.int .i64) fun (a2 : Int) => .imm (.slice 3 (.int .i64)) fun (a3 : List Int) => .body (Am6 k a0 a1 a2 a3) (E5 [E6, .bool] [.o])
noncomputable def Bw5 (k : Nat) : Cfg := { eqs := [], tab := [(3, (.int .i64)), (49, (.slice 3 (.int .i64)))], spec := [], mspec := [], inl := [(21, Tryz.f21)], keep := [(2100001003, [0, 3, 4])], join := [], hold := [], ptrs := [], maps := [], fuel := k }
noncomputable def Ci6 : VV → Ms → Option (List Int) := F6 [(.slice 3 (.int .i64))] [.o]
noncomputable def Bi9 (k n : Nat) (a0 : List Int) (v1 : Int) (xs2 : List Int) : Option (List Int) := P3 (Bw5 k) Ci6 n true 2100001003 (cd [1, 1, 0, 1, 0, 0] (bo Tryz.f21)) [.b 0, .s (cd [1, 1, 1] (bo Tryz.f21)), .fn Tryz.f21] ⟨⟨(G3 19 0 [(0, one (.slc 3 (.int .i64) a0)), (3, one (.row 9000000 none none)), (4, one (.int .i64 v1))]), [(9000000, .row 3 (.int .i64) xs2 true)]⟩, 2100001000, 1, [(0, (G3 0 0 []))]⟩
theorem Gf1 (k n : Nat) (a0 : List Int) (v1 : Int) (xs2 : List Int) : Bi9 k (n + 1) a0 v1 xs2 = Cu1 k (Bi9 k n) a0 v1 xs2 := by kernel_rfl
theorem Ep8 (k : Nat) : ∀ n : Nat, Bi9 k n = Al2 k n
 | 0 => (by funext a0 v1 xs2; rfl)
 | n + 1 => by
  obtain h0 := Ep8 k n
  exact (by funext a0 v1 xs2; rw [Gf1, h0] <;> rfl)
theorem G41 (k : Nat) (a0 : List Int) : C5 (Bw5 k) Ci6 k 21 [B5 (.slice 3 (.int .i64)) a0] ms0 = Em9 k (Bi9 k k) a0 := by kernel_rfl
theorem G42 (k : Nat) (a0 : List Int) : C5 (Bw5 k) Ci6 k 21 [B5 (.slice 3 (.int .i64)) a0] ms0 = Bl6 k a0 := by rw [G41, show Bi9 k k = Al2 k k from (Ep8 k k)] <;> rfl
noncomputable def D45 (k : Nat) : Spec := .imm (.slice 3 (.int .i64)) fun (a0 : List Int) => .body (Bl6 k a0) (E5 [(.slice 3 (.int .i64))] [.o])
noncomputable def s9 (k : Nat) : Cfg := { eqs := [], tab := [(3, (.int .i64)), (5, (.int .u8)), (9, .str)], spec := [(100, Ba6 k)], mspec := [], inl := [(125, Tryz.f125)], keep := [(12500001005, [0, 4, 5])], join := [], hold := [], ptrs := [], maps := [], fuel := k }
noncomputable def Au1 : VV → Ms → Option (Int × Bool) := F6 [(.int .i64), .bool] []
noncomputable def j2 (k n : Nat) (a0 : ByteArray) (v1 : Int) (v2 : Int) : Option (Int × Bool) := P3 (s9 k) Au1 n true 12500001005 (cd [1, 1, 1, 0, 1, 0, 0] (bo Tryz.f125)) [.b 0, .s (cd [1, 1, 1, 1] (bo Tryz.f125)), .fn Tryz.f125] ⟨⟨(G3 42 0 [(0, one (.str a0)), (4, one (.int .i64 v1)), (5, one (.int .i64 v2))]), []⟩, 12500001000, 1, [(0, (G3 0 0 []))]⟩
theorem Db6 (k n : Nat) (a0 : ByteArray) (v1 : Int) (v2 : Int) : j2 k (n + 1) a0 v1 v2 = Bu7 k (j2 k n) a0 v1 v2 := by kernel_rfl
theorem B84 (k : Nat) : ∀ n : Nat, j2 k n = Af1 k n
 | 0 => (by funext a0 v1 v2; rfl)
 | n + 1 => by
  obtain h0 := B84 k n
  exact (by funext a0 v1 v2; rw [Db6, h0] <;> rfl)
theorem Dn8 (k : Nat) (a0 : ByteArray) : C5 (s9 k) Au1 k 125 [B5 .str a0] ms0 = B71 k (j2 k k) a0 := by kernel_rfl
theorem Dn9 (k : Nat) (a0 : ByteArray) : C5 (s9 k) Au1 k 125 [B5 .str a0] ms0 = Az5 k a0 := by rw [Dn8, show j2 k k = Af1 k k from (B84 k k)] <;> rfl
noncomputable def Bw6 (k : Nat) : Spec := .imm .str fun (a0 : ByteArray) => .body (Az5 k a0) (E5 [(.int .i64), .bool] [])
noncomputable def B63 (k : Nat) : Cfg := { eqs := [], tab := [(9, .str)], spec := [(73, Br3 k), (125, Bw6 k)], mspec := [], inl := [(82, Tryz.f82)], keep := [], join := [], hold := [], ptrs := [], maps := [], fuel := k }
noncomputable def D46 : VV → Ms → Option Int := F6 [(.int .i64)] []
theorem E41 (k : Nat) (a0 : ByteArray) : C5 (B63 k) D46 k 82 [B5 .str a0] ms0 = Ac0 k a0 := by kernel_rfl
noncomputable def Cs2 (k : Nat) : Spec := .imm .str fun (a0 : ByteArray) => .body (Ac0 k a0) (E5 [(.int .i64)] [])
noncomputable def B64 (k : Nat) : Cfg := { eqs := [], tab := [(9, .str)], spec := [(144, B51 k), (145, Cv3 k)], mspec := [], inl := [(126, Tryz.f126)], keep := [], join := [], hold := [], ptrs := [], maps := [], fuel := k }
noncomputable def D47 : VV → Ms → Option (ByteArray × Bool) := F6 [.str, .bool] []
theorem E42 (k : Nat) (a0 : ByteArray) : C5 (B64 k) D47 k 126 [B5 .str a0] ms0 = Ax2 k a0 := by kernel_rfl
noncomputable def Cs3 (k : Nat) : Spec := .imm .str fun (a0 : ByteArray) => .body (Ax2 k a0) (E5 [.str, .bool] [])
noncomputable def A51 (k : Nat) : Cfg := { eqs := [], tab := [(3, (.int .i64)), (5, (.int .u8)), (9, .str)], spec := [(55, H7 k), (109, Ac5 k)], mspec := [], inl := [(139, Tryz.f139)], keep := [(13900001006, [0, 1, 7, 8, 9])], join := [], hold := [], ptrs := [], maps := [], fuel := k }
noncomputable def Br9 : VV → Ms → Option (Int × Int × Bool) := F6 [(.int .i64), (.int .i64), .bool] []
noncomputable def Au2 (k n : Nat) (a0 : ByteArray) (a1 : Int) (v1 : Int) (v2 : Int) (v3 : Int) : Option (Int × Int × Bool) := P3 (A51 k) Br9 n true 13900001006 (cd [1, 1, 1, 1, 0, 1, 0, 0] (bo Tryz.f139)) [.b 0, .s (cd [1, 1, 1, 1, 1] (bo Tryz.f139)), .fn Tryz.f139] ⟨⟨(G3 58 0 [(0, one (.str a0)), (1, one (.int .i64 a1)), (7, one (.int .i64 v1)), (8, one (.int .i64 v2)), (9, one (.int .i64 v3))]), []⟩, 13900001000, 1, [(0, (G3 0 0 []))]⟩
theorem E43 (k n : Nat) (a0 : ByteArray) (a1 : Int) (v1 : Int) (v2 : Int) (v3 : Int) : Au2 k (n + 1) a0 a1 v1 v2 v3 = Ap5 k (Au2 k n) a0 a1 v1 v2 v3 := by kernel_rfl
theorem Dk8 (k : Nat) : ∀ n : Nat, Au2 k n = R7 k n
 | 0 => (by funext a0 a1 v1 v2 v3; rfl)
 | n + 1 => by
  obtain h0 := Dk8 k n
  exact (by funext a0 a1 v1 v2 v3; rw [E43, h0] <;> rfl)
theorem Ft8 (k : Nat) (a0 : ByteArray) (a1 : Int) : C5 (A51 k) Br9 k 139 [B5 .str a0, B5 (.int .i64) a1] ms0 = Cc0 k (Au2 k k) a0 a1 := by kernel_rfl
theorem Ft9 (k : Nat) (a0 : ByteArray) (a1 : Int) : C5 (A51 k) Br9 k 139 [B5 .str a0, B5 (.int .i64) a1] ms0 = Bc5 k a0 a1 := by rw [Ft8, show Au2 k k = R7 k k from (Dk8 k k)] <;> rfl
noncomputable def C70 (k : Nat) : Spec := .imm .str fun (a0 : ByteArray) => .imm (.int .i64) fun (a1 : Int) => .body (Bc5 k a0 a1) (E5 [(.int .i64), (.int .i64), .bool] [])
noncomputable def Cw0 (k : Nat) : Cfg := { eqs := [], tab := [(3, (.int .i64)), (4, .bool), (9, .str), (176, G7)], spec := [(139, C70 k)], mspec := [], inl := [(127, Tryz.f127)], keep := [], join := [], hold := [], ptrs := [], maps := [], fuel := k }
noncomputable def E44 : VV → Ms → Option (Int × K7 × Unit) := Ca5 [(.int .i64)] [] [.box G7]
theorem Gf2 (k : Nat) (a0 : K7) : C5 (Cw0 k) E44 k 127 (S1 1 [.box G7] (a0, ())) (ms1 [.box G7] (a0, ())) = Bf0 k a0 := by kernel_rfl
noncomputable def Ci7 (k : Nat) : MSpec := .box G7 fun (a0 : K7) => .body (Bf0 k a0) (fun r => E5 [(.int .i64)] [] r.1) (fun r => poV [.box G7] r.2)
noncomputable def Au3 (k : Nat) : Cfg := { eqs := [], tab := [(3, (.int .i64)), (5, (.int .u8)), (9, .str), (49, (.slice 3 (.int .i64)))], spec := [(159, Ch3 k)], mspec := [], inl := [(128, Tryz.f128)], keep := [(12800001003, [0, 4, 5])], join := [], hold := [], ptrs := [], maps := [], fuel := k }
noncomputable def Bj0 : VV → Ms → Option (List Int × Bool) := F6 [(.slice 3 (.int .i64)), .bool] [.o]
noncomputable def Aj6 (k n : Nat) (a0 : ByteArray) (v1 : Int) (xs2 : List Int) : Option (List Int × Bool) := P3 (Au3 k) Bj0 n true 12800001003 (cd [1, 1, 0, 1, 0, 0] (bo Tryz.f128)) [.b 0, .s (cd [1, 1, 1] (bo Tryz.f128)), .fn Tryz.f128] ⟨⟨(G3 36 0 [(0, one (.str a0)), (4, one (.row 9000000 none none)), (5, one (.int .i64 v1))]), [(9000000, .row 3 (.int .i64) xs2 true)]⟩, 12800001000, 1, [(0, (G3 0 0 []))]⟩
theorem Eg0 (k n : Nat) (a0 : ByteArray) (v1 : Int) (xs2 : List Int) : Aj6 k (n + 1) a0 v1 xs2 = Bp2 k (Aj6 k n) a0 v1 xs2 := by kernel_rfl
theorem C71 (k : Nat) : ∀ n : Nat, Aj6 k n = Z6 k n
 | 0 => (by funext a0 v1 xs2; rfl)
 | n + 1 => by
  obtain h0 := C71 k n
  exact (by funext a0 v1 xs2; rw [Eg0, h0] <;> rfl)
theorem E45 (k : Nat) (a0 : ByteArray) : C5 (Au3 k) Bj0 k 128 [B5 .str a0] ms0 = C07 k (Aj6 k k) a0 := by kernel_rfl
theorem E46 (k : Nat) (a0 : ByteArray) : C5 (Au3 k) Bj0 k 128 [B5 .str a0] ms0 = Bf1 k a0 := by rw [E45, show Aj6 k k = Z6 k k from (C71 k k)] <;> rfl
noncomputable def Cs4 (k : Nat) : Spec := .imm .str fun (a0 : ByteArray) => .body (Bf1 k a0) (E5 [(.slice 3 (.int .i64)), .bool] [.o])
noncomputable def Ci8 (k : Nat) : Cfg := { eqs := [], tab := [(3, (.int .i64)), (4, .bool), (9, .str), (176, G7)], spec := [], mspec := [], inl := [(140, Tryz.f140)], keep := [], join := [], hold := [], ptrs := [], maps := [], fuel := k }
noncomputable def Eg1 : VV → Ms → Option (ByteArray × K7 × Unit) := Ca5 [.str] [] [.box G7, .imm (.int .i64)]
theorem Fu0 (k : Nat) (a0 : K7) (a1 : Int) : C5 (Ci8 k) Eg1 k 140 (S1 1 [.box G7, .imm (.int .i64)] (a0, a1, ())) (ms1 [.box G7, .imm (.int .i64)] (a0, a1, ())) = Ax3 k a0 a1 := by kernel_rfl
noncomputable def C72 (k : Nat) : MSpec := .box G7 fun (a0 : K7) => .imm (.int .i64) fun (a1 : Int) => .body (Ax3 k a0 a1) (fun r => E5 [.str] [] r.1) (fun r => poV [.box G7, .imm (.int .i64)] r.2)
noncomputable def Ay7 (k : Nat) : Cfg := { eqs := [], tab := [], spec := [], mspec := [(127, Ci7 k), (140, C72 k)], inl := [(129, Tryz.f129)], keep := [], join := [], hold := [], ptrs := [], maps := [], fuel := k }
noncomputable def Cw1 : VV → Ms → Option (ByteArray × K7 × Unit) := Ca5 [.str] [] [.box G7]
theorem Db7 (k : Nat) (a0 : K7) : C5 (Ay7 k) Cw1 k 129 (S1 1 [.box G7] (a0, ())) (ms1 [.box G7] (a0, ())) = V8 k a0 := by kernel_rfl
noncomputable def Bn1 (k : Nat) : MSpec := .box G7 fun (a0 : K7) => .body (V8 k a0) (fun r => E5 [.str] [] r.1) (fun r => poV [.box G7] r.2)
noncomputable def B65 (k : Nat) : Cfg := { eqs := [], tab := [(3, (.int .i64)), (4, .bool), (9, .str), (49, (.slice 3 (.int .i64))), (56, Q3), (176, G7)], spec := [(71, Br2 k), (126, Cs3 k), (128, Cs4 k)], mspec := [(127, Ci7 k), (129, Bn1 k)], inl := [(83, Tryz.f83)], keep := [], join := [], hold := [], ptrs := [], maps := [], fuel := k }
noncomputable def D48 : VV → Ms → Option (D8 × Bool) := F6 [Q3, .bool] [.o]
theorem E47 (k : Nat) (a0 : ByteArray) : C5 (B65 k) D48 k 83 [B5 .str a0] ms0 = Ax4 k a0 := by kernel_rfl
noncomputable def Cs5 (k : Nat) : Spec := .imm .str fun (a0 : ByteArray) => .body (Ax4 k a0) (E5 [Q3, .bool] [.o])
noncomputable def Ad9 (k : Nat) : Cfg := { eqs := [], tab := [(3, (.int .i64)), (9, .str), (24, (.slice 99 H2)), (26, E6), (56, Q3), (99, H2)], spec := [(53, Bm3 k), (82, Cs2 k), (83, Cs5 k)], mspec := [], inl := [(31, Tryz.f31)], keep := [(3100001003, [1, 2, 4, 5])], join := [], hold := [(3100001003, [(4, [0, 2], 3, (.int .i64), false, false)])], ptrs := [], maps := [], fuel := k }
noncomputable def Ay8 : VV → Ms → Option (D8 × Bool) := F6 [Q3, .bool] [.o]
noncomputable def t6 (k n : Nat) (v1 : Int) (a0 : B3) (v2 : Int) (v3 : Int) (v4 : ByteArray) (xs5 : List Int) : Option (D8 × Bool) := P3 (Ad9 k) Ay8 n true 3100001003 (cd [1, 1, 0, 1, 0, 0] (bo Tryz.f31)) [.b 0, .s (cd [1, 1, 1] (bo Tryz.f31)), .fn Tryz.f31] ⟨⟨(G3 61 0 [(1, one (.ptr 9000000 0)), (2, one (.ptr 9000001 0)), (4, one (.ptr 9000002 0)), (5, one (.int .i64 v1))]), [(9000000, .box [.slc 99 H2 a0.1]), (9000001, .box [.int .i64 0, .int .i64 0, .nilS, .str ByteArray.empty]), (9000002, .box [.int .i64 v2, .int .i64 v3, .row 9000003 none none, .str v4]), (9000003, .row 3 (.int .i64) xs5 true)]⟩, 3100001000, 1, [(0, (G3 0 0 []))]⟩
theorem Do0 (k n : Nat) (v1 : Int) (a0 : B3) (v2 : Int) (v3 : Int) (v4 : ByteArray) (xs5 : List Int) : t6 k (n + 1) v1 a0 v2 v3 v4 xs5 = A61 k (t6 k n) v1 a0 v2 v3 v4 xs5 := by kernel_rfl
theorem Ci9 (k : Nat) : ∀ n : Nat, t6 k n = P2 k n
 | 0 => (by funext v1 a0 v2 v3 v4 xs5; rfl)
 | n + 1 => by
  obtain h0 := Ci9 k n
  exact (by funext v1 a0 v2 v3 v4 xs5; rw [Do0, h0] <;> rfl)
theorem D49 (k : Nat) (a0 : B3) : C5 (Ad9 k) Ay8 k 31 [B5 E6 a0] ms0 = Cc1 k (t6 k k) a0 := by kernel_rfl
theorem D50 (k : Nat) (a0 : B3) : C5 (Ad9 k) Ay8 k 31 [B5 E6 a0] ms0 = D6 k a0 := by rw [D49, show t6 k k = P2 k k from (Ci9 k k)] <;> rfl
noncomputable def B85 (k : Nat) : Spec := .imm E6 fun (a0 : B3) => .body (D6 k a0) (E5 [Q3, .bool] [.o])
noncomputable def Bj1 (k : Nat) : Cfg := { eqs := [], tab := [(3, (.int .i64)), (4, .bool), (9, .str), (26, E6), (40, (.slice 93 Ag7)), (49, (.slice 3 (.int .i64))), (56, Q3)], spec := [(7, Fl4 k), (15, Ce5 k), (19, B83 k), (20, C69 k), (21, D45 k), (23, A73 k), (27, Cr9 k), (28, A71 k), (29, Cs0 k), (31, B85 k)], mspec := [], inl := [(6, Tryz.f6)], keep := [], join := [], hold := [], ptrs := [], maps := [], fuel := k }
noncomputable def Db8 : VV → Ms → Option Bool := F6 [.bool] []
theorem D51 (k : Nat) (a0 : List Int) : C5 (Bj1 k) Db8 k 6 [B5 (.slice 5 (.int .u8)) a0] ms0 = Af2 k a0 := by kernel_rfl
noncomputable def Do1 (k : Nat) : Spec := .imm (.slice 5 (.int .u8)) fun (a0 : List Int) => .body (Af2 k a0) (E5 [.bool] [])
end Go.Vm
end
