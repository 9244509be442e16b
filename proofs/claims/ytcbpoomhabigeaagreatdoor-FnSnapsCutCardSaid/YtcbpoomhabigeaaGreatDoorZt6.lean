/- The library: by its contract. -/
import Derived.Test.YtcbpoomhabigeaaGreatDoorZt5
import Derived.Shelf.Strconv.Itoa3
import Derived.Shelf.Strconv.Atoi
import Derived.Shelf.Strconv.AtoiErr
import Derived.Test.YtcbpoomhabigeaaGreatDoorProg
import Derived.Test.YtcbpoomhabigeaaGreatDoorChecked
import Derived.WalkKit
import Derived.BigCall
set_option linter.all false
section
section
namespace Go.Vm
open Go
theorem Hq6 {ok : Nat → Prop} {w : World} {n : Int} {v : Value} (hv : Bn7 ok w (.int .i64) n v) : v = .int .i64 n := by
 obtain ⟨cs, h1, h2⟩ := hv
 have h1 : cs = [.int .i64 n] := h1
 subst h1
 rcases h2 with ⟨h, _⟩ | ⟨_, h2⟩
 ·cases h
 ·simpa using h2.symm
theorem Hq7 {ok : Nat → Prop} {w : World} {s : ByteArray} {v : Value} (hv : Bn7 ok w .str s v) : v = .string s := by
 obtain ⟨cs, h1, h2⟩ := hv
 have h1 : cs = [.string s] := h1
 subst h1
 rcases h2 with ⟨h, _⟩ | ⟨_, h2⟩
 ·cases h
 ·simpa using h2.symm
theorem G43 {P : Program} {ρ : Go.Shelf.Ren} (L : Go.Proofs.Lays.n171 P ρ) : A09 P (ρ.f 171) (By7 (E5 [.str] []) [.int .i64] fun x => Ej5 x.1) := by
 intro ok w hok _ n v hv a ha
 have hv := Hq6 hv
 subst hv
 have ha : Ej5 n = some a := ha
 unfold Ej5 at ha
 by_cases q : 0 ≤ n ∧ n < 100
 ·rw [if_pos q] at ha
  cases ha
  obtain ⟨q1, q2⟩ := q
  obtain ⟨m, rfl⟩ : ∃ m : Nat, n = m := ⟨n.toNat, (Int.toNat_of_nonneg q1).symm⟩
  have hm : m < 100 := Int.ofNat_lt.1 q2
  refine (Go.Proofs.Any.strconv_Itoa_small L m hm w).mono ?_
  rintro e w' ⟨rfl, rfl⟩
  refine ⟨_, rfl, rfl, rfl, rfl, Nat.le_refl _, fun _ _ => rfl, fun _ => False, [.string (W5 m)], [], fun b h => h.elim, ?_, .nil, (fun b hb => by cases hb), rfl⟩
  exact ResRel.cons (a := false) (rs := [RC.c (.str (W5 m))]) (vs := [.string (W5 m)]) (bs := []) (r := []) (Vs := []) (bs' := []) (.cons (bs := []) ⟨rfl, rfl⟩ .nil) (.inr ⟨rfl, rfl⟩) .nil
 ·rw [if_neg q] at ha; cases ha
end Go.Vm
end
end
section
namespace Go.Proofs
open Go.Shelf
def Tryz.itoaL_ren : Go.Shelf.Ren := ⟨fun | 171 => 114 | 243 => 148 | 246 => 167 | 283 => 186 | 284 => 187 | 285 => 188 | 286 => 189 | 129 => 214 | 317 => 213 | 318 => 215 | 319 => 216 | 320 => 217 | 337 => 228 | 338 => 229 | n => n, fun | 3 => 3 | 9 => 9 | 2 => 2 | 4 => 4 | 171 => 226 | 0 => 0 | 53 => 227 | 37 => 22 | 5 => 5 | 173 => 230 | 212 => 255 | 51 => 139 | 20 => 20 | 213 => 256 | 46 => 141 | 232 => 279 | 233 => 280 | n => n, fun | 17 => 2 | 18 => 3 | 19 => 4 | n => n⟩
theorem Tryz.itoaL : Go.Proofs.Lays.n171 Tryz.prog Tryz.itoaL_ren := {
 mixed := by kernel_rfl
 f129 := Tryz.func214.trans (congrArg some (by kernel_rfl))
 f171 := Tryz.func114.trans (congrArg some (by kernel_rfl))
 f243 := Tryz.func148.trans (congrArg some (by kernel_rfl))
 f246 := Tryz.func167.trans (congrArg some (by kernel_rfl))
 f283 := Tryz.func186.trans (congrArg some (by kernel_rfl))
 f284 := Tryz.func187.trans (congrArg some (by kernel_rfl))
 f285 := Tryz.func188.trans (congrArg some (by kernel_rfl))
 f286 := Tryz.func189.trans (congrArg some (by kernel_rfl))
 f317 := Tryz.func213.trans (congrArg some (by kernel_rfl))
 f318 := Tryz.func215.trans (congrArg some (by kernel_rfl))
 f319 := Tryz.func216.trans (congrArg some (by kernel_rfl))
 f320 := Tryz.func217.trans (congrArg some (by kernel_rfl))
 f337 := Tryz.func228.trans (congrArg some (by kernel_rfl))
 f338 := Tryz.func229.trans (congrArg some (by kernel_rfl))
 t0 := Tryz.underlying0
 a0 := Tryz.isAgg0
 z0 := Tryz.sizeOf0
 v0 := Tryz.zeroValue0
 t2 := Tryz.underlying2
 a2 := Tryz.isAgg2
 z2 := Tryz.sizeOf2
 v2 := Tryz.zeroValue2
 t3 := Tryz.underlying3
 a3 := Tryz.isAgg3
 z3 := Tryz.sizeOf3
 v3 := Tryz.zeroValue3
 t4 := Tryz.underlying4
 a4 := Tryz.isAgg4
 z4 := Tryz.sizeOf4
 v4 := Tryz.zeroValue4
 t5 := Tryz.underlying5
 a5 := Tryz.isAgg5
 z5 := Tryz.sizeOf5
 v5 := Tryz.zeroValue5
 t9 := Tryz.underlying9
 a9 := Tryz.isAgg9
 z9 := Tryz.sizeOf9
 v9 := Tryz.zeroValue9
 t20 := Tryz.underlying20
 a20 := Tryz.isAgg20
 z20 := Tryz.sizeOf20
 v20 := Tryz.zeroValue20
 t37 := Tryz.underlying22
 a37 := Tryz.isAgg22
 z37 := Tryz.sizeOf22
 v37 := Tryz.zeroValue22
 t46 := Tryz.underlying141
 a46 := Tryz.isAgg141
 z46 := Tryz.sizeOf141
 v46 := Tryz.zeroValue141
 t51 := Tryz.underlying139
 a51 := Tryz.isAgg139
 z51 := Tryz.sizeOf139
 v51 := Tryz.zeroValue139
 t53 := Tryz.underlying227
 a53 := Tryz.isAgg227
 z53 := Tryz.sizeOf227
 v53 := Tryz.zeroValue227
 t171 := Tryz.underlying226
 a171 := Tryz.isAgg226
 z171 := Tryz.sizeOf226
 v171 := Tryz.zeroValue226
 t173 := Tryz.underlying230
 a173 := Tryz.isAgg230
 z173 := Tryz.sizeOf230
 v173 := Tryz.zeroValue230
 t212 := Tryz.underlying255
 a212 := Tryz.isAgg255
 z212 := Tryz.sizeOf255
 v212 := Tryz.zeroValue255
 t213 := Tryz.underlying256
 a213 := Tryz.isAgg256
 z213 := Tryz.sizeOf256
 t232 := Tryz.underlying279
 a232 := Tryz.isAgg279
 z232 := Tryz.sizeOf279
 v232 := Tryz.zeroValue279
 t233 := Tryz.underlying280
 a233 := Tryz.isAgg280
 z233 := Tryz.sizeOf280
 v233 := Tryz.zeroValue280
 g17 := by kernel_rfl
 g18 := by kernel_rfl
 g19 := by kernel_rfl }
def Tryz.atoiL_ren : Go.Shelf.Ren := ⟨fun | 172 => 147 | 244 => 165 | 245 => 166 | 247 => 181 | 279 => 182 | 280 => 183 | 281 => 184 | 282 => 185 | 287 => 210 | 316 => 211 | 171 => 114 | 205 => 212 | 321 => 226 | 322 => 227 | 243 => 148 | 246 => 167 | 283 => 186 | 284 => 187 | 285 => 188 | 286 => 189 | 129 => 214 | 317 => 213 | 318 => 215 | 319 => 216 | 320 => 217 | 337 => 228 | 338 => 229 | n => n, fun | 9 => 9 | 3 => 3 | 75 => 190 | 76 => 191 | 4 => 4 | 5 => 5 | 167 => 220 | 37 => 22 | 0 => 0 | 85 => 221 | 2 => 2 | 168 => 223 | 53 => 227 | 175 => 248 | 46 => 141 | 210 => 251 | 127 => 269 | 145 => 272 | 143 => 270 | 21 => 21 | 171 => 226 | 173 => 230 | 212 => 255 | 51 => 139 | 20 => 20 | 213 => 256 | 232 => 279 | 233 => 280 | 80 => 126 | n => n, fun | 15 => 0 | 16 => 1 | 17 => 2 | 18 => 3 | 19 => 4 | n => n⟩
theorem Tryz.atoiL : Go.Proofs.LaysC.n172 Tryz.prog Tryz.atoiL_ren := {
 mixed := by kernel_rfl
 f129 := Tryz.func214.trans (congrArg some (by kernel_rfl))
 f171 := Tryz.func114.trans (congrArg some (by kernel_rfl))
 f172 := Tryz.func147.trans (congrArg some (by kernel_rfl))
 f205 := Tryz.func212.trans (congrArg some (by kernel_rfl))
 f243 := Tryz.func148.trans (congrArg some (by kernel_rfl))
 f244 := Tryz.func165.trans (congrArg some (by kernel_rfl))
 f245 := Tryz.func166.trans (congrArg some (by kernel_rfl))
 f246 := Tryz.func167.trans (congrArg some (by kernel_rfl))
 f247 := Tryz.func181.trans (congrArg some (by kernel_rfl))
 f279 := Tryz.func182.trans (congrArg some (by kernel_rfl))
 f280 := Tryz.func183.trans (congrArg some (by kernel_rfl))
 f281 := Tryz.func184.trans (congrArg some (by kernel_rfl))
 f282 := Tryz.func185.trans (congrArg some (by kernel_rfl))
 f283 := Tryz.func186.trans (congrArg some (by kernel_rfl))
 f284 := Tryz.func187.trans (congrArg some (by kernel_rfl))
 f285 := Tryz.func188.trans (congrArg some (by kernel_rfl))
 f286 := Tryz.func189.trans (congrArg some (by kernel_rfl))
 f287 := Tryz.func210.trans (congrArg some (by kernel_rfl))
 f316 := Tryz.func211.trans (congrArg some (by kernel_rfl))
 f317 := Tryz.func213.trans (congrArg some (by kernel_rfl))
 f318 := Tryz.func215.trans (congrArg some (by kernel_rfl))
 f319 := Tryz.func216.trans (congrArg some (by kernel_rfl))
 f320 := Tryz.func217.trans (congrArg some (by kernel_rfl))
 f321 := Tryz.func226.trans (congrArg some (by kernel_rfl))
 f322 := Tryz.func227.trans (congrArg some (by kernel_rfl))
 f337 := Tryz.func228.trans (congrArg some (by kernel_rfl))
 f338 := Tryz.func229.trans (congrArg some (by kernel_rfl))
 t0 := Tryz.underlying0
 a0 := Tryz.isAgg0
 z0 := Tryz.sizeOf0
 v0 := Tryz.zeroValue0
 t2 := Tryz.underlying2
 a2 := Tryz.isAgg2
 z2 := Tryz.sizeOf2
 v2 := Tryz.zeroValue2
 t3 := Tryz.underlying3
 a3 := Tryz.isAgg3
 z3 := Tryz.sizeOf3
 v3 := Tryz.zeroValue3
 t4 := Tryz.underlying4
 a4 := Tryz.isAgg4
 z4 := Tryz.sizeOf4
 v4 := Tryz.zeroValue4
 t5 := Tryz.underlying5
 a5 := Tryz.isAgg5
 z5 := Tryz.sizeOf5
 v5 := Tryz.zeroValue5
 t9 := Tryz.underlying9
 a9 := Tryz.isAgg9
 z9 := Tryz.sizeOf9
 v9 := Tryz.zeroValue9
 t20 := Tryz.underlying20
 a20 := Tryz.isAgg20
 z20 := Tryz.sizeOf20
 v20 := Tryz.zeroValue20
 t21 := Tryz.underlying21
 a21 := Tryz.isAgg21
 z21 := Tryz.sizeOf21
 v21 := Tryz.zeroValue21
 t37 := Tryz.underlying22
 a37 := Tryz.isAgg22
 z37 := Tryz.sizeOf22
 v37 := Tryz.zeroValue22
 t46 := Tryz.underlying141
 a46 := Tryz.isAgg141
 z46 := Tryz.sizeOf141
 v46 := Tryz.zeroValue141
 t51 := Tryz.underlying139
 a51 := Tryz.isAgg139
 z51 := Tryz.sizeOf139
 v51 := Tryz.zeroValue139
 t53 := Tryz.underlying227
 a53 := Tryz.isAgg227
 z53 := Tryz.sizeOf227
 v53 := Tryz.zeroValue227
 t75 := Tryz.underlying190
 a75 := Tryz.isAgg190
 z75 := Tryz.sizeOf190
 v75 := Tryz.zeroValue190
 t76 := Tryz.underlying191
 a76 := Tryz.isAgg191
 z76 := Tryz.sizeOf191
 v76 := Tryz.zeroValue191
 t85 := Tryz.underlying221
 a85 := Tryz.isAgg221
 z85 := Tryz.sizeOf221
 v85 := Tryz.zeroValue221
 t127 := Tryz.underlying269
 a127 := Tryz.isAgg269
 z127 := Tryz.sizeOf269
 v127 := Tryz.zeroValue269
 t143 := Tryz.underlying270
 a143 := Tryz.isAgg270
 z143 := Tryz.sizeOf270
 v143 := Tryz.zeroValue270
 t145 := Tryz.underlying272
 a145 := Tryz.isAgg272
 z145 := Tryz.sizeOf272
 v145 := Tryz.zeroValue272
 t167 := Tryz.underlying220
 a167 := Tryz.isAgg220
 z167 := Tryz.sizeOf220
 v167 := Tryz.zeroValue220
 t168 := Tryz.underlying223
 a168 := Tryz.isAgg223
 z168 := Tryz.sizeOf223
 v168 := Tryz.zeroValue223
 t171 := Tryz.underlying226
 a171 := Tryz.isAgg226
 z171 := Tryz.sizeOf226
 v171 := Tryz.zeroValue226
 t173 := Tryz.underlying230
 a173 := Tryz.isAgg230
 z173 := Tryz.sizeOf230
 v173 := Tryz.zeroValue230
 t175 := Tryz.underlying248
 a175 := Tryz.isAgg248
 z175 := Tryz.sizeOf248
 v175 := Tryz.zeroValue248
 t210 := Tryz.underlying251
 a210 := Tryz.isAgg251
 z210 := Tryz.sizeOf251
 v210 := Tryz.zeroValue251
 t212 := Tryz.underlying255
 a212 := Tryz.isAgg255
 z212 := Tryz.sizeOf255
 v212 := Tryz.zeroValue255
 t213 := Tryz.underlying256
 a213 := Tryz.isAgg256
 z213 := Tryz.sizeOf256
 t232 := Tryz.underlying279
 a232 := Tryz.isAgg279
 z232 := Tryz.sizeOf279
 v232 := Tryz.zeroValue279
 t233 := Tryz.underlying280
 a233 := Tryz.isAgg280
 z233 := Tryz.sizeOf280
 v233 := Tryz.zeroValue280
 g15 := by kernel_rfl
 g16 := by kernel_rfl
 g17 := by kernel_rfl
 g18 := by kernel_rfl
 g19 := by kernel_rfl
 t80 := Tryz.underlying126
 a80 := Tryz.isAgg126
 z80 := Tryz.sizeOf126
 v80 := Tryz.zeroValue126
 i0 := by kernel_rfl
 i2 := by kernel_rfl
 i3 := by kernel_rfl
 i4 := by kernel_rfl
 i5 := by kernel_rfl
 i9 := by kernel_rfl
 i20 := by kernel_rfl
 i21 := by kernel_rfl
 i37 := by kernel_rfl
 i46 := by kernel_rfl
 i51 := by kernel_rfl
 i53 := by kernel_rfl
 i75 := by kernel_rfl
 i76 := by kernel_rfl
 i80 := by kernel_rfl
 i85 := by kernel_rfl
 i127 := by kernel_rfl
 i143 := by kernel_rfl
 i145 := by kernel_rfl
 i167 := by kernel_rfl
 i168 := by kernel_rfl
 i171 := by kernel_rfl
 i173 := by kernel_rfl
 i175 := by kernel_rfl
 i210 := by kernel_rfl
 i212 := by kernel_rfl
 i232 := by kernel_rfl
 i233 := by kernel_rfl
 m15 := by kernel_rfl
 m16 := by kernel_rfl
 m17 := by kernel_rfl
 m18 := by kernel_rfl
 m19 := by kernel_rfl
 c0 := by kernel_rfl
 c2 := by kernel_rfl
 c3 := by kernel_rfl
 c4 := by kernel_rfl
 c5 := by kernel_rfl
 c9 := by kernel_rfl
 c20 := by kernel_rfl
 c21 := by kernel_rfl
 c37 := by kernel_rfl
 c46 := by kernel_rfl
 c51 := by kernel_rfl
 c53 := by kernel_rfl
 c75 := by kernel_rfl
 c76 := by kernel_rfl
 c80 := by kernel_rfl
 c85 := by kernel_rfl
 c127 := by kernel_rfl
 c143 := by kernel_rfl
 c145 := by kernel_rfl
 c167 := by kernel_rfl
 c168 := by kernel_rfl
 c171 := by kernel_rfl
 c173 := by kernel_rfl
 c175 := by kernel_rfl
 c210 := by kernel_rfl
 c212 := by kernel_rfl
 c213 := by kernel_rfl
 c232 := by kernel_rfl
 c233 := by kernel_rfl }
end Go.Proofs
end
section
namespace Go.Vm
open Go Go.Proofs Go.RowKit Go.Shelf
set_option maxRecDepth 100000
theorem Hq8 (m : Nat) (hm : m < 100) (w : World) : Calls Tryz.prog 114 #[.int .i64 m] w fun e w' => e = .returned (.string (W5 m)) ∧ w' = w := Any.strconv_Itoa_small Tryz.itoaL m hm w
theorem Hh0 (m : Nat) (hm : m < 100) (w : World) : Calls Tryz.prog 63 #[.int .i64 m] w fun e w' => e = .returned (.string (W5 m)) ∧ w' = w := by
 have mixed : Tryz.prog.follows .mixedOrders = true := Tryz.checked.mixed
 go_enter Tryz.func63, Tryz.ntmps63
 go_wp2_with (go_at_call 114; refine (Hq8 m hm _).mono ?_; rintro e w' ⟨rfl, rfl⟩)
 go_ret
 exact ⟨rfl, rfl⟩
theorem Hv9 (m : Nat) (hm : m < 100) (w : World) : Calls Tryz.prog 39 #[.int .i64 m, .int .i64 0, .int .i64 1000000000] w fun e w' => e = .returned (.bool true) ∧ w' = w := by
 have mixed : Tryz.prog.follows .mixedOrders = true := Tryz.checked.mixed
 have h1 : (0 : Int) ≤ (m : Int) := Int.natCast_nonneg m
 have h2 : (m : Int) ≤ 1000000000 := by omega
 go_enter Tryz.func39, Tryz.ntmps39
 go_wp2
 go_ret
 exact ⟨rfl, rfl⟩
theorem Gw9 (t : ByteArray) (n : Int) (hl : t.size ≤ 18) (h : Lib.atoi t.data.toList = some n) (w : World) : Calls Tryz.prog 147 #[.string t] w fun e w' => e = .returned (.tuple #[.int .i64 n, .nilIface]) ∧ ∃ q, w' = Lib.bytesWorld w 5 q := Any.strconv_Atoi { Tryz.atoiL with } t n hl h w
theorem Hw0 (t : ByteArray) (hl : t.size ≤ 18) (h : Lib.atoi t.data.toList = none) (w : World) (hw : ErrCell w 0) : Calls Tryz.prog 147 #[.string t] w fun e w' => ∃ N, e = .returned (.tuple #[.int .i64 0, .iface 223 (.pointer (some ⟨N, 0, none⟩))]) ∧ Below w.heap.size w w' := by
 obtain ⟨ev, h1, h2⟩ := hw
 refine (Any.strconv_Atoi_err Tryz.atoiL t hl h ev w h1 h2).mono ?_
 rintro e w' ⟨N, rfl, -, -, hb⟩
 exact ⟨N, rfl, hb⟩
theorem Hq9 (t : ByteArray) (hl : t.size ≤ 18) (h : Lib.atoi t.data.toList = none) (w : World) (hw : ErrCell w 0) : Calls Tryz.prog 113 #[.string t] w fun e w' => e = .returned (.tuple #[.int .i64 0, .bool false]) ∧ Below w.heap.size w w' := by
 have mixed : Tryz.prog.follows .mixedOrders = true := Tryz.checked.mixed
 go_enter Tryz.func113, Tryz.ntmps113
 go_wp2_with (go_at_call 147; refine (Hw0 t hl h _ ?_).mono ?_)
 ·exact hw
 rintro e W1 ⟨N, rfl, hb⟩
 go_wp2
 go_ret2
 exact ⟨rfl, hb⟩
theorem Hr0 (t : ByteArray) (m : Nat) (hm : m < 100) (hl : t.size ≤ 18) (h : Lib.atoi t.data.toList = some (m : Int)) (w : World) : Calls Tryz.prog 113 #[.string t] w fun e w' => e = .returned (.tuple (if W5 m = t then #[.int .i64 m, .bool true] else #[.int .i64 0, .bool false])) ∧ Below w.heap.size w w' := by
 have mixed : Tryz.prog.follows .mixedOrders = true := Tryz.checked.mixed
 by_cases q : W5 m = t
 ·rw [if_pos q]
  go_enter Tryz.func113, Tryz.ntmps113
  go_wp2_with (first | (go_at_call 147; refine (Gw9 t m hl h _).mono ?_; rintro e w' ⟨rfl, u, rfl⟩) | (go_at_call 63; refine (Hh0 m hm _).mono ?_; rintro e w' ⟨rfl, rfl⟩) | (go_at_call 39; refine (Hv9 m hm _).mono ?_; rintro e w' ⟨rfl, rfl⟩))
  go_ret2
  exact ⟨rfl, Lib.bytesWorld_below _ _ _⟩
 ·have q2 : ¬ (W5 m).toList = t.toList := fun h => q (by have := l6 (W5 m) t; rw [h, beq_self_eq_true] at this; exact of_decide_eq_true this.symm)
  rw [if_neg q]
  go_enter Tryz.func113, Tryz.ntmps113
  go_wp2_with (first | (go_at_call 147; refine (Gw9 t m hl h _).mono ?_; rintro e w' ⟨rfl, u, rfl⟩) | (go_at_call 63; refine (Hh0 m hm _).mono ?_; rintro e w' ⟨rfl, rfl⟩))
  go_ret2
  exact ⟨rfl, Lib.bytesWorld_below _ _ _⟩
theorem G44 : A09 Tryz.prog 113 (By7 (E5 [.int .i64, .bool] []) [.str] fun x => Gt6 x.1) := by
 intro ok w hok hE t v hv a ha
 have hv := Hq7 hv
 subst hv
 have ha : Gt6 t = some a := ha
 have fin : ∀ (n : Int) (b : Bool), a = (n, b) → ∀ w', Below w.heap.size w w' → Ret ok w w' (E5 [.int .i64, .bool] [] a) (.tuple #[.int .i64 n, .bool b]) := by
  rintro n b rfl w' hb
  refine ⟨hb.os, hb.tape, hb.output, hb.size, hb.block, fun _ => False, [.int .i64 n, .bool b], [], fun b h => h.elim, ?_, .nil, (fun b hb => by cases hb), rfl⟩
  exact ResRel.cons (a := false) (rs := [RC.c (.int .i64 n)]) (vs := [.int .i64 n]) (bs := []) (bs' := []) (.cons (bs := []) ⟨rfl, rfl⟩ .nil) (.inr ⟨rfl, rfl⟩)
   (ResRel.cons (a := false) (rs := [RC.c (.bool b)]) (vs := [.bool b]) (bs := []) (r := []) (Vs := []) (bs' := []) (.cons (bs := []) ⟨rfl, rfl⟩ .nil) (.inr ⟨rfl, rfl⟩) .nil)
 unfold Gt6 at ha
 by_cases hl : t.size ≤ 18
 ·rw [if_pos hl] at ha
  cases h : Lib.atoi t.data.toList with
  | none =>
   simp only [h, Option.some.injEq] at ha
   refine (Hq9 t hl h w (hE 0 rfl)).mono ?_
   rintro e w' ⟨rfl, hb⟩
   exact ⟨_, rfl, fin 0 false ha.symm w' hb⟩
  | some n =>
   simp only [h] at ha
   by_cases q : 0 ≤ n ∧ n < 100
   ·rw [if_pos q, Option.some.injEq] at ha
    obtain ⟨q1, q2⟩ := q
    obtain ⟨m, rfl⟩ : ∃ m : Nat, n = m := ⟨n.toNat, (Int.toNat_of_nonneg q1).symm⟩
    rw [Int.toNat_natCast, l6] at ha
    refine (Hr0 t m (Int.ofNat_lt.1 q2) hl h w).mono ?_
    rintro e w' ⟨rfl, hb⟩
    by_cases z : W5 m = t
    ·rw [if_pos z]
     rw [decide_eq_true z.symm] at ha
     exact ⟨_, rfl, fin m true ha.symm w' hb⟩
    ·rw [if_neg z]
     rw [decide_eq_false (fun e => z e.symm)] at ha
     exact ⟨_, rfl, fin 0 false ha.symm w' hb⟩
   ·rw [if_neg q] at ha; cases ha
 ·rw [if_neg hl] at ha; cases ha
end Go.Vm
end
