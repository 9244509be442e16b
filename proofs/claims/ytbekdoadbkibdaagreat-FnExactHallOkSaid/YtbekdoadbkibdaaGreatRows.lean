/-
  No cell of these rows narrows 'for every input' (looked for: loops, veiled, ifaces, maps, wideKeys, modest, calm, conditions, laid).
  DERIVED. THE GIVEN ROWS OF THIS SEAT. 7 by the template 'for every input the law returns true; each argument reads behind the call as it read before'; 0 by the template 'total and deterministic' (their statements: YtbekdoadbkibdaaGreatTotals.lean).
  GIVEN WITH THE SEED: the statements are not yours to turn. If you find one false, say at which input.
  Laid BY PROGRAM, IN A SANDBOX (cutbox-rows.mjs): the forced cells as the released guide's own fill.sh prints them over the translation 7231d376cefc99df… (all of the seat's roots in one cut). By AI agents, Wed Nov 11 2026. No macro, syntax, notation, axiom, sorry.
-/
import Derived.Test.YtbekdoadbkibdaaGreatChecked
import GoSem.Claim
import GoSem.ClaimJoined
import GoSem.ClaimMapViews
import Derived.JoinedTies
import Derived.KernelRfl
namespace Go.Proofs.YtbekdoadbkibdaaGreat
/- THE CELL 'sum', in the pinned program and in every row, IS THE sha256 OF THE DUMP (.gsa) THAT YtbekdoadbkibdaaGreatProg.lean LOADS. Nothing in Lean hashes anything: it is a label: what it is worth is what the hold of that sum in a sandbox is worth. -/
noncomputable def Tryz.pinned : Pinned := { name := "ytbekdoadbkibdaagreat", sum := "7231d376cefc99df875913532476a0e0f095040ab7ba0a902782f880ce2f781d", checked := Tryz.checked }
namespace Rows
def none {H : Type} : Left H := { results := [], args := [] }

/-- 'laws.FnResolves': WHATEVER THE INPUT: true; the input reads as it did. -/
def fnResolvesSpec : ChangeSpec := { name := "fnResolves", fn := fun _ => fun
  | [d] => { results := [.lit (.bool true)], args := [d] }
  | _ => none }
def fnResolvesRow : OpenClaim := { program := "ytbekdoadbkibdaagreat", sum := "7231d376cefc99df875913532476a0e0f095040ab7ba0a902782f880ce2f781d", func := "loop.example/g00127/laws.FnResolves", spec := "fnResolves", inPlace := ["slices.overlaps[loop.example/g00127/impl.Item]"], unfollowed := true, recurses := true, apart := false }
def FnResolvesSaid : Prop := fnResolvesRow.holds Tryz.pinned (OpenSpec.ofChange fnResolvesSpec)

/-- ITS FALSE NEIGHBOUR: 'it returns false'. Refute it at one input. -/
def fnResolvesWrong : ChangeSpec := { name := "fnResolves", fn := fun _ => fun
  | [d] => { results := [.lit (.bool false)], args := [d] }
  | _ => none }
def FnResolvesWrongFalsely : Prop := fnResolvesRow.holds Tryz.pinned (OpenSpec.ofChange fnResolvesWrong)

/-- 'laws.FnRooms': WHATEVER THE INPUT: true; the input reads as it did. -/
def fnRoomsSpec : ChangeSpec := { name := "fnRooms", fn := fun _ => fun
  | [d] => { results := [.lit (.bool true)], args := [d] }
  | _ => none }
def fnRoomsRow : OpenClaim := { program := "ytbekdoadbkibdaagreat", sum := "7231d376cefc99df875913532476a0e0f095040ab7ba0a902782f880ce2f781d", func := "loop.example/g00127/laws.FnRooms", spec := "fnRooms", inPlace := ["slices.overlaps[loop.example/g00127/impl.Item]"], unfollowed := true, recurses := true, apart := false }
def FnRoomsSaid : Prop := fnRoomsRow.holds Tryz.pinned (OpenSpec.ofChange fnRoomsSpec)

/-- ITS FALSE NEIGHBOUR: 'it returns false'. Refute it at one input. -/
def fnRoomsWrong : ChangeSpec := { name := "fnRooms", fn := fun _ => fun
  | [d] => { results := [.lit (.bool false)], args := [d] }
  | _ => none }
def FnRoomsWrongFalsely : Prop := fnRoomsRow.holds Tryz.pinned (OpenSpec.ofChange fnRoomsWrong)

/-- 'laws.FnClash': WHATEVER THE INPUT: true; the input reads as it did. -/
def fnClashSpec : ChangeSpec := { name := "fnClash", fn := fun _ => fun
  | [d] => { results := [.lit (.bool true)], args := [d] }
  | _ => none }
def fnClashRow : OpenClaim := { program := "ytbekdoadbkibdaagreat", sum := "7231d376cefc99df875913532476a0e0f095040ab7ba0a902782f880ce2f781d", func := "loop.example/g00127/laws.FnClash", spec := "fnClash", inPlace := ["slices.overlaps[loop.example/g00127/impl.Item]"], unfollowed := true, recurses := true, apart := false }
def FnClashSaid : Prop := fnClashRow.holds Tryz.pinned (OpenSpec.ofChange fnClashSpec)

/-- ITS FALSE NEIGHBOUR: 'it returns false'. Refute it at one input. -/
def fnClashWrong : ChangeSpec := { name := "fnClash", fn := fun _ => fun
  | [d] => { results := [.lit (.bool false)], args := [d] }
  | _ => none }
def FnClashWrongFalsely : Prop := fnClashRow.holds Tryz.pinned (OpenSpec.ofChange fnClashWrong)

/-- 'laws.FnSaid': WHATEVER THE INPUT: true; the input reads as it did. -/
def fnSaidSpec : ChangeSpec := { name := "fnSaid", fn := fun _ => fun
  | [d] => { results := [.lit (.bool true)], args := [d] }
  | _ => none }
def fnSaidRow : OpenClaim := { program := "ytbekdoadbkibdaagreat", sum := "7231d376cefc99df875913532476a0e0f095040ab7ba0a902782f880ce2f781d", func := "loop.example/g00127/laws.FnSaid", spec := "fnSaid", inPlace := ["slices.overlaps[loop.example/g00127/impl.Item]"], unfollowed := true, recurses := true, apart := false }
def FnSaidSaid : Prop := fnSaidRow.holds Tryz.pinned (OpenSpec.ofChange fnSaidSpec)

/-- ITS FALSE NEIGHBOUR: 'it returns false'. Refute it at one input. -/
def fnSaidWrong : ChangeSpec := { name := "fnSaid", fn := fun _ => fun
  | [d] => { results := [.lit (.bool false)], args := [d] }
  | _ => none }
def FnSaidWrongFalsely : Prop := fnSaidRow.holds Tryz.pinned (OpenSpec.ofChange fnSaidWrong)

/-- 'laws.FnAdds': WHATEVER THE INPUT: true; the input reads as it did. -/
def fnAddsSpec : ChangeSpec := { name := "fnAdds", fn := fun _ => fun
  | [d] => { results := [.lit (.bool true)], args := [d] }
  | _ => none }
def fnAddsRow : OpenClaim := { program := "ytbekdoadbkibdaagreat", sum := "7231d376cefc99df875913532476a0e0f095040ab7ba0a902782f880ce2f781d", func := "loop.example/g00127/laws.FnAdds", spec := "fnAdds", inPlace := ["slices.overlaps[loop.example/g00127/impl.Item]"], unfollowed := true, recurses := true, apart := false }
def FnAddsSaid : Prop := fnAddsRow.holds Tryz.pinned (OpenSpec.ofChange fnAddsSpec)

/-- ITS FALSE NEIGHBOUR: 'it returns false'. Refute it at one input. -/
def fnAddsWrong : ChangeSpec := { name := "fnAdds", fn := fun _ => fun
  | [d] => { results := [.lit (.bool false)], args := [d] }
  | _ => none }
def FnAddsWrongFalsely : Prop := fnAddsRow.holds Tryz.pinned (OpenSpec.ofChange fnAddsWrong)

/-- 'laws.FnExactRoomOk': WHATEVER THE INPUT: true; the input reads as it did. -/
def fnExactRoomOkSpec : ChangeSpec := { name := "fnExactRoomOk", fn := fun _ => fun
  | [d] => { results := [.lit (.bool true)], args := [d] }
  | _ => none }
def fnExactRoomOkRow : OpenClaim := { program := "ytbekdoadbkibdaagreat", sum := "7231d376cefc99df875913532476a0e0f095040ab7ba0a902782f880ce2f781d", func := "loop.example/g00127/laws.FnExactRoomOk", spec := "fnExactRoomOk", inPlace := ["slices.overlaps[loop.example/g00127/impl.Item]"], unfollowed := true, recurses := true, apart := false }
def FnExactRoomOkSaid : Prop := fnExactRoomOkRow.holds Tryz.pinned (OpenSpec.ofChange fnExactRoomOkSpec)

/-- ITS FALSE NEIGHBOUR: 'it returns false'. Refute it at one input. -/
def fnExactRoomOkWrong : ChangeSpec := { name := "fnExactRoomOk", fn := fun _ => fun
  | [d] => { results := [.lit (.bool false)], args := [d] }
  | _ => none }
def FnExactRoomOkWrongFalsely : Prop := fnExactRoomOkRow.holds Tryz.pinned (OpenSpec.ofChange fnExactRoomOkWrong)

/-- 'laws.FnExactHallOk': WHATEVER THE INPUT: true; the input reads as it did. -/
def fnExactHallOkSpec : ChangeSpec := { name := "fnExactHallOk", fn := fun _ => fun
  | [d] => { results := [.lit (.bool true)], args := [d] }
  | _ => none }
def fnExactHallOkRow : OpenClaim := { program := "ytbekdoadbkibdaagreat", sum := "7231d376cefc99df875913532476a0e0f095040ab7ba0a902782f880ce2f781d", func := "loop.example/g00127/laws.FnExactHallOk", spec := "fnExactHallOk", inPlace := ["slices.overlaps[loop.example/g00127/impl.Item]"], unfollowed := true, recurses := true, apart := false }
def FnExactHallOkSaid : Prop := fnExactHallOkRow.holds Tryz.pinned (OpenSpec.ofChange fnExactHallOkSpec)

/-- ITS FALSE NEIGHBOUR: 'it returns false'. Refute it at one input. -/
def fnExactHallOkWrong : ChangeSpec := { name := "fnExactHallOk", fn := fun _ => fun
  | [d] => { results := [.lit (.bool false)], args := [d] }
  | _ => none }
def FnExactHallOkWrongFalsely : Prop := fnExactHallOkRow.holds Tryz.pinned (OpenSpec.ofChange fnExactHallOkWrong)

/- THE SECOND FORM. 'bulk': how many values and letters a reading holds, each counted each time it is reached (what is shared counts as often as it is met; a slice's spare places count too). A statement '..UptoSaid' is the law's where the arguments, and the package variables that the reading takes, are together of bulk at most 1048576: NARROWER than '..Said'. Prove '..Said' where nothing that the law and all that it calls make is longer than what came in: it says more and counts as full. Else prove '..UptoSaid'. A law counts once. -/
mutual
def uptoBulk {H : Type} : DataW H → Nat
  | .lit (.string bytes) => bytes.length + 1
  | .lit _ => 1
  | .nil => 1
  | .ptr d => uptoBulk d + 1
  | .slice elems spare => uptoBulkAll elems + uptoBulkAll spare + 1
  | .agg parts => uptoBulkAll parts + 1
  | .iface _ d => uptoBulk d + 1
  | .map entries => uptoBulkEntries entries + 1
  | .held _ => 1
def uptoBulkAll {H : Type} : List (DataW H) → Nat
  | [] => 0
  | d :: r => uptoBulk d + uptoBulkAll r
def uptoBulkEntries {H : Type} : List (Lit × DataW H) → Nat
  | [] => 0
  | x :: r => uptoBulkEntry x + uptoBulkEntries r
def uptoBulkEntry {H : Type} : Lit × DataW H → Nat
  | (.string bytes, d) => bytes.length + uptoBulk d + 1
  | (_, d) => uptoBulk d + 1
 end
def uptoSmall : (H : Type) → List (DataW H) → Bool := fun _ ds => decide (uptoBulkAll ds ≤ 1048576)
def OpenSpec.upto (s : _root_.Go.ChangeSpec) : _root_.Go.OpenSpec := { _root_.Go.OpenSpec.ofChange s with cond := some uptoSmall }

/-- 'laws.FnResolves', WHERE WHAT IT READS IS OF BULK AT MOST 1048576: true; the input reads as it did. -/
def fnResolvesUptoRow : OpenClaim := { program := "ytbekdoadbkibdaagreat", sum := "7231d376cefc99df875913532476a0e0f095040ab7ba0a902782f880ce2f781d", func := "loop.example/g00127/laws.FnResolves", spec := "fnResolves", inPlace := ["slices.overlaps[loop.example/g00127/impl.Item]"], unfollowed := true, recurses := true, apart := false, narrowed := true }
def FnResolvesUptoSaid : Prop := fnResolvesUptoRow.holds Tryz.pinned (OpenSpec.upto fnResolvesSpec)

/-- 'laws.FnRooms', WHERE WHAT IT READS IS OF BULK AT MOST 1048576: true; the input reads as it did. -/
def fnRoomsUptoRow : OpenClaim := { program := "ytbekdoadbkibdaagreat", sum := "7231d376cefc99df875913532476a0e0f095040ab7ba0a902782f880ce2f781d", func := "loop.example/g00127/laws.FnRooms", spec := "fnRooms", inPlace := ["slices.overlaps[loop.example/g00127/impl.Item]"], unfollowed := true, recurses := true, apart := false, narrowed := true }
def FnRoomsUptoSaid : Prop := fnRoomsUptoRow.holds Tryz.pinned (OpenSpec.upto fnRoomsSpec)

/-- 'laws.FnClash', WHERE WHAT IT READS IS OF BULK AT MOST 1048576: true; the input reads as it did. -/
def fnClashUptoRow : OpenClaim := { program := "ytbekdoadbkibdaagreat", sum := "7231d376cefc99df875913532476a0e0f095040ab7ba0a902782f880ce2f781d", func := "loop.example/g00127/laws.FnClash", spec := "fnClash", inPlace := ["slices.overlaps[loop.example/g00127/impl.Item]"], unfollowed := true, recurses := true, apart := false, narrowed := true }
def FnClashUptoSaid : Prop := fnClashUptoRow.holds Tryz.pinned (OpenSpec.upto fnClashSpec)

/-- 'laws.FnSaid', WHERE WHAT IT READS IS OF BULK AT MOST 1048576: true; the input reads as it did. -/
def fnSaidUptoRow : OpenClaim := { program := "ytbekdoadbkibdaagreat", sum := "7231d376cefc99df875913532476a0e0f095040ab7ba0a902782f880ce2f781d", func := "loop.example/g00127/laws.FnSaid", spec := "fnSaid", inPlace := ["slices.overlaps[loop.example/g00127/impl.Item]"], unfollowed := true, recurses := true, apart := false, narrowed := true }
def FnSaidUptoSaid : Prop := fnSaidUptoRow.holds Tryz.pinned (OpenSpec.upto fnSaidSpec)

/-- 'laws.FnAdds', WHERE WHAT IT READS IS OF BULK AT MOST 1048576: true; the input reads as it did. -/
def fnAddsUptoRow : OpenClaim := { program := "ytbekdoadbkibdaagreat", sum := "7231d376cefc99df875913532476a0e0f095040ab7ba0a902782f880ce2f781d", func := "loop.example/g00127/laws.FnAdds", spec := "fnAdds", inPlace := ["slices.overlaps[loop.example/g00127/impl.Item]"], unfollowed := true, recurses := true, apart := false, narrowed := true }
def FnAddsUptoSaid : Prop := fnAddsUptoRow.holds Tryz.pinned (OpenSpec.upto fnAddsSpec)

/-- 'laws.FnExactRoomOk', WHERE WHAT IT READS IS OF BULK AT MOST 1048576: true; the input reads as it did. -/
def fnExactRoomOkUptoRow : OpenClaim := { program := "ytbekdoadbkibdaagreat", sum := "7231d376cefc99df875913532476a0e0f095040ab7ba0a902782f880ce2f781d", func := "loop.example/g00127/laws.FnExactRoomOk", spec := "fnExactRoomOk", inPlace := ["slices.overlaps[loop.example/g00127/impl.Item]"], unfollowed := true, recurses := true, apart := false, narrowed := true }
def FnExactRoomOkUptoSaid : Prop := fnExactRoomOkUptoRow.holds Tryz.pinned (OpenSpec.upto fnExactRoomOkSpec)

/-- 'laws.FnExactHallOk', WHERE WHAT IT READS IS OF BULK AT MOST 1048576: true; the input reads as it did. -/
def fnExactHallOkUptoRow : OpenClaim := { program := "ytbekdoadbkibdaagreat", sum := "7231d376cefc99df875913532476a0e0f095040ab7ba0a902782f880ce2f781d", func := "loop.example/g00127/laws.FnExactHallOk", spec := "fnExactHallOk", inPlace := ["slices.overlaps[loop.example/g00127/impl.Item]"], unfollowed := true, recurses := true, apart := false, narrowed := true }
def FnExactHallOkUptoSaid : Prop := fnExactHallOkUptoRow.holds Tryz.pinned (OpenSpec.upto fnExactHallOkSpec)

end Rows
end Go.Proofs.YtbekdoadbkibdaaGreat
