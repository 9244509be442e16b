/-
  No cell of these rows narrows 'for every input' (looked for: loops, veiled, ifaces, maps, wideKeys, modest, calm, conditions, laid).
  DERIVED. THE GIVEN ROWS OF THIS SEAT. 12 by the template 'for every input the law returns true; each argument reads behind the call as it read before'; 0 by the template 'total and deterministic' (their statements: YtdpbokpmionoeaaTotals.lean).
  GIVEN WITH THE SEED: the statements are not yours to turn. If you find one false, say at which input.
  Laid BY PROGRAM, IN A SANDBOX (cutbox-rows.mjs): the forced cells as the released guide's own fill.sh prints them over the translation da81cbfef484e76a… (all of the seat's roots in one cut). By AI agents, Wed Nov 11 2026. No macro, syntax, notation, axiom, sorry.
-/
import Derived.Test.YtdpbokpmionoeaaChecked
import GoSem.Claim
import GoSem.ClaimJoined
import GoSem.ClaimMapViews
import Derived.JoinedTies
import Derived.KernelRfl
namespace Go.Proofs.Ytdpbokpmionoeaa
/- THE CELL 'sum', in the pinned program and in every row, IS THE sha256 OF THE DUMP (.gsa) THAT YtdpbokpmionoeaaProg.lean LOADS. Nothing in Lean hashes anything: it is a label: what it is worth is what the hold of that sum in a sandbox is worth. -/
noncomputable def Try.pinned : Pinned := { name := "ytdpbokpmionoeaa", sum := "da81cbfef484e76a7eebb6fdb7c9985c5aa34b758b049f2f3728488dcc77f8f1", checked := Try.checked }
namespace Rows
def none {H : Type} : Left H := { results := [], args := [] }

/-- 'laws.FnExactAt': WHATEVER THE INPUT: true; the input reads as it did. -/
def fnExactAtSpec : ChangeSpec := { name := "fnExactAt", fn := fun _ => fun
  | [d1, d2] => { results := [.lit (.bool true)], args := [d1, d2] }
  | _ => none }
def fnExactAtRow : OpenClaim := { program := "ytdpbokpmionoeaa", sum := "da81cbfef484e76a7eebb6fdb7c9985c5aa34b758b049f2f3728488dcc77f8f1", func := "loop.example/g00127/laws.FnExactAt", spec := "fnExactAt", apart := false }
def FnExactAtSaid : Prop := fnExactAtRow.holds Try.pinned (OpenSpec.ofChange fnExactAtSpec)

/-- ITS FALSE NEIGHBOUR: 'it returns false'. Refute it at one input. -/
def fnExactAtWrong : ChangeSpec := { name := "fnExactAt", fn := fun _ => fun
  | [d1, d2] => { results := [.lit (.bool false)], args := [d1, d2] }
  | _ => none }
def FnExactAtWrongFalsely : Prop := fnExactAtRow.holds Try.pinned (OpenSpec.ofChange fnExactAtWrong)

/-- 'laws.FnExactStateOk': WHATEVER THE INPUT: true; the input reads as it did. -/
def fnExactStateOkSpec : ChangeSpec := { name := "fnExactStateOk", fn := fun _ => fun
  | [d] => { results := [.lit (.bool true)], args := [d] }
  | _ => none }
def fnExactStateOkRow : OpenClaim := { program := "ytdpbokpmionoeaa", sum := "da81cbfef484e76a7eebb6fdb7c9985c5aa34b758b049f2f3728488dcc77f8f1", func := "loop.example/g00127/laws.FnExactStateOk", spec := "fnExactStateOk", apart := false }
def FnExactStateOkSaid : Prop := fnExactStateOkRow.holds Try.pinned (OpenSpec.ofChange fnExactStateOkSpec)

/-- ITS FALSE NEIGHBOUR: 'it returns false'. Refute it at one input. -/
def fnExactStateOkWrong : ChangeSpec := { name := "fnExactStateOk", fn := fun _ => fun
  | [d] => { results := [.lit (.bool false)], args := [d] }
  | _ => none }
def FnExactStateOkWrongFalsely : Prop := fnExactStateOkRow.holds Try.pinned (OpenSpec.ofChange fnExactStateOkWrong)

/-- 'laws.FnExactEventOk': WHATEVER THE INPUT: true; the input reads as it did. -/
def fnExactEventOkSpec : ChangeSpec := { name := "fnExactEventOk", fn := fun _ => fun
  | [d] => { results := [.lit (.bool true)], args := [d] }
  | _ => none }
def fnExactEventOkRow : OpenClaim := { program := "ytdpbokpmionoeaa", sum := "da81cbfef484e76a7eebb6fdb7c9985c5aa34b758b049f2f3728488dcc77f8f1", func := "loop.example/g00127/laws.FnExactEventOk", spec := "fnExactEventOk", apart := false }
def FnExactEventOkSaid : Prop := fnExactEventOkRow.holds Try.pinned (OpenSpec.ofChange fnExactEventOkSpec)

/-- ITS FALSE NEIGHBOUR: 'it returns false'. Refute it at one input. -/
def fnExactEventOkWrong : ChangeSpec := { name := "fnExactEventOk", fn := fun _ => fun
  | [d] => { results := [.lit (.bool false)], args := [d] }
  | _ => none }
def FnExactEventOkWrongFalsely : Prop := fnExactEventOkRow.holds Try.pinned (OpenSpec.ofChange fnExactEventOkWrong)

/-- 'laws.FnExactKnown': WHATEVER THE INPUT: true; the input reads as it did. -/
def fnExactKnownSpec : ChangeSpec := { name := "fnExactKnown", fn := fun _ => fun
  | [d1, d2] => { results := [.lit (.bool true)], args := [d1, d2] }
  | _ => none }
def fnExactKnownRow : OpenClaim := { program := "ytdpbokpmionoeaa", sum := "da81cbfef484e76a7eebb6fdb7c9985c5aa34b758b049f2f3728488dcc77f8f1", func := "loop.example/g00127/laws.FnExactKnown", spec := "fnExactKnown", apart := false }
def FnExactKnownSaid : Prop := fnExactKnownRow.holds Try.pinned (OpenSpec.ofChange fnExactKnownSpec)

/-- ITS FALSE NEIGHBOUR: 'it returns false'. Refute it at one input. -/
def fnExactKnownWrong : ChangeSpec := { name := "fnExactKnown", fn := fun _ => fun
  | [d1, d2] => { results := [.lit (.bool false)], args := [d1, d2] }
  | _ => none }
def FnExactKnownWrongFalsely : Prop := fnExactKnownRow.holds Try.pinned (OpenSpec.ofChange fnExactKnownWrong)

/-- 'laws.FnExactPut': WHATEVER THE INPUT: true; the input reads as it did. -/
def fnExactPutSpec : ChangeSpec := { name := "fnExactPut", fn := fun _ => fun
  | [d1, d2, d3] => { results := [.lit (.bool true)], args := [d1, d2, d3] }
  | _ => none }
def fnExactPutRow : OpenClaim := { program := "ytdpbokpmionoeaa", sum := "da81cbfef484e76a7eebb6fdb7c9985c5aa34b758b049f2f3728488dcc77f8f1", func := "loop.example/g00127/laws.FnExactPut", spec := "fnExactPut", inPlace := ["slices.overlaps[loop.example/g00127/impl.Item]"], apart := false }
def FnExactPutSaid : Prop := fnExactPutRow.holds Try.pinned (OpenSpec.ofChange fnExactPutSpec)

/-- ITS FALSE NEIGHBOUR: 'it returns false'. Refute it at one input. -/
def fnExactPutWrong : ChangeSpec := { name := "fnExactPut", fn := fun _ => fun
  | [d1, d2, d3] => { results := [.lit (.bool false)], args := [d1, d2, d3] }
  | _ => none }
def FnExactPutWrongFalsely : Prop := fnExactPutRow.holds Try.pinned (OpenSpec.ofChange fnExactPutWrong)

/-- 'laws.FnExactEventText': WHATEVER THE INPUT: true; the input reads as it did. -/
def fnExactEventTextSpec : ChangeSpec := { name := "fnExactEventText", fn := fun _ => fun
  | [d] => { results := [.lit (.bool true)], args := [d] }
  | _ => none }
def fnExactEventTextRow : OpenClaim := { program := "ytdpbokpmionoeaa", sum := "da81cbfef484e76a7eebb6fdb7c9985c5aa34b758b049f2f3728488dcc77f8f1", func := "loop.example/g00127/laws.FnExactEventText", spec := "fnExactEventText", apart := false }
def FnExactEventTextSaid : Prop := fnExactEventTextRow.holds Try.pinned (OpenSpec.ofChange fnExactEventTextSpec)

/-- ITS FALSE NEIGHBOUR: 'it returns false'. Refute it at one input. -/
def fnExactEventTextWrong : ChangeSpec := { name := "fnExactEventText", fn := fun _ => fun
  | [d] => { results := [.lit (.bool false)], args := [d] }
  | _ => none }
def FnExactEventTextWrongFalsely : Prop := fnExactEventTextRow.holds Try.pinned (OpenSpec.ofChange fnExactEventTextWrong)

/-- 'laws.FnExactCommandOk': WHATEVER THE INPUT: true; the input reads as it did. -/
def fnExactCommandOkSpec : ChangeSpec := { name := "fnExactCommandOk", fn := fun _ => fun
  | [d] => { results := [.lit (.bool true)], args := [d] }
  | _ => none }
def fnExactCommandOkRow : OpenClaim := { program := "ytdpbokpmionoeaa", sum := "da81cbfef484e76a7eebb6fdb7c9985c5aa34b758b049f2f3728488dcc77f8f1", func := "loop.example/g00127/laws.FnExactCommandOk", spec := "fnExactCommandOk", apart := false }
def FnExactCommandOkSaid : Prop := fnExactCommandOkRow.holds Try.pinned (OpenSpec.ofChange fnExactCommandOkSpec)

/-- ITS FALSE NEIGHBOUR: 'it returns false'. Refute it at one input. -/
def fnExactCommandOkWrong : ChangeSpec := { name := "fnExactCommandOk", fn := fun _ => fun
  | [d] => { results := [.lit (.bool false)], args := [d] }
  | _ => none }
def FnExactCommandOkWrongFalsely : Prop := fnExactCommandOkRow.holds Try.pinned (OpenSpec.ofChange fnExactCommandOkWrong)

/-- 'laws.FnExactDepthOf': WHATEVER THE INPUT: true; the input reads as it did. -/
def fnExactDepthOfSpec : ChangeSpec := { name := "fnExactDepthOf", fn := fun _ => fun
  | [d1, d2] => { results := [.lit (.bool true)], args := [d1, d2] }
  | _ => none }
def fnExactDepthOfRow : OpenClaim := { program := "ytdpbokpmionoeaa", sum := "da81cbfef484e76a7eebb6fdb7c9985c5aa34b758b049f2f3728488dcc77f8f1", func := "loop.example/g00127/laws.FnExactDepthOf", spec := "fnExactDepthOf", apart := false }
def FnExactDepthOfSaid : Prop := fnExactDepthOfRow.holds Try.pinned (OpenSpec.ofChange fnExactDepthOfSpec)

/-- ITS FALSE NEIGHBOUR: 'it returns false'. Refute it at one input. -/
def fnExactDepthOfWrong : ChangeSpec := { name := "fnExactDepthOf", fn := fun _ => fun
  | [d1, d2] => { results := [.lit (.bool false)], args := [d1, d2] }
  | _ => none }
def FnExactDepthOfWrongFalsely : Prop := fnExactDepthOfRow.holds Try.pinned (OpenSpec.ofChange fnExactDepthOfWrong)

/-- 'laws.FnExactReadEvent': WHATEVER THE INPUT: true; the input reads as it did. -/
def fnExactReadEventSpec : ChangeSpec := { name := "fnExactReadEvent", fn := fun _ => fun
  | [d] => { results := [.lit (.bool true)], args := [d] }
  | _ => none }
def fnExactReadEventRow : OpenClaim := { program := "ytdpbokpmionoeaa", sum := "da81cbfef484e76a7eebb6fdb7c9985c5aa34b758b049f2f3728488dcc77f8f1", func := "loop.example/g00127/laws.FnExactReadEvent", spec := "fnExactReadEvent", unfollowed := true, recurses := true, apart := false }
def FnExactReadEventSaid : Prop := fnExactReadEventRow.holds Try.pinned (OpenSpec.ofChange fnExactReadEventSpec)

/-- ITS FALSE NEIGHBOUR: 'it returns false'. Refute it at one input. -/
def fnExactReadEventWrong : ChangeSpec := { name := "fnExactReadEvent", fn := fun _ => fun
  | [d] => { results := [.lit (.bool false)], args := [d] }
  | _ => none }
def FnExactReadEventWrongFalsely : Prop := fnExactReadEventRow.holds Try.pinned (OpenSpec.ofChange fnExactReadEventWrong)

/-- 'laws.FnExactSaid': WHATEVER THE INPUT: true; the input reads as it did. -/
def fnExactSaidSpec : ChangeSpec := { name := "fnExactSaid", fn := fun _ => fun
  | [d] => { results := [.lit (.bool true)], args := [d] }
  | _ => none }
def fnExactSaidRow : OpenClaim := { program := "ytdpbokpmionoeaa", sum := "da81cbfef484e76a7eebb6fdb7c9985c5aa34b758b049f2f3728488dcc77f8f1", func := "loop.example/g00127/laws.FnExactSaid", spec := "fnExactSaid", apart := false }
def FnExactSaidSaid : Prop := fnExactSaidRow.holds Try.pinned (OpenSpec.ofChange fnExactSaidSpec)

/-- ITS FALSE NEIGHBOUR: 'it returns false'. Refute it at one input. -/
def fnExactSaidWrong : ChangeSpec := { name := "fnExactSaid", fn := fun _ => fun
  | [d] => { results := [.lit (.bool false)], args := [d] }
  | _ => none }
def FnExactSaidWrongFalsely : Prop := fnExactSaidRow.holds Try.pinned (OpenSpec.ofChange fnExactSaidWrong)

/-- 'laws.FnExactCommandText': WHATEVER THE INPUT: true; the input reads as it did. -/
def fnExactCommandTextSpec : ChangeSpec := { name := "fnExactCommandText", fn := fun _ => fun
  | [d] => { results := [.lit (.bool true)], args := [d] }
  | _ => none }
def fnExactCommandTextRow : OpenClaim := { program := "ytdpbokpmionoeaa", sum := "da81cbfef484e76a7eebb6fdb7c9985c5aa34b758b049f2f3728488dcc77f8f1", func := "loop.example/g00127/laws.FnExactCommandText", spec := "fnExactCommandText", apart := false }
def FnExactCommandTextSaid : Prop := fnExactCommandTextRow.holds Try.pinned (OpenSpec.ofChange fnExactCommandTextSpec)

/-- ITS FALSE NEIGHBOUR: 'it returns false'. Refute it at one input. -/
def fnExactCommandTextWrong : ChangeSpec := { name := "fnExactCommandText", fn := fun _ => fun
  | [d] => { results := [.lit (.bool false)], args := [d] }
  | _ => none }
def FnExactCommandTextWrongFalsely : Prop := fnExactCommandTextRow.holds Try.pinned (OpenSpec.ofChange fnExactCommandTextWrong)

/-- 'laws.FnExactHallNew': WHATEVER THE INPUT: true; the input reads as it did. -/
def fnExactHallNewSpec : ChangeSpec := { name := "fnExactHallNew", fn := fun _ => fun
  | [] => { results := [.lit (.bool true)], args := [] }
  | _ => none }
def fnExactHallNewRow : OpenClaim := { program := "ytdpbokpmionoeaa", sum := "da81cbfef484e76a7eebb6fdb7c9985c5aa34b758b049f2f3728488dcc77f8f1", func := "loop.example/g00127/laws.FnExactHallNew", spec := "fnExactHallNew", apart := false }
def FnExactHallNewSaid : Prop := fnExactHallNewRow.holds Try.pinned (OpenSpec.ofChange fnExactHallNewSpec)

/-- ITS FALSE NEIGHBOUR: 'it returns false'. Refute it at one input. -/
def fnExactHallNewWrong : ChangeSpec := { name := "fnExactHallNew", fn := fun _ => fun
  | [] => { results := [.lit (.bool false)], args := [] }
  | _ => none }
def FnExactHallNewWrongFalsely : Prop := fnExactHallNewRow.holds Try.pinned (OpenSpec.ofChange fnExactHallNewWrong)

/- THE SECOND FORM. 'bulk': how many values and letters a reading holds, each counted each time it is reached (what is shared counts as often as it is met; a slice's spare places count too). A statement '..UptoSaid' is the law's where the arguments, and the package variables that the reading takes, are together of bulk at most 1048576: NARROWER than '..Said'. Prove '..Said' where nothing that the law and all that it calls make is longer than what came in: it says more and counts as full. Else prove '..UptoSaid'. A law counts once. -/
mutual
def uptoBulk {H : Type} : DataW H → Nat
  | .lit (.string bytes) => bytes.length + 1
  | .lit _ => 1
  | .nil => 1
  | .ptr d => uptoBulk d + 1
  | .slice elems spare => uptoBulkAll elems + uptoBulkAll spare + 1
  | .agg parts => uptoBulkAll parts + 1
  | .iface _ d => uptoBulk d + 1
  | .map entries => uptoBulkEntries entries + 1
  | .held _ => 1
def uptoBulkAll {H : Type} : List (DataW H) → Nat
  | [] => 0
  | d :: r => uptoBulk d + uptoBulkAll r
def uptoBulkEntries {H : Type} : List (Lit × DataW H) → Nat
  | [] => 0
  | x :: r => uptoBulkEntry x + uptoBulkEntries r
def uptoBulkEntry {H : Type} : Lit × DataW H → Nat
  | (.string bytes, d) => bytes.length + uptoBulk d + 1
  | (_, d) => uptoBulk d + 1
 end
def uptoSmall : (H : Type) → List (DataW H) → Bool := fun _ ds => decide (uptoBulkAll ds ≤ 1048576)
def OpenSpec.upto (s : _root_.Go.ChangeSpec) : _root_.Go.OpenSpec := { _root_.Go.OpenSpec.ofChange s with cond := some uptoSmall }

/-- 'laws.FnExactAt', WHERE WHAT IT READS IS OF BULK AT MOST 1048576: true; the input reads as it did. -/
def fnExactAtUptoRow : OpenClaim := { program := "ytdpbokpmionoeaa", sum := "da81cbfef484e76a7eebb6fdb7c9985c5aa34b758b049f2f3728488dcc77f8f1", func := "loop.example/g00127/laws.FnExactAt", spec := "fnExactAt", apart := false, narrowed := true }
def FnExactAtUptoSaid : Prop := fnExactAtUptoRow.holds Try.pinned (OpenSpec.upto fnExactAtSpec)

/-- 'laws.FnExactStateOk', WHERE WHAT IT READS IS OF BULK AT MOST 1048576: true; the input reads as it did. -/
def fnExactStateOkUptoRow : OpenClaim := { program := "ytdpbokpmionoeaa", sum := "da81cbfef484e76a7eebb6fdb7c9985c5aa34b758b049f2f3728488dcc77f8f1", func := "loop.example/g00127/laws.FnExactStateOk", spec := "fnExactStateOk", apart := false, narrowed := true }
def FnExactStateOkUptoSaid : Prop := fnExactStateOkUptoRow.holds Try.pinned (OpenSpec.upto fnExactStateOkSpec)

/-- 'laws.FnExactEventOk', WHERE WHAT IT READS IS OF BULK AT MOST 1048576: true; the input reads as it did. -/
def fnExactEventOkUptoRow : OpenClaim := { program := "ytdpbokpmionoeaa", sum := "da81cbfef484e76a7eebb6fdb7c9985c5aa34b758b049f2f3728488dcc77f8f1", func := "loop.example/g00127/laws.FnExactEventOk", spec := "fnExactEventOk", apart := false, narrowed := true }
def FnExactEventOkUptoSaid : Prop := fnExactEventOkUptoRow.holds Try.pinned (OpenSpec.upto fnExactEventOkSpec)

/-- 'laws.FnExactKnown', WHERE WHAT IT READS IS OF BULK AT MOST 1048576: true; the input reads as it did. -/
def fnExactKnownUptoRow : OpenClaim := { program := "ytdpbokpmionoeaa", sum := "da81cbfef484e76a7eebb6fdb7c9985c5aa34b758b049f2f3728488dcc77f8f1", func := "loop.example/g00127/laws.FnExactKnown", spec := "fnExactKnown", apart := false, narrowed := true }
def FnExactKnownUptoSaid : Prop := fnExactKnownUptoRow.holds Try.pinned (OpenSpec.upto fnExactKnownSpec)

/-- 'laws.FnExactPut', WHERE WHAT IT READS IS OF BULK AT MOST 1048576: true; the input reads as it did. -/
def fnExactPutUptoRow : OpenClaim := { program := "ytdpbokpmionoeaa", sum := "da81cbfef484e76a7eebb6fdb7c9985c5aa34b758b049f2f3728488dcc77f8f1", func := "loop.example/g00127/laws.FnExactPut", spec := "fnExactPut", inPlace := ["slices.overlaps[loop.example/g00127/impl.Item]"], apart := false, narrowed := true }
def FnExactPutUptoSaid : Prop := fnExactPutUptoRow.holds Try.pinned (OpenSpec.upto fnExactPutSpec)

/-- 'laws.FnExactEventText', WHERE WHAT IT READS IS OF BULK AT MOST 1048576: true; the input reads as it did. -/
def fnExactEventTextUptoRow : OpenClaim := { program := "ytdpbokpmionoeaa", sum := "da81cbfef484e76a7eebb6fdb7c9985c5aa34b758b049f2f3728488dcc77f8f1", func := "loop.example/g00127/laws.FnExactEventText", spec := "fnExactEventText", apart := false, narrowed := true }
def FnExactEventTextUptoSaid : Prop := fnExactEventTextUptoRow.holds Try.pinned (OpenSpec.upto fnExactEventTextSpec)

/-- 'laws.FnExactCommandOk', WHERE WHAT IT READS IS OF BULK AT MOST 1048576: true; the input reads as it did. -/
def fnExactCommandOkUptoRow : OpenClaim := { program := "ytdpbokpmionoeaa", sum := "da81cbfef484e76a7eebb6fdb7c9985c5aa34b758b049f2f3728488dcc77f8f1", func := "loop.example/g00127/laws.FnExactCommandOk", spec := "fnExactCommandOk", apart := false, narrowed := true }
def FnExactCommandOkUptoSaid : Prop := fnExactCommandOkUptoRow.holds Try.pinned (OpenSpec.upto fnExactCommandOkSpec)

/-- 'laws.FnExactDepthOf', WHERE WHAT IT READS IS OF BULK AT MOST 1048576: true; the input reads as it did. -/
def fnExactDepthOfUptoRow : OpenClaim := { program := "ytdpbokpmionoeaa", sum := "da81cbfef484e76a7eebb6fdb7c9985c5aa34b758b049f2f3728488dcc77f8f1", func := "loop.example/g00127/laws.FnExactDepthOf", spec := "fnExactDepthOf", apart := false, narrowed := true }
def FnExactDepthOfUptoSaid : Prop := fnExactDepthOfUptoRow.holds Try.pinned (OpenSpec.upto fnExactDepthOfSpec)

/-- 'laws.FnExactReadEvent', WHERE WHAT IT READS IS OF BULK AT MOST 1048576: true; the input reads as it did. -/
def fnExactReadEventUptoRow : OpenClaim := { program := "ytdpbokpmionoeaa", sum := "da81cbfef484e76a7eebb6fdb7c9985c5aa34b758b049f2f3728488dcc77f8f1", func := "loop.example/g00127/laws.FnExactReadEvent", spec := "fnExactReadEvent", unfollowed := true, recurses := true, apart := false, narrowed := true }
def FnExactReadEventUptoSaid : Prop := fnExactReadEventUptoRow.holds Try.pinned (OpenSpec.upto fnExactReadEventSpec)

/-- 'laws.FnExactSaid', WHERE WHAT IT READS IS OF BULK AT MOST 1048576: true; the input reads as it did. -/
def fnExactSaidUptoRow : OpenClaim := { program := "ytdpbokpmionoeaa", sum := "da81cbfef484e76a7eebb6fdb7c9985c5aa34b758b049f2f3728488dcc77f8f1", func := "loop.example/g00127/laws.FnExactSaid", spec := "fnExactSaid", apart := false, narrowed := true }
def FnExactSaidUptoSaid : Prop := fnExactSaidUptoRow.holds Try.pinned (OpenSpec.upto fnExactSaidSpec)

/-- 'laws.FnExactCommandText', WHERE WHAT IT READS IS OF BULK AT MOST 1048576: true; the input reads as it did. -/
def fnExactCommandTextUptoRow : OpenClaim := { program := "ytdpbokpmionoeaa", sum := "da81cbfef484e76a7eebb6fdb7c9985c5aa34b758b049f2f3728488dcc77f8f1", func := "loop.example/g00127/laws.FnExactCommandText", spec := "fnExactCommandText", apart := false, narrowed := true }
def FnExactCommandTextUptoSaid : Prop := fnExactCommandTextUptoRow.holds Try.pinned (OpenSpec.upto fnExactCommandTextSpec)

/-- 'laws.FnExactHallNew', WHERE WHAT IT READS IS OF BULK AT MOST 1048576: true; the input reads as it did. -/
def fnExactHallNewUptoRow : OpenClaim := { program := "ytdpbokpmionoeaa", sum := "da81cbfef484e76a7eebb6fdb7c9985c5aa34b758b049f2f3728488dcc77f8f1", func := "loop.example/g00127/laws.FnExactHallNew", spec := "fnExactHallNew", apart := false, narrowed := true }
def FnExactHallNewUptoSaid : Prop := fnExactHallNewUptoRow.holds Try.pinned (OpenSpec.upto fnExactHallNewSpec)

end Rows
end Go.Proofs.Ytdpbokpmionoeaa
