/-
  No cell of these rows narrows 'for every input' (looked for: loops, veiled, ifaces, maps, wideKeys, modest, calm, conditions, laid).
  DERIVED. THE GIVEN ROWS OF THIS SEAT. 12 by the template 'for every input the law returns true; each argument reads behind the call as it read before'; 0 by the template 'total and deterministic' (their statements: YtnkkafeaaogffaaTotals.lean).
  GIVEN WITH THE SEED: the statements are not yours to turn. If you find one false, say at which input.
  Laid BY PROGRAM, IN A SANDBOX (cutbox-rows.mjs): the forced cells as the released guide's own fill.sh prints them over the translation 09ae31e30b7e6f9a… (all of the seat's roots in one cut). By AI agents, Wed Nov 11 2026. No macro, syntax, notation, axiom, sorry.
-/
import Derived.Test.YtnkkafeaaogffaaChecked
import GoSem.Claim
import GoSem.ClaimJoined
import GoSem.ClaimMapViews
import Derived.JoinedTies
import Derived.KernelRfl
namespace Go.Proofs.Ytnkkafeaaogffaa
/- THE CELL 'sum', in the pinned program and in every row, IS THE sha256 OF THE DUMP (.gsa) THAT YtnkkafeaaogffaaProg.lean LOADS. Nothing in Lean hashes anything: it is a label: what it is worth is what the hold of that sum in a sandbox is worth. -/
noncomputable def Try.pinned : Pinned := { name := "ytnkkafeaaogffaa", sum := "09ae31e30b7e6f9ac71779c35402b11bdfa8da19dc05871b8d778c4c04320b39", checked := Try.checked }
namespace Rows
def none {H : Type} : Left H := { results := [], args := [] }

/-- 'laws.FnExactReadCommand': WHATEVER THE INPUT: true; the input reads as it did. -/
def fnExactReadCommandSpec : ChangeSpec := { name := "fnExactReadCommand", fn := fun _ => fun
  | [d] => { results := [.lit (.bool true)], args := [d] }
  | _ => none }
def fnExactReadCommandRow : OpenClaim := { program := "ytnkkafeaaogffaa", sum := "09ae31e30b7e6f9ac71779c35402b11bdfa8da19dc05871b8d778c4c04320b39", func := "loop.example/g00127/laws.FnExactReadCommand", spec := "fnExactReadCommand", unfollowed := true, recurses := true, apart := false }
def FnExactReadCommandSaid : Prop := fnExactReadCommandRow.holds Try.pinned (OpenSpec.ofChange fnExactReadCommandSpec)

/-- ITS FALSE NEIGHBOUR: 'it returns false'. Refute it at one input. -/
def fnExactReadCommandWrong : ChangeSpec := { name := "fnExactReadCommand", fn := fun _ => fun
  | [d] => { results := [.lit (.bool false)], args := [d] }
  | _ => none }
def FnExactReadCommandWrongFalsely : Prop := fnExactReadCommandRow.holds Try.pinned (OpenSpec.ofChange fnExactReadCommandWrong)

/-- 'laws.FnExactSameHall': WHATEVER THE INPUT: true; the input reads as it did. -/
def fnExactSameHallSpec : ChangeSpec := { name := "fnExactSameHall", fn := fun _ => fun
  | [d1, d2] => { results := [.lit (.bool true)], args := [d1, d2] }
  | _ => none }
def fnExactSameHallRow : OpenClaim := { program := "ytnkkafeaaogffaa", sum := "09ae31e30b7e6f9ac71779c35402b11bdfa8da19dc05871b8d778c4c04320b39", func := "loop.example/g00127/laws.FnExactSameHall", spec := "fnExactSameHall", unfollowed := true, recurses := true, apart := false }
def FnExactSameHallSaid : Prop := fnExactSameHallRow.holds Try.pinned (OpenSpec.ofChange fnExactSameHallSpec)

/-- ITS FALSE NEIGHBOUR: 'it returns false'. Refute it at one input. -/
def fnExactSameHallWrong : ChangeSpec := { name := "fnExactSameHall", fn := fun _ => fun
  | [d1, d2] => { results := [.lit (.bool false)], args := [d1, d2] }
  | _ => none }
def FnExactSameHallWrongFalsely : Prop := fnExactSameHallRow.holds Try.pinned (OpenSpec.ofChange fnExactSameHallWrong)

/-- 'laws.FnEvents': WHATEVER THE INPUT: true; the input reads as it did. -/
def fnEventsSpec : ChangeSpec := { name := "fnEvents", fn := fun _ => fun
  | [d] => { results := [.lit (.bool true)], args := [d] }
  | _ => none }
def fnEventsRow : OpenClaim := { program := "ytnkkafeaaogffaa", sum := "09ae31e30b7e6f9ac71779c35402b11bdfa8da19dc05871b8d778c4c04320b39", func := "loop.example/g00127/laws.FnEvents", spec := "fnEvents", unfollowed := true, recurses := true, apart := false }
def FnEventsSaid : Prop := fnEventsRow.holds Try.pinned (OpenSpec.ofChange fnEventsSpec)

/-- ITS FALSE NEIGHBOUR: 'it returns false'. Refute it at one input. -/
def fnEventsWrong : ChangeSpec := { name := "fnEvents", fn := fun _ => fun
  | [d] => { results := [.lit (.bool false)], args := [d] }
  | _ => none }
def FnEventsWrongFalsely : Prop := fnEventsRow.holds Try.pinned (OpenSpec.ofChange fnEventsWrong)

/-- 'laws.FnEntries': WHATEVER THE INPUT: true; the input reads as it did. -/
def fnEntriesSpec : ChangeSpec := { name := "fnEntries", fn := fun _ => fun
  | [d] => { results := [.lit (.bool true)], args := [d] }
  | _ => none }
def fnEntriesRow : OpenClaim := { program := "ytnkkafeaaogffaa", sum := "09ae31e30b7e6f9ac71779c35402b11bdfa8da19dc05871b8d778c4c04320b39", func := "loop.example/g00127/laws.FnEntries", spec := "fnEntries", apart := false }
def FnEntriesSaid : Prop := fnEntriesRow.holds Try.pinned (OpenSpec.ofChange fnEntriesSpec)

/-- ITS FALSE NEIGHBOUR: 'it returns false'. Refute it at one input. -/
def fnEntriesWrong : ChangeSpec := { name := "fnEntries", fn := fun _ => fun
  | [d] => { results := [.lit (.bool false)], args := [d] }
  | _ => none }
def FnEntriesWrongFalsely : Prop := fnEntriesRow.holds Try.pinned (OpenSpec.ofChange fnEntriesWrong)

/-- 'laws.FnExactAgreed': WHATEVER THE INPUT: true; the input reads as it did. -/
def fnExactAgreedSpec : ChangeSpec := { name := "fnExactAgreed", fn := fun _ => fun
  | [d] => { results := [.lit (.bool true)], args := [d] }
  | _ => none }
def fnExactAgreedRow : OpenClaim := { program := "ytnkkafeaaogffaa", sum := "09ae31e30b7e6f9ac71779c35402b11bdfa8da19dc05871b8d778c4c04320b39", func := "loop.example/g00127/laws.FnExactAgreed", spec := "fnExactAgreed", unfollowed := true, recurses := true, apart := false }
def FnExactAgreedSaid : Prop := fnExactAgreedRow.holds Try.pinned (OpenSpec.ofChange fnExactAgreedSpec)

/-- ITS FALSE NEIGHBOUR: 'it returns false'. Refute it at one input. -/
def fnExactAgreedWrong : ChangeSpec := { name := "fnExactAgreed", fn := fun _ => fun
  | [d] => { results := [.lit (.bool false)], args := [d] }
  | _ => none }
def FnExactAgreedWrongFalsely : Prop := fnExactAgreedRow.holds Try.pinned (OpenSpec.ofChange fnExactAgreedWrong)

/-- 'laws.FnExactClash': WHATEVER THE INPUT: true; the input reads as it did. -/
def fnExactClashSpec : ChangeSpec := { name := "fnExactClash", fn := fun _ => fun
  | [d] => { results := [.lit (.bool true)], args := [d] }
  | _ => none }
def fnExactClashRow : OpenClaim := { program := "ytnkkafeaaogffaa", sum := "09ae31e30b7e6f9ac71779c35402b11bdfa8da19dc05871b8d778c4c04320b39", func := "loop.example/g00127/laws.FnExactClash", spec := "fnExactClash", unfollowed := true, recurses := true, apart := false }
def FnExactClashSaid : Prop := fnExactClashRow.holds Try.pinned (OpenSpec.ofChange fnExactClashSpec)

/-- ITS FALSE NEIGHBOUR: 'it returns false'. Refute it at one input. -/
def fnExactClashWrong : ChangeSpec := { name := "fnExactClash", fn := fun _ => fun
  | [d] => { results := [.lit (.bool false)], args := [d] }
  | _ => none }
def FnExactClashWrongFalsely : Prop := fnExactClashRow.holds Try.pinned (OpenSpec.ofChange fnExactClashWrong)

/-- 'laws.FnExactAuthOf': WHATEVER THE INPUT: true; the input reads as it did. -/
def fnExactAuthOfSpec : ChangeSpec := { name := "fnExactAuthOf", fn := fun _ => fun
  | [d1, d2, d3] => { results := [.lit (.bool true)], args := [d1, d2, d3] }
  | _ => none }
def fnExactAuthOfRow : OpenClaim := { program := "ytnkkafeaaogffaa", sum := "09ae31e30b7e6f9ac71779c35402b11bdfa8da19dc05871b8d778c4c04320b39", func := "loop.example/g00127/laws.FnExactAuthOf", spec := "fnExactAuthOf", recurses := true, apart := false }
def FnExactAuthOfSaid : Prop := fnExactAuthOfRow.holds Try.pinned (OpenSpec.ofChange fnExactAuthOfSpec)

/-- ITS FALSE NEIGHBOUR: 'it returns false'. Refute it at one input. -/
def fnExactAuthOfWrong : ChangeSpec := { name := "fnExactAuthOf", fn := fun _ => fun
  | [d1, d2, d3] => { results := [.lit (.bool false)], args := [d1, d2, d3] }
  | _ => none }
def FnExactAuthOfWrongFalsely : Prop := fnExactAuthOfRow.holds Try.pinned (OpenSpec.ofChange fnExactAuthOfWrong)

/-- 'laws.FnExactEndsOf': WHATEVER THE INPUT: true; the input reads as it did. -/
def fnExactEndsOfSpec : ChangeSpec := { name := "fnExactEndsOf", fn := fun _ => fun
  | [d] => { results := [.lit (.bool true)], args := [d] }
  | _ => none }
def fnExactEndsOfRow : OpenClaim := { program := "ytnkkafeaaogffaa", sum := "09ae31e30b7e6f9ac71779c35402b11bdfa8da19dc05871b8d778c4c04320b39", func := "loop.example/g00127/laws.FnExactEndsOf", spec := "fnExactEndsOf", unfollowed := true, recurses := true, apart := false }
def FnExactEndsOfSaid : Prop := fnExactEndsOfRow.holds Try.pinned (OpenSpec.ofChange fnExactEndsOfSpec)

/-- ITS FALSE NEIGHBOUR: 'it returns false'. Refute it at one input. -/
def fnExactEndsOfWrong : ChangeSpec := { name := "fnExactEndsOf", fn := fun _ => fun
  | [d] => { results := [.lit (.bool false)], args := [d] }
  | _ => none }
def FnExactEndsOfWrongFalsely : Prop := fnExactEndsOfRow.holds Try.pinned (OpenSpec.ofChange fnExactEndsOfWrong)

/-- 'laws.FnExactDraft': WHATEVER THE INPUT: true; the input reads as it did. -/
def fnExactDraftSpec : ChangeSpec := { name := "fnExactDraft", fn := fun _ => fun
  | [d1, d2, d3] => { results := [.lit (.bool true)], args := [d1, d2, d3] }
  | _ => none }
def fnExactDraftRow : OpenClaim := { program := "ytnkkafeaaogffaa", sum := "09ae31e30b7e6f9ac71779c35402b11bdfa8da19dc05871b8d778c4c04320b39", func := "loop.example/g00127/laws.FnExactDraft", spec := "fnExactDraft", unfollowed := true, recurses := true, apart := false }
def FnExactDraftSaid : Prop := fnExactDraftRow.holds Try.pinned (OpenSpec.ofChange fnExactDraftSpec)

/-- ITS FALSE NEIGHBOUR: 'it returns false'. Refute it at one input. -/
def fnExactDraftWrong : ChangeSpec := { name := "fnExactDraft", fn := fun _ => fun
  | [d1, d2, d3] => { results := [.lit (.bool false)], args := [d1, d2, d3] }
  | _ => none }
def FnExactDraftWrongFalsely : Prop := fnExactDraftRow.holds Try.pinned (OpenSpec.ofChange fnExactDraftWrong)

/-- 'laws.FnPuts': WHATEVER THE INPUT: true; the input reads as it did. -/
def fnPutsSpec : ChangeSpec := { name := "fnPuts", fn := fun _ => fun
  | [d] => { results := [.lit (.bool true)], args := [d] }
  | _ => none }
def fnPutsRow : OpenClaim := { program := "ytnkkafeaaogffaa", sum := "09ae31e30b7e6f9ac71779c35402b11bdfa8da19dc05871b8d778c4c04320b39", func := "loop.example/g00127/laws.FnPuts", spec := "fnPuts", apart := false }
def FnPutsSaid : Prop := fnPutsRow.holds Try.pinned (OpenSpec.ofChange fnPutsSpec)

/-- ITS FALSE NEIGHBOUR: 'it returns false'. Refute it at one input. -/
def fnPutsWrong : ChangeSpec := { name := "fnPuts", fn := fun _ => fun
  | [d] => { results := [.lit (.bool false)], args := [d] }
  | _ => none }
def FnPutsWrongFalsely : Prop := fnPutsRow.holds Try.pinned (OpenSpec.ofChange fnPutsWrong)

/-- 'laws.FnLogs': WHATEVER THE INPUT: true; the input reads as it did. -/
def fnLogsSpec : ChangeSpec := { name := "fnLogs", fn := fun _ => fun
  | [d] => { results := [.lit (.bool true)], args := [d] }
  | _ => none }
def fnLogsRow : OpenClaim := { program := "ytnkkafeaaogffaa", sum := "09ae31e30b7e6f9ac71779c35402b11bdfa8da19dc05871b8d778c4c04320b39", func := "loop.example/g00127/laws.FnLogs", spec := "fnLogs", apart := false }
def FnLogsSaid : Prop := fnLogsRow.holds Try.pinned (OpenSpec.ofChange fnLogsSpec)

/-- ITS FALSE NEIGHBOUR: 'it returns false'. Refute it at one input. -/
def fnLogsWrong : ChangeSpec := { name := "fnLogs", fn := fun _ => fun
  | [d] => { results := [.lit (.bool false)], args := [d] }
  | _ => none }
def FnLogsWrongFalsely : Prop := fnLogsRow.holds Try.pinned (OpenSpec.ofChange fnLogsWrong)

/-- 'laws.FnHeavier': WHATEVER THE INPUT: true; the input reads as it did. -/
def fnHeavierSpec : ChangeSpec := { name := "fnHeavier", fn := fun _ => fun
  | [d] => { results := [.lit (.bool true)], args := [d] }
  | _ => none }
def fnHeavierRow : OpenClaim := { program := "ytnkkafeaaogffaa", sum := "09ae31e30b7e6f9ac71779c35402b11bdfa8da19dc05871b8d778c4c04320b39", func := "loop.example/g00127/laws.FnHeavier", spec := "fnHeavier", recurses := true, apart := false }
def FnHeavierSaid : Prop := fnHeavierRow.holds Try.pinned (OpenSpec.ofChange fnHeavierSpec)

/-- ITS FALSE NEIGHBOUR: 'it returns false'. Refute it at one input. -/
def fnHeavierWrong : ChangeSpec := { name := "fnHeavier", fn := fun _ => fun
  | [d] => { results := [.lit (.bool false)], args := [d] }
  | _ => none }
def FnHeavierWrongFalsely : Prop := fnHeavierRow.holds Try.pinned (OpenSpec.ofChange fnHeavierWrong)

/- THE SECOND FORM. 'bulk': how many values and letters a reading holds, each counted each time it is reached (what is shared counts as often as it is met; a slice's spare places count too). A statement '..UptoSaid' is the law's where the arguments, and the package variables that the reading takes, are together of bulk at most 1048576: NARROWER than '..Said'. Prove '..Said' where nothing that the law and all that it calls make is longer than what came in: it says more and counts as full. Else prove '..UptoSaid'. A law counts once. -/
mutual
def uptoBulk {H : Type} : DataW H → Nat
  | .lit (.string bytes) => bytes.length + 1
  | .lit _ => 1
  | .nil => 1
  | .ptr d => uptoBulk d + 1
  | .slice elems spare => uptoBulkAll elems + uptoBulkAll spare + 1
  | .agg parts => uptoBulkAll parts + 1
  | .iface _ d => uptoBulk d + 1
  | .map entries => uptoBulkEntries entries + 1
  | .held _ => 1
def uptoBulkAll {H : Type} : List (DataW H) → Nat
  | [] => 0
  | d :: r => uptoBulk d + uptoBulkAll r
def uptoBulkEntries {H : Type} : List (Lit × DataW H) → Nat
  | [] => 0
  | x :: r => uptoBulkEntry x + uptoBulkEntries r
def uptoBulkEntry {H : Type} : Lit × DataW H → Nat
  | (.string bytes, d) => bytes.length + uptoBulk d + 1
  | (_, d) => uptoBulk d + 1
 end
def uptoSmall : (H : Type) → List (DataW H) → Bool := fun _ ds => decide (uptoBulkAll ds ≤ 1048576)
def OpenSpec.upto (s : _root_.Go.ChangeSpec) : _root_.Go.OpenSpec := { _root_.Go.OpenSpec.ofChange s with cond := some uptoSmall }

/-- 'laws.FnExactReadCommand', WHERE WHAT IT READS IS OF BULK AT MOST 1048576: true; the input reads as it did. -/
def fnExactReadCommandUptoRow : OpenClaim := { program := "ytnkkafeaaogffaa", sum := "09ae31e30b7e6f9ac71779c35402b11bdfa8da19dc05871b8d778c4c04320b39", func := "loop.example/g00127/laws.FnExactReadCommand", spec := "fnExactReadCommand", unfollowed := true, recurses := true, apart := false, narrowed := true }
def FnExactReadCommandUptoSaid : Prop := fnExactReadCommandUptoRow.holds Try.pinned (OpenSpec.upto fnExactReadCommandSpec)

/-- 'laws.FnExactSameHall', WHERE WHAT IT READS IS OF BULK AT MOST 1048576: true; the input reads as it did. -/
def fnExactSameHallUptoRow : OpenClaim := { program := "ytnkkafeaaogffaa", sum := "09ae31e30b7e6f9ac71779c35402b11bdfa8da19dc05871b8d778c4c04320b39", func := "loop.example/g00127/laws.FnExactSameHall", spec := "fnExactSameHall", unfollowed := true, recurses := true, apart := false, narrowed := true }
def FnExactSameHallUptoSaid : Prop := fnExactSameHallUptoRow.holds Try.pinned (OpenSpec.upto fnExactSameHallSpec)

/-- 'laws.FnEvents', WHERE WHAT IT READS IS OF BULK AT MOST 1048576: true; the input reads as it did. -/
def fnEventsUptoRow : OpenClaim := { program := "ytnkkafeaaogffaa", sum := "09ae31e30b7e6f9ac71779c35402b11bdfa8da19dc05871b8d778c4c04320b39", func := "loop.example/g00127/laws.FnEvents", spec := "fnEvents", unfollowed := true, recurses := true, apart := false, narrowed := true }
def FnEventsUptoSaid : Prop := fnEventsUptoRow.holds Try.pinned (OpenSpec.upto fnEventsSpec)

/-- 'laws.FnEntries', WHERE WHAT IT READS IS OF BULK AT MOST 1048576: true; the input reads as it did. -/
def fnEntriesUptoRow : OpenClaim := { program := "ytnkkafeaaogffaa", sum := "09ae31e30b7e6f9ac71779c35402b11bdfa8da19dc05871b8d778c4c04320b39", func := "loop.example/g00127/laws.FnEntries", spec := "fnEntries", apart := false, narrowed := true }
def FnEntriesUptoSaid : Prop := fnEntriesUptoRow.holds Try.pinned (OpenSpec.upto fnEntriesSpec)

/-- 'laws.FnExactAgreed', WHERE WHAT IT READS IS OF BULK AT MOST 1048576: true; the input reads as it did. -/
def fnExactAgreedUptoRow : OpenClaim := { program := "ytnkkafeaaogffaa", sum := "09ae31e30b7e6f9ac71779c35402b11bdfa8da19dc05871b8d778c4c04320b39", func := "loop.example/g00127/laws.FnExactAgreed", spec := "fnExactAgreed", unfollowed := true, recurses := true, apart := false, narrowed := true }
def FnExactAgreedUptoSaid : Prop := fnExactAgreedUptoRow.holds Try.pinned (OpenSpec.upto fnExactAgreedSpec)

/-- 'laws.FnExactClash', WHERE WHAT IT READS IS OF BULK AT MOST 1048576: true; the input reads as it did. -/
def fnExactClashUptoRow : OpenClaim := { program := "ytnkkafeaaogffaa", sum := "09ae31e30b7e6f9ac71779c35402b11bdfa8da19dc05871b8d778c4c04320b39", func := "loop.example/g00127/laws.FnExactClash", spec := "fnExactClash", unfollowed := true, recurses := true, apart := false, narrowed := true }
def FnExactClashUptoSaid : Prop := fnExactClashUptoRow.holds Try.pinned (OpenSpec.upto fnExactClashSpec)

/-- 'laws.FnExactAuthOf', WHERE WHAT IT READS IS OF BULK AT MOST 1048576: true; the input reads as it did. -/
def fnExactAuthOfUptoRow : OpenClaim := { program := "ytnkkafeaaogffaa", sum := "09ae31e30b7e6f9ac71779c35402b11bdfa8da19dc05871b8d778c4c04320b39", func := "loop.example/g00127/laws.FnExactAuthOf", spec := "fnExactAuthOf", recurses := true, apart := false, narrowed := true }
def FnExactAuthOfUptoSaid : Prop := fnExactAuthOfUptoRow.holds Try.pinned (OpenSpec.upto fnExactAuthOfSpec)

/-- 'laws.FnExactEndsOf', WHERE WHAT IT READS IS OF BULK AT MOST 1048576: true; the input reads as it did. -/
def fnExactEndsOfUptoRow : OpenClaim := { program := "ytnkkafeaaogffaa", sum := "09ae31e30b7e6f9ac71779c35402b11bdfa8da19dc05871b8d778c4c04320b39", func := "loop.example/g00127/laws.FnExactEndsOf", spec := "fnExactEndsOf", unfollowed := true, recurses := true, apart := false, narrowed := true }
def FnExactEndsOfUptoSaid : Prop := fnExactEndsOfUptoRow.holds Try.pinned (OpenSpec.upto fnExactEndsOfSpec)

/-- 'laws.FnExactDraft', WHERE WHAT IT READS IS OF BULK AT MOST 1048576: true; the input reads as it did. -/
def fnExactDraftUptoRow : OpenClaim := { program := "ytnkkafeaaogffaa", sum := "09ae31e30b7e6f9ac71779c35402b11bdfa8da19dc05871b8d778c4c04320b39", func := "loop.example/g00127/laws.FnExactDraft", spec := "fnExactDraft", unfollowed := true, recurses := true, apart := false, narrowed := true }
def FnExactDraftUptoSaid : Prop := fnExactDraftUptoRow.holds Try.pinned (OpenSpec.upto fnExactDraftSpec)

/-- 'laws.FnPuts', WHERE WHAT IT READS IS OF BULK AT MOST 1048576: true; the input reads as it did. -/
def fnPutsUptoRow : OpenClaim := { program := "ytnkkafeaaogffaa", sum := "09ae31e30b7e6f9ac71779c35402b11bdfa8da19dc05871b8d778c4c04320b39", func := "loop.example/g00127/laws.FnPuts", spec := "fnPuts", apart := false, narrowed := true }
def FnPutsUptoSaid : Prop := fnPutsUptoRow.holds Try.pinned (OpenSpec.upto fnPutsSpec)

/-- 'laws.FnLogs', WHERE WHAT IT READS IS OF BULK AT MOST 1048576: true; the input reads as it did. -/
def fnLogsUptoRow : OpenClaim := { program := "ytnkkafeaaogffaa", sum := "09ae31e30b7e6f9ac71779c35402b11bdfa8da19dc05871b8d778c4c04320b39", func := "loop.example/g00127/laws.FnLogs", spec := "fnLogs", apart := false, narrowed := true }
def FnLogsUptoSaid : Prop := fnLogsUptoRow.holds Try.pinned (OpenSpec.upto fnLogsSpec)

/-- 'laws.FnHeavier', WHERE WHAT IT READS IS OF BULK AT MOST 1048576: true; the input reads as it did. -/
def fnHeavierUptoRow : OpenClaim := { program := "ytnkkafeaaogffaa", sum := "09ae31e30b7e6f9ac71779c35402b11bdfa8da19dc05871b8d778c4c04320b39", func := "loop.example/g00127/laws.FnHeavier", spec := "fnHeavier", recurses := true, apart := false, narrowed := true }
def FnHeavierUptoSaid : Prop := fnHeavierUptoRow.holds Try.pinned (OpenSpec.upto fnHeavierSpec)

end Rows
end Go.Proofs.Ytnkkafeaaogffaa
