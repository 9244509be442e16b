/-
  No cell of these rows narrows 'for every input' (looked for: loops, veiled, ifaces, maps, wideKeys, modest, calm, conditions, laid).
  DERIVED. THE GIVEN ROWS OF THIS SEAT. 8 by the template 'for every input the law returns true; each argument reads behind the call as it read before'; 0 by the template 'total and deterministic' (their statements: YtgkcajcpnlkdfaaTotals.lean).
  GIVEN WITH THE SEED: the statements are not yours to turn. If you find one false, say at which input.
  Laid BY PROGRAM, IN A SANDBOX (cutbox-rows.mjs): the forced cells as the released guide's own fill.sh prints them over the translation 8547c667dafa277f… (all of the seat's roots in one cut). By AI agents, Wed Nov 11 2026. No macro, syntax, notation, axiom, sorry.
-/
import Derived.Test.YtgkcajcpnlkdfaaChecked
import GoSem.Claim
import GoSem.ClaimJoined
import GoSem.ClaimMapViews
import Derived.JoinedTies
import Derived.KernelRfl
namespace Go.Proofs.Ytgkcajcpnlkdfaa
/- THE CELL 'sum', in the pinned program and in every row, IS THE sha256 OF THE DUMP (.gsa) THAT YtgkcajcpnlkdfaaProg.lean LOADS. Nothing in Lean hashes anything: it is a label: what it is worth is what the hold of that sum in a sandbox is worth. -/
noncomputable def Try.pinned : Pinned := { name := "ytgkcajcpnlkdfaa", sum := "8547c667dafa277f088849f1a6be600f6f706068f6e57162cda0aaea5f83530e", checked := Try.checked }
namespace Rows
def none {H : Type} : Left H := { results := [], args := [] }

/-- 'laws.FnExactKnown': WHATEVER THE INPUT: true; the input reads as it did. -/
def fnExactKnownSpec : ChangeSpec := { name := "fnExactKnown", fn := fun _ => fun
  | [d1, d2] => { results := [.lit (.bool true)], args := [d1, d2] }
  | _ => none }
def fnExactKnownRow : OpenClaim := { program := "ytgkcajcpnlkdfaa", sum := "8547c667dafa277f088849f1a6be600f6f706068f6e57162cda0aaea5f83530e", func := "loop.example/g00127/laws.FnExactKnown", spec := "fnExactKnown", apart := false }
def FnExactKnownSaid : Prop := fnExactKnownRow.holds Try.pinned (OpenSpec.ofChange fnExactKnownSpec)

/-- ITS FALSE NEIGHBOUR: 'it returns false'. Refute it at one input. -/
def fnExactKnownWrong : ChangeSpec := { name := "fnExactKnown", fn := fun _ => fun
  | [d1, d2] => { results := [.lit (.bool false)], args := [d1, d2] }
  | _ => none }
def FnExactKnownWrongFalsely : Prop := fnExactKnownRow.holds Try.pinned (OpenSpec.ofChange fnExactKnownWrong)

/-- 'laws.FnExactSaid': WHATEVER THE INPUT: true; the input reads as it did. -/
def fnExactSaidSpec : ChangeSpec := { name := "fnExactSaid", fn := fun _ => fun
  | [d] => { results := [.lit (.bool true)], args := [d] }
  | _ => none }
def fnExactSaidRow : OpenClaim := { program := "ytgkcajcpnlkdfaa", sum := "8547c667dafa277f088849f1a6be600f6f706068f6e57162cda0aaea5f83530e", func := "loop.example/g00127/laws.FnExactSaid", spec := "fnExactSaid", apart := false }
def FnExactSaidSaid : Prop := fnExactSaidRow.holds Try.pinned (OpenSpec.ofChange fnExactSaidSpec)

/-- ITS FALSE NEIGHBOUR: 'it returns false'. Refute it at one input. -/
def fnExactSaidWrong : ChangeSpec := { name := "fnExactSaid", fn := fun _ => fun
  | [d] => { results := [.lit (.bool false)], args := [d] }
  | _ => none }
def FnExactSaidWrongFalsely : Prop := fnExactSaidRow.holds Try.pinned (OpenSpec.ofChange fnExactSaidWrong)

/-- 'laws.FnExactAgreed': WHATEVER THE INPUT: true; the input reads as it did. -/
def fnExactAgreedSpec : ChangeSpec := { name := "fnExactAgreed", fn := fun _ => fun
  | [d] => { results := [.lit (.bool true)], args := [d] }
  | _ => none }
def fnExactAgreedRow : OpenClaim := { program := "ytgkcajcpnlkdfaa", sum := "8547c667dafa277f088849f1a6be600f6f706068f6e57162cda0aaea5f83530e", func := "loop.example/g00127/laws.FnExactAgreed", spec := "fnExactAgreed", unfollowed := true, recurses := true, apart := false }
def FnExactAgreedSaid : Prop := fnExactAgreedRow.holds Try.pinned (OpenSpec.ofChange fnExactAgreedSpec)

/-- ITS FALSE NEIGHBOUR: 'it returns false'. Refute it at one input. -/
def fnExactAgreedWrong : ChangeSpec := { name := "fnExactAgreed", fn := fun _ => fun
  | [d] => { results := [.lit (.bool false)], args := [d] }
  | _ => none }
def FnExactAgreedWrongFalsely : Prop := fnExactAgreedRow.holds Try.pinned (OpenSpec.ofChange fnExactAgreedWrong)

/-- 'laws.FnExactClash': WHATEVER THE INPUT: true; the input reads as it did. -/
def fnExactClashSpec : ChangeSpec := { name := "fnExactClash", fn := fun _ => fun
  | [d] => { results := [.lit (.bool true)], args := [d] }
  | _ => none }
def fnExactClashRow : OpenClaim := { program := "ytgkcajcpnlkdfaa", sum := "8547c667dafa277f088849f1a6be600f6f706068f6e57162cda0aaea5f83530e", func := "loop.example/g00127/laws.FnExactClash", spec := "fnExactClash", unfollowed := true, recurses := true, apart := false }
def FnExactClashSaid : Prop := fnExactClashRow.holds Try.pinned (OpenSpec.ofChange fnExactClashSpec)

/-- ITS FALSE NEIGHBOUR: 'it returns false'. Refute it at one input. -/
def fnExactClashWrong : ChangeSpec := { name := "fnExactClash", fn := fun _ => fun
  | [d] => { results := [.lit (.bool false)], args := [d] }
  | _ => none }
def FnExactClashWrongFalsely : Prop := fnExactClashRow.holds Try.pinned (OpenSpec.ofChange fnExactClashWrong)

/-- 'laws.FnExactAuthOf': WHATEVER THE INPUT: true; the input reads as it did. -/
def fnExactAuthOfSpec : ChangeSpec := { name := "fnExactAuthOf", fn := fun _ => fun
  | [d1, d2, d3] => { results := [.lit (.bool true)], args := [d1, d2, d3] }
  | _ => none }
def fnExactAuthOfRow : OpenClaim := { program := "ytgkcajcpnlkdfaa", sum := "8547c667dafa277f088849f1a6be600f6f706068f6e57162cda0aaea5f83530e", func := "loop.example/g00127/laws.FnExactAuthOf", spec := "fnExactAuthOf", recurses := true, apart := false }
def FnExactAuthOfSaid : Prop := fnExactAuthOfRow.holds Try.pinned (OpenSpec.ofChange fnExactAuthOfSpec)

/-- ITS FALSE NEIGHBOUR: 'it returns false'. Refute it at one input. -/
def fnExactAuthOfWrong : ChangeSpec := { name := "fnExactAuthOf", fn := fun _ => fun
  | [d1, d2, d3] => { results := [.lit (.bool false)], args := [d1, d2, d3] }
  | _ => none }
def FnExactAuthOfWrongFalsely : Prop := fnExactAuthOfRow.holds Try.pinned (OpenSpec.ofChange fnExactAuthOfWrong)

/-- 'laws.FnExactEndsOf': WHATEVER THE INPUT: true; the input reads as it did. -/
def fnExactEndsOfSpec : ChangeSpec := { name := "fnExactEndsOf", fn := fun _ => fun
  | [d] => { results := [.lit (.bool true)], args := [d] }
  | _ => none }
def fnExactEndsOfRow : OpenClaim := { program := "ytgkcajcpnlkdfaa", sum := "8547c667dafa277f088849f1a6be600f6f706068f6e57162cda0aaea5f83530e", func := "loop.example/g00127/laws.FnExactEndsOf", spec := "fnExactEndsOf", unfollowed := true, recurses := true, apart := false }
def FnExactEndsOfSaid : Prop := fnExactEndsOfRow.holds Try.pinned (OpenSpec.ofChange fnExactEndsOfSpec)

/-- ITS FALSE NEIGHBOUR: 'it returns false'. Refute it at one input. -/
def fnExactEndsOfWrong : ChangeSpec := { name := "fnExactEndsOf", fn := fun _ => fun
  | [d] => { results := [.lit (.bool false)], args := [d] }
  | _ => none }
def FnExactEndsOfWrongFalsely : Prop := fnExactEndsOfRow.holds Try.pinned (OpenSpec.ofChange fnExactEndsOfWrong)

/-- 'laws.FnExactDraft': WHATEVER THE INPUT: true; the input reads as it did. -/
def fnExactDraftSpec : ChangeSpec := { name := "fnExactDraft", fn := fun _ => fun
  | [d1, d2, d3] => { results := [.lit (.bool true)], args := [d1, d2, d3] }
  | _ => none }
def fnExactDraftRow : OpenClaim := { program := "ytgkcajcpnlkdfaa", sum := "8547c667dafa277f088849f1a6be600f6f706068f6e57162cda0aaea5f83530e", func := "loop.example/g00127/laws.FnExactDraft", spec := "fnExactDraft", unfollowed := true, recurses := true, apart := false }
def FnExactDraftSaid : Prop := fnExactDraftRow.holds Try.pinned (OpenSpec.ofChange fnExactDraftSpec)

/-- ITS FALSE NEIGHBOUR: 'it returns false'. Refute it at one input. -/
def fnExactDraftWrong : ChangeSpec := { name := "fnExactDraft", fn := fun _ => fun
  | [d1, d2, d3] => { results := [.lit (.bool false)], args := [d1, d2, d3] }
  | _ => none }
def FnExactDraftWrongFalsely : Prop := fnExactDraftRow.holds Try.pinned (OpenSpec.ofChange fnExactDraftWrong)

/-- 'laws.FnExactHallNew': WHATEVER THE INPUT: true; the input reads as it did. -/
def fnExactHallNewSpec : ChangeSpec := { name := "fnExactHallNew", fn := fun _ => fun
  | [] => { results := [.lit (.bool true)], args := [] }
  | _ => none }
def fnExactHallNewRow : OpenClaim := { program := "ytgkcajcpnlkdfaa", sum := "8547c667dafa277f088849f1a6be600f6f706068f6e57162cda0aaea5f83530e", func := "loop.example/g00127/laws.FnExactHallNew", spec := "fnExactHallNew", apart := false }
def FnExactHallNewSaid : Prop := fnExactHallNewRow.holds Try.pinned (OpenSpec.ofChange fnExactHallNewSpec)

/-- ITS FALSE NEIGHBOUR: 'it returns false'. Refute it at one input. -/
def fnExactHallNewWrong : ChangeSpec := { name := "fnExactHallNew", fn := fun _ => fun
  | [] => { results := [.lit (.bool false)], args := [] }
  | _ => none }
def FnExactHallNewWrongFalsely : Prop := fnExactHallNewRow.holds Try.pinned (OpenSpec.ofChange fnExactHallNewWrong)

/- THE SECOND FORM. 'bulk': how many values and letters a reading holds, each counted each time it is reached (what is shared counts as often as it is met; a slice's spare places count too). A statement '..UptoSaid' is the law's where the arguments, and the package variables that the reading takes, are together of bulk at most 1048576: NARROWER than '..Said'. Prove '..Said' where nothing that the law and all that it calls make is longer than what came in: it says more and counts as full. Else prove '..UptoSaid'. A law counts once. -/
mutual
def uptoBulk {H : Type} : DataW H → Nat
  | .lit (.string bytes) => bytes.length + 1
  | .lit _ => 1
  | .nil => 1
  | .ptr d => uptoBulk d + 1
  | .slice elems spare => uptoBulkAll elems + uptoBulkAll spare + 1
  | .agg parts => uptoBulkAll parts + 1
  | .iface _ d => uptoBulk d + 1
  | .map entries => uptoBulkEntries entries + 1
  | .held _ => 1
def uptoBulkAll {H : Type} : List (DataW H) → Nat
  | [] => 0
  | d :: r => uptoBulk d + uptoBulkAll r
def uptoBulkEntries {H : Type} : List (Lit × DataW H) → Nat
  | [] => 0
  | x :: r => uptoBulkEntry x + uptoBulkEntries r
def uptoBulkEntry {H : Type} : Lit × DataW H → Nat
  | (.string bytes, d) => bytes.length + uptoBulk d + 1
  | (_, d) => uptoBulk d + 1
 end
def uptoSmall : (H : Type) → List (DataW H) → Bool := fun _ ds => decide (uptoBulkAll ds ≤ 1048576)
def OpenSpec.upto (s : _root_.Go.ChangeSpec) : _root_.Go.OpenSpec := { _root_.Go.OpenSpec.ofChange s with cond := some uptoSmall }

/-- 'laws.FnExactKnown', WHERE WHAT IT READS IS OF BULK AT MOST 1048576: true; the input reads as it did. -/
def fnExactKnownUptoRow : OpenClaim := { program := "ytgkcajcpnlkdfaa", sum := "8547c667dafa277f088849f1a6be600f6f706068f6e57162cda0aaea5f83530e", func := "loop.example/g00127/laws.FnExactKnown", spec := "fnExactKnown", apart := false, narrowed := true }
def FnExactKnownUptoSaid : Prop := fnExactKnownUptoRow.holds Try.pinned (OpenSpec.upto fnExactKnownSpec)

/-- 'laws.FnExactSaid', WHERE WHAT IT READS IS OF BULK AT MOST 1048576: true; the input reads as it did. -/
def fnExactSaidUptoRow : OpenClaim := { program := "ytgkcajcpnlkdfaa", sum := "8547c667dafa277f088849f1a6be600f6f706068f6e57162cda0aaea5f83530e", func := "loop.example/g00127/laws.FnExactSaid", spec := "fnExactSaid", apart := false, narrowed := true }
def FnExactSaidUptoSaid : Prop := fnExactSaidUptoRow.holds Try.pinned (OpenSpec.upto fnExactSaidSpec)

/-- 'laws.FnExactAgreed', WHERE WHAT IT READS IS OF BULK AT MOST 1048576: true; the input reads as it did. -/
def fnExactAgreedUptoRow : OpenClaim := { program := "ytgkcajcpnlkdfaa", sum := "8547c667dafa277f088849f1a6be600f6f706068f6e57162cda0aaea5f83530e", func := "loop.example/g00127/laws.FnExactAgreed", spec := "fnExactAgreed", unfollowed := true, recurses := true, apart := false, narrowed := true }
def FnExactAgreedUptoSaid : Prop := fnExactAgreedUptoRow.holds Try.pinned (OpenSpec.upto fnExactAgreedSpec)

/-- 'laws.FnExactClash', WHERE WHAT IT READS IS OF BULK AT MOST 1048576: true; the input reads as it did. -/
def fnExactClashUptoRow : OpenClaim := { program := "ytgkcajcpnlkdfaa", sum := "8547c667dafa277f088849f1a6be600f6f706068f6e57162cda0aaea5f83530e", func := "loop.example/g00127/laws.FnExactClash", spec := "fnExactClash", unfollowed := true, recurses := true, apart := false, narrowed := true }
def FnExactClashUptoSaid : Prop := fnExactClashUptoRow.holds Try.pinned (OpenSpec.upto fnExactClashSpec)

/-- 'laws.FnExactAuthOf', WHERE WHAT IT READS IS OF BULK AT MOST 1048576: true; the input reads as it did. -/
def fnExactAuthOfUptoRow : OpenClaim := { program := "ytgkcajcpnlkdfaa", sum := "8547c667dafa277f088849f1a6be600f6f706068f6e57162cda0aaea5f83530e", func := "loop.example/g00127/laws.FnExactAuthOf", spec := "fnExactAuthOf", recurses := true, apart := false, narrowed := true }
def FnExactAuthOfUptoSaid : Prop := fnExactAuthOfUptoRow.holds Try.pinned (OpenSpec.upto fnExactAuthOfSpec)

/-- 'laws.FnExactEndsOf', WHERE WHAT IT READS IS OF BULK AT MOST 1048576: true; the input reads as it did. -/
def fnExactEndsOfUptoRow : OpenClaim := { program := "ytgkcajcpnlkdfaa", sum := "8547c667dafa277f088849f1a6be600f6f706068f6e57162cda0aaea5f83530e", func := "loop.example/g00127/laws.FnExactEndsOf", spec := "fnExactEndsOf", unfollowed := true, recurses := true, apart := false, narrowed := true }
def FnExactEndsOfUptoSaid : Prop := fnExactEndsOfUptoRow.holds Try.pinned (OpenSpec.upto fnExactEndsOfSpec)

/-- 'laws.FnExactDraft', WHERE WHAT IT READS IS OF BULK AT MOST 1048576: true; the input reads as it did. -/
def fnExactDraftUptoRow : OpenClaim := { program := "ytgkcajcpnlkdfaa", sum := "8547c667dafa277f088849f1a6be600f6f706068f6e57162cda0aaea5f83530e", func := "loop.example/g00127/laws.FnExactDraft", spec := "fnExactDraft", unfollowed := true, recurses := true, apart := false, narrowed := true }
def FnExactDraftUptoSaid : Prop := fnExactDraftUptoRow.holds Try.pinned (OpenSpec.upto fnExactDraftSpec)

/-- 'laws.FnExactHallNew', WHERE WHAT IT READS IS OF BULK AT MOST 1048576: true; the input reads as it did. -/
def fnExactHallNewUptoRow : OpenClaim := { program := "ytgkcajcpnlkdfaa", sum := "8547c667dafa277f088849f1a6be600f6f706068f6e57162cda0aaea5f83530e", func := "loop.example/g00127/laws.FnExactHallNew", spec := "fnExactHallNew", apart := false, narrowed := true }
def FnExactHallNewUptoSaid : Prop := fnExactHallNewUptoRow.holds Try.pinned (OpenSpec.upto fnExactHallNewSpec)

end Rows
end Go.Proofs.Ytgkcajcpnlkdfaa
