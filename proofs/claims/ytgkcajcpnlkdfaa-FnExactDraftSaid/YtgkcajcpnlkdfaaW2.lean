/- Plain laws. -/
import Derived.Test.YtgkcajcpnlkdfaaT2
set_option linter.unusedVariables false
set_option linter.unusedSimpArgs false
namespace Go.Vm
open Go
/-! ### One state of several -/
def idsOf (s : List TItem) (ks : List Int) : List Int := (ks.map (atS s)).filter fun x => x != 0
def idsL (ss : List (List TItem)) (ks : List Int) : List Int := ss.flatMap fun s => idsOf s ks
noncomputable def resStep (es : List TEvent) (now : List TItem) (x : Int) : List TItem := bif allowed es now (findE es x).1 && keyOf (findE es x).1 != 0 then putS now (keyOf (findE es x).1) (findE es x).1.1 else now
noncomputable def resolveL (es : List TEvent) (ss : List (List TItem)) : List TItem :=
  if ss.length = 0 then [] else if ss.length = 1 then rd [] ss 0 else (orderL es (agreedL ss) (idsL ss (clashL ss))).foldl (resStep es) (agreedL ss)
def StsN (ss : List (List TItem)) : Prop := ss.length ≤ 2000 ∧ ∀ i, i < ss.length → (rd [] ss i).length ≤ 16
def StsB (ss : List (List TItem)) : Prop := ss.length ≤ 1048576 ∧ ∀ i, i < ss.length → (rd [] ss i).length ≤ 16
theorem StsN.b {ss : List (List TItem)} (h : StsN ss) : StsB ss := ⟨by have := h.1; omega, h.2⟩
theorem StsB.s {ss : List (List TItem)} (h : StsB ss) : StsS ss := ⟨by have := h.1; omega, fun i hi => by have := h.2 i hi; omega⟩
theorem StsN.s {ss : List (List TItem)} (h : StsN ss) : StsS ss := ⟨by have := h.1; omega, fun i hi => by have := h.2 i hi; omega⟩
end Go.Vm
