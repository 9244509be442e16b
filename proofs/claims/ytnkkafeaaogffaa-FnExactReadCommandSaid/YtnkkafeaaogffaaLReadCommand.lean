/- FnExactReadCommand: whatever the input, the law's function returns true and leaves its input as it was. Conditions: none. -/
import Derived.Test.YtnkkafeaaogffaaS2
import Derived.Test.YtnkkafeaaogffaaK2
import Derived.Test.YtnkkafeaaogffaaRows
import Derived.ProofKit
set_option linter.unusedVariables false
namespace Go.Proofs.Ytnkkafeaaogffaa.fnExactReadCommand
open Go Go.Vm
theorem own : ownKnob Try.prog.godebug = none := by kernel_rfl
theorem laidOut : laidOutB Try.prog = true := by kernel_rfl

theorem holds (x : Args [.str]) (h : ArgsWf _ x) : Ev (fun k => l_FnExactReadCommand k x.1) true := FnExactReadCommand_ev x.1  (same_ReadCommand x.1)
set_option maxRecDepth 100000 in
theorem lifted (os : Os) (started : os.Started) (H : Type) (enc : TypeId × Value → H) :
    ReturnsInHanded {} Try.checked os 3 .any (Rows.fnExactReadCommandSpec.pre6 enc Try.prog Try.f3 Rows.fnExactReadCommandRow.domain false) (Rows.fnExactReadCommandSpec.post enc Try.prog Try.f3 false true false false) := by
  refine returnsInHanded_of_change (C := Try.checked) own started (by kernel_rfl) Try.func3
    (ChangeSpec.witness6 (enc := enc) (C := Try.checked) false ⟨#[], #[.string ⟨#[]⟩], []⟩ 8 (by kernel_rfl) (by kernel_rfl) (by kernel_rfl) (by kernel_rfl)) ?_
  intro W base args ds gs before hval hW hcnd _
  exact law_contract (fn := Try.f3) [.str] (show TysOk Try.prog _ [9] from ⟨ty_9, rfl, trivial⟩) laidOut (by kernel_rfl) rfl rfl (by kernel_rfl) (fun ds h => by match ds, h with | [d0], _ => rfl)
    (fun k x => l_FnExactReadCommand k x.1) (fun k => (s_l_FnExactReadCommand k).1) (fun x h => (holds x h).exists) args ds gs before hval hW
theorem proved : Rows.FnExactReadCommandSaid :=
  OpenClaim.holds_of_wide 3 Try.f3 rfl rfl rfl rfl rfl rfl rfl ⟨rfl, rfl, rfl, rfl, rfl⟩ rfl rfl rfl rfl rfl (by kernel_rfl) Try.func3 (by kernel_rfl)
    (of_decide_eq_true (by kernel_rfl)) (by unfold Func.isWrapper; first | (rw [if_pos (by decide +kernel)]; kernel_rfl) | (rw [if_neg (by decide +kernel)]; exact ⟨rfl, rfl⟩))
    (fun os started H enc _ => lifted os started H enc)
#print axioms proved
end Go.Proofs.Ytnkkafeaaogffaa.fnExactReadCommand
