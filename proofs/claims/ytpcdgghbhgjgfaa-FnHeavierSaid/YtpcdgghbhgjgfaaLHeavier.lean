/- FnHeavier: whatever the input, the law's function returns true and leaves its input as it was. Conditions: none. -/
import Derived.Test.YtpcdgghbhgjgfaaLB3
import Derived.Test.YtpcdgghbhgjgfaaK3
import Derived.Test.YtpcdgghbhgjgfaaRows
import Derived.ProofKit
set_option linter.unusedVariables false
namespace Go.Proofs.Ytpcdgghbhgjgfaa.fnHeavier
open Go Go.Vm
theorem own : ownKnob Try.prog.godebug = none := by kernel_rfl
theorem laidOut : laidOutB Try.prog = true := by kernel_rfl

theorem holds (x : Args [(.slice 5 (.int .u8))]) (h : ArgsWf _ x) : Ev (fun k => l_FnHeavier k x.1) true := FnHeavier_ev x.1
set_option maxRecDepth 100000 in
theorem lifted (os : Os) (started : os.Started) (H : Type) (enc : TypeId × Value → H) :
    ReturnsInHanded {} Try.checked os 4 .any (Rows.fnHeavierSpec.pre6 enc Try.prog Try.f4 Rows.fnHeavierRow.domain false) (Rows.fnHeavierSpec.post enc Try.prog Try.f4 false true false false) := by
  refine returnsInHanded_of_change (C := Try.checked) own started (by kernel_rfl) Try.func4
    (ChangeSpec.witness6 (enc := enc) (C := Try.checked) false ⟨#[], #[.slice none 0 0], []⟩ 8 (by kernel_rfl) (by kernel_rfl) (by kernel_rfl) (by kernel_rfl)) ?_
  intro W base args ds gs before hval hW hcnd _
  exact law_contract (fn := Try.f4) [(.slice 5 (.int .u8))] (show TysOk Try.prog _ [30] from ⟨ty_30, rfl, trivial⟩) laidOut (by kernel_rfl) rfl rfl (by kernel_rfl) (fun ds h => by match ds, h with | [d0], _ => rfl)
    (fun k x => l_FnHeavier k x.1) (fun k => (s_l_FnHeavier k).1) (fun x h => (holds x h).exists) args ds gs before hval hW
theorem both {a b : Bool} (h : a = true) (k : b = true) : (a && b) = true := by rw [h, k]; rfl
set_option maxHeartbeats 4000000 in
theorem closed : joinedFacts Try.prog 4 Try.f4 Rows.fnHeavierSpec Rows.fnHeavierRow = true := by
  unfold joinedFacts
  repeat' with_reducible apply both
  all_goals (as_aux_lemma => kernel_rfl)
theorem proved : Rows.FnHeavierSaid :=
  OpenClaim.holds_of_wide 4 Try.f4 rfl rfl rfl rfl rfl rfl rfl ⟨rfl, rfl, rfl, rfl, rfl⟩ rfl rfl rfl rfl rfl (by kernel_rfl) Try.func4 closed
    (of_decide_eq_true (by kernel_rfl)) (by unfold Func.isWrapper; first | (rw [if_pos (by decide +kernel)]; kernel_rfl) | (rw [if_neg (by decide +kernel)]; exact ⟨rfl, rfl⟩))
    (fun os started H enc _ => lifted os started H enc)
#print axioms proved
end Go.Proofs.Ytpcdgghbhgjgfaa.fnHeavier
