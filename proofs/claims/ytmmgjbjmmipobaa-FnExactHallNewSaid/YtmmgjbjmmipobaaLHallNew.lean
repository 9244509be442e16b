/- FnExactHallNew: whatever the input, the law's function returns true and leaves its input as it was. Conditions: none. -/
import Derived.Test.YtmmgjbjmmipobaaNH2
import Derived.Test.YtmmgjbjmmipobaaK2
import Derived.Test.YtmmgjbjmmipobaaRows
import Derived.ProofKit
set_option linter.unusedVariables false
namespace Go.Proofs.Ytmmgjbjmmipobaa.fnExactHallNew
open Go Go.Vm
theorem own : ownKnob Try.prog.godebug = none := by kernel_rfl
theorem laidOut : laidOutB Try.prog = true := by kernel_rfl

theorem holds (x : Args []) (h : ArgsWf _ x) : Ev (fun k => l_FnExactHallNew k) true := FnExactHallNew_ev   (same_HallNew )
set_option maxRecDepth 100000 in
theorem lifted (os : Os) (started : os.Started) (H : Type) (enc : TypeId × Value → H) :
    ReturnsInHanded {} Try.checked os 3 .any (Rows.fnExactHallNewSpec.pre6 enc Try.prog Try.f3 Rows.fnExactHallNewRow.domain false) (Rows.fnExactHallNewSpec.post enc Try.prog Try.f3 false true false false) := by
  refine returnsInHanded_of_change (C := Try.checked) own started (by kernel_rfl) Try.func3
    (ChangeSpec.witness6 (enc := enc) (C := Try.checked) false ⟨#[], #[], []⟩ 8 (by kernel_rfl) (by kernel_rfl) (by kernel_rfl) (by kernel_rfl)) ?_
  intro W base args ds gs before hval hW hcnd _
  exact law_contract (fn := Try.f3) [] (show TysOk Try.prog _ [] from trivial) laidOut (by kernel_rfl) rfl rfl (by kernel_rfl) (fun g hg => by cases hg) (fun ds h => by match ds, h with | [], _ => rfl)
    (fun k x => l_FnExactHallNew k) (fun k => (s_l_FnExactHallNew k).1) (fun x h => (holds x h).exists) args ds gs before hval hW
theorem both {a b : Bool} (h : a = true) (k : b = true) : (a && b) = true := by rw [h, k]; rfl
set_option maxHeartbeats 4000000 in
theorem closed : joinedFacts Try.prog 3 Try.f3 Rows.fnExactHallNewSpec Rows.fnExactHallNewRow = true := by
  unfold joinedFacts
  repeat' with_reducible apply both
  all_goals (as_aux_lemma => kernel_rfl)
theorem proved : Rows.FnExactHallNewSaid :=
  OpenClaim.holds_of_wide 3 Try.f3 rfl rfl rfl rfl rfl rfl rfl ⟨rfl, rfl, rfl, rfl, rfl⟩ rfl rfl rfl rfl rfl (by kernel_rfl) Try.func3 closed
    (of_decide_eq_true (by kernel_rfl)) (by unfold Func.isWrapper; first | (rw [if_pos (by decide +kernel)]; kernel_rfl) | (rw [if_neg (by decide +kernel)]; exact ⟨rfl, rfl⟩))
    (fun os started H enc _ => lifted os started H enc)
#print axioms proved
end Go.Proofs.Ytmmgjbjmmipobaa.fnExactHallNew
