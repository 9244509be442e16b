/- FnExactPut: whatever the input, the law's function returns true and leaves its input as it was. Conditions: none. -/
import Derived.Test.YtpcdgghbhgjgfaaPU2
import Derived.Test.YtpcdgghbhgjgfaaK2
import Derived.Test.YtpcdgghbhgjgfaaRows
import Derived.ProofKit
set_option linter.unusedVariables false
namespace Go.Proofs.Ytpcdgghbhgjgfaa.fnExactPut
open Go Go.Vm
theorem own : ownKnob Try.prog.godebug = none := by kernel_rfl
theorem laidOut : laidOutB Try.prog = true := by kernel_rfl
theorem wf_slice_45_yItem (x : List TItem) (h : Wf (.slice 45 yItem) x) : W_ItemS x := h.1
theorem holds (x : Args [(.slice 45 yItem), (.int .i64), (.int .i64)]) (h : ArgsWf _ x) : Ev (fun k => l_FnExactPut k x.1 x.2.1 x.2.2.1) true := FnExactPut_ev x.1 x.2.1 x.2.2.1 (wf_slice_45_yItem x.1 h.1) (same_Put x.1 x.2.1 x.2.2.1)
set_option maxRecDepth 100000 in
theorem lifted (os : Os) (started : os.Started) (H : Type) (enc : TypeId × Value → H) :
    ReturnsInHanded {} Try.checked os 3 .any (Rows.fnExactPutSpec.pre6 enc Try.prog Try.f3 Rows.fnExactPutRow.domain false) (Rows.fnExactPutSpec.post enc Try.prog Try.f3 false true false false) := by
  refine returnsInHanded_of_change (C := Try.checked) own started (by kernel_rfl) Try.func3
    (ChangeSpec.witness6 (enc := enc) (C := Try.checked) false ⟨#[], #[.slice none 0 0, .int .i64 0, .int .i64 0], []⟩ 8 (by kernel_rfl) (by kernel_rfl) (by kernel_rfl) (by kernel_rfl)) ?_
  intro W base args ds gs before hval hW hcnd _
  exact law_contract (fn := Try.f3) [(.slice 45 yItem), (.int .i64), (.int .i64)] (show TysOk Try.prog _ [22, 3, 3] from ⟨ty_22, rfl, ty_3, rfl, ty_3, rfl, trivial⟩) laidOut (by kernel_rfl) rfl rfl (by kernel_rfl) (fun ds h => by match ds, h with | [d0, d1, d2], _ => rfl)
    (fun k x => l_FnExactPut k x.1 x.2.1 x.2.2.1) (fun k => (s_l_FnExactPut k).1) (fun x h => (holds x h).exists) args ds gs before hval hW
theorem both {a b : Bool} (h : a = true) (k : b = true) : (a && b) = true := by rw [h, k]; rfl
set_option maxHeartbeats 4000000 in
theorem closed : joinedFacts Try.prog 3 Try.f3 Rows.fnExactPutSpec Rows.fnExactPutRow = true := by
  unfold joinedFacts
  repeat' with_reducible apply both
  all_goals (as_aux_lemma => kernel_rfl)
theorem proved : Rows.FnExactPutSaid :=
  OpenClaim.holds_of_wide 3 Try.f3 rfl rfl rfl rfl rfl rfl rfl ⟨rfl, rfl, rfl, rfl, rfl⟩ rfl rfl rfl rfl rfl (by kernel_rfl) Try.func3 closed
    (of_decide_eq_true (by kernel_rfl)) (by unfold Func.isWrapper; first | (rw [if_pos (by decide +kernel)]; kernel_rfl) | (rw [if_neg (by decide +kernel)]; exact ⟨rfl, rfl⟩))
    (fun os started H enc _ => lifted os started H enc)
#print axioms proved
end Go.Proofs.Ytpcdgghbhgjgfaa.fnExactPut
