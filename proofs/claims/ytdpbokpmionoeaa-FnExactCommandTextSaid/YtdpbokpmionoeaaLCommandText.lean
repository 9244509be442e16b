/- FnExactCommandText: whatever the input, the law's function returns true and leaves its input as it was. Conditions: none. -/
import Derived.Test.YtdpbokpmionoeaaM1
import Derived.Test.YtdpbokpmionoeaaK1
import Derived.Test.YtdpbokpmionoeaaRows
import Derived.ProofKit
set_option linter.unusedVariables false
namespace Go.Proofs.Ytdpbokpmionoeaa.fnExactCommandText
open Go Go.Vm
theorem own : ownKnob Try.prog.godebug = none := by kernel_rfl
theorem laidOut : laidOutB Try.prog = true := by kernel_rfl
theorem wf_slice_3_int_i64 (x : List Int) (h : Wf (.slice 3 (.int .i64)) x) : W_IntS x := h.1
theorem wf_yEvent (x : TEvent) (h : Wf yEvent x) : W_Event x := ⟨wf_slice_3_int_i64 x.2.2.2.2.2.1 h.2.2.2.2.2.1, h.2.2.2.2.2.2.1, wf_slice_3_int_i64 x.2.2.2.2.2.2.2.1 h.2.2.2.2.2.2.2.1⟩
theorem wf_yCommand (x : TCommand) (h : Wf yCommand x) : W_Command x := wf_yEvent x.2.2.2.1 h.2.2.2.1
theorem holds (x : Args [yCommand]) (h : ArgsWf _ x) : Ev (fun k => l_FnExactCommandText k x.1) true := FnExactCommandText_ev x.1 (wf_yCommand x.1 h.1) (same_CommandText x.1)
set_option maxRecDepth 100000 in
theorem lifted (os : Os) (started : os.Started) (H : Type) (enc : TypeId × Value → H) :
    ReturnsInHanded {} Try.checked os 13 .any (Rows.fnExactCommandTextSpec.pre6 enc Try.prog Try.f13 Rows.fnExactCommandTextRow.domain false) (Rows.fnExactCommandTextSpec.post enc Try.prog Try.f13 false true false false) := by
  refine returnsInHanded_of_change (C := Try.checked) own started (by kernel_rfl) Try.func13
    (ChangeSpec.witness6 (enc := enc) (C := Try.checked) false ⟨#[], #[.agg #[.int .i64 0, .int .i64 0, .int .i64 0, .int .i64 0, .int .i64 0, .int .i64 0, .int .i64 0, .int .i64 0, .slice none 0 0, .string ⟨#[]⟩, .slice none 0 0, .int .i64 0, .int .i64 0, .int .i64 0]], []⟩ 8 (by kernel_rfl) (by kernel_rfl) (by kernel_rfl) (by kernel_rfl)) ?_
  intro W base args ds gs before hval hW hcnd _
  exact law_contract (fn := Try.f13) [yCommand] (show TysOk Try.prog _ [55] from ⟨ty_55, rfl, trivial⟩) laidOut (by kernel_rfl) rfl rfl (by kernel_rfl) (fun ds h => by match ds, h with | [d0], _ => rfl)
    (fun k x => l_FnExactCommandText k x.1) (fun k => (s_l_FnExactCommandText k).1) (fun x h => (holds x h).exists) args ds gs before hval hW
theorem proved : Rows.FnExactCommandTextSaid :=
  OpenClaim.holds_of_wide 13 Try.f13 rfl rfl rfl rfl rfl rfl rfl ⟨rfl, rfl, rfl, rfl, rfl⟩ rfl rfl rfl rfl rfl (by kernel_rfl) Try.func13 (by kernel_rfl)
    (of_decide_eq_true (by kernel_rfl)) (by unfold Func.isWrapper; first | (rw [if_pos (by decide +kernel)]; kernel_rfl) | (rw [if_neg (by decide +kernel)]; exact ⟨rfl, rfl⟩))
    (fun os started H enc _ => lifted os started H enc)
#print axioms proved
end Go.Proofs.Ytdpbokpmionoeaa.fnExactCommandText
