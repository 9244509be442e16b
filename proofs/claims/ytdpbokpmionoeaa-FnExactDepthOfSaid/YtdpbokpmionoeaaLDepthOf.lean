/- FnExactDepthOf: whatever the input, the law's function returns true and leaves its input as it was. Conditions: none. -/
import Derived.Test.YtdpbokpmionoeaaM1
import Derived.Test.YtdpbokpmionoeaaK1
import Derived.Test.YtdpbokpmionoeaaRows
import Derived.ProofKit
set_option linter.unusedVariables false
namespace Go.Proofs.Ytdpbokpmionoeaa.fnExactDepthOf
open Go Go.Vm
theorem own : ownKnob Try.prog.godebug = none := by kernel_rfl
theorem laidOut : laidOutB Try.prog = true := by kernel_rfl
theorem wf_slice_3_int_i64 (x : List Int) (h : Wf (.slice 3 (.int .i64)) x) : W_IntS x := h.1
theorem wf_yEvent (x : TEvent) (h : Wf yEvent x) : W_Event x := ⟨wf_slice_3_int_i64 x.2.2.2.2.2.1 h.2.2.2.2.2.1, h.2.2.2.2.2.2.1, wf_slice_3_int_i64 x.2.2.2.2.2.2.2.1 h.2.2.2.2.2.2.2.1⟩
theorem wf_slice_33_yEvent (x : List TEvent) (h : Wf (.slice 33 yEvent) x) : W_EventS x := ⟨h.1, fun y hy => wf_yEvent y (h.2 y hy)⟩
theorem wf_slice_97_yItem (x : List TItem) (h : Wf (.slice 97 yItem) x) : W_ItemS x := h.1
theorem wf_slice_22_slice_97_yItem (x : List (List TItem)) (h : Wf (.slice 22 (.slice 97 yItem)) x) : W_ItemSS x := ⟨h.1, fun y hy => wf_slice_97_yItem y (h.2 y hy)⟩
theorem wf_slice_4_bool (x : List Bool) (h : Wf (.slice 4 .bool) x) : W_BoolS x := h.1
theorem wf_yRoom (x : TRoom) (h : Wf yRoom x) : W_Room x := ⟨wf_slice_33_yEvent x.1 h.1, wf_slice_22_slice_97_yItem x.2.1 h.2.1, wf_slice_4_bool x.2.2.1 h.2.2.1⟩
theorem holds (x : Args [yRoom, (.slice 3 (.int .i64))]) (h : ArgsWf _ x) : Ev (fun k => l_FnExactDepthOf k x.1 x.2.1) true := FnExactDepthOf_ev x.1 x.2.1 (wf_yRoom x.1 h.1) (same_DepthOf x.1 x.2.1)
set_option maxRecDepth 100000 in
theorem lifted (os : Os) (started : os.Started) (H : Type) (enc : TypeId × Value → H) :
    ReturnsInHanded {} Try.checked os 10 .any (Rows.fnExactDepthOfSpec.pre6 enc Try.prog Try.f10 Rows.fnExactDepthOfRow.domain false) (Rows.fnExactDepthOfSpec.post enc Try.prog Try.f10 false true false false) := by
  refine returnsInHanded_of_change (C := Try.checked) own started (by kernel_rfl) Try.func10
    (ChangeSpec.witness6 (enc := enc) (C := Try.checked) false ⟨#[], #[.agg #[.slice none 0 0, .slice none 0 0, .slice none 0 0], .slice none 0 0], []⟩ 8 (by kernel_rfl) (by kernel_rfl) (by kernel_rfl) (by kernel_rfl)) ?_
  intro W base args ds gs before hval hW hcnd _
  exact law_contract (fn := Try.f10) [yRoom, (.slice 3 (.int .i64))] (show TysOk Try.prog _ [66, 31] from ⟨ty_66, rfl, ty_31, rfl, trivial⟩) laidOut (by kernel_rfl) rfl rfl (by kernel_rfl) (fun ds h => by match ds, h with | [d0, d1], _ => rfl)
    (fun k x => l_FnExactDepthOf k x.1 x.2.1) (fun k => (s_l_FnExactDepthOf k).1) (fun x h => (holds x h).exists) args ds gs before hval hW
theorem proved : Rows.FnExactDepthOfSaid :=
  OpenClaim.holds_of_wide 10 Try.f10 rfl rfl rfl rfl rfl rfl rfl ⟨rfl, rfl, rfl, rfl, rfl⟩ rfl rfl rfl rfl rfl (by kernel_rfl) Try.func10 (by kernel_rfl)
    (of_decide_eq_true (by kernel_rfl)) (by unfold Func.isWrapper; first | (rw [if_pos (by decide +kernel)]; kernel_rfl) | (rw [if_neg (by decide +kernel)]; exact ⟨rfl, rfl⟩))
    (fun os started H enc _ => lifted os started H enc)
#print axioms proved
end Go.Proofs.Ytdpbokpmionoeaa.fnExactDepthOf
