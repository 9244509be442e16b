/- FnExactAt: whatever the input, the law's function returns true and leaves its input as it was. Conditions: none. -/
import Derived.Test.YtdpbokpmionoeaaM1
import Derived.Test.YtdpbokpmionoeaaK1
import Derived.Test.YtdpbokpmionoeaaRows
import Derived.ProofKit
set_option linter.unusedVariables false
namespace Go.Proofs.Ytdpbokpmionoeaa.fnExactAt
open Go Go.Vm
theorem own : ownKnob Try.prog.godebug = none := by kernel_rfl
theorem laidOut : laidOutB Try.prog = true := by kernel_rfl
theorem wf_slice_97_yItem (x : List TItem) (h : Wf (.slice 97 yItem) x) : W_ItemS x := h.1
theorem holds (x : Args [(.slice 97 yItem), (.int .i64)]) (h : ArgsWf _ x) : Ev (fun k => l_FnExactAt k x.1 x.2.1) true := FnExactAt_ev x.1 x.2.1 (wf_slice_97_yItem x.1 h.1) (same_At x.1 x.2.1)
set_option maxRecDepth 100000 in
theorem lifted (os : Os) (started : os.Started) (H : Type) (enc : TypeId × Value → H) :
    ReturnsInHanded {} Try.checked os 3 .any (Rows.fnExactAtSpec.pre6 enc Try.prog Try.f3 Rows.fnExactAtRow.domain false) (Rows.fnExactAtSpec.post enc Try.prog Try.f3 false true false false) := by
  refine returnsInHanded_of_change (C := Try.checked) own started (by kernel_rfl) Try.func3
    (ChangeSpec.witness6 (enc := enc) (C := Try.checked) false ⟨#[], #[.slice none 0 0, .int .i64 0], []⟩ 8 (by kernel_rfl) (by kernel_rfl) (by kernel_rfl) (by kernel_rfl)) ?_
  intro W base args ds gs before hval hW hcnd _
  exact law_contract (fn := Try.f3) [(.slice 97 yItem), (.int .i64)] (show TysOk Try.prog _ [22, 3] from ⟨ty_22, rfl, ty_3, rfl, trivial⟩) laidOut (by kernel_rfl) rfl rfl (by kernel_rfl) (fun ds h => by match ds, h with | [d0, d1], _ => rfl)
    (fun k x => l_FnExactAt k x.1 x.2.1) (fun k => (s_l_FnExactAt k).1) (fun x h => (holds x h).exists) args ds gs before hval hW
theorem proved : Rows.FnExactAtSaid :=
  OpenClaim.holds_of_wide 3 Try.f3 rfl rfl rfl rfl rfl rfl rfl ⟨rfl, rfl, rfl, rfl, rfl⟩ rfl rfl rfl rfl rfl (by kernel_rfl) Try.func3 (by kernel_rfl)
    (of_decide_eq_true (by kernel_rfl)) (by unfold Func.isWrapper; first | (rw [if_pos (by decide +kernel)]; kernel_rfl) | (rw [if_neg (by decide +kernel)]; exact ⟨rfl, rfl⟩))
    (fun os started H enc _ => lifted os started H enc)
#print axioms proved
end Go.Proofs.Ytdpbokpmionoeaa.fnExactAt
