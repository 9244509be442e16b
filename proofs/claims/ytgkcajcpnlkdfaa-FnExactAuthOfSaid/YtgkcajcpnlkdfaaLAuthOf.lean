/- FnExactAuthOf: whatever the input, the law's function returns true and leaves its input as it was. Conditions: none. -/
import Derived.Test.YtgkcajcpnlkdfaaNB2
import Derived.Test.YtgkcajcpnlkdfaaK2
import Derived.Test.YtgkcajcpnlkdfaaRows
import Derived.ProofKit
set_option linter.unusedVariables false
namespace Go.Proofs.Ytgkcajcpnlkdfaa.fnExactAuthOf
open Go Go.Vm
theorem own : ownKnob Try.prog.godebug = none := by kernel_rfl
theorem laidOut : laidOutB Try.prog = true := by kernel_rfl
theorem wf_slice_3_int_i64 (x : List Int) (h : Wf (.slice 3 (.int .i64)) x) : W_IntS x := h.1
theorem wf_yEvent (x : TEvent) (h : Wf yEvent x) : W_Event x := ⟨wf_slice_3_int_i64 x.2.2.2.2.2.1 h.2.2.2.2.2.1, h.2.2.2.2.2.2.1, wf_slice_3_int_i64 x.2.2.2.2.2.2.2.1 h.2.2.2.2.2.2.2.1⟩
theorem wf_slice_65_yEvent (x : List TEvent) (h : Wf (.slice 65 yEvent) x) : W_EventS x := ⟨h.1, fun y hy => wf_yEvent y (h.2 y hy)⟩
theorem wf_slice_96_yItem (x : List TItem) (h : Wf (.slice 96 yItem) x) : W_ItemS x := h.1
theorem holds (x : Args [(.slice 65 yEvent), (.slice 96 yItem), yEvent]) (h : ArgsWf _ x) : Ev (fun k => l_FnExactAuthOf k x.1 x.2.1 x.2.2.1) true := FnExactAuthOf_ev x.1 x.2.1 x.2.2.1 (wf_slice_65_yEvent x.1 h.1) (wf_slice_96_yItem x.2.1 h.2.1) (wf_yEvent x.2.2.1 h.2.2.1) (same_AuthOf x.1 x.2.1 x.2.2.1)
set_option maxRecDepth 100000 in
theorem lifted (os : Os) (started : os.Started) (H : Type) (enc : TypeId × Value → H) :
    ReturnsInHanded {} Try.checked os 7 .any (Rows.fnExactAuthOfSpec.pre6 enc Try.prog Try.f7 Rows.fnExactAuthOfRow.domain false) (Rows.fnExactAuthOfSpec.post enc Try.prog Try.f7 false true false false) := by
  refine returnsInHanded_of_change (C := Try.checked) own started (by kernel_rfl) Try.func7
    (ChangeSpec.witness6 (enc := enc) (C := Try.checked) false ⟨#[], #[.slice none 0 0, .slice none 0 0, .agg #[.int .i64 0, .int .i64 0, .int .i64 0, .int .i64 0, .int .i64 0, .slice none 0 0, .string ⟨#[]⟩, .slice none 0 0, .int .i64 0]], []⟩ 8 (by kernel_rfl) (by kernel_rfl) (by kernel_rfl) (by kernel_rfl)) ?_
  intro W base args ds gs before hval hW hcnd _
  exact law_contract (fn := Try.f7) [(.slice 65 yEvent), (.slice 96 yItem), yEvent] (show TysOk Try.prog _ [22, 64, 65] from ⟨ty_22, rfl, ty_64, rfl, ty_65, rfl, trivial⟩) laidOut (by kernel_rfl) rfl rfl (by kernel_rfl) (fun ds h => by match ds, h with | [d0, d1, d2], _ => rfl)
    (fun k x => l_FnExactAuthOf k x.1 x.2.1 x.2.2.1) (fun k => (s_l_FnExactAuthOf k).1) (fun x h => (holds x h).exists) args ds gs before hval hW
theorem both {a b : Bool} (h : a = true) (k : b = true) : (a && b) = true := by rw [h, k]; rfl
set_option maxHeartbeats 4000000 in
theorem closed : joinedFacts Try.prog 7 Try.f7 Rows.fnExactAuthOfSpec Rows.fnExactAuthOfRow = true := by
  unfold joinedFacts
  repeat' with_reducible apply both
  all_goals (as_aux_lemma => kernel_rfl)
theorem proved : Rows.FnExactAuthOfSaid :=
  OpenClaim.holds_of_wide 7 Try.f7 rfl rfl rfl rfl rfl rfl rfl ⟨rfl, rfl, rfl, rfl, rfl⟩ rfl rfl rfl rfl rfl (by kernel_rfl) Try.func7 closed
    (of_decide_eq_true (by kernel_rfl)) (by unfold Func.isWrapper; first | (rw [if_pos (by decide +kernel)]; kernel_rfl) | (rw [if_neg (by decide +kernel)]; exact ⟨rfl, rfl⟩))
    (fun os started H enc _ => lifted os started H enc)
#print axioms proved
end Go.Proofs.Ytgkcajcpnlkdfaa.fnExactAuthOf
