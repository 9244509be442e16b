/- FnExactDraft: whatever the input, the law's function returns true and leaves its input as it was. Conditions: none. -/
import Derived.Test.YtgkcajcpnlkdfaaNB2
import Derived.Test.YtgkcajcpnlkdfaaK2
import Derived.Test.YtgkcajcpnlkdfaaRows
import Derived.ProofKit
set_option linter.unusedVariables false
namespace Go.Proofs.Ytgkcajcpnlkdfaa.fnExactDraft
open Go Go.Vm
theorem own : ownKnob Try.prog.godebug = none := by kernel_rfl
theorem laidOut : laidOutB Try.prog = true := by kernel_rfl
theorem wf_slice_3_int_i64 (x : List Int) (h : Wf (.slice 3 (.int .i64)) x) : W_IntS x := h.1
theorem wf_yEvent (x : TEvent) (h : Wf yEvent x) : W_Event x := ⟨wf_slice_3_int_i64 x.2.2.2.2.2.1 h.2.2.2.2.2.1, h.2.2.2.2.2.2.1, wf_slice_3_int_i64 x.2.2.2.2.2.2.2.1 h.2.2.2.2.2.2.2.1⟩
theorem wf_slice_65_yEvent (x : List TEvent) (h : Wf (.slice 65 yEvent) x) : W_EventS x := ⟨h.1, fun y hy => wf_yEvent y (h.2 y hy)⟩
theorem wf_slice_96_yItem (x : List TItem) (h : Wf (.slice 96 yItem) x) : W_ItemS x := h.1
theorem wf_slice_64_slice_96_yItem (x : List (List TItem)) (h : Wf (.slice 64 (.slice 96 yItem)) x) : W_ItemSS x := ⟨h.1, fun y hy => wf_slice_96_yItem y (h.2 y hy)⟩
theorem wf_slice_4_bool (x : List Bool) (h : Wf (.slice 4 .bool) x) : W_BoolS x := h.1
theorem wf_yRoom (x : TRoom) (h : Wf yRoom x) : W_Room x := ⟨wf_slice_65_yEvent x.1 h.1, wf_slice_64_slice_96_yItem x.2.1 h.2.1, wf_slice_4_bool x.2.2.1 h.2.2.1⟩
theorem holds (x : Args [yRoom, (.int .i64), yEvent]) (h : ArgsWf _ x) : Ev (fun k => l_FnExactDraft k x.1 x.2.1 x.2.2.1) true := FnExactDraft_ev x.1 x.2.1 x.2.2.1 (wf_yRoom x.1 h.1) (wf_yEvent x.2.2.1 h.2.2.1) (same_Draft x.1 x.2.1 x.2.2.1)
set_option maxRecDepth 100000 in
theorem lifted (os : Os) (started : os.Started) (H : Type) (enc : TypeId × Value → H) :
    ReturnsInHanded {} Try.checked os 9 .any (Rows.fnExactDraftSpec.pre6 enc Try.prog Try.f9 Rows.fnExactDraftRow.domain false) (Rows.fnExactDraftSpec.post enc Try.prog Try.f9 false true false false) := by
  refine returnsInHanded_of_change (C := Try.checked) own started (by kernel_rfl) Try.func9
    (ChangeSpec.witness6 (enc := enc) (C := Try.checked) false ⟨#[], #[.agg #[.slice none 0 0, .slice none 0 0, .slice none 0 0], .int .i64 0, .agg #[.int .i64 0, .int .i64 0, .int .i64 0, .int .i64 0, .int .i64 0, .slice none 0 0, .string ⟨#[]⟩, .slice none 0 0, .int .i64 0]], []⟩ 8 (by kernel_rfl) (by kernel_rfl) (by kernel_rfl) (by kernel_rfl)) ?_
  intro W base args ds gs before hval hW hcnd _
  exact law_contract (fn := Try.f9) [yRoom, (.int .i64), yEvent] (show TysOk Try.prog _ [39, 3, 65] from ⟨ty_39, rfl, ty_3, rfl, ty_65, rfl, trivial⟩) laidOut (by kernel_rfl) rfl rfl (by kernel_rfl) (fun ds h => by match ds, h with | [d0, d1, d2], _ => rfl)
    (fun k x => l_FnExactDraft k x.1 x.2.1 x.2.2.1) (fun k => (s_l_FnExactDraft k).1) (fun x h => (holds x h).exists) args ds gs before hval hW
theorem both {a b : Bool} (h : a = true) (k : b = true) : (a && b) = true := by rw [h, k]; rfl
set_option maxHeartbeats 4000000 in
theorem closed : joinedFacts Try.prog 9 Try.f9 Rows.fnExactDraftSpec Rows.fnExactDraftRow = true := by
  unfold joinedFacts
  repeat' with_reducible apply both
  all_goals (as_aux_lemma => kernel_rfl)
theorem proved : Rows.FnExactDraftSaid :=
  OpenClaim.holds_of_wide 9 Try.f9 rfl rfl rfl rfl rfl rfl rfl ⟨rfl, rfl, rfl, rfl, rfl⟩ rfl rfl rfl rfl rfl (by kernel_rfl) Try.func9 closed
    (of_decide_eq_true (by kernel_rfl)) (by unfold Func.isWrapper; first | (rw [if_pos (by decide +kernel)]; kernel_rfl) | (rw [if_neg (by decide +kernel)]; exact ⟨rfl, rfl⟩))
    (fun os started H enc _ => lifted os started H enc)
#print axioms proved
end Go.Proofs.Ytgkcajcpnlkdfaa.fnExactDraft
