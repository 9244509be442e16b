/- FnExactHallText: whatever the input, the law's function returns true and leaves its input as it was. Conditions: none. -/
import Derived.Test.YtgobdchlaclhiaaGreatMA2
import Derived.Test.YtgobdchlaclhiaaGreatK2
import Derived.Test.YtgobdchlaclhiaaGreatRows
import Derived.ProofKit
set_option linter.unusedVariables false
namespace Go.Proofs.YtgobdchlaclhiaaGreat.fnExactHallText
open Go Go.Vm
theorem own : ownKnob Tryz.prog.godebug = none := by kernel_rfl
theorem laidOut : laidOutB Tryz.prog = true := by kernel_rfl
theorem wf_ySession (x : TSession) (h : Wf ySession x) : W_Session x := h.2.2.1
theorem wf_slice_70_ySession (x : List TSession) (h : Wf (.slice 70 ySession) x) : W_SessionS x := ⟨h.1, fun y hy => wf_ySession y (h.2 y hy)⟩
theorem wf_slice_3_int_i64 (x : List Int) (h : Wf (.slice 3 (.int .i64)) x) : W_IntS x := h.1
theorem wf_yEvent (x : TEvent) (h : Wf yEvent x) : W_Event x := ⟨wf_slice_3_int_i64 x.2.2.2.2.2.1 h.2.2.2.2.2.1, h.2.2.2.2.2.2.1, wf_slice_3_int_i64 x.2.2.2.2.2.2.2.1 h.2.2.2.2.2.2.2.1⟩
theorem wf_slice_93_yEvent (x : List TEvent) (h : Wf (.slice 93 yEvent) x) : W_EventS x := ⟨h.1, fun y hy => wf_yEvent y (h.2 y hy)⟩
theorem wf_slice_119_yItem (x : List TItem) (h : Wf (.slice 119 yItem) x) : W_ItemS x := h.1
theorem wf_slice_95_slice_119_yItem (x : List (List TItem)) (h : Wf (.slice 95 (.slice 119 yItem)) x) : W_ItemSS x := ⟨h.1, fun y hy => wf_slice_119_yItem y (h.2 y hy)⟩
theorem wf_slice_4_bool (x : List Bool) (h : Wf (.slice 4 .bool) x) : W_BoolS x := h.1
theorem wf_yRoom (x : TRoom) (h : Wf yRoom x) : W_Room x := ⟨wf_slice_93_yEvent x.1 h.1, wf_slice_95_slice_119_yItem x.2.1 h.2.1, wf_slice_4_bool x.2.2.1 h.2.2.1⟩
theorem wf_yOut (x : TOut) (h : Wf yOut x) : W_Out x := wf_slice_3_int_i64 x.2.2.1 h.2.2.1
theorem wf_slice_75_yOut (x : List TOut) (h : Wf (.slice 75 yOut) x) : W_OutS x := ⟨h.1, fun y hy => wf_yOut y (h.2 y hy)⟩
theorem wf_yHall (x : THall) (h : Wf yHall x) : W_Hall x := ⟨wf_slice_70_ySession x.1 h.1, wf_yRoom x.2.1 h.2.1, wf_slice_75_yOut x.2.2.1 h.2.2.1⟩
theorem holds (x : Args [yHall]) (h : ArgsWf _ x) : Ev (fun k => l_FnExactHallText k x.1) true := FnExactHallText_ev x.1 (wf_yHall x.1 h.1) (same_HallText x.1)
set_option maxRecDepth 100000 in
theorem lifted (os : Os) (started : os.Started) (H : Type) (enc : TypeId × Value → H) :
    ReturnsInHanded {} Tryz.checked os 3 .any (Rows.fnExactHallTextSpec.pre6 enc Tryz.prog Tryz.f3 Rows.fnExactHallTextRow.domain false) (Rows.fnExactHallTextSpec.post enc Tryz.prog Tryz.f3 false true false false) := by
  refine returnsInHanded_of_change (C := Tryz.checked) own started (by kernel_rfl) Tryz.func3
    (ChangeSpec.witness6 (enc := enc) (C := Tryz.checked) false ⟨#[], #[.agg #[.slice none 0 0, .slice none 0 0, .slice none 0 0, .slice none 0 0, .slice none 0 0]], []⟩ 8 (by kernel_rfl) (by kernel_rfl) (by kernel_rfl) (by kernel_rfl)) ?_
  intro W base args ds gs before hval hW hcnd _
  exact law_contract (fn := Tryz.f3) [yHall] (show TysOk Tryz.prog _ [30] from ⟨ty_30, rfl, trivial⟩) laidOut (by kernel_rfl) rfl rfl (by kernel_rfl) (fun ds h => by match ds, h with | [d0], _ => rfl)
    (fun k x => l_FnExactHallText k x.1) (fun k => (s_l_FnExactHallText k).1) (fun x h => (holds x h).exists) args ds gs before hval hW
theorem both {a b : Bool} (h : a = true) (k : b = true) : (a && b) = true := by rw [h, k]; rfl
set_option maxHeartbeats 4000000 in
theorem closed : joinedFacts Tryz.prog 3 Tryz.f3 Rows.fnExactHallTextSpec Rows.fnExactHallTextRow = true := by
  unfold joinedFacts
  repeat' with_reducible apply both
  all_goals (as_aux_lemma => kernel_rfl)
theorem proved : Rows.FnExactHallTextSaid :=
  OpenClaim.holds_of_wide 3 Tryz.f3 rfl rfl rfl rfl rfl rfl rfl ⟨rfl, rfl, rfl, rfl, rfl⟩ rfl rfl rfl rfl rfl (by kernel_rfl) Tryz.func3 closed
    (of_decide_eq_true (by kernel_rfl)) (by unfold Func.isWrapper; first | (rw [if_pos (by decide +kernel)]; kernel_rfl) | (rw [if_neg (by decide +kernel)]; exact ⟨rfl, rfl⟩))
    (fun os started H enc _ => lifted os started H enc)
#print axioms proved
end Go.Proofs.YtgobdchlaclhiaaGreat.fnExactHallText
