/- FnRooms: whatever the input, the law's function returns true and leaves its input as it was. Conditions: none. -/
import Derived.Test.YtbekdoadbkibdaaGreatJF4
import Derived.Test.YtbekdoadbkibdaaGreatK4
import Derived.Test.YtbekdoadbkibdaaGreatRows
import Derived.ProofKit
set_option linter.unusedVariables false
namespace Go.Proofs.YtbekdoadbkibdaaGreat.fnRooms
open Go Go.Vm
theorem own : ownKnob Tryz.prog.godebug = none := by kernel_rfl
theorem laidOut : laidOutB Tryz.prog = true := by kernel_rfl

theorem holds (x : Args [(.slice 5 (.int .u8))]) (h : ArgsWf _ x) : Ev (fun k => l_FnRooms k x.1) true := FnRooms_ev x.1
set_option maxRecDepth 100000 in
theorem lifted (os : Os) (started : os.Started) (H : Type) (enc : TypeId × Value → H) :
    ReturnsInHanded {} Tryz.checked os 4 .any (Rows.fnRoomsSpec.pre6 enc Tryz.prog Tryz.f4 Rows.fnRoomsRow.domain false) (Rows.fnRoomsSpec.post enc Tryz.prog Tryz.f4 false true false false) := by
  refine returnsInHanded_of_change (C := Tryz.checked) own started (by kernel_rfl) Tryz.func4
    (ChangeSpec.witness6 (enc := enc) (C := Tryz.checked) false ⟨#[], #[.slice none 0 0], []⟩ 8 (by kernel_rfl) (by kernel_rfl) (by kernel_rfl) (by kernel_rfl)) ?_
  intro W base args ds gs before hval hW hcnd _
  exact law_contract (fn := Tryz.f4) [(.slice 5 (.int .u8))] (show TysOk Tryz.prog _ [22] from ⟨ty_22, rfl, trivial⟩) laidOut (by kernel_rfl) rfl rfl (by kernel_rfl) (fun ds h => by match ds, h with | [d0], _ => rfl)
    (fun k x => l_FnRooms k x.1) (fun k => (s_l_FnRooms k).1) (fun x h => (holds x h).exists) args ds gs before hval hW
theorem both {a b : Bool} (h : a = true) (k : b = true) : (a && b) = true := by rw [h, k]; rfl
set_option maxHeartbeats 4000000 in
theorem closed : joinedFacts Tryz.prog 4 Tryz.f4 Rows.fnRoomsSpec Rows.fnRoomsRow = true := by
  unfold joinedFacts
  repeat' with_reducible apply both
  all_goals (as_aux_lemma => kernel_rfl)
theorem proved : Rows.FnRoomsSaid :=
  OpenClaim.holds_of_wide 4 Tryz.f4 rfl rfl rfl rfl rfl rfl rfl ⟨rfl, rfl, rfl, rfl, rfl⟩ rfl rfl rfl rfl rfl (by kernel_rfl) Tryz.func4 closed
    (of_decide_eq_true (by kernel_rfl)) (by unfold Func.isWrapper; first | (rw [if_pos (by decide +kernel)]; kernel_rfl) | (rw [if_neg (by decide +kernel)]; exact ⟨rfl, rfl⟩))
    (fun os started H enc _ => lifted os started H enc)
#print axioms proved
end Go.Proofs.YtbekdoadbkibdaaGreat.fnRooms
