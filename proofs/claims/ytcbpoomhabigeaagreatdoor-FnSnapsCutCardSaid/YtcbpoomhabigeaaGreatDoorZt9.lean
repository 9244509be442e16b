/- FnSnapsCut: whatever the input, the law's function returns true and leaves its input as it was; what the row lists of the library is tied by the given card. Conditions: none. -/
import Derived.Test.YtcbpoomhabigeaaGreatDoorZt8
import Derived.Test.YtcbpoomhabigeaaGreatDoorTie
import Derived.Test.YtcbpoomhabigeaaGreatDoorCards
import Derived.SevenTiedAt
import Derived.ProofKit
set_option linter.all false
namespace Go.Proofs.YtcbpoomhabigeaaGreatDoor.fnSnapsCut
open Go Go.Vm Go.Proofs.YtcbpoomhabigeaaGreatDoor
theorem holds (x : Args [(.slice 5 (.int .u8))]) (h : Dt8 _ x) : Ev (fun k => Af2 k x.1) true := Eb3 x.1
set_option maxRecDepth 100000 in
theorem lifted (os : Os) (started : os.Started) (H : Type) (enc : TypeId × Value → H) :
  ReturnsInHanded {} Tryz.checked os 6 .any (fun w args => (Rows.fnSnapsCutSpec.pre enc Tryz.prog Tryz.f6 Rows.fnSnapsCutRow.domain false w args ∧ laidMetH Tryz.prog Eq1 w) ∧ sizedMet enc Tryz.prog Tryz.f6 (OpenSpec.ofChange Rows.fnSnapsCutSpec) false w args)
   (Rows.fnSnapsCutSpec.post enc Tryz.prog Tryz.f6 false true false false) := by
 refine returnsInHanded_of_change_and (C := Tryz.checked) (X := fun w _ => laidMetH Tryz.prog Eq1 w) (fun _ _ _ hh h => h.of_heap hh) own started (by kernel_rfl) Tryz.func6
  (ChangeSpec.witness_at (enc := enc) (C := Tryz.checked) (os := os) (X := fun w _ => laidMetH Tryz.prog Eq1 w) false (Eq2 os) #[.slice none 0 0] 8 rfl (by kernel_rfl) (by kernel_rfl) (by kernel_rfl) (by kernel_rfl) (by kernel_rfl) (Ej1 os _)) ?_
 intro W base args ds gs before hval hW hcnd _ hL _
 exact Es8 (fn := Tryz.f6) [(.slice 5 (.int .u8))] (show Fg5 Tryz.prog _ [22] from ⟨Bj2, rfl, trivial⟩) Hr7 (by kernel_rfl) rfl rfl (by kernel_rfl) (F45 hL) (fun ds h => by match ds, h with | [d0], _ => rfl)
  (fun k x => Af2 k x.1) (fun k => (D87 k).1) (fun x h => (holds x h).exists) args ds gs before hval hW
set_option maxHeartbeats 4000000 in
theorem closed : joinedFacts Tryz.prog 6 Tryz.f6 Rows.fnSnapsCutSpec Rows.fnSnapsCutRow = true := by
 unfold joinedFacts
 repeat' with_reducible apply H18
 all_goals (as_aux_lemma => kernel_rfl)
theorem bare : Rows.FnSnapsCutSaid :=
 OpenClaim.holds_of_wide 6 Tryz.f6 rfl rfl rfl rfl rfl rfl rfl ⟨rfl, rfl, rfl, rfl, rfl⟩ rfl rfl rfl rfl rfl (by kernel_rfl) Tryz.func6 closed
  (of_decide_eq_true (by kernel_rfl)) (by unfold Func.isWrapper; first | (rw [if_pos (by decide +kernel)]; kernel_rfl) | (rw [if_neg (by decide +kernel)]; exact ⟨rfl, rfl⟩))
  (fun os started H enc _ => lifted os started H enc)
theorem proved : Rows.FnSnapsCutCardSaid :=
 Claim7.holds_tied_plain_at .later [] [.data, .data, .data, .sentinel, .sentinel] true (true, "6991477ce7e637184b5e0ec828d513e8d9ec367c5a33331842e19255d02aebc5") true
  bare (fun _ h => by cases h) (by kernel_rfl) (fun _ h => by cases h) fnSnapsCut_row_tie rfl ⟨rfl, rfl⟩ (by kernel_rfl) rfl
  (fun f fn hf hfn => by
   obtain rfl : f = 6 := Option.some.inj ((show Tryz.prog.funcNamed "loop.example/g00127/laws.FnSnapsCut" = some 6 by kernel_rfl).symm.trans hf) |>.symm
   obtain rfl : fn = Tryz.f6 := (Option.some.inj (Tryz.func6.symm.trans hfn)).symm
   exact ⟨by kernel_rfl, fun j t ht => by
    rw [show Tryz.f6.params = #[22] from rfl] at ht
    have h3 : t = 22 := by
     rcases j with _ | j
     ·simpa using ht.symm
     ·simp at ht
    subst h3
    exact (show Tryz.prog.wantsStandIn 22 = false by kernel_rfl)⟩)
  (by kernel_rfl)
#print axioms proved
end Go.Proofs.YtcbpoomhabigeaaGreatDoor.fnSnapsCut
