/- FnJournalsCut: whatever the input, the law's function returns true and leaves its input as it was; what the row lists of the library is tied by the given card. Conditions: none. -/
import Derived.Test.YtcbpoomhabigeaaGreatDoorZc8
import Derived.Test.YtcbpoomhabigeaaGreatDoorTie
import Derived.Test.YtcbpoomhabigeaaGreatDoorCards
import Derived.SevenTiedAt
import Derived.ProofKit
set_option linter.unusedVariables false
namespace Go.Proofs.YtcbpoomhabigeaaGreatDoor.fnJournalsCut
open Go Go.Vm Go.Proofs.YtcbpoomhabigeaaGreatDoor
theorem holds (x : Args [(.slice 5 (.int .u8))]) (h : D76 _ x) : Ev (fun k => Y0 k x.1) true := Cs0 x.1
set_option maxRecDepth 100000 in
theorem lifted (os : Os) (started : os.Started) (H : Type) (enc : TypeId × Value → H) :
  ReturnsInHanded {} Tryz.checked os 4 .any (fun w args => (Rows.fnJournalsCutSpec.pre enc Tryz.prog Tryz.f4 Rows.fnJournalsCutRow.domain false w args ∧ laidMetH Tryz.prog D51 w) ∧ sizedMet enc Tryz.prog Tryz.f4 (OpenSpec.ofChange Rows.fnJournalsCutSpec) false w args)
   (Rows.fnJournalsCutSpec.post enc Tryz.prog Tryz.f4 false true false false) := by
 refine returnsInHanded_of_change_and (C := Tryz.checked) (X := fun w _ => laidMetH Tryz.prog D51 w) (fun _ _ _ hh h => h.of_heap hh) own started (by kernel_rfl) Tryz.func4
  (ChangeSpec.witness_at (enc := enc) (C := Tryz.checked) (os := os) (X := fun w _ => laidMetH Tryz.prog D51 w) false (D52 os) #[.slice none 0 0] 8 rfl (by kernel_rfl) (by kernel_rfl) (by kernel_rfl) (by kernel_rfl) (by kernel_rfl) (Dy0 os _)) ?_
 intro W base args ds gs before hval hW hcnd _ hL _
 exact D80 (fn := Tryz.f4) [(.slice 5 (.int .u8))] (show Ft6 Tryz.prog _ [22] from ⟨Ay5, rfl, trivial⟩) Gq1 (by kernel_rfl) rfl rfl (by kernel_rfl) (E95 hL) (fun ds h => by match ds, h with | [d0], _ => rfl)
  (fun k x => Y0 k x.1) (fun k => (Co9 k).1) (fun x h => (holds x h).exists) args ds gs before hval hW
set_option maxHeartbeats 4000000 in
theorem closed : joinedFacts Tryz.prog 4 Tryz.f4 Rows.fnJournalsCutSpec Rows.fnJournalsCutRow = true := by
 unfold joinedFacts
 repeat' with_reducible apply Gz2
 all_goals (as_aux_lemma => kernel_rfl)
theorem bare : Rows.FnJournalsCutSaid :=
 OpenClaim.holds_of_wide 4 Tryz.f4 rfl rfl rfl rfl rfl rfl rfl ⟨rfl, rfl, rfl, rfl, rfl⟩ rfl rfl rfl rfl rfl (by kernel_rfl) Tryz.func4 closed
  (of_decide_eq_true (by kernel_rfl)) (by unfold Func.isWrapper; first | (rw [if_pos (by decide +kernel)]; kernel_rfl) | (rw [if_neg (by decide +kernel)]; exact ⟨rfl, rfl⟩))
  (fun os started H enc _ => lifted os started H enc)
theorem proved : Rows.FnJournalsCutCardSaid :=
 Claim7.holds_tied_plain_at .later [] [.data, .data, .data, .sentinel, .sentinel] true (true, "6991477ce7e637184b5e0ec828d513e8d9ec367c5a33331842e19255d02aebc5") true
  bare (fun _ h => by cases h) (by kernel_rfl) (fun _ h => by cases h) fnJournalsCut_row_tie rfl ⟨rfl, rfl⟩ (by kernel_rfl) rfl
  (fun f fn hf hfn => by
   obtain rfl : f = 4 := Option.some.inj ((show Tryz.prog.funcNamed "loop.example/g00127/laws.FnJournalsCut" = some 4 by kernel_rfl).symm.trans hf) |>.symm
   obtain rfl : fn = Tryz.f4 := (Option.some.inj (Tryz.func4.symm.trans hfn)).symm
   exact ⟨by kernel_rfl, fun j t ht => by
    rw [show Tryz.f4.params = #[22] from rfl] at ht
    have h3 : t = 22 := by
     rcases j with _ | j
     ·simpa using ht.symm
     ·simp at ht
    subst h3
    exact (show Tryz.prog.wantsStandIn 22 = false by kernel_rfl)⟩)
  (by kernel_rfl)
#print axioms proved
end Go.Proofs.YtcbpoomhabigeaaGreatDoor.fnJournalsCut
