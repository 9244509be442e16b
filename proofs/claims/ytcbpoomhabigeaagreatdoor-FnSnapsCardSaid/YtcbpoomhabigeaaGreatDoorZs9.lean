/- FnSnaps: whatever the input, the law's function returns true and leaves its input as it was; what the row lists of the library is tied by the given card. Conditions: none. -/
import Derived.Test.YtcbpoomhabigeaaGreatDoorZs8
import Derived.Test.YtcbpoomhabigeaaGreatDoorTie
import Derived.Test.YtcbpoomhabigeaaGreatDoorCards
import Derived.SevenTiedAt
import Derived.ProofKit
set_option linter.all false
namespace Go.Proofs.YtcbpoomhabigeaaGreatDoor.fnSnaps
open Go Go.Vm Go.Proofs.YtcbpoomhabigeaaGreatDoor
theorem holds (x : Args [(.slice 5 (.int .u8))]) (h : Dj1 _ x) : Ev (fun k => A79 k x.1) true := Fu1 x.1
set_option maxRecDepth 100000 in
theorem lifted (os : Os) (started : os.Started) (H : Type) (enc : TypeId × Value → H) :
  ReturnsInHanded {} Tryz.checked os 5 .any (fun w args => (Rows.fnSnapsSpec.pre enc Tryz.prog Tryz.f5 Rows.fnSnapsRow.domain false w args ∧ laidMetH Tryz.prog Ec2 w) ∧ sizedMet enc Tryz.prog Tryz.f5 (OpenSpec.ofChange Rows.fnSnapsSpec) false w args)
   (Rows.fnSnapsSpec.post enc Tryz.prog Tryz.f5 false true false false) := by
 refine returnsInHanded_of_change_and (C := Tryz.checked) (X := fun w _ => laidMetH Tryz.prog Ec2 w) (fun _ _ _ hh h => h.of_heap hh) own started (by kernel_rfl) Tryz.func5
  (ChangeSpec.witness_at (enc := enc) (C := Tryz.checked) (os := os) (X := fun w _ => laidMetH Tryz.prog Ec2 w) false (Ec3 os) #[.slice none 0 0] 8 rfl (by kernel_rfl) (by kernel_rfl) (by kernel_rfl) (by kernel_rfl) (by kernel_rfl) (D56 os _)) ?_
 intro W base args ds gs before hval hW hcnd _ hL _
 exact Ee9 (fn := Tryz.f5) [(.slice 5 (.int .u8))] (show E06 Tryz.prog _ [22] from ⟨Bh9, rfl, trivial⟩) G96 (by kernel_rfl) rfl rfl (by kernel_rfl) (Fo0 hL) (fun ds h => by match ds, h with | [d0], _ => rfl)
  (fun k x => A79 k x.1) (fun k => (Fn9 k).1) (fun x h => (holds x h).exists) args ds gs before hval hW
set_option maxHeartbeats 4000000 in
theorem closed : joinedFacts Tryz.prog 5 Tryz.f5 Rows.fnSnapsSpec Rows.fnSnapsRow = true := by
 unfold joinedFacts
 repeat' with_reducible apply Hj9
 all_goals (as_aux_lemma => kernel_rfl)
theorem bare : Rows.FnSnapsSaid :=
 OpenClaim.holds_of_wide 5 Tryz.f5 rfl rfl rfl rfl rfl rfl rfl ⟨rfl, rfl, rfl, rfl, rfl⟩ rfl rfl rfl rfl rfl (by kernel_rfl) Tryz.func5 closed
  (of_decide_eq_true (by kernel_rfl)) (by unfold Func.isWrapper; first | (rw [if_pos (by decide +kernel)]; kernel_rfl) | (rw [if_neg (by decide +kernel)]; exact ⟨rfl, rfl⟩))
  (fun os started H enc _ => lifted os started H enc)
theorem proved : Rows.FnSnapsCardSaid :=
 Claim7.holds_tied_plain_at .later [] [.data, .data, .data, .sentinel, .sentinel] true (true, "6991477ce7e637184b5e0ec828d513e8d9ec367c5a33331842e19255d02aebc5") true
  bare (fun _ h => by cases h) (by kernel_rfl) (fun _ h => by cases h) fnSnaps_row_tie rfl ⟨rfl, rfl⟩ (by kernel_rfl) rfl
  (fun f fn hf hfn => by
   obtain rfl : f = 5 := Option.some.inj ((show Tryz.prog.funcNamed "loop.example/g00127/laws.FnSnaps" = some 5 by kernel_rfl).symm.trans hf) |>.symm
   obtain rfl : fn = Tryz.f5 := (Option.some.inj (Tryz.func5.symm.trans hfn)).symm
   exact ⟨by kernel_rfl, fun j t ht => by
    rw [show Tryz.f5.params = #[22] from rfl] at ht
    have h3 : t = 22 := by
     rcases j with _ | j
     ·simpa using ht.symm
     ·simp at ht
    subst h3
    exact (show Tryz.prog.wantsStandIn 22 = false by kernel_rfl)⟩)
  (by kernel_rfl)
#print axioms proved
end Go.Proofs.YtcbpoomhabigeaaGreatDoor.fnSnaps
