/- FnExactPerform: whatever the input, the law's function returns true and leaves its input as it was; what the row lists of the library is tied by the given card. Conditions: none. -/
import Derived.Test.YtmmgjbjmmipobaaGreatDoorZp7
import Derived.Test.YtmmgjbjmmipobaaGreatDoorRows
import Derived.Test.YtmmgjbjmmipobaaGreatDoorTie
import Derived.Test.YtmmgjbjmmipobaaGreatDoorCards
import Derived.Lib.LaidTab
import Derived.Stop.LaidErr
import Derived.LaidSub
import Derived.LaidHandle
import Derived.LaidLaws
import Derived.SevenTiedAt
import Derived.ProofKit
set_option linter.all false
namespace Go.Proofs.YtmmgjbjmmipobaaGreatDoor.fnExactPerform
open Go Go.Vm Go.Proofs.YtmmgjbjmmipobaaGreatDoor
noncomputable def laidL : List (String × DataW Unit) := [("math/bits.deBruijn32tab", Rows.laid_math_bits_deBruijn32tab), ("math/bits.deBruijn64tab", Rows.laid_math_bits_deBruijn64tab), ("internal/strconv.uint64pow10", Rows.laid_internal_strconv_uint64pow10)]
def putC (cs:Array Value):Go.Obj→Go.Obj
 | .cells _ t frozen=> .cells cs t frozen
 |o=>o
noncomputable def laidWorld (os:Os):World:=
 let w0:=World.holding Tryz.prog os ⟨#[],#[],[]⟩
 {w0 with heap:=(((w0.heap.modify 1 (putC #[.int .u8 0, .int .u8 1, .int .u8 28, .int .u8 2, .int .u8 29, .int .u8 14, .int .u8 24, .int .u8 3, .int .u8 30, .int .u8 22, .int .u8 20, .int .u8 15, .int .u8 25, .int .u8 17, .int .u8 4, .int .u8 8, .int .u8 31, .int .u8 27, .int .u8 13, .int .u8 23, .int .u8 21, .int .u8 19, .int .u8 16, .int .u8 7, .int .u8 26, .int .u8 12, .int .u8 18, .int .u8 6, .int .u8 11, .int .u8 5, .int .u8 10, .int .u8 9])).modify 2 (putC #[.int .u8 0, .int .u8 1, .int .u8 56, .int .u8 2, .int .u8 57, .int .u8 49, .int .u8 28, .int .u8 3, .int .u8 61, .int .u8 58, .int .u8 42, .int .u8 50, .int .u8 38, .int .u8 29, .int .u8 17, .int .u8 4, .int .u8 62, .int .u8 47, .int .u8 59, .int .u8 36, .int .u8 45, .int .u8 43, .int .u8 51, .int .u8 22, .int .u8 53, .int .u8 39, .int .u8 33, .int .u8 30, .int .u8 24, .int .u8 18, .int .u8 12, .int .u8 5, .int .u8 63, .int .u8 55, .int .u8 48, .int .u8 27, .int .u8 60, .int .u8 41, .int .u8 37, .int .u8 16, .int .u8 46, .int .u8 35, .int .u8 44, .int .u8 21, .int .u8 52, .int .u8 32, .int .u8 23, .int .u8 11, .int .u8 54, .int .u8 26, .int .u8 40, .int .u8 15, .int .u8 34, .int .u8 20, .int .u8 31, .int .u8 10, .int .u8 25, .int .u8 14, .int .u8 19, .int .u8 9, .int .u8 13, .int .u8 8, .int .u8 7, .int .u8 6])).modify 0 (putC #[.int .u64 1, .int .u64 10, .int .u64 100, .int .u64 1000, .int .u64 10000, .int .u64 100000, .int .u64 1000000, .int .u64 10000000, .int .u64 100000000, .int .u64 1000000000, .int .u64 10000000000, .int .u64 100000000000, .int .u64 1000000000000, .int .u64 10000000000000, .int .u64 100000000000000, .int .u64 1000000000000000, .int .u64 10000000000000000, .int .u64 100000000000000000, .int .u64 1000000000000000000, .int .u64 10000000000000000000]))}
set_option maxRecDepth 100000 in
theorem laidWorld_met (os:Os) (args:Array Value):laidMetH Tryz.prog laidL ((laidWorld os).forCall (λ_ _=>0) ⟨#[],args,[]⟩).memory:=
 laidMetH_of_parts (laidMet_of_run' 70 (by kernel_rfl) (by kernel_rfl)) (by kernel_rfl)
theorem g10 : Tryz.prog.globalNamed "internal/strconv.uint64pow10" = some 0 := by kernel_rfl
theorem d10:(Rows.laid_internal_strconv_uint64pow10:DataW Unit)=Lib.tabData .u64 Lib.pow10Tab:=rfl
theorem err_of_laid {W:World} (h:laidMetH Tryz.prog laidL W):D44 W:=by
 have h2:laidMet Tryz.prog laidL W:=(laidMetH_iff.1 h).1
 have h3 : laidMet Tryz.prog (("internal/strconv.uint64pow10", Lib.tabData .u64 Lib.pow10Tab) :: []) W := by rw [← d10]; exact h2.tail.tail
 have h4:=Lib.tabIs_of_head (t:=178) (e:=161) (n:=20) g10 (by kernel_rfl) (by kernel_rfl) (by kernel_rfl) (by kernel_rfl) (by kernel_rfl) h3
 intro g hg
 have hg:g=0:=(Option.some.inj hg).symm
 subst hg
 unfold Lib.TabIs World.var? at h4
 rw[g10,Option.bind_some]at h4
 split at h4
 ·rename_i cs e fr hc
  have:=Option.some.inj h4
  subst this
  exact⟨e,fr,hc⟩
 ·cases h4
theorem own:ownKnob Tryz.prog.godebug=none:=by kernel_rfl
theorem laidOut:laidOutB Tryz.prog=true:=by kernel_rfl
theorem both {a b:Bool} (h:a=true) (k:b=true):(a&&b)=true:=by rw[h,k];rfl
theorem wf_ySession (x:A7) (h:Wf C9 x):Dj2 x:=h.2.2.1
theorem wf_slice_88_ySession (x:List A7) (h:Wf (.slice 88 C9) x):Cv9 x:=⟨h.1,λy hy=>wf_ySession y (h.2 y hy)⟩
theorem wf_slice_3_int_i64 (x:List Int) (h:Wf (.slice 3 (.int .i64)) x):Ea3 x:=h.1
theorem wf_yEvent (x:A0) (h:Wf B0 x):D21 x:=⟨wf_slice_3_int_i64 x.2.2.2.2.2.1 h.2.2.2.2.2.1,h.2.2.2.2.2.2.1,wf_slice_3_int_i64 x.2.2.2.2.2.2.2.1 h.2.2.2.2.2.2.2.1⟩
theorem wf_slice_33_yEvent (x:List A0) (h:Wf (.slice 33 B0) x):Ea5 x:=⟨h.1,λy hy=>wf_yEvent y (h.2 y hy)⟩
theorem wf_slice_147_yItem (x:List A1) (h:Wf (.slice 147 B6) x):E13 x:=h.1
theorem wf_slice_122_slice_147_yItem (x:List (List A1)) (h:Wf (.slice 122 (.slice 147 B6)) x):Ea6 x:=⟨h.1,λy hy=>wf_slice_147_yItem y (h.2 y hy)⟩
theorem wf_slice_4_bool (x:List Bool) (h:Wf (.slice 4 .bool) x):E14 x:=h.1
theorem wf_yRoom (x:A6) (h:Wf Fi8 x):Fs4 x:=⟨wf_slice_33_yEvent x.1 h.1,wf_slice_122_slice_147_yItem x.2.1 h.2.1,wf_slice_4_bool x.2.2.1 h.2.2.1⟩
theorem wf_yOut (x:C3) (h:Wf T0 x):Gh1 x:=wf_slice_3_int_i64 x.2.2.1 h.2.2.1
theorem wf_slice_94_yOut (x:List C3) (h:Wf (.slice 94 T0) x):Fs5 x:=⟨h.1,λy hy=>wf_yOut y (h.2 y hy)⟩
theorem wf_yHall (x:B4) (h:Wf Ds3 x):Fs6 x:=⟨wf_slice_88_ySession x.1 h.1,wf_yRoom x.2.1 h.2.1,wf_slice_94_yOut x.2.2.1 h.2.2.1⟩
theorem wf_yCommand (x:B7) (h:Wf G4 x):Dj4 x:=wf_yEvent x.2.2.2.1 h.2.2.2.1
theorem holds (x:Args [Ds3,(.int .i64),G4]) (h:Ey5 _ x):Ev (λk=>Y8 k x.1 x.2.1 x.2.2.1) true:=C60 x.1 x.2.1 x.2.2.1 (wf_yHall x.1 h.1) (wf_yCommand x.2.2.1 h.2.2.1) (E52 x.1 x.2.1 x.2.2.1)
set_option maxRecDepth 100000 in
theorem lifted (os:Os) (started:os.Started) (H:Type) (enc:TypeId×Value→H):
  ReturnsInHanded {} Tryz.checked os 3 .any (λw args=> (Rows.fnExactPerformSpec.pre enc Tryz.prog Tryz.f3 Rows.fnExactPerformRow.domain false w args∧laidMetH Tryz.prog laidL w)∧sizedMet enc Tryz.prog Tryz.f3 (OpenSpec.ofChange Rows.fnExactPerformSpec) false w args)
   (Rows.fnExactPerformSpec.post enc Tryz.prog Tryz.f3 false true false false):=by
 refine returnsInHanded_of_change_and (C:=Tryz.checked) (X:=λw _=>laidMetH Tryz.prog laidL w) (λ_ _ _ hh h=>h.of_heap hh) own started (by kernel_rfl) Tryz.func3
  (ChangeSpec.witness_at (enc:=enc) (C:=Tryz.checked) (os:=os) (X:=λw _=>laidMetH Tryz.prog laidL w) false (laidWorld os) #[.agg #[.slice none 0 0, .slice none 0 0, .slice none 0 0, .slice none 0 0, .slice none 0 0], .int .i64 0, .agg #[.int .i64 0, .int .i64 0, .int .i64 0, .int .i64 0, .int .i64 0, .int .i64 0, .int .i64 0, .int .i64 0, .slice none 0 0, .string ⟨#[]⟩, .slice none 0 0, .int .i64 0, .int .i64 0, .int .i64 0]] 8 rfl (by kernel_rfl) (by kernel_rfl) (by kernel_rfl) (by kernel_rfl) (by kernel_rfl) (laidWorld_met os _)) ?_
 intro W base args ds gs before hval hW hcnd _ hL _
 exact Ez0 (fn:=Tryz.f3) [Ds3,(.int .i64),G4] (show F10 Tryz.prog _ [30,3,35]from⟨Gw6,rfl,Gz4,rfl,Gw7,rfl,trivial⟩) laidOut (by kernel_rfl) rfl rfl (by kernel_rfl) (err_of_laid hL) (λds h=>by match ds,h with| [d0,d1,d2],_=>rfl)
  (λk x=>Y8 k x.1 x.2.1 x.2.2.1) (λk=> (Cz5 k).1) (λx h=> (holds x h).exists) args ds gs before hval hW
set_option maxHeartbeats 4000000 in
theorem closed:joinedFacts Tryz.prog 3 Tryz.f3 Rows.fnExactPerformSpec Rows.fnExactPerformRow=true:=by
 unfold joinedFacts
 repeat' with_reducible apply both
 all_goals(as_aux_lemma=>kernel_rfl)
theorem bare:Rows.FnExactPerformSaid:=
 OpenClaim.holds_of_wide 3 Tryz.f3 rfl rfl rfl rfl rfl rfl rfl ⟨rfl,rfl,rfl,rfl,rfl⟩ rfl rfl rfl rfl rfl (by kernel_rfl) Tryz.func3 closed
  (G62 (by kernel_rfl)) (by unfold Func.isWrapper;first|(rw[G45 (by decide+kernel)];kernel_rfl)|(rw[G41 (by decide+kernel)];exact⟨rfl,rfl⟩))
  (λos started H enc _=>lifted os started H enc)
theorem proved:Rows.FnExactPerformCardSaid:=
 Claim7.holds_tied_plain_at .later [] [.data, .data, .data] true (true, "dd5a696b4d431a060e32cb994e72ce8b69345dbcd982f7586d7d7fe61fd7dda9") false
  bare (λ_ h=>by cases h) (by kernel_rfl) (λ_ h=>by cases h) fnExactPerform_row_tie rfl ⟨rfl,rfl⟩ (by kernel_rfl) rfl
  (λf fn hf hfn=>by
   obtain rfl : f = 3 := Option.some.inj ((show Tryz.prog.funcNamed "loop.example/g00127/laws.FnExactPerform" = some 3 by kernel_rfl).symm.trans hf) |>.symm
   obtain rfl:fn=Tryz.f3:=(Option.some.inj (Tryz.func3.symm.trans hfn)).symm
   exact⟨by kernel_rfl,λj t ht=>by
    rw[show Tryz.f3.params= #[30,3,35]from rfl]at ht
    have h3:t=30∨t=3∨t=35:=by
     rcases j with _|_|_|j
     ·exact(.inl (by simpa using ht.symm))
     ·exact(.inr (.inl (by simpa using ht.symm)))
     ·exact(.inr (.inr (by simpa using ht.symm)))
     ·simp at ht
    rcases h3 with rfl|rfl|rfl
    ·exact(show Tryz.prog.wantsStandIn 30=false by kernel_rfl)
    ·exact(show Tryz.prog.wantsStandIn 3=false by kernel_rfl)
    ·exact(show Tryz.prog.wantsStandIn 35=false by kernel_rfl)⟩)
  (by kernel_rfl)
#print axioms proved
end Go.Proofs.YtmmgjbjmmipobaaGreatDoor.fnExactPerform
