/- The machine: a typed interpreter of the model's code, and its soundness (part 3). -/
import Derived.Test.YtgobdchlaclhiaaGreatWb
set_option linter.unusedVariables false
section
namespace Go.Vm
open Go
def ImmArgs (ok : Nat → Prop) (w : World) : (ts : List Ty) → Args ts → List Value → Prop
  | [], _, vs => vs = []
  | t :: ts, x, vs => ∃ v r, vs = v :: r ∧ ImmArg ok w t x.1 v ∧ ImmArgs ok w ts x.2 r
section
variable {H : Type} {enc : TypeId × Value → H} {P : Program} {W W' : World} {base : Nat}
theorem args_imm {sp : Nat → Bool} {held : Bool} : ∀ (ts : List Ty) {Ts : List TypeId} {vs : List Value} {ds : List (DataW H)} {ps : List MemPlace}, TysOk P ts Ts → DataW.TrodAll enc P W 0 sp held Ts vs ds ps →
    (∀ (j : Nat) T v, Ts[j]? = some T → vs[j]? = some v → Value.okWide P W .any base T v) →
    ∃ x : Args ts, ImmArgs (okAll W) W ts x vs ∧ ArgsWf ts x ∧ ArgsDR ts x ds
  | [], [], [], [], ps, _, h, _ => ⟨(), rfl, trivial, rfl⟩
  | t :: ts, T :: Ts, v :: vs, d :: ds, ps, hok, h, hw => by
    obtain ⟨p, q, ⟨n, h1⟩, h2, rfl⟩ := h
    obtain ⟨ho, hp, hoks⟩ := hok
    obtain ⟨x, hi, hwf, hd⟩ := (read_sound t hp).1 T n _ _ ho h1
    obtain ⟨xs, hx, hwfs, hds⟩ := args_imm ts hoks h2 (fun j T v h3 h4 => hw (j + 1) T v (by simpa using h3) (by simpa using h4))
    exact ⟨(x, xs), ⟨v, vs, rfl, arg_imm ho (hw 0 T v rfl rfl) hi, hx⟩, ⟨hwf, hwfs⟩, d, ds, rfl, hd, hds⟩
  | [], _ :: _, _, _, _, hok, _, _ => hok.elim
  | _ :: _, [], _, _, _, hok, _, _ => hok.elim
  | [], [], _ :: _, _, _, _, h, _ => by cases ‹List (DataW H)› <;> exact h.elim
  | [], [], [], _ :: _, _, _, h, _ => h.elim
  | _ :: _, _ :: _, [], _, _, _, h, _ => h.elim
  | _ :: _, _ :: _, _ :: _, [], _, _, h, _ => h.elim
theorem specOk_args {f : FuncId} {ok : Nat → Prop} {w : World} {α : Type} {out : α → List (Bool × List RC)} : ∀ (ts : List Ty) (G : Args ts → Option α) (pre : List Value), SpecOk P f ok w (mkSpec out ts G) pre →
    ∀ (x : Args ts) (vs : List Value), ImmArgs ok w ts x vs → ∀ a, G x = some a → Calls P f (pre ++ vs).toArray w fun e w' => ∃ V, e = .returned V ∧ Ret ok w w' (out a) V
  | [], G, pre, h, x, vs, hx, a, ha => by
    have : vs = [] := hx
    subst this
    rw [List.append_nil]
    exact h a ha
  | t :: ts, G, pre, h, x, vs, hx, a, ha => by
    obtain ⟨v, r, rfl, h1, h2⟩ := hx
    have := specOk_args ts _ (pre ++ [v]) (h x.1 v h1) x.2 r h2 a ha
    rwa [List.append_assoc] at this
theorem law_contract {f : FuncId} {fn : Func} {s : ChangeSpec} {fresh handsOn again : Bool} {T : TypeId} (ts : List Ty)
    (hts : TysOk P ts fn.params.toList) (hl : laidOutB P = true) (hp : fn.params.toList.all (fun t => P.readableRec t && decide (t < P.types.size)) = true) (hv : s.vars = []) (hr : fn.resultTypes = #[T]) (hT : P.underlying T = some .bool)
    (hsp : ∀ ds : List (DataW H), ds.length = ts.length → s.fn H ds = { results := [.lit (.bool true)], args := ds })
    (G : Nat → Args ts → Option Bool) (hs : ∀ k, SpecGood P f (mkSpec (outV [.bool] []) ts (G k))) (hG : ∀ x : Args ts, ArgsWf ts x → ∃ k, G k x = some true)
    (args : Array Value) (ds gs : List (DataW H)) (before : List MemPlace)
    (hval : ∀ (j : Nat) t v, fn.params[j]? = some t → args[j]? = some v → Value.okWide P W .any base t v)
    (hW : DataW.Whole enc P fn.params.toList s.vars false W args.toList ds gs before) :
    Calls P f args W fun e W' => ∃ v, e = .returned v ∧ s.post enc P fn false fresh handsOn again W args v W' := by
  have hW' := hW
  obtain ⟨p, q, hA, hV, rfl, hfz, hnd⟩ := hW
  obtain ⟨x, hx, hwf, hd⟩ := args_imm ts hts hA (fun j t v h1 h2 => hval j t v (by simpa using h1) (by simpa using h2))
  obtain ⟨k, hk⟩ := hG x hwf
  have hcalls := specOk_args ts (G k) [] (hs k (okAll W) W (fun b hb => hb)) x _ hx true hk
  rw [List.nil_append, Array.toArray_toList] at hcalls
  have hlen : ∀ (ts : List Ty) (x : Args ts) (ds : List (DataW H)), ArgsDR ts x ds → ds.length = ts.length := by
    intro ts
    induction ts with
    | nil => intro x ds h; have : ds = [] := h; subst this; rfl
    | cons t ts ih => intro x ds h; obtain ⟨d, ds', rfl, _, h2⟩ := h; simp [ih _ _ h2]
  have hg : gs = [] := by
    rw [hv] at hV
    cases gs with
    | nil => rfl
    | cons _ _ => exact hV.elim
  subst hg
  refine hcalls.mono fun e W' ⟨V, he, hret⟩ => ⟨V, he, ?_⟩
  obtain ⟨good, Vs, bs, _, hres, _, _, hV'⟩ := hret.res
  refine law_post hl (fun t ht => ?_) hv hr hT (by rw [List.append_nil]; exact hsp ds (hlen _ _ _ hd)) hW' hret.os hret.put hret.same ?_
  · have := List.all_eq_true.1 hp t ht
    simpa using this
  · have hres' : ResRel (fun b => okAll W b ∨ good b) W' [(false, [RC.c (.bool true)])] Vs bs := hres
    cases hres' with
    | cons h1 h2 h3 =>
      cases h3
      cases h1 with
      | cons h4 h5 =>
        cases h5
        obtain ⟨_, h6⟩ := h4
        have h7 : _ = Value.bool true := h6
        rcases h2 with ⟨h8, _⟩ | ⟨_, h8⟩
        · cases h8
        · simp only [List.cons.injEq, and_true] at h8
          rw [hV', ← h8, h7]; rfl
end
end Go.Vm
end
