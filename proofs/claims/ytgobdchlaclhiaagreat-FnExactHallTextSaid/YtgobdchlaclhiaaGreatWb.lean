/- The machine: a typed interpreter of the model's code, and its soundness (part 2). -/
import Derived.Test.YtgobdchlaclhiaaGreatWa
import Derived.Orders
import Derived.LoopN
import GoSem.ClaimChange
import Derived.ChangeArms
import Derived.WideKeyArgs
import Derived.ChangeOld
import Derived.ChangeFn
import Derived.RowKitTokens
import Derived.WideMake
set_option linter.unusedVariables false
section
namespace Go.Vm
open Go

def ImmArg (ok : Nat → Prop) (w : World) (t : Ty) (x : El t) (v : Value) : Prop :=
  ∃ cs, Imm ok w t x cs ∧ ((t.agg = true ∧ v = .agg cs.toArray) ∨ (t.agg = false ∧ cs = [v]))
def env0 (ok : Nat → Prop) : Env := ⟨fun _ => (0, 0), fun _ => False, ok⟩
def RcRel (ok : Nat → Prop) (w : World) : RC → Value → List Nat → Prop
  | .c c, v, bs => bs = [] ∧ CellRel (env0 ok) [] w c v
  | .own e t xs, v, bs => ∃ A c, v = .slice A xs.length c ∧ xs.length ≤ c ∧
      ((c = 0 ∧ bs = []) ∨ ∃ g off, A = some ⟨g, off, none⟩ ∧ bs = [g] ∧ RowAt ok w g off t xs ∧ NoFrz t w g ∧ Room w g (off + c * t.sz))
inductive RcsRel (ok : Nat → Prop) (w : World) : List RC → List Value → List Nat → Prop where
  | nil : RcsRel ok w [] [] []
  | cons {rc rs v vs bs bs'} : RcRel ok w rc v bs → RcsRel ok w rs vs bs' → RcsRel ok w (rc :: rs) (v :: vs) (bs ++ bs')
inductive ResRel (ok : Nat → Prop) (w : World) : List (Bool × List RC) → List Value → List Nat → Prop where
  | nil : ResRel ok w [] [] []
  | cons {a rs vs V bs r Vs bs'} : RcsRel ok w rs vs bs → ((a = true ∧ V = .agg vs.toArray) ∨ (a = false ∧ vs = [V])) → ResRel ok w r Vs bs' → ResRel ok w ((a, rs) :: r) (V :: Vs) (bs ++ bs')
def tupOf : List Value → Value
  | [V] => V
  | Vs => .tuple Vs.toArray
structure Ret (ok : Nat → Prop) (w w' : World) (out : List (Bool × List RC)) (V : Value) : Prop where
  os : w'.os = w.os
  tape : w'.tape = w.tape
  put : w'.output = w.output
  size : w.heap.size ≤ w'.heap.size
  same : ∀ b, b < w.heap.size → w'.heap[b]? = w.heap[b]?
  res : ∃ (good : Nat → Prop) (Vs : List Value) (bs : List Nat), (∀ b, good b → w.heap.size ≤ b ∧ b < w'.heap.size) ∧ ResRel (fun b => ok b ∨ good b) w' out Vs bs ∧ bs.Nodup ∧
    (∀ b ∈ bs, w.heap.size ≤ b ∧ b < w'.heap.size ∧ ¬ good b) ∧ V = tupOf Vs
def SpecOk (P : Program) (f : FuncId) (ok : Nat → Prop) (w : World) : Spec → List Value → Prop
  | .imm t k, pre => ∀ x v, ImmArg ok w t x v → SpecOk P f ok w (k x) (pre ++ [v])
  | .body o out, pre => ∀ a, o = some a → Calls P f pre.toArray w fun e w' => ∃ V, e = .returned V ∧ Ret ok w w' (out a) V
def SpecGood (P : Program) (f : FuncId) (s : Spec) : Prop := ∀ ok w, (∀ b, ok b → b < w.heap.size) → SpecOk P f ok w s []

def okN (E : Env) (ns : List Nat) (b : Nat) : Prop := E.ok b ∨ ∃ n ∈ ns, E.has n ∧ b = (E.ρ n).1
def RowNames (h : Heap) (ns : List Nat) : Prop := ∀ n ∈ ns, ∃ e t xs own, hget h n = some (.row e t xs own)
theorem okN_left {E : Env} {ns ms : List Nat} (b : Nat) (h : okN E ns b) : okN E (ns ++ ms) b := h.imp id fun ⟨n, hn, h⟩ => ⟨n, List.mem_append.2 (.inl hn), h⟩
theorem okN_right {E : Env} {ns ms : List Nat} (b : Nat) (h : okN E ms b) : okN E (ns ++ ms) b := h.imp id fun ⟨n, hn, h⟩ => ⟨n, List.mem_append.2 (.inr hn), h⟩
theorem RowNames.append {h : Heap} {ns ms : List Nat} (p : RowNames h ns) (q : RowNames h ms) : RowNames h (ns ++ ms) := fun n hn => by
  rcases List.mem_append.1 hn with hn | hn
  · exact p n hn
  · exact q n hn

section
variable {st : St} {R : Type} {Kk : List Upd → VV → List Loc → Option R} {l : List Loc} {r : R}

theorem run_rdList_imm {e : TypeId} {t : Ty} {c : Cell} {k : List (El t) → RP} (hrun : (rdList e t c k).run st Kk l = some r) :
    ∃ ys l', (k ys).run st Kk l' = some r ∧ RowNames st.heap (rowOf c) ∧ ∀ {E saved a S w w0 K v}, RelE E st saved a S w w0 K → CellRel E st.heap w c v →
      Imm (okN E (rowOf c)) w (.slice e t) ys [v] := by
  unfold rdList at hrun
  cases c with
  | nilS => exact ⟨[], l, hrun, (fun n hn => by cases hn), fun {E saved a S w w0 K v} h hc => ⟨none, 0, by simp only [CellRel] at hc; rw [hc]; rfl, Nat.le_refl _, fun h => absurd rfl h⟩⟩
  | slc e' t' xs =>
    simp only at hrun
    cases hb : Nat.beq e e' with
    | false => rw [hb] at hrun; cases hrun
    | true =>
      rw [hb] at hrun
      simp only [cond_true] at hrun
      cases hy : castList t' t xs with
      | none => rw [hy] at hrun; cases hrun
      | some ys =>
        rw [hy] at hrun
        obtain ⟨e1, rfl⟩ := castList_some hy
        subst e1
        exact ⟨xs, l, hrun, (fun n hn => by cases hn), fun {E saved a S w w0 K v} h hc => Imm.mono (fun b hb => .inl hb) (fun _ _ => rfl) hc⟩
  | row o lo hi =>
    simp only [RP.run] at hrun
    cases hg : hget st.heap o with
    | none => rw [hg] at hrun; cases hrun
    | some b =>
      rw [hg] at hrun
      cases b with
      | row e' t' xs own =>
        simp only at hrun
        cases hb : Nat.beq e e' with
        | false => rw [hb] at hrun; cases hrun
        | true =>
          rw [hb] at hrun
          simp only [cond_true] at hrun
          cases hy : castList t' t xs with
          | none => rw [hy] at hrun; cases hrun
          | some ys =>
            rw [hy] at hrun
            obtain ⟨e1, rfl⟩ := castList_some hy
            subst e1
            refine ⟨cut lo hi xs, _, hrun, (fun n hn => ?_), fun {E saved a S w w0 K v} h hc => ?_⟩
            · simp only [rowOf, List.mem_singleton] at hn
              subst hn
              exact ⟨_, _, _, _, hg⟩
            · exact row_imm h hg hc (fun b hb => .inl hb) (fun hh => .inr ⟨o, List.mem_singleton.2 rfl, hh, rfl⟩) e
      | _ => cases hrun
  | _ => cases hrun

theorem immR_sound : ∀ (t : Ty) (cs : List Cell) (k : El t → List Cell → List Nat → RP) (l : List Loc), (immR t cs k).run st Kk l = some r →
    ∃ x rest ns l', (k x rest ns).run st Kk l' = some r ∧ RowNames st.heap ns ∧ ∀ {E saved a S w w0 K vs}, RelE E st saved a S w w0 K → All2 (CellRel E st.heap w) cs vs →
      ∃ v1 v2, vs = v1 ++ v2 ∧ Imm (okN E ns) w t x v1 ∧ All2 (CellRel E st.heap w) rest v2 := by
  intro t
  induction t with
  | nil =>
    intro cs k l h
    exact ⟨(), cs, [], l, h, (fun n hn => by cases hn), fun {E saved a S w w0 K vs} hr hv => ⟨[], vs, rfl, rfl, hv⟩⟩
  | fld p q ihp ihq =>
    intro cs k l h
    simp only [immR] at h
    obtain ⟨x, rest, ns, l1, h1, hn, hx⟩ := ihp _ _ _ h
    obtain ⟨y, rest', ms, l2, h2, hm, hy⟩ := ihq _ _ _ h1
    refine ⟨(x, y), rest', ns ++ ms, l2, h2, hn.append hm, fun {E saved a S w w0 K vs} hr hv => ?_⟩
    obtain ⟨v1, v2, rfl, hi, hv2⟩ := hx hr hv
    obtain ⟨v3, v4, rfl, hi', hv4⟩ := hy hr hv2
    exact ⟨v1 ++ v3, v4, by rw [List.append_assoc], ⟨v1, v3, rfl, hi.mono (fun b hb => okN_left b hb) (fun _ _ => rfl), hi'.mono (fun b hb => okN_right b hb) (fun _ _ => rfl)⟩, hv4⟩
  | int i =>
    intro cs k l h
    cases cs with
    | nil => cases h
    | cons c cs => cases c with
      | int j m =>
        simp only [immR] at h
        by_cases e : i = j
        · subst e
          simp only [decide_true, cond_true] at h
          refine ⟨m, cs, [], l, h, (fun n hn => by cases hn), fun {E saved a S w w0 K vs} hr hv => ?_⟩
          cases hv with
          | @cons _ v _ vs' h1 h2 =>
            have : v = .int i m := h1
            subst this
            exact ⟨[_], vs', rfl, rfl, h2⟩
        · simp [e, RP.run] at h
      | _ => cases h
  | bool =>
    intro cs k l h
    cases cs with
    | nil => cases h
    | cons c cs => cases c with
      | bool b =>
        refine ⟨b, cs, [], l, h, (fun n hn => by cases hn), fun {E saved a S w w0 K vs} hr hv => ?_⟩
        cases hv with
        | @cons _ v _ vs' h1 h2 =>
          have : v = .bool b := h1
          subst this
          exact ⟨[_], vs', rfl, rfl, h2⟩
      | _ => cases h
  | str =>
    intro cs k l h
    cases cs with
    | nil => cases h
    | cons c cs => cases c with
      | str s =>
        refine ⟨s, cs, [], l, h, (fun n hn => by cases hn), fun {E saved a S w w0 K vs} hr hv => ?_⟩
        cases hv with
        | @cons _ v _ vs' h1 h2 =>
          have : v = .string s := h1
          subst this
          exact ⟨[_], vs', rfl, rfl, h2⟩
      | _ => cases h
  | slice e t _ =>
    intro cs k l h
    cases cs with
    | nil => cases h
    | cons c cs =>
      simp only [immR] at h
      obtain ⟨ys, l1, h1, hn, hy⟩ := run_rdList_imm h
      refine ⟨ys, cs, _, l1, h1, hn, fun {E saved a S w w0 K vs} hr hv => ?_⟩
      cases hv with
      | @cons _ v _ vs' h2 h3 => exact ⟨[v], vs', rfl, hy hr h2, h3⟩

variable {P : Program} {f : FuncId}
theorem callR_sound {nm : Nat → Nat} : ∀ (s : Spec) (vs : List V1) (ns : List Nat) (l : List Loc), (callR nm s vs ns).run st Kk l = some r → RowNames st.heap ns →
    ∃ out ms l', (freshAll (layRes nm 0 out).2 (bif outShared out then freezeR (dedup (ns ++ ms)) fun u => doneU (u ++ (layRes nm 0 out).2) (resVal (layRes nm 0 out).1)
      else doneU (layRes nm 0 out).2 (resVal (layRes nm 0 out).1))).run st Kk l' = some r ∧ RowNames st.heap (ns ++ ms) ∧
      ∀ {E saved a S w w0 K ok Vs pre}, RelE E st saved a S w w0 K → (∀ b, okN E ms b → ok b) → All2 (V1Rel E st.heap w) vs Vs → SpecOk P f ok w s pre →
        Calls P f (pre ++ Vs).toArray w fun e w' => ∃ V, e = .returned V ∧ Ret ok w w' out V := by
  intro s
  induction s with
  | body o out =>
    intro vs ns l h hns
    cases vs with
    | nil =>
      simp only [callR] at h
      cases o with
      | none => cases h
      | some a =>
        refine ⟨out a, [], l, by rw [List.append_nil]; exact h, by rw [List.append_nil]; exact hns, fun {E saved a' S w w0 K ok Vs pre} hr hok hv hs => ?_⟩
        cases hv
        rw [List.append_nil]
        exact hs a rfl
    | cons v vs => cases h
  | imm t k ih =>
    intro vs ns l h hns
    cases vs with
    | nil => cases h
    | cons v vs =>
      simp only [callR] at h
      cases hag : (bif v.agg then t.agg else !t.agg) with
      | false => rw [hag] at h; cases h
      | true =>
        rw [hag] at h
        simp only [cond_true] at h
        obtain ⟨x, rest, ms, l1, h1, hms, hx⟩ := immR_sound _ _ _ _ h
        cases rest with
        | cons _ _ => cases h1
        | nil =>
          obtain ⟨out, ms', l2, h2, hms', hcall⟩ := ih x vs (ns ++ ms) l1 h1 (hns.append hms)
          refine ⟨out, ms ++ ms', l2, by rw [← List.append_assoc]; exact h2, by rw [← List.append_assoc]; exact hms', fun {E saved a' S w w0 K ok Vs pre} hr hok hv hs => ?_⟩
          cases hv with
          | @cons _ V _ Vs' p q =>
            have harg : ImmArg ok w t x V := by
              obtain ⟨us, hus, hV⟩ := p
              obtain ⟨v1, v2, e1, hi, hv2⟩ := hx hr hus
              cases hv2
              rw [List.append_nil] at e1
              subst e1
              refine ⟨us, hi.mono (fun b hb => hok b (okN_left b hb)) (fun _ _ => rfl), ?_⟩
              rcases hV with ⟨h1, h2⟩ | ⟨h1, h2⟩
              · rw [h1] at hag; exact .inl ⟨hag, h2⟩
              · rw [h1] at hag; exact .inr ⟨by simpa using hag, h2⟩
            have := hcall hr (fun b hb => hok b (okN_right b hb)) q (hs x V harg)
            rwa [List.append_assoc] at this
end
end Go.Vm
end

section
namespace Go.Vm
open Go

inductive MD where
  | box (g p : Nat)
  | row (g off c : Nat)
  | nil
def MD.blk : MD → List Nat
  | .box g _ => [g]
  | .row g _ _ => [g]
  | .nil => []
def BoxAt (w : World) (g p : Nat) (vs : List Value) : Prop := ∀ j v, vs[j]? = some v → w.cell? ⟨g, p + j, none⟩ = some v ∧ w.frozen? ⟨g, p + j, none⟩ = false
inductive PostOk (ok : Nat → Prop) (w : World) : List MD → List Po → Prop where
  | nil : PostOk ok w [] []
  | box {g p t y ms ps vs} : Imm ok w t y vs → BoxAt w g p vs → PostOk ok w ms ps → PostOk ok w (.box g p :: ms) (.box t y :: ps)
  | row {g off c t ys ms ps} : RowAt ok w g off t ys → NoFrz t w g → PostOk ok w ms ps → PostOk ok w (.row g off c :: ms) (.row t ys :: ps)
  | gone {m ms ps} : PostOk ok w ms ps → PostOk ok w (m :: ms) (.gone :: ps)
  | none {t ys ms ps} : PostOk ok w ms ps → PostOk ok w (.nil :: ms) (.row t ys :: ps)
def goneB : List MD → List Po → List Nat
  | m :: ms, .gone :: ps => m.blk ++ goneB ms ps
  | _ :: ms, _ :: ps => goneB ms ps
  | _, _ => []
structure RetM (ok : Nat → Prop) (w w' : World) (out : List (Bool × List RC)) (V : Value) (ms : List MD) (ps : List Po) : Prop where
  os : w'.os = w.os
  tape : w'.tape = w.tape
  put : w'.output = w.output
  size : w.heap.size ≤ w'.heap.size
  same : ∀ b, b < w.heap.size → b ∉ ms.flatMap MD.blk → w'.heap[b]? = w.heap[b]?
  room : ∀ g m, Room w g m → Room w' g m
  res : ∃ (good : Nat → Prop) (Vs : List Value) (bs : List Nat), (∀ b, good b → w.heap.size ≤ b ∧ b < w'.heap.size) ∧ ResRel (fun b => ok b ∨ good b) w' out Vs bs ∧ bs.Nodup ∧
    (∀ b ∈ bs, (w.heap.size ≤ b ∧ b < w'.heap.size ∧ ¬ good b) ∨ b ∈ goneB ms ps) ∧ V = tupOf Vs ∧ PostOk (fun b => ok b ∨ good b) w' ms ps
def MOk (P : Program) (f : FuncId) (ok : Nat → Prop) (w : World) : MSpec → List Value → List MD → Prop
  | .imm t k, pre, ms => ∀ x v, ImmArg ok w t x v → MOk P f ok w (k x) (pre ++ [v]) ms
  | .box t k, pre, ms => ∀ x g p vs, Imm ok w t x vs → BoxAt w g p vs → g < w.heap.size → ¬ ok g → g ∉ ms.flatMap MD.blk → MOk P f ok w (k x) (pre ++ [.pointer (some ⟨g, p, none⟩)]) (ms ++ [.box g p])
  | .row e t k, pre, ms => (∀ A, MOk P f ok w (k []) (pre ++ [.slice A 0 0]) (ms ++ [.nil])) ∧
      ∀ xs g off c, xs.length ≤ c → 0 < c → RowAt ok w g off t xs → NoFrz t w g → Room w g (off + c * t.sz) → g < w.heap.size → ¬ ok g → g ∉ ms.flatMap MD.blk →
        MOk P f ok w (k xs) (pre ++ [.slice (some ⟨g, off, none⟩) xs.length c]) (ms ++ [.row g off c])
  | .body o out post, pre, ms => ∀ a, o = some a → Calls P f pre.toArray w fun e w' => ∃ V, e = .returned V ∧ RetM ok w w' (out a) V ms (post a)
def MGood (P : Program) (f : FuncId) (s : MSpec) : Prop := ∀ ok w, (∀ b, ok b → b < w.heap.size) → MOk P f ok w s [] []

end Go.Vm
end

section
namespace Go.Vm
open Go

theorem CellRel.closed {ok : Nat → Prop} {E : Env} {h : Heap} {w : World} {c : Cell} {v : Value} (p : CellRel (env0 ok) [] w c v) (hok : ∀ b, ok b → E.ok b) : CellRel E h w c v := by
  cases c with
  | int => exact p
  | bool => exact p
  | str => exact p
  | nilS => exact p
  | slc e t xs => exact Imm.mono hok (fun _ _ => rfl) p
  | row o lo hi => simp [CellRel, hsh, hget] at p
  | ptr o f => obtain ⟨n, hs, _⟩ := p; simp [hsh, hget] at hs
  | eptr o i f => simp [CellRel, hsh, hget] at p
  | iptr t x f =>
    obtain ⟨g, off, ds, rfl, hg, hi, hj⟩ := p
    exact ⟨g, off, ds, rfl, hok g hg, hi.mono hok (fun _ _ => rfl), hj⟩
  | fn f l =>
    obtain ⟨vs, rfl, hl⟩ := p
    refine ⟨vs, rfl, ?_⟩
    generalize vs.toList = us at hl
    cases hl with
    | nil => exact .nil
    | cons q _ => obtain ⟨n, hs, _⟩ := q; simp [hsh, hget] at hs
  | mp o => obtain ⟨t, hs, _⟩ := p; simp [hsh, hget] at hs
theorem imm_flat {ok ok' : Nat → Prop} {w : World} : ∀ {t : Ty} {x : El t} {cs : List Value}, t.flat = true → Imm ok w t x cs → Imm ok' w t x cs
  | .int _, _, _, _, h => h
  | .bool, _, _, _, h => h
  | .str, _, _, _, h => h
  | .slice _ _, _, _, hf, _ => by cases hf
  | .nil, _, _, _, h => h
  | .fld a r, x, _, hf, h => by
    simp only [Ty.flat, Bool.and_eq_true] at hf
    obtain ⟨c1, c2, rfl, h1, h2⟩ := h
    exact ⟨c1, c2, rfl, imm_flat hf.1 h1, imm_flat hf.2 h2⟩
theorem RcRel.mono {ok ok' : Nat → Prop} {w : World} (hok : ∀ b, ok b → ok' b) {rc : RC} {v : Value} {bs : List Nat} (h : RcRel ok w rc v bs) : RcRel ok' w rc v bs := by
  cases rc with
  | c c => exact ⟨h.1, h.2.closed hok⟩
  | own e t xs =>
    obtain ⟨A, c, hv, hle, hx⟩ := h
    refine ⟨A, c, hv, hle, hx.imp id ?_⟩
    rintro ⟨g, off, h1, h2, h3, h4⟩
    exact ⟨g, off, h1, h2, h3.mono hok (fun _ _ => rfl) rfl, h4⟩
theorem RcRel.flat {ok ok' : Nat → Prop} {w : World} {rc : RC} (hs : rc.shared = false) {v : Value} {bs : List Nat} (h : RcRel ok w rc v bs) : RcRel ok' w rc v bs := by
  cases rc with
  | c c =>
    refine ⟨h.1, ?_⟩
    have h2 := h.2
    cases c with
    | slc => cases hs
    | iptr => cases hs
    | int => exact h2
    | bool => exact h2
    | str => exact h2
    | nilS => exact h2
    | row o lo hi => simp [CellRel, hsh, hget] at h2
    | ptr o f => obtain ⟨n, hs, _⟩ := h2; simp [hsh, hget] at hs
    | eptr o i f => simp [CellRel, hsh, hget] at h2
    | fn f l => exact h2
    | mp o => obtain ⟨t, hs, _⟩ := h2; simp [hsh, hget] at hs
  | own e t xs =>
    obtain ⟨A, c, hv, hle, hx⟩ := h
    refine ⟨A, c, hv, hle, hx.imp id ?_⟩
    rintro ⟨g, off, h1, h2, h3, h4⟩
    refine ⟨g, off, h1, h2, fun i hi => ?_, h4⟩
    obtain ⟨ds, hd, hj⟩ := h3 i hi
    exact ⟨ds, imm_flat (by simpa [RC.shared] using hs) hd, hj⟩
theorem RcsRel.imp {ok ok' : Nat → Prop} {w : World} {rs : List RC} {vs : List Value} {bs : List Nat} (h : RcsRel ok w rs vs bs) (k : ∀ rc ∈ rs, ∀ v bs, RcRel ok w rc v bs → RcRel ok' w rc v bs) : RcsRel ok' w rs vs bs := by
  induction h with
  | nil => exact .nil
  | cons p _ ih => exact .cons (k _ List.mem_cons_self _ _ p) (ih fun rc hrc => k rc (List.mem_cons_of_mem _ hrc))
theorem ResRel.imp {ok ok' : Nat → Prop} {w : World} {out : List (Bool × List RC)} {vs : List Value} {bs : List Nat} (h : ResRel ok w out vs bs) (k : ∀ x ∈ out, ∀ rc ∈ x.2, ∀ v bs, RcRel ok w rc v bs → RcRel ok' w rc v bs) : ResRel ok' w out vs bs := by
  induction h with
  | nil => exact .nil
  | cons p q _ ih => exact .cons (p.imp (k _ List.mem_cons_self)) q (ih fun x hx => k x (List.mem_cons_of_mem _ hx))

theorem HLe.trans {h h' h'' : Heap} (p : HLe h h') (q : HLe h' h'') : HLe h h'' := by
  intro n s hs
  rcases p n s hs with h1 | ⟨h1, h2⟩
  · exact q n s h1
  · rcases q n _ h2 with h3 | ⟨⟨e, t, m, h3⟩, _⟩
    · exact .inr ⟨h1, h3⟩
    · cases h3
theorem HLe.isSome {h h' : Heap} (p : HLe h h') {n : Nat} (hs : (hget h n).isSome = true) : (hget h' n).isSome = true := by
  obtain ⟨o, ho⟩ := Option.isSome_iff_exists.1 hs
  have : hsh h n = some (shape o) := by simp [hsh, ho]
  rcases p n _ this with h1 | ⟨_, h1⟩ <;> exact hsh_isSome h1
theorem Step.trans {E E' E'' : Env} {h h' h'' : Heap} {w w' w'' : World} (p : Step E E' h h' w w') (q : Step E' E'' h' h'' w' w'') : Step E E'' h h'' w w'' :=
  ⟨fun n hs => (q.ρ n (p.hle.isSome hs)).trans (p.ρ n hs), fun n hs hh => q.has n (p.hle.isSome hs) (p.has n hs hh), fun b hb => q.ok b (p.ok b hb),
    fun b hb => (q.same b (p.ok b hb)).trans (p.same b hb), fun g m hr => q.room g m (p.room g m hr), p.hle.trans q.hle⟩
theorem Step.refl (E : Env) (h : Heap) (w : World) : Step E E h h w w := ⟨fun _ _ => rfl, fun _ _ h => h, fun _ h => h, fun _ _ => rfl, fun _ _ h => h, HLe.refl h⟩

section
variable {E : Env} {st : St} {saved : List (Nat × List VV)} {a : Act} {S : List (Array Value)} {w w' w0 : World} {K : Keep}

theorem RelE.after (h : RelE E st saved a S w w0 K) (hsz : w.heap.size ≤ w'.heap.size) (hs : ∀ b, b < w.heap.size → w'.heap[b]? = w.heap[b]?) (ho : w'.os = w.os) (ht : w'.tape = w.tape) (hu : w'.output = w.output)
    (good : Nat → Prop) (hg : ∀ b, good b → w.heap.size ≤ b ∧ b < w'.heap.size) : RelE ⟨E.ρ, E.has, fun b => E.ok b ∨ good b⟩ st saved a S w' w0 K := by
  have k : Step E ⟨E.ρ, E.has, fun b => E.ok b ∨ good b⟩ st.heap st.heap w w' := ⟨fun _ _ => rfl, fun _ _ h => h, fun _ h => .inl h, fun b hb => hs b (h.bo b hb), fun g m hr => hr.of_same (hs g hr.lt), HLe.refl _⟩
  refine ⟨tm_step k h.tm, h.df, h.sv.mono fun _ _ q => tm_step k q, fun n o hn => (h.ob n o hn).step k (by rw [hn]; rfl) (fun h => h) (fun hh => hs _ (h.bd n (by rw [hn]; rfl) hh)), h.dj, ?_, ?_, ?_, ?_, ho.trans h.os, ht.trans h.tape, hu.trans h.out, Nat.le_trans h.size hsz, ?_, fun g m hr => k.room g m (h.rm g m hr)⟩
  · intro n hl hh
    obtain ⟨h1, h2⟩ := h.dk n hl hh
    refine ⟨fun hk => hk.elim h1 fun hk => ?_, h2⟩
    have h3 := (hg _ hk).1
    have h4 := h.bd n (live_isSome hl) hh
    exact absurd h4 (Nat.not_lt.2 h3)
  · intro n hn hh
    exact Nat.lt_of_lt_of_le (h.bd n hn hh) hsz
  · intro b hb
    rcases hb with hb | hb
    · exact Nat.lt_of_lt_of_le (h.bo b hb) hsz
    · exact (hg b hb).2
  · intro b hb
    obtain ⟨h1, h2⟩ := h.kp b hb
    exact ⟨Nat.lt_of_lt_of_le h1 hsz, (hs b h1).trans h2⟩
  · intro b hb hk
    rcases hb with hb | hb
    · exact h.oz b hb hk
    · exact absurd (h.kp b hk).1 (Nat.not_lt.2 (hg b hb).1)

theorem Free.named {h : Heap} {nm b : Nat} {p : Nat × Nat} {q : Prop} {ob : Obj} (hf : Free E h K w b) (hb : q → p.1 ≠ b) : Free (E.at nm p q) (hset h nm ob) K w b := by
  obtain ⟨f1, f2, f3, f4⟩ := hf
  refine ⟨fun n hl hh => ?_, f2, f3, f4⟩
  by_cases e : n = nm
  · subst e
    have hq : q := by simpa [Env.at] using hh
    simpa [Env.at] using hb hq
  · have hl' : Live h n := by
      unfold Live at hl ⊢
      rwa [hget_hset, if_neg e] at hl
    have hh' : E.has n := by simpa [Env.at, e] using hh
    simpa [Env.at, e] using f1 n hl' hh'

theorem layRC_sound {ok : Nat → Prop} {nm : Nat → Nat} : ∀ (rs : List RC) (j : Nat) {E : Env} {st : St} {vs : List Value} {bs : List Nat}, RelE E st saved a S w w0 K →
    (∀ n ∈ (layRC nm j rs).2.1.map Upd.name, hget st.heap n = none) → distinct ((layRC nm j rs).2.1.map Upd.name) = true → RcsRel ok w rs vs bs → (∀ b, ok b → E.ok b) → bs.Nodup → (∀ b ∈ bs, Free E st.heap K w b) →
    ∃ E', RelE E' (st.upds (layRC nm j rs).2.1) saved a S w w0 K ∧ All2 (CellRel E' (st.upds (layRC nm j rs).2.1).heap w) (layRC nm j rs).1 vs ∧ Step E E' st.heap (st.upds (layRC nm j rs).2.1).heap w w ∧ E'.ok = E.ok ∧
      ∀ g, g ∉ bs → Free E st.heap K w g → Free E' (st.upds (layRC nm j rs).2.1).heap K w g := by
  intro rs
  induction rs with
  | nil =>
    intro j E st vs bs h hn hd hr hok hb hf
    cases hr
    exact ⟨E, h, .nil, Step.refl _ _ _, rfl, fun g _ hg => hg⟩
  | cons rc rs ih =>
    intro j E st vs bs h hn hd hr hok hb hf
    cases hr with
    | @cons _ _ v vs b1 b2 p q =>
    cases rc with
    | c c =>
      obtain ⟨rfl, p⟩ := p
      obtain ⟨E', h1, h2, h3, h4, h5⟩ := ih j h hn hd q hok hb hf
      exact ⟨E', h1, .cons (p.closed fun b hb => by rw [h4]; exact hok b hb) h2, h3, h4, h5⟩
    | own e t xs =>
      obtain ⟨A, c, rfl, hle, hx⟩ := p
      simp only [layRC, List.map_cons, Upd.name] at hn hd
      obtain ⟨hd1, hd2⟩ := distinct_cons hd
      have hfr : hget st.heap (nm j) = none := hn _ List.mem_cons_self
      have hnd := List.nodup_append.1 hb
      have hsh1 : hsh (hset st.heap (nm j) (.row e t xs true)) (nm j) = some (.row e t xs.length) := by rw [hsh_hset, if_pos rfl]; rfl
      have key : ∀ (pr : Nat × Nat) (bq : Prop), (bq → Free E st.heap K w pr.1) → ObjRel (E.at (nm j) pr bq) (hset st.heap (nm j) (.row e t xs true)) w (nm j) (.row e t xs true) → (bq → pr.1 ∈ b1) →
          CellRel (E.at (nm j) pr bq) (hset st.heap (nm j) (.row e t xs true)) w (.row (nm j) none none) (.slice A xs.length c) →
          ∃ E', RelE E' (st.upds (layRC nm j (.own e t xs :: rs)).2.1) saved a S w w0 K ∧ All2 (CellRel E' (st.upds (layRC nm j (.own e t xs :: rs)).2.1).heap w) (layRC nm j (.own e t xs :: rs)).1 (.slice A xs.length c :: vs) ∧
            Step E E' st.heap (st.upds (layRC nm j (.own e t xs :: rs)).2.1).heap w w ∧ E'.ok = E.ok ∧ ∀ g, g ∉ b1 ++ b2 → Free E st.heap K w g → Free E' (st.upds (layRC nm j (.own e t xs :: rs)).2.1).heap K w g := by
        intro pr bq hfree hob hmem hcell
        have h1 := h.named hfr pr bq _ hfree hob
        have hst := step_at (E := E) (w := w) hfr pr bq (.row e t xs true)
        obtain ⟨E', k1, k2, k3, k4, k5⟩ := ih (j + 1) (st := ⟨st.tmps, hset st.heap (nm j) (.row e t xs true)⟩) h1 (fun n hn' => by
            rw [hget_hset, if_neg (show ¬ n = nm j from fun e1 => hd1 (by rw [← e1]; exact hn'))]
            exact hn n (List.mem_cons_of_mem _ hn')) hd2 q hok hnd.2.1 (fun b hb' => (hf b (List.mem_append.2 (.inr hb'))).named fun hq e => hnd.2.2 _ (hmem hq) b hb' e)
        exact ⟨E', k1, .cons (hcell.step k3) k2, hst.trans k3, k4, fun g hg hfg => k5 g (fun hg' => hg (List.mem_append.2 (.inr hg'))) (hfg.named fun hq e => hg (List.mem_append.2 (.inl (e ▸ hmem hq))))⟩
      rcases hx with ⟨rfl, rfl⟩ | ⟨g, off, rfl, rfl, hrow, hnf, hR⟩
      · have hx0 : xs = [] := List.length_eq_zero_iff.1 (by omega)
        subst hx0
        refine key (0, 0) False (fun f => f.elim) ⟨.inr rfl, fun hh => ?_⟩ (fun f => f.elim) ?_
        · simp [Env.at] at hh
        · simp only [CellRel, hsh1]
          exact ⟨trivial, A, 0, rfl, by simp [lo0], .inl rfl⟩
      · have e1 : (E.at (nm j) (g, off) True).ρ (nm j) = (g, off) := by simp [Env.at]
        refine key (g, off) True (fun _ => hf g (List.mem_append.2 (.inl (List.mem_singleton.2 rfl)))) ⟨.inl (by simp [Env.at]), fun _ => ⟨?_, fun _ => ?_, fun e => by cases e⟩⟩ (fun _ => List.mem_singleton.2 rfl) ?_
        · rw [e1]; exact hrow.mono hok (fun _ _ => rfl) rfl
        · rw [e1]; exact hnf
        · simp only [CellRel, hsh1]
          refine ⟨trivial, some ⟨g, off, none⟩, c, by simp [cutLen], by simpa [lo0] using hle, .inr ⟨by simp [Env.at], by simp [Env.at, lo0], ?_⟩⟩
          rw [e1]
          simpa [lo0] using hR

theorem layRes_sound {ok : Nat → Prop} {nm : Nat → Nat} : ∀ (out : List (Bool × List RC)) (j : Nat) {E : Env} {st : St} {Vs : List Value} {bs : List Nat}, RelE E st saved a S w w0 K →
    (∀ n ∈ (layRes nm j out).2.map Upd.name, hget st.heap n = none) → distinct ((layRes nm j out).2.map Upd.name) = true → ResRel ok w out Vs bs → (∀ b, ok b → E.ok b) → bs.Nodup → (∀ b ∈ bs, Free E st.heap K w b) →
    ∃ E', RelE E' (st.upds (layRes nm j out).2) saved a S w w0 K ∧ All2 (V1Rel E' (st.upds (layRes nm j out).2).heap w) (layRes nm j out).1 Vs ∧ Step E E' st.heap (st.upds (layRes nm j out).2).heap w w := by
  intro out
  induction out with
  | nil =>
    intro j E st Vs bs h hn hd hr hok hb hf
    cases hr
    exact ⟨E, h, .nil, Step.refl _ _ _⟩
  | cons x out ih =>
    intro j E st Vs bs h hn hd hr hok hb hf
    obtain ⟨ag, rs⟩ := x
    cases hr with
    | @cons _ _ vs V b1 _ Vs b2 p hV q =>
    simp only [layRes, List.map_append] at hn hd
    obtain ⟨hd1, hd2, hdj⟩ := distinct_append hd
    have hnd := List.nodup_append.1 hb
    obtain ⟨E1, h1, h2, h3, h4, h5⟩ := layRC_sound rs j h (fun n hn' => hn n (List.mem_append.2 (.inl hn'))) hd1 p hok hnd.1 (fun b hb' => hf b (List.mem_append.2 (.inl hb')))
    obtain ⟨E2, k1, k2, k3⟩ := ih (layRC nm j rs).2.2 h1 (fun n hn' => by
      rw [hget_upds _ _ _ (fun hm => hdj n hm hn')]
      exact hn n (List.mem_append.2 (.inr hn'))) hd2 q (fun b hb' => by rw [h4]; exact hok b hb') hnd.2.1 (fun b hb' => h5 b (fun hb1 => hnd.2.2 b hb1 b hb' rfl) (hf b (List.mem_append.2 (.inr hb'))))
    refine ⟨E2, ?_, ?_, ?_⟩
    · simp only [layRes, upds_append]; exact k1
    · simp only [layRes, upds_append]
      exact .cons ⟨vs, h2.mono fun _ _ r => r.step k3, hV⟩ k2
    · simp only [layRes, upds_append]; exact h3.trans k3

theorem resVal_rel {h : Heap} {vs : List V1} {Vs : List Value} (k : All2 (V1Rel E h w) vs Vs) : VRel E h w (resVal vs) (tupOf Vs) := by
  cases k with
  | nil => exact ⟨[], .nil, rfl⟩
  | cons p q => cases q with
    | nil => exact p
    | cons p' q' => exact ⟨_, .cons p (.cons p' q'), rfl⟩

variable {R : Type} {Kk : List Upd → VV → List Loc → Option R} {l : List Loc} {r : R}
theorem run_freshAll : ∀ (us : List Upd) (k : RP) (l : List Loc), (freshAll us k).run st Kk l = some r → (∀ n ∈ us.map Upd.name, hget st.heap n = none) ∧ ∃ l', k.run st Kk l' = some r
  | [], k, l, h => ⟨(fun n hn => by cases hn), l, h⟩
  | u :: us, k, l, h => by
    obtain ⟨h1, l1, h2⟩ := run_fresh h
    obtain ⟨h3, l2, h4⟩ := run_freshAll us k l1 h2
    refine ⟨fun n hn => ?_, l2, h4⟩
    cases hn with
    | head => exact h1
    | tail _ hn => exact h3 n hn
theorem run_freezeR : ∀ (ns : List Nat) (k : List Upd → RP) (l : List Loc), (freezeR ns k).run st Kk l = some r → ∃ u l', (k u).run st Kk l' = some r ∧ FrzOk st.heap u ∧ u.map Upd.name = ns
  | [], k, l, h => ⟨[], l, h, (fun x hx => by cases hx), rfl⟩
  | n :: ns, k, l, h => by
    simp only [freezeR, RP.run] at h
    split at h
    · rename_i e t xs own hg
      obtain ⟨u, l', h1, h2, h3⟩ := run_freezeR ns _ _ h
      refine ⟨_, l', h1, fun x hx => ?_, by rw [List.map_cons, h3]; rfl⟩
      cases hx with
      | head => exact ⟨n, e, t, xs, own, rfl, hg⟩
      | tail _ hx => exact h2 x hx
    · cases h
theorem mem_dedup : ∀ (ns : List Nat) (n : Nat), n ∈ ns → n ∈ dedup ns
  | [], n, h => by cases h
  | m :: ns, n, h => by
    simp only [dedup]
    cases hb : ns.any (Nat.beq m) with
    | true =>
      rw [cond_true]
      cases h with
      | head =>
        obtain ⟨b, hb1, hb2⟩ := List.any_eq_true.1 hb
        rw [Nat.eq_of_beq_eq_true hb2]
        exact mem_dedup ns b hb1
      | tail _ h => exact mem_dedup ns n h
    | false =>
      rw [cond_false]
      cases h with
      | head => exact List.mem_cons_self
      | tail _ h => exact List.mem_cons_of_mem _ (mem_dedup ns n h)

structure Ok (P : Program) (cfg : Cfg) : Prop extends Good P cfg where
  enter : ∀ f, ((look cfg.spec f).isSome = true ∨ (look cfg.inl f).isSome = true) → ∀ args w, (callFunc f args).run P w = .ok (.enter f args) w
  spec : ∀ f s, look cfg.spec f = some s → SpecGood P f s
  enterM : ∀ f, (look cfg.mspec f).isSome = true → ∀ args w, (callFunc f args).run P w = .ok (.enter f args) w
  mspec : ∀ f s, look cfg.mspec f = some s → MGood P f s

theorem call_exec {P : Program} {o : Oper} {c : Call} {f : FuncId} {ρ : Operand → Value} {w : World} (ho : o.op = .call c) {g : Operand} (hc : c.callee = .value g) {cap : Array Value} (hg : ρ g = .func (.func f) #[] cap)
    (he : ∀ args w, (callFunc f args).run P w = .ok (.enter f args) w) : (execOp ρ o).run P w = .ok (.enter f (c.args.map ρ ++ cap)) w := by
  simp [execOp, ho, resolve, hc, hg, Deferred.ofValue, invoke, he]

theorem s_call {P : Program} {cfg : Cfg} {o : Oper} (hG : Ok P cfg) (h : RelE E st saved a S w w0 K) {c : Call} {f : FuncId} {nm : Nat → Nat} (ho : o.op = .call c) (hc : c.callee = .value (.func f))
    (hrun : (rdArgs c.args.toList fun vs => match look cfg.spec f with
    | some s => callR nm s vs []
    | none => .fail).run st Kk l = some r) : Goes P o a w st saved S w0 K Kk r := by
  obtain ⟨vs, l1, h1, h2⟩ := run_rdArgs _ _ _ hrun
  have hv := h2 h
  cases hs : look cfg.spec f with
  | none => rw [hs] at h1; cases h1
  | some s =>
    rw [hs] at h1
    obtain ⟨out, ms, l2, h3, hms, hcall⟩ := callR_sound s vs [] l1 h1 (fun n hn => by cases hn)
    rw [List.nil_append] at h3 hms
    have hlt : ∀ b, okN E ms b → b < w.heap.size := by
      rintro b (hb | ⟨n, hn, hh, rfl⟩)
      · exact h.bo b hb
      · obtain ⟨e, t, xs, own, hg⟩ := hms n hn
        exact h.bd n (by rw [hg]; rfl) hh
    have hC := hcall h (fun b hb => hb) hv (hG.spec f s hs (okN E ms) w hlt)
    rw [List.nil_append] at hC
    have hex := call_exec (P := P) (w := w) (ρ := a.eval) ho hc (cap := #[]) rfl (hG.enter f (.inl (by rw [hs]; rfl)))
    have harr : (c.args.toList.map a.eval).toArray = c.args.map a.eval ++ #[] := by
      apply Array.toList_inj.1; simp
    rw [harr] at hC
    obtain ⟨hfr, l3, h4⟩ := run_freshAll _ _ _ h3
    -- what is left
    have fin : ∀ (u : List Upd) (l4 : List Loc), (doneU (u ++ (layRes nm 0 out).2) (resVal (layRes nm 0 out).1)).run st Kk l4 = some r → FrzOk st.heap u →
        (∀ (good : Nat → Prop) (w' : World) (Vs : List Value) (bs : List Nat), ResRel (fun b => okN E ms b ∨ good b) w' out Vs bs → ResRel (fun b => okU E u b ∨ good b) w' out Vs bs) → Goes P o a w st saved S w0 K Kk r := by
      intro u l4 h5 hfrz himp
      obtain ⟨hd, hK⟩ := run_doneU h5
      rw [List.map_append] at hd
      obtain ⟨hd1, hd2, hdj⟩ := distinct_append hd
      refine ⟨_, _, _, hK, fun Q next hnx => ?_⟩
      unfold Oper.wp
      rw [hex, Oper.upon_enter]
      refine Calls.mono hC fun e w' hR => ?_
      obtain ⟨V, rfl, hret⟩ := hR
      obtain ⟨good, Vs, bs, hgood, hres, hnd, hbs, rfl⟩ := hret.res
      obtain ⟨E1, r1, e1, e2, e3⟩ := h.frzs u hfrz hd1
      have r2 := r1.after hret.size hret.same hret.os hret.tape hret.put good hgood
      obtain ⟨E', r3, hV, _⟩ := layRes_sound out 0 (ok := fun b => okU E u b ∨ good b) r2 (fun n hn => by
        rw [hget_upds u st n (fun hm => hdj n hm hn)]
        exact hfr n hn) hd2 (himp _ _ _ _ hres) (fun b hb => hb.imp (fun hb => (e3 b).1 hb) id) hnd (fun b hb => by
          obtain ⟨g1, g2, g3⟩ := hbs b hb
          refine ⟨fun n hl hh => ?_, ?_, fun hk => ?_, g2⟩
          · have := r1.bd n (live_isSome hl) hh
            exact Nat.ne_of_lt (Nat.lt_of_lt_of_le this g1)
          · rintro (hk | hk)
            · exact absurd (r1.bo b hk) (Nat.not_lt.2 g1)
            · exact g3 hk
          · exact absurd (r1.kp b hk).1 (Nat.not_lt.2 g1))
      refine hnx _ _ E' ?_
      rw [upds_append]
      exact r3.put o.dst (resVal_rel hV)
    cases hsh : outShared out with
    | true =>
      rw [hsh] at h4
      simp only [cond_true] at h4
      obtain ⟨u, l4, h5, hfrz, hnames⟩ := run_freezeR _ _ _ h4
      refine fin u l4 h5 hfrz fun good w' Vs bs hres => hres.imp fun _ _ rc _ v bs hrc => hrc.mono fun b hb => hb.imp ?_ id
      rintro (hb | ⟨n, hn, hh, rfl⟩)
      · exact .inl hb
      · have : n ∈ u.map Upd.name := by rw [hnames]; exact mem_dedup ms n hn
        obtain ⟨x, hx, hxn⟩ := List.mem_map.1 this
        obtain ⟨n', ob⟩ := x
        have e : n' = n := hxn
        subst e
        exact .inr ⟨n', ob, hx, hh, rfl⟩
    | false =>
      rw [hsh] at h4
      simp only [cond_false] at h4
      refine fin [] l3 h4 (fun x hx => by cases hx) fun good w' Vs bs hres => hres.imp fun x hx rc hrc v bs hr => hr.flat ?_
      unfold outShared at hsh
      have h6 := List.any_eq_false.1 hsh x hx
      have h7 : x.2.any RC.shared = false := by simpa using h6
      have := List.any_eq_false.1 h7 rc hrc
      simpa using this
end
end Go.Vm
end

section
namespace Go.Vm
open Go

section
variable {E : Env} {st : St} {saved : List (Nat × List VV)} {a : Act} {S : List (Array Value)} {w w' w0 : World} {K : Keep}
theorem hget_upds_mem : ∀ (u : List Upd) (s : St) (n : Nat) (ob : Obj), distinct (u.map Upd.name) = true → Upd.o n ob ∈ u → hget (s.upds u).heap n = some ob
  | [], s, n, ob, _, h => by cases h
  | .o m o :: u, s, n, ob, hd, h => by
    simp only [List.map_cons, Upd.name] at hd
    obtain ⟨h1, h2⟩ := distinct_cons hd
    show hget ((s.upd (.o m o)).upds u).heap n = _
    cases h with
    | head =>
      rw [hget_upds u _ _ h1]
      show hget (hset s.heap _ _) _ = _
      rw [hget_hset, if_pos rfl]
    | tail _ h => exact hget_upds_mem u _ n ob h2 h
theorem mem_upd {u : List Upd} {n : Nat} (h : n ∈ u.map Upd.name) : ∃ ob, Upd.o n ob ∈ u := by
  obtain ⟨x, hx, e⟩ := List.mem_map.1 h
  obtain ⟨m, ob⟩ := x
  have e2 : m = n := e
  subst e2
  exact ⟨ob, hx⟩

theorem RelE.afterM (h : RelE E st saved a S w w0 K) (us : List Upd) (C : Nat → Prop) (hd : distinct (us.map Upd.name) = true)
    (hus : ∀ n ob', Upd.o n ob' ∈ us → ∃ ob, hget st.heap n = some ob ∧ shape ob' = shape ob ∧ Live st.heap n)
    (hC : ∀ n, Live st.heap n → E.has n → C (E.ρ n).1 → n ∈ us.map Upd.name) (hCk : ∀ b, C b → ¬ E.ok b ∧ ¬ K b)
    (hsz : w.heap.size ≤ w'.heap.size) (hs : ∀ b, b < w.heap.size → ¬ C b → w'.heap[b]? = w.heap[b]?) (hroom : ∀ g m, Room w g m → Room w' g m)
    (ho : w'.os = w.os) (ht : w'.tape = w.tape) (hu : w'.output = w.output) (good : Nat → Prop) (hg : ∀ b, good b → w.heap.size ≤ b ∧ b < w'.heap.size)
    (obs : ∀ n ob', Upd.o n ob' ∈ us → ∀ {h'}, Step E ⟨E.ρ, E.has, fun b => E.ok b ∨ good b⟩ st.heap h' w w' → ObjRel ⟨E.ρ, E.has, fun b => E.ok b ∨ good b⟩ h' w' n ob') :
    RelE ⟨E.ρ, E.has, fun b => E.ok b ∨ good b⟩ (st.upds us) saved a S w' w0 K := by
  have hget' : ∀ n, n ∉ us.map Upd.name → hget (st.upds us).heap n = hget st.heap n := fun n hn => hget_upds us st n hn
  have k : Step E ⟨E.ρ, E.has, fun b => E.ok b ∨ good b⟩ st.heap (st.upds us).heap w w' := by
    refine ⟨fun _ _ => rfl, fun _ _ h => h, fun _ h => .inl h, fun b hb => hs b (h.bo b hb) (fun hc => (hCk b hc).1 hb), hroom, fun m s hm => .inl ?_⟩
    by_cases e : m ∈ us.map Upd.name
    · obtain ⟨ob', hob⟩ := mem_upd e
      obtain ⟨ob, h1, h2, _⟩ := hus m ob' hob
      simp only [hsh, hget_upds_mem us st m ob' hd hob, Option.map_some]
      simp only [hsh, h1, Option.map_some] at hm
      rw [h2]; exact hm
    · simp only [hsh, hget' m e]; exact hm
  have hlive : ∀ m, Live (st.upds us).heap m → Live st.heap m := by
    intro m hm
    by_cases e : m ∈ us.map Upd.name
    · obtain ⟨ob', hob⟩ := mem_upd e
      exact (hus m ob' hob).elim fun _ h => h.2.2
    · unfold Live at hm ⊢
      rwa [hget' m e] at hm
  refine ⟨?_, h.df, h.sv.mono fun _ _ q => tm_step k q, ?_, ?_, ?_, ?_, ?_, ?_, ho.trans h.os, ht.trans h.tape, hu.trans h.out, Nat.le_trans h.size hsz, ?_, fun g m hr => k.room g m (h.rm g m hr)⟩
  · rw [upds_tmps]; exact tm_step k h.tm
  · intro m o hm
    by_cases e : m ∈ us.map Upd.name
    · obtain ⟨ob', hob⟩ := mem_upd e
      rw [hget_upds_mem us st m ob' hd hob] at hm
      cases hm
      exact obs m o hob k
    · rw [hget' m e] at hm
      have hq := h.ob m o hm
      by_cases hdead : o = .dead
      · subst hdead; trivial
      refine hq.step k (by rw [hm]; rfl) (fun h => h) (fun hh => hs _ (h.bd m (by rw [hm]; rfl) hh) (fun hc => ?_))
      cases o with
      | dead => exact absurd rfl hdead
      | box cs => exact e (hC m (by unfold Live; rw [hm]; trivial) hh hc)
      | row e' t xs own => cases own with
        | true => exact e (hC m (by unfold Live; rw [hm]; trivial) hh hc)
        | false => exact (hCk _ hc).1 ((hq.2 hh).2.2 rfl)
      | mp t xs => exact e (hC m (by unfold Live; rw [hm]; trivial) hh hc)
  · intro m m' hne hl hl' hh hh'
    exact h.dj m m' hne (hlive m hl) (hlive m' hl') hh hh'
  · intro n hl hh
    obtain ⟨h1, h2⟩ := h.dk n (hlive n hl) hh
    refine ⟨fun hk => hk.elim h1 fun hk => ?_, h2⟩
    have h3 := (hg _ hk).1
    have h4 := h.bd n (live_isSome (hlive n hl)) hh
    exact absurd h4 (Nat.not_lt.2 h3)
  · intro n hn hh
    refine Nat.lt_of_lt_of_le (h.bd n ?_ hh) hsz
    by_cases e : n ∈ us.map Upd.name
    · obtain ⟨ob', hob⟩ := mem_upd e
      obtain ⟨ob, h1, _⟩ := hus n ob' hob
      rw [h1]; rfl
    · rwa [hget' n e] at hn
  · intro b hb
    rcases hb with hb | hb
    · exact Nat.lt_of_lt_of_le (h.bo b hb) hsz
    · exact (hg b hb).2
  · intro b hb
    obtain ⟨h1, h2⟩ := h.kp b hb
    exact ⟨Nat.lt_of_lt_of_le h1 hsz, (hs b h1 (fun hc => (hCk b hc).2 hb)).trans h2⟩
  · intro b hb hk
    rcases hb with hb | hb
    · exact h.oz b hb hk
    · exact absurd (h.kp b hk).1 (Nat.not_lt.2 (hg b hb).1)

theorem RelE.kills : ∀ (us : List Upd) {st : St}, RelE E st saved a S w w0 K → distinct (us.map Upd.name) = true → (∀ x ∈ us, ∃ n e t xs own, x = .o n .dead ∧ hget st.heap n = some (.row e t xs own)) → RelE E (st.upds us) saved a S w w0 K
  | [], st, h, _, _ => h
  | x :: us, st, h, hd, hu => by
    obtain ⟨n, e, t, xs, own, rfl, hg⟩ := hu _ List.mem_cons_self
    simp only [List.map_cons, Upd.name] at hd
    obtain ⟨h1, h2⟩ := distinct_cons hd
    refine RelE.kills us (h.kill hg) h2 fun y hy => ?_
    obtain ⟨m, e', t', xs', own', rfl, hm⟩ := hu y (List.mem_cons_of_mem _ hy)
    refine ⟨m, e', t', xs', own', rfl, ?_⟩
    show hget (hset st.heap n .dead) m = _
    rw [hget_hset, if_neg (fun e => h1 (by rw [← e]; exact List.mem_map.2 ⟨_, hy, rfl⟩))]
    exact hm

inductive MRefs (E : Env) (h : Heap) : List Mref → List MD → Prop where
  | nil : MRefs E h [] []
  | box {o t cs ms ds} : E.has o → hget h o = some (.box cs) → cs.length = t.sz → MRefs E h ms ds → MRefs E h (.box o t :: ms) (.box (E.ρ o).1 (E.ρ o).2 :: ds)
  | row {o e t xs c ms ds} : E.has o → hget h o = some (.row e t xs true) → MRefs E h ms ds → MRefs E h (.row o e t xs.length :: ms) (.row (E.ρ o).1 (E.ρ o).2 c :: ds)
  | rnil {o e t ms ds} : hget h o = some (.row e t [] true) → MRefs E h ms ds → MRefs E h (.row o e t 0 :: ms) (.nil :: ds)
  | none {ms ds} : MRefs E h ms ds → MRefs E h (.none :: ms) (.nil :: ds)
theorem MRefs.append {h : Heap} {ms ms2 : List Mref} {ds ds2 : List MD} (p : MRefs E h ms ds) (q : MRefs E h ms2 ds2) : MRefs E h (ms ++ ms2) (ds ++ ds2) := by
  induction p with
  | nil => exact q
  | box a b c _ ih => exact .box a b c ih
  | row a b _ ih => exact .row a b ih
  | rnil a _ ih => exact .rnil a ih
  | none _ ih => exact .none ih
theorem MRefs.blk {h : Heap} {ms : List Mref} {ds : List MD} (p : MRefs E h ms ds) : ∀ b ∈ ds.flatMap MD.blk, ∃ o ∈ ms.flatMap Mref.names, E.has o ∧ Live h o ∧ b = (E.ρ o).1 := by
  induction p with
  | nil => intro b hb; simp at hb
  | @box o t cs ms ds a b c _ ih =>
    intro x hx
    simp only [List.flatMap_cons, MD.blk, List.cons_append, List.nil_append, List.mem_cons] at hx
    rcases hx with rfl | hx
    · exact ⟨o, by simp [Mref.names], a, by unfold Live; rw [b]; trivial, rfl⟩
    · obtain ⟨o', h1, h2⟩ := ih x hx
      exact ⟨o', by simp only [List.flatMap_cons, List.mem_append]; exact .inr h1, h2⟩
  | @row o e t xs c ms ds a b _ ih =>
    intro x hx
    simp only [List.flatMap_cons, MD.blk, List.cons_append, List.nil_append, List.mem_cons] at hx
    rcases hx with rfl | hx
    · exact ⟨o, by simp [Mref.names], a, by unfold Live; rw [b]; trivial, rfl⟩
    · obtain ⟨o', h1, h2⟩ := ih x hx
      exact ⟨o', by simp only [List.flatMap_cons, List.mem_append]; exact .inr h1, h2⟩
  | rnil a _ ih =>
    intro x hx
    simp only [List.flatMap_cons, MD.blk, List.nil_append] at hx
    obtain ⟨o', h1, h2⟩ := ih x hx
    exact ⟨o', by simp only [List.flatMap_cons, List.mem_append]; exact .inr h1, h2⟩
  | none _ ih =>
    intro x hx
    simp only [List.flatMap_cons, MD.blk, List.nil_append] at hx
    obtain ⟨o', h1, h2⟩ := ih x hx
    exact ⟨o', by simp only [List.flatMap_cons, List.mem_append]; exact .inr h1, h2⟩
theorem distinct_mem {l m : List Nat} (h : distinct (l ++ m) = true) {n : Nat} (hn : n ∈ m) : n ∉ l := fun hl => (distinct_append h).2.2 n hl hn
theorem apart_mem {l m : List Nat} (h : apart l m = true) {n : Nat} (hn : n ∈ l) : n ∉ m := by
  intro hm
  have := List.all_eq_true.1 h n hn
  simp only [Bool.not_eq_true'] at this
  have h2 : m.any (Nat.beq n) = true := List.any_eq_true.2 ⟨n, hm, Nat.beq_refl n⟩
  rw [this] at h2; cases h2

variable {P : Program} {f : FuncId} {R : Type} {Kk : List Upd → VV → List Loc → Option R} {l : List Loc} {r : R}
theorem PostOk.mono {ok ok' : Nat → Prop} (hok : ∀ b, ok b → ok' b) {ds : List MD} {ps : List Po} (h : PostOk ok w ds ps) : PostOk ok' w ds ps := by
  induction h with
  | nil => exact .nil
  | box p q _ ih => exact .box (p.mono hok (fun _ _ => rfl)) q ih
  | row p q _ ih => exact .row (p.mono hok (fun _ _ => rfl) rfl) q ih
  | gone _ ih => exact .gone ih
  | none _ ih => exact .none ih
theorem PostOk.flat {ok ok' : Nat → Prop} {ds : List MD} {ps : List Po} (hf : ps.all Po.flat = true) (h : PostOk ok w ds ps) : PostOk ok' w ds ps := by
  induction h with
  | nil => exact .nil
  | box p q _ ih =>
    simp only [List.all_cons, Bool.and_eq_true] at hf
    exact .box (imm_flat hf.1 p) q (ih hf.2)
  | row p q _ ih =>
    simp only [List.all_cons, Bool.and_eq_true] at hf
    refine .row (fun i hi => ?_) q (ih hf.2)
    obtain ⟨ds, hd, hj⟩ := p i hi
    exact ⟨ds, imm_flat hf.1 hd, hj⟩
  | gone _ ih =>
    simp only [List.all_cons, Bool.and_eq_true] at hf
    exact .gone (ih hf.2)
  | none _ ih =>
    simp only [List.all_cons, Bool.and_eq_true] at hf
    exact .none (ih hf.2)
theorem dedup_sub : ∀ (ns : List Nat) (n : Nat), n ∈ dedup ns → n ∈ ns
  | [], n, h => h
  | m :: ns, n, h => by
    simp only [dedup] at h
    cases hb : ns.any (Nat.beq m) with
    | true => rw [hb] at h; exact List.mem_cons_of_mem _ (dedup_sub ns n h)
    | false =>
      rw [hb] at h
      cases h with
      | head => exact List.mem_cons_self
      | tail _ h => exact List.mem_cons_of_mem _ (dedup_sub ns n h)
def tailM (nm : Nat → Nat) (out : List (Bool × List RC)) (ps : List Po) (p : List Upd × List Upd) (ns : List Nat) : RP :=
  freshAll (layRes nm 0 out).2 (bif outShared out || !ps.all Po.flat then freezeR (dedup ns) fun u => doneU (u ++ p.2 ++ p.1 ++ (layRes nm 0 out).2) (resVal (layRes nm 0 out).1)
      else doneU (p.2 ++ p.1 ++ (layRes nm 0 out).2) (resVal (layRes nm 0 out).1))
theorem callM_box {nm : Nat → Nat} {t : Ty} {k : El t → MSpec} {v : V1} {vs : List V1} {ns : List Nat} {ms : List Mref} (h : (callM nm (.box t k) (v :: vs) ns ms).run st Kk l = some r) : ∃ o, v = ⟨false, [.ptr o 0]⟩ := by
  rcases v with ⟨ag, cs⟩
  cases ag with
  | true => simp [callM, RP.run] at h
  | false => cases cs with
    | nil => simp [callM, RP.run] at h
    | cons c cs => cases cs with
      | cons _ _ => simp [callM, RP.run] at h
      | nil => cases c with
        | ptr o f => cases f with
          | zero => exact ⟨o, rfl⟩
          | succ f => simp [callM, RP.run] at h
        | _ => simp [callM, RP.run] at h
theorem callM_row {nm : Nat → Nat} {e : TypeId} {t : Ty} {k : List (El t) → MSpec} {v : V1} {vs : List V1} {ns : List Nat} {ms : List Mref} (h : (callM nm (.row e t k) (v :: vs) ns ms).run st Kk l = some r) :
    v = ⟨false, [.nilS]⟩ ∨ ∃ o, v = ⟨false, [.row o none none]⟩ := by
  rcases v with ⟨ag, cs⟩
  cases ag with
  | true => simp [callM, RP.run] at h
  | false => cases cs with
    | nil => simp [callM, RP.run] at h
    | cons c cs => cases cs with
      | cons _ _ => cases c <;> simp [callM, RP.run] at h
      | nil => cases c with
        | nilS => exact .inl rfl
        | row o lo hi => cases lo with
          | none => cases hi with
            | none => exact .inr ⟨o, rfl⟩
            | some b => simp [callM, RP.run] at h
          | some a => simp [callM, RP.run] at h
        | _ => simp [callM, RP.run] at h
theorem lensR_run : ∀ (ms : List Mref) (ps : List Po) (k : RP) (l : List Loc), (lensR ms ps k).run st Kk l = some r → k.run st Kk l = some r ∧ postVs ms ps = postUs ms ps := by
  intro ms
  induction ms with
  | nil => intro ps k l h; cases ps <;> exact ⟨h, rfl⟩
  | cons m ms ih =>
    intro ps k l h
    cases ps with
    | nil => exact ⟨by cases m <;> exact h, rfl⟩
    | cons p ps =>
      have key : (k.run st Kk l = some r ∧ postVs ms ps = postUs ms ps) ∧ postV m p = postU m p := by
        cases m with
        | box o t => cases p <;> exact ⟨ih _ _ _ h, rfl⟩
        | none => cases p with
          | box _ _ => exact ⟨ih _ _ _ h, rfl⟩
          | gone => exact ⟨ih _ _ _ h, rfl⟩
          | row t ys =>
            simp only [lensR, RP.run] at h
            cases hc : Nat.beq ys.length 0 with
            | false => rw [hc] at h; cases h
            | true => rw [hc] at h; exact ⟨ih _ _ _ h, by simp [postV, postU, hc]⟩
        | row o e t n => cases p with
          | box _ _ => exact ⟨ih _ _ _ h, rfl⟩
          | gone => exact ⟨ih _ _ _ h, rfl⟩
          | row t' ys =>
            simp only [lensR, RP.run] at h
            cases hc : Nat.beq ys.length n with
            | false => rw [hc] at h; cases h
            | true => rw [hc] at h; exact ⟨ih _ _ _ h, by simp [postV, postU, hc]⟩
      refine ⟨key.1.1, ?_⟩
      simp only [postVs, postUs, key.2, key.1.2]
theorem callM_sound {nm : Nat → Nat} : ∀ (s : MSpec) (vs : List V1) (ns : List Nat) (ms : List Mref) (l : List Loc), (callM nm s vs ns ms).run st Kk l = some r → RowNames st.heap ns →
    ∃ out ps p ns' ms' l', (tailM nm out ps p (ns ++ ns')).run st Kk l' = some r ∧ RowNames st.heap (ns ++ ns') ∧ distinct ((ms ++ ms').flatMap Mref.names) = true ∧ apart (ns ++ ns') ((ms ++ ms').flatMap Mref.names) = true ∧
      postUs (ms ++ ms') ps = some p ∧
      ∀ {E saved a S w w0 K ok Vs pre ds}, RelE E st saved a S w w0 K → (∀ b, okN E ns' b → ok b) → (∀ o ∈ ms'.flatMap Mref.names, Live st.heap o → E.has o → ¬ ok (E.ρ o).1) → All2 (V1Rel E st.heap w) vs Vs →
        MRefs E st.heap ms ds → MOk P f ok w s pre ds → ∃ ds', MRefs E st.heap (ms ++ ms') (ds ++ ds') ∧
        Calls P f (pre ++ Vs).toArray w fun e w' => ∃ V, e = .returned V ∧ RetM ok w w' out V (ds ++ ds') ps := by
  intro s
  induction s with
  | body o out post =>
    intro vs ns ms l h hns
    cases vs with
    | cons v vs => simp [callM, RP.run] at h
    | nil =>
      simp only [callM] at h
      cases hc : (distinct (ms.flatMap Mref.names) && apart ns (ms.flatMap Mref.names)) with
      | false => rw [hc] at h; cases h
      | true =>
        rw [hc] at h
        simp only [cond_true] at h
        simp only [Bool.and_eq_true] at hc
        cases o with
        | none => cases h
        | some a =>
          simp only [RP.run] at h
          obtain ⟨h, hpe⟩ := lensR_run _ _ _ _ h
          rw [hpe] at h
          cases hp : postUs ms (post a) with
          | none => rw [hp] at h; exact absurd h (by intro h; cases h)
          | some p =>
            rw [hp] at h
            refine ⟨out a, post a, p, [], [], l, by rw [List.append_nil]; exact h, by simpa using hns, by simpa using hc.1, by simpa using hc.2, by simpa using hp, fun {E saved a' S w w0 K ok Vs pre ds} hr hok hsep hv hm hs => ⟨[], by simpa using hm, ?_⟩⟩
            cases hv
            simp only [List.append_nil]
            exact hs a rfl
  | imm t k ih =>
    intro vs ns ms l h hns
    cases vs with
    | nil => simp [callM, RP.run] at h
    | cons v vs =>
      simp only [callM] at h
      cases hag : (bif v.agg then t.agg else !t.agg) with
      | false => rw [hag] at h; cases h
      | true =>
        rw [hag] at h
        simp only [cond_true] at h
        obtain ⟨x, rest, ns1, l1, h1, hns1, hx⟩ := immR_sound _ _ _ _ h
        cases rest with
        | cons _ _ => cases h1
        | nil =>
          obtain ⟨out, ps, p, ns', ms', l2, h2, h3, h4, h5, h6, hcall⟩ := ih x vs (ns ++ ns1) ms l1 h1 (hns.append hns1)
          refine ⟨out, ps, p, ns1 ++ ns', ms', l2, by rw [← List.append_assoc]; exact h2, by rw [← List.append_assoc]; exact h3, h4, by rw [← List.append_assoc]; exact h5, h6, fun {E saved a' S w w0 K ok Vs pre ds} hr hok hsep hv hm hs => ?_⟩
          cases hv with
          | @cons _ V _ Vs' pv q =>
            have harg : ImmArg ok w t x V := by
              obtain ⟨us, hus, hV⟩ := pv
              obtain ⟨v1, v2, e1, hi, hv2⟩ := hx hr hus
              cases hv2
              rw [List.append_nil] at e1
              subst e1
              refine ⟨us, hi.mono (fun b hb => hok b (okN_left b hb)) (fun _ _ => rfl), ?_⟩
              rcases hV with ⟨h1, h2⟩ | ⟨h1, h2⟩
              · rw [h1] at hag; exact .inl ⟨hag, h2⟩
              · rw [h1] at hag; exact .inr ⟨by simpa using hag, h2⟩
            obtain ⟨ds', hd, hc⟩ := hcall hr (fun b hb => hok b (okN_right b hb)) hsep q hm (hs x V harg)
            exact ⟨ds', hd, by rwa [List.append_assoc] at hc⟩
  | box t k ih =>
    intro vs ns ms l h hns
    cases vs with
    | nil => simp [callM, RP.run] at h
    | cons v vs =>
      obtain ⟨o, rfl⟩ := callM_box h
      simp only [callM, RP.run] at h
      cases hg : hget st.heap o with
      | none => rw [hg] at h; cases h
      | some b =>
        rw [hg] at h
        cases b with
        | box cs =>
          simp only at h
          obtain ⟨x, rest, ns1, l1, h1, hns1, hx⟩ := immR_sound _ _ _ _ h
          cases rest with
          | cons _ _ => cases h1
          | nil =>
            obtain ⟨out, ps, p, ns', ms', l2, h2, h3, h4, h5, h6, hcall⟩ := ih x vs (ns ++ ns1) (ms ++ [.box o t]) l1 h1 (hns.append hns1)
            rw [List.append_assoc] at h2 h3 h5
            rw [List.append_assoc, List.singleton_append] at h4 h5 h6
            refine ⟨out, ps, p, ns1 ++ ns', .box o t :: ms', l2, h2, h3, h4, h5, h6, fun {E saved a' S w w0 K ok Vs pre ds} hr hok hsep hv hm hs => ?_⟩
            cases hv with
            | @cons _ V _ Vs' pv q =>
              obtain ⟨n, hsh1, hV⟩ := V1Rel.one pv
              obtain ⟨hh, us, hus, hcell⟩ := hr.ob o _ hg
              obtain ⟨v1, v2, e1, hi, hv2⟩ := hx hr hus
              cases hv2
              rw [List.append_nil] at e1
              subst e1
              have hl : Live st.heap o := by unfold Live; rw [hg]; trivial
              have hlen : cs.length = t.sz := by rw [hus.length, hi.len]
              have hnb : (E.ρ o).1 ∉ ds.flatMap MD.blk := by
                intro hb
                obtain ⟨o', g1, g2, g3, g4⟩ := hm.blk _ hb
                have hne : o ≠ o' := by
                  rintro rfl
                  rw [List.flatMap_append] at h4
                  exact distinct_mem h4 (by simp [Mref.names]) g1
                exact hr.dj o o' hne hl g3 hh g2 g4
              have := hs x (E.ρ o).1 (E.ρ o).2 us (hi.mono (fun b hb => hok b (okN_left b hb)) (fun _ _ => rfl)) hcell (hr.bd o (by rw [hg]; rfl) hh) (hsep o (by simp [Mref.names]) hl hh) hnb
              obtain ⟨ds', hd, hc⟩ := hcall hr (fun b hb => hok b (okN_right b hb)) (fun o' ho' => hsep o' (by simp only [List.flatMap_cons, List.mem_append]; exact .inr ho')) q (hm.append (.box hh hg hlen .nil)) this
              refine ⟨.box (E.ρ o).1 (E.ρ o).2 :: ds', ?_, ?_⟩
              · simpa using hd
              · have e0 : V = .pointer (some ⟨(E.ρ o).1, (E.ρ o).2, none⟩) := by simpa using hV
                rw [e0]
                simpa using hc
        | _ => cases h
  | row e t k ih =>
    intro vs ns ms l h hns
    cases vs with
    | nil => simp [callM, RP.run] at h
    | cons v vs =>
      rcases callM_row h with rfl | ⟨o, rfl⟩
      · simp only [callM] at h
        obtain ⟨out, ps, p, ns', ms', l2, h2, h3, h4, h5, h6, hcall⟩ := ih [] vs ns (ms ++ [.none]) l h hns
        rw [List.append_assoc, List.singleton_append] at h4 h5 h6
        refine ⟨out, ps, p, ns', .none :: ms', l2, h2, h3, h4, h5, h6, fun {E saved a' S w w0 K ok Vs pre ds} hr hok hsep hv hm hs => ?_⟩
        cases hv with
        | @cons _ V _ Vs' pv q =>
          have hV : V = .slice none 0 0 := V1Rel.one pv
          obtain ⟨ds', hd, hc⟩ := hcall hr hok (fun o' ho' => hsep o' (by simp only [List.flatMap_cons, List.mem_append]; exact .inr ho')) q (hm.append (.none .nil)) (hs.1 none)
          refine ⟨.nil :: ds', by simpa using hd, ?_⟩
          rw [hV]
          simpa using hc
      · simp only [callM, RP.run] at h
        cases hg : hget st.heap o with
        | none => rw [hg] at h; cases h
        | some b =>
          rw [hg] at h
          cases b with
          | row e' t' xs own =>
            cases own with
            | false => cases h
            | true =>
              simp only at h
              cases hb : Nat.beq e e' with
              | false => rw [hb] at h; cases h
              | true =>
                rw [hb] at h
                simp only [cond_true] at h
                have he := Nat.eq_of_beq_eq_true hb
                subst he
                split at h
                · rename_i ys hy
                  obtain ⟨rfl, rfl⟩ := castList_some hy
                  simp only at h
                  obtain ⟨out, ps, p, ns', ms', l2, h2, h3, h4, h5, h6, hcall⟩ := ih xs vs ns (ms ++ [.row o e t' xs.length]) _ h hns
                  rw [List.append_assoc, List.singleton_append] at h4 h5 h6
                  refine ⟨out, ps, p, ns', .row o e t' xs.length :: ms', l2, h2, h3, h4, h5, h6, fun {E saved a' S w w0 K ok Vs pre ds} hr hok hsep hv hm hs => ?_⟩
                  cases hv with
                  | @cons _ V _ Vs' pv q =>
                    have hl : Live st.heap o := by unfold Live; rw [hg]; trivial
                    have hs1 : hsh st.heap o = some (.row e t' xs.length) := by simp [hsh, hg, shape]
                    have hc := V1Rel.one pv
                    simp only [CellRel, hs1] at hc
                    obtain ⟨_, A, c, hV, hle, hx⟩ := hc
                    simp only [cutLen, lo0, Nat.sub_zero] at hV hle
                    have hx : c = 0 ∨ (0 < c ∧ E.has o ∧ A = some ⟨(E.ρ o).1, (E.ρ o).2 + lo0 none * t'.sz, none⟩ ∧ Room w (E.ρ o).1 ((E.ρ o).2 + (lo0 none + c) * t'.sz)) := by
                      rcases Nat.eq_zero_or_pos c with hc0 | hc0
                      · exact .inl hc0
                      · exact hx.imp id fun h => ⟨hc0, h⟩
                    rcases hx with rfl | ⟨hc0, hh, hA, hR⟩
                    · have hx0 : xs = [] := List.length_eq_zero_iff.1 (by omega)
                      subst hx0
                      obtain ⟨ds', hd, hc⟩ := hcall hr hok (fun o' ho' => hsep o' (by simp only [List.flatMap_cons, List.mem_append]; exact .inr ho')) q (hm.append (.rnil hg .nil)) (hs.1 A)
                      refine ⟨.nil :: ds', by simpa using hd, ?_⟩
                      rw [hV]
                      simpa using hc
                    · obtain ⟨_, hob⟩ := hr.ob o _ hg
                      obtain ⟨hat, hnf, _⟩ := hob hh
                      have hnb : (E.ρ o).1 ∉ ds.flatMap MD.blk := by
                        intro hb
                        obtain ⟨o', g1, g2, g3, g4⟩ := hm.blk _ hb
                        have hne : o ≠ o' := by
                          rintro rfl
                          rw [List.flatMap_append] at h4
                          exact distinct_mem h4 (by simp [Mref.names]) g1
                        exact hr.dj o o' hne hl g3 hh g2 g4
                      have hA' : A = some ⟨(E.ρ o).1, (E.ρ o).2, none⟩ := by rw [hA]; simp [lo0]
                      have hR' : Room w (E.ρ o).1 ((E.ρ o).2 + c * t'.sz) := by simpa [lo0] using hR
                      have := hs.2 xs (E.ρ o).1 (E.ρ o).2 c hle hc0 (hat.mono (fun b hb => hok b (.inl hb)) (fun _ _ => rfl) rfl) (hnf rfl) hR' (hr.bd o (by rw [hg]; rfl) hh) (hsep o (by simp [Mref.names]) hl hh) hnb
                      obtain ⟨ds', hd, hc⟩ := hcall hr hok (fun o' ho' => hsep o' (by simp only [List.flatMap_cons, List.mem_append]; exact .inr ho')) q (hm.append (.row (c := c) hh hg .nil)) this
                      refine ⟨.row (E.ρ o).1 (E.ρ o).2 c :: ds', by simpa using hd, ?_⟩
                      rw [hV, hA']
                      simpa using hc
                · cases h
          | _ => cases h

theorem explode_len {h : Heap} {t : Ty} {y : El t} {ok : Nat → Prop} {ds : List Value} (hi : Imm ok w t y ds) : (explode t y).length = t.sz := by
  have := (explode_rel (E := ⟨fun _ => (0, 0), fun _ => False, ok⟩) (h := h) hi).length
  rw [this, hi.len]
theorem postUs_names : ∀ (ms : List Mref) (ps : List Po) (p : List Upd × List Upd), postUs ms ps = some p → ∀ x ∈ p.1 ++ p.2, x.name ∈ ms.flatMap Mref.names
  | [], [], p, h, x, hx => by cases h; cases hx
  | [], _ :: _, p, h, x, hx => by cases h
  | _ :: _, [], p, h, x, hx => by cases h
  | m :: ms, q :: ps, p, h, x, hx => by
    simp only [postUs] at h
    split at h
    · rename_i a ha
      split at h
      · rename_i b hb
        cases h
        have ih := postUs_names ms ps b hb
        have h1 : ∀ y ∈ a.1 ++ a.2, y.name ∈ m.names := by
          intro y hy
          unfold postU at ha
          split at ha
          · split at ha
            · cases ha; simp at hy; subst hy; simp [Mref.names, Upd.name]
            · cases ha
          · split at ha
            · rename_i o e t n t' ys ht
              cases hq : Nat.beq ys.length n with
              | false => rw [hq] at ha; cases ha
              | true => rw [hq] at ha; cases ha; simp at hy; subst hy; simp [Mref.names, Upd.name]
            · cases ha
          · cases ha; simp at hy; subst hy; simp [Mref.names, Upd.name]
          · rename_i t' ys
            cases hq : Nat.beq ys.length 0 with
            | false => rw [hq] at ha; cases ha
            | true => rw [hq] at ha; cases ha; simp at hy
          · cases ha; simp at hy
          · cases ha
        simp only [List.flatMap_cons, List.mem_append] at *
        rcases hx with (hx | hx) | (hx | hx)
        · exact .inl (h1 x (.inl hx))
        · exact .inr (ih x (.inl hx))
        · exact .inl (h1 x (.inr hx))
        · exact .inr (ih x (.inr hx))
      · cases h
    · cases h
theorem postUs_kills : ∀ (ms : List Mref) (ps : List Po) (p : List Upd × List Upd) {h : Heap} {ds : List MD}, postUs ms ps = some p → MRefs E h ms ds →
    ∀ x ∈ p.2, ∃ n e t xs own, x = .o n .dead ∧ hget h n = some (.row e t xs own)
  | [], [], p, _, _, h, _, x, hx => by cases h; cases hx
  | [], _ :: _, p, _, _, h, _, x, hx => by cases h
  | _ :: _, [], p, _, _, h, _, x, hx => by cases h
  | m :: ms, q :: ps, p, hh, _, h, hm, x, hx => by
    simp only [postUs] at h
    split at h
    · rename_i a ha
      split at h
      · rename_i b hb
        cases h
        simp only [List.mem_append] at hx
        rcases hx with hx | hx
        · cases hm with
          | box g1 g2 g3 g4 => cases q <;> simp only [postU] at ha <;> first | cases ha | skip
                               split at ha
                               · cases ha; cases hx
                               · cases ha
          | row g1 g2 g3 => cases q with
            | gone => simp only [postU] at ha; cases ha; simp at hx; subst hx; exact ⟨_, _, _, _, _, rfl, g2⟩
            | row t' ys =>
              simp only [postU] at ha
              split at ha
              · cases hq : Nat.beq ys.length _ with
                | false => rw [hq] at ha; cases ha
                | true => rw [hq] at ha; cases ha; cases hx
              · cases ha
            | box _ _ => simp only [postU] at ha; cases ha
          | rnil g2 g3 => cases q with
            | gone => simp only [postU] at ha; cases ha; simp at hx; subst hx; exact ⟨_, _, _, _, _, rfl, g2⟩
            | row t' ys =>
              simp only [postU] at ha
              split at ha
              · cases hq : Nat.beq ys.length 0 with
                | false => rw [hq] at ha; cases ha
                | true => rw [hq] at ha; cases ha; cases hx
              · cases ha
            | box _ _ => simp only [postU] at ha; cases ha
          | none g => cases q with
            | gone => simp only [postU] at ha; cases ha; cases hx
            | row t' ys =>
              simp only [postU] at ha
              cases hq : Nat.beq ys.length 0 with
              | false => rw [hq] at ha; cases ha
              | true => rw [hq] at ha; cases ha; cases hx
            | box _ _ => simp only [postU] at ha; cases ha
        · cases hm with
          | box g1 g2 g3 g4 => exact postUs_kills ms ps b hb g4 x hx
          | row g1 g2 g3 => exact postUs_kills ms ps b hb g3 x hx
          | rnil g2 g3 => exact postUs_kills ms ps b hb g3 x hx
          | none g => exact postUs_kills ms ps b hb g x hx
      · cases h
    · cases h

def mn : List Mref → List MD → List Nat
  | m :: ms, d :: ds => (match d with | .nil => [] | _ => m.names) ++ mn ms ds
  | _, _ => []
theorem mn_sub {h : Heap} {ms : List Mref} {ds : List MD} (p : MRefs E h ms ds) : ∀ n ∈ mn ms ds, n ∈ ms.flatMap Mref.names := by
  induction p with
  | nil => intro n hn; cases hn
  | box _ _ _ _ ih =>
    intro n hn
    simp only [mn, List.mem_append, List.flatMap_cons] at *
    exact hn.imp id (ih n)
  | row _ _ _ ih =>
    intro n hn
    simp only [mn, List.mem_append, List.flatMap_cons] at *
    exact hn.imp id (ih n)
  | rnil _ _ ih =>
    intro n hn
    simp only [mn, List.nil_append, List.flatMap_cons, List.mem_append] at *
    exact .inr (ih n hn)
  | none _ ih =>
    intro n hn
    simp only [mn, List.nil_append, List.flatMap_cons, List.mem_append] at *
    exact .inr (ih n hn)
theorem blk_mn {h : Heap} {ms : List Mref} {ds : List MD} (p : MRefs E h ms ds) : ∀ b ∈ ds.flatMap MD.blk, ∃ o ∈ mn ms ds, E.has o ∧ Live h o ∧ b = (E.ρ o).1 := by
  induction p with
  | nil => intro b hb; simp at hb
  | @box o t cs ms ds a b c _ ih =>
    intro x hx
    simp only [List.flatMap_cons, MD.blk, List.cons_append, List.nil_append, List.mem_cons] at hx
    rcases hx with rfl | hx
    · exact ⟨o, by simp [mn, Mref.names], a, by unfold Live; rw [b]; trivial, rfl⟩
    · obtain ⟨o', h1, h2⟩ := ih x hx
      exact ⟨o', by simp only [mn, List.mem_append]; exact .inr h1, h2⟩
  | @row o e t xs c ms ds a b _ ih =>
    intro x hx
    simp only [List.flatMap_cons, MD.blk, List.cons_append, List.nil_append, List.mem_cons] at hx
    rcases hx with rfl | hx
    · exact ⟨o, by simp [mn, Mref.names], a, by unfold Live; rw [b]; trivial, rfl⟩
    · obtain ⟨o', h1, h2⟩ := ih x hx
      exact ⟨o', by simp only [mn, List.mem_append]; exact .inr h1, h2⟩
  | rnil a _ ih =>
    intro x hx
    simp only [List.flatMap_cons, MD.blk, List.nil_append] at hx
    obtain ⟨o', h1, h2⟩ := ih x hx
    exact ⟨o', by simpa [mn] using h1, h2⟩
  | none _ ih =>
    intro x hx
    simp only [List.flatMap_cons, MD.blk, List.nil_append] at hx
    obtain ⟨o', h1, h2⟩ := ih x hx
    exact ⟨o', by simpa [mn] using h1, h2⟩
theorem postUs_posts {ok' : Nat → Prop} {E2 : Env} (hρ : E2.ρ = E.ρ) (hhas : E2.has = E.has) (hok : ∀ b, ok' b → E2.ok b) : ∀ (ms : List Mref) (ps : List Po) (p : List Upd × List Upd) {h : Heap} {ds : List MD}, postUs ms ps = some p → MRefs E h ms ds → PostOk ok' w' ds ps →
    distinct (ms.flatMap Mref.names) = true → ∀ n ob', Upd.o n ob' ∈ p.1 → ∃ ob, hget h n = some ob ∧ shape ob' = shape ob ∧ Live h n ∧ ((∀ h', ObjRel E2 h' w' n ob') ∨ (ob' = ob ∧ n ∉ mn ms ds))
  | [], [], p, _, _, h, _, _, _, n, ob', hx => by cases h; cases hx
  | [], _ :: _, p, _, _, h, _, _, _, n, ob', hx => by cases h
  | _ :: _, [], p, _, _, h, _, _, _, n, ob', hx => by cases h
  | m :: ms, q :: ps, p, hh, _, h, hm, hpo, hdis, n, ob', hx => by
    simp only [postUs] at h
    split at h
    · rename_i a ha
      split at h
      · rename_i b hb
        cases h
        simp only [List.mem_append] at hx
        rw [List.flatMap_cons] at hdis
        obtain ⟨hd1, hd2, hd3⟩ := distinct_append hdis
        -- further ones
        have later : ∀ {d ds'}, MRefs E hh ms ds' → PostOk ok' w' ds' ps → (Upd.o n ob' ∈ b.1) → (∀ k ∈ (match d with | MD.nil => [] | _ => m.names), k ∈ m.names) →
            ∃ ob, hget hh n = some ob ∧ shape ob' = shape ob ∧ Live hh n ∧ ((∀ h', ObjRel E2 h' w' n ob') ∨ (ob' = ob ∧ n ∉ mn (m :: ms) (d :: ds'))) := by
          intro d ds' g1 g2 g3 g4
          obtain ⟨ob, k1, k2, k3, k4⟩ := postUs_posts hρ hhas hok ms ps b hb g1 g2 hd2 n ob' g3
          refine ⟨ob, k1, k2, k3, k4.imp id fun ⟨e1, e2⟩ => ⟨e1, fun hk => ?_⟩⟩
          have hnm := postUs_names ms ps b hb _ (List.mem_append.2 (.inl g3))
          simp only [mn, List.mem_append] at hk
          rcases hk with hk | hk
          · exact hd3 n (g4 n hk) hnm
          · exact e2 hk
        cases hm with
        | @box o t cs _ ds' g1 g2 g3 g4 =>
          cases hpo with
          | @box _ _ _ y _ _ vs p1 p2 p3 =>
            rcases hx with hx | hx
            · simp only [postU] at ha
              split at ha
              · rename_i ht
                subst ht
                cases ha
                simp only [List.mem_singleton] at hx
                injection hx with e1 e2
                subst e1; subst e2
                refine ⟨_, g2, ?_, by unfold Live; rw [g2]; trivial, .inl fun h' => ⟨by rw [hhas]; exact g1, vs, explode_rel (p1.mono hok (fun _ _ => rfl)), ?_⟩⟩
                · have := explode_len (h := []) p1
                  simp only [shape, this, g3]
                · rw [hρ]; exact p2
              · cases ha
            · exact later g4 p3 hx (fun k hk => hk)
          | gone p3 =>
            rcases hx with hx | hx
            · simp only [postU] at ha; cases ha
            · exact later g4 p3 hx (fun k hk => hk)
        | @row o e t xs c _ ds' g1 g2 g3 =>
          cases hpo with
          | @row _ _ _ _ ys _ _ p1 p2 p3 =>
            rcases hx with hx | hx
            · simp only [postU] at ha
              split at ha
              · rename_i ht
                subst ht
                cases hq : Nat.beq ys.length xs.length with
                | false => rw [hq] at ha; cases ha
                | true =>
                  rw [hq] at ha
                  cases ha
                  simp only [List.mem_singleton] at hx
                  injection hx with e1 e2
                  subst e1; subst e2
                  refine ⟨_, g2, ?_, by unfold Live; rw [g2]; trivial, .inl fun h' => ⟨.inl (by rw [hhas]; exact g1), fun _ => ⟨?_, fun _ => by rw [hρ]; exact p2, fun e => by cases e⟩⟩⟩
                  · simp only [shape, Nat.eq_of_beq_eq_true hq]
                  · rw [hρ]; exact p1.mono hok (fun _ _ => rfl) rfl
              · cases ha
            · exact later g3 p3 hx (fun k hk => hk)
          | gone p3 =>
            rcases hx with hx | hx
            · simp only [postU] at ha; cases ha; cases hx
            · exact later g3 p3 hx (fun k hk => hk)
        | @rnil o e t _ ds' g2 g3 =>
          cases hpo with
          | @none t' ys _ _ p3 =>
            rcases hx with hx | hx
            · simp only [postU] at ha
              split at ha
              · rename_i ht
                subst ht
                cases hq : Nat.beq ys.length 0 with
                | false => rw [hq] at ha; cases ha
                | true =>
                  rw [hq] at ha
                  cases ha
                  simp only [List.mem_singleton] at hx
                  injection hx with e1 e2
                  have hy : ys = [] := List.length_eq_zero_iff.1 (Nat.eq_of_beq_eq_true hq)
                  subst hy
                  subst e1; subst e2
                  refine ⟨_, g2, rfl, by unfold Live; rw [g2]; trivial, .inr ⟨rfl, fun hk => ?_⟩⟩
                  simp only [mn, List.nil_append] at hk
                  exact hd3 n (by simp [Mref.names]) (mn_sub g3 n hk)
              · cases ha
            · exact later g3 p3 hx (fun k hk => by cases hk)
          | gone p3 =>
            rcases hx with hx | hx
            · simp only [postU] at ha; cases ha; cases hx
            · exact later g3 p3 hx (fun k hk => by cases hk)
        | @none _ ds' g =>
          cases hpo with
          | @none t' ys _ _ p3 =>
            rcases hx with hx | hx
            · simp only [postU] at ha
              cases hq : Nat.beq ys.length 0 with
              | false => rw [hq] at ha; cases ha
              | true => rw [hq] at ha; cases ha; cases hx
            · exact later g p3 hx (fun k hk => by cases hk)
          | gone p3 =>
            rcases hx with hx | hx
            · simp only [postU] at ha; cases ha; cases hx
            · exact later g p3 hx (fun k hk => by cases hk)
      · cases h
    · cases h

theorem MRefs.stay {E' : Env} {h h' : Heap} {ms : List Mref} {ds : List MD} (p : MRefs E h ms ds) (hρ : ∀ o ∈ ms.flatMap Mref.names, E'.ρ o = E.ρ o ∧ (E.has o → E'.has o)) (hh : ∀ o ∈ ms.flatMap Mref.names, hget h' o = hget h o) : MRefs E' h' ms ds := by
  induction p with
  | nil => exact .nil
  | @box o t cs ms ds a b c _ ih =>
    have h1 := hρ o (by simp [Mref.names])
    have := MRefs.box (E := E') (h := h') (h1.2 a) ((hh o (by simp [Mref.names])).trans b) c (ih (fun o ho => hρ o (by simp only [List.flatMap_cons, List.mem_append]; exact .inr ho)) (fun o ho => hh o (by simp only [List.flatMap_cons, List.mem_append]; exact .inr ho)))
    rwa [h1.1] at this
  | @row o e t xs c ms ds a b _ ih =>
    have h1 := hρ o (by simp [Mref.names])
    have := MRefs.row (E := E') (h := h') (c := c) (h1.2 a) ((hh o (by simp [Mref.names])).trans b) (ih (fun o ho => hρ o (by simp only [List.flatMap_cons, List.mem_append]; exact .inr ho)) (fun o ho => hh o (by simp only [List.flatMap_cons, List.mem_append]; exact .inr ho)))
    rwa [h1.1] at this
  | @rnil o e t ms ds b _ ih =>
    exact .rnil ((hh o (by simp [Mref.names])).trans b) (ih (fun o ho => hρ o (by simp only [List.flatMap_cons, List.mem_append]; exact .inr ho)) (fun o ho => hh o (by simp only [List.flatMap_cons, List.mem_append]; exact .inr ho)))
  | none _ ih => exact .none (ih (fun o ho => hρ o (by simpa [Mref.names] using ho)) (fun o ho => hh o (by simpa [Mref.names] using ho)))
theorem gone_kill : ∀ (ms : List Mref) (ps : List Po) (p : List Upd × List Upd) {h : Heap} {ds : List MD}, postUs ms ps = some p → MRefs E h ms ds → ∀ b ∈ goneB ds ps, ∃ n, Upd.o n .dead ∈ p.2 ∧ E.has n ∧ b = (E.ρ n).1 ∧ ∃ e t xs, hget h n = some (.row e t xs true)
  | [], [], p, _, _, h, hm, b, hb => by cases hm; cases hb
  | [], _ :: _, p, _, _, h, _, b, hb => by cases h
  | _ :: _, [], p, _, _, h, _, b, hb => by cases h
  | m :: ms, q :: ps, p, hh, _, h, hm, b, hb => by
    simp only [postUs] at h
    split at h
    · rename_i a ha
      split at h
      · rename_i b' hb'
        cases h
        have later : ∀ {ds'}, MRefs E hh ms ds' → b ∈ goneB ds' ps → ∃ n, Upd.o n .dead ∈ a.2 ++ b'.2 ∧ E.has n ∧ b = (E.ρ n).1 ∧ ∃ e t xs, hget hh n = some (.row e t xs true) := by
          intro ds' g1 g2
          obtain ⟨n, k1, k2⟩ := gone_kill ms ps b' hb' g1 b g2
          exact ⟨n, List.mem_append.2 (.inr k1), k2⟩
        cases q with
        | gone =>
          cases hm with
          | box g1 g2 g3 g4 => simp only [postU] at ha; cases ha
          | @row o e t xs c _ ds' g1 g2 g3 =>
            simp only [postU] at ha
            cases ha
            simp only [goneB, MD.blk, List.singleton_append, List.mem_cons] at hb
            rcases hb with rfl | hb
            · exact ⟨o, by simp, g1, rfl, e, t, xs, g2⟩
            · exact later g3 hb
          | rnil g2 g3 => simp only [goneB, MD.blk, List.nil_append] at hb; exact later g3 hb
          | none g => simp only [goneB, MD.blk, List.nil_append] at hb; exact later g hb
        | box t' y => cases hm <;> (simp only [goneB] at hb; first | exact later (by assumption) hb)
        | row t' ys => cases hm <;> (simp only [goneB] at hb; first | exact later (by assumption) hb)
      · cases h
    · cases h

theorem postUs_cover : ∀ (ms : List Mref) (ps : List Po) (p : List Upd × List Upd) {h : Heap} {ds : List MD}, postUs ms ps = some p → MRefs E h ms ds → ∀ o ∈ mn ms ds, o ∈ p.1.map Upd.name ∨ o ∈ p.2.map Upd.name
  | [], [], p, _, _, h, hm, b, hb => by cases hm; cases hb
  | [], _ :: _, p, _, _, h, _, b, hb => by cases h
  | _ :: _, [], p, _, _, h, _, b, hb => by cases h
  | m :: ms, q :: ps, p, hh, _, h, hm, b, hb => by
    simp only [postUs] at h
    split at h
    · rename_i a ha
      split at h
      · rename_i b' hb'
        cases h
        have later : ∀ {ds'}, MRefs E hh ms ds' → b ∈ mn ms ds' → b ∈ (a.1 ++ b'.1).map Upd.name ∨ b ∈ (a.2 ++ b'.2).map Upd.name := by
          intro ds' g1 g2
          rw [List.map_append, List.map_append]
          exact (postUs_cover ms ps b' hb' g1 b g2).imp (fun h => List.mem_append.2 (.inr h)) (fun h => List.mem_append.2 (.inr h))
        cases hm with
        | @box o t cs _ ds' g1 g2 g3 g4 =>
          simp only [mn, Mref.names, List.singleton_append, List.mem_cons] at hb
          rcases hb with rfl | hb
          · cases q with
            | box t' y =>
              simp only [postU] at ha
              split at ha
              · cases ha; exact .inl (by simp [Upd.name])
              · cases ha
            | row _ _ => simp only [postU] at ha; cases ha
            | gone => simp only [postU] at ha; cases ha
          · exact later g4 hb
        | @row o e t xs c _ ds' g1 g2 g3 =>
          simp only [mn, Mref.names, List.singleton_append, List.mem_cons] at hb
          rcases hb with rfl | hb
          · cases q with
            | box _ _ => simp only [postU] at ha; cases ha
            | row t' ys =>
              simp only [postU] at ha
              split at ha
              · cases hq : Nat.beq ys.length xs.length with
                | false => rw [hq] at ha; cases ha
                | true => rw [hq] at ha; cases ha; exact .inl (by simp [Upd.name])
              · cases ha
            | gone => simp only [postU] at ha; cases ha; exact .inr (by simp [Upd.name])
          · exact later g3 hb
        | rnil g2 g3 => simp only [mn, List.nil_append] at hb; exact later g3 hb
        | none g => simp only [mn, List.nil_append] at hb; exact later g hb
      · cases h
    · cases h
theorem live_upds {us : List Upd} {st : St} {n : Nat} (hn : n ∉ us.map Upd.name) (h : Live (st.upds us).heap n) : Live st.heap n := by
  unfold Live at h ⊢
  rwa [hget_upds us st n hn] at h

theorem s_callM {cfg : Cfg} {o : Oper} (hG : Ok P cfg) (h : RelE E st saved a S w w0 K) {c : Call} {nm : Nat → Nat} (ho : o.op = .call c) (hc : c.callee = .value (.func f))
    (hrun : (rdArgs c.args.toList fun vs => match look cfg.mspec f with
    | some s => callM nm s vs [] []
    | none => .fail).run st Kk l = some r) : Goes P o a w st saved S w0 K Kk r := by
  obtain ⟨vs, l1, h1, h2⟩ := run_rdArgs _ _ _ hrun
  have hv := h2 h
  cases hs : look cfg.mspec f with
  | none => rw [hs] at h1; cases h1
  | some s =>
    rw [hs] at h1
    obtain ⟨out, ps, p, ns, ms, l2, h3, hns, hdis, hap, hpost, hcall⟩ := callM_sound (P := P) (f := f) s vs [] [] l1 h1 (fun n hn => by cases hn)
    simp only [List.nil_append] at h3 hns hdis hap hpost hcall
    have hlt : ∀ b, okN E ns b → b < w.heap.size := by
      rintro b (hb | ⟨n, hn, hh, rfl⟩)
      · exact h.bo b hb
      · obtain ⟨e, t, xs, own, hg⟩ := hns n hn
        exact h.bd n (by rw [hg]; rfl) hh
    have hsep : ∀ o ∈ ms.flatMap Mref.names, Live st.heap o → E.has o → ¬ okN E ns (E.ρ o).1 := by
      rintro o ho hl hh (hb | ⟨n, hn, hh', e⟩)
      · exact (h.dk o hl hh).1 hb
      · have hne : o ≠ n := fun e => apart_mem hap hn (e ▸ ho)
        obtain ⟨e', t, xs, own, hg⟩ := hns n hn
        cases own with
        | true => exact h.dj o n hne hl (by unfold Live; rw [hg]; trivial) hh hh' e
        | false => exact (h.dk o hl hh).1 (e ▸ ((h.ob n _ hg).2 hh').2.2 rfl)
    obtain ⟨ds, hmr, hC⟩ := hcall h (fun b hb => hb) hsep hv .nil (hG.mspec f s hs (okN E ns) w hlt)
    simp only [List.nil_append] at hmr hC
    have hex := call_exec (P := P) (w := w) (ρ := a.eval) ho hc (cap := #[]) rfl (hG.enterM f (by rw [hs]; rfl))
    have harr : (c.args.toList.map a.eval).toArray = c.args.map a.eval ++ #[] := by
      apply Array.toList_inj.1; simp
    rw [harr] at hC
    unfold tailM at h3
    obtain ⟨hfr, l3, h4⟩ := run_freshAll _ _ _ h3
    have fin : ∀ (u : List Upd) (l4 : List Loc), (doneU (u ++ p.2 ++ p.1 ++ (layRes nm 0 out).2) (resVal (layRes nm 0 out).1)).run st Kk l4 = some r → FrzOk st.heap u → (∀ x ∈ u, x.name ∈ ns) →
        (∀ (good : Nat → Prop) (w' : World), (∀ (Vs : List Value) (bs : List Nat), ResRel (fun b => okN E ns b ∨ good b) w' out Vs bs → ResRel (fun b => okU E u b ∨ good b) w' out Vs bs) ∧
          (∀ ds, PostOk (fun b => okN E ns b ∨ good b) w' ds ps → PostOk (fun b => okU E u b ∨ good b) w' ds ps)) → Goes P o a w st saved S w0 K Kk r := by
      intro u l4 h5 hfrz huns himp
      obtain ⟨hd, hK⟩ := run_doneU h5
      rw [List.map_append, List.map_append, List.map_append] at hd
      obtain ⟨hd123, hd4, hdj4⟩ := distinct_append hd
      obtain ⟨hd12, hd3, hdj3⟩ := distinct_append hd123
      obtain ⟨hd1, hd2, hdj2⟩ := distinct_append hd12
      refine ⟨_, _, _, hK, fun Q next hnx => ?_⟩
      unfold Oper.wp
      rw [hex, Oper.upon_enter]
      refine Calls.mono hC fun e w' hR => ?_
      obtain ⟨V, rfl, hret⟩ := hR
      obtain ⟨good, Vs, bs, hgood, hres, hnd, hbs, rfl, hpo⟩ := hret.res
      obtain ⟨E1, r1, e1, e2, e3⟩ := h.frzs u hfrz hd1
      have hnm1 : ∀ o ∈ ms.flatMap Mref.names, o ∉ u.map Upd.name := fun o ho hu => by
        obtain ⟨x, hx, e⟩ := List.mem_map.1 hu
        exact apart_mem hap (huns x hx) (e ▸ ho)
      have hmr1 : MRefs E1 (st.upds u).heap ms ds := hmr.stay (fun o ho => ⟨by rw [e1], fun hh => by rw [e2]; exact hh⟩) (fun o ho => hget_upds u st o (hnm1 o ho))
      -- what is gone
      have hk2 := postUs_kills ms ps p hpost hmr1
      have r2 := r1.kills p.2 hd2 hk2
      have dead2 : ∀ n ∈ p.2.map Upd.name, ¬ Live ((st.upds u).upds p.2).heap n := by
        intro n hn hl
        obtain ⟨ob, hob⟩ := mem_upd hn
        obtain ⟨m, e', t', xs', own', e4, _⟩ := hk2 _ hob
        injection e4 with e5 e6
        subst e5; subst e6
        unfold Live at hl
        rw [hget_upds_mem p.2 (st.upds u) _ _ hd2 hob] at hl
        exact hl
      have live2 : ∀ n, Live ((st.upds u).upds p.2).heap n → n ∉ p.2.map Upd.name ∧ Live (st.upds u).heap n := fun n hl => ⟨fun hn => dead2 n hn hl, live_upds (fun hn => dead2 n hn hl) hl⟩
      obtain ⟨himp1, himp2⟩ := himp good w'
      have hpo2 := himp2 ds hpo
      have hposts := postUs_posts (E := E1) (E2 := ⟨E1.ρ, E1.has, fun b => E1.ok b ∨ good b⟩) rfl rfl (ok' := fun b => okU E u b ∨ good b) (fun b hb => hb.imp (fun hb => (e3 b).1 hb) id) ms ps p hpost hmr1 hpo2 hdis
      have n13 : ∀ n ∈ p.1.map Upd.name, n ∉ p.2.map Upd.name := fun n hn hn2 => hdj3 n (List.mem_append.2 (.inr hn2)) hn
      have hblk := blk_mn hmr1
      have r3 := r2.afterM p.1 (fun b => b ∈ ds.flatMap MD.blk) hd3 (fun n ob' hx => by
          obtain ⟨ob, k1, k2, k3, _⟩ := hposts n ob' hx
          have hn : n ∈ p.1.map Upd.name := List.mem_map.2 ⟨_, hx, rfl⟩
          refine ⟨ob, (hget_upds p.2 _ n (n13 n hn)).trans k1, k2, ?_⟩
          unfold Live at k3 ⊢
          rwa [hget_upds p.2 _ n (n13 n hn)]) (fun n hl hh hCn => by
          obtain ⟨o', m1, m2, m3, m4⟩ := hblk _ hCn
          obtain ⟨g1, g2⟩ := live2 n hl
          have e5 : n = o' := by
            rcases Classical.em (n = o') with e | e
            · exact e
            · exact absurd m4 (r1.dj n o' e g2 m3 hh m2)
          subst e5
          exact (postUs_cover ms ps p hpost hmr1 n m1).resolve_right g1) (fun b hb => by
          obtain ⟨o', m1, m2, m3, rfl⟩ := hblk _ hb
          exact r1.dk o' m3 m2) hret.size (fun b hb hnb => hret.same b hb hnb) hret.room hret.os hret.tape hret.put good hgood (fun n ob' hx h' hst => by
          obtain ⟨ob, k1, k2, k3, k4⟩ := hposts n ob' hx
          have hn : n ∈ p.1.map Upd.name := List.mem_map.2 ⟨_, hx, rfl⟩
          rcases k4 with k4 | ⟨rfl, k4⟩
          · exact k4 h'
          · have hg2 : hget ((st.upds u).upds p.2).heap n = some ob' := (hget_upds p.2 _ n (n13 n hn)).trans k1
            refine (r2.ob n ob' hg2).step hst (by rw [hg2]; rfl) (fun hh => hh) (fun hh => hret.same _ (r2.bd n (by rw [hg2]; rfl) hh) (fun hb => ?_))
            obtain ⟨o', m1, m2, m3, m4⟩ := hblk _ hb
            have hne : n ≠ o' := fun e => k4 (e ▸ m1)
            exact r1.dj n o' hne k3 m3 hh m2 m4)
      have live3 : ∀ n, Live (((st.upds u).upds p.2).upds p.1).heap n → Live ((st.upds u).upds p.2).heap n := by
        intro n hl
        by_cases hn : n ∈ p.1.map Upd.name
        · obtain ⟨ob', hob⟩ := mem_upd hn
          obtain ⟨ob, k1, k2, k3, _⟩ := hposts n ob' hob
          unfold Live at k3 ⊢
          rwa [hget_upds p.2 _ n (n13 n hn)]
        · exact live_upds hn hl
      obtain ⟨E', r4, hV, _⟩ := layRes_sound out 0 (ok := fun b => okU E u b ∨ good b) r3 (fun n hn => by
        rw [hget_upds p.1 _ n (fun hm => hdj4 n (List.mem_append.2 (.inr hm)) hn), hget_upds p.2 _ n (fun hm => hdj4 n (List.mem_append.2 (.inl (List.mem_append.2 (.inr hm)))) hn), hget_upds u st n (fun hm => hdj4 n (List.mem_append.2 (.inl (List.mem_append.2 (.inl hm)))) hn)]
        exact hfr n hn) hd4 (himp1 _ _ hres) (fun b hb => hb.imp (fun hb => (e3 b).1 hb) id) hnd (fun b hb => by
          rcases hbs b hb with ⟨g1, g2, g3⟩ | hgone
          · refine ⟨fun n hl hh => ?_, ?_, fun hk => ?_, g2⟩
            · have := r2.bd n (live_isSome (live3 n hl)) hh
              exact Nat.ne_of_lt (Nat.lt_of_lt_of_le this g1)
            · rintro (hk | hk)
              · exact absurd (r1.bo b hk) (Nat.not_lt.2 g1)
              · exact g3 hk
            · exact absurd (r1.kp b hk).1 (Nat.not_lt.2 g1)
          · obtain ⟨n, k1, k2, rfl, e', t', xs', k3⟩ := gone_kill ms ps p hpost hmr1 b hgone
            have hln : Live (st.upds u).heap n := by unfold Live; rw [k3]; trivial
            obtain ⟨d1, d2⟩ := r1.dk n hln k2
            have hbd := r1.bd n (by rw [k3]; rfl) k2
            refine ⟨fun m hl hh => ?_, ?_, d2, Nat.lt_of_lt_of_le hbd hret.size⟩
            · obtain ⟨g1, g2⟩ := live2 m (live3 m hl)
              have hne : m ≠ n := fun e => g1 (by rw [e]; exact List.mem_map.2 ⟨_, k1, rfl⟩)
              exact r1.dj m n hne g2 hln hh k2
            · rintro (hk | hk)
              · exact d1 hk
              · exact absurd hbd (Nat.not_lt.2 (hgood _ hk).1))
      refine hnx _ _ E' ?_
      rw [upds_append, upds_append, upds_append]
      exact r4.put o.dst (resVal_rel hV)
    cases hsh : (outShared out || !ps.all Po.flat) with
    | true =>
      rw [hsh] at h4
      simp only [cond_true] at h4
      obtain ⟨u, l4, h5, hfrz, hnames⟩ := run_freezeR _ _ _ h4
      have hmem : ∀ n ∈ ns, n ∈ u.map Upd.name := fun n hn => by rw [hnames]; exact mem_dedup ns n hn
      have hsub : ∀ b, okN E ns b → okU E u b := by
        rintro b (hb | ⟨n, hn, hh, rfl⟩)
        · exact .inl hb
        · obtain ⟨x, hx, hxn⟩ := List.mem_map.1 (hmem n hn)
          obtain ⟨n', ob⟩ := x
          have e : n' = n := hxn
          subst e
          exact .inr ⟨n', ob, hx, hh, rfl⟩
      refine fin u l4 h5 hfrz (fun x hx => ?_) fun good w' => ⟨fun Vs bs hres => hres.imp fun _ _ rc _ v bs hrc => hrc.mono fun b hb => hb.imp (hsub b) id, fun ds hp => hp.mono fun b hb => hb.imp (hsub b) id⟩
      have : x.name ∈ dedup ns := by rw [← hnames]; exact List.mem_map.2 ⟨x, hx, rfl⟩
      exact dedup_sub ns _ this
    | false =>
      rw [hsh] at h4
      simp only [cond_false] at h4
      simp only [Bool.or_eq_false_iff, Bool.not_eq_false'] at hsh
      refine fin [] l3 h4 (fun x hx => by cases hx) (fun x hx => by cases hx) fun good w' => ⟨fun Vs bs hres => hres.imp fun x hx rc hrc v bs hr => hr.flat ?_, fun ds hp => hp.flat hsh.2⟩
      have hsh1 := hsh.1
      unfold outShared at hsh1
      have h6 := List.any_eq_false.1 hsh1 x hx
      have h7 : x.2.any RC.shared = false := by simpa using h6
      have := List.any_eq_false.1 h7 rc hrc
      simpa using this
end
end Go.Vm
end

section
namespace Go.Vm
open Go
section
variable {P : Program} {cfg : Cfg} {E : Env} {st : St} {saved : List (Nat × List VV)} {a : Act} {S : List (Array Value)} {w w0 : World} {K : Keep}
  {R : Type} {Kk : List Upd → VV → List Loc → Option R} {l : List Loc} {r : R} {o : Oper}

theorem s_alloc_ptr (h : RelE E st saved a S w w0 K) {T : TypeId} {n0 n1 : Nat} (ho : o.op = .alloc T) {zv : Value} (hp : ∃ i, P.info? T = some i ∧ i.size = 1 ∧ i.zero = some zv) (hzv : zv = .pointer none ∨ zv = .map none)
    (hrun : (fresh n1 (fresh n0 (doneU [.o n1 .dead, .o n0 (.box [.eptr n1 0 0])] (one (.ptr n0 0))))).run st Kk l = some r) : Goes P o a w st saved S w0 K Kk r := by
  obtain ⟨hn1, l1, h1⟩ := run_fresh hrun
  obtain ⟨hn0, l2, h2⟩ := run_fresh h1
  obtain ⟨hd, hK⟩ := run_doneU h2
  simp only [List.map_cons, List.map_nil, Upd.name] at hd
  have hne : n1 ≠ n0 := by
    obtain ⟨g1, _⟩ := distinct_cons hd
    simpa using g1
  obtain ⟨i, hi, hs, hz⟩ := hp
  have r1 := h.named hn1 (0, 0) False .dead (fun f => f.elim) trivial
  have hst := step_at (st := st) (E := E) (w := w) hn1 (0, 0) False .dead
  have hn0' : hget (hset st.heap n1 .dead) n0 = none := by rw [hget_hset, if_neg (Ne.symm hne)]; exact hn0
  have hcs : All2 (CellRel (E.at n1 (0, 0) False) (hset st.heap n1 .dead) w) [.eptr n1 0 0] [zv] := by
    refine .cons ?_ .nil
    have : hsh (hset st.heap n1 .dead) n1 = some .dead := by rw [hsh_hset, if_pos rfl]; rfl
    simp only [CellRel, this]
    rcases hzv with rfl | rfl <;> rfl
  obtain ⟨hr, hc⟩ := new_box r1 (nm := n0) hn0' hcs T
  refine ⟨_, _, l2, hK, fun Q next hnx => OpRes.wp ⟨.pointer (some ⟨w.heap.size, 0, none⟩), _, _, .inl ?_, hr, VRel.one hc⟩ Q next hnx⟩
  rcases hzv with rfl | rfl <;> simp [execOp, ho, Instr.alloc, zeroValue, typeInfo, hi, hz, newVar, newRow, Value.cells]
theorem s_opN (hG : Ok P cfg) (h : RelE E st saved a S w w0 K) {nm : Nat → Nat} (hrun : (opN cfg nm o).run st Kk l = some r) : Goes P o a w st saved S w0 K Kk r := by
  have G := hG.toGood
  unfold opN at hrun
  split at hrun
  · exact s_move h (.inl ‹_›) hrun
  · exact s_move h (.inr ‹_›) hrun
  · exact s_pick h ‹_› hrun
  · rename_i T ho
    cases hT : look cfg.tab T with
    | some t =>
      rw [hT] at hrun
      exact s_alloc G h ho hT hrun
    | none =>
      rw [hT] at hrun
      simp only at hrun
      cases hp : cfg.ptrs.any (Nat.beq T) with
      | false =>
        rw [hp] at hrun
        simp only [cond_false] at hrun
        split at hrun
        · rename_i t hm
          exact s_alloc_ptr h ho (G.map T t hm).info (.inr rfl) hrun
        · cases hrun
      | true =>
        rw [hp] at hrun
        exact s_alloc_ptr h ho (G.ptr T hp).info (.inl rfl) hrun
  · exact s_box h ‹_› hrun
  · exact s_build G h ‹_› hrun
  · exact s_buildSlice G h ‹_› hrun
  · exact s_load G h ‹_› hrun
  · exact s_store G h ‹_› hrun
  · exact s_nilCheck h ‹_› hrun
  · exact s_binOp G h ‹_› hrun
  · exact s_unOp h ‹_› hrun
  · exact s_convert G h ‹_› hrun
  · exact s_makeFunc h ‹_› hrun
  · exact s_makeSlice G h ‹_› hrun
  · exact s_slice G h ‹_› hrun
  · exact s_slice3 G h ‹_› hrun
  · exact s_makeMap G h ‹_› hrun
  · exact s_lookup G h ‹_› hrun
  · exact s_mapUpdate G h ‹_› hrun
  · exact s_fieldAddr G h ‹_› hrun
  · exact s_indexAddr G h ‹_› hrun
  · exact s_index G h ‹_› hrun
  · exact s_extract h ‹_› hrun
  · rename_i b args argTypes ho
    split at hrun
    · rename_i x T hargs hT
      have e1 : args = #[x] := by apply Array.toList_inj.1; rw [hargs]
      have e2 : argTypes = #[T] := by apply Array.toList_inj.1; rw [hT]
      subst e1; subst e2
      exact s_len G h ho hrun
    · rename_i b _ _ _ _
      cases b with
      | append => exact s_append G h (c := { callee := .builtin .append, args, argTypes }) ho rfl hrun
      | min => exact s_min (cfg := cfg) h (c := { callee := .builtin .min, args, argTypes }) ho rfl hrun
      | clear => exact s_clear G h (c := { callee := .builtin .clear, args, argTypes }) ho rfl hrun
      | max => exact s_max (cfg := cfg) h (c := { callee := .builtin .max, args, argTypes }) ho rfl hrun
      | _ =>
        obtain ⟨vs, l1, h1, -⟩ := run_rdArgs _ _ _ hrun
        unfold builtinRP at h1
        split at h1 <;> first | contradiction | cases h1
  · rename_i f args argTypes ho
    cases hs : look cfg.spec f with
    | some s => exact s_call hG h (c := { callee := .value (.func f), args, argTypes }) (nm := nm) (l := l) ho rfl (by simp only [hs] at hrun ⊢; exact hrun)
    | none => exact s_callM hG h (c := { callee := .value (.func f), args, argTypes }) (nm := nm) (l := l) ho rfl (by simp only [hs] at hrun; exact hrun)
  · cases hrun
theorem s_op (hG : Ok P cfg) (h : RelE E st saved a S w w0 K) {base : Nat} (hrun : (opRP cfg base o).run st Kk l = some r) : Goes P o a w st saved S w0 K Kk r := s_opN hG h hrun
end
end Go.Vm
end

section
namespace Go.Vm
open Go

theorem tset_tget : ∀ (l : List VV) (n : Nat), tset l n (tget l n) = l
  | [], n => rfl
  | x :: l, 0 => rfl
  | x :: l, n + 1 => by simp only [tget, tset, tset_tget l n]
theorem setB_same {s : St} {t : Nat} {b : Bool} (h : tget s.tmps t = .v ⟨false, [.bool b]⟩) : setB s t b = s := by
  have : one (.bool b) = tget s.tmps t := h.symm
  simp only [setB, this, tset_tget]
section
variable {P : Program} {cfg : Cfg} {E : Env} {st : St} {saved : List (Nat × List VV)} {a : Act} {S : List (Array Value)} {w w0 : World} {K : Keep}
theorem tget_some {l : List VV} {m : List Value} {r : VV → Value → Prop} (h : All2 r l m) {t : Nat} {x : VV} (hx : tget l t = x) (hne : x ≠ .un) : ∃ v, m[t]? = some v ∧ r x v := by
  induction h generalizing t with
  | nil => exact absurd hx.symm hne
  | cons p _ ih => cases t with
    | zero => simp only [tget] at hx; subst hx; exact ⟨_, rfl, p⟩
    | succ t => exact ih hx
theorem tmp_bool (h : RelE E st saved a S w w0 K) {t : Nat} {b : Bool} (hx : tget st.tmps t = .v ⟨false, [.bool b]⟩) : a.tmps[t]? = some (.bool b) := by
  obtain ⟨v, hv, hr⟩ := tget_some h.tm hx (fun e => by cases e)
  have : v = .bool b := V1Rel.one hr
  subst this
  simpa using hv
theorem tmp_undef (h : RelE E st saved a S w w0 K) {t : Nat} (hx : tget st.tmps t = .tup []) : a.tmps[t]? = some (.tuple #[]) := by
  obtain ⟨v, hv, hr⟩ := tget_some h.tm hx (fun e => by cases e)
  obtain ⟨Vs, h1, rfl⟩ := hr
  cases h1
  simpa using hv
theorem dstOf_eq (A : Array Oper) (j : Nat) : dstOf A.toList j = (A[j]?).bind (·.dst) := by
  unfold dstOf
  rw [Array.getElem?_toList]
  cases A[j]? <;> rfl

variable {R : Type} {r : R} {call : FuncId → List V1 → (VV → Ms → Option R) → Ms → Option R} {Kc : Ms → Option R} {Q : Exit → Act → World → Prop}

theorem caps_v1 {h : Heap} {caps : List Nat} {vs : List Value} (k : All2 (PtrRel E h) caps vs) : All2 (V1Rel E h w) (caps.map fun c => (⟨false, [.ptr c 0]⟩ : V1)) vs := by
  induction k with
  | nil => exact .nil
  | cons p _ ih =>
    obtain ⟨n, hs, rfl⟩ := p
    exact .cons (V1Rel.mkOne ⟨n, hs, by rw [Nat.add_zero]⟩) ih

end
end Go.Vm
end

section
namespace Go.Vm
open Go

def Agree (s s2 : St) (l : List Loc) : Prop := (∀ t, Loc.t t ∈ l → tget s2.tmps t = tget s.tmps t) ∧ (∀ n, Loc.o n ∈ l → hget s2.heap n = hget s.heap n)
theorem RP.run_inv {s : St} {R : Type} {K : List Upd → VV → List Loc → Option R} {r : R} : ∀ (p : RP) (l : List Loc), p.run s K l = some r →
    ∃ u v l', K u v l' = some r ∧ (∀ x ∈ l, x ∈ l') ∧ ∀ s2, Agree s s2 l' → ∀ {R2 : Type} (K2 : List Upd → VV → List Loc → Option R2), p.run s2 K2 l = K2 u v l' := by
  intro p
  induction p with
  | fail => intro l h; cases h
  | done e v => intro l h; exact ⟨e, v, l, h, fun _ h => h, fun s2 _ R2 K2 => rfl⟩
  | rdT t k ih =>
    intro l h
    obtain ⟨u, v, l', h1, h2, h3⟩ := ih _ _ h
    refine ⟨u, v, l', h1, fun x hx => h2 x (List.mem_cons_of_mem _ hx), fun s2 ha R2 K2 => ?_⟩
    simp only [RP.run]
    rw [ha.1 t (h2 _ List.mem_cons_self)]
    exact h3 s2 ha K2
  | rdO n k ih =>
    intro l h
    obtain ⟨u, v, l', h1, h2, h3⟩ := ih _ _ h
    refine ⟨u, v, l', h1, fun x hx => h2 x (List.mem_cons_of_mem _ hx), fun s2 ha R2 K2 => ?_⟩
    simp only [RP.run]
    rw [ha.2 n (h2 _ List.mem_cons_self)]
    exact h3 s2 ha K2
  | ite b x y ihx ihy =>
    intro l h
    cases b with
    | true => exact ihx l h
    | false => exact ihy l h
  | opt o k ih =>
    intro l h
    cases o with
    | none => cases h
    | some a => exact ih a l h

section
variable {α : Type} (f : Nat → Option α) (x0 : α)
def seqOf (L : Nat → Bool) : Nat → α
  | 0 => x0
  | k + 1 => if L k = true then (f k).getD (seqOf L k) else seqOf L k
variable {f x0}
theorem seq_same {L L' : Nat → Bool} : ∀ n, (∀ k, k < n → L k = L' k) → seqOf f x0 L n = seqOf f x0 L' n
  | 0, _ => rfl
  | n + 1, h => by
    simp only [seqOf, seq_same n (fun k hk => h k (Nat.lt_succ_of_lt hk)), h n (Nat.lt_succ_self n)]
theorem seq_agree {L : Nat → Bool} {i : Nat} (h1 : ∀ k, k < i → (f k).isSome = true → L k = true) :
    ∀ n, i ≤ n → (∀ k, i ≤ k → k < n → L k = true → f k = none) → seqOf f x0 L n = seqOf f x0 (fun _ => true) i := by
  have h0 : ∀ n, n ≤ i → seqOf f x0 L n = seqOf f x0 (fun _ => true) n := by
    intro n
    induction n with
    | zero => intro _; rfl
    | succ n ih =>
      intro hn
      simp only [seqOf, ih (by omega), if_true]
      by_cases hL : L n = true
      · rw [if_pos hL]
      · rw [if_neg hL]
        cases hf : f n with
        | none => rfl
        | some a => exact absurd (h1 n (by omega) (by rw [hf]; rfl)) hL
  intro n
  induction n with
  | zero => intro hn _; have : i = 0 := by omega
            subst this; rfl
  | succ n ih =>
    intro hn h2
    by_cases e : i = n + 1
    · subst e; exact h0 _ (Nat.le_refl _)
    · simp only [seqOf]
      rw [ih (by omega) (fun k hk hk' => h2 k hk (by omega))]
      by_cases hL : L n = true
      · rw [if_pos hL, h2 n (by omega) (by omega) hL]; rfl
      · rw [if_neg hL]
theorem seq_more {L : Nat → Bool} {i : Nat} (hi : L i = false) :
    ∀ n, i < n → (∀ k, i < k → k < n → L k = true → (f k).isSome = true → f i = none) → seqOf f x0 (fun k => L k || k == i) n = (f i).getD (seqOf f x0 L n) := by
  intro n
  induction n with
  | zero => intro h; omega
  | succ n ih =>
    intro hn h2
    by_cases e : i = n
    · subst e
      have : seqOf f x0 (fun k => L k || k == i) i = seqOf f x0 L i := seq_same i (fun k hk => by
        have : (k == i) = false := by simp; omega
        simp [this])
      simp only [seqOf, this, hi]
      simp
    · have ih' := ih (by omega) (fun k hk hk' => h2 k hk (by omega))
      have hne : (n == i) = false := by simp; omega
      simp only [seqOf, hne, Bool.or_false, ih']
      by_cases hL : L n = true
      · rw [if_pos hL, if_pos hL]
        cases hf : f n with
        | none => rfl
        | some a =>
          rw [h2 n (by omega) (by omega) hL (by rw [hf]; rfl)]
          rfl
      · rw [if_neg hL, if_neg hL]
end

structure Eff where
  l : List Loc
  d : Option Tmp
  u : List Upd
  v : VV
def Eff.app (e : Eff) (s : St) : St := putV (s.upds e.u) e.d e.v
def lastU : List Upd → Nat → Option Obj
  | [], _ => none
  | .o m o :: u, n => match lastU u n with
    | some x => some x
    | none => if n = m then some o else none
theorem hget_lastU : ∀ (u : List Upd) (s : St) (n : Nat), hget (s.upds u).heap n = match lastU u n with | some o => some o | none => hget s.heap n
  | [], s, n => rfl
  | .o m o :: u, s, n => by
    show hget ((s.upd (.o m o)).upds u).heap n = _
    rw [hget_lastU u _ n]
    simp only [lastU]
    cases lastU u n with
    | some x => rfl
    | none =>
      show hget (hset s.heap m o) n = _
      rw [hget_hset]
      split <;> rfl
theorem lastU_name : ∀ (u : List Upd) (n : Nat), (lastU u n).isSome = true → Loc.o n ∈ u.map Upd.loc
  | [], n, h => by cases h
  | .o m o :: u, n, h => by
    simp only [lastU] at h
    cases hl : lastU u n with
    | some x => exact List.mem_cons_of_mem _ (lastU_name u n (by rw [hl]; rfl))
    | none =>
      rw [hl] at h
      by_cases e : n = m
      · subst e; exact List.mem_cons_self
      · rw [if_neg e] at h; cases h
theorem tget_tset : ∀ (l : List VV) (n : Nat) (v : VV) (t : Nat), tget (tset l n v) t = if t = n ∧ n < l.length then v else tget l t
  | [], n, v, t => by simp [tset]
  | x :: l, 0, v, t => by cases t <;> simp [tset, tget]
  | x :: l, n + 1, v, t => by
    cases t with
    | zero => simp [tset, tget]
    | succ t => simp only [tset, tget, tget_tset l n v t]; simp
def Eff.fT (e : Eff) (len t : Nat) : Option VV := match e.d with
  | some d => if t = d ∧ d < len then some e.v else none
  | none => none
def Eff.fO (e : Eff) (n : Nat) : Option (Option Obj) := (lastU e.u n).map some
theorem Eff.len (e : Eff) (s : St) : (e.app s).tmps.length = s.tmps.length := by
  unfold Eff.app putV
  split
  · rw [tset_eq]; simp [upds_tmps]
  · simp [upds_tmps]
theorem Eff.tget_app (e : Eff) (s : St) (t : Nat) : tget (e.app s).tmps t = (e.fT s.tmps.length t).getD (tget s.tmps t) := by
  unfold Eff.app putV Eff.fT
  cases e.d with
  | none => simp [upds_tmps]
  | some d =>
    simp only [upds_tmps, tget_tset]
    split <;> rfl
theorem Eff.hget_app (e : Eff) (s : St) (n : Nat) : hget (e.app s).heap n = (e.fO n).getD (hget s.heap n) := by
  have : (e.app s).heap = (s.upds e.u).heap := by unfold Eff.app putV; split <;> rfl
  rw [this, hget_lastU]
  unfold Eff.fO
  cases lastU e.u n <;> rfl
def Eff.wrs (e : Eff) : List Loc := (match e.d with | some d => [.t d] | none => []) ++ e.u.map Upd.loc
theorem Eff.fT_wrs {e : Eff} {len t : Nat} (h : (e.fT len t).isSome = true) : Loc.t t ∈ e.wrs := by
  unfold Eff.fT at h
  unfold Eff.wrs
  cases hd : e.d with
  | none => rw [hd] at h; cases h
  | some d =>
    rw [hd] at h
    simp only at h
    split at h
    · rename_i hc
      rw [hc.1]
      simp
    · cases h
theorem Eff.fO_wrs {e : Eff} {n : Nat} (h : (e.fO n).isSome = true) : Loc.o n ∈ e.wrs := by
  unfold Eff.fO at h
  exact List.mem_append.2 (.inr (lastU_name e.u n (by simpa using h)))

def stOf (e : Nat → Eff) (s0 : St) (L : Nat → Bool) : Nat → St
  | 0 => s0
  | k + 1 => if L k = true then (e k).app (stOf e s0 L k) else stOf e s0 L k
section
variable {e : Nat → Eff} {s0 : St}
theorem stOf_len (L : Nat → Bool) : ∀ n, (stOf e s0 L n).tmps.length = s0.tmps.length
  | 0 => rfl
  | n + 1 => by
    simp only [stOf]
    split
    · rw [Eff.len, stOf_len L n]
    · exact stOf_len L n
theorem stOf_tget (L : Nat → Bool) (t : Nat) : ∀ n, tget (stOf e s0 L n).tmps t = seqOf (fun k => (e k).fT s0.tmps.length t) (tget s0.tmps t) L n
  | 0 => rfl
  | n + 1 => by
    simp only [stOf, seqOf]
    by_cases hL : L n = true
    · rw [if_pos hL, if_pos hL, Eff.tget_app, stOf_len, stOf_tget L t n]
    · rw [if_neg hL, if_neg hL, stOf_tget L t n]
theorem stOf_hget (L : Nat → Bool) (m : Nat) : ∀ n, hget (stOf e s0 L n).heap m = seqOf (fun k => (e k).fO m) (hget s0.heap m) L n
  | 0 => rfl
  | n + 1 => by
    simp only [stOf, seqOf]
    by_cases hL : L n = true
    · rw [if_pos hL, if_pos hL, Eff.hget_app, stOf_hget L m n]
    · rw [if_neg hL, if_neg hL, stOf_hget L m n]
end
theorem tmps_ext : ∀ {l m : List VV}, l.length = m.length → (∀ t, tget l t = tget m t) → l = m
  | [], [], _, _ => rfl
  | [], _ :: _, h, _ => by simp at h
  | _ :: _, [], h, _ => by simp at h
  | x :: l, y :: m, h, k => by
    have h1 := k 0
    simp only [tget] at h1
    rw [h1, tmps_ext (by simpa using h) (fun t => k (t + 1))]

section
variable {E : Env} {st st' : St} {saved : List (Nat × List VV)} {a : Act} {S : List (Array Value)} {w w0 : World} {K : Keep}
theorem hsh_ext {h h' : Heap} (k : ∀ n, hget h' n = hget h n) (n : Nat) : hsh h' n = hsh h n := by simp [hsh, k n]
theorem Step.ext {h h' : Heap} (k : ∀ n, hget h' n = hget h n) : Step E E h h' w w :=
  ⟨fun _ _ => rfl, fun _ _ h => h, fun _ h => h, fun _ _ => rfl, fun _ _ h => h, fun n s hs => .inl (by rw [hsh_ext k]; exact hs)⟩
theorem RelE.ext (h : RelE E st saved a S w w0 K) (ht : st'.tmps = st.tmps) (k : ∀ n, hget st'.heap n = hget st.heap n) : RelE E st' saved a S w w0 K := by
  have hs : Step E E st.heap st'.heap w w := Step.ext k
  have hl : ∀ n, Live st'.heap n → Live st.heap n := fun n hn => by unfold Live at hn ⊢; rwa [k n] at hn
  refine ⟨by rw [ht]; exact tm_step hs h.tm, h.df, h.sv.mono fun _ _ q => tm_step hs q, fun n o hn => ?_, fun n n' hne h1 h2 => h.dj n n' hne (hl n h1) (hl n' h2), fun n hn => h.dk n (hl n hn), fun n hn => h.bd n (by rw [← k n]; exact hn), h.bo, h.kp, h.os, h.tape, h.out, h.size, h.oz, h.rm⟩
  rw [k n] at hn
  exact (h.ob n o hn).step hs (by rw [hn]; rfl) (fun h => h) (fun _ => rfl)
end
end Go.Vm
end

section
namespace Go.Vm
open Go

theorem Loc.eqb_iff {x y : Loc} : Loc.eqb x y = true ↔ x = y := by
  cases x <;> cases y <;> simp only [Loc.eqb] <;> constructor <;> intro h
  · rw [Nat.eq_of_beq_eq_true h]
  · cases h; exact Nat.beq_refl _
  · cases h
  · cases h
  · cases h
  · cases h
  · rw [Nat.eq_of_beq_eq_true h]
  · cases h; exact Nat.beq_refl _
theorem meets_of {a b : List Loc} {x : Loc} (h1 : x ∈ a) (h2 : x ∈ b) : meets a b = true :=
  List.any_eq_true.2 ⟨x, h1, List.any_eq_true.2 ⟨x, h2, Loc.eqb_iff.2 rfl⟩⟩

def PairOk (ops : List Oper) (x y : Tr) : Prop := (meets x.wrs y.rds = false ∧ meets x.wrs y.wrs = false ∧ meets x.rds y.wrs = false) ∨ aheadIn ops ops.length y.i x.i = true
theorem apartAll_cons {ops : List Oper} {x : Tr} {r : List Tr} (h : apartAll ops (x :: r) = true) : (∀ y ∈ r, PairOk ops x y) ∧ apartAll ops r = true := by
  simp only [apartAll, Bool.and_eq_true] at h
  refine ⟨fun y hy => ?_, h.2⟩
  have := List.all_eq_true.1 h.1 y hy
  simp only [Bool.or_eq_true, Bool.and_eq_true, Bool.not_eq_true'] at this
  exact this.imp (fun h => ⟨h.1.1, h.1.2, h.2⟩) id
def trs : Nat → List Eff → List Tr → List Tr
  | _, [], tr => tr
  | i, e :: es, tr => trs (i + 1) es (⟨i, e.l, e.wrs⟩ :: tr)
def eff0 : Eff := ⟨[], none, [], .un⟩
theorem apart_trs {ops : List Oper} : ∀ (es : List Eff) (i : Nat) (tr : List Tr), apartAll ops (trs i es tr) = true →
    apartAll ops tr = true ∧ (∀ k, k < es.length → ∀ y ∈ tr, PairOk ops ⟨i + k, (es.getD k eff0).l, (es.getD k eff0).wrs⟩ y) ∧
    ∀ j k, j < k → k < es.length → PairOk ops ⟨i + k, (es.getD k eff0).l, (es.getD k eff0).wrs⟩ ⟨i + j, (es.getD j eff0).l, (es.getD j eff0).wrs⟩
  | [], i, tr, h => ⟨h, fun k hk => by simp at hk, fun j k _ hk => by simp at hk⟩
  | e :: es, i, tr, h => by
    obtain ⟨h1, h2, h3⟩ := apart_trs es (i + 1) _ h
    obtain ⟨h4, h5⟩ := apartAll_cons h1
    refine ⟨h5, fun k hk y hy => ?_, fun j k hjk hk => ?_⟩
    · cases k with
      | zero => exact h4 y hy
      | succ k =>
        have := h2 k (by simpa using hk) y (List.mem_cons_of_mem _ hy)
        rwa [show i + 1 + k = i + (k + 1) by omega] at this
    · cases k with
      | zero => omega
      | succ k => cases j with
        | zero =>
          have := h2 k (by simpa using hk) _ List.mem_cons_self
          rwa [show i + 1 + k = i + (k + 1) by omega] at this
        | succ j =>
          have := h3 j k (by omega) (by simpa using hk)
          rwa [show i + 1 + k = i + (k + 1) by omega, show i + 1 + j = i + (j + 1) by omega] at this

def Does (cfg : Cfg) (base : Nat) (o : Oper) (s2 : St) (e : Eff) : Prop :=
  ∃ l0, ∀ {R2 : Type} (K2 : List Upd → VV → List Loc → Option R2), (opRP cfg base o).run s2 K2 l0 = K2 e.u e.v e.l
def OpAt (cfg : Cfg) (base : Nat) (A : Array Oper) (o : Oper) (s : St) (e : Eff) : Prop :=
  ∀ s2, Agree s s2 e.l → match o.guard with
    | none => Does cfg base o s2 e
    | some (j, want) => ∃ t, (A[j]?).bind (·.dst) = some t ∧ ((∃ b, tget s2.tmps t = .v ⟨false, [.bool b]⟩ ∧ ((b = want ∧ Does cfg base o s2 e) ∨ (b ≠ want ∧ e.u = [] ∧ e.v = .tup []))) ∨ (tget s2.tmps t = .tup [] ∧ e.u = [] ∧ e.v = .tup []))
section
variable {cfg : Cfg} {R : Type} {r : R} {call : FuncId → List V1 → (VV → Ms → Option R) → Ms → Option R} {Kc : Ms → Option R}
theorem ops_draw_inv (A : Array Oper) : ∀ (rest : List Oper) (i : Nat) (tr : List Tr) (m : Ms), execOps cfg true A.toList call Kc rest i tr m = some r →
    ∃ es : List Eff, es.length = rest.length ∧ Kc { m with st := es.foldl (fun s e => e.app s) m.st } = some r ∧ apartAll A.toList (trs i es tr) = true ∧ backOk 0 A.toList = true ∧
      ∀ k, k < rest.length → ∃ o, rest[k]? = some o ∧ (es.getD k eff0).d = o.dst ∧ OpAt cfg m.base A o ((es.take k).foldl (fun s e => e.app s) m.st) (es.getD k eff0) := by
  intro rest
  induction rest with
  | nil =>
    intro i tr m h
    simp only [execOps, cond_true] at h
    cases hb : apartAll A.toList tr && backOk 0 A.toList with
    | false => rw [hb] at h; cases h
    | true =>
      rw [hb] at h
      simp only [Bool.and_eq_true] at hb
      exact ⟨[], rfl, h, hb.1, hb.2, fun k hk => by simp at hk⟩
  | cons o rest ih =>
    intro i tr m h
    have more : ∀ (e : Eff), e.d = o.dst → OpAt cfg m.base A o m.st e → execOps cfg true A.toList call Kc rest (i + 1) (⟨i, e.l, e.wrs⟩ :: tr) { m with st := e.app m.st } = some r →
        ∃ es : List Eff, es.length = (o :: rest).length ∧ Kc { m with st := es.foldl (fun s e => e.app s) m.st } = some r ∧ apartAll A.toList (trs i es tr) = true ∧ backOk 0 A.toList = true ∧
          ∀ k, k < (o :: rest).length → ∃ o', (o :: rest)[k]? = some o' ∧ (es.getD k eff0).d = o'.dst ∧ OpAt cfg m.base A o' ((es.take k).foldl (fun s e => e.app s) m.st) (es.getD k eff0) := by
      intro e hd hat h1
      obtain ⟨es, h2, h3, h4, h5, h6⟩ := ih _ _ _ h1
      refine ⟨e :: es, by simp [h2], h3, h4, h5, fun k hk => ?_⟩
      cases k with
      | zero => exact ⟨o, rfl, hd, hat⟩
      | succ k =>
        obtain ⟨o', h7, h8, h9⟩ := h6 k (by simpa using hk)
        exact ⟨o', by simpa using h7, by simpa using h8, by simpa using h9⟩
    have plain : ∀ {l}, (opRP cfg m.base o).run m.st (fun u v l' => execOps cfg true A.toList call Kc rest (i + 1)
        (⟨i, l', (match o.dst with | some d => [.t d] | none => []) ++ u.map Upd.loc⟩ :: tr) { m with st := putV (m.st.upds u) o.dst v }) l = some r →
        ∃ e : Eff, e.d = o.dst ∧ (∀ x ∈ l, x ∈ e.l) ∧ (∀ s2, Agree m.st s2 e.l → Does cfg m.base o s2 e) ∧ execOps cfg true A.toList call Kc rest (i + 1) (⟨i, e.l, e.wrs⟩ :: tr) { m with st := e.app m.st } = some r := by
      intro l h1
      obtain ⟨u, v, l', h2, h3, h4⟩ := RP.run_inv _ _ h1
      exact ⟨⟨l', o.dst, u, v⟩, rfl, h3, fun s2 ha => ⟨l, fun K2 => h4 s2 ha K2⟩, h2⟩
    have act : ∀ {l}, (match o.op with
      | .call { callee := .value (.func f), args, .. } => (match look cfg.inl f with
        | none => (opRP cfg m.base o).run m.st (fun u v l' => execOps cfg true A.toList call Kc rest (i + 1)
            (⟨i, l', (match o.dst with | some d => [.t d] | none => []) ++ u.map Upd.loc⟩ :: tr) { m with st := putV (m.st.upds u) o.dst v }) l
        | some _ => none)
      | .call { callee := .value (.tmp t), args, .. } => (match tget m.st.tmps t with
        | .v ⟨false, [.fn f caps]⟩ => none
        | _ => none)
      | _ => (opRP cfg m.base o).run m.st (fun u v l' => execOps cfg true A.toList call Kc rest (i + 1)
            (⟨i, l', (match o.dst with | some d => [.t d] | none => []) ++ u.map Upd.loc⟩ :: tr) { m with st := putV (m.st.upds u) o.dst v }) l) = some r →
        ∃ e : Eff, e.d = o.dst ∧ (∀ x ∈ l, x ∈ e.l) ∧ (∀ s2, Agree m.st s2 e.l → Does cfg m.base o s2 e) ∧ execOps cfg true A.toList call Kc rest (i + 1) (⟨i, e.l, e.wrs⟩ :: tr) { m with st := e.app m.st } = some r := by
      intro l h1
      split at h1
      · split at h1
        · exact plain h1
        · cases h1
      · split at h1 <;> cases h1
      · exact plain h1
    have skip : ∀ {l}, execOps cfg true A.toList call Kc rest (i + 1) (⟨i, l, match o.dst with | some d => [.t d] | none => []⟩ :: tr) { m with st := putV m.st o.dst (.tup []) } = some r →
        execOps cfg true A.toList call Kc rest (i + 1) (⟨i, l, (⟨l, o.dst, [], .tup []⟩ : Eff).wrs⟩ :: tr) { m with st := (⟨l, o.dst, [], .tup []⟩ : Eff).app m.st } = some r := by
      intro l h1
      have : (⟨l, o.dst, [], .tup []⟩ : Eff).wrs = (match o.dst with | some d => [.t d] | none => []) := by unfold Eff.wrs; cases o.dst <;> rfl
      rw [this]
      exact h1
    unfold execOps at h
    simp only [frc_eq] at h
    simp only [cond_true] at h
    cases hgd : o.guard with
    | none =>
      rw [hgd] at h
      obtain ⟨e, h1, h2, h3, h4⟩ := act h
      exact more e h1 (fun s2 ha => by rw [hgd]; exact h3 s2 ha) h4
    | some gw =>
      obtain ⟨j, want⟩ := gw
      rw [hgd] at h
      simp only [dstOf_eq] at h
      cases hd : (A[j]?).bind (·.dst) with
      | none => rw [hd] at h; cases h
      | some t =>
        rw [hd] at h
        simp only at h
        split at h
        · rename_i b ht
          have acted : b = want → (∃ e : Eff, e.d = o.dst ∧ (∀ x ∈ [Loc.t t], x ∈ e.l) ∧ (∀ s2, Agree m.st s2 e.l → Does cfg m.base o s2 e) ∧ execOps cfg true A.toList call Kc rest (i + 1) (⟨i, e.l, e.wrs⟩ :: tr) { m with st := e.app m.st } = some r) →
              ∃ es : List Eff, es.length = (o :: rest).length ∧ Kc { m with st := es.foldl (fun s e => e.app s) m.st } = some r ∧ apartAll A.toList (trs i es tr) = true ∧ backOk 0 A.toList = true ∧
                ∀ k, k < (o :: rest).length → ∃ o', (o :: rest)[k]? = some o' ∧ (es.getD k eff0).d = o'.dst ∧ OpAt cfg m.base A o' ((es.take k).foldl (fun s e => e.app s) m.st) (es.getD k eff0) := by
            rintro hw ⟨e, h1, h2, h3, h4⟩
            refine more e h1 (fun s2 ha => ?_) h4
            rw [hgd]
            exact ⟨t, hd, .inl ⟨b, by rw [ha.1 t (h2 _ List.mem_cons_self), ht], .inl ⟨hw, h3 s2 ha⟩⟩⟩
          have skipped : b ≠ want → execOps cfg true A.toList call Kc rest (i + 1) (⟨i, [Loc.t t], match o.dst with | some d => [.t d] | none => []⟩ :: tr) { m with st := putV m.st o.dst (.tup []) } = some r →
              ∃ es : List Eff, es.length = (o :: rest).length ∧ Kc { m with st := es.foldl (fun s e => e.app s) m.st } = some r ∧ apartAll A.toList (trs i es tr) = true ∧ backOk 0 A.toList = true ∧
                ∀ k, k < (o :: rest).length → ∃ o', (o :: rest)[k]? = some o' ∧ (es.getD k eff0).d = o'.dst ∧ OpAt cfg m.base A o' ((es.take k).foldl (fun s e => e.app s) m.st) (es.getD k eff0) := by
            intro hw h1
            refine more ⟨[.t t], o.dst, [], .tup []⟩ rfl (fun s2 ha => ?_) (skip h1)
            rw [hgd]
            exact ⟨t, hd, .inl ⟨b, by rw [ha.1 t List.mem_cons_self, ht], .inr ⟨hw, rfl, rfl⟩⟩⟩
          cases b <;> cases want <;> simp only [cond_true, cond_false, setB_same ht] at h
          · exact acted rfl (act h)
          · exact skipped (by simp) h
          · exact skipped (by simp) h
          · exact acted rfl (act h)
        · rename_i ht
          refine more ⟨[.t t], o.dst, [], .tup []⟩ rfl (fun s2 ha => ?_) (skip h)
          rw [hgd]
          exact ⟨t, hd, .inr ⟨by rw [ha.1 t List.mem_cons_self, ht], rfl, rfl⟩⟩
        · cases h

theorem stOf_take {es : List Eff} {s : St} : ∀ n, n ≤ es.length → stOf (fun k => es.getD k eff0) s (fun _ => true) n = (es.take n).foldl (fun s e => e.app s) s
  | 0, _ => rfl
  | n + 1, h => by
    have hn : n < es.length := h
    simp only [stOf, if_true, stOf_take n (Nat.le_of_lt hn)]
    rw [List.take_succ_eq_append_getElem hn, List.foldl_append]
    simp [List.getD, List.getElem?_eq_getElem hn]
theorem stOf_same {e : Nat → Eff} {s : St} {L L' : Nat → Bool} : ∀ n, (∀ k, k < n → L k = L' k) → stOf e s L n = stOf e s L' n
  | 0, _ => rfl
  | n + 1, h => by simp only [stOf, stOf_same n (fun k hk => h k (Nat.lt_succ_of_lt hk)), h n (Nat.lt_succ_self n)]

def cnt (L : Nat → Bool) : Nat → Nat
  | 0 => 0
  | n + 1 => cnt L n + (if L n = true then 0 else 1)
theorem cnt_zero {L : Nat → Bool} : ∀ n, cnt L n = 0 → ∀ k, k < n → L k = true
  | 0, _, k, hk => by omega
  | n + 1, h, k, hk => by
    simp only [cnt] at h
    by_cases e : k = n
    · subst e
      cases hL : L k with
      | true => rfl
      | false => rw [hL] at h; simp at h
    · exact cnt_zero n (by omega) k (by omega)
theorem cnt_same {L L' : Nat → Bool} : ∀ n, (∀ k, k < n → L k = L' k) → cnt L n = cnt L' n
  | 0, _ => rfl
  | n + 1, h => by simp only [cnt, cnt_same n (fun k hk => h k (Nat.lt_succ_of_lt hk)), h n (Nat.lt_succ_self n)]
theorem cnt_more {L : Nat → Bool} {i : Nat} (hi : L i = false) : ∀ n, i < n → cnt (fun k => L k || k == i) n + 1 = cnt L n
  | 0, h => by omega
  | n + 1, h => by
    by_cases e : i = n
    · subst e
      have : cnt (fun k => L k || k == i) i = cnt L i := cnt_same i (fun k hk => by
        have : (k == i) = false := by simp; omega
        simp [this])
      simp only [cnt, this, hi]
      simp
    · have hne : (n == i) = false := by simp; omega
      have := cnt_more hi n (by omega)
      simp only [cnt, hne, Bool.or_false]
      omega

def Closed (A : Array Oper) (L : Nat → Bool) : Prop := ∀ k o, A[k]? = some o → L k = true → ∀ e ∈ o.after, Region.binds .any e = true → L e.on = true
theorem ahead_listed {A : Array Oper} {L : Nat → Bool} (hc : Closed A L) : ∀ (f i j : Nat), aheadIn A.toList f i j = true → (∀ o, A[j]? = some o → ∀ e ∈ o.after, Region.binds .any e = true → L e.on = true) → L i = true
  | 0, i, j, h, _ => by simp [aheadIn] at h
  | f + 1, i, j, h, hj => by
    simp only [aheadIn, Array.getElem?_toList] at h
    cases ho : A[j]? with
    | none => rw [ho] at h; cases h
    | some o =>
      rw [ho] at h
      obtain ⟨e, he, hb⟩ := List.any_eq_true.1 h
      simp only [Bool.and_eq_true, Bool.or_eq_true] at hb
      have hl := hj o ho e (by simpa using he) hb.1
      rcases hb.2 with h1 | h1
      · rw [← Nat.eq_of_beq_eq_true h1]; exact hl
      · exact ahead_listed hc f i e.on h1 (fun o' ho' => hc e.on o' ho' hl)
theorem back_of {ops : List Oper} : ∀ {i : Nat}, backOk i ops = true → ∀ k o, ops[k]? = some o → ∀ e ∈ o.after, Region.binds .any e = true → e.on < i + k := by
  induction ops with
  | nil => intro i _ k o h; simp at h
  | cons x ops ih =>
    intro i h k o ho e he hb
    simp only [backOk, Bool.and_eq_true] at h
    cases k with
    | zero =>
      simp only [List.getElem?_cons_zero, Option.some.injEq] at ho
      subst ho
      have := List.all_eq_true.1 h.1 e (by simpa using he)
      rw [hb] at this
      simp only [Bool.not_true, Bool.false_or] at this
      exact Nat.le_of_ble_eq_true this
    | succ k =>
      have := ih h.2 k o (by simpa using ho) e he hb
      omega
end
end Go.Vm
end

section
namespace Go.Vm
open Go
section
variable {P : Program} {cfg : Cfg} {saved : List (Nat × List VV)} {S : List (Array Value)} {w0 : World} {K : Keep} {Q : Exit → Act → World → Prop}

def listedF (listed : Array Bool) (k : Nat) : Bool := listed.getD k false
theorem listed_set {listed : Array Bool} {i : Nat} (h : i < listed.size) (k : Nat) : listedF (listed.setIfInBounds i true) k = (listedF listed k || k == i) := by
  unfold listedF
  by_cases e : k = i
  · subst e
    simp [h]
  · have : (k == i) = false := by simpa using e
    have hne : i ≠ k := fun h => e h.symm
    simp [this, Array.getElem?_setIfInBounds_ne hne]

theorem any_order (hG : Ok P cfg) {A : Array Oper} {e : Nat → Eff} {s0 : St} {base : Nat}
    (hop : ∀ k, k < A.size → ∃ o, A[k]? = some o ∧ (e k).d = o.dst ∧ OpAt cfg base A o (stOf e s0 (fun _ => true) k) (e k))
    (hap : ∀ j k, j < k → k < A.size → PairOk A.toList ⟨k, (e k).l, (e k).wrs⟩ ⟨j, (e j).l, (e j).wrs⟩)
    (hback : backOk 0 A.toList = true)
    (hQ : ∀ E a w, RelE E (stOf e s0 (fun _ => true) A.size) saved a S w w0 K → Q .normal a w) :
    ∀ (fuel : Nat) (listed : Array Bool) (E : Env) (a : Act) (w : World), listed.size = A.size → Closed A (listedF listed) → cnt (listedF listed) A.size ≤ fuel → RelE E (stOf e s0 (listedF listed) A.size) saved a S w w0 K →
      wpAny P .any A Q fuel listed a w := by
  have hend : ∀ (listed : Array Bool) (E : Env) (a : Act) (w : World), (∀ k, k < A.size → listedF listed k = true) → RelE E (stOf e s0 (listedF listed) A.size) saved a S w w0 K → Q .normal a w := by
    intro listed E a w hall hr
    refine hQ E a w ?_
    rwa [stOf_same A.size (fun k hk => hall k hk)] at hr
  have hready : ∀ (listed : Array Bool), listed.size = A.size → Closed A (listedF listed) → Region.ready .any A listed = [] → ∀ k, k < A.size → listedF listed k = true := by
    intro listed hsz hcl hemp k
    induction k using Nat.strongRecOn with
    | _ k ih =>
      intro hk
      cases hL : listedF listed k with
      | true => rfl
      | false =>
        have hin : k ∈ Region.ready .any A listed := by
          rw [mem_ready]
          refine ⟨?_, A[k], Array.getElem?_eq_getElem hk, fun x hx hb => ?_⟩
          · unfold listedF at hL
            have : k < listed.size := by omega
            simpa [this] using hL
          · have hlt := back_of hback k A[k] (by simp [hk]) x hx hb
            rw [Nat.zero_add] at hlt
            exact ih x.on hlt (by omega)
        rw [hemp] at hin
        cases hin
  intro fuel
  induction fuel with
  | zero =>
    intro listed E a w hsz hcl hc hr
    have hall := cnt_zero A.size (Nat.le_zero.1 hc)
    refine ⟨?_, hend listed E a w hall hr⟩
    cases hrd : Region.ready .any A listed with
    | nil => rfl
    | cons i r =>
      have hin : i ∈ Region.ready .any A listed := by rw [hrd]; exact List.mem_cons_self
      obtain ⟨h1, o, ho, _⟩ := mem_ready.1 hin
      have hi : i < A.size := (Array.getElem?_eq_some_iff.1 ho).1
      have h2 := hall i hi
      unfold listedF at h2
      have : i < listed.size := by omega
      simp [this] at h1 h2
      rw [h1] at h2
      cases h2
  | succ fuel ih =>
    intro listed E a w hsz hcl hc hr
    refine ⟨fun hemp => hend listed E a w (hready listed hsz hcl hemp) hr, fun i hin => ?_⟩
    obtain ⟨h1, o, ho, hpre⟩ := mem_ready.1 hin
    have hi : i < A.size := (Array.getElem?_eq_some_iff.1 ho).1
    have hLi : listedF listed i = false := by
      unfold listedF
      have : i < listed.size := by omega
      simpa [this] using h1
    have hpre' : ∀ o', A[i]? = some o' → ∀ x ∈ o'.after, Region.binds .any x = true → listedF listed x.on = true := by
      intro o' ho' x hx hb
      rw [ho] at ho'
      cases ho'
      exact hpre x hx hb
    -- what is ahead of i is listed; what is listed has i not ahead
    have ahead1 : ∀ k, aheadIn A.toList A.toList.length k i = true → listedF listed k = true := fun k h => ahead_listed hcl _ k i h hpre'
    have ahead2 : ∀ k, listedF listed k = true → aheadIn A.toList A.toList.length i k = true → False := fun k hk h => by
      have := ahead_listed hcl _ i k h (fun o' ho' => hcl k o' ho' hk)
      rw [hLi] at this
      cases this
    -- the pairs
    have before : ∀ k, k < i → ∀ x, x ∈ (e k).wrs → x ∈ (e i).l → listedF listed k = true := by
      intro k hk x hx1 hx2
      rcases hap k i hk hi with ⟨_, _, h3⟩ | h
      · rw [meets_of hx2 hx1] at h3; cases h3
      · exact ahead1 k h
    have after : ∀ k, i < k → k < A.size → listedF listed k = true → ∀ x, x ∈ (e k).wrs → x ∈ (e i).l ∨ x ∈ (e i).wrs → False := by
      intro k hk hkn hLk x hx1 hx2
      rcases hap i k hk hkn with ⟨h1, h2, _⟩ | h
      · rcases hx2 with hx2 | hx2
        · rw [meets_of hx1 hx2] at h1; cases h1
        · rw [meets_of hx1 hx2] at h2; cases h2
      · exact ahead2 k hLk h
    obtain ⟨o', ho', hd, hat⟩ := hop i hi
    rw [ho] at ho'
    cases ho'
    have agree : Agree (stOf e s0 (fun _ => true) i) (stOf e s0 (listedF listed) A.size) (e i).l := by
      constructor
      · intro t ht
        rw [stOf_tget, stOf_tget]
        refine seq_agree (fun k hk hf => before k hk _ (Eff.fT_wrs hf) ht) A.size (Nat.le_of_lt hi) (fun k hk hkn hLk => ?_)
        by_cases e1 : k = i
        · subst e1; rw [hLi] at hLk; cases hLk
        · cases hf : (e k).fT s0.tmps.length t with
          | none => rfl
          | some v => exact (after k (by omega) hkn hLk _ (Eff.fT_wrs (by rw [hf]; rfl)) (.inl ht)).elim
      · intro n hn
        rw [stOf_hget, stOf_hget]
        refine seq_agree (fun k hk hf => before k hk _ (Eff.fO_wrs hf) hn) A.size (Nat.le_of_lt hi) (fun k hk hkn hLk => ?_)
        by_cases e1 : k = i
        · subst e1; rw [hLi] at hLk; cases hLk
        · cases hf : (e k).fO n with
          | none => rfl
          | some v => exact (after k (by omega) hkn hLk _ (Eff.fO_wrs (by rw [hf]; rfl)) (.inl hn)).elim
    -- the state that comes
    have next : ∀ {E' : Env} {a' : Act} {w' : World}, RelE E' ((e i).app (stOf e s0 (listedF listed) A.size)) saved a' S w' w0 K → wpAny P .any A Q fuel (listed.setIfInBounds i true) a' w' := by
      intro E' a' w' hr'
      have hset : ∀ k, listedF (listed.setIfInBounds i true) k = (listedF listed k || k == i) := listed_set (by omega)
      refine ih _ E' a' w' (by simpa using hsz) ?_ ?_ ?_
      · intro k o'' ho'' hLk x hx hb
        rw [hset] at hLk ⊢
        by_cases e1 : k = i
        · subst e1
          rw [hpre' o'' ho'' x hx hb]; rfl
        · have : (k == i) = false := by simpa using e1
          rw [this, Bool.or_false] at hLk
          rw [hcl k o'' ho'' hLk x hx hb]; rfl
      · have := cnt_more hLi A.size hi
        rw [cnt_same A.size (fun k _ => hset k)]
        omega
      · rw [stOf_same A.size (fun k _ => hset k)]
        refine hr'.ext (tmps_ext ?_ fun t => ?_) fun n => ?_
        · rw [Eff.len, stOf_len, stOf_len]
        · rw [stOf_tget, Eff.tget_app, stOf_len, stOf_tget]
          refine seq_more hLi A.size hi (fun k hk hkn hLk hf => ?_)
          cases hf' : (e i).fT s0.tmps.length t with
          | none => rfl
          | some v => exact (after k hk hkn hLk _ (Eff.fT_wrs hf) (.inr (Eff.fT_wrs (by rw [hf']; rfl)))).elim
        · rw [stOf_hget, Eff.hget_app, stOf_hget]
          refine seq_more hLi A.size hi (fun k hk hkn hLk hf => ?_)
          cases hf' : (e i).fO n with
          | none => rfl
          | some v => exact (after k hk hkn hLk _ (Eff.fO_wrs hf) (.inr (Eff.fO_wrs (by rw [hf']; rfl)))).elim
    have does : Does cfg base o (stOf e s0 (listedF listed) A.size) (e i) → o.wp P a w (wpAny P .any A Q fuel (listed.setIfInBounds i true)) Q := by
      rintro ⟨l0, hdo⟩
      have h2 := hdo (fun u v l => some (u, v, l))
      obtain ⟨u, v, l', h3, hs⟩ := s_op hG hr h2
      simp only [Option.some.injEq, Prod.mk.injEq] at h3
      obtain ⟨rfl, rfl, rfl⟩ := h3
      refine hs Q _ fun a' w' E' h4 => next (E' := E') ?_
      unfold Eff.app
      rw [hd]
      exact h4
    have hx := hat _ agree
    unfold wpOp
    simp only [ho]
    cases hgd : o.guard with
    | none =>
      rw [hgd] at hx
      rw [if_pos (by simp [Region.wanted, hgd])]
      exact .inl (does hx)
    | some gw =>
      obtain ⟨j, want⟩ := gw
      rw [hgd] at hx
      obtain ⟨t, ht, ⟨b, hb, hx⟩ | ⟨hb, hu, hv⟩⟩ := hx
      rotate_left
      · have hb' := tmp_undef hr hb
        rw [if_neg (by simp [Region.wanted, hgd, yielded, ht, hb'])]
        refine next (E' := E) ?_
        unfold Eff.app
        rw [hu, hv, hd]
        exact hr.put o.dst (show VRel E _ w (.tup []) undef from ⟨[], .nil, rfl⟩)
      have hb' := tmp_bool hr hb
      have hwant : Region.wanted o (yielded A a.tmps) = (b == want) := by
        simp [Region.wanted, hgd, yielded, ht, hb']
      rcases hx with ⟨rfl, hx⟩ | ⟨hne, hu, hv⟩
      · rw [if_pos (by rw [hwant]; simp)]
        exact .inl (does hx)
      · rw [if_neg (by rw [hwant]; simpa using hne)]
        refine next (E' := E) ?_
        unfold Eff.app
        rw [hu, hv, hd]
        exact hr.put o.dst (show VRel E _ w (.tup []) undef from ⟨[], .nil, rfl⟩)

theorem ops_draw {R : Type} {r : R} {call : FuncId → List V1 → (VV → Ms → Option R) → Ms → Option R} {Kc : Ms → Option R} (hG : Ok P cfg) (hm : P.follows .mixedOrders = true) (A : Array Oper) (id : Nat) (m : Ms) {E : Env} {a : Act} {w : World}
    (hrun : execOps cfg true A.toList call Kc A.toList 0 [] m = some r) (hr : RelE E m.st m.saved a S w w0 K)
    (hQ : ∀ m' a' w' E', Kc m' = some r → m'.saved = m.saved → RelE E' m'.st m'.saved a' S w' w0 K → Q .normal a' w') : (Code.region id A true).wp P Q a w := by
  obtain ⟨es, h1, h2, h3, h4, h5⟩ := ops_draw_inv A _ _ _ _ hrun
  have hlen : es.length = A.size := by rw [h1, Array.length_toList]
  obtain ⟨_, _, h6⟩ := apart_trs es 0 [] h3
  refine wp_region_any hm (any_order (e := fun k => es.getD k eff0) (s0 := m.st) (base := m.base) (saved := m.saved) (S := S) (w0 := w0) (K := K) (Q := Q) hG (fun k hk => ?_) (fun j k hjk hk => ?_) h4 (fun E' a' w' hr' => ?_) A.size (Array.replicate A.size false) E a _ (by simp) ?_ ?_ ?_)
  · obtain ⟨o, h7, h8, h9⟩ := h5 k (by rw [Array.length_toList]; exact hk)
    rw [← stOf_take k (by omega)] at h9
    exact ⟨o, by simpa using h7, h8, h9⟩
  · have := h6 j k hjk (by omega)
    simpa using this
  · rw [stOf_take A.size (by omega), ← hlen, List.take_length] at hr'
    exact hQ _ _ _ E' h2 rfl hr'
  · intro k o ho hL
    have hk : k < A.size := (Array.getElem?_eq_some_iff.1 ho).1
    simp [listedF, hk] at hL
  · have : ∀ L n, cnt L n ≤ n := by
      intro L n
      induction n with
      | zero => exact Nat.le_refl _
      | succ n ih => simp only [cnt]; split <;> omega
    exact this _ _
  · have hzero : ∀ n, stOf (fun k => es.getD k eff0) m.st (listedF (Array.replicate A.size false)) n = m.st := by
      intro n
      induction n with
      | zero => rfl
      | succ n ih =>
        simp only [stOf, ih]
        rw [if_neg]
        unfold listedF
        simp [Array.getElem?_replicate]
        split <;> simp
    rw [hzero]
    exact hr.still rfl rfl rfl rfl
end
end Go.Vm
end

section
namespace Go.Vm
open Go

theorem place_le : ∀ (l : List Nat) (n j : Nat), j ≤ place n l j
  | [], n, j => Nat.le_refl _
  | m :: l, n, j => by
    simp only [place]
    cases Nat.beq m n with
    | true => exact Nat.le_refl _
    | false => exact Nat.le_trans (Nat.le_succ j) (place_le l n (j + 1))
theorem place_get : ∀ (l : List Nat) (n j : Nat), n ∈ l → l[place n l j - j]? = some n
  | [], n, j, h => by cases h
  | m :: l, n, j, h => by
    simp only [place]
    cases hb : Nat.beq m n with
    | true =>
      rw [Nat.eq_of_beq_eq_true hb]
      simp
    | false =>
      have hmem : n ∈ l := by
        cases h with
        | head => rw [Nat.beq_refl] at hb; cases hb
        | tail _ h => exact h
      have ih := place_get l n (j + 1) hmem
      have hle := place_le l n (j + 1)
      simp only [cond_false]
      rw [show place n l (j + 1) - j = (place n l (j + 1) - (j + 1)) + 1 by omega]
      simpa using ih
theorem place_inj {l : List Nat} {j n m : Nat} (hn : n ∈ l) (hm : m ∈ l) (h : place n l j = place m l j) : n = m := by
  have h1 := place_get l n j hn
  have h2 := place_get l m j hm
  rw [h, h2] at h1
  injection h1 with h1
  exact h1.symm

section
variable {g : Nat → Nat} {seen : List Nat} {h : Heap}
theorem newHeap_none : ∀ (r : List Nat) (m : Nat), (∀ n ∈ r, g n ≠ m) → hget (newHeap h g r) m = none
  | [], m, _ => rfl
  | n :: r, m, hr => by
    have ih := newHeap_none r m (fun k hk => hr k (List.mem_cons_of_mem _ hk))
    simp only [newHeap]
    split
    · have : Nat.beq (g n) m = false := by
        cases hb : Nat.beq (g n) m with
        | false => rfl
        | true => exact absurd (Nat.eq_of_beq_eq_true hb) (hr n List.mem_cons_self)
      simp only [hget, this, cond_false, ih]
    · exact ih
theorem newHeap_get (hinj : ∀ n ∈ seen, ∀ m ∈ seen, g n = g m → n = m) : ∀ (r : List Nat), (∀ n ∈ r, n ∈ seen) → ∀ n ∈ r, hget (newHeap h g r) (g n) = (hget h n).map (renO g)
  | [], _, n, hn => by cases hn
  | x :: r, hr, n, hn => by
    have hr' : ∀ n ∈ r, n ∈ seen := fun k hk => hr k (List.mem_cons_of_mem _ hk)
    have ih := newHeap_get hinj r hr'
    simp only [newHeap]
    by_cases e : x = n
    · subst e
      split
      · rename_i o ho
        simp only [hget, Nat.beq_refl, cond_true, ho, Option.map_some]
      · rename_i ho
        rw [ho]
        by_cases hx : x ∈ r
        · rw [ih x hx, ho]
        · exact newHeap_none r _ (fun k hk e => hx (by rw [← hinj k (hr' k hk) x (hr x List.mem_cons_self) e]; exact hk))
    · have hnr : n ∈ r := by
        cases hn with
        | head => exact absurd rfl e
        | tail _ h => exact h
      split
      · have : Nat.beq (g x) (g n) = false := by
          cases hb : Nat.beq (g x) (g n) with
          | false => rfl
          | true => exact absurd (hinj x (hr x List.mem_cons_self) n (hr n hn) (Nat.eq_of_beq_eq_true hb)) e
        simp only [hget, this, cond_false]
        exact ih n hnr
      · exact ih n hnr
theorem shape_ren (o : Obj) : shape (renO g o) = shape o := by cases o <;> simp [renO, shape]
end

theorem closed_mem {seen l : List Nat} (h : closedIn seen l = true) : ∀ n ∈ l, n ∈ seen := by
  intro n hn
  have := List.all_eq_true.1 h n hn
  obtain ⟨b, hb, e⟩ := List.any_eq_true.1 this
  rw [Nat.eq_of_beq_eq_true e]; exact hb
theorem heapNames_mem {h : Heap} : ∀ (r : List Nat) {n : Nat} {cs : List Cell}, n ∈ r → hget h n = some (.box cs) → ∀ x ∈ namesL cs, x ∈ heapNames h r
  | [], n, cs, hn, _, x, _ => by cases hn
  | m :: r, n, cs, hn, hg, x, hx => by
    simp only [heapNames, List.mem_append]
    by_cases e : n = m
    · subst e
      rw [hg]
      exact .inl hx
    · exact .inr (heapNames_mem r (by
        cases hn with
        | head => exact absurd rfl e
        | tail _ h => exact h) hg x hx)
section
variable {E : Env} {h : Heap} {w : World} {g : Nat → Nat} {seen : List Nat} {E' : Env} {h' : Heap}
structure Ren (E E' : Env) (h h' : Heap) (g : Nat → Nat) (seen : List Nat) : Prop where
  get : ∀ n ∈ seen, hget h' (g n) = (hget h n).map (renO g)
  none : ∀ m, (∀ n ∈ seen, g n ≠ m) → hget h' m = none
  inj : ∀ n ∈ seen, ∀ m ∈ seen, g n = g m → n = m
  ρ : ∀ n ∈ seen, E'.ρ (g n) = E.ρ n
  has : ∀ n ∈ seen, (E'.has (g n) ↔ E.has n)
  ok : E'.ok = E.ok
theorem Ren.sh (k : Ren E E' h h' g seen) {n : Nat} (hn : n ∈ seen) : hsh h' (g n) = hsh h n := by
  unfold hsh
  rw [k.get n hn]
  cases hget h n with
  | none => rfl
  | some o => simp [shape_ren]
theorem Ren.ptr (k : Ren E E' h h' g seen) {n : Nat} (hn : n ∈ seen) {v : Value} (p : PtrRel E h n v) : PtrRel E' h' (g n) v := by
  obtain ⟨m, hs, rfl⟩ := p
  exact ⟨m, by rw [k.sh hn]; exact hs, by rw [k.ρ n hn]⟩
theorem Ren.cell (k : Ren E E' h h' g seen) {c : Cell} (hn : ∀ n ∈ namesC c, n ∈ seen) {v : Value} (p : CellRel E h w c v) : CellRel E' h' w (renC g c) v := by
  cases c with
  | int => exact p
  | bool => exact p
  | str => exact p
  | nilS => exact p
  | slc e t xs => exact Imm.mono (fun b hb => by rw [k.ok]; exact hb) (fun _ _ => rfl) p
  | row o lo hi =>
    have ho := hn o (List.mem_singleton.2 rfl)
    simp only [renC, CellRel, k.sh ho] at p ⊢
    cases hs : hsh h o with
    | none => rw [hs] at p; exact p
    | some s =>
      rw [hs] at p
      cases s with
      | box n => exact p
      | dead => exact p
      | mp t => exact p
      | row e t n =>
        obtain ⟨hc, A, c, e1, hle, hx⟩ := p
        refine ⟨hc, A, c, e1, hle, hx.imp id fun ⟨h1, h2, h3⟩ => ?_⟩
        rw [k.ρ o ho]
        exact ⟨(k.has o ho).2 h1, h2, h3⟩
  | ptr o f =>
    have ho := hn o (List.mem_singleton.2 rfl)
    obtain ⟨m, hs, rfl⟩ := p
    exact ⟨m, by rw [k.sh ho]; exact hs, by rw [k.ρ o ho]⟩
  | eptr o i f =>
    have ho := hn o (List.mem_singleton.2 rfl)
    simp only [renC, CellRel, k.sh ho] at p ⊢
    rw [k.ρ o ho]
    exact p
  | iptr t x f =>
    obtain ⟨b, off, ds, e1, hg, hi, hj⟩ := p
    exact ⟨b, off, ds, e1, by rw [k.ok]; exact hg, hi.mono (fun b hb => by rw [k.ok]; exact hb) (fun _ _ => rfl), hj⟩
  | fn f l =>
    obtain ⟨vs, rfl, hl⟩ := p
    refine ⟨vs, rfl, ?_⟩
    have hn' : ∀ n ∈ l, n ∈ seen := hn
    generalize vs.toList = us at hl
    clear hn
    induction hl with
    | nil => exact .nil
    | cons q _ ih => exact .cons (k.ptr (hn' _ List.mem_cons_self) q) (ih fun n hn => hn' n (List.mem_cons_of_mem _ hn))
  | mp o =>
    have ho := hn o (List.mem_singleton.2 rfl)
    obtain ⟨t, hs, rfl⟩ := p
    exact ⟨t, by rw [k.sh ho]; exact hs, by rw [k.ρ o ho]⟩
theorem Ren.cells (k : Ren E E' h h' g seen) : ∀ {cs : List Cell} {vs : List Value}, (∀ n ∈ namesL cs, n ∈ seen) → All2 (CellRel E h w) cs vs → All2 (CellRel E' h' w) (cs.map (renC g)) vs
  | [], _, _, .nil => .nil
  | c :: cs, _, hn, .cons p q => .cons (k.cell (fun n hn' => hn n (List.mem_append.2 (.inl hn'))) p) (k.cells (fun n hn' => hn n (List.mem_append.2 (.inr hn'))) q)
theorem Ren.v1 (k : Ren E E' h h' g seen) {x : V1} (hn : ∀ n ∈ namesL x.cs, n ∈ seen) {V : Value} (p : V1Rel E h w x V) : V1Rel E' h' w ⟨x.agg, x.cs.map (renC g)⟩ V := by
  obtain ⟨vs, hv, hV⟩ := p
  exact ⟨vs, k.cells hn hv, hV⟩
theorem Ren.vv (k : Ren E E' h h' g seen) {x : VV} (hn : ∀ n ∈ namesV x, n ∈ seen) {V : Value} (p : VRel E h w x V) : VRel E' h' w (renV g x) V := by
  cases x with
  | un => trivial
  | v x => exact k.v1 hn p
  | tup xs =>
    obtain ⟨Vs, hv, rfl⟩ := p
    refine ⟨Vs, ?_, rfl⟩
    have hn' : ∀ x ∈ xs, ∀ n ∈ namesL x.cs, n ∈ seen := fun x hx n hn1 => hn n (List.mem_flatMap.2 ⟨x, hx, hn1⟩)
    clear hn
    induction hv with
    | nil => exact .nil
    | cons q _ ih => exact .cons (k.v1 (hn' _ List.mem_cons_self) q) (ih fun x hx => hn' x (List.mem_cons_of_mem _ hx))
theorem Ren.frame (k : Ren E E' h h' g seen) : ∀ {ts : List VV} {vs : List Value}, (∀ n ∈ namesT ts, n ∈ seen) → All2 (VRel E h w) ts vs → All2 (VRel E' h' w) (ts.map (renV g)) vs
  | [], _, _, .nil => .nil
  | c :: cs, _, hn, .cons p q => .cons (k.vv (fun n hn' => hn n (List.mem_append.2 (.inl hn'))) p) (k.frame (fun n hn' => hn n (List.mem_append.2 (.inr hn'))) q)
theorem Ren.saved (k : Ren E E' h h' g seen) {sv : List (Nat × List VV)} {S : List (Array Value)} (hn : ∀ p ∈ sv, ∀ n ∈ namesT p.2, n ∈ seen) (hs : All2 (fun (p : Nat × List VV) (arr : Array Value) => All2 (VRel E h w) p.2 arr.toList) sv S) :
    All2 (fun (p : Nat × List VV) (arr : Array Value) => All2 (VRel E' h' w) p.2 arr.toList) (sv.map fun p => (p.1, p.2.map (renV g))) S := by
  induction hs with
  | nil => exact .nil
  | cons p _ ih => exact .cons (k.frame (hn _ List.mem_cons_self) p) (ih fun p hp => hn p (List.mem_cons_of_mem _ hp))
end
theorem keepT_rel {E : Env} {h : Heap} {w : World} (ks : List Nat) : ∀ {ts : List VV} {vs : List Value} (n : Nat), All2 (VRel E h w) ts vs → All2 (VRel E h w) (keepT ks n ts) vs
  | [], _, _, .nil => .nil
  | t :: ts, _, n, .cons p q => by
    refine .cons ?_ (keepT_rel ks (n + 1) q)
    cases ks.any (Nat.beq n) with
    | true => exact p
    | false => trivial

theorem norm_sound {ks : List Nat} {m m' : Ms} (hn : norm ks m = some m') {E : Env} {a : Act} {S : List (Array Value)} {w w0 : World} {K : Keep} (hr : RelE E m.st m.saved a S w w0 K) :
    ∃ E', RelE E' m'.st m'.saved a S w w0 K := by
  unfold norm at hn
  dsimp only at hn
  generalize hts : keepT ks 0 m.st.tmps = ts at hn
  generalize hroots : namesT ts ++ m.saved.flatMap (fun p => namesT p.2) = roots at hn
  generalize hseen : reach m.st.heap 1000 roots [] = seen at hn
  cases hb : closedIn seen roots && closedIn seen (heapNames m.st.heap seen) && distinct seen with
  | false => rw [hb] at hn; cases hn
  | true =>
    rw [hb] at hn
    simp only [cond_true, Option.some.injEq] at hn
    subst hn
    simp only [show ∀ (m : Ms) st sv, (noted m st sv).st = st from fun _ _ _ => rfl, show ∀ (m : Ms) st sv, (noted m st sv).saved = sv from fun _ _ _ => rfl]
    simp only [Bool.and_eq_true] at hb
    have hc1 := closed_mem hb.1.1
    have hc2 := closed_mem hb.1.2
    have inv : ∀ n ∈ seen, seen.getD (place n seen 9000000 - 9000000) 0 = n := fun n hn => by
      have := place_get seen n 9000000 hn
      simp [List.getD, this]
    have hinj : ∀ n ∈ seen, ∀ k ∈ seen, place n seen 9000000 = place k seen 9000000 → n = k := fun n hn k hk => place_inj hn hk
    have k : Ren E ⟨fun n => E.ρ (seen.getD (n - 9000000) 0), fun n => E.has (seen.getD (n - 9000000) 0), E.ok⟩ m.st.heap (newHeap m.st.heap (fun n => place n seen 9000000) seen) (fun n => place n seen 9000000) seen :=
      ⟨newHeap_get hinj seen (fun _ h => h), fun q hq => newHeap_none seen q hq, hinj, fun n hn => by simp only [inv n hn], fun n hn => by simp only [inv n hn], rfl⟩
    have back : ∀ q o, hget (newHeap m.st.heap (fun n => place n seen 9000000) seen) q = some o → ∃ n ∈ seen, q = place n seen 9000000 ∧ ∃ o', hget m.st.heap n = some o' ∧ o = renO (fun n => place n seen 9000000) o' := by
      intro q o hq
      by_cases hex : ∃ n ∈ seen, place n seen 9000000 = q
      · obtain ⟨n, hn, rfl⟩ := hex
        rw [k.get n hn] at hq
        cases hg : hget m.st.heap n with
        | none => rw [hg] at hq; cases hq
        | some o' => rw [hg] at hq; cases hq; exact ⟨n, hn, rfl, o', hg, rfl⟩
      · rw [k.none q (fun n hn e => hex ⟨n, hn, e⟩)] at hq; cases hq
    have live : ∀ n ∈ seen, Live (newHeap m.st.heap (fun n => place n seen 9000000) seen) (place n seen 9000000) → Live m.st.heap n := by
      intro n hn hl
      unfold Live at hl ⊢
      rw [k.get n hn] at hl
      cases hg : hget m.st.heap n with
      | none => rw [hg] at hl; exact hl
      | some o => rw [hg] at hl; cases o <;> exact hl
    have ht : All2 (VRel E m.st.heap w) ts a.tmps.toList := by rw [← hts]; exact keepT_rel ks 0 hr.tm
    refine ⟨⟨fun n => E.ρ (seen.getD (n - 9000000) 0), fun n => E.has (seen.getD (n - 9000000) 0), E.ok⟩, ?_, hr.df, ?_, ?_, ?_, ?_, ?_, hr.bo, hr.kp, hr.os, hr.tape, hr.out, hr.size, hr.oz, hr.rm⟩
    · refine k.frame (fun n hn => hc1 n ?_) ht
      rw [← hroots]; exact List.mem_append.2 (.inl hn)
    · have hnames : ∀ p ∈ m.saved, ∀ n ∈ namesT p.2, n ∈ seen := fun p hp n hn => hc1 n (by rw [← hroots]; exact List.mem_append.2 (.inr (List.mem_flatMap.2 ⟨p, hp, hn⟩)))
      exact k.saved hnames hr.sv
    · intro q o hq
      obtain ⟨n, hn, rfl, o', hg, rfl⟩ := back q o hq
      have hob := hr.ob n o' hg
      cases o' with
      | dead => trivial
      | box cs =>
        obtain ⟨hh, vs, hv, hcell⟩ := hob
        refine ⟨(k.has n hn).2 hh, vs, k.cells (fun x hx => hc2 x (heapNames_mem seen hn hg x hx)) hv, ?_⟩
        rw [k.ρ n hn]
        exact hcell
      | row e t xs own =>
        obtain ⟨h1, h2⟩ := hob
        refine ⟨h1.imp (k.has n hn).2 id, fun hh => ?_⟩
        rw [k.ρ n hn]
        exact h2 ((k.has n hn).1 hh)
      | mp t xs =>
        obtain ⟨h1, h2⟩ := hob
        refine ⟨(k.has n hn).2 h1, ?_⟩
        rw [k.ρ n hn]
        exact h2
    · intro q q' hne hl hl' hh hh'
      obtain ⟨o, ho⟩ := Option.isSome_iff_exists.1 (live_isSome hl)
      obtain ⟨o', ho'⟩ := Option.isSome_iff_exists.1 (live_isSome hl')
      obtain ⟨n, hn, rfl, _⟩ := back q o ho
      obtain ⟨n', hn', rfl, _⟩ := back q' o' ho'
      rw [k.ρ n hn, k.ρ n' hn']
      exact hr.dj n n' (fun e => hne (by rw [e])) (live n hn hl) (live n' hn' hl') ((k.has n hn).1 hh) ((k.has n' hn').1 hh')
    · intro q hl hh
      obtain ⟨o, ho⟩ := Option.isSome_iff_exists.1 (live_isSome hl)
      obtain ⟨n, hn, rfl, _⟩ := back q o ho
      rw [k.ρ n hn]
      exact hr.dk n (live n hn hl) ((k.has n hn).1 hh)
    · intro q hs hh
      obtain ⟨o, ho⟩ := Option.isSome_iff_exists.1 hs
      obtain ⟨n, hn, rfl, o', hg, _⟩ := back q o ho
      rw [k.ρ n hn]
      exact hr.bd n (by rw [hg]; rfl) ((k.has n hn).1 hh)
theorem normAt_sound {l : List (Nat × List Nat)} {key : Nat} {m m' : Ms} (hn : normAt l key m = some m') {E : Env} {a : Act} {S : List (Array Value)} {w w0 : World} {K : Keep} (hr : RelE E m.st m.saved a S w w0 K) :
    ∃ E', RelE E' m'.st m'.saved a S w w0 K := by
  unfold normAt at hn
  split at hn
  · exact norm_sound hn hr
  · cases hn; exact ⟨E, hr⟩
section
variable {E : Env} {h h' : Heap} {w : World} {nm : Nat}
def Env.more (E : Env) (nm : Nat) : Env := ⟨E.ρ, fun n => n ≠ nm ∧ E.has n, E.ok⟩
theorem nil_row {e : TypeId} {ty : Ty} (hs : hsh h' nm = some (.row e ty 0)) {v : Value} (p : CellRel E h w .nilS v) : CellRel (E.more nm) h' w (.row nm none none) v := by
  simp only [CellRel] at p
  subst p
  simp only [CellRel, hs]
  exact ⟨trivial, none, 0, rfl, Nat.le_refl _, .inl rfl⟩
theorem step_more (hn : hget h nm = none) (hh : ∀ n s, hsh h n = some s → hsh h' n = some s) : Step E (E.more nm) h h' w w :=
  ⟨fun _ _ => rfl, fun n hs hk => ⟨(fun e => by rw [e, hn] at hs; cases hs), hk⟩, fun _ hb => hb, fun _ _ => rfl, fun _ _ hr => hr, fun n s hs => .inl (hh n s hs)⟩
theorem isNil_eq {o : Option Cell} (h : isNil o = true) : o = some .nilS := by
  unfold isNil at h
  split at h
  · rfl
  · cases h
theorem set_nil {e : TypeId} {ty : Ty} (k : Step E (E.more nm) h h' w w) (hs : hsh h' nm = some (.row e ty 0)) : ∀ {cs : List Cell} {vs : List Value} {i : Nat}, isNil cs[i]? = true → All2 (CellRel E h w) cs vs →
    All2 (CellRel (E.more nm) h' w) (cs.set i (.row nm none none)) vs
  | [], _, i, hi, .nil => .nil
  | c :: cs, _, 0, hi, .cons p q => by
    have := isNil_eq hi
    simp at this
    subst this
    exact .cons (nil_row hs p) (q.mono fun _ _ x => x.step k)
  | c :: cs, _, i + 1, hi, .cons p q => .cons (p.step k) (set_nil k hs (by simpa using hi) q)
end
theorem frzC_sound {fz : Bool} {c : Option Cell} {st : St} {E : Env} {sv : List (Nat × List VV)} {a : Act} {S : List (Array Value)} {w w0 : World} {K : Keep} (hr : RelE E st sv a S w w0 K) :
    ∃ E', RelE E' (frzC fz c st) sv a S w w0 K := by
  unfold frzC
  split
  · split
    · rename_i hg
      exact ⟨_, hr.frz hg⟩
    · exact ⟨E, hr⟩
  · exact ⟨E, hr⟩
theorem holdOne_sound {nm : Nat} {st : St} {t : Nat} {path : List Nat} {e : TypeId} {ty : Ty} {fz : Bool} {E : Env} {sv : List (Nat × List VV)} {a : Act} {S : List (Array Value)} {w w0 : World} {K : Keep} (hr : RelE E st sv a S w w0 K) :
    ∃ E', RelE E' (holdOne nm st t path e ty fz) sv a S w w0 K := by
  unfold holdOne
  split
  · exact ⟨E, hr⟩
  rename_i hnone
  split
  case h_2 => exact ⟨E, hr⟩
  rename_i x hx
  -- the heap gets one row more; what was live goes on
  have key : ∀ (h' : Heap), hsh h' nm = some (.row e ty 0) → (∀ n s, hsh st.heap n = some s → hsh h' n = some s) → (∀ n, n ≠ nm → Live h' n → Live st.heap n) → (∀ n, n ≠ nm → (hget h' n).isSome = true → (hget st.heap n).isSome = true) →
      (Step E (E.more nm) st.heap h' w w → ∀ n o, hget h' n = some o → ObjRel (E.more nm) h' w n o) → ∀ ts, (Step E (E.more nm) st.heap h' w w → All2 (VRel (E.more nm) h' w) ts a.tmps.toList) → ∃ E', RelE E' ⟨ts, h'⟩ sv a S w w0 K := by
    intro h' hs hh hl hi hob ts ht
    have k := step_more (E := E) (w := w) hnone hh
    refine ⟨E.more nm, ht k, hr.df, hr.sv.mono fun _ _ q => q.mono fun _ _ q => q.step k, hob k, ?_, ?_, ?_, hr.bo, hr.kp, hr.os, hr.tape, hr.out, hr.size, hr.oz, hr.rm⟩
    · intro n n' hne h1 h2 h3 h4
      exact hr.dj n n' hne (hl n h3.1 h1) (hl n' h4.1 h2) h3.2 h4.2
    · intro n h1 h3
      exact hr.dk n (hl n h3.1 h1) h3.2
    · intro n h1 h3
      exact hr.bd n (hi n h3.1 h1) h3.2
  split
  · rename_i i hsp
    cases hb : isNil x.cs[i]? with
    | false => exact frzC_sound hr
    | true =>
      refine key _ ?_ ?_ ?_ ?_ ?_ _ ?_
      · rw [hsh_hset, if_pos rfl]; rfl
      · intro n s hs
        rw [hsh_hset, if_neg (fun e => by rw [e] at hs; unfold hsh at hs; rw [hnone] at hs; cases hs)]
        exact hs
      · intro n hne hl
        unfold Live at hl ⊢
        rwa [hget_hset, if_neg hne] at hl
      · intro n hne hl
        rwa [hget_hset, if_neg hne] at hl
      · intro k n o ho
        rw [hget_hset] at ho
        split at ho
        · rename_i hne
          cases ho
          exact ⟨.inr rfl, fun hh => absurd hne hh.1⟩
        · rename_i hne
          exact (hr.ob n o ho).step k (by rw [ho]; rfl) (fun h => h.2) (fun _ => rfl)
      · intro k
        have hs : hsh (hset st.heap nm (.row e ty [] (!fz))) nm = some (.row e ty 0) := by rw [hsh_hset, if_pos rfl]; rfl
        have ht := hr.tm
        rw [tset_eq]
        rw [tget_eq] at hx
        clear hsp
        generalize a.tmps.toList = vs at ht
        generalize st.tmps = ts at ht hx
        induction ht generalizing t with
        | nil => exact .nil
        | cons p q ih =>
          cases t with
          | zero =>
            simp at hx
            subst hx
            obtain ⟨us, h1, h2⟩ := p
            exact .cons ⟨us, set_nil k hs hb h1, h2⟩ (q.mono fun _ _ q => q.step k)
          | succ t => exact .cons (p.step k) (ih (by simpa using hx))
  · rename_i o i hsp
    split
    case h_2 => exact ⟨E, hr⟩
    rename_i cs hg
    cases hb : isNil cs[i]? with
    | false => exact frzC_sound hr
    | true =>
      have hon : o ≠ nm := fun e => by rw [e, hnone] at hg; cases hg
      refine key _ ?_ ?_ ?_ ?_ ?_ _ ?_
      · rw [hsh_hset, if_pos rfl]; rfl
      · intro n s hs
        rw [hsh_hset, if_neg (fun e => by rw [e] at hs; unfold hsh at hs; rw [hnone] at hs; cases hs), hsh_hset]
        split
        · rename_i e1
          subst e1
          unfold hsh at hs
          rw [hg] at hs
          simpa [shape] using hs
        · exact hs
      · intro n hne hl
        unfold Live at hl ⊢
        rw [hget_hset, if_neg hne, hget_hset] at hl
        by_cases e1 : n = o
        · subst e1
          rw [hg]; trivial
        · rw [if_neg e1] at hl; exact hl
      · intro n hne hl
        rw [hget_hset, if_neg hne, hget_hset] at hl
        by_cases e1 : n = o
        · subst e1
          rw [hg]; rfl
        · rw [if_neg e1] at hl; exact hl
      · intro k n o' ho
        rw [hget_hset] at ho
        split at ho
        · rename_i hne
          cases ho
          exact ⟨.inr rfl, fun hh => absurd hne hh.1⟩
        · rename_i hne
          rw [hget_hset] at ho
          split at ho
          · rename_i e1
            subst e1
            cases ho
            obtain ⟨h1, vs, h2, h3⟩ := hr.ob _ _ hg
            exact ⟨⟨hon, h1⟩, vs, set_nil k (by rw [hsh_hset, if_pos rfl]; rfl) hb h2, h3⟩
          · exact (hr.ob n o' ho).step k (by rw [ho]; rfl) (fun h => h.2) (fun _ => rfl)
      · intro k
        exact hr.tm.mono fun _ _ q => q.step k
  · exact ⟨E, hr⟩
theorem low_rel {E : Env} {h : Heap} {w : World} {c : Cell} {v : Value} (p : CellRel E h w c v) : CellRel E h w (lowC c) v := by
  unfold lowC
  split
  · rename_i n hi
    simp only [CellRel] at p ⊢
    split at p
    · obtain ⟨hc, A, cp, hv, hle, hx⟩ := p
      refine ⟨?_, A, cp, ?_, by simpa [lo0] using hle, by simpa [lo0] using hx⟩
      · cases hi <;> simp only [CutOk] at * <;> omega
      · rw [hv]; cases hi <;> simp [cutLen]
    · exact p
    · exact p.elim
  · exact p
theorem All2.set1 {E : Env} {h : Heap} {w : World} : ∀ {cs : List Cell} {vs : List Value} {i : Nat} {c : Cell}, cs[i]? = some c → All2 (CellRel E h w) cs vs → All2 (CellRel E h w) (cs.set i (lowC c)) vs
  | [], _, i, c, hi, .nil => .nil
  | d :: cs, _, 0, c, hi, .cons p q => by
    simp at hi
    subst hi
    exact .cons (low_rel p) q
  | d :: cs, _, i + 1, c, hi, .cons p q => .cons p (All2.set1 (by simpa using hi) q)
theorem lowOne_sound {cl : Bool} {st : St} {t : Nat} {path : List Nat} {E : Env} {sv : List (Nat × List VV)} {a : Act} {S : List (Array Value)} {w w0 : World} {K : Keep} (hr : RelE E st sv a S w w0 K) :
    RelE E (lowOne cl st t path) sv a S w w0 K := by
  unfold lowOne
  cases cl with
  | false => exact hr
  | true =>
    simp only [cond_true]
    split
    case h_2 => exact hr
    rename_i x hx
    split
    · rename_i i hsp
      split
      · rename_i c hc
        refine { hr with tm := ?_ }
        have ht := hr.tm
        rw [tset_eq]
        rw [tget_eq] at hx
        clear hsp
        generalize a.tmps.toList = vs at ht
        generalize st.tmps = ts at ht hx
        induction ht generalizing t with
        | nil => exact .nil
        | cons p q ih =>
          cases t with
          | zero =>
            simp at hx
            subst hx
            obtain ⟨us, h1, h2⟩ := p
            exact .cons ⟨us, h1.set1 hc, h2⟩ q
          | succ t => exact .cons p (ih (by simpa using hx))
      · exact hr
    · rename_i o i hsp
      split
      case h_2 => exact hr
      rename_i cs hg
      split
      case h_2 => exact hr
      rename_i c hc
      have hsh : ∀ n, hsh (hset st.heap o (.box (cs.set i (lowC c)))) n = hsh st.heap n := by
        intro n
        rw [hsh_hset]
        split
        · rename_i e1
          subst e1
          simp [Go.Vm.hsh, hg, shape]
        · rfl
      have k : Step E E st.heap (hset st.heap o (.box (cs.set i (lowC c)))) w w := ⟨fun _ _ => rfl, fun _ _ h => h, fun _ h => h, fun _ _ => rfl, fun _ _ h => h, fun n s hn => .inl (by rw [hsh]; exact hn)⟩
      have hl : ∀ n, Live (hset st.heap o (.box (cs.set i (lowC c)))) n → Live st.heap n := by
        intro n hl
        unfold Live at hl ⊢
        rw [hget_hset] at hl
        by_cases e1 : n = o
        · subst e1; rw [hg]; trivial
        · rwa [if_neg e1] at hl
      have hs : ∀ n, (hget (hset st.heap o (.box (cs.set i (lowC c)))) n).isSome = true → (hget st.heap n).isSome = true := by
        intro n hl
        rw [hget_hset] at hl
        by_cases e1 : n = o
        · subst e1; rw [hg]; rfl
        · rwa [if_neg e1] at hl
      refine ⟨tm_step k hr.tm, hr.df, hr.sv.mono fun _ _ q => tm_step k q, fun n ob hn => ?_, fun n n' hne h1 h2 => hr.dj n n' hne (hl n h1) (hl n' h2), fun n h1 => hr.dk n (hl n h1), fun n h1 => hr.bd n (hs n h1), hr.bo, hr.kp, hr.os, hr.tape, hr.out, hr.size, hr.oz, hr.rm⟩
      rw [hget_hset] at hn
      by_cases e1 : n = o
      · subst e1
        rw [if_pos rfl] at hn
        cases hn
        obtain ⟨h1, vs, h2, h3⟩ := hr.ob _ _ hg
        exact ⟨h1, vs, (h2.mono fun _ _ q => q.step k).set1 hc, h3⟩
      · rw [if_neg e1] at hn
        exact (hr.ob n ob hn).step k (by rw [hn]; rfl) (fun h => h) (fun _ => rfl)
    · exact hr
theorem holdAll_sound : ∀ (l : List (Nat × List Nat × TypeId × Ty × Bool × Bool)) (nm : Nat) {st : St} {E : Env} {sv : List (Nat × List VV)} {a : Act} {S : List (Array Value)} {w w0 : World} {K : Keep}, RelE E st sv a S w w0 K → ∃ E', RelE E' (holdAll nm l st) sv a S w w0 K
  | [], _, _, E, _, _, _, _, _, _, hr => ⟨E, hr⟩
  | (t, p, e, ty, fz, cl) :: r, nm, st, E, _, _, _, _, _, _, hr => by
    obtain ⟨E', hr'⟩ := holdOne_sound (nm := nm) (t := t) (path := p) (e := e) (ty := ty) (fz := fz) hr
    exact holdAll_sound r (nm + 1) (lowOne_sound (cl := cl) (t := t) (path := p) hr')
theorem headAt_sound {cfg : Cfg} {key : Nat} {m m' : Ms} (hn : headAt cfg key m = some m') {E : Env} {a : Act} {S : List (Array Value)} {w w0 : World} {K : Keep} (hr : RelE E m.st m.saved a S w w0 K) :
    ∃ E', RelE E' m'.st m'.saved a S w w0 K := by
  unfold headAt at hn
  split at hn
  · simp only [frc_eq] at hn
    obtain ⟨E', hr'⟩ := holdAll_sound _ 70000000 hr
    exact normAt_sound hn hr'
  · exact normAt_sound hn hr
end Go.Vm
end

section
namespace Go.Vm
open Go
def toExit : Ex → Exit
  | .normal => .normal
  | .exit j => .exit j
  | .ret => .ret
end Go.Vm
end

section
namespace Go.Vm
open Go
section
variable {P : Program} {cfg : Cfg}

def resSem (tmps : Array Value) : ResultVar → Sem Value
  | .tmp t => pure (tmps.getD t undef)
  | .cell a t => do loadVar t (← asAddr (tmps.getD a undef))
theorem resOf_sound (hG : Good P cfg) {E : Env} {st : St} {saved : List (Nat × List VV)} {a : Act} {S : List (Array Value)} {w w0 : World} {K : Keep} (h : RelE E st saved a S w w0 K) :
    ∀ (rs : List ResultVar) (xs : List V1), resOf cfg st rs = some xs → ∃ Vs, (rs.mapM (resSem a.tmps)).run P w = .ok Vs w ∧ All2 (V1Rel E st.heap w) xs Vs
  | [], xs, hx => by cases hx; exact ⟨[], by simp, .nil⟩
  | .tmp t :: rs, xs, hx => by
    simp only [resOf] at hx
    split at hx
    · rename_i x ht
      split at hx
      · rename_i ys hy
        cases hx
        obtain ⟨Vs, h1, h2⟩ := resOf_sound hG h rs ys hy
        have hv := h.tmp t
        rw [ht] at hv
        refine ⟨a.eval (.tmp t) :: Vs, ?_, .cons hv h2⟩
        simp [List.mapM_cons, resSem, h1, Act.eval]
      · cases hx
    · cases hx
  | .cell q T :: rs, xs, hx => by
    simp only [resOf] at hx
    split at hx
    · rename_i t n hT ht
      split at hx
      · rename_i cs hg
        cases hb : Nat.ble t.sz cs.length with
        | false => rw [hb] at hx; cases hx
        | true =>
          rw [hb] at hx
          simp only [cond_true] at hx
          split at hx
          · rename_i ys hy
            cases hx
            obtain ⟨Vs, h1, h2⟩ := resOf_sound hG h rs ys hy
            have hv := h.tmp q
            rw [ht] at hv
            obtain ⟨m, hs, e⟩ := V1Rel.one hv
            obtain ⟨hh, vs, hvs, hcell⟩ := h.ob n _ hg
            have hle := Nat.le_of_ble_eq_true hb
            obtain ⟨V, hV, hr⟩ := load_core (st := st) (E := E) (hG.tab T t hT).ld (cs := cs.take t.sz) (vs := vs.take t.sz) (g := (E.ρ n).1) (p := (E.ρ n).2) (by simp; omega) (hvs.take _) (fun j v hj => by
              rw [List.getElem?_take] at hj
              split at hj
              · exact (hcell j v hj).1
              · cases hj)
            refine ⟨V :: Vs, ?_, .cons hr h2⟩
            have e' : a.tmps[q]?.getD undef = .pointer (some ⟨(E.ρ n).1, (E.ρ n).2, none⟩) := by
              have := e
              simpa [Act.eval] using this
            simp only [Instr.loadAt, Instr.sureAddr, Sem.run_bind, Sem.run_pure, Result.andThen_ok] at hV
            simp [List.mapM_cons, resSem, h1, e', asAddr, hV]
          · cases hx
      · cases hx
    · cases hx

theorem results_sound (hG : Good P cfg) {E : Env} {st : St} {saved : List (Nat × List VV)} {a : Act} {S : List (Array Value)} {w w0 : World} {K : Keep} (h : RelE E st saved a S w w0 K) {fn : Func} {xs : List V1}
    (hx : resTmps cfg fn st = some xs) : ∃ V, (results fn a.tmps).run P w = .ok V w ∧ VRel E st.heap w (resVal xs) V := by
  obtain ⟨Vs, h1, h2⟩ := resOf_sound hG h _ _ hx
  refine ⟨tupOf Vs, ?_, resVal_rel h2⟩
  have e : (results fn a.tmps) = (do let vs ← fn.results.mapM (resSem a.tmps); pure (if h : vs.size = 1 then vs[0] else .tuple vs)) := by
    unfold results
    congr 2
  rw [e]
  have e2 : (fn.results.mapM (resSem a.tmps)).run P w = .ok Vs.toArray w := by
    rw [Array.mapM_eq_mapM_toList]
    simp [h1]
  simp only [Sem.run_bind, e2, Result.andThen_ok, Sem.run_pure]
  congr 1
  match Vs with
  | [] => rfl
  | [V] => rfl
  | _ :: _ :: _ => simp [tupOf]

end
end Go.Vm
end

section
namespace Go.Vm
open Go

inductive Fr where
  | s (b : Code)
  | b (id : Nat)
  | l (key : Nat) (c : Code)
  | fn (f : Func)
  | op (A rest : List Oper) (i : Nat) (dst : Option Tmp)
inductive Job where
  | code (c : Code)
  | pop (e : Ex)
  | ops (A rest : List Oper) (i : Nat)
def enterM (f : FuncId) (fn : Func) (args : List V1) (m : Ms) : Ms := match m with
  | ⟨⟨t, h⟩, b, n, s⟩ => ⟨⟨(args.map VV.v) ++ List.replicate (fn.ntmps - args.length) VV.un, h⟩, 1000 * (n + 1) + 100000000 * f, n + 1, (b, t) :: s⟩
noncomputable section
section
variable {R : Type} (cfg : Cfg) (fin : VV → Ms → Option R)
def noCall : FuncId → List V1 → (VV → Ms → Option R) → Ms → Option R := fun _ _ _ _ => none
def mx (lp : Bool → Nat → Code → List Fr → Ms → Option R) : Nat → List Fr → Job → Ms → Option R
  | 0, _, _, _ => none
  | F + 1, fs, .code c, m => frc m fun m bs nx sv => (match c with
    | .skip => mx lp F fs (.pop .normal) m
    | .region _ ops draw => (match draw with
      | true => execOps cfg true ops.toList noCall (fun m => mx lp F fs (.pop .normal) ⟨m.st, bs, nx, sv⟩) ops.toList 0 [] m
      | false => mx lp F fs (.ops ops.toList ops.toList 0) m)
    | .seq a b => mx lp F (.s b :: fs) (.code a) m
    | .cond c x y => condV m.st c fun s b => (match b with
      | true => mx lp F fs (.code x) ⟨s, bs, nx, sv⟩
      | false => mx lp F fs (.code y) ⟨s, bs, nx, sv⟩)
    | .block id c => mx lp F (.b id :: fs) (.code c) m
    | .loop c => (match headAt cfg (bs + firstR c) m with
      | some m' => lp true (bs + firstR c) c fs m'
      | none => none)
    | .exit id => mx lp F fs (.pop (.exit id)) m
    | .ret => mx lp F fs (.pop .ret) m
    | _ => none)
  | F + 1, fs, .pop e, m => frc m fun m bs nx sv => (match fs with
    | [] => none
    | .s b :: r => (match e with
      | .normal => (match look cfg.join (bs + firstR b) with
        | some key => (match headAt cfg key m with
          | some m' => lp false key b r m'
          | none => none)
        | none => mx lp F r (.code b) m)
      | e => mx lp F r (.pop e) m)
    | .b id :: r => (match e with
      | .exit j => bif Nat.beq j id then mx lp F r (.pop .normal) m else mx lp F r (.pop (.exit j)) m
      | e => mx lp F r (.pop e) m)
    | .l key c :: r => (match e with
      | .normal => (match headAt cfg key m with
        | some m' => lp true key c r m'
        | none => none)
      | e => mx lp F r (.pop e) m)
    | .fn f :: r => (match e with
      | .exit _ => none
      | _ => (match resTmps cfg f m.st, sv with
        | some rs, (b, ts) :: s => (match r with
          | [] => fin (resVal rs) ⟨⟨ts, m.st.heap⟩, b, nx, s⟩
          | .op A rest i dst :: r' => mx lp F r' (.ops A rest i) ⟨putV ⟨ts, m.st.heap⟩ dst (resVal rs), b, nx, s⟩
          | _ => none)
        | _, _ => none))
    | .op _ _ _ _ :: _ => none)
  | F + 1, fs, .ops A rest i, m => frc m fun m bs nx sv => (match rest with
    | [] => mx lp F fs (.pop .normal) m
    | o :: r =>
      let skip (m : Ms) : Option R := mx lp F fs (.ops A r (i + 1)) ⟨putV m.st o.dst (.tup []), bs, nx, sv⟩
      let plain (m : Ms) : Option R := (opRP cfg bs o).run m.st (fun u v _ => mx lp F fs (.ops A r (i + 1)) ⟨putV (m.st.upds u) o.dst v, bs, nx, sv⟩) []
      let enter (f : FuncId) (vs : List V1) (m : Ms) : Option R := (match look cfg.inl f with
        | some fn => (match fn.body with
          | some c => mx lp F (.fn fn :: .op A r (i + 1) o.dst :: fs) (.code c) (enterM f fn vs m)
          | none => none)
        | none => none)
      let act (m : Ms) : Option R :=
        match o.op with
        | .call { callee := .value (.func f), args, .. } => (match look cfg.inl f with
          | none => plain m
          | some _ => (rdArgs args.toList fun vs => .done [] (.tup vs)).run m.st (fun _ vs _ => match vs with
            | .tup vs => enter f vs m
            | _ => none) [])
        | .call { callee := .value (.tmp t), args, .. } => (match tget m.st.tmps t with
          | .v ⟨false, [.fn f caps]⟩ => (rdArgs args.toList fun vs => .done [] (.tup vs)).run m.st (fun _ vs _ => match vs with
            | .tup vs => enter f (vs ++ caps.map fun c => ⟨false, [.ptr c 0]⟩) m
            | _ => none) []
          | _ => none)
        | _ => plain m
      match o.guard with
      | none => act m
      | some (j, want) => match dstOf A j with
        | none => none
        | some t => match tget m.st.tmps t with
          | .v ⟨false, [.bool b]⟩ => (match b with
            | true => bif want then act ⟨setB m.st t true, bs, nx, sv⟩ else skip ⟨setB m.st t true, bs, nx, sv⟩
            | false => bif want then skip ⟨setB m.st t false, bs, nx, sv⟩ else act ⟨setB m.st t false, bs, nx, sv⟩)
          | .tup [] => skip m
          | _ => none)
def lpN : Nat → Bool → Nat → Code → List Fr → Ms → Option R
  | 0, _, _, _, _, _ => none
  | n + 1, isL, key, c, fs, m => mx cfg fin (lpN n) 1000000 (bif isL then .l key c :: fs else fs) (.code c) m
def runX (k : Nat) (f : FuncId) (args : List V1) (m : Ms) : Option R := match look cfg.inl f with
  | some fn => (match fn.body with
    | some c => mx cfg fin (lpN cfg fin k) 1000000 [.fn fn] (.code c) (enterM f fn args m)
    | none => none)
  | none => none
end
end

def before (n' F' n F : Nat) : Prop := n' < n ∨ (n' = n ∧ F' < F)
theorem before.trans {a b c d e f : Nat} (h : before a b c d) (k : before c d e f) : before a b e f := by
  unfold before at *; omega
theorem lex_induct {p : Nat → Nat → Prop} (h : ∀ n F, (∀ n' F', before n' F' n F → p n' F') → p n F) : ∀ n F, p n F := by
  intro n
  induction n using Nat.strongRecOn with
  | _ n ihn =>
    intro F
    induction F using Nat.strongRecOn with
    | _ F ihF =>
      exact h n F fun n' F' hb => by
        rcases hb with hb | ⟨rfl, hb⟩
        · exact ihn n' hb F'
        · exact ihF F' hb
theorem rounds_mono {P : Program} {c : Code} {Q : Exit → Act → World → Prop} : ∀ {n m : Nat} {a : Act} {w : World}, n ≤ m → Code.rounds P c Q n a w → Code.rounds P c Q m a w := by
  intro n
  induction n with
  | zero => intro m a w _ h; exact h.elim
  | succ n ih =>
    intro m a w hm h
    obtain ⟨m, rfl⟩ : ∃ k, m = k + 1 := ⟨m - 1, by omega⟩
    rw [rounds_succ] at h ⊢
    exact wp_mono h fun e a w q => by
      cases e with
      | normal => exact ih (by omega) q
      | _ => exact q
section
variable {P : Program} {cfg : Cfg} {R : Type} {r : R} {fin : VV → Ms → Option R} {w0 : World} {K : Keep}
def Behind (cfg : Cfg) (fin : VV → Ms → Option R) (w0 : World) (K : Keep) (r : R) (n F : Nat) (fs : List Fr) (S : List (Array Value)) (Q : Exit → Act → World → Prop) : Prop :=
  ∀ n' F' e m' a' w' E', before n' F' n F → mx cfg fin (lpN cfg fin n') F' fs (.pop e) m' = some r → RelE E' m'.st m'.saved a' S w' w0 K → Q (toExit e) a' w'
theorem Behind.mono {n F n' F' : Nat} {fs : List Fr} {S : List (Array Value)} {Q : Exit → Act → World → Prop} (h : Behind cfg fin w0 K r n F fs S Q) (hb : before n' F' n F) : Behind cfg fin w0 K r n' F' fs S Q :=
  fun n'' F'' e m' a' w' E' hb' h1 h2 => h n'' F'' e m' a' w' E' (hb'.trans hb) h1 h2
def CodeS (P : Program) (cfg : Cfg) (fin : VV → Ms → Option R) (w0 : World) (K : Keep) (r : R) (n F : Nat) : Prop :=
  ∀ (c : Code) (fs : List Fr) (m : Ms) (S : List (Array Value)) (E : Env) (a : Act) (w : World) (Q : Exit → Act → World → Prop), mx cfg fin (lpN cfg fin n) F fs (.code c) m = some r → RelE E m.st m.saved a S w w0 K → Behind cfg fin w0 K r n F fs S Q → c.wp P Q a w
def OpsS (P : Program) (cfg : Cfg) (fin : VV → Ms → Option R) (w0 : World) (K : Keep) (r : R) (n F : Nat) : Prop :=
  ∀ (A : Array Oper) (rest : List Oper) (i : Nat) (fs : List Fr) (m : Ms) (S : List (Array Value)) (E : Env) (a : Act) (w : World) (Q : Exit → Act → World → Prop), A.toList.drop i = rest → mx cfg fin (lpN cfg fin n) F fs (.ops A.toList rest i) m = some r →
    RelE E m.st m.saved a S w w0 K → Behind cfg fin w0 K r n F fs S Q → wpOps P A Q (List.range' i rest.length) a w
theorem loop_soundX {n0 F0 : Nat} (ih : ∀ n' F', before n' F' n0 F0 → CodeS P cfg fin w0 K r n' F') {c : Code} {key : Nat} {fs : List Fr} {S : List (Array Value)} {Q : Exit → Act → World → Prop} (hQ : Behind cfg fin w0 K r n0 F0 fs S Q) :
    ∀ (n : Nat) (m : Ms) {E : Env} {a : Act} {w : World}, n ≤ n0 → lpN cfg fin n true key c fs m = some r → RelE E m.st m.saved a S w w0 K → Code.rounds P c Q n a w := by
  intro n
  induction n using Nat.strongRecOn with
  | _ n ihn =>
    intro m E a w hn h hr
    cases n with
    | zero => cases h
    | succ n =>
      rw [rounds_succ]
      have hlt : ∀ F, before n F n0 F0 := fun F => .inl (by omega)
      refine ih n 1000000 (hlt _) c (.l key c :: fs) m S E a w _ h hr fun n' F' e m' a' w' E' hb h1 hr' => ?_
      cases F' with
      | zero => cases h1
      | succ F' =>
        cases e with
        | normal =>
          simp only [mx, frc_eq] at h1
          split at h1
          · rename_i m'' hm
            obtain ⟨E'', hr''⟩ := headAt_sound hm hr'
            have hle : n' ≤ n := by unfold before at hb; omega
            exact rounds_mono hle (ihn n' (by omega) m'' (by omega) h1 hr'')
          · cases h1
        | exit j => exact hQ n' F' (.exit j) m' a' w' E' ((show before n' F' n 1000000 by unfold before at *; omega).trans (hlt _)) h1 hr'
        | ret => exact hQ n' F' .ret m' a' w' E' ((show before n' F' n 1000000 by unfold before at *; omega).trans (hlt _)) h1 hr'

theorem mx_sound (hG : Ok P cfg) (hm : P.follows .mixedOrders = true) (hfn : ∀ f fn, look cfg.inl f = some fn → P.funcs[f]? = some fn) : ∀ n F, CodeS P cfg fin w0 K r n F ∧ OpsS P cfg fin w0 K r n F := by
  refine lex_induct fun n F ih => ⟨?_, ?_⟩
  · intro c fs m S E a w Q h hr hQ
    cases F with
    | zero => cases h
    | succ F =>
      have hF : before n F n (F + 1) := .inr ⟨rfl, Nat.lt_succ_self F⟩
      have ihc := (ih n F hF).1
      cases c with
      | skip => exact wp_skip (hQ n F .normal m a w E hF h hr)
      | region id ops draw =>
        simp only [mx, frc_eq] at h
        cases draw with
        | true => exact ops_draw hG hm ops id m h hr fun m' a' w' E' hx hs hr' => hQ n F .normal ⟨m'.st, m.base, m.next, m.saved⟩ a' w' E' hF hx (hs ▸ hr')
        | false =>
          refine wp_region ?_
          rw [List.range_eq_range', ← Array.length_toList]
          exact (ih n F hF).2 ops ops.toList 0 fs m S E a w Q rfl h hr (hQ.mono hF)
      | seq x y =>
        simp only [mx, frc_eq] at h
        refine wp_seq (ihc x (.s y :: fs) m S E a w _ h hr fun n' F' e m' a' w' E' hb h1 hr' => ?_)
        cases F' with
        | zero => cases h1
        | succ F' =>
          have hb' : before n' F' n (F + 1) := by unfold before at *; omega
          cases e with
          | normal =>
            simp only [mx, frc_eq] at h1
            split at h1
            · split at h1
              · rename_i m'' hm''
                obtain ⟨E'', hr''⟩ := headAt_sound hm'' hr'
                cases n' with
                | zero => cases h1
                | succ n' =>
                  have hb2 : before n' 1000000 n (F + 1) := by unfold before at *; omega
                  exact (ih n' 1000000 hb2).1 y fs m'' S E'' a' w' Q h1 hr'' (hQ.mono hb2)
              · cases h1
            · exact (ih n' F' hb').1 y fs m' S E' a' w' Q h1 hr' (hQ.mono hb')
          | exit j => exact hQ n' F' (.exit j) m' a' w' E' hb' h1 hr'
          | ret => exact hQ n' F' .ret m' a' w' E' hb' h1 hr'
      | cond g x y =>
        simp only [mx, frc_eq] at h
        unfold condV at h
        split at h
        · rename_i t
          split at h
          · rename_i b ht
            have hv := hr.tmp t
            rw [ht] at hv
            have hb : a.eval (.tmp t) = .bool b := V1Rel.one hv
            refine wp_cond hb ?_
            cases b <;> simp only [setB_same ht] at h
            · exact ihc y fs m S E a w Q h hr (hQ.mono hF)
            · exact ihc x fs m S E a w Q h hr (hQ.mono hF)
          · cases h
        · rename_i b
          refine wp_cond (t := b) rfl ?_
          cases b
          · exact ihc y fs m S E a w Q h hr (hQ.mono hF)
          · exact ihc x fs m S E a w Q h hr (hQ.mono hF)
        · cases h
      | block id c =>
        simp only [mx, frc_eq] at h
        refine wp_block (ihc c (.b id :: fs) m S E a w _ h hr fun n' F' e m' a' w' E' hb h1 hr' => ?_)
        cases F' with
        | zero => cases h1
        | succ F' =>
          have hb' : before n' F' n (F + 1) := by unfold before at *; omega
          cases e with
          | normal => exact hQ n' F' .normal m' a' w' E' hb' h1 hr'
          | exit j =>
            simp only [mx, frc_eq] at h1
            simp only [toExit, Exit.inBlock]
            cases hbq : Nat.beq j id with
            | true =>
              rw [hbq] at h1
              rw [if_pos (Nat.eq_of_beq_eq_true hbq)]
              exact hQ n' F' .normal m' a' w' E' hb' h1 hr'
            | false =>
              rw [hbq] at h1
              rw [if_neg (fun e => by rw [e, Nat.beq_refl] at hbq; cases hbq)]
              exact hQ n' F' (.exit j) m' a' w' E' hb' h1 hr'
          | ret => exact hQ n' F' .ret m' a' w' E' hb' h1 hr'
      | loop c =>
        simp only [mx, frc_eq] at h
        split at h
        · rename_i m' hm'
          obtain ⟨E', hr'⟩ := headAt_sound hm' hr
          exact wp_loop_rounds n (loop_soundX (n0 := n) (F0 := F + 1) (fun n' F' hb => (ih n' F' hb).1) hQ n m' (Nat.le_refl n) h hr')
        · cases h
      | exit id => exact wp_exit (hQ n F (.exit id) m a w E hF h hr)
      | ret => exact wp_ret (hQ n F .ret m a w E hF h hr)
      | _ => simp [mx, frc_eq] at h
  · intro A rest i fs m S E a w Q hA h hr hQ
    cases F with
    | zero => cases h
    | succ F =>
      have hF : before n F n (F + 1) := .inr ⟨rfl, Nat.lt_succ_self F⟩
      cases rest with
      | nil => exact hQ n F .normal m a w E hF h hr
      | cons o rest =>
        have hi : A[i]? = some o := by
          rw [← Array.getElem?_toList]
          have := congrArg (·[0]?) hA
          simpa using this
        have hA' : A.toList.drop (i + 1) = rest := by
          have := congrArg List.tail hA
          simpa using this
        have go : ∀ {n' F' : Nat} {m' : Ms} {a' : Act} {w' : World} {E' : Env}, before n' F' n (F + 1) → mx cfg fin (lpN cfg fin n') F' fs (.ops A.toList rest (i + 1)) m' = some r → RelE E' m'.st m'.saved a' S w' w0 K → wpOps P A Q (List.range' (i + 1) rest.length) a' w' :=
          fun hb h1 h2 => (ih _ _ hb).2 A rest (i + 1) fs _ S _ _ _ Q hA' h1 h2 (hQ.mono hb)
        have skip : Region.wanted o (yielded A a.tmps) = false → mx cfg fin (lpN cfg fin n) F fs (.ops A.toList rest (i + 1)) { m with st := putV m.st o.dst (.tup []) } = some r →
            wpOps P A Q (List.range' i (o :: rest).length) a w := by
          intro hw h1
          simp only [List.length_cons, List.range'_succ, wpOps, hi, hw, Bool.false_eq_true, if_false]
          exact go hF h1 (hr.put o.dst (show VRel E m.st.heap w (.tup []) undef from ⟨[], .nil, rfl⟩))
        have plain : Region.wanted o (yielded A a.tmps) = true → (opRP cfg m.base o).run m.st (fun u v _ => mx cfg fin (lpN cfg fin n) F fs (.ops A.toList rest (i + 1)) { m with st := putV (m.st.upds u) o.dst v }) [] = some r →
            wpOps P A Q (List.range' i (o :: rest).length) a w := by
          intro hw h1
          simp only [List.length_cons, List.range'_succ, wpOps, hi, hw, if_true]
          obtain ⟨u, v, l', h2, hs⟩ := s_op hG hr h1
          exact .inl (hs Q _ fun a' w' E' h3 => go hF h2 h3)
        have inl : ∀ {c : Call} {g : Operand} {f : FuncId} {cap : Array Value} {caps : List Nat}, Region.wanted o (yielded A a.tmps) = true → o.op = .call c → c.callee = .value g → a.eval g = .func (.func f) #[] cap →
            All2 (PtrRel E m.st.heap) caps cap.toList → (rdArgs c.args.toList fun vs => .done [] (.tup vs)).run m.st (fun _ vs _ => match vs with
                | .tup vs => (match look cfg.inl f with
                  | some fn => (match fn.body with
                    | some c => mx cfg fin (lpN cfg fin n) F (.fn fn :: .op A.toList rest (i + 1) o.dst :: fs) (.code c) (enterM f fn (vs ++ caps.map fun c => ⟨false, [.ptr c 0]⟩) m)
                    | none => none)
                  | none => none)
                | _ => none) [] = some r → wpOps P A Q (List.range' i (o :: rest).length) a w := by
          intro c g f cap caps hw ho hc hg hcap h1
          simp only [List.length_cons, List.range'_succ, wpOps, hi, hw, if_true]
          obtain ⟨vs, l1, h2, h3⟩ := run_rdArgs _ _ _ h1
          simp only [RP.run] at h2
          split at h2
          · rename_i fn hin
            split at h2
            · rename_i cb hcb
              have hex := call_exec (P := P) (w := w) (ρ := a.eval) ho hc hg (hG.enter f (.inr (by rw [hin]; rfl)))
              refine .inl ?_
              unfold Oper.wp
              rw [hex, Oper.upon_enter]
              have hargs : All2 (V1Rel E m.st.heap w) (vs ++ caps.map fun c => (⟨false, [.ptr c 0]⟩ : V1)) (c.args.toList.map a.eval ++ cap.toList) := (h3 hr).append (caps_v1 hcap)
              have harr : (c.args.toList.map a.eval ++ cap.toList).toArray = c.args.map a.eval ++ cap := by apply Array.toList_inj.1; simp
              have := calls_of_wp (P := P) (f := f) (fn := fn) (c := cb) (args := (c.args.toList.map a.eval ++ cap.toList).toArray) (w := w) (R := fun
                | .returned v, w'' => wpOps P A Q (List.range' (i + 1) rest.length) (a.put o.dst v) w''
                | .panicked chain, w'' => Q (.panic chain) a w''
                | .outgrown, _ => LetsOut Q) (hfn f fn hin) hcb ?_
              · rwa [harr] at this
              · refine (ih n F hF).1 cb _ _ (a.tmps :: S) E _ w _ h2 ?_ fun n' F' e m' a' w' E' hb h4 hr' => ?_
                · refine { hr with tm := ?_, df := rfl, sv := .cons hr.tm hr.sv }
                  have hl := hargs.length
                  generalize hvs : (vs ++ caps.map fun c => (⟨false, [.ptr c 0]⟩ : V1)) = us at hargs hl
                  generalize har : c.args.toList.map a.eval ++ cap.toList = args at hargs hl
                  have e1 : (args.toArray ++ Array.replicate (fn.ntmps - args.toArray.size) undef).toList = args ++ List.replicate (fn.ntmps - us.length) undef := by simp [hl]
                  show All2 _ (us.map VV.v ++ List.replicate (fn.ntmps - us.length) VV.un) _
                  rw [e1]
                  refine All2.append ?_ (All2.replicate _ _ trivial _)
                  clear hl e1 hvs har
                  induction hargs with
                  | nil => exact .nil
                  | cons p _ ih => exact .cons p ih
                · cases F' with
                  | zero => cases h4
                  | succ F' =>
                    have hb' : before n' F' n (F + 1) := by unfold before at *; omega
                    have fin' : (match resTmps cfg fn m'.st, m'.saved with
                      | some rs, (b, ts) :: s => mx cfg fin (lpN cfg fin n') F' fs (.ops A.toList rest (i + 1)) { m' with st := putV ⟨ts, m'.st.heap⟩ o.dst (resVal rs), base := b, saved := s }
                      | _, _ => none) = some r → a'.defers = [] ∧ ∃ v, (results fn a'.tmps).run P w' = .ok v w' ∧ wpOps P A Q (List.range' (i + 1) rest.length) (a.put o.dst v) w' := by
                      intro h1
                      split at h1
                      · rename_i rs b ts s hrs hsv
                        obtain ⟨V, hV, hrel⟩ := results_sound hG.toGood hr' hrs
                        refine ⟨hr'.df, V, hV, ?_⟩
                        have hsv' := hr'.sv
                        rw [hsv] at hsv'
                        cases hsv' with
                        | cons p q =>
                          have hr2 : RelE E' ⟨ts, m'.st.heap⟩ s a S w' w0 K := { hr' with tm := p, df := hr.df, sv := q }
                          exact go hb' h1 (hr2.put o.dst hrel)
                      · cases h1
                    cases e with
                    | normal => exact fin' h4
                    | ret => exact fin' h4
                    | exit j => cases h4
            · cases h2
          · cases h2
        have act : Region.wanted o (yielded A a.tmps) = true → (match o.op with
          | .call { callee := .value (.func f), args, .. } => (match look cfg.inl f with
            | none => (opRP cfg m.base o).run m.st (fun u v _ => mx cfg fin (lpN cfg fin n) F fs (.ops A.toList rest (i + 1)) { m with st := putV (m.st.upds u) o.dst v }) []
            | some _ => (rdArgs args.toList fun vs => .done [] (.tup vs)).run m.st (fun _ vs _ => match vs with
              | .tup vs => (match look cfg.inl f with
                  | some fn => (match fn.body with
                    | some c => mx cfg fin (lpN cfg fin n) F (.fn fn :: .op A.toList rest (i + 1) o.dst :: fs) (.code c) (enterM f fn vs m)
                    | none => none)
                  | none => none)
              | _ => none) [])
          | .call { callee := .value (.tmp t), args, .. } => (match tget m.st.tmps t with
            | .v ⟨false, [.fn f caps]⟩ => (rdArgs args.toList fun vs => .done [] (.tup vs)).run m.st (fun _ vs _ => match vs with
              | .tup vs => (match look cfg.inl f with
                  | some fn => (match fn.body with
                    | some c => mx cfg fin (lpN cfg fin n) F (.fn fn :: .op A.toList rest (i + 1) o.dst :: fs) (.code c) (enterM f fn (vs ++ caps.map fun c => ⟨false, [.ptr c 0]⟩) m)
                    | none => none)
                  | none => none)
              | _ => none) []
            | _ => none)
          | _ => (opRP cfg m.base o).run m.st (fun u v _ => mx cfg fin (lpN cfg fin n) F fs (.ops A.toList rest (i + 1)) { m with st := putV (m.st.upds u) o.dst v }) []) = some r → wpOps P A Q (List.range' i (o :: rest).length) a w := by
          intro hw h1
          split at h1
          · rename_i f args at_ ho
            split at h1
            · exact plain hw h1
            · refine inl (c := { callee := .value (.func f), args, argTypes := at_ }) (g := .func f) (f := f) (cap := #[]) (caps := []) hw ho rfl rfl .nil ?_
              simpa using h1
          · rename_i t args at_ ho
            split at h1
            · rename_i f caps ht
              have hv := hr.tmp t
              rw [ht] at hv
              obtain ⟨cap, e, hcap⟩ := V1Rel.one hv
              exact inl (c := { callee := .value (.tmp t), args, argTypes := at_ }) (g := .tmp t) hw ho rfl e hcap h1
            · cases h1
          · exact plain hw h1
        unfold mx at h
        simp only [frc_eq] at h
        cases hgd : o.guard with
        | none =>
          rw [hgd] at h
          exact act (by simp [Region.wanted, hgd]) h
        | some gw =>
          obtain ⟨j, want⟩ := gw
          rw [hgd] at h
          simp only [dstOf_eq] at h
          cases hd : (A[j]?).bind (·.dst) with
          | none => rw [hd] at h; cases h
          | some t =>
            rw [hd] at h
            simp only at h
            split at h
            · rename_i b ht
              have hb := tmp_bool hr ht
              have hwant : Region.wanted o (yielded A a.tmps) = (b == want) := by
                simp [Region.wanted, hgd, yielded, hd, hb]
              cases b <;> cases want <;> simp only [cond_true, cond_false, setB_same ht] at h
              · exact act (by rw [hwant]; rfl) h
              · exact skip (by rw [hwant]; rfl) h
              · exact skip (by rw [hwant]; rfl) h
              · exact act (by rw [hwant]; rfl) h
            · rename_i ht
              have hb := tmp_undef hr ht
              exact skip (by simp [Region.wanted, hgd, yielded, hd, hb]) h
            · cases h
theorem runX_ok (hG : Ok P cfg) (hm : P.follows .mixedOrders = true) (hfn : ∀ f fn, look cfg.inl f = some fn → P.funcs[f]? = some fn) {k : Nat} {f : FuncId} {vs : List V1} {m : Ms} (h : runX cfg fin k f vs m = some r) :
    ∀ {E : Env} {a : Act} {S : List (Array Value)} {w w0 : World} {Kp : Keep} {args : List Value}, RelE E m.st m.saved a S w w0 Kp → All2 (V1Rel E m.st.heap w) vs args →
    ∀ (Q : Ending → World → Prop), (∀ v V m' w' E', fin v m' = some r → RelE E' m'.st m'.saved a S w' w0 Kp → VRel E' m'.st.heap w' v V → Q (.returned V) w') → Calls P f args.toArray w Q := by
  intro E a S w w0 Kp args hr hargs Q hk
  unfold runX at h
  split at h
  · rename_i fn hf
    split at h
    · rename_i c hc
      refine calls_of_wp (hfn f fn hf) hc ?_
      refine (mx_sound (w0 := w0) (K := Kp) hG hm hfn k 1000000).1 c _ _ (a.tmps :: S) E _ w _ h ?_ fun n' F' e m' a' w' E' hb h4 hr' => ?_
      · refine { hr with tm := ?_, df := rfl, sv := .cons hr.tm hr.sv }
        have hl := hargs.length
        have h1 : (args.toArray ++ Array.replicate (fn.ntmps - args.toArray.size) undef).toList = args ++ List.replicate (fn.ntmps - vs.length) undef := by simp [hl]
        show All2 _ (vs.map VV.v ++ List.replicate (fn.ntmps - vs.length) VV.un) _
        rw [h1]
        refine All2.append ?_ (All2.replicate _ _ trivial _)
        clear h1 hl h
        induction hargs with
        | nil => exact .nil
        | cons p _ ih => exact .cons p ih
      · cases F' with
        | zero => cases h4
        | succ F' =>
          have fin' : (match resTmps cfg fn m'.st, m'.saved with
            | some rs, (b, ts) :: s => fin (resVal rs) { m' with st := ⟨ts, m'.st.heap⟩, base := b, saved := s }
            | _, _ => none) = some r → a'.defers = [] ∧ ∃ v, (results fn a'.tmps).run P w' = .ok v w' ∧ Q (.returned v) w' := by
            intro h1
            split at h1
            · rename_i rs b ts s hrs hsv
              obtain ⟨V, hV, hrel⟩ := results_sound hG.toGood hr' hrs
              refine ⟨hr'.df, V, hV, ?_⟩
              have hsv' := hr'.sv
              rw [hsv] at hsv'
              cases hsv' with
              | cons p q => exact hk _ V _ w' E' h1 { hr' with tm := p, df := hr.df, sv := q } hrel
            · cases h1
          cases e with
          | normal => exact fin' h4
          | ret => exact fin' h4
          | exit j => cases h4
    · cases h
  · cases h
end
end Go.Vm
end

section
namespace Go.Vm
open Go

def argV (t : Ty) (x : El t) : V1 := ⟨t.agg, explode t x⟩
def ms0 : Ms := { st := ⟨[], []⟩, base := 0, next := 0, saved := [] }
def outC (h : Heap) (c : Cell) : Option (RC × List Nat) :=
  match c with
  | .row o lo hi => (match hget h o with
    | some (.row e t xs own) => (match own with
      | true => some (.own e t (cut lo hi xs), [o])
      | false => some (.c (.slc e t (cut lo hi xs)), []))
    | _ => none)
  | .ptr _ _ | .eptr _ _ _ | .fn _ _ | .mp _ => none
  | c => some (.c c, [])
section
variable {P : Program} {cfg : Cfg} {E : Env} {st : St} {saved : List (Nat × List VV)} {a : Act} {S : List (Array Value)} {w w' w0 : World} {K : Keep}

def OwnB (E : Env) (h : Heap) (ns bs : List Nat) : Prop := ∃ ns', List.Sublist ns' ns ∧ bs = ns'.map (fun n => (E.ρ n).1) ∧ ∀ n ∈ ns', E.has n ∧ Live h n
theorem OwnB.append {h : Heap} {ns ns2 bs bs2 : List Nat} (p : OwnB E h ns bs) (q : OwnB E h ns2 bs2) : OwnB E h (ns ++ ns2) (bs ++ bs2) := by
  obtain ⟨m, h1, rfl, h2⟩ := p
  obtain ⟨m2, h3, rfl, h4⟩ := q
  exact ⟨m ++ m2, h1.append h3, by simp, fun n hn => by
    rcases List.mem_append.1 hn with hn | hn
    · exact h2 n hn
    · exact h4 n hn⟩
theorem OwnB.nil {h : Heap} : OwnB E h [] [] := ⟨[], List.Sublist.refl _, rfl, fun n hn => by cases hn⟩

theorem outC_sound (h : RelE E st saved a S w w0 K) {c : Cell} {rc : RC} {ns : List Nat} (ho : outC st.heap c = some (rc, ns)) {v : Value} (hc : CellRel E st.heap w c v) :
    ∃ bs, RcRel E.ok w rc v bs ∧ OwnB E st.heap ns bs := by
  cases c with
  | row o lo hi =>
    simp only [outC] at ho
    cases hg : hget st.heap o with
    | none => rw [hg] at ho; cases ho
    | some b =>
      rw [hg] at ho
      cases b with
      | row e t xs own =>
        cases own with
        | true =>
          simp only [Option.some.injEq, Prod.mk.injEq] at ho
          obtain ⟨rfl, rfl⟩ := ho
          have hs : hsh st.heap o = some (.row e t xs.length) := by simp [hsh, hg, shape]
          simp only [CellRel, hs] at hc
          obtain ⟨hcut, A, c, rfl, hle, hx⟩ := hc
          have hle := cutLen_le hcut hle
          have hlen := cut_len hcut
          obtain ⟨_, hob⟩ := h.ob o _ hg
          rcases hx with rfl | ⟨hh, rfl, hR⟩
          · exact ⟨[], ⟨A, 0, by rw [hlen], by rw [hlen]; exact hle, .inl ⟨rfl, rfl⟩⟩, ⟨[], List.nil_sublist _, rfl, fun n hn => by cases hn⟩⟩
          · obtain ⟨hrow, hnf, _⟩ := hob hh
            refine ⟨[(E.ρ o).1], ⟨_, c, by rw [hlen], by rw [hlen]; exact hle, .inr ⟨_, _, rfl, rfl, rowAt_cut hrow hcut, hnf rfl, ?_⟩⟩, ⟨[o], List.Sublist.refl _, rfl, fun n hn => ?_⟩⟩
            · rw [Nat.add_assoc, ← Nat.add_mul]; exact hR
            · rw [List.mem_singleton.1 hn]
              exact ⟨hh, by unfold Live; rw [hg]; trivial⟩
        | false =>
          simp only [Option.some.injEq, Prod.mk.injEq] at ho
          obtain ⟨rfl, rfl⟩ := ho
          refine ⟨[], ⟨rfl, ?_⟩, OwnB.nil⟩
          exact row_imm h hg hc (fun b hb => hb) (fun hh => ((h.ob o _ hg).2 hh).2.2 rfl) e
      | _ => cases ho
  | ptr => cases ho
  | eptr => cases ho
  | fn => cases ho
  | mp => cases ho
  | int => cases ho; exact ⟨[], ⟨rfl, hc⟩, OwnB.nil⟩
  | bool => cases ho; exact ⟨[], ⟨rfl, hc⟩, OwnB.nil⟩
  | str => cases ho; exact ⟨[], ⟨rfl, hc⟩, OwnB.nil⟩
  | nilS => cases ho; exact ⟨[], ⟨rfl, hc⟩, OwnB.nil⟩
  | slc e t xs => cases ho; exact ⟨[], ⟨rfl, hc⟩, OwnB.nil⟩
  | iptr t x f => cases ho; exact ⟨[], ⟨rfl, hc⟩, OwnB.nil⟩
theorem distinct_nodup : ∀ {l : List Nat}, distinct l = true → l.Nodup
  | [], _ => List.nodup_nil
  | n :: l, h => by
    obtain ⟨h1, h2⟩ := distinct_cons h
    exact List.nodup_cons.2 ⟨h1, distinct_nodup h2⟩

theorem start_rel {ok : Nat → Prop} (hok : ∀ b, ok b → b < w.heap.size) : RelE (env0 ok) ms0.st ms0.saved ⟨#[], []⟩ [] w w ⟨fun b => b < w.heap.size, ok⟩ :=
  ⟨.nil, rfl, .nil, (fun n o h => by cases h), (fun n n' hne hl hl' hh hh' => False.elim hl), (fun n hl hh => False.elim hl), (fun n h => by cases h), hok, (fun b hb => ⟨hb, rfl⟩), rfl, rfl, rfl, Nat.le_refl _, (fun b hb _ => hb), (fun _ _ h => h)⟩
theorem arg_rel {ok : Nat → Prop} {t : Ty} {x : El t} {v : Value} (h : ImmArg ok w t x v) : V1Rel (env0 ok) ms0.st.heap w (argV t x) v := by
  obtain ⟨cs, hi, hV⟩ := h
  exact ⟨cs, explode_rel (E := env0 ok) hi, hV⟩
end
end Go.Vm
end

section
namespace Go.Vm
open Go

def Wf : (t : Ty) → El t → Prop
  | .int k, n => k.min ≤ n ∧ n ≤ k.max
  | .bool, _ => True
  | .str, s => s.size ≤ maxLen
  | .slice _ t, xs => xs.length ≤ maxLen ∧ ∀ x ∈ xs, Wf t x
  | .nil, _ => True
  | .fld a r, x => Wf a x.1 ∧ Wf r x.2
def DRG {H : Type} : (t : Ty) → Bool → El t → List (DataW H) → Prop
  | .int k, _, n, ds => ds = [.lit (.int k n)]
  | .bool, _, b, ds => ds = [.lit (.bool b)]
  | .str, _, s, ds => ds = [.lit (.string s.data.toList)]
  | .slice _ t, _, xs, ds => (ds = [.nil] ∧ xs = []) ∨ ∃ es sp, ds = [.slice es sp] ∧ All2 (fun x e => DRG t false x [e]) xs es
  | .nil, false, _, ds => ds = [.agg []]
  | .nil, true, _, ds => ds = []
  | .fld a r, false, x, ds => ∃ d ps, ds = [.agg (d :: ps)] ∧ DRG a false x.1 [d] ∧ DRG r true x.2 ps
  | .fld a r, true, x, ds => ∃ d ps, ds = d :: ps ∧ DRG a false x.1 [d] ∧ DRG r true x.2 ps

theorem mapM_some {α β : Type} {f : α → Option β} : ∀ {l : List α} {r : List β}, l.mapM f = some r → All2 (fun a b => f a = some b) l r
  | [], r, h => by simp at h; subst h; exact .nil
  | a :: l, r, h => by
    simp only [List.mapM_cons, Option.bind_eq_bind, Option.pure_def, Option.bind_eq_some_iff] at h
    obtain ⟨b, h1, bs, h2, h3⟩ := h
    cases h3
    exact .cons h1 (mapM_some h2)
theorem TyOk.cells {P : Program} {t : Ty} {T : TypeId} (h : TyOk P t T) : P.cellsOf T = t.sz := by
  obtain ⟨i, hi, hs, _⟩ := h.base.info
  simp [Program.cellsOf, hi, hs]

def Ty.pos : Ty → Bool
  | .slice _ t => Nat.ble 1 t.sz && t.pos
  | .fld a r => a.pos && r.pos
  | _ => true
theorem range_mapM {β : Type} {f : Nat → Option β} {n : Nat} {r : List β} (h : (List.range n).mapM f = some r) : r.length = n ∧ ∀ i (hi : i < r.length), f i = some r[i] := by
  have h2 := mapM_some h
  have hl : r.length = n := by rw [← h2.length, List.length_range]
  refine ⟨hl, fun i hi => ?_⟩
  obtain ⟨b, hb, hf⟩ := h2.get i i (List.getElem?_range (by omega))
  rw [List.getElem?_eq_getElem hi] at hb
  cases hb
  exact hf
theorem cells_some {w : World} {a : Addr} {n : Nat} {cs : List Value} (h : w.cells? 0 a n = some cs) : cs.length = n ∧ ∀ i (hi : i < cs.length), w.cell? (a.add i) = some cs[i] := by
  simp only [World.cells?, Nat.zero_le, if_true] at h
  exact range_mapM h
theorem plain_of_cell {w : World} {a : Addr} {v : Value} (h : w.cell? a = some v) : ∃ g off, a = ⟨g, off, none⟩ ∧ g < w.heap.size := by
  obtain ⟨g, off, sp⟩ := a
  have hl : g < w.heap.size := by
    rcases Nat.lt_or_ge g w.heap.size with hl | hl
    · exact hl
    · simp only [World.cell?, Array.getElem?_eq_none hl] at h; cases h
  cases sp with
  | none => exact ⟨g, off, rfl, hl⟩
  | some s =>
    simp only [World.cell?] at h
    split at h
    · simp at h
    · cases h

theorem all2_of_get {α β : Type} {r : α → β → Prop} : ∀ {l : List α} {m : List β}, l.length = m.length → (∀ (i : Nat) (a : α) (b : β), l[i]? = some a → m[i]? = some b → r a b) → All2 r l m
  | [], [], _, _ => .nil
  | [], _ :: _, h, _ => by simp at h
  | _ :: _, [], h, _ => by simp at h
  | a :: l, b :: m, h, k => .cons (k 0 a b rfl rfl) (all2_of_get (by simpa using h) fun i a b h1 h2 => k (i + 1) a b (by simpa using h1) (by simpa using h2))
theorem list_of_get {α : Type} {r : Nat → α → Prop} : ∀ (n : Nat), (∀ i, i < n → ∃ a, r i a) → ∃ l : List α, l.length = n ∧ ∀ i (h : i < l.length), r i l[i]
  | 0, _ => ⟨[], rfl, fun i h => by simp at h⟩
  | n + 1, h => by
    obtain ⟨l, hl, hr⟩ := list_of_get n (fun i hi => h i (Nat.lt_succ_of_lt hi))
    obtain ⟨a, ha⟩ := h n (Nat.lt_succ_self n)
    refine ⟨l ++ [a], by simp [hl], fun i hi => ?_⟩
    by_cases hlt : i < l.length
    · rw [List.getElem_append_left hlt]; exact hr i hlt
    · have : i = n := by simp at hi; omega
      subst this
      rw [List.getElem_append_right (by omega)]
      simpa using ha

section
variable {H : Type} {enc : TypeId × Value → H} {P : Program} {w : World} {sp : Nat → Bool} {held : Bool}
def okAll (w : World) (b : Nat) : Prop := b < w.heap.size
def Reads (t : Ty) : Prop :=
    (∀ (T : TypeId) (n : Nat) (cs : List Value) (y : DataW H × List MemPlace), TyOk P t T → DataW.trod enc P w 0 sp held n T cs = some y → ∃ x : El t, Imm (okAll w) w t x cs ∧ Wf t x ∧ DRG t false x [y.1]) ∧
    (∀ (off n : Nat) (fs : List Field) (cs : List Value) (ys : List (DataW H × List MemPlace)), TyOkG P t true off fs → off + t.sz = cs.length → ys.length = fs.length →
      (∀ (i : Nat) (f : Field), fs[i]? = some f → DataW.trod enc P w 0 sp held n f.type ((cs.drop f.offset).take (P.cellsOf f.type)) = ys[i]?) → ∃ x : El t, Imm (okAll w) w t x (cs.drop off) ∧ Wf t x ∧ DRG t true x (ys.map (·.1)))
theorem reads_fields {a r : Ty} (iha : Reads (enc := enc) (P := P) (w := w) (sp := sp) (held := held) a) (ihr : Reads (enc := enc) (P := P) (w := w) (sp := sp) (held := held) r) {off n : Nat} {f : Field} {fs' : List Field} {cs : List Value} {ys : List (DataW H × List MemPlace)}
    (ho : f.offset = off) (ha : TyOk P a f.type) (hr : TyOkG P r true (off + a.sz) fs') (hl : off + (a.sz + r.sz) = cs.length) (hy : ys.length = fs'.length + 1)
    (hi : ∀ (i : Nat) (g : Field), (f :: fs')[i]? = some g → DataW.trod enc P w 0 sp held n g.type ((cs.drop g.offset).take (P.cellsOf g.type)) = ys[i]?) :
    ∃ x : El (.fld a r), Imm (okAll w) w (.fld a r) x (cs.drop off) ∧ Wf (.fld a r) x ∧ ∃ y ys', ys = y :: ys' ∧ DRG a false x.1 [y.1] ∧ DRG r true x.2 (ys'.map (·.1)) := by
  cases ys with
  | nil => simp at hy
  | cons y ys' =>
    have h0 := hi 0 f rfl
    simp only [List.getElem?_cons_zero] at h0
    obtain ⟨x, h1, h2, h3⟩ := iha.1 _ _ _ _ ha h0
    obtain ⟨z, h4, h5, h6⟩ := ihr.2 (off + a.sz) n fs' cs ys' hr (by omega) (by simpa using hy) (fun i g hg => by simpa using hi (i + 1) g (by simpa using hg))
    rw [ho, ha.cells] at h1
    refine ⟨(x, z), ⟨_, _, ?_, h1, h4⟩, ⟨h2, h5⟩, y, ys', rfl, h3, h6⟩
    rw [← List.drop_drop, List.take_append_drop]
theorem read_sound : ∀ (t : Ty), t.pos = true → Reads (enc := enc) (P := P) (w := w) (sp := sp) (held := held) t := by
  intro t
  induction t with
  | int k =>
    intro _
    refine ⟨fun T n cs y hok h => ?_, fun off n fs cs ys hok => hok.elim⟩
    obtain ⟨m, rfl, rfl, hw⟩ := DataW.trod_int hok.2 h
    simp only [Lit.wf, Bool.and_eq_true, decide_eq_true_eq] at hw
    exact ⟨m, rfl, hw, rfl⟩
  | bool =>
    intro _
    refine ⟨fun T n cs y hok h => ?_, fun off n fs cs ys hok => hok.elim⟩
    obtain ⟨b, rfl, rfl⟩ := DataW.trod_bool hok.2 h
    exact ⟨b, rfl, trivial, rfl⟩
  | str =>
    intro _
    refine ⟨fun T n cs y hok h => ?_, fun off n fs cs ys hok => hok.elim⟩
    obtain ⟨s, rfl, rfl, hs⟩ := DataW.trod_string hok.2 h
    exact ⟨s, rfl, hs, rfl⟩
  | nil =>
    intro _
    refine ⟨fun T n cs y hok h => ?_, fun off n fs cs ys hok hl hy hi => ?_⟩
    · obtain ⟨xs, m, _, rfl, hl, hx, _⟩ := DataW.trod_struct hok.2 h
      rw [hok.cells] at hl
      refine ⟨(), List.length_eq_zero_iff.1 hl, trivial, ?_⟩
      have : xs = [] := List.length_eq_zero_iff.1 (by simpa using hx)
      subst this
      rfl
    · have hfs : fs = [] := hok
      subst hfs
      have : ys = [] := List.length_eq_zero_iff.1 (by simpa using hy)
      subst this
      refine ⟨(), ?_, trivial, rfl⟩
      show cs.drop off = []
      rw [List.drop_eq_nil_iff]
      simp only [Ty.sz] at hl
      omega
  | fld a r iha ihr =>
    intro hp
    simp only [Ty.pos, Bool.and_eq_true] at hp
    refine ⟨fun T n cs y hok h => ?_, fun off n fs cs ys hok hl hy hi => ?_⟩
    · have hc := hok.cells
      obtain ⟨hb, fs, f, fs', hu, hfs, hof, _, ha, hr⟩ := hok
      obtain ⟨xs, m, rfl, rfl, hl, hx, hi⟩ := DataW.trod_struct hu h
      have hx' : xs.length = fs'.length + 1 := by rw [hx, ← Array.length_toList, hfs]; rfl
      obtain ⟨x, h1, h2, z, zs, rfl, h4, h5⟩ := reads_fields (off := 0) (fs' := fs') (cs := cs) (ys := xs) (iha hp.1) (ihr hp.2) hof ha (by rw [Nat.zero_add]; exact hr) (by rw [hl, hc]; simp [Ty.sz]) hx' (fun i g hg => by
        refine hi i g ?_
        rw [← hfs] at hg
        simpa using hg)
      exact ⟨x, by simpa using h1, h2, _, _, rfl, h4, h5⟩
    · obtain ⟨f, fs', rfl, hof, _, ha, hr⟩ := hok
      obtain ⟨x, h1, h2, z, zs, rfl, h4, h5⟩ := reads_fields (iha hp.1) (ihr hp.2) hof ha hr hl (by simpa using hy) hi
      exact ⟨x, h1, h2, _, _, rfl, h4, h5⟩
  | slice e t ih =>
    intro hp
    simp only [Ty.pos, Bool.and_eq_true] at hp
    have hsz := Nat.le_of_ble_eq_true hp.1
    refine ⟨fun T n cs y hok h => ?_, fun off n fs cs ys hok => hok.elim⟩
    rcases DataW.trod_slice hok.2.1 h with ⟨rfl, rfl⟩ | ⟨A, len, cap, elems, rest, m, rfl, rfl, rfl, _, hlc, hcm, hel, hget, _⟩
    · exact ⟨[], ⟨none, 0, rfl, Nat.le_refl _, fun h => absurd rfl h⟩, ⟨Nat.zero_le _, fun x hx => by cases hx⟩, .inl ⟨rfl, rfl⟩⟩
    · have hce : P.cellsOf e = t.sz := TyOk.cells hok.2.2
      rw [hce] at hget
      have each : ∀ i, i < len → ∃ x : El t, (∃ ds, Imm (okAll w) w t x ds ∧ ∀ j, j < t.sz → w.cell? ((A.add (i * t.sz)).add j) = ds[j]?) ∧ Wf t x ∧ ∃ z, elems[i]? = some z ∧ DRG t false x [z.1] := by
        intro i hi
        have hg := hget i hi
        have hie : i < elems.length := by omega
        rw [List.getElem?_eq_getElem hie] at hg
        simp only [Option.bind_eq_some_iff] at hg
        obtain ⟨ds, h1, h2⟩ := hg
        obtain ⟨h3, h4⟩ := cells_some h1
        obtain ⟨x, h5, h6, h7⟩ := (ih hp.2).1 _ _ _ _ hok.2.2 h2
        exact ⟨x, ⟨ds, h5, fun j hj => by rw [List.getElem?_eq_getElem (by omega)]; exact h4 j (by omega)⟩, h6, _, List.getElem?_eq_getElem hie, h7⟩
      obtain ⟨xs, hxl, hxs⟩ := list_of_get len each
      refine ⟨xs, ⟨some A, cap, by rw [hxl], by omega, fun hne => ?_⟩, ⟨by omega, fun x hx => ?_⟩, .inr ⟨_, _, rfl, ?_⟩⟩
      · have h0 : 0 < xs.length := by
          cases xs with
          | nil => exact absurd rfl hne
          | cons _ _ => simp
        obtain ⟨⟨ds, hd, hj⟩, _⟩ := hxs 0 h0
        have hz := hj 0 hsz
        rw [List.getElem?_eq_getElem (by rw [hd.len]; omega)] at hz
        have e0 : (A.add (0 * t.sz)).add 0 = A := by simp [Addr.add]
        rw [e0] at hz
        obtain ⟨g, off, rfl, hg⟩ := plain_of_cell hz
        refine ⟨g, off, rfl, hg, fun i hi => ?_⟩
        obtain ⟨⟨ds, hd, hj⟩, _⟩ := hxs i hi
        exact ⟨ds, hd, fun j hlt => by rw [← hj j hlt, add_plain, add_plain]⟩
      · obtain ⟨i, hi, rfl⟩ := List.getElem_of_mem hx
        exact (hxs i hi).2.1
      · refine all2_of_get (by simp; omega) fun i x d h1 h2 => ?_
        have hi : i < xs.length := (List.getElem?_eq_some_iff.1 h1).1
        obtain ⟨_, _, z, hz, hd⟩ := hxs i hi
        rw [List.getElem?_map, hz] at h2
        rw [List.getElem?_eq_getElem hi] at h1
        cases h1; cases h2
        exact hd
end
end Go.Vm
end

section
namespace Go.Vm
open Go
section
variable {H : Type} {enc : TypeId × Value → H} {P : Program} {W W' : World}
theorem same_at (h : ∀ b, b < W.heap.size → W'.heap[b]? = W.heap[b]?) {p : MemPlace} (hp : p.block < W.heap.size) : W.sameAt W' p := by
  cases p with
  | cell b off => exact cell?_same (a := ⟨b, off, none⟩) (h b hp)
  | map b => exact h b hp
theorem trodAll_stays (hl : laidOutB P = true) (hs : ∀ b, b < W.heap.size → W'.heap[b]? = W.heap[b]?) {sp' : Nat → Bool} : ∀ {ts : List TypeId} {vs : List Value} {ds : List (DataW H)} {ps : List MemPlace}, (∀ t ∈ ts, P.readableRec t = true ∧ t < P.types.size) →
    DataW.TrodAll enc P W 0 (fun _ => true) true ts vs ds ps → (∀ p ∈ ps, p.block < W.heap.size) → (∀ p ∈ ps, sp' p.block = true) → DataW.TrodAll enc P W' 0 sp' true ts vs ds ps
  | [], [], [], ps, _, h, _, _ => h
  | t :: ts, v :: vs, d :: ds, ps, ht, h, hb, hsp => by
    obtain ⟨p, q, h1, h2, rfl⟩ := h
    exact ⟨p, q, Go.WideElems.Trod_stays hl (ht t List.mem_cons_self).1 (ht t List.mem_cons_self).2 h1 (fun x hx => same_at hs (hb x (List.mem_append.2 (.inl hx)))) (fun x hx => hsp x (List.mem_append.2 (.inl hx))),
      trodAll_stays hl hs (fun t h => ht t (List.mem_cons_of_mem _ h)) h2 (fun x hx => hb x (List.mem_append.2 (.inr hx))) (fun x hx => hsp x (List.mem_append.2 (.inr hx))), rfl⟩
  | [], [], _ :: _, _, _, h, _, _ => h.elim
  | [], _ :: _, _, _, _, h, _, _ => h.elim
  | _ :: _, [], _, _, _, h, _, _ => h.elim
  | _ :: _, _ :: _, [], _, _, h, _, _ => h.elim
theorem kept_same (ho : W'.os = W.os) (hu : W'.output = W.output) (hs : ∀ b, b < W.heap.size → W'.heap[b]? = W.heap[b]?) (may : MemPlace → Prop) : W.keptBut W' may := by
  refine ⟨ho, hu, fun i hi => ?_⟩
  have := (World.keptBut_refl W may).2.2 i hi
  rw [hs i hi]
  exact this

theorem law_post {f : Func} {s : ChangeSpec} {fresh handsOn again : Bool} {T : TypeId} {args : Array Value} {ds gs : List (DataW H)} {before : List MemPlace} {v : Value}
    (hl : laidOutB P = true) (hp : ∀ t ∈ f.params.toList, P.readableRec t = true ∧ t < P.types.size) (hv : s.vars = []) (hr : f.resultTypes = #[T]) (hT : P.underlying T = some .bool)
    (hsp : s.fn H (ds ++ gs) = { results := [.lit (.bool true)], args := ds })
    (hW : DataW.Whole enc P f.params.toList s.vars false W args.toList ds gs before) (ho : W'.os = W.os) (hu : W'.output = W.output) (hs : ∀ b, b < W.heap.size → W'.heap[b]? = W.heap[b]?) (hval : v = .bool true) :
    s.post enc P f false fresh handsOn again W args v W' := by
  subst hval
  have hlt := hW.lt
  have hW' := hW
  obtain ⟨p, q, hA, hV, rfl, hfz, hnd⟩ := hW
  rw [hv] at hV
  have hq : q = [] := by
    cases gs with
    | nil => exact hV
    | cons _ _ => exact hV.elim
  subst hq
  have hg : gs = [] := by
    cases gs with
    | nil => rfl
    | cons _ _ => exact hV.elim
  subst hg
  simp only [List.append_nil] at *
  have hres : ∀ (w : World) (b : Nat) (sp : Nat → Bool) (h : Bool), DataW.TrodAll enc P w b sp h f.resultTypes.toList ((Value.bool true).resultList f.resultTypes.size) [.lit (.bool true)] [] := by
    intro w b sp h
    rw [hr]
    exact ⟨[], [], ⟨1, by simp [DataW.trod, Value.cells, hT]⟩, rfl, rfl⟩
  have harg : ∀ sp' : Nat → Bool, (∀ x ∈ p, sp' x.block = true) → DataW.TrodAll enc P W' 0 sp' true f.params.toList args.toList ds p := fun sp' h => trodAll_stays hl hs hp hA hlt h
  refine ⟨ds, [], p, [], p, [], hW', ?_, ?_, ?_, kept_same ho hu hs _, fun _ => ⟨?_, ?_⟩⟩
  · rw [List.append_nil, hsp]; exact hres _ _ _ _
  · rw [List.append_nil, hsp]; exact harg _ (fun x hx => by simpa using hlt x hx)
  · rw [List.append_nil, hsp, hv]; rfl
  · intro j t r h1 h2
    rw [hr] at h1 h2
    match j, h1, h2 with
    | 0, h1, h2 =>
      cases h1
      have : r = .bool true := by simpa [Value.resultList] using h2.symm
      subst this
      exact Go.RowKit.okWide_bool_mk hT true
    | j + 1, h1, _ => simp at h1
  · refine ⟨.lit (.bool true) :: ds, [], p, ⟨p, [], ?_, by rw [hv]; rfl, by simp, ?_, by simp⟩, fun x hx _ => hx⟩
    · have h1 := hres W' 0 (fun _ => true) true
      rw [hr] at h1 ⊢
      obtain ⟨a1, a2, h2, h3, h4⟩ := h1
      obtain ⟨rfl, rfl⟩ := List.append_eq_nil_iff.1 h4.symm
      exact ⟨[], p, h2, harg _ (fun _ _ => rfl), by simp⟩
    · intro b off hx
      rw [frozen?_same (w := W) (a := ⟨b, off, none⟩) (hs b (hlt _ hx))]
      exact hfz b off hx
end
end Go.Vm
end

section
namespace Go.Vm
open Go
@[reducible] def Args : List Ty → Type
  | [] => Unit
  | t :: ts => El t × Args ts
def argsV : (ts : List Ty) → Args ts → List V1
  | [], _ => []
  | t :: ts, x => argV t x.1 :: argsV ts x.2
def ArgsWf : (ts : List Ty) → Args ts → Prop
  | [], _ => True
  | t :: ts, x => Wf t x.1 ∧ ArgsWf ts x.2
def ArgsDR {H : Type} : (ts : List Ty) → Args ts → List (DataW H) → Prop
  | [], _, ds => ds = []
  | t :: ts, x, ds => ∃ d ds', ds = d :: ds' ∧ DRG t false x.1 [d] ∧ ArgsDR ts x.2 ds'
def TysOk (P : Program) : List Ty → List TypeId → Prop
  | [], [] => True
  | t :: ts, T :: Ts => TyOk P t T ∧ t.pos = true ∧ TysOk P ts Ts
  | _, _ => False
section
variable {H : Type} {enc : TypeId × Value → H} {P : Program} {W W' : World} {base : Nat}
theorem arg_imm {t : Ty} {T : TypeId} {x : El t} {v : Value} (hok : TyOk P t T) (hw : Value.okWide P W .any base T v) (h : Imm (okAll W) W t x v.cells.toList) : ImmArg (okAll W) W t x v := by
  refine ⟨v.cells.toList, h, ?_⟩
  cases t with
  | nil =>
    unfold Value.okWide at hw
    rw [hok.2] at hw
    obtain ⟨cs, rfl, _⟩ := hw
    exact .inl ⟨rfl, by simp [Value.cells]⟩
  | fld a r =>
    obtain ⟨_, fs, f, fs', hu, _⟩ := hok
    unfold Value.okWide at hw
    rw [hu] at hw
    obtain ⟨cs, rfl, _⟩ := hw
    exact .inl ⟨rfl, by simp [Value.cells]⟩
  | int k =>
    refine .inr ⟨rfl, ?_⟩
    unfold Value.okWide at hw
    rw [hok.2] at hw
    cases v <;> first | rfl | (simp [Cell.okWide, Cell.ok, hok.2] at hw)
  | bool =>
    refine .inr ⟨rfl, ?_⟩
    unfold Value.okWide at hw
    rw [hok.2] at hw
    cases v <;> first | rfl | (simp [Cell.okWide, Cell.ok, hok.2] at hw)
  | str =>
    refine .inr ⟨rfl, ?_⟩
    unfold Value.okWide at hw
    rw [hok.2] at hw
    cases v <;> first | rfl | (simp [Cell.okWide, Cell.ok, hok.2] at hw)
  | slice e t =>
    refine .inr ⟨rfl, ?_⟩
    unfold Value.okWide at hw
    rw [hok.2.1] at hw
    cases v <;> first | rfl | (simp [Cell.okWide, Cell.ok, hok.2.1] at hw)

end
end Go.Vm
end

section
namespace Go.Vm
open Go
def zEq : Value → Value → Bool
  | .int k n, .int k' n' => decide (k = k') && decide (n = n')
  | .bool a, .bool b => a == b
  | .string s, .string s' => decide (s.data.toList = s'.data.toList)
  | .slice none 0 0, .slice none 0 0 => true
  | _, _ => false
theorem zEq_sound {a b : Value} (h : zEq a b = true) : a = b := by
  unfold zEq at h
  split at h
  · simp only [Bool.and_eq_true, decide_eq_true_eq] at h
    rw [h.1, h.2]
  · rw [eq_of_beq h]
  · rename_i s s'
    have h := of_decide_eq_true h
    cases s; cases s'
    congr 2
    exact Array.toList_inj.1 h
  · rfl
  · cases h
def zEqs : List Value → List Value → Bool
  | [], [] => true
  | a :: r, b :: s => zEq a b && zEqs r s
  | _, _ => false
theorem zEqs_sound : ∀ {l m : List Value}, zEqs l m = true → l = m
  | [], [], _ => rfl
  | a :: l, b :: m, h => by
    simp only [zEqs, Bool.and_eq_true] at h
    rw [zEq_sound h.1, zEqs_sound h.2]
  | [], _ :: _, h => by cases h
  | _ :: _, [], h => by cases h
def baseB (P : Program) (t : Ty) (T : TypeId) : Bool :=
  match P.info? T with
  | some i => Nat.beq i.size t.sz && Nat.ble i.bytes 256 && (match i.zero with
    | some z => (match t.agg with
      | true => (match z with | .agg cs => zEqs cs.toList (zeroVal t) | _ => false)
      | false => zEqs [z] (zeroVal t))
    | none => false)
  | none => false
theorem baseB_sound {P : Program} {t : Ty} {T : TypeId} (h : baseB P t T = true) : TyBase P t T := by
  unfold baseB at h
  split at h
  · rename_i i hi
    simp only [Bool.and_eq_true] at h
    refine ⟨⟨i, hi, Nat.eq_of_beq_eq_true h.1.1, ?_, Nat.le_of_ble_eq_true h.1.2⟩⟩
    have h2 := h.2
    split at h2
    · rename_i z hz
      rw [hz]
      split at h2
      · rename_i hag
        split at h2
        · rename_i cs
          rw [if_pos hag, ← zEqs_sound h2]
        · cases h2
      · rename_i hag
        rw [if_neg (by rw [hag]; simp), ← zEqs_sound h2]
        rfl
    · cases h2
  · cases h
def tyB (P : Program) : Ty → Bool → Nat → List Field → Bool
  | .int k, false, T, _ => baseB P (.int k) T && (match P.underlying T with | some (.int k') => decide (k' = k) | _ => false)
  | .bool, false, T, _ => baseB P .bool T && (match P.underlying T with | some .bool => true | _ => false)
  | .str, false, T, _ => baseB P .str T && (match P.underlying T with | some .string => true | _ => false)
  | .slice e t, false, T, _ => baseB P (.slice e t) T && (match P.underlying T with | some (.slice e') => Nat.beq e' e | _ => false) && tyB P t false e []
  | .nil, false, T, _ => baseB P .nil T && (match P.underlying T with | some (.struct fs) => fs.toList.isEmpty | _ => false)
  | .nil, true, _, fs => fs.isEmpty
  | .fld a r, false, T, _ => baseB P (.fld a r) T && (match P.underlying T with
    | some (.struct fs) => (match fs.toList with
      | f :: fs' => Nat.beq f.offset 0 && !(f.name == "_") && tyB P a false f.type [] && tyB P r true a.sz fs'
      | [] => false)
    | _ => false)
  | .fld a r, true, off, fs => (match fs with
    | f :: fs' => Nat.beq f.offset off && !(f.name == "_") && tyB P a false f.type [] && tyB P r true (off + a.sz) fs'
    | [] => false)
  | _, true, _, _ => false
theorem tyB_sound {P : Program} : ∀ (t : Ty) (b : Bool) (T : Nat) (fs : List Field), tyB P t b T fs = true → TyOkG P t b T fs
  | .int k, false, T, fs, h => by
    simp only [tyB, Bool.and_eq_true] at h
    refine ⟨baseB_sound h.1, ?_⟩
    have h2 := h.2
    split at h2
    · rename_i k' hu
      rw [hu, of_decide_eq_true h2]
    · cases h2
  | .bool, false, T, fs, h => by
    simp only [tyB, Bool.and_eq_true] at h
    refine ⟨baseB_sound h.1, ?_⟩
    have h2 := h.2
    split at h2
    · rename_i hu; exact hu
    · cases h2
  | .str, false, T, fs, h => by
    simp only [tyB, Bool.and_eq_true] at h
    refine ⟨baseB_sound h.1, ?_⟩
    have h2 := h.2
    split at h2
    · rename_i hu; exact hu
    · cases h2
  | .slice e t, false, T, fs, h => by
    simp only [tyB, Bool.and_eq_true] at h
    refine ⟨baseB_sound h.1.1, ?_, tyB_sound t false e [] h.2⟩
    have h2 := h.1.2
    split at h2
    · rename_i e' hu
      rw [hu, Nat.eq_of_beq_eq_true h2]
    · cases h2
  | .nil, false, T, fs, h => by
    simp only [tyB, Bool.and_eq_true] at h
    refine ⟨baseB_sound h.1, ?_⟩
    have h2 := h.2
    split at h2
    · rename_i fs' hu
      have : fs' = #[] := by
        rw [← Array.toList_eq_nil_iff]
        exact List.isEmpty_iff.1 h2
      rw [hu, this]
    · cases h2
  | .nil, true, T, fs, h => List.isEmpty_iff.1 h
  | .fld a r, false, T, fs, h => by
    simp only [tyB, Bool.and_eq_true] at h
    refine ⟨baseB_sound h.1, ?_⟩
    have h2 := h.2
    split at h2
    · rename_i fs0 hu
      split at h2
      · rename_i f fs' hfs
        simp only [Bool.and_eq_true, Bool.not_eq_true'] at h2
        exact ⟨fs0, f, fs', hu, hfs, Nat.eq_of_beq_eq_true h2.1.1.1, by simpa using h2.1.1.2, tyB_sound a false f.type [] h2.1.2, tyB_sound r true a.sz fs' h2.2⟩
      · cases h2
    · cases h2
  | .fld a r, true, off, fs, h => by
    simp only [tyB] at h
    split at h
    · rename_i f fs'
      simp only [Bool.and_eq_true, Bool.not_eq_true'] at h
      exact ⟨f, fs', rfl, Nat.eq_of_beq_eq_true h.1.1.1, by simpa using h.1.1.2, tyB_sound a false f.type [] h.1.2, tyB_sound r true (off + a.sz) fs' h.2⟩
    · cases h
  | .int _, true, _, _, h => by cases h
  | .bool, true, _, _, h => by cases h
  | .str, true, _, _, h => by cases h
  | .slice _ _, true, _, _, h => by cases h
end Go.Vm
end

section
namespace Go.Vm
open Go

def bo (f : Func) : Code := match f.body with | some c => c | none => .skip
def cd : List Nat → Code → Code
  | [], c => c
  | 0 :: r, .seq a _ => cd r a
  | _ :: r, .seq _ b => cd r b
  | 0 :: r, .cond _ a _ => cd r a
  | _ :: r, .cond _ _ b => cd r b
  | _ :: r, .block _ c => cd r c
  | _ :: r, .loop c => cd r c
  | _, _ => .skip
def rg : Code → List Oper
  | .region _ ops _ => ops.toList
  | _ => []
def mkT : Nat → Nat → List (Nat × VV) → List VV
  | 0, _, _ => []
  | n + 1, i, [] => VV.un :: mkT n (i + 1) []
  | n + 1, i, (j, v) :: r => bif Nat.beq i j then v :: mkT n (i + 1) r else VV.un :: mkT n (i + 1) ((j, v) :: r)

@[reducible] def ResT : List Ty → Type
  | [] => Unit
  | [t] => El t
  | t :: u :: r => El t × ResT (u :: r)
def takeS (h : Heap) (own : Bool) (e : TypeId) (t : Ty) (c : Cell) : Option (List (El t) × List Nat) :=
  match c with
  | .nilS => some ([], [])
  | .slc e' t' xs => bif own then none else bif Nat.beq e e' then (match castList t' t xs with | some ys => some (ys, []) | none => none) else none
  | .row o lo hi => (match hget h o with
    | some (.row e' t' xs ow) => bif Nat.beq e e' then (match castList t' t xs with
      | some ys => (match own with
        | true => (match ow with | true => some (cut lo hi ys, [o]) | false => none)
        | false => (match ow with | true => none | false => some (cut lo hi ys, [])))
      | none => none) else none
    | _ => none)
  | _ => none
def takeR (h : Heap) : (t : Ty) → List Bool → List Cell → Option (El t × List Bool × List Cell × List Nat)
  | .nil, md, cs => some ((), md, cs, [])
  | .fld a r, md, cs => match takeR h a md cs with
    | some (x, md, cs, ns) => (match takeR h r md cs with
      | some (y, md, cs, ms) => some ((x, y), md, cs, ns ++ ms)
      | none => none)
    | none => none
  | .int k, md, .int j n :: cs => bif decide (k = j) then some (n, md, cs, []) else none
  | .bool, md, .bool b :: cs => some (b, md, cs, [])
  | .str, md, .str s :: cs => some (s, md, cs, [])
  | .slice e t, own :: md, c :: cs => match takeS h own e t c with
    | some (xs, ns) => some (xs, md, cs, ns)
    | none => none
  | _, _, _ => none
def takeV (h : Heap) (t : Ty) (md : List Bool) (x : V1) : Option (El t × List Bool × List Nat) :=
  bif (bif x.agg then t.agg else !t.agg) then (match takeR h t md x.cs with
    | some (y, md, [], ns) => some (y, md, ns)
    | _ => none) else none
def takeVs (h : Heap) : (ts : List Ty) → List Bool → List V1 → Option (ResT ts × List Nat)
  | [], _, [] => some ((), [])
  | [t], md, [x] => match takeV h t md x with
    | some (y, _, ns) => some (y, ns)
    | none => none
  | t :: u :: r, md, x :: xs => match takeV h t md x with
    | some (y, md, ns) => (match takeVs h (u :: r) md xs with
      | some (ys, ms) => some ((y, ys), ns ++ ms)
      | none => none)
    | none => none
  | _, _, _ => none
def finV0 (ts : List Ty) (md : List Bool) (v : VV) (m : Ms) : Option (ResT ts) :=
  match (match v with
    | .v x => takeVs m.st.heap ts md [x]
    | .tup [_] => none
    | .tup xs => takeVs m.st.heap ts md xs
    | .un => none) with
  | some p => bif distinct p.2 then some p.1 else none
  | none => none
def shR (h : Heap) : (t : Ty) → List Bool → List Cell → List Nat × List Bool × List Cell
  | .nil, md, cs => ([], md, cs)
  | .fld a r, md, cs =>
    let p := shR h a md cs
    let q := shR h r p.2.1 p.2.2
    (p.1 ++ q.1, q.2.1, q.2.2)
  | .slice _ _, own :: md, c :: cs => ((match own, c with
    | false, .row o _ _ => (match hget h o with
      | some (.row _ _ _ true) => [o]
      | _ => [])
    | _, _ => []), md, cs)
  | _, md, _ :: cs => ([], md, cs)
  | _, md, [] => ([], md, [])
def shVs (h : Heap) : List Ty → List Bool → List V1 → List Nat
  | t :: ts, md, x :: xs => let p := shR h t md x.cs; p.1 ++ shVs h ts p.2.1 xs
  | _, _, _ => []
def shV (h : Heap) (ts : List Ty) (md : List Bool) : VV → List Nat
  | .v x => shVs h ts md [x]
  | .tup xs => shVs h ts md xs
  | .un => []
def frzH : List Nat → Heap → Heap
  | [], h => h
  | n :: r, h => frzH r (match hget h n with
    | some (.row e t xs true) => hset h n (.row e t xs false)
    | _ => h)
def frzM (ns : List Nat) (m : Ms) : Ms := { m with st := ⟨m.st.tmps, frzH ns m.st.heap⟩ }
def finV (ts : List Ty) (md : List Bool) (v : VV) (m : Ms) : Option (ResT ts) := finV0 ts md v (frzM (shV m.st.heap ts md v) m)
def outR : (t : Ty) → List Bool → El t → List RC × List Bool
  | .nil, md, _ => ([], md)
  | .fld a r, md, x => let p := outR a md x.1; let q := outR r p.2 x.2; (p.1 ++ q.1, q.2)
  | .int k, md, n => ([.c (.int k n)], md)
  | .bool, md, b => ([.c (.bool b)], md)
  | .str, md, s => ([.c (.str s)], md)
  | .slice e t, own :: md, xs => ([match own with | true => .own e t xs | false => .c (.slc e t xs)], md)
  | .slice e t, [], xs => ([.c (.slc e t xs)], [])
def outV : (ts : List Ty) → List Bool → ResT ts → List (Bool × List RC)
  | [], _, _ => []
  | [t], md, x => [(t.agg, (outR t md x).1)]
  | t :: u :: r, md, x => (t.agg, (outR t md x.1).1) :: outV (u :: r) (outR t md x.1).2 x.2

section
variable {P : Program} {cfg : Cfg} {E : Env} {st : St} {saved : List (Nat × List VV)} {a : Act} {S : List (Array Value)} {w w' w0 : World} {K : Keep}
theorem takeS_sound (h : RelE E st saved a S w w0 K) {own : Bool} {e : TypeId} {t : Ty} {c : Cell} {xs : List (El t)} {ns : List Nat} (ho : takeS st.heap own e t c = some (xs, ns)) {v : Value} (hc : CellRel E st.heap w c v) :
    ∃ bs, RcRel E.ok w (match own with | true => .own e t xs | false => .c (.slc e t xs)) v bs ∧ OwnB E st.heap ns bs := by
  unfold takeS at ho
  cases c with
  | nilS =>
    cases ho
    have hv : v = .slice none 0 0 := hc
    subst hv
    cases own with
    | true => exact ⟨[], ⟨none, 0, rfl, Nat.le_refl _, .inl ⟨rfl, rfl⟩⟩, OwnB.nil⟩
    | false => exact ⟨[], ⟨rfl, none, 0, rfl, Nat.le_refl _, fun h => absurd rfl h⟩, OwnB.nil⟩
  | slc e' t' ys =>
    cases own with
    | true => cases ho
    | false =>
      simp only [cond_false] at ho
      cases hb : Nat.beq e e' with
      | false => rw [hb] at ho; cases ho
      | true =>
        rw [hb] at ho
        simp only [cond_true] at ho
        split at ho
        · rename_i zs hz
          cases ho
          obtain ⟨rfl, rfl⟩ := castList_some hz
          exact ⟨[], ⟨rfl, hc⟩, OwnB.nil⟩
        · cases ho
  | row o lo hi =>
    simp only at ho
    cases hg : hget st.heap o with
    | none => rw [hg] at ho; cases ho
    | some b =>
      rw [hg] at ho
      cases b with
      | row e' t' ys ow =>
        simp only at ho
        cases hb : Nat.beq e e' with
        | false => rw [hb] at ho; cases ho
        | true =>
          rw [hb] at ho
          simp only [cond_true] at ho
          split at ho
          · rename_i zs hz
            obtain ⟨rfl, rfl⟩ := castList_some hz
            cases own with
            | true =>
              cases ow with
              | false => cases ho
              | true =>
                simp only at ho
                cases ho
                have := outC_sound h (c := .row o lo hi) (rc := .own e' t' (cut lo hi ys)) (ns := [o]) (by simp [outC, hg]) hc
                rw [Nat.eq_of_beq_eq_true hb]
                exact this
            | false =>
              cases ow with
              | true => cases ho
              | false =>
                simp only at ho
                cases ho
                have := outC_sound h (c := .row o lo hi) (rc := .c (.slc e' t' (cut lo hi ys))) (ns := []) (by simp [outC, hg]) hc
                rw [Nat.eq_of_beq_eq_true hb]
                exact this
          · cases ho
      | _ => cases ho
  | _ => cases ho
theorem RcsRel.append {ok : Nat → Prop} : ∀ {rs rs2 : List RC} {vs vs2 : List Value} {bs bs2 : List Nat}, RcsRel ok w rs vs bs → RcsRel ok w rs2 vs2 bs2 → RcsRel ok w (rs ++ rs2) (vs ++ vs2) (bs ++ bs2)
  | _, _, _, _, _, _, .nil, q => q
  | _, _, _, _, _, _, .cons p r, q => by
    rw [List.append_assoc]
    exact .cons p (RcsRel.append r q)
theorem takeR_sound (h : RelE E st saved a S w w0 K) : ∀ (t : Ty) {md : List Bool} {cs : List Cell} {x : El t} {md' : List Bool} {cs' : List Cell} {ns : List Nat}, takeR st.heap t md cs = some (x, md', cs', ns) →
    ∀ {vs : List Value}, All2 (CellRel E st.heap w) cs vs → (outR t md x).2 = md' ∧ ∃ v1 v2 bs, vs = v1 ++ v2 ∧ RcsRel E.ok w (outR t md x).1 v1 bs ∧ OwnB E st.heap ns bs ∧ All2 (CellRel E st.heap w) cs' v2 := by
  intro t
  induction t with
  | nil =>
    intro md cs x md' cs' ns ho vs hv
    simp only [takeR, Option.some.injEq, Prod.mk.injEq] at ho
    obtain ⟨_, rfl, rfl, rfl⟩ := ho
    exact ⟨rfl, [], vs, [], rfl, .nil, OwnB.nil, hv⟩
  | fld p q ihp ihq =>
    intro md cs x md' cs' ns ho vs hv
    simp only [takeR] at ho
    split at ho
    · rename_i y md1 cs1 ns1 h1
      split at ho
      · rename_i z md2 cs2 ns2 h2
        simp only [Option.some.injEq, Prod.mk.injEq] at ho
        obtain ⟨rfl, rfl, rfl, rfl⟩ := ho
        obtain ⟨e1, v1, v2, bs, rfl, hr, hown, hv2⟩ := ihp h1 hv
        obtain ⟨e2, v3, v4, bs2, rfl, hr2, hown2, hv4⟩ := ihq h2 hv2
        refine ⟨?_, v1 ++ v3, v4, bs ++ bs2, by rw [List.append_assoc], ?_, hown.append hown2, hv4⟩
        · simp only [outR, e1, e2]
        · simp only [outR, e1]
          exact hr.append hr2
      · cases ho
    · cases ho
  | int k =>
    intro md cs x md' cs' ns ho vs hv
    cases hv with
    | nil => cases ho
    | @cons c v cs vs p q =>
      cases c with
      | int j n =>
        simp only [takeR] at ho
        by_cases e : k = j
        · subst e
          simp only [decide_true, cond_true, Option.some.injEq, Prod.mk.injEq] at ho
          obtain ⟨rfl, rfl, rfl, rfl⟩ := ho
          exact ⟨rfl, [v], vs, [], rfl, RcsRel.cons (bs := []) (bs' := []) (show RcRel E.ok w (.c _) v [] from ⟨rfl, p⟩) .nil, OwnB.nil, q⟩
        · simp [e] at ho
      | _ => cases ho
  | bool =>
    intro md cs x md' cs' ns ho vs hv
    cases hv with
    | nil => cases ho
    | @cons c v cs vs p q =>
      cases c with
      | bool b =>
        simp only [takeR, Option.some.injEq, Prod.mk.injEq] at ho
        obtain ⟨rfl, rfl, rfl, rfl⟩ := ho
        exact ⟨rfl, [v], vs, [], rfl, RcsRel.cons (bs := []) (bs' := []) (show RcRel E.ok w (.c _) v [] from ⟨rfl, p⟩) .nil, OwnB.nil, q⟩
      | _ => cases ho
  | str =>
    intro md cs x md' cs' ns ho vs hv
    cases hv with
    | nil => cases ho
    | @cons c v cs vs p q =>
      cases c with
      | str b =>
        simp only [takeR, Option.some.injEq, Prod.mk.injEq] at ho
        obtain ⟨rfl, rfl, rfl, rfl⟩ := ho
        exact ⟨rfl, [v], vs, [], rfl, RcsRel.cons (bs := []) (bs' := []) (show RcRel E.ok w (.c _) v [] from ⟨rfl, p⟩) .nil, OwnB.nil, q⟩
      | _ => cases ho
  | slice e t _ =>
    intro md cs x md' cs' ns ho vs hv
    cases hv with
    | nil => cases md <;> cases ho
    | @cons c v cs vs p q =>
      cases md with
      | nil => cases ho
      | cons own md =>
        simp only [takeR] at ho
        split at ho
        · rename_i xs ns1 h1
          simp only [Option.some.injEq, Prod.mk.injEq] at ho
          obtain ⟨rfl, rfl, rfl, rfl⟩ := ho
          obtain ⟨bs, hr, hown⟩ := takeS_sound h h1 p
          refine ⟨rfl, [v], vs, bs, rfl, ?_, hown, q⟩
          have := RcsRel.cons hr (RcsRel.nil (ok := E.ok) (w := w))
          rwa [List.append_nil] at this
        · cases ho
theorem takeV_sound (h : RelE E st saved a S w w0 K) {t : Ty} {md : List Bool} {x : V1} {y : El t} {md' : List Bool} {ns : List Nat} (ho : takeV st.heap t md x = some (y, md', ns)) {V : Value} (hv : V1Rel E st.heap w x V) :
    (outR t md y).2 = md' ∧ ∃ vs bs, RcsRel E.ok w (outR t md y).1 vs bs ∧ ((t.agg = true ∧ V = .agg vs.toArray) ∨ (t.agg = false ∧ vs = [V])) ∧ OwnB E st.heap ns bs := by
  unfold takeV at ho
  cases hag : (bif x.agg then t.agg else !t.agg) with
  | false => rw [hag] at ho; cases ho
  | true =>
    rw [hag] at ho
    simp only [cond_true] at ho
    split at ho
    · rename_i z md1 ns1 h1
      cases ho
      obtain ⟨us, hus, hV⟩ := hv
      obtain ⟨e1, v1, v2, bs, rfl, hr, hown, hv2⟩ := takeR_sound h t h1 hus
      cases hv2
      rw [List.append_nil] at hV
      refine ⟨e1, v1, bs, hr, ?_, hown⟩
      rcases hV with ⟨h1, h2⟩ | ⟨h1, h2⟩
      · rw [h1] at hag; exact .inl ⟨hag, h2⟩
      · rw [h1] at hag; exact .inr ⟨by simpa using hag, h2⟩
    · cases ho
theorem takeVs_sound (h : RelE E st saved a S w w0 K) : ∀ (ts : List Ty) {md : List Bool} {xs : List V1} {y : ResT ts} {ns : List Nat}, takeVs st.heap ts md xs = some (y, ns) → ∀ {Vs : List Value}, All2 (V1Rel E st.heap w) xs Vs →
    ∃ bs, ResRel E.ok w (outV ts md y) Vs bs ∧ OwnB E st.heap ns bs
  | [], md, [], y, ns, ho, _, .nil => by cases ho; exact ⟨[], .nil, OwnB.nil⟩
  | [t], md, [x], y, ns, ho, _, .cons p .nil => by
    simp only [takeVs] at ho
    split at ho
    · rename_i z md1 ns1 h1
      cases ho
      obtain ⟨_, vs, bs, hr, hV, hown⟩ := takeV_sound h h1 p
      refine ⟨bs, ?_, hown⟩
      have := ResRel.cons hr hV (ResRel.nil (ok := E.ok) (w := w))
      rwa [List.append_nil] at this
    · cases ho
  | t :: u :: r, md, x :: xs, y, ns, ho, _, .cons p q => by
    simp only [takeVs] at ho
    split at ho
    · rename_i z md1 ns1 h1
      split at ho
      · rename_i zs ms h2
        cases ho
        obtain ⟨e1, vs, bs, hr, hV, hown⟩ := takeV_sound h h1 p
        obtain ⟨bs2, hr2, hown2⟩ := takeVs_sound h (u :: r) h2 q
        refine ⟨bs ++ bs2, ?_, hown.append hown2⟩
        simp only [outV, e1]
        exact .cons hr hV hr2
      · cases ho
    · cases ho
  | [], md, _ :: _, y, ns, ho, _, _ => by cases ho
  | [t], md, [], y, ns, ho, _, _ => by cases ho
  | [t], md, _ :: _ :: _, y, ns, ho, _, _ => by cases ho
  | t :: u :: r, md, [], y, ns, ho, _, _ => by cases ho
theorem ret_core {ok : Nat → Prop} (h : RelE E st saved a S w' w ⟨fun b => b < w.heap.size, ok⟩) {out : List (Bool × List RC)} {Vs : List Value} {ns bs : List Nat} (hres : ResRel E.ok w' out Vs bs) (ho : OwnB E st.heap ns bs) (hd : distinct ns = true) {V : Value} (hV : V = tupOf Vs) : Ret ok w w' out V := by
  obtain ⟨ns', hsub, rfl, hown⟩ := ho
  refine ⟨h.os, h.tape, h.out, h.size, fun b hb => (h.kp b hb).2, fun b => E.ok b ∧ w.heap.size ≤ b, Vs, ns'.map (fun n => (E.ρ n).1), fun b hb => ⟨hb.2, h.bo b hb.1⟩, ?_, ?_, ?_, hV⟩
  · refine hres.imp fun _ _ rc _ u bs hrc => hrc.mono fun b hb => ?_
    rcases Nat.lt_or_ge b w.heap.size with hlt | hge
    · exact .inl (h.oz b hb hlt)
    · exact .inr ⟨hb, hge⟩
  · have hnd : ns'.Nodup := hsub.nodup (distinct_nodup hd)
    clear hres hsub
    induction ns' with
    | nil => exact List.nodup_nil
    | cons n ns' ih =>
      obtain ⟨g1, g2⟩ := List.nodup_cons.1 hnd
      refine List.nodup_cons.2 ⟨fun hm => ?_, ih (fun k hk => hown k (List.mem_cons_of_mem _ hk)) g2⟩
      obtain ⟨k, hk, e⟩ := List.mem_map.1 hm
      obtain ⟨a1, a2⟩ := hown n List.mem_cons_self
      obtain ⟨b1, b2⟩ := hown k (List.mem_cons_of_mem _ hk)
      exact h.dj n k (fun e => g1 (e ▸ hk)) a2 b2 a1 b1 e.symm
  · intro b hb
    obtain ⟨n, hn, rfl⟩ := List.mem_map.1 hb
    obtain ⟨a1, a2⟩ := hown n hn
    obtain ⟨d1, d2⟩ := h.dk n a2 a1
    exact ⟨Nat.le_of_not_lt d2, h.bd n (live_isSome a2) a1, fun hk => d1 hk.1⟩
theorem fin_sound {ok : Nat → Prop} (h : RelE E st saved a S w' w ⟨fun b => b < w.heap.size, ok⟩) {ts : List Ty} {md : List Bool} {v : VV} {m : Ms} (hm : m.st = st) {r : ResT ts} (ho : finV0 ts md v m = some r) {V : Value} (hv : VRel E st.heap w' v V) : Ret ok w w' (outV ts md r) V := by
  subst hm
  have fin : ∀ {xs : List V1} {Vs : List Value} {p : ResT ts × List Nat}, takeVs m.st.heap ts md xs = some p → (bif distinct p.2 then some p.1 else none) = some r → All2 (V1Rel E m.st.heap w') xs Vs → V = tupOf Vs → Ret ok w w' (outV ts md r) V := by
    intro xs Vs p h1 h2 h3 h4
    cases hd : distinct p.2 with
    | false => rw [hd] at h2; cases h2
    | true =>
      rw [hd] at h2
      cases h2
      obtain ⟨bs, hres, hown⟩ := takeVs_sound h ts (y := p.1) (ns := p.2) h1 h3
      exact ret_core h hres hown hd h4
  unfold finV0 at ho
  cases v with
  | un => cases ho
  | v x =>
    simp only at ho
    split at ho
    · rename_i p hp
      exact fin hp ho (.cons hv .nil) rfl
    · cases ho
  | tup xs =>
    obtain ⟨Vs, hx, rfl⟩ := hv
    cases hx with
    | nil =>
      simp only at ho
      split at ho
      · rename_i p hp
        exact fin hp ho .nil rfl
      · cases ho
    | cons p q => cases q with
      | nil => cases ho
      | cons p' q' =>
        simp only at ho
        split at ho
        · rename_i z hp
          exact fin hp ho (.cons p (.cons p' q')) rfl
        · cases ho

theorem frzH_sound : ∀ (ns : List Nat) {E : Env} {st : St}, RelE E st saved a S w w0 K → ∃ E', RelE E' ⟨st.tmps, frzH ns st.heap⟩ saved a S w w0 K ∧ Step E E' st.heap (frzH ns st.heap) w w
  | [], E, st, h => ⟨E, h, fun _ _ => rfl, fun _ _ h => h, fun _ h => h, fun _ _ => rfl, fun _ _ h => h, HLe.refl _⟩
  | n :: r, E, st, h => by
    simp only [frzH]
    split
    · rename_i e t xs hg
      have k1 : Step E (E.frz n) st.heap (hset st.heap n (.row e t xs false)) w w := by
        refine ⟨fun _ _ => rfl, fun _ _ hh => hh, fun b hb => .inl hb, fun b hb => rfl, fun g m hr => hr, fun m s hm => .inl ?_⟩
        rw [hsh_hset]
        split
        · rename_i e1
          subst e1
          simpa [hsh, hg, shape] using hm
        · exact hm
      obtain ⟨E', h2, k2⟩ := frzH_sound r (st := ⟨st.tmps, hset st.heap n (.row e t xs false)⟩) (h.frz hg)
      have hs : ∀ m, (hget st.heap m).isSome = true → (hget (hset st.heap n (.row e t xs false)) m).isSome = true := fun m hm => by
        rw [hget_hset]; split
        · rfl
        · exact hm
      refine ⟨E', h2, fun m hm => (k2.ρ m (hs m hm)).trans (k1.ρ m hm), fun m hm hh => k2.has m (hs m hm) hh, fun b hb => k2.ok b (k1.ok b hb), fun _ _ => rfl, fun _ _ h => h, fun m s hm => ?_⟩
      rcases k1.hle m s hm with h3 | h3
      · exact k2.hle m s h3
      · rcases k2.hle m _ h3.2 with h4 | ⟨⟨_, _, _, h4⟩, _⟩
        · exact .inr ⟨h3.1, h4⟩
        · cases h4
    · exact frzH_sound r h
def mkSpec {α : Type} (out : α → List (Bool × List RC)) : (ts : List Ty) → (Args ts → Option α) → Spec
  | [], G => .body (G ()) out
  | t :: ts, G => .imm t fun x => mkSpec out ts fun r => G (x, r)
def Enters (P : Program) (f : FuncId) : Prop := ∀ args w, (callFunc f args).run P w = .ok (.enter f args) w
theorem enters_of {f : FuncId} {fn : Func} {c : Code} (hf : P.funcs[f]? = some fn) (hname : (fn.name == "runtime.NumGoroutine") = false) (hb : fn.body = some c) : Enters P f := by
  intro args w
  have h1 : fn.name ≠ "runtime.NumGoroutine" := by simpa using hname
  simp [callFunc, hf, h1, hb]
theorem specGood_run (hG : Ok P cfg) (hm : P.follows .mixedOrders = true) (hfn : ∀ f fn, look cfg.inl f = some fn → P.funcs[f]? = some fn) {d : Nat} {f : FuncId} (ts rs : List Ty) (md : List Bool) (G : Args ts → Option (ResT rs))
    (hrun : ∀ x, runX cfg (finV rs md) d f (argsV ts x) ms0 = G x) : SpecGood P f (mkSpec (outV rs md) ts G) := by
  intro ok w hok
  have key : ∀ (ts' : List Ty) (G' : Args ts' → Option (ResT rs)) (pre : List V1) (preV : List Value), (∀ x, runX cfg (finV rs md) d f (pre ++ argsV ts' x) ms0 = G' x) → All2 (V1Rel (env0 ok) ms0.st.heap w) pre preV →
      SpecOk P f ok w (mkSpec (outV rs md) ts' G') preV := by
    intro ts'
    induction ts' with
    | nil =>
      intro G' pre preV h1 h2 a ha
      have h3 := h1 ()
      rw [ha] at h3
      simp only [argsV, List.append_nil] at h3
      exact runX_ok hG hm hfn h3 (start_rel hok) h2 _ fun v V m' w' E' k1 k2 k3 => by
        obtain ⟨E'', k4, k5⟩ := frzH_sound (shV m'.st.heap rs md v) k2
        exact ⟨V, rfl, fin_sound k4 (m := frzM (shV m'.st.heap rs md v) m') rfl k1 (k3.step k5)⟩
    | cons t ts' ih =>
      intro G' pre preV h1 h2 x v hx
      refine ih _ (pre ++ [argV t x]) (preV ++ [v]) (fun y => ?_) (h2.append (.cons (arg_rel hx) .nil))
      rw [List.append_assoc]
      exact h1 (x, y)
  exact key ts G [] [] (fun x => by simpa using hrun x) .nil

def TabL (P : Program) (l : List (TypeId × Ty)) : Prop := ∀ T t, look l T = some t → TyOk P t T
def EqL (P : Program) (l : List TypeId) : Prop := ∀ T, l.any (Nat.beq T) = true → P.stoodInHeld T = false ∧ P.eqGuardType P.depth T = false
def InlL (P : Program) (l : List (FuncId × Func)) : Prop := ∀ f fn, look l f = some fn → P.funcs[f]? = some fn ∧ Enters P f
def SpecL (P : Program) (l : List (FuncId × Spec)) : Prop := ∀ f s, look l f = some s → SpecGood P f s ∧ Enters P f
theorem look_cons {α : Type _} {l : List (Nat × α)} {n m : Nat} {a b : α} (h : look ((m, a) :: l) n = some b) : (m = n ∧ a = b) ∨ look l n = some b := by
  simp only [look] at h
  cases hb : Nat.beq m n with
  | true => rw [hb] at h; cases h; exact .inl ⟨Nat.eq_of_beq_eq_true hb, rfl⟩
  | false => rw [hb] at h; exact .inr h
theorem tab0 : TabL P [] := fun _ _ h => by cases h
theorem tab1 {T : TypeId} {t : Ty} {l : List (TypeId × Ty)} (h : TyOk P t T) (k : TabL P l) : TabL P ((T, t) :: l) := fun T' t' h' => by
  rcases look_cons h' with ⟨rfl, rfl⟩ | h'
  · exact h
  · exact k _ _ h'
theorem eq0 : EqL P [] := fun _ h => by cases h
theorem eq1 {T : TypeId} {l : List TypeId} (h : P.stoodInHeld T = false ∧ P.eqGuardType P.depth T = false) (k : EqL P l) : EqL P (T :: l) := fun T' h' => by
  simp only [List.any_cons, Bool.or_eq_true] at h'
  rcases h' with h' | h'
  · rw [Nat.eq_of_beq_eq_true h']; exact h
  · exact k _ h'
theorem inl0 : InlL P [] := fun _ _ h => by cases h
theorem inl1 {f : FuncId} {fn : Func} {l : List (FuncId × Func)} (h : P.funcs[f]? = some fn ∧ Enters P f) (k : InlL P l) : InlL P ((f, fn) :: l) := fun f' fn' h' => by
  rcases look_cons h' with ⟨rfl, rfl⟩ | h'
  · exact h
  · exact k _ _ h'
theorem spec0 : SpecL P [] := fun _ _ h => by cases h
theorem spec1 {f : FuncId} {s : Spec} {l : List (FuncId × Spec)} (h : SpecGood P f s ∧ Enters P f) (k : SpecL P l) : SpecL P ((f, s) :: l) := fun f' s' h' => by
  rcases look_cons h' with ⟨rfl, rfl⟩ | h'
  · exact h
  · exact k _ _ h'
def MSpecL (P : Program) (l : List (FuncId × MSpec)) : Prop := ∀ f s, look l f = some s → MGood P f s ∧ Enters P f
theorem mspec0 : MSpecL P [] := fun _ _ h => by cases h
theorem mspec1 {f : FuncId} {s : MSpec} {l : List (FuncId × MSpec)} (h : MGood P f s ∧ Enters P f) (k : MSpecL P l) : MSpecL P ((f, s) :: l) := fun f' s' h' => by
  rcases look_cons h' with ⟨rfl, rfl⟩ | h'
  · exact h
  · exact k _ _ h'
def PtrL (P : Program) (l : List TypeId) : Prop := ∀ T, l.any (Nat.beq T) = true → PtrOk P T
theorem ptr0 : PtrL P [] := fun _ h => by cases h
def MapL (P : Program) (l : List (TypeId × Ty)) : Prop := ∀ T t, look l T = some t → MapOk P T t
theorem map0 : MapL P [] := fun _ _ h => by cases h
theorem map1 {T : TypeId} {t : Ty} {l : List (TypeId × Ty)} (h : MapOk P T t) (k : MapL P l) : MapL P ((T, t) :: l) := fun T' t' h' => by
  rcases look_cons h' with ⟨rfl, rfl⟩ | h'
  · exact h
  · exact k _ _ h'
def mapB (P : Program) (T : TypeId) (t : Ty) : Bool := (match P.info? T with
  | some i => Nat.beq i.size 1 && (match i.zero with | some (.map none) => true | _ => false)
  | none => false) && (match P.underlying T with
  | some (.map k e) => (match P.underlying k with | some (.int .i64) => true | _ => false) && tyB P t false e []
  | _ => false)
theorem mapB_sound {T : TypeId} {t : Ty} (h : mapB P T t = true) : MapOk P T t := by
  unfold mapB at h
  simp only [Bool.and_eq_true] at h
  obtain ⟨h0, h⟩ := h
  have hinfo : ∃ i, P.info? T = some i ∧ i.size = 1 ∧ i.zero = some (.map none) := by
    split at h0
    · rename_i i hi
      simp only [Bool.and_eq_true] at h0
      obtain ⟨h3, h4⟩ := h0
      split at h4
      · rename_i hz
        exact ⟨i, hi, Nat.eq_of_beq_eq_true h3, hz⟩
      · cases h4
    · cases h0
  split at h
  · rename_i k e hu
    simp only [Bool.and_eq_true] at h
    obtain ⟨h1, h2⟩ := h
    split at h1
    · rename_i hk
      exact ⟨hinfo, k, e, hu, hk, tyB_sound t false e [] h2⟩
    · cases h1
  · cases h
theorem ok_of {cfg : Cfg} (h7 : MapL P cfg.maps) (h6 : PtrL P cfg.ptrs) (h1 : EqL P cfg.eqs) (h2 : TabL P cfg.tab) (h3 : InlL P cfg.inl) (h4 : SpecL P cfg.spec) (h5 : MSpecL P cfg.mspec) : Ok P cfg :=
  { map := h7, ptr := h6, eqs := h1, tab := h2, spec := fun f s h => (h4 f s h).1, mspec := fun f s h => (h5 f s h).1, enter := fun f h => by
      rcases h with h | h
      · obtain ⟨s, hs⟩ := Option.isSome_iff_exists.1 h
        exact (h4 f s hs).2
      · obtain ⟨s, hs⟩ := Option.isSome_iff_exists.1 h
        exact (h3 f s hs).2
    enterM := fun f h => by
      obtain ⟨s, hs⟩ := Option.isSome_iff_exists.1 h
      exact (h5 f s hs).2 }
end

inductive PK where
  | imm (t : Ty)
  | box (t : Ty)
  | row (e : TypeId) (t : Ty)
@[reducible] def PT : PK → Type
  | .imm t => El t
  | .box t => El t
  | .row _ t => List (El t)
@[reducible] def PArgs : List PK → Type
  | [] => Unit
  | k :: ks => PT k × PArgs ks
@[reducible] def PoT : List PK → Type
  | [] => Unit
  | .imm _ :: ks => PoT ks
  | .box t :: ks => El t × PoT ks
  | .row _ t :: ks => List (El t) × PoT ks
def shr : List Bool := List.replicate 64 false
def poV : (ks : List PK) → PoT ks → List Po
  | [], _ => []
  | .imm _ :: ks, y => poV ks y
  | .box t :: ks, y => .box t y.1 :: poV ks y.2
  | .row _ t :: ks, y => .row t y.1 :: poV ks y.2
section
variable {P : Program} {cfg : Cfg} {E : Env} {st : St} {saved : List (Nat × List VV)} {a : Act} {S : List (Array Value)} {w w' w0 : World} {K : Keep}
inductive PRel (ok : Nat → Prop) (w : World) : (ks : List PK) → PArgs ks → List Value → List MD → Prop where
  | nil : PRel ok w [] () [] []
  | imm {t ks x r v vs ds} : ImmArg ok w t x v → PRel ok w ks r vs ds → PRel ok w (.imm t :: ks) (x, r) (v :: vs) ds
  | box {t ks x r g p cs vs ds} : Imm ok w t x cs → BoxAt w g p cs → g < w.heap.size → ¬ ok g → g ∉ ds.flatMap MD.blk → PRel ok w ks r vs ds →
      PRel ok w (.box t :: ks) (x, r) (.pointer (some ⟨g, p, none⟩) :: vs) (.box g p :: ds)
  | nrow {e t ks r A vs ds} : PRel ok w ks r vs ds → PRel ok w (.row e t :: ks) ([], r) (.slice A 0 0 :: vs) (.nil :: ds)
  | row {e t ks xs r g off c vs ds} : xs.length ≤ c → 0 < c → RowAt ok w g off t xs → NoFrz t w g → Room w g (off + c * t.sz) → g < w.heap.size → ¬ ok g → g ∉ ds.flatMap MD.blk → PRel ok w ks r vs ds →
      PRel ok w (.row e t :: ks) (xs, r) (.slice (some ⟨g, off, none⟩) xs.length c :: vs) (.row g off c :: ds)
end
end Go.Vm
end
