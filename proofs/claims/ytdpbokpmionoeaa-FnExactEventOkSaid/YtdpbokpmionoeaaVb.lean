/- The machine: a typed interpreter of the model's code, and its soundness (part 2). -/
import Derived.Test.YtdpbokpmionoeaaVa
import Derived.Orders
import Derived.LoopN
import GoSem.ClaimChange
import Derived.ChangeArms
import Derived.WideKeyArgs
import Derived.ChangeOld
import Derived.ChangeFn
import Derived.RowKitTokens
import Derived.WideMake
set_option linter.unusedVariables false
section
namespace Go.Vm
open Go

theorem tset_tget : ∀ (l : List VV) (n : Nat), tset l n (tget l n) = l
  | [], n => rfl
  | x :: l, 0 => rfl
  | x :: l, n + 1 => by simp only [tget, tset, tset_tget l n]
theorem setB_same {s : St} {t : Nat} {b : Bool} (h : tget s.tmps t = .v ⟨false, [.bool b]⟩) : setB s t b = s := by
  have : one (.bool b) = tget s.tmps t := h.symm
  simp only [setB, this, tset_tget]
section
variable {P : Program} {cfg : Cfg} {E : Env} {st : St} {saved : List (Nat × List VV)} {a : Act} {S : List (Array Value)} {w w0 : World} {K : Keep}
theorem tget_some {l : List VV} {m : List Value} {r : VV → Value → Prop} (h : All2 r l m) {t : Nat} {x : VV} (hx : tget l t = x) (hne : x ≠ .un) : ∃ v, m[t]? = some v ∧ r x v := by
  induction h generalizing t with
  | nil => exact absurd hx.symm hne
  | cons p _ ih => cases t with
    | zero => simp only [tget] at hx; subst hx; exact ⟨_, rfl, p⟩
    | succ t => exact ih hx
theorem tmp_bool (h : RelE E st saved a S w w0 K) {t : Nat} {b : Bool} (hx : tget st.tmps t = .v ⟨false, [.bool b]⟩) : a.tmps[t]? = some (.bool b) := by
  obtain ⟨v, hv, hr⟩ := tget_some h.tm hx (fun e => by cases e)
  have : v = .bool b := V1Rel.one hr
  subst this
  simpa using hv
theorem tmp_undef (h : RelE E st saved a S w w0 K) {t : Nat} (hx : tget st.tmps t = .tup []) : a.tmps[t]? = some (.tuple #[]) := by
  obtain ⟨v, hv, hr⟩ := tget_some h.tm hx (fun e => by cases e)
  obtain ⟨Vs, h1, rfl⟩ := hr
  cases h1
  simpa using hv
theorem dstOf_eq (A : Array Oper) (j : Nat) : dstOf A.toList j = (A[j]?).bind (·.dst) := by
  unfold dstOf
  rw [Array.getElem?_toList]
  cases A[j]? <;> rfl

def CallOk {R : Type} (P : Program) (cfg : Cfg) (call : FuncId → List V1 → (VV → Ms → Option R) → Ms → Option R) : Prop :=
  ∀ {f vs k m r}, call f vs k m = some r → (look cfg.inl f).isSome = true ∧ ∀ {E : Env} {a : Act} {S : List (Array Value)} {w w0 : World} {Kp : Keep} {args : List Value}, RelE E m.st m.saved a S w w0 Kp → All2 (V1Rel E m.st.heap w) vs args →
    ∀ (Q : Ending → World → Prop), (∀ v V m' w' E', k v m' = some r → RelE E' m'.st m'.saved a S w' w0 Kp → VRel E' m'.st.heap w' v V → Q (.returned V) w') → Calls P f args.toArray w Q

variable {R : Type} {r : R} {call : FuncId → List V1 → (VV → Ms → Option R) → Ms → Option R} {Kc : Ms → Option R} {Q : Exit → Act → World → Prop}

theorem caps_v1 {h : Heap} {caps : List Nat} {vs : List Value} (k : All2 (PtrRel E h) caps vs) : All2 (V1Rel E h w) (caps.map fun c => (⟨false, [.ptr c 0]⟩ : V1)) vs := by
  induction k with
  | nil => exact .nil
  | cons p _ ih =>
    obtain ⟨n, hs, rfl⟩ := p
    exact .cons (V1Rel.mkOne ⟨n, hs, by rw [Nat.add_zero]⟩) ih

theorem ops_text (hG : Ok P cfg) (hcall : CallOk P cfg call) (A : Array Oper) : ∀ (rest : List Oper) (i : Nat) (tr : List Tr) (m : Ms) {E : Env} {a : Act} {w : World}, A.toList.drop i = rest →
    execOps cfg false A.toList call Kc rest i tr m = some r → RelE E m.st m.saved a S w w0 K →
    (∀ m' a' w' E', Kc m' = some r → RelE E' m'.st m'.saved a' S w' w0 K → Q .normal a' w') → wpOps P A Q (List.range' i rest.length) a w := by
  intro rest
  induction rest with
  | nil =>
    intro i tr m E a w hA hrun hr hQ
    simp only [execOps, cond_false] at hrun
    exact hQ _ _ _ _ hrun hr
  | cons o rest ih =>
    intro i tr m E a w hA hrun hr hQ
    have hi : A[i]? = some o := by
      rw [← Array.getElem?_toList]
      have := congrArg (·[0]?) hA
      simpa using this
    have hA' : A.toList.drop (i + 1) = rest := by
      have := congrArg List.tail hA
      simpa using this
    have go : ∀ {m' : Ms} {a' : Act} {w' : World} {E' : Env} {tr'}, execOps cfg false A.toList call Kc rest (i + 1) tr' m' = some r → RelE E' m'.st m'.saved a' S w' w0 K → wpOps P A Q (List.range' (i + 1) rest.length) a' w' :=
      fun h1 h2 => ih (i + 1) _ _ hA' h1 h2 hQ
    -- skipped
    have skip : Region.wanted o (yielded A a.tmps) = false → execOps cfg false A.toList call Kc rest (i + 1) tr { m with st := putV m.st o.dst (.tup []) } = some r →
        wpOps P A Q (List.range' i (o :: rest).length) a w := by
      intro hw h1
      simp only [List.length_cons, List.range'_succ, wpOps, hi, hw, Bool.false_eq_true, if_false]
      exact go h1 (hr.put o.dst (show VRel E m.st.heap w (.tup []) undef from ⟨[], .nil, rfl⟩))
    have plain : ∀ {l}, Region.wanted o (yielded A a.tmps) = true → (opRP cfg m.base o).run m.st (fun u v l' => execOps cfg false A.toList call Kc rest (i + 1)
        tr { m with st := putV (m.st.upds u) o.dst v }) l = some r → wpOps P A Q (List.range' i (o :: rest).length) a w := by
      intro l hw h1
      simp only [List.length_cons, List.range'_succ, wpOps, hi, hw, if_true]
      obtain ⟨u, v, l', h2, hs⟩ := s_op hG hr h1
      exact .inl (hs Q _ fun a' w' E' h3 => go h2 h3)
    have inl : ∀ {c : Call} {g : Operand} {f : FuncId} {cap : Array Value} {caps : List Nat} {l}, Region.wanted o (yielded A a.tmps) = true → o.op = .call c → c.callee = .value g → a.eval g = .func (.func f) #[] cap →
        All2 (PtrRel E m.st.heap) caps cap.toList → (rdArgs c.args.toList fun vs => .done [] (.tup vs)).run m.st (fun _ vs _ => match vs with
            | .tup vs => call f (vs ++ caps.map fun c => ⟨false, [.ptr c 0]⟩) (fun v m => execOps cfg false A.toList call Kc rest (i + 1) tr { m with st := putV m.st o.dst v }) m
            | _ => none) l = some r → wpOps P A Q (List.range' i (o :: rest).length) a w := by
      intro c g f cap caps l hw ho hc hg hcap h1
      simp only [List.length_cons, List.range'_succ, wpOps, hi, hw, if_true]
      obtain ⟨vs, l1, h2, h3⟩ := run_rdArgs _ _ _ h1
      simp only [RP.run] at h2
      obtain ⟨hin, hcl⟩ := hcall h2
      have hex := call_exec (P := P) (w := w) (ρ := a.eval) ho hc hg (hG.enter f (.inr hin))
      refine .inl ?_
      unfold Oper.wp
      rw [hex, Oper.upon_enter]
      have hargs : All2 (V1Rel E m.st.heap w) (vs ++ caps.map fun c => (⟨false, [.ptr c 0]⟩ : V1)) (c.args.toList.map a.eval ++ cap.toList) := (h3 hr).append (caps_v1 hcap)
      have := hcl hr hargs (fun
        | .returned v, w'' => wpOps P A Q (List.range' (i + 1) rest.length) (a.put o.dst v) w''
        | .panicked chain, w'' => Q (.panic chain) a w''
        | .outgrown, _ => LetsOut Q) (fun v V m' w' E' hk hr' hv => go hk (hr'.put o.dst hv))
      have harr : (c.args.toList.map a.eval ++ cap.toList).toArray = c.args.map a.eval ++ cap := by apply Array.toList_inj.1; simp
      rwa [harr] at this
    have act : ∀ {l}, Region.wanted o (yielded A a.tmps) = true → (match o.op with
      | .call { callee := .value (.func f), args, .. } => (match look cfg.inl f with
        | none => (opRP cfg m.base o).run m.st (fun u v l' => execOps cfg false A.toList call Kc rest (i + 1)
            tr { m with st := putV (m.st.upds u) o.dst v }) l
        | some _ =>
          (rdArgs args.toList fun vs => .done [] (.tup vs)).run m.st (fun _ vs _ => match vs with
            | .tup vs => call f vs (fun v m => execOps cfg false A.toList call Kc rest (i + 1) tr { m with st := putV m.st o.dst v }) m
            | _ => none) l)
      | .call { callee := .value (.tmp t), args, .. } => (match tget m.st.tmps t with
        | .v ⟨false, [.fn f caps]⟩ =>
          (rdArgs args.toList fun vs => .done [] (.tup vs)).run m.st (fun _ vs _ => match vs with
            | .tup vs => call f (vs ++ caps.map fun c => ⟨false, [.ptr c 0]⟩) (fun v m => execOps cfg false A.toList call Kc rest (i + 1) tr { m with st := putV m.st o.dst v }) m
            | _ => none) l
        | _ => none)
      | _ => (opRP cfg m.base o).run m.st (fun u v l' => execOps cfg false A.toList call Kc rest (i + 1)
            tr { m with st := putV (m.st.upds u) o.dst v }) l) = some r → wpOps P A Q (List.range' i (o :: rest).length) a w := by
      intro l hw h1
      split at h1
      · rename_i f args at_ ho
        split at h1
        · exact plain hw h1
        · refine inl (c := { callee := .value (.func f), args, argTypes := at_ }) (g := .func f) (cap := #[]) (caps := []) hw ho rfl rfl .nil (l := l) ?_
          simpa using h1
      · rename_i t args at_ ho
        split at h1
        · rename_i f caps ht
          have hv := hr.tmp t
          rw [ht] at hv
          obtain ⟨cap, e, hcap⟩ := V1Rel.one hv
          exact inl (c := { callee := .value (.tmp t), args, argTypes := at_ }) (g := .tmp t) hw ho rfl e hcap (l := l) h1
        · cases h1
      · exact plain hw h1
    unfold execOps at hrun
    simp only [cond_false] at hrun
    cases hgd : o.guard with
    | none =>
      rw [hgd] at hrun
      exact act (by simp [Region.wanted, hgd]) hrun
    | some gw =>
      obtain ⟨j, want⟩ := gw
      rw [hgd] at hrun
      simp only [dstOf_eq] at hrun
      cases hd : (A[j]?).bind (·.dst) with
      | none => rw [hd] at hrun; cases hrun
      | some t =>
        rw [hd] at hrun
        simp only at hrun
        split at hrun
        · rename_i b ht
          have hb := tmp_bool hr ht
          have hwant : Region.wanted o (yielded A a.tmps) = (b == want) := by
            simp [Region.wanted, hgd, yielded, hd, hb]
          cases b <;> cases want <;> simp only [cond_true, cond_false, setB_same ht] at hrun
          · exact act (by rw [hwant]; rfl) hrun
          · exact skip (by rw [hwant]; rfl) hrun
          · exact skip (by rw [hwant]; rfl) hrun
          · exact act (by rw [hwant]; rfl) hrun
        · rename_i ht
          have hb := tmp_undef hr ht
          exact skip (by simp [Region.wanted, hgd, yielded, hd, hb]) hrun
        · cases hrun
end
end Go.Vm
end

section
namespace Go.Vm
open Go

/-! ### What a reader program hangs on -/
def Agree (s s2 : St) (l : List Loc) : Prop := (∀ t, Loc.t t ∈ l → tget s2.tmps t = tget s.tmps t) ∧ (∀ n, Loc.o n ∈ l → hget s2.heap n = hget s.heap n)
theorem RP.run_inv {s : St} {R : Type} {K : List Upd → VV → List Loc → Option R} {r : R} : ∀ (p : RP) (l : List Loc), p.run s K l = some r →
    ∃ u v l', K u v l' = some r ∧ (∀ x ∈ l, x ∈ l') ∧ ∀ s2, Agree s s2 l' → ∀ {R2 : Type} (K2 : List Upd → VV → List Loc → Option R2), p.run s2 K2 l = K2 u v l' := by
  intro p
  induction p with
  | fail => intro l h; cases h
  | done e v => intro l h; exact ⟨e, v, l, h, fun _ h => h, fun s2 _ R2 K2 => rfl⟩
  | rdT t k ih =>
    intro l h
    obtain ⟨u, v, l', h1, h2, h3⟩ := ih _ _ h
    refine ⟨u, v, l', h1, fun x hx => h2 x (List.mem_cons_of_mem _ hx), fun s2 ha R2 K2 => ?_⟩
    simp only [RP.run]
    rw [ha.1 t (h2 _ List.mem_cons_self)]
    exact h3 s2 ha K2
  | rdO n k ih =>
    intro l h
    obtain ⟨u, v, l', h1, h2, h3⟩ := ih _ _ h
    refine ⟨u, v, l', h1, fun x hx => h2 x (List.mem_cons_of_mem _ hx), fun s2 ha R2 K2 => ?_⟩
    simp only [RP.run]
    rw [ha.2 n (h2 _ List.mem_cons_self)]
    exact h3 s2 ha K2
  | ite b x y ihx ihy =>
    intro l h
    cases b with
    | true => exact ihx l h
    | false => exact ihy l h
  | opt o k ih =>
    intro l h
    cases o with
    | none => cases h
    | some a => exact ih a l h

/-! ### A series of which some have been carried out -/
section
variable {α : Type} (f : Nat → Option α) (x0 : α)
def seqOf (L : Nat → Bool) : Nat → α
  | 0 => x0
  | k + 1 => if L k = true then (f k).getD (seqOf L k) else seqOf L k
variable {f x0}
theorem seq_same {L L' : Nat → Bool} : ∀ n, (∀ k, k < n → L k = L' k) → seqOf f x0 L n = seqOf f x0 L' n
  | 0, _ => rfl
  | n + 1, h => by
    simp only [seqOf, seq_same n (fun k hk => h k (Nat.lt_succ_of_lt hk)), h n (Nat.lt_succ_self n)]
theorem seq_agree {L : Nat → Bool} {i : Nat} (h1 : ∀ k, k < i → (f k).isSome = true → L k = true) :
    ∀ n, i ≤ n → (∀ k, i ≤ k → k < n → L k = true → f k = none) → seqOf f x0 L n = seqOf f x0 (fun _ => true) i := by
  have h0 : ∀ n, n ≤ i → seqOf f x0 L n = seqOf f x0 (fun _ => true) n := by
    intro n
    induction n with
    | zero => intro _; rfl
    | succ n ih =>
      intro hn
      simp only [seqOf, ih (by omega), if_true]
      by_cases hL : L n = true
      · rw [if_pos hL]
      · rw [if_neg hL]
        cases hf : f n with
        | none => rfl
        | some a => exact absurd (h1 n (by omega) (by rw [hf]; rfl)) hL
  intro n
  induction n with
  | zero => intro hn _; have : i = 0 := by omega
            subst this; rfl
  | succ n ih =>
    intro hn h2
    by_cases e : i = n + 1
    · subst e; exact h0 _ (Nat.le_refl _)
    · simp only [seqOf]
      rw [ih (by omega) (fun k hk hk' => h2 k hk (by omega))]
      by_cases hL : L n = true
      · rw [if_pos hL, h2 n (by omega) (by omega) hL]; rfl
      · rw [if_neg hL]
theorem seq_more {L : Nat → Bool} {i : Nat} (hi : L i = false) :
    ∀ n, i < n → (∀ k, i < k → k < n → L k = true → (f k).isSome = true → f i = none) → seqOf f x0 (fun k => L k || k == i) n = (f i).getD (seqOf f x0 L n) := by
  intro n
  induction n with
  | zero => intro h; omega
  | succ n ih =>
    intro hn h2
    by_cases e : i = n
    · subst e
      have : seqOf f x0 (fun k => L k || k == i) i = seqOf f x0 L i := seq_same i (fun k hk => by
        have : (k == i) = false := by simp; omega
        simp [this])
      simp only [seqOf, this, hi]
      simp
    · have ih' := ih (by omega) (fun k hk hk' => h2 k hk (by omega))
      have hne : (n == i) = false := by simp; omega
      simp only [seqOf, hne, Bool.or_false, ih']
      by_cases hL : L n = true
      · rw [if_pos hL, if_pos hL]
        cases hf : f n with
        | none => rfl
        | some a =>
          rw [h2 n (by omega) (by omega) hL (by rw [hf]; rfl)]
          rfl
      · rw [if_neg hL, if_neg hL]
end

/-! ### Effects -/
structure Eff where
  l : List Loc
  d : Option Tmp
  u : List Upd
  v : VV
def Eff.app (e : Eff) (s : St) : St := putV (s.upds e.u) e.d e.v
def lastU : List Upd → Nat → Option Obj
  | [], _ => none
  | .o m o :: u, n => match lastU u n with
    | some x => some x
    | none => if n = m then some o else none
theorem hget_lastU : ∀ (u : List Upd) (s : St) (n : Nat), hget (s.upds u).heap n = match lastU u n with | some o => some o | none => hget s.heap n
  | [], s, n => rfl
  | .o m o :: u, s, n => by
    show hget ((s.upd (.o m o)).upds u).heap n = _
    rw [hget_lastU u _ n]
    simp only [lastU]
    cases lastU u n with
    | some x => rfl
    | none =>
      show hget (hset s.heap m o) n = _
      rw [hget_hset]
      split <;> rfl
theorem lastU_name : ∀ (u : List Upd) (n : Nat), (lastU u n).isSome = true → Loc.o n ∈ u.map Upd.loc
  | [], n, h => by cases h
  | .o m o :: u, n, h => by
    simp only [lastU] at h
    cases hl : lastU u n with
    | some x => exact List.mem_cons_of_mem _ (lastU_name u n (by rw [hl]; rfl))
    | none =>
      rw [hl] at h
      by_cases e : n = m
      · subst e; exact List.mem_cons_self
      · rw [if_neg e] at h; cases h
theorem tget_tset : ∀ (l : List VV) (n : Nat) (v : VV) (t : Nat), tget (tset l n v) t = if t = n ∧ n < l.length then v else tget l t
  | [], n, v, t => by simp [tset]
  | x :: l, 0, v, t => by cases t <;> simp [tset, tget]
  | x :: l, n + 1, v, t => by
    cases t with
    | zero => simp [tset, tget]
    | succ t => simp only [tset, tget, tget_tset l n v t]; simp
def Eff.fT (e : Eff) (len t : Nat) : Option VV := match e.d with
  | some d => if t = d ∧ d < len then some e.v else none
  | none => none
def Eff.fO (e : Eff) (n : Nat) : Option (Option Obj) := (lastU e.u n).map some
theorem Eff.len (e : Eff) (s : St) : (e.app s).tmps.length = s.tmps.length := by
  unfold Eff.app putV
  split
  · rw [tset_eq]; simp [upds_tmps]
  · simp [upds_tmps]
theorem Eff.tget_app (e : Eff) (s : St) (t : Nat) : tget (e.app s).tmps t = (e.fT s.tmps.length t).getD (tget s.tmps t) := by
  unfold Eff.app putV Eff.fT
  cases e.d with
  | none => simp [upds_tmps]
  | some d =>
    simp only [upds_tmps, tget_tset]
    split <;> rfl
theorem Eff.hget_app (e : Eff) (s : St) (n : Nat) : hget (e.app s).heap n = (e.fO n).getD (hget s.heap n) := by
  have : (e.app s).heap = (s.upds e.u).heap := by unfold Eff.app putV; split <;> rfl
  rw [this, hget_lastU]
  unfold Eff.fO
  cases lastU e.u n <;> rfl
def Eff.wrs (e : Eff) : List Loc := (match e.d with | some d => [.t d] | none => []) ++ e.u.map Upd.loc
theorem Eff.fT_wrs {e : Eff} {len t : Nat} (h : (e.fT len t).isSome = true) : Loc.t t ∈ e.wrs := by
  unfold Eff.fT at h
  unfold Eff.wrs
  cases hd : e.d with
  | none => rw [hd] at h; cases h
  | some d =>
    rw [hd] at h
    simp only at h
    split at h
    · rename_i hc
      rw [hc.1]
      simp
    · cases h
theorem Eff.fO_wrs {e : Eff} {n : Nat} (h : (e.fO n).isSome = true) : Loc.o n ∈ e.wrs := by
  unfold Eff.fO at h
  exact List.mem_append.2 (.inr (lastU_name e.u n (by simpa using h)))

/-- The state when some effects, in the text's order, have come about. -/
def stOf (e : Nat → Eff) (s0 : St) (L : Nat → Bool) : Nat → St
  | 0 => s0
  | k + 1 => if L k = true then (e k).app (stOf e s0 L k) else stOf e s0 L k
section
variable {e : Nat → Eff} {s0 : St}
theorem stOf_len (L : Nat → Bool) : ∀ n, (stOf e s0 L n).tmps.length = s0.tmps.length
  | 0 => rfl
  | n + 1 => by
    simp only [stOf]
    split
    · rw [Eff.len, stOf_len L n]
    · exact stOf_len L n
theorem stOf_tget (L : Nat → Bool) (t : Nat) : ∀ n, tget (stOf e s0 L n).tmps t = seqOf (fun k => (e k).fT s0.tmps.length t) (tget s0.tmps t) L n
  | 0 => rfl
  | n + 1 => by
    simp only [stOf, seqOf]
    by_cases hL : L n = true
    · rw [if_pos hL, if_pos hL, Eff.tget_app, stOf_len, stOf_tget L t n]
    · rw [if_neg hL, if_neg hL, stOf_tget L t n]
theorem stOf_hget (L : Nat → Bool) (m : Nat) : ∀ n, hget (stOf e s0 L n).heap m = seqOf (fun k => (e k).fO m) (hget s0.heap m) L n
  | 0 => rfl
  | n + 1 => by
    simp only [stOf, seqOf]
    by_cases hL : L n = true
    · rw [if_pos hL, if_pos hL, Eff.hget_app, stOf_hget L m n]
    · rw [if_neg hL, if_neg hL, stOf_hget L m n]
end
theorem tmps_ext : ∀ {l m : List VV}, l.length = m.length → (∀ t, tget l t = tget m t) → l = m
  | [], [], _, _ => rfl
  | [], _ :: _, h, _ => by simp at h
  | _ :: _, [], h, _ => by simp at h
  | x :: l, y :: m, h, k => by
    have h1 := k 0
    simp only [tget] at h1
    rw [h1, tmps_ext (by simpa using h) (fun t => k (t + 1))]

section
variable {E : Env} {st st' : St} {saved : List (Nat × List VV)} {a : Act} {S : List (Array Value)} {w w0 : World} {K : Keep}
theorem hsh_ext {h h' : Heap} (k : ∀ n, hget h' n = hget h n) (n : Nat) : hsh h' n = hsh h n := by simp [hsh, k n]
theorem Step.ext {h h' : Heap} (k : ∀ n, hget h' n = hget h n) : Step E E h h' w w :=
  ⟨fun _ _ => rfl, fun _ _ h => h, fun _ h => h, fun _ _ => rfl, fun _ _ h => h, fun n s hs => .inl (by rw [hsh_ext k]; exact hs)⟩
/-- The relation looks at the heap's objects alone. -/
theorem RelE.ext (h : RelE E st saved a S w w0 K) (ht : st'.tmps = st.tmps) (k : ∀ n, hget st'.heap n = hget st.heap n) : RelE E st' saved a S w w0 K := by
  have hs : Step E E st.heap st'.heap w w := Step.ext k
  have hl : ∀ n, Live st'.heap n → Live st.heap n := fun n hn => by unfold Live at hn ⊢; rwa [k n] at hn
  refine ⟨by rw [ht]; exact tm_step hs h.tm, h.df, h.sv.mono fun _ _ q => tm_step hs q, fun n o hn => ?_, fun n n' hne h1 h2 => h.dj n n' hne (hl n h1) (hl n' h2), fun n hn => h.dk n (hl n hn), fun n hn => h.bd n (by rw [← k n]; exact hn), h.bo, h.kp, h.os, h.tape, h.out, h.size, h.oz⟩
  rw [k n] at hn
  exact (h.ob n o hn).step hs (by rw [hn]; rfl) (fun h => h) (fun _ => rfl)
end
end Go.Vm
end

section
namespace Go.Vm
open Go

theorem Loc.eqb_iff {x y : Loc} : Loc.eqb x y = true ↔ x = y := by
  cases x <;> cases y <;> simp only [Loc.eqb] <;> constructor <;> intro h
  · rw [Nat.eq_of_beq_eq_true h]
  · cases h; exact Nat.beq_refl _
  · cases h
  · cases h
  · cases h
  · cases h
  · rw [Nat.eq_of_beq_eq_true h]
  · cases h; exact Nat.beq_refl _
theorem meets_of {a b : List Loc} {x : Loc} (h1 : x ∈ a) (h2 : x ∈ b) : meets a b = true :=
  List.any_eq_true.2 ⟨x, h1, List.any_eq_true.2 ⟨x, h2, Loc.eqb_iff.2 rfl⟩⟩

def PairOk (ops : List Oper) (x y : Tr) : Prop := (meets x.wrs y.rds = false ∧ meets x.wrs y.wrs = false ∧ meets x.rds y.wrs = false) ∨ aheadIn ops ops.length y.i x.i = true
theorem apartAll_cons {ops : List Oper} {x : Tr} {r : List Tr} (h : apartAll ops (x :: r) = true) : (∀ y ∈ r, PairOk ops x y) ∧ apartAll ops r = true := by
  simp only [apartAll, Bool.and_eq_true] at h
  refine ⟨fun y hy => ?_, h.2⟩
  have := List.all_eq_true.1 h.1 y hy
  simp only [Bool.or_eq_true, Bool.and_eq_true, Bool.not_eq_true'] at this
  exact this.imp (fun h => ⟨h.1.1, h.1.2, h.2⟩) id
def trs : Nat → List Eff → List Tr → List Tr
  | _, [], tr => tr
  | i, e :: es, tr => trs (i + 1) es (⟨i, e.l, e.wrs⟩ :: tr)
def eff0 : Eff := ⟨[], none, [], .un⟩
theorem apart_trs {ops : List Oper} : ∀ (es : List Eff) (i : Nat) (tr : List Tr), apartAll ops (trs i es tr) = true →
    apartAll ops tr = true ∧ (∀ k, k < es.length → ∀ y ∈ tr, PairOk ops ⟨i + k, (es.getD k eff0).l, (es.getD k eff0).wrs⟩ y) ∧
    ∀ j k, j < k → k < es.length → PairOk ops ⟨i + k, (es.getD k eff0).l, (es.getD k eff0).wrs⟩ ⟨i + j, (es.getD j eff0).l, (es.getD j eff0).wrs⟩
  | [], i, tr, h => ⟨h, fun k hk => by simp at hk, fun j k _ hk => by simp at hk⟩
  | e :: es, i, tr, h => by
    obtain ⟨h1, h2, h3⟩ := apart_trs es (i + 1) _ h
    obtain ⟨h4, h5⟩ := apartAll_cons h1
    refine ⟨h5, fun k hk y hy => ?_, fun j k hjk hk => ?_⟩
    · cases k with
      | zero => exact h4 y hy
      | succ k =>
        have := h2 k (by simpa using hk) y (List.mem_cons_of_mem _ hy)
        rwa [show i + 1 + k = i + (k + 1) by omega] at this
    · cases k with
      | zero => omega
      | succ k => cases j with
        | zero =>
          have := h2 k (by simpa using hk) _ List.mem_cons_self
          rwa [show i + 1 + k = i + (k + 1) by omega] at this
        | succ j =>
          have := h3 j k (by omega) (by simpa using hk)
          rwa [show i + 1 + k = i + (k + 1) by omega, show i + 1 + j = i + (j + 1) by omega] at this

def Does (cfg : Cfg) (base : Nat) (o : Oper) (s2 : St) (e : Eff) : Prop :=
  ∃ l0, ∀ {R2 : Type} (K2 : List Upd → VV → List Loc → Option R2), (opRP cfg base o).run s2 K2 l0 = K2 e.u e.v e.l
def OpAt (cfg : Cfg) (base : Nat) (A : Array Oper) (o : Oper) (s : St) (e : Eff) : Prop :=
  ∀ s2, Agree s s2 e.l → match o.guard with
    | none => Does cfg base o s2 e
    | some (j, want) => ∃ t, (A[j]?).bind (·.dst) = some t ∧ ((∃ b, tget s2.tmps t = .v ⟨false, [.bool b]⟩ ∧ ((b = want ∧ Does cfg base o s2 e) ∨ (b ≠ want ∧ e.u = [] ∧ e.v = .tup []))) ∨ (tget s2.tmps t = .tup [] ∧ e.u = [] ∧ e.v = .tup []))
section
variable {cfg : Cfg} {R : Type} {r : R} {call : FuncId → List V1 → (VV → Ms → Option R) → Ms → Option R} {Kc : Ms → Option R}
theorem ops_draw_inv (A : Array Oper) : ∀ (rest : List Oper) (i : Nat) (tr : List Tr) (m : Ms), execOps cfg true A.toList call Kc rest i tr m = some r →
    ∃ es : List Eff, es.length = rest.length ∧ Kc { m with st := es.foldl (fun s e => e.app s) m.st } = some r ∧ apartAll A.toList (trs i es tr) = true ∧ backOk 0 A.toList = true ∧
      ∀ k, k < rest.length → ∃ o, rest[k]? = some o ∧ (es.getD k eff0).d = o.dst ∧ OpAt cfg m.base A o ((es.take k).foldl (fun s e => e.app s) m.st) (es.getD k eff0) := by
  intro rest
  induction rest with
  | nil =>
    intro i tr m h
    simp only [execOps, cond_true] at h
    cases hb : apartAll A.toList tr && backOk 0 A.toList with
    | false => rw [hb] at h; cases h
    | true =>
      rw [hb] at h
      simp only [Bool.and_eq_true] at hb
      exact ⟨[], rfl, h, hb.1, hb.2, fun k hk => by simp at hk⟩
  | cons o rest ih =>
    intro i tr m h
    have more : ∀ (e : Eff), e.d = o.dst → OpAt cfg m.base A o m.st e → execOps cfg true A.toList call Kc rest (i + 1) (⟨i, e.l, e.wrs⟩ :: tr) { m with st := e.app m.st } = some r →
        ∃ es : List Eff, es.length = (o :: rest).length ∧ Kc { m with st := es.foldl (fun s e => e.app s) m.st } = some r ∧ apartAll A.toList (trs i es tr) = true ∧ backOk 0 A.toList = true ∧
          ∀ k, k < (o :: rest).length → ∃ o', (o :: rest)[k]? = some o' ∧ (es.getD k eff0).d = o'.dst ∧ OpAt cfg m.base A o' ((es.take k).foldl (fun s e => e.app s) m.st) (es.getD k eff0) := by
      intro e hd hat h1
      obtain ⟨es, h2, h3, h4, h5, h6⟩ := ih _ _ _ h1
      refine ⟨e :: es, by simp [h2], h3, h4, h5, fun k hk => ?_⟩
      cases k with
      | zero => exact ⟨o, rfl, hd, hat⟩
      | succ k =>
        obtain ⟨o', h7, h8, h9⟩ := h6 k (by simpa using hk)
        exact ⟨o', by simpa using h7, by simpa using h8, by simpa using h9⟩
    have plain : ∀ {l}, (opRP cfg m.base o).run m.st (fun u v l' => execOps cfg true A.toList call Kc rest (i + 1)
        (⟨i, l', (match o.dst with | some d => [.t d] | none => []) ++ u.map Upd.loc⟩ :: tr) { m with st := putV (m.st.upds u) o.dst v }) l = some r →
        ∃ e : Eff, e.d = o.dst ∧ (∀ x ∈ l, x ∈ e.l) ∧ (∀ s2, Agree m.st s2 e.l → Does cfg m.base o s2 e) ∧ execOps cfg true A.toList call Kc rest (i + 1) (⟨i, e.l, e.wrs⟩ :: tr) { m with st := e.app m.st } = some r := by
      intro l h1
      obtain ⟨u, v, l', h2, h3, h4⟩ := RP.run_inv _ _ h1
      exact ⟨⟨l', o.dst, u, v⟩, rfl, h3, fun s2 ha => ⟨l, fun K2 => h4 s2 ha K2⟩, h2⟩
    have act : ∀ {l}, (match o.op with
      | .call { callee := .value (.func f), args, .. } => (match look cfg.inl f with
        | none => (opRP cfg m.base o).run m.st (fun u v l' => execOps cfg true A.toList call Kc rest (i + 1)
            (⟨i, l', (match o.dst with | some d => [.t d] | none => []) ++ u.map Upd.loc⟩ :: tr) { m with st := putV (m.st.upds u) o.dst v }) l
        | some _ => none)
      | .call { callee := .value (.tmp t), args, .. } => (match tget m.st.tmps t with
        | .v ⟨false, [.fn f caps]⟩ => none
        | _ => none)
      | _ => (opRP cfg m.base o).run m.st (fun u v l' => execOps cfg true A.toList call Kc rest (i + 1)
            (⟨i, l', (match o.dst with | some d => [.t d] | none => []) ++ u.map Upd.loc⟩ :: tr) { m with st := putV (m.st.upds u) o.dst v }) l) = some r →
        ∃ e : Eff, e.d = o.dst ∧ (∀ x ∈ l, x ∈ e.l) ∧ (∀ s2, Agree m.st s2 e.l → Does cfg m.base o s2 e) ∧ execOps cfg true A.toList call Kc rest (i + 1) (⟨i, e.l, e.wrs⟩ :: tr) { m with st := e.app m.st } = some r := by
      intro l h1
      split at h1
      · split at h1
        · exact plain h1
        · cases h1
      · split at h1 <;> cases h1
      · exact plain h1
    have skip : ∀ {l}, execOps cfg true A.toList call Kc rest (i + 1) (⟨i, l, match o.dst with | some d => [.t d] | none => []⟩ :: tr) { m with st := putV m.st o.dst (.tup []) } = some r →
        execOps cfg true A.toList call Kc rest (i + 1) (⟨i, l, (⟨l, o.dst, [], .tup []⟩ : Eff).wrs⟩ :: tr) { m with st := (⟨l, o.dst, [], .tup []⟩ : Eff).app m.st } = some r := by
      intro l h1
      have : (⟨l, o.dst, [], .tup []⟩ : Eff).wrs = (match o.dst with | some d => [.t d] | none => []) := by unfold Eff.wrs; cases o.dst <;> rfl
      rw [this]
      exact h1
    unfold execOps at h
    simp only [cond_true] at h
    cases hgd : o.guard with
    | none =>
      rw [hgd] at h
      obtain ⟨e, h1, h2, h3, h4⟩ := act h
      exact more e h1 (fun s2 ha => by rw [hgd]; exact h3 s2 ha) h4
    | some gw =>
      obtain ⟨j, want⟩ := gw
      rw [hgd] at h
      simp only [dstOf_eq] at h
      cases hd : (A[j]?).bind (·.dst) with
      | none => rw [hd] at h; cases h
      | some t =>
        rw [hd] at h
        simp only at h
        split at h
        · rename_i b ht
          have acted : b = want → (∃ e : Eff, e.d = o.dst ∧ (∀ x ∈ [Loc.t t], x ∈ e.l) ∧ (∀ s2, Agree m.st s2 e.l → Does cfg m.base o s2 e) ∧ execOps cfg true A.toList call Kc rest (i + 1) (⟨i, e.l, e.wrs⟩ :: tr) { m with st := e.app m.st } = some r) →
              ∃ es : List Eff, es.length = (o :: rest).length ∧ Kc { m with st := es.foldl (fun s e => e.app s) m.st } = some r ∧ apartAll A.toList (trs i es tr) = true ∧ backOk 0 A.toList = true ∧
                ∀ k, k < (o :: rest).length → ∃ o', (o :: rest)[k]? = some o' ∧ (es.getD k eff0).d = o'.dst ∧ OpAt cfg m.base A o' ((es.take k).foldl (fun s e => e.app s) m.st) (es.getD k eff0) := by
            rintro hw ⟨e, h1, h2, h3, h4⟩
            refine more e h1 (fun s2 ha => ?_) h4
            rw [hgd]
            exact ⟨t, hd, .inl ⟨b, by rw [ha.1 t (h2 _ List.mem_cons_self), ht], .inl ⟨hw, h3 s2 ha⟩⟩⟩
          have skipped : b ≠ want → execOps cfg true A.toList call Kc rest (i + 1) (⟨i, [Loc.t t], match o.dst with | some d => [.t d] | none => []⟩ :: tr) { m with st := putV m.st o.dst (.tup []) } = some r →
              ∃ es : List Eff, es.length = (o :: rest).length ∧ Kc { m with st := es.foldl (fun s e => e.app s) m.st } = some r ∧ apartAll A.toList (trs i es tr) = true ∧ backOk 0 A.toList = true ∧
                ∀ k, k < (o :: rest).length → ∃ o', (o :: rest)[k]? = some o' ∧ (es.getD k eff0).d = o'.dst ∧ OpAt cfg m.base A o' ((es.take k).foldl (fun s e => e.app s) m.st) (es.getD k eff0) := by
            intro hw h1
            refine more ⟨[.t t], o.dst, [], .tup []⟩ rfl (fun s2 ha => ?_) (skip h1)
            rw [hgd]
            exact ⟨t, hd, .inl ⟨b, by rw [ha.1 t List.mem_cons_self, ht], .inr ⟨hw, rfl, rfl⟩⟩⟩
          cases b <;> cases want <;> simp only [cond_true, cond_false, setB_same ht] at h
          · exact acted rfl (act h)
          · exact skipped (by simp) h
          · exact skipped (by simp) h
          · exact acted rfl (act h)
        · rename_i ht
          refine more ⟨[.t t], o.dst, [], .tup []⟩ rfl (fun s2 ha => ?_) (skip h)
          rw [hgd]
          exact ⟨t, hd, .inr ⟨by rw [ha.1 t List.mem_cons_self, ht], rfl, rfl⟩⟩
        · cases h

theorem stOf_take {es : List Eff} {s : St} : ∀ n, n ≤ es.length → stOf (fun k => es.getD k eff0) s (fun _ => true) n = (es.take n).foldl (fun s e => e.app s) s
  | 0, _ => rfl
  | n + 1, h => by
    have hn : n < es.length := h
    simp only [stOf, if_true, stOf_take n (Nat.le_of_lt hn)]
    rw [List.take_succ_eq_append_getElem hn, List.foldl_append]
    simp [List.getD, List.getElem?_eq_getElem hn]
theorem stOf_same {e : Nat → Eff} {s : St} {L L' : Nat → Bool} : ∀ n, (∀ k, k < n → L k = L' k) → stOf e s L n = stOf e s L' n
  | 0, _ => rfl
  | n + 1, h => by simp only [stOf, stOf_same n (fun k hk => h k (Nat.lt_succ_of_lt hk)), h n (Nat.lt_succ_self n)]

/-! ### What has been listed -/
def cnt (L : Nat → Bool) : Nat → Nat
  | 0 => 0
  | n + 1 => cnt L n + (if L n = true then 0 else 1)
theorem cnt_zero {L : Nat → Bool} : ∀ n, cnt L n = 0 → ∀ k, k < n → L k = true
  | 0, _, k, hk => by omega
  | n + 1, h, k, hk => by
    simp only [cnt] at h
    by_cases e : k = n
    · subst e
      cases hL : L k with
      | true => rfl
      | false => rw [hL] at h; simp at h
    · exact cnt_zero n (by omega) k (by omega)
theorem cnt_same {L L' : Nat → Bool} : ∀ n, (∀ k, k < n → L k = L' k) → cnt L n = cnt L' n
  | 0, _ => rfl
  | n + 1, h => by simp only [cnt, cnt_same n (fun k hk => h k (Nat.lt_succ_of_lt hk)), h n (Nat.lt_succ_self n)]
theorem cnt_more {L : Nat → Bool} {i : Nat} (hi : L i = false) : ∀ n, i < n → cnt (fun k => L k || k == i) n + 1 = cnt L n
  | 0, h => by omega
  | n + 1, h => by
    by_cases e : i = n
    · subst e
      have : cnt (fun k => L k || k == i) i = cnt L i := cnt_same i (fun k hk => by
        have : (k == i) = false := by simp; omega
        simp [this])
      simp only [cnt, this, hi]
      simp
    · have hne : (n == i) = false := by simp; omega
      have := cnt_more hi n (by omega)
      simp only [cnt, hne, Bool.or_false]
      omega

def Closed (A : Array Oper) (L : Nat → Bool) : Prop := ∀ k o, A[k]? = some o → L k = true → ∀ e ∈ o.after, Region.binds .any e = true → L e.on = true
theorem ahead_listed {A : Array Oper} {L : Nat → Bool} (hc : Closed A L) : ∀ (f i j : Nat), aheadIn A.toList f i j = true → (∀ o, A[j]? = some o → ∀ e ∈ o.after, Region.binds .any e = true → L e.on = true) → L i = true
  | 0, i, j, h, _ => by simp [aheadIn] at h
  | f + 1, i, j, h, hj => by
    simp only [aheadIn, Array.getElem?_toList] at h
    cases ho : A[j]? with
    | none => rw [ho] at h; cases h
    | some o =>
      rw [ho] at h
      obtain ⟨e, he, hb⟩ := List.any_eq_true.1 h
      simp only [Bool.and_eq_true, Bool.or_eq_true] at hb
      have hl := hj o ho e (by simpa using he) hb.1
      rcases hb.2 with h1 | h1
      · rw [← Nat.eq_of_beq_eq_true h1]; exact hl
      · exact ahead_listed hc f i e.on h1 (fun o' ho' => hc e.on o' ho' hl)
theorem back_of {ops : List Oper} : ∀ {i : Nat}, backOk i ops = true → ∀ k o, ops[k]? = some o → ∀ e ∈ o.after, Region.binds .any e = true → e.on < i + k := by
  induction ops with
  | nil => intro i _ k o h; simp at h
  | cons x ops ih =>
    intro i h k o ho e he hb
    simp only [backOk, Bool.and_eq_true] at h
    cases k with
    | zero =>
      simp only [List.getElem?_cons_zero, Option.some.injEq] at ho
      subst ho
      have := List.all_eq_true.1 h.1 e (by simpa using he)
      rw [hb] at this
      simp only [Bool.not_true, Bool.false_or] at this
      exact Nat.le_of_ble_eq_true this
    | succ k =>
      have := ih h.2 k o (by simpa using ho) e he hb
      omega
end
end Go.Vm
end

section
namespace Go.Vm
open Go
section
variable {P : Program} {cfg : Cfg} {saved : List (Nat × List VV)} {S : List (Array Value)} {w0 : World} {K : Keep} {Q : Exit → Act → World → Prop}

def listedF (listed : Array Bool) (k : Nat) : Bool := listed.getD k false
theorem listed_set {listed : Array Bool} {i : Nat} (h : i < listed.size) (k : Nat) : listedF (listed.setIfInBounds i true) k = (listedF listed k || k == i) := by
  unfold listedF
  by_cases e : k = i
  · subst e
    simp [h]
  · have : (k == i) = false := by simpa using e
    have hne : i ≠ k := fun h => e h.symm
    simp [this, Array.getElem?_setIfInBounds_ne hne]

theorem any_order (hG : Ok P cfg) {A : Array Oper} {e : Nat → Eff} {s0 : St} {base : Nat}
    (hop : ∀ k, k < A.size → ∃ o, A[k]? = some o ∧ (e k).d = o.dst ∧ OpAt cfg base A o (stOf e s0 (fun _ => true) k) (e k))
    (hap : ∀ j k, j < k → k < A.size → PairOk A.toList ⟨k, (e k).l, (e k).wrs⟩ ⟨j, (e j).l, (e j).wrs⟩)
    (hback : backOk 0 A.toList = true)
    (hQ : ∀ E a w, RelE E (stOf e s0 (fun _ => true) A.size) saved a S w w0 K → Q .normal a w) :
    ∀ (fuel : Nat) (listed : Array Bool) (E : Env) (a : Act) (w : World), listed.size = A.size → Closed A (listedF listed) → cnt (listedF listed) A.size ≤ fuel → RelE E (stOf e s0 (listedF listed) A.size) saved a S w w0 K →
      wpAny P .any A Q fuel listed a w := by
  have hend : ∀ (listed : Array Bool) (E : Env) (a : Act) (w : World), (∀ k, k < A.size → listedF listed k = true) → RelE E (stOf e s0 (listedF listed) A.size) saved a S w w0 K → Q .normal a w := by
    intro listed E a w hall hr
    refine hQ E a w ?_
    rwa [stOf_same A.size (fun k hk => hall k hk)] at hr
  have hready : ∀ (listed : Array Bool), listed.size = A.size → Closed A (listedF listed) → Region.ready .any A listed = [] → ∀ k, k < A.size → listedF listed k = true := by
    intro listed hsz hcl hemp k
    induction k using Nat.strongRecOn with
    | _ k ih =>
      intro hk
      cases hL : listedF listed k with
      | true => rfl
      | false =>
        have hin : k ∈ Region.ready .any A listed := by
          rw [mem_ready]
          refine ⟨?_, A[k], Array.getElem?_eq_getElem hk, fun x hx hb => ?_⟩
          · unfold listedF at hL
            have : k < listed.size := by omega
            simpa [this] using hL
          · have hlt := back_of hback k A[k] (by simp [hk]) x hx hb
            rw [Nat.zero_add] at hlt
            exact ih x.on hlt (by omega)
        rw [hemp] at hin
        cases hin
  intro fuel
  induction fuel with
  | zero =>
    intro listed E a w hsz hcl hc hr
    have hall := cnt_zero A.size (Nat.le_zero.1 hc)
    refine ⟨?_, hend listed E a w hall hr⟩
    cases hrd : Region.ready .any A listed with
    | nil => rfl
    | cons i r =>
      have hin : i ∈ Region.ready .any A listed := by rw [hrd]; exact List.mem_cons_self
      obtain ⟨h1, o, ho, _⟩ := mem_ready.1 hin
      have hi : i < A.size := (Array.getElem?_eq_some_iff.1 ho).1
      have h2 := hall i hi
      unfold listedF at h2
      have : i < listed.size := by omega
      simp [this] at h1 h2
      rw [h1] at h2
      cases h2
  | succ fuel ih =>
    intro listed E a w hsz hcl hc hr
    refine ⟨fun hemp => hend listed E a w (hready listed hsz hcl hemp) hr, fun i hin => ?_⟩
    obtain ⟨h1, o, ho, hpre⟩ := mem_ready.1 hin
    have hi : i < A.size := (Array.getElem?_eq_some_iff.1 ho).1
    have hLi : listedF listed i = false := by
      unfold listedF
      have : i < listed.size := by omega
      simpa [this] using h1
    have hpre' : ∀ o', A[i]? = some o' → ∀ x ∈ o'.after, Region.binds .any x = true → listedF listed x.on = true := by
      intro o' ho' x hx hb
      rw [ho] at ho'
      cases ho'
      exact hpre x hx hb
    -- what is ahead of i is listed; what is listed has i not ahead
    have ahead1 : ∀ k, aheadIn A.toList A.toList.length k i = true → listedF listed k = true := fun k h => ahead_listed hcl _ k i h hpre'
    have ahead2 : ∀ k, listedF listed k = true → aheadIn A.toList A.toList.length i k = true → False := fun k hk h => by
      have := ahead_listed hcl _ i k h (fun o' ho' => hcl k o' ho' hk)
      rw [hLi] at this
      cases this
    -- the pairs
    have before : ∀ k, k < i → ∀ x, x ∈ (e k).wrs → x ∈ (e i).l → listedF listed k = true := by
      intro k hk x hx1 hx2
      rcases hap k i hk hi with ⟨_, _, h3⟩ | h
      · rw [meets_of hx2 hx1] at h3; cases h3
      · exact ahead1 k h
    have after : ∀ k, i < k → k < A.size → listedF listed k = true → ∀ x, x ∈ (e k).wrs → x ∈ (e i).l ∨ x ∈ (e i).wrs → False := by
      intro k hk hkn hLk x hx1 hx2
      rcases hap i k hk hkn with ⟨h1, h2, _⟩ | h
      · rcases hx2 with hx2 | hx2
        · rw [meets_of hx1 hx2] at h1; cases h1
        · rw [meets_of hx1 hx2] at h2; cases h2
      · exact ahead2 k hLk h
    obtain ⟨o', ho', hd, hat⟩ := hop i hi
    rw [ho] at ho'
    cases ho'
    have agree : Agree (stOf e s0 (fun _ => true) i) (stOf e s0 (listedF listed) A.size) (e i).l := by
      constructor
      · intro t ht
        rw [stOf_tget, stOf_tget]
        refine seq_agree (fun k hk hf => before k hk _ (Eff.fT_wrs hf) ht) A.size (Nat.le_of_lt hi) (fun k hk hkn hLk => ?_)
        by_cases e1 : k = i
        · subst e1; rw [hLi] at hLk; cases hLk
        · cases hf : (e k).fT s0.tmps.length t with
          | none => rfl
          | some v => exact (after k (by omega) hkn hLk _ (Eff.fT_wrs (by rw [hf]; rfl)) (.inl ht)).elim
      · intro n hn
        rw [stOf_hget, stOf_hget]
        refine seq_agree (fun k hk hf => before k hk _ (Eff.fO_wrs hf) hn) A.size (Nat.le_of_lt hi) (fun k hk hkn hLk => ?_)
        by_cases e1 : k = i
        · subst e1; rw [hLi] at hLk; cases hLk
        · cases hf : (e k).fO n with
          | none => rfl
          | some v => exact (after k (by omega) hkn hLk _ (Eff.fO_wrs (by rw [hf]; rfl)) (.inl hn)).elim
    -- the state that comes
    have next : ∀ {E' : Env} {a' : Act} {w' : World}, RelE E' ((e i).app (stOf e s0 (listedF listed) A.size)) saved a' S w' w0 K → wpAny P .any A Q fuel (listed.setIfInBounds i true) a' w' := by
      intro E' a' w' hr'
      have hset : ∀ k, listedF (listed.setIfInBounds i true) k = (listedF listed k || k == i) := listed_set (by omega)
      refine ih _ E' a' w' (by simpa using hsz) ?_ ?_ ?_
      · intro k o'' ho'' hLk x hx hb
        rw [hset] at hLk ⊢
        by_cases e1 : k = i
        · subst e1
          rw [hpre' o'' ho'' x hx hb]; rfl
        · have : (k == i) = false := by simpa using e1
          rw [this, Bool.or_false] at hLk
          rw [hcl k o'' ho'' hLk x hx hb]; rfl
      · have := cnt_more hLi A.size hi
        rw [cnt_same A.size (fun k _ => hset k)]
        omega
      · rw [stOf_same A.size (fun k _ => hset k)]
        refine hr'.ext (tmps_ext ?_ fun t => ?_) fun n => ?_
        · rw [Eff.len, stOf_len, stOf_len]
        · rw [stOf_tget, Eff.tget_app, stOf_len, stOf_tget]
          refine seq_more hLi A.size hi (fun k hk hkn hLk hf => ?_)
          cases hf' : (e i).fT s0.tmps.length t with
          | none => rfl
          | some v => exact (after k hk hkn hLk _ (Eff.fT_wrs hf) (.inr (Eff.fT_wrs (by rw [hf']; rfl)))).elim
        · rw [stOf_hget, Eff.hget_app, stOf_hget]
          refine seq_more hLi A.size hi (fun k hk hkn hLk hf => ?_)
          cases hf' : (e i).fO n with
          | none => rfl
          | some v => exact (after k hk hkn hLk _ (Eff.fO_wrs hf) (.inr (Eff.fO_wrs (by rw [hf']; rfl)))).elim
    have does : Does cfg base o (stOf e s0 (listedF listed) A.size) (e i) → o.wp P a w (wpAny P .any A Q fuel (listed.setIfInBounds i true)) Q := by
      rintro ⟨l0, hdo⟩
      have h2 := hdo (fun u v l => some (u, v, l))
      obtain ⟨u, v, l', h3, hs⟩ := s_op hG hr h2
      simp only [Option.some.injEq, Prod.mk.injEq] at h3
      obtain ⟨rfl, rfl, rfl⟩ := h3
      refine hs Q _ fun a' w' E' h4 => next (E' := E') ?_
      unfold Eff.app
      rw [hd]
      exact h4
    have hx := hat _ agree
    unfold wpOp
    simp only [ho]
    cases hgd : o.guard with
    | none =>
      rw [hgd] at hx
      rw [if_pos (by simp [Region.wanted, hgd])]
      exact .inl (does hx)
    | some gw =>
      obtain ⟨j, want⟩ := gw
      rw [hgd] at hx
      obtain ⟨t, ht, ⟨b, hb, hx⟩ | ⟨hb, hu, hv⟩⟩ := hx
      rotate_left
      · have hb' := tmp_undef hr hb
        rw [if_neg (by simp [Region.wanted, hgd, yielded, ht, hb'])]
        refine next (E' := E) ?_
        unfold Eff.app
        rw [hu, hv, hd]
        exact hr.put o.dst (show VRel E _ w (.tup []) undef from ⟨[], .nil, rfl⟩)
      have hb' := tmp_bool hr hb
      have hwant : Region.wanted o (yielded A a.tmps) = (b == want) := by
        simp [Region.wanted, hgd, yielded, ht, hb']
      rcases hx with ⟨rfl, hx⟩ | ⟨hne, hu, hv⟩
      · rw [if_pos (by rw [hwant]; simp)]
        exact .inl (does hx)
      · rw [if_neg (by rw [hwant]; simpa using hne)]
        refine next (E' := E) ?_
        unfold Eff.app
        rw [hu, hv, hd]
        exact hr.put o.dst (show VRel E _ w (.tup []) undef from ⟨[], .nil, rfl⟩)

theorem ops_draw {R : Type} {r : R} {call : FuncId → List V1 → (VV → Ms → Option R) → Ms → Option R} {Kc : Ms → Option R} (hG : Ok P cfg) (hm : P.follows .mixedOrders = true) (A : Array Oper) (id : Nat) (m : Ms) {E : Env} {a : Act} {w : World}
    (hrun : execOps cfg true A.toList call Kc A.toList 0 [] m = some r) (hr : RelE E m.st m.saved a S w w0 K)
    (hQ : ∀ m' a' w' E', Kc m' = some r → RelE E' m'.st m'.saved a' S w' w0 K → Q .normal a' w') : (Code.region id A true).wp P Q a w := by
  obtain ⟨es, h1, h2, h3, h4, h5⟩ := ops_draw_inv A _ _ _ _ hrun
  have hlen : es.length = A.size := by rw [h1, Array.length_toList]
  obtain ⟨_, _, h6⟩ := apart_trs es 0 [] h3
  refine wp_region_any hm (any_order (e := fun k => es.getD k eff0) (s0 := m.st) (base := m.base) (saved := m.saved) (S := S) (w0 := w0) (K := K) (Q := Q) hG (fun k hk => ?_) (fun j k hjk hk => ?_) h4 (fun E' a' w' hr' => ?_) A.size (Array.replicate A.size false) E a _ (by simp) ?_ ?_ ?_)
  · obtain ⟨o, h7, h8, h9⟩ := h5 k (by rw [Array.length_toList]; exact hk)
    rw [← stOf_take k (by omega)] at h9
    exact ⟨o, by simpa using h7, h8, h9⟩
  · have := h6 j k hjk (by omega)
    simpa using this
  · rw [stOf_take A.size (by omega), ← hlen, List.take_length] at hr'
    exact hQ _ _ _ E' h2 hr'
  · intro k o ho hL
    have hk : k < A.size := (Array.getElem?_eq_some_iff.1 ho).1
    simp [listedF, hk] at hL
  · have : ∀ L n, cnt L n ≤ n := by
      intro L n
      induction n with
      | zero => exact Nat.le_refl _
      | succ n ih => simp only [cnt]; split <;> omega
    exact this _ _
  · have hzero : ∀ n, stOf (fun k => es.getD k eff0) m.st (listedF (Array.replicate A.size false)) n = m.st := by
      intro n
      induction n with
      | zero => rfl
      | succ n ih =>
        simp only [stOf, ih]
        rw [if_neg]
        unfold listedF
        simp [Array.getElem?_replicate]
        split <;> simp
    rw [hzero]
    exact hr.still rfl rfl rfl rfl
end
end Go.Vm
end

section
namespace Go.Vm
open Go

theorem place_le : ∀ (l : List Nat) (n j : Nat), j ≤ place n l j
  | [], n, j => Nat.le_refl _
  | m :: l, n, j => by
    simp only [place]
    cases Nat.beq m n with
    | true => exact Nat.le_refl _
    | false => exact Nat.le_trans (Nat.le_succ j) (place_le l n (j + 1))
theorem place_get : ∀ (l : List Nat) (n j : Nat), n ∈ l → l[place n l j - j]? = some n
  | [], n, j, h => by cases h
  | m :: l, n, j, h => by
    simp only [place]
    cases hb : Nat.beq m n with
    | true =>
      rw [Nat.eq_of_beq_eq_true hb]
      simp
    | false =>
      have hmem : n ∈ l := by
        cases h with
        | head => rw [Nat.beq_refl] at hb; cases hb
        | tail _ h => exact h
      have ih := place_get l n (j + 1) hmem
      have hle := place_le l n (j + 1)
      simp only [cond_false]
      rw [show place n l (j + 1) - j = (place n l (j + 1) - (j + 1)) + 1 by omega]
      simpa using ih
theorem place_inj {l : List Nat} {j n m : Nat} (hn : n ∈ l) (hm : m ∈ l) (h : place n l j = place m l j) : n = m := by
  have h1 := place_get l n j hn
  have h2 := place_get l m j hm
  rw [h, h2] at h1
  injection h1 with h1
  exact h1.symm

section
variable {g : Nat → Nat} {seen : List Nat} {h : Heap}
theorem newHeap_none : ∀ (r : List Nat) (m : Nat), (∀ n ∈ r, g n ≠ m) → hget (newHeap h g r) m = none
  | [], m, _ => rfl
  | n :: r, m, hr => by
    have ih := newHeap_none r m (fun k hk => hr k (List.mem_cons_of_mem _ hk))
    simp only [newHeap]
    split
    · have : Nat.beq (g n) m = false := by
        cases hb : Nat.beq (g n) m with
        | false => rfl
        | true => exact absurd (Nat.eq_of_beq_eq_true hb) (hr n List.mem_cons_self)
      simp only [hget, this, cond_false, ih]
    · exact ih
theorem newHeap_get (hinj : ∀ n ∈ seen, ∀ m ∈ seen, g n = g m → n = m) : ∀ (r : List Nat), (∀ n ∈ r, n ∈ seen) → ∀ n ∈ r, hget (newHeap h g r) (g n) = (hget h n).map (renO g)
  | [], _, n, hn => by cases hn
  | x :: r, hr, n, hn => by
    have hr' : ∀ n ∈ r, n ∈ seen := fun k hk => hr k (List.mem_cons_of_mem _ hk)
    have ih := newHeap_get hinj r hr'
    simp only [newHeap]
    by_cases e : x = n
    · subst e
      split
      · rename_i o ho
        simp only [hget, Nat.beq_refl, cond_true, ho, Option.map_some]
      · rename_i ho
        rw [ho]
        by_cases hx : x ∈ r
        · rw [ih x hx, ho]
        · exact newHeap_none r _ (fun k hk e => hx (by rw [← hinj k (hr' k hk) x (hr x List.mem_cons_self) e]; exact hk))
    · have hnr : n ∈ r := by
        cases hn with
        | head => exact absurd rfl e
        | tail _ h => exact h
      split
      · have : Nat.beq (g x) (g n) = false := by
          cases hb : Nat.beq (g x) (g n) with
          | false => rfl
          | true => exact absurd (hinj x (hr x List.mem_cons_self) n (hr n hn) (Nat.eq_of_beq_eq_true hb)) e
        simp only [hget, this, cond_false]
        exact ih n hnr
      · exact ih n hnr
theorem shape_ren (o : Obj) : shape (renO g o) = shape o := by cases o <;> simp [renO, shape]
end

theorem closed_mem {seen l : List Nat} (h : closedIn seen l = true) : ∀ n ∈ l, n ∈ seen := by
  intro n hn
  have := List.all_eq_true.1 h n hn
  obtain ⟨b, hb, e⟩ := List.any_eq_true.1 this
  rw [Nat.eq_of_beq_eq_true e]; exact hb
theorem heapNames_mem {h : Heap} : ∀ (r : List Nat) {n : Nat} {cs : List Cell}, n ∈ r → hget h n = some (.box cs) → ∀ x ∈ namesL cs, x ∈ heapNames h r
  | [], n, cs, hn, _, x, _ => by cases hn
  | m :: r, n, cs, hn, hg, x, hx => by
    simp only [heapNames, List.mem_append]
    by_cases e : n = m
    · subst e
      rw [hg]
      exact .inl hx
    · exact .inr (heapNames_mem r (by
        cases hn with
        | head => exact absurd rfl e
        | tail _ h => exact h) hg x hx)
theorem namesL_append : ∀ (a b : List Cell), namesL (a ++ b) = namesL a ++ namesL b
  | [], b => rfl
  | c :: a, b => by simp only [List.cons_append, namesL, namesL_append a b, List.append_assoc]

section
variable {E : Env} {h : Heap} {w : World} {g : Nat → Nat} {seen : List Nat} {E' : Env} {h' : Heap}
structure Ren (E E' : Env) (h h' : Heap) (g : Nat → Nat) (seen : List Nat) : Prop where
  get : ∀ n ∈ seen, hget h' (g n) = (hget h n).map (renO g)
  none : ∀ m, (∀ n ∈ seen, g n ≠ m) → hget h' m = none
  inj : ∀ n ∈ seen, ∀ m ∈ seen, g n = g m → n = m
  ρ : ∀ n ∈ seen, E'.ρ (g n) = E.ρ n
  has : ∀ n ∈ seen, (E'.has (g n) ↔ E.has n)
  ok : E'.ok = E.ok
theorem Ren.sh (k : Ren E E' h h' g seen) {n : Nat} (hn : n ∈ seen) : hsh h' (g n) = hsh h n := by
  unfold hsh
  rw [k.get n hn]
  cases hget h n with
  | none => rfl
  | some o => simp [shape_ren]
theorem Ren.ptr (k : Ren E E' h h' g seen) {n : Nat} (hn : n ∈ seen) {v : Value} (p : PtrRel E h n v) : PtrRel E' h' (g n) v := by
  obtain ⟨m, hs, rfl⟩ := p
  exact ⟨m, by rw [k.sh hn]; exact hs, by rw [k.ρ n hn]⟩
theorem Ren.cell (k : Ren E E' h h' g seen) {c : Cell} (hn : ∀ n ∈ namesC c, n ∈ seen) {v : Value} (p : CellRel E h w c v) : CellRel E' h' w (renC g c) v := by
  cases c with
  | int => exact p
  | bool => exact p
  | str => exact p
  | nilS => exact p
  | slc e t xs => exact Imm.mono (fun b hb => by rw [k.ok]; exact hb) (fun _ _ => rfl) p
  | row o lo hi =>
    have ho := hn o (List.mem_singleton.2 rfl)
    simp only [renC, CellRel, k.sh ho] at p ⊢
    cases hs : hsh h o with
    | none => rw [hs] at p; exact p
    | some s =>
      rw [hs] at p
      cases s with
      | box n => exact p
      | dead => exact p
      | row e t n =>
        obtain ⟨hc, A, c, e1, hle, hx⟩ := p
        refine ⟨hc, A, c, e1, hle, hx.imp id fun ⟨h1, h2, h3⟩ => ?_⟩
        rw [k.ρ o ho]
        exact ⟨(k.has o ho).2 h1, h2, h3⟩
  | ptr o f =>
    have ho := hn o (List.mem_singleton.2 rfl)
    obtain ⟨m, hs, rfl⟩ := p
    exact ⟨m, by rw [k.sh ho]; exact hs, by rw [k.ρ o ho]⟩
  | eptr o i f =>
    have ho := hn o (List.mem_singleton.2 rfl)
    simp only [renC, CellRel, k.sh ho] at p ⊢
    rw [k.ρ o ho]
    exact p
  | iptr t x f =>
    obtain ⟨b, off, ds, e1, hg, hi, hj⟩ := p
    exact ⟨b, off, ds, e1, by rw [k.ok]; exact hg, hi.mono (fun b hb => by rw [k.ok]; exact hb) (fun _ _ => rfl), hj⟩
  | fn f l =>
    obtain ⟨vs, rfl, hl⟩ := p
    refine ⟨vs, rfl, ?_⟩
    have hn' : ∀ n ∈ l, n ∈ seen := hn
    generalize vs.toList = us at hl
    clear hn
    induction hl with
    | nil => exact .nil
    | cons q _ ih => exact .cons (k.ptr (hn' _ List.mem_cons_self) q) (ih fun n hn => hn' n (List.mem_cons_of_mem _ hn))
theorem Ren.cells (k : Ren E E' h h' g seen) : ∀ {cs : List Cell} {vs : List Value}, (∀ n ∈ namesL cs, n ∈ seen) → All2 (CellRel E h w) cs vs → All2 (CellRel E' h' w) (cs.map (renC g)) vs
  | [], _, _, .nil => .nil
  | c :: cs, _, hn, .cons p q => .cons (k.cell (fun n hn' => hn n (List.mem_append.2 (.inl hn'))) p) (k.cells (fun n hn' => hn n (List.mem_append.2 (.inr hn'))) q)
theorem Ren.v1 (k : Ren E E' h h' g seen) {x : V1} (hn : ∀ n ∈ namesL x.cs, n ∈ seen) {V : Value} (p : V1Rel E h w x V) : V1Rel E' h' w ⟨x.agg, x.cs.map (renC g)⟩ V := by
  obtain ⟨vs, hv, hV⟩ := p
  exact ⟨vs, k.cells hn hv, hV⟩
theorem Ren.vv (k : Ren E E' h h' g seen) {x : VV} (hn : ∀ n ∈ namesV x, n ∈ seen) {V : Value} (p : VRel E h w x V) : VRel E' h' w (renV g x) V := by
  cases x with
  | un => trivial
  | v x => exact k.v1 hn p
  | tup xs =>
    obtain ⟨Vs, hv, rfl⟩ := p
    refine ⟨Vs, ?_, rfl⟩
    have hn' : ∀ x ∈ xs, ∀ n ∈ namesL x.cs, n ∈ seen := fun x hx n hn1 => hn n (List.mem_flatMap.2 ⟨x, hx, hn1⟩)
    clear hn
    induction hv with
    | nil => exact .nil
    | cons q _ ih => exact .cons (k.v1 (hn' _ List.mem_cons_self) q) (ih fun x hx => hn' x (List.mem_cons_of_mem _ hx))
theorem Ren.frame (k : Ren E E' h h' g seen) : ∀ {ts : List VV} {vs : List Value}, (∀ n ∈ namesT ts, n ∈ seen) → All2 (VRel E h w) ts vs → All2 (VRel E' h' w) (ts.map (renV g)) vs
  | [], _, _, .nil => .nil
  | c :: cs, _, hn, .cons p q => .cons (k.vv (fun n hn' => hn n (List.mem_append.2 (.inl hn'))) p) (k.frame (fun n hn' => hn n (List.mem_append.2 (.inr hn'))) q)
theorem Ren.saved (k : Ren E E' h h' g seen) {sv : List (Nat × List VV)} {S : List (Array Value)} (hn : ∀ p ∈ sv, ∀ n ∈ namesT p.2, n ∈ seen) (hs : All2 (fun (p : Nat × List VV) (arr : Array Value) => All2 (VRel E h w) p.2 arr.toList) sv S) :
    All2 (fun (p : Nat × List VV) (arr : Array Value) => All2 (VRel E' h' w) p.2 arr.toList) (sv.map fun p => (p.1, p.2.map (renV g))) S := by
  induction hs with
  | nil => exact .nil
  | cons p _ ih => exact .cons (k.frame (hn _ List.mem_cons_self) p) (ih fun p hp => hn p (List.mem_cons_of_mem _ hp))
end
theorem keepT_rel {E : Env} {h : Heap} {w : World} (ks : List Nat) : ∀ {ts : List VV} {vs : List Value} (n : Nat), All2 (VRel E h w) ts vs → All2 (VRel E h w) (keepT ks n ts) vs
  | [], _, _, .nil => .nil
  | t :: ts, _, n, .cons p q => by
    refine .cons ?_ (keepT_rel ks (n + 1) q)
    cases ks.any (Nat.beq n) with
    | true => exact p
    | false => trivial

theorem norm_sound {ks : List Nat} {m m' : Ms} (hn : norm ks m = some m') {E : Env} {a : Act} {S : List (Array Value)} {w w0 : World} {K : Keep} (hr : RelE E m.st m.saved a S w w0 K) :
    ∃ E', RelE E' m'.st m'.saved a S w w0 K := by
  unfold norm at hn
  dsimp only at hn
  generalize hts : keepT ks 0 m.st.tmps = ts at hn
  generalize hroots : namesT ts ++ m.saved.flatMap (fun p => namesT p.2) = roots at hn
  generalize hseen : reach m.st.heap 1000 roots [] = seen at hn
  cases hb : closedIn seen roots && closedIn seen (heapNames m.st.heap seen) && distinct seen with
  | false => rw [hb] at hn; cases hn
  | true =>
    rw [hb] at hn
    simp only [cond_true, Option.some.injEq] at hn
    subst hn
    simp only [Bool.and_eq_true] at hb
    have hc1 := closed_mem hb.1.1
    have hc2 := closed_mem hb.1.2
    have inv : ∀ n ∈ seen, seen.getD (place n seen 9000000 - 9000000) 0 = n := fun n hn => by
      have := place_get seen n 9000000 hn
      simp [List.getD, this]
    have hinj : ∀ n ∈ seen, ∀ k ∈ seen, place n seen 9000000 = place k seen 9000000 → n = k := fun n hn k hk => place_inj hn hk
    have k : Ren E ⟨fun n => E.ρ (seen.getD (n - 9000000) 0), fun n => E.has (seen.getD (n - 9000000) 0), E.ok⟩ m.st.heap (newHeap m.st.heap (fun n => place n seen 9000000) seen) (fun n => place n seen 9000000) seen :=
      ⟨newHeap_get hinj seen (fun _ h => h), fun q hq => newHeap_none seen q hq, hinj, fun n hn => by simp only [inv n hn], fun n hn => by simp only [inv n hn], rfl⟩
    have back : ∀ q o, hget (newHeap m.st.heap (fun n => place n seen 9000000) seen) q = some o → ∃ n ∈ seen, q = place n seen 9000000 ∧ ∃ o', hget m.st.heap n = some o' ∧ o = renO (fun n => place n seen 9000000) o' := by
      intro q o hq
      by_cases hex : ∃ n ∈ seen, place n seen 9000000 = q
      · obtain ⟨n, hn, rfl⟩ := hex
        rw [k.get n hn] at hq
        cases hg : hget m.st.heap n with
        | none => rw [hg] at hq; cases hq
        | some o' => rw [hg] at hq; cases hq; exact ⟨n, hn, rfl, o', hg, rfl⟩
      · rw [k.none q (fun n hn e => hex ⟨n, hn, e⟩)] at hq; cases hq
    have live : ∀ n ∈ seen, Live (newHeap m.st.heap (fun n => place n seen 9000000) seen) (place n seen 9000000) → Live m.st.heap n := by
      intro n hn hl
      unfold Live at hl ⊢
      rw [k.get n hn] at hl
      cases hg : hget m.st.heap n with
      | none => rw [hg] at hl; exact hl
      | some o => rw [hg] at hl; cases o <;> exact hl
    have ht : All2 (VRel E m.st.heap w) ts a.tmps.toList := by rw [← hts]; exact keepT_rel ks 0 hr.tm
    refine ⟨⟨fun n => E.ρ (seen.getD (n - 9000000) 0), fun n => E.has (seen.getD (n - 9000000) 0), E.ok⟩, ?_, hr.df, ?_, ?_, ?_, ?_, ?_, hr.bo, hr.kp, hr.os, hr.tape, hr.out, hr.size, hr.oz⟩
    · refine k.frame (fun n hn => hc1 n ?_) ht
      rw [← hroots]; exact List.mem_append.2 (.inl hn)
    · have hnames : ∀ p ∈ m.saved, ∀ n ∈ namesT p.2, n ∈ seen := fun p hp n hn => hc1 n (by rw [← hroots]; exact List.mem_append.2 (.inr (List.mem_flatMap.2 ⟨p, hp, hn⟩)))
      exact k.saved hnames hr.sv
    · intro q o hq
      obtain ⟨n, hn, rfl, o', hg, rfl⟩ := back q o hq
      have hob := hr.ob n o' hg
      cases o' with
      | dead => trivial
      | box cs =>
        obtain ⟨hh, vs, hv, hcell⟩ := hob
        refine ⟨(k.has n hn).2 hh, vs, k.cells (fun x hx => hc2 x (heapNames_mem seen hn hg x hx)) hv, ?_⟩
        rw [k.ρ n hn]
        exact hcell
      | row e t xs own =>
        obtain ⟨h1, h2⟩ := hob
        refine ⟨h1.imp (k.has n hn).2 id, fun hh => ?_⟩
        rw [k.ρ n hn]
        exact h2 ((k.has n hn).1 hh)
    · intro q q' hne hl hl' hh hh'
      obtain ⟨o, ho⟩ := Option.isSome_iff_exists.1 (live_isSome hl)
      obtain ⟨o', ho'⟩ := Option.isSome_iff_exists.1 (live_isSome hl')
      obtain ⟨n, hn, rfl, _⟩ := back q o ho
      obtain ⟨n', hn', rfl, _⟩ := back q' o' ho'
      rw [k.ρ n hn, k.ρ n' hn']
      exact hr.dj n n' (fun e => hne (by rw [e])) (live n hn hl) (live n' hn' hl') ((k.has n hn).1 hh) ((k.has n' hn').1 hh')
    · intro q hl hh
      obtain ⟨o, ho⟩ := Option.isSome_iff_exists.1 (live_isSome hl)
      obtain ⟨n, hn, rfl, _⟩ := back q o ho
      rw [k.ρ n hn]
      exact hr.dk n (live n hn hl) ((k.has n hn).1 hh)
    · intro q hs hh
      obtain ⟨o, ho⟩ := Option.isSome_iff_exists.1 hs
      obtain ⟨n, hn, rfl, o', hg, _⟩ := back q o ho
      rw [k.ρ n hn]
      exact hr.bd n (by rw [hg]; rfl) ((k.has n hn).1 hh)
theorem normAt_sound {l : List (Nat × List Nat)} {key : Nat} {m m' : Ms} (hn : normAt l key m = some m') {E : Env} {a : Act} {S : List (Array Value)} {w w0 : World} {K : Keep} (hr : RelE E m.st m.saved a S w w0 K) :
    ∃ E', RelE E' m'.st m'.saved a S w w0 K := by
  unfold normAt at hn
  split at hn
  · exact norm_sound hn hr
  · cases hn; exact ⟨E, hr⟩
end Go.Vm
end

section
namespace Go.Vm
open Go
def toExit : Ex → Exit
  | .normal => .normal
  | .exit j => .exit j
  | .ret => .ret
section
variable {P : Program} {cfg : Cfg} {S : List (Array Value)} {w0 : World} {K : Keep} {R : Type} {r : R} {call : FuncId → List V1 → (VV → Ms → Option R) → Ms → Option R}

/-- What a run of code comes to. -/
def Runs (P : Program) (S : List (Array Value)) (w0 : World) (K : Keep) (Kx : Ex → Ms → Option R) (r : R) (Q : Exit → Act → World → Prop) : Prop :=
  ∀ x m' a' w' E', Kx x m' = some r → RelE E' m'.st m'.saved a' S w' w0 K → Q (toExit x) a' w'

theorem loop_sound {c : Code} {body : (Ex → Ms → Option R) → Ms → Option R} {l : List (Nat × List Nat)} {key : Nat} {Kx : Ex → Ms → Option R} {Q : Exit → Act → World → Prop}
    (hbody : ∀ (Kx : Ex → Ms → Option R) (m : Ms) {E : Env} {a : Act} {w : World} (Q : Exit → Act → World → Prop), body Kx m = some r → RelE E m.st m.saved a S w w0 K → Runs P S w0 K Kx r Q → c.wp P Q a w) (hK : Runs P S w0 K Kx r Q) :
    ∀ (n : Nat) (m : Ms) {E : Env} {a : Act} {w : World}, loopN (normAt l key) body Kx n m = some r → RelE E m.st m.saved a S w w0 K → Code.rounds P c Q n a w
  | 0, m, E, a, w, h, hr => by cases h
  | n + 1, m, E, a, w, h, hr => by
    rw [rounds_succ]
    refine hbody _ m _ h hr fun x m' a' w' E' hx hr' => ?_
    cases x with
    | normal =>
      simp only at hx
      split at hx
      · rename_i m'' hm
        obtain ⟨E'', hr''⟩ := normAt_sound hm hr'
        exact loop_sound hbody hK n m'' hx hr''
      · cases hx
    | exit j => exact hK (.exit j) m' a' w' E' hx hr'
    | ret => exact hK .ret m' a' w' E' hx hr'

theorem exec_sound (hG : Ok P cfg) (hm : P.follows .mixedOrders = true) (hcall : CallOk P cfg call) : ∀ (c : Code) (Kx : Ex → Ms → Option R) (m : Ms) {E : Env} {a : Act} {w : World} (Q : Exit → Act → World → Prop),
    exec cfg call c Kx m = some r → RelE E m.st m.saved a S w w0 K → Runs P S w0 K Kx r Q → c.wp P Q a w := by
  intro c
  induction c with
  | skip =>
    intro Kx m E a w Q h hr hK
    exact wp_skip (hK .normal m a w E h hr)
  | region id ops draw =>
    intro Kx m E a w Q h hr hK
    simp only [exec] at h
    cases draw with
    | true => exact ops_draw hG hm ops id m h hr fun m' a' w' E' hx hr' => hK .normal m' a' w' E' hx hr'
    | false =>
      refine wp_region ?_
      rw [List.range_eq_range', ← Array.length_toList]
      exact ops_text hG hcall ops ops.toList 0 [] m rfl h hr fun m' a' w' E' hx hr' => hK .normal m' a' w' E' hx hr'
  | seq x y ihx ihy =>
    intro Kx m E a w Q h hr hK
    simp only [exec] at h
    refine wp_seq (ihx _ m _ h hr fun e m' a' w' E' hx hr' => ?_)
    cases e with
    | normal =>
      simp only at hx
      split at hx
      · rename_i m'' hm'
        obtain ⟨E'', hr''⟩ := normAt_sound hm' hr'
        exact ihy Kx m'' Q hx hr'' hK
      · cases hx
    | exit j => exact hK (.exit j) m' a' w' E' hx hr'
    | ret => exact hK .ret m' a' w' E' hx hr'
  | cond g x y ihx ihy =>
    intro Kx m E a w Q h hr hK
    simp only [exec] at h
    unfold condV at h
    split at h
    · rename_i t
      split at h
      · rename_i b ht
        have hv := hr.tmp t
        rw [ht] at hv
        have hb : a.eval (.tmp t) = .bool b := V1Rel.one hv
        refine wp_cond hb ?_
        cases b <;> simp only [setB_same ht] at h
        · exact ihy Kx m Q h hr hK
        · exact ihx Kx m Q h hr hK
      · cases h
    · rename_i b
      refine wp_cond (t := b) rfl ?_
      cases b
      · exact ihy Kx m Q h hr hK
      · exact ihx Kx m Q h hr hK
    · cases h
  | block id c ih =>
    intro Kx m E a w Q h hr hK
    simp only [exec] at h
    refine wp_block (ih _ m _ h hr fun e m' a' w' E' hx hr' => ?_)
    cases e with
    | normal => exact hK .normal m' a' w' E' hx hr'
    | exit j =>
      simp only at hx
      simp only [toExit, Exit.inBlock]
      cases hb : Nat.beq j id with
      | true =>
        rw [hb] at hx
        rw [if_pos (Nat.eq_of_beq_eq_true hb)]
        exact hK .normal m' a' w' E' hx hr'
      | false =>
        rw [hb] at hx
        rw [if_neg (fun e => by rw [e, Nat.beq_refl] at hb; cases hb)]
        exact hK (.exit j) m' a' w' E' hx hr'
    | ret => exact hK .ret m' a' w' E' hx hr'
  | loop c ih =>
    intro Kx m E a w Q h hr hK
    simp only [exec] at h
    split at h
    · rename_i m' hm'
      obtain ⟨E', hr'⟩ := normAt_sound hm' hr
      exact wp_loop_rounds cfg.fuel (loop_sound (body := exec cfg call c) (fun Kx m E a w Q h hr hK => ih Kx m Q h hr hK) hK cfg.fuel m' h hr')
    · cases h
  | exit id =>
    intro Kx m E a w Q h hr hK
    exact wp_exit (hK (.exit id) m a w E h hr)
  | ret =>
    intro Kx m E a w Q h hr hK
    exact wp_ret (hK .ret m a w E h hr)
  | _ =>
    intro Kx m E a w Q h hr hK
    simp [exec] at h
end
end Go.Vm
end

section
namespace Go.Vm
open Go
section
variable {P : Program} {cfg : Cfg}

def resSem (tmps : Array Value) : ResultVar → Sem Value
  | .tmp t => pure (tmps.getD t undef)
  | .cell a t => do loadVar t (← asAddr (tmps.getD a undef))
theorem resOf_sound (hG : Good P cfg) {E : Env} {st : St} {saved : List (Nat × List VV)} {a : Act} {S : List (Array Value)} {w w0 : World} {K : Keep} (h : RelE E st saved a S w w0 K) :
    ∀ (rs : List ResultVar) (xs : List V1), resOf cfg st rs = some xs → ∃ Vs, (rs.mapM (resSem a.tmps)).run P w = .ok Vs w ∧ All2 (V1Rel E st.heap w) xs Vs
  | [], xs, hx => by cases hx; exact ⟨[], by simp, .nil⟩
  | .tmp t :: rs, xs, hx => by
    simp only [resOf] at hx
    split at hx
    · rename_i x ht
      split at hx
      · rename_i ys hy
        cases hx
        obtain ⟨Vs, h1, h2⟩ := resOf_sound hG h rs ys hy
        have hv := h.tmp t
        rw [ht] at hv
        refine ⟨a.eval (.tmp t) :: Vs, ?_, .cons hv h2⟩
        simp [List.mapM_cons, resSem, h1, Act.eval]
      · cases hx
    · cases hx
  | .cell q T :: rs, xs, hx => by
    simp only [resOf] at hx
    split at hx
    · rename_i t n hT ht
      split at hx
      · rename_i cs hg
        cases hb : Nat.ble t.sz cs.length with
        | false => rw [hb] at hx; cases hx
        | true =>
          rw [hb] at hx
          simp only [cond_true] at hx
          split at hx
          · rename_i ys hy
            cases hx
            obtain ⟨Vs, h1, h2⟩ := resOf_sound hG h rs ys hy
            have hv := h.tmp q
            rw [ht] at hv
            obtain ⟨m, hs, e⟩ := V1Rel.one hv
            obtain ⟨hh, vs, hvs, hcell⟩ := h.ob n _ hg
            have hle := Nat.le_of_ble_eq_true hb
            obtain ⟨V, hV, hr⟩ := load_core (st := st) (E := E) (hG.tab T t hT) (cs := cs.take t.sz) (vs := vs.take t.sz) (g := (E.ρ n).1) (p := (E.ρ n).2) (by simp; omega) (hvs.take _) (fun j v hj => by
              rw [List.getElem?_take] at hj
              split at hj
              · exact (hcell j v hj).1
              · cases hj)
            refine ⟨V :: Vs, ?_, .cons hr h2⟩
            have e' : a.tmps[q]?.getD undef = .pointer (some ⟨(E.ρ n).1, (E.ρ n).2, none⟩) := by
              have := e
              simpa [Act.eval] using this
            simp only [Instr.loadAt, Instr.sureAddr, Sem.run_bind, Sem.run_pure, Result.andThen_ok] at hV
            simp [List.mapM_cons, resSem, h1, e', asAddr, hV]
          · cases hx
      · cases hx
    · cases hx

theorem results_sound (hG : Good P cfg) {E : Env} {st : St} {saved : List (Nat × List VV)} {a : Act} {S : List (Array Value)} {w w0 : World} {K : Keep} (h : RelE E st saved a S w w0 K) {fn : Func} {xs : List V1}
    (hx : resTmps cfg fn st = some xs) : ∃ V, (results fn a.tmps).run P w = .ok V w ∧ VRel E st.heap w (resVal xs) V := by
  obtain ⟨Vs, h1, h2⟩ := resOf_sound hG h _ _ hx
  refine ⟨tupOf Vs, ?_, resVal_rel h2⟩
  have e : (results fn a.tmps) = (do let vs ← fn.results.mapM (resSem a.tmps); pure (if h : vs.size = 1 then vs[0] else .tuple vs)) := by
    unfold results
    congr 2
  rw [e]
  have e2 : (fn.results.mapM (resSem a.tmps)).run P w = .ok Vs.toArray w := by
    rw [Array.mapM_eq_mapM_toList]
    simp [h1]
  simp only [Sem.run_bind, e2, Result.andThen_ok, Sem.run_pure]
  congr 1
  match Vs with
  | [] => rfl
  | [V] => rfl
  | _ :: _ :: _ => simp [tupOf]

variable {R : Type}
theorem run_ok (hG : Ok P cfg) (hm : P.follows .mixedOrders = true) (hfn : ∀ f fn, look cfg.inl f = some fn → P.funcs[f]? = some fn) : ∀ d, CallOk (R := R) P cfg (runF cfg d) := by
  intro d
  induction d with
  | zero => intro f vs k m r h; cases h
  | succ d ih =>
    intro f vs k m r h
    unfold runF at h
    split at h
    · rename_i fn hf
      split at h
      · rename_i c hc
        refine ⟨by rw [hf]; rfl, fun {E a S w w0 Kp args} hr hargs Q hk => ?_⟩
        refine calls_of_wp (hfn f fn hf) hc ?_
        refine exec_sound (S := a.tmps :: S) (w0 := w0) (K := Kp) hG hm ih c _ _ (E := E) _ h ?_ ?_
        · refine { hr with tm := ?_, df := rfl, sv := .cons hr.tm hr.sv }
          have hl := hargs.length
          have h1 : (args.toArray ++ Array.replicate (fn.ntmps - args.toArray.size) undef).toList = args ++ List.replicate (fn.ntmps - vs.length) undef := by simp [hl]
          show All2 _ (vs.map VV.v ++ List.replicate (fn.ntmps - vs.length) VV.un) _
          rw [h1]
          refine All2.append ?_ (All2.replicate _ _ trivial _)
          clear h1 hl h
          induction hargs with
          | nil => exact .nil
          | cons p _ ih => exact .cons p ih
        · intro x m' a' w' E' hx hr'
          have fin : (match resTmps cfg fn m'.st, m'.saved with
            | some rs, (b, ts) :: s => k (resVal rs) { m' with st := ⟨ts, m'.st.heap⟩, base := b, saved := s }
            | _, _ => none) = some r → a'.defers = [] ∧ ∃ v, (results fn a'.tmps).run P w' = .ok v w' ∧ Q (.returned v) w' := by
            intro h1
            split at h1
            · rename_i rs b ts s hrs hsv
              obtain ⟨V, hV, hrel⟩ := results_sound hG.toGood hr' hrs
              refine ⟨hr'.df, V, hV, ?_⟩
              have hsv' := hr'.sv
              rw [hsv] at hsv'
              cases hsv' with
              | cons p q => exact hk _ V _ w' E' h1 { hr' with tm := p, df := hr.df, sv := q } hrel
            · cases h1
          cases x with
          | normal => exact fin hx
          | ret => exact fin hx
          | exit j => cases hx
      · cases h
    · cases h
end
end Go.Vm
end

section
namespace Go.Vm
open Go

def argV (t : Ty) (x : El t) : V1 := ⟨t.agg, explode t x⟩
def ms0 : Ms := { st := ⟨[], []⟩, base := 0, next := 0, saved := [] }
/-- A result's cell, as the caller sees it; the rows that become the caller's own. -/
def outC (h : Heap) (c : Cell) : Option (RC × List Nat) :=
  match c with
  | .row o lo hi => (match hget h o with
    | some (.row e t xs own) => (match own with
      | true => some (.own e t (cut lo hi xs), [o])
      | false => some (.c (.slc e t (cut lo hi xs)), []))
    | _ => none)
  | .ptr _ _ | .eptr _ _ _ | .fn _ _ => none
  | c => some (.c c, [])
def outL (h : Heap) : List Cell → Option (List RC × List Nat)
  | [] => some ([], [])
  | c :: r => match outC h c, outL h r with
    | some p, some q => some (p.1 :: q.1, p.2 ++ q.2)
    | _, _ => none
def outVs (h : Heap) : List V1 → Option (List (Bool × List RC) × List Nat)
  | [] => some ([], [])
  | x :: r => match outL h x.cs, outVs h r with
    | some p, some q => some ((x.agg, p.1) :: q.1, p.2 ++ q.2)
    | _, _ => none
def outOf (h : Heap) (v : VV) : Option (List (Bool × List RC)) :=
  match (match v with | .v x => outVs h [x] | .tup xs => (match xs with | [_] => none | _ => outVs h xs) | .un => none) with
  | some p => bif distinct p.2 then some p.1 else none
  | none => none

section
variable {P : Program} {cfg : Cfg} {E : Env} {st : St} {saved : List (Nat × List VV)} {a : Act} {S : List (Array Value)} {w w' w0 : World} {K : Keep}

/-- The blocks of own rows. -/
def OwnB (E : Env) (h : Heap) (ns bs : List Nat) : Prop := ∃ ns', List.Sublist ns' ns ∧ bs = ns'.map (fun n => (E.ρ n).1) ∧ ∀ n ∈ ns', E.has n ∧ Live h n
theorem OwnB.append {h : Heap} {ns ns2 bs bs2 : List Nat} (p : OwnB E h ns bs) (q : OwnB E h ns2 bs2) : OwnB E h (ns ++ ns2) (bs ++ bs2) := by
  obtain ⟨m, h1, rfl, h2⟩ := p
  obtain ⟨m2, h3, rfl, h4⟩ := q
  exact ⟨m ++ m2, h1.append h3, by simp, fun n hn => by
    rcases List.mem_append.1 hn with hn | hn
    · exact h2 n hn
    · exact h4 n hn⟩
theorem OwnB.nil {h : Heap} : OwnB E h [] [] := ⟨[], List.Sublist.refl _, rfl, fun n hn => by cases hn⟩

theorem outC_sound (h : RelE E st saved a S w w0 K) {c : Cell} {rc : RC} {ns : List Nat} (ho : outC st.heap c = some (rc, ns)) {v : Value} (hc : CellRel E st.heap w c v) :
    ∃ bs, RcRel E.ok w rc v bs ∧ OwnB E st.heap ns bs := by
  cases c with
  | row o lo hi =>
    simp only [outC] at ho
    cases hg : hget st.heap o with
    | none => rw [hg] at ho; cases ho
    | some b =>
      rw [hg] at ho
      cases b with
      | row e t xs own =>
        cases own with
        | true =>
          simp only [Option.some.injEq, Prod.mk.injEq] at ho
          obtain ⟨rfl, rfl⟩ := ho
          have hs : hsh st.heap o = some (.row e t xs.length) := by simp [hsh, hg, shape]
          simp only [CellRel, hs] at hc
          obtain ⟨hcut, A, c, rfl, hle, hx⟩ := hc
          have hlen := cut_len hcut
          obtain ⟨_, hob⟩ := h.ob o _ hg
          rcases hx with rfl | ⟨hh, rfl, hR⟩
          · exact ⟨[], ⟨A, 0, by rw [hlen], by rw [hlen]; exact hle, .inl ⟨rfl, rfl⟩⟩, ⟨[], List.nil_sublist _, rfl, fun n hn => by cases hn⟩⟩
          · obtain ⟨hrow, hnf, _⟩ := hob hh
            refine ⟨[(E.ρ o).1], ⟨_, c, by rw [hlen], by rw [hlen]; exact hle, .inr ⟨_, _, rfl, rfl, rowAt_cut hrow hcut, hnf rfl, ?_⟩⟩, ⟨[o], List.Sublist.refl _, rfl, fun n hn => ?_⟩⟩
            · rw [Nat.add_assoc, ← Nat.add_mul]; exact hR
            · rw [List.mem_singleton.1 hn]
              exact ⟨hh, by unfold Live; rw [hg]; trivial⟩
        | false =>
          simp only [Option.some.injEq, Prod.mk.injEq] at ho
          obtain ⟨rfl, rfl⟩ := ho
          refine ⟨[], ⟨rfl, ?_⟩, OwnB.nil⟩
          exact row_imm h hg hc (fun b hb => hb) (fun hh => ((h.ob o _ hg).2 hh).2.2 rfl) e
      | _ => cases ho
  | ptr => cases ho
  | eptr => cases ho
  | fn => cases ho
  | int => cases ho; exact ⟨[], ⟨rfl, hc⟩, OwnB.nil⟩
  | bool => cases ho; exact ⟨[], ⟨rfl, hc⟩, OwnB.nil⟩
  | str => cases ho; exact ⟨[], ⟨rfl, hc⟩, OwnB.nil⟩
  | nilS => cases ho; exact ⟨[], ⟨rfl, hc⟩, OwnB.nil⟩
  | slc e t xs => cases ho; exact ⟨[], ⟨rfl, hc⟩, OwnB.nil⟩
  | iptr t x f => cases ho; exact ⟨[], ⟨rfl, hc⟩, OwnB.nil⟩
theorem outL_sound (h : RelE E st saved a S w w0 K) : ∀ (cs : List Cell) {rs : List RC} {ns : List Nat}, outL st.heap cs = some (rs, ns) → ∀ {vs : List Value}, All2 (CellRel E st.heap w) cs vs → ∃ bs, RcsRel E.ok w rs vs bs ∧ OwnB E st.heap ns bs
  | [], rs, ns, ho, _, .nil => by cases ho; exact ⟨[], .nil, OwnB.nil⟩
  | c :: cs, rs, ns, ho, _, .cons p q => by
    simp only [outL] at ho
    split at ho
    · rename_i p1 q1 h1 h2
      cases ho
      obtain ⟨b1, r1, o1⟩ := outC_sound h (rc := p1.1) (ns := p1.2) h1 p
      obtain ⟨b2, r2, o2⟩ := outL_sound h cs (rs := q1.1) (ns := q1.2) h2 q
      exact ⟨b1 ++ b2, .cons r1 r2, o1.append o2⟩
    · cases ho
theorem outVs_sound (h : RelE E st saved a S w w0 K) : ∀ (xs : List V1) {out : List (Bool × List RC)} {ns : List Nat}, outVs st.heap xs = some (out, ns) → ∀ {Vs : List Value}, All2 (V1Rel E st.heap w) xs Vs → ∃ bs, ResRel E.ok w out Vs bs ∧ OwnB E st.heap ns bs
  | [], rs, ns, ho, _, .nil => by cases ho; exact ⟨[], .nil, OwnB.nil⟩
  | x :: xs, rs, ns, ho, _, .cons p q => by
    simp only [outVs] at ho
    split at ho
    · rename_i p1 q1 h1 h2
      cases ho
      obtain ⟨vs, hv, hV⟩ := p
      obtain ⟨b1, r1, o1⟩ := outL_sound h x.cs (rs := p1.1) (ns := p1.2) h1 hv
      obtain ⟨b2, r2, o2⟩ := outVs_sound h xs (out := q1.1) (ns := q1.2) h2 q
      exact ⟨b1 ++ b2, .cons r1 hV r2, o1.append o2⟩
    · cases ho
theorem distinct_nodup : ∀ {l : List Nat}, distinct l = true → l.Nodup
  | [], _ => List.nodup_nil
  | n :: l, h => by
    obtain ⟨h1, h2⟩ := distinct_cons h
    exact List.nodup_cons.2 ⟨h1, distinct_nodup h2⟩

/-- What a run's end hands back. -/
theorem ret_of {ok : Nat → Prop} (h : RelE E st saved a S w' w ⟨fun b => b < w.heap.size, ok⟩) {v : VV} {out : List (Bool × List RC)} (ho : outOf st.heap v = some out) {V : Value} (hv : VRel E st.heap w' v V) : Ret ok w w' out V := by
  have core : ∀ (xs : List V1) (Vs : List Value) (ns : List Nat), outVs st.heap xs = some (out, ns) → distinct ns = true → All2 (V1Rel E st.heap w') xs Vs → V = tupOf Vs → Ret ok w w' out V := by
    intro xs Vs ns h1 hd hx hV
    obtain ⟨bs, hres, ns', hsub, rfl, hown⟩ := outVs_sound h xs h1 hx
    refine ⟨h.os, h.tape, h.out, h.size, fun b hb => (h.kp b hb).2, fun b => E.ok b ∧ w.heap.size ≤ b, Vs, ns'.map (fun n => (E.ρ n).1), fun b hb => ⟨hb.2, h.bo b hb.1⟩, ?_, ?_, ?_, hV⟩
    · refine hres.imp fun _ _ rc _ u bs hrc => hrc.mono fun b hb => ?_
      rcases Nat.lt_or_ge b w.heap.size with hlt | hge
      · exact .inl (h.oz b hb hlt)
      · exact .inr ⟨hb, hge⟩
    · have hnd : ns'.Nodup := hsub.nodup (distinct_nodup hd)
      clear hres hsub
      induction ns' with
      | nil => exact List.nodup_nil
      | cons n ns' ih =>
        obtain ⟨g1, g2⟩ := List.nodup_cons.1 hnd
        refine List.nodup_cons.2 ⟨fun hm => ?_, ih (fun k hk => hown k (List.mem_cons_of_mem _ hk)) g2⟩
        obtain ⟨k, hk, e⟩ := List.mem_map.1 hm
        obtain ⟨a1, a2⟩ := hown n List.mem_cons_self
        obtain ⟨b1, b2⟩ := hown k (List.mem_cons_of_mem _ hk)
        exact h.dj n k (fun e => g1 (e ▸ hk)) a2 b2 a1 b1 e.symm
    · intro b hb
      obtain ⟨n, hn, rfl⟩ := List.mem_map.1 hb
      obtain ⟨a1, a2⟩ := hown n hn
      obtain ⟨d1, d2⟩ := h.dk n a2 a1
      exact ⟨Nat.le_of_not_lt d2, h.bd n (live_isSome a2) a1, fun hk => d1 hk.1⟩
  unfold outOf at ho
  split at ho
  · rename_i p hp
    cases hd : distinct p.2 with
    | false => rw [hd] at ho; cases ho
    | true =>
      rw [hd] at ho
      simp only [cond_true, Option.some.injEq] at ho
      subst ho
      cases v with
      | un => cases hp
      | v x => exact core [x] [V] p.2 hp hd (.cons hv .nil) rfl
      | tup xs =>
        obtain ⟨Vs, hx, rfl⟩ := hv
        simp only at hp
        split at hp
        · cases hp
        · rename_i hne
          refine core xs Vs p.2 hp hd hx ?_
          cases hx with
          | nil => rfl
          | cons p q => cases q with
            | nil => exact absurd rfl (hne _)
            | cons p' q' => rfl
  · cases ho

theorem start_rel {ok : Nat → Prop} (hok : ∀ b, ok b → b < w.heap.size) : RelE (env0 ok) ms0.st ms0.saved ⟨#[], []⟩ [] w w ⟨fun b => b < w.heap.size, ok⟩ :=
  ⟨.nil, rfl, .nil, (fun n o h => by cases h), (fun n n' hne hl hl' hh hh' => False.elim hl), (fun n hl hh => False.elim hl), (fun n h => by cases h), hok, (fun b hb => ⟨hb, rfl⟩), rfl, rfl, rfl, Nat.le_refl _, (fun b hb _ => hb)⟩
theorem arg_rel {ok : Nat → Prop} {t : Ty} {x : El t} {v : Value} (h : ImmArg ok w t x v) : V1Rel (env0 ok) ms0.st.heap w (argV t x) v := by
  obtain ⟨cs, hi, hV⟩ := h
  exact ⟨cs, explode_rel (E := env0 ok) hi, hV⟩
/-- A run of a function tells its calls. -/
theorem calls_of_run (hG : Ok P cfg) (hm : P.follows .mixedOrders = true) (hfn : ∀ f fn, look cfg.inl f = some fn → P.funcs[f]? = some fn) {d : Nat} {f : FuncId} {xs : List V1} {out : List (Bool × List RC)}
    (hrun : runF cfg d f xs (fun v m => outOf m.st.heap v) ms0 = some out) {ok : Nat → Prop} (hok : ∀ b, ok b → b < w.heap.size) {vs : List Value} (hx : All2 (V1Rel (env0 ok) ms0.st.heap w) xs vs) :
    Calls P f vs.toArray w fun e w' => ∃ V, e = .returned V ∧ Ret ok w w' out V := by
  obtain ⟨_, h⟩ := run_ok hG hm hfn d hrun
  exact h (start_rel hok) hx _ fun v V m' w' E' h1 h2 h3 => ⟨V, rfl, ret_of h2 h1 h3⟩
end
end Go.Vm
end

section
namespace Go.Vm
open Go

def Wf : (t : Ty) → El t → Prop
  | .int k, n => k.min ≤ n ∧ n ≤ k.max
  | .bool, _ => True
  | .str, s => s.size ≤ maxLen
  | .slice _ t, xs => xs.length ≤ maxLen ∧ ∀ x ∈ xs, Wf t x
  | .nil, _ => True
  | .fld a r, x => Wf a x.1 ∧ Wf r x.2
/-- The reading of a typed datum. -/
def DRG {H : Type} : (t : Ty) → Bool → El t → List (DataW H) → Prop
  | .int k, _, n, ds => ds = [.lit (.int k n)]
  | .bool, _, b, ds => ds = [.lit (.bool b)]
  | .str, _, s, ds => ds = [.lit (.string s.data.toList)]
  | .slice _ t, _, xs, ds => (ds = [.nil] ∧ xs = []) ∨ ∃ es sp, ds = [.slice es sp] ∧ All2 (fun x e => DRG t false x [e]) xs es
  | .nil, false, _, ds => ds = [.agg []]
  | .nil, true, _, ds => ds = []
  | .fld a r, false, x, ds => ∃ d ps, ds = [.agg (d :: ps)] ∧ DRG a false x.1 [d] ∧ DRG r true x.2 ps
  | .fld a r, true, x, ds => ∃ d ps, ds = d :: ps ∧ DRG a false x.1 [d] ∧ DRG r true x.2 ps

theorem mapM_some {α β : Type} {f : α → Option β} : ∀ {l : List α} {r : List β}, l.mapM f = some r → All2 (fun a b => f a = some b) l r
  | [], r, h => by simp at h; subst h; exact .nil
  | a :: l, r, h => by
    simp only [List.mapM_cons, Option.bind_eq_bind, Option.pure_def, Option.bind_eq_some_iff] at h
    obtain ⟨b, h1, bs, h2, h3⟩ := h
    cases h3
    exact .cons h1 (mapM_some h2)
theorem TyOk.cells {P : Program} {t : Ty} {T : TypeId} (h : TyOk P t T) : P.cellsOf T = t.sz := by
  obtain ⟨i, hi, hs, _⟩ := h.base.info
  simp [Program.cellsOf, hi, hs]

/-- Elements that lie in rows have cells. -/
def Ty.pos : Ty → Bool
  | .slice _ t => Nat.ble 1 t.sz && t.pos
  | .fld a r => a.pos && r.pos
  | _ => true
theorem range_mapM {β : Type} {f : Nat → Option β} {n : Nat} {r : List β} (h : (List.range n).mapM f = some r) : r.length = n ∧ ∀ i (hi : i < r.length), f i = some r[i] := by
  have h2 := mapM_some h
  have hl : r.length = n := by rw [← h2.length, List.length_range]
  refine ⟨hl, fun i hi => ?_⟩
  obtain ⟨b, hb, hf⟩ := h2.get i i (List.getElem?_range (by omega))
  rw [List.getElem?_eq_getElem hi] at hb
  cases hb
  exact hf
theorem cells_some {w : World} {a : Addr} {n : Nat} {cs : List Value} (h : w.cells? 0 a n = some cs) : cs.length = n ∧ ∀ i (hi : i < cs.length), w.cell? (a.add i) = some cs[i] := by
  simp only [World.cells?, Nat.zero_le, if_true] at h
  exact range_mapM h
theorem plain_of_cell {w : World} {a : Addr} {v : Value} (h : w.cell? a = some v) : ∃ g off, a = ⟨g, off, none⟩ ∧ g < w.heap.size := by
  obtain ⟨g, off, sp⟩ := a
  have hl : g < w.heap.size := by
    rcases Nat.lt_or_ge g w.heap.size with hl | hl
    · exact hl
    · simp only [World.cell?, Array.getElem?_eq_none hl] at h; cases h
  cases sp with
  | none => exact ⟨g, off, rfl, hl⟩
  | some s =>
    simp only [World.cell?] at h
    split at h
    · simp at h
    · cases h

theorem all2_of_get {α β : Type} {r : α → β → Prop} : ∀ {l : List α} {m : List β}, l.length = m.length → (∀ (i : Nat) (a : α) (b : β), l[i]? = some a → m[i]? = some b → r a b) → All2 r l m
  | [], [], _, _ => .nil
  | [], _ :: _, h, _ => by simp at h
  | _ :: _, [], h, _ => by simp at h
  | a :: l, b :: m, h, k => .cons (k 0 a b rfl rfl) (all2_of_get (by simpa using h) fun i a b h1 h2 => k (i + 1) a b (by simpa using h1) (by simpa using h2))
theorem list_of_get {α : Type} {r : Nat → α → Prop} : ∀ (n : Nat), (∀ i, i < n → ∃ a, r i a) → ∃ l : List α, l.length = n ∧ ∀ i (h : i < l.length), r i l[i]
  | 0, _ => ⟨[], rfl, fun i h => by simp at h⟩
  | n + 1, h => by
    obtain ⟨l, hl, hr⟩ := list_of_get n (fun i hi => h i (Nat.lt_succ_of_lt hi))
    obtain ⟨a, ha⟩ := h n (Nat.lt_succ_self n)
    refine ⟨l ++ [a], by simp [hl], fun i hi => ?_⟩
    by_cases hlt : i < l.length
    · rw [List.getElem_append_left hlt]; exact hr i hlt
    · have : i = n := by simp at hi; omega
      subst this
      rw [List.getElem_append_right (by omega)]
      simpa using ha

section
variable {H : Type} {enc : TypeId × Value → H} {P : Program} {w : World} {sp : Nat → Bool} {held : Bool}
def okAll (w : World) (b : Nat) : Prop := b < w.heap.size
def Reads (t : Ty) : Prop :=
    (∀ (T : TypeId) (n : Nat) (cs : List Value) (y : DataW H × List MemPlace), TyOk P t T → DataW.trod enc P w 0 sp held n T cs = some y → ∃ x : El t, Imm (okAll w) w t x cs ∧ Wf t x ∧ DRG t false x [y.1]) ∧
    (∀ (off n : Nat) (fs : List Field) (cs : List Value) (ys : List (DataW H × List MemPlace)), TyOkG P t true off fs → off + t.sz = cs.length → ys.length = fs.length →
      (∀ (i : Nat) (f : Field), fs[i]? = some f → DataW.trod enc P w 0 sp held n f.type ((cs.drop f.offset).take (P.cellsOf f.type)) = ys[i]?) → ∃ x : El t, Imm (okAll w) w t x (cs.drop off) ∧ Wf t x ∧ DRG t true x (ys.map (·.1)))
theorem reads_fields {a r : Ty} (iha : Reads (enc := enc) (P := P) (w := w) (sp := sp) (held := held) a) (ihr : Reads (enc := enc) (P := P) (w := w) (sp := sp) (held := held) r) {off n : Nat} {f : Field} {fs' : List Field} {cs : List Value} {ys : List (DataW H × List MemPlace)}
    (ho : f.offset = off) (ha : TyOk P a f.type) (hr : TyOkG P r true (off + a.sz) fs') (hl : off + (a.sz + r.sz) = cs.length) (hy : ys.length = fs'.length + 1)
    (hi : ∀ (i : Nat) (g : Field), (f :: fs')[i]? = some g → DataW.trod enc P w 0 sp held n g.type ((cs.drop g.offset).take (P.cellsOf g.type)) = ys[i]?) :
    ∃ x : El (.fld a r), Imm (okAll w) w (.fld a r) x (cs.drop off) ∧ Wf (.fld a r) x ∧ ∃ y ys', ys = y :: ys' ∧ DRG a false x.1 [y.1] ∧ DRG r true x.2 (ys'.map (·.1)) := by
  cases ys with
  | nil => simp at hy
  | cons y ys' =>
    have h0 := hi 0 f rfl
    simp only [List.getElem?_cons_zero] at h0
    obtain ⟨x, h1, h2, h3⟩ := iha.1 _ _ _ _ ha h0
    obtain ⟨z, h4, h5, h6⟩ := ihr.2 (off + a.sz) n fs' cs ys' hr (by omega) (by simpa using hy) (fun i g hg => by simpa using hi (i + 1) g (by simpa using hg))
    rw [ho, ha.cells] at h1
    refine ⟨(x, z), ⟨_, _, ?_, h1, h4⟩, ⟨h2, h5⟩, y, ys', rfl, h3, h6⟩
    rw [← List.drop_drop, List.take_append_drop]
theorem read_sound : ∀ (t : Ty), t.pos = true → Reads (enc := enc) (P := P) (w := w) (sp := sp) (held := held) t := by
  intro t
  induction t with
  | int k =>
    intro _
    refine ⟨fun T n cs y hok h => ?_, fun off n fs cs ys hok => hok.elim⟩
    obtain ⟨m, rfl, rfl, hw⟩ := DataW.trod_int hok.2 h
    simp only [Lit.wf, Bool.and_eq_true, decide_eq_true_eq] at hw
    exact ⟨m, rfl, hw, rfl⟩
  | bool =>
    intro _
    refine ⟨fun T n cs y hok h => ?_, fun off n fs cs ys hok => hok.elim⟩
    obtain ⟨b, rfl, rfl⟩ := DataW.trod_bool hok.2 h
    exact ⟨b, rfl, trivial, rfl⟩
  | str =>
    intro _
    refine ⟨fun T n cs y hok h => ?_, fun off n fs cs ys hok => hok.elim⟩
    obtain ⟨s, rfl, rfl, hs⟩ := DataW.trod_string hok.2 h
    exact ⟨s, rfl, hs, rfl⟩
  | nil =>
    intro _
    refine ⟨fun T n cs y hok h => ?_, fun off n fs cs ys hok hl hy hi => ?_⟩
    · obtain ⟨xs, m, _, rfl, hl, hx, _⟩ := DataW.trod_struct hok.2 h
      rw [hok.cells] at hl
      refine ⟨(), List.length_eq_zero_iff.1 hl, trivial, ?_⟩
      have : xs = [] := List.length_eq_zero_iff.1 (by simpa using hx)
      subst this
      rfl
    · have hfs : fs = [] := hok
      subst hfs
      have : ys = [] := List.length_eq_zero_iff.1 (by simpa using hy)
      subst this
      refine ⟨(), ?_, trivial, rfl⟩
      show cs.drop off = []
      rw [List.drop_eq_nil_iff]
      simp only [Ty.sz] at hl
      omega
  | fld a r iha ihr =>
    intro hp
    simp only [Ty.pos, Bool.and_eq_true] at hp
    refine ⟨fun T n cs y hok h => ?_, fun off n fs cs ys hok hl hy hi => ?_⟩
    · have hc := hok.cells
      obtain ⟨hb, fs, f, fs', hu, hfs, hof, _, ha, hr⟩ := hok
      obtain ⟨xs, m, rfl, rfl, hl, hx, hi⟩ := DataW.trod_struct hu h
      have hx' : xs.length = fs'.length + 1 := by rw [hx, ← Array.length_toList, hfs]; rfl
      obtain ⟨x, h1, h2, z, zs, rfl, h4, h5⟩ := reads_fields (off := 0) (fs' := fs') (cs := cs) (ys := xs) (iha hp.1) (ihr hp.2) hof ha (by rw [Nat.zero_add]; exact hr) (by rw [hl, hc]; simp [Ty.sz]) hx' (fun i g hg => by
        refine hi i g ?_
        rw [← hfs] at hg
        simpa using hg)
      exact ⟨x, by simpa using h1, h2, _, _, rfl, h4, h5⟩
    · obtain ⟨f, fs', rfl, hof, _, ha, hr⟩ := hok
      obtain ⟨x, h1, h2, z, zs, rfl, h4, h5⟩ := reads_fields (iha hp.1) (ihr hp.2) hof ha hr hl (by simpa using hy) hi
      exact ⟨x, h1, h2, _, _, rfl, h4, h5⟩
  | slice e t ih =>
    intro hp
    simp only [Ty.pos, Bool.and_eq_true] at hp
    have hsz := Nat.le_of_ble_eq_true hp.1
    refine ⟨fun T n cs y hok h => ?_, fun off n fs cs ys hok => hok.elim⟩
    rcases DataW.trod_slice hok.2.1 h with ⟨rfl, rfl⟩ | ⟨A, len, cap, elems, rest, m, rfl, rfl, rfl, _, hlc, hcm, hel, hget, _⟩
    · exact ⟨[], ⟨none, 0, rfl, Nat.le_refl _, fun h => absurd rfl h⟩, ⟨Nat.zero_le _, fun x hx => by cases hx⟩, .inl ⟨rfl, rfl⟩⟩
    · have hce : P.cellsOf e = t.sz := TyOk.cells hok.2.2
      rw [hce] at hget
      have each : ∀ i, i < len → ∃ x : El t, (∃ ds, Imm (okAll w) w t x ds ∧ ∀ j, j < t.sz → w.cell? ((A.add (i * t.sz)).add j) = ds[j]?) ∧ Wf t x ∧ ∃ z, elems[i]? = some z ∧ DRG t false x [z.1] := by
        intro i hi
        have hg := hget i hi
        have hie : i < elems.length := by omega
        rw [List.getElem?_eq_getElem hie] at hg
        simp only [Option.bind_eq_some_iff] at hg
        obtain ⟨ds, h1, h2⟩ := hg
        obtain ⟨h3, h4⟩ := cells_some h1
        obtain ⟨x, h5, h6, h7⟩ := (ih hp.2).1 _ _ _ _ hok.2.2 h2
        exact ⟨x, ⟨ds, h5, fun j hj => by rw [List.getElem?_eq_getElem (by omega)]; exact h4 j (by omega)⟩, h6, _, List.getElem?_eq_getElem hie, h7⟩
      obtain ⟨xs, hxl, hxs⟩ := list_of_get len each
      refine ⟨xs, ⟨some A, cap, by rw [hxl], by omega, fun hne => ?_⟩, ⟨by omega, fun x hx => ?_⟩, .inr ⟨_, _, rfl, ?_⟩⟩
      · have h0 : 0 < xs.length := by
          cases xs with
          | nil => exact absurd rfl hne
          | cons _ _ => simp
        obtain ⟨⟨ds, hd, hj⟩, _⟩ := hxs 0 h0
        have hz := hj 0 hsz
        rw [List.getElem?_eq_getElem (by rw [hd.len]; omega)] at hz
        have e0 : (A.add (0 * t.sz)).add 0 = A := by simp [Addr.add]
        rw [e0] at hz
        obtain ⟨g, off, rfl, hg⟩ := plain_of_cell hz
        refine ⟨g, off, rfl, hg, fun i hi => ?_⟩
        obtain ⟨⟨ds, hd, hj⟩, _⟩ := hxs i hi
        exact ⟨ds, hd, fun j hlt => by rw [← hj j hlt, add_plain, add_plain]⟩
      · obtain ⟨i, hi, rfl⟩ := List.getElem_of_mem hx
        exact (hxs i hi).2.1
      · refine all2_of_get (by simp; omega) fun i x d h1 h2 => ?_
        have hi : i < xs.length := (List.getElem?_eq_some_iff.1 h1).1
        obtain ⟨_, _, z, hz, hd⟩ := hxs i hi
        rw [List.getElem?_map, hz] at h2
        rw [List.getElem?_eq_getElem hi] at h1
        cases h1; cases h2
        exact hd
end
end Go.Vm
end

section
namespace Go.Vm
open Go
section
variable {H : Type} {enc : TypeId × Value → H} {P : Program} {W W' : World}
theorem same_at (h : ∀ b, b < W.heap.size → W'.heap[b]? = W.heap[b]?) {p : MemPlace} (hp : p.block < W.heap.size) : W.sameAt W' p := by
  cases p with
  | cell b off => exact cell?_same (a := ⟨b, off, none⟩) (h b hp)
  | map b => exact h b hp
theorem trodAll_stays (hl : laidOutB P = true) (hs : ∀ b, b < W.heap.size → W'.heap[b]? = W.heap[b]?) {sp' : Nat → Bool} : ∀ {ts : List TypeId} {vs : List Value} {ds : List (DataW H)} {ps : List MemPlace}, (∀ t ∈ ts, P.readableRec t = true ∧ t < P.types.size) →
    DataW.TrodAll enc P W 0 (fun _ => true) true ts vs ds ps → (∀ p ∈ ps, p.block < W.heap.size) → (∀ p ∈ ps, sp' p.block = true) → DataW.TrodAll enc P W' 0 sp' true ts vs ds ps
  | [], [], [], ps, _, h, _, _ => h
  | t :: ts, v :: vs, d :: ds, ps, ht, h, hb, hsp => by
    obtain ⟨p, q, h1, h2, rfl⟩ := h
    exact ⟨p, q, Go.WideElems.Trod_stays hl (ht t List.mem_cons_self).1 (ht t List.mem_cons_self).2 h1 (fun x hx => same_at hs (hb x (List.mem_append.2 (.inl hx)))) (fun x hx => hsp x (List.mem_append.2 (.inl hx))),
      trodAll_stays hl hs (fun t h => ht t (List.mem_cons_of_mem _ h)) h2 (fun x hx => hb x (List.mem_append.2 (.inr hx))) (fun x hx => hsp x (List.mem_append.2 (.inr hx))), rfl⟩
  | [], [], _ :: _, _, _, h, _, _ => h.elim
  | [], _ :: _, _, _, _, h, _, _ => h.elim
  | _ :: _, [], _, _, _, h, _, _ => h.elim
  | _ :: _, _ :: _, [], _, _, h, _, _ => h.elim
theorem kept_same (ho : W'.os = W.os) (hu : W'.output = W.output) (hs : ∀ b, b < W.heap.size → W'.heap[b]? = W.heap[b]?) (may : MemPlace → Prop) : W.keptBut W' may := by
  refine ⟨ho, hu, fun i hi => ?_⟩
  have := (World.keptBut_refl W may).2.2 i hi
  rw [hs i hi]
  exact this

/-- 'Whatever the input: true; the input reads as it did.' -/
theorem law_post {f : Func} {s : ChangeSpec} {fresh handsOn again : Bool} {T : TypeId} {args : Array Value} {ds gs : List (DataW H)} {before : List MemPlace} {v : Value}
    (hl : laidOutB P = true) (hp : ∀ t ∈ f.params.toList, P.readableRec t = true ∧ t < P.types.size) (hv : s.vars = []) (hr : f.resultTypes = #[T]) (hT : P.underlying T = some .bool)
    (hsp : s.fn H (ds ++ gs) = { results := [.lit (.bool true)], args := ds })
    (hW : DataW.Whole enc P f.params.toList s.vars false W args.toList ds gs before) (ho : W'.os = W.os) (hu : W'.output = W.output) (hs : ∀ b, b < W.heap.size → W'.heap[b]? = W.heap[b]?) (hval : v = .bool true) :
    s.post enc P f false fresh handsOn again W args v W' := by
  subst hval
  have hlt := hW.lt
  have hW' := hW
  obtain ⟨p, q, hA, hV, rfl, hfz, hnd⟩ := hW
  rw [hv] at hV
  have hq : q = [] := by
    cases gs with
    | nil => exact hV
    | cons _ _ => exact hV.elim
  subst hq
  have hg : gs = [] := by
    cases gs with
    | nil => rfl
    | cons _ _ => exact hV.elim
  subst hg
  simp only [List.append_nil] at *
  have hres : ∀ (w : World) (b : Nat) (sp : Nat → Bool) (h : Bool), DataW.TrodAll enc P w b sp h f.resultTypes.toList ((Value.bool true).resultList f.resultTypes.size) [.lit (.bool true)] [] := by
    intro w b sp h
    rw [hr]
    exact ⟨[], [], ⟨1, by simp [DataW.trod, Value.cells, hT]⟩, rfl, rfl⟩
  have harg : ∀ sp' : Nat → Bool, (∀ x ∈ p, sp' x.block = true) → DataW.TrodAll enc P W' 0 sp' true f.params.toList args.toList ds p := fun sp' h => trodAll_stays hl hs hp hA hlt h
  refine ⟨ds, [], p, [], p, [], hW', ?_, ?_, ?_, kept_same ho hu hs _, fun _ => ⟨?_, ?_⟩⟩
  · rw [List.append_nil, hsp]; exact hres _ _ _ _
  · rw [List.append_nil, hsp]; exact harg _ (fun x hx => by simpa using hlt x hx)
  · rw [List.append_nil, hsp, hv]; rfl
  · intro j t r h1 h2
    rw [hr] at h1 h2
    match j, h1, h2 with
    | 0, h1, h2 =>
      cases h1
      have : r = .bool true := by simpa [Value.resultList] using h2.symm
      subst this
      exact Go.RowKit.okWide_bool_mk hT true
    | j + 1, h1, _ => simp at h1
  · refine ⟨.lit (.bool true) :: ds, [], p, ⟨p, [], ?_, by rw [hv]; rfl, by simp, ?_, by simp⟩, fun x hx _ => hx⟩
    · have h1 := hres W' 0 (fun _ => true) true
      rw [hr] at h1 ⊢
      obtain ⟨a1, a2, h2, h3, h4⟩ := h1
      obtain ⟨rfl, rfl⟩ := List.append_eq_nil_iff.1 h4.symm
      exact ⟨[], p, h2, harg _ (fun _ _ => rfl), by simp⟩
    · intro b off hx
      rw [frozen?_same (w := W) (a := ⟨b, off, none⟩) (hs b (hlt _ hx))]
      exact hfz b off hx
end
end Go.Vm
end

section
namespace Go.Vm
open Go
@[reducible] def Args : List Ty → Type
  | [] => Unit
  | t :: ts => El t × Args ts
def argsV : (ts : List Ty) → Args ts → List V1
  | [], _ => []
  | t :: ts, x => argV t x.1 :: argsV ts x.2
def ArgsWf : (ts : List Ty) → Args ts → Prop
  | [], _ => True
  | t :: ts, x => Wf t x.1 ∧ ArgsWf ts x.2
def ArgsDR {H : Type} : (ts : List Ty) → Args ts → List (DataW H) → Prop
  | [], _, ds => ds = []
  | t :: ts, x, ds => ∃ d ds', ds = d :: ds' ∧ DRG t false x.1 [d] ∧ ArgsDR ts x.2 ds'
def TysOk (P : Program) : List Ty → List TypeId → Prop
  | [], [] => True
  | t :: ts, T :: Ts => TyOk P t T ∧ t.pos = true ∧ TysOk P ts Ts
  | _, _ => False
section
variable {H : Type} {enc : TypeId × Value → H} {P : Program} {W W' : World} {base : Nat}
theorem arg_imm {t : Ty} {T : TypeId} {x : El t} {v : Value} (hok : TyOk P t T) (hw : Value.okWide P W .any base T v) (h : Imm (okAll W) W t x v.cells.toList) : ImmArg (okAll W) W t x v := by
  refine ⟨v.cells.toList, h, ?_⟩
  cases t with
  | nil =>
    unfold Value.okWide at hw
    rw [hok.2] at hw
    obtain ⟨cs, rfl, _⟩ := hw
    exact .inl ⟨rfl, by simp [Value.cells]⟩
  | fld a r =>
    obtain ⟨_, fs, f, fs', hu, _⟩ := hok
    unfold Value.okWide at hw
    rw [hu] at hw
    obtain ⟨cs, rfl, _⟩ := hw
    exact .inl ⟨rfl, by simp [Value.cells]⟩
  | int k =>
    refine .inr ⟨rfl, ?_⟩
    unfold Value.okWide at hw
    rw [hok.2] at hw
    cases v <;> first | rfl | (simp [Cell.okWide, Cell.ok, hok.2] at hw)
  | bool =>
    refine .inr ⟨rfl, ?_⟩
    unfold Value.okWide at hw
    rw [hok.2] at hw
    cases v <;> first | rfl | (simp [Cell.okWide, Cell.ok, hok.2] at hw)
  | str =>
    refine .inr ⟨rfl, ?_⟩
    unfold Value.okWide at hw
    rw [hok.2] at hw
    cases v <;> first | rfl | (simp [Cell.okWide, Cell.ok, hok.2] at hw)
  | slice e t =>
    refine .inr ⟨rfl, ?_⟩
    unfold Value.okWide at hw
    rw [hok.2.1] at hw
    cases v <;> first | rfl | (simp [Cell.okWide, Cell.ok, hok.2.1] at hw)

theorem args_read {sp : Nat → Bool} {held : Bool} : ∀ (ts : List Ty) {Ts : List TypeId} {vs : List Value} {ds : List (DataW H)} {ps : List MemPlace}, TysOk P ts Ts → DataW.TrodAll enc P W 0 sp held Ts vs ds ps →
    (∀ (j : Nat) T v, Ts[j]? = some T → vs[j]? = some v → Value.okWide P W .any base T v) →
    ∃ x : Args ts, All2 (V1Rel (env0 (okAll W)) ms0.st.heap W) (argsV ts x) vs ∧ ArgsWf ts x ∧ ArgsDR ts x ds
  | [], [], [], [], ps, _, h, _ => ⟨(), .nil, trivial, rfl⟩
  | t :: ts, T :: Ts, v :: vs, d :: ds, ps, hok, h, hw => by
    obtain ⟨p, q, ⟨n, h1⟩, h2, rfl⟩ := h
    obtain ⟨ho, hp, hoks⟩ := hok
    obtain ⟨x, hi, hwf, hd⟩ := (read_sound t hp).1 T n _ _ ho h1
    obtain ⟨xs, hx, hwfs, hds⟩ := args_read ts hoks h2 (fun j T v h3 h4 => hw (j + 1) T v (by simpa using h3) (by simpa using h4))
    exact ⟨(x, xs), .cons (arg_rel (arg_imm ho (hw 0 T v rfl rfl) hi)) hx, ⟨hwf, hwfs⟩, d, ds, rfl, hd, hds⟩
  | [], _ :: _, _, _, _, hok, _, _ => hok.elim
  | _ :: _, [], _, _, _, hok, _, _ => hok.elim
  | [], [], _ :: _, _, _, _, h, _ => by cases ‹List (DataW H)› <;> exact h.elim
  | [], [], [], _ :: _, _, _, h, _ => h.elim
  | _ :: _, _ :: _, [], _, _, _, h, _ => h.elim
  | _ :: _, _ :: _, _ :: _, [], _, _, h, _ => h.elim

theorem law_calls {cfg : Nat → Cfg} (hG : ∀ k, Ok P (cfg k)) (hm : P.follows .mixedOrders = true) (hfn : ∀ k f fn, look (cfg k).inl f = some fn → P.funcs[f]? = some fn) {f : FuncId} {fn : Func} {s : ChangeSpec} {fresh handsOn again : Bool} {T : TypeId} (ts : List Ty)
    (hts : TysOk P ts fn.params.toList) (hl : laidOutB P = true) (hp : ∀ t ∈ fn.params.toList, P.readableRec t = true ∧ t < P.types.size) (hv : s.vars = []) (hr : fn.resultTypes = #[T]) (hT : P.underlying T = some .bool)
    (hsp : ∀ ds gs : List (DataW H), ArgsDR ts (H := H) = ArgsDR ts → ds.length = ts.length → gs = [] → s.fn H (ds ++ gs) = { results := [.lit (.bool true)], args := ds }) (Cond : List (DataW H) → Prop)
    (hrun : ∀ (x : Args ts) (ds : List (DataW H)), ArgsWf ts x → ArgsDR ts x ds → Cond ds → ∃ k d, runF (cfg k) d f (argsV ts x) (fun v m => outOf m.st.heap v) ms0 = some [(false, [.c (.bool true)])])
    (args : Array Value) (ds gs : List (DataW H)) (before : List MemPlace)
    (hval : ∀ (j : Nat) t v, fn.params[j]? = some t → args[j]? = some v → Value.okWide P W .any base t v)
    (hW : DataW.Whole enc P fn.params.toList s.vars false W args.toList ds gs before) (hc : Cond ds) :
    Calls P f args W fun e W' => ∃ v, e = .returned v ∧ s.post enc P fn false fresh handsOn again W args v W' := by
  have hW' := hW
  obtain ⟨p, q, hA, hV, rfl, hfz, hnd⟩ := hW
  obtain ⟨x, hx, hwf, hd⟩ := args_read ts hts hA (fun j t v h1 h2 => hval j t v (by simpa using h1) (by simpa using h2))
  obtain ⟨k, d, hk⟩ := hrun x ds hwf hd hc
  have hcalls := calls_of_run (hG k) hm (hfn k) hk (ok := okAll W) (fun b hb => hb) hx
  have hlen : ∀ (ts : List Ty) (x : Args ts) (ds : List (DataW H)), ArgsDR ts x ds → ds.length = ts.length := by
    intro ts
    induction ts with
    | nil => intro x ds h; have : ds = [] := h; subst this; rfl
    | cons t ts ih => intro x ds h; obtain ⟨d, ds', rfl, _, h2⟩ := h; simp [ih _ _ h2]
  have hg : gs = [] := by
    rw [hv] at hV
    cases gs with
    | nil => rfl
    | cons _ _ => exact hV.elim
  refine hcalls.mono fun e W' ⟨V, he, hret⟩ => ⟨V, he, ?_⟩
  obtain ⟨good, Vs, bs, _, hres, _, _, hV'⟩ := hret.res
  refine law_post hl hp hv hr hT (hsp ds gs rfl (hlen _ _ _ hd) hg) hW' hret.os hret.put hret.same ?_
  cases hres with
  | cons h1 h2 h3 =>
    cases h3
    cases h1 with
    | cons h4 h5 =>
      cases h5
      obtain ⟨_, h6⟩ := h4
      have h7 : _ = Value.bool true := h6
      rcases h2 with ⟨h8, _⟩ | ⟨_, h8⟩
      · cases h8
      · simp only [List.cons.injEq, and_true] at h8
        rw [hV', ← h8, h7]; rfl
end
end Go.Vm
end

section
namespace Go.Vm
open Go
def zEq : Value → Value → Bool
  | .int k n, .int k' n' => decide (k = k') && decide (n = n')
  | .bool a, .bool b => a == b
  | .string s, .string s' => decide (s.data.toList = s'.data.toList)
  | .slice none 0 0, .slice none 0 0 => true
  | _, _ => false
theorem zEq_sound {a b : Value} (h : zEq a b = true) : a = b := by
  unfold zEq at h
  split at h
  · simp only [Bool.and_eq_true, decide_eq_true_eq] at h
    rw [h.1, h.2]
  · rw [eq_of_beq h]
  · rename_i s s'
    have h := of_decide_eq_true h
    cases s; cases s'
    congr 2
    exact Array.toList_inj.1 h
  · rfl
  · cases h
def zEqs : List Value → List Value → Bool
  | [], [] => true
  | a :: r, b :: s => zEq a b && zEqs r s
  | _, _ => false
theorem zEqs_sound : ∀ {l m : List Value}, zEqs l m = true → l = m
  | [], [], _ => rfl
  | a :: l, b :: m, h => by
    simp only [zEqs, Bool.and_eq_true] at h
    rw [zEq_sound h.1, zEqs_sound h.2]
  | [], _ :: _, h => by cases h
  | _ :: _, [], h => by cases h
def baseB (P : Program) (t : Ty) (T : TypeId) : Bool :=
  match P.info? T with
  | some i => Nat.beq i.size t.sz && Nat.ble i.bytes 256 && (match i.zero with
    | some z => (match t.agg with
      | true => (match z with | .agg cs => zEqs cs.toList (zeroVal t) | _ => false)
      | false => zEqs [z] (zeroVal t))
    | none => false)
  | none => false
theorem baseB_sound {P : Program} {t : Ty} {T : TypeId} (h : baseB P t T = true) : TyBase P t T := by
  unfold baseB at h
  split at h
  · rename_i i hi
    simp only [Bool.and_eq_true] at h
    refine ⟨⟨i, hi, Nat.eq_of_beq_eq_true h.1.1, ?_, Nat.le_of_ble_eq_true h.1.2⟩⟩
    have h2 := h.2
    split at h2
    · rename_i z hz
      rw [hz]
      split at h2
      · rename_i hag
        split at h2
        · rename_i cs
          rw [if_pos hag, ← zEqs_sound h2]
        · cases h2
      · rename_i hag
        rw [if_neg (by rw [hag]; simp), ← zEqs_sound h2]
        rfl
    · cases h2
  · cases h
def tyB (P : Program) : Ty → Bool → Nat → List Field → Bool
  | .int k, false, T, _ => baseB P (.int k) T && (match P.underlying T with | some (.int k') => decide (k' = k) | _ => false)
  | .bool, false, T, _ => baseB P .bool T && (match P.underlying T with | some .bool => true | _ => false)
  | .str, false, T, _ => baseB P .str T && (match P.underlying T with | some .string => true | _ => false)
  | .slice e t, false, T, _ => baseB P (.slice e t) T && (match P.underlying T with | some (.slice e') => Nat.beq e' e | _ => false) && tyB P t false e []
  | .nil, false, T, _ => baseB P .nil T && (match P.underlying T with | some (.struct fs) => fs.toList.isEmpty | _ => false)
  | .nil, true, _, fs => fs.isEmpty
  | .fld a r, false, T, _ => baseB P (.fld a r) T && (match P.underlying T with
    | some (.struct fs) => (match fs.toList with
      | f :: fs' => Nat.beq f.offset 0 && !(f.name == "_") && tyB P a false f.type [] && tyB P r true a.sz fs'
      | [] => false)
    | _ => false)
  | .fld a r, true, off, fs => (match fs with
    | f :: fs' => Nat.beq f.offset off && !(f.name == "_") && tyB P a false f.type [] && tyB P r true (off + a.sz) fs'
    | [] => false)
  | _, true, _, _ => false
theorem tyB_sound {P : Program} : ∀ (t : Ty) (b : Bool) (T : Nat) (fs : List Field), tyB P t b T fs = true → TyOkG P t b T fs
  | .int k, false, T, fs, h => by
    simp only [tyB, Bool.and_eq_true] at h
    refine ⟨baseB_sound h.1, ?_⟩
    have h2 := h.2
    split at h2
    · rename_i k' hu
      rw [hu, of_decide_eq_true h2]
    · cases h2
  | .bool, false, T, fs, h => by
    simp only [tyB, Bool.and_eq_true] at h
    refine ⟨baseB_sound h.1, ?_⟩
    have h2 := h.2
    split at h2
    · rename_i hu; exact hu
    · cases h2
  | .str, false, T, fs, h => by
    simp only [tyB, Bool.and_eq_true] at h
    refine ⟨baseB_sound h.1, ?_⟩
    have h2 := h.2
    split at h2
    · rename_i hu; exact hu
    · cases h2
  | .slice e t, false, T, fs, h => by
    simp only [tyB, Bool.and_eq_true] at h
    refine ⟨baseB_sound h.1.1, ?_, tyB_sound t false e [] h.2⟩
    have h2 := h.1.2
    split at h2
    · rename_i e' hu
      rw [hu, Nat.eq_of_beq_eq_true h2]
    · cases h2
  | .nil, false, T, fs, h => by
    simp only [tyB, Bool.and_eq_true] at h
    refine ⟨baseB_sound h.1, ?_⟩
    have h2 := h.2
    split at h2
    · rename_i fs' hu
      have : fs' = #[] := by
        rw [← Array.toList_eq_nil_iff]
        exact List.isEmpty_iff.1 h2
      rw [hu, this]
    · cases h2
  | .nil, true, T, fs, h => List.isEmpty_iff.1 h
  | .fld a r, false, T, fs, h => by
    simp only [tyB, Bool.and_eq_true] at h
    refine ⟨baseB_sound h.1, ?_⟩
    have h2 := h.2
    split at h2
    · rename_i fs0 hu
      split at h2
      · rename_i f fs' hfs
        simp only [Bool.and_eq_true, Bool.not_eq_true'] at h2
        exact ⟨fs0, f, fs', hu, hfs, Nat.eq_of_beq_eq_true h2.1.1.1, by simpa using h2.1.1.2, tyB_sound a false f.type [] h2.1.2, tyB_sound r true a.sz fs' h2.2⟩
      · cases h2
    · cases h2
  | .fld a r, true, off, fs, h => by
    simp only [tyB] at h
    split at h
    · rename_i f fs'
      simp only [Bool.and_eq_true, Bool.not_eq_true'] at h
      exact ⟨f, fs', rfl, Nat.eq_of_beq_eq_true h.1.1.1, by simpa using h.1.1.2, tyB_sound a false f.type [] h.1.2, tyB_sound r true (off + a.sz) fs' h.2⟩
    · cases h
  | .int _, true, _, _, h => by cases h
  | .bool, true, _, _, h => by cases h
  | .str, true, _, _, h => by cases h
  | .slice _ _, true, _, _, h => by cases h
def tabB (P : Program) : List (TypeId × Ty) → Bool
  | [] => true
  | (T, t) :: r => tyB P t false T [] && tabB P r
theorem tabB_sound {P : Program} : ∀ {l : List (TypeId × Ty)}, tabB P l = true → ∀ T t, look l T = some t → TyOk P t T
  | [], _, T, t, h => by cases h
  | (T', t') :: r, hb, T, t, h => by
    simp only [tabB, Bool.and_eq_true] at hb
    simp only [look] at h
    cases hc : Nat.beq T' T with
    | true =>
      rw [hc] at h
      cases h
      rw [← Nat.eq_of_beq_eq_true hc]
      exact tyB_sound _ _ _ _ hb.1
    | false => rw [hc] at h; exact tabB_sound hb.2 T t h
end Go.Vm
end

section
namespace Go.Vm
open Go

/-! ### Where a run stands -/
def bo (f : Func) : Code := match f.body with | some c => c | none => .skip
def cd : List Nat → Code → Code
  | [], c => c
  | 0 :: r, .seq a _ => cd r a
  | _ :: r, .seq _ b => cd r b
  | 0 :: r, .cond _ a _ => cd r a
  | _ :: r, .cond _ _ b => cd r b
  | _ :: r, .block _ c => cd r c
  | _ :: r, .loop c => cd r c
  | _, _ => .skip
def rg : Code → List Oper
  | .region _ ops _ => ops.toList
  | _ => []
inductive Fr where
  | s (b : Code)
  | b (id : Nat)
  | l (key : Nat) (c : Code) (n : Nat)
  | fn (f : Func)
  | op (ops : List Oper) (i : Nat) (dst : Option Tmp)
section
variable {R : Type} (cfg : Cfg) (fin : VV → Ms → Option R)
def plug : Nat → List Fr → Ex → Ms → Option R
  | d, .s b :: r => fun e m => match e with
    | .normal => (match normAt cfg.join (m.base + firstR b) m with
      | some m => exec cfg (runF cfg d) b (plug d r) m
      | none => none)
    | e => plug d r e m
  | d, .b id :: r => fun e m => match e with
    | .exit j => bif Nat.beq j id then plug d r .normal m else plug d r (.exit j) m
    | e => plug d r e m
  | d, .l key c n :: r => fun e m => match e with
    | .normal => (match normAt cfg.keep key m with
      | some m => loopN (normAt cfg.keep key) (exec cfg (runF cfg d) c) (plug d r) n m
      | none => none)
    | e => plug d r e m
  | d, .fn f :: .op ops i dst :: r => fun e m => match e with
    | .exit _ => none
    | _ => match resTmps cfg f m.st, m.saved with
      | some rs, (b, ts) :: s => (fun v m => execOps cfg false ops (runF cfg (d + 1)) (plug (d + 1) r .normal) (ops.drop (i + 1)) (i + 1) [] { m with st := putV m.st dst v }) (resVal rs) { m with st := ⟨ts, m.st.heap⟩, base := b, saved := s }
      | _, _ => none
  | d, .fn f :: _ => fun e m => match e with
    | .exit _ => none
    | _ => match resTmps cfg f m.st, m.saved with
      | some rs, (b, ts) :: s => fin (resVal rs) { m with st := ⟨ts, m.st.heap⟩, base := b, saved := s }
      | _, _ => none
  | _, _ => fun _ _ => none
def LP (d : Nat) (c : Code) (key : Nat) (K : Ex → Ms → Option R) (n : Nat) (m : Ms) : Option R :=
  loopN (normAt cfg.keep key) (exec cfg (runF cfg d) c) K n m
end
def mkT : Nat → Nat → List (Nat × VV) → List VV
  | 0, _, _ => []
  | n + 1, i, [] => VV.un :: mkT n (i + 1) []
  | n + 1, i, (j, v) :: r => bif Nat.beq i j then v :: mkT n (i + 1) r else VV.un :: mkT n (i + 1) ((j, v) :: r)

/-! ### What a run's end gives -/
@[reducible] def ResT : List Ty → Type
  | [] => Unit
  | [t] => El t
  | t :: u :: r => El t × ResT (u :: r)
def takeS (h : Heap) (own : Bool) (e : TypeId) (t : Ty) (c : Cell) : Option (List (El t) × List Nat) :=
  match c with
  | .nilS => some ([], [])
  | .slc e' t' xs => bif own then none else bif Nat.beq e e' then (match castList t' t xs with | some ys => some (ys, []) | none => none) else none
  | .row o lo hi => (match hget h o with
    | some (.row e' t' xs ow) => bif Nat.beq e e' then (match castList t' t xs with
      | some ys => (match own with
        | true => (match ow with | true => some (cut lo hi ys, [o]) | false => none)
        | false => (match ow with | true => none | false => some (cut lo hi ys, [])))
      | none => none) else none
    | _ => none)
  | _ => none
def takeR (h : Heap) : (t : Ty) → List Bool → List Cell → Option (El t × List Bool × List Cell × List Nat)
  | .nil, md, cs => some ((), md, cs, [])
  | .fld a r, md, cs => match takeR h a md cs with
    | some (x, md, cs, ns) => (match takeR h r md cs with
      | some (y, md, cs, ms) => some ((x, y), md, cs, ns ++ ms)
      | none => none)
    | none => none
  | .int k, md, .int j n :: cs => bif decide (k = j) then some (n, md, cs, []) else none
  | .bool, md, .bool b :: cs => some (b, md, cs, [])
  | .str, md, .str s :: cs => some (s, md, cs, [])
  | .slice e t, own :: md, c :: cs => match takeS h own e t c with
    | some (xs, ns) => some (xs, md, cs, ns)
    | none => none
  | _, _, _ => none
def takeV (h : Heap) (t : Ty) (md : List Bool) (x : V1) : Option (El t × List Bool × List Nat) :=
  bif (bif x.agg then t.agg else !t.agg) then (match takeR h t md x.cs with
    | some (y, md, [], ns) => some (y, md, ns)
    | _ => none) else none
def takeVs (h : Heap) : (ts : List Ty) → List Bool → List V1 → Option (ResT ts × List Nat)
  | [], _, [] => some ((), [])
  | [t], md, [x] => match takeV h t md x with
    | some (y, _, ns) => some (y, ns)
    | none => none
  | t :: u :: r, md, x :: xs => match takeV h t md x with
    | some (y, md, ns) => (match takeVs h (u :: r) md xs with
      | some (ys, ms) => some ((y, ys), ns ++ ms)
      | none => none)
    | none => none
  | _, _, _ => none
def finV (ts : List Ty) (md : List Bool) (v : VV) (m : Ms) : Option (ResT ts) :=
  match (match v with
    | .v x => takeVs m.st.heap ts md [x]
    | .tup [_] => none
    | .tup xs => takeVs m.st.heap ts md xs
    | .un => none) with
  | some p => bif distinct p.2 then some p.1 else none
  | none => none
def outR : (t : Ty) → List Bool → El t → List RC × List Bool
  | .nil, md, _ => ([], md)
  | .fld a r, md, x => let p := outR a md x.1; let q := outR r p.2 x.2; (p.1 ++ q.1, q.2)
  | .int k, md, n => ([.c (.int k n)], md)
  | .bool, md, b => ([.c (.bool b)], md)
  | .str, md, s => ([.c (.str s)], md)
  | .slice e t, own :: md, xs => ([match own with | true => .own e t xs | false => .c (.slc e t xs)], md)
  | .slice e t, [], xs => ([.c (.slc e t xs)], [])
def outV : (ts : List Ty) → List Bool → ResT ts → List (Bool × List RC)
  | [], _, _ => []
  | [t], md, x => [(t.agg, (outR t md x).1)]
  | t :: u :: r, md, x => (t.agg, (outR t md x.1).1) :: outV (u :: r) (outR t md x.1).2 x.2

section
variable {P : Program} {cfg : Cfg} {E : Env} {st : St} {saved : List (Nat × List VV)} {a : Act} {S : List (Array Value)} {w w' w0 : World} {K : Keep}
theorem takeS_sound (h : RelE E st saved a S w w0 K) {own : Bool} {e : TypeId} {t : Ty} {c : Cell} {xs : List (El t)} {ns : List Nat} (ho : takeS st.heap own e t c = some (xs, ns)) {v : Value} (hc : CellRel E st.heap w c v) :
    ∃ bs, RcRel E.ok w (match own with | true => .own e t xs | false => .c (.slc e t xs)) v bs ∧ OwnB E st.heap ns bs := by
  unfold takeS at ho
  cases c with
  | nilS =>
    cases ho
    have hv : v = .slice none 0 0 := hc
    subst hv
    cases own with
    | true => exact ⟨[], ⟨none, 0, rfl, Nat.le_refl _, .inl ⟨rfl, rfl⟩⟩, OwnB.nil⟩
    | false => exact ⟨[], ⟨rfl, none, 0, rfl, Nat.le_refl _, fun h => absurd rfl h⟩, OwnB.nil⟩
  | slc e' t' ys =>
    cases own with
    | true => cases ho
    | false =>
      simp only [cond_false] at ho
      cases hb : Nat.beq e e' with
      | false => rw [hb] at ho; cases ho
      | true =>
        rw [hb] at ho
        simp only [cond_true] at ho
        split at ho
        · rename_i zs hz
          cases ho
          obtain ⟨rfl, rfl⟩ := castList_some hz
          exact ⟨[], ⟨rfl, hc⟩, OwnB.nil⟩
        · cases ho
  | row o lo hi =>
    simp only at ho
    cases hg : hget st.heap o with
    | none => rw [hg] at ho; cases ho
    | some b =>
      rw [hg] at ho
      cases b with
      | row e' t' ys ow =>
        simp only at ho
        cases hb : Nat.beq e e' with
        | false => rw [hb] at ho; cases ho
        | true =>
          rw [hb] at ho
          simp only [cond_true] at ho
          split at ho
          · rename_i zs hz
            obtain ⟨rfl, rfl⟩ := castList_some hz
            cases own with
            | true =>
              cases ow with
              | false => cases ho
              | true =>
                simp only at ho
                cases ho
                have := outC_sound h (c := .row o lo hi) (rc := .own e' t' (cut lo hi ys)) (ns := [o]) (by simp [outC, hg]) hc
                rw [Nat.eq_of_beq_eq_true hb]
                exact this
            | false =>
              cases ow with
              | true => cases ho
              | false =>
                simp only at ho
                cases ho
                have := outC_sound h (c := .row o lo hi) (rc := .c (.slc e' t' (cut lo hi ys))) (ns := []) (by simp [outC, hg]) hc
                rw [Nat.eq_of_beq_eq_true hb]
                exact this
          · cases ho
      | _ => cases ho
  | _ => cases ho
theorem RcsRel.append {ok : Nat → Prop} : ∀ {rs rs2 : List RC} {vs vs2 : List Value} {bs bs2 : List Nat}, RcsRel ok w rs vs bs → RcsRel ok w rs2 vs2 bs2 → RcsRel ok w (rs ++ rs2) (vs ++ vs2) (bs ++ bs2)
  | _, _, _, _, _, _, .nil, q => q
  | _, _, _, _, _, _, .cons p r, q => by
    rw [List.append_assoc]
    exact .cons p (RcsRel.append r q)
theorem takeR_sound (h : RelE E st saved a S w w0 K) : ∀ (t : Ty) {md : List Bool} {cs : List Cell} {x : El t} {md' : List Bool} {cs' : List Cell} {ns : List Nat}, takeR st.heap t md cs = some (x, md', cs', ns) →
    ∀ {vs : List Value}, All2 (CellRel E st.heap w) cs vs → (outR t md x).2 = md' ∧ ∃ v1 v2 bs, vs = v1 ++ v2 ∧ RcsRel E.ok w (outR t md x).1 v1 bs ∧ OwnB E st.heap ns bs ∧ All2 (CellRel E st.heap w) cs' v2 := by
  intro t
  induction t with
  | nil =>
    intro md cs x md' cs' ns ho vs hv
    simp only [takeR, Option.some.injEq, Prod.mk.injEq] at ho
    obtain ⟨_, rfl, rfl, rfl⟩ := ho
    exact ⟨rfl, [], vs, [], rfl, .nil, OwnB.nil, hv⟩
  | fld p q ihp ihq =>
    intro md cs x md' cs' ns ho vs hv
    simp only [takeR] at ho
    split at ho
    · rename_i y md1 cs1 ns1 h1
      split at ho
      · rename_i z md2 cs2 ns2 h2
        simp only [Option.some.injEq, Prod.mk.injEq] at ho
        obtain ⟨rfl, rfl, rfl, rfl⟩ := ho
        obtain ⟨e1, v1, v2, bs, rfl, hr, hown, hv2⟩ := ihp h1 hv
        obtain ⟨e2, v3, v4, bs2, rfl, hr2, hown2, hv4⟩ := ihq h2 hv2
        refine ⟨?_, v1 ++ v3, v4, bs ++ bs2, by rw [List.append_assoc], ?_, hown.append hown2, hv4⟩
        · simp only [outR, e1, e2]
        · simp only [outR, e1]
          exact hr.append hr2
      · cases ho
    · cases ho
  | int k =>
    intro md cs x md' cs' ns ho vs hv
    cases hv with
    | nil => cases ho
    | @cons c v cs vs p q =>
      cases c with
      | int j n =>
        simp only [takeR] at ho
        by_cases e : k = j
        · subst e
          simp only [decide_true, cond_true, Option.some.injEq, Prod.mk.injEq] at ho
          obtain ⟨rfl, rfl, rfl, rfl⟩ := ho
          exact ⟨rfl, [v], vs, [], rfl, RcsRel.cons (bs := []) (bs' := []) (show RcRel E.ok w (.c _) v [] from ⟨rfl, p⟩) .nil, OwnB.nil, q⟩
        · simp [e] at ho
      | _ => cases ho
  | bool =>
    intro md cs x md' cs' ns ho vs hv
    cases hv with
    | nil => cases ho
    | @cons c v cs vs p q =>
      cases c with
      | bool b =>
        simp only [takeR, Option.some.injEq, Prod.mk.injEq] at ho
        obtain ⟨rfl, rfl, rfl, rfl⟩ := ho
        exact ⟨rfl, [v], vs, [], rfl, RcsRel.cons (bs := []) (bs' := []) (show RcRel E.ok w (.c _) v [] from ⟨rfl, p⟩) .nil, OwnB.nil, q⟩
      | _ => cases ho
  | str =>
    intro md cs x md' cs' ns ho vs hv
    cases hv with
    | nil => cases ho
    | @cons c v cs vs p q =>
      cases c with
      | str b =>
        simp only [takeR, Option.some.injEq, Prod.mk.injEq] at ho
        obtain ⟨rfl, rfl, rfl, rfl⟩ := ho
        exact ⟨rfl, [v], vs, [], rfl, RcsRel.cons (bs := []) (bs' := []) (show RcRel E.ok w (.c _) v [] from ⟨rfl, p⟩) .nil, OwnB.nil, q⟩
      | _ => cases ho
  | slice e t _ =>
    intro md cs x md' cs' ns ho vs hv
    cases hv with
    | nil => cases md <;> cases ho
    | @cons c v cs vs p q =>
      cases md with
      | nil => cases ho
      | cons own md =>
        simp only [takeR] at ho
        split at ho
        · rename_i xs ns1 h1
          simp only [Option.some.injEq, Prod.mk.injEq] at ho
          obtain ⟨rfl, rfl, rfl, rfl⟩ := ho
          obtain ⟨bs, hr, hown⟩ := takeS_sound h h1 p
          refine ⟨rfl, [v], vs, bs, rfl, ?_, hown, q⟩
          have := RcsRel.cons hr (RcsRel.nil (ok := E.ok) (w := w))
          rwa [List.append_nil] at this
        · cases ho
theorem takeV_sound (h : RelE E st saved a S w w0 K) {t : Ty} {md : List Bool} {x : V1} {y : El t} {md' : List Bool} {ns : List Nat} (ho : takeV st.heap t md x = some (y, md', ns)) {V : Value} (hv : V1Rel E st.heap w x V) :
    (outR t md y).2 = md' ∧ ∃ vs bs, RcsRel E.ok w (outR t md y).1 vs bs ∧ ((t.agg = true ∧ V = .agg vs.toArray) ∨ (t.agg = false ∧ vs = [V])) ∧ OwnB E st.heap ns bs := by
  unfold takeV at ho
  cases hag : (bif x.agg then t.agg else !t.agg) with
  | false => rw [hag] at ho; cases ho
  | true =>
    rw [hag] at ho
    simp only [cond_true] at ho
    split at ho
    · rename_i z md1 ns1 h1
      cases ho
      obtain ⟨us, hus, hV⟩ := hv
      obtain ⟨e1, v1, v2, bs, rfl, hr, hown, hv2⟩ := takeR_sound h t h1 hus
      cases hv2
      rw [List.append_nil] at hV
      refine ⟨e1, v1, bs, hr, ?_, hown⟩
      rcases hV with ⟨h1, h2⟩ | ⟨h1, h2⟩
      · rw [h1] at hag; exact .inl ⟨hag, h2⟩
      · rw [h1] at hag; exact .inr ⟨by simpa using hag, h2⟩
    · cases ho
theorem takeVs_sound (h : RelE E st saved a S w w0 K) : ∀ (ts : List Ty) {md : List Bool} {xs : List V1} {y : ResT ts} {ns : List Nat}, takeVs st.heap ts md xs = some (y, ns) → ∀ {Vs : List Value}, All2 (V1Rel E st.heap w) xs Vs →
    ∃ bs, ResRel E.ok w (outV ts md y) Vs bs ∧ OwnB E st.heap ns bs
  | [], md, [], y, ns, ho, _, .nil => by cases ho; exact ⟨[], .nil, OwnB.nil⟩
  | [t], md, [x], y, ns, ho, _, .cons p .nil => by
    simp only [takeVs] at ho
    split at ho
    · rename_i z md1 ns1 h1
      cases ho
      obtain ⟨_, vs, bs, hr, hV, hown⟩ := takeV_sound h h1 p
      refine ⟨bs, ?_, hown⟩
      have := ResRel.cons hr hV (ResRel.nil (ok := E.ok) (w := w))
      rwa [List.append_nil] at this
    · cases ho
  | t :: u :: r, md, x :: xs, y, ns, ho, _, .cons p q => by
    simp only [takeVs] at ho
    split at ho
    · rename_i z md1 ns1 h1
      split at ho
      · rename_i zs ms h2
        cases ho
        obtain ⟨e1, vs, bs, hr, hV, hown⟩ := takeV_sound h h1 p
        obtain ⟨bs2, hr2, hown2⟩ := takeVs_sound h (u :: r) h2 q
        refine ⟨bs ++ bs2, ?_, hown.append hown2⟩
        simp only [outV, e1]
        exact .cons hr hV hr2
      · cases ho
    · cases ho
  | [], md, _ :: _, y, ns, ho, _, _ => by cases ho
  | [t], md, [], y, ns, ho, _, _ => by cases ho
  | [t], md, _ :: _ :: _, y, ns, ho, _, _ => by cases ho
  | t :: u :: r, md, [], y, ns, ho, _, _ => by cases ho
theorem ret_core {ok : Nat → Prop} (h : RelE E st saved a S w' w ⟨fun b => b < w.heap.size, ok⟩) {out : List (Bool × List RC)} {Vs : List Value} {ns bs : List Nat} (hres : ResRel E.ok w' out Vs bs) (ho : OwnB E st.heap ns bs) (hd : distinct ns = true) {V : Value} (hV : V = tupOf Vs) : Ret ok w w' out V := by
  obtain ⟨ns', hsub, rfl, hown⟩ := ho
  refine ⟨h.os, h.tape, h.out, h.size, fun b hb => (h.kp b hb).2, fun b => E.ok b ∧ w.heap.size ≤ b, Vs, ns'.map (fun n => (E.ρ n).1), fun b hb => ⟨hb.2, h.bo b hb.1⟩, ?_, ?_, ?_, hV⟩
  · refine hres.imp fun _ _ rc _ u bs hrc => hrc.mono fun b hb => ?_
    rcases Nat.lt_or_ge b w.heap.size with hlt | hge
    · exact .inl (h.oz b hb hlt)
    · exact .inr ⟨hb, hge⟩
  · have hnd : ns'.Nodup := hsub.nodup (distinct_nodup hd)
    clear hres hsub
    induction ns' with
    | nil => exact List.nodup_nil
    | cons n ns' ih =>
      obtain ⟨g1, g2⟩ := List.nodup_cons.1 hnd
      refine List.nodup_cons.2 ⟨fun hm => ?_, ih (fun k hk => hown k (List.mem_cons_of_mem _ hk)) g2⟩
      obtain ⟨k, hk, e⟩ := List.mem_map.1 hm
      obtain ⟨a1, a2⟩ := hown n List.mem_cons_self
      obtain ⟨b1, b2⟩ := hown k (List.mem_cons_of_mem _ hk)
      exact h.dj n k (fun e => g1 (e ▸ hk)) a2 b2 a1 b1 e.symm
  · intro b hb
    obtain ⟨n, hn, rfl⟩ := List.mem_map.1 hb
    obtain ⟨a1, a2⟩ := hown n hn
    obtain ⟨d1, d2⟩ := h.dk n a2 a1
    exact ⟨Nat.le_of_not_lt d2, h.bd n (live_isSome a2) a1, fun hk => d1 hk.1⟩
theorem fin_sound {ok : Nat → Prop} (h : RelE E st saved a S w' w ⟨fun b => b < w.heap.size, ok⟩) {ts : List Ty} {md : List Bool} {v : VV} {m : Ms} (hm : m.st = st) {r : ResT ts} (ho : finV ts md v m = some r) {V : Value} (hv : VRel E st.heap w' v V) : Ret ok w w' (outV ts md r) V := by
  subst hm
  have fin : ∀ {xs : List V1} {Vs : List Value} {p : ResT ts × List Nat}, takeVs m.st.heap ts md xs = some p → (bif distinct p.2 then some p.1 else none) = some r → All2 (V1Rel E m.st.heap w') xs Vs → V = tupOf Vs → Ret ok w w' (outV ts md r) V := by
    intro xs Vs p h1 h2 h3 h4
    cases hd : distinct p.2 with
    | false => rw [hd] at h2; cases h2
    | true =>
      rw [hd] at h2
      cases h2
      obtain ⟨bs, hres, hown⟩ := takeVs_sound h ts (y := p.1) (ns := p.2) h1 h3
      exact ret_core h hres hown hd h4
  unfold finV at ho
  cases v with
  | un => cases ho
  | v x =>
    simp only at ho
    split at ho
    · rename_i p hp
      exact fin hp ho (.cons hv .nil) rfl
    · cases ho
  | tup xs =>
    obtain ⟨Vs, hx, rfl⟩ := hv
    cases hx with
    | nil =>
      simp only at ho
      split at ho
      · rename_i p hp
        exact fin hp ho .nil rfl
      · cases ho
    | cons p q => cases q with
      | nil => cases ho
      | cons p' q' =>
        simp only at ho
        split at ho
        · rename_i z hp
          exact fin hp ho (.cons p (.cons p' q')) rfl
        · cases ho

/-! ### Specifications -/
def mkSpec {α : Type} (out : α → List (Bool × List RC)) : (ts : List Ty) → (Args ts → Option α) → Spec
  | [], G => .body (G ()) out
  | t :: ts, G => .imm t fun x => mkSpec out ts fun r => G (x, r)
def Enters (P : Program) (f : FuncId) : Prop := ∀ args w, (callFunc f args).run P w = .ok (.enter f args) w
theorem enters_of {f : FuncId} {fn : Func} {c : Code} (hf : P.funcs[f]? = some fn) (hname : (fn.name == "runtime.NumGoroutine") = false) (hb : fn.body = some c) : Enters P f := by
  intro args w
  have h1 : fn.name ≠ "runtime.NumGoroutine" := by simpa using hname
  simp [callFunc, hf, h1, hb]
theorem specGood_run (hG : Ok P cfg) (hm : P.follows .mixedOrders = true) (hfn : ∀ f fn, look cfg.inl f = some fn → P.funcs[f]? = some fn) {d : Nat} {f : FuncId} (ts rs : List Ty) (md : List Bool) (G : Args ts → Option (ResT rs))
    (hrun : ∀ x, runF cfg d f (argsV ts x) (fun v m => finV rs md v m) ms0 = G x) : SpecGood P f (mkSpec (outV rs md) ts G) := by
  intro ok w hok
  have key : ∀ (ts' : List Ty) (G' : Args ts' → Option (ResT rs)) (pre : List V1) (preV : List Value), (∀ x, runF cfg d f (pre ++ argsV ts' x) (fun v m => finV rs md v m) ms0 = G' x) → All2 (V1Rel (env0 ok) ms0.st.heap w) pre preV →
      SpecOk P f ok w (mkSpec (outV rs md) ts' G') preV := by
    intro ts'
    induction ts' with
    | nil =>
      intro G' pre preV h1 h2 a ha
      have h3 := h1 ()
      rw [ha] at h3
      simp only [argsV, List.append_nil] at h3
      obtain ⟨_, h⟩ := run_ok hG hm hfn d h3
      exact h (start_rel hok) h2 _ fun v V m' w' E' k1 k2 k3 => ⟨V, rfl, fin_sound k2 rfl k1 k3⟩
    | cons t ts' ih =>
      intro G' pre preV h1 h2 x v hx
      refine ih _ (pre ++ [argV t x]) (preV ++ [v]) (fun y => ?_) (h2.append (.cons (arg_rel hx) .nil))
      rw [List.append_assoc]
      exact h1 (x, y)
  exact key ts G [] [] (fun x => by simpa using hrun x) .nil

/-! ### A table of what is known -/
def TabL (P : Program) (l : List (TypeId × Ty)) : Prop := ∀ T t, look l T = some t → TyOk P t T
def EqL (P : Program) (l : List TypeId) : Prop := ∀ T, l.any (Nat.beq T) = true → P.stoodInHeld T = false ∧ P.eqGuardType P.depth T = false
def InlL (P : Program) (l : List (FuncId × Func)) : Prop := ∀ f fn, look l f = some fn → P.funcs[f]? = some fn ∧ Enters P f
def SpecL (P : Program) (l : List (FuncId × Spec)) : Prop := ∀ f s, look l f = some s → SpecGood P f s ∧ Enters P f
theorem look_cons {α : Type _} {l : List (Nat × α)} {n m : Nat} {a b : α} (h : look ((m, a) :: l) n = some b) : (m = n ∧ a = b) ∨ look l n = some b := by
  simp only [look] at h
  cases hb : Nat.beq m n with
  | true => rw [hb] at h; cases h; exact .inl ⟨Nat.eq_of_beq_eq_true hb, rfl⟩
  | false => rw [hb] at h; exact .inr h
theorem tab0 : TabL P [] := fun _ _ h => by cases h
theorem tab1 {T : TypeId} {t : Ty} {l : List (TypeId × Ty)} (h : TyOk P t T) (k : TabL P l) : TabL P ((T, t) :: l) := fun T' t' h' => by
  rcases look_cons h' with ⟨rfl, rfl⟩ | h'
  · exact h
  · exact k _ _ h'
theorem eq0 : EqL P [] := fun _ h => by cases h
theorem eq1 {T : TypeId} {l : List TypeId} (h : P.stoodInHeld T = false ∧ P.eqGuardType P.depth T = false) (k : EqL P l) : EqL P (T :: l) := fun T' h' => by
  simp only [List.any_cons, Bool.or_eq_true] at h'
  rcases h' with h' | h'
  · rw [Nat.eq_of_beq_eq_true h']; exact h
  · exact k _ h'
theorem inl0 : InlL P [] := fun _ _ h => by cases h
theorem inl1 {f : FuncId} {fn : Func} {l : List (FuncId × Func)} (h : P.funcs[f]? = some fn ∧ Enters P f) (k : InlL P l) : InlL P ((f, fn) :: l) := fun f' fn' h' => by
  rcases look_cons h' with ⟨rfl, rfl⟩ | h'
  · exact h
  · exact k _ _ h'
theorem spec0 : SpecL P [] := fun _ _ h => by cases h
theorem spec1 {f : FuncId} {s : Spec} {l : List (FuncId × Spec)} (h : SpecGood P f s ∧ Enters P f) (k : SpecL P l) : SpecL P ((f, s) :: l) := fun f' s' h' => by
  rcases look_cons h' with ⟨rfl, rfl⟩ | h'
  · exact h
  · exact k _ _ h'
theorem ok_of {cfg : Cfg} (h1 : EqL P cfg.eqs) (h2 : TabL P cfg.tab) (h3 : InlL P cfg.inl) (h4 : SpecL P cfg.spec) : Ok P cfg :=
  { eqs := h1, tab := h2, spec := fun f s h => (h4 f s h).1, enter := fun f h => by
      rcases h with h | h
      · obtain ⟨s, hs⟩ := Option.isSome_iff_exists.1 h
        exact (h4 f s hs).2
      · obtain ⟨s, hs⟩ := Option.isSome_iff_exists.1 h
        exact (h3 f s hs).2 }
end
end Go.Vm
end

section
namespace Go.Vm
open Go
def ImmArgs (ok : Nat → Prop) (w : World) : (ts : List Ty) → Args ts → List Value → Prop
  | [], _, vs => vs = []
  | t :: ts, x, vs => ∃ v r, vs = v :: r ∧ ImmArg ok w t x.1 v ∧ ImmArgs ok w ts x.2 r
section
variable {H : Type} {enc : TypeId × Value → H} {P : Program} {W W' : World} {base : Nat}
theorem args_imm {sp : Nat → Bool} {held : Bool} : ∀ (ts : List Ty) {Ts : List TypeId} {vs : List Value} {ds : List (DataW H)} {ps : List MemPlace}, TysOk P ts Ts → DataW.TrodAll enc P W 0 sp held Ts vs ds ps →
    (∀ (j : Nat) T v, Ts[j]? = some T → vs[j]? = some v → Value.okWide P W .any base T v) →
    ∃ x : Args ts, ImmArgs (okAll W) W ts x vs ∧ ArgsWf ts x ∧ ArgsDR ts x ds
  | [], [], [], [], ps, _, h, _ => ⟨(), rfl, trivial, rfl⟩
  | t :: ts, T :: Ts, v :: vs, d :: ds, ps, hok, h, hw => by
    obtain ⟨p, q, ⟨n, h1⟩, h2, rfl⟩ := h
    obtain ⟨ho, hp, hoks⟩ := hok
    obtain ⟨x, hi, hwf, hd⟩ := (read_sound t hp).1 T n _ _ ho h1
    obtain ⟨xs, hx, hwfs, hds⟩ := args_imm ts hoks h2 (fun j T v h3 h4 => hw (j + 1) T v (by simpa using h3) (by simpa using h4))
    exact ⟨(x, xs), ⟨v, vs, rfl, arg_imm ho (hw 0 T v rfl rfl) hi, hx⟩, ⟨hwf, hwfs⟩, d, ds, rfl, hd, hds⟩
  | [], _ :: _, _, _, _, hok, _, _ => hok.elim
  | _ :: _, [], _, _, _, hok, _, _ => hok.elim
  | [], [], _ :: _, _, _, _, h, _ => by cases ‹List (DataW H)› <;> exact h.elim
  | [], [], [], _ :: _, _, _, h, _ => h.elim
  | _ :: _, _ :: _, [], _, _, _, h, _ => h.elim
  | _ :: _, _ :: _, _ :: _, [], _, _, h, _ => h.elim
theorem specOk_args {f : FuncId} {ok : Nat → Prop} {w : World} {α : Type} {out : α → List (Bool × List RC)} : ∀ (ts : List Ty) (G : Args ts → Option α) (pre : List Value), SpecOk P f ok w (mkSpec out ts G) pre →
    ∀ (x : Args ts) (vs : List Value), ImmArgs ok w ts x vs → ∀ a, G x = some a → Calls P f (pre ++ vs).toArray w fun e w' => ∃ V, e = .returned V ∧ Ret ok w w' (out a) V
  | [], G, pre, h, x, vs, hx, a, ha => by
    have : vs = [] := hx
    subst this
    rw [List.append_nil]
    exact h a ha
  | t :: ts, G, pre, h, x, vs, hx, a, ha => by
    obtain ⟨v, r, rfl, h1, h2⟩ := hx
    have := specOk_args ts _ (pre ++ [v]) (h x.1 v h1) x.2 r h2 a ha
    rwa [List.append_assoc] at this
theorem law_contract {f : FuncId} {fn : Func} {s : ChangeSpec} {fresh handsOn again : Bool} {T : TypeId} (ts : List Ty)
    (hts : TysOk P ts fn.params.toList) (hl : laidOutB P = true) (hp : fn.params.toList.all (fun t => P.readableRec t && decide (t < P.types.size)) = true) (hv : s.vars = []) (hr : fn.resultTypes = #[T]) (hT : P.underlying T = some .bool)
    (hsp : ∀ ds : List (DataW H), ds.length = ts.length → s.fn H ds = { results := [.lit (.bool true)], args := ds })
    (G : Nat → Args ts → Option Bool) (hs : ∀ k, SpecGood P f (mkSpec (outV [.bool] []) ts (G k))) (hG : ∀ x : Args ts, ArgsWf ts x → ∃ k, G k x = some true)
    (args : Array Value) (ds gs : List (DataW H)) (before : List MemPlace)
    (hval : ∀ (j : Nat) t v, fn.params[j]? = some t → args[j]? = some v → Value.okWide P W .any base t v)
    (hW : DataW.Whole enc P fn.params.toList s.vars false W args.toList ds gs before) :
    Calls P f args W fun e W' => ∃ v, e = .returned v ∧ s.post enc P fn false fresh handsOn again W args v W' := by
  have hW' := hW
  obtain ⟨p, q, hA, hV, rfl, hfz, hnd⟩ := hW
  obtain ⟨x, hx, hwf, hd⟩ := args_imm ts hts hA (fun j t v h1 h2 => hval j t v (by simpa using h1) (by simpa using h2))
  obtain ⟨k, hk⟩ := hG x hwf
  have hcalls := specOk_args ts (G k) [] (hs k (okAll W) W (fun b hb => hb)) x _ hx true hk
  rw [List.nil_append, Array.toArray_toList] at hcalls
  have hlen : ∀ (ts : List Ty) (x : Args ts) (ds : List (DataW H)), ArgsDR ts x ds → ds.length = ts.length := by
    intro ts
    induction ts with
    | nil => intro x ds h; have : ds = [] := h; subst this; rfl
    | cons t ts ih => intro x ds h; obtain ⟨d, ds', rfl, _, h2⟩ := h; simp [ih _ _ h2]
  have hg : gs = [] := by
    rw [hv] at hV
    cases gs with
    | nil => rfl
    | cons _ _ => exact hV.elim
  subst hg
  refine hcalls.mono fun e W' ⟨V, he, hret⟩ => ⟨V, he, ?_⟩
  obtain ⟨good, Vs, bs, _, hres, _, _, hV'⟩ := hret.res
  refine law_post hl (fun t ht => ?_) hv hr hT (by rw [List.append_nil]; exact hsp ds (hlen _ _ _ hd)) hW' hret.os hret.put hret.same ?_
  · have := List.all_eq_true.1 hp t ht
    simpa using this
  · have hres' : ResRel (fun b => okAll W b ∨ good b) W' [(false, [RC.c (.bool true)])] Vs bs := hres
    cases hres' with
    | cons h1 h2 h3 =>
      cases h3
      cases h1 with
      | cons h4 h5 =>
        cases h5
        obtain ⟨_, h6⟩ := h4
        have h7 : _ = Value.bool true := h6
        rcases h2 with ⟨h8, _⟩ | ⟨_, h8⟩
        · cases h8
        · simp only [List.cons.injEq, and_true] at h8
          rw [hV', ← h8, h7]; rfl
end
end Go.Vm
end
