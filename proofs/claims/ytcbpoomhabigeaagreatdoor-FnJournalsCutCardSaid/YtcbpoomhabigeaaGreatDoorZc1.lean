/- The machine: a typed interpreter of the model's code, and its soundness (part 2). -/
import Derived.Test.YtcbpoomhabigeaaGreatDoorZc0
import Derived.MapKept
import Derived.Orders
section
set_option linter.unusedVariables false
section
namespace Go.Vm
open Go
section
variable {P : Program} {cfg : Cfg} {E : Env} {st : St} {saved : List (Nat × List VV)} {a : Act} {S : List (Array Value)} {w w0 : World} {K : Keep}
 {R : Type} {Kk : List Upd → VV → List Loc → Option R} {l : List Loc} {r : R} {o : Oper}
theorem El1 {t t' : Ty} {xs : List (Int × El t)} {ys : List (Int × El t')} (h : E99 t t' xs = some ys) : ∃ e : t = t', ys = e ▸ xs := by
 unfold E99 at h
 split at h
 ·rename_i e
  cases h
  exact ⟨e, rfl⟩
 ·cases h
theorem Cp3 {T : TypeId} {k : Ty → RP} (hrun : (Cu5 cfg T k).run st Kk l = some r) : ∃ t, look cfg.maps T = some t ∧ (k t).run st Kk l = some r := by
 unfold Cu5 at hrun
 split at hrun
 ·exact ⟨_, ‹_›, hrun⟩
 ·cases hrun
theorem Dz4 (x : Operand) (k : Int → RP) (hrun : (Ej2 x k).run st Kk l = some r) :
  ∃ n l', (k n).run st Kk l' = some r ∧ (∀ {E saved a S w w0 K}, RelE E st saved a S w w0 K → a.eval x = .int .i64 n) := by
 obtain ⟨i, n, l', h1, h2⟩ := At7 x _ hrun
 by_cases e : i = .i64
 ·subst e
  exact ⟨n, l', by simpa using h1, h2⟩
 ·simp [e, RP.run] at h1
theorem Dz5 {t : Ty} {c : Cell} {k : Nat → List (Int × El t) → RP} (hrun : (Dy3 t c k).run st Kk l = some r) :
  ∃ q xs l', c = .mp q ∧ B5 st.heap q = some (.mp t xs) ∧ (k q xs).run st Kk l' = some r := by
 unfold Dy3 at hrun
 split at hrun
 ·rename_i q
  simp only [RP.run] at hrun
  split at hrun
  ·rename_i t' xs hg
   split at hrun
   ·rename_i ys hy
    obtain ⟨rfl, rfl⟩ := El1 hy
    exact ⟨q, _, _, rfl, hg, hrun⟩
   ·cases hrun
  ·cases hrun
 ·cases hrun
theorem Cu9 {ok : Nat → Prop} {t : Ty} {x : El t} {v : Value} (h : ImmV E.ok w t x v) {hp : F6} : V1Rel E hp w ⟨t.agg, D7 t x⟩ v := by
 obtain ⟨cs, h1, h2⟩ := h
 exact ⟨cs, T0 h1, h2⟩
theorem F67 {t : Ty} {T : TypeId} (hok : TyOk P t T) (ok : Nat → Prop) (w : World) : ∃ z, (∀ w, (zeroValue T).run P w = .ok z w) ∧ ImmV ok w t (Q1 t) z := by
 obtain ⟨i, hi, hs, hz, hb⟩ := hok.base.info
 refine ⟨_, fun w => by simp only [zeroValue, typeInfo, Sem.run_bind, run_program, Result.andThen_ok, hi, Sem.run_pure, hz]; rfl, G6 t, A51 t, ?_⟩
 cases t <;> first | exact .inl ⟨rfl, rfl⟩ | exact .inr ⟨rfl, rfl⟩
abbrev Gr9 (ok : Nat → Prop) (w : World) (t : Ty) (p : Int × El t) (e : MapEntry) : Prop := e.key = .int .i64 p.1 ∧ ImmV ok w t p.2 e.val
theorem Cv0 {ok : Nat → Prop} {t : Ty} (d : El t) (n : Int) : ∀ {xs : List (Int × El t)} {es : List MapEntry} (i : Nat), All2 (Gr9 ok w t) xs es →
  (Instr.findNow (.int .i64) (.int .i64 n) es i = some none ∧ Do4 xs n = false ∧ Cg1 d xs n = d ∧ ∀ y, Db7 xs n y = xs ++ [(n, y)]) ∨
  ∃ j v, Instr.findNow (.int .i64) (.int .i64 n) es i = some (some (i + j, v)) ∧ Do4 xs n = true ∧ ImmV ok w t (Cg1 d xs n) v ∧ (∃ e, es[j]? = some e ∧ e.key = .int .i64 n) ∧ ∀ y, Db7 xs n y = xs.set j (n, y) := by
 intro xs es i h
 induction h generalizing i with
 | nil => exact .inl ⟨rfl, rfl, rfl, fun _ => rfl⟩
 | @cons p e xs es hp _ ih =>
  obtain ⟨m, x⟩ := p
  obtain ⟨hk, hv⟩ := hp
  have hsame : Instr.sameNow (.int .i64) (.int .i64 n) e.key = some (n == m) := by rw [hk]; simp [Instr.sameNow]
  cases hb : (n == m) with
  | true =>
   have e1 : n = m := by simpa using hb
   subst e1
   right
   exact ⟨0, e.val, by simp [Instr.findNow, hsame], by simp [Do4], by simpa [Cg1] using hv, ⟨e, rfl, hk⟩, fun y => by simp [Db7]⟩
  | false =>
   have e1 : (m == n) = false := by
    have : n ≠ m := by simpa using hb
    simpa using this.symm
   rw [hb] at hsame
   rcases ih (i + 1) with ⟨h1, h2, h3, h4⟩ | ⟨j, v, h1, h2, h3, h4, h5⟩
   ·exact .inl ⟨by simp [Instr.findNow, hsame, h1], by simp [Do4, e1, h2], by simp [Cg1, e1, h3], fun y => by simp [Db7, e1, h4]⟩
   ·refine .inr ⟨j + 1, v, by simp [Instr.findNow, hsame, h1]; omega, by simp [Do4, e1, h2], by simpa [Cg1, e1] using h3, by simpa using h4, fun y => by simp [Db7, e1, h5]⟩
theorem Do8 {k : TypeId} (hk : P.underlying k = some (.int .i64)) (b : Bool) (n : Int) (w : World) (m : Nat) : (Instr.checkKey b (m + 1) k (.int .i64 n)).run P w = .ok () w := by
 simp [Instr.checkKey, underlying, hk]
theorem A14 {k : TypeId} (hk : P.underlying k = some (.int .i64)) (b : Bool) (n : Int) (w : World) : (Instr.checkKey b 10000 k (.int .i64 n)).run P w = .ok () w :=
 Do8 hk b n w 9999
theorem Fv9 (hG : Good P cfg) (h : RelE E st saved a S w w0 K) {T : TypeId} {nm : Nat} (ho : o.op = .makeMap T none)
  (hrun : (Cu5 cfg T fun t => X0 nm (.done [.o nm (.mp t [])] (one (.mp nm)))).run st Kk l = some r) : Goes P o a w st saved S w0 K Kk r := by
 obtain ⟨t, hT, h1⟩ := Cp3 hrun
 obtain ⟨hn, l1, hK⟩ := V9 h1
 have hr := h.new hn (.mp t []) (.map #[] 0) ⟨.inl rfl, by
  have e1 : (E.new nm w.heap.size).ρ nm = (w.heap.size, 0) := by simp [Env.new]
  rw [e1]
  exact ⟨#[], 0, X5 _ _, .nil⟩⟩
 have hc : CellRel (E.new nm w.heap.size) (hset st.heap nm (.mp t [])) (w.alloc (.map #[] 0)) (.mp nm) (.map (some w.heap.size)) :=
  ⟨t, by rw [J3, if_pos rfl]; rfl, by simp [Env.new]⟩
 refine ⟨_, _, l1, hK, fun Q next hnx => OpRes.wp ⟨_, _, _, .inl ?_, hr, VRel.one hc⟩ Q next hnx⟩
 simp [execOp, ho, Instr.makeMap]
theorem F68 (hG : Good P cfg) (h : RelE E st saved a S w w0 K) {T : TypeId} {x k : Operand} {ok : Bool} (ho : o.op = .lookup T x k ok)
  (hrun : (Cu5 cfg T fun t => rdC x fun c => Ej2 k fun n => Dy3 t c fun _ xs => Fa0 t xs n ok).run st Kk l = some r) : Goes P o a w st saved S w0 K Kk r := by
 obtain ⟨t, hT, h1⟩ := Cp3 hrun
 obtain ⟨c, l1, h2, hc⟩ := Y4 x _ h1
 obtain ⟨n, l2, h3, hn⟩ := Dz4 k _ h2
 obtain ⟨q, xs, l3, rfl, hg, h4⟩ := Dz5 h3
 obtain ⟨kT, eT, hu, hk, hok⟩ := (hG.map T t hT).under
 obtain ⟨t2, _, hx⟩ := hc h
 have hn := hn h
 obtain ⟨hh, es, clock, hb, hes⟩ := h.ob q _ hg
 obtain ⟨z, hz, hzi⟩ := F67 hok E.ok w
 have hgo := MapKept.run_getObj_map (P := P) hb
 have fin : ∀ v, ((Instr.lookup T (.map (some (E.ρ q).1)) (.int .i64 n) ok).run P w = .ok (if ok then .tuple #[v, .bool (Do4 xs n)] else v) w) → ImmV E.ok w t (Cg1 (Q1 t) xs n) v → Goes P o a w st saved S w0 K Kk r := by
  intro v hl hv
  unfold Fa0 at h4
  cases ok with
  | true =>
   refine .pure (V := .tuple #[v, .bool (Do4 xs n)]) h h4 (by simp [execOp, ho, hx, hn, hl]) ⟨[v, .bool (Do4 xs n)], .cons (Cu9 (ok := E.ok) hv) (.cons (V1Rel.mkOne rfl) .nil), rfl⟩
  | false => exact .pure (V := v) h h4 (by simp [execOp, ho, hx, hn, hl]) (Cu9 (ok := E.ok) hv)
 rcases Cv0 (ok := E.ok) (w := w) (Q1 t) n 0 hes with ⟨e1, e2, e3, _⟩ | ⟨j, v, e1, e2, e3, _⟩
 ·refine fin z ?_ (by rw [e3]; exact hzi)
  rw [e2]
  cases ok <;> simp [Instr.lookup, underlying, hu, hgo, A14 hk, Instr.findKey, hk, e1, hz]
 ·refine fin v ?_ e3
  rw [e2]
  cases ok <;> simp [Instr.lookup, underlying, hu, hgo, A14 hk, Instr.findKey, hk, e1]
theorem F69 {g : Nat} {es : Array MapEntry} {clock : Nat} (hb : w.heap[g]? = some (.map es clock)) (es' : Array MapEntry) (clock' : Nat) : Puts g w { w with heap := w.heap.setIfInBounds g (.map es' clock') } := by
 have hsame : ∀ b, b ≠ g → ({ w with heap := w.heap.setIfInBounds g (.map es' clock') } : World).heap[b]? = w.heap[b]? := fun b hb' => by
  simp [Ne.symm hb']
 have hnew : ({ w with heap := w.heap.setIfInBounds g (.map es' clock') } : World).heap[g]? = some (.map es' clock') := by
  have : g < w.heap.size := by
   rcases Nat.lt_or_ge g w.heap.size with h | h
   ·exact h
   ·rw [Array.getElem?_eq_none h] at hb; cases hb
  simp [this]
 refine ⟨by simp, rfl, rfl, rfl, hsame, fun b m hr => ?_, fun x => ?_, fun x => ?_⟩
 ·obtain ⟨cs, e, fr, h1, h2⟩ := hr
  by_cases e1 : b = g
  ·subst e1; rw [hb] at h1; cases h1
  ·exact ⟨cs, e, fr, (hsame b e1).trans h1, h2⟩
 ·by_cases e1 : x.block = g
  ·simp only [World.frozen?, e1, hnew, hb]
  ·exact A12 (hsame _ e1)
 ·by_cases e1 : x.block = g
  ·simp only [World.cell?, e1, hnew, hb]
  ·rw [T9 (hsame _ e1)]
theorem El2 {es : Array MapEntry} {j : Nat} {e : MapEntry} {f : MapEntry → MapEntry} (h : es.toList[j]? = some e) : (es.modify j f).toList = es.toList.set j (f e) := by
 apply List.ext_getElem?
 intro i
 rw [List.getElem?_set]
 have h' : es[j]? = some e := by simpa using h
 by_cases hi : j = i
 ·subst hi
  have hlt : j < es.size := by
   rcases Nat.lt_or_ge j es.size with h | h
   ·exact h
   ·rw [Array.getElem?_eq_none h] at h'; cases h'
  have e1 : es[j] = e := by simpa [Array.getElem?_eq_getElem hlt] using h'
  simp [hlt, e1]
 ·simp [hi]
theorem El3 (hG : Good P cfg) (h : RelE E st saved a S w w0 K) {T : TypeId} {m k v : Operand} (ho : o.op = .mapUpdate T m k v)
  (hrun : (Cu5 cfg T fun t => rdC m fun c => Ej2 k fun n => rd1 v fun v => bif (bif v.agg then t.agg else !t.agg) then Dy3 t c fun o xs => Bv4 t v.cs fun y u => p0 (u ++ [.o o (.mp t (Db7 xs n y))]) VV.un else .fail).run st Kk l = some r) :
  Goes P o a w st saved S w0 K Kk r := by
 obtain ⟨t, hT, h1⟩ := Cp3 hrun
 obtain ⟨c, l1, h2, hc⟩ := Y4 m _ h1
 obtain ⟨n, l2, h3, hn⟩ := Dz4 k _ h2
 obtain ⟨x, l3, h4, hx⟩ := Ba4 v _ h3
 cases hag : (bif x.agg then t.agg else !t.agg) with
 | false => rw [hag] at h4; cases h4
 | true =>
  rw [hag] at h4
  simp only [cond_true] at h4
  obtain ⟨q, xs, l4, rfl, hg, h5⟩ := Dz5 h4
  obtain ⟨y, u, l5, h6, hfz, _, hy⟩ := Bw2 h5
  obtain ⟨hd, hK⟩ := Aj3 h6
  rw [List.map_append] at hd
  obtain ⟨hd1, _, hdj⟩ := H5 hd
  have hnq : q ∉ u.map Upd.name := fun hm => hdj q hm (by simp [Upd.name])
  obtain ⟨kT, eT, hu, hk, hok⟩ := (hG.map T t hT).under
  obtain ⟨t2, _, hcx⟩ := hc h
  have hn := hn h
  have hx := hx h
  obtain ⟨hh, es, clock, hb, hes⟩ := h.ob q _ hg
  obtain ⟨us, hus, hV⟩ := hx
  have hyi := hy h hus
  obtain ⟨E1, r1, e1, e2, e3⟩ := h.frzs u hfz hd1
  have hg1 : B5 (st.upds u).heap q = some (.mp t xs) := by rw [J5 u st q hnq]; exact hg
  have hlive : E5 (st.upds u).heap q := by unfold E5; rw [hg1]; trivial
  have hh1 : E1.has q := by rw [e2]; exact hh
  have eρ : E1.ρ q = E.ρ q := by rw [e1]
  have hval : ImmV E1.ok w t y (a.eval v) := ⟨us, hyi.mono (fun b hb => (e3 b).1 hb) (fun _ _ => rfl), by
   rcases hV with ⟨g1, g2⟩ | ⟨g1, g2⟩
   ·rw [g1] at hag; exact .inl ⟨hag, g2⟩
   ·rw [g1] at hag; exact .inr ⟨by simpa using hag, g2⟩⟩
  have hes1 : All2 (Gr9 E1.ok w t) xs es.toList := hes.mono fun _ _ p => ⟨p.1, p.2.mono (fun b hb => (e3 b).1 (.inl hb)) (fun _ _ => rfl)⟩
  have fin : ∀ (es' : Array MapEntry) (clock' : Nat), All2 (Gr9 E1.ok w t) (Db7 xs n y) es'.toList → (Instr.mapUpdate T (.map (some (E.ρ q).1)) (.int .i64 n) (a.eval v)).run P w = .ok () { w with heap := w.heap.setIfInBounds (E.ρ q).1 (.map es' clock') } → Goes P o a w st saved S w0 K Kk r := by
   intro es' clock' hrel hex
   have hput := F69 hb es' clock'
   have hr := r1.write (ob' := .mp t (Db7 xs n y)) hg1 hlive hh1 rfl (by unfold E5; rw [A9, if_pos rfl]; trivial) (by rw [eρ]; exact hput) (fun {h'} k => ⟨hh1, es', clock', by
    rw [eρ]
    have : (E.ρ q).1 < w.heap.size := by
     rcases Nat.lt_or_ge (E.ρ q).1 w.heap.size with h | h
     ·exact h
     ·rw [Array.getElem?_eq_none h] at hb; cases hb
    simp [this], hrel.mono fun _ _ p => ⟨p.1, p.2.mono k.ok k.same⟩⟩)
   have hrr : RelE E1 (st.upds (u ++ [.o q (.mp t (Db7 xs n y))])) saved a S { w with heap := w.heap.setIfInBounds (E.ρ q).1 (.map es' clock') } w0 K := by rw [L8]; exact hr
   have hx2 : (execOp a.eval o).run P w = .ok .skip { w with heap := w.heap.setIfInBounds (E.ρ q).1 (.map es' clock') } := by
    simp [execOp, ho, hcx, hn, hex]
   exact ⟨_, _, _, hK, fun Q next hnx => OpRes.wp ⟨undef, _, E1, .inr ⟨hx2, rfl⟩, hrr, (show VRel _ _ _ .un undef from trivial)⟩ Q next hnx⟩
  have hgo := MapKept.run_getObj_map (P := P) hb
  rcases Cv0 (ok := E1.ok) (w := w) (Q1 t) n 0 hes1 with ⟨f1, _, _, f4⟩ | ⟨j, v', f1, _, _, ⟨e, f4, f5⟩, f6⟩
  ·refine fin (es.push { key := .int .i64 n, val := a.eval v, born := clock }) (clock + 1) ?_ ?_
   ·rw [f4, Array.toList_push]
    exact hes1.append (.cons ⟨rfl, hval⟩ .nil)
   ·simp [Instr.mapUpdate, underlying, hu, hgo, A14 hk, Instr.findKey, hk, f1, MapKept.run_setObj_map _ hb]
  ·rw [Nat.zero_add] at f1
   refine fin (es.modify j fun e => { e with key := .int .i64 n, val := a.eval v }) clock ?_ ?_
   ·rw [f6, El2 f4]
    exact hes1.set ⟨rfl, hval⟩ j
   ·have f4' : es[j]? = some e := by simpa using f4
    simp [Instr.mapUpdate, underlying, hu, hgo, A14 hk, Instr.findKey, hk, f1, MapKept.run_setObj_map _ hb, f4', f5, Instr.keyThatStays, Instr.sameBits]
theorem Aa4 {b : Bool} {x : RP} (h : (RP.ite b x .fail).run st Kk l = some r) : b = true ∧ x.run st Kk l = some r := by
 cases b with
 | true => exact ⟨rfl, h⟩
 | false => cases h
theorem F70 (hG : Good P cfg) (h : RelE E st saved a S w w0 K) {T : TypeId} {x hi mx : Operand} {lo : Option Operand} (ho : o.op = .slice T x lo (some hi) (some mx))
  (hrun : (Ah4 cfg T fun _ _ => rdC x fun c => Db9 lo fun a => rdI hi fun _ b => rdI mx fun _ m => Dc3 c a b m).run st Kk l = some r) : Goes P o a w st saved S w0 K Kk r := by
 obtain ⟨e, t, hT, h0⟩ := Aa3 hrun
 obtain ⟨c, l1, h1, hc⟩ := Y4 x _ h0
 obtain ⟨p, l2, h2, kl, hp⟩ := Cp1 lo _ h1
 obtain ⟨kh, q, l3, h3, hq⟩ := At7 hi _ h2
 obtain ⟨km, m, l4, h4, hm⟩ := At7 mx _ h3
 have hok := hG.tab T _ hT
 have hc := hc h
 have hp := hp h
 have hq := hq h
 have hm := hm h
 unfold Dc3 at h4
 split at h4
 ·rename_i q' lo' hi' _
  simp only [RP.run] at h4
  split at h4
  ·rename_i e' t' xs own hg
   have hs : hsh st.heap q' = some (.row e' t' xs.length) := by simp [hsh, hg, H7]
   simp only [CellRel, hs] at hc
   obtain ⟨hcut, A, cp, hv, hle, hx⟩ := hc
   have hcut' : Aa2 lo' none xs.length := by cases lo' <;> cases hi' <;> simp only [Aa2] at * <;> omega
   have hcl := c8 hcut' hle
   obtain ⟨b1, h4⟩ := Aa4 h4
   obtain ⟨b2, h4⟩ := Aa4 h4
   obtain ⟨b3, h4⟩ := Aa4 h4
   obtain ⟨b4, h4⟩ := Aa4 h4
   simp only [decide_eq_true_eq] at b1 b2 b3 b4
   have hm1 : m ≤ (cp : Int) := Int.le_trans b2 (Int.ofNat_le.2 hcl)
   have fin : ∀ {l5 : List Loc} (lw : Nat), (Instr.sliceBounds true (G1 lo' hi' xs.length) cp (p.map (Value.int kl)) (some (.int kh q)) (some (.int km m))).run P w = .ok (lw, q.toNat, m.toNat) w → Kk [] VV.un l5 = some r → Goes P o a w st saved S w0 K Kk r := by
    intro l5 lw hb hK
    refine .pure (V := .slice (if m.toNat = lw then A else A.map (·.add (lw * t.sz))) (q.toNat - lw) (m.toNat - lw)) h hK ?_ trivial
    simp [execOp, ho, hv, hp, hq, hm, Instr.sliceAt, underlying, hok.2.1, Instr.slice, hb, TyOk.size hok.2.2 w]
   have hqm : q ≤ ((m.toNat : Nat) : Int) := by omega
   cases p with
   | none =>
    refine fin 0 ?_ h4
    simp [Instr.sliceBounds, run_sliceBound (P := P) w km m cp _ b1 hm1, run_sliceBound (P := P) w kh q m.toNat _ b3 hqm]
   | some p =>
    simp only at h4
    obtain ⟨b5, h4⟩ := Aa4 h4
    obtain ⟨b6, h4⟩ := Aa4 h4
    simp only [decide_eq_true_eq] at b5 b6
    refine fin p.toNat ?_ h4
    simp [Instr.sliceBounds, run_sliceBound (P := P) w km m cp _ b1 hm1, run_sliceBound (P := P) w kh q m.toNat _ b3 hqm, run_sliceBound (P := P) w kl p q.toNat _ b5 (by omega)]
  ·cases h4
 ·cases h4
theorem Gm5 (hG : Good P cfg) (h : RelE E st saved a S w w0 K) {c : Call} {nm : Nat} (ho : o.op = .call c) (hc : c.callee = .builtin .clear)
  (hrun : (w6 c.args.toList fun vs => t6 cfg nm .clear c.argTypes.toList vs).run st Kk l = some r) : Goes P o a w st saved S w0 K Kk r := by
 obtain ⟨vs, l1, h1, h2⟩ := Z0 _ _ _ hrun
 have hv := h2 h
 unfold t6 at h1
 split at h1 <;> first | contradiction | skip
 rename_i T d _ hTs
 obtain ⟨e, t, hT, h3⟩ := Aa3 h1
 have hok := hG.tab T _ hT
 cases hargs : c.args.toList.map a.eval with
 | nil => rw [hargs] at hv; cases hv
 | cons v1 t1 => cases t1 with
  | cons _ _ => rw [hargs] at hv; cases hv with | cons _ q => cases q
  | nil =>
   rw [hargs] at hv
   cases hv with
   | cons p _ =>
    have p := p.one
    have ea : c.args.map a.eval = #[v1] := by
     apply Array.toList_inj.1
     rw [Array.toList_map, hargs]
    have eT : c.argTypes = #[T] := by
     apply Array.toList_inj.1
     rw [hTs]
    have exec : ∀ {w'}, (Builtin.clear_ #[T] o.type #[v1]).run P w = .ok (.tuple #[]) w' → (execOp a.eval o).run P w = .ok (.value (.tuple #[])) w' := by
     intro w' hx
     simp [execOp, ho, resolve, hc, invoke, builtin, ea, eT, hx]
    unfold Fs3 at h3
    split at h3
    ·refine ⟨_, _, l1, h3, fun Q next hnx => OpRes.wp ⟨.tuple #[], w, E, .inl (exec ?_), h, (show VRel _ _ _ .un _ from trivial)⟩ Q next hnx⟩
     have hv1 : v1 = .slice none 0 0 := p
     subst hv1
     simp [Builtin.clear_, underlying, hok.2.1]
    ·rename_i q lo hi _
     simp only [RP.run] at h3
     split at h3
     ·rename_i e' t' xs hg
      by_cases et : t' = t
      ·subst et
       simp only [decide_true, cond_true] at h3
       have hs : hsh st.heap q = some (.row e' t' xs.length) := by simp [hsh, hg, H7]
       simp only [CellRel, hs] at p
       obtain ⟨hcut, A, cp, hv1, hle, hx⟩ := p
       by_cases hz : G1 lo hi xs.length = 0
       ·have hclr : clr (Q1 t') lo hi xs = xs := by
         unfold clr
         rw [hz]
         simp
        rw [hclr] at h3
        have hr : RelE E (st.upds [.o q (.row e' t' xs true)]) saved a S w w0 K := h.same hg
        refine ⟨_, _, _, h3, fun Q next hnx => OpRes.wp ⟨.tuple #[], w, E, .inl (exec ?_), hr, (show VRel _ _ _ .un _ from trivial)⟩ Q next hnx⟩
        rw [hv1, hz]
        cases A <;> simp [Builtin.clear_, underlying, hok.2.1]
       ·rcases hx with hx | ⟨hh, hA, hR⟩
        ·have := c8 hcut hle
         omega
        ·obtain ⟨z, hz1, hzc⟩ := A39 (P := P) hok.2.2
         have hzs : z.cells.size = t'.sz := by rw [← Array.length_toList, hzc, O3]
         have hrep : All2 (Imm E.ok w t') (List.replicate (G1 lo hi xs.length) (Q1 t')) (List.replicate (G1 lo hi xs.length) (G6 t')) := All2.replicate _ _ (A51 t') _
         have hple : O2 lo + (List.replicate (G1 lo hi xs.length) (Q1 t')).length ≤ xs.length := by
          rw [List.length_replicate]
          cases lo <;> cases hi <;> simp only [Aa2, G1, O2] at * <;> omega
         obtain ⟨hr, hst⟩ := h.part (P := P) hg hh hrep hple
         rw [List.length_replicate] at hr
         refine ⟨_, _, _, h3, fun Q next hnx => OpRes.wp ⟨.tuple #[], _, E, .inl (exec ?_), hr, (show VRel _ _ _ .un _ from trivial)⟩ Q next hnx⟩
         have hzl : (Builtin.zeroCells z.cells (G1 lo hi xs.length)).toList = (List.replicate (G1 lo hi xs.length) (G6 t')).flatten := by
          unfold Builtin.zeroCells
          by_cases h0 : t'.sz = 0
          ·have e0 : G6 t' = [] := List.length_eq_zero_iff.1 (by rw [O3]; exact h0)
           rw [e0, hzs, h0]
           simp
          ·rw [Bl4 _ _ (by omega), hzc]
         obtain ⟨m, hm⟩ : ∃ m, G1 lo hi xs.length = m + 1 := ⟨G1 lo hi xs.length - 1, by omega⟩
         rw [hv1, hA]
         simp only [Builtin.clear_]
         rw [hm] at hzl hst ⊢
         simp [underlying, hok.2.1, hz1, hzl, hst]
      ·simp [et, RP.run] at h3
     ·cases h3
    ·cases h3
end
end Go.Vm
end
section
namespace Go.Vm
open Go
def TElt (w : World) (β : Nat → Option (Nat × Nat)) : (t : Ty) → Nat → El t → List Value → Prop
 | .int k, _, n, cs => cs = [.int k n]
 | .bool, _, b, cs => cs = [.bool b]
 | .str, _, s, cs => cs = [.string s]
 | .slice _ t, f, ys, cs => t.flat = true ∧ ∃ A c, cs = [.slice A ys.length c] ∧ ys.length ≤ c ∧
   ((c = 0 ∧ β f = none) ∨ ∃ b p, β f = some (b, p) ∧ A = some ⟨b, p, none⟩ ∧ RowAt (fun _ => False) w b p t ys ∧ NoFrz t w b ∧ Room w b (p + c * t.sz))
 | .nil, _, _, cs => cs = []
 | .fld a r, f, x, cs => ∃ c1 c2, cs = c1 ++ c2 ∧ TElt w β a f x.1 c1 ∧ TElt w β r (f + a.sz) x.2 c2
theorem TElt.len {w : World} {β : Nat → Option (Nat × Nat)} : ∀ {t : Ty} {f : Nat} {x : El t} {cs : List Value}, TElt w β t f x cs → cs.length = t.sz
 | .int _, _, _, _, h => by simp only [TElt] at h; subst h; rfl
 | .bool, _, _, _, h => by simp only [TElt] at h; subst h; rfl
 | .str, _, _, _, h => by simp only [TElt] at h; subst h; rfl
 | .slice _ _, _, _, _, h => by obtain ⟨_, A, c, rfl, _⟩ := h; rfl
 | .nil, _, _, _, h => by simp only [TElt] at h; subst h; rfl
 | .fld a r, f, x, _, h => by
  obtain ⟨c1, c2, rfl, h1, h2⟩ := h
  simp [Ty.sz, TElt.len h1, TElt.len h2]
theorem TElt.same {w w' : World} {β : Nat → Option (Nat × Nat)} (hw : ∀ f b p, β f = some (b, p) → w'.heap[b]? = w.heap[b]?) : ∀ {t : Ty} {f : Nat} {x : El t} {cs : List Value}, TElt w β t f x cs → TElt w' β t f x cs
 | .int _, _, _, _, h => h
 | .bool, _, _, _, h => h
 | .str, _, _, _, h => h
 | .slice _ t, f, _, _, h => by
  obtain ⟨hf, A, c, rfl, hc, hx⟩ := h
  refine ⟨hf, A, c, rfl, hc, hx.imp id ?_⟩
  rintro ⟨b, p, h1, h2, h3, h4, h5⟩
  have hs := hw f b p h1
  exact ⟨b, p, h1, h2, h3.mono (fun _ h => h) (fun _ h => h.elim) hs, h4.of_same hs, h5.of_same hs⟩
 | .nil, _, _, _, h => h
 | .fld a r, f, x, _, h => by
  obtain ⟨c1, c2, rfl, h1, h2⟩ := h
  exact ⟨c1, c2, rfl, TElt.same hw h1, TElt.same hw h2⟩
theorem TElt.imm {w : World} {β : Nat → Option (Nat × Nat)} {ok : Nat → Prop} (hk : ∀ f b p, β f = some (b, p) → ok b) : ∀ {t : Ty} {f : Nat} {x : El t} {cs : List Value}, TElt w β t f x cs → Imm ok w t x cs
 | .int _, _, _, _, h => h
 | .bool, _, _, _, h => h
 | .str, _, _, _, h => h
 | .slice _ t, f, ys, _, h => by
  obtain ⟨hf, A, c, rfl, hc, hx⟩ := h
  refine ⟨A, c, rfl, hc, fun hne => ?_⟩
  rcases hx with ⟨rfl, _⟩ | ⟨b, p, h1, h2, h3, h4, h5⟩
  ·exact absurd (List.length_eq_zero_iff.1 (by omega)) hne
  ·exact ⟨b, p, h2, hk f b p h1, h3.mono (fun _ h => h.elim) (fun _ h => h.elim) rfl⟩
 | .nil, _, _, _, h => h
 | .fld a r, f, x, _, h => by
  obtain ⟨c1, c2, rfl, h1, h2⟩ := h
  exact ⟨c1, c2, rfl, TElt.imm hk h1, TElt.imm hk h2⟩
structure TreeAt (w : World) (g off : Nat) (t : Ty) (β : Nat → Nat → Option (Nat × Nat)) (xs : List (El t)) : Prop where
 row : ∀ i (h : i < xs.length), ∃ ds, TElt w (β i) t 0 (xs[i]) ds ∧ ∀ j, j < t.sz → w.cell? ⟨g, off + i * t.sz + j, none⟩ = ds[j]?
 nf : NoFrz t w g
 inj : ∀ i f i' f' b p p', β i f = some (b, p) → β i' f' = some (b, p') → i = i' ∧ f = f'
 ne : ∀ i f b p, β i f = some (b, p) → b ≠ g
 lt : ∀ i f b p, β i f = some (b, p) → i < xs.length ∧ f < t.sz
theorem TreeAt.same {w w' : World} {g off : Nat} {t : Ty} {β : Nat → Nat → Option (Nat × Nat)} {xs : List (El t)} (h : TreeAt w g off t β xs) (hg : w'.heap[g]? = w.heap[g]?)
  (hb : ∀ i f b p, β i f = some (b, p) → w'.heap[b]? = w.heap[b]?) : TreeAt w' g off t β xs := by
 refine ⟨fun i hi => ?_, h.nf.of_same hg, h.inj, h.ne, h.lt⟩
 obtain ⟨ds, h1, h2⟩ := h.row i hi
 exact ⟨ds, h1.same (hb i), fun j hj => (T9 hg).trans (h2 j hj)⟩
def Keep.mine (K : Keep) (b : Nat) : Prop := K.k b ∧ ¬ K.o b ∧ K.p b
def Blk (K : Keep) (β : Nat → Nat → Nat → Option (Nat × Nat)) (n b : Nat) : Prop := b = (K.ta n).1 ∨ ∃ i f p, β n i f = some (b, p)
structure TFB (h : F6) (w : World) (K : Keep) (β : Nat → Nat → Nat → Option (Nat × Nat)) : Prop where
 tr : ∀ n e t xs q, B5 h n = some (.tree e t xs q) → (K.th n ∨ xs = []) ∧ (K.th n → TreeAt w (K.ta n).1 (K.ta n).2 t (β n) xs ∧ ∀ b, Blk K β n b → K.mine b)
 fx : ∀ n e t xs q, B5 h n = some (.tree e t xs q) → q ≠ 1 → K.th n → β n = K.b0 (K.ta n).1
 ap : ∀ n n' o o', n ≠ n' → B5 h n = some o → B5 h n' = some o' → (∃ e t xs q, o = .tree e t xs q) → (∃ e t xs q, o' = .tree e t xs q) → K.th n → K.th n' → ∀ b, Blk K β n b → ¬ Blk K β n' b
 bo : ∀ n o i f e t m, B5 h n = some (.bor o i f e t m) → ∃ e2 t2 xs q, B5 h o = some (.tree e2 t2 xs q) ∧ (q = 0 → K.th o ∧ i < xs.length ∧ (K.th n → β o i f = some (K.ta n)) ∧
  ∃ ys, (D7 t2 (rd (Q1 t2) xs i))[f]? = some (.slc e t ys) ∧ ys.length = m)
def TF (h : F6) (w : World) (K : Keep) : Prop := ∃ β, TFB h w K β
theorem TF.none {h : F6} {w : World} {K : Keep} (ht : ∀ n o, B5 h n = some o → o.tr = false) : TF h w K :=
 ⟨fun _ _ _ => Option.none,
  {tr := fun n e t xs q hn => by
    have h1 := ht n _ hn
    cases h1
   fx := fun n e t xs q hn => by
    have h1 := ht n _ hn
    cases h1
   ap := fun n n' o o' _ hn _ he => by
    obtain ⟨e, t, xs, q, rfl⟩ := he
    have h1 := ht n _ hn
    cases h1
   bo := fun n o i f e t m hn => by
    have h1 := ht n _ hn
    cases h1 }⟩
def ErrCell (w : World) (g : Nat) : Prop := ∃ ev, w.cell? ⟨g, 0, none⟩ = some ev ∧ (ev = .nilIface ∨ ∃ te pe, ev = .iface te pe)
def Dz6 (w : World) : Prop := ∀ g, D53 = some g → ErrCell w g
theorem ErrCell.lt {w : World} {g : Nat} (h : ErrCell w g) : g < w.heap.size := by
 obtain ⟨ev, h1, _⟩ := h
 rcases Nat.lt_or_ge g w.heap.size with h2 | h2
 ·exact h2
 ·have : w.heap[g]? = none := Array.getElem?_eq_none_iff.2 h2
  simp [World.cell?, this] at h1
theorem ErrCell.same {w w' : World} {g : Nat} (h : ErrCell w g) (e : w'.heap[g]? = w.heap[g]?) : ErrCell w' g := by
 obtain ⟨ev, h1, h2⟩ := h
 exact ⟨ev, (T9 (a := ⟨g, 0, none⟩) e).trans h1, h2⟩
structure Dr (w0 : World) (K : Keep) (w1 : World) (K1 : Keep) : Prop where
 os : w1.os = w0.os
 tape : w1.tape = w0.tape
 out : w1.output = w0.output
 size : w0.heap.size ≤ w1.heap.size
 k : ∀ b, K.k b → K1.k b ∧ (¬ K.p b → w1.heap[b]? = w0.heap[b]?)
 o : ∀ b, K.k b → K1.o b → K.o b
 p : ∀ b, K.k b → K1.p b → K.p b
 rm : ∀ g m, Room w0 g m → Room w1 g m
 b0 : ∀ b, K.k b → K1.b0 b = K.b0 b
theorem Dr.refl (w : World) (K : Keep) : Dr w K w K := ⟨rfl, rfl, rfl, Nat.le_refl _, fun b h => ⟨h, fun _ => rfl⟩, fun b _ h => h, fun b _ h => h, fun _ _ h => h, fun _ _ => rfl⟩
theorem Dr.trans {w0 w1 w2 : World} {K0 K1 K2 : Keep} (p : Dr w0 K0 w1 K1) (q : Dr w1 K1 w2 K2) : Dr w0 K0 w2 K2 :=
 ⟨q.os.trans p.os, q.tape.trans p.tape, q.out.trans p.out, Nat.le_trans p.size q.size, fun b h => ⟨(q.k b (p.k b h).1).1, fun hn => ((q.k b (p.k b h).1).2 fun hp => hn (p.p b h hp)).trans ((p.k b h).2 hn)⟩,
  fun b h ho => p.o b h (q.o b (p.k b h).1 ho), fun b h hp => p.p b h (q.p b (p.k b h).1 hp), fun g m h => q.rm g m (p.rm g m h), fun b h => (q.b0 b (p.k b h).1).trans (p.b0 b h)⟩
structure Dv (w0 : World) (K : Keep) (w1 : World) (K1 : Keep) : Prop extends Dr w0 K w1 K1 where
 iv : ∀ g, D53 = some g → (K.k g ∧ ¬ K.p g) ∧ ErrCell w0 g
theorem Dv.trans {w0 w1 w2 : World} {K0 K1 K2 : Keep} (p : Dv w0 K0 w1 K1) (q : Dr w1 K1 w2 K2) : Dv w0 K0 w2 K2 := ⟨p.toDr.trans q, p.iv⟩
theorem Dv.err {w0 w1 : World} {K0 K1 : Keep} (p : Dv w0 K0 w1 K1) : Dz6 w1 := fun g hg => by
 obtain ⟨⟨h1, h2⟩, h3⟩ := p.iv g hg
 exact h3.same ((p.k g h1).2 h2)
theorem Dv.errK {w0 w1 : World} {K0 K1 : Keep} (p : Dv w0 K0 w1 K1) (g : Nat) (hg : D53 = some g) : K1.k g ∧ ¬ K1.p g := by
 obtain ⟨⟨h1, h2⟩, h3⟩ := p.iv g hg
 exact ⟨(p.k g h1).1, fun h => h2 (p.p g h1 h)⟩
section
variable {E : Env} {st : St} {saved : List (Nat × List VV)} {a : Act} {S : List (Array Value)} {w w0 w1 : World} {K K1 : Keep}
theorem RelE.rebase (h : RelE E st saved a S w w1 K1) {K2 : Keep} (hk : ∀ b, K2.k b → b < w.heap.size) (hl : ∀ n, E5 st.heap n → E.has n → ¬ K2.k (E.ρ n).1) (ho : ∀ b, E.ok b → K2.k b → K2.o b)
  (hta : ∀ n o, B5 st.heap n = some o → o.tr = true → (E.has n ↔ K2.th n) ∧ E.ρ n = K2.ta n) : RelE E st saved a S w w K2 :=
 ⟨h.tm, h.df, h.sv, h.ob, h.dj, fun n p q => ⟨(h.dk n p q).1, hl n p q⟩, h.bd, h.bo, fun b hb => ⟨hk b hb, rfl⟩, rfl, rfl, rfl, Nat.le_refl _, ho, fun _ _ h => h, hta⟩
theorem RelE.rebase0 (h : RelE E st saved a S w w1 K1) : RelE E st saved a S w w K1 :=
 h.rebase (fun b hb => (h.kp b hb).1) (fun n p q => (h.dk n p q).2) h.oz h.ta
theorem RelE.drift (h : RelE E st saved a S w w1 K1) : Dr w1 K1 w K1 :=
 ⟨h.os, h.tape, h.out, h.size, fun b hb => ⟨hb, fun _ => (h.kp b hb).2⟩, fun b _ ho => ho, fun b _ ho => ho, h.rm, fun _ _ => rfl⟩
theorem RelE.now (h : RelE E st saved a S w w1 K1) (ht : TF st.heap w1 K1) : TF st.heap w K1 := by
 obtain ⟨β, hb⟩ := ht
 refine ⟨β, fun n e t xs q hn => ?_, hb.fx, hb.ap, hb.bo⟩
 obtain ⟨p1, p2⟩ := hb.tr n e t xs q hn
 refine ⟨p1, fun hth => ?_⟩
 obtain ⟨q1, q2⟩ := p2 hth
 exact ⟨q1.same (h.kp _ (q2 _ (.inl rfl)).1).2 fun i f b p hp => (h.kp _ (q2 b (.inr ⟨i, f, p, hp⟩)).1).2, q2⟩
theorem RelE.poke (h : RelE E st saved a S w w1 K1) {w' : World} (C : Nat → Prop) (hC : ∀ b, C b → K1.mine b) (hs : ∀ b, b < w.heap.size → ¬ C b → w'.heap[b]? = w.heap[b]?) (hsz : w.heap.size ≤ w'.heap.size)
  (hroom : ∀ g m, Room w g m → Room w' g m) (ho : w'.os = w.os) (ht : w'.tape = w.tape) (hu : w'.output = w.output) : RelE E st saved a S w' w' K1 := by
 have hok : ∀ b, E.ok b → ¬ C b := fun b hb hc => (hC b hc).2.1 (h.oz b hb (hC b hc).1)
 have k : Step E E st.heap st.heap w w' := ⟨fun _ _ => rfl, fun _ _ => Iff.rfl, fun _ h => h, fun b hb => hs b (h.bo b hb) (hok b hb), hroom, HLe.refl _⟩
 refine ⟨J7 k h.tm, h.df, h.sv.mono fun _ _ q => J7 k q, fun n o hn => ?_, h.dj, h.dk, fun n hn hh => Nat.lt_of_lt_of_le (h.bd n hn hh) hsz, fun b hb => Nat.lt_of_lt_of_le (h.bo b hb) hsz,
  fun b hb => ⟨Nat.lt_of_lt_of_le (h.kp b hb).1 hsz, rfl⟩, rfl, rfl, rfl, Nat.le_refl _, h.oz, fun _ _ h => h, h.ta⟩
 have hso : (B5 st.heap n).isSome = true := by rw [hn]; rfl
 have hq := h.ob n o hn
 cases o with
 | dead => trivial
 | tree => trivial
 | bor => trivial
 | box cs => exact hq.step k hso (fun h => h) fun hh => hs _ (h.bd n hso hh) fun hc => (h.dk n (by unfold E5; rw [hn]; trivial) hh).2 (hC _ hc).1
 | mp t xs => exact hq.step k hso (fun h => h) fun hh => hs _ (h.bd n hso hh) fun hc => (h.dk n (by unfold E5; rw [hn]; trivial) hh).2 (hC _ hc).1
 | row e t xs own =>
  refine hq.step k hso (fun h => h) fun hh => hs _ (h.bd n hso hh) fun hc => ?_
  cases own with
  | true => exact (h.dk n (by unfold E5; rw [hn]; trivial) hh).2 (hC _ hc).1
  | false => exact hok _ ((hq.2 hh).2.2 rfl) hc
theorem RelE.nameT (h : RelE E st saved a S w w1 K1) {nm : Nat} (hn : B5 st.heap nm = none) (b : Prop) (ob : Obj) (htr : ob.tr = true) (hp : b → (K1.ta nm).1 < w.heap.size) (hb : K1.th nm ↔ b) :
  RelE (E.at nm (K1.ta nm) b) ⟨st.tmps, hset st.heap nm ob⟩ saved a S w w1 K1 := by
 have k := Ah5 (E := E) (w := w) hn (K1.ta nm) b ob
 have hlive : ∀ n, E5 (hset st.heap nm ob) n → n ≠ nm ∧ E5 st.heap n := by
  intro n hl
  unfold E5 at hl ⊢
  rw [A9] at hl
  by_cases e : n = nm
  ·rw [if_pos e] at hl
   cases ob <;> first | exact hl.elim | cases htr
  ·rw [if_neg e] at hl; exact ⟨e, hl⟩
 have hρ : ∀ n, n ≠ nm → (E.at nm (K1.ta nm) b).ρ n = E.ρ n := fun n hne => by simp [Env.at, hne]
 have hhas : ∀ n, n ≠ nm → (E.at nm (K1.ta nm) b).has n → E.has n := fun n hne hh => by simpa [Env.at, hne] using hh
 refine ⟨J7 k h.tm, h.df, h.sv.mono fun _ _ q => J7 k q, ?_, ?_, ?_, ?_, h.bo, h.kp, h.os, h.tape, h.out, h.size, h.oz, h.rm, ?_⟩
 ·intro n o hg
  by_cases e : n = nm
  ·subst e
   rw [A9, if_pos rfl] at hg
   cases hg
   cases ob <;> first | trivial | cases htr
  ·rw [A9, if_neg e] at hg
   exact (h.ob n o hg).step k (by rw [hg]; rfl) (hhas n e) (fun _ => rfl)
 ·intro n n' hne hl hl' hh hh'
  obtain ⟨e, hl⟩ := hlive n hl
  obtain ⟨e', hl'⟩ := hlive n' hl'
  rw [hρ n e, hρ n' e']
  exact h.dj n n' hne hl hl' (hhas n e hh) (hhas n' e' hh')
 ·intro n hl hh
  obtain ⟨e, hl⟩ := hlive n hl
  rw [hρ n e]
  exact h.dk n hl (hhas n e hh)
 ·intro n hs hh
  by_cases e : n = nm
  ·subst e
   have : (E.at n (K1.ta n) b).ρ n = K1.ta n := by simp [Env.at]
   rw [this]
   exact hp (by simpa [Env.at] using hh)
  ·rw [hρ n e]
   rw [A9, if_neg e] at hs
   exact h.bd n hs (hhas n e hh)
 ·intro n o hg ho
  by_cases e : n = nm
  ·subst e
   exact ⟨by simpa [Env.at] using hb.symm, by simp [Env.at]⟩
  ·rw [A9, if_neg e] at hg
   obtain ⟨p, q⟩ := h.ta n o hg ho
   refine ⟨?_, by rw [hρ n e]; exact q⟩
   simpa [Env.at, e] using p
theorem TF.hset {h : F6} {nm : Nat} {ob : Obj} (ht : TF h w K) (hn : B5 h nm = Option.none) (hb : ob.tr = false) : TF (hset h nm ob) w K := by
 obtain ⟨β, hβ⟩ := ht
 have old := fun n o => Al3 (h := h) (nm := nm) hb n o
 refine ⟨β, fun n e t xs q hg => hβ.tr n e t xs q (old n _ hg rfl), fun n e t xs q hg => hβ.fx n e t xs q (old n _ hg rfl), fun n n' o o' hne hg hg' he he' => ?_, fun n o i f e t m hg => ?_⟩
 ·obtain ⟨e, t, xs, q, rfl⟩ := he
  obtain ⟨e', t', xs', q', rfl⟩ := he'
  exact hβ.ap n n' _ _ hne (old n _ hg rfl) (old n' _ hg' rfl) ⟨_, _, _, _, rfl⟩ ⟨_, _, _, _, rfl⟩
 ·obtain ⟨e2, t2, xs, q, h1, h2⟩ := hβ.bo n o i f e t m (old n _ hg rfl)
  refine ⟨e2, t2, xs, q, ?_, h2⟩
  rw [A9, if_neg (F9 hn (by rw [h1]; rfl))]
  exact h1
def Keep.plus (K : Keep) (nm : Nat) (g off : Nat) (ns : List Nat) (β : Nat → Nat → Option (Nat × Nat)) : Keep :=
 {k := fun b => K.k b ∨ b ∈ g :: ns, o := fun b => K.o b ∧ b ∉ g :: ns, p := fun b => K.p b ∨ b ∈ g :: ns, ta := fun n => if n = nm then (g, off) else K.ta n, th := fun n => n = nm ∨ K.th n, b0 := fun b => if b = g then β else K.b0 b }
theorem RelE.newTree (h : RelE E st saved a S w w K) (ht : TF st.heap w K) {nm : Nat} (hn : B5 st.heap nm = none) (e : TypeId) {t : Ty} {xs : List (El t)} (q : Nat) {g off : Nat} {ns : List Nat} {β : Nat → Nat → Option (Nat × Nat)}
  (hf : ∀ b ∈ g :: ns, Free E st.heap K w b) (hns : ∀ b, b ∈ ns ↔ ∃ i f p, β i f = some (b, p)) (hT : TreeAt w g off t β xs) :
  RelE (E.at nm (g, off) True) ⟨st.tmps, hset st.heap nm (.tree e t xs q)⟩ saved a S w w (K.plus nm g off ns β) ∧ TF (hset st.heap nm (.tree e t xs q)) w (K.plus nm g off ns β) := by
 have r1 : RelE E st saved a S w w (K.plus nm g off ns β) := h.rebase (fun b hb => hb.elim (fun hb => (h.kp b hb).1) fun hb => (hf b hb).2.2.2)
  (fun n hl hh hk => hk.elim (h.dk n hl hh).2 fun hb => (hf _ hb).1 n hl hh rfl)
  (fun b hb hk => ⟨hk.elim (h.oz b hb) fun hm => absurd hb (hf b hm).2.1, fun hm => (hf b hm).2.1 hb⟩)
  (fun n o hg ho => by
   have hne : n ≠ nm := F9 hn (by rw [hg]; rfl)
   obtain ⟨p1, p2⟩ := h.ta n o hg ho
   exact ⟨p1.trans ⟨.inr, fun z => z.resolve_left hne⟩, by rw [p2]; simp [Keep.plus, hne]⟩)
 have eta : (K.plus nm g off ns β).ta nm = (g, off) := by simp [Keep.plus]
 have r2 := r1.nameT hn True (.tree e t xs q) rfl (fun _ => by rw [eta]; exact (hf g List.mem_cons_self).2.2.2) ⟨fun _ => trivial, fun _ => .inl rfl⟩
 rw [eta] at r2
 refine ⟨r2, ?_⟩
 obtain ⟨β0, h0⟩ := ht
 have hold : ∀ n o, n ≠ nm → B5 (hset st.heap nm (.tree e t xs q)) n = some o → B5 st.heap n = some o := fun n o hne hg => by rwa [A9, if_neg hne] at hg
 have hmine : ∀ b, K.mine b → (K.plus nm g off ns β).mine b := fun b hb => ⟨.inl hb.1, fun ho => hb.2.1 ho.1, .inl hb.2.2⟩
 have hnew : ∀ b, Blk (K.plus nm g off ns β) (fun n => if n = nm then β else β0 n) nm b → b ∈ g :: ns := fun b hb => by
  rcases hb with hb | ⟨i, f, p, hb⟩
  ·rw [eta] at hb; rw [hb]; exact List.mem_cons_self
  ·simp only [if_true] at hb
   exact List.mem_cons_of_mem _ ((hns b).2 ⟨i, f, p, hb⟩)
 have hblk : ∀ n, n ≠ nm → ∀ b, Blk (K.plus nm g off ns β) (fun n => if n = nm then β else β0 n) n b → Blk K β0 n b := fun n hne b hb => by
  unfold Blk at hb ⊢
  simpa [Keep.plus, hne] using hb
 refine ⟨fun n => if n = nm then β else β0 n, fun n e' t' xs' q' hg => ?_, fun n e' t' xs' q' hg hq hth => ?_, fun n n' o o' hne hg hg' he he' hth hth' b hb hb' => ?_, fun n o i f e' t' m hg => ?_⟩
 rotate_left
 ·by_cases en : n = nm
  ·subst en
   rw [eta]
   simp [Keep.plus]
  ·have hg1 := hold n _ en hg
   have hth1 : K.th n := hth.resolve_left en
   have hk : K.k (K.ta n).1 := (((h0.tr n _ _ _ _ hg1).2 hth1).2 _ (.inl rfl)).1
   have hne : (K.ta n).1 ≠ g := fun e => (hf g List.mem_cons_self).2.2.1 (e ▸ hk)
   have := h0.fx n _ _ _ _ hg1 hq hth1
   simpa [Keep.plus, en, hne] using this
 rotate_right
 ·by_cases en : n = nm
  ·subst en
   rw [A9, if_pos rfl] at hg
   cases hg
   refine ⟨.inl (.inl rfl), fun _ => ⟨?_, fun b hb => ⟨.inr (hnew b hb), fun ho => ho.2 (hnew b hb), .inr (hnew b hb)⟩⟩⟩
   rw [eta]
   simpa using hT
  ·obtain ⟨p1, p2⟩ := h0.tr n e' t' xs' q' (hold n _ en hg)
   refine ⟨p1.imp .inr id, fun hth => ?_⟩
   obtain ⟨q1, q2⟩ := p2 (hth.resolve_left en)
   refine ⟨?_, fun b hb => hmine b (q2 b (hblk n en b hb))⟩
   simpa [Keep.plus, en] using q1
 ·have oldM : ∀ n o, n ≠ nm → B5 (hset st.heap nm (.tree e t xs q)) n = some o → (∃ e t xs q, o = .tree e t xs q) → (K.plus nm g off ns β).th n → ∀ b, Blk (K.plus nm g off ns β) (fun n => if n = nm then β else β0 n) n b → K.mine b := fun n o en hg he hth b hb => by
   obtain ⟨e1, t1, x1, q1, rfl⟩ := he
   exact ((h0.tr n _ _ _ _ (hold n _ en hg)).2 (hth.resolve_left en)).2 b (hblk n en b hb)
  by_cases en : n = nm
  ·subst en
   have hne' : n' ≠ n := fun z => hne z.symm
   exact (hf b (hnew b hb)).2.2.1 (oldM n' o' hne' hg' he' hth' b hb').1
  ·by_cases en' : n' = nm
   ·subst en'
    exact (hf b (hnew b hb')).2.2.1 (oldM n o en hg he hth b hb).1
   ·exact h0.ap n n' o o' hne (hold n _ en hg) (hold n' _ en' hg') he he' (hth.resolve_left en) (hth'.resolve_left en') b (hblk n en b hb) (hblk n' en' b hb')
 ·have en : n ≠ nm := fun z => by
   subst z
   rw [A9, if_pos rfl] at hg
   cases hg
  obtain ⟨e2, t2, xs2, q2, h1, hq⟩ := h0.bo n o i f e' t' m (hold n _ en hg)
  have eo : o ≠ nm := F9 hn (by rw [h1]; rfl)
  refine ⟨e2, t2, xs2, q2, by rw [A9, if_neg eo]; exact h1, fun eq => ?_⟩
  obtain ⟨h2, h3, h4, h5⟩ := hq eq
  refine ⟨.inr h2, h3, fun hth => ?_, h5⟩
  have := h4 (hth.resolve_left en)
  simpa [Keep.plus, eo, en] using this
def Keep.plus0 (K : Keep) (nm : Nat) : Keep := { k := K.k, o := K.o, p := K.p, ta := fun n => if n = nm then (0, 0) else K.ta n, th := fun n => n ≠ nm ∧ K.th n, b0 := K.b0 }
theorem RelE.newTree0 (h : RelE E st saved a S w w K) (ht : TF st.heap w K) {nm : Nat} (hn : B5 st.heap nm = none) (e : TypeId) (t : Ty) (q : Nat) :
  RelE (E.at nm (0, 0) False) ⟨st.tmps, hset st.heap nm (.tree e t [] q)⟩ saved a S w w (K.plus0 nm) ∧ TF (hset st.heap nm (.tree e t [] q)) w (K.plus0 nm) := by
 have r1 : RelE E st saved a S w w (K.plus0 nm) := h.rebase (fun b hb => (h.kp b hb).1) (fun n hl hh => (h.dk n hl hh).2) h.oz (fun n o hg ho => by
  have hne : n ≠ nm := F9 hn (by rw [hg]; rfl)
  obtain ⟨p1, p2⟩ := h.ta n o hg ho
  exact ⟨p1.trans ⟨fun z => ⟨hne, z⟩, fun z => z.2⟩, by rw [p2]; simp [Keep.plus0, hne]⟩)
 have eta : (K.plus0 nm).ta nm = (0, 0) := by simp [Keep.plus0]
 have r2 := r1.nameT hn False (.tree e t [] q) rfl (fun f => f.elim) ⟨fun z => absurd rfl z.1, fun f => f.elim⟩
 rw [eta] at r2
 refine ⟨r2, ?_⟩
 obtain ⟨β0, h0⟩ := ht
 have hold : ∀ n o, n ≠ nm → B5 (Vm.hset st.heap nm (.tree e t [] q)) n = some o → B5 st.heap n = some o := fun n o hne hg => by rwa [A9, if_neg hne] at hg
 have hblk : ∀ n, n ≠ nm → ∀ b, Blk (K.plus0 nm) β0 n b → Blk K β0 n b := fun n hne b hb => by
  unfold Blk at hb ⊢
  simpa [Keep.plus0, hne] using hb
 refine ⟨β0, fun n e' t' xs' q' hg => ?_, fun n e' t' xs' q' hg hq hth => ?_, fun n n' o o' hne hg hg' he he' hth hth' b hb hb' => ?_, fun n o i f e' t' m hg => ?_⟩
 rotate_left
 ·have := h0.fx n _ _ _ _ (hold n _ hth.1 hg) hq hth.2
  simpa [Keep.plus0, hth.1] using this
 rotate_right
 ·by_cases en : n = nm
  ·subst en
   rw [A9, if_pos rfl] at hg
   cases hg
   exact ⟨.inr rfl, fun z => absurd rfl z.1⟩
  ·obtain ⟨p1, p2⟩ := h0.tr n e' t' xs' q' (hold n _ en hg)
   refine ⟨p1.imp (fun z => ⟨en, z⟩) id, fun hth => ?_⟩
   obtain ⟨q1, q2⟩ := p2 hth.2
   exact ⟨by simpa [Keep.plus0, en] using q1, fun b hb => q2 b (hblk n en b hb)⟩
 ·exact h0.ap n n' o o' hne (hold n _ hth.1 hg) (hold n' _ hth'.1 hg') he he' hth.2 hth'.2 b (hblk n hth.1 b hb) (hblk n' hth'.1 b hb')
 ·have en : n ≠ nm := fun z => by
   subst z
   rw [A9, if_pos rfl] at hg
   cases hg
  obtain ⟨e2, t2, xs2, q2, h1, hq⟩ := h0.bo n o i f e' t' m (hold n _ en hg)
  have eo : o ≠ nm := F9 hn (by rw [h1]; rfl)
  refine ⟨e2, t2, xs2, q2, by rw [A9, if_neg eo]; exact h1, fun eq => ?_⟩
  obtain ⟨h2, h3, h4, h5⟩ := hq eq
  refine ⟨⟨eo, h2⟩, h3, fun hth => ?_, h5⟩
  have := h4 hth.2
  simpa [Keep.plus0, en] using this
def RelX (E : Env) (st : St) (saved : List (Nat × List VV)) (a : Act) (S : List (Array Value)) (w w0 : World) (K : Keep) : Prop :=
 ∃ w1 K1, Dv w0 K w1 K1 ∧ TF st.heap w1 K1 ∧ RelE E st saved a S w w1 K1
theorem RelX.put (h : RelX E st saved a S w w0 K) (d : Option Tmp) {v : VV} {V : Value} (hv : VRel E st.heap w v V) : RelX E (Aq9 st d v) saved (a.put d V) S w w0 K := by
 obtain ⟨w1, K1, h1, h2, h3⟩ := h
 refine ⟨w1, K1, h1, ?_, h3.put d hv⟩
 cases d <;> exact h2
theorem RelX.tm (h : RelX E st saved a S w w0 K) : All2 (VRel E st.heap w) st.tmps a.tmps.toList := by
 obtain ⟨w1, K1, h1, h2, h3⟩ := h
 exact h3.tm
theorem RelX.tmp (h : RelX E st saved a S w w0 K) (t : Nat) : VRel E st.heap w (Z9 st.tmps t) (a.eval (.tmp t)) := by
 obtain ⟨w1, K1, h1, h2, h3⟩ := h
 exact h3.tmp t
end
end Go.Vm
end
section
namespace Go.Vm
open Go
def A52 (ok : Nat → Prop) (w : World) (t : Ty) (x : El t) (v : Value) : Prop :=
 ∃ cs, Imm ok w t x cs ∧ ((t.agg = true ∧ v = .agg cs.toArray) ∨ (t.agg = false ∧ cs = [v]))
def Fa5 (ok : Nat → Prop) : Env := ⟨fun _ => (0, 0), fun _ => False, ok⟩
def RcRel (ok : Nat → Prop) (w : World) : RC → Value → List Nat → Prop
 | .c c, v, bs => bs = [] ∧ CellRel (Fa5 ok) [] w c v
 | .own e t xs, v, bs => ∃ A c, v = .slice A xs.length c ∧ xs.length ≤ c ∧
   ((c = 0 ∧ bs = []) ∨ ∃ g off, A = some ⟨g, off, none⟩ ∧ bs = [g] ∧ RowAt ok w g off t xs ∧ NoFrz t w g ∧ Room w g (off + c * t.sz))
 | .tree e t xs, v, bs => ∃ A c, v = .slice A xs.length c ∧ xs.length ≤ c ∧
   ((c = 0 ∧ bs = []) ∨ ∃ g off ns β, A = some ⟨g, off, none⟩ ∧ bs = g :: ns ∧ (∀ b, b ∈ ns ↔ ∃ i f p, β i f = some (b, p)) ∧ TreeAt w g off t β xs ∧ Room w g (off + c * t.sz))
inductive RcsRel (ok : Nat → Prop) (w : World) : List RC → List Value → List Nat → Prop where
 | nil : RcsRel ok w [] [] []
 | cons {rc rs v vs bs bs'} : RcRel ok w rc v bs → RcsRel ok w rs vs bs' → RcsRel ok w (rc :: rs) (v :: vs) (bs ++ bs')
inductive ResRel (ok : Nat → Prop) (w : World) : List (Bool × List RC) → List Value → List Nat → Prop where
 | nil : ResRel ok w [] [] []
 | cons {a rs vs V bs r Vs bs'} : RcsRel ok w rs vs bs → ((a = true ∧ V = .agg vs.toArray) ∨ (a = false ∧ vs = [V])) → ResRel ok w r Vs bs' → ResRel ok w ((a, rs) :: r) (V :: Vs) (bs ++ bs')
def Cv1 : List Value → Value
 | [V] => V
 | Vs => .tuple Vs.toArray
structure Ret (ok : Nat → Prop) (w w' : World) (out : List (Bool × List RC)) (V : Value) : Prop where
 os : w'.os = w.os
 tape : w'.tape = w.tape
 put : w'.output = w.output
 size : w.heap.size ≤ w'.heap.size
 same : ∀ b, b < w.heap.size → w'.heap[b]? = w.heap[b]?
 res : ∃ (good : Nat → Prop) (Vs : List Value) (bs : List Nat), (∀ b, good b → w.heap.size ≤ b ∧ b < w'.heap.size) ∧ ResRel (fun b => ok b ∨ good b) w' out Vs bs ∧ bs.Nodup ∧
  (∀ b ∈ bs, w.heap.size ≤ b ∧ b < w'.heap.size ∧ ¬ good b) ∧ V = Cv1 Vs
def Cp4 (P : Program) (f : FuncId) (ok : Nat → Prop) (w : World) : Spec → List Value → Prop
 | .imm t k, pre => ∀ x v, A52 ok w t x v → Cp4 P f ok w (k x) (pre ++ [v])
 | .body o out, pre => ∀ a, o = some a → Calls P f pre.toArray w fun e w' => ∃ V, e = .returned V ∧ Ret ok w w' (out a) V
def Al4 (P : Program) (f : FuncId) (s : Spec) : Prop := ∀ ok w, (∀ b, ok b → b < w.heap.size) → Dz6 w → Cp4 P f ok w s []
def okN (E : Env) (ns : List Nat) (b : Nat) : Prop := E.ok b ∨ ∃ n ∈ ns, E.has n ∧ b = (E.ρ n).1
def RowNames (h : F6) (ns : List Nat) : Prop := ∀ n ∈ ns, (∃ e t xs own, B5 h n = some (.row e t xs own)) ∨ ∃ e t xs q, B5 h n = some (.tree e t xs q)
def okR (E : Env) (h : F6) (ns : List Nat) (b : Nat) : Prop := E.ok b ∨ ∃ n ∈ ns, (∃ e t xs own, B5 h n = some (.row e t xs own)) ∧ E.has n ∧ b = (E.ρ n).1
def okX (E : Env) (K : Keep) (h : F6) (ns : List Nat) (b : Nat) : Prop := okR E h ns b ∨ ((∃ n ∈ ns, ∃ e t xs q, B5 h n = some (.tree e t xs q)) ∧ K.mine b)
theorem F71 {E : Env} {h : F6} {ns ms : List Nat} (b : Nat) (p : okR E h ns b) : okR E h (ns ++ ms) b := p.imp id fun ⟨n, hn, q⟩ => ⟨n, List.mem_append.2 (.inl hn), q⟩
theorem Fw0 {E : Env} {h : F6} {ns ms : List Nat} (b : Nat) (p : okR E h ms b) : okR E h (ns ++ ms) b := p.imp id fun ⟨n, hn, q⟩ => ⟨n, List.mem_append.2 (.inr hn), q⟩
theorem Cg8 {E : Env} {K : Keep} {h : F6} {ns ms : List Nat} (b : Nat) (p : okX E K h ns b) : okX E K h (ns ++ ms) b :=
 p.imp (F71 b) fun ⟨⟨n, hn, q⟩, r⟩ => ⟨⟨n, List.mem_append.2 (.inl hn), q⟩, r⟩
theorem B58 {E : Env} {K : Keep} {h : F6} {ns ms : List Nat} (b : Nat) (p : okX E K h ms b) : okX E K h (ns ++ ms) b :=
 p.imp (Fw0 b) fun ⟨⟨n, hn, q⟩, r⟩ => ⟨⟨n, List.mem_append.2 (.inr hn), q⟩, r⟩
theorem RowNames.append {h : F6} {ns ms : List Nat} (p : RowNames h ns) (q : RowNames h ms) : RowNames h (ns ++ ms) := fun n hn => by
 rcases List.mem_append.1 hn with hn | hn
 ·exact p n hn
 ·exact q n hn
section
variable {st : St} {R : Type} {Kk : List Upd → VV → List Loc → Option R} {l : List Loc} {r : R}
theorem Dd2 {e : TypeId} {t : Ty} {c : Cell} {k : List (El t) → RP} (hrun : (Bk6 e t c k).run st Kk l = some r) :
  ∃ ys l', (k ys).run st Kk l' = some r ∧ (∀ n ∈ B91 c, ∃ e t xs own, B5 st.heap n = some (.row e t xs own)) ∧ ∀ {E saved a S w w0 K v}, RelE E st saved a S w w0 K → CellRel E st.heap w c v →
   Imm (okN E (B91 c)) w (.slice e t) ys [v] := by
 unfold Bk6 at hrun
 cases c with
 | nilS => exact ⟨[], l, hrun, (fun n hn => by cases hn), fun {E saved a S w w0 K v} h hc => ⟨none, 0, by simp only [CellRel] at hc; rw [hc]; rfl, Nat.le_refl _, fun h => absurd rfl h⟩⟩
 | slc e' t' xs =>
  simp only at hrun
  cases hb : Nat.beq e e' with
  | false => rw [hb] at hrun; cases hrun
  | true =>
   rw [hb] at hrun
   simp only [cond_true] at hrun
   cases hy : I0 t' t xs with
   | none => rw [hy] at hrun; cases hrun
   | some ys =>
    rw [hy] at hrun
    obtain ⟨e1, rfl⟩ := G2 hy
    subst e1
    exact ⟨xs, l, hrun, (fun n hn => by cases hn), fun {E saved a S w w0 K v} h hc => Imm.mono (fun b hb => .inl hb) (fun _ _ => rfl) hc⟩
 | row o lo hi =>
  simp only [RP.run] at hrun
  cases hg : B5 st.heap o with
  | none => rw [hg] at hrun; cases hrun
  | some b =>
   rw [hg] at hrun
   cases b with
   | row e' t' xs own =>
    simp only at hrun
    cases hb : Nat.beq e e' with
    | false => rw [hb] at hrun; cases hrun
    | true =>
     rw [hb] at hrun
     simp only [cond_true] at hrun
     cases hy : I0 t' t xs with
     | none => rw [hy] at hrun; cases hrun
     | some ys =>
      rw [hy] at hrun
      obtain ⟨e1, rfl⟩ := G2 hy
      subst e1
      refine ⟨cut lo hi xs, _, hrun, (fun n hn => ?_), fun {E saved a S w w0 K v} h hc => ?_⟩
      ·simp only [B91, List.mem_singleton] at hn
       subst hn
       exact ⟨_, _, _, _, hg⟩
      ·exact D66 h hg hc (fun b hb => .inl hb) (fun hh => .inr ⟨o, List.mem_singleton.2 rfl, hh, rfl⟩) e
   | _ => cases hrun
 | _ => cases hrun
theorem El4 {e : TypeId} {t : Ty} {c : Cell} {k : List (El t) → RP} (hrun : (D55 e t c k).run st Kk l = some r) :
  ∃ ys l', (k ys).run st Kk l' = some r ∧ RowNames st.heap (B91 c) ∧ ∀ {E saved a S w w0 K v}, RelE E st saved a S w w0 K → TF st.heap w K → CellRel E st.heap w c v →
   Imm (okX E K st.heap (B91 c)) w (.slice e t) ys [v] := by
 have plain : ∀ {l}, (Bk6 e t c k).run st Kk l = some r → ∃ ys l', (k ys).run st Kk l' = some r ∧ RowNames st.heap (B91 c) ∧ ∀ {E saved a S w w0 K v}, RelE E st saved a S w w0 K → TF st.heap w K → CellRel E st.heap w c v →
   Imm (okX E K st.heap (B91 c)) w (.slice e t) ys [v] := fun h => by
  obtain ⟨ys, l', h1, h2, h3⟩ := Dd2 h
  exact ⟨ys, l', h1, fun n hn => .inl (h2 n hn), fun {E saved a S w w0 K v} hr _ hc => (h3 hr hc).mono (fun b hb => .inl (hb.imp id fun ⟨n, hn, q⟩ => ⟨n, hn, h2 n hn, q⟩)) (fun _ _ => rfl)⟩
 unfold D55 at hrun
 split at hrun
 ·rename_i o lo hi
  simp only [RP.run] at hrun
  split at hrun
  ·rename_i e' t' xs q hg
   cases hb : Nat.beq e e' with
   | false => rw [hb] at hrun; cases hrun
   | true =>
    rw [hb] at hrun
    simp only [cond_true] at hrun
    cases hy : I0 t' t xs with
    | none => rw [hy] at hrun; cases hrun
    | some ys =>
     rw [hy] at hrun
     obtain ⟨e1, rfl⟩ := G2 hy
     subst e1
     refine ⟨cut lo hi xs, _, hrun, (fun n hn => ?_), fun {E saved a S w w0 K v} h ht hc => ?_⟩
     ·simp only [B91, List.mem_singleton] at hn
      subst hn
      exact .inr ⟨_, _, _, _, hg⟩
     ·obtain ⟨β, hβ⟩ := ht
      obtain ⟨p1, p2⟩ := hβ.tr o _ _ _ _ hg
      have hs : hsh st.heap o = some (.row e' t' xs.length) := by simp [hsh, hg, H7]
      simp only [CellRel, hs] at hc
      obtain ⟨hcut, A, c, rfl, hle, hx⟩ := hc
      have hcl := c8 hcut hle
      have hlen := Bl1 hcut
      refine ⟨A, c, by rw [hlen], by rw [hlen]; exact hcl, fun hne => ?_⟩
      rcases hx with rfl | ⟨hh, rfl, hR⟩
      ·exact absurd (List.length_eq_zero_iff.1 (by rw [hlen]; omega)) hne
      ·have hth : K.th o := p1.resolve_right fun e0 => hne (by subst e0; cases lo <;> cases hi <;> simp [cut])
       obtain ⟨q1, q2⟩ := p2 hth
       obtain ⟨g1, g2⟩ := h.ta o _ hg rfl
       have hany : ∃ n ∈ B91 (.row o lo hi), ∃ e t xs q, B5 st.heap n = some (.tree e t xs q) := ⟨o, List.mem_singleton.2 rfl, _, _, _, _, hg⟩
       refine ⟨_, _, rfl, .inr ⟨hany, by rw [g2]; exact q2 _ (.inl rfl)⟩, fun i hi' => ?_⟩
       obtain ⟨hi2, ecut⟩ := Cg5 hi' hcut
       rw [ecut]
       obtain ⟨ds, d1, d2⟩ := q1.row (O2 lo + i) hi2
       refine ⟨ds, d1.imm fun f b p hp => .inr ⟨hany, q2 b (.inr ⟨_, _, _, hp⟩)⟩, fun j hj => ?_⟩
       rw [← d2 j hj, g2, Nat.add_mul]
       congr 2
       omega
  ·exact plain hrun
 ·exact plain hrun
theorem Bl6 : ∀ (t : Ty) (cs : List Cell) (k : El t → List Cell → List Nat → RP) (l : List Loc), (Do5 t cs k).run st Kk l = some r →
  ∃ x rest ns l', (k x rest ns).run st Kk l' = some r ∧ RowNames st.heap ns ∧ ∀ {E saved a S w w0 K vs}, RelE E st saved a S w w0 K → TF st.heap w K → All2 (CellRel E st.heap w) cs vs →
   ∃ v1 v2, vs = v1 ++ v2 ∧ Imm (okX E K st.heap ns) w t x v1 ∧ All2 (CellRel E st.heap w) rest v2 := by
 intro t
 induction t with
 | nil =>
  intro cs k l h
  exact ⟨(), cs, [], l, h, (fun n hn => by cases hn), fun {E saved a S w w0 K vs} hr ht hv => ⟨[], vs, rfl, rfl, hv⟩⟩
 | fld p q ihp ihq =>
  intro cs k l h
  simp only [Do5] at h
  obtain ⟨x, rest, ns, l1, h1, hn, hx⟩ := ihp _ _ _ h
  obtain ⟨y, rest', ms, l2, h2, hm, hy⟩ := ihq _ _ _ h1
  refine ⟨(x, y), rest', ns ++ ms, l2, h2, hn.append hm, fun {E saved a S w w0 K vs} hr ht hv => ?_⟩
  obtain ⟨v1, v2, rfl, hi, hv2⟩ := hx hr ht hv
  obtain ⟨v3, v4, rfl, hi', hv4⟩ := hy hr ht hv2
  exact ⟨v1 ++ v3, v4, by rw [List.append_assoc], ⟨v1, v3, rfl, hi.mono (fun b hb => Cg8 b hb) (fun _ _ => rfl), hi'.mono (fun b hb => B58 b hb) (fun _ _ => rfl)⟩, hv4⟩
 | int i =>
  intro cs k l h
  cases cs with
  | nil => cases h
  | cons c cs => cases c with
   | int j m =>
    simp only [Do5] at h
    by_cases e : i = j
    ·subst e
     simp only [decide_true, cond_true] at h
     refine ⟨m, cs, [], l, h, (fun n hn => by cases hn), fun {E saved a S w w0 K vs} hr ht hv => ?_⟩
     cases hv with
     | @cons _ v _ vs' h1 h2 =>
      have : v = .int i m := h1
      subst this
      exact ⟨[_], vs', rfl, rfl, h2⟩
    ·simp [e, RP.run] at h
   | _ => cases h
 | bool =>
  intro cs k l h
  cases cs with
  | nil => cases h
  | cons c cs => cases c with
   | bool b =>
    refine ⟨b, cs, [], l, h, (fun n hn => by cases hn), fun {E saved a S w w0 K vs} hr ht hv => ?_⟩
    cases hv with
    | @cons _ v _ vs' h1 h2 =>
     have : v = .bool b := h1
     subst this
     exact ⟨[_], vs', rfl, rfl, h2⟩
   | _ => cases h
 | str =>
  intro cs k l h
  cases cs with
  | nil => cases h
  | cons c cs => cases c with
   | str s =>
    refine ⟨s, cs, [], l, h, (fun n hn => by cases hn), fun {E saved a S w w0 K vs} hr ht hv => ?_⟩
    cases hv with
    | @cons _ v _ vs' h1 h2 =>
     have : v = .string s := h1
     subst this
     exact ⟨[_], vs', rfl, rfl, h2⟩
   | _ => cases h
 | slice e t _ =>
  intro cs k l h
  cases cs with
  | nil => cases h
  | cons c cs =>
   simp only [Do5] at h
   obtain ⟨ys, l1, h1, hn, hy⟩ := El4 h
   refine ⟨ys, cs, _, l1, h1, hn, fun {E saved a S w w0 K vs} hr ht hv => ?_⟩
   cases hv with
   | @cons _ v _ vs' h2 h3 => exact ⟨[v], vs', rfl, hy hr ht h2, h3⟩
variable {P : Program} {f : FuncId}
theorem El5 {nm : Nat → Nat} : ∀ (s : Spec) (vs : List V1) (ns : List Nat) (l : List Loc), (Dy2 nm s vs ns).run st Kk l = some r → RowNames st.heap ns →
  ∃ out ms l', (Bg2 (L2 nm 0 out).2 (bif V8 out then Bk8 (Bv7 (ns ++ ms)) fun u => p0 (u ++ (L2 nm 0 out).2) (c7 (L2 nm 0 out).1)
   else p0 (L2 nm 0 out).2 (c7 (L2 nm 0 out).1))).run st Kk l' = some r ∧ RowNames st.heap (ns ++ ms) ∧
   ∀ {E saved a S w w0 K ok Vs pre}, RelE E st saved a S w w0 K → TF st.heap w K → (∀ b, okX E K st.heap ms b → ok b) → All2 (V1Rel E st.heap w) vs Vs → Cp4 P f ok w s pre →
    Calls P f (pre ++ Vs).toArray w fun e w' => ∃ V, e = .returned V ∧ Ret ok w w' out V := by
 intro s
 induction s with
 | body o out =>
  intro vs ns l h hns
  cases vs with
  | nil =>
   simp only [Dy2] at h
   cases o with
   | none => cases h
   | some a =>
    refine ⟨out a, [], l, by rw [List.append_nil]; exact h, by rw [List.append_nil]; exact hns, fun {E saved a' S w w0 K ok Vs pre} hr ht hok hv hs => ?_⟩
    cases hv
    rw [List.append_nil]
    exact hs a rfl
  | cons v vs => cases h
 | imm t k ih =>
  intro vs ns l h hns
  cases vs with
  | nil => cases h
  | cons v vs =>
   simp only [Dy2] at h
   cases hag : (bif v.agg then t.agg else !t.agg) with
   | false => rw [hag] at h; cases h
   | true =>
    rw [hag] at h
    simp only [cond_true] at h
    obtain ⟨x, rest, ms, l1, h1, hms, hx⟩ := Bl6 _ _ _ _ h
    cases rest with
    | cons _ _ => cases h1
    | nil =>
     obtain ⟨out, ms', l2, h2, hms', hcall⟩ := ih x vs (ns ++ ms) l1 h1 (hns.append hms)
     refine ⟨out, ms ++ ms', l2, by rw [← List.append_assoc]; exact h2, by rw [← List.append_assoc]; exact hms', fun {E saved a' S w w0 K ok Vs pre} hr ht hok hv hs => ?_⟩
     cases hv with
     | @cons _ V _ Vs' p q =>
      have harg : A52 ok w t x V := by
       obtain ⟨us, hus, hV⟩ := p
       obtain ⟨v1, v2, e1, hi, hv2⟩ := hx hr ht hus
       cases hv2
       rw [List.append_nil] at e1
       subst e1
       refine ⟨us, hi.mono (fun b hb => hok b (Cg8 b hb)) (fun _ _ => rfl), ?_⟩
       rcases hV with ⟨h1, h2⟩ | ⟨h1, h2⟩
       ·rw [h1] at hag; exact .inl ⟨hag, h2⟩
       ·rw [h1] at hag; exact .inr ⟨by simpa using hag, h2⟩
      have := hcall hr ht (fun b hb => hok b (B58 b hb)) q (hs x V harg)
      rwa [List.append_assoc] at this
end
end Go.Vm
end
section
namespace Go.Vm
open Go
inductive MD where
 | box (g p : Nat)
 | row (g off c : Nat)
 | tree (g off c : Nat) (ns : List Nat) (β : Nat → Nat → Option (Nat × Nat))
 | nil
def MD.blk : MD → List Nat
 | .box g _ => [g]
 | .row g _ _ => [g]
 | .tree g _ _ ns _ => g :: ns
 | .nil => []
def F72 (w : World) (g p : Nat) (vs : List Value) : Prop := ∀ j v, vs[j]? = some v → w.cell? ⟨g, p + j, none⟩ = some v ∧ w.frozen? ⟨g, p + j, none⟩ = false
inductive PostOk (ok : Nat → Prop) (w : World) : List MD → List Po → Prop where
 | nil : PostOk ok w [] []
 | box {g p t y ms ps vs} : Imm ok w t y vs → F72 w g p vs → PostOk ok w ms ps → PostOk ok w (.box g p :: ms) (.box t y :: ps)
 | row {g off c t ys ms ps} : RowAt ok w g off t ys → NoFrz t w g → PostOk ok w ms ps → PostOk ok w (.row g off c :: ms) (.row t ys :: ps)
 | tree {g off c ns β t ys ms ps} : TreeAt w g off t β ys → PostOk ok w ms ps → PostOk ok w (.tree g off c ns β :: ms) (.tree t ys :: ps)
 | noneT {t ys ms ps} : PostOk ok w ms ps → PostOk ok w (.nil :: ms) (.tree t ys :: ps)
 | gone {m ms ps} : PostOk ok w ms ps → PostOk ok w (m :: ms) (.gone :: ps)
 | none {t ys ms ps} : PostOk ok w ms ps → PostOk ok w (.nil :: ms) (.row t ys :: ps)
def Av1 : List MD → List Po → List Nat
 | m :: ms, .gone :: ps => m.blk ++ Av1 ms ps
 | _ :: ms, _ :: ps => Av1 ms ps
 | _, _ => []
structure RetM (ok : Nat → Prop) (w w' : World) (out : List (Bool × List RC)) (V : Value) (ms : List MD) (ps : List Po) : Prop where
 os : w'.os = w.os
 tape : w'.tape = w.tape
 put : w'.output = w.output
 size : w.heap.size ≤ w'.heap.size
 same : ∀ b, b < w.heap.size → b ∉ ms.flatMap MD.blk → w'.heap[b]? = w.heap[b]?
 room : ∀ g m, Room w g m → Room w' g m
 res : ∃ (good : Nat → Prop) (Vs : List Value) (bs : List Nat), (∀ b, good b → w.heap.size ≤ b ∧ b < w'.heap.size) ∧ ResRel (fun b => ok b ∨ good b) w' out Vs bs ∧ bs.Nodup ∧
  (∀ b ∈ bs, (w.heap.size ≤ b ∧ b < w'.heap.size ∧ ¬ good b) ∨ b ∈ Av1 ms ps) ∧ V = Cv1 Vs ∧ PostOk (fun b => ok b ∨ good b) w' ms ps
def MOk (P : Program) (f : FuncId) (ok : Nat → Prop) (w : World) : MSpec → List Value → List MD → Prop
 | .imm t k, pre, ms => ∀ x v, A52 ok w t x v → MOk P f ok w (k x) (pre ++ [v]) ms
 | .box t k, pre, ms => ∀ x g p vs, Imm ok w t x vs → F72 w g p vs → g < w.heap.size → ¬ ok g → g ∉ ms.flatMap MD.blk → MOk P f ok w (k x) (pre ++ [.pointer (some ⟨g, p, none⟩)]) (ms ++ [.box g p])
 | .row e t k, pre, ms => (∀ A, MOk P f ok w (k []) (pre ++ [.slice A 0 0]) (ms ++ [.nil])) ∧
   ∀ xs g off c, xs.length ≤ c → 0 < c → RowAt ok w g off t xs → NoFrz t w g → Room w g (off + c * t.sz) → g < w.heap.size → ¬ ok g → g ∉ ms.flatMap MD.blk →
    MOk P f ok w (k xs) (pre ++ [.slice (some ⟨g, off, none⟩) xs.length c]) (ms ++ [.row g off c])
 | .tree e t k, pre, ms => (∀ A, MOk P f ok w (k []) (pre ++ [.slice A 0 0]) (ms ++ [.nil])) ∧
   ∀ xs g off c ns β, xs.length ≤ c → 0 < c → TreeAt w g off t β xs → (∀ b, b ∈ ns ↔ ∃ i f p, β i f = some (b, p)) → Room w g (off + c * t.sz) → (∀ b ∈ g :: ns, b < w.heap.size ∧ ¬ ok b ∧ b ∉ ms.flatMap MD.blk) →
    MOk P f ok w (k xs) (pre ++ [.slice (some ⟨g, off, none⟩) xs.length c]) (ms ++ [.tree g off c ns β])
 | .body o out post, pre, ms => (∀ g, D53 = some g → g ∉ ms.flatMap MD.blk) → ∀ a, o = some a → Calls P f pre.toArray w fun e w' => ∃ V, e = .returned V ∧ RetM ok w w' (out a) V ms (post a)
def j6 (P : Program) (f : FuncId) (s : MSpec) : Prop := ∀ ok w, (∀ b, ok b → b < w.heap.size) → Dz6 w → MOk P f ok w s [] []
end Go.Vm
end
section
namespace Go.Vm
open Go
theorem CellRel.closed {ok : Nat → Prop} {E : Env} {h : F6} {w : World} {c : Cell} {v : Value} (p : CellRel (Fa5 ok) [] w c v) (hok : ∀ b, ok b → E.ok b) : CellRel E h w c v := by
 cases c with
 | int => exact p
 | bool => exact p
 | str => exact p
 | nilS => exact p
 | slc e t xs => exact Imm.mono hok (fun _ _ => rfl) p
 | row o lo hi => simp [CellRel, hsh, B5] at p
 | ptr o f => obtain ⟨n, hs, _⟩ := p; simp [hsh, B5] at hs
 | eptr o i f => simp [CellRel, hsh, B5] at p
 | iptr t x f =>
  obtain ⟨g, off, ds, rfl, hg, hi, hj⟩ := p
  exact ⟨g, off, ds, rfl, hok g hg, hi.mono hok (fun _ _ => rfl), hj⟩
 | fn f l =>
  obtain ⟨vs, rfl, hl⟩ := p
  refine ⟨vs, rfl, ?_⟩
  generalize vs.toList = us at hl
  cases hl with
  | nil => exact .nil
  | cons q _ => obtain ⟨n, hs, _⟩ := q; simp [hsh, B5] at hs
 | mp o => obtain ⟨t, hs, _⟩ := p; simp [hsh, B5] at hs
theorem A53 {ok ok' : Nat → Prop} {w : World} : ∀ {t : Ty} {x : El t} {cs : List Value}, t.flat = true → Imm ok w t x cs → Imm ok' w t x cs
 | .int _, _, _, _, h => h
 | .bool, _, _, _, h => h
 | .str, _, _, _, h => h
 | .slice _ _, _, _, hf, _ => by cases hf
 | .nil, _, _, _, h => h
 | .fld a r, x, _, hf, h => by
  simp only [Ty.flat, Bool.and_eq_true] at hf
  obtain ⟨c1, c2, rfl, h1, h2⟩ := h
  exact ⟨c1, c2, rfl, A53 hf.1 h1, A53 hf.2 h2⟩
theorem RcRel.mono {ok ok' : Nat → Prop} {w : World} (hok : ∀ b, ok b → ok' b) {rc : RC} {v : Value} {bs : List Nat} (h : RcRel ok w rc v bs) : RcRel ok' w rc v bs := by
 cases rc with
 | c c => exact ⟨h.1, h.2.closed hok⟩
 | own e t xs =>
  obtain ⟨A, c, hv, hle, hx⟩ := h
  refine ⟨A, c, hv, hle, hx.imp id ?_⟩
  rintro ⟨g, off, h1, h2, h3, h4⟩
  exact ⟨g, off, h1, h2, h3.mono hok (fun _ _ => rfl) rfl, h4⟩
 | tree e t xs => exact h
theorem RcRel.flat {ok ok' : Nat → Prop} {w : World} {rc : RC} (hs : rc.shared = false) {v : Value} {bs : List Nat} (h : RcRel ok w rc v bs) : RcRel ok' w rc v bs := by
 cases rc with
 | c c =>
  refine ⟨h.1, ?_⟩
  have h2 := h.2
  cases c with
  | slc => cases hs
  | iptr => cases hs
  | int => exact h2
  | bool => exact h2
  | str => exact h2
  | nilS => exact h2
  | row o lo hi => simp [CellRel, hsh, B5] at h2
  | ptr o f => obtain ⟨n, hs, _⟩ := h2; simp [hsh, B5] at hs
  | eptr o i f => simp [CellRel, hsh, B5] at h2
  | fn f l => exact h2
  | mp o => obtain ⟨t, hs, _⟩ := h2; simp [hsh, B5] at hs
 | own e t xs =>
  obtain ⟨A, c, hv, hle, hx⟩ := h
  refine ⟨A, c, hv, hle, hx.imp id ?_⟩
  rintro ⟨g, off, h1, h2, h3, h4⟩
  refine ⟨g, off, h1, h2, fun i hi => ?_, h4⟩
  obtain ⟨ds, hd, hj⟩ := h3 i hi
  exact ⟨ds, A53 (by simpa [RC.shared] using hs) hd, hj⟩
 | tree e t xs => exact h
theorem RcsRel.imp {ok ok' : Nat → Prop} {w : World} {rs : List RC} {vs : List Value} {bs : List Nat} (h : RcsRel ok w rs vs bs) (k : ∀ rc ∈ rs, ∀ v bs, RcRel ok w rc v bs → RcRel ok' w rc v bs) : RcsRel ok' w rs vs bs := by
 induction h with
 | nil => exact .nil
 | cons p _ ih => exact .cons (k _ List.mem_cons_self _ _ p) (ih fun rc hrc => k rc (List.mem_cons_of_mem _ hrc))
theorem ResRel.imp {ok ok' : Nat → Prop} {w : World} {out : List (Bool × List RC)} {vs : List Value} {bs : List Nat} (h : ResRel ok w out vs bs) (k : ∀ x ∈ out, ∀ rc ∈ x.2, ∀ v bs, RcRel ok w rc v bs → RcRel ok' w rc v bs) : ResRel ok' w out vs bs := by
 induction h with
 | nil => exact .nil
 | cons p q _ ih => exact .cons (p.imp (k _ List.mem_cons_self)) q (ih fun x hx => k x (List.mem_cons_of_mem _ hx))
theorem HLe.trans {h h' h'' : F6} (p : HLe h h') (q : HLe h' h'') : HLe h h'' := by
 intro n s hs
 rcases p n s hs with h1 | ⟨h1, h2⟩
 ·exact q n s h1
 ·rcases q n _ h2 with h3 | ⟨⟨e, t, m, h3⟩, _⟩
  ·exact .inr ⟨h1, h3⟩
  ·cases h3
theorem HLe.isSome {h h' : F6} (p : HLe h h') {n : Nat} (hs : (B5 h n).isSome = true) : (B5 h' n).isSome = true := by
 obtain ⟨o, ho⟩ := Option.isSome_iff_exists.1 hs
 have : hsh h n = some (H7 o) := by simp [hsh, ho]
 rcases p n _ this with h1 | ⟨_, h1⟩ <;> exact m8 h1
theorem Step.trans {E E' E'' : Env} {h h' h'' : F6} {w w' w'' : World} (p : Step E E' h h' w w') (q : Step E' E'' h' h'' w' w'') : Step E E'' h h'' w w'' :=
 ⟨fun n hs => (q.ρ n (p.hle.isSome hs)).trans (p.ρ n hs), fun n hs => (q.has n (p.hle.isSome hs)).trans (p.has n hs), fun b hb => q.ok b (p.ok b hb),
  fun b hb => (q.same b (p.ok b hb)).trans (p.same b hb), fun g m hr => q.room g m (p.room g m hr), p.hle.trans q.hle⟩
theorem Step.refl (E : Env) (h : F6) (w : World) : Step E E h h w w := ⟨fun _ _ => rfl, fun _ _ => Iff.rfl, fun _ h => h, fun _ _ => rfl, fun _ _ h => h, HLe.refl h⟩
section
variable {E : Env} {st : St} {saved : List (Nat × List VV)} {a : Act} {S : List (Array Value)} {w w' w0 : World} {K : Keep}
theorem RelE.after (h : RelE E st saved a S w w0 K) (hsz : w.heap.size ≤ w'.heap.size) (hs : ∀ b, b < w.heap.size → w'.heap[b]? = w.heap[b]?) (ho : w'.os = w.os) (ht : w'.tape = w.tape) (hu : w'.output = w.output)
  (good : Nat → Prop) (hg : ∀ b, good b → w.heap.size ≤ b ∧ b < w'.heap.size) : RelE ⟨E.ρ, E.has, fun b => E.ok b ∨ good b⟩ st saved a S w' w0 K := by
 have k : Step E ⟨E.ρ, E.has, fun b => E.ok b ∨ good b⟩ st.heap st.heap w w' := ⟨fun _ _ => rfl, fun _ _ => Iff.rfl, fun _ h => .inl h, fun b hb => hs b (h.bo b hb), fun g m hr => hr.of_same (hs g hr.lt), HLe.refl _⟩
 refine ⟨J7 k h.tm, h.df, h.sv.mono fun _ _ q => J7 k q, fun n o hn => (h.ob n o hn).step k (by rw [hn]; rfl) (fun h => h) (fun hh => hs _ (h.bd n (by rw [hn]; rfl) hh)), h.dj, ?_, ?_, ?_, ?_, ho.trans h.os, ht.trans h.tape, hu.trans h.out, Nat.le_trans h.size hsz, ?_, fun g m hr => k.room g m (h.rm g m hr), h.ta⟩
 ·intro n hl hh
  obtain ⟨h1, h2⟩ := h.dk n hl hh
  refine ⟨fun hk => hk.elim h1 fun hk => ?_, h2⟩
  have h3 := (hg _ hk).1
  have h4 := h.bd n (P5 hl) hh
  exact absurd h4 (Nat.not_lt.2 h3)
 ·intro n hn hh
  exact Nat.lt_of_lt_of_le (h.bd n hn hh) hsz
 ·intro b hb
  rcases hb with hb | hb
  ·exact Nat.lt_of_lt_of_le (h.bo b hb) hsz
  ·exact (hg b hb).2
 ·intro b hb
  obtain ⟨h1, h2⟩ := h.kp b hb
  exact ⟨Nat.lt_of_lt_of_le h1 hsz, (hs b h1).trans h2⟩
 ·intro b hb hk
  rcases hb with hb | hb
  ·exact h.oz b hb hk
  ·exact absurd (h.kp b hk).1 (Nat.not_lt.2 (hg b hb).1)
theorem Free.named {h : F6} {nm b : Nat} {p : Nat × Nat} {q : Prop} {ob : Obj} (hf : Free E h K w b) (hb : q → p.1 ≠ b) : Free (E.at nm p q) (hset h nm ob) K w b := by
 obtain ⟨f1, f2, f3, f4⟩ := hf
 refine ⟨fun n hl hh => ?_, f2, f3, f4⟩
 by_cases e : n = nm
 ·subst e
  have hq : q := by simpa [Env.at] using hh
  simpa [Env.at] using hb hq
 ·have hl' : E5 h n := by
   unfold E5 at hl ⊢
   rwa [A9, if_neg e] at hl
  have hh' : E.has n := by simpa [Env.at, e] using hh
  simpa [Env.at, e] using f1 n hl' hh'
def Grow (K K' : Keep) : Prop := (∀ b, K.k b → K'.k b) ∧ (∀ b, K'.o b → K.o b) ∧ (∀ b, K.k b → K'.p b → K.p b) ∧ ∀ b, K.k b → K'.b0 b = K.b0 b
theorem Grow.refl (K : Keep) : Grow K K := ⟨fun _ h => h, fun _ h => h, fun _ _ h => h, fun _ _ => rfl⟩
theorem Grow.trans {K K' K'' : Keep} (p : Grow K K') (q : Grow K' K'') : Grow K K'' := ⟨fun b h => q.1 b (p.1 b h), fun b h => p.2.1 b (q.2.1 b h), fun b h k => p.2.2.1 b h (q.2.2.1 b (p.1 b h) k), fun b h => (q.2.2.2 b (p.1 b h)).trans (p.2.2.2 b h)⟩
theorem El6 {ok : Nat → Prop} {nm : Nat → Nat} : ∀ (rs : List RC) (j : Nat) {E : Env} {K : Keep} {st : St} {vs : List Value} {bs : List Nat}, RelE E st saved a S w w K → TF st.heap w K →
  (∀ n ∈ (c6 nm j rs).2.1.map Upd.name, B5 st.heap n = none) → G7 ((c6 nm j rs).2.1.map Upd.name) = true → RcsRel ok w rs vs bs → (∀ b, ok b → E.ok b) → bs.Nodup → (∀ b ∈ bs, Free E st.heap K w b) →
  ∃ E' K', RelE E' (st.upds (c6 nm j rs).2.1) saved a S w w K' ∧ TF (st.upds (c6 nm j rs).2.1).heap w K' ∧ Grow K K' ∧ All2 (CellRel E' (st.upds (c6 nm j rs).2.1).heap w) (c6 nm j rs).1 vs ∧ Step E E' st.heap (st.upds (c6 nm j rs).2.1).heap w w ∧ E'.ok = E.ok ∧
   ∀ g, g ∉ bs → Free E st.heap K w g → Free E' (st.upds (c6 nm j rs).2.1).heap K' w g := by
 intro rs
 induction rs with
 | nil =>
  intro j E K st vs bs h ht hn hd hr hok hb hf
  cases hr
  exact ⟨E, K, h, ht, .refl K, .nil, Step.refl _ _ _, rfl, fun g _ hg => hg⟩
 | cons rc rs ih =>
  intro j E K st vs bs h ht hn hd hr hok hb hf
  cases hr with
  | @cons _ _ v vs b1 b2 p q =>
  cases rc with
  | c c =>
   obtain ⟨rfl, p⟩ := p
   obtain ⟨E', K', h1, ht', hg, h2, h3, h4, h5⟩ := ih j h ht hn hd q hok hb hf
   exact ⟨E', K', h1, ht', hg, .cons (p.closed fun b hb => by rw [h4]; exact hok b hb) h2, h3, h4, h5⟩
  | own e t xs =>
   obtain ⟨A, c, rfl, hle, hx⟩ := p
   simp only [c6, List.map_cons, Upd.name] at hn hd
   obtain ⟨hd1, hd2⟩ := R7 hd
   have hfr : B5 st.heap (nm j) = none := hn _ List.mem_cons_self
   have hnd := List.nodup_append.1 hb
   have hsh1 : hsh (hset st.heap (nm j) (.row e t xs true)) (nm j) = some (.row e t xs.length) := by rw [J3, if_pos rfl]; rfl
   have key : ∀ (pr : Nat × Nat) (bq : Prop), (bq → Free E st.heap K w pr.1) → ObjRel (E.at (nm j) pr bq) (hset st.heap (nm j) (.row e t xs true)) w (nm j) (.row e t xs true) → (bq → pr.1 ∈ b1) →
     CellRel (E.at (nm j) pr bq) (hset st.heap (nm j) (.row e t xs true)) w (.row (nm j) none none) (.slice A xs.length c) →
     ∃ E' K', RelE E' (st.upds (c6 nm j (.own e t xs :: rs)).2.1) saved a S w w K' ∧ TF (st.upds (c6 nm j (.own e t xs :: rs)).2.1).heap w K' ∧ Grow K K' ∧ All2 (CellRel E' (st.upds (c6 nm j (.own e t xs :: rs)).2.1).heap w) (c6 nm j (.own e t xs :: rs)).1 (.slice A xs.length c :: vs) ∧
      Step E E' st.heap (st.upds (c6 nm j (.own e t xs :: rs)).2.1).heap w w ∧ E'.ok = E.ok ∧ ∀ g, g ∉ b1 ++ b2 → Free E st.heap K w g → Free E' (st.upds (c6 nm j (.own e t xs :: rs)).2.1).heap K' w g := by
    intro pr bq hfree hob hmem hcell
    have h1 := h.named hfr pr bq _ hfree hob
    have hst := Ah5 (E := E) (w := w) hfr pr bq (.row e t xs true)
    obtain ⟨E', K', k1, kt, kg, k2, k3, k4, k5⟩ := ih (j + 1) (st := ⟨st.tmps, hset st.heap (nm j) (.row e t xs true)⟩) h1 (ht.hset hfr rfl) (fun n hn' => by
      rw [A9, if_neg (show ¬ n = nm j from fun e1 => hd1 (by rw [← e1]; exact hn'))]
      exact hn n (List.mem_cons_of_mem _ hn')) hd2 q hok hnd.2.1 (fun b hb' => (hf b (List.mem_append.2 (.inr hb'))).named fun hq e => hnd.2.2 _ (hmem hq) b hb' e)
    exact ⟨E', K', k1, kt, kg, .cons (hcell.step k3) k2, hst.trans k3, k4, fun g hg hfg => k5 g (fun hg' => hg (List.mem_append.2 (.inr hg'))) (hfg.named fun hq e => hg (List.mem_append.2 (.inl (e ▸ hmem hq))))⟩
   rcases hx with ⟨rfl, rfl⟩ | ⟨g, off, rfl, rfl, hrow, hnf, hR⟩
   ·have hx0 : xs = [] := List.length_eq_zero_iff.1 (by omega)
    subst hx0
    refine key (0, 0) False (fun f => f.elim) ⟨.inr rfl, fun hh => ?_⟩ (fun f => f.elim) ?_
    ·simp [Env.at] at hh
    ·simp only [CellRel, hsh1]
     exact ⟨trivial, A, 0, rfl, by simp [O2], .inl rfl⟩
   ·have e1 : (E.at (nm j) (g, off) True).ρ (nm j) = (g, off) := by simp [Env.at]
    refine key (g, off) True (fun _ => hf g (List.mem_append.2 (.inl (List.mem_singleton.2 rfl)))) ⟨.inl (by simp [Env.at]), fun _ => ⟨?_, fun _ => ?_, fun e => by cases e⟩⟩ (fun _ => List.mem_singleton.2 rfl) ?_
    ·rw [e1]; exact hrow.mono hok (fun _ _ => rfl) rfl
    ·rw [e1]; exact hnf
    ·simp only [CellRel, hsh1]
     refine ⟨trivial, some ⟨g, off, none⟩, c, by simp [G1], by simpa [O2] using hle, .inr ⟨by simp [Env.at], by simp [Env.at, O2], ?_⟩⟩
     rw [e1]
     simpa [O2] using hR
  | tree e t xs =>
   obtain ⟨A, c, rfl, hle, hx⟩ := p
   simp only [c6, List.map_cons, Upd.name] at hn hd
   obtain ⟨hd1, hd2⟩ := R7 hd
   have hfr : B5 st.heap (nm j) = none := hn _ List.mem_cons_self
   have hnd := List.nodup_append.1 hb
   have hsh1 : hsh (hset st.heap (nm j) (.tree e t xs 0)) (nm j) = some (.row e t xs.length) := by rw [J3, if_pos rfl]; rfl
   have next : ∀ (E1 : Env) (K1 : Keep), RelE E1 ⟨st.tmps, hset st.heap (nm j) (.tree e t xs 0)⟩ saved a S w w K1 → TF (hset st.heap (nm j) (.tree e t xs 0)) w K1 → Grow K K1 → Step E E1 st.heap (hset st.heap (nm j) (.tree e t xs 0)) w w → E1.ok = E.ok →
     CellRel E1 (hset st.heap (nm j) (.tree e t xs 0)) w (.row (nm j) none none) (.slice A xs.length c) → (∀ b, b ∉ b1 → Free E st.heap K w b → Free E1 (hset st.heap (nm j) (.tree e t xs 0)) K1 w b) →
     ∃ E' K', RelE E' (st.upds (c6 nm j (.tree e t xs :: rs)).2.1) saved a S w w K' ∧ TF (st.upds (c6 nm j (.tree e t xs :: rs)).2.1).heap w K' ∧ Grow K K' ∧ All2 (CellRel E' (st.upds (c6 nm j (.tree e t xs :: rs)).2.1).heap w) (c6 nm j (.tree e t xs :: rs)).1 (.slice A xs.length c :: vs) ∧
      Step E E' st.heap (st.upds (c6 nm j (.tree e t xs :: rs)).2.1).heap w w ∧ E'.ok = E.ok ∧ ∀ g, g ∉ b1 ++ b2 → Free E st.heap K w g → Free E' (st.upds (c6 nm j (.tree e t xs :: rs)).2.1).heap K' w g := by
    intro E1 K1 h1 t1 g1 s1 o1 c1 f1
    obtain ⟨E', K', k1, kt, kg, k2, k3, k4, k5⟩ := ih (j + 1) (st := ⟨st.tmps, hset st.heap (nm j) (.tree e t xs 0)⟩) h1 t1 (fun n hn' => by
      rw [A9, if_neg (show ¬ n = nm j from fun e1 => hd1 (by rw [← e1]; exact hn'))]
      exact hn n (List.mem_cons_of_mem _ hn')) hd2 q (fun b hb => by rw [o1]; exact hok b hb) hnd.2.1 (fun b hb' => f1 b (fun hm => hnd.2.2 b hm b hb' rfl) (hf b (List.mem_append.2 (.inr hb'))))
    exact ⟨E', K', k1, kt, g1.trans kg, .cons (c1.step k3) k2, s1.trans k3, k4.trans o1, fun g hg hfg => k5 g (fun hg' => hg (List.mem_append.2 (.inr hg'))) (f1 g (fun hm => hg (List.mem_append.2 (.inl hm))) hfg)⟩
   have free1 : ∀ (pr : Nat × Nat) (bq : Prop) (b : Nat), (bq → pr.1 ≠ b) → Free E st.heap K w b → Free (E.at (nm j) pr bq) (hset st.heap (nm j) (.tree e t xs 0)) K w b := fun pr bq b hb hfb => hfb.named hb
   rcases hx with ⟨rfl, rfl⟩ | ⟨g, off, ns, β, rfl, rfl, hns, hT, hR⟩
   ·have hx0 : xs = [] := List.length_eq_zero_iff.1 (by omega)
    subst hx0
    obtain ⟨r1, t1⟩ := h.newTree0 ht hfr e t 0
    refine next _ _ r1 t1 ⟨fun b hb => hb, fun b hb => hb, fun b _ hb => hb, fun _ _ => rfl⟩ (Ah5 hfr (0, 0) False _) rfl ?_ (fun b _ hfb => free1 (0, 0) False b (fun f => f.elim) hfb)
    simp only [CellRel, hsh1]
    exact ⟨trivial, A, 0, rfl, by simp [O2], .inl rfl⟩
   ·have hfree : ∀ b ∈ g :: ns, Free E st.heap K w b := fun b hb' => hf b (List.mem_append.2 (.inl hb'))
    obtain ⟨r1, t1⟩ := h.newTree ht hfr e 0 hfree hns hT
    refine next _ _ r1 t1 ⟨fun b hb => .inl hb, fun b hb => hb.1, fun b hk hb => hb.resolve_right fun hm => (hfree b hm).2.2.1 hk, fun b hk => by
     have hne : b ≠ g := fun e => (hfree g List.mem_cons_self).2.2.1 (e ▸ hk)
     simp [Keep.plus, hne]⟩ (Ah5 hfr (g, off) True _) rfl ?_ (fun b hb' hfb => ?_)
    ·simp only [CellRel, hsh1]
     refine ⟨trivial, some ⟨g, off, none⟩, c, by simp [G1], by simpa [O2] using hle, .inr ⟨by simp [Env.at], by simp [Env.at, O2], ?_⟩⟩
     have e1 : (E.at (nm j) (g, off) True).ρ (nm j) = (g, off) := by simp [Env.at]
     rw [e1]
     simpa [O2] using hR
    ·obtain ⟨f1, f2, f3, f4⟩ := free1 (g, off) True b (fun _ e => hb' (by rw [← e]; exact List.mem_cons_self)) hfb
     exact ⟨f1, f2, fun hk => hk.elim f3 hb', f4⟩
theorem Bl7 {ok : Nat → Prop} {nm : Nat → Nat} : ∀ (out : List (Bool × List RC)) (j : Nat) {E : Env} {K : Keep} {st : St} {Vs : List Value} {bs : List Nat}, RelE E st saved a S w w K → TF st.heap w K →
  (∀ n ∈ (L2 nm j out).2.map Upd.name, B5 st.heap n = none) → G7 ((L2 nm j out).2.map Upd.name) = true → ResRel ok w out Vs bs → (∀ b, ok b → E.ok b) → bs.Nodup → (∀ b ∈ bs, Free E st.heap K w b) →
  ∃ E' K', RelE E' (st.upds (L2 nm j out).2) saved a S w w K' ∧ TF (st.upds (L2 nm j out).2).heap w K' ∧ Grow K K' ∧ All2 (V1Rel E' (st.upds (L2 nm j out).2).heap w) (L2 nm j out).1 Vs ∧ Step E E' st.heap (st.upds (L2 nm j out).2).heap w w := by
 intro out
 induction out with
 | nil =>
  intro j E K st Vs bs h ht hn hd hr hok hb hf
  cases hr
  exact ⟨E, K, h, ht, .refl K, .nil, Step.refl _ _ _⟩
 | cons x out ih =>
  intro j E K st Vs bs h ht hn hd hr hok hb hf
  obtain ⟨ag, rs⟩ := x
  cases hr with
  | @cons _ _ vs V b1 _ Vs b2 p hV q =>
  simp only [L2, List.map_append] at hn hd
  obtain ⟨hd1, hd2, hdj⟩ := H5 hd
  have hnd := List.nodup_append.1 hb
  obtain ⟨E1, K1, h1, ht1, hg1, h2, h3, h4, h5⟩ := El6 rs j h ht (fun n hn' => hn n (List.mem_append.2 (.inl hn'))) hd1 p hok hnd.1 (fun b hb' => hf b (List.mem_append.2 (.inl hb')))
  obtain ⟨E2, K2, k1, kt, kg, k2, k3⟩ := ih (c6 nm j rs).2.2 h1 ht1 (fun n hn' => by
   rw [J5 _ _ _ (fun hm => hdj n hm hn')]
   exact hn n (List.mem_append.2 (.inr hn'))) hd2 q (fun b hb' => by rw [h4]; exact hok b hb') hnd.2.1 (fun b hb' => h5 b (fun hb1 => hnd.2.2 b hb1 b hb' rfl) (hf b (List.mem_append.2 (.inr hb'))))
  refine ⟨E2, K2, ?_, ?_, hg1.trans kg, ?_, ?_⟩
  ·simp only [L2, L8]; exact k1
  ·simp only [L2, L8]; exact kt
  ·simp only [L2, L8]
   exact .cons ⟨vs, h2.mono fun _ _ r => r.step k3, hV⟩ k2
  ·simp only [L2, L8]; exact h3.trans k3
theorem Bl8 {h : F6} {vs : List V1} {Vs : List Value} (k : All2 (V1Rel E h w) vs Vs) : VRel E h w (c7 vs) (Cv1 Vs) := by
 cases k with
 | nil => exact ⟨[], .nil, rfl⟩
 | cons p q => cases q with
  | nil => exact p
  | cons p' q' => exact ⟨_, .cons p (.cons p' q'), rfl⟩
variable {R : Type} {Kk : List Upd → VV → List Loc → Option R} {l : List Loc} {r : R}
theorem Bl9 : ∀ (us : List Upd) (k : RP) (l : List Loc), (Bg2 us k).run st Kk l = some r → (∀ n ∈ us.map Upd.name, B5 st.heap n = none) ∧ ∃ l', k.run st Kk l' = some r
 | [], k, l, h => ⟨(fun n hn => by cases hn), l, h⟩
 | u :: us, k, l, h => by
  obtain ⟨h1, l1, h2⟩ := V9 h
  obtain ⟨h3, l2, h4⟩ := Bl9 us k l1 h2
  refine ⟨fun n hn => ?_, l2, h4⟩
  cases hn with
  | head => exact h1
  | tail _ hn => exact h3 n hn
theorem Bw6 : ∀ (ns : List Nat) (k : List Upd → RP) (l : List Loc), (Bk8 ns k).run st Kk l = some r → ∃ u l', (k u).run st Kk l' = some r ∧ FrzOk st.heap u ∧ u.map Upd.name = ns
 | [], k, l, h => ⟨[], l, h, (fun x hx => by cases hx), rfl⟩
 | n :: ns, k, l, h => by
  simp only [Bk8, RP.run] at h
  split at h
  ·rename_i e t xs own hg
   obtain ⟨u, l', h1, h2, h3⟩ := Bw6 ns _ _ h
   refine ⟨_, l', h1, fun x hx => ?_, by rw [List.map_cons, h3]; rfl⟩
   cases hx with
   | head => exact ⟨n, e, t, xs, own, rfl, hg⟩
   | tail _ hx => exact h2 x hx
  ·cases h
theorem Bg8 : ∀ (ns : List Nat) (n : Nat), n ∈ ns → n ∈ Bv7 ns
 | [], n, h => by cases h
 | m :: ns, n, h => by
  simp only [Bv7]
  cases hb : ns.any (Nat.beq m) with
  | true =>
   rw [cond_true]
   cases h with
   | head =>
    obtain ⟨b, hb1, hb2⟩ := List.any_eq_true.1 hb
    rw [Nat.eq_of_beq_eq_true hb2]
    exact Bg8 ns b hb1
   | tail _ h => exact Bg8 ns n h
  | false =>
   rw [cond_false]
   cases h with
   | head => exact List.mem_cons_self
   | tail _ h => exact List.mem_cons_of_mem _ (Bg8 ns n h)
structure Ok (P : Program) (cfg : Cfg) : Prop extends Good P cfg where
 enter : ∀ f, ((look cfg.spec f).isSome = true ∨ (look cfg.inl f).isSome = true) → ∀ args w, (callFunc f args).run P w = .ok (.enter f args) w
 spec : ∀ f s, look cfg.spec f = some s → Al4 P f s
 enterM : ∀ f, (look cfg.mspec f).isSome = true → ∀ args w, (callFunc f args).run P w = .ok (.enter f args) w
 mspec : ∀ f s, look cfg.mspec f = some s → j6 P f s
theorem B59 {P : Program} {o : Oper} {c : Call} {f : FuncId} {ρ : Operand → Value} {w : World} (ho : o.op = .call c) {g : Operand} (hc : c.callee = .value g) {cap : Array Value} (hg : ρ g = .func (.func f) #[] cap)
  (he : ∀ args w, (callFunc f args).run P w = .ok (.enter f args) w) : (execOp ρ o).run P w = .ok (.enter f (c.args.map ρ ++ cap)) w := by
 simp [execOp, ho, resolve, hc, hg, Deferred.ofValue, invoke, he]
def Gs0 (P : Program) (o : Oper) (a : Act) (w : World) (st' : St) (v : VV) (saved : List (Nat × List VV)) (S : List (Array Value)) (w0 : World) (K : Keep) : Prop :=
 ∀ (Q : Exit → Act → World → Prop) (next : Act → World → Prop), (∀ a' w' E', RelX E' (Aq9 st' o.dst v) saved a' S w' w0 K → next a' w') → o.wp P a w next Q
def GoesX (P : Program) (o : Oper) (a : Act) (w : World) (st : St) (saved : List (Nat × List VV)) (S : List (Array Value)) (w0 : World) (K : Keep)
  {R : Type} (Kk : List Upd → VV → List Loc → Option R) (r : R) : Prop :=
 ∃ u v l', Kk u v l' = some r ∧ Gs0 P o a w (st.upds u) v saved S w0 K
theorem Grow.dr {w : World} {K K' : Keep} (h : Grow K K') : Dr w K w K' := ⟨rfl, rfl, rfl, Nat.le_refl _, fun b hb => ⟨h.1 b hb, fun _ => rfl⟩, fun b _ ho => h.2.1 b ho, h.2.2.1, fun _ _ h => h, h.2.2.2⟩
theorem TF.frzs : ∀ (u : List Upd) {st : St}, TF st.heap w K → FrzOk st.heap u → G7 (u.map Upd.name) = true → TF (st.upds u).heap w K
 | [], _, h, _, _ => h
 | x :: u, st, h, hf, hd => by
  obtain ⟨o, e, t, xs, own, rfl, hg⟩ := hf x List.mem_cons_self
  simp only [List.map_cons, Upd.name] at hd
  obtain ⟨h1, h2⟩ := R7 hd
  refine TF.frzs u (st := st.upd (.o o (.row e t xs false))) ?_ (fun y hy => ?_) h2
  ·obtain ⟨β, hβ⟩ := h
   have old := fun n ob => Al3 (h := st.heap) (nm := o) (ob := .row e t xs false) rfl n ob
   refine ⟨β, fun n e t xs q hg => hβ.tr n e t xs q (old n _ hg rfl), fun n e t xs q hg => hβ.fx n e t xs q (old n _ hg rfl), fun n n' o o' hne hg hg' he he' => ?_, fun n o' i f e t m hg' => ?_⟩
   ·obtain ⟨e, t, xs, q, rfl⟩ := he
    obtain ⟨e', t', xs', q', rfl⟩ := he'
    exact hβ.ap n n' _ _ hne (old n _ hg rfl) (old n' _ hg' rfl) ⟨_, _, _, _, rfl⟩ ⟨_, _, _, _, rfl⟩
   ·obtain ⟨e2, t2, xs2, q2, k1, k2⟩ := hβ.bo n o' i f e t m (old n _ hg' rfl)
    refine ⟨e2, t2, xs2, q2, ?_, k2⟩
    show B5 (Vm.hset st.heap o _) o' = _
    rw [A9, if_neg (fun e => by rw [e, hg] at k1; cases k1)]
    exact k1
  ·obtain ⟨o', e', t', xs', own', rfl, hg'⟩ := hf y (List.mem_cons_of_mem _ hy)
   refine ⟨o', e', t', xs', own', rfl, ?_⟩
   show B5 (Vm.hset st.heap o _) o' = _
   rw [A9, if_neg (fun e => h1 (by rw [← e]; exact List.mem_map.2 ⟨_, hy, rfl⟩))]
   exact hg'
theorem Gs1 {P : Program} {cfg : Cfg} {o : Oper} (hG : Ok P cfg) (hX : RelX E st saved a S w w0 K) {c : Call} {f : FuncId} {nm : Nat → Nat} (ho : o.op = .call c) (hc : c.callee = .value (.func f))
  (hrun : (w6 c.args.toList fun vs => match look cfg.spec f with
  | some s => Dy2 nm s vs []
  | none => .fail).run st Kk l = some r) : GoesX P o a w st saved S w0 K Kk r := by
 obtain ⟨wb, K1, hD, hT0, hB⟩ := hX
 have h := hB.rebase0
 have hT := hB.now hT0
 have hD := hD.trans hB.drift
 obtain ⟨vs, l1, h1, h2⟩ := Z0 _ _ _ hrun
 have hv := h2 h
 cases hs : look cfg.spec f with
 | none => rw [hs] at h1; cases h1
 | some s =>
  rw [hs] at h1
  obtain ⟨out, ms, l2, h3, hms, hcall⟩ := El5 s vs [] l1 h1 (fun n hn => by cases hn)
  rw [List.nil_append] at h3 hms
  have hlt : ∀ b, okX E K1 st.heap ms b → b < w.heap.size := by
   rintro b ((hb | ⟨n, hn, ⟨e, t, xs, own, hg⟩, hh, rfl⟩) | ⟨_, hm⟩)
   ·exact h.bo b hb
   ·exact h.bd n (by rw [hg]; rfl) hh
   ·exact (h.kp b hm.1).1
  have hC := hcall h hT (fun b hb => hb) hv (hG.spec f s hs (okX E K1 st.heap ms) w hlt hD.err)
  rw [List.nil_append] at hC
  have hex := B59 (P := P) (w := w) (ρ := a.eval) ho hc (cap := #[]) rfl (hG.enter f (.inl (by rw [hs]; rfl)))
  have harr : (c.args.toList.map a.eval).toArray = c.args.map a.eval ++ #[] := by
   apply Array.toList_inj.1; simp
  rw [harr] at hC
  obtain ⟨hfr, l3, h4⟩ := Bl9 _ _ _ h3
  have fin : ∀ (u : List Upd) (l4 : List Loc), (p0 (u ++ (L2 nm 0 out).2) (c7 (L2 nm 0 out).1)).run st Kk l4 = some r → FrzOk st.heap u →
    (∀ (good : Nat → Prop) (w' : World) (Vs : List Value) (bs : List Nat), ResRel (fun b => okX E K1 st.heap ms b ∨ good b) w' out Vs bs → ResRel (fun b => okU E u b ∨ good b) w' out Vs bs) → GoesX P o a w st saved S w0 K Kk r := by
   intro u l4 h5 hfrz himp
   obtain ⟨hd, hK⟩ := Aj3 h5
   rw [List.map_append] at hd
   obtain ⟨hd1, hd2, hdj⟩ := H5 hd
   refine ⟨_, _, _, hK, fun Q next hnx => ?_⟩
   unfold Oper.wp
   rw [hex, Oper.upon_enter]
   refine Calls.mono hC fun e w' hR => ?_
   obtain ⟨V, rfl, hret⟩ := hR
   obtain ⟨good, Vs, bs, hgood, hres, hnd, hbs, rfl⟩ := hret.res
   obtain ⟨E1, r1, e1, e2, e3⟩ := h.frzs u hfrz hd1
   have r2a := r1.after hret.size hret.same hret.os hret.tape hret.put good hgood
   have t2 := r2a.now (hT.frzs u hfrz hd1)
   have r2 := r2a.rebase0
   obtain ⟨E', K', r3, t3, g3', hV, _⟩ := Bl7 out 0 (ok := fun b => okU E u b ∨ good b) r2 t2 (fun n hn => by
    rw [J5 u st n (fun hm => hdj n hm hn)]
    exact hfr n hn) hd2 (himp _ _ _ _ hres) (fun b hb => hb.imp (fun hb => (e3 b).1 hb) id) hnd (fun b hb => by
     obtain ⟨g1, g2, g3⟩ := hbs b hb
     refine ⟨fun n hl hh => ?_, ?_, fun hk => ?_, g2⟩
     ·have := r1.bd n (P5 hl) hh
      exact Nat.ne_of_lt (Nat.lt_of_lt_of_le this g1)
     ·rintro (hk | hk)
      ·exact absurd (r1.bo b hk) (Nat.not_lt.2 g1)
      ·exact g3 hk
     ·exact absurd (r1.kp b hk).1 (Nat.not_lt.2 g1))
   refine hnx _ _ E' ?_
   rw [L8]
   exact RelX.put ⟨w', K', (hD.trans r2a.drift).trans g3'.dr, t3, r3⟩ o.dst (Bl8 hV)
  cases hsh : V8 out with
  | true =>
   rw [hsh] at h4
   simp only [cond_true] at h4
   obtain ⟨u, l4, h5, hfrz, hnames⟩ := Bw6 _ _ _ h4
   refine fin u l4 h5 hfrz fun good w' Vs bs hres => hres.imp fun _ _ rc _ v bs hrc => hrc.mono fun b hb => hb.imp ?_ id
   have hin : ∀ n ∈ ms, ∃ ob, Upd.o n ob ∈ u := fun n hn => by
    have : n ∈ u.map Upd.name := by rw [hnames]; exact Bg8 ms n hn
    obtain ⟨x, hx, hxn⟩ := List.mem_map.1 this
    obtain ⟨n', ob⟩ := x
    have e : n' = n := hxn
    subst e
    exact ⟨ob, hx⟩
   rintro ((hb | ⟨n, hn, _, hh, rfl⟩) | ⟨⟨n, hn, e, t, xs, q, hg⟩, _⟩)
   ·exact .inl hb
   ·obtain ⟨ob, hx⟩ := hin n hn
    exact .inr ⟨n, ob, hx, hh, rfl⟩
   ·obtain ⟨ob, hx⟩ := hin n hn
    obtain ⟨o', e', t', xs', own', e1, hg'⟩ := hfrz _ hx
    cases e1
    rw [hg] at hg'; cases hg'
  | false =>
   rw [hsh] at h4
   simp only [cond_false] at h4
   refine fin [] l3 h4 (fun x hx => by cases hx) fun good w' Vs bs hres => hres.imp fun x hx rc hrc v bs hr => hr.flat ?_
   unfold V8 at hsh
   have h6 := List.any_eq_false.1 hsh x hx
   have h7 : x.2.any RC.shared = false := by simpa using h6
   have := List.any_eq_false.1 h7 rc hrc
   simpa using this
end
end Go.Vm
end
section
namespace Go.Vm
open Go
section
variable {E : Env} {st : St} {saved : List (Nat × List VV)} {a : Act} {S : List (Array Value)} {w w' w0 : World} {K : Keep}
theorem t8 : ∀ (u : List Upd) (s : St) (n : Nat) (ob : Obj), G7 (u.map Upd.name) = true → Upd.o n ob ∈ u → B5 (s.upds u).heap n = some ob
 | [], s, n, ob, _, h => by cases h
 | .o m o :: u, s, n, ob, hd, h => by
  simp only [List.map_cons, Upd.name] at hd
  obtain ⟨h1, h2⟩ := R7 hd
  show B5 ((s.upd (.o m o)).upds u).heap n = _
  cases h with
  | head =>
   rw [J5 u _ _ h1]
   show B5 (hset s.heap _ _) _ = _
   rw [A9, if_pos rfl]
  | tail _ h => exact t8 u _ n ob h2 h
theorem A15 {u : List Upd} {n : Nat} (h : n ∈ u.map Upd.name) : ∃ ob, Upd.o n ob ∈ u := by
 obtain ⟨x, hx, e⟩ := List.mem_map.1 h
 obtain ⟨m, ob⟩ := x
 have e2 : m = n := e
 subst e2
 exact ⟨ob, hx⟩
theorem RelE.afterM (h : RelE E st saved a S w w0 K) (us : List Upd) (C : Nat → Prop) (hd : G7 (us.map Upd.name) = true)
  (hus : ∀ n ob', Upd.o n ob' ∈ us → ∃ ob, B5 st.heap n = some ob ∧ H7 ob' = H7 ob ∧ E5 st.heap n) (hnt : ∀ n ob', Upd.o n ob' ∈ us → ob'.tr = false)
  (hC : ∀ n, E5 st.heap n → E.has n → C (E.ρ n).1 → n ∈ us.map Upd.name) (hCk : ∀ b, C b → ¬ E.ok b ∧ ¬ K b)
  (hsz : w.heap.size ≤ w'.heap.size) (hs : ∀ b, b < w.heap.size → ¬ C b → w'.heap[b]? = w.heap[b]?) (hroom : ∀ g m, Room w g m → Room w' g m)
  (ho : w'.os = w.os) (ht : w'.tape = w.tape) (hu : w'.output = w.output) (good : Nat → Prop) (hg : ∀ b, good b → w.heap.size ≤ b ∧ b < w'.heap.size)
  (obs : ∀ n ob', Upd.o n ob' ∈ us → ∀ {h'}, Step E ⟨E.ρ, E.has, fun b => E.ok b ∨ good b⟩ st.heap h' w w' → ObjRel ⟨E.ρ, E.has, fun b => E.ok b ∨ good b⟩ h' w' n ob') :
  RelE ⟨E.ρ, E.has, fun b => E.ok b ∨ good b⟩ (st.upds us) saved a S w' w0 K := by
 have hget' : ∀ n, n ∉ us.map Upd.name → B5 (st.upds us).heap n = B5 st.heap n := fun n hn => J5 us st n hn
 have k : Step E ⟨E.ρ, E.has, fun b => E.ok b ∨ good b⟩ st.heap (st.upds us).heap w w' := by
  refine ⟨fun _ _ => rfl, fun _ _ => Iff.rfl, fun _ h => .inl h, fun b hb => hs b (h.bo b hb) (fun hc => (hCk b hc).1 hb), hroom, fun m s hm => .inl ?_⟩
  by_cases e : m ∈ us.map Upd.name
  ·obtain ⟨ob', hob⟩ := A15 e
   obtain ⟨ob, h1, h2, _⟩ := hus m ob' hob
   simp only [hsh, t8 us st m ob' hd hob, Option.map_some]
   simp only [hsh, h1, Option.map_some] at hm
   rw [h2]; exact hm
  ·simp only [hsh, hget' m e]; exact hm
 have hlive : ∀ m, E5 (st.upds us).heap m → E5 st.heap m := by
  intro m hm
  by_cases e : m ∈ us.map Upd.name
  ·obtain ⟨ob', hob⟩ := A15 e
   exact (hus m ob' hob).elim fun _ h => h.2.2
  ·unfold E5 at hm ⊢
   rwa [hget' m e] at hm
 refine ⟨?_, h.df, h.sv.mono fun _ _ q => J7 k q, ?_, ?_, ?_, ?_, ?_, ?_, ho.trans h.os, ht.trans h.tape, hu.trans h.out, Nat.le_trans h.size hsz, ?_, fun g m hr => k.room g m (h.rm g m hr), h.trees k fun n o hn ho' => ?_⟩
 rotate_right
 ·by_cases e : n ∈ us.map Upd.name
  ·obtain ⟨ob', hob⟩ := A15 e
   rw [t8 us st n ob' hd hob] at hn
   cases hn
   rw [hnt n _ hob] at ho'; cases ho'
  ·rwa [hget' n e] at hn
 ·rw [A38]; exact J7 k h.tm
 ·intro m o hm
  by_cases e : m ∈ us.map Upd.name
  ·obtain ⟨ob', hob⟩ := A15 e
   rw [t8 us st m ob' hd hob] at hm
   cases hm
   exact obs m o hob k
  ·rw [hget' m e] at hm
   have hq := h.ob m o hm
   by_cases hdead : o = .dead
   ·subst hdead; trivial
   by_cases htr : o.tr = true
   ·cases o <;> first | trivial | cases htr
   refine hq.step k (by rw [hm]; rfl) (fun h => h) (fun hh => hs _ (h.bd m (by rw [hm]; rfl) hh) (fun hc => ?_))
   cases o with
   | dead => exact absurd rfl hdead
   | tree => exact absurd rfl htr
   | bor => exact absurd rfl htr
   | box cs => exact e (hC m (by unfold E5; rw [hm]; trivial) hh hc)
   | row e' t xs own => cases own with
    | true => exact e (hC m (by unfold E5; rw [hm]; trivial) hh hc)
    | false => exact (hCk _ hc).1 ((hq.2 hh).2.2 rfl)
   | mp t xs => exact e (hC m (by unfold E5; rw [hm]; trivial) hh hc)
 ·intro m m' hne hl hl' hh hh'
  exact h.dj m m' hne (hlive m hl) (hlive m' hl') hh hh'
 ·intro n hl hh
  obtain ⟨h1, h2⟩ := h.dk n (hlive n hl) hh
  refine ⟨fun hk => hk.elim h1 fun hk => ?_, h2⟩
  have h3 := (hg _ hk).1
  have h4 := h.bd n (P5 (hlive n hl)) hh
  exact absurd h4 (Nat.not_lt.2 h3)
 ·intro n hn hh
  refine Nat.lt_of_lt_of_le (h.bd n ?_ hh) hsz
  by_cases e : n ∈ us.map Upd.name
  ·obtain ⟨ob', hob⟩ := A15 e
   obtain ⟨ob, h1, _⟩ := hus n ob' hob
   rw [h1]; rfl
  ·rwa [hget' n e] at hn
 ·intro b hb
  rcases hb with hb | hb
  ·exact Nat.lt_of_lt_of_le (h.bo b hb) hsz
  ·exact (hg b hb).2
 ·intro b hb
  obtain ⟨h1, h2⟩ := h.kp b hb
  exact ⟨Nat.lt_of_lt_of_le h1 hsz, (hs b h1 (fun hc => (hCk b hc).2 hb)).trans h2⟩
 ·intro b hb hk
  rcases hb with hb | hb
  ·exact h.oz b hb hk
  ·exact absurd (h.kp b hk).1 (Nat.not_lt.2 (hg b hb).1)
theorem RelE.kills : ∀ (us : List Upd) {st : St}, RelE E st saved a S w w0 K → G7 (us.map Upd.name) = true → (∀ x ∈ us, ∃ n e t xs own, x = .o n .dead ∧ B5 st.heap n = some (.row e t xs own)) → RelE E (st.upds us) saved a S w w0 K
 | [], st, h, _, _ => h
 | x :: us, st, h, hd, hu => by
  obtain ⟨n, e, t, xs, own, rfl, hg⟩ := hu _ List.mem_cons_self
  simp only [List.map_cons, Upd.name] at hd
  obtain ⟨h1, h2⟩ := R7 hd
  refine RelE.kills us (h.kill hg) h2 fun y hy => ?_
  obtain ⟨m, e', t', xs', own', rfl, hm⟩ := hu y (List.mem_cons_of_mem _ hy)
  refine ⟨m, e', t', xs', own', rfl, ?_⟩
  show B5 (hset st.heap n .dead) m = _
  rw [A9, if_neg (fun e => h1 (by rw [← e]; exact List.mem_map.2 ⟨_, hy, rfl⟩))]
  exact hm
inductive MRefs (E : Env) (h : F6) : List Mref → List MD → Prop where
 | nil : MRefs E h [] []
 | box {o t cs ms ds} : E.has o → B5 h o = some (.box cs) → cs.length = t.sz → MRefs E h ms ds → MRefs E h (.box o t :: ms) (.box (E.ρ o).1 (E.ρ o).2 :: ds)
 | row {o e t xs c ms ds} : E.has o → B5 h o = some (.row e t xs true) → MRefs E h ms ds → MRefs E h (.row o e t xs.length :: ms) (.row (E.ρ o).1 (E.ρ o).2 c :: ds)
 | rnil {o e t ms ds} : B5 h o = some (.row e t [] true) → MRefs E h ms ds → MRefs E h (.row o e t 0 :: ms) (.nil :: ds)
 | none {ms ds} : MRefs E h ms ds → MRefs E h (.none :: ms) (.nil :: ds)
theorem MRefs.append {h : F6} {ms ms2 : List Mref} {ds ds2 : List MD} (p : MRefs E h ms ds) (q : MRefs E h ms2 ds2) : MRefs E h (ms ++ ms2) (ds ++ ds2) := by
 induction p with
 | nil => exact q
 | box a b c _ ih => exact .box a b c ih
 | row a b _ ih => exact .row a b ih
 | rnil a _ ih => exact .rnil a ih
 | none _ ih => exact .none ih
theorem MRefs.blk {h : F6} {ms : List Mref} {ds : List MD} (p : MRefs E h ms ds) : ∀ b ∈ ds.flatMap MD.blk, ∃ o ∈ ms.flatMap Mref.names, E.has o ∧ E5 h o ∧ b = (E.ρ o).1 := by
 induction p with
 | nil => intro b hb; simp at hb
 | @box o t cs ms ds a b c _ ih =>
  intro x hx
  simp only [List.flatMap_cons, MD.blk, List.cons_append, List.nil_append, List.mem_cons] at hx
  rcases hx with rfl | hx
  ·exact ⟨o, by simp [Mref.names], a, by unfold E5; rw [b]; trivial, rfl⟩
  ·obtain ⟨o', h1, h2⟩ := ih x hx
   exact ⟨o', by simp only [List.flatMap_cons, List.mem_append]; exact .inr h1, h2⟩
 | @row o e t xs c ms ds a b _ ih =>
  intro x hx
  simp only [List.flatMap_cons, MD.blk, List.cons_append, List.nil_append, List.mem_cons] at hx
  rcases hx with rfl | hx
  ·exact ⟨o, by simp [Mref.names], a, by unfold E5; rw [b]; trivial, rfl⟩
  ·obtain ⟨o', h1, h2⟩ := ih x hx
   exact ⟨o', by simp only [List.flatMap_cons, List.mem_append]; exact .inr h1, h2⟩
 | rnil a _ ih =>
  intro x hx
  simp only [List.flatMap_cons, MD.blk, List.nil_append] at hx
  obtain ⟨o', h1, h2⟩ := ih x hx
  exact ⟨o', by simp only [List.flatMap_cons, List.mem_append]; exact .inr h1, h2⟩
 | none _ ih =>
  intro x hx
  simp only [List.flatMap_cons, MD.blk, List.nil_append] at hx
  obtain ⟨o', h1, h2⟩ := ih x hx
  exact ⟨o', by simp only [List.flatMap_cons, List.mem_append]; exact .inr h1, h2⟩
theorem Cg9 {l m : List Nat} (h : G7 (l ++ m) = true) {n : Nat} (hn : n ∈ m) : n ∉ l := fun hl => (H5 h).2.2 n hl hn
theorem Dz7 {l m : List Nat} (h : Fs1 l m = true) {n : Nat} (hn : n ∈ l) : n ∉ m := by
 intro hm
 have := List.all_eq_true.1 h n hn
 simp only [Bool.not_eq_true'] at this
 have h2 : m.any (Nat.beq n) = true := List.any_eq_true.2 ⟨n, hm, Nat.beq_refl n⟩
 rw [this] at h2; cases h2
variable {P : Program} {f : FuncId} {R : Type} {Kk : List Upd → VV → List Loc → Option R} {l : List Loc} {r : R}
theorem PostOk.mono {ok ok' : Nat → Prop} (hok : ∀ b, ok b → ok' b) {ds : List MD} {ps : List Po} (h : PostOk ok w ds ps) : PostOk ok' w ds ps := by
 induction h with
 | nil => exact .nil
 | box p q _ ih => exact .box (p.mono hok (fun _ _ => rfl)) q ih
 | row p q _ ih => exact .row (p.mono hok (fun _ _ => rfl) rfl) q ih
 | gone _ ih => exact .gone ih
 | none _ ih => exact .none ih
 | tree p _ ih => exact .tree p ih
 | noneT _ ih => exact .noneT ih
theorem PostOk.flat {ok ok' : Nat → Prop} {ds : List MD} {ps : List Po} (hf : ps.all Po.flat = true) (h : PostOk ok w ds ps) : PostOk ok' w ds ps := by
 induction h with
 | nil => exact .nil
 | box p q _ ih =>
  simp only [List.all_cons, Bool.and_eq_true] at hf
  exact .box (A53 hf.1 p) q (ih hf.2)
 | row p q _ ih =>
  simp only [List.all_cons, Bool.and_eq_true] at hf
  refine .row (fun i hi => ?_) q (ih hf.2)
  obtain ⟨ds, hd, hj⟩ := p i hi
  exact ⟨ds, A53 hf.1 hd, hj⟩
 | gone _ ih =>
  simp only [List.all_cons, Bool.and_eq_true] at hf
  exact .gone (ih hf.2)
 | none _ ih =>
  simp only [List.all_cons, Bool.and_eq_true] at hf
  exact .none (ih hf.2)
 | tree p _ ih =>
  simp only [List.all_cons, Bool.and_eq_true] at hf
  exact .tree p (ih hf.2)
 | noneT _ ih =>
  simp only [List.all_cons, Bool.and_eq_true] at hf
  exact .noneT (ih hf.2)
theorem Cp5 : ∀ (ns : List Nat) (n : Nat), n ∈ Bv7 ns → n ∈ ns
 | [], n, h => h
 | m :: ns, n, h => by
  simp only [Bv7] at h
  cases hb : ns.any (Nat.beq m) with
  | true => rw [hb] at h; exact List.mem_cons_of_mem _ (Cp5 ns n h)
  | false =>
   rw [hb] at h
   cases h with
   | head => exact List.mem_cons_self
   | tail _ h => exact List.mem_cons_of_mem _ (Cp5 ns n h)
def Gq4 (nm : Nat → Nat) (out : List (Bool × List RC)) (ps : List Po) (p : List Upd × List Upd) (ns : List Nat) : RP :=
 Bg2 (L2 nm 0 out).2 (bif V8 out || !ps.all Po.flat then Bk8 (Bv7 ns) fun u => p0 (u ++ p.2 ++ p.1 ++ (L2 nm 0 out).2) (c7 (L2 nm 0 out).1)
   else p0 (p.2 ++ p.1 ++ (L2 nm 0 out).2) (c7 (L2 nm 0 out).1))
theorem Fw1 {nm : Nat → Nat} {t : Ty} {k : El t → MSpec} {v : V1} {vs : List V1} {ns : List Nat} {ms : List Mref} (h : (V2 nm (.box t k) (v :: vs) ns ms).run st Kk l = some r) : ∃ o, v = ⟨false, [.ptr o 0]⟩ := by
 rcases v with ⟨ag, cs⟩
 cases ag with
 | true => simp [V2, RP.run] at h
 | false => cases cs with
  | nil => simp [V2, RP.run] at h
  | cons c cs => cases cs with
   | cons _ _ => simp [V2, RP.run] at h
   | nil => cases c with
    | ptr o f => cases f with
     | zero => exact ⟨o, rfl⟩
     | succ f => simp [V2, RP.run] at h
    | _ => simp [V2, RP.run] at h
theorem Fw2 {nm : Nat → Nat} {e : TypeId} {t : Ty} {k : List (El t) → MSpec} {v : V1} {vs : List V1} {ns : List Nat} {ms : List Mref} (h : (V2 nm (.row e t k) (v :: vs) ns ms).run st Kk l = some r) :
  v = ⟨false, [.nilS]⟩ ∨ ∃ o, v = ⟨false, [.row o none none]⟩ := by
 rcases v with ⟨ag, cs⟩
 cases ag with
 | true => simp [V2, RP.run] at h
 | false => cases cs with
  | nil => simp [V2, RP.run] at h
  | cons c cs => cases cs with
   | cons _ _ => cases c <;> simp [V2, RP.run] at h
   | nil => cases c with
    | nilS => exact .inl rfl
    | row o lo hi => cases lo with
     | none => cases hi with
      | none => exact .inr ⟨o, rfl⟩
      | some b => simp [V2, RP.run] at h
     | some a => simp [V2, RP.run] at h
    | _ => simp [V2, RP.run] at h
theorem Fw3 : ∀ (ms : List Mref) (ps : List Po) (k : RP) (l : List Loc), (Dc2 ms ps k).run st Kk l = some r → k.run st Kk l = some r ∧ Dc1 ms ps = u9 ms ps := by
 intro ms
 induction ms with
 | nil => intro ps k l h; cases ps <;> exact ⟨h, rfl⟩
 | cons m ms ih =>
  intro ps k l h
  cases ps with
  | nil => exact ⟨by cases m <;> exact h, rfl⟩
  | cons p ps =>
   have key : (k.run st Kk l = some r ∧ Dc1 ms ps = u9 ms ps) ∧ Fs0 m p = O8 m p := by
    cases m with
    | box o t => cases p <;> exact ⟨ih _ _ _ h, rfl⟩
    | none => cases p with
     | box _ _ => exact ⟨ih _ _ _ h, rfl⟩
     | gone => exact ⟨ih _ _ _ h, rfl⟩
     | tree _ _ => exact ⟨ih _ _ _ h, rfl⟩
     | row t ys =>
      simp only [Dc2, RP.run] at h
      cases hc : Nat.beq ys.length 0 with
      | false => rw [hc] at h; cases h
      | true => rw [hc] at h; exact ⟨ih _ _ _ h, by simp [Fs0, O8, hc]⟩
    | row o e t n => cases p with
     | box _ _ => exact ⟨ih _ _ _ h, rfl⟩
     | gone => exact ⟨ih _ _ _ h, rfl⟩
     | tree _ _ => exact ⟨ih _ _ _ h, rfl⟩
     | row t' ys =>
      simp only [Dc2, RP.run] at h
      cases hc : Nat.beq ys.length n with
      | false => rw [hc] at h; cases h
      | true => rw [hc] at h; exact ⟨ih _ _ _ h, by simp [Fs0, O8, hc]⟩
   refine ⟨key.1.1, ?_⟩
   simp only [Dc1, u9, key.2, key.1.2]
theorem El7 {nm : Nat → Nat} : ∀ (s : MSpec) (vs : List V1) (ns : List Nat) (ms : List Mref) (l : List Loc), (V2 nm s vs ns ms).run st Kk l = some r → RowNames st.heap ns →
  ∃ out ps p ns' ms' l', (Gq4 nm out ps p (ns ++ ns')).run st Kk l' = some r ∧ RowNames st.heap (ns ++ ns') ∧ G7 ((ms ++ ms').flatMap Mref.names) = true ∧ Fs1 (ns ++ ns') ((ms ++ ms').flatMap Mref.names) = true ∧
   u9 (ms ++ ms') ps = some p ∧
   ∀ {E saved a S w w0 K ok Vs pre ds}, RelE E st saved a S w w0 K → TF st.heap w K → (∀ g, D53 = some g → K g) → (∀ b, okX E K st.heap ns' b → ok b) → (∀ o ∈ ms'.flatMap Mref.names, E5 st.heap o → E.has o → ¬ ok (E.ρ o).1) → All2 (V1Rel E st.heap w) vs Vs →
    MRefs E st.heap ms ds → MOk P f ok w s pre ds → ∃ ds', MRefs E st.heap (ms ++ ms') (ds ++ ds') ∧
    Calls P f (pre ++ Vs).toArray w fun e w' => ∃ V, e = .returned V ∧ RetM ok w w' out V (ds ++ ds') ps := by
 intro s
 induction s with
 | tree e t k ih =>
  intro vs ns ms l h hns
  cases vs <;> simp [V2, RP.run] at h
 | body o out post =>
  intro vs ns ms l h hns
  cases vs with
  | cons v vs => simp [V2, RP.run] at h
  | nil =>
   simp only [V2] at h
   cases hc : (G7 (ms.flatMap Mref.names) && Fs1 ns (ms.flatMap Mref.names)) with
   | false => rw [hc] at h; cases h
   | true =>
    rw [hc] at h
    simp only [cond_true] at h
    simp only [Bool.and_eq_true] at hc
    cases o with
    | none => cases h
    | some a =>
     simp only [RP.run] at h
     obtain ⟨h, hpe⟩ := Fw3 _ _ _ _ h
     rw [hpe] at h
     cases hp : u9 ms (post a) with
     | none => rw [hp] at h; exact absurd h (by intro h; cases h)
     | some p =>
      rw [hp] at h
      refine ⟨out a, post a, p, [], [], l, by rw [List.append_nil]; exact h, by simpa using hns, by simpa using hc.1, by simpa using hc.2, by simpa using hp, fun {E saved a' S w w0 K ok Vs pre ds} hr ht he hok hsep hv hm hs => ⟨[], by simpa using hm, ?_⟩⟩
      cases hv
      simp only [List.append_nil]
      exact hs (fun g hg hb => by
       obtain ⟨o', _, g2, g3, g4⟩ := hm.blk _ hb
       exact (hr.dk o' g3 g2).2 (g4 ▸ he g hg)) a rfl
 | imm t k ih =>
  intro vs ns ms l h hns
  cases vs with
  | nil => simp [V2, RP.run] at h
  | cons v vs =>
   simp only [V2] at h
   cases hag : (bif v.agg then t.agg else !t.agg) with
   | false => rw [hag] at h; cases h
   | true =>
    rw [hag] at h
    simp only [cond_true] at h
    obtain ⟨x, rest, ns1, l1, h1, hns1, hx⟩ := Bl6 _ _ _ _ h
    cases rest with
    | cons _ _ => cases h1
    | nil =>
     obtain ⟨out, ps, p, ns', ms', l2, h2, h3, h4, h5, h6, hcall⟩ := ih x vs (ns ++ ns1) ms l1 h1 (hns.append hns1)
     refine ⟨out, ps, p, ns1 ++ ns', ms', l2, by rw [← List.append_assoc]; exact h2, by rw [← List.append_assoc]; exact h3, h4, by rw [← List.append_assoc]; exact h5, h6, fun {E saved a' S w w0 K ok Vs pre ds} hr ht he hok hsep hv hm hs => ?_⟩
     cases hv with
     | @cons _ V _ Vs' pv q =>
      have harg : A52 ok w t x V := by
       obtain ⟨us, hus, hV⟩ := pv
       obtain ⟨v1, v2, e1, hi, hv2⟩ := hx hr ht hus
       cases hv2
       rw [List.append_nil] at e1
       subst e1
       refine ⟨us, hi.mono (fun b hb => hok b (Cg8 b hb)) (fun _ _ => rfl), ?_⟩
       rcases hV with ⟨h1, h2⟩ | ⟨h1, h2⟩
       ·rw [h1] at hag; exact .inl ⟨hag, h2⟩
       ·rw [h1] at hag; exact .inr ⟨by simpa using hag, h2⟩
      obtain ⟨ds', hd, hc⟩ := hcall hr ht he (fun b hb => hok b (B58 b hb)) hsep q hm (hs x V harg)
      exact ⟨ds', hd, by rwa [List.append_assoc] at hc⟩
 | box t k ih =>
  intro vs ns ms l h hns
  cases vs with
  | nil => simp [V2, RP.run] at h
  | cons v vs =>
   obtain ⟨o, rfl⟩ := Fw1 h
   simp only [V2, RP.run] at h
   cases hg : B5 st.heap o with
   | none => rw [hg] at h; cases h
   | some b =>
    rw [hg] at h
    cases b with
    | box cs =>
     simp only at h
     obtain ⟨x, rest, ns1, l1, h1, hns1, hx⟩ := Bl6 _ _ _ _ h
     cases rest with
     | cons _ _ => cases h1
     | nil =>
      obtain ⟨out, ps, p, ns', ms', l2, h2, h3, h4, h5, h6, hcall⟩ := ih x vs (ns ++ ns1) (ms ++ [.box o t]) l1 h1 (hns.append hns1)
      rw [List.append_assoc] at h2 h3 h5
      rw [List.append_assoc, List.singleton_append] at h4 h5 h6
      refine ⟨out, ps, p, ns1 ++ ns', .box o t :: ms', l2, h2, h3, h4, h5, h6, fun {E saved a' S w w0 K ok Vs pre ds} hr ht he hok hsep hv hm hs => ?_⟩
      cases hv with
      | @cons _ V _ Vs' pv q =>
       obtain ⟨n, hsh1, hV⟩ := V1Rel.one pv
       obtain ⟨hh, us, hus, hcell⟩ := hr.ob o _ hg
       obtain ⟨v1, v2, e1, hi, hv2⟩ := hx hr ht hus
       cases hv2
       rw [List.append_nil] at e1
       subst e1
       have hl : E5 st.heap o := by unfold E5; rw [hg]; trivial
       have hlen : cs.length = t.sz := by rw [hus.length, hi.len]
       have hnb : (E.ρ o).1 ∉ ds.flatMap MD.blk := by
        intro hb
        obtain ⟨o', g1, g2, g3, g4⟩ := hm.blk _ hb
        have hne : o ≠ o' := by
         rintro rfl
         rw [List.flatMap_append] at h4
         exact Cg9 h4 (by simp [Mref.names]) g1
        exact hr.dj o o' hne hl g3 hh g2 g4
       have := hs x (E.ρ o).1 (E.ρ o).2 us (hi.mono (fun b hb => hok b (Cg8 b hb)) (fun _ _ => rfl)) hcell (hr.bd o (by rw [hg]; rfl) hh) (hsep o (by simp [Mref.names]) hl hh) hnb
       obtain ⟨ds', hd, hc⟩ := hcall hr ht he (fun b hb => hok b (B58 b hb)) (fun o' ho' => hsep o' (by simp only [List.flatMap_cons, List.mem_append]; exact .inr ho')) q (hm.append (.box hh hg hlen .nil)) this
       refine ⟨.box (E.ρ o).1 (E.ρ o).2 :: ds', ?_, ?_⟩
       ·simpa using hd
       ·have e0 : V = .pointer (some ⟨(E.ρ o).1, (E.ρ o).2, none⟩) := by simpa using hV
        rw [e0]
        simpa using hc
    | _ => cases h
 | row e t k ih =>
  intro vs ns ms l h hns
  cases vs with
  | nil => simp [V2, RP.run] at h
  | cons v vs =>
   rcases Fw2 h with rfl | ⟨o, rfl⟩
   ·simp only [V2] at h
    obtain ⟨out, ps, p, ns', ms', l2, h2, h3, h4, h5, h6, hcall⟩ := ih [] vs ns (ms ++ [.none]) l h hns
    rw [List.append_assoc, List.singleton_append] at h4 h5 h6
    refine ⟨out, ps, p, ns', .none :: ms', l2, h2, h3, h4, h5, h6, fun {E saved a' S w w0 K ok Vs pre ds} hr ht he hok hsep hv hm hs => ?_⟩
    cases hv with
    | @cons _ V _ Vs' pv q =>
     have hV : V = .slice none 0 0 := V1Rel.one pv
     obtain ⟨ds', hd, hc⟩ := hcall hr ht he hok (fun o' ho' => hsep o' (by simp only [List.flatMap_cons, List.mem_append]; exact .inr ho')) q (hm.append (.none .nil)) (hs.1 none)
     refine ⟨.nil :: ds', by simpa using hd, ?_⟩
     rw [hV]
     simpa using hc
   ·simp only [V2, RP.run] at h
    cases hg : B5 st.heap o with
    | none => rw [hg] at h; cases h
    | some b =>
     rw [hg] at h
     cases b with
     | row e' t' xs own =>
      cases own with
      | false => cases h
      | true =>
       simp only at h
       cases hb : Nat.beq e e' with
       | false => rw [hb] at h; cases h
       | true =>
        rw [hb] at h
        simp only [cond_true] at h
        have he := Nat.eq_of_beq_eq_true hb
        subst he
        split at h
        ·rename_i ys hy
         obtain ⟨rfl, rfl⟩ := G2 hy
         simp only at h
         obtain ⟨out, ps, p, ns', ms', l2, h2, h3, h4, h5, h6, hcall⟩ := ih xs vs ns (ms ++ [.row o e t' xs.length]) _ h hns
         rw [List.append_assoc, List.singleton_append] at h4 h5 h6
         refine ⟨out, ps, p, ns', .row o e t' xs.length :: ms', l2, h2, h3, h4, h5, h6, fun {E saved a' S w w0 K ok Vs pre ds} hr ht he hok hsep hv hm hs => ?_⟩
         cases hv with
         | @cons _ V _ Vs' pv q =>
          have hl : E5 st.heap o := by unfold E5; rw [hg]; trivial
          have hs1 : hsh st.heap o = some (.row e t' xs.length) := by simp [hsh, hg, H7]
          have hc := V1Rel.one pv
          simp only [CellRel, hs1] at hc
          obtain ⟨_, A, c, hV, hle, hx⟩ := hc
          simp only [G1, O2, Nat.sub_zero] at hV hle
          have hx : c = 0 ∨ (0 < c ∧ E.has o ∧ A = some ⟨(E.ρ o).1, (E.ρ o).2 + O2 none * t'.sz, none⟩ ∧ Room w (E.ρ o).1 ((E.ρ o).2 + (O2 none + c) * t'.sz)) := by
           rcases Nat.eq_zero_or_pos c with hc0 | hc0
           ·exact .inl hc0
           ·exact hx.imp id fun h => ⟨hc0, h⟩
          rcases hx with rfl | ⟨hc0, hh, hA, hR⟩
          ·have hx0 : xs = [] := List.length_eq_zero_iff.1 (by omega)
           subst hx0
           obtain ⟨ds', hd, hc⟩ := hcall hr ht he hok (fun o' ho' => hsep o' (by simp only [List.flatMap_cons, List.mem_append]; exact .inr ho')) q (hm.append (.rnil hg .nil)) (hs.1 A)
           refine ⟨.nil :: ds', by simpa using hd, ?_⟩
           rw [hV]
           simpa using hc
          ·obtain ⟨_, hob⟩ := hr.ob o _ hg
           obtain ⟨hat, hnf, _⟩ := hob hh
           have hnb : (E.ρ o).1 ∉ ds.flatMap MD.blk := by
            intro hb
            obtain ⟨o', g1, g2, g3, g4⟩ := hm.blk _ hb
            have hne : o ≠ o' := by
             rintro rfl
             rw [List.flatMap_append] at h4
             exact Cg9 h4 (by simp [Mref.names]) g1
            exact hr.dj o o' hne hl g3 hh g2 g4
           have hA' : A = some ⟨(E.ρ o).1, (E.ρ o).2, none⟩ := by rw [hA]; simp [O2]
           have hR' : Room w (E.ρ o).1 ((E.ρ o).2 + c * t'.sz) := by simpa [O2] using hR
           have := hs.2 xs (E.ρ o).1 (E.ρ o).2 c hle hc0 (hat.mono (fun b hb => hok b (.inl (.inl hb))) (fun _ _ => rfl) rfl) (hnf rfl) hR' (hr.bd o (by rw [hg]; rfl) hh) (hsep o (by simp [Mref.names]) hl hh) hnb
           obtain ⟨ds', hd, hc⟩ := hcall hr ht he hok (fun o' ho' => hsep o' (by simp only [List.flatMap_cons, List.mem_append]; exact .inr ho')) q (hm.append (.row (c := c) hh hg .nil)) this
           refine ⟨.row (E.ρ o).1 (E.ρ o).2 c :: ds', by simpa using hd, ?_⟩
           rw [hV, hA']
           simpa using hc
        ·cases h
     | _ => cases h
theorem El8 {h : F6} {t : Ty} {y : El t} {ok : Nat → Prop} {ds : List Value} (hi : Imm ok w t y ds) : (D7 t y).length = t.sz := by
 have := (T0 (E := ⟨fun _ => (0, 0), fun _ => False, ok⟩) (h := h) hi).length
 rw [this, hi.len]
theorem Ch0 : ∀ (ms : List Mref) (ps : List Po) (p : List Upd × List Upd), u9 ms ps = some p → ∀ x ∈ p.1 ++ p.2, x.name ∈ ms.flatMap Mref.names
  | [], [], p, h, x, hx => by cases h; cases hx
  | [], _ :: _, p, h, x, hx => by cases h
  | _ :: _, [], p, h, x, hx => by cases h
  | m :: ms, q :: ps, p, h, x, hx => by
    simp only [u9] at h
    split at h
    · rename_i a ha
      split at h
      · rename_i b hb
        cases h
        have ih := Ch0 ms ps b hb
        have h1 : ∀ y ∈ a.1 ++ a.2, y.name ∈ m.names := by
          intro y hy
          unfold O8 at ha
          split at ha
          · split at ha
            · cases ha; simp at hy; subst hy; simp [Mref.names, Upd.name]
            · cases ha
          · split at ha
            · rename_i o e t n t' ys ht
              cases hq : Nat.beq ys.length n with
              | false => rw [hq] at ha; cases ha
              | true => rw [hq] at ha; cases ha; simp at hy; subst hy; simp [Mref.names, Upd.name]
            · cases ha
          · cases ha; simp at hy; subst hy; simp [Mref.names, Upd.name]
          · rename_i t' ys
            cases hq : Nat.beq ys.length 0 with
            | false => rw [hq] at ha; cases ha
            | true => rw [hq] at ha; cases ha; simp at hy
          · cases ha; simp at hy
          · cases ha
        simp only [List.flatMap_cons, List.mem_append] at *
        rcases hx with (hx | hx) | (hx | hx)
        · exact .inl (h1 x (.inl hx))
        · exact .inr (ih x (.inl hx))
        · exact .inl (h1 x (.inr hx))
        · exact .inr (ih x (.inr hx))
      · cases h
    · cases h
theorem Al5 : ∀ (ms : List Mref) (ps : List Po) (p : List Upd × List Upd) {h : F6} {ds : List MD}, u9 ms ps = some p → MRefs E h ms ds →
    ∀ x ∈ p.2, ∃ n e t xs own, x = .o n .dead ∧ B5 h n = some (.row e t xs own)
  | [], [], p, _, _, h, _, x, hx => by cases h; cases hx
  | [], _ :: _, p, _, _, h, _, x, hx => by cases h
  | _ :: _, [], p, _, _, h, _, x, hx => by cases h
  | m :: ms, q :: ps, p, hh, _, h, hm, x, hx => by
    simp only [u9] at h
    split at h
    · rename_i a ha
      split at h
      · rename_i b hb
        cases h
        simp only [List.mem_append] at hx
        rcases hx with hx | hx
        · cases hm with
          | box g1 g2 g3 g4 => cases q <;> simp only [O8] at ha <;> first | cases ha | skip
                               split at ha
                               · cases ha; cases hx
                               · cases ha
          | row g1 g2 g3 => cases q with
            | gone => simp only [O8] at ha; cases ha; simp at hx; subst hx; exact ⟨_, _, _, _, _, rfl, g2⟩
            | row t' ys =>
              simp only [O8] at ha
              split at ha
              · cases hq : Nat.beq ys.length _ with
                | false => rw [hq] at ha; cases ha
                | true => rw [hq] at ha; cases ha; cases hx
              · cases ha
            | box _ _ => simp only [O8] at ha; cases ha
            | tree _ _ => simp only [O8] at ha; cases ha
          | rnil g2 g3 => cases q with
            | gone => simp only [O8] at ha; cases ha; simp at hx; subst hx; exact ⟨_, _, _, _, _, rfl, g2⟩
            | row t' ys =>
              simp only [O8] at ha
              split at ha
              · cases hq : Nat.beq ys.length 0 with
                | false => rw [hq] at ha; cases ha
                | true => rw [hq] at ha; cases ha; cases hx
              · cases ha
            | box _ _ => simp only [O8] at ha; cases ha
            | tree _ _ => simp only [O8] at ha; cases ha
          | none g => cases q with
            | gone => simp only [O8] at ha; cases ha; cases hx
            | row t' ys =>
              simp only [O8] at ha
              cases hq : Nat.beq ys.length 0 with
              | false => rw [hq] at ha; cases ha
              | true => rw [hq] at ha; cases ha; cases hx
            | box _ _ => simp only [O8] at ha; cases ha
            | tree _ _ => simp only [O8] at ha; cases ha
        · cases hm with
          | box g1 g2 g3 g4 => exact Al5 ms ps b hb g4 x hx
          | row g1 g2 g3 => exact Al5 ms ps b hb g3 x hx
          | rnil g2 g3 => exact Al5 ms ps b hb g3 x hx
          | none g => exact Al5 ms ps b hb g x hx
      · cases h
    · cases h
def mn : List Mref → List MD → List Nat
 | m :: ms, d :: ds => (match d with | .nil => [] | _ => m.names) ++ mn ms ds
 | _, _ => []
theorem Gs2 {h : F6} {ms : List Mref} {ds : List MD} (p : MRefs E h ms ds) : ∀ n ∈ mn ms ds, n ∈ ms.flatMap Mref.names := by
 induction p with
 | nil => intro n hn; cases hn
 | box _ _ _ _ ih =>
  intro n hn
  simp only [mn, List.mem_append, List.flatMap_cons] at *
  exact hn.imp id (ih n)
 | row _ _ _ ih =>
  intro n hn
  simp only [mn, List.mem_append, List.flatMap_cons] at *
  exact hn.imp id (ih n)
 | rnil _ _ ih =>
  intro n hn
  simp only [mn, List.nil_append, List.flatMap_cons, List.mem_append] at *
  exact .inr (ih n hn)
 | none _ ih =>
  intro n hn
  simp only [mn, List.nil_append, List.flatMap_cons, List.mem_append] at *
  exact .inr (ih n hn)
theorem Gs3 {h : F6} {ms : List Mref} {ds : List MD} (p : MRefs E h ms ds) : ∀ b ∈ ds.flatMap MD.blk, ∃ o ∈ mn ms ds, E.has o ∧ E5 h o ∧ b = (E.ρ o).1 := by
 induction p with
 | nil => intro b hb; simp at hb
 | @box o t cs ms ds a b c _ ih =>
  intro x hx
  simp only [List.flatMap_cons, MD.blk, List.cons_append, List.nil_append, List.mem_cons] at hx
  rcases hx with rfl | hx
  ·exact ⟨o, by simp [mn, Mref.names], a, by unfold E5; rw [b]; trivial, rfl⟩
  ·obtain ⟨o', h1, h2⟩ := ih x hx
   exact ⟨o', by simp only [mn, List.mem_append]; exact .inr h1, h2⟩
 | @row o e t xs c ms ds a b _ ih =>
  intro x hx
  simp only [List.flatMap_cons, MD.blk, List.cons_append, List.nil_append, List.mem_cons] at hx
  rcases hx with rfl | hx
  ·exact ⟨o, by simp [mn, Mref.names], a, by unfold E5; rw [b]; trivial, rfl⟩
  ·obtain ⟨o', h1, h2⟩ := ih x hx
   exact ⟨o', by simp only [mn, List.mem_append]; exact .inr h1, h2⟩
 | rnil a _ ih =>
  intro x hx
  simp only [List.flatMap_cons, MD.blk, List.nil_append] at hx
  obtain ⟨o', h1, h2⟩ := ih x hx
  exact ⟨o', by simpa [mn] using h1, h2⟩
 | none _ ih =>
  intro x hx
  simp only [List.flatMap_cons, MD.blk, List.nil_append] at hx
  obtain ⟨o', h1, h2⟩ := ih x hx
  exact ⟨o', by simpa [mn] using h1, h2⟩
theorem Ch1 {ok' : Nat → Prop} {E2 : Env} (hρ : E2.ρ = E.ρ) (hhas : E2.has = E.has) (hok : ∀ b, ok' b → E2.ok b) : ∀ (ms : List Mref) (ps : List Po) (p : List Upd × List Upd) {h : F6} {ds : List MD}, u9 ms ps = some p → MRefs E h ms ds → PostOk ok' w' ds ps →
  G7 (ms.flatMap Mref.names) = true → ∀ n ob', Upd.o n ob' ∈ p.1 → ∃ ob, B5 h n = some ob ∧ H7 ob' = H7 ob ∧ E5 h n ∧ ((∀ h', ObjRel E2 h' w' n ob') ∨ (ob' = ob ∧ n ∉ mn ms ds))
 | [], [], p, _, _, h, _, _, _, n, ob', hx => by cases h; cases hx
 | [], _ :: _, p, _, _, h, _, _, _, n, ob', hx => by cases h
 | _ :: _, [], p, _, _, h, _, _, _, n, ob', hx => by cases h
 | m :: ms, q :: ps, p, hh, _, h, hm, hpo, hdis, n, ob', hx => by
  simp only [u9] at h
  split at h
  ·rename_i a ha
   split at h
   ·rename_i b hb
    cases h
    simp only [List.mem_append] at hx
    rw [List.flatMap_cons] at hdis
    obtain ⟨hd1, hd2, hd3⟩ := H5 hdis
    have later : ∀ {d ds'}, MRefs E hh ms ds' → PostOk ok' w' ds' ps → (Upd.o n ob' ∈ b.1) → (∀ k ∈ (match d with | MD.nil => [] | _ => m.names), k ∈ m.names) →
      ∃ ob, B5 hh n = some ob ∧ H7 ob' = H7 ob ∧ E5 hh n ∧ ((∀ h', ObjRel E2 h' w' n ob') ∨ (ob' = ob ∧ n ∉ mn (m :: ms) (d :: ds'))) := by
     intro d ds' g1 g2 g3 g4
     obtain ⟨ob, k1, k2, k3, k4⟩ := Ch1 hρ hhas hok ms ps b hb g1 g2 hd2 n ob' g3
     refine ⟨ob, k1, k2, k3, k4.imp id fun ⟨e1, e2⟩ => ⟨e1, fun hk => ?_⟩⟩
     have hnm := Ch0 ms ps b hb _ (List.mem_append.2 (.inl g3))
     simp only [mn, List.mem_append] at hk
     rcases hk with hk | hk
     ·exact hd3 n (g4 n hk) hnm
     ·exact e2 hk
    cases hm with
    | @box o t cs _ ds' g1 g2 g3 g4 =>
     cases hpo with
     | @box _ _ _ y _ _ vs p1 p2 p3 =>
      rcases hx with hx | hx
      ·simp only [O8] at ha
       split at ha
       ·rename_i ht
        subst ht
        cases ha
        simp only [List.mem_singleton] at hx
        injection hx with e1 e2
        subst e1; subst e2
        refine ⟨_, g2, ?_, by unfold E5; rw [g2]; trivial, .inl fun h' => ⟨by rw [hhas]; exact g1, vs, T0 (p1.mono hok (fun _ _ => rfl)), ?_⟩⟩
        ·have := El8 (h := []) p1
         simp only [H7, this, g3]
        ·rw [hρ]; exact p2
       ·cases ha
      ·exact later g4 p3 hx (fun k hk => hk)
     | gone p3 =>
      rcases hx with hx | hx
      ·simp only [O8] at ha; cases ha
      ·exact later g4 p3 hx (fun k hk => hk)
    | @row o e t xs c _ ds' g1 g2 g3 =>
     cases hpo with
     | @row _ _ _ _ ys _ _ p1 p2 p3 =>
      rcases hx with hx | hx
      ·simp only [O8] at ha
       split at ha
       ·rename_i ht
        subst ht
        cases hq : Nat.beq ys.length xs.length with
        | false => rw [hq] at ha; cases ha
        | true =>
         rw [hq] at ha
         cases ha
         simp only [List.mem_singleton] at hx
         injection hx with e1 e2
         subst e1; subst e2
         refine ⟨_, g2, ?_, by unfold E5; rw [g2]; trivial, .inl fun h' => ⟨.inl (by rw [hhas]; exact g1), fun _ => ⟨?_, fun _ => by rw [hρ]; exact p2, fun e => by cases e⟩⟩⟩
         ·simp only [H7, Nat.eq_of_beq_eq_true hq]
         ·rw [hρ]; exact p1.mono hok (fun _ _ => rfl) rfl
       ·cases ha
      ·exact later g3 p3 hx (fun k hk => hk)
     | gone p3 =>
      rcases hx with hx | hx
      ·simp only [O8] at ha; cases ha; cases hx
      ·exact later g3 p3 hx (fun k hk => hk)
    | @rnil o e t _ ds' g2 g3 =>
     cases hpo with
     | noneT p3 => simp only [O8] at ha; cases ha
     | @none t' ys _ _ p3 =>
      rcases hx with hx | hx
      ·simp only [O8] at ha
       split at ha
       ·rename_i ht
        subst ht
        cases hq : Nat.beq ys.length 0 with
        | false => rw [hq] at ha; cases ha
        | true =>
         rw [hq] at ha
         cases ha
         simp only [List.mem_singleton] at hx
         injection hx with e1 e2
         have hy : ys = [] := List.length_eq_zero_iff.1 (Nat.eq_of_beq_eq_true hq)
         subst hy
         subst e1; subst e2
         refine ⟨_, g2, rfl, by unfold E5; rw [g2]; trivial, .inr ⟨rfl, fun hk => ?_⟩⟩
         simp only [mn, List.nil_append] at hk
         exact hd3 n (by simp [Mref.names]) (Gs2 g3 n hk)
       ·cases ha
      ·exact later g3 p3 hx (fun k hk => by cases hk)
     | gone p3 =>
      rcases hx with hx | hx
      ·simp only [O8] at ha; cases ha; cases hx
      ·exact later g3 p3 hx (fun k hk => by cases hk)
    | @none _ ds' g =>
     cases hpo with
     | noneT p3 => simp only [O8] at ha; cases ha
     | @none t' ys _ _ p3 =>
      rcases hx with hx | hx
      ·simp only [O8] at ha
       cases hq : Nat.beq ys.length 0 with
       | false => rw [hq] at ha; cases ha
       | true => rw [hq] at ha; cases ha; cases hx
      ·exact later g p3 hx (fun k hk => by cases hk)
     | gone p3 =>
      rcases hx with hx | hx
      ·simp only [O8] at ha; cases ha; cases hx
      ·exact later g p3 hx (fun k hk => by cases hk)
   ·cases h
  ·cases h
theorem MRefs.stay {E' : Env} {h h' : F6} {ms : List Mref} {ds : List MD} (p : MRefs E h ms ds) (hρ : ∀ o ∈ ms.flatMap Mref.names, E'.ρ o = E.ρ o ∧ (E.has o → E'.has o)) (hh : ∀ o ∈ ms.flatMap Mref.names, B5 h' o = B5 h o) : MRefs E' h' ms ds := by
 induction p with
 | nil => exact .nil
 | @box o t cs ms ds a b c _ ih =>
  have h1 := hρ o (by simp [Mref.names])
  have := MRefs.box (E := E') (h := h') (h1.2 a) ((hh o (by simp [Mref.names])).trans b) c (ih (fun o ho => hρ o (by simp only [List.flatMap_cons, List.mem_append]; exact .inr ho)) (fun o ho => hh o (by simp only [List.flatMap_cons, List.mem_append]; exact .inr ho)))
  rwa [h1.1] at this
 | @row o e t xs c ms ds a b _ ih =>
  have h1 := hρ o (by simp [Mref.names])
  have := MRefs.row (E := E') (h := h') (c := c) (h1.2 a) ((hh o (by simp [Mref.names])).trans b) (ih (fun o ho => hρ o (by simp only [List.flatMap_cons, List.mem_append]; exact .inr ho)) (fun o ho => hh o (by simp only [List.flatMap_cons, List.mem_append]; exact .inr ho)))
  rwa [h1.1] at this
 | @rnil o e t ms ds b _ ih =>
  exact .rnil ((hh o (by simp [Mref.names])).trans b) (ih (fun o ho => hρ o (by simp only [List.flatMap_cons, List.mem_append]; exact .inr ho)) (fun o ho => hh o (by simp only [List.flatMap_cons, List.mem_append]; exact .inr ho)))
 | none _ ih => exact .none (ih (fun o ho => hρ o (by simpa [Mref.names] using ho)) (fun o ho => hh o (by simpa [Mref.names] using ho)))
theorem Dz8 : ∀ (ms : List Mref) (ps : List Po) (p : List Upd × List Upd) {h : F6} {ds : List MD}, u9 ms ps = some p → MRefs E h ms ds → ∀ b ∈ Av1 ds ps, ∃ n, Upd.o n .dead ∈ p.2 ∧ E.has n ∧ b = (E.ρ n).1 ∧ ∃ e t xs, B5 h n = some (.row e t xs true)
 | [], [], p, _, _, h, hm, b, hb => by cases hm; cases hb
 | [], _ :: _, p, _, _, h, _, b, hb => by cases h
 | _ :: _, [], p, _, _, h, _, b, hb => by cases h
 | m :: ms, q :: ps, p, hh, _, h, hm, b, hb => by
  simp only [u9] at h
  split at h
  ·rename_i a ha
   split at h
   ·rename_i b' hb'
    cases h
    have later : ∀ {ds'}, MRefs E hh ms ds' → b ∈ Av1 ds' ps → ∃ n, Upd.o n .dead ∈ a.2 ++ b'.2 ∧ E.has n ∧ b = (E.ρ n).1 ∧ ∃ e t xs, B5 hh n = some (.row e t xs true) := by
     intro ds' g1 g2
     obtain ⟨n, k1, k2⟩ := Dz8 ms ps b' hb' g1 b g2
     exact ⟨n, List.mem_append.2 (.inr k1), k2⟩
    cases q with
    | gone =>
     cases hm with
     | box g1 g2 g3 g4 => simp only [O8] at ha; cases ha
     | @row o e t xs c _ ds' g1 g2 g3 =>
      simp only [O8] at ha
      cases ha
      simp only [Av1, MD.blk, List.singleton_append, List.mem_cons] at hb
      rcases hb with rfl | hb
      ·exact ⟨o, by simp, g1, rfl, e, t, xs, g2⟩
      ·exact later g3 hb
     | rnil g2 g3 => simp only [Av1, MD.blk, List.nil_append] at hb; exact later g3 hb
     | none g => simp only [Av1, MD.blk, List.nil_append] at hb; exact later g hb
    | box t' y => cases hm <;> (simp only [Av1] at hb; first | exact later (by assumption) hb)
    | row t' ys => cases hm <;> (simp only [Av1] at hb; first | exact later (by assumption) hb)
    | tree t' ys => cases hm <;> (simp only [O8] at ha; cases ha)
   ·cases h
  ·cases h
theorem Ch2 : ∀ (ms : List Mref) (ps : List Po) (p : List Upd × List Upd) {h : F6} {ds : List MD}, u9 ms ps = some p → MRefs E h ms ds → ∀ o ∈ mn ms ds, o ∈ p.1.map Upd.name ∨ o ∈ p.2.map Upd.name
 | [], [], p, _, _, h, hm, b, hb => by cases hm; cases hb
 | [], _ :: _, p, _, _, h, _, b, hb => by cases h
 | _ :: _, [], p, _, _, h, _, b, hb => by cases h
 | m :: ms, q :: ps, p, hh, _, h, hm, b, hb => by
  simp only [u9] at h
  split at h
  ·rename_i a ha
   split at h
   ·rename_i b' hb'
    cases h
    have later : ∀ {ds'}, MRefs E hh ms ds' → b ∈ mn ms ds' → b ∈ (a.1 ++ b'.1).map Upd.name ∨ b ∈ (a.2 ++ b'.2).map Upd.name := by
     intro ds' g1 g2
     rw [List.map_append, List.map_append]
     exact (Ch2 ms ps b' hb' g1 b g2).imp (fun h => List.mem_append.2 (.inr h)) (fun h => List.mem_append.2 (.inr h))
    cases hm with
    | @box o t cs _ ds' g1 g2 g3 g4 =>
     simp only [mn, Mref.names, List.singleton_append, List.mem_cons] at hb
     rcases hb with rfl | hb
     ·cases q with
      | box t' y =>
       simp only [O8] at ha
       split at ha
       ·cases ha; exact .inl (by simp [Upd.name])
       ·cases ha
      | row _ _ => simp only [O8] at ha; cases ha
      | tree _ _ => simp only [O8] at ha; cases ha
      | gone => simp only [O8] at ha; cases ha
     ·exact later g4 hb
    | @row o e t xs c _ ds' g1 g2 g3 =>
     simp only [mn, Mref.names, List.singleton_append, List.mem_cons] at hb
     rcases hb with rfl | hb
     ·cases q with
      | box _ _ => simp only [O8] at ha; cases ha
      | tree _ _ => simp only [O8] at ha; cases ha
      | row t' ys =>
       simp only [O8] at ha
       split at ha
       ·cases hq : Nat.beq ys.length xs.length with
        | false => rw [hq] at ha; cases ha
        | true => rw [hq] at ha; cases ha; exact .inl (by simp [Upd.name])
       ·cases ha
      | gone => simp only [O8] at ha; cases ha; exact .inr (by simp [Upd.name])
     ·exact later g3 hb
    | rnil g2 g3 => simp only [mn, List.nil_append] at hb; exact later g3 hb
    | none g => simp only [mn, List.nil_append] at hb; exact later g hb
   ·cases h
  ·cases h
theorem Cp6 {us : List Upd} {st : St} {n : Nat} (hn : n ∉ us.map Upd.name) (h : E5 (st.upds us).heap n) : E5 st.heap n := by
 unfold E5 at h ⊢
 rwa [J5 us st n hn] at h
theorem Cp7 : ∀ (ms : List Mref) (ps : List Po) (p : List Upd × List Upd), u9 ms ps = some p → ∀ n ob, Upd.o n ob ∈ p.1 → ob.tr = false
 | [], [], p, h, n, ob, hx => by cases h; cases hx
 | [], _ :: _, p, h, n, ob, hx => by cases h
 | _ :: _, [], p, h, n, ob, hx => by cases h
 | m :: ms, q :: ps, p, h, n, ob, hx => by
  simp only [u9] at h
  split at h
  ·rename_i a ha
   split at h
   ·rename_i b hb
    cases h
    simp only [List.mem_append] at hx
    rcases hx with hx | hx
    ·unfold O8 at ha
     split at ha
     ·split at ha
      ·cases ha; simp at hx; rw [hx.2]; rfl
      ·cases ha
     ·split at ha
      ·rename_i o e t n t' ys ht
       cases hq : Nat.beq ys.length n with
       | false => rw [hq] at ha; cases ha
       | true => rw [hq] at ha; cases ha; simp at hx; rw [hx.2]; rfl
      ·cases ha
     ·cases ha; cases hx
     ·rename_i t' ys
      cases hq : Nat.beq ys.length 0 with
      | false => rw [hq] at ha; cases ha
      | true => rw [hq] at ha; cases ha; cases hx
     ·cases ha; cases hx
     ·cases ha
    ·exact Cp7 ms ps b hb n ob hx
   ·cases h
  ·cases h
theorem B95 : ∀ (u : List Upd) (s : St) (n : Nat), n ∈ u.map Upd.name → ∃ ob, Upd.o n ob ∈ u ∧ B5 (s.upds u).heap n = some ob
 | [], s, n, h => by cases h
 | .o m o :: u, s, n, h => by
  show ∃ ob, _ ∧ B5 ((s.upd (.o m o)).upds u).heap n = _
  by_cases e : n ∈ u.map Upd.name
  ·obtain ⟨ob, h1, h2⟩ := B95 u (s.upd (.o m o)) n e
   exact ⟨ob, List.mem_cons_of_mem _ h1, h2⟩
  ·rw [J5 u _ n e]
   have : n = m := by
    cases h with
    | head => rfl
    | tail _ h => exact absurd h e
   subst this
   exact ⟨o, List.mem_cons_self, by show B5 (hset s.heap _ _) _ = _; rw [A9, if_pos rfl]⟩
theorem TF.upds {u : List Upd} (h : TF st.heap w K) (hu : ∀ n ob, Upd.o n ob ∈ u → ob.tr = false) (hold : ∀ n ob, Upd.o n ob ∈ u → ∀ o, B5 st.heap n = some o → o.tr = false) : TF (st.upds u).heap w K := by
 obtain ⟨β, hβ⟩ := h
 have old : ∀ n o, B5 (st.upds u).heap n = some o → o.tr = true → B5 st.heap n = some o := fun n o hg ho => by
  by_cases e : n ∈ u.map Upd.name
  ·obtain ⟨ob, h1, h2⟩ := B95 u st n e
   rw [h2] at hg; cases hg
   rw [hu n _ h1] at ho; cases ho
  ·rwa [J5 u st n e] at hg
 have new : ∀ n o, B5 st.heap n = some o → o.tr = true → B5 (st.upds u).heap n = some o := fun n o hg ho => by
  rw [J5 u st n (fun e => by
   obtain ⟨ob, h1⟩ := A15 e
   rw [hold n ob h1 o hg] at ho; cases ho)]
  exact hg
 refine ⟨β, fun n e t xs q hg => hβ.tr n e t xs q (old n _ hg rfl), fun n e t xs q hg => hβ.fx n e t xs q (old n _ hg rfl), fun n n' o o' hne hg hg' he he' => ?_, fun n o i f e t m hg => ?_⟩
 ·obtain ⟨e, t, xs, q, rfl⟩ := he
  obtain ⟨e', t', xs', q', rfl⟩ := he'
  exact hβ.ap n n' _ _ hne (old n _ hg rfl) (old n' _ hg' rfl) ⟨_, _, _, _, rfl⟩ ⟨_, _, _, _, rfl⟩
 ·obtain ⟨e2, t2, xs2, q2, k1, k2⟩ := hβ.bo n o i f e t m (old n _ hg rfl)
  exact ⟨e2, t2, xs2, q2, new o _ k1 rfl, k2⟩
theorem Ft0 {h : F6} {n : Nat} {o : Obj} (hl : E5 h n) (hg : B5 h n = some o) : o.tr = false := by
 unfold E5 at hl
 rw [hg] at hl
 cases o <;> first | rfl | exact hl.elim
theorem F73 {cfg : Cfg} {o : Oper} (hG : Ok P cfg) (hX : RelX E st saved a S w w0 K) {c : Call} {nm : Nat → Nat} {s : MSpec} {vs : List V1} {l1 : List Loc} (ho : o.op = .call c) (hc : c.callee = .value (.func f)) (hs : look cfg.mspec f = some s)
  (hv : All2 (V1Rel E st.heap w) vs (c.args.toList.map a.eval)) (h1 : (V2 nm s vs [] []).run st Kk l1 = some r) : GoesX P o a w st saved S w0 K Kk r := by
 obtain ⟨wb, K1, hD, hT0, hB⟩ := hX
 have h := hB.rebase0
 have hT := hB.now hT0
 have hD := hD.trans hB.drift
 ·obtain ⟨out, ps, p, ns, ms, l2, h3, hns, hdis, hap, hpost, hcall⟩ := El7 (P := P) (f := f) s vs [] [] l1 h1 (fun n hn => by cases hn)
  simp only [List.nil_append] at h3 hns hdis hap hpost hcall
  have hlt : ∀ b, okX E K1 st.heap ns b → b < w.heap.size := by
   rintro b ((hb | ⟨n, hn, ⟨e, t, xs, own, hg⟩, hh, rfl⟩) | ⟨_, hm⟩)
   ·exact h.bo b hb
   ·exact h.bd n (by rw [hg]; rfl) hh
   ·exact (h.kp b hm.1).1
  have hsep : ∀ o ∈ ms.flatMap Mref.names, E5 st.heap o → E.has o → ¬ okX E K1 st.heap ns (E.ρ o).1 := by
   rintro o ho hl hh ((hb | ⟨n, hn, ⟨e', t, xs, own, hg⟩, hh', e⟩) | ⟨_, hm⟩)
   ·exact (h.dk o hl hh).1 hb
   rotate_left
   ·exact (h.dk o hl hh).2 hm.1
   ·have hne : o ≠ n := fun e => Dz7 hap hn (e ▸ ho)
    cases own with
    | true => exact h.dj o n hne hl (by unfold E5; rw [hg]; trivial) hh hh' e
    | false => exact (h.dk o hl hh).1 (e ▸ ((h.ob n _ hg).2 hh').2.2 rfl)
  obtain ⟨ds, hmr, hC⟩ := hcall h hT (fun g hg => (hD.errK g hg).1) (fun b hb => hb) hsep hv .nil (hG.mspec f s hs (okX E K1 st.heap ns) w hlt hD.err)
  simp only [List.nil_append] at hmr hC
  have hex := B59 (P := P) (w := w) (ρ := a.eval) ho hc (cap := #[]) rfl (hG.enterM f (by rw [hs]; rfl))
  have harr : (c.args.toList.map a.eval).toArray = c.args.map a.eval ++ #[] := by
   apply Array.toList_inj.1; simp
  rw [harr] at hC
  unfold Gq4 at h3
  obtain ⟨hfr, l3, h4⟩ := Bl9 _ _ _ h3
  have fin : ∀ (u : List Upd) (l4 : List Loc), (p0 (u ++ p.2 ++ p.1 ++ (L2 nm 0 out).2) (c7 (L2 nm 0 out).1)).run st Kk l4 = some r → FrzOk st.heap u → (∀ x ∈ u, x.name ∈ ns) →
    (∀ (good : Nat → Prop) (w' : World), (∀ (Vs : List Value) (bs : List Nat), ResRel (fun b => okX E K1 st.heap ns b ∨ good b) w' out Vs bs → ResRel (fun b => okU E u b ∨ good b) w' out Vs bs) ∧
     (∀ ds, PostOk (fun b => okX E K1 st.heap ns b ∨ good b) w' ds ps → PostOk (fun b => okU E u b ∨ good b) w' ds ps)) → GoesX P o a w st saved S w0 K Kk r := by
   intro u l4 h5 hfrz huns himp
   obtain ⟨hd, hK⟩ := Aj3 h5
   rw [List.map_append, List.map_append, List.map_append] at hd
   obtain ⟨hd123, hd4, hdj4⟩ := H5 hd
   obtain ⟨hd12, hd3, hdj3⟩ := H5 hd123
   obtain ⟨hd1, hd2, hdj2⟩ := H5 hd12
   refine ⟨_, _, _, hK, fun Q next hnx => ?_⟩
   unfold Oper.wp
   rw [hex, Oper.upon_enter]
   refine Calls.mono hC fun e w' hR => ?_
   obtain ⟨V, rfl, hret⟩ := hR
   obtain ⟨good, Vs, bs, hgood, hres, hnd, hbs, rfl, hpo⟩ := hret.res
   obtain ⟨E1, r1, e1, e2, e3⟩ := h.frzs u hfrz hd1
   have hnm1 : ∀ o ∈ ms.flatMap Mref.names, o ∉ u.map Upd.name := fun o ho hu => by
    obtain ⟨x, hx, e⟩ := List.mem_map.1 hu
    exact Dz7 hap (huns x hx) (e ▸ ho)
   have hmr1 : MRefs E1 (st.upds u).heap ms ds := hmr.stay (fun o ho => ⟨by rw [e1], fun hh => by rw [e2]; exact hh⟩) (fun o ho => J5 u st o (hnm1 o ho))
   have hk2 := Al5 ms ps p hpost hmr1
   have r2 := r1.kills p.2 hd2 hk2
   have dead2 : ∀ n ∈ p.2.map Upd.name, ¬ E5 ((st.upds u).upds p.2).heap n := by
    intro n hn hl
    obtain ⟨ob, hob⟩ := A15 hn
    obtain ⟨m, e', t', xs', own', e4, _⟩ := hk2 _ hob
    injection e4 with e5 e6
    subst e5; subst e6
    unfold E5 at hl
    rw [t8 p.2 (st.upds u) _ _ hd2 hob] at hl
    exact hl
   have live2 : ∀ n, E5 ((st.upds u).upds p.2).heap n → n ∉ p.2.map Upd.name ∧ E5 (st.upds u).heap n := fun n hl => ⟨fun hn => dead2 n hn hl, Cp6 (fun hn => dead2 n hn hl) hl⟩
   obtain ⟨himp1, himp2⟩ := himp good w'
   have hpo2 := himp2 ds hpo
   have hposts := Ch1 (E := E1) (E2 := ⟨E1.ρ, E1.has, fun b => E1.ok b ∨ good b⟩) rfl rfl (ok' := fun b => okU E u b ∨ good b) (fun b hb => hb.imp (fun hb => (e3 b).1 hb) id) ms ps p hpost hmr1 hpo2 hdis
   have n13 : ∀ n ∈ p.1.map Upd.name, n ∉ p.2.map Upd.name := fun n hn hn2 => hdj3 n (List.mem_append.2 (.inr hn2)) hn
   have hblk := Gs3 hmr1
   have r3a := r2.afterM p.1 (fun b => b ∈ ds.flatMap MD.blk) hd3 (fun n ob' hx => by
     obtain ⟨ob, k1, k2, k3, _⟩ := hposts n ob' hx
     have hn : n ∈ p.1.map Upd.name := List.mem_map.2 ⟨_, hx, rfl⟩
     refine ⟨ob, (J5 p.2 _ n (n13 n hn)).trans k1, k2, ?_⟩
     unfold E5 at k3 ⊢
     rwa [J5 p.2 _ n (n13 n hn)]) (Cp7 ms ps p hpost) (fun n hl hh hCn => by
     obtain ⟨o', m1, m2, m3, m4⟩ := hblk _ hCn
     obtain ⟨g1, g2⟩ := live2 n hl
     have e5 : n = o' := by
      rcases Classical.em (n = o') with e | e
      ·exact e
      ·exact absurd m4 (r1.dj n o' e g2 m3 hh m2)
     subst e5
     exact (Ch2 ms ps p hpost hmr1 n m1).resolve_right g1) (fun b hb => by
     obtain ⟨o', m1, m2, m3, rfl⟩ := hblk _ hb
     exact r1.dk o' m3 m2) hret.size (fun b hb hnb => hret.same b hb hnb) hret.room hret.os hret.tape hret.put good hgood (fun n ob' hx h' hst => by
     obtain ⟨ob, k1, k2, k3, k4⟩ := hposts n ob' hx
     have hn : n ∈ p.1.map Upd.name := List.mem_map.2 ⟨_, hx, rfl⟩
     rcases k4 with k4 | ⟨rfl, k4⟩
     ·exact k4 h'
     ·have hg2 : B5 ((st.upds u).upds p.2).heap n = some ob' := (J5 p.2 _ n (n13 n hn)).trans k1
      refine (r2.ob n ob' hg2).step hst (by rw [hg2]; rfl) (fun hh => hh) (fun hh => hret.same _ (r2.bd n (by rw [hg2]; rfl) hh) (fun hb => ?_))
      obtain ⟨o', m1, m2, m3, m4⟩ := hblk _ hb
      have hne : n ≠ o' := fun e => k4 (e ▸ m1)
      exact r1.dj n o' hne k3 m3 hh m2 m4)
   have live3 : ∀ n, E5 (((st.upds u).upds p.2).upds p.1).heap n → E5 ((st.upds u).upds p.2).heap n := by
    intro n hl
    by_cases hn : n ∈ p.1.map Upd.name
    ·obtain ⟨ob', hob⟩ := A15 hn
     obtain ⟨ob, k1, k2, k3, _⟩ := hposts n ob' hob
     unfold E5 at k3 ⊢
     rwa [J5 p.2 _ n (n13 n hn)]
    ·exact Cp6 hn hl
   have t1 := hT.frzs u hfrz hd1
   have t2 : TF ((st.upds u).upds p.2).heap w K1 := t1.upds (fun n ob hx => by
     obtain ⟨m, e', t', xs', own', e4, _⟩ := hk2 _ hx
     injection e4 with e5 e6
     rw [e6]; rfl) (fun n ob hx o hg => by
     obtain ⟨m, e', t', xs', own', e4, hm⟩ := hk2 _ hx
     injection e4 with e5 e6
     rw [e5] at hg
     rw [hg] at hm; cases hm; rfl)
   have t3 := r3a.now (t2.upds (Cp7 ms ps p hpost) (fun n ob' hx o hg => by
     obtain ⟨ob, k1, k2, k3, _⟩ := hposts n ob' hx
     have hn : n ∈ p.1.map Upd.name := List.mem_map.2 ⟨_, hx, rfl⟩
     rw [J5 p.2 _ n (n13 n hn)] at hg
     exact Ft0 k3 hg))
   have r3 := r3a.rebase0
   obtain ⟨E', K', r4, t4, g4, hV, _⟩ := Bl7 out 0 (ok := fun b => okU E u b ∨ good b) r3 t3 (fun n hn => by
    rw [J5 p.1 _ n (fun hm => hdj4 n (List.mem_append.2 (.inr hm)) hn), J5 p.2 _ n (fun hm => hdj4 n (List.mem_append.2 (.inl (List.mem_append.2 (.inr hm)))) hn), J5 u st n (fun hm => hdj4 n (List.mem_append.2 (.inl (List.mem_append.2 (.inl hm)))) hn)]
    exact hfr n hn) hd4 (himp1 _ _ hres) (fun b hb => hb.imp (fun hb => (e3 b).1 hb) id) hnd (fun b hb => by
     rcases hbs b hb with ⟨g1, g2, g3⟩ | hgone
     ·refine ⟨fun n hl hh => ?_, ?_, fun hk => ?_, g2⟩
      ·have := r2.bd n (P5 (live3 n hl)) hh
       exact Nat.ne_of_lt (Nat.lt_of_lt_of_le this g1)
      ·rintro (hk | hk)
       ·exact absurd (r1.bo b hk) (Nat.not_lt.2 g1)
       ·exact g3 hk
      ·exact absurd (r1.kp b hk).1 (Nat.not_lt.2 g1)
     ·obtain ⟨n, k1, k2, rfl, e', t', xs', k3⟩ := Dz8 ms ps p hpost hmr1 b hgone
      have hln : E5 (st.upds u).heap n := by unfold E5; rw [k3]; trivial
      obtain ⟨d1, d2⟩ := r1.dk n hln k2
      have hbd := r1.bd n (by rw [k3]; rfl) k2
      refine ⟨fun m hl hh => ?_, ?_, d2, Nat.lt_of_lt_of_le hbd hret.size⟩
      ·obtain ⟨g1, g2⟩ := live2 m (live3 m hl)
       have hne : m ≠ n := fun e => g1 (by rw [e]; exact List.mem_map.2 ⟨_, k1, rfl⟩)
       exact r1.dj m n hne g2 hln hh k2
      ·rintro (hk | hk)
       ·exact d1 hk
       ·exact absurd hbd (Nat.not_lt.2 (hgood _ hk).1))
   refine hnx _ _ E' ?_
   rw [L8, L8, L8]
   exact RelX.put ⟨w', K', (hD.trans r3a.drift).trans g4.dr, t4, r4⟩ o.dst (Bl8 hV)
  cases hsh : (V8 out || !ps.all Po.flat) with
  | true =>
   rw [hsh] at h4
   simp only [cond_true] at h4
   obtain ⟨u, l4, h5, hfrz, hnames⟩ := Bw6 _ _ _ h4
   have hmem : ∀ n ∈ ns, n ∈ u.map Upd.name := fun n hn => by rw [hnames]; exact Bg8 ns n hn
   have hsub : ∀ b, okX E K1 st.heap ns b → okU E u b := by
    rintro b ((hb | ⟨n, hn, _, hh, rfl⟩) | ⟨⟨n, hn, e, t, xs, q, hg⟩, _⟩)
    ·exact .inl hb
    rotate_left
    ·obtain ⟨x, hx, hxn⟩ := List.mem_map.1 (hmem n hn)
     obtain ⟨o', e', t', xs', own', e1, hg'⟩ := hfrz _ hx
     rw [e1] at hxn
     have e2 : o' = n := hxn
     rw [e2, hg] at hg'; cases hg'
    ·obtain ⟨x, hx, hxn⟩ := List.mem_map.1 (hmem n hn)
     obtain ⟨n', ob⟩ := x
     have e : n' = n := hxn
     subst e
     exact .inr ⟨n', ob, hx, hh, rfl⟩
   refine fin u l4 h5 hfrz (fun x hx => ?_) fun good w' => ⟨fun Vs bs hres => hres.imp fun _ _ rc _ v bs hrc => hrc.mono fun b hb => hb.imp (hsub b) id, fun ds hp => hp.mono fun b hb => hb.imp (hsub b) id⟩
   have : x.name ∈ Bv7 ns := by rw [← hnames]; exact List.mem_map.2 ⟨x, hx, rfl⟩
   exact Cp5 ns _ this
  | false =>
   rw [hsh] at h4
   simp only [cond_false] at h4
   simp only [Bool.or_eq_false_iff, Bool.not_eq_false'] at hsh
   refine fin [] l3 h4 (fun x hx => by cases hx) (fun x hx => by cases hx) fun good w' => ⟨fun Vs bs hres => hres.imp fun x hx rc hrc v bs hr => hr.flat ?_, fun ds hp => hp.flat hsh.2⟩
   have hsh1 := hsh.1
   unfold V8 at hsh1
   have h6 := List.any_eq_false.1 hsh1 x hx
   have h7 : x.2.any RC.shared = false := by simpa using h6
   have := List.any_eq_false.1 h7 rc hrc
   simpa using this
end
end Go.Vm
end
section
namespace Go.Vm
open Go
def F74 (h : F6) (u : List Upd) : Prop := ∀ n ob, Upd.o n ob ∈ u → ob.tr = false ∧ ∀ o, B5 h n = some o → o.tr = false
section
variable {st : St} {R : Type} {Kk : List Upd → VV → List Loc → Option R} {r : R}
theorem Dz9 : ∀ (u : List Upd) (k : RP) (l : List Loc), (Dy1 u k).run st Kk l = some r → F74 st.heap u ∧ ∃ l', k.run st Kk l' = some r
 | [], k, l, h => ⟨(fun n ob hx => by cases hx), l, h⟩
 | .o n ob :: u, k, l, h => by
  simp only [Dy1] at h
  cases ht : ob.tr with
  | true => rw [ht] at h; cases h
  | false =>
   rw [ht] at h
   simp only [cond_false, RP.run] at h
   have fin : ∀ {l1}, (Dy1 u k).run st Kk l1 = some r → (∀ o, B5 st.heap n = some o → o.tr = false) → F74 st.heap (.o n ob :: u) ∧ ∃ l', k.run st Kk l' = some r := fun h1 h2 => by
    obtain ⟨h3, h4⟩ := Dz9 u k _ h1
    refine ⟨fun m ob' hx => ?_, h4⟩
    cases hx with
    | head => exact ⟨ht, h2⟩
    | tail _ hx => exact h3 m ob' hx
   cases hg : B5 st.heap n with
   | none => rw [hg] at h; exact fin h fun o ho => by rw [hg] at ho; cases ho
   | some x =>
    rw [hg] at h
    simp only at h
    cases hx : x.tr with
    | true => rw [hx] at h; cases h
    | false =>
     rw [hx] at h
     exact fin h fun o ho => by rw [hg] at ho; cases ho; exact hx
theorem F75 : ∀ (p : RP) (l : List Loc), (safe p).run st Kk l = some r → ∃ u v l', Kk u v l' = some r ∧ F74 st.heap u ∧
  ∀ {R2 : Type} (K2 : List Upd → VV → List Loc → Option R2) (l2 : List Loc), ∃ l3, p.run st K2 l2 = K2 u v l3 := by
 intro p
 induction p with
 | fail => intro l h; cases h
 | done u v =>
  intro l h
  obtain ⟨h1, l', h2⟩ := Dz9 u _ l h
  exact ⟨u, v, l', h2, h1, fun K2 l2 => ⟨l2, rfl⟩⟩
 | rdT t k ih =>
  intro l h
  obtain ⟨u, v, l', h1, h2, h3⟩ := ih _ _ h
  exact ⟨u, v, l', h1, h2, fun K2 l2 => h3 K2 _⟩
 | rdO n k ih =>
  intro l h
  obtain ⟨u, v, l', h1, h2, h3⟩ := ih _ _ h
  exact ⟨u, v, l', h1, h2, fun K2 l2 => h3 K2 _⟩
 | ite b x y ihx ihy =>
  intro l h
  cases b with
  | true =>
   obtain ⟨u, v, l', h1, h2, h3⟩ := ihx _ h
   exact ⟨u, v, l', h1, h2, fun K2 l2 => h3 K2 _⟩
  | false =>
   obtain ⟨u, v, l', h1, h2, h3⟩ := ihy _ h
   exact ⟨u, v, l', h1, h2, fun K2 l2 => h3 K2 _⟩
 | opt o k ih =>
  intro l h
  cases o with
  | none => cases h
  | some a =>
   obtain ⟨u, v, l', h1, h2, h3⟩ := ih a _ h
   exact ⟨u, v, l', h1, h2, fun K2 l2 => h3 K2 _⟩
end
theorem GoesX.safe {P : Program} {o : Oper} {E : Env} {st : St} {saved : List (Nat × List VV)} {a : Act} {S : List (Array Value)} {w w0 : World} {K : Keep} {R : Type} {Kk : List Upd → VV → List Loc → Option R} {r : R} {l : List Loc} {p : RP}
  (hX : RelX E st saved a S w w0 K) (hrun : (Vm.safe p).run st Kk l = some r)
  (hs : ∀ {w1 K1}, RelE E st saved a S w w1 K1 → ∀ (u : List Upd) (v : VV) (l0 : List Loc), p.run st (fun u v _ => some (u, v)) l0 = some (u, v) → Goes P o a w st saved S w1 K1 (fun u v _ => some (u, v)) (u, v)) :
  GoesX P o a w st saved S w0 K Kk r := by
 obtain ⟨w1, K1, hD, hT, h⟩ := hX
 obtain ⟨u, v, l', h1, h2, h3⟩ := F75 p l hrun
 obtain ⟨l3, h4⟩ := h3 (fun u v _ => some (u, v)) []
 obtain ⟨u', v', _, h5, h6⟩ := hs h u v [] h4
 simp only [Option.some.injEq, Prod.mk.injEq] at h5
 obtain ⟨rfl, rfl⟩ := h5
 refine ⟨_, _, l', h1, fun Q next hn => h6 Q next fun a' w' E' hr => hn a' w' E' ⟨w1, K1, hD, ?_, hr⟩⟩
 have ht := hT.upds (fun n ob hx => (h2 n ob hx).1) (fun n ob hx => (h2 n ob hx).2)
 cases o.dst <;> exact ht
theorem Aa5 : ∀ (t : Ty) (x : El t), (D7 t x).length = t.sz
 | .int _, _ => rfl
 | .bool, _ => rfl
 | .str, _ => rfl
 | .slice _ _, _ => rfl
 | .nil, _ => rfl
 | .fld a r, x => by simp [D7, Ty.sz, Aa5 a, Aa5 r]
theorem TElt.congr {w : World} {β γ : Nat → Option (Nat × Nat)} : ∀ {t : Ty} {f : Nat} {x : El t} {cs : List Value}, (∀ j, f ≤ j → j < f + t.sz → γ j = β j) → TElt w β t f x cs → TElt w γ t f x cs
 | .int _, _, _, _, _, h => h
 | .bool, _, _, _, _, h => h
 | .str, _, _, _, _, h => h
 | .slice _ t, f, _, _, hb, h => by
  obtain ⟨hf, A, c, rfl, hc, hx⟩ := h
  have e := hb f (Nat.le_refl _) (by simp [Ty.sz])
  exact ⟨hf, A, c, rfl, hc, by rw [e]; exact hx⟩
 | .nil, _, _, _, _, h => h
 | .fld a r, f, x, _, hb, h => by
  obtain ⟨c1, c2, rfl, h1, h2⟩ := h
  exact ⟨c1, c2, rfl, h1.congr (fun j h1 h2 => hb j h1 (by simp only [Ty.sz]; omega)), h2.congr (fun j h1 h2 => hb j (by omega) (by simp only [Ty.sz]; omega))⟩
theorem El9 {w : World} : ∀ (t : Ty) (x y : El t) (n n' : Nat) (cs cs' : List Cell), Aa0 t x n cs = some (y, n', cs') →
  n' = n - t.sz ∧ cs' = cs.drop (t.sz - n) ∧ (∀ {β : Nat → Option (Nat × Nat)} {f : Nat} {ds vs : List Value} {E : Env} {h : F6}, TElt w β t f x ds → All2 (CellRel E h w) cs vs → TElt w β t f y (N8 n ds vs)) ∧
  ∀ (j : Nat) (e : TypeId) (t2 : Ty) (ys : List (El t2)), (D7 t x)[j]? = some (Cell.slc e t2 ys) → (D7 t y)[j]? = some (Cell.slc e t2 ys) := by
 have one_ : ∀ {t : Ty} {β : Nat → Option (Nat × Nat)} {f : Nat} {x : El t} {n : Nat} {ds vs : List Value}, t.sz = 1 → TElt w β t f x ds → (n ≠ 0 ∨ vs = []) → TElt w β t f x (N8 n ds vs) := by
  intro t β f x n ds vs hsz hx hn
  have hl := hx.len
  rw [hsz] at hl
  match ds, hl with
  | [d], _ =>
   cases n with
   | succ n => simpa [N8] using hx
   | zero =>
    have hv : vs = [] := hn.resolve_left (fun h => h rfl)
    subst hv
    simpa [N8] using hx
 intro t
 induction t with
 | nil =>
  intro x y n n' cs cs' h
  simp only [Aa0, Option.some.injEq, Prod.mk.injEq] at h
  obtain ⟨_, rfl, rfl⟩ := h
  refine ⟨by simp [Ty.sz], by simp [Ty.sz], fun hx _ => ?_, fun j e t2 ys hj => by simp [D7] at hj⟩
  simp only [TElt] at hx ⊢
  subst hx
  simp [N8]
 | fld p q ihp ihq =>
  intro x y n n' cs cs' h
  simp only [Aa0] at h
  split at h
  ·rename_i y1 n1 cs1 h1
   split at h
   ·rename_i z1 n2 cs2 h2
    simp only [Option.some.injEq, Prod.mk.injEq] at h
    obtain ⟨rfl, rfl, rfl⟩ := h
    obtain ⟨e1, e2, e3, e4⟩ := ihp _ _ _ _ _ _ h1
    obtain ⟨g1, g2, g3, g4⟩ := ihq _ _ _ _ _ _ h2
    subst e1; subst e2
    refine ⟨by rw [g1]; simp only [Ty.sz]; omega, by rw [g2, List.drop_drop]; congr 1; simp only [Ty.sz]; omega, fun {β f ds vs E h} hx hv => ?_, fun j e t2 ys hj => ?_⟩
    ·obtain ⟨c1, c2, rfl, i1, i2⟩ := hx
     rw [At8, i1.len]
     exact ⟨_, _, rfl, e3 i1 hv, g3 i2 (hv.drop _)⟩
    ·simp only [D7] at hj ⊢
     have l1 := Aa5 p x.1
     have l2 := Aa5 p y1
     by_cases hlt : j < p.sz
     ·rw [List.getElem?_append_left (by omega)] at hj ⊢
      exact e4 j e t2 ys hj
     ·rw [List.getElem?_append_right (by omega), l1] at hj
      rw [List.getElem?_append_right (by omega), l2]
      exact g4 _ e t2 ys hj
   ·cases h
  ·cases h
 | int i =>
  intro x y n n' cs cs' h
  cases n with
  | succ n =>
   simp only [Aa0, Option.some.injEq, Prod.mk.injEq] at h
   obtain ⟨rfl, rfl, rfl⟩ := h
   exact ⟨by simp [Ty.sz], by simp [Ty.sz], fun hx _ => one_ rfl hx (.inl (by omega)), fun j e t2 ys hj => hj⟩
  | zero => cases cs with
   | nil =>
    simp only [Aa0, Option.some.injEq, Prod.mk.injEq] at h
    obtain ⟨rfl, rfl, rfl⟩ := h
    exact ⟨rfl, rfl, fun hx hv => by cases hv; exact one_ rfl hx (.inr rfl), fun j e t2 ys hj => hj⟩
   | cons c cs => cases c with
    | int k m =>
     simp only [Aa0] at h
     by_cases e : i = k
     ·subst e
      simp only [decide_true, cond_true, Option.some.injEq, Prod.mk.injEq] at h
      obtain ⟨rfl, rfl, rfl⟩ := h
      refine ⟨rfl, rfl, fun hx hv => ?_, fun j e t2 ys hj => by cases j <;> simp [D7] at hj⟩
      cases hv with
      | cons hc _ =>
       simp only [CellRel] at hc
       simp only [TElt] at hx ⊢
       subst hc; subst hx
       cases ‹List Value› <;> rfl
     ·simp [e] at h
    | _ => simp [Aa0] at h
 | bool =>
  intro x y n n' cs cs' h
  cases n with
  | succ n =>
   simp only [Aa0, Option.some.injEq, Prod.mk.injEq] at h
   obtain ⟨rfl, rfl, rfl⟩ := h
   exact ⟨by simp [Ty.sz], by simp [Ty.sz], fun hx _ => one_ rfl hx (.inl (by omega)), fun j e t2 ys hj => hj⟩
  | zero => cases cs with
   | nil =>
    simp only [Aa0, Option.some.injEq, Prod.mk.injEq] at h
    obtain ⟨rfl, rfl, rfl⟩ := h
    exact ⟨rfl, rfl, fun hx hv => by cases hv; exact one_ rfl hx (.inr rfl), fun j e t2 ys hj => hj⟩
   | cons c cs => cases c with
    | bool k =>
     simp only [Aa0, Option.some.injEq, Prod.mk.injEq] at h
     obtain ⟨rfl, rfl, rfl⟩ := h
     refine ⟨rfl, rfl, fun hx hv => ?_, fun j e t2 ys hj => by cases j <;> simp [D7] at hj⟩
     cases hv with
     | cons hc _ =>
      simp only [CellRel] at hc
      simp only [TElt] at hx ⊢
      subst hc; subst hx
      cases ‹List Value› <;> rfl
    | _ => simp [Aa0] at h
 | str =>
  intro x y n n' cs cs' h
  cases n with
  | succ n =>
   simp only [Aa0, Option.some.injEq, Prod.mk.injEq] at h
   obtain ⟨rfl, rfl, rfl⟩ := h
   exact ⟨by simp [Ty.sz], by simp [Ty.sz], fun hx _ => one_ rfl hx (.inl (by omega)), fun j e t2 ys hj => hj⟩
  | zero => cases cs with
   | nil =>
    simp only [Aa0, Option.some.injEq, Prod.mk.injEq] at h
    obtain ⟨rfl, rfl, rfl⟩ := h
    exact ⟨rfl, rfl, fun hx hv => by cases hv; exact one_ rfl hx (.inr rfl), fun j e t2 ys hj => hj⟩
   | cons c cs => cases c with
    | str k =>
     simp only [Aa0, Option.some.injEq, Prod.mk.injEq] at h
     obtain ⟨rfl, rfl, rfl⟩ := h
     refine ⟨rfl, rfl, fun hx hv => ?_, fun j e t2 ys hj => by cases j <;> simp [D7] at hj⟩
     cases hv with
     | cons hc _ =>
      simp only [CellRel] at hc
      simp only [TElt] at hx ⊢
      subst hc; subst hx
      cases ‹List Value› <;> rfl
    | _ => simp [Aa0] at h
 | slice e t _ =>
  intro x y n n' cs cs' h
  cases n with
  | succ n =>
   simp only [Aa0, Option.some.injEq, Prod.mk.injEq] at h
   obtain ⟨rfl, rfl, rfl⟩ := h
   exact ⟨by simp [Ty.sz], by simp [Ty.sz], fun hx _ => one_ rfl hx (.inl (by omega)), fun j e t2 ys hj => hj⟩
  | zero => cases cs with
   | nil =>
    simp only [Aa0, Option.some.injEq, Prod.mk.injEq] at h
    obtain ⟨rfl, rfl, rfl⟩ := h
    exact ⟨rfl, rfl, fun hx hv => by cases hv; exact one_ rfl hx (.inr rfl), fun j e t2 ys hj => hj⟩
   | cons c cs => simp [Aa0] at h
theorem Cc9 {w : World} {β : Nat → Option (Nat × Nat)} {E : Env} {h : F6} : ∀ {t : Ty} {f : Nat} {x : El t} {ds : List Value}, TElt w β t f x ds → All2 (fun c v => E97 c = true → CellRel E h w c v) (D7 t x) ds
 | .int k, _, n, _, hx => by simp only [TElt] at hx; subst hx; exact .cons (fun _ => rfl) .nil
 | .bool, _, b, _, hx => by simp only [TElt] at hx; subst hx; exact .cons (fun _ => rfl) .nil
 | .str, _, s, _, hx => by simp only [TElt] at hx; subst hx; exact .cons (fun _ => rfl) .nil
 | .slice _ _, _, _, _, hx => by obtain ⟨_, A, c, rfl, _⟩ := hx; exact .cons (fun e => by cases e) .nil
 | .nil, _, _, _, hx => by simp only [TElt] at hx; subst hx; exact .nil
 | .fld a r, f, x, _, hx => by
  obtain ⟨c1, c2, rfl, h1, h2⟩ := hx
  exact (Cc9 h1).append (Cc9 h2)
theorem All2.all {α β : Type} {p : α → Bool} {r : α → β → Prop} {l : List α} {m : List β} (h : All2 (fun a b => p a = true → r a b) l m) (k : l.all p = true) : All2 r l m := by
 induction h with
 | nil => exact .nil
 | cons x _ ih =>
  simp only [List.all_cons, Bool.and_eq_true] at k
  exact .cons (x k.1) (ih k.2)
theorem Bg9 {w : World} {β : Nat → Option (Nat × Nat)} : ∀ {t : Ty} {f : Nat} {x : El t} {ds : List Value} {j : Nat} {e : TypeId} {t2 : Ty} {ys : List (El t2)}, TElt w β t f x ds → (D7 t x)[j]? = some (.slc e t2 ys) →
  t2.flat = true ∧ ∃ A c, ds[j]? = some (.slice A ys.length c) ∧ ys.length ≤ c ∧ ((c = 0 ∧ β (f + j) = none) ∨ ∃ b p, β (f + j) = some (b, p) ∧ A = some ⟨b, p, none⟩ ∧ RowAt (fun _ => False) w b p t2 ys ∧ NoFrz t2 w b ∧ Room w b (p + c * t2.sz))
 | .int k, _, n, _, j, _, _, _, hx, hj => by cases j <;> simp [D7] at hj
 | .bool, _, n, _, j, _, _, _, hx, hj => by cases j <;> simp [D7] at hj
 | .str, _, n, _, j, _, _, _, hx, hj => by cases j <;> simp [D7] at hj
 | .nil, _, n, _, j, _, _, _, hx, hj => by simp [D7] at hj
 | .slice e t, f, ys, _, j, e', t', ys', hx, hj => by
  cases j with
  | succ j => simp [D7] at hj
  | zero =>
   simp only [D7, List.getElem?_cons_zero, Option.some.injEq] at hj
   injection hj with e1 e2 e3
   subst e2
   cases e3
   obtain ⟨hf, A, c, rfl, hc, hz⟩ := hx
   exact ⟨hf, A, c, rfl, hc, hz⟩
 | .fld a r, f, x, _, j, e, t2, ys, hx, hj => by
  obtain ⟨c1, c2, rfl, h1, h2⟩ := hx
  simp only [D7] at hj
  have l1 := Aa5 a x.1
  have l2 := h1.len
  by_cases hlt : j < a.sz
  ·rw [List.getElem?_append_left (by omega)] at hj
   obtain ⟨g0, A, c, g1, g2⟩ := Bg9 h1 hj
   exact ⟨g0, A, c, by rw [List.getElem?_append_left (by omega)]; exact g1, g2⟩
  ·rw [List.getElem?_append_right (by omega), l1] at hj
   obtain ⟨g0, A, c, g1, g2⟩ := Bg9 h2 hj
   refine ⟨g0, A, c, by rw [List.getElem?_append_right (by omega), l2]; exact g1, ?_⟩
   rwa [show f + a.sz + (j - a.sz) = f + j by omega] at g2
theorem Cd0 {w w' : World} {β : Nat → Option (Nat × Nat)} : ∀ {t : Ty} {f j : Nat} {x y : El t} {ds : List Value} {e : TypeId} {t2 : Ty} {ys zs : List (El t2)}, TElt w β t f x ds → (D7 t x)[j]? = some (.slc e t2 ys) → E98 t2 zs t x j = some y → zs.length = ys.length →
  (∀ b p, β (f + j) = some (b, p) → RowAt (fun _ => False) w' b p t2 zs ∧ NoFrz t2 w' b) → (∀ g m, Room w g m → Room w' g m) → (∀ k b p, k ≠ f + j → β k = some (b, p) → w'.heap[b]? = w.heap[b]?) →
  TElt w' β t f y ds ∧ (D7 t y)[j]? = some (.slc e t2 zs) ∧ ∀ k, k ≠ j → (D7 t y)[k]? = (D7 t x)[k]?
 | .int k, _, j, _, _, _, _, _, _, _, hx, hj, hp, _, _, _, _ => by cases j <;> simp [D7] at hj
 | .bool, _, j, _, _, _, _, _, _, _, hx, hj, hp, _, _, _, _ => by cases j <;> simp [D7] at hj
 | .str, _, j, _, _, _, _, _, _, _, hx, hj, hp, _, _, _, _ => by cases j <;> simp [D7] at hj
 | .nil, _, j, _, _, _, _, _, _, _, hx, hj, hp, _, _, _, _ => by simp [D7] at hj
 | .slice e t, f, j, xs, y, _, e', t', ys', zs, hx, hj, hp, hl, hb, hr, hw => by
  cases j with
  | succ j => simp [D7] at hj
  | zero =>
   simp only [D7, List.getElem?_cons_zero, Option.some.injEq] at hj
   injection hj with e1 e2 e3
   subst e2
   cases e3
   subst e1
   simp only [E98, dite_true, Option.some.injEq] at hp
   subst hp
   obtain ⟨hf, A, c, rfl, hc, hz⟩ := hx
   refine ⟨⟨hf, A, c, by rw [hl], by rw [hl]; exact hc, hz.imp id ?_⟩, rfl, fun k hk => ?_⟩
   ·rintro ⟨b, p, g1, g2, g3, g4, g5⟩
    obtain ⟨k1, k2⟩ := hb b p g1
    exact ⟨b, p, g1, g2, k1, k2, hr _ _ g5⟩
   ·cases k with
    | zero => exact absurd rfl hk
    | succ k => rfl
 | .fld a r, f, j, x, y, _, e, t2, ys, zs, hx, hj, hp, hl, hb, hr, hw => by
  obtain ⟨c1, c2, rfl, h1, h2⟩ := hx
  simp only [D7] at hj
  have l1 := Aa5 a x.1
  simp only [E98] at hp
  have hsame : ∀ {t : Ty} {f' : Nat} {x : El t} {cs : List Value}, TElt w β t f' x cs → (∀ k, f' ≤ k → k < f' + t.sz → k ≠ f + j) → TElt w' β t f' x cs := by
   intro t f' x cs hx hk
   have h1 : TElt w (fun k => if f' ≤ k ∧ k < f' + t.sz then β k else none) t f' x cs := hx.congr fun k h1 h2 => by simp [h1, h2]
   have h2 := h1.same (w' := w') fun k b p hkb => by
    by_cases hc : f' ≤ k ∧ k < f' + t.sz
    ·rw [if_pos hc] at hkb
     exact hw k b p (hk k hc.1 hc.2) hkb
    ·rw [if_neg hc] at hkb; cases hkb
   exact h2.congr fun k h1 h2 => by simp [h1, h2]
  by_cases hlt : j < a.sz
  ·rw [List.getElem?_append_left (by omega)] at hj
   have : Nat.blt j a.sz = true := by simpa [Nat.blt_eq] using hlt
   rw [this] at hp
   simp only [cond_true, Option.map_eq_some_iff] at hp
   obtain ⟨y1, hy1, rfl⟩ := hp
   obtain ⟨g1, g2, g3⟩ := Cd0 h1 hj hy1 hl hb hr hw
   have l2 := Aa5 a y1
   refine ⟨⟨c1, c2, rfl, g1, hsame h2 fun k h1 h2 => by omega⟩, ?_, fun k hk => ?_⟩
   ·simp only [D7]
    rw [List.getElem?_append_left (by omega)]; exact g2
   ·simp only [D7]
    by_cases hk2 : k < a.sz
    ·rw [List.getElem?_append_left (by omega), List.getElem?_append_left (by omega)]; exact g3 k hk
    ·rw [List.getElem?_append_right (by omega), List.getElem?_append_right (by omega), l1, l2]
  ·rw [List.getElem?_append_right (by omega), l1] at hj
   have : Nat.blt j a.sz = false := by
    cases hq : Nat.blt j a.sz with
    | false => rfl
    | true => rw [Nat.blt_eq] at hq; exact absurd hq hlt
   rw [this] at hp
   simp only [cond_false, Option.map_eq_some_iff] at hp
   obtain ⟨y1, hy1, rfl⟩ := hp
   have e1 : f + a.sz + (j - a.sz) = f + j := by omega
   obtain ⟨g1, g2, g3⟩ := Cd0 (f := f + a.sz) h2 hj hy1 hl (by rw [e1]; exact hb) hr (by rw [e1]; exact hw)
   refine ⟨⟨c1, c2, rfl, hsame h1 fun k h1 h2 => by omega, g1⟩, ?_, fun k hk => ?_⟩
   ·simp only [D7]
    rw [List.getElem?_append_right (by omega), l1]; exact g2
   ·simp only [D7]
    by_cases hk2 : k < a.sz
    ·rw [List.getElem?_append_left (by omega), List.getElem?_append_left (by omega)]
    ·rw [List.getElem?_append_right (by omega), List.getElem?_append_right (by omega), l1]
     exact g3 _ (by omega)
end Go.Vm
end
section
namespace Go.Vm
open Go
section
variable {E : Env} {st : St} {saved : List (Nat × List VV)} {a : Act} {S : List (Array Value)} {w w' w0 w1 : World} {K K1 : Keep}
theorem RelE.reshape (h : RelE E st saved a S w w1 K) {n : Nat} {ob ob' : Obj} (hg : B5 st.heap n = some ob) (ht : ob.tr = true) (ht' : ob'.tr = true) (hs : H7 ob' = H7 ob) : RelE E ⟨st.tmps, hset st.heap n ob'⟩ saved a S w w1 K := by
 have k : Step E E st.heap (hset st.heap n ob') w w := ⟨fun _ _ => rfl, fun _ _ => Iff.rfl, fun _ h => h, fun _ _ => rfl, fun _ _ h => h, fun m s hm => .inl (by
  rw [J3]
  split
  ·rename_i e; subst e; simpa [hsh, hg, hs] using hm
  ·exact hm)⟩
 have hlive : ∀ m, E5 (hset st.heap n ob') m → E5 st.heap m := fun m hl => by
  unfold E5 at hl ⊢
  rw [A9] at hl
  by_cases e : m = n
  ·rw [if_pos e] at hl
   cases ob' <;> first | exact hl.elim | cases ht'
  ·rwa [if_neg e] at hl
 refine ⟨J7 k h.tm, h.df, h.sv.mono fun _ _ q => J7 k q, fun m o hm => ?_, fun m m' hne hl hl' => h.dj m m' hne (hlive m hl) (hlive m' hl'), fun m hl => h.dk m (hlive m hl), fun m hm => h.bd m ?_, h.bo, h.kp, h.os, h.tape, h.out, h.size, h.oz, h.rm, fun m o hm ho => ?_⟩
 ·rw [A9] at hm
  by_cases e : m = n
  ·rw [if_pos e] at hm
   cases hm
   cases ob' <;> first | trivial | cases ht'
  ·rw [if_neg e] at hm
   exact (h.ob m o hm).step k (by rw [hm]; rfl) (fun h => h) (fun _ => rfl)
 ·have hm' : (B5 (hset st.heap n ob') m).isSome = true := hm
  rw [A9] at hm'
  by_cases e : m = n
  ·subst e; rw [hg]; rfl
  ·rwa [if_neg e] at hm'
 ·have hm' : B5 (hset st.heap n ob') m = some o := hm
  rw [A9] at hm'
  by_cases e : m = n
  ·subst e; exact h.ta m ob hg ht
  ·rw [if_neg e] at hm'
   exact h.ta m o hm' ho
def Keep.more (K : Keep) (ns : List Nat) : Keep := { K with k := fun b => K.k b ∨ b ∈ ns, o := fun b => K.o b ∧ b ∉ ns, p := fun b => K.p b ∨ b ∈ ns }
theorem RelE.retree (h : RelE E st saved a S w w K) {β : Nat → Nat → Nat → Option (Nat × Nat)} (hT : TFB st.heap w K β) {o : Nat} {e : TypeId} {t : Ty} {xs : List (El t)} {q : Nat} (hg : B5 st.heap o = some (.tree e t xs q)) (hth : K.th o)
  {xs' : List (El t)} (q' : Nat) (hlen : xs'.length = xs.length) (β1 : Nat → Nat → Option (Nat × Nat)) (ns : List Nat) (hf : ∀ b ∈ ns, Free E st.heap K w b)
  (hs : ∀ b, b < w.heap.size → ¬ Blk K β o b → w'.heap[b]? = w.heap[b]?) (hsz : w.heap.size ≤ w'.heap.size) (hroom : ∀ g m, Room w g m → Room w' g m) (ho : w'.os = w.os) (ht : w'.tape = w.tape) (hu : w'.output = w.output)
  (hβ : ∀ i f b p, β1 i f = some (b, p) → b ∈ ns ∨ ∃ i f p, β o i f = some (b, p)) (hTree : TreeAt w' (K.ta o).1 (K.ta o).2 t β1 xs')
  (hfx : q' ≠ 1 → q ≠ 1 ∧ β1 = β o)
  (hbor : ∀ n i f e' t' m, B5 st.heap n = some (.bor o i f e' t' m) → q' = 0 → q = 0 ∧ β1 i f = β o i f ∧
   ∀ ys : List (El t'), (D7 t (rd (Q1 t) xs i))[f]? = some (Cell.slc e' t' ys) → ∃ zs : List (El t'), (D7 t (rd (Q1 t) xs' i))[f]? = some (Cell.slc e' t' zs) ∧ zs.length = ys.length) :
  RelE E ⟨st.tmps, hset st.heap o (.tree e t xs' q')⟩ saved a S w' w' (K.more ns) ∧ TF (hset st.heap o (.tree e t xs' q')) w' (K.more ns) ∧ Dr w K w' (K.more ns) := by
 have hmine := ((hT.tr o e t xs q hg).2 hth).2
 have r1 := h.poke (fun b => Blk K β o b) hmine hs hsz hroom ho ht hu
 have r2 : RelE E st saved a S w' w' (K.more ns) := r1.rebase (fun b hb => hb.elim (fun hb => (r1.kp b hb).1) fun hb => Nat.lt_of_lt_of_le (hf b hb).2.2.2 hsz)
  (fun n hl hh hk => hk.elim (r1.dk n hl hh).2 fun hb => (hf _ hb).1 n hl hh rfl)
  (fun b hb hk => ⟨hk.elim (r1.oz b hb) fun hm => absurd hb (hf b hm).2.1, fun hm => (hf b hm).2.1 hb⟩) r1.ta
 refine ⟨r2.reshape hg rfl rfl (by simp [H7, hlen]), ⟨fun n => if n = o then β1 else β n, fun n e1 t1 x1 q1 hn => ?_, fun n e1 t1 x1 q1 hn hq1 hth1 => ?_, fun n n' ob ob' hne hn hn' he he' hth1 hth' b hb hb' => ?_, fun n o' i f e1 t1 m hn => ?_⟩, ?_⟩
 ·rw [A9] at hn
  by_cases en : n = o
  ·rw [if_pos en] at hn
   cases hn
   subst en
   refine ⟨.inl hth, fun _ => ⟨by simpa [Keep.more] using hTree, fun b hb => ?_⟩⟩
   rcases hb with hb | ⟨i, f, p, hb⟩
   ·have := hmine b (.inl hb)
    exact ⟨.inl this.1, fun k => this.2.1 k.1, .inl this.2.2⟩
   ·simp only [if_true] at hb
    rcases hβ i f b p hb with hm | ⟨i', f', p', hm⟩
    ·exact ⟨.inr hm, fun k => k.2 hm, .inr hm⟩
    ·have := hmine b (.inr ⟨i', f', p', hm⟩)
     exact ⟨.inl this.1, fun k => this.2.1 k.1, .inl this.2.2⟩
  ·rw [if_neg en] at hn
   obtain ⟨p1, p2⟩ := hT.tr n e1 t1 x1 q1 hn
   refine ⟨p1, fun hth1 => ?_⟩
   obtain ⟨q1', q2⟩ := p2 hth1
   have hap : ∀ b, Blk K β n b → ¬ Blk K β o b := fun b hb => hT.ap n o _ _ en hn hg ⟨_, _, _, _, rfl⟩ ⟨_, _, _, _, rfl⟩ hth1 hth b hb
   have hsame : ∀ b, Blk K β n b → w'.heap[b]? = w.heap[b]? := fun b hb => hs b (h.kp b (q2 b hb).1).1 (hap b hb)
   refine ⟨by simpa [Keep.more, en] using q1'.same (hsame _ (.inl rfl)) fun i f b p hp => hsame b (.inr ⟨i, f, p, hp⟩), fun b hb => ?_⟩
   have hb' : Blk K β n b := by simpa [Blk, en, Keep.more] using hb
   have := q2 b hb'
   exact ⟨.inl this.1, fun k => this.2.1 k.1, .inl this.2.2⟩
 ·rw [A9] at hn
  by_cases en : n = o
  ·rw [if_pos en] at hn
   cases hn
   subst en
   obtain ⟨g1, g2⟩ := hfx hq1
   have := hT.fx n _ _ _ _ hg g1 hth
   simpa [Keep.more, g2] using this
  ·rw [if_neg en] at hn
   have := hT.fx n _ _ _ _ hn hq1 hth1
   simpa [Keep.more, en] using this
 ·have old : ∀ m om, m ≠ o → B5 (hset st.heap o (.tree e t xs' q')) m = some om → B5 st.heap m = some om := fun m om hm hgm => by rwa [A9, if_neg hm] at hgm
  have hBo : ∀ m, m ≠ o → ∀ b, Blk (K.more ns) (fun n => if n = o then β1 else β n) m b → Blk K β m b := fun m hm b hb => by simpa [Blk, hm, Keep.more] using hb
  have hBn : ∀ b, Blk (K.more ns) (fun n => if n = o then β1 else β n) o b → b ∈ ns ∨ Blk K β o b := fun b hb => by
   rcases hb with hb | ⟨i, f, p, hb⟩
   ·exact .inr (.inl hb)
   ·simp only [if_true] at hb
    exact (hβ i f b p hb).imp id .inr
  have mineK : ∀ m om, m ≠ o → B5 st.heap m = some om → (∃ e t xs q, om = .tree e t xs q) → K.th m → ∀ b, Blk K β m b → K.k b := fun m om hm hgm he hth b hb => by
   obtain ⟨e1, t1, x1, q1, rfl⟩ := he
   exact (((hT.tr m _ _ _ _ hgm).2 hth).2 b hb).1
  by_cases en : n = o
  ·have en' : n' ≠ o := fun e => hne (en.trans e.symm)
   rw [en] at hb
   rcases hBn b hb with hm | hm
   ·exact (hf b hm).2.2.1 (mineK n' ob' en' (old n' ob' en' hn') he' hth' b (hBo n' en' b hb'))
   ·exact hT.ap o n' _ ob' (fun e => en' e.symm) hg (old n' ob' en' hn') ⟨_, _, _, _, rfl⟩ he' hth hth' b hm (hBo n' en' b hb')
  ·by_cases en' : n' = o
   ·rw [en'] at hb'
    rcases hBn b hb' with hm | hm
    ·exact (hf b hm).2.2.1 (mineK n ob en (old n ob en hn) he hth1 b (hBo n en b hb))
    ·exact hT.ap n o ob _ en (old n ob en hn) hg he ⟨_, _, _, _, rfl⟩ hth1 hth b (hBo n en b hb) hm
   ·exact hT.ap n n' ob ob' hne (old n ob en hn) (old n' ob' en' hn') he he' hth1 hth' b (hBo n en b hb) (hBo n' en' b hb')
 ·have en : n ≠ o := fun en => by
   rw [A9, if_pos en] at hn
   cases hn
  rw [A9, if_neg en] at hn
  obtain ⟨e2, t2, x2, q2, h1, h2⟩ := hT.bo n o' i f e1 t1 m hn
  by_cases eo : o' = o
  ·subst eo
   rw [hg] at h1
   cases h1
   refine ⟨e, t, xs', q', by rw [A9, if_pos rfl], fun eq => ?_⟩
   obtain ⟨k1, k2, k3⟩ := hbor n i f e1 t1 m hn eq
   obtain ⟨m1, m2, m3, ys, m4, m5⟩ := h2 k1
   obtain ⟨zs, z1, z2⟩ := k3 ys m4
   exact ⟨m1, by rw [hlen]; exact m2, fun hth => by simpa [Keep.more] using k2.trans (m3 hth), zs, z1, z2.trans m5⟩
  ·refine ⟨e2, t2, x2, q2, by rw [A9, if_neg eo]; exact h1, fun eq => ?_⟩
   obtain ⟨m1, m2, m3, m4⟩ := h2 eq
   exact ⟨m1, m2, fun hth => by simpa [Keep.more, eo] using m3 hth, m4⟩
 ·exact ⟨ho, ht, hu, hsz, fun b hb => ⟨.inl hb, fun hp => hs b (h.kp b hb).1 fun hB => hp (hmine b hB).2.2⟩, fun b _ hk => hk.1, fun b hb hp => hp.resolve_right fun hm => (hf b hm).2.2.1 hb, hroom, fun _ _ => rfl⟩
theorem TreeAt.put {g off : Nat} {t : Ty} {β : Nat → Nat → Option (Nat × Nat)} {xs : List (El t)} (hT : TreeAt w g off t β xs) {i : Nat} (hi : i < xs.length) (β1 : Nat → Nat → Option (Nat × Nat)) (hβ : ∀ i', i' ≠ i → β1 i' = β i')
  {z : El t} {f : Nat} {vs ds : List Value} (hd : ∀ j, j < t.sz → w.cell? ⟨g, off + i * t.sz + j, none⟩ = ds[j]?) (hdl : ds.length = t.sz) (hfit : f + vs.length ≤ t.sz) (hz : TElt w (β1 i) t 0 z (N8 f ds vs))
  (hinj : ∀ i f i' f' b p p', β1 i f = some (b, p) → β1 i' f' = some (b, p') → i = i' ∧ f = f') (hne : ∀ i f b p, β1 i f = some (b, p) → b ≠ g) (hlt : ∀ f b p, β1 i f = some (b, p) → f < t.sz) :
  TreeAt (K9 g vs (off + i * t.sz + f) w) g off t β1 (xs.set i z) := by
 have hput := Y9 g vs (off + i * t.sz + f) w
 have hcell : ∀ j, j < t.sz → (w.cell? ⟨g, off + i * t.sz + j, none⟩).isSome = true := fun j hj => by
  rw [hd j hj, List.getElem?_eq_getElem (by omega)]; rfl
 refine ⟨fun i' hi' => ?_, fun o hc => ?_, hinj, hne, fun i' f' b p hb => ?_⟩
 ·have hi2 : i' < xs.length := by simpa using hi'
  by_cases ei : i' = i
  ·subst ei
   refine ⟨N8 f ds vs, ?_, fun j hj => ?_⟩
   ·rw [List.getElem_set_self]
    exact hz.same fun f' b p hb => hput.other b (hne _ _ b p hb)
   ·rw [Bl3 _ _ _ _ (by omega)]
    by_cases c1 : j < f
    ·rw [if_pos c1, M1 _ _ _ _ _ (by omega)]
     exact hd j hj
    ·rw [if_neg c1]
     by_cases c2 : j < f + vs.length
     ·rw [if_pos c2]
      obtain ⟨u1, hu1⟩ : ∃ u1, vs[j - f]? = some u1 := ⟨_, List.getElem?_eq_getElem (by omega)⟩
      have := Aj2 g vs (off + i' * t.sz + f) w (j - f) u1 hu1 (fun m hm => by
       rw [show off + i' * t.sz + f + m = off + i' * t.sz + (f + m) by omega]
       exact hcell _ (by omega))
      rw [hu1]
      rwa [show off + i' * t.sz + f + (j - f) = off + i' * t.sz + j by omega] at this
     ·rw [if_neg c2, M1 _ _ _ _ _ (by omega)]
      exact hd j hj
  ·obtain ⟨ds', hd', hc'⟩ := hT.row i' hi2
   refine ⟨ds', ?_, fun j hj => ?_⟩
   ·rw [List.getElem_set_ne (fun h => ei h.symm), hβ i' ei]
    exact hd'.same fun f' b p hb => hput.other b (hT.ne _ _ b p hb)
   ·rw [M1 _ _ _ _ _ ?_]
    ·exact hc' j hj
    ·rcases Nat.lt_or_gt_of_ne ei with c | c
     ·left
      have : (i' + 1) * t.sz ≤ i * t.sz := Nat.mul_le_mul_right _ c
      rw [Nat.add_mul] at this
      omega
     ·right
      have : (i + 1) * t.sz ≤ i' * t.sz := Nat.mul_le_mul_right _ c
      rw [Nat.add_mul] at this
      omega
 ·rw [hput.some] at hc
  rw [hput.frozen]
  exact hT.nf o hc
 ·by_cases ei : i' = i
  ·subst ei
   exact ⟨by simpa using hi, hlt f' b p hb⟩
  ·rw [hβ i' ei] at hb
   obtain ⟨h1, h2⟩ := hT.lt i' f' b p hb
   exact ⟨by simpa using h1, h2⟩
variable {P : Program} {cfg : Cfg} {R : Type} {Kk : List Upd → VV → List Loc → Option R} {l : List Loc} {r : R} {op : Oper}
theorem Dd3 {T : TypeId} {t0 t : Ty} {x y : Operand} {g p i f : Nat} {v : V1} {h : F6} (hok : LdOk P t0 T) (ho : op.op = .store T x y) (hx : a.eval x = .pointer (some ⟨g, p, none⟩)) (hv : V1Rel E h w v (a.eval y)) (hlen : v.cs.length = t0.sz)
  (hcell : ∀ j, j < t0.sz → (w.cell? ⟨g, p + j, none⟩).isSome = true) (hnf : NoFrz t w g) :
  (execOp a.eval op).run P w = .ok .skip (K9 g (a.eval y).cells.toList p w) := by
 have hvc := hv.cells
 have hvl := hvc.length
 have hw := Ac7 P g p (a.eval y).cells.toList 0 w (fun j hj => by
  rw [Nat.add_zero]
  have hc := hcell j (by omega)
  exact ⟨hc, hnf _ fun _ => hc⟩) (fun u hu => by obtain ⟨c, hc⟩ := hvc.mem u hu; exact hc.oneCell')
 rw [Nat.add_zero] at hw
 have hsz : (a.eval y).cells.size = t0.sz := by rw [← hlen, hvl]; simp
 simp only [execOp, ho, hx, Instr.storeAt, Instr.sureAddr, storeVar]
 simp [hok.size w, hsz, hw]
theorem Do9 (hX : RelX E st saved a S w w0 K) {T : TypeId} {t0 : Ty} {x y : Operand} {q i f : Nat} {v : V1} {l' : List Loc} (hok : LdOk P t0 T) (ho : op.op = .store T x y)
  (hx : CellRel E st.heap w (.eptr q i f) (a.eval x)) (hv : V1Rel E st.heap w v (a.eval y)) {e : TypeId} {t : Ty} {xs : List (El t)} {fl : Nat} (hg : B5 st.heap q = some (.tree e t xs fl)) (hlen : v.cs.length = t0.sz) (hfit : f + t0.sz ≤ t.sz)
  (hrun : (RP.opt (Aa0 t (rd (Q1 t) xs i) f v.cs) fun p => .done [.o q (.tree e t (xs.set i p.1) fl)] VV.un).run st Kk l' = some r) : GoesX P op a w st saved S w0 K Kk r := by
 obtain ⟨wb, K1, hD, hT0, hB⟩ := hX
 have h := hB.rebase0
 obtain ⟨β, hT⟩ := hB.now hT0
 have hD := hD.trans hB.drift
 cases hp : Aa0 t (rd (Q1 t) xs i) f v.cs with
 | none => rw [hp] at hrun; cases hrun
 | some p =>
 rw [hp] at hrun
 obtain ⟨z, n', cs'⟩ := p
 obtain ⟨-, -, hz, hex⟩ := El9 (w := w) _ _ _ _ _ _ _ hp
 have hs : hsh st.heap q = some (.row e t xs.length) := by simp [hsh, hg, H7]
 simp only [CellRel, hs] at hx
 obtain ⟨hlt, hptr⟩ := hx
 obtain ⟨p1, p2⟩ := hT.tr q e t xs fl hg
 have hth : K1.th q := p1.resolve_right fun e => by subst e; simp at hlt
 obtain ⟨hat, hmine⟩ := p2 hth
 obtain ⟨-, eρ⟩ := h.ta q _ hg rfl
 rw [eρ] at hptr
 obtain ⟨ds, hdi, hdc⟩ := hat.row i hlt
 rw [← Dy6 (z := Q1 t) hlt] at hdi
 have hvc := hv.cells
 have hvl := hvc.length
 have hx := Dd3 (P := P) (t := t) (i := i) (f := f) hok ho hptr hv hlen (fun j hj => by
  rw [show (K1.ta q).2 + i * t.sz + f + j = (K1.ta q).2 + i * t.sz + (f + j) by omega, hdc (f + j) (by omega), List.getElem?_eq_getElem (by rw [hdi.len]; omega)]; rfl) hat.nf
 have hput := Y9 (K1.ta q).1 (a.eval y).cells.toList ((K1.ta q).2 + i * t.sz + f) w
 have hput2 := hat.put hlt (β q) (fun _ _ => rfl) hdc hdi.len (by omega) (hz hdi hvc) hat.inj hat.ne (fun f b p hb => (hat.lt i f b p hb).2)
 obtain ⟨r1, r2, r3⟩ := h.retree hT hg hth (xs' := xs.set i z) fl (by simp) (β q) [] (fun b hb => by cases hb) (fun b _ hb => hput.other b fun e => hb (.inl e)) (by rw [hput.size]; exact Nat.le_refl _) hput.room hput.os hput.tape hput.out
  (fun i f b p hb => .inr ⟨i, f, p, hb⟩) hput2 (fun h => ⟨h, rfl⟩) (fun n i' f' e' t' m hn hq => ⟨hq, rfl, fun ys hys => ⟨ys, by
   by_cases ei : i' = i
   ·subst ei
    have : rd (Q1 t) (xs.set i' z) i' = z := by simp [rd, hlt]
    rw [this]
    exact hex _ _ _ _ hys
   ·have : rd (Q1 t) (xs.set i z) i' = rd (Q1 t) xs i' := by simp [rd, List.getElem?_set_ne (fun h => ei h.symm)]
    rw [this]
    exact hys, rfl⟩⟩)
 refine ⟨_, _, _, hrun, fun Q next hn => ?_⟩
 unfold Oper.wp
 rw [hx]
 exact hn _ _ E (RelX.put ⟨_, _, hD.trans r3, r2, r1⟩ op.dst (show VRel _ _ _ .un undef from trivial))
end
end Go.Vm
end
section
namespace Go.Vm
open Go
def F76 (h : F6) (u : List Upd) : Prop := ∀ x ∈ u, ∃ o e t xs, x = .o o .dead ∧ B5 h o = some (.row e t xs true)
section
variable {st : St} {R : Type} {Kk : List Upd → VV → List Loc → Option R} {l : List Loc} {r : R}
theorem Em0 : ∀ (t : Ty) (cs : List Cell) (k : El t → List Cell → List Upd → RP) (l : List Loc), (Cu4 t cs k).run st Kk l = some r →
  ∃ x rest u l', (k x rest u).run st Kk l' = some r ∧ F76 st.heap u ∧
   ∀ {E saved a S w w0 K vs f}, RelE E st saved a S w w0 K → All2 (CellRel E st.heap w) cs vs → G7 (u.map Upd.name) = true → ∃ v1 v2 γ, vs = v1 ++ v2 ∧ TElt w γ t f x v1 ∧ All2 (CellRel E st.heap w) rest v2 ∧
    (∀ j b p, γ j = some (b, p) → (f ≤ j ∧ j < f + t.sz) ∧ ∃ n, Upd.o n .dead ∈ u ∧ E.has n ∧ E5 st.heap n ∧ b = (E.ρ n).1) ∧ ∀ j j' b p p', γ j = some (b, p) → γ j' = some (b, p') → j = j' := by
 have none_ : F76 st.heap [] := fun x hx => by cases hx
 intro t
 induction t with
 | nil =>
  intro cs k l h
  exact ⟨(), cs, [], l, h, none_, fun {E saved a S w w0 K vs f} hr hv _ => ⟨[], vs, fun _ => none, rfl, rfl, hv, (fun j b p hb => by cases hb), fun j j' b p p' hb => by cases hb⟩⟩
 | fld p q ihp ihq =>
  intro cs k l h
  simp only [Cu4] at h
  obtain ⟨x, rest, u, l1, h1, hu, hx⟩ := ihp _ _ _ h
  obtain ⟨y, rest', u', l2, h2, hu', hy⟩ := ihq _ _ _ h1
  refine ⟨(x, y), rest', u ++ u', l2, h2, fun z hz => (List.mem_append.1 hz).elim (hu z) (hu' z), fun {E saved a S w w0 K vs f} hr hv hd => ?_⟩
  rw [List.map_append] at hd
  obtain ⟨d1, d2, d3⟩ := H5 hd
  obtain ⟨v1, v2, γ, rfl, hi, hv2, g1, g2⟩ := hx (f := f) hr hv d1
  obtain ⟨v3, v4, γ', rfl, hi', hv4, g1', g2'⟩ := hy (f := f + p.sz) hr hv2 d2
  have cross : ∀ j j' b c c', γ j = some (b, c) → γ' j' = some (b, c') → False := fun j j' b c c' e1 e2 => by
   obtain ⟨_, n, m1, m2, m3, m4⟩ := g1 j b c e1
   obtain ⟨_, n', m1', m2', m3', m4'⟩ := g1' j' b c' e2
   have hne : n ≠ n' := fun e => d3 n (List.mem_map.2 ⟨_, m1, rfl⟩) (by rw [e]; exact List.mem_map.2 ⟨_, m1', rfl⟩)
   exact hr.dj n n' hne m3 m3' m2 m2' (m4.symm.trans m4')
  refine ⟨v1 ++ v3, v4, fun j => if j < f + p.sz then γ j else γ' j, by rw [List.append_assoc], ⟨v1, v3, rfl, hi.congr fun j h1 h2 => by simp [h2], hi'.congr fun j h1 h2 => by rw [if_neg (by omega)]⟩, hv4, fun j b c hb => ?_, fun j j' b c c' hb hb' => ?_⟩
  ·dsimp only at hb
   by_cases hj : j < f + p.sz
   ·rw [if_pos hj] at hb
    obtain ⟨m0, n, m1, m2⟩ := g1 j b c hb
    exact ⟨⟨m0.1, by simp only [Ty.sz]; omega⟩, n, List.mem_append.2 (.inl m1), m2⟩
   ·rw [if_neg hj] at hb
    obtain ⟨m0, n, m1, m2⟩ := g1' j b c hb
    exact ⟨⟨by omega, by simp only [Ty.sz]; omega⟩, n, List.mem_append.2 (.inr m1), m2⟩
  ·dsimp only at hb hb'
   by_cases hj : j < f + p.sz
   ·rw [if_pos hj] at hb
    by_cases hj' : j' < f + p.sz
    ·rw [if_pos hj'] at hb'
     exact g2 _ _ _ _ _ hb hb'
    ·rw [if_neg hj'] at hb'
     exact (cross _ _ _ _ _ hb hb').elim
   ·rw [if_neg hj] at hb
    by_cases hj' : j' < f + p.sz
    ·rw [if_pos hj'] at hb'
     exact (cross _ _ _ _ _ hb' hb).elim
    ·rw [if_neg hj'] at hb'
     exact g2' _ _ _ _ _ hb hb'
 | int i =>
  intro cs k l h
  cases cs with
  | nil => cases h
  | cons c cs => cases c with
   | int j m =>
    simp only [Cu4] at h
    by_cases e : i = j
    ·subst e
     simp only [decide_true, cond_true] at h
     refine ⟨m, cs, [], l, h, none_, fun {E saved a S w w0 K vs f} hr hv _ => ?_⟩
     cases hv with
     | @cons _ v _ vs' h1 h2 =>
      have : v = .int i m := h1
      subst this
      exact ⟨[_], vs', fun _ => none, rfl, rfl, h2, (fun j b p hb => by cases hb), fun j j' b p p' hb => by cases hb⟩
    ·simp [e, RP.run] at h
   | _ => cases h
 | bool =>
  intro cs k l h
  cases cs with
  | nil => cases h
  | cons c cs => cases c with
   | bool b =>
    refine ⟨b, cs, [], l, h, none_, fun {E saved a S w w0 K vs f} hr hv _ => ?_⟩
    cases hv with
    | @cons _ v _ vs' h1 h2 =>
     have : v = .bool b := h1
     subst this
     exact ⟨[_], vs', fun _ => none, rfl, rfl, h2, (fun j b p hb => by cases hb), fun j j' b p p' hb => by cases hb⟩
   | _ => cases h
 | str =>
  intro cs k l h
  cases cs with
  | nil => cases h
  | cons c cs => cases c with
   | str s =>
    refine ⟨s, cs, [], l, h, none_, fun {E saved a S w w0 K vs f} hr hv _ => ?_⟩
    cases hv with
    | @cons _ v _ vs' h1 h2 =>
     have : v = .string s := h1
     subst this
     exact ⟨[_], vs', fun _ => none, rfl, rfl, h2, (fun j b p hb => by cases hb), fun j j' b p p' hb => by cases hb⟩
   | _ => cases h
 | slice e t _ =>
  intro cs k l h
  cases cs with
  | nil => cases h
  | cons c cs =>
   have hcell : (∃ h0 : c = .nilS, (bif t.flat then k [] cs [] else .fail).run st Kk l = some r) ∨ ∃ o, c = .row o none none := by
    cases c with
    | nilS => exact .inl ⟨rfl, h⟩
    | row o lo hi => cases lo with
     | none => cases hi with
      | none => exact .inr ⟨o, rfl⟩
      | some _ => cases h
     | some _ => cases h
    | _ => cases h
   rcases hcell with ⟨rfl, h'⟩ | ⟨o, rfl⟩
   ·cases hfl : t.flat with
    | false => rw [hfl] at h'; cases h'
    | true =>
    rw [hfl] at h'
    refine ⟨[], cs, [], l, h', none_, fun {E saved a S w w0 K vs f} hr hv _ => ?_⟩
    cases hv with
    | @cons _ v _ vs' h1 h2 =>
     have : v = .slice none 0 0 := h1
     subst this
     exact ⟨[_], vs', fun _ => none, rfl, ⟨hfl, none, 0, rfl, Nat.le_refl _, .inl ⟨rfl, rfl⟩⟩, h2, (fun j b p hb => by cases hb), fun j j' b p p' hb => by cases hb⟩
   ·simp only [Cu4, RP.run] at h
    cases hg : B5 st.heap o with
    | none => rw [hg] at h; cases h
    | some b =>
     rw [hg] at h
     cases b with
     | row e' t' xs own =>
      cases own with
      | false => cases h
      | true =>
       simp only at h
       cases hb : (Nat.beq e e' && t.flat) with
       | false => rw [hb] at h; cases h
       | true =>
        rw [hb] at h
        simp only [cond_true] at h
        simp only [Bool.and_eq_true] at hb
        obtain ⟨he, hfl⟩ := hb
        have he := Nat.eq_of_beq_eq_true he
        subst he
        cases hy : I0 t' t xs with
        | none => rw [hy] at h; cases h
        | some ys =>
         rw [hy] at h
         obtain ⟨e1, rfl⟩ := G2 hy
         subst e1
         refine ⟨xs, cs, [.o o .dead], _, h, fun x hx => ?_, fun {E saved a S w w0 K vs f} hr hv _ => ?_⟩
         ·simp only [List.mem_singleton] at hx
          exact ⟨o, e, t', xs, hx, hg⟩
         ·cases hv with
          | @cons _ v _ vs' h1 h2 =>
           have hs : hsh st.heap o = some (.row e t' xs.length) := by simp [hsh, hg, H7]
           simp only [CellRel, hs] at h1
           obtain ⟨_, A, c, rfl, hle, hx⟩ := h1
           simp only [G1, O2, Nat.sub_zero] at hle ⊢
           rcases hx with rfl | ⟨hh, rfl, hR⟩
           ·exact ⟨[_], vs', fun _ => none, rfl, ⟨hfl, A, 0, rfl, hle, .inl ⟨rfl, rfl⟩⟩, h2, (fun j b p hb => by cases hb), fun j j' b p p' hb => by cases hb⟩
           ·obtain ⟨_, hob⟩ := hr.ob o _ hg
            obtain ⟨hat, hnf, _⟩ := hob hh
            refine ⟨[_], vs', fun j => if j = f then some (E.ρ o) else none, rfl, ⟨hfl, _, c, rfl, hle, .inr ⟨(E.ρ o).1, (E.ρ o).2, by simp, by simp [O2], fun i hi => ?_, hnf rfl, by simpa [O2] using hR⟩⟩, h2, fun j b p hb => ?_, fun j j' b p p' hb hb' => ?_⟩
            ·obtain ⟨ds, hd, hj⟩ := hat i hi
             exact ⟨ds, A53 hfl hd, hj⟩
            ·dsimp only at hb
             by_cases ej : j = f
             ·rw [if_pos ej] at hb
              simp only [Option.some.injEq] at hb
              refine ⟨⟨by omega, by simp only [Ty.sz]; omega⟩, o, List.mem_singleton.2 rfl, hh, by unfold E5; rw [hg]; trivial, by rw [hb]⟩
             ·rw [if_neg ej] at hb; cases hb
            ·dsimp only at hb hb'
             by_cases ej : j = f
             ·by_cases ej' : j' = f
              ·rw [ej, ej']
              ·rw [if_neg ej'] at hb'; cases hb'
             ·rw [if_neg ej] at hb; cases hb
     | _ => cases h
end
theorem Cv2 (E : Env) : ∀ (u : List Upd), ∃ ns : List Nat, ∀ b, b ∈ ns ↔ ∃ n, Upd.o n .dead ∈ u ∧ E.has n ∧ b = (E.ρ n).1
 | [] => ⟨[], fun b => ⟨(fun h => by cases h), fun ⟨n, h, _⟩ => (by cases h)⟩⟩
 | .o n ob :: u => by
  obtain ⟨ns, h⟩ := Cv2 E u
  by_cases hc : ob = .dead ∧ E.has n
  ·obtain ⟨rfl, hh⟩ := hc
   refine ⟨(E.ρ n).1 :: ns, fun b => ⟨fun hb => ?_, fun ⟨m, h1, h2, h3⟩ => ?_⟩⟩
   ·cases hb with
    | head => exact ⟨n, List.mem_cons_self, hh, rfl⟩
    | tail _ hb =>
     obtain ⟨m, h1, h2⟩ := (h b).1 hb
     exact ⟨m, List.mem_cons_of_mem _ h1, h2⟩
   ·cases h1 with
    | head => rw [h3]; exact List.mem_cons_self
    | tail _ h1 => exact List.mem_cons_of_mem _ ((h b).2 ⟨m, h1, h2, h3⟩)
  ·refine ⟨ns, fun b => ⟨fun hb => ?_, fun ⟨m, h1, h2, h3⟩ => ?_⟩⟩
   ·obtain ⟨m, h1, h2⟩ := (h b).1 hb
    exact ⟨m, List.mem_cons_of_mem _ h1, h2⟩
   ·cases h1 with
    | head => exact absurd ⟨rfl, h2⟩ hc
    | tail _ h1 => exact (h b).2 ⟨m, h1, h2, h3⟩
section
variable {P : Program} {cfg : Cfg} {E : Env} {st : St} {saved : List (Nat × List VV)} {a : Act} {S : List (Array Value)} {w w0 : World} {K : Keep}
 {R : Type} {Kk : List Upd → VV → List Loc → Option R} {l : List Loc} {r : R} {op : Oper}
theorem Dd4 (hX : RelX E st saved a S w w0 K) {T : TypeId} {x y : Operand} {q i : Nat} {v : V1} {l' : List Loc} {e : TypeId} {t : Ty} {xs : List (El t)} (hok : LdOk P t T) (ho : op.op = .store T x y)
  (hx : CellRel E st.heap w (.eptr q i 0) (a.eval x)) (hv : V1Rel E st.heap w v (a.eval y)) (hg : B5 st.heap q = some (.tree e t xs 1)) (hlen : v.cs.length = t.sz)
  (hrun : (Cu4 t v.cs fun y rest u => (match rest with
   | [] => p0 (u ++ [.o q (.tree e t (xs.set i y) 1)]) VV.un
   | _ => .fail)).run st Kk l' = some r) : GoesX P op a w st saved S w0 K Kk r := by
 obtain ⟨wb, K1, hD, hT0, hB⟩ := hX
 have h0 := hB.rebase0
 have hTF := hB.now hT0
 have hD := hD.trans hB.drift
 obtain ⟨z, rest, u, l2, h1, hu, hz⟩ := Em0 _ _ _ _ hrun
 cases rest with
 | cons _ _ => cases h1
 | nil =>
 simp only at h1
 obtain ⟨hd, hK⟩ := Aj3 h1
 rw [List.map_append] at hd
 obtain ⟨hd1, _, hdj⟩ := H5 hd
 have hnq : q ∉ u.map Upd.name := fun hm => hdj q hm (by simp [Upd.name])
 have hvc := hv.cells
 obtain ⟨v1, v2, γ, e1, hel, hv2, hγ, hinj⟩ := hz (f := 0) h0 hvc hd1
 cases hv2
 rw [List.append_nil] at e1
 subst e1
 have hk : ∀ x ∈ u, ∃ n e t xs own, x = .o n .dead ∧ B5 st.heap n = some (.row e t xs own) := fun x hx => by
  obtain ⟨n, e, t, xs, g1, g2⟩ := hu x hx
  exact ⟨n, e, t, xs, true, g1, g2⟩
 have h := h0.kills u hd1 hk
 have hdead : ∀ n ob, Upd.o n ob ∈ u → ob = .dead ∧ E5 st.heap n ∧ ∃ e t xs, B5 st.heap n = some (.row e t xs true) := fun n ob hx => by
  obtain ⟨m, e, t, xs, g1, g2⟩ := hu _ hx
  injection g1 with g3 g4
  subst g3
  exact ⟨g4, by unfold E5; rw [g2]; trivial, e, t, xs, g2⟩
 obtain ⟨β, hT⟩ := hTF.upds (u := u) (fun n ob hx => by rw [(hdead n ob hx).1]; rfl) (fun n ob hx o hgo => Ft0 (hdead n ob hx).2.1 hgo)
 have hg1 : B5 (st.upds u).heap q = some (.tree e t xs 1) := by rw [J5 u st q hnq]; exact hg
 have hs : hsh st.heap q = some (.row e t xs.length) := by simp [hsh, hg, H7]
 simp only [CellRel, hs] at hx
 obtain ⟨hlt, hptr⟩ := hx
 obtain ⟨p1, p2⟩ := hT.tr q e t xs 1 hg1
 have hth : K1.th q := p1.resolve_right fun e => by subst e; simp at hlt
 obtain ⟨hat, hmine⟩ := p2 hth
 obtain ⟨-, eρ⟩ := h0.ta q _ hg rfl
 rw [eρ] at hptr
 rw [Nat.add_zero] at hptr
 obtain ⟨ds, hdi, hdc⟩ := hat.row i hlt
 have hvl := hel.len
 have hx := Dd3 (P := P) (t := t) (i := i) (f := 0) hok ho hptr hv hlen (fun j hj => by
  rw [hdc j hj, List.getElem?_eq_getElem (by rw [hdi.len]; omega)]; rfl) hat.nf
 have hput := Y9 (K1.ta q).1 (a.eval y).cells.toList ((K1.ta q).2 + i * t.sz) w
 obtain ⟨ns, hns⟩ := Cv2 E u
 have hfree : ∀ b ∈ ns, Free E (st.upds u).heap K1 w b := fun b hb => by
  obtain ⟨n, m1, m2, rfl⟩ := (hns b).1 hb
  obtain ⟨_, hl, e', t', xs', hgn⟩ := hdead n _ m1
  obtain ⟨f1, f2⟩ := h0.dk n hl m2
  refine ⟨fun m hm hm' => ?_, f1, f2, h0.bd n (by rw [hgn]; rfl) m2⟩
  have hmu : m ∉ u.map Upd.name := fun hmu => by
   obtain ⟨ob, k1⟩ := A15 hmu
   have := (hdead m ob k1).1
   subst this
   unfold E5 at hm
   rw [t8 u st m _ hd1 k1] at hm
   exact hm
  have hne : m ≠ n := fun e => hmu (by rw [e]; exact List.mem_map.2 ⟨_, m1, rfl⟩)
  exact h0.dj m n hne (Cp6 hmu hm) hl hm' m2
 have hγns : ∀ j b p, γ j = some (b, p) → b ∈ ns := fun j b p hb => by
  obtain ⟨_, n, m1, m2, m3, m4⟩ := hγ j b p hb
  exact (hns b).2 ⟨n, m1, m2, m4⟩
 have hnK : ∀ i' f' b p, β q i' f' = some (b, p) → b ∉ ns := fun i' f' b p hb hm => (hfree b hm).2.2.1 (hmine b (.inr ⟨i', f', p, hb⟩)).1
 have hput2 := hat.put (z := z) (f := 0) (vs := (a.eval y).cells.toList) hlt (fun i' => if i' = i then γ else β q i') (fun i' hi' => by simp [hi']) hdc hdi.len (by omega)
  (by rw [Cc7 _ _ (by rw [hdi.len, hvl])]; simpa using hel)
  (fun i1 f1 i2 f2 b c c' hb hb' => by
   by_cases e1 : i1 = i
   ·by_cases e2 : i2 = i
    ·rw [if_pos e1] at hb; rw [if_pos e2] at hb'
     exact ⟨e1.trans e2.symm, hinj _ _ _ _ _ hb hb'⟩
    ·rw [if_pos e1] at hb; rw [if_neg e2] at hb'
     exact absurd (hγns _ _ _ hb) (hnK _ _ _ _ hb')
   ·by_cases e2 : i2 = i
    ·rw [if_neg e1] at hb; rw [if_pos e2] at hb'
     exact absurd (hγns _ _ _ hb') (hnK _ _ _ _ hb)
    ·rw [if_neg e1] at hb; rw [if_neg e2] at hb'
     exact hat.inj _ _ _ _ _ _ _ hb hb')
  (fun i1 f1 b c hb => by
   by_cases e1 : i1 = i
   ·rw [if_pos e1] at hb
    intro eb
    exact (hfree b (hγns _ _ _ hb)).2.2.1 (by rw [eb]; exact (hmine _ (.inl rfl)).1)
   ·rw [if_neg e1] at hb
    exact hat.ne _ _ _ _ hb)
  (fun f1 b c hb => by
   simp only [if_true] at hb
   have := (hγ f1 b c hb).1
   omega)
 rw [Nat.add_zero] at hput2
 obtain ⟨r1, r2, r3⟩ := h.retree hT hg1 hth (xs' := xs.set i z) 1 (by simp) (fun i' => if i' = i then γ else β q i') ns hfree (fun b _ hb => hput.other b fun e => hb (.inl e)) (by rw [hput.size]; exact Nat.le_refl _) hput.room hput.os hput.tape hput.out
  (fun i1 f1 b c hb => by
   by_cases e1 : i1 = i
   ·rw [if_pos e1] at hb; exact .inl (hγns _ _ _ hb)
   ·rw [if_neg e1] at hb; exact .inr ⟨_, _, _, hb⟩) hput2 (fun h => absurd rfl h) (fun n i' f' e' t' m hn hq => by cases hq)
 refine ⟨_, _, _, hK, fun Q next hn => ?_⟩
 unfold Oper.wp
 rw [hx]
 refine hn _ _ E (RelX.put ⟨_, _, hD.trans r3, ?_, ?_⟩ op.dst (show VRel _ _ _ .un undef from trivial))
 ·rw [L8]; exact r2
 ·rw [L8]; exact r1
end
end Go.Vm
end
section
namespace Go.Vm
open Go
section
variable {P : Program} {cfg : Cfg} {E : Env} {st : St} {saved : List (Nat × List VV)} {a : Act} {S : List (Array Value)} {w w0 : World} {K : Keep}
 {R : Type} {Kk : List Upd → VV → List Loc → Option R} {l : List Loc} {r : R} {op : Oper}
def Keep.name (K : Keep) (nm : Nat) (pr : Nat × Nat) (b : Prop) : Keep := { K with ta := fun n => if n = nm then pr else K.ta n, th := fun n => (n = nm ∧ b) ∨ (n ≠ nm ∧ K.th n) }
theorem RelE.newBor (h : RelE E st saved a S w w K) {β : Nat → Nat → Nat → Option (Nat × Nat)} (hT : TFB st.heap w K β) {nm : Nat} (hn : B5 st.heap nm = none) {o i f : Nat} {e : TypeId} {t : Ty} {e2 : TypeId} {t2 : Ty} {xs : List (El t2)} {ys : List (El t)}
  (hg : B5 st.heap o = some (.tree e2 t2 xs 0)) (hth : K.th o) (hi : i < xs.length) (hys : (D7 t2 (rd (Q1 t2) xs i))[f]? = some (.slc e t ys)) (pr : Nat × Nat) (b : Prop) (hp : b → pr.1 < w.heap.size) (hpr : b → β o i f = some pr) :
  RelE (E.at nm pr b) ⟨st.tmps, hset st.heap nm (.bor o i f e t ys.length)⟩ saved a S w w (K.name nm pr b) ∧ TF (hset st.heap nm (.bor o i f e t ys.length)) w (K.name nm pr b) := by
 have r1 : RelE E st saved a S w w (K.name nm pr b) := h.rebase (fun b hb => (h.kp b hb).1) (fun n hl hh => (h.dk n hl hh).2) h.oz (fun n ob hg ho => by
  have hne : n ≠ nm := F9 hn (by rw [hg]; rfl)
  obtain ⟨p1, p2⟩ := h.ta n ob hg ho
  exact ⟨p1.trans ⟨fun z => .inr ⟨hne, z⟩, fun z => z.elim (fun z => absurd z.1 hne) fun z => z.2⟩, by rw [p2]; simp [Keep.name, hne]⟩)
 have eta : (K.name nm pr b).ta nm = pr := by simp [Keep.name]
 have r2 := r1.nameT hn b (.bor o i f e t ys.length) rfl (fun hb => by rw [eta]; exact hp hb) ⟨fun z => z.elim (fun z => z.2) fun z => absurd rfl z.1, fun z => .inl ⟨rfl, z⟩⟩
 rw [eta] at r2
 refine ⟨r2, ?_⟩
 have hold : ∀ n ob, n ≠ nm → B5 (hset st.heap nm (.bor o i f e t ys.length)) n = some ob → B5 st.heap n = some ob := fun n ob hne hg => by rwa [A9, if_neg hne] at hg
 have hth' : ∀ n, n ≠ nm → ((K.name nm pr b).th n ↔ K.th n) := fun n hne => ⟨fun z => z.elim (fun z => absurd z.1 hne) fun z => z.2, fun z => .inr ⟨hne, z⟩⟩
 have hta' : ∀ n, n ≠ nm → (K.name nm pr b).ta n = K.ta n := fun n hne => by simp [Keep.name, hne]
 have hblk : ∀ n, n ≠ nm → ∀ x, Blk (K.name nm pr b) β n x → Blk K β n x := fun n hne x hx => by
  unfold Blk at hx ⊢
  rwa [hta' n hne] at hx
 have net : ∀ n e1 t1 x1 q1, B5 (hset st.heap nm (.bor o i f e t ys.length)) n = some (.tree e1 t1 x1 q1) → n ≠ nm := fun n e1 t1 x1 q1 hg en => by
  rw [A9, if_pos en] at hg
  cases hg
 have eo : o ≠ nm := F9 hn (by rw [hg]; rfl)
 refine ⟨β, fun n e' t' xs' q' hg' => ?_, fun n e' t' xs' q' hg' hq hz => ?_, fun n n' ob ob' hne hg1 hg2 he he' hth1 hth2 x hx hx' => ?_, fun n o' i' f' e' t' m hg' => ?_⟩
 ·by_cases en : n = nm
  ·subst en; rw [A9, if_pos rfl] at hg'; cases hg'
  ·obtain ⟨p1, p2⟩ := hT.tr n e' t' xs' q' (hold n _ en hg')
   refine ⟨p1.imp (hth' n en).2 id, fun z => ?_⟩
   obtain ⟨q1, q2⟩ := p2 ((hth' n en).1 z)
   exact ⟨by rw [hta' n en]; exact q1, fun x hx => q2 x (hblk n en x hx)⟩
 ·have en : n ≠ nm := net n _ _ _ _ hg'
  rw [hta' n en]
  exact hT.fx n _ _ _ _ (hold n _ en hg') hq ((hth' n en).1 hz)
 ·have n1 : n ≠ nm := fun en => by
   obtain ⟨e1, t1, x1, q1, rfl⟩ := he
   rw [A9, if_pos en] at hg1; cases hg1
  have n2 : n' ≠ nm := fun en => by
   obtain ⟨e1, t1, x1, q1, rfl⟩ := he'
   rw [A9, if_pos en] at hg2; cases hg2
  exact hT.ap n n' ob ob' hne (hold n _ n1 hg1) (hold n' _ n2 hg2) he he' ((hth' n n1).1 hth1) ((hth' n' n2).1 hth2) x (hblk n n1 x hx) (hblk n' n2 x hx')
 ·by_cases en : n = nm
  ·subst en
   rw [A9, if_pos rfl] at hg'
   cases hg'
   refine ⟨e2, t2, xs, 0, by rw [A9, if_neg eo]; exact hg, fun _ => ⟨(hth' o eo).2 hth, hi, fun z => ?_, ys, hys, rfl⟩⟩
   rw [eta]
   exact hpr (z.elim (fun z => z.2) fun z => absurd rfl z.1)
  ·obtain ⟨e3, t3, x3, q3, g1, g2⟩ := hT.bo n o' i' f' e' t' m (hold n _ en hg')
   have eo' : o' ≠ nm := F9 hn (by rw [g1]; rfl)
   refine ⟨e3, t3, x3, q3, by rw [A9, if_neg eo']; exact g1, fun eq => ?_⟩
   obtain ⟨k1, k2, k3, k4⟩ := g2 eq
   exact ⟨(hth' o' eo').2 k1, k2, fun z => by rw [hta' n en]; exact k3 ((hth' n en).1 z), k4⟩
theorem Dr.name {w : World} {K : Keep} {nm : Nat} {pr : Nat × Nat} {b : Prop} : Dr w K w (K.name nm pr b) := ⟨rfl, rfl, rfl, Nat.le_refl _, fun b h => ⟨h, fun _ => rfl⟩, fun b _ h => h, fun b _ h => h, fun _ _ h => h, fun _ _ => rfl⟩
theorem Gm6 (hX : RelX E st saved a S w w0 K) {nm : Nat} {T : TypeId} {t0 : Ty} {x : Operand} {q i f : Nat} {e : TypeId} {t : Ty} {xs : List (El t)} {fl : Nat} {l' : List Loc} (hok : LdOk P t0 T) (ho : op.op = .load T x)
  (hx : CellRel E st.heap w (.eptr q i f) (a.eval x)) (hg : B5 st.heap q = some (.tree e t xs fl)) (hrun : (F52 nm t0 q i f t xs fl).run st Kk l' = some r) : GoesX P op a w st saved S w0 K Kk r := by
 obtain ⟨wb, K1, hD, hT0, hB⟩ := hX
 have h := hB.rebase0
 obtain ⟨β, hT⟩ := hB.now hT0
 have hD := hD.trans hB.drift
 have hs : hsh st.heap q = some (.row e t xs.length) := by simp [hsh, hg, H7]
 simp only [CellRel, hs] at hx
 obtain ⟨hlt, hptr⟩ := hx
 obtain ⟨p1, p2⟩ := hT.tr q e t xs fl hg
 have hth : K1.th q := p1.resolve_right fun e => by subst e; simp at hlt
 obtain ⟨hat, hmine⟩ := p2 hth
 obtain ⟨-, eρ⟩ := h.ta q _ hg rfl
 rw [eρ] at hptr
 obtain ⟨ds, hdi, hdc⟩ := hat.row i hlt
 rw [← Dy6 (z := Q1 t) hlt] at hdi
 have hdc' : ∀ j v, ds[j]? = some v → w.cell? ⟨(K1.ta q).1, (K1.ta q).2 + i * t.sz + j, none⟩ = some v := fun j v hv => by
  have hj : j < ds.length := by
   rcases Nat.lt_or_ge j ds.length with h | h
   ·exact h
   ·rw [List.getElem?_eq_none h] at hv; cases hv
  rw [hdc j (by rw [← hdi.len]; exact hj), hv]
 unfold F52 at hrun
 cases hfl : t0.flat with
 | true =>
  rw [hfl] at hrun
  simp only [cond_true] at hrun
  cases hb : (Nat.ble (f + t0.sz) t.sz && (((D7 t (rd (Q1 t) xs i)).drop f).take t0.sz).all E97) with
  | false => rw [hb] at hrun; cases hrun
  | true =>
   rw [hb] at hrun
   simp only [cond_true, RP.run] at hrun
   simp only [Bool.and_eq_true] at hb
   have hle := Nat.le_of_ble_eq_true hb.1
   obtain ⟨V, hV, hr⟩ := B57 (st := st) (E := E) (w := w) hok (cs := ((D7 t (rd (Q1 t) xs i)).drop f).take t0.sz) (vs := (ds.drop f).take t0.sz) (g := (K1.ta q).1) (p := (K1.ta q).2 + i * t.sz + f)
    (by have := Aa5 t (rd (Q1 t) xs i); simp; omega) ((((Cc9 hdi).drop f).take t0.sz).all hb.2) (Dy7 hdc')
   refine ⟨[], _, _, hrun, fun Q next hn => ?_⟩
   unfold Oper.wp
   rw [show (execOp a.eval op).run P w = .ok (.value V) w by simp [execOp, ho, hptr, hV]]
   exact hn _ _ E (RelX.put ⟨_, _, hD, ⟨β, hT⟩, h⟩ op.dst hr)
 | false =>
  rw [hfl] at hrun
  simp only [cond_false] at hrun
  cases hfl0 : Nat.beq fl 0 with
  | false => rw [hfl0] at hrun; cases hrun
  | true =>
   rw [hfl0] at hrun
   have hfl1 := Nat.eq_of_beq_eq_true hfl0
   subst hfl1
   simp only [cond_true] at hrun
   split at hrun
   ·rename_i e2 t2 e3 t3 ys hex
    cases hb : (Nat.beq e2 e3 && decide (t2 = t3) && t2.flat) with
    | false => rw [hb] at hrun; cases hrun
    | true =>
     rw [hb] at hrun
     simp only [cond_true] at hrun
     simp only [Bool.and_eq_true] at hb
     have he := Nat.eq_of_beq_eq_true hb.1.1
     have ht := of_decide_eq_true hb.1.2
     subst he; subst ht
     obtain ⟨hfr, l2, h2⟩ := V9 hrun
     obtain ⟨-, A, c, hc1, hc2, hc3⟩ := Bg9 hdi hex
     rw [Nat.zero_add] at hc3
     have fin : ∀ (pr : Nat × Nat) (b : Prop), (b → pr.1 < w.heap.size) → (b → β q i f = some pr) → (c = 0 ∨ (b ∧ A = some ⟨pr.1, pr.2, none⟩ ∧ Room w pr.1 (pr.2 + c * t2.sz))) → GoesX P op a w st saved S w0 K Kk r := fun pr b g1 g2 g3 => by
      obtain ⟨r1, r2⟩ := h.newBor hT hfr hg hth hlt hex pr b g1 g2
      have hs' : hsh (hset st.heap nm (.bor q i f e2 t2 ys.length)) nm = some (.row e2 t2 ys.length) := by rw [J3, if_pos rfl]; rfl
      have hcell : CellRel (E.at nm pr b) (hset st.heap nm (.bor q i f e2 t2 ys.length)) w (.row nm none none) (.slice A ys.length c) := by
       simp only [CellRel, hs']
       refine ⟨trivial, A, c, rfl, by simpa [O2] using hc2, g3.imp id fun ⟨k1, k2, k3⟩ => ⟨by simpa [Env.at] using k1, by simpa [Env.at, O2] using k2, by simpa [Env.at, O2] using k3⟩⟩
      obtain ⟨V, hV, hr⟩ := B57 (st := ⟨st.tmps, hset st.heap nm (.bor q i f e2 t2 ys.length)⟩) (E := E.at nm pr b) (w := w) hok (cs := [.row nm none none]) (vs := [.slice A ys.length c]) (g := (K1.ta q).1) (p := (K1.ta q).2 + i * t.sz + f)
       rfl (.cons hcell .nil) (fun j v hj => by
        cases j with
        | zero =>
         simp only [List.getElem?_cons_zero, Option.some.injEq] at hj
         subst hj
         rw [Nat.add_zero, Nat.add_assoc]
         have := hdc' f _ hc1
         rwa [Nat.add_assoc] at this
        | succ j => simp at hj)
      refine ⟨_, _, _, h2, fun Q next hn => ?_⟩
      unfold Oper.wp
      rw [show (execOp a.eval op).run P w = .ok (.value V) w by simp [execOp, ho, hptr, hV]]
      exact hn _ _ _ (RelX.put ⟨_, _, hD.trans Dr.name, r2, r1⟩ op.dst hr)
     rcases hc3 with ⟨rfl, _⟩ | ⟨b, p, k1, k2, k3, k4, k5⟩
     ·exact fin (0, 0) False (fun f => f.elim) (fun f => f.elim) (.inl rfl)
     ·exact fin (b, p) True (fun _ => k5.lt) (fun _ => k1) (.inr ⟨trivial, k2, k5⟩)
   ·cases hrun
theorem Cp8 {w : World} {β : Nat → Option (Nat × Nat)} : ∀ (t : Ty) (f : Nat), t.one = true → (∀ j, β j = none) → TElt w β t f (Q1 t) (G6 t)
 | .int _, _, _, _ => rfl
 | .bool, _, _, _ => rfl
 | .str, _, _, _ => rfl
 | .slice _ _, f, h, hb => ⟨h, none, 0, rfl, Nat.le_refl _, .inl ⟨rfl, hb f⟩⟩
 | .nil, _, _, _ => rfl
 | .fld p q, f, h, hb => by
  simp only [Ty.one, Bool.and_eq_true] at h
  exact ⟨_, _, rfl, Cp8 p f h.1 hb, Cp8 q _ h.2 hb⟩
theorem Gm7 (hG : Good P cfg) (hX : RelX E st saved a S w w0 K) {T : TypeId} {n m : Operand} {nm : Nat} {e : TypeId} {t : Ty} (ho : op.op = .makeSlice T n m) (hT : look cfg.tab T = some (.slice e t)) (hone : t.one = true)
  (hrun : (bif Nat.beq t.sz 0 then .fail else rdI n fun _ a => rdI m fun _ b =>
   .ite (decide (a = b)) (.ite (decide (0 ≤ a)) (.ite (decide (a.toNat ≤ A2)) (X0 nm (.done [.o nm (.tree e t (List.replicate a.toNat (Q1 t)) 1)] (one (.row nm none none)))) .fail) .fail) .fail).run st Kk l = some r) : GoesX P op a w st saved S w0 K Kk r := by
 obtain ⟨wb, K1, hD, hT0, hB⟩ := hX
 have h := hB.rebase0
 have hTF := hB.now hT0
 have hD := hD.trans hB.drift
 have hok := hG.tab T _ hT
 cases hz : Nat.beq t.sz 0 with
 | true => rw [hz] at hrun; cases hrun
 | false =>
  rw [hz] at hrun
  simp only [cond_false] at hrun
  have hsz : 0 < t.sz := by
   rcases Nat.eq_zero_or_pos t.sz with h | h
   ·rw [h] at hz; cases hz
   ·exact h
  obtain ⟨kn, p, l1, h1, hn⟩ := At7 n _ hrun
  obtain ⟨km, q, l2, h2, hm⟩ := At7 m _ h1
  have hn := hn h
  have hm := hm h
  obtain ⟨b1, h21⟩ := Aa4 h2
  obtain ⟨b2, h22⟩ := Aa4 h21
  obtain ⟨b3, h23⟩ := Aa4 h22
  have c1 : p = q := of_decide_eq_true b1
  have c2 : 0 ≤ p := of_decide_eq_true b2
  have c3 : p.toNat ≤ 549755813888 := of_decide_eq_true b3
  obtain ⟨hfr, l3, h3⟩ := V9 h23
  clear h2 h21 h22 b1
  subst c1
  obtain ⟨z, hzv, hzc⟩ := A39 (P := P) hok.2.2
  obtain ⟨i, hi, hs, hzero, hb⟩ := (show TyOk P t e from hok.2.2).base.info
  have hzs : z.cells.size = t.sz := by rw [← Array.length_toList, hzc, O3]
  have hlen : (List.replicate p.toNat (G6 t)).flatten.length = p.toNat * t.sz := by
   rw [P6 (n := t.sz) _ (fun c hc => by rw [(List.mem_replicate.1 hc).2, O3])]; simp
  have harr : (List.replicate p.toNat (G6 t)).flatten.toArray = madeCells z.cells (p.toNat * i.size) := by
   apply Array.toList_inj.1
   rw [hs, ← hzs, madeCells, Bl4 _ _ (by omega), hzc]
  have hz1 : (zeroValue e).run P w = .ok z w := hzv w
  have hzi : i.zero = some z := by
   have := hz1
   simp only [zeroValue, typeInfo, Sem.run_bind, run_program, Result.andThen_ok, hi, Sem.run_pure, hzero] at this
   rw [hzero]
   simpa using this
  have hbb : (i.bytes : Int) * p ≤ 281474976710656 := by
   have h1 : i.bytes * p.toNat ≤ 256 * 549755813888 := Nat.mul_le_mul hb c3
   have h2 : ((i.bytes * p.toNat : Nat) : Int) ≤ ((256 * 549755813888 : Nat) : Int) := Int.ofNat_le.2 h1
   rw [Int.natCast_mul, Int.toNat_of_nonneg c2] at h2
   omega
  have hx : (execOp a.eval op).run P w = .ok (.value (.slice (some ⟨w.heap.size, 0, none⟩) p.toNat p.toNat)) (w.alloc (.cells (List.replicate p.toNat (G6 t)).flatten.toArray e)) := by
   rw [harr]
   simp [execOp, ho, hn, hm, run_make (P := P) w T e i z hok.2.1 hi hzi kn km p p c2 (Int.le_refl _) hbb (by omega)]
  have hnew : (w.alloc (.cells (List.replicate p.toNat (G6 t)).flatten.toArray e)).heap[w.heap.size]? = some (.cells (List.replicate p.toNat (G6 t)).flatten.toArray e) := X5 ..
  have hsize : (w.alloc (.cells (List.replicate p.toNat (G6 t)).flatten.toArray e)).heap.size = w.heap.size + 1 := by simp
  have r1 := h.after (w' := w.alloc (.cells (List.replicate p.toNat (G6 t)).flatten.toArray e)) (by omega) (fun b hb => Bg4 hb) rfl rfl rfl (fun _ => False) (fun b hb => hb.elim)
  have t1 := r1.now hTF
  have r2 := r1.rebase0
  have hfree : ∀ b ∈ w.heap.size :: ([] : List Nat), Free ⟨E.ρ, E.has, fun b => E.ok b ∨ False⟩ st.heap K1 (w.alloc (.cells (List.replicate p.toNat (G6 t)).flatten.toArray e)) b := fun b hb => by
   have : b = w.heap.size := by simpa using hb
   subst this
   refine ⟨fun n hl hh => ?_, fun hk => hk.elim (fun hk => absurd (h.bo _ hk) (Nat.lt_irrefl _)) id, fun hk => absurd (h.kp _ hk).1 (Nat.lt_irrefl _), by omega⟩
   exact Nat.ne_of_lt (h.bd n (P5 hl) hh)
  have hTr : TreeAt (w.alloc (.cells (List.replicate p.toNat (G6 t)).flatten.toArray e)) w.heap.size 0 t (fun _ _ => none) (List.replicate p.toNat (Q1 t)) := by
   refine ⟨fun i hi => ⟨G6 t, ?_, fun j hj => ?_⟩, fun off _ => ?_, (fun i f i' f' b p p' hb => by cases hb), (fun i f b p hb => by cases hb), fun i f b p hb => by cases hb⟩
   ·rw [List.getElem_replicate]
    exact Cp8 t 0 hone fun _ => rfl
   ·have hi' : i < p.toNat := by simpa using hi
    have := Av0 (List.replicate p.toNat (G6 t)) i j (fun c hc => by rw [(List.mem_replicate.1 hc).2, O3]) hj [] (by simpa using hi')
    rw [List.append_nil] at this
    simp only [World.cell?, hnew, Nat.zero_add]
    have e1 : (List.replicate p.toNat (G6 t))[i]? = some (G6 t) := by simp [hi']
    rw [e1] at this
    simpa using this
   ·simp only [World.frozen?, hnew]
    simp
  obtain ⟨r3, t3⟩ := r2.newTree t1 hfr e 1 hfree (ns := []) (fun b => ⟨(fun h => by cases h), fun ⟨i, f, p, h⟩ => (by cases h)⟩) hTr
  refine ⟨_, _, l3, h3, fun Q next hnx => ?_⟩
  unfold Oper.wp
  rw [hx]
  have hdr : Dr (w.alloc (.cells (List.replicate p.toNat (G6 t)).flatten.toArray e)) K1 (w.alloc (.cells (List.replicate p.toNat (G6 t)).flatten.toArray e)) (K1.plus nm w.heap.size 0 [] (fun _ _ => none)) := ⟨rfl, rfl, rfl, Nat.le_refl _, fun b hb => ⟨.inl hb, fun _ => rfl⟩, fun b _ ho => ho.1, fun b hb hp => hp.resolve_right fun hm => (hfree b hm).2.2.1 hb, fun _ _ h => h, fun b hk => by
   have hne : b ≠ w.heap.size := fun e => (hfree w.heap.size List.mem_cons_self).2.2.1 (e ▸ hk)
   simp [Keep.plus, hne]⟩
  refine hnx _ _ _ (RelX.put ⟨_, _, (hD.trans r1.drift).trans hdr, t3, r3⟩ op.dst (VRel.one ?_))
  have hs' : hsh (hset st.heap nm (.tree e t (List.replicate p.toNat (Q1 t)) 1)) nm = some (.row e t p.toNat) := by rw [J3, if_pos rfl]; simp [H7]
  simp only [CellRel, hs', St.upds, St.upd]
  refine ⟨trivial, _, p.toNat, rfl, by simp [O2], .inr ⟨by simp [Env.at], by simp [Env.at, O2], ?_⟩⟩
  refine ⟨_, _, _, by simpa [Env.at] using hnew, ?_⟩
  simp [Env.at, O2, hlen]
end
end Go.Vm
end
section
namespace Go.Vm
open Go
section
variable {st : St} {R : Type} {Kk : List Upd → VV → List Loc → Option R} {l : List Loc} {r : R} {P : Program} {f : FuncId}
theorem Bw7 : ∀ (s : MSpec) (vs : List V1) (k : VV → Po → RP) (l : List Loc), (Br8 s vs k).run st Kk l = some r →
  ∃ out p l', (k (c7 (L2 (fun n => n) 0 out).1) p).run st Kk l' = some r ∧ (L2 (fun n => n) 0 out).2 = [] ∧ V8 out = false ∧
   ∀ {E saved a S w w0 K ok Vs pre ds}, RelE E st saved a S w w0 K → TF st.heap w K → (∀ b, E.ok b → ok b) → All2 (V1Rel E st.heap w) vs Vs → (∀ g, D53 = some g → g ∉ ds.flatMap MD.blk) → MOk P f ok w s pre ds →
    Calls P f (pre ++ Vs).toArray w fun e w' => ∃ V, e = .returned V ∧ RetM ok w w' out V ds [p] := by
 intro s
 induction s with
 | box t k ih => intro vs k l h; cases vs <;> simp [Br8, RP.run] at h
 | row e t k ih => intro vs k l h; cases vs <;> simp [Br8, RP.run] at h
 | tree e t k ih => intro vs k l h; cases vs <;> simp [Br8, RP.run] at h
 | body o out post =>
  intro vs k l h
  cases vs with
  | cons v vs => simp [Br8, RP.run] at h
  | nil =>
   simp only [Br8] at h
   cases o with
   | none => cases h
   | some a =>
    simp only [RP.run] at h
    split at h
    ·rename_i p hp hl
     cases hs : V8 (out a) with
     | true => rw [hs] at h; cases h
     | false =>
      rw [hs] at h
      refine ⟨out a, p, l, h, hl, hs, fun {E saved a' S w w0 K ok Vs pre ds} hr ht hok hv he hm => ?_⟩
      cases hv
      rw [List.append_nil]
      have := hm he a rfl
      rwa [hp] at this
    ·cases h
 | imm t k0 ih =>
  intro vs k l h
  cases vs with
  | nil => simp [Br8, RP.run] at h
  | cons v vs =>
   simp only [Br8] at h
   cases hag : (bif v.agg then t.agg else !t.agg) with
   | false => rw [hag] at h; cases h
   | true =>
    rw [hag] at h
    simp only [cond_true] at h
    obtain ⟨x, rest, ns1, l1, h1, hns1, hx⟩ := Bl6 _ _ _ _ h
    split at h1
    ·obtain ⟨out, p, l2, h2, h3, h4, hcall⟩ := ih x vs k l1 h1
     refine ⟨out, p, l2, h2, h3, h4, fun {E saved a' S w w0 K ok Vs pre ds} hr ht hok hv he hm => ?_⟩
     cases hv with
     | @cons _ V _ Vs' pv q =>
      have harg : A52 ok w t x V := by
       obtain ⟨us, hus, hV⟩ := pv
       obtain ⟨v1, v2, e1, hi, hv2⟩ := hx hr ht hus
       cases hv2
       rw [List.append_nil] at e1
       subst e1
       refine ⟨us, hi.mono (fun b hb => hok b ?_) (fun _ _ => rfl), ?_⟩
       ·rcases hb with (hb | ⟨n, hn, _⟩) | ⟨⟨n, hn, _⟩, _⟩
        ·exact hb
        ·cases hn
        ·cases hn
       ·rcases hV with ⟨h1, h2⟩ | ⟨h1, h2⟩
        ·rw [h1] at hag; exact .inl ⟨hag, h2⟩
        ·rw [h1] at hag; exact .inr ⟨by simpa using hag, h2⟩
      have := hcall hr ht hok q he (hm x V harg)
      rwa [List.append_assoc] at this
    ·cases h1
end
section
variable {P : Program} {cfg : Cfg} {E : Env} {st : St} {saved : List (Nat × List VV)} {a : Act} {S : List (Array Value)} {w w' w0 : World} {K : Keep}
 {R : Type} {Kk : List Upd → VV → List Loc → Option R} {l : List Loc} {r : R} {op : Oper}
theorem Em1 : ∀ w, Bv8 w ≠ 0
 | 0, h => by cases h
 | w + 1, h => by cases h
theorem D00 : ∀ {w}, Bv8 w ≠ 1 → w ≠ 1
 | 0, _, h => by cases h
 | w + 1, h, e => h e
theorem B60 {st' : St} {K1 K1' : Keep} (h : RelE E st saved a S w w K1) (r1 : RelE E st' saved a S w' w' K1') (r2 : TF st'.heap w' K1') (hD : Dv w0 K w' K1') (hlive : ∀ n, E5 st'.heap n → E5 st.heap n) (hk : ∀ b, K1'.k b → b < w.heap.size)
  {out : List (Bool × List RC)} {V : Value} {d : MD} {p : Po} (hp : Av1 [d] [p] = []) (hlay : (L2 (fun n => n) 0 out).2 = []) (hsh : V8 out = false) (hret : RetM E.ok w w' out V [d] [p]) (dst : Option Tmp) :
  ∃ E', RelX E' (Aq9 st' dst (c7 (L2 (fun n => n) 0 out).1)) saved (a.put dst V) S w' w0 K := by
 obtain ⟨good, Vs, bs, hgood, hres, hnd, hbs, rfl, hpo⟩ := hret.res
 have hres' : ResRel E.ok w' out Vs bs := hres.imp fun x hx rc hrc v bs hr => hr.flat (by
  unfold V8 at hsh
  have h6 := List.any_eq_false.1 hsh x hx
  have h7 : x.2.any RC.shared = false := by simpa using h6
  have := List.any_eq_false.1 h7 rc hrc
  simpa using this)
 obtain ⟨E', K', r4, t4, g4, hV, _⟩ := Bl7 out 0 (nm := fun n => n) (ok := E.ok) r1 r2 (fun n hn => by rw [hlay] at hn; cases hn) (by rw [hlay]; rfl) hres' (fun b hb => hb) hnd (fun b hb => by
  rcases hbs b hb with ⟨g1, g2, g3⟩ | hg
  ·refine ⟨fun n hl hh => ?_, fun hk' => ?_, fun hk' => ?_, g2⟩
   ·exact Nat.ne_of_lt (Nat.lt_of_lt_of_le (h.bd n (P5 (hlive n hl)) hh) g1)
   ·exact absurd (h.bo b hk') (Nat.not_lt.2 g1)
   ·exact absurd (hk b hk') (Nat.not_lt.2 g1)
  ·rw [hp] at hg; cases hg)
 rw [hlay] at r4 t4 hV
 exact ⟨E', RelX.put ⟨w', K', hD.trans g4.dr, t4, r4⟩ dst (Bl8 hV)⟩
theorem Dd5 {h : F6} {o : Nat} {ob : Obj} (ht : ob.tr = true) : ∀ n, E5 (hset h o ob) n → E5 h n := fun n hl => by
 unfold E5 at hl ⊢
 rw [A9] at hl
 by_cases e : n = o
 ·rw [if_pos e] at hl
  cases ob <;> first | exact hl.elim | cases ht
 ·rwa [if_neg e] at hl
theorem TreeAt.list {g off : Nat} {t : Ty} {β : Nat → Nat → Option (Nat × Nat)} {xs : List (El t)} (hT : TreeAt w g off t β xs) : ∃ ns : List Nat, ∀ b, b ∈ ns ↔ ∃ i f p, β i f = some (b, p) := by
 refine ⟨(List.range xs.length).flatMap fun i => (List.range t.sz).filterMap fun f => (β i f).map Prod.fst, fun b => ⟨fun h => ?_, fun ⟨i, f, p, h⟩ => ?_⟩⟩
 ·obtain ⟨i, _, h⟩ := List.mem_flatMap.1 h
  obtain ⟨f, _, h⟩ := List.mem_filterMap.1 h
  obtain ⟨q, h1, h2⟩ := Option.map_eq_some_iff.1 h
  exact ⟨i, f, q.2, by rw [h1, ← h2]⟩
 ·obtain ⟨h1, h2⟩ := hT.lt i f b p h
  exact List.mem_flatMap.2 ⟨i, List.mem_range.2 h1, List.mem_filterMap.2 ⟨f, List.mem_range.2 h2, by rw [h]; rfl⟩⟩
theorem Ft1 {f : FuncId} (hG : Ok P cfg) (hX : RelX E st saved a S w w0 K) {c : Call} {s : MSpec} {vs : List V1} (ho : op.op = .call c) (hc : c.callee = .value (.func f)) (hs : look cfg.mspec f = some s)
  (hv : All2 (V1Rel E st.heap w) vs (c.args.toList.map a.eval)) (hrun : (Fs2 s vs).run st Kk l = some r) : GoesX P op a w st saved S w0 K Kk r := by
 generalize hVs : c.args.toList.map a.eval = Vs0 at hv
 obtain ⟨wb, K1, hD, hT0, hB⟩ := hX
 have h := hB.rebase0
 have hTF := hB.now hT0
 obtain ⟨β, hT⟩ := hTF
 have hTF := hB.now hT0
 have hD := hD.trans hB.drift
 have hM := hG.mspec f s hs E.ok w h.bo hD.err
 have hmn : ∀ g, D53 = some g → ¬ K1.mine g := fun g hg hm => (hD.errK g hg).2 hm.2.2
 have hex := B59 (P := P) (w := w) (ρ := a.eval) ho hc (cap := #[]) rfl (hG.enterM f (by rw [hs]; rfl))
 have harr : (c.args.toList.map a.eval).toArray = c.args.map a.eval ++ #[] := by
  apply Array.toList_inj.1; simp
 rw [hVs] at harr
 have call : ∀ {Q : Ending → World → Prop} (Qx : Exit → Act → World → Prop) (next : Act → World → Prop), Calls P f Vs0.toArray w Q → (∀ e w', Q e w' → ∃ V, e = .returned V ∧ next (a.put op.dst V) w') → op.wp P a w next Qx := fun Qx next hC hQ => by
  unfold Oper.wp
  rw [hex, Oper.upon_enter, ← harr]
  refine Calls.mono hC fun e w' hq => ?_
  obtain ⟨V, rfl, hn⟩ := hQ e w' hq
  exact hn
 have okOf : ∀ b, K1.mine b → b < w.heap.size ∧ ¬ E.ok b := fun b hb => ⟨(h.kp b hb.1).1, fun hk => hb.2.1 (h.oz b hk hb.1)⟩
 unfold Fs2 at hrun
 split at hrun
 ·
  rename_i e t k rest
  cases hv with
  | @cons _ V _ Vs p q =>
  have e0 : V = .slice none 0 0 := V1Rel.one p
  subst e0
  obtain ⟨out, po, l2, h2, hlay, hshr, hcall⟩ := Bw7 (P := P) (f := f) _ _ _ _ hrun
  cases po with
  | tree t2 zs =>
   have hC := hcall h hTF (fun b hb => hb) q (fun g _ hb => by simp [MD.blk] at hb) (hM.1 none)
   refine ⟨[], _, _, h2, fun Qx next hn => call Qx next hC fun e w' hR => ?_⟩
   obtain ⟨V, rfl, hret⟩ := hR
   refine ⟨V, rfl, ?_⟩
   have r1a := h.poke (w' := w') (fun _ => False) (fun b hb => hb.elim) (fun b hb _ => hret.same b hb (by simp [MD.blk])) hret.size hret.room hret.os hret.tape hret.put
   have hD1 : Dr w K1 w' K1 := ⟨hret.os, hret.tape, hret.put, hret.size, fun b hb => ⟨hb, fun _ => hret.same b (h.kp b hb).1 (by simp [MD.blk])⟩, fun b _ h => h, fun b _ h => h, hret.room, fun _ _ => rfl⟩
   have t1 : TF st.heap w' K1 := by
    refine ⟨β, fun n e t xs q hn => ?_, hT.fx, hT.ap, hT.bo⟩
    obtain ⟨p1, p2⟩ := hT.tr n e t xs q hn
    refine ⟨p1, fun hth => ?_⟩
    obtain ⟨q1, q2⟩ := p2 hth
    exact ⟨q1.same (hret.same _ (okOf _ (q2 _ (.inl rfl))).1 (by simp [MD.blk])) fun i f b p hp => hret.same b (okOf _ (q2 b (.inr ⟨i, f, p, hp⟩))).1 (by simp [MD.blk]), q2⟩
   obtain ⟨E', hX'⟩ := B60 h r1a t1 (hD.trans hD1) (fun _ hl => hl) (fun b hb => (h.kp b hb).1) rfl hlay hshr hret op.dst
   exact hn _ _ E' hX'
  | _ => cases h2
 ·
  rename_i e t k o rest
  cases hv with
  | @cons _ V _ Vs p q =>
  simp only [RP.run] at hrun
  split at hrun
  ·rename_i e' t' xs fl hg
   cases hb : Nat.beq e e' with
   | false => rw [hb] at hrun; cases hrun
   | true =>
   rw [hb] at hrun
   simp only [cond_true] at hrun
   have he := Nat.eq_of_beq_eq_true hb
   subst he
   split at hrun
   ·rename_i ys hy
    obtain ⟨rfl, rfl⟩ := G2 hy
    simp only at hrun
    obtain ⟨out, po, l2, h2, hlay, hshr, hcall⟩ := Bw7 (P := P) (f := f) _ _ _ _ hrun
    cases po with
    | tree t2 zs =>
     simp only at h2
     split at h2
     ·rename_i zs' hz
      obtain ⟨rfl, rfl⟩ := G2 hz
      simp only at h2
      obtain ⟨hlen, h3⟩ := Aa4 h2
      have hlen := Nat.eq_of_beq_eq_true hlen
      have hs1 : hsh st.heap o = some (.row e t2 xs.length) := by simp [hsh, hg, H7]
      have hc1 := V1Rel.one p
      simp only [CellRel, hs1] at hc1
      obtain ⟨_, A, c, rfl, hle, hx⟩ := hc1
      simp only [G1, O2, Nat.sub_zero] at hle hcall
      obtain ⟨hta, eρ⟩ := h.ta o _ hg rfl
      by_cases hc0 : c = 0
      ·subst hc0
       have hx0 : xs = [] := List.length_eq_zero_iff.1 (by omega)
       subst hx0
       have hz0 : zs = [] := List.length_eq_zero_iff.1 (by simpa using hlen)
       subst hz0
       have hC := hcall h hTF (fun b hb => hb) q (fun g _ hb => by simp [MD.blk] at hb) (hM.1 A)
       refine ⟨_, _, _, h3, fun Qx next hn => call Qx next hC fun e w' hR => ?_⟩
       obtain ⟨V, rfl, hret⟩ := hR
       refine ⟨V, rfl, ?_⟩
       have hsm : ∀ b, b < w.heap.size → w'.heap[b]? = w.heap[b]? := fun b hb => hret.same b hb (by simp [MD.blk])
       have r1 := (h.poke (w' := w') (fun _ => False) (fun b hb => hb.elim) (fun b hb _ => hsm b hb) hret.size hret.room hret.os hret.tape hret.put).reshape hg (ob' := .tree e t2 [] (Bv8 fl)) rfl rfl rfl
       have hD1 : Dr w K1 w' K1 := ⟨hret.os, hret.tape, hret.put, hret.size, fun b hb => ⟨hb, fun _ => hsm b (h.kp b hb).1⟩, fun b _ h => h, fun b _ h => h, hret.room, fun _ _ => rfl⟩
       have t1 : TF (hset st.heap o (.tree e t2 [] (Bv8 fl))) w' K1 := by
        have sub : ∀ n e1 t1 x1 q1, B5 (hset st.heap o (.tree e t2 [] (Bv8 fl))) n = some (.tree e1 t1 x1 q1) → ∃ q2, B5 st.heap n = some (.tree e1 t1 x1 q2) := fun n e1 t1 x1 q1 hn => by
         rw [A9] at hn
         by_cases en : n = o
         ·rw [if_pos en] at hn
          cases hn
          subst en
          exact ⟨_, hg⟩
         ·rw [if_neg en] at hn
          exact ⟨_, hn⟩
        refine ⟨β, fun n e1 t1 x1 q1 hn => ?_, fun n e1 t1 x1 q1 hn hq hz => ?_, fun n n' o1 o2 hne h1 h2 he he' => ?_, fun n o' i f e1 t1 m hn => ?_⟩
        ·obtain ⟨q2, hn'⟩ := sub n _ _ _ _ hn
         obtain ⟨p1, p2⟩ := hT.tr n e1 t1 x1 q2 hn'
         refine ⟨p1, fun hth => ?_⟩
         obtain ⟨q1, q2⟩ := p2 hth
         exact ⟨q1.same (hsm _ (okOf _ (q2 _ (.inl rfl))).1) fun i f b p hp => hsm b (okOf _ (q2 b (.inr ⟨i, f, p, hp⟩))).1, q2⟩
        ·by_cases en : n = o
         ·subst en
          rw [A9, if_pos rfl] at hn
          cases hn
          exact hT.fx n _ _ _ _ hg (D00 hq) hz
         ·rw [A9, if_neg en] at hn
          exact hT.fx n _ _ _ _ hn hq hz
        ·obtain ⟨e1, t1, x1, q1, rfl⟩ := he
         obtain ⟨e2, t3, x2, q2, rfl⟩ := he'
         obtain ⟨_, h1'⟩ := sub n _ _ _ _ h1
         obtain ⟨_, h2'⟩ := sub n' _ _ _ _ h2
         exact hT.ap n n' _ _ hne h1' h2' ⟨_, _, _, _, rfl⟩ ⟨_, _, _, _, rfl⟩
        ·have en : n ≠ o := fun en => by rw [A9, if_pos en] at hn; cases hn
         rw [A9, if_neg en] at hn
         obtain ⟨e2, t3, x2, q2, k1, k2⟩ := hT.bo n o' i f e1 t1 m hn
         by_cases eo : o' = o
         ·exact ⟨e, t2, [], Bv8 fl, by rw [A9, if_pos eo], fun e => absurd e (Em1 fl)⟩
         ·exact ⟨e2, t3, x2, q2, by rw [A9, if_neg eo]; exact k1, k2⟩
       obtain ⟨E', hX'⟩ := B60 h r1 t1 (hD.trans hD1) (Dd5 rfl) (fun b hb => (h.kp b hb).1) rfl hlay hshr hret op.dst
       exact hn _ _ E' hX'
      ·obtain ⟨hh, hA, hR⟩ := hx.resolve_left hc0
       have hth := hta.1 hh
       obtain ⟨hat, hmine⟩ := (hT.tr o e t2 xs fl hg).2 hth
       obtain ⟨ns, hns⟩ := hat.list
       have hA' : A = some ⟨(K1.ta o).1, (K1.ta o).2, none⟩ := by rw [hA, eρ]; simp [O2]
       subst hA'
       have hR' : Room w (K1.ta o).1 ((K1.ta o).2 + c * t2.sz) := by rw [eρ] at hR; simpa [O2] using hR
       have hblk : ∀ b, b ∈ (K1.ta o).1 :: ns ↔ Blk K1 β o b := fun b => by
        rw [List.mem_cons, hns b]
        rfl
       have hC := hcall h hTF (fun b hb => hb) q (fun g hg hb => hmn g hg (hmine g ((hblk g).1 (by simpa [MD.blk] using hb)))) (hM.2 xs (K1.ta o).1 (K1.ta o).2 c ns (β o) hle (Nat.pos_of_ne_zero hc0) hat hns hR' (fun b hb => by
        obtain ⟨g1, g2⟩ := okOf b (hmine b ((hblk b).1 hb))
        exact ⟨g1, g2, by simp⟩))
       refine ⟨_, _, _, h3, fun Qx next hn => call Qx next hC fun e w' hR => ?_⟩
       obtain ⟨V, rfl, hret⟩ := hR
       refine ⟨V, rfl, ?_⟩
       obtain ⟨good, Vs', bs, hgood, hres, hnd, hbs, rfl, hpo⟩ := hret.res
       have hTr : TreeAt w' (K1.ta o).1 (K1.ta o).2 t2 (β o) zs := by
        cases hpo with
        | tree hT _ => exact hT
       have hsm : ∀ b, b < w.heap.size → ¬ Blk K1 β o b → w'.heap[b]? = w.heap[b]? := fun b hb hnb => hret.same b hb fun hm => hnb ((hblk b).1 (by simpa [MD.blk] using hm))
       obtain ⟨r1, r2, r3⟩ := h.retree hT hg hth (xs' := zs) (Bv8 fl) (by simpa using hlen) (β o) [] (fun b hb => by cases hb) hsm hret.size hret.room hret.os hret.tape hret.put (fun i f b p hb => .inr ⟨i, f, p, hb⟩) hTr (fun hq => ⟨D00 hq, rfl⟩) (fun n i f e' t' m _ hq => absurd hq (Em1 fl))
       obtain ⟨E', hX'⟩ := B60 h r1 r2 (hD.trans r3) (Dd5 rfl) (fun b hb => (h.kp b (hb.resolve_right (by simp))).1) rfl hlay hshr hret op.dst
       exact hn _ _ E' hX'
     ·cases h2
    | _ => cases h2
   ·cases hrun
  ·cases hrun
 ·
  rename_i e t k nm rest
  cases hv with
  | @cons _ V _ Vs p q =>
  simp only [RP.run] at hrun
  split at hrun
  ·rename_i o2 i0 f0 e' t' m0 hgb
   cases hb : (Nat.beq e e' && decide (t' = t)) with
   | false => rw [hb] at hrun; cases hrun
   | true =>
   rw [hb] at hrun
   simp only [cond_true, RP.run] at hrun
   simp only [Bool.and_eq_true] at hb
   have he := Nat.eq_of_beq_eq_true hb.1
   have ht := of_decide_eq_true hb.2
   subst he; subst ht
   split at hrun
   ·rename_i e2 t2 xs hg
    split at hrun
    ·rename_i e3 t3 ys0 hex0
     cases hb3 : Nat.beq e e3 with
     | false => rw [hb3] at hrun; cases hrun
     | true =>
     rw [hb3] at hrun
     simp only [cond_true] at hrun
     have he3 := Nat.eq_of_beq_eq_true hb3
     subst he3
     split at hrun
     ·rename_i ys hy
      obtain ⟨rfl, rfl⟩ := G2 hy
      simp only at hrun
      obtain ⟨out, po, l2, h2, hlay, hshr, hcall⟩ := Bw7 (P := P) (f := f) _ _ _ _ hrun
      cases po with
      | row t4 zs =>
       simp only at h2
       split at h2
       ·rename_i zs' hz
        obtain ⟨rfl, rfl⟩ := G2 hz
        simp only at h2
        obtain ⟨hlen, h3⟩ := Aa4 h2
        have hlen := Nat.eq_of_beq_eq_true hlen
        cases hput : E98 t4 zs t2 (rd (Q1 t2) xs i0) f0 with
        | none => rw [hput] at h3; cases h3
        | some y =>
        rw [hput] at h3
        simp only [RP.run] at h3
        obtain ⟨eb2, tb2, xb2, qb2, g1, g2⟩ := hT.bo nm o2 i0 f0 e t4 m0 hgb
        rw [hg] at g1
        cases g1
        obtain ⟨hth, hi, hβ, ysb, hexb, hlb⟩ := g2 rfl
        rw [hex0] at hexb
        injection hexb with hexb
        injection hexb with _ _ hexb
        cases hexb
        obtain ⟨hat, hmine⟩ := (hT.tr o2 e2 t2 xs 0 hg).2 hth
        obtain ⟨ds, hdi, hdc⟩ := hat.row i0 hi
        rw [← Dy6 (z := Q1 t2) hi] at hdi
        have hs1 : hsh st.heap nm = some (.row e t4 m0) := by simp [hsh, hgb, H7]
        have hc1 := V1Rel.one p
        simp only [CellRel, hs1] at hc1
        obtain ⟨_, A, c, rfl, hle, hx⟩ := hc1
        simp only [G1, O2, Nat.sub_zero] at hle
        obtain ⟨hta, eρ⟩ := h.ta nm _ hgb rfl
        have hdis : ∀ i f b p, β o2 i f = some (b, p) → b < w.heap.size := fun i f b p hb => (okOf b (hmine b (.inr ⟨i, f, p, hb⟩))).1
        have fin : ∀ (d : MD) (w' : World) (V' : Value), RetM E.ok w w' out V' [d] [.row t4 zs] → (∀ b, b < w.heap.size → b ∉ d.blk → w'.heap[b]? = w.heap[b]?) → (∀ b, b ∈ d.blk → ∃ p, β o2 i0 f0 = some (b, p)) →
          (∀ b p, β o2 i0 f0 = some (b, p) → RowAt (fun _ => False) w' b p t4 zs ∧ NoFrz t4 w' b) → ∃ E', RelX E' (Aq9 ⟨st.tmps, hset st.heap o2 (.tree e2 t2 (xs.set i0 y) 0)⟩ op.dst (c7 (L2 (fun n => n) 0 out).1)) saved (a.put op.dst V') S w' w0 K := by
         intro d w' V' hret hsame hd hrow
         have other : ∀ i f b p, (i ≠ i0 ∨ f ≠ f0) → β o2 i f = some (b, p) → w'.heap[b]? = w.heap[b]? := fun i f b p hne hb => hsame b (hdis _ _ _ _ hb) fun hm => by
          obtain ⟨p', hp'⟩ := hd b hm
          obtain ⟨e1, e2⟩ := hat.inj _ _ _ _ _ _ _ hb hp'
          exact hne.elim (fun h => h e1) (fun h => h e2)
         have hg0 : w'.heap[(K1.ta o2).1]? = w.heap[(K1.ta o2).1]? := hsame _ (okOf _ (hmine _ (.inl rfl))).1 fun hm => by
          obtain ⟨p', hp'⟩ := hd _ hm
          exact hat.ne _ _ _ _ hp' rfl
         obtain ⟨hel, hex1, hex2⟩ := Cd0 (w' := w') (f := 0) hdi hex0 hput (by simpa using hlen) (by rw [Nat.zero_add]; exact hrow) hret.room (fun k b p hk hb => other i0 k b p (.inr (by omega)) hb)
         have hTr : TreeAt w' (K1.ta o2).1 (K1.ta o2).2 t2 (β o2) (xs.set i0 y) := by
          refine ⟨fun i hi' => ?_, hat.nf.of_same hg0, hat.inj, hat.ne, fun i f b p hb => by simpa using hat.lt i f b p hb⟩
          have hi2 : i < xs.length := by simpa using hi'
          by_cases ei : i = i0
          ·subst ei
           refine ⟨ds, ?_, fun j hj => (T9 hg0).trans (hdc j hj)⟩
           rw [List.getElem_set_self]
           exact hel
          ·obtain ⟨ds', hd', hc'⟩ := hat.row i hi2
           refine ⟨ds', ?_, fun j hj => (T9 hg0).trans (hc' j hj)⟩
           rw [List.getElem_set_ne (fun h => ei h.symm)]
           exact hd'.same fun f b p hb => other i f b p (.inl ei) hb
         obtain ⟨r1, r2, r3⟩ := h.retree hT hg hth (xs' := xs.set i0 y) 0 (by simp) (β o2) [] (fun b hb => by cases hb) (fun b hb hnb => hsame b hb fun hm => by
          obtain ⟨p', hp'⟩ := hd b hm
          exact hnb (.inr ⟨_, _, _, hp'⟩)) hret.size hret.room hret.os hret.tape hret.put (fun i f b p hb => .inr ⟨i, f, p, hb⟩) hTr (fun _ => ⟨by decide, rfl⟩) (fun n i f e' t' m hn _ => ⟨rfl, rfl, fun ys hys => by
           by_cases ei : i = i0
           ·subst ei
            have e1 : rd (Q1 t2) (xs.set i y) i = y := by simp [rd, hi]
            rw [e1]
            by_cases ef : f = f0
            ·subst ef
             rw [hex0] at hys
             injection hys with hys
             injection hys with k1 k2 k3
             subst k1; subst k2
             cases k3
             exact ⟨zs, hex1, by simpa using hlen⟩
            ·exact ⟨ys, (hex2 f ef).trans hys, rfl⟩
           ·have e1 : rd (Q1 t2) (xs.set i0 y) i = rd (Q1 t2) xs i := by simp [rd, List.getElem?_set_ne (fun h => ei h.symm)]
            rw [e1]
            exact ⟨ys, hys, rfl⟩⟩)
         exact B60 h r1 r2 (hD.trans r3) (Dd5 rfl) (fun b hb => (h.kp b (hb.resolve_right (by simp))).1) rfl hlay hshr hret op.dst
        by_cases hc0 : c = 0
        ·subst hc0
         have hm0 : m0 = 0 := by omega
         subst hm0
         have hx0 : ys0 = [] := List.length_eq_zero_iff.1 hlb
         subst hx0
         have hz0 : zs = [] := List.length_eq_zero_iff.1 (by simpa using hlen)
         subst hz0
         have hC := hcall h hTF (fun b hb => hb) q (fun g _ hb => by simp [MD.blk] at hb) (hM.1 A)
         refine ⟨_, _, _, h3, fun Qx next hn => call Qx next hC fun e w' hR => ?_⟩
         obtain ⟨V, rfl, hret⟩ := hR
         refine ⟨V, rfl, ?_⟩
         have hsm : ∀ b, b < w.heap.size → w'.heap[b]? = w.heap[b]? := fun b hb => hret.same b hb (by simp [MD.blk])
         obtain ⟨E', hX'⟩ := fin .nil w' V hret (fun b hb _ => hsm b hb) (fun b hb => by cases hb) (fun b p hb => ⟨(fun i hi => by simp at hi), by
          obtain ⟨_, A', c', _, _, hz⟩ := Bg9 hdi hex0
          rw [Nat.zero_add] at hz
          rcases hz with ⟨_, hz⟩ | ⟨b', p', k1, k2, k3, k4, k5⟩
          ·rw [hb] at hz; cases hz
          ·rw [hb] at k1
           cases k1
           exact k4.of_same (hsm b (hdis _ _ _ _ hb))⟩)
         exact hn _ _ E' hX'
        ·obtain ⟨hh, hA, hR⟩ := hx.resolve_left hc0
         have hb0 := hβ (hta.1 hh)
         obtain ⟨_, A', c', _, _, hz⟩ := Bg9 hdi hex0
         rw [Nat.zero_add] at hz
         rcases hz with ⟨_, hz⟩ | ⟨b', p', k1, k2, k3, k4, k5⟩
         ·rw [hb0] at hz; cases hz
         rw [hb0] at k1
         simp only [Option.some.injEq] at k1
         have hA' : A = some ⟨b', p', none⟩ := by rw [hA, eρ, k1]; simp [O2]
         subst hA'
         have hR' : Room w b' (p' + c * t4.sz) := by rw [eρ, k1] at hR; simpa [O2] using hR
         obtain ⟨hbs, hbo⟩ := okOf b' (hmine b' (.inr ⟨i0, f0, p', by rw [hb0, k1]⟩))
         have hC := hcall h hTF (fun b hb => hb) q (fun g hg hb => hmn g hg (by
          have e : g = b' := by simpa [MD.blk] using hb
          rw [e]
          exact hmine b' (.inr ⟨i0, f0, p', by rw [hb0, k1]⟩))) (hM.2 ys0 b' p' c (by rw [hlb]; exact hle) (Nat.pos_of_ne_zero hc0) (k3.mono (fun _ h => h.elim) (fun _ h => h.elim) rfl) k4 hR' hbs hbo (by simp))
         rw [hlb] at hC
         refine ⟨_, _, _, h3, fun Qx next hn => call Qx next hC fun e w' hR => ?_⟩
         obtain ⟨V, rfl, hret⟩ := hR
         refine ⟨V, rfl, ?_⟩
         have hret2 := hret
         obtain ⟨good, Vs', bs, hgood, hres, hnd, hbs', -, hpo⟩ := hret2.res
         have hrow : RowAt (fun _ => False) w' b' p' t4 zs ∧ NoFrz t4 w' b' := by
          cases hpo with
          | row g1 g2 _ =>
           refine ⟨fun i hi => ?_, g2⟩
           obtain ⟨ds1, hd1, hj1⟩ := g1 i hi
           exact ⟨ds1, A53 (Bg9 hdi hex0).1 hd1, hj1⟩
         obtain ⟨E', hX'⟩ := fin (.row b' p' c) w' V hret (fun b hb hnb => hret.same b hb (by simpa [MD.blk] using hnb)) (fun b hb => ⟨p', by
          have : b = b' := by simpa [MD.blk] using hb
          rw [this, hb0, k1]⟩) (fun b p hb => by
          rw [hb0, k1] at hb
          simp only [Option.some.injEq, Prod.mk.injEq] at hb
          obtain ⟨rfl, rfl⟩ := hb
          exact hrow)
         exact hn _ _ E' hX'
       ·cases h2
      | _ => cases h2
     ·cases hrun
    ·cases hrun
   ·cases hrun
  ·cases hrun
 ·cases hrun
end
end Go.Vm
end
section
namespace Go.Vm
open Go
section
variable {P : Program} {cfg : Cfg} {E : Env} {st : St} {saved : List (Nat × List VV)} {a : Act} {S : List (Array Value)} {w w0 : World} {K : Keep}
 {R : Type} {Kk : List Upd → VV → List Loc → Option R} {l : List Loc} {r : R} {o : Oper}
theorem Cv3 (h : RelE E st saved a S w w0 K) {T : TypeId} {n0 n1 : Nat} (ho : o.op = .alloc T) {zv : Value} (hp : ∃ i, P.info? T = some i ∧ i.size = 1 ∧ i.zero = some zv) (hzv : zv = .pointer none ∨ zv = .map none)
  (hrun : (X0 n1 (X0 n0 (p0 [.o n1 .dead, .o n0 (.box [.eptr n1 0 0])] (one (.ptr n0 0))))).run st Kk l = some r) : Goes P o a w st saved S w0 K Kk r := by
 obtain ⟨hn1, l1, h1⟩ := V9 hrun
 obtain ⟨hn0, l2, h2⟩ := V9 h1
 obtain ⟨hd, hK⟩ := Aj3 h2
 simp only [List.map_cons, List.map_nil, Upd.name] at hd
 have hne : n1 ≠ n0 := by
  obtain ⟨g1, _⟩ := R7 hd
  simpa using g1
 obtain ⟨i, hi, hs, hz⟩ := hp
 have r1 := h.named hn1 (0, 0) False .dead (fun f => f.elim) trivial
 have hst := Ah5 (st := st) (E := E) (w := w) hn1 (0, 0) False .dead
 have hn0' : B5 (hset st.heap n1 .dead) n0 = none := by rw [A9, if_neg (Ne.symm hne)]; exact hn0
 have hcs : All2 (CellRel (E.at n1 (0, 0) False) (hset st.heap n1 .dead) w) [.eptr n1 0 0] [zv] := by
  refine .cons ?_ .nil
  have : hsh (hset st.heap n1 .dead) n1 = some .dead := by rw [J3, if_pos rfl]; rfl
  simp only [CellRel, this]
  rcases hzv with rfl | rfl <;> rfl
 obtain ⟨hr, hc⟩ := D65 r1 (nm := n0) hn0' hcs T
 refine ⟨_, _, l2, hK, fun Q next hnx => OpRes.wp ⟨.pointer (some ⟨w.heap.size, 0, none⟩), _, _, .inl ?_, hr, VRel.one hc⟩ Q next hnx⟩
 rcases hzv with rfl | rfl <;> simp [execOp, ho, Instr.alloc, zeroValue, typeInfo, hi, hz, newVar, newRow, Value.cells]
theorem Gw5 (G : Good P cfg) (h : RelE E st saved a S w w0 K) {nm : Nat → Nat} (hrun : (opO cfg nm o).run st Kk l = some r) : Goes P o a w st saved S w0 K Kk r := by
 unfold opO at hrun
 split at hrun
 ·exact F60 h (.inl ‹_›) hrun
 ·exact F60 h (.inr ‹_›) hrun
 ·exact Gr6 h ‹_› hrun
 ·rename_i T ho
  cases hT : look cfg.tab T with
  | some t =>
   rw [hT] at hrun
   exact Gm1 G h ho hT hrun
  | none =>
   rw [hT] at hrun
   simp only at hrun
   cases hp : cfg.ptrs.any (Nat.beq T) with
   | false =>
    rw [hp] at hrun
    simp only [cond_false] at hrun
    split at hrun
    ·rename_i t hm
     exact Cv3 h ho (G.map T t hm).info (.inr rfl) hrun
    ·cases hrun
   | true =>
    rw [hp] at hrun
    exact Cv3 h ho (G.ptr T hp).info (.inl rfl) hrun
 ·exact Gw1 h ‹_› hrun
 ·exact Gm3 G h ‹_› hrun
 ·exact D69 G h ‹_› hrun
 ·exact Gr8 G h ‹_› hrun
 ·exact Gm2 G h ‹_› hrun
 ·exact Fa2 h ‹_› hrun
 ·exact Gl6 G h ‹_› hrun
 ·exact Gr7 h ‹_› hrun
 ·exact Fv8 G h ‹_› hrun
 ·exact Fa4 h ‹_› hrun
 ·exact Ek8 G h ‹_› hrun
 ·exact Gl9 G h ‹_› hrun
 ·exact F70 G h ‹_› hrun
 ·exact Fv9 G h ‹_› hrun
 ·exact F68 G h ‹_› hrun
 ·exact El3 G h ‹_› hrun
 ·exact Ek2 G h ‹_› hrun
 ·exact Ek3 G h ‹_› hrun
 ·exact Gl7 G h ‹_› hrun
 ·exact Fv4 h ‹_› hrun
 ·rename_i b args argTypes ho
  split at hrun
  ·rename_i x T hargs hT
   have e1 : args = #[x] := by apply Array.toList_inj.1; rw [hargs]
   have e2 : argTypes = #[T] := by apply Array.toList_inj.1; rw [hT]
   subst e1; subst e2
   exact Gw0 G h ho hrun
  ·rename_i b _ _ _ _
   cases b with
   | append => exact F66 G h (c := { callee := .builtin .append, args, argTypes }) ho rfl hrun
   | min => exact Gw2 (cfg := cfg) h (c := { callee := .builtin .min, args, argTypes }) ho rfl hrun
   | clear => exact Gm5 G h (c := { callee := .builtin .clear, args, argTypes }) ho rfl hrun
   | max => exact Gw3 (cfg := cfg) h (c := { callee := .builtin .max, args, argTypes }) ho rfl hrun
   | _ =>
    obtain ⟨vs, l1, h1, -⟩ := Z0 _ _ _ hrun
    unfold t6 at h1
    split at h1 <;> first | contradiction | cases h1
 ·cases hrun
theorem Gw6 (hG : Ok P cfg) (hX : RelX E st saved a S w w0 K) {nm : Nat → Nat} (hrun : (opN cfg nm o).run st Kk l = some r) : GoesX P o a w st saved S w0 K Kk r := by
 have G := hG.toGood
 have plain : ∀ {l}, (Vm.safe (opO cfg nm o)).run st Kk l = some r → GoesX P o a w st saved S w0 K Kk r := fun hrun =>
  GoesX.safe hX hrun fun h u v l0 h0 => Gw5 G h h0
 have hX' := hX
 obtain ⟨wb, K1, hD, hT0, h⟩ := hX'
 unfold opN at hrun
 split at hrun
 ·rename_i T p ho
  unfold Fs4 at hrun
  obtain ⟨t, hok, h0⟩ := Db0 G hrun
  obtain ⟨c, l', h1, h2⟩ := Y4 p _ h0
  have hc := h2 h
  split at h1
  ·simp only [RP.run] at h1
   split at h1
   ·exact Gm6 hX hok ho hc ‹_› h1
   ·exact plain h1
  ·exact plain h1
 ·rename_i T p x ho
  unfold Ej3 at hrun
  obtain ⟨t, hok, h0⟩ := Db0 G hrun
  obtain ⟨c, l', h1, h2⟩ := Y4 p _ h0
  have hc := h2 h
  split at h1
  ·rename_i q i f
   simp only [RP.run] at h1
   split at h1
   ·rename_i e t' xs fl hg
    obtain ⟨v, l2, h3, h4⟩ := Ba4 x _ h1
    have hv := h4 h
    unfold F51 at h3
    cases hb : Nat.beq v.cs.length t.sz with
    | false => rw [hb] at h3; cases h3
    | true =>
     rw [hb] at h3
     simp only [cond_true] at h3
     have hlen := Nat.eq_of_beq_eq_true hb
     cases hfl : t.flat with
     | true =>
      rw [hfl] at h3
      simp only [cond_true] at h3
      cases hf : Nat.ble (f + t.sz) t'.sz with
      | false => rw [hf] at h3; cases h3
      | true =>
       rw [hf] at h3
       exact Do9 hX hok ho hc hv hg hlen (Nat.le_of_ble_eq_true hf) h3
     | false =>
      rw [hfl] at h3
      simp only [cond_false] at h3
      cases hw : (Nat.beq fl 1 && Nat.beq f 0 && decide (t = t')) with
      | false => rw [hw] at h3; cases h3
      | true =>
       rw [hw] at h3
       simp only [Bool.and_eq_true] at hw
       obtain ⟨⟨hw1, hf0⟩, ht⟩ := hw
       have hw1 := Nat.eq_of_beq_eq_true hw1
       subst hw1
       have hf0 := Nat.eq_of_beq_eq_true hf0
       have ht := of_decide_eq_true ht
       subst hf0; subst ht
       exact Dd4 hX hok ho hc hv hg hlen h3
   ·exact plain h1
  ·exact plain h1
 ·rename_i T n m ho
  unfold Fs5 at hrun
  obtain ⟨e, t, hT, h0⟩ := Aa3 hrun
  cases hb : (cfg.trees.any (Nat.beq e) && t.one) with
  | true =>
   rw [hb] at h0
   simp only [Bool.and_eq_true] at hb
   exact Gm7 G hX ho hT hb.2 h0
  | false =>
   rw [hb] at h0
   exact plain h0
 ·rename_i f args argTypes ho
  obtain ⟨vs, l1, h1, h2⟩ := Z0 _ _ _ hrun
  cases hs : look cfg.spec f with
  | some s => exact Gs1 hG hX (c := { callee := .value (.func f), args, argTypes }) (nm := nm) (l := l) ho rfl (by simp only [hs] at hrun ⊢; exact hrun)
  | none =>
   simp only [hs] at hrun h1
   cases hm : look cfg.mspec f with
   | none => rw [hm] at h1; cases h1
   | some s =>
    simp only [hm] at hrun h1
    have hv := h2 h
    have viaM : ∀ {l}, (V2 nm s vs [] []).run st Kk l = some r → GoesX P o a w st saved S w0 K Kk r := fun h3 => F73 hG hX ho rfl hm hv h3
    unfold F55 at h1
    split at h1
    ·exact Ft1 hG hX (c := { callee := .value (.func f), args, argTypes }) ho rfl hm hv h1
    ·simp only [RP.run] at h1
     split at h1
     ·exact Ft1 hG hX (c := { callee := .value (.func f), args, argTypes }) ho rfl hm hv h1
     ·exact viaM h1
    ·exact viaM h1
 ·exact plain hrun
theorem Gw7 (hG : Ok P cfg) (h : RelX E st saved a S w w0 K) {base : Nat} (hrun : (Do6 cfg base o).run st Kk l = some r) : GoesX P o a w st saved S w0 K Kk r := Gw6 hG h hrun
end
end Go.Vm
end
section
namespace Go.Vm
open Go
theorem D01 : ∀ (l : List VV) (n : Nat), Cc4 l n (Z9 l n) = l
 | [], n => rfl
 | x :: l, 0 => rfl
 | x :: l, n + 1 => by simp only [Z9, Cc4, D01 l n]
theorem Cp9 {s : St} {t : Nat} {b : Bool} (h : Z9 s.tmps t = .v ⟨false, [.bool b]⟩) : C25 s t b = s := by
 have : one (.bool b) = Z9 s.tmps t := h.symm
 simp only [C25, this, D01]
section
variable {P : Program} {cfg : Cfg} {E : Env} {st : St} {saved : List (Nat × List VV)} {a : Act} {S : List (Array Value)} {w w0 : World} {K : Keep}
theorem D02 {l : List VV} {m : List Value} {r : VV → Value → Prop} (h : All2 r l m) {t : Nat} {x : VV} (hx : Z9 l t = x) (hne : x ≠ .un) : ∃ v, m[t]? = some v ∧ r x v := by
 induction h generalizing t with
 | nil => exact absurd hx.symm hne
 | cons p _ ih => cases t with
  | zero => simp only [Z9] at hx; subst hx; exact ⟨_, rfl, p⟩
  | succ t => exact ih hx
theorem Em2 (h : RelX E st saved a S w w0 K) {t : Nat} {b : Bool} (hx : Z9 st.tmps t = .v ⟨false, [.bool b]⟩) : a.tmps[t]? = some (.bool b) := by
 obtain ⟨v, hv, hr⟩ := D02 h.tm hx (fun e => by cases e)
 have : v = .bool b := V1Rel.one hr
 subst this
 simpa using hv
theorem D03 (h : RelX E st saved a S w w0 K) {t : Nat} (hx : Z9 st.tmps t = .tup []) : a.tmps[t]? = some (.tuple #[]) := by
 obtain ⟨v, hv, hr⟩ := D02 h.tm hx (fun e => by cases e)
 obtain ⟨Vs, h1, rfl⟩ := hr
 cases h1
 simpa using hv
theorem Em3 (A : Array Oper) (j : Nat) : Fs8 A.toList j = (A[j]?).bind (·.dst) := by
 unfold Fs8
 rw [Array.getElem?_toList]
 cases A[j]? <;> rfl
variable {R : Type} {r : R} {call : FuncId → List V1 → (VV → Ms → Option R) → Ms → Option R} {Kc : Ms → Option R} {Q : Exit → Act → World → Prop}
theorem Gm8 {h : F6} {caps : List Nat} {vs : List Value} (k : All2 (PtrRel E h) caps vs) : All2 (V1Rel E h w) (caps.map fun c => (⟨false, [.ptr c 0]⟩ : V1)) vs := by
 induction k with
 | nil => exact .nil
 | cons p _ ih =>
  obtain ⟨n, hs, rfl⟩ := p
  exact .cons (V1Rel.mkOne ⟨n, hs, by rw [Nat.add_zero]⟩) ih
end
end Go.Vm
end
section
namespace Go.Vm
open Go
def D04 (s s2 : St) (l : List Loc) : Prop := (∀ t, Loc.t t ∈ l → Z9 s2.tmps t = Z9 s.tmps t) ∧ (∀ n, Loc.o n ∈ l → B5 s2.heap n = B5 s.heap n)
theorem RP.run_inv {s : St} {R : Type} {K : List Upd → VV → List Loc → Option R} {r : R} : ∀ (p : RP) (l : List Loc), p.run s K l = some r →
  ∃ u v l', K u v l' = some r ∧ (∀ x ∈ l, x ∈ l') ∧ ∀ s2, D04 s s2 l' → ∀ {R2 : Type} (K2 : List Upd → VV → List Loc → Option R2), p.run s2 K2 l = K2 u v l' := by
 intro p
 induction p with
 | fail => intro l h; cases h
 | done e v => intro l h; exact ⟨e, v, l, h, fun _ h => h, fun s2 _ R2 K2 => rfl⟩
 | rdT t k ih =>
  intro l h
  obtain ⟨u, v, l', h1, h2, h3⟩ := ih _ _ h
  refine ⟨u, v, l', h1, fun x hx => h2 x (List.mem_cons_of_mem _ hx), fun s2 ha R2 K2 => ?_⟩
  simp only [RP.run]
  rw [ha.1 t (h2 _ List.mem_cons_self)]
  exact h3 s2 ha K2
 | rdO n k ih =>
  intro l h
  obtain ⟨u, v, l', h1, h2, h3⟩ := ih _ _ h
  refine ⟨u, v, l', h1, fun x hx => h2 x (List.mem_cons_of_mem _ hx), fun s2 ha R2 K2 => ?_⟩
  simp only [RP.run]
  rw [ha.2 n (h2 _ List.mem_cons_self)]
  exact h3 s2 ha K2
 | ite b x y ihx ihy =>
  intro l h
  cases b with
  | true => exact ihx l h
  | false => exact ihy l h
 | opt o k ih =>
  intro l h
  cases o with
  | none => cases h
  | some a => exact ih a l h
section
variable {α : Type} (f : Nat → Option α) (x0 : α)
def Ag0 (L : Nat → Bool) : Nat → α
 | 0 => x0
 | k + 1 => if L k = true then (f k).getD (Ag0 L k) else Ag0 L k
variable {f x0}
theorem Em4 {L L' : Nat → Bool} : ∀ n, (∀ k, k < n → L k = L' k) → Ag0 f x0 L n = Ag0 f x0 L' n
  | 0, _ => rfl
  | n + 1, h => by
    simp only [Ag0, Em4 n (fun k hk => h k (Nat.lt_succ_of_lt hk)), h n (Nat.lt_succ_self n)]
theorem D05 {L : Nat → Bool} {i : Nat} (h1 : ∀ k, k < i → (f k).isSome = true → L k = true) :
    ∀ n, i ≤ n → (∀ k, i ≤ k → k < n → L k = true → f k = none) → Ag0 f x0 L n = Ag0 f x0 (fun _ => true) i := by
  have h0 : ∀ n, n ≤ i → Ag0 f x0 L n = Ag0 f x0 (fun _ => true) n := by
    intro n
    induction n with
    | zero => intro _; rfl
    | succ n ih =>
      intro hn
      simp only [Ag0, ih (by omega), if_true]
      by_cases hL : L n = true
      · rw [if_pos hL]
      · rw [if_neg hL]
        cases hf : f n with
        | none => rfl
        | some a => exact absurd (h1 n (by omega) (by rw [hf]; rfl)) hL
  intro n
  induction n with
  | zero => intro hn _; have : i = 0 := by omega
            subst this; rfl
  | succ n ih =>
    intro hn h2
    by_cases e : i = n + 1
    · subst e; exact h0 _ (Nat.le_refl _)
    · simp only [Ag0]
      rw [ih (by omega) (fun k hk hk' => h2 k hk (by omega))]
      by_cases hL : L n = true
      · rw [if_pos hL, h2 n (by omega) (by omega) hL]; rfl
      · rw [if_neg hL]
theorem Em5 {L : Nat → Bool} {i : Nat} (hi : L i = false) :
  ∀ n, i < n → (∀ k, i < k → k < n → L k = true → (f k).isSome = true → f i = none) → Ag0 f x0 (fun k => L k || k == i) n = (f i).getD (Ag0 f x0 L n) := by
 intro n
 induction n with
 | zero => intro h; omega
 | succ n ih =>
  intro hn h2
  by_cases e : i = n
  ·subst e
   have : Ag0 f x0 (fun k => L k || k == i) i = Ag0 f x0 L i := Em4 i (fun k hk => by
    have : (k == i) = false := by simp; omega
    simp [this])
   simp only [Ag0, this, hi]
   simp
  ·have ih' := ih (by omega) (fun k hk hk' => h2 k hk (by omega))
   have hne : (n == i) = false := by simp; omega
   simp only [Ag0, hne, Bool.or_false, ih']
   by_cases hL : L n = true
   ·rw [if_pos hL, if_pos hL]
    cases hf : f n with
    | none => rfl
    | some a =>
     rw [h2 n (by omega) (by omega) hL (by rw [hf]; rfl)]
     rfl
   ·rw [if_neg hL, if_neg hL]
end
structure Eff where
 l : List Loc
 d : Option Tmp
 u : List Upd
 v : VV
def Eff.app (e : Eff) (s : St) : St := Aq9 (s.upds e.u) e.d e.v
def Ch3 : List Upd → Nat → Option Obj
 | [], _ => none
 | .o m o :: u, n => match Ch3 u n with
  | some x => some x
  | none => if n = m then some o else none
theorem Dd6 : ∀ (u : List Upd) (s : St) (n : Nat), B5 (s.upds u).heap n = match Ch3 u n with | some o => some o | none => B5 s.heap n
 | [], s, n => rfl
 | .o m o :: u, s, n => by
  show B5 ((s.upd (.o m o)).upds u).heap n = _
  rw [Dd6 u _ n]
  simp only [Ch3]
  cases Ch3 u n with
  | some x => rfl
  | none =>
   show B5 (hset s.heap m o) n = _
   rw [A9]
   split <;> rfl
theorem Dd7 : ∀ (u : List Upd) (n : Nat), (Ch3 u n).isSome = true → Loc.o n ∈ u.map Upd.loc
 | [], n, h => by cases h
 | .o m o :: u, n, h => by
  simp only [Ch3] at h
  cases hl : Ch3 u n with
  | some x => exact List.mem_cons_of_mem _ (Dd7 u n (by rw [hl]; rfl))
  | none =>
   rw [hl] at h
   by_cases e : n = m
   ·subst e; exact List.mem_cons_self
   ·rw [if_neg e] at h; cases h
theorem D06 : ∀ (l : List VV) (n : Nat) (v : VV) (t : Nat), Z9 (Cc4 l n v) t = if t = n ∧ n < l.length then v else Z9 l t
 | [], n, v, t => by simp [Cc4]
 | x :: l, 0, v, t => by cases t <;> simp [Cc4, Z9]
 | x :: l, n + 1, v, t => by
  cases t with
  | zero => simp [Cc4, Z9]
  | succ t => simp only [Cc4, Z9, D06 l n v t]; simp
def Eff.fT (e : Eff) (len t : Nat) : Option VV := match e.d with
 | some d => if t = d ∧ d < len then some e.v else none
 | none => none
def Eff.fO (e : Eff) (n : Nat) : Option (Option Obj) := (Ch3 e.u n).map some
theorem Eff.len (e : Eff) (s : St) : (e.app s).tmps.length = s.tmps.length := by
 unfold Eff.app Aq9
 split
 ·rw [Da9]; simp [A38]
 ·simp [A38]
theorem Eff.tget_app (e : Eff) (s : St) (t : Nat) : Z9 (e.app s).tmps t = (e.fT s.tmps.length t).getD (Z9 s.tmps t) := by
 unfold Eff.app Aq9 Eff.fT
 cases e.d with
 | none => simp [A38]
 | some d =>
  simp only [A38, D06]
  split <;> rfl
theorem Eff.hget_app (e : Eff) (s : St) (n : Nat) : B5 (e.app s).heap n = (e.fO n).getD (B5 s.heap n) := by
 have : (e.app s).heap = (s.upds e.u).heap := by unfold Eff.app Aq9; split <;> rfl
 rw [this, Dd6]
 unfold Eff.fO
 cases Ch3 e.u n <;> rfl
def Eff.wrs (e : Eff) : List Loc := (match e.d with | some d => [.t d] | none => []) ++ e.u.map Upd.loc
theorem Eff.fT_wrs {e : Eff} {len t : Nat} (h : (e.fT len t).isSome = true) : Loc.t t ∈ e.wrs := by
 unfold Eff.fT at h
 unfold Eff.wrs
 cases hd : e.d with
 | none => rw [hd] at h; cases h
 | some d =>
  rw [hd] at h
  simp only at h
  split at h
  ·rename_i hc
   rw [hc.1]
   simp
  ·cases h
theorem Eff.fO_wrs {e : Eff} {n : Nat} (h : (e.fO n).isSome = true) : Loc.o n ∈ e.wrs := by
 unfold Eff.fO at h
 exact List.mem_append.2 (.inr (Dd7 e.u n (by simpa using h)))
def A54 (e : Nat → Eff) (s0 : St) (L : Nat → Bool) : Nat → St
 | 0 => s0
 | k + 1 => if L k = true then (e k).app (A54 e s0 L k) else A54 e s0 L k
section
variable {e : Nat → Eff} {s0 : St}
theorem Bh0 (L : Nat → Bool) : ∀ n, (A54 e s0 L n).tmps.length = s0.tmps.length
 | 0 => rfl
 | n + 1 => by
  simp only [A54]
  split
  ·rw [Eff.len, Bh0 L n]
  ·exact Bh0 L n
theorem A40 (L : Nat → Bool) (t : Nat) : ∀ n, Z9 (A54 e s0 L n).tmps t = Ag0 (fun k => (e k).fT s0.tmps.length t) (Z9 s0.tmps t) L n
 | 0 => rfl
 | n + 1 => by
  simp only [A54, Ag0]
  by_cases hL : L n = true
  ·rw [if_pos hL, if_pos hL, Eff.tget_app, Bh0, A40 L t n]
  ·rw [if_neg hL, if_neg hL, A40 L t n]
theorem A41 (L : Nat → Bool) (m : Nat) : ∀ n, B5 (A54 e s0 L n).heap m = Ag0 (fun k => (e k).fO m) (B5 s0.heap m) L n
 | 0 => rfl
 | n + 1 => by
  simp only [A54, Ag0]
  by_cases hL : L n = true
  ·rw [if_pos hL, if_pos hL, Eff.hget_app, A41 L m n]
  ·rw [if_neg hL, if_neg hL, A41 L m n]
end
theorem Em6 : ∀ {l m : List VV}, l.length = m.length → (∀ t, Z9 l t = Z9 m t) → l = m
 | [], [], _, _ => rfl
 | [], _ :: _, h, _ => by simp at h
 | _ :: _, [], h, _ => by simp at h
 | x :: l, y :: m, h, k => by
  have h1 := k 0
  simp only [Z9] at h1
  rw [h1, Em6 (by simpa using h) (fun t => k (t + 1))]
section
variable {E : Env} {st st' : St} {saved : List (Nat × List VV)} {a : Act} {S : List (Array Value)} {w w0 : World} {K : Keep}
theorem Gm9 {h h' : F6} (k : ∀ n, B5 h' n = B5 h n) (n : Nat) : hsh h' n = hsh h n := by simp [hsh, k n]
theorem Step.ext {h h' : F6} (k : ∀ n, B5 h' n = B5 h n) : Step E E h h' w w :=
 ⟨fun _ _ => rfl, fun _ _ => Iff.rfl, fun _ h => h, fun _ _ => rfl, fun _ _ h => h, fun n s hs => .inl (by rw [Gm9 k]; exact hs)⟩
theorem RelE.ext (h : RelE E st saved a S w w0 K) (ht : st'.tmps = st.tmps) (k : ∀ n, B5 st'.heap n = B5 st.heap n) : RelE E st' saved a S w w0 K := by
 have hs : Step E E st.heap st'.heap w w := Step.ext k
 have hl : ∀ n, E5 st'.heap n → E5 st.heap n := fun n hn => by unfold E5 at hn ⊢; rwa [k n] at hn
 refine ⟨by rw [ht]; exact J7 hs h.tm, h.df, h.sv.mono fun _ _ q => J7 hs q, fun n o hn => ?_, fun n n' hne h1 h2 => h.dj n n' hne (hl n h1) (hl n' h2), fun n hn => h.dk n (hl n hn), fun n hn => h.bd n (by rw [← k n]; exact hn), h.bo, h.kp, h.os, h.tape, h.out, h.size, h.oz, h.rm, h.trees hs fun n o hn _ => by rw [← k n]; exact hn⟩
 rw [k n] at hn
 exact (h.ob n o hn).step hs (by rw [hn]; rfl) (fun h => h) (fun _ => rfl)
theorem TF.ext {h h' : F6} (ht : TF h w K) (k : ∀ n, B5 h' n = B5 h n) : TF h' w K := by
 obtain ⟨β, hb⟩ := ht
 refine ⟨β, fun n e t xs q hn => hb.tr n e t xs q (by rw [← k n]; exact hn), fun n e t xs q hn => hb.fx n e t xs q (by rw [← k n]; exact hn), fun n n' o o' hne hn hn' => hb.ap n n' o o' hne (by rw [← k n]; exact hn) (by rw [← k n']; exact hn'), fun n o i f e t m hn => ?_⟩
 obtain ⟨e2, t2, xs, q, h1, h2⟩ := hb.bo n o i f e t m (by rw [← k n]; exact hn)
 exact ⟨e2, t2, xs, q, (k o).trans h1, h2⟩
theorem RelX.ext (h : RelX E st saved a S w w0 K) (ht : st'.tmps = st.tmps) (k : ∀ n, B5 st'.heap n = B5 st.heap n) : RelX E st' saved a S w w0 K := by
 obtain ⟨w1, K1, h1, h2, h3⟩ := h
 exact ⟨w1, K1, h1, h2.ext k, h3.ext ht k⟩
theorem RelX.still {w' : World} (h : RelX E st saved a S w w0 K) (hh : w'.heap = w.heap) (ho : w'.os = w.os) (ht : w'.tape = w.tape) (hu : w'.output = w.output) : RelX E st saved a S w' w0 K := by
 obtain ⟨w1, K1, h1, h2, h3⟩ := h
 exact ⟨w1, K1, h1, h2, h3.still hh ho ht hu⟩
end
end Go.Vm
end
end
