/- The machine: a typed interpreter of the model's code, and its soundness (part 2). -/
import Derived.Test.YtcbpoomhabigeaaGreatDoorZt0
import Derived.MapKept
import Derived.Orders
set_option linter.all false
section
section
namespace Go.Vm
open Go
section
variable {P : Program} {cfg : Cfg} {E : Env} {st : St} {saved : List (Nat × List VV)} {a : Act} {S : List (Array Value)} {w w0 : World} {K : Keep}
 {R : Type} {Kk : List Upd → VV → List Loc → Option R} {l : List Loc} {r : R} {o : Oper}
theorem Fe5 {t t' : Ty} {xs : List (Int × El t)} {ys : List (Int × El t')} (h : F49 t t' xs = some ys) : ∃ e : t = t', ys = e ▸ xs := by
 unfold F49 at h
 split at h
 ·rename_i e
  cases h
  exact ⟨e, rfl⟩
 ·cases h
theorem C80 {T : TypeId} {k : Ty → RP} (aa : (Dc6 cfg T k).run st Kk l = some r) : ∃ t, look cfg.maps T = some t ∧ (k t).run st Kk l = some r := by
 unfold Dc6 at aa
 split at aa
 ·exact ⟨_, ‹_›, aa⟩
 ·cases aa
theorem Ek5 (x : Operand) (k : Int → RP) (aa : (Fc7 x k).run st Kk l = some r) :
  ∃ n l', (k n).run st Kk l' = some r ∧ (∀ {E saved a S w w0 K}, RelE E st saved a S w w0 K → a.eval x = .int .i64 n) := by
 obtain ⟨i, n, l', h1, h2⟩ := Bj6 x _ aa
 by_cases e : i = .i64
 ·subst e
  exact ⟨n, l', by simpa using h1, h2⟩
 ·simp [e, RP.run] at h1
theorem Ek6 {t : Ty} {c : Cell} {k : Nat → List (Int × El t) → RP} (aa : (Ej4 t c k).run st Kk l = some r) :
  ∃ q xs l', c = .mp q ∧ C1 st.heap q = some (.mp t xs) ∧ (k q xs).run st Kk l' = some r := by
 unfold Ej4 at aa
 split at aa
 ·rename_i q
  simp only [RP.run] at aa
  split at aa
  ·rename_i t' xs hg
   split at aa
   ·rename_i ys hy
    obtain ⟨rfl, rfl⟩ := Fe5 hy
    exact ⟨q, _, _, rfl, hg, aa⟩
   ·cases aa
  ·cases aa
 ·cases aa
theorem Dd0 {ok : Nat → Prop} {t : Ty} {x : El t} {v : Value} (h : ImmV E.ok w t x v) {hp : F8} : V1Rel E hp w ⟨t.agg, N4 t x⟩ v := by
 obtain ⟨cs, h1, h2⟩ := h
 exact ⟨cs, R9 h1, h2⟩
theorem G98 {t : Ty} {T : TypeId} (hok : TyOk P t T) (ok : Nat → Prop) (w : World) : ∃ z, (∀ w, (zeroValue T).run P w = .ok z w) ∧ ImmV ok w t (Ag9 t) z := by
 obtain ⟨i, hi, hs, hz, hb⟩ := hok.base.info
 refine ⟨_, fun w => by simp only [zeroValue, typeInfo, Sem.run_bind, run_program, Result.andThen_ok, hi, Sem.run_pure, hz]; rfl, M2 t, Bc9 t, ?_⟩
 cases t <;> first | exact .inl ⟨rfl, rfl⟩ | exact .inr ⟨rfl, rfl⟩
abbrev Hu0 (ok : Nat → Prop) (w : World) (t : Ty) (p : Int × El t) (e : MapEntry) : Prop := e.key = .int .i64 p.1 ∧ ImmV ok w t p.2 e.val
theorem Dd1 {ok : Nat → Prop} {t : Ty} (d : El t) (n : Int) : ∀ {xs : List (Int × El t)} {es : List MapEntry} (i : Nat), All2 (Hu0 ok w t) xs es →
  (Instr.findNow (.int .i64) (.int .i64 n) es i = some none ∧ D88 xs n = false ∧ Cx2 d xs n = d ∧ ∀ y, Dr0 xs n y = xs ++ [(n, y)]) ∨
  ∃ j v, Instr.findNow (.int .i64) (.int .i64 n) es i = some (some (i + j, v)) ∧ D88 xs n = true ∧ ImmV ok w t (Cx2 d xs n) v ∧ (∃ e, es[j]? = some e ∧ e.key = .int .i64 n) ∧ ∀ y, Dr0 xs n y = xs.set j (n, y) := by
 intro xs es i h
 induction h generalizing i with
 | nil => exact .inl ⟨rfl, rfl, rfl, fun _ => rfl⟩
 | @cons p e xs es hp _ ih =>
  obtain ⟨m, x⟩ := p
  obtain ⟨hk, hv⟩ := hp
  have bh : Instr.sameNow (.int .i64) (.int .i64 n) e.key = some (n == m) := by rw [hk]; simp [Instr.sameNow]
  cases hb : (n == m) with
  | true =>
   have e1 : n = m := by simpa using hb
   subst e1
   right
   exact ⟨0, e.val, by simp [Instr.findNow, bh], by simp [D88], by simpa [Cx2] using hv, ⟨e, rfl, hk⟩, fun y => by simp [Dr0]⟩
  | false =>
   have e1 : (m == n) = false := by
    have : n ≠ m := by simpa using hb
    simpa using this.symm
   rw [hb] at bh
   rcases ih (i + 1) with ⟨h1, h2, h3, h4⟩ | ⟨j, v, h1, h2, h3, h4, h5⟩
   ·exact .inl ⟨by simp [Instr.findNow, bh, h1], by simp [D88, e1, h2], by simp [Cx2, e1, h3], fun y => by simp [Dr0, e1, h4]⟩
   ·refine .inr ⟨j + 1, v, by simp [Instr.findNow, bh, h1]; omega, by simp [D88, e1, h2], by simpa [Cx2, e1] using h3, by simpa using h4, fun y => by simp [Dr0, e1, h5]⟩
theorem D92 {k : TypeId} (hk : P.underlying k = some (.int .i64)) (b : Bool) (n : Int) (w : World) (m : Nat) : (Instr.checkKey b (m + 1) k (.int .i64 n)).run P w = .ok () w := by
 simp [Instr.checkKey, underlying, hk]
theorem A76 {k : TypeId} (hk : P.underlying k = some (.int .i64)) (b : Bool) (n : Int) (w : World) : (Instr.checkKey b 10000 k (.int .i64 n)).run P w = .ok () w :=
 D92 hk b n w 9999
theorem Gy3 (hG : Good P cfg) (h : RelE E st saved a S w w0 K) {T : TypeId} {nm : Nat} (ho : o.op = .makeMap T none)
  (aa : (Dc6 cfg T fun t => Z9 nm (.done [.o nm (.mp t [])] (one (.mp nm)))).run st Kk l = some r) : Goes P o a w st saved S w0 K Kk r := by
 obtain ⟨t, hT, h1⟩ := C80 aa
 obtain ⟨hn, l1, hK⟩ := f8 h1
 have hr := h.new hn (.mp t []) (.map #[] 0) ⟨.inl rfl, by
  have e1 : (E.new nm w.heap.size).ρ nm = (w.heap.size, 0) := by simp [Env.new]
  rw [e1]
  exact ⟨#[], 0, e8 _ _, .nil⟩⟩
 have hc : CellRel (E.new nm w.heap.size) (hset st.heap nm (.mp t [])) (w.alloc (.map #[] 0)) (.mp nm) (.map (some w.heap.size)) :=
  ⟨t, by rw [K6, if_pos rfl]; rfl, by simp [Env.new]⟩
 refine ⟨_, _, l1, hK, fun Q next hnx => OpRes.wp ⟨_, _, _, .inl ?_, hr, VRel.one hc⟩ Q next hnx⟩
 simp [execOp, ho, Instr.makeMap]
theorem G99 (hG : Good P cfg) (h : RelE E st saved a S w w0 K) {T : TypeId} {x k : Operand} {ok : Bool} (ho : o.op = .lookup T x k ok)
  (aa : (Dc6 cfg T fun t => rdC x fun c => Fc7 k fun n => Ej4 t c fun _ xs => F50 t xs n ok).run st Kk l = some r) : Goes P o a w st saved S w0 K Kk r := by
 obtain ⟨t, hT, h1⟩ := C80 aa
 obtain ⟨c, l1, h2, hc⟩ := k9 x _ h1
 obtain ⟨n, l2, h3, hn⟩ := Ek5 k _ h2
 obtain ⟨q, xs, l3, rfl, hg, h4⟩ := Ek6 h3
 obtain ⟨kT, eT, hu, hk, hok⟩ := (hG.map T t hT).under
 obtain ⟨t2, _, hx⟩ := hc h
 have hn := hn h
 obtain ⟨hh, es, clock, hb, hes⟩ := h.ob q _ hg
 obtain ⟨z, hz, hzi⟩ := G98 hok E.ok w
 have hgo := MapKept.run_getObj_map (P := P) hb
 have fin : ∀ v, ((Instr.lookup T (.map (some (E.ρ q).1)) (.int .i64 n) ok).run P w = .ok (if ok then .tuple #[v, .bool (D88 xs n)] else v) w) → ImmV E.ok w t (Cx2 (Ag9 t) xs n) v → Goes P o a w st saved S w0 K Kk r := by
  intro v hl hv
  unfold F50 at h4
  cases ok with
  | true =>
   refine .pure (V := .tuple #[v, .bool (D88 xs n)]) h h4 (by simp [execOp, ho, hx, hn, hl]) ⟨[v, .bool (D88 xs n)], .cons (Dd0 (ok := E.ok) hv) (.cons (V1Rel.mkOne rfl) .nil), rfl⟩
  | false => exact .pure (V := v) h h4 (by simp [execOp, ho, hx, hn, hl]) (Dd0 (ok := E.ok) hv)
 rcases Dd1 (ok := E.ok) (w := w) (Ag9 t) n 0 hes with ⟨e1, e2, e3, _⟩ | ⟨j, v, e1, e2, e3, _⟩
 ·refine fin z ?_ (by rw [e3]; exact hzi)
  rw [e2]
  cases ok <;> simp [Instr.lookup, underlying, hu, hgo, A76 hk, Instr.findKey, hk, e1, hz]
 ·refine fin v ?_ e3
  rw [e2]
  cases ok <;> simp [Instr.lookup, underlying, hu, hgo, A76 hk, Instr.findKey, hk, e1]
theorem Ha0 {g : Nat} {es : Array MapEntry} {clock : Nat} (hb : w.heap[g]? = some (.map es clock)) (es' : Array MapEntry) (clock' : Nat) : Puts g w { w with heap := w.heap.setIfInBounds g (.map es' clock') } := by
 have bh : ∀ b, b ≠ g → ({ w with heap := w.heap.setIfInBounds g (.map es' clock') } : World).heap[b]? = w.heap[b]? := fun b hb' => by
  simp [Ne.symm hb']
 have ay : ({ w with heap := w.heap.setIfInBounds g (.map es' clock') } : World).heap[g]? = some (.map es' clock') := by
  have : g < w.heap.size := by
   rcases Nat.lt_or_ge g w.heap.size with h | h
   ·exact h
   ·rw [Array.getElem?_eq_none h] at hb; cases hb
  simp [this]
 refine ⟨by simp, rfl, rfl, rfl, bh, fun b m hr => ?_, fun x => ?_, fun x => ?_⟩
 ·obtain ⟨cs, e, fr, h1, h2⟩ := hr
  by_cases e1 : b = g
  ·subst e1; rw [hb] at h1; cases h1
  ·exact ⟨cs, e, fr, (bh b e1).trans h1, h2⟩
 ·by_cases e1 : x.block = g
  ·simp only [World.frozen?, e1, ay, hb]
  ·exact A74 (bh _ e1)
 ·by_cases e1 : x.block = g
  ·simp only [World.cell?, e1, ay, hb]
  ·rw [Y4 (bh _ e1)]
theorem Fe6 {es : Array MapEntry} {j : Nat} {e : MapEntry} {f : MapEntry → MapEntry} (h : es.toList[j]? = some e) : (es.modify j f).toList = es.toList.set j (f e) := by
 apply List.ext_getElem?
 intro i
 rw [List.getElem?_set]
 have h' : es[j]? = some e := by simpa using h
 by_cases hi : j = i
 ·subst hi
  have hlt : j < es.size := by
   rcases Nat.lt_or_ge j es.size with h | h
   ·exact h
   ·rw [Array.getElem?_eq_none h] at h'; cases h'
  have e1 : es[j] = e := by simpa [Array.getElem?_eq_getElem hlt] using h'
  simp [hlt, e1]
 ·simp [hi]
theorem Fe7 (hG : Good P cfg) (h : RelE E st saved a S w w0 K) {T : TypeId} {m k v : Operand} (ho : o.op = .mapUpdate T m k v)
  (aa : (Dc6 cfg T fun t => rdC m fun c => Fc7 k fun n => rd1 v fun v => bif (bif v.agg then t.agg else !t.agg) then Ej4 t c fun o xs => B90 t v.cs fun y u => z7 (u ++ [.o o (.mp t (Dr0 xs n y))]) VV.un else .fail).run st Kk l = some r) :
  Goes P o a w st saved S w0 K Kk r := by
 obtain ⟨t, hT, h1⟩ := C80 aa
 obtain ⟨c, l1, h2, hc⟩ := k9 m _ h1
 obtain ⟨n, l2, h3, hn⟩ := Ek5 k _ h2
 obtain ⟨x, l3, h4, hx⟩ := Bx6 v _ h3
 cases hag : (bif x.agg then t.agg else !t.agg) with
 | false => rw [hag] at h4; cases h4
 | true =>
  rw [hag] at h4
  simp only [cond_true] at h4
  obtain ⟨q, xs, l4, rfl, hg, h5⟩ := Ek6 h4
  obtain ⟨y, u, l5, h6, hfz, _, hy⟩ := B97 h5
  obtain ⟨hd, hK⟩ := Av4 h6
  rw [List.map_append] at hd
  obtain ⟨hd1, _, hdj⟩ := I1 hd
  have hnq : q ∉ u.map Upd.name := fun hm => hdj q hm (by simp [Upd.name])
  obtain ⟨kT, eT, hu, hk, hok⟩ := (hG.map T t hT).under
  obtain ⟨t2, _, hcx⟩ := hc h
  have hn := hn h
  have hx := hx h
  obtain ⟨hh, es, clock, hb, hes⟩ := h.ob q _ hg
  obtain ⟨us, hus, hV⟩ := hx
  have hyi := hy h hus
  obtain ⟨E1, r1, e1, e2, e3⟩ := h.frzs u hfz hd1
  have hg1 : C1 (st.upds u).heap q = some (.mp t xs) := by rw [J6 u st q hnq]; exact hg
  have ad : F5 (st.upds u).heap q := by unfold F5; rw [hg1]; trivial
  have hh1 : E1.has q := by rw [e2]; exact hh
  have eρ : E1.ρ q = E.ρ q := by rw [e1]
  have hval : ImmV E1.ok w t y (a.eval v) := ⟨us, hyi.mono (fun b hb => (e3 b).1 hb) (fun _ _ => rfl), by
   rcases hV with ⟨g1, g2⟩ | ⟨g1, g2⟩
   ·rw [g1] at hag; exact .inl ⟨hag, g2⟩
   ·rw [g1] at hag; exact .inr ⟨by simpa using hag, g2⟩⟩
  have hes1 : All2 (Hu0 E1.ok w t) xs es.toList := hes.mono fun _ _ p => ⟨p.1, p.2.mono (fun b hb => (e3 b).1 (.inl hb)) (fun _ _ => rfl)⟩
  have fin : ∀ (es' : Array MapEntry) (clock' : Nat), All2 (Hu0 E1.ok w t) (Dr0 xs n y) es'.toList → (Instr.mapUpdate T (.map (some (E.ρ q).1)) (.int .i64 n) (a.eval v)).run P w = .ok () { w with heap := w.heap.setIfInBounds (E.ρ q).1 (.map es' clock') } → Goes P o a w st saved S w0 K Kk r := by
   intro es' clock' hrel hex
   have ak := Ha0 hb es' clock'
   have hr := r1.write (ob' := .mp t (Dr0 xs n y)) hg1 ad hh1 rfl (by unfold F5; rw [C3, if_pos rfl]; trivial) (by rw [eρ]; exact ak) (fun {h'} k => ⟨hh1, es', clock', by
    rw [eρ]
    have : (E.ρ q).1 < w.heap.size := by
     rcases Nat.lt_or_ge (E.ρ q).1 w.heap.size with h | h
     ·exact h
     ·rw [Array.getElem?_eq_none h] at hb; cases hb
    simp [this], hrel.mono fun _ _ p => ⟨p.1, p.2.mono k.ok k.same⟩⟩)
   have hrr : RelE E1 (st.upds (u ++ [.o q (.mp t (Dr0 xs n y))])) saved a S { w with heap := w.heap.setIfInBounds (E.ρ q).1 (.map es' clock') } w0 K := by rw [N7]; exact hr
   have hx2 : (execOp a.eval o).run P w = .ok .skip { w with heap := w.heap.setIfInBounds (E.ρ q).1 (.map es' clock') } := by
    simp [execOp, ho, hcx, hn, hex]
   exact ⟨_, _, _, hK, fun Q next hnx => OpRes.wp ⟨undef, _, E1, .inr ⟨hx2, rfl⟩, hrr, (show VRel _ _ _ .un undef from trivial)⟩ Q next hnx⟩
  have hgo := MapKept.run_getObj_map (P := P) hb
  rcases Dd1 (ok := E1.ok) (w := w) (Ag9 t) n 0 hes1 with ⟨f1, _, _, f4⟩ | ⟨j, v', f1, _, _, ⟨e, f4, f5⟩, f6⟩
  ·refine fin (es.push { key := .int .i64 n, val := a.eval v, born := clock }) (clock + 1) ?_ ?_
   ·rw [f4, Array.toList_push]
    exact hes1.append (.cons ⟨rfl, hval⟩ .nil)
   ·simp [Instr.mapUpdate, underlying, hu, hgo, A76 hk, Instr.findKey, hk, f1, MapKept.run_setObj_map _ hb]
  ·rw [Nat.zero_add] at f1
   refine fin (es.modify j fun e => { e with key := .int .i64 n, val := a.eval v }) clock ?_ ?_
   ·rw [f6, Fe6 f4]
    exact hes1.set ⟨rfl, hval⟩ j
   ·have f4' : es[j]? = some e := by simpa using f4
    simp [Instr.mapUpdate, underlying, hu, hgo, A76 hk, Instr.findKey, hk, f1, MapKept.run_setObj_map _ hb, f4', f5, Instr.keyThatStays, Instr.sameBits]
theorem Bs7 {b : Bool} {x : RP} (h : (RP.ite b x .fail).run st Kk l = some r) : b = true ∧ x.run st Kk l = some r := by
 cases b with
 | true => exact ⟨rfl, h⟩
 | false => cases h
theorem Ha1 (hG : Good P cfg) (h : RelE E st saved a S w w0 K) {T : TypeId} {x hi mx : Operand} {lo : Option Operand} (ho : o.op = .slice T x lo (some hi) (some mx))
  (aa : (An4 cfg T fun _ _ => rdC x fun c => Dr2 lo fun a => rdI hi fun _ b => rdI mx fun _ m => Dr6 c a b m).run st Kk l = some r) : Goes P o a w st saved S w0 K Kk r := by
 obtain ⟨e, t, hT, h0⟩ := Al7 aa
 obtain ⟨c, l1, h1, hc⟩ := k9 x _ h0
 obtain ⟨p, l2, h2, kl, hp⟩ := C78 lo _ h1
 obtain ⟨kh, q, l3, h3, hq⟩ := Bj6 hi _ h2
 obtain ⟨km, m, l4, h4, hm⟩ := Bj6 mx _ h3
 have hok := hG.tab T _ hT
 have hc := hc h
 have hp := hp h
 have hq := hq h
 have hm := hm h
 unfold Dr6 at h4
 split at h4
 ·rename_i q' lo' hi' _
  simp only [RP.run] at h4
  split at h4
  ·rename_i e' t' xs own hg
   have hs : hsh st.heap q' = some (.row e' t' xs.length) := by simp [hsh, hg, I5]
   simp only [CellRel, hs] at hc
   obtain ⟨af, A, cp, hv, hle, hx⟩ := hc
   have hcut' : Aa3 lo' none xs.length := by cases lo' <;> cases hi' <;> simp only [Aa3] at * <;> omega
   have hcl := e7 hcut' hle
   obtain ⟨b1, h4⟩ := Bs7 h4
   obtain ⟨b2, h4⟩ := Bs7 h4
   obtain ⟨b3, h4⟩ := Bs7 h4
   obtain ⟨b4, h4⟩ := Bs7 h4
   simp only [decide_eq_true_eq] at b1 b2 b3 b4
   have hm1 : m ≤ (cp : Int) := Int.le_trans b2 (Int.ofNat_le.2 hcl)
   have fin : ∀ {l5 : List Loc} (lw : Nat), (Instr.sliceBounds true (F9 lo' hi' xs.length) cp (p.map (Value.int kl)) (some (.int kh q)) (some (.int km m))).run P w = .ok (lw, q.toNat, m.toNat) w → Kk [] VV.un l5 = some r → Goes P o a w st saved S w0 K Kk r := by
    intro l5 lw hb hK
    refine .pure (V := .slice (if m.toNat = lw then A else A.map (·.add (lw * t.sz))) (q.toNat - lw) (m.toNat - lw)) h hK ?_ trivial
    simp [execOp, ho, hv, hp, hq, hm, Instr.sliceAt, underlying, hok.2.1, Instr.slice, hb, TyOk.size hok.2.2 w]
   have hqm : q ≤ ((m.toNat : Nat) : Int) := by omega
   cases p with
   | none =>
    refine fin 0 ?_ h4
    simp [Instr.sliceBounds, run_sliceBound (P := P) w km m cp _ b1 hm1, run_sliceBound (P := P) w kh q m.toNat _ b3 hqm]
   | some p =>
    simp only at h4
    obtain ⟨b5, h4⟩ := Bs7 h4
    obtain ⟨b6, h4⟩ := Bs7 h4
    simp only [decide_eq_true_eq] at b5 b6
    refine fin p.toNat ?_ h4
    simp [Instr.sliceBounds, run_sliceBound (P := P) w km m cp _ b1 hm1, run_sliceBound (P := P) w kh q m.toNat _ b3 hqm, run_sliceBound (P := P) w kl p q.toNat _ b5 (by omega)]
  ·cases h4
 ·cases h4
theorem Hn8 (hG : Good P cfg) (h : RelE E st saved a S w w0 K) {c : Call} {nm : Nat} (ho : o.op = .call c) (hc : c.callee = .builtin .clear)
  (aa : (z6 c.args.toList fun vs => t7 cfg nm .clear c.argTypes.toList vs).run st Kk l = some r) : Goes P o a w st saved S w0 K Kk r := by
 obtain ⟨vs, l1, h1, h2⟩ := Y5 _ _ _ aa
 have hv := h2 h
 unfold t7 at h1
 split at h1 <;> first | contradiction | skip
 rename_i T d _ hTs
 obtain ⟨e, t, hT, h3⟩ := Al7 h1
 have hok := hG.tab T _ hT
 cases ae : c.args.toList.map a.eval with
 | nil => rw [ae] at hv; cases hv
 | cons v1 t1 => cases t1 with
  | cons _ _ => rw [ae] at hv; cases hv with | cons _ q => cases q
  | nil =>
   rw [ae] at hv
   cases hv with
   | cons p _ =>
    have p := p.one
    have ea : c.args.map a.eval = #[v1] := by
     apply Array.toList_inj.1
     rw [Array.toList_map, ae]
    have eT : c.argTypes = #[T] := by
     apply Array.toList_inj.1
     rw [hTs]
    have exec : ∀ {w'}, (Builtin.clear_ #[T] o.type #[v1]).run P w = .ok (.tuple #[]) w' → (execOp a.eval o).run P w = .ok (.value (.tuple #[])) w' := by
     intro w' hx
     simp [execOp, ho, resolve, hc, invoke, builtin, ea, eT, hx]
    unfold Gt5 at h3
    split at h3
    ·refine ⟨_, _, l1, h3, fun Q next hnx => OpRes.wp ⟨.tuple #[], w, E, .inl (exec ?_), h, (show VRel _ _ _ .un _ from trivial)⟩ Q next hnx⟩
     have hv1 : v1 = .slice none 0 0 := p
     subst hv1
     simp [Builtin.clear_, underlying, hok.2.1]
    ·rename_i q lo hi _
     simp only [RP.run] at h3
     split at h3
     ·rename_i e' t' xs hg
      by_cases et : t' = t
      ·subst et
       simp only [decide_true, cond_true] at h3
       have hs : hsh st.heap q = some (.row e' t' xs.length) := by simp [hsh, hg, I5]
       simp only [CellRel, hs] at p
       obtain ⟨af, A, cp, hv1, hle, hx⟩ := p
       by_cases hz : F9 lo hi xs.length = 0
       ·have hclr : clr (Ag9 t') lo hi xs = xs := by
         unfold clr
         rw [hz]
         simp
        rw [hclr] at h3
        have hr : RelE E (st.upds [.o q (.row e' t' xs true)]) saved a S w w0 K := h.same hg
        refine ⟨_, _, _, h3, fun Q next hnx => OpRes.wp ⟨.tuple #[], w, E, .inl (exec ?_), hr, (show VRel _ _ _ .un _ from trivial)⟩ Q next hnx⟩
        rw [hv1, hz]
        cases A <;> simp [Builtin.clear_, underlying, hok.2.1]
       ·rcases hx with hx | ⟨hh, hA, hR⟩
        ·have := e7 af hle
         omega
        ·obtain ⟨z, hz1, hzc⟩ := Bs3 (P := P) hok.2.2
         have hzs : z.cells.size = t'.sz := by rw [← Array.length_toList, hzc, U2]
         have hrep : All2 (Imm E.ok w t') (List.replicate (F9 lo hi xs.length) (Ag9 t')) (List.replicate (F9 lo hi xs.length) (M2 t')) := All2.replicate _ _ (Bc9 t') _
         have hple : Q2 lo + (List.replicate (F9 lo hi xs.length) (Ag9 t')).length ≤ xs.length := by
          rw [List.length_replicate]
          cases lo <;> cases hi <;> simp only [Aa3, F9, Q2] at * <;> omega
         obtain ⟨hr, hst⟩ := h.part (P := P) hg hh hrep hple
         rw [List.length_replicate] at hr
         refine ⟨_, _, _, h3, fun Q next hnx => OpRes.wp ⟨.tuple #[], _, E, .inl (exec ?_), hr, (show VRel _ _ _ .un _ from trivial)⟩ Q next hnx⟩
         have hzl : (Builtin.zeroCells z.cells (F9 lo hi xs.length)).toList = (List.replicate (F9 lo hi xs.length) (M2 t')).flatten := by
          unfold Builtin.zeroCells
          by_cases h0 : t'.sz = 0
          ·have e0 : M2 t' = [] := List.length_eq_zero_iff.1 (by rw [U2]; exact h0)
           rw [e0, hzs, h0]
           simp
          ·rw [Ct1 _ _ (by omega), hzc]
         obtain ⟨m, hm⟩ : ∃ m, F9 lo hi xs.length = m + 1 := ⟨F9 lo hi xs.length - 1, by omega⟩
         rw [hv1, hA]
         simp only [Builtin.clear_]
         rw [hm] at hzl hst ⊢
         simp [underlying, hok.2.1, hz1, hzl, hst]
      ·simp [et, RP.run] at h3
     ·cases h3
    ·cases h3
end
end Go.Vm
end
section
namespace Go.Vm
open Go
def TElt (w : World) (β : Nat → Option (Nat × Nat)) : (t : Ty) → Nat → El t → List Value → Prop
 | .int k, _, n, cs => cs = [.int k n]
 | .bool, _, b, cs => cs = [.bool b]
 | .str, _, s, cs => cs = [.string s]
 | .slice _ t, f, ys, cs => t.flat = true ∧ ∃ A c, cs = [.slice A ys.length c] ∧ ys.length ≤ c ∧
   ((c = 0 ∧ β f = none) ∨ ∃ b p, β f = some (b, p) ∧ A = some ⟨b, p, none⟩ ∧ RowAt (fun _ => False) w b p t ys ∧ NoFrz t w b ∧ Room w b (p + c * t.sz))
 | .nil, _, _, cs => cs = []
 | .fld a r, f, x, cs => ∃ c1 c2, cs = c1 ++ c2 ∧ TElt w β a f x.1 c1 ∧ TElt w β r (f + a.sz) x.2 c2
theorem TElt.len {w : World} {β : Nat → Option (Nat × Nat)} : ∀ {t : Ty} {f : Nat} {x : El t} {cs : List Value}, TElt w β t f x cs → cs.length = t.sz
 | .int _, _, _, _, h => by simp only [TElt] at h; subst h; rfl
 | .bool, _, _, _, h => by simp only [TElt] at h; subst h; rfl
 | .str, _, _, _, h => by simp only [TElt] at h; subst h; rfl
 | .slice _ _, _, _, _, h => by obtain ⟨_, A, c, rfl, _⟩ := h; rfl
 | .nil, _, _, _, h => by simp only [TElt] at h; subst h; rfl
 | .fld a r, f, x, _, h => by
  obtain ⟨c1, c2, rfl, h1, h2⟩ := h
  simp [Ty.sz, TElt.len h1, TElt.len h2]
theorem TElt.same {w w' : World} {β : Nat → Option (Nat × Nat)} (hw : ∀ f b p, β f = some (b, p) → w'.heap[b]? = w.heap[b]?) : ∀ {t : Ty} {f : Nat} {x : El t} {cs : List Value}, TElt w β t f x cs → TElt w' β t f x cs
 | .int _, _, _, _, h => h
 | .bool, _, _, _, h => h
 | .str, _, _, _, h => h
 | .slice _ t, f, _, _, h => by
  obtain ⟨hf, A, c, rfl, hc, hx⟩ := h
  refine ⟨hf, A, c, rfl, hc, hx.imp id ?_⟩
  rintro ⟨b, p, h1, h2, h3, h4, h5⟩
  have hs := hw f b p h1
  exact ⟨b, p, h1, h2, h3.mono (fun _ h => h) (fun _ h => h.elim) hs, h4.of_same hs, h5.of_same hs⟩
 | .nil, _, _, _, h => h
 | .fld a r, f, x, _, h => by
  obtain ⟨c1, c2, rfl, h1, h2⟩ := h
  exact ⟨c1, c2, rfl, TElt.same hw h1, TElt.same hw h2⟩
theorem TElt.imm {w : World} {β : Nat → Option (Nat × Nat)} {ok : Nat → Prop} (hk : ∀ f b p, β f = some (b, p) → ok b) : ∀ {t : Ty} {f : Nat} {x : El t} {cs : List Value}, TElt w β t f x cs → Imm ok w t x cs
 | .int _, _, _, _, h => h
 | .bool, _, _, _, h => h
 | .str, _, _, _, h => h
 | .slice _ t, f, ys, _, h => by
  obtain ⟨hf, A, c, rfl, hc, hx⟩ := h
  refine ⟨A, c, rfl, hc, fun hne => ?_⟩
  rcases hx with ⟨rfl, _⟩ | ⟨b, p, h1, h2, h3, h4, h5⟩
  ·exact absurd (List.length_eq_zero_iff.1 (by omega)) hne
  ·exact ⟨b, p, h2, hk f b p h1, h3.mono (fun _ h => h.elim) (fun _ h => h.elim) rfl⟩
 | .nil, _, _, _, h => h
 | .fld a r, f, x, _, h => by
  obtain ⟨c1, c2, rfl, h1, h2⟩ := h
  exact ⟨c1, c2, rfl, TElt.imm hk h1, TElt.imm hk h2⟩
structure TreeAt (w : World) (g off : Nat) (t : Ty) (β : Nat → Nat → Option (Nat × Nat)) (xs : List (El t)) : Prop where
 row : ∀ i (h : i < xs.length), ∃ ds, TElt w (β i) t 0 (xs[i]) ds ∧ ∀ j, j < t.sz → w.cell? ⟨g, off + i * t.sz + j, none⟩ = ds[j]?
 nf : NoFrz t w g
 inj : ∀ i f i' f' b p p', β i f = some (b, p) → β i' f' = some (b, p') → i = i' ∧ f = f'
 ne : ∀ i f b p, β i f = some (b, p) → b ≠ g
 lt : ∀ i f b p, β i f = some (b, p) → i < xs.length ∧ f < t.sz
theorem TreeAt.same {w w' : World} {g off : Nat} {t : Ty} {β : Nat → Nat → Option (Nat × Nat)} {xs : List (El t)} (h : TreeAt w g off t β xs) (hg : w'.heap[g]? = w.heap[g]?)
  (hb : ∀ i f b p, β i f = some (b, p) → w'.heap[b]? = w.heap[b]?) : TreeAt w' g off t β xs := by
 refine ⟨fun i hi => ?_, h.nf.of_same hg, h.inj, h.ne, h.lt⟩
 obtain ⟨ds, h1, h2⟩ := h.row i hi
 exact ⟨ds, h1.same (hb i), fun j hj => (Y4 hg).trans (h2 j hj)⟩
def Keep.mine (K : Keep) (b : Nat) : Prop := K.k b ∧ ¬ K.o b ∧ K.p b
def Blk (K : Keep) (β : Nat → Nat → Nat → Option (Nat × Nat)) (n b : Nat) : Prop := b = (K.ta n).1 ∨ ∃ i f p, β n i f = some (b, p)
structure TFB (h : F8) (w : World) (K : Keep) (β : Nat → Nat → Nat → Option (Nat × Nat)) : Prop where
 tr : ∀ n e t xs q, C1 h n = some (.tree e t xs q) → (K.th n ∨ xs = []) ∧ (K.th n → TreeAt w (K.ta n).1 (K.ta n).2 t (β n) xs ∧ ∀ b, Blk K β n b → K.mine b)
 fx : ∀ n e t xs q, C1 h n = some (.tree e t xs q) → q ≠ 1 → K.th n → β n = K.b0 (K.ta n).1
 ap : ∀ n n' o o', n ≠ n' → C1 h n = some o → C1 h n' = some o' → (∃ e t xs q, o = .tree e t xs q) → (∃ e t xs q, o' = .tree e t xs q) → K.th n → K.th n' → ∀ b, Blk K β n b → ¬ Blk K β n' b
 bo : ∀ n o i f e t m, C1 h n = some (.bor o i f e t m) → ∃ e2 t2 xs q, C1 h o = some (.tree e2 t2 xs q) ∧ (q = 0 → K.th o ∧ i < xs.length ∧ (K.th n → β o i f = some (K.ta n)) ∧
  ∃ ys, (N4 t2 (rd (Ag9 t2) xs i))[f]? = some (.slc e t ys) ∧ ys.length = m)
def TF (h : F8) (w : World) (K : Keep) : Prop := ∃ β, TFB h w K β
theorem TF.none {h : F8} {w : World} {K : Keep} (ht : ∀ n o, C1 h n = some o → o.tr = false) : TF h w K :=
 ⟨fun _ _ _ => Option.none,
  {tr := fun n e t xs q hn => by
    have h1 := ht n _ hn
    cases h1
   fx := fun n e t xs q hn => by
    have h1 := ht n _ hn
    cases h1
   ap := fun n n' o o' _ hn _ he => by
    obtain ⟨e, t, xs, q, rfl⟩ := he
    have h1 := ht n _ hn
    cases h1
   bo := fun n o i f e t m hn => by
    have h1 := ht n _ hn
    cases h1 }⟩
def ErrCell (w : World) (g : Nat) : Prop := ∃ ev, w.cell? ⟨g, 0, none⟩ = some ev ∧ (ev = .nilIface ∨ ∃ te pe, ev = .iface te pe)
def Ek7 (w : World) : Prop := ∀ g, F46 = some g → ErrCell w g
theorem ErrCell.lt {w : World} {g : Nat} (h : ErrCell w g) : g < w.heap.size := by
 obtain ⟨ev, h1, _⟩ := h
 rcases Nat.lt_or_ge g w.heap.size with h2 | h2
 ·exact h2
 ·have : w.heap[g]? = none := Array.getElem?_eq_none_iff.2 h2
  simp [World.cell?, this] at h1
theorem ErrCell.same {w w' : World} {g : Nat} (h : ErrCell w g) (e : w'.heap[g]? = w.heap[g]?) : ErrCell w' g := by
 obtain ⟨ev, h1, h2⟩ := h
 exact ⟨ev, (Y4 (a := ⟨g, 0, none⟩) e).trans h1, h2⟩
structure Dr (w0 : World) (K : Keep) (w1 : World) (K1 : Keep) : Prop where
 os : w1.os = w0.os
 tape : w1.tape = w0.tape
 out : w1.output = w0.output
 size : w0.heap.size ≤ w1.heap.size
 k : ∀ b, K.k b → K1.k b ∧ (¬ K.p b → w1.heap[b]? = w0.heap[b]?)
 o : ∀ b, K.k b → K1.o b → K.o b
 p : ∀ b, K.k b → K1.p b → K.p b
 rm : ∀ g m, Room w0 g m → Room w1 g m
 b0 : ∀ b, K.k b → K1.b0 b = K.b0 b
theorem Dr.refl (w : World) (K : Keep) : Dr w K w K := ⟨rfl, rfl, rfl, Nat.le_refl _, fun b h => ⟨h, fun _ => rfl⟩, fun b _ h => h, fun b _ h => h, fun _ _ h => h, fun _ _ => rfl⟩
theorem Dr.trans {w0 w1 w2 : World} {K0 K1 K2 : Keep} (p : Dr w0 K0 w1 K1) (q : Dr w1 K1 w2 K2) : Dr w0 K0 w2 K2 :=
 ⟨q.os.trans p.os, q.tape.trans p.tape, q.out.trans p.out, Nat.le_trans p.size q.size, fun b h => ⟨(q.k b (p.k b h).1).1, fun hn => ((q.k b (p.k b h).1).2 fun hp => hn (p.p b h hp)).trans ((p.k b h).2 hn)⟩,
  fun b h ho => p.o b h (q.o b (p.k b h).1 ho), fun b h hp => p.p b h (q.p b (p.k b h).1 hp), fun g m h => q.rm g m (p.rm g m h), fun b h => (q.b0 b (p.k b h).1).trans (p.b0 b h)⟩
structure Dv (w0 : World) (K : Keep) (w1 : World) (K1 : Keep) : Prop extends Dr w0 K w1 K1 where
 iv : ∀ g, F46 = some g → (K.k g ∧ ¬ K.p g) ∧ ErrCell w0 g
theorem Dv.trans {w0 w1 w2 : World} {K0 K1 K2 : Keep} (p : Dv w0 K0 w1 K1) (q : Dr w1 K1 w2 K2) : Dv w0 K0 w2 K2 := ⟨p.toDr.trans q, p.iv⟩
theorem Dv.err {w0 w1 : World} {K0 K1 : Keep} (p : Dv w0 K0 w1 K1) : Ek7 w1 := fun g hg => by
 obtain ⟨⟨h1, h2⟩, h3⟩ := p.iv g hg
 exact h3.same ((p.k g h1).2 h2)
theorem Dv.errK {w0 w1 : World} {K0 K1 : Keep} (p : Dv w0 K0 w1 K1) (g : Nat) (hg : F46 = some g) : K1.k g ∧ ¬ K1.p g := by
 obtain ⟨⟨h1, h2⟩, h3⟩ := p.iv g hg
 exact ⟨(p.k g h1).1, fun h => h2 (p.p g h1 h)⟩
section
variable {E : Env} {st : St} {saved : List (Nat × List VV)} {a : Act} {S : List (Array Value)} {w w0 w1 : World} {K K1 : Keep}
theorem RelE.rebase (h : RelE E st saved a S w w1 K1) {K2 : Keep} (hk : ∀ b, K2.k b → b < w.heap.size) (hl : ∀ n, F5 st.heap n → E.has n → ¬ K2.k (E.ρ n).1) (ho : ∀ b, E.ok b → K2.k b → K2.o b)
  (hta : ∀ n o, C1 st.heap n = some o → o.tr = true → (E.has n ↔ K2.th n) ∧ E.ρ n = K2.ta n) : RelE E st saved a S w w K2 :=
 ⟨h.tm, h.df, h.sv, h.ob, h.dj, fun n p q => ⟨(h.dk n p q).1, hl n p q⟩, h.bd, h.bo, fun b hb => ⟨hk b hb, rfl⟩, rfl, rfl, rfl, Nat.le_refl _, ho, fun _ _ h => h, hta⟩
theorem RelE.rebase0 (h : RelE E st saved a S w w1 K1) : RelE E st saved a S w w K1 :=
 h.rebase (fun b hb => (h.kp b hb).1) (fun n p q => (h.dk n p q).2) h.oz h.ta
theorem RelE.drift (h : RelE E st saved a S w w1 K1) : Dr w1 K1 w K1 :=
 ⟨h.os, h.tape, h.out, h.size, fun b hb => ⟨hb, fun _ => (h.kp b hb).2⟩, fun b _ ho => ho, fun b _ ho => ho, h.rm, fun _ _ => rfl⟩
theorem RelE.now (h : RelE E st saved a S w w1 K1) (ht : TF st.heap w1 K1) : TF st.heap w K1 := by
 obtain ⟨β, hb⟩ := ht
 refine ⟨β, fun n e t xs q hn => ?_, hb.fx, hb.ap, hb.bo⟩
 obtain ⟨p1, p2⟩ := hb.tr n e t xs q hn
 refine ⟨p1, fun hth => ?_⟩
 obtain ⟨q1, q2⟩ := p2 hth
 exact ⟨q1.same (h.kp _ (q2 _ (.inl rfl)).1).2 fun i f b p hp => (h.kp _ (q2 b (.inr ⟨i, f, p, hp⟩)).1).2, q2⟩
theorem RelE.nameT (h : RelE E st saved a S w w1 K1) {nm : Nat} (hn : C1 st.heap nm = none) (b : Prop) (ob : Obj) (htr : ob.tr = true) (hp : b → (K1.ta nm).1 < w.heap.size) (hb : K1.th nm ↔ b) :
  RelE (E.at nm (K1.ta nm) b) ⟨st.tmps, hset st.heap nm ob⟩ saved a S w w1 K1 := by
 have k := Aj7 (E := E) (w := w) hn (K1.ta nm) b ob
 have ad : ∀ n, F5 (hset st.heap nm ob) n → n ≠ nm ∧ F5 st.heap n := by
  intro n hl
  unfold F5 at hl ⊢
  rw [C3] at hl
  by_cases e : n = nm
  ·rw [if_pos e] at hl
   cases ob <;> first | exact hl.elim | cases htr
  ·rw [if_neg e] at hl; exact ⟨e, hl⟩
 have hρ : ∀ n, n ≠ nm → (E.at nm (K1.ta nm) b).ρ n = E.ρ n := fun n hne => by simp [Env.at, hne]
 have aj : ∀ n, n ≠ nm → (E.at nm (K1.ta nm) b).has n → E.has n := fun n hne hh => by simpa [Env.at, hne] using hh
 refine ⟨M3 k h.tm, h.df, h.sv.mono fun _ _ q => M3 k q, ?_, ?_, ?_, ?_, h.bo, h.kp, h.os, h.tape, h.out, h.size, h.oz, h.rm, ?_⟩
 ·intro n o hg
  by_cases e : n = nm
  ·subst e
   rw [C3, if_pos rfl] at hg
   cases hg
   cases ob <;> first | trivial | cases htr
  ·rw [C3, if_neg e] at hg
   exact (h.ob n o hg).step k (by rw [hg]; rfl) (aj n e) (fun _ => rfl)
 ·intro n n' hne hl hl' hh hh'
  obtain ⟨e, hl⟩ := ad n hl
  obtain ⟨e', hl'⟩ := ad n' hl'
  rw [hρ n e, hρ n' e']
  exact h.dj n n' hne hl hl' (aj n e hh) (aj n' e' hh')
 ·intro n hl hh
  obtain ⟨e, hl⟩ := ad n hl
  rw [hρ n e]
  exact h.dk n hl (aj n e hh)
 ·intro n hs hh
  by_cases e : n = nm
  ·subst e
   have : (E.at n (K1.ta n) b).ρ n = K1.ta n := by simp [Env.at]
   rw [this]
   exact hp (by simpa [Env.at] using hh)
  ·rw [hρ n e]
   rw [C3, if_neg e] at hs
   exact h.bd n hs (aj n e hh)
 ·intro n o hg ho
  by_cases e : n = nm
  ·subst e
   exact ⟨by simpa [Env.at] using hb.symm, by simp [Env.at]⟩
  ·rw [C3, if_neg e] at hg
   obtain ⟨p, q⟩ := h.ta n o hg ho
   refine ⟨?_, by rw [hρ n e]; exact q⟩
   simpa [Env.at, e] using p
theorem TF.hset {h : F8} {nm : Nat} {ob : Obj} (ht : TF h w K) (hn : C1 h nm = Option.none) (hb : ob.tr = false) : TF (hset h nm ob) w K := by
 obtain ⟨β, hβ⟩ := ht
 have old := fun n o => An7 (h := h) (nm := nm) hb n o
 refine ⟨β, fun n e t xs q hg => hβ.tr n e t xs q (old n _ hg rfl), fun n e t xs q hg => hβ.fx n e t xs q (old n _ hg rfl), fun n n' o o' hne hg hg' he he' => ?_, fun n o i f e t m hg => ?_⟩
 ·obtain ⟨e, t, xs, q, rfl⟩ := he
  obtain ⟨e', t', xs', q', rfl⟩ := he'
  exact hβ.ap n n' _ _ hne (old n _ hg rfl) (old n' _ hg' rfl) ⟨_, _, _, _, rfl⟩ ⟨_, _, _, _, rfl⟩
 ·obtain ⟨e2, t2, xs, q, h1, h2⟩ := hβ.bo n o i f e t m (old n _ hg rfl)
  refine ⟨e2, t2, xs, q, ?_, h2⟩
  rw [C3, if_neg (G8 hn (by rw [h1]; rfl))]
  exact h1
def Keep.plus (K : Keep) (nm : Nat) (g off : Nat) (ns : List Nat) (β : Nat → Nat → Option (Nat × Nat)) : Keep :=
 {k := fun b => K.k b ∨ b ∈ g :: ns, o := fun b => K.o b ∧ b ∉ g :: ns, p := fun b => K.p b ∨ b ∈ g :: ns, ta := fun n => if n = nm then (g, off) else K.ta n, th := fun n => n = nm ∨ K.th n, b0 := fun b => if b = g then β else K.b0 b }
theorem RelE.newTree (h : RelE E st saved a S w w K) (ht : TF st.heap w K) {nm : Nat} (hn : C1 st.heap nm = none) (e : TypeId) {t : Ty} {xs : List (El t)} (q : Nat) {g off : Nat} {ns : List Nat} {β : Nat → Nat → Option (Nat × Nat)}
  (hf : ∀ b ∈ g :: ns, Free E st.heap K w b) (hns : ∀ b, b ∈ ns ↔ ∃ i f p, β i f = some (b, p)) (hT : TreeAt w g off t β xs) :
  RelE (E.at nm (g, off) True) ⟨st.tmps, hset st.heap nm (.tree e t xs q)⟩ saved a S w w (K.plus nm g off ns β) ∧ TF (hset st.heap nm (.tree e t xs q)) w (K.plus nm g off ns β) := by
 have r1 : RelE E st saved a S w w (K.plus nm g off ns β) := h.rebase (fun b hb => hb.elim (fun hb => (h.kp b hb).1) fun hb => (hf b hb).2.2.2)
  (fun n hl hh hk => hk.elim (h.dk n hl hh).2 fun hb => (hf _ hb).1 n hl hh rfl)
  (fun b hb hk => ⟨hk.elim (h.oz b hb) fun hm => absurd hb (hf b hm).2.1, fun hm => (hf b hm).2.1 hb⟩)
  (fun n o hg ho => by
   have hne : n ≠ nm := G8 hn (by rw [hg]; rfl)
   obtain ⟨p1, p2⟩ := h.ta n o hg ho
   exact ⟨p1.trans ⟨.inr, fun z => z.resolve_left hne⟩, by rw [p2]; simp [Keep.plus, hne]⟩)
 have eta : (K.plus nm g off ns β).ta nm = (g, off) := by simp [Keep.plus]
 have r2 := r1.nameT hn True (.tree e t xs q) rfl (fun _ => by rw [eta]; exact (hf g List.mem_cons_self).2.2.2) ⟨fun _ => trivial, fun _ => .inl rfl⟩
 rw [eta] at r2
 refine ⟨r2, ?_⟩
 obtain ⟨β0, h0⟩ := ht
 have hold : ∀ n o, n ≠ nm → C1 (hset st.heap nm (.tree e t xs q)) n = some o → C1 st.heap n = some o := fun n o hne hg => by rwa [C3, if_neg hne] at hg
 have hmine : ∀ b, K.mine b → (K.plus nm g off ns β).mine b := fun b hb => ⟨.inl hb.1, fun ho => hb.2.1 ho.1, .inl hb.2.2⟩
 have ay : ∀ b, Blk (K.plus nm g off ns β) (fun n => if n = nm then β else β0 n) nm b → b ∈ g :: ns := fun b hb => by
  rcases hb with hb | ⟨i, f, p, hb⟩
  ·rw [eta] at hb; rw [hb]; exact List.mem_cons_self
  ·simp only [if_true] at hb
   exact List.mem_cons_of_mem _ ((hns b).2 ⟨i, f, p, hb⟩)
 have av : ∀ n, n ≠ nm → ∀ b, Blk (K.plus nm g off ns β) (fun n => if n = nm then β else β0 n) n b → Blk K β0 n b := fun n hne b hb => by
  unfold Blk at hb ⊢
  simpa [Keep.plus, hne] using hb
 refine ⟨fun n => if n = nm then β else β0 n, fun n e' t' xs' q' hg => ?_, fun n e' t' xs' q' hg hq hth => ?_, fun n n' o o' hne hg hg' he he' hth hth' b hb hb' => ?_, fun n o i f e' t' m hg => ?_⟩
 rotate_left
 ·by_cases en : n = nm
  ·subst en
   rw [eta]
   simp [Keep.plus]
  ·have hg1 := hold n _ en hg
   have hth1 : K.th n := hth.resolve_left en
   have hk : K.k (K.ta n).1 := (((h0.tr n _ _ _ _ hg1).2 hth1).2 _ (.inl rfl)).1
   have hne : (K.ta n).1 ≠ g := fun e => (hf g List.mem_cons_self).2.2.1 (e ▸ hk)
   have := h0.fx n _ _ _ _ hg1 hq hth1
   simpa [Keep.plus, en, hne] using this
 rotate_right
 ·by_cases en : n = nm
  ·subst en
   rw [C3, if_pos rfl] at hg
   cases hg
   refine ⟨.inl (.inl rfl), fun _ => ⟨?_, fun b hb => ⟨.inr (ay b hb), fun ho => ho.2 (ay b hb), .inr (ay b hb)⟩⟩⟩
   rw [eta]
   simpa using hT
  ·obtain ⟨p1, p2⟩ := h0.tr n e' t' xs' q' (hold n _ en hg)
   refine ⟨p1.imp .inr id, fun hth => ?_⟩
   obtain ⟨q1, q2⟩ := p2 (hth.resolve_left en)
   refine ⟨?_, fun b hb => hmine b (q2 b (av n en b hb))⟩
   simpa [Keep.plus, en] using q1
 ·have oldM : ∀ n o, n ≠ nm → C1 (hset st.heap nm (.tree e t xs q)) n = some o → (∃ e t xs q, o = .tree e t xs q) → (K.plus nm g off ns β).th n → ∀ b, Blk (K.plus nm g off ns β) (fun n => if n = nm then β else β0 n) n b → K.mine b := fun n o en hg he hth b hb => by
   obtain ⟨e1, t1, x1, q1, rfl⟩ := he
   exact ((h0.tr n _ _ _ _ (hold n _ en hg)).2 (hth.resolve_left en)).2 b (av n en b hb)
  by_cases en : n = nm
  ·subst en
   have hne' : n' ≠ n := fun z => hne z.symm
   exact (hf b (ay b hb)).2.2.1 (oldM n' o' hne' hg' he' hth' b hb').1
  ·by_cases en' : n' = nm
   ·subst en'
    exact (hf b (ay b hb')).2.2.1 (oldM n o en hg he hth b hb).1
   ·exact h0.ap n n' o o' hne (hold n _ en hg) (hold n' _ en' hg') he he' (hth.resolve_left en) (hth'.resolve_left en') b (av n en b hb) (av n' en' b hb')
 ·have en : n ≠ nm := fun z => by
   subst z
   rw [C3, if_pos rfl] at hg
   cases hg
  obtain ⟨e2, t2, xs2, q2, h1, hq⟩ := h0.bo n o i f e' t' m (hold n _ en hg)
  have eo : o ≠ nm := G8 hn (by rw [h1]; rfl)
  refine ⟨e2, t2, xs2, q2, by rw [C3, if_neg eo]; exact h1, fun eq => ?_⟩
  obtain ⟨h2, h3, h4, h5⟩ := hq eq
  refine ⟨.inr h2, h3, fun hth => ?_, h5⟩
  have := h4 (hth.resolve_left en)
  simpa [Keep.plus, eo, en] using this
def Keep.plus0 (K : Keep) (nm : Nat) : Keep := { k := K.k, o := K.o, p := K.p, ta := fun n => if n = nm then (0, 0) else K.ta n, th := fun n => n ≠ nm ∧ K.th n, b0 := K.b0 }
theorem RelE.newTree0 (h : RelE E st saved a S w w K) (ht : TF st.heap w K) {nm : Nat} (hn : C1 st.heap nm = none) (e : TypeId) (t : Ty) (q : Nat) :
  RelE (E.at nm (0, 0) False) ⟨st.tmps, hset st.heap nm (.tree e t [] q)⟩ saved a S w w (K.plus0 nm) ∧ TF (hset st.heap nm (.tree e t [] q)) w (K.plus0 nm) := by
 have r1 : RelE E st saved a S w w (K.plus0 nm) := h.rebase (fun b hb => (h.kp b hb).1) (fun n hl hh => (h.dk n hl hh).2) h.oz (fun n o hg ho => by
  have hne : n ≠ nm := G8 hn (by rw [hg]; rfl)
  obtain ⟨p1, p2⟩ := h.ta n o hg ho
  exact ⟨p1.trans ⟨fun z => ⟨hne, z⟩, fun z => z.2⟩, by rw [p2]; simp [Keep.plus0, hne]⟩)
 have eta : (K.plus0 nm).ta nm = (0, 0) := by simp [Keep.plus0]
 have r2 := r1.nameT hn False (.tree e t [] q) rfl (fun f => f.elim) ⟨fun z => absurd rfl z.1, fun f => f.elim⟩
 rw [eta] at r2
 refine ⟨r2, ?_⟩
 obtain ⟨β0, h0⟩ := ht
 have hold : ∀ n o, n ≠ nm → C1 (Vm.hset st.heap nm (.tree e t [] q)) n = some o → C1 st.heap n = some o := fun n o hne hg => by rwa [C3, if_neg hne] at hg
 have av : ∀ n, n ≠ nm → ∀ b, Blk (K.plus0 nm) β0 n b → Blk K β0 n b := fun n hne b hb => by
  unfold Blk at hb ⊢
  simpa [Keep.plus0, hne] using hb
 refine ⟨β0, fun n e' t' xs' q' hg => ?_, fun n e' t' xs' q' hg hq hth => ?_, fun n n' o o' hne hg hg' he he' hth hth' b hb hb' => ?_, fun n o i f e' t' m hg => ?_⟩
 rotate_left
 ·have := h0.fx n _ _ _ _ (hold n _ hth.1 hg) hq hth.2
  simpa [Keep.plus0, hth.1] using this
 rotate_right
 ·by_cases en : n = nm
  ·subst en
   rw [C3, if_pos rfl] at hg
   cases hg
   exact ⟨.inr rfl, fun z => absurd rfl z.1⟩
  ·obtain ⟨p1, p2⟩ := h0.tr n e' t' xs' q' (hold n _ en hg)
   refine ⟨p1.imp (fun z => ⟨en, z⟩) id, fun hth => ?_⟩
   obtain ⟨q1, q2⟩ := p2 hth.2
   exact ⟨by simpa [Keep.plus0, en] using q1, fun b hb => q2 b (av n en b hb)⟩
 ·exact h0.ap n n' o o' hne (hold n _ hth.1 hg) (hold n' _ hth'.1 hg') he he' hth.2 hth'.2 b (av n hth.1 b hb) (av n' hth'.1 b hb')
 ·have en : n ≠ nm := fun z => by
   subst z
   rw [C3, if_pos rfl] at hg
   cases hg
  obtain ⟨e2, t2, xs2, q2, h1, hq⟩ := h0.bo n o i f e' t' m (hold n _ en hg)
  have eo : o ≠ nm := G8 hn (by rw [h1]; rfl)
  refine ⟨e2, t2, xs2, q2, by rw [C3, if_neg eo]; exact h1, fun eq => ?_⟩
  obtain ⟨h2, h3, h4, h5⟩ := hq eq
  refine ⟨⟨eo, h2⟩, h3, fun hth => ?_, h5⟩
  have := h4 hth.2
  simpa [Keep.plus0, en] using this
def RelX (E : Env) (st : St) (saved : List (Nat × List VV)) (a : Act) (S : List (Array Value)) (w w0 : World) (K : Keep) : Prop :=
 ∃ w1 K1, Dv w0 K w1 K1 ∧ TF st.heap w1 K1 ∧ RelE E st saved a S w w1 K1
theorem RelX.put (h : RelX E st saved a S w w0 K) (d : Option Tmp) {v : VV} {V : Value} (hv : VRel E st.heap w v V) : RelX E (A07 st d v) saved (a.put d V) S w w0 K := by
 obtain ⟨w1, K1, h1, h2, h3⟩ := h
 refine ⟨w1, K1, h1, ?_, h3.put d hv⟩
 cases d <;> exact h2
theorem RelX.tm (h : RelX E st saved a S w w0 K) : All2 (VRel E st.heap w) st.tmps a.tmps.toList := by
 obtain ⟨w1, K1, h1, h2, h3⟩ := h
 exact h3.tm
theorem RelX.tmp (h : RelX E st saved a S w w0 K) (t : Nat) : VRel E st.heap w (b8 st.tmps t) (a.eval (.tmp t)) := by
 obtain ⟨w1, K1, h1, h2, h3⟩ := h
 exact h3.tmp t
end
end Go.Vm
end
section
namespace Go.Vm
open Go
def Bn7 (ok : Nat → Prop) (w : World) (t : Ty) (x : El t) (v : Value) : Prop :=
 ∃ cs, Imm ok w t x cs ∧ ((t.agg = true ∧ v = .agg cs.toArray) ∨ (t.agg = false ∧ cs = [v]))
def Fe8 (ok : Nat → Prop) : Env := ⟨fun _ => (0, 0), fun _ => False, ok⟩
def RcRel (ok : Nat → Prop) (w : World) : RC → Value → List Nat → Prop
 | .c c, v, bs => bs = [] ∧ CellRel (Fe8 ok) [] w c v
 | .own e t xs, v, bs => ∃ A c, v = .slice A xs.length c ∧ xs.length ≤ c ∧
   ((c = 0 ∧ bs = []) ∨ ∃ g off, A = some ⟨g, off, none⟩ ∧ bs = [g] ∧ RowAt ok w g off t xs ∧ NoFrz t w g ∧ Room w g (off + c * t.sz))
 | .tree e t xs, v, bs => ∃ A c, v = .slice A xs.length c ∧ xs.length ≤ c ∧
   ((c = 0 ∧ bs = []) ∨ ∃ g off ns β, A = some ⟨g, off, none⟩ ∧ bs = g :: ns ∧ (∀ b, b ∈ ns ↔ ∃ i f p, β i f = some (b, p)) ∧ TreeAt w g off t β xs ∧ Room w g (off + c * t.sz))
inductive RcsRel (ok : Nat → Prop) (w : World) : List RC → List Value → List Nat → Prop where
 | nil : RcsRel ok w [] [] []
 | cons {rc rs v vs bs bs'} : RcRel ok w rc v bs → RcsRel ok w rs vs bs' → RcsRel ok w (rc :: rs) (v :: vs) (bs ++ bs')
inductive ResRel (ok : Nat → Prop) (w : World) : List (Bool × List RC) → List Value → List Nat → Prop where
 | nil : ResRel ok w [] [] []
 | cons {a rs vs V bs r Vs bs'} : RcsRel ok w rs vs bs → ((a = true ∧ V = .agg vs.toArray) ∨ (a = false ∧ vs = [V])) → ResRel ok w r Vs bs' → ResRel ok w ((a, rs) :: r) (V :: Vs) (bs ++ bs')
def Dd2 : List Value → Value
 | [V] => V
 | Vs => .tuple Vs.toArray
structure Ret (ok : Nat → Prop) (w w' : World) (out : List (Bool × List RC)) (V : Value) : Prop where
 os : w'.os = w.os
 tape : w'.tape = w.tape
 put : w'.output = w.output
 size : w.heap.size ≤ w'.heap.size
 same : ∀ b, b < w.heap.size → w'.heap[b]? = w.heap[b]?
 res : ∃ (good : Nat → Prop) (Vs : List Value) (bs : List Nat), (∀ b, good b → w.heap.size ≤ b ∧ b < w'.heap.size) ∧ ResRel (fun b => ok b ∨ good b) w' out Vs bs ∧ bs.Nodup ∧
  (∀ b ∈ bs, w.heap.size ≤ b ∧ b < w'.heap.size ∧ ¬ good b) ∧ V = Dd2 Vs
def Ds6 (P : Program) (f : FuncId) (ok : Nat → Prop) (w : World) : Spec → List Value → Prop
 | .imm t k, pre => ∀ x v, Bn7 ok w t x v → Ds6 P f ok w (k x) (pre ++ [v])
 | .body o out, pre => ∀ a, o = some a → Calls P f pre.toArray w fun e w' => ∃ V, e = .returned V ∧ Ret ok w w' (out a) V
def A09 (P : Program) (f : FuncId) (s : Spec) : Prop := ∀ ok w, (∀ b, ok b → b < w.heap.size) → Ek7 w → Ds6 P f ok w s []
def okN (E : Env) (ns : List Nat) (b : Nat) : Prop := E.ok b ∨ ∃ n ∈ ns, E.has n ∧ b = (E.ρ n).1
def RowNames (h : F8) (ns : List Nat) : Prop := ∀ n ∈ ns, (∃ e t xs own, C1 h n = some (.row e t xs own)) ∨ ∃ e t xs q, C1 h n = some (.tree e t xs q)
def okR (E : Env) (h : F8) (ns : List Nat) (b : Nat) : Prop := E.ok b ∨ ∃ n ∈ ns, (∃ e t xs own, C1 h n = some (.row e t xs own)) ∧ E.has n ∧ b = (E.ρ n).1
def okX (E : Env) (K : Keep) (h : F8) (ns : List Nat) (b : Nat) : Prop := okR E h ns b ∨ ((∃ n ∈ ns, ∃ e t xs q, C1 h n = some (.tree e t xs q)) ∧ K.mine b)
theorem Ha2 {E : Env} {h : F8} {ns ms : List Nat} (b : Nat) (p : okR E h ns b) : okR E h (ns ++ ms) b := p.imp id fun ⟨n, hn, q⟩ => ⟨n, List.mem_append.2 (.inl hn), q⟩
theorem Gy4 {E : Env} {h : F8} {ns ms : List Nat} (b : Nat) (p : okR E h ms b) : okR E h (ns ++ ms) b := p.imp id fun ⟨n, hn, q⟩ => ⟨n, List.mem_append.2 (.inr hn), q⟩
theorem Cx9 {E : Env} {K : Keep} {h : F8} {ns ms : List Nat} (b : Nat) (p : okX E K h ns b) : okX E K h (ns ++ ms) b :=
 p.imp (Ha2 b) fun ⟨⟨n, hn, q⟩, r⟩ => ⟨⟨n, List.mem_append.2 (.inl hn), q⟩, r⟩
theorem Ck0 {E : Env} {K : Keep} {h : F8} {ns ms : List Nat} (b : Nat) (p : okX E K h ms b) : okX E K h (ns ++ ms) b :=
 p.imp (Gy4 b) fun ⟨⟨n, hn, q⟩, r⟩ => ⟨⟨n, List.mem_append.2 (.inr hn), q⟩, r⟩
theorem RowNames.append {h : F8} {ns ms : List Nat} (p : RowNames h ns) (q : RowNames h ms) : RowNames h (ns ++ ms) := fun n hn => by
 rcases List.mem_append.1 hn with hn | hn
 ·exact p n hn
 ·exact q n hn
section
variable {st : St} {R : Type} {Kk : List Upd → VV → List Loc → Option R} {l : List Loc} {r : R}
theorem Ds7 {e : TypeId} {t : Ty} {c : Cell} {k : List (El t) → RP} (aa : (Bx2 e t c k).run st Kk l = some r) :
  ∃ ys l', (k ys).run st Kk l' = some r ∧ (∀ n ∈ Cm8 c, ∃ e t xs own, C1 st.heap n = some (.row e t xs own)) ∧ ∀ {E saved a S w w0 K v}, RelE E st saved a S w w0 K → CellRel E st.heap w c v →
   Imm (okN E (Cm8 c)) w (.slice e t) ys [v] := by
 unfold Bx2 at aa
 cases c with
 | nilS => exact ⟨[], l, aa, (fun n hn => by cases hn), fun {E saved a S w w0 K v} h hc => ⟨none, 0, by simp only [CellRel] at hc; rw [hc]; rfl, Nat.le_refl _, fun h => absurd rfl h⟩⟩
 | slc e' t' xs =>
  simp only at aa
  cases hb : Nat.beq e e' with
  | false => rw [hb] at aa; cases aa
  | true =>
   rw [hb] at aa
   simp only [cond_true] at aa
   cases hy : H3 t' t xs with
   | none => rw [hy] at aa; cases aa
   | some ys =>
    rw [hy] at aa
    obtain ⟨e1, rfl⟩ := H6 hy
    subst e1
    exact ⟨xs, l, aa, (fun n hn => by cases hn), fun {E saved a S w w0 K v} h hc => Imm.mono (fun b hb => .inl hb) (fun _ _ => rfl) hc⟩
 | row o lo hi =>
  simp only [RP.run] at aa
  cases hg : C1 st.heap o with
  | none => rw [hg] at aa; cases aa
  | some b =>
   rw [hg] at aa
   cases b with
   | row e' t' xs own =>
    simp only at aa
    cases hb : Nat.beq e e' with
    | false => rw [hb] at aa; cases aa
    | true =>
     rw [hb] at aa
     simp only [cond_true] at aa
     cases hy : H3 t' t xs with
     | none => rw [hy] at aa; cases aa
     | some ys =>
      rw [hy] at aa
      obtain ⟨e1, rfl⟩ := H6 hy
      subst e1
      refine ⟨cut lo hi xs, _, aa, (fun n hn => ?_), fun {E saved a S w w0 K v} h hc => ?_⟩
      ·simp only [Cm8, List.mem_singleton] at hn
       subst hn
       exact ⟨_, _, _, _, hg⟩
      ·exact Er4 h hg hc (fun b hb => .inl hb) (fun hh => .inr ⟨o, List.mem_singleton.2 rfl, hh, rfl⟩) e
   | _ => cases aa
 | _ => cases aa
theorem Fe9 {e : TypeId} {t : Ty} {c : Cell} {k : List (El t) → RP} (aa : (Eq4 e t c k).run st Kk l = some r) :
  ∃ ys l', (k ys).run st Kk l' = some r ∧ RowNames st.heap (Cm8 c) ∧ ∀ {E saved a S w w0 K v}, RelE E st saved a S w w0 K → TF st.heap w K → CellRel E st.heap w c v →
   Imm (okX E K st.heap (Cm8 c)) w (.slice e t) ys [v] := by
 have plain : ∀ {l}, (Bx2 e t c k).run st Kk l = some r → ∃ ys l', (k ys).run st Kk l' = some r ∧ RowNames st.heap (Cm8 c) ∧ ∀ {E saved a S w w0 K v}, RelE E st saved a S w w0 K → TF st.heap w K → CellRel E st.heap w c v →
   Imm (okX E K st.heap (Cm8 c)) w (.slice e t) ys [v] := fun h => by
  obtain ⟨ys, l', h1, h2, h3⟩ := Ds7 h
  exact ⟨ys, l', h1, fun n hn => .inl (h2 n hn), fun {E saved a S w w0 K v} hr _ hc => (h3 hr hc).mono (fun b hb => .inl (hb.imp id fun ⟨n, hn, q⟩ => ⟨n, hn, h2 n hn, q⟩)) (fun _ _ => rfl)⟩
 unfold Eq4 at aa
 split at aa
 ·rename_i o lo hi
  simp only [RP.run] at aa
  split at aa
  ·rename_i e' t' xs q hg
   cases hb : Nat.beq e e' with
   | false => rw [hb] at aa; cases aa
   | true =>
    rw [hb] at aa
    simp only [cond_true] at aa
    cases hy : H3 t' t xs with
    | none => rw [hy] at aa; cases aa
    | some ys =>
     rw [hy] at aa
     obtain ⟨e1, rfl⟩ := H6 hy
     subst e1
     refine ⟨cut lo hi xs, _, aa, (fun n hn => ?_), fun {E saved a S w w0 K v} h ht hc => ?_⟩
     ·simp only [Cm8, List.mem_singleton] at hn
      subst hn
      exact .inr ⟨_, _, _, _, hg⟩
     ·obtain ⟨β, hβ⟩ := ht
      obtain ⟨p1, p2⟩ := hβ.tr o _ _ _ _ hg
      have hs : hsh st.heap o = some (.row e' t' xs.length) := by simp [hsh, hg, I5]
      simp only [CellRel, hs] at hc
      obtain ⟨af, A, c, rfl, hle, hx⟩ := hc
      have hcl := e7 af hle
      have ab := Bx8 af
      refine ⟨A, c, by rw [ab], by rw [ab]; exact hcl, fun hne => ?_⟩
      rcases hx with rfl | ⟨hh, rfl, hR⟩
      ·exact absurd (List.length_eq_zero_iff.1 (by rw [ab]; omega)) hne
      ·have hth : K.th o := p1.resolve_right fun e0 => hne (by subst e0; cases lo <;> cases hi <;> simp [cut])
       obtain ⟨q1, q2⟩ := p2 hth
       obtain ⟨g1, g2⟩ := h.ta o _ hg rfl
       have hany : ∃ n ∈ Cm8 (.row o lo hi), ∃ e t xs q, C1 st.heap n = some (.tree e t xs q) := ⟨o, List.mem_singleton.2 rfl, _, _, _, _, hg⟩
       refine ⟨_, _, rfl, .inr ⟨hany, by rw [g2]; exact q2 _ (.inl rfl)⟩, fun i hi' => ?_⟩
       obtain ⟨hi2, ecut⟩ := Cx6 hi' af
       rw [ecut]
       obtain ⟨ds, d1, d2⟩ := q1.row (Q2 lo + i) hi2
       refine ⟨ds, d1.imm fun f b p hp => .inr ⟨hany, q2 b (.inr ⟨_, _, _, hp⟩)⟩, fun j hj => ?_⟩
       rw [← d2 j hj, g2, Nat.add_mul]
       congr 2
       omega
  ·exact plain aa
 ·exact plain aa
theorem Ct2 : ∀ (t : Ty) (cs : List Cell) (k : El t → List Cell → List Nat → RP) (l : List Loc), (D89 t cs k).run st Kk l = some r →
  ∃ x rest ns l', (k x rest ns).run st Kk l' = some r ∧ RowNames st.heap ns ∧ ∀ {E saved a S w w0 K vs}, RelE E st saved a S w w0 K → TF st.heap w K → All2 (CellRel E st.heap w) cs vs →
   ∃ v1 v2, vs = v1 ++ v2 ∧ Imm (okX E K st.heap ns) w t x v1 ∧ All2 (CellRel E st.heap w) rest v2 := by
 intro t
 induction t with
 | nil =>
  intro cs k l h
  exact ⟨(), cs, [], l, h, (fun n hn => by cases hn), fun {E saved a S w w0 K vs} hr ht hv => ⟨[], vs, rfl, rfl, hv⟩⟩
 | fld p q ihp ihq =>
  intro cs k l h
  simp only [D89] at h
  obtain ⟨x, rest, ns, l1, h1, hn, hx⟩ := ihp _ _ _ h
  obtain ⟨y, rest', ms, l2, h2, hm, hy⟩ := ihq _ _ _ h1
  refine ⟨(x, y), rest', ns ++ ms, l2, h2, hn.append hm, fun {E saved a S w w0 K vs} hr ht hv => ?_⟩
  obtain ⟨v1, v2, rfl, hi, hv2⟩ := hx hr ht hv
  obtain ⟨v3, v4, rfl, hi', hv4⟩ := hy hr ht hv2
  exact ⟨v1 ++ v3, v4, by rw [List.append_assoc], ⟨v1, v3, rfl, hi.mono (fun b hb => Cx9 b hb) (fun _ _ => rfl), hi'.mono (fun b hb => Ck0 b hb) (fun _ _ => rfl)⟩, hv4⟩
 | int i =>
  intro cs k l h
  cases cs with
  | nil => cases h
  | cons c cs => cases c with
   | int j m =>
    simp only [D89] at h
    by_cases e : i = j
    ·subst e
     simp only [decide_true, cond_true] at h
     refine ⟨m, cs, [], l, h, (fun n hn => by cases hn), fun {E saved a S w w0 K vs} hr ht hv => ?_⟩
     cases hv with
     | @cons _ v _ vs' h1 h2 =>
      have : v = .int i m := h1
      subst this
      exact ⟨[_], vs', rfl, rfl, h2⟩
    ·simp [e, RP.run] at h
   | _ => cases h
 | bool =>
  intro cs k l h
  cases cs with
  | nil => cases h
  | cons c cs => cases c with
   | bool b =>
    refine ⟨b, cs, [], l, h, (fun n hn => by cases hn), fun {E saved a S w w0 K vs} hr ht hv => ?_⟩
    cases hv with
    | @cons _ v _ vs' h1 h2 =>
     have : v = .bool b := h1
     subst this
     exact ⟨[_], vs', rfl, rfl, h2⟩
   | _ => cases h
 | str =>
  intro cs k l h
  cases cs with
  | nil => cases h
  | cons c cs => cases c with
   | str s =>
    refine ⟨s, cs, [], l, h, (fun n hn => by cases hn), fun {E saved a S w w0 K vs} hr ht hv => ?_⟩
    cases hv with
    | @cons _ v _ vs' h1 h2 =>
     have : v = .string s := h1
     subst this
     exact ⟨[_], vs', rfl, rfl, h2⟩
   | _ => cases h
 | slice e t _ =>
  intro cs k l h
  cases cs with
  | nil => cases h
  | cons c cs =>
   simp only [D89] at h
   obtain ⟨ys, l1, h1, hn, hy⟩ := Fe9 h
   refine ⟨ys, cs, _, l1, h1, hn, fun {E saved a S w w0 K vs} hr ht hv => ?_⟩
   cases hv with
   | @cons _ v _ vs' h2 h3 => exact ⟨[v], vs', rfl, hy hr ht h2, h3⟩
variable {P : Program} {f : FuncId}
theorem Ff0 {nm : Nat → Nat} : ∀ (s : Spec) (vs : List V1) (ns : List Nat) (l : List Loc), (Ej3 nm s vs ns).run st Kk l = some r → RowNames st.heap ns →
  ∃ out ms l', (Bs1 (N6 nm 0 out).2 (bif Ae1 out then Bx4 (B93 (ns ++ ms)) fun u => z7 (u ++ (N6 nm 0 out).2) (Aa1 (N6 nm 0 out).1)
   else z7 (N6 nm 0 out).2 (Aa1 (N6 nm 0 out).1))).run st Kk l' = some r ∧ RowNames st.heap (ns ++ ms) ∧
   ∀ {E saved a S w w0 K ok Vs pre}, RelE E st saved a S w w0 K → TF st.heap w K → (∀ b, okX E K st.heap ms b → ok b) → All2 (V1Rel E st.heap w) vs Vs → Ds6 P f ok w s pre →
    Calls P f (pre ++ Vs).toArray w fun e w' => ∃ V, e = .returned V ∧ Ret ok w w' out V := by
 intro s
 induction s with
 | body o out =>
  intro vs ns l h hns
  cases vs with
  | nil =>
   simp only [Ej3] at h
   cases o with
   | none => cases h
   | some a =>
    refine ⟨out a, [], l, by rw [List.append_nil]; exact h, by rw [List.append_nil]; exact hns, fun {E saved a' S w w0 K ok Vs pre} hr ht hok hv hs => ?_⟩
    cases hv
    rw [List.append_nil]
    exact hs a rfl
  | cons v vs => cases h
 | imm t k ih =>
  intro vs ns l h hns
  cases vs with
  | nil => cases h
  | cons v vs =>
   simp only [Ej3] at h
   cases hag : (bif v.agg then t.agg else !t.agg) with
   | false => rw [hag] at h; cases h
   | true =>
    rw [hag] at h
    simp only [cond_true] at h
    obtain ⟨x, rest, ms, l1, h1, hms, hx⟩ := Ct2 _ _ _ _ h
    cases rest with
    | cons _ _ => cases h1
    | nil =>
     obtain ⟨out, ms', l2, h2, hms', aw⟩ := ih x vs (ns ++ ms) l1 h1 (hns.append hms)
     refine ⟨out, ms ++ ms', l2, by rw [← List.append_assoc]; exact h2, by rw [← List.append_assoc]; exact hms', fun {E saved a' S w w0 K ok Vs pre} hr ht hok hv hs => ?_⟩
     cases hv with
     | @cons _ V _ Vs' p q =>
      have harg : Bn7 ok w t x V := by
       obtain ⟨us, hus, hV⟩ := p
       obtain ⟨v1, v2, e1, hi, hv2⟩ := hx hr ht hus
       cases hv2
       rw [List.append_nil] at e1
       subst e1
       refine ⟨us, hi.mono (fun b hb => hok b (Cx9 b hb)) (fun _ _ => rfl), ?_⟩
       rcases hV with ⟨h1, h2⟩ | ⟨h1, h2⟩
       ·rw [h1] at hag; exact .inl ⟨hag, h2⟩
       ·rw [h1] at hag; exact .inr ⟨by simpa using hag, h2⟩
      have := aw hr ht (fun b hb => hok b (Ck0 b hb)) q (hs x V harg)
      rwa [List.append_assoc] at this
end
end Go.Vm
end
section
namespace Go.Vm
open Go
inductive MD where
 | box (g p : Nat)
 | row (g off c : Nat)
 | tree (g off c : Nat) (ns : List Nat) (β : Nat → Nat → Option (Nat × Nat))
 | nil
def MD.blk : MD → List Nat
 | .box g _ => [g]
 | .row g _ _ => [g]
 | .tree g _ _ ns _ => g :: ns
 | .nil => []
def Ha3 (w : World) (g p : Nat) (vs : List Value) : Prop := ∀ j v, vs[j]? = some v → w.cell? ⟨g, p + j, none⟩ = some v ∧ w.frozen? ⟨g, p + j, none⟩ = false
inductive PostOk (ok : Nat → Prop) (w : World) : List MD → List Po → Prop where
 | nil : PostOk ok w [] []
 | box {g p t y ms ps vs} : Imm ok w t y vs → Ha3 w g p vs → PostOk ok w ms ps → PostOk ok w (.box g p :: ms) (.box t y :: ps)
 | row {g off c t ys ms ps} : RowAt ok w g off t ys → NoFrz t w g → PostOk ok w ms ps → PostOk ok w (.row g off c :: ms) (.row t ys :: ps)
 | tree {g off c ns β t ys ms ps} : TreeAt w g off t β ys → PostOk ok w ms ps → PostOk ok w (.tree g off c ns β :: ms) (.tree t ys :: ps)
 | noneT {t ys ms ps} : PostOk ok w ms ps → PostOk ok w (.nil :: ms) (.tree t ys :: ps)
 | gone {m ms ps} : PostOk ok w ms ps → PostOk ok w (m :: ms) (.gone :: ps)
 | none {t ys ms ps} : PostOk ok w ms ps → PostOk ok w (.nil :: ms) (.row t ys :: ps)
def A72 : List MD → List Po → List Nat
 | m :: ms, .gone :: ps => m.blk ++ A72 ms ps
 | _ :: ms, _ :: ps => A72 ms ps
 | _, _ => []
structure RetM (ok : Nat → Prop) (w w' : World) (out : List (Bool × List RC)) (V : Value) (ms : List MD) (ps : List Po) : Prop where
 os : w'.os = w.os
 tape : w'.tape = w.tape
 put : w'.output = w.output
 size : w.heap.size ≤ w'.heap.size
 same : ∀ b, b < w.heap.size → b ∉ ms.flatMap MD.blk → w'.heap[b]? = w.heap[b]?
 room : ∀ g m, Room w g m → Room w' g m
 res : ∃ (good : Nat → Prop) (Vs : List Value) (bs : List Nat), (∀ b, good b → w.heap.size ≤ b ∧ b < w'.heap.size) ∧ ResRel (fun b => ok b ∨ good b) w' out Vs bs ∧ bs.Nodup ∧
  (∀ b ∈ bs, (w.heap.size ≤ b ∧ b < w'.heap.size ∧ ¬ good b) ∨ b ∈ A72 ms ps) ∧ V = Dd2 Vs ∧ PostOk (fun b => ok b ∨ good b) w' ms ps
def MOk (P : Program) (f : FuncId) (ok : Nat → Prop) (w : World) : MSpec → List Value → List MD → Prop
 | .imm t k, pre, ms => ∀ x v, Bn7 ok w t x v → MOk P f ok w (k x) (pre ++ [v]) ms
 | .box t k, pre, ms => ∀ x g p vs, Imm ok w t x vs → Ha3 w g p vs → g < w.heap.size → ¬ ok g → g ∉ ms.flatMap MD.blk → MOk P f ok w (k x) (pre ++ [.pointer (some ⟨g, p, none⟩)]) (ms ++ [.box g p])
 | .row e t k, pre, ms => (∀ A, MOk P f ok w (k []) (pre ++ [.slice A 0 0]) (ms ++ [.nil])) ∧
   ∀ xs g off c, xs.length ≤ c → 0 < c → RowAt ok w g off t xs → NoFrz t w g → Room w g (off + c * t.sz) → g < w.heap.size → ¬ ok g → g ∉ ms.flatMap MD.blk →
    MOk P f ok w (k xs) (pre ++ [.slice (some ⟨g, off, none⟩) xs.length c]) (ms ++ [.row g off c])
 | .tree e t k, pre, ms => (∀ A, MOk P f ok w (k []) (pre ++ [.slice A 0 0]) (ms ++ [.nil])) ∧
   ∀ xs g off c ns β, xs.length ≤ c → 0 < c → TreeAt w g off t β xs → (∀ b, b ∈ ns ↔ ∃ i f p, β i f = some (b, p)) → Room w g (off + c * t.sz) → (∀ b ∈ g :: ns, b < w.heap.size ∧ ¬ ok b ∧ b ∉ ms.flatMap MD.blk) →
    MOk P f ok w (k xs) (pre ++ [.slice (some ⟨g, off, none⟩) xs.length c]) (ms ++ [.tree g off c ns β])
 | .body o out post, pre, ms => (∀ g, F46 = some g → g ∉ ms.flatMap MD.blk) → ∀ a, o = some a → Calls P f pre.toArray w fun e w' => ∃ V, e = .returned V ∧ RetM ok w w' (out a) V ms (post a)
def An9 (P : Program) (f : FuncId) (s : MSpec) : Prop := ∀ ok w, (∀ b, ok b → b < w.heap.size) → Ek7 w → MOk P f ok w s [] []
end Go.Vm
end
section
namespace Go.Vm
open Go
theorem CellRel.closed {ok : Nat → Prop} {E : Env} {h : F8} {w : World} {c : Cell} {v : Value} (p : CellRel (Fe8 ok) [] w c v) (hok : ∀ b, ok b → E.ok b) : CellRel E h w c v := by
 cases c with
 | int => exact p
 | bool => exact p
 | str => exact p
 | nilS => exact p
 | slc e t xs => exact Imm.mono hok (fun _ _ => rfl) p
 | row o lo hi => simp [CellRel, hsh, C1] at p
 | ptr o f => obtain ⟨n, hs, _⟩ := p; simp [hsh, C1] at hs
 | eptr o i f => simp [CellRel, hsh, C1] at p
 | iptr t x f =>
  obtain ⟨g, off, ds, rfl, hg, hi, hj⟩ := p
  exact ⟨g, off, ds, rfl, hok g hg, hi.mono hok (fun _ _ => rfl), hj⟩
 | fn f l =>
  obtain ⟨vs, rfl, hl⟩ := p
  refine ⟨vs, rfl, ?_⟩
  generalize vs.toList = us at hl
  cases hl with
  | nil => exact .nil
  | cons q _ => obtain ⟨n, hs, _⟩ := q; simp [hsh, C1] at hs
 | mp o => obtain ⟨t, hs, _⟩ := p; simp [hsh, C1] at hs
theorem Ca1 {ok ok' : Nat → Prop} {w : World} : ∀ {t : Ty} {x : El t} {cs : List Value}, t.flat = true → Imm ok w t x cs → Imm ok' w t x cs
 | .int _, _, _, _, h => h
 | .bool, _, _, _, h => h
 | .str, _, _, _, h => h
 | .slice _ _, _, _, hf, _ => by cases hf
 | .nil, _, _, _, h => h
 | .fld a r, x, _, hf, h => by
  simp only [Ty.flat, Bool.and_eq_true] at hf
  obtain ⟨c1, c2, rfl, h1, h2⟩ := h
  exact ⟨c1, c2, rfl, Ca1 hf.1 h1, Ca1 hf.2 h2⟩
theorem RcRel.mono {ok ok' : Nat → Prop} {w : World} (hok : ∀ b, ok b → ok' b) {rc : RC} {v : Value} {bs : List Nat} (h : RcRel ok w rc v bs) : RcRel ok' w rc v bs := by
 cases rc with
 | c c => exact ⟨h.1, h.2.closed hok⟩
 | own e t xs =>
  obtain ⟨A, c, hv, hle, hx⟩ := h
  refine ⟨A, c, hv, hle, hx.imp id ?_⟩
  rintro ⟨g, off, h1, h2, h3, h4⟩
  exact ⟨g, off, h1, h2, h3.mono hok (fun _ _ => rfl) rfl, h4⟩
 | tree e t xs => exact h
theorem RcRel.flat {ok ok' : Nat → Prop} {w : World} {rc : RC} (hs : rc.shared = false) {v : Value} {bs : List Nat} (h : RcRel ok w rc v bs) : RcRel ok' w rc v bs := by
 cases rc with
 | c c =>
  refine ⟨h.1, ?_⟩
  have h2 := h.2
  cases c with
  | slc => cases hs
  | iptr => cases hs
  | int => exact h2
  | bool => exact h2
  | str => exact h2
  | nilS => exact h2
  | row o lo hi => simp [CellRel, hsh, C1] at h2
  | ptr o f => obtain ⟨n, hs, _⟩ := h2; simp [hsh, C1] at hs
  | eptr o i f => simp [CellRel, hsh, C1] at h2
  | fn f l => exact h2
  | mp o => obtain ⟨t, hs, _⟩ := h2; simp [hsh, C1] at hs
 | own e t xs =>
  obtain ⟨A, c, hv, hle, hx⟩ := h
  refine ⟨A, c, hv, hle, hx.imp id ?_⟩
  rintro ⟨g, off, h1, h2, h3, h4⟩
  refine ⟨g, off, h1, h2, fun i hi => ?_, h4⟩
  obtain ⟨ds, hd, hj⟩ := h3 i hi
  exact ⟨ds, Ca1 (by simpa [RC.shared] using hs) hd, hj⟩
 | tree e t xs => exact h
theorem RcsRel.imp {ok ok' : Nat → Prop} {w : World} {rs : List RC} {vs : List Value} {bs : List Nat} (h : RcsRel ok w rs vs bs) (k : ∀ rc ∈ rs, ∀ v bs, RcRel ok w rc v bs → RcRel ok' w rc v bs) : RcsRel ok' w rs vs bs := by
 induction h with
 | nil => exact .nil
 | cons p _ ih => exact .cons (k _ List.mem_cons_self _ _ p) (ih fun rc hrc => k rc (List.mem_cons_of_mem _ hrc))
theorem ResRel.imp {ok ok' : Nat → Prop} {w : World} {out : List (Bool × List RC)} {vs : List Value} {bs : List Nat} (h : ResRel ok w out vs bs) (k : ∀ x ∈ out, ∀ rc ∈ x.2, ∀ v bs, RcRel ok w rc v bs → RcRel ok' w rc v bs) : ResRel ok' w out vs bs := by
 induction h with
 | nil => exact .nil
 | cons p q _ ih => exact .cons (p.imp (k _ List.mem_cons_self)) q (ih fun x hx => k x (List.mem_cons_of_mem _ hx))
theorem HLe.trans {h h' h'' : F8} (p : HLe h h') (q : HLe h' h'') : HLe h h'' := by
 intro n s hs
 rcases p n s hs with h1 | ⟨h1, h2⟩
 ·exact q n s h1
 ·rcases q n _ h2 with h3 | ⟨⟨e, t, m, h3⟩, _⟩
  ·exact .inr ⟨h1, h3⟩
  ·cases h3
theorem HLe.isSome {h h' : F8} (p : HLe h h') {n : Nat} (hs : (C1 h n).isSome = true) : (C1 h' n).isSome = true := by
 obtain ⟨o, ho⟩ := Option.isSome_iff_exists.1 hs
 have : hsh h n = some (I5 o) := by simp [hsh, ho]
 rcases p n _ this with h1 | ⟨_, h1⟩ <;> exact k8 h1
theorem Step.trans {E E' E'' : Env} {h h' h'' : F8} {w w' w'' : World} (p : Step E E' h h' w w') (q : Step E' E'' h' h'' w' w'') : Step E E'' h h'' w w'' :=
 ⟨fun n hs => (q.ρ n (p.hle.isSome hs)).trans (p.ρ n hs), fun n hs => (q.has n (p.hle.isSome hs)).trans (p.has n hs), fun b hb => q.ok b (p.ok b hb),
  fun b hb => (q.same b (p.ok b hb)).trans (p.same b hb), fun g m hr => q.room g m (p.room g m hr), p.hle.trans q.hle⟩
theorem Step.refl (E : Env) (h : F8) (w : World) : Step E E h h w w := ⟨fun _ _ => rfl, fun _ _ => Iff.rfl, fun _ h => h, fun _ _ => rfl, fun _ _ h => h, HLe.refl h⟩
section
variable {E : Env} {st : St} {saved : List (Nat × List VV)} {a : Act} {S : List (Array Value)} {w w' w0 : World} {K : Keep}
theorem RelE.after (h : RelE E st saved a S w w0 K) (hsz : w.heap.size ≤ w'.heap.size) (hs : ∀ b, b < w.heap.size → w'.heap[b]? = w.heap[b]?) (ho : w'.os = w.os) (ht : w'.tape = w.tape) (hu : w'.output = w.output)
  (good : Nat → Prop) (hg : ∀ b, good b → w.heap.size ≤ b ∧ b < w'.heap.size) : RelE ⟨E.ρ, E.has, fun b => E.ok b ∨ good b⟩ st saved a S w' w0 K := by
 have k : Step E ⟨E.ρ, E.has, fun b => E.ok b ∨ good b⟩ st.heap st.heap w w' := ⟨fun _ _ => rfl, fun _ _ => Iff.rfl, fun _ h => .inl h, fun b hb => hs b (h.bo b hb), fun g m hr => hr.of_same (hs g hr.lt), HLe.refl _⟩
 refine ⟨M3 k h.tm, h.df, h.sv.mono fun _ _ q => M3 k q, fun n o hn => (h.ob n o hn).step k (by rw [hn]; rfl) (fun h => h) (fun hh => hs _ (h.bd n (by rw [hn]; rfl) hh)), h.dj, ?_, ?_, ?_, ?_, ho.trans h.os, ht.trans h.tape, hu.trans h.out, Nat.le_trans h.size hsz, ?_, fun g m hr => k.room g m (h.rm g m hr), h.ta⟩
 ·intro n hl hh
  obtain ⟨h1, h2⟩ := h.dk n hl hh
  refine ⟨fun hk => hk.elim h1 fun hk => ?_, h2⟩
  have h3 := (hg _ hk).1
  have h4 := h.bd n (U3 hl) hh
  exact absurd h4 (Nat.not_lt.2 h3)
 ·intro n hn hh
  exact Nat.lt_of_lt_of_le (h.bd n hn hh) hsz
 ·intro b hb
  rcases hb with hb | hb
  ·exact Nat.lt_of_lt_of_le (h.bo b hb) hsz
  ·exact (hg b hb).2
 ·intro b hb
  obtain ⟨h1, h2⟩ := h.kp b hb
  exact ⟨Nat.lt_of_lt_of_le h1 hsz, (hs b h1).trans h2⟩
 ·intro b hb hk
  rcases hb with hb | hb
  ·exact h.oz b hb hk
  ·exact absurd (h.kp b hk).1 (Nat.not_lt.2 (hg b hb).1)
theorem Free.named {h : F8} {nm b : Nat} {p : Nat × Nat} {q : Prop} {ob : Obj} (hf : Free E h K w b) (hb : q → p.1 ≠ b) : Free (E.at nm p q) (hset h nm ob) K w b := by
 obtain ⟨f1, f2, f3, f4⟩ := hf
 refine ⟨fun n hl hh => ?_, f2, f3, f4⟩
 by_cases e : n = nm
 ·subst e
  have hq : q := by simpa [Env.at] using hh
  simpa [Env.at] using hb hq
 ·have hl' : F5 h n := by
   unfold F5 at hl ⊢
   rwa [C3, if_neg e] at hl
  have hh' : E.has n := by simpa [Env.at, e] using hh
  simpa [Env.at, e] using f1 n hl' hh'
def Grow (K K' : Keep) : Prop := (∀ b, K.k b → K'.k b) ∧ (∀ b, K'.o b → K.o b) ∧ (∀ b, K.k b → K'.p b → K.p b) ∧ ∀ b, K.k b → K'.b0 b = K.b0 b
theorem Grow.refl (K : Keep) : Grow K K := ⟨fun _ h => h, fun _ h => h, fun _ _ h => h, fun _ _ => rfl⟩
theorem Grow.trans {K K' K'' : Keep} (p : Grow K K') (q : Grow K' K'') : Grow K K'' := ⟨fun b h => q.1 b (p.1 b h), fun b h => p.2.1 b (q.2.1 b h), fun b h k => p.2.2.1 b h (q.2.2.1 b (p.1 b h) k), fun b h => (q.2.2.2 b (p.1 b h)).trans (p.2.2.2 b h)⟩
theorem Ff1 {ok : Nat → Prop} {nm : Nat → Nat} : ∀ (rs : List RC) (j : Nat) {E : Env} {K : Keep} {st : St} {vs : List Value} {bs : List Nat}, RelE E st saved a S w w K → TF st.heap w K →
  (∀ n ∈ (d9 nm j rs).2.1.map Upd.name, C1 st.heap n = none) → G5 ((d9 nm j rs).2.1.map Upd.name) = true → RcsRel ok w rs vs bs → (∀ b, ok b → E.ok b) → bs.Nodup → (∀ b ∈ bs, Free E st.heap K w b) →
  ∃ E' K', RelE E' (st.upds (d9 nm j rs).2.1) saved a S w w K' ∧ TF (st.upds (d9 nm j rs).2.1).heap w K' ∧ Grow K K' ∧ All2 (CellRel E' (st.upds (d9 nm j rs).2.1).heap w) (d9 nm j rs).1 vs ∧ Step E E' st.heap (st.upds (d9 nm j rs).2.1).heap w w ∧ E'.ok = E.ok ∧
   ∀ g, g ∉ bs → Free E st.heap K w g → Free E' (st.upds (d9 nm j rs).2.1).heap K' w g := by
 intro rs
 induction rs with
 | nil =>
  intro j E K st vs bs h ht hn hd hr hok hb hf
  cases hr
  exact ⟨E, K, h, ht, .refl K, .nil, Step.refl _ _ _, rfl, fun g _ hg => hg⟩
 | cons rc rs ih =>
  intro j E K st vs bs h ht hn hd hr hok hb hf
  cases hr with
  | @cons _ _ v vs b1 b2 p q =>
  cases rc with
  | c c =>
   obtain ⟨rfl, p⟩ := p
   obtain ⟨E', K', h1, ht', hg, h2, h3, h4, h5⟩ := ih j h ht hn hd q hok hb hf
   exact ⟨E', K', h1, ht', hg, .cons (p.closed fun b hb => by rw [h4]; exact hok b hb) h2, h3, h4, h5⟩
  | own e t xs =>
   obtain ⟨A, c, rfl, hle, hx⟩ := p
   simp only [d9, List.map_cons, Upd.name] at hn hd
   obtain ⟨hd1, hd2⟩ := Q6 hd
   have hfr : C1 st.heap (nm j) = none := hn _ List.mem_cons_self
   have hnd := List.nodup_append.1 hb
   have ao : hsh (hset st.heap (nm j) (.row e t xs true)) (nm j) = some (.row e t xs.length) := by rw [K6, if_pos rfl]; rfl
   have key : ∀ (pr : Nat × Nat) (bq : Prop), (bq → Free E st.heap K w pr.1) → ObjRel (E.at (nm j) pr bq) (hset st.heap (nm j) (.row e t xs true)) w (nm j) (.row e t xs true) → (bq → pr.1 ∈ b1) →
     CellRel (E.at (nm j) pr bq) (hset st.heap (nm j) (.row e t xs true)) w (.row (nm j) none none) (.slice A xs.length c) →
     ∃ E' K', RelE E' (st.upds (d9 nm j (.own e t xs :: rs)).2.1) saved a S w w K' ∧ TF (st.upds (d9 nm j (.own e t xs :: rs)).2.1).heap w K' ∧ Grow K K' ∧ All2 (CellRel E' (st.upds (d9 nm j (.own e t xs :: rs)).2.1).heap w) (d9 nm j (.own e t xs :: rs)).1 (.slice A xs.length c :: vs) ∧
      Step E E' st.heap (st.upds (d9 nm j (.own e t xs :: rs)).2.1).heap w w ∧ E'.ok = E.ok ∧ ∀ g, g ∉ b1 ++ b2 → Free E st.heap K w g → Free E' (st.upds (d9 nm j (.own e t xs :: rs)).2.1).heap K' w g := by
    intro pr bq ar hob ba ac
    have h1 := h.named hfr pr bq _ ar hob
    have hst := Aj7 (E := E) (w := w) hfr pr bq (.row e t xs true)
    obtain ⟨E', K', k1, kt, kg, k2, k3, k4, k5⟩ := ih (j + 1) (st := ⟨st.tmps, hset st.heap (nm j) (.row e t xs true)⟩) h1 (ht.hset hfr rfl) (fun n hn' => by
      rw [C3, if_neg (show ¬ n = nm j from fun e1 => hd1 (by rw [← e1]; exact hn'))]
      exact hn n (List.mem_cons_of_mem _ hn')) hd2 q hok hnd.2.1 (fun b hb' => (hf b (List.mem_append.2 (.inr hb'))).named fun hq e => hnd.2.2 _ (ba hq) b hb' e)
    exact ⟨E', K', k1, kt, kg, .cons (ac.step k3) k2, hst.trans k3, k4, fun g hg hfg => k5 g (fun hg' => hg (List.mem_append.2 (.inr hg'))) (hfg.named fun hq e => hg (List.mem_append.2 (.inl (e ▸ ba hq))))⟩
   rcases hx with ⟨rfl, rfl⟩ | ⟨g, off, rfl, rfl, ai, hnf, hR⟩
   ·have hx0 : xs = [] := List.length_eq_zero_iff.1 (by omega)
    subst hx0
    refine key (0, 0) False (fun f => f.elim) ⟨.inr rfl, fun hh => ?_⟩ (fun f => f.elim) ?_
    ·simp [Env.at] at hh
    ·simp only [CellRel, ao]
     exact ⟨trivial, A, 0, rfl, by simp [Q2], .inl rfl⟩
   ·have e1 : (E.at (nm j) (g, off) True).ρ (nm j) = (g, off) := by simp [Env.at]
    refine key (g, off) True (fun _ => hf g (List.mem_append.2 (.inl (List.mem_singleton.2 rfl)))) ⟨.inl (by simp [Env.at]), fun _ => ⟨?_, fun _ => ?_, fun e => by cases e⟩⟩ (fun _ => List.mem_singleton.2 rfl) ?_
    ·rw [e1]; exact ai.mono hok (fun _ _ => rfl) rfl
    ·rw [e1]; exact hnf
    ·simp only [CellRel, ao]
     refine ⟨trivial, some ⟨g, off, none⟩, c, by simp [F9], by simpa [Q2] using hle, .inr ⟨by simp [Env.at], by simp [Env.at, Q2], ?_⟩⟩
     rw [e1]
     simpa [Q2] using hR
  | tree e t xs =>
   obtain ⟨A, c, rfl, hle, hx⟩ := p
   simp only [d9, List.map_cons, Upd.name] at hn hd
   obtain ⟨hd1, hd2⟩ := Q6 hd
   have hfr : C1 st.heap (nm j) = none := hn _ List.mem_cons_self
   have hnd := List.nodup_append.1 hb
   have ao : hsh (hset st.heap (nm j) (.tree e t xs 0)) (nm j) = some (.row e t xs.length) := by rw [K6, if_pos rfl]; rfl
   have next : ∀ (E1 : Env) (K1 : Keep), RelE E1 ⟨st.tmps, hset st.heap (nm j) (.tree e t xs 0)⟩ saved a S w w K1 → TF (hset st.heap (nm j) (.tree e t xs 0)) w K1 → Grow K K1 → Step E E1 st.heap (hset st.heap (nm j) (.tree e t xs 0)) w w → E1.ok = E.ok →
     CellRel E1 (hset st.heap (nm j) (.tree e t xs 0)) w (.row (nm j) none none) (.slice A xs.length c) → (∀ b, b ∉ b1 → Free E st.heap K w b → Free E1 (hset st.heap (nm j) (.tree e t xs 0)) K1 w b) →
     ∃ E' K', RelE E' (st.upds (d9 nm j (.tree e t xs :: rs)).2.1) saved a S w w K' ∧ TF (st.upds (d9 nm j (.tree e t xs :: rs)).2.1).heap w K' ∧ Grow K K' ∧ All2 (CellRel E' (st.upds (d9 nm j (.tree e t xs :: rs)).2.1).heap w) (d9 nm j (.tree e t xs :: rs)).1 (.slice A xs.length c :: vs) ∧
      Step E E' st.heap (st.upds (d9 nm j (.tree e t xs :: rs)).2.1).heap w w ∧ E'.ok = E.ok ∧ ∀ g, g ∉ b1 ++ b2 → Free E st.heap K w g → Free E' (st.upds (d9 nm j (.tree e t xs :: rs)).2.1).heap K' w g := by
    intro E1 K1 h1 t1 g1 s1 o1 c1 f1
    obtain ⟨E', K', k1, kt, kg, k2, k3, k4, k5⟩ := ih (j + 1) (st := ⟨st.tmps, hset st.heap (nm j) (.tree e t xs 0)⟩) h1 t1 (fun n hn' => by
      rw [C3, if_neg (show ¬ n = nm j from fun e1 => hd1 (by rw [← e1]; exact hn'))]
      exact hn n (List.mem_cons_of_mem _ hn')) hd2 q (fun b hb => by rw [o1]; exact hok b hb) hnd.2.1 (fun b hb' => f1 b (fun hm => hnd.2.2 b hm b hb' rfl) (hf b (List.mem_append.2 (.inr hb'))))
    exact ⟨E', K', k1, kt, g1.trans kg, .cons (c1.step k3) k2, s1.trans k3, k4.trans o1, fun g hg hfg => k5 g (fun hg' => hg (List.mem_append.2 (.inr hg'))) (f1 g (fun hm => hg (List.mem_append.2 (.inl hm))) hfg)⟩
   have free1 : ∀ (pr : Nat × Nat) (bq : Prop) (b : Nat), (bq → pr.1 ≠ b) → Free E st.heap K w b → Free (E.at (nm j) pr bq) (hset st.heap (nm j) (.tree e t xs 0)) K w b := fun pr bq b hb hfb => hfb.named hb
   rcases hx with ⟨rfl, rfl⟩ | ⟨g, off, ns, β, rfl, rfl, hns, hT, hR⟩
   ·have hx0 : xs = [] := List.length_eq_zero_iff.1 (by omega)
    subst hx0
    obtain ⟨r1, t1⟩ := h.newTree0 ht hfr e t 0
    refine next _ _ r1 t1 ⟨fun b hb => hb, fun b hb => hb, fun b _ hb => hb, fun _ _ => rfl⟩ (Aj7 hfr (0, 0) False _) rfl ?_ (fun b _ hfb => free1 (0, 0) False b (fun f => f.elim) hfb)
    simp only [CellRel, ao]
    exact ⟨trivial, A, 0, rfl, by simp [Q2], .inl rfl⟩
   ·have ar : ∀ b ∈ g :: ns, Free E st.heap K w b := fun b hb' => hf b (List.mem_append.2 (.inl hb'))
    obtain ⟨r1, t1⟩ := h.newTree ht hfr e 0 ar hns hT
    refine next _ _ r1 t1 ⟨fun b hb => .inl hb, fun b hb => hb.1, fun b hk hb => hb.resolve_right fun hm => (ar b hm).2.2.1 hk, fun b hk => by
     have hne : b ≠ g := fun e => (ar g List.mem_cons_self).2.2.1 (e ▸ hk)
     simp [Keep.plus, hne]⟩ (Aj7 hfr (g, off) True _) rfl ?_ (fun b hb' hfb => ?_)
    ·simp only [CellRel, ao]
     refine ⟨trivial, some ⟨g, off, none⟩, c, by simp [F9], by simpa [Q2] using hle, .inr ⟨by simp [Env.at], by simp [Env.at, Q2], ?_⟩⟩
     have e1 : (E.at (nm j) (g, off) True).ρ (nm j) = (g, off) := by simp [Env.at]
     rw [e1]
     simpa [Q2] using hR
    ·obtain ⟨f1, f2, f3, f4⟩ := free1 (g, off) True b (fun _ e => hb' (by rw [← e]; exact List.mem_cons_self)) hfb
     exact ⟨f1, f2, fun hk => hk.elim f3 hb', f4⟩
theorem Cy0 {ok : Nat → Prop} {nm : Nat → Nat} : ∀ (out : List (Bool × List RC)) (j : Nat) {E : Env} {K : Keep} {st : St} {Vs : List Value} {bs : List Nat}, RelE E st saved a S w w K → TF st.heap w K →
  (∀ n ∈ (N6 nm j out).2.map Upd.name, C1 st.heap n = none) → G5 ((N6 nm j out).2.map Upd.name) = true → ResRel ok w out Vs bs → (∀ b, ok b → E.ok b) → bs.Nodup → (∀ b ∈ bs, Free E st.heap K w b) →
  ∃ E' K', RelE E' (st.upds (N6 nm j out).2) saved a S w w K' ∧ TF (st.upds (N6 nm j out).2).heap w K' ∧ Grow K K' ∧ All2 (V1Rel E' (st.upds (N6 nm j out).2).heap w) (N6 nm j out).1 Vs ∧ Step E E' st.heap (st.upds (N6 nm j out).2).heap w w := by
 intro out
 induction out with
 | nil =>
  intro j E K st Vs bs h ht hn hd hr hok hb hf
  cases hr
  exact ⟨E, K, h, ht, .refl K, .nil, Step.refl _ _ _⟩
 | cons x out ih =>
  intro j E K st Vs bs h ht hn hd hr hok hb hf
  obtain ⟨ag, rs⟩ := x
  cases hr with
  | @cons _ _ vs V b1 _ Vs b2 p hV q =>
  simp only [N6, List.map_append] at hn hd
  obtain ⟨hd1, hd2, hdj⟩ := I1 hd
  have hnd := List.nodup_append.1 hb
  obtain ⟨E1, K1, h1, ht1, hg1, h2, h3, h4, h5⟩ := Ff1 rs j h ht (fun n hn' => hn n (List.mem_append.2 (.inl hn'))) hd1 p hok hnd.1 (fun b hb' => hf b (List.mem_append.2 (.inl hb')))
  obtain ⟨E2, K2, k1, kt, kg, k2, k3⟩ := ih (d9 nm j rs).2.2 h1 ht1 (fun n hn' => by
   rw [J6 _ _ _ (fun hm => hdj n hm hn')]
   exact hn n (List.mem_append.2 (.inr hn'))) hd2 q (fun b hb' => by rw [h4]; exact hok b hb') hnd.2.1 (fun b hb' => h5 b (fun hb1 => hnd.2.2 b hb1 b hb' rfl) (hf b (List.mem_append.2 (.inr hb'))))
  refine ⟨E2, K2, ?_, ?_, hg1.trans kg, ?_, ?_⟩
  ·simp only [N6, N7]; exact k1
  ·simp only [N6, N7]; exact kt
  ·simp only [N6, N7]
   exact .cons ⟨vs, h2.mono fun _ _ r => r.step k3, hV⟩ k2
  ·simp only [N6, N7]; exact h3.trans k3
theorem Ct3 {h : F8} {vs : List V1} {Vs : List Value} (k : All2 (V1Rel E h w) vs Vs) : VRel E h w (Aa1 vs) (Dd2 Vs) := by
 cases k with
 | nil => exact ⟨[], .nil, rfl⟩
 | cons p q => cases q with
  | nil => exact p
  | cons p' q' => exact ⟨_, .cons p (.cons p' q'), rfl⟩
variable {R : Type} {Kk : List Upd → VV → List Loc → Option R} {l : List Loc} {r : R}
theorem By1 : ∀ (us : List Upd) (k : RP) (l : List Loc), (Bs1 us k).run st Kk l = some r → (∀ n ∈ us.map Upd.name, C1 st.heap n = none) ∧ ∃ l', k.run st Kk l' = some r
 | [], k, l, h => ⟨(fun n hn => by cases hn), l, h⟩
 | u :: us, k, l, h => by
  obtain ⟨h1, l1, h2⟩ := f8 h
  obtain ⟨h3, l2, h4⟩ := By1 us k l1 h2
  refine ⟨fun n hn => ?_, l2, h4⟩
  cases hn with
  | head => exact h1
  | tail _ hn => exact h3 n hn
theorem Ca2 : ∀ (ns : List Nat) (k : List Upd → RP) (l : List Loc), (Bx4 ns k).run st Kk l = some r → ∃ u l', (k u).run st Kk l' = some r ∧ FrzOk st.heap u ∧ u.map Upd.name = ns
 | [], k, l, h => ⟨[], l, h, (fun x hx => by cases hx), rfl⟩
 | n :: ns, k, l, h => by
  simp only [Bx4, RP.run] at h
  split at h
  ·rename_i e t xs own hg
   obtain ⟨u, l', h1, h2, h3⟩ := Ca2 ns _ _ h
   refine ⟨_, l', h1, fun x hx => ?_, by rw [List.map_cons, h3]; rfl⟩
   cases hx with
   | head => exact ⟨n, e, t, xs, own, rfl, hg⟩
   | tail _ hx => exact h2 x hx
  ·cases h
theorem Bs8 : ∀ (ns : List Nat) (n : Nat), n ∈ ns → n ∈ B93 ns
 | [], n, h => by cases h
 | m :: ns, n, h => by
  simp only [B93]
  cases hb : ns.any (Nat.beq m) with
  | true =>
   rw [cond_true]
   cases h with
   | head =>
    obtain ⟨b, hb1, hb2⟩ := List.any_eq_true.1 hb
    rw [Nat.eq_of_beq_eq_true hb2]
    exact Bs8 ns b hb1
   | tail _ h => exact Bs8 ns n h
  | false =>
   rw [cond_false]
   cases h with
   | head => exact List.mem_cons_self
   | tail _ h => exact List.mem_cons_of_mem _ (Bs8 ns n h)
structure Ok (P : Program) (cfg : Cfg) : Prop extends Good P cfg where
 enter : ∀ f, ((look cfg.spec f).isSome = true ∨ (look cfg.inl f).isSome = true) → ∀ args w, (callFunc f args).run P w = .ok (.enter f args) w
 spec : ∀ f s, look cfg.spec f = some s → A09 P f s
 enterM : ∀ f, (look cfg.mspec f).isSome = true → ∀ args w, (callFunc f args).run P w = .ok (.enter f args) w
 mspec : ∀ f s, look cfg.mspec f = some s → An9 P f s
theorem C81 {P : Program} {o : Oper} {c : Call} {f : FuncId} {ρ : Operand → Value} {w : World} (ho : o.op = .call c) {g : Operand} (hc : c.callee = .value g) {cap : Array Value} (hg : ρ g = .func (.func f) #[] cap)
  (he : ∀ args w, (callFunc f args).run P w = .ok (.enter f args) w) : (execOp ρ o).run P w = .ok (.enter f (c.args.map ρ ++ cap)) w := by
 simp [execOp, ho, resolve, hc, hg, Deferred.ofValue, invoke, he]
def Hu1 (P : Program) (o : Oper) (a : Act) (w : World) (st' : St) (v : VV) (saved : List (Nat × List VV)) (S : List (Array Value)) (w0 : World) (K : Keep) : Prop :=
 ∀ (Q : Exit → Act → World → Prop) (next : Act → World → Prop), (∀ a' w' E', RelX E' (A07 st' o.dst v) saved a' S w' w0 K → next a' w') → o.wp P a w next Q
def GoesX (P : Program) (o : Oper) (a : Act) (w : World) (st : St) (saved : List (Nat × List VV)) (S : List (Array Value)) (w0 : World) (K : Keep)
  {R : Type} (Kk : List Upd → VV → List Loc → Option R) (r : R) : Prop :=
 ∃ u v l', Kk u v l' = some r ∧ Hu1 P o a w (st.upds u) v saved S w0 K
theorem Grow.dr {w : World} {K K' : Keep} (h : Grow K K') : Dr w K w K' := ⟨rfl, rfl, rfl, Nat.le_refl _, fun b hb => ⟨h.1 b hb, fun _ => rfl⟩, fun b _ ho => h.2.1 b ho, h.2.2.1, fun _ _ h => h, h.2.2.2⟩
theorem TF.frzs : ∀ (u : List Upd) {st : St}, TF st.heap w K → FrzOk st.heap u → G5 (u.map Upd.name) = true → TF (st.upds u).heap w K
 | [], _, h, _, _ => h
 | x :: u, st, h, hf, hd => by
  obtain ⟨o, e, t, xs, own, rfl, hg⟩ := hf x List.mem_cons_self
  simp only [List.map_cons, Upd.name] at hd
  obtain ⟨h1, h2⟩ := Q6 hd
  refine TF.frzs u (st := st.upd (.o o (.row e t xs false))) ?_ (fun y hy => ?_) h2
  ·obtain ⟨β, hβ⟩ := h
   have old := fun n ob => An7 (h := st.heap) (nm := o) (ob := .row e t xs false) rfl n ob
   refine ⟨β, fun n e t xs q hg => hβ.tr n e t xs q (old n _ hg rfl), fun n e t xs q hg => hβ.fx n e t xs q (old n _ hg rfl), fun n n' o o' hne hg hg' he he' => ?_, fun n o' i f e t m hg' => ?_⟩
   ·obtain ⟨e, t, xs, q, rfl⟩ := he
    obtain ⟨e', t', xs', q', rfl⟩ := he'
    exact hβ.ap n n' _ _ hne (old n _ hg rfl) (old n' _ hg' rfl) ⟨_, _, _, _, rfl⟩ ⟨_, _, _, _, rfl⟩
   ·obtain ⟨e2, t2, xs2, q2, k1, k2⟩ := hβ.bo n o' i f e t m (old n _ hg' rfl)
    refine ⟨e2, t2, xs2, q2, ?_, k2⟩
    show C1 (Vm.hset st.heap o _) o' = _
    rw [C3, if_neg (fun e => by rw [e, hg] at k1; cases k1)]
    exact k1
  ·obtain ⟨o', e', t', xs', own', rfl, hg'⟩ := hf y (List.mem_cons_of_mem _ hy)
   refine ⟨o', e', t', xs', own', rfl, ?_⟩
   show C1 (Vm.hset st.heap o _) o' = _
   rw [C3, if_neg (fun e => h1 (by rw [← e]; exact List.mem_map.2 ⟨_, hy, rfl⟩))]
   exact hg'
theorem Hu2 {P : Program} {cfg : Cfg} {o : Oper} (hG : Ok P cfg) (hX : RelX E st saved a S w w0 K) {c : Call} {f : FuncId} {nm : Nat → Nat} (ho : o.op = .call c) (hc : c.callee = .value (.func f))
  (aa : (z6 c.args.toList fun vs => match look cfg.spec f with
  | some s => Ej3 nm s vs []
  | none => .fail).run st Kk l = some r) : GoesX P o a w st saved S w0 K Kk r := by
 obtain ⟨wb, K1, hD, hT0, hB⟩ := hX
 have h := hB.rebase0
 have hT := hB.now hT0
 have hD := hD.trans hB.drift
 obtain ⟨vs, l1, h1, h2⟩ := Y5 _ _ _ aa
 have hv := h2 h
 cases hs : look cfg.spec f with
 | none => rw [hs] at h1; cases h1
 | some s =>
  rw [hs] at h1
  obtain ⟨out, ms, l2, h3, hms, aw⟩ := Ff0 s vs [] l1 h1 (fun n hn => by cases hn)
  rw [List.nil_append] at h3 hms
  have hlt : ∀ b, okX E K1 st.heap ms b → b < w.heap.size := by
   rintro b ((hb | ⟨n, hn, ⟨e, t, xs, own, hg⟩, hh, rfl⟩) | ⟨_, hm⟩)
   ·exact h.bo b hb
   ·exact h.bd n (by rw [hg]; rfl) hh
   ·exact (h.kp b hm.1).1
  have hC := aw h hT (fun b hb => hb) hv (hG.spec f s hs (okX E K1 st.heap ms) w hlt hD.err)
  rw [List.nil_append] at hC
  have hex := C81 (P := P) (w := w) (ρ := a.eval) ho hc (cap := #[]) rfl (hG.enter f (.inl (by rw [hs]; rfl)))
  have az : (c.args.toList.map a.eval).toArray = c.args.map a.eval ++ #[] := by
   apply Array.toList_inj.1; simp
  rw [az] at hC
  obtain ⟨hfr, l3, h4⟩ := By1 _ _ _ h3
  have fin : ∀ (u : List Upd) (l4 : List Loc), (z7 (u ++ (N6 nm 0 out).2) (Aa1 (N6 nm 0 out).1)).run st Kk l4 = some r → FrzOk st.heap u →
    (∀ (good : Nat → Prop) (w' : World) (Vs : List Value) (bs : List Nat), ResRel (fun b => okX E K1 st.heap ms b ∨ good b) w' out Vs bs → ResRel (fun b => okU E u b ∨ good b) w' out Vs bs) → GoesX P o a w st saved S w0 K Kk r := by
   intro u l4 h5 bb himp
   obtain ⟨hd, hK⟩ := Av4 h5
   rw [List.map_append] at hd
   obtain ⟨hd1, hd2, hdj⟩ := I1 hd
   refine ⟨_, _, _, hK, fun Q next hnx => ?_⟩
   unfold Oper.wp
   rw [hex, Oper.upon_enter]
   refine Calls.mono hC fun e w' hR => ?_
   obtain ⟨V, rfl, am⟩ := hR
   obtain ⟨good, Vs, bs, bc, al, hnd, hbs, rfl⟩ := am.res
   obtain ⟨E1, r1, e1, e2, e3⟩ := h.frzs u bb hd1
   have r2a := r1.after am.size am.same am.os am.tape am.put good bc
   have t2 := r2a.now (hT.frzs u bb hd1)
   have r2 := r2a.rebase0
   obtain ⟨E', K', r3, t3, g3', hV, _⟩ := Cy0 out 0 (ok := fun b => okU E u b ∨ good b) r2 t2 (fun n hn => by
    rw [J6 u st n (fun hm => hdj n hm hn)]
    exact hfr n hn) hd2 (himp _ _ _ _ al) (fun b hb => hb.imp (fun hb => (e3 b).1 hb) id) hnd (fun b hb => by
     obtain ⟨g1, g2, g3⟩ := hbs b hb
     refine ⟨fun n hl hh => ?_, ?_, fun hk => ?_, g2⟩
     ·have := r1.bd n (U3 hl) hh
      exact Nat.ne_of_lt (Nat.lt_of_lt_of_le this g1)
     ·rintro (hk | hk)
      ·exact absurd (r1.bo b hk) (Nat.not_lt.2 g1)
      ·exact g3 hk
     ·exact absurd (r1.kp b hk).1 (Nat.not_lt.2 g1))
   refine hnx _ _ E' ?_
   rw [N7]
   exact RelX.put ⟨w', K', (hD.trans r2a.drift).trans g3'.dr, t3, r3⟩ o.dst (Ct3 hV)
  cases hsh : Ae1 out with
  | true =>
   rw [hsh] at h4
   simp only [cond_true] at h4
   obtain ⟨u, l4, h5, bb, hnames⟩ := Ca2 _ _ _ h4
   refine fin u l4 h5 bb fun good w' Vs bs al => al.imp fun _ _ rc _ v bs hrc => hrc.mono fun b hb => hb.imp ?_ id
   have hin : ∀ n ∈ ms, ∃ ob, Upd.o n ob ∈ u := fun n hn => by
    have : n ∈ u.map Upd.name := by rw [hnames]; exact Bs8 ms n hn
    obtain ⟨x, hx, hxn⟩ := List.mem_map.1 this
    obtain ⟨n', ob⟩ := x
    have e : n' = n := hxn
    subst e
    exact ⟨ob, hx⟩
   rintro ((hb | ⟨n, hn, _, hh, rfl⟩) | ⟨⟨n, hn, e, t, xs, q, hg⟩, _⟩)
   ·exact .inl hb
   ·obtain ⟨ob, hx⟩ := hin n hn
    exact .inr ⟨n, ob, hx, hh, rfl⟩
   ·obtain ⟨ob, hx⟩ := hin n hn
    obtain ⟨o', e', t', xs', own', e1, hg'⟩ := bb _ hx
    cases e1
    rw [hg] at hg'; cases hg'
  | false =>
   rw [hsh] at h4
   simp only [cond_false] at h4
   refine fin [] l3 h4 (fun x hx => by cases hx) fun good w' Vs bs al => al.imp fun x hx rc hrc v bs hr => hr.flat ?_
   unfold Ae1 at hsh
   have h6 := List.any_eq_false.1 hsh x hx
   have h7 : x.2.any RC.shared = false := by simpa using h6
   have := List.any_eq_false.1 h7 rc hrc
   simpa using this
end
end Go.Vm
end
section
namespace Go.Vm
open Go
section
variable {E : Env} {st : St} {saved : List (Nat × List VV)} {a : Act} {S : List (Array Value)} {w w' w0 : World} {K : Keep}
theorem Ah0 : ∀ (u : List Upd) (s : St) (n : Nat) (ob : Obj), G5 (u.map Upd.name) = true → Upd.o n ob ∈ u → C1 (s.upds u).heap n = some ob
 | [], s, n, ob, _, h => by cases h
 | .o m o :: u, s, n, ob, hd, h => by
  simp only [List.map_cons, Upd.name] at hd
  obtain ⟨h1, h2⟩ := Q6 hd
  show C1 ((s.upd (.o m o)).upds u).heap n = _
  cases h with
  | head =>
   rw [J6 u _ _ h1]
   show C1 (hset s.heap _ _) _ = _
   rw [C3, if_pos rfl]
  | tail _ h => exact Ah0 u _ n ob h2 h
theorem Bj9 {u : List Upd} {n : Nat} (h : n ∈ u.map Upd.name) : ∃ ob, Upd.o n ob ∈ u := by
 obtain ⟨x, hx, e⟩ := List.mem_map.1 h
 obtain ⟨m, ob⟩ := x
 have e2 : m = n := e
 subst e2
 exact ⟨ob, hx⟩
theorem RelE.afterM (h : RelE E st saved a S w w0 K) (us : List Upd) (C : Nat → Prop) (hd : G5 (us.map Upd.name) = true)
  (hus : ∀ n ob', Upd.o n ob' ∈ us → ∃ ob, C1 st.heap n = some ob ∧ I5 ob' = I5 ob ∧ F5 st.heap n) (hnt : ∀ n ob', Upd.o n ob' ∈ us → ob'.tr = false)
  (hC : ∀ n, F5 st.heap n → E.has n → C (E.ρ n).1 → n ∈ us.map Upd.name) (hCk : ∀ b, C b → ¬ E.ok b ∧ ¬ K b)
  (hsz : w.heap.size ≤ w'.heap.size) (hs : ∀ b, b < w.heap.size → ¬ C b → w'.heap[b]? = w.heap[b]?) (hroom : ∀ g m, Room w g m → Room w' g m)
  (ho : w'.os = w.os) (ht : w'.tape = w.tape) (hu : w'.output = w.output) (good : Nat → Prop) (hg : ∀ b, good b → w.heap.size ≤ b ∧ b < w'.heap.size)
  (obs : ∀ n ob', Upd.o n ob' ∈ us → ∀ {h'}, Step E ⟨E.ρ, E.has, fun b => E.ok b ∨ good b⟩ st.heap h' w w' → ObjRel ⟨E.ρ, E.has, fun b => E.ok b ∨ good b⟩ h' w' n ob') :
  RelE ⟨E.ρ, E.has, fun b => E.ok b ∨ good b⟩ (st.upds us) saved a S w' w0 K := by
 have hget' : ∀ n, n ∉ us.map Upd.name → C1 (st.upds us).heap n = C1 st.heap n := fun n hn => J6 us st n hn
 have k : Step E ⟨E.ρ, E.has, fun b => E.ok b ∨ good b⟩ st.heap (st.upds us).heap w w' := by
  refine ⟨fun _ _ => rfl, fun _ _ => Iff.rfl, fun _ h => .inl h, fun b hb => hs b (h.bo b hb) (fun hc => (hCk b hc).1 hb), hroom, fun m s hm => .inl ?_⟩
  by_cases e : m ∈ us.map Upd.name
  ·obtain ⟨ob', hob⟩ := Bj9 e
   obtain ⟨ob, h1, h2, _⟩ := hus m ob' hob
   simp only [hsh, Ah0 us st m ob' hd hob, Option.map_some]
   simp only [hsh, h1, Option.map_some] at hm
   rw [h2]; exact hm
  ·simp only [hsh, hget' m e]; exact hm
 have ad : ∀ m, F5 (st.upds us).heap m → F5 st.heap m := by
  intro m hm
  by_cases e : m ∈ us.map Upd.name
  ·obtain ⟨ob', hob⟩ := Bj9 e
   exact (hus m ob' hob).elim fun _ h => h.2.2
  ·unfold F5 at hm ⊢
   rwa [hget' m e] at hm
 refine ⟨?_, h.df, h.sv.mono fun _ _ q => M3 k q, ?_, ?_, ?_, ?_, ?_, ?_, ho.trans h.os, ht.trans h.tape, hu.trans h.out, Nat.le_trans h.size hsz, ?_, fun g m hr => k.room g m (h.rm g m hr), h.trees k fun n o hn ho' => ?_⟩
 rotate_right
 ·by_cases e : n ∈ us.map Upd.name
  ·obtain ⟨ob', hob⟩ := Bj9 e
   rw [Ah0 us st n ob' hd hob] at hn
   cases hn
   rw [hnt n _ hob] at ho'; cases ho'
  ·rwa [hget' n e] at hn
 ·rw [Bb4]; exact M3 k h.tm
 ·intro m o hm
  by_cases e : m ∈ us.map Upd.name
  ·obtain ⟨ob', hob⟩ := Bj9 e
   rw [Ah0 us st m ob' hd hob] at hm
   cases hm
   exact obs m o hob k
  ·rw [hget' m e] at hm
   have hq := h.ob m o hm
   by_cases hdead : o = .dead
   ·subst hdead; trivial
   by_cases htr : o.tr = true
   ·cases o <;> first | trivial | cases htr
   refine hq.step k (by rw [hm]; rfl) (fun h => h) (fun hh => hs _ (h.bd m (by rw [hm]; rfl) hh) (fun hc => ?_))
   cases o with
   | dead => exact absurd rfl hdead
   | tree => exact absurd rfl htr
   | bor => exact absurd rfl htr
   | box cs => exact e (hC m (by unfold F5; rw [hm]; trivial) hh hc)
   | row e' t xs own => cases own with
    | true => exact e (hC m (by unfold F5; rw [hm]; trivial) hh hc)
    | false => exact (hCk _ hc).1 ((hq.2 hh).2.2 rfl)
   | mp t xs => exact e (hC m (by unfold F5; rw [hm]; trivial) hh hc)
 ·intro m m' hne hl hl' hh hh'
  exact h.dj m m' hne (ad m hl) (ad m' hl') hh hh'
 ·intro n hl hh
  obtain ⟨h1, h2⟩ := h.dk n (ad n hl) hh
  refine ⟨fun hk => hk.elim h1 fun hk => ?_, h2⟩
  have h3 := (hg _ hk).1
  have h4 := h.bd n (U3 (ad n hl)) hh
  exact absurd h4 (Nat.not_lt.2 h3)
 ·intro n hn hh
  refine Nat.lt_of_lt_of_le (h.bd n ?_ hh) hsz
  by_cases e : n ∈ us.map Upd.name
  ·obtain ⟨ob', hob⟩ := Bj9 e
   obtain ⟨ob, h1, _⟩ := hus n ob' hob
   rw [h1]; rfl
  ·rwa [hget' n e] at hn
 ·intro b hb
  rcases hb with hb | hb
  ·exact Nat.lt_of_lt_of_le (h.bo b hb) hsz
  ·exact (hg b hb).2
 ·intro b hb
  obtain ⟨h1, h2⟩ := h.kp b hb
  exact ⟨Nat.lt_of_lt_of_le h1 hsz, (hs b h1 (fun hc => (hCk b hc).2 hb)).trans h2⟩
 ·intro b hb hk
  rcases hb with hb | hb
  ·exact h.oz b hb hk
  ·exact absurd (h.kp b hk).1 (Nat.not_lt.2 (hg b hb).1)
theorem RelE.kills : ∀ (us : List Upd) {st : St}, RelE E st saved a S w w0 K → G5 (us.map Upd.name) = true → (∀ x ∈ us, ∃ n e t xs own, x = .o n .dead ∧ C1 st.heap n = some (.row e t xs own)) → RelE E (st.upds us) saved a S w w0 K
 | [], st, h, _, _ => h
 | x :: us, st, h, hd, hu => by
  obtain ⟨n, e, t, xs, own, rfl, hg⟩ := hu _ List.mem_cons_self
  simp only [List.map_cons, Upd.name] at hd
  obtain ⟨h1, h2⟩ := Q6 hd
  refine RelE.kills us (h.kill hg) h2 fun y hy => ?_
  obtain ⟨m, e', t', xs', own', rfl, hm⟩ := hu y (List.mem_cons_of_mem _ hy)
  refine ⟨m, e', t', xs', own', rfl, ?_⟩
  show C1 (hset st.heap n .dead) m = _
  rw [C3, if_neg (fun e => h1 (by rw [← e]; exact List.mem_map.2 ⟨_, hy, rfl⟩))]
  exact hm
inductive MRefs (E : Env) (h : F8) : List Mref → List MD → Prop where
 | nil : MRefs E h [] []
 | box {o t cs ms ds} : E.has o → C1 h o = some (.box cs) → cs.length = t.sz → MRefs E h ms ds → MRefs E h (.box o t :: ms) (.box (E.ρ o).1 (E.ρ o).2 :: ds)
 | row {o e t xs c ms ds} : E.has o → C1 h o = some (.row e t xs true) → MRefs E h ms ds → MRefs E h (.row o e t xs.length :: ms) (.row (E.ρ o).1 (E.ρ o).2 c :: ds)
 | rnil {o e t ms ds} : C1 h o = some (.row e t [] true) → MRefs E h ms ds → MRefs E h (.row o e t 0 :: ms) (.nil :: ds)
 | none {ms ds} : MRefs E h ms ds → MRefs E h (.none :: ms) (.nil :: ds)
theorem MRefs.append {h : F8} {ms ms2 : List Mref} {ds ds2 : List MD} (p : MRefs E h ms ds) (q : MRefs E h ms2 ds2) : MRefs E h (ms ++ ms2) (ds ++ ds2) := by
 induction p with
 | nil => exact q
 | box a b c _ ih => exact .box a b c ih
 | row a b _ ih => exact .row a b ih
 | rnil a _ ih => exact .rnil a ih
 | none _ ih => exact .none ih
theorem MRefs.blk {h : F8} {ms : List Mref} {ds : List MD} (p : MRefs E h ms ds) : ∀ b ∈ ds.flatMap MD.blk, ∃ o ∈ ms.flatMap Mref.names, E.has o ∧ F5 h o ∧ b = (E.ρ o).1 := by
 induction p with
 | nil => intro b hb; simp at hb
 | @box o t cs ms ds a b c _ ih =>
  intro x hx
  simp only [List.flatMap_cons, MD.blk, List.cons_append, List.nil_append, List.mem_cons] at hx
  rcases hx with rfl | hx
  ·exact ⟨o, by simp [Mref.names], a, by unfold F5; rw [b]; trivial, rfl⟩
  ·obtain ⟨o', h1, h2⟩ := ih x hx
   exact ⟨o', by simp only [List.flatMap_cons, List.mem_append]; exact .inr h1, h2⟩
 | @row o e t xs c ms ds a b _ ih =>
  intro x hx
  simp only [List.flatMap_cons, MD.blk, List.cons_append, List.nil_append, List.mem_cons] at hx
  rcases hx with rfl | hx
  ·exact ⟨o, by simp [Mref.names], a, by unfold F5; rw [b]; trivial, rfl⟩
  ·obtain ⟨o', h1, h2⟩ := ih x hx
   exact ⟨o', by simp only [List.flatMap_cons, List.mem_append]; exact .inr h1, h2⟩
 | rnil a _ ih =>
  intro x hx
  simp only [List.flatMap_cons, MD.blk, List.nil_append] at hx
  obtain ⟨o', h1, h2⟩ := ih x hx
  exact ⟨o', by simp only [List.flatMap_cons, List.mem_append]; exact .inr h1, h2⟩
 | none _ ih =>
  intro x hx
  simp only [List.flatMap_cons, MD.blk, List.nil_append] at hx
  obtain ⟨o', h1, h2⟩ := ih x hx
  exact ⟨o', by simp only [List.flatMap_cons, List.mem_append]; exact .inr h1, h2⟩
theorem Cy1 {l m : List Nat} (h : G5 (l ++ m) = true) {n : Nat} (hn : n ∈ m) : n ∉ l := fun hl => (I1 h).2.2 n hl hn
theorem Ek8 {l m : List Nat} (h : Gt3 l m = true) {n : Nat} (hn : n ∈ l) : n ∉ m := by
 intro hm
 have := List.all_eq_true.1 h n hn
 simp only [Bool.not_eq_true'] at this
 have h2 : m.any (Nat.beq n) = true := List.any_eq_true.2 ⟨n, hm, Nat.beq_refl n⟩
 rw [this] at h2; cases h2
variable {P : Program} {f : FuncId} {R : Type} {Kk : List Upd → VV → List Loc → Option R} {l : List Loc} {r : R}
theorem PostOk.mono {ok ok' : Nat → Prop} (hok : ∀ b, ok b → ok' b) {ds : List MD} {ps : List Po} (h : PostOk ok w ds ps) : PostOk ok' w ds ps := by
 induction h with
 | nil => exact .nil
 | box p q _ ih => exact .box (p.mono hok (fun _ _ => rfl)) q ih
 | row p q _ ih => exact .row (p.mono hok (fun _ _ => rfl) rfl) q ih
 | gone _ ih => exact .gone ih
 | none _ ih => exact .none ih
 | tree p _ ih => exact .tree p ih
 | noneT _ ih => exact .noneT ih
theorem PostOk.flat {ok ok' : Nat → Prop} {ds : List MD} {ps : List Po} (hf : ps.all Po.flat = true) (h : PostOk ok w ds ps) : PostOk ok' w ds ps := by
 induction h with
 | nil => exact .nil
 | box p q _ ih =>
  simp only [List.all_cons, Bool.and_eq_true] at hf
  exact .box (Ca1 hf.1 p) q (ih hf.2)
 | row p q _ ih =>
  simp only [List.all_cons, Bool.and_eq_true] at hf
  refine .row (fun i hi => ?_) q (ih hf.2)
  obtain ⟨ds, hd, hj⟩ := p i hi
  exact ⟨ds, Ca1 hf.1 hd, hj⟩
 | gone _ ih =>
  simp only [List.all_cons, Bool.and_eq_true] at hf
  exact .gone (ih hf.2)
 | none _ ih =>
  simp only [List.all_cons, Bool.and_eq_true] at hf
  exact .none (ih hf.2)
 | tree p _ ih =>
  simp only [List.all_cons, Bool.and_eq_true] at hf
  exact .tree p (ih hf.2)
 | noneT _ ih =>
  simp only [List.all_cons, Bool.and_eq_true] at hf
  exact .noneT (ih hf.2)
theorem C82 : ∀ (ns : List Nat) (n : Nat), n ∈ B93 ns → n ∈ ns
 | [], n, h => h
 | m :: ns, n, h => by
  simp only [B93] at h
  cases hb : ns.any (Nat.beq m) with
  | true => rw [hb] at h; exact List.mem_cons_of_mem _ (C82 ns n h)
  | false =>
   rw [hb] at h
   cases h with
   | head => exact List.mem_cons_self
   | tail _ h => exact List.mem_cons_of_mem _ (C82 ns n h)
def Hr9 (nm : Nat → Nat) (out : List (Bool × List RC)) (ps : List Po) (p : List Upd × List Upd) (ns : List Nat) : RP :=
 Bs1 (N6 nm 0 out).2 (bif Ae1 out || !ps.all Po.flat then Bx4 (B93 ns) fun u => z7 (u ++ p.2 ++ p.1 ++ (N6 nm 0 out).2) (Aa1 (N6 nm 0 out).1)
   else z7 (p.2 ++ p.1 ++ (N6 nm 0 out).2) (Aa1 (N6 nm 0 out).1))
theorem Gy5 {nm : Nat → Nat} {t : Ty} {k : El t → MSpec} {v : V1} {vs : List V1} {ns : List Nat} {ms : List Mref} (h : (W2 nm (.box t k) (v :: vs) ns ms).run st Kk l = some r) : ∃ o, v = ⟨false, [.ptr o 0]⟩ := by
 rcases v with ⟨ag, cs⟩
 cases ag with
 | true => simp [W2, RP.run] at h
 | false => cases cs with
  | nil => simp [W2, RP.run] at h
  | cons c cs => cases cs with
   | cons _ _ => simp [W2, RP.run] at h
   | nil => cases c with
    | ptr o f => cases f with
     | zero => exact ⟨o, rfl⟩
     | succ f => simp [W2, RP.run] at h
    | _ => simp [W2, RP.run] at h
theorem Gy6 {nm : Nat → Nat} {e : TypeId} {t : Ty} {k : List (El t) → MSpec} {v : V1} {vs : List V1} {ns : List Nat} {ms : List Mref} (h : (W2 nm (.row e t k) (v :: vs) ns ms).run st Kk l = some r) :
  v = ⟨false, [.nilS]⟩ ∨ ∃ o, v = ⟨false, [.row o none none]⟩ := by
 rcases v with ⟨ag, cs⟩
 cases ag with
 | true => simp [W2, RP.run] at h
 | false => cases cs with
  | nil => simp [W2, RP.run] at h
  | cons c cs => cases cs with
   | cons _ _ => cases c <;> simp [W2, RP.run] at h
   | nil => cases c with
    | nilS => exact .inl rfl
    | row o lo hi => cases lo with
     | none => cases hi with
      | none => exact .inr ⟨o, rfl⟩
      | some b => simp [W2, RP.run] at h
     | some a => simp [W2, RP.run] at h
    | _ => simp [W2, RP.run] at h
theorem Gy7 : ∀ (ms : List Mref) (ps : List Po) (k : RP) (l : List Loc), (Dr5 ms ps k).run st Kk l = some r → k.run st Kk l = some r ∧ Dr4 ms ps = x9 ms ps := by
 intro ms
 induction ms with
 | nil => intro ps k l h; cases ps <;> exact ⟨h, rfl⟩
 | cons m ms ih =>
  intro ps k l h
  cases ps with
  | nil => exact ⟨by cases m <;> exact h, rfl⟩
  | cons p ps =>
   have key : (k.run st Kk l = some r ∧ Dr4 ms ps = x9 ms ps) ∧ Gt2 m p = O2 m p := by
    cases m with
    | box o t => cases p <;> exact ⟨ih _ _ _ h, rfl⟩
    | none => cases p with
     | box _ _ => exact ⟨ih _ _ _ h, rfl⟩
     | gone => exact ⟨ih _ _ _ h, rfl⟩
     | tree _ _ => exact ⟨ih _ _ _ h, rfl⟩
     | row t ys =>
      simp only [Dr5, RP.run] at h
      cases hc : Nat.beq ys.length 0 with
      | false => rw [hc] at h; cases h
      | true => rw [hc] at h; exact ⟨ih _ _ _ h, by simp [Gt2, O2, hc]⟩
    | row o e t n => cases p with
     | box _ _ => exact ⟨ih _ _ _ h, rfl⟩
     | gone => exact ⟨ih _ _ _ h, rfl⟩
     | tree _ _ => exact ⟨ih _ _ _ h, rfl⟩
     | row t' ys =>
      simp only [Dr5, RP.run] at h
      cases hc : Nat.beq ys.length n with
      | false => rw [hc] at h; cases h
      | true => rw [hc] at h; exact ⟨ih _ _ _ h, by simp [Gt2, O2, hc]⟩
   refine ⟨key.1.1, ?_⟩
   simp only [Dr4, x9, key.2, key.1.2]
theorem Ff2 {nm : Nat → Nat} : ∀ (s : MSpec) (vs : List V1) (ns : List Nat) (ms : List Mref) (l : List Loc), (W2 nm s vs ns ms).run st Kk l = some r → RowNames st.heap ns →
  ∃ out ps p ns' ms' l', (Hr9 nm out ps p (ns ++ ns')).run st Kk l' = some r ∧ RowNames st.heap (ns ++ ns') ∧ G5 ((ms ++ ms').flatMap Mref.names) = true ∧ Gt3 (ns ++ ns') ((ms ++ ms').flatMap Mref.names) = true ∧
   x9 (ms ++ ms') ps = some p ∧
   ∀ {E saved a S w w0 K ok Vs pre ds}, RelE E st saved a S w w0 K → TF st.heap w K → (∀ g, F46 = some g → K g) → (∀ b, okX E K st.heap ns' b → ok b) → (∀ o ∈ ms'.flatMap Mref.names, F5 st.heap o → E.has o → ¬ ok (E.ρ o).1) → All2 (V1Rel E st.heap w) vs Vs →
    MRefs E st.heap ms ds → MOk P f ok w s pre ds → ∃ ds', MRefs E st.heap (ms ++ ms') (ds ++ ds') ∧
    Calls P f (pre ++ Vs).toArray w fun e w' => ∃ V, e = .returned V ∧ RetM ok w w' out V (ds ++ ds') ps := by
 intro s
 induction s with
 | tree e t k ih =>
  intro vs ns ms l h hns
  cases vs <;> simp [W2, RP.run] at h
 | body o out post =>
  intro vs ns ms l h hns
  cases vs with
  | cons v vs => simp [W2, RP.run] at h
  | nil =>
   simp only [W2] at h
   cases hc : (G5 (ms.flatMap Mref.names) && Gt3 ns (ms.flatMap Mref.names)) with
   | false => rw [hc] at h; cases h
   | true =>
    rw [hc] at h
    simp only [cond_true] at h
    simp only [Bool.and_eq_true] at hc
    cases o with
    | none => cases h
    | some a =>
     simp only [RP.run] at h
     obtain ⟨h, hpe⟩ := Gy7 _ _ _ _ h
     rw [hpe] at h
     cases hp : x9 ms (post a) with
     | none => rw [hp] at h; exact absurd h (by intro h; cases h)
     | some p =>
      rw [hp] at h
      refine ⟨out a, post a, p, [], [], l, by rw [List.append_nil]; exact h, by simpa using hns, by simpa using hc.1, by simpa using hc.2, by simpa using hp, fun {E saved a' S w w0 K ok Vs pre ds} hr ht he hok ax hv hm hs => ⟨[], by simpa using hm, ?_⟩⟩
      cases hv
      simp only [List.append_nil]
      exact hs (fun g hg hb => by
       obtain ⟨o', _, g2, g3, g4⟩ := hm.blk _ hb
       exact (hr.dk o' g3 g2).2 (g4 ▸ he g hg)) a rfl
 | imm t k ih =>
  intro vs ns ms l h hns
  cases vs with
  | nil => simp [W2, RP.run] at h
  | cons v vs =>
   simp only [W2] at h
   cases hag : (bif v.agg then t.agg else !t.agg) with
   | false => rw [hag] at h; cases h
   | true =>
    rw [hag] at h
    simp only [cond_true] at h
    obtain ⟨x, rest, ns1, l1, h1, hns1, hx⟩ := Ct2 _ _ _ _ h
    cases rest with
    | cons _ _ => cases h1
    | nil =>
     obtain ⟨out, ps, p, ns', ms', l2, h2, h3, h4, h5, h6, aw⟩ := ih x vs (ns ++ ns1) ms l1 h1 (hns.append hns1)
     refine ⟨out, ps, p, ns1 ++ ns', ms', l2, by rw [← List.append_assoc]; exact h2, by rw [← List.append_assoc]; exact h3, h4, by rw [← List.append_assoc]; exact h5, h6, fun {E saved a' S w w0 K ok Vs pre ds} hr ht he hok ax hv hm hs => ?_⟩
     cases hv with
     | @cons _ V _ Vs' pv q =>
      have harg : Bn7 ok w t x V := by
       obtain ⟨us, hus, hV⟩ := pv
       obtain ⟨v1, v2, e1, hi, hv2⟩ := hx hr ht hus
       cases hv2
       rw [List.append_nil] at e1
       subst e1
       refine ⟨us, hi.mono (fun b hb => hok b (Cx9 b hb)) (fun _ _ => rfl), ?_⟩
       rcases hV with ⟨h1, h2⟩ | ⟨h1, h2⟩
       ·rw [h1] at hag; exact .inl ⟨hag, h2⟩
       ·rw [h1] at hag; exact .inr ⟨by simpa using hag, h2⟩
      obtain ⟨ds', hd, hc⟩ := aw hr ht he (fun b hb => hok b (Ck0 b hb)) ax q hm (hs x V harg)
      exact ⟨ds', hd, by rwa [List.append_assoc] at hc⟩
 | box t k ih =>
  intro vs ns ms l h hns
  cases vs with
  | nil => simp [W2, RP.run] at h
  | cons v vs =>
   obtain ⟨o, rfl⟩ := Gy5 h
   simp only [W2, RP.run] at h
   cases hg : C1 st.heap o with
   | none => rw [hg] at h; cases h
   | some b =>
    rw [hg] at h
    cases b with
    | box cs =>
     simp only at h
     obtain ⟨x, rest, ns1, l1, h1, hns1, hx⟩ := Ct2 _ _ _ _ h
     cases rest with
     | cons _ _ => cases h1
     | nil =>
      obtain ⟨out, ps, p, ns', ms', l2, h2, h3, h4, h5, h6, aw⟩ := ih x vs (ns ++ ns1) (ms ++ [.box o t]) l1 h1 (hns.append hns1)
      rw [List.append_assoc] at h2 h3 h5
      rw [List.append_assoc, List.singleton_append] at h4 h5 h6
      refine ⟨out, ps, p, ns1 ++ ns', .box o t :: ms', l2, h2, h3, h4, h5, h6, fun {E saved a' S w w0 K ok Vs pre ds} hr ht he hok ax hv hm hs => ?_⟩
      cases hv with
      | @cons _ V _ Vs' pv q =>
       obtain ⟨n, ao, hV⟩ := V1Rel.one pv
       obtain ⟨hh, us, hus, ac⟩ := hr.ob o _ hg
       obtain ⟨v1, v2, e1, hi, hv2⟩ := hx hr ht hus
       cases hv2
       rw [List.append_nil] at e1
       subst e1
       have hl : F5 st.heap o := by unfold F5; rw [hg]; trivial
       have ab : cs.length = t.sz := by rw [hus.length, hi.len]
       have hnb : (E.ρ o).1 ∉ ds.flatMap MD.blk := by
        intro hb
        obtain ⟨o', g1, g2, g3, g4⟩ := hm.blk _ hb
        have hne : o ≠ o' := by
         rintro rfl
         rw [List.flatMap_append] at h4
         exact Cy1 h4 (by simp [Mref.names]) g1
        exact hr.dj o o' hne hl g3 hh g2 g4
       have := hs x (E.ρ o).1 (E.ρ o).2 us (hi.mono (fun b hb => hok b (Cx9 b hb)) (fun _ _ => rfl)) ac (hr.bd o (by rw [hg]; rfl) hh) (ax o (by simp [Mref.names]) hl hh) hnb
       obtain ⟨ds', hd, hc⟩ := aw hr ht he (fun b hb => hok b (Ck0 b hb)) (fun o' ho' => ax o' (by simp only [List.flatMap_cons, List.mem_append]; exact .inr ho')) q (hm.append (.box hh hg ab .nil)) this
       refine ⟨.box (E.ρ o).1 (E.ρ o).2 :: ds', ?_, ?_⟩
       ·simpa using hd
       ·have e0 : V = .pointer (some ⟨(E.ρ o).1, (E.ρ o).2, none⟩) := by simpa using hV
        rw [e0]
        simpa using hc
    | _ => cases h
 | row e t k ih =>
  intro vs ns ms l h hns
  cases vs with
  | nil => simp [W2, RP.run] at h
  | cons v vs =>
   rcases Gy6 h with rfl | ⟨o, rfl⟩
   ·simp only [W2] at h
    obtain ⟨out, ps, p, ns', ms', l2, h2, h3, h4, h5, h6, aw⟩ := ih [] vs ns (ms ++ [.none]) l h hns
    rw [List.append_assoc, List.singleton_append] at h4 h5 h6
    refine ⟨out, ps, p, ns', .none :: ms', l2, h2, h3, h4, h5, h6, fun {E saved a' S w w0 K ok Vs pre ds} hr ht he hok ax hv hm hs => ?_⟩
    cases hv with
    | @cons _ V _ Vs' pv q =>
     have hV : V = .slice none 0 0 := V1Rel.one pv
     obtain ⟨ds', hd, hc⟩ := aw hr ht he hok (fun o' ho' => ax o' (by simp only [List.flatMap_cons, List.mem_append]; exact .inr ho')) q (hm.append (.none .nil)) (hs.1 none)
     refine ⟨.nil :: ds', by simpa using hd, ?_⟩
     rw [hV]
     simpa using hc
   ·simp only [W2, RP.run] at h
    cases hg : C1 st.heap o with
    | none => rw [hg] at h; cases h
    | some b =>
     rw [hg] at h
     cases b with
     | row e' t' xs own =>
      cases own with
      | false => cases h
      | true =>
       simp only at h
       cases hb : Nat.beq e e' with
       | false => rw [hb] at h; cases h
       | true =>
        rw [hb] at h
        simp only [cond_true] at h
        have he := Nat.eq_of_beq_eq_true hb
        subst he
        split at h
        ·rename_i ys hy
         obtain ⟨rfl, rfl⟩ := H6 hy
         simp only at h
         obtain ⟨out, ps, p, ns', ms', l2, h2, h3, h4, h5, h6, aw⟩ := ih xs vs ns (ms ++ [.row o e t' xs.length]) _ h hns
         rw [List.append_assoc, List.singleton_append] at h4 h5 h6
         refine ⟨out, ps, p, ns', .row o e t' xs.length :: ms', l2, h2, h3, h4, h5, h6, fun {E saved a' S w w0 K ok Vs pre ds} hr ht he hok ax hv hm hs => ?_⟩
         cases hv with
         | @cons _ V _ Vs' pv q =>
          have hl : F5 st.heap o := by unfold F5; rw [hg]; trivial
          have hs1 : hsh st.heap o = some (.row e t' xs.length) := by simp [hsh, hg, I5]
          have hc := V1Rel.one pv
          simp only [CellRel, hs1] at hc
          obtain ⟨_, A, c, hV, hle, hx⟩ := hc
          simp only [F9, Q2, Nat.sub_zero] at hV hle
          have hx : c = 0 ∨ (0 < c ∧ E.has o ∧ A = some ⟨(E.ρ o).1, (E.ρ o).2 + Q2 none * t'.sz, none⟩ ∧ Room w (E.ρ o).1 ((E.ρ o).2 + (Q2 none + c) * t'.sz)) := by
           rcases Nat.eq_zero_or_pos c with hc0 | hc0
           ·exact .inl hc0
           ·exact hx.imp id fun h => ⟨hc0, h⟩
          rcases hx with rfl | ⟨hc0, hh, hA, hR⟩
          ·have hx0 : xs = [] := List.length_eq_zero_iff.1 (by omega)
           subst hx0
           obtain ⟨ds', hd, hc⟩ := aw hr ht he hok (fun o' ho' => ax o' (by simp only [List.flatMap_cons, List.mem_append]; exact .inr ho')) q (hm.append (.rnil hg .nil)) (hs.1 A)
           refine ⟨.nil :: ds', by simpa using hd, ?_⟩
           rw [hV]
           simpa using hc
          ·obtain ⟨_, hob⟩ := hr.ob o _ hg
           obtain ⟨hat, hnf, _⟩ := hob hh
           have hnb : (E.ρ o).1 ∉ ds.flatMap MD.blk := by
            intro hb
            obtain ⟨o', g1, g2, g3, g4⟩ := hm.blk _ hb
            have hne : o ≠ o' := by
             rintro rfl
             rw [List.flatMap_append] at h4
             exact Cy1 h4 (by simp [Mref.names]) g1
            exact hr.dj o o' hne hl g3 hh g2 g4
           have hA' : A = some ⟨(E.ρ o).1, (E.ρ o).2, none⟩ := by rw [hA]; simp [Q2]
           have hR' : Room w (E.ρ o).1 ((E.ρ o).2 + c * t'.sz) := by simpa [Q2] using hR
           have := hs.2 xs (E.ρ o).1 (E.ρ o).2 c hle hc0 (hat.mono (fun b hb => hok b (.inl (.inl hb))) (fun _ _ => rfl) rfl) (hnf rfl) hR' (hr.bd o (by rw [hg]; rfl) hh) (ax o (by simp [Mref.names]) hl hh) hnb
           obtain ⟨ds', hd, hc⟩ := aw hr ht he hok (fun o' ho' => ax o' (by simp only [List.flatMap_cons, List.mem_append]; exact .inr ho')) q (hm.append (.row (c := c) hh hg .nil)) this
           refine ⟨.row (E.ρ o).1 (E.ρ o).2 c :: ds', by simpa using hd, ?_⟩
           rw [hV, hA']
           simpa using hc
        ·cases h
     | _ => cases h
theorem Ff3 {h : F8} {t : Ty} {y : El t} {ok : Nat → Prop} {ds : List Value} (hi : Imm ok w t y ds) : (N4 t y).length = t.sz := by
 have := (R9 (E := ⟨fun _ => (0, 0), fun _ => False, ok⟩) (h := h) hi).length
 rw [this, hi.len]
theorem Cy2 : ∀ (ms : List Mref) (ps : List Po) (p : List Upd × List Upd), x9 ms ps = some p → ∀ x ∈ p.1 ++ p.2, x.name ∈ ms.flatMap Mref.names
  | [], [], p, h, x, hx => by cases h; cases hx
  | [], _ :: _, p, h, x, hx => by cases h
  | _ :: _, [], p, h, x, hx => by cases h
  | m :: ms, q :: ps, p, h, x, hx => by
    simp only [x9] at h
    split at h
    · rename_i a ha
      split at h
      · rename_i b hb
        cases h
        have ih := Cy2 ms ps b hb
        have h1 : ∀ y ∈ a.1 ++ a.2, y.name ∈ m.names := by
          intro y hy
          unfold O2 at ha
          split at ha
          · split at ha
            · cases ha; simp at hy; subst hy; simp [Mref.names, Upd.name]
            · cases ha
          · split at ha
            · rename_i o e t n t' ys ht
              cases hq : Nat.beq ys.length n with
              | false => rw [hq] at ha; cases ha
              | true => rw [hq] at ha; cases ha; simp at hy; subst hy; simp [Mref.names, Upd.name]
            · cases ha
          · cases ha; simp at hy; subst hy; simp [Mref.names, Upd.name]
          · rename_i t' ys
            cases hq : Nat.beq ys.length 0 with
            | false => rw [hq] at ha; cases ha
            | true => rw [hq] at ha; cases ha; simp at hy
          · cases ha; simp at hy
          · cases ha
        simp only [List.flatMap_cons, List.mem_append] at *
        rcases hx with (hx | hx) | (hx | hx)
        · exact .inl (h1 x (.inl hx))
        · exact .inr (ih x (.inl hx))
        · exact .inl (h1 x (.inr hx))
        · exact .inr (ih x (.inr hx))
      · cases h
    · cases h
theorem Ao0 : ∀ (ms : List Mref) (ps : List Po) (p : List Upd × List Upd) {h : F8} {ds : List MD}, x9 ms ps = some p → MRefs E h ms ds →
    ∀ x ∈ p.2, ∃ n e t xs own, x = .o n .dead ∧ C1 h n = some (.row e t xs own)
  | [], [], p, _, _, h, _, x, hx => by cases h; cases hx
  | [], _ :: _, p, _, _, h, _, x, hx => by cases h
  | _ :: _, [], p, _, _, h, _, x, hx => by cases h
  | m :: ms, q :: ps, p, hh, _, h, hm, x, hx => by
    simp only [x9] at h
    split at h
    · rename_i a ha
      split at h
      · rename_i b hb
        cases h
        simp only [List.mem_append] at hx
        rcases hx with hx | hx
        · cases hm with
          | box g1 g2 g3 g4 => cases q <;> simp only [O2] at ha <;> first | cases ha | skip
                               split at ha
                               · cases ha; cases hx
                               · cases ha
          | row g1 g2 g3 => cases q with
            | gone => simp only [O2] at ha; cases ha; simp at hx; subst hx; exact ⟨_, _, _, _, _, rfl, g2⟩
            | row t' ys =>
              simp only [O2] at ha
              split at ha
              · cases hq : Nat.beq ys.length _ with
                | false => rw [hq] at ha; cases ha
                | true => rw [hq] at ha; cases ha; cases hx
              · cases ha
            | box _ _ => simp only [O2] at ha; cases ha
            | tree _ _ => simp only [O2] at ha; cases ha
          | rnil g2 g3 => cases q with
            | gone => simp only [O2] at ha; cases ha; simp at hx; subst hx; exact ⟨_, _, _, _, _, rfl, g2⟩
            | row t' ys =>
              simp only [O2] at ha
              split at ha
              · cases hq : Nat.beq ys.length 0 with
                | false => rw [hq] at ha; cases ha
                | true => rw [hq] at ha; cases ha; cases hx
              · cases ha
            | box _ _ => simp only [O2] at ha; cases ha
            | tree _ _ => simp only [O2] at ha; cases ha
          | none g => cases q with
            | gone => simp only [O2] at ha; cases ha; cases hx
            | row t' ys =>
              simp only [O2] at ha
              cases hq : Nat.beq ys.length 0 with
              | false => rw [hq] at ha; cases ha
              | true => rw [hq] at ha; cases ha; cases hx
            | box _ _ => simp only [O2] at ha; cases ha
            | tree _ _ => simp only [O2] at ha; cases ha
        · cases hm with
          | box g1 g2 g3 g4 => exact Ao0 ms ps b hb g4 x hx
          | row g1 g2 g3 => exact Ao0 ms ps b hb g3 x hx
          | rnil g2 g3 => exact Ao0 ms ps b hb g3 x hx
          | none g => exact Ao0 ms ps b hb g x hx
      · cases h
    · cases h
def mn : List Mref → List MD → List Nat
 | m :: ms, d :: ds => (match d with | .nil => [] | _ => m.names) ++ mn ms ds
 | _, _ => []
theorem Hu3 {h : F8} {ms : List Mref} {ds : List MD} (p : MRefs E h ms ds) : ∀ n ∈ mn ms ds, n ∈ ms.flatMap Mref.names := by
 induction p with
 | nil => intro n hn; cases hn
 | box _ _ _ _ ih =>
  intro n hn
  simp only [mn, List.mem_append, List.flatMap_cons] at *
  exact hn.imp id (ih n)
 | row _ _ _ ih =>
  intro n hn
  simp only [mn, List.mem_append, List.flatMap_cons] at *
  exact hn.imp id (ih n)
 | rnil _ _ ih =>
  intro n hn
  simp only [mn, List.nil_append, List.flatMap_cons, List.mem_append] at *
  exact .inr (ih n hn)
 | none _ ih =>
  intro n hn
  simp only [mn, List.nil_append, List.flatMap_cons, List.mem_append] at *
  exact .inr (ih n hn)
theorem Hu4 {h : F8} {ms : List Mref} {ds : List MD} (p : MRefs E h ms ds) : ∀ b ∈ ds.flatMap MD.blk, ∃ o ∈ mn ms ds, E.has o ∧ F5 h o ∧ b = (E.ρ o).1 := by
 induction p with
 | nil => intro b hb; simp at hb
 | @box o t cs ms ds a b c _ ih =>
  intro x hx
  simp only [List.flatMap_cons, MD.blk, List.cons_append, List.nil_append, List.mem_cons] at hx
  rcases hx with rfl | hx
  ·exact ⟨o, by simp [mn, Mref.names], a, by unfold F5; rw [b]; trivial, rfl⟩
  ·obtain ⟨o', h1, h2⟩ := ih x hx
   exact ⟨o', by simp only [mn, List.mem_append]; exact .inr h1, h2⟩
 | @row o e t xs c ms ds a b _ ih =>
  intro x hx
  simp only [List.flatMap_cons, MD.blk, List.cons_append, List.nil_append, List.mem_cons] at hx
  rcases hx with rfl | hx
  ·exact ⟨o, by simp [mn, Mref.names], a, by unfold F5; rw [b]; trivial, rfl⟩
  ·obtain ⟨o', h1, h2⟩ := ih x hx
   exact ⟨o', by simp only [mn, List.mem_append]; exact .inr h1, h2⟩
 | rnil a _ ih =>
  intro x hx
  simp only [List.flatMap_cons, MD.blk, List.nil_append] at hx
  obtain ⟨o', h1, h2⟩ := ih x hx
  exact ⟨o', by simpa [mn] using h1, h2⟩
 | none _ ih =>
  intro x hx
  simp only [List.flatMap_cons, MD.blk, List.nil_append] at hx
  obtain ⟨o', h1, h2⟩ := ih x hx
  exact ⟨o', by simpa [mn] using h1, h2⟩
theorem Cy3 {ok' : Nat → Prop} {E2 : Env} (hρ : E2.ρ = E.ρ) (aj : E2.has = E.has) (hok : ∀ b, ok' b → E2.ok b) : ∀ (ms : List Mref) (ps : List Po) (p : List Upd × List Upd) {h : F8} {ds : List MD}, x9 ms ps = some p → MRefs E h ms ds → PostOk ok' w' ds ps →
  G5 (ms.flatMap Mref.names) = true → ∀ n ob', Upd.o n ob' ∈ p.1 → ∃ ob, C1 h n = some ob ∧ I5 ob' = I5 ob ∧ F5 h n ∧ ((∀ h', ObjRel E2 h' w' n ob') ∨ (ob' = ob ∧ n ∉ mn ms ds))
 | [], [], p, _, _, h, _, _, _, n, ob', hx => by cases h; cases hx
 | [], _ :: _, p, _, _, h, _, _, _, n, ob', hx => by cases h
 | _ :: _, [], p, _, _, h, _, _, _, n, ob', hx => by cases h
 | m :: ms, q :: ps, p, hh, _, h, hm, hpo, hdis, n, ob', hx => by
  simp only [x9] at h
  split at h
  ·rename_i a ha
   split at h
   ·rename_i b hb
    cases h
    simp only [List.mem_append] at hx
    rw [List.flatMap_cons] at hdis
    obtain ⟨hd1, hd2, hd3⟩ := I1 hdis
    have later : ∀ {d ds'}, MRefs E hh ms ds' → PostOk ok' w' ds' ps → (Upd.o n ob' ∈ b.1) → (∀ k ∈ (match d with | MD.nil => [] | _ => m.names), k ∈ m.names) →
      ∃ ob, C1 hh n = some ob ∧ I5 ob' = I5 ob ∧ F5 hh n ∧ ((∀ h', ObjRel E2 h' w' n ob') ∨ (ob' = ob ∧ n ∉ mn (m :: ms) (d :: ds'))) := by
     intro d ds' g1 g2 g3 g4
     obtain ⟨ob, k1, k2, k3, k4⟩ := Cy3 hρ aj hok ms ps b hb g1 g2 hd2 n ob' g3
     refine ⟨ob, k1, k2, k3, k4.imp id fun ⟨e1, e2⟩ => ⟨e1, fun hk => ?_⟩⟩
     have hnm := Cy2 ms ps b hb _ (List.mem_append.2 (.inl g3))
     simp only [mn, List.mem_append] at hk
     rcases hk with hk | hk
     ·exact hd3 n (g4 n hk) hnm
     ·exact e2 hk
    cases hm with
    | @box o t cs _ ds' g1 g2 g3 g4 =>
     cases hpo with
     | @box _ _ _ y _ _ vs p1 p2 p3 =>
      rcases hx with hx | hx
      ·simp only [O2] at ha
       split at ha
       ·rename_i ht
        subst ht
        cases ha
        simp only [List.mem_singleton] at hx
        injection hx with e1 e2
        subst e1; subst e2
        refine ⟨_, g2, ?_, by unfold F5; rw [g2]; trivial, .inl fun h' => ⟨by rw [aj]; exact g1, vs, R9 (p1.mono hok (fun _ _ => rfl)), ?_⟩⟩
        ·have := Ff3 (h := []) p1
         simp only [I5, this, g3]
        ·rw [hρ]; exact p2
       ·cases ha
      ·exact later g4 p3 hx (fun k hk => hk)
     | gone p3 =>
      rcases hx with hx | hx
      ·simp only [O2] at ha; cases ha
      ·exact later g4 p3 hx (fun k hk => hk)
    | @row o e t xs c _ ds' g1 g2 g3 =>
     cases hpo with
     | @row _ _ _ _ ys _ _ p1 p2 p3 =>
      rcases hx with hx | hx
      ·simp only [O2] at ha
       split at ha
       ·rename_i ht
        subst ht
        cases hq : Nat.beq ys.length xs.length with
        | false => rw [hq] at ha; cases ha
        | true =>
         rw [hq] at ha
         cases ha
         simp only [List.mem_singleton] at hx
         injection hx with e1 e2
         subst e1; subst e2
         refine ⟨_, g2, ?_, by unfold F5; rw [g2]; trivial, .inl fun h' => ⟨.inl (by rw [aj]; exact g1), fun _ => ⟨?_, fun _ => by rw [hρ]; exact p2, fun e => by cases e⟩⟩⟩
         ·simp only [I5, Nat.eq_of_beq_eq_true hq]
         ·rw [hρ]; exact p1.mono hok (fun _ _ => rfl) rfl
       ·cases ha
      ·exact later g3 p3 hx (fun k hk => hk)
     | gone p3 =>
      rcases hx with hx | hx
      ·simp only [O2] at ha; cases ha; cases hx
      ·exact later g3 p3 hx (fun k hk => hk)
    | @rnil o e t _ ds' g2 g3 =>
     cases hpo with
     | noneT p3 => simp only [O2] at ha; cases ha
     | @none t' ys _ _ p3 =>
      rcases hx with hx | hx
      ·simp only [O2] at ha
       split at ha
       ·rename_i ht
        subst ht
        cases hq : Nat.beq ys.length 0 with
        | false => rw [hq] at ha; cases ha
        | true =>
         rw [hq] at ha
         cases ha
         simp only [List.mem_singleton] at hx
         injection hx with e1 e2
         have hy : ys = [] := List.length_eq_zero_iff.1 (Nat.eq_of_beq_eq_true hq)
         subst hy
         subst e1; subst e2
         refine ⟨_, g2, rfl, by unfold F5; rw [g2]; trivial, .inr ⟨rfl, fun hk => ?_⟩⟩
         simp only [mn, List.nil_append] at hk
         exact hd3 n (by simp [Mref.names]) (Hu3 g3 n hk)
       ·cases ha
      ·exact later g3 p3 hx (fun k hk => by cases hk)
     | gone p3 =>
      rcases hx with hx | hx
      ·simp only [O2] at ha; cases ha; cases hx
      ·exact later g3 p3 hx (fun k hk => by cases hk)
    | @none _ ds' g =>
     cases hpo with
     | noneT p3 => simp only [O2] at ha; cases ha
     | @none t' ys _ _ p3 =>
      rcases hx with hx | hx
      ·simp only [O2] at ha
       cases hq : Nat.beq ys.length 0 with
       | false => rw [hq] at ha; cases ha
       | true => rw [hq] at ha; cases ha; cases hx
      ·exact later g p3 hx (fun k hk => by cases hk)
     | gone p3 =>
      rcases hx with hx | hx
      ·simp only [O2] at ha; cases ha; cases hx
      ·exact later g p3 hx (fun k hk => by cases hk)
   ·cases h
  ·cases h
theorem MRefs.stay {E' : Env} {h h' : F8} {ms : List Mref} {ds : List MD} (p : MRefs E h ms ds) (hρ : ∀ o ∈ ms.flatMap Mref.names, E'.ρ o = E.ρ o ∧ (E.has o → E'.has o)) (hh : ∀ o ∈ ms.flatMap Mref.names, C1 h' o = C1 h o) : MRefs E' h' ms ds := by
 induction p with
 | nil => exact .nil
 | @box o t cs ms ds a b c _ ih =>
  have h1 := hρ o (by simp [Mref.names])
  have := MRefs.box (E := E') (h := h') (h1.2 a) ((hh o (by simp [Mref.names])).trans b) c (ih (fun o ho => hρ o (by simp only [List.flatMap_cons, List.mem_append]; exact .inr ho)) (fun o ho => hh o (by simp only [List.flatMap_cons, List.mem_append]; exact .inr ho)))
  rwa [h1.1] at this
 | @row o e t xs c ms ds a b _ ih =>
  have h1 := hρ o (by simp [Mref.names])
  have := MRefs.row (E := E') (h := h') (c := c) (h1.2 a) ((hh o (by simp [Mref.names])).trans b) (ih (fun o ho => hρ o (by simp only [List.flatMap_cons, List.mem_append]; exact .inr ho)) (fun o ho => hh o (by simp only [List.flatMap_cons, List.mem_append]; exact .inr ho)))
  rwa [h1.1] at this
 | @rnil o e t ms ds b _ ih =>
  exact .rnil ((hh o (by simp [Mref.names])).trans b) (ih (fun o ho => hρ o (by simp only [List.flatMap_cons, List.mem_append]; exact .inr ho)) (fun o ho => hh o (by simp only [List.flatMap_cons, List.mem_append]; exact .inr ho)))
 | none _ ih => exact .none (ih (fun o ho => hρ o (by simpa [Mref.names] using ho)) (fun o ho => hh o (by simpa [Mref.names] using ho)))
theorem Ek9 : ∀ (ms : List Mref) (ps : List Po) (p : List Upd × List Upd) {h : F8} {ds : List MD}, x9 ms ps = some p → MRefs E h ms ds → ∀ b ∈ A72 ds ps, ∃ n, Upd.o n .dead ∈ p.2 ∧ E.has n ∧ b = (E.ρ n).1 ∧ ∃ e t xs, C1 h n = some (.row e t xs true)
 | [], [], p, _, _, h, hm, b, hb => by cases hm; cases hb
 | [], _ :: _, p, _, _, h, _, b, hb => by cases h
 | _ :: _, [], p, _, _, h, _, b, hb => by cases h
 | m :: ms, q :: ps, p, hh, _, h, hm, b, hb => by
  simp only [x9] at h
  split at h
  ·rename_i a ha
   split at h
   ·rename_i b' hb'
    cases h
    have later : ∀ {ds'}, MRefs E hh ms ds' → b ∈ A72 ds' ps → ∃ n, Upd.o n .dead ∈ a.2 ++ b'.2 ∧ E.has n ∧ b = (E.ρ n).1 ∧ ∃ e t xs, C1 hh n = some (.row e t xs true) := by
     intro ds' g1 g2
     obtain ⟨n, k1, k2⟩ := Ek9 ms ps b' hb' g1 b g2
     exact ⟨n, List.mem_append.2 (.inr k1), k2⟩
    cases q with
    | gone =>
     cases hm with
     | box g1 g2 g3 g4 => simp only [O2] at ha; cases ha
     | @row o e t xs c _ ds' g1 g2 g3 =>
      simp only [O2] at ha
      cases ha
      simp only [A72, MD.blk, List.singleton_append, List.mem_cons] at hb
      rcases hb with rfl | hb
      ·exact ⟨o, by simp, g1, rfl, e, t, xs, g2⟩
      ·exact later g3 hb
     | rnil g2 g3 => simp only [A72, MD.blk, List.nil_append] at hb; exact later g3 hb
     | none g => simp only [A72, MD.blk, List.nil_append] at hb; exact later g hb
    | box t' y => cases hm <;> (simp only [A72] at hb; first | exact later (by assumption) hb)
    | row t' ys => cases hm <;> (simp only [A72] at hb; first | exact later (by assumption) hb)
    | tree t' ys => cases hm <;> (simp only [O2] at ha; cases ha)
   ·cases h
  ·cases h
theorem Cy4 : ∀ (ms : List Mref) (ps : List Po) (p : List Upd × List Upd) {h : F8} {ds : List MD}, x9 ms ps = some p → MRefs E h ms ds → ∀ o ∈ mn ms ds, o ∈ p.1.map Upd.name ∨ o ∈ p.2.map Upd.name
 | [], [], p, _, _, h, hm, b, hb => by cases hm; cases hb
 | [], _ :: _, p, _, _, h, _, b, hb => by cases h
 | _ :: _, [], p, _, _, h, _, b, hb => by cases h
 | m :: ms, q :: ps, p, hh, _, h, hm, b, hb => by
  simp only [x9] at h
  split at h
  ·rename_i a ha
   split at h
   ·rename_i b' hb'
    cases h
    have later : ∀ {ds'}, MRefs E hh ms ds' → b ∈ mn ms ds' → b ∈ (a.1 ++ b'.1).map Upd.name ∨ b ∈ (a.2 ++ b'.2).map Upd.name := by
     intro ds' g1 g2
     rw [List.map_append, List.map_append]
     exact (Cy4 ms ps b' hb' g1 b g2).imp (fun h => List.mem_append.2 (.inr h)) (fun h => List.mem_append.2 (.inr h))
    cases hm with
    | @box o t cs _ ds' g1 g2 g3 g4 =>
     simp only [mn, Mref.names, List.singleton_append, List.mem_cons] at hb
     rcases hb with rfl | hb
     ·cases q with
      | box t' y =>
       simp only [O2] at ha
       split at ha
       ·cases ha; exact .inl (by simp [Upd.name])
       ·cases ha
      | row _ _ => simp only [O2] at ha; cases ha
      | tree _ _ => simp only [O2] at ha; cases ha
      | gone => simp only [O2] at ha; cases ha
     ·exact later g4 hb
    | @row o e t xs c _ ds' g1 g2 g3 =>
     simp only [mn, Mref.names, List.singleton_append, List.mem_cons] at hb
     rcases hb with rfl | hb
     ·cases q with
      | box _ _ => simp only [O2] at ha; cases ha
      | tree _ _ => simp only [O2] at ha; cases ha
      | row t' ys =>
       simp only [O2] at ha
       split at ha
       ·cases hq : Nat.beq ys.length xs.length with
        | false => rw [hq] at ha; cases ha
        | true => rw [hq] at ha; cases ha; exact .inl (by simp [Upd.name])
       ·cases ha
      | gone => simp only [O2] at ha; cases ha; exact .inr (by simp [Upd.name])
     ·exact later g3 hb
    | rnil g2 g3 => simp only [mn, List.nil_append] at hb; exact later g3 hb
    | none g => simp only [mn, List.nil_append] at hb; exact later g hb
   ·cases h
  ·cases h
theorem El0 {us : List Upd} {st : St} {n : Nat} (hn : n ∉ us.map Upd.name) (h : F5 (st.upds us).heap n) : F5 st.heap n := by
 unfold F5 at h ⊢
 rwa [J6 us st n hn] at h
theorem C83 : ∀ (ms : List Mref) (ps : List Po) (p : List Upd × List Upd), x9 ms ps = some p → ∀ n ob, Upd.o n ob ∈ p.1 → ob.tr = false
 | [], [], p, h, n, ob, hx => by cases h; cases hx
 | [], _ :: _, p, h, n, ob, hx => by cases h
 | _ :: _, [], p, h, n, ob, hx => by cases h
 | m :: ms, q :: ps, p, h, n, ob, hx => by
  simp only [x9] at h
  split at h
  ·rename_i a ha
   split at h
   ·rename_i b hb
    cases h
    simp only [List.mem_append] at hx
    rcases hx with hx | hx
    ·unfold O2 at ha
     split at ha
     ·split at ha
      ·cases ha; simp at hx; rw [hx.2]; rfl
      ·cases ha
     ·split at ha
      ·rename_i o e t n t' ys ht
       cases hq : Nat.beq ys.length n with
       | false => rw [hq] at ha; cases ha
       | true => rw [hq] at ha; cases ha; simp at hx; rw [hx.2]; rfl
      ·cases ha
     ·cases ha; cases hx
     ·rename_i t' ys
      cases hq : Nat.beq ys.length 0 with
      | false => rw [hq] at ha; cases ha
      | true => rw [hq] at ha; cases ha; cases hx
     ·cases ha; cases hx
     ·cases ha
    ·exact C83 ms ps b hb n ob hx
   ·cases h
  ·cases h
theorem Cn2 : ∀ (u : List Upd) (s : St) (n : Nat), n ∈ u.map Upd.name → ∃ ob, Upd.o n ob ∈ u ∧ C1 (s.upds u).heap n = some ob
 | [], s, n, h => by cases h
 | .o m o :: u, s, n, h => by
  show ∃ ob, _ ∧ C1 ((s.upd (.o m o)).upds u).heap n = _
  by_cases e : n ∈ u.map Upd.name
  ·obtain ⟨ob, h1, h2⟩ := Cn2 u (s.upd (.o m o)) n e
   exact ⟨ob, List.mem_cons_of_mem _ h1, h2⟩
  ·rw [J6 u _ n e]
   have : n = m := by
    cases h with
    | head => rfl
    | tail _ h => exact absurd h e
   subst this
   exact ⟨o, List.mem_cons_self, by show C1 (hset s.heap _ _) _ = _; rw [C3, if_pos rfl]⟩
theorem TF.upds {u : List Upd} (h : TF st.heap w K) (hu : ∀ n ob, Upd.o n ob ∈ u → ob.tr = false) (hold : ∀ n ob, Upd.o n ob ∈ u → ∀ o, C1 st.heap n = some o → o.tr = false) : TF (st.upds u).heap w K := by
 obtain ⟨β, hβ⟩ := h
 have old : ∀ n o, C1 (st.upds u).heap n = some o → o.tr = true → C1 st.heap n = some o := fun n o hg ho => by
  by_cases e : n ∈ u.map Upd.name
  ·obtain ⟨ob, h1, h2⟩ := Cn2 u st n e
   rw [h2] at hg; cases hg
   rw [hu n _ h1] at ho; cases ho
  ·rwa [J6 u st n e] at hg
 have new : ∀ n o, C1 st.heap n = some o → o.tr = true → C1 (st.upds u).heap n = some o := fun n o hg ho => by
  rw [J6 u st n (fun e => by
   obtain ⟨ob, h1⟩ := Bj9 e
   rw [hold n ob h1 o hg] at ho; cases ho)]
  exact hg
 refine ⟨β, fun n e t xs q hg => hβ.tr n e t xs q (old n _ hg rfl), fun n e t xs q hg => hβ.fx n e t xs q (old n _ hg rfl), fun n n' o o' hne hg hg' he he' => ?_, fun n o i f e t m hg => ?_⟩
 ·obtain ⟨e, t, xs, q, rfl⟩ := he
  obtain ⟨e', t', xs', q', rfl⟩ := he'
  exact hβ.ap n n' _ _ hne (old n _ hg rfl) (old n' _ hg' rfl) ⟨_, _, _, _, rfl⟩ ⟨_, _, _, _, rfl⟩
 ·obtain ⟨e2, t2, xs2, q2, k1, k2⟩ := hβ.bo n o i f e t m (old n _ hg rfl)
  exact ⟨e2, t2, xs2, q2, new o _ k1 rfl, k2⟩
theorem Ho0 {h : F8} {n : Nat} {o : Obj} (hl : F5 h n) (hg : C1 h n = some o) : o.tr = false := by
 unfold F5 at hl
 rw [hg] at hl
 cases o <;> first | rfl | exact hl.elim
theorem Ha4 {cfg : Cfg} {o : Oper} (hG : Ok P cfg) (hX : RelX E st saved a S w w0 K) {c : Call} {nm : Nat → Nat} {s : MSpec} {vs : List V1} {l1 : List Loc} (ho : o.op = .call c) (hc : c.callee = .value (.func f)) (hs : look cfg.mspec f = some s)
  (hv : All2 (V1Rel E st.heap w) vs (c.args.toList.map a.eval)) (h1 : (W2 nm s vs [] []).run st Kk l1 = some r) : GoesX P o a w st saved S w0 K Kk r := by
 obtain ⟨wb, K1, hD, hT0, hB⟩ := hX
 have h := hB.rebase0
 have hT := hB.now hT0
 have hD := hD.trans hB.drift
 ·obtain ⟨out, ps, p, ns, ms, l2, h3, hns, hdis, hap, hpost, aw⟩ := Ff2 (P := P) (f := f) s vs [] [] l1 h1 (fun n hn => by cases hn)
  simp only [List.nil_append] at h3 hns hdis hap hpost aw
  have hlt : ∀ b, okX E K1 st.heap ns b → b < w.heap.size := by
   rintro b ((hb | ⟨n, hn, ⟨e, t, xs, own, hg⟩, hh, rfl⟩) | ⟨_, hm⟩)
   ·exact h.bo b hb
   ·exact h.bd n (by rw [hg]; rfl) hh
   ·exact (h.kp b hm.1).1
  have ax : ∀ o ∈ ms.flatMap Mref.names, F5 st.heap o → E.has o → ¬ okX E K1 st.heap ns (E.ρ o).1 := by
   rintro o ho hl hh ((hb | ⟨n, hn, ⟨e', t, xs, own, hg⟩, hh', e⟩) | ⟨_, hm⟩)
   ·exact (h.dk o hl hh).1 hb
   rotate_left
   ·exact (h.dk o hl hh).2 hm.1
   ·have hne : o ≠ n := fun e => Ek8 hap hn (e ▸ ho)
    cases own with
    | true => exact h.dj o n hne hl (by unfold F5; rw [hg]; trivial) hh hh' e
    | false => exact (h.dk o hl hh).1 (e ▸ ((h.ob n _ hg).2 hh').2.2 rfl)
  obtain ⟨ds, hmr, hC⟩ := aw h hT (fun g hg => (hD.errK g hg).1) (fun b hb => hb) ax hv .nil (hG.mspec f s hs (okX E K1 st.heap ns) w hlt hD.err)
  simp only [List.nil_append] at hmr hC
  have hex := C81 (P := P) (w := w) (ρ := a.eval) ho hc (cap := #[]) rfl (hG.enterM f (by rw [hs]; rfl))
  have az : (c.args.toList.map a.eval).toArray = c.args.map a.eval ++ #[] := by
   apply Array.toList_inj.1; simp
  rw [az] at hC
  unfold Hr9 at h3
  obtain ⟨hfr, l3, h4⟩ := By1 _ _ _ h3
  have fin : ∀ (u : List Upd) (l4 : List Loc), (z7 (u ++ p.2 ++ p.1 ++ (N6 nm 0 out).2) (Aa1 (N6 nm 0 out).1)).run st Kk l4 = some r → FrzOk st.heap u → (∀ x ∈ u, x.name ∈ ns) →
    (∀ (good : Nat → Prop) (w' : World), (∀ (Vs : List Value) (bs : List Nat), ResRel (fun b => okX E K1 st.heap ns b ∨ good b) w' out Vs bs → ResRel (fun b => okU E u b ∨ good b) w' out Vs bs) ∧
     (∀ ds, PostOk (fun b => okX E K1 st.heap ns b ∨ good b) w' ds ps → PostOk (fun b => okU E u b ∨ good b) w' ds ps)) → GoesX P o a w st saved S w0 K Kk r := by
   intro u l4 h5 bb huns himp
   obtain ⟨hd, hK⟩ := Av4 h5
   rw [List.map_append, List.map_append, List.map_append] at hd
   obtain ⟨hd123, hd4, hdj4⟩ := I1 hd
   obtain ⟨hd12, hd3, hdj3⟩ := I1 hd123
   obtain ⟨hd1, hd2, hdj2⟩ := I1 hd12
   refine ⟨_, _, _, hK, fun Q next hnx => ?_⟩
   unfold Oper.wp
   rw [hex, Oper.upon_enter]
   refine Calls.mono hC fun e w' hR => ?_
   obtain ⟨V, rfl, am⟩ := hR
   obtain ⟨good, Vs, bs, bc, al, hnd, hbs, rfl, hpo⟩ := am.res
   obtain ⟨E1, r1, e1, e2, e3⟩ := h.frzs u bb hd1
   have hnm1 : ∀ o ∈ ms.flatMap Mref.names, o ∉ u.map Upd.name := fun o ho hu => by
    obtain ⟨x, hx, e⟩ := List.mem_map.1 hu
    exact Ek8 hap (huns x hx) (e ▸ ho)
   have hmr1 : MRefs E1 (st.upds u).heap ms ds := hmr.stay (fun o ho => ⟨by rw [e1], fun hh => by rw [e2]; exact hh⟩) (fun o ho => J6 u st o (hnm1 o ho))
   have hk2 := Ao0 ms ps p hpost hmr1
   have r2 := r1.kills p.2 hd2 hk2
   have dead2 : ∀ n ∈ p.2.map Upd.name, ¬ F5 ((st.upds u).upds p.2).heap n := by
    intro n hn hl
    obtain ⟨ob, hob⟩ := Bj9 hn
    obtain ⟨m, e', t', xs', own', e4, _⟩ := hk2 _ hob
    injection e4 with e5 e6
    subst e5; subst e6
    unfold F5 at hl
    rw [Ah0 p.2 (st.upds u) _ _ hd2 hob] at hl
    exact hl
   have live2 : ∀ n, F5 ((st.upds u).upds p.2).heap n → n ∉ p.2.map Upd.name ∧ F5 (st.upds u).heap n := fun n hl => ⟨fun hn => dead2 n hn hl, El0 (fun hn => dead2 n hn hl) hl⟩
   obtain ⟨himp1, himp2⟩ := himp good w'
   have hpo2 := himp2 ds hpo
   have hposts := Cy3 (E := E1) (E2 := ⟨E1.ρ, E1.has, fun b => E1.ok b ∨ good b⟩) rfl rfl (ok' := fun b => okU E u b ∨ good b) (fun b hb => hb.imp (fun hb => (e3 b).1 hb) id) ms ps p hpost hmr1 hpo2 hdis
   have n13 : ∀ n ∈ p.1.map Upd.name, n ∉ p.2.map Upd.name := fun n hn hn2 => hdj3 n (List.mem_append.2 (.inr hn2)) hn
   have av := Hu4 hmr1
   have r3a := r2.afterM p.1 (fun b => b ∈ ds.flatMap MD.blk) hd3 (fun n ob' hx => by
     obtain ⟨ob, k1, k2, k3, _⟩ := hposts n ob' hx
     have hn : n ∈ p.1.map Upd.name := List.mem_map.2 ⟨_, hx, rfl⟩
     refine ⟨ob, (J6 p.2 _ n (n13 n hn)).trans k1, k2, ?_⟩
     unfold F5 at k3 ⊢
     rwa [J6 p.2 _ n (n13 n hn)]) (C83 ms ps p hpost) (fun n hl hh hCn => by
     obtain ⟨o', m1, m2, m3, m4⟩ := av _ hCn
     obtain ⟨g1, g2⟩ := live2 n hl
     have e5 : n = o' := by
      rcases Classical.em (n = o') with e | e
      ·exact e
      ·exact absurd m4 (r1.dj n o' e g2 m3 hh m2)
     subst e5
     exact (Cy4 ms ps p hpost hmr1 n m1).resolve_right g1) (fun b hb => by
     obtain ⟨o', m1, m2, m3, rfl⟩ := av _ hb
     exact r1.dk o' m3 m2) am.size (fun b hb hnb => am.same b hb hnb) am.room am.os am.tape am.put good bc (fun n ob' hx h' hst => by
     obtain ⟨ob, k1, k2, k3, k4⟩ := hposts n ob' hx
     have hn : n ∈ p.1.map Upd.name := List.mem_map.2 ⟨_, hx, rfl⟩
     rcases k4 with k4 | ⟨rfl, k4⟩
     ·exact k4 h'
     ·have hg2 : C1 ((st.upds u).upds p.2).heap n = some ob' := (J6 p.2 _ n (n13 n hn)).trans k1
      refine (r2.ob n ob' hg2).step hst (by rw [hg2]; rfl) (fun hh => hh) (fun hh => am.same _ (r2.bd n (by rw [hg2]; rfl) hh) (fun hb => ?_))
      obtain ⟨o', m1, m2, m3, m4⟩ := av _ hb
      have hne : n ≠ o' := fun e => k4 (e ▸ m1)
      exact r1.dj n o' hne k3 m3 hh m2 m4)
   have live3 : ∀ n, F5 (((st.upds u).upds p.2).upds p.1).heap n → F5 ((st.upds u).upds p.2).heap n := by
    intro n hl
    by_cases hn : n ∈ p.1.map Upd.name
    ·obtain ⟨ob', hob⟩ := Bj9 hn
     obtain ⟨ob, k1, k2, k3, _⟩ := hposts n ob' hob
     unfold F5 at k3 ⊢
     rwa [J6 p.2 _ n (n13 n hn)]
    ·exact El0 hn hl
   have t1 := hT.frzs u bb hd1
   have t2 : TF ((st.upds u).upds p.2).heap w K1 := t1.upds (fun n ob hx => by
     obtain ⟨m, e', t', xs', own', e4, _⟩ := hk2 _ hx
     injection e4 with e5 e6
     rw [e6]; rfl) (fun n ob hx o hg => by
     obtain ⟨m, e', t', xs', own', e4, hm⟩ := hk2 _ hx
     injection e4 with e5 e6
     rw [e5] at hg
     rw [hg] at hm; cases hm; rfl)
   have t3 := r3a.now (t2.upds (C83 ms ps p hpost) (fun n ob' hx o hg => by
     obtain ⟨ob, k1, k2, k3, _⟩ := hposts n ob' hx
     have hn : n ∈ p.1.map Upd.name := List.mem_map.2 ⟨_, hx, rfl⟩
     rw [J6 p.2 _ n (n13 n hn)] at hg
     exact Ho0 k3 hg))
   have r3 := r3a.rebase0
   obtain ⟨E', K', r4, t4, g4, hV, _⟩ := Cy0 out 0 (ok := fun b => okU E u b ∨ good b) r3 t3 (fun n hn => by
    rw [J6 p.1 _ n (fun hm => hdj4 n (List.mem_append.2 (.inr hm)) hn), J6 p.2 _ n (fun hm => hdj4 n (List.mem_append.2 (.inl (List.mem_append.2 (.inr hm)))) hn), J6 u st n (fun hm => hdj4 n (List.mem_append.2 (.inl (List.mem_append.2 (.inl hm)))) hn)]
    exact hfr n hn) hd4 (himp1 _ _ al) (fun b hb => hb.imp (fun hb => (e3 b).1 hb) id) hnd (fun b hb => by
     rcases hbs b hb with ⟨g1, g2, g3⟩ | hgone
     ·refine ⟨fun n hl hh => ?_, ?_, fun hk => ?_, g2⟩
      ·have := r2.bd n (U3 (live3 n hl)) hh
       exact Nat.ne_of_lt (Nat.lt_of_lt_of_le this g1)
      ·rintro (hk | hk)
       ·exact absurd (r1.bo b hk) (Nat.not_lt.2 g1)
       ·exact g3 hk
      ·exact absurd (r1.kp b hk).1 (Nat.not_lt.2 g1)
     ·obtain ⟨n, k1, k2, rfl, e', t', xs', k3⟩ := Ek9 ms ps p hpost hmr1 b hgone
      have hln : F5 (st.upds u).heap n := by unfold F5; rw [k3]; trivial
      obtain ⟨d1, d2⟩ := r1.dk n hln k2
      have hbd := r1.bd n (by rw [k3]; rfl) k2
      refine ⟨fun m hl hh => ?_, ?_, d2, Nat.lt_of_lt_of_le hbd am.size⟩
      ·obtain ⟨g1, g2⟩ := live2 m (live3 m hl)
       have hne : m ≠ n := fun e => g1 (by rw [e]; exact List.mem_map.2 ⟨_, k1, rfl⟩)
       exact r1.dj m n hne g2 hln hh k2
      ·rintro (hk | hk)
       ·exact d1 hk
       ·exact absurd hbd (Nat.not_lt.2 (bc _ hk).1))
   refine hnx _ _ E' ?_
   rw [N7, N7, N7]
   exact RelX.put ⟨w', K', (hD.trans r3a.drift).trans g4.dr, t4, r4⟩ o.dst (Ct3 hV)
  cases hsh : (Ae1 out || !ps.all Po.flat) with
  | true =>
   rw [hsh] at h4
   simp only [cond_true] at h4
   obtain ⟨u, l4, h5, bb, hnames⟩ := Ca2 _ _ _ h4
   have ba : ∀ n ∈ ns, n ∈ u.map Upd.name := fun n hn => by rw [hnames]; exact Bs8 ns n hn
   have hsub : ∀ b, okX E K1 st.heap ns b → okU E u b := by
    rintro b ((hb | ⟨n, hn, _, hh, rfl⟩) | ⟨⟨n, hn, e, t, xs, q, hg⟩, _⟩)
    ·exact .inl hb
    rotate_left
    ·obtain ⟨x, hx, hxn⟩ := List.mem_map.1 (ba n hn)
     obtain ⟨o', e', t', xs', own', e1, hg'⟩ := bb _ hx
     rw [e1] at hxn
     have e2 : o' = n := hxn
     rw [e2, hg] at hg'; cases hg'
    ·obtain ⟨x, hx, hxn⟩ := List.mem_map.1 (ba n hn)
     obtain ⟨n', ob⟩ := x
     have e : n' = n := hxn
     subst e
     exact .inr ⟨n', ob, hx, hh, rfl⟩
   refine fin u l4 h5 bb (fun x hx => ?_) fun good w' => ⟨fun Vs bs al => al.imp fun _ _ rc _ v bs hrc => hrc.mono fun b hb => hb.imp (hsub b) id, fun ds hp => hp.mono fun b hb => hb.imp (hsub b) id⟩
   have : x.name ∈ B93 ns := by rw [← hnames]; exact List.mem_map.2 ⟨x, hx, rfl⟩
   exact C82 ns _ this
  | false =>
   rw [hsh] at h4
   simp only [cond_false] at h4
   simp only [Bool.or_eq_false_iff, Bool.not_eq_false'] at hsh
   refine fin [] l3 h4 (fun x hx => by cases hx) (fun x hx => by cases hx) fun good w' => ⟨fun Vs bs al => al.imp fun x hx rc hrc v bs hr => hr.flat ?_, fun ds hp => hp.flat hsh.2⟩
   have ao := hsh.1
   unfold Ae1 at ao
   have h6 := List.any_eq_false.1 ao x hx
   have h7 : x.2.any RC.shared = false := by simpa using h6
   have := List.any_eq_false.1 h7 rc hrc
   simpa using this
end
end Go.Vm
end
section
namespace Go.Vm
open Go
def Ha5 (h : F8) (u : List Upd) : Prop := ∀ n ob, Upd.o n ob ∈ u → ob.tr = false ∧ ∀ o, C1 h n = some o → o.tr = false
section
variable {st : St} {R : Type} {Kk : List Upd → VV → List Loc → Option R} {r : R}
theorem El1 : ∀ (u : List Upd) (k : RP) (l : List Loc), (Ej2 u k).run st Kk l = some r → Ha5 st.heap u ∧ ∃ l', k.run st Kk l' = some r
 | [], k, l, h => ⟨(fun n ob hx => by cases hx), l, h⟩
 | .o n ob :: u, k, l, h => by
  simp only [Ej2] at h
  cases ht : ob.tr with
  | true => rw [ht] at h; cases h
  | false =>
   rw [ht] at h
   simp only [cond_false, RP.run] at h
   have fin : ∀ {l1}, (Ej2 u k).run st Kk l1 = some r → (∀ o, C1 st.heap n = some o → o.tr = false) → Ha5 st.heap (.o n ob :: u) ∧ ∃ l', k.run st Kk l' = some r := fun h1 h2 => by
    obtain ⟨h3, h4⟩ := El1 u k _ h1
    refine ⟨fun m ob' hx => ?_, h4⟩
    cases hx with
    | head => exact ⟨ht, h2⟩
    | tail _ hx => exact h3 m ob' hx
   cases hg : C1 st.heap n with
   | none => rw [hg] at h; exact fin h fun o ho => by rw [hg] at ho; cases ho
   | some x =>
    rw [hg] at h
    simp only at h
    cases hx : x.tr with
    | true => rw [hx] at h; cases h
    | false =>
     rw [hx] at h
     exact fin h fun o ho => by rw [hg] at ho; cases ho; exact hx
theorem Ha6 : ∀ (p : RP) (l : List Loc), (safe p).run st Kk l = some r → ∃ u v l', Kk u v l' = some r ∧ Ha5 st.heap u ∧
  ∀ {R2 : Type} (K2 : List Upd → VV → List Loc → Option R2) (l2 : List Loc), ∃ l3, p.run st K2 l2 = K2 u v l3 := by
 intro p
 induction p with
 | fail => intro l h; cases h
 | done u v =>
  intro l h
  obtain ⟨h1, l', h2⟩ := El1 u _ l h
  exact ⟨u, v, l', h2, h1, fun K2 l2 => ⟨l2, rfl⟩⟩
 | rdT t k ih =>
  intro l h
  obtain ⟨u, v, l', h1, h2, h3⟩ := ih _ _ h
  exact ⟨u, v, l', h1, h2, fun K2 l2 => h3 K2 _⟩
 | rdO n k ih =>
  intro l h
  obtain ⟨u, v, l', h1, h2, h3⟩ := ih _ _ h
  exact ⟨u, v, l', h1, h2, fun K2 l2 => h3 K2 _⟩
 | ite b x y ihx ihy =>
  intro l h
  cases b with
  | true =>
   obtain ⟨u, v, l', h1, h2, h3⟩ := ihx _ h
   exact ⟨u, v, l', h1, h2, fun K2 l2 => h3 K2 _⟩
  | false =>
   obtain ⟨u, v, l', h1, h2, h3⟩ := ihy _ h
   exact ⟨u, v, l', h1, h2, fun K2 l2 => h3 K2 _⟩
 | opt o k ih =>
  intro l h
  cases o with
  | none => cases h
  | some a =>
   obtain ⟨u, v, l', h1, h2, h3⟩ := ih a _ h
   exact ⟨u, v, l', h1, h2, fun K2 l2 => h3 K2 _⟩
end
theorem GoesX.safe {P : Program} {o : Oper} {E : Env} {st : St} {saved : List (Nat × List VV)} {a : Act} {S : List (Array Value)} {w w0 : World} {K : Keep} {R : Type} {Kk : List Upd → VV → List Loc → Option R} {r : R} {l : List Loc} {p : RP}
  (hX : RelX E st saved a S w w0 K) (aa : (Vm.safe p).run st Kk l = some r)
  (hs : ∀ {w1 K1}, RelE E st saved a S w w1 K1 → ∀ (u : List Upd) (v : VV) (l0 : List Loc), p.run st (fun u v _ => some (u, v)) l0 = some (u, v) → Goes P o a w st saved S w1 K1 (fun u v _ => some (u, v)) (u, v)) :
  GoesX P o a w st saved S w0 K Kk r := by
 obtain ⟨w1, K1, hD, hT, h⟩ := hX
 obtain ⟨u, v, l', h1, h2, h3⟩ := Ha6 p l aa
 obtain ⟨l3, h4⟩ := h3 (fun u v _ => some (u, v)) []
 obtain ⟨u', v', _, h5, h6⟩ := hs h u v [] h4
 simp only [Option.some.injEq, Prod.mk.injEq] at h5
 obtain ⟨rfl, rfl⟩ := h5
 refine ⟨_, _, l', h1, fun Q next hn => h6 Q next fun a' w' E' hr => hn a' w' E' ⟨w1, K1, hD, ?_, hr⟩⟩
 have ht := hT.upds (fun n ob hx => (h2 n ob hx).1) (fun n ob hx => (h2 n ob hx).2)
 cases o.dst <;> exact ht
end Go.Vm
end
section
namespace Go.Vm
open Go
section
variable {E : Env} {st : St} {saved : List (Nat × List VV)} {a : Act} {S : List (Array Value)} {w w' w0 w1 : World} {K K1 : Keep}
variable {P : Program} {cfg : Cfg} {R : Type} {Kk : List Upd → VV → List Loc → Option R} {l : List Loc} {r : R} {op : Oper}
end
end Go.Vm
end
section
namespace Go.Vm
open Go
section
variable {st : St} {R : Type} {Kk : List Upd → VV → List Loc → Option R} {l : List Loc} {r : R}
end
section
variable {P : Program} {cfg : Cfg} {E : Env} {st : St} {saved : List (Nat × List VV)} {a : Act} {S : List (Array Value)} {w w0 : World} {K : Keep}
 {R : Type} {Kk : List Upd → VV → List Loc → Option R} {l : List Loc} {r : R} {op : Oper}
end
end Go.Vm
end
section
namespace Go.Vm
open Go
section
variable {P : Program} {cfg : Cfg} {E : Env} {st : St} {saved : List (Nat × List VV)} {a : Act} {S : List (Array Value)} {w w0 : World} {K : Keep}
 {R : Type} {Kk : List Upd → VV → List Loc → Option R} {l : List Loc} {r : R} {op : Oper}
end
end Go.Vm
end
section
namespace Go.Vm
open Go
section
variable {st : St} {R : Type} {Kk : List Upd → VV → List Loc → Option R} {l : List Loc} {r : R} {P : Program} {f : FuncId}
end
section
variable {P : Program} {cfg : Cfg} {E : Env} {st : St} {saved : List (Nat × List VV)} {a : Act} {S : List (Array Value)} {w w' w0 : World} {K : Keep}
 {R : Type} {Kk : List Upd → VV → List Loc → Option R} {l : List Loc} {r : R} {op : Oper}
theorem TreeAt.list {g off : Nat} {t : Ty} {β : Nat → Nat → Option (Nat × Nat)} {xs : List (El t)} (hT : TreeAt w g off t β xs) : ∃ ns : List Nat, ∀ b, b ∈ ns ↔ ∃ i f p, β i f = some (b, p) := by
 refine ⟨(List.range xs.length).flatMap fun i => (List.range t.sz).filterMap fun f => (β i f).map Prod.fst, fun b => ⟨fun h => ?_, fun ⟨i, f, p, h⟩ => ?_⟩⟩
 ·obtain ⟨i, _, h⟩ := List.mem_flatMap.1 h
  obtain ⟨f, _, h⟩ := List.mem_filterMap.1 h
  obtain ⟨q, h1, h2⟩ := Option.map_eq_some_iff.1 h
  exact ⟨i, f, q.2, by rw [h1, ← h2]⟩
 ·obtain ⟨h1, h2⟩ := hT.lt i f b p h
  exact List.mem_flatMap.2 ⟨i, List.mem_range.2 h1, List.mem_filterMap.2 ⟨f, List.mem_range.2 h2, by rw [h]; rfl⟩⟩
end
end Go.Vm
end
section
namespace Go.Vm
open Go
section
variable {P : Program} {cfg : Cfg} {E : Env} {st : St} {saved : List (Nat × List VV)} {a : Act} {S : List (Array Value)} {w w0 : World} {K : Keep}
 {R : Type} {Kk : List Upd → VV → List Loc → Option R} {l : List Loc} {r : R} {o : Oper}
theorem Dd3 (h : RelE E st saved a S w w0 K) {T : TypeId} {n0 n1 : Nat} (ho : o.op = .alloc T) {zv : Value} (hp : ∃ i, P.info? T = some i ∧ i.size = 1 ∧ i.zero = some zv) (hzv : zv = .pointer none ∨ zv = .map none)
  (aa : (Z9 n1 (Z9 n0 (z7 [.o n1 .dead, .o n0 (.box [.eptr n1 0 0])] (one (.ptr n0 0))))).run st Kk l = some r) : Goes P o a w st saved S w0 K Kk r := by
 obtain ⟨hn1, l1, h1⟩ := f8 aa
 obtain ⟨hn0, l2, h2⟩ := f8 h1
 obtain ⟨hd, hK⟩ := Av4 h2
 simp only [List.map_cons, List.map_nil, Upd.name] at hd
 have hne : n1 ≠ n0 := by
  obtain ⟨g1, _⟩ := Q6 hd
  simpa using g1
 obtain ⟨i, hi, hs, hz⟩ := hp
 have r1 := h.named hn1 (0, 0) False .dead (fun f => f.elim) trivial
 have hst := Aj7 (st := st) (E := E) (w := w) hn1 (0, 0) False .dead
 have hn0' : C1 (hset st.heap n1 .dead) n0 = none := by rw [C3, if_neg (Ne.symm hne)]; exact hn0
 have hcs : All2 (CellRel (E.at n1 (0, 0) False) (hset st.heap n1 .dead) w) [.eptr n1 0 0] [zv] := by
  refine .cons ?_ .nil
  have : hsh (hset st.heap n1 .dead) n1 = some .dead := by rw [K6, if_pos rfl]; rfl
  simp only [CellRel, this]
  rcases hzv with rfl | rfl <;> rfl
 obtain ⟨hr, hc⟩ := Er3 r1 (nm := n0) hn0' hcs T
 refine ⟨_, _, l2, hK, fun Q next hnx => OpRes.wp ⟨.pointer (some ⟨w.heap.size, 0, none⟩), _, _, .inl ?_, hr, VRel.one hc⟩ Q next hnx⟩
 rcases hzv with rfl | rfl <;> simp [execOp, ho, Instr.alloc, zeroValue, typeInfo, hi, hz, newVar, newRow, Value.cells]
theorem Hy1 (G : Good P cfg) (h : RelE E st saved a S w w0 K) {nm : Nat → Nat} (aa : (opO cfg nm o).run st Kk l = some r) : Goes P o a w st saved S w0 K Kk r := by
 unfold opO at aa
 split at aa
 ·exact G90 h (.inl ‹_›) aa
 ·exact G90 h (.inr ‹_›) aa
 ·exact Ht7 h ‹_› aa
 ·rename_i T ho
  cases hT : look cfg.tab T with
  | some t =>
   rw [hT] at aa
   exact Hn4 G h ho hT aa
  | none =>
   rw [hT] at aa
   simp only at aa
   cases hp : cfg.ptrs.any (Nat.beq T) with
   | false =>
    rw [hp] at aa
    simp only [cond_false] at aa
    split at aa
    ·rename_i t hm
     exact Dd3 h ho (G.map T t hm).info (.inr rfl) aa
    ·cases aa
   | true =>
    rw [hp] at aa
    exact Dd3 h ho (G.ptr T hp).info (.inl rfl) aa
 ·exact Hx7 h ‹_› aa
 ·exact Hn6 G h ‹_› aa
 ·exact Er7 G h ‹_› aa
 ·exact Ht9 G h ‹_› aa
 ·exact Hn5 G h ‹_› aa
 ·exact F52 h ‹_› aa
 ·exact Hm9 G h ‹_› aa
 ·exact Ht8 h ‹_› aa
 ·exact Gy2 G h ‹_› aa
 ·exact F54 h ‹_› aa
 ·exact Fe2 G h ‹_› aa
 ·exact Hn2 G h ‹_› aa
 ·exact Ha1 G h ‹_› aa
 ·exact Gy3 G h ‹_› aa
 ·exact G99 G h ‹_› aa
 ·exact Fe7 G h ‹_› aa
 ·exact Fd6 G h ‹_› aa
 ·exact Fd7 G h ‹_› aa
 ·exact Hn0 G h ‹_› aa
 ·exact Gx7 h ‹_› aa
 ·rename_i b args argTypes ho
  split at aa
  ·rename_i x T ae hT
   have e1 : args = #[x] := by apply Array.toList_inj.1; rw [ae]
   have e2 : argTypes = #[T] := by apply Array.toList_inj.1; rw [hT]
   subst e1; subst e2
   exact Hx6 G h ho aa
  ·rename_i b _ _ _ _
   cases b with
   | append => exact G97 G h (c := { callee := .builtin .append, args, argTypes }) ho rfl aa
   | min => exact Hx8 (cfg := cfg) h (c := { callee := .builtin .min, args, argTypes }) ho rfl aa
   | clear => exact Hn8 G h (c := { callee := .builtin .clear, args, argTypes }) ho rfl aa
   | max => exact Hx9 (cfg := cfg) h (c := { callee := .builtin .max, args, argTypes }) ho rfl aa
   | _ =>
    obtain ⟨vs, l1, h1, -⟩ := Y5 _ _ _ aa
    unfold t7 at h1
    split at h1 <;> first | contradiction | cases h1
 ·cases aa
theorem Hy2 (hG : Ok P cfg) (hX : RelX E st saved a S w w0 K) {nm : Nat → Nat} (aa : (opN cfg nm o).run st Kk l = some r) : GoesX P o a w st saved S w0 K Kk r := by
 have G := hG.toGood
 have plain : ∀ {l}, (Vm.safe (opO cfg nm o)).run st Kk l = some r → GoesX P o a w st saved S w0 K Kk r := fun aa =>
  GoesX.safe hX aa fun h u v l0 h0 => Hy1 G h h0
 have hX' := hX
 obtain ⟨wb, K1, hD, hT0, h⟩ := hX'
 unfold opN at aa
 split at aa
 ·exact plain aa
 ·exact plain aa
 ·exact plain aa
 ·rename_i f args argTypes ho
  obtain ⟨vs, l1, h1, h2⟩ := Y5 _ _ _ aa
  cases hs : look cfg.spec f with
  | some s => exact Hu2 hG hX (c := { callee := .value (.func f), args, argTypes }) (nm := nm) (l := l) ho rfl (by simp only [hs] at aa ⊢; exact aa)
  | none =>
   simp only [hs] at aa h1
   cases hm : look cfg.mspec f with
   | none => rw [hm] at h1; cases h1
   | some s =>
    simp only [hm] at aa h1
    exact Ha4 hG hX ho rfl hm (h2 h) h1
 ·exact plain aa
theorem Hy3 (hG : Ok P cfg) (h : RelX E st saved a S w w0 K) {base : Nat} (aa : (D90 cfg base o).run st Kk l = some r) : GoesX P o a w st saved S w0 K Kk r := Hy2 hG h aa
end
end Go.Vm
end
section
namespace Go.Vm
open Go
theorem El2 : ∀ (l : List VV) (n : Nat), Cs7 l n (b8 l n) = l
 | [], n => rfl
 | x :: l, 0 => rfl
 | x :: l, n + 1 => by simp only [b8, Cs7, El2 l n]
theorem C84 {s : St} {t : Nat} {b : Bool} (h : b8 s.tmps t = .v ⟨false, [.bool b]⟩) : Dl8 s t b = s := by
 have : one (.bool b) = b8 s.tmps t := h.symm
 simp only [Dl8, this, El2]
section
variable {P : Program} {cfg : Cfg} {E : Env} {st : St} {saved : List (Nat × List VV)} {a : Act} {S : List (Array Value)} {w w0 : World} {K : Keep}
theorem El3 {l : List VV} {m : List Value} {r : VV → Value → Prop} (h : All2 r l m) {t : Nat} {x : VV} (hx : b8 l t = x) (hne : x ≠ .un) : ∃ v, m[t]? = some v ∧ r x v := by
 induction h generalizing t with
 | nil => exact absurd hx.symm hne
 | cons p _ ih => cases t with
  | zero => simp only [b8] at hx; subst hx; exact ⟨_, rfl, p⟩
  | succ t => exact ih hx
theorem Ff4 (h : RelX E st saved a S w w0 K) {t : Nat} {b : Bool} (hx : b8 st.tmps t = .v ⟨false, [.bool b]⟩) : a.tmps[t]? = some (.bool b) := by
 obtain ⟨v, hv, hr⟩ := El3 h.tm hx (fun e => by cases e)
 have : v = .bool b := V1Rel.one hr
 subst this
 simpa using hv
theorem El4 (h : RelX E st saved a S w w0 K) {t : Nat} (hx : b8 st.tmps t = .tup []) : a.tmps[t]? = some (.tuple #[]) := by
 obtain ⟨v, hv, hr⟩ := El3 h.tm hx (fun e => by cases e)
 obtain ⟨Vs, h1, rfl⟩ := hr
 cases h1
 simpa using hv
theorem Ff5 (A : Array Oper) (j : Nat) : Gt7 A.toList j = (A[j]?).bind (·.dst) := by
 unfold Gt7
 rw [Array.getElem?_toList]
 cases A[j]? <;> rfl
variable {R : Type} {r : R} {call : FuncId → List V1 → (VV → Ms → Option R) → Ms → Option R} {Kc : Ms → Option R} {Q : Exit → Act → World → Prop}
theorem Ho1 {h : F8} {caps : List Nat} {vs : List Value} (k : All2 (PtrRel E h) caps vs) : All2 (V1Rel E h w) (caps.map fun c => (⟨false, [.ptr c 0]⟩ : V1)) vs := by
 induction k with
 | nil => exact .nil
 | cons p _ ih =>
  obtain ⟨n, hs, rfl⟩ := p
  exact .cons (V1Rel.mkOne ⟨n, hs, by rw [Nat.add_zero]⟩) ih
end
end Go.Vm
end
section
namespace Go.Vm
open Go
def El5 (s s2 : St) (l : List Loc) : Prop := (∀ t, Loc.t t ∈ l → b8 s2.tmps t = b8 s.tmps t) ∧ (∀ n, Loc.o n ∈ l → C1 s2.heap n = C1 s.heap n)
theorem RP.run_inv {s : St} {R : Type} {K : List Upd → VV → List Loc → Option R} {r : R} : ∀ (p : RP) (l : List Loc), p.run s K l = some r →
  ∃ u v l', K u v l' = some r ∧ (∀ x ∈ l, x ∈ l') ∧ ∀ s2, El5 s s2 l' → ∀ {R2 : Type} (K2 : List Upd → VV → List Loc → Option R2), p.run s2 K2 l = K2 u v l' := by
 intro p
 induction p with
 | fail => intro l h; cases h
 | done e v => intro l h; exact ⟨e, v, l, h, fun _ h => h, fun s2 _ R2 K2 => rfl⟩
 | rdT t k ih =>
  intro l h
  obtain ⟨u, v, l', h1, h2, h3⟩ := ih _ _ h
  refine ⟨u, v, l', h1, fun x hx => h2 x (List.mem_cons_of_mem _ hx), fun s2 ha R2 K2 => ?_⟩
  simp only [RP.run]
  rw [ha.1 t (h2 _ List.mem_cons_self)]
  exact h3 s2 ha K2
 | rdO n k ih =>
  intro l h
  obtain ⟨u, v, l', h1, h2, h3⟩ := ih _ _ h
  refine ⟨u, v, l', h1, fun x hx => h2 x (List.mem_cons_of_mem _ hx), fun s2 ha R2 K2 => ?_⟩
  simp only [RP.run]
  rw [ha.2 n (h2 _ List.mem_cons_self)]
  exact h3 s2 ha K2
 | ite b x y ihx ihy =>
  intro l h
  cases b with
  | true => exact ihx l h
  | false => exact ihy l h
 | opt o k ih =>
  intro l h
  cases o with
  | none => cases h
  | some a => exact ih a l h
section
variable {α : Type} (f : Nat → Option α) (x0 : α)
def Ah1 (L : Nat → Bool) : Nat → α
 | 0 => x0
 | k + 1 => if L k = true then (f k).getD (Ah1 L k) else Ah1 L k
variable {f x0}
theorem Ff6 {L L' : Nat → Bool} : ∀ n, (∀ k, k < n → L k = L' k) → Ah1 f x0 L n = Ah1 f x0 L' n
  | 0, _ => rfl
  | n + 1, h => by
    simp only [Ah1, Ff6 n (fun k hk => h k (Nat.lt_succ_of_lt hk)), h n (Nat.lt_succ_self n)]
theorem El6 {L : Nat → Bool} {i : Nat} (h1 : ∀ k, k < i → (f k).isSome = true → L k = true) :
    ∀ n, i ≤ n → (∀ k, i ≤ k → k < n → L k = true → f k = none) → Ah1 f x0 L n = Ah1 f x0 (fun _ => true) i := by
  have h0 : ∀ n, n ≤ i → Ah1 f x0 L n = Ah1 f x0 (fun _ => true) n := by
    intro n
    induction n with
    | zero => intro _; rfl
    | succ n ih =>
      intro hn
      simp only [Ah1, ih (by omega), if_true]
      by_cases hL : L n = true
      · rw [if_pos hL]
      · rw [if_neg hL]
        cases hf : f n with
        | none => rfl
        | some a => exact absurd (h1 n (by omega) (by rw [hf]; rfl)) hL
  intro n
  induction n with
  | zero => intro hn _; have : i = 0 := by omega
            subst this; rfl
  | succ n ih =>
    intro hn h2
    by_cases e : i = n + 1
    · subst e; exact h0 _ (Nat.le_refl _)
    · simp only [Ah1]
      rw [ih (by omega) (fun k hk hk' => h2 k hk (by omega))]
      by_cases hL : L n = true
      · rw [if_pos hL, h2 n (by omega) (by omega) hL]; rfl
      · rw [if_neg hL]
theorem Ff7 {L : Nat → Bool} {i : Nat} (hi : L i = false) :
  ∀ n, i < n → (∀ k, i < k → k < n → L k = true → (f k).isSome = true → f i = none) → Ah1 f x0 (fun k => L k || k == i) n = (f i).getD (Ah1 f x0 L n) := by
 intro n
 induction n with
 | zero => intro h; omega
 | succ n ih =>
  intro hn h2
  by_cases e : i = n
  ·subst e
   have : Ah1 f x0 (fun k => L k || k == i) i = Ah1 f x0 L i := Ff6 i (fun k hk => by
    have : (k == i) = false := by simp; omega
    simp [this])
   simp only [Ah1, this, hi]
   simp
  ·have ih' := ih (by omega) (fun k hk hk' => h2 k hk (by omega))
   have hne : (n == i) = false := by simp; omega
   simp only [Ah1, hne, Bool.or_false, ih']
   by_cases hL : L n = true
   ·rw [if_pos hL, if_pos hL]
    cases hf : f n with
    | none => rfl
    | some a =>
     rw [h2 n (by omega) (by omega) hL (by rw [hf]; rfl)]
     rfl
   ·rw [if_neg hL, if_neg hL]
end
structure Eff where
 l : List Loc
 d : Option Tmp
 u : List Upd
 v : VV
def Eff.app (e : Eff) (s : St) : St := A07 (s.upds e.u) e.d e.v
def Cy5 : List Upd → Nat → Option Obj
 | [], _ => none
 | .o m o :: u, n => match Cy5 u n with
  | some x => some x
  | none => if n = m then some o else none
theorem Ds8 : ∀ (u : List Upd) (s : St) (n : Nat), C1 (s.upds u).heap n = match Cy5 u n with | some o => some o | none => C1 s.heap n
 | [], s, n => rfl
 | .o m o :: u, s, n => by
  show C1 ((s.upd (.o m o)).upds u).heap n = _
  rw [Ds8 u _ n]
  simp only [Cy5]
  cases Cy5 u n with
  | some x => rfl
  | none =>
   show C1 (hset s.heap m o) n = _
   rw [C3]
   split <;> rfl
theorem Ds9 : ∀ (u : List Upd) (n : Nat), (Cy5 u n).isSome = true → Loc.o n ∈ u.map Upd.loc
 | [], n, h => by cases h
 | .o m o :: u, n, h => by
  simp only [Cy5] at h
  cases hl : Cy5 u n with
  | some x => exact List.mem_cons_of_mem _ (Ds9 u n (by rw [hl]; rfl))
  | none =>
   rw [hl] at h
   by_cases e : n = m
   ·subst e; exact List.mem_cons_self
   ·rw [if_neg e] at h; cases h
theorem El7 : ∀ (l : List VV) (n : Nat) (v : VV) (t : Nat), b8 (Cs7 l n v) t = if t = n ∧ n < l.length then v else b8 l t
 | [], n, v, t => by simp [Cs7]
 | x :: l, 0, v, t => by cases t <;> simp [Cs7, b8]
 | x :: l, n + 1, v, t => by
  cases t with
  | zero => simp [Cs7, b8]
  | succ t => simp only [Cs7, b8, El7 l n v t]; simp
def Eff.fT (e : Eff) (len t : Nat) : Option VV := match e.d with
 | some d => if t = d ∧ d < len then some e.v else none
 | none => none
def Eff.fO (e : Eff) (n : Nat) : Option (Option Obj) := (Cy5 e.u n).map some
theorem Eff.len (e : Eff) (s : St) : (e.app s).tmps.length = s.tmps.length := by
 unfold Eff.app A07
 split
 ·rw [Dq1]; simp [Bb4]
 ·simp [Bb4]
theorem Eff.tget_app (e : Eff) (s : St) (t : Nat) : b8 (e.app s).tmps t = (e.fT s.tmps.length t).getD (b8 s.tmps t) := by
 unfold Eff.app A07 Eff.fT
 cases e.d with
 | none => simp [Bb4]
 | some d =>
  simp only [Bb4, El7]
  split <;> rfl
theorem Eff.hget_app (e : Eff) (s : St) (n : Nat) : C1 (e.app s).heap n = (e.fO n).getD (C1 s.heap n) := by
 have : (e.app s).heap = (s.upds e.u).heap := by unfold Eff.app A07; split <;> rfl
 rw [this, Ds8]
 unfold Eff.fO
 cases Cy5 e.u n <;> rfl
def Eff.wrs (e : Eff) : List Loc := (match e.d with | some d => [.t d] | none => []) ++ e.u.map Upd.loc
theorem Eff.fT_wrs {e : Eff} {len t : Nat} (h : (e.fT len t).isSome = true) : Loc.t t ∈ e.wrs := by
 unfold Eff.fT at h
 unfold Eff.wrs
 cases hd : e.d with
 | none => rw [hd] at h; cases h
 | some d =>
  rw [hd] at h
  simp only at h
  split at h
  ·rename_i hc
   rw [hc.1]
   simp
  ·cases h
theorem Eff.fO_wrs {e : Eff} {n : Nat} (h : (e.fO n).isSome = true) : Loc.o n ∈ e.wrs := by
 unfold Eff.fO at h
 exact List.mem_append.2 (.inr (Ds9 e.u n (by simpa using h)))
def Bd0 (e : Nat → Eff) (s0 : St) (L : Nat → Bool) : Nat → St
 | 0 => s0
 | k + 1 => if L k = true then (e k).app (Bd0 e s0 L k) else Bd0 e s0 L k
section
variable {e : Nat → Eff} {s0 : St}
theorem Bs9 (L : Nat → Bool) : ∀ n, (Bd0 e s0 L n).tmps.length = s0.tmps.length
 | 0 => rfl
 | n + 1 => by
  simp only [Bd0]
  split
  ·rw [Eff.len, Bs9 L n]
  ·exact Bs9 L n
theorem Bb5 (L : Nat → Bool) (t : Nat) : ∀ n, b8 (Bd0 e s0 L n).tmps t = Ah1 (fun k => (e k).fT s0.tmps.length t) (b8 s0.tmps t) L n
 | 0 => rfl
 | n + 1 => by
  simp only [Bd0, Ah1]
  by_cases hL : L n = true
  ·rw [if_pos hL, if_pos hL, Eff.tget_app, Bs9, Bb5 L t n]
  ·rw [if_neg hL, if_neg hL, Bb5 L t n]
theorem Bb6 (L : Nat → Bool) (m : Nat) : ∀ n, C1 (Bd0 e s0 L n).heap m = Ah1 (fun k => (e k).fO m) (C1 s0.heap m) L n
 | 0 => rfl
 | n + 1 => by
  simp only [Bd0, Ah1]
  by_cases hL : L n = true
  ·rw [if_pos hL, if_pos hL, Eff.hget_app, Bb6 L m n]
  ·rw [if_neg hL, if_neg hL, Bb6 L m n]
end
theorem Ff8 : ∀ {l m : List VV}, l.length = m.length → (∀ t, b8 l t = b8 m t) → l = m
 | [], [], _, _ => rfl
 | [], _ :: _, h, _ => by simp at h
 | _ :: _, [], h, _ => by simp at h
 | x :: l, y :: m, h, k => by
  have h1 := k 0
  simp only [b8] at h1
  rw [h1, Ff8 (by simpa using h) (fun t => k (t + 1))]
section
variable {E : Env} {st st' : St} {saved : List (Nat × List VV)} {a : Act} {S : List (Array Value)} {w w0 : World} {K : Keep}
theorem Ho2 {h h' : F8} (k : ∀ n, C1 h' n = C1 h n) (n : Nat) : hsh h' n = hsh h n := by simp [hsh, k n]
theorem Step.ext {h h' : F8} (k : ∀ n, C1 h' n = C1 h n) : Step E E h h' w w :=
 ⟨fun _ _ => rfl, fun _ _ => Iff.rfl, fun _ h => h, fun _ _ => rfl, fun _ _ h => h, fun n s hs => .inl (by rw [Ho2 k]; exact hs)⟩
theorem RelE.ext (h : RelE E st saved a S w w0 K) (ht : st'.tmps = st.tmps) (k : ∀ n, C1 st'.heap n = C1 st.heap n) : RelE E st' saved a S w w0 K := by
 have hs : Step E E st.heap st'.heap w w := Step.ext k
 have hl : ∀ n, F5 st'.heap n → F5 st.heap n := fun n hn => by unfold F5 at hn ⊢; rwa [k n] at hn
 refine ⟨by rw [ht]; exact M3 hs h.tm, h.df, h.sv.mono fun _ _ q => M3 hs q, fun n o hn => ?_, fun n n' hne h1 h2 => h.dj n n' hne (hl n h1) (hl n' h2), fun n hn => h.dk n (hl n hn), fun n hn => h.bd n (by rw [← k n]; exact hn), h.bo, h.kp, h.os, h.tape, h.out, h.size, h.oz, h.rm, h.trees hs fun n o hn _ => by rw [← k n]; exact hn⟩
 rw [k n] at hn
 exact (h.ob n o hn).step hs (by rw [hn]; rfl) (fun h => h) (fun _ => rfl)
theorem TF.ext {h h' : F8} (ht : TF h w K) (k : ∀ n, C1 h' n = C1 h n) : TF h' w K := by
 obtain ⟨β, hb⟩ := ht
 refine ⟨β, fun n e t xs q hn => hb.tr n e t xs q (by rw [← k n]; exact hn), fun n e t xs q hn => hb.fx n e t xs q (by rw [← k n]; exact hn), fun n n' o o' hne hn hn' => hb.ap n n' o o' hne (by rw [← k n]; exact hn) (by rw [← k n']; exact hn'), fun n o i f e t m hn => ?_⟩
 obtain ⟨e2, t2, xs, q, h1, h2⟩ := hb.bo n o i f e t m (by rw [← k n]; exact hn)
 exact ⟨e2, t2, xs, q, (k o).trans h1, h2⟩
theorem RelX.ext (h : RelX E st saved a S w w0 K) (ht : st'.tmps = st.tmps) (k : ∀ n, C1 st'.heap n = C1 st.heap n) : RelX E st' saved a S w w0 K := by
 obtain ⟨w1, K1, h1, h2, h3⟩ := h
 exact ⟨w1, K1, h1, h2.ext k, h3.ext ht k⟩
theorem RelX.still {w' : World} (h : RelX E st saved a S w w0 K) (hh : w'.heap = w.heap) (ho : w'.os = w.os) (ht : w'.tape = w.tape) (hu : w'.output = w.output) : RelX E st saved a S w' w0 K := by
 obtain ⟨w1, K1, h1, h2, h3⟩ := h
 exact ⟨w1, K1, h1, h2, h3.still hh ho ht hu⟩
end
end Go.Vm
end
end
