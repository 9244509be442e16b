/- The library: by its contract. -/
import Derived.Test.YtgobdchlaclhiaaGreatWc
import Derived.Lib.Overlaps
import Derived.Lib.AppendZeros
import Derived.Lib.AppendZerosOnto
import Derived.Laws.IdiomCopy
import Derived.Shelf.RegionOpenPlain
import Derived.WalkKit
import Derived.Lib.Walk
import Derived.Laws.Externs
set_option linter.unusedVariables false
section
namespace Go.Vm
open Go
section
variable {P : Program}
theorem run_copy_k (w : World) (dT sT ty elem : TypeId) (k b o dLen dCap : Nat) (a : Addr) (sLen sCap : Nat) (cs : List Value)
    (hu : P.underlying dT = some (.slice elem)) (hs : ∀ w, (sizeOf elem).run P w = .ok k w) (hn : cs.length = Nat.min sLen dLen * k)
    (hsrc : ∀ j v, cs[j]? = some v → w.cell? (a.add j) = some v) (hc : ∀ j, j < cs.length → (w.cell? ⟨b, o + j, none⟩).isSome = true) (hf : ∀ j, j < cs.length → w.frozen? ⟨b, o + j, none⟩ = false) (h1 : ∀ v ∈ cs, v.oneCell' = true) :
    (Builtin.copy_ #[dT, sT] ty #[.slice (some ⟨b, o, none⟩) dLen dCap, .slice (some a) sLen sCap]).run P w = .ok (goInt (Nat.min sLen dLen)) (putCells b cs o w) := by
  have hl := run_loadCells_list (P := P) w a cs hsrc
  have hst := run_putCells P b o cs 0 w (fun j hj => ⟨by rw [Nat.add_zero]; exact hc j hj, by rw [Nat.add_zero]; exact hf j hj⟩) h1
  rw [Nat.add_zero] at hst
  simp [Builtin.copy_, run_underlying hu, Builtin.lenOf, Builtin.firstCells, hs, ← hn, hl, hst]
theorem run_overlaps_own (w : World) (tS tR e : TypeId) (ht : P.underlying tS = some (.slice e)) (size : Nat) (hz : ∀ w, (sizeOf e).run P w = .ok size w)
    (a b : Addr) (la ca lb cb : Nat) (hne : a.block ≠ b.block) (tA tB : TypeId) (kA kB : Nat)
    (hsa : w.shape? a.block = some (tA, kA)) (hka : kA ≠ 0) (hsb : w.shape? b.block = some (tB, kB)) (hkB : kB ≠ 0)
    (hfb : ∀ o, w.frozen? ⟨b.block, o, none⟩ = false) (hfb0 : w.frozen? b = false) :
    (Extern.SlicesOverlaps.overlaps #[tS, tS] #[tR] #[.slice (some a) la ca, .slice (some b) lb cb]).run P w = .ok (.bool false) w := by
  have hnb : (a.block != b.block) = true := by simpa using hne
  have hnb' : (a.block == b.block) = false := by simpa using hne
  change Sem.run P (α := Value) (do
    let some t := (#[tS, tS] : Array TypeId)[0]? | stuck "slices.overlaps: no parameter types"
    let .slice elem ← underlying t | stuck "slices.overlaps: slice type expected"
    let size ← sizeOf elem
    match (some a : Option Addr), (some b : Option Addr) with
    | some a, some b =>
      if la = 0 ∨ lb = 0 ∨ size = 0 then pure (Value.bool false)
      else if a.block != b.block && (← frozen a) && (← frozen b) then unsupported .addressObserved
      else do
        if a.block != b.block then do
          noView a; noView b
          if ← mayBeOne a b then return Value.bool ((← choose (.extern "sameAddr.stringBytes" 2)) == 1)
        pure (Value.bool (a.block == b.block && a.off < b.off + lb * size && b.off < a.off + la * size))
    | _, _ => pure (Value.bool false)) w = _
  have hfe : w.frozen? { block := b.block, off := kB } = false := hfb kB
  by_cases h0 : la = 0 ∨ lb = 0 ∨ size = 0
  · simp [run_underlying ht, hz, h0]
  · cases kB with
    | zero => exact absurd rfl hkB
    | succ kB =>
      cases kA with
      | zero => exact absurd rfl hka
      | succ kA =>
        cases q1 : w.frozen? a <;> cases q2 : w.frozen? { block := a.block, off := kA + 1 } <;>
          simp [run_underlying ht, hz, h0, hnb, hnb', frozen, noView, viewAt, mayBeOne, stringish, Sem.run, hsa, hsb, hfb0, hfe, q1, q2]
end
theorem cell_block {w : World} {b o : Nat} {v : Value} (h : w.cell? ⟨b, o, none⟩ = some v) : ∃ cs e fr, w.heap[b]? = some (.cells cs e fr) ∧ o < cs.size := by
  unfold World.cell? at h
  cases hb : w.heap[b]? with
  | none => rw [hb] at h; cases h
  | some ob =>
    rw [hb] at h
    cases ob with
    | cells cs e fr =>
      refine ⟨cs, e, fr, rfl, ?_⟩
      have h : cs[o]? = some v := by simpa using h
      rw [Array.getElem?_eq_some_iff] at h; exact h.1
    | _ => cases h
structure InsPost (w w' : World) (g B O c k : Nat) (L : List Value) : Prop where
  os : w'.os = w.os
  tape : w'.tape = w.tape
  put : w'.output = w.output
  size : w.heap.size ≤ w'.heap.size
  same : ∀ b, b < w.heap.size → b ≠ g → w'.heap[b]? = w.heap[b]?
  room : ∀ b m, Room w b m → Room w' b m
  who : B = g ∨ (w.heap.size ≤ B ∧ B < w'.heap.size)
  cells : ∀ j v, L[j]? = some v → w'.cell? ⟨B, O + j, none⟩ = some v
  frz : (∀ o, w.frozen? ⟨g, o, none⟩ = false) → ∀ o, w'.frozen? ⟨B, o, none⟩ = false
  rm : Room w' B (O + c * k)
structure InsStart (w : World) (A : Option Addr) (g off n c k i vb vo : Nat) (cs vs : List Value) : Prop where
  hi : i ≤ n
  hnc : n ≤ c
  hn : n ≤ 1073741824
  hcl : cs.length = n * k
  hvl : vs.length = k
  hk : 0 < k
  h1c : ∀ v ∈ cs, v.oneCell' = true
  h1v : ∀ v ∈ vs, v.oneCell' = true
  hvs : ∀ j v, vs[j]? = some v → w.cell? ⟨vb, vo + j, none⟩ = some v
  hvb : vb ≠ g
  start : (c = 0 ∧ w.heap.size ≤ g) ∨ (A = some ⟨g, off, none⟩ ∧ g < w.heap.size ∧ (∀ j v, cs[j]? = some v → w.cell? ⟨g, off + j, none⟩ = some v) ∧ Room w g (off + c * k) ∧ ∀ o, w.frozen? ⟨g, o, none⟩ = false)
def InsWalk (P : Program) (f : FuncId) (k : Nat) : Prop := ∀ (w : World) (A : Option Addr) (g off n c i vb vo vc : Nat) (cs vs : List Value), InsStart w A g off n c k i vb vo cs vs →
  Calls P f #[.slice A n c, .int .i64 i, .slice (some ⟨vb, vo, none⟩) 1 vc] w fun e w' => ∃ B O c', e = .returned (.slice (some ⟨B, O, none⟩) (n + 1) c') ∧ n + 1 ≤ c' ∧ InsPost w w' g B O c' k (cs.take (i * k) ++ vs ++ cs.drop (i * k))
theorem Puts.ins {g : Nat} {w w' : World} (h : Puts g w w') {O c k : Nat} {L : List Value} (hr : Room w g (O + c * k)) (hc : ∀ j v, L[j]? = Option.some v → w'.cell? ⟨g, O + j, none⟩ = Option.some v) : InsPost w w' g g O c k L :=
  ⟨h.os, h.tape, h.out, Nat.le_of_eq h.size.symm, fun b _ hb => h.other b hb, fun b m q => h.room b m q, .inl rfl, hc, fun hf o => (h.frozen _).trans (hf o), h.room _ _ hr⟩
theorem alloc_ins {w w' : World} {ROW : Array Value} {E : TypeId} (h : Puts w.heap.size (w.drew.alloc (.cells ROW E)) w') {g c k : Nat} {L : List Value} (hsz : c * k ≤ ROW.size)
    (hc : ∀ j v, L[j]? = some v → w'.cell? ⟨w.heap.size, 0 + j, none⟩ = some v) : InsPost w w' g w.heap.size 0 c k L := by
  have hs1 : (w.drew.alloc (.cells ROW E)).heap.size = w.heap.size + 1 := World.size_alloc w.drew _
  have hsz2 : w'.heap.size = w.heap.size + 1 := h.size.trans hs1
  have hold : ∀ b, b < w.heap.size → (w.drew.alloc (.cells ROW E)).heap[b]? = w.heap[b]? := fun b hb => by
    show (w.heap.push _)[b]? = _
    rw [Array.getElem?_push, if_neg (by omega)]
  have hnew : (w.drew.alloc (.cells ROW E)).heap[w.heap.size]? = some (.cells ROW E (0, 0)) := by
    show (w.heap.push _)[w.heap.size]? = _
    rw [Array.getElem?_push, if_pos rfl]
  refine ⟨h.os, h.tape, h.out, by omega, fun b hb _ => (h.other b (by omega)).trans (hold b hb), fun b m hr => h.room b m ?_, .inr ⟨Nat.le_refl _, by omega⟩, hc, fun _ o => ?_, h.room _ _ ⟨ROW, E, (0, 0), hnew, by omega⟩⟩
  · obtain ⟨cs, e, fr, h1, h2⟩ := hr
    have hb : b < w.heap.size := by rw [Array.getElem?_eq_some_iff] at h1; exact h1.1
    exact ⟨cs, e, fr, (hold b hb).trans h1, h2⟩
  · rw [h.frozen]
    exact World.frozen?_alloc_at (w := w.drew) ROW _ w.heap.size o rfl
theorem splice_at {cs vs : List Value} {p k j : Nat} {v : Value} (hp : p ≤ cs.length) (hk : vs.length = k) (h : (cs.take p ++ vs ++ cs.drop p)[j]? = some v) :
    (j < p ∧ cs[j]? = some v) ∨ (p ≤ j ∧ j < p + k ∧ vs[j - p]? = some v) ∨ (p + k ≤ j ∧ (cs.drop p)[j - (p + k)]? = some v) := by
  have hl : (cs.take p).length = p := by simp; omega
  rw [List.append_assoc] at h
  by_cases q : j < p
  · rw [List.getElem?_append_left (by omega), List.getElem?_take, if_pos q] at h
    exact .inl ⟨q, h⟩
  · rw [List.getElem?_append_right (by omega), hl] at h
    by_cases q2 : j - p < k
    · rw [List.getElem?_append_left (by omega)] at h
      exact .inr (.inl ⟨by omega, by omega, h⟩)
    · rw [List.getElem?_append_right (by omega), hk] at h
      refine .inr (.inr ⟨by omega, ?_⟩)
      rw [show j - (p + k) = j - p - k by omega]; exact h
theorem in_at {g : Nat} {vs : List Value} {p : Nat} {w : World} {q j : Nat} {v : Value} (hq : p ≤ q) (h : vs[q - p]? = some v) (hs : ∀ i, i < vs.length → (w.cell? ⟨g, p + i, none⟩).isSome = true) : (putCells g vs p w).cell? ⟨g, q, none⟩ = some v := by
  have := putCells_in g vs p w (q - p) v h hs
  rwa [show p + (q - p) = q by omega] at this
theorem get_lt {vs : List Value} {j : Nat} {v : Value} (h : vs[j]? = some v) : j < vs.length := by
  rcases Nat.lt_or_ge j vs.length with q | q
  · exact q
  · rw [List.getElem?_eq_none q] at h; cases h
section
variable {P : Program}
theorem flatten_take {α : Type} {n : Nat} : ∀ (css : List (List α)) (i : Nat), (∀ c ∈ css, c.length = n) → (css.take i).flatten = css.flatten.take (i * n) ∧ (css.drop i).flatten = css.flatten.drop (i * n)
  | [], i, _ => by simp
  | c :: css, 0, _ => by simp
  | c :: css, i + 1, h => by
    obtain ⟨h1, h2⟩ := flatten_take css i fun x hx => h x (List.mem_cons_of_mem _ hx)
    have hc := h c (List.mem_cons_self ..)
    have e : (i + 1) * n = c.length + i * n := by rw [hc, Nat.add_mul]; omega
    constructor
    · rw [List.take_succ_cons, List.flatten_cons, h1, List.flatten_cons, e, List.take_length_add_append]
    · rw [List.drop_succ_cons, h2, List.flatten_cons, e, List.drop_length_add_append]
theorem rowAt_cells {ok : Nat → Prop} {w : World} {g off : Nat} {t : Ty} : ∀ {xs : List (El t)} {m : Nat}, (∀ i (h : i < xs.length), ∃ ds, Imm ok w t xs[i] ds ∧ ∀ j, j < t.sz → w.cell? ⟨g, off + (m + i) * t.sz + j, none⟩ = ds[j]?) →
    ∃ css, All2 (Imm ok w t) xs css ∧ ∀ j v, css.flatten[j]? = some v → w.cell? ⟨g, off + m * t.sz + j, none⟩ = some v
  | [], m, _ => ⟨[], .nil, fun j v h => by simp at h⟩
  | x :: xs, m, h => by
    obtain ⟨ds, h1, h2⟩ := h 0 (by simp)
    obtain ⟨css, h3, h4⟩ := rowAt_cells (xs := xs) (m := m + 1) fun i hi => by
      obtain ⟨ds, a, b⟩ := h (i + 1) (by simpa using hi)
      refine ⟨ds, a, fun j hj => ?_⟩
      rw [← b j hj, show m + 1 + i = m + (i + 1) by omega]
    refine ⟨ds :: css, .cons h1 h3, fun j v hj => ?_⟩
    have hl := h1.len
    rw [List.flatten_cons] at hj
    by_cases q : j < ds.length
    · rw [List.getElem?_append_left q] at hj
      have := h2 j (by omega)
      rw [Nat.add_zero] at this
      rw [this]; exact hj
    · rw [List.getElem?_append_right (by omega)] at hj
      have := h4 _ _ hj
      rw [← this, hl, Nat.add_mul]
      congr 2
      omega
theorem all2_take {α β : Type} {r : α → β → Prop} {l : List α} {m : List β} (h : All2 r l m) (i : Nat) (x : α) (y : β) (hxy : r x y) : All2 r (l.take i ++ [x] ++ l.drop i) (m.take i ++ [y] ++ m.drop i) :=
  ((h.take i).append (.cons hxy .nil)).append (h.drop i)
theorem ins_mgood {f : FuncId} (e : TypeId) (t : Ty) (hk : 0 < t.sz) (ht8 : t ≠ .int .u8) (hW : InsWalk P f t.sz) :
    MGood P f (.row e t fun xs => .imm (.int .i64) fun i => .imm (.slice e t) fun vs => .body (insO xs i vs) (fun r => [(false, [.own e t r])]) (fun _ => [.gone])) := by
  have main : ∀ (ok : Nat → Prop) (w : World) (hok : ∀ b, ok b → b < w.heap.size) (xs : List (El t)) (A : Option Addr) (g off c : Nat) (ds : MD), xs.length ≤ c →
      ((c = 0 ∧ w.heap.size ≤ g ∧ ds = .nil) ∨ (A = some ⟨g, off, none⟩ ∧ g < w.heap.size ∧ RowAt ok w g off t xs ∧ Room w g (off + c * t.sz) ∧ NoFrz t w g ∧ ¬ ok g ∧ ds = .row g off c)) →
      MOk P f ok w (.imm (.int .i64) fun i => .imm (.slice e t) fun vs => .body (insO xs i vs) (fun r => [(false, [.own e t r])]) (fun _ => [.gone])) [.slice A xs.length c] [ds] := by
    intro ok w hok xs A g off c ds hle hst i v hv vs v2 hv2 a ha
    have hvi : v = .int .i64 i := by
      obtain ⟨cs, h1, h2⟩ := hv
      have h1 : cs = [.int .i64 i] := h1
      subst h1
      rcases h2 with ⟨h, _⟩ | ⟨_, h2⟩
      · cases h
      · simpa using h2.symm
    subst hvi
    have hcond : 0 ≤ i ∧ i ≤ xs.length ∧ vs.length = 1 ∧ xs.length ≤ 1073741824 := by
      unfold insO at ha
      by_cases q : 0 ≤ i ∧ i ≤ xs.length ∧ vs.length = 1 ∧ xs.length ≤ 1073741824
      · exact q
      · rw [if_neg q] at ha; cases ha
    have haeq : a = xs.take i.toNat ++ vs ++ xs.drop i.toNat := by
      unfold insO at ha
      rw [if_pos hcond] at ha; exact (Option.some.inj ha).symm
    obtain ⟨c0, c1, c2, c3⟩ := hcond
    obtain ⟨iN, rfl⟩ : ∃ n : Nat, i = n := ⟨i.toNat, (Int.toNat_of_nonneg c0).symm⟩
    obtain ⟨x, rfl⟩ : ∃ x, vs = [x] := by
      match vs, c2 with
      | [x], _ => exact ⟨x, rfl⟩
    rw [Int.toNat_natCast] at haeq
    obtain ⟨cs2, hs1, hs2⟩ := hv2
    obtain ⟨A2, vc, rfl, _, hx⟩ := hs1
    have hv2e : v2 = .slice A2 1 vc := by
      rcases hs2 with ⟨h, _⟩ | ⟨_, h2⟩
      · cases h
      · simpa using h2.symm
    subst hv2e
    obtain ⟨vb, vo, rfl, hvok, hcell⟩ := hx (by simp)
    obtain ⟨dv, hd1, hd2⟩ := hcell 0 (by simp)
    have hd1 : Imm ok w t x dv := hd1
    obtain ⟨css, hcss, hcc, hgw⟩ : ∃ css, All2 (Imm ok w t) xs css ∧ (∀ j v, css.flatten[j]? = some v → A = some ⟨g, off, none⟩ → w.cell? ⟨g, off + j, none⟩ = some v) ∧ vb ≠ g := by
      rcases hst with ⟨h1, h2, h3⟩ | ⟨h1, h2, h3, h4, h5, h6, h7⟩
      · have : xs = [] := List.length_eq_zero_iff.1 (by omega)
        subst this
        exact ⟨[], .nil, fun j v h => by simp at h, by have := hok vb hvok; omega⟩
      · obtain ⟨css, a1, a2⟩ := rowAt_cells (m := 0) (off := off) (g := g) (xs := xs) (ok := ok) (w := w) (t := t) fun i hi => by
          obtain ⟨ds, b1, b2⟩ := h3 i hi
          exact ⟨ds, b1, fun j hj => by rw [Nat.zero_add]; exact b2 j hj⟩
        refine ⟨css, a1, fun j v hj _ => ?_, fun q => h6 (q ▸ hvok)⟩
        have := a2 j v hj
        rwa [Nat.zero_mul, Nat.add_zero] at this
    have hlen := flatten_len css (imm_all hcss)
    rw [← hcss.length] at hlen
    have hS : InsStart w A g off xs.length c t.sz iN vb vo css.flatten dv := by
      refine ⟨Int.ofNat_le.1 c1, hle, c3, hlen, hd1.len, hk, imms_one hcss, imm_one hd1, fun j v hj => ?_, hgw, ?_⟩
      · have hjl : j < t.sz := by
          rcases Nat.lt_or_ge j dv.length with q | q
          · rwa [hd1.len] at q
          · rw [List.getElem?_eq_none q] at hj; cases hj
        have := hd2 j hjl
        rw [Nat.zero_mul, Nat.add_zero] at this
        rw [this]; exact hj
      · rcases hst with ⟨h1, h2, h3⟩ | ⟨h1, h2, h3, h4, h5, h6, h7⟩
        · exact .inl ⟨h1, h2⟩
        · exact .inr ⟨h1, h2, fun j v hj => hcc j v hj h1, h4, fun o => h5 o fun q => absurd q ht8⟩
    refine (hW w A g off xs.length c iN vb vo vc css.flatten dv hS).mono ?_
    rintro ex w' ⟨B, O, c', rfl, hc', hp⟩
    obtain ⟨ft, fd⟩ := flatten_take css iN (imm_all hcss)
    have hsame : ∀ b, ok b → w'.heap[b]? = w.heap[b]? := fun b hb => hp.same b (hok b hb) fun q => by
      rcases hst with ⟨h1, h2, h3⟩ | ⟨h1, h2, h3, h4, h5, h6, h7⟩
      · have := hok b hb; omega
      · exact h6 (q ▸ hb)
    have hnew := all2_take hcss iN x dv hd1
    have hrow : RowAt (fun b => ok b ∨ False) w' B O t a := by
      rw [haeq]
      refine rowAt_flat (rest := []) (hnew.mono fun _ _ q => q.mono (fun b hb => .inl hb) hsame) fun j v hj => ?_
      refine hp.cells j v ?_
      rw [List.append_nil] at hj
      simpa only [List.flatten_append, List.flatten_cons, List.flatten_nil, List.append_nil, ft, fd] using hj
    have hal : a.length = xs.length + 1 := by
      rw [haeq]; simp; omega
    have hfrz : NoFrz t w' B := by
      intro o _
      refine hp.frz (fun o => ?_) o
      rcases hst with ⟨h1, h2, h3⟩ | ⟨h1, h2, h3, h4, h5, h6, h7⟩
      · have : w.heap[g]? = none := Array.getElem?_eq_none h2
        simp [World.frozen?, this]
      · exact h5 o fun q => absurd q ht8
    refine ⟨_, rfl, hp.os, hp.tape, hp.put, hp.size, fun b hb hnb => ?_, hp.room, fun _ => False, [_], [B] ++ [], fun b h => h.elim, .cons (bs := [B]) (bs' := []) (.cons (bs := [B]) (bs' := []) ⟨some ⟨B, O, none⟩, c', rfl, by omega, .inr ⟨B, O, rfl, rfl, hrow, hfrz, hp.rm⟩⟩ .nil) (.inr ⟨rfl, by rw [hal]⟩) .nil, by simp, fun b hb => ?_, rfl, .gone .nil⟩
    · refine hp.same b hb fun q => ?_
      rcases hst with ⟨h1, h2, h3⟩ | ⟨h1, h2, h3, h4, h5, h6, h7⟩
      · omega
      · exact hnb (by rw [h7, q]; simp [MD.blk])
    · have hbB : b = B := by simpa using hb
      subst hbB
      rcases hp.who with q | q
      · rcases hst with ⟨h1, h2, h3⟩ | ⟨h1, h2, h3, h4, h5, h6, h7⟩
        · obtain ⟨cs, e9, fr, k1, k2⟩ := hp.rm
          rw [Array.getElem?_eq_some_iff] at k1
          exact .inl ⟨by omega, k1.1, id⟩
        · exact .inr (by rw [h7, q]; simp [goneB, MD.blk])
      · exact .inl ⟨q.1, q.2, id⟩
  intro ok w hok
  refine ⟨fun A => ?_, fun xs g off c hc h0 hrow hfz hroom hg hng _ => ?_⟩
  · exact main ok w hok [] A w.heap.size 0 0 .nil (Nat.le_refl _) (.inl ⟨rfl, Nat.le_refl _, rfl⟩)
  · exact main ok w hok xs (some ⟨g, off, none⟩) g off c (.row g off c) hc (.inr ⟨rfl, hg, hrow, hroom, hfz, hng, rfl⟩)
end
end Go.Vm
end
