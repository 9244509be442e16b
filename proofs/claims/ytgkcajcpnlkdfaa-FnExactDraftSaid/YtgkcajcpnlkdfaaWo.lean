/- The library: by its contract. -/
import Derived.Test.YtgkcajcpnlkdfaaWc
import Derived.Shelf.SortG.Plain
import Derived.Shelf.SortG.SortNone
set_option linter.unusedVariables false
section
namespace Go.Vm
open Go Go.Sort
theorem sortL_length (xs : List Int) : (sortL xs).length = xs.length := List.length_mergeSort _
theorem putRow_room {w : World} {blk off : Nat} {d : Array Int} {g m : Nat} {n : Nat} {os : Array Go.Obj} (h : Room w g m) : Room (grow (putRow (Value.int .i64) (Sort.ahead w n) blk off d) os) g m := by
  obtain ⟨cs, e, fr, h1, h2⟩ := h
  have hlt : g < w.heap.size := by
    rw [Array.getElem?_eq_some_iff] at h1
    exact h1.1
  have hh : (grow (putRow (Value.int .i64) (Sort.ahead w n) blk off d) os).heap[g]? = (putRow (Value.int .i64) (Sort.ahead w n) blk off d).heap[g]? := heap_grow_old _ _ (by simp; exact hlt)
  by_cases q : blk = g
  · subst q
    refine ⟨Go.Sort.putCells (Value.int .i64) off d cs, e, fr, ?_, by simp [Go.Sort.putCells]; exact h2⟩
    rw [hh]
    show ((Sort.ahead w n).heap.modify blk (onCells (Go.Sort.putCells (Value.int .i64) off d)))[blk]? = _
    rw [Array.getElem?_modify, if_pos rfl, show (Sort.ahead w n).heap[blk]? = some (.cells cs e fr) from h1]
    rfl
  · refine ⟨cs, e, fr, ?_, h2⟩
    rw [hh]
    show ((Sort.ahead w n).heap.modify blk (onCells (Go.Sort.putCells (Value.int .i64) off d)))[g]? = _
    rw [Array.getElem?_modify, if_neg q]
    exact h1
theorem sort_mgood {P : Program} {ρ : Go.Shelf.Ren} (L : Go.Proofs.SlLaysN.n53 P ρ) (e : TypeId) :
    MGood P (ρ.f 53) (.row e (.int .i64) fun xs => .body (sortO xs) (fun r => outV [] [] r.1) (fun r => poV [.row e (.int .i64)] r.2)) := by
  intro ok w hok
  refine ⟨fun A a ha => ?_, fun xs g off c hc h0 hrow hfz hroom hg hng _ a ha => ?_⟩
  · have ha2 : a = ((), [], ()) := by
      have : sortO [] = some ((), [], ()) := by unfold sortO; rw [if_pos (by simp)]; simp [sortL]
      rw [this] at ha; exact (Option.some.inj ha).symm
    subst ha2
    refine (Go.Proofs.AnyG.slices_Sort_int_none L A 0 w).mono ?_
    rintro ex w' ⟨rfl, rfl⟩
    exact ⟨_, rfl, rfl, rfl, rfl, Nat.le_refl _, fun _ _ _ => rfl, fun _ _ h => h, fun _ => False, [], [], fun b h => h.elim, .nil, .nil, fun b hb => by simp at hb, rfl, .none .nil⟩
  · have hl : xs.length < 4611686018427387904 := by
      unfold sortO at ha
      by_cases q : xs.length < 4611686018427387904
      · exact q
      · rw [if_neg q] at ha; cases ha
    have ha2 : a = ((), sortL xs, ()) := by
      unfold sortO at ha
      rw [if_pos hl] at ha; exact (Option.some.inj ha).symm
    subst ha2
    have hH : Holds (Value.int .i64) w g off xs.toArray := fun j hj => by
      have hj2 : j < xs.length := by simpa using hj
      obtain ⟨ds, hd, hcell⟩ := hrow j hj2
      have e1 : ds = [.int .i64 xs[j]] := hd
      have e2 := hcell 0 (by show 0 < 1; omega)
      have e3 : off + j * (Ty.int .i64).sz + 0 = off + j := by show off + j * 1 + 0 = off + j; omega
      rw [e3, e1] at e2
      have e4 : xs.toArray[j]! = xs[j] := by rw [getElem!_pos _ j hj]; simp
      rw [e4]
      exact ⟨e2, hfz _ fun _ => by rw [e2]; rfl⟩
    refine (Go.Proofs.AnyG.slices_Sort_int L g off c xs w hH hg hl).mono ?_
    rintro ex w' ⟨rfl, n, os, rfl⟩
    rw [show (xs.mergeSort fun x y => decide (x ≤ y)) = sortL xs from rfl]
    have hsz : (sortL xs).toArray.size = xs.toArray.size := by simp [sortL_length]
    have hH2 : Holds (Value.int .i64) (putRow (Value.int .i64) (Sort.ahead w n) g off (sortL xs).toArray) g off (sortL xs).toArray := holds_putRow _ _ g off xs.toArray _ (holds_ahead _ _ _ _ _ _ hH) hsz
    have hH3 : Holds (Value.int .i64) (grow (putRow (Value.int .i64) (Sort.ahead w n) g off (sortL xs).toArray) os) g off (sortL xs).toArray := holds_grow _ _ _ _ _ _ (by simp; exact hg) hH2
    have hse : (putRow (Value.int .i64) (Sort.ahead w n) g off (sortL xs).toArray).heap.size = w.heap.size := by simp
    refine ⟨_, rfl, rfl, rfl, rfl, by rw [size_grow, hse]; omega, fun b hb hnb => ?_, fun _ _ h => putRow_room h, fun _ => False, [], [], fun b h => h.elim, .nil, .nil, fun b hb => by simp at hb, rfl, .row (fun i hi => ?_) (fun o ho => ?_) .nil⟩
    · have hne : g ≠ b := fun q => hnb (by simp [MD.blk, q])
      refine (heap_grow_old _ _ (by rw [hse]; exact hb)).trans ?_
      show ((Sort.ahead w n).heap.modify g (onCells _))[b]? = _
      rw [Array.getElem?_modify, if_neg hne]; rfl
    · have hi2 : i < (sortL xs).toArray.size := by simpa using hi
      refine ⟨[.int .i64 (sortL xs)[i]], rfl, fun j hj => ?_⟩
      have hj0 : j = 0 := by have : j < 1 := hj; omega
      subst hj0
      have e3 : off + i * (Ty.int .i64).sz + 0 = off + i := by show off + i * 1 + 0 = off + i; omega
      rw [e3]
      have := (hH3 i hi2).1
      rw [getElem!_pos _ i hi2] at this
      simpa using this
    · have e1 : (grow (putRow (Value.int .i64) (Sort.ahead w n) g off (sortL xs).toArray) os).frozen? ⟨g, o, none⟩ = w.frozen? ⟨g, o, none⟩ := by
        rw [frozen?_grow _ _ _ (by rw [hse]; exact hg), frozen?_putRow]; rfl
      have e2 : (grow (putRow (Value.int .i64) (Sort.ahead w n) g off (sortL xs).toArray) os).cell? ⟨g, o, none⟩ = (putRow (Value.int .i64) (Sort.ahead w n) g off (sortL xs).toArray).cell? ⟨g, o, none⟩ := cell?_grow _ _ _ (by rw [hse]; exact hg)
      rw [e1]
      refine hfz o fun h8 => ?_
      have ho := ho h8
      rw [e2] at ho
      cases hc2 : w.cell? ⟨g, o, none⟩ with
      | some v => rfl
      | none =>
        exfalso
        obtain ⟨v, hv⟩ := Option.isSome_iff_exists.1 ho
        obtain ⟨cs, e2, fr, h1, h2⟩ := cells_of_cell? hv
        have h3 : ((Sort.ahead w n).heap.modify g (onCells (Go.Sort.putCells (Value.int .i64) off (sortL xs).toArray)))[g]? = some (.cells cs e2 fr) := h1
        rw [Array.getElem?_modify, if_pos rfl] at h3
        cases hq : w.heap[g]? with
        | none => rw [show (Sort.ahead w n).heap[g]? = none from hq] at h3; cases h3
        | some ob =>
          rw [show (Sort.ahead w n).heap[g]? = some ob from hq] at h3
          cases ob with
          | cells c0 e0 f0 =>
            simp only [Option.map_some, onCells] at h3
            injection h3 with h3
            injection h3 with h4 h5 h6
            have : o < cs.size := by
              rw [Array.getElem?_eq_some_iff] at h2; exact h2.1
            have h7 : o < c0.size := by rw [← h4] at this; simpa [Go.Sort.putCells] using this
            rw [World.cell?] at hc2
            simp [hq, h7] at hc2
          | _ => simp only [Option.map_some, onCells] at h3; cases h3
end Go.Vm
end
