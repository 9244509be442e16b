/- Exact laws of states and rooms: both give the same. -/
import Derived.Test.YtgkcajcpnlkdfaaJB2
import Derived.Test.YtgkcajcpnlkdfaaKB2
import Derived.Test.YtgkcajcpnlkdfaaLB2
import Derived.Test.YtgkcajcpnlkdfaaE2
set_option linter.unusedVariables false
set_option linter.unusedSimpArgs false
namespace Go.Vm
open Go
theorem mES_len {es : List TEvent} (h : m_EventS es ≤ 1048576) : es.length ≤ 1048576 ∧ ∀ e ∈ es, m_Event e ≤ 1048576 := by
  unfold m_EventS at h
  exact ⟨by omega, fun e he => by have := mem_sum m_Event he; omega⟩
theorem mE_len {e : TEvent} (h : m_Event e ≤ 1048576) : e.2.2.2.2.2.1.length ≤ 1048576 ∧ e.2.2.2.2.2.2.2.1.length ≤ 1048576 := by
  unfold m_Event m_IntS at h
  omega
theorem copyS_of {es : List TEvent} (h : m_EventS es ≤ 1048576) : CopyS es := by
  obtain ⟨h1, h2⟩ := mES_len h
  exact ⟨h1, fun i hi => mE_len (h2 _ (by rw [rd_at hi]; exact List.getElem_mem hi))⟩
theorem prevS_of {es : List TEvent} (h : m_EventS es ≤ 1048576) : PrevS es := ⟨(copyS_of h).1, fun i hi => ((copyS_of h).2 i hi).2⟩
theorem same_Known (a0 : List TEvent) (a1 : Int) : m_EventS a0 ≤ 1048576 → ∃ v : TEvent × Bool, m_Event v.1 ≤ 1048576 ∧ Ev (fun k => s_Known k a0 a1) v ∧ Ev (fun k => i_Known k a0 a1) v := fun h => by
  refine ⟨findE a0 a1, ?_, s_Known_ev a0 (copyS_of h) a1, i_Known_ev a0 (copyS_of h) a1⟩
  rcases findE_cases a0 a1 with q | ⟨f, hf, q, q2⟩
  · rw [q]; unfold m_Event m_IntS; simp
  · rw [q]; exact (mES_len h).2 f hf
theorem mSS_len {ss : List (List TItem)} (h : m_ItemSS ss ≤ 1048576) : StsT ss ∧ StsS ss := by
  unfold m_ItemSS at h
  have e : (ss.map fun s => s.length + 1).sum = ss.length + (ss.map m_ItemS).sum := by
    clear h
    induction ss with
    | nil => rfl
    | cons s ss ih => simp only [List.map_cons, List.sum_cons, List.length_cons, ih]; unfold m_ItemS; omega
  refine ⟨by unfold StsT; omega, by omega, fun i hi => ?_⟩
  have := mem_sum m_ItemS (List.getElem_mem hi)
  rw [rd_at hi]
  unfold m_ItemS at this h
  omega
theorem s_AgreedB_ev (ss : List (List TItem)) (h : StsS ss) : Ev (fun k => s_Agreed k ss) (agreedL ss) := by
  refine Re.eq (Re.c1 (s_l11Keys_ev ss h) ?_)
  have hk : (keysL ss).length ≤ 16 := keysTo_length ss 16
  refine Re.enter (f := fun k n => l0_s_Agreed k n ss 0 [] (keysL ss)) among_nat ?_
  have := Re.loop (ι := Nat) (l := fun k n (i : Nat) => l0_s_Agreed k n ss (i : Int) ((((keysL ss).take i).filter (alike ss)).map fun k => (k, atS (rd [] ss 0) k, ())) (keysL ss)) (I := fun i => i ≤ (keysL ss).length) (fun i => (keysL ss).length - i) (Q := fun _ v => v = agreedL ss) (fun i hi ih => by
    have hle := filter_le (alike ss) (keysL ss) i
    simp only [l0_s_Agreed, b0_s_Agreed]
    refine Re.brd (fun g => ?_) (fun g => Re.ret (by rw [List.take_of_length_le (by omega)]; rfl))
    have hl : i < (keysL ss).length := by omega
    have hne : 0 < ss.length := keysL_ne (k := (keysL ss)[i]) (List.getElem_mem hl)
    have next := ih (i + 1) (by omega) (by omega)
    rw [take_int hl, List.filter_append, List.map_append] at next
    refine Re.gdd (by omega) (Re.gdd g ?_)
    simp only [Int.toNat_natCast]
    rw [idx_succ hl (by omega)]
    refine Re.c2 (s_l11Alike_ev ss h _) ?_
    cases ha : alike ss (rd 0 (keysL ss) i) with
    | true =>
      rw [List.filter_cons_of_pos ha] at next
      refine Re.br (b := true) (fun _ => ?_) (fun h => by cases h)
      refine Re.gdd (by omega) (Re.gdd g (Re.gdd (by omega) (Re.gdd (by omega) (Re.gdd g ?_))))
      refine Re.c2 (s_At_ev _ (by have := h.2 0 hne; omega) _) (Re.gdd (by simp only [List.length_map, List.length_singleton]; unfold maxRow; omega) ?_)
      simpa using next
    | false =>
      rw [List.filter_cons_of_neg (by simp [ha])] at next
      refine Re.br (b := false) (fun h => by cases h) (fun _ => ?_)
      simpa using next) 0 (Nat.zero_le _)
  simpa using this
theorem same_Agreed (a0 : List (List TItem)) : m_ItemSS a0 ≤ 1048576 → ∃ v : List TItem, m_ItemS v ≤ 1048576 ∧ Ev (fun k => s_Agreed k a0) v ∧ Ev (fun k => i_Agreed k a0) v := fun h => by
  obtain ⟨h1, h2⟩ := mSS_len h
  refine ⟨agreedL a0, ?_, s_AgreedB_ev a0 h2, i_Agreed_ev a0 h1⟩
  unfold m_ItemS agreedL
  rw [List.length_map]
  have hk : (keysL a0).length ≤ 16 := keysTo_length a0 16
  exact Nat.le_trans (List.length_filter_le _ _) (by omega)
theorem same_Clash (a0 : List (List TItem)) : m_ItemSS a0 ≤ 1048576 → ∃ v : List Int, m_IntS v ≤ 1048576 ∧ Ev (fun k => s_Clash k a0) v ∧ Ev (fun k => i_Clash k a0) v := fun h => by
  obtain ⟨h1, h2⟩ := mSS_len h
  refine ⟨clashL a0, ?_, s_Clash_ev a0 h2, i_Clash_ev a0 h1⟩
  unfold m_IntS clashL
  have hk : (keysL a0).length ≤ 16 := keysTo_length a0 16
  exact Nat.le_trans (List.length_filter_le _ _) (by omega)
theorem mR_len {r : TRoom} (h : m_Room r ≤ 1048576) : m_EventS r.1 ≤ 1048576 ∧ r.2.2.1.length ≤ 1048576 := by
  unfold m_Room m_BoolS at h
  omega
theorem ends_len (es : List TEvent) : (endsL es).length ≤ es.length := by
  have := endStep_length es es []
  simpa [endsL] using this
theorem same_EndsOf (a0 : TRoom) : m_Room a0 ≤ 1048576 → ∃ v : List Int, m_IntS v ≤ 1048576 ∧ Ev (fun k => s_EndsOf k a0) v ∧ Ev (fun k => i_EndsOf k a0) v := fun h => by
  have hp := prevS_of (mR_len h).1
  refine ⟨endsL a0.1, ?_, s_EndsOf_ev a0 hp, i_EndsOf_ev a0 hp⟩
  exact Nat.le_trans (ends_len a0.1) hp.1
def authPick0 (es : List TEvent) (s : List TItem) (ks : List Int) : List Int := (ks.filter fun k => atS s k != 0 && (findE es (atS s k)).2).map fun k => (findE es (atS s k)).1.1
theorem authPick0_mem {es : List TEvent} {s : List TItem} {ks : List Int} {x : Int} : x ∈ authPick0 es s ks ↔ ∃ k ∈ ks, atS s k = x ∧ x ≠ 0 ∧ found es x := by
  unfold authPick0
  rw [List.mem_map]
  constructor
  · rintro ⟨k, hk, e⟩
    obtain ⟨h1, h2⟩ := List.mem_filter.1 hk
    simp only [Bool.and_eq_true, bne_iff_ne, ne_eq] at h2
    obtain ⟨h0, h2⟩ := h2
    rcases findE_cases es (atS s k) with q | ⟨f, hf, q, q2⟩
    · rw [q] at h2; cases h2
    · rw [q] at e
      have e3 : atS s k = x := by rw [← q2]; exact e
      refine ⟨k, h1, e3, ?_, ?_⟩
      · rw [← e3]; exact h0
      · unfold found; rw [← e3]; exact h2
  · rintro ⟨k, hk, e, hn, hf⟩
    subst e
    refine ⟨k, List.mem_filter.2 ⟨hk, by simp only [Bool.and_eq_true, bne_iff_ne, ne_eq]; exact ⟨hn, hf⟩⟩, ?_⟩
    rcases findE_cases es (atS s k) with q | ⟨f, hf2, q, q2⟩
    · unfold found at hf; rw [q] at hf; cases hf
    · rw [q]; exact q2
/-- What the program finds of a key: nothing where the state tells none. -/
def tells0 (es : List TEvent) (s : List TItem) (key : Int) : TEvent × Bool := if atS s key = 0 then (noEv, false) else findE es (atS s key)
theorem i_tells0_ev (es : List TEvent) (hc : CopyS es) (s : List TItem) (hs : s.length ≤ 1048576) (key : Int) : Ev (fun k => i_tells k es s key) (tells0 es s key) := by
  unfold tells0
  refine Re.eq (Re.c1 (i_At_ev s hs key) ?_)
  refine Re.bre (fun q => Re.ret (by rw [if_pos q])) (fun q => ?_)
  rw [if_neg q]
  exact Re.c1 (i_Known_ev es hc _) (Re.ret rfl)
theorem i_auth0_re (es : List TEvent) (hc : CopyS es) (s : List TItem) (hs : s.length ≤ 1048576) (ks : List Int) (hk : ks.length ≤ 10) : Re (fun k : Nat => l0_i_AuthOf k k es s (ks.length : Int) 0 [] ks) (fun r => r = authGo es s ks) := by
  have fin : Re (fun x : Nat × Nat => (bd (slices_Sort_int_int x.1 (authPick0 es s ks)) fun r4 => (gd (Nat.beq r4.2.1.length (authPick0 es s ks).length) (br (decide ((r4.2.1.length : Int) < 2)) (some r4.2.1) (l1_i_AuthOf x.1 x.2 1 r4 ks es s (ks.length : Int) (ks.length : Int)))))) (fun r => r = authGo es s ks) := by
    have hpl : (authPick0 es s ks).length ≤ 10 := by
      unfold authPick0
      rw [List.length_map]
      exact Nat.le_trans (List.length_filter_le _ _) hk
    have hsort : ∀ k, slices_Sort_int_int k (authPick0 es s ks) = some ((), sortL (authPick0 es s ks), ()) := fun k => sort_eq (by omega)
    refine Re.s2 hsort ?_
    have hl := sortL_len (authPick0 es s ks)
    refine Re.gd (by rw [hl]; exact Nat.beq_refl _) ?_
    have uq : ∀ r, UniqOf (authPick0 es s ks) r → r = authGo es s ks := fun r hr => by
      obtain ⟨g1, g2, _⟩ := authGo_spec es s ks
      refine asc_ext hr.1 g1 fun x => ?_
      rw [hr.2, g2, authPick0_mem]
    refine Re.brd (fun q => Re.ret (uq _ (uniq_sort (short_uniq (by simp only at q; omega))))) (fun q => ?_)
    have := compact_re (sortL_le (authPick0 es s ks)) (by omega) (fun k n v5 => l1_i_AuthOf k n v5 ((), sortL (authPick0 es s ks), ()) ks es s (ks.length : Int) (ks.length : Int)) (fun k n v6 v5 v7 xs8 => l2_i_AuthOf k n v6 v5 v7 xs8 ks es s (ks.length : Int) (ks.length : Int)) (fun k n v5 => rfl) (fun k n v6 v5 v7 xs8 => rfl)
    exact this.mono fun r hr => uq r (uniq_sort hr)
  refine Re.enter (f := fun k n => l0_i_AuthOf k n es s (ks.length : Int) 0 [] ks) among_nat ?_
  have := Re.loop (ι := Nat) (l := fun k n (i : Nat) => l0_i_AuthOf k n es s (ks.length : Int) (i : Int) (authPick0 es s (ks.take i)) ks) (I := fun i => i ≤ ks.length) (fun i => ks.length - i) (Q := fun _ r => r = authGo es s ks) (fun i hi ih => by
    simp only [l0_i_AuthOf, b0_i_AuthOf, Int.toNat_natCast]
    refine Re.brd (fun g => ?_) (fun g => ?_)
    · have hl : i < ks.length := by omega
      have next := ih (i + 1) (by omega) (by omega)
      have hlen : (authPick0 es s (ks.take i)).length ≤ 10 := by
        unfold authPick0
        rw [List.length_map]
        exact Nat.le_trans (List.length_filter_le _ _) (by simp; omega)
      rw [idx_succ hl (by omega)]
      refine Re.gdd (by omega) (Re.gdd g (Re.c2 (i_tells0_ev es hc s hs _) ?_))
      have e : authPick0 es s (ks.take (i + 1)) = authPick0 es s (ks.take i) ++ (bif (tells0 es s (rd 0 ks i)).2 then [(tells0 es s (rd 0 ks i)).1.1] else []) := by
        unfold authPick0 tells0
        rw [take_int hl, List.filter_append, List.map_append]
        by_cases h0 : atS s (rd 0 ks i) = 0
        · rw [if_pos h0, List.filter_cons_of_neg (p := fun k => atS s k != 0 && (findE es (atS s k)).2) (by simp [h0])]; rfl
        · rw [if_neg h0]
          cases hq : (findE es (atS s (rd 0 ks i))).2 with
          | true => rw [List.filter_cons_of_pos (p := fun k => atS s k != 0 && (findE es (atS s k)).2) (by simp [h0, hq])]; rfl
          | false => rw [List.filter_cons_of_neg (p := fun k => atS s k != 0 && (findE es (atS s k)).2) (by rw [hq]; simp)]; rfl
      rw [e] at next
      refine Re.br (fun q => Re.gdd (by simp [maxRow]; omega) ?_) (fun q => ?_)
      · rw [q] at next; exact next
      · rw [q] at next; simpa using next
    · have ei : i = ks.length := by omega
      rw [ei, List.take_length]
      exact fin) 0 (Nat.zero_le _)
  exact this
theorem i_AuthOf0_ev (es : List TEvent) (hc : CopyS es) (s : List TItem) (hs : s.length ≤ 1048576) (e : TEvent) : Ev (fun k => i_AuthOf k es s e) (authL es s e) := by
  have go := fun (ks : List Int) (hk : ks.length ≤ 10) => i_auth0_re es hc s hs ks hk
  refine Re.eq (Re.s1 (within_eq · _ _ _) ?_)
  unfold authL authKeys
  cases h1 : inR e.2.2.1 1 5 with
  | true =>
    refine Re.br (b := true) (fun _ => ?_) (fun h => by cases h)
    rw [w10 h1]
    refine Re.gdd (by simp [maxRow]) ?_
    cases h2 : e.2.1 == 2 with
    | true =>
      refine Re.br (b := true) (fun _ => Re.s1 (within_eq · _ _ _) ?_) (fun h => by cases h)
      cases h3 : inR e.2.2.2.1 1 5 with
      | true =>
        refine Re.br (b := true) (fun _ => ?_) (fun h => by cases h)
        rw [w10 h3]
        exact Re.gdd (by simp [maxRow]) (go _ (by simp))
      | false => exact Re.br (b := false) (fun h => by cases h) (fun _ => go _ (by simp))
    | false => exact Re.br (b := false) (fun h => by cases h) (fun _ => go _ (by simp))
  | false =>
    refine Re.br (b := false) (fun h => by cases h) (fun _ => ?_)
    cases h2 : e.2.1 == 2 with
    | true =>
      refine Re.br (b := true) (fun _ => Re.s1 (within_eq · _ _ _) ?_) (fun h => by cases h)
      cases h3 : inR e.2.2.2.1 1 5 with
      | true =>
        refine Re.br (b := true) (fun _ => ?_) (fun h => by cases h)
        rw [w10 h3]
        exact Re.gdd (by simp [maxRow]) (go _ (by simp))
      | false => exact Re.br (b := false) (fun h => by cases h) (fun _ => go _ (by simp))
    | false => exact Re.br (b := false) (fun h => by cases h) (fun _ => go _ (by simp))
theorem auth_len (es : List TEvent) (s : List TItem) (e : TEvent) : (authL es s e).length ≤ 10 := by
  unfold authL
  have := (authGo_spec es s (authKeys e)).2.2
  have hk : (authKeys e).length ≤ 4 := by
    unfold authKeys
    cases inR e.2.2.1 1 5 <;> cases e.2.1 == 2 <;> cases inR e.2.2.2.1 1 5 <;> simp
  omega
theorem same_AuthOf (a0 : List TEvent) (a1 : List TItem) (a2 : TEvent) : m_EventS a0 ≤ 1048576 → m_ItemS a1 ≤ 1048576 → m_Event a2 ≤ 1048576 → m_EventS a0 + m_ItemS a1 + m_Event a2 ≤ 1048576 →
    ∃ v : List Int, m_IntS v ≤ 1048576 ∧ Ev (fun k => s_AuthOf k a0 a1 a2) v ∧ Ev (fun k => i_AuthOf k a0 a1 a2) v := fun h0 h1 h2 _ => by
  refine ⟨authL a0 a1 a2, ?_, s_AuthOf_ev a0 (copyS_of h0).1 a1 h1 a2, i_AuthOf0_ev a0 (copyS_of h0) a1 h1 a2⟩
  have := auth_len a0 a1 a2
  unfold m_IntS
  omega
theorem saidTo_const (r : TRoom) {i : Nat} (hi : r.2.2.1.length ≤ i) : ∀ d, saidTo r (i + d) = saidTo r i
  | 0 => rfl
  | d + 1 => by
    show saidStep r (saidTo r (i + d)) (i + d) = _
    rw [saidTo_const r hi d]
    unfold saidStep
    rw [if_neg]
    intro h
    have : rd false r.2.2.1 (i + d) = false := by simp [rd, List.getElem?_eq_none (show r.2.2.1.length ≤ i + d by omega)]
    rw [this] at h
    cases h.2
theorem s_Said_ev (r : TRoom) (h1 : r.1.length ≤ 1048576) : Ev (fun k => s_Said k r) (saidTo r r.1.length) := by
  refine Re.eq (Re.enter (f := fun k n => l0_s_Said k n 0 r []) among_nat ?_)
  have := Re.loop (ι := Nat) (l := fun k n (i : Nat) => l0_s_Said k n (i : Int) r (saidTo r i)) (I := fun i => i ≤ r.1.length) (fun i => r.1.length - i) (Q := fun _ v => v = saidTo r r.1.length) (fun i hi ih => by
    simp only [l0_s_Said, b0_s_Said]
    refine Re.brd (fun g => ?_) (fun g => Re.ret (by rw [show i = r.1.length by omega]))
    have hl : i < r.1.length := by omega
    have hlen := saidTo_len r i
    refine Re.brd (fun g2 => ?_) (fun g2 => Re.ret (by
      have := saidTo_const r (i := i) (by omega) (r.1.length - i)
      rw [show i + (r.1.length - i) = r.1.length by omega] at this
      exact this.symm))
    have hg : i < r.2.2.1.length := by omega
    rw [idx_succ hl (by omega)]
    simp only [Int.toNat_natCast]
    have next := ih (i + 1) (by omega) (by omega)
    simp only [saidTo, saidStep] at next
    refine Re.gdd (by omega) (Re.gdd g ?_)
    refine Re.bre (fun q => ?_) (fun q => by rw [if_neg fun h => q h.1] at next; exact next)
    refine Re.gdd (by omega) (Re.gdd g2 ?_)
    refine Re.br (fun q2 => ?_) (fun q2 => by rw [if_neg fun h => by rw [q2] at h; cases h.2] at next; exact next)
    rw [if_pos ⟨q, q2⟩] at next
    exact Re.gdd (by omega) (Re.gdd g (Re.gdd (by simp; unfold maxRow; omega) next))) 0 (Nat.zero_le _)
  exact this
theorem said_meas (r : TRoom) : ∀ i, i ≤ r.1.length → m_StringS (saidTo r i) ≤ m_EventS (r.1.take i)
  | 0, _ => by simp [saidTo, m_StringS, m_EventS]
  | i + 1, h => by
    have ih := said_meas r i (by omega)
    have e : m_EventS (r.1.take (i + 1)) = m_EventS (r.1.take i) + (1 + m_Event (rd dTEvent r.1 i)) := by
      have hi : i < r.1.length := by omega
      unfold m_EventS
      rw [List.take_succ_eq_append_getElem hi, rd_at hi, List.map_append, List.sum_append, List.length_append]
      simp only [List.map_cons, List.map_nil, List.sum_cons, List.sum_nil, List.length_singleton]
      omega
    have hm : (rd dTEvent r.1 i).2.2.2.2.2.2.1.size ≤ m_Event (rd dTEvent r.1 i) := by unfold m_Event; omega
    show m_StringS (saidStep r (saidTo r i) i) ≤ _
    unfold saidStep
    split
    · unfold m_StringS at ih ⊢
      simp only [List.length_append, List.map_append, List.sum_append, List.length_singleton, List.map_cons, List.map_nil, List.sum_cons, List.sum_nil]
      omega
    · omega
theorem same_Said (a0 : TRoom) : m_Room a0 ≤ 1048576 → ∃ v : List ByteArray, m_StringS v ≤ 1048576 ∧ Ev (fun k => s_Said k a0) v ∧ Ev (fun k => i_Said k a0) v := fun h => by
  obtain ⟨h1, h2⟩ := mR_len h
  have hl := (mES_len h1).1
  refine ⟨saidTo a0 a0.1.length, ?_, s_Said_ev a0 hl, i_Said_ev a0 hl⟩
  have := said_meas a0 a0.1.length (Nat.le_refl _)
  rw [List.take_length] at this
  omega
end Go.Vm
