/- Plain laws: texts. -/
import Derived.Test.YtgobdchlaclhiaaGreatP2
set_option linter.unusedVariables false
set_option linter.unusedSimpArgs false
namespace Go.Vm
open Go
theorem i_vars_ev (l : List Int) (hl : l.length ≤ 1000) (h : ∀ n ∈ l, 0 ≤ n ∧ n ≤ 1000000000) : Ev (fun k => i_vars k l) (catV l, true) := by
  have each : ∀ i (hi : i < l.length), Ev (fun k => i_VarText k l[i]) (varS l[i], true) := fun i hi => by
    obtain ⟨h1, h2⟩ := h _ (List.getElem_mem hi)
    rw [← varR_ok h1 h2]
    exact i_VarText_ev _
  have sz : ∀ i, i ≤ l.length → ((l.take i).flatMap fun n => numsOf (varS n)).length ≤ 5 * i := fun i hi => by
    have := catV_size (l := l.take i) (fun n hn => (h n (List.mem_of_mem_take hn)).2)
    unfold catV at this
    rw [strOfNums_size] at this
    simp at this ⊢
    omega
  have loop := for_ev (l := fun k m i => l0_i_vars k m l (i : Int) ((l.take i).flatMap fun n => numsOf (varS n))) (N := l.length) (r := (catV l, true)) (fun i hi => by
    obtain ⟨K, hK⟩ := each i hi
    refine ⟨K, fun k hk m => ?_⟩
    have e := idx_succ hi (by omega)
    have h1 := hK k hk
    have h2 := sz i (by omega)
    have h3 := varS_size (h _ (List.getElem_mem hi)).2
    simp only [l0_i_vars, b0_i_vars, hi, Int.ofNat_lt, Int.natCast_nonneg, decide_true, br_true, gd_true, Int.toNat_natCast, rd_at hi, e, h1, bd_some, Bool.not_true, br_false]
    rw [gd_le (by unfold maxRow; rw [numsOf_length]; omega), List.take_succ_eq_append_getElem hi, List.flatMap_append]
    simp) ⟨0, fun k _ m => by simp [l0_i_vars, b0_i_vars, catV]⟩ 0 (Nat.zero_le _)
  obtain ⟨K, hK⟩ := loop
  exact ⟨K, fun k hk => by simpa [i_vars, g_i_vars] using hK k hk k hk⟩
theorem i_ShortText_ev (t : ByteArray) (h : t.size ≤ 20000) : Ev (fun k => i_ShortText k t) (shortS t, true) := by
  unfold i_ShortText
  have h1 : ¬ ((t.size : Int) > 20000) := by omega
  simp only [decide_eq_false h1, br_false]
  have h2 := i_VarText_ev (t.size : Int)
  rw [varR_ok (by omega) (by omega)] at h2
  refine h2.bd (.of fun k => ?_)
  have := varS_size (n := (t.size : Int)) (by omega)
  simp only
  rw [gd_le (by unfold maxRow; omega)]
  rfl
theorem i_listText_ev (l : List Int) (hl : l.length ≤ 1000) : Ev (fun k => i_listText k l) (varS (l.length : Int) ++ byteL l) := by
  have h1 := i_VarText_ev (l.length : Int)
  rw [varR_ok (by omega) (by omega)] at h1
  refine h1.bd ?_
  have hz := varS_size (n := (l.length : Int)) (by omega)
  have loop := for_ev0 (l := fun k m i => l0_i_listText k m (varS (l.length : Int) ++ byteL (l.take i)) l (i : Int)) l.length (r := varS (l.length : Int) ++ byteL l) (fun i hi => ⟨0, fun k _ m => by
      have e1 := idx_succ hi (by omega)
      have g1 : (strOfNums [IntKind.wrap .u8 l[i]]).size = 1 := strOfNums_size _
      have g2 : (byteL (l.take i)).size ≤ 1000 := by rw [byteL_size, List.length_take]; omega
      simp only [l0_i_listText, b0_i_listText, hi, Int.ofNat_lt, Int.natCast_nonneg, decide_true, br_true, gd_true, Int.toNat_natCast, rd_at hi, e1]
      rw [gd_le (by unfold maxRow; simp only [ba_size]; omega), byteL_take hi, ByteArray.append_assoc]⟩) ⟨0, fun k _ m => by
      simp only [l0_i_listText, b0_i_listText, Int.lt_irrefl, decide_false, br_false, List.take_length]⟩
  refine loop.congr fun k => ?_
  try simp only
  congr 1
  apply ba_ext
  simp [byteL, strOfNums]
theorem i_mainText_ev (e : TEvent) (hl : (eLevels e).length ≤ 1000) (ht : (eText e).size ≤ 20000) : Ev (fun k => i_mainText k e) (mainS e) := by
  refine (i_ShortText_ev (eText e) ht).bd ((i_listText_ev (eLevels e) hl).bd (.of fun k => ?_))
  have hz := varS_size (n := ((eLevels e).length : Int)) (by omega)
  have hy := varS_size (n := ((eText e).size : Int)) (by omega)
  have h4 : (strOfNums [IntKind.wrap .u8 e.2.1, IntKind.wrap .u8 e.2.2.1, IntKind.wrap .u8 e.2.2.2.1, IntKind.wrap .u8 e.2.2.2.2.1]).size = 4 := strOfNums_size _
  have h5 : (shortS (eText e)).size ≤ 20005 := by unfold shortS; rw [ba_size]; omega
  simp only
  rw [gd_le (by unfold maxRow; simp only [ba_size, byteL_size, h4]; omega), gd_le (by unfold maxRow; simp only [ba_size, byteL_size, h4]; omega)]
  rfl
theorem i_EventText_ev (e : TEvent) (hs : m_Event e ≤ 1048576) : Ev (fun k => i_EventText k e) (bif eventOk e then (textS e, true) else (⟨#[]⟩, false)) := by
  cases ho : eventOk e with
  | false => exact (i_EventOk_ev e hs).bd (by rw [ho]; exact .of fun k => rfl)
  | true =>
    obtain ⟨hb, h1, h2, h3, h4, _⟩ := event_facts ho
    obtain ⟨_, _, h5, h6, _⟩ := body_facts hb
    obtain ⟨z1, z2, z3, z4, z5⟩ := textS_parts ho
    refine (i_EventOk_ev e hs).bd ?_
    rw [ho]
    simp only [Bool.not_true, br_false]
    have v1 := i_VarText_ev e.1
    rw [varR_ok (by omega) (by omega)] at v1
    have v2 := i_VarText_ev (eDepth e)
    rw [varR_ok (by omega) (by omega)] at v2
    refine v1.bd ?_
    refine Ev.gdle (by unfold maxRow; simp only [List.length_cons, List.length_nil]; have : (ePrev e).length ≤ 3 := h3; simp only [ePrev] at this; omega) ?_
    have v3 := i_vars_ev ([((ePrev e).length : Int)] ++ ePrev e) (by simp; omega) (fun n hn => by
      rcases List.mem_append.1 hn with hn | hn
      · rw [List.mem_singleton.1 hn]; omega
      · have := h4 n hn; omega)
    have e3 : catV ([((ePrev e).length : Int)] ++ ePrev e) = varS ((ePrev e).length : Int) ++ catV (ePrev e) := by
      unfold catV
      rw [List.flatMap_append, strOfNums_append]
      simp only [List.flatMap_cons, List.flatMap_nil, List.append_nil, strOfNums_numsOf]
    rw [e3] at v3
    refine v3.bd (v2.bd ((i_mainText_ev e (by omega) (by omega)).bd (.of fun k => ?_)))
    simp only
    rw [gd_le (by unfold maxRow; omega), gd_le (by unfold maxRow; simp only [ba_size]; omega), gd_le (by unfold maxRow; simp only [ba_size]; omega)]
    rfl

theorem catV_two (a b : Int) : catV [a, b] = varS a ++ varS b := by
  unfold catV
  simp only [List.flatMap_cons, List.flatMap_nil, List.append_nil, strOfNums_append, strOfNums_numsOf]
theorem i_two_ev (a b : Int) (ha : 0 ≤ a ∧ a ≤ 1000000) (hb : 0 ≤ b ∧ b ≤ 1000000) : Ev (fun k => i_vars k [a, b]) (varS a ++ varS b, true) := by
  rw [← catV_two]
  exact i_vars_ev _ (by simp) (fun n hn => by
    rcases List.mem_cons.1 hn with rfl | hn
    · omega
    · rw [List.mem_singleton.1 hn]; omega)
end Go.Vm
