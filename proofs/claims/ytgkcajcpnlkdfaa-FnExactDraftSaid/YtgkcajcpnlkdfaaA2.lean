/- Plain laws. -/
import Derived.Test.YtgkcajcpnlkdfaaP2
import Derived.Test.YtgkcajcpnlkdfaaY2
set_option linter.unusedVariables false
set_option linter.unusedSimpArgs false
namespace Go.Vm
open Go
/-! ### What a state tells -/
def findE (es : List TEvent) (id : Int) : TEvent × Bool := ((es.find? fun e => e.1 == id).map fun e => (e, true)).getD (noEv, false)
def atS (s : List TItem) (key : Int) : Int := ((s.find? fun x => x.1 == key).map fun x => x.2.1).getD 0
theorem s_find_ev (es : List TEvent) (h : es.length ≤ 1048576) (id : Int) : Ev (fun k => s_l10Find k es id) (findE es id) := by
  have := find_ev (l := fun k n i => l0_s_l10Find k n es id (i : Int)) es (fun e => e.1 == id) (fun e => (e, true)) (noEv, false) (fun i hi => ⟨0, fun k _ n => by
    simp only [l0_s_l10Find, b0_s_l10Find, Int.ofNat_lt, hi, Int.natCast_nonneg, decide_true, br_true, gd_true, Int.toNat_natCast, rd_at, idx_succ hi (by omega)]⟩) ⟨0, fun k _ n => by
    simp only [l0_s_l10Find, b0_s_l10Find, Int.lt_irrefl, decide_false, br_false]⟩
  exact this
theorem s_At_ev (s : List TItem) (h : s.length ≤ 1048576) (key : Int) : Ev (fun k => s_At k s key) (atS s key) := by
  have := find_ev (l := fun k n i => l0_s_At k n s key (i : Int)) s (fun x => x.1 == key) (fun x => x.2.1) 0 (fun i hi => ⟨0, fun k _ n => by
    simp only [l0_s_At, b0_s_At, Int.ofNat_lt, hi, Int.natCast_nonneg, decide_true, br_true, gd_true, Int.toNat_natCast, rd_at, idx_succ hi (by omega)]⟩) ⟨0, fun k _ n => by
    simp only [l0_s_At, b0_s_At, Int.lt_irrefl, decide_false, br_false]⟩
  exact this
def created (es : List TEvent) (s : List TItem) (u : Int) : Int := bif (findE es (atS s 1)).2 && ((findE es (atS s 1)).1.2.1 == 1 && (findE es (atS s 1)).1.2.2.1 == u) then 100 else 0
def level (es : List TEvent) (s : List TItem) (u : Int) : Int := bif inR u 1 5 then (bif (findE es (atS s 2)).2 && ((findE es (atS s 2)).1.2.1 == 3 && (((findE es (atS s 2)).1.2.2.2.2.2.1.length : Int) == 5)) then rd 0 (findE es (atS s 2)).1.2.2.2.2.2.1 (u - 1).toNat else created es s u) else 0
def member (es : List TEvent) (s : List TItem) (u : Int) : Int := bif inR u 1 5 && ((findE es (atS s (10 + u))).2 && ((findE es (atS s (10 + u))).1.2.1 == 2 && (findE es (atS s (10 + u))).1.2.2.2.1 == u)) then (findE es (atS s (10 + u))).1.2.2.2.2.1 else 0
def noMember (s : List TItem) : Bool := allN s.length fun i => !decide ((rd dTItem s i).1 > 10)
def selfOk (es : List TEvent) (s : List TItem) (e : TEvent) : Bool :=
  bif e.2.2.2.2.1 == 2 then member es s e.2.2.2.1 == 1 || (member es s e.2.2.2.1 == 2 || ((findE es (atS s 1)).2 && ((findE es (atS s 1)).1.2.2.1 == e.2.2.1 && noMember s)))
  else bif e.2.2.2.2.1 == 0 then member es s e.2.2.2.1 == 1 || member es s e.2.2.2.1 == 2 else false
def otherOk (es : List TEvent) (s : List TItem) (e : TEvent) : Bool :=
  member es s e.2.2.1 == 2 && (bif e.2.2.2.2.1 == 1 then member es s e.2.2.2.1 == 0
    else bif e.2.2.2.2.1 == 0 then (member es s e.2.2.2.1 == 1 || member es s e.2.2.2.1 == 2) && (decide (level es s e.2.2.1 ≥ 50) && decide (level es s e.2.2.1 > level es s e.2.2.2.1))
    else bif e.2.2.2.2.1 == 3 then (member es s e.2.2.2.1 != 3) && (decide (level es s e.2.2.1 ≥ 50) && decide (level es s e.2.2.1 > level es s e.2.2.2.1)) else false)
def memberOk (es : List TEvent) (s : List TItem) (e : TEvent) : Bool := bif e.2.2.2.1 == e.2.2.1 then selfOk es s e else otherOk es s e
def powerAt (es : List TEvent) (s : List TItem) (e : TEvent) (i : Nat) : Bool :=
  rd 0 e.2.2.2.2.2.1 i == level es s ((i + 1 : Nat) : Int) || (!decide (rd 0 e.2.2.2.2.2.1 i > level es s e.2.2.1) && (!decide (level es s ((i + 1 : Nat) : Int) ≥ level es s e.2.2.1) || ((i + 1 : Nat) : Int) == e.2.2.1))
def powerOk (es : List TEvent) (s : List TItem) (e : TEvent) : Bool := member es s e.2.2.1 == 2 && (!decide (level es s e.2.2.1 < 50) && allN 5 (powerAt es s e))
def allowed (es : List TEvent) (s : List TItem) (e : TEvent) : Bool :=
  eventOk e && (bif e.2.1 == 1 then (s.length : Int) == 0 else (findE es (atS s 1)).2 && ((findE es (atS s 1)).1.2.1 == 1 && (bif e.2.1 == 2 then memberOk es s e else bif e.2.1 == 3 then powerOk es s e
    else bif e.2.1 == 4 then member es s e.2.2.1 == 2 && decide (level es s e.2.2.1 ≥ 50) else member es s e.2.2.1 == 2)))
def keyOf (e : TEvent) : Int := bif e.2.1 == 1 then 1 else bif e.2.1 == 3 then 2 else bif e.2.1 == 4 then 3 else bif e.2.1 == 2 && inR e.2.2.2.1 1 5 then 10 + e.2.2.2.1 else 0
end Go.Vm
