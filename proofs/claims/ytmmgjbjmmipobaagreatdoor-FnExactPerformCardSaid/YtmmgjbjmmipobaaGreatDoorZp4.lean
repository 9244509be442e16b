/- Plain laws. -/
import Derived.Test.YtmmgjbjmmipobaaGreatDoorZp3
set_option linter.all false
section
namespace Go.Vm
open Go
theorem Fg2 (a b c:Int):W6 a b c=decide (b≤a∧a≤c):=by unfold W6;rw[Bool.decide_and]
def Co0 (k:Int):Bool:=W6 k 1 3||W6 k 11 15
theorem Fg3 (k:Nat) (a:Int):C26 k a=some (Co0 a):=by
 unfold C26 Co0
 rw[P8,P8]
 cases W6 a 1 3<;>rfl
def StP (s:List A1):Prop:=s.length≤8∧∀i,i<s.length→Co0 (rd C0 s i).1=true∧(1≤(rd C0 s i).2.1∧(rd C0 s i).2.1≤1000000)∧(0<i→(rd C0 s (i-1)).1< (rd C0 s i).1)
noncomputable def Q6 (s:List A1):Bool:=@decide (StP s) (Classical.propDecidable _)
theorem Ax0 {s:List A1}:Q6 s=true↔StP s:=by unfold Q6;exact@decide_eq_true_iff _ (Classical.propDecidable _)
theorem g8 {s:List A1} (h:¬StP s):Q6 s=false:=by
 cases e:Q6 s with
 |false=>rfl
 |true=>exact absurd (Ax0.1 e) h
theorem C67 (s:List A1) (h:s.length≤4194304):Ev (λk=>Ci9 k s) (Q6 s):=by
 refine Re.eq ?_
 refine Re.brd (λq=>Re.ret (g8 λhc=>by have:=hc.1;omega).symm) (λq=> ?_)
 refine Re.enter (f:=λk n=>a8 k n s 0) B9 ?_
 have:=Re.loop (ι:=Nat) (l:=λk n (i:Nat)=>a8 k n s (i:Int)) (I:=λi=>i≤s.length∧∀j,j<i→Co0 (rd C0 s j).1=true∧(1≤(rd C0 s j).2.1∧(rd C0 s j).2.1≤1000000)∧(0<j→(rd C0 s (j-1)).1< (rd C0 s j).1)) (λi=>s.length-i) (Q:=λ_ v=>v=Q6 s) (λi hi ih=>by
  simp only[a8,Bp3]
  refine Re.brd (λh1=> ?_) (λh1=>Re.ret (Ax0.2 ⟨by omega,λj hj=>hi.2 j (by omega)⟩).symm)
  have hl:i<s.length:=by omega
  refine Re.gdd (by omega) (Re.gdd h1 ?_)
  simp only[G33]
  refine Re.s2 (Fg3 · _) ?_
  refine Re.br (λg=>Re.ret (g8 λhc=>by have:=(hc.2 i hl).1;rw[this]at g;cases g).symm) (λg=> ?_)
  have g1:Co0 (rd C0 s i).1=true:=by simpa using g
  refine Re.gdd (by omega) (Re.gdd h1 (Re.s2 (P8 · _ _ _) ?_))
  rw[Fg2]
  refine Re.br (λg=>Re.ret (g8 λhc=>by have:=(hc.2 i hl).2.1;rw[G54 this]at g;cases g).symm) (λg=> ?_)
  have g2:1≤(rd C0 s i).2.1∧(rd C0 s i).2.1≤1000000:=by simpa using g
  rw[B2 hl (by omega)]
  have next:(0<i→(rd C0 s (i-1)).1< (rd C0 s i).1)→Re (λx:Nat×Nat=>a8 x.1 x.2 s ((i+1:Nat):Int)) (λv=>v=Q6 s):=λg3=>ih (i+1) ⟨by omega,λj hj=>by
   by_cases q:j<i
   ·exact hi.2 j q
   ·have:j=i:=by omega
    subst this;exact⟨g1,g2,g3⟩⟩ (by omega)
  refine Re.brd (λq=> ?_) (λq=>next λh=>absurd (by omega) q)
  rw[Bj8 (by omega) (by omega)]
  refine Re.gdd (by omega) (Re.gdd (by omega) (Re.gdd (by omega) (Re.gdd h1 ?_)))
  simp only[G33]
  exact Re.brd (λq=>Re.ret (g8 λhc=>by have:=(hc.2 i hl).2.2 (by omega);omega).symm) (λq=>next λ_=>by omega)) 0 ⟨G49 _,λj hj=>by omega⟩
 exact this
def Ax8 (s:List A1) (key id:Int):List A1:=s.filter (λx=>decide (x.1<key))++ [(key,id,())]++s.filter (λx=>decide (x.1>key))
noncomputable def Cw2 (s:List A1) (key id:Int):List A1:=bif Q6 s&&Q6 (Ax8 s key id)then Ax8 s key id else s
theorem Dj9 {s:List A1} {i:Nat} (h:i<s.length):s.take (i+1)=s.take i++ [rd C0 s i]:=by
 rw[G66,G36 h,C2 h];rfl
theorem A37 {α:Type} (p:α→Bool) (s:List α) (i:Nat):((s.take i).filter p).length≤s.length:=
 G99 (Ha0 _ _) (by simp;omega)
theorem Fg4 (s:List A1) (h:s.length≤1048576) (key id:Int):Ev (λk=>F14 k s key id) (Cw2 s key id):=by
 refine Re.eq (Re.enter (f:=λk n=>Bk0 k n s key id 0 []) B9 ?_)
 have:=Re.wf (l:=λk n (st:Nat ⊕ Nat)=>match st with
   | .inl i=>Bk0 k n s key id (i:Int) ((s.take i).filter λx=>decide (x.1<key))
   | .inr i=>B67 k n s key (i:Int) ((s.filter λx=>decide (x.1<key))++ [(key,id,())]++((s.take i).filter λx=>decide (x.1>key))))
  (I:=λst=>match st with| .inl i=>i≤s.length| .inr i=>i≤s.length)
  (λst=>match st with| .inl i=> (1,s.length-i)| .inr i=> (0,s.length-i)) (Q:=λ_ v=>v=Cw2 s key id) (λst hi ih=>by
  rcases st with i|i
  ·simp only at hi ih ⊢
   simp only[Bk0,D75]
   have hle:=A37 (λx:A1=>decide (x.1<key)) s i
   refine Re.brd (λq=> ?_) (λq=> ?_)
   ·have hl:i<s.length:=by omega
    refine Re.gdd (by omega) (Re.gdd q ?_)
    rw[B2 hl (by omega)]
    have next:=ih (.inl (i+1)) (by simp only;omega) (.inr ⟨rfl,by simp only;omega⟩)
    simp only[Dj9 hl,G91]at next
    simp only[G33]
    refine Re.brd (λg=>Re.gdd (by omega) (Re.gdd q (Re.gdd (by simp[A5];omega) ?_))) (λg=> ?_)
    ·rw[Hb7 (by simpa using g)]at next;exact next
    ·rw[Ha7 (by simpa using g)]at next;simpa using next
   ·have e:s.take i=s:=G40 (by omega)
    rw[e]at hle ⊢
    refine Re.gdd (by simp[A5];omega) ?_
    have next:=ih (.inr 0) (G49 _) (.inl (by simp only;omega))
    simpa using next
  ·simp only at hi ih ⊢
   simp only[B67,D74]
   have hle:=A37 (λx:A1=>decide (x.1>key)) s i
   have hle2:(s.filter λx:A1=>decide (x.1<key)).length≤s.length:=Ha0 _ _
   refine Re.brd (λq=> ?_) (λq=> ?_)
   ·have hl:i<s.length:=by omega
    refine Re.gdd (by omega) (Re.gdd q ?_)
    rw[B2 hl (by omega)]
    have next:=ih (.inr (i+1)) (by simp only;omega) (.inr ⟨rfl,by simp only;omega⟩)
    simp only[Dj9 hl,G91]at next
    simp only[G33]
    refine Re.brd (λg=>Re.gdd (by omega) (Re.gdd q (Re.gdd (by simp only[G70,G57];unfold A5;omega) ?_))) (λg=> ?_)
    ·rw[Hb7 (by simpa using g)]at next;simpa using next
    ·rw[Ha7 (by simpa using g)]at next;simpa using next
   ·have e:s.take i=s:=G40 (by omega)
    rw[e]at hle ⊢
    have eo:(s.filter λx:A1=>decide (x.1<key))++ [(key,id,())]++(s.filter λx=>decide (x.1>key))=Ax8 s key id:=rfl
    rw[eo]
    have hlo:(Ax8 s key id).length≤4194304:=by rw[←eo];simp only[G70,G57];omega
    refine Re.c2 (C67 s (by omega)) ?_
    have hcopy:Re (λ_:Nat×Nat=>gd (decide (([]:List A1).length+s.length≤A5)) (some (([]:List A1)++s))) (λv=>v=s):=Re.gdd (by simp[A5];omega) (Re.ret rfl)
    unfold Cw2
    cases Q6 s with
    |false=>exact hcopy
    |true=>
     refine Re.br (b:=false) (λh=>by cases h) (λ_=>Re.c2 (C67 _ hlo) ?_)
     cases Q6 (Ax8 s key id)with
     |false=>exact hcopy
     |true=>exact Re.ret rfl) (.inl 0) (G49 _)
 simpa using this
theorem Dq9 {s:List A1} {key id:Int} {n:Nat} (h:s.length≤n) (h8:8≤n):(Cw2 s key id).length≤n:=by
 unfold Cw2
 cases hq:Q6 s&&Q6 (Ax8 s key id)with
 |false=>exact h
 |true=>
  simp only[G37]at hq
  have:=(Ax0.1 hq.2).1
  simp only[G52];omega
def F79 (ss:List (List A1)):Prop:=ss.length≤1048576∧∀i,i<ss.length→(rd [] ss i).length≤100000
def Ft3 (ss:List (List A1)) (k:Int):Bool:=ss.any λs=>s.any λx=>x.1==k
def Ae1 (ss:List (List A1)):Nat→List Int
 |0=> []
 |k+1=>bif Ft3 ss (k:Int)then Ae1 ss k++ [(k:Int)]else Ae1 ss k
def P9 (ss:List (List A1)):List Int:=Ae1 ss 16
theorem P1 (ss:List (List A1)):∀k,(Ae1 ss k).length≤k
 |0=>G53 0
 |k+1=>by
  have:=P1 ss k
  unfold Ae1
  cases Ft3 ss (k:Int)<;>simp<;>omega
theorem Co1 {α:Type} (p:α→Bool) (d:α) (xs:List α) {i:Nat} (h:i<xs.length):(xs.take (i+1)).any p=((xs.take i).any p||p (rd d xs i)):=by
 rw[G66,G36 h,C2 h,List.any_append]
 simp
theorem C68 (ss:List (List A1)) (h:F79 ss):Ev (λk=>Cj0 k ss) (P9 ss):=by
 obtain⟨h1,h2⟩:=h
 refine Re.eq (Re.enter (f:=λk n=>Ab1 k n ss 0 []) B9 ?_)
 have:=Re.wf (l:=λk n (st:Nat ⊕ (Nat×Nat×Bool) ⊕ (Nat×Nat×Nat×Bool))=>match st with
   | .inl q=>Ab1 k n ss (q:Int) (Ae1 ss q)
   | .inr (.inl (q,i,b))=>Ak4 k n ss (q:Int) b (i:Int) (Ae1 ss q)
   | .inr (.inr (q,i,j,b))=>Ak5 k n ss (q:Int) b (i:Int) (j:Int) (Ae1 ss q))
  (I:=λst=>match st with
   | .inl q=>q≤16
   | .inr (.inl (q,i,b))=>q≤15∧i≤ss.length∧b=(ss.take i).any λs=>s.any λx=>x.1==(q:Int)
   | .inr (.inr (q,i,j,b))=>q≤15∧i<ss.length∧j≤(rd [] ss i).length∧b=((ss.take i).any (λs=>s.any λx=>x.1==(q:Int))||((rd [] ss i).take j).any λx=>x.1==(q:Int)))
  (λst=>match st with
   | .inl q=> ((16-q)*(ss.length+2),0)
   | .inr (.inl (q,i,_))=> ((15-q)*(ss.length+2)+(ss.length-i)+1,0)
   | .inr (.inr (q,i,j,_))=> ((15-q)*(ss.length+2)+(ss.length-i),(rd [] ss i).length-j+1)) (Q:=λ_ v=>v=P9 ss) (λst hi ih=>by
  rcases st with q|⟨q,i,b⟩|⟨q,i,j,b⟩
  ·simp only at hi ih ⊢
   simp only[Ez5,Az6]
   refine Re.brd (λg=> ?_) (λg=>Re.ret ?_)
   ·refine ih (.inr (.inl (q,0,false))) ⟨by omega,G49 _,by simp⟩ (.inl ?_)
    simp only
    have:(16-q)*(ss.length+2)=(15-q)*(ss.length+2)+(ss.length+2):=by rw[show 16-q=(15-q)+1 by omega,Nat.succ_mul]
    omega
   ·rw[show q=16 by omega];rfl
  ·obtain⟨g1,g2,g3⟩:=hi
   simp only at ih ⊢
   simp only[Ez6,Az7]
   have hk:=P1 ss q
   refine Re.brd (λg=> ?_) (λg=> ?_)
   ·exact ih (.inr (.inr (q,i,0,b))) ⟨g1,by omega,G49 _,by simp[g3]⟩ (.inl (by simp only;omega))
   ·have ei:ss.take i=ss:=G40 (by omega)
    rw[ei]at g3
    have next:=ih (.inl (q+1)) (by simp only;omega) (.inl (by
     simp only
     rw[show 16- (q+1)=15-q by omega];omega))
    have ek:Ae1 ss (q+1)=bif b then Ae1 ss q++ [(q:Int)]else Ae1 ss q:=by rw[g3];rfl
    have ew:B5 ((q:Int)+1)=((q+1:Nat):Int):=by rw[D7 (by omega) (by omega)];rfl
    rw[ew]
    simp only[ek]at next
    cases b with
    |true=>exact Re.br (b:=true) (λ_=>Re.gdd (by simp[A5];omega) next) (λh=>by cases h)
    |false=>exact Re.br (b:=false) (λh=>by cases h) (λ_=>next)
  ·obtain⟨g1,g2,g3,g4⟩:=hi
   simp only at ih ⊢
   simp only[Ez7,Az8]
   refine Re.gdd (by omega) (Re.gdd (by omega) ?_)
   simp only[G33]
   have hsz:=h2 i g2
   refine Re.brd (λg=> ?_) (λg=> ?_)
   ·have hj:j< (rd [] ss i).length:=by omega
    have ew:B5 ((j:Int)+1)=((j+1:Nat):Int):=B2 hj (by omega)
    have et:=Co1 (λx:A1=>x.1==(q:Int)) C0 (rd [] ss i) hj
    have next:=ih (.inr (.inr (q,i,j+1,b||((rd C0 (rd [] ss i) j).1==(q:Int))))) ⟨g1,g2,by omega,by rw[et,g4,Bool.or_assoc]⟩ (.inr ⟨rfl,by simp only;omega⟩)
    rw[ew]
    cases b with
    |true=>
     rw[Bool.true_or]at next
     exact Re.br (b:=true) (λ_=>next) (λh=>by cases h)
    |false=>
     rw[Bool.false_or]at next
     exact Re.br (b:=false) (λh=>by cases h) (λ_=>Re.gdd (by omega) (Re.gdd (by omega) (Re.gdd (by omega) (Re.gdd g next))))
   ·have ej:(rd [] ss i).take j=rd [] ss i:=G40 (by omega)
    rw[ej]at g4
    rw[B2 g2 (by omega)]
    exact ih (.inr (.inl (q,i+1,b))) ⟨g1,by omega,by rw[Co1 (λs:List A1=>s.any λx=>x.1==(q:Int)) [] ss g2];exact g4⟩ (.inr ⟨by simp only;omega,by simp only;omega⟩)) (.inl 0) (G49 _)
 exact this
def Z7 (ss:List (List A1)) (key:Int):Bool:=(List.range' 1 (ss.length-1)).all λi=>q9 (rd [] ss i) key==q9 (rd [] ss 0) key
theorem Co2 (ss:List (List A1)) (h:F79 ss) (key:Int):Ev (λk=>Bp4 k ss key) (Z7 ss key):=by
 obtain⟨h1,h2⟩:=h
 refine Re.eq (Re.enter (f:=λk n=>l9 k n ss key 1) B9 ?_)
 have:=Re.loop (ι:=Nat) (l:=λk n (i:Nat)=>l9 k n ss key (i:Int)) (I:=λi=>1≤i∧(∀j,1≤j→j<i→j<ss.length→(q9 (rd [] ss j) key==q9 (rd [] ss 0) key)=true)) (λi=>ss.length-i) (Q:=λ_ v=>v=Z7 ss key) (λi hi ih=>by
  simp only[l9,Be7]
  refine Re.brd (λg=> ?_) (λg=>Re.ret ?_)
  ·have hl:i<ss.length:=by omega
   refine Re.gdd (by omega) (Re.gdd g ?_)
   simp only[G33]
   refine Re.c2 (A17 _ (by have:=h2 i hl;omega) _) (Re.gdd (by omega) (Re.c2 (A17 _ (by have:=h2 0 (by omega);omega) _) ?_))
   refine Re.brn (λq=>Re.ret ?_) (λq=> ?_)
   ·unfold Z7
    rw[eq_comm,List.all_eq_false]
    exact⟨i,by rw[List.mem_range'_1];omega,by simp[q]⟩
   ·rw[B2 hl (by omega)]
    exact ih (i+1) ⟨by omega,λj hj1 hj2 hj3=>by
     by_cases q2:j<i
     ·exact hi.2 j hj1 q2 hj3
     ·have:j=i:=by omega
      subst this;simp[q]⟩ (by omega)
  ·unfold Z7
   rw[eq_comm,G90]
   intro j hj
   rw[List.mem_range'_1]at hj
   exact hi.2 j hj.1 (by omega) (by omega)) 1 ⟨G53 1,λj h1 h2=>by omega⟩
 exact this
def N7 (ss:List (List A1)):List A1:=((P9 ss).filter (Z7 ss)).map λk=> (k,q9 (rd [] ss 0) k,())
def Bf8 (ss:List (List A1)):List Int:=(P9 ss).filter λk=> !Z7 ss k
theorem T7 {s:List Int} {i:Nat} (h:i<s.length):s.take (i+1)=s.take i++ [rd 0 s i]:=by
 rw[G66,G36 h,C2 h];rfl
theorem Dr0 (ss:List (List A1)) (h:F79 ss) (hne:0<ss.length):Ev (λk=>C28 k ss) (N7 ss):=by
 refine Re.eq (Re.c1 (C68 ss h) ?_)
 have hk:(P9 ss).length≤16:=P1 ss 16
 refine Re.enter (f:=λk n=>Ah5 k n ss 0 [] (P9 ss)) B9 ?_
 have:=Re.loop (ι:=Nat) (l:=λk n (i:Nat)=>Ah5 k n ss (i:Int) ((((P9 ss).take i).filter (Z7 ss)).map λk=> (k,q9 (rd [] ss 0) k,())) (P9 ss)) (I:=λi=>i≤(P9 ss).length) (λi=> (P9 ss).length-i) (Q:=λ_ v=>v=N7 ss) (λi hi ih=>by
  have hle:=A37 (Z7 ss) (P9 ss) i
  simp only[Ah5,B68]
  refine Re.brd (λg=> ?_) (λg=>Re.ret (by rw[G40 (by omega)];rfl))
  have hl:i< (P9 ss).length:=by omega
  have next:=ih (i+1) (by omega) (by omega)
  rw[T7 hl,G91,G64]at next
  refine Re.gdd (by omega) (Re.gdd g ?_)
  simp only[G33]
  rw[B2 hl (by omega)]
  refine Re.c2 (Co2 ss h _) ?_
  cases ha:Z7 ss (rd 0 (P9 ss) i)with
  |true=>
   rw[Hb7 ha]at next
   refine Re.br (b:=true) (λ_=> ?_) (λh=>by cases h)
   refine Re.gdd (by omega) (Re.gdd g (Re.gdd (by omega) (Re.gdd (by omega) (Re.gdd g ?_))))
   refine Re.c2 (A17 _ (by have:=h.2 0 hne;omega) _) (Re.gdd (by simp only[List.length_map,G57];unfold A5;omega) ?_)
   simpa using next
  |false=>
   rw[Ha7 (by simp[ha])]at next
   refine Re.br (b:=false) (λh=>by cases h) (λ_=> ?_)
   simpa using next) 0 (G49 _)
 simpa using this
theorem Ft4 (ss:List (List A1)) (h:F79 ss):Ev (λk=>Ez8 k ss) (Bf8 ss):=by
 refine Re.eq (Re.c1 (C68 ss h) ?_)
 have hk:(P9 ss).length≤16:=P1 ss 16
 refine Re.enter (f:=λk n=>Ap8 k n ss 0 [] (P9 ss)) B9 ?_
 have:=Re.loop (ι:=Nat) (l:=λk n (i:Nat)=>Ap8 k n ss (i:Int) (((P9 ss).take i).filter λk=> !Z7 ss k) (P9 ss)) (I:=λi=>i≤(P9 ss).length) (λi=> (P9 ss).length-i) (Q:=λ_ v=>v=Bf8 ss) (λi hi ih=>by
  have hle:=A37 (λk=> !Z7 ss k) (P9 ss) i
  simp only[Ap8,Cu5]
  refine Re.brd (λg=> ?_) (λg=>Re.ret (by rw[G40 (by omega)];rfl))
  have hl:i< (P9 ss).length:=by omega
  have next:=ih (i+1) (by omega) (by omega)
  rw[T7 hl,G91]at next
  refine Re.gdd (by omega) (Re.gdd g ?_)
  simp only[G33]
  rw[B2 hl (by omega)]
  refine Re.c2 (Co2 ss h _) ?_
  cases ha:Z7 ss (rd 0 (P9 ss) i)with
  |false=>
   rw[Hb7 (by simp[ha])]at next
   refine Re.br (b:=true) (λ_=> ?_) (λh=>by cases h)
   exact Re.gdd (by omega) (Re.gdd g (Re.gdd (by simp only[G57];unfold A5;omega) next))
  |true=>
   rw[Ha7 (by simp[ha])]at next
   refine Re.br (b:=false) (λh=>by cases h) (λ_=> ?_)
   simpa using next) 0 (G49 _)
 simpa using this
end Go.Vm
end
section
namespace Go.Vm
open Go
def Am6 (e:A0):Bool:=e.2.1==3||(e.2.1==2&&((e.2.2.2.2.1==0||e.2.2.2.2.1==3)&&e.2.2.1 !=e.2.2.2.1))
theorem Bf9 (k:Nat) (e:A0):Aq0 k e=some (Am6 e):=by
 unfold Aq0 Am6
 cases e.2.1==3<;>cases e.2.1==2<;>cases e.2.2.2.2.1==0<;>cases e.2.2.2.2.1==3<;>rfl
def Q7 (es:List A0) (s:List A1) (a b:A0):Bool:=
 bif Am6 a==Am6 b then(if I0 es s a.2.2.1=I0 es s b.2.2.1 then(if a.2.2.2.2.2.2.2.2.1=b.2.2.2.2.2.2.2.2.1 then decide (a.1<b.1)else decide (a.2.2.2.2.2.2.2.2.1<b.2.2.2.2.2.2.2.2.1))else decide (I0 es s a.2.2.1>I0 es s b.2.2.1))else Am6 a
theorem E31 (es:List A0) (s:List A1) (h:E27 es s) (a b:A0):Ev (λk=>Dh9 k es s a b) (Q7 es s a b):=by
 refine Re.eq (Re.s1 (Bf9 · _) (Re.s1 (Bf9 · _) ?_))
 unfold Q7
 cases Am6 a==Am6 b with
 |false=>exact Re.br (b:=true) (λ_=>Re.s1 (Bf9 · _) (Re.ret rfl)) (λh=>by cases h)
 |true=>
  refine Re.br (b:=false) (λh=>by cases h) (λ_=>Re.c1 (e8 es s h _) (Re.c1 (e8 es s h _) ?_))
  refine Re.brn (λq=>Re.ret (by simp[q])) (λq=> ?_)
  exact Re.brn (λq2=>Re.ret (by simp[q,q2])) (λq2=>Re.ret (by simp[q,q2]))
def ready (ahead left out:List Int):Bool:=ahead.all λx=> !decide (x∈left)||decide (x∈out)
theorem Co3 (ahead left out:List Int) (h1:ahead.length≤1048576) (h2:left.length≤1048576) (h3:out.length≤1048576):Ev (λk=>Bp5 k ahead left out) (ready ahead left out):=by
 refine Re.eq (Re.enter (f:=λk n=>X1 k n ahead left out 0) B9 ?_)
 have:=Re.loop (ι:=Nat) (l:=λk n (i:Nat)=>X1 k n ahead left out (i:Int)) (I:=λi=>i≤ahead.length∧∀j,j<i→(rd 0 ahead j∈left→rd 0 ahead j∈out)) (λi=>ahead.length-i) (Q:=λ_ v=>v=ready ahead left out) (λi hi ih=>by
  simp only[X1,Be8]
  refine Re.brd (λg=> ?_) (λg=>Re.ret ?_)
  ·have hl:i<ahead.length:=by omega
   refine Re.gdd (by omega) (Re.gdd g ?_)
   simp only[G33]
   rw[B2 hl (by omega)]
   have next:(rd 0 ahead i∈left→rd 0 ahead i∈out)→Re (λx:Nat×Nat=>X1 x.1 x.2 ahead left out ((i+1:Nat):Int)) (λv=>v=ready ahead left out):=λq=>ih (i+1) ⟨by omega,λj hj=>by
    by_cases q2:j<i
    ·exact hi.2 j q2
    ·have:j=i:=by omega
     subst this;exact q⟩ (by omega)
   refine Re.c2 (As0 left h2 _) ?_
   refine Re.brd (λq=> ?_) (λq=>next λh=>absurd h q)
   refine Re.gdd (by omega) (Re.gdd g (Re.c2 (As0 out h3 _) ?_))
   refine Re.br (λq2=>Re.ret ?_) (λq2=>next λ_=>by simpa using q2)
   unfold ready
   rw[eq_comm,List.all_eq_false]
   refine⟨rd 0 ahead i,by rw[C2 hl];exact G47 _, ?_⟩
   have q3:¬rd 0 ahead i∈out:=by simpa using q2
   simp[q,q3]
  ·unfold ready
   rw[eq_comm,G90]
   intro x hx
   obtain⟨j,hj,rfl⟩:=G63 hx
   have:=hi.2 j (by omega)
   rw[C2 hj]at this
   by_cases q:ahead[j]∈left
   ·simp[q,this q]
   ·simp[q]) 0 ⟨G49 _,λj hj=>by omega⟩
 exact this
def found (es:List A0) (x:Int):Prop:=(C5 es x).2=true
def F2 (es:List A0) (x:Int):List Int:=(C5 es x).1.2.2.2.2.2.2.2.1
inductive Anc (es : List A0) (id : Int) : Int → Prop where
 | one {x : Int} : x ∈ F2 es id → found es x → Anc es id x
 | more {x y : Int} : Anc es id y → x ∈ F2 es y → found es x → Anc es id x
theorem A38 {es:List A0} {x:Int} (h:found es x):x∈es.map λe=>e.1:=by
 unfold found C5 at h
 cases hf:es.find? λe=>e.1==x with
 |none=>rw[hf]at h;cases h
 |some e=>
  have h1:=List.find?_some hf
  have h2:=List.mem_of_find?_eq_some hf
  exact G79.2 ⟨e,h2,by simpa using h1⟩
theorem Am7 {α:Type} [DecidableEq α]:∀(l m:List α),l.Nodup→(∀x∈l,x∈m)→l.length≤m.length
 | [],m,_,_=>G49 _
 |a::l,m,hn,hs=>by
  have ha:a∈m:=hs a (G39 ..)
  rw[Hb0]at hn
  have:=Am7 l (m.erase a) hn.2 λx hx=> (List.mem_erase_of_ne (λe=>by subst e;exact hn.1 hx)).2 (hs x (G38 _ hx))
  rw[List.length_erase_of_mem ha]at this
  have:0<m.length:=List.length_pos_of_mem ha
  simp;omega
def AncL (es:List A0) (id:Int) (r:List Int):Prop:=r.Nodup∧∀x,x∈r↔Anc es id x
structure BInv (es : List A0) (id : Int) (out todo : List Int) (cur : Option (Int × Nat)) : Prop where
 nd : out.Nodup
 an : ∀ x ∈ out, found es x ∧ Anc es id x
 td : ∀ y ∈ todo, y = id ∨ y ∈ out
 cl : ∀ z, (z = id ∨ z ∈ out) → z ∈ todo ∨ (∃ j, cur = some (z, j) ∧ ∀ x ∈ (F2 es z).take j, found es x → x ∈ out) ∨ (∀ x ∈ F2 es z, found es x → x ∈ out)
theorem BInv.len {es:List A0} {id:Int} {out todo:List Int} {cur:Option (Int×Nat)} (h:BInv es id out todo cur):out.length≤es.length:=by
 have:=Am7 out (es.map λe=>e.1) h.nd λx hx=>A38 (h.an x hx).1
 simpa using this
theorem Ec1 (es:List A0) (h:es.length≤100000) (hp:∀y,(F2 es y).length≤1048576) (id:Int):Re (λk=>B70 k es id) (AncL es id):=by
 refine Re.enter (f:=λk n=>Y1 k n es 0 [] [id]) B9 ?_
 have:=Re.wf (l:=λk n (st:(Nat×List Int×List Int) ⊕ (Nat×Nat×List Int×List Int×Int))=>match st with
   | .inl (u,out,td)=>Y1 k n es u out td
   | .inr (u,j,out,td,y)=>T4 k n es u (j:Int) out td (C5 es y))
  (I:=λst=>match st with
   | .inl (u,out,td)=>BInv es id out (td.drop u) none∧td.length≤1000000+u∧u≤td.length∧(td.drop u).length≤out.length+1
   | .inr (u,j,out,td,y)=>BInv es id out (td.drop u) (some (y,j))∧(y=id∨y∈out)∧j≤(F2 es y).length∧(td.drop u).length≤out.length+1∧u≤td.length)
  (λst=>match st with
   | .inl (u,out,td)=> (2*(es.length-out.length)+(td.drop u).length,0)
   | .inr (u,j,out,td,y)=> (2*(es.length-out.length)+(td.drop u).length,(F2 es y).length-j+1)) (Q:=λ_ r=>AncL es id r) (λst hi ih=>by
  rcases st with⟨u,out,td⟩|⟨u,j,out,td,y⟩
  ·obtain⟨hB,h1,h2,h3⟩:=hi
   simp only at ih ⊢
   simp only[D78,Ak6]
   refine Re.brd (λg=> ?_) (λg=>Re.ret ?_)
   ·have hu:u<td.length:=by omega
    have hd:td.drop u=rd 0 td u::td.drop (u+1):=by rw[C2 hu];exact G89 hu
    refine Re.gdd (by omega) ?_
    rw[G69]
    refine Re.c2 (Y9 es (by omega) _) (Re.gdd (by omega) ?_)
    have hy:=hB.td (rd 0 td u) (by rw[hd];exact G39 ..)
    refine ih (.inr (u+1,0,out,td,rd 0 td u)) ⟨⟨hB.nd,hB.an,λz hz=>hB.td z (by rw[hd];exact G38 _ hz),λz hz=> ?_⟩,hy,G49 _,by rw[hd]at h3;simp at h3 ⊢;omega,by omega⟩ (.inl ?_)
    ·rcases hB.cl z hz with h4|⟨j,h4,_⟩|h4
     ·rw[hd]at h4
      rcases G67.1 h4 with h5|h5
      ·exact .inr (.inl ⟨0,by rw[h5],λx hx=>by simp at hx⟩)
      ·exact .inl h5
     ·cases h4
     ·exact .inr (.inr h4)
    ·simp only[hd,G82]
     omega
   ·have e:td.drop u=[]:=Hc0 (by omega)
    rw[e]at hB
    refine⟨hB.nd,λx=> ⟨λhx=> (hB.an x hx).2,λhx=> ?_⟩⟩
    have closed:∀z,(z=id∨z∈out)→∀x∈F2 es z,found es x→x∈out:=λz hz=>by
     rcases hB.cl z hz with h4|⟨j,h4,_⟩|h4
     ·simp at h4
     ·cases h4
     ·exact h4
    induction hx with
    |one h4 h5=>exact closed id (.inl rfl) _ h4 h5
    |more _ h4 h5 ih2=>exact closed _ (.inr ih2) _ h4 h5
  ·obtain⟨hB,h1,h2,h3,hu⟩:=hi
   simp only at ih ⊢
   have hlen:=hB.len
   have hpl:=hp y
   have hpe:(C5 es y).1.2.2.2.2.2.2.2.1=F2 es y:=rfl
   simp only[D79,Ak7,hpe]
   refine Re.brd (λg=> ?_) (λg=> ?_)
   ·have hj:j< (F2 es y).length:=by omega
    refine Re.gdd (by omega) (Re.gdd g ?_)
    simp only[G33]
    rw[B2 hj (by omega)]
    have step:∀out2 td2 u2,BInv es id out2 (td2.drop u2) (some (y,j+1))→(y=id∨y∈out2)→(td2.drop u2).length≤out2.length+1→u2≤td2.length→(2*(es.length-out2.length)+(td2.drop u2).length≤2*(es.length-out.length)+(td.drop u).length)→
      Re (λx:Nat×Nat=>T4 x.1 x.2 es u2 ((j+1:Nat):Int) out2 td2 (C5 es y)) (AncL es id):=λout2 td2 u2 b1 b2 b3 b5 b4=>by
     refine ih (.inr (u2,j+1,out2,td2,y)) ⟨b1,b2,by omega,b3,b5⟩ ?_
     simp only
     omega
    have tk:=T7 hj
    have same:(found es (rd 0 (F2 es y) j)→rd 0 (F2 es y) j∈out)→Re (λx:Nat×Nat=>T4 x.1 x.2 es u ((j+1:Nat):Int) out td (C5 es y)) (AncL es id):=λhin=>
     step out td u ⟨hB.nd,hB.an,hB.td,λz hz=>by
      rcases hB.cl z hz with h4|⟨j',h4,h5⟩|h4
      ·exact .inl h4
      ·cases h4
       refine .inr (.inl ⟨j+1,rfl,λx hx hf=> ?_⟩)
       rw[tk]at hx
       rcases G34.1 hx with hx|hx
       ·exact h5 x hx hf
       ·simp at hx;subst hx;exact hin hf
      ·exact .inr (.inr h4)⟩ h1 h3 hu (G53 _)
    refine Re.c2 (Y9 es (by omega) _) ?_
    cases hf:(C5 es (rd 0 (F2 es y) j)).2 with
    |false=>exact Re.br (b:=false) (λh=>by cases h) (λ_=>same λh=>by unfold found at h;rw[hf]at h;cases h)
    |true=>
     refine Re.br (b:=true) (λ_=> ?_) (λh=>by cases h)
     refine Re.gdd (by omega) (Re.gdd g (Re.c2 (As0 out (by omega) _) ?_))
     refine Re.br (λq=> ?_) (λq=>same λ_=>by simpa using q)
     have hno:rd 0 (F2 es y) j∉out:=by simpa using q
     have hanc:Anc es id (rd 0 (F2 es y) j):=by
      have hm:rd 0 (F2 es y) j∈F2 es y:=by rw[C2 hj];exact G47 _
      rcases h1 with h1|h1
      ·subst h1;exact .one hm hf
      ·exact .more (hB.an y h1).2 hm hf
     refine Re.gdd (by omega) (Re.gdd g (Re.gdd (by simp only[G57];unfold A5;omega) (Re.gdd (by omega) (Re.gdd g (Re.gdd (by simp only[G57];unfold A5;omega) ?_)))))
     have nB:BInv es id (out++ [rd 0 (F2 es y) j]) ((td.drop u++ [rd 0 (F2 es y) j]).drop 0) (some (y,j+1)):=by
      refine⟨Ha5.2 ⟨hB.nd,by simp,λa ha b hb=>by simp at hb;subst hb;exactλe=>hno (e▸ha)⟩,λx hx=> ?_,λz hz=> ?_,λz hz=> ?_⟩
      ·rcases G34.1 hx with hx|hx
       ·exact hB.an x hx
       ·simp at hx;subst hx;exact⟨hf,hanc⟩
      ·rw[Hd0]at hz
       rcases G34.1 hz with hz|hz
       ·exact Or.imp_right (λh=>G87 _ h) (hB.td z hz)
       ·exact .inr (Hc4 _ hz)
      ·rw[Hd0]
       by_cases hz2:z=id∨z∈out
       ·rcases hB.cl z hz2 with h4|⟨j',h4,h5⟩|h4
        ·exact .inl (G87 _ h4)
        ·cases h4
         refine .inr (.inl ⟨j+1,rfl,λx hx hf2=> ?_⟩)
         rw[tk]at hx
         rcases G34.1 hx with hx|hx
         ·exact G87 _ (h5 x hx hf2)
         ·exact Hc4 _ hx
        ·exact .inr (.inr λx hx hf2=>G87 _ (h4 x hx hf2))
       ·rcases hz with hz|hz
        ·exact absurd (.inl hz) hz2
        ·rcases G34.1 hz with hz|hz
         ·exact absurd (.inr hz) hz2
         ·exact .inl (Hc4 _ hz)
     have nl:=nB.len
     refine step _ _ 0 nB (Or.imp_right (λh=>G87 _ h) h1) ?_ (G49 _) ?_
     ·simp only[Hd0,G70,G57];omega
     ·simp only[Hd0,G70,G57]at nl ⊢;omega
   ·have ej:(F2 es y).take j=F2 es y:=G40 (by omega)
    refine ih (.inl (u,out,td)) ⟨⟨hB.nd,hB.an,hB.td,λz hz=> ?_⟩,by simp at h3;omega,hu,h3⟩ (.inr ⟨rfl,by simp only;omega⟩)
    ·rcases hB.cl z hz with h4|⟨j',h4,h5⟩|h4
     ·exact .inl h4
     ·cases h4
      rw[ej]at h5
      exact .inr (.inr h5)
     ·exact .inr (.inr h4)) (.inl (0,[],[id])) ⟨⟨by simp,λx hx=>by simp at hx,λy hy=>by simp at hy;exact .inl hy,λz hz=> .inl (by rcases hz with h|h;simp[h];simp at h)⟩,by simp,by simp,by simp⟩
 exact this
end Go.Vm
end
section
namespace Go.Vm
open Go
theorem Anc.found {es:List A0} {id x:Int} (h:Anc es id x):found es x:=by cases h<;>assumption
theorem AncL.len {es:List A0} {id:Int} {r:List Int} (h:AncL es id r):r.length≤es.length:=by
 have:=Am7 r (es.map λe=>e.1) h.1 λx hx=>A38 ((h.2 x).1 hx).found
 simpa using this
def R4 (es:List A0) (a:List Int) (x:Int):List Int:=bif (C5 es x).2 then Ff9 a x else a
def Aa2 (es:List A0) (ids:List Int):List Int:=ids.foldl (R4 es) []
theorem B21 (es:List A0):∀(xs a:List Int),(xs.foldl (R4 es) a).length≤a.length+xs.length
 | [],a=>by simp
 |x::xs,a=>by
  rw[Hd1]
  have h1:=B21 es xs (R4 es a x)
  have h2:(R4 es a x).length≤a.length+1:=by
   unfold R4
   have:=Dq6 a x
   cases(C5 es x).2<;>simp<;>omega
  simp;omega
noncomputable def Cw3 (es:List A0) (L out:List Int) (x:Int):Bool:=@decide (∀y,Anc es x y→y∈L→y∈out) (Classical.propDecidable _)
theorem Fg5 {es:List A0} {L out:List Int} {x:Int} {r:List Int} (h:AncL es x r):ready r L out=Cw3 es L out x:=by
 rw[Bool.eq_iff_iff]
 unfold ready Cw3
 rw[G90,@decide_eq_true_iff _ (Classical.propDecidable _)]
 constructor
 ·intro g y hy hl
  have:=g y ((h.2 y).2 hy)
  simp[hl]at this
  exact this
 ·intro g y hy
  by_cases hl:y∈L
  ·simp[hl,g y ((h.2 y).1 hy) hl]
  ·simp[hl]
noncomputable def Am8 (es:List A0) (L out:List Int) (x:Int):Bool:= !decide (x∈out)&&Cw3 es L out x
noncomputable def E4 (es:List A0) (s:List A1) (L out:List Int) (b:Option A0) (x:Int):Option A0:=
 bif Am8 es L out x then(match b with|none=>some (C5 es x).1|some b0=>bif Q7 es s (C5 es x).1 b0 then some (C5 es x).1 else some b0)else b
noncomputable def pick (es:List A0) (s:List A1) (L out:List Int):Option A0:=L.foldl (E4 es s L out) none
noncomputable def H8 (es:List A0) (s:List A1) (L:List Int):Nat→List Int→List Int
 |0,out=>out
 |f+1,out=>match pick es s L out with
  |none=>out
  |some b=>H8 es s L f (out++ [b.1])
noncomputable def Z0 (es:List A0) (s:List A1) (ids:List Int):List Int:=H8 es s (Aa2 es ids) (Aa2 es ids).length []
theorem E32 (es:List A0) (s:List A1) (h:E27 es s) (h1:es.length≤100000) (L:List Int) (hL:L.length≤100000) (as:List (List Int)) (ha:as.length=L.length) (hA:∀i,i<L.length→AncL es (rd 0 L i) (rd [] as i)):
  Re (λx:Nat×Nat=>Aq1 x.1 x.2 es s L as []) (λr=>r=H8 es s L L.length []):=by
 have:=Re.wf (l:=λk n (st:List Int ⊕ (Nat×List Int) ⊕ (Nat×List Int×A0))=>match st with
   | .inl out=>Aq1 k n es s L as out
   | .inr (.inl (i,out))=>Aq2 k n es s (i:Int) L as out
   | .inr (.inr (i,out,b))=>Aq3 k n es s (i:Int) L as out b.1 b.2.1 b.2.2.1 b.2.2.2.1 b.2.2.2.2.1 b.2.2.2.2.2.1 b.2.2.2.2.2.2.1 b.2.2.2.2.2.2.2.1 b.2.2.2.2.2.2.2.2.1)
  (I:=λst=>match st with
   | .inl out=>out.length≤L.length
   | .inr (.inl (i,out))=>out.length<L.length∧i≤L.length∧(L.take i).foldl (E4 es s L out) none=none
   | .inr (.inr (i,out,b))=>out.length<L.length∧i≤L.length∧(L.take i).foldl (E4 es s L out) none=some b)
  (λst=>match st with
   | .inl out=> (L.length-out.length,L.length+2)
   | .inr (.inl (i,out))=> (L.length-out.length,L.length-i+1)
   | .inr (.inr (i,out,b))=> (L.length-out.length,L.length-i+1))
  (Q:=λst r=>match st with
   | .inl out=>r=H8 es s L (L.length-out.length) out
   | .inr (.inl (i,out))=>r=H8 es s L (L.length-out.length) out
   | .inr (.inr (i,out,b))=>r=H8 es s L (L.length-out.length) out) (λst hi ih=>by
  rcases st with out|⟨i,out⟩|⟨i,out,b⟩
  ·simp only at hi ih ⊢
   simp only[Fr0,Bp6]
   refine Re.brd (λg=> ?_) (λg=>Re.ret ?_)
   ·exact ih (.inr (.inl (0,out))) ⟨by omega,G49 _,rfl⟩ (.inr ⟨rfl,by simp only;omega⟩)
   ·rw[show L.length-out.length=0 by omega];rfl
  ·obtain⟨g1,g2,g3⟩:=hi
   simp only at ih ⊢
   simp only[Fr1,Bp7]
   refine Re.brd (λg=> ?_) (λg=>Re.ret ?_)
   ·have hl:i<L.length:=by omega
    have hf:=Aa1 (E4 es s L out) 0 L none hl
    rw[g3]at hf
    refine Re.gdd (by omega) (Re.gdd g ?_)
    simp only[G33]
    rw[B2 hl (by omega)]
    have same:Am8 es L out (rd 0 L i)=false→Re (λx:Nat×Nat=>Aq2 x.1 x.2 es s ((i+1:Nat):Int) L as out) (λr=>r=H8 es s L (L.length-out.length) out):=λq=>
     ih (.inr (.inl (i+1,out))) ⟨g1,by omega,by rw[hf];unfold E4;rw[q];rfl⟩ (.inr ⟨rfl,by simp only;omega⟩)
    refine Re.c2 (As0 out (by omega) _) ?_
    refine Re.brd (λq=>same (by unfold Am8;rw[G54 q];rfl)) (λq=> ?_)
    have hc:Am8 es L out (rd 0 L i)=Cw3 es L out (rd 0 L i):=by unfold Am8;rw[G55 q];rfl
    refine Re.gdd (by omega) (Re.gdd (by omega) ?_)
    have hal:=(hA i hl).len
    refine Re.c2 (Co3 _ _ _ (by omega) (by omega) (by omega)) ?_
    rw[Fg5 (hA i hl),←hc]
    refine Re.br (λq2=>same (by simpa using q2)) (λq2=> ?_)
    refine Re.gdd (by omega) (Re.gdd g (Re.c2 (Y9 es h.1 _) ?_))
    exact ih (.inr (.inr (i+1,out,(C5 es (rd 0 L i)).1))) ⟨g1,by omega,by rw[hf];unfold E4;rw[show Am8 es L out (rd 0 L i)=true by simpa using q2];rfl⟩ (.inr ⟨rfl,by simp only;omega⟩)
   ·rw[G40 (by omega)]at g3
    obtain⟨f,hf⟩:∃f,L.length-out.length=f+1:=⟨L.length-out.length-1,by omega⟩
    rw[hf]
    unfold H8 pick
    rw[g3]
  ·obtain⟨g1,g2,g3⟩:=hi
   simp only at ih ⊢
   simp only[Fr2,Bp8]
   refine Re.brd (λg=> ?_) (λg=> ?_)
   ·have hl:i<L.length:=by omega
    have hf:=Aa1 (E4 es s L out) 0 L none hl
    rw[g3]at hf
    refine Re.gdd (by omega) (Re.gdd g ?_)
    simp only[G33]
    rw[B2 hl (by omega)]
    have next:∀b2,E4 es s L out (some b) (rd 0 L i)=some b2→Re (λx:Nat×Nat=>Aq3 x.1 x.2 es s ((i+1:Nat):Int) L as out b2.1 b2.2.1 b2.2.2.1 b2.2.2.2.1 b2.2.2.2.2.1 b2.2.2.2.2.2.1 b2.2.2.2.2.2.2.1 b2.2.2.2.2.2.2.2.1 b2.2.2.2.2.2.2.2.2.1) (λr=>r=H8 es s L (L.length-out.length) out):=λb2 q=>
     ih (.inr (.inr (i+1,out,b2))) ⟨g1,by omega,by rw[hf,q]⟩ (.inr ⟨rfl,by simp only;omega⟩)
    refine Re.c2 (As0 out (by omega) _) ?_
    refine Re.brd (λq=>next b (by unfold E4 Am8;rw[G54 q];rfl)) (λq=> ?_)
    have hc:Am8 es L out (rd 0 L i)=Cw3 es L out (rd 0 L i):=by unfold Am8;rw[G55 q];rfl
    refine Re.gdd (by omega) (Re.gdd (by omega) ?_)
    have hal:=(hA i hl).len
    refine Re.c2 (Co3 _ _ _ (by omega) (by omega) (by omega)) ?_
    rw[Fg5 (hA i hl),←hc]
    refine Re.br (λq2=>next b (by unfold E4;rw[show Am8 es L out (rd 0 L i)=false by simpa using q2];rfl)) (λq2=> ?_)
    have q3:Am8 es L out (rd 0 L i)=true:=by simpa using q2
    refine Re.gdd (by omega) (Re.gdd g (Re.c2 (Y9 es h.1 _) (Re.c2 (E31 es s h _ _) ?_)))
    refine Re.br (λq4=>next _ ?_) (λq4=>next b ?_)
    ·unfold E4;rw[q3];simp only[G52]
     have e:Q7 es s (C5 es (rd 0 L i)).1 b=true:=q4
     rw[e];rfl
    ·unfold E4;rw[q3];simp only[G52]
     have e:Q7 es s (C5 es (rd 0 L i)).1 b=false:=q4
     rw[e];rfl
   ·rw[G40 (by omega)]at g3
    refine Re.gdd (by simp only[G57];unfold A5;omega) ?_
    have next:=ih (.inl (out++ [b.1])) (by simp;omega) (.inl (by simp;omega))
    refine next.mono λr hr=> ?_
    simp only at hr
    obtain⟨f,hf⟩:∃f,L.length-out.length=f+1:=⟨L.length-out.length-1,by omega⟩
    rw[hr,hf]
    have e:L.length- (out++ [b.1]).length=f:=by simp;omega
    rw[e]
    conv=>rhs;unfold H8 pick;rw[g3]) (.inl []) (G49 _)
 simpa using this
theorem B91 (y:Int):∀(xs:List Int) (d:Bool),xs.Nodup→(U3 y xs d).Nodup
 | [],d,_=>by cases d<;>simp[U3]
 |x::xs,d,h=>by
  have hx:=Hb0.1 h
  have h1:=B91 y xs true hx.2
  have h2:=B91 y xs d hx.2
  unfold U3
  by_cases q:x≥y∧d=false
  ·rw[G45 q]
   have hy:y∉U3 y xs true:=λhm=>by rw[Aj5]at hm;simp at hm
   by_cases q2:x=y
   ·rw[G45 q2];exact Hb0.2 ⟨hy,h1⟩
   ·rw[G41 q2]
    refine Hb0.2 ⟨?_,Hb0.2 ⟨λhm=> ?_,h1⟩⟩
    ·intro hm
     rcases G67.1 hm with e|e
     ·exact q2 e.symm
     ·exact hy e
    ·rw[Aj5]at hm;simp at hm;exact hx.1 hm.1
  ·rw[G41 q]
   by_cases q2:x=y
   ·rw[G45 q2];exact h2
   ·rw[G41 q2]
    refine Hb0.2 ⟨λhm=> ?_,h2⟩
    rw[Aj5]at hm
    rcases hm with hm|hm
    ·exact hx.1 hm.1
    ·exact q2 hm.2
theorem As1 (es:List A0) (ids:List Int):(Aa2 es ids).Nodup∧∀x,x∈Aa2 es ids↔x∈ids∧found es x:=by
 have:∀(xs a:List Int),a.Nodup→(xs.foldl (R4 es) a).Nodup∧∀x,x∈xs.foldl (R4 es) a↔x∈a∨(x∈xs∧found es x):=by
  intro xs
  induction xs with
  |nil=>intro a h;exact⟨h,λx=>by simp⟩
  |cons y ys ih=>
   intro a h
   rw[Hd1]
   have h1:(R4 es a y).Nodup:=by
    unfold R4
    cases(C5 es y).2 with
    |false=>exact h
    |true=>exact B91 y a false h
   obtain⟨g1,g2⟩:=ih _ h1
   refine⟨g1,λx=> ?_⟩
   rw[g2]
   unfold R4 found
   cases hf:(C5 es y).2 with
   |false=>
    simp only[G72,G67]
    constructor
    ·rintro(q|⟨q,q2⟩)
     ·exact .inl q
     ·exact .inr ⟨.inr q,q2⟩
    ·rintro(q|⟨q|q,q2⟩)
     ·exact .inl q
     ·subst q;rw[hf]at q2;cases q2
     ·exact .inr ⟨q,q2⟩
   |true=>
    simp only[G52,Fg0,G67]
    constructor
    ·rintro((q|q)|⟨q,q2⟩)
     ·exact .inl q
     ·exact .inr ⟨.inl q,by rw[q];exact hf⟩
     ·exact .inr ⟨.inr q,q2⟩
    ·rintro(q|⟨q|q,q2⟩)
     ·exact .inl (.inl q)
     ·exact .inl (.inr q)
     ·exact .inr ⟨q,q2⟩
 obtain⟨h1,h2⟩:=this ids [] (by simp)
 exact⟨h1,λx=>by rw[Aa2,h2];simp⟩
theorem Ec2 (es:List A0) (ids:List Int):(Aa2 es ids).length≤es.length:=by
 obtain⟨h1,h2⟩:=As1 es ids
 have:=Am7 _ (es.map λe=>e.1) h1 λx hx=>A38 ((h2 x).1 hx).2
 simpa using this
theorem Ft5 (es:List A0) (s:List A1) (h:E27 es s) (h1:es.length≤100000) (hp:∀y,(F2 es y).length≤1048576) (ids:List Int) (hi:ids.length≤20000000):Ev (λk=>Ez9 k es s ids) (Z0 es s ids):=by
 refine Re.eq (Re.enter (f:=λk n=>Aq5 k n es s ids 0 []) B9 ?_)
 have hLl:(Aa2 es ids).length≤100000:=G99 (Ec2 es ids) h1
 have two:Re (λx:Nat×Nat=>Aq4 x.1 x.2 es s 0 (Aa2 es ids) []) (λr=>r=Z0 es s ids):=by
  have:=Re.loop (ι:=Nat) (l:=λk n (as:List (List Int))=>Aq4 k n es s (as.length:Int) (Aa2 es ids) as) (I:=λas=>as.length≤(Aa2 es ids).length∧∀i,i<as.length→AncL es (rd 0 (Aa2 es ids) i) (rd [] as i)) (λas=> (Aa2 es ids).length-as.length) (Q:=λ_ r=>r=Z0 es s ids) (λas hi ih=>by
   obtain⟨g1,g2⟩:=hi
   simp only[Aq4,Cu7]
   refine Re.brd (λg=> ?_) (λg=> ?_)
   ·have hl:as.length< (Aa2 es ids).length:=by omega
    refine Re.gdd (by omega) (Re.gdd g ?_)
    simp only[G33]
    rw[B2 hl (by omega)]
    refine Re.b2 (Ec1 es h1 hp _) λr3 h3=>Re.gdd (by simp only[G57];unfold A5;omega) ?_
    have:=ih (as++ [r3]) ⟨by simp;omega,λi hi=>by
     by_cases q:i<as.length
     ·have e:rd [] (as++ [r3]) i=rd [] as i:=by simp[rd,G51 q]
      rw[e];exact g2 i q
     ·have e0:i=as.length:=by simp at hi;omega
      subst e0
      have e:rd [] (as++ [r3]) as.length=r3:=by simp[rd]
      rw[e];exact h3⟩ (by simp;omega)
    simpa using this
   ·exact E32 es s h h1 _ hLl as (by omega) λi hi=>g2 i (by omega)) [] ⟨G49 _,λi hi=>by simp at hi⟩
  simpa using this
 have:=Re.loop (ι:=Nat) (l:=λk n (i:Nat)=>Aq5 k n es s ids (i:Int) ((ids.take i).foldl (R4 es) [])) (I:=λi=>i≤ids.length) (λi=>ids.length-i) (Q:=λ_ r=>r=Z0 es s ids) (λi hi2 ih=>by
  simp only[Aq5,Cu8]
  refine Re.brd (λg=> ?_) (λg=> ?_)
  ·have hl:i<ids.length:=by omega
   have next:=ih (i+1) (by omega) (by omega)
   rw[Aa1 (R4 es) 0 ids [] hl]at next
   have hlen2:((ids.take i).foldl (R4 es) []).length≤1048576:=G99 (Ec2 es (ids.take i)) (by omega)
   refine Re.gdd (by omega) (Re.gdd g ?_)
   simp only[G33]
   rw[B2 hl (by omega)]
   refine Re.c2 (Y9 es h.1 _) ?_
   unfold R4 at next ⊢
   refine Re.br (λq=> ?_) (λq=> ?_)
   ·rw[q]at next
    exact Re.gdd (by omega) (Re.gdd g (Re.c2 (Dq7 _ hlen2 _) next))
   ·rw[q]at next;exact next
  ·rw[G40 (by omega)]
   exact two) 0 (G49 _)
 exact this
end Go.Vm
end
section
namespace Go.Vm
open Go
theorem B92 (es:List A0) (s:List A1) (L:List Int):∀(f:Nat) (out:List Int),(H8 es s L f out).length≤out.length+f
 |0,out=>G53 _
 |f+1,out=>by
  unfold H8
  split
  ·omega
  ·rename_i b hb
   have:=B92 es s L f (out++ [b.1])
   simp at this;omega
def B93 (s:List A1) (ks:List Int):List Int:=(ks.map (q9 s)).filter λx=>x !=0
def A19 (ss:List (List A1)) (ks:List Int):List Int:=ss.flatMap λs=>B93 s ks
theorem C69 (s:List A1) (ks:List Int):(B93 s ks).length≤ks.length:=by
 unfold B93
 exact G99 (Ha0 _ _) (by simp)
theorem B94 (ks:List Int):∀ss:List (List A1),(A19 ss ks).length≤ss.length*ks.length
 | []=>by simp[A19]
 |s::ss=>by
  have h1:=C69 s ks
  have h2:=B94 ks ss
  have e:A19 (s::ss) ks=B93 s ks++A19 ss ks:=by simp[A19]
  rw[e,G70,G82,Nat.succ_mul]
  omega
noncomputable def U0 (es:List A0) (now:List A1) (x:Int):List A1:=bif p9 es now (C5 es x).1&&A68 (C5 es x).1 !=0 then Cw2 now (A68 (C5 es x).1) (C5 es x).1.1 else now
noncomputable def A70 (es:List A0) (ss:List (List A1)):List A1:=
 if ss.length=0 then []else if ss.length=1 then rd [] ss 0 else(Z0 es (N7 ss) (A19 ss (Bf8 ss))).foldl (U0 es) (N7 ss)
def EvS (es:List A0):Prop:=es.length≤100000∧(∀y,(F2 es y).length≤1048576)∧∀y,D1 (C5 es y).1≤1048576
def StsN (ss:List (List A1)):Prop:=ss.length≤2000∧∀i,i<ss.length→(rd [] ss i).length≤16
def StsB (ss:List (List A1)):Prop:=ss.length≤1048576∧∀i,i<ss.length→(rd [] ss i).length≤16
theorem StsB.s {ss:List (List A1)} (h:StsB ss):F79 ss:=⟨by have:=h.1;omega,λi hi=>by have:=h.2 i hi;omega⟩
theorem A71 (ss:List (List A1)):(N7 ss).length≤16:=by
 unfold N7
 have:=P1 ss 16
 rw[List.length_map]
 exact G99 (Ha0 _ _) this
theorem Ec3 {es:List A0} {now:List A1} (h:now.length≤16) (x:Int):(U0 es now x).length≤16:=by
 unfold U0
 cases p9 es now (C5 es x).1&&A68 (C5 es x).1 !=0 with
 |true=>exact Dq9 h (by omega)
 |false=>exact h
theorem Am9 {es:List A0}:∀(xs:List Int) {now:List A1},now.length≤16→(xs.foldl (U0 es) now).length≤16
 | [],_,h=>h
 |x::xs,_,h=>by rw[Hd1];exact Am9 xs (Ec3 h x)
theorem Dk0 {es:List A0} {ss:List (List A1)} (h:StsB ss):(A70 es ss).length≤16:=by
 unfold A70
 split
 ·exact G49 _
 ·split
  ·rename_i h1;exact h.2 0 (by omega)
  ·exact Am9 _ (A71 ss)
theorem F80 {ss:List (List A1)} {i:Nat} (h:i<ss.length) (ks:List Int):A19 (ss.take (i+1)) ks=A19 (ss.take i) ks++B93 (rd [] ss i) ks:=by
 unfold A19
 rw[G66,G36 h,C2 h,G92]
 simp
theorem Ft6 {s:List A1} {ks:List Int} {j:Nat} (h:j<ks.length):B93 s (ks.take (j+1))=B93 s (ks.take j)++(if q9 s (rd 0 ks j)=0 then []else [q9 s (rd 0 ks j)]):=by
 unfold B93
 rw[T7 h,G64,G91]
 congr 1
 by_cases q:q9 s (rd 0 ks j)=0
 ·simp[q]
 ·simp[q]
theorem Em0 (es:List A0) (hE:EvS es) (ss:List (List A1)) (hS:StsB ss):Ev (λk=>Di0 k es ss) (A70 es ss):=by
 obtain⟨e1,e2,e3⟩:=hE
 obtain⟨s1,s2⟩:=hS
 refine Re.eq ?_
 unfold A70
 refine Re.bre (λq=>Re.ret (by rw[G45 (by omega)])) (λq=> ?_)
 rw[G41 (by omega)]
 refine Re.bre (λq1=> ?_) (λq1=> ?_)
 ·rw[G45 (by omega)]
  have:=s2 0 (by omega)
  exact Re.gdd (by omega) (Re.gdd (by simp[A5];omega) (Re.ret rfl))
 rw[G41 (by omega)]
 have hSS:F79 ss:=StsB.s ⟨s1,s2⟩
 refine Re.c1 (Dr0 ss hSS (by omega)) (Re.c1 (Ft4 ss hSS) ?_)
 have hkl:(Bf8 ss).length≤16:=by
  unfold Bf8
  have:=P1 ss 16
  exact G99 (Ha0 _ _) this
 have hal:=A71 ss
 generalize hks:Bf8 ss=ks at hkl ⊢
 have hil:=B94 ks ss
 have hmul:ss.length*ks.length≤16777216:=G99 (Nat.mul_le_mul s1 hkl) (by omega)
 have last:∀order:List Int,order.length≤1000000→Re (λx:Nat×Nat=>b7 x.1 x.2 es 0 (N7 ss) order) (λv=>v=order.foldl (U0 es) (N7 ss)):=by
  intro order ho
  have:=Re.loop (ι:=Nat) (l:=λk n (i:Nat)=>b7 k n es (i:Int) ((order.take i).foldl (U0 es) (N7 ss)) order) (I:=λi=>i≤order.length) (λi=>order.length-i) (Q:=λ_ v=>v=order.foldl (U0 es) (N7 ss)) (λi hi ih=>by
   simp only[b7,Bp9]
   refine Re.brd (λg=> ?_) (λg=>Re.ret (by rw[G40 (by omega)]))
   have hl:i<order.length:=by omega
   have next:=ih (i+1) (by omega) (by omega)
   rw[Aa1 (U0 es) 0 order (N7 ss) hl]at next
   have hnow:=Am9 (es:=es) (order.take i) hal
   generalize(order.take i).foldl (U0 es) (N7 ss)=now at next hnow ⊢
   refine Re.gdd (by omega) (Re.gdd g ?_)
   simp only[G33]
   rw[B2 hl (by omega)]
   refine Re.c2 (Y9 es (by omega) _) (Re.c2 (C66 es now ⟨by omega,by omega⟩ _ (e3 _)) ?_)
   unfold U0 at next
   refine Re.br (λq=> ?_) (λq=> ?_)
   ·rw[q,Hb6]at next
    refine Re.s2 (Bu2 _ ·) ?_
    refine Re.br (λq2=> ?_) (λq2=> ?_)
    ·rw[q2]at next
     exact Re.s2 (Bu2 _ ·) (Re.c2 (Fg4 now (by omega) _ _) next)
    ·rw[q2]at next;exact next
   ·rw[q,Bool.false_and]at next;exact next) 0 (G49 _)
  exact this
 refine Re.enter (f:=λk n=>Ab2 k n es ss 0 (N7 ss) ks []) B9 ?_
 have:=Re.wf (l:=λk n (st:Nat ⊕ (Nat×Nat))=>match st with
   | .inl i=>Ab2 k n es ss (i:Int) (N7 ss) ks (A19 (ss.take i) ks)
   | .inr (i,j)=>Ak9 k n es ss (i:Int) (j:Int) (N7 ss) ks (A19 (ss.take i) ks++B93 (rd [] ss i) (ks.take j)))
  (I:=λst=>match st with| .inl i=>i≤ss.length| .inr (i,j)=>i<ss.length∧j≤ks.length)
  (λst=>match st with| .inl i=> (ss.length-i,0)| .inr (i,j)=> (ss.length- (i+1),ks.length-j+1)) (Q:=λ_ v=>v=(Z0 es (N7 ss) (A19 ss ks)).foldl (U0 es) (N7 ss)) (λst hi ih=>by
  rcases st with i|⟨i,j⟩
  ·simp only at hi ih ⊢
   simp only[E00,Az9]
   refine Re.brd (λg=> ?_) (λg=> ?_)
   ·have:=ih (.inr (i,0)) ⟨by omega,G49 _⟩ (.inl (by simp only;omega))
    simpa [B93]using this
   ·rw[G40 (by omega)]
    refine Re.c2 (Dr0 ss hSS (by omega)) (Re.c2 (Ft5 es (N7 ss) ⟨by omega,by omega⟩ e1 e2 _ (by omega)) ?_)
    have hlen:(Z0 es (N7 ss) (A19 ss ks)).length≤1000000:=by
     unfold Z0
     have h1:=B92 es (N7 ss) (Aa2 es (A19 ss ks)) (Aa2 es (A19 ss ks)).length []
     have h3:=Ec2 es (A19 ss ks)
     simp at h1;omega
    exact last _ hlen
  ·obtain⟨g1,g2⟩:=hi
   simp only at ih ⊢
   simp only[E01,A00]
   have hl1:=B94 ks (ss.take i)
   have hl2:(ss.take i).length*ks.length≤16777216:=G99 (Nat.mul_le_mul (show(ss.take i).length≤1048576 by simp;omega) hkl) (by omega)
   have hl3:=C69 (rd [] ss i) (ks.take j)
   have hl4:(ks.take j).length≤16:=by simp;omega
   refine Re.brd (λg=> ?_) (λg=> ?_)
   ·have hj:j<ks.length:=by omega
    have next:=ih (.inr (i,j+1)) ⟨g1,by omega⟩ (.inr ⟨rfl,by simp only;omega⟩)
    simp only[Ft6 hj]at next
    refine Re.gdd (by omega) (Re.gdd (by omega) (Re.gdd (by omega) (Re.gdd g ?_)))
    simp only[G33]
    rw[B2 hj (by omega)]
    refine Re.c2 (A17 _ (by have:=s2 i g1;omega) _) ?_
    refine Re.brn (λq=> ?_) (λq=> ?_)
    ·rw[G41 q]at next
     refine Re.gdd (by simp only[G70,G57];unfold A5;omega) ?_
     simpa using next
    ·rw[G45 q]at next
     simpa using next
   ·have ej:ks.take j=ks:=G40 (by omega)
    have next:=ih (.inl (i+1)) (by simp only;omega) (.inr ⟨rfl,by simp only;omega⟩)
    simp only[F80 g1]at next
    rw[ej,B2 g1 (by omega)]
    exact next) (.inl 0) (G49 _)
 simpa [A19]using this
end Go.Vm
end
section
namespace Go.Vm
open Go
def Aa3 (r:A6) (p:Int):Bool:=decide (0≤Ad6 r.1 p∧Ad6 r.1 p<r.2.1.length)
noncomputable def H2 (r:A6) (prev:List Int):List A1×Bool:=bif prev.all (Aa3 r)then(A70 r.1 (prev.map λp=>rd [] r.2.1 (Ad6 r.1 p).toNat),true)else([],false)
noncomputable def K9 (r:A6) (e:A0):A6×Bool:=
 bif (H2 r e.2.2.2.2.2.2.2.1).2&&(J9 e&&(decide (Ad6 r.1 e.1<0)&&(decide (e.2.2.2.2.2.2.2.2.1=Ad7 r.1 e.2.2.2.2.2.2.2.1)&&decide (r.1.length<40))))then
  ((r.1++ [e],r.2.1++ [bif p9 r.1 (H2 r e.2.2.2.2.2.2.2.1).1 e&&A68 e !=0 then Cw2 (H2 r e.2.2.2.2.2.2.2.1).1 (A68 e) e.1 else(H2 r e.2.2.2.2.2.2.2.1).1],r.2.2.1++ [p9 r.1 (H2 r e.2.2.2.2.2.2.2.1).1 e],()),true)
 else(([],[],[],()),false)
inductive Built : A6 → Prop where
 | nil : Built ([], [], [], ())
 | add {r : A6} {e : A0} : Built r → e.2.2.2.2.2.2.2.1.length ≤ 1000 → (K9 r e).2 = true → Built (K9 r e).1
structure RoomI (r : A6) : Prop where
 bt : Built r
 len : r.1.length ≤ 40
 sl : r.2.1.length = r.1.length
 gl : r.2.2.1.length = r.1.length
 st : ∀ i, i < r.2.1.length → (rd [] r.2.1 i).length ≤ 16
 ev : ∀ e ∈ r.1, J9 e = true
 ids : ∀ i j, i < j → j < r.1.length → (rd A4 r.1 i).1 ≠ (rd A4 r.1 j).1
theorem Ax1 (es:List A0) (y:Int):C5 es y=(Cl5,false)∨∃e∈es,C5 es y=(e,true)∧e.1=y:=by
 unfold C5
 cases hf:es.find? λe=>e.1==y with
 |none=>exact .inl rfl
 |some e=>exact .inr ⟨e,List.mem_of_find?_eq_some hf,rfl,by simpa using List.find?_some hf⟩
theorem M8 {e:A0} (h:J9 e=true):e.2.2.2.2.2.2.2.1.length≤3∧D1 e≤1000:=by
 have hf:=Aj4 h
 have hb:=Eb4 hf.1
 have h4:(F8 e).length≤3:=hf.2.2.2.1
 refine⟨h4, ?_⟩
 show(G3 e).length+((j9 e).size+((F8 e).length+0))≤1000
 omega
theorem RoomI.evs {r:A6} (h:RoomI r):EvS r.1:=by
 refine⟨by have:=h.len;omega,λy=> ?_,λy=> ?_⟩
 ·unfold F2
  rcases Ax1 r.1 y with e|⟨e,he,e2,_⟩
  ·rw[e];show 0≤1048576;omega
  ·rw[e2];have:=(M8 (h.ev e he)).1;simp only;omega
 ·rcases Ax1 r.1 y with e|⟨e,he,e2,_⟩
  ·rw[e];show 0+(0+(0+0))≤1048576;omega
  ·rw[e2];have:=(M8 (h.ev e he)).2;simp only;omega
theorem RoomI.prevS {r:A6} (h:RoomI r):Gh6 r.1:=⟨by have:=h.len;omega,λi hi=>by
 have:=(M8 (h.ev (rd A4 r.1 i) (by rw[C2 hi];exact G47 _))).1
 exact G99 this (by omega)⟩
theorem B22 {r:A6} (h:RoomI r) {prev:List Int} (hp:prev.length≤1048576):(H2 r prev).1.length≤16:=by
 unfold H2
 cases hq:prev.all (Aa3 r)with
 |false=>exact G49 _
 |true=>
  refine Dk0 ⟨by simp;omega,λi hi=> ?_⟩
  have hi2:i<prev.length:=by simpa using hi
  rw[C2 hi,List.getElem_map]
  have:=G90.1 hq _ (G47 hi2)
  unfold Aa3 at this
  have:=G62 this
  exact h.st _ (by omega)
theorem A72 {r:A6} (h:RoomI r) {prev:List Int} (hp:prev.length≤1000):(H2 r prev).1.length≤16:=B22 h (by omega)
theorem B23 (r:A6) (h:RoomI r) (prev:List Int) (hp:prev.length≤1048576):Ev (λk=>Av9 k r prev) (H2 r prev):=by
 refine Re.eq (Re.enter (f:=λk n=>Y2 k n prev 0 r []) B9 ?_)
 have hlen:=h.len
 have:=Re.loop (ι:=Nat) (l:=λk n (i:Nat)=>Y2 k n prev (i:Int) r ((prev.take i).map λp=>rd [] r.2.1 (Ad6 r.1 p).toNat)) (I:=λi=>i≤prev.length∧∀j,j<i→Aa3 r (rd 0 prev j)=true) (λi=>prev.length-i) (Q:=λ_ v=>v=H2 r prev) (λi hi ih=>by
  obtain⟨g1,g2⟩:=hi
  simp only[Y2,A51]
  refine Re.brd (λg=> ?_) (λg=> ?_)
  ·have hl:i<prev.length:=by omega
   refine Re.gdd (by omega) (Re.gdd g ?_)
   simp only[G33]
   refine Re.c2 (B90 r (by omega) _) ?_
   have no:¬(0≤Ad6 r.1 (rd 0 prev i)∧Ad6 r.1 (rd 0 prev i)<r.2.1.length)→(([]:List A1),false)=H2 r prev:=λq=>by
    unfold H2
    have:prev.all (Aa3 r)=false:=by
     rw[List.all_eq_false]
     exact⟨rd 0 prev i,by rw[C2 hl];exact G47 _,by unfold Aa3;simp[q]⟩
    rw[this];rfl
   refine Re.brd (λq=>Re.ret (no λx=>by omega)) (λq=> ?_)
   refine Re.brd (λq2=>Re.ret (no λx=>by omega)) (λq2=> ?_)
   refine Re.gdd (by omega) (Re.gdd (by omega) (Re.gdd (by simp[A5];omega) ?_))
   rw[B2 hl (by omega)]
   have next:=ih (i+1) ⟨by omega,λj hj=>by
    by_cases q3:j<i
    ·exact g2 j q3
    ·have:j=i:=by omega
     subst this
     exact G54 ⟨by omega,by omega⟩⟩ (by omega)
   rw[T7 hl,G64]at next
   exact next
  ·rw[G40 (by omega)]
   have hall:prev.all (Aa3 r)=true:=by
    rw[G90]
    intro p hp
    obtain⟨j,hj,rfl⟩:=G63 hp
    have:=g2 j (by omega)
    rwa [C2 hj]at this
   have hN:StsB (prev.map λp=>rd [] r.2.1 (Ad6 r.1 p).toNat):=⟨by simp;omega,λj hj=>by
    have hj2:j<prev.length:=by simpa using hj
    rw[C2 hj,List.getElem_map]
    have:=G62 (G90.1 hall _ (G47 hj2))
    exact h.st _ (by omega)⟩
   refine Re.c2 (Em0 r.1 h.evs _ hN) (Re.ret ?_)
   unfold H2
   rw[hall];rfl) 0 ⟨G49 _,λj hj=>by omega⟩
 simpa using this
theorem Ec4 (r:A6) (h:RoomI r) (prev:List Int) (hp:prev.length≤1000):Ev (λk=>Av9 k r prev) (H2 r prev):=B23 r h prev (by omega)
theorem C70 (r:A6) (h:RoomI r) (e:A0) (hm:D1 e≤1048576) (hp:e.2.2.2.2.2.2.2.1.length≤1048576):Ev (λk=>B71 k r e) (K9 r e):=by
 have hlen:=h.len
 have hsl:=h.sl
 have hgl:=h.gl
 have hbl:=B22 h hp
 refine Re.eq (Re.c1 (B23 r h _ hp) ?_)
 unfold K9
 generalize H2 r e.2.2.2.2.2.2.2.1=b at hbl ⊢
 obtain⟨s,ok⟩:=b
 cases ok with
 |false=>exact Re.ret rfl
 |true=>
  refine Re.br (b:=false) (λh=>by cases h) (λ_=>Re.c1 (Bt9 e hm) ?_)
  cases ho:J9 e with
  |false=>exact Re.ret rfl
  |true=>
   refine Re.br (b:=false) (λh=>by cases h) (λ_=>Re.c1 (B90 r (by omega) _) ?_)
   refine Re.brd (λq=>Re.ret (by rw[G55 (show¬Ad6 r.1 e.1<0 by omega)];rfl)) (λq=> ?_)
   rw[G54 (show Ad6 r.1 e.1<0 by omega)]
   refine Re.c1 (A18 r (by omega) _ (by omega)) ?_
   refine Re.brn (λq2=>Re.ret (by rw[G55 q2];rfl)) (λq2=> ?_)
   rw[G54 q2]
   refine Re.brd (λq3=>Re.ret (by rw[G55 (show¬r.1.length<40 by omega)];rfl)) (λq3=> ?_)
   rw[G54 (show r.1.length<40 by omega)]
   refine Re.c1 (C66 r.1 s ⟨by omega,by simp only at hbl;omega⟩ e hm) ?_
   simp only at hbl
   cases ha:p9 r.1 s e with
   |false=>
    refine Re.br (b:=false) (λh=>by cases h) (λ_=> ?_)
    exact Re.gdd (by simp[A5];omega) (Re.gdd (by simp[A5];omega) (Re.gdd (by simp[A5];omega) (Re.gdd (by simp[A5];omega) (Re.gdd (by simp[A5];omega) (Re.gdd (by simp[A5];omega) (Re.ret rfl))))))
   |true=>
    refine Re.br (b:=true) (λ_=>Re.s1 (Bu2 e ·) ?_) (λh=>by cases h)
    refine Re.br (λq4=> ?_) (λq4=> ?_)
    ·refine Re.s1 (Bu2 e ·) (Re.c1 (Fg4 s (by omega) _ _) ?_)
     refine Re.gdd (by simp[A5];omega) (Re.gdd (by simp[A5];omega) (Re.gdd (by simp[A5];omega) (Re.gdd (by simp[A5];omega) (Re.gdd (by simp[A5];omega) (Re.gdd (by simp[A5];omega) (Re.ret ?_))))))
     rw[q4];rfl
    ·refine Re.gdd (by simp[A5];omega) (Re.gdd (by simp[A5];omega) (Re.gdd (by simp[A5];omega) (Re.gdd (by simp[A5];omega) (Re.gdd (by simp[A5];omega) (Re.gdd (by simp[A5];omega) (Re.ret ?_))))))
     rw[q4];rfl
theorem Fg6 (r:A6) (h:RoomI r) (e:A0) (hm:D1 e≤1048576) (hp:e.2.2.2.2.2.2.2.1.length≤1000):Ev (λk=>B71 k r e) (K9 r e):=C70 r h e hm (by omega)
theorem C71 {α:Type} (d:α) (xs:List α) (y:α) (i:Nat):rd d (xs++ [y]) i=if i<xs.length then rd d xs i else if i=xs.length then y else d:=by
 unfold rd
 by_cases h:i<xs.length
 ·rw[G45 h];simp[G51 h]
 ·rw[G41 h]
  by_cases h2:i=xs.length
  ·subst h2;simp
  ·rw[G41 h2];simp[G75 (show(xs++ [y]).length≤i by simp;omega)]
theorem Ck3 {r:A6} (h:RoomI r) {e:A0} (hp:e.2.2.2.2.2.2.2.1.length≤1000) (ho:(K9 r e).2=true):RoomI (K9 r e).1∧(K9 r e).1.1=r.1++ [e]:=by
 have hbl:=A72 h hp
 have hbt:=Built.add h.bt hp ho
 unfold K9 at ho hbt ⊢
 cases hq:(H2 r e.2.2.2.2.2.2.2.1).2&&(J9 e&&(decide (Ad6 r.1 e.1<0)&&(decide (e.2.2.2.2.2.2.2.2.1=Ad7 r.1 e.2.2.2.2.2.2.2.1)&&decide (r.1.length<40))))with
 |false=>rw[hq]at ho;cases ho
 |true=>
  rw[hq]at hbt
  simp only[G52]
  simp only[G37,G81]at hq
  obtain⟨_,q1,q2,_,q3⟩:=hq
  refine⟨⟨hbt,by simp;omega,by simp[h.sl],by simp[h.gl],λi hi=> ?_,λx hx=> ?_,λi j hij hj=> ?_⟩,trivial⟩
  ·simp only at hi ⊢
   rw[C71]
   by_cases q:i<r.2.1.length
   ·rw[G45 q];exact h.st i q
   ·rw[G41 q,G45 (by simp at hi;omega)]
    cases p9 r.1 (H2 r e.2.2.2.2.2.2.2.1).1 e&&A68 e !=0 with
    |true=>exact Dq9 hbl (by omega)
    |false=>exact hbl
  ·rcases G34.1 hx with hx|hx
   ·exact h.ev x hx
   ·simp at hx;subst hx;exact q1
  ·simp only at hj ⊢
   rw[C71,C71]
   have hj2:j<r.1.length+1:=by simpa using hj
   rw[G45 (show i<r.1.length by omega)]
   by_cases q:j<r.1.length
   ·rw[G45 q];exact h.ids i j hij q
   ·rw[G41 q,G45 (by omega)]
    rcases Dj8 r.1 e.1 with⟨_,hn⟩|⟨k,hk,e2,_⟩
    ·exact hn _ (by rw[C2 (show i<r.1.length by omega)];exact G47 _)
    ·omega
theorem Bu5 (k:Nat) (e:A0) (h1:e.2.2.2.2.2.1.length≤1048576) (h2:e.2.2.2.2.2.2.2.1.length≤1048576):A29 k e=some e:=by
 unfold A29
 rw[G54 (by simp[A5];omega),G54 (by simp[A5];omega)]
 rfl
theorem C72 (r:A6) (h:RoomI r):Ev (λk=>Cj1 k r) r:=by
 have hlen:=h.len
 have hsl:=h.sl
 have hgl:=h.gl
 have h0:Ev (λk=>Be9 k r.1) r.1:=by
  refine Re.eq (Re.enter (f:=λk n=>S8 k n r.1 0 []) B9 ?_)
  have:=Re.loop (ι:=Nat) (l:=λk n (i:Nat)=>S8 k n r.1 (i:Int) (r.1.take i)) (I:=λi=>i≤r.1.length) (λi=>r.1.length-i) (Q:=λ_ v=>v=r.1) (λi hi ih=>by
   simp only[S8,Aq6]
   refine Re.brd (λg=> ?_) (λg=>Re.ret (G40 (by omega)))
   have hl:i<r.1.length:=by omega
   have hs:=M8 (h.ev (rd A4 r.1 i) (by rw[C2 hl];exact G47 _))
   have hm:=R0 (e:=rd A4 r.1 i) (by omega)
   refine Re.gdd (by omega) (Re.gdd g ?_)
   simp only[G33]
   refine Re.s2 (Bu5 · _ hm.1 hm.2.2) (Re.gdd (by simp[A5];omega) ?_)
   rw[B2 hl (by omega)]
   have next:=ih (i+1) (by omega) (by omega)
   rw[G66,G36 hl]at next
   rw[C2 hl]
   exact next) 0 (G49 _)
  simpa using this
 refine Re.eq (Re.c1 h0 (Re.gdd (by simp[A5];omega) ?_))
 refine Re.enter (f:=λk n=>Ab6 k n 0 r r.1 []) B9 ?_
 have:=Re.loop (ι:=Nat) (l:=λk n (i:Nat)=>Ab6 k n (i:Int) r r.1 (r.2.1.take i)) (I:=λi=>i≤r.2.1.length) (λi=>r.2.1.length-i) (Q:=λ_ v=>v=r) (λi hi ih=>by
  simp only[Ab6,Bq2]
  refine Re.brd (λg=> ?_) (λg=>Re.ret (by rw[G40 (by omega)];rfl))
  have hl:i<r.2.1.length:=by omega
  have hs:=h.st i hl
  refine Re.gdd (by omega) (Re.gdd g ?_)
  simp only[G33]
  refine Re.gdd (by simp[A5];omega) (Re.gdd (by simp[A5];omega) ?_)
  rw[B2 hl (by omega)]
  have next:=ih (i+1) (by omega) (by omega)
  rw[G66,G36 hl]at next
  rw[C2 hl,G60]
  exact next) 0 (G49 _)
 simpa using this
theorem Ck4:RoomI ([],[],[],()):=⟨.nil,by simp,rfl,rfl,λi hi=>by simp at hi,λe he=>by simp at he,λi j _ hj=>by simp at hj⟩
end Go.Vm
end
section
namespace Go.Vm
open Go
theorem An0 (k:Nat) (e:A0) (h1:e.2.2.2.2.2.1.length≤1048576) (h2:e.2.2.2.2.2.2.2.1.length≤1048576):P5 k e=some e:=by
 unfold P5
 rw[G54 (by unfold A5;omega),G54 (by unfold A5;omega)]
 rfl
def Ay8 (es:List A0):Prop:=es.length≤100000∧∀i,i<es.length→(rd A4 es i).2.2.2.2.2.1.length≤1048576∧(rd A4 es i).2.2.2.2.2.2.2.1.length≤1048576
theorem As2 (es:List A0) (h:Ay8 es) (id:Int):Ev (λk=>Ba7 k es id) (C5 es id):=by
 obtain⟨h1,h2⟩:=h
 have:=D18 (l:=λk n i=>Aq7 k n id es (i:Int)) es (λe=>e.1==id) (λe=> (e,true)) (Cl5,false) (λi hi=> ⟨0,λk _ n=>by
  have hc:=An0 k (rd A4 es i) (h2 i hi).1 (h2 i hi).2
  rw[C2 hi]at hc
  simp only[Aq7,Br2,G61,hi,G42,G56,br_true,gd_true,G33,C2,B2 hi (by omega),hc,bd_some]⟩) ⟨0,λk _ n=>by
  simp only[Aq7,Br2,G77,G76,br_false]⟩
 exact this
theorem RoomI.copyS {r:A6} (h:RoomI r):Ay8 r.1:=⟨by have:=h.len;omega,λi hi=>by
 have hs:=M8 (h.ev (rd A4 r.1 i) (by rw[C2 hi];exact G47 _))
 have hm:=R0 (e:=rd A4 r.1 i) (by omega)
 exact⟨hm.1,hm.2.2⟩⟩
end Go.Vm
end
section
namespace Go.Vm
open Go
def NoZ (es:List A0):Prop:=∀e∈es,e.1≠0
theorem C73 (s:List A1) (h:s.length≤1048576) (key:Int):Ev (λk=>Fr3 k s key) (q9 s key):=by
 have:=D18 (l:=λk n i=>Cj4 k n key s (i:Int)) s (λx=>x.1==key) (λx=>x.2.1) 0 (λi hi=> ⟨0,λk _ n=>by
  simp only[Cj4,D20,G61,hi,G42,G56,br_true,gd_true,G33,C2,B2 hi (by omega)]⟩) ⟨0,λk _ n=>by
  simp only[Cj4,D20,G77,G76,br_false]⟩
 exact this
theorem Ft7 {es:List A0} (h:NoZ es):C5 es 0=(Cl5,false):=by
 rcases Ax1 es 0 with e|⟨e,he,_,e3⟩
 ·exact e
 ·exact absurd e3 (h e he)
theorem Bu6 (es:List A0) (hc:Ay8 es) (hz:NoZ es) (s:List A1) (hs:s.length≤1048576) (key:Int):Ev (λk=>Cj5 k es s key) (C5 es (q9 s key)):=by
 refine Re.eq (Re.c1 (C73 s hs key) ?_)
 refine Re.bre (λq=>Re.ret (by rw[q,Ft7 hz])) (λq=> ?_)
 exact Re.c1 (As2 es hc _) (Re.ret rfl)
def Bl5 (es:List A0) (s:List A1) (u:Int):Bool:=(C5 es (q9 s 1)).2&&((C5 es (q9 s 1)).1.2.1==1&&(C5 es (q9 s 1)).1.2.2.1==u)
theorem Ft8 (es:List A0) (s:List A1) (u:Int):C64 es s u=bif Bl5 es s u then 100 else 0:=rfl
theorem Bu7 (es:List A0) (hc:Ay8 es) (hz:NoZ es) (s:List A1) (hs:s.length≤1048576) (u:Int):Ev (λk=>Ai1 k es s u) (Bl5 es s u):=by
 refine Re.eq (Re.c1 (Bu6 es hc hz s hs 1) ?_)
 unfold Bl5
 cases(C5 es (q9 s 1)).2 with
 |false=>exact Re.ret rfl
 |true=>cases(C5 es (q9 s 1)).1.2.1==1<;>exact Re.ret rfl
theorem Ad8 (es:List A0) (hc:Ay8 es) (hz:NoZ es) (s:List A1) (hs:s.length≤1048576) (u:Int):Ev (λk=>Y3 k es s u) (I0 es s u):=by
 refine Re.eq (Re.s1 (O1 · _ _ _) ?_)
 unfold I0
 cases hu:W6 u 1 5 with
 |false=>exact Re.ret rfl
 |true=>
  have hr:=M2.1 hu
  have tail:Re (λk=>bd (Ai1 k es s u) λr4=> (br r4 (some 100) (some (0:Int)))) (λv=>v=C64 es s u):=by
   refine Re.c1 (Bu7 es hc hz s hs u) ?_
   rw[Ft8]
   cases Bl5 es s u<;>exact Re.ret rfl
  refine Re.br (b:=false) (λh=>by cases h) (λ_=>Re.c1 (Bu6 es hc hz s hs 2) ?_)
  simp only[G52]
  cases hf:(C5 es (q9 s 2)).2 with
  |false=>exact tail
  |true=>
   cases hk:((C5 es (q9 s 2)).1.2.1==3)with
   |false=>exact tail
   |true=>
    cases hl:(((C5 es (q9 s 2)).1.2.2.2.2.2.1.length:Int)==5)with
    |false=>exact tail
    |true=>
     have hl5:((C5 es (q9 s 2)).1.2.2.2.2.2.1.length:Int)=5:=by simpa using hl
     have e1:B5 (u-1)=u-1:=D7 (by omega) (by omega)
     simp only[e1,br_true,Bool.and_self,G52]
     exact Re.gdd (by omega) (Re.gdd (by omega) (Re.ret rfl))
theorem Au9 (es:List A0) (hc:Ay8 es) (hz:NoZ es) (s:List A1) (hs:s.length≤1048576) (u:Int):Ev (λk=>Aq8 k es s u) (D9 es s u):=by
 refine Re.eq (Re.s1 (O1 · _ _ _) ?_)
 unfold D9
 cases hu:W6 u 1 5 with
 |false=>exact Re.ret rfl
 |true=>
  have hr:=M2.1 hu
  have e1:B5 (10+u)=10+u:=D7 (by omega) (by omega)
  rw[e1]
  refine Re.br (b:=false) (λh=>by cases h) (λ_=>Re.c1 (Bu6 es hc hz s hs _) ?_)
  cases hf:(C5 es (q9 s (10+u))).2 with
  |false=>exact Re.ret rfl
  |true=>
   refine Re.br (b:=false) (λh=>by cases h) (λ_=> ?_)
   refine Re.brn (λq=>Re.ret (by rw[R9 q];rfl)) (λq=> ?_)
   rw[show((C5 es (q9 s (10+u))).1.2.1==2)=true by simp[q]]
   refine Re.brn (λq2=>Re.ret (by rw[R9 q2];rfl)) (λq2=> ?_)
   rw[show((C5 es (q9 s (10+u))).1.2.2.2.1==u)=true by simp[q2]]
   exact Re.ret rfl
theorem C74 (es:List A0) (hc:Ay8 es) (hz:NoZ es) (s:List A1) (hs:s.length≤1048576) (e:A0) (hl:e.2.2.2.2.2.1.length=5):Ev (λk=>A55 k es s e) (S7 5 (N0 es s e)&&decide (I0 es s e.2.2.1≥50)):=by
 refine Re.eq (Re.c1 (Ad8 es hc hz s hs _) ?_)
 refine Re.enter (f:=λk n=>N6 k n es s (I0 es s e.2.2.1) e 0) B9 ?_
 have:=Re.loop (ι:=Nat) (l:=λk n (i:Nat)=>N6 k n es s (I0 es s e.2.2.1) e (i:Int)) (I:=λi=>i≤5∧∀j,j<i→N0 es s e j=true) (λi=>5-i) (Q:=λ_ v=>v=(S7 5 (N0 es s e)&&decide (I0 es s e.2.2.1≥50))) (λi hi ih=>by
  simp only[N6,Al2]
  refine Re.brd (λq=> ?_) (λq=>Re.ret ?_)
  ·have hi5:i<5:=by omega
   refine Re.gdd (by omega) (Re.gdd q ?_)
   have e2:B5 ((i:Int)+1)=((i+1:Nat):Int):=by rw[D7 (by omega) (by omega)];omega
   rw[e2,G33]
   refine Re.c2 (Ad8 es hc hz s hs _) ?_
   have next:N0 es s e i=true→Re (λx:Nat×Nat=>N6 x.1 x.2 es s (I0 es s e.2.2.1) e ((i+1:Nat):Int)) (λv=>v=(S7 5 (N0 es s e)&&decide (I0 es s e.2.2.1≥50))):=λg=>ih (i+1) ⟨by omega,λj hj=>by
    by_cases hj2:j<i
    ·exact hi.2 j hj2
    ·have:j=i:=by omega
     subst this;exact g⟩ (by omega)
   have no:N0 es s e i=false→false=(S7 5 (N0 es s e)&&decide (I0 es s e.2.2.1≥50)):=λg=>by
    have:S7 5 (N0 es s e)=false:=by
     cases ha:S7 5 (N0 es s e)with
     |false=>rfl
     |true=>rw[P3]at ha;rw[ha i hi5]at g;cases g
    rw[this];rfl
   have hp:N0 es s e i=(rd 0 e.2.2.2.2.2.1 i==I0 es s ((i+1:Nat):Int)||(!decide (rd 0 e.2.2.2.2.2.1 i>I0 es s e.2.2.1)&&(!decide (I0 es s ((i+1:Nat):Int)≥I0 es s e.2.2.1)||((i+1:Nat):Int)==e.2.2.1))):=rfl
   refine Re.brn (λg=> ?_) (λg=>next (by rw[hp];simp[g]))
   rw[R9 g,Bool.false_or]at hp
   refine Re.br (λg=>Re.ret (no (by rw[hp,g];rfl))) (λg=> ?_)
   rw[g,Bool.not_false,Hb6]at hp
   refine Re.br (λg=> ?_) (λg=>next (by rw[hp,g];rfl))
   rw[g,Bool.not_true,Bool.false_or]at hp
   exact Re.brn (λg=>Re.ret (no (by rw[hp,R9 g]))) (λg=>next (by rw[hp];simp[g]))
  ·have:S7 5 (N0 es s e)=true:=P3.2 λj hj=>hi.2 j (by omega)
   rw[this];rfl) 0 ⟨by omega,λj hj=>by omega⟩
 exact this
theorem Et5 {f:Nat→Nat→Nat→Option Bool} (s:List A1) (hs:s.length≤1048576) (x y:Bool) (hx:∀k n i,i<s.length→f k (n+1) i=br (decide ((rd C0 s i).1>10)) (some x) (f k n (i+1))) (hy:∀k n,f k (n+1) s.length=some y):
  Ev (λk=>f k k 0) (bif A67 s then y else x):=by
 have:=Ct7 (l:=f) s.length (λi=> !decide ((rd C0 s i).1>10)) y x (λi hi=> ⟨0,λk _ n=>by rw[hx k n i hi];cases decide ((rd C0 s i).1>10)<;>rfl⟩) ⟨0,λk _ n=>hy k n⟩
 exact this
theorem Cw4 (es:List A0) (hc:Ay8 es) (hz:NoZ es) (s:List A1) (hs:s.length≤1048576) (e:A0) (hk:(C5 es (q9 s 1)).2=true∧(C5 es (q9 s 1)).1.2.1=1):Ev (λk=>Ax5 k es s e) (B89 es s e):=by
 refine Re.eq (Re.c1 (Au9 es hc hz s hs _) (Re.c1 (Au9 es hc hz s hs _) ?_))
 have hcr:Bl5 es s e.2.2.2.1=((C5 es (q9 s 1)).1.2.2.1==e.2.2.2.1):=by
  unfold Bl5
  rw[hk.1,hk.2];rfl
 unfold B89
 by_cases hu:e.2.2.1=e.2.2.2.1
 ·have b1:(e.2.2.1==e.2.2.2.1)=true:=by simp[hu]
  have b2:(e.2.2.2.1==e.2.2.1)=true:=by simp[hu]
  rw[b1,b2]
  simp only[G52,br_true]
  unfold E28
  rw[hk.1,hu]
  cases h1:D9 es s e.2.2.2.1==1 with
  |true=>
   refine Re.c1 (Bu7 es hc hz s hs _) ?_
   rw[hcr]
   refine Re.br (λ_=> ?_) (λ_=> ?_)
   ·refine Re.mono (Q:=λv=>v=_) (Ev.re (Et5 (f:=λk n i=>O4 k n s (i:Int) e es (D9 es s e.2.2.2.1) (D9 es s e.2.2.2.1) ((C5 es (q9 s 1)).1.2.2.1==e.2.2.2.1)) s hs (bif e.2.2.2.2.1==2 then true else bif e.2.2.2.2.1==0 then true else false) (bif e.2.2.2.2.1==2 then true else bif e.2.2.2.2.1==0 then true else false) (λk n i hi=> ?_) (λk n=> ?_)) rfl) (λv hv=> ?_)
    ·simp only[O4,b9,G61,hi,G42,G56,br_true,gd_true,G33,B2 hi (by omega)]
     cases e.2.2.2.2.1==2<;>cases e.2.2.2.2.1==0<;>rfl
    ·simp only[O4,b9,G77,G76,br_false]
     cases e.2.2.2.2.1==2<;>cases e.2.2.2.2.1==0<;>rfl
    ·rw[hv]
     cases A67 s<;>cases e.2.2.2.2.1==2<;>cases e.2.2.2.2.1==0<;>rfl
   ·cases e.2.2.2.2.1==2<;>cases e.2.2.2.2.1==0<;>exact Re.ret rfl
  |false=>
   refine Re.c1 (Bu7 es hc hz s hs _) ?_
   rw[hcr]
   refine Re.br (λhcc=> ?_) (λhcc=> ?_)
   ·refine Re.mono (Q:=λv=>v=_) (Ev.re (Et5 (f:=λk n i=>O5 k n s (i:Int) e es (D9 es s e.2.2.2.1) (D9 es s e.2.2.2.1) ((C5 es (q9 s 1)).1.2.2.1==e.2.2.2.1)) s hs (bif e.2.2.2.2.1==2 then(D9 es s e.2.2.2.1==2||(e.2.2.2.2.1==0&&D9 es s e.2.2.2.1==2))else(e.2.2.2.2.1==0&&D9 es s e.2.2.2.1==2)) (bif e.2.2.2.2.1==2 then true else(e.2.2.2.2.1==0&&D9 es s e.2.2.2.1==2)) (λk n i hi=> ?_) (λk n=> ?_)) rfl) (λv hv=> ?_)
    ·have hge:decide ((i:Int)≥0)=true:=G54 (by omega)
     simp only[O5,c9,G61,hi,G42,G56,br_true,gd_true,G33,B2 hi (by omega),hge]
     cases e.2.2.2.2.1==2<;>cases e.2.2.2.2.1==0<;>cases D9 es s e.2.2.2.1==2<;>rfl
    ·simp only[O5,c9,G77,G76,br_false]
     cases e.2.2.2.2.1==2<;>cases e.2.2.2.2.1==0<;>cases D9 es s e.2.2.2.1==2<;>rfl
    ·rw[hv,hcc]
     cases h2:e.2.2.2.2.1==2 with
     |false=>cases A67 s<;>cases e.2.2.2.2.1==0<;>cases D9 es s e.2.2.2.1==2<;>rfl
     |true=>
      have h0:(e.2.2.2.2.1==0)=false:=by
       have:e.2.2.2.2.1=2:=by simpa using h2
       rw[this];rfl
      rw[h0]
      cases A67 s<;>cases D9 es s e.2.2.2.1==2<;>rfl
   ·rw[hcc]
    cases h2:e.2.2.2.2.1==2 with
    |false=>cases e.2.2.2.2.1==0<;>cases D9 es s e.2.2.2.1==2<;>exact Re.ret rfl
    |true=>
     have h0:(e.2.2.2.2.1==0)=false:=by
      have:e.2.2.2.2.1=2:=by simpa using h2
      rw[this];rfl
     rw[h0]
     cases D9 es s e.2.2.2.1==2<;>exact Re.ret rfl
 ·have b1:(e.2.2.1==e.2.2.2.1)=false:=R9 hu
  have b2:(e.2.2.2.1==e.2.2.1)=false:=R9 λh=>hu h.symm
  rw[b1,b2]
  simp only[G72,br_false]
  unfold E30
  have hL:=λu=>Ad8 es hc hz s hs u
  cases h1:D9 es s e.2.2.2.1==1 with
  |true=>
   refine Re.brn (λq=>Re.ret (by rw[R9 q];rfl)) (λq=> ?_)
   rw[show(D9 es s e.2.2.1==2)=true by simp[q]]
   refine Re.c1 (hL _) ?_
   cases decide (I0 es s e.2.2.1≥50)with
   |true=>
    refine Re.c1 (hL _) ?_
    cases e.2.2.2.2.1==1<;>cases e.2.2.2.2.1==0<;>cases e.2.2.2.2.1==3<;>cases D9 es s e.2.2.2.1 !=3<;>exact Re.ret rfl
   |false=>cases e.2.2.2.2.1==1<;>cases e.2.2.2.2.1==0<;>cases e.2.2.2.2.1==3<;>cases D9 es s e.2.2.2.1 !=3<;>exact Re.ret rfl
  |false=>
   refine Re.brn (λq=>Re.ret (by rw[R9 q];rfl)) (λq=> ?_)
   rw[show(D9 es s e.2.2.1==2)=true by simp[q]]
   refine Re.c1 (hL _) ?_
   cases decide (I0 es s e.2.2.1≥50)with
   |true=>
    refine Re.c1 (hL _) ?_
    cases e.2.2.2.2.1==1<;>cases e.2.2.2.2.1==0<;>cases e.2.2.2.2.1==3<;>cases D9 es s e.2.2.2.1 !=3<;>cases D9 es s e.2.2.2.1==2<;>exact Re.ret rfl
   |false=>cases e.2.2.2.2.1==1<;>cases e.2.2.2.2.1==0<;>cases e.2.2.2.2.1==3<;>cases D9 es s e.2.2.2.1 !=3<;>cases D9 es s e.2.2.2.1==2<;>exact Re.ret rfl
theorem C75 (es:List A0) (hc:Ay8 es) (hz:NoZ es) (s:List A1) (hs:s.length≤1048576) (e:A0) (hm:D1 e≤1048576):Ev (λk=>Cj6 k es s e) (p9 es s e):=by
 refine Re.eq (Re.c1 (Bu0 e hm) ?_)
 unfold p9
 cases ho:J9 e with
 |false=>exact Re.ret rfl
 |true=>
  refine Re.br (b:=false) (λh=>by cases h) (λ_=> ?_)
  refine Re.br (λq=>Re.ret (by rw[q];rfl)) (λq=> ?_)
  rw[q]
  refine Re.c1 (Bu6 es hc hz s hs 1) ?_
  cases hf:(C5 es (q9 s 1)).2 with
  |false=>exact Re.ret rfl
  |true=>
   refine Re.br (b:=false) (λh=>by cases h) (λ_=> ?_)
   refine Re.brn (λg=>Re.ret (by rw[R9 g];rfl)) (λg=> ?_)
   rw[show((C5 es (q9 s 1)).1.2.1==1)=true by simp[g]]
   refine Re.br (λg2=> ?_) (λg2=> ?_)
   ·rw[g2];exact Re.c1 (Cw4 es hc hz s hs e ⟨hf,g⟩) (Re.ret rfl)
   rw[g2]
   refine Re.c1 (Au9 es hc hz s hs _) ?_
   refine Re.brn (λq2=>Re.ret ?_) (λq2=> ?_)
   ·unfold C65
    rw[R9 q2]
    cases e.2.1==3<;>cases e.2.1==4<;>rfl
   have hq:(D9 es s e.2.2.1==2)=true:=by simp[q2]
   refine Re.bre (λg3=> ?_) (λg3=> ?_)
   ·have h5:=Dq5 ho g3
    rw[g3]
    refine Re.c1 (C74 es hc hz s hs e h5) (Re.ret ?_)
    unfold C65
    rw[hq]
    by_cases hl:I0 es s e.2.2.1≥50
    ·rw[G54 hl,G55 (show¬I0 es s e.2.2.1<50 by omega)]
     cases S7 5 (N0 es s e)<;>rfl
    ·rw[G55 hl,G54 (show I0 es s e.2.2.1<50 by omega)]
     cases S7 5 (N0 es s e)<;>rfl
   rw[R9 g3]
   refine Re.br (λg4=> ?_) (λg4=> ?_)
   ·rw[g4,hq]
    exact Re.c1 (Ad8 es hc hz s hs _) (Re.ret rfl)
   ·rw[g4,hq]
    exact Re.ret rfl
end Go.Vm
end
section
namespace Go.Vm
open Go
theorem g9 (xs:List Int) (hx:xs.length≤1048576) (y:Int):Ev (λk=>J0 k xs y) (decide (y∈xs)):=by
 have h1:Ev (λk=>u9 k xs y) (if xs.findIdx (λx=>y==x)<xs.length then((xs.findIdx (λx=>y==x):Nat):Int)else -1):=by
  have:=Ct8 (l:=λk n i=>I9 k n xs y (i:Int)) xs (λx=>y==x) (λi=> (i:Int)) (-1) (λi hi=> ⟨0,λk _ n=>by
   simp only[I9,Q2,G61,hi,G42,G56,br_true,gd_true,G33,C2,B2 hi (by omega)]⟩) ⟨0,λk _ n=>by
   simp only[I9,Q2,G77,G76,br_false]⟩
  exact this
 refine Re.eq (Re.c1 h1 (Re.ret ?_))
 by_cases q:xs.findIdx (λx=>y==x)<xs.length
 ·rw[G45 q]
  have hp:y=xs[xs.findIdx λx=>y==x]:=by simpa using List.findIdx_getElem (w:=q)
  have hm:y∈xs:=by
   have h2:xs[xs.findIdx λx=>y==x]∈xs:=G47 q
   exact hp.symm▸h2
  rw[G54 hm];exact G54 (by omega)
 ·rw[G41 q]
  have hm:y∉xs:=λhm=>q (List.findIdx_lt_length_of_exists ⟨y,hm,by simp⟩)
  rw[G55 hm];rfl
theorem Bu8 (k:Nat) (e:A0):A31 k e=some (Am6 e):=by
 unfold A31 Am6
 cases e.2.1==3<;>cases e.2.1==2<;>cases e.2.2.2.2.1==0<;>cases e.2.2.2.2.1==3<;>rfl
theorem C76 (es:List A0) (hc:Ay8 es) (hz:NoZ es) (s:List A1) (hs:s.length≤1048576) (a b:A0):Ev (λk=>A32 k es s a b) (Q7 es s a b):=by
 refine Re.eq (Re.s1 (Bu8 · _) (Re.s1 (Bu8 · _) ?_))
 unfold Q7
 cases Am6 a==Am6 b with
 |false=>exact Re.br (b:=true) (λ_=>Re.s1 (Bu8 · _) (Re.ret rfl)) (λh=>by cases h)
 |true=>
  refine Re.br (b:=false) (λh=>by cases h) (λ_=>Re.c1 (Ad8 es hc hz s hs _) (Re.c1 (Ad8 es hc hz s hs _) ?_))
  refine Re.brn (λq=>Re.ret (by simp[q])) (λq=> ?_)
  exact Re.brn (λq2=>Re.ret (by simp[q,q2])) (λq2=>Re.ret (by simp[q,q2]))
theorem E33 (es:List A0) (hc:Ay8 es) (hp:∀y,(F2 es y).length≤1048576) (id:Int):Re (λk=>Di6 k es id) (AncL es id):=by
 have h:=hc.1
 refine Re.enter (f:=λk n=>Ac8 k n es 0 [] [id]) B9 ?_
 have:=Re.wf (l:=λk n (st:(Nat×List Int×List Int) ⊕ (Nat×Nat×List Int×List Int×Int))=>match st with
   | .inl (u,out,td)=>Ac8 k n es u out td
   | .inr (u,j,out,td,y)=>d5 k n es u (C5 es y) (j:Int) out td)
  (I:=λst=>match st with
   | .inl (u,out,td)=>BInv es id out (td.drop u) none∧td.length≤1000000+u∧u≤td.length∧(td.drop u).length≤out.length+1
   | .inr (u,j,out,td,y)=>BInv es id out (td.drop u) (some (y,j))∧(y=id∨y∈out)∧j≤(F2 es y).length∧(td.drop u).length≤out.length+1∧u≤td.length)
  (λst=>match st with
   | .inl (u,out,td)=> (2*(es.length-out.length)+(td.drop u).length,0)
   | .inr (u,j,out,td,y)=> (2*(es.length-out.length)+(td.drop u).length,(F2 es y).length-j+1)) (Q:=λ_ r=>AncL es id r) (λst hi ih=>by
  rcases st with⟨u,out,td⟩|⟨u,j,out,td,y⟩
  ·obtain⟨hB,h1,h2,h3⟩:=hi
   simp only at ih ⊢
   simp only[E06,A09]
   refine Re.brd (λg=> ?_) (λg=>Re.ret ?_)
   ·have hu:u<td.length:=by omega
    have hd:td.drop u=rd 0 td u::td.drop (u+1):=by rw[C2 hu];exact G89 hu
    refine Re.gdd (by omega) ?_
    rw[G69]
    refine Re.c2 (As2 es hc _) (Re.gdd (by omega) ?_)
    have hy:=hB.td (rd 0 td u) (by rw[hd];exact G39 ..)
    refine ih (.inr (u+1,0,out,td,rd 0 td u)) ⟨⟨hB.nd,hB.an,λz hz=>hB.td z (by rw[hd];exact G38 _ hz),λz hz=> ?_⟩,hy,G49 _,by rw[hd]at h3;simp at h3 ⊢;omega,by omega⟩ (.inl ?_)
    ·rcases hB.cl z hz with h4|⟨j,h4,_⟩|h4
     ·rw[hd]at h4
      rcases G67.1 h4 with h5|h5
      ·exact .inr (.inl ⟨0,by rw[h5],λx hx=>by simp at hx⟩)
      ·exact .inl h5
     ·cases h4
     ·exact .inr (.inr h4)
    ·simp only[hd,G82]
     omega
   ·have e:td.drop u=[]:=Hc0 (by omega)
    rw[e]at hB
    refine⟨hB.nd,λx=> ⟨λhx=> (hB.an x hx).2,λhx=> ?_⟩⟩
    have closed:∀z,(z=id∨z∈out)→∀x∈F2 es z,found es x→x∈out:=λz hz=>by
     rcases hB.cl z hz with h4|⟨j,h4,_⟩|h4
     ·simp at h4
     ·cases h4
     ·exact h4
    induction hx with
    |one h4 h5=>exact closed id (.inl rfl) _ h4 h5
    |more _ h4 h5 ih2=>exact closed _ (.inr ih2) _ h4 h5
  ·obtain⟨hB,h1,h2,h3,hu⟩:=hi
   simp only at ih ⊢
   have hlen:=hB.len
   have hpl:=hp y
   have hpe:(C5 es y).1.2.2.2.2.2.2.2.1=F2 es y:=rfl
   simp only[E07,A10,hpe]
   refine Re.brd (λg=> ?_) (λg=> ?_)
   ·have hj:j< (F2 es y).length:=by omega
    refine Re.gdd (by omega) (Re.gdd g ?_)
    simp only[G33]
    rw[B2 hj (by omega)]
    have step:∀out2 td2 u2,BInv es id out2 (td2.drop u2) (some (y,j+1))→(y=id∨y∈out2)→(td2.drop u2).length≤out2.length+1→u2≤td2.length→(2*(es.length-out2.length)+(td2.drop u2).length≤2*(es.length-out.length)+(td.drop u).length)→
      Re (λx:Nat×Nat=>d5 x.1 x.2 es u2 (C5 es y) ((j+1:Nat):Int) out2 td2) (AncL es id):=λout2 td2 u2 b1 b2 b3 b5 b4=>by
     refine ih (.inr (u2,j+1,out2,td2,y)) ⟨b1,b2,by omega,b3,b5⟩ ?_
     simp only
     omega
    have tk:=T7 hj
    have same:(found es (rd 0 (F2 es y) j)→rd 0 (F2 es y) j∈out)→Re (λx:Nat×Nat=>d5 x.1 x.2 es u (C5 es y) ((j+1:Nat):Int) out td) (AncL es id):=λhin=>
     step out td u ⟨hB.nd,hB.an,hB.td,λz hz=>by
      rcases hB.cl z hz with h4|⟨j',h4,h5⟩|h4
      ·exact .inl h4
      ·cases h4
       refine .inr (.inl ⟨j+1,rfl,λx hx hf=> ?_⟩)
       rw[tk]at hx
       rcases G34.1 hx with hx|hx
       ·exact h5 x hx hf
       ·simp at hx;subst hx;exact hin hf
      ·exact .inr (.inr h4)⟩ h1 h3 hu (G53 _)
    refine Re.c2 (As2 es hc _) ?_
    cases hf:(C5 es (rd 0 (F2 es y) j)).2 with
    |false=>exact Re.br (b:=false) (λh=>by cases h) (λ_=>same λh=>by unfold found at h;rw[hf]at h;cases h)
    |true=>
     refine Re.br (b:=true) (λ_=> ?_) (λh=>by cases h)
     refine Re.c2 (g9 out (by omega) _) ?_
     refine Re.br (λq=> ?_) (λq=>same λ_=>by simpa using q)
     have hno:rd 0 (F2 es y) j∉out:=by simpa using q
     have hanc:Anc es id (rd 0 (F2 es y) j):=by
      have hm:rd 0 (F2 es y) j∈F2 es y:=by rw[C2 hj];exact G47 _
      rcases h1 with h1|h1
      ·subst h1;exact .one hm hf
      ·exact .more (hB.an y h1).2 hm hf
     refine Re.gdd (by simp only[G57];unfold A5;omega) (Re.gdd (by simp only[G57];unfold A5;omega) ?_)
     have nB:BInv es id (out++ [rd 0 (F2 es y) j]) ((td.drop u++ [rd 0 (F2 es y) j]).drop 0) (some (y,j+1)):=by
      refine⟨Ha5.2 ⟨hB.nd,by simp,λa ha b hb=>by simp at hb;subst hb;exactλe=>hno (e▸ha)⟩,λx hx=> ?_,λz hz=> ?_,λz hz=> ?_⟩
      ·rcases G34.1 hx with hx|hx
       ·exact hB.an x hx
       ·simp at hx;subst hx;exact⟨hf,hanc⟩
      ·rw[Hd0]at hz
       rcases G34.1 hz with hz|hz
       ·exact Or.imp_right (λh=>G87 _ h) (hB.td z hz)
       ·exact .inr (Hc4 _ hz)
      ·rw[Hd0]
       by_cases hz2:z=id∨z∈out
       ·rcases hB.cl z hz2 with h4|⟨j',h4,h5⟩|h4
        ·exact .inl (G87 _ h4)
        ·cases h4
         refine .inr (.inl ⟨j+1,rfl,λx hx hf2=> ?_⟩)
         rw[tk]at hx
         rcases G34.1 hx with hx|hx
         ·exact G87 _ (h5 x hx hf2)
         ·exact Hc4 _ hx
        ·exact .inr (.inr λx hx hf2=>G87 _ (h4 x hx hf2))
       ·rcases hz with hz|hz
        ·exact absurd (.inl hz) hz2
        ·rcases G34.1 hz with hz|hz
         ·exact absurd (.inr hz) hz2
         ·exact .inl (Hc4 _ hz)
     have nl:=nB.len
     refine step _ _ 0 nB (Or.imp_right (λh=>G87 _ h) h1) ?_ (G49 _) ?_
     ·simp only[Hd0,G70,G57];omega
     ·simp only[Hd0,G70,G57]at nl ⊢;omega
   ·have ej:(F2 es y).take j=F2 es y:=G40 (by omega)
    refine ih (.inl (u,out,td)) ⟨⟨hB.nd,hB.an,hB.td,λz hz=> ?_⟩,by simp at h3;omega,hu,h3⟩ (.inr ⟨rfl,by simp only;omega⟩)
    ·rcases hB.cl z hz with h4|⟨j',h4,h5⟩|h4
     ·exact .inl h4
     ·cases h4
      rw[ej]at h5
      exact .inr (.inr h5)
     ·exact .inr (.inr h4)) (.inl (0,[],[id])) ⟨⟨by simp,λx hx=>by simp at hx,λy hy=>by simp at hy;exact .inl hy,λz hz=> .inl (by rcases hz with h|h;simp[h];simp at h)⟩,by simp,by simp,by simp⟩
 exact this
theorem B95 {es:List A0} {x:Int} (h:found es x):(C5 es x).1.1=x:=by
 rcases Ax1 es x with e|⟨e,_,e2,e3⟩
 ·unfold found at h;rw[e]at h;cases h
 ·rw[e2];exact e3
theorem Bc5 {es:List A0} {s:List A1} {a b:A0}:Q7 es s a b=true↔(Am6 a=true∧Am6 b=false)∨(Am6 a=Am6 b∧(I0 es s a.2.2.1>I0 es s b.2.2.1∨(I0 es s a.2.2.1=I0 es s b.2.2.1∧(a.2.2.2.2.2.2.2.2.1<b.2.2.2.2.2.2.2.2.1∨(a.2.2.2.2.2.2.2.2.1=b.2.2.2.2.2.2.2.2.1∧a.1<b.1))))):=by
 unfold Q7
 generalize I0 es s a.2.2.1=la
 generalize I0 es s b.2.2.1=lb
 generalize a.2.2.2.2.2.2.2.2.1=da
 generalize b.2.2.2.2.2.2.2.2.1=db
 have base:(if la=lb then(if da=db then decide (a.1<b.1)else decide (da<db))else decide (la>lb))=true↔(la>lb∨(la=lb∧(da<db∨(da=db∧a.1<b.1)))):=by
  by_cases q:la=lb
  ·rw[G45 q]
   by_cases q2:da=db
   ·rw[G45 q2,decide_eq_true_iff];omega
   ·rw[G41 q2,decide_eq_true_iff];omega
  ·rw[G41 q,decide_eq_true_iff];omega
 cases ha:Am6 a<;>cases hb:Am6 b
 ·simpa using base
 ·simp
 ·simp
 ·simpa using base
theorem Em1 {es:List A0} {s:List A1} {a b:A0} (h:Q7 es s a b=true):Q7 es s b a=false:=by
 rw[Bool.eq_false_iff]
 intro h2
 rw[Bc5]at h h2
 rcases h with⟨h1,h3⟩|⟨h1,h3⟩<;>rcases h2 with⟨g1,g3⟩|⟨g1,g3⟩
 ·rw[h1]at g3;cases g3
 ·rw[h1,h3]at g1;cases g1
 ·rw[g1,g3]at h1;cases h1
 ·omega
theorem Em2 {es:List A0} {s:List A1} {a b:A0} (hne:a.1≠b.1) (h:Q7 es s a b=false):Q7 es s b a=true:=by
 rw[Bool.eq_false_iff]at h
 rw[Bc5]
 have h2:=λx=>h (Bc5.2 x)
 have alg:∀{x y p q u v:Int},u≠v→¬(x>y∨(x=y∧(p<q∨(p=q∧u<v))))→(y>x∨(y=x∧(q<p∨(q=p∧v<u)))):=by
  intro x y p q u v h1 h2
  omega
 cases ha:Am6 a<;>cases hb:Am6 b
 ·exact .inr ⟨rfl,alg hne λx=>h2 (.inr ⟨by rw[ha,hb],x⟩)⟩
 ·exact .inl ⟨rfl,rfl⟩
 ·exact absurd (.inl ⟨ha,hb⟩) h2
 ·exact .inr ⟨rfl,alg hne λx=>h2 (.inr ⟨by rw[ha,hb],x⟩)⟩
theorem Em3 {es:List A0} {s:List A1} {a b c:A0} (h:Q7 es s a b=true) (h2:Q7 es s b c=true):Q7 es s a c=true:=by
 rw[Bc5]at h h2 ⊢
 rcases h with⟨h1,h3⟩|⟨h1,h3⟩<;>rcases h2 with⟨g1,g3⟩|⟨g1,g3⟩
 ·rw[h3]at g1;cases g1
 ·exact .inl ⟨h1,g1▸h3⟩
 ·exact .inl ⟨h1.trans g1,g3⟩
 ·exact .inr ⟨h1.trans g1,by omega⟩
def Best (es:List A0) (s:List A1) (C:Int→Prop) (b:A0):Prop:=∃x,C x∧b=(C5 es x).1∧∀y,C y→y≠x→Q7 es s (C5 es x).1 (C5 es y).1=true
theorem Best.eq {es:List A0} {s:List A1} {C D:Int→Prop} {a b:A0} (hCD:∀x,C x↔D x) (h:Best es s C a) (h':Best es s D b):a=b:=by
 obtain⟨x,h1,rfl,h3⟩:=h
 obtain⟨y,h4,rfl,h6⟩:=h'
 by_cases q:x=y
 ·rw[q]
 ·have g1:=h3 y ((hCD y).2 h4) (λe=>q e.symm)
  have g2:=h6 x ((hCD x).1 h1) q
  rw[Em1 g1]at g2;cases g2
def Fg7 (es:List A0) (s:List A1) (L out:List Int) (M:List Int):Option A0→Prop
 |none=> ∀x∈M,Am8 es L out x=false
 |some b=>Best es s (λx=>x∈M∧Am8 es L out x=true) b
theorem F81 {es:List A0} {s:List A1} {L out M:List Int} {acc:Option A0} {x:Int} (hM:∀y∈M,found es y) (hx:found es x) (h:Fg7 es s L out M acc):Fg7 es s L out (M++ [x]) (E4 es s L out acc x):=by
 unfold E4
 cases hc:Am8 es L out x with
 |false=>
  cases acc with
  |none=>
   intro y hy
   rcases G34.1 hy with hy|hy
   ·exact h y hy
   ·simp at hy;subst hy;exact hc
  |some b=>
   obtain⟨z,⟨h1,h2⟩,h3,h4⟩:=h
   refine⟨z,⟨G87 _ h1,h2⟩,h3,λy hy hne=> ?_⟩
   rcases G34.1 hy.1 with hy1|hy1
   ·exact h4 y ⟨hy1,hy.2⟩ hne
   ·simp at hy1;subst hy1
    have:=hy.2
    rw[hc]at this;cases this
 |true=>
  cases acc with
  |none=>
   refine⟨x,⟨by simp,hc⟩,rfl,λy hy hne=> ?_⟩
   rcases G34.1 hy.1 with hy1|hy1
   ·have:=hy.2
    rw[h y hy1]at this;cases this
   ·simp at hy1;exact absurd hy1 hne
  |some b=>
   obtain⟨z,⟨h1,h2⟩,rfl,h4⟩:=h
   simp only[G52]
   cases hh:Q7 es s (C5 es x).1 (C5 es z).1 with
   |true=>
    refine⟨x,⟨by simp,hc⟩,rfl,λy hy hne=> ?_⟩
    rcases G34.1 hy.1 with hy1|hy1
    ·by_cases q:y=z
     ·rw[q];exact hh
     ·exact Em3 hh (h4 y ⟨hy1,hy.2⟩ q)
    ·simp at hy1;exact absurd hy1 hne
   |false=>
    refine⟨z,⟨G87 _ h1,h2⟩,rfl,λy hy hne=> ?_⟩
    rcases G34.1 hy.1 with hy1|hy1
    ·exact h4 y ⟨hy1,hy.2⟩ hne
    ·simp at hy1;subst hy1
     exact Em2 (by rw[B95 hx,B95 (hM z h1)];exact hne) hh
theorem Et6 {es:List A0} {s:List A1} {L out:List Int}:∀(N M:List Int) (acc:Option A0),(∀y∈M++N,found es y)→Fg7 es s L out M acc→Fg7 es s L out (M++N) (N.foldl (E4 es s L out) acc)
 | [],M,acc,_,h=>by simpa using h
 |x::N,M,acc,hf,h=>by
  have:=Et6 N (M++ [x]) (E4 es s L out acc x) (λy hy=>hf y (by simpa using hy)) (F81 (λy hy=>hf y (by simp[hy])) (hf x (by simp)) h)
  simpa using this
theorem Dk1 (es:List A0) (s:List A1) (L out M:List Int) (hf:∀y∈M,found es y):Fg7 es s L out M (M.foldl (E4 es s L out) none):=by
 have:=Et6 (es:=es) (s:=s) (L:=L) (out:=out) M [] none (by simpa using hf) (λx hx=>by simp at hx)
 simpa using this
theorem F82 {es:List A0} {s:List A1} {L out M N:List Int} (hM:∀y∈M,found es y) (hN:∀y∈N,found es y) (h:∀x,(x∈M∧Am8 es L out x=true)↔(x∈N∧Am8 es L out x=true)):M.foldl (E4 es s L out) none=N.foldl (E4 es s L out) none:=by
 have h1:=Dk1 es s L out M hM
 have h2:=Dk1 es s L out N hN
 cases ha:M.foldl (E4 es s L out) none with
 |none=>
  rw[ha]at h1
  cases hb:N.foldl (E4 es s L out) none with
  |none=>rfl
  |some b=>
   rw[hb]at h2
   obtain⟨x,hx,_⟩:=h2
   have:=(h x).2 hx
   rw[h1 x this.1]at this;cases this.2
 |some a=>
  rw[ha]at h1
  cases hb:N.foldl (E4 es s L out) none with
  |none=>
   rw[hb]at h2
   obtain⟨x,hx,_⟩:=h1
   have:=(h x).1 hx
   rw[h2 x this.1]at this;cases this.2
  |some b=>
   rw[hb]at h2
   rw[Best.eq h h1 h2]
theorem F83 {a b:List Int} (ha:a.Nodup) (hb:b.Nodup) (h:∀x,x∈a↔x∈b):a.length=b.length:=
 Nat.le_antisymm (Am7 a b ha λx hx=> (h x).1 hx) (Am7 b a hb λx hx=> (h x).2 hx)
theorem Ec5 {α:Type} (d:α):∀(ms:List (Int×α)) (k v) (k':Int),Ad9 d (Cl3 ms k v) k'=if k'=k then v else Ad9 d ms k'
 | [],k,v,k'=>by
  by_cases q:k'=k
  ·subst q;simp[Cl3,Ad9]
  ·have:(k==k')=false:=by simp;exactλe=>q e.symm
   simp[Cl3,Ad9,this,q]
 |(m,x)::r,k,v,k'=>by
  unfold Cl3
  by_cases q:m=k
  ·subst q
   simp only[beq_self_eq_true,G52]
   by_cases q2:k'=m
   ·subst q2;simp[Ad9]
   ·have:(m==k')=false:=by simp;exactλe=>q2 e.symm
    simp[Ad9,this,q2]
  ·have h1:(m==k)=false:=by simp[q]
   simp only[h1,G72]
   unfold Ad9
   by_cases q2:m=k'
   ·have:¬k'=k:=λe=>q (q2.trans e)
    simp[q2,this]
   ·have:(m==k')=false:=by simp[q2]
    simp only[this,G72]
    exact Ec5 d r k v k'
structure LeftI (es : List A0) (L out : List Int) (cur : List A0) : Prop where
 nd : (cur.map fun e => e.1).Nodup
 mem : ∀ x, x ∈ cur.map (fun e => e.1) ↔ x ∈ L ∧ x ∉ out
 ev : ∀ e ∈ cur, e = (C5 es e.1).1 ∧ found es e.1
 len : cur.length + out.length = L.length
def MapI (es:List A0) (ms:List (Int×List Int)) (cur:List A0):Prop:=∀e∈cur,AncL es e.1 (Ad9 [] ms e.1)
theorem Ck5 {es:List A0} {L out:List Int} {cur:List A0} (h:LeftI es L out cur) {e:A0} (he:e∈cur) {r:List Int} (hA:AncL es e.1 r):Am8 es L out e.1=true↔∀f∈cur,f.1∉r:=by
 have h1:=(h.mem e.1).1 (List.mem_map_of_mem he)
 unfold Am8 Cw3
 rw[G55 h1.2]
 simp only[Bool.not_false,Hb6]
 rw[@decide_eq_true_iff _ (Classical.propDecidable _)]
 constructor
 ·intro g f hf hm
  have h2:=(h.mem f.1).1 (List.mem_map_of_mem hf)
  exact h2.2 (g f.1 ((hA.2 _).1 hm) h2.1)
 ·intro g y hy hl
  refine Classical.byContradiction λhn=> ?_
  obtain⟨f,hf,rfl⟩:=G79.1 ((h.mem y).2 ⟨hl,hn⟩)
  exact g f hf ((hA.2 _).2 hy)
theorem Fg8 {es:List A0} {L out:List Int} {x:Int} (h:Am8 es L out x=true):x∉out:=by
 unfold Am8 at h
 intro hm
 rw[G54 hm]at h;cases h
theorem Et7 {es:List A0} {s:List A1} {L out:List Int} {cur:List A0} (h:LeftI es L out cur) (hL:∀x∈L,found es x):(cur.map λe=>e.1).foldl (E4 es s L out) none=pick es s L out:=
 F82 (λy hy=>hL y ((h.mem y).1 hy).1) hL (λx=> ⟨λ⟨a,b⟩=> ⟨((h.mem x).1 a).1,b⟩,λ⟨a,b⟩=> ⟨(h.mem x).2 ⟨a,Fg8 b⟩,b⟩⟩)
theorem F19 {es:List A0} {s:List A1} {L out:List Int} (h:pick es s L out=none):∀f,H8 es s L f out=out
 |0=>rfl
 |f+1=>by unfold H8;rw[h]
theorem F20 {es:List A0} {s:List A1} {L out:List Int} {b:A0} (h:pick es s L out=some b) (f:Nat):H8 es s L (f+1) out=H8 es s L f (out++ [b.1]):=by
 conv=>lhs;unfold H8;rw[h]
theorem LeftI.del {es:List A0} {L out:List Int} {cur:List A0} (h:LeftI es L out cur) {p:Nat} (hp:p<cur.length):LeftI es L (out++ [(rd A4 cur p).1]) (cur.take p++cur.drop (p+1)):=by
 have e1:cur=cur.take p++cur[p]::cur.drop (p+1):=by rw[List.getElem_cons_drop hp,List.take_append_drop]
 rw[C2 hp]
 have hnd:=h.nd
 have hmem:=h.mem
 have hev:=h.ev
 have hlen:=h.len
 generalize cur[p]=v at e1 ⊢
 generalize cur.take p=A at e1 ⊢
 generalize cur.drop (p+1)=B at e1 ⊢
 subst e1
 rw[G64,G95]at hnd
 obtain⟨n1,n2,n3⟩:=Ha5.1 hnd
 obtain⟨n4,n5⟩:=Hb0.1 n2
 have hvA:v.1∉A.map λe=>e.1:=λhm=>n3 _ hm _ (G39 ..) rfl
 refine⟨?_,λx=> ?_,λe he=>hev e (by rcases G34.1 he with q|q<;>simp[q]),by simp at hlen ⊢;omega⟩
 ·rw[G64]
  exact Ha5.2 ⟨n1,n5,λa ha b hb=>n3 a ha b (G38 _ hb)⟩
 ·have h1:=hmem x
  rw[G64,G34]
  rw[G64,G95,G34,G67]at h1
  rw[G34,G48]
  constructor
  ·intro hx
   have hne:x≠v.1:=λe=>by
    rcases hx with q|q
    ·exact hvA (e▸q)
    ·exact n4 (e▸q)
   have:=h1.1 (by rcases hx with q|q;exact .inl q;exact .inr (.inr q))
   exact⟨this.1,λq=>by rcases q with q|q;exact this.2 q;exact hne q⟩
  ·rintro⟨g1,g2⟩
   rcases h1.2 ⟨g1,λq=>g2 (.inl q)⟩with q|q|q
   ·exact .inl q
   ·exact absurd (.inr q) g2
   ·exact .inr q
theorem MapI.del {es:List A0} {ms:List (Int×List Int)} {cur:List A0} (h:MapI es ms cur) (p:Nat):MapI es ms (cur.take p++cur.drop (p+1)):=λe he=>by
 rcases G34.1 he with q|q
 ·exact h e (List.mem_of_mem_take q)
 ·exact h e (List.mem_of_mem_drop q)
theorem F21 (xs:List A0) (n p:Nat) (hn:n≤xs.length) (hp:p<n):p+((xs.take n).drop (p+1)).length=n-1∧(app p ((xs.take n).drop (p+1)) xs).length=xs.length∧
  (clr A4 (some (p+((xs.take n).drop (p+1)).length)) (some n) (app p ((xs.take n).drop (p+1)) xs)).length=xs.length∧
  (clr A4 (some (p+((xs.take n).drop (p+1)).length)) (some n) (app p ((xs.take n).drop (p+1)) xs)).take (p+((xs.take n).drop (p+1)).length)=(xs.take n).take p++(xs.take n).drop (p+1):=by
 have hD:((xs.take n).drop (p+1)).length=n- (p+1):=by simp;omega
 have hT:(xs.take n).take p=xs.take p:=by rw[List.take_take,Nat.min_eq_left (by omega)]
 rw[hT]
 generalize(xs.take n).drop (p+1)=D at hD ⊢
 have hA:(app p D xs).length=xs.length:=by simp[app];omega
 refine⟨by omega,hA, ?_, ?_⟩
 ·simp[clr,D0,I8,hA];omega
 ·simp only[clr,D0,I8,G46]
  rw[Hb4 (by simp[hA];omega),List.take_take,Nat.min_self]
  simp only[app]
  rw[Hb4 (by simp;omega),G40 (by simp;omega)]
def bi:Option Nat→Int
 |none=> -1
 |some p=> (p:Int)
def lv (n i:Nat):Nat:=(n+1-i)*(n+2)
theorem F22 {n i:Nat} (h:i≤n):lv n i=lv n (i+1)+(n+2):=by
 unfold lv
 have e1:n+1-i=(n-i)+1:=by omega
 have e2:n+1- (i+1)=n-i:=by omega
 rw[e1,e2,Nat.succ_mul]
theorem D24 {α:Type} (d:α) (xs:List α) {n i:Nat} (h:i<n):rd d (xs.take n) i=rd d xs i:=by simp[rd,List.getElem?_take,h]
theorem Co4 (cur:List A0) {i:Nat} (h:i<cur.length):(cur.take (i+1)).map (λe=>e.1)=(cur.take i).map (λe=>e.1)++ [(rd A4 cur i).1]:=by
 rw[G88 h,G64,C2 h];rfl
theorem F84 (es:List A0) (hc:Ay8 es) (hz:NoZ es) (s:List A1) (hs:s.length≤1048576) (L:List Int) (hL:∀x∈L,found es x) (hLl:L.length≤100000) (ms:List (Int×List Int)):
  ∀(xs:List A0) (m:Nat) (out:List Int),m≤xs.length→xs.length≤100000→LeftI es L out (xs.take m)→MapI es ms (xs.take m)→Re (λx:Nat×Nat=>Ar0 x.1 x.2 es s m xs out ms) (λr=>r=H8 es s L m out):=by
 have main:=Re.wf (l:=λk n (st:(List A0×Nat×List Int) ⊕ (List A0×Nat×List Int×Option Nat×Nat) ⊕ (List A0×Nat×List Int×Option Nat×Nat×Nat))=>match st with
   | .inl (xs,m,out)=>Ar0 k n es s m xs out ms
   | .inr (.inl (xs,m,out,q,i))=>Ag6 k n es s m (bi q) (i:Int) xs out ms
   | .inr (.inr (xs,m,out,q,i,j))=>A57 k n m (j:Int) xs (i:Int) out ms es s (bi q))
  (I:=λst=>match st with
   | .inl (xs,m,out)=>m≤xs.length∧xs.length≤100000∧LeftI es L out (xs.take m)∧MapI es ms (xs.take m)
   | .inr (.inl (xs,m,out,q,i))=> (m≤xs.length∧xs.length≤100000∧LeftI es L out (xs.take m)∧MapI es ms (xs.take m))∧i≤m∧(∀p,q=some p→p<i)∧(((xs.take m).take i).map λe=>e.1).foldl (E4 es s L out) none=(q.map λp=>rd A4 (xs.take m) p)
   | .inr (.inr (xs,m,out,q,i,j))=> (m≤xs.length∧xs.length≤100000∧LeftI es L out (xs.take m)∧MapI es ms (xs.take m))∧i<m∧(∀p,q=some p→p<i)∧(((xs.take m).take i).map λe=>e.1).foldl (E4 es s L out) none=(q.map λp=>rd A4 (xs.take m) p)∧j≤m∧∀j2,j2<j→(rd A4 (xs.take m) j2).1∉Ad9 [] ms (rd A4 (xs.take m) i).1)
  (λst=>match st with
   | .inl (xs,m,out)=> (m,lv m 0+1)
   | .inr (.inl (xs,m,out,q,i))=> (m,lv m i)
   | .inr (.inr (xs,m,out,q,i,j))=> (m,lv m (i+1)+(m+1-j)))
  (Q:=λst r=>match st with
   | .inl (xs,m,out)=>r=H8 es s L m out
   | .inr (.inl (xs,m,out,q,i))=>r=H8 es s L m out
   | .inr (.inr (xs,m,out,q,i,j))=>r=H8 es s L m out) (λst hi ih=>by
  rcases st with⟨xs,m,out⟩|⟨xs,m,out,q,i⟩|⟨xs,m,out,q,i,j⟩
  ·simp only at hi ih ⊢
   simp only[Fr7,Br9]
   exact ih (.inr (.inl (xs,m,out,none,0))) ⟨hi,G49 _,λp h=> (by cases h),rfl⟩ (.inr ⟨rfl,Hc7 _⟩)
  ·simp only at hi ih ⊢
   obtain⟨h0,h1,h2,h3⟩:=hi
   obtain⟨g0,g1,g2,g3⟩:=h0
   have hcl:(xs.take m).length=m:=by simp;omega
   simp only[Fr8,Bs0]
   refine Re.brd (λg=> ?_) (λg=> ?_)
   ·have hlt:i<m:=by omega
    refine Re.gdd (by omega) (Re.gdd g ?_)
    refine ih (.inr (.inr (xs,m,out,q,i,0))) ⟨⟨g0,g1,g2,g3⟩,hlt,h2,h3,G49 _,λj2 h=>by omega⟩ (.inr ⟨rfl, ?_⟩)
    have:=F22 (n:=m) (i:=i) (by omega)
    simp only;omega
   ·have hi2:i=m:=by omega
    rw[G40 (by omega),Et7 g2 hL]at h3
    cases q with
    |none=>
     refine Re.brd (λ_=>Re.ret ?_) (λh=>absurd (show(-1:Int)<0 by omega) h)
     exact(F19 h3 _).symm
    |some p=>
     have hp:p<m:=by have:=h2 p rfl;omega
     have hpc:p< (xs.take m).length:=by omega
     have hol:out.length≤100000:=by have:=g2.len;omega
     simp only[bi,B2 (show p<m from hp) (by omega),G33,G78]
     obtain⟨d1,d2,d3,d4⟩:=F21 xs m p g0 hp
     refine Re.brd (λh=>by omega) (λ_=> ?_)
     refine Re.gdd (by omega) (Re.gdd (by omega) (Re.gdd (by simp only[G57];unfold A5;omega) (Re.gdd (by omega) (Re.gdd (by omega) (Re.gdd (by omega) (Re.gdd (by omega) (Re.gdd (by omega) (Re.gdd (by omega) ?_))))))))
     refine Re.bre (λh=>by omega) (λ_=> ?_)
     refine Re.gdd (by omega) (Re.gdd (by omega) (Re.gdd (by omega) (Re.gdd (by omega) ?_)))
     refine Re.brd (λ_=> ?_) (λh=>by omega)
     refine Re.gdd (by omega) (Re.gdd (by omega) (Re.gdd (by omega) (Re.gdd (by omega) ?_)))
     have e9:(rd A4 xs p).1=(rd A4 (xs.take m) p).1:=by rw[D24 _ _ hp]
     rw[e9]
     have hdel:=g2.del hpc
     have hdm:=g3.del p
     rw[←d4]at hdel hdm
     refine(ih (.inl (_,_,out++ [(rd A4 (xs.take m) p).1])) ⟨by rw[d3];omega,by rw[d3];exact g1,hdel,hdm⟩ (.inl (by simp only;omega))).mono λr hr=> ?_
     simp only at hr
     rw[hr,d1]
     obtain⟨f,hf⟩:∃f,m=f+1:=⟨m-1,by omega⟩
     rw[hf,F20 h3]
     have e10:f+1-1=f:=by omega
     rw[e10,←hf]
  ·simp only at hi ih ⊢
   obtain⟨h0,h1,h2,h3,h4,h5⟩:=hi
   obtain⟨g0,g1,g2,g3⟩:=h0
   have hcl:(xs.take m).length=m:=by simp;omega
   have hic:i< (xs.take m).length:=by omega
   have hmem:rd A4 (xs.take m) i∈(xs.take m):=by rw[C2 hic];exact G47 _
   have hA:=g3 _ hmem
   have hev:=g2.ev _ hmem
   have ei:rd A4 xs i=rd A4 (xs.take m) i:=by rw[D24 _ _ h1]
   have h6:(((xs.take m).take (i+1)).map λe=>e.1).foldl (E4 es s L out) none=E4 es s L out (q.map λp=>rd A4 (xs.take m) p) (rd A4 (xs.take m) i).1:=by rw[Co4 _ hic,Hc1,h3];rfl
   have next:∀q2:Option Nat,(∀p,q2=some p→p<i+1)→E4 es s L out (q.map λp=>rd A4 (xs.take m) p) (rd A4 (xs.take m) i).1=(q2.map λp=>rd A4 (xs.take m) p)→Re (λx:Nat×Nat=>Ag6 x.1 x.2 es s m (bi q2) ((i+1:Nat):Int) xs out ms) (λr=>r=H8 es s L m out):=λq2 e1 e2=>by
    refine ih (.inr (.inl (xs,m,out,q2,i+1))) ⟨⟨g0,g1,g2,g3⟩,by omega,e1,by rw[h6,e2]⟩ (.inr ⟨rfl, ?_⟩)
    simp only;omega
   have same:Am8 es L out (rd A4 (xs.take m) i).1=false→Re (λx:Nat×Nat=>Ag6 x.1 x.2 es s m (bi q) ((i+1:Nat):Int) xs out ms) (λr=>r=H8 es s L m out):=λhf=>next q (λp h=>by have:=h2 p h;omega) (by unfold E4;rw[hf];rfl)
   simp only[Fr9,Bs1]
   rw[G33,G33,B2 (show i<m from h1) (by omega),ei]
   refine Re.brd (λg=> ?_) (λg=> ?_)
   ·have hj:j<m:=by omega
    have ej:rd A4 xs j=rd A4 (xs.take m) j:=by rw[D24 _ _ hj]
    rw[ej,B2 hj (by omega)]
    have hle:=hA.len
    have hcs:=hc.1
    refine Re.gdd (by omega) (Re.gdd g (Re.c2 (g9 _ (by omega) _) ?_))
    refine Re.brd (λhin=> ?_) (λhin=> ?_)
    ·refine Re.br (λh=>by simp at h) (λ_=>same ?_)
     cases hcd:Am8 es L out (rd A4 (xs.take m) i).1 with
     |false=>rfl
     |true=>exact absurd hin ((Ck5 g2 hmem hA).1 hcd _ (by rw[C2 (show j< (xs.take m).length by omega)];exact G47 _))
    ·refine ih (.inr (.inr (xs,m,out,q,i,j+1))) ⟨⟨g0,g1,g2,g3⟩,h1,h2,h3,by omega,λj2 hj2=> ?_⟩ (.inr ⟨rfl,by simp only;omega⟩)
     by_cases e:j2=j
     ·rw[e];exact hin
     ·exact h5 j2 (by omega)
   ·have hcd:Am8 es L out (rd A4 (xs.take m) i).1=true:=(Ck5 g2 hmem hA).2 λf hf=>by
     obtain⟨j2,hj2,rfl⟩:=G63 hf
     have:=h5 j2 (by omega)
     rw[C2 hj2]at this;exact this
    have take:E4 es s L out (q.map λp=>rd A4 (xs.take m) p) (rd A4 (xs.take m) i).1=(match q with|none=>some (rd A4 (xs.take m) i)|some p=>bif Q7 es s (rd A4 (xs.take m) i) (rd A4 (xs.take m) p)then some (rd A4 (xs.take m) i)else some (rd A4 (xs.take m) p)):=by
     unfold E4
     rw[hcd,←hev.1]
     cases q<;>rfl
    cases q with
    |none=>
     refine Re.brd (λ_=>next (some i) (λp h=>by cases h;omega) take) (λh=>absurd (show(-1:Int)<0 by omega) h)
    |some p=>
     have hp:=h2 p rfl
     have ep:rd A4 xs p=rd A4 (xs.take m) p:=by rw[D24 _ _ (by omega)]
     refine Re.brd (λh=>by simp only[bi]at h;omega) (λ_=> ?_)
     simp only[bi,G33]
     rw[ep]
     refine Re.gdd (by omega) (Re.gdd (by omega) (Re.c2 (C76 es hc hz s hs _ _) ?_))
     refine Re.br (λhh=>next (some i) (λp h=>by cases h;omega) ?_) (λhh=>next (some p) (λp h=>by cases h;omega) ?_)
     ·rw[take];simp only;rw[hh];rfl
     ·rw[take];simp only;rw[hh];rfl)
 intro xs m out a1 a2 a3 a4
 exact main (.inl (xs,m,out)) ⟨a1,a2,a3,a4⟩
theorem Fg9 (es:List A0) (hc:Ay8 es) (hz:NoZ es) (s:List A1) (hs:s.length≤1048576) (L:List Int) (hL:∀x∈L,found es x) (hLl:L.length≤100000) (ms:List (Int×List Int)):
  ∀(xs:List A0) (out:List Int),xs.length≤100000→LeftI es L out xs→MapI es ms xs→Re (λx:Nat×Nat=>w5 x.1 x.2 es s xs out ms) (λr=>r=H8 es s L xs.length out):=by
 have main:=Re.wf (l:=λk n (st:(List A0×List Int) ⊕ (List A0×List Int×Option Nat×Nat) ⊕ (List A0×List Int×Option Nat×Nat×Nat))=>match st with
   | .inl (xs,out)=>w5 k n es s xs out ms
   | .inr (.inl (xs,out,q,i))=>Ag5 k n es s (bi q) xs (i:Int) out ms
   | .inr (.inr (xs,out,q,i,j))=>A56 k n xs (j:Int) (i:Int) out ms es s (bi q))
  (I:=λst=>match st with
   | .inl (xs,out)=>xs.length≤100000∧LeftI es L out xs∧MapI es ms xs
   | .inr (.inl (xs,out,q,i))=> (xs.length≤100000∧LeftI es L out xs∧MapI es ms xs)∧i≤xs.length∧(∀p,q=some p→p<i)∧((xs.take i).map λe=>e.1).foldl (E4 es s L out) none=(q.map λp=>rd A4 xs p)
   | .inr (.inr (xs,out,q,i,j))=> (xs.length≤100000∧LeftI es L out xs∧MapI es ms xs)∧i<xs.length∧(∀p,q=some p→p<i)∧((xs.take i).map λe=>e.1).foldl (E4 es s L out) none=(q.map λp=>rd A4 xs p)∧j≤xs.length∧∀j2,j2<j→(rd A4 xs j2).1∉Ad9 [] ms (rd A4 xs i).1)
  (λst=>match st with
   | .inl (xs,out)=> (xs.length,lv xs.length 0+1)
   | .inr (.inl (xs,out,q,i))=> (xs.length,lv xs.length i)
   | .inr (.inr (xs,out,q,i,j))=> (xs.length,lv xs.length (i+1)+(xs.length+1-j)))
  (Q:=λst r=>match st with
   | .inl (xs,out)=>r=H8 es s L xs.length out
   | .inr (.inl (xs,out,q,i))=>r=H8 es s L xs.length out
   | .inr (.inr (xs,out,q,i,j))=>r=H8 es s L xs.length out) (λst hi ih=>by
  rcases st with⟨xs,out⟩|⟨xs,out,q,i⟩|⟨xs,out,q,i,j⟩
  ·simp only at hi ih ⊢
   simp only[Fr4,Br6]
   exact ih (.inr (.inl (xs,out,none,0))) ⟨hi,G49 _,λp h=> (by cases h),rfl⟩ (.inr ⟨rfl,Hc7 _⟩)
  ·simp only at hi ih ⊢
   obtain⟨h0,h1,h2,h3⟩:=hi
   obtain⟨g1,g2,g3⟩:=h0
   have hcl:xs.length=xs.length:=rfl
   simp only[Fr5,Br7]
   refine Re.brd (λg=> ?_) (λg=> ?_)
   ·have hlt:i<xs.length:=by omega
    refine Re.gdd (by omega) (Re.gdd g ?_)
    refine ih (.inr (.inr (xs,out,q,i,0))) ⟨⟨g1,g2,g3⟩,hlt,h2,h3,G49 _,λj2 h=>by omega⟩ (.inr ⟨rfl, ?_⟩)
    have:=F22 (n:=xs.length) (i:=i) (by omega)
    simp only;omega
   ·have hi2:i=xs.length:=by omega
    rw[G40 (by omega),Et7 g2 hL]at h3
    cases q with
    |none=>
     refine Re.brd (λ_=>Re.ret ?_) (λh=>absurd (show(-1:Int)<0 by omega) h)
     exact(F19 h3 _).symm
    |some p=>
     have hp:p<xs.length:=by have:=h2 p rfl;omega
     have hpc:p<xs.length:=by omega
     have hol:out.length≤100000:=by have:=g2.len;omega
     simp only[bi,B2 (show p<xs.length from hp) (by omega),G33,G78]
     obtain⟨d1,d2,d3,d4⟩:=F21 xs xs.length p (G53 _) hp
     rw[Hc8]at d1 d2 d3 d4
     refine Re.brd (λh=>by omega) (λ_=> ?_)
     refine Re.gdd (by omega) (Re.gdd (by omega) (Re.gdd (by simp only[G57];unfold A5;omega) (Re.gdd (by omega) (Re.gdd (by omega) (Re.gdd (by omega) (Re.gdd (by omega) (Re.gdd (by omega) (Re.gdd (by omega) ?_))))))))
     refine Re.bre (λh=>by omega) (λ_=> ?_)
     refine Re.gdd (by omega) (Re.gdd (by omega) (Re.gdd (by omega) (Re.gdd (by omega) ?_)))
     refine Re.brd (λ_=> ?_) (λh=>by omega)
     refine Re.gdd (by omega) (Re.gdd (by omega) (Re.gdd (by omega) (Re.gdd (by omega) ?_)))
     have e9:(rd A4 xs p).1=(rd A4 xs p).1:=by rfl
     rw[e9]
     have hdel:=g2.del hpc
     have hdm:=g3.del p
     rw[←d4]at hdel hdm
     refine(F84 es hc hz s hs L hL hLl ms _ _ (out++ [(rd A4 xs p).1]) (by rw[d3];omega) (by rw[d3];exact g1) hdel hdm).mono λr hr=> ?_
     rw[hr,d1]
     obtain⟨f,hf⟩:∃f,xs.length=f+1:=⟨xs.length-1,by omega⟩
     rw[hf,F20 h3]
     have e10:f+1-1=f:=by omega
     simp only[e10]
  ·simp only at hi ih ⊢
   obtain⟨h0,h1,h2,h3,h4,h5⟩:=hi
   obtain⟨g1,g2,g3⟩:=h0
   have hcl:xs.length=xs.length:=rfl
   have hic:i<xs.length:=by omega
   have hmem:rd A4 xs i∈xs:=by rw[C2 hic];exact G47 _
   have hA:=g3 _ hmem
   have hev:=g2.ev _ hmem
   have ei:rd A4 xs i=rd A4 xs i:=by rfl
   have h6:((xs.take (i+1)).map λe=>e.1).foldl (E4 es s L out) none=E4 es s L out (q.map λp=>rd A4 xs p) (rd A4 xs i).1:=by rw[Co4 _ hic,Hc1,h3];rfl
   have next:∀q2:Option Nat,(∀p,q2=some p→p<i+1)→E4 es s L out (q.map λp=>rd A4 xs p) (rd A4 xs i).1=(q2.map λp=>rd A4 xs p)→Re (λx:Nat×Nat=>Ag5 x.1 x.2 es s (bi q2) xs ((i+1:Nat):Int) out ms) (λr=>r=H8 es s L xs.length out):=λq2 e1 e2=>by
    refine ih (.inr (.inl (xs,out,q2,i+1))) ⟨⟨g1,g2,g3⟩,by omega,e1,by rw[h6,e2]⟩ (.inr ⟨rfl, ?_⟩)
    simp only;omega
   have same:Am8 es L out (rd A4 xs i).1=false→Re (λx:Nat×Nat=>Ag5 x.1 x.2 es s (bi q) xs ((i+1:Nat):Int) out ms) (λr=>r=H8 es s L xs.length out):=λhf=>next q (λp h=>by have:=h2 p h;omega) (by unfold E4;rw[hf];rfl)
   simp only[Fr6,Br8]
   rw[G33,G33,B2 (show i<xs.length from h1) (by omega),ei]
   refine Re.brd (λg=> ?_) (λg=> ?_)
   ·have hj:j<xs.length:=by omega
    have ej:rd A4 xs j=rd A4 xs j:=by rfl
    rw[ej,B2 hj (by omega)]
    have hle:=hA.len
    have hcs:=hc.1
    refine Re.gdd (by omega) (Re.gdd g (Re.c2 (g9 _ (by omega) _) ?_))
    refine Re.brd (λhin=> ?_) (λhin=> ?_)
    ·refine Re.br (λh=>by simp at h) (λ_=>same ?_)
     cases hcd:Am8 es L out (rd A4 xs i).1 with
     |false=>rfl
     |true=>exact absurd hin ((Ck5 g2 hmem hA).1 hcd _ (by rw[C2 (show j<xs.length by omega)];exact G47 _))
    ·refine ih (.inr (.inr (xs,out,q,i,j+1))) ⟨⟨g1,g2,g3⟩,h1,h2,h3,by omega,λj2 hj2=> ?_⟩ (.inr ⟨rfl,by simp only;omega⟩)
     by_cases e:j2=j
     ·rw[e];exact hin
     ·exact h5 j2 (by omega)
   ·have hcd:Am8 es L out (rd A4 xs i).1=true:=(Ck5 g2 hmem hA).2 λf hf=>by
     obtain⟨j2,hj2,rfl⟩:=G63 hf
     have:=h5 j2 (by omega)
     rw[C2 hj2]at this;exact this
    have take:E4 es s L out (q.map λp=>rd A4 xs p) (rd A4 xs i).1=(match q with|none=>some (rd A4 xs i)|some p=>bif Q7 es s (rd A4 xs i) (rd A4 xs p)then some (rd A4 xs i)else some (rd A4 xs p)):=by
     unfold E4
     rw[hcd,←hev.1]
     cases q<;>rfl
    cases q with
    |none=>
     refine Re.brd (λ_=>next (some i) (λp h=>by cases h;omega) take) (λh=>absurd (show(-1:Int)<0 by omega) h)
    |some p=>
     have hp:=h2 p rfl
     have ep:rd A4 xs p=rd A4 xs p:=by rfl
     refine Re.brd (λh=>by simp only[bi]at h;omega) (λ_=> ?_)
     simp only[bi,G33]
     rw[ep]
     refine Re.gdd (by omega) (Re.gdd (by omega) (Re.c2 (C76 es hc hz s hs _ _) ?_))
     refine Re.br (λhh=>next (some i) (λp h=>by cases h;omega) ?_) (λhh=>next (some p) (λp h=>by cases h;omega) ?_)
     ·rw[take];simp only;rw[hh];rfl
     ·rw[take];simp only;rw[hh];rfl)
 intro xs out a2 a3 a4
 exact main (.inl (xs,out)) ⟨a2,a3,a4⟩
theorem Ft9 (es:List A0) (hc:Ay8 es) (hz:NoZ es) (hp:∀y,(F2 es y).length≤1048576) (s:List A1) (hs:s.length≤1048576) (ids:List Int) (hi:ids.length≤100000):Ev (λk=>E08 k es s ids) (Z0 es s ids):=by
 have hes:=hc.1
 have hLl:(Aa2 es ids).length≤100000:=by have:=B21 es ids [];unfold Aa2;simp at this;omega
 obtain⟨hLn,hLm⟩:=As1 es ids
 have rounds:∀(left:List A0) (ms:List (Int×List Int)),(left.map λe=>e.1).Nodup→(∀x,x∈left.map (λe=>e.1)↔x∈ids∧found es x)→(∀e∈left,e=(C5 es e.1).1∧found es e.1)→left.length≤100000→MapI es ms left→
   Re (λx:Nat×Nat=>w5 x.1 x.2 es s left [] ms) (λr=>r=Z0 es s ids):=λleft ms h1 h2 h3 h4 h5=>by
  have hll:left.length=(Aa2 es ids).length:=by
   have:=F83 h1 hLn λx=> (h2 x).trans (hLm x).symm
   simpa using this
  have:=Fg9 es hc hz s hs (Aa2 es ids) (λx hx=> ((hLm x).1 hx).2) hLl ms left [] h4 ⟨h1,λx=>by rw[h2 x,hLm x];simp,h3,by simpa using hll⟩ h5
  rw[hll]at this
  exact this
 have maps:∀(left:List A0),(left.map λe=>e.1).Nodup→(∀x,x∈left.map (λe=>e.1)↔x∈ids∧found es x)→(∀e∈left,e=(C5 es e.1).1∧found es e.1)→left.length≤100000→
   Re (λx:Nat×Nat=>Ag7 x.1 x.2 es s left 0 []) (λr=>r=Z0 es s ids):=λleft h1 h2 h3 h4=>by
  have:=Re.loop (ι:=Nat) (l:=λk n (st:Nat×List (Int×List Int))=>Ag7 k n es s left (st.1:Int) st.2) (I:=λst=>st.1≤left.length∧∀j,j<st.1→AncL es (rd A4 left j).1 (Ad9 [] st.2 (rd A4 left j).1)) (λst=>left.length-st.1) (Q:=λ_ r=>r=Z0 es s ids) (λst hi2 ih=>by
   obtain⟨i,ms⟩:=st
   obtain⟨g1,g2⟩:=hi2
   simp only at g1 g2 ih ⊢
   simp only[Ag7,Cv3]
   refine Re.brd (λg=> ?_) (λg=> ?_)
   ·have hl:i<left.length:=by omega
    refine Re.gdd (by omega) (Re.gdd g ?_)
    simp only[G33]
    rw[B2 hl (by omega)]
    refine Re.b2 (E33 es hc hp _) λr hr=> ?_
    refine ih (i+1,_) ⟨by simp only;omega,λj hj=> ?_⟩ (by simp only;omega)
    rw[Ec5]
    by_cases q:(rd A4 left j).1=(rd A4 left i).1
    ·rw[G45 q,q];exact hr
    ·rw[G41 q]
     refine g2 j ?_
     have:j≠i:=λe=>q (by rw[e])
     simp only at hj;omega
   ·refine rounds left ms h1 h2 h3 h4 λe he=> ?_
    obtain⟨j,hj,rfl⟩:=G63 he
    have:=g2 j (by omega)
    rw[C2 hj]at this;exact this) (0,[]) ⟨G49 _,λj hj=>by omega⟩
  exact this
 refine Re.eq (Re.enter (f:=λk n=>w7 k n es s ids 0 []) B9 ?_)
 have:=Re.wf (l:=λk n (st:(Nat×List A0) ⊕ (Nat×List A0×Nat))=>match st with
   | .inl (i,left)=>w7 k n es s ids (i:Int) left
   | .inr (i,left,j)=>A58 k n left (j:Int) ids (i:Int) (C5 es (rd 0 ids i)) es s)
  (I:=λst=>match st with
   | .inl (i,left)=>i≤ids.length∧(left.map λe=>e.1).Nodup∧(∀x,x∈left.map (λe=>e.1)↔x∈ids.take i∧found es x)∧(∀e∈left,e=(C5 es e.1).1∧found es e.1)
   | .inr (i,left,j)=>i<ids.length∧(left.map λe=>e.1).Nodup∧(∀x,x∈left.map (λe=>e.1)↔x∈ids.take i∧found es x)∧(∀e∈left,e=(C5 es e.1).1∧found es e.1)∧j≤left.length∧found es (rd 0 ids i)∧∀j2,j2<j→(rd A4 left j2).1≠rd 0 ids i)
  (λst=>match st with
   | .inl (i,left)=> (ids.length-i,left.length+2)
   | .inr (i,left,j)=> (ids.length-i,left.length-j+1)) (Q:=λ_ r=>r=Z0 es s ids) (λst hi2 ih=>by
  rcases st with⟨i,left⟩|⟨i,left,j⟩
  ·simp only at hi2 ih ⊢
   obtain⟨h0,h1,h2,h3⟩:=hi2
   have h4:left.length≤100000:=by
    have:=Am7 (left.map λe=>e.1) (es.map λe=>e.1) h1 λx hx=>A38 ((h2 x).1 hx).2
    simp at this;omega
   simp only[Fs0,Bs2]
   refine Re.brd (λg=> ?_) (λg=> ?_)
   ·have hl:i<ids.length:=by omega
    refine Re.gdd (by omega) (Re.gdd g ?_)
    simp only[G33]
    rw[B2 hl (by omega)]
    refine Re.c2 (As2 es hc _) ?_
    refine Re.br (λhf=> ?_) (λhf=> ?_)
    ·exact ih (.inr (i,left,0)) ⟨hl,h1,h2,h3,G49 _,hf,λj2 h=>by omega⟩ (.inr ⟨rfl,by simp only;omega⟩)
    ·refine ih (.inl (i+1,left)) ⟨by omega,h1,λx=> ?_,h3⟩ (.inl (by simp only;omega))
     rw[h2 x,T7 hl,G34,G48]
     constructor
     ·exactλ⟨a,b⟩=> ⟨.inl a,b⟩
     ·rintro⟨a|a,b⟩
      ·exact⟨a,b⟩
      ·subst a;unfold found at b;rw[hf]at b;cases b
   ·rw[G40 (by omega)]at h2
    exact maps left h1 h2 h3 h4
  ·simp only at hi2 ih ⊢
   obtain⟨h0,h1,h2,h3,h5,h6,h7⟩:=hi2
   have h4:left.length≤100000:=by
    have:=Am7 (left.map λe=>e.1) (es.map λe=>e.1) h1 λx hx=>A38 ((h2 x).1 hx).2
    simp at this;omega
   have tk:=T7 h0
   simp only[Fs1,Bs3]
   rw[G33,G33,B2 h0 (by omega)]
   have add:rd 0 ids i∉left.map (λe=>e.1)→Re (λx:Nat×Nat=>gd (decide (left.length+([(C5 es (rd 0 ids i)).1]:List A0).length≤A5)) (w7 x.1 x.2 es s ids ((i+1:Nat):Int) (left++([(C5 es (rd 0 ids i)).1]:List A0)))) (λr=>r=Z0 es s ids):=λhn=>by
    refine Re.gdd (by simp only[G57];unfold A5;omega) ?_
    have hid:=B95 h6
    refine ih (.inl (i+1,left++ [(C5 es (rd 0 ids i)).1])) ⟨by omega, ?_,λx=> ?_,λe he=> ?_⟩ (.inl (by simp only;omega))
    ·rw[G64]
     refine Ha5.2 ⟨h1,by simp,λa ha b hb=> ?_⟩
     simp[hid]at hb;subst hb
     exactλe=>hn (e▸ha)
    ·rw[G64,G34,h2 x,tk,G34,G48]
     simp only[G95,List.map_nil,G48,hid]
     constructor
     ·rintro(⟨a,b⟩|a)
      ·exact⟨.inl a,b⟩
      ·exact⟨.inr a,by rw[a];exact h6⟩
     ·rintro⟨a|a,b⟩
      ·exact .inl ⟨a,b⟩
      ·exact .inr a
    ·rcases G34.1 he with q|q
     ·exact h3 e q
     ·simp at q;subst q
      rw[hid];exact⟨rfl,h6⟩
   refine Re.brd (λg=> ?_) (λg=> ?_)
   ·have hj:j<left.length:=by omega
    rw[B2 hj (by omega)]
    refine Re.gdd (by omega) (Re.gdd g ?_)
    refine Re.bre (λq=> ?_) (λq=> ?_)
    ·refine Re.br (λh=>by simp at h) (λ_=> ?_)
     refine ih (.inl (i+1,left)) ⟨by omega,h1,λx=> ?_,h3⟩ (.inl (by simp only;omega))
     rw[h2 x,tk,G34,G48]
     constructor
     ·exactλ⟨a,b⟩=> ⟨.inl a,b⟩
     ·rintro⟨a|a,b⟩
      ·exact⟨a,b⟩
      ·refine(h2 x).1 ?_
       rw[a,←q,C2 hj]
       exact List.mem_map_of_mem (G47 hj)
    ·refine ih (.inr (i,left,j+1)) ⟨h0,h1,h2,h3,by omega,h6,λj2 hj2=> ?_⟩ (.inr ⟨rfl,by simp only;omega⟩)
     by_cases e:j2=j
     ·rw[e];exact q
     ·exact h7 j2 (by omega)
   ·refine add λhm=> ?_
    obtain⟨e,he,h8⟩:=G79.1 hm
    obtain⟨j2,hj2,rfl⟩:=G63 he
    exact h7 j2 (by omega) (by rw[C2 hj2];exact h8)) (.inl (0,[])) ⟨G49 _,by simp,λx=>by simp,λe he=>by simp at he⟩
 exact this
end Go.Vm
end
section
namespace Go.Vm
open Go
noncomputable def Ae2 (r:A6):List A1:=(H2 r (W4 r.1)).1
theorem Bu9 (r:A6) (h:RoomI r):(W4 r.1).length≤40:=by
 have:=Am5 r.1 r.1 []
 have:=h.len
 unfold W4;simp at*;omega
theorem Co5 {r:A6} (h:RoomI r):(Ae2 r).length≤16:=A72 h (by have:=Bu9 r h;omega)
theorem E34 (r:A6) (h:RoomI r):Ev (λk=>Di3 k r) (Ae2 r):=by
 refine Re.eq (Re.c1 (Dq8 r h.prevS) (Re.c1 (Ec4 r h _ (by have:=Bu9 r h;omega)) (Re.ret rfl)))
end Go.Vm
end
section
namespace Go.Vm
open Go
def Asc (xs:List Int):Prop:=xs.Pairwise (· < ·)
theorem Ck6 (y:Int):∀(xs:List Int) (d:Bool),Asc xs→Asc (U3 y xs d)
 | [],d,_=>by cases d<;>simp[U3,Asc]
 |x::xs,d,h=>by
  have hx:=Hc6.1 h
  have h1:=Ck6 y xs true hx.2
  have h2:=Ck6 y xs d hx.2
  unfold U3
  by_cases q:x≥y∧d=false
  ·rw[G45 q]
   have hy:∀z∈U3 y xs true,x<z:=λz hz=>by
    rw[Aj5]at hz;simp at hz;exact hx.1 z hz.1
   by_cases q2:x=y
   ·rw[G45 q2];exact Hc6.2 ⟨λz hz=>by have:=hy z hz;omega,h1⟩
   ·rw[G41 q2]
    refine Hc6.2 ⟨λz hz=> ?_,Hc6.2 ⟨hy,h1⟩⟩
    rcases G67.1 hz with e|e
    ·omega
    ·have:=hy z e;omega
  ·rw[G41 q]
   by_cases q2:x=y
   ·rw[G45 q2];exact h2
   ·rw[G41 q2]
    refine Hc6.2 ⟨λz hz=> ?_,h2⟩
    rw[Aj5]at hz
    rcases hz with hz|hz
    ·exact hx.1 z hz.1
    ·have:¬x≥y:=λg=>q ⟨g,hz.1⟩
     omega
theorem D25:∀{a b:List Int},Asc a→Asc b→(∀x,x∈a↔x∈b)→a=b
 | [],[],_,_,_=>rfl
 | [],y::b,_,_,h=>by have:=(h y).2 (G39 ..);simp at this
 |x::a,[],_,_,h=>by have:=(h x).1 (G39 ..);simp at this
 |x::a,y::b,ha,hb,h=>by
  have h1:=Hc6.1 ha
  have h2:=Hc6.1 hb
  have e:x=y:=by
   rcases G67.1 ((h x).1 (G39 ..))with q|q
   ·exact q
   ·rcases G67.1 ((h y).2 (G39 ..))with q2|q2
    ·exact q2.symm
    ·have:=h2.1 x q
     have:=h1.1 y q2
     omega
  subst e
  rw[D25 h1.2 h2.2 λz=> ⟨λhz=>by
   rcases G67.1 ((h z).1 (G38 _ hz))with q|q
   ·have:=h1.1 z hz;omega
   ·exact q,λhz=>by
   rcases G67.1 ((h z).2 (G38 _ hz))with q|q
   ·have:=h2.1 z hz;omega
   ·exact q⟩]
theorem Et8 (es:List A0) (ids:List Int):Asc (Aa2 es ids):=by
 have:∀(xs a:List Int),Asc a→Asc (xs.foldl (R4 es) a):=by
  intro xs
  induction xs with
  |nil=>intro a h;exact h
  |cons y ys ih=>
   intro a h
   rw[Hd1]
   refine ih _ ?_
   unfold R4
   cases(C5 es y).2 with
   |false=>exact h
   |true=>exact Ck6 y a false h
 exact this ids [] (by simp[Asc])
theorem Fh0 (es:List A0) (s:List A1) {a b:List Int} (h:∀x,found es x→(x∈a↔x∈b)):Z0 es s a=Z0 es s b:=by
 have:Aa2 es a=Aa2 es b:=D25 (Et8 es a) (Et8 es b) λx=>by
  rw[(As1 es a).2,(As1 es b).2]
  exact⟨λ⟨g,k⟩=> ⟨(h x k).1 g,k⟩,λ⟨g,k⟩=> ⟨(h x k).2 g,k⟩⟩
 unfold Z0
 rw[this]
structure OrdI (es : List A0) (L out : List Int) : Prop where
 nd : out.Nodup
 sub : ∀ x ∈ out, x ∈ L
 ah : ∀ i, i < out.length → ∀ y, Anc es (rd 0 out i) y → y ∈ L → y ∈ out.take i
theorem OrdI.add {es:List A0} {L out:List Int} (h:OrdI es L out) {x:Int} (hx:x∈L) (hc:Am8 es L out x=true):OrdI es L (out++ [x]):=by
 refine⟨Ha5.2 ⟨h.nd,by simp,λa ha b hb=>by simp at hb;subst hb;exactλe=>Fg8 hc (e▸ha)⟩,λy hy=> ?_,λi hi y hy hl=> ?_⟩
 ·rcases G34.1 hy with hy|hy
  ·exact h.sub y hy
  ·simp at hy;subst hy;exact hx
 ·rw[C71]at hy
  by_cases q:i<out.length
  ·rw[G45 q]at hy
   rw[Hb4 (by omega)]
   exact h.ah i q y hy hl
  ·have e:i=out.length:=by simp at hi;omega
   rw[G41 q,G45 e]at hy
   rw[e,Hb4 (G53 _),Hc8]
   unfold Am8 Cw3 at hc
   rw[G37,@decide_eq_true_iff _ (Classical.propDecidable _)]at hc
   exact hc.2 y hy hl
theorem F85 {es:List A0} {s:List A1} {L out:List Int} (hL:∀x∈L,found es x) {b:A0} (h:pick es s L out=some b):b.1∈L∧Am8 es L out b.1=true:=by
 have:=Dk1 es s L out L hL
 unfold pick at h
 rw[h]at this
 obtain⟨x,hx,rfl,_⟩:=this
 rw[B95 (hL x hx.1)]
 exact hx
theorem Dr2 {es:List A0} {s:List A1} {L:List Int} (hL:∀x∈L,found es x):∀(f:Nat) (out:List Int),OrdI es L out→OrdI es L (H8 es s L f out)
 |0,out,h=>h
 |f+1,out,h=>by
  unfold H8
  cases hp:pick es s L out with
  |none=>exact h
  |some b=>
   obtain⟨h1,h2⟩:=F85 hL hp
   exact Dr2 hL f _ (h.add h1 h2)
theorem Fu0 (es:List A0) (s:List A1) (ids:List Int):OrdI es (Aa2 es ids) (Z0 es s ids):=
 Dr2 (λx hx=> ((As1 es ids).2 x|>.1 hx).2) _ _ ⟨by simp,λx hx=>by simp at hx,λi hi=>by simp at hi⟩
theorem Et9 {r:A6} {e:A0} (h:(K9 r e).2=true):(H2 r e.2.2.2.2.2.2.2.1).2=true∧J9 e=true∧Ad6 r.1 e.1<0∧e.2.2.2.2.2.2.2.2.1=Ad7 r.1 e.2.2.2.2.2.2.2.1∧r.1.length<40∧
  (K9 r e).1=(r.1++ [e],r.2.1++ [bif p9 r.1 (H2 r e.2.2.2.2.2.2.2.1).1 e&&A68 e !=0 then Cw2 (H2 r e.2.2.2.2.2.2.2.1).1 (A68 e) e.1 else(H2 r e.2.2.2.2.2.2.2.1).1],r.2.2.1++ [p9 r.1 (H2 r e.2.2.2.2.2.2.2.1).1 e],()):=by
 unfold K9 at h ⊢
 cases hq:(H2 r e.2.2.2.2.2.2.2.1).2&&(J9 e&&(decide (Ad6 r.1 e.1<0)&&(decide (e.2.2.2.2.2.2.2.2.1=Ad7 r.1 e.2.2.2.2.2.2.2.1)&&decide (r.1.length<40))))with
 |false=>rw[hq]at h;cases h
 |true=>
  simp only[G37,G81]at hq
  exact⟨hq.1,hq.2.1,hq.2.2.1,hq.2.2.2.1,hq.2.2.2.2,rfl⟩
end Go.Vm
end
section
namespace Go.Vm
open Go
theorem C77 (s:List A1) (h:s.length≤4194304):Ev (λk=>M0 k s) (Q6 s):=by
 refine Re.eq (Re.enter (f:=λk n=>R7 k n s 0) B9 ?_)
 have:=Re.loop (ι:=Nat) (l:=λk n (i:Nat)=>R7 k n s (i:Int)) (I:=λi=>i≤s.length∧∀j,j<i→Co0 (rd C0 s j).1=true∧(1≤(rd C0 s j).2.1∧(rd C0 s j).2.1≤1000000)∧(0<j→(rd C0 s (j-1)).1< (rd C0 s j).1)) (λi=>s.length-i) (Q:=λ_ v=>v=Q6 s) (λi hi ih=>by
  simp only[R7,Br4]
  refine Re.brd (λh1=> ?_) (λh1=>Re.ret ?_)
  ·have hl:i<s.length:=by omega
   refine Re.gdd (by omega) (Re.gdd h1 ?_)
   simp only[G33]
   rw[B2 hl (by omega)]
   have rest:Co0 (rd C0 s i).1=true→Re (λx:Nat×Nat=>bd (F7 x.1 (rd C0 s i).2.1 1 1000000) λr3=> (br (!r3) (some false) (br (decide ((i:Int)>0)) (gd (decide (0≤(B5 ((i:Int)-1)))) (gd (decide ((B5 ((i:Int)-1))< (s.length:Int))) (br (decide ((rd C0 s (B5 ((i:Int)-1)).toNat).1≥(rd C0 s i).1)) (some false) (R7 x.1 x.2 s ((i+1:Nat):Int))))) (R7 x.1 x.2 s ((i+1:Nat):Int))))) (λv=>v=Q6 s):=λg1=>by
    refine Re.s2 (O1 · _ _ _) ?_
    rw[Fg2]
    refine Re.br (λg=>Re.ret (g8 λhc=>by have:=(hc.2 i hl).2.1;rw[G54 this]at g;cases g).symm) (λg=> ?_)
    have g2:1≤(rd C0 s i).2.1∧(rd C0 s i).2.1≤1000000:=by simpa using g
    have next:(0<i→(rd C0 s (i-1)).1< (rd C0 s i).1)→Re (λx:Nat×Nat=>R7 x.1 x.2 s ((i+1:Nat):Int)) (λv=>v=Q6 s):=λg3=>ih (i+1) ⟨by omega,λj hj=>by
     by_cases q:j<i
     ·exact hi.2 j q
     ·have:j=i:=by omega
      subst this;exact⟨g1,g2,g3⟩⟩ (by omega)
    refine Re.brd (λq=> ?_) (λq=>next λh=>absurd (by omega) q)
    rw[Bj8 (by omega) (by omega)]
    refine Re.gdd (by omega) (Re.gdd (by omega) ?_)
    simp only[G33]
    exact Re.brd (λq=>Re.ret (g8 λhc=>by have:=(hc.2 i hl).2.2 (by omega);omega).symm) (λq=>next λ_=>by omega)
   refine Re.s2 (O1 · _ _ _) ?_
   refine Re.br (λg=> ?_) (λg=>rest ?_)
   ·refine Re.s2 (O1 · _ _ _) ?_
    refine Re.br (λg2=>Re.ret (g8 λhc=> ?_).symm) (λg2=>rest ?_)
    ·have:=(hc.2 i hl).1
     unfold Co0 at this
     simp at g g2
     rw[g,g2]at this;cases this
    ·unfold Co0
     have:W6 (rd C0 s i).1 11 15=true:=by simpa using g2
     rw[this,Bool.or_true]
   ·unfold Co0
    have:W6 (rd C0 s i).1 1 3=true:=by simpa using g
    rw[this,Bool.true_or]
  ·by_cases q:s.length≤8
   ·rw[G54 (by omega)]
    exact(Ax0.2 ⟨q,λj hj=>hi.2 j (by omega)⟩).symm
   ·rw[G55 (by omega)]
    exact(g8 λhc=>q hc.1).symm) 0 ⟨G49 _,λj hj=>by omega⟩
 exact this
theorem StP.asc {s:List A1} (h:StP s):∀i j,i<j→j<s.length→(rd C0 s i).1< (rd C0 s j).1:=by
 intro i j
 induction j with
 |zero=>intro h1;omega
 |succ j ih=>
  intro h1 h2
  have:=(h.2 (j+1) h2).2.2 (by omega)
  rw[Nat.add_sub_cancel]at this
  by_cases q:i=j
  ·rw[q];exact this
  ·have:=ih (by omega) (by omega);omega
theorem Ec6 {s:List A1} {k:Nat} {x:A1} (h:x∈s.drop k):∃j,k≤j∧j<s.length∧x=rd C0 s j:=by
 obtain⟨i,hi,rfl⟩:=G63 h
 have hi2:k+i<s.length:=by simp at hi;omega
 exact⟨k+i,by omega,hi2,by rw[List.getElem_drop,C2 hi2]⟩
theorem Gh7 {s:List A1} {k:Nat} {x:A1} (h:x∈s.take k):∃j,j<k∧j<s.length∧x=rd C0 s j:=by
 obtain⟨i,hi,rfl⟩:=G63 h
 have hi2:i<k∧i<s.length:=by simp at hi;omega
 exact⟨i,hi2.1,hi2.2,by rw[List.getElem_take,C2 hi2.2]⟩
theorem Eu0 {s:List A1} (h:StP s) {key:Int} {k:Nat} (hk:k≤s.length) (hlt:∀j,j<k→(rd C0 s j).1<key) (hge:k<s.length→key≤(rd C0 s k).1):
  s.filter (λx=>decide (x.1<key))=s.take k∧((k<s.length∧(rd C0 s k).1=key→s.filter (λx=>decide (x.1>key))=s.drop (k+1))∧((k<s.length→(rd C0 s k).1≠key)→s.filter (λx=>decide (x.1>key))=s.drop k)):=by
 have hasc:=h.asc
 have hd:∀x∈s.drop k,key≤x.1:=λx hx=>by
  obtain⟨j,h1,h2,rfl⟩:=Ec6 hx
  have:=hge (by omega)
  by_cases q:j=k
  ·rw[q];exact this
  ·have:=hasc k j (by omega) h2;omega
 have ht:∀x∈s.take k,x.1<key:=λx hx=>by
  obtain⟨j,h1,h2,rfl⟩:=Gh7 hx
  exact hlt j h1
 have e:s=s.take k++s.drop k:=(List.take_append_drop k s).symm
 refine⟨?_,λ⟨h1,h2⟩=> ?_,λh1=> ?_⟩
 ·conv=>lhs;rw[e]
  rw[G91,List.filter_eq_self.2 λx hx=>by simpa using ht x hx,List.filter_eq_nil_iff.2 λx hx=>by have:=hd x hx;simp;omega,G59]
 ·have hd2:∀x∈s.drop (k+1),key<x.1:=λx hx=>by
   obtain⟨j,h3,h4,rfl⟩:=Ec6 hx
   have:=hasc k j (by omega) h4;omega
  have ed:s.drop k=rd C0 s k::s.drop (k+1):=by rw[C2 h1];exact G89 h1
  conv=>lhs;rw[e]
  rw[G91,List.filter_eq_nil_iff.2 λx hx=>by have:=ht x hx;simp;omega,G60,ed,Ha7 (by simp;omega),List.filter_eq_self.2 λx hx=>by simpa using hd2 x hx]
 ·conv=>lhs;rw[e]
  rw[G91,List.filter_eq_nil_iff.2 λx hx=>by have:=ht x hx;simp;omega,G60,List.filter_eq_self.2 λx hx=> ?_]
  have h2:=hd x hx
  obtain⟨j,h3,h4,rfl⟩:=Ec6 hx
  have h5:=h1 (by omega)
  have h6:=hge (by omega)
  by_cases q:j=k
  ·rw[q];simp;omega
  ·have:=hasc k j (by omega) h4;simp;omega
theorem Fh1 (s:List A1) (h:s.length≤1048576) (key id:Int):Ev (λk=>F16 k s key id) (Cw2 s key id):=by
 refine Re.eq (Re.gdd (by unfold A5;omega) (Re.enter (f:=λk n=>Bk7 k n s key id 0) B9 ?_))
 have fin:∀out:List A1,out.length≤4194304→(StP s→out=Ax8 s key id)→Re (λx:Nat×Nat=>bd (M0 x.1 s) λr1=> (br (!r1) (gd (decide (s.length≤A5)) (some s)) (bd (M0 x.1 out) λr2=> (br (!r2) (gd (decide (s.length≤A5)) (some s)) (some out))))) (λv=>v=Cw2 s key id):=λout ho hout=>by
  refine Re.c2 (C77 s (by omega)) ?_
  unfold Cw2
  cases hs:Q6 s with
  |false=>exact Re.gdd (by unfold A5;omega) (Re.ret rfl)
  |true=>
   rw[←hout (Ax0.1 hs)]
   refine Re.br (b:=false) (λh=>by cases h) (λ_=>Re.c2 (C77 out ho) ?_)
   cases Q6 out with
   |false=>exact Re.gdd (by unfold A5;omega) (Re.ret rfl)
   |true=>exact Re.ret rfl
 have:=Re.loop (ι:=Nat) (l:=λk n (i:Nat)=>Bk7 k n s key id (i:Int)) (I:=λi=>i≤s.length∧∀j,j<i→(rd C0 s j).1<key) (λi=>s.length-i) (Q:=λ_ v=>v=Cw2 s key id) (λi hi ih=>by
  obtain⟨g1,g2⟩:=hi
  simp only[Bk7,D90]
  have ins:(i<s.length→key≤(rd C0 s i).1)→(i<s.length→(rd C0 s i).1≠key)→Re (λx:Nat×Nat=>bd (D8 x.1 s (i:Int) ([(key,id,())]:List A1)) λr3=> (bd (M0 x.1 s) λr4=> (br (!r4) (gd (decide (s.length≤A5)) (some s)) (bd (M0 x.1 r3) λr5=> (br (!r5) (gd (decide (s.length≤A5)) (some s)) (some r3)))))) (λv=>v=Cw2 s key id):=λh1 h2=>by
   have hins:∀k,D8 k s (i:Int) ([(key,id,())]:List A1)=some (s.take i++ [(key,id,())]++s.drop i):=λk=>by
    show Fp0 s (i:Int) _=_
    unfold Fp0
    rw[G45 ⟨by omega,by omega,rfl,by omega⟩,G33]
   refine Re.s2 hins ?_
   ·refine fin _ (by simp;omega) λhst=> ?_
    obtain⟨p1,_,p3⟩:=Eu0 hst g1 g2 h1
    unfold Ax8
    rw[p1,p3 h2]
  refine Re.brd (λq=> ?_) (λq=> ?_)
  ·have hl:i<s.length:=by omega
   refine Re.gdd (by omega) (Re.gdd q ?_)
   simp only[G33]
   refine Re.brd (λq2=> ?_) (λq2=> ?_)
   ·rw[B2 hl (by omega)]
    refine ih (i+1) ⟨by omega,λj hj=> ?_⟩ (by omega)
    by_cases e:j=i
    ·rw[e];exact q2
    ·exact g2 j (by omega)
   ·refine Re.brd (λ_=>Re.gdd (by omega) (Re.gdd q ?_)) (λh=>absurd q h)
    refine Re.bre (λq3=>Re.gdd (by omega) (Re.gdd q ?_)) (λq3=>ins (λ_=>by omega) (λ_=>q3))
    refine fin _ (by simp;omega) λhst=> ?_
    obtain⟨p1,p2,_⟩:=Eu0 hst g1 g2 (λ_=>by omega)
    unfold Ax8
    rw[p1,p2 ⟨hl,q3⟩,List.set_eq_take_append_cons_drop,G45 hl,q3]
    simp
  ·refine Re.brd (λh=>absurd h q) (λ_=>ins (λh=>by omega) (λh=>by omega))) 0 ⟨G49 _,λj hj=>by omega⟩
 exact this
end Go.Vm
end
section
namespace Go.Vm
open Go
theorem F86 (xs:List Int) (x:Int):x∈sortL xs↔x∈xs:=(List.mergeSort_perm xs _).mem_iff
theorem Eu1 (xs:List Int):(sortL xs).length=xs.length:=List.length_mergeSort _
theorem Fh2 (xs:List Int):(sortL xs).Pairwise (·≤·):=by
 have:=List.pairwise_mergeSort (le:=λx y:Int=>decide (x≤y)) (λa b c h1 h2=>by simp at h1 h2 ⊢;omega) (λa b=>by simp;omega) xs
 exact this.imp λh=>by simpa using h
theorem F23 {xs:List Int} (h:xs.length≤1048576):Dl2 xs=some ((),sortL xs,()):=by
 unfold Dl2;rw[G45 (by omega)]
def Bv0 (L r:List Int):Prop:=Asc r∧∀x,x∈r↔x∈L
theorem F24 {L:List Int} (h:L.Pairwise (·≤·)) {i j:Nat} (hij:i<j) (hj:j<L.length):rd 0 L i≤rd 0 L j:=by
 rw[C2 hj,C2 (show i<L.length by omega)]
 exact(List.pairwise_iff_getElem.1 h) i j _ _ hij
theorem Ec7 {xs:List Int} {y:Int} (h:Asc xs) (hy:∀x∈xs,x<y):Asc (xs++ [y]):=
 List.pairwise_append.2 ⟨h,by simp,λa ha b hb=>by simp at hb;subst hb;exact hy a ha⟩
theorem Ec8 {L:List Int} (hL:L.Pairwise (·≤·)) (hlen:L.length≤1048576) (l2:Nat→Nat→Int→Option (List Int)) (l3:Nat→Nat→Int→Int→Int→List Int→Option (List Int))
  (h2:∀k n v5,l2 k (n+1) v5=(br (decide (v5< (L.length:Int))) (gd (decide (0≤v5)) (gd (decide (v5< (L.length:Int))) (gd (decide (0≤(B5 (v5-1)))) (gd (decide ((B5 (v5-1))< (L.length:Int))) (br ((rd 0 L v5.toNat)==(rd 0 L (B5 (v5-1)).toNat)) (gd (decide (0≤v5)) (gd (decide (v5≤(L.length:Int))) (l3 k n v5 v5 1 L))) (l2 k n (B5 (v5+1)))))))) (some L)))
  (h3:∀k n v6 v5 v7 xs8,l3 k (n+1) v6 v5 v7 xs8=(br (decide (v7< (((xs8.length-v5.toNat):Nat):Int))) (gd (decide (0≤v7)) (gd (decide (v7< (((xs8.length-v5.toNat):Nat):Int))) (gd (decide (0≤(B5 (v7-1)))) (gd (decide ((B5 (v7-1))< (((xs8.length-v5.toNat):Nat):Int))) (br ((rd 0 xs8 (v5.toNat+v7.toNat)) !=(rd 0 xs8 (v5.toNat+(B5 (v7-1)).toNat))) (gd (decide (0≤v7)) (gd (decide (v7< (((xs8.length-v5.toNat):Nat):Int))) (gd (decide (0≤v6)) (gd (decide (v6< (xs8.length:Int))) (l3 k n (B5 (v6+1)) v5 (B5 (v7+1)) (xs8.set v6.toNat (rd 0 xs8 (v5.toNat+v7.toNat)))))))) (l3 k n v6 v5 (B5 (v7+1)) xs8)))))) (gd (decide (0≤v6)) (gd (decide (v6≤(xs8.length:Int))) (gd (decide (0≤v6)) (gd (decide (v6≤(((clr 0 (some v6.toNat) none xs8).length:Nat):Int))) (some ((clr 0 (some v6.toNat) none xs8).take (0+v6.toNat)))))))))
  :Re (λx:Nat×Nat=>l2 x.1 x.2 1) (Bv0 L):=by
 have three:∀(k0:Nat) (hk:1≤k0∧k0<L.length) (ha:Asc (L.take k0)) (heq:rd 0 L k0=rd 0 L (k0-1)),Re (λx:Nat×Nat=>l3 x.1 x.2 (k0:Int) (k0:Int) 1 L) (Bv0 L):=λk0 hk ha heq=>by
  have:=Re.loop (ι:=Nat) (l:=λk n (st:Nat×Nat×List Int)=>l3 k n (st.1:Int) (k0:Int) (st.2.1:Int) st.2.2)
   (I:=λst=>1≤st.2.1∧k0+st.2.1≤L.length∧st.1≤k0+st.2.1-1∧st.2.2.length=L.length∧(∀j,st.1≤j→rd 0 st.2.2 j=rd 0 L j)∧Asc (st.2.2.take st.1)∧∀x,x∈st.2.2.take st.1↔x∈L.take (k0+st.2.1))
   (λst=>L.length- (k0+st.2.1)) (Q:=λ_ r=>Bv0 L r) (λst hi ih=>by
   obtain⟨i,p,xs⟩:=st
   obtain⟨g1,g2,g3,g4,g5,g6,g7⟩:=hi
   simp only at g1 g2 g3 g4 g5 g6 g7 ih ⊢
   simp only[h3,G33,g4]
   refine Re.brd (λq=> ?_) (λq=> ?_)
   ·have hp:k0+p<L.length:=by omega
    rw[Bj8 (by omega) (by omega),B2 (show p<L.length by omega) (by omega),G33]
    refine Re.gdd (by omega) (Re.gdd q (Re.gdd (by omega) (Re.gdd (by omega) ?_)))
    rw[g5 (k0+p) (by omega),show k0+(p-1)=k0+p-1 by omega,g5 (k0+p-1) (by omega)]
    have tk:=T7 hp
    have hle:=F24 hL (show k0+p-1<k0+p by omega) hp
    have hmem:∀x∈L.take (k0+p),x≤rd 0 L (k0+p-1):=λx hx=>by
     obtain⟨j,hj,rfl⟩:=G63 hx
     have hj2:j<k0+p∧j<L.length:=by simp at hj;omega
     rw[List.getElem_take,←C2 (z:=0) hj2.2]
     by_cases e:j=k0+p-1
     ·rw[e];omega
     ·exact F24 hL (by omega) (by omega)
    refine Re.brn (λq2=> ?_) (λq2=> ?_)
    ·have hi:i<xs.length:=by omega
     rw[B2 (show i<L.length by omega) (by omega)]
     refine Re.gdd (by omega) (Re.gdd q (Re.gdd (by omega) (Re.gdd (by omega) ?_)))
     have hset:(xs.set i (rd 0 L (k0+p))).take (i+1)=xs.take i++ [rd 0 L (k0+p)]:=by
      rw[G88 (by simp;omega),List.take_set_of_le (G53 i)]
      simp
     refine ih (i+1,p+1,xs.set i (rd 0 L (k0+p))) ⟨by simp only;omega,by simp only;omega,by simp only;omega,by simp[g4],λj hj=> ?_, ?_,λx=> ?_⟩ (by simp only;omega)
     ·simp only at hj
      have:rd 0 (xs.set i (rd 0 L (k0+p))) j=rd 0 xs j:=by
       simp[rd,Hc9 (show i≠j by omega)]
      rw[this];exact g5 j (by omega)
     ·simp only
      rw[hset]
      refine Ec7 g6 λx hx=> ?_
      have:=hmem x ((g7 x).1 hx)
      omega
     ·simp only
      rw[hset,G34,g7 x,show k0+(p+1)=k0+p+1 by omega,tk,G34]
    ·refine ih (i,p+1,xs) ⟨by simp only;omega,by simp only;omega,by simp only;omega,g4,g5,g6,λx=> ?_⟩ (by simp only;omega)
     simp only
     rw[g7 x,show k0+(p+1)=k0+p+1 by omega,tk,G34,G48]
     refine⟨λh=> .inl h,λh=> ?_⟩
     rcases h with h|h
     ·exact h
     ·rw[h,q2,C2 (show k0+p-1<L.length by omega)]
      exact List.mem_take_iff_getElem.2 ⟨k0+p-1,by omega,rfl⟩
   ·have he:k0+p=L.length:=by omega
    have hcl:(clr 0 (some i) none xs).length=xs.length:=by simp[clr,D0,I8];omega
    have hct:(clr 0 (some i) none xs).take (0+i)=xs.take i:=by
     simp only[clr,D0,I8,G78,G46]
     rw[Hb4 (by simp;omega),List.take_take,Nat.min_self]
    refine Re.gdd (by omega) (Re.gdd (by omega) (Re.gdd (by omega) (Re.gdd (by rw[hcl];omega) (Re.ret ?_))))
    rw[hct]
    refine⟨g6,λx=> ?_⟩
    rw[g7 x,he,Hc8]) (k0,1,L) ⟨G53 1,by simp only;omega,by simp only;omega,rfl,λ_ _=>rfl,ha,λx=> ?_⟩
  ·exact this
  ·simp only
   rw[T7 hk.2,G34,G48]
   refine⟨λh=> .inl h,λh=> ?_⟩
   rcases h with h|h
   ·exact h
   ·rw[h,heq,C2 (show k0-1<L.length by omega)]
    exact List.mem_take_iff_getElem.2 ⟨k0-1,by omega,rfl⟩
 have:=Re.loop (ι:=Nat) (l:=λk n (i:Nat)=>l2 k n (i:Int)) (I:=λi=>1≤i∧Asc (L.take i)) (λi=>L.length-i) (Q:=λ_ r=>Bv0 L r) (λi hi ih=>by
  obtain⟨g1,g2⟩:=hi
  simp only[h2,G33]
  refine Re.brd (λq=> ?_) (λq=>Re.ret ?_)
  ·have hl:i<L.length:=by omega
   rw[Bj8 (by omega) (by omega),B2 hl (by omega),G33]
   refine Re.gdd (by omega) (Re.gdd q (Re.gdd (by omega) (Re.gdd (by omega) ?_)))
   refine Re.bre (λq2=>Re.gdd (by omega) (Re.gdd (by omega) ?_)) (λq2=> ?_)
   ·exact three i ⟨g1,hl⟩ g2 q2
   ·refine ih (i+1) ⟨by omega, ?_⟩ (by omega)
    rw[T7 hl]
    refine Ec7 g2 λx hx=> ?_
    have hle:=F24 hL (show i-1<i by omega) hl
    obtain⟨j,hj,rfl⟩:=G63 hx
    have hj2:j<i∧j<L.length:=by simp at hj;omega
    rw[List.getElem_take,←C2 (z:=0) hj2.2]
    by_cases e:j=i-1
    ·rw[e];omega
    ·have:=F24 hL (show j<i-1 by omega) (by omega);omega
  ·rw[G40 (by omega)]at g2
   exact⟨g2,λ_=>Iff.rfl⟩) 1 ⟨G53 1,by
    cases L with
    |nil=>simp[Asc]
    |cons x xs=>simp[Asc]⟩
 exact this
theorem Ec9 {L:List Int} (h:L.length<2):Bv0 L L:=by
 refine⟨?_,λ_=>Iff.rfl⟩
 match L,h with
 | [],_=>simp[Asc]
 | [x],_=>simp[Asc]
theorem Ck7 {xs r:List Int} (h:Bv0 (sortL xs) r):Bv0 xs r:=⟨h.1,λx=> (h.2 x).trans (F86 xs x)⟩
theorem Fh3 {ss:List (List A1)} {k:Int}:Ft3 ss k=true↔∃s∈ss,∃x∈s,x.1=k:=by
 unfold Ft3;simp
theorem Dr3 (ss:List (List A1)):∀n:Nat,Asc (Ae1 ss n)∧∀x,x∈Ae1 ss n↔(0≤x∧x<n)∧Ft3 ss x=true
 |0=> ⟨by simp[Ae1,Asc],λx=> ⟨λh=>by simp[Ae1]at h,λh=>by omega⟩⟩
 |n+1=>by
  obtain⟨h1,h2⟩:=Dr3 ss n
  unfold Ae1
  cases hk:Ft3 ss (n:Int)with
  |true=>
   refine⟨Ec7 h1 λx hx=>by have:=(h2 x).1 hx;omega,λx=> ?_⟩
   simp only[G52,G34,G48,h2 x]
   constructor
   ·rintro(⟨a,b⟩|a)
    ·exact⟨by omega,b⟩
    ·exact⟨by omega,by rw[a];exact hk⟩
   ·rintro⟨a,b⟩
    by_cases q:x=n
    ·exact .inr q
    ·exact .inl ⟨by omega,b⟩
  |false=>
   refine⟨h1,λx=> ?_⟩
   simp only[G72,h2 x]
   constructor
   ·rintro⟨a,b⟩;exact⟨by omega,b⟩
   ·rintro⟨a,b⟩
    refine⟨?_,b⟩
    by_cases q:x=n
    ·rw[q,hk]at b;cases b
    ·omega
theorem Cw5 (ss:List (List A1)):Asc (P9 ss)∧∀x,x∈P9 ss↔(0≤x∧x≤15)∧Ft3 ss x=true:=by
 obtain⟨h1,h2⟩:=Dr3 ss 16
 exact⟨h1,λx=> (h2 x).trans ⟨λ⟨a,b⟩=> ⟨by omega,b⟩,λ⟨a,b⟩=> ⟨by omega,b⟩⟩⟩
def K4 (s:List A1):List Int:=(s.map λx=>x.1).filter λk=>W6 k 0 15
theorem Dr4 {s:List A1} {k:Int}:k∈K4 s↔(0≤k∧k≤15)∧∃x∈s,x.1=k:=by
 unfold K4
 rw[List.mem_filter,M2,G79]
 exact⟨λ⟨a,b⟩=> ⟨b,a⟩,λ⟨a,b⟩=> ⟨b,a⟩⟩
theorem E35 {s:List A1} {j:Nat} (h:j<s.length):K4 (s.take (j+1))=K4 (s.take j)++(if W6 (rd C0 s j).1 0 15=true then [(rd C0 s j).1]else []):=by
 unfold K4
 rw[Dj9 h,G64,G91]
 congr 1
 by_cases q:W6 (rd C0 s j).1 0 15=true
 ·rw[G45 q];simp[q]
 ·rw[G41 q];simp[q]
theorem Dr5 (s:List A1):(K4 s).length≤s.length:=by
 unfold K4
 exact G99 (Ha0 _ _) (by simp)
def StsT (ss:List (List A1)):Prop:=(ss.map λs=>s.length+1).sum≤1048576
theorem StsT.len {ss:List (List A1)} (h:StsT ss):ss.length≤1048576∧(∀i,i<ss.length→(rd [] ss i).length≤1048576)∧∀i,i≤ss.length→((ss.take i).flatMap K4).length≤1048576:=by
 have h1:∀ts:List (List A1),ts.length+(ts.flatMap K4).length≤(ts.map λs=>s.length+1).sum∧∀s∈ts,s.length≤(ts.map λs=>s.length+1).sum:=by
  intro ts
  induction ts with
  |nil=>exact⟨G53 _,λs hs=>by simp at hs⟩
  |cons t ts ih=>
   have:=Dr5 t
   simp only[G82,G44,G70,G95,List.sum_cons]
   refine⟨by omega,λs hs=> ?_⟩
   rcases G67.1 hs with e|e
   ·rw[e];omega
   ·have:=ih.2 s e;omega
 have h2:∀(ts:List (List A1)) (i:Nat),((ts.take i).map λs=>s.length+1).sum≤(ts.map λs=>s.length+1).sum:=by
  intro ts
  induction ts with
  |nil=>intro i;simp
  |cons t ts ih=>
   intro i
   cases i with
   |zero=>simp
   |succ i=>have:=ih i;simp only[List.take_succ_cons,G95,List.sum_cons];omega
 unfold StsT at h
 refine⟨by have:=(h1 ss).1;omega,λi hi=> ?_,λi hi=> ?_⟩
 ·have:=(h1 ss).2 (rd [] ss i) (by rw[C2 hi];exact G47 _);omega
 ·have:=(h1 (ss.take i)).1
  have:=h2 ss i
  omega
theorem Dr6 (ss:List (List A1)) (h:StsT ss):Ev (λk=>C41 k ss) (P9 ss):=by
 obtain⟨s1,s2,s3⟩:=h.len
 have h3:=s3 ss.length (G53 _)
 rw[Hc8]at h3
 have fin:Re (λx:Nat×Nat=> (bd (J8 x.1 (ss.flatMap K4)) λr2=> (gd (Nat.beq r2.2.1.length (ss.flatMap K4).length) (br (decide ((r2.2.1.length:Int)<2)) (some r2.2.1) (Ai2 x.1 x.2 1 r2 ss (ss.length:Int)))))) (λr=>r=P9 ss):=by
  have hsort:∀k,J8 k (ss.flatMap K4)=some ((),sortL (ss.flatMap K4),()):=λk=>F23 h3
  refine Re.s2 hsort ?_
  have hl:=Eu1 (ss.flatMap K4)
  refine Re.gd (by rw[hl];exact G98 _) ?_
  have uq:∀r,Bv0 (ss.flatMap K4) r→r=P9 ss:=λr hr=>by
   refine D25 hr.1 (Cw5 ss).1 λx=> ?_
   rw[hr.2,(Cw5 ss).2,Fh3,Hb3]
   constructor
   ·rintro⟨s,hs,hx⟩
    obtain⟨a,b⟩:=Dr4.1 hx
    exact⟨a,s,hs,b⟩
   ·rintro⟨a,s,hs,b⟩
    exact⟨s,hs,Dr4.2 ⟨a,b⟩⟩
  refine Re.brd (λq=>Re.ret (uq _ (Ck7 (Ec9 (by simp only at q;omega))))) (λq=> ?_)
  have:=Ec8 (Fh2 (ss.flatMap K4)) (by omega) (λk n v5=>Ai2 k n v5 ((),sortL (ss.flatMap K4),()) ss (ss.length:Int)) (λk n v6 v5 v7 xs8=>Bb1 k n v6 v5 v7 xs8 ss (ss.length:Int)) (λk n v5=>rfl) (λk n v6 v5 v7 xs8=>rfl)
  exact this.mono λr hr=>uq r (Ck7 hr)
 refine Re.eq (Re.enter (f:=λk n=>Ai3 k n ss 0 []) B9 ?_)
 have:=Re.wf (l:=λk n (st:Nat ⊕ (Nat×Nat))=>match st with
   | .inl i=>Ai3 k n ss (i:Int) ((ss.take i).flatMap K4)
   | .inr (i,j)=>Aw5 k n ss (i:Int) (j:Int) ((ss.take i).flatMap K4++K4 ((rd [] ss i).take j)))
  (I:=λst=>match st with
   | .inl i=>i≤ss.length
   | .inr (i,j)=>i<ss.length∧j≤(rd [] ss i).length)
  (λst=>match st with
   | .inl i=> (ss.length-i,1048576+2)
   | .inr (i,j)=> (ss.length-i,(rd [] ss i).length-j+1)) (Q:=λ_ r=>r=P9 ss) (λst hi ih=>by
  rcases st with i|⟨i,j⟩
  ·simp only at hi ih ⊢
   simp only[Fd9,Ba9]
   refine Re.brd (λg=> ?_) (λg=> ?_)
   ·have hl:i<ss.length:=by omega
    have hb:=s2 i hl
    refine Re.gdd (by omega) (Re.gdd g ?_)
    have next:=ih (.inr (i,0)) ⟨hl,G49 _⟩ (.inr ⟨rfl,by simp only;omega⟩)
    simpa [K4]using next
   ·have e:i=ss.length:=by omega
    rw[e,Hc8]
    exact fin
  ·simp only at hi ih ⊢
   obtain⟨g1,g2⟩:=hi
   have hb:=s2 i g1
   have hft:(ss.take (i+1)).flatMap K4=(ss.take i).flatMap K4++K4 (rd [] ss i):=by
    rw[G66,G36 g1,C2 g1,G92];simp
   simp only[Fe0,Bb0,G33]
   refine Re.brd (λg=> ?_) (λg=> ?_)
   ·have hj:j< (rd [] ss i).length:=by omega
    rw[B2 hj (by omega)]
    refine Re.gdd (by omega) (Re.gdd g (Re.s2 (O1 · _ _ _) ?_))
    have next:=ih (.inr (i,j+1)) ⟨g1,by omega⟩ (.inr ⟨rfl,by simp only;omega⟩)
    simp only[E35 hj]at next
    have hlen:((ss.take i).flatMap K4++K4 ((rd [] ss i).take j)).length≤2097152:=by
     have a1:=s3 i (by omega)
     have a2:=Dr5 ((rd [] ss i).take j)
     have a3:((rd [] ss i).take j).length≤(rd [] ss i).length:=List.length_take_le' ..
     rw[G70];omega
    refine Re.br (λq=>Re.gdd (by simp only[G57];unfold A5;omega) ?_) (λq=> ?_)
    ·rw[G45 q,←G46]at next;exact next
    ·rw[G41 (by rw[q];simp),G59]at next;exact next
   ·rw[B2 g1 (by omega),show(rd [] ss i).take j=rd [] ss i from G40 (by omega),←hft]
    exact ih (.inl (i+1)) (by simp only;omega) (.inl (by simp only;omega))) (.inl 0) (G49 _)
 exact this
theorem Eu2 {ss:List (List A1)} {key:Int}:Z7 ss key=true↔∀s∈ss,q9 s key=q9 (rd [] ss 0) key:=by
 unfold Z7
 rw[G90]
 constructor
 ·intro h s hs
  obtain⟨i,hi,rfl⟩:=G63 hs
  by_cases q:i=0
  ·subst q;rw[C2 hi]
  ·have:=h i (by rw[List.mem_range'_1];omega)
   rw[C2 hi]at this;simpa using this
 ·intro h i hi
  rw[List.mem_range'_1]at hi
  have hi2:i<ss.length:=by omega
  have:=h (rd [] ss i) (by rw[C2 hi2];exact G47 _)
  simp[this]
theorem C78 (ss:List (List A1)) (h:StsT ss) (key:Int):Ev (λk=>Cj8 k ss key) (Z7 ss key):=by
 obtain⟨s1,s2,_⟩:=h.len
 refine Re.eq (Re.enter (f:=λk n=>Ac7 k n ss 0 key) B9 ?_)
 have:=Re.loop (ι:=Nat) (l:=λk n (i:Nat)=>Ac7 k n ss (i:Int) key) (I:=λi=>i≤ss.length∧∀j,j<i→q9 (rd [] ss j) key=q9 (rd [] ss 0) key) (λi=>ss.length-i) (Q:=λ_ v=>v=Z7 ss key) (λi hi ih=>by
  obtain⟨g1,g2⟩:=hi
  simp only[Ac7,Br5,G33]
  refine Re.brd (λg=> ?_) (λg=>Re.ret ?_)
  ·have hl:i<ss.length:=by omega
   refine Re.gdd (by omega) (Re.gdd g (Re.c2 (C73 _ (s2 i hl) _) (Re.gdd (by omega) (Re.c2 (C73 _ (s2 0 (by omega)) _) ?_))))
   refine Re.brn (λq=>Re.ret ?_) (λq=> ?_)
   ·rw[G54 (by omega)]
    cases ha:Z7 ss key with
    |false=>rfl
    |true=>exact absurd (Eu2.1 ha (rd [] ss i) (by rw[C2 hl];exact G47 _)) q
   ·rw[B2 hl (by omega)]
    refine ih (i+1) ⟨by omega,λj hj=> ?_⟩ (by omega)
    by_cases e:j=i
    ·rw[e];exact q
    ·exact g2 j (by omega)
  ·refine(Eu2.2 λs hs=> ?_).symm
   obtain⟨j,hj,rfl⟩:=G63 hs
   have:=g2 j (by omega)
   rwa [C2 hj]at this) 0 ⟨G49 _,λj hj=>by omega⟩
 exact this
theorem Gh8 {ss:List (List A1)} {k:Int} (h:k∈P9 ss):0<ss.length:=by
 obtain⟨_,h2⟩:=((Cw5 ss).2 k).1 h
 obtain⟨s,hs,_⟩:=Fh3.1 h2
 exact List.length_pos_of_mem hs
theorem Fh4 (ss:List (List A1)) (h:StsT ss):Ev (λk=>D93 k ss) (N7 ss):=by
 obtain⟨s1,s2,_⟩:=h.len
 have hkl:=P1 ss 16
 refine Re.eq (Re.c1 (Dr6 ss h) ?_)
 have hne:∀i,i< (P9 ss).length→0<ss.length:=λi hi=>Gh8 (G47 hi)
 have hag:∀ks,ks=P9 ss→N7 ss=(ks.filter (Z7 ss)).map λk=> (k,q9 (rd [] ss 0) k,()):=λks e=>by rw[e];rfl
 have hkl2:(P9 ss).length≤16:=hkl
 rw[hag _ rfl]
 generalize P9 ss=ks at hkl2 hne ⊢
 refine Re.enter (f:=λk n=>Ai4 k n ss ks 0 []) B9 ?_
 have:=Re.loop (ι:=Nat) (l:=λk n (i:Nat)=>Ai4 k n ss ks (i:Int) (((ks.take i).filter (Z7 ss)).map λk=> (k,q9 (rd [] ss 0) k,()))) (I:=λi=>i≤ks.length) (λi=>ks.length-i) (Q:=λ_ v=>v=(ks.filter (Z7 ss)).map λk=> (k,q9 (rd [] ss 0) k,())) (λi hi ih=>by
  simp only[Ai4,B77,G33]
  refine Re.brd (λg=> ?_) (λg=>Re.ret (by rw[G40 (by omega)]))
  have hl:i<ks.length:=by omega
  have hp:=hne i hl
  rw[B2 hl (by omega)]
  have next:=ih (i+1) (by omega) (by omega)
  simp only[T7 hl,G91,G64]at next
  have hlen:=A37 (Z7 ss) ks i
  refine Re.gdd (by omega) (Re.gdd g (Re.c2 (C78 ss h _) ?_))
  refine Re.br (λq=>Re.gdd (by omega) (Re.c2 (C73 _ (s2 0 hp) _) (Re.gdd (by simp only[List.length_map,G57];unfold A5;omega) ?_))) (λq=> ?_)
  ·rw[Hb7 q]at next;simpa using next
  ·rw[Ha7 (by rw[q];simp)]at next;simpa using next) 0 (G49 _)
 simpa using this
theorem Fu1 (ss:List (List A1)) (h:StsT ss):Ev (λk=>E05 k ss) (Bf8 ss):=by
 have hkl:=P1 ss 16
 refine Re.eq (Re.c1 (Dr6 ss h) ?_)
 have hkl2:(P9 ss).length≤16:=hkl
 unfold Bf8
 generalize P9 ss=ks at hkl2 ⊢
 refine Re.enter (f:=λk n=>Aq9 k n ss ks 0 []) B9 ?_
 have:=Re.loop (ι:=Nat) (l:=λk n (i:Nat)=>Aq9 k n ss ks (i:Int) ((ks.take i).filter λk=> !Z7 ss k)) (I:=λi=>i≤ks.length) (λi=>ks.length-i) (Q:=λ_ v=>v=ks.filter λk=> !Z7 ss k) (λi hi ih=>by
  simp only[Aq9,Cv2,G33]
  refine Re.brd (λg=> ?_) (λg=>Re.ret (by rw[G40 (by omega)]))
  have hl:i<ks.length:=by omega
  rw[B2 hl (by omega)]
  have next:=ih (i+1) (by omega) (by omega)
  simp only[T7 hl,G91]at next
  have hlen:=A37 (λk=> !Z7 ss k) ks i
  refine Re.gdd (by omega) (Re.gdd g (Re.c2 (C78 ss h _) ?_))
  refine Re.br (λq=>Re.gdd (by simp only[G57];unfold A5;omega) ?_) (λq=> ?_)
  ·rw[Hb7 (p:=λk=> !Z7 ss k) q]at next;exact next
  ·rw[Ha7 (p:=λk=> !Z7 ss k) (by rw[q];simp)]at next;simpa using next) 0 (G49 _)
 simpa using this
end Go.Vm
end
section
namespace Go.Vm
open Go
theorem Gh9 {ss:List (List A1)} {ks:List Int} {x:Int}:x∈A19 ss ks↔x≠0∧∃s∈ss,∃k∈ks,q9 s k=x:=by
 unfold A19 B93
 simp only[Hb3,List.mem_filter,G79,bne_iff_ne]
 constructor
 ·rintro⟨s,hs,⟨k,hk,e⟩,h⟩;exact⟨h,s,hs,k,hk,e⟩
 ·rintro⟨h,s,hs,k,hk,e⟩;exact⟨s,hs,⟨k,hk,e⟩,h⟩
theorem F87 (s:List A1) (id:Int):Cw2 s 0 id=s:=by
 unfold Cw2
 have:Q6 (Ax8 s 0 id)=false:=g8 λh=>by
  have hm:((0:Int),id,())∈Ax8 s 0 id:=by unfold Ax8;simp
  obtain⟨i,hi,e⟩:=G63 hm
  have:=(h.2 i hi).1
  rw[C2 hi,e]at this
  cases this
 rw[this,Bool.and_false];rfl
theorem Cw6 (e:A0) (k:Nat):Cj7 k e=some (A68 e):=by
 unfold Cj7 A68
 cases e.2.1==1 with
 |true=>rfl
 |false=>
  cases e.2.1==3 with
  |true=>rfl
  |false=>
   cases e.2.1==4 with
   |true=>rfl
   |false=>
    cases e.2.1==2 with
    |false=>rfl
    |true=>
     simp only[br_true,br_false,O1,bd_some]
     cases hu:W6 e.2.2.2.1 1 5 with
     |false=>rfl
     |true=>
      have:=M2.1 hu
      rw[br_true,D7 (by omega) (by omega)]
      rfl
theorem StsN.t {ss:List (List A1)} (h:StsN ss):StsT ss:=by
 obtain⟨h1,h2⟩:=h
 have:∀ts:List (List A1),(∀s∈ts,s.length≤16)→(ts.map λs=>s.length+1).sum≤17*ts.length:=by
  intro ts
  induction ts with
  |nil=>intro _;simp
  |cons t ts ih=>
   intro h
   have a:=h t (G39 ..)
   have b:=ih λs hs=>h s (G38 _ hs)
   simp only[G95,List.sum_cons,G82];omega
 have:=this ss λs hs=>by
  obtain⟨i,hi,rfl⟩:=G63 hs
  have:=h2 i hi
  rwa [C2 hi]at this
 unfold StsT;omega
def Ag8 (ss:List (List A1)) (k:Int):List Int:=(ss.map λs=>q9 s k).filter λx=>x !=0
theorem Fh5 {ss:List (List A1)} {j:Nat} (h:j<ss.length) (k:Int):Ag8 (ss.take (j+1)) k=Ag8 (ss.take j) k++(if q9 (rd [] ss j) k=0 then []else [q9 (rd [] ss j) k]):=by
 unfold Ag8
 rw[G66,G36 h,C2 h,G64,G91]
 congr 1
 by_cases q:q9 ss[j] k=0<;>simp[q]
theorem Ed0 (ss:List (List A1)) (k:Int):(Ag8 ss k).length≤ss.length:=by
 unfold Ag8
 exact G99 (Ha0 _ _) (by simp)
theorem E36 (es:List A0) (hE:EvS es) (hc:Ay8 es) (hz:NoZ es) (ss:List (List A1)) (hS:StsN ss):Ev (λk=>Di7 k es ss) (A70 es ss):=by
 obtain⟨e1,e2,e3⟩:=hE
 have hT:=hS.t
 obtain⟨s1,s2⟩:=hS
 refine Re.eq ?_
 unfold A70
 refine Re.bre (λq=>Re.ret (by rw[G45 (by omega)])) (λq=> ?_)
 rw[G41 (by omega)]
 refine Re.bre (λq=> ?_) (λq=> ?_)
 ·rw[G45 (by omega)]
  have:=s2 0 (by omega)
  refine Re.gdd (by omega) (Re.s1 (v:=rd [] ss 0) (λk=> ?_) (Re.ret rfl))
  unfold V9
  rw[G54 (by unfold A5;omega)];rfl
 rw[G41 (by omega)]
 refine Re.c1 (Fh4 ss hT) (Re.c1 (Fu1 ss hT) ?_)
 have hal:=A71 ss
 have hcl:(Bf8 ss).length≤16:=G99 (Ha0 _ _) (P1 ss 16)
 generalize hag:N7 ss=ag at hal ⊢
 generalize Bf8 ss=ks at hcl ⊢
 have last:∀order:List Int,order.length≤1000000→(∀x∈order,found es x)→Re (λx:Nat×Nat=>d6 x.1 x.2 es order 0 ag) (λv=>v=order.foldl (U0 es) ag):=λorder ho hfo=>by
  have:=Re.loop (ι:=Nat) (l:=λk n (i:Nat)=>d6 k n es order (i:Int) ((order.take i).foldl (U0 es) ag)) (I:=λi=>i≤order.length) (λi=>order.length-i) (Q:=λ_ v=>v=order.foldl (U0 es) ag) (λi hi ih=>by
   simp only[d6,Bs4,G33]
   refine Re.brd (λg=> ?_) (λg=>Re.ret (by rw[G40 (by omega)]))
   have hl:i<order.length:=by omega
   have next:=ih (i+1) (by omega) (by omega)
   rw[Aa1 (U0 es) 0 order _ hl]at next
   have hnow:=Am9 (es:=es) (order.take i) (now:=ag) hal
   generalize(order.take i).foldl (U0 es) ag=now at next hnow ⊢
   have hfx:=hfo (rd 0 order i) (by rw[C2 hl];exact G47 _)
   have hid:=B95 hfx
   rw[B2 hl (by omega)]
   refine Re.gdd (by omega) (Re.gdd g (Re.c2 (As2 es hc _) (Re.c2 (C75 es hc hz now (by omega) _ (e3 _)) ?_)))
   unfold U0 at next
   cases ha:p9 es now (C5 es (rd 0 order i)).1 with
   |false=>
    rw[ha]at next
    exact Re.br (b:=false) (λh=>by cases h) (λ_=>next)
   |true=>
    refine Re.br (b:=true) (λ_=>Re.s2 (Cw6 _ ·) (Re.c2 (Fh1 now (by omega) _ _) ?_)) (λh=>by cases h)
    rw[ha,Hb6,hid]at next
    by_cases q2:A68 (C5 es (rd 0 order i)).1=0
    ·rw[q2,F87]
     rw[q2]at next;exact next
    ·have:(A68 (C5 es (rd 0 order i)).1 !=0)=true:=by simp[q2]
     rw[this]at next;exact next) 0 (G49 _)
  simpa using this
 refine Re.enter (f:=λk n=>Ac9 k n es ss ks 0 ag []) B9 ?_
 have hmul:∀i:Nat,i≤16→∀j,j≤ss.length→i*ss.length+j≤40000:=λi hi j hj=>by
  have:=Nat.mul_le_mul hi s1;omega
 have hfl:∀i,i≤ks.length→((ks.take i).flatMap (Ag8 ss)).length≤i*ss.length:=by
  intro i
  induction i with
  |zero=>intro _;simp
  |succ i ih=>
   intro hi
   have h1:=ih (by omega)
   have h2:=Ed0 ss ks[i]
   rw[G66,G36 (by omega),G92,G70,Nat.succ_mul]
   simp only[Option.toList_some,G44,List.flatMap_nil,G59]
   omega
 have:=Re.wf (l:=λk n (st:Nat ⊕ (Nat×Nat))=>match st with
   | .inl i=>Ac9 k n es ss ks (i:Int) ag ((ks.take i).flatMap (Ag8 ss))
   | .inr (i,j)=>Al6 k n es ss ks (i:Int) (j:Int) ag ((ks.take i).flatMap (Ag8 ss)++Ag8 (ss.take j) (rd 0 ks i)))
  (I:=λst=>match st with
   | .inl i=>i≤ks.length
   | .inr (i,j)=>i<ks.length∧j≤ss.length)
  (λst=>match st with
   | .inl i=> (ks.length-i,1048576+2)
   | .inr (i,j)=> (ks.length-i,ss.length-j+1)) (Q:=λ_ r=>r=(Z0 es ag (A19 ss ks)).foldl (U0 es) ag) (λst hi ih=>by
  rcases st with i|⟨i,j⟩
  ·simp only at hi ih ⊢
   simp only[E09,A11]
   refine Re.brd (λg=> ?_) (λg=> ?_)
   ·have hl:i<ks.length:=by omega
    refine Re.gdd (by omega) (Re.gdd g ?_)
    have next:=ih (.inr (i,0)) ⟨hl,G49 _⟩ (.inr ⟨rfl,by simp only;omega⟩)
    simpa [Ag8]using next
   ·have e:i=ks.length:=by omega
    have hf:=hfl ks.length (G53 _)
    have hm:=hmul ks.length hcl 0 (G49 _)
    rw[e]
    rw[Hc8]at hf ⊢
    have hcopy:∀k,V9 k ag=some ag:=λk=>by
     unfold V9
     rw[G54 (by unfold A5;omega)];rfl
    have hsame:=Fh0 es ag (a:=ks.flatMap (Ag8 ss)) (b:=A19 ss ks) λx _=>by
     rw[Gh9]
     unfold Ag8
     simp only[Hb3,List.mem_filter,G79,bne_iff_ne]
     constructor
     ·rintro⟨k,hk,⟨s,hs,e⟩,h⟩;exact⟨h,s,hs,k,hk,e⟩
     ·rintro⟨h,s,hs,k,hk,e⟩;exact⟨k,hk,⟨s,hs,e⟩,h⟩
    refine Re.s2 hcopy (Re.c2 (Ft9 es hc hz e2 ag (by omega) _ (by omega)) ?_)
    rw[hsame]
    have hO:=Fu0 es ag (A19 ss ks)
    have hfo:∀x∈Z0 es ag (A19 ss ks),found es x:=λx hx=> (((As1 es (A19 ss ks)).2 x).1 (hO.sub x hx)).2
    have hol:=Am7 _ _ hO.nd λx hx=>A38 (hfo x hx)
    exact last _ (by simp at hol;omega) hfo
  ·simp only at hi ih ⊢
   obtain⟨g1,g2⟩:=hi
   simp only[E10,A12,G33]
   have hf:=hfl i (by omega)
   have hm:=hmul i (by omega) ss.length (G53 _)
   refine Re.brd (λg=> ?_) (λg=> ?_)
   ·have hj:j<ss.length:=by omega
    have hsj:=s2 j hj
    rw[B2 hj (by omega)]
    refine Re.gdd (by omega) (Re.gdd g (Re.c2 (C73 _ (by omega) _) ?_))
    have next:=ih (.inr (i,j+1)) ⟨g1,by omega⟩ (.inr ⟨rfl,by simp only;omega⟩)
    simp only[Fh5 hj]at next
    have hk2:=Ed0 (ss.take j) (rd 0 ks i)
    have hk3:(ss.take j).length≤ss.length:=List.length_take_le' ..
    refine Re.brn (λq=>Re.gdd (by simp only[G70,G57];unfold A5;omega) ?_) (λq=> ?_)
    ·rw[G41 q,←G46]at next;exact next
    ·rw[G45 q,G59]at next;exact next
   ·have next:=ih (.inl (i+1)) (by simp only;omega) (.inl (by simp only;omega))
    rw[B2 g1 (by omega),show ss.take j=ss from G40 (by omega)]
    have e:(ks.take (i+1)).flatMap (Ag8 ss)=(ks.take i).flatMap (Ag8 ss)++Ag8 ss (rd 0 ks i):=by
     rw[T7 g1,G92];simp
    rw[←e];exact next) (.inl 0) (G49 _)
 simpa using this
end Go.Vm
end
section
namespace Go.Vm
open Go
theorem Ed1 (es:List A0):Asc (W4 es)∧∀x,x∈W4 es↔∃e∈es,named es e.1=false∧e.1=x:=by
 have:∀(xs:List A0) (a:List Int),Asc a→Asc (xs.foldl (q8 es) a)∧∀x,x∈xs.foldl (q8 es) a↔x∈a∨∃e∈xs,named es e.1=false∧e.1=x:=by
  intro xs
  induction xs with
  |nil=>intro a h;exact⟨h,λx=>by simp⟩
  |cons y ys ih=>
   intro a h
   rw[Hd1]
   unfold q8 at ih ⊢
   cases hn:named es y.1 with
   |true=>
    obtain⟨g1,g2⟩:=ih a h
    refine⟨g1,λx=> ?_⟩
    simp only[G52]
    rw[g2]
    constructor
    ·rintro(q|⟨e,he,q⟩)
     ·exact .inl q
     ·exact .inr ⟨e,G38 _ he,q⟩
    ·rintro(q|⟨e,he,q1,q2⟩)
     ·exact .inl q
     ·rcases G67.1 he with e2|e2
      ·rw[e2,hn]at q1;cases q1
      ·exact .inr ⟨e,e2,q1,q2⟩
   |false=>
    obtain⟨g1,g2⟩:=ih (Ff9 a y.1) (Ck6 y.1 a false h)
    refine⟨g1,λx=> ?_⟩
    simp only[G72]
    rw[g2,Fg0]
    constructor
    ·rintro((q|q)|⟨e,he,q⟩)
     ·exact .inl q
     ·exact .inr ⟨y,G39 ..,hn,q.symm⟩
     ·exact .inr ⟨e,G38 _ he,q⟩
    ·rintro(q|⟨e,he,q1,q2⟩)
     ·exact .inl (.inl q)
     ·rcases G67.1 he with e2|e2
      ·rw[e2]at q2;exact .inl (.inr q2.symm)
      ·exact .inr ⟨e,e2,q1,q2⟩
 obtain⟨h1,h2⟩:=this es [] (by simp[Asc])
 exact⟨h1,λx=>by unfold W4;rw[h2];simp⟩
def Ae3 (es:List A0) (xs:List A0):List Int:=(xs.filter λe=> !named es e.1).map λe=>e.1
theorem Ed2 (es xs:List A0):(Ae3 es xs).length≤xs.length:=by
 unfold Ae3
 rw[List.length_map]
 exact Ha0 _ _
theorem Fh6 (es:List A0) {xs:List A0} {i:Nat} (h:i<xs.length):Ae3 es (xs.take (i+1))=Ae3 es (xs.take i)++(if named es (rd A4 xs i).1=true then []else [(rd A4 xs i).1]):=by
 unfold Ae3
 rw[G66,G36 h,C2 h,G91,G64]
 congr 1
 by_cases q:named es xs[i].1=true<;>simp[q]
theorem Dr7 (r:A6) (h:Gh6 r.1):Ev (λk=>Bk9 k r) (W4 r.1):=by
 obtain⟨h1,h2⟩:=h
 have hil:=Ed2 r.1 r.1
 have fin:Re (λx:Nat×Nat=> (bd (J8 x.1 (Ae3 r.1 r.1)) λr2=> (gd (Nat.beq r2.2.1.length (Ae3 r.1 r.1).length) (br (decide ((r2.2.1.length:Int)<2)) (some r2.2.1) (Ai7 x.1 x.2 1 r2 r (r.1.length:Int)))))) (λv=>v=W4 r.1):=by
  have hsort:∀k,J8 k (Ae3 r.1 r.1)=some ((),sortL (Ae3 r.1 r.1),()):=λk=>F23 (by omega)
  refine Re.s2 hsort ?_
  have hl:=Eu1 (Ae3 r.1 r.1)
  refine Re.gd (by rw[hl];exact G98 _) ?_
  have uq:∀v,Bv0 (Ae3 r.1 r.1) v→v=W4 r.1:=λv hv=>by
   refine D25 hv.1 (Ed1 r.1).1 λx=> ?_
   rw[hv.2,(Ed1 r.1).2]
   unfold Ae3
   rw[G79]
   simp only[List.mem_filter,Ha3]
   exact⟨λ⟨e,⟨a,b⟩,c⟩=> ⟨e,a,b,c⟩,λ⟨e,a,b,c⟩=> ⟨e,⟨a,b⟩,c⟩⟩
  refine Re.brd (λq=>Re.ret (uq _ (Ck7 (Ec9 (by simp only at q;omega))))) (λq=> ?_)
  have:=Ec8 (Fh2 (Ae3 r.1 r.1)) (by omega) (λk n v5=>Ai7 k n v5 ((),sortL (Ae3 r.1 r.1),()) r (r.1.length:Int)) (λk n v6 v5 v7 xs8=>Bb8 k n v6 v5 v7 xs8 r (r.1.length:Int)) (λk n v5=>rfl) (λk n v6 v5 v7 xs8=>rfl)
  exact this.mono λv hv=>uq v (Ck7 hv)
 refine Re.eq (Re.enter (f:=λk n=>Ai8 k n r 0 []) B9 ?_)
 have:=Re.wf (l:=λk n (st:Nat ⊕ (Nat×Nat))=>match st with
   | .inl i=>Ai8 k n r (i:Int) (Ae3 r.1 (r.1.take i))
   | .inr (i,j)=>Aw7 k n r (j:Int) (i:Int) (Ae3 r.1 (r.1.take i)))
  (I:=λst=>match st with
   | .inl i=>i≤r.1.length
   | .inr (i,j)=>i<r.1.length∧j≤r.1.length∧∀m,m<j→(rd A4 r.1 i).1∉(rd A4 r.1 m).2.2.2.2.2.2.2.1)
  (λst=>match st with
   | .inl i=> (r.1.length-i,100002)
   | .inr (i,j)=> (r.1.length-i,r.1.length-j+1)) (Q:=λ_ v=>v=W4 r.1) (λst hi ih=>by
  rcases st with i|⟨i,j⟩
  ·simp only at hi ih ⊢
   simp only[Fe1,Bb6]
   refine Re.brd (λg=> ?_) (λg=> ?_)
   ·exact Re.gdd (by omega) (Re.gdd g (ih (.inr (i,0)) ⟨by omega,G49 _,λm h=>by omega⟩ (.inr ⟨rfl,by simp only;omega⟩)))
   ·have e:i=r.1.length:=by omega
    rw[e,Hc8]
    exact fin
  ·simp only at hi ih ⊢
   obtain⟨g1,g2,g3⟩:=hi
   simp only[Fe2,Bb7,G33]
   have hlt:=Ed2 r.1 (r.1.take i)
   have hlt2:(r.1.take i).length≤r.1.length:=List.length_take_le' ..
   rw[B2 g1 (by omega)]
   have next:=ih (.inl (i+1)) (by simp only;omega) (.inl (by simp only;omega))
   simp only[Fh6 r.1 g1]at next
   refine Re.brd (λg=> ?_) (λg=> ?_)
   ·have hj:j<r.1.length:=by omega
    have hpj:=h2 j hj
    refine Re.gdd (by omega) (Re.gdd g (Re.c2 (g9 _ hpj _) ?_))
    refine Re.brd (λq=> ?_) (λq=> ?_)
    ·refine Re.br (λh=>by simp at h) (λ_=> ?_)
     have hn:named r.1 (rd A4 r.1 i).1=true:=by
      unfold named
      rw[Hb1]
      exact⟨rd A4 r.1 j,by rw[C2 hj];exact G47 _,by simpa using q⟩
     rw[G45 hn,G59]at next;exact next
    ·rw[B2 hj (by omega)]
     refine ih (.inr (i,j+1)) ⟨g1,by omega,λm hm=> ?_⟩ (.inr ⟨rfl,by simp only;omega⟩)
     by_cases e:m=j
     ·rw[e];exact q
     ·exact g3 m (by omega)
   ·have hn:¬named r.1 (rd A4 r.1 i).1=true:=λh=>by
     unfold named at h
     rw[Hb1]at h
     obtain⟨f,hf,h4⟩:=h
     obtain⟨m,hm,rfl⟩:=G63 hf
     have:=g3 m (by omega)
     rw[C2 hm]at this
     exact this (by simpa using h4)
    rw[G41 hn]at next
    exact Re.gdd (by simp only[G57];unfold A5;omega) next) (.inl 0) (G49 _)
 exact this
theorem C79 (r:A6) (h:r.1.length≤1048576) (id:Int):Ev (λk=>Cj3 k r id) (Ad6 r.1 id):=by
 have:=Ct8 (l:=λk n i=>Ac6 k n r (i:Int) id) r.1 (λe=>e.1==id) (λi=> (i:Int)) (-1) (λi hi=> ⟨0,λk _ n=>by
  simp only[Ac6,A08,G61,hi,G42,G56,br_true,gd_true,G33,C2,B2 hi (by omega)]⟩) ⟨0,λk _ n=>by
  simp only[Ac6,A08,G77,G76,br_false]⟩
 exact this
theorem RoomI.noZ {r:A6} (h:RoomI r):NoZ r.1:=λe he=>by
 have:=(Aj4 (h.ev e he)).2.1
 omega
theorem Dr8 (r:A6) (h:RoomI r) (prev:List Int) (hp:prev.length≤1000):Ev (λk=>C42 k r prev) (H2 r prev):=by
 refine Re.eq (Re.enter (f:=λk n=>Ai5 k n prev 0 r []) B9 ?_)
 have hlen:=h.len
 have:=Re.loop (ι:=Nat) (l:=λk n (i:Nat)=>Ai5 k n prev (i:Int) r ((prev.take i).map λp=>rd [] r.2.1 (Ad6 r.1 p).toNat)) (I:=λi=>i≤prev.length∧∀j,j<i→Aa3 r (rd 0 prev j)=true) (λi=>prev.length-i) (Q:=λ_ v=>v=H2 r prev) (λi hi ih=>by
  obtain⟨g1,g2⟩:=hi
  simp only[Ai5,B78]
  refine Re.brd (λg=> ?_) (λg=> ?_)
  ·have hl:i<prev.length:=by omega
   refine Re.gdd (by omega) (Re.gdd g ?_)
   simp only[G33]
   refine Re.c2 (C79 r (by omega) _) ?_
   have no:¬(0≤Ad6 r.1 (rd 0 prev i)∧Ad6 r.1 (rd 0 prev i)<r.2.1.length)→(([]:List A1),false)=H2 r prev:=λq=>by
    unfold H2
    have:prev.all (Aa3 r)=false:=by
     rw[List.all_eq_false]
     exact⟨rd 0 prev i,by rw[C2 hl];exact G47 _,by unfold Aa3;simp[q]⟩
    rw[this];rfl
   refine Re.brd (λq=>Re.ret (no λx=>by omega)) (λq=> ?_)
   refine Re.brd (λq2=>Re.ret (no λx=>by omega)) (λq2=> ?_)
   refine Re.gdd (by omega) (Re.gdd (by omega) (Re.gdd (by simp[A5];omega) ?_))
   rw[B2 hl (by omega)]
   have next:=ih (i+1) ⟨by omega,λj hj=>by
    by_cases q3:j<i
    ·exact g2 j q3
    ·have:j=i:=by omega
     subst this
     exact G54 ⟨by omega,by omega⟩⟩ (by omega)
   rw[T7 hl,G64]at next
   exact next
  ·rw[G40 (by omega)]
   have hall:prev.all (Aa3 r)=true:=by
    rw[G90]
    intro p hp
    obtain⟨j,hj,rfl⟩:=G63 hp
    have:=g2 j (by omega)
    rwa [C2 hj]at this
   have hN:StsN (prev.map λp=>rd [] r.2.1 (Ad6 r.1 p).toNat):=⟨by simp;omega,λj hj=>by
    have hj2:j<prev.length:=by simpa using hj
    rw[C2 hj,List.getElem_map]
    have:=G62 (G90.1 hall _ (G47 hj2))
    exact h.st _ (by omega)⟩
   refine Re.c2 (E36 r.1 h.evs h.copyS h.noZ _ hN) (Re.ret ?_)
   unfold H2
   rw[hall];rfl) 0 ⟨G49 _,λj hj=>by omega⟩
 simpa using this
theorem E37 (r:A6) (h:RoomI r):Ev (λk=>Di9 k r) (Ae2 r):=by
 refine Re.eq (Re.c1 (Dr7 r h.prevS) (Re.c1 (Dr8 r h _ (by have:=Bu9 r h;omega)) (Re.ret rfl)))
theorem F88 {es:List A0} {p:Int}:C5 es p=if Ad6 es p≥0 then(rd A4 es (Ad6 es p).toNat,true)else(Cl5,false):=by
 rcases Dj8 es p with⟨e,hn⟩|⟨i,hi,e,e2,e3⟩
 ·rw[e,G41 (by omega)]
  rcases Ax1 es p with q|⟨x,hx,_,q⟩
  ·exact q
  ·exact absurd q (hn x hx)
 ·rw[e,G45 (by omega),G33]
  unfold C5
  have:es.find? (λx=>x.1==p)=some (rd A4 es i):=by
   rw[List.find?_eq_some_iff_getElem]
   refine⟨by simpa using e2,i,hi,by rw[C2 hi],λj hj=> ?_⟩
   have:=e3 j hj
   rw[C2 (show j<es.length by omega)]at this
   simpa using this
  rw[this];rfl
theorem Bv1 (r:A6) (hc:Ay8 r.1) (prev:List Int) (hp:prev.length≤1048576):Ev (λk=>Ac5 k r prev) (Ad7 r.1 prev):=by
 refine Re.eq (Re.enter (f:=λk n=>Ac4 k n (-1) prev 0 r) B9 ?_)
 have:=Re.loop (ι:=Nat) (l:=λk n (i:Nat)=>Ac4 k n ((prev.take i).foldl (A69 r.1) (-1)) prev (i:Int) r) (I:=λi=>i≤prev.length) (λi=>prev.length-i) (Q:=λ_ v=>v=Ad7 r.1 prev) (λi hi ih=>by
  simp only[Ac4,Br3]
  refine Re.brd (λg=> ?_) (λg=>Re.ret ?_)
  ·have hl:i<prev.length:=by omega
   have next:=ih (i+1) (by omega) (by omega)
   rw[Aa1 (A69 r.1) 0 prev _ hl]at next
   generalize(prev.take i).foldl (A69 r.1) (-1)=m at next ⊢
   refine Re.gdd (by omega) (Re.gdd g ?_)
   simp only[G33]
   rw[B2 hl (by omega)]
   refine Re.c2 (As2 r.1 hc _) ?_
   rw[F88]
   unfold A69 at next
   by_cases q:Ad6 r.1 (rd 0 prev i)≥0
   ·rw[G45 q]
    refine Re.br (b:=true) (λ_=> ?_) (λh=>by cases h)
    by_cases q2:(rd A4 r.1 (Ad6 r.1 (rd 0 prev i)).toNat).2.2.2.2.2.2.2.2.1>m
    ·rw[G45 ⟨q,q2⟩]at next
     rw[G45 q2];exact next
    ·rw[G41 λh=>q2 h.2]at next
     rw[G41 q2];exact next
   ·rw[G41 q]
    rw[G41 λh=>q h.1]at next
    exact Re.br (b:=false) (λh=>by cases h) (λ_=>next)
  ·rw[G40 (by omega)]
   have hge:=Ec0 r.1 prev (-1)
   unfold Ad7
   have e:prev.foldl (A69 r.1) (-1)=Fg1 r.1 prev:=rfl
   rw[e]at hge ⊢
   by_cases q:Fg1 r.1 prev>1000000
   ·rw[G45 (by omega),G45 q];rfl
   ·rw[G41 (by omega),G41 q,D7 (by omega) (by omega)]) 0 (G49 _)
 exact this
theorem Ed3 (k:Nat) (s:List A1) (h:s.length≤1048576):V9 k s=some s:=by
 unfold V9
 rw[G54 (by unfold A5;omega)];rfl
theorem Co6 (r:A6) (h:RoomI r):Ev (λk=>Ag4 k r) r:=by
 have hlen:=h.len
 have hsl:=h.sl
 have hgl:=h.gl
 refine Re.eq (Re.gdd (by unfold A5;omega) (Re.enter (f:=λk n=>m9 k n r 0 []) B9 ?_))
 have two:Re (λx:Nat×Nat=>m8 x.1 x.2 r 0 r.1 []) (λv=>v=r):=by
  have:=Re.loop (ι:=Nat) (l:=λk n (i:Nat)=>m8 k n r (i:Int) r.1 (r.2.1.take i)) (I:=λi=>i≤r.2.1.length) (λi=>r.2.1.length-i) (Q:=λ_ v=>v=r) (λi hi ih=>by
   simp only[m8,Bf2]
   refine Re.brd (λg=> ?_) (λg=>Re.ret (by rw[G40 (by omega)]))
   have hl:i<r.2.1.length:=by omega
   have hs:=h.st i hl
   refine Re.gdd (by omega) (Re.gdd g ?_)
   simp only[G33]
   refine Re.s2 (Ed3 · _ (by omega)) (Re.gdd (by simp[A5];omega) ?_)
   rw[B2 hl (by omega)]
   have next:=ih (i+1) (by omega) (by omega)
   rw[G66,G36 hl]at next
   rw[C2 hl];exact next) 0 (G49 _)
  simpa using this
 have:=Re.loop (ι:=Nat) (l:=λk n (i:Nat)=>m9 k n r (i:Int) (r.1.take i)) (I:=λi=>i≤r.1.length) (λi=>r.1.length-i) (Q:=λ_ v=>v=r) (λi hi ih=>by
  simp only[m9,Bf3]
  refine Re.brd (λg=> ?_) (λg=>by rw[G40 (by omega)];exact two)
  have hl:i<r.1.length:=by omega
  have hm:=h.copyS.2 i hl
  refine Re.gdd (by omega) (Re.gdd g ?_)
  simp only[G33]
  refine Re.s2 (An0 · _ hm.1 hm.2) (Re.gdd (by simp[A5];omega) ?_)
  rw[B2 hl (by omega)]
  have next:=ih (i+1) (by omega) (by omega)
  rw[G66,G36 hl]at next
  rw[C2 hl];exact next) 0 (G49 _)
 simpa using this
theorem B96 (r:A6) (h:RoomI r) (e:A0) (hm:D1 e≤1048576):Ev (λk=>Ar2 k r e) (K9 r e):=by
 have hlen:=h.len
 have hsl:=h.sl
 have hgl:=h.gl
 obtain⟨hm1,hm2,hm3⟩:=R0 hm
 refine Re.eq ?_
 refine Re.brn (λq=>absurd (by rw[hsl]) q) (λ_=>Re.brn (λq=>absurd (by rw[hgl]) q) (λ_=>Re.c1 (Bu0 e hm) ?_))
 unfold K9
 cases ho:J9 e with
 |false=>
  refine Re.br (b:=true) (λ_=>Re.ret ?_) (λh=>by cases h)
  rw[Bool.false_and,Bool.and_false];rfl
 |true=>
  have hp:e.2.2.2.2.2.2.2.1.length≤1000:=by have:=(M8 ho).1;omega
  have hbl:=A72 h hp
  refine Re.br (b:=false) (λh=>by cases h) (λ_=> ?_)
  refine Re.brd (λq=>Re.ret ?_) (λq=>Re.c1 (C79 r (by omega) _) ?_)
  ·rw[G55 (show¬r.1.length<40 by omega)]
   simp
  rw[G54 (show r.1.length<40 by omega)]
  refine Re.brd (λq2=>Re.ret ?_) (λq2=>Re.c1 (Dr8 r h _ hp) ?_)
  ·rw[G55 (show¬Ad6 r.1 e.1<0 by omega)]
   simp
  rw[G54 (show Ad6 r.1 e.1<0 by omega)]
  generalize H2 r e.2.2.2.2.2.2.2.1=b at hbl ⊢
  obtain⟨s,ok⟩:=b
  cases ok with
  |false=>exact Re.ret rfl
  |true=>
   refine Re.br (b:=false) (λh=>by cases h) (λ_=>Re.c1 (Bv1 r h.copyS _ (by omega)) ?_)
   refine Re.brn (λq3=>Re.ret (by rw[G55 q3];rfl)) (λq3=> ?_)
   rw[G54 q3]
   simp only at hbl
   refine Re.c1 (C75 r.1 h.copyS h.noZ s (by omega) e hm) ?_
   have hcp:∀k,P5 k e=some e:=λk=>An0 k e hm1 hm3
   have fin:∀(st:List A1) (b:Bool),Re (λk=>bd (Ag4 k r) λr9=> (bd (P5 k e) λr10=> (gd (decide (r9.1.length+([r10]:List A0).length≤A5)) (gd (decide (r9.2.1.length+ [st].length≤A5)) (gd (decide (r9.2.2.1.length+ [b].length≤A5)) (some (((r9.1++([r10]:List A0)),(r9.2.1++ [st]),(r9.2.2.1++ [b]),()),true))))))) (λv=>v=((r.1++ [e],r.2.1++ [st],r.2.2.1++ [b],()),true)):=λst b=>
    Re.c1 (Co6 r h) (Re.s1 hcp (Re.gdd (by simp[A5];omega) (Re.gdd (by simp[A5];omega) (Re.gdd (by simp[A5];omega) (Re.ret rfl)))))
   cases ha:p9 r.1 s e with
   |false=>exact Re.br (b:=false) (λh=>by cases h) (λ_=>fin s false)
   |true=>
    refine Re.br (b:=true) (λ_=>Re.s1 (Cw6 e ·) ?_) (λh=>by cases h)
    refine Re.brn (λq4=> ?_) (λq4=> ?_)
    ·refine Re.s1 (Cw6 e ·) (Re.c1 (Fh1 s (by omega) _ _) ?_)
     have e4:(A68 e !=0)=true:=by simp[q4]
     rw[e4]
     exact fin _ true
    ·rw[q4]
     exact fin s true
theorem Co7 (r:A6) (h:RoomI r) (e:A0) (hm:D1 e≤1048576) (hp:e.2.2.2.2.2.2.2.1.length≤1000):Ev (λk=>Ar2 k r e) (K9 r e):=B96 r h e hm
end Go.Vm
end
section
namespace Go.Vm
open Go
theorem Re.call {ι α R:Type} [Fuel ι] {κ:ι→Nat} {g:Nat→Option α} {F:ι→α→Option R} {v:α} {Q:R→Prop} (hκ:D70 κ) (h:Ev g v) (h2:Re (λx=>F x v) Q):Re (λx=>Vm.bd (g (κ x)) (F x)) Q:=
 Re.bd (P:=λa=>a=v) hκ (Ev.re h rfl) λa ha=>by subst ha;exact h2
theorem Re.some {ι R:Type} [Fuel ι] {v w:R} (h:v=w):Re (λ_:ι=>some v) (λa=>a=w):=Re.ret h
theorem Av0 {α:Type} {l:Nat→Nat→Nat→Option Bool} {V:Bool} (a b:List α) (hl:a.length=b.length)
  (hs:∀i (h:i<a.length) (h':i<b.length),(a[i]=b[i]→Re (λx:Nat×Nat=>l x.1 x.2 (i+1)) (λv=>v=V))→(a[i]≠b[i]→V=false)→Re (λx:Nat×Nat=>l x.1 (x.2+1) i) (λv=>v=V))
  (hne:a≠b→V=false) (he:a=b→Re (λx:Nat×Nat=>l x.1 (x.2+1) a.length) (λv=>v=V)):Re (λx:Nat×Nat=>l x.1 x.2 0) (λv=>v=V):=by
 have:=Re.loop (ι:=Nat) (l:=λk n i=>l k n i) (I:=λi=>i≤a.length∧∀j,j<i→a[j]? =b[j]?) (λi=>a.length-i) (Q:=λ_ v=>v=V) (λi hi ih=>by
  by_cases h:i<a.length
  ·have h':i<b.length:=by omega
   refine hs i h h' (λe=>ih (i+1) ⟨by omega,λj hj=> ?_⟩ (by omega)) (λe=>hne (λe2=>e (by simp only[e2])))
   by_cases hj2:j<i
   ·exact hi.2 j hj2
   ·have:j=i:=by omega
    subst this
    rw[G36 h,G36 h',e]
  ·have hi2:i=a.length:=by omega
   subst hi2
   refine he (List.ext_getElem? λj=> ?_)
   by_cases hj:j<a.length
   ·exact hi.2 j hj
   ·rw[G75 (by omega),G75 (by omega)]) 0 ⟨G49 _,λj hj=>by omega⟩
 exact this
theorem o7 {a b:Int} (h:(a !=b)=false):a=b:=by simpa using h
theorem Fh7 (x y:A1):(x.1==y.1&&(x.2.1==y.2.1&&true))=decide (x=y):=by
 obtain⟨x1,x2,⟨⟩⟩:=x
 obtain⟨y1,y2,⟨⟩⟩:=y
 rw[Bool.eq_iff_iff]
 simp
theorem Cw7 (a b:List Int) (h:a.length≤1048576):Ev (λk=>E9 k a b) (decide (a=b)):=by
 refine Re.eq ?_
 refine Re.br (λh=> ?_) (λh=> ?_)
 ·exact .some (G55 (λe=>by subst e;simp at h)).symm
 ·have hl:a.length=b.length:=by have:=o7 h;omega
  refine Re.enter (f:=λk n=>F3 k n a b 0) B9 ?_
  refine Av0 (l:=λk n i=>F3 k n a b (i:Int)) a b hl (λi h h' ih hf=> ?_) (λh=>G55 h) (λh=> ?_)
  ·simp only[F3,M7,G61,h,h',G42,G56,br_true,gd_true,G33,C2,B2 h (by omega)]
   refine Re.br (λhc=> ?_) (λhc=> ?_)
   ·exact .some (hf (by simpa using hc)).symm
   ·exact ih (by simpa using hc)
  ·simp only[F3,M7,G77,G76,br_false]
   exact .some (G54 h).symm
theorem Fh8 (a b:List Int) (h:a.length≤1048576):Ev (λk=>N3 k a b) (decide (a=b)):=by
 refine Re.eq ?_
 refine Re.br (λh=> ?_) (λh=> ?_)
 ·exact .some (G55 (λe=>by subst e;simp at h)).symm
 ·have hl:a.length=b.length:=by have:=o7 h;omega
  refine Re.enter (f:=λk n=>G2 k n a b 0) B9 ?_
  refine Av0 (l:=λk n i=>G2 k n a b (i:Int)) a b hl (λi h h' ih hf=> ?_) (λh=>G55 h) (λh=> ?_)
  ·simp only[G2,O3,G61,h,h',G42,G56,br_true,gd_true,G33,C2,B2 h (by omega)]
   refine Re.br (λhc=> ?_) (λhc=> ?_)
   ·exact .some (hf (by simpa using hc)).symm
   ·exact ih (by simpa using hc)
  ·simp only[G2,O3,G77,G76,br_false]
   exact .some (G54 h).symm
theorem Fh9 (a b:List A1) (h:a.length≤1048576):Ev (λk=>I6 k a b) (decide (a=b)):=by
 refine Re.eq ?_
 refine Re.br (λh=> ?_) (λh=> ?_)
 ·exact .some (G55 (λe=>by subst e;simp at h)).symm
 ·have hl:a.length=b.length:=by have:=o7 h;omega
  refine Re.enter (f:=λk n=>D6 k n a b 0) B9 ?_
  refine Av0 (l:=λk n i=>D6 k n a b (i:Int)) a b hl (λi h h' ih hf=> ?_) (λh=>G55 h) (λh=> ?_)
  ·simp only[D6,H0,G61,h,h',G42,G56,br_true,gd_true,G33,C2,B2 h (by omega),Fh7]
   refine Re.br (λhc=> ?_) (λhc=> ?_)
   ·exact .some (hf (by simpa using hc)).symm
   ·exact ih (by simpa using hc)
  ·simp only[D6,H0,G77,G76,br_false]
   exact .some (G54 h).symm
theorem Em4 (a b:List A1) (h:a.length≤1048576):Ev (λk=>Al0 k a b) (decide (a=b)):=by
 refine Re.eq ?_
 refine Re.br (λh=> ?_) (λh=> ?_)
 ·exact .some (G55 (λe=>by subst e;simp at h)).symm
 ·have hl:a.length=b.length:=by have:=o7 h;omega
  refine Re.enter (f:=λk n=>N5 k n a b 0) B9 ?_
  refine Av0 (l:=λk n i=>N5 k n a b (i:Int)) a b hl (λi h h' ih hf=> ?_) (λh=>G55 h) (λh=> ?_)
  ·simp only[N5,p8,G61,h,h',G42,G56,br_true,gd_true,G33,C2,B2 h (by omega),Fh7]
   refine Re.br (λhc=> ?_) (λhc=> ?_)
   ·exact .some (hf (by simpa using hc)).symm
   ·exact ih (by simpa using hc)
  ·simp only[N5,p8,G77,G76,br_false]
   exact .some (G54 h).symm
theorem Fi0 (a b:List Bool) (h:a.length≤1048576):Ev (λk=>R8 k a b) (decide (a=b)):=by
 refine Re.eq ?_
 refine Re.br (λh=> ?_) (λh=> ?_)
 ·exact .some (G55 (λe=>by subst e;simp at h)).symm
 ·have hl:a.length=b.length:=by have:=o7 h;omega
  refine Re.enter (f:=λk n=>G1 k n a b 0) B9 ?_
  refine Av0 (l:=λk n i=>G1 k n a b (i:Int)) a b hl (λi h h' ih hf=> ?_) (λh=>G55 h) (λh=> ?_)
  ·simp only[G1,O2,G61,h,h',G42,G56,br_true,gd_true,G33,C2,B2 h (by omega)]
   refine Re.br (λhc=> ?_) (λhc=> ?_)
   ·exact .some (hf (by simpa using hc)).symm
   ·exact ih (by simpa using hc)
  ·simp only[G1,O2,G77,G76,br_false]
   exact .some (G54 h).symm
theorem Fu2 (a b:List Int):Bf6 a b=decide (a=b):=by
 rw[Bool.eq_iff_iff]
 unfold Bf6
 simp only[G37,beq_iff_eq,P3,G81]
 constructor
 ·rintro⟨h1,h2⟩
  have hl:a.length=b.length:=by omega
  refine List.ext_getElem hl λi h h'=> ?_
  have:=h2 i h
  rwa [C2 h,C2 h']at this
 ·rintro rfl
  exact⟨rfl,λ_ _=>rfl⟩
theorem Fu3 (a b:A0):Ax7 a b=eqd a b:=by
 obtain⟨x0,x1,x2,x3,x4,l,t,p,d,⟨⟩⟩:=a
 obtain⟨y0,y1,y2,y3,y4,l2,t2,p2,d2,⟨⟩⟩:=b
 rw[Bool.eq_iff_iff]
 rw[Bu4]
 simp only[Ax7,Eb5,Ez4,Fu2,j8,Bc4,C61,A16,j9,Ar8,G3,F8,G37,beq_iff_eq,G81,Prod.mk.injEq,and_true]
 constructor
 ·rintro⟨⟨⟨⟨⟨⟨⟨⟨h0,h1⟩,h2⟩,h3⟩,h4⟩,h5⟩,h6⟩,h7⟩,h8⟩
  exact⟨h0,h1,h2,h3,h4,h7,h5,h8,h6⟩
 ·rintro⟨h0,h1,h2,h3,h4,h7,h5,h8,h6⟩
  exact⟨⟨⟨⟨⟨⟨⟨⟨h0,h1⟩,h2⟩,h3⟩,h4⟩,h5⟩,h6⟩,h7⟩,h8⟩
theorem F89 (a b:A6) (ha:P7 a≤1048576):Ev (λk=>Di1 k a b) (eqd a b):=by
 have h1:F6 a.1+(H9 a.2.1+(Q5 a.2.2.1+0))≤1048576:=ha
 have he:a.1.length+(a.1.map D1).sum≤1048576:=by have:F6 a.1=a.1.length+(a.1.map D1).sum:=rfl;omega
 have hi:a.2.1.length+(a.2.1.map H1).sum≤1048576:=by have:H9 a.2.1=a.2.1.length+(a.2.1.map H1).sum:=rfl;omega
 have hb:a.2.2.1.length≤1048576:=by have:Q5 a.2.2.1=a.2.2.1.length:=rfl;omega
 refine Re.eq ?_
 refine Re.br (λh=> .some (Bf7 (λe=>by subst e;simp at h)).symm) (λh=> ?_)
 have l1:a.1.length=b.1.length:=by have:=o7 h;omega
 refine Re.br (λh=> .some (Bf7 (λe=>by subst e;simp at h)).symm) (λh=> ?_)
 have l2:a.2.1.length=b.2.1.length:=by have:=o7 h;omega
 refine Re.br (λh=> .some (Bf7 (λe=>by subst e;simp at h)).symm) (λh=> ?_)
 have l3:a.2.2.1.length=b.2.2.1.length:=by have:=o7 h;omega
 refine Re.enter (f:=λk n=>b8 k n 0 a b) B9 ?_
 refine Av0 (l:=λk n i=>b8 k n (i:Int) a b) a.1 b.1 l1 (λi h h' ih hf=> ?_) (λh=>Bf7 (λe=>h (by rw[e]))) (λe1=> ?_)
 ·simp only[b8,A03,G61,h,h',G42,G56,br_true,gd_true,G33,C2,B2 h (by omega)]
  refine Re.call (g:=λk=>A28 k a.1[i] b.1[i]) (k9 B9) (C63 a.1[i] b.1[i] (by have:=N4 D1 (G47 h);omega)) ?_
  rw[Fu3]
  refine Re.br (λhc=> .some (hf (λe=>by rw[Ft2 e]at hc;cases hc)).symm) (λhc=>ih (Bu4.1 (by simpa using hc)))
 ·simp only[b8,A03,G77,G76,br_false]
  refine Av0 (l:=λk n i=>Ab5 k n (i:Int) a b) a.2.1 b.2.1 l2 (λi h h' ih hf=> ?_) (λh=>Bf7 (λe=>h (by rw[e]))) (λe2=> ?_)
  ·simp only[Ab5,A02,G61,h,h',G42,G56,br_true,gd_true,G33,C2,B2 h (by omega)]
   refine Re.call (g:=λk=>Al0 k a.2.1[i] b.2.1[i]) (k9 B9) (Em4 a.2.1[i] b.2.1[i] (by have:=N4 H1 (G47 h);have:H1 a.2.1[i]=a.2.1[i].length:=rfl;omega)) ?_
   refine Re.br (λhc=> .some (hf (by simpa using hc)).symm) (λhc=>ih (by simpa using hc))
  ·simp only[Ab5,A02,G77,G76,br_false]
   refine Av0 (l:=λk n i=>Ab4 k n (i:Int) a b) a.2.2.1 b.2.2.1 l3 (λi h h' ih hf=> ?_) (λh=>Bf7 (λe=>h (by rw[e]))) (λe3=> ?_)
   ·simp only[Ab4,A01,G61,h,h',G42,G56,br_true,gd_true,G33,C2,B2 h (by omega)]
    refine Re.br (λhc=> .some (hf (by simpa using hc)).symm) (λhc=>ih (by simpa using hc))
   ·simp only[Ab4,A01,G77,G76,br_false]
    exact .some (Ft2 (Prod.ext e1 (Prod.ext e2 (Prod.ext e3 rfl)))).symm
theorem F90 (a b:A6) (ha:P7 a≤1048576):Ev (λk=>Cv4 k a b) (eqd a b):=by
 have h1:F6 a.1+(H9 a.2.1+(Q5 a.2.2.1+0))≤1048576:=ha
 have he:a.1.length+(a.1.map D1).sum≤1048576:=by have:F6 a.1=a.1.length+(a.1.map D1).sum:=rfl;omega
 have hi:a.2.1.length+(a.2.1.map H1).sum≤1048576:=by have:H9 a.2.1=a.2.1.length+(a.2.1.map H1).sum:=rfl;omega
 have hb:a.2.2.1.length≤1048576:=by have:Q5 a.2.2.1=a.2.2.1.length:=rfl;omega
 refine Re.eq ?_
 refine Re.br (λh=> .some (Bf7 (λe=>by subst e;simp at h)).symm) (λh=> ?_)
 have l1:a.1.length=b.1.length:=by have:=o7 h;omega
 refine Re.enter (f:=λk n=>X3 k n b a 0) B9 ?_
 refine Av0 (l:=λk n i=>X3 k n b a (i:Int)) a.1 b.1 l1 (λi h h' ih hf=> ?_) (λh=>Bf7 (λe=>h (by rw[e]))) (λe1=> ?_)
 ·simp only[X3,Au3,G61,h,h',G42,G56,br_true,gd_true,G33,C2,B2 h (by omega)]
  have hm:D1 a.1[i]≤1048576:=by have:=N4 D1 (G47 h);omega
  obtain⟨n1,n2,n3⟩:=R0 hm
  revert ih hf
  generalize a.1[i]=x at n1 n2 n3 ⊢
  generalize b.1[i]=y
  intro ih hf
  obtain⟨x0,x1,x2,x3,x4,l,t,p,d,⟨⟩⟩:=x
  obtain⟨y0,y1,y2,y3,y4,m,u,q,c,⟨⟩⟩:=y
  simp only[G3,F8]at n1 n3
  refine Re.br (λc0=> ?_) (λc0=> .some (hf (λe=>by simp only[Prod.mk.injEq,and_true]at e;simp[e]at c0)).symm)
  refine Re.br (λc1=> ?_) (λc0=> .some (hf (λe=>by simp only[Prod.mk.injEq,and_true]at e;simp[e]at c0)).symm)
  refine Re.br (λc2=> ?_) (λc0=> .some (hf (λe=>by simp only[Prod.mk.injEq,and_true]at e;simp[e]at c0)).symm)
  refine Re.br (λc3=> ?_) (λc0=> .some (hf (λe=>by simp only[Prod.mk.injEq,and_true]at e;simp[e]at c0)).symm)
  refine Re.br (λc4=> ?_) (λc0=> .some (hf (λe=>by simp only[Prod.mk.injEq,and_true]at e;simp[e]at c0)).symm)
  refine Re.call (g:=λk=>E9 k l m) (k9 B9) (Cw7 l m n1) ?_
  refine Re.br (λc5=> ?_) (λc0=> .some (hf (λe=>by simp only[Prod.mk.injEq,and_true]at e;simp[e]at c0)).symm)
  refine Re.br (λc6=> ?_) (λc0=> .some (hf (λe=>by simp only[Prod.mk.injEq,and_true]at e;simp[e]at c0)).symm)
  refine Re.call (g:=λk=>E9 k p q) (k9 B9) (Cw7 p q n3) ?_
  refine Re.br (λc7=> ?_) (λc0=> .some (hf (λe=>by simp only[Prod.mk.injEq,and_true]at e;simp[e]at c0)).symm)
  refine Re.br (λc0=> .some (hf (λe=>by simp only[Prod.mk.injEq,and_true]at e;simp[e]at c0)).symm) (λc8=>ih ?_)
  rw[Ez4]at c6
  simp only[beq_iff_eq,G81,Bool.not_eq_false',Prod.mk.injEq,and_true]at*
  exact⟨c0,c1,c2,c3,c4,c5,c6,c7,c8⟩
 ·simp only[X3,Au3,G77,G76,br_false]
  refine Re.br (λh=> .some (Bf7 (λe=>by subst e;simp at h)).symm) (λh=> ?_)
  have l2:a.2.1.length=b.2.1.length:=by have:=o7 h;omega
  refine Av0 (l:=λk n i=>n6 k n b a (i:Int)) a.2.1 b.2.1 l2 (λi h h' ih hf=> ?_) (λh=>Bf7 (λe=>h (by rw[e]))) (λe2=> ?_)
  ·simp only[n6,Au2,G61,h,h',G42,G56,br_true,gd_true,G33,C2,B2 h (by omega)]
   refine Re.call (g:=λk=>I6 k a.2.1[i] b.2.1[i]) (k9 B9) (Fh9 a.2.1[i] b.2.1[i] (by have:=N4 H1 (G47 h);have:H1 a.2.1[i]=a.2.1[i].length:=rfl;omega)) ?_
   refine Re.br (λhc=> .some (hf (by simpa using hc)).symm) (λhc=>ih (by simpa using hc))
  ·simp only[n6,Au2,G77,G76,br_false]
   refine Re.call (g:=λk=>R8 k a.2.2.1 b.2.2.1) (k9 B9) (Fi0 a.2.2.1 b.2.2.1 hb) ?_
   refine .some ?_
   rw[Bool.eq_iff_iff]
   simp only[G81,Bu4]
   exact⟨λe3=>Prod.ext e1 (Prod.ext e2 (Prod.ext e3 rfl)),λe=>by rw[e]⟩
end Go.Vm
end
section
namespace Go.Vm
open Go
theorem Cw8 {r:A6} (h:RoomI r) {e:A0} (ho:(K9 r e).2=true):RoomI (K9 r e).1:=by
 obtain⟨_,h2,_⟩:=Et9 ho
 have:=(M8 h2).1
 exact(Ck3 h (by omega) ho).1
theorem Cw9 {α:Type} (f:α→Nat) (c:Nat):∀(xs:List α),(∀x∈xs,f x≤c)→(xs.map f).sum≤xs.length*c
 | [],_=>by simp
 |x::xs,h=>by
  have h1:=h x (G39 ..)
  have h2:=Cw9 f c xs λy hy=>h y (G38 _ hy)
  rw[G95,List.sum_cons,G82,Nat.succ_mul]
  omega
noncomputable def An1:A6→List A0→A6×Bool
 |n,[]=> (n,true)
 |n,e::es=>bif (K9 n e).2 then An1 (K9 n e).1 es else(([],[],[],()),false)
theorem B97:∀(es:List A0) {n:A6},RoomI n→RoomI (An1 n es).1
 | [],_,h=>h
 |e::es,n,h=>by
  unfold An1
  cases ho:(K9 n e).2 with
  |false=>exact Ck4
  |true=>exact B97 es (Cw8 h ho)
theorem D26 {α:Type} {d:α} {xs:List α} {i:Nat} (h:i<xs.length):xs.drop i=rd d xs i::xs.drop (i+1):=by
 rw[G89 h,C2 h]
noncomputable def B98 (es:List A0):A6×Bool:=An1 ([],[],[],()) es
theorem E38 (es:List A0) (hm:F6 es≤1048576):Ev (λk=>D96 k es) (B98 es):=by
 have hl:es.length≤1048576:=by unfold F6 at hm;omega
 have hme:∀i,i<es.length→D1 (rd A4 es i)≤1048576:=λi hi=>by
  have:rd A4 es i∈es:=by rw[C2 hi];exact G47 _
  have:=N4 D1 this
  unfold F6 at hm;omega
 refine Re.eq (Re.enter (f:=λk n=>Ai6 k n es 0 [] [] []) B9 ?_)
 have:=Re.loop (ι:=Nat) (l:=λk n (st:Nat×A6)=>Ai6 k n es (st.1:Int) st.2.1 st.2.2.1 st.2.2.2.1) (I:=λst=>st.1≤es.length∧RoomI st.2∧An1 st.2 (es.drop st.1)=B98 es) (λst=>es.length-st.1) (Q:=λ_ v=>v=B98 es) (λst hi ih=>by
  obtain⟨i,n⟩:=st
  obtain⟨g1,g2,g3⟩:=hi
  simp only at g1 g2 g3 ih ⊢
  simp only[Ai6,B79,G33]
  refine Re.brd (λg=> ?_) (λg=>Re.ret ?_)
  ·have hil:i<es.length:=by omega
   rw[D26 (d:=A4) hil]at g3
   unfold An1 at g3
   refine Re.gdd (by omega) (Re.gdd g (Re.c2 (B96 n g2 _ (hme i hil)) ?_))
   rw[B2 hil (by omega)]
   cases ho:(K9 n (rd A4 es i)).2 with
   |false=>
    refine Re.br (b:=true) (λ_=>Re.ret ?_) (λh=>by cases h)
    rw[ho]at g3;exact g3
   |true=>
    rw[ho]at g3
    exact Re.br (b:=false) (λh=>by cases h) (λ_=>ih (i+1,(K9 n (rd A4 es i)).1) ⟨by omega,Cw8 g2 ho,g3⟩ (by simp only;omega))
  ·have e:es.drop i=[]:=Hc0 (by omega)
   rw[e]at g3
   exact g3) (0,([],[],[],())) ⟨G49 _,Ck4,rfl⟩
 exact this
noncomputable def Ae4 (r:A6):Bool:= !decide ((r.1.length:Int)>40)&&((B98 r.1).2&&eqd (B98 r.1).1 r)
theorem RoomI.m {r:A6} (h:RoomI r):P7 r≤1048576:=by
 have hl:=h.len
 have hsl:=h.sl
 have hgl:=h.gl
 have s1:(r.1.map D1).sum≤r.1.length*1000:=Cw9 D1 1000 r.1 λe he=> (M8 (h.ev e he)).2
 have s2:(r.2.1.map H1).sum≤r.2.1.length*16:=Cw9 H1 16 r.2.1 λs hs=>by
  obtain⟨i,hi,rfl⟩:=G63 hs
  have:=h.st i hi
  rw[C2 hi]at this
  exact this
 unfold P7 F6 H9 Q5
 omega
theorem E39 (r:A6) (hm:P7 r≤1048576):Ev (λk=>D97 k r) (Ae4 r):=by
 have hme:F6 r.1≤1048576:=by unfold P7 at hm;omega
 have hR:=B97 r.1 Ck4
 unfold Ae4
 refine Re.eq (Re.brd (λq=>Re.ret (by rw[G54 q];rfl)) (λq=>Re.c1 (E38 r.1 hme) ?_))
 rw[G55 q]
 cases ho:(B98 r.1).2 with
 |false=>exact Re.br (b:=false) (λh=>by cases h) (λ_=>Re.ret rfl)
 |true=>exact Re.br (b:=true) (λ_=>Re.c1 (F90 _ r hR.m) (Re.ret rfl)) (λh=>by cases h)
theorem E40 (r:A6) (hm:P7 r≤1048576):Ev (λk=>D81 k r) (Ae4 r):=by
 have hme0:F6 r.1≤1048576:=by unfold P7 at hm;omega
 have hl:r.1.length≤1048576:=by unfold F6 at hme0;omega
 have hme:∀i,i<r.1.length→D1 (rd A4 r.1 i)≤1048576:=λi hi=>by
  have:rd A4 r.1 i∈r.1:=by rw[C2 hi];exact G47 _
  have:=N4 D1 this
  unfold F6 at hme0;omega
 unfold Ae4
 refine Re.eq (Re.brd (λq=>Re.ret (by rw[G54 q];rfl)) (λq=> ?_))
 rw[G55 q]
 refine Re.enter (f:=λk n=>Ah6 k n 0 r [] [] []) B9 ?_
 have:=Re.loop (ι:=Nat) (l:=λk n (st:Nat×A6)=>Ah6 k n (st.1:Int) r st.2.1 st.2.2.1 st.2.2.2.1) (I:=λst=>st.1≤r.1.length∧RoomI st.2∧An1 st.2 (r.1.drop st.1)=B98 r.1) (λst=>r.1.length-st.1) (Q:=λ_ v=>v=((B98 r.1).2&&eqd (B98 r.1).1 r)) (λst hi ih=>by
  obtain⟨i,n⟩:=st
  obtain⟨g1,g2,g3⟩:=hi
  simp only at g1 g2 g3 ih ⊢
  simp only[Ah6,B72,G33]
  refine Re.brd (λg=> ?_) (λg=> ?_)
  ·have hil:i<r.1.length:=by omega
   rw[D26 (d:=A4) hil]at g3
   unfold An1 at g3
   have hmi:=hme i hil
   refine Re.gdd (by omega) (Re.gdd g (Re.c2 (C70 n g2 _ hmi (R0 hmi).2.2) ?_))
   rw[B2 hil (by omega)]
   cases ho:(K9 n (rd A4 r.1 i)).2 with
   |false=>
    refine Re.br (b:=true) (λ_=>Re.ret ?_) (λh=>by cases h)
    rw[ho]at g3;rw[←g3];rfl
   |true=>
    rw[ho]at g3
    exact Re.br (b:=false) (λh=>by cases h) (λ_=>ih (i+1,(K9 n (rd A4 r.1 i)).1) ⟨by omega,Cw8 g2 ho,g3⟩ (by simp only;omega))
  ·have e:r.1.drop i=[]:=Hc0 (by omega)
   rw[e]at g3
   refine Re.c2 (F89 n r g2.m) (Re.ret ?_)
   rw[←g3];rfl) (0,([],[],[],())) ⟨G49 _,Ck4,rfl⟩
 exact this
end Go.Vm
end
section
namespace Go.Vm
open Go
theorem C80 {l:Nat→Nat→Nat→Option Bool} {N:Nat} (c:Nat→Bool) {V:Bool}
  (step:∀i,i<N→∀v,(c i=true→Re (λx:Nat×Nat=>l x.1 x.2 (i+1)) (λr=>r=v))→(c i=false→false=v)→Re (λx:Nat×Nat=>l x.1 (x.2+1) i) (λr=>r=v))
  (fin:Re (λx:Nat×Nat=>l x.1 (x.2+1) N) (λr=>r=V)):Re (λx:Nat×Nat=>l x.1 x.2 0) (λr=>r=(S7 N c&&V)):=by
 have:=Re.loop (ι:=Nat) (l:=l) (I:=λi=>i≤N∧∀j,j<i→c j=true) (λi=>N-i) (Q:=λ_ r=>r=(S7 N c&&V)) (λi hi ih=>by
  obtain⟨g1,g2⟩:=hi
  by_cases q:i<N
  ·refine step i q _ (λh=>ih (i+1) ⟨by omega,λj hj=> ?_⟩ (by omega)) λh=> ?_
   ·by_cases q2:j<i
    ·exact g2 j q2
    ·have:j=i:=by omega
     rw[this];exact h
   ·have:S7 N c=false:=by
     cases ha:S7 N c with
     |false=>rfl
     |true=>rw[P3.1 ha i q]at h;cases h
    rw[this];rfl
  ·have e:i=N:=by omega
   subst e
   have:S7 i c=true:=P3.2 g2
   rw[this,Hb6]
   exact fin) 0 ⟨G49 _,λj hj=>by omega⟩
 exact this
def C81 (ss:List A7) (i:Nat):Bool:=
 W6 (rd A3 ss i).1 1 1000000&&(W6 (rd A3 ss i).2.1 0 1000000&&(!decide ((((rd A3 ss i).2.2.1.size:Nat):Int)>40)&&(!((rd A3 ss i).2.1==0&& !((rd A3 ss i).2.2.1.toList==(⟨#[]⟩:ByteArray).toList))&& !(decide ((i:Int)>0)&&decide ((rd A3 ss (i-1)).1≥(rd A3 ss i).1)))))
def B39 (os:List C3) (own:List Int) (i:Nat):Bool:=
 !((rd C1 os i).1 !=((i+1:Nat):Int))&&(decide ((rd C1 os i).2.2.1=own)&&W6 (rd C1 os i).2.1 0 (own.length:Int))
def X6 (r:A6):Nat→List Int
 |0=> []
 |i+1=>if Int.tmod (rd A4 r.1 i).1 2=0∧rd false r.2.2.1 i=true then X6 r i++ [(rd A4 r.1 i).1]else X6 r i
theorem As3 (r:A6):∀i,(X6 r i).length≤i
 |0=>G53 _
 |i+1=>by
  have:=As3 r i
  unfold X6
  split<;>simp<;>omega
theorem ng2 {a:Int}:(a==a&&(2:Int)==0)=false:=by simp
theorem Fi1 (r:A6) (i:Nat) (k:Nat):C44 k r (i:Int)=some (rd false r.2.2.1 i):=by
 unfold C44
 by_cases q2:(i:Int)< (r.2.2.1.length:Int)
 ·rw[G54 q2,G54 (by omega)]
  simp[G33]
 ·rw[G55 q2]
  have:rd false r.2.2.1 i=false:=by simp[rd,G75 (show r.2.2.1.length≤i by omega)]
  rw[this];rfl
theorem E41 (r:A6) (h1:r.1.length≤1048576):Ev (λk=>Di8 k r) (X6 r r.1.length):=by
 refine Re.eq (Re.enter (f:=λk n=>Ad0 k n r 0 []) B9 ?_)
 have:=Re.loop (ι:=Nat) (l:=λk n (i:Nat)=>Ad0 k n r (i:Int) (X6 r i)) (I:=λi=>i≤r.1.length) (λi=>r.1.length-i) (Q:=λ_ v=>v=X6 r r.1.length) (λi hi ih=>by
  simp only[Ad0,Bs5]
  refine Re.brd (λg=> ?_) (λg=>Re.ret (by rw[show i=r.1.length by omega]))
  have hl:i<r.1.length:=by omega
  have hlen:=As3 r i
  rw[B2 hl (by omega)]
  simp only[G33,ng2]
  have next:=ih (i+1) (by omega) (by omega)
  simp only[X6]at next
  refine Re.gdd (by omega) (Re.gdd g (Re.ng rfl ?_))
  refine Re.bre (λq=> ?_) (λq=>by rw[G41 λh=>q h.1]at next;exact next)
  refine Re.s2 (Fi1 r i ·) (Re.br (λq2=> ?_) (λq2=> ?_))
  ·rw[G45 ⟨q,q2⟩]at next
   exact Re.gdd (by simp[A5];omega) next
  ·rw[G41 λh=>by rw[q2]at h;cases h.2]at next
   exact next) 0 (G49 _)
 exact this
theorem Fi2 (r:A6) (h1:r.1.length≤1048576) (hg:r.2.2.1.length=r.1.length):Ev (λk=>D83 k r) (X6 r r.1.length):=by
 refine Re.eq (Re.enter (f:=λk n=>Ah7 k n 0 r []) B9 ?_)
 have:=Re.loop (ι:=Nat) (l:=λk n (i:Nat)=>Ah7 k n (i:Int) r (X6 r i)) (I:=λi=>i≤r.1.length) (λi=>r.1.length-i) (Q:=λ_ v=>v=X6 r r.1.length) (λi hi ih=>by
  simp only[Ah7,B73]
  refine Re.brd (λg=> ?_) (λg=>Re.ret (by rw[show i=r.1.length by omega]))
  have hl:i<r.1.length:=by omega
  have hlen:=As3 r i
  rw[B2 hl (by omega)]
  simp only[G33,ng2]
  have next:=ih (i+1) (by omega) (by omega)
  simp only[X6]at next
  refine Re.gdd (by omega) (Re.gdd (by omega) (Re.br (λq2=> ?_) (λq2=> ?_)))
  ·refine Re.gdd (by omega) (Re.gdd g (Re.ng rfl ?_))
   refine Re.bre (λq=> ?_) (λq=>by rw[G41 λh=>q h.1]at next;exact next)
   rw[G45 ⟨q,q2⟩]at next
   exact Re.gdd (by omega) (Re.gdd (by omega) (Re.gdd (by simp[A5];omega) next))
  ·rw[G41 λh=>by rw[q2]at h;cases h.2]at next
   exact next) 0 (G49 _)
 exact this
noncomputable def M6 (h:B4):Bool:= !decide ((h.1.length:Int)>3)&&(!((h.2.2.1.length:Int) !=2)&&(Ae4 h.2.1&&(S7 h.1.length (C81 h.1)&&(S7 h.2.2.1.length (B39 h.2.2.1 (X6 h.2.1 h.2.1.1.length))&&true))))
theorem As4 {h:B4} (hm:J5 h≤1048576):P7 h.2.1≤1048576∧h.1.length≤1048576∧h.2.2.1.length≤1048576∧h.2.1.1.length≤1048576∧∀i,i<h.2.2.1.length→(rd C1 h.2.2.1 i).2.2.1.length≤1048576:=by
 unfold J5 G5 X5 at hm
 refine⟨by omega,by omega,by omega, ?_,λi hi=> ?_⟩
 ·unfold P7 F6 at hm;omega
 ·have:rd C1 h.2.2.1 i∈h.2.2.1:=by rw[C2 hi];exact G47 _
  have:=N4 Af0 this
  have e:Af0 (rd C1 h.2.2.1 i)=(rd C1 h.2.2.1 i).2.2.1.length+0:=rfl
  omega
theorem Bc6 {r:A6} (h:Ae4 r=true):RoomI r:=by
 unfold Ae4 at h
 rw[G37,G37]at h
 have:=Bu4.1 h.2.2
 rw[←this]
 exact B97 r.1 Ck4
theorem F91 (h:B4) (hm:J5 h≤1048576) (own:List Int):Re (λx:Nat×Nat=>w9 x.1 x.2 h 0 own) (λr=>r=(S7 h.2.2.1.length (B39 h.2.2.1 own)&&true)):=by
 obtain⟨m1,m2,m3,m4,m5⟩:=As4 hm
 refine C80 (l:=λk n i=>w9 k n h (i:Int) own) (B39 h.2.2.1 own) (λi hi v next no=> ?_) ?_
 ·simp only[w9,Bb2,G33]
  refine Re.brd (λg=> ?_) (λg=>by omega)
  rw[B2 hi (by omega)]
  unfold B39 at next no
  refine Re.gdd (by omega) (Re.gdd g (Re.br (λq=>Re.ret (no (by rw[q];rfl))) (λq=> ?_)))
  rw[q]at next no
  refine Re.c2 (Cw7 _ own (m5 i hi)) ?_
  cases q2:decide ((rd C1 h.2.2.1 i).2.2.1=own)with
  |false=>rw[q2]at no;exact Re.br (b:=true) (λ_=>Re.ret (no rfl)) (λh=>by cases h)
  |true=>
   rw[q2]at next no
   refine Re.br (b:=false) (λh=>by cases h) (λ_=>Re.s2 (O1 · _ _ _) ?_)
   exact Re.br (λq3=>Re.ret (no (by simpa using q3))) (λq3=>next (by simpa using q3))
 ·simp only[w9,Bb2,G77,G76,br_false]
  exact Re.ret rfl
theorem F92 (h:B4) (hm:J5 h≤1048576) (own:List Int):Re (λx:Nat×Nat=>u6 x.1 x.2 0 h own) (λr=>r=(S7 h.2.2.1.length (B39 h.2.2.1 own)&&true)):=by
 obtain⟨m1,m2,m3,m4,m5⟩:=As4 hm
 refine C80 (l:=λk n i=>u6 k n (i:Int) h own) (B39 h.2.2.1 own) (λi hi v next no=> ?_) ?_
 ·simp only[u6,A99,G33]
  refine Re.brd (λg=> ?_) (λg=>by omega)
  rw[B2 hi (by omega)]
  unfold B39 at next no
  refine Re.gdd (by omega) (Re.gdd g (Re.br (λq=>Re.ret (no (by rw[q];rfl))) (λq=> ?_)))
  rw[q]at next no
  refine Re.c2 (Fh8 _ own (m5 i hi)) ?_
  cases q2:decide ((rd C1 h.2.2.1 i).2.2.1=own)with
  |false=>rw[q2]at no;exact Re.br (b:=true) (λ_=>Re.ret (no rfl)) (λh=>by cases h)
  |true=>
   rw[q2]at next no
   refine Re.br (b:=false) (λh=>by cases h) (λ_=>Re.s2 (P8 · _ _ _) ?_)
   exact Re.br (λq3=>Re.ret (no (by simpa using q3))) (λq3=>next (by simpa using q3))
 ·simp only[u6,A99,G77,G76,br_false]
  exact Re.ret rfl
theorem Gi0 (h:B4) (hm:J5 h≤1048576) (hg:Ae4 h.2.1=true):Re (λx:Nat×Nat=>P6 x.1 x.2 h 0) (λr=>r=(S7 h.1.length (C81 h.1)&&(S7 h.2.2.1.length (B39 h.2.2.1 (X6 h.2.1 h.2.1.1.length))&&true))):=by
 obtain⟨m1,m2,m3,m4,m5⟩:=As4 hm
 refine C80 (l:=λk n i=>P6 k n h (i:Int)) (C81 h.1) (λi hi v next no=> ?_) ?_
 ·simp only[P6,Bb3,G33]
  refine Re.brd (λg=> ?_) (λg=>by omega)
  rw[B2 hi (by omega)]
  have tail:((!(decide ((i:Int)>0)&&decide ((rd A3 h.1 (i-1)).1≥(rd A3 h.1 i).1)))=true→Re (λx:Nat×Nat=>P6 x.1 x.2 h ((i+1:Nat):Int)) (λr=>r=v))→((!(decide ((i:Int)>0)&&decide ((rd A3 h.1 (i-1)).1≥(rd A3 h.1 i).1)))=false→false=v)→
    Re (λx:Nat×Nat=> (br (decide ((i:Int)>0)) (gd (decide (0≤(B5 ((i:Int)-1)))) (gd (decide ((B5 ((i:Int)-1))< (h.1.length:Int))) (br (decide ((rd A3 h.1 (B5 ((i:Int)-1)).toNat).1≥(rd A3 h.1 i).1)) (some false) (P6 x.1 x.2 h ((i+1:Nat):Int))))) (P6 x.1 x.2 h ((i+1:Nat):Int)))) (λr=>r=v):=λnext no=>by
   refine Re.brd (λq=> ?_) (λq=>next (by rw[G55 q];rfl))
   have e:B5 ((i:Int)-1)=((i-1:Nat):Int):=by rw[D7 (by omega) (by omega)];omega
   rw[e]
   simp only[G33]
   rw[G54 q,Hb6]at next no
   refine Re.gdd (by omega) (Re.gdd (by omega) (Re.brd (λq2=>Re.ret (no (by rw[G54 q2];rfl))) (λq2=>next (by rw[G55 q2];rfl))))
  unfold C81 at next no
  refine Re.gdd (by omega) (Re.gdd g (Re.s2 (O1 · _ _ _) ?_))
  cases ha:W6 (rd A3 h.1 i).1 1 1000000 with
  |false=>rw[ha]at no;exact Re.br (b:=true) (λ_=>Re.ret (no rfl)) (λh=>by cases h)
  |true=>
   rw[ha]at next no
   refine Re.br (b:=false) (λh=>by cases h) (λ_=>Re.s2 (O1 · _ _ _) ?_)
   cases hb:W6 (rd A3 h.1 i).2.1 0 1000000 with
   |false=>rw[hb]at no;exact Re.br (b:=true) (λ_=>Re.ret (no rfl)) (λh=>by cases h)
   |true=>
    rw[hb]at next no
    refine Re.br (b:=false) (λh=>by cases h) (λ_=> ?_)
    refine Re.brd (λq=>Re.ret (no (by rw[G54 q];rfl))) (λq=> ?_)
    rw[G55 q]at next no
    refine Re.br (λq1=> ?_) (λq1=> ?_)
    ·rw[q1]at next no
     refine Re.br (λq2=>Re.ret (no (by rw[q2];rfl))) (λq2=> ?_)
     rw[q2]at next no
     exact tail (λz=>next (by rw[z];rfl)) (λz=>no (by rw[z];rfl))
    ·rw[q1]at next no
     exact tail (λz=>next (by rw[z];rfl)) (λz=>no (by rw[z];rfl))
 ·simp only[P6,Bb3,G77,G76,br_false]
  exact Re.c2 (E41 h.2.1 m4) (F91 h hm _)
theorem Gi1 (h:B4) (hm:J5 h≤1048576) (hg:Ae4 h.2.1=true):Re (λx:Nat×Nat=>P4 x.1 x.2 0 h) (λr=>r=(S7 h.1.length (C81 h.1)&&(S7 h.2.2.1.length (B39 h.2.2.1 (X6 h.2.1 h.2.1.1.length))&&true))):=by
 obtain⟨m1,m2,m3,m4,m5⟩:=As4 hm
 refine C80 (l:=λk n i=>P4 k n (i:Int) h) (C81 h.1) (λi hi v next no=> ?_) ?_
 ·simp only[P4,Ba0,G33]
  refine Re.brd (λg=> ?_) (λg=>by omega)
  rw[B2 hi (by omega)]
  have tail:((!(decide ((i:Int)>0)&&decide ((rd A3 h.1 (i-1)).1≥(rd A3 h.1 i).1)))=true→Re (λx:Nat×Nat=>P4 x.1 x.2 ((i+1:Nat):Int) h) (λr=>r=v))→((!(decide ((i:Int)>0)&&decide ((rd A3 h.1 (i-1)).1≥(rd A3 h.1 i).1)))=false→false=v)→
    Re (λx:Nat×Nat=> (br (decide ((i:Int)>0)) (gd (decide (0≤(B5 ((i:Int)-1)))) (gd (decide ((B5 ((i:Int)-1))< (h.1.length:Int))) (br (decide ((rd A3 h.1 (B5 ((i:Int)-1)).toNat).1≥(rd A3 h.1 i).1)) (some false) (P4 x.1 x.2 ((i+1:Nat):Int) h)))) (P4 x.1 x.2 ((i+1:Nat):Int) h))) (λr=>r=v):=λnext no=>by
   refine Re.brd (λq=> ?_) (λq=>next (by rw[G55 q];rfl))
   have e:B5 ((i:Int)-1)=((i-1:Nat):Int):=by rw[D7 (by omega) (by omega)];omega
   rw[e]
   simp only[G33]
   rw[G54 q,Hb6]at next no
   refine Re.gdd (by omega) (Re.gdd (by omega) (Re.brd (λq2=>Re.ret (no (by rw[G54 q2];rfl))) (λq2=>next (by rw[G55 q2];rfl))))
  unfold C81 at next no
  refine Re.gdd (by omega) (Re.gdd g (Re.s2 (P8 · _ _ _) ?_))
  cases ha:W6 (rd A3 h.1 i).1 1 1000000 with
  |false=>rw[ha]at no;exact Re.br (b:=true) (λ_=>Re.ret (no rfl)) (λh=>by cases h)
  |true=>
   rw[ha]at next no
   refine Re.br (b:=false) (λh=>by cases h) (λ_=>Re.s2 (P8 · _ _ _) ?_)
   cases hb:W6 (rd A3 h.1 i).2.1 0 1000000 with
   |false=>rw[hb]at no;exact Re.br (b:=true) (λ_=>Re.ret (no rfl)) (λh=>by cases h)
   |true=>
    rw[hb]at next no
    refine Re.br (b:=false) (λh=>by cases h) (λ_=> ?_)
    refine Re.brd (λq=>Re.ret (no (by rw[G54 q];rfl))) (λq=> ?_)
    rw[G55 q]at next no
    refine Re.br (λq1=> ?_) (λq1=> ?_)
    ·rw[q1]at next no
     refine Re.br (λq2=>Re.ret (no (by rw[q2];rfl))) (λq2=> ?_)
     rw[q2]at next no
     exact tail (λz=>next (by rw[z];rfl)) (λz=>no (by rw[z];rfl))
    ·rw[q1]at next no
     exact tail (λz=>next (by rw[z];rfl)) (λz=>no (by rw[z];rfl))
 ·simp only[P4,Ba0,G77,G76,br_false]
  exact Re.c2 (Fi2 h.2.1 m4 (Bc6 hg).gl) (F92 h hm _)
theorem C82 (h:B4) (hm:J5 h≤1048576):Ev (λk=>Bk8 k h) (M6 h):=by
 obtain⟨m1,m2,m3,m4,m5⟩:=As4 hm
 unfold M6
 refine Re.eq (Re.brd (λq=>Re.ret (by rw[G54 q];rfl)) (λq=>Re.c1 (E39 h.2.1 m1) ?_))
 rw[G55 q]
 cases hr:Ae4 h.2.1 with
 |false=>exact Re.br (b:=true) (λ_=>Re.ret (by rw[Bool.false_and,Bool.and_false];rfl)) (λh=>by cases h)
 |true=>
  refine Re.br (b:=false) (λh=>by cases h) (λ_=>Re.br (λq2=>Re.ret (by rw[q2];rfl)) (λq2=> ?_))
  rw[q2]
  exact Re.enter (f:=λk n=>P6 k n h 0) B9 (Gi0 h hm hr)
theorem C83 (h:B4) (hm:J5 h≤1048576):Ev (λk=>Bk2 k h) (M6 h):=by
 obtain⟨m1,m2,m3,m4,m5⟩:=As4 hm
 unfold M6
 refine Re.eq (Re.brd (λq=>Re.ret (by rw[G54 q];rfl)) (λq=> ?_))
 rw[G55 q]
 refine Re.br (λq2=>Re.ret (by rw[q2];rfl)) (λq2=>Re.c1 (E40 h.2.1 m1) ?_)
 rw[q2]
 cases hr:Ae4 h.2.1 with
 |false=>exact Re.br (b:=true) (λ_=>Re.ret rfl) (λh=>by cases h)
 |true=>
  refine Re.br (b:=false) (λh=>by cases h) (λ_=> ?_)
  exact Re.enter (f:=λk n=>P4 k n 0 h) B9 (Gi1 h hm hr)
end Go.Vm
end
section
namespace Go.Vm
open Go
structure HallF (h : B4) : Prop where
 nS : h.1.length ≤ 3
 ses : ∀ i, i < h.1.length → (1 ≤ (rd A3 h.1 i).1 ∧ (rd A3 h.1 i).1 ≤ 1000000) ∧ (0 ≤ (rd A3 h.1 i).2.1 ∧ (rd A3 h.1 i).2.1 ≤ 1000000) ∧ (rd A3 h.1 i).2.2.1.size ≤ 40
 rI : RoomI h.2.1
 nO : h.2.2.1.length ≤ 2
 ack : ∀ i, i < h.2.2.1.length → 0 ≤ (rd C1 h.2.2.1 i).2.1 ∧ (rd C1 h.2.2.1 i).2.1 ≤ 40
theorem An2 {h:B4} (hk:M6 h=true):HallF h:=by
 unfold M6 at hk
 simp only[G37,Ha3,decide_eq_false_iff_not,Bool.and_true]at hk
 obtain⟨h1,h2,h3,h4,h5⟩:=hk
 have hI:=Bc6 h3
 have hlen:=hI.len
 have hfl:=As3 h.2.1 h.2.1.1.length
 refine⟨by omega,λi hi=> ?_,hI, ?_,λi hi=> ?_⟩
 ·have:=P3.1 h4 i hi
  unfold C81 at this
  simp only[G37]at this
  obtain⟨g1,g2,g3,_⟩:=this
  refine⟨M2.1 g1,M2.1 g2, ?_⟩
  have:¬(((rd A3 h.1 i).2.2.1.size:Nat):Int)>40:=by simpa using g3
  omega
 ·have:(h.2.2.1.length:Int)=2:=by simpa using h2
  omega
 ·have:=P3.1 h5 i hi
  unfold B39 at this
  simp only[G37]at this
  have:=M2.1 this.2.2
  omega
end Go.Vm
end
section
namespace Go.Vm
open Go
def Fi3 (r:A6) (a:List ByteArray) (i:Nat):List ByteArray:=if(rd A4 r.1 i).2.1=5∧rd false r.2.2.1 i=true then a++ [(rd A4 r.1 i).2.2.2.2.2.2.1]else a
def Fu4 (r:A6):Nat→List ByteArray
 |0=> []
 |i+1=>Fi3 r (Fu4 r i) i
theorem Fu5 (r:A6):∀i,(Fu4 r i).length≤i
 |0=>G53 _
 |i+1=>by
  have:=Fu5 r i
  unfold Fu4 Fi3
  split<;>simp<;>omega
def J1 (es:List A0) (s:List A1):Nat→List Int
 |0=> []
 |u+1=>if D9 es s ((u+1:Nat):Int)=2 then J1 es s u++ [((u+1:Nat):Int)]else J1 es s u
theorem Z1 (es:List A0) (s:List A1):∀n:Nat,(J1 es s n).length≤n∧∀x,x∈J1 es s n↔(1≤x∧x≤n)∧D9 es s x=2
 |0=> ⟨G53 _,λx=>by simp[J1];omega⟩
 |n+1=>by
  obtain⟨h1,h2⟩:=Z1 es s n
  unfold J1
  by_cases q:D9 es s ((n+1:Nat):Int)=2
  ·rw[G45 q]
   refine⟨by simp;omega,λx=> ?_⟩
   rw[G34,G48,h2]
   constructor
   ·rintro(⟨a,b⟩|a)
    ·exact⟨by omega,b⟩
    ·exact⟨by omega,by rw[a];exact q⟩
   ·rintro⟨a,b⟩
    by_cases e:x=((n+1:Nat):Int)
    ·exact .inr e
    ·exact .inl ⟨by omega,b⟩
  ·rw[G41 q]
   refine⟨by omega,λx=> ?_⟩
   rw[h2]
   constructor
   ·rintro⟨a,b⟩;exact⟨by omega,b⟩
   ·rintro⟨a,b⟩
    by_cases e:x=((n+1:Nat):Int)
    ·rw[e]at b;exact absurd b q
    ·exact⟨by omega,b⟩
theorem E42 (r:A6) (h:RoomI r):Ev (λk=>Dj0 k r) (J1 r.1 (Ae2 r) 5):=by
 have hsl:=Co5 h
 refine Re.eq (Re.c1 (E37 r h) ?_)
 generalize Ae2 r=s at hsl ⊢
 refine Re.enter (f:=λk n=>Ad1 k n 1 r s []) B9 ?_
 have:=Re.loop (ι:=Nat) (l:=λk n (i:Nat)=>Ad1 k n ((i+1:Nat):Int) r s (J1 r.1 s i)) (I:=λi=>i≤5) (λi=>5-i) (Q:=λ_ v=>v=J1 r.1 s 5) (λi hi ih=>by
  simp only[Ad1,Bs6]
  refine Re.brd (λg=> ?_) (λg=>Re.ret (by rw[show i=5 by omega]))
  have hm:=(Z1 r.1 s i).1
  have next:=ih (i+1) (by omega) (by omega)
  have e2:B5 (((i+1:Nat):Int)+1)=((i+1+1:Nat):Int):=by rw[D7 (by omega) (by omega)];omega
  rw[e2]
  refine Re.c2 (Au9 r.1 h.copyS h.noZ s (by omega) _) ?_
  unfold J1 at next
  refine Re.bre (λq=> ?_) (λq=> ?_)
  ·rw[G45 q]at next
   exact Re.gdd (by simp[A5];omega) next
  ·rw[G41 q]at next;exact next) 0 (G49 _)
 exact this
end Go.Vm
end
section
namespace Go.Vm
open Go
theorem Co8 (r:A6) (h:RoomI r) (e:A0) (hm:D1 e≤1048576) (hp:e.2.2.2.2.2.2.2.1.length≤1000):Ev (λk=>Bq5 k r e) (K9 r e):=by
 have hsl:=h.sl
 have hgl:=h.gl
 refine Re.eq (Re.brn (λq=>absurd (by rw[hsl]) q) (λ_=>Re.brn (λq=>absurd (by rw[hgl]) q) (λ_=>Re.c1 (Fg6 r h e hm hp) ?_)))
 have hR:RoomI (K9 r e).1:=by
  cases ho:(K9 r e).2 with
  |true=>exact(Ck3 h hp ho).1
  |false=>
   have:(K9 r e).1=([],[],[],()):=by
    unfold K9 at ho ⊢
    cases hq:(H2 r e.2.2.2.2.2.2.2.1).2&&(J9 e&&(decide (Ad6 r.1 e.1<0)&&(decide (e.2.2.2.2.2.2.2.2.1=Ad7 r.1 e.2.2.2.2.2.2.2.1)&&decide (r.1.length<40))))with
    |true=>rw[hq]at ho;cases ho
    |false=>rfl
   rw[this];exact Ck4
 exact Re.c1 (C72 _ hR) (Re.ret rfl)
end Go.Vm
end
section
namespace Go.Vm
open Go
def Z2 (es:List A0):List Int:=(W4 es).drop ((W4 es).length-3)
theorem A20 (es:List A0):(Z2 es).length≤3:=by
 unfold Z2
 rw[List.length_drop]
 omega
theorem Fi4 (es:List A0):(W4 es).length≤es.length:=by
 have:=Am5 es es []
 simpa [W4]using this
def Fu6 (r:A6) (id:Int) (e:A0) (prev:List Int):A0:=(id,e.2.1,e.2.2.1,e.2.2.2.1,e.2.2.2.2.1,e.2.2.2.2.2.1,e.2.2.2.2.2.2.1,prev,Ad7 r.1 prev,())
def Aa4 (r:A6) (idx:Int) (e:A0):A0:=Fu6 r (bif W6 idx 0 1000000 then B5 (2*idx)else 0) e (if e.2.1=1 then []else Z2 r.1)
theorem Eu3 (r:A6) (h:RoomI r) (id:Int) (e:A0):Re (λk:Nat=>br (e.2.1 !=1) (bd (Bk3 k r) λr3=> (br (decide ((B5 ((r3.length:Int)-3))<0)) (gd (decide (0≤(r3.length:Int))) (gd (decide (([]:List Int).length+(r3.drop 0).length≤A5)) (bd (U7 k r (([]:List Int)++(r3.drop 0))) λr4=> (some (id,e.2.1,e.2.2.1,e.2.2.2.1,e.2.2.2.2.1,e.2.2.2.2.2.1,e.2.2.2.2.2.2.1,(([]:List Int)++(r3.drop 0)),r4,()))))) (gd (decide (0≤(B5 ((r3.length:Int)-3)))) (gd (decide ((B5 ((r3.length:Int)-3))≤(r3.length:Int))) (gd (decide (([]:List Int).length+(r3.drop (B5 ((r3.length:Int)-3)).toNat).length≤A5)) (bd (U7 k r (([]:List Int)++(r3.drop (B5 ((r3.length:Int)-3)).toNat))) λr5=> (some (id,e.2.1,e.2.2.1,e.2.2.2.1,e.2.2.2.2.1,e.2.2.2.2.2.1,e.2.2.2.2.2.2.1,(([]:List Int)++(r3.drop (B5 ((r3.length:Int)-3)).toNat)),r5,())))))))) (bd (U7 k r []) λr6=> (some (id,e.2.1,e.2.2.1,e.2.2.2.1,e.2.2.2.2.1,e.2.2.2.2.2.1,e.2.2.2.2.2.2.1,[],r6,()))))
  (λv=>v=Fu6 r id e (if e.2.1=1 then []else Z2 r.1)):=by
 have hl:=h.len
 have he:=Fi4 r.1
 have hp:=Dq8 r h.prevS
 have hl':r.1.length≤1048576:=by omega
 refine Re.br (λq=> ?_) (λq=> ?_)
 ·have hn:e.2.1≠1:=by simpa using q
  rw[G41 hn]
  refine Re.c1 hp ?_
  have hw:B5 (((W4 r.1).length:Int)-3)=((W4 r.1).length:Int)-3:=D7 (by omega) (by omega)
  rw[hw]
  have e1:([]:List Int)++(W4 r.1).drop (((W4 r.1).length:Int)-3).toNat=Z2 r.1:=by
   unfold Z2
   rw[G60,show(((W4 r.1).length:Int)-3).toNat=(W4 r.1).length-3 by omega]
  refine Re.brd (λg=> ?_) (λg=> ?_)
  ·have e0:([]:List Int)++(W4 r.1).drop 0=Z2 r.1:=by
    unfold Z2
    rw[G60,show(W4 r.1).length-3=0 by omega]
   rw[e0]
   refine Re.gdd (by omega) (Re.gdd (by simp;unfold A5;omega) (Re.c1 (A18 r hl' _ (by have:=A20 r.1;omega)) (Re.ret rfl)))
  ·rw[e1]
   refine Re.gdd (by omega) (Re.gdd (by omega) (Re.gdd (by simp;unfold A5;omega) (Re.c1 (A18 r hl' _ (by have:=A20 r.1;omega)) (Re.ret rfl))))
 ·have hn:e.2.1=1:=by simpa using q
  rw[G45 hn]
  exact Re.c1 (A18 r hl' [] (by simp)) (Re.ret rfl)
theorem Fu7 (r:A6) (h:RoomI r) (idx:Int) (e:A0) (g1:e.2.2.2.2.2.1.length≤1048576) (g2:e.2.2.2.2.2.2.2.1.length≤1048576):Ev (λk=>E02 k r idx e) (Aa4 r idx e):=by
 refine Re.eq (Re.s1 (Bu5 · e g1 g2) (Re.s1 (P8 · _ _ _) ?_))
 unfold Aa4
 cases W6 idx 0 1000000 with
 |true=>exact Re.br (b:=true) (λ_=>Eu3 r h _ e) (λh=>by cases h)
 |false=>exact Re.br (b:=false) (λh=>by cases h) (λ_=>Eu3 r h _ e)
theorem Eu4 (r:A6) (h:RoomI r) (id:Int) (e:A0):Re (λk:Nat=>br (e.2.1 !=1) (bd (Bk9 k r) λr3=> (gd (decide (0≤(if(B5 ((r3.length:Int)-3))>0 then(B5 ((r3.length:Int)-3))else 0))) (gd (decide ((if(B5 ((r3.length:Int)-3))>0 then(B5 ((r3.length:Int)-3))else 0)≤(r3.length:Int))) (gd (decide ((r3.drop (if(B5 ((r3.length:Int)-3))>0 then(B5 ((r3.length:Int)-3))else 0).toNat).length≤A5)) (bd (Ac5 k r (r3.drop (if(B5 ((r3.length:Int)-3))>0 then(B5 ((r3.length:Int)-3))else 0).toNat)) λr4=> (some (id,e.2.1,e.2.2.1,e.2.2.2.1,e.2.2.2.2.1,e.2.2.2.2.2.1,e.2.2.2.2.2.2.1,(r3.drop (if(B5 ((r3.length:Int)-3))>0 then(B5 ((r3.length:Int)-3))else 0).toNat),r4,()))))))) (bd (Ac5 k r []) λr5=> (some (id,e.2.1,e.2.2.1,e.2.2.2.1,e.2.2.2.2.1,e.2.2.2.2.2.1,e.2.2.2.2.2.2.1,[],r5,()))))
  (λv=>v=Fu6 r id e (if e.2.1=1 then []else Z2 r.1)):=by
 have hl:=h.len
 have he:=Fi4 r.1
 have hp:=Dr7 r h.prevS
 refine Re.br (λq=> ?_) (λq=> ?_)
 ·have hn:e.2.1≠1:=by simpa using q
  rw[G41 hn]
  refine Re.c1 hp ?_
  have hw:B5 (((W4 r.1).length:Int)-3)=((W4 r.1).length:Int)-3:=D7 (by omega) (by omega)
  rw[hw]
  have e1:(W4 r.1).drop (if((W4 r.1).length:Int)-3>0 then((W4 r.1).length:Int)-3 else 0).toNat=Z2 r.1:=by
   unfold Z2
   congr 1
   split<;>omega
  rw[e1]
  have hle:=A20 r.1
  refine Re.gdd (by split<;>omega) (Re.gdd (by split<;>omega) (Re.gdd (by unfold A5;omega) (Re.c1 (Bv1 r h.copyS _ (by omega)) (Re.ret rfl))))
 ·have hn:e.2.1=1:=by simpa using q
  rw[G45 hn]
  exact Re.c1 (Bv1 r h.copyS [] (by simp)) (Re.ret rfl)
theorem Fu8 (r:A6) (h:RoomI r) (idx:Int) (e:A0) (g1:e.2.2.2.2.2.1.length≤1048576) (g2:e.2.2.2.2.2.2.2.1.length≤1048576):Ev (λk=>E11 k r idx e) (Aa4 r idx e):=by
 refine Re.eq (Re.s1 (An0 · e g1 g2) (Re.s1 (O1 · _ _ _) ?_))
 unfold Aa4
 cases W6 idx 0 1000000 with
 |true=>exact Re.br (b:=true) (λ_=>Eu4 r h _ e) (λh=>by cases h)
 |false=>exact Re.br (b:=false) (λh=>by cases h) (λ_=>Eu4 r h _ e)
end Go.Vm
end
section
namespace Go.Vm
open Go
theorem Gt7 (s:ByteArray):(⟨#[]⟩:ByteArray)++s=s:=by apply Dh6;simp
theorem E43:∀(k m:Nat),m<10^(k+1)→(Lib.decDigits m).length≤k+1
 |0,m,h=>by rw[Lib.decDigits,dif_pos (by simpa using h)];exact G53 1
 |k+1,m,h=>by
  rw[Lib.decDigits]
  split
  ·simp
  ·have:m/10<10^(k+1):=by rw[Nat.div_lt_iff_lt_mul (by decide)];rwa [Nat.pow_succ]at h
   have:=E43 k (m/10) this
   simp;omega
theorem Dk2 {m:Nat} (h:m<10000000000):(U1 m).size≤10:=by
 have:=E43 9 m (by simpa using h)
 simpa [U1,ByteArray.size]using this
def Fi5 (m:Nat):ByteArray:=if m=0 then⟨#[]⟩else U1 m
theorem F93 {m:Nat} (h:m≠0):Fi5 m=Fi5 (m/10)++⟨#[UInt8.ofNat (48+m%10)]⟩:=by
 unfold Fi5 U1
 rw[G41 h]
 by_cases q:m<10
 ·rw[G45 (by omega),Lib.decDigits,dif_pos q,Nat.mod_eq_of_lt q]
  apply Dh6;simp
 ·rw[G41 (by omega),Lib.decDigits,dif_neg q]
  apply Dh6;simp
theorem Gp7 {d:Nat} (h:d<10) (k:Nat):Aw0 k (d:Int)=some ((48+d:Nat):Int):=by
 unfold Aw0
 have h1:((d:Nat):Int)<10:=by omega
 rw[G54 h1]
 have e:B5 (48+(d:Int))=48+d:=D7 (by omega) (by omega)
 have e2:IntKind.wrap .u8 (48+(d:Int))=48+d:=Gt5 (by omega) (by omega)
 show some (IntKind.wrap .u8 (B5 (48+(d:Int))))=_
 rw[e,e2]
 rfl
theorem Gi2 (m:Nat) (h:m<10000000000):Ev (λk=>Ah8 k (m:Int)) (U1 m):=by
 refine Re.eq (Re.bre (λq=>Re.ret ?_) (λq=> ?_))
 ·have:m=0:=by omega
  subst this
  unfold U1
  rw[Lib.decDigits,dif_pos (by decide)]
  rfl
 ·rw[show decide ((m:Int)<0)=false from G55 (by omega)]
  refine Re.enter (f:=λk n=>Ab8 k n (m:Int) false (⟨#[]⟩:ByteArray)) B9 ?_
  have hd:Fi5 m=U1 m:=by unfold Fi5;rw[G41 (by omega)]
  have hs:(Fi5 m).size≤10:=by rw[hd];exact Dk2 h
  have:=Re.loop (ι:=Nat) (l:=λk n (s:Nat×ByteArray)=>Ab8 k n (s.1:Int) false s.2) (I:=λs=>s.1<10000000000∧Fi5 s.1++s.2=Fi5 m) (λs=>s.1) (Q:=λ_ v=>v=U1 m) (λs hi ih=>by
   obtain⟨p,v⟩:=s
   obtain⟨h1,h2⟩:=hi
   simp only at h1 h2 ih ⊢
   simp only[Ab8,Bq4]
   have hv:v.size≤10:=by have:=congrArg ByteArray.size h2;rw[Ag0]at this;omega
   refine Re.brn (λq=> ?_) (λq=> ?_)
   ·have hp:p≠0:=by omega
    have em:Int.tmod (p:Int) 10=((p%10:Nat):Int):=by rw[Int.tmod_eq_emod_of_nonneg (by omega)];omega
    have ed:B5 (Int.tdiv (p:Int) 10)=((p/10:Nat):Int):=by rw[Int.tdiv_eq_ediv_of_nonneg (by omega),D7 (by omega) (by omega)];omega
    have e10:((10:Int)==0)=false:=rfl
    simp only[em,ed,e10,Bool.and_false]
    refine Re.ng rfl (Re.brd (λg=>by omega) (λ_=>Re.s2 (Gp7 (show p%10<10 by omega) ·) (Re.gdd (by rw[D69];simp[A5];omega) (Re.ng rfl ?_))))
    refine ih (p/10,_) ⟨by simp only;omega, ?_⟩ (by simp only;omega)
    rw[←h2,F93 hp,ByteArray.append_assoc]
    rfl
   ·have hp:p=0:=by omega
    subst hp
    refine Re.br (b:=false) (λh=>by cases h) (λ_=>Re.ret ?_)
    rw[←hd,←h2]
    show v=(⟨#[]⟩:ByteArray)++v
    rw[Gt7]) (m,⟨#[]⟩) ⟨h,Gp6 _⟩
  exact this
theorem F25 (n:Int) (h:0≤n∧n≤9000000000):Ev (λk=>Ah8 k n) (U1 n.toNat):=by
 obtain⟨m,rfl⟩:∃m:Nat,n=m:=⟨n.toNat,(Int.toNat_of_nonneg h.1).symm⟩
 exact Gi2 m (by omega)
theorem Af2 {n:Int} (h:0≤n∧n≤9000000000):(U1 n.toNat).size≤10:=Dk2 (by omega)
abbrev Ed4:ByteArray:=⟨#[111,112,101,110,32]⟩
abbrev B24:ByteArray:=⟨#[110,111,110,101]⟩
abbrev Gt8:ByteArray:=⟨#[103,97,112]⟩
abbrev Gm0:ByteArray:=⟨#[111,108,100]⟩
abbrev Eu5:ByteArray:=⟨#[114,111,111,109]⟩
abbrev E44:ByteArray:=⟨#[100,101,110,105,101,100]⟩
abbrev Co9:ByteArray:=⟨#[115,101,110,116,32]⟩
abbrev Gt9:ByteArray:=⟨#[103,111,116,32]⟩
abbrev Gn4:ByteArray:=⟨#[107,101,112,116,32]⟩
abbrev As5:ByteArray:=⟨#[97,99,107,101,100]⟩
def Fu9:B4:=([],([],[],[],()),[],())
def Z3 (r:A6):Bool:=rd false r.2.2.1 (r.2.2.1.length-1)
def Ap0 (id:Int) (o:C3):C3:=(o.1,o.2.1,o.2.2.1++ [id],())
def Dk3 (o:C3) (upto:Int):C3:=(o.1,(if(if upto>o.2.2.1.length then(o.2.2.1.length:Int)else upto)>o.2.1 then(if upto>o.2.2.1.length then(o.2.2.1.length:Int)else upto)else o.2.1),o.2.2)
def inT (us:List Int) (n:Nat):ByteArray:=(us.take n).foldl (λs u=> (s++(⟨#[32]⟩:ByteArray))++U1 u.toNat) (⟨#[105,110]⟩:ByteArray)
noncomputable def doL (r:A6) (os:List C3) (idx:Int) (x:B7):(A6×List C3)×ByteArray:=
 if x.1=2 then(if(K9 r (Aa4 r idx x.2.2.2.1)).2=false then((r,os),Eu5)else if Z3 (K9 r (Aa4 r idx x.2.2.2.1)).1=false then((r,os),E44)
  else(((K9 r (Aa4 r idx x.2.2.2.1)).1,os.map (Ap0 (Aa4 r idx x.2.2.2.1).1)),Co9++U1 (Aa4 r idx x.2.2.2.1).1.toNat))
 else if x.1=3 then(if(K9 r x.2.2.2.1).2=false then((r,os),Eu5)else(((K9 r x.2.2.2.1).1,os),(if Z3 (K9 r x.2.2.2.1).1=true then Gt9 else Gn4)++U1 x.2.2.2.1.1.toNat))
 else if x.1=4 then((r,os.set (x.2.2.2.2.1-1).toNat (Dk3 (rd C1 os (x.2.2.2.2.1-1).toNat) x.2.2.2.2.2.1)),As5)
 else((r,os),inT (J1 r.1 (Ae2 r) 5) (J1 r.1 (Ae2 r) 5).length)
def Af3 (ss:List A7) (i:Nat) (seq:Int) (t:ByteArray):List A7:=ss.set i ((rd A3 ss i).1,seq,t,())
noncomputable def Ed5 (h:B4) (i:Nat) (idx:Int) (x:B7):B4×ByteArray:=
 if x.2.2.1> (rd A3 h.1 i).2.1+1 then(h,Gt8)
 else if x.2.2.1< (rd A3 h.1 i).2.1∨x.2.2.1=0 then(h,Gm0)
 else if x.2.2.1=(rd A3 h.1 i).2.1 then(h,(rd A3 h.1 i).2.2.1)
 else((Af3 h.1 i x.2.2.1 (doL h.2.1 h.2.2.1 idx x).2,(doL h.2.1 h.2.2.1 idx x).1.1,(doL h.2.1 h.2.2.1 idx x).1.2,()),(doL h.2.1 h.2.2.1 idx x).2)
def Bl6 (ss:List A7) (tok:Int):Nat:=ss.findIdx λs=>s.1==tok
def Ay9 (ss:List A7) (idx:Int):List A7:=(if ss.length<3 then ss else ss.drop 1)++ [(idx,0,ByteArray.empty,())]
noncomputable def Af4 (h:B4) (idx:Int) (x:B7):B4×ByteArray:=
 if x.1=1 then((Ay9 h.1 idx,h.2.1,h.2.2.1,()),Ed4++U1 idx.toNat)
 else if Bl6 h.1 x.2.1<h.1.length then Ed5 h (Bl6 h.1 x.2.1) idx x else(h,B24)
noncomputable def Ax9 (q:B4×ByteArray):B4×ByteArray×Bool:=bif M6 q.1 then(q.1,q.2,true)else(Fu9,(⟨#[]⟩:ByteArray),false)
noncomputable def A73 (h:B4) (idx:Int) (x:B7):B4×ByteArray×Bool:=
 bif M6 h&&(I2 x&&W6 idx 1 400000)then Ax9 (Af4 h idx x)else(Fu9,(⟨#[]⟩:ByteArray),false)
theorem RoomI.m2 {r:A6} (h:RoomI r):P7 r≤50000:=by
 have hl:=h.len
 have hsl:=h.sl
 have hgl:=h.gl
 have s1:(r.1.map D1).sum≤r.1.length*1000:=Cw9 D1 1000 r.1 λe he=> (M8 (h.ev e he)).2
 have s2:(r.2.1.map H1).sum≤r.2.1.length*16:=Cw9 H1 16 r.2.1 λs hs=>by
  obtain⟨i,hi,rfl⟩:=G63 hs
  have:=h.st i hi
  rw[C2 hi]at this
  exact this
 unfold P7 F6 H9 Q5
 omega
structure FewH (ss : List A7) (os : List C3) : Prop where
 nS : ss.length ≤ 10
 ses : ∀ s ∈ ss, s.2.2.1.size ≤ 1000
 nO : os.length ≤ 2
 out : ∀ o ∈ os, o.2.2.1.length ≤ 1000
theorem FewH.m {ss:List A7} {r:A6} {os:List C3} (h:FewH ss os) (hr:RoomI r):J5 (ss,r,os,())≤1048576:=by
 obtain⟨h1,h2,h3,h4⟩:=h
 have s1:(ss.map J6).sum≤ss.length*1000:=Cw9 J6 1000 ss λs hs=>by have:=h2 s hs;unfold J6;omega
 have s2:(os.map Af0).sum≤os.length*1000:=Cw9 Af0 1000 os λo ho=>by have:=h4 o ho;unfold Af0 Q9;omega
 have:=hr.m2
 unfold J5 G5 X5
 simp only
 omega
theorem As6 {h:B4} (hk:M6 h=true):FewH h.1 h.2.2.1∧RoomI h.2.1:=by
 have hf:=An2 hk
 obtain⟨h1,h2,h3,h4,h5⟩:=hf
 refine⟨⟨by omega,λs hs=> ?_,h4,λo ho=> ?_⟩,h3⟩
 ·obtain⟨i,hi,rfl⟩:=G63 hs
  have:=(h2 i hi).2.2
  rw[C2 hi]at this
  omega
 ·unfold M6 at hk
  simp only[G37,Ha3,decide_eq_false_iff_not,Bool.and_true]at hk
  obtain⟨i,hi,rfl⟩:=G63 ho
  have:=P3.1 hk.2.2.2.2 i hi
  unfold B39 at this
  simp only[G37]at this
  have h6:=G62 this.2.1
  have h7:=As3 h.2.1 h.2.1.1.length
  have:=h3.len
  rw[C2 hi]at h6
  rw[h6];omega
theorem F26 {h : B4} (hk : M6 h = true) : h.2.2.1.length = 2 ∧ ∀ i, i < h.2.2.1.length → (rd C1 h.2.2.1 i).1 = ((i + 1 : Nat) : Int) ∧ (rd C1 h.2.2.1 i).2.2.1 = X6 h.2.1 h.2.1.1.length ∧ 0 ≤ (rd C1 h.2.2.1 i).2.1 ∧ (rd C1 h.2.2.1 i).2.1 ≤ (X6 h.2.1 h.2.1.1.length).length := by
  unfold M6 at hk
  simp only [Bool.and_eq_true, Bool.not_eq_true', decide_eq_false_iff_not, Bool.and_true] at hk
  obtain ⟨h1, h2, h3, h4, h5⟩ := hk
  refine ⟨by have : (h.2.2.1.length : Int) = 2 := by simpa using h2
             omega, fun i hi => ?_⟩
  have := P3.1 h5 i hi
  unfold B39 at this
  simp only [Bool.and_eq_true] at this
  obtain ⟨g1, g2, g3⟩ := this
  exact ⟨by simpa using g1, of_decide_eq_true g2, M2.1 g3⟩
theorem E45 (h:B4) (hs:FewH h.1 h.2.2.1) (hr:RoomI h.2.1):Ev (λk=>Di2 k h) h:=by
 obtain⟨h1,h2,h3,h4⟩:=hs
 refine Re.eq (Re.gdd (by simp only[List.length_nil];unfold A5;omega) (Re.c1 (C72 _ hr) ?_))
 refine Re.enter (f:=λk n=>Ab7 k n 0 h h.2.1 []) B9 ?_
 have:=Re.loop (ι:=Nat) (l:=λk n (i:Nat)=>Ab7 k n (i:Int) h h.2.1 (h.2.2.1.take i)) (I:=λi=>i≤h.2.2.1.length) (λi=>h.2.2.1.length-i) (Q:=λ_ v=>v=h) (λi hi ih=>by
  simp only[Ab7,Bq3,G60]
  refine Re.brd (λg=> ?_) (λg=>Re.ret (by rw[G40 (by omega)]))
  have hl:i<h.2.2.1.length:=by omega
  have ho:=h4 (rd C1 h.2.2.1 i) (by rw[C2 hl];exact G47 _)
  simp only[G33]
  refine Re.gdd (by omega) (Re.gdd g (Re.gdd (by simp[A5]<;>omega) (Re.gdd (by simp[A5]<;>omega) ?_)))
  rw[B2 hl (by omega)]
  have next:=ih (i+1) (by omega) (by omega)
  rw[G66,G36 hl]at next
  rw[C2 hl]
  exact next) 0 (G49 _)
 exact this
theorem Em5 (r:A6) (h:RoomI r):Ev (λk=>Cu9 k r) r:=by
 have hlen:=h.len
 have hsl:=h.sl
 have hgl:=h.gl
 have h0:Ev (λk=>A52 k r.1) r.1:=by
  refine Re.eq (Re.enter (f:=λk n=>Q1 k n r.1 0 []) B9 ?_)
  have:=Re.loop (ι:=Nat) (l:=λk n (i:Nat)=>Q1 k n r.1 (i:Int) (r.1.take i)) (I:=λi=>i≤r.1.length) (λi=>r.1.length-i) (Q:=λ_ v=>v=r.1) (λi hi ih=>by
   simp only[Q1,Al1]
   refine Re.brd (λg=> ?_) (λg=>Re.ret (G40 (by omega)))
   have hl:i<r.1.length:=by omega
   have hs:=M8 (h.ev (rd A4 r.1 i) (by rw[C2 hl];exact G47 _))
   have hm:=R0 (e:=rd A4 r.1 i) (by omega)
   refine Re.gdd (by omega) (Re.gdd g ?_)
   simp only[G33]
   refine Re.s2 (Bu5 · _ hm.1 hm.2.2) (Re.gdd (by simp[A5];omega) ?_)
   rw[B2 hl (by omega)]
   have next:=ih (i+1) (by omega) (by omega)
   rw[G66,G36 hl]at next
   rw[C2 hl]
   exact next) 0 (G49 _)
  simpa using this
 refine Re.eq (Re.c1 h0 (Re.gdd (by simp[A5];omega) ?_))
 refine Re.enter (f:=λk n=>m6 k n 0 r r.1 []) B9 ?_
 have:=Re.loop (ι:=Nat) (l:=λk n (i:Nat)=>m6 k n (i:Int) r r.1 (r.2.1.take i)) (I:=λi=>i≤r.2.1.length) (λi=>r.2.1.length-i) (Q:=λ_ v=>v=r) (λi hi ih=>by
  simp only[m6,Bf0]
  refine Re.brd (λg=> ?_) (λg=>Re.ret (by rw[G40 (by omega)];rfl))
  have hl:i<r.2.1.length:=by omega
  have hs:=h.st i hl
  refine Re.gdd (by omega) (Re.gdd g ?_)
  simp only[G33]
  refine Re.gdd (by simp[A5];omega) (Re.gdd (by simp[A5];omega) ?_)
  rw[B2 hl (by omega)]
  have next:=ih (i+1) (by omega) (by omega)
  rw[G66,G36 hl]at next
  rw[C2 hl,G60]
  exact next) 0 (G49 _)
 simpa using this
theorem Em6 (h:B4) (hs:FewH h.1 h.2.2.1) (hr:RoomI h.2.1):Ev (λk=>A53 k h) h:=by
 obtain⟨h1,h2,h3,h4⟩:=hs
 refine Re.eq (Re.gdd (by simp only[List.length_nil];unfold A5;omega) (Re.c1 (Em5 _ hr) ?_))
 refine Re.enter (f:=λk n=>m7 k n 0 h h.2.1 []) B9 ?_
 have:=Re.loop (ι:=Nat) (l:=λk n (i:Nat)=>m7 k n (i:Int) h h.2.1 (h.2.2.1.take i)) (I:=λi=>i≤h.2.2.1.length) (λi=>h.2.2.1.length-i) (Q:=λ_ v=>v=h) (λi hi ih=>by
  simp only[m7,Bf1,G60]
  refine Re.brd (λg=> ?_) (λg=>Re.ret (by rw[G40 (by omega)]))
  have hl:i<h.2.2.1.length:=by omega
  have ho:=h4 (rd C1 h.2.2.1 i) (by rw[C2 hl];exact G47 _)
  simp only[G33]
  refine Re.gdd (by omega) (Re.gdd g (Re.gdd (by simp[A5]<;>omega) (Re.gdd (by simp[A5]<;>omega) ?_)))
  rw[B2 hl (by omega)]
  have next:=ih (i+1) (by omega) (by omega)
  rw[G66,G36 hl]at next
  rw[C2 hl]
  exact next) 0 (G49 _)
 exact this
theorem Fv0 (q:B4×ByteArray) (hs:FewH q.1.1 q.1.2.2.1) (hr:RoomI q.1.2.1) {ι:Type} [Fuel ι] {κ:ι→Nat} (hκ:D70 κ):Re (λx:ι=>bd (Bk2 (κ x) q.1) λr16=> (br (!r16) (some (([],([],[],[],()),[],()),(⟨#[]⟩:ByteArray),false)) (bd (A53 (κ x) q.1) λr17=> (some (r17,q.2,true))))) (λv=>v=Ax9 q):=by
 refine Re.call hκ (C83 q.1 (hs.m hr)) ?_
 unfold Ax9
 cases hk:M6 q.1 with
 |false=>exact Re.br (b:=true) (λ_=>Re.ret rfl) (λh=>by cases h)
 |true=>exact Re.br (b:=false) (λh=>by cases h) (λ_=>Re.call hκ (Em6 q.1 hs hr) (Re.ret rfl))
theorem E46 (idx:Int) (x:B7) (ss:List A7) (r:A6) (os:List C3) (t:ByteArray) (hs:FewH ss os) (hr:RoomI r) (v:Int) (hv:(ss.length:Int)≤v):
  Re (λy:Nat×Nat=>H6 y.1 y.2 idx t v x ss r.1 r.2.1 r.2.2.1 os) (λw=>w=Ax9 ((ss,r,os,()),t)):=by
 have:=Re.loop (ι:=Nat) (l:=λk n (_:Unit)=>H6 k n idx t v x ss r.1 r.2.1 r.2.2.1 os) (I:=λ_=>True) (λ_=>0) (Q:=λ_ w=>w=Ax9 ((ss,r,os,()),t)) (λ_ _ _=>by
  simp only[Bq8,Ac0]
  refine Re.brd (λh=>absurd h (by omega)) (λ_=> ?_)
  exact Fv0 ((ss,r,os,()),t) hs hr (κ:=λy:Nat×Nat=>y.1) (k9 B9)) () trivial
 exact this
theorem Gi4 {α:Type} {d:α} {xs:List α} {i:Nat} (h:i<xs.length):xs.set i (rd d xs i)=xs:=by
 rw[C2 h]
 exact List.set_getElem_self h
theorem Fv1 {ss:List A7} {os:List C3} (h:FewH ss os) {os':List C3} (h3:os'.length≤2) (h4:∀o∈os',o.2.2.1.length≤1000) {i:Nat} {q:Int} {t:ByteArray} (ht:t.size≤1000):FewH (Af3 ss i q t) os':=by
 refine⟨by unfold Af3;rw[G93];exact h.nS,λs hs=> ?_,h3,h4⟩
 unfold Af3 at hs
 rcases List.mem_or_eq_of_mem_set hs with hs|rfl
 ·exact h.ses s hs
 ·exact ht
section
variable {idx : Int} {x : B7} {ss : List A7} {r : A6} {os : List C3} {i : Nat}
theorem B99 (hs:FewH ss os) {os':List C3} (h3:os'.length≤2) (h4:∀o∈os',o.2.2.1.length≤1000) {r':A6} (hr:RoomI r') (hi:i<ss.length) {t:ByteArray} (ht:t.size≤1000):
  Re (λy:Nat×Nat=>gd (decide (0≤(i:Int))) (gd (decide ((i:Int)< (ss.length:Int))) (H6 y.1 y.2 idx t (B5 ((((ss.set i ((rd A3 ss i).1,x.2.2.1,t,())).length:Nat):Int)+1)) x (ss.set i ((rd A3 ss i).1,x.2.2.1,t,())) r'.1 r'.2.1 r'.2.2.1 os'))) (λw=>w=Ax9 ((Af3 ss i x.2.2.1 t,r',os',()),t)):=by
 have hn:=hs.nS
 refine Re.gdd (by omega) (Re.gdd (by omega) ?_)
 refine E46 idx x (Af3 ss i x.2.2.1 t) r' os' t (Fv1 hs h3 h4 ht) hr _ ?_
 rw[D7 (by simp;omega) (by simp;omega)]
 unfold Af3
 omega
theorem Gu0 (hs:FewH ss os) {q:A6×Bool} (hr:RoomI q.1) (hi:i<ss.length) {d:A0} (hd:0≤d.1∧d.1≤9000000000) (h4:∀o∈os,o.2.2.1.length≤900) (v3:ByteArray):
  Re (λy:Nat×Nat=>Ac1 y.1 y.2 0 d x ss (i:Int) q os idx v3) (λw=>w=Ax9 ((Af3 ss i x.2.2.1 (Co9++U1 d.1.toNat),q.1,os.map (Ap0 d.1),()),Co9++U1 d.1.toNat)):=by
 have hn:=hs.nS
 have hno:=hs.nO
 have:=Re.loop (ι:=Nat) (l:=λk n (j:Nat)=>Ac1 k n (j:Int) d x ss (i:Int) q ((os.take j).map (Ap0 d.1)++os.drop j) idx v3) (I:=λj=>j≤os.length) (λj=>os.length-j)
  (Q:=λ_ w=>w=Ax9 ((Af3 ss i x.2.2.1 (Co9++U1 d.1.toNat),q.1,os.map (Ap0 d.1),()),Co9++U1 d.1.toNat)) (λj hj ih=>by
  simp only[E03,A04,G60,G33]
  have hlen:((os.take j).map (Ap0 d.1)++os.drop j).length=os.length:=by simp;omega
  rw[hlen]
  refine Re.brd (λg=> ?_) (λg=> ?_)
  ·have hl:j<os.length:=by omega
   have hrd:rd C1 ((os.take j).map (Ap0 d.1)++os.drop j) j=rd C1 os j:=by
    have e0:((os.take j).map (Ap0 d.1)).length=j:=by simp;omega
    unfold rd
    rw[Ha1,G50 (by omega),e0,Nat.sub_self,List.getElem?_drop,G69,Ha1]
   have ho:=h4 (rd C1 os j) (by rw[C2 hl];exact G47 _)
   simp only[hrd]
   refine Re.gdd (by omega) (Re.gdd g (Re.gdd (by simp[A5]<;>omega) (Re.gdd (by simp[A5]<;>omega) (Re.gdd (by omega) (Re.gdd g ?_)))))
   rw[B2 hl (by omega)]
   have next:=ih (j+1) (by omega) (by omega)
   have hset:((os.take j).map (Ap0 d.1)++os.drop j).set j ((rd C1 os j).1,(rd C1 os j).2.1,(rd C1 os j).2.2.1++ [d.1],())=(os.take (j+1)).map (Ap0 d.1)++os.drop (j+1):=by
    have e0:((os.take j).map (Ap0 d.1)).length=j:=by simp;omega
    rw[List.set_append_right _ _ (by omega),e0,Nat.sub_self,D26 (d:=C1) hl,List.set_cons_zero,G66,G36 hl,G64,G46,C2 hl]
    rfl
   rw[hset]
   exact next
  ·have hl:j=os.length:=by omega
   subst hl
   have e0:(os.take os.length).map (Ap0 d.1)++os.drop os.length=os.map (Ap0 d.1):=by simp
   rw[e0]
   have hz:=Af2 hd
   refine Re.c2 (F25 d.1 hd) (Re.gdd (by show 5+(U1 d.1.toNat).size≤A5;unfold A5;omega) ?_)
   refine B99 (os':=os.map (Ap0 d.1)) hs (by simpa using hno) (λo ho=> ?_) hr hi (t:=Co9++U1 d.1.toNat) (by rw[Ag0];show 5+_≤1000;omega)
   obtain⟨o',ho',rfl⟩:=G79.1 ho
   have:=h4 o' ho'
   simp[Ap0];omega) 0 (G49 _)
 exact this
theorem Fi6 {us:List Int} (hu:∀u∈us,0≤u∧u≤9000000000):∀n,(inT us n).size≤2+11*n:=by
 intro n
 induction n with
 |zero=>exact G53 2
 |succ n ih=>
  by_cases q:n<us.length
  ·unfold inT at ih ⊢
   rw[G66,G36 q,Hc1]
   have hz:=Dk2 (m:=us[n].toNat) (by have:=hu _ (G47 q);omega)
   show(_++(⟨#[32]⟩:ByteArray)++U1 us[n].toNat).size≤_
   rw[Ag0,Ag0]
   show _+1+_≤_
   omega
  ·unfold inT at ih ⊢
   rw[G40 (by omega)]at ih ⊢
   omega
theorem Gu1 (hs:FewH ss os) (hr:RoomI r) (hi:i<ss.length) {us:List Int} (hu:∀u∈us,0≤u∧u≤9000000000) (hl:us.length≤5) (v3:ByteArray):
  Re (λy:Nat×Nat=>Ac2 y.1 y.2 (⟨#[105,110]⟩:ByteArray) 0 us x ss (i:Int) r.1 r.2.1 r.2.2.1 os idx v3) (λw=>w=Ax9 ((Af3 ss i x.2.2.1 (inT us us.length),r,os,()),inT us us.length)):=by
 have hn:=hs.nS
 have:=Re.loop (ι:=Nat) (l:=λk n (j:Nat)=>Ac2 k n (inT us j) (j:Int) us x ss (i:Int) r.1 r.2.1 r.2.2.1 os idx v3) (I:=λj=>j≤us.length) (λj=>us.length-j)
  (Q:=λ_ w=>w=Ax9 ((Af3 ss i x.2.2.1 (inT us us.length),r,os,()),inT us us.length)) (λj hj ih=>by
  simp only[E04,A05,G33]
  have hz:=Fi6 hu j
  refine Re.brd (λg=> ?_) (λg=> ?_)
  ·have hlj:j<us.length:=by omega
   have hb:=hu (rd 0 us j) (by rw[C2 hlj];exact G47 _)
   have hzm:=Af2 hb
   refine Re.gdd (by show _+1≤A5;unfold A5;omega) (Re.gdd (by omega) (Re.gdd g (Re.c2 (F25 _ hb) (Re.gdd (by rw[Ag0];show _+1+_≤A5;unfold A5;omega) ?_))))
   rw[B2 hlj (by omega)]
   have next:=ih (j+1) (by omega) (by omega)
   have e:inT us (j+1)=(inT us j++(⟨#[32]⟩:ByteArray))++U1 (rd 0 us j).toNat:=by
    unfold inT
    rw[G66,G36 hlj,Hc1,C2 hlj]
    rfl
   rw[e]at next
   exact next
  ·have:j=us.length:=by omega
   subst this
   exact B99 (os':=os) hs hs.nO hs.out hr hi (t:=inT us us.length) (by omega)) 0 (G49 _)
 exact this
end
end Go.Vm
end
section
namespace Go.Vm
open Go
theorem E47 (r:A6) (h:RoomI r):Ev (λk=>Di4 k r) (J1 r.1 (Ae2 r) 5):=by
 have hsl:=Co5 h
 have hlen:=h.len
 refine Re.eq (Re.c1 (E34 r h) ?_)
 generalize Ae2 r=s at hsl ⊢
 refine Re.enter (f:=λk n=>Ab9 k n 1 r [] s) B9 ?_
 have:=Re.loop (ι:=Nat) (l:=λk n (i:Nat)=>Ab9 k n ((i+1:Nat):Int) r (J1 r.1 s i) s) (I:=λi=>i≤5) (λi=>5-i) (Q:=λ_ v=>v=J1 r.1 s 5) (λi hi ih=>by
  simp only[Ab9,Bq6]
  refine Re.brd (λg=> ?_) (λg=>Re.ret (by rw[show i=5 by omega]))
  have hm:=(Z1 r.1 s i).1
  have next:=ih (i+1) (by omega) (by omega)
  have e2:B5 (((i+1:Nat):Int)+1)=((i+1+1:Nat):Int):=by rw[D7 (by omega) (by omega)];omega
  rw[e2]
  refine Re.c2 (S3 r.1 s ⟨by omega,by omega⟩ _) ?_
  unfold J1 at next
  refine Re.bre (λq=> ?_) (λq=> ?_)
  ·rw[G45 q]at next
   exact Re.gdd (by simp[A5];omega) next
  ·rw[G41 q]at next;exact next) 0 (G49 _)
 exact this
theorem C84 {x:B7} (h:I2 x=true):(0≤x.2.1∧x.2.1≤1000000)∧(0≤x.2.2.1∧x.2.2.1≤1000000):=by
 unfold I2 at h
 simp only[G37]at h
 exact⟨M2.1 h.1.1,M2.1 h.1.2⟩
theorem Gi5 {x:B7} (h:I2 x=true) (h2:x.1=2):Bu1 x.2.2.2.1=true:=by
 unfold I2 at h
 rw[h2]at h
 simp only[G37]at h
 have:=h.2
 simp only[show((2:Int)==1)=false from rfl,show((2:Int)==2)=true from rfl,G72,G52,G37]at this
 exact this.2
theorem Fv2 {x:B7} (h:I2 x=true) (h2:x.1=3):J9 x.2.2.2.1=true∧odd x.2.2.2.1.1=true:=by
 unfold I2 at h
 rw[h2]at h
 simp only[G37]at h
 have:=h.2
 simp only[show((3:Int)==1)=false from rfl,show((3:Int)==2)=false from rfl,show((3:Int)==3)=true from rfl,G72,G52,G37]at this
 exact⟨this.1.2,this.2⟩
theorem Fv3 {x:B7} (h:I2 x=true) (h2:x.1=4):(1≤x.2.2.2.2.1∧x.2.2.2.2.1≤2)∧0≤x.2.2.2.2.2.1∧x.2.2.2.2.2.1≤1000000:=by
 unfold I2 at h
 rw[h2]at h
 simp only[G37]at h
 have:=h.2
 simp only[show((4:Int)==1)=false from rfl,show((4:Int)==2)=false from rfl,show((4:Int)==3)=false from rfl,show((4:Int)==4)=true from rfl,G72,G52,G37]at this
 exact⟨M2.1 this.1.2,M2.1 this.2⟩
theorem Cx0 {e:A0} (h:Bu1 e=true):e.2.2.2.2.2.1.length≤5∧e.2.2.2.2.2.2.1.size≤24∧e.2.2.2.2.2.2.2.1.length≤3:=by
 unfold Bu1 at h
 simp only[G37]at h
 have hb:=Eb4 h.2
 have h0:A66 (F8 e)=true:=h.1.2
 have h1:(F8 e).length=0:=by unfold A66 at h0;simpa using h0
 exact⟨hb.2.2.1,hb.2.2.2.1,by show(F8 e).length≤3;omega⟩
theorem Ds0 {r:A6} {idx:Int} {e:A0} (h:Bu1 e=true):D1 (Aa4 r idx e)≤1000∧(Aa4 r idx e).2.2.2.2.2.2.2.1.length≤3:=by
 obtain⟨h1,h2,_⟩:=Cx0 h
 have hp:(if e.2.1=1 then []else Z2 r.1).length≤3:=by
  split
  ·simp
  ·exact A20 _
 refine⟨?_,hp⟩
 show e.2.2.2.2.2.1.length+(e.2.2.2.2.2.2.1.size+((if e.2.1=1 then []else Z2 r.1).length+0))≤1000
 omega
theorem Ed6 {r:A6} {idx:Int} {e:A0} (h:1≤idx∧idx≤400000):(Aa4 r idx e).1=2*idx:=by
 show(bif W6 idx 0 1000000 then B5 (2*idx)else 0)=_
 rw[M2.2 ⟨by omega,by omega⟩]
 exact D7 (by omega) (by omega)
theorem D27 {r:A6} (h:RoomI r) {e:A0} (hp:e.2.2.2.2.2.2.2.1.length≤1000) (ho:(K9 r e).2=true):RoomI (K9 r e).1∧(K9 r e).1.2.2.1.length=r.1.length+1:=by
 obtain⟨h1,h2⟩:=Ck3 h hp ho
 refine⟨h1, ?_⟩
 rw[h1.gl,h2]
 simp
theorem Ck8 {r:A6} {n:Nat} (h:r.2.2.1.length=n+1) (hn:n≤1000):rd false r.2.2.1 (B5 ((r.2.2.1.length:Int)-1)).toNat=Z3 r∧B5 ((r.2.2.1.length:Int)-1)=(n:Int):=by
 unfold Z3
 have e:B5 ((r.2.2.1.length:Int)-1)=(n:Int):=by rw[D7 (by omega) (by omega)];omega
 rw[e]
 exact⟨by congr 1;omega,rfl⟩
theorem Eu6 {ss:List A7} {tok:Int} {i:Nat} (hi:i<ss.length) (h:i≤Bl6 ss tok):((rd A3 ss i).1=tok→Bl6 ss tok=i)∧((rd A3 ss i).1≠tok→i+1≤Bl6 ss tok):=by
 unfold Bl6 at h ⊢
 rw[C2 hi]
 refine⟨λe=> ?_,λe=> ?_⟩
 ·rcases G96 i (ss.findIdx λs=>s.1==tok)with q|q
  ·have:=List.not_of_lt_findIdx q
   simp[e]at this
  ·exact Nat.le_antisymm q h
 ·rcases G96 i (ss.findIdx λs=>s.1==tok)with q|q
  ·exact q
  ·have e2:i=ss.findIdx λs=>s.1==tok:=Nat.le_antisymm h q
   have:=List.findIdx_getElem (xs:=ss) (p:=λs:A7=>s.1==tok) (w:=by rw[←e2];exact hi)
   simp only[←e2]at this
   exact absurd (by simpa using this) e
theorem F27 {ss:List A7} {tok:Int}:Bl6 ss tok≤ss.length:=List.findIdx_le_length
section
variable {h : B4} {idx : Int} {x : B7}
theorem Gu2 (hk:M6 h=true) (hx:I2 x=true) (h1:x.1≠1) (hi:1≤idx∧idx≤400000):
  Re (λy:Nat×Nat=>H6 y.1 y.2 idx B24 0 x h.1 h.2.1.1 h.2.1.2.1 h.2.1.2.2.1 h.2.2.1) (λw=>w=Ax9 (Af4 h idx x)):=by
 obtain⟨hs,hr⟩:=As6 hk
 have hf:=An2 hk
 have hO:=F26 hk
 have hn:=hs.nS
 have hseq:=C84 hx
 have hrl:=hr.len
 have hids:∀o∈h.2.2.1,o.2.2.1.length≤900:=λo ho=>by
  obtain⟨j,hj,rfl⟩:=G63 ho
  have:=(hO.2 j hj).2.1
  have hl:=As3 h.2.1 h.2.1.1.length
  rw[C2 hj]at this
  rw[this];omega
 have hd:Af4 h idx x=if Bl6 h.1 x.2.1<h.1.length then Ed5 h (Bl6 h.1 x.2.1) idx x else(h,B24):=by unfold Af4;rw[G41 h1]
 rw[hd]
 have:=Re.loop (ι:=Nat) (l:=λk n (i:Nat)=>H6 k n idx B24 (i:Int) x h.1 h.2.1.1 h.2.1.2.1 h.2.1.2.2.1 h.2.2.1) (I:=λi=>i≤h.1.length∧i≤Bl6 h.1 x.2.1) (λi=>h.1.length-i)
  (Q:=λ_ w=>w=Ax9 (if Bl6 h.1 x.2.1<h.1.length then Ed5 h (Bl6 h.1 x.2.1) idx x else(h,B24))) (λi hi2 ih=>by
  obtain⟨i1,i2⟩:=hi2
  by_cases q:i<h.1.length
  ·obtain⟨t1,t2⟩:=Eu6 q i2
   simp only[Bq8,Ac0,G33]
   have g0:(0:Int)≤(i:Int):=G42 _
   have g1:(i:Int)< (h.1.length:Int):=G61.2 q
   refine Re.brd (λ_=> ?_) (λg=>absurd g1 g)
   refine Re.gdd g0 (Re.gdd g1 (Re.bre (λe=> ?_) (λe=> ?_)))
   ·have et:=t1 e
    rw[et,G45 q]
    have hses:=hf.ses i q
    have ew:B5 ((rd A3 h.1 i).2.1+1)=(rd A3 h.1 i).2.1+1:=D7 (by omega) (by omega)
    have efin:(h.1.length:Int)≤B5 ((h.1.length:Int)+1):=by rw[D7 (by omega) (by omega)];omega
    simp only[ew]
    unfold Ed5
    refine Re.gdd g0 (Re.gdd g1 (Re.brd (λa1=> ?_) (λa1=> ?_)))
    ·rw[G45 a1];exact E46 idx x h.1 h.2.1 h.2.2.1 Gt8 hs hr _ efin
    rw[G41 a1]
    have old:Re (λy:Nat×Nat=>H6 y.1 y.2 idx Gm0 (B5 ((h.1.length:Int)+1)) x h.1 h.2.1.1 h.2.1.2.1 h.2.1.2.2.1 h.2.2.1) (λw=>w=Ax9 (h,Gm0)):=E46 idx x h.1 h.2.1 h.2.2.1 Gm0 hs hr _ efin
    refine Re.brd (λa2=> ?_) (λa2=>Re.bre (λa3=> ?_) (λa3=> ?_))
    ·rw[G45 (.inl a2)];exact old
    ·rw[G45 (.inr a3)];exact old
    rw[G41 (λo=>o.elim a2 a3)]
    refine Re.bre (λa4=> ?_) (λa4=> ?_)
    ·rw[G45 a4];exact E46 idx x h.1 h.2.1 h.2.2.1 _ hs hr _ efin
    rw[G41 a4]
    unfold doL
    refine Re.bre (λc2=> ?_) (λc2=> ?_)
    ·rw[G45 c2]
     have hsent:=Gi5 hx c2
     obtain⟨b1,b2,b3⟩:=Cx0 hsent
     obtain⟨d1,d2⟩:=Ds0 (r:=h.2.1) (idx:=idx) hsent
     have did:=Ed6 (r:=h.2.1) (e:=x.2.2.2.1) hi
     refine Re.c2 (Fu7 h.2.1 hr idx x.2.2.2.1 (by omega) (by omega)) (Re.c2 (Co8 h.2.1 hr (Aa4 h.2.1 idx x.2.2.2.1) (by omega) (by omega)) ?_)
     generalize Aa4 h.2.1 idx x.2.2.2.1=d at d1 d2 did ⊢
     cases ho:(K9 h.2.1 d).2 with
     |false=>
      rw[G45 rfl]
      exact Re.br (b:=true) (λ_=>B99 (os':=h.2.2.1) hs hs.nO hs.out hr q (t:=Eu5) (by decide)) (λh=>by cases h)
     |true=>
      obtain⟨hR,hlen⟩:=D27 hr (by omega) ho
      obtain⟨l1,l2⟩:=Ck8 hlen (by omega)
      rw[G41 (by decide)]
      refine Re.br (b:=false) (λh=>by cases h) (λ_=>Re.gdd (by rw[l2];omega) (Re.gdd (by rw[l2];omega) ?_))
      rw[l1]
      cases hg:Z3 (K9 h.2.1 d).1 with
      |false=>
       rw[G45 rfl]
       exact Re.br (b:=true) (λ_=>B99 (os':=h.2.2.1) hs hs.nO hs.out hr q (t:=E44) (by decide)) (λh=>by cases h)
      |true=>
       rw[G41 (by decide)]
       exact Re.br (b:=false) (λh=>by cases h) (λ_=>Gu0 hs (q:=K9 h.2.1 d) hR q ⟨by omega,by omega⟩ hids B24)
    rw[G41 c2]
    refine Re.bre (λc3=> ?_) (λc3=> ?_)
    ·rw[G45 c3]
     obtain⟨hev,-⟩:=Fv2 hx c3
     have hes:=M8 hev
     have hef:=(Aj4 hev).2.1
     refine Re.c2 (Co8 h.2.1 hr x.2.2.2.1 (by omega) (by omega)) ?_
     cases ho:(K9 h.2.1 x.2.2.2.1).2 with
     |false=>
      rw[G45 rfl]
      exact Re.br (b:=true) (λ_=>B99 (os':=h.2.2.1) hs hs.nO hs.out hr q (t:=Eu5) (by decide)) (λh=>by cases h)
     |true=>
      obtain⟨hR,hlen⟩:=D27 hr (by omega) ho
      obtain⟨l1,l2⟩:=Ck8 hlen (by omega)
      rw[G41 (by decide)]
      refine Re.br (b:=false) (λh=>by cases h) (λ_=>Re.gdd (by rw[l2];omega) (Re.gdd (by rw[l2];omega) ?_))
      rw[l1]
      have hz:=Af2 (n:=x.2.2.2.1.1) ⟨by omega,by omega⟩
      have hdec:=F25 x.2.2.2.1.1 ⟨by omega,by omega⟩
      cases hg:Z3 (K9 h.2.1 x.2.2.2.1).1 with
      |false=>
       rw[G41 (by decide)]
       exact Re.br (b:=false) (λh=>by cases h) (λ_=>Re.c2 hdec (Re.gdd (by show 5+_≤A5;unfold A5;omega) (B99 (os':=h.2.2.1) hs hs.nO hs.out hR q (t:=Gn4++U1 x.2.2.2.1.1.toNat) (by rw[Ag0];show 5+_≤1000;omega))))
      |true=>
       rw[G45 rfl]
       exact Re.br (b:=true) (λ_=>Re.c2 hdec (Re.gdd (by show 4+_≤A5;unfold A5;omega) (B99 (os':=h.2.2.1) hs hs.nO hs.out hR q (t:=Gt9++U1 x.2.2.2.1.1.toNat) (by rw[Ag0];show 4+_≤1000;omega)))) (λh=>by cases h)
    rw[G41 c3]
    refine Re.bre (λc4=> ?_) (λc4=> ?_)
    ·rw[G45 c4]
     obtain⟨⟨u1,u2⟩,u3,u4⟩:=Fv3 hx c4
     have ed:B5 (x.2.2.2.2.1-1)=x.2.2.2.2.1-1:=D7 (by omega) (by omega)
     simp only[ed]
     obtain⟨j,hj⟩:∃j:Nat,x.2.2.2.2.1-1=j:=⟨(x.2.2.2.2.1-1).toNat,(Int.toNat_of_nonneg (by omega)).symm⟩
     simp only[hj,G33]
     have hjl:j<h.2.2.1.length:=by rw[hO.1];omega
     have hout:∀o:C3,o.2.2=(rd C1 h.2.2.1 j).2.2→∀o'∈h.2.2.1.set j o,o'.2.2.1.length≤1000:=λo ho o' ho'=>by
      rcases List.mem_or_eq_of_mem_set ho' with ho'|rfl
      ·exact hs.out o' ho'
      ·rw[ho];exact hs.out _ (by rw[C2 hjl];exact G47 _)
     have done:∀o:C3,o=Dk3 (rd C1 h.2.2.1 j) x.2.2.2.2.2.1→Re (λy:Nat×Nat=>gd (decide (0≤(i:Int))) (gd (decide ((i:Int)< (h.1.length:Int))) (H6 y.1 y.2 idx As5 (B5 ((((h.1.set i ((rd A3 h.1 i).1,x.2.2.1,As5,())).length:Nat):Int)+1)) x (h.1.set i ((rd A3 h.1 i).1,x.2.2.1,As5,())) h.2.1.1 h.2.1.2.1 h.2.1.2.2.1 (h.2.2.1.set j o)))) (λw=>w=Ax9 ((Af3 h.1 i x.2.2.1 As5,h.2.1,h.2.2.1.set j (Dk3 (rd C1 h.2.2.1 j) x.2.2.2.2.2.1),()),As5)):=λo ho=>by
      subst ho
      exact B99 (os':=h.2.2.1.set j (Dk3 (rd C1 h.2.2.1 j) x.2.2.2.2.2.1)) hs (by rw[G93];exact hs.nO) (hout _ rfl) hr q (t:=As5) (by decide)
     have same:Dk3 (rd C1 h.2.2.1 j) x.2.2.2.2.2.1=rd C1 h.2.2.1 j→Re (λy:Nat×Nat=>gd (decide (0≤(i:Int))) (gd (decide ((i:Int)< (h.1.length:Int))) (H6 y.1 y.2 idx As5 (B5 ((((h.1.set i ((rd A3 h.1 i).1,x.2.2.1,As5,())).length:Nat):Int)+1)) x (h.1.set i ((rd A3 h.1 i).1,x.2.2.1,As5,())) h.2.1.1 h.2.1.2.1 h.2.1.2.2.1 h.2.2.1))) (λw=>w=Ax9 ((Af3 h.1 i x.2.2.1 As5,h.2.1,h.2.2.1.set j (Dk3 (rd C1 h.2.2.1 j) x.2.2.2.2.2.1),()),As5)):=λe=>by
      have:=done _ rfl
      rw[e,Gi4 hjl]at this
      rw[e,Gi4 hjl]
      exact this
     refine Re.gdd (by omega) (Re.gdd (by omega) (Re.brd (λv1=>Re.brd (λv2=>done _ ?_) (λv2=>same ?_)) (λv1=>Re.brd (λv2=>done _ ?_) (λv2=>same ?_))))
     ·unfold Dk3;rw[G45 v1,G45 v2]
     ·unfold Dk3;rw[G45 v1,G41 v2]
     ·unfold Dk3;rw[G41 v1,G45 v2]
     ·unfold Dk3;rw[G41 v1,G41 v2]
    rw[G41 c4]
    have hsp:=Z1 h.2.1.1 (Ae2 h.2.1) 5
    refine Re.c2 (E47 h.2.1 hr) ?_
    exact Gu1 hs hr q (us:=J1 h.2.1.1 (Ae2 h.2.1) 5) (λu hu=>by have:=((hsp.2 u).1 hu).1;omega) hsp.1 B24
   ·rw[B2 q (by omega)]
    exact ih (i+1) ⟨by omega,t2 e⟩ (by omega)
  ·have el:i=h.1.length:=by omega
   have:=F27 (ss:=h.1) (tok:=x.2.1)
   rw[G41 (by omega)]
   simp only[Bq8,Ac0]
   refine Re.brd (λg=>by omega) (λ_=> ?_)
   exact Fv0 (h,B24) hs hr (κ:=λy:Nat×Nat=>y.1) (k9 B9)) 0 ⟨G49 _,G49 _⟩
 exact this
theorem Ds1 {ss:List A7} {os:List C3} (h:FewH ss os) (idx:Int) (hl:ss.length≤3):FewH (Ay9 ss idx) os:=by
 unfold Ay9
 refine⟨?_,λs hs=> ?_,h.nO,h.out⟩
 ·split<;>simp<;>omega
 ·rw[G34,G48]at hs
  rcases hs with hs|rfl
  ·split at hs
   ·exact h.ses s hs
   ·exact h.ses s (List.mem_of_mem_drop hs)
  ·show ByteArray.empty.size≤1000
   decide
theorem Gu3 (hk:M6 h=true) (hi:1≤idx∧idx≤400000):
  Re (λy:Nat×Nat=>V8 y.1 y.2 idx 0 ([]:List A7) h) (λw=>w=Ax9 ((Ay9 h.1 idx,h.2.1,h.2.2.1,()),Ed4++U1 idx.toNat)):=by
 obtain⟨hs,hr⟩:=As6 hk
 have hl3:=(An2 hk).nS
 have:=Re.loop (ι:=Nat) (l:=λk n (i:Nat)=>V8 k n idx (i:Int) (if h.1.length<3 then h.1.take i else(h.1.take i).drop 1) h) (I:=λi=>i≤h.1.length) (λi=>h.1.length-i) (Q:=λ_ w=>w=Ax9 ((Ay9 h.1 idx,h.2.1,h.2.2.1,()),Ed4++U1 idx.toNat)) (λi hi2 ih=>by
  simp only[V8,Bq7,G33]
  have hlen:(if h.1.length<3 then h.1.take i else(h.1.take i).drop 1).length≤3:=by split<;>simp<;>omega
  refine Re.brd (λg=> ?_) (λg=> ?_)
  ·have q:i<h.1.length:=by omega
   have next:=ih (i+1) (by omega) (by omega)
   have et:h.1.take (i+1)=h.1.take i++ [rd A3 h.1 i]:=by rw[G66,G36 q,C2 q];rfl
   rw[B2 q (by omega)]
   have keepIt:(i>0∨h.1.length<3)→Re (λy:Nat×Nat=>gd (decide (0≤(i:Int))) (gd (decide ((i:Int)< (h.1.length:Int))) (gd (decide ((if h.1.length<3 then h.1.take i else(h.1.take i).drop 1).length+([rd A3 h.1 i]:List A7).length≤A5)) (V8 y.1 y.2 idx ((i+1:Nat):Int) ((if h.1.length<3 then h.1.take i else(h.1.take i).drop 1)++([rd A3 h.1 i]:List A7)) h)))) (λw=>w=Ax9 ((Ay9 h.1 idx,h.2.1,h.2.2.1,()),Ed4++U1 idx.toNat)):=λhc=>by
    refine Re.gdd (by omega) (Re.gdd g (Re.gdd (by simp only[G57];unfold A5;omega) ?_))
    have e:(if h.1.length<3 then h.1.take (i+1)else(h.1.take (i+1)).drop 1)=(if h.1.length<3 then h.1.take i else(h.1.take i).drop 1)++ [rd A3 h.1 i]:=by
     rw[et]
     split
     ·rfl
     ·have hi0:i>0:=by omega
      rw[List.drop_append_of_le_length (by simp;omega)]
    rw[e]at next
    exact next
   refine Re.brd (λa=>keepIt (.inl (by omega))) (λa=>Re.brd (λb=>keepIt (.inr (by omega))) (λb=> ?_))
   have i0:i=0:=by omega
   have e:(if h.1.length<3 then h.1.take (i+1)else(h.1.take (i+1)).drop 1)=(if h.1.length<3 then h.1.take i else(h.1.take i).drop 1):=by
    rw[G41 (by omega),G41 (by omega),et,i0]
    simp
   rw[e]at next
   exact next
  ·have el:i=h.1.length:=by omega
   have eo:(if h.1.length<3 then h.1.take i else(h.1.take i).drop 1)++ [((idx,0,ByteArray.empty,()):A7)]=Ay9 h.1 idx:=by
    unfold Ay9
    rw[G40 (by omega)]
   have hz:=Af2 (n:=idx) ⟨by omega,by omega⟩
   refine Re.gdd (by simp only[G57];unfold A5;omega) (Re.c2 (F25 idx ⟨by omega,by omega⟩) (Re.gdd (by show 5+_≤A5;unfold A5;omega) ?_))
   rw[eo]
   exact Fv0 ((Ay9 h.1 idx,h.2),Ed4++U1 idx.toNat) (Ds1 hs idx hl3) hr (κ:=λy:Nat×Nat=>y.1) (k9 B9)) 0 (G49 _)
 have e:(if h.1.length<3 then h.1.take 0 else(h.1.take 0).drop 1)=[]:=by split<;>simp
 rw[e]at this
 exact this
theorem E48 (h:B4) (hm:J5 h≤1048576) (idx:Int) (x:B7) (hx:J7 x≤1048576):Ev (λk=>Bk5 k h idx x) (A73 h idx x):=by
 refine Re.eq (Re.c1 (C83 h hm) ?_)
 unfold A73
 cases hk:M6 h with
 |false=>exact Re.br (b:=true) (λ_=>Re.ret rfl) (λh=>by cases h)
 |true=>
  refine Re.br (b:=false) (λh=>by cases h) (λ_=>Re.c1 (Eb7 x hx) ?_)
  cases hc:I2 x with
  |false=>exact Re.br (b:=true) (λ_=>Re.ret rfl) (λh=>by cases h)
  |true=>
   refine Re.br (b:=false) (λh=>by cases h) (λ_=>Re.s1 (P8 · _ _ _) ?_)
   cases hI:W6 idx 1 400000 with
   |false=>exact Re.br (b:=true) (λ_=>Re.ret rfl) (λh=>by cases h)
   |true=>
    have hi:=M2.1 hI
    obtain⟨hs,hr⟩:=As6 hk
    refine Re.br (b:=false) (λh=>by cases h) (λ_=>Re.c1 (E45 h hs hr) ?_)
    refine Re.bre (λh1=> ?_) (λh1=> ?_)
    ·refine Re.enter (f:=λk n=>V8 k n idx 0 ([]:List A7) h) B9 ?_
     have:=Gu3 hk hi
     have e:Af4 h idx x=((Ay9 h.1 idx,h.2.1,h.2.2.1,()),Ed4++U1 idx.toNat):=by unfold Af4;rw[G45 h1]
     rw[e]
     exact this
    ·exact Re.enter (f:=λk n=>H6 k n idx B24 0 x h.1 h.2.1.1 h.2.1.2.1 h.2.1.2.2.1 h.2.2.1) B9 (Gu2 hk hc h1 hi)
end
end Go.Vm
end
section
namespace Go.Vm
open Go
theorem Ds2 (e:A0):∀(es:List A0) (n:A6),(An1 n es).2=true→An1 n (es++ [e])=bif (K9 (An1 n es).1 e).2 then((K9 (An1 n es).1 e).1,true)else(([],[],[],()),false)
 | [],n,_=>by simp only[G60,An1]
 |a::es,n,h=>by
  rw[Hb8]
  unfold An1 at h ⊢
  cases ho:(K9 n a).2 with
  |false=>rw[ho]at h;cases h
  |true=>
   rw[ho]at h
   simp only[G52]at h ⊢
   exact Ds2 e es _ h
theorem Ed7 {r:A6} {e:A0} (h:Ae4 r=true) (ho:(K9 r e).2=true):Ae4 (K9 r e).1=true:=by
 have hI:=Bc6 h
 obtain⟨_,h2,_⟩:=Et9 ho
 obtain⟨g1,g2⟩:=Ck3 hI (by have:=(M8 h2).1;omega) ho
 unfold Ae4 at h ⊢
 rw[G37,G37]at h
 obtain⟨-,k1,k2⟩:=h
 have k2:=Bu4.1 k2
 have hl:=g1.len
 have e1:B98 (K9 r e).1.1=((K9 r e).1,true):=by
  unfold B98 at k1 k2 ⊢
  rw[g2,Ds2 e _ _ k1,k2,ho]
  rfl
 rw[e1,G55 (by omega)]
 simp only[Ft2 rfl]
 rfl
theorem Fv4 {r:A6} {e:A0} (ho:(K9 r e).2=true):∃s g,(K9 r e).1=(r.1++ [e],r.2.1++ [s],r.2.2.1++ [g],()):=by
 unfold K9 at ho ⊢
 cases hq:(H2 r e.2.2.2.2.2.2.2.1).2&&(J9 e&&(decide (Ad6 r.1 e.1<0)&&(decide (e.2.2.2.2.2.2.2.2.1=Ad7 r.1 e.2.2.2.2.2.2.2.1)&&decide (r.1.length<40))))with
 |false=>rw[hq]at ho;cases ho
 |true=>exact⟨_,_,rfl⟩
theorem Ca0 {α:Type} {d:α} {xs:List α} {x:α} (i:Nat):rd d (xs++ [x]) i=if i<xs.length then rd d xs i else if i=xs.length then x else d:=by
 unfold rd
 simp only[Ha1]
 by_cases h:i<xs.length
 ·rw[G45 h,G51 h]
 ·rw[G41 h,G50 (by omega)]
  by_cases h2:i=xs.length
  ·rw[G45 h2,h2,Nat.sub_self];rfl
  ·rw[G41 h2,G75 (by simp;omega)];rfl
theorem F28 {r:A6} {e:A0} (hI:RoomI r) (ho:(K9 r e).2=true):X6 (K9 r e).1 (K9 r e).1.1.length=if Int.tmod e.1 2=0∧Z3 (K9 r e).1=true then X6 r r.1.length++ [e.1]else X6 r r.1.length:=by
 obtain⟨s,g,hp⟩:=Fv4 ho
 rw[hp]
 have hg:=hI.gl
 have old:∀n,n≤r.1.length→X6 (r.1++ [e],r.2.1++ [s],r.2.2.1++ [g],()) n=X6 r n:=by
  intro n
  induction n with
  |zero=>intro _;rfl
  |succ n ih=>
   intro hn
   have h0:=ih (by omega)
   have h1:rd A4 (r.1++ [e]) n=rd A4 r.1 n:=by rw[Ca0,G45 (show n<r.1.length by omega)]
   have h2:rd false (r.2.2.1++ [g]) n=rd false r.2.2.1 n:=by rw[Ca0,G45 (show n<r.2.2.1.length by omega)]
   simp only[X6,h1,h2,h0]
 have hl:Z3 ((r.1++ [e],r.2.1++ [s],r.2.2.1++ [g],()):A6)=g:=by
  unfold Z3
  simp only
  rw[Ca0,G41 (by simp),G45 (by simp)]
 have h1:rd A4 (r.1++ [e]) r.1.length=e:=by rw[Ca0,G41 (Nat.lt_irrefl _),G45 rfl]
 have h2:rd false (r.2.2.1++ [g]) r.1.length=g:=by rw[Ca0,G41 (show¬r.1.length<r.2.2.1.length by omega),G45 hg.symm]
 have h3:=old _ (G53 _)
 rw[hl]
 simp only[G70,G57]
 rw[show X6 (r.1++ [e],r.2.1++ [s],r.2.2.1++ [g],()) (r.1.length+1)=if Int.tmod (rd A4 (r.1++ [e]) r.1.length).1 2=0∧rd false (r.2.2.1++ [g]) r.1.length=true then X6 (r.1++ [e],r.2.1++ [s],r.2.2.1++ [g],()) r.1.length++ [(rd A4 (r.1++ [e]) r.1.length).1]else X6 (r.1++ [e],r.2.1++ [s],r.2.2.1++ [g],()) r.1.length from rfl,h1,h2,h3]
theorem As7 {ss:List A7} {r:A6} {os:List C3} (h1:ss.length≤3) (h2:os.length=2) (h3:Ae4 r=true) (h4:∀i,i<ss.length→C81 ss i=true) (h5:∀i,i<os.length→B39 os (X6 r r.1.length) i=true):M6 (ss,r,os,())=true:=by
 unfold M6
 simp only
 rw[h3,P3.2 h4,P3.2 h5,G55 (by omega),h2]
 rfl
theorem E49 {h : B4} (hk : M6 h = true) : h.1.length ≤ 3 ∧ h.2.2.1.length = 2 ∧ Ae4 h.2.1 = true ∧ (∀ i, i < h.1.length → C81 h.1 i = true) ∧ ∀ i, i < h.2.2.1.length → B39 h.2.2.1 (X6 h.2.1 h.2.1.1.length) i = true := by
  unfold M6 at hk
  simp only [Bool.and_eq_true, Bool.not_eq_true', decide_eq_false_iff_not, Bool.and_true] at hk
  obtain ⟨h1, h2, h3, h4, h5⟩ := hk
  exact ⟨by omega, by have : (h.2.2.1.length : Int) = 2 := by simpa using h2
                      omega, h3, P3.1 h4, P3.1 h5⟩
theorem Ck9 {α:Type} {d:α} {xs:List α} {x:α} {i:Nat} (hi:i<xs.length) (j:Nat):rd d (xs.set i x) j=if j=i then x else rd d xs j:=by
 unfold rd
 simp only[Ha1]
 by_cases h:j=i
 ·rw[G45 h,h,List.getElem?_set_self hi];rfl
 ·rw[G41 h,Hc9 (λe=>h e.symm)]
theorem Gm1 {ss:List A7} {i:Nat} {q:Int} {t:ByteArray} (hi:i<ss.length) (h:∀j,j<ss.length→C81 ss j=true) (hq:1≤q∧q≤1000000) (ht:t.size≤40):∀j,j< (Af3 ss i q t).length→C81 (Af3 ss i q t) j=true:=by
 intro j hj
 have hj:j<ss.length:=by unfold Af3 at hj;simpa using hj
 have tok:∀m,(rd A3 (Af3 ss i q t) m).1=(rd A3 ss m).1:=λm=>by
  unfold Af3
  rw[Ck9 hi]
  by_cases e:m=i
  ·rw[G45 e,e]
  ·rw[G41 e]
 have hc:=h j hj
 unfold C81 at hc ⊢
 rw[tok,tok]
 simp only[G37]at hc ⊢
 obtain⟨c1,c2,c3,c4,c5⟩:=hc
 by_cases e:j=i
 ·have hrd:rd A3 (Af3 ss i q t) j=((rd A3 ss i).1,q,t,()):=by unfold Af3;rw[Ck9 hi,G45 e]
  rw[hrd]
  refine⟨c1,M2.2 ⟨by simp only;omega,by simp only;omega⟩, ?_, ?_,c5⟩
  ·simp only
   rw[G55 (by omega)];rfl
  ·have:(q==0)=false:=by simp;omega
   simp only[this];rfl
 ·have hrd:rd A3 (Af3 ss i q t) j=rd A3 ss j:=by unfold Af3;rw[Ck9 hi,G41 e]
  rw[hrd]
  exact⟨c1,c2,c3,c4,c5⟩
theorem Gi6 {m:Nat} (h:m<10):(U1 m).size≤1:=by
 have:=E43 0 m (by omega)
 show(Lib.decDigits m).toArray.size≤1
 simpa using this
theorem F94 {us:List Int} (hu:∀u∈us,0≤u∧u<10):∀n,(inT us n).size≤2+2*n:=by
 intro n
 induction n with
 |zero=>exact G53 2
 |succ n ih=>
  by_cases q:n<us.length
  ·unfold inT at ih ⊢
   rw[G66,G36 q,Hc1]
   have hz:=Gi6 (m:=us[n].toNat) (by have:=hu _ (G47 q);omega)
   show(_++(⟨#[32]⟩:ByteArray)++U1 us[n].toNat).size≤_
   rw[Ag0,Ag0]
   show _+1+_≤_
   omega
  ·unfold inT at ih ⊢
   rw[G40 (by omega)]at ih ⊢
   omega
theorem Fi7 {os:List C3} {own:List Int} {i:Nat} (h:B39 os own i=true):(rd C1 os i).1=((i+1:Nat):Int)∧(rd C1 os i).2.2.1=own∧0≤(rd C1 os i).2.1∧(rd C1 os i).2.1≤own.length:=by
 unfold B39 at h
 simp only[G37]at h
 obtain⟨g1,g2,g3⟩:=h
 have:=M2.1 g3
 exact⟨by simpa using g1,G62 g2,this.1,this.2⟩
theorem Fv5 {os:List C3} {own:List Int} {i:Nat} (h1:(rd C1 os i).1=((i+1:Nat):Int)) (h2:(rd C1 os i).2.2.1=own) (h3:0≤(rd C1 os i).2.1) (h4:(rd C1 os i).2.1≤own.length):B39 os own i=true:=by
 unfold B39
 rw[h1,G54 h2,M2.2 ⟨h3,h4⟩]
 simp
theorem Gu4 {h:B4} (hk:M6 h=true) {x:B7} (hx:I2 x=true) (h1:x.1≠1) {idx:Int} (hi:1≤idx∧idx≤400000) {i:Nat} (hil:i<h.1.length) (hq:1≤x.2.2.1):
  M6 (Af3 h.1 i x.2.2.1 (doL h.2.1 h.2.2.1 idx x).2,(doL h.2.1 h.2.2.1 idx x).1.1,(doL h.2.1 h.2.2.1 idx x).1.2,())=true:=by
 obtain⟨p1,p2,p3,p4,p5⟩:=E49 hk
 have hseq:=C84 hx
 have hI:=Bc6 p3
 have ses:∀t:ByteArray,t.size≤40→∀j,j< (Af3 h.1 i x.2.2.1 t).length→C81 (Af3 h.1 i x.2.2.1 t) j=true:=λt ht=>Gm1 hil p4 ⟨hq,by omega⟩ ht
 have len:∀t:ByteArray,(Af3 h.1 i x.2.2.1 t).length≤3:=λt=>by unfold Af3;rw[G93];exact p1
 unfold doL
 by_cases c2:x.1=2
 ·rw[G45 c2]
  have did:=Ed6 (r:=h.2.1) (e:=x.2.2.2.1) hi
  generalize Aa4 h.2.1 idx x.2.2.2.1=d at did ⊢
  cases ho:(K9 h.2.1 d).2 with
  |false=>rw[G45 rfl];exact As7 (len _) p2 p3 (ses Eu5 (by decide)) p5
  |true=>
   rw[G41 (by decide)]
   cases hg:Z3 (K9 h.2.1 d).1 with
   |false=>rw[G45 rfl];exact As7 (len _) p2 p3 (ses E44 (by decide)) p5
   |true=>
    rw[G41 (by decide)]
    have hz:=Af2 (n:=d.1) ⟨by omega,by omega⟩
    refine As7 (len _) (by simpa using p2) (Ed7 p3 ho) (ses _ (by rw[Ag0];show 5+_≤40;omega)) λj hj=> ?_
    have hj:j<h.2.2.1.length:=by simpa using hj
    obtain⟨g1,g2,g3,g4⟩:=Fi7 (p5 j hj)
    have hrd:rd C1 (h.2.2.1.map (Ap0 d.1)) j=Ap0 d.1 (rd C1 h.2.2.1 j):=by
     rw[C2 (by simpa using hj),C2 hj,List.getElem_map]
    have hf:=F28 hI ho
    rw[G45 ⟨by rw[did];exact Int.mul_tmod_right ..,hg⟩]at hf
    simp only
    rw[hf]
    refine Fv5 ?_ ?_ ?_ ?_<;>rw[hrd]<;>unfold Ap0<;>simp only
    ·exact g1
    ·rw[g2]
    ·exact g3
    ·rw[G70];simp;omega
 rw[G41 c2]
 by_cases c3:x.1=3
 ·rw[G45 c3]
  obtain⟨hev,hodd⟩:=Fv2 hx c3
  have hef:=(Aj4 hev).2.1
  have hz:=Af2 (n:=x.2.2.2.1.1) ⟨by omega,by omega⟩
  cases ho:(K9 h.2.1 x.2.2.2.1).2 with
  |false=>rw[G45 rfl];exact As7 (len _) p2 p3 (ses Eu5 (by decide)) p5
  |true=>
   rw[G41 (by decide)]
   have hf:=F28 hI ho
   have:¬(Int.tmod x.2.2.2.1.1 2=0∧Z3 (K9 h.2.1 x.2.2.2.1).1=true):=λz=>by
    unfold odd at hodd
    rw[z.1]at hodd;cases hodd
   rw[G41 this]at hf
   refine As7 (len _) p2 (Ed7 p3 ho) (ses _ ?_) (by simp only;rw[hf];exact p5)
   simp only
   rw[Ag0]
   split
   ·show 4+_≤40;omega
   ·show 5+_≤40;omega
 rw[G41 c3]
 by_cases c4:x.1=4
 ·rw[G45 c4]
  obtain⟨⟨u1,u2⟩,u3,u4⟩:=Fv3 hx c4
  have hjl:(x.2.2.2.2.1-1).toNat<h.2.2.1.length:=by omega
  refine As7 (len _) (by simp only;rw[G93];exact p2) p3 (ses As5 (by decide)) λj hj=> ?_
  have hj:j<h.2.2.1.length:=by simpa using hj
  obtain⟨g1,g2,g3,g4⟩:=Fi7 (p5 j hj)
  by_cases e:j=(x.2.2.2.2.1-1).toNat
  ·refine Fv5 ?_ ?_ ?_ ?_<;>simp only<;>rw[Ck9 hjl,G45 e,←e]<;>unfold Dk3<;>simp only
   ·exact g1
   ·exact g2
   ·rw[g2];split<;>split<;>omega
   ·rw[g2];split<;>split<;>omega
  ·refine Fv5 ?_ ?_ ?_ ?_<;>simp only<;>rw[Ck9 hjl,G41 e]<;>assumption
 rw[G41 c4]
 have hsp:=Z1 h.2.1.1 (Ae2 h.2.1) 5
 refine As7 (len _) p2 p3 (ses _ ?_) p5
 have:=F94 (us:=J1 h.2.1.1 (Ae2 h.2.1) 5) (λu hu=>by have:=((hsp.2 u).1 hu).1;omega) (J1 h.2.1.1 (Ae2 h.2.1) 5).length
 have:=hsp.1
 simp only
 omega
theorem Gp8 {h:B4} (hk:M6 h=true) {x:B7} (hx:I2 x=true) (h1:x.1≠1) {idx:Int} (hi:1≤idx∧idx≤400000) {i:Nat} (hil:i<h.1.length):M6 (Ed5 h i idx x).1=true:=by
 have hseq:=C84 hx
 unfold Ed5
 split
 ·exact hk
 split
 ·exact hk
 split
 ·exact hk
 rename_i a1 a2 a3
 exact Gu4 hk hx h1 hi hil (by
  rcases Int.lt_or_le x.2.2.1 1 with q|q
  ·exact absurd (.inr (by omega)) a2
  ·exact q)
theorem Gm2 {h:B4} (hk:M6 h=true) {x:B7} (hx:I2 x=true) (h1:x.1≠1) {idx:Int} (hi:1≤idx∧idx≤400000):Ax9 (Af4 h idx x)=((Af4 h idx x).1,(Af4 h idx x).2,true):=by
 have:M6 (Af4 h idx x).1=true:=by
  unfold Af4
  rw[G41 h1]
  split
  ·exact Gp8 hk hx h1 hi ‹_›
  ·exact hk
 unfold Ax9
 rw[this];rfl
end Go.Vm
end
section
namespace Go.Vm
open Go
theorem F29 {n:Int} (h:0≤n∧n≤9000000000) (k:Nat):G9 k n=some (U1 n.toNat):=by
 unfold G9 strconv_Itoa E93
 rw[G45 ⟨h.1,by omega⟩]
 rfl
theorem Em7 (h:B4) (hs:FewH h.1 h.2.2.1) (hr:RoomI h.2.1):Ev (λk=>Cv5 k h) h:=by
 obtain⟨h1,h2,h3,h4⟩:=hs
 refine Re.eq (Re.gdd (by unfold A5;omega) (Re.c1 (Co6 _ hr) ?_))
 refine Re.enter (f:=λk n=>n7 k n h 0 h.2.1 []) B9 ?_
 have:=Re.loop (ι:=Nat) (l:=λk n (i:Nat)=>n7 k n h (i:Int) h.2.1 (h.2.2.1.take i)) (I:=λi=>i≤h.2.2.1.length) (λi=>h.2.2.1.length-i) (Q:=λ_ v=>v=h) (λi hi ih=>by
  simp only[n7,Bf4]
  refine Re.brd (λg=> ?_) (λg=>Re.ret (by rw[G40 (by omega)]))
  have hl:i<h.2.2.1.length:=by omega
  have ho:=h4 (rd C1 h.2.2.1 i) (by rw[C2 hl];exact G47 _)
  simp only[G33]
  refine Re.gdd (by omega) (Re.gdd g (Re.gdd (by unfold A5;omega) (Re.gdd (by simp[A5]<;>omega) ?_)))
  rw[B2 hl (by omega)]
  have next:=ih (i+1) (by omega) (by omega)
  rw[G66,G36 hl]at next
  rw[C2 hl]
  exact next) 0 (G49 _)
 exact this
theorem F95 (a b c:ByteArray):a++b++c=a++(b++c):=by apply Dh6;simp
theorem E50 {ss:List A7} {i:Nat} (hi:i<ss.length) (q:Int) (t:ByteArray):
  (ss.set i ((rd A3 ss i).1,q,(rd A3 ss i).2.2)).set i ((rd A3 (ss.set i ((rd A3 ss i).1,q,(rd A3 ss i).2.2)) i).1,(rd A3 (ss.set i ((rd A3 ss i).1,q,(rd A3 ss i).2.2)) i).2.1,t,())=Af3 ss i q t:=by
 rw[Ck9 hi,G45 rfl,Hc3]
 rfl
section
variable {h : B4} {idx : Int} {x : B7} {i : Nat} {b1 b2 b3 : Bool}
theorem Gu5 (hs:FewH h.1 h.2.2.1) {q:A6×Bool} (hg:rd false q.1.2.2.1 (B5 ((q.1.2.2.1.length:Int)-1)).toNat=true) (hi:i<h.1.length) {d:A0} (hd:0≤d.1∧d.1≤9000000000) (h4:∀o∈h.2.2.1,o.2.2.1.length≤900):
  Re (λy:Nat×Nat=>Ad2 y.1 y.2 q h 0 d x h h.2.2.1 idx (i:Int) b1 b2 b3) (λw=>w=((Af3 h.1 i x.2.2.1 (Co9++U1 d.1.toNat),q.1,h.2.2.1.map (Ap0 d.1),()),Co9++U1 d.1.toNat,true)):=by
 have hno:=hs.nO
 have:=Re.loop (ι:=Nat) (l:=λk n (j:Nat)=>Ad2 k n q h (j:Int) d x h ((h.2.2.1.take j).map (Ap0 d.1)++h.2.2.1.drop j) idx (i:Int) b1 b2 b3) (I:=λj=>j≤h.2.2.1.length) (λj=>h.2.2.1.length-j)
  (Q:=λ_ w=>w=((Af3 h.1 i x.2.2.1 (Co9++U1 d.1.toNat),q.1,h.2.2.1.map (Ap0 d.1),()),Co9++U1 d.1.toNat,true)) (λj hj ih=>by
  simp only[Ad2,Bs7,G33,Eq2,G93]
  have hlen:((h.2.2.1.take j).map (Ap0 d.1)++h.2.2.1.drop j).length=h.2.2.1.length:=by simp;omega
  rw[hlen]
  refine Re.brd (λg=> ?_) (λg=> ?_)
  ·have hl:j<h.2.2.1.length:=by omega
   have hrd:rd C1 ((h.2.2.1.take j).map (Ap0 d.1)++h.2.2.1.drop j) j=rd C1 h.2.2.1 j:=by
    have e0:((h.2.2.1.take j).map (Ap0 d.1)).length=j:=by simp;omega
    unfold rd
    rw[Ha1,G50 (by omega),e0,Nat.sub_self,List.getElem?_drop,G69,Ha1]
   have ho:=h4 (rd C1 h.2.2.1 j) (by rw[C2 hl];exact G47 _)
   simp only[hrd]
   refine Re.gdd (by omega) (Re.gdd g (Re.gdd (by simp[A5]<;>omega) (Re.gdd (by omega) (Re.gdd g (Re.gd (by simp) (Re.gd (by rw[Nat.ble_eq];simp) ?_))))))
   rw[B2 hl (by omega)]
   have next:=ih (j+1) (by omega) (by omega)
   have hset:((h.2.2.1.take j).map (Ap0 d.1)++h.2.2.1.drop j).set j ((rd C1 h.2.2.1 j).1,(rd C1 h.2.2.1 j).2.1,(rd C1 h.2.2.1 j).2.2.1++ [d.1],(rd C1 h.2.2.1 j).2.2.2)=(h.2.2.1.take (j+1)).map (Ap0 d.1)++h.2.2.1.drop (j+1):=by
    have e0:((h.2.2.1.take j).map (Ap0 d.1)).length=j:=by simp;omega
    rw[List.set_append_right _ _ (by omega),e0,Nat.sub_self,D26 (d:=C1) hl,List.set_cons_zero,G66,G36 hl,G64,G46,C2 hl]
    rfl
   rw[hset]
   exact next
  ·have hl:j=h.2.2.1.length:=by omega
   subst hl
   have e0:(h.2.2.1.take h.2.2.1.length).map (Ap0 d.1)++h.2.2.1.drop h.2.2.1.length=h.2.2.1.map (Ap0 d.1):=by simp
   rw[e0,hg]
   have hz:=Af2 hd
   refine Re.br (b:=false) (λh=>by cases h) (λ_=>Re.s2 (F29 hd) (Re.gdd (by show 5+(U1 d.1.toNat).size≤A5;unfold A5;omega) (Re.ret ?_)))
   rw[E50 hi]) 0 (G49 _)
 exact this
theorem Gu6 (hi:i<h.1.length) {us:List Int} (hu:∀u∈us,0≤u∧u≤9000000000) (hl:us.length≤5):
  Re (λy:Nat×Nat=>Ad3 y.1 y.2 (⟨#[105,110]⟩:ByteArray) us 0 h x h idx (i:Int) b1 b2 b3) (λw=>w=((Af3 h.1 i x.2.2.1 (inT us us.length),h.2),inT us us.length,true)):=by
 have:=Re.loop (ι:=Nat) (l:=λk n (j:Nat)=>Ad3 k n (inT us j) us (j:Int) h x h idx (i:Int) b1 b2 b3) (I:=λj=>j≤us.length) (λj=>us.length-j)
  (Q:=λ_ w=>w=((Af3 h.1 i x.2.2.1 (inT us us.length),h.2),inT us us.length,true)) (λj hj ih=>by
  simp only[Ad3,Bs8,G33]
  have hz:=Fi6 hu j
  refine Re.brd (λg=> ?_) (λg=> ?_)
  ·have hlj:j<us.length:=by omega
   have hb:=hu (rd 0 us j) (by rw[C2 hlj];exact G47 _)
   have hzm:=Af2 hb
   refine Re.gdd (by omega) (Re.gdd g (Re.s2 (F29 hb) (Re.gdd (by show 1+(U1 _).size≤A5;unfold A5;omega) (Re.gdd (by rw[Ag0];show _+(1+_)≤A5;unfold A5;omega) ?_))))
   rw[B2 hlj (by omega)]
   have next:=ih (j+1) (by omega) (by omega)
   have e0:inT us (j+1)=(inT us j++(⟨#[32]⟩:ByteArray))++U1 (rd 0 us j).toNat:=by
    unfold inT
    rw[G66,G36 hlj,Hc1,C2 hlj]
    rfl
   have e:inT us (j+1)=inT us j++((⟨#[32]⟩:ByteArray)++U1 (rd 0 us j).toNat):=by rw[e0,F95]
   rw[e]at next
   exact next
  ·have:j=us.length:=by omega
   subst this
   exact Re.ret (by rw[E50 hi])) 0 (G49 _)
 exact this
theorem Gu7 (hk:M6 h=true) (hx:I2 x=true) (h1:x.1≠1) (hi:1≤idx∧idx≤400000):
  Re (λy:Nat×Nat=>d8 y.1 y.2 h 0 x h idx b1 b2 b3) (λw=>w=((Af4 h idx x).1,(Af4 h idx x).2,true)):=by
 obtain⟨hs,hr⟩:=As6 hk
 have hf:=An2 hk
 have hO:=F26 hk
 have hn:=hs.nS
 have hseq:=C84 hx
 have hrl:=hr.len
 have hids:∀o∈h.2.2.1,o.2.2.1.length≤900:=λo ho=>by
  obtain⟨j,hj,rfl⟩:=G63 ho
  have:=(hO.2 j hj).2.1
  have hl:=As3 h.2.1 h.2.1.1.length
  rw[C2 hj]at this
  rw[this];omega
 have hd:Af4 h idx x=if Bl6 h.1 x.2.1<h.1.length then Ed5 h (Bl6 h.1 x.2.1) idx x else(h,B24):=by unfold Af4;rw[G41 h1]
 rw[hd]
 have:=Re.loop (ι:=Nat) (l:=λk n (i:Nat)=>d8 k n h (i:Int) x h idx b1 b2 b3) (I:=λi=>i≤h.1.length∧i≤Bl6 h.1 x.2.1) (λi=>h.1.length-i)
  (Q:=λ_ w=>w=((if Bl6 h.1 x.2.1<h.1.length then Ed5 h (Bl6 h.1 x.2.1) idx x else(h,B24)).1,(if Bl6 h.1 x.2.1<h.1.length then Ed5 h (Bl6 h.1 x.2.1) idx x else(h,B24)).2,true)) (λi hi2 ih=>by
  obtain⟨i1,i2⟩:=hi2
  simp only[d8,Bs9,G33]
  have g0:(0:Int)≤(i:Int):=G42 _
  by_cases q:i<h.1.length
  ·obtain⟨t1,t2⟩:=Eu6 q i2
   have g1:(i:Int)< (h.1.length:Int):=G61.2 q
   refine Re.brd (λ_=> ?_) (λg=>absurd g1 g)
   refine Re.gdd g0 (Re.gdd g1 (Re.bre (λe=> ?_) (λe=> ?_)))
   ·have et:=t1 e
    rw[et,G45 q]
    have hses:=hf.ses i q
    have ew:B5 ((rd A3 h.1 i).2.1+1)=(rd A3 h.1 i).2.1+1:=D7 (by omega) (by omega)
    simp only[ew,E50 q]
    refine Re.brd (λg=>absurd g (by omega)) (λ_=> ?_)
    generalize hA:Ed5 h i idx x=A
    unfold Ed5 at hA
    refine Re.gdd g0 (Re.gdd g1 (Re.brd (λa1=> ?_) (λa1=> ?_)))
    ·rw[G45 a1]at hA;subst hA;exact Re.ret rfl
    rw[G41 a1]at hA
    refine Re.brd (λa2=> ?_) (λa2=>Re.bre (λa3=> ?_) (λa3=> ?_))
    ·rw[G45 (.inl a2)]at hA;subst hA;exact Re.ret rfl
    ·rw[G45 (.inr a3)]at hA;subst hA;exact Re.ret rfl
    rw[G41 (λo=>o.elim a2 a3)]at hA
    refine Re.bre (λa4=> ?_) (λa4=> ?_)
    ·rw[G45 a4]at hA;subst hA;exact Re.ret rfl
    rw[G41 a4]at hA
    subst hA
    generalize hD:doL h.2.1 h.2.2.1 idx x=D
    unfold doL at hD
    refine Re.bre (λc2=> ?_) (λc2=> ?_)
    ·rw[G45 c2]at hD
     have hsent:=Gi5 hx c2
     obtain⟨e1,e2,e3⟩:=Cx0 hsent
     obtain⟨d1,d2⟩:=Ds0 (r:=h.2.1) (idx:=idx) hsent
     have did:=Ed6 (r:=h.2.1) (e:=x.2.2.2.1) hi
     refine Re.c2 (Fu8 h.2.1 hr idx x.2.2.2.1 (by omega) (by omega)) (Re.c2 (Co7 h.2.1 hr (Aa4 h.2.1 idx x.2.2.2.1) (by omega) (by omega)) ?_)
     generalize Aa4 h.2.1 idx x.2.2.2.1=d at d1 d2 did hD ⊢
     cases ho:(K9 h.2.1 d).2 with
     |false=>
      rw[G45 ho]at hD;subst hD
      exact Re.br (b:=true) (λ_=>Re.ret rfl) (λh=>by cases h)
     |true=>
      obtain⟨hR,hlen⟩:=D27 hr (by omega) ho
      obtain⟨l1,l2⟩:=Ck8 hlen (by omega)
      rw[G41 (by rw[ho];decide)]at hD
      refine Re.br (b:=false) (λh=>by cases h) (λ_=>Re.gdd (by rw[l2];omega) (Re.gdd (by rw[l2];omega) ?_))
      cases hg:Z3 (K9 h.2.1 d).1 with
      |false=>
       rw[G45 hg]at hD;subst hD
       rw[hg]at l1
       simp only[l1]
       refine Re.br (b:=false) (λh=>by cases h) (λ_=>Re.br (b:=false) (λh=>by cases h) (λ_=>Re.br (b:=true) (λ_=>Re.ret rfl) (λh=>by cases h)))
      |true=>
       rw[G41 (by rw[hg];decide)]at hD;subst hD
       rw[hg]at l1
       have e2:Int.tmod d.1 2=0:=by rw[did];exact Int.mul_tmod_right ..
       refine Re.br (λ_=>Re.br (λ_=>Re.ng ng2 (Re.bre (λ_=> ?_) (λz=>absurd e2 z))) (λh=>by rw[l1]at h;cases h)) (λh=>by rw[l1]at h;cases h)
       exact Gu5 hs (q:=K9 h.2.1 d) l1 q ⟨by omega,by omega⟩ hids
    rw[G41 c2]at hD
    refine Re.bre (λc3=> ?_) (λc3=> ?_)
    ·rw[G45 c3]at hD
     obtain⟨hev,hodd⟩:=Fv2 hx c3
     have hes:=M8 hev
     have hef:=(Aj4 hev).2.1
     have ho2:Int.tmod x.2.2.2.1.1 2≠0:=λz=>by
      unfold odd at hodd
      rw[z]at hodd;cases hodd
     refine Re.c2 (Co7 h.2.1 hr x.2.2.2.1 (by omega) (by omega)) ?_
     cases ho:(K9 h.2.1 x.2.2.2.1).2 with
     |false=>
      rw[G45 ho]at hD;subst hD
      exact Re.br (b:=true) (λ_=>Re.ret rfl) (λh=>by cases h)
     |true=>
      obtain⟨hR,hlen⟩:=D27 hr (by omega) ho
      obtain⟨l1,l2⟩:=Ck8 hlen (by omega)
      rw[G41 (by rw[ho];decide)]at hD;subst hD
      refine Re.br (b:=false) (λh=>by cases h) (λ_=>Re.gdd (by rw[l2];omega) (Re.gdd (by rw[l2];omega) ?_))
      have hz:=Af2 (n:=x.2.2.2.1.1) ⟨by omega,by omega⟩
      have hdec:=F29 (n:=x.2.2.2.1.1) ⟨by omega,by omega⟩
      cases hg:Z3 (K9 h.2.1 x.2.2.2.1).1 with
      |false=>
       rw[hg]at l1
       simp only[l1]
       refine Re.br (b:=false) (λh=>by cases h) (λ_=>Re.br (b:=false) (λh=>by cases h) (λ_=>Re.br (b:=false) (λh=>by cases h) (λ_=>Re.s2 hdec (Re.gdd (by show 5+_≤A5;unfold A5;omega) (Re.ret rfl)))))
      |true=>
       rw[hg]at l1
       simp only[l1]
       refine Re.br (b:=true) (λ_=>Re.br (b:=true) (λ_=>Re.ng ng2 (Re.bre (λz=>absurd z ho2) (λ_=>Re.br (b:=true) (λ_=>Re.s2 hdec (Re.gdd (by show 4+_≤A5;unfold A5;omega) (Re.ret rfl))) (λh=>by cases h)))) (λh=>by cases h)) (λh=>by cases h)
    rw[G41 c3]at hD
    refine Re.bre (λc4=> ?_) (λc4=> ?_)
    ·rw[G45 c4]at hD;subst hD
     obtain⟨⟨u1,u2⟩,u3,u4⟩:=Fv3 hx c4
     have ed:B5 (x.2.2.2.2.1-1)=x.2.2.2.2.1-1:=D7 (by omega) (by omega)
     have hjl:(x.2.2.2.2.1-1).toNat<h.2.2.1.length:=by omega
     obtain⟨_,o2,o3,o4⟩:=hO.2 _ hjl
     simp only[ed,Eq2]
     refine Re.gdd (by omega) (Re.gdd (by omega) (Re.ret ?_))
     have e:(if(((rd C1 h.2.2.1 (x.2.2.2.2.1-1).toNat).2.2.1.length:Nat):Int)< (if x.2.2.2.2.2.1> (rd C1 h.2.2.1 (x.2.2.2.2.1-1).toNat).2.1 then x.2.2.2.2.2.1 else(rd C1 h.2.2.1 (x.2.2.2.2.1-1).toNat).2.1)then(((rd C1 h.2.2.1 (x.2.2.2.2.1-1).toNat).2.2.1.length:Nat):Int)else(if x.2.2.2.2.2.1> (rd C1 h.2.2.1 (x.2.2.2.2.1-1).toNat).2.1 then x.2.2.2.2.2.1 else(rd C1 h.2.2.1 (x.2.2.2.2.1-1).toNat).2.1))=(Dk3 (rd C1 h.2.2.1 (x.2.2.2.2.1-1).toNat) x.2.2.2.2.2.1).2.1:=by
      unfold Dk3
      simp only
      rw[←o2]at o4
      repeat' split
      all_goals omega
     rw[e]
     rfl
    rw[G41 c4]at hD;subst hD
    have hsp:=Z1 h.2.1.1 (Ae2 h.2.1) 5
    refine Re.c2 (E42 h.2.1 hr) ?_
    exact Gu6 q (us:=J1 h.2.1.1 (Ae2 h.2.1) 5) (λu hu=>by have:=((hsp.2 u).1 hu).1;omega) hsp.1
   ·rw[B2 q (by omega)]
    exact ih (i+1) ⟨by omega,t2 e⟩ (by omega)
  ·have el:i=h.1.length:=by omega
   have:=F27 (ss:=h.1) (tok:=x.2.1)
   have hne:¬Bl6 h.1 x.2.1<h.1.length:=by omega
   rw[G41 hne]
   exact Re.brd (λg=>by omega) (λ_=>Re.ret rfl)) 0 ⟨G49 _,G49 _⟩
 exact this
end
theorem E51 (h:B4) (hm:J5 h≤1048576) (idx:Int) (x:B7) (hx:J7 x≤1048576):Ev (λk=>A33 k h idx x) (A73 h idx x):=by
 refine Re.eq (Re.c1 (C82 h hm) ?_)
 unfold A73
 cases hk:M6 h with
 |false=>exact Re.br (b:=true) (λ_=>Re.ret rfl) (λh=>by cases h)
 |true=>
  refine Re.br (b:=false) (λh=>by cases h) (λ_=>Re.s1 (O1 · _ _ _) ?_)
  cases hI:W6 idx 1 400000 with
  |false=>rw[Bool.and_false,Bool.and_false];exact Re.br (b:=true) (λ_=>Re.ret rfl) (λh=>by cases h)
  |true=>
   refine Re.br (b:=false) (λh=>by cases h) (λ_=>Re.c1 (Eb8 x hx) ?_)
   cases hc:I2 x with
   |false=>exact Re.br (b:=true) (λ_=>Re.ret rfl) (λh=>by cases h)
   |true=>
    have hi:=M2.1 hI
    obtain⟨hs,hr⟩:=As6 hk
    have hf:=An2 hk
    refine Re.br (b:=false) (λh=>by cases h) (λ_=>Re.c1 (Em7 h hs hr) ?_)
    refine Re.bre (λh1=> ?_) (λh1=> ?_)
    ·have e:Af4 h idx x=((Ay9 h.1 idx,h.2.1,h.2.2.1,()),Ed4++U1 idx.toNat):=by unfold Af4;rw[G45 h1]
     have hz:=Af2 (n:=idx) ⟨by omega,by omega⟩
     have hl3:=hf.nS
     have hsm:=(Ds1 hs idx hl3).m hr
     have tail:∀ss:List A7,ss=Ay9 h.1 idx→Re (λk:Nat=>bd (Bk8 k (ss,h.2)) λr5=>br (!r5) (some (([],([],[],[],()),[],()),(⟨#[]⟩:ByteArray),false)) (bd (G9 k idx) λr6=>gd (decide ((⟨#[111,112,101,110,32]⟩:ByteArray).size+r6.size≤A5)) (some ((ss,h.2),((⟨#[111,112,101,110,32]⟩:ByteArray)++r6),true)))) (λw=>w=Ax9 (Af4 h idx x)):=λss hss=>by
      subst hss
      rw[e]
      refine Re.c1 (C82 (Ay9 h.1 idx,h.2) hsm) ?_
      unfold Ax9
      simp only
      cases hk2:M6 (Ay9 h.1 idx,h.2)with
      |false=>exact Re.br (b:=true) (λ_=>Re.ret rfl) (λh=>by cases h)
      |true=>
       exact Re.br (b:=false) (λh=>by cases h) (λ_=>Re.s1 (F29 ⟨by omega,by omega⟩) (Re.gdd (by show 5+_≤A5;unfold A5;omega) (Re.ret rfl)))
     refine Re.gdd (by simp only[G57];unfold A5;omega) (Re.brd (λg=> ?_) (λg=> ?_))
     ·refine Re.gdd (by simp only[G70,G57];omega) (tail _ ?_)
      have:h.1.length=3:=by simp at g;omega
      unfold Ay9
      rw[G41 (by omega),List.drop_append_of_le_length (by omega)]
     ·refine tail _ ?_
      have:h.1.length<3:=by simp at g;omega
      unfold Ay9
      rw[G45 this]
    ·have hd:=Gm2 hk hc h1 hi
     show Re _ (λw=>w=Ax9 (Af4 h idx x))
     rw[hd]
     exact Re.enter (f:=λk n=>d8 k n h 0 x h idx true true true) B9 (Gu7 hk hc h1 hi)
theorem F96 (h:B4) (idx:Int) (x:B7):J5 (A73 h idx x).1≤1048576:=by
 have no:J5 Fu9≤1048576:=by decide
 unfold A73
 cases M6 h&&(I2 x&&W6 idx 1 400000)with
 |false=>exact no
 |true=>
  show J5 (Ax9 (Af4 h idx x)).1≤1048576
  unfold Ax9
  cases hk:M6 (Af4 h idx x).1 with
  |false=>exact no
  |true=>
   obtain⟨hs,hr⟩:=As6 hk
   exact hs.m hr
theorem E52 (a0:B4) (a1:Int) (a2:B7):J5 a0≤1048576→J7 a2≤1048576→J5 a0+J7 a2≤1048576→∃v:B4×ByteArray×Bool,J5 v.1≤1048576∧Ev (λk=>Bk5 k a0 a1 a2) v∧Ev (λk=>A33 k a0 a1 a2) v:=
 λh1 h2 _=> ⟨A73 a0 a1 a2,F96 ..,E48 a0 h1 a1 a2 h2,E51 a0 h1 a1 a2 h2⟩
end Go.Vm
end
