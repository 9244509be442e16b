/- The machine: a typed interpreter of the model's code, and its soundness (part 2). -/
import Derived.Test.YtmmgjbjmmipobaaGreatDoorZp0
import Derived.MapKept
set_option linter.all false
section
section
namespace Go.Vm
open Go
section
variable {P : Program} {cfg : Cfg} {E : Env} {st : St} {saved : List (Nat × List VV)} {a : Act} {S : List (Array Value)} {w w0 : World} {K : Keep}
 {R:Type} {Kk:List Upd→VV→List Loc→Option R} {l:List Loc} {r:R} {o:Oper}
theorem Fb0 {t t':Ty} {xs:List (Int×El t)} {ys:List (Int×El t')} (h:Fo5 t t' xs=some ys):∃e:t=t',ys=e▸xs:=by
 unfold Fo5 at h
 split at h
 ·rename_i e
  cases h
  exact⟨e,rfl⟩
 ·cases h
theorem Dg4 {T:TypeId} {k:Ty→RP} (hrun:(Dl1 cfg T k).run st Kk l=some r):∃t,look cfg.maps T=some t∧(k t).run st Kk l=some r:=by
 unfold Dl1 at hrun
 split at hrun
 ·exact⟨_,‹_›,hrun⟩
 ·cases hrun
theorem Er2 (x:Operand) (k:Int→RP) (hrun:(E90 x k).run st Kk l=some r):
  ∃n l',(k n).run st Kk l'=some r∧(∀{E saved a S w w0 K},RelE E st saved a S w w0 K→a.eval x= .int .i64 n):=by
 obtain⟨i,n,l',h1,h2⟩:=At3 x _ hrun
 by_cases e:i= .i64
 ·subst e
  exact⟨n,l',by simpa using h1,h2⟩
 ·simp[e,RP.run]at h1
theorem Er3 {t:Ty} {c:Cell} {k:Nat→List (Int×El t)→RP} (hrun:(Eq0 t c k).run st Kk l=some r):
  ∃q xs l',c= .mp q∧B3 st.heap q=some (.mp t xs)∧(k q xs).run st Kk l'=some r:=by
 unfold Eq0 at hrun
 split at hrun
 ·rename_i q
  simp only[RP.run]at hrun
  split at hrun
  ·rename_i t' xs hg
   split at hrun
   ·rename_i ys hy
    obtain⟨rfl,rfl⟩:=Fb0 hy
    exact⟨q,_,_,rfl,hg,hrun⟩
   ·cases hrun
  ·cases hrun
 ·cases hrun
theorem Dl6 {ok:Nat→Prop} {t:Ty} {x:El t} {v:Value} (h:ImmV E.ok w t x v) {hp:D3}:V1Rel E hp w ⟨t.agg,B1 t x⟩ v:=by
 obtain⟨cs,h1,h2⟩:=h
 exact⟨cs,P2 h1,h2⟩
theorem Ge2 {t:Ty} {T:TypeId} (hok:TyOk P t T) (ok:Nat→Prop) (w:World):∃z,(∀w,(zeroValue T).run P w= .ok z w)∧ImmV ok w t (K8 t) z:=by
 obtain⟨i,hi,hs,hz,hb⟩:=hok.base.info
 refine⟨_,λw=>by simp only[zeroValue,typeInfo,Sem.run_bind,run_program,Result.andThen_ok,hi,Sem.run_pure,hz];rfl,F1 t,A42 t, ?_⟩
 cases t<;>first|exact .inl ⟨rfl,rfl⟩|exact .inr ⟨rfl,rfl⟩
abbrev Go2 (ok:Nat→Prop) (w:World) (t:Ty) (p:Int×El t) (e:MapEntry):Prop:=e.key= .int .i64 p.1∧ImmV ok w t p.2 e.val
theorem Dl7 {ok:Nat→Prop} {t:Ty} (d:El t) (n:Int):∀{xs:List (Int×El t)} {es:List MapEntry} (i:Nat),All2 (Go2 ok w t) xs es→
  (Instr.findNow (.int .i64) (.int .i64 n) es i=some none∧Ek3 xs n=false∧Ad9 d xs n=d∧∀y,Cl3 xs n y=xs++ [(n,y)])∨
  ∃j v,Instr.findNow (.int .i64) (.int .i64 n) es i=some (some (i+j,v))∧Ek3 xs n=true∧ImmV ok w t (Ad9 d xs n) v∧(∃e,es[j]? =some e∧e.key= .int .i64 n)∧∀y,Cl3 xs n y=xs.set j (n,y):=by
 intro xs es i h
 induction h generalizing i with
 |nil=>exact .inl ⟨rfl,rfl,rfl,λ_=>rfl⟩
 |@cons p e xs es hp _ ih=>
  obtain⟨m,x⟩:=p
  obtain⟨hk,hv⟩:=hp
  have hsame:Instr.sameNow (.int .i64) (.int .i64 n) e.key=some (n==m):=by rw[hk];simp[Instr.sameNow]
  cases hb:(n==m)with
  |true=>
   have e1:n=m:=by simpa using hb
   subst e1
   right
   exact⟨0,e.val,by simp[Instr.findNow,hsame],by simp[Ek3],by simpa [Ad9]using hv,⟨e,rfl,hk⟩,λy=>by simp[Cl3]⟩
  |false=>
   have e1:(m==n)=false:=by
    have:n≠m:=by simpa using hb
    simpa using this.symm
   rw[hb]at hsame
   rcases ih (i+1)with⟨h1,h2,h3,h4⟩|⟨j,v,h1,h2,h3,h4,h5⟩
   ·exact .inl ⟨by simp[Instr.findNow,hsame,h1],by simp[Ek3,e1,h2],by simp[Ad9,e1,h3],λy=>by simp[Cl3,e1,h4]⟩
   ·refine .inr ⟨j+1,v,by simp[Instr.findNow,hsame,h1];omega,by simp[Ek3,e1,h2],by simpa [Ad9,e1]using h3,by simpa using h4,λy=>by simp[Cl3,e1,h5]⟩
theorem Ek7 {k:TypeId} (hk:P.underlying k=some (.int .i64)) (b:Bool) (n:Int) (w:World) (m:Nat):(Instr.checkKey b (m+1) k (.int .i64 n)).run P w= .ok () w:=by
 simp[Instr.checkKey,underlying,hk]
theorem Az2 {k:TypeId} (hk:P.underlying k=some (.int .i64)) (b:Bool) (n:Int) (w:World):(Instr.checkKey b 10000 k (.int .i64 n)).run P w= .ok () w:=
 Ek7 hk b n w 9999
theorem F43 (hG:Good P cfg) (h:RelE E st saved a S w w0 K) {T:TypeId} {nm:Nat} (ho:o.op= .makeMap T none)
  (hrun:(Dl1 cfg T λt=>O7 nm (.done [.o nm (.mp t [])] (one (.mp nm)))).run st Kk l=some r):Goes P o a w st saved S w0 K Kk r:=by
 obtain⟨t,hT,h1⟩:=Dg4 hrun
 obtain⟨hn,l1,hK⟩:=L9 h1
 have hr:=h.new hn (.mp t []) (.map #[] 0) ⟨.inl rfl,by
  have e1:(E.new nm w.heap.size).ρ nm=(w.heap.size,0):=by simp[Env.new]
  rw[e1]
  exact⟨#[],0,Q0 _ _, .nil⟩⟩
 have hc:CellRel (E.new nm w.heap.size) (hset st.heap nm (.mp t [])) (w.alloc (.map #[] 0)) (.mp nm) (.map (some w.heap.size)):=
  ⟨t,by rw[F5,G45 rfl];rfl,by simp[Env.new]⟩
 refine⟨_,_,l1,hK,λQ next hnx=>OpRes.wp ⟨_,_,_, .inl ?_,hr,VRel.one hc⟩ Q next hnx⟩
 simp[execOp,ho,Instr.makeMap]
theorem Ge3 (hG:Good P cfg) (h:RelE E st saved a S w w0 K) {T:TypeId} {x k:Operand} {ok:Bool} (ho:o.op= .lookup T x k ok)
  (hrun:(Dl1 cfg T λt=>rdC x λc=>E90 k λn=>Eq0 t c λ_ xs=>Fo6 t xs n ok).run st Kk l=some r):Goes P o a w st saved S w0 K Kk r:=by
 obtain⟨t,hT,h1⟩:=Dg4 hrun
 obtain⟨c,l1,h2,hc⟩:=O9 x _ h1
 obtain⟨n,l2,h3,hn⟩:=Er2 k _ h2
 obtain⟨q,xs,l3,rfl,hg,h4⟩:=Er3 h3
 obtain⟨kT,eT,hu,hk,hok⟩:=(hG.map T t hT).under
 obtain⟨t2,_,hx⟩:=hc h
 have hn:=hn h
 obtain⟨hh,es,clock,hb,hes⟩:=h.ob q _ hg
 obtain⟨z,hz,hzi⟩:=Ge2 hok E.ok w
 have hgo:=MapKept.run_getObj_map (P:=P) hb
 have fin:∀v,((Instr.lookup T (.map (some (E.ρ q).1)) (.int .i64 n) ok).run P w= .ok (if ok then .tuple #[v, .bool (Ek3 xs n)]else v) w)→ImmV E.ok w t (Ad9 (K8 t) xs n) v→Goes P o a w st saved S w0 K Kk r:=by
  intro v hl hv
  unfold Fo6 at h4
  cases ok with
  |true=>
   refine .pure (V:= .tuple #[v, .bool (Ek3 xs n)]) h h4 (by simp[execOp,ho,hx,hn,hl]) ⟨[v, .bool (Ek3 xs n)], .cons (Dl6 (ok:=E.ok) hv) (.cons (V1Rel.mkOne rfl) .nil),rfl⟩
  |false=>exact .pure (V:=v) h h4 (by simp[execOp,ho,hx,hn,hl]) (Dl6 (ok:=E.ok) hv)
 rcases Dl7 (ok:=E.ok) (w:=w) (K8 t) n 0 hes with⟨e1,e2,e3,_⟩|⟨j,v,e1,e2,e3,_⟩
 ·refine fin z ?_ (by rw[e3];exact hzi)
  rw[e2]
  cases ok<;>simp[Instr.lookup,underlying,hu,hgo,Az2 hk,Instr.findKey,hk,e1,hz]
 ·refine fin v ?_ e3
  rw[e2]
  cases ok<;>simp[Instr.lookup,underlying,hu,hgo,Az2 hk,Instr.findKey,hk,e1]
theorem Ge4 {g:Nat} {es:Array MapEntry} {clock:Nat} (hb:w.heap[g]? =some (.map es clock)) (es':Array MapEntry) (clock':Nat):Puts g w {w with heap:=w.heap.setIfInBounds g (.map es' clock')}:=by
 have hsame:∀b,b≠g→({w with heap:=w.heap.setIfInBounds g (.map es' clock')}:World).heap[b]? =w.heap[b]? :=λb hb'=>by
  simp[Ne.symm hb']
 have hnew:({w with heap:=w.heap.setIfInBounds g (.map es' clock')}:World).heap[g]? =some (.map es' clock'):=by
  have:g<w.heap.size:=by
   rcases G96 g w.heap.size with h|h
   ·exact h
   ·rw[Hb9 h]at hb;cases hb
  simp[this]
 refine⟨by simp,rfl,rfl,rfl,hsame,λb m hr=> ?_,λx=> ?_,λx=> ?_⟩
 ·obtain⟨cs,e,fr,h1,h2⟩:=hr
  by_cases e1:b=g
  ·subst e1;rw[hb]at h1;cases h1
  ·exact⟨cs,e,fr,(hsame b e1).trans h1,h2⟩
 ·by_cases e1:x.block=g
  ·simp only[World.frozen?,e1,hnew,hb]
  ·exact Az0 (hsame _ e1)
 ·by_cases e1:x.block=g
  ·simp only[World.cell?,e1,hnew,hb]
  ·rw[I3 (hsame _ e1)]
theorem Fb1 {es:Array MapEntry} {j:Nat} {e:MapEntry} {f:MapEntry→MapEntry} (h:es.toList[j]? =some e):(es.modify j f).toList=es.toList.set j (f e):=by
 apply List.ext_getElem?
 intro i
 rw[List.getElem?_set]
 have h':es[j]? =some e:=by simpa using h
 by_cases hi:j=i
 ·subst hi
  have hlt:j<es.size:=by
   rcases G96 j es.size with h|h
   ·exact h
   ·rw[Hb9 h]at h';cases h'
  have e1:es[j]=e:=by simpa [Array.getElem?_eq_getElem hlt]using h'
  simp[hlt,e1]
 ·simp[hi]
theorem Fb2 (hG:Good P cfg) (h:RelE E st saved a S w w0 K) {T:TypeId} {m k v:Operand} (ho:o.op= .mapUpdate T m k v)
  (hrun:(Dl1 cfg T λt=>rdC m λc=>E90 k λn=>rd1 v λv=>bif (bif v.agg then t.agg else !t.agg)then Eq0 t c λo xs=>B42 t v.cs λy u=>U2 (u++ [.o o (.mp t (Cl3 xs n y))]) VV.un else .fail).run st Kk l=some r):
  Goes P o a w st saved S w0 K Kk r:=by
 obtain⟨t,hT,h1⟩:=Dg4 hrun
 obtain⟨c,l1,h2,hc⟩:=O9 m _ h1
 obtain⟨n,l2,h3,hn⟩:=Er2 k _ h2
 obtain⟨x,l3,h4,hx⟩:=At2 v _ h3
 cases hag:(bif x.agg then t.agg else !t.agg)with
 |false=>rw[hag]at h4;cases h4
 |true=>
  rw[hag]at h4
  simp only[G52]at h4
  obtain⟨q,xs,l4,rfl,hg,h5⟩:=Er3 h4
  obtain⟨y,u,l5,h6,hfz,_,hy⟩:=B51 h5
  obtain⟨hd,hK⟩:=S6 h6
  rw[G64]at hd
  obtain⟨hd1,_,hdj⟩:=F4 hd
  have hnq:q∉u.map Upd.name:=λhm=>hdj q hm (by simp[Upd.name])
  obtain⟨kT,eT,hu,hk,hok⟩:=(hG.map T t hT).under
  obtain⟨t2,_,hcx⟩:=hc h
  have hn:=hn h
  have hx:=hx h
  obtain⟨hh,es,clock,hb,hes⟩:=h.ob q _ hg
  obtain⟨us,hus,hV⟩:=hx
  have hyi:=hy h hus
  obtain⟨E1,r1,e1,e2,e3⟩:=h.frzs u hfz hd1
  have hg1:B3 (st.upds u).heap q=some (.mp t xs):=by rw[G7 u st q hnq];exact hg
  have hlive:C6 (st.upds u).heap q:=by unfold C6;rw[hg1];trivial
  have hh1:E1.has q:=by rw[e2];exact hh
  have eρ:E1.ρ q=E.ρ q:=by rw[e1]
  have hval:ImmV E1.ok w t y (a.eval v):=⟨us,hyi.mono (λb hb=> (e3 b).1 hb) (λ_ _=>rfl),by
   rcases hV with⟨g1,g2⟩|⟨g1,g2⟩
   ·rw[g1]at hag;exact .inl ⟨hag,g2⟩
   ·rw[g1]at hag;exact .inr ⟨by simpa using hag,g2⟩⟩
  have hes1:All2 (Go2 E1.ok w t) xs es.toList:=hes.mono λ_ _ p=> ⟨p.1,p.2.mono (λb hb=> (e3 b).1 (.inl hb)) (λ_ _=>rfl)⟩
  have fin:∀(es':Array MapEntry) (clock':Nat),All2 (Go2 E1.ok w t) (Cl3 xs n y) es'.toList→(Instr.mapUpdate T (.map (some (E.ρ q).1)) (.int .i64 n) (a.eval v)).run P w= .ok () {w with heap:=w.heap.setIfInBounds (E.ρ q).1 (.map es' clock')}→Goes P o a w st saved S w0 K Kk r:=by
   intro es' clock' hrel hex
   have hput:=Ge4 hb es' clock'
   have hr:=r1.write (ob':= .mp t (Cl3 xs n y)) hg1 hlive hh1 rfl (by unfold C6;rw[A9,G45 rfl];trivial) (by rw[eρ];exact hput) (λ{h'} k=> ⟨hh1,es',clock',by
    rw[eρ]
    have:(E.ρ q).1<w.heap.size:=by
     rcases G96 (E.ρ q).1 w.heap.size with h|h
     ·exact h
     ·rw[Hb9 h]at hb;cases hb
    simp[this],hrel.mono λ_ _ p=> ⟨p.1,p.2.mono k.ok k.same⟩⟩)
   have hrr:RelE E1 (st.upds (u++ [.o q (.mp t (Cl3 xs n y))])) saved a S {w with heap:=w.heap.setIfInBounds (E.ρ q).1 (.map es' clock')} w0 K:=by rw[H3];exact hr
   have hx2:(execOp a.eval o).run P w= .ok .skip {w with heap:=w.heap.setIfInBounds (E.ρ q).1 (.map es' clock')}:=by
    simp[execOp,ho,hcx,hn,hex]
   exact⟨_,_,_,hK,λQ next hnx=>OpRes.wp ⟨undef,_,E1, .inr ⟨hx2,rfl⟩,hrr,(show VRel _ _ _ .un undef from trivial)⟩ Q next hnx⟩
  have hgo:=MapKept.run_getObj_map (P:=P) hb
  rcases Dl7 (ok:=E1.ok) (w:=w) (K8 t) n 0 hes1 with⟨f1,_,_,f4⟩|⟨j,v',f1,_,_,⟨e,f4,f5⟩,f6⟩
  ·refine fin (es.push {key:= .int .i64 n,val:=a.eval v,born:=clock}) (clock+1) ?_ ?_
   ·rw[f4,Array.toList_push]
    exact hes1.append (.cons ⟨rfl,hval⟩ .nil)
   ·simp[Instr.mapUpdate,underlying,hu,hgo,Az2 hk,Instr.findKey,hk,f1,MapKept.run_setObj_map _ hb]
  ·rw[G78]at f1
   refine fin (es.modify j λe=> {e with key:= .int .i64 n,val:=a.eval v}) clock ?_ ?_
   ·rw[f6,Fb1 f4]
    exact hes1.set ⟨rfl,hval⟩ j
   ·have f4':es[j]? =some e:=by simpa using f4
    simp[Instr.mapUpdate,underlying,hu,hgo,Az2 hk,Instr.findKey,hk,f1,MapKept.run_setObj_map _ hb,f4',f5,Instr.keyThatStays,Instr.sameBits]
theorem T2 {b:Bool} {x:RP} (h:(RP.ite b x .fail).run st Kk l=some r):b=true∧x.run st Kk l=some r:=by
 cases b with
 |true=>exact⟨rfl,h⟩
 |false=>cases h
theorem Ge5 (hG:Good P cfg) (h:RelE E st saved a S w w0 K) {T:TypeId} {x hi mx:Operand} {lo:Option Operand} (ho:o.op= .slice T x lo (some hi) (some mx))
  (hrun:(Z8 cfg T λ_ _=>rdC x λc=>D30 lo λa=>rdI hi λ_ b=>rdI mx λ_ m=>D35 c a b m).run st Kk l=some r):Goes P o a w st saved S w0 K Kk r:=by
 obtain⟨e,t,hT,h0⟩:=S1 hrun
 obtain⟨c,l1,h1,hc⟩:=O9 x _ h0
 obtain⟨p,l2,h2,kl,hp⟩:=Dg2 lo _ h1
 obtain⟨kh,q,l3,h3,hq⟩:=At3 hi _ h2
 obtain⟨km,m,l4,h4,hm⟩:=At3 mx _ h3
 have hok:=hG.tab T _ hT
 have hc:=hc h
 have hp:=hp h
 have hq:=hq h
 have hm:=hm h
 unfold D35 at h4
 split at h4
 ·rename_i q' lo' hi' _
  simp only[RP.run]at h4
  split at h4
  ·rename_i e' t' xs own hg
   have hs:hsh st.heap q'=some (.row e' t' xs.length):=by simp[hsh,hg,E3]
   simp only[CellRel,hs]at hc
   obtain⟨hcut,A,cp,hv,hle,hx⟩:=hc
   have hcut':p7 lo' none xs.length:=by cases lo'<;>cases hi'<;>simp only[p7]at* <;>omega
   have hcl:=U6 hcut' hle
   obtain⟨b1,h4⟩:=T2 h4
   obtain⟨b2,h4⟩:=T2 h4
   obtain⟨b3,h4⟩:=T2 h4
   obtain⟨b4,h4⟩:=T2 h4
   simp only[G81]at b1 b2 b3 b4
   have hm1:m≤(cp:Int):=Int.le_trans b2 (Int.ofNat_le.2 hcl)
   have fin:∀{l5:List Loc} (lw:Nat),(Instr.sliceBounds true (D0 lo' hi' xs.length) cp (p.map (Value.int kl)) (some (.int kh q)) (some (.int km m))).run P w= .ok (lw,q.toNat,m.toNat) w→Kk [] VV.un l5=some r→Goes P o a w st saved S w0 K Kk r:=by
    intro l5 lw hb hK
    refine .pure (V:= .slice (if m.toNat=lw then A else A.map (·.add (lw*t.sz))) (q.toNat-lw) (m.toNat-lw)) h hK ?_ trivial
    simp[execOp,ho,hv,hp,hq,hm,Instr.sliceAt,underlying,hok.2.1,Instr.slice,hb,TyOk.size hok.2.2 w]
   have hqm:q≤((m.toNat:Nat):Int):=by omega
   cases p with
   |none=>
    refine fin 0 ?_ h4
    simp[Instr.sliceBounds,run_sliceBound (P:=P) w km m cp _ b1 hm1,run_sliceBound (P:=P) w kh q m.toNat _ b3 hqm]
   |some p=>
    simp only at h4
    obtain⟨b5,h4⟩:=T2 h4
    obtain⟨b6,h4⟩:=T2 h4
    simp only[G81]at b5 b6
    refine fin p.toNat ?_ h4
    simp[Instr.sliceBounds,run_sliceBound (P:=P) w km m cp _ b1 hm1,run_sliceBound (P:=P) w kh q m.toNat _ b3 hqm,run_sliceBound (P:=P) w kl p q.toNat _ b5 (by omega)]
  ·cases h4
 ·cases h4
theorem Gk7 (hG:Good P cfg) (h:RelE E st saved a S w w0 K) {c:Call} {nm:Nat} (ho:o.op= .call c) (hc:c.callee= .builtin .clear)
  (hrun:(W7 c.args.toList λvs=>k8 cfg nm .clear c.argTypes.toList vs).run st Kk l=some r):Goes P o a w st saved S w0 K Kk r:=by
 obtain⟨vs,l1,h1,h2⟩:=T1 _ _ _ hrun
 have hv:=h2 h
 unfold k8 at h1
 split at h1<;>first|contradiction|skip
 rename_i T d _ hTs
 obtain⟨e,t,hT,h3⟩:=S1 h1
 have hok:=hG.tab T _ hT
 cases hargs:c.args.toList.map a.eval with
 |nil=>rw[hargs]at hv;cases hv
 |cons v1 t1=>cases t1 with
  |cons _ _=>rw[hargs]at hv;cases hv with|cons _ q=>cases q
  |nil=>
   rw[hargs]at hv
   cases hv with
   |cons p _=>
    have p:=p.one
    have ea:c.args.map a.eval= #[v1]:=by
     apply G65.1
     rw[Hb2,hargs]
    have eT:c.argTypes= #[T]:=by
     apply G65.1
     rw[hTs]
    have exec:∀{w'},(Builtin.clear_ #[T] o.type #[v1]).run P w= .ok (.tuple #[]) w'→(execOp a.eval o).run P w= .ok (.value (.tuple #[])) w':=by
     intro w' hx
     simp[execOp,ho,resolve,hc,invoke,builtin,ea,eT,hx]
    unfold Fz9 at h3
    split at h3
    ·refine⟨_,_,l1,h3,λQ next hnx=>OpRes.wp ⟨.tuple #[],w,E, .inl (exec ?_),h,(show VRel _ _ _ .un _ from trivial)⟩ Q next hnx⟩
     have hv1:v1= .slice none 0 0:=p
     subst hv1
     simp[Builtin.clear_,underlying,hok.2.1]
    ·rename_i q lo hi _
     simp only[RP.run]at h3
     split at h3
     ·rename_i e' t' xs hg
      by_cases et:t'=t
      ·subst et
       simp only[G56,G52]at h3
       have hs:hsh st.heap q=some (.row e' t' xs.length):=by simp[hsh,hg,E3]
       simp only[CellRel,hs]at p
       obtain⟨hcut,A,cp,hv1,hle,hx⟩:=p
       by_cases hz:D0 lo hi xs.length=0
       ·have hclr:clr (K8 t') lo hi xs=xs:=by
         unfold clr
         rw[hz]
         simp
        rw[hclr]at h3
        have hr:RelE E (st.upds [.o q (.row e' t' xs true)]) saved a S w w0 K:=h.same hg
        refine⟨_,_,_,h3,λQ next hnx=>OpRes.wp ⟨.tuple #[],w,E, .inl (exec ?_),hr,(show VRel _ _ _ .un _ from trivial)⟩ Q next hnx⟩
        rw[hv1,hz]
        cases A<;>simp[Builtin.clear_,underlying,hok.2.1]
       ·rcases hx with hx|⟨hh,hA,hR⟩
        ·have:=U6 hcut hle
         omega
        ·obtain⟨z,hz1,hzc⟩:=Ah2 (P:=P) hok.2.2
         have hzs:z.cells.size=t'.sz:=by rw[←G68,hzc,J3]
         have hrep:All2 (Imm E.ok w t') (List.replicate (D0 lo hi xs.length) (K8 t')) (List.replicate (D0 lo hi xs.length) (F1 t')):=All2.replicate _ _ (A42 t') _
         have hple:I8 lo+(List.replicate (D0 lo hi xs.length) (K8 t')).length≤xs.length:=by
          rw[List.length_replicate]
          cases lo<;>cases hi<;>simp only[p7,D0,I8]at* <;>omega
         obtain⟨hr,hst⟩:=h.part (P:=P) hg hh hrep hple
         rw[List.length_replicate]at hr
         refine⟨_,_,_,h3,λQ next hnx=>OpRes.wp ⟨.tuple #[],_,E, .inl (exec ?_),hr,(show VRel _ _ _ .un _ from trivial)⟩ Q next hnx⟩
         have hzl:(Builtin.zeroCells z.cells (D0 lo hi xs.length)).toList=(List.replicate (D0 lo hi xs.length) (F1 t')).flatten:=by
          unfold Builtin.zeroCells
          by_cases h0:t'.sz=0
          ·have e0:F1 t'=[]:=G58.1 (by rw[J3];exact h0)
           rw[e0,hzs,h0]
           simp
          ·rw[Bn7 _ _ (by omega),hzc]
         obtain⟨m,hm⟩:∃m,D0 lo hi xs.length=m+1:=⟨D0 lo hi xs.length-1,by omega⟩
         rw[hv1,hA]
         simp only[Builtin.clear_]
         rw[hm]at hzl hst ⊢
         simp[underlying,hok.2.1,hz1,hzl,hst]
      ·simp[et,RP.run]at h3
     ·cases h3
    ·cases h3
end
end Go.Vm
end
section
namespace Go.Vm
open Go
def TElt (w:World) (β:Nat→Option (Nat×Nat)):(t:Ty)→Nat→El t→List Value→Prop
 | .int k,_,n,cs=>cs=[.int k n]
 | .bool,_,b,cs=>cs=[.bool b]
 | .str,_,s,cs=>cs=[.string s]
 | .slice _ t,f,ys,cs=>t.flat=true∧∃A c,cs=[.slice A ys.length c]∧ys.length≤c∧
   ((c=0∧β f=none)∨∃b p,β f=some (b,p)∧A=some ⟨b,p,none⟩∧RowAt (λ_=>False) w b p t ys∧NoFrz t w b∧Room w b (p+c*t.sz))
 | .nil,_,_,cs=>cs=[]
 | .fld a r,f,x,cs=> ∃c1 c2,cs=c1++c2∧TElt w β a f x.1 c1∧TElt w β r (f+a.sz) x.2 c2
theorem TElt.len {w:World} {β:Nat→Option (Nat×Nat)}:∀{t:Ty} {f:Nat} {x:El t} {cs:List Value},TElt w β t f x cs→cs.length=t.sz
 | .int _,_,_,_,h=>by simp only[TElt]at h;subst h;rfl
 | .bool,_,_,_,h=>by simp only[TElt]at h;subst h;rfl
 | .str,_,_,_,h=>by simp only[TElt]at h;subst h;rfl
 | .slice _ _,_,_,_,h=>by obtain⟨_,A,c,rfl,_⟩:=h;rfl
 | .nil,_,_,_,h=>by simp only[TElt]at h;subst h;rfl
 | .fld a r,f,x,_,h=>by
  obtain⟨c1,c2,rfl,h1,h2⟩:=h
  simp[Ty.sz,TElt.len h1,TElt.len h2]
theorem TElt.same {w w':World} {β:Nat→Option (Nat×Nat)} (hw:∀f b p,β f=some (b,p)→w'.heap[b]? =w.heap[b]?):∀{t:Ty} {f:Nat} {x:El t} {cs:List Value},TElt w β t f x cs→TElt w' β t f x cs
 | .int _,_,_,_,h=>h
 | .bool,_,_,_,h=>h
 | .str,_,_,_,h=>h
 | .slice _ t,f,_,_,h=>by
  obtain⟨hf,A,c,rfl,hc,hx⟩:=h
  refine⟨hf,A,c,rfl,hc,hx.imp id ?_⟩
  rintro⟨b,p,h1,h2,h3,h4,h5⟩
  have hs:=hw f b p h1
  exact⟨b,p,h1,h2,h3.mono (λ_ h=>h) (λ_ h=>h.elim) hs,h4.of_same hs,h5.of_same hs⟩
 | .nil,_,_,_,h=>h
 | .fld a r,f,x,_,h=>by
  obtain⟨c1,c2,rfl,h1,h2⟩:=h
  exact⟨c1,c2,rfl,TElt.same hw h1,TElt.same hw h2⟩
theorem TElt.imm {w:World} {β:Nat→Option (Nat×Nat)} {ok:Nat→Prop} (hk:∀f b p,β f=some (b,p)→ok b):∀{t:Ty} {f:Nat} {x:El t} {cs:List Value},TElt w β t f x cs→Imm ok w t x cs
 | .int _,_,_,_,h=>h
 | .bool,_,_,_,h=>h
 | .str,_,_,_,h=>h
 | .slice _ t,f,ys,_,h=>by
  obtain⟨hf,A,c,rfl,hc,hx⟩:=h
  refine⟨A,c,rfl,hc,λhne=> ?_⟩
  rcases hx with⟨rfl,_⟩|⟨b,p,h1,h2,h3,h4,h5⟩
  ·exact absurd (G58.1 (by omega)) hne
  ·exact⟨b,p,h2,hk f b p h1,h3.mono (λ_ h=>h.elim) (λ_ h=>h.elim) rfl⟩
 | .nil,_,_,_,h=>h
 | .fld a r,f,x,_,h=>by
  obtain⟨c1,c2,rfl,h1,h2⟩:=h
  exact⟨c1,c2,rfl,TElt.imm hk h1,TElt.imm hk h2⟩
structure TreeAt (w : World) (g off : Nat) (t : Ty) (β : Nat → Nat → Option (Nat × Nat)) (xs : List (El t)) : Prop where
 row : ∀ i (h : i < xs.length), ∃ ds, TElt w (β i) t 0 (xs[i]) ds ∧ ∀ j, j < t.sz → w.cell? ⟨g, off + i * t.sz + j, none⟩ = ds[j]?
 nf : NoFrz t w g
 inj : ∀ i f i' f' b p p', β i f = some (b, p) → β i' f' = some (b, p') → i = i' ∧ f = f'
 ne : ∀ i f b p, β i f = some (b, p) → b ≠ g
 lt : ∀ i f b p, β i f = some (b, p) → i < xs.length ∧ f < t.sz
theorem TreeAt.same {w w':World} {g off:Nat} {t:Ty} {β:Nat→Nat→Option (Nat×Nat)} {xs:List (El t)} (h:TreeAt w g off t β xs) (hg:w'.heap[g]? =w.heap[g]?)
  (hb:∀i f b p,β i f=some (b,p)→w'.heap[b]? =w.heap[b]?):TreeAt w' g off t β xs:=by
 refine⟨λi hi=> ?_,h.nf.of_same hg,h.inj,h.ne,h.lt⟩
 obtain⟨ds,h1,h2⟩:=h.row i hi
 exact⟨ds,h1.same (hb i),λj hj=> (I3 hg).trans (h2 j hj)⟩
structure TreeAtX (w : World) (g off : Nat) (t : Ty) (β : Nat → Nat → Option (Nat × Nat)) (xs : List (El t)) (i0 f0 : Nat) : Prop where
 row : ∀ i (h : i < xs.length), ∃ ds, TElt w (β i) t 0 (xs[i]) ds ∧ ∀ j, j < t.sz → ¬ (i = i0 ∧ j = f0) → w.cell? ⟨g, off + i * t.sz + j, none⟩ = ds[j]?
 ex : i0 < xs.length ∧ f0 < t.sz ∧ (w.cell? ⟨g, off + i0 * t.sz + f0, none⟩).isSome = true
 nf : NoFrz t w g
 inj : ∀ i f i' f' b p p', β i f = some (b, p) → β i' f' = some (b, p') → i = i' ∧ f = f'
 ne : ∀ i f b p, β i f = some (b, p) → b ≠ g
 lt : ∀ i f b p, β i f = some (b, p) → i < xs.length ∧ f < t.sz
theorem TreeAtX.same {w w':World} {g off:Nat} {t:Ty} {β:Nat→Nat→Option (Nat×Nat)} {xs:List (El t)} {i0 f0:Nat} (h:TreeAtX w g off t β xs i0 f0) (hg:w'.heap[g]? =w.heap[g]?)
  (hb:∀i f b p,β i f=some (b,p)→w'.heap[b]? =w.heap[b]?):TreeAtX w' g off t β xs i0 f0:=by
 refine⟨λi hi=> ?_,⟨h.ex.1,h.ex.2.1,by rw[I3 hg];exact h.ex.2.2⟩,h.nf.of_same hg,h.inj,h.ne,h.lt⟩
 obtain⟨ds,h1,h2⟩:=h.row i hi
 exact⟨ds,h1.same (hb i),λj hj hn=> (I3 hg).trans (h2 j hj hn)⟩
def Obj.isT:Obj→Prop
 | .tree _ _ _ _| .pend _ _ _ _ _ _=>True
 |_=>False
theorem Obj.isT.tr {o:Obj} (h:o.isT):o.tr=true:=by cases o<;>first|rfl|exact h.elim
def Cur (q n:Nat):Prop:=q=0∨q=2*n+5
def Fx (q:Nat):Prop:=q=0∨q=2
def Keep.mine (K:Keep) (b:Nat):Prop:=K.k b∧¬K.o b∧K.p b
def Blk (K:Keep) (β:Nat→Nat→Nat→Option (Nat×Nat)) (n b:Nat):Prop:=b=(K.ta n).1∨∃i f p,β n i f=some (b,p)
def Ay7 (K:Keep) (β:Nat→Nat→Nat→Option (Nat×Nat)) (n o i f:Nat) (e:TypeId) (t:Ty) (m:Nat) (t2:Ty) (xs:List (El t2)):Prop:=
 K.th o∧i<xs.length∧(K.th n→β o i f=some (K.ta n))∧∃ys:List (El t),(B1 t2 (rd (K8 t2) xs i))[f]? =some (.slc e t ys)∧ys.length=m
structure TFB (h : D3) (w : World) (K : Keep) (β : Nat → Nat → Nat → Option (Nat × Nat)) : Prop where
 tr : ∀ n e t xs q, B3 h n = some (.tree e t xs q) → (K.th n ∨ xs = []) ∧ (K.th n → TreeAt w (K.ta n).1 (K.ta n).2 t (β n) xs ∧ ∀ b, Blk K β n b → K.mine b)
 pd : ∀ n e t xs i f m, B3 h n = some (.pend e t xs i f m) → K.th n ∧ TreeAtX w (K.ta n).1 (K.ta n).2 t (β n) xs i f ∧ ∀ b, Blk K β n b → K.mine b
 fx : ∀ n e t xs q, B3 h n = some (.tree e t xs q) → Fx q → K.th n → β n = K.b0 (K.ta n).1
 ap : ∀ n n' o o', n ≠ n' → B3 h n = some o → B3 h n' = some o' → o.isT → o'.isT → K.th n → K.th n' → ∀ b, Blk K β n b → ¬ Blk K β n' b
 bo : ∀ n o i f e t m, B3 h n = some (.bor o i f e t m) → (B3 h o).isSome = true ∧ (∀ e2 t2 xs q, B3 h o = some (.tree e2 t2 xs q) → Cur q n → Ay7 K β n o i f e t m t2 xs) ∧
  (∀ e2 t2 xs i2 f2, B3 h o = some (.pend e2 t2 xs i2 f2 n) → i2 = i ∧ f2 = f ∧ K.th n ∧ Ay7 K β n o i f e t m t2 xs)
theorem TFB.mine {h:D3} {w:World} {K:Keep} {β:Nat→Nat→Nat→Option (Nat×Nat)} (hT:TFB h w K β) {n:Nat} {o:Obj} (hg:B3 h n=some o) (ho:o.isT) (hth:K.th n):∀b,Blk K β n b→K.mine b:=by
 cases o<;>first|exact ho.elim|exact((hT.tr n _ _ _ _ hg).2 hth).2|exact(hT.pd n _ _ _ _ _ _ hg).2.2
theorem TFB.less {h h':D3} {w:World} {K:Keep} {β:Nat→Nat→Nat→Option (Nat×Nat)} (hT:TFB h w K β) (old:∀n o,B3 h' n=some o→o.tr=true→B3 h n=some o) (keep:∀n,(B3 h n).isSome=true→(B3 h' n).isSome=true):TFB h' w K β:=
 ⟨λn e t xs q hg=>hT.tr n e t xs q (old n _ hg rfl),λn e t xs i f m hg=>hT.pd n e t xs i f m (old n _ hg rfl),λn e t xs q hg=>hT.fx n e t xs q (old n _ hg rfl),
  λn n' o o' hne hg hg' ho ho'=>hT.ap n n' o o' hne (old n _ hg ho.tr) (old n' _ hg' ho'.tr) ho ho',λn o i f e t m hg=>by
  obtain⟨h1,h2,h3⟩:=hT.bo n o i f e t m (old n _ hg rfl)
  exact⟨keep o h1,λe2 t2 xs q hg2=>h2 e2 t2 xs q (old o _ hg2 rfl),λe2 t2 xs i2 f2 hg2=>h3 e2 t2 xs i2 f2 (old o _ hg2 rfl)⟩⟩
theorem TFB.still {h:D3} {w w':World} {K:Keep} {β:Nat→Nat→Nat→Option (Nat×Nat)} (hT:TFB h w K β) (hs:∀b,K.mine b→w'.heap[b]? =w.heap[b]?):TFB h w' K β:=by
 refine⟨λn e t xs q hn=> ?_,λn e t xs i f m hn=> ?_,hT.fx,hT.ap,hT.bo⟩
 ·obtain⟨p1,p2⟩:=hT.tr n e t xs q hn
  refine⟨p1,λhth=> ?_⟩
  obtain⟨q1,q2⟩:=p2 hth
  exact⟨q1.same (hs _ (q2 _ (.inl rfl))) λi f b p hp=>hs b (q2 b (.inr ⟨i,f,p,hp⟩)),q2⟩
 ·obtain⟨p1,q1,q2⟩:=hT.pd n e t xs i f m hn
  exact⟨p1,q1.same (hs _ (q2 _ (.inl rfl))) λi f b p hp=>hs b (q2 b (.inr ⟨i,f,p,hp⟩)),q2⟩
theorem TFB.retag {h:D3} {w:World} {K:Keep} {β:Nat→Nat→Nat→Option (Nat×Nat)} (hT:TFB h w K β) {o:Nat} {e:TypeId} {t:Ty} {xs:List (El t)} {q q':Nat} (hg:B3 h o=some (.tree e t xs q)) (hx:Fx q'→Fx q) (hc:∀n,(B3 h n).isSome=true→Cur q' n→Cur q n):TFB (hset h o (.tree e t xs q')) w K β:=by
 have sub:∀n e1 t1 x1 q1,B3 (hset h o (.tree e t xs q')) n=some (.tree e1 t1 x1 q1)→∃q2,B3 h n=some (.tree e1 t1 x1 q2)∧(Fx q1→Fx q2)∧∀n,(B3 h n).isSome=true→Cur q1 n→Cur q2 n:=λn e1 t1 x1 q1 hn=>by
  rw[A9]at hn
  by_cases en:n=o
  ·rw[G45 en]at hn
   cases hn
   subst en
   exact⟨_,hg,hx,hc⟩
  ·rw[G41 en]at hn
   exact⟨_,hn,id,λ_ _ h=>h⟩
 have other:∀n ob,B3 (hset h o (.tree e t xs q')) n=some ob→(∀e t xs q,ob≠ .tree e t xs q)→B3 h n=some ob:=λn ob hn hne=>by
  rw[A9]at hn
  by_cases en:n=o
  ·rw[G45 en]at hn
   cases hn
   exact absurd rfl (hne _ _ _ _)
  ·rwa [G41 en]at hn
 have isT:∀n ob,B3 (hset h o (.tree e t xs q')) n=some ob→ob.isT→∃ob',B3 h n=some ob'∧ob'.isT:=λn ob hn ho=>by
  rw[A9]at hn
  by_cases en:n=o
  ·subst en;exact⟨_,hg,trivial⟩
  ·rw[G41 en]at hn;exact⟨_,hn,ho⟩
 refine⟨λn e1 t1 x1 q1 hn=> ?_,λn e1 t1 x1 i f m hn=>hT.pd n e1 t1 x1 i f m (other n _ hn (λ_ _ _ _ h=>by cases h)),λn e1 t1 x1 q1 hn hq=> ?_,λn n' o1 o2 hne h1 h2 he he'=> ?_,λn o' i f e1 t1 m hn=> ?_⟩
 ·obtain⟨q2,h1,-,-⟩:=sub n _ _ _ _ hn
  exact hT.tr n _ _ _ _ h1
 ·obtain⟨q2,h1,h2,-⟩:=sub n _ _ _ _ hn
  exact hT.fx n _ _ _ _ h1 (h2 hq)
 ·obtain⟨o1',g1,g2⟩:=isT n _ h1 he
  obtain⟨o2',g3,g4⟩:=isT n' _ h2 he'
  exact hT.ap n n' _ _ hne g1 g3 g2 g4
 ·have hnb:=other n _ hn (λ_ _ _ _ h=>by cases h)
  obtain⟨b1,b2,b3⟩:=hT.bo n o' i f e1 t1 m hnb
  refine⟨by rw[A9];split;rfl;exact b1,λe2 t2 x2 q2 hg2 hc2=> ?_,λe2 t2 x2 i2 f2 hg2=>b3 e2 t2 x2 i2 f2 (other o' _ hg2 (λ_ _ _ _ h=>by cases h))⟩
  obtain⟨q3,h1,-,h3⟩:=sub o' _ _ _ _ hg2
  exact b2 _ _ _ _ h1 (h3 n (by rw[hnb];rfl) hc2)
theorem Ap7 {h:D3} {nm:Nat} {ob:Obj}:∀n,(B3 h n).isSome=true→(B3 (hset h nm ob) n).isSome=true:=λn hn=>by
 rw[A9]
 split
 ·rfl
 ·exact hn
def TF (h:D3) (w:World) (K:Keep):Prop:=∃β,TFB h w K β
theorem TF.none {h:D3} {w:World} {K:Keep} (ht:∀n o,B3 h n=some o→o.tr=false):TF h w K:=
 ⟨λ_ _ _=>Option.none,
  {tr:=λn e t xs q hn=>by
    have h1:=ht n _ hn
    cases h1
   pd:=λn e t xs i f m hn=>by
    have h1:=ht n _ hn
    cases h1
   fx:=λn e t xs q hn=>by
    have h1:=ht n _ hn
    cases h1
   ap:=λn n' o o' _ hn _ he=>by
    have h1:=ht n _ hn
    rw[he.tr]at h1
    cases h1
   bo:=λn o i f e t m hn=>by
    have h1:=ht n _ hn
    cases h1}⟩
def ErrCell (w:World) (g:Nat):Prop:=∃e fr,w.heap[g]? =some (.cells (Lib.pow10Tab.map λz=>Value.int .u64 z).toArray e fr)
def D44 (w:World):Prop:=∀g,D28=some g→ErrCell w g
theorem ErrCell.lt {w:World} {g:Nat} (h:ErrCell w g):g<w.heap.size:=by
 obtain⟨e,fr,h1⟩:=h
 rcases G96 g w.heap.size with h2|h2
 ·exact h2
 ·have:w.heap[g]? =none:=Array.getElem?_eq_none_iff.2 h2
  rw[this]at h1;cases h1
theorem ErrCell.same {w w':World} {g:Nat} (h:ErrCell w g) (e:w'.heap[g]? =w.heap[g]?):ErrCell w' g:=by
 obtain⟨t,fr,h1⟩:=h
 exact⟨t,fr,e.trans h1⟩
structure Dr (w0 : World) (K : Keep) (w1 : World) (K1 : Keep) : Prop where
 os : w1.os = w0.os
 tape : w1.tape = w0.tape
 out : w1.output = w0.output
 size : w0.heap.size ≤ w1.heap.size
 k : ∀ b, K.k b → K1.k b ∧ (¬ K.p b → w1.heap[b]? = w0.heap[b]?)
 o : ∀ b, K.k b → K1.o b → K.o b
 p : ∀ b, K.k b → K1.p b → K.p b
 rm : ∀ g m, Room w0 g m → Room w1 g m
 b0 : ∀ b, K.k b → K1.b0 b = K.b0 b
theorem Dr.refl (w:World) (K:Keep):Dr w K w K:=⟨rfl,rfl,rfl,G53 _,λb h=> ⟨h,λ_=>rfl⟩,λb _ h=>h,λb _ h=>h,λ_ _ h=>h,λ_ _=>rfl⟩
theorem Dr.trans {w0 w1 w2:World} {K0 K1 K2:Keep} (p:Dr w0 K0 w1 K1) (q:Dr w1 K1 w2 K2):Dr w0 K0 w2 K2:=
 ⟨q.os.trans p.os,q.tape.trans p.tape,q.out.trans p.out,G99 p.size q.size,λb h=> ⟨(q.k b (p.k b h).1).1,λhn=> ((q.k b (p.k b h).1).2 λhp=>hn (p.p b h hp)).trans ((p.k b h).2 hn)⟩,
  λb h ho=>p.o b h (q.o b (p.k b h).1 ho),λb h hp=>p.p b h (q.p b (p.k b h).1 hp),λg m h=>q.rm g m (p.rm g m h),λb h=> (q.b0 b (p.k b h).1).trans (p.b0 b h)⟩
structure Dv (w0 : World) (K : Keep) (w1 : World) (K1 : Keep) : Prop extends Dr w0 K w1 K1 where
 iv : ∀ g, D28 = some g → (K.k g ∧ ¬ K.p g) ∧ ErrCell w0 g
theorem Dv.trans {w0 w1 w2:World} {K0 K1 K2:Keep} (p:Dv w0 K0 w1 K1) (q:Dr w1 K1 w2 K2):Dv w0 K0 w2 K2:=⟨p.toDr.trans q,p.iv⟩
theorem Dv.err {w0 w1:World} {K0 K1:Keep} (p:Dv w0 K0 w1 K1):D44 w1:=λg hg=>by
 obtain⟨⟨h1,h2⟩,h3⟩:=p.iv g hg
 exact h3.same ((p.k g h1).2 h2)
theorem Dv.errK {w0 w1:World} {K0 K1:Keep} (p:Dv w0 K0 w1 K1) (g:Nat) (hg:D28=some g):K1.k g∧¬K1.p g:=by
 obtain⟨⟨h1,h2⟩,h3⟩:=p.iv g hg
 exact⟨(p.k g h1).1,λh=>h2 (p.p g h1 h)⟩
section
variable {E : Env} {st : St} {saved : List (Nat × List VV)} {a : Act} {S : List (Array Value)} {w w0 w1 : World} {K K1 : Keep}
theorem RelE.rebase (h:RelE E st saved a S w w1 K1) {K2:Keep} (hk:∀b,K2.k b→b<w.heap.size) (hl:∀n,C6 st.heap n→E.has n→¬K2.k (E.ρ n).1) (ho:∀b,E.ok b→K2.k b→K2.o b)
  (hta:∀n o,B3 st.heap n=some o→o.tr=true→(E.has n↔K2.th n)∧E.ρ n=K2.ta n):RelE E st saved a S w w K2:=
 ⟨h.tm,h.df,h.sv,h.ob,h.dj,λn p q=> ⟨(h.dk n p q).1,hl n p q⟩,h.bd,h.bo,λb hb=> ⟨hk b hb,rfl⟩,rfl,rfl,rfl,G53 _,ho,λ_ _ h=>h,hta⟩
theorem RelE.rebase0 (h:RelE E st saved a S w w1 K1):RelE E st saved a S w w K1:=
 h.rebase (λb hb=> (h.kp b hb).1) (λn p q=> (h.dk n p q).2) h.oz h.ta
theorem RelE.drift (h:RelE E st saved a S w w1 K1):Dr w1 K1 w K1:=
 ⟨h.os,h.tape,h.out,h.size,λb hb=> ⟨hb,λ_=> (h.kp b hb).2⟩,λb _ ho=>ho,λb _ ho=>ho,h.rm,λ_ _=>rfl⟩
theorem RelE.now (h:RelE E st saved a S w w1 K1) (ht:TF st.heap w1 K1):TF st.heap w K1:=by
 obtain⟨β,hb⟩:=ht
 refine⟨β,λn e t xs q hn=> ?_,λn e t xs i f m hn=> ?_,hb.fx,hb.ap,hb.bo⟩
 ·obtain⟨p1,p2⟩:=hb.tr n e t xs q hn
  refine⟨p1,λhth=> ?_⟩
  obtain⟨q1,q2⟩:=p2 hth
  exact⟨q1.same (h.kp _ (q2 _ (.inl rfl)).1).2 λi f b p hp=> (h.kp _ (q2 b (.inr ⟨i,f,p,hp⟩)).1).2,q2⟩
 ·obtain⟨p1,q1,q2⟩:=hb.pd n e t xs i f m hn
  exact⟨p1,q1.same (h.kp _ (q2 _ (.inl rfl)).1).2 λi f b p hp=> (h.kp _ (q2 b (.inr ⟨i,f,p,hp⟩)).1).2,q2⟩
theorem RelE.poke (h:RelE E st saved a S w w1 K1) {w':World} (C:Nat→Prop) (hC:∀b,C b→K1.mine b) (hs:∀b,b<w.heap.size→¬C b→w'.heap[b]? =w.heap[b]?) (hsz:w.heap.size≤w'.heap.size)
  (hroom:∀g m,Room w g m→Room w' g m) (ho:w'.os=w.os) (ht:w'.tape=w.tape) (hu:w'.output=w.output):RelE E st saved a S w' w' K1:=by
 have hok:∀b,E.ok b→¬C b:=λb hb hc=> (hC b hc).2.1 (h.oz b hb (hC b hc).1)
 have k:Step E E st.heap st.heap w w':=⟨λ_ _=>rfl,λ_ _=>Iff.rfl,λ_ h=>h,λb hb=>hs b (h.bo b hb) (hok b hb),hroom,HLe.refl _⟩
 refine⟨G6 k h.tm,h.df,h.sv.mono λ_ _ q=>G6 k q,λn o hn=> ?_,h.dj,h.dk,λn hn hh=>G80 (h.bd n hn hh) hsz,λb hb=>G80 (h.bo b hb) hsz,
  λb hb=> ⟨G80 (h.kp b hb).1 hsz,rfl⟩,rfl,rfl,rfl,G53 _,h.oz,λ_ _ h=>h,h.ta⟩
 have hso:(B3 st.heap n).isSome=true:=by rw[hn];rfl
 have hq:=h.ob n o hn
 cases o with
 |dead=>trivial
 |tree=>trivial
 |bor=>trivial
 |pend=>trivial
 |box cs=>exact hq.step k hso (λh=>h) λhh=>hs _ (h.bd n hso hh) λhc=> (h.dk n (by unfold C6;rw[hn];trivial) hh).2 (hC _ hc).1
 |mp t xs=>exact hq.step k hso (λh=>h) λhh=>hs _ (h.bd n hso hh) λhc=> (h.dk n (by unfold C6;rw[hn];trivial) hh).2 (hC _ hc).1
 |row e t xs own=>
  refine hq.step k hso (λh=>h) λhh=>hs _ (h.bd n hso hh) λhc=> ?_
  cases own with
  |true=>exact(h.dk n (by unfold C6;rw[hn];trivial) hh).2 (hC _ hc).1
  |false=>exact hok _ ((hq.2 hh).2.2 rfl) hc
theorem RelE.nameT (h:RelE E st saved a S w w1 K1) {nm:Nat} (hn:B3 st.heap nm=none) (b:Prop) (ob:Obj) (htr:ob.tr=true) (hp:b→(K1.ta nm).1<w.heap.size) (hb:K1.th nm↔b):
  RelE (E.at nm (K1.ta nm) b) ⟨st.tmps,hset st.heap nm ob⟩ saved a S w w1 K1:=by
 have k:=Af9 (E:=E) (w:=w) hn (K1.ta nm) b ob
 have hlive:∀n,C6 (hset st.heap nm ob) n→n≠nm∧C6 st.heap n:=by
  intro n hl
  unfold C6 at hl ⊢
  rw[A9]at hl
  by_cases e:n=nm
  ·rw[G45 e]at hl
   cases ob<;>first|exact hl.elim|cases htr
  ·rw[G41 e]at hl;exact⟨e,hl⟩
 have hρ:∀n,n≠nm→(E.at nm (K1.ta nm) b).ρ n=E.ρ n:=λn hne=>by simp[Env.at,hne]
 have hhas:∀n,n≠nm→(E.at nm (K1.ta nm) b).has n→E.has n:=λn hne hh=>by simpa [Env.at,hne]using hh
 refine⟨G6 k h.tm,h.df,h.sv.mono λ_ _ q=>G6 k q, ?_, ?_, ?_, ?_,h.bo,h.kp,h.os,h.tape,h.out,h.size,h.oz,h.rm, ?_⟩
 ·intro n o hg
  by_cases e:n=nm
  ·subst e
   rw[A9,G45 rfl]at hg
   cases hg
   cases ob<;>first|trivial|cases htr
  ·rw[A9,G41 e]at hg
   exact(h.ob n o hg).step k (by rw[hg];rfl) (hhas n e) (λ_=>rfl)
 ·intro n n' hne hl hl' hh hh'
  obtain⟨e,hl⟩:=hlive n hl
  obtain⟨e',hl'⟩:=hlive n' hl'
  rw[hρ n e,hρ n' e']
  exact h.dj n n' hne hl hl' (hhas n e hh) (hhas n' e' hh')
 ·intro n hl hh
  obtain⟨e,hl⟩:=hlive n hl
  rw[hρ n e]
  exact h.dk n hl (hhas n e hh)
 ·intro n hs hh
  by_cases e:n=nm
  ·subst e
   have:(E.at n (K1.ta n) b).ρ n=K1.ta n:=by simp[Env.at]
   rw[this]
   exact hp (by simpa [Env.at]using hh)
  ·rw[hρ n e]
   rw[A9,G41 e]at hs
   exact h.bd n hs (hhas n e hh)
 ·intro n o hg ho
  by_cases e:n=nm
  ·subst e
   exact⟨by simpa [Env.at]using hb.symm,by simp[Env.at]⟩
  ·rw[A9,G41 e]at hg
   obtain⟨p,q⟩:=h.ta n o hg ho
   refine⟨?_,by rw[hρ n e];exact q⟩
   simpa [Env.at,e]using p
theorem TF.hset {h:D3} {nm:Nat} {ob:Obj} (ht:TF h w K) (hn:B3 h nm=Option.none) (hb:ob.tr=false):TF (hset h nm ob) w K:=by
 obtain⟨β,hβ⟩:=ht
 exact⟨β,hβ.less (λn o=>Aa8 (h:=h) (nm:=nm) hb n o) Ap7⟩
def Keep.plus (K:Keep) (nm:Nat) (g off:Nat) (ns:List Nat) (β:Nat→Nat→Option (Nat×Nat)):Keep:=
 {k:=λb=>K.k b∨b∈g::ns,o:=λb=>K.o b∧b∉g::ns,p:=λb=>K.p b∨b∈g::ns,ta:=λn=>if n=nm then(g,off)else K.ta n,th:=λn=>n=nm∨K.th n,b0:=λb=>if b=g then β else K.b0 b}
def Ge6 (E:Env) (h:D3) (K:Keep) (w:World) (β:Nat→Nat→Nat→Option (Nat×Nat)) (b:Nat):Prop:=
 Free E h K w b∨(K.mine b∧∀n o,B3 h n=some o→o.isT→K.th n→¬Blk K β n b)
def Keep.plusN (K:Keep) (nm:Nat) (g off:Nat) (ns:List Nat):Keep:=
 {k:=λb=>K.k b∨b∈g::ns,o:=λb=>K.o b∧b∉g::ns,p:=λb=>K.p b∨b∈g::ns,ta:=λn=>if n=nm then(g,off)else K.ta n,th:=λn=>n=nm∨K.th n,b0:=K.b0}
theorem RelE.newTreeB (h:RelE E st saved a S w w K) {β0:Nat→Nat→Nat→Option (Nat×Nat)} (h0:TFB st.heap w K β0) {nm:Nat} (hn:B3 st.heap nm=none) (e:TypeId) {t:Ty} {xs:List (El t)} (q:Nat) (hq:¬Fx q) {g off:Nat} {ns:List Nat} {β:Nat→Nat→Option (Nat×Nat)}
  (hf:∀b∈g::ns,Ge6 E st.heap K w β0 b) (hns:∀b,b∈ns↔∃i f p,β i f=some (b,p)) (hT:TreeAt w g off t β xs):
  RelE (E.at nm (g,off) True) ⟨st.tmps,hset st.heap nm (.tree e t xs q)⟩ saved a S w w (K.plusN nm g off ns)∧TF (hset st.heap nm (.tree e t xs q)) w (K.plusN nm g off ns)∧Dr w K w (K.plusN nm g off ns):=by
 have hsz:∀b∈g::ns,b<w.heap.size:=λb hb=> (hf b hb).elim (λz=>z.2.2.2) λz=> (h.kp b z.1.1).1
 have hok:∀b∈g::ns,¬E.ok b:=λb hb=> (hf b hb).elim (λz=>z.2.1) λz hk=>z.1.2.1 (h.oz b hk z.1.1)
 have r1:RelE E st saved a S w w (K.plusN nm g off ns):=h.rebase (λb hb=>hb.elim (λhb=> (h.kp b hb).1) λhb=>hsz b hb)
  (λn hl hh hk=>hk.elim (h.dk n hl hh).2 λhb=> (hf _ hb).elim (λz=>z.1 n hl hh rfl) λz=> (h.dk n hl hh).2 z.1.1)
  (λb hb hk=> ⟨hk.elim (h.oz b hb) λhm=>absurd hb (hok b hm),λhm=>hok b hm hb⟩)
  (λn o hg ho=>by
   have hne:n≠nm:=D2 hn (by rw[hg];rfl)
   obtain⟨p1,p2⟩:=h.ta n o hg ho
   exact⟨p1.trans ⟨.inr,λz=>z.resolve_left hne⟩,by rw[p2];simp[Keep.plusN,hne]⟩)
 have eta:(K.plusN nm g off ns).ta nm=(g,off):=by simp[Keep.plusN]
 have r2:=r1.nameT hn True (.tree e t xs q) rfl (λ_=>by rw[eta];exact hsz g G39) ⟨λ_=>trivial,λ_=> .inl rfl⟩
 rw[eta]at r2
 refine⟨r2, ?_,⟨rfl,rfl,rfl,G53 _,λb hb=> ⟨.inl hb,λ_=>rfl⟩,λb _ ho=>ho.1,λb hb hp=>hp.elim id λhm=> (hf b hm).elim (λz=>absurd hb z.2.2.1) λz=>z.1.2.2,λ_ _ h=>h,λ_ _=>rfl⟩⟩
 have hold:∀n o,n≠nm→B3 (hset st.heap nm (.tree e t xs q)) n=some o→B3 st.heap n=some o:=λn o hne hg=>by rwa [A9,G41 hne]at hg
 have hmine:∀b,K.mine b→(K.plusN nm g off ns).mine b:=λb hb=> ⟨.inl hb.1,λho=>hb.2.1 ho.1, .inl hb.2.2⟩
 have hnew:∀b,Blk (K.plusN nm g off ns) (λn=>if n=nm then β else β0 n) nm b→b∈g::ns:=λb hb=>by
  rcases hb with hb|⟨i,f,p,hb⟩
  ·rw[eta]at hb;rw[hb];exact G39
  ·simp only[if_true]at hb
   exact G38 _ ((hns b).2 ⟨i,f,p,hb⟩)
 have hblk:∀n,n≠nm→∀b,Blk (K.plusN nm g off ns) (λn=>if n=nm then β else β0 n) n b→Blk K β0 n b:=λn hne b hb=>by
  unfold Blk at hb ⊢
  simpa [Keep.plusN,hne]using hb
 have Cl9:∀n o,n≠nm→B3 st.heap n=some o→o.isT→K.th n→∀b∈g::ns,¬Blk K β0 n b:=λn o hne hg ho hth b hb hB=> (hf b hb).elim (λz=>z.2.2.1 (h0.mine hg ho hth b hB).1) λz=>z.2 n o hg ho hth hB
 refine⟨λn=>if n=nm then β else β0 n,λn e' t' xs' q' hg=> ?_,λn e' t' xs' i f m hg=> ?_,λn e' t' xs' q' hg hq' hth=> ?_,λn n' o o' hne hg hg' ho ho' hth hth' b hb hb'=> ?_,λn o i f e' t' m hg=> ?_⟩
 ·by_cases en:n=nm
  ·subst en
   rw[A9,G45 rfl]at hg
   cases hg
   refine⟨.inl (.inl rfl),λ_=> ⟨?_,λb hb=> ⟨.inr (hnew b hb),λho=>ho.2 (hnew b hb), .inr (hnew b hb)⟩⟩⟩
   rw[eta]
   simpa using hT
  ·obtain⟨p1,p2⟩:=h0.tr n e' t' xs' q' (hold n _ en hg)
   refine⟨p1.imp .inr id,λhth=> ?_⟩
   obtain⟨q1,q2⟩:=p2 (hth.resolve_left en)
   refine⟨?_,λb hb=>hmine b (q2 b (hblk n en b hb))⟩
   simpa [Keep.plusN,en]using q1
 ·have en:n≠nm:=λz=>by
   subst z
   rw[A9,G45 rfl]at hg
   cases hg
  obtain⟨p1,q1,q2⟩:=h0.pd n e' t' xs' i f m (hold n _ en hg)
  exact⟨.inr p1,by simpa [Keep.plusN,en]using q1,λb hb=>hmine b (q2 b (hblk n en b hb))⟩
 ·by_cases en:n=nm
  ·subst en
   rw[A9,G45 rfl]at hg
   cases hg
   exact absurd hq' hq
  ·have:=h0.fx n _ _ _ _ (hold n _ en hg) hq' (hth.resolve_left en)
   simpa [Keep.plusN,en]using this
 ·by_cases en:n=nm
  ·have en':n'≠nm:=λz=>hne (en.trans z.symm)
   rw[en]at hb
   exact Cl9 n' o' en' (hold n' _ en' hg') ho' (hth'.resolve_left en') b (hnew b hb) (hblk n' en' b hb')
  ·by_cases en':n'=nm
   ·rw[en']at hb'
    exact Cl9 n o en (hold n _ en hg) ho (hth.resolve_left en) b (hnew b hb') (hblk n en b hb)
   ·exact h0.ap n n' o o' hne (hold n _ en hg) (hold n' _ en' hg') ho ho' (hth.resolve_left en) (hth'.resolve_left en') b (hblk n en b hb) (hblk n' en' b hb')
 ·have en:n≠nm:=λz=>by
   subst z
   rw[A9,G45 rfl]at hg
   cases hg
  obtain⟨b1,b2,b3⟩:=h0.bo n o i f e' t' m (hold n _ en hg)
  have eo:o≠nm:=D2 hn b1
  have cl:∀t2 (xs2:List (El t2)),Ay7 K β0 n o i f e' t' m t2 xs2→Ay7 (K.plusN nm g off ns) (λn=>if n=nm then β else β0 n) n o i f e' t' m t2 xs2:=λt2 xs2 ⟨c1,c2,c3,c4⟩=> ⟨.inr c1,c2,λhth=>by
   have:=c3 (hth.resolve_left en)
   simpa [Keep.plusN,eo,en]using this,c4⟩
  refine⟨Ap7 o b1,λe2 t2 xs2 q2 hg2 hc=>cl _ _ (b2 e2 t2 xs2 q2 (hold o _ eo hg2) hc),λe2 t2 xs2 i2 f2 hg2=> ?_⟩
  obtain⟨c1,c2,c3,c4⟩:=b3 e2 t2 xs2 i2 f2 (hold o _ eo hg2)
  exact⟨c1,c2, .inr c3,cl _ _ c4⟩
theorem RelE.newTree (h:RelE E st saved a S w w K) (ht:TF st.heap w K) {nm:Nat} (hn:B3 st.heap nm=none) (e:TypeId) {t:Ty} {xs:List (El t)} (q:Nat) {g off:Nat} {ns:List Nat} {β:Nat→Nat→Option (Nat×Nat)}
  (hf:∀b∈g::ns,Free E st.heap K w b) (hns:∀b,b∈ns↔∃i f p,β i f=some (b,p)) (hT:TreeAt w g off t β xs):
  RelE (E.at nm (g,off) True) ⟨st.tmps,hset st.heap nm (.tree e t xs q)⟩ saved a S w w (K.plus nm g off ns β)∧TF (hset st.heap nm (.tree e t xs q)) w (K.plus nm g off ns β):=by
 obtain⟨β0,h0⟩:=ht
 have r1:RelE E st saved a S w w (K.plus nm g off ns β):=h.rebase (λb hb=>hb.elim (λhb=> (h.kp b hb).1) λhb=> (hf b hb).2.2.2)
  (λn hl hh hk=>hk.elim (h.dk n hl hh).2 λhb=> (hf _ hb).1 n hl hh rfl)
  (λb hb hk=> ⟨hk.elim (h.oz b hb) λhm=>absurd hb (hf b hm).2.1,λhm=> (hf b hm).2.1 hb⟩)
  (λn o hg ho=>by
   have hne:n≠nm:=D2 hn (by rw[hg];rfl)
   obtain⟨p1,p2⟩:=h.ta n o hg ho
   exact⟨p1.trans ⟨.inr,λz=>z.resolve_left hne⟩,by rw[p2];simp[Keep.plus,hne]⟩)
 have eta:(K.plus nm g off ns β).ta nm=(g,off):=by simp[Keep.plus]
 have r2:=r1.nameT hn True (.tree e t xs q) rfl (λ_=>by rw[eta];exact(hf g G39).2.2.2) ⟨λ_=>trivial,λ_=> .inl rfl⟩
 rw[eta]at r2
 refine⟨r2, ?_⟩
 have hold:∀n o,n≠nm→B3 (hset st.heap nm (.tree e t xs q)) n=some o→B3 st.heap n=some o:=λn o hne hg=>by rwa [A9,G41 hne]at hg
 have hmine:∀b,K.mine b→(K.plus nm g off ns β).mine b:=λb hb=> ⟨.inl hb.1,λho=>hb.2.1 ho.1, .inl hb.2.2⟩
 have hnew:∀b,Blk (K.plus nm g off ns β) (λn=>if n=nm then β else β0 n) nm b→b∈g::ns:=λb hb=>by
  rcases hb with hb|⟨i,f,p,hb⟩
  ·rw[eta]at hb;rw[hb];exact G39
  ·simp only[if_true]at hb
   exact G38 _ ((hns b).2 ⟨i,f,p,hb⟩)
 have hblk:∀n,n≠nm→∀b,Blk (K.plus nm g off ns β) (λn=>if n=nm then β else β0 n) n b→Blk K β0 n b:=λn hne b hb=>by
  unfold Blk at hb ⊢
  simpa [Keep.plus,hne]using hb
 have Cl9:∀n o,n≠nm→B3 st.heap n=some o→o.isT→K.th n→∀b∈g::ns,¬Blk K β0 n b:=λn o hne hg ho hth b hb hB=> (hf b hb).2.2.1 (h0.mine hg ho hth b hB).1
 refine⟨λn=>if n=nm then β else β0 n,λn e' t' xs' q' hg=> ?_,λn e' t' xs' i f m hg=> ?_,λn e' t' xs' q' hg hq' hth=> ?_,λn n' o o' hne hg hg' ho ho' hth hth' b hb hb'=> ?_,λn o i f e' t' m hg=> ?_⟩
 ·by_cases en:n=nm
  ·subst en
   rw[A9,G45 rfl]at hg
   cases hg
   refine⟨.inl (.inl rfl),λ_=> ⟨?_,λb hb=> ⟨.inr (hnew b hb),λho=>ho.2 (hnew b hb), .inr (hnew b hb)⟩⟩⟩
   rw[eta]
   simpa using hT
  ·obtain⟨p1,p2⟩:=h0.tr n e' t' xs' q' (hold n _ en hg)
   refine⟨p1.imp .inr id,λhth=> ?_⟩
   obtain⟨q1,q2⟩:=p2 (hth.resolve_left en)
   refine⟨?_,λb hb=>hmine b (q2 b (hblk n en b hb))⟩
   simpa [Keep.plus,en]using q1
 ·have en:n≠nm:=λz=>by
   subst z
   rw[A9,G45 rfl]at hg
   cases hg
  obtain⟨p1,q1,q2⟩:=h0.pd n e' t' xs' i f m (hold n _ en hg)
  exact⟨.inr p1,by simpa [Keep.plus,en]using q1,λb hb=>hmine b (q2 b (hblk n en b hb))⟩
 ·by_cases en:n=nm
  ·subst en
   rw[A9,G45 rfl]at hg
   cases hg
   simp[Keep.plus]
  ·have hth1:K.th n:=hth.resolve_left en
   have hg1:=hold n _ en hg
   have hk:K.k (K.ta n).1:=(((h0.tr n _ _ _ _ hg1).2 hth1).2 _ (.inl rfl)).1
   have hne:(K.ta n).1≠g:=λe=> (hf g G39).2.2.1 (e▸hk)
   have:=h0.fx n _ _ _ _ hg1 hq' hth1
   simpa [Keep.plus,en,hne]using this
 ·by_cases en:n=nm
  ·have en':n'≠nm:=λz=>hne (en.trans z.symm)
   rw[en]at hb
   exact Cl9 n' o' en' (hold n' _ en' hg') ho' (hth'.resolve_left en') b (hnew b hb) (hblk n' en' b hb')
  ·by_cases en':n'=nm
   ·rw[en']at hb'
    exact Cl9 n o en (hold n _ en hg) ho (hth.resolve_left en) b (hnew b hb') (hblk n en b hb)
   ·exact h0.ap n n' o o' hne (hold n _ en hg) (hold n' _ en' hg') ho ho' (hth.resolve_left en) (hth'.resolve_left en') b (hblk n en b hb) (hblk n' en' b hb')
 ·have en:n≠nm:=λz=>by
   subst z
   rw[A9,G45 rfl]at hg
   cases hg
  obtain⟨b1,b2,b3⟩:=h0.bo n o i f e' t' m (hold n _ en hg)
  have eo:o≠nm:=D2 hn b1
  have cl:∀t2 (xs2:List (El t2)),Ay7 K β0 n o i f e' t' m t2 xs2→Ay7 (K.plus nm g off ns β) (λn=>if n=nm then β else β0 n) n o i f e' t' m t2 xs2:=λt2 xs2 ⟨c1,c2,c3,c4⟩=> ⟨.inr c1,c2,λhth=>by
   have:=c3 (hth.resolve_left en)
   simpa [Keep.plus,eo,en]using this,c4⟩
  refine⟨Ap7 o b1,λe2 t2 xs2 q2 hg2 hc=>cl _ _ (b2 e2 t2 xs2 q2 (hold o _ eo hg2) hc),λe2 t2 xs2 i2 f2 hg2=> ?_⟩
  obtain⟨c1,c2,c3,c4⟩:=b3 e2 t2 xs2 i2 f2 (hold o _ eo hg2)
  exact⟨c1,c2, .inr c3,cl _ _ c4⟩
def Keep.plus0 (K:Keep) (nm:Nat):Keep:={k:=K.k,o:=K.o,p:=K.p,ta:=λn=>if n=nm then(0,0)else K.ta n,th:=λn=>n≠nm∧K.th n,b0:=K.b0}
theorem RelE.newTree0 (h:RelE E st saved a S w w K) (ht:TF st.heap w K) {nm:Nat} (hn:B3 st.heap nm=none) (e:TypeId) (t:Ty) (q:Nat):
  RelE (E.at nm (0,0) False) ⟨st.tmps,hset st.heap nm (.tree e t [] q)⟩ saved a S w w (K.plus0 nm)∧TF (hset st.heap nm (.tree e t [] q)) w (K.plus0 nm):=by
 have r1:RelE E st saved a S w w (K.plus0 nm):=h.rebase (λb hb=> (h.kp b hb).1) (λn hl hh=> (h.dk n hl hh).2) h.oz (λn o hg ho=>by
  have hne:n≠nm:=D2 hn (by rw[hg];rfl)
  obtain⟨p1,p2⟩:=h.ta n o hg ho
  exact⟨p1.trans ⟨λz=> ⟨hne,z⟩,λz=>z.2⟩,by rw[p2];simp[Keep.plus0,hne]⟩)
 have eta:(K.plus0 nm).ta nm=(0,0):=by simp[Keep.plus0]
 have r2:=r1.nameT hn False (.tree e t [] q) rfl (λf=>f.elim) ⟨λz=>absurd rfl z.1,λf=>f.elim⟩
 rw[eta]at r2
 refine⟨r2, ?_⟩
 obtain⟨β0,h0⟩:=ht
 have hold:∀n o,n≠nm→B3 (Vm.hset st.heap nm (.tree e t [] q)) n=some o→B3 st.heap n=some o:=λn o hne hg=>by rwa [A9,G41 hne]at hg
 have hblk:∀n,n≠nm→∀b,Blk (K.plus0 nm) β0 n b→Blk K β0 n b:=λn hne b hb=>by
  unfold Blk at hb ⊢
  simpa [Keep.plus0,hne]using hb
 refine⟨β0,λn e' t' xs' q' hg=> ?_,λn e' t' xs' i f m hg=> ?_,λn e' t' xs' q' hg hq hth=> ?_,λn n' o o' hne hg hg' he he' hth hth' b hb hb'=> ?_,λn o i f e' t' m hg=> ?_⟩
 ·by_cases en:n=nm
  ·subst en
   rw[A9,G45 rfl]at hg
   cases hg
   exact⟨.inr rfl,λz=>absurd rfl z.1⟩
  ·obtain⟨p1,p2⟩:=h0.tr n e' t' xs' q' (hold n _ en hg)
   refine⟨p1.imp (λz=> ⟨en,z⟩) id,λhth=> ?_⟩
   obtain⟨q1,q2⟩:=p2 hth.2
   exact⟨by simpa [Keep.plus0,en]using q1,λb hb=>q2 b (hblk n en b hb)⟩
 ·have en:n≠nm:=λz=>by
   subst z
   rw[A9,G45 rfl]at hg
   cases hg
  obtain⟨p1,q1,q2⟩:=h0.pd n e' t' xs' i f m (hold n _ en hg)
  exact⟨⟨en,p1⟩,by simpa [Keep.plus0,en]using q1,λb hb=>q2 b (hblk n en b hb)⟩
 ·have:=h0.fx n _ _ _ _ (hold n _ hth.1 hg) hq hth.2
  simpa [Keep.plus0,hth.1]using this
 ·exact h0.ap n n' o o' hne (hold n _ hth.1 hg) (hold n' _ hth'.1 hg') he he' hth.2 hth'.2 b (hblk n hth.1 b hb) (hblk n' hth'.1 b hb')
 ·have en:n≠nm:=λz=>by
   subst z
   rw[A9,G45 rfl]at hg
   cases hg
  obtain⟨b1,b2,b3⟩:=h0.bo n o i f e' t' m (hold n _ en hg)
  have eo:o≠nm:=D2 hn b1
  have cl:∀t2 (xs2:List (El t2)),Ay7 K β0 n o i f e' t' m t2 xs2→Ay7 (K.plus0 nm) β0 n o i f e' t' m t2 xs2:=λt2 xs2 ⟨c1,c2,c3,c4⟩=> ⟨⟨eo,c1⟩,c2,λhth=>by
   have:=c3 hth.2
   simpa [Keep.plus0,en]using this,c4⟩
  refine⟨Ap7 o b1,λe2 t2 xs2 q2 hg2 hc=>cl _ _ (b2 e2 t2 xs2 q2 (hold o _ eo hg2) hc),λe2 t2 xs2 i2 f2 hg2=> ?_⟩
  obtain⟨c1,c2,c3,c4⟩:=b3 e2 t2 xs2 i2 f2 (hold o _ eo hg2)
  exact⟨c1,c2,⟨en,c3⟩,cl _ _ c4⟩
def RelX (E:Env) (st:St) (saved:List (Nat×List VV)) (a:Act) (S:List (Array Value)) (w w0:World) (K:Keep):Prop:=
 ∃w1 K1,Dv w0 K w1 K1∧TF st.heap w1 K1∧RelE E st saved a S w w1 K1
theorem RelX.put (h:RelX E st saved a S w w0 K) (d:Option Tmp) {v:VV} {V:Value} (hv:VRel E st.heap w v V):RelX E (s8 st d v) saved (a.put d V) S w w0 K:=by
 obtain⟨w1,K1,h1,h2,h3⟩:=h
 refine⟨w1,K1,h1, ?_,h3.put d hv⟩
 cases d<;>exact h2
theorem RelX.tm (h:RelX E st saved a S w w0 K):All2 (VRel E st.heap w) st.tmps a.tmps.toList:=by
 obtain⟨w1,K1,h1,h2,h3⟩:=h
 exact h3.tm
theorem RelX.tmp (h:RelX E st saved a S w w0 K) (t:Nat):VRel E st.heap w (V4 st.tmps t) (a.eval (.tmp t)):=by
 obtain⟨w1,K1,h1,h2,h3⟩:=h
 exact h3.tmp t
end
end Go.Vm
end
section
namespace Go.Vm
open Go
def Be3 (ok:Nat→Prop) (w:World) (t:Ty) (x:El t) (v:Value):Prop:=
 ∃cs,Imm ok w t x cs∧((t.agg=true∧v= .agg cs.toArray)∨(t.agg=false∧cs=[v]))
def Fp5 (ok:Nat→Prop):Env:=⟨λ_=> (0,0),λ_=>False,ok⟩
def RcRel (ok:Nat→Prop) (w:World):RC→Value→List Nat→Prop
 | .c c,v,bs=>bs=[]∧CellRel (Fp5 ok) [] w c v
 | .own e t xs,v,bs=> ∃A c,v= .slice A xs.length c∧xs.length≤c∧
   ((c=0∧bs=[])∨∃g off,A=some ⟨g,off,none⟩∧bs=[g]∧RowAt ok w g off t xs∧NoFrz t w g∧Room w g (off+c*t.sz))
 | .tree e t xs,v,bs=> ∃A c,v= .slice A xs.length c∧xs.length≤c∧
   ((c=0∧bs=[])∨∃g off ns β,A=some ⟨g,off,none⟩∧bs=g::ns∧(∀b,b∈ns↔∃i f p,β i f=some (b,p))∧TreeAt w g off t β xs∧Room w g (off+c*t.sz))
inductive RcsRel (ok : Nat → Prop) (w : World) : List RC → List Value → List Nat → Prop where
 | nil : RcsRel ok w [] [] []
 | cons {rc rs v vs bs bs'} : RcRel ok w rc v bs → RcsRel ok w rs vs bs' → RcsRel ok w (rc :: rs) (v :: vs) (bs ++ bs')
inductive ResRel (ok : Nat → Prop) (w : World) : List (Bool × List RC) → List Value → List Nat → Prop where
 | nil : ResRel ok w [] [] []
 | cons {a rs vs V bs r Vs bs'} : RcsRel ok w rs vs bs → ((a = true ∧ V = .agg vs.toArray) ∨ (a = false ∧ vs = [V])) → ResRel ok w r Vs bs' → ResRel ok w ((a, rs) :: r) (V :: Vs) (bs ++ bs')
def Dl8:List Value→Value
 | [V]=>V
 |Vs=> .tuple Vs.toArray
structure Ret (ok : Nat → Prop) (w w' : World) (out : List (Bool × List RC)) (V : Value) : Prop where
 os : w'.os = w.os
 tape : w'.tape = w.tape
 put : w'.output = w.output
 size : w.heap.size ≤ w'.heap.size
 same : ∀ b, b < w.heap.size → w'.heap[b]? = w.heap[b]?
 res : ∃ (good : Nat → Prop) (Vs : List Value) (bs : List Nat), (∀ b, good b → w.heap.size ≤ b ∧ b < w'.heap.size) ∧ ResRel (fun b => ok b ∨ good b) w' out Vs bs ∧ bs.Nodup ∧
  (∀ b ∈ bs, w.heap.size ≤ b ∧ b < w'.heap.size ∧ ¬ good b) ∧ V = Dl8 Vs
def D45 (P:Program) (f:FuncId) (ok:Nat→Prop) (w:World):Spec→List Value→Prop
 | .imm t k,pre=> ∀x v,Be3 ok w t x v→D45 P f ok w (k x) (pre++ [v])
 | .body o out,pre=> ∀a,o=some a→Calls P f pre.toArray w λe w'=> ∃V,e= .returned V∧Ret ok w w' (out a) V
def t7 (P:Program) (f:FuncId) (s:Spec):Prop:=∀ok w,(∀b,ok b→b<w.heap.size)→D44 w→D45 P f ok w s []
def okN (E:Env) (ns:List Nat) (b:Nat):Prop:=E.ok b∨∃n∈ns,E.has n∧b=(E.ρ n).1
def RowNames (h:D3) (ns:List Nat):Prop:=∀n∈ns,(∃e t xs own,B3 h n=some (.row e t xs own))∨∃e t xs q,B3 h n=some (.tree e t xs q)
def okR (E:Env) (h:D3) (ns:List Nat) (b:Nat):Prop:=E.ok b∨∃n∈ns,(∃e t xs own,B3 h n=some (.row e t xs own))∧E.has n∧b=(E.ρ n).1
def okX (E:Env) (K:Keep) (h:D3) (ns:List Nat) (b:Nat):Prop:=okR E h ns b∨((∃n∈ns,∃e t xs q,B3 h n=some (.tree e t xs q))∧K.mine b)
theorem Ge7 {E:Env} {h:D3} {ns ms:List Nat} (b:Nat) (p:okR E h ns b):okR E h (ns++ms) b:=p.imp id λ⟨n,hn,q⟩=> ⟨n,G34.2 (.inl hn),q⟩
theorem F44 {E:Env} {h:D3} {ns ms:List Nat} (b:Nat) (p:okR E h ms b):okR E h (ns++ms) b:=p.imp id λ⟨n,hn,q⟩=> ⟨n,G34.2 (.inr hn),q⟩
theorem C05 {E:Env} {K:Keep} {h:D3} {ns ms:List Nat} (b:Nat) (p:okX E K h ns b):okX E K h (ns++ms) b:=
 p.imp (Ge7 b) λ⟨⟨n,hn,q⟩,r⟩=> ⟨⟨n,G34.2 (.inl hn),q⟩,r⟩
theorem Ch9 {E:Env} {K:Keep} {h:D3} {ns ms:List Nat} (b:Nat) (p:okX E K h ms b):okX E K h (ns++ms) b:=
 p.imp (F44 b) λ⟨⟨n,hn,q⟩,r⟩=> ⟨⟨n,G34.2 (.inr hn),q⟩,r⟩
theorem RowNames.append {h:D3} {ns ms:List Nat} (p:RowNames h ns) (q:RowNames h ms):RowNames h (ns++ms):=λn hn=>by
 rcases G34.1 hn with hn|hn
 ·exact p n hn
 ·exact q n hn
section
variable {st : St} {R : Type} {Kk : List Upd → VV → List Loc → Option R} {l : List Loc} {r : R}
theorem D46 {e:TypeId} {t:Ty} {c:Cell} {k:List (El t)→RP} (hrun:(Bn0 e t c k).run st Kk l=some r):
  ∃ys l',(k ys).run st Kk l'=some r∧(∀n∈Cl8 c,∃e t xs own,B3 st.heap n=some (.row e t xs own))∧∀{E saved a S w w0 K v},RelE E st saved a S w w0 K→CellRel E st.heap w c v→
   Imm (okN E (Cl8 c)) w (.slice e t) ys [v]:=by
 unfold Bn0 at hrun
 cases c with
 |nilS=>exact⟨[],l,hrun,(λn hn=>by cases hn),λ{E saved a S w w0 K v} h hc=> ⟨none,0,by simp only[CellRel]at hc;rw[hc];rfl,G53 _,λh=>absurd rfl h⟩⟩
 |slc e' t' xs=>
  simp only at hrun
  cases hb:Nat.beq e e' with
  |false=>rw[hb]at hrun;cases hrun
  |true=>
   rw[hb]at hrun
   simp only[G52]at hrun
   cases hy:E6 t' t xs with
   |none=>rw[hy]at hrun;cases hrun
   |some ys=>
    rw[hy]at hrun
    obtain⟨e1,rfl⟩:=D4 hy
    subst e1
    exact⟨xs,l,hrun,(λn hn=>by cases hn),λ{E saved a S w w0 K v} h hc=>Imm.mono (λb hb=> .inl hb) (λ_ _=>rfl) hc⟩
 |row o lo hi=>
  simp only[RP.run]at hrun
  cases hg:B3 st.heap o with
  |none=>rw[hg]at hrun;cases hrun
  |some b=>
   rw[hg]at hrun
   cases b with
   |row e' t' xs own=>
    simp only at hrun
    cases hb:Nat.beq e e' with
    |false=>rw[hb]at hrun;cases hrun
    |true=>
     rw[hb]at hrun
     simp only[G52]at hrun
     cases hy:E6 t' t xs with
     |none=>rw[hy]at hrun;cases hrun
     |some ys=>
      rw[hy]at hrun
      obtain⟨e1,rfl⟩:=D4 hy
      subst e1
      refine⟨cut lo hi xs,_,hrun,(λn hn=> ?_),λ{E saved a S w w0 K v} h hc=> ?_⟩
      ·simp only[Cl8,G48]at hn
       subst hn
       exact⟨_,_,_,_,hg⟩
      ·exact Ex3 h hg hc (λb hb=> .inl hb) (λhh=> .inr ⟨o,G48.2 rfl,hh,rfl⟩) e
   |_=>cases hrun
 |_=>cases hrun
theorem Fb3 {e:TypeId} {t:Ty} {c:Cell} {k:List (El t)→RP} (hrun:(Ew1 e t c k).run st Kk l=some r):
  ∃ys l',(k ys).run st Kk l'=some r∧RowNames st.heap (Cl8 c)∧∀{E saved a S w w0 K v},RelE E st saved a S w w0 K→TF st.heap w K→CellRel E st.heap w c v→
   Imm (okX E K st.heap (Cl8 c)) w (.slice e t) ys [v]:=by
 have plain:∀{l},(Bn0 e t c k).run st Kk l=some r→∃ys l',(k ys).run st Kk l'=some r∧RowNames st.heap (Cl8 c)∧∀{E saved a S w w0 K v},RelE E st saved a S w w0 K→TF st.heap w K→CellRel E st.heap w c v→
   Imm (okX E K st.heap (Cl8 c)) w (.slice e t) ys [v]:=λh=>by
  obtain⟨ys,l',h1,h2,h3⟩:=D46 h
  exact⟨ys,l',h1,λn hn=> .inl (h2 n hn),λ{E saved a S w w0 K v} hr _ hc=> (h3 hr hc).mono (λb hb=> .inl (hb.imp id λ⟨n,hn,q⟩=> ⟨n,hn,h2 n hn,q⟩)) (λ_ _=>rfl)⟩
 unfold Ew1 at hrun
 split at hrun
 ·rename_i o lo hi
  simp only[RP.run]at hrun
  split at hrun
  ·rename_i e' t' xs q hg
   cases hb:Nat.beq e e' with
   |false=>rw[hb]at hrun;cases hrun
   |true=>
    rw[hb]at hrun
    simp only[G52]at hrun
    cases hy:E6 t' t xs with
    |none=>rw[hy]at hrun;cases hrun
    |some ys=>
     rw[hy]at hrun
     obtain⟨e1,rfl⟩:=D4 hy
     subst e1
     refine⟨cut lo hi xs,_,hrun,(λn hn=> ?_),λ{E saved a S w w0 K v} h ht hc=> ?_⟩
     ·simp only[Cl8,G48]at hn
      subst hn
      exact .inr ⟨_,_,_,_,hg⟩
     ·obtain⟨β,hβ⟩:=ht
      obtain⟨p1,p2⟩:=hβ.tr o _ _ _ _ hg
      have hs:hsh st.heap o=some (.row e' t' xs.length):=by simp[hsh,hg,E3]
      simp only[CellRel,hs]at hc
      obtain⟨hcut,A,c,rfl,hle,hx⟩:=hc
      have hcl:=U6 hcut hle
      have hlen:=Bn4 hcut
      refine⟨A,c,by rw[hlen],by rw[hlen];exact hcl,λhne=> ?_⟩
      rcases hx with rfl|⟨hh,rfl,hR⟩
      ·exact absurd (G58.1 (by rw[hlen];omega)) hne
      ·have hth:K.th o:=p1.resolve_right λe0=>hne (by subst e0;cases lo<;>cases hi<;>simp[cut])
       obtain⟨q1,q2⟩:=p2 hth
       obtain⟨g1,g2⟩:=h.ta o _ hg rfl
       have hany:∃n∈Cl8 (.row o lo hi),∃e t xs q,B3 st.heap n=some (.tree e t xs q):=⟨o,G48.2 rfl,_,_,_,_,hg⟩
       refine⟨_,_,rfl, .inr ⟨hany,by rw[g2];exact q2 _ (.inl rfl)⟩,λi hi'=> ?_⟩
       obtain⟨hi2,ecut⟩:=C01 hi' hcut
       rw[ecut]
       obtain⟨ds,d1,d2⟩:=q1.row (I8 lo+i) hi2
       refine⟨ds,d1.imm λf b p hp=> .inr ⟨hany,q2 b (.inr ⟨_,_,_,hp⟩)⟩,λj hj=> ?_⟩
       rw[←d2 j hj,g2,G71]
       congr 2
       omega
  ·exact plain hrun
 ·exact plain hrun
theorem Bn9:∀(t:Ty) (cs:List Cell) (k:El t→List Cell→List Nat→RP) (l:List Loc),(Ek5 t cs k).run st Kk l=some r→
  ∃x rest ns l',(k x rest ns).run st Kk l'=some r∧RowNames st.heap ns∧∀{E saved a S w w0 K vs},RelE E st saved a S w w0 K→TF st.heap w K→All2 (CellRel E st.heap w) cs vs→
   ∃v1 v2,vs=v1++v2∧Imm (okX E K st.heap ns) w t x v1∧All2 (CellRel E st.heap w) rest v2:=by
 intro t
 induction t with
 |nil=>
  intro cs k l h
  exact⟨(),cs,[],l,h,(λn hn=>by cases hn),λ{E saved a S w w0 K vs} hr ht hv=> ⟨[],vs,rfl,rfl,hv⟩⟩
 |fld p q ihp ihq=>
  intro cs k l h
  simp only[Ek5]at h
  obtain⟨x,rest,ns,l1,h1,hn,hx⟩:=ihp _ _ _ h
  obtain⟨y,rest',ms,l2,h2,hm,hy⟩:=ihq _ _ _ h1
  refine⟨(x,y),rest',ns++ms,l2,h2,hn.append hm,λ{E saved a S w w0 K vs} hr ht hv=> ?_⟩
  obtain⟨v1,v2,rfl,hi,hv2⟩:=hx hr ht hv
  obtain⟨v3,v4,rfl,hi',hv4⟩:=hy hr ht hv2
  exact⟨v1++v3,v4,by rw[G46],⟨v1,v3,rfl,hi.mono (λb hb=>C05 b hb) (λ_ _=>rfl),hi'.mono (λb hb=>Ch9 b hb) (λ_ _=>rfl)⟩,hv4⟩
 |int i=>
  intro cs k l h
  cases cs with
  |nil=>cases h
  |cons c cs=>cases c with
   |int j m=>
    simp only[Ek5]at h
    by_cases e:i=j
    ·subst e
     simp only[G56,G52]at h
     refine⟨m,cs,[],l,h,(λn hn=>by cases hn),λ{E saved a S w w0 K vs} hr ht hv=> ?_⟩
     cases hv with
     |@cons _ v _ vs' h1 h2=>
      have:v= .int i m:=h1
      subst this
      exact⟨[_],vs',rfl,rfl,h2⟩
    ·simp[e,RP.run]at h
   |_=>cases h
 |bool=>
  intro cs k l h
  cases cs with
  |nil=>cases h
  |cons c cs=>cases c with
   |bool b=>
    refine⟨b,cs,[],l,h,(λn hn=>by cases hn),λ{E saved a S w w0 K vs} hr ht hv=> ?_⟩
    cases hv with
    |@cons _ v _ vs' h1 h2=>
     have:v= .bool b:=h1
     subst this
     exact⟨[_],vs',rfl,rfl,h2⟩
   |_=>cases h
 |str=>
  intro cs k l h
  cases cs with
  |nil=>cases h
  |cons c cs=>cases c with
   |str s=>
    refine⟨s,cs,[],l,h,(λn hn=>by cases hn),λ{E saved a S w w0 K vs} hr ht hv=> ?_⟩
    cases hv with
    |@cons _ v _ vs' h1 h2=>
     have:v= .string s:=h1
     subst this
     exact⟨[_],vs',rfl,rfl,h2⟩
   |_=>cases h
 |slice e t _=>
  intro cs k l h
  cases cs with
  |nil=>cases h
  |cons c cs=>
   simp only[Ek5]at h
   obtain⟨ys,l1,h1,hn,hy⟩:=Fb3 h
   refine⟨ys,cs,_,l1,h1,hn,λ{E saved a S w w0 K vs} hr ht hv=> ?_⟩
   cases hv with
   |@cons _ v _ vs' h2 h3=>exact⟨[v],vs',rfl,hy hr ht h2,h3⟩
variable {P : Program} {f : FuncId}
theorem Fb4 {nm:Nat→Nat}:∀(s:Spec) (vs:List V1) (ns:List Nat) (l:List Loc),(D32 nm s vs ns).run st Kk l=some r→RowNames st.heap ns→
  ∃out ms l',(Bi9 (I7 nm 0 out).2 (bif S5 out then Bn1 (B45 (ns++ms)) λu=>U2 (u++(I7 nm 0 out).2) (X8 (I7 nm 0 out).1)
   else U2 (I7 nm 0 out).2 (X8 (I7 nm 0 out).1))).run st Kk l'=some r∧RowNames st.heap (ns++ms)∧
   ∀{E saved a S w w0 K ok Vs pre},RelE E st saved a S w w0 K→TF st.heap w K→(∀b,okX E K st.heap ms b→ok b)→All2 (V1Rel E st.heap w) vs Vs→D45 P f ok w s pre→
    Calls P f (pre++Vs).toArray w λe w'=> ∃V,e= .returned V∧Ret ok w w' out V:=by
 intro s
 induction s with
 |body o out=>
  intro vs ns l h hns
  cases vs with
  |nil=>
   simp only[D32]at h
   cases o with
   |none=>cases h
   |some a=>
    refine⟨out a,[],l,by rw[G59];exact h,by rw[G59];exact hns,λ{E saved a' S w w0 K ok Vs pre} hr ht hok hv hs=> ?_⟩
    cases hv
    rw[G59]
    exact hs a rfl
  |cons v vs=>cases h
 |imm t k ih=>
  intro vs ns l h hns
  cases vs with
  |nil=>cases h
  |cons v vs=>
   simp only[D32]at h
   cases hag:(bif v.agg then t.agg else !t.agg)with
   |false=>rw[hag]at h;cases h
   |true=>
    rw[hag]at h
    simp only[G52]at h
    obtain⟨x,rest,ms,l1,h1,hms,hx⟩:=Bn9 _ _ _ _ h
    cases rest with
    |cons _ _=>cases h1
    |nil=>
     obtain⟨out,ms',l2,h2,hms',hcall⟩:=ih x vs (ns++ms) l1 h1 (hns.append hms)
     refine⟨out,ms++ms',l2,by rw[←G46];exact h2,by rw[←G46];exact hms',λ{E saved a' S w w0 K ok Vs pre} hr ht hok hv hs=> ?_⟩
     cases hv with
     |@cons _ V _ Vs' p q=>
      have harg:Be3 ok w t x V:=by
       obtain⟨us,hus,hV⟩:=p
       obtain⟨v1,v2,e1,hi,hv2⟩:=hx hr ht hus
       cases hv2
       rw[G59]at e1
       subst e1
       refine⟨us,hi.mono (λb hb=>hok b (C05 b hb)) (λ_ _=>rfl), ?_⟩
       rcases hV with⟨h1,h2⟩|⟨h1,h2⟩
       ·rw[h1]at hag;exact .inl ⟨hag,h2⟩
       ·rw[h1]at hag;exact .inr ⟨by simpa using hag,h2⟩
      have:=hcall hr ht (λb hb=>hok b (Ch9 b hb)) q (hs x V harg)
      rwa [G46]at this
end
end Go.Vm
end
section
namespace Go.Vm
open Go
inductive MD where
 | box (g p : Nat)
 | row (g off c : Nat)
 | tree (g off c : Nat) (ns : List Nat) (β : Nat → Nat → Option (Nat × Nat))
 | nil
def MD.blk:MD→List Nat
 | .box g _=> [g]
 | .row g _ _=> [g]
 | .tree g _ _ ns _=>g::ns
 | .nil=> []
def Ge8 (w:World) (g p:Nat) (vs:List Value):Prop:=∀j v,vs[j]? =some v→w.cell? ⟨g,p+j,none⟩=some v∧w.frozen? ⟨g,p+j,none⟩=false
inductive PostOk (ok : Nat → Prop) (w : World) : List MD → List Po → Prop where
 | nil : PostOk ok w [] []
 | box {g p t y ms ps vs} : Imm ok w t y vs → Ge8 w g p vs → PostOk ok w ms ps → PostOk ok w (.box g p :: ms) (.box t y :: ps)
 | row {g off c t ys ms ps} : RowAt ok w g off t ys → NoFrz t w g → PostOk ok w ms ps → PostOk ok w (.row g off c :: ms) (.row t ys :: ps)
 | tree {g off c ns β t ys ms ps} : TreeAt w g off t β ys → PostOk ok w ms ps → PostOk ok w (.tree g off c ns β :: ms) (.tree t ys :: ps)
 | noneT {t ys ms ps} : PostOk ok w ms ps → PostOk ok w (.nil :: ms) (.tree t ys :: ps)
 | gone {m ms ps} : PostOk ok w ms ps → PostOk ok w (m :: ms) (.gone :: ps)
 | none {t ys ms ps} : PostOk ok w ms ps → PostOk ok w (.nil :: ms) (.row t ys :: ps)
def Ap1:List MD→List Po→List Nat
 |m::ms, .gone::ps=>m.blk++Ap1 ms ps
 |_::ms,_::ps=>Ap1 ms ps
 |_,_=> []
structure RetM (ok : Nat → Prop) (w w' : World) (out : List (Bool × List RC)) (V : Value) (ms : List MD) (ps : List Po) : Prop where
 os : w'.os = w.os
 tape : w'.tape = w.tape
 put : w'.output = w.output
 size : w.heap.size ≤ w'.heap.size
 same : ∀ b, b < w.heap.size → b ∉ ms.flatMap MD.blk → w'.heap[b]? = w.heap[b]?
 room : ∀ g m, Room w g m → Room w' g m
 res : ∃ (good : Nat → Prop) (Vs : List Value) (bs : List Nat), (∀ b, good b → w.heap.size ≤ b ∧ b < w'.heap.size) ∧ ResRel (fun b => ok b ∨ good b) w' out Vs bs ∧ bs.Nodup ∧
  (∀ b ∈ bs, (w.heap.size ≤ b ∧ b < w'.heap.size ∧ ¬ good b) ∨ b ∈ Ap1 ms ps) ∧ V = Dl8 Vs ∧ PostOk (fun b => ok b ∨ good b) w' ms ps
def MOk (P:Program) (f:FuncId) (ok:Nat→Prop) (w:World):MSpec→List Value→List MD→Prop
 | .imm t k,pre,ms=> ∀x v,Be3 ok w t x v→MOk P f ok w (k x) (pre++ [v]) ms
 | .box t k,pre,ms=> ∀x g p vs,Imm ok w t x vs→Ge8 w g p vs→g<w.heap.size→¬ok g→g∉ms.flatMap MD.blk→MOk P f ok w (k x) (pre++ [.pointer (some ⟨g,p,none⟩)]) (ms++ [.box g p])
 | .row e t k,pre,ms=> (∀A,MOk P f ok w (k []) (pre++ [.slice A 0 0]) (ms++ [.nil]))∧
   ∀xs g off c,xs.length≤c→0<c→RowAt ok w g off t xs→NoFrz t w g→Room w g (off+c*t.sz)→g<w.heap.size→¬ok g→g∉ms.flatMap MD.blk→
    MOk P f ok w (k xs) (pre++ [.slice (some ⟨g,off,none⟩) xs.length c]) (ms++ [.row g off c])
 | .tree e t k,pre,ms=> (∀A,MOk P f ok w (k []) (pre++ [.slice A 0 0]) (ms++ [.nil]))∧
   ∀xs g off c ns β,xs.length≤c→0<c→TreeAt w g off t β xs→(∀b,b∈ns↔∃i f p,β i f=some (b,p))→Room w g (off+c*t.sz)→(∀b∈g::ns,b<w.heap.size∧¬ok b∧b∉ms.flatMap MD.blk)→
    MOk P f ok w (k xs) (pre++ [.slice (some ⟨g,off,none⟩) xs.length c]) (ms++ [.tree g off c ns β])
 | .body o out post,pre,ms=> (∀g,D28=some g→g∉ms.flatMap MD.blk)→∀a,o=some a→Calls P f pre.toArray w λe w'=> ∃V,e= .returned V∧RetM ok w w' (out a) V ms (post a)
def C06 (P:Program) (f:FuncId) (s:MSpec):Prop:=∀ok w,(∀b,ok b→b<w.heap.size)→D44 w→MOk P f ok w s [] []
end Go.Vm
end
section
namespace Go.Vm
open Go
theorem CellRel.closed {ok:Nat→Prop} {E:Env} {h:D3} {w:World} {c:Cell} {v:Value} (p:CellRel (Fp5 ok) [] w c v) (hok:∀b,ok b→E.ok b):CellRel E h w c v:=by
 cases c with
 |int=>exact p
 |bool=>exact p
 |str=>exact p
 |nilS=>exact p
 |slc e t xs=>exact Imm.mono hok (λ_ _=>rfl) p
 |row o lo hi=>simp[CellRel,hsh,B3]at p
 |ptr o f=>obtain⟨n,hs,_⟩:=p;simp[hsh,B3]at hs
 |eptr o i f=>simp[CellRel,hsh,B3]at p
 |iptr t x f=>
  obtain⟨g,off,ds,rfl,hg,hi,hj⟩:=p
  exact⟨g,off,ds,rfl,hok g hg,hi.mono hok (λ_ _=>rfl),hj⟩
 |fn f l=>
  obtain⟨vs,rfl,hl⟩:=p
  refine⟨vs,rfl, ?_⟩
  generalize vs.toList=us at hl
  cases hl with
  |nil=>exact .nil
  |cons q _=>obtain⟨n,hs,_⟩:=q;simp[hsh,B3]at hs
 |mp o=>obtain⟨t,hs,_⟩:=p;simp[hsh,B3]at hs
theorem Av6 {ok ok':Nat→Prop} {w:World}:∀{t:Ty} {x:El t} {cs:List Value},t.flat=true→Imm ok w t x cs→Imm ok' w t x cs
 | .int _,_,_,_,h=>h
 | .bool,_,_,_,h=>h
 | .str,_,_,_,h=>h
 | .slice _ _,_,_,hf,_=>by cases hf
 | .nil,_,_,_,h=>h
 | .fld a r,x,_,hf,h=>by
  simp only[Ty.flat,G37]at hf
  obtain⟨c1,c2,rfl,h1,h2⟩:=h
  exact⟨c1,c2,rfl,Av6 hf.1 h1,Av6 hf.2 h2⟩
theorem RcRel.mono {ok ok':Nat→Prop} {w:World} (hok:∀b,ok b→ok' b) {rc:RC} {v:Value} {bs:List Nat} (h:RcRel ok w rc v bs):RcRel ok' w rc v bs:=by
 cases rc with
 |c c=>exact⟨h.1,h.2.closed hok⟩
 |own e t xs=>
  obtain⟨A,c,hv,hle,hx⟩:=h
  refine⟨A,c,hv,hle,hx.imp id ?_⟩
  rintro⟨g,off,h1,h2,h3,h4⟩
  exact⟨g,off,h1,h2,h3.mono hok (λ_ _=>rfl) rfl,h4⟩
 |tree e t xs=>exact h
theorem RcRel.flat {ok ok':Nat→Prop} {w:World} {rc:RC} (hs:rc.shared=false) {v:Value} {bs:List Nat} (h:RcRel ok w rc v bs):RcRel ok' w rc v bs:=by
 cases rc with
 |c c=>
  refine⟨h.1, ?_⟩
  have h2:=h.2
  cases c with
  |slc=>cases hs
  |iptr=>cases hs
  |int=>exact h2
  |bool=>exact h2
  |str=>exact h2
  |nilS=>exact h2
  |row o lo hi=>simp[CellRel,hsh,B3]at h2
  |ptr o f=>obtain⟨n,hs,_⟩:=h2;simp[hsh,B3]at hs
  |eptr o i f=>simp[CellRel,hsh,B3]at h2
  |fn f l=>exact h2
  |mp o=>obtain⟨t,hs,_⟩:=h2;simp[hsh,B3]at hs
 |own e t xs=>
  obtain⟨A,c,hv,hle,hx⟩:=h
  refine⟨A,c,hv,hle,hx.imp id ?_⟩
  rintro⟨g,off,h1,h2,h3,h4⟩
  refine⟨g,off,h1,h2,λi hi=> ?_,h4⟩
  obtain⟨ds,hd,hj⟩:=h3 i hi
  exact⟨ds,Av6 (by simpa [RC.shared]using hs) hd,hj⟩
 |tree e t xs=>exact h
theorem RcsRel.imp {ok ok':Nat→Prop} {w:World} {rs:List RC} {vs:List Value} {bs:List Nat} (h:RcsRel ok w rs vs bs) (k:∀rc∈rs,∀v bs,RcRel ok w rc v bs→RcRel ok' w rc v bs):RcsRel ok' w rs vs bs:=by
 induction h with
 |nil=>exact .nil
 |cons p _ ih=>exact .cons (k _ G39 _ _ p) (ih λrc hrc=>k rc (G38 _ hrc))
theorem ResRel.imp {ok ok':Nat→Prop} {w:World} {out:List (Bool×List RC)} {vs:List Value} {bs:List Nat} (h:ResRel ok w out vs bs) (k:∀x∈out,∀rc∈x.2,∀v bs,RcRel ok w rc v bs→RcRel ok' w rc v bs):ResRel ok' w out vs bs:=by
 induction h with
 |nil=>exact .nil
 |cons p q _ ih=>exact .cons (p.imp (k _ G39)) q (ih λx hx=>k x (G38 _ hx))
theorem HLe.trans {h h' h'':D3} (p:HLe h h') (q:HLe h' h''):HLe h h'':=by
 intro n s hs
 rcases p n s hs with h1|⟨h1,h2⟩
 ·exact q n s h1
 ·rcases q n _ h2 with h3|⟨⟨e,t,m,h3⟩,_⟩
  ·exact .inr ⟨h1,h3⟩
  ·cases h3
theorem HLe.isSome {h h':D3} (p:HLe h h') {n:Nat} (hs:(B3 h n).isSome=true):(B3 h' n).isSome=true:=by
 obtain⟨o,ho⟩:=G74.1 hs
 have:hsh h n=some (E3 o):=by simp[hsh,ho]
 rcases p n _ this with h1|⟨_,h1⟩<;>exact Z9 h1
theorem Step.trans {E E' E'':Env} {h h' h'':D3} {w w' w'':World} (p:Step E E' h h' w w') (q:Step E' E'' h' h'' w' w''):Step E E'' h h'' w w'':=
 ⟨λn hs=> (q.ρ n (p.hle.isSome hs)).trans (p.ρ n hs),λn hs=> (q.has n (p.hle.isSome hs)).trans (p.has n hs),λb hb=>q.ok b (p.ok b hb),
  λb hb=> (q.same b (p.ok b hb)).trans (p.same b hb),λg m hr=>q.room g m (p.room g m hr),p.hle.trans q.hle⟩
theorem Step.refl (E:Env) (h:D3) (w:World):Step E E h h w w:=⟨λ_ _=>rfl,λ_ _=>Iff.rfl,λ_ h=>h,λ_ _=>rfl,λ_ _ h=>h,HLe.refl h⟩
section
variable {E : Env} {st : St} {saved : List (Nat × List VV)} {a : Act} {S : List (Array Value)} {w w' w0 : World} {K : Keep}
theorem RelE.after (h:RelE E st saved a S w w0 K) (hsz:w.heap.size≤w'.heap.size) (hs:∀b,b<w.heap.size→w'.heap[b]? =w.heap[b]?) (ho:w'.os=w.os) (ht:w'.tape=w.tape) (hu:w'.output=w.output)
  (good:Nat→Prop) (hg:∀b,good b→w.heap.size≤b∧b<w'.heap.size):RelE ⟨E.ρ,E.has,λb=>E.ok b∨good b⟩ st saved a S w' w0 K:=by
 have k:Step E ⟨E.ρ,E.has,λb=>E.ok b∨good b⟩ st.heap st.heap w w':=⟨λ_ _=>rfl,λ_ _=>Iff.rfl,λ_ h=> .inl h,λb hb=>hs b (h.bo b hb),λg m hr=>hr.of_same (hs g hr.lt),HLe.refl _⟩
 refine⟨G6 k h.tm,h.df,h.sv.mono λ_ _ q=>G6 k q,λn o hn=> (h.ob n o hn).step k (by rw[hn];rfl) (λh=>h) (λhh=>hs _ (h.bd n (by rw[hn];rfl) hh)),h.dj, ?_, ?_, ?_, ?_,ho.trans h.os,ht.trans h.tape,hu.trans h.out,G99 h.size hsz, ?_,λg m hr=>k.room g m (h.rm g m hr),h.ta⟩
 ·intro n hl hh
  obtain⟨h1,h2⟩:=h.dk n hl hh
  refine⟨λhk=>hk.elim h1 λhk=> ?_,h2⟩
  have h3:=(hg _ hk).1
  have h4:=h.bd n (J4 hl) hh
  exact absurd h4 (Nat.not_lt.2 h3)
 ·intro n hn hh
  exact G80 (h.bd n hn hh) hsz
 ·intro b hb
  rcases hb with hb|hb
  ·exact G80 (h.bo b hb) hsz
  ·exact(hg b hb).2
 ·intro b hb
  obtain⟨h1,h2⟩:=h.kp b hb
  exact⟨G80 h1 hsz,(hs b h1).trans h2⟩
 ·intro b hb hk
  rcases hb with hb|hb
  ·exact h.oz b hb hk
  ·exact absurd (h.kp b hk).1 (Nat.not_lt.2 (hg b hb).1)
theorem Free.named {h:D3} {nm b:Nat} {p:Nat×Nat} {q:Prop} {ob:Obj} (hf:Free E h K w b) (hb:q→p.1≠b):Free (E.at nm p q) (hset h nm ob) K w b:=by
 obtain⟨f1,f2,f3,f4⟩:=hf
 refine⟨λn hl hh=> ?_,f2,f3,f4⟩
 by_cases e:n=nm
 ·subst e
  have hq:q:=by simpa [Env.at]using hh
  simpa [Env.at]using hb hq
 ·have hl':C6 h n:=by
   unfold C6 at hl ⊢
   rwa [A9,G41 e]at hl
  have hh':E.has n:=by simpa [Env.at,e]using hh
  simpa [Env.at,e]using f1 n hl' hh'
def Grow (K K':Keep):Prop:=(∀b,K.k b→K'.k b)∧(∀b,K'.o b→K.o b)∧(∀b,K.k b→K'.p b→K.p b)∧∀b,K.k b→K'.b0 b=K.b0 b
theorem Grow.refl (K:Keep):Grow K K:=⟨λ_ h=>h,λ_ h=>h,λ_ _ h=>h,λ_ _=>rfl⟩
theorem Grow.trans {K K' K'':Keep} (p:Grow K K') (q:Grow K' K''):Grow K K'':=⟨λb h=>q.1 b (p.1 b h),λb h=>p.2.1 b (q.2.1 b h),λb h k=>p.2.2.1 b h (q.2.2.1 b (p.1 b h) k),λb h=> (q.2.2.2 b (p.1 b h)).trans (p.2.2.2 b h)⟩
theorem Fb5 {ok:Nat→Prop} {nm:Nat→Nat}:∀(rs:List RC) (j:Nat) {E:Env} {K:Keep} {st:St} {vs:List Value} {bs:List Nat},RelE E st saved a S w w K→TF st.heap w K→
  (∀n∈(X7 nm j rs).2.1.map Upd.name,B3 st.heap n=none)→E8 ((X7 nm j rs).2.1.map Upd.name)=true→RcsRel ok w rs vs bs→(∀b,ok b→E.ok b)→bs.Nodup→(∀b∈bs,Free E st.heap K w b)→
  ∃E' K',RelE E' (st.upds (X7 nm j rs).2.1) saved a S w w K'∧TF (st.upds (X7 nm j rs).2.1).heap w K'∧Grow K K'∧All2 (CellRel E' (st.upds (X7 nm j rs).2.1).heap w) (X7 nm j rs).1 vs∧Step E E' st.heap (st.upds (X7 nm j rs).2.1).heap w w∧E'.ok=E.ok∧
   ∀g,g∉bs→Free E st.heap K w g→Free E' (st.upds (X7 nm j rs).2.1).heap K' w g:=by
 intro rs
 induction rs with
 |nil=>
  intro j E K st vs bs h ht hn hd hr hok hb hf
  cases hr
  exact⟨E,K,h,ht, .refl K, .nil,Step.refl _ _ _,rfl,λg _ hg=>hg⟩
 |cons rc rs ih=>
  intro j E K st vs bs h ht hn hd hr hok hb hf
  cases hr with
  |@cons _ _ v vs b1 b2 p q=>
  cases rc with
  |c c=>
   obtain⟨rfl,p⟩:=p
   obtain⟨E',K',h1,ht',hg,h2,h3,h4,h5⟩:=ih j h ht hn hd q hok hb hf
   exact⟨E',K',h1,ht',hg, .cons (p.closed λb hb=>by rw[h4];exact hok b hb) h2,h3,h4,h5⟩
  |own e t xs=>
   obtain⟨A,c,rfl,hle,hx⟩:=p
   simp only[X7,G95,Upd.name]at hn hd
   obtain⟨hd1,hd2⟩:=N2 hd
   have hfr:B3 st.heap (nm j)=none:=hn _ G39
   have hnd:=Ha5.1 hb
   have hsh1:hsh (hset st.heap (nm j) (.row e t xs true)) (nm j)=some (.row e t xs.length):=by rw[F5,G45 rfl];rfl
   have key:∀(pr:Nat×Nat) (bq:Prop),(bq→Free E st.heap K w pr.1)→ObjRel (E.at (nm j) pr bq) (hset st.heap (nm j) (.row e t xs true)) w (nm j) (.row e t xs true)→(bq→pr.1∈b1)→
     CellRel (E.at (nm j) pr bq) (hset st.heap (nm j) (.row e t xs true)) w (.row (nm j) none none) (.slice A xs.length c)→
     ∃E' K',RelE E' (st.upds (X7 nm j (.own e t xs::rs)).2.1) saved a S w w K'∧TF (st.upds (X7 nm j (.own e t xs::rs)).2.1).heap w K'∧Grow K K'∧All2 (CellRel E' (st.upds (X7 nm j (.own e t xs::rs)).2.1).heap w) (X7 nm j (.own e t xs::rs)).1 (.slice A xs.length c::vs)∧
      Step E E' st.heap (st.upds (X7 nm j (.own e t xs::rs)).2.1).heap w w∧E'.ok=E.ok∧∀g,g∉b1++b2→Free E st.heap K w g→Free E' (st.upds (X7 nm j (.own e t xs::rs)).2.1).heap K' w g:=by
    intro pr bq hfree hob hmem hcell
    have h1:=h.named hfr pr bq _ hfree hob
    have hst:=Af9 (E:=E) (w:=w) hfr pr bq (.row e t xs true)
    obtain⟨E',K',k1,kt,kg,k2,k3,k4,k5⟩:=ih (j+1) (st:=⟨st.tmps,hset st.heap (nm j) (.row e t xs true)⟩) h1 (ht.hset hfr rfl) (λn hn'=>by
      rw[A9,G41 (show¬n=nm j fromλe1=>hd1 (by rw[←e1];exact hn'))]
      exact hn n (G38 _ hn')) hd2 q hok hnd.2.1 (λb hb'=> (hf b (G34.2 (.inr hb'))).named λhq e=>hnd.2.2 _ (hmem hq) b hb' e)
    exact⟨E',K',k1,kt,kg, .cons (hcell.step k3) k2,hst.trans k3,k4,λg hg hfg=>k5 g (λhg'=>hg (G34.2 (.inr hg'))) (hfg.named λhq e=>hg (G34.2 (.inl (e▸hmem hq))))⟩
   rcases hx with⟨rfl,rfl⟩|⟨g,off,rfl,rfl,hrow,hnf,hR⟩
   ·have hx0:xs=[]:=G58.1 (by omega)
    subst hx0
    refine key (0,0) False (λf=>f.elim) ⟨.inr rfl,λhh=> ?_⟩ (λf=>f.elim) ?_
    ·simp[Env.at]at hh
    ·simp only[CellRel,hsh1]
     exact⟨trivial,A,0,rfl,by simp[I8], .inl rfl⟩
   ·have e1:(E.at (nm j) (g,off) True).ρ (nm j)=(g,off):=by simp[Env.at]
    refine key (g,off) True (λ_=>hf g (G34.2 (.inl (G48.2 rfl)))) ⟨.inl (by simp[Env.at]),λ_=> ⟨?_,λ_=> ?_,λe=>by cases e⟩⟩ (λ_=>G48.2 rfl) ?_
    ·rw[e1];exact hrow.mono hok (λ_ _=>rfl) rfl
    ·rw[e1];exact hnf
    ·simp only[CellRel,hsh1]
     refine⟨trivial,some ⟨g,off,none⟩,c,by simp[D0],by simpa [I8]using hle, .inr ⟨by simp[Env.at],by simp[Env.at,I8], ?_⟩⟩
     rw[e1]
     simpa [I8]using hR
  |tree e t xs=>
   obtain⟨A,c,rfl,hle,hx⟩:=p
   simp only[X7,G95,Upd.name]at hn hd
   obtain⟨hd1,hd2⟩:=N2 hd
   have hfr:B3 st.heap (nm j)=none:=hn _ G39
   have hnd:=Ha5.1 hb
   have hsh1:hsh (hset st.heap (nm j) (.tree e t xs 0)) (nm j)=some (.row e t xs.length):=by rw[F5,G45 rfl];rfl
   have next:∀(E1:Env) (K1:Keep),RelE E1 ⟨st.tmps,hset st.heap (nm j) (.tree e t xs 0)⟩ saved a S w w K1→TF (hset st.heap (nm j) (.tree e t xs 0)) w K1→Grow K K1→Step E E1 st.heap (hset st.heap (nm j) (.tree e t xs 0)) w w→E1.ok=E.ok→
     CellRel E1 (hset st.heap (nm j) (.tree e t xs 0)) w (.row (nm j) none none) (.slice A xs.length c)→(∀b,b∉b1→Free E st.heap K w b→Free E1 (hset st.heap (nm j) (.tree e t xs 0)) K1 w b)→
     ∃E' K',RelE E' (st.upds (X7 nm j (.tree e t xs::rs)).2.1) saved a S w w K'∧TF (st.upds (X7 nm j (.tree e t xs::rs)).2.1).heap w K'∧Grow K K'∧All2 (CellRel E' (st.upds (X7 nm j (.tree e t xs::rs)).2.1).heap w) (X7 nm j (.tree e t xs::rs)).1 (.slice A xs.length c::vs)∧
      Step E E' st.heap (st.upds (X7 nm j (.tree e t xs::rs)).2.1).heap w w∧E'.ok=E.ok∧∀g,g∉b1++b2→Free E st.heap K w g→Free E' (st.upds (X7 nm j (.tree e t xs::rs)).2.1).heap K' w g:=by
    intro E1 K1 h1 t1 g1 s1 o1 c1 f1
    obtain⟨E',K',k1,kt,kg,k2,k3,k4,k5⟩:=ih (j+1) (st:=⟨st.tmps,hset st.heap (nm j) (.tree e t xs 0)⟩) h1 t1 (λn hn'=>by
      rw[A9,G41 (show¬n=nm j fromλe1=>hd1 (by rw[←e1];exact hn'))]
      exact hn n (G38 _ hn')) hd2 q (λb hb=>by rw[o1];exact hok b hb) hnd.2.1 (λb hb'=>f1 b (λhm=>hnd.2.2 b hm b hb' rfl) (hf b (G34.2 (.inr hb'))))
    exact⟨E',K',k1,kt,g1.trans kg, .cons (c1.step k3) k2,s1.trans k3,k4.trans o1,λg hg hfg=>k5 g (λhg'=>hg (G34.2 (.inr hg'))) (f1 g (λhm=>hg (G34.2 (.inl hm))) hfg)⟩
   have free1:∀(pr:Nat×Nat) (bq:Prop) (b:Nat),(bq→pr.1≠b)→Free E st.heap K w b→Free (E.at (nm j) pr bq) (hset st.heap (nm j) (.tree e t xs 0)) K w b:=λpr bq b hb hfb=>hfb.named hb
   rcases hx with⟨rfl,rfl⟩|⟨g,off,ns,β,rfl,rfl,hns,hT,hR⟩
   ·have hx0:xs=[]:=G58.1 (by omega)
    subst hx0
    obtain⟨r1,t1⟩:=h.newTree0 ht hfr e t 0
    refine next _ _ r1 t1 ⟨λb hb=>hb,λb hb=>hb,λb _ hb=>hb,λ_ _=>rfl⟩ (Af9 hfr (0,0) False _) rfl ?_ (λb _ hfb=>free1 (0,0) False b (λf=>f.elim) hfb)
    simp only[CellRel,hsh1]
    exact⟨trivial,A,0,rfl,by simp[I8], .inl rfl⟩
   ·have hfree:∀b∈g::ns,Free E st.heap K w b:=λb hb'=>hf b (G34.2 (.inl hb'))
    obtain⟨r1,t1⟩:=h.newTree ht hfr e 0 hfree hns hT
    refine next _ _ r1 t1 ⟨λb hb=> .inl hb,λb hb=>hb.1,λb hk hb=>hb.resolve_right λhm=> (hfree b hm).2.2.1 hk,λb hk=>by
     have hne:b≠g:=λe=> (hfree g G39).2.2.1 (e▸hk)
     simp[Keep.plus,hne]⟩ (Af9 hfr (g,off) True _) rfl ?_ (λb hb' hfb=> ?_)
    ·simp only[CellRel,hsh1]
     refine⟨trivial,some ⟨g,off,none⟩,c,by simp[D0],by simpa [I8]using hle, .inr ⟨by simp[Env.at],by simp[Env.at,I8], ?_⟩⟩
     have e1:(E.at (nm j) (g,off) True).ρ (nm j)=(g,off):=by simp[Env.at]
     rw[e1]
     simpa [I8]using hR
    ·obtain⟨f1,f2,f3,f4⟩:=free1 (g,off) True b (λ_ e=>hb' (by rw[←e];exact G39)) hfb
     exact⟨f1,f2,λhk=>hk.elim f3 hb',f4⟩
theorem Bo0 {ok:Nat→Prop} {nm:Nat→Nat}:∀(out:List (Bool×List RC)) (j:Nat) {E:Env} {K:Keep} {st:St} {Vs:List Value} {bs:List Nat},RelE E st saved a S w w K→TF st.heap w K→
  (∀n∈(I7 nm j out).2.map Upd.name,B3 st.heap n=none)→E8 ((I7 nm j out).2.map Upd.name)=true→ResRel ok w out Vs bs→(∀b,ok b→E.ok b)→bs.Nodup→(∀b∈bs,Free E st.heap K w b)→
  ∃E' K',RelE E' (st.upds (I7 nm j out).2) saved a S w w K'∧TF (st.upds (I7 nm j out).2).heap w K'∧Grow K K'∧All2 (V1Rel E' (st.upds (I7 nm j out).2).heap w) (I7 nm j out).1 Vs∧Step E E' st.heap (st.upds (I7 nm j out).2).heap w w:=by
 intro out
 induction out with
 |nil=>
  intro j E K st Vs bs h ht hn hd hr hok hb hf
  cases hr
  exact⟨E,K,h,ht, .refl K, .nil,Step.refl _ _ _⟩
 |cons x out ih=>
  intro j E K st Vs bs h ht hn hd hr hok hb hf
  obtain⟨ag,rs⟩:=x
  cases hr with
  |@cons _ _ vs V b1 _ Vs b2 p hV q=>
  simp only[I7,G64]at hn hd
  obtain⟨hd1,hd2,hdj⟩:=F4 hd
  have hnd:=Ha5.1 hb
  obtain⟨E1,K1,h1,ht1,hg1,h2,h3,h4,h5⟩:=Fb5 rs j h ht (λn hn'=>hn n (G34.2 (.inl hn'))) hd1 p hok hnd.1 (λb hb'=>hf b (G34.2 (.inl hb')))
  obtain⟨E2,K2,k1,kt,kg,k2,k3⟩:=ih (X7 nm j rs).2.2 h1 ht1 (λn hn'=>by
   rw[G7 _ _ _ (λhm=>hdj n hm hn')]
   exact hn n (G34.2 (.inr hn'))) hd2 q (λb hb'=>by rw[h4];exact hok b hb') hnd.2.1 (λb hb'=>h5 b (λhb1=>hnd.2.2 b hb1 b hb' rfl) (hf b (G34.2 (.inr hb'))))
  refine⟨E2,K2, ?_, ?_,hg1.trans kg, ?_, ?_⟩
  ·simp only[I7,H3];exact k1
  ·simp only[I7,H3];exact kt
  ·simp only[I7,H3]
   exact .cons ⟨vs,h2.mono λ_ _ r=>r.step k3,hV⟩ k2
  ·simp only[I7,H3];exact h3.trans k3
theorem Bo1 {h:D3} {vs:List V1} {Vs:List Value} (k:All2 (V1Rel E h w) vs Vs):VRel E h w (X8 vs) (Dl8 Vs):=by
 cases k with
 |nil=>exact⟨[], .nil,rfl⟩
 |cons p q=>cases q with
  |nil=>exact p
  |cons p' q'=>exact⟨_, .cons p (.cons p' q'),rfl⟩
variable {R : Type} {Kk : List Upd → VV → List Loc → Option R} {l : List Loc} {r : R}
theorem Bo2:∀(us:List Upd) (k:RP) (l:List Loc),(Bi9 us k).run st Kk l=some r→(∀n∈us.map Upd.name,B3 st.heap n=none)∧∃l',k.run st Kk l'=some r
 | [],k,l,h=> ⟨(λn hn=>by cases hn),l,h⟩
 |u::us,k,l,h=>by
  obtain⟨h1,l1,h2⟩:=L9 h
  obtain⟨h3,l2,h4⟩:=Bo2 us k l1 h2
  refine⟨λn hn=> ?_,l2,h4⟩
  cases hn with
  |head=>exact h1
  |tail _ hn=>exact h3 n hn
theorem B56:∀(ns:List Nat) (k:List Upd→RP) (l:List Loc),(Bn1 ns k).run st Kk l=some r→∃u l',(k u).run st Kk l'=some r∧FrzOk st.heap u∧u.map Upd.name=ns
 | [],k,l,h=> ⟨[],l,h,(λx hx=>by cases hx),rfl⟩
 |n::ns,k,l,h=>by
  simp only[Bn1,RP.run]at h
  split at h
  ·rename_i e t xs own hg
   obtain⟨u,l',h1,h2,h3⟩:=B56 ns _ _ h
   refine⟨_,l',h1,λx hx=> ?_,by rw[G95,h3];rfl⟩
   cases hx with
   |head=>exact⟨n,e,t,xs,own,rfl,hg⟩
   |tail _ hx=>exact h2 x hx
  ·cases h
theorem Bj3:∀(ns:List Nat) (n:Nat),n∈ns→n∈B45 ns
 | [],n,h=>by cases h
 |m::ns,n,h=>by
  simp only[B45]
  cases hb:ns.any (Nat.beq m)with
  |true=>
   rw[G52]
   cases h with
   |head=>
    obtain⟨b,hb1,hb2⟩:=Hb1.1 hb
    rw[G35 hb2]
    exact Bj3 ns b hb1
   |tail _ h=>exact Bj3 ns n h
  |false=>
   rw[G72]
   cases h with
   |head=>exact G39
   |tail _ h=>exact G38 _ (Bj3 ns n h)
structure Ok (P : Program) (cfg : Cfg) : Prop extends Good P cfg where
 enter : ∀ f, ((look cfg.spec f).isSome = true ∨ (look cfg.inl f).isSome = true) → ∀ args w, (callFunc f args).run P w = .ok (.enter f args) w
 spec : ∀ f s, look cfg.spec f = some s → t7 P f s
 enterM : ∀ f, (look cfg.mspec f).isSome = true → ∀ args w, (callFunc f args).run P w = .ok (.enter f args) w
 mspec : ∀ f s, look cfg.mspec f = some s → C06 P f s
 alt : ∀ f d s, Ep8 cfg.alt f d = some s → t7 P f s ∧ ∀ args w, (callFunc f args).run P w = .ok (.enter f args) w
theorem Bj4 {P:Program} {o:Oper} {c:Call} {f:FuncId} {ρ:Operand→Value} {w:World} (ho:o.op= .call c) {g:Operand} (hc:c.callee= .value g) {cap:Array Value} (hg:ρ g= .func (.func f) #[] cap)
  (he:∀args w,(callFunc f args).run P w= .ok (.enter f args) w):(execOp ρ o).run P w= .ok (.enter f (c.args.map ρ++cap)) w:=by
 simp[execOp,ho,resolve,hc,hg,Deferred.ofValue,invoke,he]
def Go3 (P:Program) (o:Oper) (a:Act) (w:World) (st':St) (v:VV) (saved:List (Nat×List VV)) (S:List (Array Value)) (w0:World) (K:Keep):Prop:=
 ∀(Q:Exit→Act→World→Prop) (next:Act→World→Prop),(∀a' w' E',RelX E' (s8 st' o.dst v) saved a' S w' w0 K→next a' w')→o.wp P a w next Q
def GoesX (P:Program) (o:Oper) (a:Act) (w:World) (st:St) (saved:List (Nat×List VV)) (S:List (Array Value)) (w0:World) (K:Keep)
  {R:Type} (Kk:List Upd→VV→List Loc→Option R) (r:R):Prop:=
 ∃u v l',Kk u v l'=some r∧Go3 P o a w (st.upds u) v saved S w0 K
theorem Grow.dr {w:World} {K K':Keep} (h:Grow K K'):Dr w K w K':=⟨rfl,rfl,rfl,G53 _,λb hb=> ⟨h.1 b hb,λ_=>rfl⟩,λb _ ho=>h.2.1 b ho,h.2.2.1,λ_ _ h=>h,h.2.2.2⟩
theorem TF.frzs:∀(u:List Upd) {st:St},TF st.heap w K→FrzOk st.heap u→E8 (u.map Upd.name)=true→TF (st.upds u).heap w K
 | [],_,h,_,_=>h
 |x::u,st,h,hf,hd=>by
  obtain⟨o,e,t,xs,own,rfl,hg⟩:=hf x G39
  simp only[G95,Upd.name]at hd
  obtain⟨h1,h2⟩:=N2 hd
  refine TF.frzs u (st:=st.upd (.o o (.row e t xs false))) ?_ (λy hy=> ?_) h2
  ·obtain⟨β,hβ⟩:=h
   exact⟨β,hβ.less (λn ob=>Aa8 (h:=st.heap) (nm:=o) (ob:= .row e t xs false) rfl n ob) Ap7⟩
  ·obtain⟨o',e',t',xs',own',rfl,hg'⟩:=hf y (G38 _ hy)
   refine⟨o',e',t',xs',own',rfl, ?_⟩
   show B3 (Vm.hset st.heap o _) o'=_
   rw[A9,G41 (λe=>h1 (by rw[←e];exact G79.2 ⟨_,hy,rfl⟩))]
   exact hg'
theorem Gf0 {P:Program} {o:Oper} (hX:RelX E st saved a S w w0 K) {c:Call} {f:FuncId} {nm:Nat→Nat} (ho:o.op= .call c) (hc:c.callee= .value (.func f)) {s:Spec} (hs:t7 P f s) (he:∀args w,(callFunc f args).run P w= .ok (.enter f args) w)
  (hrun:(W7 c.args.toList λvs=>D32 nm s vs []).run st Kk l=some r):GoesX P o a w st saved S w0 K Kk r:=by
  obtain⟨wb,K1,hD,hT0,hB⟩:=hX
  have h:=hB.rebase0
  have hT:=hB.now hT0
  have hD:=hD.trans hB.drift
  obtain⟨vs,l1,h1,h2⟩:=T1 _ _ _ hrun
  have hv:=h2 h
  obtain⟨out,ms,l2,h3,hms,hcall⟩:=Fb4 s vs [] l1 h1 (λn hn=>by cases hn)
  rw[G60]at h3 hms
  have hlt:∀b,okX E K1 st.heap ms b→b<w.heap.size:=by
   rintro b ((hb|⟨n,hn,⟨e,t,xs,own,hg⟩,hh,rfl⟩)|⟨_,hm⟩)
   ·exact h.bo b hb
   ·exact h.bd n (by rw[hg];rfl) hh
   ·exact(h.kp b hm.1).1
  have hC:=hcall h hT (λb hb=>hb) hv (hs (okX E K1 st.heap ms) w hlt hD.err)
  rw[G60]at hC
  have hex:=Bj4 (P:=P) (w:=w) (ρ:=a.eval) ho hc (cap:= #[]) rfl he
  have harr:(c.args.toList.map a.eval).toArray=c.args.map a.eval++ #[]:=by
   apply G65.1;simp
  rw[harr]at hC
  obtain⟨hfr,l3,h4⟩:=Bo2 _ _ _ h3
  have fin:∀(u:List Upd) (l4:List Loc),(U2 (u++(I7 nm 0 out).2) (X8 (I7 nm 0 out).1)).run st Kk l4=some r→FrzOk st.heap u→
    (∀(good:Nat→Prop) (w':World) (Vs:List Value) (bs:List Nat),ResRel (λb=>okX E K1 st.heap ms b∨good b) w' out Vs bs→ResRel (λb=>okU E u b∨good b) w' out Vs bs)→GoesX P o a w st saved S w0 K Kk r:=by
   intro u l4 h5 hfrz himp
   obtain⟨hd,hK⟩:=S6 h5
   rw[G64]at hd
   obtain⟨hd1,hd2,hdj⟩:=F4 hd
   refine⟨_,_,_,hK,λQ next hnx=> ?_⟩
   unfold Oper.wp
   rw[hex,Oper.upon_enter]
   refine Calls.mono hC λe w' hR=> ?_
   obtain⟨V,rfl,hret⟩:=hR
   obtain⟨good,Vs,bs,hgood,hres,hnd,hbs,rfl⟩:=hret.res
   obtain⟨E1,r1,e1,e2,e3⟩:=h.frzs u hfrz hd1
   have r2a:=r1.after hret.size hret.same hret.os hret.tape hret.put good hgood
   have t2:=r2a.now (hT.frzs u hfrz hd1)
   have r2:=r2a.rebase0
   obtain⟨E',K',r3,t3,g3',hV,_⟩:=Bo0 out 0 (ok:=λb=>okU E u b∨good b) r2 t2 (λn hn=>by
    rw[G7 u st n (λhm=>hdj n hm hn)]
    exact hfr n hn) hd2 (himp _ _ _ _ hres) (λb hb=>hb.imp (λhb=> (e3 b).1 hb) id) hnd (λb hb=>by
     obtain⟨g1,g2,g3⟩:=hbs b hb
     refine⟨λn hl hh=> ?_, ?_,λhk=> ?_,g2⟩
     ·have:=r1.bd n (J4 hl) hh
      exact Nat.ne_of_lt (G80 this g1)
     ·rintro(hk|hk)
      ·exact absurd (r1.bo b hk) (Nat.not_lt.2 g1)
      ·exact g3 hk
     ·exact absurd (r1.kp b hk).1 (Nat.not_lt.2 g1))
   refine hnx _ _ E' ?_
   rw[H3]
   exact RelX.put ⟨w',K',(hD.trans r2a.drift).trans g3'.dr,t3,r3⟩ o.dst (Bo1 hV)
  cases hsh:S5 out with
  |true=>
   rw[hsh]at h4
   simp only[G52]at h4
   obtain⟨u,l4,h5,hfrz,hnames⟩:=B56 _ _ _ h4
   refine fin u l4 h5 hfrz λgood w' Vs bs hres=>hres.imp λ_ _ rc _ v bs hrc=>hrc.mono λb hb=>hb.imp ?_ id
   have hin:∀n∈ms,∃ob,Upd.o n ob∈u:=λn hn=>by
    have:n∈u.map Upd.name:=by rw[hnames];exact Bj3 ms n hn
    obtain⟨x,hx,hxn⟩:=G79.1 this
    obtain⟨n',ob⟩:=x
    have e:n'=n:=hxn
    subst e
    exact⟨ob,hx⟩
   rintro((hb|⟨n,hn,_,hh,rfl⟩)|⟨⟨n,hn,e,t,xs,q,hg⟩,_⟩)
   ·exact .inl hb
   ·obtain⟨ob,hx⟩:=hin n hn
    exact .inr ⟨n,ob,hx,hh,rfl⟩
   ·obtain⟨ob,hx⟩:=hin n hn
    obtain⟨o',e',t',xs',own',e1,hg'⟩:=hfrz _ hx
    cases e1
    rw[hg]at hg';cases hg'
  |false=>
   rw[hsh]at h4
   simp only[G72]at h4
   refine fin [] l3 h4 (λx hx=>by cases hx) λgood w' Vs bs hres=>hres.imp λx hx rc hrc v bs hr=>hr.flat ?_
   unfold S5 at hsh
   have h6:=List.any_eq_false.1 hsh x hx
   have h7:x.2.any RC.shared=false:=by simpa using h6
   have:=List.any_eq_false.1 h7 rc hrc
   simpa using this
end
end Go.Vm
end
section
namespace Go.Vm
open Go
section
variable {E : Env} {st : St} {saved : List (Nat × List VV)} {a : Act} {S : List (Array Value)} {w w' w0 : World} {K : Keep}
theorem W8:∀(u:List Upd) (s:St) (n:Nat) (ob:Obj),E8 (u.map Upd.name)=true→Upd.o n ob∈u→B3 (s.upds u).heap n=some ob
 | [],s,n,ob,_,h=>by cases h
 | .o m o::u,s,n,ob,hd,h=>by
  simp only[G95,Upd.name]at hd
  obtain⟨h1,h2⟩:=N2 hd
  show B3 ((s.upd (.o m o)).upds u).heap n=_
  cases h with
  |head=>
   rw[G7 u _ _ h1]
   show B3 (hset s.heap _ _) _=_
   rw[A9,G45 rfl]
  |tail _ h=>exact W8 u _ n ob h2 h
theorem At5 {u:List Upd} {n:Nat} (h:n∈u.map Upd.name):∃ob,Upd.o n ob∈u:=by
 obtain⟨x,hx,e⟩:=G79.1 h
 obtain⟨m,ob⟩:=x
 have e2:m=n:=e
 subst e2
 exact⟨ob,hx⟩
theorem RelE.afterM (h:RelE E st saved a S w w0 K) (us:List Upd) (C:Nat→Prop) (hd:E8 (us.map Upd.name)=true)
  (hus:∀n ob',Upd.o n ob'∈us→∃ob,B3 st.heap n=some ob∧E3 ob'=E3 ob∧C6 st.heap n) (hnt:∀n ob',Upd.o n ob'∈us→ob'.tr=false)
  (hC:∀n,C6 st.heap n→E.has n→C (E.ρ n).1→n∈us.map Upd.name) (hCk:∀b,C b→¬E.ok b∧¬K b)
  (hsz:w.heap.size≤w'.heap.size) (hs:∀b,b<w.heap.size→¬C b→w'.heap[b]? =w.heap[b]?) (hroom:∀g m,Room w g m→Room w' g m)
  (ho:w'.os=w.os) (ht:w'.tape=w.tape) (hu:w'.output=w.output) (good:Nat→Prop) (hg:∀b,good b→w.heap.size≤b∧b<w'.heap.size)
  (obs:∀n ob',Upd.o n ob'∈us→∀{h'},Step E ⟨E.ρ,E.has,λb=>E.ok b∨good b⟩ st.heap h' w w'→ObjRel ⟨E.ρ,E.has,λb=>E.ok b∨good b⟩ h' w' n ob'):
  RelE ⟨E.ρ,E.has,λb=>E.ok b∨good b⟩ (st.upds us) saved a S w' w0 K:=by
 have hget':∀n,n∉us.map Upd.name→B3 (st.upds us).heap n=B3 st.heap n:=λn hn=>G7 us st n hn
 have k:Step E ⟨E.ρ,E.has,λb=>E.ok b∨good b⟩ st.heap (st.upds us).heap w w':=by
  refine⟨λ_ _=>rfl,λ_ _=>Iff.rfl,λ_ h=> .inl h,λb hb=>hs b (h.bo b hb) (λhc=> (hCk b hc).1 hb),hroom,λm s hm=> .inl ?_⟩
  by_cases e:m∈us.map Upd.name
  ·obtain⟨ob',hob⟩:=At5 e
   obtain⟨ob,h1,h2,_⟩:=hus m ob' hob
   simp only[hsh,W8 us st m ob' hd hob,Ha8]
   simp only[hsh,h1,Ha8]at hm
   rw[h2];exact hm
  ·simp only[hsh,hget' m e];exact hm
 have hlive:∀m,C6 (st.upds us).heap m→C6 st.heap m:=by
  intro m hm
  by_cases e:m∈us.map Upd.name
  ·obtain⟨ob',hob⟩:=At5 e
   exact(hus m ob' hob).elim λ_ h=>h.2.2
  ·unfold C6 at hm ⊢
   rwa [hget' m e]at hm
 refine⟨?_,h.df,h.sv.mono λ_ _ q=>G6 k q, ?_, ?_, ?_, ?_, ?_, ?_,ho.trans h.os,ht.trans h.tape,hu.trans h.out,G99 h.size hsz, ?_,λg m hr=>k.room g m (h.rm g m hr),h.trees k λn o hn ho'=> ?_⟩
 rotate_right
 ·by_cases e:n∈us.map Upd.name
  ·obtain⟨ob',hob⟩:=At5 e
   rw[W8 us st n ob' hd hob]at hn
   cases hn
   rw[hnt n _ hob]at ho';cases ho'
  ·rwa [hget' n e]at hn
 ·rw[A24];exact G6 k h.tm
 ·intro m o hm
  by_cases e:m∈us.map Upd.name
  ·obtain⟨ob',hob⟩:=At5 e
   rw[W8 us st m ob' hd hob]at hm
   cases hm
   exact obs m o hob k
  ·rw[hget' m e]at hm
   have hq:=h.ob m o hm
   by_cases hdead:o= .dead
   ·subst hdead;trivial
   by_cases htr:o.tr=true
   ·cases o<;>first|trivial|cases htr
   refine hq.step k (by rw[hm];rfl) (λh=>h) (λhh=>hs _ (h.bd m (by rw[hm];rfl) hh) (λhc=> ?_))
   cases o with
   |dead=>exact absurd rfl hdead
   |tree=>exact absurd rfl htr
   |bor=>exact absurd rfl htr
   |pend=>exact absurd rfl htr
   |box cs=>exact e (hC m (by unfold C6;rw[hm];trivial) hh hc)
   |row e' t xs own=>cases own with
    |true=>exact e (hC m (by unfold C6;rw[hm];trivial) hh hc)
    |false=>exact(hCk _ hc).1 ((hq.2 hh).2.2 rfl)
   |mp t xs=>exact e (hC m (by unfold C6;rw[hm];trivial) hh hc)
 ·intro m m' hne hl hl' hh hh'
  exact h.dj m m' hne (hlive m hl) (hlive m' hl') hh hh'
 ·intro n hl hh
  obtain⟨h1,h2⟩:=h.dk n (hlive n hl) hh
  refine⟨λhk=>hk.elim h1 λhk=> ?_,h2⟩
  have h3:=(hg _ hk).1
  have h4:=h.bd n (J4 (hlive n hl)) hh
  exact absurd h4 (Nat.not_lt.2 h3)
 ·intro n hn hh
  refine G80 (h.bd n ?_ hh) hsz
  by_cases e:n∈us.map Upd.name
  ·obtain⟨ob',hob⟩:=At5 e
   obtain⟨ob,h1,_⟩:=hus n ob' hob
   rw[h1];rfl
  ·rwa [hget' n e]at hn
 ·intro b hb
  rcases hb with hb|hb
  ·exact G80 (h.bo b hb) hsz
  ·exact(hg b hb).2
 ·intro b hb
  obtain⟨h1,h2⟩:=h.kp b hb
  exact⟨G80 h1 hsz,(hs b h1 (λhc=> (hCk b hc).2 hb)).trans h2⟩
 ·intro b hb hk
  rcases hb with hb|hb
  ·exact h.oz b hb hk
  ·exact absurd (h.kp b hk).1 (Nat.not_lt.2 (hg b hb).1)
theorem RelE.kills:∀(us:List Upd) {st:St},RelE E st saved a S w w0 K→E8 (us.map Upd.name)=true→(∀x∈us,∃n e t xs own,x= .o n .dead∧B3 st.heap n=some (.row e t xs own))→RelE E (st.upds us) saved a S w w0 K
 | [],st,h,_,_=>h
 |x::us,st,h,hd,hu=>by
  obtain⟨n,e,t,xs,own,rfl,hg⟩:=hu _ G39
  simp only[G95,Upd.name]at hd
  obtain⟨h1,h2⟩:=N2 hd
  refine RelE.kills us (h.kill hg) h2 λy hy=> ?_
  obtain⟨m,e',t',xs',own',rfl,hm⟩:=hu y (G38 _ hy)
  refine⟨m,e',t',xs',own',rfl, ?_⟩
  show B3 (hset st.heap n .dead) m=_
  rw[A9,G41 (λe=>h1 (by rw[←e];exact G79.2 ⟨_,hy,rfl⟩))]
  exact hm
inductive MRefs (E : Env) (h : D3) : List Mref → List MD → Prop where
 | nil : MRefs E h [] []
 | box {o t cs ms ds} : E.has o → B3 h o = some (.box cs) → cs.length = t.sz → MRefs E h ms ds → MRefs E h (.box o t :: ms) (.box (E.ρ o).1 (E.ρ o).2 :: ds)
 | row {o e t xs c ms ds} : E.has o → B3 h o = some (.row e t xs true) → MRefs E h ms ds → MRefs E h (.row o e t xs.length :: ms) (.row (E.ρ o).1 (E.ρ o).2 c :: ds)
 | rnil {o e t ms ds} : B3 h o = some (.row e t [] true) → MRefs E h ms ds → MRefs E h (.row o e t 0 :: ms) (.nil :: ds)
 | none {ms ds} : MRefs E h ms ds → MRefs E h (.none :: ms) (.nil :: ds)
theorem MRefs.append {h:D3} {ms ms2:List Mref} {ds ds2:List MD} (p:MRefs E h ms ds) (q:MRefs E h ms2 ds2):MRefs E h (ms++ms2) (ds++ds2):=by
 induction p with
 |nil=>exact q
 |box a b c _ ih=>exact .box a b c ih
 |row a b _ ih=>exact .row a b ih
 |rnil a _ ih=>exact .rnil a ih
 |none _ ih=>exact .none ih
theorem MRefs.blk {h:D3} {ms:List Mref} {ds:List MD} (p:MRefs E h ms ds):∀b∈ds.flatMap MD.blk,∃o∈ms.flatMap Mref.names,E.has o∧C6 h o∧b=(E.ρ o).1:=by
 induction p with
 |nil=>intro b hb;simp at hb
 |@box o t cs ms ds a b c _ ih=>
  intro x hx
  simp only[G44,MD.blk,Hb8,G60,G67]at hx
  rcases hx with rfl|hx
  ·exact⟨o,by simp[Mref.names],a,by unfold C6;rw[b];trivial,rfl⟩
  ·obtain⟨o',h1,h2⟩:=ih x hx
   exact⟨o',by simp only[G44,G34];exact .inr h1,h2⟩
 |@row o e t xs c ms ds a b _ ih=>
  intro x hx
  simp only[G44,MD.blk,Hb8,G60,G67]at hx
  rcases hx with rfl|hx
  ·exact⟨o,by simp[Mref.names],a,by unfold C6;rw[b];trivial,rfl⟩
  ·obtain⟨o',h1,h2⟩:=ih x hx
   exact⟨o',by simp only[G44,G34];exact .inr h1,h2⟩
 |rnil a _ ih=>
  intro x hx
  simp only[G44,MD.blk,G60]at hx
  obtain⟨o',h1,h2⟩:=ih x hx
  exact⟨o',by simp only[G44,G34];exact .inr h1,h2⟩
 |none _ ih=>
  intro x hx
  simp only[G44,MD.blk,G60]at hx
  obtain⟨o',h1,h2⟩:=ih x hx
  exact⟨o',by simp only[G44,G34];exact .inr h1,h2⟩
theorem C07 {l m:List Nat} (h:E8 (l++m)=true) {n:Nat} (hn:n∈m):n∉l:=λhl=> (F4 h).2.2 n hl hn
theorem Er4 {l m:List Nat} (h:Cl9 l m=true) {n:Nat} (hn:n∈l):n∉m:=by
 intro hm
 have:=G90.1 h n hn
 simp only[Ha3]at this
 have h2:m.any (Nat.beq n)=true:=Hb1.2 ⟨n,hm,G98 n⟩
 rw[this]at h2;cases h2
variable {P : Program} {f : FuncId} {R : Type} {Kk : List Upd → VV → List Loc → Option R} {l : List Loc} {r : R}
theorem PostOk.mono {ok ok':Nat→Prop} (hok:∀b,ok b→ok' b) {ds:List MD} {ps:List Po} (h:PostOk ok w ds ps):PostOk ok' w ds ps:=by
 induction h with
 |nil=>exact .nil
 |box p q _ ih=>exact .box (p.mono hok (λ_ _=>rfl)) q ih
 |row p q _ ih=>exact .row (p.mono hok (λ_ _=>rfl) rfl) q ih
 |gone _ ih=>exact .gone ih
 |none _ ih=>exact .none ih
 |tree p _ ih=>exact .tree p ih
 |noneT _ ih=>exact .noneT ih
theorem PostOk.flat {ok ok':Nat→Prop} {ds:List MD} {ps:List Po} (hf:ps.all Po.flat=true) (h:PostOk ok w ds ps):PostOk ok' w ds ps:=by
 induction h with
 |nil=>exact .nil
 |box p q _ ih=>
  simp only[List.all_cons,G37]at hf
  exact .box (Av6 hf.1 p) q (ih hf.2)
 |row p q _ ih=>
  simp only[List.all_cons,G37]at hf
  refine .row (λi hi=> ?_) q (ih hf.2)
  obtain⟨ds,hd,hj⟩:=p i hi
  exact⟨ds,Av6 hf.1 hd,hj⟩
 |gone _ ih=>
  simp only[List.all_cons,G37]at hf
  exact .gone (ih hf.2)
 |none _ ih=>
  simp only[List.all_cons,G37]at hf
  exact .none (ih hf.2)
 |tree p _ ih=>
  simp only[List.all_cons,G37]at hf
  exact .tree p (ih hf.2)
 |noneT _ ih=>
  simp only[List.all_cons,G37]at hf
  exact .noneT (ih hf.2)
theorem Dg5:∀(ns:List Nat) (n:Nat),n∈B45 ns→n∈ns
 | [],n,h=>h
 |m::ns,n,h=>by
  simp only[B45]at h
  cases hb:ns.any (Nat.beq m)with
  |true=>rw[hb]at h;exact G38 _ (Dg5 ns n h)
  |false=>
   rw[hb]at h
   cases h with
   |head=>exact G39
   |tail _ h=>exact G38 _ (Dg5 ns n h)
def Gm6 (nm:Nat→Nat) (out:List (Bool×List RC)) (ps:List Po) (p:List Upd×List Upd) (ns:List Nat):RP:=
 Bi9 (I7 nm 0 out).2 (bif S5 out|| !ps.all Po.flat then Bn1 (B45 ns) λu=>U2 (u++p.2++p.1++(I7 nm 0 out).2) (X8 (I7 nm 0 out).1)
   else U2 (p.2++p.1++(I7 nm 0 out).2) (X8 (I7 nm 0 out).1))
theorem F45 {nm:Nat→Nat} {t:Ty} {k:El t→MSpec} {v:V1} {vs:List V1} {ns:List Nat} {ms:List Mref} (h:(S0 nm (.box t k) (v::vs) ns ms).run st Kk l=some r):∃o,v=⟨false,[.ptr o 0]⟩:=by
 rcases v with⟨ag,cs⟩
 cases ag with
 |true=>simp[S0,RP.run]at h
 |false=>cases cs with
  |nil=>simp[S0,RP.run]at h
  |cons c cs=>cases cs with
   |cons _ _=>simp[S0,RP.run]at h
   |nil=>cases c with
    |ptr o f=>cases f with
     |zero=>exact⟨o,rfl⟩
     |succ f=>simp[S0,RP.run]at h
    |_=>simp[S0,RP.run]at h
theorem F46 {nm:Nat→Nat} {e:TypeId} {t:Ty} {k:List (El t)→MSpec} {v:V1} {vs:List V1} {ns:List Nat} {ms:List Mref} (h:(S0 nm (.row e t k) (v::vs) ns ms).run st Kk l=some r):
  v=⟨false,[.nilS]⟩∨∃o,v=⟨false,[.row o none none]⟩:=by
 rcases v with⟨ag,cs⟩
 cases ag with
 |true=>simp[S0,RP.run]at h
 |false=>cases cs with
  |nil=>simp[S0,RP.run]at h
  |cons c cs=>cases cs with
   |cons _ _=>cases c<;>simp[S0,RP.run]at h
   |nil=>cases c with
    |nilS=>exact .inl rfl
    |row o lo hi=>cases lo with
     |none=>cases hi with
      |none=>exact .inr ⟨o,rfl⟩
      |some b=>simp[S0,RP.run]at h
     |some a=>simp[S0,RP.run]at h
    |_=>simp[S0,RP.run]at h
theorem F47:∀(ms:List Mref) (ps:List Po) (k:RP) (l:List Loc),(D34 ms ps k).run st Kk l=some r→k.run st Kk l=some r∧D33 ms ps=p0 ms ps:=by
 intro ms
 induction ms with
 |nil=>intro ps k l h;cases ps<;>exact⟨h,rfl⟩
 |cons m ms ih=>
  intro ps k l h
  cases ps with
  |nil=>exact⟨by cases m<;>exact h,rfl⟩
  |cons p ps=>
   have key:(k.run st Kk l=some r∧D33 ms ps=p0 ms ps)∧Fz7 m p=N1 m p:=by
    cases m with
    |box o t=>cases p<;>exact⟨ih _ _ _ h,rfl⟩
    |none=>cases p with
     |box _ _=>exact⟨ih _ _ _ h,rfl⟩
     |gone=>exact⟨ih _ _ _ h,rfl⟩
     |tree _ _=>exact⟨ih _ _ _ h,rfl⟩
     |row t ys=>
      simp only[D34,RP.run]at h
      cases hc:Nat.beq ys.length 0 with
      |false=>rw[hc]at h;cases h
      |true=>rw[hc]at h;exact⟨ih _ _ _ h,by simp[Fz7,N1,hc]⟩
    |row o e t n=>cases p with
     |box _ _=>exact⟨ih _ _ _ h,rfl⟩
     |gone=>exact⟨ih _ _ _ h,rfl⟩
     |tree _ _=>exact⟨ih _ _ _ h,rfl⟩
     |row t' ys=>
      simp only[D34,RP.run]at h
      cases hc:Nat.beq ys.length n with
      |false=>rw[hc]at h;cases h
      |true=>rw[hc]at h;exact⟨ih _ _ _ h,by simp[Fz7,N1,hc]⟩
   refine⟨key.1.1, ?_⟩
   simp only[D33,p0,key.2,key.1.2]
theorem Fb6 {nm:Nat→Nat}:∀(s:MSpec) (vs:List V1) (ns:List Nat) (ms:List Mref) (l:List Loc),(S0 nm s vs ns ms).run st Kk l=some r→RowNames st.heap ns→
  ∃out ps p ns' ms' l',(Gm6 nm out ps p (ns++ns')).run st Kk l'=some r∧RowNames st.heap (ns++ns')∧E8 ((ms++ms').flatMap Mref.names)=true∧Cl9 (ns++ns') ((ms++ms').flatMap Mref.names)=true∧
   p0 (ms++ms') ps=some p∧
   ∀{E saved a S w w0 K ok Vs pre ds},RelE E st saved a S w w0 K→TF st.heap w K→(∀g,D28=some g→K g)→(∀b,okX E K st.heap ns' b→ok b)→(∀o∈ms'.flatMap Mref.names,C6 st.heap o→E.has o→¬ok (E.ρ o).1)→All2 (V1Rel E st.heap w) vs Vs→
    MRefs E st.heap ms ds→MOk P f ok w s pre ds→∃ds',MRefs E st.heap (ms++ms') (ds++ds')∧
    Calls P f (pre++Vs).toArray w λe w'=> ∃V,e= .returned V∧RetM ok w w' out V (ds++ds') ps:=by
 intro s
 induction s with
 |tree e t k ih=>
  intro vs ns ms l h hns
  cases vs<;>simp[S0,RP.run]at h
 |body o out post=>
  intro vs ns ms l h hns
  cases vs with
  |cons v vs=>simp[S0,RP.run]at h
  |nil=>
   simp only[S0]at h
   cases hc:(E8 (ms.flatMap Mref.names)&&Cl9 ns (ms.flatMap Mref.names))with
   |false=>rw[hc]at h;cases h
   |true=>
    rw[hc]at h
    simp only[G52]at h
    simp only[G37]at hc
    cases o with
    |none=>cases h
    |some a=>
     simp only[RP.run]at h
     obtain⟨h,hpe⟩:=F47 _ _ _ _ h
     rw[hpe]at h
     cases hp:p0 ms (post a)with
     |none=>rw[hp]at h;exact absurd h (by intro h;cases h)
     |some p=>
      rw[hp]at h
      refine⟨out a,post a,p,[],[],l,by rw[G59];exact h,by simpa using hns,by simpa using hc.1,by simpa using hc.2,by simpa using hp,λ{E saved a' S w w0 K ok Vs pre ds} hr ht he hok hsep hv hm hs=> ⟨[],by simpa using hm, ?_⟩⟩
      cases hv
      simp only[G59]
      exact hs (λg hg hb=>by
       obtain⟨o',_,g2,g3,g4⟩:=hm.blk _ hb
       exact(hr.dk o' g3 g2).2 (g4▸he g hg)) a rfl
 |imm t k ih=>
  intro vs ns ms l h hns
  cases vs with
  |nil=>simp[S0,RP.run]at h
  |cons v vs=>
   simp only[S0]at h
   cases hag:(bif v.agg then t.agg else !t.agg)with
   |false=>rw[hag]at h;cases h
   |true=>
    rw[hag]at h
    simp only[G52]at h
    obtain⟨x,rest,ns1,l1,h1,hns1,hx⟩:=Bn9 _ _ _ _ h
    cases rest with
    |cons _ _=>cases h1
    |nil=>
     obtain⟨out,ps,p,ns',ms',l2,h2,h3,h4,h5,h6,hcall⟩:=ih x vs (ns++ns1) ms l1 h1 (hns.append hns1)
     refine⟨out,ps,p,ns1++ns',ms',l2,by rw[←G46];exact h2,by rw[←G46];exact h3,h4,by rw[←G46];exact h5,h6,λ{E saved a' S w w0 K ok Vs pre ds} hr ht he hok hsep hv hm hs=> ?_⟩
     cases hv with
     |@cons _ V _ Vs' pv q=>
      have harg:Be3 ok w t x V:=by
       obtain⟨us,hus,hV⟩:=pv
       obtain⟨v1,v2,e1,hi,hv2⟩:=hx hr ht hus
       cases hv2
       rw[G59]at e1
       subst e1
       refine⟨us,hi.mono (λb hb=>hok b (C05 b hb)) (λ_ _=>rfl), ?_⟩
       rcases hV with⟨h1,h2⟩|⟨h1,h2⟩
       ·rw[h1]at hag;exact .inl ⟨hag,h2⟩
       ·rw[h1]at hag;exact .inr ⟨by simpa using hag,h2⟩
      obtain⟨ds',hd,hc⟩:=hcall hr ht he (λb hb=>hok b (Ch9 b hb)) hsep q hm (hs x V harg)
      exact⟨ds',hd,by rwa [G46]at hc⟩
 |box t k ih=>
  intro vs ns ms l h hns
  cases vs with
  |nil=>simp[S0,RP.run]at h
  |cons v vs=>
   obtain⟨o,rfl⟩:=F45 h
   simp only[S0,RP.run]at h
   cases hg:B3 st.heap o with
   |none=>rw[hg]at h;cases h
   |some b=>
    rw[hg]at h
    cases b with
    |box cs=>
     simp only at h
     obtain⟨x,rest,ns1,l1,h1,hns1,hx⟩:=Bn9 _ _ _ _ h
     cases rest with
     |cons _ _=>cases h1
     |nil=>
      obtain⟨out,ps,p,ns',ms',l2,h2,h3,h4,h5,h6,hcall⟩:=ih x vs (ns++ns1) (ms++ [.box o t]) l1 h1 (hns.append hns1)
      rw[G46]at h2 h3 h5
      rw[G46,G84]at h4 h5 h6
      refine⟨out,ps,p,ns1++ns', .box o t::ms',l2,h2,h3,h4,h5,h6,λ{E saved a' S w w0 K ok Vs pre ds} hr ht he hok hsep hv hm hs=> ?_⟩
      cases hv with
      |@cons _ V _ Vs' pv q=>
       obtain⟨n,hsh1,hV⟩:=V1Rel.one pv
       obtain⟨hh,us,hus,hcell⟩:=hr.ob o _ hg
       obtain⟨v1,v2,e1,hi,hv2⟩:=hx hr ht hus
       cases hv2
       rw[G59]at e1
       subst e1
       have hl:C6 st.heap o:=by unfold C6;rw[hg];trivial
       have hlen:cs.length=t.sz:=by rw[hus.length,hi.len]
       have hnb:(E.ρ o).1∉ds.flatMap MD.blk:=by
        intro hb
        obtain⟨o',g1,g2,g3,g4⟩:=hm.blk _ hb
        have hne:o≠o':=by
         rintro rfl
         rw[G92]at h4
         exact C07 h4 (by simp[Mref.names]) g1
        exact hr.dj o o' hne hl g3 hh g2 g4
       have:=hs x (E.ρ o).1 (E.ρ o).2 us (hi.mono (λb hb=>hok b (C05 b hb)) (λ_ _=>rfl)) hcell (hr.bd o (by rw[hg];rfl) hh) (hsep o (by simp[Mref.names]) hl hh) hnb
       obtain⟨ds',hd,hc⟩:=hcall hr ht he (λb hb=>hok b (Ch9 b hb)) (λo' ho'=>hsep o' (by simp only[G44,G34];exact .inr ho')) q (hm.append (.box hh hg hlen .nil)) this
       refine⟨.box (E.ρ o).1 (E.ρ o).2::ds', ?_, ?_⟩
       ·simpa using hd
       ·have e0:V= .pointer (some ⟨(E.ρ o).1,(E.ρ o).2,none⟩):=by simpa using hV
        rw[e0]
        simpa using hc
    |_=>cases h
 |row e t k ih=>
  intro vs ns ms l h hns
  cases vs with
  |nil=>simp[S0,RP.run]at h
  |cons v vs=>
   rcases F46 h with rfl|⟨o,rfl⟩
   ·simp only[S0]at h
    obtain⟨out,ps,p,ns',ms',l2,h2,h3,h4,h5,h6,hcall⟩:=ih [] vs ns (ms++ [.none]) l h hns
    rw[G46,G84]at h4 h5 h6
    refine⟨out,ps,p,ns', .none::ms',l2,h2,h3,h4,h5,h6,λ{E saved a' S w w0 K ok Vs pre ds} hr ht he hok hsep hv hm hs=> ?_⟩
    cases hv with
    |@cons _ V _ Vs' pv q=>
     have hV:V= .slice none 0 0:=V1Rel.one pv
     obtain⟨ds',hd,hc⟩:=hcall hr ht he hok (λo' ho'=>hsep o' (by simp only[G44,G34];exact .inr ho')) q (hm.append (.none .nil)) (hs.1 none)
     refine⟨.nil::ds',by simpa using hd, ?_⟩
     rw[hV]
     simpa using hc
   ·simp only[S0,RP.run]at h
    cases hg:B3 st.heap o with
    |none=>rw[hg]at h;cases h
    |some b=>
     rw[hg]at h
     cases b with
     |row e' t' xs own=>
      cases own with
      |false=>cases h
      |true=>
       simp only at h
       cases hb:Nat.beq e e' with
       |false=>rw[hb]at h;cases h
       |true=>
        rw[hb]at h
        simp only[G52]at h
        have he:=G35 hb
        subst he
        split at h
        ·rename_i ys hy
         obtain⟨rfl,rfl⟩:=D4 hy
         simp only at h
         obtain⟨out,ps,p,ns',ms',l2,h2,h3,h4,h5,h6,hcall⟩:=ih xs vs ns (ms++ [.row o e t' xs.length]) _ h hns
         rw[G46,G84]at h4 h5 h6
         refine⟨out,ps,p,ns', .row o e t' xs.length::ms',l2,h2,h3,h4,h5,h6,λ{E saved a' S w w0 K ok Vs pre ds} hr ht he hok hsep hv hm hs=> ?_⟩
         cases hv with
         |@cons _ V _ Vs' pv q=>
          have hl:C6 st.heap o:=by unfold C6;rw[hg];trivial
          have hs1:hsh st.heap o=some (.row e t' xs.length):=by simp[hsh,hg,E3]
          have hc:=V1Rel.one pv
          simp only[CellRel,hs1]at hc
          obtain⟨_,A,c,hV,hle,hx⟩:=hc
          simp only[D0,I8,Nat.sub_zero]at hV hle
          have hx:c=0∨(0<c∧E.has o∧A=some ⟨(E.ρ o).1,(E.ρ o).2+I8 none*t'.sz,none⟩∧Room w (E.ρ o).1 ((E.ρ o).2+(I8 none+c)*t'.sz)):=by
           rcases Hb5 c with hc0|hc0
           ·exact .inl hc0
           ·exact hx.imp id λh=> ⟨hc0,h⟩
          rcases hx with rfl|⟨hc0,hh,hA,hR⟩
          ·have hx0:xs=[]:=G58.1 (by omega)
           subst hx0
           obtain⟨ds',hd,hc⟩:=hcall hr ht he hok (λo' ho'=>hsep o' (by simp only[G44,G34];exact .inr ho')) q (hm.append (.rnil hg .nil)) (hs.1 A)
           refine⟨.nil::ds',by simpa using hd, ?_⟩
           rw[hV]
           simpa using hc
          ·obtain⟨_,hob⟩:=hr.ob o _ hg
           obtain⟨hat,hnf,_⟩:=hob hh
           have hnb:(E.ρ o).1∉ds.flatMap MD.blk:=by
            intro hb
            obtain⟨o',g1,g2,g3,g4⟩:=hm.blk _ hb
            have hne:o≠o':=by
             rintro rfl
             rw[G92]at h4
             exact C07 h4 (by simp[Mref.names]) g1
            exact hr.dj o o' hne hl g3 hh g2 g4
           have hA':A=some ⟨(E.ρ o).1,(E.ρ o).2,none⟩:=by rw[hA];simp[I8]
           have hR':Room w (E.ρ o).1 ((E.ρ o).2+c*t'.sz):=by simpa [I8]using hR
           have:=hs.2 xs (E.ρ o).1 (E.ρ o).2 c hle hc0 (hat.mono (λb hb=>hok b (.inl (.inl hb))) (λ_ _=>rfl) rfl) (hnf rfl) hR' (hr.bd o (by rw[hg];rfl) hh) (hsep o (by simp[Mref.names]) hl hh) hnb
           obtain⟨ds',hd,hc⟩:=hcall hr ht he hok (λo' ho'=>hsep o' (by simp only[G44,G34];exact .inr ho')) q (hm.append (.row (c:=c) hh hg .nil)) this
           refine⟨.row (E.ρ o).1 (E.ρ o).2 c::ds',by simpa using hd, ?_⟩
           rw[hV,hA']
           simpa using hc
        ·cases h
     |_=>cases h
theorem Fb7 {h:D3} {t:Ty} {y:El t} {ok:Nat→Prop} {ds:List Value} (hi:Imm ok w t y ds):(B1 t y).length=t.sz:=by
 have:=(P2 (E:=⟨λ_=> (0,0),λ_=>False,ok⟩) (h:=h) hi).length
 rw[this,hi.len]
theorem C08:∀(ms:List Mref) (ps:List Po) (p:List Upd×List Upd),p0 ms ps=some p→∀x∈p.1++p.2,x.name∈ms.flatMap Mref.names
 | [],[],p,h,x,hx=>by cases h;cases hx
 | [],_::_,p,h,x,hx=>by cases h
 |_::_,[],p,h,x,hx=>by cases h
 |m::ms,q::ps,p,h,x,hx=>by
  simp only[p0]at h
  split at h
  ·rename_i a ha
   split at h
   ·rename_i b hb
    cases h
    have ih:=C08 ms ps b hb
    have h1:∀y∈a.1++a.2,y.name∈m.names:=by
     intro y hy
     unfold N1 at ha
     split at ha
     ·split at ha
      ·cases ha;simp at hy;subst hy;simp[Mref.names,Upd.name]
      ·cases ha
     ·split at ha
      ·rename_i o e t n t' ys ht
       cases hq:Nat.beq ys.length n with
       |false=>rw[hq]at ha;cases ha
       |true=>rw[hq]at ha;cases ha;simp at hy;subst hy;simp[Mref.names,Upd.name]
      ·cases ha
     ·cases ha;simp at hy;subst hy;simp[Mref.names,Upd.name]
     ·rename_i t' ys
      cases hq:Nat.beq ys.length 0 with
      |false=>rw[hq]at ha;cases ha
      |true=>rw[hq]at ha;cases ha;simp at hy
     ·cases ha;simp at hy
     ·cases ha
    simp only[G44,G34]at*
    rcases hx with(hx|hx)|(hx|hx)
    ·exact .inl (h1 x (.inl hx))
    ·exact .inr (ih x (.inl hx))
    ·exact .inl (h1 x (.inr hx))
    ·exact .inr (ih x (.inr hx))
   ·cases h
  ·cases h
theorem Ak0 : ∀ (ms : List Mref) (ps : List Po) (p : List Upd × List Upd) {h : D3} {ds : List MD}, p0 ms ps = some p → MRefs E h ms ds →
    ∀ x ∈ p.2, ∃ n e t xs own, x = .o n .dead ∧ B3 h n = some (.row e t xs own)
  | [], [], p, _, _, h, _, x, hx => by cases h; cases hx
  | [], _ :: _, p, _, _, h, _, x, hx => by cases h
  | _ :: _, [], p, _, _, h, _, x, hx => by cases h
  | m :: ms, q :: ps, p, hh, _, h, hm, x, hx => by
    simp only [p0] at h
    split at h
    · rename_i a ha
      split at h
      · rename_i b hb
        cases h
        simp only [List.mem_append] at hx
        rcases hx with hx | hx
        · cases hm with
          | box g1 g2 g3 g4 => cases q <;> simp only [N1] at ha <;> first | cases ha | skip
                               split at ha
                               · cases ha; cases hx
                               · cases ha
          | row g1 g2 g3 => cases q with
            | gone => simp only [N1] at ha; cases ha; simp at hx; subst hx; exact ⟨_, _, _, _, _, rfl, g2⟩
            | row t' ys =>
              simp only [N1] at ha
              split at ha
              · cases hq : Nat.beq ys.length _ with
                | false => rw [hq] at ha; cases ha
                | true => rw [hq] at ha; cases ha; cases hx
              · cases ha
            | box _ _ => simp only [N1] at ha; cases ha
            | tree _ _ => simp only [N1] at ha; cases ha
          | rnil g2 g3 => cases q with
            | gone => simp only [N1] at ha; cases ha; simp at hx; subst hx; exact ⟨_, _, _, _, _, rfl, g2⟩
            | row t' ys =>
              simp only [N1] at ha
              split at ha
              · cases hq : Nat.beq ys.length 0 with
                | false => rw [hq] at ha; cases ha
                | true => rw [hq] at ha; cases ha; cases hx
              · cases ha
            | box _ _ => simp only [N1] at ha; cases ha
            | tree _ _ => simp only [N1] at ha; cases ha
          | none g => cases q with
            | gone => simp only [N1] at ha; cases ha; cases hx
            | row t' ys =>
              simp only [N1] at ha
              cases hq : Nat.beq ys.length 0 with
              | false => rw [hq] at ha; cases ha
              | true => rw [hq] at ha; cases ha; cases hx
            | box _ _ => simp only [N1] at ha; cases ha
            | tree _ _ => simp only [N1] at ha; cases ha
        · cases hm with
          | box g1 g2 g3 g4 => exact Ak0 ms ps b hb g4 x hx
          | row g1 g2 g3 => exact Ak0 ms ps b hb g3 x hx
          | rnil g2 g3 => exact Ak0 ms ps b hb g3 x hx
          | none g => exact Ak0 ms ps b hb g x hx
      · cases h
    · cases h
def mn:List Mref→List MD→List Nat
 |m::ms,d::ds=> (match d with| .nil=> []|_=>m.names)++mn ms ds
 |_,_=> []
theorem Go4 {h:D3} {ms:List Mref} {ds:List MD} (p:MRefs E h ms ds):∀n∈mn ms ds,n∈ms.flatMap Mref.names:=by
 induction p with
 |nil=>intro n hn;cases hn
 |box _ _ _ _ ih=>
  intro n hn
  simp only[mn,G34,G44]at*
  exact hn.imp id (ih n)
 |row _ _ _ ih=>
  intro n hn
  simp only[mn,G34,G44]at*
  exact hn.imp id (ih n)
 |rnil _ _ ih=>
  intro n hn
  simp only[mn,G60,G44,G34]at*
  exact .inr (ih n hn)
 |none _ ih=>
  intro n hn
  simp only[mn,G60,G44,G34]at*
  exact .inr (ih n hn)
theorem Go5 {h:D3} {ms:List Mref} {ds:List MD} (p:MRefs E h ms ds):∀b∈ds.flatMap MD.blk,∃o∈mn ms ds,E.has o∧C6 h o∧b=(E.ρ o).1:=by
 induction p with
 |nil=>intro b hb;simp at hb
 |@box o t cs ms ds a b c _ ih=>
  intro x hx
  simp only[G44,MD.blk,Hb8,G60,G67]at hx
  rcases hx with rfl|hx
  ·exact⟨o,by simp[mn,Mref.names],a,by unfold C6;rw[b];trivial,rfl⟩
  ·obtain⟨o',h1,h2⟩:=ih x hx
   exact⟨o',by simp only[mn,G34];exact .inr h1,h2⟩
 |@row o e t xs c ms ds a b _ ih=>
  intro x hx
  simp only[G44,MD.blk,Hb8,G60,G67]at hx
  rcases hx with rfl|hx
  ·exact⟨o,by simp[mn,Mref.names],a,by unfold C6;rw[b];trivial,rfl⟩
  ·obtain⟨o',h1,h2⟩:=ih x hx
   exact⟨o',by simp only[mn,G34];exact .inr h1,h2⟩
 |rnil a _ ih=>
  intro x hx
  simp only[G44,MD.blk,G60]at hx
  obtain⟨o',h1,h2⟩:=ih x hx
  exact⟨o',by simpa [mn]using h1,h2⟩
 |none _ ih=>
  intro x hx
  simp only[G44,MD.blk,G60]at hx
  obtain⟨o',h1,h2⟩:=ih x hx
  exact⟨o',by simpa [mn]using h1,h2⟩
theorem C09 {ok':Nat→Prop} {E2:Env} (hρ:E2.ρ=E.ρ) (hhas:E2.has=E.has) (hok:∀b,ok' b→E2.ok b):∀(ms:List Mref) (ps:List Po) (p:List Upd×List Upd) {h:D3} {ds:List MD},p0 ms ps=some p→MRefs E h ms ds→PostOk ok' w' ds ps→
  E8 (ms.flatMap Mref.names)=true→∀n ob',Upd.o n ob'∈p.1→∃ob,B3 h n=some ob∧E3 ob'=E3 ob∧C6 h n∧((∀h',ObjRel E2 h' w' n ob')∨(ob'=ob∧n∉mn ms ds))
 | [],[],p,_,_,h,_,_,_,n,ob',hx=>by cases h;cases hx
 | [],_::_,p,_,_,h,_,_,_,n,ob',hx=>by cases h
 |_::_,[],p,_,_,h,_,_,_,n,ob',hx=>by cases h
 |m::ms,q::ps,p,hh,_,h,hm,hpo,hdis,n,ob',hx=>by
  simp only[p0]at h
  split at h
  ·rename_i a ha
   split at h
   ·rename_i b hb
    cases h
    simp only[G34]at hx
    rw[G44]at hdis
    obtain⟨hd1,hd2,hd3⟩:=F4 hdis
    have later:∀{d ds'},MRefs E hh ms ds'→PostOk ok' w' ds' ps→(Upd.o n ob'∈b.1)→(∀k∈(match d with|MD.nil=> []|_=>m.names),k∈m.names)→
      ∃ob,B3 hh n=some ob∧E3 ob'=E3 ob∧C6 hh n∧((∀h',ObjRel E2 h' w' n ob')∨(ob'=ob∧n∉mn (m::ms) (d::ds'))):=by
     intro d ds' g1 g2 g3 g4
     obtain⟨ob,k1,k2,k3,k4⟩:=C09 hρ hhas hok ms ps b hb g1 g2 hd2 n ob' g3
     refine⟨ob,k1,k2,k3,k4.imp id λ⟨e1,e2⟩=> ⟨e1,λhk=> ?_⟩⟩
     have hnm:=C08 ms ps b hb _ (G34.2 (.inl g3))
     simp only[mn,G34]at hk
     rcases hk with hk|hk
     ·exact hd3 n (g4 n hk) hnm
     ·exact e2 hk
    cases hm with
    |@box o t cs _ ds' g1 g2 g3 g4=>
     cases hpo with
     |@box _ _ _ y _ _ vs p1 p2 p3=>
      rcases hx with hx|hx
      ·simp only[N1]at ha
       split at ha
       ·rename_i ht
        subst ht
        cases ha
        simp only[G48]at hx
        injection hx with e1 e2
        subst e1;subst e2
        refine⟨_,g2, ?_,by unfold C6;rw[g2];trivial, .inl λh'=> ⟨by rw[hhas];exact g1,vs,P2 (p1.mono hok (λ_ _=>rfl)), ?_⟩⟩
        ·have:=Fb7 (h:=[]) p1
         simp only[E3,this,g3]
        ·rw[hρ];exact p2
       ·cases ha
      ·exact later g4 p3 hx (λk hk=>hk)
     |gone p3=>
      rcases hx with hx|hx
      ·simp only[N1]at ha;cases ha
      ·exact later g4 p3 hx (λk hk=>hk)
    |@row o e t xs c _ ds' g1 g2 g3=>
     cases hpo with
     |@row _ _ _ _ ys _ _ p1 p2 p3=>
      rcases hx with hx|hx
      ·simp only[N1]at ha
       split at ha
       ·rename_i ht
        subst ht
        cases hq:Nat.beq ys.length xs.length with
        |false=>rw[hq]at ha;cases ha
        |true=>
         rw[hq]at ha
         cases ha
         simp only[G48]at hx
         injection hx with e1 e2
         subst e1;subst e2
         refine⟨_,g2, ?_,by unfold C6;rw[g2];trivial, .inl λh'=> ⟨.inl (by rw[hhas];exact g1),λ_=> ⟨?_,λ_=>by rw[hρ];exact p2,λe=>by cases e⟩⟩⟩
         ·simp only[E3,G35 hq]
         ·rw[hρ];exact p1.mono hok (λ_ _=>rfl) rfl
       ·cases ha
      ·exact later g3 p3 hx (λk hk=>hk)
     |gone p3=>
      rcases hx with hx|hx
      ·simp only[N1]at ha;cases ha;cases hx
      ·exact later g3 p3 hx (λk hk=>hk)
    |@rnil o e t _ ds' g2 g3=>
     cases hpo with
     |noneT p3=>simp only[N1]at ha;cases ha
     |@none t' ys _ _ p3=>
      rcases hx with hx|hx
      ·simp only[N1]at ha
       split at ha
       ·rename_i ht
        subst ht
        cases hq:Nat.beq ys.length 0 with
        |false=>rw[hq]at ha;cases ha
        |true=>
         rw[hq]at ha
         cases ha
         simp only[G48]at hx
         injection hx with e1 e2
         have hy:ys=[]:=G58.1 (G35 hq)
         subst hy
         subst e1;subst e2
         refine⟨_,g2,rfl,by unfold C6;rw[g2];trivial, .inr ⟨rfl,λhk=> ?_⟩⟩
         simp only[mn,G60]at hk
         exact hd3 n (by simp[Mref.names]) (Go4 g3 n hk)
       ·cases ha
      ·exact later g3 p3 hx (λk hk=>by cases hk)
     |gone p3=>
      rcases hx with hx|hx
      ·simp only[N1]at ha;cases ha;cases hx
      ·exact later g3 p3 hx (λk hk=>by cases hk)
    |@none _ ds' g=>
     cases hpo with
     |noneT p3=>simp only[N1]at ha;cases ha
     |@none t' ys _ _ p3=>
      rcases hx with hx|hx
      ·simp only[N1]at ha
       cases hq:Nat.beq ys.length 0 with
       |false=>rw[hq]at ha;cases ha
       |true=>rw[hq]at ha;cases ha;cases hx
      ·exact later g p3 hx (λk hk=>by cases hk)
     |gone p3=>
      rcases hx with hx|hx
      ·simp only[N1]at ha;cases ha;cases hx
      ·exact later g p3 hx (λk hk=>by cases hk)
   ·cases h
  ·cases h
theorem MRefs.stay {E':Env} {h h':D3} {ms:List Mref} {ds:List MD} (p:MRefs E h ms ds) (hρ:∀o∈ms.flatMap Mref.names,E'.ρ o=E.ρ o∧(E.has o→E'.has o)) (hh:∀o∈ms.flatMap Mref.names,B3 h' o=B3 h o):MRefs E' h' ms ds:=by
 induction p with
 |nil=>exact .nil
 |@box o t cs ms ds a b c _ ih=>
  have h1:=hρ o (by simp[Mref.names])
  have:=MRefs.box (E:=E') (h:=h') (h1.2 a) ((hh o (by simp[Mref.names])).trans b) c (ih (λo ho=>hρ o (by simp only[G44,G34];exact .inr ho)) (λo ho=>hh o (by simp only[G44,G34];exact .inr ho)))
  rwa [h1.1]at this
 |@row o e t xs c ms ds a b _ ih=>
  have h1:=hρ o (by simp[Mref.names])
  have:=MRefs.row (E:=E') (h:=h') (c:=c) (h1.2 a) ((hh o (by simp[Mref.names])).trans b) (ih (λo ho=>hρ o (by simp only[G44,G34];exact .inr ho)) (λo ho=>hh o (by simp only[G44,G34];exact .inr ho)))
  rwa [h1.1]at this
 |@rnil o e t ms ds b _ ih=>
  exact .rnil ((hh o (by simp[Mref.names])).trans b) (ih (λo ho=>hρ o (by simp only[G44,G34];exact .inr ho)) (λo ho=>hh o (by simp only[G44,G34];exact .inr ho)))
 |none _ ih=>exact .none (ih (λo ho=>hρ o (by simpa [Mref.names]using ho)) (λo ho=>hh o (by simpa [Mref.names]using ho)))
theorem Er5:∀(ms:List Mref) (ps:List Po) (p:List Upd×List Upd) {h:D3} {ds:List MD},p0 ms ps=some p→MRefs E h ms ds→∀b∈Ap1 ds ps,∃n,Upd.o n .dead∈p.2∧E.has n∧b=(E.ρ n).1∧∃e t xs,B3 h n=some (.row e t xs true)
 | [],[],p,_,_,h,hm,b,hb=>by cases hm;cases hb
 | [],_::_,p,_,_,h,_,b,hb=>by cases h
 |_::_,[],p,_,_,h,_,b,hb=>by cases h
 |m::ms,q::ps,p,hh,_,h,hm,b,hb=>by
  simp only[p0]at h
  split at h
  ·rename_i a ha
   split at h
   ·rename_i b' hb'
    cases h
    have later:∀{ds'},MRefs E hh ms ds'→b∈Ap1 ds' ps→∃n,Upd.o n .dead∈a.2++b'.2∧E.has n∧b=(E.ρ n).1∧∃e t xs,B3 hh n=some (.row e t xs true):=by
     intro ds' g1 g2
     obtain⟨n,k1,k2⟩:=Er5 ms ps b' hb' g1 b g2
     exact⟨n,G34.2 (.inr k1),k2⟩
    cases q with
    |gone=>
     cases hm with
     |box g1 g2 g3 g4=>simp only[N1]at ha;cases ha
     |@row o e t xs c _ ds' g1 g2 g3=>
      simp only[N1]at ha
      cases ha
      simp only[Ap1,MD.blk,G84,G67]at hb
      rcases hb with rfl|hb
      ·exact⟨o,by simp,g1,rfl,e,t,xs,g2⟩
      ·exact later g3 hb
     |rnil g2 g3=>simp only[Ap1,MD.blk,G60]at hb;exact later g3 hb
     |none g=>simp only[Ap1,MD.blk,G60]at hb;exact later g hb
    |box t' y=>cases hm<;> (simp only[Ap1]at hb;first|exact later (by assumption) hb)
    |row t' ys=>cases hm<;> (simp only[Ap1]at hb;first|exact later (by assumption) hb)
    |tree t' ys=>cases hm<;> (simp only[N1]at ha;cases ha)
   ·cases h
  ·cases h
theorem C10:∀(ms:List Mref) (ps:List Po) (p:List Upd×List Upd) {h:D3} {ds:List MD},p0 ms ps=some p→MRefs E h ms ds→∀o∈mn ms ds,o∈p.1.map Upd.name∨o∈p.2.map Upd.name
 | [],[],p,_,_,h,hm,b,hb=>by cases hm;cases hb
 | [],_::_,p,_,_,h,_,b,hb=>by cases h
 |_::_,[],p,_,_,h,_,b,hb=>by cases h
 |m::ms,q::ps,p,hh,_,h,hm,b,hb=>by
  simp only[p0]at h
  split at h
  ·rename_i a ha
   split at h
   ·rename_i b' hb'
    cases h
    have later:∀{ds'},MRefs E hh ms ds'→b∈mn ms ds'→b∈(a.1++b'.1).map Upd.name∨b∈(a.2++b'.2).map Upd.name:=by
     intro ds' g1 g2
     rw[G64,G64]
     exact(C10 ms ps b' hb' g1 b g2).imp (λh=>G34.2 (.inr h)) (λh=>G34.2 (.inr h))
    cases hm with
    |@box o t cs _ ds' g1 g2 g3 g4=>
     simp only[mn,Mref.names,G84,G67]at hb
     rcases hb with rfl|hb
     ·cases q with
      |box t' y=>
       simp only[N1]at ha
       split at ha
       ·cases ha;exact .inl (by simp[Upd.name])
       ·cases ha
      |row _ _=>simp only[N1]at ha;cases ha
      |tree _ _=>simp only[N1]at ha;cases ha
      |gone=>simp only[N1]at ha;cases ha
     ·exact later g4 hb
    |@row o e t xs c _ ds' g1 g2 g3=>
     simp only[mn,Mref.names,G84,G67]at hb
     rcases hb with rfl|hb
     ·cases q with
      |box _ _=>simp only[N1]at ha;cases ha
      |tree _ _=>simp only[N1]at ha;cases ha
      |row t' ys=>
       simp only[N1]at ha
       split at ha
       ·cases hq:Nat.beq ys.length xs.length with
        |false=>rw[hq]at ha;cases ha
        |true=>rw[hq]at ha;cases ha;exact .inl (by simp[Upd.name])
       ·cases ha
      |gone=>simp only[N1]at ha;cases ha;exact .inr (by simp[Upd.name])
     ·exact later g3 hb
    |rnil g2 g3=>simp only[mn,G60]at hb;exact later g3 hb
    |none g=>simp only[mn,G60]at hb;exact later g hb
   ·cases h
  ·cases h
theorem Ci0 {us:List Upd} {st:St} {n:Nat} (hn:n∉us.map Upd.name) (h:C6 (st.upds us).heap n):C6 st.heap n:=by
 unfold C6 at h ⊢
 rwa [G7 us st n hn]at h
theorem Dg6:∀(ms:List Mref) (ps:List Po) (p:List Upd×List Upd),p0 ms ps=some p→∀n ob,Upd.o n ob∈p.1→ob.tr=false
 | [],[],p,h,n,ob,hx=>by cases h;cases hx
 | [],_::_,p,h,n,ob,hx=>by cases h
 |_::_,[],p,h,n,ob,hx=>by cases h
 |m::ms,q::ps,p,h,n,ob,hx=>by
  simp only[p0]at h
  split at h
  ·rename_i a ha
   split at h
   ·rename_i b hb
    cases h
    simp only[G34]at hx
    rcases hx with hx|hx
    ·unfold N1 at ha
     split at ha
     ·split at ha
      ·cases ha;simp at hx;rw[hx.2];rfl
      ·cases ha
     ·split at ha
      ·rename_i o e t n t' ys ht
       cases hq:Nat.beq ys.length n with
       |false=>rw[hq]at ha;cases ha
       |true=>rw[hq]at ha;cases ha;simp at hx;rw[hx.2];rfl
      ·cases ha
     ·cases ha;cases hx
     ·rename_i t' ys
      cases hq:Nat.beq ys.length 0 with
      |false=>rw[hq]at ha;cases ha
      |true=>rw[hq]at ha;cases ha;cases hx
     ·cases ha;cases hx
     ·cases ha
    ·exact Dg6 ms ps b hb n ob hx
   ·cases h
  ·cases h
theorem Be4:∀(u:List Upd) (s:St) (n:Nat),n∈u.map Upd.name→∃ob,Upd.o n ob∈u∧B3 (s.upds u).heap n=some ob
 | [],s,n,h=>by cases h
 | .o m o::u,s,n,h=>by
  show∃ob,_∧B3 ((s.upd (.o m o)).upds u).heap n=_
  by_cases e:n∈u.map Upd.name
  ·obtain⟨ob,h1,h2⟩:=Be4 u (s.upd (.o m o)) n e
   exact⟨ob,G38 _ h1,h2⟩
  ·rw[G7 u _ n e]
   have:n=m:=by
    cases h with
    |head=>rfl
    |tail _ h=>exact absurd h e
   subst this
   exact⟨o,G39,by show B3 (hset s.heap _ _) _=_;rw[A9,G45 rfl]⟩
theorem TF.upds {u:List Upd} (h:TF st.heap w K) (hu:∀n ob,Upd.o n ob∈u→ob.tr=false) (hold:∀n ob,Upd.o n ob∈u→∀o,B3 st.heap n=some o→o.tr=false):TF (st.upds u).heap w K:=by
 obtain⟨β,hβ⟩:=h
 have old:∀n o,B3 (st.upds u).heap n=some o→o.tr=true→B3 st.heap n=some o:=λn o hg ho=>by
  by_cases e:n∈u.map Upd.name
  ·obtain⟨ob,h1,h2⟩:=Be4 u st n e
   rw[h2]at hg;cases hg
   rw[hu n _ h1]at ho;cases ho
  ·rwa [G7 u st n e]at hg
 have new:∀n o,B3 st.heap n=some o→o.tr=true→B3 (st.upds u).heap n=some o:=λn o hg ho=>by
  rw[G7 u st n (λe=>by
   obtain⟨ob,h1⟩:=At5 e
   rw[hold n ob h1 o hg]at ho;cases ho)]
  exact hg
 refine⟨β,hβ.less old λn hn=> ?_⟩
 by_cases e:n∈u.map Upd.name
 ·obtain⟨ob,h1,h2⟩:=Be4 u st n e
  rw[h2];rfl
 ·rwa [G7 u st n e]
theorem Ex8 {h:D3} {n:Nat} {o:Obj} (hl:C6 h n) (hg:B3 h n=some o):o.tr=false:=by
 unfold C6 at hl
 rw[hg]at hl
 cases o<;>first|rfl|exact hl.elim
theorem Gf1 {cfg:Cfg} {o:Oper} (hG:Ok P cfg) (hX:RelX E st saved a S w w0 K) {c:Call} {nm:Nat→Nat} {s:MSpec} {vs:List V1} {l1:List Loc} (ho:o.op= .call c) (hc:c.callee= .value (.func f)) (hs:look cfg.mspec f=some s)
  (hv:All2 (V1Rel E st.heap w) vs (c.args.toList.map a.eval)) (h1:(S0 nm s vs [] []).run st Kk l1=some r):GoesX P o a w st saved S w0 K Kk r:=by
 obtain⟨wb,K1,hD,hT0,hB⟩:=hX
 have h:=hB.rebase0
 have hT:=hB.now hT0
 have hD:=hD.trans hB.drift
 ·obtain⟨out,ps,p,ns,ms,l2,h3,hns,hdis,hap,hpost,hcall⟩:=Fb6 (P:=P) (f:=f) s vs [] [] l1 h1 (λn hn=>by cases hn)
  simp only[G60]at h3 hns hdis hap hpost hcall
  have hlt:∀b,okX E K1 st.heap ns b→b<w.heap.size:=by
   rintro b ((hb|⟨n,hn,⟨e,t,xs,own,hg⟩,hh,rfl⟩)|⟨_,hm⟩)
   ·exact h.bo b hb
   ·exact h.bd n (by rw[hg];rfl) hh
   ·exact(h.kp b hm.1).1
  have hsep:∀o∈ms.flatMap Mref.names,C6 st.heap o→E.has o→¬okX E K1 st.heap ns (E.ρ o).1:=by
   rintro o ho hl hh ((hb|⟨n,hn,⟨e',t,xs,own,hg⟩,hh',e⟩)|⟨_,hm⟩)
   ·exact(h.dk o hl hh).1 hb
   rotate_left
   ·exact(h.dk o hl hh).2 hm.1
   ·have hne:o≠n:=λe=>Er4 hap hn (e▸ho)
    cases own with
    |true=>exact h.dj o n hne hl (by unfold C6;rw[hg];trivial) hh hh' e
    |false=>exact(h.dk o hl hh).1 (e▸((h.ob n _ hg).2 hh').2.2 rfl)
  obtain⟨ds,hmr,hC⟩:=hcall h hT (λg hg=> (hD.errK g hg).1) (λb hb=>hb) hsep hv .nil (hG.mspec f s hs (okX E K1 st.heap ns) w hlt hD.err)
  simp only[G60]at hmr hC
  have hex:=Bj4 (P:=P) (w:=w) (ρ:=a.eval) ho hc (cap:= #[]) rfl (hG.enterM f (by rw[hs];rfl))
  have harr:(c.args.toList.map a.eval).toArray=c.args.map a.eval++ #[]:=by
   apply G65.1;simp
  rw[harr]at hC
  unfold Gm6 at h3
  obtain⟨hfr,l3,h4⟩:=Bo2 _ _ _ h3
  have fin:∀(u:List Upd) (l4:List Loc),(U2 (u++p.2++p.1++(I7 nm 0 out).2) (X8 (I7 nm 0 out).1)).run st Kk l4=some r→FrzOk st.heap u→(∀x∈u,x.name∈ns)→
    (∀(good:Nat→Prop) (w':World),(∀(Vs:List Value) (bs:List Nat),ResRel (λb=>okX E K1 st.heap ns b∨good b) w' out Vs bs→ResRel (λb=>okU E u b∨good b) w' out Vs bs)∧
     (∀ds,PostOk (λb=>okX E K1 st.heap ns b∨good b) w' ds ps→PostOk (λb=>okU E u b∨good b) w' ds ps))→GoesX P o a w st saved S w0 K Kk r:=by
   intro u l4 h5 hfrz huns himp
   obtain⟨hd,hK⟩:=S6 h5
   rw[G64,G64,G64]at hd
   obtain⟨hd123,hd4,hdj4⟩:=F4 hd
   obtain⟨hd12,hd3,hdj3⟩:=F4 hd123
   obtain⟨hd1,hd2,hdj2⟩:=F4 hd12
   refine⟨_,_,_,hK,λQ next hnx=> ?_⟩
   unfold Oper.wp
   rw[hex,Oper.upon_enter]
   refine Calls.mono hC λe w' hR=> ?_
   obtain⟨V,rfl,hret⟩:=hR
   obtain⟨good,Vs,bs,hgood,hres,hnd,hbs,rfl,hpo⟩:=hret.res
   obtain⟨E1,r1,e1,e2,e3⟩:=h.frzs u hfrz hd1
   have hnm1:∀o∈ms.flatMap Mref.names,o∉u.map Upd.name:=λo ho hu=>by
    obtain⟨x,hx,e⟩:=G79.1 hu
    exact Er4 hap (huns x hx) (e▸ho)
   have hmr1:MRefs E1 (st.upds u).heap ms ds:=hmr.stay (λo ho=> ⟨by rw[e1],λhh=>by rw[e2];exact hh⟩) (λo ho=>G7 u st o (hnm1 o ho))
   have hk2:=Ak0 ms ps p hpost hmr1
   have r2:=r1.kills p.2 hd2 hk2
   have dead2:∀n∈p.2.map Upd.name,¬C6 ((st.upds u).upds p.2).heap n:=by
    intro n hn hl
    obtain⟨ob,hob⟩:=At5 hn
    obtain⟨m,e',t',xs',own',e4,_⟩:=hk2 _ hob
    injection e4 with e5 e6
    subst e5;subst e6
    unfold C6 at hl
    rw[W8 p.2 (st.upds u) _ _ hd2 hob]at hl
    exact hl
   have live2:∀n,C6 ((st.upds u).upds p.2).heap n→n∉p.2.map Upd.name∧C6 (st.upds u).heap n:=λn hl=> ⟨λhn=>dead2 n hn hl,Ci0 (λhn=>dead2 n hn hl) hl⟩
   obtain⟨himp1,himp2⟩:=himp good w'
   have hpo2:=himp2 ds hpo
   have hposts:=C09 (E:=E1) (E2:=⟨E1.ρ,E1.has,λb=>E1.ok b∨good b⟩) rfl rfl (ok':=λb=>okU E u b∨good b) (λb hb=>hb.imp (λhb=> (e3 b).1 hb) id) ms ps p hpost hmr1 hpo2 hdis
   have n13:∀n∈p.1.map Upd.name,n∉p.2.map Upd.name:=λn hn hn2=>hdj3 n (G34.2 (.inr hn2)) hn
   have hblk:=Go5 hmr1
   have r3a:=r2.afterM p.1 (λb=>b∈ds.flatMap MD.blk) hd3 (λn ob' hx=>by
     obtain⟨ob,k1,k2,k3,_⟩:=hposts n ob' hx
     have hn:n∈p.1.map Upd.name:=G79.2 ⟨_,hx,rfl⟩
     refine⟨ob,(G7 p.2 _ n (n13 n hn)).trans k1,k2, ?_⟩
     unfold C6 at k3 ⊢
     rwa [G7 p.2 _ n (n13 n hn)]) (Dg6 ms ps p hpost) (λn hl hh hCn=>by
     obtain⟨o',m1,m2,m3,m4⟩:=hblk _ hCn
     obtain⟨g1,g2⟩:=live2 n hl
     have e5:n=o':=by
      rcases Classical.em (n=o')with e|e
      ·exact e
      ·exact absurd m4 (r1.dj n o' e g2 m3 hh m2)
     subst e5
     exact(C10 ms ps p hpost hmr1 n m1).resolve_right g1) (λb hb=>by
     obtain⟨o',m1,m2,m3,rfl⟩:=hblk _ hb
     exact r1.dk o' m3 m2) hret.size (λb hb hnb=>hret.same b hb hnb) hret.room hret.os hret.tape hret.put good hgood (λn ob' hx h' hst=>by
     obtain⟨ob,k1,k2,k3,k4⟩:=hposts n ob' hx
     have hn:n∈p.1.map Upd.name:=G79.2 ⟨_,hx,rfl⟩
     rcases k4 with k4|⟨rfl,k4⟩
     ·exact k4 h'
     ·have hg2:B3 ((st.upds u).upds p.2).heap n=some ob':=(G7 p.2 _ n (n13 n hn)).trans k1
      refine(r2.ob n ob' hg2).step hst (by rw[hg2];rfl) (λhh=>hh) (λhh=>hret.same _ (r2.bd n (by rw[hg2];rfl) hh) (λhb=> ?_))
      obtain⟨o',m1,m2,m3,m4⟩:=hblk _ hb
      have hne:n≠o':=λe=>k4 (e▸m1)
      exact r1.dj n o' hne k3 m3 hh m2 m4)
   have live3:∀n,C6 (((st.upds u).upds p.2).upds p.1).heap n→C6 ((st.upds u).upds p.2).heap n:=by
    intro n hl
    by_cases hn:n∈p.1.map Upd.name
    ·obtain⟨ob',hob⟩:=At5 hn
     obtain⟨ob,k1,k2,k3,_⟩:=hposts n ob' hob
     unfold C6 at k3 ⊢
     rwa [G7 p.2 _ n (n13 n hn)]
    ·exact Ci0 hn hl
   have t1:=hT.frzs u hfrz hd1
   have t2:TF ((st.upds u).upds p.2).heap w K1:=t1.upds (λn ob hx=>by
     obtain⟨m,e',t',xs',own',e4,_⟩:=hk2 _ hx
     injection e4 with e5 e6
     rw[e6];rfl) (λn ob hx o hg=>by
     obtain⟨m,e',t',xs',own',e4,hm⟩:=hk2 _ hx
     injection e4 with e5 e6
     rw[e5]at hg
     rw[hg]at hm;cases hm;rfl)
   have t3:=r3a.now (t2.upds (Dg6 ms ps p hpost) (λn ob' hx o hg=>by
     obtain⟨ob,k1,k2,k3,_⟩:=hposts n ob' hx
     have hn:n∈p.1.map Upd.name:=G79.2 ⟨_,hx,rfl⟩
     rw[G7 p.2 _ n (n13 n hn)]at hg
     exact Ex8 k3 hg))
   have r3:=r3a.rebase0
   obtain⟨E',K',r4,t4,g4,hV,_⟩:=Bo0 out 0 (ok:=λb=>okU E u b∨good b) r3 t3 (λn hn=>by
    rw[G7 p.1 _ n (λhm=>hdj4 n (G34.2 (.inr hm)) hn),G7 p.2 _ n (λhm=>hdj4 n (G34.2 (.inl (G34.2 (.inr hm)))) hn),G7 u st n (λhm=>hdj4 n (G34.2 (.inl (G34.2 (.inl hm)))) hn)]
    exact hfr n hn) hd4 (himp1 _ _ hres) (λb hb=>hb.imp (λhb=> (e3 b).1 hb) id) hnd (λb hb=>by
     rcases hbs b hb with⟨g1,g2,g3⟩|hgone
     ·refine⟨λn hl hh=> ?_, ?_,λhk=> ?_,g2⟩
      ·have:=r2.bd n (J4 (live3 n hl)) hh
       exact Nat.ne_of_lt (G80 this g1)
      ·rintro(hk|hk)
       ·exact absurd (r1.bo b hk) (Nat.not_lt.2 g1)
       ·exact g3 hk
      ·exact absurd (r1.kp b hk).1 (Nat.not_lt.2 g1)
     ·obtain⟨n,k1,k2,rfl,e',t',xs',k3⟩:=Er5 ms ps p hpost hmr1 b hgone
      have hln:C6 (st.upds u).heap n:=by unfold C6;rw[k3];trivial
      obtain⟨d1,d2⟩:=r1.dk n hln k2
      have hbd:=r1.bd n (by rw[k3];rfl) k2
      refine⟨λm hl hh=> ?_, ?_,d2,G80 hbd hret.size⟩
      ·obtain⟨g1,g2⟩:=live2 m (live3 m hl)
       have hne:m≠n:=λe=>g1 (by rw[e];exact G79.2 ⟨_,k1,rfl⟩)
       exact r1.dj m n hne g2 hln hh k2
      ·rintro(hk|hk)
       ·exact d1 hk
       ·exact absurd hbd (Nat.not_lt.2 (hgood _ hk).1))
   refine hnx _ _ E' ?_
   rw[H3,H3,H3]
   exact RelX.put ⟨w',K',(hD.trans r3a.drift).trans g4.dr,t4,r4⟩ o.dst (Bo1 hV)
  cases hsh:(S5 out|| !ps.all Po.flat)with
  |true=>
   rw[hsh]at h4
   simp only[G52]at h4
   obtain⟨u,l4,h5,hfrz,hnames⟩:=B56 _ _ _ h4
   have hmem:∀n∈ns,n∈u.map Upd.name:=λn hn=>by rw[hnames];exact Bj3 ns n hn
   have hsub:∀b,okX E K1 st.heap ns b→okU E u b:=by
    rintro b ((hb|⟨n,hn,_,hh,rfl⟩)|⟨⟨n,hn,e,t,xs,q,hg⟩,_⟩)
    ·exact .inl hb
    rotate_left
    ·obtain⟨x,hx,hxn⟩:=G79.1 (hmem n hn)
     obtain⟨o',e',t',xs',own',e1,hg'⟩:=hfrz _ hx
     rw[e1]at hxn
     have e2:o'=n:=hxn
     rw[e2,hg]at hg';cases hg'
    ·obtain⟨x,hx,hxn⟩:=G79.1 (hmem n hn)
     obtain⟨n',ob⟩:=x
     have e:n'=n:=hxn
     subst e
     exact .inr ⟨n',ob,hx,hh,rfl⟩
   refine fin u l4 h5 hfrz (λx hx=> ?_) λgood w'=> ⟨λVs bs hres=>hres.imp λ_ _ rc _ v bs hrc=>hrc.mono λb hb=>hb.imp (hsub b) id,λds hp=>hp.mono λb hb=>hb.imp (hsub b) id⟩
   have:x.name∈B45 ns:=by rw[←hnames];exact G79.2 ⟨x,hx,rfl⟩
   exact Dg5 ns _ this
  |false=>
   rw[hsh]at h4
   simp only[G72]at h4
   simp only[Bool.or_eq_false_iff,Bool.not_eq_false']at hsh
   refine fin [] l3 h4 (λx hx=>by cases hx) (λx hx=>by cases hx) λgood w'=> ⟨λVs bs hres=>hres.imp λx hx rc hrc v bs hr=>hr.flat ?_,λds hp=>hp.flat hsh.2⟩
   have hsh1:=hsh.1
   unfold S5 at hsh1
   have h6:=List.any_eq_false.1 hsh1 x hx
   have h7:x.2.any RC.shared=false:=by simpa using h6
   have:=List.any_eq_false.1 h7 rc hrc
   simpa using this
end
end Go.Vm
end
section
namespace Go.Vm
open Go
def Gf2 (h:D3) (u:List Upd):Prop:=∀n ob,Upd.o n ob∈u→ob.tr=false∧∀o,B3 h n=some o→o.tr=false
section
variable {st : St} {R : Type} {Kk : List Upd → VV → List Loc → Option R} {r : R}
theorem Er6:∀(u:List Upd) (k:RP) (l:List Loc),(Ep9 u k).run st Kk l=some r→Gf2 st.heap u∧∃l',k.run st Kk l'=some r
 | [],k,l,h=> ⟨(λn ob hx=>by cases hx),l,h⟩
 | .o n ob::u,k,l,h=>by
  simp only[Ep9]at h
  cases ht:ob.tr with
  |true=>rw[ht]at h;cases h
  |false=>
   rw[ht]at h
   simp only[G72,RP.run]at h
   have fin:∀{l1},(Ep9 u k).run st Kk l1=some r→(∀o,B3 st.heap n=some o→o.tr=false)→Gf2 st.heap (.o n ob::u)∧∃l',k.run st Kk l'=some r:=λh1 h2=>by
    obtain⟨h3,h4⟩:=Er6 u k _ h1
    refine⟨λm ob' hx=> ?_,h4⟩
    cases hx with
    |head=>exact⟨ht,h2⟩
    |tail _ hx=>exact h3 m ob' hx
   cases hg:B3 st.heap n with
   |none=>rw[hg]at h;exact fin h λo ho=>by rw[hg]at ho;cases ho
   |some x=>
    rw[hg]at h
    simp only at h
    cases hx:x.tr with
    |true=>rw[hx]at h;cases h
    |false=>
     rw[hx]at h
     exact fin h λo ho=>by rw[hg]at ho;cases ho;exact hx
theorem Gf3:∀(p:RP) (l:List Loc),(safe p).run st Kk l=some r→∃u v l',Kk u v l'=some r∧Gf2 st.heap u∧
  ∀{R2:Type} (K2:List Upd→VV→List Loc→Option R2) (l2:List Loc),∃l3,p.run st K2 l2=K2 u v l3:=by
 intro p
 induction p with
 |fail=>intro l h;cases h
 |done u v=>
  intro l h
  obtain⟨h1,l',h2⟩:=Er6 u _ l h
  exact⟨u,v,l',h2,h1,λK2 l2=> ⟨l2,rfl⟩⟩
 |rdT t k ih=>
  intro l h
  obtain⟨u,v,l',h1,h2,h3⟩:=ih _ _ h
  exact⟨u,v,l',h1,h2,λK2 l2=>h3 K2 _⟩
 |rdO n k ih=>
  intro l h
  obtain⟨u,v,l',h1,h2,h3⟩:=ih _ _ h
  exact⟨u,v,l',h1,h2,λK2 l2=>h3 K2 _⟩
 |ite b x y ihx ihy=>
  intro l h
  cases b with
  |true=>
   obtain⟨u,v,l',h1,h2,h3⟩:=ihx _ h
   exact⟨u,v,l',h1,h2,λK2 l2=>h3 K2 _⟩
  |false=>
   obtain⟨u,v,l',h1,h2,h3⟩:=ihy _ h
   exact⟨u,v,l',h1,h2,λK2 l2=>h3 K2 _⟩
 |opt o k ih=>
  intro l h
  cases o with
  |none=>cases h
  |some a=>
   obtain⟨u,v,l',h1,h2,h3⟩:=ih a _ h
   exact⟨u,v,l',h1,h2,λK2 l2=>h3 K2 _⟩
end
theorem GoesX.safe {P:Program} {o:Oper} {E:Env} {st:St} {saved:List (Nat×List VV)} {a:Act} {S:List (Array Value)} {w w0:World} {K:Keep} {R:Type} {Kk:List Upd→VV→List Loc→Option R} {r:R} {l:List Loc} {p:RP}
  (hX:RelX E st saved a S w w0 K) (hrun:(Vm.safe p).run st Kk l=some r)
  (hs:∀{w1 K1},RelE E st saved a S w w1 K1→∀(u:List Upd) (v:VV) (l0:List Loc),p.run st (λu v _=>some (u,v)) l0=some (u,v)→Goes P o a w st saved S w1 K1 (λu v _=>some (u,v)) (u,v)):
  GoesX P o a w st saved S w0 K Kk r:=by
 obtain⟨w1,K1,hD,hT,h⟩:=hX
 obtain⟨u,v,l',h1,h2,h3⟩:=Gf3 p l hrun
 obtain⟨l3,h4⟩:=h3 (λu v _=>some (u,v)) []
 obtain⟨u',v',_,h5,h6⟩:=hs h u v [] h4
 simp only[G43,Prod.mk.injEq]at h5
 obtain⟨rfl,rfl⟩:=h5
 refine⟨_,_,l',h1,λQ next hn=>h6 Q next λa' w' E' hr=>hn a' w' E' ⟨w1,K1,hD, ?_,hr⟩⟩
 have ht:=hT.upds (λn ob hx=> (h2 n ob hx).1) (λn ob hx=> (h2 n ob hx).2)
 cases o.dst<;>exact ht
theorem T3:∀(t:Ty) (x:El t),(B1 t x).length=t.sz
 | .int _,_=>rfl
 | .bool,_=>rfl
 | .str,_=>rfl
 | .slice _ _,_=>rfl
 | .nil,_=>rfl
 | .fld a r,x=>by simp[B1,Ty.sz,T3 a,T3 r]
theorem TElt.congr {w:World} {β γ:Nat→Option (Nat×Nat)}:∀{t:Ty} {f:Nat} {x:El t} {cs:List Value},(∀j,f≤j→j<f+t.sz→γ j=β j)→TElt w β t f x cs→TElt w γ t f x cs
 | .int _,_,_,_,_,h=>h
 | .bool,_,_,_,_,h=>h
 | .str,_,_,_,_,h=>h
 | .slice _ t,f,_,_,hb,h=>by
  obtain⟨hf,A,c,rfl,hc,hx⟩:=h
  have e:=hb f (G53 _) (by simp[Ty.sz])
  exact⟨hf,A,c,rfl,hc,by rw[e];exact hx⟩
 | .nil,_,_,_,_,h=>h
 | .fld a r,f,x,_,hb,h=>by
  obtain⟨c1,c2,rfl,h1,h2⟩:=h
  exact⟨c1,c2,rfl,h1.congr (λj h1 h2=>hb j h1 (by simp only[Ty.sz];omega)),h2.congr (λj h1 h2=>hb j (by omega) (by simp only[Ty.sz];omega))⟩
theorem Fb8 {w:World}:∀(t:Ty) (x y:El t) (n n':Nat) (cs cs':List Cell),s7 t x n cs=some (y,n',cs')→
  n'=n-t.sz∧cs'=cs.drop (t.sz-n)∧(∀{β:Nat→Option (Nat×Nat)} {f:Nat} {ds vs:List Value} {E:Env} {h:D3},TElt w β t f x ds→All2 (CellRel E h w) cs vs→TElt w β t f y (M3 n ds vs))∧
  ∀(j:Nat) (e:TypeId) (t2:Ty) (ys:List (El t2)),(B1 t x)[j]? =some (Cell.slc e t2 ys)→(B1 t y)[j]? =some (Cell.slc e t2 ys):=by
 have one_:∀{t:Ty} {β:Nat→Option (Nat×Nat)} {f:Nat} {x:El t} {n:Nat} {ds vs:List Value},t.sz=1→TElt w β t f x ds→(n≠0∨vs=[])→TElt w β t f x (M3 n ds vs):=by
  intro t β f x n ds vs hsz hx hn
  have hl:=hx.len
  rw[hsz]at hl
  match ds,hl with
  | [d],_=>
   cases n with
   |succ n=>simpa [M3]using hx
   |zero=>
    have hv:vs=[]:=hn.resolve_left (λh=>h rfl)
    subst hv
    simpa [M3]using hx
 intro t
 induction t with
 |nil=>
  intro x y n n' cs cs' h
  simp only[s7,G43,Prod.mk.injEq]at h
  obtain⟨_,rfl,rfl⟩:=h
  refine⟨by simp[Ty.sz],by simp[Ty.sz],λhx _=> ?_,λj e t2 ys hj=>by simp[B1]at hj⟩
  simp only[TElt]at hx ⊢
  subst hx
  simp[M3]
 |fld p q ihp ihq=>
  intro x y n n' cs cs' h
  simp only[s7]at h
  split at h
  ·rename_i y1 n1 cs1 h1
   split at h
   ·rename_i z1 n2 cs2 h2
    simp only[G43,Prod.mk.injEq]at h
    obtain⟨rfl,rfl,rfl⟩:=h
    obtain⟨e1,e2,e3,e4⟩:=ihp _ _ _ _ _ _ h1
    obtain⟨g1,g2,g3,g4⟩:=ihq _ _ _ _ _ _ h2
    subst e1;subst e2
    refine⟨by rw[g1];simp only[Ty.sz];omega,by rw[g2,List.drop_drop];congr 1;simp only[Ty.sz];omega,λ{β f ds vs E h} hx hv=> ?_,λj e t2 ys hj=> ?_⟩
    ·obtain⟨c1,c2,rfl,i1,i2⟩:=hx
     rw[At4,i1.len]
     exact⟨_,_,rfl,e3 i1 hv,g3 i2 (hv.drop _)⟩
    ·simp only[B1]at hj ⊢
     have l1:=T3 p x.1
     have l2:=T3 p y1
     by_cases hlt:j<p.sz
     ·rw[G51 (by omega)]at hj ⊢
      exact e4 j e t2 ys hj
     ·rw[G50 (by omega),l1]at hj
      rw[G50 (by omega),l2]
      exact g4 _ e t2 ys hj
   ·cases h
  ·cases h
 |int i=>
  intro x y n n' cs cs' h
  cases n with
  |succ n=>
   simp only[s7,G43,Prod.mk.injEq]at h
   obtain⟨rfl,rfl,rfl⟩:=h
   exact⟨by simp[Ty.sz],by simp[Ty.sz],λhx _=>one_ rfl hx (.inl (by omega)),λj e t2 ys hj=>hj⟩
  |zero=>cases cs with
   |nil=>
    simp only[s7,G43,Prod.mk.injEq]at h
    obtain⟨rfl,rfl,rfl⟩:=h
    exact⟨rfl,rfl,λhx hv=>by cases hv;exact one_ rfl hx (.inr rfl),λj e t2 ys hj=>hj⟩
   |cons c cs=>cases c with
    |int k m=>
     simp only[s7]at h
     by_cases e:i=k
     ·subst e
      simp only[G56,G52,G43,Prod.mk.injEq]at h
      obtain⟨rfl,rfl,rfl⟩:=h
      refine⟨rfl,rfl,λhx hv=> ?_,λj e t2 ys hj=>by cases j<;>simp[B1]at hj⟩
      cases hv with
      |cons hc _=>
       simp only[CellRel]at hc
       simp only[TElt]at hx ⊢
       subst hc;subst hx
       cases‹List Value›<;>rfl
     ·simp[e]at h
    |_=>simp[s7]at h
 |bool=>
  intro x y n n' cs cs' h
  cases n with
  |succ n=>
   simp only[s7,G43,Prod.mk.injEq]at h
   obtain⟨rfl,rfl,rfl⟩:=h
   exact⟨by simp[Ty.sz],by simp[Ty.sz],λhx _=>one_ rfl hx (.inl (by omega)),λj e t2 ys hj=>hj⟩
  |zero=>cases cs with
   |nil=>
    simp only[s7,G43,Prod.mk.injEq]at h
    obtain⟨rfl,rfl,rfl⟩:=h
    exact⟨rfl,rfl,λhx hv=>by cases hv;exact one_ rfl hx (.inr rfl),λj e t2 ys hj=>hj⟩
   |cons c cs=>cases c with
    |bool k=>
     simp only[s7,G43,Prod.mk.injEq]at h
     obtain⟨rfl,rfl,rfl⟩:=h
     refine⟨rfl,rfl,λhx hv=> ?_,λj e t2 ys hj=>by cases j<;>simp[B1]at hj⟩
     cases hv with
     |cons hc _=>
      simp only[CellRel]at hc
      simp only[TElt]at hx ⊢
      subst hc;subst hx
      cases‹List Value›<;>rfl
    |_=>simp[s7]at h
 |str=>
  intro x y n n' cs cs' h
  cases n with
  |succ n=>
   simp only[s7,G43,Prod.mk.injEq]at h
   obtain⟨rfl,rfl,rfl⟩:=h
   exact⟨by simp[Ty.sz],by simp[Ty.sz],λhx _=>one_ rfl hx (.inl (by omega)),λj e t2 ys hj=>hj⟩
  |zero=>cases cs with
   |nil=>
    simp only[s7,G43,Prod.mk.injEq]at h
    obtain⟨rfl,rfl,rfl⟩:=h
    exact⟨rfl,rfl,λhx hv=>by cases hv;exact one_ rfl hx (.inr rfl),λj e t2 ys hj=>hj⟩
   |cons c cs=>cases c with
    |str k=>
     simp only[s7,G43,Prod.mk.injEq]at h
     obtain⟨rfl,rfl,rfl⟩:=h
     refine⟨rfl,rfl,λhx hv=> ?_,λj e t2 ys hj=>by cases j<;>simp[B1]at hj⟩
     cases hv with
     |cons hc _=>
      simp only[CellRel]at hc
      simp only[TElt]at hx ⊢
      subst hc;subst hx
      cases‹List Value›<;>rfl
    |_=>simp[s7]at h
 |slice e t _=>
  intro x y n n' cs cs' h
  cases n with
  |succ n=>
   simp only[s7,G43,Prod.mk.injEq]at h
   obtain⟨rfl,rfl,rfl⟩:=h
   exact⟨by simp[Ty.sz],by simp[Ty.sz],λhx _=>one_ rfl hx (.inl (by omega)),λj e t2 ys hj=>hj⟩
  |zero=>cases cs with
   |nil=>
    simp only[s7,G43,Prod.mk.injEq]at h
    obtain⟨rfl,rfl,rfl⟩:=h
    exact⟨rfl,rfl,λhx hv=>by cases hv;exact one_ rfl hx (.inr rfl),λj e t2 ys hj=>hj⟩
   |cons c cs=>simp[s7]at h
theorem Cs9 {w:World} {β:Nat→Option (Nat×Nat)} {E:Env} {h:D3}:∀{t:Ty} {f:Nat} {x:El t} {ds:List Value},TElt w β t f x ds→All2 (λc v=>Fo4 c=true→CellRel E h w c v) (B1 t x) ds
 | .int k,_,n,_,hx=>by simp only[TElt]at hx;subst hx;exact .cons (λ_=>rfl) .nil
 | .bool,_,b,_,hx=>by simp only[TElt]at hx;subst hx;exact .cons (λ_=>rfl) .nil
 | .str,_,s,_,hx=>by simp only[TElt]at hx;subst hx;exact .cons (λ_=>rfl) .nil
 | .slice _ _,_,_,_,hx=>by obtain⟨_,A,c,rfl,_⟩:=hx;exact .cons (λe=>by cases e) .nil
 | .nil,_,_,_,hx=>by simp only[TElt]at hx;subst hx;exact .nil
 | .fld a r,f,x,_,hx=>by
  obtain⟨c1,c2,rfl,h1,h2⟩:=hx
  exact(Cs9 h1).append (Cs9 h2)
theorem All2.all {α β:Type} {p:α→Bool} {r:α→β→Prop} {l:List α} {m:List β} (h:All2 (λa b=>p a=true→r a b) l m) (k:l.all p=true):All2 r l m:=by
 induction h with
 |nil=>exact .nil
 |cons x _ ih=>
  simp only[List.all_cons,G37]at k
  exact .cons (x k.1) (ih k.2)
theorem Av7 {w:World} {β:Nat→Option (Nat×Nat)}:∀{t:Ty} {f:Nat} {x:El t} {ds:List Value} {j:Nat} {e:TypeId} {t2:Ty} {ys:List (El t2)},TElt w β t f x ds→(B1 t x)[j]? =some (.slc e t2 ys)→
  t2.flat=true∧∃A c,ds[j]? =some (.slice A ys.length c)∧ys.length≤c∧((c=0∧β (f+j)=none)∨∃b p,β (f+j)=some (b,p)∧A=some ⟨b,p,none⟩∧RowAt (λ_=>False) w b p t2 ys∧NoFrz t2 w b∧Room w b (p+c*t2.sz))
 | .int k,_,n,_,j,_,_,_,hx,hj=>by cases j<;>simp[B1]at hj
 | .bool,_,n,_,j,_,_,_,hx,hj=>by cases j<;>simp[B1]at hj
 | .str,_,n,_,j,_,_,_,hx,hj=>by cases j<;>simp[B1]at hj
 | .nil,_,n,_,j,_,_,_,hx,hj=>by simp[B1]at hj
 | .slice e t,f,ys,_,j,e',t',ys',hx,hj=>by
  cases j with
  |succ j=>simp[B1]at hj
  |zero=>
   simp only[B1,Ha2,G43]at hj
   injection hj with e1 e2 e3
   subst e2
   cases e3
   obtain⟨hf,A,c,rfl,hc,hz⟩:=hx
   exact⟨hf,A,c,rfl,hc,hz⟩
 | .fld a r,f,x,_,j,e,t2,ys,hx,hj=>by
  obtain⟨c1,c2,rfl,h1,h2⟩:=hx
  simp only[B1]at hj
  have l1:=T3 a x.1
  have l2:=h1.len
  by_cases hlt:j<a.sz
  ·rw[G51 (by omega)]at hj
   obtain⟨g0,A,c,g1,g2⟩:=Av7 h1 hj
   exact⟨g0,A,c,by rw[G51 (by omega)];exact g1,g2⟩
  ·rw[G50 (by omega),l1]at hj
   obtain⟨g0,A,c,g1,g2⟩:=Av7 h2 hj
   refine⟨g0,A,c,by rw[G50 (by omega),l2];exact g1, ?_⟩
   rwa [show f+a.sz+(j-a.sz)=f+j by omega]at g2
theorem Ct0 {w w':World} {β:Nat→Option (Nat×Nat)}:∀{t:Ty} {f j:Nat} {x y:El t} {ds:List Value} {e:TypeId} {t2:Ty} {ys zs:List (El t2)},TElt w β t f x ds→(B1 t x)[j]? =some (.slc e t2 ys)→B46 t2 zs t x j=some y→zs.length=ys.length→
  (∀b p,β (f+j)=some (b,p)→RowAt (λ_=>False) w' b p t2 zs∧NoFrz t2 w' b)→(∀g m,Room w g m→Room w' g m)→(∀k b p,k≠f+j→β k=some (b,p)→w'.heap[b]? =w.heap[b]?)→
  TElt w' β t f y ds∧(B1 t y)[j]? =some (.slc e t2 zs)∧∀k,k≠j→(B1 t y)[k]? =(B1 t x)[k]?
 | .int k,_,j,_,_,_,_,_,_,_,hx,hj,hp,_,_,_,_=>by cases j<;>simp[B1]at hj
 | .bool,_,j,_,_,_,_,_,_,_,hx,hj,hp,_,_,_,_=>by cases j<;>simp[B1]at hj
 | .str,_,j,_,_,_,_,_,_,_,hx,hj,hp,_,_,_,_=>by cases j<;>simp[B1]at hj
 | .nil,_,j,_,_,_,_,_,_,_,hx,hj,hp,_,_,_,_=>by simp[B1]at hj
 | .slice e t,f,j,xs,y,_,e',t',ys',zs,hx,hj,hp,hl,hb,hr,hw=>by
  cases j with
  |succ j=>simp[B1]at hj
  |zero=>
   simp only[B1,Ha2,G43]at hj
   injection hj with e1 e2 e3
   subst e2
   cases e3
   subst e1
   simp only[B46,dite_true,G43]at hp
   subst hp
   obtain⟨hf,A,c,rfl,hc,hz⟩:=hx
   refine⟨⟨hf,A,c,by rw[hl],by rw[hl];exact hc,hz.imp id ?_⟩,rfl,λk hk=> ?_⟩
   ·rintro⟨b,p,g1,g2,g3,g4,g5⟩
    obtain⟨k1,k2⟩:=hb b p g1
    exact⟨b,p,g1,g2,k1,k2,hr _ _ g5⟩
   ·cases k with
    |zero=>exact absurd rfl hk
    |succ k=>rfl
 | .fld a r,f,j,x,y,_,e,t2,ys,zs,hx,hj,hp,hl,hb,hr,hw=>by
  obtain⟨c1,c2,rfl,h1,h2⟩:=hx
  simp only[B1]at hj
  have l1:=T3 a x.1
  simp only[B46]at hp
  have hsame:∀{t:Ty} {f':Nat} {x:El t} {cs:List Value},TElt w β t f' x cs→(∀k,f'≤k→k<f'+t.sz→k≠f+j)→TElt w' β t f' x cs:=by
   intro t f' x cs hx hk
   have h1:TElt w (λk=>if f'≤k∧k<f'+t.sz then β k else none) t f' x cs:=hx.congr λk h1 h2=>by simp[h1,h2]
   have h2:=h1.same (w':=w') λk b p hkb=>by
    by_cases hc:f'≤k∧k<f'+t.sz
    ·rw[G45 hc]at hkb
     exact hw k b p (hk k hc.1 hc.2) hkb
    ·rw[G41 hc]at hkb;cases hkb
   exact h2.congr λk h1 h2=>by simp[h1,h2]
  by_cases hlt:j<a.sz
  ·rw[G51 (by omega)]at hj
   have:Nat.blt j a.sz=true:=by simpa [Nat.blt_eq]using hlt
   rw[this]at hp
   simp only[G52,G94]at hp
   obtain⟨y1,hy1,rfl⟩:=hp
   obtain⟨g1,g2,g3⟩:=Ct0 h1 hj hy1 hl hb hr hw
   have l2:=T3 a y1
   refine⟨⟨c1,c2,rfl,g1,hsame h2 λk h1 h2=>by omega⟩, ?_,λk hk=> ?_⟩
   ·simp only[B1]
    rw[G51 (by omega)];exact g2
   ·simp only[B1]
    by_cases hk2:k<a.sz
    ·rw[G51 (by omega),G51 (by omega)];exact g3 k hk
    ·rw[G50 (by omega),G50 (by omega),l1,l2]
  ·rw[G50 (by omega),l1]at hj
   have:Nat.blt j a.sz=false:=by
    cases hq:Nat.blt j a.sz with
    |false=>rfl
    |true=>rw[Nat.blt_eq]at hq;exact absurd hq hlt
   rw[this]at hp
   simp only[G72,G94]at hp
   obtain⟨y1,hy1,rfl⟩:=hp
   have e1:f+a.sz+(j-a.sz)=f+j:=by omega
   obtain⟨g1,g2,g3⟩:=Ct0 (f:=f+a.sz) h2 hj hy1 hl (by rw[e1];exact hb) hr (by rw[e1];exact hw)
   refine⟨⟨c1,c2,rfl,hsame h1 λk h1 h2=>by omega,g1⟩, ?_,λk hk=> ?_⟩
   ·simp only[B1]
    rw[G50 (by omega),l1];exact g2
   ·simp only[B1]
    by_cases hk2:k<a.sz
    ·rw[G51 (by omega),G51 (by omega)]
    ·rw[G50 (by omega),G50 (by omega),l1]
     exact g3 _ (by omega)
end Go.Vm
end
section
namespace Go.Vm
open Go
section
variable {E : Env} {st : St} {saved : List (Nat × List VV)} {a : Act} {S : List (Array Value)} {w w' w0 w1 : World} {K K1 : Keep}
theorem RelE.reshape (h:RelE E st saved a S w w1 K) {n:Nat} {ob ob':Obj} (hg:B3 st.heap n=some ob) (ht:ob.tr=true) (ht':ob'.tr=true) (hs:E3 ob'=E3 ob):RelE E ⟨st.tmps,hset st.heap n ob'⟩ saved a S w w1 K:=by
 have k:Step E E st.heap (hset st.heap n ob') w w:=⟨λ_ _=>rfl,λ_ _=>Iff.rfl,λ_ h=>h,λ_ _=>rfl,λ_ _ h=>h,λm s hm=> .inl (by
  rw[F5]
  split
  ·rename_i e;subst e;simpa [hsh,hg,hs]using hm
  ·exact hm)⟩
 have hlive:∀m,C6 (hset st.heap n ob') m→C6 st.heap m:=λm hl=>by
  unfold C6 at hl ⊢
  rw[A9]at hl
  by_cases e:m=n
  ·rw[G45 e]at hl
   cases ob'<;>first|exact hl.elim|cases ht'
  ·rwa [G41 e]at hl
 refine⟨G6 k h.tm,h.df,h.sv.mono λ_ _ q=>G6 k q,λm o hm=> ?_,λm m' hne hl hl'=>h.dj m m' hne (hlive m hl) (hlive m' hl'),λm hl=>h.dk m (hlive m hl),λm hm=>h.bd m ?_,h.bo,h.kp,h.os,h.tape,h.out,h.size,h.oz,h.rm,λm o hm ho=> ?_⟩
 ·rw[A9]at hm
  by_cases e:m=n
  ·rw[G45 e]at hm
   cases hm
   cases ob'<;>first|trivial|cases ht'
  ·rw[G41 e]at hm
   exact(h.ob m o hm).step k (by rw[hm];rfl) (λh=>h) (λ_=>rfl)
 ·have hm':(B3 (hset st.heap n ob') m).isSome=true:=hm
  rw[A9]at hm'
  by_cases e:m=n
  ·subst e;rw[hg];rfl
  ·rwa [G41 e]at hm'
 ·have hm':B3 (hset st.heap n ob') m=some o:=hm
  rw[A9]at hm'
  by_cases e:m=n
  ·subst e;exact h.ta m ob hg ht
  ·rw[G41 e]at hm'
   exact h.ta m o hm' ho
def Keep.more (K:Keep) (ns:List Nat):Keep:={K with k:=λb=>K.k b∨b∈ns,o:=λb=>K.o b∧b∉ns,p:=λb=>K.p b∨b∈ns}
theorem RelE.rehome (h:RelE E st saved a S w w K) {β:Nat→Nat→Nat→Option (Nat×Nat)} (hT:TFB st.heap w K β) {o:Nat} {ob ob':Obj} (hg:B3 st.heap o=some ob) (hi:ob.isT) (hi':ob'.isT) (hshp:E3 ob'=E3 ob) (hth:K.th o)
  (β1:Nat→Nat→Option (Nat×Nat)) (ns:List Nat) (hf:∀b∈ns,Free E st.heap K w b)
  (hs:∀b,b<w.heap.size→¬Blk K β o b→w'.heap[b]? =w.heap[b]?) (hsz:w.heap.size≤w'.heap.size) (hroom:∀g m,Room w g m→Room w' g m) (ho:w'.os=w.os) (ht:w'.tape=w.tape) (hu:w'.output=w.output)
  (hβ:∀i f b p,β1 i f=some (b,p)→b∈ns∨∃i f p,β o i f=some (b,p))
  (htr:∀e t xs q,ob'= .tree e t xs q→TreeAt w' (K.ta o).1 (K.ta o).2 t β1 xs∧(Fx q→β1=K.b0 (K.ta o).1))
  (hpd:∀e t xs i f m,ob'= .pend e t xs i f m→TreeAtX w' (K.ta o).1 (K.ta o).2 t β1 xs i f)
  (hbo:∀n i f e' t' m,B3 st.heap n=some (.bor o i f e' t' m)→(∀e t xs q,ob'= .tree e t xs q→Cur q n→Ay7 K (λn=>if n=o then β1 else β n) n o i f e' t' m t xs)∧
   (∀e t xs i2 f2,ob'= .pend e t xs i2 f2 n→i2=i∧f2=f∧K.th n∧Ay7 K (λn=>if n=o then β1 else β n) n o i f e' t' m t xs)):
  RelE E ⟨st.tmps,hset st.heap o ob'⟩ saved a S w' w' (K.more ns)∧TFB (hset st.heap o ob') w' (K.more ns) (λn=>if n=o then β1 else β n)∧Dr w K w' (K.more ns):=by
 have hmine:=hT.mine hg hi hth
 have r1:=h.poke (λb=>Blk K β o b) hmine hs hsz hroom ho ht hu
 have r2:RelE E st saved a S w' w' (K.more ns):=r1.rebase (λb hb=>hb.elim (λhb=> (r1.kp b hb).1) λhb=>G80 (hf b hb).2.2.2 hsz)
  (λn hl hh hk=>hk.elim (r1.dk n hl hh).2 λhb=> (hf _ hb).1 n hl hh rfl)
  (λb hb hk=> ⟨hk.elim (r1.oz b hb) λhm=>absurd hb (hf b hm).2.1,λhm=> (hf b hm).2.1 hb⟩) r1.ta
 have own:∀b,(b=(K.ta o).1∨∃i f p,β1 i f=some (b,p))→(K.more ns).mine b:=λb hb=>by
  rcases hb with hb|⟨i,f,p,hb⟩
  ·have:=hmine b (.inl hb)
   exact⟨.inl this.1,λk=>this.2.1 k.1, .inl this.2.2⟩
  ·rcases hβ i f b p hb with hm|⟨i',f',p',hm⟩
   ·exact⟨.inr hm,λk=>k.2 hm, .inr hm⟩
   ·have:=hmine b (.inr ⟨i',f',p',hm⟩)
    exact⟨.inl this.1,λk=>this.2.1 k.1, .inl this.2.2⟩
 have old:∀m om,m≠o→B3 (hset st.heap o ob') m=some om→B3 st.heap m=some om:=λm om hm hgm=>by rwa [A9,G41 hm]at hgm
 have hBo:∀m,m≠o→∀b,Blk (K.more ns) (λn=>if n=o then β1 else β n) m b→Blk K β m b:=λm hm b hb=>by simpa [Blk,hm,Keep.more]using hb
 have hBn:∀b,Blk (K.more ns) (λn=>if n=o then β1 else β n) o b→b=(K.ta o).1∨∃i f p,β1 i f=some (b,p):=λb hb=>by
  unfold Blk at hb
  simpa [Keep.more]using hb
 have same:∀n om,n≠o→B3 st.heap n=some om→om.isT→K.th n→∀b,Blk K β n b→w'.heap[b]? =w.heap[b]? :=λn om en hn hom hth1 b hb=>
  hs b (h.kp b (hT.mine hn hom hth1 b hb).1).1 (hT.ap n o _ _ en hn hg hom hi hth1 hth b hb)
 have more:∀n om,n≠o→B3 st.heap n=some om→om.isT→K.th n→∀b,Blk (K.more ns) (λn=>if n=o then β1 else β n) n b→(K.more ns).mine b:=λn om en hn hom hth1 b hb=>by
  have:=hT.mine hn hom hth1 b (hBo n en b hb)
  exact⟨.inl this.1,λk=>this.2.1 k.1, .inl this.2.2⟩
 refine⟨r2.reshape hg hi.tr hi'.tr hshp,⟨λn e1 t1 x1 q1 hn=> ?_,λn e1 t1 x1 i1 f1 m1 hn=> ?_,λn e1 t1 x1 q1 hn hq1 hth1=> ?_,λn n' ob1 ob2 hne hn hn' he he' hth1 hth' b hb hb'=> ?_,λn o' i f e1 t1 m hn=> ?_⟩, ?_⟩
 ·by_cases en:n=o
  ·rw[A9,G45 en]at hn
   cases hn
   subst en
   refine⟨.inl hth,λ_=> ⟨by simpa [Keep.more]using(htr _ _ _ _ rfl).1,λb hb=>own b (hBn b hb)⟩⟩
  ·have hn:=old n _ en hn
   obtain⟨p1,p2⟩:=hT.tr n e1 t1 x1 q1 hn
   refine⟨p1,λhth1=> ⟨?_,more n _ en hn trivial hth1⟩⟩
   have hsame:=same n _ en hn trivial hth1
   simpa [Keep.more,en]using(p2 hth1).1.same (hsame _ (.inl rfl)) λi f b p hp=>hsame b (.inr ⟨i,f,p,hp⟩)
 ·by_cases en:n=o
  ·rw[A9,G45 en]at hn
   cases hn
   subst en
   exact⟨hth,by simpa [Keep.more]using hpd _ _ _ _ _ _ rfl,λb hb=>own b (hBn b hb)⟩
  ·have hn:=old n _ en hn
   obtain⟨p1,p2,p3⟩:=hT.pd n e1 t1 x1 i1 f1 m1 hn
   have hsame:=same n _ en hn trivial p1
   exact⟨p1,by simpa [Keep.more,en]using p2.same (hsame _ (.inl rfl)) λi f b p hp=>hsame b (.inr ⟨i,f,p,hp⟩),more n _ en hn trivial p1⟩
 ·by_cases en:n=o
  ·rw[A9,G45 en]at hn
   cases hn
   subst en
   simpa [Keep.more]using(htr _ _ _ _ rfl).2 hq1
  ·have:=hT.fx n _ _ _ _ (old n _ en hn) hq1 hth1
   simpa [Keep.more,en]using this
 ·by_cases en:n=o
  ·have en':n'≠o:=λe=>hne (en.trans e.symm)
   rw[en]at hb
   have hb2:=hBo n' en' b hb'
   have hk:=hT.mine (old n' ob2 en' hn') he' hth' b hb2
   rcases hBn b hb with hm|⟨i,f,p,hm⟩
   ·exact hT.ap o n' _ ob2 (λe=>en' e.symm) hg (old n' ob2 en' hn') hi he' hth hth' b (.inl hm) hb2
   ·rcases hβ i f b p hm with hm|⟨i',f',p',hm⟩
    ·exact(hf b hm).2.2.1 hk.1
    ·exact hT.ap o n' _ ob2 (λe=>en' e.symm) hg (old n' ob2 en' hn') hi he' hth hth' b (.inr ⟨i',f',p',hm⟩) hb2
  ·by_cases en':n'=o
   ·rw[en']at hb'
    have hb2:=hBo n en b hb
    have hk:=hT.mine (old n ob1 en hn) he hth1 b hb2
    rcases hBn b hb' with hm|⟨i,f,p,hm⟩
    ·exact hT.ap n o ob1 _ en (old n ob1 en hn) hg he hi hth1 hth b hb2 (.inl hm)
    ·rcases hβ i f b p hm with hm|⟨i',f',p',hm⟩
     ·exact(hf b hm).2.2.1 hk.1
     ·exact hT.ap n o ob1 _ en (old n ob1 en hn) hg he hi hth1 hth b hb2 (.inr ⟨i',f',p',hm⟩)
   ·exact hT.ap n n' ob1 ob2 hne (old n ob1 en hn) (old n' ob2 en' hn') he he' hth1 hth' b (hBo n en b hb) (hBo n' en' b hb')
 ·have en:n≠o:=λen=>by
   rw[A9,G45 en]at hn
   cases hn
   exact hi'
  have hn0:=old n _ en hn
  clear hn
  obtain⟨b1,b2,b3⟩:=hT.bo n o' i f e1 t1 m hn0
  have lift:∀t2 (x2:List (El t2)),Ay7 K (λn=>if n=o then β1 else β n) n o' i f e1 t1 m t2 x2→Ay7 (K.more ns) (λn=>if n=o then β1 else β n) n o' i f e1 t1 m t2 x2:=λ_ _ c=>c
  refine⟨Ap7 o' b1,λe2 t2 x2 q2 hg2 hc=>lift _ _ ?_,λe2 t2 x2 i2 f2 hg2=> ?_⟩
  ·by_cases eo:o'=o
   ·rw[A9,G45 eo]at hg2
    cases hg2
    subst eo
    exact(hbo n i f e1 t1 m hn0).1 _ _ _ _ rfl hc
   ·obtain⟨c1,c2,c3,c4⟩:=b2 e2 t2 x2 q2 (old o' _ eo hg2) hc
    exact⟨c1,c2,λhz=>by simpa [eo]using c3 hz,c4⟩
  ·by_cases eo:o'=o
   ·rw[A9,G45 eo]at hg2
    cases hg2
    subst eo
    exact(hbo n i f e1 t1 m hn0).2 _ _ _ _ _ rfl
   ·obtain⟨d1,d2,d3,c1,c2,c3,c4⟩:=b3 e2 t2 x2 i2 f2 (old o' _ eo hg2)
    exact⟨d1,d2,d3,c1,c2,λhz=>by simpa [eo,Keep.more]using c3 hz,c4⟩
 ·exact⟨ho,ht,hu,hsz,λb hb=> ⟨.inl hb,λhp=>hs b (h.kp b hb).1 λhB=>hp (hmine b hB).2.2⟩,λb _ hk=>hk.1,λb hb hp=>hp.resolve_right λhm=> (hf b hm).2.2.1 hb,hroom,λ_ _=>rfl⟩
theorem RelE.retree (h:RelE E st saved a S w w K) {β:Nat→Nat→Nat→Option (Nat×Nat)} (hT:TFB st.heap w K β) {o:Nat} {e:TypeId} {t:Ty} {xs:List (El t)} {q:Nat} (hg:B3 st.heap o=some (.tree e t xs q)) (hth:K.th o)
  {xs':List (El t)} (q':Nat) (hlen:xs'.length=xs.length) (β1:Nat→Nat→Option (Nat×Nat)) (ns:List Nat) (hf:∀b∈ns,Free E st.heap K w b)
  (hs:∀b,b<w.heap.size→¬Blk K β o b→w'.heap[b]? =w.heap[b]?) (hsz:w.heap.size≤w'.heap.size) (hroom:∀g m,Room w g m→Room w' g m) (ho:w'.os=w.os) (ht:w'.tape=w.tape) (hu:w'.output=w.output)
  (hβ:∀i f b p,β1 i f=some (b,p)→b∈ns∨∃i f p,β o i f=some (b,p)) (hTree:TreeAt w' (K.ta o).1 (K.ta o).2 t β1 xs')
  (hfx:Fx q'→Fx q∧β1=β o)
  (hbor:∀n i f e' t' m,B3 st.heap n=some (.bor o i f e' t' m)→Cur q' n→Cur q n∧β1 i f=β o i f∧
   ∀ys:List (El t'),(B1 t (rd (K8 t) xs i))[f]? =some (Cell.slc e' t' ys)→∃zs:List (El t'),(B1 t (rd (K8 t) xs' i))[f]? =some (Cell.slc e' t' zs)∧zs.length=ys.length):
  RelE E ⟨st.tmps,hset st.heap o (.tree e t xs' q')⟩ saved a S w' w' (K.more ns)∧TF (hset st.heap o (.tree e t xs' q')) w' (K.more ns)∧Dr w K w' (K.more ns):=by
 obtain⟨a1,a2,a3⟩:=h.rehome hT hg (ob':= .tree e t xs' q') trivial trivial (by simp[E3,hlen]) hth β1 ns hf hs hsz hroom ho ht hu hβ
  (λe1 t1 x1 q1 hq=>by cases hq;exact⟨hTree,λhx=>by obtain⟨g1,g2⟩:=hfx hx;rw[g2];exact hT.fx o _ _ _ _ hg g1 hth⟩) (λe1 t1 x1 i f m hq=>by cases hq)
  (λn i f e' t' m hn=> ⟨λe1 t1 x1 q1 hq hc=>by
   cases hq
   obtain⟨k1,k2,k3⟩:=hbor n i f e' t' m hn hc
   obtain⟨-,b2,-⟩:=hT.bo n o i f e' t' m hn
   obtain⟨c1,c2,c3,ys,c4,c5⟩:=b2 _ _ _ _ hg k1
   obtain⟨zs,z1,z2⟩:=k3 ys c4
   exact⟨c1,by rw[hlen];exact c2,λhz=>by simpa using k2.trans (c3 hz),zs,z1,z2.trans c5⟩,λe1 t1 x1 i2 f2 hq=>by cases hq⟩)
 exact⟨a1,⟨_,a2⟩,a3⟩
theorem TreeAt.put {g off:Nat} {t:Ty} {β:Nat→Nat→Option (Nat×Nat)} {xs:List (El t)} (hT:TreeAt w g off t β xs) {i:Nat} (hi:i<xs.length) (β1:Nat→Nat→Option (Nat×Nat)) (hβ:∀i',i'≠i→β1 i'=β i')
  {z:El t} {f:Nat} {vs ds:List Value} (hd:∀j,j<t.sz→w.cell? ⟨g,off+i*t.sz+j,none⟩=ds[j]?) (hdl:ds.length=t.sz) (hfit:f+vs.length≤t.sz) (hz:TElt w (β1 i) t 0 z (M3 f ds vs))
  (hinj:∀i f i' f' b p p',β1 i f=some (b,p)→β1 i' f'=some (b,p')→i=i'∧f=f') (hne:∀i f b p,β1 i f=some (b,p)→b≠g) (hlt:∀f b p,β1 i f=some (b,p)→f<t.sz):
  TreeAt (putCells g vs (off+i*t.sz+f) w) g off t β1 (xs.set i z):=by
 have hput:=G0 g vs (off+i*t.sz+f) w
 have hcell:∀j,j<t.sz→(w.cell? ⟨g,off+i*t.sz+j,none⟩).isSome=true:=λj hj=>by
  rw[hd j hj,G36 (by omega)];rfl
 refine⟨λi' hi'=> ?_,λo hc=> ?_,hinj,hne,λi' f' b p hb=> ?_⟩
 ·have hi2:i'<xs.length:=by simpa using hi'
  by_cases ei:i'=i
  ·subst ei
   refine⟨M3 f ds vs, ?_,λj hj=> ?_⟩
   ·rw[List.getElem_set_self]
    exact hz.same λf' b p hb=>hput.other b (hne _ _ b p hb)
   ·rw[Bn6 _ _ _ _ (by omega)]
    by_cases c1:j<f
    ·rw[G45 c1,E5 _ _ _ _ _ (by omega)]
     exact hd j hj
    ·rw[G41 c1]
     by_cases c2:j<f+vs.length
     ·rw[G45 c2]
      obtain⟨u1,hu1⟩:∃u1,vs[j-f]? =some u1:=⟨_,G36 (by omega)⟩
      have:=V5 g vs (off+i'*t.sz+f) w (j-f) u1 hu1 (λm hm=>by
       rw[show off+i'*t.sz+f+m=off+i'*t.sz+(f+m)by omega]
       exact hcell _ (by omega))
      rw[hu1]
      rwa [show off+i'*t.sz+f+(j-f)=off+i'*t.sz+j by omega]at this
     ·rw[G41 c2,E5 _ _ _ _ _ (by omega)]
      exact hd j hj
  ·obtain⟨ds',hd',hc'⟩:=hT.row i' hi2
   refine⟨ds', ?_,λj hj=> ?_⟩
   ·rw[List.getElem_set_ne (λh=>ei h.symm),hβ i' ei]
    exact hd'.same λf' b p hb=>hput.other b (hT.ne _ _ b p hb)
   ·rw[E5 _ _ _ _ _ ?_]
    ·exact hc' j hj
    ·rcases Nat.lt_or_gt_of_ne ei with c|c
     ·left
      have:(i'+1)*t.sz≤i*t.sz:=G86 _ c
      rw[G71]at this
      omega
     ·right
      have:(i+1)*t.sz≤i'*t.sz:=G86 _ c
      rw[G71]at this
      omega
 ·rw[hput.some]at hc
  rw[hput.frozen]
  exact hT.nf o hc
 ·by_cases ei:i'=i
  ·subst ei
   exact⟨by simpa using hi,hlt f' b p hb⟩
  ·rw[hβ i' ei]at hb
   obtain⟨h1,h2⟩:=hT.lt i' f' b p hb
   exact⟨by simpa using h1,h2⟩
variable {P : Program} {cfg : Cfg} {R : Type} {Kk : List Upd → VV → List Loc → Option R} {l : List Loc} {r : R} {op : Oper}
theorem Ct1 {T:TypeId} {t0 t:Ty} {x y:Operand} {g p i f:Nat} {v:V1} {h:D3} (hok:LdOk P t0 T) (ho:op.op= .store T x y) (hx:a.eval x= .pointer (some ⟨g,p,none⟩)) (hv:V1Rel E h w v (a.eval y)) (hlen:v.cs.length=t0.sz)
  (hcell:∀j,j<t0.sz→(w.cell? ⟨g,p+j,none⟩).isSome=true) (hnf:NoFrz t w g):
  (execOp a.eval op).run P w= .ok .skip (putCells g (a.eval y).cells.toList p w):=by
 have hvc:=hv.cells
 have hvl:=hvc.length
 have hw:=R6 P g p (a.eval y).cells.toList 0 w (λj hj=>by
  rw[G69]
  have hc:=hcell j (by omega)
  exact⟨hc,hnf _ λ_=>hc⟩) (λu hu=>by obtain⟨c,hc⟩:=hvc.mem u hu;exact hc.oneCell')
 rw[G69]at hw
 have hsz:(a.eval y).cells.size=t0.sz:=by rw[←hlen,hvl];simp
 simp only[execOp,ho,hx,Instr.storeAt,Instr.sureAddr,storeVar]
 simp[hok.size w,hsz,hw]
theorem Ek8 (hX:RelX E st saved a S w w0 K) {T:TypeId} {t0:Ty} {x y:Operand} {q i f:Nat} {v:V1} {l':List Loc} (hok:LdOk P t0 T) (ho:op.op= .store T x y)
  (hx:CellRel E st.heap w (.eptr q i f) (a.eval x)) (hv:V1Rel E st.heap w v (a.eval y)) {e:TypeId} {t:Ty} {xs:List (El t)} {fl:Nat} (hg:B3 st.heap q=some (.tree e t xs fl)) (hlen:v.cs.length=t0.sz) (hfit:f+t0.sz≤t.sz)
  (hrun:(RP.opt (s7 t (rd (K8 t) xs i) f v.cs) λp=> .done [.o q (.tree e t (xs.set i p.1) fl)] VV.un).run st Kk l'=some r):GoesX P op a w st saved S w0 K Kk r:=by
 obtain⟨wb,K1,hD,hT0,hB⟩:=hX
 have h:=hB.rebase0
 obtain⟨β,hT⟩:=hB.now hT0
 have hD:=hD.trans hB.drift
 cases hp:s7 t (rd (K8 t) xs i) f v.cs with
 |none=>rw[hp]at hrun;cases hrun
 |some p=>
 rw[hp]at hrun
 obtain⟨z,n',cs'⟩:=p
 obtain⟨-,-,hz,hex⟩:=Fb8 (w:=w) _ _ _ _ _ _ _ hp
 have hs:hsh st.heap q=some (.row e t xs.length):=by simp[hsh,hg,E3]
 simp only[CellRel,hs]at hx
 obtain⟨hlt,hptr⟩:=hx
 obtain⟨p1,p2⟩:=hT.tr q e t xs fl hg
 have hth:K1.th q:=p1.resolve_right λe=>by subst e;simp at hlt
 obtain⟨hat,hmine⟩:=p2 hth
 obtain⟨-,eρ⟩:=h.ta q _ hg rfl
 rw[eρ]at hptr
 obtain⟨ds,hdi,hdc⟩:=hat.row i hlt
 rw[←C00 (z:=K8 t) hlt]at hdi
 have hvc:=hv.cells
 have hvl:=hvc.length
 have hx:=Ct1 (P:=P) (t:=t) (i:=i) (f:=f) hok ho hptr hv hlen (λj hj=>by
  rw[show(K1.ta q).2+i*t.sz+f+j=(K1.ta q).2+i*t.sz+(f+j)by omega,hdc (f+j) (by omega),G36 (by rw[hdi.len];omega)];rfl) hat.nf
 have hput:=G0 (K1.ta q).1 (a.eval y).cells.toList ((K1.ta q).2+i*t.sz+f) w
 have hput2:=hat.put hlt (β q) (λ_ _=>rfl) hdc hdi.len (by omega) (hz hdi hvc) hat.inj hat.ne (λf b p hb=> (hat.lt i f b p hb).2)
 obtain⟨r1,r2,r3⟩:=h.retree hT hg hth (xs':=xs.set i z) fl (by simp) (β q) [] (λb hb=>by cases hb) (λb _ hb=>hput.other b λe=>hb (.inl e)) (by rw[hput.size];exact G53 _) hput.room hput.os hput.tape hput.out
  (λi f b p hb=> .inr ⟨i,f,p,hb⟩) hput2 (λh=> ⟨h,rfl⟩) (λn i' f' e' t' m hn hq=> ⟨hq,rfl,λys hys=> ⟨ys,by
   by_cases ei:i'=i
   ·subst ei
    have:rd (K8 t) (xs.set i' z) i'=z:=by simp[rd,hlt]
    rw[this]
    exact hex _ _ _ _ hys
   ·have:rd (K8 t) (xs.set i z) i'=rd (K8 t) xs i':=by simp[rd,Hc9 (λh=>ei h.symm)]
    rw[this]
    exact hys,rfl⟩⟩)
 refine⟨_,_,_,hrun,λQ next hn=> ?_⟩
 unfold Oper.wp
 rw[hx]
 exact hn _ _ E (RelX.put ⟨_,_,hD.trans r3,r2,r1⟩ op.dst (show VRel _ _ _ .un undef from trivial))
end
end Go.Vm
end
section
namespace Go.Vm
open Go
def Gf4 (h:D3) (u:List Upd):Prop:=∀x∈u,∃o e t xs,x= .o o .dead∧B3 h o=some (.row e t xs true)
section
variable {st : St} {R : Type} {Kk : List Upd → VV → List Loc → Option R} {l : List Loc} {r : R}
theorem Dl9:∀(t:Ty) (cs:List Cell) (k:El t→List Cell→List Upd→RP) (l:List Loc),(Cz7 t cs k).run st Kk l=some r→
  ∃x rest u l',(k x rest u).run st Kk l'=some r∧Gf4 st.heap u∧
   ∀{E saved a S w w0 K vs f},RelE E st saved a S w w0 K→All2 (CellRel E st.heap w) cs vs→E8 (u.map Upd.name)=true→∃v1 v2 γ,vs=v1++v2∧TElt w γ t f x v1∧All2 (CellRel E st.heap w) rest v2∧
    (∀j b p,γ j=some (b,p)→(f≤j∧j<f+t.sz)∧∃n,Upd.o n .dead∈u∧E.has n∧C6 st.heap n∧b=(E.ρ n).1)∧∀j j' b p p',γ j=some (b,p)→γ j'=some (b,p')→j=j':=by
 have none_:Gf4 st.heap []:=λx hx=>by cases hx
 intro t
 induction t with
 |nil=>
  intro cs k l h
  exact⟨(),cs,[],l,h,none_,λ{E saved a S w w0 K vs f} hr hv _=> ⟨[],vs,λ_=>none,rfl,rfl,hv,(λj b p hb=>by cases hb),λj j' b p p' hb=>by cases hb⟩⟩
 |fld p q ihp ihq=>
  intro cs k l h
  simp only[Cz7]at h
  obtain⟨x,rest,u,l1,h1,hu,hx⟩:=ihp _ _ _ h
  obtain⟨y,rest',u',l2,h2,hu',hy⟩:=ihq _ _ _ h1
  refine⟨(x,y),rest',u++u',l2,h2,λz hz=> (G34.1 hz).elim (hu z) (hu' z),λ{E saved a S w w0 K vs f} hr hv hd=> ?_⟩
  rw[G64]at hd
  obtain⟨d1,d2,d3⟩:=F4 hd
  obtain⟨v1,v2,γ,rfl,hi,hv2,g1,g2⟩:=hx (f:=f) hr hv d1
  obtain⟨v3,v4,γ',rfl,hi',hv4,g1',g2'⟩:=hy (f:=f+p.sz) hr hv2 d2
  have cross:∀j j' b c c',γ j=some (b,c)→γ' j'=some (b,c')→False:=λj j' b c c' e1 e2=>by
   obtain⟨_,n,m1,m2,m3,m4⟩:=g1 j b c e1
   obtain⟨_,n',m1',m2',m3',m4'⟩:=g1' j' b c' e2
   have hne:n≠n':=λe=>d3 n (G79.2 ⟨_,m1,rfl⟩) (by rw[e];exact G79.2 ⟨_,m1',rfl⟩)
   exact hr.dj n n' hne m3 m3' m2 m2' (m4.symm.trans m4')
  refine⟨v1++v3,v4,λj=>if j<f+p.sz then γ j else γ' j,by rw[G46],⟨v1,v3,rfl,hi.congr λj h1 h2=>by simp[h2],hi'.congr λj h1 h2=>by rw[G41 (by omega)]⟩,hv4,λj b c hb=> ?_,λj j' b c c' hb hb'=> ?_⟩
  ·dsimp only at hb
   by_cases hj:j<f+p.sz
   ·rw[G45 hj]at hb
    obtain⟨m0,n,m1,m2⟩:=g1 j b c hb
    exact⟨⟨m0.1,by simp only[Ty.sz];omega⟩,n,G34.2 (.inl m1),m2⟩
   ·rw[G41 hj]at hb
    obtain⟨m0,n,m1,m2⟩:=g1' j b c hb
    exact⟨⟨by omega,by simp only[Ty.sz];omega⟩,n,G34.2 (.inr m1),m2⟩
  ·dsimp only at hb hb'
   by_cases hj:j<f+p.sz
   ·rw[G45 hj]at hb
    by_cases hj':j'<f+p.sz
    ·rw[G45 hj']at hb'
     exact g2 _ _ _ _ _ hb hb'
    ·rw[G41 hj']at hb'
     exact(cross _ _ _ _ _ hb hb').elim
   ·rw[G41 hj]at hb
    by_cases hj':j'<f+p.sz
    ·rw[G45 hj']at hb'
     exact(cross _ _ _ _ _ hb' hb).elim
    ·rw[G41 hj']at hb'
     exact g2' _ _ _ _ _ hb hb'
 |int i=>
  intro cs k l h
  cases cs with
  |nil=>cases h
  |cons c cs=>cases c with
   |int j m=>
    simp only[Cz7]at h
    by_cases e:i=j
    ·subst e
     simp only[G56,G52]at h
     refine⟨m,cs,[],l,h,none_,λ{E saved a S w w0 K vs f} hr hv _=> ?_⟩
     cases hv with
     |@cons _ v _ vs' h1 h2=>
      have:v= .int i m:=h1
      subst this
      exact⟨[_],vs',λ_=>none,rfl,rfl,h2,(λj b p hb=>by cases hb),λj j' b p p' hb=>by cases hb⟩
    ·simp[e,RP.run]at h
   |_=>cases h
 |bool=>
  intro cs k l h
  cases cs with
  |nil=>cases h
  |cons c cs=>cases c with
   |bool b=>
    refine⟨b,cs,[],l,h,none_,λ{E saved a S w w0 K vs f} hr hv _=> ?_⟩
    cases hv with
    |@cons _ v _ vs' h1 h2=>
     have:v= .bool b:=h1
     subst this
     exact⟨[_],vs',λ_=>none,rfl,rfl,h2,(λj b p hb=>by cases hb),λj j' b p p' hb=>by cases hb⟩
   |_=>cases h
 |str=>
  intro cs k l h
  cases cs with
  |nil=>cases h
  |cons c cs=>cases c with
   |str s=>
    refine⟨s,cs,[],l,h,none_,λ{E saved a S w w0 K vs f} hr hv _=> ?_⟩
    cases hv with
    |@cons _ v _ vs' h1 h2=>
     have:v= .string s:=h1
     subst this
     exact⟨[_],vs',λ_=>none,rfl,rfl,h2,(λj b p hb=>by cases hb),λj j' b p p' hb=>by cases hb⟩
   |_=>cases h
 |slice e t _=>
  intro cs k l h
  cases cs with
  |nil=>cases h
  |cons c cs=>
   have hcell:(∃h0:c= .nilS,(bif t.flat then k [] cs []else .fail).run st Kk l=some r)∨∃o,c= .row o none none:=by
    cases c with
    |nilS=>exact .inl ⟨rfl,h⟩
    |row o lo hi=>cases lo with
     |none=>cases hi with
      |none=>exact .inr ⟨o,rfl⟩
      |some _=>cases h
     |some _=>cases h
    |_=>cases h
   rcases hcell with⟨rfl,h'⟩|⟨o,rfl⟩
   ·cases hfl:t.flat with
    |false=>rw[hfl]at h';cases h'
    |true=>
    rw[hfl]at h'
    refine⟨[],cs,[],l,h',none_,λ{E saved a S w w0 K vs f} hr hv _=> ?_⟩
    cases hv with
    |@cons _ v _ vs' h1 h2=>
     have:v= .slice none 0 0:=h1
     subst this
     exact⟨[_],vs',λ_=>none,rfl,⟨hfl,none,0,rfl,G53 _, .inl ⟨rfl,rfl⟩⟩,h2,(λj b p hb=>by cases hb),λj j' b p p' hb=>by cases hb⟩
   ·simp only[Cz7,RP.run]at h
    cases hg:B3 st.heap o with
    |none=>rw[hg]at h;cases h
    |some b=>
     rw[hg]at h
     cases b with
     |row e' t' xs own=>
      cases own with
      |false=>cases h
      |true=>
       simp only at h
       cases hb:(Nat.beq e e'&&t.flat)with
       |false=>rw[hb]at h;cases h
       |true=>
        rw[hb]at h
        simp only[G52]at h
        simp only[G37]at hb
        obtain⟨he,hfl⟩:=hb
        have he:=G35 he
        subst he
        cases hy:E6 t' t xs with
        |none=>rw[hy]at h;cases h
        |some ys=>
         rw[hy]at h
         obtain⟨e1,rfl⟩:=D4 hy
         subst e1
         refine⟨xs,cs,[.o o .dead],_,h,λx hx=> ?_,λ{E saved a S w w0 K vs f} hr hv _=> ?_⟩
         ·simp only[G48]at hx
          exact⟨o,e,t',xs,hx,hg⟩
         ·cases hv with
          |@cons _ v _ vs' h1 h2=>
           have hs:hsh st.heap o=some (.row e t' xs.length):=by simp[hsh,hg,E3]
           simp only[CellRel,hs]at h1
           obtain⟨_,A,c,rfl,hle,hx⟩:=h1
           simp only[D0,I8,Nat.sub_zero]at hle ⊢
           rcases hx with rfl|⟨hh,rfl,hR⟩
           ·exact⟨[_],vs',λ_=>none,rfl,⟨hfl,A,0,rfl,hle, .inl ⟨rfl,rfl⟩⟩,h2,(λj b p hb=>by cases hb),λj j' b p p' hb=>by cases hb⟩
           ·obtain⟨_,hob⟩:=hr.ob o _ hg
            obtain⟨hat,hnf,_⟩:=hob hh
            refine⟨[_],vs',λj=>if j=f then some (E.ρ o)else none,rfl,⟨hfl,_,c,rfl,hle, .inr ⟨(E.ρ o).1,(E.ρ o).2,by simp,by simp[I8],λi hi=> ?_,hnf rfl,by simpa [I8]using hR⟩⟩,h2,λj b p hb=> ?_,λj j' b p p' hb hb'=> ?_⟩
            ·obtain⟨ds,hd,hj⟩:=hat i hi
             exact⟨ds,Av6 hfl hd,hj⟩
            ·dsimp only at hb
             by_cases ej:j=f
             ·rw[G45 ej]at hb
              simp only[G43]at hb
              refine⟨⟨by omega,by simp only[Ty.sz];omega⟩,o,G48.2 rfl,hh,by unfold C6;rw[hg];trivial,by rw[hb]⟩
             ·rw[G41 ej]at hb;cases hb
            ·dsimp only at hb hb'
             by_cases ej:j=f
             ·by_cases ej':j'=f
              ·rw[ej,ej']
              ·rw[G41 ej']at hb';cases hb'
             ·rw[G41 ej]at hb;cases hb
     |_=>cases h
end
theorem B57 (E:Env):∀(u:List Upd),∃ns:List Nat,∀b,b∈ns↔∃n,Upd.o n .dead∈u∧E.has n∧b=(E.ρ n).1
 | []=> ⟨[],λb=> ⟨(λh=>by cases h),λ⟨n,h,_⟩=> (by cases h)⟩⟩
 | .o n ob::u=>by
  obtain⟨ns,h⟩:=B57 E u
  by_cases hc:ob= .dead∧E.has n
  ·obtain⟨rfl,hh⟩:=hc
   refine⟨(E.ρ n).1::ns,λb=> ⟨λhb=> ?_,λ⟨m,h1,h2,h3⟩=> ?_⟩⟩
   ·cases hb with
    |head=>exact⟨n,G39,hh,rfl⟩
    |tail _ hb=>
     obtain⟨m,h1,h2⟩:=(h b).1 hb
     exact⟨m,G38 _ h1,h2⟩
   ·cases h1 with
    |head=>rw[h3];exact G39
    |tail _ h1=>exact G38 _ ((h b).2 ⟨m,h1,h2,h3⟩)
  ·refine⟨ns,λb=> ⟨λhb=> ?_,λ⟨m,h1,h2,h3⟩=> ?_⟩⟩
   ·obtain⟨m,h1,h2⟩:=(h b).1 hb
    exact⟨m,G38 _ h1,h2⟩
   ·cases h1 with
    |head=>exact absurd ⟨rfl,h2⟩ hc
    |tail _ h1=>exact(h b).2 ⟨m,h1,h2,h3⟩
section
variable {P : Program} {cfg : Cfg} {E : Env} {st : St} {saved : List (Nat × List VV)} {a : Act} {S : List (Array Value)} {w w0 : World} {K : Keep}
 {R:Type} {Kk:List Upd→VV→List Loc→Option R} {l:List Loc} {r:R} {op:Oper}
theorem D47 (hX:RelX E st saved a S w w0 K) {T:TypeId} {x y:Operand} {q i:Nat} {v:V1} {l':List Loc} {e:TypeId} {t:Ty} {xs:List (El t)} (hok:LdOk P t T) (ho:op.op= .store T x y)
  (hx:CellRel E st.heap w (.eptr q i 0) (a.eval x)) (hv:V1Rel E st.heap w v (a.eval y)) (hg:B3 st.heap q=some (.tree e t xs 1)) (hlen:v.cs.length=t.sz)
  (hrun:(Cz7 t v.cs λy rest u=> (match rest with
   | []=>U2 (u++ [.o q (.tree e t (xs.set i y) 1)]) VV.un
   |_=> .fail)).run st Kk l'=some r):GoesX P op a w st saved S w0 K Kk r:=by
 obtain⟨wb,K1,hD,hT0,hB⟩:=hX
 have h0:=hB.rebase0
 have hTF:=hB.now hT0
 have hD:=hD.trans hB.drift
 obtain⟨z,rest,u,l2,h1,hu,hz⟩:=Dl9 _ _ _ _ hrun
 cases rest with
 |cons _ _=>cases h1
 |nil=>
 simp only at h1
 obtain⟨hd,hK⟩:=S6 h1
 rw[G64]at hd
 obtain⟨hd1,_,hdj⟩:=F4 hd
 have hnq:q∉u.map Upd.name:=λhm=>hdj q hm (by simp[Upd.name])
 have hvc:=hv.cells
 obtain⟨v1,v2,γ,e1,hel,hv2,hγ,hinj⟩:=hz (f:=0) h0 hvc hd1
 cases hv2
 rw[G59]at e1
 subst e1
 have hk:∀x∈u,∃n e t xs own,x= .o n .dead∧B3 st.heap n=some (.row e t xs own):=λx hx=>by
  obtain⟨n,e,t,xs,g1,g2⟩:=hu x hx
  exact⟨n,e,t,xs,true,g1,g2⟩
 have h:=h0.kills u hd1 hk
 have hdead:∀n ob,Upd.o n ob∈u→ob= .dead∧C6 st.heap n∧∃e t xs,B3 st.heap n=some (.row e t xs true):=λn ob hx=>by
  obtain⟨m,e,t,xs,g1,g2⟩:=hu _ hx
  injection g1 with g3 g4
  subst g3
  exact⟨g4,by unfold C6;rw[g2];trivial,e,t,xs,g2⟩
 obtain⟨β,hT⟩:=hTF.upds (u:=u) (λn ob hx=>by rw[(hdead n ob hx).1];rfl) (λn ob hx o hgo=>Ex8 (hdead n ob hx).2.1 hgo)
 have hg1:B3 (st.upds u).heap q=some (.tree e t xs 1):=by rw[G7 u st q hnq];exact hg
 have hs:hsh st.heap q=some (.row e t xs.length):=by simp[hsh,hg,E3]
 simp only[CellRel,hs]at hx
 obtain⟨hlt,hptr⟩:=hx
 obtain⟨p1,p2⟩:=hT.tr q e t xs 1 hg1
 have hth:K1.th q:=p1.resolve_right λe=>by subst e;simp at hlt
 obtain⟨hat,hmine⟩:=p2 hth
 obtain⟨-,eρ⟩:=h0.ta q _ hg rfl
 rw[eρ]at hptr
 rw[G69]at hptr
 obtain⟨ds,hdi,hdc⟩:=hat.row i hlt
 have hvl:=hel.len
 have hx:=Ct1 (P:=P) (t:=t) (i:=i) (f:=0) hok ho hptr hv hlen (λj hj=>by
  rw[hdc j hj,G36 (by rw[hdi.len];omega)];rfl) hat.nf
 have hput:=G0 (K1.ta q).1 (a.eval y).cells.toList ((K1.ta q).2+i*t.sz) w
 obtain⟨ns,hns⟩:=B57 E u
 have hfree:∀b∈ns,Free E (st.upds u).heap K1 w b:=λb hb=>by
  obtain⟨n,m1,m2,rfl⟩:=(hns b).1 hb
  obtain⟨_,hl,e',t',xs',hgn⟩:=hdead n _ m1
  obtain⟨f1,f2⟩:=h0.dk n hl m2
  refine⟨λm hm hm'=> ?_,f1,f2,h0.bd n (by rw[hgn];rfl) m2⟩
  have hmu:m∉u.map Upd.name:=λhmu=>by
   obtain⟨ob,k1⟩:=At5 hmu
   have:=(hdead m ob k1).1
   subst this
   unfold C6 at hm
   rw[W8 u st m _ hd1 k1]at hm
   exact hm
  have hne:m≠n:=λe=>hmu (by rw[e];exact G79.2 ⟨_,m1,rfl⟩)
  exact h0.dj m n hne (Ci0 hmu hm) hl hm' m2
 have hγns:∀j b p,γ j=some (b,p)→b∈ns:=λj b p hb=>by
  obtain⟨_,n,m1,m2,m3,m4⟩:=hγ j b p hb
  exact(hns b).2 ⟨n,m1,m2,m4⟩
 have hnK:∀i' f' b p,β q i' f'=some (b,p)→b∉ns:=λi' f' b p hb hm=> (hfree b hm).2.2.1 (hmine b (.inr ⟨i',f',p,hb⟩)).1
 have hput2:=hat.put (z:=z) (f:=0) (vs:=(a.eval y).cells.toList) hlt (λi'=>if i'=i then γ else β q i') (λi' hi'=>by simp[hi']) hdc hdi.len (by omega)
  (by rw[Cs7 _ _ (by rw[hdi.len,hvl])];simpa using hel)
  (λi1 f1 i2 f2 b c c' hb hb'=>by
   by_cases e1:i1=i
   ·by_cases e2:i2=i
    ·rw[G45 e1]at hb;rw[G45 e2]at hb'
     exact⟨e1.trans e2.symm,hinj _ _ _ _ _ hb hb'⟩
    ·rw[G45 e1]at hb;rw[G41 e2]at hb'
     exact absurd (hγns _ _ _ hb) (hnK _ _ _ _ hb')
   ·by_cases e2:i2=i
    ·rw[G41 e1]at hb;rw[G45 e2]at hb'
     exact absurd (hγns _ _ _ hb') (hnK _ _ _ _ hb)
    ·rw[G41 e1]at hb;rw[G41 e2]at hb'
     exact hat.inj _ _ _ _ _ _ _ hb hb')
  (λi1 f1 b c hb=>by
   by_cases e1:i1=i
   ·rw[G45 e1]at hb
    intro eb
    exact(hfree b (hγns _ _ _ hb)).2.2.1 (by rw[eb];exact(hmine _ (.inl rfl)).1)
   ·rw[G41 e1]at hb
    exact hat.ne _ _ _ _ hb)
  (λf1 b c hb=>by
   simp only[if_true]at hb
   have:=(hγ f1 b c hb).1
   omega)
 rw[G69]at hput2
 obtain⟨r1,r2,r3⟩:=h.retree hT hg1 hth (xs':=xs.set i z) 1 (by simp) (λi'=>if i'=i then γ else β q i') ns hfree (λb _ hb=>hput.other b λe=>hb (.inl e)) (by rw[hput.size];exact G53 _) hput.room hput.os hput.tape hput.out
  (λi1 f1 b c hb=>by
   by_cases e1:i1=i
   ·rw[G45 e1]at hb;exact .inl (hγns _ _ _ hb)
   ·rw[G41 e1]at hb;exact .inr ⟨_,_,_,hb⟩) hput2 (λh=>by unfold Fx at h;omega) (λn i' f' e' t' m hn hq=>by unfold Cur at hq;omega)
 refine⟨_,_,_,hK,λQ next hn=> ?_⟩
 unfold Oper.wp
 rw[hx]
 refine hn _ _ E (RelX.put ⟨_,_,hD.trans r3, ?_, ?_⟩ op.dst (show VRel _ _ _ .un undef from trivial))
 ·rw[H3];exact r2
 ·rw[H3];exact r1
end
end Go.Vm
end
section
namespace Go.Vm
open Go
section
variable {P : Program} {cfg : Cfg} {E : Env} {st : St} {saved : List (Nat × List VV)} {a : Act} {S : List (Array Value)} {w w0 : World} {K : Keep}
 {R:Type} {Kk:List Upd→VV→List Loc→Option R} {l:List Loc} {r:R} {op:Oper}
def Keep.name (K:Keep) (nm:Nat) (pr:Nat×Nat) (b:Prop):Keep:={K with ta:=λn=>if n=nm then pr else K.ta n,th:=λn=> (n=nm∧b)∨(n≠nm∧K.th n)}
theorem RelE.newBor (h:RelE E st saved a S w w K) {β:Nat→Nat→Nat→Option (Nat×Nat)} (hT:TFB st.heap w K β) {nm:Nat} (hn:B3 st.heap nm=none) {o i f:Nat} {e:TypeId} {t:Ty} {m:Nat} {ob:Obj}
  (hg:B3 st.heap o=some ob) (pr:Nat×Nat) (b:Prop) (hp:b→pr.1<w.heap.size)
  (hc1:∀e2 t2 xs q,ob= .tree e2 t2 xs q→Cur q nm→K.th o∧i<xs.length∧(b→β o i f=some pr)∧∃ys:List (El t),(B1 t2 (rd (K8 t2) xs i))[f]? =some (.slc e t ys)∧ys.length=m)
  (hc2:∀e2 t2 xs i2 f2,ob= .pend e2 t2 xs i2 f2 nm→i2=i∧f2=f∧b∧K.th o∧i<xs.length∧(b→β o i f=some pr)∧∃ys:List (El t),(B1 t2 (rd (K8 t2) xs i))[f]? =some (.slc e t ys)∧ys.length=m):
  RelE (E.at nm pr b) ⟨st.tmps,hset st.heap nm (.bor o i f e t m)⟩ saved a S w w (K.name nm pr b)∧TFB (hset st.heap nm (.bor o i f e t m)) w (K.name nm pr b) β:=by
 have r1:RelE E st saved a S w w (K.name nm pr b):=h.rebase (λb hb=> (h.kp b hb).1) (λn hl hh=> (h.dk n hl hh).2) h.oz (λn ob hg ho=>by
  have hne:n≠nm:=D2 hn (by rw[hg];rfl)
  obtain⟨p1,p2⟩:=h.ta n ob hg ho
  exact⟨p1.trans ⟨λz=> .inr ⟨hne,z⟩,λz=>z.elim (λz=>absurd z.1 hne) λz=>z.2⟩,by rw[p2];simp[Keep.name,hne]⟩)
 have eta:(K.name nm pr b).ta nm=pr:=by simp[Keep.name]
 have r2:=r1.nameT hn b (.bor o i f e t m) rfl (λhb=>by rw[eta];exact hp hb) ⟨λz=>z.elim (λz=>z.2) λz=>absurd rfl z.1,λz=> .inl ⟨rfl,z⟩⟩
 rw[eta]at r2
 refine⟨r2, ?_⟩
 have hold:∀n ob,n≠nm→B3 (hset st.heap nm (.bor o i f e t m)) n=some ob→B3 st.heap n=some ob:=λn ob hne hg=>by rwa [A9,G41 hne]at hg
 have hth':∀n,n≠nm→((K.name nm pr b).th n↔K.th n):=λn hne=> ⟨λz=>z.elim (λz=>absurd z.1 hne) λz=>z.2,λz=> .inr ⟨hne,z⟩⟩
 have hta':∀n,n≠nm→(K.name nm pr b).ta n=K.ta n:=λn hne=>by simp[Keep.name,hne]
 have hblk:∀n,n≠nm→∀x,Blk (K.name nm pr b) β n x→Blk K β n x:=λn hne x hx=>by
  unfold Blk at hx ⊢
  rwa [hta' n hne]at hx
 have net:∀n ob,ob.isT→B3 (hset st.heap nm (.bor o i f e t m)) n=some ob→n≠nm:=λn ob hob hg en=>by
  rw[A9,G45 en]at hg
  cases hg
  exact hob
 have eo:o≠nm:=D2 hn (by rw[hg];rfl)
 refine⟨λn e' t' xs' q' hg'=> ?_,λn e' t' xs' i' f' m' hg'=> ?_,λn e' t' xs' q' hg' hq hz=> ?_,λn n' ob ob' hne hg1 hg2 he he' hth1 hth2 x hx hx'=> ?_,λn o' i' f' e' t' m' hg'=> ?_⟩
 ·have en:=net n (.tree e' t' xs' q') trivial hg'
  obtain⟨p1,p2⟩:=hT.tr n e' t' xs' q' (hold n _ en hg')
  refine⟨p1.imp (hth' n en).2 id,λz=> ?_⟩
  obtain⟨q1,q2⟩:=p2 ((hth' n en).1 z)
  exact⟨by rw[hta' n en];exact q1,λx hx=>q2 x (hblk n en x hx)⟩
 ·have en:=net n (.pend e' t' xs' i' f' m') trivial hg'
  obtain⟨p1,q1,q2⟩:=hT.pd n e' t' xs' i' f' m' (hold n _ en hg')
  exact⟨(hth' n en).2 p1,by rw[hta' n en];exact q1,λx hx=>q2 x (hblk n en x hx)⟩
 ·have en:=net n (.tree e' t' xs' q') trivial hg'
  rw[hta' n en]
  exact hT.fx n _ _ _ _ (hold n _ en hg') hq ((hth' n en).1 hz)
 ·have n1:=net n _ he hg1
  have n2:=net n' _ he' hg2
  exact hT.ap n n' ob ob' hne (hold n _ n1 hg1) (hold n' _ n2 hg2) he he' ((hth' n n1).1 hth1) ((hth' n' n2).1 hth2) x (hblk n n1 x hx) (hblk n' n2 x hx')
 ·by_cases en:n=nm
  ·subst en
   rw[A9,G45 rfl]at hg'
   cases hg'
   have hTh:(K.name n pr b).th n↔b:=⟨λz=>z.elim (λz=>z.2) λz=>absurd rfl z.1,λz=> .inl ⟨rfl,z⟩⟩
   refine⟨by rw[A9,G41 eo,hg];rfl,λe2 t2 xs q hg2 hq=> ?_,λe2 t2 xs i2 f2 hg2=> ?_⟩
   ·rw[A9,G41 eo,hg]at hg2
    cases hg2
    obtain⟨c1,c2,c3,c4⟩:=hc1 _ _ _ _ rfl hq
    exact⟨(hth' o eo).2 c1,c2,λz=>by rw[eta];exact c3 (hTh.1 z),c4⟩
   ·rw[A9,G41 eo,hg]at hg2
    cases hg2
    obtain⟨d1,d2,d3,c1,c2,c3,c4⟩:=hc2 _ _ _ _ _ rfl
    exact⟨d1,d2,hTh.2 d3,(hth' o eo).2 c1,c2,λz=>by rw[eta];exact c3 (hTh.1 z),c4⟩
  ·obtain⟨b1,b2,b3⟩:=hT.bo n o' i' f' e' t' m' (hold n _ en hg')
   have eo':o'≠nm:=D2 hn b1
   have cl:∀t2 (x2:List (El t2)),Ay7 K β n o' i' f' e' t' m' t2 x2→Ay7 (K.name nm pr b) β n o' i' f' e' t' m' t2 x2:=λt2 x2 ⟨c1,c2,c3,c4⟩=> ⟨(hth' o' eo').2 c1,c2,λz=>by rw[hta' n en];exact c3 ((hth' n en).1 z),c4⟩
   refine⟨by rw[A9,G41 eo'];exact b1,λe2 t2 x2 q hg2 hq=>cl _ _ (b2 e2 t2 x2 q (hold o' _ eo' hg2) hq),λe2 t2 x2 i2 f2 hg2=> ?_⟩
   obtain⟨d1,d2,d3,d4⟩:=b3 e2 t2 x2 i2 f2 (hold o' _ eo' hg2)
   exact⟨d1,d2,(hth' n en).2 d3,cl _ _ d4⟩
theorem Dr.name {w:World} {K:Keep} {nm:Nat} {pr:Nat×Nat} {b:Prop}:Dr w K w (K.name nm pr b):=⟨rfl,rfl,rfl,G53 _,λb h=> ⟨h,λ_=>rfl⟩,λb _ h=>h,λb _ h=>h,λ_ _ h=>h,λ_ _=>rfl⟩
theorem Gk8 (hX:RelX E st saved a S w w0 K) {nm:Nat} {T:TypeId} {t0:Ty} {x:Operand} {q i f:Nat} {e:TypeId} {t:Ty} {xs:List (El t)} {fl:Nat} {l':List Loc} (hok:LdOk P t0 T) (ho:op.op= .load T x)
  (hx:CellRel E st.heap w (.eptr q i f) (a.eval x)) (hg:B3 st.heap q=some (.tree e t xs fl)) (hrun:(Gc6 nm t0 q i f e t xs fl).run st Kk l'=some r):GoesX P op a w st saved S w0 K Kk r:=by
 obtain⟨wb,K1,hD,hT0,hB⟩:=hX
 have h:=hB.rebase0
 obtain⟨β,hT⟩:=hB.now hT0
 have hD:=hD.trans hB.drift
 have hs:hsh st.heap q=some (.row e t xs.length):=by simp[hsh,hg,E3]
 simp only[CellRel,hs]at hx
 obtain⟨hlt,hptr⟩:=hx
 obtain⟨p1,p2⟩:=hT.tr q e t xs fl hg
 have hth:K1.th q:=p1.resolve_right λe=>by subst e;simp at hlt
 obtain⟨hat,hmine⟩:=p2 hth
 obtain⟨-,eρ⟩:=h.ta q _ hg rfl
 rw[eρ]at hptr
 obtain⟨ds,hdi,hdc⟩:=hat.row i hlt
 rw[←C00 (z:=K8 t) hlt]at hdi
 have hdc':∀j v,ds[j]? =some v→w.cell? ⟨(K1.ta q).1,(K1.ta q).2+i*t.sz+j,none⟩=some v:=λj v hv=>by
  have hj:j<ds.length:=by
   rcases G96 j ds.length with h|h
   ·exact h
   ·rw[G75 h]at hv;cases hv
  rw[hdc j (by rw[←hdi.len];exact hj),hv]
 unfold Gc6 at hrun
 cases hfl:t0.flat with
 |true=>
  rw[hfl]at hrun
  simp only[G52]at hrun
  cases hb:(Nat.ble (f+t0.sz) t.sz&&(((B1 t (rd (K8 t) xs i)).drop f).take t0.sz).all Fo4)with
  |false=>rw[hb]at hrun;cases hrun
  |true=>
   rw[hb]at hrun
   simp only[G52,RP.run]at hrun
   simp only[G37]at hb
   have hle:=G73 hb.1
   obtain⟨V,hV,hr⟩:=Ch8 (st:=st) (E:=E) (w:=w) hok (cs:=((B1 t (rd (K8 t) xs i)).drop f).take t0.sz) (vs:=(ds.drop f).take t0.sz) (g:=(K1.ta q).1) (p:=(K1.ta q).2+i*t.sz+f)
    (by have:=T3 t (rd (K8 t) xs i);simp;omega) ((((Cs9 hdi).drop f).take t0.sz).all hb.2) (Eq5 hdc')
   refine⟨[],_,_,hrun,λQ next hn=> ?_⟩
   unfold Oper.wp
   rw[show(execOp a.eval op).run P w= .ok (.value V) w by simp[execOp,ho,hptr,hV]]
   exact hn _ _ E (RelX.put ⟨_,_,hD,⟨β,hT⟩,h⟩ op.dst hr)
 |false=>
  rw[hfl]at hrun
  simp only[G72]at hrun
  split at hrun
  ·rename_i e2 t2 e3 t3 ys hex
   cases hb:(Nat.beq e2 e3&&decide (t2=t3)&&t2.flat)with
   |false=>rw[hb]at hrun;cases hrun
   |true=>
    rw[hb]at hrun
    simp only[G52]at hrun
    simp only[G37]at hb
    have he:=G35 hb.1.1
    have ht:=G62 hb.1.2
    subst he;subst ht
    obtain⟨hfr,l2,h2⟩:=L9 hrun
    obtain⟨-,A,c,hc1,hc2,hc3⟩:=Av7 hdi hex
    rw[G78]at hc3
    have eq:q≠nm:=D2 hfr (by rw[hg];rfl)
    have mode:∃(u:List Upd) (st1:St) (β1:Nat→Nat→Nat→Option (Nat×Nat)) (q1:Nat) (l3:List Loc),Kk (u++ [.o nm (.bor q i f e2 t2 ys.length)]) (one (.row nm none none)) l3=some r∧st.upds u=st1∧RelE E st1 saved a S w w K1∧TFB st1.heap w K1 β1∧B3 st1.heap q=some (.tree e t xs q1)∧B3 st1.heap nm=none∧β1=β∧st1.tmps=st.tmps:=by
     cases hfl0:Nat.beq fl 0 with
     |true=>
      rw[hfl0]at h2
      exact⟨[],st,β,fl,l2,h2,rfl,h,hT,hg,hfr,rfl,rfl⟩
     |false=>
      rw[hfl0]at h2
      refine⟨[.o q (.tree e t xs (2*nm+5))],⟨st.tmps,hset st.heap q (.tree e t xs (2*nm+5))⟩,β,2*nm+5,l2,h2,rfl,h.reshape hg rfl rfl rfl,hT.retag hg (λhx=>by unfold Fx at hx;omega) (λn hn hc=> ?_),by rw[A9,G45 rfl],by rw[A9,G41 (λe=>eq e.symm)];exact hfr,rfl,rfl⟩
      have:n=nm:=by unfold Cur at hc;omega
      rw[this,hfr]at hn;cases hn
    obtain⟨u,st1,β1,q1,l3,hK,hu,hr1,hT1,hg1,hfr1,rfl,htm⟩:=mode
    have fin:∀(pr:Nat×Nat) (b:Prop),(b→pr.1<w.heap.size)→(b→β1 q i f=some pr)→(c=0∨(b∧A=some ⟨pr.1,pr.2,none⟩∧Room w pr.1 (pr.2+c*t2.sz)))→GoesX P op a w st saved S w0 K Kk r:=λpr b g1 g2 g3=>by
     obtain⟨r1,r2⟩:=hr1.newBor hT1 hfr1 (m:=ys.length) (e:=e2) (t:=t2) (i:=i) (f:=f) hg1 pr b g1 (λe3 t3 x3 q3 hq _=>by cases hq;exact⟨hth,hlt,g2,ys,hex,rfl⟩) (λe3 t3 x3 i3 f3 hq=>by cases hq)
     have hs':hsh (hset st1.heap nm (.bor q i f e2 t2 ys.length)) nm=some (.row e2 t2 ys.length):=by rw[F5,G45 rfl];rfl
     have hcell:CellRel (E.at nm pr b) (hset st1.heap nm (.bor q i f e2 t2 ys.length)) w (.row nm none none) (.slice A ys.length c):=by
      simp only[CellRel,hs']
      refine⟨trivial,A,c,rfl,by simpa [I8]using hc2,g3.imp id λ⟨k1,k2,k3⟩=> ⟨by simpa [Env.at]using k1,by simpa [Env.at,I8]using k2,by simpa [Env.at,I8]using k3⟩⟩
     obtain⟨V,hV,hr⟩:=Ch8 (st:=⟨st1.tmps,hset st1.heap nm (.bor q i f e2 t2 ys.length)⟩) (E:=E.at nm pr b) (w:=w) hok (cs:=[.row nm none none]) (vs:=[.slice A ys.length c]) (g:=(K1.ta q).1) (p:=(K1.ta q).2+i*t.sz+f)
      rfl (.cons hcell .nil) (λj v hj=>by
       cases j with
       |zero=>
        simp only[Ha2,G43]at hj
        subst hj
        rw[G69,G83]
        have:=hdc' f _ hc1
        rwa [G83]at this
       |succ j=>simp at hj)
     refine⟨_,_,_,hK,λQ next hn=> ?_⟩
     unfold Oper.wp
     rw[show(execOp a.eval op).run P w= .ok (.value V) w by simp[execOp,ho,hptr,hV]]
     have ee:st.upds (u++ [.o nm (.bor q i f e2 t2 ys.length)])=⟨st1.tmps,hset st1.heap nm (.bor q i f e2 t2 ys.length)⟩:=by rw[H3,hu];rfl
     have fx:RelX (E.at nm pr b) ⟨st1.tmps,hset st1.heap nm (.bor q i f e2 t2 ys.length)⟩ saved a S w w0 K:=⟨_,_,hD.trans Dr.name,⟨_,r2⟩,r1⟩
     have fx:=fx.put (v:=one (.row nm none none)) op.dst hr
     rw[←ee]at fx
     exact hn _ _ _ fx
    rcases hc3 with⟨rfl,_⟩|⟨b,p,k1,k2,k3,k4,k5⟩
    ·exact fin (0,0) False (λf=>f.elim) (λf=>f.elim) (.inl rfl)
    ·exact fin (b,p) True (λ_=>k5.lt) (λ_=>k1) (.inr ⟨trivial,k2,k5⟩)
  ·cases hrun
theorem Dg7 {w:World} {β:Nat→Option (Nat×Nat)}:∀(t:Ty) (f:Nat),t.one=true→(∀j,β j=none)→TElt w β t f (K8 t) (F1 t)
 | .int _,_,_,_=>rfl
 | .bool,_,_,_=>rfl
 | .str,_,_,_=>rfl
 | .slice _ _,f,h,hb=> ⟨h,none,0,rfl,G53 _, .inl ⟨rfl,hb f⟩⟩
 | .nil,_,_,_=>rfl
 | .fld p q,f,h,hb=>by
  simp only[Ty.one,G37]at h
  exact⟨_,_,rfl,Dg7 p f h.1 hb,Dg7 q _ h.2 hb⟩
theorem Gk9 (hG:Good P cfg) (hX:RelX E st saved a S w w0 K) {T:TypeId} {n m:Operand} {nm:Nat} {e:TypeId} {t:Ty} (ho:op.op= .makeSlice T n m) (hT:look cfg.tab T=some (.slice e t)) (hone:t.one=true)
  (hrun:(bif Nat.beq t.sz 0 then .fail else rdI n λ_ a=>rdI m λ_ b=>
   .ite (decide (a=b)) (.ite (decide (0≤a)) (.ite (decide (a.toNat≤A5)) (O7 nm (.done [.o nm (.tree e t (List.replicate a.toNat (K8 t)) 1)] (one (.row nm none none)))) .fail) .fail) .fail).run st Kk l=some r):GoesX P op a w st saved S w0 K Kk r:=by
 obtain⟨wb,K1,hD,hT0,hB⟩:=hX
 have h:=hB.rebase0
 have hTF:=hB.now hT0
 have hD:=hD.trans hB.drift
 have hok:=hG.tab T _ hT
 cases hz:Nat.beq t.sz 0 with
 |true=>rw[hz]at hrun;cases hrun
 |false=>
  rw[hz]at hrun
  simp only[G72]at hrun
  have hsz:0<t.sz:=by
   rcases Hb5 t.sz with h|h
   ·rw[h]at hz;cases hz
   ·exact h
  obtain⟨kn,p,l1,h1,hn⟩:=At3 n _ hrun
  obtain⟨km,q,l2,h2,hm⟩:=At3 m _ h1
  have hn:=hn h
  have hm:=hm h
  obtain⟨b1,h21⟩:=T2 h2
  obtain⟨b2,h22⟩:=T2 h21
  obtain⟨b3,h23⟩:=T2 h22
  have c1:p=q:=G62 b1
  have c2:0≤p:=G62 b2
  have c3:p.toNat≤549755813888:=G62 b3
  obtain⟨hfr,l3,h3⟩:=L9 h23
  clear h2 h21 h22 b1
  subst c1
  obtain⟨z,hzv,hzc⟩:=Ah2 (P:=P) hok.2.2
  obtain⟨i,hi,hs,hzero,hb⟩:=(show TyOk P t e from hok.2.2).base.info
  have hzs:z.cells.size=t.sz:=by rw[←G68,hzc,J3]
  have hlen:(List.replicate p.toNat (F1 t)).flatten.length=p.toNat*t.sz:=by
   rw[G8 (n:=t.sz) _ (λc hc=>by rw[(List.mem_replicate.1 hc).2,J3])];simp
  have harr:(List.replicate p.toNat (F1 t)).flatten.toArray=madeCells z.cells (p.toNat*i.size):=by
   apply G65.1
   rw[hs,←hzs,madeCells,Bn7 _ _ (by omega),hzc]
  have hz1:(zeroValue e).run P w= .ok z w:=hzv w
  have hzi:i.zero=some z:=by
   have:=hz1
   simp only[zeroValue,typeInfo,Sem.run_bind,run_program,Result.andThen_ok,hi,Sem.run_pure,hzero]at this
   rw[hzero]
   simpa using this
  have hbb:(i.bytes:Int)*p≤281474976710656:=by
   have h1:i.bytes*p.toNat≤256*549755813888:=Nat.mul_le_mul hb c3
   have h2:((i.bytes*p.toNat:Nat):Int)≤((256*549755813888:Nat):Int):=Int.ofNat_le.2 h1
   rw[Int.natCast_mul,Int.toNat_of_nonneg c2]at h2
   omega
  have hx:(execOp a.eval op).run P w= .ok (.value (.slice (some ⟨w.heap.size,0,none⟩) p.toNat p.toNat)) (w.alloc (.cells (List.replicate p.toNat (F1 t)).flatten.toArray e)):=by
   rw[harr]
   simp[execOp,ho,hn,hm,run_make (P:=P) w T e i z hok.2.1 hi hzi kn km p p c2 (Int.le_refl _) hbb (by omega)]
  have hnew:(w.alloc (.cells (List.replicate p.toNat (F1 t)).flatten.toArray e)).heap[w.heap.size]? =some (.cells (List.replicate p.toNat (F1 t)).flatten.toArray e):=Q0 ..
  have hsize:(w.alloc (.cells (List.replicate p.toNat (F1 t)).flatten.toArray e)).heap.size=w.heap.size+1:=by simp
  have r1:=h.after (w':=w.alloc (.cells (List.replicate p.toNat (F1 t)).flatten.toArray e)) (by omega) (λb hb=>Aa7 hb) rfl rfl rfl (λ_=>False) (λb hb=>hb.elim)
  have t1:=r1.now hTF
  have r2:=r1.rebase0
  have hfree:∀b∈w.heap.size::([]:List Nat),Free ⟨E.ρ,E.has,λb=>E.ok b∨False⟩ st.heap K1 (w.alloc (.cells (List.replicate p.toNat (F1 t)).flatten.toArray e)) b:=λb hb=>by
   have:b=w.heap.size:=by simpa using hb
   subst this
   refine⟨λn hl hh=> ?_,λhk=>hk.elim (λhk=>absurd (h.bo _ hk) (Nat.lt_irrefl _)) id,λhk=>absurd (h.kp _ hk).1 (Nat.lt_irrefl _),by omega⟩
   exact Nat.ne_of_lt (h.bd n (J4 hl) hh)
  have hTr:TreeAt (w.alloc (.cells (List.replicate p.toNat (F1 t)).flatten.toArray e)) w.heap.size 0 t (λ_ _=>none) (List.replicate p.toNat (K8 t)):=by
   refine⟨λi hi=> ⟨F1 t, ?_,λj hj=> ?_⟩,λoff _=> ?_,(λi f i' f' b p p' hb=>by cases hb),(λi f b p hb=>by cases hb),λi f b p hb=>by cases hb⟩
   ·rw[List.getElem_replicate]
    exact Dg7 t 0 hone λ_=>rfl
   ·have hi':i<p.toNat:=by simpa using hi
    have:=t6 (List.replicate p.toNat (F1 t)) i j (λc hc=>by rw[(List.mem_replicate.1 hc).2,J3]) hj [] (by simpa using hi')
    rw[G59]at this
    simp only[World.cell?,hnew,G78]
    have e1:(List.replicate p.toNat (F1 t))[i]? =some (F1 t):=by simp[hi']
    rw[e1]at this
    simpa using this
   ·simp only[World.frozen?,hnew]
    simp
  obtain⟨r3,t3⟩:=r2.newTree t1 hfr e 1 hfree (ns:=[]) (λb=> ⟨(λh=>by cases h),λ⟨i,f,p,h⟩=> (by cases h)⟩) hTr
  refine⟨_,_,l3,h3,λQ next hnx=> ?_⟩
  unfold Oper.wp
  rw[hx]
  have hdr:Dr (w.alloc (.cells (List.replicate p.toNat (F1 t)).flatten.toArray e)) K1 (w.alloc (.cells (List.replicate p.toNat (F1 t)).flatten.toArray e)) (K1.plus nm w.heap.size 0 [] (λ_ _=>none)):=⟨rfl,rfl,rfl,G53 _,λb hb=> ⟨.inl hb,λ_=>rfl⟩,λb _ ho=>ho.1,λb hb hp=>hp.resolve_right λhm=> (hfree b hm).2.2.1 hb,λ_ _ h=>h,λb hk=>by
   have hne:b≠w.heap.size:=λe=> (hfree w.heap.size G39).2.2.1 (e▸hk)
   simp[Keep.plus,hne]⟩
  refine hnx _ _ _ (RelX.put ⟨_,_,(hD.trans r1.drift).trans hdr,t3,r3⟩ op.dst (VRel.one ?_))
  have hs':hsh (hset st.heap nm (.tree e t (List.replicate p.toNat (K8 t)) 1)) nm=some (.row e t p.toNat):=by rw[F5,G45 rfl];simp[E3]
  simp only[CellRel,hs',St.upds,St.upd]
  refine⟨trivial,_,p.toNat,rfl,by simp[I8], .inr ⟨by simp[Env.at],by simp[Env.at,I8], ?_⟩⟩
  refine⟨_,_,_,by simpa [Env.at]using hnew, ?_⟩
  simp[Env.at,I8,hlen]
end
end Go.Vm
end
section
namespace Go.Vm
open Go
section
variable {st : St} {R : Type} {Kk : List Upd → VV → List Loc → Option R} {l : List Loc} {r : R} {P : Program} {f : FuncId}
theorem B58:∀(s:MSpec) (vs:List V1) (k:VV→Po→RP) (l:List Loc),(B14 s vs k).run st Kk l=some r→
  ∃out p l',(k (X8 (I7 (λn=>n) 0 out).1) p).run st Kk l'=some r∧(I7 (λn=>n) 0 out).2=[]∧S5 out=false∧
   ∀{E saved a S w w0 K ok Vs pre ds},RelE E st saved a S w w0 K→TF st.heap w K→(∀b,E.ok b→ok b)→All2 (V1Rel E st.heap w) vs Vs→(∀g,D28=some g→g∉ds.flatMap MD.blk)→MOk P f ok w s pre ds→
    Calls P f (pre++Vs).toArray w λe w'=> ∃V,e= .returned V∧RetM ok w w' out V ds [p]:=by
 intro s
 induction s with
 |box t k ih=>intro vs k l h;cases vs<;>simp[B14,RP.run]at h
 |row e t k ih=>intro vs k l h;cases vs<;>simp[B14,RP.run]at h
 |tree e t k ih=>intro vs k l h;cases vs<;>simp[B14,RP.run]at h
 |body o out post=>
  intro vs k l h
  cases vs with
  |cons v vs=>simp[B14,RP.run]at h
  |nil=>
   simp only[B14]at h
   cases o with
   |none=>cases h
   |some a=>
    simp only[RP.run]at h
    split at h
    ·rename_i p hp hl
     cases hs:S5 (out a)with
     |true=>rw[hs]at h;cases h
     |false=>
      rw[hs]at h
      refine⟨out a,p,l,h,hl,hs,λ{E saved a' S w w0 K ok Vs pre ds} hr ht hok hv he hm=> ?_⟩
      cases hv
      rw[G59]
      have:=hm he a rfl
      rwa [hp]at this
    ·cases h
 |imm t k0 ih=>
  intro vs k l h
  cases vs with
  |nil=>simp[B14,RP.run]at h
  |cons v vs=>
   simp only[B14]at h
   cases hag:(bif v.agg then t.agg else !t.agg)with
   |false=>rw[hag]at h;cases h
   |true=>
    rw[hag]at h
    simp only[G52]at h
    obtain⟨x,rest,ns1,l1,h1,hns1,hx⟩:=Bn9 _ _ _ _ h
    split at h1
    ·obtain⟨out,p,l2,h2,h3,h4,hcall⟩:=ih x vs k l1 h1
     refine⟨out,p,l2,h2,h3,h4,λ{E saved a' S w w0 K ok Vs pre ds} hr ht hok hv he hm=> ?_⟩
     cases hv with
     |@cons _ V _ Vs' pv q=>
      have harg:Be3 ok w t x V:=by
       obtain⟨us,hus,hV⟩:=pv
       obtain⟨v1,v2,e1,hi,hv2⟩:=hx hr ht hus
       cases hv2
       rw[G59]at e1
       subst e1
       refine⟨us,hi.mono (λb hb=>hok b ?_) (λ_ _=>rfl), ?_⟩
       ·rcases hb with(hb|⟨n,hn,_⟩)|⟨⟨n,hn,_⟩,_⟩
        ·exact hb
        ·cases hn
        ·cases hn
       ·rcases hV with⟨h1,h2⟩|⟨h1,h2⟩
        ·rw[h1]at hag;exact .inl ⟨hag,h2⟩
        ·rw[h1]at hag;exact .inr ⟨by simpa using hag,h2⟩
      have:=hcall hr ht hok q he (hm x V harg)
      rwa [G46]at this
    ·cases h1
end
section
variable {P : Program} {cfg : Cfg} {E : Env} {st : St} {saved : List (Nat × List VV)} {a : Act} {S : List (Array Value)} {w w' w0 : World} {K : Keep}
 {R:Type} {Kk:List Upd→VV→List Loc→Option R} {l:List Loc} {r:R} {op:Oper}
theorem D48 (w n:Nat):¬Cur (B47 w) n:=λh=>by
 unfold B47 at h
 cases hb:(Nat.beq w 0||Nat.beq w 2)<;>rw[hb]at h<;>unfold Cur at h<;>simp at h<;>omega
theorem Er7 {w:Nat} (h:Fx (B47 w)):Fx w:=by
 unfold B47 at h
 cases hb:(Nat.beq w 0||Nat.beq w 2)with
 |false=>rw[hb]at h;unfold Fx at h;simp at h
 |true=>
  simp only[Bool.or_eq_true]at hb
  exact hb.imp G35 G35
theorem Ci1 {st':St} {K1 K1':Keep} (h:RelE E st saved a S w w K1) (r1:RelE E st' saved a S w' w' K1') (r2:TF st'.heap w' K1') (hD:Dv w0 K w' K1') (hlive:∀n,C6 st'.heap n→C6 st.heap n) (hk:∀b,K1'.k b→b<w.heap.size)
  {out:List (Bool×List RC)} {V:Value} {d:MD} {p:Po} (hp:Ap1 [d] [p]=[]) (hlay:(I7 (λn=>n) 0 out).2=[]) (hsh:S5 out=false) (hret:RetM E.ok w w' out V [d] [p]) (dst:Option Tmp):
  ∃E',RelX E' (s8 st' dst (X8 (I7 (λn=>n) 0 out).1)) saved (a.put dst V) S w' w0 K:=by
 obtain⟨good,Vs,bs,hgood,hres,hnd,hbs,rfl,hpo⟩:=hret.res
 have hres':ResRel E.ok w' out Vs bs:=hres.imp λx hx rc hrc v bs hr=>hr.flat (by
  unfold S5 at hsh
  have h6:=List.any_eq_false.1 hsh x hx
  have h7:x.2.any RC.shared=false:=by simpa using h6
  have:=List.any_eq_false.1 h7 rc hrc
  simpa using this)
 obtain⟨E',K',r4,t4,g4,hV,_⟩:=Bo0 out 0 (nm:=λn=>n) (ok:=E.ok) r1 r2 (λn hn=>by rw[hlay]at hn;cases hn) (by rw[hlay];rfl) hres' (λb hb=>hb) hnd (λb hb=>by
  rcases hbs b hb with⟨g1,g2,g3⟩|hg
  ·refine⟨λn hl hh=> ?_,λhk'=> ?_,λhk'=> ?_,g2⟩
   ·exact Nat.ne_of_lt (G80 (h.bd n (J4 (hlive n hl)) hh) g1)
   ·exact absurd (h.bo b hk') (Nat.not_lt.2 g1)
   ·exact absurd (hk b hk') (Nat.not_lt.2 g1)
  ·rw[hp]at hg;cases hg)
 rw[hlay]at r4 t4 hV
 exact⟨E',RelX.put ⟨w',K',hD.trans g4.dr,t4,r4⟩ dst (Bo1 hV)⟩
theorem D49 {h:D3} {o:Nat} {ob:Obj} (ht:ob.tr=true):∀n,C6 (hset h o ob) n→C6 h n:=λn hl=>by
 unfold C6 at hl ⊢
 rw[A9]at hl
 by_cases e:n=o
 ·rw[G45 e]at hl
  cases ob<;>first|exact hl.elim|cases ht
 ·rwa [G41 e]at hl
theorem TreeAt.list {g off:Nat} {t:Ty} {β:Nat→Nat→Option (Nat×Nat)} {xs:List (El t)} (hT:TreeAt w g off t β xs):∃ns:List Nat,∀b,b∈ns↔∃i f p,β i f=some (b,p):=by
 refine⟨(List.range xs.length).flatMap λi=> (List.range t.sz).filterMap λf=> (β i f).map Prod.fst,λb=> ⟨λh=> ?_,λ⟨i,f,p,h⟩=> ?_⟩⟩
 ·obtain⟨i,_,h⟩:=Hb3.1 h
  obtain⟨f,_,h⟩:=List.mem_filterMap.1 h
  obtain⟨q,h1,h2⟩:=G94.1 h
  exact⟨i,f,q.2,by rw[h1,←h2]⟩
 ·obtain⟨h1,h2⟩:=hT.lt i f b p h
  exact Hb3.2 ⟨i,List.mem_range.2 h1,List.mem_filterMap.2 ⟨f,List.mem_range.2 h2,by rw[h];rfl⟩⟩
theorem F04 {f:FuncId} (hG:Ok P cfg) (hX:RelX E st saved a S w w0 K) {c:Call} {s:MSpec} {vs:List V1} (ho:op.op= .call c) (hc:c.callee= .value (.func f)) (hs:look cfg.mspec f=some s)
  (hv:All2 (V1Rel E st.heap w) vs (c.args.toList.map a.eval)) (hrun:(Fz8 s vs).run st Kk l=some r):GoesX P op a w st saved S w0 K Kk r:=by
 generalize hVs:c.args.toList.map a.eval=Vs0 at hv
 obtain⟨wb,K1,hD,hT0,hB⟩:=hX
 have h:=hB.rebase0
 have hTF:=hB.now hT0
 obtain⟨β,hT⟩:=hTF
 have hTF:=hB.now hT0
 have hD:=hD.trans hB.drift
 have hM:=hG.mspec f s hs E.ok w h.bo hD.err
 have hmn:∀g,D28=some g→¬K1.mine g:=λg hg hm=> (hD.errK g hg).2 hm.2.2
 have hex:=Bj4 (P:=P) (w:=w) (ρ:=a.eval) ho hc (cap:= #[]) rfl (hG.enterM f (by rw[hs];rfl))
 have harr:(c.args.toList.map a.eval).toArray=c.args.map a.eval++ #[]:=by
  apply G65.1;simp
 rw[hVs]at harr
 have call:∀{Q:Ending→World→Prop} (Qx:Exit→Act→World→Prop) (next:Act→World→Prop),Calls P f Vs0.toArray w Q→(∀e w',Q e w'→∃V,e= .returned V∧next (a.put op.dst V) w')→op.wp P a w next Qx:=λQx next hC hQ=>by
  unfold Oper.wp
  rw[hex,Oper.upon_enter,←harr]
  refine Calls.mono hC λe w' hq=> ?_
  obtain⟨V,rfl,hn⟩:=hQ e w' hq
  exact hn
 have okOf:∀b,K1.mine b→b<w.heap.size∧¬E.ok b:=λb hb=> ⟨(h.kp b hb.1).1,λhk=>hb.2.1 (h.oz b hk hb.1)⟩
 unfold Fz8 at hrun
 split at hrun
 ·
  rename_i e t k rest
  cases hv with
  |@cons _ V _ Vs p q=>
  have e0:V= .slice none 0 0:=V1Rel.one p
  subst e0
  obtain⟨out,po,l2,h2,hlay,hshr,hcall⟩:=B58 (P:=P) (f:=f) _ _ _ _ hrun
  cases po with
  |tree t2 zs=>
   have hC:=hcall h hTF (λb hb=>hb) q (λg _ hb=>by simp[MD.blk]at hb) (hM.1 none)
   refine⟨[],_,_,h2,λQx next hn=>call Qx next hC λe w' hR=> ?_⟩
   obtain⟨V,rfl,hret⟩:=hR
   refine⟨V,rfl, ?_⟩
   have r1a:=h.poke (w':=w') (λ_=>False) (λb hb=>hb.elim) (λb hb _=>hret.same b hb (by simp[MD.blk])) hret.size hret.room hret.os hret.tape hret.put
   have hD1:Dr w K1 w' K1:=⟨hret.os,hret.tape,hret.put,hret.size,λb hb=> ⟨hb,λ_=>hret.same b (h.kp b hb).1 (by simp[MD.blk])⟩,λb _ h=>h,λb _ h=>h,hret.room,λ_ _=>rfl⟩
   have t1:TF st.heap w' K1:=by
    exact⟨β,hT.still λb hb=>hret.same b (okOf b hb).1 (by simp[MD.blk])⟩
   obtain⟨E',hX'⟩:=Ci1 h r1a t1 (hD.trans hD1) (λ_ hl=>hl) (λb hb=> (h.kp b hb).1) rfl hlay hshr hret op.dst
   exact hn _ _ E' hX'
  |_=>cases h2
 ·
  rename_i e t k o rest
  cases hv with
  |@cons _ V _ Vs p q=>
  simp only[RP.run]at hrun
  split at hrun
  ·rename_i e' t' xs fl hg
   cases hb:Nat.beq e e' with
   |false=>rw[hb]at hrun;cases hrun
   |true=>
   rw[hb]at hrun
   simp only[G52]at hrun
   have he:=G35 hb
   subst he
   split at hrun
   ·rename_i ys hy
    obtain⟨rfl,rfl⟩:=D4 hy
    simp only at hrun
    obtain⟨out,po,l2,h2,hlay,hshr,hcall⟩:=B58 (P:=P) (f:=f) _ _ _ _ hrun
    cases po with
    |tree t2 zs=>
     simp only at h2
     split at h2
     ·rename_i zs' hz
      obtain⟨rfl,rfl⟩:=D4 hz
      simp only at h2
      obtain⟨hlen,h3⟩:=T2 h2
      have hlen:=G35 hlen
      have hs1:hsh st.heap o=some (.row e t2 xs.length):=by simp[hsh,hg,E3]
      have hc1:=V1Rel.one p
      simp only[CellRel,hs1]at hc1
      obtain⟨_,A,c,rfl,hle,hx⟩:=hc1
      simp only[D0,I8,Nat.sub_zero]at hle hcall
      obtain⟨hta,eρ⟩:=h.ta o _ hg rfl
      by_cases hc0:c=0
      ·subst hc0
       have hx0:xs=[]:=G58.1 (by omega)
       subst hx0
       have hz0:zs=[]:=G58.1 (by simpa using hlen)
       subst hz0
       have hC:=hcall h hTF (λb hb=>hb) q (λg _ hb=>by simp[MD.blk]at hb) (hM.1 A)
       refine⟨_,_,_,h3,λQx next hn=>call Qx next hC λe w' hR=> ?_⟩
       obtain⟨V,rfl,hret⟩:=hR
       refine⟨V,rfl, ?_⟩
       have hsm:∀b,b<w.heap.size→w'.heap[b]? =w.heap[b]? :=λb hb=>hret.same b hb (by simp[MD.blk])
       have r1:=(h.poke (w':=w') (λ_=>False) (λb hb=>hb.elim) (λb hb _=>hsm b hb) hret.size hret.room hret.os hret.tape hret.put).reshape hg (ob':= .tree e t2 [] (B47 fl)) rfl rfl rfl
       have hD1:Dr w K1 w' K1:=⟨hret.os,hret.tape,hret.put,hret.size,λb hb=> ⟨hb,λ_=>hsm b (h.kp b hb).1⟩,λb _ h=>h,λb _ h=>h,hret.room,λ_ _=>rfl⟩
       have t1:TF (hset st.heap o (.tree e t2 [] (B47 fl))) w' K1:=by
        exact⟨β,(hT.still λb hb=>hsm b (okOf b hb).1).retag hg Er7 λn _ hc=>absurd hc (D48 fl n)⟩
       obtain⟨E',hX'⟩:=Ci1 h r1 t1 (hD.trans hD1) (D49 rfl) (λb hb=> (h.kp b hb).1) rfl hlay hshr hret op.dst
       exact hn _ _ E' hX'
      ·obtain⟨hh,hA,hR⟩:=hx.resolve_left hc0
       have hth:=hta.1 hh
       obtain⟨hat,hmine⟩:=(hT.tr o e t2 xs fl hg).2 hth
       obtain⟨ns,hns⟩:=hat.list
       have hA':A=some ⟨(K1.ta o).1,(K1.ta o).2,none⟩:=by rw[hA,eρ];simp[I8]
       subst hA'
       have hR':Room w (K1.ta o).1 ((K1.ta o).2+c*t2.sz):=by rw[eρ]at hR;simpa [I8]using hR
       have hblk:∀b,b∈(K1.ta o).1::ns↔Blk K1 β o b:=λb=>by
        rw[G67,hns b]
        rfl
       have hC:=hcall h hTF (λb hb=>hb) q (λg hg hb=>hmn g hg (hmine g ((hblk g).1 (by simpa [MD.blk]using hb)))) (hM.2 xs (K1.ta o).1 (K1.ta o).2 c ns (β o) hle (Nat.pos_of_ne_zero hc0) hat hns hR' (λb hb=>by
        obtain⟨g1,g2⟩:=okOf b (hmine b ((hblk b).1 hb))
        exact⟨g1,g2,by simp⟩))
       refine⟨_,_,_,h3,λQx next hn=>call Qx next hC λe w' hR=> ?_⟩
       obtain⟨V,rfl,hret⟩:=hR
       refine⟨V,rfl, ?_⟩
       obtain⟨good,Vs',bs,hgood,hres,hnd,hbs,rfl,hpo⟩:=hret.res
       have hTr:TreeAt w' (K1.ta o).1 (K1.ta o).2 t2 (β o) zs:=by
        cases hpo with
        |tree hT _=>exact hT
       have hsm:∀b,b<w.heap.size→¬Blk K1 β o b→w'.heap[b]? =w.heap[b]? :=λb hb hnb=>hret.same b hb λhm=>hnb ((hblk b).1 (by simpa [MD.blk]using hm))
       obtain⟨r1,r2,r3⟩:=h.retree hT hg hth (xs':=zs) (B47 fl) (by simpa using hlen) (β o) [] (λb hb=>by cases hb) hsm hret.size hret.room hret.os hret.tape hret.put (λi f b p hb=> .inr ⟨i,f,p,hb⟩) hTr (λhq=> ⟨Er7 hq,rfl⟩) (λn i f e' t' m _ hq=>absurd hq (D48 fl n))
       obtain⟨E',hX'⟩:=Ci1 h r1 r2 (hD.trans r3) (D49 rfl) (λb hb=> (h.kp b (hb.resolve_right (by simp))).1) rfl hlay hshr hret op.dst
       exact hn _ _ E' hX'
     ·cases h2
    |_=>cases h2
   ·cases hrun
  ·cases hrun
 ·
  rename_i e t k nm rest
  cases hv with
  |@cons _ V _ Vs p q=>
  simp only[RP.run]at hrun
  split at hrun
  ·rename_i o2 i0 f0 e' t' m0 hgb
   cases hb:(Nat.beq e e'&&decide (t'=t))with
   |false=>rw[hb]at hrun;cases hrun
   |true=>
   rw[hb]at hrun
   simp only[G52,RP.run]at hrun
   simp only[G37]at hb
   have he:=G35 hb.1
   have ht:=G62 hb.2
   subst he;subst ht
   split at hrun
   ·rename_i e2 t2 xs hg
    split at hrun
    ·rename_i e3 t3 ys0 hex0
     cases hb3:Nat.beq e e3 with
     |false=>rw[hb3]at hrun;cases hrun
     |true=>
     rw[hb3]at hrun
     simp only[G52]at hrun
     have he3:=G35 hb3
     subst he3
     split at hrun
     ·rename_i ys hy
      obtain⟨rfl,rfl⟩:=D4 hy
      simp only at hrun
      obtain⟨out,po,l2,h2,hlay,hshr,hcall⟩:=B58 (P:=P) (f:=f) _ _ _ _ hrun
      cases po with
      |row t4 zs=>
       simp only at h2
       split at h2
       ·rename_i zs' hz
        obtain⟨rfl,rfl⟩:=D4 hz
        simp only at h2
        obtain⟨hlen,h3⟩:=T2 h2
        have hlen:=G35 hlen
        cases hput:B46 t4 zs t2 (rd (K8 t2) xs i0) f0 with
        |none=>rw[hput]at h3;cases h3
        |some y=>
        rw[hput]at h3
        simp only[RP.run]at h3
        obtain⟨hth,hi,hβ,ysb,hexb,hlb⟩:=(hT.bo nm o2 i0 f0 e t4 m0 hgb).2.1 _ _ _ _ hg (.inl rfl)
        rw[hex0]at hexb
        injection hexb with hexb
        injection hexb with _ _ hexb
        cases hexb
        obtain⟨hat,hmine⟩:=(hT.tr o2 e2 t2 xs 0 hg).2 hth
        obtain⟨ds,hdi,hdc⟩:=hat.row i0 hi
        rw[←C00 (z:=K8 t2) hi]at hdi
        have hs1:hsh st.heap nm=some (.row e t4 m0):=by simp[hsh,hgb,E3]
        have hc1:=V1Rel.one p
        simp only[CellRel,hs1]at hc1
        obtain⟨_,A,c,rfl,hle,hx⟩:=hc1
        simp only[D0,I8,Nat.sub_zero]at hle
        obtain⟨hta,eρ⟩:=h.ta nm _ hgb rfl
        have hdis:∀i f b p,β o2 i f=some (b,p)→b<w.heap.size:=λi f b p hb=> (okOf b (hmine b (.inr ⟨i,f,p,hb⟩))).1
        have fin:∀(d:MD) (w':World) (V':Value),RetM E.ok w w' out V' [d] [.row t4 zs]→(∀b,b<w.heap.size→b∉d.blk→w'.heap[b]? =w.heap[b]?)→(∀b,b∈d.blk→∃p,β o2 i0 f0=some (b,p))→
          (∀b p,β o2 i0 f0=some (b,p)→RowAt (λ_=>False) w' b p t4 zs∧NoFrz t4 w' b)→∃E',RelX E' (s8 ⟨st.tmps,hset st.heap o2 (.tree e2 t2 (xs.set i0 y) 0)⟩ op.dst (X8 (I7 (λn=>n) 0 out).1)) saved (a.put op.dst V') S w' w0 K:=by
         intro d w' V' hret hsame hd hrow
         have other:∀i f b p,(i≠i0∨f≠f0)→β o2 i f=some (b,p)→w'.heap[b]? =w.heap[b]? :=λi f b p hne hb=>hsame b (hdis _ _ _ _ hb) λhm=>by
          obtain⟨p',hp'⟩:=hd b hm
          obtain⟨e1,e2⟩:=hat.inj _ _ _ _ _ _ _ hb hp'
          exact hne.elim (λh=>h e1) (λh=>h e2)
         have hg0:w'.heap[(K1.ta o2).1]? =w.heap[(K1.ta o2).1]? :=hsame _ (okOf _ (hmine _ (.inl rfl))).1 λhm=>by
          obtain⟨p',hp'⟩:=hd _ hm
          exact hat.ne _ _ _ _ hp' rfl
         obtain⟨hel,hex1,hex2⟩:=Ct0 (w':=w') (f:=0) hdi hex0 hput (by simpa using hlen) (by rw[G78];exact hrow) hret.room (λk b p hk hb=>other i0 k b p (.inr (by omega)) hb)
         have hTr:TreeAt w' (K1.ta o2).1 (K1.ta o2).2 t2 (β o2) (xs.set i0 y):=by
          refine⟨λi hi'=> ?_,hat.nf.of_same hg0,hat.inj,hat.ne,λi f b p hb=>by simpa using hat.lt i f b p hb⟩
          have hi2:i<xs.length:=by simpa using hi'
          by_cases ei:i=i0
          ·subst ei
           refine⟨ds, ?_,λj hj=> (I3 hg0).trans (hdc j hj)⟩
           rw[List.getElem_set_self]
           exact hel
          ·obtain⟨ds',hd',hc'⟩:=hat.row i hi2
           refine⟨ds', ?_,λj hj=> (I3 hg0).trans (hc' j hj)⟩
           rw[List.getElem_set_ne (λh=>ei h.symm)]
           exact hd'.same λf b p hb=>other i f b p (.inl ei) hb
         obtain⟨r1,r2,r3⟩:=h.retree hT hg hth (xs':=xs.set i0 y) 0 (by simp) (β o2) [] (λb hb=>by cases hb) (λb hb hnb=>hsame b hb λhm=>by
          obtain⟨p',hp'⟩:=hd b hm
          exact hnb (.inr ⟨_,_,_,hp'⟩)) hret.size hret.room hret.os hret.tape hret.put (λi f b p hb=> .inr ⟨i,f,p,hb⟩) hTr (λ_=> ⟨(.inl rfl),rfl⟩) (λn i f e' t' m hn _=> ⟨.inl rfl,rfl,λys hys=>by
           by_cases ei:i=i0
           ·subst ei
            have e1:rd (K8 t2) (xs.set i y) i=y:=by simp[rd,hi]
            rw[e1]
            by_cases ef:f=f0
            ·subst ef
             rw[hex0]at hys
             injection hys with hys
             injection hys with k1 k2 k3
             subst k1;subst k2
             cases k3
             exact⟨zs,hex1,by simpa using hlen⟩
            ·exact⟨ys,(hex2 f ef).trans hys,rfl⟩
           ·have e1:rd (K8 t2) (xs.set i0 y) i=rd (K8 t2) xs i:=by simp[rd,Hc9 (λh=>ei h.symm)]
            rw[e1]
            exact⟨ys,hys,rfl⟩⟩)
         exact Ci1 h r1 r2 (hD.trans r3) (D49 rfl) (λb hb=> (h.kp b (hb.resolve_right (by simp))).1) rfl hlay hshr hret op.dst
        by_cases hc0:c=0
        ·subst hc0
         have hm0:m0=0:=by omega
         subst hm0
         have hx0:ys0=[]:=G58.1 hlb
         subst hx0
         have hz0:zs=[]:=G58.1 (by simpa using hlen)
         subst hz0
         have hC:=hcall h hTF (λb hb=>hb) q (λg _ hb=>by simp[MD.blk]at hb) (hM.1 A)
         refine⟨_,_,_,h3,λQx next hn=>call Qx next hC λe w' hR=> ?_⟩
         obtain⟨V,rfl,hret⟩:=hR
         refine⟨V,rfl, ?_⟩
         have hsm:∀b,b<w.heap.size→w'.heap[b]? =w.heap[b]? :=λb hb=>hret.same b hb (by simp[MD.blk])
         obtain⟨E',hX'⟩:=fin .nil w' V hret (λb hb _=>hsm b hb) (λb hb=>by cases hb) (λb p hb=> ⟨(λi hi=>by simp at hi),by
          obtain⟨_,A',c',_,_,hz⟩:=Av7 hdi hex0
          rw[G78]at hz
          rcases hz with⟨_,hz⟩|⟨b',p',k1,k2,k3,k4,k5⟩
          ·rw[hb]at hz;cases hz
          ·rw[hb]at k1
           cases k1
           exact k4.of_same (hsm b (hdis _ _ _ _ hb))⟩)
         exact hn _ _ E' hX'
        ·obtain⟨hh,hA,hR⟩:=hx.resolve_left hc0
         have hb0:=hβ (hta.1 hh)
         obtain⟨_,A',c',_,_,hz⟩:=Av7 hdi hex0
         rw[G78]at hz
         rcases hz with⟨_,hz⟩|⟨b',p',k1,k2,k3,k4,k5⟩
         ·rw[hb0]at hz;cases hz
         rw[hb0]at k1
         simp only[G43]at k1
         have hA':A=some ⟨b',p',none⟩:=by rw[hA,eρ,k1];simp[I8]
         subst hA'
         have hR':Room w b' (p'+c*t4.sz):=by rw[eρ,k1]at hR;simpa [I8]using hR
         obtain⟨hbs,hbo⟩:=okOf b' (hmine b' (.inr ⟨i0,f0,p',by rw[hb0,k1]⟩))
         have hC:=hcall h hTF (λb hb=>hb) q (λg hg hb=>hmn g hg (by
          have e:g=b':=by simpa [MD.blk]using hb
          rw[e]
          exact hmine b' (.inr ⟨i0,f0,p',by rw[hb0,k1]⟩))) (hM.2 ys0 b' p' c (by rw[hlb];exact hle) (Nat.pos_of_ne_zero hc0) (k3.mono (λ_ h=>h.elim) (λ_ h=>h.elim) rfl) k4 hR' hbs hbo (by simp))
         rw[hlb]at hC
         refine⟨_,_,_,h3,λQx next hn=>call Qx next hC λe w' hR=> ?_⟩
         obtain⟨V,rfl,hret⟩:=hR
         refine⟨V,rfl, ?_⟩
         have hret2:=hret
         obtain⟨good,Vs',bs,hgood,hres,hnd,hbs',-,hpo⟩:=hret2.res
         have hrow:RowAt (λ_=>False) w' b' p' t4 zs∧NoFrz t4 w' b':=by
          cases hpo with
          |row g1 g2 _=>
           refine⟨λi hi=> ?_,g2⟩
           obtain⟨ds1,hd1,hj1⟩:=g1 i hi
           exact⟨ds1,Av6 (Av7 hdi hex0).1 hd1,hj1⟩
         obtain⟨E',hX'⟩:=fin (.row b' p' c) w' V hret (λb hb hnb=>hret.same b hb (by simpa [MD.blk]using hnb)) (λb hb=> ⟨p',by
          have:b=b':=by simpa [MD.blk]using hb
          rw[this,hb0,k1]⟩) (λb p hb=>by
          rw[hb0,k1]at hb
          simp only[G43,Prod.mk.injEq]at hb
          obtain⟨rfl,rfl⟩:=hb
          exact hrow)
         exact hn _ _ E' hX'
       ·cases h2
      |_=>cases h2
     ·cases hrun
    ·cases hrun
   ·cases hrun
  ·cases hrun
 ·cases hrun
end
end Go.Vm
end
section
namespace Go.Vm
open Go
section
variable {P : Program} {cfg : Cfg} {E : Env} {st : St} {saved : List (Nat × List VV)} {a : Act} {S : List (Array Value)} {w w0 : World} {K : Keep}
 {R:Type} {Kk:List Upd→VV→List Loc→Option R} {l:List Loc} {r:R} {op:Oper}
theorem Gf5 (hG:Good P cfg) (hX:RelX E st saved a S w w0 K) {T:TypeId} {x:Operand} {nm:Nat} {e:TypeId} {t:Ty} (ho:op.op= .buildSlice T 1 #[(0,x)]) (hT:look cfg.tab T=some (.slice e t))
  (hz1:1≤t.sz) (hz2:t.sz≤16777216) (hrun:(Fo9 nm e t x).run st Kk l=some r):GoesX P op a w st saved S w0 K Kk r:=by
 obtain⟨wb,K1,hD,hT0,hB⟩:=hX
 have h0:=hB.rebase0
 have hTF:=hB.now hT0
 have hD:=hD.trans hB.drift
 have hok:=hG.tab T _ hT
 unfold Fo9 at hrun
 obtain⟨v,l1,h1,hv⟩:=At2 x _ hrun
 have hv:=hv h0
 cases hb:Nat.beq v.cs.length t.sz with
 |false=>rw[hb]at h1;cases h1
 |true=>
 rw[hb]at h1
 simp only[G52]at h1
 have hlen:=G35 hb
 obtain⟨z,rest,u,l2,h2,hu,hz⟩:=Dl9 _ _ _ _ h1
 cases rest with
 |cons _ _=>cases h2
 |nil=>
 simp only at h2
 obtain⟨hfr,l3,h3⟩:=L9 h2
 obtain⟨hd,hK⟩:=S6 h3
 rw[G64]at hd
 obtain⟨hd1,_,hdj⟩:=F4 hd
 have hnq:nm∉u.map Upd.name:=λhm=>hdj nm hm (by simp[Upd.name])
 have hvc:=hv.cells
 obtain⟨v1,v2,γ,e1,hel,hv2,hγ,hinj⟩:=hz (f:=0) h0 hvc hd1
 cases hv2
 rw[G59]at e1
 subst e1
 have hk:∀x∈u,∃n e t xs own,x= .o n .dead∧B3 st.heap n=some (.row e t xs own):=λx hx=>by
  obtain⟨n,e,t,xs,g1,g2⟩:=hu x hx
  exact⟨n,e,t,xs,true,g1,g2⟩
 have h:=h0.kills u hd1 hk
 have hdead:∀n ob,Upd.o n ob∈u→ob= .dead∧C6 st.heap n∧∃e t xs,B3 st.heap n=some (.row e t xs true):=λn ob hx=>by
  obtain⟨m,e,t,xs,g1,g2⟩:=hu _ hx
  injection g1 with g3 g4
  subst g3
  exact⟨g4,by unfold C6;rw[g2];trivial,e,t,xs,g2⟩
 have hTu:=hTF.upds (u:=u) (λn ob hx=>by rw[(hdead n ob hx).1];rfl) (λn ob hx o hgo=>Ex8 (hdead n ob hx).2.1 hgo)
 have hvl:=hel.len
 have hex:(execOp a.eval op).run P w= .ok (.value (.slice (some ⟨w.heap.size,0,none⟩) 1 1)) (w.alloc (.cells (a.eval x).cells.toList.toArray e)):=by
  have hmax':¬(16777216<1*t.sz):=by omega
  have hn0:¬1*t.sz=0:=by omega
  obtain⟨zv,hzv,hzc⟩:=Ah2 (P:=P) hok.2.2
  have hvs:(a.eval x).cells.size=t.sz:=by rw[←G68];exact hvl
  have hzs:zv.cells.size=t.sz:=by rw[←G68,hzc,J3]
  have hps:(#[(0,x)].map λy:Nat×Operand=> (y.1,a.eval y.2)).toList=[(0,a.eval x)]:=by simp
  have hfill:Instr.fill (λi=>some (i*t.sz,t.sz)) ((Array.range (1*t.sz)).map λi=>zv.cells[i%zv.cells.size]!) (#[(0,x)].map λy:Nat×Operand=> (y.1,a.eval y.2)).toList=some (a.eval x).cells.toList.toArray:=by
   rw[hps]
   simp only[Instr.fill,hvs,Hd2]
   rw[G41 (by simp)]
   congr 1
   apply G65.1
   have:=Cs8 (a.eval x).cells 0 ((Array.range (1*t.sz)).map λi=>zv.cells[i%zv.cells.size]!) (by simp[hvs])
   simp only[G78]at this ⊢
   rw[this]
   simp[hvs]
  rw[hps,Nat.one_mul]at hfill
  rw[Nat.one_mul]at hmax' hn0
  simp only[execOp,ho,Instr.buildSlice]
  simp[underlying,hok.2.1,TyOk.size hok.2.2 w,hmax',hn0,hzv,hfill,newRow]
 have hnew:(w.alloc (.cells (a.eval x).cells.toList.toArray e)).heap[w.heap.size]? =some (.cells (a.eval x).cells.toList.toArray e):=Q0 ..
 have hsize:(w.alloc (.cells (a.eval x).cells.toList.toArray e)).heap.size=w.heap.size+1:=by simp
 have r1:=h.after (w':=w.alloc (.cells (a.eval x).cells.toList.toArray e)) (by omega) (λb hb=>Aa7 hb) rfl rfl rfl (λ_=>False) (λb hb=>hb.elim)
 obtain⟨β0,t1⟩:=r1.now hTu
 have r2:=r1.rebase0
 obtain⟨ns,hns⟩:=B57 E u
 have hlow:∀b∈ns,b<w.heap.size:=λb hb=>by
  obtain⟨n,m1,m2,rfl⟩:=(hns b).1 hb
  obtain⟨_,hl,e',t',xs',hgn⟩:=hdead n _ m1
  exact h0.bd n (by rw[hgn];rfl) m2
 have hfree:∀b∈w.heap.size::ns,Free ⟨E.ρ,E.has,λb=>E.ok b∨False⟩ (st.upds u).heap K1 (w.alloc (.cells (a.eval x).cells.toList.toArray e)) b:=λb hb=>by
  rcases G67.1 hb with rfl|hb
  ·refine⟨λn hl hh=> ?_,λhk=>hk.elim (λhk=>absurd (h.bo _ hk) (Nat.lt_irrefl _)) id,λhk=>absurd (h.kp _ hk).1 (Nat.lt_irrefl _),by omega⟩
   exact Nat.ne_of_lt (h.bd n (J4 hl) hh)
  ·have hlw:=hlow b hb
   obtain⟨n,m1,m2,rfl⟩:=(hns b).1 hb
   obtain⟨_,hl,e',t',xs',hgn⟩:=hdead n _ m1
   obtain⟨f1,f2⟩:=h0.dk n hl m2
   refine⟨λm hm hm'=> ?_,λhk=>hk.elim f1 id,f2,by omega⟩
   have hmu:m∉u.map Upd.name:=λhmu=>by
    obtain⟨ob,k1⟩:=At5 hmu
    have:=(hdead m ob k1).1
    subst this
    unfold C6 at hm
    rw[W8 u st m _ hd1 k1]at hm
    exact hm
   have hne:m≠n:=λe=>hmu (by rw[e];exact G79.2 ⟨_,m1,rfl⟩)
   exact h0.dj m n hne (Ci0 hmu hm) hl hm' m2
 have hγns:∀j b p,γ j=some (b,p)→b∈ns:=λj b p hb=>by
  obtain⟨_,n,m1,m2,m3,m4⟩:=hγ j b p hb
  exact(hns b).2 ⟨n,m1,m2,m4⟩
 have hTr:TreeAt (w.alloc (.cells (a.eval x).cells.toList.toArray e)) w.heap.size 0 t (λi=>if i=0 then γ elseλ_=>none) [z]:=by
  refine⟨λi hi=> ?_,λoff _=> ?_,λi f i' f' b p p' hb hb'=> ?_,λi f b p hb=> ?_,λi f b p hb=> ?_⟩
  ·have:i=0:=by simpa using hi
   subst this
   refine⟨(a.eval x).cells.toList,by simpa using hel.same λf b p hb=>Aa7 (hlow b (hγns f b p hb)),λj hj=> ?_⟩
   simp only[World.cell?,hnew,Hd2,G78]
   simp
  ·simp only[World.frozen?,hnew]
   simp
  ·by_cases e1:i=0
   ·by_cases e2:i'=0
    ·rw[G45 e1]at hb;rw[G45 e2]at hb'
     exact⟨e1.trans e2.symm,hinj _ _ _ _ _ hb hb'⟩
    ·rw[G41 e2]at hb';cases hb'
   ·rw[G41 e1]at hb;cases hb
  ·by_cases e1:i=0
   ·rw[G45 e1]at hb
    have:=hlow b (hγns f b p hb)
    omega
   ·rw[G41 e1]at hb;cases hb
  ·by_cases e1:i=0
   ·rw[G45 e1]at hb
    have:=(hγ f b p hb).1
    subst e1
    exact⟨by simp,by omega⟩
   ·rw[G41 e1]at hb;cases hb
 have hn1:B3 (st.upds u).heap nm=none:=by rw[G7 u st nm hnq];exact hfr
 have hns2:∀b,b∈ns.filter (λb=> @decide (∃j p,γ j=some (b,p)) (Classical.propDecidable _))↔∃i f p,(λi=>if i=0 then γ elseλ_=>none) i f=some (b,p):=λb=>by
  rw[List.mem_filter,@decide_eq_true_iff _ (Classical.propDecidable _)]
  constructor
  ·rintro⟨_,j,p,hb⟩
   exact⟨0,j,p,by simpa using hb⟩
  ·rintro⟨i,f,p,hb⟩
   by_cases e1:i=0
   ·simp only[G45 e1]at hb
    exact⟨hγns f b p hb,f,p,hb⟩
   ·simp only[G41 e1]at hb;cases hb
 obtain⟨r3,t3,d3⟩:=r2.newTreeB t1 hn1 e 1 (by unfold Fx;omega) (λb hb=> .inl (hfree b (by
  rcases G67.1 hb with e|e
  ·rw[e];exact G39
  ·exact G38 _ (List.mem_filter.1 e).1))) hns2 hTr
 refine⟨_,_,l3,hK,λQ next hnx=> ?_⟩
 unfold Oper.wp
 rw[hex]
 have e0:st.upds (u++ [.o nm (.tree e t [z] 1)])=⟨(st.upds u).tmps,hset (st.upds u).heap nm (.tree e t [z] 1)⟩:=by rw[H3];rfl
 rw[e0]at hnx
 refine hnx _ _ _ (RelX.put ⟨_,_,(hD.trans r1.drift).trans d3,t3,r3⟩ op.dst (VRel.one ?_))
 have hs':hsh (hset (st.upds u).heap nm (.tree e t [z] 1)) nm=some (.row e t 1):=by rw[F5,G45 rfl];simp[E3]
 simp only[CellRel,hs']
 refine⟨trivial,_,1,rfl,by simp[I8], .inr ⟨by simp[Env.at],by simp[Env.at,I8], ?_⟩⟩
 refine⟨_,_,_,by simpa [Env.at]using hnew, ?_⟩
 simp[Env.at,I8]
 rw[←G68,hvl]
 exact G53 _
theorem F48 (hG:Good P cfg) (hX:RelX E st saved a S w w0 K) {T:TypeId} {nm:Nat} {e:TypeId} {t:Ty} (ho:op.op= .buildSlice T 0 #[]) (hT:look cfg.tab T=some (.slice e t))
  (hrun:(O7 nm (.done [.o nm (.tree e t [] 1)] (one (.row nm none none)))).run st Kk l=some r):GoesX P op a w st saved S w0 K Kk r:=by
 obtain⟨wb,K1,hD,hT0,hB⟩:=hX
 have h:=hB.rebase0
 have hTF:=hB.now hT0
 have hD:=hD.trans hB.drift
 have hok:=hG.tab T _ hT
 obtain⟨hfr,l3,hK⟩:=L9 hrun
 have hex:(execOp a.eval op).run P w= .ok (.value (.slice (some ⟨w.heap.size,0,none⟩) 0 0)) (w.alloc (.cells #[] e)):=by
  simp[execOp,ho,Instr.buildSlice,underlying,hok.2.1,TyOk.size hok.2.2 w,newRow]
  rw[show Array.range 0=(#[]:Array Nat)from rfl]
  simp[Instr.fill]
 have r1:=h.after (w':=w.alloc (.cells #[] e)) (by simp) (λb hb=>Aa7 hb) rfl rfl rfl (λ_=>False) (λb hb=>hb.elim)
 have t1:=r1.now hTF
 have d1:=r1.drift
 have r2:=r1.rebase0
 obtain⟨r3,t3⟩:=r2.newTree0 t1 hfr e t 1
 have d2:Dr (w.alloc (.cells #[] e)) K1 (w.alloc (.cells #[] e)) (K1.plus0 nm):=⟨rfl,rfl,rfl,G53 _,λb hb=> ⟨hb,λ_=>rfl⟩,λb _ ho=>ho,λb _ hp=>hp,λ_ _ h=>h,λ_ _=>rfl⟩
 refine⟨_,_,l3,hK,λQ next hnx=> ?_⟩
 unfold Oper.wp
 rw[hex]
 refine hnx _ _ _ (RelX.put ⟨_,_,(hD.trans d1).trans d2,t3,r3⟩ op.dst (VRel.one ?_))
 have hs':hsh (hset st.heap nm (.tree e t [] 1)) nm=some (.row e t 0):=by rw[F5,G45 rfl];simp[E3]
 show CellRel _ (hset st.heap nm (.tree e t [] 1)) _ _ _
 simp only[CellRel,hs']
 exact⟨trivial,_,0,rfl,by simp[I8], .inl rfl⟩
end
end Go.Vm
end
section
namespace Go.Vm
open Go
section
variable {P : Program} {w : World}
theorem C11 {T T' ty e:TypeId} {t:Ty} {d:TypeDesc} (ht:P.underlying T=some (.slice e)) (ht':P.underlying T'=some d) (hd:∀k,d≠ .int k) (hok:TyOk P t e)
  {A:Option Addr} {n m c:Nat} {olds news:List Value} {x:Value} (ho:olds.length=n*t.sz) (hm:news.length=m*t.sz) (hone:∀v∈news,v.oneCell'=true) (hle:n≤c) (hm1:1≤m) (hmax:n+m≤A5)
  (hdst:c=0∨∃g off,A=some ⟨g,off,none⟩∧Room w g (off+c*t.sz)∧NoFrz t w g∧∀j,j<n*t.sz→w.cell? ⟨g,off+j,none⟩=olds[j]?)
  (hlen:∀w2,(Builtin.lenOf x).run P w2= .ok m w2) (hfst:∀w2:World,w2.heap=w.heap→(Builtin.firstCells t.sz m x).run P w2= .ok news.toArray w2):
  ∃g off c' w',(Builtin.append_ #[T,T'] ty #[.slice A n c,x]).run P w= .ok (.slice (some ⟨g,off,none⟩) (n+m) c') w'∧n+m≤c'∧Room w' g (off+c'*t.sz)∧NoFrz t w' g∧
   (∀j,j< (n+m)*t.sz→w'.cell? ⟨g,off+j,none⟩=(olds++news)[j]?)∧
   ((A=some ⟨g,off,none⟩∧Puts g w w'∧n+m≤c)∨(g=w.heap.size∧w'.heap.size=w.heap.size+1∧(∀b,b<w.heap.size→w'.heap[b]? =w.heap[b]?)∧w'.os=w.os∧w'.tape=w.tape∧w'.output=w.output)):=by
 by_cases hroom:n+m≤c
 ·rcases hdst with rfl|⟨g,off,rfl,hR,hnf,hcells⟩
  ·omega
  ·have hmul:n*t.sz+m*t.sz≤c*t.sz:=by rw[←G71];exact G86 _ hroom
   have hput:=G0 g news (off+n*t.sz) w
   have hsome:∀j,j<news.length→(w.cell? ⟨g,off+n*t.sz+j,none⟩).isSome=true:=λj hj=>hR.cell (by rw[hm]at hj;omega)
   have hst:=R6 P g (off+n*t.sz) news 0 w (λj hj=> ⟨by rw[G69];exact hsome j hj,by rw[G69];exact hnf _ λ_=>hsome j hj⟩) hone
   rw[G69]at hst
   refine⟨g,off,c,_,Ap6 (w:=w) (n:=n) (news:=news) ht ht' hd hok.size hlen (hfst w rfl) hroom (w':=putCells g news (off+n*t.sz) w) (by simp only[H5];exact hst),hroom,hput.room _ _ hR,λp hp=> ?_,λj hj=> ?_, .inl ⟨rfl,hput,hroom⟩⟩
   ·rw[hput.some]at hp
    rw[hput.frozen]
    exact hnf p hp
   ·by_cases hlt:j<n*t.sz
    ·rw[E5 _ _ _ _ _ (by omega),G51 (by omega)]
     exact hcells j hlt
    ·rw[G50 (by omega),ho]
     rw[G71]at hj
     have hj2:j-n*t.sz<news.length:=by omega
     have:=V5 g news (off+n*t.sz) w _ _ (G36 hj2) hsome
     rw[show off+n*t.sz+(j-n*t.sz)=off+j by omega]at this
     rw[this,G36 hj2]
 ·obtain⟨z,hz,hzc⟩:=Ah2 (P:=P) hok
  obtain⟨i,hi,hsz,hzero,hb⟩:=hok.base.info
  have hzs:z.cells.size=t.sz:=by rw[←G68,hzc,J3]
  have hold:∀w2:World,w2.heap=w.heap→(Builtin.firstCells t.sz n (.slice A n c)).run P w2= .ok olds.toArray w2:=λw2 hw=>by
   rcases hdst with rfl|⟨g,off,rfl,hR,hnf,hcells⟩
   ·have:n=0:=by omega
    subst this
    have:olds=[]:=G58.1 (by rw[ho];simp)
    subst this
    cases A with
    |none=>simp[Builtin.firstCells]
    |some A=>
     have:=run_loadCells_list (P:=P) w2 A [] (λj v hj=>by simp at hj)
     simp only[List.length_nil]at this
     simp[Builtin.firstCells,this]
   ·have:=run_loadCells_list (P:=P) w2 ⟨g,off,none⟩ olds (λj v hj=>by
     rw[H5,I3 (w:=w) (by rw[hw])]
     have hjl:j<olds.length:=by
      rcases G96 j olds.length with h|h
      ·exact h
      ·rw[G75 h]at hj;cases hj
     rw[hcells j (by omega)]
     exact hj)
    rw[ho]at this
    simpa [Builtin.firstCells]using this
  have hge:=grownCap_ge w (n+m) c e
  have hzl:(Builtin.zeroCells z.cells (grownCap w (n+m) c e- (n+m))).size=(grownCap w (n+m) c e- (n+m))*t.sz:=by
   rw[size_zeroCells,hzs]
  have hx:=B55 (w:=w) (n:=n) (z:=z) (ty:=ty) ht ht' hd hok.size hi hb hz hlen (hfst _ rfl) (hold _ rfl) (by omega) hmax
  have hnew:(w.drew.alloc (.cells (olds.toArray++news.toArray++Builtin.zeroCells z.cells (grownCap w (n+m) c e- (n+m))) e)).heap[w.heap.size]? =some (.cells (olds.toArray++news.toArray++Builtin.zeroCells z.cells (grownCap w (n+m) c e- (n+m))) e):=Q0 w.drew _
  refine⟨w.heap.size,0,_,_,hx,hge,⟨_,_,_,hnew, ?_⟩,λp hp=> ?_,λj hj=> ?_, .inr ⟨rfl,by show(w.heap.push _).size=_;exact Array.size_push ..,λb hb=>Aa7 (w:=w.drew) hb,rfl,rfl,rfl⟩⟩
  ·simp only[Array.size_append,List.size_toArray,hzl,ho,hm,←G71]
   rw[show n+m+(grownCap w (n+m) c e- (n+m))=grownCap w (n+m) c e by omega]
   omega
  ·simp only[World.frozen?,hnew]
   simp
  ·simp only[World.cell?,hnew,G78]
   rw[G71]at hj
   rw[←Hc2,Array.toList_append,Array.toList_append,G51 (by simp;omega)]
   rfl
theorem TreeAt.cells {g off:Nat} {t:Ty} {β:Nat→Nat→Option (Nat×Nat)} {xs:List (El t)} (h:TreeAt w g off t β xs):∃css:List (List Value),css.length=xs.length∧(∀c∈css,c.length=t.sz)∧
  (∀i (hi:i<xs.length),∃ds,css[i]? =some ds∧TElt w (β i) t 0 xs[i] ds)∧∀j,j<xs.length*t.sz→w.cell? ⟨g,off+j,none⟩=css.flatten[j]? :=by
 have key:∀n,n≤xs.length→∃css:List (List Value),css.length=n∧(∀c∈css,c.length=t.sz)∧(∀i (hi:i<xs.length),i<n→∃ds,css[i]? =some ds∧TElt w (β i) t 0 xs[i] ds)∧
   ∀i j,i<n→j<t.sz→w.cell? ⟨g,off+i*t.sz+j,none⟩=(css[i]?).bind (·[j]?):=by
  intro n
  induction n with
  |zero=>exactλ_=> ⟨[],rfl,(λc hc=>by cases hc),(λi _ hi=>by omega),λi j hi=>by omega⟩
  |succ n ih=>
   intro hn
   obtain⟨css,h1,h2,h3,h4⟩:=ih (by omega)
   obtain⟨ds,d1,d2⟩:=h.row n (by omega)
   refine⟨css++ [ds],by simp[h1],λc hc=> ?_,λi hi hin=> ?_,λi j hi hj=> ?_⟩
   ·rcases G34.1 hc with hc|hc
    ·exact h2 c hc
    ·rw[G48.1 hc];exact d1.len
   ·by_cases e:i<n
    ·obtain⟨ds',k1,k2⟩:=h3 i hi e
     exact⟨ds',by rw[G51 (by omega)];exact k1,k2⟩
    ·have:i=n:=by omega
     subst this
     exact⟨ds,by rw[G50 (by omega),h1];simp,d1⟩
   ·by_cases e:i<n
    ·rw[G51 (by omega)]
     exact h4 i j e hj
    ·have:i=n:=by omega
     subst this
     rw[G50 (by omega),h1,d2 j hj]
     simp
 obtain⟨css,h1,h2,h3,h4⟩:=key xs.length (G53 _)
 refine⟨css,h1,h2,λi hi=>h3 i hi hi,λj hj=> ?_⟩
 have hz:0<t.sz:=by
  rcases Hb5 t.sz with h|h
  ·rw[h]at hj;omega
  ·exact h
 have e1:=Nat.div_add_mod j t.sz
 have e2:=Nat.mod_lt j hz
 have e3:j/t.sz<xs.length:=(Nat.div_lt_iff_lt_mul hz).2 hj
 have k1:=h4 (j/t.sz) (j%t.sz) e3 e2
 have k2:=t6 css (j/t.sz) (j%t.sz) h2 e2 [] (by omega)
 rw[G59]at k2
 have ej:j/t.sz*t.sz+j%t.sz=j:=by rw[Nat.mul_comm];exact e1
 rw[ej]at k2
 rw[G83,ej]at k1
 rw[k1,k2]
theorem TreeAt.join {w':World} {g1 o1 g2 o2 g off:Nat} {t:Ty} {β1 β2:Nat→Nat→Option (Nat×Nat)} {xs ys:List (El t)} (h1:TreeAt w g1 o1 t β1 xs) (h2:TreeAt w g2 o2 t β2 ys) {css1 css2:List (List Value)}
  (l1:css1.length=xs.length) (z1:∀c∈css1,c.length=t.sz) (c1:∀i (hi:i<xs.length),∃ds,css1[i]? =some ds∧TElt w (β1 i) t 0 xs[i] ds)
  (l2:css2.length=ys.length) (z2:∀c∈css2,c.length=t.sz) (c2:∀i (hi:i<ys.length),∃ds,css2[i]? =some ds∧TElt w (β2 i) t 0 ys[i] ds)
  (hc:∀j,j< (xs.length+ys.length)*t.sz→w'.cell? ⟨g,off+j,none⟩=(css1.flatten++css2.flatten)[j]?) (hnf:NoFrz t w' g)
  (s1:∀i f b p,β1 i f=some (b,p)→w'.heap[b]? =w.heap[b]? ∧b≠g) (s2:∀i f b p,β2 i f=some (b,p)→w'.heap[b]? =w.heap[b]? ∧b≠g)
  (hap:∀i f i' f' b p p',β1 i f=some (b,p)→β2 i' f'=some (b,p')→False):TreeAt w' g off t (λi=>if i<xs.length then β1 i else β2 (i-xs.length)) (xs++ys):=by
 refine⟨λi hi=> ?_,hnf,λi f i' f' b p p' hb hb'=> ?_,λi f b p hb=> ?_,λi f b p hb=> ?_⟩
 ·have hil:i<xs.length+ys.length:=by simpa using hi
  have hj:∀j,j<t.sz→i*t.sz+j< (xs.length+ys.length)*t.sz:=λj hj=>by
   have:(i+1)*t.sz≤(xs.length+ys.length)*t.sz:=G86 _ hil
   rw[G71]at this;omega
  have hzz:∀c∈css1++css2,c.length=t.sz:=λc hc=> (G34.1 hc).elim (z1 c) (z2 c)
  have cell:∀j,j<t.sz→w'.cell? ⟨g,off+i*t.sz+j,none⟩=((css1++css2)[i]?).bind (·[j]?):=λj hjj=>by
   rw[G83,hc _ (hj j hjj),←List.flatten_append]
   have:=t6 (css1++css2) i j hzz hjj [] (by simp;omega)
   rwa [G59]at this
  by_cases e:i<xs.length
  ·obtain⟨ds,k1,k2⟩:=c1 i e
   refine⟨ds, ?_,λj hjj=> ?_⟩
   ·rw[Hc5 e]
    simp only[G45 e]
    exact k2.same λf b p hb=> (s1 i f b p hb).1
   ·rw[cell j hjj,G51 (by omega),k1];rfl
  ·obtain⟨ds,k1,k2⟩:=c2 (i-xs.length) (by omega)
   refine⟨ds, ?_,λj hjj=> ?_⟩
   ·rw[Ha9 (by omega)]
    simp only[G41 e]
    exact k2.same λf b p hb=> (s2 _ f b p hb).1
   ·rw[cell j hjj,G50 (by omega),l1,k1];rfl
 ·by_cases e:i<xs.length
  ·simp only[G45 e]at hb
   by_cases e':i'<xs.length
   ·simp only[G45 e']at hb'
    exact h1.inj _ _ _ _ _ _ _ hb hb'
   ·simp only[G41 e']at hb'
    exact(hap _ _ _ _ _ _ _ hb hb').elim
  ·simp only[G41 e]at hb
   by_cases e':i'<xs.length
   ·simp only[G45 e']at hb'
    exact(hap _ _ _ _ _ _ _ hb' hb).elim
   ·simp only[G41 e']at hb'
    have:=h2.inj _ _ _ _ _ _ _ hb hb'
    exact⟨by omega,this.2⟩
 ·by_cases e:i<xs.length
  ·simp only[G45 e]at hb;exact(s1 _ _ _ _ hb).2
  ·simp only[G41 e]at hb;exact(s2 _ _ _ _ hb).2
 ·by_cases e:i<xs.length
  ·simp only[G45 e]at hb
   have:=h1.lt _ _ _ _ hb
   simp;omega
  ·simp only[G41 e]at hb
   have:=h2.lt _ _ _ _ hb
   simp;omega
end
end Go.Vm
end
end
