/- The machine: a typed interpreter of the model's code, and its soundness (part 3). -/
import Derived.Test.YtmmgjbjmmipobaaGreatDoorZp1
import Derived.Orders
import Derived.LoopN
import GoSem.ClaimChange
import Derived.ChangeArms
import Derived.WideKeyArgs
import Derived.ChangeOld
import Derived.ChangeFn
import Derived.RowKitTokens
import Derived.WideMake
set_option linter.all false
section
section
namespace Go.Vm
open Go
section
variable {P : Program} {cfg : Cfg} {E : Env} {st : St} {saved : List (Nat × List VV)} {a : Act} {S : List (Array Value)} {w w0 : World} {K : Keep}
theorem TElt.ones {β:Nat→Option (Nat×Nat)}:∀{t:Ty} {f:Nat} {x:El t} {cs:List Value},TElt w β t f x cs→∀v∈cs,v.oneCell'=true
 | .int _,_,_,_,h=>by simp only[TElt]at h;subst h;intro v hv;rw[G48.1 hv];rfl
 | .bool,_,_,_,h=>by simp only[TElt]at h;subst h;intro v hv;rw[G48.1 hv];rfl
 | .str,_,_,_,h=>by simp only[TElt]at h;subst h;intro v hv;rw[G48.1 hv];rfl
 | .slice _ _,_,_,_,h=>by obtain⟨_,A,c,rfl,_⟩:=h;intro v hv;rw[G48.1 hv];rfl
 | .nil,_,_,_,h=>by simp only[TElt]at h;subst h;intro v hv;cases hv
 | .fld a r,f,x,_,h=>by
  obtain⟨c1,c2,rfl,h1,h2⟩:=h
  intro v hv
  exact(G34.1 hv).elim (TElt.ones h1 v) (TElt.ones h2 v)
theorem RelE.killT (h:RelE E st saved a S w w0 K) {n:Nat} {ob:Obj} {e:TypeId} {t:Ty} {m:Nat} (hg:B3 st.heap n=some ob) (hs:E3 ob= .row e t m):
  RelE E ⟨st.tmps,hset st.heap n .dead⟩ saved a S w w0 K:=by
 have k:Step E E st.heap (hset st.heap n .dead) w w:=by
  refine⟨λ_ _=>rfl,λ_ _=>Iff.rfl,λb hb=>hb,λb hb=>rfl,λg m hr=>hr,λm s hm=> ?_⟩
  rw[F5]
  by_cases e1:m=n
  ·subst e1
   refine .inr ⟨?_,by rw[G45 rfl];rfl⟩
   simp only[hsh,hg,Ha8,hs,G43]at hm
   exact⟨_,_,_,hm.symm⟩
  ·exact .inl (by rw[G41 e1];exact hm)
 have hlive:∀m,C6 (hset st.heap n .dead) m→m≠n∧C6 st.heap m:=by
  intro m hl
  unfold C6 at hl ⊢
  rw[A9]at hl
  by_cases e1:m=n
  ·rw[G45 e1]at hl;exact hl.elim
  ·rw[G41 e1]at hl;exact⟨e1,hl⟩
 refine⟨G6 k h.tm,h.df,h.sv.mono λ_ _ q=>G6 k q, ?_, ?_, ?_, ?_,h.bo,h.kp,h.os,h.tape,h.out,h.size,h.oz,h.rm,h.trees k (Aa8 rfl)⟩
 ·intro m o hm
  rw[A9]at hm
  by_cases e1:m=n
  ·subst e1
   rw[G45 rfl]at hm
   cases hm
   trivial
  ·rw[G41 e1]at hm
   exact(h.ob m o hm).step k (by rw[hm];rfl) (λhh=>hh) (λ_=>rfl)
 ·intro m m' hne hl hl' hh hh'
  exact h.dj m m' hne (hlive m hl).2 (hlive m' hl').2 hh hh'
 ·intro m hl hh
  exact h.dk m (hlive m hl).2 hh
 ·intro m hm hh
  rw[A9]at hm
  by_cases e1:m=n
  ·subst e1;exact h.bd m (by rw[hg];rfl) hh
  ·rw[G41 e1]at hm;exact h.bd m hm hh
theorem TFB.killT {h:D3} {β:Nat→Nat→Nat→Option (Nat×Nat)} (hT:TFB h w K β) (n:Nat):TFB (hset h n .dead) w K β:=
 hT.less (λm o hm ho=>by
  rw[A9]at hm
  by_cases e1:m=n
  ·rw[G45 e1]at hm;cases hm;cases ho
  ·rwa [G41 e1]at hm) Ap7
theorem TFB.stillT {h:D3} {w':World} {β:Nat→Nat→Nat→Option (Nat×Nat)} (hT:TFB h w K β) (hs:∀n o,B3 h n=some o→o.isT→K.th n→∀b,Blk K β n b→w'.heap[b]? =w.heap[b]?):TFB h w' K β:=by
 refine⟨λn e t xs q hn=> ?_,λn e t xs i f m hn=> ?_,hT.fx,hT.ap,hT.bo⟩
 ·obtain⟨p1,p2⟩:=hT.tr n e t xs q hn
  refine⟨p1,λhth=> ?_⟩
  obtain⟨q1,q2⟩:=p2 hth
  exact⟨q1.same (hs n _ hn trivial hth _ (.inl rfl)) λi f b p hp=>hs n _ hn trivial hth b (.inr ⟨i,f,p,hp⟩),q2⟩
 ·obtain⟨p1,q1,q2⟩:=hT.pd n e t xs i f m hn
  exact⟨p1,q1.same (hs n _ hn trivial p1 _ (.inl rfl)) λi f b p hp=>hs n _ hn trivial p1 b (.inr ⟨i,f,p,hp⟩),q2⟩
theorem C12 {β:Nat→Nat→Nat→Option (Nat×Nat)} (h:RelE E st saved a S w w K) (hT:TFB st.heap w K β) {nm:Nat} (hn:B3 st.heap nm=none)
  {T T' ty e:TypeId} {t:Ty} {d:TypeDesc} (ht:P.underlying T=some (.slice e)) (ht':P.underlying T'=some d) (hd:∀k,d≠ .int k) (hok:TyOk P t e)
  {g1 o1 g2 o2 c c2:Nat} {A:Option Addr} {β1 β2:Nat→Nat→Option (Nat×Nat)} {xs ys:List (El t)} (h1:TreeAt w g1 o1 t β1 xs) (h2:TreeAt w g2 o2 t β2 ys) (hy:1≤ys.length) (hle:xs.length≤c) (hmax:xs.length+ys.length≤A5)
  (hdst:c=0∨(A=some ⟨g1,o1,none⟩∧Room w g1 (o1+c*t.sz)∧(K.mine g1∧∀n o,B3 st.heap n=some o→o.isT→K.th n→¬Blk K β n g1)∧∀i f p,β2 i f≠some (g1,p)))
  (u1:∀i f b p,β1 i f=some (b,p)→K.mine b∧∀n o,B3 st.heap n=some o→o.isT→K.th n→¬Blk K β n b)
  (u2:∀i f b p,β2 i f=some (b,p)→K.mine b∧∀n o,B3 st.heap n=some o→o.isT→K.th n→¬Blk K β n b)
  (hap:∀i f i' f' b p p',β1 i f=some (b,p)→β2 i' f'=some (b,p')→False):
  ∃V w' E' K',(Builtin.append_ #[T,T'] ty #[.slice A xs.length c, .slice (some ⟨g2,o2,none⟩) ys.length c2]).run P w= .ok V w'∧RelE E' ⟨st.tmps,hset st.heap nm (.tree e t (xs++ys) 1)⟩ saved a S w' w' K'∧
   TF (hset st.heap nm (.tree e t (xs++ys) 1)) w' K'∧Dr w K w' K'∧CellRel E' (hset st.heap nm (.tree e t (xs++ys) 1)) w' (.row nm none none) V:=by
 obtain⟨css1,l1,z1,e1,k1⟩:=h1.cells
 obtain⟨css2,l2,z2,e2,k2⟩:=h2.cells
 have f1:=G8 css1 z1
 have f2:=G8 css2 z2
 rw[l1]at f1
 rw[l2]at f2
 have hone:∀v∈css2.flatten,v.oneCell'=true:=λv hv=>by
  obtain⟨ds,hds,hv⟩:=List.mem_flatten.1 hv
  obtain⟨i,hi,rfl⟩:=G63 hds
  obtain⟨ds',g1,g2⟩:=e2 i (by omega)
  rw[G36 hi]at g1
  have:=Option.some.inj g1
  rw[this]at hv
  exact g2.ones v hv
 obtain⟨g,off,c',w',hx,hc',hR,hnf,hcells,hw⟩:=C11 (P:=P) (w:=w) (ty:=ty) (A:=A) (n:=xs.length) (m:=ys.length) (c:=c) (olds:=css1.flatten) (news:=css2.flatten) (x:= .slice (some ⟨g2,o2,none⟩) ys.length c2) ht ht' hd hok f1 f2 hone hle hy hmax
  (hdst.imp id λ⟨p1,p2,_,_⟩=> ⟨g1,o1,p1,p2,h1.nf,k1⟩) (λw2=>by simp[Builtin.lenOf]) (λw2 hw2=>by
   have:=run_loadCells_list (P:=P) w2 ⟨g2,o2,none⟩ css2.flatten (λj v hj=>by
    rw[H5,I3 (w:=w) (by rw[hw2])]
    have hjl:j<css2.flatten.length:=by
     rcases G96 j css2.flatten.length with h|h
     ·exact h
     ·rw[G75 h]at hj;cases hj
    rw[k2 j (by omega)]
    exact hj)
   rw[f2]at this
   simpa [Builtin.firstCells]using this)
 have low:∀b,K.mine b→b<w.heap.size:=λb hb=> (h.kp b hb.1).1
 have inP:A=some ⟨g,off,none⟩∧Puts g w w'∧xs.length+ys.length≤c→c≠0∧g=g1∧off=o1:=λ⟨p1,_,p3⟩=>by
  have hc0:c≠0:=by omega
  obtain⟨q1,_⟩:=hdst.resolve_left hc0
  rw[p1]at q1
  injection q1 with q1
  injection q1 with q1 q2
  exact⟨hc0,q1,q2⟩
 have same:∀b,K.mine b→(c≠0→A=some ⟨g,off,none⟩→b≠g1)→w'.heap[b]? =w.heap[b]? ∧b≠g:=λb hb hne=>by
  rcases hw with hw|⟨rfl,_,hsm,_⟩
  ·obtain⟨hc0,rfl,_⟩:=inP hw
   exact⟨hw.2.1.other b (hne hc0 hw.1),hne hc0 hw.1⟩
  ·have:=low b hb
   exact⟨hsm b this,by omega⟩
 have hTr:TreeAt w' g off t (λi=>if i<xs.length then β1 i else β2 (i-xs.length)) (xs++ys):=h1.join h2 l1 z1 e1 l2 z2 e2 hcells hnf
  (λi f b p hb=>same b (u1 i f b p hb).1 λ_ _=>h1.ne i f b p hb)
  (λi f b p hb=>same b (u2 i f b p hb).1 λhc0 _ eb=> (hdst.resolve_left hc0).2.2.2 i f p (by rw[←eb];exact hb)) hap
 have hos:w'.os=w.os∧w'.tape=w.tape∧w'.output=w.output∧w.heap.size≤w'.heap.size∧(∀b m,Room w b m→Room w' b m)∧g<w'.heap.size:=by
  rcases hw with⟨_,hw,_⟩|⟨rfl,s1,s2,s3,s4,s5⟩
  ·exact⟨hw.os,hw.tape,hw.out,by rw[hw.size];exact G53 _,hw.room,hR.lt⟩
  ·exact⟨s3,s4,s5,by omega,λb m hr=>hr.of_same (s2 b hr.lt),hR.lt⟩
 obtain⟨v1,v2,v3,v4,v5,v6⟩:=hos
 have hsame:∀b,b<w.heap.size→¬(b=g1∧c≠0∧A=some ⟨g,off,none⟩)→w'.heap[b]? =w.heap[b]? :=λb hb hne=>by
  rcases hw with hw|⟨rfl,_,hsm,_⟩
  ·obtain⟨hc0,rfl,_⟩:=inP hw
   exact hw.2.1.other b λe=>hne ⟨e,hc0,hw.1⟩
  ·exact hsm b hb
 have hmine1:c≠0→K.mine g1∧∀n o,B3 st.heap n=some o→o.isT→K.th n→¬Blk K β n g1:=λhc0=> (hdst.resolve_left hc0).2.2.1
 have r1:=h.poke (w':=w') (λb=>b=g1∧c≠0∧A=some ⟨g,off,none⟩) (λb hb=>by rw[hb.1];exact(hmine1 hb.2.1).1) hsame v4 v5 v1 v2 v3
 have t1:TFB st.heap w' K β:=hT.stillT λn o hg ho hth b hb=>hsame b (low b (hT.mine hg ho hth b hb)) λhc=> (hmine1 hc.2.1).2 n o hg ho hth (by rw[←hc.1];exact hb)
 have d1:Dr w K w' K:=⟨v1,v2,v3,v4,λb hb=> ⟨hb,λhp=>hsame b (h.kp b hb).1 λhc=>hp (by rw[hc.1];exact(hmine1 hc.2.1).1.2.2)⟩,λb _ ho=>ho,λb _ hp=>hp,v5,λ_ _=>rfl⟩
 obtain⟨ns,hns⟩:=hTr.list
 have use:∀b∈g::ns,Ge6 E st.heap K w' β b:=λb hb=>by
  rcases G67.1 hb with rfl|hb
  ·rcases hw with hw|⟨rfl,_,hsm,_⟩
   ·obtain⟨hc0,rfl,_⟩:=inP hw
    exact .inr (hmine1 hc0)
   ·exact .inl ⟨λn hl hh=>Nat.ne_of_lt (h.bd n (J4 hl) hh),λhk=>absurd (h.bo _ hk) (Nat.lt_irrefl _),λhk=>absurd (h.kp _ hk).1 (Nat.lt_irrefl _),v6⟩
  ·obtain⟨i,f,p,hb⟩:=(hns b).1 hb
   by_cases e:i<xs.length
   ·simp only[G45 e]at hb
    exact .inr (u1 _ _ _ _ hb)
   ·simp only[G41 e]at hb
    exact .inr (u2 _ _ _ _ hb)
 obtain⟨r3,t3,d3⟩:=r1.newTreeB t1 hn e 1 (by unfold Fx;omega) use hns hTr
 refine⟨_,w',_,_,hx,r3,t3,d1.trans d3, ?_⟩
 have hs':hsh (hset st.heap nm (.tree e t (xs++ys) 1)) nm=some (.row e t (xs++ys).length):=by rw[F5,G45 rfl];rfl
 simp only[CellRel,hs']
 refine⟨trivial,some ⟨g,off,none⟩,c',by simp[D0],by simp[I8];omega, .inr ⟨by simp[Env.at],by simp[Env.at,I8], ?_⟩⟩
 simpa [Env.at,I8]using hR
variable {R : Type} {Kk : List Upd → VV → List Loc → Option R} {l : List Loc} {r : R} {op : Oper}
theorem Fb9 (h:RelE E st saved a S w w K) {o:Nat} {e:TypeId} {t:Ty} {xs:List (El t)} {q:Nat} {v:Value} (hg:B3 st.heap o=some (.tree e t xs q)) (hc:CellRel E st.heap w (.row o none none) v):
  ∃A c,v= .slice A xs.length c∧xs.length≤c∧(c=0∨(K.th o∧A=some ⟨(K.ta o).1,(K.ta o).2,none⟩∧Room w (K.ta o).1 ((K.ta o).2+c*t.sz))):=by
 have hs:hsh st.heap o=some (.row e t xs.length):=by simp[hsh,hg,E3]
 simp only[CellRel,hs]at hc
 obtain⟨_,A,c,rfl,hle,hx⟩:=hc
 obtain⟨p1,p2⟩:=h.ta o _ hg rfl
 refine⟨A,c,by simp[D0],by simpa [I8]using hle,hx.imp id λ⟨q1,q2,q3⟩=> ⟨p1.1 q1, ?_, ?_⟩⟩
 ·rw[q2,p2];simp[I8]
 ·rw[p2]at q3;simpa [I8]using q3
theorem F49 (hX:RelX E st saved a S w w0 K) {c:Call} {nm:Nat} (ho:op.op= .call c) (hc:c.callee= .builtin .append) {T T' e:TypeId} {t:Ty} {d0:TypeDesc} {v1 v2:Value}
  (ea:c.args.map a.eval= #[v1,v2]) (eT:c.argTypes= #[T,T']) (ht:P.underlying T=some (.slice e)) (ht':P.underlying T'=some d0) (hd:∀k,d0≠ .int k) (hok:TyOk P t e) {dc sc:Cell} {k:RP}
  (p1:CellRel E st.heap w dc v1) (p2:CellRel E st.heap w sc v2) (plain:∀l,k.run st Kk l=some r→GoesX P op a w st saved S w0 K Kk r) (hrun:(Ew7 nm e t dc sc k).run st Kk l=some r):GoesX P op a w st saved S w0 K Kk r:=by
 have hX':=hX
 obtain⟨wb,K1,hD,hT0,hB⟩:=hX
 have h:=hB.rebase0
 obtain⟨β,hT⟩:=hB.now hT0
 have hD:=hD.trans hB.drift
 have exec:∀{V w'},(Builtin.append_ #[T,T'] op.type #[v1,v2]).run P w= .ok V w'→(execOp a.eval op).run P w= .ok (.value V) w':=by
  intro V w' hx
  simp[execOp,ho,resolve,hc,invoke,builtin,ea,eT,hx]
 unfold Ew7 at hrun
 split at hrun
 ·rename_i o2
  simp only[RP.run]at hrun
  split at hrun
  ·rename_i e2 t2 ys2 q2 hg2
   cases hb2:Nat.beq e e2 with
   |false=>rw[hb2]at hrun;cases hrun
   |true=>
   rw[hb2]at hrun
   simp only[G52]at hrun
   have he2:=G35 hb2
   subst he2
   cases hcl2:E6 t2 t ys2 with
   |none=>rw[hcl2]at hrun;cases hrun
   |some ys=>
   rw[hcl2]at hrun
   obtain⟨et2,eys⟩:=D4 hcl2
   subst et2
   have eys:ys2=ys:=by simpa using eys
   subst eys
   simp only at hrun
   cases hy:Nat.ble 1 ys2.length with
   |false=>rw[hy]at hrun;cases hrun
   |true=>
   rw[hy]at hrun
   simp only[G52]at hrun
   have hy1:=G73 hy
   obtain⟨A2,c2,rfl,hle2,hx2⟩:=Fb9 h hg2 p2
   obtain⟨hth2,rfl,hR2⟩:=hx2.resolve_left (by omega)
   obtain⟨hat2,hmine2⟩:=(hT.tr o2 _ _ _ _ hg2).2 hth2
   have alone:∀{A:Option Addr} {v:Value} {u:List Upd} {st1:St} {l1:List Loc},v= .slice A ([]:List (El t2)).length 0→RelE E st1 saved a S w w K1→TFB st1.heap w K1 β→(∀n o,B3 st1.heap n=some o→o.isT→B3 st.heap n=some o∧n≠o2)→
     st.upds (u++ [.o nm (.tree e t2 ys2 1)])=⟨st1.tmps,hset st1.heap nm (.tree e t2 ys2 1)⟩→B3 st1.heap nm=none→ys2.length≤A5→v1=v→Kk (u++ [.o nm (.tree e t2 ys2 1)]) (one (.row nm none none)) l1=some r→GoesX P op a w st saved S w0 K Kk r:=by
    intro A v u st1 l1 hv h1 hT1 hold hu hn1 hmax hv1 hK
    subst hv
    subst hv1
    have use2:∀b,Blk K1 β o2 b→K1.mine b∧∀n o,B3 st1.heap n=some o→o.isT→K1.th n→¬Blk K1 β n b:=λb hb=> ⟨hmine2 b hb,λn o hg ho' hth hB=>by
     obtain⟨k1,k2⟩:=hold n o hg ho'
     exact hT.ap o2 n _ o (Ne.symm k2) hg2 k1 trivial ho' hth2 hth b hb hB⟩
    have hnil:TreeAt w (K1.ta o2).1 (K1.ta o2).2 t2 (λ_ _=>none) ([]:List (El t2)):=⟨λi hi=>absurd hi (Nat.not_lt_zero _),hat2.nf,(λi f i' f' b p p' hb=>by cases hb),(λi f b p hb=>by cases hb),λi f b p hb=>by cases hb⟩
    obtain⟨V,w',E',K',hx,r3,t3,d3,hcell⟩:=C12 (P:=P) (ty:=op.type) (A:=A) (c2:=c2) h1 hT1 hn1 ht ht' hd hok hnil hat2 hy1 (c:=0) (G53 _) (by simpa using hmax) (.inl rfl) (λi f b p hb=>by cases hb)
     (λi f b p hb=>use2 b (.inr ⟨i,f,p,hb⟩)) (λi f i' f' b p p' hb=>by cases hb)
    rw[G60]at r3 t3 hcell
    refine⟨_,_,l1,hK,λQ next hnx=> ?_⟩
    unfold Oper.wp
    rw[exec hx]
    rw[hu]at hnx
    exact hnx _ _ _ (RelX.put ⟨_,_,hD.trans d3,t3,r3⟩ op.dst (VRel.one hcell))
   split at hrun
   ·
    simp only[RP.run]at hrun
    split at hrun
    ·rename_i hmax
     obtain⟨hfr,l3,h3⟩:=L9 hrun
     obtain⟨hdis,hK⟩:=S6 h3
     have hne:nm≠o2:=λe=>by subst e;rw[hfr]at hg2;cases hg2
     refine alone (A:=none) (u:=[.o o2 .dead]) (st1:=⟨st.tmps,hset st.heap o2 .dead⟩) rfl (h.killT hg2 rfl) (hT.killT o2) (λn o hg ho'=> ?_) rfl ?_ (G62 hmax) p1 hK
     ·simp only at hg
      rw[A9]at hg
      by_cases en:n=o2
      ·rw[G45 en]at hg;cases hg;exact ho'.elim
      ·rw[G41 en]at hg;exact⟨hg,en⟩
     ·simp only[A9,G41 hne];exact hfr
    ·cases hrun
   ·rename_i o
    simp only[RP.run]at hrun
    split at hrun
    ·rename_i e1 t1 xs1 q1 hg1
     cases hb1:Nat.beq e e1 with
     |false=>rw[hb1]at hrun;cases hrun
     |true=>
     rw[hb1]at hrun
     simp only[G52]at hrun
     have he1:=G35 hb1
     subst he1
     cases hcl1:E6 t1 t2 xs1 with
     |none=>rw[hcl1]at hrun;cases hrun
     |some xs=>
     rw[hcl1]at hrun
     obtain⟨et1,exs⟩:=D4 hcl1
     subst et1
     have exs:xs1=xs:=by simpa using exs
     subst exs
     simp only[RP.run]at hrun
     split at hrun
     ·rename_i hmax
      obtain⟨hfr,l3,h3⟩:=L9 hrun
      obtain⟨hdis,hK⟩:=S6 h3
      have hmax:=G62 hmax
      have hne:nm≠o2:=λe=>by subst e;rw[hfr]at hg2;cases hg2
      have hne1:nm≠o:=λe=>by subst e;rw[hfr]at hg1;cases hg1
      have ho12:o≠o2:=λe=>by
       subst e
       have:=(N2 (show E8 (o:: [o,nm])=true from hdis)).1
       simp at this
      have hg2':B3 (hset st.heap o .dead) o2=some (.tree e t1 ys2 q2):=by rw[A9,G41 (Ne.symm ho12)];exact hg2
      have h1:=(h.killT hg1 rfl).killT hg2' rfl
      have hT1:=(hT.killT o).killT o2
      have hold:∀n ob,B3 (hset (hset st.heap o .dead) o2 .dead) n=some ob→ob.isT→B3 st.heap n=some ob∧n≠o2∧n≠o:=λn ob hg ho'=>by
       rw[A9]at hg
       by_cases en:n=o2
       ·rw[G45 en]at hg;cases hg;exact ho'.elim
       ·rw[G41 en,A9]at hg
        by_cases en1:n=o
        ·rw[G45 en1]at hg;cases hg;exact ho'.elim
        ·rw[G41 en1]at hg;exact⟨hg,en,en1⟩
      have hn1:B3 (hset (hset st.heap o .dead) o2 .dead) nm=none:=by rw[A9,G41 hne,A9,G41 hne1];exact hfr
      obtain⟨A,c1,rfl,hle1,hx1⟩:=Fb9 h hg1 p1
      by_cases hth1:K1.th o
      ·obtain⟨hat1,hmine1⟩:=(hT.tr o _ _ _ _ hg1).2 hth1
       have use1:∀b,Blk K1 β o b→K1.mine b∧∀n ob,B3 (hset (hset st.heap o .dead) o2 .dead) n=some ob→ob.isT→K1.th n→¬Blk K1 β n b:=λb hb=> ⟨hmine1 b hb,λn ob hg ho' hth hB=>by
        obtain⟨k1,k2,k3⟩:=hold n ob hg ho'
        exact hT.ap o n _ ob (Ne.symm k3) hg1 k1 trivial ho' hth1 hth b hb hB⟩
       have use2:∀b,Blk K1 β o2 b→K1.mine b∧∀n ob,B3 (hset (hset st.heap o .dead) o2 .dead) n=some ob→ob.isT→K1.th n→¬Blk K1 β n b:=λb hb=> ⟨hmine2 b hb,λn ob hg ho' hth hB=>by
        obtain⟨k1,k2,k3⟩:=hold n ob hg ho'
        exact hT.ap o2 n _ ob (Ne.symm k2) hg2 k1 trivial ho' hth2 hth b hb hB⟩
       have cross:∀b,Blk K1 β o b→¬Blk K1 β o2 b:=hT.ap o o2 _ _ ho12 hg1 hg2 trivial trivial hth1 hth2
       obtain⟨V,w',E',K',hx,r3,t3,d3,hcell⟩:=C12 (P:=P) (ty:=op.type) (A:=A) (c2:=c2) (st:=⟨st.tmps,hset (hset st.heap o .dead) o2 .dead⟩) h1 hT1 hn1 ht ht' hd hok hat1 hat2 hy1 (c:=c1) hle1 hmax
        (hx1.imp id λ⟨_,k1,k2⟩=> ⟨k1,k2,use1 _ (.inl rfl),λi f p hb=>cross _ (.inl rfl) (.inr ⟨i,f,p,hb⟩)⟩)
        (λi f b p hb=>use1 b (.inr ⟨i,f,p,hb⟩)) (λi f b p hb=>use2 b (.inr ⟨i,f,p,hb⟩))
        (λi f i' f' b p p' hb hb'=>cross b (.inr ⟨i,f,p,hb⟩) (.inr ⟨i',f',p',hb'⟩))
       refine⟨_,_,l3,hK,λQ next hnx=> ?_⟩
       unfold Oper.wp
       rw[exec hx]
       exact hnx _ _ _ (RelX.put ⟨_,_,hD.trans d3,t3,r3⟩ op.dst (VRel.one hcell))
      ·have hx0:xs1=[]:=(hT.tr o _ _ _ _ hg1).1.resolve_left hth1
       subst hx0
       have hc0:c1=0:=hx1.resolve_right λk=>hth1 k.1
       subst hc0
       exact alone (A:=A) (u:=[.o o .dead, .o o2 .dead]) (st1:=⟨st.tmps,hset (hset st.heap o .dead) o2 .dead⟩) rfl h1 hT1 (λn ob hg ho'=> ⟨(hold n ob hg ho').1,(hold n ob hg ho').2.1⟩) rfl hn1 (by simpa using hmax) rfl hK
     ·cases hrun
    ·cases hrun
   ·cases hrun
  ·exact plain _ hrun
 ·exact plain _ hrun
end
end Go.Vm
end
section
namespace Go.Vm
open Go
theorem Bo3 {w w':World} {β β':Nat→Option (Nat×Nat)}:∀{t:Ty} {f j:Nat} {x y:El t} {ds:List Value} {e:TypeId} {t2:Ty} {ys zs:List (El t2)} {g off c:Nat},TElt w β t f x ds→(B1 t x)[j]? =some (.slc e t2 ys)→B46 t2 zs t x j=some y→zs.length≤c→
  β' (f+j)=some (g,off)→(∀k,k≠f+j→β' k=β k)→RowAt (λ_=>False) w' g off t2 zs→NoFrz t2 w' g→Room w' g (off+c*t2.sz)→(∀k b p,k≠f+j→β k=some (b,p)→w'.heap[b]? =w.heap[b]?)→
  TElt w' β' t f y (ds.set j (.slice (some ⟨g,off,none⟩) zs.length c))∧(B1 t y)[j]? =some (.slc e t2 zs)∧j<ds.length
 | .int k,_,j,_,_,_,_,_,_,_,_,_,_,hx,hj,hp,_,_,_,_,_,_,_=>by cases j<;>simp[B1]at hj
 | .bool,_,j,_,_,_,_,_,_,_,_,_,_,hx,hj,hp,_,_,_,_,_,_,_=>by cases j<;>simp[B1]at hj
 | .str,_,j,_,_,_,_,_,_,_,_,_,_,hx,hj,hp,_,_,_,_,_,_,_=>by cases j<;>simp[B1]at hj
 | .nil,_,j,_,_,_,_,_,_,_,_,_,_,hx,hj,hp,_,_,_,_,_,_,_=>by simp[B1]at hj
 | .slice e t,f,j,xs,y,_,e',t',ys',zs,g,off,c,hx,hj,hp,hl,hb,hb2,hR,hN,hM,hw=>by
  cases j with
  |succ j=>simp[B1]at hj
  |zero=>
   simp only[B1,Ha2,G43]at hj
   injection hj with e1 e2 e3
   subst e2
   cases e3
   subst e1
   simp only[B46,dite_true,G43]at hp
   subst hp
   obtain⟨hf,A,c0,rfl,hc,hz⟩:=hx
   exact⟨⟨hf,some ⟨g,off,none⟩,c,rfl,hl, .inr ⟨g,off,hb,rfl,hR,hN,hM⟩⟩,rfl,by simp⟩
 | .fld a r,f,j,x,y,_,e,t2,ys,zs,g,off,c,hx,hj,hp,hl,hb,hb2,hR,hN,hM,hw=>by
  obtain⟨c1,c2,rfl,h1,h2⟩:=hx
  simp only[B1]at hj
  have l1:=T3 a x.1
  have s1:=h1.len
  simp only[B46]at hp
  have hsame:∀{t:Ty} {f':Nat} {x:El t} {cs:List Value},TElt w β t f' x cs→(∀k,f'≤k→k<f'+t.sz→k≠f+j)→TElt w' β' t f' x cs:=by
   intro t f' x cs hx hk
   have h1:TElt w (λk=>if f'≤k∧k<f'+t.sz then β k else none) t f' x cs:=hx.congr λk h1 h2=>by simp[h1,h2]
   have h2:=h1.same (w':=w') λk b p hkb=>by
    by_cases hc:f'≤k∧k<f'+t.sz
    ·rw[G45 hc]at hkb
     exact hw k b p (hk k hc.1 hc.2) hkb
    ·rw[G41 hc]at hkb;cases hkb
   exact h2.congr λk h1 h2=>by simp[h1,h2,hb2 k (hk k h1 h2)]
  by_cases hlt:j<a.sz
  ·rw[G51 (by omega)]at hj
   have:Nat.blt j a.sz=true:=by simpa [Nat.blt_eq]using hlt
   rw[this]at hp
   simp only[G52,G94]at hp
   obtain⟨y1,hy1,rfl⟩:=hp
   obtain⟨g1,g2,g3⟩:=Bo3 h1 hj hy1 hl hb hb2 hR hN hM hw
   have l2:=T3 a y1
   refine⟨⟨c1.set j _,c2,by rw[List.set_append_left _ _ (by omega)],g1,hsame h2 λk h1 h2=>by omega⟩, ?_,by simp;omega⟩
   simp only[B1]
   rw[G51 (by omega)];exact g2
  ·rw[G50 (by omega),l1]at hj
   have:Nat.blt j a.sz=false:=by
    cases hq:Nat.blt j a.sz with
    |false=>rfl
    |true=>rw[Nat.blt_eq]at hq;exact absurd hq hlt
   rw[this]at hp
   simp only[G72,G94]at hp
   obtain⟨y1,hy1,rfl⟩:=hp
   have e1:f+a.sz+(j-a.sz)=f+j:=by omega
   obtain⟨g1,g2,g3⟩:=Bo3 (f:=f+a.sz) h2 hj hy1 hl (by rw[e1];exact hb) (by rw[e1];exact hb2) hR hN hM (by rw[e1];exact hw)
   refine⟨⟨c1,c2.set (j-a.sz) _,by rw[List.set_append_right _ _ (by omega),s1],hsame h1 λk h1 h2=>by omega,g1⟩, ?_,by simp;omega⟩
   simp only[B1]
   rw[G50 (by omega),l1];exact g2
section
variable {P : Program} {cfg : Cfg} {E : Env} {st : St} {saved : List (Nat × List VV)} {a : Act} {S : List (Array Value)} {w w0 : World} {K : Keep}
 {R:Type} {Kk:List Upd→VV→List Loc→Option R} {l:List Loc} {r:R} {op:Oper}
theorem TreeAt.grow {w':World} {g0 o0:Nat} {t2:Ty} {β:Nat→Nat→Option (Nat×Nat)} {xs:List (El t2)} (hT:TreeAt w g0 o0 t2 β xs) {i f:Nat} (hi:i<xs.length) {e:TypeId} {t:Ty} {ys zs:List (El t)} {y:El t2} {g off c:Nat}
  (hj:(B1 t2 (rd (K8 t2) xs i))[f]? =some (.slc e t ys)) (hp:B46 t zs t2 (rd (K8 t2) xs i) f=some y) (hl:zs.length≤c) (hR:RowAt (λ_=>False) w' g off t zs) (hN:NoFrz t w' g) (hM:Room w' g (off+c*t.sz))
  (hg0:w'.heap[g0]? =w.heap[g0]?) (hne:g≠g0) (hsame:∀i' f' b p,¬(i'=i∧f'=f)→β i' f'=some (b,p)→w'.heap[b]? =w.heap[b]? ∧b≠g):
  TreeAtX w' g0 o0 t2 (λi' f'=>if i'=i∧f'=f then some (g,off)else β i' f') (xs.set i y) i f∧(B1 t2 y)[f]? =some (.slc e t zs):=by
 obtain⟨ds,hd,hc⟩:=hT.row i hi
 have hri:rd (K8 t2) xs i=xs[i]:=C00 hi
 rw[hri]at hj hp
 obtain⟨k1,k2,k3⟩:=Bo3 (w':=w') (β':=λf'=>if f'=f then some (g,off)else β i f') (f:=0) hd hj hp hl (by simp) (λk hk=>by rw[G41 (by omega)]) hR hN hM
  (λk b p hk hb=> (hsame i k b p (λh=>hk (by omega)) hb).1)
 rw[hd.len]at k3
 have hcell:∀i' j,w'.cell? ⟨g0,o0+i'*t2.sz+j,none⟩=w.cell? ⟨g0,o0+i'*t2.sz+j,none⟩:=λi' j=>I3 hg0
 refine⟨⟨λi' hi'=> ?_,⟨by simpa using hi,k3, ?_⟩,hT.nf.of_same hg0,λi1 f1 i2 f2 b p p' hb hb'=> ?_,λi1 f1 b p hb=> ?_,λi1 f1 b p hb=> ?_⟩,k2⟩
 ·have hi2:i'<xs.length:=by simpa using hi'
  by_cases e1:i'=i
  ·subst e1
   refine⟨_,by rw[List.getElem_set_self];simpa using k1,λj hj hn=> ?_⟩
   rw[hcell,hc j hj,Hc9 (λe=>hn ⟨rfl,e.symm⟩)]
  ·obtain⟨ds',d1,d2⟩:=hT.row i' hi2
   refine⟨ds', ?_,λj hj _=>by rw[hcell,d2 j hj]⟩
   rw[List.getElem_set_ne (λe=>e1 e.symm)]
   have:(λf'=>if i'=i∧f'=f then some (g,off)else β i' f')=β i':=by funext f';rw[G41 (λh=>e1 h.1)]
   show TElt w' (λf'=>if i'=i∧f'=f then some (g,off)else β i' f') t2 0 xs[i'] ds'
   rw[this]
   exact d1.same λf' b p hb=> (hsame i' f' b p (λh=>e1 h.1) hb).1
 ·rw[hcell,hc f k3,G36 (by rw[hd.len];exact k3)];rfl
 ·by_cases e1:i1=i∧f1=f
  ·by_cases e2:i2=i∧f2=f
   ·exact⟨e1.1.trans e2.1.symm,e1.2.trans e2.2.symm⟩
   ·simp only[G45 e1]at hb;simp only[G41 e2]at hb'
    cases hb
    exact absurd rfl (hsame _ _ _ _ e2 hb').2
  ·by_cases e2:i2=i∧f2=f
   ·simp only[G41 e1]at hb;simp only[G45 e2]at hb'
    cases hb'
    exact absurd rfl (hsame _ _ _ _ e1 hb).2
   ·simp only[G41 e1]at hb;simp only[G41 e2]at hb'
    exact hT.inj _ _ _ _ _ _ _ hb hb'
 ·by_cases e1:i1=i∧f1=f
  ·simp only[G45 e1]at hb;cases hb;exact hne
  ·simp only[G41 e1]at hb;exact hT.ne _ _ _ _ hb
 ·by_cases e1:i1=i∧f1=f
  ·rw[e1.1,e1.2];exact⟨by simpa using hi,k3⟩
  ·simp only[G41 e1]at hb
   have:=hT.lt _ _ _ _ hb
   simpa using this
theorem F05 (h:RelE E st saved a S w w K) {o i f q m:Nat} {e:TypeId} {t:Ty} {v:Value} (hg:B3 st.heap o=some (.bor q i f e t m)) (hc:CellRel E st.heap w (.row o none none) v):
  ∃A c,v= .slice A m c∧m≤c∧(c=0∨(K.th o∧A=some ⟨(K.ta o).1,(K.ta o).2,none⟩∧Room w (K.ta o).1 ((K.ta o).2+c*t.sz))):=by
 have hs:hsh st.heap o=some (.row e t m):=by simp[hsh,hg,E3]
 simp only[CellRel,hs]at hc
 obtain⟨_,A,c,rfl,hle,hx⟩:=hc
 obtain⟨p1,p2⟩:=h.ta o _ hg rfl
 refine⟨A,c,by simp[D0],by simpa [I8]using hle,hx.imp id λ⟨q1,q2,q3⟩=> ⟨p1.1 q1, ?_, ?_⟩⟩
 ·rw[q2,p2];simp[I8]
 ·rw[p2]at q3;simpa [I8]using q3
theorem F50 (hX:RelX E st saved a S w w0 K) {c:Call} {nm:Nat} (ho:op.op= .call c) (hc:c.callee= .builtin .append) {T T' e:TypeId} {t:Ty} {d0:TypeDesc} {v1 v2:Value}
  (ea:c.args.map a.eval= #[v1,v2]) (eT:c.argTypes= #[T,T']) (ht:P.underlying T=some (.slice e)) (ht':P.underlying T'=some d0) (hd:∀k,d0≠ .int k) (hok:TyOk P t e) {dc sc:Cell} {k:RP}
  (p1:CellRel E st.heap w dc v1) (p2:CellRel E st.heap w sc v2) (plain:∀l,k.run st Kk l=some r→GoesX P op a w st saved S w0 K Kk r) (hrun:(Ew8 nm e t dc sc k).run st Kk l=some r):GoesX P op a w st saved S w0 K Kk r:=by
 obtain⟨wb,K1,hD,hT0,hB⟩:=id hX
 have h:=hB.rebase0
 obtain⟨β,hT⟩:=hB.now hT0
 have hD:=hD.trans hB.drift
 have exec:∀{V w'},(Builtin.append_ #[T,T'] op.type #[v1,v2]).run P w= .ok V w'→(execOp a.eval op).run P w= .ok (.value V) w':=by
  intro V w' hx
  simp[execOp,ho,resolve,hc,invoke,builtin,ea,eT,hx]
 unfold Ew8 at hrun
 split at hrun
 case h_2=>exact plain _ hrun
 rename_i nb
 simp only[RP.run]at hrun
 split at hrun
 case h_2=>exact plain _ hrun
 rename_i o i f e1 t1 m hgb
 cases hb1:(Nat.beq e e1&&decide (t1=t)&&t.flat)with
 |false=>rw[hb1]at hrun;cases hrun
 |true=>
 rw[hb1]at hrun
 simp only[G52,RP.run]at hrun
 simp only[G37]at hb1
 have ee:=G35 hb1.1.1
 have et:=G62 hb1.1.2
 have hfl:=hb1.2
 subst ee;subst et
 split at hrun
 case h_2=>cases hrun
 rename_i e2 t2 xs q hg
 cases hq:(Nat.beq q 0||Nat.beq q (2*nb+5))with
 |false=>rw[hq]at hrun;cases hrun
 |true=>
 rw[hq]at hrun
 simp only[G52]at hrun
 have hcur:Cur q nb:=by
  rw[Bool.or_eq_true]at hq
  exact hq.imp G35 G35
 obtain⟨zs,l1,h1,hsrc⟩:=Fa9 (P:=P) hrun
 obtain⟨css,hy,hlen,hfst⟩:=hsrc h p2
 split at h1
 case h_2=>cases h1
 rename_i e3 t3 ys3 hj
 cases hb3:Nat.beq e e3 with
 |false=>rw[hb3]at h1;cases h1
 |true=>
 rw[hb3]at h1
 simp only[G52]at h1
 have e3e:=G35 hb3
 subst e3e
 cases hcl:E6 t3 t1 ys3 with
 |none=>rw[hcl]at h1;cases h1
 |some ys=>
 rw[hcl]at h1
 obtain⟨et3,eys⟩:=D4 hcl
 subst et3
 have eys:ys3=ys:=by simpa using eys
 subst eys
 obtain⟨g1,h2⟩:=T2 h1
 obtain⟨g2,h3⟩:=T2 h2
 have g1:=G62 g1
 have g2:=G62 g2
 cases hp:B46 t3 (ys3++zs) t2 (rd (K8 t2) xs i) f with
 |none=>rw[hp]at h3;cases h3
 |some y=>
 rw[hp]at h3
 obtain⟨hfr,l3,h4⟩:=L9 h3
 obtain⟨hdis,hK⟩:=S6 h4
 obtain⟨A,c1,rfl,hle1,hx1⟩:=F05 h hgb p1
 obtain⟨b1,b2,b3⟩:=hT.bo nb o i f e t3 m hgb
 obtain⟨hth,hi,hβn,ys',hj',hm⟩:=b2 e2 t2 xs q hg hcur
 rw[hj]at hj'
 injection hj' with hj'
 injection hj' with _ _ hj'
 subst hj'
 obtain⟨hat,hmine⟩:=(hT.tr o _ _ _ _ hg).2 hth
 obtain⟨ds,hel,hdc⟩:=hat.row i hi
 have hri:rd (K8 t2) xs i=xs[i]:=C00 hi
 rw[hri]at hj
 obtain⟨-,A2,c2,hds,hc2,hx2⟩:=Av7 hel hj
 subst hm
 have hpd:(B1 t2 (rd (K8 t2) xs i))[f]? =some (.slc e t3 ys3):=by rw[hri];exact hj
 obtain⟨cx,hcx,hdst⟩:∃cx:List (List Value),All2 (Imm (λ_=>False) w t3) ys3 cx∧(c1=0∨∃g off,A=some ⟨g,off,none⟩∧β o i f=some (g,off)∧Room w g (off+c1*t3.sz)∧NoFrz t3 w g∧∀j,j<ys3.length*t3.sz→w.cell? ⟨g,off+j,none⟩=cx.flatten[j]?):=by
  rcases hx1 with hc0|⟨hthn,hA,hRm⟩
  ·have:ys3=[]:=G58.1 (by omega)
   subst this
   exact⟨[], .nil, .inl hc0⟩
  ·have hβ:=hβn hthn
   rcases hx2 with⟨_,hno⟩|⟨b,p,hbp,hA2,hrow,hnf,_⟩
   ·rw[G78,hβ]at hno;cases hno
   ·rw[G78,hβ]at hbp
    have hbp:=Option.some.inj hbp
    obtain⟨cx,q1,q2⟩:=hrow.flat
    have hl:=G8 cx (a6 q1)
    rw[←q1.length]at hl
    refine⟨cx,q1, .inr ⟨b,p,by rw[hA,hbp],by rw[hβ,hbp],by rw[hbp]at hRm;exact hRm,hnf,λj hjl=> ?_⟩⟩
    have hjl:j<cx.flatten.length:=by omega
    rw[q2 j _ (G36 hjl),G36 hjl]
 have f1:=G8 cx (a6 hcx)
 have f2:=G8 css (a6 hy)
 rw[←hcx.length]at f1
 rw[←hy.length]at f2
 obtain⟨g,off,c',w',hx,hc',hR,hnf,hcells,hw⟩:=C11 (P:=P) (w:=w) (ty:=op.type) (A:=A) (n:=ys3.length) (m:=zs.length) (c:=c1) (olds:=cx.flatten) (news:=css.flatten) (x:=v2) ht ht' hd hok f1 f2 (C04 hy) hle1 g1 g2
  (hdst.imp id λ⟨g,off,k1,_,k3,k4,k5⟩=> ⟨g,off,k1,k3,k4,k5⟩) hlen hfst
 have low:∀b,K1.mine b→b<w.heap.size:=λb hb=> (h.kp b hb.1).1
 have inP:A=some ⟨g,off,none⟩∧Puts g w w'∧ys3.length+zs.length≤c1→β o i f=some (g,off):=λ⟨k1,_,k3⟩=>by
  obtain⟨g',off',q1,q2,_⟩:=hdst.resolve_left (by omega)
  rw[k1]at q1
  injection q1 with q1
  injection q1 with q1 q3
  rw[q2,q1,q3]
 have hlow0:=low _ (hmine _ (.inl rfl))
 have hrow':RowAt (λ_=>False) w' g off t3 (ys3++zs):=by
  have hall:All2 (Imm (λ_=>False) w' t3) (ys3++zs) (cx++css):=(hcx.append (hy.mono λ_ _ q=>Av6 hfl q)).mono λ_ _ q=>q.mono (λb hb=>hb) (λb hb=>hb.elim)
  refine A43 (rest:=[]) hall λj v hjv=> ?_
  rw[G59,List.flatten_append]at hjv
  have hjl:j< (cx.flatten++css.flatten).length:=by
   rcases G96 j (cx.flatten++css.flatten).length with h|h
   ·exact h
   ·rw[G75 h]at hjv;cases hjv
  rw[G70,f1,f2,←G71]at hjl
  rw[hcells j hjl]
  exact hjv
 have hblk:∀i' f' b p,β o i' f'=some (b,p)→b<w.heap.size:=λi' f' b p hb=>low b (hmine b (.inr ⟨i',f',p,hb⟩))
 have hgne:g≠(K1.ta o).1:=by
  rcases hw with hw|⟨rfl,_⟩
  ·exact hat.ne _ _ _ _ (inP hw)
  ·omega
 have hsame:∀b,b<w.heap.size→b≠g→w'.heap[b]? =w.heap[b]? :=λb hb hne=>by
  rcases hw with hw|⟨rfl,_,hsm,_⟩
  ·exact hw.2.1.other b hne
  ·exact hsm b hb
 have hother:∀i' f' b p,¬(i'=i∧f'=f)→β o i' f'=some (b,p)→w'.heap[b]? =w.heap[b]? ∧b≠g:=λi' f' b p hne hb=>by
  have hbg:b≠g:=by
   rcases hw with hw|⟨rfl,_⟩
   ·intro e
    subst e
    exact hne (hat.inj _ _ _ _ _ _ _ hb (inP hw))
   ·have:=hblk _ _ _ _ hb;omega
  exact⟨hsame b (hblk _ _ _ _ hb) hbg,hbg⟩
 obtain⟨hgrow,hyj⟩:=hat.grow (w':=w') hi hpd hp (c:=c') (by rw[G70];exact hc') hrow' hnf hR (hsame _ hlow0 (Ne.symm hgne)) hgne hother
 have hos:w'.os=w.os∧w'.tape=w.tape∧w'.output=w.output∧w.heap.size≤w'.heap.size∧(∀b m,Room w b m→Room w' b m)∧g<w'.heap.size:=by
  rcases hw with⟨_,hw,_⟩|⟨rfl,s1,s2,s3,s4,s5⟩
  ·exact⟨hw.os,hw.tape,hw.out,by rw[hw.size];exact G53 _,hw.room,hR.lt⟩
  ·exact⟨s3,s4,s5,by omega,λb m hr=>hr.of_same (s2 b hr.lt),hR.lt⟩
 obtain⟨z1,z2,z3,z4,z5,z6⟩:=hos
 have hbo:∀n i' f' e' t' m',B3 st.heap n=some (.bor o i' f' e' t' m')→(∀e t xs' q',Obj.pend e2 t2 (xs.set i y) i f nm= .tree e t xs' q'→Cur q' n→Ay7 K1 (λn=>if n=o then(λi' f'=>if i'=i∧f'=f then some (g,off)else β o i' f')else β n) n o i' f' e' t' m' t xs')∧
   (∀e t xs' i2 f2,Obj.pend e2 t2 (xs.set i y) i f nm= .pend e t xs' i2 f2 n→i2=i'∧f2=f'∧K1.th n∧Ay7 K1 (λn=>if n=o then(λi' f'=>if i'=i∧f'=f then some (g,off)else β o i' f')else β n) n o i' f' e' t' m' t xs'):=λn i' f' e' t' m' hn=>by
  refine⟨(λ_ _ _ _ h=>by cases h),λ_ _ _ _ _ h=> ?_⟩
  injection h with _ _ _ _ _ h
  subst h
  rw[hfr]at hn;cases hn
 obtain⟨ns,r1,t1,d1⟩:∃ns,RelE E ⟨st.tmps,hset st.heap o (.pend e2 t2 (xs.set i y) i f nm)⟩ saved a S w' w' (K1.more ns)∧TFB (hset st.heap o (.pend e2 t2 (xs.set i y) i f nm)) w' (K1.more ns) (λn=>if n=o then(λi' f'=>if i'=i∧f'=f then some (g,off)else β o i' f')else β n)∧Dr w K1 w' (K1.more ns):=by
  rcases hw with hw|⟨hgs,s1,s2,s3,s4,s5⟩
  ·have hin:=inP hw
   refine⟨[],h.rehome (w':=w') (ob':= .pend e2 t2 (xs.set i y) i f nm) hT hg trivial trivial (by simp[E3]) hth _ [] (λb hb=>by cases hb) (λb hb hnb=>hsame b hb λe=>hnb (.inr ⟨i,f,off,by rw[e];exact hin⟩)) z4 z5 z1 z2 z3 (λi' f' b p hb=> ?_) (λ_ _ _ _ h=>by cases h) (λe' t' xs' i' f' m' h=> ?_) hbo⟩
   ·by_cases e1:i'=i∧f'=f
    ·simp only[G45 e1]at hb;cases hb;exact .inr ⟨i,f,off,hin⟩
    ·simp only[G41 e1]at hb;exact .inr ⟨i',f',p,hb⟩
   ·cases h;exact hgrow
  ·have h':=h.poke (w':=w') (λ_=>False) (λ_ h=>h.elim) (λb hb _=>s2 b hb) z4 z5 z1 z2 z3
   have hT':=hT.still (w':=w') λb hb=>s2 b (low b hb)
   have d0:Dr w K1 w' K1:=⟨z1,z2,z3,z4,λb hb=> ⟨hb,λ_=>s2 b (h.kp b hb).1⟩,λb _ ho=>ho,λb _ hp=>hp,z5,λ_ _=>rfl⟩
   obtain⟨r,t,d⟩:=h'.rehome (w':=w') (ob':= .pend e2 t2 (xs.set i y) i f nm) hT' hg trivial trivial (by simp[E3]) hth (λi' f'=>if i'=i∧f'=f then some (g,off)else β o i' f') [g] (λb hb=>by
     rw[G48.1 hb]
     exact⟨λn hl hh=>Nat.ne_of_lt (by rw[hgs];exact h.bd n (J4 hl) hh),λhk=>absurd (h.bo _ hk) (by omega),λhk=>absurd (h.kp _ hk).1 (by omega),z6⟩) (λb hb _=>rfl) (G53 _) (λ_ _ h=>h) rfl rfl rfl (λi' f' b p hb=>by
     by_cases e1:i'=i∧f'=f
     ·simp only[G45 e1]at hb;cases hb;exact .inl (G48.2 rfl)
     ·simp only[G41 e1]at hb;exact .inr ⟨i',f',p,hb⟩) (λ_ _ _ _ h=>by cases h) (λe' t' xs' i' f' m' h=>by cases h;exact hgrow) hbo
   exact⟨[g],r,t,d0.trans d⟩
 have hno:nm≠o:=λe=>by rw[e]at hfr;rw[hfr]at hg;cases hg
 obtain⟨r2,t2'⟩:=r1.newBor t1 (nm:=nm) (by show B3 (hset st.heap o _) nm=none;rw[A9,G41 hno];exact hfr) (o:=o) (i:=i) (f:=f) (e:=e) (t:=t3) (m:=ys3.length+zs.length) (by show B3 (hset st.heap o _) o=_;rw[A9,G45 rfl]) (g,off) True (λ_=>z6)
  (λ_ _ _ _ h=>by cases h) (λe' t' xs' i2 f2 h=>by
   cases h
   refine⟨rfl,rfl,trivial,hth,by simpa using hi,λ_=>by simp,ys3++zs, ?_,by simp⟩
   rw[show rd (K8 t2) (xs.set i y) i=y by simp[rd,hi]]
   exact hyj)
 refine⟨_,_,l3,hK,λQ next hnx=> ?_⟩
 unfold Oper.wp
 rw[exec hx]
 refine hnx _ _ _ (RelX.put ⟨_,_,(hD.trans d1).trans Dr.name,⟨_,t2'⟩,r2⟩ op.dst (VRel.one ?_))
 have hs':hsh (hset (hset st.heap o (.pend e2 t2 (xs.set i y) i f nm)) nm (.bor o i f e t3 (ys3.length+zs.length))) nm=some (.row e t3 (ys3.length+zs.length)):=by rw[F5,G45 rfl];rfl
 show CellRel _ (hset (hset st.heap o (.pend e2 t2 (xs.set i y) i f nm)) nm (.bor o i f e t3 (ys3.length+zs.length))) w' (.row nm none none) _
 simp only[CellRel,hs']
 refine⟨trivial,some ⟨g,off,none⟩,c',by simp[D0],by simp[I8];omega, .inr ⟨by simp[Env.at],by simp[Env.at,I8], ?_⟩⟩
 simpa [Env.at,I8]using hR
end
end Go.Vm
end
section
namespace Go.Vm
open Go
theorem TreeAtX.full {w w':World} {g0 o0:Nat} {t:Ty} {β:Nat→Nat→Option (Nat×Nat)} {xs:List (El t)} {i f:Nat} (hT:TreeAtX w g0 o0 t β xs i f) {e:TypeId} {t2:Ty} {ys:List (El t2)} {g off c:Nat}
  (hj:∀hi:i<xs.length,(B1 t xs[i])[f]? =some (.slc e t2 ys)) (hp:∀hi:i<xs.length,B46 t2 ys t xs[i] f=some xs[i]) (hl:ys.length≤c) (hβ:β i f=some (g,off)) (hR:RowAt (λ_=>False) w g off t2 ys) (hN:NoFrz t2 w g) (hM:Room w g (off+c*t2.sz))
  (hcell:∀p,w'.cell? ⟨g0,p,none⟩=if p=o0+i*t.sz+f then some (.slice (some ⟨g,off,none⟩) ys.length c)else w.cell? ⟨g0,p,none⟩) (hnf:NoFrz t w' g0) (hsame:∀b,b≠g0→w'.heap[b]? =w.heap[b]?):TreeAt w' g0 o0 t β xs:=by
 refine⟨λi' hi'=> ?_,hnf,hT.inj,hT.ne,hT.lt⟩
 obtain⟨ds,h1,h2⟩:=hT.row i' hi'
 have hlen:=h1.len
 by_cases e1:i'=i
 ·subst e1
  obtain⟨k1,k2,k3⟩:=Bo3 (w':=w) (β':=β i') (f:=0) h1 (hj hi') (hp hi') hl (by rw[G78];exact hβ) (λ_ _=>rfl) hR hN hM (λ_ _ _ _ _=>rfl)
  refine⟨_,k1.same λf' b p hb=>hsame b (hT.ne _ _ _ _ hb),λj hj'=> ?_⟩
  rw[hcell]
  by_cases e2:j=f
  ·subst e2
   rw[G45 rfl,List.getElem?_set_self (by omega)]
  ·rw[G41 (by omega),h2 j hj' (λh=>e2 h.2),Hc9 (λe=>e2 e.symm)]
 ·refine⟨ds,h1.same λf' b p hb=>hsame b (hT.ne _ _ _ _ hb),λj hj'=> ?_⟩
  have hne:¬o0+i'*t.sz+j=o0+i*t.sz+f:=λh=>by
   have hf:=hT.ex.2.1
   rcases Nat.lt_or_gt_of_ne e1 with hlt|hgt
   ·have:(i'+1)*t.sz≤i*t.sz:=G86 _ hlt
    rw[G71]at this;omega
   ·have:(i+1)*t.sz≤i'*t.sz:=G86 _ hgt
    rw[G71]at this;omega
  rw[hcell,G41 hne]
  exact h2 j hj' (λh=>e1 h.1)
theorem Ex9:∀{t:Ty} {x:El t} {j:Nat} {e:TypeId} {t2:Ty} {ys:List (El t2)},(B1 t x)[j]? =some (.slc e t2 ys)→B46 t2 ys t x j=some x
 | .int k,_,j,_,_,_,hj=>by cases j<;>simp[B1]at hj
 | .bool,_,j,_,_,_,hj=>by cases j<;>simp[B1]at hj
 | .str,_,j,_,_,_,hj=>by cases j<;>simp[B1]at hj
 | .nil,_,j,_,_,_,hj=>by simp[B1]at hj
 | .slice e t,xs,j,e',t',ys',hj=>by
  cases j with
  |succ j=>simp[B1]at hj
  |zero=>
   simp only[B1,Ha2,G43]at hj
   injection hj with e1 e2 e3
   subst e2
   cases e3
   simp[B46]
 | .fld a r,x,j,e,t2,ys,hj=>by
  simp only[B1]at hj
  have l1:=T3 a x.1
  simp only[B46]
  by_cases hlt:j<a.sz
  ·rw[G51 (by omega)]at hj
   have:Nat.blt j a.sz=true:=by simpa [Nat.blt_eq]using hlt
   rw[this,G52,Ex9 hj];rfl
  ·rw[G50 (by omega),l1]at hj
   have:Nat.blt j a.sz=false:=by
    cases hq:Nat.blt j a.sz with
    |false=>rfl
    |true=>rw[Nat.blt_eq]at hq;exact absurd hq hlt
   rw[this,G72,Ex9 hj];rfl
section
variable {P : Program} {cfg : Cfg} {E : Env} {st : St} {saved : List (Nat × List VV)} {a : Act} {S : List (Array Value)} {w w0 : World} {K : Keep}
 {R:Type} {Kk:List Upd→VV→List Loc→Option R} {l:List Loc} {r:R} {op:Oper}
theorem Gf6 (hX:RelX E st saved a S w w0 K) {T:TypeId} {t0:Ty} {x y:Operand} {o i f i2 f2 m:Nat} {v:V1} {l':List Loc} {e:TypeId} {t:Ty} {xs:List (El t)} (hok:LdOk P t0 T) (ho:op.op= .store T x y)
  (hx:CellRel E st.heap w (.eptr o i f) (a.eval x)) (hv:V1Rel E st.heap w v (a.eval y)) (hg:B3 st.heap o=some (.pend e t xs i2 f2 m)) (hrun:(Fo8 t0 o i f e t xs i2 f2 m v).run st Kk l'=some r):GoesX P op a w st saved S w0 K Kk r:=by
 obtain⟨wb,K1,hD,hT0,hB⟩:=hX
 have h:=hB.rebase0
 obtain⟨β,hT⟩:=hB.now hT0
 have hD:=hD.trans hB.drift
 unfold Fo8 at hrun
 split at hrun
 case h_2=>cases hrun
 rename_i n hcs
 cases hb:(Nat.beq n m&&Nat.beq f f2&&Nat.beq t0.sz 1)with
 |false=>rw[hb]at hrun;cases hrun
 |true=>
 rw[hb]at hrun
 simp only[G52]at hrun
 obtain⟨hii,hr1⟩:=T2 hrun
 clear hrun
 simp only[RP.run]at hr1
 simp only[G37]at hb
 have en:=G35 hb.1.1
 have ei:=G35 hii
 have ef:=G35 hb.1.2
 have hs0:=G35 hb.2
 subst en;subst ei;subst ef
 split at hr1
 case h_2=>cases hr1
 rename_i o' i' f' e' t' k hgn
 cases hb2:Nat.beq o' o with
 |false=>rw[hb2]at hr1;cases hr1
 |true=>
 rw[hb2]at hr1
 simp only[G52]at hr1
 obtain⟨hkk,hr2⟩:=T2 hr1
 have eo:=G35 hb2
 have hk1:=G73 hkk
 subst eo
 obtain⟨hdis,hK⟩:=S6 hr2
 obtain⟨b1,b2,b3⟩:=hT.bo n o' i' f' e' t' k hgn
 obtain⟨q1,q2,hthn,c1,c2,c3,ys,c4,c5⟩:=b3 e t xs i f hg
 subst q1;subst q2
 obtain⟨hth,hatx,hmine⟩:=hT.pd o' _ _ _ _ _ _ hg
 subst c5
 have hs:hsh st.heap o'=some (.row e t xs.length):=by simp[hsh,hg,E3]
 simp only[CellRel,hs]at hx
 obtain⟨hlt,hptr⟩:=hx
 obtain⟨-,eρ⟩:=h.ta o' _ hg rfl
 rw[eρ]at hptr
 obtain⟨V,hV,hVc⟩:∃V,(a.eval y).cells.toList=[V]∧CellRel E st.heap w (.row n none none) V:=by
  have hvc:=hv.cells
  rw[hcs]at hvc
  generalize(a.eval y).cells.toList=L at hvc
  cases hvc with
  |cons hc hn=>cases hn;exact⟨_,rfl,hc⟩
 obtain⟨A,c,rfl,hkc,hx1⟩:=F05 h hgn hVc
 obtain⟨-,hA,hRm⟩:=hx1.resolve_left (by omega)
 subst hA
 have hβ:=c3 hthn
 obtain⟨ds,hel,hdc⟩:=hatx.row i c2
 have hri:rd (K8 t) xs i=xs[i]:=C00 c2
 rw[hri]at c4
 obtain⟨-,A2,cc,hds,hcc,hx2⟩:=Av7 hel c4
 rcases hx2 with⟨_,hno⟩|⟨b,p,hbp,hA2,hrow,hnf,hRm2⟩
 ·rw[G78,hβ]at hno;cases hno
 rw[G78,hβ]at hbp
 have hbp:=Option.some.inj hbp
 have hcell0:(w.cell? ⟨(K1.ta o').1,(K1.ta o').2+i*t.sz+f,none⟩).isSome=true:=hatx.ex.2.2
 have hex:=Ct1 (P:=P) (t:=t) (i:=i) (f:=f) hok ho hptr hv (by rw[hcs];simpa using hs0.symm) (λj hj=>by
  have:j=0:=by omega
  subst this;rw[G69];exact hcell0) hatx.nf
 rw[hV]at hex
 have hput:=G0 (K1.ta o').1 [.slice (some ⟨(K1.ta n).1,(K1.ta n).2,none⟩) ys.length c] ((K1.ta o').2+i*t.sz+f) w
 have hcell:∀p,(putCells (K1.ta o').1 [.slice (some ⟨(K1.ta n).1,(K1.ta n).2,none⟩) ys.length c] ((K1.ta o').2+i*t.sz+f) w).cell? ⟨(K1.ta o').1,p,none⟩=
   if p=(K1.ta o').2+i*t.sz+f then some (.slice (some ⟨(K1.ta n).1,(K1.ta n).2,none⟩) ys.length c)else w.cell? ⟨(K1.ta o').1,p,none⟩:=λp=>by
  by_cases e1:p=(K1.ta o').2+i*t.sz+f
  ·rw[G45 e1,e1]
   exact V5 (K1.ta o').1 [.slice (some ⟨(K1.ta n).1,(K1.ta n).2,none⟩) ys.length c] ((K1.ta o').2+i*t.sz+f) w 0 _ rfl (λm hm=>by
    have:m=0:=by simpa using hm
    subst this;exact hcell0)
  ·rw[G41 e1,E5 _ _ _ _ _ (by simp;omega)]
 have hfull:=hatx.full (w':=putCells (K1.ta o').1 [.slice (some ⟨(K1.ta n).1,(K1.ta n).2,none⟩) ys.length c] ((K1.ta o').2+i*t.sz+f) w) (e:=e') (t2:=t') (ys:=ys) (g:=(K1.ta n).1) (off:=(K1.ta n).2) (c:=c)
  (λ_=>c4) (λ_=>Ex9 c4) hkc hβ (by rw[hbp];exact hrow) (by rw[hbp];exact hnf) hRm hcell (λo hc=>by rw[hput.some]at hc;rw[hput.frozen];exact hatx.nf o hc) (λb hb=>hput.other b hb)
 obtain⟨r1,r2,r3⟩:=h.rehome (w':=putCells (K1.ta o').1 [.slice (some ⟨(K1.ta n).1,(K1.ta n).2,none⟩) ys.length c] ((K1.ta o').2+i*t.sz+f) w) hT hg (ob':= .tree e t xs 1) trivial trivial (by simp[E3]) hth (β o') [] (λb hb=>by cases hb)
  (λb _ hb=>hput.other b λe=>hb (.inl e)) (by rw[hput.size];exact G53 _) hput.room hput.os hput.tape hput.out (λi f b p hb=> .inr ⟨i,f,p,hb⟩)
  (λe1 t1 x1 q1 hq=>by cases hq;exact⟨hfull,λhx=>by rcases hx with h|h<;>cases h⟩) (λe1 t1 x1 i1 f1 m1 hq=>by cases hq)
  (λn1 i1 f1 e1 t1 m1 hn1=> ⟨λe2 t2 x2 q2 hq hc=>by cases hq;rcases hc with h|h<;>omega,λe2 t2 x2 i2 f2 hq=>by cases hq⟩)
 have hno:n≠o':=λe=>by subst e;rw[hg]at hgn;cases hgn
 have hgn':B3 (hset st.heap o' (.tree e t xs 1)) n=some (.bor o' i f e' t' ys.length):=by rw[A9,G41 hno];exact hgn
 have r4:=r1.killT hgn' rfl
 have r5:=r2.killT n
 refine⟨_,_,_,hK,λQ next hnx=> ?_⟩
 unfold Oper.wp
 rw[hex]
 exact hnx _ _ E (RelX.put ⟨_,_,hD.trans r3,⟨_,r5⟩,r4⟩ op.dst (show VRel _ _ _ .un undef from trivial))
end
end Go.Vm
end
section
namespace Go.Vm
open Go
section
variable {P : Program} {cfg : Cfg} {E : Env} {st : St} {saved : List (Nat × List VV)} {a : Act} {S : List (Array Value)} {w w0 : World} {K : Keep}
 {R:Type} {Kk:List Upd→VV→List Loc→Option R} {l:List Loc} {r:R} {o:Oper}
theorem Dm0 (h:RelE E st saved a S w w0 K) {T:TypeId} {n0 n1:Nat} (ho:o.op= .alloc T) {zv:Value} (hp:∃i,P.info? T=some i∧i.size=1∧i.zero=some zv) (hzv:zv= .pointer none∨zv= .map none)
  (hrun:(O7 n1 (O7 n0 (U2 [.o n1 .dead, .o n0 (.box [.eptr n1 0 0])] (one (.ptr n0 0))))).run st Kk l=some r):Goes P o a w st saved S w0 K Kk r:=by
 obtain⟨hn1,l1,h1⟩:=L9 hrun
 obtain⟨hn0,l2,h2⟩:=L9 h1
 obtain⟨hd,hK⟩:=S6 h2
 simp only[G95,List.map_nil,Upd.name]at hd
 have hne:n1≠n0:=by
  obtain⟨g1,_⟩:=N2 hd
  simpa using g1
 obtain⟨i,hi,hs,hz⟩:=hp
 have r1:=h.named hn1 (0,0) False .dead (λf=>f.elim) trivial
 have hst:=Af9 (st:=st) (E:=E) (w:=w) hn1 (0,0) False .dead
 have hn0':B3 (hset st.heap n1 .dead) n0=none:=by rw[A9,G41 (Ne.symm hne)];exact hn0
 have hcs:All2 (CellRel (E.at n1 (0,0) False) (hset st.heap n1 .dead) w) [.eptr n1 0 0] [zv]:=by
  refine .cons ?_ .nil
  have:hsh (hset st.heap n1 .dead) n1=some .dead:=by rw[F5,G45 rfl];rfl
  simp only[CellRel,this]
  rcases hzv with rfl|rfl<;>rfl
 obtain⟨hr,hc⟩:=Ex2 r1 (nm:=n0) hn0' hcs T
 refine⟨_,_,l2,hK,λQ next hnx=>OpRes.wp ⟨.pointer (some ⟨w.heap.size,0,none⟩),_,_, .inl ?_,hr,VRel.one hc⟩ Q next hnx⟩
 rcases hzv with rfl|rfl<;>simp[execOp,ho,Instr.alloc,zeroValue,typeInfo,hi,hz,newVar,newRow,Value.cells]
theorem Gs8 (G:Good P cfg) (h:RelE E st saved a S w w0 K) {nm:Nat→Nat} (hrun:(opO cfg nm o).run st Kk l=some r):Goes P o a w st saved S w0 K Kk r:=by
 unfold opO at hrun
 split at hrun
 ·exact Gd6 h (.inl ‹_›) hrun
 ·exact Gd6 h (.inr ‹_›) hrun
 ·exact Gn9 h ‹_› hrun
 ·rename_i T ho
  cases hT:look cfg.tab T with
  |some t=>
   rw[hT]at hrun
   exact Gk4 G h ho hT hrun
  |none=>
   rw[hT]at hrun
   simp only at hrun
   cases hp:cfg.ptrs.any (Nat.beq T)with
   |false=>
    rw[hp]at hrun
    simp only[G72]at hrun
    split at hrun
    ·rename_i t hm
     exact Dm0 h ho (G.map T t hm).info (.inr rfl) hrun
    ·cases hrun
   |true=>
    rw[hp]at hrun
    exact Dm0 h ho (G.ptr T hp).info (.inl rfl) hrun
 ·exact Gs4 h ‹_› hrun
 ·exact Gk6 G h ‹_› hrun
 ·exact Ex6 G h ‹_› hrun
 ·exact Go1 G h ‹_› hrun
 ·exact Gk5 G h ‹_› hrun
 ·exact Fp1 h ‹_› hrun
 ·exact Gj9 G h ‹_› hrun
 ·exact Go0 h ‹_› hrun
 ·exact F42 G h ‹_› hrun
 ·exact Fp3 h ‹_› hrun
 ·exact Fa8 G h ‹_› hrun
 ·exact Gk2 G h ‹_› hrun
 ·exact Ge5 G h ‹_› hrun
 ·exact F43 G h ‹_› hrun
 ·exact Ge3 G h ‹_› hrun
 ·exact Fb2 G h ‹_› hrun
 ·exact Fa2 G h ‹_› hrun
 ·exact Fa3 G h ‹_› hrun
 ·exact Gk0 G h ‹_› hrun
 ·exact F38 h ‹_› hrun
 ·rename_i b args argTypes ho
  split at hrun
  ·rename_i x T hargs hT
   have e1:args= #[x]:=by apply G65.1;rw[hargs]
   have e2:argTypes= #[T]:=by apply G65.1;rw[hT]
   subst e1;subst e2
   exact Gs3 G h ho hrun
  ·rename_i b _ _ _ _
   cases b with
   |append=>exact Ge1 G h (c:={callee:= .builtin .append,args,argTypes}) ho rfl hrun
   |min=>exact Gs5 (cfg:=cfg) h (c:={callee:= .builtin .min,args,argTypes}) ho rfl hrun
   |clear=>exact Gk7 G h (c:={callee:= .builtin .clear,args,argTypes}) ho rfl hrun
   |max=>exact Gs6 (cfg:=cfg) h (c:={callee:= .builtin .max,args,argTypes}) ho rfl hrun
   |_=>
    obtain⟨vs,l1,h1,-⟩:=T1 _ _ _ hrun
    unfold k8 at h1
    split at h1<;>first|contradiction|cases h1
 ·cases hrun
theorem Gs9 (hG:Ok P cfg) (hX:RelX E st saved a S w w0 K) {nm:Nat→Nat} (hrun:(opN cfg nm o).run st Kk l=some r):GoesX P o a w st saved S w0 K Kk r:=by
 have G:=hG.toGood
 have plain:∀{l},(Vm.safe (opO cfg nm o)).run st Kk l=some r→GoesX P o a w st saved S w0 K Kk r:=λhrun=>
  GoesX.safe hX hrun λh u v l0 h0=>Gs8 G h h0
 have hX':=hX
 obtain⟨wb,K1,hD,hT0,h⟩:=hX'
 unfold opN at hrun
 split at hrun
 ·rename_i T p ho
  unfold F00 at hrun
  obtain⟨t,hok,h0⟩:=D16 G hrun
  obtain⟨c,l',h1,h2⟩:=O9 p _ h0
  have hc:=h2 h
  split at h1
  ·simp only[RP.run]at h1
   split at h1
   ·exact Gk8 hX hok ho hc ‹_› h1
   ·exact plain h1
  ·exact plain h1
 ·rename_i T p x ho
  unfold E91 at hrun
  obtain⟨t,hok,h0⟩:=D16 G hrun
  obtain⟨c,l',h1,h2⟩:=O9 p _ h0
  have hc:=h2 h
  split at h1
  ·rename_i q i f
   simp only[RP.run]at h1
   split at h1
   ·rename_i e t' xs fl hg
    obtain⟨v,l2,h3,h4⟩:=At2 x _ h1
    have hv:=h4 h
    unfold Gc5 at h3
    cases hb:Nat.beq v.cs.length t.sz with
    |false=>rw[hb]at h3;cases h3
    |true=>
     rw[hb]at h3
     simp only[G52]at h3
     have hlen:=G35 hb
     cases hfl:t.flat with
     |true=>
      rw[hfl]at h3
      simp only[G52]at h3
      cases hf:Nat.ble (f+t.sz) t'.sz with
      |false=>rw[hf]at h3;cases h3
      |true=>
       rw[hf]at h3
       exact Ek8 hX hok ho hc hv hg hlen (G73 hf) h3
     |false=>
      rw[hfl]at h3
      simp only[G72]at h3
      cases hw:(Nat.beq fl 1&&Nat.beq f 0&&decide (t=t'))with
      |false=>rw[hw]at h3;cases h3
      |true=>
       rw[hw]at h3
       simp only[G37]at hw
       obtain⟨⟨hw1,hf0⟩,ht⟩:=hw
       have hw1:=G35 hw1
       subst hw1
       have hf0:=G35 hf0
       have ht:=G62 ht
       subst hf0;subst ht
       exact D47 hX hok ho hc hv hg hlen h3
   ·rename_i e t' xs i2 f2 m hg
    obtain⟨v,l2,h3,h4⟩:=At2 x _ h1
    exact Gf6 hX hok ho hc (h4 h) hg h3
   ·exact plain h1
  ·exact plain h1
 ·rename_i T n m ho
  unfold F01 at hrun
  obtain⟨e,t,hT,h0⟩:=S1 hrun
  cases hb:(cfg.trees.any (Nat.beq e)&&t.one)with
  |true=>
   rw[hb]at h0
   simp only[G37]at hb
   exact Gk9 G hX ho hT hb.2 h0
  |false=>
   rw[hb]at h0
   exact plain h0
 ·rename_i T n ps ho
  unfold E92 at hrun
  obtain⟨e,t,hT,h0⟩:=S1 hrun
  cases hb:(cfg.trees.any (Nat.beq e)&&t.one&&Nat.ble 1 t.sz&&Nat.ble t.sz 16777216)with
  |true=>
   rw[hb]at h0
   simp only[G37]at hb
   simp only[G52]at h0
   split at h0
   ·rename_i hps
    have:ps= #[]:=G65.1 hps
    subst this
    exact F48 G hX ho hT h0
   ·rename_i x hps
    have:ps= #[(0,x)]:=G65.1 hps
    subst this
    exact Gf5 G hX ho hT (G73 hb.1.2) (G73 hb.2) h0
   ·exact plain h0
  |false=>
   rw[hb]at h0
   exact plain h0
 ·rename_i args argTypes ho
  unfold Eq1 at hrun
  split at hrun
  ·rename_i x y T T' hargs hTs
   obtain⟨e,t,hT,h0⟩:=S1 hrun
   cases hb:(cfg.trees.any (Nat.beq e)&&t.one)with
   |true=>
    rw[hb]at h0
    simp only[G52]at h0
    obtain⟨e',t',hT',h1⟩:=S1 h0
    obtain⟨dc,l1,h2,hdc⟩:=O9 x _ h1
    obtain⟨sc,l2,h3,hsc⟩:=O9 y _ h2
    have hok:=G.tab T _ hT
    have hok':=G.tab T' _ hT'
    refine F49 hX (c:={callee:= .builtin .append,args,argTypes}) ho rfl (v1:=a.eval x) (v2:=a.eval y) ?_ ?_ hok.2.1 hok'.2.1 (λk e=>by cases e) hok.2.2 (hdc h) (hsc h) (λl hk=>plain hk) h3
    ·show args.map a.eval=_
     apply G65.1
     rw[Hb2,hargs];rfl
    ·show argTypes=_
     apply G65.1
     rw[hTs]
   |false=>
    rw[hb]at h0
    simp only[G72]at h0
    split at h0
    ·rename_i e2 t2 hT'
     obtain⟨dc,l1,h2,hdc⟩:=O9 x _ h0
     obtain⟨sc,l2,h3,hsc⟩:=O9 y _ h2
     have hok:=G.tab T _ hT
     have hok':=G.tab T' _ hT'
     refine F50 hX (c:={callee:= .builtin .append,args,argTypes}) ho rfl (v1:=a.eval x) (v2:=a.eval y) ?_ ?_ hok.2.1 hok'.2.1 (λk e=>by cases e) hok.2.2 (hdc h) (hsc h) (λl hk=>plain hk) h3
     ·show args.map a.eval=_
      apply G65.1
      rw[Hb2,hargs];rfl
     ·show argTypes=_
      apply G65.1
      rw[hTs]
    ·exact plain h0
  ·exact plain hrun
 ·rename_i f args argTypes ho
  obtain⟨vs,l1,h1,h2⟩:=T1 _ _ _ hrun
  cases ha:Ep8 cfg.alt f o.dst with
  |some s=>exact Gf0 hX (c:={callee:= .value (.func f),args,argTypes}) (nm:=nm) (l:=l) ho rfl (hG.alt f _ s ha).1 (hG.alt f _ s ha).2 (by simp only[ha]at hrun ⊢;exact hrun)
  |none=>
  simp only[ha]at hrun h1
  cases hs:look cfg.spec f with
  |some s=>exact Gf0 hX (c:={callee:= .value (.func f),args,argTypes}) (nm:=nm) (l:=l) ho rfl (hG.spec f s hs) (hG.enter f (.inl (by rw[hs];rfl))) (by simp only[hs]at hrun ⊢;exact hrun)
  |none=>
   simp only[hs]at hrun h1
   cases hm:look cfg.mspec f with
   |none=>rw[hm]at h1;cases h1
   |some s=>
    simp only[hm]at hrun h1
    have hv:=h2 h
    have viaM:∀{l},(S0 nm s vs [] []).run st Kk l=some r→GoesX P o a w st saved S w0 K Kk r:=λh3=>Gf1 hG hX ho rfl hm hv h3
    unfold Gc9 at h1
    split at h1
    ·exact F04 hG hX (c:={callee:= .value (.func f),args,argTypes}) ho rfl hm hv h1
    ·simp only[RP.run]at h1
     split at h1
     ·exact F04 hG hX (c:={callee:= .value (.func f),args,argTypes}) ho rfl hm hv h1
     ·exact viaM h1
    ·exact viaM h1
 ·exact plain hrun
theorem Go6 (hG:Ok P cfg) (h:RelX E st saved a S w w0 K) {base:Nat} (hrun:(Dg0 cfg base o).run st Kk l=some r):GoesX P o a w st saved S w0 K Kk r:=Gs9 hG h hrun
end
end Go.Vm
end
section
namespace Go.Vm
open Go
theorem Er8:∀(l:List VV) (n:Nat),Cl2 l n (V4 l n)=l
 | [],n=>rfl
 |x::l,0=>rfl
 |x::l,n+1=>by simp only[V4,Cl2,Er8 l n]
theorem Ci2 {s:St} {t:Nat} {b:Bool} (h:V4 s.tmps t= .v ⟨false,[.bool b]⟩):D06 s t b=s:=by
 have:one (.bool b)=V4 s.tmps t:=h.symm
 simp only[D06,this,Er8]
section
variable {P : Program} {cfg : Cfg} {E : Env} {st : St} {saved : List (Nat × List VV)} {a : Act} {S : List (Array Value)} {w w0 : World} {K : Keep}
theorem Er9 {l:List VV} {m:List Value} {r:VV→Value→Prop} (h:All2 r l m) {t:Nat} {x:VV} (hx:V4 l t=x) (hne:x≠ .un):∃v,m[t]? =some v∧r x v:=by
 induction h generalizing t with
 |nil=>exact absurd hx.symm hne
 |cons p _ ih=>cases t with
  |zero=>simp only[V4]at hx;subst hx;exact⟨_,rfl,p⟩
  |succ t=>exact ih hx
theorem D50 (h:RelX E st saved a S w w0 K) {t:Nat} {b:Bool} (hx:V4 st.tmps t= .v ⟨false,[.bool b]⟩):a.tmps[t]? =some (.bool b):=by
 obtain⟨v,hv,hr⟩:=Er9 h.tm hx (λe=>by cases e)
 have:v= .bool b:=V1Rel.one hr
 subst this
 simpa using hv
theorem Dg8 (h:RelX E st saved a S w w0 K) {t:Nat} (hx:V4 st.tmps t= .tup []):a.tmps[t]? =some (.tuple #[]):=by
 obtain⟨v,hv,hr⟩:=Er9 h.tm hx (λe=>by cases e)
 obtain⟨Vs,h1,rfl⟩:=hr
 cases h1
 simpa using hv
theorem D51 (A:Array Oper) (j:Nat):F02 A.toList j=(A[j]?).bind (·.dst):=by
 unfold F02
 rw[Hc2]
 cases A[j]? <;>rfl
def Go7 {R:Type} (P:Program) (cfg:Cfg) (call:FuncId→List V1→(VV→Ms→Option R)→Ms→Option R):Prop:=
 ∀{f vs k m r},call f vs k m=some r→(look cfg.inl f).isSome=true∧∀{E:Env} {a:Act} {S:List (Array Value)} {w w0:World} {Kp:Keep} {args:List Value},RelX E m.st m.saved a S w w0 Kp→All2 (V1Rel E m.st.heap w) vs args→
  ∀(Q:Ending→World→Prop),(∀v V m' w' E',k v m'=some r→RelX E' m'.st m'.saved a S w' w0 Kp→VRel E' m'.st.heap w' v V→Q (.returned V) w')→Calls P f args.toArray w Q
variable {R : Type} {r : R} {call : FuncId → List V1 → (VV → Ms → Option R) → Ms → Option R} {Kc : Ms → Option R} {Q : Exit → Act → World → Prop}
theorem F06 {h:D3} {caps:List Nat} {vs:List Value} (k:All2 (PtrRel E h) caps vs):All2 (V1Rel E h w) (caps.map λc=> (⟨false,[.ptr c 0]⟩:V1)) vs:=by
 induction k with
 |nil=>exact .nil
 |cons p _ ih=>
  obtain⟨n,hs,rfl⟩:=p
  exact .cons (V1Rel.mkOne ⟨n,hs,by rw[G69]⟩) ih
theorem Gt0 (hG:Ok P cfg) (hcall:Go7 P cfg call) (A:Array Oper):∀(rest:List Oper) (i:Nat) (tr:List Tr) (m:Ms) {E:Env} {a:Act} {w:World},A.toList.drop i=rest→
  I1 cfg false A.toList call Kc rest i tr m=some r→RelX E m.st m.saved a S w w0 K→
  (∀m' a' w' E',Kc m'=some r→RelX E' m'.st m'.saved a' S w' w0 K→Q .normal a' w')→wpOps P A Q (List.range' i rest.length) a w:=by
 intro rest
 induction rest with
 |nil=>
  intro i tr m E a w hA hrun hr hQ
  simp only[I1,G72]at hrun
  exact hQ _ _ _ _ hrun hr
 |cons o rest ih=>
  intro i tr m E a w hA hrun hr hQ
  have hi:A[i]? =some o:=by
   rw[←Hc2]
   have:=congrArg (·[0]?) hA
   simpa using this
  have hA':A.toList.drop (i+1)=rest:=by
   have:=congrArg List.tail hA
   simpa using this
  have go:∀{m':Ms} {a':Act} {w':World} {E':Env} {tr'},I1 cfg false A.toList call Kc rest (i+1) tr' m'=some r→RelX E' m'.st m'.saved a' S w' w0 K→wpOps P A Q (List.range' (i+1) rest.length) a' w':=
   λh1 h2=>ih (i+1) _ _ hA' h1 h2 hQ
  have skip:Region.wanted o (yielded A a.tmps)=false→I1 cfg false A.toList call Kc rest (i+1) tr {m with st:=s8 m.st o.dst (.tup [])}=some r→
    wpOps P A Q (List.range' i (o::rest).length) a w:=by
   intro hw h1
   simp only[G82,List.range'_succ,wpOps,hi,hw,Bool.false_eq_true,if_false]
   exact go h1 (hr.put o.dst (show VRel E m.st.heap w (.tup []) undef from⟨[], .nil,rfl⟩))
  have plain:∀{l},Region.wanted o (yielded A a.tmps)=true→(Dg0 cfg m.base o).run m.st (λu v l'=>I1 cfg false A.toList call Kc rest (i+1)
    tr {m with st:=s8 (m.st.upds u) o.dst v}) l=some r→wpOps P A Q (List.range' i (o::rest).length) a w:=by
   intro l hw h1
   simp only[G82,List.range'_succ,wpOps,hi,hw,if_true]
   obtain⟨u,v,l',h2,hs⟩:=Go6 hG hr h1
   exact .inl (hs Q _ λa' w' E' h3=>go h2 h3)
  have inl:∀{c:Call} {g:Operand} {f:FuncId} {cap:Array Value} {caps:List Nat} {l},Region.wanted o (yielded A a.tmps)=true→o.op= .call c→c.callee= .value g→a.eval g= .func (.func f) #[] cap→
    All2 (PtrRel E m.st.heap) caps cap.toList→(W7 c.args.toList λvs=> .done [] (.tup vs)).run m.st (λ_ vs _=>match vs with
      | .tup vs=>call f (vs++caps.map λc=> ⟨false,[.ptr c 0]⟩) (λv m=>I1 cfg false A.toList call Kc rest (i+1) tr {m with st:=s8 m.st o.dst v}) m
      |_=>none) l=some r→wpOps P A Q (List.range' i (o::rest).length) a w:=by
   intro c g f cap caps l hw ho hc hg hcap h1
   simp only[G82,List.range'_succ,wpOps,hi,hw,if_true]
   obtain⟨vs,l1,h2,h3⟩:=T1 _ _ _ h1
   simp only[RP.run]at h2
   obtain⟨hin,hcl⟩:=hcall h2
   have hex:=Bj4 (P:=P) (w:=w) (ρ:=a.eval) ho hc hg (hG.enter f (.inr hin))
   refine .inl ?_
   unfold Oper.wp
   rw[hex,Oper.upon_enter]
   have hargs:All2 (V1Rel E m.st.heap w) (vs++caps.map λc=> (⟨false,[.ptr c 0]⟩:V1)) (c.args.toList.map a.eval++cap.toList):=(h3 hr.choose_spec.choose_spec.2.2).append (F06 hcap)
   have:=hcl hr hargs (fun
    | .returned v,w''=>wpOps P A Q (List.range' (i+1) rest.length) (a.put o.dst v) w''
    | .panicked chain,w''=>Q (.panic chain) a w''
    | .outgrown,_=>LetsOut Q) (λv V m' w' E' hk hr' hv=>go hk (hr'.put o.dst hv))
   have harr:(c.args.toList.map a.eval++cap.toList).toArray=c.args.map a.eval++cap:=by apply G65.1;simp
   rwa [harr]at this
  have act:∀{l},Region.wanted o (yielded A a.tmps)=true→(match o.op with
   | .call {callee:= .value (.func f),args, ..}=> (match look cfg.inl f with
    |none=> (Dg0 cfg m.base o).run m.st (λu v l'=>I1 cfg false A.toList call Kc rest (i+1)
      tr {m with st:=s8 (m.st.upds u) o.dst v}) l
    |some _=>
     (W7 args.toList λvs=> .done [] (.tup vs)).run m.st (λ_ vs _=>match vs with
      | .tup vs=>call f vs (λv m=>I1 cfg false A.toList call Kc rest (i+1) tr {m with st:=s8 m.st o.dst v}) m
      |_=>none) l)
   | .call {callee:= .value (.tmp t),args, ..}=> (match V4 m.st.tmps t with
    | .v ⟨false,[.fn f caps]⟩=>
     (W7 args.toList λvs=> .done [] (.tup vs)).run m.st (λ_ vs _=>match vs with
      | .tup vs=>call f (vs++caps.map λc=> ⟨false,[.ptr c 0]⟩) (λv m=>I1 cfg false A.toList call Kc rest (i+1) tr {m with st:=s8 m.st o.dst v}) m
      |_=>none) l
    |_=>none)
   |_=> (Dg0 cfg m.base o).run m.st (λu v l'=>I1 cfg false A.toList call Kc rest (i+1)
      tr {m with st:=s8 (m.st.upds u) o.dst v}) l)=some r→wpOps P A Q (List.range' i (o::rest).length) a w:=by
   intro l hw h1
   split at h1
   ·rename_i f args at_ ho
    split at h1
    ·exact plain hw h1
    ·refine inl (c:={callee:= .value (.func f),args,argTypes:=at_}) (g:= .func f) (cap:= #[]) (caps:=[]) hw ho rfl rfl .nil (l:=l) ?_
     simpa using h1
   ·rename_i t args at_ ho
    split at h1
    ·rename_i f caps ht
     have hv:=hr.tmp t
     rw[ht]at hv
     obtain⟨cap,e,hcap⟩:=V1Rel.one hv
     exact inl (c:={callee:= .value (.tmp t),args,argTypes:=at_}) (g:= .tmp t) hw ho rfl e hcap (l:=l) h1
    ·cases h1
   ·exact plain hw h1
  unfold I1 at hrun
  simp only[Ap5]at hrun
  simp only[G72]at hrun
  cases hgd:o.guard with
  |none=>
   rw[hgd]at hrun
   exact act (by simp[Region.wanted,hgd]) hrun
  |some gw=>
   obtain⟨j,want⟩:=gw
   rw[hgd]at hrun
   simp only[D51]at hrun
   cases hd:(A[j]?).bind (·.dst)with
   |none=>rw[hd]at hrun;cases hrun
   |some t=>
    rw[hd]at hrun
    simp only at hrun
    split at hrun
    ·rename_i b ht
     have hb:=D50 hr ht
     have hwant:Region.wanted o (yielded A a.tmps)=(b==want):=by
      simp[Region.wanted,hgd,yielded,hd,hb]
     cases b<;>cases want<;>simp only[G52,G72,Ci2 ht]at hrun
     ·exact act (by rw[hwant];rfl) hrun
     ·exact skip (by rw[hwant];rfl) hrun
     ·exact skip (by rw[hwant];rfl) hrun
     ·exact act (by rw[hwant];rfl) hrun
    ·rename_i ht
     have hb:=Dg8 hr ht
     exact skip (by simp[Region.wanted,hgd,yielded,hd,hb]) hrun
    ·cases hrun
end
end Go.Vm
end
section
namespace Go.Vm
open Go
def Es0 (s s2:St) (l:List Loc):Prop:=(∀t,Loc.t t∈l→V4 s2.tmps t=V4 s.tmps t)∧(∀n,Loc.o n∈l→B3 s2.heap n=B3 s.heap n)
theorem RP.run_inv {s:St} {R:Type} {K:List Upd→VV→List Loc→Option R} {r:R}:∀(p:RP) (l:List Loc),p.run s K l=some r→
  ∃u v l',K u v l'=some r∧(∀x∈l,x∈l')∧∀s2,Es0 s s2 l'→∀{R2:Type} (K2:List Upd→VV→List Loc→Option R2),p.run s2 K2 l=K2 u v l':=by
 intro p
 induction p with
 |fail=>intro l h;cases h
 |done e v=>intro l h;exact⟨e,v,l,h,λ_ h=>h,λs2 _ R2 K2=>rfl⟩
 |rdT t k ih=>
  intro l h
  obtain⟨u,v,l',h1,h2,h3⟩:=ih _ _ h
  refine⟨u,v,l',h1,λx hx=>h2 x (G38 _ hx),λs2 ha R2 K2=> ?_⟩
  simp only[RP.run]
  rw[ha.1 t (h2 _ G39)]
  exact h3 s2 ha K2
 |rdO n k ih=>
  intro l h
  obtain⟨u,v,l',h1,h2,h3⟩:=ih _ _ h
  refine⟨u,v,l',h1,λx hx=>h2 x (G38 _ hx),λs2 ha R2 K2=> ?_⟩
  simp only[RP.run]
  rw[ha.2 n (h2 _ G39)]
  exact h3 s2 ha K2
 |ite b x y ihx ihy=>
  intro l h
  cases b with
  |true=>exact ihx l h
  |false=>exact ihy l h
 |opt o k ih=>
  intro l h
  cases o with
  |none=>cases h
  |some a=>exact ih a l h
section
variable {α : Type} (f : Nat → Option α) (x0 : α)
def Ae5 (L:Nat→Bool):Nat→α
 |0=>x0
 |k+1=>if L k=true then(f k).getD (Ae5 L k)else Ae5 L k
variable {f x0}
theorem Fc0 {L L':Nat→Bool}:∀n,(∀k,k<n→L k=L' k)→Ae5 f x0 L n=Ae5 f x0 L' n
 |0,_=>rfl
 |n+1,h=>by
  simp only[Ae5,Fc0 n (λk hk=>h k (Nat.lt_succ_of_lt hk)),h n (Hc7 n)]
theorem Es1 {L : Nat → Bool} {i : Nat} (h1 : ∀ k, k < i → (f k).isSome = true → L k = true) :
    ∀ n, i ≤ n → (∀ k, i ≤ k → k < n → L k = true → f k = none) → Ae5 f x0 L n = Ae5 f x0 (fun _ => true) i := by
  have h0 : ∀ n, n ≤ i → Ae5 f x0 L n = Ae5 f x0 (fun _ => true) n := by
    intro n
    induction n with
    | zero => intro _; rfl
    | succ n ih =>
      intro hn
      simp only [Ae5, ih (by omega), if_true]
      by_cases hL : L n = true
      · rw [if_pos hL]
      · rw [if_neg hL]
        cases hf : f n with
        | none => rfl
        | some a => exact absurd (h1 n (by omega) (by rw [hf]; rfl)) hL
  intro n
  induction n with
  | zero => intro hn _; have : i = 0 := by omega
            subst this; rfl
  | succ n ih =>
    intro hn h2
    by_cases e : i = n + 1
    · subst e; exact h0 _ (Nat.le_refl _)
    · simp only [Ae5]
      rw [ih (by omega) (fun k hk hk' => h2 k hk (by omega))]
      by_cases hL : L n = true
      · rw [if_pos hL, h2 n (by omega) (by omega) hL]; rfl
      · rw [if_neg hL]
theorem Fc1 {L:Nat→Bool} {i:Nat} (hi:L i=false):
  ∀n,i<n→(∀k,i<k→k<n→L k=true→(f k).isSome=true→f i=none)→Ae5 f x0 (λk=>L k||k==i) n=(f i).getD (Ae5 f x0 L n):=by
 intro n
 induction n with
 |zero=>intro h;omega
 |succ n ih=>
  intro hn h2
  by_cases e:i=n
  ·subst e
   have:Ae5 f x0 (λk=>L k||k==i) i=Ae5 f x0 L i:=Fc0 i (λk hk=>by
    have:(k==i)=false:=by simp;omega
    simp[this])
   simp only[Ae5,this,hi]
   simp
  ·have ih':=ih (by omega) (λk hk hk'=>h2 k hk (by omega))
   have hne:(n==i)=false:=by simp;omega
   simp only[Ae5,hne,Bool.or_false,ih']
   by_cases hL:L n=true
   ·rw[G45 hL,G45 hL]
    cases hf:f n with
    |none=>rfl
    |some a=>
     rw[h2 n (by omega) (by omega) hL (by rw[hf];rfl)]
     rfl
   ·rw[G41 hL,G41 hL]
end
structure Eff where
 l : List Loc
 d : Option Tmp
 u : List Upd
 v : VV
def Eff.app (e:Eff) (s:St):St:=s8 (s.upds e.u) e.d e.v
def C13:List Upd→Nat→Option Obj
 | [],_=>none
 | .o m o::u,n=>match C13 u n with
  |some x=>some x
  |none=>if n=m then some o else none
theorem D52:∀(u:List Upd) (s:St) (n:Nat),B3 (s.upds u).heap n=match C13 u n with|some o=>some o|none=>B3 s.heap n
 | [],s,n=>rfl
 | .o m o::u,s,n=>by
  show B3 ((s.upd (.o m o)).upds u).heap n=_
  rw[D52 u _ n]
  simp only[C13]
  cases C13 u n with
  |some x=>rfl
  |none=>
   show B3 (hset s.heap m o) n=_
   rw[A9]
   split<;>rfl
theorem D53:∀(u:List Upd) (n:Nat),(C13 u n).isSome=true→Loc.o n∈u.map Upd.loc
 | [],n,h=>by cases h
 | .o m o::u,n,h=>by
  simp only[C13]at h
  cases hl:C13 u n with
  |some x=>exact G38 _ (D53 u n (by rw[hl];rfl))
  |none=>
   rw[hl]at h
   by_cases e:n=m
   ·subst e;exact G39
   ·rw[G41 e]at h;cases h
theorem Es2:∀(l:List VV) (n:Nat) (v:VV) (t:Nat),V4 (Cl2 l n v) t=if t=n∧n<l.length then v else V4 l t
 | [],n,v,t=>by simp[Cl2]
 |x::l,0,v,t=>by cases t<;>simp[Cl2,V4]
 |x::l,n+1,v,t=>by
  cases t with
  |zero=>simp[Cl2,V4]
  |succ t=>simp only[Cl2,V4,Es2 l n v t];simp
def Eff.fT (e:Eff) (len t:Nat):Option VV:=match e.d with
 |some d=>if t=d∧d<len then some e.v else none
 |none=>none
def Eff.fO (e:Eff) (n:Nat):Option (Option Obj):=(C13 e.u n).map some
theorem Eff.len (e:Eff) (s:St):(e.app s).tmps.length=s.tmps.length:=by
 unfold Eff.app s8
 split
 ·rw[Cz9];simp[A24]
 ·simp[A24]
theorem Eff.tget_app (e:Eff) (s:St) (t:Nat):V4 (e.app s).tmps t=(e.fT s.tmps.length t).getD (V4 s.tmps t):=by
 unfold Eff.app s8 Eff.fT
 cases e.d with
 |none=>simp[A24]
 |some d=>
  simp only[A24,Es2]
  split<;>rfl
theorem Eff.hget_app (e:Eff) (s:St) (n:Nat):B3 (e.app s).heap n=(e.fO n).getD (B3 s.heap n):=by
 have:(e.app s).heap=(s.upds e.u).heap:=by unfold Eff.app s8;split<;>rfl
 rw[this,D52]
 unfold Eff.fO
 cases C13 e.u n<;>rfl
def Eff.wrs (e:Eff):List Loc:=(match e.d with|some d=> [.t d]|none=> [])++e.u.map Upd.loc
theorem Eff.fT_wrs {e:Eff} {len t:Nat} (h:(e.fT len t).isSome=true):Loc.t t∈e.wrs:=by
 unfold Eff.fT at h
 unfold Eff.wrs
 cases hd:e.d with
 |none=>rw[hd]at h;cases h
 |some d=>
  rw[hd]at h
  simp only at h
  split at h
  ·rename_i hc
   rw[hc.1]
   simp
  ·cases h
theorem Eff.fO_wrs {e:Eff} {n:Nat} (h:(e.fO n).isSome=true):Loc.o n∈e.wrs:=by
 unfold Eff.fO at h
 exact G34.2 (.inr (D53 e.u n (by simpa using h)))
def A44 (e:Nat→Eff) (s0:St) (L:Nat→Bool):Nat→St
 |0=>s0
 |k+1=>if L k=true then(e k).app (A44 e s0 L k)else A44 e s0 L k
section
variable {e : Nat → Eff} {s0 : St}
theorem Bj5 (L:Nat→Bool):∀n,(A44 e s0 L n).tmps.length=s0.tmps.length
 |0=>rfl
 |n+1=>by
  simp only[A44]
  split
  ·rw[Eff.len,Bj5 L n]
  ·exact Bj5 L n
theorem A25 (L:Nat→Bool) (t:Nat):∀n,V4 (A44 e s0 L n).tmps t=Ae5 (λk=> (e k).fT s0.tmps.length t) (V4 s0.tmps t) L n
 |0=>rfl
 |n+1=>by
  simp only[A44,Ae5]
  by_cases hL:L n=true
  ·rw[G45 hL,G45 hL,Eff.tget_app,Bj5,A25 L t n]
  ·rw[G41 hL,G41 hL,A25 L t n]
theorem A26 (L:Nat→Bool) (m:Nat):∀n,B3 (A44 e s0 L n).heap m=Ae5 (λk=> (e k).fO m) (B3 s0.heap m) L n
 |0=>rfl
 |n+1=>by
  simp only[A44,Ae5]
  by_cases hL:L n=true
  ·rw[G45 hL,G45 hL,Eff.hget_app,A26 L m n]
  ·rw[G41 hL,G41 hL,A26 L m n]
end
theorem Fc2:∀{l m:List VV},l.length=m.length→(∀t,V4 l t=V4 m t)→l=m
 | [],[],_,_=>rfl
 | [],_::_,h,_=>by simp at h
 |_::_,[],h,_=>by simp at h
 |x::l,y::m,h,k=>by
  have h1:=k 0
  simp only[V4]at h1
  rw[h1,Fc2 (by simpa using h) (λt=>k (t+1))]
section
variable {E : Env} {st st' : St} {saved : List (Nat × List VV)} {a : Act} {S : List (Array Value)} {w w0 : World} {K : Keep}
theorem Gl0 {h h':D3} (k:∀n,B3 h' n=B3 h n) (n:Nat):hsh h' n=hsh h n:=by simp[hsh,k n]
theorem Step.ext {h h':D3} (k:∀n,B3 h' n=B3 h n):Step E E h h' w w:=
 ⟨λ_ _=>rfl,λ_ _=>Iff.rfl,λ_ h=>h,λ_ _=>rfl,λ_ _ h=>h,λn s hs=> .inl (by rw[Gl0 k];exact hs)⟩
theorem RelE.ext (h:RelE E st saved a S w w0 K) (ht:st'.tmps=st.tmps) (k:∀n,B3 st'.heap n=B3 st.heap n):RelE E st' saved a S w w0 K:=by
 have hs:Step E E st.heap st'.heap w w:=Step.ext k
 have hl:∀n,C6 st'.heap n→C6 st.heap n:=λn hn=>by unfold C6 at hn ⊢;rwa [k n]at hn
 refine⟨by rw[ht];exact G6 hs h.tm,h.df,h.sv.mono λ_ _ q=>G6 hs q,λn o hn=> ?_,λn n' hne h1 h2=>h.dj n n' hne (hl n h1) (hl n' h2),λn hn=>h.dk n (hl n hn),λn hn=>h.bd n (by rw[←k n];exact hn),h.bo,h.kp,h.os,h.tape,h.out,h.size,h.oz,h.rm,h.trees hs λn o hn _=>by rw[←k n];exact hn⟩
 rw[k n]at hn
 exact(h.ob n o hn).step hs (by rw[hn];rfl) (λh=>h) (λ_=>rfl)
theorem TF.ext {h h':D3} (ht:TF h w K) (k:∀n,B3 h' n=B3 h n):TF h' w K:=by
 obtain⟨β,hb⟩:=ht
 exact⟨β,hb.less (λn o hn _=>by rw[←k n];exact hn) λn hn=>by rw[k n];exact hn⟩
theorem RelX.ext (h:RelX E st saved a S w w0 K) (ht:st'.tmps=st.tmps) (k:∀n,B3 st'.heap n=B3 st.heap n):RelX E st' saved a S w w0 K:=by
 obtain⟨w1,K1,h1,h2,h3⟩:=h
 exact⟨w1,K1,h1,h2.ext k,h3.ext ht k⟩
theorem RelX.still {w':World} (h:RelX E st saved a S w w0 K) (hh:w'.heap=w.heap) (ho:w'.os=w.os) (ht:w'.tape=w.tape) (hu:w'.output=w.output):RelX E st saved a S w' w0 K:=by
 obtain⟨w1,K1,h1,h2,h3⟩:=h
 exact⟨w1,K1,h1,h2,h3.still hh ho ht hu⟩
end
end Go.Vm
end
section
namespace Go.Vm
open Go
theorem Loc.eqb_iff {x y:Loc}:Loc.eqb x y=true↔x=y:=by
 cases x<;>cases y<;>simp only[Loc.eqb]<;>constructor<;>intro h
 ·rw[G35 h]
 ·cases h;exact G98 _
 ·cases h
 ·cases h
 ·cases h
 ·cases h
 ·rw[G35 h]
 ·cases h;exact G98 _
theorem D54 {a b:List Loc} {x:Loc} (h1:x∈a) (h2:x∈b):D39 a b=true:=
 Hb1.2 ⟨x,h1,Hb1.2 ⟨x,h2,Loc.eqb_iff.2 rfl⟩⟩
def Ey0 (ops:List Oper) (x y:Tr):Prop:=(D39 x.wrs y.rds=false∧D39 x.wrs y.wrs=false∧D39 x.rds y.wrs=false)∨A92 ops ops.length y.i x.i=true
theorem Ek9 {ops:List Oper} {x:Tr} {r:List Tr} (h:j0 ops (x::r)=true):(∀y∈r,Ey0 ops x y)∧j0 ops r=true:=by
 simp only[j0,G37]at h
 refine⟨λy hy=> ?_,h.2⟩
 have:=G90.1 h.1 y hy
 simp only[Bool.or_eq_true,G37,Ha3]at this
 exact this.imp (λh=> ⟨h.1.1,h.1.2,h.2⟩) id
def trs:Nat→List Eff→List Tr→List Tr
 |_,[],tr=>tr
 |i,e::es,tr=>trs (i+1) es (⟨i,e.l,e.wrs⟩::tr)
def B59:Eff:=⟨[],none,[], .un⟩
theorem Es3 {ops:List Oper}:∀(es:List Eff) (i:Nat) (tr:List Tr),j0 ops (trs i es tr)=true→
  j0 ops tr=true∧(∀k,k<es.length→∀y∈tr,Ey0 ops ⟨i+k,(es.getD k B59).l,(es.getD k B59).wrs⟩ y)∧
  ∀j k,j<k→k<es.length→Ey0 ops ⟨i+k,(es.getD k B59).l,(es.getD k B59).wrs⟩ ⟨i+j,(es.getD j B59).l,(es.getD j B59).wrs⟩
 | [],i,tr,h=> ⟨h,λk hk=>by simp at hk,λj k _ hk=>by simp at hk⟩
 |e::es,i,tr,h=>by
  obtain⟨h1,h2,h3⟩:=Es3 es (i+1) _ h
  obtain⟨h4,h5⟩:=Ek9 h1
  refine⟨h5,λk hk y hy=> ?_,λj k hjk hk=> ?_⟩
  ·cases k with
   |zero=>exact h4 y hy
   |succ k=>
    have:=h2 k (by simpa using hk) y (G38 _ hy)
    rwa [show i+1+k=i+(k+1)by omega]at this
  ·cases k with
   |zero=>omega
   |succ k=>cases j with
    |zero=>
     have:=h2 k (by simpa using hk) _ G39
     rwa [show i+1+k=i+(k+1)by omega]at this
    |succ j=>
     have:=h3 j k (by omega) (by simpa using hk)
     rwa [show i+1+k=i+(k+1)by omega,show i+1+j=i+(j+1)by omega]at this
def F51 (cfg:Cfg) (base:Nat) (o:Oper) (s2:St) (e:Eff):Prop:=
 ∃l0,∀{R2:Type} (K2:List Upd→VV→List Loc→Option R2),(Dg0 cfg base o).run s2 K2 l0=K2 e.u e.v e.l
def F52 (cfg:Cfg) (base:Nat) (A:Array Oper) (o:Oper) (s:St) (e:Eff):Prop:=
 ∀s2,Es0 s s2 e.l→match o.guard with
  |none=>F51 cfg base o s2 e
  |some (j,want)=> ∃t,(A[j]?).bind (·.dst)=some t∧((∃b,V4 s2.tmps t= .v ⟨false,[.bool b]⟩∧((b=want∧F51 cfg base o s2 e)∨(b≠want∧e.u=[]∧e.v= .tup [])))∨(V4 s2.tmps t= .tup []∧e.u=[]∧e.v= .tup []))
section
variable {cfg : Cfg} {R : Type} {r : R} {call : FuncId → List V1 → (VV → Ms → Option R) → Ms → Option R} {Kc : Ms → Option R}
theorem Ey1 (A:Array Oper):∀(rest:List Oper) (i:Nat) (tr:List Tr) (m:Ms),I1 cfg true A.toList call Kc rest i tr m=some r→
  ∃es:List Eff,es.length=rest.length∧Kc {m with st:=es.foldl (λs e=>e.app s) m.st}=some r∧j0 A.toList (trs i es tr)=true∧Be2 0 A.toList=true∧
   ∀k,k<rest.length→∃o,rest[k]? =some o∧(es.getD k B59).d=o.dst∧F52 cfg m.base A o ((es.take k).foldl (λs e=>e.app s) m.st) (es.getD k B59):=by
 intro rest
 induction rest with
 |nil=>
  intro i tr m h
  simp only[I1,G52]at h
  cases hb:j0 A.toList tr&&Be2 0 A.toList with
  |false=>rw[hb]at h;cases h
  |true=>
   rw[hb]at h
   simp only[G37]at hb
   exact⟨[],rfl,h,hb.1,hb.2,λk hk=>by simp at hk⟩
 |cons o rest ih=>
  intro i tr m h
  have more:∀(e:Eff),e.d=o.dst→F52 cfg m.base A o m.st e→I1 cfg true A.toList call Kc rest (i+1) (⟨i,e.l,e.wrs⟩::tr) {m with st:=e.app m.st}=some r→
    ∃es:List Eff,es.length=(o::rest).length∧Kc {m with st:=es.foldl (λs e=>e.app s) m.st}=some r∧j0 A.toList (trs i es tr)=true∧Be2 0 A.toList=true∧
     ∀k,k< (o::rest).length→∃o',(o::rest)[k]? =some o'∧(es.getD k B59).d=o'.dst∧F52 cfg m.base A o' ((es.take k).foldl (λs e=>e.app s) m.st) (es.getD k B59):=by
   intro e hd hat h1
   obtain⟨es,h2,h3,h4,h5,h6⟩:=ih _ _ _ h1
   refine⟨e::es,by simp[h2],h3,h4,h5,λk hk=> ?_⟩
   cases k with
   |zero=>exact⟨o,rfl,hd,hat⟩
   |succ k=>
    obtain⟨o',h7,h8,h9⟩:=h6 k (by simpa using hk)
    exact⟨o',by simpa using h7,by simpa using h8,by simpa using h9⟩
  have plain:∀{l},(Dg0 cfg m.base o).run m.st (λu v l'=>I1 cfg true A.toList call Kc rest (i+1)
    (⟨i,l',(match o.dst with|some d=> [.t d]|none=> [])++u.map Upd.loc⟩::tr) {m with st:=s8 (m.st.upds u) o.dst v}) l=some r→
    ∃e:Eff,e.d=o.dst∧(∀x∈l,x∈e.l)∧(∀s2,Es0 m.st s2 e.l→F51 cfg m.base o s2 e)∧I1 cfg true A.toList call Kc rest (i+1) (⟨i,e.l,e.wrs⟩::tr) {m with st:=e.app m.st}=some r:=by
   intro l h1
   obtain⟨u,v,l',h2,h3,h4⟩:=RP.run_inv _ _ h1
   exact⟨⟨l',o.dst,u,v⟩,rfl,h3,λs2 ha=> ⟨l,λK2=>h4 s2 ha K2⟩,h2⟩
  have act:∀{l},(match o.op with
   | .call {callee:= .value (.func f),args, ..}=> (match look cfg.inl f with
    |none=> (Dg0 cfg m.base o).run m.st (λu v l'=>I1 cfg true A.toList call Kc rest (i+1)
      (⟨i,l',(match o.dst with|some d=> [.t d]|none=> [])++u.map Upd.loc⟩::tr) {m with st:=s8 (m.st.upds u) o.dst v}) l
    |some _=>none)
   | .call {callee:= .value (.tmp t),args, ..}=> (match V4 m.st.tmps t with
    | .v ⟨false,[.fn f caps]⟩=>none
    |_=>none)
   |_=> (Dg0 cfg m.base o).run m.st (λu v l'=>I1 cfg true A.toList call Kc rest (i+1)
      (⟨i,l',(match o.dst with|some d=> [.t d]|none=> [])++u.map Upd.loc⟩::tr) {m with st:=s8 (m.st.upds u) o.dst v}) l)=some r→
    ∃e:Eff,e.d=o.dst∧(∀x∈l,x∈e.l)∧(∀s2,Es0 m.st s2 e.l→F51 cfg m.base o s2 e)∧I1 cfg true A.toList call Kc rest (i+1) (⟨i,e.l,e.wrs⟩::tr) {m with st:=e.app m.st}=some r:=by
   intro l h1
   split at h1
   ·split at h1
    ·exact plain h1
    ·cases h1
   ·split at h1<;>cases h1
   ·exact plain h1
  have skip:∀{l},I1 cfg true A.toList call Kc rest (i+1) (⟨i,l,match o.dst with|some d=> [.t d]|none=> []⟩::tr) {m with st:=s8 m.st o.dst (.tup [])}=some r→
    I1 cfg true A.toList call Kc rest (i+1) (⟨i,l,(⟨l,o.dst,[], .tup []⟩:Eff).wrs⟩::tr) {m with st:=(⟨l,o.dst,[], .tup []⟩:Eff).app m.st}=some r:=by
   intro l h1
   have:(⟨l,o.dst,[], .tup []⟩:Eff).wrs=(match o.dst with|some d=> [.t d]|none=> []):=by unfold Eff.wrs;cases o.dst<;>rfl
   rw[this]
   exact h1
  unfold I1 at h
  simp only[Ap5]at h
  simp only[G52]at h
  cases hgd:o.guard with
  |none=>
   rw[hgd]at h
   obtain⟨e,h1,h2,h3,h4⟩:=act h
   exact more e h1 (λs2 ha=>by rw[hgd];exact h3 s2 ha) h4
  |some gw=>
   obtain⟨j,want⟩:=gw
   rw[hgd]at h
   simp only[D51]at h
   cases hd:(A[j]?).bind (·.dst)with
   |none=>rw[hd]at h;cases h
   |some t=>
    rw[hd]at h
    simp only at h
    split at h
    ·rename_i b ht
     have acted:b=want→(∃e:Eff,e.d=o.dst∧(∀x∈ [Loc.t t],x∈e.l)∧(∀s2,Es0 m.st s2 e.l→F51 cfg m.base o s2 e)∧I1 cfg true A.toList call Kc rest (i+1) (⟨i,e.l,e.wrs⟩::tr) {m with st:=e.app m.st}=some r)→
       ∃es:List Eff,es.length=(o::rest).length∧Kc {m with st:=es.foldl (λs e=>e.app s) m.st}=some r∧j0 A.toList (trs i es tr)=true∧Be2 0 A.toList=true∧
        ∀k,k< (o::rest).length→∃o',(o::rest)[k]? =some o'∧(es.getD k B59).d=o'.dst∧F52 cfg m.base A o' ((es.take k).foldl (λs e=>e.app s) m.st) (es.getD k B59):=by
      rintro hw ⟨e,h1,h2,h3,h4⟩
      refine more e h1 (λs2 ha=> ?_) h4
      rw[hgd]
      exact⟨t,hd, .inl ⟨b,by rw[ha.1 t (h2 _ G39),ht], .inl ⟨hw,h3 s2 ha⟩⟩⟩
     have skipped:b≠want→I1 cfg true A.toList call Kc rest (i+1) (⟨i,[Loc.t t],match o.dst with|some d=> [.t d]|none=> []⟩::tr) {m with st:=s8 m.st o.dst (.tup [])}=some r→
       ∃es:List Eff,es.length=(o::rest).length∧Kc {m with st:=es.foldl (λs e=>e.app s) m.st}=some r∧j0 A.toList (trs i es tr)=true∧Be2 0 A.toList=true∧
        ∀k,k< (o::rest).length→∃o',(o::rest)[k]? =some o'∧(es.getD k B59).d=o'.dst∧F52 cfg m.base A o' ((es.take k).foldl (λs e=>e.app s) m.st) (es.getD k B59):=by
      intro hw h1
      refine more ⟨[.t t],o.dst,[], .tup []⟩ rfl (λs2 ha=> ?_) (skip h1)
      rw[hgd]
      exact⟨t,hd, .inl ⟨b,by rw[ha.1 t G39,ht], .inr ⟨hw,rfl,rfl⟩⟩⟩
     cases b<;>cases want<;>simp only[G52,G72,Ci2 ht]at h
     ·exact acted rfl (act h)
     ·exact skipped (by simp) h
     ·exact skipped (by simp) h
     ·exact acted rfl (act h)
    ·rename_i ht
     refine more ⟨[.t t],o.dst,[], .tup []⟩ rfl (λs2 ha=> ?_) (skip h)
     rw[hgd]
     exact⟨t,hd, .inr ⟨by rw[ha.1 t G39,ht],rfl,rfl⟩⟩
    ·cases h
theorem Dg9 {es:List Eff} {s:St}:∀n,n≤es.length→A44 (λk=>es.getD k B59) s (λ_=>true) n=(es.take n).foldl (λs e=>e.app s) s
 |0,_=>rfl
 |n+1,h=>by
  have hn:n<es.length:=h
  simp only[A44,if_true,Dg9 n (Nat.le_of_lt hn)]
  rw[G88 hn,Hc1]
  simp[List.getD,G36 hn]
theorem Dh0 {e:Nat→Eff} {s:St} {L L':Nat→Bool}:∀n,(∀k,k<n→L k=L' k)→A44 e s L n=A44 e s L' n
 |0,_=>rfl
 |n+1,h=>by simp only[A44,Dh0 n (λk hk=>h k (Nat.lt_succ_of_lt hk)),h n (Hc7 n)]
def cnt (L:Nat→Bool):Nat→Nat
 |0=>0
 |n+1=>cnt L n+(if L n=true then 0 else 1)
theorem Fc3 {L:Nat→Bool}:∀n,cnt L n=0→∀k,k<n→L k=true
 |0,_,k,hk=>by omega
 |n+1,h,k,hk=>by
  simp only[cnt]at h
  by_cases e:k=n
  ·subst e
   cases hL:L k with
   |true=>rfl
   |false=>rw[hL]at h;simp at h
  ·exact Fc3 n (by omega) k (by omega)
theorem D55 {L L':Nat→Bool}:∀n,(∀k,k<n→L k=L' k)→cnt L n=cnt L' n
 |0,_=>rfl
 |n+1,h=>by simp only[cnt,D55 n (λk hk=>h k (Nat.lt_succ_of_lt hk)),h n (Hc7 n)]
theorem Fc4 {L:Nat→Bool} {i:Nat} (hi:L i=false):∀n,i<n→cnt (λk=>L k||k==i) n+1=cnt L n
 |0,h=>by omega
 |n+1,h=>by
  by_cases e:i=n
  ·subst e
   have:cnt (λk=>L k||k==i) i=cnt L i:=D55 i (λk hk=>by
    have:(k==i)=false:=by simp;omega
    simp[this])
   simp only[cnt,this,hi]
   simp
  ·have hne:(n==i)=false:=by simp;omega
   have:=Fc4 hi n (by omega)
   simp only[cnt,hne,Bool.or_false]
   omega
def Fp7 (A:Array Oper) (L:Nat→Bool):Prop:=∀k o,A[k]? =some o→L k=true→∀e∈o.after,Region.binds .any e=true→L e.on=true
theorem Bo4 {A:Array Oper} {L:Nat→Bool} (hc:Fp7 A L):∀(f i j:Nat),A92 A.toList f i j=true→(∀o,A[j]? =some o→∀e∈o.after,Region.binds .any e=true→L e.on=true)→L i=true
 |0,i,j,h,_=>by simp[A92]at h
 |f+1,i,j,h,hj=>by
  simp only[A92,Hc2]at h
  cases ho:A[j]? with
  |none=>rw[ho]at h;cases h
  |some o=>
   rw[ho]at h
   obtain⟨e,he,hb⟩:=Hb1.1 h
   simp only[G37,Bool.or_eq_true]at hb
   have hl:=hj o ho e (by simpa using he) hb.1
   rcases hb.2 with h1|h1
   ·rw[←G35 h1];exact hl
   ·exact Bo4 hc f i e.on h1 (λo' ho'=>hc e.on o' ho' hl)
theorem Gl1 {ops:List Oper}:∀{i:Nat},Be2 i ops=true→∀k o,ops[k]? =some o→∀e∈o.after,Region.binds .any e=true→e.on<i+k:=by
 induction ops with
 |nil=>intro i _ k o h;simp at h
 |cons x ops ih=>
  intro i h k o ho e he hb
  simp only[Be2,G37]at h
  cases k with
  |zero=>
   simp only[Ha2,G43]at ho
   subst ho
   have:=G90.1 h.1 e (by simpa using he)
   rw[hb]at this
   simp only[Bool.not_true,Bool.false_or]at this
   exact G73 this
  |succ k=>
   have:=ih h.2 k o (by simpa using ho) e he hb
   omega
end
end Go.Vm
end
section
namespace Go.Vm
open Go
section
variable {P : Program} {cfg : Cfg} {saved : List (Nat × List VV)} {S : List (Array Value)} {w0 : World} {K : Keep} {Q : Exit → Act → World → Prop}
def J2 (listed:Array Bool) (k:Nat):Bool:=listed.getD k false
theorem Fp8 {listed:Array Bool} {i:Nat} (h:i<listed.size) (k:Nat):J2 (listed.setIfInBounds i true) k=(J2 listed k||k==i):=by
 unfold J2
 by_cases e:k=i
 ·subst e
  simp[h]
 ·have:(k==i)=false:=by simpa using e
  have hne:i≠k:=λh=>e h.symm
  simp[this,Array.getElem?_setIfInBounds_ne hne]
theorem F53 (hG:Ok P cfg) {A:Array Oper} {e:Nat→Eff} {s0:St} {base:Nat}
  (hop:∀k,k<A.size→∃o,A[k]? =some o∧(e k).d=o.dst∧F52 cfg base A o (A44 e s0 (λ_=>true) k) (e k))
  (hap:∀j k,j<k→k<A.size→Ey0 A.toList ⟨k,(e k).l,(e k).wrs⟩ ⟨j,(e j).l,(e j).wrs⟩)
  (hback:Be2 0 A.toList=true)
  (hQ:∀E a w,RelX E (A44 e s0 (λ_=>true) A.size) saved a S w w0 K→Q .normal a w):
  ∀(fuel:Nat) (listed:Array Bool) (E:Env) (a:Act) (w:World),listed.size=A.size→Fp7 A (J2 listed)→cnt (J2 listed) A.size≤fuel→RelX E (A44 e s0 (J2 listed) A.size) saved a S w w0 K→
   wpAny P .any A Q fuel listed a w:=by
 have hend:∀(listed:Array Bool) (E:Env) (a:Act) (w:World),(∀k,k<A.size→J2 listed k=true)→RelX E (A44 e s0 (J2 listed) A.size) saved a S w w0 K→Q .normal a w:=by
  intro listed E a w hall hr
  refine hQ E a w ?_
  rwa [Dh0 A.size (λk hk=>hall k hk)]at hr
 have hready:∀(listed:Array Bool),listed.size=A.size→Fp7 A (J2 listed)→Region.ready .any A listed=[]→∀k,k<A.size→J2 listed k=true:=by
  intro listed hsz hcl hemp k
  induction k using Nat.strongRecOn with
  |_ k ih=>
   intro hk
   cases hL:J2 listed k with
   |true=>rfl
   |false=>
    have hin:k∈Region.ready .any A listed:=by
     rw[mem_ready]
     refine⟨?_,A[k],Array.getElem?_eq_getElem hk,λx hx hb=> ?_⟩
     ·unfold J2 at hL
      have:k<listed.size:=by omega
      simpa [this]using hL
     ·have hlt:=Gl1 hback k A[k] (by simp[hk]) x hx hb
      rw[G78]at hlt
      exact ih x.on hlt (by omega)
    rw[hemp]at hin
    cases hin
 intro fuel
 induction fuel with
 |zero=>
  intro listed E a w hsz hcl hc hr
  have hall:=Fc3 A.size (Nat.le_zero.1 hc)
  refine⟨?_,hend listed E a w hall hr⟩
  cases hrd:Region.ready .any A listed with
  |nil=>rfl
  |cons i r=>
   have hin:i∈Region.ready .any A listed:=by rw[hrd];exact G39
   obtain⟨h1,o,ho,_⟩:=mem_ready.1 hin
   have hi:i<A.size:=(G85.1 ho).1
   have h2:=hall i hi
   unfold J2 at h2
   have:i<listed.size:=by omega
   simp[this]at h1 h2
   rw[h1]at h2
   cases h2
 |succ fuel ih=>
  intro listed E a w hsz hcl hc hr
  refine⟨λhemp=>hend listed E a w (hready listed hsz hcl hemp) hr,λi hin=> ?_⟩
  obtain⟨h1,o,ho,hpre⟩:=mem_ready.1 hin
  have hi:i<A.size:=(G85.1 ho).1
  have hLi:J2 listed i=false:=by
   unfold J2
   have:i<listed.size:=by omega
   simpa [this]using h1
  have hpre':∀o',A[i]? =some o'→∀x∈o'.after,Region.binds .any x=true→J2 listed x.on=true:=by
   intro o' ho' x hx hb
   rw[ho]at ho'
   cases ho'
   exact hpre x hx hb
  have ahead1:∀k,A92 A.toList A.toList.length k i=true→J2 listed k=true:=λk h=>Bo4 hcl _ k i h hpre'
  have ahead2:∀k,J2 listed k=true→A92 A.toList A.toList.length i k=true→False:=λk hk h=>by
   have:=Bo4 hcl _ i k h (λo' ho'=>hcl k o' ho' hk)
   rw[hLi]at this
   cases this
  have before:∀k,k<i→∀x,x∈(e k).wrs→x∈(e i).l→J2 listed k=true:=by
   intro k hk x hx1 hx2
   rcases hap k i hk hi with⟨_,_,h3⟩|h
   ·rw[D54 hx2 hx1]at h3;cases h3
   ·exact ahead1 k h
  have after:∀k,i<k→k<A.size→J2 listed k=true→∀x,x∈(e k).wrs→x∈(e i).l∨x∈(e i).wrs→False:=by
   intro k hk hkn hLk x hx1 hx2
   rcases hap i k hk hkn with⟨h1,h2,_⟩|h
   ·rcases hx2 with hx2|hx2
    ·rw[D54 hx1 hx2]at h1;cases h1
    ·rw[D54 hx1 hx2]at h2;cases h2
   ·exact ahead2 k hLk h
  obtain⟨o',ho',hd,hat⟩:=hop i hi
  rw[ho]at ho'
  cases ho'
  have agree:Es0 (A44 e s0 (λ_=>true) i) (A44 e s0 (J2 listed) A.size) (e i).l:=by
   constructor
   ·intro t ht
    rw[A25,A25]
    refine Es1 (λk hk hf=>before k hk _ (Eff.fT_wrs hf) ht) A.size (Nat.le_of_lt hi) (λk hk hkn hLk=> ?_)
    by_cases e1:k=i
    ·subst e1;rw[hLi]at hLk;cases hLk
    ·cases hf:(e k).fT s0.tmps.length t with
     |none=>rfl
     |some v=>exact(after k (by omega) hkn hLk _ (Eff.fT_wrs (by rw[hf];rfl)) (.inl ht)).elim
   ·intro n hn
    rw[A26,A26]
    refine Es1 (λk hk hf=>before k hk _ (Eff.fO_wrs hf) hn) A.size (Nat.le_of_lt hi) (λk hk hkn hLk=> ?_)
    by_cases e1:k=i
    ·subst e1;rw[hLi]at hLk;cases hLk
    ·cases hf:(e k).fO n with
     |none=>rfl
     |some v=>exact(after k (by omega) hkn hLk _ (Eff.fO_wrs (by rw[hf];rfl)) (.inl hn)).elim
  have next:∀{E':Env} {a':Act} {w':World},RelX E' ((e i).app (A44 e s0 (J2 listed) A.size)) saved a' S w' w0 K→wpAny P .any A Q fuel (listed.setIfInBounds i true) a' w':=by
   intro E' a' w' hr'
   have hset:∀k,J2 (listed.setIfInBounds i true) k=(J2 listed k||k==i):=Fp8 (by omega)
   refine ih _ E' a' w' (by simpa using hsz) ?_ ?_ ?_
   ·intro k o'' ho'' hLk x hx hb
    rw[hset]at hLk ⊢
    by_cases e1:k=i
    ·subst e1
     rw[hpre' o'' ho'' x hx hb];rfl
    ·have:(k==i)=false:=by simpa using e1
     rw[this,Bool.or_false]at hLk
     rw[hcl k o'' ho'' hLk x hx hb];rfl
   ·have:=Fc4 hLi A.size hi
    rw[D55 A.size (λk _=>hset k)]
    omega
   ·rw[Dh0 A.size (λk _=>hset k)]
    refine hr'.ext (Fc2 ?_ λt=> ?_) λn=> ?_
    ·rw[Eff.len,Bj5,Bj5]
    ·rw[A25,Eff.tget_app,Bj5,A25]
     refine Fc1 hLi A.size hi (λk hk hkn hLk hf=> ?_)
     cases hf':(e i).fT s0.tmps.length t with
     |none=>rfl
     |some v=>exact(after k hk hkn hLk _ (Eff.fT_wrs hf) (.inr (Eff.fT_wrs (by rw[hf'];rfl)))).elim
    ·rw[A26,Eff.hget_app,A26]
     refine Fc1 hLi A.size hi (λk hk hkn hLk hf=> ?_)
     cases hf':(e i).fO n with
     |none=>rfl
     |some v=>exact(after k hk hkn hLk _ (Eff.fO_wrs hf) (.inr (Eff.fO_wrs (by rw[hf'];rfl)))).elim
  have does:F51 cfg base o (A44 e s0 (J2 listed) A.size) (e i)→o.wp P a w (wpAny P .any A Q fuel (listed.setIfInBounds i true)) Q:=by
   rintro⟨l0,hdo⟩
   have h2:=hdo (λu v l=>some (u,v,l))
   obtain⟨u,v,l',h3,hs⟩:=Go6 hG hr h2
   simp only[G43,Prod.mk.injEq]at h3
   obtain⟨rfl,rfl,rfl⟩:=h3
   refine hs Q _ λa' w' E' h4=>next (E':=E') ?_
   unfold Eff.app
   rw[hd]
   exact h4
  have hx:=hat _ agree
  unfold wpOp
  simp only[ho]
  cases hgd:o.guard with
  |none=>
   rw[hgd]at hx
   rw[G45 (by simp[Region.wanted,hgd])]
   exact .inl (does hx)
  |some gw=>
   obtain⟨j,want⟩:=gw
   rw[hgd]at hx
   obtain⟨t,ht,⟨b,hb,hx⟩|⟨hb,hu,hv⟩⟩:=hx
   rotate_left
   ·have hb':=Dg8 hr hb
    rw[G41 (by simp[Region.wanted,hgd,yielded,ht,hb'])]
    refine next (E':=E) ?_
    unfold Eff.app
    rw[hu,hv,hd]
    exact hr.put o.dst (show VRel E _ w (.tup []) undef from⟨[], .nil,rfl⟩)
   have hb':=D50 hr hb
   have hwant:Region.wanted o (yielded A a.tmps)=(b==want):=by
    simp[Region.wanted,hgd,yielded,ht,hb']
   rcases hx with⟨rfl,hx⟩|⟨hne,hu,hv⟩
   ·rw[G45 (by rw[hwant];simp)]
    exact .inl (does hx)
   ·rw[G41 (by rw[hwant];simpa using hne)]
    refine next (E':=E) ?_
    unfold Eff.app
    rw[hu,hv,hd]
    exact hr.put o.dst (show VRel E _ w (.tup []) undef from⟨[], .nil,rfl⟩)
theorem Gf7 {R:Type} {r:R} {call:FuncId→List V1→(VV→Ms→Option R)→Ms→Option R} {Kc:Ms→Option R} (hG:Ok P cfg) (hm:P.follows .mixedOrders=true) (A:Array Oper) (id:Nat) (m:Ms) {E:Env} {a:Act} {w:World}
  (hrun:I1 cfg true A.toList call Kc A.toList 0 [] m=some r) (hr:RelX E m.st m.saved a S w w0 K)
  (hQ:∀m' a' w' E',Kc m'=some r→m'.saved=m.saved→RelX E' m'.st m'.saved a' S w' w0 K→Q .normal a' w'):(Code.region id A true).wp P Q a w:=by
 obtain⟨es,h1,h2,h3,h4,h5⟩:=Ey1 A _ _ _ _ hrun
 have hlen:es.length=A.size:=by rw[h1,G68]
 obtain⟨_,_,h6⟩:=Es3 es 0 [] h3
 refine wp_region_any hm (F53 (e:=λk=>es.getD k B59) (s0:=m.st) (base:=m.base) (saved:=m.saved) (S:=S) (w0:=w0) (K:=K) (Q:=Q) hG (λk hk=> ?_) (λj k hjk hk=> ?_) h4 (λE' a' w' hr'=> ?_) A.size (Array.replicate A.size false) E a _ (by simp) ?_ ?_ ?_)
 ·obtain⟨o,h7,h8,h9⟩:=h5 k (by rw[G68];exact hk)
  rw[←Dg9 k (by omega)]at h9
  exact⟨o,by simpa using h7,h8,h9⟩
 ·have:=h6 j k hjk (by omega)
  simpa using this
 ·rw[Dg9 A.size (by omega),←hlen,Hc8]at hr'
  exact hQ _ _ _ E' h2 rfl hr'
 ·intro k o ho hL
  have hk:k<A.size:=(G85.1 ho).1
  simp[J2,hk]at hL
 ·have:∀L n,cnt L n≤n:=by
   intro L n
   induction n with
   |zero=>exact G53 _
   |succ n ih=>simp only[cnt];split<;>omega
  exact this _ _
 ·have hzero:∀n,A44 (λk=>es.getD k B59) m.st (J2 (Array.replicate A.size false)) n=m.st:=by
   intro n
   induction n with
   |zero=>rfl
   |succ n ih=>
    simp only[A44,ih]
    rw[G41]
    unfold J2
    simp[Array.getElem?_replicate]
    split<;>simp
  rw[hzero]
  exact hr.still rfl rfl rfl rfl
end
end Go.Vm
end
section
namespace Go.Vm
open Go
theorem Fc5:∀(l:List Nat) (n j:Nat),j≤s9 n l j
 | [],n,j=>G53 _
 |m::l,n,j=>by
  simp only[s9]
  cases Nat.beq m n with
  |true=>exact G53 _
  |false=>exact G99 (Nat.le_succ j) (Fc5 l n (j+1))
theorem Ci3:∀(l:List Nat) (n j:Nat),n∈l→l[s9 n l j-j]? =some n
 | [],n,j,h=>by cases h
 |m::l,n,j,h=>by
  simp only[s9]
  cases hb:Nat.beq m n with
  |true=>
   rw[G35 hb]
   simp
  |false=>
   have hmem:n∈l:=by
    cases h with
    |head=>rw[G98]at hb;cases hb
    |tail _ h=>exact h
   have ih:=Ci3 l n (j+1) hmem
   have hle:=Fc5 l n (j+1)
   simp only[G72]
   rw[show s9 n l (j+1)-j=(s9 n l (j+1)- (j+1))+1 by omega]
   simpa using ih
theorem F54 {l:List Nat} {j n m:Nat} (hn:n∈l) (hm:m∈l) (h:s9 n l j=s9 m l j):n=m:=by
 have h1:=Ci3 l n j hn
 have h2:=Ci3 l m j hm
 rw[h,h2]at h1
 injection h1 with h1
 exact h1.symm
section
variable {g : Nat → Nat} {seen : List Nat} {h : D3}
theorem Bo5:∀(r:List Nat) (m:Nat),(∀n∈r,g n≠m)→B3 (Aj8 h g r) m=none
 | [],m,_=>rfl
 |n::r,m,hr=>by
  have ih:=Bo5 r m (λk hk=>hr k (G38 _ hk))
  simp only[Aj8]
  split
  ·have:Nat.beq (g n) m=false:=by
    cases hb:Nat.beq (g n) m with
    |false=>rfl
    |true=>exact absurd (G35 hb) (hr n G39)
   simp only[B3,this,G72,ih]
  ·exact ih
theorem Dm1 (hinj:∀n∈seen,∀m∈seen,g n=g m→n=m):∀(r:List Nat),(∀n∈r,n∈seen)→∀n∈r,B3 (Aj8 h g r) (g n)=(B3 h n).map (F36 g)
 | [],_,n,hn=>by cases hn
 |x::r,hr,n,hn=>by
  have hr':∀n∈r,n∈seen:=λk hk=>hr k (G38 _ hk)
  have ih:=Dm1 hinj r hr'
  simp only[Aj8]
  by_cases e:x=n
  ·subst e
   split
   ·rename_i o ho
    simp only[B3,G98,G52,ho,Ha8]
   ·rename_i ho
    rw[ho]
    by_cases hx:x∈r
    ·rw[ih x hx,ho]
    ·exact Bo5 r _ (λk hk e=>hx (by rw[←hinj k (hr' k hk) x (hr x G39) e];exact hk))
  ·have hnr:n∈r:=by
    cases hn with
    |head=>exact absurd rfl e
    |tail _ h=>exact h
   split
   ·have:Nat.beq (g x) (g n)=false:=by
     cases hb:Nat.beq (g x) (g n)with
     |false=>rfl
     |true=>exact absurd (hinj x (hr x G39) n (hr n hn) (G35 hb)) e
    simp only[B3,this,G72]
    exact ih n hnr
   ·exact ih n hnr
theorem F55 (o:Obj):E3 (F36 g o)=E3 o:=by cases o<;>simp[F36,E3]
end
theorem D56 {seen l:List Nat} (h:B49 seen l=true):∀n∈l,n∈seen:=by
 intro n hn
 have:=G90.1 h n hn
 obtain⟨b,hb,e⟩:=Hb1.1 this
 rw[G35 e];exact hb
theorem Cm3 {h:D3}:∀(r:List Nat) {n:Nat} {cs:List Cell},n∈r→B3 h n=some (.box cs)→∀x∈Bn2 cs,x∈Bj0 h r
 | [],n,cs,hn,_,x,_=>by cases hn
 |m::r,n,cs,hn,hg,x,hx=>by
  simp only[Bj0,G34]
  by_cases e:n=m
  ·subst e
   rw[hg]
   exact .inl hx
  ·exact .inr (Cm3 r (by
    cases hn with
    |head=>exact absurd rfl e
    |tail _ h=>exact h) hg x hx)
section
variable {E : Env} {h : D3} {w : World} {g : Nat → Nat} {seen : List Nat} {E' : Env} {h' : D3}
structure Ren (E E' : Env) (h h' : D3) (g : Nat → Nat) (seen : List Nat) : Prop where
 get : ∀ n ∈ seen, B3 h' (g n) = (B3 h n).map (F36 g)
 none : ∀ m, (∀ n ∈ seen, g n ≠ m) → B3 h' m = none
 inj : ∀ n ∈ seen, ∀ m ∈ seen, g n = g m → n = m
 ρ : ∀ n ∈ seen, E'.ρ (g n) = E.ρ n
 has : ∀ n ∈ seen, (E'.has (g n) ↔ E.has n)
 ok : E'.ok = E.ok
theorem Ren.sh (k:Ren E E' h h' g seen) {n:Nat} (hn:n∈seen):hsh h' (g n)=hsh h n:=by
 unfold hsh
 rw[k.get n hn]
 cases B3 h n with
 |none=>rfl
 |some o=>simp[F55]
theorem Ren.ptr (k:Ren E E' h h' g seen) {n:Nat} (hn:n∈seen) {v:Value} (p:PtrRel E h n v):PtrRel E' h' (g n) v:=by
 obtain⟨m,hs,rfl⟩:=p
 exact⟨m,by rw[k.sh hn];exact hs,by rw[k.ρ n hn]⟩
theorem Ren.cell (k:Ren E E' h h' g seen) {c:Cell} (hn:∀n∈Gd0 c,n∈seen) {v:Value} (p:CellRel E h w c v):CellRel E' h' w (E96 g c) v:=by
 cases c with
 |int=>exact p
 |bool=>exact p
 |str=>exact p
 |nilS=>exact p
 |slc e t xs=>exact Imm.mono (λb hb=>by rw[k.ok];exact hb) (λ_ _=>rfl) p
 |row o lo hi=>
  have ho:=hn o (G48.2 rfl)
  simp only[E96,CellRel,k.sh ho]at p ⊢
  cases hs:hsh h o with
  |none=>rw[hs]at p;exact p
  |some s=>
   rw[hs]at p
   cases s with
   |box n=>exact p
   |dead=>exact p
   |mp t=>exact p
   |row e t n=>
    obtain⟨hc,A,c,e1,hle,hx⟩:=p
    refine⟨hc,A,c,e1,hle,hx.imp id λ⟨h1,h2,h3⟩=> ?_⟩
    rw[k.ρ o ho]
    exact⟨(k.has o ho).2 h1,h2,h3⟩
 |ptr o f=>
  have ho:=hn o (G48.2 rfl)
  obtain⟨m,hs,rfl⟩:=p
  exact⟨m,by rw[k.sh ho];exact hs,by rw[k.ρ o ho]⟩
 |eptr o i f=>
  have ho:=hn o (G48.2 rfl)
  simp only[E96,CellRel,k.sh ho]at p ⊢
  rw[k.ρ o ho]
  exact p
 |iptr t x f=>
  obtain⟨b,off,ds,e1,hg,hi,hj⟩:=p
  exact⟨b,off,ds,e1,by rw[k.ok];exact hg,hi.mono (λb hb=>by rw[k.ok];exact hb) (λ_ _=>rfl),hj⟩
 |fn f l=>
  obtain⟨vs,rfl,hl⟩:=p
  refine⟨vs,rfl, ?_⟩
  have hn':∀n∈l,n∈seen:=hn
  generalize vs.toList=us at hl
  clear hn
  induction hl with
  |nil=>exact .nil
  |cons q _ ih=>exact .cons (k.ptr (hn' _ G39) q) (ih λn hn=>hn' n (G38 _ hn))
 |mp o=>
  have ho:=hn o (G48.2 rfl)
  obtain⟨t,hs,rfl⟩:=p
  exact⟨t,by rw[k.sh ho];exact hs,by rw[k.ρ o ho]⟩
theorem Ren.cells (k:Ren E E' h h' g seen):∀{cs:List Cell} {vs:List Value},(∀n∈Bn2 cs,n∈seen)→All2 (CellRel E h w) cs vs→All2 (CellRel E' h' w) (cs.map (E96 g)) vs
 | [],_,_, .nil=> .nil
 |c::cs,_,hn, .cons p q=> .cons (k.cell (λn hn'=>hn n (G34.2 (.inl hn'))) p) (k.cells (λn hn'=>hn n (G34.2 (.inr hn'))) q)
theorem Ren.v1 (k:Ren E E' h h' g seen) {x:V1} (hn:∀n∈Bn2 x.cs,n∈seen) {V:Value} (p:V1Rel E h w x V):V1Rel E' h' w ⟨x.agg,x.cs.map (E96 g)⟩ V:=by
 obtain⟨vs,hv,hV⟩:=p
 exact⟨vs,k.cells hn hv,hV⟩
theorem Ren.vv (k:Ren E E' h h' g seen) {x:VV} (hn:∀n∈Gd1 x,n∈seen) {V:Value} (p:VRel E h w x V):VRel E' h' w (Gd2 g x) V:=by
 cases x with
 |un=>trivial
 |v x=>exact k.v1 hn p
 |tup xs=>
  obtain⟨Vs,hv,rfl⟩:=p
  refine⟨Vs, ?_,rfl⟩
  have hn':∀x∈xs,∀n∈Bn2 x.cs,n∈seen:=λx hx n hn1=>hn n (Hb3.2 ⟨x,hx,hn1⟩)
  clear hn
  induction hv with
  |nil=>exact .nil
  |cons q _ ih=>exact .cons (k.v1 (hn' _ G39) q) (ih λx hx=>hn' x (G38 _ hx))
theorem Ren.frame (k:Ren E E' h h' g seen):∀{ts:List VV} {vs:List Value},(∀n∈B48 ts,n∈seen)→All2 (VRel E h w) ts vs→All2 (VRel E' h' w) (ts.map (Gd2 g)) vs
 | [],_,_, .nil=> .nil
 |c::cs,_,hn, .cons p q=> .cons (k.vv (λn hn'=>hn n (G34.2 (.inl hn'))) p) (k.frame (λn hn'=>hn n (G34.2 (.inr hn'))) q)
theorem Ren.saved (k:Ren E E' h h' g seen) {sv:List (Nat×List VV)} {S:List (Array Value)} (hn:∀p∈sv,∀n∈B48 p.2,n∈seen) (hs:All2 (λ(p:Nat×List VV) (arr:Array Value)=>All2 (VRel E h w) p.2 arr.toList) sv S):
  All2 (λ(p:Nat×List VV) (arr:Array Value)=>All2 (VRel E' h' w) p.2 arr.toList) (sv.map λp=> (p.1,p.2.map (Gd2 g))) S:=by
 induction hs with
 |nil=>exact .nil
 |cons p _ ih=>exact .cons (k.frame (hn _ G39) p) (ih λp hp=>hn p (G38 _ hp))
end
theorem Dh1 {E:Env} {h:D3} {w:World} (ks:List Nat):∀{ts:List VV} {vs:List Value} (n:Nat),All2 (VRel E h w) ts vs→All2 (VRel E h w) (E94 ks n ts) vs
 | [],_,_, .nil=> .nil
 |t::ts,_,n, .cons p q=>by
  refine .cons ?_ (Dh1 ks (n+1) q)
  cases ks.any (Nat.beq n)with
  |true=>exact p
  |false=>trivial
theorem Dh2 {h:D3}:∀(r:List Nat) {n:Nat},E97 h r=true→n∈r→(∀o i f e t m,B3 h n≠some (.bor o i f e t m))∧∀e t xs i f m,B3 h n≠some (.pend e t xs i f m)
 | [],n,_,hn=>by cases hn
 |m::r,n,hb,hn=>by
  simp only[E97,G37]at hb
  cases hn with
  |head=>exact⟨λo i f e t k hg=> (by rw[hg]at hb;cases hb.1),λe t xs i f k hg=> (by rw[hg]at hb;cases hb.1)⟩
  |tail _ hn=>exact Dh2 r hb.2 hn
theorem Fp9 {ks:List Nat} {m m':Ms} (hn:Gn7 ks m=some m') {E:Env} {a:Act} {S:List (Array Value)} {w w0:World} {K:Keep} (hX:RelX E m.st m.saved a S w w0 K):
  ∃E',RelX E' m'.st m'.saved a S w w0 K:=by
 obtain⟨w1,K1,hD,hT,hr⟩:=hX
 unfold Gn7 at hn
 dsimp only at hn
 generalize hts:E94 ks 0 m.st.tmps=ts at hn
 generalize hroots:B48 ts++m.saved.flatMap (λp=>B48 p.2)=roots at hn
 generalize hseen:E95 m.st.heap 1000 roots []=seen at hn
 cases hb:B49 seen roots&&B49 seen (Bj0 m.st.heap seen)&&E8 seen&&E97 m.st.heap seen with
 |false=>rw[hb]at hn;cases hn
 |true=>
  rw[hb]at hn
  simp only[G52,G43]at hn
  subst hn
  simp only[show∀(m:Ms) st sv,(Gd3 m st sv).st=st fromλ_ _ _=>rfl,show∀(m:Ms) st sv,(Gd3 m st sv).saved=sv fromλ_ _ _=>rfl]
  simp only[G37]at hb
  have hc1:=D56 hb.1.1.1
  have hc2:=D56 hb.1.1.2
  have inv:∀n∈seen,seen.getD (s9 n seen 100-100) 0=n:=λn hn=>by
   have:=Ci3 seen n 100 hn
   simp[List.getD,this]
  have hinj:∀n∈seen,∀k∈seen,s9 n seen 100=s9 k seen 100→n=k:=λn hn k hk=>F54 hn hk
  have k:Ren E ⟨λn=>E.ρ (seen.getD (n-100) 0),λn=>E.has (seen.getD (n-100) 0),E.ok⟩ m.st.heap (Aj8 m.st.heap (λn=>s9 n seen 100) seen) (λn=>s9 n seen 100) seen:=
   ⟨Dm1 hinj seen (λ_ h=>h),λq hq=>Bo5 seen q hq,hinj,λn hn=>by simp only[inv n hn],λn hn=>by simp only[inv n hn],rfl⟩
  have back:∀q o,B3 (Aj8 m.st.heap (λn=>s9 n seen 100) seen) q=some o→∃n∈seen,q=s9 n seen 100∧∃o',B3 m.st.heap n=some o'∧o=F36 (λn=>s9 n seen 100) o':=by
   intro q o hq
   by_cases hex:∃n∈seen,s9 n seen 100=q
   ·obtain⟨n,hn,rfl⟩:=hex
    rw[k.get n hn]at hq
    cases hg:B3 m.st.heap n with
    |none=>rw[hg]at hq;cases hq
    |some o'=>rw[hg]at hq;cases hq;exact⟨n,hn,rfl,o',hg,rfl⟩
   ·rw[k.none q (λn hn e=>hex ⟨n,hn,e⟩)]at hq;cases hq
  have live:∀n∈seen,C6 (Aj8 m.st.heap (λn=>s9 n seen 100) seen) (s9 n seen 100)→C6 m.st.heap n:=by
   intro n hn hl
   unfold C6 at hl ⊢
   rw[k.get n hn]at hl
   cases hg:B3 m.st.heap n with
   |none=>rw[hg]at hl;exact hl
   |some o=>rw[hg]at hl;cases o<;>exact hl
  have ht:All2 (VRel E m.st.heap w) ts a.tmps.toList:=by rw[←hts];exact Dh1 ks 0 hr.tm
  have htree:∀q o,B3 (Aj8 m.st.heap (λn=>s9 n seen 100) seen) q=some o→o.tr=true→∃n∈seen,q=s9 n seen 100∧B3 m.st.heap n=some o:=by
   intro q o hq ho
   obtain⟨n,hn,e1,o',hg,e2⟩:=back q o hq
   refine⟨n,hn,e1, ?_⟩
   rw[hg,e2]
   cases o'<;>first|rfl|(rw[e2]at ho;cases ho)
  refine⟨⟨λn=>E.ρ (seen.getD (n-100) 0),λn=>E.has (seen.getD (n-100) 0),E.ok⟩,w1,{K1 with ta:=λq=>K1.ta (seen.getD (q-100) 0),th:=λq=>K1.th (seen.getD (q-100) 0)},
   ⟨⟨hD.os,hD.tape,hD.out,hD.size,hD.k,hD.o,hD.p,hD.rm,hD.b0⟩,hD.iv⟩, ?_, ?_⟩
  ·obtain⟨β,hβ⟩:=hT
   refine⟨λq=>β (seen.getD (q-100) 0),λq e t xs fl hq=> ?_,λq e t xs i f mm hq=> ?_,λq e t xs fl hq hf=> ?_,λq q' o o' hne hq hq' he he'=> ?_,λq o i f e t mm hq=> ?_⟩
   ·obtain⟨n,hn,rfl,hg⟩:=htree q _ hq rfl
    have:=hβ.tr n e t xs fl hg
    simp only[Blk,inv n hn]at this ⊢
    exact this
   ·obtain⟨n,hn,rfl,hg⟩:=htree q _ hq rfl
    exact absurd hg ((Dh2 seen hb.2 hn).2 _ _ _ _ _ _)
   ·obtain⟨n,hn,rfl,hg⟩:=htree q _ hq rfl
    have:=hβ.fx n e t xs fl hg hf
    simp only[inv n hn]at this ⊢
    exact this
   ·obtain⟨n,hn,rfl,hg⟩:=htree q _ hq he.tr
    obtain⟨n',hn',rfl,hg'⟩:=htree q' _ hq' he'.tr
    have:=hβ.ap n n' _ _ (λe=>hne (by rw[e])) hg hg' he he'
    simp only[Blk,inv n hn,inv n' hn']at this ⊢
    exact this
   ·obtain⟨n,hn,rfl,hg⟩:=htree q _ hq rfl
    exact absurd hg ((Dh2 seen hb.2 hn).1 _ _ _ _ _ _)
  refine⟨?_,hr.df, ?_, ?_, ?_, ?_, ?_,hr.bo,hr.kp,hr.os,hr.tape,hr.out,hr.size,hr.oz,hr.rm,λq o hq ho=> ?_⟩
  rotate_right
  ·obtain⟨n,hn,rfl,hg⟩:=htree q o hq ho
   simp only[inv n hn]
   exact hr.ta n o hg ho
  ·refine k.frame (λn hn=>hc1 n ?_) ht
   rw[←hroots];exact G34.2 (.inl hn)
  ·have hnames:∀p∈m.saved,∀n∈B48 p.2,n∈seen:=λp hp n hn=>hc1 n (by rw[←hroots];exact G34.2 (.inr (Hb3.2 ⟨p,hp,hn⟩)))
   exact k.saved hnames hr.sv
  ·intro q o hq
   obtain⟨n,hn,rfl,o',hg,rfl⟩:=back q o hq
   have hob:=hr.ob n o' hg
   cases o' with
   |dead=>trivial
   |tree=>trivial
   |bor=>trivial
   |pend=>trivial
   |box cs=>
    obtain⟨hh,vs,hv,hcell⟩:=hob
    refine⟨(k.has n hn).2 hh,vs,k.cells (λx hx=>hc2 x (Cm3 seen hn hg x hx)) hv, ?_⟩
    rw[k.ρ n hn]
    exact hcell
   |row e t xs own=>
    obtain⟨h1,h2⟩:=hob
    refine⟨h1.imp (k.has n hn).2 id,λhh=> ?_⟩
    rw[k.ρ n hn]
    exact h2 ((k.has n hn).1 hh)
   |mp t xs=>
    obtain⟨h1,h2⟩:=hob
    refine⟨(k.has n hn).2 h1, ?_⟩
    rw[k.ρ n hn]
    exact h2
  ·intro q q' hne hl hl' hh hh'
   obtain⟨o,ho⟩:=G74.1 (J4 hl)
   obtain⟨o',ho'⟩:=G74.1 (J4 hl')
   obtain⟨n,hn,rfl,_⟩:=back q o ho
   obtain⟨n',hn',rfl,_⟩:=back q' o' ho'
   rw[k.ρ n hn,k.ρ n' hn']
   exact hr.dj n n' (λe=>hne (by rw[e])) (live n hn hl) (live n' hn' hl') ((k.has n hn).1 hh) ((k.has n' hn').1 hh')
  ·intro q hl hh
   obtain⟨o,ho⟩:=G74.1 (J4 hl)
   obtain⟨n,hn,rfl,_⟩:=back q o ho
   rw[k.ρ n hn]
   exact hr.dk n (live n hn hl) ((k.has n hn).1 hh)
  ·intro q hs hh
   obtain⟨o,ho⟩:=G74.1 hs
   obtain⟨n,hn,rfl,o',hg,_⟩:=back q o ho
   rw[k.ρ n hn]
   exact hr.bd n (by rw[hg];rfl) ((k.has n hn).1 hh)
theorem C14 {l:List (Nat×List Nat)} {key:Nat} {m m':Ms} (hn:Ew9 l key m=some m') {E:Env} {a:Act} {S:List (Array Value)} {w w0:World} {K:Keep} (hr:RelX E m.st m.saved a S w w0 K):
  ∃E',RelX E' m'.st m'.saved a S w w0 K:=by
 unfold Ew9 at hn
 split at hn
 ·exact Fp9 hn hr
 ·cases hn;exact⟨E,hr⟩
section
variable {E : Env} {h h' : D3} {w : World} {nm : Nat}
def Env.more (E:Env) (nm:Nat):Env:=⟨E.ρ,λn=>n≠nm∧E.has n,E.ok⟩
theorem Gl2 {e:TypeId} {ty:Ty} (hs:hsh h' nm=some (.row e ty 0)) {v:Value} (p:CellRel E h w .nilS v):CellRel (E.more nm) h' w (.row nm none none) v:=by
 simp only[CellRel]at p
 subst p
 simp only[CellRel,hs]
 exact⟨trivial,none,0,rfl,G53 _, .inl rfl⟩
theorem F56 (hn:B3 h nm=none) (hh:∀n s,hsh h n=some s→hsh h' n=some s):Step E (E.more nm) h h' w w:=
 ⟨λ_ _=>rfl,λn hs=> ⟨λhk=>hk.2,λhk=> ⟨(λe=>by rw[e,hn]at hs;cases hs),hk⟩⟩,λ_ hb=>hb,λ_ _=>rfl,λ_ _ hr=>hr,λn s hs=> .inl (hh n s hs)⟩
theorem Fc6 {o:Option Cell} (h:A91 o=true):o=some .nilS:=by
 unfold A91 at h
 split at h
 ·rfl
 ·cases h
theorem Ey2 {e:TypeId} {ty:Ty} (k:Step E (E.more nm) h h' w w) (hs:hsh h' nm=some (.row e ty 0)):∀{cs:List Cell} {vs:List Value} {i:Nat},A91 cs[i]? =true→All2 (CellRel E h w) cs vs→
  All2 (CellRel (E.more nm) h' w) (cs.set i (.row nm none none)) vs
 | [],_,i,hi, .nil=> .nil
 |c::cs,_,0,hi, .cons p q=>by
  have:=Fc6 hi
  simp at this
  subst this
  exact .cons (Gl2 hs p) (q.mono λ_ _ x=>x.step k)
 |c::cs,_,i+1,hi, .cons p q=> .cons (p.step k) (Ey2 k hs (by simpa using hi) q)
end
theorem D57 {fz:Bool} {c:Option Cell} {st:St} {E:Env} {sv:List (Nat×List VV)} {a:Act} {S:List (Array Value)} {w w0:World} {K:Keep} (hr:RelE E st sv a S w w0 K):
  ∃E',RelE E' (F37 fz c st) sv a S w w0 K:=by
 unfold F37
 split
 ·split
  ·rename_i hg
   exact⟨_,hr.frz hg⟩
  ·exact⟨E,hr⟩
 ·exact⟨E,hr⟩
theorem El0 {nm:Nat} {st:St} {t:Nat} {path:List Nat} {e:TypeId} {ty:Ty} {fz:Bool} {E:Env} {sv:List (Nat×List VV)} {a:Act} {S:List (Array Value)} {w w0:World} {K:Keep} (hr:RelE E st sv a S w w0 K):
  ∃E',RelE E' (Cz8 nm st t path e ty fz) sv a S w w0 K:=by
 unfold Cz8
 split
 ·exact⟨E,hr⟩
 rename_i hnone
 split
 case h_2=>exact⟨E,hr⟩
 rename_i x hx
 have key:∀(h':D3),hsh h' nm=some (.row e ty 0)→(∀n s,hsh st.heap n=some s→hsh h' n=some s)→(∀n,n≠nm→C6 h' n→C6 st.heap n)→(∀n,n≠nm→(B3 h' n).isSome=true→(B3 st.heap n).isSome=true)→
   (Step E (E.more nm) st.heap h' w w→∀n o,B3 h' n=some o→ObjRel (E.more nm) h' w n o)→∀ts,(Step E (E.more nm) st.heap h' w w→All2 (VRel (E.more nm) h' w) ts a.tmps.toList)→(∀n o,B3 h' n=some o→o.tr=true→B3 st.heap n=some o)→∃E',RelE E' ⟨ts,h'⟩ sv a S w w0 K:=by
  intro h' hs hh hl hi hob ts ht htr
  have k:=F56 (E:=E) (w:=w) hnone hh
  refine⟨E.more nm,ht k,hr.df,hr.sv.mono λ_ _ q=>q.mono λ_ _ q=>q.step k,hob k, ?_, ?_, ?_,hr.bo,hr.kp,hr.os,hr.tape,hr.out,hr.size,hr.oz,hr.rm,hr.trees k htr⟩
  ·intro n n' hne h1 h2 h3 h4
   exact hr.dj n n' hne (hl n h3.1 h1) (hl n' h4.1 h2) h3.2 h4.2
  ·intro n h1 h3
   exact hr.dk n (hl n h3.1 h1) h3.2
  ·intro n h1 h3
   exact hr.bd n (hi n h3.1 h1) h3.2
 split
 ·rename_i i hsp
  cases hb:A91 x.cs[i]? with
  |false=>exact D57 hr
  |true=>
   refine key _ ?_ ?_ ?_ ?_ ?_ _ ?_ (Aa8 rfl)
   ·rw[F5,G45 rfl];rfl
   ·intro n s hs
    rw[F5,G41 (λe=>by rw[e]at hs;unfold hsh at hs;rw[hnone]at hs;cases hs)]
    exact hs
   ·intro n hne hl
    unfold C6 at hl ⊢
    rwa [A9,G41 hne]at hl
   ·intro n hne hl
    rwa [A9,G41 hne]at hl
   ·intro k n o ho
    rw[A9]at ho
    split at ho
    ·rename_i hne
     cases ho
     exact⟨.inr rfl,λhh=>absurd hne hh.1⟩
    ·rename_i hne
     exact(hr.ob n o ho).step k (by rw[ho];rfl) (λh=>h.2) (λ_=>rfl)
   ·intro k
    have hs:hsh (hset st.heap nm (.row e ty [] (!fz))) nm=some (.row e ty 0):=by rw[F5,G45 rfl];rfl
    have ht:=hr.tm
    rw[Cz9]
    rw[D15]at hx
    clear hsp
    generalize a.tmps.toList=vs at ht
    generalize st.tmps=ts at ht hx
    induction ht generalizing t with
    |nil=>exact .nil
    |cons p q ih=>
     cases t with
     |zero=>
      simp at hx
      subst hx
      obtain⟨us,h1,h2⟩:=p
      exact .cons ⟨us,Ey2 k hs hb h1,h2⟩ (q.mono λ_ _ q=>q.step k)
     |succ t=>exact .cons (p.step k) (ih (by simpa using hx))
 ·rename_i o i hsp
  split
  case h_2=>exact⟨E,hr⟩
  rename_i cs hg
  cases hb:A91 cs[i]? with
  |false=>exact D57 hr
  |true=>
   have hon:o≠nm:=λe=>by rw[e,hnone]at hg;cases hg
   refine key _ ?_ ?_ ?_ ?_ ?_ _ ?_ (λn o hn ho=>Aa8 rfl n o (Aa8 rfl n o hn ho) ho)
   ·rw[F5,G45 rfl];rfl
   ·intro n s hs
    rw[F5,G41 (λe=>by rw[e]at hs;unfold hsh at hs;rw[hnone]at hs;cases hs),F5]
    split
    ·rename_i e1
     subst e1
     unfold hsh at hs
     rw[hg]at hs
     simpa [E3]using hs
    ·exact hs
   ·intro n hne hl
    unfold C6 at hl ⊢
    rw[A9,G41 hne,A9]at hl
    by_cases e1:n=o
    ·subst e1
     rw[hg];trivial
    ·rw[G41 e1]at hl;exact hl
   ·intro n hne hl
    rw[A9,G41 hne,A9]at hl
    by_cases e1:n=o
    ·subst e1
     rw[hg];rfl
    ·rw[G41 e1]at hl;exact hl
   ·intro k n o' ho
    rw[A9]at ho
    split at ho
    ·rename_i hne
     cases ho
     exact⟨.inr rfl,λhh=>absurd hne hh.1⟩
    ·rename_i hne
     rw[A9]at ho
     split at ho
     ·rename_i e1
      subst e1
      cases ho
      obtain⟨h1,vs,h2,h3⟩:=hr.ob _ _ hg
      exact⟨⟨hon,h1⟩,vs,Ey2 k (by rw[F5,G45 rfl];rfl) hb h2,h3⟩
     ·exact(hr.ob n o' ho).step k (by rw[ho];rfl) (λh=>h.2) (λ_=>rfl)
   ·intro k
    exact hr.tm.mono λ_ _ q=>q.step k
 ·exact⟨E,hr⟩
theorem Gl3 {E:Env} {h:D3} {w:World} {c:Cell} {v:Value} (p:CellRel E h w c v):CellRel E h w (Ex0 c) v:=by
 unfold Ex0
 split
 ·rename_i n hi
  simp only[CellRel]at p ⊢
  split at p
  ·obtain⟨hc,A,cp,hv,hle,hx⟩:=p
   refine⟨?_,A,cp, ?_,by simpa [I8]using hle,by simpa [I8]using hx⟩
   ·cases hi<;>simp only[p7]at* <;>omega
   ·rw[hv];cases hi<;>simp[D0]
  ·exact p
  ·exact p.elim
 ·exact p
theorem All2.set1 {E:Env} {h:D3} {w:World}:∀{cs:List Cell} {vs:List Value} {i:Nat} {c:Cell},cs[i]? =some c→All2 (CellRel E h w) cs vs→All2 (CellRel E h w) (cs.set i (Ex0 c)) vs
 | [],_,i,c,hi, .nil=> .nil
 |d::cs,_,0,c,hi, .cons p q=>by
  simp at hi
  subst hi
  exact .cons (Gl3 p) q
 |d::cs,_,i+1,c,hi, .cons p q=> .cons p (All2.set1 (by simpa using hi) q)
theorem Ey3 {cl:Bool} {st:St} {t:Nat} {path:List Nat} {E:Env} {sv:List (Nat×List VV)} {a:Act} {S:List (Array Value)} {w w0:World} {K:Keep} (hr:RelE E st sv a S w w0 K):
  RelE E (D37 cl st t path) sv a S w w0 K:=by
 unfold D37
 cases cl with
 |false=>exact hr
 |true=>
  simp only[G52]
  split
  case h_2=>exact hr
  rename_i x hx
  split
  ·rename_i i hsp
   split
   ·rename_i c hc
    refine{hr with tm:= ?_}
    have ht:=hr.tm
    rw[Cz9]
    rw[D15]at hx
    clear hsp
    generalize a.tmps.toList=vs at ht
    generalize st.tmps=ts at ht hx
    induction ht generalizing t with
    |nil=>exact .nil
    |cons p q ih=>
     cases t with
     |zero=>
      simp at hx
      subst hx
      obtain⟨us,h1,h2⟩:=p
      exact .cons ⟨us,h1.set1 hc,h2⟩ q
     |succ t=>exact .cons p (ih (by simpa using hx))
   ·exact hr
  ·rename_i o i hsp
   split
   case h_2=>exact hr
   rename_i cs hg
   split
   case h_2=>exact hr
   rename_i c hc
   have hsh:∀n,hsh (hset st.heap o (.box (cs.set i (Ex0 c)))) n=hsh st.heap n:=by
    intro n
    rw[F5]
    split
    ·rename_i e1
     subst e1
     simp[Go.Vm.hsh,hg,E3]
    ·rfl
   have k:Step E E st.heap (hset st.heap o (.box (cs.set i (Ex0 c)))) w w:=⟨λ_ _=>rfl,λ_ _=>Iff.rfl,λ_ h=>h,λ_ _=>rfl,λ_ _ h=>h,λn s hn=> .inl (by rw[hsh];exact hn)⟩
   have hl:∀n,C6 (hset st.heap o (.box (cs.set i (Ex0 c)))) n→C6 st.heap n:=by
    intro n hl
    unfold C6 at hl ⊢
    rw[A9]at hl
    by_cases e1:n=o
    ·subst e1;rw[hg];trivial
    ·rwa [G41 e1]at hl
   have hs:∀n,(B3 (hset st.heap o (.box (cs.set i (Ex0 c)))) n).isSome=true→(B3 st.heap n).isSome=true:=by
    intro n hl
    rw[A9]at hl
    by_cases e1:n=o
    ·subst e1;rw[hg];rfl
    ·rwa [G41 e1]at hl
   refine⟨G6 k hr.tm,hr.df,hr.sv.mono λ_ _ q=>G6 k q,λn ob hn=> ?_,λn n' hne h1 h2=>hr.dj n n' hne (hl n h1) (hl n' h2),λn h1=>hr.dk n (hl n h1),λn h1=>hr.bd n (hs n h1),hr.bo,hr.kp,hr.os,hr.tape,hr.out,hr.size,hr.oz,hr.rm,hr.trees k (Aa8 rfl)⟩
   rw[A9]at hn
   by_cases e1:n=o
   ·subst e1
    rw[G45 rfl]at hn
    cases hn
    obtain⟨h1,vs,h2,h3⟩:=hr.ob _ _ hg
    exact⟨h1,vs,(h2.mono λ_ _ q=>q.step k).set1 hc,h3⟩
   ·rw[G41 e1]at hn
    exact(hr.ob n ob hn).step k (by rw[hn];rfl) (λh=>h) (λ_=>rfl)
  ·exact hr
theorem TF.set1 {h:D3} {w:World} {K:Keep} {n:Nat} {ob:Obj} (ht:TF h w K) (hb:ob.tr=false) (ho:∀o,B3 h n=some o→o.tr=false):TF (Vm.hset h n ob) w K:=
 TF.upds (st:=⟨[],h⟩) (u:=[.o n ob]) ht (λm o hm=>by
  simp only[G48]at hm
  injection hm with _ e;rw[e];exact hb) (λm o hm=>by
  simp only[G48]at hm
  injection hm with e _;rw[e];exact ho)
theorem F07 {fz:Bool} {c:Option Cell} {st:St} {w:World} {K:Keep} (ht:TF st.heap w K):TF (F37 fz c st).heap w K:=by
 unfold F37
 split
 ·split
  ·rename_i hg
   exact ht.set1 rfl (λo ho=>by rw[hg]at ho;cases ho;rfl)
  ·exact ht
 ·exact ht
theorem Fq0 {nm:Nat} {st:St} {t:Nat} {path:List Nat} {e:TypeId} {ty:Ty} {fz:Bool} {w:World} {K:Keep} (ht:TF st.heap w K):TF (Cz8 nm st t path e ty fz).heap w K:=by
 unfold Cz8
 split
 ·exact ht
 rename_i hnone
 split
 case h_2=>exact ht
 rename_i x hx
 split
 ·rename_i i hsp
  cases hb:A91 x.cs[i]? with
  |false=>exact F07 ht
  |true=>exact ht.set1 rfl (λo ho=>by rw[hnone]at ho;cases ho)
 ·rename_i o i hsp
  split
  case h_2=>exact ht
  rename_i cs hg
  cases hb:A91 cs[i]? with
  |false=>exact F07 ht
  |true=>
   refine(ht.set1 rfl (λo ho=>by rw[hg]at ho;cases ho;rfl)).set1 rfl (λo' ho=> ?_)
   rw[A9]at ho
   split at ho
   ·cases ho;rfl
   ·rw[hnone]at ho;cases ho
 ·exact ht
theorem F57 {cl:Bool} {st:St} {t:Nat} {path:List Nat} {w:World} {K:Keep} (ht:TF st.heap w K):TF (D37 cl st t path).heap w K:=by
 unfold D37
 cases cl with
 |false=>exact ht
 |true=>
  simp only[G52]
  split
  case h_2=>exact ht
  rename_i x hx
  split
  ·split
   ·exact ht
   ·exact ht
  ·split
   case h_2=>exact ht
   rename_i cs hg
   split
   case h_2=>exact ht
   exact ht.set1 rfl (λo ho=>by rw[hg]at ho;cases ho;rfl)
  ·exact ht
theorem D58 {E:Env} {h:D3} {w:World} {nm:Nat} {e:TypeId} {ty:Ty} (hs:hsh h nm=some (.row e ty 0)):∀{cs:List Cell} {vs:List Value} {i:Nat},A91 cs[i]? =true→All2 (CellRel E h w) cs vs→
  All2 (CellRel E h w) (cs.set i (.row nm none none)) vs
 | [],_,i,hi, .nil=> .nil
 |c::cs,_,0,hi, .cons p q=>by
  have:=Fc6 hi
  simp at this
  subst this
  simp only[CellRel]at p
  subst p
  refine .cons ?_ q
  simp only[CellRel,hs]
  exact⟨trivial,none,0,rfl,G53 _, .inl rfl⟩
 |c::cs,_,i+1,hi, .cons p q=> .cons p (D58 hs (by simpa using hi) q)
theorem RelE.boxset {st:St} {E:Env} {sv:List (Nat×List VV)} {a:Act} {S:List (Array Value)} {w w0:World} {K:Keep} (hr:RelE E st sv a S w w0 K) {o i:Nat} {cs:List Cell} {c':Cell} (hg:B3 st.heap o=some (.box cs))
  (hc:∀vs,All2 (CellRel E st.heap w) cs vs→All2 (CellRel E st.heap w) (cs.set i c') vs):RelE E ⟨st.tmps,hset st.heap o (.box (cs.set i c'))⟩ sv a S w w0 K:=by
 have hsh:∀n,hsh (hset st.heap o (.box (cs.set i c'))) n=hsh st.heap n:=by
  intro n
  rw[F5]
  split
  ·rename_i e1
   subst e1
   simp[Go.Vm.hsh,hg,E3]
  ·rfl
 have k:Step E E st.heap (hset st.heap o (.box (cs.set i c'))) w w:=⟨λ_ _=>rfl,λ_ _=>Iff.rfl,λ_ h=>h,λ_ _=>rfl,λ_ _ h=>h,λn s hn=> .inl (by rw[hsh];exact hn)⟩
 have hl:∀n,C6 (hset st.heap o (.box (cs.set i c'))) n→C6 st.heap n:=by
  intro n hl
  unfold C6 at hl ⊢
  rw[A9]at hl
  by_cases e1:n=o
  ·subst e1;rw[hg];trivial
  ·rwa [G41 e1]at hl
 have hs:∀n,(B3 (hset st.heap o (.box (cs.set i c'))) n).isSome=true→(B3 st.heap n).isSome=true:=by
  intro n hl
  rw[A9]at hl
  by_cases e1:n=o
  ·subst e1;rw[hg];rfl
  ·rwa [G41 e1]at hl
 refine⟨G6 k hr.tm,hr.df,hr.sv.mono λ_ _ q=>G6 k q,λn ob hn=> ?_,λn n' hne h1 h2=>hr.dj n n' hne (hl n h1) (hl n' h2),λn h1=>hr.dk n (hl n h1),λn h1=>hr.bd n (hs n h1),hr.bo,hr.kp,hr.os,hr.tape,hr.out,hr.size,hr.oz,hr.rm,hr.trees k (Aa8 rfl)⟩
 rw[A9]at hn
 by_cases e1:n=o
 ·subst e1
  rw[G45 rfl]at hn
  cases hn
  obtain⟨h1,vs,h2,h3⟩:=hr.ob _ _ hg
  exact⟨h1,vs,(hc vs h2).mono λ_ _ q=>q.step k,h3⟩
 ·rw[G41 e1]at hn
  exact(hr.ob n ob hn).step k (by rw[hn];rfl) (λh=>h) (λ_=>rfl)
theorem D59 {c:Option Cell} {st:St} {E:Env} {sv:List (Nat×List VV)} {a:Act} {S:List (Array Value)} {w w0:World} {K:Keep} (hX:RelX E st sv a S w w0 K):∃E',RelX E' (Gj7 c st) sv a S w w0 K:=by
 unfold Gj7
 split
 case h_2=>exact⟨E,hX⟩
 split
 case h_2=>exact⟨E,hX⟩
 rename_i n _ _ e t xs q hg
 obtain⟨wb,K1,hD,⟨β,hT⟩,hB⟩:=hX
 exact⟨E,wb,K1,hD,⟨β,hT.retag hg (λh=>by rcases h with h|h<;>cases h) (λn _ h=>by rcases h with h|h<;>omega)⟩,hB.reshape hg rfl rfl rfl⟩
theorem D60 {nm:Nat} {st:St} {t:Nat} {path:List Nat} {e:TypeId} {ty:Ty} {E:Env} {sv:List (Nat×List VV)} {a:Act} {S:List (Array Value)} {w w0:World} {K:Keep} (hX:RelX E st sv a S w w0 K):
  ∃E',RelX E' (D36 nm st t path e ty) sv a S w w0 K:=by
 unfold D36
 split
 ·exact⟨E,hX⟩
 rename_i hnone
 split
 case h_2=>exact⟨E,hX⟩
 rename_i x hx
 obtain⟨wb,K1,hD,hT0,hB⟩:=id hX
 have h:=hB.rebase0
 have hT:=hB.now hT0
 have hD:=hD.trans hB.drift
 obtain⟨r1,t1⟩:=h.newTree0 hT hnone e ty 1
 have d1:Dr w K1 w (K1.plus0 nm):=⟨rfl,rfl,rfl,G53 _,λb hb=> ⟨hb,λ_=>rfl⟩,λb _ ho=>ho,λb _ hp=>hp,λ_ _ h=>h,λ_ _=>rfl⟩
 have hs:hsh (hset st.heap nm (.tree e ty [] 1)) nm=some (.row e ty 0):=by rw[F5,G45 rfl];rfl
 have k1:Step (E.at nm (0,0) False) (E.at nm (0,0) False) (hset st.heap nm (.tree e ty [] 1)) (hset st.heap nm (.tree e ty [] 1)) w w:=⟨λ_ _=>rfl,λ_ _=>Iff.rfl,λ_ h=>h,λ_ _=>rfl,λ_ _ h=>h,λn s hn=> .inl hn⟩
 split
 ·rename_i i hsp
  cases hb:A91 x.cs[i]? with
  |false=>exact D59 hX
  |true=>
   refine⟨E.at nm (0,0) False,w,K1.plus0 nm,hD.trans d1,t1, ?_⟩
   refine⟨?_,r1.df,r1.sv,r1.ob,r1.dj,r1.dk,r1.bd,r1.bo,r1.kp,r1.os,r1.tape,r1.out,r1.size,r1.oz,r1.rm,r1.ta⟩
   have ht:=r1.tm
   simp only at ht ⊢
   rw[Cz9]
   rw[D15]at hx
   clear hsp
   generalize a.tmps.toList=vs at ht
   generalize st.tmps=ts at ht hx
   induction ht generalizing t with
   |nil=>exact .nil
   |cons p q ih=>
    cases t with
    |zero=>
     simp at hx
     subst hx
     obtain⟨us,h1,h2⟩:=p
     exact .cons ⟨us,D58 hs hb h1,h2⟩ q
    |succ t=>exact .cons p (ih (by simpa using hx))
 ·rename_i o i hsp
  split
  case h_2=>exact⟨E,hX⟩
  rename_i cs hg
  cases hb:A91 cs[i]? with
  |false=>exact D59 hX
  |true=>
   have hon:o≠nm:=λe=>by rw[e,hnone]at hg;cases hg
   have hg1:B3 (hset st.heap nm (.tree e ty [] 1)) o=some (.box cs):=by rw[A9,G41 hon];exact hg
   refine⟨E.at nm (0,0) False,w,K1.plus0 nm,hD.trans d1,t1.set1 (n:=o) (ob:= .box (cs.set i (.row nm none none))) rfl (λob ho=>by rw[hg1]at ho;cases ho;rfl), ?_⟩
   exact r1.boxset hg1 λvs hv=>D58 hs hb hv
 ·exact⟨E,hX⟩
theorem Dh3:∀(l:List (Nat×List Nat×TypeId×Ty×Bool×Bool)) (nm:Nat) {st:St} {E:Env} {sv:List (Nat×List VV)} {a:Act} {S:List (Array Value)} {w w0:World} {K:Keep},RelX E st sv a S w w0 K→∃E',RelX E' (D13 nm l st) sv a S w w0 K
 | [],_,_,E,_,_,_,_,_,_,hr=> ⟨E,hr⟩
 |(t,p,e,ty,fz,cl)::r,nm,st,E,_,_,_,_,_,_,hr=>by
  simp only[D13]
  cases Nat.beq (p.headD 0) 999999 with
  |true=>
   obtain⟨E',hr'⟩:=D60 (nm:=nm) (t:=t) (path:=p.drop 1) (e:=e) (ty:=ty) hr
   exact Dh3 r (nm+1) hr'
  |false=>
   obtain⟨w1,K1,hD,hT,hB⟩:=hr
   obtain⟨E',hr'⟩:=El0 (nm:=nm) (t:=t) (path:=p) (e:=e) (ty:=ty) (fz:=fz) hB
   exact Dh3 r (nm+1) ⟨w1,K1,hD,F57 (Fq0 hT),Ey3 (cl:=cl) (t:=t) (path:=p) hr'⟩
theorem Es4 {E:Env} {h:D3} {w:World}:∀(q:List (List Nat)) {s:List (Nat×List VV)} {S:List (Array Value)},All2 (λp arr=>All2 (VRel E h w) p.2 arr.toList) s S→All2 (λp arr=>All2 (VRel E h w) p.2 arr.toList) (Gd4 q s) S
 | [],_,_,h=>by cases h<;>first|exact .nil|exact .cons ‹_› ‹_›
 |ks::r,_,_,h=>by
  cases h with
  |nil=>exact .nil
  |cons p q=>exact .cons (Dh1 ks 0 p) (Es4 r q)
theorem D61 {cfg:Cfg} {key:Nat} {m:Ms} {E:Env} {a:Act} {S:List (Array Value)} {w w0:World} {K:Keep} (hr:RelX E m.st m.saved a S w w0 K):RelX E (Gd5 cfg key m).st (Gd5 cfg key m).saved a S w w0 K:=by
 unfold Gd5
 split
 ·obtain⟨w1,K1,h1,h2,r⟩:=hr
  exact⟨w1,K1,h1,h2,r.tm,r.df,Es4 _ r.sv,r.ob,r.dj,r.dk,r.bd,r.bo,r.kp,r.os,r.tape,r.out,r.size,r.oz,r.rm,r.ta⟩
 ·exact hr
theorem Bo6 {cfg:Cfg} {key:Nat} {m m':Ms} (hn:D38 cfg key m=some m') {E:Env} {a:Act} {S:List (Array Value)} {w w0:World} {K:Keep} (hr:RelX E m.st m.saved a S w w0 K):
  ∃E',RelX E' m'.st m'.saved a S w w0 K:=by
 unfold D38 at hn
 split at hn
 ·simp only[Ap5]at hn
  obtain⟨E',hr'⟩:=Dh3 _ 70000000 (D61 (cfg:=cfg) (key:=key) hr)
  exact C14 hn hr'
 ·exact C14 hn (D61 hr)
end Go.Vm
end
section
namespace Go.Vm
open Go
def Gf8:Ex→Exit
 | .normal=> .normal
 | .exit j=> .exit j
 | .ret=> .ret
end Go.Vm
end
section
namespace Go.Vm
open Go
section
variable {P : Program} {cfg : Cfg}
def D62 (tmps:Array Value):ResultVar→Sem Value
 | .tmp t=>pure (tmps.getD t undef)
 | .cell a t=>do loadVar t (←asAddr (tmps.getD a undef))
theorem B60 (hG:Good P cfg) {E:Env} {st:St} {saved:List (Nat×List VV)} {a:Act} {S:List (Array Value)} {w w0:World} {K:Keep} (h:RelE E st saved a S w w0 K):
  ∀(rs:List ResultVar) (xs:List V1),Eq3 cfg st rs=some xs→∃Vs,(rs.mapM (D62 a.tmps)).run P w= .ok Vs w∧All2 (V1Rel E st.heap w) xs Vs
 | [],xs,hx=>by cases hx;exact⟨[],by simp, .nil⟩
 | .tmp t::rs,xs,hx=>by
  simp only[Eq3]at hx
  split at hx
  ·rename_i x ht
   split at hx
   ·rename_i ys hy
    cases hx
    obtain⟨Vs,h1,h2⟩:=B60 hG h rs ys hy
    have hv:=h.tmp t
    rw[ht]at hv
    refine⟨a.eval (.tmp t)::Vs, ?_, .cons hv h2⟩
    simp[List.mapM_cons,D62,h1,Act.eval]
   ·cases hx
  ·cases hx
 | .cell q T::rs,xs,hx=>by
  simp only[Eq3]at hx
  split at hx
  ·rename_i t n hT ht
   split at hx
   ·rename_i cs hg
    cases hb:Nat.ble t.sz cs.length with
    |false=>rw[hb]at hx;cases hx
    |true=>
     rw[hb]at hx
     simp only[G52]at hx
     split at hx
     ·rename_i ys hy
      cases hx
      obtain⟨Vs,h1,h2⟩:=B60 hG h rs ys hy
      have hv:=h.tmp q
      rw[ht]at hv
      obtain⟨m,hs,e⟩:=V1Rel.one hv
      obtain⟨hh,vs,hvs,hcell⟩:=h.ob n _ hg
      have hle:=G73 hb
      obtain⟨V,hV,hr⟩:=Ch8 (st:=st) (E:=E) (hG.tab T t hT).ld (cs:=cs.take t.sz) (vs:=vs.take t.sz) (g:=(E.ρ n).1) (p:=(E.ρ n).2) (by simp;omega) (hvs.take _) (λj v hj=>by
       rw[List.getElem?_take]at hj
       split at hj
       ·exact(hcell j v hj).1
       ·cases hj)
      refine⟨V::Vs, ?_, .cons hr h2⟩
      have e':a.tmps[q]?.getD undef= .pointer (some ⟨(E.ρ n).1,(E.ρ n).2,none⟩):=by
       have:=e
       simpa [Act.eval]using this
      simp only[Instr.loadAt,Instr.sureAddr,Sem.run_bind,Sem.run_pure,Result.andThen_ok]at hV
      simp[List.mapM_cons,D62,h1,e',asAddr,hV]
     ·cases hx
   ·cases hx
  ·cases hx
theorem Cm4 (hG:Good P cfg) {E:Env} {st:St} {saved:List (Nat×List VV)} {a:Act} {S:List (Array Value)} {w w0:World} {K:Keep} (h:RelE E st saved a S w w0 K) {fn:Func} {xs:List V1}
  (hx:D14 cfg fn st=some xs):∃V,(results fn a.tmps).run P w= .ok V w∧VRel E st.heap w (X8 xs) V:=by
 obtain⟨Vs,h1,h2⟩:=B60 hG h _ _ hx
 refine⟨Dl8 Vs, ?_,Bo1 h2⟩
 have e:(results fn a.tmps)=(do let vs←fn.results.mapM (D62 a.tmps);pure (if h:vs.size=1 then vs[0]else .tuple vs)):=by
  unfold results
  congr 2
 rw[e]
 have e2:(fn.results.mapM (D62 a.tmps)).run P w= .ok Vs.toArray w:=by
  rw[Array.mapM_eq_mapM_toList]
  simp[h1]
 simp only[Sem.run_bind,e2,Result.andThen_ok,Sem.run_pure]
 congr 1
 match Vs with
 | []=>rfl
 | [V]=>rfl
 |_::_::_=>simp[Dl8]
end
end Go.Vm
end
section
namespace Go.Vm
open Go
inductive Fr where
 | s (b : Code)
 | b (id : Nat)
 | l (key : Nat) (c : Code)
 | fn (f : Func)
 | op (A rest : List Oper) (i : Nat) (dst : Option Tmp)
inductive Job where
 | code (c : Code)
 | pop (e : Ex)
 | ops (A rest : List Oper) (i : Nat)
def enterM (f:FuncId) (fn:Func) (args:List V1) (m:Ms):Ms:=match m with
 |⟨⟨t,h⟩,b,n,s⟩=> ⟨⟨(args.map VV.v)++List.replicate (fn.ntmps-args.length) VV.un,h⟩,1000*(n+1)+100000000*f,n+1,(b,t)::s⟩
noncomputable section
section
variable {R : Type} (cfg : Cfg) (fin : VV → Ms → Option R)
def Go8:FuncId→List V1→(VV→Ms→Option R)→Ms→Option R:=λ_ _ _ _=>none
def G11 (lp:Bool→Nat→Code→List Fr→Ms→Option R):Nat→List Fr→Job→Ms→Option R
 |0,_,_,_=>none
 |F+1,fs, .code c,m=>frc m λm bs nx sv=> (match c with
  | .skip=>G11 lp F fs (.pop .normal) m
  | .region _ ops draw=> (match draw with
   |true=>I1 cfg true ops.toList Go8 (λm=>G11 lp F fs (.pop .normal) ⟨m.st,bs,nx,sv⟩) ops.toList 0 [] m
   |false=>G11 lp F fs (.ops ops.toList ops.toList 0) m)
  | .seq a b=>G11 lp F (.s b::fs) (.code a) m
  | .cond c x y=>Gm5 m.st c λs b=> (match b with
   |true=>G11 lp F fs (.code x) ⟨s,bs,nx,sv⟩
   |false=>G11 lp F fs (.code y) ⟨s,bs,nx,sv⟩)
  | .block id c=>G11 lp F (.b id::fs) (.code c) m
  | .loop c=> (match D38 cfg (bs+Dg1 c) m with
   |some m'=>lp true (bs+Dg1 c) c fs m'
   |none=>none)
  | .exit id=>G11 lp F fs (.pop (.exit id)) m
  | .ret=>G11 lp F fs (.pop .ret) m
  |_=>none)
 |F+1,fs, .pop e,m=>frc m λm bs nx sv=> (match fs with
  | []=>none
  | .s b::r=> (match e with
   | .normal=> (match look cfg.join (bs+Dg1 b)with
    |some key=> (match D38 cfg key m with
     |some m'=>lp false key b r m'
     |none=>none)
    |none=>G11 lp F r (.code b) m)
   |e=>G11 lp F r (.pop e) m)
  | .b id::r=> (match e with
   | .exit j=>bif Nat.beq j id then G11 lp F r (.pop .normal) m else G11 lp F r (.pop (.exit j)) m
   |e=>G11 lp F r (.pop e) m)
  | .l key c::r=> (match e with
   | .normal=> (match D38 cfg key m with
    |some m'=>lp true key c r m'
    |none=>none)
   |e=>G11 lp F r (.pop e) m)
  | .fn f::r=> (match e with
   | .exit _=>none
   |_=> (match D14 cfg f m.st,sv with
    |some rs,(b,ts)::s=> (match r with
     | []=>fin (X8 rs) ⟨⟨ts,m.st.heap⟩,b,nx,s⟩
     | .op A rest i dst::r'=>G11 lp F r' (.ops A rest i) ⟨s8 ⟨ts,m.st.heap⟩ dst (X8 rs),b,nx,s⟩
     |_=>none)
    |_,_=>none))
  | .op _ _ _ _::_=>none)
 |F+1,fs, .ops A rest i,m=>frc m λm bs nx sv=> (match rest with
  | []=>G11 lp F fs (.pop .normal) m
  |o::r=>
   let skip (m:Ms):Option R:=G11 lp F fs (.ops A r (i+1)) ⟨s8 m.st o.dst (.tup []),bs,nx,sv⟩
   let plain (m:Ms):Option R:=(Dg0 cfg bs o).run m.st (λu v _=>G11 lp F fs (.ops A r (i+1)) ⟨s8 (m.st.upds u) o.dst v,bs,nx,sv⟩) []
   let enter (f:FuncId) (vs:List V1) (m:Ms):Option R:=(match look cfg.inl f with
    |some fn=> (match fn.body with
     |some c=>G11 lp F (.fn fn:: .op A r (i+1) o.dst::fs) (.code c) (enterM f fn vs m)
     |none=>none)
    |none=>none)
   let act (m:Ms):Option R:=
    match o.op with
    | .call {callee:= .value (.func f),args, ..}=> (match look cfg.inl f with
     |none=>plain m
     |some _=> (W7 args.toList λvs=> .done [] (.tup vs)).run m.st (λ_ vs _=>match vs with
      | .tup vs=>enter f vs m
      |_=>none) [])
    | .call {callee:= .value (.tmp t),args, ..}=> (match V4 m.st.tmps t with
     | .v ⟨false,[.fn f caps]⟩=> (W7 args.toList λvs=> .done [] (.tup vs)).run m.st (λ_ vs _=>match vs with
      | .tup vs=>enter f (vs++caps.map λc=> ⟨false,[.ptr c 0]⟩) m
      |_=>none) []
     |_=>none)
    |_=>plain m
   match o.guard with
   |none=>act m
   |some (j,want)=>match F02 A j with
    |none=>none
    |some t=>match V4 m.st.tmps t with
     | .v ⟨false,[.bool b]⟩=> (match b with
      |true=>bif want then act ⟨D06 m.st t true,bs,nx,sv⟩else skip ⟨D06 m.st t true,bs,nx,sv⟩
      |false=>bif want then skip ⟨D06 m.st t false,bs,nx,sv⟩else act ⟨D06 m.st t false,bs,nx,sv⟩)
     | .tup []=>skip m
     |_=>none)
def lpN:Nat→Bool→Nat→Code→List Fr→Ms→Option R
 |0,_,_,_,_,_=>none
 |n+1,isL,key,c,fs,m=>G11 cfg fin (lpN n) 1000000 (bif isL then .l key c::fs else fs) (.code c) m
def Fc7 (k:Nat) (f:FuncId) (args:List V1) (m:Ms):Option R:=match look cfg.inl f with
 |some fn=> (match fn.body with
  |some c=>G11 cfg fin (lpN cfg fin k) 1000000 [.fn fn] (.code c) (enterM f fn args m)
  |none=>none)
 |none=>none
end
end
def before (n' F' n F:Nat):Prop:=n'<n∨(n'=n∧F'<F)
theorem before.trans {a b c d e f:Nat} (h:before a b c d) (k:before c d e f):before a b e f:=by
 unfold before at*;omega
theorem Fq1 {p:Nat→Nat→Prop} (h:∀n F,(∀n' F',before n' F' n F→p n' F')→p n F):∀n F,p n F:=by
 intro n
 induction n using Nat.strongRecOn with
 |_ n ihn=>
  intro F
  induction F using Nat.strongRecOn with
  |_ F ihF=>
   exact h n F λn' F' hb=>by
    rcases hb with hb|⟨rfl,hb⟩
    ·exact ihn n' hb F'
    ·exact ihF F' hb
theorem Fc8 {P:Program} {c:Code} {Q:Exit→Act→World→Prop}:∀{n m:Nat} {a:Act} {w:World},n≤m→Code.rounds P c Q n a w→Code.rounds P c Q m a w:=by
 intro n
 induction n with
 |zero=>intro m a w _ h;exact h.elim
 |succ n ih=>
  intro m a w hm h
  obtain⟨m,rfl⟩:∃k,m=k+1:=⟨m-1,by omega⟩
  rw[rounds_succ]at h ⊢
  exact wp_mono h λe a w q=>by
   cases e with
   |normal=>exact ih (by omega) q
   |_=>exact q
section
variable {P : Program} {cfg : Cfg} {R : Type} {r : R} {fin : VV → Ms → Option R} {w0 : World} {K : Keep}
theorem RelX.out {E:Env} {st:St} {saved:List (Nat×List VV)} {a:Act} {S:List (Array Value)} {w w0:World} {K:Keep} (h:RelX E st saved a S w w0 K):RelE E st saved a S w h.choose h.choose_spec.choose:=h.choose_spec.choose_spec.2.2
theorem RelX.df {E:Env} {st:St} {saved:List (Nat×List VV)} {a:Act} {S:List (Array Value)} {w w0:World} {K:Keep} (h:RelX E st saved a S w w0 K):a.defers=[]:=h.out.df
theorem RelX.sv {E:Env} {st:St} {saved:List (Nat×List VV)} {a:Act} {S:List (Array Value)} {w w0:World} {K:Keep} (h:RelX E st saved a S w w0 K):All2 (λ(p:Nat×List VV) (arr:Array Value)=>All2 (VRel E st.heap w) p.2 arr.toList) saved S:=h.out.sv
theorem RelX.frame {E:Env} {st:St} {saved:List (Nat×List VV)} {a:Act} {S:List (Array Value)} {w w0:World} {K:Keep} (h:RelX E st saved a S w w0 K) {ts:List VV} {saved2:List (Nat×List VV)} {a2:Act} {S2:List (Array Value)}
  (tm:All2 (VRel E st.heap w) ts a2.tmps.toList) (df:a2.defers=[]) (sv:All2 (λ(p:Nat×List VV) (arr:Array Value)=>All2 (VRel E st.heap w) p.2 arr.toList) saved2 S2):RelX E ⟨ts,st.heap⟩ saved2 a2 S2 w w0 K:=by
 obtain⟨w1,K1,h1,h2,h3⟩:=h
 exact⟨w1,K1,h1,h2,{h3 with tm:=tm,df:=df,sv:=sv}⟩
def Behind (cfg:Cfg) (fin:VV→Ms→Option R) (w0:World) (K:Keep) (r:R) (n F:Nat) (fs:List Fr) (S:List (Array Value)) (Q:Exit→Act→World→Prop):Prop:=
 ∀n' F' e m' a' w' E',before n' F' n F→G11 cfg fin (lpN cfg fin n') F' fs (.pop e) m'=some r→RelX E' m'.st m'.saved a' S w' w0 K→Q (Gf8 e) a' w'
theorem Behind.mono {n F n' F':Nat} {fs:List Fr} {S:List (Array Value)} {Q:Exit→Act→World→Prop} (h:Behind cfg fin w0 K r n F fs S Q) (hb:before n' F' n F):Behind cfg fin w0 K r n' F' fs S Q:=
 λn'' F'' e m' a' w' E' hb' h1 h2=>h n'' F'' e m' a' w' E' (hb'.trans hb) h1 h2
def Gm7 (P:Program) (cfg:Cfg) (fin:VV→Ms→Option R) (w0:World) (K:Keep) (r:R) (n F:Nat):Prop:=
 ∀(c:Code) (fs:List Fr) (m:Ms) (S:List (Array Value)) (E:Env) (a:Act) (w:World) (Q:Exit→Act→World→Prop),G11 cfg fin (lpN cfg fin n) F fs (.code c) m=some r→RelX E m.st m.saved a S w w0 K→Behind cfg fin w0 K r n F fs S Q→c.wp P Q a w
def Gy5 (P:Program) (cfg:Cfg) (fin:VV→Ms→Option R) (w0:World) (K:Keep) (r:R) (n F:Nat):Prop:=
 ∀(A:Array Oper) (rest:List Oper) (i:Nat) (fs:List Fr) (m:Ms) (S:List (Array Value)) (E:Env) (a:Act) (w:World) (Q:Exit→Act→World→Prop),A.toList.drop i=rest→G11 cfg fin (lpN cfg fin n) F fs (.ops A.toList rest i) m=some r→
  RelX E m.st m.saved a S w w0 K→Behind cfg fin w0 K r n F fs S Q→wpOps P A Q (List.range' i rest.length) a w
theorem Fc9 {n0 F0:Nat} (ih:∀n' F',before n' F' n0 F0→Gm7 P cfg fin w0 K r n' F') {c:Code} {key:Nat} {fs:List Fr} {S:List (Array Value)} {Q:Exit→Act→World→Prop} (hQ:Behind cfg fin w0 K r n0 F0 fs S Q):
  ∀(n:Nat) (m:Ms) {E:Env} {a:Act} {w:World},n≤n0→lpN cfg fin n true key c fs m=some r→RelX E m.st m.saved a S w w0 K→Code.rounds P c Q n a w:=by
 intro n
 induction n using Nat.strongRecOn with
 |_ n ihn=>
  intro m E a w hn h hr
  cases n with
  |zero=>cases h
  |succ n=>
   rw[rounds_succ]
   have hlt:∀F,before n F n0 F0:=λF=> .inl (by omega)
   refine ih n 1000000 (hlt _) c (.l key c::fs) m S E a w _ h hr λn' F' e m' a' w' E' hb h1 hr'=> ?_
   cases F' with
   |zero=>cases h1
   |succ F'=>
    cases e with
    |normal=>
     simp only[G11,Ap5]at h1
     split at h1
     ·rename_i m'' hm
      obtain⟨E'',hr''⟩:=Bo6 hm hr'
      have hle:n'≤n:=by unfold before at hb;omega
      exact Fc8 hle (ihn n' (by omega) m'' (by omega) h1 hr'')
     ·cases h1
    |exit j=>exact hQ n' F' (.exit j) m' a' w' E' ((show before n' F' n 1000000 by unfold before at*;omega).trans (hlt _)) h1 hr'
    |ret=>exact hQ n' F' .ret m' a' w' E' ((show before n' F' n 1000000 by unfold before at*;omega).trans (hlt _)) h1 hr'
theorem Gf9 (hG:Ok P cfg) (hm:P.follows .mixedOrders=true) (hfn:∀f fn,look cfg.inl f=some fn→P.funcs[f]? =some fn):∀n F,Gm7 P cfg fin w0 K r n F∧Gy5 P cfg fin w0 K r n F:=by
 refine Fq1 λn F ih=> ⟨?_, ?_⟩
 ·intro c fs m S E a w Q h hr hQ
  cases F with
  |zero=>cases h
  |succ F=>
   have hF:before n F n (F+1):= .inr ⟨rfl,Hc7 F⟩
   have ihc:=(ih n F hF).1
   cases c with
   |skip=>exact wp_skip (hQ n F .normal m a w E hF h hr)
   |region id ops draw=>
    simp only[G11,Ap5]at h
    cases draw with
    |true=>exact Gf7 hG hm ops id m h hr λm' a' w' E' hx hs hr'=>hQ n F .normal ⟨m'.st,m.base,m.next,m.saved⟩ a' w' E' hF hx (hs▸hr')
    |false=>
     refine wp_region ?_
     rw[List.range_eq_range',←G68]
     exact(ih n F hF).2 ops ops.toList 0 fs m S E a w Q rfl h hr (hQ.mono hF)
   |seq x y=>
    simp only[G11,Ap5]at h
    refine wp_seq (ihc x (.s y::fs) m S E a w _ h hr λn' F' e m' a' w' E' hb h1 hr'=> ?_)
    cases F' with
    |zero=>cases h1
    |succ F'=>
     have hb':before n' F' n (F+1):=by unfold before at*;omega
     cases e with
     |normal=>
      simp only[G11,Ap5]at h1
      split at h1
      ·split at h1
       ·rename_i m'' hm''
        obtain⟨E'',hr''⟩:=Bo6 hm'' hr'
        cases n' with
        |zero=>cases h1
        |succ n'=>
         have hb2:before n' 1000000 n (F+1):=by unfold before at*;omega
         exact(ih n' 1000000 hb2).1 y fs m'' S E'' a' w' Q h1 hr'' (hQ.mono hb2)
       ·cases h1
      ·exact(ih n' F' hb').1 y fs m' S E' a' w' Q h1 hr' (hQ.mono hb')
     |exit j=>exact hQ n' F' (.exit j) m' a' w' E' hb' h1 hr'
     |ret=>exact hQ n' F' .ret m' a' w' E' hb' h1 hr'
   |cond g x y=>
    simp only[G11,Ap5]at h
    unfold Gm5 at h
    split at h
    ·rename_i t
     split at h
     ·rename_i b ht
      have hv:=hr.tmp t
      rw[ht]at hv
      have hb:a.eval (.tmp t)= .bool b:=V1Rel.one hv
      refine wp_cond hb ?_
      cases b<;>simp only[Ci2 ht]at h
      ·exact ihc y fs m S E a w Q h hr (hQ.mono hF)
      ·exact ihc x fs m S E a w Q h hr (hQ.mono hF)
     ·cases h
    ·rename_i b
     refine wp_cond (t:=b) rfl ?_
     cases b
     ·exact ihc y fs m S E a w Q h hr (hQ.mono hF)
     ·exact ihc x fs m S E a w Q h hr (hQ.mono hF)
    ·cases h
   |block id c=>
    simp only[G11,Ap5]at h
    refine wp_block (ihc c (.b id::fs) m S E a w _ h hr λn' F' e m' a' w' E' hb h1 hr'=> ?_)
    cases F' with
    |zero=>cases h1
    |succ F'=>
     have hb':before n' F' n (F+1):=by unfold before at*;omega
     cases e with
     |normal=>exact hQ n' F' .normal m' a' w' E' hb' h1 hr'
     |exit j=>
      simp only[G11,Ap5]at h1
      simp only[Gf8,Exit.inBlock]
      cases hbq:Nat.beq j id with
      |true=>
       rw[hbq]at h1
       rw[G45 (G35 hbq)]
       exact hQ n' F' .normal m' a' w' E' hb' h1 hr'
      |false=>
       rw[hbq]at h1
       rw[G41 (λe=>by rw[e,G98]at hbq;cases hbq)]
       exact hQ n' F' (.exit j) m' a' w' E' hb' h1 hr'
     |ret=>exact hQ n' F' .ret m' a' w' E' hb' h1 hr'
   |loop c=>
    simp only[G11,Ap5]at h
    split at h
    ·rename_i m' hm'
     obtain⟨E',hr'⟩:=Bo6 hm' hr
     exact wp_loop_rounds n (Fc9 (n0:=n) (F0:=F+1) (λn' F' hb=> (ih n' F' hb).1) hQ n m' (G53 n) h hr')
    ·cases h
   |exit id=>exact wp_exit (hQ n F (.exit id) m a w E hF h hr)
   |ret=>exact wp_ret (hQ n F .ret m a w E hF h hr)
   |_=>simp[G11,Ap5]at h
 ·intro A rest i fs m S E a w Q hA h hr hQ
  cases F with
  |zero=>cases h
  |succ F=>
   have hF:before n F n (F+1):= .inr ⟨rfl,Hc7 F⟩
   cases rest with
   |nil=>exact hQ n F .normal m a w E hF h hr
   |cons o rest=>
    have hi:A[i]? =some o:=by
     rw[←Hc2]
     have:=congrArg (·[0]?) hA
     simpa using this
    have hA':A.toList.drop (i+1)=rest:=by
     have:=congrArg List.tail hA
     simpa using this
    have go:∀{n' F':Nat} {m':Ms} {a':Act} {w':World} {E':Env},before n' F' n (F+1)→G11 cfg fin (lpN cfg fin n') F' fs (.ops A.toList rest (i+1)) m'=some r→RelX E' m'.st m'.saved a' S w' w0 K→wpOps P A Q (List.range' (i+1) rest.length) a' w':=
     λhb h1 h2=> (ih _ _ hb).2 A rest (i+1) fs _ S _ _ _ Q hA' h1 h2 (hQ.mono hb)
    have skip:Region.wanted o (yielded A a.tmps)=false→G11 cfg fin (lpN cfg fin n) F fs (.ops A.toList rest (i+1)) {m with st:=s8 m.st o.dst (.tup [])}=some r→
      wpOps P A Q (List.range' i (o::rest).length) a w:=by
     intro hw h1
     simp only[G82,List.range'_succ,wpOps,hi,hw,Bool.false_eq_true,if_false]
     exact go hF h1 (hr.put o.dst (show VRel E m.st.heap w (.tup []) undef from⟨[], .nil,rfl⟩))
    have plain:Region.wanted o (yielded A a.tmps)=true→(Dg0 cfg m.base o).run m.st (λu v _=>G11 cfg fin (lpN cfg fin n) F fs (.ops A.toList rest (i+1)) {m with st:=s8 (m.st.upds u) o.dst v}) []=some r→
      wpOps P A Q (List.range' i (o::rest).length) a w:=by
     intro hw h1
     simp only[G82,List.range'_succ,wpOps,hi,hw,if_true]
     obtain⟨u,v,l',h2,hs⟩:=Go6 hG hr h1
     exact .inl (hs Q _ λa' w' E' h3=>go hF h2 h3)
    have inl:∀{c:Call} {g:Operand} {f:FuncId} {cap:Array Value} {caps:List Nat},Region.wanted o (yielded A a.tmps)=true→o.op= .call c→c.callee= .value g→a.eval g= .func (.func f) #[] cap→
      All2 (PtrRel E m.st.heap) caps cap.toList→(W7 c.args.toList λvs=> .done [] (.tup vs)).run m.st (λ_ vs _=>match vs with
        | .tup vs=> (match look cfg.inl f with
         |some fn=> (match fn.body with
          |some c=>G11 cfg fin (lpN cfg fin n) F (.fn fn:: .op A.toList rest (i+1) o.dst::fs) (.code c) (enterM f fn (vs++caps.map λc=> ⟨false,[.ptr c 0]⟩) m)
          |none=>none)
         |none=>none)
        |_=>none) []=some r→wpOps P A Q (List.range' i (o::rest).length) a w:=by
     intro c g f cap caps hw ho hc hg hcap h1
     simp only[G82,List.range'_succ,wpOps,hi,hw,if_true]
     obtain⟨vs,l1,h2,h3⟩:=T1 _ _ _ h1
     simp only[RP.run]at h2
     split at h2
     ·rename_i fn hin
      split at h2
      ·rename_i cb hcb
       have hex:=Bj4 (P:=P) (w:=w) (ρ:=a.eval) ho hc hg (hG.enter f (.inr (by rw[hin];rfl)))
       refine .inl ?_
       unfold Oper.wp
       rw[hex,Oper.upon_enter]
       have hargs:All2 (V1Rel E m.st.heap w) (vs++caps.map λc=> (⟨false,[.ptr c 0]⟩:V1)) (c.args.toList.map a.eval++cap.toList):=(h3 hr.out).append (F06 hcap)
       have harr:(c.args.toList.map a.eval++cap.toList).toArray=c.args.map a.eval++cap:=by apply G65.1;simp
       have:=calls_of_wp (P:=P) (f:=f) (fn:=fn) (c:=cb) (args:=(c.args.toList.map a.eval++cap.toList).toArray) (w:=w) (R:=fun
        | .returned v,w''=>wpOps P A Q (List.range' (i+1) rest.length) (a.put o.dst v) w''
        | .panicked chain,w''=>Q (.panic chain) a w''
        | .outgrown,_=>LetsOut Q) (hfn f fn hin) hcb ?_
       ·rwa [harr]at this
       ·refine(ih n F hF).1 cb _ _ (a.tmps::S) E _ w _ h2 ?_ λn' F' e m' a' w' E' hb h4 hr'=> ?_
        ·refine hr.frame (tm:= ?_) (df:=rfl) (sv:= .cons hr.tm hr.sv)
         have hl:=hargs.length
         generalize hvs:(vs++caps.map λc=> (⟨false,[.ptr c 0]⟩:V1))=us at hargs hl
         generalize har:c.args.toList.map a.eval++cap.toList=args at hargs hl
         have e1:(args.toArray++Array.replicate (fn.ntmps-args.toArray.size) undef).toList=args++List.replicate (fn.ntmps-us.length) undef:=by simp[hl]
         show All2 _ (us.map VV.v++List.replicate (fn.ntmps-us.length) VV.un) _
         rw[e1]
         refine All2.append ?_ (All2.replicate _ _ trivial _)
         clear hl e1 hvs har
         induction hargs with
         |nil=>exact .nil
         |cons p _ ih=>exact .cons p ih
        ·cases F' with
         |zero=>cases h4
         |succ F'=>
          have hb':before n' F' n (F+1):=by unfold before at*;omega
          have fin':(match D14 cfg fn m'.st,m'.saved with
           |some rs,(b,ts)::s=>G11 cfg fin (lpN cfg fin n') F' fs (.ops A.toList rest (i+1)) {m' with st:=s8 ⟨ts,m'.st.heap⟩ o.dst (X8 rs),base:=b,saved:=s}
           |_,_=>none)=some r→a'.defers=[]∧∃v,(results fn a'.tmps).run P w'= .ok v w'∧wpOps P A Q (List.range' (i+1) rest.length) (a.put o.dst v) w':=by
           intro h1
           split at h1
           ·rename_i rs b ts s hrs hsv
            obtain⟨V,hV,hrel⟩:=Cm4 hG.toGood hr'.out hrs
            refine⟨hr'.df,V,hV, ?_⟩
            have hsv':=hr'.sv
            rw[hsv]at hsv'
            cases hsv' with
            |cons p q=>
             have hr2:RelX E' ⟨ts,m'.st.heap⟩ s a S w' w0 K:=hr'.frame (tm:=p) (df:=hr.df) (sv:=q)
             exact go hb' h1 (hr2.put o.dst hrel)
           ·cases h1
          cases e with
          |normal=>exact fin' h4
          |ret=>exact fin' h4
          |exit j=>cases h4
      ·cases h2
     ·cases h2
    have act:Region.wanted o (yielded A a.tmps)=true→(match o.op with
     | .call {callee:= .value (.func f),args, ..}=> (match look cfg.inl f with
      |none=> (Dg0 cfg m.base o).run m.st (λu v _=>G11 cfg fin (lpN cfg fin n) F fs (.ops A.toList rest (i+1)) {m with st:=s8 (m.st.upds u) o.dst v}) []
      |some _=> (W7 args.toList λvs=> .done [] (.tup vs)).run m.st (λ_ vs _=>match vs with
       | .tup vs=> (match look cfg.inl f with
         |some fn=> (match fn.body with
          |some c=>G11 cfg fin (lpN cfg fin n) F (.fn fn:: .op A.toList rest (i+1) o.dst::fs) (.code c) (enterM f fn vs m)
          |none=>none)
         |none=>none)
       |_=>none) [])
     | .call {callee:= .value (.tmp t),args, ..}=> (match V4 m.st.tmps t with
      | .v ⟨false,[.fn f caps]⟩=> (W7 args.toList λvs=> .done [] (.tup vs)).run m.st (λ_ vs _=>match vs with
       | .tup vs=> (match look cfg.inl f with
         |some fn=> (match fn.body with
          |some c=>G11 cfg fin (lpN cfg fin n) F (.fn fn:: .op A.toList rest (i+1) o.dst::fs) (.code c) (enterM f fn (vs++caps.map λc=> ⟨false,[.ptr c 0]⟩) m)
          |none=>none)
         |none=>none)
       |_=>none) []
      |_=>none)
     |_=> (Dg0 cfg m.base o).run m.st (λu v _=>G11 cfg fin (lpN cfg fin n) F fs (.ops A.toList rest (i+1)) {m with st:=s8 (m.st.upds u) o.dst v}) [])=some r→wpOps P A Q (List.range' i (o::rest).length) a w:=by
     intro hw h1
     split at h1
     ·rename_i f args at_ ho
      split at h1
      ·exact plain hw h1
      ·refine inl (c:={callee:= .value (.func f),args,argTypes:=at_}) (g:= .func f) (f:=f) (cap:= #[]) (caps:=[]) hw ho rfl rfl .nil ?_
       simpa using h1
     ·rename_i t args at_ ho
      split at h1
      ·rename_i f caps ht
       have hv:=hr.tmp t
       rw[ht]at hv
       obtain⟨cap,e,hcap⟩:=V1Rel.one hv
       exact inl (c:={callee:= .value (.tmp t),args,argTypes:=at_}) (g:= .tmp t) hw ho rfl e hcap h1
      ·cases h1
     ·exact plain hw h1
    unfold G11 at h
    simp only[Ap5]at h
    cases hgd:o.guard with
    |none=>
     rw[hgd]at h
     exact act (by simp[Region.wanted,hgd]) h
    |some gw=>
     obtain⟨j,want⟩:=gw
     rw[hgd]at h
     simp only[D51]at h
     cases hd:(A[j]?).bind (·.dst)with
     |none=>rw[hd]at h;cases h
     |some t=>
      rw[hd]at h
      simp only at h
      split at h
      ·rename_i b ht
       have hb:=D50 hr ht
       have hwant:Region.wanted o (yielded A a.tmps)=(b==want):=by
        simp[Region.wanted,hgd,yielded,hd,hb]
       cases b<;>cases want<;>simp only[G52,G72,Ci2 ht]at h
       ·exact act (by rw[hwant];rfl) h
       ·exact skip (by rw[hwant];rfl) h
       ·exact skip (by rw[hwant];rfl) h
       ·exact act (by rw[hwant];rfl) h
      ·rename_i ht
       have hb:=Dg8 hr ht
       exact skip (by simp[Region.wanted,hgd,yielded,hd,hb]) h
      ·cases h
theorem F08 (hG:Ok P cfg) (hm:P.follows .mixedOrders=true) (hfn:∀f fn,look cfg.inl f=some fn→P.funcs[f]? =some fn) {k:Nat} {f:FuncId} {vs:List V1} {m:Ms} (h:Fc7 cfg fin k f vs m=some r):
  ∀{E:Env} {a:Act} {S:List (Array Value)} {w w0:World} {Kp:Keep} {args:List Value},RelX E m.st m.saved a S w w0 Kp→All2 (V1Rel E m.st.heap w) vs args→
  ∀(Q:Ending→World→Prop),(∀v V m' w' E',fin v m'=some r→RelX E' m'.st m'.saved a S w' w0 Kp→VRel E' m'.st.heap w' v V→Q (.returned V) w')→Calls P f args.toArray w Q:=by
 intro E a S w w0 Kp args hr hargs Q hk
 unfold Fc7 at h
 split at h
 ·rename_i fn hf
  split at h
  ·rename_i c hc
   refine calls_of_wp (hfn f fn hf) hc ?_
   refine(Gf9 (w0:=w0) (K:=Kp) hG hm hfn k 1000000).1 c _ _ (a.tmps::S) E _ w _ h ?_ λn' F' e m' a' w' E' hb h4 hr'=> ?_
   ·refine hr.frame (tm:= ?_) (df:=rfl) (sv:= .cons hr.tm hr.sv)
    have hl:=hargs.length
    have h1:(args.toArray++Array.replicate (fn.ntmps-args.toArray.size) undef).toList=args++List.replicate (fn.ntmps-vs.length) undef:=by simp[hl]
    show All2 _ (vs.map VV.v++List.replicate (fn.ntmps-vs.length) VV.un) _
    rw[h1]
    refine All2.append ?_ (All2.replicate _ _ trivial _)
    clear h1 hl h
    induction hargs with
    |nil=>exact .nil
    |cons p _ ih=>exact .cons p ih
   ·cases F' with
    |zero=>cases h4
    |succ F'=>
     have fin':(match D14 cfg fn m'.st,m'.saved with
      |some rs,(b,ts)::s=>fin (X8 rs) {m' with st:=⟨ts,m'.st.heap⟩,base:=b,saved:=s}
      |_,_=>none)=some r→a'.defers=[]∧∃v,(results fn a'.tmps).run P w'= .ok v w'∧Q (.returned v) w':=by
      intro h1
      split at h1
      ·rename_i rs b ts s hrs hsv
       obtain⟨V,hV,hrel⟩:=Cm4 hG.toGood hr'.out hrs
       refine⟨hr'.df,V,hV, ?_⟩
       have hsv':=hr'.sv
       rw[hsv]at hsv'
       cases hsv' with
       |cons p q=>exact hk _ V _ w' E' h1 (hr'.frame (tm:=p) (df:=hr.df) (sv:=q)) hrel
      ·cases h1
     cases e with
     |normal=>exact fin' h4
     |ret=>exact fin' h4
     |exit j=>cases h4
  ·cases h
 ·cases h
end
end Go.Vm
end
section
namespace Go.Vm
open Go
def Gl4 (t:Ty) (x:El t):V1:=⟨t.agg,B1 t x⟩
def ms0:Ms:={st:=⟨[],[]⟩,base:=0,next:=0,saved:=[]}
section
variable {P : Program} {cfg : Cfg} {E : Env} {st : St} {saved : List (Nat × List VV)} {a : Act} {S : List (Array Value)} {w w' w0 : World} {K : Keep} {β : Nat → Nat → Nat → Option (Nat × Nat)}
def Fq2 (E:Env) (h:D3) (K:Keep) (β:Nat→Nat→Nat→Option (Nat×Nat)) (n:Nat) (l:List Nat):Prop:=
 l.Nodup∧((E.has n∧C6 h n∧l=[(E.ρ n).1])∨((∃e t xs q,B3 h n=some (.tree e t xs q))∧K.th n∧∀b∈l,Blk K β n b))
def OwnB (E:Env) (h:D3) (K:Keep) (β:Nat→Nat→Nat→Option (Nat×Nat)) (ns bs:List Nat):Prop:=
 ∃ps:List (Nat×List Nat),List.Sublist (ps.map Prod.fst) ns∧bs=ps.flatMap Prod.snd∧∀p∈ps,Fq2 E h K β p.1 p.2
theorem OwnB.append {h:D3} {ns ns2 bs bs2:List Nat} (p:OwnB E h K β ns bs) (q:OwnB E h K β ns2 bs2):OwnB E h K β (ns++ns2) (bs++bs2):=by
 obtain⟨m,h1,rfl,h2⟩:=p
 obtain⟨m2,h3,rfl,h4⟩:=q
 exact⟨m++m2,by rw[G64];exact h1.append h3,by simp,λn hn=>by
  rcases G34.1 hn with hn|hn
  ·exact h2 n hn
  ·exact h4 n hn⟩
theorem OwnB.nil {h:D3}:OwnB E h K β [] []:=⟨[],List.Sublist.refl _,rfl,λn hn=>by cases hn⟩
theorem OwnB.skip {h:D3} {ns:List Nat}:OwnB E h K β ns []:=⟨[],List.nil_sublist _,rfl,λn hn=>by cases hn⟩
theorem OwnB.one {h:D3} {n:Nat} {l:List Nat} (p:Fq2 E h K β n l):OwnB E h K β [n] l:=⟨[(n,l)],List.Sublist.refl _,by simp,λq hq=>by
 rw[G48.1 hq];exact p⟩
theorem Es5 (h:RelE E st saved a S w w K) (hT:TFB st.heap w K β) {n n':Nat} {l l':List Nat} (hne:n≠n') (p:Fq2 E st.heap K β n l) (q:Fq2 E st.heap K β n' l'):∀b∈l,b∉l':=by
 have mine:∀m,(∃e t xs q,B3 st.heap m=some (.tree e t xs q))→K.th m→∀b,Blk K β m b→K.k b:=λm ⟨e,t,xs,q,hg⟩ hth b hb=> (((hT.tr m _ _ _ _ hg).2 hth).2 b hb).1
 intro b hb hb'
 rcases p.2 with⟨p1,p2,p3⟩|⟨p1,p2,p3⟩<;>rcases q.2 with⟨q1,q2,q3⟩|⟨q1,q2,q3⟩
 ·rw[p3]at hb;rw[q3]at hb'
  exact h.dj n n' hne p2 q2 p1 q1 ((G48.1 hb).symm.trans (G48.1 hb'))
 ·rw[p3]at hb
  have e:=G48.1 hb
  exact(h.dk n p2 p1).2 (e▸mine n' q1 q2 b (q3 b hb'))
 ·rw[q3]at hb'
  have e:=G48.1 hb'
  exact(h.dk n' q2 q1).2 (e▸mine n p1 p2 b (p3 b hb))
 ·obtain⟨e1,t1,x1,f1,g1⟩:=p1
  obtain⟨e2,t2,x2,f2,g2⟩:=q1
  exact hT.ap n n' _ _ hne g1 g2 trivial trivial p2 q2 b (p3 b hb) (q3 b hb')
theorem Dh4 (h:RelE E st saved a S w w K) (hT:TFB st.heap w K β):∀(ps:List (Nat×List Nat)),(ps.map Prod.fst).Nodup→(∀p∈ps,Fq2 E st.heap K β p.1 p.2)→(ps.flatMap Prod.snd).Nodup
 | [],_,_=>List.nodup_nil
 |p::ps,hd,ho=>by
  simp only[G95,Hb0]at hd
  simp only[G44]
  refine Ha5.2 ⟨(ho p G39).1,Dh4 h hT ps hd.2 λq hq=>ho q (G38 _ hq),λb hb b' hb' e=> ?_⟩
  obtain⟨q,hq,hbq⟩:=Hb3.1 hb'
  exact Es5 h hT (λe=>hd.1 (by rw[e];exact G79.2 ⟨q,hq,rfl⟩)) (ho p G39) (ho q (G38 _ hq)) b hb (e▸hbq)
theorem Ey4 {K0:Keep} (h:RelE E st saved a S w w K) (hT:TFB st.heap w K β) (hD:Dr w0 K0 w K) {n:Nat} {l:List Nat} (p:Fq2 E st.heap K β n l):∀b∈l,b<w.heap.size∧¬E.ok b∧(K0.k b→K0.p b):=by
 intro b hb
 rcases p.2 with⟨p1,p2,p3⟩|⟨⟨e,t,xs,q,hg⟩,p2,p3⟩
 ·rw[p3]at hb
  rw[G48.1 hb]
  exact⟨h.bd n (J4 p2) p1,(h.dk n p2 p1).1,λhk=>absurd (hD.k _ hk).1 (h.dk n p2 p1).2⟩
 ·have hm:=((hT.tr n _ _ _ _ hg).2 p2).2 b (p3 b hb)
  exact⟨(h.kp b hm.1).1,λhk=>hm.2.1 (h.oz b hk hm.1),λhk=>hD.p b hk hm.2.2⟩
theorem D63:∀l:List Nat,∃m:List Nat,m.Nodup∧∀b,b∈m↔b∈l
 | []=> ⟨[],List.nodup_nil,λb=>Iff.rfl⟩
 |x::l=>by
  obtain⟨m,h1,h2⟩:=D63 l
  by_cases e:x∈m
  ·refine⟨m,h1,λb=> ⟨λhb=>G38 _ ((h2 b).1 hb),λhb=> ?_⟩⟩
   cases hb with
   |head=>exact e
   |tail _ hb=>exact(h2 b).2 hb
  ·refine⟨x::m,Hb0.2 ⟨e,h1⟩,λb=> ?_⟩
   rw[G67,G67,h2 b]
theorem A45:∀{l:List Nat},E8 l=true→l.Nodup
 | [],_=>List.nodup_nil
 |n::l,h=>by
  obtain⟨h1,h2⟩:=N2 h
  exact Hb0.2 ⟨h1,A45 h2⟩
def F09 (w:World) (ok:Nat→Prop):Keep:={k:=λb=>b<w.heap.size,o:=ok}
theorem TF.empty {w:World} {K:Keep}:TF [] w K:=TF.none λn o h=>by cases h
theorem F58 {ok:Nat→Prop} (hok:∀b,ok b→b<w.heap.size) (hE:D44 w):RelX (Fp5 ok) ms0.st ms0.saved ⟨#[],[]⟩ [] w w (F09 w ok):=
 ⟨w,F09 w ok,⟨Dr.refl _ _,λg hg=> ⟨⟨(hE g hg).lt,id⟩,hE g hg⟩⟩,TF.empty,⟨.nil,rfl, .nil,(λn o h=>by cases h),(λn n' hne hl hl' hh hh'=>False.elim hl),(λn hl hh=>False.elim hl),(λn h=>by cases h),hok,(λb hb=> ⟨hb,rfl⟩),rfl,rfl,rfl,G53 _,(λb hb _=>hb),(λ_ _ h=>h),(λn o h=>by cases h)⟩⟩
theorem Gl5 {ok:Nat→Prop} {t:Ty} {x:El t} {v:Value} (h:Be3 ok w t x v):V1Rel (Fp5 ok) ms0.st.heap w (Gl4 t x) v:=by
 obtain⟨cs,hi,hV⟩:=h
 exact⟨cs,P2 (E:=Fp5 ok) hi,hV⟩
end
end Go.Vm
end
section
namespace Go.Vm
open Go
def Wf:(t:Ty)→El t→Prop
 | .int k,n=>k.min≤n∧n≤k.max
 | .bool,_=>True
 | .str,s=>s.size≤maxLen
 | .slice _ t,xs=>xs.length≤maxLen∧∀x∈xs,Wf t x
 | .nil,_=>True
 | .fld a r,x=>Wf a x.1∧Wf r x.2
def DRG {H:Type}:(t:Ty)→Bool→El t→List (DataW H)→Prop
 | .int k,_,n,ds=>ds=[.lit (.int k n)]
 | .bool,_,b,ds=>ds=[.lit (.bool b)]
 | .str,_,s,ds=>ds=[.lit (.string s.data.toList)]
 | .slice _ t,_,xs,ds=> (ds=[.nil]∧xs=[])∨∃es sp,ds=[.slice es sp]∧All2 (λx e=>DRG t false x [e]) xs es
 | .nil,false,_,ds=>ds=[.agg []]
 | .nil,true,_,ds=>ds=[]
 | .fld a r,false,x,ds=> ∃d ps,ds=[.agg (d::ps)]∧DRG a false x.1 [d]∧DRG r true x.2 ps
 | .fld a r,true,x,ds=> ∃d ps,ds=d::ps∧DRG a false x.1 [d]∧DRG r true x.2 ps
theorem Es6 {α β:Type} {f:α→Option β}:∀{l:List α} {r:List β},l.mapM f=some r→All2 (λa b=>f a=some b) l r
 | [],r,h=>by simp at h;subst h;exact .nil
 |a::l,r,h=>by
  simp only[List.mapM_cons,Option.bind_eq_bind,Option.pure_def,Option.bind_eq_some_iff]at h
  obtain⟨b,h1,bs,h2,h3⟩:=h
  cases h3
  exact .cons h1 (Es6 h2)
theorem TyOk.cells {P:Program} {t:Ty} {T:TypeId} (h:TyOk P t T):P.cellsOf T=t.sz:=by
 obtain⟨i,hi,hs,_⟩:=h.base.info
 simp[Program.cellsOf,hi,hs]
def Ty.pos:Ty→Bool
 | .slice _ t=>Nat.ble 1 t.sz&&t.pos
 | .fld a r=>a.pos&&r.pos
 |_=>true
theorem Fq3 {β:Type} {f:Nat→Option β} {n:Nat} {r:List β} (h:(List.range n).mapM f=some r):r.length=n∧∀i (hi:i<r.length),f i=some r[i]:=by
 have h2:=Es6 h
 have hl:r.length=n:=by rw[←h2.length,List.length_range]
 refine⟨hl,λi hi=> ?_⟩
 obtain⟨b,hb,hf⟩:=h2.get i i (List.getElem?_range (by omega))
 rw[G36 hi]at hb
 cases hb
 exact hf
theorem Fq4 {w:World} {a:Addr} {n:Nat} {cs:List Value} (h:w.cells? 0 a n=some cs):cs.length=n∧∀i (hi:i<cs.length),w.cell? (a.add i)=some cs[i]:=by
 simp only[World.cells?,G49,if_true]at h
 exact Fq3 h
theorem El1 {w:World} {a:Addr} {v:Value} (h:w.cell? a=some v):∃g off,a=⟨g,off,none⟩∧g<w.heap.size:=by
 obtain⟨g,off,sp⟩:=a
 have hl:g<w.heap.size:=by
  rcases G96 g w.heap.size with hl|hl
  ·exact hl
  ·simp only[World.cell?,Hb9 hl]at h;cases h
 cases sp with
 |none=>exact⟨g,off,rfl,hl⟩
 |some s=>
  simp only[World.cell?]at h
  split at h
  ·simp at h
  ·cases h
theorem Dm2 {α β:Type} {r:α→β→Prop}:∀{l:List α} {m:List β},l.length=m.length→(∀(i:Nat) (a:α) (b:β),l[i]? =some a→m[i]? =some b→r a b)→All2 r l m
 | [],[],_,_=> .nil
 | [],_::_,h,_=>by simp at h
 |_::_,[],h,_=>by simp at h
 |a::l,b::m,h,k=> .cons (k 0 a b rfl rfl) (Dm2 (by simpa using h) λi a b h1 h2=>k (i+1) a b (by simpa using h1) (by simpa using h2))
theorem Dm3 {α:Type} {r:Nat→α→Prop}:∀(n:Nat),(∀i,i<n→∃a,r i a)→∃l:List α,l.length=n∧∀i (h:i<l.length),r i l[i]
 |0,_=> ⟨[],rfl,λi h=>by simp at h⟩
 |n+1,h=>by
  obtain⟨l,hl,hr⟩:=Dm3 n (λi hi=>h i (Nat.lt_succ_of_lt hi))
  obtain⟨a,ha⟩:=h n (Hc7 n)
  refine⟨l++ [a],by simp[hl],λi hi=> ?_⟩
  by_cases hlt:i<l.length
  ·rw[Hc5 hlt];exact hr i hlt
  ·have:i=n:=by simp at hi;omega
   subst this
   rw[Ha9 (by omega)]
   simpa using ha
section
variable {H : Type} {enc : TypeId × Value → H} {P : Program} {w : World} {sp : Nat → Bool} {held : Bool}
def C15 (w:World) (b:Nat):Prop:=b<w.heap.size
def Gg1 (t:Ty):Prop:=
  (∀(T:TypeId) (n:Nat) (cs:List Value) (y:DataW H×List MemPlace),TyOk P t T→DataW.trod enc P w 0 sp held n T cs=some y→∃x:El t,Imm (C15 w) w t x cs∧Wf t x∧DRG t false x [y.1])∧
  (∀(off n:Nat) (fs:List Field) (cs:List Value) (ys:List (DataW H×List MemPlace)),A93 P t true off fs→off+t.sz=cs.length→ys.length=fs.length→
   (∀(i:Nat) (f:Field),fs[i]? =some f→DataW.trod enc P w 0 sp held n f.type ((cs.drop f.offset).take (P.cellsOf f.type))=ys[i]?)→∃x:El t,Imm (C15 w) w t x (cs.drop off)∧Wf t x∧DRG t true x (ys.map (·.1)))
theorem C16 {a r:Ty} (iha:Gg1 (enc:=enc) (P:=P) (w:=w) (sp:=sp) (held:=held) a) (ihr:Gg1 (enc:=enc) (P:=P) (w:=w) (sp:=sp) (held:=held) r) {off n:Nat} {f:Field} {fs':List Field} {cs:List Value} {ys:List (DataW H×List MemPlace)}
  (ho:f.offset=off) (ha:TyOk P a f.type) (hr:A93 P r true (off+a.sz) fs') (hl:off+(a.sz+r.sz)=cs.length) (hy:ys.length=fs'.length+1)
  (hi:∀(i:Nat) (g:Field),(f::fs')[i]? =some g→DataW.trod enc P w 0 sp held n g.type ((cs.drop g.offset).take (P.cellsOf g.type))=ys[i]?):
  ∃x:El (.fld a r),Imm (C15 w) w (.fld a r) x (cs.drop off)∧Wf (.fld a r) x∧∃y ys',ys=y::ys'∧DRG a false x.1 [y.1]∧DRG r true x.2 (ys'.map (·.1)):=by
 cases ys with
 |nil=>simp at hy
 |cons y ys'=>
  have h0:=hi 0 f rfl
  simp only[Ha2]at h0
  obtain⟨x,h1,h2,h3⟩:=iha.1 _ _ _ _ ha h0
  obtain⟨z,h4,h5,h6⟩:=ihr.2 (off+a.sz) n fs' cs ys' hr (by omega) (by simpa using hy) (λi g hg=>by simpa using hi (i+1) g (by simpa using hg))
  rw[ho,ha.cells]at h1
  refine⟨(x,z),⟨_,_, ?_,h1,h4⟩,⟨h2,h5⟩,y,ys',rfl,h3,h6⟩
  rw[←List.drop_drop,List.take_append_drop]
theorem Fq5:∀(t:Ty),t.pos=true→Gg1 (enc:=enc) (P:=P) (w:=w) (sp:=sp) (held:=held) t:=by
 intro t
 induction t with
 |int k=>
  intro _
  refine⟨λT n cs y hok h=> ?_,λoff n fs cs ys hok=>hok.elim⟩
  obtain⟨m,rfl,rfl,hw⟩:=DataW.trod_int hok.2 h
  simp only[Lit.wf,G37,G81]at hw
  exact⟨m,rfl,hw,rfl⟩
 |bool=>
  intro _
  refine⟨λT n cs y hok h=> ?_,λoff n fs cs ys hok=>hok.elim⟩
  obtain⟨b,rfl,rfl⟩:=DataW.trod_bool hok.2 h
  exact⟨b,rfl,trivial,rfl⟩
 |str=>
  intro _
  refine⟨λT n cs y hok h=> ?_,λoff n fs cs ys hok=>hok.elim⟩
  obtain⟨s,rfl,rfl,hs⟩:=DataW.trod_string hok.2 h
  exact⟨s,rfl,hs,rfl⟩
 |nil=>
  intro _
  refine⟨λT n cs y hok h=> ?_,λoff n fs cs ys hok hl hy hi=> ?_⟩
  ·obtain⟨xs,m,_,rfl,hl,hx,_⟩:=DataW.trod_struct hok.2 h
   rw[hok.cells]at hl
   refine⟨(),G58.1 hl,trivial, ?_⟩
   have:xs=[]:=G58.1 (by simpa using hx)
   subst this
   rfl
  ·have hfs:fs=[]:=hok
   subst hfs
   have:ys=[]:=G58.1 (by simpa using hy)
   subst this
   refine⟨(), ?_,trivial,rfl⟩
   show cs.drop off=[]
   rw[List.drop_eq_nil_iff]
   simp only[Ty.sz]at hl
   omega
 |fld a r iha ihr=>
  intro hp
  simp only[Ty.pos,G37]at hp
  refine⟨λT n cs y hok h=> ?_,λoff n fs cs ys hok hl hy hi=> ?_⟩
  ·have hc:=hok.cells
   obtain⟨hb,fs,f,fs',hu,hfs,hof,_,ha,hr⟩:=hok
   obtain⟨xs,m,rfl,rfl,hl,hx,hi⟩:=DataW.trod_struct hu h
   have hx':xs.length=fs'.length+1:=by rw[hx,←G68,hfs];rfl
   obtain⟨x,h1,h2,z,zs,rfl,h4,h5⟩:=C16 (off:=0) (fs':=fs') (cs:=cs) (ys:=xs) (iha hp.1) (ihr hp.2) hof ha (by rw[G78];exact hr) (by rw[hl,hc];simp[Ty.sz]) hx' (λi g hg=>by
    refine hi i g ?_
    rw[←hfs]at hg
    simpa using hg)
   exact⟨x,by simpa using h1,h2,_,_,rfl,h4,h5⟩
  ·obtain⟨f,fs',rfl,hof,_,ha,hr⟩:=hok
   obtain⟨x,h1,h2,z,zs,rfl,h4,h5⟩:=C16 (iha hp.1) (ihr hp.2) hof ha hr hl (by simpa using hy) hi
   exact⟨x,h1,h2,_,_,rfl,h4,h5⟩
 |slice e t ih=>
  intro hp
  simp only[Ty.pos,G37]at hp
  have hsz:=G73 hp.1
  refine⟨λT n cs y hok h=> ?_,λoff n fs cs ys hok=>hok.elim⟩
  rcases DataW.trod_slice hok.2.1 h with⟨rfl,rfl⟩|⟨A,len,cap,elems,rest,m,rfl,rfl,rfl,_,hlc,hcm,hel,B3,_⟩
  ·exact⟨[],⟨none,0,rfl,G53 _,λh=>absurd rfl h⟩,⟨G49 _,λx hx=>by cases hx⟩, .inl ⟨rfl,rfl⟩⟩
  ·have hce:P.cellsOf e=t.sz:=TyOk.cells hok.2.2
   rw[hce]at B3
   have each:∀i,i<len→∃x:El t,(∃ds,Imm (C15 w) w t x ds∧∀j,j<t.sz→w.cell? ((A.add (i*t.sz)).add j)=ds[j]?)∧Wf t x∧∃z,elems[i]? =some z∧DRG t false x [z.1]:=by
    intro i hi
    have hg:=B3 i hi
    have hie:i<elems.length:=by omega
    rw[G36 hie]at hg
    simp only[Option.bind_eq_some_iff]at hg
    obtain⟨ds,h1,h2⟩:=hg
    obtain⟨h3,h4⟩:=Fq4 h1
    obtain⟨x,h5,h6,h7⟩:=(ih hp.2).1 _ _ _ _ hok.2.2 h2
    exact⟨x,⟨ds,h5,λj hj=>by rw[G36 (by omega)];exact h4 j (by omega)⟩,h6,_,G36 hie,h7⟩
   obtain⟨xs,hxl,hxs⟩:=Dm3 len each
   refine⟨xs,⟨some A,cap,by rw[hxl],by omega,λhne=> ?_⟩,⟨by omega,λx hx=> ?_⟩, .inr ⟨_,_,rfl, ?_⟩⟩
   ·have h0:0<xs.length:=by
     cases xs with
     |nil=>exact absurd rfl hne
     |cons _ _=>simp
    obtain⟨⟨ds,hd,hj⟩,_⟩:=hxs 0 h0
    have hz:=hj 0 hsz
    rw[G36 (by rw[hd.len];omega)]at hz
    have e0:(A.add (0*t.sz)).add 0=A:=by simp[Addr.add]
    rw[e0]at hz
    obtain⟨g,off,rfl,hg⟩:=El1 hz
    refine⟨g,off,rfl,hg,λi hi=> ?_⟩
    obtain⟨⟨ds,hd,hj⟩,_⟩:=hxs i hi
    exact⟨ds,hd,λj hlt=>by rw[←hj j hlt,H5,H5]⟩
   ·obtain⟨i,hi,rfl⟩:=G63 hx
    exact(hxs i hi).2.1
   ·refine Dm2 (by simp;omega) λi x d h1 h2=> ?_
    have hi:i<xs.length:=(List.getElem?_eq_some_iff.1 h1).1
    obtain⟨_,_,z,hz,hd⟩:=hxs i hi
    rw[List.getElem?_map,hz]at h2
    rw[G36 hi]at h1
    cases h1;cases h2
    exact hd
end
end Go.Vm
end
section
namespace Go.Vm
open Go
section
variable {H : Type} {enc : TypeId × Value → H} {P : Program} {W W' : World}
theorem Gl6 (h:∀b,b<W.heap.size→W'.heap[b]? =W.heap[b]?) {p:MemPlace} (hp:p.block<W.heap.size):W.sameAt W' p:=by
 cases p with
 |cell b off=>exact I3 (a:=⟨b,off,none⟩) (h b hp)
 |map b=>exact h b hp
theorem Cm5 (hl:laidOutB P=true) (hs:∀b,b<W.heap.size→W'.heap[b]? =W.heap[b]?) {sp':Nat→Bool}:∀{ts:List TypeId} {vs:List Value} {ds:List (DataW H)} {ps:List MemPlace},(∀t∈ts,P.readableRec t=true∧t<P.types.size)→
  DataW.TrodAll enc P W 0 (λ_=>true) true ts vs ds ps→(∀p∈ps,p.block<W.heap.size)→(∀p∈ps,sp' p.block=true)→DataW.TrodAll enc P W' 0 sp' true ts vs ds ps
 | [],[],[],ps,_,h,_,_=>h
 |t::ts,v::vs,d::ds,ps,ht,h,hb,hsp=>by
  obtain⟨p,q,h1,h2,rfl⟩:=h
  exact⟨p,q,Go.WideElems.Trod_stays hl (ht t G39).1 (ht t G39).2 h1 (λx hx=>Gl6 hs (hb x (G34.2 (.inl hx)))) (λx hx=>hsp x (G34.2 (.inl hx))),
   Cm5 hl hs (λt h=>ht t (G38 _ h)) h2 (λx hx=>hb x (G34.2 (.inr hx))) (λx hx=>hsp x (G34.2 (.inr hx))),rfl⟩
 | [],[],_::_,_,_,h,_,_=>h.elim
 | [],_::_,_,_,_,h,_,_=>h.elim
 |_::_,[],_,_,_,h,_,_=>h.elim
 |_::_,_::_,[],_,_,h,_,_=>h.elim
theorem F59 (ho:W'.os=W.os) (hu:W'.output=W.output) (hs:∀b,b<W.heap.size→W'.heap[b]? =W.heap[b]?) (may:MemPlace→Prop):W.keptBut W' may:=by
 refine⟨ho,hu,λi hi=> ?_⟩
 have:=(World.keptBut_refl W may).2.2 i hi
 rw[hs i hi]
 exact this
theorem Gg2 {f:Func} {s:ChangeSpec} {O7 handsOn again:Bool} {T:TypeId} {args:Array Value} {ds gs:List (DataW H)} {before:List MemPlace} {v:Value}
  (hl:laidOutB P=true) (hp:∀t∈f.params.toList,P.readableRec t=true∧t<P.types.size) (hv:s.vars=[]) (hr:f.resultTypes= #[T]) (hT:P.underlying T=some .bool)
  (hsp:s.fn H (ds++gs)={results:=[.lit (.bool true)],args:=ds})
  (hW:DataW.Whole enc P f.params.toList s.vars false W args.toList ds gs before) (ho:W'.os=W.os) (hu:W'.output=W.output) (hs:∀b,b<W.heap.size→W'.heap[b]? =W.heap[b]?) (hval:v= .bool true):
  s.post enc P f false O7 handsOn again W args v W':=by
 subst hval
 have hlt:=hW.lt
 have hW':=hW
 obtain⟨p,q,hA,hV,rfl,hfz,hnd⟩:=hW
 rw[hv]at hV
 have hq:q=[]:=by
  cases gs with
  |nil=>exact hV
  |cons _ _=>exact hV.elim
 subst hq
 have hg:gs=[]:=by
  cases gs with
  |nil=>rfl
  |cons _ _=>exact hV.elim
 subst hg
 simp only[G59]at*
 have hres:∀(w:World) (b:Nat) (sp:Nat→Bool) (h:Bool),DataW.TrodAll enc P w b sp h f.resultTypes.toList ((Value.bool true).resultList f.resultTypes.size) [.lit (.bool true)] []:=by
  intro w b sp h
  rw[hr]
  exact⟨[],[],⟨1,by simp[DataW.trod,Value.cells,hT]⟩,rfl,rfl⟩
 have harg:∀sp':Nat→Bool,(∀x∈p,sp' x.block=true)→DataW.TrodAll enc P W' 0 sp' true f.params.toList args.toList ds p:=λsp' h=>Cm5 hl hs hp hA hlt h
 refine⟨ds,[],p,[],p,[],hW', ?_, ?_, ?_,F59 ho hu hs _,λ_=> ⟨?_, ?_⟩⟩
 ·rw[G59,hsp];exact hres _ _ _ _
 ·rw[G59,hsp];exact harg _ (λx hx=>by simpa using hlt x hx)
 ·rw[G59,hsp,hv];rfl
 ·intro j t r h1 h2
  rw[hr]at h1 h2
  match j,h1,h2 with
  |0,h1,h2=>
   cases h1
   have:r= .bool true:=by simpa [Value.resultList]using h2.symm
   subst this
   exact Go.RowKit.okWide_bool_mk hT true
  |j+1,h1,_=>simp at h1
 ·refine⟨.lit (.bool true)::ds,[],p,⟨p,[], ?_,by rw[hv];rfl,by simp, ?_,by simp⟩,λx hx _=>hx⟩
  ·have h1:=hres W' 0 (λ_=>true) true
   rw[hr]at h1 ⊢
   obtain⟨a1,a2,h2,h3,h4⟩:=h1
   obtain⟨rfl,rfl⟩:=List.append_eq_nil_iff.1 h4.symm
   exact⟨[],p,h2,harg _ (λ_ _=>rfl),by simp⟩
  ·intro b off hx
   rw[Az0 (w:=W) (a:=⟨b,off,none⟩) (hs b (hlt _ hx))]
   exact hfz b off hx
end
end Go.Vm
end
section
namespace Go.Vm
open Go
@[reducible] def Args : List Ty → Type
 | [] => Unit
 | t :: ts => El t × Args ts
def Es7:(ts:List Ty)→Args ts→List V1
 | [],_=> []
 |t::ts,x=>Gl4 t x.1::Es7 ts x.2
def Ey5:(ts:List Ty)→Args ts→Prop
 | [],_=>True
 |t::ts,x=>Wf t x.1∧Ey5 ts x.2
def Fq6 {H:Type}:(ts:List Ty)→Args ts→List (DataW H)→Prop
 | [],_,ds=>ds=[]
 |t::ts,x,ds=> ∃d ds',ds=d::ds'∧DRG t false x.1 [d]∧Fq6 ts x.2 ds'
def F10 (P:Program):List Ty→List TypeId→Prop
 | [],[]=>True
 |t::ts,T::Ts=>TyOk P t T∧t.pos=true∧F10 P ts Ts
 |_,_=>False
section
variable {H : Type} {enc : TypeId × Value → H} {P : Program} {W W' : World} {base : Nat}
theorem Gl7 {t:Ty} {T:TypeId} {x:El t} {v:Value} (hok:TyOk P t T) (hw:Value.okWide P W .any base T v) (h:Imm (C15 W) W t x v.cells.toList):Be3 (C15 W) W t x v:=by
 refine⟨v.cells.toList,h, ?_⟩
 cases t with
 |nil=>
  unfold Value.okWide at hw
  rw[hok.2]at hw
  obtain⟨cs,rfl,_⟩:=hw
  exact .inl ⟨rfl,by simp[Value.cells]⟩
 |fld a r=>
  obtain⟨_,fs,f,fs',hu,_⟩:=hok
  unfold Value.okWide at hw
  rw[hu]at hw
  obtain⟨cs,rfl,_⟩:=hw
  exact .inl ⟨rfl,by simp[Value.cells]⟩
 |int k=>
  refine .inr ⟨rfl, ?_⟩
  unfold Value.okWide at hw
  rw[hok.2]at hw
  cases v<;>first|rfl|(simp[Cell.okWide,Cell.ok,hok.2]at hw)
 |bool=>
  refine .inr ⟨rfl, ?_⟩
  unfold Value.okWide at hw
  rw[hok.2]at hw
  cases v<;>first|rfl|(simp[Cell.okWide,Cell.ok,hok.2]at hw)
 |str=>
  refine .inr ⟨rfl, ?_⟩
  unfold Value.okWide at hw
  rw[hok.2]at hw
  cases v<;>first|rfl|(simp[Cell.okWide,Cell.ok,hok.2]at hw)
 |slice e t=>
  refine .inr ⟨rfl, ?_⟩
  unfold Value.okWide at hw
  rw[hok.2.1]at hw
  cases v<;>first|rfl|(simp[Cell.okWide,Cell.ok,hok.2.1]at hw)
end
end Go.Vm
end
section
namespace Go.Vm
open Go
def zEq:Value→Value→Bool
 | .int k n, .int k' n'=>decide (k=k')&&decide (n=n')
 | .bool a, .bool b=>a==b
 | .string s, .string s'=>decide (s.data.toList=s'.data.toList)
 | .slice none 0 0, .slice none 0 0=>true
 |_,_=>false
theorem F60 {a b:Value} (h:zEq a b=true):a=b:=by
 unfold zEq at h
 split at h
 ·simp only[G37,G81]at h
  rw[h.1,h.2]
 ·rw[eq_of_beq h]
 ·rename_i s s'
  have h:=G62 h
  cases s;cases s'
  congr 2
  exact G65.1 h
 ·rfl
 ·cases h
def Gg3:List Value→List Value→Bool
 | [],[]=>true
 |a::r,b::s=>zEq a b&&Gg3 r s
 |_,_=>false
theorem Ct2:∀{l m:List Value},Gg3 l m=true→l=m
 | [],[],_=>rfl
 |a::l,b::m,h=>by
  simp only[Gg3,G37]at h
  rw[F60 h.1,Ct2 h.2]
 | [],_::_,h=>by cases h
 |_::_,[],h=>by cases h
def Dm4 (P:Program) (t:Ty) (T:TypeId):Bool:=
 match P.info? T with
 |some i=>Nat.beq i.size t.sz&&Nat.ble i.bytes 256&&(match i.zero with
  |some z=> (match t.agg with
   |true=> (match z with| .agg cs=>Gg3 cs.toList (F1 t)|_=>false)
   |false=>Gg3 [z] (F1 t))
  |none=>false)
 |none=>false
theorem Ah3 {P:Program} {t:Ty} {T:TypeId} (h:Dm4 P t T=true):TyBase P t T:=by
 unfold Dm4 at h
 split at h
 ·rename_i i hi
  simp only[G37]at h
  refine⟨⟨i,hi,G35 h.1.1, ?_,G73 h.1.2⟩⟩
  have h2:=h.2
  split at h2
  ·rename_i z hz
   rw[hz]
   split at h2
   ·rename_i hag
    split at h2
    ·rename_i cs
     rw[G45 hag,←Ct2 h2]
    ·cases h2
   ·rename_i hag
    rw[G41 (by rw[hag];simp),←Ct2 h2]
    rfl
  ·cases h2
 ·cases h
def tyB (P:Program):Ty→Bool→Nat→List Field→Bool
 | .int k,false,T,_=>Dm4 P (.int k) T&&(match P.underlying T with|some (.int k')=>decide (k'=k)|_=>false)
 | .bool,false,T,_=>Dm4 P .bool T&&(match P.underlying T with|some .bool=>true|_=>false)
 | .str,false,T,_=>Dm4 P .str T&&(match P.underlying T with|some .string=>true|_=>false)
 | .slice e t,false,T,_=>Dm4 P (.slice e t) T&&(match P.underlying T with|some (.slice e')=>Nat.beq e' e|_=>false)&&tyB P t false e []
 | .nil,false,T,_=>Dm4 P .nil T&&(match P.underlying T with|some (.struct fs)=>fs.toList.isEmpty|_=>false)
 | .nil,true,_,fs=>fs.isEmpty
 | .fld a r,false,T,_=>Dm4 P (.fld a r) T&&(match P.underlying T with
  |some (.struct fs)=> (match fs.toList with
   | f :: fs' => Nat.beq f.offset 0 && !(f.name == "_") && tyB P a false f.type [] && tyB P r true a.sz fs'
   | []=>false)
  |_=>false)
 | .fld a r,true,off,fs=> (match fs with
  | f :: fs' => Nat.beq f.offset off && !(f.name == "_") && tyB P a false f.type [] && tyB P r true (off + a.sz) fs'
  | []=>false)
 |_,true,_,_=>false
theorem C7 {P:Program}:∀(t:Ty) (b:Bool) (T:Nat) (fs:List Field),tyB P t b T fs=true→A93 P t b T fs
 | .int k,false,T,fs,h=>by
  simp only[tyB,G37]at h
  refine⟨Ah3 h.1, ?_⟩
  have h2:=h.2
  split at h2
  ·rename_i k' hu
   rw[hu,G62 h2]
  ·cases h2
 | .bool,false,T,fs,h=>by
  simp only[tyB,G37]at h
  refine⟨Ah3 h.1, ?_⟩
  have h2:=h.2
  split at h2
  ·rename_i hu;exact hu
  ·cases h2
 | .str,false,T,fs,h=>by
  simp only[tyB,G37]at h
  refine⟨Ah3 h.1, ?_⟩
  have h2:=h.2
  split at h2
  ·rename_i hu;exact hu
  ·cases h2
 | .slice e t,false,T,fs,h=>by
  simp only[tyB,G37]at h
  refine⟨Ah3 h.1.1, ?_,C7 t false e [] h.2⟩
  have h2:=h.1.2
  split at h2
  ·rename_i e' hu
   rw[hu,G35 h2]
  ·cases h2
 | .nil,false,T,fs,h=>by
  simp only[tyB,G37]at h
  refine⟨Ah3 h.1, ?_⟩
  have h2:=h.2
  split at h2
  ·rename_i fs' hu
   have:fs'= #[]:=by
    rw[←Array.toList_eq_nil_iff]
    exact List.isEmpty_iff.1 h2
   rw[hu,this]
  ·cases h2
 | .nil,true,T,fs,h=>List.isEmpty_iff.1 h
 | .fld a r,false,T,fs,h=>by
  simp only[tyB,G37]at h
  refine⟨Ah3 h.1, ?_⟩
  have h2:=h.2
  split at h2
  ·rename_i fs0 hu
   split at h2
   ·rename_i f fs' hfs
    simp only[G37,Ha3]at h2
    exact⟨fs0,f,fs',hu,hfs,G35 h2.1.1.1,by simpa using h2.1.1.2,C7 a false f.type [] h2.1.2,C7 r true a.sz fs' h2.2⟩
   ·cases h2
  ·cases h2
 | .fld a r,true,off,fs,h=>by
  simp only[tyB]at h
  split at h
  ·rename_i f fs'
   simp only[G37,Ha3]at h
   exact⟨f,fs',rfl,G35 h.1.1.1,by simpa using h.1.1.2,C7 a false f.type [] h.1.2,C7 r true (off+a.sz) fs' h.2⟩
  ·cases h
 | .int _,true,_,_,h=>by cases h
 | .bool,true,_,_,h=>by cases h
 | .str,true,_,_,h=>by cases h
 | .slice _ _,true,_,_,h=>by cases h
end Go.Vm
end
section
namespace Go.Vm
open Go
def bo (f:Func):Code:=match f.body with|some c=>c|none=> .skip
def cd:List Nat→Code→Code
 | [],c=>c
 |0::r, .seq a _=>cd r a
 |_::r, .seq _ b=>cd r b
 |0::r, .cond _ a _=>cd r a
 |_::r, .cond _ _ b=>cd r b
 |_::r, .block _ c=>cd r c
 |_::r, .loop c=>cd r c
 |_,_=> .skip
def rg:Code→List Oper
 | .region _ ops _=>ops.toList
 |_=> []
def C4:Nat→Nat→List (Nat×VV)→List VV
 |0,_,_=> []
 |n+1,i,[]=>VV.un::C4 n (i+1) []
 |n+1,i,(j,v)::r=>bif Nat.beq i j then v::C4 n (i+1) r else VV.un::C4 n (i+1) ((j,v)::r)
@[reducible] def ResT : List Ty → Type
 | [] => Unit
 | [t] => El t
 | t :: u :: r => El t × ResT (u :: r)
inductive Md where
 | s
 | o
 | t
def Gt1 (m:Md) (e:TypeId) (t:Ty) (xs:List (El t)):RC:=match m with
 | .s=> .c (.slc e t xs)
 | .o=> .own e t xs
 | .t=> .tree e t xs
def Gg4 (h:D3) (m:Md) (e:TypeId) (t:Ty) (c:Cell):Option (List (El t)×List Nat):=
 match c with
 | .nilS=>some ([],[])
 | .slc e' t' xs=> (match m with
  | .s=>bif Nat.beq e e' then(match E6 t' t xs with|some ys=>some (ys,[])|none=>none)else none
  |_=>none)
 | .row o lo hi=> (match B3 h o with
  |some (.row e' t' xs ow)=>bif Nat.beq e e' then(match E6 t' t xs with
   |some ys=> (match m with
    | .o=> (match ow with|true=>some (cut lo hi ys,[o])|false=>none)
    | .s=> (match ow with|true=>none|false=>some (cut lo hi ys,[]))
    | .t=>none)
   |none=>none)else none
  |some (.tree e' t' xs _)=> (match m,lo,hi with
   | .t,none,none=>bif Nat.beq e e' then(match E6 t' t xs with|some ys=>some (ys,[o])|none=>none)else none
   |_,_,_=>none)
  |_=>none)
 |_=>none
def Ap2 (h:D3):(t:Ty)→List Md→List Cell→Option (El t×List Md×List Cell×List Nat)
 | .nil,md,cs=>some ((),md,cs,[])
 | .fld a r,md,cs=>match Ap2 h a md cs with
  |some (x,md,cs,ns)=> (match Ap2 h r md cs with
   |some (y,md,cs,ms)=>some ((x,y),md,cs,ns++ms)
   |none=>none)
  |none=>none
 | .int k,md, .int j n::cs=>bif decide (k=j)then some (n,md,cs,[])else none
 | .bool,md, .bool b::cs=>some (b,md,cs,[])
 | .str,md, .str s::cs=>some (s,md,cs,[])
 | .slice e t,own::md,c::cs=>match Gg4 h own e t c with
  |some (xs,ns)=>some (xs,md,cs,ns)
  |none=>none
 |_,_,_=>none
def F12 (h:D3) (t:Ty) (md:List Md) (x:V1):Option (El t×List Md×List Nat):=
 bif (bif x.agg then t.agg else !t.agg)then(match Ap2 h t md x.cs with
  |some (y,md,[],ns)=>some (y,md,ns)
  |_=>none)else none
def Be5 (h:D3):(ts:List Ty)→List Md→List V1→Option (ResT ts×List Nat)
 | [],_,[]=>some ((),[])
 | [t],md,[x]=>match F12 h t md x with
  |some (y,_,ns)=>some (y,ns)
  |none=>none
 |t::u::r,md,x::xs=>match F12 h t md x with
  |some (y,md,ns)=> (match Be5 h (u::r) md xs with
   |some (ys,ms)=>some ((y,ys),ns++ms)
   |none=>none)
  |none=>none
 |_,_,_=>none
def Gg5 (ts:List Ty) (md:List Md) (v:VV) (m:Ms):Option (ResT ts):=
 match(match v with
  | .v x=>Be5 m.st.heap ts md [x]
  | .tup [_]=>none
  | .tup xs=>Be5 m.st.heap ts md xs
  | .un=>none)with
 |some p=>bif E8 p.2 then some p.1 else none
 |none=>none
def shR (h:D3):(t:Ty)→List Md→List Cell→List Nat×List Md×List Cell
 | .nil,md,cs=> ([],md,cs)
 | .fld a r,md,cs=>
  let p:=shR h a md cs
  let q:=shR h r p.2.1 p.2.2
  (p.1++q.1,q.2.1,q.2.2)
 | .slice _ _,own::md,c::cs=> ((match own,c with
  | .s, .row o _ _=> (match B3 h o with
   |some (.row _ _ _ true)=> [o]
   |_=> [])
  |_,_=> []),md,cs)
 |_,md,_::cs=> ([],md,cs)
 |_,md,[]=> ([],md,[])
def Go9 (h:D3):List Ty→List Md→List V1→List Nat
 |t::ts,md,x::xs=>let p:=shR h t md x.cs;p.1++Go9 h ts p.2.1 xs
 |_,_,_=> []
def shV (h:D3) (ts:List Ty) (md:List Md):VV→List Nat
 | .v x=>Go9 h ts md [x]
 | .tup xs=>Go9 h ts md xs
 | .un=> []
def Fq7:List Nat→D3→D3
 | [],h=>h
 |n::r,h=>Fq7 r (match B3 h n with
  |some (.row e t xs true)=>hset h n (.row e t xs false)
  |_=>h)
def Fd0 (ns:List Nat) (m:Ms):Ms:={m with st:=⟨m.st.tmps,Fq7 ns m.st.heap⟩}
def Az3 (ts:List Ty) (md:List Md) (v:VV) (m:Ms):Option (ResT ts):=Gg5 ts md v (Fd0 (shV m.st.heap ts md v) m)
def D64:(t:Ty)→List Md→El t→List RC×List Md
 | .nil,md,_=> ([],md)
 | .fld a r,md,x=>let p:=D64 a md x.1;let q:=D64 r p.2 x.2;(p.1++q.1,q.2)
 | .int k,md,n=> ([.c (.int k n)],md)
 | .bool,md,b=> ([.c (.bool b)],md)
 | .str,md,s=> ([.c (.str s)],md)
 | .slice e t,own::md,xs=> ([Gt1 own e t xs],md)
 | .slice e t,[],xs=> ([.c (.slc e t xs)],[])
def Cl4:(ts:List Ty)→List Md→ResT ts→List (Bool×List RC)
 | [],_,_=> []
 | [t],md,x=> [(t.agg,(D64 t md x).1)]
 |t::u::r,md,x=> (t.agg,(D64 t md x.1).1)::Cl4 (u::r) (D64 t md x.1).2 x.2
section
variable {P : Program} {cfg : Cfg} {E : Env} {st : St} {saved : List (Nat × List VV)} {a : Act} {S : List (Array Value)} {w w' w0 : World} {K : Keep} {β : Nat → Nat → Nat → Option (Nat × Nat)}
theorem Dm5 (h:RelE E st saved a S w w K) (hT:TFB st.heap w K β) {m:Md} {e:TypeId} {t:Ty} {c:Cell} {xs:List (El t)} {ns:List Nat} (ho:Gg4 st.heap m e t c=some (xs,ns)) {v:Value} (hc:CellRel E st.heap w c v):
  ∃bs,RcRel E.ok w (Gt1 m e t xs) v bs∧OwnB E st.heap K β ns bs:=by
 unfold Gg4 at ho
 cases c with
 |nilS=>
  cases ho
  have hv:v= .slice none 0 0:=hc
  subst hv
  cases m with
  |o=>exact⟨[],⟨none,0,rfl,G53 _, .inl ⟨rfl,rfl⟩⟩,OwnB.nil⟩
  |t=>exact⟨[],⟨none,0,rfl,G53 _, .inl ⟨rfl,rfl⟩⟩,OwnB.nil⟩
  |s=>exact⟨[],⟨rfl,none,0,rfl,G53 _,λh=>absurd rfl h⟩,OwnB.nil⟩
 |slc e' t' ys=>
  cases m with
  |o=>cases ho
  |t=>cases ho
  |s=>
   simp only at ho
   cases hb:Nat.beq e e' with
   |false=>rw[hb]at ho;cases ho
   |true=>
    rw[hb]at ho
    simp only[G52]at ho
    split at ho
    ·rename_i zs hz
     cases ho
     obtain⟨rfl,rfl⟩:=D4 hz
     exact⟨[],⟨rfl,hc⟩,OwnB.nil⟩
    ·cases ho
 |row o lo hi=>
  simp only at ho
  cases hg:B3 st.heap o with
  |none=>rw[hg]at ho;cases ho
  |some b=>
   rw[hg]at ho
   cases b with
   |row e' t' ys ow=>
    simp only at ho
    cases hb:Nat.beq e e' with
    |false=>rw[hb]at ho;cases ho
    |true=>
     rw[hb]at ho
     simp only[G52]at ho
     split at ho
     ·rename_i zs hz
      obtain⟨rfl,rfl⟩:=D4 hz
      have hs:hsh st.heap o=some (.row e' t' ys.length):=by simp[hsh,hg,E3]
      cases m with
      |t=>cases ho
      |o=>
       cases ow with
       |false=>cases ho
       |true=>
        simp only at ho
        cases ho
        simp only[CellRel,hs]at hc
        obtain⟨hcut,A,c,rfl,hle,hx⟩:=hc
        have hle:=U6 hcut hle
        have hlen:=Bn4 hcut
        obtain⟨_,hob⟩:=h.ob o _ hg
        rcases hx with rfl|⟨hh,rfl,hR⟩
        ·exact⟨[],⟨A,0,by rw[hlen],by rw[hlen];exact hle, .inl ⟨rfl,rfl⟩⟩,OwnB.skip⟩
        ·obtain⟨hrow,hnf,_⟩:=hob hh
         refine⟨[(E.ρ o).1],⟨_,c,by rw[hlen],by rw[hlen];exact hle, .inr ⟨_,_,rfl,rfl,Er1 hrow hcut,hnf rfl, ?_⟩⟩,OwnB.one ⟨by simp, .inl ⟨hh,by unfold C6;rw[hg];trivial,rfl⟩⟩⟩
         rw[G83,←G71];exact hR
      |s=>
       cases ow with
       |true=>cases ho
       |false=>
        simp only at ho
        cases ho
        refine⟨[],⟨rfl, ?_⟩,OwnB.nil⟩
        exact Ex3 h hg hc (λb hb=>hb) (λhh=> ((h.ob o _ hg).2 hh).2.2 rfl) e
     ·cases ho
   |tree e' t' ys q=>
    simp only at ho
    split at ho
    ·cases hb:Nat.beq e e' with
     |false=>rw[hb]at ho;cases ho
     |true=>
      rw[hb]at ho
      simp only[G52]at ho
      split at ho
      ·rename_i zs hz
       obtain⟨rfl,rfl⟩:=D4 hz
       simp only[G43,Prod.mk.injEq]at ho
       obtain⟨rfl,rfl⟩:=ho
       have hs:hsh st.heap o=some (.row e' t' ys.length):=by simp[hsh,hg,E3]
       simp only[CellRel,hs]at hc
       obtain⟨_,A,c,rfl,hle,hx⟩:=hc
       simp only[D0,I8,Nat.sub_zero]at hle ⊢
       rcases hx with rfl|⟨hh,rfl,hR⟩
       ·exact⟨[],⟨A,0,rfl,hle, .inl ⟨rfl,rfl⟩⟩,OwnB.skip⟩
       ·obtain⟨hta,eρ⟩:=h.ta o _ hg rfl
        have hth:=hta.1 hh
        obtain⟨hat,hmine⟩:=(hT.tr o _ _ _ _ hg).2 hth
        obtain⟨l0,hl0⟩:=hat.list
        obtain⟨l1,hn1,hl1⟩:=D63 l0
        have hmem:∀b,b∈l1↔∃i f p,β o i f=some (b,p):=λb=> (hl1 b).trans (hl0 b)
        refine⟨(K.ta o).1::l1,⟨_,c,rfl,hle, .inr ⟨(K.ta o).1,(K.ta o).2,l1,β o,by rw[eρ];simp[I8],rfl,hmem,hat,by rw[eρ]at hR;simpa [I8]using hR⟩⟩,
         OwnB.one ⟨Hb0.2 ⟨λhm=> ?_,hn1⟩, .inr ⟨⟨_,_,_,_,hg⟩,hth,λb hb=> ?_⟩⟩⟩
        ·obtain⟨i,f,p,hp⟩:=(hmem _).1 hm
         exact hat.ne _ _ _ _ hp rfl
        ·cases hb with
         |head=>exact .inl rfl
         |tail _ hb=>exact .inr ((hmem b).1 hb)
      ·cases ho
    ·cases ho
   |_=>cases ho
 |_=>cases ho
theorem RcsRel.append {ok:Nat→Prop}:∀{rs rs2:List RC} {vs vs2:List Value} {bs bs2:List Nat},RcsRel ok w rs vs bs→RcsRel ok w rs2 vs2 bs2→RcsRel ok w (rs++rs2) (vs++vs2) (bs++bs2)
 |_,_,_,_,_,_, .nil,q=>q
 |_,_,_,_,_,_, .cons p r,q=>by
  rw[G46]
  exact .cons p (RcsRel.append r q)
theorem Fd1 (h:RelE E st saved a S w w K) (hT:TFB st.heap w K β):∀(t:Ty) {md:List Md} {cs:List Cell} {x:El t} {md':List Md} {cs':List Cell} {ns:List Nat},Ap2 st.heap t md cs=some (x,md',cs',ns)→
  ∀{vs:List Value},All2 (CellRel E st.heap w) cs vs→(D64 t md x).2=md'∧∃v1 v2 bs,vs=v1++v2∧RcsRel E.ok w (D64 t md x).1 v1 bs∧OwnB E st.heap K β ns bs∧All2 (CellRel E st.heap w) cs' v2:=by
 intro t
 induction t with
 |nil=>
  intro md cs x md' cs' ns ho vs hv
  simp only[Ap2,G43,Prod.mk.injEq]at ho
  obtain⟨_,rfl,rfl,rfl⟩:=ho
  exact⟨rfl,[],vs,[],rfl, .nil,OwnB.nil,hv⟩
 |fld p q ihp ihq=>
  intro md cs x md' cs' ns ho vs hv
  simp only[Ap2]at ho
  split at ho
  ·rename_i y md1 cs1 ns1 h1
   split at ho
   ·rename_i z md2 cs2 ns2 h2
    simp only[G43,Prod.mk.injEq]at ho
    obtain⟨rfl,rfl,rfl,rfl⟩:=ho
    obtain⟨e1,v1,v2,bs,rfl,hr,hown,hv2⟩:=ihp h1 hv
    obtain⟨e2,v3,v4,bs2,rfl,hr2,hown2,hv4⟩:=ihq h2 hv2
    refine⟨?_,v1++v3,v4,bs++bs2,by rw[G46], ?_,hown.append hown2,hv4⟩
    ·simp only[D64,e1,e2]
    ·simp only[D64,e1]
     exact hr.append hr2
   ·cases ho
  ·cases ho
 |int k=>
  intro md cs x md' cs' ns ho vs hv
  cases hv with
  |nil=>cases ho
  |@cons c v cs vs p q=>
   cases c with
   |int j n=>
    simp only[Ap2]at ho
    by_cases e:k=j
    ·subst e
     simp only[G56,G52,G43,Prod.mk.injEq]at ho
     obtain⟨rfl,rfl,rfl,rfl⟩:=ho
     exact⟨rfl,[v],vs,[],rfl,RcsRel.cons (bs:=[]) (bs':=[]) (show RcRel E.ok w (.c _) v []from⟨rfl,p⟩) .nil,OwnB.nil,q⟩
    ·simp[e]at ho
   |_=>cases ho
 |bool=>
  intro md cs x md' cs' ns ho vs hv
  cases hv with
  |nil=>cases ho
  |@cons c v cs vs p q=>
   cases c with
   |bool b=>
    simp only[Ap2,G43,Prod.mk.injEq]at ho
    obtain⟨rfl,rfl,rfl,rfl⟩:=ho
    exact⟨rfl,[v],vs,[],rfl,RcsRel.cons (bs:=[]) (bs':=[]) (show RcRel E.ok w (.c _) v []from⟨rfl,p⟩) .nil,OwnB.nil,q⟩
   |_=>cases ho
 |str=>
  intro md cs x md' cs' ns ho vs hv
  cases hv with
  |nil=>cases ho
  |@cons c v cs vs p q=>
   cases c with
   |str b=>
    simp only[Ap2,G43,Prod.mk.injEq]at ho
    obtain⟨rfl,rfl,rfl,rfl⟩:=ho
    exact⟨rfl,[v],vs,[],rfl,RcsRel.cons (bs:=[]) (bs':=[]) (show RcRel E.ok w (.c _) v []from⟨rfl,p⟩) .nil,OwnB.nil,q⟩
   |_=>cases ho
 |slice e t _=>
  intro md cs x md' cs' ns ho vs hv
  cases hv with
  |nil=>cases md<;>cases ho
  |@cons c v cs vs p q=>
   cases md with
   |nil=>cases ho
   |cons own md=>
    simp only[Ap2]at ho
    split at ho
    ·rename_i xs ns1 h1
     simp only[G43,Prod.mk.injEq]at ho
     obtain⟨rfl,rfl,rfl,rfl⟩:=ho
     obtain⟨bs,hr,hown⟩:=Dm5 h hT h1 p
     refine⟨rfl,[v],vs,bs,rfl, ?_,hown,q⟩
     have:=RcsRel.cons hr (RcsRel.nil (ok:=E.ok) (w:=w))
     rwa [G59]at this
    ·cases ho
theorem Dm6 (h:RelE E st saved a S w w K) (hT:TFB st.heap w K β) {t:Ty} {md:List Md} {x:V1} {y:El t} {md':List Md} {ns:List Nat} (ho:F12 st.heap t md x=some (y,md',ns)) {V:Value} (hv:V1Rel E st.heap w x V):
  (D64 t md y).2=md'∧∃vs bs,RcsRel E.ok w (D64 t md y).1 vs bs∧((t.agg=true∧V= .agg vs.toArray)∨(t.agg=false∧vs=[V]))∧OwnB E st.heap K β ns bs:=by
 unfold F12 at ho
 cases hag:(bif x.agg then t.agg else !t.agg)with
 |false=>rw[hag]at ho;cases ho
 |true=>
  rw[hag]at ho
  simp only[G52]at ho
  split at ho
  ·rename_i z md1 ns1 h1
   cases ho
   obtain⟨us,hus,hV⟩:=hv
   obtain⟨e1,v1,v2,bs,rfl,hr,hown,hv2⟩:=Fd1 h hT t h1 hus
   cases hv2
   rw[G59]at hV
   refine⟨e1,v1,bs,hr, ?_,hown⟩
   rcases hV with⟨h1,h2⟩|⟨h1,h2⟩
   ·rw[h1]at hag;exact .inl ⟨hag,h2⟩
   ·rw[h1]at hag;exact .inr ⟨by simpa using hag,h2⟩
  ·cases ho
theorem Bo7 (h:RelE E st saved a S w w K) (hT:TFB st.heap w K β):∀(ts:List Ty) {md:List Md} {xs:List V1} {y:ResT ts} {ns:List Nat},Be5 st.heap ts md xs=some (y,ns)→∀{Vs:List Value},All2 (V1Rel E st.heap w) xs Vs→
  ∃bs,ResRel E.ok w (Cl4 ts md y) Vs bs∧OwnB E st.heap K β ns bs
 | [],md,[],y,ns,ho,_, .nil=>by cases ho;exact⟨[], .nil,OwnB.nil⟩
 | [t],md,[x],y,ns,ho,_, .cons p .nil=>by
  simp only[Be5]at ho
  split at ho
  ·rename_i z md1 ns1 h1
   cases ho
   obtain⟨_,vs,bs,hr,hV,hown⟩:=Dm6 h hT h1 p
   refine⟨bs, ?_,hown⟩
   have:=ResRel.cons hr hV (ResRel.nil (ok:=E.ok) (w:=w))
   rwa [G59]at this
  ·cases ho
 |t::u::r,md,x::xs,y,ns,ho,_, .cons p q=>by
  simp only[Be5]at ho
  split at ho
  ·rename_i z md1 ns1 h1
   split at ho
   ·rename_i zs ms h2
    cases ho
    obtain⟨e1,vs,bs,hr,hV,hown⟩:=Dm6 h hT h1 p
    obtain⟨bs2,hr2,hown2⟩:=Bo7 h hT (u::r) h2 q
    refine⟨bs++bs2, ?_,hown.append hown2⟩
    simp only[Cl4,e1]
    exact .cons hr hV hr2
   ·cases ho
  ·cases ho
 | [],md,_::_,y,ns,ho,_,_=>by cases ho
 | [t],md,[],y,ns,ho,_,_=>by cases ho
 | [t],md,_::_::_,y,ns,ho,_,_=>by cases ho
 |t::u::r,md,[],y,ns,ho,_,_=>by cases ho
theorem Gg6 {ok:Nat→Prop} (h:RelE E st saved a S w' w' K) (hT:TFB st.heap w' K β) (hD:Dv w (F09 w ok) w' K) {out:List (Bool×List RC)} {Vs:List Value} {ns bs:List Nat} (hres:ResRel E.ok w' out Vs bs) (ho:OwnB E st.heap K β ns bs) (hd:E8 ns=true) {V:Value} (hV:V=Dl8 Vs):Ret ok w w' out V:=by
 obtain⟨ps,hsub,rfl,hown⟩:=ho
 refine⟨hD.os,hD.tape,hD.out,hD.size,λb hb=> (hD.k b hb).2 id,λb=>E.ok b∧w.heap.size≤b,Vs,ps.flatMap Prod.snd,λb hb=> ⟨hb.2,h.bo b hb.1⟩, ?_, ?_, ?_,hV⟩
 ·refine hres.imp λ_ _ rc _ u bs hrc=>hrc.mono λb hb=> ?_
  rcases G96 b w.heap.size with hlt|hge
  ·exact .inl (hD.o b hlt (h.oz b hb (hD.k b hlt).1))
  ·exact .inr ⟨hb,hge⟩
 ·exact Dh4 h hT ps (hsub.nodup (A45 hd)) hown
 ·intro b hb
  obtain⟨p,hp,hb⟩:=Hb3.1 hb
  obtain⟨h1,h2,h3⟩:=Ey4 h hT hD.toDr (hown p hp) b hb
  refine⟨?_,h1,λhk=>h2 hk.1⟩
  rcases G96 b w.heap.size with hlt|hge
  ·exact(h3 hlt).elim
  ·exact hge
theorem F61 {ok:Nat→Prop} (h:RelE E st saved a S w' w' K) (hT:TFB st.heap w' K β) (hD:Dv w (F09 w ok) w' K) {ts:List Ty} {md:List Md} {v:VV} {m:Ms} (hm:m.st=st) {r:ResT ts} (ho:Gg5 ts md v m=some r) {V:Value} (hv:VRel E st.heap w' v V):Ret ok w w' (Cl4 ts md r) V:=by
 subst hm
 have fin:∀{xs:List V1} {Vs:List Value} {p:ResT ts×List Nat},Be5 m.st.heap ts md xs=some p→(bif E8 p.2 then some p.1 else none)=some r→All2 (V1Rel E m.st.heap w') xs Vs→V=Dl8 Vs→Ret ok w w' (Cl4 ts md r) V:=by
  intro xs Vs p h1 h2 h3 h4
  cases hd:E8 p.2 with
  |false=>rw[hd]at h2;cases h2
  |true=>
   rw[hd]at h2
   cases h2
   obtain⟨bs,hres,hown⟩:=Bo7 h hT ts (y:=p.1) (ns:=p.2) h1 h3
   exact Gg6 h hT hD hres hown hd h4
 unfold Gg5 at ho
 cases v with
 |un=>cases ho
 |v x=>
  simp only at ho
  split at ho
  ·rename_i p hp
   exact fin hp ho (.cons hv .nil) rfl
  ·cases ho
 |tup xs=>
  obtain⟨Vs,hx,rfl⟩:=hv
  cases hx with
  |nil=>
   simp only at ho
   split at ho
   ·rename_i p hp
    exact fin hp ho .nil rfl
   ·cases ho
  |cons p q=>cases q with
   |nil=>cases ho
   |cons p' q'=>
    simp only at ho
    split at ho
    ·rename_i z hp
     exact fin hp ho (.cons p (.cons p' q')) rfl
    ·cases ho
theorem D17:∀(ns:List Nat) {h:D3},TF h w K→TF (Fq7 ns h) w K
 | [],_,ht=>ht
 |n::r,h,ht=>by
  simp only[Fq7]
  split
  ·rename_i e t xs hg
   exact D17 r (ht.set1 rfl (λo ho=>by rw[hg]at ho;cases ho;rfl))
  ·exact D17 r ht
theorem Bo8:∀(ns:List Nat) {E:Env} {st:St},RelE E st saved a S w w0 K→∃E',RelE E' ⟨st.tmps,Fq7 ns st.heap⟩ saved a S w w0 K∧Step E E' st.heap (Fq7 ns st.heap) w w
 | [],E,st,h=> ⟨E,h,Step.refl _ _ _⟩
 |n::r,E,st,h=>by
  simp only[Fq7]
  split
  ·rename_i e t xs hg
   have k1:Step E (E.frz n) st.heap (hset st.heap n (.row e t xs false)) w w:=by
    refine⟨λ_ _=>rfl,λ_ _=>Iff.rfl,λb hb=> .inl hb,λb hb=>rfl,λg m hr=>hr,λm s hm=> .inl ?_⟩
    rw[F5]
    split
    ·rename_i e1
     subst e1
     simpa [hsh,hg,E3]using hm
    ·exact hm
   obtain⟨E',h2,k2⟩:=Bo8 r (st:=⟨st.tmps,hset st.heap n (.row e t xs false)⟩) (h.frz hg)
   have hs:∀m,(B3 st.heap m).isSome=true→(B3 (hset st.heap n (.row e t xs false)) m).isSome=true:=λm hm=>by
    rw[A9];split
    ·rfl
    ·exact hm
   refine⟨E',h2,λm hm=> (k2.ρ m (hs m hm)).trans (k1.ρ m hm),λm hm=> (k2.has m (hs m hm)).trans (k1.has m hm),λb hb=>k2.ok b (k1.ok b hb),λ_ _=>rfl,λ_ _ h=>h,λm s hm=> ?_⟩
   rcases k1.hle m s hm with h3|h3
   ·exact k2.hle m s h3
   ·rcases k2.hle m _ h3.2 with h4|⟨⟨_,_,_,h4⟩,_⟩
    ·exact .inr ⟨h3.1,h4⟩
    ·cases h4
  ·exact Bo8 r h
def B61 {α:Type} (out:α→List (Bool×List RC)):(ts:List Ty)→(Args ts→Option α)→Spec
 | [],G=> .body (G ()) out
 |t::ts,G=> .imm t λx=>B61 out ts λr=>G (x,r)
def Ak1 (P:Program) (f:FuncId):Prop:=∀args w,(callFunc f args).run P w= .ok (.enter f args) w
theorem F62 {f : FuncId} {fn : Func} {c : Code} (hf : P.funcs[f]? = some fn) (hname : (fn.name == "runtime.NumGoroutine") = false) (hb : fn.body = some c) : Ak1 P f := by
 intro args w
 have h1 : fn.name ≠ "runtime.NumGoroutine" := by simpa using hname
 simp[callFunc,hf,h1,hb]
theorem Ey6 (hG:Ok P cfg) (hm:P.follows .mixedOrders=true) (hfn:∀f fn,look cfg.inl f=some fn→P.funcs[f]? =some fn) {d:Nat} {f:FuncId} (ts rs:List Ty) (md:List Md) (G:Args ts→Option (ResT rs))
  (hrun:∀x,Fc7 cfg (Az3 rs md) d f (Es7 ts x) ms0=G x):t7 P f (B61 (Cl4 rs md) ts G):=by
 intro ok w hok hE
 have key:∀(ts':List Ty) (G':Args ts'→Option (ResT rs)) (pre:List V1) (preV:List Value),(∀x,Fc7 cfg (Az3 rs md) d f (pre++Es7 ts' x) ms0=G' x)→All2 (V1Rel (Fp5 ok) ms0.st.heap w) pre preV→
   D45 P f ok w (B61 (Cl4 rs md) ts' G') preV:=by
  intro ts'
  induction ts' with
  |nil=>
   intro G' pre preV h1 h2 a ha
   have h3:=h1 ()
   rw[ha]at h3
   simp only[Es7,G59]at h3
   exact F08 hG hm hfn h3 (F58 hok hE) h2 _ λv V m' w' E' k1 k2 k3=>by
    obtain⟨w1,K1,kD,kT,kE⟩:=k2
    obtain⟨E'',k4,k5⟩:=Bo8 (shV m'.st.heap rs md v) kE
    have k6:=k4.rebase0
    obtain⟨β,k7⟩:=k4.now (D17 (shV m'.st.heap rs md v) kT)
    exact⟨V,rfl,F61 k6 k7 (kD.trans k4.drift) (m:=Fd0 (shV m'.st.heap rs md v) m') rfl k1 (k3.step k5)⟩
  |cons t ts' ih=>
   intro G' pre preV h1 h2 x v hx
   refine ih _ (pre++ [Gl4 t x]) (preV++ [v]) (λy=> ?_) (h2.append (.cons (Gl5 hx) .nil))
   rw[G46]
   exact h1 (x,y)
 exact key ts G [] [] (λx=>by simpa using hrun x) .nil
def Gg7 (P:Program) (l:List (TypeId×Ty)):Prop:=∀T t,look l T=some t→TyOk P t T
def EqL (P:Program) (l:List TypeId):Prop:=∀T,l.any (Nat.beq T)=true→P.stoodInHeld T=false∧P.eqGuardType P.depth T=false
def Ey7 (P:Program) (l:List (FuncId×Func)):Prop:=∀f fn,look l f=some fn→P.funcs[f]? =some fn∧Ak1 P f
def Dm7 (P:Program) (l:List (FuncId×Spec)):Prop:=∀f s,look l f=some s→t7 P f s∧Ak1 P f
theorem Bj6 {α:Type _} {l:List (Nat×α)} {n m:Nat} {a b:α} (h:look ((m,a)::l) n=some b):(m=n∧a=b)∨look l n=some b:=by
 simp only[look]at h
 cases hb:Nat.beq m n with
 |true=>rw[hb]at h;cases h;exact .inl ⟨G35 hb,rfl⟩
 |false=>rw[hb]at h;exact .inr h
theorem Gy7:Gg7 P []:=λ_ _ h=>by cases h
theorem Ae6 {T:TypeId} {t:Ty} {l:List (TypeId×Ty)} (h:TyOk P t T) (k:Gg7 P l):Gg7 P ((T,t)::l):=λT' t' h'=>by
 rcases Bj6 h' with⟨rfl,rfl⟩|h'
 ·exact h
 ·exact k _ _ h'
theorem eq0:EqL P []:=λ_ h=>by cases h
theorem eq1 {T:TypeId} {l:List TypeId} (h:P.stoodInHeld T=false∧P.eqGuardType P.depth T=false) (k:EqL P l):EqL P (T::l):=λT' h'=>by
 simp only[List.any_cons,Bool.or_eq_true]at h'
 rcases h' with h'|h'
 ·rw[G35 h'];exact h
 ·exact k _ h'
theorem Bo9:Ey7 P []:=λ_ _ h=>by cases h
theorem Aa9 {f:FuncId} {fn:Func} {l:List (FuncId×Func)} (h:P.funcs[f]? =some fn∧Ak1 P f) (k:Ey7 P l):Ey7 P ((f,fn)::l):=λf' fn' h'=>by
 rcases Bj6 h' with⟨rfl,rfl⟩|h'
 ·exact h
 ·exact k _ _ h'
theorem B8:Dm7 P []:=λ_ _ h=>by cases h
theorem A8 {f:FuncId} {s:Spec} {l:List (FuncId×Spec)} (h:t7 P f s∧Ak1 P f) (k:Dm7 P l):Dm7 P ((f,s)::l):=λf' s' h'=>by
 rcases Bj6 h' with⟨rfl,rfl⟩|h'
 ·exact h
 ·exact k _ _ h'
def Ct3 (P:Program) (l:List (FuncId×MSpec)):Prop:=∀f s,look l f=some s→C06 P f s∧Ak1 P f
theorem a7:Ct3 P []:=λ_ _ h=>by cases h
theorem Ax4 {f:FuncId} {s:MSpec} {l:List (FuncId×MSpec)} (h:C06 P f s∧Ak1 P f) (k:Ct3 P l):Ct3 P ((f,s)::l):=λf' s' h'=>by
 rcases Bj6 h' with⟨rfl,rfl⟩|h'
 ·exact h
 ·exact k _ _ h'
def Gp0 (P:Program) (l:List TypeId):Prop:=∀T,l.any (Nat.beq T)=true→PtrOk P T
theorem Gy8:Gp0 P []:=λ_ h=>by cases h
def Gg8 (P:Program) (l:List (TypeId×Ty)):Prop:=∀T t,look l T=some t→MapOk P T t
theorem Gy9:Gg8 P []:=λ_ _ h=>by cases h
theorem Gz0 {T:TypeId} {t:Ty} {l:List (TypeId×Ty)} (h:MapOk P T t) (k:Gg8 P l):Gg8 P ((T,t)::l):=λT' t' h'=>by
 rcases Bj6 h' with⟨rfl,rfl⟩|h'
 ·exact h
 ·exact k _ _ h'
def Gt3 (P:Program) (T:TypeId) (t:Ty):Bool:=(match P.info? T with
 |some i=>Nat.beq i.size 1&&(match i.zero with|some (.map none)=>true|_=>false)
 |none=>false)&&(match P.underlying T with
 |some (.map k e)=> (match P.underlying k with|some (.int .i64)=>true|_=>false)&&tyB P t false e []
 |_=>false)
theorem Fq8 {T:TypeId} {t:Ty} (h:Gt3 P T t=true):MapOk P T t:=by
 unfold Gt3 at h
 simp only[G37]at h
 obtain⟨h0,h⟩:=h
 have hinfo:∃i,P.info? T=some i∧i.size=1∧i.zero=some (.map none):=by
  split at h0
  ·rename_i i hi
   simp only[G37]at h0
   obtain⟨h3,h4⟩:=h0
   split at h4
   ·rename_i hz
    exact⟨i,hi,G35 h3,hz⟩
   ·cases h4
  ·cases h0
 split at h
 ·rename_i k e hu
  simp only[G37]at h
  obtain⟨h1,h2⟩:=h
  split at h1
  ·rename_i hk
   exact⟨hinfo,k,e,hu,hk,C7 t false e [] h2⟩
  ·cases h1
 ·cases h
def Fq9 (P:Program) (l:List (Nat×Nat×Spec)):Prop:=∀f d s,Ep8 l f d=some s→t7 P f s∧Ak1 P f
theorem Bj7:Fq9 P []:=λ_ _ _ h=>by cases h
theorem Gz1 {f d:Nat} {s:Spec} {l:List (Nat×Nat×Spec)} (h:t7 P f s∧Ak1 P f) (k:Fq9 P l):Fq9 P ((f,d,s)::l):=λf' d' s' h'=>by
 cases d' with
 |none=>cases h'
 |some d'=>
  simp only[Ep8]at h'
  cases hb:(Nat.beq f f'&&Nat.beq d d')with
  |true=>
   rw[hb]at h'
   cases h'
   simp only[G37]at hb
   rw[←G35 hb.1];exact h
  |false=>
   rw[hb]at h'
   exact k _ _ _ h'
theorem Gt4 {cfg:Cfg} (h7:Gg8 P cfg.maps) (h6:Gp0 P cfg.ptrs) (h1:EqL P cfg.eqs) (h2:Gg7 P cfg.tab) (h3:Ey7 P cfg.inl) (h4:Dm7 P cfg.spec) (h5:Ct3 P cfg.mspec) (h8:Fq9 P cfg.alt:=by exact Bj7):Ok P cfg:=
 {alt:=h8,map:=h7,ptr:=h6,eqs:=h1,tab:=h2,spec:=λf s h=> (h4 f s h).1,mspec:=λf s h=> (h5 f s h).1,enter:=λf h=>by
   rcases h with h|h
   ·obtain⟨s,hs⟩:=G74.1 h
    exact(h4 f s hs).2
   ·obtain⟨s,hs⟩:=G74.1 h
    exact(h3 f s hs).2
  enterM:=λf h=>by
   obtain⟨s,hs⟩:=G74.1 h
   exact(h5 f s hs).2}
end
inductive PK where
 | imm (t : Ty)
 | box (t : Ty)
 | row (e : TypeId) (t : Ty)
 | tree (e : TypeId) (t : Ty)
@[reducible] def PT : PK → Type
 | .imm t => El t
 | .box t => El t
 | .row _ t => List (El t)
 | .tree _ t => List (El t)
@[reducible] def PArgs : List PK → Type
 | [] => Unit
 | k :: ks => PT k × PArgs ks
@[reducible] def PoT : List PK → Type
 | [] => Unit
 | .imm _ :: ks => PoT ks
 | .box t :: ks => El t × PoT ks
 | .row _ t :: ks => List (El t) × PoT ks
 | .tree _ t :: ks => List (El t) × PoT ks
def Ct4:Nat→(ks:List PK)→PArgs ks→List V1
 |_,[],_=> []
 |i, .imm t::ks,x=>Gl4 t x.1::Ct4 (i+1) ks x.2
 |i, .box _::ks,x=> ⟨false,[.ptr i 0]⟩::Ct4 (i+1) ks x.2
 |i, .row _ _::ks,x=> ⟨false,[.row i none none]⟩::Ct4 (i+1) ks x.2
 |i, .tree _ _::ks,x=> ⟨false,[.row i none none]⟩::Ct4 (i+1) ks x.2
def Es8:Nat→List PK→List VV
 |_,[]=> []
 |i, .imm _::ks=>VV.un::Es8 (i+1) ks
 |i, .box _::ks=>one (.ptr i 0)::Es8 (i+1) ks
 |i, .row _ _::ks=>one (.row i none none)::Es8 (i+1) ks
 |i, .tree _ _::ks=>one (.row i none none)::Es8 (i+1) ks
def H4:Nat→(ks:List PK)→PArgs ks→D3
 |_,[],_=> []
 |i, .imm _::ks,x=>H4 (i+1) ks x.2
 |i, .box t::ks,x=> (i, .box (B1 t x.1))::H4 (i+1) ks x.2
 |i, .row e t::ks,x=> (i, .row e t x.1 true)::H4 (i+1) ks x.2
 |i, .tree e t::ks,x=> (i, .tree e t x.1 0)::H4 (i+1) ks x.2
def ms1 (ks:List PK) (x:PArgs ks):Ms:={st:=⟨Es8 1 ks,H4 1 ks x⟩,base:=0,next:=0,saved:=[]}
def shr:List Md:=List.replicate 64 .s
def B15 (h:D3):(ks:List PK)→List VV→Option (PoT ks×List Nat)
 | [],_=>some ((),[])
 | .imm _::ks,_::r=>B15 h ks r
 | .box t::ks,v::r=>match v with
  | .v ⟨false,[.ptr n 0]⟩=> (match B3 h n with
   |some (.box cs)=> (match Ap2 h t shr cs with
    |some (y,_,[],_)=> (match B15 h ks r with
     |some p=>some ((y,p.1),n::p.2)
     |none=>none)
    |_=>none)
   |_=>none)
  |_=>none
 | .row e t::ks,v::r=>match v with
  | .v ⟨false,[.row n none none]⟩=> (match B3 h n with
   |some (.row e' t' ys true)=>bif Nat.beq e e' then(match E6 t' t ys with
    |some zs=> (match B15 h ks r with
     |some p=>some ((zs,p.1),n::p.2)
     |none=>none)
    |none=>none)else none
   |_=>none)
  |_=>none
 | .tree e t::ks,v::r=>match v with
  | .v ⟨false,[.row n none none]⟩=> (match B3 h n with
   |some (.tree e' t' ys w)=>bif Nat.beq e e'&&(Nat.beq w 0||Nat.beq w 2)then(match E6 t' t ys with
    |some zs=> (match B15 h ks r with
     |some p=>some ((zs,p.1),n::p.2)
     |none=>none)
    |none=>none)else none
   |_=>none)
  |_=>none
 |_,_=>none
def Gm8 (rs:List Ty) (md:List Md) (ks:List PK) (v:VV) (m:Ms):Option (ResT rs×PoT ks):=
 match(match v with
  | .v x=>Be5 m.st.heap rs md [x]
  | .tup [_]=>none
  | .tup xs=>Be5 m.st.heap rs md xs
  | .un=>none)with
 |some p=> (match B15 m.st.heap ks m.st.tmps with
  |some q=>bif E8 (p.2++q.2)then some (p.1,q.1)else none
  |none=>none)
 |none=>none
def shP (h:D3):List PK→List VV→List Nat
 | .imm _::ks,_::r=>shP h ks r
 | .box t::ks,v::r=> (match v with
  | .v ⟨false,[.ptr n 0]⟩=> (match B3 h n with
   |some (.box cs)=> (shR h t shr cs).1
   |_=> [])
  |_=> [])++shP h ks r
 | .row _ _::ks,_::r=>shP h ks r
 | .tree _ _::ks,_::r=>shP h ks r
 |_,_=> []
def El2 (rs:List Ty) (md:List Md) (ks:List PK) (v:VV) (m:Ms):Option (ResT rs×PoT ks):=Gm8 rs md ks v (Fd0 (shV m.st.heap rs md v++shP m.st.heap ks m.st.tmps) m)
def poV:(ks:List PK)→PoT ks→List Po
 | [],_=> []
 | .imm _::ks,y=>poV ks y
 | .box t::ks,y=> .box t y.1::poV ks y.2
 | .row _ t::ks,y=> .row t y.1::poV ks y.2
 | .tree _ t::ks,y=> .tree t y.1::poV ks y.2
def mkM {α:Type} (out:α→List (Bool×List RC)) (post:α→List Po):(ks:List PK)→(PArgs ks→Option α)→MSpec
 | [],G=> .body (G ()) out post
 | .imm t::ks,G=> .imm t λx=>mkM out post ks λr=>G (x,r)
 | .box t::ks,G=> .box t λx=>mkM out post ks λr=>G (x,r)
 | .row e t::ks,G=> .row e t λx=>mkM out post ks λr=>G (x,r)
 | .tree e t::ks,G=> .tree e t λx=>mkM out post ks λr=>G (x,r)
section
variable {P : Program} {cfg : Cfg} {E : Env} {st : St} {saved : List (Nat × List VV)} {a : Act} {S : List (Array Value)} {w w' w0 : World} {K : Keep}
inductive PRel (ok : Nat → Prop) (w : World) : (ks : List PK) → PArgs ks → List Value → List MD → Prop where
 | nil : PRel ok w [] () [] []
 | imm {t ks x r v vs ds} : Be3 ok w t x v → PRel ok w ks r vs ds → PRel ok w (.imm t :: ks) (x, r) (v :: vs) ds
 | box {t ks x r g p cs vs ds} : Imm ok w t x cs → Ge8 w g p cs → g < w.heap.size → ¬ ok g → g ∉ ds.flatMap MD.blk → PRel ok w ks r vs ds →
   PRel ok w (.box t :: ks) (x, r) (.pointer (some ⟨g, p, none⟩) :: vs) (.box g p :: ds)
 | nrow {e t ks r A vs ds} : PRel ok w ks r vs ds → PRel ok w (.row e t :: ks) ([], r) (.slice A 0 0 :: vs) (.nil :: ds)
 | row {e t ks xs r g off c vs ds} : xs.length ≤ c → 0 < c → RowAt ok w g off t xs → NoFrz t w g → Room w g (off + c * t.sz) → g < w.heap.size → ¬ ok g → g ∉ ds.flatMap MD.blk → PRel ok w ks r vs ds →
   PRel ok w (.row e t :: ks) (xs, r) (.slice (some ⟨g, off, none⟩) xs.length c :: vs) (.row g off c :: ds)
 | ntree {e t ks r A vs ds} : PRel ok w ks r vs ds → PRel ok w (.tree e t :: ks) ([], r) (.slice A 0 0 :: vs) (.nil :: ds)
 | tree {e t ks xs r g off c ns β vs ds} : xs.length ≤ c → 0 < c → TreeAt w g off t β xs → (∀ b, b ∈ ns ↔ ∃ i f p, β i f = some (b, p)) → Room w g (off + c * t.sz) → (∀ b ∈ g :: ns, b < w.heap.size ∧ ¬ ok b ∧ b ∉ ds.flatMap MD.blk) → PRel ok w ks r vs ds →
   PRel ok w (.tree e t :: ks) (xs, r) (.slice (some ⟨g, off, none⟩) xs.length c :: vs) (.tree g off c ns β :: ds)
theorem Ct5 {f:FuncId} {ok:Nat→Prop} {α:Type} {out:α→List (Bool×List RC)} {post:α→List Po}:∀(ks:List PK) (G:PArgs ks→Option α) (pre:List Value) (ms:List MD),
  (∀x vs ds,PRel ok w ks x vs ds→(∀b∈ms.flatMap MD.blk,b∉ds.flatMap MD.blk)→(∀g,D28=some g→g∉(ms++ds).flatMap MD.blk)→∀a,G x=some a→Calls P f (pre++vs).toArray w λe w'=> ∃V,e= .returned V∧RetM ok w w' (out a) V (ms++ds) (post a))→
  MOk P f ok w (mkM out post ks G) pre ms
 | [],G,pre,ms,h=> λhe a ha=>by
  have:=h () [] [] .nil (λb _ hb=>by simp at hb) (by simpa using he) a ha
  simpa using this
 | .imm t::ks,G,pre,ms,h=> λx v hx=>by
  refine Ct5 ks _ _ _ λr vs ds hp hd he a ha=> ?_
  have:=h (x,r) (v::vs) ds (.imm hx hp) hd he a ha
  rwa [G46]
 | .box t::ks,G,pre,ms,h=> λx g p cs h1 h2 h3 h4 h5=>by
  refine Ct5 ks _ _ _ λr vs ds hp hd he a ha=> ?_
  rw[G46,G46]
  have hg:g∉ds.flatMap MD.blk:=hd g (by simp[MD.blk])
  refine h (x,r) _ (.box g p::ds) (.box h1 h2 h3 h4 hg hp) (λb hb=> ?_) (λq hq=>by have:=he q hq;rwa [G46]at this) a ha
  simp only[G44,MD.blk,G84,G67,not_or]
  exact⟨λe=>h5 (e▸hb),hd b (by rw[G92];exact G34.2 (.inl hb))⟩
 | .row e t::ks,G,pre,ms,h=> ⟨λA=>by
   refine Ct5 ks _ _ _ λr vs ds hp hd he a ha=> ?_
   rw[G46,G46]
   refine h ([],r) _ (.nil::ds) (.nrow hp) (λb hb=> ?_) (λq hq=>by have:=he q hq;rwa [G46]at this) a ha
   simp only[G44,MD.blk,G60]
   exact hd b (by rw[G92];exact G34.2 (.inl hb)),
  λxs g off c h0 hc h1 h2 h3 h4 h5 h6=>by
   refine Ct5 ks _ _ _ λr vs ds hp hd he a ha=> ?_
   rw[G46,G46]
   have hg:g∉ds.flatMap MD.blk:=hd g (by simp[MD.blk])
   refine h (xs,r) _ (.row g off c::ds) (.row h0 hc h1 h2 h3 h4 h5 hg hp) (λb hb=> ?_) (λq hq=>by have:=he q hq;rwa [G46]at this) a ha
   simp only[G44,MD.blk,G84,G67,not_or]
   exact⟨λe=>h6 (e▸hb),hd b (by rw[G92];exact G34.2 (.inl hb))⟩⟩
 | .tree e t::ks,G,pre,ms,h=> ⟨λA=>by
   refine Ct5 ks _ _ _ λr vs ds hp hd he a ha=> ?_
   rw[G46,G46]
   refine h ([],r) _ (.nil::ds) (.ntree hp) (λb hb=> ?_) (λq hq=>by have:=he q hq;rwa [G46]at this) a ha
   simp only[G44,MD.blk,G60]
   exact hd b (by rw[G92];exact G34.2 (.inl hb)),
  λxs g off c ns β h0 hc h1 h2 h3 h4=>by
   refine Ct5 ks _ _ _ λr vs ds hp hd he a ha=> ?_
   rw[G46,G46]
   refine h (xs,r) _ (.tree g off c ns β::ds) (.tree h0 hc h1 h2 h3 (λb hb=> ⟨(h4 b hb).1,(h4 b hb).2.1,hd b (by rw[G92];exact G34.2 (.inr (by simpa [MD.blk]using hb)))⟩) hp) (λb hb=> ?_) (λq hq=>by have:=he q hq;rwa [G46]at this) a ha
   simp only[G44,MD.blk,G34,not_or]
   exact⟨λhm=> (h4 b hm).2.2 hb,hd b (by rw[G92];exact G34.2 (.inl hb))⟩⟩
theorem A46 {h:D3} {i:Nat} {ob:Obj} (hh:∀n,(B3 h n).isSome=true→i<n):hset h i ob=(i,ob)::h:=by
 cases h with
 |nil=>rfl
 |cons p r=>
  obtain⟨m,q⟩:=p
  have h1:i<m:=hh m (by simp[B3])
  have h2:Nat.beq m i=false:=by
   cases hb:Nat.beq m i with
   |false=>rfl
   |true=>have:=G35 hb;omega
  have h3:Nat.blt i m=true:=by
   cases hb:Nat.blt i m with
   |true=>rfl
   |false=>
    have:Nat.ble (i+1) m=false:=hb
    have h4:Nat.ble (i+1) m=true:=Nat.ble_eq_true_of_le h1
    rw[this]at h4;cases h4
  simp only[hset,h2,h3,G72,G52]
theorem A47 {h:D3} {i:Nat} (hh:∀n,(B3 h n).isSome=true→i<n):B3 h i=none:=by
 cases hg:B3 h i with
 |none=>rfl
 |some o=>exact absurd (hh i (by rw[hg];rfl)) (Nat.lt_irrefl i)
structure KOk (w : World) (ok B : Nat → Prop) (ds : List MD) (K : Keep) : Prop where
 old : ∀ b, b < w.heap.size → ¬ B b → K.k b
 in_ : ∀ b, K.k b → ¬ B b ∨ b ∈ ds.flatMap MD.blk
 o : ∀ b, K.o b → ok b
 p : ∀ b, K.p b → b ∈ ds.flatMap MD.blk
 b0 : ∀ g off c ns β, MD.tree g off c ns β ∈ ds → K.k g ∧ K.b0 g = β
theorem KOk.cons {ok B:Nat→Prop} {ds:List MD} {K:Keep} {d:MD} (h:KOk w ok B ds K) (hd:∀g off c ns β,d≠ .tree g off c ns β):KOk w ok B (d::ds) K:=
 ⟨h.old,λb hb=> (h.in_ b hb).imp id λhm=>by simp only[G44,G34];exact .inr hm,h.o,λb hb=>by simp only[G44,G34];exact .inr (h.p b hb),λg off c ns β hm=>by
  cases hm with
  |head=>exact absurd rfl (hd _ _ _ _ _)
  |tail _ hm=>exact h.b0 _ _ _ _ _ hm⟩
theorem KOk.plus0 {ok B:Nat→Prop} {ds:List MD} {K:Keep} (h:KOk w ok B ds K) (nm:Nat):KOk w ok B ds (K.plus0 nm):=⟨h.old,h.in_,h.o,h.p,h.b0⟩
theorem Ey8 {ok:Nat→Prop} (hok:∀b,ok b→b<w.heap.size) (B:Nat→Prop) {ks:List PK} {x:PArgs ks} {vs:List Value} {ds:List MD} (hp:PRel ok w ks x vs ds):
  (∀b∈ds.flatMap MD.blk,B b)→∀i,∃E K,RelE E ⟨[],H4 i ks x⟩ [] ⟨#[],[]⟩ [] w w K∧TF (H4 i ks x) w K∧KOk w ok B ds K∧E.ok=ok∧(∀n,(B3 (H4 i ks x) n).isSome=true→i≤n)∧
   (∀n,C6 (H4 i ks x) n→E.has n→(E.ρ n).1∈ds.flatMap MD.blk)∧All2 (V1Rel E (H4 i ks x) w) (Ct4 i ks x) vs∧All2 (VRel E (H4 i ks x) w) (Es8 i ks) vs:=by
 induction hp with
 |nil=>
  intro hB i
  refine⟨Fp5 ok,{k:=λb=>b<w.heap.size∧¬B b,o:=ok},⟨.nil,rfl, .nil,(λn o h=>by cases h),(λn n' hne hl hl' hh hh'=>False.elim hl),(λn hl hh=>False.elim hl),(λn h=>by cases h),hok,(λb hb=> ⟨hb.1,rfl⟩),rfl,rfl,rfl,G53 _,(λb hb _=>hb),(λ_ _ h=>h),(λn o h=>by cases h)⟩,TF.empty,⟨λb h1 h2=> ⟨h1,h2⟩,λb hb=> .inl hb.2,λb hb=>hb,λb hb=>hb.elim,λg off c ns β hm=>by cases hm⟩,rfl,(λn h=>by cases h),(λn hl hh=>hl.elim), .nil, .nil⟩
 |@imm t ks x r v vs ds h1 h2 ih=>
  intro hB i
  obtain⟨E,K,k1,kt,kk,k2,k3,k4,k5,k6⟩:=ih hB (i+1)
  refine⟨E,K,k1,kt,kk,k2,λn hn=>Nat.le_of_succ_le (k3 n hn),k4, .cons ?_ k5, .cons trivial k6⟩
  obtain⟨cs,hi,hV⟩:=h1
  exact⟨cs,P2 (E:=E) (by rw[k2];exact hi),hV⟩
 |@box t ks x r g p cs vs ds h1 h2 h3 h4 h5 h6 ih=>
  intro hB i
  obtain⟨E,K,k1,kt,kk,k2,k3,k4,k5,k6⟩:=ih (λb hb=>hB b (by simp only[G44,G34];exact .inr hb)) (i+1)
  have hlt:∀n,(B3 (H4 (i+1) ks r) n).isSome=true→i<n:=λn hn=>k3 n hn
  have hn0:=A47 hlt
  have hfree:Free E (H4 (i+1) ks r) K w g:=
   ⟨λn hl hh e=>h5 (e▸k4 n hl hh),by rw[k2];exact h4,λhk=> (kk.in_ g hk).elim (λh=>h (hB g (by simp[MD.blk]))) h5,h3⟩
  have hst:=Af9 (st:=⟨[],H4 (i+1) ks r⟩) (E:=E) (w:=w) hn0 (g,p) True (.box (B1 t x))
  have hcs:All2 (CellRel (E.at i (g,p) True) (hset (H4 (i+1) ks r) i (.box (B1 t x))) w) (B1 t x) cs:=
   (P2 (E:=E) (h:=H4 (i+1) ks r) (by rw[k2];exact h1)).mono λ_ _ q=>q.step hst
  have r1:=k1.named hn0 (g,p) True (.box (B1 t x)) (λ_=>hfree) ⟨by simp[Env.at],cs,hcs,by
   have e1:(E.at i (g,p) True).ρ i=(g,p):=by simp[Env.at]
   rw[e1];exact h2⟩
  have r1t:=kt.hset (ob:= .box (B1 t x)) hn0 rfl
  rw[A46 hlt]at r1 hst hcs r1t
  refine⟨E.at i (g,p) True,K,r1,r1t,kk.cons (λ_ _ _ _ _ e=>by cases e),k2,λn hn=> ?_,λn hl hh=> ?_, .cons ?_ (k5.mono λ_ _ q=>q.step hst), .cons ?_ (k6.mono λ_ _ q=>q.step hst)⟩
  ·simp only[H4,B3]at hn
   cases hb:Nat.beq i n with
   |true=>exact Nat.le_of_eq (G35 hb)
   |false=>rw[hb]at hn;exact Nat.le_of_succ_le (k3 n hn)
  ·by_cases e:n=i
   ·subst e;simp[Env.at,MD.blk]
   ·have hl':C6 (H4 (i+1) ks r) n:=by
     have hb:Nat.beq i n=false:=by cases hb:Nat.beq i n with|false=>rfl|true=>exact absurd (G35 hb).symm e
     unfold C6 at hl ⊢
     simpa only[H4,B3,hb,G72]using hl
    have hh':E.has n:=by simpa [Env.at,e]using hh
    simp only[G44,G34]
    refine .inr ?_
    have:=k4 n hl' hh'
    simpa [Env.at,e]using this
  ·exact V1Rel.mkOne ⟨(B1 t x).length,by simp[H4,hsh,B3,E3],by simp[Env.at]⟩
  ·exact VRel.one (c:= .ptr i 0) ⟨(B1 t x).length,by simp[H4,hsh,B3,E3],by simp[Env.at]⟩
 |@nrow e t ks r A vs ds h6 ih=>
  intro hB i
  obtain⟨E,K,k1,kt,kk,k2,k3,k4,k5,k6⟩:=ih (λb hb=>hB b (by simpa [MD.blk]using hb)) (i+1)
  have hlt:∀n,(B3 (H4 (i+1) ks r) n).isSome=true→i<n:=λn hn=>k3 n hn
  have hn0:=A47 hlt
  have hst:=Af9 (st:=⟨[],H4 (i+1) ks r⟩) (E:=E) (w:=w) hn0 (0,0) False (.row e t [] true)
  have r1:=k1.named hn0 (0,0) False (.row e t [] true) (λf=>f.elim) ⟨.inr rfl,λhh=>by simp[Env.at]at hh⟩
  have r1t:=kt.hset (ob:= .row e t [] true) hn0 rfl
  rw[A46 hlt]at r1 hst r1t
  have hsh1:hsh ((i, .row e t [] true)::H4 (i+1) ks r) i=some (.row e t 0):=by simp[hsh,B3,E3]
  refine⟨E.at i (0,0) False,K,r1,r1t,kk.cons (λ_ _ _ _ _ e=>by cases e),k2,λn hn=> ?_,λn hl hh=> ?_, .cons ?_ (k5.mono λ_ _ q=>q.step hst), .cons ?_ (k6.mono λ_ _ q=>q.step hst)⟩
  ·simp only[H4,B3]at hn
   cases hb:Nat.beq i n with
   |true=>exact Nat.le_of_eq (G35 hb)
   |false=>rw[hb]at hn;exact Nat.le_of_succ_le (k3 n hn)
  ·by_cases e':n=i
   ·subst e';simp[Env.at]at hh
   ·have hl':C6 (H4 (i+1) ks r) n:=by
     have hb:Nat.beq i n=false:=by cases hb:Nat.beq i n with|false=>rfl|true=>exact absurd (G35 hb).symm e'
     unfold C6 at hl ⊢
     simpa only[H4,B3,hb,G72]using hl
    have hh':E.has n:=by simpa [Env.at,e']using hh
    simp only[G44,G34]
    refine .inr ?_
    have:=k4 n hl' hh'
    simpa [Env.at,e']using this
  ·refine V1Rel.mkOne ?_
   simp only[CellRel,H4,hsh1]
   exact⟨trivial,A,0,rfl,by simp[I8], .inl rfl⟩
  ·refine VRel.one (c:= .row i none none) ?_
   simp only[CellRel,H4,hsh1]
   exact⟨trivial,A,0,rfl,by simp[I8], .inl rfl⟩
 |@row e t ks xs r g off c vs ds h0 hc h1 h2 h3 h4 h5 h7 h6 ih=>
  intro hB i
  obtain⟨E,K,k1,kt,kk,k2,k3,k4,k5,k6⟩:=ih (λb hb=>hB b (by simp only[G44,G34];exact .inr hb)) (i+1)
  have hlt:∀n,(B3 (H4 (i+1) ks r) n).isSome=true→i<n:=λn hn=>k3 n hn
  have hn0:=A47 hlt
  have hfree:Free E (H4 (i+1) ks r) K w g:=
   ⟨λn hl hh e=>h7 (e▸k4 n hl hh),by rw[k2];exact h5,λhk=> (kk.in_ g hk).elim (λh=>h (hB g (by simp[MD.blk]))) h7,h4⟩
  have hst:=Af9 (st:=⟨[],H4 (i+1) ks r⟩) (E:=E) (w:=w) hn0 (g,off) True (.row e t xs true)
  have r1:=k1.named hn0 (g,off) True (.row e t xs true) (λ_=>hfree) ⟨.inl (by simp[Env.at]),λ_=> ⟨by
   have e1:(E.at i (g,off) True).ρ i=(g,off):=by simp[Env.at]
   rw[e1]
   exact h1.mono (λb hb=>by show E.ok b;rw[k2];exact hb) (λ_ _=>rfl) rfl,λ_=>by simpa [Env.at]using h2,λe=>by cases e⟩⟩
  have r1t:=kt.hset (ob:= .row e t xs true) hn0 rfl
  rw[A46 hlt]at r1 hst r1t
  have hsh1:hsh ((i, .row e t xs true)::H4 (i+1) ks r) i=some (.row e t xs.length):=by simp[hsh,B3,E3]
  have hcell:CellRel (E.at i (g,off) True) ((i, .row e t xs true)::H4 (i+1) ks r) w (.row i none none) (.slice (some ⟨g,off,none⟩) xs.length c):=by
   simp only[CellRel,hsh1]
   exact⟨trivial,some ⟨g,off,none⟩,c,by simp[D0],by simpa [I8]using h0, .inr ⟨by simp[Env.at],by simp[Env.at,I8],by simpa [Env.at,I8]using h3⟩⟩
  refine⟨E.at i (g,off) True,K,r1,r1t,kk.cons (λ_ _ _ _ _ e=>by cases e),k2,λn hn=> ?_,λn hl hh=> ?_, .cons (V1Rel.mkOne hcell) (k5.mono λ_ _ q=>q.step hst), .cons (VRel.one hcell) (k6.mono λ_ _ q=>q.step hst)⟩
  ·simp only[H4,B3]at hn
   cases hb:Nat.beq i n with
   |true=>exact Nat.le_of_eq (G35 hb)
   |false=>rw[hb]at hn;exact Nat.le_of_succ_le (k3 n hn)
  ·by_cases e':n=i
   ·subst e';simp[Env.at,MD.blk]
   ·have hl':C6 (H4 (i+1) ks r) n:=by
     have hb:Nat.beq i n=false:=by cases hb:Nat.beq i n with|false=>rfl|true=>exact absurd (G35 hb).symm e'
     unfold C6 at hl ⊢
     simpa only[H4,B3,hb,G72]using hl
    have hh':E.has n:=by simpa [Env.at,e']using hh
    simp only[G44,G34]
    refine .inr ?_
    have:=k4 n hl' hh'
    simpa [Env.at,e']using this
 |@ntree e t ks r A vs ds h6 ih=>
  intro hB i
  obtain⟨E,K,k1,kt,kk,k2,k3,k4,k5,k6⟩:=ih (λb hb=>hB b (by simpa [MD.blk]using hb)) (i+1)
  have hlt:∀n,(B3 (H4 (i+1) ks r) n).isSome=true→i<n:=λn hn=>k3 n hn
  have hn0:=A47 hlt
  have hst:=Af9 (st:=⟨[],H4 (i+1) ks r⟩) (E:=E) (w:=w) hn0 (0,0) False (.tree e t [] 0)
  obtain⟨r1,r1t⟩:=k1.newTree0 kt hn0 e t 0
  rw[A46 hlt]at r1 hst r1t
  have hsh1:hsh ((i, .tree e t [] 0)::H4 (i+1) ks r) i=some (.row e t 0):=by simp[hsh,B3,E3]
  refine⟨E.at i (0,0) False,K.plus0 i,r1,r1t,(kk.cons (λ_ _ _ _ _ e=>by cases e)).plus0 i,k2,λn hn=> ?_,λn hl hh=> ?_, .cons ?_ (k5.mono λ_ _ q=>q.step hst), .cons ?_ (k6.mono λ_ _ q=>q.step hst)⟩
  ·simp only[H4,B3]at hn
   cases hb:Nat.beq i n with
   |true=>exact Nat.le_of_eq (G35 hb)
   |false=>rw[hb]at hn;exact Nat.le_of_succ_le (k3 n hn)
  ·by_cases e':n=i
   ·subst e';simp[Env.at]at hh
   ·have hl':C6 (H4 (i+1) ks r) n:=by
     have hb:Nat.beq i n=false:=by cases hb:Nat.beq i n with|false=>rfl|true=>exact absurd (G35 hb).symm e'
     unfold C6 at hl ⊢
     simpa only[H4,B3,hb,G72]using hl
    have hh':E.has n:=by simpa [Env.at,e']using hh
    simp only[G44,G34]
    refine .inr ?_
    have:=k4 n hl' hh'
    simpa [Env.at,e']using this
  ·refine V1Rel.mkOne ?_
   simp only[CellRel,H4,hsh1]
   exact⟨trivial,A,0,rfl,by simp[I8], .inl rfl⟩
  ·refine VRel.one (c:= .row i none none) ?_
   simp only[CellRel,H4,hsh1]
   exact⟨trivial,A,0,rfl,by simp[I8], .inl rfl⟩
 |@tree e t ks xs r g off c ns β vs ds h0 hc h1 h2 h3 h4 h6 ih=>
  intro hB i
  obtain⟨E,K,k1,kt,kk,k2,k3,k4,k5,k6⟩:=ih (λb hb=>hB b (by simp only[G44,G34];exact .inr hb)) (i+1)
  have hlt:∀n,(B3 (H4 (i+1) ks r) n).isSome=true→i<n:=λn hn=>k3 n hn
  have hn0:=A47 hlt
  have hfree:∀b∈g::ns,Free E (H4 (i+1) ks r) K w b:=λb hb=>by
   obtain⟨g1,g2,g3⟩:=h4 b hb
   exact⟨λn hl hh e=>g3 (e▸k4 n hl hh),by rw[k2];exact g2,λhk=> (kk.in_ b hk).elim (λh=>h (hB b (by simp only[G44,G34,MD.blk];exact .inl hb))) g3,g1⟩
  have hst:=Af9 (st:=⟨[],H4 (i+1) ks r⟩) (E:=E) (w:=w) hn0 (g,off) True (.tree e t xs 0)
  obtain⟨r1,r1t⟩:=k1.newTree kt hn0 e 0 hfree h2 h1
  rw[A46 hlt]at r1 hst r1t
  have hsh1:hsh ((i, .tree e t xs 0)::H4 (i+1) ks r) i=some (.row e t xs.length):=by simp[hsh,B3,E3]
  have hcell:CellRel (E.at i (g,off) True) ((i, .tree e t xs 0)::H4 (i+1) ks r) w (.row i none none) (.slice (some ⟨g,off,none⟩) xs.length c):=by
   simp only[CellRel,hsh1]
   exact⟨trivial,some ⟨g,off,none⟩,c,by simp[D0],by simpa [I8]using h0, .inr ⟨by simp[Env.at],by simp[Env.at,I8],by simpa [Env.at,I8]using h3⟩⟩
  have kk':KOk w ok B (.tree g off c ns β::ds) (K.plus i g off ns β):=by
   refine⟨λb hb hn=> .inl (kk.old b hb hn),λb hb=> ?_,λb hb=>kk.o b hb.1,λb hb=> ?_,λg' off' c' ns' β' hm=> ?_⟩
   ·simp only[G44,G34,MD.blk]
    exact hb.elim (λhb=> (kk.in_ b hb).imp id .inr) λhb=> .inr (.inl hb)
   ·simp only[G44,G34,MD.blk]
    exact hb.elim (λhb=> .inr (kk.p b hb)) .inl
   ·cases hm with
    |head=>exact⟨.inr G39,by simp[Keep.plus]⟩
    |tail _ hm=>
     obtain⟨q1,q2⟩:=kk.b0 _ _ _ _ _ hm
     have hne:g'≠g:=λe=> (hfree g G39).2.2.1 (e▸q1)
     exact⟨.inl q1,by simpa [Keep.plus,hne]using q2⟩
  refine⟨E.at i (g,off) True,K.plus i g off ns β,r1,r1t,kk',k2,λn hn=> ?_,λn hl hh=> ?_, .cons (V1Rel.mkOne hcell) (k5.mono λ_ _ q=>q.step hst), .cons (VRel.one hcell) (k6.mono λ_ _ q=>q.step hst)⟩
  ·simp only[H4,B3]at hn
   cases hb:Nat.beq i n with
   |true=>exact Nat.le_of_eq (G35 hb)
   |false=>rw[hb]at hn;exact Nat.le_of_succ_le (k3 n hn)
  ·by_cases e':n=i
   ·subst e';simp[Env.at,MD.blk]
   ·have hl':C6 (H4 (i+1) ks r) n:=by
     have hb:Nat.beq i n=false:=by cases hb:Nat.beq i n with|false=>rfl|true=>exact absurd (G35 hb).symm e'
     unfold C6 at hl ⊢
     simpa only[H4,B3,hb,G72]using hl
    have hh':E.has n:=by simpa [Env.at,e']using hh
    simp only[G44,G34]
    refine .inr ?_
    have:=k4 n hl' hh'
    simpa [Env.at,e']using this
section
variable {β : Nat → Nat → Nat → Option (Nat × Nat)}
theorem F63 (h:RelE E st saved a S w w K) (hT:TFB st.heap w K β):∀(t:Ty) {md:List Md} {cs:List Cell} {x:El t} {md':List Md} {cs':List Cell} {ns:List Nat},(∀b∈md,b= .s)→Ap2 st.heap t md cs=some (x,md',cs',ns)→
  (∀b∈md',b= .s)∧∀{vs:List Value},All2 (CellRel E st.heap w) cs vs→∃v1 v2,vs=v1++v2∧Imm E.ok w t x v1∧All2 (CellRel E st.heap w) cs' v2:=by
 intro t
 induction t with
 |nil=>
  intro md cs x md' cs' ns hf ho
  simp only[Ap2,G43,Prod.mk.injEq]at ho
  obtain⟨_,rfl,rfl,rfl⟩:=ho
  exact⟨hf,λ{vs} hv=> ⟨[],vs,rfl,rfl,hv⟩⟩
 |fld p q ihp ihq=>
  intro md cs x md' cs' ns hf ho
  simp only[Ap2]at ho
  split at ho
  ·rename_i y md1 cs1 ns1 h1
   split at ho
   ·rename_i z md2 cs2 ns2 h2
    simp only[G43,Prod.mk.injEq]at ho
    obtain⟨rfl,rfl,rfl,rfl⟩:=ho
    obtain⟨f1,g1⟩:=ihp hf h1
    obtain⟨f2,g2⟩:=ihq f1 h2
    refine⟨f2,λ{vs} hv=> ?_⟩
    obtain⟨v1,v2,rfl,i1,hv2⟩:=g1 hv
    obtain⟨v3,v4,rfl,i2,hv4⟩:=g2 hv2
    exact⟨v1++v3,v4,by rw[G46],⟨v1,v3,rfl,i1,i2⟩,hv4⟩
   ·cases ho
  ·cases ho
 |int k=>
  intro md cs x md' cs' ns hf ho
  cases cs with
  |nil=>cases ho
  |cons c cs=>cases c with
   |int j n=>
    simp only[Ap2]at ho
    by_cases e:k=j
    ·subst e
     simp only[G56,G52,G43,Prod.mk.injEq]at ho
     obtain⟨rfl,rfl,rfl,rfl⟩:=ho
     refine⟨hf,λ{vs} hv=> ?_⟩
     cases hv with
     |@cons _ v _ vs' p q=>
      have e:v= .int k n:=p
      subst e
      exact⟨[_],vs',rfl,rfl,q⟩
    ·simp[e]at ho
   |_=>cases ho
 |bool=>
  intro md cs x md' cs' ns hf ho
  cases cs with
  |nil=>cases ho
  |cons c cs=>cases c with
   |bool b=>
    simp only[Ap2,G43,Prod.mk.injEq]at ho
    obtain⟨rfl,rfl,rfl,rfl⟩:=ho
    refine⟨hf,λ{vs} hv=> ?_⟩
    cases hv with
    |@cons _ v _ vs' p q=>
     have e:v= .bool b:=p
     subst e
     exact⟨[_],vs',rfl,rfl,q⟩
   |_=>cases ho
 |str=>
  intro md cs x md' cs' ns hf ho
  cases cs with
  |nil=>cases ho
  |cons c cs=>cases c with
   |str b=>
    simp only[Ap2,G43,Prod.mk.injEq]at ho
    obtain⟨rfl,rfl,rfl,rfl⟩:=ho
    refine⟨hf,λ{vs} hv=> ?_⟩
    cases hv with
    |@cons _ v _ vs' p q=>
     have e:v= .string b:=p
     subst e
     exact⟨[_],vs',rfl,rfl,q⟩
   |_=>cases ho
 |slice e t _=>
  intro md cs x md' cs' ns hf ho
  cases cs with
  |nil=>cases md<;>cases ho
  |cons c cs=>cases md with
   |nil=>cases ho
   |cons own md=>
    have ho0:own= .s:=hf own G39
    subst ho0
    simp only[Ap2]at ho
    split at ho
    ·rename_i xs ns1 h1
     simp only[G43,Prod.mk.injEq]at ho
     obtain⟨rfl,rfl,rfl,rfl⟩:=ho
     refine⟨λb hb=>hf b (G38 _ hb),λ{vs} hv=> ?_⟩
     cases hv with
     |@cons _ v _ vs' p q=>
      obtain⟨bs,hr,_⟩:=Dm5 h hT h1 p
      obtain⟨_,hc⟩:=hr
      exact⟨[v],vs',rfl,hc,q⟩
    ·cases ho
theorem F64:∀b∈shr,b= .s:=λb hb=>by
 unfold shr at hb
 exact List.eq_of_mem_replicate hb
theorem Fd3 {ok:Nat→Prop} (h:RelE E st saved a S w' w' K) (hT:TFB st.heap w' K β) {K0:Keep} (hD:Dr w K0 w' K) {ks:List PK} {x:PArgs ks} {vs:List Value} {ds:List MD} (hp:PRel ok w ks x vs ds):(∀g off c ns β,MD.tree g off c ns β∈ds→K0.k g∧K0.b0 g=β)→∀{tmps:List VV} {y:PoT ks} {ns:List Nat},B15 st.heap ks tmps=some (y,ns)→
  All2 (VRel E st.heap w') tmps vs→PostOk E.ok w' ds (poV ks y)∧(∀b∈ds.flatMap MD.blk,∃n∈ns,∃l,Fq2 E st.heap K β n l∧b∈l):=by
 induction hp with
 |nil=>
  intro hb0 tmps y ns ho hv
  exact⟨.nil,λb hb=>by simp at hb⟩
 |imm h1 h2 ih=>
  intro hb0 tmps y ns ho hv
  cases hv with
  |cons p q=>exact ih hb0 ho q
 |@box t ks x r g p cs vs ds h1 h2 h3 h4 h5 h6 ih=>
  intro hb0 tmps y ns ho hv
  cases hv with
  |@cons v _ tmps _ pv q=>
   simp only[B15]at ho
   split at ho
   ·rename_i n
    split at ho
    ·rename_i cs' hg
     split at ho
     ·rename_i z md' ns' ht
      split at ho
      ·rename_i pp hpp
       simp only[G43,Prod.mk.injEq]at ho
       obtain⟨rfl,rfl⟩:=ho
       obtain⟨i1,i2⟩:=ih (λg off c ns β hm=>hb0 g off c ns β (G38 _ hm)) hpp q
       obtain⟨m,_,hV⟩:=V1Rel.one pv
       obtain⟨hh,us,hus,hcell⟩:=h.ob n _ hg
       obtain⟨v1,v2,e1,hi,hv2⟩:=(F63 h hT t F64 ht).2 hus
       cases hv2
       rw[G59]at e1
       subst e1
       simp only[Value.pointer.injEq,G43,Addr.mk.injEq,G69,and_true]at hV
       have hρ:E.ρ n=(g,p):=Prod.ext hV.1.symm hV.2.symm
       refine⟨.box hi (by rw[hρ]at hcell;exact hcell) i1,λb hb=> ?_⟩
       simp only[G44,MD.blk,G84,G67]at hb
       rcases hb with rfl|hb
       ·exact⟨n,G39,[(E.ρ n).1],⟨by simp, .inl ⟨hh,by unfold C6;rw[hg];trivial,rfl⟩⟩,by rw[hρ];exact G48.2 rfl⟩
       ·obtain⟨m',g1,g2⟩:=i2 b hb
        exact⟨m',G38 _ g1,g2⟩
      ·cases ho
     ·cases ho
    ·cases ho
   ·cases ho
 |@nrow e t ks r A vs ds h6 ih=>
  intro hb0 tmps y ns ho hv
  cases hv with
  |@cons v _ tmps _ pv q=>
   simp only[B15]at ho
   split at ho
   ·rename_i n
    split at ho
    ·rename_i e' t' ys hg
     cases hb:Nat.beq e e' with
     |false=>rw[hb]at ho;cases ho
     |true=>
      rw[hb]at ho
      simp only[G52]at ho
      split at ho
      ·rename_i zs hz
       split at ho
       ·rename_i pp hpp
        simp only[G43,Prod.mk.injEq]at ho
        obtain⟨rfl,rfl⟩:=ho
        obtain⟨i1,i2⟩:=ih (λg off c ns β hm=>hb0 g off c ns β (G38 _ hm)) hpp q
        refine⟨.none i1,λb hb=> ?_⟩
        simp only[G44,MD.blk,G60]at hb
        obtain⟨m',g1,g2⟩:=i2 b hb
        exact⟨m',G38 _ g1,g2⟩
       ·cases ho
      ·cases ho
    ·cases ho
   ·cases ho
 |@row e t ks xs r g off c vs ds h0 hc h1 h2 h3 h4 h5 h7 h6 ih=>
  intro hb0 tmps y ns ho hv
  cases hv with
  |@cons v _ tmps _ pv q=>
   simp only[B15]at ho
   split at ho
   ·rename_i n
    split at ho
    ·rename_i e' t' ys hg
     cases hb:Nat.beq e e' with
     |false=>rw[hb]at ho;cases ho
     |true=>
      rw[hb]at ho
      simp only[G52]at ho
      split at ho
      ·rename_i zs hz
       obtain⟨rfl,rfl⟩:=D4 hz
       split at ho
       ·rename_i pp hpp
        simp only[G43,Prod.mk.injEq]at ho
        obtain⟨rfl,rfl⟩:=ho
        obtain⟨i1,i2⟩:=ih (λg off c ns β hm=>hb0 g off c ns β (G38 _ hm)) hpp q
        have hs1:hsh st.heap n=some (.row e' t' ys.length):=by simp[hsh,hg,E3]
        have hcell:=V1Rel.one pv
        simp only[CellRel,hs1]at hcell
        obtain⟨_,A,c',hV,hle,hx⟩:=hcell
        injection hV with e1 e2 e3
        subst e3
        rcases hx with hx|⟨hh,hA,hR⟩
        ·omega
        ·have hρ:E.ρ n=(g,off):=by
          rw[←e1]at hA
          simp only[I8,Hd2,G69,G43,Addr.mk.injEq,and_true]at hA
          exact Prod.ext hA.1.symm hA.2.symm
         obtain⟨_,hob⟩:=h.ob n _ hg
         obtain⟨hat,hnf,_⟩:=hob hh
         rw[hρ]at hat hnf
         refine⟨.row hat (hnf rfl) i1,λb hb=> ?_⟩
         simp only[G44,MD.blk,G84,G67]at hb
         rcases hb with rfl|hb
         ·exact⟨n,G39,[(E.ρ n).1],⟨by simp, .inl ⟨hh,by unfold C6;rw[hg];trivial,rfl⟩⟩,by rw[hρ];exact G48.2 rfl⟩
         ·obtain⟨m',g1,g2⟩:=i2 b hb
          exact⟨m',G38 _ g1,g2⟩
       ·cases ho
      ·cases ho
    ·cases ho
   ·cases ho
 |@ntree e t ks r A vs ds h6 ih=>
  intro hb0 tmps y ns ho hv
  cases hv with
  |@cons v _ tmps _ pv q=>
   simp only[B15]at ho
   split at ho
   ·rename_i n
    split at ho
    ·rename_i e' t' ys fl hg
     cases hb:(Nat.beq e e'&&(Nat.beq fl 0||Nat.beq fl 2))with
     |false=>rw[hb]at ho;cases ho
     |true=>
      rw[hb]at ho
      simp only[G52]at ho
      split at ho
      ·rename_i zs hz
       split at ho
       ·rename_i pp hpp
        simp only[G43,Prod.mk.injEq]at ho
        obtain⟨rfl,rfl⟩:=ho
        obtain⟨i1,i2⟩:=ih (λg off c ns β hm=>hb0 g off c ns β (G38 _ hm)) hpp q
        refine⟨.noneT i1,λb hb=> ?_⟩
        simp only[G44,MD.blk,G60]at hb
        obtain⟨m',g1,g2⟩:=i2 b hb
        exact⟨m',G38 _ g1,g2⟩
       ·cases ho
      ·cases ho
    ·cases ho
   ·cases ho
 |@tree e t ks xs r g off c ns0 β0 vs ds h0 hc h1 h2 h3 h4 h6 ih=>
  intro hb0 tmps y ns ho hv
  cases hv with
  |@cons v _ tmps _ pv q=>
   simp only[B15]at ho
   split at ho
   ·rename_i n
    split at ho
    ·rename_i e' t' ys fl hg
     cases hb:(Nat.beq e e'&&(Nat.beq fl 0||Nat.beq fl 2))with
     |false=>rw[hb]at ho;cases ho
     |true=>
      rw[hb]at ho
      simp only[G52]at ho
      simp only[G37]at hb
      have hfl:Fx fl:=by
       have:=hb.2
       simp only[Bool.or_eq_true]at this
       exact this.imp G35 G35
      split at ho
      ·rename_i zs hz
       obtain⟨rfl,rfl⟩:=D4 hz
       split at ho
       ·rename_i pp hpp
        simp only[G43,Prod.mk.injEq]at ho
        obtain⟨rfl,rfl⟩:=ho
        obtain⟨i1,i2⟩:=ih (λg off c ns β hm=>hb0 g off c ns β (G38 _ hm)) hpp q
        have hs1:hsh st.heap n=some (.row e' t' ys.length):=by simp[hsh,hg,E3]
        have hcell:=V1Rel.one pv
        simp only[CellRel,hs1]at hcell
        obtain⟨_,A,c',hV,hle,hx⟩:=hcell
        injection hV with e1 e2 e3
        subst e3
        rcases hx with hx|⟨hh,hA,hR⟩
        ·omega
        ·obtain⟨hta,eρ⟩:=h.ta n _ hg rfl
         have hth:=hta.1 hh
         obtain⟨hat,hmine⟩:=(hT.tr n _ _ _ _ hg).2 hth
         have hρ:K.ta n=(g,off):=by
          rw[←e1,eρ]at hA
          simp only[I8,Hd2,G69,G43,Addr.mk.injEq,and_true]at hA
          exact Prod.ext hA.1.symm hA.2.symm
         obtain⟨q1,q2⟩:=hb0 _ _ _ _ _ G39
         have hβ:β n=β0:=by
          have:=hT.fx n _ _ _ _ hg hfl hth
          rw[this,hρ]
          exact(hD.b0 g q1).trans q2
         rw[hρ,hβ]at hat
         refine⟨.tree hat i1,λb hb=> ?_⟩
         simp only[G44,MD.blk,G34]at hb
         rcases hb with hb|hb
         ·refine⟨n,G39,[b],⟨by simp, .inr ⟨⟨_,_,_,_,hg⟩,hth,λb' hb'=> ?_⟩⟩,G48.2 rfl⟩
          rw[G48.1 hb']
          cases hb with
          |head=>exact .inl (by rw[hρ])
          |tail _ hb=>exact .inr (by rw[hβ];exact(h2 b).1 hb)
         ·obtain⟨m',g1,g2⟩:=i2 b hb
          exact⟨m',G38 _ g1,g2⟩
       ·cases ho
      ·cases ho
    ·cases ho
   ·cases ho
end
theorem A48:∀(ks:List PK) (y:PoT ks) {ok:Nat→Prop} {w:World} {ds:List MD},PostOk ok w ds (poV ks y)→Ap1 ds (poV ks y)=[]
 | [],_,_,_,_,h=>by cases h;rfl
 | .imm _::ks,y,_,_,_,h=>A48 ks y h
 | .box t::ks,y,_,_,_,h=>by
  cases h with
  |box _ _ p=>simp only[poV,Ap1];exact A48 ks y.2 p
 | .row _ t::ks,y,_,_,_,h=>by
  cases h with
  |row _ _ p=>simp only[poV,Ap1];exact A48 ks y.2 p
  |none p=>simp only[poV,Ap1];exact A48 ks y.2 p
 | .tree _ t::ks,y,_,_,_,h=>by
  cases h with
  |tree _ p=>simp only[poV,Ap1];exact A48 ks y.2 p
  |noneT p=>simp only[poV,Ap1];exact A48 ks y.2 p
theorem F65 (hG:Ok P cfg) (hm:P.follows .mixedOrders=true) (hfn:∀f fn,look cfg.inl f=some fn→P.funcs[f]? =some fn) {d:Nat} {f:FuncId} (ks:List PK) (rs:List Ty) (md:List Md) (G:PArgs ks→Option (ResT rs×PoT ks))
  (hrun:∀x,Fc7 cfg (El2 rs md ks) d f (Ct4 1 ks x) (ms1 ks x)=G x):C06 P f (mkM (λr=>Cl4 rs md r.1) (λr=>poV ks r.2) ks G):=by
 intro ok w hok hE
 refine Ct5 ks G [] [] λx vs ds hp _ he a ha=> ?_
 simp only[G60]
 have h0:=hrun x
 rw[ha]at h0
 have hEK:∀K0:Keep,KOk w ok (λb=>b∈ds.flatMap MD.blk) ds K0→∀g,D28=some g→(K0.k g∧¬K0.p g)∧ErrCell w g:=λK0 rk g hg=>by
  have hn:g∉ds.flatMap MD.blk:=by simpa using he g hg
  have hc:=hE g hg
  exact⟨⟨rk.old g (hc.lt) hn,λhp=>hn (rk.p g hp)⟩,hc⟩
 obtain⟨E,K0,r0,rt,rk,e1,_,_,hargs,htm⟩:=Ey8 hok (λb=>b∈ds.flatMap MD.blk) hp (λb hb=>hb) 1
 have r1:RelX E (ms1 ks x).st (ms1 ks x).saved ⟨vs.toArray,[]⟩ [] w w K0:=
  ⟨w,K0,⟨Dr.refl _ _,hEK K0 rk⟩,rt,⟨(htm:All2 (VRel E (ms1 ks x).st.heap w) (ms1 ks x).st.tmps vs),rfl, .nil,r0.ob,r0.dj,r0.dk,r0.bd,r0.bo,r0.kp,r0.os,r0.tape,r0.out,r0.size,r0.oz,r0.rm,r0.ta⟩⟩
 refine F08 hG hm hfn h0 r1 hargs _ λv V m0 w' E0 k1 k20 k30=> ⟨V,rfl, ?_⟩
 obtain⟨w1,K1,kD0,kT0,kE⟩:=k20
 obtain⟨E',k20,k5⟩:=Bo8 (shV m0.st.heap rs md v++shP m0.st.heap ks m0.st.tmps) kE
 have k2:=k20.rebase0
 obtain⟨β,kT⟩:=k20.now (D17 (shV m0.st.heap rs md v++shP m0.st.heap ks m0.st.tmps) kT0)
 have kD:=(kD0.trans k20.drift).toDr
 have k3:=k30.step k5
 unfold El2 at k1
 change RelE E' (Fd0 (shV m0.st.heap rs md v++shP m0.st.heap ks m0.st.tmps) m0).st (Fd0 (shV m0.st.heap rs md v++shP m0.st.heap ks m0.st.tmps) m0).saved _ _ _ _ _ at k2
 change TFB (Fd0 (shV m0.st.heap rs md v++shP m0.st.heap ks m0.st.tmps) m0).st.heap w' K1 β at kT
 change VRel E' (Fd0 (shV m0.st.heap rs md v++shP m0.st.heap ks m0.st.tmps) m0).st.heap w' v V at k3
 generalize Fd0 (shV m0.st.heap rs md v++shP m0.st.heap ks m0.st.tmps) m0=m' at k1 k2 k3 kT
 have fin:∀{ys:List V1} {Vs:List Value} {p:ResT rs×List Nat},Be5 m'.st.heap rs md ys=some p→(match B15 m'.st.heap ks m'.st.tmps with
   |some q=>bif E8 (p.2++q.2)then some (p.1,q.1)else none
   |none=>none)=some a→All2 (V1Rel E' m'.st.heap w') ys Vs→V=Dl8 Vs→RetM ok w w' (Cl4 rs md a.1) V ds (poV ks a.2):=by
  intro ys Vs p h1 h2 h3 h4
  split at h2
  ·rename_i q hq
   cases hd:E8 (p.2++q.2)with
   |false=>rw[hd]at h2;cases h2
   |true=>
    rw[hd]at h2
    simp only[G52,G43]at h2
    subst h2
    obtain⟨hd1,hd2,hd3⟩:=F4 hd
    obtain⟨bs,hres,ps,hsub,rfl,hown⟩:=Bo7 k2 kT rs (y:=p.1) (ns:=p.2) h1 h3
    obtain⟨hpo,hblk⟩:=Fd3 k2 kT kD hp rk.b0 (y:=q.1) (ns:=q.2) hq (by simpa using k2.tm)
    have hgone:=A48 ks q.1 hpo
    have hgood:∀b,E'.ok b→ok b∨(E'.ok b∧w.heap.size≤b):=by
     intro b hb
     rcases G96 b w.heap.size with hlt|hge
     ·by_cases hB:b∈ds.flatMap MD.blk
      ·obtain⟨n,_,l,g3,g4⟩:=hblk b hB
       exact absurd hb (Ey4 k2 kT kD g3 b g4).2.1
      ·have hk:=rk.old b hlt hB
       exact .inl (rk.o b (kD.o b hk (k2.oz b hb (kD.k b hk).1)))
     ·exact .inr ⟨hb,hge⟩
    refine⟨kD.os,kD.tape,kD.out,kD.size,λb hb hB=> (kD.k b (rk.old b hb hB)).2 λhp=>hB (rk.p b hp),kD.rm,λb=>E'.ok b∧w.heap.size≤b,Vs,ps.flatMap Prod.snd,λb hb=> ⟨hb.2,k2.bo b hb.1⟩, ?_, ?_, ?_,h4,hpo.mono hgood⟩
    ·exact hres.imp λ_ _ rc _ u bs hrc=>hrc.mono hgood
    ·exact Dh4 k2 kT ps (hsub.nodup (A45 hd1)) hown
    ·intro b hb
     obtain⟨pr,hpr,hb⟩:=Hb3.1 hb
     obtain⟨a1,a2,a3⟩:=Ey4 k2 kT kD (hown pr hpr) b hb
     left
     refine⟨?_,a1,λhk=>a2 hk.1⟩
     rcases G96 b w.heap.size with hlt|hge
     ·by_cases hB:b∈ds.flatMap MD.blk
      ·obtain⟨n2,g1,l2,g3,g4⟩:=hblk _ hB
       have hne:pr.1≠n2:=λe=>hd3 pr.1 (hsub.subset (G79.2 ⟨pr,hpr,rfl⟩)) (e▸g1)
       exact absurd g4 (Es5 k2 kT hne (hown pr hpr) g3 b hb)
      ·exact absurd (rk.p b (a3 (rk.old b hlt hB))) hB
     ·exact hge
  ·cases h2
 unfold Gm8 at k1
 cases v with
 |un=>cases k1
 |v x'=>
  simp only at k1
  split at k1
  ·rename_i p hp'
   exact fin hp' k1 (.cons k3 .nil) rfl
  ·cases k1
 |tup xs=>
  obtain⟨Vs,hx,rfl⟩:=k3
  cases hx with
  |nil=>
   simp only at k1
   split at k1
   ·rename_i p hp'
    exact fin hp' k1 .nil rfl
   ·cases k1
  |cons p q=>cases q with
   |nil=>cases k1
   |cons p' q'=>
    simp only at k1
    split at k1
    ·rename_i z hp'
     exact fin hp' k1 (.cons p (.cons p' q')) rfl
    ·cases k1
end
end Go.Vm
end
end
section
section
namespace Go.Vm
open Go
def Ey9 (ok:Nat→Prop) (w:World):(ts:List Ty)→Args ts→List Value→Prop
 | [],_,vs=>vs=[]
 |t::ts,x,vs=> ∃v r,vs=v::r∧Be3 ok w t x.1 v∧Ey9 ok w ts x.2 r
section
variable {H : Type} {enc : TypeId × Value → H} {P : Program} {W W' : World} {base : Nat}
theorem Fd4 {sp:Nat→Bool} {held:Bool}:∀(ts:List Ty) {Ts:List TypeId} {vs:List Value} {ds:List (DataW H)} {ps:List MemPlace},F10 P ts Ts→DataW.TrodAll enc P W 0 sp held Ts vs ds ps→
  (∀(j:Nat) T v,Ts[j]? =some T→vs[j]? =some v→Value.okWide P W .any base T v)→
  ∃x:Args ts,Ey9 (C15 W) W ts x vs∧Ey5 ts x∧Fq6 ts x ds
 | [],[],[],[],ps,_,h,_=> ⟨(),rfl,trivial,rfl⟩
 |t::ts,T::Ts,v::vs,d::ds,ps,hok,h,hw=>by
  obtain⟨p,q,⟨n,h1⟩,h2,rfl⟩:=h
  obtain⟨ho,hp,hoks⟩:=hok
  obtain⟨x,hi,hwf,hd⟩:=(Fq5 t hp).1 T n _ _ ho h1
  obtain⟨xs,hx,hwfs,hds⟩:=Fd4 ts hoks h2 (λj T v h3 h4=>hw (j+1) T v (by simpa using h3) (by simpa using h4))
  exact⟨(x,xs),⟨v,vs,rfl,Gl7 ho (hw 0 T v rfl rfl) hi,hx⟩,⟨hwf,hwfs⟩,d,ds,rfl,hd,hds⟩
 | [],_::_,_,_,_,hok,_,_=>hok.elim
 |_::_,[],_,_,_,hok,_,_=>hok.elim
 | [],[],_::_,_,_,_,h,_=>by cases‹List (DataW H)›<;>exact h.elim
 | [],[],[],_::_,_,_,h,_=>h.elim
 |_::_,_::_,[],_,_,_,h,_=>h.elim
 |_::_,_::_,_::_,[],_,_,h,_=>h.elim
theorem Dm8 {f:FuncId} {ok:Nat→Prop} {w:World} {α:Type} {out:α→List (Bool×List RC)}:∀(ts:List Ty) (G:Args ts→Option α) (pre:List Value),D45 P f ok w (B61 out ts G) pre→
  ∀(x:Args ts) (vs:List Value),Ey9 ok w ts x vs→∀a,G x=some a→Calls P f (pre++vs).toArray w λe w'=> ∃V,e= .returned V∧Ret ok w w' (out a) V
 | [],G,pre,h,x,vs,hx,a,ha=>by
  have:vs=[]:=hx
  subst this
  rw[G59]
  exact h a ha
 |t::ts,G,pre,h,x,vs,hx,a,ha=>by
  obtain⟨v,r,rfl,h1,h2⟩:=hx
  have:=Dm8 ts _ (pre++ [v]) (h x.1 v h1) x.2 r h2 a ha
  rwa [G46]at this
theorem Ez0 {f:FuncId} {fn:Func} {s:ChangeSpec} {O7 handsOn again:Bool} {T:TypeId} (ts:List Ty)
  (hts:F10 P ts fn.params.toList) (hl:laidOutB P=true) (hp:fn.params.toList.all (λt=>P.readableRec t&&decide (t<P.types.size))=true) (hv:s.vars=[]) (hr:fn.resultTypes= #[T]) (hT:P.underlying T=some .bool)
  (hEr:D44 W) (hsp:∀ds:List (DataW H),ds.length=ts.length→s.fn H ds={results:=[.lit (.bool true)],args:=ds})
  (G:Nat→Args ts→Option Bool) (hs:∀k,t7 P f (B61 (Cl4 [.bool] []) ts (G k))) (hG:∀x:Args ts,Ey5 ts x→∃k,G k x=some true)
  (args:Array Value) (ds gs:List (DataW H)) (before:List MemPlace)
  (hval:∀(j:Nat) t v,fn.params[j]? =some t→args[j]? =some v→Value.okWide P W .any base t v)
  (hW:DataW.Whole enc P fn.params.toList s.vars false W args.toList ds gs before):
  Calls P f args W λe W'=> ∃v,e= .returned v∧s.post enc P fn false O7 handsOn again W args v W':=by
 have hW':=hW
 obtain⟨p,q,hA,hV,rfl,hfz,hnd⟩:=hW
 obtain⟨x,hx,hwf,hd⟩:=Fd4 ts hts hA (λj t v h1 h2=>hval j t v (by simpa using h1) (by simpa using h2))
 obtain⟨k,hk⟩:=hG x hwf
 have hcalls:=Dm8 ts (G k) [] (hs k (C15 W) W (λb hb=>hb) hEr) x _ hx true hk
 rw[G60,Array.toArray_toList]at hcalls
 have hlen:∀(ts:List Ty) (x:Args ts) (ds:List (DataW H)),Fq6 ts x ds→ds.length=ts.length:=by
  intro ts
  induction ts with
  |nil=>intro x ds h;have:ds=[]:=h;subst this;rfl
  |cons t ts ih=>intro x ds h;obtain⟨d,ds',rfl,_,h2⟩:=h;simp[ih _ _ h2]
 have hg:gs=[]:=by
  rw[hv]at hV
  cases gs with
  |nil=>rfl
  |cons _ _=>exact hV.elim
 subst hg
 refine hcalls.mono λe W' ⟨V,he,hret⟩=> ⟨V,he, ?_⟩
 obtain⟨good,Vs,bs,_,hres,_,_,hV'⟩:=hret.res
 refine Gg2 hl (λt ht=> ?_) hv hr hT (by rw[G59];exact hsp ds (hlen _ _ _ hd)) hW' hret.os hret.put hret.same ?_
 ·have:=G90.1 hp t ht
  simpa using this
 ·have hres':ResRel (λb=>C15 W b∨good b) W' [(false,[RC.c (.bool true)])] Vs bs:=hres
  cases hres' with
  |cons h1 h2 h3=>
   cases h3
   cases h1 with
   |cons h4 h5=>
    cases h5
    obtain⟨_,h6⟩:=h4
    have h7:_=Value.bool true:=h6
    rcases h2 with⟨h8,_⟩|⟨_,h8⟩
    ·cases h8
    ·simp only[List.cons.injEq,and_true]at h8
     rw[hV',←h8,h7];rfl
end
end Go.Vm
end
end
section
section
namespace Go.Vm
open Go
section
variable {α β R : Type}
@[simp] theorem br_true (x y : Option R) : br true x y = x := rfl
@[simp] theorem br_false (x y : Option R) : br false x y = y := rfl
@[simp] theorem gd_true (x : Option R) : gd true x = x := rfl
@[simp] theorem gd_false (x : Option R) : gd false x = none := rfl
@[simp] theorem ng_true (x : Option R) : ng true x = none := rfl
@[simp] theorem ng_false (x : Option R) : ng false x = x := rfl
@[simp] theorem bd_some (a : α) (f : α → Option R) : bd (some a) f = f a := rfl
@[simp] theorem bd_none (f : α → Option R) : bd none f = none := rfl
theorem Ct6 (b:Bool) (x y:Option R):br (!b) x y=br b y x:=by cases b<;>rfl
def Ev (f:Nat→Option R) (a:R):Prop:=∃K,∀k,K≤k→f k=some a
theorem Ev.of {f:Nat→Option R} {a:R} (h:∀k,f k=some a):Ev f a:=⟨0,λk _=>h k⟩
theorem Ev.bd {f:Nat→Option α} {a:α} {g:Nat→α→Option R} {r:R} (h:Ev f a) (h2:Ev (λk=>g k a) r):Ev (λk=>Vm.bd (f k) (g k)) r:=by
 obtain⟨K,hK⟩:=h
 obtain⟨L,hL⟩:=h2
 exact⟨max K L,λk hk=>by show Vm.bd (f k) (g k)=some r;rw[hK k (by omega),bd_some];exact hL k (by omega)⟩
theorem Ev.congr {f g:Nat→Option R} {a:R} (h:Ev f a) (e:∀k,g k=f k):Ev g a:=by
 obtain⟨K,hK⟩:=h
 exact⟨K,λk hk=>by rw[e k];exact hK k hk⟩
theorem Ev.congr_val {f g:Nat→Option R} {a b:R} (h:Ev f a) (e:∀k,g k=f k) (e2:a=b):Ev g b:=by subst e2;exact h.congr e
theorem Ev.gd {f:Nat→Option R} {b:Bool} {a:R} (hb:b=true) (h:Ev f a):Ev (λk=>Vm.gd b (f k)) a:=by subst hb;exact h
theorem Ev.exists {f:Nat→Option R} {a:R} (h:Ev f a):∃k,f k=some a:=by
 obtain⟨K,hK⟩:=h
 exact⟨K,hK K (G53 _)⟩
theorem Gp2 {l:Nat→Nat→Nat→Option R} {N:Nat} {r:R} (hs:∀i,i<N→∃K,∀k,K≤k→∀n,l k (n+1) i=l k n (i+1)) (he:∃K,∀k,K≤k→∀n,l k (n+1) N=some r):
  ∀i,i≤N→∃K,∀k,K≤k→∀n,K≤n→l k n i=some r:=by
 have:∀j i,i+j=N→∃K,∀k,K≤k→∀n,K≤n→l k n i=some r:=by
  intro j
  induction j with
  |zero=>
   intro i hi
   obtain⟨K,hK⟩:=he
   refine⟨K+1,λk hk n hn=> ?_⟩
   obtain⟨m,rfl⟩:∃m,n=m+1:=⟨n-1,by omega⟩
   have:i=N:=by omega
   rw[this]
   exact hK k (by omega) m
  |succ j ih=>
   intro i hi
   obtain⟨K,hK⟩:=hs i (by omega)
   obtain⟨L,hL⟩:=ih (i+1) (by omega)
   refine⟨max K L+1,λk hk n hn=> ?_⟩
   obtain⟨m,rfl⟩:∃m,n=m+1:=⟨n-1,by omega⟩
   rw[hK k (by omega) m]
   exact hL k (by omega) m (by omega)
 intro i hi
 exact this (N-i) i (by omega)
theorem Ci4 {l:Nat→Nat→Nat→Option R} (N:Nat) {r:R} (hs:∀i,i<N→∃K,∀k,K≤k→∀n,l k (n+1) i=l k n (i+1)) (he:∃K,∀k,K≤k→∀n,l k (n+1) N=some r):Ev (λk=>l k k 0) r:=by
 obtain⟨K,hK⟩:=Gp2 hs he 0 (G49 _)
 exact⟨K,λk hk=>hK k hk k hk⟩
theorem D65 {σ:Type} {l:Nat→Nat→σ→Option R} {I:σ→Prop} {m:σ→Nat} {f:σ→R}
  (h:∀s,I s→(∃K,∀k,K≤k→∀n,l k (n+1) s=some (f s))∨∃s',I s'∧m s'<m s∧f s'=f s∧∃K,∀k,K≤k→∀n,l k (n+1) s=l k n s'):
  ∀s,I s→∃K,∀k,K≤k→∀n,K≤n→l k n s=some (f s):=by
 have:∀j s,m s<j→I s→∃K,∀k,K≤k→∀n,K≤n→l k n s=some (f s):=by
  intro j
  induction j with
  |zero=>intro s hs;omega
  |succ j ih=>
   intro s hs hI
   rcases h s hI with⟨K,hK⟩|⟨s',h1,h2,h3,K,hK⟩
   ·refine⟨K+1,λk hk n hn=> ?_⟩
    obtain⟨q,rfl⟩:∃q,n=q+1:=⟨n-1,by omega⟩
    exact hK k (by omega) q
   ·obtain⟨L,hL⟩:=ih s' (by omega) h1
    refine⟨max K L+1,λk hk n hn=> ?_⟩
    obtain⟨q,rfl⟩:∃q,n=q+1:=⟨n-1,by omega⟩
    rw[hK k (by omega) q,hL k (by omega) q (by omega),h3]
 intro s hs
 exact this (m s+1) s (by omega) hs
theorem C2 {z:α} {xs:List α} {i:Nat} (h:i<xs.length):rd z xs i=xs[i]:=by simp[rd,h]
theorem D7 {n:Int} (h: -9223372036854775808≤n) (h2:n<9223372036854775808):B5 n=n:=by
 have e1:(2:Int)^64=18446744073709551616:=by decide
 have e2:(2:Int)^63=9223372036854775808:=by decide
 simp only[B5,IntKind.wrap,IntKind.signed,IntKind.bits,Hb6,e1,e2,G81,Nat.reduceSub]
 split<;>omega
def S7 (N:Nat) (ok:Nat→Bool):Bool:=(List.range N).all ok
theorem P3 {N:Nat} {ok:Nat→Bool}:S7 N ok=true↔∀i,i<N→ok i=true:=by
 simp[S7,G90,List.mem_range]
theorem Ct7 {l:Nat→Nat→Nat→Option R} (N:Nat) (ok:Nat→Bool) (r f:R) (hs:∀i,i<N→∃K,∀k,K≤k→∀n,l k (n+1) i=br (ok i) (l k n (i+1)) (some f)) (he:∃K,∀k,K≤k→∀n,l k (n+1) N=some r):
  Ev (λk=>l k k 0) (bif S7 N ok then r else f):=by
 have h:=D65 (l:=l) (I:=λi=>i≤N) (m:=λi=>N-i) (f:=λi=>bif (List.range' i (N-i)).all ok then r else f) (λi hi=>by
  by_cases h:i<N
  ·obtain⟨K,hK⟩:=hs i h
   have e:List.range' i (N-i)=i::List.range' (i+1) (N- (i+1)):=by rw[show N-i=(N- (i+1))+1 by omega,List.range'_succ]
   cases hc:ok i with
   |true=>exact .inr ⟨i+1,h,by omega,by simp only[e,List.all_cons,hc,Hb6],K,λk hk n=>by rw[hK k hk n,hc];rfl⟩
   |false=>exact .inl ⟨K,λk hk n=>by rw[hK k hk n,hc];simp only[e,List.all_cons,hc,Bool.false_and];rfl⟩
  ·obtain⟨K,hK⟩:=he
   have:i=N:=by omega
   subst this
   exact .inl ⟨K,λk hk n=>by rw[hK k hk n];simp⟩) 0 (G49 _)
 obtain⟨K,hK⟩:=h
 refine⟨K,λk hk=> ?_⟩
 show l k k 0=_
 rw[hK k hk k hk,S7,List.range_eq_range']
 rfl
theorem D18 {l:Nat→Nat→Nat→Option R} (xs:List α) (p:α→Bool) (f:α→R) (e:R)
  (hs:∀i (h:i<xs.length),∃K,∀k,K≤k→∀n,l k (n+1) i=br (p xs[i]) (some (f xs[i])) (l k n (i+1))) (he:∃K,∀k,K≤k→∀n,l k (n+1) xs.length=some e):
  Ev (λk=>l k k 0) (((xs.find? p).map f).getD e):=by
 have h:=D65 (l:=l) (I:=λi=>i≤xs.length) (m:=λi=>xs.length-i) (f:=λi=> (((xs.drop i).find? p).map f).getD e) (λi hi=>by
  by_cases h:i<xs.length
  ·obtain⟨K,hK⟩:=hs i h
   cases hc:p xs[i]with
   |true=>
    refine .inl ⟨K,λk hk n=> ?_⟩
    rw[hK k hk n,hc,G89 h,List.find?_cons,hc]
    rfl
   |false=>
    refine .inr ⟨i+1,h,by omega, ?_,K,λk hk n=>by rw[hK k hk n,hc];rfl⟩
    rw[G89 h,List.find?_cons,hc]
  ·obtain⟨K,hK⟩:=he
   have:i=xs.length:=by omega
   subst this
   refine .inl ⟨K,λk hk n=> ?_⟩
   rw[hK k hk n];simp) 0 (G49 _)
 obtain⟨K,hK⟩:=h
 exact⟨K,λk hk=>hK k hk k hk⟩
theorem Ct8 {l:Nat→Nat→Nat→Option R} (xs:List α) (p:α→Bool) (f:Nat→R) (e:R)
  (hs:∀i (h:i<xs.length),∃K,∀k,K≤k→∀n,l k (n+1) i=br (p xs[i]) (some (f i)) (l k n (i+1))) (he:∃K,∀k,K≤k→∀n,l k (n+1) xs.length=some e):
  Ev (λk=>l k k 0) (if xs.findIdx p<xs.length then f (xs.findIdx p)else e):=by
 refine Ci4 (l:=l) (xs.findIdx p) (λi hi=> ?_) ?_
 ·have hl:i<xs.length:=G80 hi List.findIdx_le_length
  obtain⟨K,hK⟩:=hs i hl
  have:p xs[i]=false:=by simpa using List.not_of_lt_findIdx hi
  exact⟨K,λk hk n=>by rw[hK k hk n,this];rfl⟩
 ·by_cases h:xs.findIdx p<xs.length
  ·obtain⟨K,hK⟩:=hs _ h
   have:p xs[xs.findIdx p]=true:=List.findIdx_getElem
   exact⟨K,λk hk n=>by rw[hK k hk n,this,G45 h];rfl⟩
  ·obtain⟨K,hK⟩:=he
   have h2:xs.findIdx p=xs.length:=Nat.le_antisymm List.findIdx_le_length (by omega)
   exact⟨K,λk hk n=>by rw[G41 h,h2];exact hK k hk n⟩
theorem B2 {n:Nat} {i:Nat} (hi:i<n) (hn:n≤1099511627776):B5 ((i:Int)+1)=((i+1:Nat):Int):=by
 rw[D7 (by omega) (by omega)];rfl
theorem Bj8 {i:Nat} (hi:0<i) (hn:i≤1099511627776):B5 ((i:Int)-1)=((i-1:Nat):Int):=by
 rw[D7 (by omega) (by omega)];omega
theorem Ez1 (xs:List α) (d:α) (i:Nat) (h:i<xs.length):(xs.take i++List.replicate (xs.length-i) d).set i xs[i]=xs.take (i+1)++List.replicate (xs.length- (i+1)) d:=by
 have e:xs.length-i=(xs.length- (i+1))+1:=by omega
 rw[e,List.replicate_succ,List.set_append_right _ _ (by simp;omega),G88 h,G46]
 congr 1
 simp[Nat.min_eq_left (Nat.le_of_lt h)]
theorem Ct9 (d:α) (elem:Nat→α→Option α) (a:List α) (ha:a.length≤1048576) (he:∀x∈a,Ev (λk=>elem k x) x) (l:Nat→Nat→Int→List α→Option (List α))
  (hl:∀k n i xs,l k (n+1) i xs=br (decide (i< (a.length:Int))) (gd (decide (0≤i)) (gd (decide (i< (a.length:Int))) (bd (elem k (rd d a i.toNat)) λr=>gd (decide (0≤i)) (gd (decide (i< (xs.length:Int))) (l k n (B5 (i+1)) (xs.set i.toNat r)))))) (some xs)):
  Ev (λk=>gd (decide ((a.length:Int)=(a.length:Int))) (gd (decide (0≤(a.length:Int))) (gd (decide ((a.length:Int).toNat≤A5)) (l k k 0 (List.replicate (a.length:Int).toNat d))))) a:=by
 have h:=Ci4 (l:=λk n i=>l k n (i:Int) (a.take i++List.replicate (a.length-i) d)) a.length (r:=a)
  (λi hi=>by
   obtain⟨K,hK⟩:=he a[i] (G47 hi)
   refine⟨K,λk hk n=> ?_⟩
   have e2:=B2 hi (by omega)
   have e3:((i:Int)< ((a.take i++List.replicate (a.length-i) d).length:Int)):=by simp;omega
   simp only[hl,e2,e3,hi,G61,G42,G56,br_true,gd_true,G33,bd_some,C2 hi,hK k hk]
   rw[←Ez1 a d i hi]) ⟨0,λk _ n=>by simp[hl]⟩
 obtain⟨K,hK⟩:=h
 refine⟨K,λk hk=> ?_⟩
 have:=hK k hk
 have e3:a.length≤A5:=by unfold A5;omega
 simp only[G33,G56,gd_true,G42,e3]
 simpa using this
theorem D66 (d:α) (elem:Nat→α→α→Option Bool) (a:List α) (ha:a.length≤1048576) (he:∀x∈a,Ev (λk=>elem k x x) true) (l:Nat→Nat→Int→Option Bool)
  (hl:∀k n i,l k (n+1) i=br (decide (i< (a.length:Int))) (gd (decide (0≤i)) (gd (decide (i< (a.length:Int))) (gd (decide (0≤i)) (gd (decide (i< (a.length:Int))) (bd (elem k (rd d a i.toNat) (rd d a i.toNat)) λr=>br (!r) (some false) (l k n (B5 (i+1)))))))) (some true)):
  Ev (λk=>br ((a.length:Int) !=(a.length:Int)) (some false) (l k k 0)) true:=by
 have h:=Ci4 (l:=λk n i=>l k n (i:Int)) a.length (r:=true)
  (λi hi=>by
   obtain⟨K,hK⟩:=he a[i] (G47 hi)
   refine⟨K,λk hk n=> ?_⟩
   have e2:=B2 hi (by omega)
   simp only[hl,e2,hi,G61,G42,G56,br_true,gd_true,G33,bd_some,C2 hi,hK k hk,Bool.not_true,br_false]) ⟨0,λk _ n=>by simp[hl]⟩
 obtain⟨K,hK⟩:=h
 exact⟨K,λk hk=>by simpa using hK k hk⟩
def lft (n:Nat) (left:Int):Int:=if(n:Int)≤left then left-n else -1
theorem Ez2 {n:Nat} {left:Int} (h:(n:Int)≤left):lft n left=left-n:=by unfold lft;rw[G45 h]
theorem Gy1 {n m:Nat} {left:Int} (h:0≤left):(if lft n left<0 then -1 else lft m (lft n left))=lft (n+m) left:=by unfold lft;split<;>split<;> (try split)<;>omega
theorem C17 {n:Nat} {left:Int} (h:0≤left) (h1:left≤1048576) (h2:n≤9223372036854775807):B5 (left-n)=left-n:=D7 (by omega) (by omega)
theorem Ez3 (d:α) (sz:α→Nat) (elem:Nat→α→Int→Option Int) (a:List α) (ha:a.length≤9223372036854775807) (he:∀x∈a,∀left,0≤left→left≤1048576→Ev (λk=>elem k x left) (lft (sz x) left)) (l:Nat→Nat→Int→Int→Option Int)
  (hl:∀k n left i,l k (n+1) left i=br (decide (i< (a.length:Int))) (gd (decide (0≤i)) (gd (decide (i< (a.length:Int))) (bd (elem k (rd d a i.toNat) left) λr=>br (decide (r<0)) (some (-1)) (l k n r (B5 (i+1)))))) (some left)) (left:Int) (h0:0≤left) (h1:left≤1048576):
  Ev (λk=>br (decide (B5 (left- (a.length:Int))<0)) (some (-1)) (l k k (B5 (left- (a.length:Int))) 0)) (lft (a.length+(a.map sz).sum) left):=by
 rw[C17 h0 h1 ha]
 by_cases hlt:(a.length:Int)≤left
 ·have h:=D65 (l:=λk n (p:Nat×Int)=>l k n p.2 (p.1:Int)) (I:=λp=>p.1≤a.length∧0≤p.2∧p.2≤1048576) (m:=λp=>a.length-p.1) (f:=λp=>lft ((a.drop p.1).map sz).sum p.2) (λp hp=>by
   obtain⟨i,q⟩:=p
   obtain⟨hi,hq0,hq1⟩:=hp
   simp only at*
   by_cases h:i<a.length
   ·obtain⟨K,hK⟩:=he a[i] (G47 h) q hq0 hq1
    have e2:=B2 h (by omega)
    rw[G89 h,G95,List.sum_cons]
    by_cases hc:(sz a[i]:Int)≤q
    ·refine .inr ⟨(i+1,q-sz a[i]),⟨h,by simp only;omega,by simp only;omega⟩,by simp only;omega, ?_,K,λk hk n=> ?_⟩
     ·simp only;unfold lft;split<;>split<;>omega
     ·have e3:¬(q- (sz a[i]:Int)<0):=by omega
      simp only[hl,e2,h,G61,G42,G56,br_true,gd_true,G33,bd_some,C2 h,hK k hk,Ez2 hc,e3,G76,br_false]
    ·refine .inl ⟨K,λk hk n=> ?_⟩
     have e3:lft (sz a[i]) q= -1:=by unfold lft;rw[G41 hc]
     have e4:lft (sz a[i]+((a.drop (i+1)).map sz).sum) q= -1:=by unfold lft;rw[G41 (by omega)]
     simp only[hl,e2,h,G61,G42,G56,br_true,gd_true,G33,bd_some,C2 h,hK k hk,e3,e4]
     rfl
   ·have:i=a.length:=by omega
    subst this
    refine .inl ⟨0,λk hk n=> ?_⟩
    have:lft 0 q=q:=by unfold lft;rw[G45 (by omega)];omega
    simp[hl,this]) (0,left-a.length) ⟨G49 _,by simp only;omega,by simp only;omega⟩
  obtain⟨K,hK⟩:=h
  refine⟨K,λk hk=> ?_⟩
  have e3:¬(left- (a.length:Int)<0):=by omega
  have:=hK k hk k hk
  simp only[e3,G76,br_false]
  simp only[Hd0]at this
  rw[show((0:Nat):Int)=0 from rfl]at this
  rw[this]
  congr 1
  unfold lft;split<;>split<;>omega
 ·refine .of λk=> ?_
  have e3:(left- (a.length:Int)<0):=by omega
  have e4:lft (a.length+(a.map sz).sum) left= -1:=by unfold lft;rw[G41 (by omega)]
  simp[e3,e4]
theorem Gp3 {n:Nat} {left:Int} (h0:0≤left) (h1:left≤1048576) (h2:n≤9223372036854775807):br (decide (B5 (left- (n:Int))<0)) (some (-1)) (some (B5 (left- (n:Int))))=some (lft n left):=by
 rw[C17 h0 h1 h2]
 unfold lft
 by_cases h:(n:Int)≤left
 ·rw[G45 h,show decide (left- (n:Int)<0)=false by simp;omega];rfl
 ·rw[G41 h,show decide (left- (n:Int)<0)=true by simp;omega];rfl
theorem Dh5 {left:Int} (h:0≤left):Ev (λ_=>some left) (lft 0 left):= .of λ_=>by unfold lft;rw[G45 (by omega)];simp
theorem Cm6 {n m:Nat} {left:Int} {f:Nat→Option Int} {g:Nat→Int→Option Int} (h0:0≤left) (hf:Ev f (lft n left)) (hg:∀left,0≤left→left≤1048576→Ev (λk=>g k left) (lft m left)) (h1:left≤1048576):
  Ev (λk=>bd (f k) λr=>br (decide (r<0)) (some (-1)) (g k r)) (lft (n+m) left):=by
 refine hf.bd ?_
 by_cases hc:(n:Int)≤left
 ·rw[Ez2 hc,show decide (left- (n:Int)<0)=false by simp;omega]
  have e:lft (n+m) left=lft m (left-n):=by unfold lft;split<;>split<;>omega
  rw[e]
  exact hg _ (by omega) (by omega)
 ·have e1:lft n left= -1:=by unfold lft;rw[G41 hc]
  have e2:lft (n+m) left= -1:=by unfold lft;rw[G41 (by omega)]
  rw[e1,e2]
  exact .of λ_=>rfl
theorem Gm9 {s m:Nat} {left:Int} {f:Nat→Option Int} (h0:0≤left) (h1:left≤1048576) (hs:s≤9223372036854775807) (hf:(s:Int)≤left→Ev f (lft m (left-s))):
  Ev (λk=>br (decide (B5 (left- (s:Int))<0)) (some (-1)) (f k)) (lft (s+m) left):=by
 rw[C17 h0 h1 hs]
 by_cases hc:(s:Int)≤left
 ·rw[show decide (left- (s:Int)<0)=false by simp;omega]
  have e:lft (s+m) left=lft m (left-s):=by unfold lft;split<;>split<;>omega
  rw[e]
  exact hf hc
 ·rw[show decide (left- (s:Int)<0)=true by simp;omega]
  have e2:lft (s+m) left= -1:=by unfold lft;rw[G41 (by omega)]
  rw[e2]
  exact .of λ_=>rfl
theorem N4 (f:α→Nat) {xs:List α} {x:α} (h:x∈xs):f x≤(xs.map f).sum:=by
 induction xs with
 |nil=>cases h
 |cons y ys ih=>
  rw[G95,List.sum_cons]
  cases h with
  |head=>omega
  |tail _ h=>have:=ih h;omega
theorem Fd5 (d:α) (a:List α) (ha:a.length≤1048576) (l:Nat→Nat→Int→Option Bool)
  (hl:∀k n i,0≤i→i< (a.length:Int)→l k (n+1) i=l k n (B5 (i+1))) (he:∀k n,l k (n+1) (a.length:Int)=some true):
  Ev (λk=>br ((a.length:Int) !=(a.length:Int)) (some false) (l k k 0)) true:=by
 have h:=Ci4 (l:=λk n i=>l k n (i:Int)) a.length (r:=true) (λi hi=> ⟨0,λk _ n=>by
   have e2:=B2 hi (by omega)
   rw[hl k n i (by omega) (by omega),e2]⟩) ⟨0,λk _ n=>he k n⟩
 obtain⟨K,hK⟩:=h
 exact⟨K,λk hk=>by simpa using hK k hk⟩
theorem Gn0 {n:Nat} {left:Int} {f:Nat→Option Int} {g:Nat→Int→Option Bool} (hf:Ev f (lft n left)) (hg:(n:Int)≤left→Ev (λk=>g k (left-n)) true):
  Ev (λk=>bd (f k) λr=>br (decide (r<0)) (some true) (g k r)) true:=by
 refine hf.bd ?_
 by_cases hc:(n:Int)≤left
 ·rw[Ez2 hc,show decide (left- (n:Int)<0)=false by simp;omega]
  exact hg hc
 ·have e1:lft n left= -1:=by unfold lft;rw[G41 hc]
  rw[e1]
  exact .of λ_=>rfl
def mkL (mk:α→Int→α) (ct:α→Nat):List α→Int→List α
 | [],_=> []
 |x::xs,k=>mk x k::mkL mk ct xs (k+ct x)
def ctL (ct:α→Nat) (xs:List α):Nat:=(xs.map ct).sum
theorem D5 (mk:α→Int→α) (ct:α→Nat):∀(xs:List α) (k:Int),(mkL mk ct xs k).length=xs.length
 | [],_=>rfl
 |x::xs,k=>by simp[mkL,D5 mk ct xs]
theorem D67 (ct:α→Nat) {xs:List α} {i:Nat} (h:i<xs.length):ctL ct (xs.take (i+1))=ctL ct (xs.take i)+ct xs[i]:=by
 unfold ctL
 rw[G88 h,G64,List.sum_append]
 simp
theorem Gp4 (ct:α→Nat) (xs:List α) (i:Nat):ctL ct (xs.take i)≤ctL ct xs:=by
 have:ctL ct xs=ctL ct (xs.take i)+ctL ct (xs.drop i):=by
  unfold ctL
  rw[←List.sum_append,←G64,List.take_append_drop]
 omega
theorem Ak2 (ct:α→Nat) {xs:List α} {i:Nat} (h:i<xs.length):ctL ct (xs.take i)+ct xs[i]≤ctL ct xs:=by
 have:=Gp4 ct xs (i+1)
 rw[D67 ct h]at this
 exact this
theorem Fd6 (mk:α→Int→α) (ct:α→Nat):∀(xs:List α) (x:α) (k:Int),mkL mk ct (xs++ [x]) k=mkL mk ct xs k++ [mk x (k+ctL ct xs)]
 | [],x,k=>by simp[mkL,ctL]
 |y::xs,x,k=>by
  have e:k+(ct y:Int)+(ctL ct xs:Int)=k+(ctL ct (y::xs):Int):=by simp[ctL];omega
  rw[Hb8,mkL,Fd6 mk ct xs x,e,mkL]
  rfl
theorem D68 (mk:α→Int→α) (ct:α→Nat):∀(xs ys:List α) (k:Int),mkL mk ct (xs++ys) k=mkL mk ct xs k++mkL mk ct ys (k+ctL ct xs)
 | [],ys,k=>by simp[mkL,ctL]
 |y::xs,ys,k=>by
  have e:k+(ct y:Int)+(ctL ct xs:Int)=k+(ctL ct (y::xs):Int):=by simp[ctL];omega
  rw[Hb8,mkL,D68 mk ct xs ys,e,mkL]
  rfl
theorem Gp5 (mk:α→Int→α) (ct:α→Nat) (d:α) (xs:List α) (k:Int) {i:Nat} (h:i<xs.length):rd d (mkL mk ct xs k) i=mk xs[i] (k+ctL ct (xs.take i)):=by
 rw[C2 (by rw[D5];exact h)]
 have e:mkL mk ct xs k=mkL mk ct (xs.take i) k++mkL mk ct (xs.drop i) (k+ctL ct (xs.take i)):=by
  rw[←D68,List.take_append_drop]
 have e2:xs.drop i=xs[i]::xs.drop (i+1):=(List.getElem_cons_drop h).symm
 simp only[e,e2,mkL]
 rw[Ha9 (by rw[D5];simp;omega)]
 simp[D5,Nat.min_eq_left (Nat.le_of_lt h)]
theorem A49 {l:Nat→Nat→Int→Nat→List α→Option (Int×List α×Unit)} (mk:α→Int→α) (ct:α→Nat) (xs:List α) (k0:Int)
  (hs:∀i (h:i<xs.length) (a:Int) (ys:List α),a=k0+ctL ct (xs.take i)→ys.length=xs.length→(∀d,rd d ys i=xs[i])→∃K,∀k,K≤k→∀n,l k (n+1) a i ys=l k n (a+ct xs[i]) (i+1) (ys.set i (mk xs[i] a)))
  (he:∀(a:Int) (ys:List α),ys.length=xs.length→∀k n,l k (n+1) a xs.length ys=some (a,ys,())):Ev (λk=>l k k k0 0 xs) (k0+ctL ct xs,mkL mk ct xs k0,()):=by
 have h:=Ci4 (l:=λk n i=>l k n (k0+ctL ct (xs.take i)) i (mkL mk ct (xs.take i) k0++xs.drop i)) xs.length (r:=(k0+ctL ct xs,mkL mk ct xs k0,()))
  (λi hi=>by
   obtain⟨K,hK⟩:=hs i hi _ (mkL mk ct (xs.take i) k0++xs.drop i) rfl (by simp[D5];omega) (λd=>by
    rw[C2 (by simp[D5];omega),Ha9 (by simp[D5];omega)]
    simp[D5,Nat.min_eq_left (Nat.le_of_lt hi)])
   refine⟨K,λk hk n=> ?_⟩
   show l k (n+1) _ i _=l k n (k0+ctL ct (xs.take (i+1))) (i+1) (mkL mk ct (xs.take (i+1)) k0++xs.drop (i+1))
   rw[hK k hk n,D67 ct hi,G88 hi,Fd6]
   have e2:xs.drop i=xs[i]::xs.drop (i+1):=(List.getElem_cons_drop hi).symm
   rw[List.set_append_right _ _ (by simp[D5];omega)]
   simp[D5,Nat.min_eq_left (Nat.le_of_lt hi),Ha6]
   rw[e2,List.set_cons_zero]) ⟨0,λk _ n=>by
   show l k (n+1) (k0+ctL ct (xs.take xs.length)) xs.length (mkL mk ct (xs.take xs.length) k0++xs.drop xs.length)=_
   rw[he _ _ (by simp[D5])]
   simp⟩
 obtain⟨K,hK⟩:=h
 exact⟨K,λk hk=>by simpa [mkL,ctL]using hK k hk⟩
theorem A50 {l:Nat→Nat→Int→Nat→Option Int} (mk:α→Int→α) (ct:α→Nat) (xs:List α) (k0:Int)
  (hs:∀i (h:i<xs.length) (a:Int),a=k0+ctL ct (xs.take i)→(∀d,rd d (mkL mk ct xs k0) i=mk xs[i] a)→∃K,∀k,K≤k→∀n,l k (n+1) a i=l k n (a+ct xs[i]) (i+1))
  (he:∀(a:Int),∀k n,l k (n+1) a xs.length=some a):Ev (λk=>l k k k0 0) (k0+ctL ct xs):=by
 have h:=Ci4 (l:=λk n i=>l k n (k0+ctL ct (xs.take i)) i) xs.length (r:=k0+ctL ct xs)
  (λi hi=>by
   obtain⟨K,hK⟩:=hs i hi _ rfl (λd=>Gp5 mk ct d xs k0 hi)
   refine⟨K,λk hk n=> ?_⟩
   show l k (n+1) _ i=l k n (k0+ctL ct (xs.take (i+1))) (i+1)
   rw[hK k hk n,D67 ct hi]
   simp[Ha6]) ⟨0,λk _ n=>by
   show l k (n+1) (k0+ctL ct (xs.take xs.length)) xs.length=_
   rw[he]
   simp⟩
 obtain⟨K,hK⟩:=h
 exact⟨K,λk hk=>by simpa [ctL]using hK k hk⟩
theorem Bj9 (n:Nat) (xs:List α):ctL (λ_=>n) xs=n*xs.length:=by
 unfold ctL
 induction xs with
 |nil=>rfl
 |cons x xs ih=>simp[ih,Nat.mul_add];omega
theorem Bp0 (f m:α→Nat) (h:∀y,f y≤1000*(1+m y)) (xs:List α):ctL f xs≤1000*(xs.length+(xs.map m).sum):=by
 unfold ctL
 induction xs with
 |nil=>simp
 |cons x xs ih=>have:=h x;simp;omega
theorem Cu0 {d x:α} {xs:List α} {i:Nat} (h:i<xs.length):rd d (xs.set i x) i=x:=by
 rw[C2 (by simpa using h)];simp
theorem D07 {a b:Nat} (h:a=b):Nat.beq a b=true:=by subst h;exact G98 a
theorem B62 {a:Int} {f:Nat→Option R} {x r:R} (h:0≤a) (hf:Ev f r):Ev (λk=>br (decide (a<0)) (some x) (f k)) r:=by
 rw[show decide (a<0)=false by simp;omega];exact hf
theorem Gn1 {a b:Int} {f:Nat→Option R} {x r:R} (h:a=b) (hf:Ev f r):Ev (λk=>br (a !=b) (some x) (f k)) r:=by
 rw[show(a !=b)=false by simp[h]];exact hf
theorem Gl8 (s:ByteArray):∀(j i:Nat) (r:List UInt8),i+j=s.size→ByteArray.toList.loop s i r=r.reverse++s.data.toList.drop i:=by
 intro j
 induction j with
 |zero=>
  intro i r h
  unfold ByteArray.toList.loop
  rw[G41 (by omega)]
  have:s.data.toList.drop i=[]:=by
   rw[List.drop_eq_nil_iff,G68]
   have:s.data.size=s.size:=rfl
   omega
  rw[this,G59]
 |succ j ih=>
  intro i r h
  have hi:i<s.data.toList.length:=by
   rw[G68]
   have:s.data.size=s.size:=rfl
   omega
  unfold ByteArray.toList.loop
  rw[G45 (by omega),ih (i+1) _ (by omega),G89 hi,List.reverse_cons,G46]
  congr 1
  have h2:i<s.data.size:=by rw[G68]at hi;exact hi
  have h3:s.get! i=s.data.toList[i]:=by
   show(s.data[i]!)=_
   rw[getElem!_pos s.data i h2,Array.getElem_toList]
  rw[h3];rfl
theorem Dm9 (s:ByteArray):s.toList=s.data.toList:=by
 unfold ByteArray.toList
 rw[Gl8 s s.size 0 [] (by omega)]
 simp
theorem Dh6 {a b:ByteArray} (h:a.data.toList=b.data.toList):a=b:=by
 cases a;cases b
 congr 1
 exact G65.1 h
theorem Ez4 (a b:ByteArray):(a.toList==b.toList)=decide (a=b):=by
 rw[Dm9,Dm9]
 by_cases h:a=b
 ·subst h;simp
 ·have:a.data.toList≠b.data.toList:=λe=>h (Dh6 e)
  rw[beq_eq_false_iff_ne.2 this,G55 h]
theorem D69 (xs:List Int):(N9 xs).size=xs.length:=by
 show(N9 xs).data.size=_
 simp[N9]
theorem Gt5 {n:Int} (h:0≤n) (h2:n<256):IntKind.wrap .u8 n=n:=by
 have e1:(2:Int)^8=256:=by decide
 simp only[IntKind.wrap,IntKind.signed,IntKind.bits,Bool.false_and,e1,Bool.false_eq_true,if_false]
 omega
theorem Gt6 (a b:Int):decide (a>b)= !decide (a≤b):=by
 by_cases h:a≤b
 ·simp[h,Int.not_lt.2 h]
 ·simp[h,Int.not_le.1 h]
theorem Gn2 (a:Int):(a==a&&(2:Int)==0)=false:=by simp
theorem Ag0 (a b:ByteArray):(a++b).size=a.size+b.size:=by simp
end
end Go.Vm
end
section
namespace Go.Vm
open Go
class Fuel (ι : Type) where
 big : Nat → ι → Prop
 mono : ∀ {K L : Nat} {x : ι}, L ≤ K → big K x → big L x
instance : Fuel Nat := ⟨fun K k => K ≤ k, fun h g => G99 h g⟩
instance {ι : Type} [Fuel ι] : Fuel (ι × Nat) := ⟨fun K x => Fuel.big K x.1 ∧ K ≤ x.2, fun h g => ⟨Fuel.mono h g.1, G99 h g.2⟩⟩
section
variable {ι α R : Type} [Fuel ι]
def Re (f:ι→Option R) (Q:R→Prop):Prop:=∃v,Q v∧∃K,∀x,Fuel.big K x→f x=some v
theorem Re.ret {v:R} {Q:R→Prop} (h:Q v):Re (λ_:ι=>some v) Q:=⟨v,h,0,λ_ _=>rfl⟩
theorem Re.mono {f:ι→Option R} {Q Q':R→Prop} (h:Re f Q) (k:∀v,Q v→Q' v):Re f Q':=by
 obtain⟨v,hv,K,hK⟩:=h
 exact⟨v,k v hv,K,hK⟩
def D70 (κ:ι→Nat):Prop:=∀K x,Fuel.big K x→K≤κ x
theorem B9:D70 (λk:Nat=>k):=λ_ _ h=>h
theorem k9 {κ:ι→Nat} (h:D70 κ):D70 (λx:ι×Nat=>κ x.1):=λK x hx=>h K x.1 hx.1
theorem Re.bd {κ:ι→Nat} {g:Nat→Option α} {F:ι→α→Option R} {P:α→Prop} {Q:R→Prop} (hκ:D70 κ) (h:Re g P) (h2:∀a,P a→Re (λx=>F x a) Q):Re (λx=>Vm.bd (g (κ x)) (F x)) Q:=by
 obtain⟨a,ha,K,hK⟩:=h
 obtain⟨v,hv,L,hL⟩:=h2 a ha
 refine⟨v,hv,max K L,λx hx=> ?_⟩
 have h1:g (κ x)=some a:=hK _ (G99 (Nat.le_max_left K L) (hκ _ _ hx))
 show Vm.bd (g (κ x)) (F x)=some v
 rw[h1,bd_some]
 exact hL x (Fuel.mono (Nat.le_max_right K L) hx)
theorem Re.br {b:Bool} {f g:ι→Option R} {Q:R→Prop} (h1:b=true→Re f Q) (h2:b=false→Re g Q):Re (λx=>Vm.br b (f x) (g x)) Q:=by
 cases b with
 |true=>exact h1 rfl
 |false=>exact h2 rfl
theorem Re.gd {b:Bool} {f:ι→Option R} {Q:R→Prop} (hb:b=true) (h:Re f Q):Re (λx=>Vm.gd b (f x)) Q:=by subst hb;exact h
theorem Re.ng {b:Bool} {f:ι→Option R} {Q:R→Prop} (hb:b=false) (h:Re f Q):Re (λx=>Vm.ng b (f x)) Q:=by subst hb;exact h
theorem Re.loop {σ:Type} {l:ι→Nat→σ→Option R} {I:σ→Prop} (μ:σ→Nat) {Q:σ→R→Prop}
  (step:∀s,I s→(∀s',I s'→μ s'<μ s→Re (λx:ι×Nat=>l x.1 x.2 s') (Q s'))→Re (λx:ι×Nat=>l x.1 (x.2+1) s) (Q s)):∀s,I s→Re (λx:ι×Nat=>l x.1 x.2 s) (Q s):=by
 have:∀j s,μ s<j→I s→Re (λx:ι×Nat=>l x.1 x.2 s) (Q s):=by
  intro j
  induction j with
  |zero=>intro s hs;omega
  |succ j ih=>
   intro s hs hI
   obtain⟨v,hv,K,hK⟩:=step s hI λs' h1 h2=>ih s' (by omega) h1
   refine⟨v,hv,K+1,λx hx=> ?_⟩
   obtain⟨y,n⟩:=x
   obtain⟨m,rfl⟩:∃m,n=m+1:=⟨n-1,by have:=hx.2;simp only at this;omega⟩
   exact hK (y,m) ⟨Fuel.mono (Nat.le_succ K) hx.1,by have:=hx.2;simp only at this ⊢;omega⟩
 intro s hs
 exact this (μ s+1) s (by omega) hs
theorem Re.enter {κ:ι→Nat} {f:ι→Nat→Option R} {Q:R→Prop} (hκ:D70 κ) (h:Re (λx:ι×Nat=>f x.1 x.2) Q):Re (λx=>f x (κ x)) Q:=by
 obtain⟨v,hv,K,hK⟩:=h
 exact⟨v,hv,K,λx hx=>hK (x,κ x) ⟨hx,hκ K x hx⟩⟩
end
section
variable {R : Type}
theorem Ev.re {f:Nat→Option R} {v:R} {Q:R→Prop} (h:Ev f v) (hq:Q v):Re f Q:=⟨v,hq,h⟩
theorem Re.eq {f:Nat→Option R} {v:R} (h:Re f (λa=>a=v)):Ev f v:=by
 obtain⟨a,rfl,h⟩:=h
 exact h
end
end Go.Vm
end
end
