/- The library: by its contract. -/
import Derived.Test.YtmmgjbjmmipobaaGreatDoorZp5
import Derived.Lib.Overlaps
import Derived.Lib.AppendZeros
import Derived.Lib.AppendZerosOnto
import Derived.Laws.IdiomCopy
import Derived.Shelf.RegionOpenPlain
import Derived.WalkKit
import Derived.Lib.Walk
import Derived.Laws.Externs
import Derived.Test.YtmmgjbjmmipobaaGreatDoorProg
import Derived.Test.YtmmgjbjmmipobaaGreatDoorChecked
import Derived.Shelf.SortG.Plain
import Derived.Shelf.SortG.SortNone
import Derived.Shelf.Strconv.Itoa3
set_option linter.all false
section
section
namespace Go.Vm
open Go
section
variable {P : Program}
theorem B10 (w:World) (dT sT ty elem:TypeId) (k b o dLen dCap:Nat) (a:Addr) (sLen sCap:Nat) (cs:List Value)
  (hu:P.underlying dT=some (.slice elem)) (hs:∀w,(sizeOf elem).run P w= .ok k w) (hn:cs.length=Nat.min sLen dLen*k)
  (hsrc:∀j v,cs[j]? =some v→w.cell? (a.add j)=some v) (hc:∀j,j<cs.length→(w.cell? ⟨b,o+j,none⟩).isSome=true) (hf:∀j,j<cs.length→w.frozen? ⟨b,o+j,none⟩=false) (h1:∀v∈cs,v.oneCell'=true):
  (Builtin.copy_ #[dT,sT] ty #[.slice (some ⟨b,o,none⟩) dLen dCap, .slice (some a) sLen sCap]).run P w= .ok (goInt (Nat.min sLen dLen)) (putCells b cs o w):=by
 have hl:=run_loadCells_list (P:=P) w a cs hsrc
 have hst:=R6 P b o cs 0 w (λj hj=> ⟨by rw[G69];exact hc j hj,by rw[G69];exact hf j hj⟩) h1
 rw[G69]at hst
 simp[Builtin.copy_,run_underlying hu,Builtin.lenOf,Builtin.firstCells,hs,←hn,hl,hst]
theorem Dk4 (w:World) (tS tR e:TypeId) (ht:P.underlying tS=some (.slice e)) (size:Nat) (hz:∀w,(sizeOf e).run P w= .ok size w)
  (a b:Addr) (la ca lb cb:Nat) (hne:a.block≠b.block) (tA tB:TypeId) (kA kB:Nat)
  (hsa:w.shape? a.block=some (tA,kA)) (hka:kA≠0) (hsb:w.shape? b.block=some (tB,kB)) (hkB:kB≠0)
  (hfb:∀o,w.frozen? ⟨b.block,o,none⟩=false) (hfb0:w.frozen? b=false):
  (Extern.SlicesOverlaps.overlaps #[tS,tS] #[tR] #[.slice (some a) la ca, .slice (some b) lb cb]).run P w= .ok (.bool false) w:=by
 have hnb:(a.block !=b.block)=true:=by simpa using hne
 have hnb':(a.block==b.block)=false:=by simpa using hne
 change Sem.run P (α:=Value) (do
  let some t := (#[tS, tS] : Array TypeId)[0]? | stuck "slices.overlaps: no parameter types"
  let .slice elem ← underlying t | stuck "slices.overlaps: slice type expected"
  let size←sizeOf elem
  match(some a:Option Addr),(some b:Option Addr)with
  |some a,some b=>
   if la=0∨lb=0∨size=0 then pure (Value.bool false)
   else if a.block !=b.block&&(←frozen a)&&(←frozen b)then unsupported .addressObserved
   else do
    if a.block !=b.block then do
     noView a;noView b
     if ← mayBeOne a b then return Value.bool ((← choose (.extern "sameAddr.stringBytes" 2)) == 1)
    pure (Value.bool (a.block==b.block&&a.off<b.off+lb*size&&b.off<a.off+la*size))
  |_,_=>pure (Value.bool false)) w=_
 have hfe:w.frozen? {block:=b.block,off:=kB}=false:=hfb kB
 by_cases h0:la=0∨lb=0∨size=0
 ·simp[run_underlying ht,hz,h0]
 ·cases kB with
  |zero=>exact absurd rfl hkB
  |succ kB=>
   cases kA with
   |zero=>exact absurd rfl hka
   |succ kA=>
    cases q1:w.frozen? a<;>cases q2:w.frozen? {block:=a.block,off:=kA+1}<;>
     simp[run_underlying ht,hz,h0,hnb,hnb',frozen,noView,viewAt,mayBeOne,stringish,Sem.run,hsa,hsb,hfb0,hfe,q1,q2]
end
theorem Ei5 {w:World} {b o:Nat} {v:Value} (h:w.cell? ⟨b,o,none⟩=some v):∃cs e fr,w.heap[b]? =some (.cells cs e fr)∧o<cs.size:=by
 unfold World.cell? at h
 cases hb:w.heap[b]? with
 |none=>rw[hb]at h;cases h
 |some ob=>
  rw[hb]at h
  cases ob with
  |cells cs e fr=>
   refine⟨cs,e,fr,rfl, ?_⟩
   have h:cs[o]? =some v:=by simpa using h
   rw[G85]at h;exact h.1
  |_=>cases h
structure InsPost (w w' : World) (g B O c k : Nat) (L : List Value) : Prop where
 os : w'.os = w.os
 tape : w'.tape = w.tape
 put : w'.output = w.output
 size : w.heap.size ≤ w'.heap.size
 same : ∀ b, b < w.heap.size → b ≠ g → w'.heap[b]? = w.heap[b]?
 room : ∀ b m, Room w b m → Room w' b m
 who : B = g ∨ (w.heap.size ≤ B ∧ B < w'.heap.size)
 cells : ∀ j v, L[j]? = some v → w'.cell? ⟨B, O + j, none⟩ = some v
 frz : (∀ o, w.frozen? ⟨g, o, none⟩ = false) → ∀ o, w'.frozen? ⟨B, o, none⟩ = false
 rm : Room w' B (O + c * k)
structure InsStart (w : World) (A : Option Addr) (g off n c k i vb vo : Nat) (cs vs : List Value) : Prop where
 hi : i ≤ n
 hnc : n ≤ c
 hn : n ≤ 1073741824
 hcl : cs.length = n * k
 hvl : vs.length = k
 hk : 0 < k
 h1c : ∀ v ∈ cs, v.oneCell' = true
 h1v : ∀ v ∈ vs, v.oneCell' = true
 hvs : ∀ j v, vs[j]? = some v → w.cell? ⟨vb, vo + j, none⟩ = some v
 hvb : vb ≠ g
 start : (c = 0 ∧ w.heap.size ≤ g) ∨ (A = some ⟨g, off, none⟩ ∧ g < w.heap.size ∧ (∀ j v, cs[j]? = some v → w.cell? ⟨g, off + j, none⟩ = some v) ∧ Room w g (off + c * k) ∧ ∀ o, w.frozen? ⟨g, o, none⟩ = false)
def F33 (P:Program) (f:FuncId) (k:Nat):Prop:=∀(w:World) (A:Option Addr) (g off n c i vb vo vc:Nat) (cs vs:List Value),InsStart w A g off n c k i vb vo cs vs→
 Calls P f #[.slice A n c, .int .i64 i, .slice (some ⟨vb,vo,none⟩) 1 vc] w λe w'=> ∃B O c',e= .returned (.slice (some ⟨B,O,none⟩) (n+1) c')∧n+1≤c'∧InsPost w w' g B O c' k (cs.take (i*k)++vs++cs.drop (i*k))
theorem Puts.ins {g:Nat} {w w':World} (h:Puts g w w') {O c k:Nat} {L:List Value} (hr:Room w g (O+c*k)) (hc:∀j v,L[j]? =Option.some v→w'.cell? ⟨g,O+j,none⟩=Option.some v):InsPost w w' g g O c k L:=
 ⟨h.os,h.tape,h.out,Nat.le_of_eq h.size.symm,λb _ hb=>h.other b hb,λb m q=>h.room b m q, .inl rfl,hc,λhf o=> (h.frozen _).trans (hf o),h.room _ _ hr⟩
theorem Ev7 {w w':World} {ROW:Array Value} {E:TypeId} (h:Puts w.heap.size (w.drew.alloc (.cells ROW E)) w') {g c k:Nat} {L:List Value} (hsz:c*k≤ROW.size)
  (hc:∀j v,L[j]? =some v→w'.cell? ⟨w.heap.size,0+j,none⟩=some v):InsPost w w' g w.heap.size 0 c k L:=by
 have hs1:(w.drew.alloc (.cells ROW E)).heap.size=w.heap.size+1:=World.size_alloc w.drew _
 have hsz2:w'.heap.size=w.heap.size+1:=h.size.trans hs1
 have hold:∀b,b<w.heap.size→(w.drew.alloc (.cells ROW E)).heap[b]? =w.heap[b]? :=λb hb=>by
  show(w.heap.push _)[b]? =_
  rw[Array.getElem?_push,G41 (by omega)]
 have hnew:(w.drew.alloc (.cells ROW E)).heap[w.heap.size]? =some (.cells ROW E (0,0)):=by
  show(w.heap.push _)[w.heap.size]? =_
  rw[Array.getElem?_push,G45 rfl]
 refine⟨h.os,h.tape,h.out,by omega,λb hb _=> (h.other b (by omega)).trans (hold b hb),λb m hr=>h.room b m ?_, .inr ⟨G53 _,by omega⟩,hc,λ_ o=> ?_,h.room _ _ ⟨ROW,E,(0,0),hnew,by omega⟩⟩
 ·obtain⟨cs,e,fr,h1,h2⟩:=hr
  have hb:b<w.heap.size:=by rw[G85]at h1;exact h1.1
  exact⟨cs,e,fr,(hold b hb).trans h1,h2⟩
 ·rw[h.frozen]
  exact World.frozen?_alloc_at (w:=w.drew) ROW _ w.heap.size o rfl
theorem Dk5 {cs vs:List Value} {p k j:Nat} {v:Value} (hp:p≤cs.length) (hk:vs.length=k) (h:(cs.take p++vs++cs.drop p)[j]? =some v):
  (j<p∧cs[j]? =some v)∨(p≤j∧j<p+k∧vs[j-p]? =some v)∨(p+k≤j∧(cs.drop p)[j- (p+k)]? =some v):=by
 have hl:(cs.take p).length=p:=by simp;omega
 rw[G46]at h
 by_cases q:j<p
 ·rw[G51 (by omega),List.getElem?_take,G45 q]at h
  exact .inl ⟨q,h⟩
 ·rw[G50 (by omega),hl]at h
  by_cases q2:j-p<k
  ·rw[G51 (by omega)]at h
   exact .inr (.inl ⟨by omega,by omega,h⟩)
  ·rw[G50 (by omega),hk]at h
   refine .inr (.inr ⟨by omega, ?_⟩)
   rw[show j- (p+k)=j-p-k by omega];exact h
theorem Fl0 {g:Nat} {vs:List Value} {p:Nat} {w:World} {q j:Nat} {v:Value} (hq:p≤q) (h:vs[q-p]? =some v) (hs:∀i,i<vs.length→(w.cell? ⟨g,p+i,none⟩).isSome=true):(putCells g vs p w).cell? ⟨g,q,none⟩=some v:=by
 have:=V5 g vs p w (q-p) v h hs
 rwa [show p+(q-p)=q by omega]at this
theorem E64 {vs:List Value} {j:Nat} {v:Value} (h:vs[j]? =some v):j<vs.length:=by
 rcases G96 j vs.length with q|q
 ·exact q
 ·rw[G75 q]at h;cases h
section
variable {P : Program}
theorem Df3 {α:Type} {n:Nat}:∀(css:List (List α)) (i:Nat),(∀c∈css,c.length=n)→(css.take i).flatten=css.flatten.take (i*n)∧(css.drop i).flatten=css.flatten.drop (i*n)
 | [],i,_=>by simp
 |c::css,0,_=>by simp
 |c::css,i+1,h=>by
  obtain⟨h1,h2⟩:=Df3 css i λx hx=>h x (G38 _ hx)
  have hc:=h c (G39 ..)
  have e:(i+1)*n=c.length+i*n:=by rw[hc,G71];omega
  constructor
  ·rw[List.take_succ_cons,G97,h1,G97,e,List.take_length_add_append]
  ·rw[List.drop_succ_cons,h2,G97,e,List.drop_length_add_append]
theorem Dy9 {ok:Nat→Prop} {w:World} {g off:Nat} {t:Ty}:∀{xs:List (El t)} {m:Nat},(∀i (h:i<xs.length),∃ds,Imm ok w t xs[i] ds∧∀j,j<t.sz→w.cell? ⟨g,off+(m+i)*t.sz+j,none⟩=ds[j]?)→
  ∃css,All2 (Imm ok w t) xs css∧∀j v,css.flatten[j]? =some v→w.cell? ⟨g,off+m*t.sz+j,none⟩=some v
 | [],m,_=> ⟨[], .nil,λj v h=>by simp at h⟩
 |x::xs,m,h=>by
  obtain⟨ds,h1,h2⟩:=h 0 (by simp)
  obtain⟨css,h3,h4⟩:=Dy9 (xs:=xs) (m:=m+1) λi hi=>by
   obtain⟨ds,a,b⟩:=h (i+1) (by simpa using hi)
   refine⟨ds,a,λj hj=> ?_⟩
   rw[←b j hj,show m+1+i=m+(i+1)by omega]
  refine⟨ds::css, .cons h1 h3,λj v hj=> ?_⟩
  have hl:=h1.len
  rw[G97]at hj
  by_cases q:j<ds.length
  ·rw[G51 q]at hj
   have:=h2 j (by omega)
   rw[G69]at this
   rw[this];exact hj
  ·rw[G50 (by omega)]at hj
   have:=h4 _ _ hj
   rw[←this,hl,G71]
   congr 2
   omega
theorem Ga6 {α β:Type} {r:α→β→Prop} {l:List α} {m:List β} (h:All2 r l m) (i:Nat) (x:α) (y:β) (hxy:r x y):All2 r (l.take i++ [x]++l.drop i) (m.take i++ [y]++m.drop i):=
 ((h.take i).append (.cons hxy .nil)).append (h.drop i)
theorem Ga7 {f:FuncId} (e:TypeId) (t:Ty) (hk:0<t.sz) (ht8:t≠ .int .u8) (hW:F33 P f t.sz):
  C06 P f (.row e t λxs=> .imm (.int .i64) λi=> .imm (.slice e t) λvs=> .body (Fp0 xs i vs) (λr=> [(false,[.own e t r])]) (λ_=> [.gone])):=by
 have main:∀(ok:Nat→Prop) (w:World) (hok:∀b,ok b→b<w.heap.size) (xs:List (El t)) (A:Option Addr) (g off c:Nat) (ds:MD),xs.length≤c→
   ((c=0∧w.heap.size≤g∧ds= .nil)∨(A=some ⟨g,off,none⟩∧g<w.heap.size∧RowAt ok w g off t xs∧Room w g (off+c*t.sz)∧NoFrz t w g∧¬ok g∧ds= .row g off c))→
   MOk P f ok w (.imm (.int .i64) λi=> .imm (.slice e t) λvs=> .body (Fp0 xs i vs) (λr=> [(false,[.own e t r])]) (λ_=> [.gone])) [.slice A xs.length c] [ds]:=by
  intro ok w hok xs A g off c ds hle hst i v hv vs v2 hv2 _ a ha
  have hvi:v= .int .i64 i:=by
   obtain⟨cs,h1,h2⟩:=hv
   have h1:cs=[.int .i64 i]:=h1
   subst h1
   rcases h2 with⟨h,_⟩|⟨_,h2⟩
   ·cases h
   ·simpa using h2.symm
  subst hvi
  have hcond:0≤i∧i≤xs.length∧vs.length=1∧xs.length≤1073741824:=by
   unfold Fp0 at ha
   by_cases q:0≤i∧i≤xs.length∧vs.length=1∧xs.length≤1073741824
   ·exact q
   ·rw[G41 q]at ha;cases ha
  have haeq:a=xs.take i.toNat++vs++xs.drop i.toNat:=by
   unfold Fp0 at ha
   rw[G45 hcond]at ha;exact(Option.some.inj ha).symm
  obtain⟨c0,c1,c2,c3⟩:=hcond
  obtain⟨iN,rfl⟩:∃n:Nat,i=n:=⟨i.toNat,(Int.toNat_of_nonneg c0).symm⟩
  obtain⟨x,rfl⟩:∃x,vs=[x]:=by
   match vs,c2 with
   | [x],_=>exact⟨x,rfl⟩
  rw[G33]at haeq
  obtain⟨cs2,hs1,hs2⟩:=hv2
  obtain⟨A2,vc,rfl,_,hx⟩:=hs1
  have hv2e:v2= .slice A2 1 vc:=by
   rcases hs2 with⟨h,_⟩|⟨_,h2⟩
   ·cases h
   ·simpa using h2.symm
  subst hv2e
  obtain⟨vb,vo,rfl,hvok,hcell⟩:=hx (by simp)
  obtain⟨dv,hd1,hd2⟩:=hcell 0 (by simp)
  have hd1:Imm ok w t x dv:=hd1
  obtain⟨css,hcss,hcc,hgw⟩:∃css,All2 (Imm ok w t) xs css∧(∀j v,css.flatten[j]? =some v→A=some ⟨g,off,none⟩→w.cell? ⟨g,off+j,none⟩=some v)∧vb≠g:=by
   rcases hst with⟨h1,h2,h3⟩|⟨h1,h2,h3,h4,h5,h6,h7⟩
   ·have:xs=[]:=G58.1 (by omega)
    subst this
    exact⟨[], .nil,λj v h=>by simp at h,by have:=hok vb hvok;omega⟩
   ·obtain⟨css,a1,a2⟩:=Dy9 (m:=0) (off:=off) (g:=g) (xs:=xs) (ok:=ok) (w:=w) (t:=t) λi hi=>by
     obtain⟨ds,b1,b2⟩:=h3 i hi
     exact⟨ds,b1,λj hj=>by rw[G78];exact b2 j hj⟩
    refine⟨css,a1,λj v hj _=> ?_,λq=>h6 (q▸hvok)⟩
    have:=a2 j v hj
    rwa [Hd2,G69]at this
  have hlen:=G8 css (a6 hcss)
  rw[←hcss.length]at hlen
  have hS:InsStart w A g off xs.length c t.sz iN vb vo css.flatten dv:=by
   refine⟨Int.ofNat_le.1 c1,hle,c3,hlen,hd1.len,hk,C04 hcss,F03 hd1,λj v hj=> ?_,hgw, ?_⟩
   ·have hjl:j<t.sz:=by
     rcases G96 j dv.length with q|q
     ·rwa [hd1.len]at q
     ·rw[G75 q]at hj;cases hj
    have:=hd2 j hjl
    rw[Hd2,G69]at this
    rw[this];exact hj
   ·rcases hst with⟨h1,h2,h3⟩|⟨h1,h2,h3,h4,h5,h6,h7⟩
    ·exact .inl ⟨h1,h2⟩
    ·exact .inr ⟨h1,h2,λj v hj=>hcc j v hj h1,h4,λo=>h5 o λq=>absurd q ht8⟩
  refine(hW w A g off xs.length c iN vb vo vc css.flatten dv hS).mono ?_
  rintro ex w' ⟨B,O,c',rfl,hc',hp⟩
  obtain⟨ft,fd⟩:=Df3 css iN (a6 hcss)
  have hsame:∀b,ok b→w'.heap[b]? =w.heap[b]? :=λb hb=>hp.same b (hok b hb) λq=>by
   rcases hst with⟨h1,h2,h3⟩|⟨h1,h2,h3,h4,h5,h6,h7⟩
   ·have:=hok b hb;omega
   ·exact h6 (q▸hb)
  have hnew:=Ga6 hcss iN x dv hd1
  have hrow:RowAt (λb=>ok b∨False) w' B O t a:=by
   rw[haeq]
   refine A43 (rest:=[]) (hnew.mono λ_ _ q=>q.mono (λb hb=> .inl hb) hsame) λj v hj=> ?_
   refine hp.cells j v ?_
   rw[G59]at hj
   simpa only[List.flatten_append,G97,List.flatten_nil,G59,ft,fd]using hj
  have hal:a.length=xs.length+1:=by
   rw[haeq];simp;omega
  have hfrz:NoFrz t w' B:=by
   intro o _
   refine hp.frz (λo=> ?_) o
   rcases hst with⟨h1,h2,h3⟩|⟨h1,h2,h3,h4,h5,h6,h7⟩
   ·have:w.heap[g]? =none:=Hb9 h2
    simp[World.frozen?,this]
   ·exact h5 o λq=>absurd q ht8
  refine⟨_,rfl,hp.os,hp.tape,hp.put,hp.size,λb hb hnb=> ?_,hp.room,λ_=>False,[_],[B]++ [],λb h=>h.elim, .cons (bs:=[B]) (bs':=[]) (.cons (bs:=[B]) (bs':=[]) ⟨some ⟨B,O,none⟩,c',rfl,by omega, .inr ⟨B,O,rfl,rfl,hrow,hfrz,hp.rm⟩⟩ .nil) (.inr ⟨rfl,by rw[hal]⟩) .nil,by simp,λb hb=> ?_,rfl, .gone .nil⟩
  ·refine hp.same b hb λq=> ?_
   rcases hst with⟨h1,h2,h3⟩|⟨h1,h2,h3,h4,h5,h6,h7⟩
   ·omega
   ·exact hnb (by rw[h7,q];simp[MD.blk])
  ·have hbB:b=B:=by simpa using hb
   subst hbB
   rcases hp.who with q|q
   ·rcases hst with⟨h1,h2,h3⟩|⟨h1,h2,h3,h4,h5,h6,h7⟩
    ·obtain⟨cs,e9,fr,k1,k2⟩:=hp.rm
     rw[G85]at k1
     exact .inl ⟨by omega,k1.1,id⟩
    ·exact .inr (by rw[h7,q];simp[Ap1,MD.blk])
   ·exact .inl ⟨q.1,q.2,id⟩
 intro ok w hok _
 refine⟨λA=> ?_,λxs g off c hc h0 hrow hfz hroom hg hng _=> ?_⟩
 ·exact main ok w hok [] A w.heap.size 0 0 .nil (G53 _) (.inl ⟨rfl,G53 _,rfl⟩)
 ·exact main ok w hok xs (some ⟨g,off,none⟩) g off c (.row g off c) hc (.inr ⟨rfl,hg,hrow,hroom,hfz,hng,rfl⟩)
end
end Go.Vm
end
end
section
namespace Go.Vm
open Go Go.Proofs Go.RowKit Go.Lib
theorem Ch1 {ops:Array Oper} {rest:List Oper} {o:Oper} {a:Act} {Q:Exit→Act→World→Prop} (w:World) (hgd:o.guard=none) (d s:Operand) (t t':TypeId)
  (ho:o.op= .call {callee:= .builtin .copy,args:= #[d,s],argTypes:= #[t,t']}) (v u:Value) (hd:a.eval d=v) (hs:a.eval s=u) {v':Value} {w':World}
  (hr:(Builtin.copy_ #[t,t'] o.type #[v,u]).run Tryz.prog w= .ok v' w') (h:wpList Tryz.prog ops Q rest (a.put o.dst v') w'):wpList Tryz.prog ops Q (o::rest) a w:=by
 refine wpList_plain hgd λ_ hK=> ?_
 unfold Oper.wp execOp
 simp only[ho,resolve,invoke,builtin,Sem.run_bind,Sem.run_pure,Result.andThen_ok,List.map_toArray,G95,List.map_nil,hd,hs,hr]
 exact hK _ _ h
theorem Dz0 {ops:Array Oper} {o:Oper} {a:Act} {w:World} {K:Act→World→Prop} {Q:Exit→Act→World→Prop} {E:Prop}
  (hg:o.guard=none) (d x:Operand) (dT sT:TypeId) (hop:o.op=Op.call {callee:=Callee.builtin Builtin.copy,args:= #[d,x],argTypes:= #[dT,sT]})
  (v u:Value) (hd:a.eval d=v) (hx:a.eval x=u) {v':Value} {w':World} (hr:(Builtin.copy_ #[dT,sT] o.type #[v,u]).run Tryz.prog w= .ok v' w') (hK:K (a.put o.dst v') w'):
  if Region.wanted o (yielded ops a.tmps)=true then Oper.wp Tryz.prog o a w K Q else E:=by
 have hw:Region.wanted o (yielded ops a.tmps)=true:=by simp[Region.wanted,hg]
 rw[G45 hw]
 unfold Oper.wp
 simp[execOp,hop,resolve,invoke,builtin,hd,hx,hr,Result.andThen]
 exact hK
theorem Dz1:(Tryz.prog.info? 145).map (λi=> (i.zero,i.size,i.bytes))=some (some (Value.agg #[.int .i64 0, .int .i64 0]),2,16):=by kernel_rfl
theorem Df4 (w2:World) (A:Option Addr) (n c:Nat):(Builtin.lenOf (.slice A n c)).run Tryz.prog w2= .ok n w2:=by simp[Builtin.lenOf]
set_option maxHeartbeats 4000000 in
set_option maxRecDepth 100000 in
theorem D09 (w:World) (g off n c vb vo vc:Nat) (vs:List Value) (hn:n≤1073741824) (hvl:vs.length=2) (hroom:n+1≤c) (h1v:∀v∈vs,v.oneCell'=true)
  (hvs:∀j v,vs[j]? =some v→w.cell? ⟨vb,vo+j,none⟩=some v) (hR:Room w g (off+c*2)) (hf:∀o,w.frozen? ⟨g,o,none⟩=false):
  Calls Tryz.prog 173 #[.slice (some ⟨g,off,none⟩) n c, .int .i64 n, .slice (some ⟨vb,vo,none⟩) 1 vc] w λe w'=>e= .returned (.slice (some ⟨g,off,none⟩) (n+1) c)∧w'=putCells g vs (off+n*2) w:=by
 have hsome:∀j,j<vs.length→(w.cell? ⟨g,off+n*2+j,none⟩).isSome=true:=λj hj=>hR.cell (by omega)
 have hst:(storeCells ((⟨g,off,none⟩:Addr).add (n*2)) vs).run Tryz.prog w= .ok () (putCells g vs (off+n*2) w):=by
  have:=R6 Tryz.prog g (off+n*2) vs 0 w (λj hj=> ⟨by rw[G69];exact hsome j hj,hf _⟩) h1v
  rw[G69]at this
  rw[H5]
  exact this
 have hap:∀ty,(Builtin.append_ #[127,127] ty #[.slice (some ⟨g,off,none⟩) n c, .slice (some ⟨vb,vo,none⟩) 1 vc]).run Tryz.prog w= .ok (.slice (some ⟨g,off,none⟩) (n+1) c) (putCells g vs (off+n*2) w):=λty=>
  Ap6 (e:=145) (size:=2) (news:=vs) Tryz.underlying127 Tryz.underlying127 (λ_ h=>by cases h) Tryz.sizeOf145 (λw2=>Df4 w2 _ _ _) (run_firstCells_some w 2 1 ⟨vb,vo,none⟩ 1 vc vs (by omega) λj v hj=>by rw[H5];exact hvs j v hj) hroom hst
 have hz1:¬((1:Int)=0):=by omega
 go_enter Tryz.func173,Tryz.ntmps173
 go_wp2_with (at_builtin;refine Lib.wpList_append_run _ rfl _ _ 127 127 rfl _ _ rfl rfl _ _ (hap _) ?_)
 go_ret
 exact⟨rfl,rfl⟩
set_option maxHeartbeats 4000000 in
set_option maxRecDepth 100000 in
theorem D10 (w:World) (A:Option Addr) (n c vb vo vc:Nat) (cs vs:List Value) (hn:n≤1073741824) (hvl:vs.length=2) (hnc:n≤c) (hroom:c<n+1)
  (hold:(Builtin.firstCells 2 n (.slice A n c)).run Tryz.prog w.drew= .ok cs.toArray w.drew) (hvs:∀j v,vs[j]? =some v→w.cell? ⟨vb,vo+j,none⟩=some v):
  Calls Tryz.prog 173 #[.slice A n c, .int .i64 n, .slice (some ⟨vb,vo,none⟩) 1 vc] w λe w'=>e= .returned (.slice (some ⟨w.heap.size,0,none⟩) (n+1) (grownCap w (n+1) c 145))∧
   w'=w.drew.alloc (.cells (cs.toArray++vs.toArray++Builtin.zeroCells (Value.agg #[.int .i64 0, .int .i64 0]).cells (grownCap w (n+1) c 145- (n+1))) 145):=by
 obtain⟨i0,hi0,hz0,hzs,hzb⟩:=info_parts Dz1
 have hap:∀ty,(Builtin.append_ #[127,127] ty #[.slice A n c, .slice (some ⟨vb,vo,none⟩) 1 vc]).run Tryz.prog w= .ok (.slice (some ⟨w.heap.size,0,none⟩) (n+1) (grownCap w (n+1) c 145))
   (w.drew.alloc (.cells (cs.toArray++vs.toArray++Builtin.zeroCells (Value.agg #[.int .i64 0, .int .i64 0]).cells (grownCap w (n+1) c 145- (n+1))) 145)):=λty=>
  B55 (e:=145) (size:=2) (news:=vs) (olds:=cs) Tryz.underlying127 Tryz.underlying127 (λ_ h=>by cases h) Tryz.sizeOf145 hi0 (by omega) Tryz.zeroValue145 (λw2=>Df4 w2 _ _ _)
   (run_firstCells_some w.drew 2 1 ⟨vb,vo,none⟩ 1 vc vs (by omega) λj v hj=>by rw[H5];exact hvs j v hj) hold hroom (by unfold A5;omega)
 obtain⟨G,hG⟩:∃G,G=grownCap w (n+1) c 145:=⟨_,rfl⟩
 rw[←hG]at hap ⊢
 obtain⟨ROW,hROW⟩:∃ROW:Array Value,ROW=cs.toArray++vs.toArray++Builtin.zeroCells (Value.agg #[.int .i64 0, .int .i64 0]).cells (G- (n+1)):=⟨_,rfl⟩
 rw[←hROW]at hap ⊢
 have hz1:¬((1:Int)=0):=by omega
 clear hG hROW
 go_enter Tryz.func173,Tryz.ntmps173
 go_wp2_with (at_builtin;refine Lib.wpList_append_run _ rfl _ _ 127 127 rfl _ _ rfl rfl _ _ (hap _) ?_)
 go_ret
 exact⟨rfl,rfl⟩
set_option maxHeartbeats 4000000 in
set_option maxRecDepth 100000 in
theorem E65 (w:World) (g off n c i vb vo vc:Nat) (cs vs:List Value) (hn:n≤1073741824) (hi:i<n) (hcl:cs.length=n*2) (hvl:vs.length=2) (hroom:n+1≤c) (h1c:∀v∈cs,v.oneCell'=true) (h1v:∀v∈vs,v.oneCell'=true)
  (hcs:∀j v,cs[j]? =some v→w.cell? ⟨g,off+j,none⟩=some v) (hvs:∀j v,vs[j]? =some v→w.cell? ⟨vb,vo+j,none⟩=some v) (hvb:vb≠g) (hR:Room w g (off+c*2)) (hf:∀o,w.frozen? ⟨g,o,none⟩=false):
  Calls Tryz.prog 173 #[.slice (some ⟨g,off,none⟩) n c, .int .i64 i, .slice (some ⟨vb,vo,none⟩) 1 vc] w λe w'=>e= .returned (.slice (some ⟨g,off,none⟩) (n+1) c)∧
   w'=putCells g vs (off+i*2) (putCells g (cs.drop (i*2)) (off+(i+1)*2) w.drew):=by
 have hcell:∀j,j< (n+1)*2→(w.cell? ⟨g,off+j,none⟩).isSome=true:=λj hj=>hR.cell (by omega)
 obtain⟨tA,kA,hsa,hka⟩:∃tA kA,w.shape? vb=some (tA,kA)∧kA≠0:=by
  obtain⟨v,hv⟩:∃v,vs[0]? =some v:=⟨_,G36 (by omega)⟩
  obtain⟨ca,e,fr,h1,h2⟩:=Ei5 (hvs 0 v hv)
  exact⟨e,ca.size,by simp[World.shape?,h1],by omega⟩
 obtain⟨tB,kB,hsb,hkb⟩:∃tB kB,w.shape? g=some (tB,kB)∧kB≠0:=by
  obtain⟨ca,e,fr,h1,h2⟩:=hR
  exact⟨e,ca.size,by simp[World.shape?,h1],by omega⟩
 have hov:∀lb cb,(callFunc 204 #[.slice (some ⟨vb,vo,none⟩) 1 vc, .slice (some ⟨g,off+(i+1)*2,none⟩) lb cb]).run Tryz.prog w= .ok (.value (.bool false)) w:=λlb cb=>by
  rw[run_callFunc_extern Tryz.func204 (by kernel_rfl) (by kernel_rfl) (by kernel_rfl) (e:=Extern.SlicesOverlaps.overlaps #[127,127] #[4]) (by kernel_rfl),
   Dk4 w 127 4 145 Tryz.underlying127 2 Tryz.sizeOf145 ⟨vb,vo,none⟩ ⟨g,off+(i+1)*2,none⟩ 1 vc lb cb hvb tA tB kA kB hsa hka hsb hkb hf (hf _)]
  rfl
 have hdl:(cs.drop (i*2)).length=(n-i)*2:=by rw[List.length_drop,hcl];omega
 have hcp1:∀ty dc sc,(Builtin.copy_ #[127,127] ty #[.slice (some ⟨g,off+(i+1)*2,none⟩) (n-i) dc, .slice (some ⟨g,off+i*2,none⟩) (n+1-i) sc]).run Tryz.prog w.drew= .ok (goInt (Nat.min (n+1-i) (n-i))) (putCells g (cs.drop (i*2)) (off+(i+1)*2) w.drew):=λty dc sc=>
  B10 w.drew _ _ ty 145 2 g (off+(i+1)*2) (n-i) dc ⟨g,off+i*2,none⟩ (n+1-i) sc (cs.drop (i*2)) Tryz.underlying127 Tryz.sizeOf145 (by rw[hdl,show Nat.min (n+1-i) (n-i)=n-i from by simp only[Nat.min_def];split<;>omega])
   (λj v hj=>by rw[H5,G83];exact hcs (i*2+j) v (by rwa [List.getElem?_drop]at hj))
   (λj hj=>by rw[G83];exact hcell _ (by omega)) (λj hj=>hf _) (λv hv=>h1c v (List.mem_of_mem_drop hv))
 obtain⟨W1,hW1⟩:∃W1,W1=putCells g (cs.drop (i*2)) (off+(i+1)*2) w.drew:=⟨_,rfl⟩
 have hP1:Puts g w.drew W1:=hW1▸G0 g _ _ _
 have hcp2:∀(W:World),(∀x,W.cell? x=W1.cell? x)→(∀x,W.frozen? x=W1.frozen? x)→∀ty dc,(Builtin.copy_ #[127,127] ty #[.slice (some ⟨g,off+i*2,none⟩) (n+1-i) dc, .slice (some ⟨vb,vo,none⟩) 1 vc]).run Tryz.prog W= .ok (goInt (Nat.min 1 (n+1-i))) (putCells g vs (off+i*2) W):=λW hWc hWf ty dc=>
  B10 W _ _ ty 145 2 g (off+i*2) (n+1-i) dc ⟨vb,vo,none⟩ 1 vc vs Tryz.underlying127 Tryz.sizeOf145 (by rw[hvl,show Nat.min 1 (n+1-i)=1 from by simp only[Nat.min_def];split<;>omega])
   (λj v hj=>by
    rw[H5,hWc]
    have hb:=hP1.other vb hvb
    rw[I3 (a:=⟨vb,vo+j,none⟩) hb]
    exact hvs j v hj)
   (λj hj=>by rw[hWc,hP1.some,G83];exact hcell _ (by omega)) (λj hj=>by rw[hWf,hP1.frozen];exact hf _) h1v
 rw[←hW1]at hcp1
 have hz1:¬((1:Int)=0):=by omega
 have hz2:¬((i:Int)=(n:Int)):=by omega
 have hw1:IntKind.i64.wrap ((i:Int)+1)=(i:Int)+1:=by rw[IntKind.wrap_i64];omega
 have hw2:IntKind.i64.wrap ((n:Int)+1)=(n:Int)+1:=by rw[IntKind.wrap_i64];omega
 have hb1:(0:Int)≤(i:Int)+1:=by omega
 have hin:i≤n:=by omega
 have htn:((i:Int)+1).toNat=i+1:=by omega
 have htn2:((n:Int)+1).toNat=n+1:=by omega
 have hb2:¬(c=i+1):=by omega
 have hb3:(i:Int)≤(n:Int)+1:=by omega
 have hb4:¬(c=i):=by omega
 have hb5:¬((c:Int)< (n:Int)+1):=by omega
 have mixed:Tryz.prog.follows .mixedOrders=true:=Tryz.checked.mixed
 go_enter Tryz.func173,Tryz.ntmps173
 go_wp2_with (simp only[hov])
 go_region_law_o (refine Dz0 rfl _ _ 127 127 rfl _ _ (by simp[Act.eval,Act.put]) (by simp[Act.eval,Act.put]) (hcp1 _ _ _) ?_)
 go_wp2_with (at_builtin;refine Ch1 _ rfl _ _ 127 127 rfl _ _ rfl rfl (hcp2 _ (λ_=>rfl) (λ_=>rfl) _ _) ?_)
 go_ret
 first|exact⟨rfl,rfl⟩|exact⟨rfl,by rw[hW1]⟩
theorem Ch2 (m:Nat):(Builtin.zeroCells (Value.agg #[.int .i64 0, .int .i64 0]).cells m).size=m*2:=by
 simp[Builtin.zeroCells,Value.cells]
set_option maxHeartbeats 4000000 in
set_option maxRecDepth 100000 in
theorem Fl1 (w:World) (g off n c i vb vo vc:Nat) (cs vs:List Value) (hn:n≤1073741824) (hi:i<n) (hcl:cs.length=n*2) (hvl:vs.length=2) (hnc:n≤c) (hroom:c<n+1) (h1c:∀v∈cs,v.oneCell'=true) (h1v:∀v∈vs,v.oneCell'=true)
  (hcs:∀j v,cs[j]? =some v→w.cell? ⟨g,off+j,none⟩=some v) (hvs:∀j v,vs[j]? =some v→w.cell? ⟨vb,vo+j,none⟩=some v) (hgw:g<w.heap.size) (hvw:vb<w.heap.size):
  Calls Tryz.prog 173 #[.slice (some ⟨g,off,none⟩) n c, .int .i64 i, .slice (some ⟨vb,vo,none⟩) 1 vc] w λe w'=>e= .returned (.slice (some ⟨w.heap.size,0,none⟩) (n+1) (grownCap w (n+1) c 145))∧
   w'=putCells w.heap.size (cs.drop (i*2)) ((i+1)*2) ((putCells w.heap.size vs (i*2) ((w.alloc (.cells ((cs.take (i*2)).toArray++Builtin.zeroCells (Value.agg #[.int .i64 0, .int .i64 0]).cells (n+1-i)++Builtin.zeroCells (Value.agg #[.int .i64 0, .int .i64 0]).cells (grownCap w (n+1) c 145- (n+1))) 145)).drew)).drew):=by
 obtain⟨i0,hi0,hz0,hzs,hzb⟩:=info_parts Dz1
 have hz1:¬((1:Int)=0):=by omega
 have hz2:¬((i:Int)=(n:Int)):=by omega
 have hz3:(c:Int)< (n:Int)+1:=by omega
 have hkk:(n:Int)+1- (i:Int)=((n+1-i:Nat):Int):=by omega
 have hik:i+(n+1-i)=n+1:=by omega
 have hold:(Builtin.firstCells i0.size i (.slice (some ⟨g,off,none⟩) i c)).run Tryz.prog w.drew= .ok (cs.take (i*2)).toArray w.drew:=by
  rw[hzs]
  exact run_firstCells_some w.drew 2 i ⟨g,off,none⟩ i c (cs.take (i*2)) (by rw[List.length_take,hcl];omega) (λj v hj=>by
   rw[H5]
   rw[List.getElem?_take]at hj
   split at hj
   ·exact hcs j v hj
   ·cases hj)
 have hrz:∀ty,(Builtin.append_ #[127,3] ty #[.slice (some ⟨g,off,none⟩) i c, .int .i64 ((n:Int)+1- (i:Int))]).run Tryz.prog w=
   .ok (.slice (some ⟨w.heap.size,0,none⟩) (n+1) (grownCap w (n+1) c 145)) (w.drew.alloc (.cells ((cs.take (i*2)).toArray++Builtin.zeroCells (Value.agg #[.int .i64 0, .int .i64 0]).cells (n+1-i)++Builtin.zeroCells (Value.agg #[.int .i64 0, .int .i64 0]).cells (grownCap w (n+1) c 145- (n+1))) 145)):=λty=>by
  have h:=Lib.run_append_grow_zeros w 127 3 ty 145 i0 _ .i64 .i64 Tryz.underlying127 Tryz.underlying3 hi0 hz0 (some ⟨g,off,none⟩) i c (cs.take (i*2)) hold (n+1-i) (by omega) (by omega) (by omega) (by omega) (by rw[hzb];omega) (by rw[hzb,hik];exact growslice_fits hroom (by omega))
  rw[hik]at h
  rw[hkk]
  exact h
 obtain⟨G,hG⟩:∃G,G=grownCap w (n+1) c 145:=⟨_,rfl⟩
 have hGn:n+1≤G:=by rw[hG];exact grownCap_ge w _ _ _
 have hG63:G≤9223372036854775807:=by
  have:=grownCap_le_maxLen w (n+1) c 145 (by unfold maxLen;omega)
  rw[←hG]at this
  unfold maxLen at this
  omega
 obtain⟨ROW,hROW⟩:∃ROW:Array Value,ROW=(cs.take (i*2)).toArray++Builtin.zeroCells (Value.agg #[.int .i64 0, .int .i64 0]).cells (n+1-i)++Builtin.zeroCells (Value.agg #[.int .i64 0, .int .i64 0]).cells (G- (n+1)):=⟨_,rfl⟩
 rw[←hG]at hrz ⊢
 rw[←hROW]at hrz ⊢
 have hRl:(n+1)*2≤ROW.size:=by
  rw[hROW]
  simp only[Array.size_append,Ch2,List.size_toArray,List.length_take,hcl]
  omega
 obtain⟨W1,hW1⟩:∃W1,W1=w.drew.alloc (.cells ROW 145):=⟨_,rfl⟩
 rw[←hW1]at hrz
 have hN:∀j,j< (n+1)*2→(W1.cell? ⟨w.heap.size,j,none⟩).isSome=true:=λj hj=>by
  rw[hW1,World.cell?_alloc_at (w:=w.drew) ROW _ w.heap.size j rfl,Array.getElem?_eq_getElem (by omega)];rfl
 have hNf:∀j,W1.frozen? ⟨w.heap.size,j,none⟩=false:=λj=>by rw[hW1];exact World.frozen?_alloc_at (w:=w.drew) ROW _ w.heap.size j rfl
 have hOb:∀j v,w.cell? ⟨g,j,none⟩=some v→W1.cell? ⟨g,j,none⟩=some v:=λj v h=>by rw[hW1,World.cell?_alloc_past (w:=w.drew) _ g j hgw];exact h
 have hOv:∀j v,w.cell? ⟨vb,j,none⟩=some v→W1.cell? ⟨vb,j,none⟩=some v:=λj v h=>by rw[hW1,World.cell?_alloc_past (w:=w.drew) _ vb j hvw];exact h
 have hcpA:∀(W:World),(∀x,W.cell? x=W1.cell? x)→(∀x,W.frozen? x=W1.frozen? x)→∀ty dc,(Builtin.copy_ #[127,127] ty #[.slice (some ⟨w.heap.size,i*2,none⟩) (n+1-i) dc, .slice (some ⟨vb,vo,none⟩) 1 vc]).run Tryz.prog W= .ok (goInt (Nat.min 1 (n+1-i))) (putCells w.heap.size vs (i*2) W):=λW hWc hWf ty dc=>
  B10 W _ _ ty 145 2 w.heap.size (i*2) (n+1-i) dc ⟨vb,vo,none⟩ 1 vc vs Tryz.underlying127 Tryz.sizeOf145 (by rw[hvl,show Nat.min 1 (n+1-i)=1 from by simp only[Nat.min_def];split<;>omega])
   (λj v hj=>by rw[H5,hWc];exact hOv _ v (hvs j v hj))
   (λj hj=>by rw[hWc];exact hN _ (by omega)) (λj hj=>by rw[hWf];exact hNf _) h1v
 have hdl:(cs.drop (i*2)).length=(n-i)*2:=by rw[List.length_drop,hcl];omega
 have hcpB:∀(W:World),(∀x,W.cell? x=(putCells w.heap.size vs (i*2) W1).cell? x)→(∀x,W.frozen? x=(putCells w.heap.size vs (i*2) W1).frozen? x)→∀ty dc sc,(Builtin.copy_ #[127,127] ty #[.slice (some ⟨w.heap.size,(i+1)*2,none⟩) (n-i) dc, .slice (some ⟨g,off+i*2,none⟩) (n-i) sc]).run Tryz.prog W= .ok (goInt (Nat.min (n-i) (n-i))) (putCells w.heap.size (cs.drop (i*2)) ((i+1)*2) W):=λW hWc hWf ty dc sc=>
  B10 W _ _ ty 145 2 w.heap.size ((i+1)*2) (n-i) dc ⟨g,off+i*2,none⟩ (n-i) sc (cs.drop (i*2)) Tryz.underlying127 Tryz.sizeOf145 (by rw[hdl,show Nat.min (n-i) (n-i)=n-i from by simp only[Nat.min_def];split<;>omega])
   (λj v hj=>by
    rw[H5,hWc]
    have hb:=(G0 w.heap.size vs (i*2) W1).other g (by omega)
    rw[I3 (a:=⟨g,off+i*2+j,none⟩) hb,G83]
    exact hOb _ v (hcs (i*2+j) v (by rwa [List.getElem?_drop]at hj)))
   (λj hj=>by rw[hWc,(G0 w.heap.size vs (i*2) W1).some];exact hN _ (by omega))
   (λj hj=>by rw[hWf,(G0 w.heap.size vs (i*2) W1).frozen];exact hNf _) (λv hv=>h1c v (List.mem_of_mem_drop hv))
 have hGi:¬(G=i):=by omega
 have hGim:¬(G=i+1):=by omega
 have hci:¬(c=i):=by omega
 subst hW1
 have hdc:∀(vs:List Value) (g p:Nat) (W:World),(putCells g vs p W).drew=putCells g vs p W.drew:=by
  intro vs
  induction vs with
  |nil=>intro g p W;rfl
  |cons v r ih=>intro g p W;simp only[putCells];rw[ih];rfl
 have hE1:∀x,((w.alloc (.cells ROW 145)).drew).cell? x=(w.drew.alloc (.cells ROW 145)).cell? x:=λx=>rfl
 have hE2:∀x,((w.alloc (.cells ROW 145)).drew).frozen? x=(w.drew.alloc (.cells ROW 145)).frozen? x:=λx=>rfl
 have hF1:∀x,(((putCells w.heap.size vs (i*2) ((w.alloc (.cells ROW 145)).drew))).drew).cell? x=(putCells w.heap.size vs (i*2) (w.drew.alloc (.cells ROW 145))).cell? x:=λx=>rfl
 have hF2:∀x,(((putCells w.heap.size vs (i*2) ((w.alloc (.cells ROW 145)).drew))).drew).frozen? x=(putCells w.heap.size vs (i*2) (w.drew.alloc (.cells ROW 145))).frozen? x:=λx=>rfl
 have hw1:IntKind.i64.wrap ((i:Int)+1)=(i:Int)+1:=by rw[IntKind.wrap_i64];omega
 have hw2:IntKind.i64.wrap ((n:Int)+1)=(n:Int)+1:=by rw[IntKind.wrap_i64];omega
 have hw3:IntKind.i64.wrap ((n:Int)+1- (i:Int))=(n:Int)+1- (i:Int):=by rw[IntKind.wrap_i64];omega
 have hb1:(0:Int)≤(i:Int)+1:=by omega
 have hin:i≤n:=by omega
 have htn:((i:Int)+1).toNat=i+1:=by omega
 have hb3:(i:Int)≤(n:Int):=by omega
 have hb4:(i:Int)≤(n:Int)+1:=by omega
 have mixed:Tryz.prog.follows .mixedOrders=true:=Tryz.checked.mixed
 clear hkk hik hold hROW hG hRl
 go_enter Tryz.func173,Tryz.ntmps173
 go_wp2_with (first
  |(at_builtin;refine Lib.wpList_append_run _ rfl _ _ _ _ rfl _ _ rfl rfl _ _ (hrz _) ?_)
  |(at_builtin;refine Ch1 _ rfl _ _ 127 127 rfl _ _ rfl rfl (hcpA _ hE1 hE2 _ _) ?_)
  |(at_builtin;refine Ch1 _ rfl _ _ 127 127 rfl _ _ rfl rfl (hcpB _ (λ_=>rfl) (λ_=>rfl) _ _ _) ?_))
 go_region_law_o (refine Dz0 rfl _ _ 127 127 rfl _ _ (by simp[Act.eval,Act.put]) (by simp[Act.eval,Act.put]) (hcpB _ hF1 hF2 3 (G- (i+1)) (c-i)) ?_)
 go_wp2
 go_ret
 exact⟨rfl,by rw[hdc]⟩
theorem Fl2:F33 Tryz.prog 173 2:=by
 intro w A g off n c i vb vo vc cs vs h
 obtain⟨hi,hnc,hn,hcl,hvl,_,h1c,h1v,hvs,hvb,hst⟩:=h
 have hvw:vb<w.heap.size:=by
  obtain⟨v,hv⟩:∃v,vs[0]? =some v:=⟨_,G36 (by omega)⟩
  obtain⟨ca,e,fr,h1,h2⟩:=Ei5 (hvs 0 v hv)
  rw[G85]at h1;exact h1.1
 have atEnd:∀(hold:(Builtin.firstCells 2 n (.slice A n c)).run Tryz.prog w.drew= .ok cs.toArray w.drew) (hroom:c<n+1),
   Calls Tryz.prog 173 #[.slice A n c, .int .i64 n, .slice (some ⟨vb,vo,none⟩) 1 vc] w λe w'=> ∃B O c',e= .returned (.slice (some ⟨B,O,none⟩) (n+1) c')∧n+1≤c'∧InsPost w w' g B O c' 2 (cs.take (n*2)++vs++cs.drop (n*2)):=λhold hroom=>by
  refine(D10 w A n c vb vo vc cs vs hn hvl hnc hroom hold hvs).mono ?_
  rintro e w' ⟨rfl,rfl⟩
  refine⟨_,_,_,rfl,grownCap_ge w _ _ _, ?_⟩
  have hG:=grownCap_ge w (n+1) c 145
  refine Ev7 (Puts.refl _ _) (by simp only[Array.size_append,Ch2,List.size_toArray,hcl,hvl];omega) λj v hj=> ?_
  rw[G78,World.cell?_alloc_at (w:=w.drew) _ _ w.heap.size j rfl]
  have hjl:=E64 hj
  rw[G40 (by omega),Hc0 (by omega),G59]at hj hjl
  rw[Array.getElem?_append_left (by simp at hjl ⊢;omega)]
  simpa using hj
 rcases hst with⟨hc0,hg⟩|⟨rfl,hgw,hcs,hR,hf⟩
 ·obtain rfl:n=0:=by omega
  obtain rfl:i=0:=by omega
  obtain rfl:c=0:=hc0
  obtain rfl:cs=[]:=G58.1 (by omega)
  refine atEnd ?_ (by omega)
  cases A with
  |none=>exact run_firstCells_none w.drew 2 0 0 0
  |some a=>exact run_firstCells_some w.drew 2 0 a 0 0 [] rfl λj v hj=>by simp at hj
 by_cases hin:i=n
 ·subst hin
  by_cases hroom:i+1≤c
  ·refine(D09 w g off i c vb vo vc vs hn hvl hroom h1v hvs hR hf).mono ?_
   rintro e w' ⟨rfl,rfl⟩
   refine⟨_,_,_,rfl,hroom,(G0 g vs (off+i*2) w).ins hR λj v hj=> ?_⟩
   rcases Dk5 (by omega) hvl hj with⟨q,h⟩|⟨q,q2,h⟩|⟨q,h⟩
   ·rw[E5 g _ _ _ _ (by omega)]
    exact hcs j v h
   ·exact Fl0 (j:=j) (by omega) (by rw[show off+j- (off+i*2)=j-i*2 by omega];exact h) λt ht=>hR.cell (by omega)
   ·have:=E64 h
    simp at this;omega
  ·refine atEnd (run_firstCells_some w.drew 2 i ⟨g,off,none⟩ i c cs (by omega) λj v hj=>by rw[H5];exact hcs j v hj) (by omega)
 ·by_cases hroom:n+1≤c
  ··refine(E65 w g off n c i vb vo vc cs vs hn (by omega) hcl hvl hroom h1c h1v hcs hvs hvb hR hf).mono ?_
    rintro e w' ⟨rfl,rfl⟩
    have hdl:(cs.drop (i*2)).length=(n-i)*2:=by rw[List.length_drop,hcl];omega
    have hP:Puts g w (putCells g vs (off+i*2) (putCells g (cs.drop (i*2)) (off+(i+1)*2) w.drew)):=(show Puts g w w.drew from⟨rfl,rfl,rfl,rfl,λ_ _=>rfl,λ_ _ h=>h,λ_=>rfl,λ_=>rfl⟩).trans ((G0 g _ _ _).trans (G0 g _ _ _))
    refine⟨_,_,_,rfl,hroom,hP.ins hR λj v hj=> ?_⟩
    rcases Dk5 (by omega) hvl hj with⟨q,h⟩|⟨q,q2,h⟩|⟨q,h⟩
    ·rw[E5 g _ _ _ _ (by omega),E5 g _ _ _ _ (by omega)]
     exact hcs j v h
    ·refine Fl0 (j:=j) (by omega) (by rw[show off+j- (off+i*2)=j-i*2 by omega];exact h) λt ht=> ?_
     rw[(G0 g _ _ _).some]
     exact hR.cell (by omega)
    ·have hjl:=E64 h
     rw[E5 g _ _ _ _ (by omega)]
     exact Fl0 (j:=j) (by omega) (by rw[show off+j- (off+(i+1)*2)=j- (i*2+2)by omega];exact h) λt ht=>hR.cell (by omega)
  ·refine(Fl1 w g off n c i vb vo vc cs vs hn (by omega) hcl hvl hnc (by omega) h1c h1v hcs hvs hgw hvw).mono ?_
   rintro e w' ⟨rfl,rfl⟩
   have hdl:(cs.drop (i*2)).length=(n-i)*2:=by rw[List.length_drop,hcl];omega
   have hG:=grownCap_ge w (n+1) c 145
   obtain⟨ROW,hROW⟩:∃ROW:Array Value,ROW=(cs.take (i*2)).toArray++Builtin.zeroCells (Value.agg #[.int .i64 0, .int .i64 0]).cells (n+1-i)++Builtin.zeroCells (Value.agg #[.int .i64 0, .int .i64 0]).cells (grownCap w (n+1) c 145- (n+1)):=⟨_,rfl⟩
   have hsz:ROW.size=grownCap w (n+1) c 145*2:=by
    rw[hROW]
    simp only[Array.size_append,Ch2,List.size_toArray,List.length_take,hcl];omega
   have hpre:∀j v,j<i*2→cs[j]? =some v→(w.drew.alloc (.cells ROW 145)).cell? ⟨w.heap.size,j,none⟩=some v:=λj v q h=>by
    rw[World.cell?_alloc_at (w:=w.drew) _ _ w.heap.size j rfl,hROW,Array.append_assoc,Array.getElem?_append_left (by simp;omega)]
    simp[q,h]
   have hall:∀j,j< (n+1)*2→((w.drew.alloc (.cells ROW 145)).cell? ⟨w.heap.size,j,none⟩).isSome=true:=λj hj=>by
    rw[World.cell?_alloc_at (w:=w.drew) _ _ w.heap.size j rfl,Array.getElem?_eq_getElem (by omega)];rfl
   rw[←hROW]
   have hP1:Puts w.heap.size (w.drew.alloc (.cells ROW 145)) (putCells w.heap.size vs (i*2) ((w.alloc (.cells ROW 145)).drew)).drew:=
    (G0 w.heap.size vs (i*2) ((w.alloc (.cells ROW 145)).drew)).trans ⟨rfl,rfl,rfl,rfl,λ_ _=>rfl,λ_ _ h=>h,λ_=>rfl,λ_=>rfl⟩
   refine⟨_,_,_,rfl,hG,Ev7 (hP1.trans (G0 w.heap.size _ _ _)) (by omega) λj v hj=> ?_⟩
   rw[G78]
   rcases Dk5 (by omega) hvl hj with⟨q,h⟩|⟨q,q2,h⟩|⟨q,h⟩
   ·rw[E5 _ _ _ _ _ (by omega)]
    show(putCells w.heap.size vs (i*2) (w.drew.alloc (.cells ROW 145))).cell? _=_
    rw[E5 _ _ _ _ _ (by omega)]
    exact hpre j v q h
   ·rw[E5 _ _ _ _ _ (by omega)]
    show(putCells w.heap.size vs (i*2) (w.drew.alloc (.cells ROW 145))).cell? _=_
    exact Fl0 (j:=j) q h λt ht=>hall _ (by omega)
   ·have hjl:=E64 h
    refine Fl0 (j:=j) (by omega) (by rw[show j- (i+1)*2=j- (i*2+2)by omega];exact h) λt ht=> ?_
    rw[hP1.some]
    exact hall _ (by omega)
end Go.Vm
end
section
section
namespace Go.Vm
open Go Go.Sort
theorem E66 (xs:List Int):(sortL xs).length=xs.length:=List.length_mergeSort _
theorem Fl3 {w:World} {blk off:Nat} {d:Array Int} {g m:Nat} {n:Nat} {os:Array Go.Obj} (h:Room w g m):Room (grow (putRow (Value.int .i64) (Sort.ahead w n) blk off d) os) g m:=by
 obtain⟨cs,e,fr,h1,h2⟩:=h
 have hlt:g<w.heap.size:=by
  rw[G85]at h1
  exact h1.1
 have hh:(grow (putRow (Value.int .i64) (Sort.ahead w n) blk off d) os).heap[g]? =(putRow (Value.int .i64) (Sort.ahead w n) blk off d).heap[g]? :=heap_grow_old _ _ (by simp;exact hlt)
 by_cases q:blk=g
 ·subst q
  refine⟨Go.Sort.putCells (Value.int .i64) off d cs,e,fr, ?_,by simp[Go.Sort.putCells];exact h2⟩
  rw[hh]
  show((Sort.ahead w n).heap.modify blk (onCells (Go.Sort.putCells (Value.int .i64) off d)))[blk]? =_
  rw[Ha4,G45 rfl,show(Sort.ahead w n).heap[blk]? =some (.cells cs e fr)from h1]
  rfl
 ·refine⟨cs,e,fr, ?_,h2⟩
  rw[hh]
  show((Sort.ahead w n).heap.modify blk (onCells (Go.Sort.putCells (Value.int .i64) off d)))[g]? =_
  rw[Ha4,G41 q]
  exact h1
theorem Fx1 {P:Program} {ρ:Go.Shelf.Ren} (L:Go.Proofs.SlLaysN.n53 P ρ) (e:TypeId):
  C06 P (ρ.f 53) (.row e (.int .i64) λxs=> .body (Dl2 xs) (λr=>Cl4 [] [] r.1) (λr=>poV [.row e (.int .i64)] r.2)):=by
 intro ok w hok _
 refine⟨λA _ a ha=> ?_,λxs g off c hc h0 hrow hfz hroom hg hng _ _ a ha=> ?_⟩
 ·have ha2:a=((),[],()):=by
   have:Dl2 []=some ((),[],()):=by unfold Dl2;rw[G45 (by simp)];simp[sortL]
   rw[this]at ha;exact(Option.some.inj ha).symm
  subst ha2
  refine(Go.Proofs.AnyG.slices_Sort_int_none L A 0 w).mono ?_
  rintro ex w' ⟨rfl,rfl⟩
  exact⟨_,rfl,rfl,rfl,rfl,G53 _,λ_ _ _=>rfl,λ_ _ h=>h,λ_=>False,[],[],λb h=>h.elim, .nil, .nil,λb hb=>by simp at hb,rfl, .none .nil⟩
 ·have hl:xs.length<4611686018427387904:=by
   unfold Dl2 at ha
   by_cases q:xs.length<4611686018427387904
   ·exact q
   ·rw[G41 q]at ha;cases ha
  have ha2:a=((),sortL xs,()):=by
   unfold Dl2 at ha
   rw[G45 hl]at ha;exact(Option.some.inj ha).symm
  subst ha2
  have hH:Holds (Value.int .i64) w g off xs.toArray:=λj hj=>by
   have hj2:j<xs.length:=by simpa using hj
   obtain⟨ds,hd,hcell⟩:=hrow j hj2
   have e1:ds=[.int .i64 xs[j]]:=hd
   have e2:=hcell 0 (by show 0<1;omega)
   have e3:off+j*(Ty.int .i64).sz+0=off+j:=by show off+j*1+0=off+j;omega
   rw[e3,e1]at e2
   have e4:xs.toArray[j]! =xs[j]:=by rw[getElem!_pos _ j hj];simp
   rw[e4]
   exact⟨e2,hfz _ λ_=>by rw[e2];rfl⟩
  refine(Go.Proofs.AnyG.slices_Sort_int L g off c xs w hH hg hl).mono ?_
  rintro ex w' ⟨rfl,n,os,rfl⟩
  rw[show(xs.mergeSort λx y=>decide (x≤y))=sortL xs from rfl]
  have hsz:(sortL xs).toArray.size=xs.toArray.size:=by simp[E66]
  have hH2:Holds (Value.int .i64) (putRow (Value.int .i64) (Sort.ahead w n) g off (sortL xs).toArray) g off (sortL xs).toArray:=holds_putRow _ _ g off xs.toArray _ (holds_ahead _ _ _ _ _ _ hH) hsz
  have hH3:Holds (Value.int .i64) (grow (putRow (Value.int .i64) (Sort.ahead w n) g off (sortL xs).toArray) os) g off (sortL xs).toArray:=holds_grow _ _ _ _ _ _ (by simp;exact hg) hH2
  have hse:(putRow (Value.int .i64) (Sort.ahead w n) g off (sortL xs).toArray).heap.size=w.heap.size:=by simp
  refine⟨_,rfl,rfl,rfl,rfl,by rw[size_grow,hse];omega,λb hb hnb=> ?_,λ_ _ h=>Fl3 h,λ_=>False,[],[],λb h=>h.elim, .nil, .nil,λb hb=>by simp at hb,rfl, .row (λi hi=> ?_) (λo ho=> ?_) .nil⟩
  ·have hne:g≠b:=λq=>hnb (by simp[MD.blk,q])
   refine(heap_grow_old _ _ (by rw[hse];exact hb)).trans ?_
   show((Sort.ahead w n).heap.modify g (onCells _))[b]? =_
   rw[Ha4,G41 hne];rfl
  ·have hi2:i< (sortL xs).toArray.size:=by simpa using hi
   refine⟨[.int .i64 (sortL xs)[i]],rfl,λj hj=> ?_⟩
   have hj0:j=0:=by have:j<1:=hj;omega
   subst hj0
   have e3:off+i*(Ty.int .i64).sz+0=off+i:=by show off+i*1+0=off+i;omega
   rw[e3]
   have:=(hH3 i hi2).1
   rw[getElem!_pos _ i hi2]at this
   simpa using this
  ·have e1:(grow (putRow (Value.int .i64) (Sort.ahead w n) g off (sortL xs).toArray) os).frozen? ⟨g,o,none⟩=w.frozen? ⟨g,o,none⟩:=by
    rw[frozen?_grow _ _ _ (by rw[hse];exact hg),frozen?_putRow];rfl
   have e2:(grow (putRow (Value.int .i64) (Sort.ahead w n) g off (sortL xs).toArray) os).cell? ⟨g,o,none⟩=(putRow (Value.int .i64) (Sort.ahead w n) g off (sortL xs).toArray).cell? ⟨g,o,none⟩:=cell?_grow _ _ _ (by rw[hse];exact hg)
   rw[e1]
   refine hfz o λh8=> ?_
   have ho:=ho h8
   rw[e2]at ho
   cases hc2:w.cell? ⟨g,o,none⟩with
   |some v=>rfl
   |none=>
    exfalso
    obtain⟨v,hv⟩:=G74.1 ho
    obtain⟨cs,e2,fr,h1,h2⟩:=cells_of_cell? hv
    have h3:((Sort.ahead w n).heap.modify g (onCells (Go.Sort.putCells (Value.int .i64) off (sortL xs).toArray)))[g]? =some (.cells cs e2 fr):=h1
    rw[Ha4,G45 rfl]at h3
    cases hq:w.heap[g]? with
    |none=>rw[show(Sort.ahead w n).heap[g]? =none from hq]at h3;cases h3
    |some ob=>
     rw[show(Sort.ahead w n).heap[g]? =some ob from hq]at h3
     cases ob with
     |cells c0 e0 f0=>
      simp only[Ha8,onCells]at h3
      injection h3 with h3
      injection h3 with h4 h5 h6
      have:o<cs.size:=by
       rw[G85]at h2;exact h2.1
      have h7:o<c0.size:=by rw[←h4]at this;simpa [Go.Sort.putCells]using this
      rw[World.cell?]at hc2
      simp[hq,h7]at hc2
     |_=>simp only[Ha8,onCells]at h3;cases h3
end Go.Vm
end
end
section
section
namespace Go.Vm
open Go
theorem Gm3 {ok:Nat→Prop} {w:World} {n:Int} {v:Value} (hv:Be3 ok w (.int .i64) n v):v= .int .i64 n:=by
 obtain⟨cs,h1,h2⟩:=hv
 have h1:cs=[.int .i64 n]:=h1
 subst h1
 rcases h2 with⟨h,_⟩|⟨_,h2⟩
 ·cases h
 ·simpa using h2.symm
theorem Fx2 {P : Program} {g : Nat} (hg : P.globalNamed "internal/strconv.uint64pow10" = some g) (he : D28 = some g) {w : World} (h : D44 w) : Lib.TabIs P w "internal/strconv.uint64pow10" .u64 Lib.pow10Tab := by
 obtain⟨e,fr,h1⟩:=h g he
 unfold Lib.TabIs World.var?
 rw[hg]
 simp[h1]
theorem Ga8 {P : Program} {ρ : Go.Shelf.Ren} (L : Go.Proofs.LaysM.n171 P ρ) {g : Nat} (hg : P.globalNamed "internal/strconv.uint64pow10" = some g) (he : D28 = some g) :
  t7 P (ρ.f 171) (B61 (Cl4 [.str] []) [.int .i64] λx=>E93 x.1):=by
 intro ok w hok hE n v hv a ha
 have hv:=Gm3 hv
 subst hv
 have ha:E93 n=some a:=ha
 unfold E93 at ha
 split at ha
 ·rename_i q
  cases ha
  obtain⟨q1,q2⟩:=q
  refine(Go.Proofs.Any.strconv_Itoa L n (by omega) (by omega) w (Fx2 hg he hE)).mono ?_
  rintro e w' ⟨rfl,k,os,rfl⟩
  have hi:(⟨(Lib.itoa n).toArray⟩:ByteArray)=U1 n.toNat:=by
   obtain⟨m,rfl⟩:∃m:Nat,n=m:=⟨n.toNat,(Int.toNat_of_nonneg q1).symm⟩
   rw[Lib.itoa_nonneg];rfl
  rw[hi]
  refine⟨_,rfl,rfl,rfl,rfl,by rw[Go.Sort.size_grow];exact Nat.le_add_right _ _,λb hb=>Go.Sort.heap_grow_old _ _ hb,λ_=>False,[.string (U1 n.toNat)],[],λb h=>h.elim, ?_, .nil,(λb hb=>by cases hb),rfl⟩
  exact ResRel.cons (a:=false) (rs:=[RC.c (.str (U1 n.toNat))]) (vs:=[.string (U1 n.toNat)]) (bs:=[]) (r:=[]) (Vs:=[]) (bs':=[]) (.cons (bs:=[]) ⟨rfl,rfl⟩ .nil) (.inr ⟨rfl,rfl⟩) .nil
 ·cases ha
end Go.Vm
end
end
section
namespace Go.Proofs
open Go.Shelf
def Tryz.sortL_ren:Go.Shelf.Ren:=⟨λ|53=>142|64=>167|63=>166|78=>197|79=>184|70=>188|71=>189|72=>190|73=>191|74=>192|75=>193|59=>194|76=>195|77=>196|88=>214|89=>215|90=>216|91=>217|92=>218|68=>219|96=>230|n=>n,λ|22=>31|23=>3|3=>3|51=>169|0=>0|67=>179|69=>161|4=>4|61=>183|60=>182|44=>188|5=>5|9=>9|75=>200|79=>204|83=>211|84=>212|n=>n,λ|n=>n⟩
theorem Tryz.sortL:Go.Proofs.SlLaysN.n53 Tryz.prog Tryz.sortL_ren:={
 mixed:=by kernel_rfl
 f53:=⟨Tryz.f142.name,by decide,Tryz.func142.trans (congrArg some (by kernel_rfl))⟩
 f59:=⟨Tryz.f194.name,by decide,Tryz.func194.trans (congrArg some (by kernel_rfl))⟩
 f63:=⟨Tryz.f166.name,by decide,Tryz.func166.trans (congrArg some (by kernel_rfl))⟩
 f64:=Tryz.func167.trans (congrArg some (by kernel_rfl))
 f68:=⟨Tryz.f219.name,by decide,Tryz.func219.trans (congrArg some (by kernel_rfl))⟩
 f70:=⟨Tryz.f188.name,by decide,Tryz.func188.trans (congrArg some (by kernel_rfl))⟩
 f71:=⟨Tryz.f189.name,by decide,Tryz.func189.trans (congrArg some (by kernel_rfl))⟩
 f72:=⟨Tryz.f190.name,by decide,Tryz.func190.trans (congrArg some (by kernel_rfl))⟩
 f73:=⟨Tryz.f191.name,by decide,Tryz.func191.trans (congrArg some (by kernel_rfl))⟩
 f74:=⟨Tryz.f192.name,by decide,Tryz.func192.trans (congrArg some (by kernel_rfl))⟩
 f75:=⟨Tryz.f193.name,by decide,Tryz.func193.trans (congrArg some (by kernel_rfl))⟩
 f76:=⟨Tryz.f195.name,by decide,Tryz.func195.trans (congrArg some (by kernel_rfl))⟩
 f77:=⟨Tryz.f196.name,by decide,Tryz.func196.trans (congrArg some (by kernel_rfl))⟩
 f78:=Tryz.func197.trans (congrArg some (by kernel_rfl))
 f79:=Tryz.func184.trans (congrArg some (by kernel_rfl))
 f88:=⟨Tryz.f214.name,by decide,Tryz.func214.trans (congrArg some (by kernel_rfl))⟩
 f89:=Tryz.func215.trans (congrArg some (by kernel_rfl))
 f90:=Tryz.func216.trans (congrArg some (by kernel_rfl))
 f91:=⟨Tryz.f217.name,by decide,Tryz.func217.trans (congrArg some (by kernel_rfl))⟩
 f92:=⟨Tryz.f218.name,by decide,Tryz.func218.trans (congrArg some (by kernel_rfl))⟩
 f96:=⟨Tryz.f230.name,by decide,Tryz.func230.trans (congrArg some (by kernel_rfl))⟩
 t0:=Tryz.underlying0
 a0:=Tryz.isAgg0
 z0:=Tryz.sizeOf0
 v0:=Tryz.zeroValue0
 t3:=Tryz.underlying3
 a3:=Tryz.isAgg3
 z3:=Tryz.sizeOf3
 v3:=Tryz.zeroValue3
 t4:=Tryz.underlying4
 a4:=Tryz.isAgg4
 z4:=Tryz.sizeOf4
 v4:=Tryz.zeroValue4
 t5:=Tryz.underlying5
 a5:=Tryz.isAgg5
 z5:=Tryz.sizeOf5
 v5:=Tryz.zeroValue5
 t9:=Tryz.underlying9
 a9:=Tryz.isAgg9
 z9:=Tryz.sizeOf9
 v9:=Tryz.zeroValue9
 t22:=Tryz.underlying31
 a22:=Tryz.isAgg31
 z22:=Tryz.sizeOf31
 v22:=Tryz.zeroValue31
 t23:=Tryz.underlying3
 a23:=Tryz.isAgg3
 z23:=Tryz.sizeOf3
 v23:=Tryz.zeroValue3
 t44:=Tryz.underlying188
 a44:=Tryz.isAgg188
 z44:=Tryz.sizeOf188
 v44:=Tryz.zeroValue188
 t51:=Tryz.underlying169
 a51:=Tryz.isAgg169
 z51:=Tryz.sizeOf169
 v51:=Tryz.zeroValue169
 t60:=Tryz.underlying182
 a60:=Tryz.isAgg182
 z60:=Tryz.sizeOf182
 v60:=Tryz.zeroValue182
 t61:=Tryz.underlying183
 a61:=Tryz.isAgg183
 z61:=Tryz.sizeOf183
 v61:=Tryz.zeroValue183
 t67:=Tryz.underlying179
 a67:=Tryz.isAgg179
 z67:=Tryz.sizeOf179
 v67:=Tryz.zeroValue179
 t69:=Tryz.underlying161
 a69:=Tryz.isAgg161
 z69:=Tryz.sizeOf161
 v69:=Tryz.zeroValue161
 t75:=Tryz.underlying200
 a75:=Tryz.isAgg200
 z75:=Tryz.sizeOf200
 v75:=Tryz.zeroValue200
 t79:=Tryz.underlying204
 a79:=Tryz.isAgg204
 z79:=Tryz.sizeOf204
 v79:=Tryz.zeroValue204
 t83:=Tryz.underlying211
 a83:=Tryz.isAgg211
 z83:=Tryz.sizeOf211
 v83:=Tryz.zeroValue211
 t84:=Tryz.underlying212
 a84:=Tryz.isAgg212
 z84:=Tryz.sizeOf212
 v84:=Tryz.zeroValue212}
def Tryz.itoaL_ren:Go.Shelf.Ren:=⟨λ|171=>76|243=>112|246=>138|283=>160|284=>161|285=>162|286=>163|129=>184|317=>183|318=>185|319=>186|320=>187|337=>212|338=>213|n=>n,λ|3=>3|9=>9|2=>2|4=>4|171=>160|0=>0|53=>161|37=>103|5=>5|173=>164|212=>178|51=>179|20=>20|213=>180|46=>169|232=>209|233=>210|n=>n,λ|17=>0|18=>1|19=>2|n=>n⟩
theorem Tryz.itoaL:Go.Proofs.LaysM.n171 Tryz.prog Tryz.itoaL_ren:={
 mixed:=by kernel_rfl
 f129:=Tryz.func184.trans (congrArg some (by kernel_rfl))
 f171:=Tryz.func76.trans (congrArg some (by kernel_rfl))
 f243:=Tryz.func112.trans (congrArg some (by kernel_rfl))
 f246:=Tryz.func138.trans (congrArg some (by kernel_rfl))
 f283:=Tryz.func160.trans (congrArg some (by kernel_rfl))
 f284:=Tryz.func161.trans (congrArg some (by kernel_rfl))
 f285:=Tryz.func162.trans (congrArg some (by kernel_rfl))
 f286:=Tryz.func163.trans (congrArg some (by kernel_rfl))
 f317:=Tryz.func183.trans (congrArg some (by kernel_rfl))
 f318:=Tryz.func185.trans (congrArg some (by kernel_rfl))
 f319:=Tryz.func186.trans (congrArg some (by kernel_rfl))
 f320:=Tryz.func187.trans (congrArg some (by kernel_rfl))
 f337:=Tryz.func212.trans (congrArg some (by kernel_rfl))
 f338:=Tryz.func213.trans (congrArg some (by kernel_rfl))
 t0:=Tryz.underlying0
 a0:=Tryz.isAgg0
 z0:=Tryz.sizeOf0
 v0:=Tryz.zeroValue0
 t2:=Tryz.underlying2
 a2:=Tryz.isAgg2
 z2:=Tryz.sizeOf2
 v2:=Tryz.zeroValue2
 t3:=Tryz.underlying3
 a3:=Tryz.isAgg3
 z3:=Tryz.sizeOf3
 v3:=Tryz.zeroValue3
 t4:=Tryz.underlying4
 a4:=Tryz.isAgg4
 z4:=Tryz.sizeOf4
 v4:=Tryz.zeroValue4
 t5:=Tryz.underlying5
 a5:=Tryz.isAgg5
 z5:=Tryz.sizeOf5
 v5:=Tryz.zeroValue5
 t9:=Tryz.underlying9
 a9:=Tryz.isAgg9
 z9:=Tryz.sizeOf9
 v9:=Tryz.zeroValue9
 t20:=Tryz.underlying20
 a20:=Tryz.isAgg20
 z20:=Tryz.sizeOf20
 v20:=Tryz.zeroValue20
 t37:=Tryz.underlying103
 a37:=Tryz.isAgg103
 z37:=Tryz.sizeOf103
 v37:=Tryz.zeroValue103
 t46:=Tryz.underlying169
 a46:=Tryz.isAgg169
 z46:=Tryz.sizeOf169
 v46:=Tryz.zeroValue169
 t51:=Tryz.underlying179
 a51:=Tryz.isAgg179
 z51:=Tryz.sizeOf179
 v51:=Tryz.zeroValue179
 t53:=Tryz.underlying161
 a53:=Tryz.isAgg161
 z53:=Tryz.sizeOf161
 v53:=Tryz.zeroValue161
 t171:=Tryz.underlying160
 a171:=Tryz.isAgg160
 z171:=Tryz.sizeOf160
 v171:=Tryz.zeroValue160
 t173:=Tryz.underlying164
 a173:=Tryz.isAgg164
 z173:=Tryz.sizeOf164
 v173:=Tryz.zeroValue164
 t212:=Tryz.underlying178
 a212:=Tryz.isAgg178
 z212:=Tryz.sizeOf178
 v212:=Tryz.zeroValue178
 t213:=Tryz.underlying180
 a213:=Tryz.isAgg180
 z213:=Tryz.sizeOf180
 t232:=Tryz.underlying209
 a232:=Tryz.isAgg209
 z232:=Tryz.sizeOf209
 v232:=Tryz.zeroValue209
 t233:=Tryz.underlying210
 a233:=Tryz.isAgg210
 z233:=Tryz.sizeOf210
 v233:=Tryz.zeroValue210
 g17:=by kernel_rfl
 g18:=by kernel_rfl
 g19:=by kernel_rfl
 i0:=by kernel_rfl
 i2:=by kernel_rfl
 i3:=by kernel_rfl
 i4:=by kernel_rfl
 i5:=by kernel_rfl
 i9:=by kernel_rfl
 i20:=by kernel_rfl
 i37:=by kernel_rfl
 i46:=by kernel_rfl
 i51:=by kernel_rfl
 i53:=by kernel_rfl
 i171:=by kernel_rfl
 i173:=by kernel_rfl
 i212:=by kernel_rfl
 i232:=by kernel_rfl
 i233:=by kernel_rfl
 m17:=by kernel_rfl
 m18:=by kernel_rfl
 m19:=by kernel_rfl}
end Go.Proofs
end
