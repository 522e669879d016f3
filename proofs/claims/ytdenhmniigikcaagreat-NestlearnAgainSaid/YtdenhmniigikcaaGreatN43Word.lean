/- The check of an automaton, by the program and by the document; and what it leans on. Condition: none. -/
import Derived.Test.YtdenhmniigikcaaGreatKey
set_option linter.all false
set_option maxRecDepth 100000
set_option maxHeartbeats 4000000
namespace Ab
structure ao where
 calls:Int
 aj:Int
 aq:Int
 stack:Int
 start:Int
 accept:List Bool
 call:List (List Int)
 push:List (List Int)
 inner:List (List Int)
 pop:List (List (List Int))
 deriving Inhabited
abbrev ao.av (n:ao):AV:=.agg [.int n.calls,.int n.aj,.int n.aq,.int n.stack,.int n.start,bL n.accept,cK n.call,cK n.push,cK n.inner,fU n.pop]
structure ao.fits (n:ao):Prop where
 calls:kZ n.calls=true
 aj:kZ n.aj=true
 aq:kZ n.aq=true
 stack:kZ n.stack=true
 start:kZ n.start=true
 accept:(n.accept.length:Int)<=9223372036854775807
 call:∀l∈n.call,(l.length:Int)<=9223372036854775807
 push:∀l∈n.push,(l.length:Int)<=9223372036854775807
 inner:∀l∈n.inner,(l.length:Int)<=9223372036854775807
 pop:∀l∈n.pop,(l.length:Int)<=9223372036854775807/\∀m∈l,(m.length:Int)<=9223372036854775807
theorem akv (x k:Int):PC Ed [.int x,.bd (.int k)]=some (.bool (qm k x)):=by
 refine cW (aik rfl ?_);simp[qm];omega
theorem zz (xs:List Int) (k:Int) (hl:(xs.length:Int)<=9223372036854775807): PC tf [iL xs,.int k]=some (.bool (bad xs k)):=by
 refine cW (ahX rfl ?_);simp[RS xs Ed [.bd (.int k)] (qm k) hl rfl rfl (λx _=>akv x k)]
 rfl
theorem RV (n:ao) (h1:kZ (n.calls+n.aj)=true) (h2:kZ (n.calls+n.aj+n.aq)=true):PC zo [n.av]=some (.int (n.calls+n.aj+n.aq)):=by
 refine cW (ahQ rfl ?_);simp;rw[uC]at h1 h2;omega
def ao.pd (n:ao) (l:List Int):Int:=if(l.length:Int) ≠ n.aq then 1 else if bad l n.accept.length=true then 2 else 0
def ao.iJ (n:ao) (s:Int):Int:=
 if ¬((ix n.call s).length:Int)=n.calls\/¬((ix n.push s).length:Int)=n.calls\/¬((ix n.inner s).length:Int)=n.aj\/¬((ix n.pop s).length:Int)=n.stack then 1
 else if bad (ix n.call s) n.accept.length=true\/bad (ix n.push s) n.stack=true\/bad (ix n.inner s) n.accept.length=true then 2
 else gq (λg=>n.pd (ix (ix n.pop s) g)) (ix n.pop s).length
theorem RX (n:ao) (h:n.fits) (s:Int) (h0:0<=s) (h1:s<n.call.length) (h2:s<n.push.length) (h3:s<n.inner.length) (h4:s<n.pop.length):PC Iv [n.av,.int s]=some (.int (n.iJ s)):=by
 have e1:=zz (ix n.call s) n.accept.length (h.call _ (aZ h0 h1));have e2:=zz (ix n.push s) n.stack (h.push _ (aZ h0 h2));have e3:=zz (ix n.inner s) n.accept.length (h.inner _ (aZ h0 h3));have hp:=h.pop _ (aZ h0 h4);refine cW (ahY rfl ?_);simp[h0,h1,h2,h3,h4,e1,e2,e3];have no:∀{a:Int},1=n.iJ s->a=1->a=n.iJ s:=λh e=>e.trans h;refine⟨λa1=>⟨λa2=>⟨λa3=>⟨λa4=>⟨λb1=>by simp[ao.iJ,a1,a2,a3,a4,b1],λb1=>⟨λb2=>by simp[ao.iJ,a1,a2,a3,a4,b2],λb2=>⟨λb3=>by simp[ao.iJ,a1,a2,a3,a4,b3],λb3=>?_⟩⟩⟩,λa4=>by simp[ao.iJ,a4]⟩,λa3=>by simp[ao.iJ,a3]⟩,λa2=>by simp[ao.iJ,a2]⟩,λa1=>by simp[ao.iJ,a1]⟩
 have e:n.iJ s=gq (λg=>n.pd (ix (ix n.pop s) g)) (ix n.pop s).length:=by simp[ao.iJ,a1,a2,a3,a4,b1,b2,b3]
 rw[e];refine bC (λi:Int=>[(4,.int i)]) (λ_=>[]) (λi=>0<=i/\i<=(ix n.pop s).length/\∀j,0<=j->j<i->n.pd (ix (ix n.pop s) j)=0) (λi=>((ix n.pop s).length-i).toNat) 0 rfl (by simp;omega) λi ⟨i0,i1,i2⟩=>?_
 by_cases hi:i<(ix n.pop s).length
 ·have e4:=zz (ix (ix n.pop s) i) n.accept.length (hp.2 _ (aZ i0 hi))
  simp[hi,i0,e4];have q:∀{x:Int},n.pd (ix (ix n.pop s) i)=x->x ≠ 0->x=gq (λg=>n.pd (ix (ix n.pop s) g)) (ix n.pop s).length:=λh1 h2=>by subst h1;exact(RR (f:=λg=>n.pd (ix (ix n.pop s) g)) i0 hi h2 i2).symm
  refine⟨λc1=>⟨λc2=>q (by simp[ao.pd,c1,c2]) (by simp),λc2=>⟨by omega,⟨by omega,by omega,rI (by simp[ao.pd,c1,c2]) i2⟩,by omega⟩⟩,λc1=>q (by simp[ao.pd,c1]) (by simp)⟩
 ·simp[hi]
  rw[IZ λj a b=>i2 j a (by omega)]
def ao.gZ (n:ao):Int:=
 if n.calls<0\/65<=n.calls\/n.aj<0\/65<=n.aj\/n.aq<0\/65<=n.aq then 2
 else if n.calls+n.aj+n.aq<1 then 2
 else if 64<n.calls+n.aj+n.aq then 2
 else if n.stack<1 then 2
 else if 128<n.stack then 2
 else if n.accept=[]then 19
 else if 128<(n.accept.length:Int)then 11
 else if n.start<0 then 2
 else if(n.accept.length:Int)<=n.start then 2
 else if ¬(n.call.length:Int)=n.accept.length then 1
 else if ¬(n.push.length:Int)=n.accept.length then 1
 else if ¬(n.inner.length:Int)=n.accept.length then 1
 else if ¬(n.pop.length:Int)=n.accept.length then 1
 else 0
def ao.bO (n:ao):Int:=if n.gZ ≠ 0 then n.gZ else gq n.iJ n.accept.length
theorem RY{n:ao}{x:Int}(h:n.gZ=x) (hx:x ≠ 0):x=n.bO:=by
 subst h;simp[ao.bO,hx]
theorem I3 (n:ao) (h:n.fits):PC uJ [n.av]=some (.int n.bO):=by
 refine cW (ahB rfl ?_);have e1:PC tf [.aE false [.int n.calls,.int n.aj,.int n.aq],.int 65]=_:=zz [n.calls,n.aj,n.aq] 65 (by simp)
 by_cases hb:bad [n.calls,n.aj,n.aq] 65=true
 ·simp[e1,hb]
  simp[bad,qm]at hb;exact RY (by simp[ao.gZ,show n.calls<0\/65<=n.calls\/n.aj<0\/65<=n.aj\/n.aq<0\/65<=n.aq by omega]) (by simp)
 have rW :=hb;simp[bad,qm]at rW;have e2:=RV n (by rw[uC];omega) (by rw[uC];omega)
 have e0:¬(n.calls<0\/65<=n.calls\/n.aj<0\/65<=n.aj\/n.aq<0\/65<=n.aq):=by omega
 simp[e1,hb,e2]
 repeat' (first|apply And.intro|intro _)
 all_goals try(refine RY ?_ (by simp);unfold ao.gZ;rw[aa e0];repeat (first|rw[ab (by assumption)]|rw[aa (by assumption)]|rw[aa (by omega)]))
 rename_i a1 a2 a3 a4 a5 a6 a7 a8 b1 b2 b3 b4;have e3:n.gZ=0:=by unfold ao.gZ;rw[aa e0];repeat (first|rw[ab (by assumption)]|rw[aa (by assumption)]|rw[aa (by omega)])
 rw[show n.bO=gq n.iJ n.accept.length by simp[ao.bO,e3]]
 refine bC (λi:Int=>[(3,.int i)]) (λ_=>[]) (λi=>0<=i/\i<=n.accept.length/\∀j,0<=j->j<i->n.iJ j=0) (λi=>(n.accept.length-i).toNat) 0 rfl (by simp;omega) λi ⟨i0,i1,i2⟩=>?_
 by_cases hi:i<n.accept.length
 ·have e4:=RX n h i i0 (by omega) (by omega) (by omega) (by omega)
  simp[hi,e4];exact⟨λhz=>⟨by omega,⟨by omega,by omega,rI hz i2⟩,by omega⟩,λhz=>(RR i0 hi hz i2).symm⟩
 ·simp[hi]
  rw[IZ λj a b=>i2 j a (by omega)]
def ao.Et (n:ao) (l x:Int):Int:=if x<n.calls then l+1 else if n.calls+n.aj<=x then l-1 else l
def ao.pe (n:ao) (p:Int×Int×Int) (x:Int):Int×Int×Int:=(n.Et p.1 x,max p.2.1 (n.Et p.1 x),min p.2.2 (n.Et p.1 x))
def ao.l7 (n:ao) (w:List Int):Int×Int×Int:=w.foldl n.pe (0,0,0)
def ao.mj (n:ao) (w:List Int) (i:Int):Int×Int×Int:=(w.take i.toNat).foldl n.pe (0,0,0)
theorem wP{n:ao}{w:List Int}{i:Int}(h0:0<=i) (h1:i<w.length):n.mj w (i+1)=n.pe (n.mj w i) (ix w i):=RT h0 h1
theorem RZ{n:ao}{w:List Int}:n.mj w 0=(0,0,0):=rfl
theorem R0{n:ao}{w:List Int}{i:Int}(h:(w.length:Int)<=i):n.mj w i=n.l7 w:=RU h
theorem akw{n:ao}{w:List Int}(i:Nat) (h:i<=w.length) : -i<=(n.mj w i).1/\(n.mj w i).1<=i/\0<=(n.mj w i).2.1/\(n.mj w i).2.1<=i/\(n.mj w i).2.2<=0/\-i<=(n.mj w i).2.2:=by
 induction i with
 |zero=>simp[RZ]
 |succ i ih=>
  have e:=wP (n:=n) (w:=w) (i:=i) (by omega) (by omega)
  have:=ih (by omega)
  rw[show((i+1:Nat):Int)=(i:Int)+1 by omega,e]
  simp only[ao.pe,ao.Et];split<;>(try split)<;>omega
theorem akx{n:ao}{w:List Int}{i:Int}(h0:0<=i) (h1:i<=w.length) : -i<=(n.mj w i).1/\(n.mj w i).1<=i/\0<=(n.mj w i).2.1/\(n.mj w i).2.1<=i/\(n.mj w i).2.2<=0/\-i<=(n.mj w i).2.2:=by
 have:=akw (n:=n) (w:=w) i.toNat (by omega)
 rw[show((i.toNat:Nat):Int)=i by omega]at this
 exact this
theorem aky (n:ao) (w:List Int) (hi:kZ (n.calls+n.aj)=true) (hl:(w.length:Int)<=1000000):PC Ea [n.av,iL w]=some (.bQ [.int (n.l7 w).2.1,.bool (decide ((n.l7 w).2.2=0)&&decide ((n.l7 w).1=0))]):=by
 refine cW (ahR rfl ?_);rw[uC]at hi;simp;refine bC (λi:Int=>[(2,.int i),(7,.int (n.mj w i).1),(8,.int (n.mj w i).2.1),(9,.bool (decide ((n.mj w i).2.2=0)))]) (λ_=>[]) (λi=>0<=i/\i<=w.length) (λi=>(w.length-i).toNat) 0 rfl (by simp) λi ⟨i0,i1⟩=>?_
 have B:=akx (n:=n) i0 i1
 by_cases hi:i<w.length
 ·have e:=wP (n:=n) i0 hi
  simp[hi,i0,and_assoc];refine⟨λc1=>?_,λc1=>⟨by omega,by omega,λc2=>?_,λc2=>?_⟩⟩
  ·simp only[e,ao.pe,ao.Et,ab c1]
   (repeat' (first|apply And.intro|intro _))<;>first|trivial|omega
  ·simp only[e,ao.pe,ao.Et,aa (show ¬ix w i<n.calls by omega),ab c2]
   (repeat' (first|apply And.intro|intro _))<;>first|trivial|omega
  ·simp only[e,ao.pe,ao.Et,aa (show ¬ix w i<n.calls by omega),aa (show ¬n.calls+n.aj<=ix w i by omega)]
   (repeat' (first|apply And.intro|intro _))<;>first|trivial|omega
 ·have e:=R0 (n:=n) (w:=w) (i:=i) (by omega)
  rw[e]at B ⊢;simp[hi];omega
structure ao.Ok (n:ao):Prop where
 calls:0<=n.calls/\n.calls<=64
 aj:0<=n.aj/\n.aj<=64
 aq:0<=n.aq/\n.aq<=64
 syms:1<=n.calls+n.aj+n.aq/\n.calls+n.aj+n.aq<=64
 stack:1<=n.stack/\n.stack<=128
 gr:1<=(n.accept.length:Int)/\(n.accept.length:Int)<=128
 start:0<=n.start/\n.start<n.accept.length
 lens:(n.call.length:Int)=n.accept.length/\(n.push.length:Int)=n.accept.length/\(n.inner.length:Int)=n.accept.length/\(n.pop.length:Int)=n.accept.length
 row:∀s,0<=s->s<(n.accept.length:Int)->((ix n.call s).length:Int)=n.calls/\((ix n.push s).length:Int)=n.calls/\((ix n.inner s).length:Int)=n.aj/\((ix n.pop s).length:Int)=n.stack
 call:∀s c,0<=s->s<(n.accept.length:Int)->0<=c->c<n.calls->0<=ix (ix n.call s) c/\ix (ix n.call s) c<n.accept.length
 push:∀s c,0<=s->s<(n.accept.length:Int)->0<=c->c<n.calls->0<=ix (ix n.push s) c/\ix (ix n.push s) c<n.stack
 inner:∀s c,0<=s->s<(n.accept.length:Int)->0<=c->c<n.aj->0<=ix (ix n.inner s) c/\ix (ix n.inner s) c<n.accept.length
 I4:∀s g,0<=s->s<(n.accept.length:Int)->0<=g->g<n.stack->((ix (ix n.pop s) g).length:Int)=n.aq
 pop:∀s g r,0<=s->s<(n.accept.length:Int)->0<=g->g<n.stack->0<=r->r<n.aq->0<=ix (ix (ix n.pop s) g) r/\ix (ix (ix n.pop s) g) r<n.accept.length
theorem akz{n:ao}(h:n.gZ=0):(0<=n.calls/\n.calls<=64)/\(0<=n.aj/\n.aj<=64)/\(0<=n.aq/\n.aq<=64)/\(1<=n.calls+n.aj+n.aq/\n.calls+n.aj+n.aq<=64)/\(1<=n.stack/\n.stack<=128)/\(1<=(n.accept.length:Int)/\(n.accept.length:Int)<=128)/\(0<=n.start/\n.start<n.accept.length)/\(n.call.length:Int)=n.accept.length/\(n.push.length:Int)=n.accept.length/\(n.inner.length:Int)=n.accept.length/\(n.pop.length:Int)=n.accept.length:=by
 unfold ao.gZ at h;have hl:n.accept ≠ []->1<=(n.accept.length:Int):=λh=>by
  have:=mz.2 h;omega
 by_cases ha:n.accept=[]
 ·simp only[ab ha]at h
  (repeat' split at h)<;>omega
 ·have:=hl ha
  simp only[aa ha]at h
  (repeat' split at h)<;>omega
theorem akA{n:ao}{s:Int}(h:n.iJ s=0):(((ix n.call s).length:Int)=n.calls/\((ix n.push s).length:Int)=n.calls/\((ix n.inner s).length:Int)=n.aj/\((ix n.pop s).length:Int)=n.stack)/\bad (ix n.call s) n.accept.length=false/\bad (ix n.push s) n.stack=false/\bad (ix n.inner s) n.accept.length=false/\∀g,0<=g->g<n.stack->((ix (ix n.pop s) g).length:Int)=n.aq/\bad (ix (ix n.pop s) g) n.accept.length=false:=by
 unfold ao.iJ at h;split at h
 ·simp at h
 rename_i a;split at h
 ·simp at h
 rename_i b;simp only[not_or,Classical.not_not,Bool.not_eq_true]at a b;refine⟨a,b.1,b.2.1,b.2.2,λg g0 g1=>?_⟩;have:=Ep.1 h g g0 (by omega)
 simp only[ao.pd]at this;split at this
 ·simp at this
 rename_i c;split at this
 ·simp at this
 rename_i d;exact⟨by simpa using c,by simpa using d⟩
theorem tm{n:ao}(h:n.bO=0):n.Ok:=by
 have hs:n.gZ=0:=by
  unfold ao.bO at h;split at h
  ·rename_i a;exact absurd h a
  ·rename_i a;simpa using a
 have hr:∀s,0<=s->s<(n.accept.length:Int)->n.iJ s=0:=by
  unfold ao.bO at h;rw[aa (by simpa using hs)]at h
  exact Ep.1 h
 obtain⟨h1,h2,h3,h4,h5,h6,h7,h8⟩:=akz hs;have R:=λs s0 s1=>akA (hr s s0 s1);exact⟨h1,h2,h3,h4,h5,h6,h7,h8,λs s0 s1=>(R s s0 s1).1,λs c s0 s1 c0 c1=>tj.1 (R s s0 s1).2.1 c c0 (by have:=(R s s0 s1).1;omega),λs c s0 s1 c0 c1=>tj.1 (R s s0 s1).2.2.1 c c0 (by have:=(R s s0 s1).1;omega),λs c s0 s1 c0 c1=>tj.1 (R s s0 s1).2.2.2.1 c c0 (by have:=(R s s0 s1).1;omega),λs g s0 s1 g0 g1=>((R s s0 s1).2.2.2.2 g g0 g1).1,λs g r s0 s1 g0 g1 r0 r1=>tj.1 ((R s s0 s1).2.2.2.2 g g0 g1).2 r r0 (by have:=((R s s0 s1).2.2.2.2 g g0 g1).1;omega)⟩
def ao.word (n:ao) (w:List Int):Prop:=(w.length:Int)<=1024/\∀x∈w,0<=x/\x<n.calls+n.aj+n.aq
theorem akB{n:ao}{w:List Int}(h:kl w (n.calls+n.aj+n.aq)=0):n.word w:=by
 unfold kl at h
 (repeat' split at h)<;>try(simp at h;done)
 rename_i a b c;exact⟨by omega,λx hx=>Gc.1 (by simpa using c) x hx⟩
theorem akC (n:ao) (s c:Int) (s0:0<=s) (s1:s<n.call.length) (s2:s<n.push.length) (c0:0<=c) (c1:c<(ix n.call s).length) (c2:c<(ix n.push s).length):PC tc [n.av,.int s,.int c]=some (.bQ [.int (ix (ix n.call s) c),.int (ix (ix n.push s) c)]):=by
 refine cW (ahS rfl ?_);simp[s0,s1,s2,c0,c1,c2]
theorem akD (n:ao) (s c:Int) (s0:0<=s) (s1:s<n.inner.length) (c0:0<=c) (c1:c<(ix n.inner s).length):PC ta [n.av,.int s,.int c]=some (.int (ix (ix n.inner s) c)):=by
 refine cW (ahU rfl ?_);simp[s0,s1,c0,c1]
theorem akE (n:ao) (s g r:Int) (s0:0<=s) (s1:s<n.pop.length) (g0:0<=g) (g1:g<(ix n.pop s).length) (r0:0<=r) (r1:r<(ix (ix n.pop s) g).length):PC te [n.av,.int s,.int g,.int r]=some (.int (ix (ix (ix n.pop s) g) r)):=by
 refine cW (ahV rfl ?_);simp[s0,s1,g0,g1,r0,r1]
def hd (l:List Int):Int:=l.headD 0
theorem R1{x:Int}{l:List Int}:hd (x::l)=x:=rfl
def Eu:Option (List Int×Nat)->List ag
 |none=>[⟨some 1,[.ah],.live⟩]
 |some (xs,k)=>[⟨some 1,[.sl 1 xs.length 0 k],.live⟩,⟨none,xs.map .int,.live⟩]
def jr (x:Int):Option (List Int×Nat)->Option (List Int×Nat)
 |none=>some ([x],1)
 |some (xs,k)=>if xs.length=k then some (xs ++ [x],k+1)else some (xs.set k x,k+1)
def ph:Option (List Int×Nat)->Option (List Int×Nat)
 |none=>none
 |some (xs,k)=>some (xs,k-1)
def zA:Option (List Int×Nat)->List Int
 |none=>[]
 |some (xs,k)=>(xs.take k).reverse
def js (m:Nat):Option (List Int×Nat)->Prop
 |none=>True
 |some (xs,k)=>k<=xs.length/\k<=m
theorem akF{x:Int}{o:Option (List Int×Nat)}{m:Nat}(h:js m o):zA (jr x o)=x::zA o/\js (m+1) (jr x o):=by
 cases o with
 |none=>simp[jr,zA,js]
 |some p=>
  obtain⟨xs,k⟩:=p;simp only[js]at h;simp only[jr];split
  ·rename_i e;subst e;exact⟨by simp[zA,gl],by simp[js];exact h.2⟩
  ·rename_i e
   refine⟨?_,by simp[js];omega⟩
   simp only[zA];rw[nH,List.take_set_of_le (bw k),List.getElem?_set_self (by omega)]
   simp
theorem akG{o:Option (List Int×Nat)}{m:Nat}(h:js m o) (hp:zA o ≠ []):zA (ph o)=(zA o).tail/\js m (ph o)/\∃xs k,o=some (xs,k)/\0<k/\k<=xs.length/\ix xs ((k:Int)-1)=hd (zA o):=by
 cases o with
 |none=>exact absurd rfl hp
 |some p=>
  obtain⟨xs,k⟩:=p;simp only[js]at h;have hk:0<k:=by
   rcases Nat.eq_zero_or_pos k with rfl|hk
   ·simp[zA]at hp
   ·exact hk
  obtain⟨k,rfl⟩:∃j,k=j+1:=⟨k-1,by omega⟩
  have e:xs.take (k+1)=xs.take k ++ [xs[k]]:=by
   rw[nH,dc (by omega)];rfl
  refine⟨?_,by simp[ph,js];omega,xs,k+1,rfl,by omega,by omega,?_⟩
  ·show(xs.take k).reverse=((xs.take (k+1)).reverse).tail
   rw[e,List.reverse_append];rfl
  ·show _=hd ((xs.take (k+1)).reverse)
   rw[e,show((k+1:Nat):Int)-1=(k:Int)by omega,aS (by omega),List.reverse_append]
   rfl
theorem akH (x:Int) (o:Option (List Int×Nat)) (h:js 100000 o):L Iu [.ptr 0 1 0,.int x] (Eu o)=some (.bQ [],Eu (jr x o)):=by
 refine o5 (ahT rfl ?_);cases o with
 |none=>simp[Eu,jr]
 |some p=>
  obtain⟨xs,k⟩:=p;simp only[js]at h
  by_cases hk:xs.length=k
  ·simp[Eu,jr,hk];omega
  ·simp[Eu,jr,hk,show k<xs.length by omega];omega
theorem R2 (xs:List Int) (k:Nat) (h0:0<k) (h1:k<=xs.length) (h2:k<=100000):L wJ [.ptr 0 1 0] (Eu (some (xs,k)))=some (.int (ix xs ((k:Int)-1)),Eu (ph (some (xs,k)))):=by
 refine o5 (ahW rfl ?_);simp[Eu,ph]
 (repeat' apply And.intro)<;>omega
def ao.step (n:ao) (p:Int×List Int) (x:Int):Int×List Int:=
 if x<n.calls then(ix (ix n.call p.1) x,ix (ix n.push p.1) x::p.2)
 else if x<n.calls+n.aj then(ix (ix n.inner p.1) (x-n.calls),p.2)
 else(ix (ix (ix n.pop p.1) (hd p.2)) (x-n.calls-n.aj),p.2.tail)
def ao.run (n:ao) (s:Int) (w:List Int):Int×List Int:=w.foldl n.step (s,[])
def ao.dL (n:ao) (s:Int) (w:List Int) (i:Int):Int×List Int:=(w.take i.toNat).foldl n.step (s,[])
theorem R3{n:ao}{s:Int}{w:List Int}{i:Int}(h0:0<=i) (h1:i<w.length):n.dL s w (i+1)=n.step (n.dL s w i) (ix w i):=RT h0 h1
theorem akI{n:ao}{s:Int}{w:List Int}{i:Int}(h:(w.length:Int)<=i):n.dL s w i=n.run s w:=RU h
def ao.up (n:ao) (w:List Int):Prop:=∀i,0<=i->i<=(w.length:Int)->0<=(n.mj w i).1
theorem akJ{n:ao}{w:List Int}{i:Int}(h0:0<=i) (h1:i<=w.length):(n.l7 w).2.2<=(n.mj w i).2.2/\(n.mj w i).2.2<=(n.mj w i).1:=by
 have k1:∀j:Nat,j<=w.length->(n.mj w j).2.2<=(n.mj w j).1:=by
  intro j hj;cases j with
  |zero=>simp[RZ]
  |succ j=>
   have e:=wP (n:=n) (w:=w) (i:=j) (by omega) (by omega)
   rw[show((j+1:Nat):Int)=(j:Int)+1 by omega,e]
   simp only[ao.pe];omega
 have k2:∀d j:Nat,j+d=w.length->(n.l7 w).2.2<=(n.mj w j).2.2:=by
  intro d
  induction d with
  |zero=>
   intro j hj;rw[<-R0 (n:=n) (w:=w) (i:=j) (by omega)]
   exact Int.le_refl _
  |succ d ih=>
   intro j hj;have:=ih (j+1) (by omega)
   have e:=wP (n:=n) (w:=w) (i:=j) (by omega) (by omega)
   rw[show((j+1:Nat):Int)=(j:Int)+1 by omega,e]at this
   simp only[ao.pe]at this;omega
 have a:=k1 i.toNat (by omega)
 have b:=k2 (w.length-i.toNat) i.toNat (by omega)
 rw[show((i.toNat:Nat):Int)=i by omega]at a b
 exact⟨b,a⟩
theorem R4{n:ao}{w:List Int}(h:(n.l7 w).2.2=0):n.up w:=λi h0 h1=>by
 have:=akJ (n:=n) h0 h1;omega
theorem akK{n:ao}(hn:n.Ok){w:List Int}(hw:n.word w) (hu:n.up w){s:Int}(hs:0<=s/\s<n.accept.length){i:Int}(h0:0<=i) (h1:i<=w.length) :
  (0<=(n.dL s w i).1/\(n.dL s w i).1<n.accept.length)/\((n.dL s w i).2.length:Int)=(n.mj w i).1/\∀g∈(n.dL s w i).2,0<=g/\g<n.stack:=by
 have key:∀j:Nat,j<=w.length->(0<=(n.dL s w j).1/\(n.dL s w j).1<n.accept.length)/\((n.dL s w j).2.length:Int)=(n.mj w j).1/\∀g∈(n.dL s w j).2,0<=g/\g<n.stack:=by
  intro j
  induction j with
  |zero=>intro _;exact⟨hs,rfl,by simp[ao.dL]⟩
  |succ j ih=>
   intro hj;obtain⟨a,b,c⟩:=ih (by omega)
   have e:=R3 (n:=n) (s:=s) (w:=w) (i:=j) (by omega) (by omega)
   have e2:=wP (n:=n) (w:=w) (i:=j) (by omega) (by omega)
   have hx:=hw.2 _ (aZ (l:=w) (n:=j) (by omega) (by omega))
   have dg:=hu (j+1) (by omega) (by omega)
   rw[show((j+1:Nat):Int)=(j:Int)+1 by omega,e,e2]
   rw[e2]at dg;simp only[ao.pe,ao.Et]at dg ⊢;unfold ao.step
   by_cases c1:ix w j<n.calls
   ·rw[ab c1]at dg ⊢
    rw[ab c1];have q1:=hn.call _ _ a.1 a.2 hx.1 c1;have q2:=hn.push _ _ a.1 a.2 hx.1 c1;refine⟨q1,by simp;omega,λg hg=>?_⟩
    rcases cB.1 hg with rfl|hg
    ·exact q2
    ·exact c g hg
   rw[aa c1]at dg ⊢;rw[aa c1]
   by_cases c2:ix w j<n.calls+n.aj
   ·rw[ab c2]
    rw[aa (show ¬n.calls+n.aj<=ix w j by omega)]
    exact⟨hn.inner _ _ a.1 a.2 (by omega) (by omega),b,c⟩
   ·rw[aa c2]
    rw[ab (show n.calls+n.aj<=ix w j by omega)]at dg ⊢
    have bY:(n.dL s w j).2 ≠ []:=λh=>by rw[h]at b;simp at b;omega
    obtain⟨g,l,Wt⟩:=List.exists_cons_of_ne_nil bY;have qg:=c g (by rw[Wt];simp)
    rw[Wt]at b c ⊢;simp only[R1,List.tail_cons];refine⟨hn.pop _ _ _ a.1 a.2 qg.1 qg.2 (by omega) (by omega),?_,λg' xy =>c g' (by simp[xy])⟩
    simp at b;omega
 have:=key i.toNat (by omega)
 rw[show((i.toNat:Nat):Int)=i by omega]at this
 exact this
def ao.K9 (n:ao) (w:List Int):Bool:=decide ((n.l7 w).2.2=0)&&decide ((n.l7 w).1=0)
def ao.syms (n:ao):Int:=n.calls+n.aj+n.aq
theorem Ok.sum{n:ao}(h:n.Ok):kZ (n.calls+n.aj)=true/\kZ (n.calls+n.aj+n.aq)=true:=by
 have:=h.calls;have:=h.aj;have:=h.aq;rw[uC,uC];omega
def ao.acc (n:ao) (w:List Int):Bool×Int:=
 if n.bO ≠ 0 then(false,n.bO)
 else if kl w n.syms ≠ 0 then(false,kl w n.syms)
 else if 64<(n.l7 w).2.1 then(false,16)
 else if n.K9 w=false then(false,0)
 else(ix n.accept (n.run n.start w).1,0)
theorem R5{n:ao}{w:List Int}(h:n.K9 w=true):(n.l7 w).2.2=0/\(n.l7 w).1=0:=by simpa[ao.K9]using h
theorem akL (n:ao) (hf:n.fits) (w:List Int) (hl:(w.length:Int)<=9223372036854775807):PC Ig [n.av,iL w]=some (.bQ [.bool (n.acc w).1,.int (n.acc w).2]):=by
 refine cW (ahz rfl ?_);have e1:=I3 n hf
 by_cases hv:n.bO=0
 case neg=>simp[e1,hv,ao.acc]
 have ok:=tm hv;have e2:=RV n (Ok.sum ok).1 (Ok.sum ok).2;have e3:PC D9 [iL w,.int (n.calls+n.aj+n.aq)]=some (.int (kl w n.syms)):=aku w _ hl
 by_cases hw:kl w n.syms=0
 case neg=>simp[e1,hv,e2,e3,hw,ao.acc]
 have F9:=akB hw;have e4:PC Ea [n.av,iL w]=some (.bQ [.int (n.l7 w).2.1,.bool (n.K9 w)]):=aky n w (Ok.sum ok).1 (by have:=F9.1;omega)
 by_cases hm:64<(n.l7 w).2.1
 ·simp[e1,hv,e2,e3,hw,e4,hm,ao.acc]
 by_cases hb:n.K9 w=true
 case neg=>simp[e1,hv,e2,e3,hw,e4,hm,hb,ao.acc]
 have hu:=R4 (R5 hb).1;have hs:=ok.start;rw[show n.acc w=(ix n.accept (n.run n.start w).1,0)by simp[ao.acc,hv,hw,hm,hb]]
 simp[e1,hv,e2,e3,hw,e4,hm,hb];refine bC (λp:Int×Option (List Int×Nat)=>[(7,.int p.1),(12,.int (n.dL n.start w p.1).1)]) (λp=>Eu p.2) (λp=>(0<=p.1/\p.1<=w.length)/\js p.1.toNat p.2/\zA p.2=(n.dL n.start w p.1).2) (λp=>(w.length-p.1).toNat) (0,none) (by rfl) ⟨⟨by simp,by simp⟩,by simp[js],rfl⟩ ?_
 rintro⟨i,o⟩ ⟨⟨i0,i1⟩,h1,h2⟩;dsimp only at i0 i1 h1 h2 ⊢;obtain⟨⟨a0,a1⟩,b,c⟩:=akK ok F9 hu hs i0 i1
 by_cases hi:i<w.length
 ·have e:=R3 (n:=n) (s:=n.start) i0 hi
  have hx:=F9.2 _ (aZ i0 hi);have ln:=ok.lens;have rw' :=ok.row _ a0 a1;have hc:=ok.calls;have fc:=ok.aj;have I5:=ok.aq;have I6:=F9.1;have Gd:js 100000 o:=by
   cases o with
   |none=>trivial
   |some p=>obtain⟨xs,k⟩:=p;simp only[js]at h1 ⊢;omega
  by_cases c1:ix w i<n.calls
  ·have p1:=akF (x:=ix (ix n.push (n.dL n.start w i).1) (ix w i)) h1
   have e' : n.dL n.start w (i+1)=(ix (ix n.call (n.dL n.start w i).1) (ix w i),ix (ix n.push (n.dL n.start w i).1) (ix w i)::(n.dL n.start w i).2):=by rw[e,ao.step,ab c1]
   have q1:=akC n (n.dL n.start w i).1 (ix w i) a0 (by omega) (by omega) hx.1 (by omega) (by omega)
   have q2:=akH (ix (ix n.push (n.dL n.start w i).1) (ix w i)) o Gd;simp[hi,i0,c1,q1,q2,-al]
   (repeat' apply And.intro)<;>try omega
   refine ba (i+1,jr (ix (ix n.push (n.dL n.start w i).1) (ix w i)) o) (by simp[e']) (by simp) ⟨⟨by dsimp only;omega,by dsimp only;omega⟩,?_,?_⟩ (by dsimp only;omega)
   ·show js (i+1).toNat _
    rw[show(i+1).toNat=i.toNat+1 by omega];exact p1.2
   ·show _=(n.dL n.start w (i+1)).2
    rw[e', <-h2];exact p1.1
  by_cases c2:ix w i<n.calls+n.aj
  ·have e' : n.dL n.start w (i+1)=(ix (ix n.inner (n.dL n.start w i).1) (ix w i-n.calls),(n.dL n.start w i).2):=by rw[e,ao.step,aa c1,ab c2]
   have q1:=akD n (n.dL n.start w i).1 (ix w i-n.calls) a0 (by omega) (by omega) (by omega)
   simp[hi,i0,c1,c2,q1,-al]
   (repeat' apply And.intro)<;>try omega
   refine ba (i+1,o) (by simp[e']) (by simp) ⟨⟨by dsimp only;omega,by dsimp only;omega⟩,?_,?_⟩ (by dsimp only;omega)
   ·cases o with
    |none=>trivial
    |some p=>obtain⟨xs,k⟩:=p;simp only[js]at h1 ⊢;omega
   ·show _=(n.dL n.start w (i+1)).2
    rw[e'];exact h2
  ·have e' : n.dL n.start w (i+1)=(ix (ix (ix n.pop (n.dL n.start w i).1) (hd (n.dL n.start w i).2)) (ix w i-n.calls-n.aj),(n.dL n.start w i).2.tail):=by rw[e,ao.step,aa c1,aa c2]
   have dg:=hu (i+1) (by omega) (by omega)
   rw[wP i0 hi]at dg;simp only[ao.pe,ao.Et,aa c1,ab (show n.calls+n.aj<=ix w i by omega)]at dg
   have bY:(n.dL n.start w i).2 ≠ []:=λh=>by rw[h]at b;simp at b;omega
   obtain⟨p1,p2,xs,k,rfl,p3,p4,p5⟩:=akG h1 (by rw[h2];exact bY)
   rw[h2]at p1 p5;have hg:hd (n.dL n.start w i).2∈(n.dL n.start w i).2:=by
    obtain⟨g,l,Wt⟩:=List.exists_cons_of_ne_nil bY;rw[Wt,R1];simp
   have qg:=c _ hg;have d3:=ok.I4 _ _ a0 a1 qg.1 qg.2;have q1:=akE n (n.dL n.start w i).1 (hd (n.dL n.start w i).2) (ix w i-n.calls-n.aj) a0 (by omega) qg.1 (by omega) (by omega) (by omega)
   have q2:=R2 xs k p3 p4 Gd.2;rw[p5]at q2;simp[hi,i0,c1,c2,q1,q2,-al]
   (repeat' apply And.intro)<;>try omega
   refine ba (i+1,ph (some (xs,k))) (by simp[e']) (by simp) ⟨⟨by dsimp only;omega,by dsimp only;omega⟩,?_,?_⟩ (by dsimp only;omega)
   ·simp only[ph,js]at p2 ⊢;omega
   ·show _=(n.dL n.start w (i+1)).2
    rw[e'];exact p1
 ·rw[akI (n:=n) (s:=n.start) (w:=w) (i:=i) (by omega)]at a0 a1 ⊢
  simp[hi,a0,a1]
structure fj where
 size:Nat
 call:Int->Int->Int×Int
 inner:Int->Int->Int
 pop:Int->Int->Int->Int
 calls:Int
 aj:Int
 aq:Int
structure fj.Ok (M:fj):Prop where
 size:(M.size:Int)<=100000
 calls:0<=M.calls/\M.calls<=100000
 aj:0<=M.aj/\M.aj<=100000
 aq:0<=M.aq/\M.aq<=100000
 call:∀s c,0<=s->s<(M.size:Int)->0<=c->c<M.calls->0<=(M.call s c).1/\(M.call s c).1<(M.size:Int)
 inner:∀s i,0<=s->s<(M.size:Int)->0<=i->i<M.aj->0<=M.inner s i/\M.inner s i<(M.size:Int)
 pop:∀s c t r,0<=s->s<(M.size:Int)->0<=c->c<M.calls->0<=t->t<(M.size:Int)->0<=r->r<M.aq->0<=M.pop t (M.call s c).2 r/\M.pop t (M.call s c).2 r<(M.size:Int)
inductive kJ (M:fj):Int->Int->Prop
 |refl (s:Int):kJ M s s
 |aQ (s i t:Int):0<=i->i<M.aj->kJ M (M.inner s i) t->kJ M s t
 |call (s c p r t:Int):0<=c->c<M.calls->0<=r->r<M.aq->kJ M (M.call s c).1 p->kJ M (M.pop p (M.call s c).2 r) t->kJ M s t
theorem kJ.trans{M:fj}{a b c:Int}(h:kJ M a b) (k:kJ M b c):kJ M a c:=by
 induction h with
 |refl s=>exact k
 |aQ s i t h0 h1 _ ih=>exact .aQ s i c h0 h1 (ih k)
 |call s x p r t h0 h1 h2 h3 h4 _ _ ih=>exact .call s x p r c h0 h1 h2 h3 h4 (ih k)
theorem kJ.range{M:fj}(hM:M.Ok){a b:Int}(h:kJ M a b) (ha:0<=a/\a<(M.size:Int)):0<=b/\b<(M.size:Int):=by
 induction h with
 |refl s=>exact ha
 |aQ s i t h0 h1 _ ih=>exact ih (hM.inner s i ha.1 ha.2 h0 h1)
 |call s x p r t h0 h1 h2 h3 h4 _ lV mI=>
  have hp:=lV (hM.call s x ha.1 ha.2 h0 h1);exact mI (hM.pop s x p r ha.1 ha.2 h0 h1 hp.1 hp.2 h2 h3)
inductive nU (S:Int->Int->Prop):Int->Int->Prop
 |refl (s:Int):nU S s s
 |tail (s t u:Int):nU S s t->S t u->nU S s u
theorem nU.trans{S:Int->Int->Prop}{a b c:Int}(h:nU S a b) (k:nU S b c):nU S a c:=by
 induction k with
 |refl=>exact h
 |tail t u _ h2 ih=>exact .tail a t u ih h2
theorem nU.head{S:Int->Int->Prop}{a b c:Int}(h:S a b) (k:nU S b c):nU S a c:=(nU.tail a a b (.refl a) h).trans k
def rel (m:List (List Bool)) (s t:Int):Prop:=0<=s/\s<m.length/\0<=t/\t<m.length/\ix (ix m s) t=true
theorem R6{l:List Bool}{i:Nat}{x:Bool}{j:Int}(hj:0<=j) (hi:i<l.length):ix (l.set i x) j=if j=i then x else ix l j:=by
 unfold ix;rw[gG,gG,List.getElem?_set]
 by_cases h:i=j.toNat
 ·rw[ab h,ab hi,ab (by omega)];rfl
 ·rw[aa h,aa (by omega)]
theorem R7{l:List Bool}{i:Nat}(h:i<l.length) (hv:ix l i=false):(l.set i true).count false+1=l.count false:=by
 rw[aS h]at hv;rw[List.count_set h];simp[hv];have:0<l.count false:=List.count_pos_iff.2 (by rw[<-hv];exact List.getElem_mem h)
 omega
structure Spr (m:List (List Bool)) (a:Int) (seen:List Bool) (l:List Int):Prop where
 len:seen.length=m.length
 mem:∀t,0<=t->t<(m.length:Int)->(ix seen t=true↔t∈l)
 fu:∀t∈l,0<=t/\t<(m.length:Int)
 star:∀t∈l,nU (rel m) a t
 start:a∈l
 cnt:l.length+seen.count false=m.length
theorem Spr.more{m:List (List Bool)}{a s t:Int}{seen:List Bool}{l:List Int}(h:Spr m a seen l) (hs:s∈l) (bR:rel m s t) (hn:ix seen t=false):Spr m a (seen.set t.toNat true) (l ++ [t]):=by
 have yR :=bR;obtain⟨_,_,t0,t1,_⟩:=bR;have hr:t.toNat<seen.length:=by rw[h.len];omega
 refine⟨by rw[nJ];exact h.len,λu u0 u1=>?_,λu hu=>?_,λu hu=>?_,by simp[h.start],?_⟩
 ·rw[R6 u0 hr]
  by_cases Ev:u=t.toNat
  ·rw[ab Ev];simp;right;omega
  ·rw[aa Ev,h.mem u u0 u1];simp;intro;omega
 ·rcases eI.1 hu with hu|hu
  ·exact h.fu u hu
  ·simp at hu;subst hu;exact⟨t0,t1⟩
 ·rcases eI.1 hu with hu|hu
  ·exact h.star u hu
  ·simp at hu;subst hu;exact .tail a s u (h.star s hs) yR
 ·have:=R7 hr (by rw[show((t.toNat:Nat):Int)=t by omega];exact hn)
  have:=h.cnt;simp;omega
abbrev akM (r:List Bool):ag:=⟨none,r.map .bool,.live⟩
abbrev refs (k N:Nat):List AV:=(List.range k).map λi=>AV.sl (2+i) N 0 N
def K9 (box:ag) (N:Nat) (m:List (List Bool)) (rest:List ag):List ag:=box::⟨none,refs m.length N++List.replicate (N-m.length) .ah,.live⟩::(m.map akM++rest)
theorem I7:∀(σ:List ag) (i:Nat),ak σ i=σ[i]?
 | [],i=>by simp[ak]
 |x::r,0=>rfl
 |x::r,i+1=>by simp[ak,I7 r i]
theorem R8:∀(σ:List ag) (i:Nat) (B:ag),ay σ i B=σ.set i B
 | [],i,B=>by simp[ay]
 |x::r,0,B=>rfl
 |x::r,i+1,B=>by simp[ay,R8 r i B]
structure MOk (t:Nat) (v:AV) (M:fj):Prop where
 loc:aN v=true
 wk:Ab.wk v=v
 size:∃f,eK [(jJ,jK),(jq,o8)] t=some f/\PC f [v]=some (.int M.size)
 call:∃f,eK [(jJ,tc),(jq,Cg)] t=some f/\∀s c,0<=s->s<(M.size:Int)->0<=c->c<M.calls->PC f [v,.int s,.int c]=some (.bQ [.int (M.call s c).1,.int (M.call s c).2])
 inner:∃f,eK [(jJ,ta),(jq,Ce)] t=some f/\∀s i,0<=s->s<(M.size:Int)->0<=i->i<M.aj->PC f [v,.int s,.int i]=some (.int (M.inner s i))
 pop:∃f,eK [(jJ,te),(jq,Cj),(Ii,wJ)] t=some f/\∀s c u r,0<=s->s<(M.size:Int)->0<=c->c<M.calls->0<=u->u<(M.size:Int)->0<=r->r<M.aq->PC f [v,.int u,.int (M.call s c).2,.int r]=some (.int (M.pop u (M.call s c).2 r))
def ao.eV (n:ao):fj:=⟨n.accept.length,λs c=>(ix (ix n.call s) c,ix (ix n.push s) c),λs i=>ix (ix n.inner s) i,λs g r=>ix (ix (ix n.pop s) g) r,n.calls,n.aj,n.aq⟩
theorem R9{n:ao}(h:n.Ok):n.eV.Ok:=by
 have:=h.gr;have:=h.calls;have:=h.aj;have:=h.aq;refine⟨?_,?_,?_,?_,λs c s0 s1 c0 c1=>h.call s c s0 s1 c0 c1,λs i s0 s1 c0 c1=>h.inner s i s0 s1 c0 c1,λs c t r s0 s1 c0 c1 t0 t1 r0 r1=>?_⟩<;>simp only[ao.eV]at *<;>try omega
 have q:=h.push s c s0 s1 c0 c1;exact h.pop t _ r t0 t1 q.1 q.2 r0 r1
def Sq (N:Nat) (m:List (List Bool)):Prop:=m.length=N/\∀r∈m,r.length=N
theorem Sq.row{N:Nat}{m:List (List Bool)}(h:Sq N m){s:Int}(h0:0<=s) (h1:s<N):(ix m s).length=N:=h.2 _ (aZ h0 (by rw[h.1];exact h1))
def tn (m:List (List Bool)) (s u:Int):List (List Bool):=m.set s.toNat ((ix m s).set u.toNat true)
theorem akN{α:Type} [Inhabited α]{l:List α}{i:Nat}{x:α}{j:Int}(hj:0<=j) (hi:i<l.length):ix (l.set i x) j=if j=i then x else ix l j:=by
 unfold ix;rw[gG,gG,List.getElem?_set]
 by_cases h:i=j.toNat
 ·rw[ab h,ab hi,ab (by omega)];rfl
 ·rw[aa h,aa (by omega)]
theorem Sa{N:Nat}{m:List (List Bool)}(h:Sq N m){s u:Int}(s0:0<=s) (s1:s<N):Sq N (tn m s u):=by
 refine⟨by rw[tn,nJ,h.1],λr hr=>?_⟩
 rcases List.mem_or_eq_of_mem_set hr with hr|rfl
 ·exact h.2 r hr
 ·rw[nJ,h.row s0 s1]
theorem I8{N:Nat}{m:List (List Bool)}(h:Sq N m){s u a b:Int}(s0:0<=s) (s1:s<N) (u0:0<=u) (u1:u<N) (a0:0<=a) (b0:0<=b):ix (ix (tn m s u) a) b=if a=s/\b=u then true else ix (ix m a) b:=by
 unfold tn;rw[akN a0 (by rw[h.1];omega)]
 by_cases e:a=s
 ·subst e
  rw[ab (by omega),R6 b0 (by rw[h.row a0 s1];omega)]
  by_cases e2:b=u
  ·rw[ab (by omega),ab ⟨rfl,e2⟩]
  ·rw[aa (by omega),aa (by simp[e2])]
 ·rw[aa (by omega),aa (by simp[e])]
theorem akO{N:Nat}{m:List (List Bool)}(h:Sq N m){s u a b:Int}(s0:0<=s) (s1:s<N) (u0:0<=u) (u1:u<N):rel (tn m s u) a b↔rel m a b\/(a=s/\b=u):=by
 have h' :=Sa (u:=u) h s0 s1;unfold rel;rw[h.1,h'.1];constructor
 ·rintro⟨a0,a1,b0,b1,hx⟩
  rw[I8 h s0 s1 u0 u1 a0 b0]at hx
  by_cases e:a=s/\b=u
  ·exact .inr e
  ·rw[aa e]at hx;exact .inl ⟨a0,a1,b0,b1,hx⟩
 ·rintro(⟨a0,a1,b0,b1,hx⟩|⟨rfl,rfl⟩)
  ·refine⟨a0,a1,b0,b1,?_⟩
   rw[I8 h s0 s1 u0 u1 a0 b0,hx];simp
  ·refine⟨s0,s1,u0,u1,?_⟩
   rw[I8 h s0 s1 u0 u1 s0 u0];simp
def cf (m:List (List Bool)):Nat:=(m.map λr=>r.count false).sum
theorem Sb:∀{l:List Nat}{i:Nat}{x y:Nat},l[i]? = some y->x+1=y->(l.set i x).sum+1=l.sum
 | [],i,x,y,h,_=>by simp at h
 |a::l,0,x,y,h,e=>by simp at h;subst h;simp[List.set];omega
 |a::l,i+1,x,y,h,e=>by
  have:=Sb (l:=l) (i:=i) (x:=x) (y:=y) (by simpa using h) e
  simp only[List.set_cons_succ,List.sum_cons];omega
theorem Sc{N:Nat}{m:List (List Bool)}(h:Sq N m){s u:Int}(s0:0<=s) (s1:s<N) (u0:0<=u) (u1:u<N) (hv:ix (ix m s) u=false):cf (tn m s u)+1=cf m:=by
 unfold cf tn;rw[List.map_set];refine Sb (y:=(ix m s).count false) ?_ (R7 (by rw[h.row s0 s1];omega) (by rw[show((u.toNat:Nat):Int)=u by omega];exact hv))
 rw[ie,lZ s0 (by rw[h.1];exact s1)];rfl
theorem I9{N:Nat}{m:List (List Bool)}(h:Sq N m){s u:Int}(s0:0<=s) (s1:s<N) (u0:0<=u) (u1:u<N) (hv:ix (ix m s) u=true):tn m s u=m:=by
 have e:(ix m s).set u.toNat true=ix m s:=by
  apply mC (by simp)
  intro i h1 h2;rw[List.getElem_set];split
  ·rename_i hi
   subst hi;rw[<-aS h2,show((u.toNat:Nat):Int)=u by omega,hv]
  ·rfl
 unfold tn;rw[e];apply mC (by simp)
 intro i h1 h2;rw[List.getElem_set];split
 ·rename_i hi
  subst hi;rw[<-aS h2,show((s.toNat:Nat):Int)=s by omega]
 ·rfl
def Sd (M:fj) (R:List (List Bool)) (s u:Int):Prop:=∃c p r,(0<=c/\c<M.calls)/\(0<=r/\r<M.aq)/\rel R (M.call s c).1 p/\u=M.pop p (M.call s c).2 r
structure Ja (M:fj) (R:List (List Bool)) (m m' : List (List Bool)) (ch:Bool):Prop where
 sq:Sq M.size m'
 mono:∀s t,rel m s t->rel m' s t
 sound:∀s t,rel m' s t->rel m s t\/Sd M R s t
 no:ch=false->m' = m
 yes:ch=true->cf m' < cf m
 le:cf m' <=cf m
theorem Ja.more{M:fj}{R m m' : List (List Bool)}{ch:Bool}(h:Ja M R m m' ch){s u:Int}(s0:0<=s) (s1:s<(M.size:Int)) (u0:0<=u) (u1:u<(M.size:Int)) (hw:Sd M R s u) :
  Ja M R m (tn m' s u) (ch || !ix (ix m' s) u)/\rel (tn m' s u) s u/\∀a b,rel m' a b->rel (tn m' s u) a b:=by
 have Jb :=s1;have La :=u1;have hr:=λa b=>akO (a:=a) (b:=b) h.sq s0 Jb u0 La;refine⟨⟨Sa h.sq s0 Jb, λa b wG=>(hr a b).2 (.inl (h.mono a b wG)),λa b wG=>?_,λhc=>?_,λhc=>?_,?_⟩,(hr s u).2 (.inr ⟨rfl,rfl⟩),λa b wG=>(hr a b).2 (.inl wG)⟩
 ·rcases(hr a b).1 wG with wG|⟨rfl,rfl⟩
  ·exact h.sound a b wG
  ·exact .inr hw
 ·simp at hc
  rw[I9 h.sq s0 Jb u0 La hc.2];exact h.no hc.1
 ·by_cases hv:ix (ix m' s) u=true
  ·rw[I9 h.sq s0 Jb u0 La hv]
   simp[hv]at hc;exact h.yes hc
  ·have:=Sc h.sq s0 Jb u0 La (by simpa using hv)
   have:=h.le;omega
 ·by_cases hv:ix (ix m' s) u=true
  ·rw[I9 h.sq s0 Jb u0 La hv];exact h.le
  ·have:=Sc h.sq s0 Jb u0 La (by simpa using hv)
   have:=h.le;omega
theorem Jc{α:Type}{f g:α->AV}{v:AV->Option AV}:∀{xs:List α},(∀x∈xs,v (f x)=some (g x))->bV v (xs.map f)=some (xs.map g)
 | [],_=>rfl
 |x::xs,h=>by
  have e:=Jc (f:=f) (g:=g) (v:=v) (xs:=xs) λy hy=>h y (by simp[hy])
  simp only[db,bV,h x (by simp),e]
structure Gw (M:fj) (m m' : List (List Bool)) (ch:Bool):Prop where
 sq:Sq M.size m'
 mono:∀s t,rel m s t->rel m' s t
 sound:∀s t,rel m' s t->kJ M s t
 no:ch=false->m' = m
 yes:ch=true->cf m' < cf m
inductive Wd (M:fj):Int->Int->List Int->Prop
 |nil (s:Int):Wd M s s []
 |aQ (s i t:Int) (w:List Int):0<=i->i<M.aj->Wd M (M.inner s i) t w->Wd M s t ((M.calls+i)::w)
 |call (s c p r t:Int) (u v:List Int):0<=c->c<M.calls->0<=r->r<M.aq->Wd M (M.call s c).1 p u->Wd M (M.pop p (M.call s c).2 r) t v->Wd M s t (c::(u++(M.calls+M.aj+r)::v))
theorem Wd.app{M:fj}{a b c:Int}{u v:List Int}(h:Wd M a b u) (k:Wd M b c v):Wd M a c (u++v):=by
 induction h with
 |nil s=>exact k
 |aQ s i t w h0 h1 _ ih=>exact .aQ s i c _ h0 h1 (ih k)
 |call s x p r t u v h0 h1 h2 h3 h4 _ _ ih=>
  have:=Wd.call s x p r c u _ h0 h1 h2 h3 h4 (ih k);simpa using this
theorem Wd.conn{M:fj}{a b:Int}{u:List Int}(h:Wd M a b u):kJ M a b:=by
 induction h with
 |nil s=>exact .refl s
 |aQ s i t w h0 h1 _ ih=>exact .aQ s i t h0 h1 ih
 |call s x p r t u v h0 h1 h2 h3 _ _ lV mI=>exact .call s x p r t h0 h1 h2 h3 lV mI
theorem kJ.wd{M:fj}{a b:Int}(h:kJ M a b):∃u,Wd M a b u:=by
 induction h with
 |refl s=>exact⟨[],.nil s⟩
 |aQ s i t h0 h1 _ ih=>obtain⟨u,hu⟩:=ih;exact⟨_,.aQ s i t u h0 h1 hu⟩
 |call s x p r t h0 h1 h2 h3 _ _ lV mI=>
  obtain⟨u,hu⟩:=lV;obtain⟨v,hv⟩:=mI;exact⟨_,.call s x p r t u v h0 h1 h2 h3 hu hv⟩
def fj.step (M:fj) (p:Int×List Int) (x:Int):Int×List Int:=
 if x<M.calls then((M.call p.1 x).1,(M.call p.1 x).2::p.2)
 else if x<M.calls+M.aj then(M.inner p.1 (x-M.calls),p.2)
 else(M.pop p.1 (hd p.2) (x-M.calls-M.aj),p.2.tail)
def mt (a b:Int):Nat->List Int->Bool
 |d,[]=>d==0
 |d,x::w=>if x<a then mt a b (d+1) w else if x<a+b then mt a b d w else match d with
  |0=>false
  |d+1=>mt a b d w
inductive Fr (M:fj) (s:Int):List Int->List Int->Int->Prop
 |base (w:List Int) (q:Int):Wd M s q w->Fr M s w [] q
 |open_ (w:List Int) (st:List Int) (p c q:Int) (v:List Int):Fr M s w st p->0<=c->c<M.calls->Wd M (M.call p c).1 q v->Fr M s (w++c::v) ((M.call p c).2::st) q
theorem Fr.ext{M:fj}{s q q' : Int}{w st v:List Int}(h:Fr M s w st q) (k:Wd M q q' v):Fr M s (w++v) st q' :=by
 cases h with
 |base _ _ h=>exact .base _ _ (h.app k)
 |open_ w st p c _ u h c0 c1 hu=>
  have:=Fr.open_ w st p c q' _ h c0 c1 (hu.app k);simpa using this
theorem Fr.run{M:fj}{s:Int}{n:Int}(hn:n=M.calls+M.aj+M.aq):∀{u w st:List Int}{q:Int},Fr M s w st q->(∀x∈u,0<=x/\x<n)->mt M.calls M.aj st.length u=true->Wd M s (u.foldl M.step (q,st)).1 (w++u)/\(u.foldl M.step (q,st)).2=[]
 | [],w,st,q,h,_,hm=>by
  have bR:st=[]:=by simpa[mt]using hm
  subst bR;cases h with
  |base _ _ h=>exact⟨by simpa using h,rfl⟩
 |x::u,w,st,q,h,hx,hm=>by
  have x0:=hx x (by simp)
  have bJ : ∀y∈u,0<=y/\y<n:=λy hy=>hx y (by simp[hy])
  simp only[mt]at hm;simp only[oA,fj.step]
  by_cases c1:x<M.calls
  ·rw[ab c1]at hm ⊢
   have:=Fr.run hn (Fr.open_ w st q x _ [] h x0.1 c1 (.nil _)) bJ hm;simpa using this
  ·rw[aa c1]at hm ⊢
   by_cases c2:x<M.calls+M.aj
   ·rw[ab c2]at hm ⊢
    have k:=Wd.aQ (M:=M) q (x-M.calls) _ [] (by omega) (by omega) (.nil _)
    rw[show M.calls+(x-M.calls)=x by omega]at k
    have:=Fr.run hn (h.ext k) bJ hm;simpa using this
   ·rw[aa c2]at hm ⊢
    cases h with
    |base _ _ h=>simp at hm
    |open_ w st p c _ v h c0 c1 hv=>
     simp only[cw]at hm;have k:=Wd.call (M:=M) p c q (x-M.calls-M.aj) _ v [] c0 c1 (by omega) (by omega) hv (.nil _)
     rw[show M.calls+M.aj+(x-M.calls-M.aj)=x by omega]at k
     have:=Fr.run hn (h.ext k) bJ hm;simpa[hd]using this
theorem Wd.run{M:fj}(hM:0<=M.calls/\0<=M.aj/\0<=M.aq){s t:Int}{w:List Int}(h:Wd M s t w):(∀x∈w,0<=x/\x<M.calls+M.aj+M.aq)/\(∀d rest,mt M.calls M.aj d (w++rest)=mt M.calls M.aj d rest)/\∀st rest,(w++rest).foldl M.step (s,st)=rest.foldl M.step (t,st):=by
 induction h with
 |nil s=>exact⟨by simp,λ_ _=>rfl,λ_ _=>rfl⟩
 |aQ s i t w h0 h1 _ ih=>
  obtain⟨a,b,c⟩:=ih;refine⟨λx hx=>?_,λd rest=>?_,λst rest=>?_⟩
  ·rcases cB.1 hx with rfl|hx
   ·omega
   ·exact a x hx
  ·simp only[kX,mt]
   rw[aa (by omega),ab (by omega),b]
  ·simp only[kX,oA,fj.step]
   rw[aa (by omega),ab (by omega),show M.calls+i-M.calls=i by omega,c]
 |call s x p r t u v h0 h1 h2 h3 _ _ lV mI=>
  obtain⟨a,b,c⟩:=lV;obtain⟨a', b', c'⟩:=mI;refine⟨λy hy=>?_,λd rest=>?_,λst rest=>?_⟩
  ·simp only[cB,eI]at hy
   rcases hy with rfl|hy|rfl|hy
   ·omega
   ·exact a y hy
   ·omega
   ·exact a' y hy
  ·simp only[kX,iS,mt]
   rw[ab h1,b];simp only[mt];rw[aa (by omega),aa (by omega),b']
  ·simp only[kX,iS,oA,fj.step]
   rw[ab h1,c];simp only[oA,fj.step];rw[aa (by omega),aa (by omega),show M.calls+M.aj+r-M.calls-M.aj=r by omega]
   exact c' st rest
theorem Se{M:fj}(hM:0<=M.calls/\0<=M.aj/\0<=M.aq){s t:Int}{w:List Int}:Wd M s t w↔(∀x∈w,0<=x/\x<M.calls+M.aj+M.aq)/\mt M.calls M.aj 0 w=true/\(w.foldl M.step (s,[])).1=t:=by
 constructor
 ·intro h
  obtain⟨a,b,c⟩:=h.run hM;refine⟨a,?_,?_⟩
  ·have:=b 0 []
   simpa[mt]using this
  ·have:=c [] []
   simp at this;rw[this]
 ·rintro⟨a,b,rfl⟩
  have:=Fr.run (M:=M) rfl (u:=w) (.base [] s (.nil s)) a b;simpa using this.1
end Ab
