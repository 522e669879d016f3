/- The check of an automaton, by the program and by the document; and what it leans on. Condition: none. -/
import Derived.Test.YtdenhmniigikcaaGreatKey
set_option linter.all false
set_option maxRecDepth 100000
set_option maxHeartbeats 4000000
namespace Ab
structure ao where
 calls:Int
 ak:Int
 ah:Int
 stack:Int
 start:Int
 accept:List Bool
 call:List (List Int)
 push:List (List Int)
 inner:List (List Int)
 pop:List (List (List Int))
 deriving Inhabited
abbrev ao.av (n:ao):AV:=.agg [.int n.calls,.int n.ak,.int n.ah,.int n.stack,.int n.start,bL n.accept,b8 n.call,b8 n.push,b8 n.inner,fv n.pop]
structure ao.fits (n:ao):Prop where
 calls:kU n.calls=true
 ak:kU n.ak=true
 ah:kU n.ah=true
 stack:kU n.stack=true
 start:kU n.start=true
 accept:(n.accept.length:Int)<=9223372036854775807
 call:∀l∈n.call,(l.length:Int)<=9223372036854775807
 push:∀l∈n.push,(l.length:Int)<=9223372036854775807
 inner:∀l∈n.inner,(l.length:Int)<=9223372036854775807
 pop:∀l∈n.pop,(l.length:Int)<=9223372036854775807/\∀m∈l,(m.length:Int)<=9223372036854775807
def alC (x k:Int):PC CI [.int x,.a8 (.int k)]=some (.bool (ij k x)):=by
 refine bZ (ajX rfl ?_);simp[ij];omega
def zP (xs:List Int) (k:Int) (a:(xs.length:Int)<=9223372036854775807): PC tu [iL xs,.int k]=some (.bool (bad xs k)):=by
 refine bZ (ajp rfl ?_);simp[Sj xs CI [.a8 (.int k)] (ij k) a rfl rfl (λx _=>alC x k)]
 rfl
def Ss (n:ao) (a:kU (n.calls+n.ak)=true) (b:kU (n.calls+n.ak+n.ah)=true):PC zF [n.av]=some (.int (n.calls+n.ak+n.ah)):=by
 refine bZ (aji rfl ?_);simp;rw[qu]at a b;omega
def alD (n:ao) (a:kU (n.calls+n.ak)=true) (b:kU (n.calls+n.ak+n.ah)=true):PC CB [n.av]=some (.int (n.calls+n.ak+n.ah)):=by
 refine bZ (ajg rfl ?_);simp;rw[qu]at a b;omega
def ao.jI (n:ao) (l:List Int):Int:=if(l.length:Int) ≠ n.ah then 1 else if bad l n.accept.length=true then 2 else 0
def ao.eO (n:ao) (s:Int):Int:=
 if ¬((ix n.call s).length:Int)=n.calls\/¬((ix n.push s).length:Int)=n.calls\/¬((ix n.inner s).length:Int)=n.ak\/¬((ix n.pop s).length:Int)=n.stack then 1
 else if bad (ix n.call s) n.accept.length=true\/bad (ix n.push s) n.stack=true\/bad (ix n.inner s) n.accept.length=true then 2
 else fx (λg=>n.jI (ix (ix n.pop s) g)) (ix n.pop s).length
def Su (n:ao) (h:n.fits) (s:Int) (p:0<=s) (r:s<n.call.length) (u:s<n.push.length) (E:s<n.inner.length) (F:s<n.pop.length):PC Jx [n.av,.int s]=some (.int (n.eO s)):=by
 have G:=zP (ix n.call s) n.accept.length (h.call _ (aJ p r));have H:=zP (ix n.push s) n.stack (h.push _ (aJ p u));have I:=zP (ix n.inner s) n.accept.length (h.inner _ (aJ p E));have J:=h.pop _ (aJ p F);refine bZ (ajq rfl ?_);simp[p,r,u,E,F,G,H,I];have no:∀{a:Int},1=n.eO s->a=1->a=n.eO s:=λh e=>e.trans h;refine⟨λd=>⟨λl=>⟨λm=>⟨λo=>⟨λb1=>by simp[ao.eO,d,l,m,o,b1],λb1=>⟨λz=>by simp[ao.eO,d,l,m,o,z],λz=>⟨λA=>by simp[ao.eO,d,l,m,o,A],λA=>?_⟩⟩⟩,λo=>by simp[ao.eO,o]⟩,λm=>by simp[ao.eO,m]⟩,λl=>by simp[ao.eO,l]⟩,λd=>by simp[ao.eO,d]⟩
 have e:n.eO s=fx (λg=>n.jI (ix (ix n.pop s) g)) (ix n.pop s).length:=by simp[ao.eO,d,l,m,o,b1,z,A]
 rw[e];refine aK (λi:Int=>[(4,.int i)]) (λ_=>[]) (λi=>0<=i/\i<=(ix n.pop s).length/\∀j,0<=j->j<i->n.jI (ix (ix n.pop s) j)=0) (λi=>((ix n.pop s).length-i).toNat) 0 rfl ax λi ⟨B,i1,C⟩=>?_
 by_cases w:i<(ix n.pop s).length
 .have K:=zP (ix (ix n.pop s) i) n.accept.length (J.2 _ (aJ B w))
  simp[w,B,K];have q:∀{x:Int},n.jI (ix (ix n.pop s) i)=x->x ≠ 0->x=fx (λg=>n.jI (ix (ix n.pop s) g)) (ix n.pop s).length:=λr u=>by subst r;exact(CS (f:=λg=>n.jI (ix (ix n.pop s) g)) B w u C).symm
  refine⟨λy=>⟨λD=>q (by simp[ao.jI,y,D]) ab,λD=>⟨aa,⟨aa,aa,lN (by simp[ao.jI,y,D]) C⟩,aa⟩⟩,λy=>q (by simp[ao.jI,y]) ab⟩
 .simp[w]
  rw[zO λj a b=>C j a aa]
def ao.fH (n:ao):Int:=
 if n.calls<0\/65<=n.calls\/n.ak<0\/65<=n.ak\/n.ah<0\/65<=n.ah then 2
 else if n.calls+n.ak+n.ah<1 then 2
 else if 64<n.calls+n.ak+n.ah then 2
 else if n.stack<1 then 2
 else if 128<n.stack then 2
 else if n.accept=[]then 19
 else if 128<(n.accept.length:Int)then 11
 else if n.start<0 then 2
 else if(n.accept.length:Int)<=n.start then 2
 else if ¬(n.call.length:Int)=n.accept.length then 1
 else if ¬(n.push.length:Int)=n.accept.length then 1
 else if ¬(n.inner.length:Int)=n.accept.length then 1
 else if ¬(n.pop.length:Int)=n.accept.length then 1
 else 0
def ao.bC (n:ao):Int:=if n.fH ≠ 0 then n.fH else fx n.eO n.accept.length
variable{n:ao}{x:Int}
def JW(h:n.fH=x) (a:x ≠ 0):x=n.bC:=by
 subst h;simp[ao.bC,a]
def JX (n:ao) (h:n.fits):PC uV [n.av]=some (.int n.bC):=by
 refine bZ (aiU rfl ?_);have o:PC tu [.aF false [.int n.calls,.int n.ak,.int n.ah],.int 65]=_:=zP [n.calls,n.ak,n.ah] 65 ab
 by_cases d:bad [n.calls,n.ak,n.ah] 65=true
 .simp[o,d]
  simp[bad,ij]at d;exact JW (by simp[ao.fH,show n.calls<0\/65<=n.calls\/n.ak<0\/65<=n.ak\/n.ah<0\/65<=n.ah by omega]) ab
 have e :=d;simp[bad,ij]at e;have q:=Ss n (by rw[qu];omega) (by rw[qu];omega)
 have e0:¬(n.calls<0\/65<=n.calls\/n.ak<0\/65<=n.ak\/n.ah<0\/65<=n.ah):=aa
 simp[o,d,q]
 repeat' (first|apply And.intro|intro _)
 all_goals try(refine JW ?_ ab;unfold ao.fH;rw[ad e0];repeat (first|rw[ae jy]|rw[ad jy]|rw[ad aa]))
 rename_i u w x y z A B C b1 D E F;have r:n.fH=0:=by unfold ao.fH;rw[ad e0];repeat (first|rw[ae jy]|rw[ad jy]|rw[ad aa])
 rw[show n.bC=fx n.eO n.accept.length by simp[ao.bC,r]]
 refine aK (λi:Int=>[(3,.int i)]) (λ_=>[]) (λi=>0<=i/\i<=n.accept.length/\∀j,0<=j->j<i->n.eO j=0) (λi=>(n.accept.length-i).toNat) 0 rfl ax λi ⟨p,i1,g⟩=>?_
 by_cases l:i<n.accept.length
 .have s:=Su n h i p aa aa aa aa
  simp[l,s];exact⟨λm=>⟨aa,⟨aa,aa,lN m g⟩,aa⟩,λm=>(CS p l m g).symm⟩
 .simp[l]
  rw[zO λj a b=>g j a aa]
def JY (n:ao) (s:Int):PC zI [n.av,.int s]=some (.bool (!ij n.accept.length s)):=by
 refine bZ (ajT rfl ?_);rw[aly];simp;exact⟨λa=>fm,λa b=>aa⟩
def alE (n:ao):PC Ju [n.av]=some (.int n.fH):=by
 refine bZ (aje rfl ?_)
 by_cases e0:n.calls<0\/65<=n.calls\/n.ak<0\/65<=n.ak\/n.ah<0\/65<=n.ah
 .rw[show n.fH=2 by simp[ao.fH,e0]]
  simp;omega
 .have a:=alD n (by rw[qu];omega) (by rw[qu];omega)
  have b:¬n.calls<0:=aa
  have d:¬n.calls>64:=aa
  have e:¬n.ak<0:=aa
  have g:¬n.ak>64:=aa
  have h:¬n.ah<0:=aa
  have i:¬n.ah>64:=aa
  simp[b,d,e,g,h,i,a]
  repeat' (first|apply And.intro|intro _)
  all_goals (unfold ao.fH;rw[ad e0];repeat (first|rw[ae jy]|rw[ad jy]|rw[ad aa]))
def alF (n:ao) (h:n.fits) (s:Int) (l:0<=s) (y:s<n.call.length) (z:s<n.push.length) (F:s<n.inner.length) (C:s<n.pop.length):PC Jv [n.av,.int s]=some (.int (n.eO s)):=by
 refine bZ (ajf rfl ?_);have W:=h.call _ (aJ l y);have X:=h.push _ (aJ l z);have Y:=h.inner _ (aJ l F);have T:=h.pop _ (aJ l C);simp[l,y,z,F,C];refine⟨λp=>⟨λu=>⟨λw=>⟨λA=>?_,λA=>by simp[ao.eO,A]⟩,λw=>by simp[ao.eO,w]⟩,λu=>by simp[ao.eO,u]⟩,λp=>by simp[ao.eO,p]⟩
 refine aK (λi:Int=>[(3,.int i)]) (λ_=>[]) (λi=>0<=i/\i<=n.calls/\(∀j,0<=j->j<i->ij n.accept.length (ix (ix n.call s) j)=false)/\∀j,0<=j->j<i->ij n.stack (ix (ix n.push s) j)=false) (λi=>(n.calls-i).toNat) 0 rfl ⟨aa,aa,r5,r5⟩ λi ⟨D,i1,J,K⟩=>?_
 by_cases L:i<n.calls
 .have B:=JY n (ix (ix n.call s) i)
  simp[L,B,l,y,z,D,p,u];have q:bad (ix n.call s) n.accept.length=true\/bad (ix n.push s) n.stack=true\/bad (ix n.inner s) n.accept.length=true->2=n.eO s:=λG=>by simp[ao.eO,p,u,w,A,G]
  refine⟨λd=>q (.inl (tw D aa d)),λd=>⟨λm=>q (.inr (.inl (tw D aa (by simp[ij,m])))),λm=>⟨λH=>q (.inr (.inl (tw D aa (by simp[ij,H])))),λH=>⟨aa,⟨aa,aa,lN d J,lN (JV.2 ⟨m,H⟩) K⟩,aa⟩⟩⟩⟩
 simp[L];have b1:=vS (xs:=ix n.call s) λj a b=>J j a aa
 have U:=vS (xs:=ix n.push s) λj a b=>K j a aa
 refine aK (λi:Int=>[(4,.int i)]) (λ_=>[]) (λi=>0<=i/\i<=n.ak/\(∀j,0<=j->j<i->ij n.accept.length (ix (ix n.inner s) j)=false)) (λi=>(n.ak-i).toNat) 0 rfl ⟨aa,aa,r5⟩ λM ⟨N,Z,O⟩=>?_
 by_cases P:M < n.ak
 .have B:=JY n (ix (ix n.inner s) M)
  simp[P,B,l,F,N,w];have q:bad (ix n.inner s) n.accept.length=true->2=n.eO s:=λG=>by simp[ao.eO,p,u,w,A,G]
  exact⟨λd=>q (tw N aa d),λd=>⟨aa,⟨aa,aa,lN d O⟩,aa⟩⟩
 simp[P];have V:=vS (xs:=ix n.inner s) λj a b=>O j a aa
 have e:n.eO s=fx (λg=>n.jI (ix (ix n.pop s) g)) (ix n.pop s).length:=by simp[ao.eO,p,u,w,A,b1,U,V]
 rw[e];refine aK (λi:Int=>[(5,.int i)]) (λ_=>[]) (λi=>0<=i/\i<=(ix n.pop s).length/\∀j,0<=j->j<i->n.jI (ix (ix n.pop s) j)=0) (λi=>((ix n.pop s).length-i).toNat) 0 rfl ax λg ⟨E,g1,I⟩=>?_
 have q:g<(ix n.pop s).length->∀{x:Int},n.jI (ix (ix n.pop s) g)=x->x ≠ 0->x=fx (λg=>n.jI (ix (ix n.pop s) g)) (ix n.pop s).length:=λo x y z=>by subst y;exact(CS (f:=λg=>n.jI (ix (ix n.pop s) g)) E o z I).symm
 by_cases o:g<(ix n.pop s).length
 .simp[show g<n.stack by omega,o,l,C,E]
  refine⟨λd=>?_,λd=>q o (by simp[ao.jI,d]) ab⟩
  have k5:=T.2 _ (aJ E o);refine aK (λi:Int=>[(6,.int i)]) (λ_=>[]) (λi=>0<=i/\i<=n.ah/\(∀j,0<=j->j<i->ij n.accept.length (ix (ix (ix n.pop s) g) j)=false)) (λi=>(n.ah-i).toNat) 0 rfl ⟨aa,aa,r5⟩ λr ⟨Q,r1,R⟩=>?_
  by_cases S:r<n.ah
  .have B:=JY n (ix (ix (ix n.pop s) g) r)
   simp[S,B,l,C,E,o,Q,d];exact⟨λm=>q o (by simp[ao.jI,d,tw Q aa m]) ab,λm=>⟨aa,⟨aa,aa,lN m R⟩,aa⟩⟩
  .simp[S]
   exact⟨aa,⟨aa,aa,lN (by simp[ao.jI,d,vS (xs:=ix (ix n.pop s) g) λj a b=>R j a aa]) I⟩,aa⟩
 .simp[show ¬g<n.stack by omega]
  rw[zO λj a b=>I j a aa]
def Sv (n:ao) (h:n.fits):PC Jm [n.av]=some (.int n.bC):=by
 refine bZ (aiR rfl ?_);have o:=alE n;simp[o];refine⟨λd=>?_,λd=>JW rfl d⟩;rw[show n.bC=fx n.eO n.accept.length by simp[ao.bC,d]]
 have q:=h.accept;have r:(n.call.length:Int)=n.accept.length/\(n.push.length:Int)=n.accept.length/\(n.inner.length:Int)=n.accept.length/\(n.pop.length:Int)=n.accept.length:=by
  unfold ao.fH at d
  (repeat' split at d)<;>omega
 refine aK (λi:Int=>[(3,.int i)]) (λ_=>[]) (λi=>0<=i/\i<=n.accept.length/\∀j,0<=j->j<i->n.eO j=0) (λi=>(n.accept.length-i).toNat) 0 rfl ax λi ⟨m,i1,e⟩=>?_
 by_cases g:i<n.accept.length
 .have p:=alF n h i m aa aa aa aa
  simp[g,p];exact⟨λl=>⟨aa,⟨aa,aa,lN l e⟩,aa⟩,λl=>(CS m g l e).symm⟩
 .simp[g]
  rw[zO λj a b=>e j a aa]
def ao.AW (n:ao) (l x:Int):Int:=if x<n.calls then l+1 else if n.calls+n.ak<=x then l-1 else l
def ao.kE (n:ao) (p:Int×Int×Int) (x:Int):Int×Int×Int:=(n.AW p.1 x,max p.2.1 (n.AW p.1 x),min p.2.2 (n.AW p.1 x))
def ao.lO (n:ao) (w:List Int):Int×Int×Int:=w.foldl n.kE (0,0,0)
def ao.mH (n:ao) (w:List Int) (i:Int):Int×Int×Int:=(w.take i.toNat).foldl n.kE (0,0,0)
variable{w:List Int}{i:Int}
def xd(a:0<=i) (b:i<w.length):n.mH w (i+1)=n.kE (n.mH w i) (ix w i):=Sl a b
theorem Sx:n.mH w 0=(0,0,0):=rfl
def Sy(h:(w.length:Int)<=i):n.mH w i=n.lO w:=Sp h
def alG(i:Nat) (h:i<=w.length) : -i<=(n.mH w i).1/\(n.mH w i).1<=i/\0<=(n.mH w i).2.1/\(n.mH w i).2.1<=i/\(n.mH w i).2.2<=0/\-i<=(n.mH w i).2.2:=by
 induction i with
 |zero=>simp[Sx]
 |succ i a=>
  have e:=xd (n:=n) (w:=w) (i:=i) aa aa
  have:=a aa
  rw[show((i+1:Nat):Int)=(i:Int)+1 by omega,e]
  simp only[ao.kE,ao.AW];split<;>(try split)<;>omega
def alH(a:0<=i) (b:i<=w.length) : -i<=(n.mH w i).1/\(n.mH w i).1<=i/\0<=(n.mH w i).2.1/\(n.mH w i).2.1<=i/\(n.mH w i).2.2<=0/\-i<=(n.mH w i).2.2:=by
 have:=alG (n:=n) (w:=w) i.toNat aa
 rw[show((i.toNat:Nat):Int)=i by omega]at this
 exact this
def alI (n:ao) (w:List Int) (a:kU (n.calls+n.ak)=true) (h:(w.length:Int)<=1000000):PC CD [n.av,iL w]=some (.bM [.int (n.lO w).2.1,.bool (decide ((n.lO w).2.2=0)&&decide ((n.lO w).1=0))]):=by
 refine bZ (ajj rfl ?_);rw[qu]at a;simp;refine aK (λi:Int=>[(2,.int i),(7,.int (n.mH w i).1),(8,.int (n.mH w i).2.1),(9,.bool (decide ((n.mH w i).2.2=0)))]) (λ_=>[]) (λi=>0<=i/\i<=w.length) (λi=>(w.length-i).toNat) 0 rfl ab λi ⟨b,i1⟩=>?_
 have B:=alH (n:=n) b i1
 by_cases a:i<w.length
 .have e:=xd (n:=n) b a
  simp[a,b,and_assoc];refine⟨λd=>?_,λd=>⟨aa,aa,λg=>?_,λg=>?_⟩⟩
  .simp only[e,ao.kE,ao.AW,ae d]
   (repeat' (first|apply And.intro|intro _))<;>first|trivial|omega
  .simp only[e,ao.kE,ao.AW,ad (show ¬ix w i<n.calls by omega),ae g]
   (repeat' (first|apply And.intro|intro _))<;>first|trivial|omega
  .simp only[e,ao.kE,ao.AW,ad (show ¬ix w i<n.calls by omega),ad (show ¬n.calls+n.ak<=ix w i by omega)]
   (repeat' (first|apply And.intro|intro _))<;>first|trivial|omega
 .have e:=Sy (n:=n) (w:=w) (i:=i) aa
  rw[e]at B ⊢;simp[a];omega
structure ao.Ok (n:ao):Prop where
 calls:0<=n.calls/\n.calls<=64
 ak:0<=n.ak/\n.ak<=64
 ah:0<=n.ah/\n.ah<=64
 syms:1<=n.calls+n.ak+n.ah/\n.calls+n.ak+n.ah<=64
 stack:1<=n.stack/\n.stack<=128
 eU:1<=(n.accept.length:Int)/\(n.accept.length:Int)<=128
 start:0<=n.start/\n.start<n.accept.length
 lens:(n.call.length:Int)=n.accept.length/\(n.push.length:Int)=n.accept.length/\(n.inner.length:Int)=n.accept.length/\(n.pop.length:Int)=n.accept.length
 row:∀s,0<=s->s<(n.accept.length:Int)->((ix n.call s).length:Int)=n.calls/\((ix n.push s).length:Int)=n.calls/\((ix n.inner s).length:Int)=n.ak/\((ix n.pop s).length:Int)=n.stack
 call:∀s c,0<=s->s<(n.accept.length:Int)->0<=c->c<n.calls->0<=ix (ix n.call s) c/\ix (ix n.call s) c<n.accept.length
 push:∀s c,0<=s->s<(n.accept.length:Int)->0<=c->c<n.calls->0<=ix (ix n.push s) c/\ix (ix n.push s) c<n.stack
 inner:∀s c,0<=s->s<(n.accept.length:Int)->0<=c->c<n.ak->0<=ix (ix n.inner s) c/\ix (ix n.inner s) c<n.accept.length
 CW:∀s g,0<=s->s<(n.accept.length:Int)->0<=g->g<n.stack->((ix (ix n.pop s) g).length:Int)=n.ah
 pop:∀s g r,0<=s->s<(n.accept.length:Int)->0<=g->g<n.stack->0<=r->r<n.ah->0<=ix (ix (ix n.pop s) g) r/\ix (ix (ix n.pop s) g) r<n.accept.length
def alJ(h:n.fH=0):(0<=n.calls/\n.calls<=64)/\(0<=n.ak/\n.ak<=64)/\(0<=n.ah/\n.ah<=64)/\(1<=n.calls+n.ak+n.ah/\n.calls+n.ak+n.ah<=64)/\(1<=n.stack/\n.stack<=128)/\(1<=(n.accept.length:Int)/\(n.accept.length:Int)<=128)/\(0<=n.start/\n.start<n.accept.length)/\(n.call.length:Int)=n.accept.length/\(n.push.length:Int)=n.accept.length/\(n.inner.length:Int)=n.accept.length/\(n.pop.length:Int)=n.accept.length:=by
 unfold ao.fH at h;have b:n.accept ≠ []->1<=(n.accept.length:Int):=λh=>by
  have:=mR.2 h;omega
 by_cases a:n.accept=[]
 .simp only[ae a]at h
  (repeat' split at h)<;>omega
 .have:=b a
  simp only[ad a]at h
  (repeat' split at h)<;>omega
variable{s:Int}
def alK(h:n.eO s=0):(((ix n.call s).length:Int)=n.calls/\((ix n.push s).length:Int)=n.calls/\((ix n.inner s).length:Int)=n.ak/\((ix n.pop s).length:Int)=n.stack)/\bad (ix n.call s) n.accept.length=false/\bad (ix n.push s) n.stack=false/\bad (ix n.inner s) n.accept.length=false/\∀g,0<=g->g<n.stack->((ix (ix n.pop s) g).length:Int)=n.ah/\bad (ix (ix n.pop s) g) n.accept.length=false:=by
 unfold ao.eO at h;split at h
 .simp at h
 rename_i a;split at h
 .simp at h
 rename_i b;simp only[not_or,Classical.not_not,Bool.not_eq_true]at a b;refine⟨a,b.1,b.2.1,b.2.2,λg e i=>?_⟩;have:=CT.1 h g e aa
 simp only[ao.jI]at this;split at this
 .simp at this
 rename_i c;split at this
 .simp at this
 rename_i d;exact⟨by simpa using c,by simpa using d⟩
def tx(h:n.bC=0):n.Ok:=by
 have l:n.fH=0:=by
  unfold ao.bC at h;split at h
  .rename_i a;exact absurd h a
  .rename_i a;simpa using a
 have o:∀s,0<=s->s<(n.accept.length:Int)->n.eO s=0:=by
  unfold ao.bC at h;rw[ad (by simpa using l)]at h
  exact CT.1 h
 obtain⟨p,q,u,w,x,y,z,A⟩:=alJ l;have R:=λs b d=>alK (o s b d);exact⟨p,q,u,w,x,y,z,A,λs b d=>(R s b d).1,λs c b d e m=>qx.1 (R s b d).2.1 c e (by have:=(R s b d).1;omega),λs c b d e m=>qx.1 (R s b d).2.2.1 c e (by have:=(R s b d).1;omega),λs c b d e m=>qx.1 (R s b d).2.2.2.1 c e (by have:=(R s b d).1;omega),λs g b d i j=>((R s b d).2.2.2.2 g i j).1,λs g r b d i j B C=>qx.1 ((R s b d).2.2.2.2 g i j).2 r B (by have:=((R s b d).2.2.2.2 g i j).1;omega)⟩
def ao.word (n:ao) (w:List Int):Prop:=(w.length:Int)<=1024/\∀x∈w,0<=x/\x<n.calls+n.ak+n.ah
def alL(h:kD w (n.calls+n.ak+n.ah)=0):n.word w:=by
 unfold kD at h
 (repeat' split at h)<;>try(simp at h;done)
 rename_i a b c;exact⟨aa,λx d=>EM.1 (by simpa using c) x d⟩
def alM (n:ao) (s c:Int) (a:0<=s) (b:s<n.call.length) (d:s<n.push.length) (e:0<=c) (g:c<(ix n.call s).length) (h:c<(ix n.push s).length):PC tp [n.av,.int s,.int c]=some (.bM [.int (ix (ix n.call s) c),.int (ix (ix n.push s) c)]):=by
 refine bZ (ajk rfl ?_);simp[a,b,d,e,g,h]
def alN (n:ao) (s c:Int) (a:0<=s) (b:s<n.inner.length) (d:0<=c) (e:c<(ix n.inner s).length):PC tn [n.av,.int s,.int c]=some (.int (ix (ix n.inner s) c)):=by
 refine bZ (ajm rfl ?_);simp[a,b,d,e]
def alO (n:ao) (s g r:Int) (a:0<=s) (b:s<n.pop.length) (d:0<=g) (e:g<(ix n.pop s).length) (h:0<=r) (i:r<(ix (ix n.pop s) g).length):PC tq [n.av,.int s,.int g,.int r]=some (.int (ix (ix (ix n.pop s) g) r)):=by
 refine bZ (ajn rfl ?_);simp[a,b,d,e,h,i]
def hd (l:List Int):Int:=l.headD 0
variable{l:List Int}
theorem Sz:hd (x::l)=x:=rfl
def CX:Option (List Int×Nat)->List al
 |none=>[⟨some 1,[.ag],.live⟩]
 |some (xs,k)=>[⟨some 1,[.sl 1 xs.length 0 k],.live⟩,⟨none,xs.map .int,.live⟩]
def jJ (x:Int):Option (List Int×Nat)->Option (List Int×Nat)
 |none=>some ([x],1)
 |some (xs,k)=>if xs.length=k then some (xs ++ [x],k+1)else some (xs.set k x,k+1)
def pF:Option (List Int×Nat)->Option (List Int×Nat)
 |none=>none
 |some (xs,k)=>some (xs,k-1)
def zQ:Option (List Int×Nat)->List Int
 |none=>[]
 |some (xs,k)=>(xs.take k).reverse
def jK (m:Nat):Option (List Int×Nat)->Prop
 |none=>True
 |some (xs,k)=>k<=xs.length/\k<=m
variable{o:Option (List Int×Nat)}
def alP{m:Nat}(h:jK m o):zQ (jJ x o)=x::zQ o/\jK (m+1) (jJ x o):=by
 cases o with
 |none=>simp[jJ,zQ,jK]
 |some p=>
  obtain⟨xs,k⟩:=p;simp only[jK]at h;simp only[jJ];split
  .rename_i e;subst e;exact⟨by simp[zQ,eZ],by simp[jK];exact h.2⟩
  .rename_i e
   refine⟨?_,by simp[jK];omega⟩
   simp only[zQ];rw[nh,List.take_set_of_le (bd k),List.getElem?_set_self aa]
   simp
def alQ{m:Nat}(h:jK m o) (a:zQ o ≠ []):zQ (pF o)=(zQ o).tail/\jK m (pF o)/\∃xs k,o=some (xs,k)/\0<k/\k<=xs.length/\ix xs ((k:Int)-1)=hd (zQ o):=by
 cases o with
 |none=>exact absurd rfl a
 |some p=>
  obtain⟨xs,k⟩:=p;simp only[jK]at h;have b:0<k:=by
   rcases uk k with rfl|b
   .simp[zQ]at a
   .exact b
  obtain⟨k,rfl⟩:∃j,k=j+1:=⟨k-1,aa⟩
  have e:xs.take (k+1)=xs.take k ++ [xs[k]]:=by
   rw[nh,db aa];rfl
  refine⟨?_,by simp[pF,jK];omega,xs,k+1,rfl,aa,aa,?_⟩
  .show(xs.take k).reverse=((xs.take (k+1)).reverse).tail
   rw[e,List.reverse_append];rfl
  .show _=hd ((xs.take (k+1)).reverse)
   rw[e,show((k+1:Nat):Int)-1=(k:Int)by omega,aB aa,List.reverse_append]
   rfl
def alR (x:Int) (o:Option (List Int×Nat)) (h:jK 100000 o):L Jw [.ptr 0 1 0,.int x] (CX o)=some (.bM [],CX (jJ x o)):=by
 refine jP (ajl rfl ?_);cases o with
 |none=>simp[CX,jJ]
 |some p=>
  obtain⟨xs,k⟩:=p;simp only[jK]at h
  by_cases a:xs.length=k
  .simp[CX,jJ,a];omega
  .simp[CX,jJ,a,show k<xs.length by omega];omega
def SB (xs:List Int) (k:Nat) (a:0<k) (b:k<=xs.length) (d:k<=100000):L w8 [.ptr 0 1 0] (CX (some (xs,k)))=some (.int (ix xs ((k:Int)-1)),CX (pF (some (xs,k)))):=by
 refine jP (ajo rfl ?_);simp[CX,pF]
 (repeat' apply And.intro)<;>omega
def ao.step (n:ao) (p:Int×List Int) (x:Int):Int×List Int:=
 if x<n.calls then(ix (ix n.call p.1) x,ix (ix n.push p.1) x::p.2)
 else if x<n.calls+n.ak then(ix (ix n.inner p.1) (x-n.calls),p.2)
 else(ix (ix (ix n.pop p.1) (hd p.2)) (x-n.calls-n.ak),p.2.tail)
def ao.run (n:ao) (s:Int) (w:List Int):Int×List Int:=w.foldl n.step (s,[])
def ao.dP (n:ao) (s:Int) (w:List Int) (i:Int):Int×List Int:=(w.take i.toNat).foldl n.step (s,[])
def SC(a:0<=i) (b:i<w.length):n.dP s w (i+1)=n.step (n.dP s w i) (ix w i):=Sl a b
def alS(h:(w.length:Int)<=i):n.dP s w i=n.run s w:=Sp h
def ao.up (n:ao) (w:List Int):Prop:=∀i,0<=i->i<=(w.length:Int)->0<=(n.mH w i).1
def alT(o:0<=i) (p:i<=w.length):(n.lO w).2.2<=(n.mH w i).2.2/\(n.mH w i).2.2<=(n.mH w i).1:=by
 have h:∀j:Nat,j<=w.length->(n.mH w j).2.2<=(n.mH w j).1:=by
  intro j g;cases j with
  |zero=>simp[Sx]
  |succ j=>
   have e:=xd (n:=n) (w:=w) (i:=j) aa aa
   rw[show((j+1:Nat):Int)=(j:Int)+1 by omega,e]
   simp only[ao.kE];omega
 have l:∀d j:Nat,j+d=w.length->(n.lO w).2.2<=(n.mH w j).2.2:=by
  intro d
  induction d with
  |zero=>
   intro j g;rw[<-Sy (n:=n) (w:=w) (i:=j) aa]
   exact Int.le_refl _
  |succ d m=>
   intro j g;have:=m (j+1) aa
   have e:=xd (n:=n) (w:=w) (i:=j) aa aa
   rw[show((j+1:Nat):Int)=(j:Int)+1 by omega,e]at this
   simp only[ao.kE]at this;omega
 have a:=h i.toNat aa
 have b:=l (w.length-i.toNat) i.toNat aa
 rw[show((i.toNat:Nat):Int)=i by omega]at a b
 exact⟨b,a⟩
def SD(h:(n.lO w).2.2=0):n.up w:=λi a b=>by
 have:=alT (n:=n) a b;omega
def alU(p:n.Ok)(B:n.word w) (C:n.up w)(D:0<=s/\s<n.accept.length)(I:0<=i) (J:i<=w.length) :
  (0<=(n.dP s w i).1/\(n.dP s w i).1<n.accept.length)/\((n.dP s w i).2.length:Int)=(n.mH w i).1/\∀g∈(n.dP s w i).2,0<=g/\g<n.stack:=by
 have key:∀j:Nat,j<=w.length->(0<=(n.dP s w j).1/\(n.dP s w j).1<n.accept.length)/\((n.dP s w j).2.length:Int)=(n.mH w j).1/\∀g∈(n.dP s w j).2,0<=g/\g<n.stack:=by
  intro j
  induction j with
  |zero=>intro _;exact⟨D,rfl,by simp[ao.dP]⟩
  |succ j E=>
   intro K;obtain⟨a,b,c⟩:=E aa
   have e:=SC (n:=n) (s:=s) (w:=w) (i:=j) aa aa
   have x:=xd (n:=n) (w:=w) (i:=j) aa aa
   have y:=B.2 _ (aJ (l:=w) (n:=j) aa aa)
   have d:=C (j+1) aa aa
   rw[show((j+1:Nat):Int)=(j:Int)+1 by omega,e,x]
   rw[x]at d;simp only[ao.kE,ao.AW]at d ⊢;unfold ao.step
   by_cases m:ix w j<n.calls
   .rw[ae m]at d ⊢
    rw[ae m];have F:=p.call _ _ a.1 a.2 y.1 m;have G:=p.push _ _ a.1 a.2 y.1 m;refine⟨F,ax,λg q=>?_⟩
    rcases b5.1 q with rfl|q
    .exact G
    .exact c g q
   rw[ad m]at d ⊢;rw[ad m]
   by_cases z:ix w j<n.calls+n.ak
   .rw[ae z]
    rw[ad (show ¬n.calls+n.ak<=ix w j by omega)]
    exact⟨p.inner _ _ a.1 a.2 aa aa,b,c⟩
   .rw[ad z]
    rw[ae (show n.calls+n.ak<=ix w j by omega)]at d ⊢
    have r:(n.dP s w j).2 ≠ []:=λh=>by rw[h]at b;simp at b;omega
    obtain⟨g,l,o⟩:=List.exists_cons_of_ne_nil r;have A:=c g (by rw[o];simp)
    rw[o]at b c ⊢;simp only[Sz,List.tail_cons];refine⟨p.pop _ _ _ a.1 a.2 A.1 A.2 aa aa,?_,λH u =>c H (by simp[u])⟩
    simp at b;omega
 have:=key i.toNat aa
 rw[show((i.toNat:Nat):Int)=i by omega]at this
 exact this
def ao.CY (n:ao) (w:List Int):Bool:=decide ((n.lO w).2.2=0)&&decide ((n.lO w).1=0)
def ao.syms (n:ao):Int:=n.calls+n.ak+n.ah
def Ok.sum(h:n.Ok):kU (n.calls+n.ak)=true/\kU (n.calls+n.ak+n.ah)=true:=by
 have:=h.calls;have:=h.ak;have:=h.ah;rw[qu,qu];omega
def ao.acc (n:ao) (w:List Int):Bool×Int:=
 if n.bC ≠ 0 then(false,n.bC)
 else if kD w n.syms ≠ 0 then(false,kD w n.syms)
 else if 64<(n.lO w).2.1 then(false,16)
 else if n.CY w=false then(false,0)
 else(ix n.accept (n.run n.start w).1,0)
def SE(h:n.CY w=true):(n.lO w).2.2=0/\(n.lO w).1=0:=by simpa[ao.CY]using h
def alV (n:ao) (hf:n.fits) (w:List Int) (hl:(w.length:Int)<=9223372036854775807):PC HK [n.av,iL w]=some (.bM [.bool (n.acc w).1,.int (n.acc w).2]):=by
 refine bZ (aiS rfl ?_);have e1:=JX n hf
 by_cases hv:n.bC=0
 case neg=>simp[e1,hv,ao.acc]
 have ok:=tx hv;have e2:=Ss n (Ok.sum ok).1 (Ok.sum ok).2;have e3:PC CC [iL w,.int (n.calls+n.ak+n.ah)]=some (.int (kD w n.syms)):=alB w _ hl
 by_cases hw:kD w n.syms=0
 case neg=>simp[e1,hv,e2,e3,hw,ao.acc]
 have EI:=alL hw;have e4:PC CD [n.av,iL w]=some (.bM [.int (n.lO w).2.1,.bool (n.CY w)]):=alI n w (Ok.sum ok).1 (by have:=EI.1;omega)
 by_cases hm:64<(n.lO w).2.1
 .simp[e1,hv,e2,e3,hw,e4,hm,ao.acc]
 by_cases hb:n.CY w=true
 case neg=>simp[e1,hv,e2,e3,hw,e4,hm,hb,ao.acc]
 have hu:=SD (SE hb).1;have hs:=ok.start;rw[show n.acc w=(ix n.accept (n.run n.start w).1,0)by simp[ao.acc,hv,hw,hm,hb]]
 simp[e1,hv,e2,e3,hw,e4,hm,hb];refine aK (λp:Int×Option (List Int×Nat)=>[(7,.int p.1),(12,.int (n.dP n.start w p.1).1)]) (λp=>CX p.2) (λp=>(0<=p.1/\p.1<=w.length)/\jK p.1.toNat p.2/\zQ p.2=(n.dP n.start w p.1).2) (λp=>(w.length-p.1).toNat) (0,none) (by rfl) ⟨⟨ab,ab⟩,by simp[jK],rfl⟩ ?_
 rintro⟨i,o⟩ ⟨⟨i0,i1⟩,h1,h2⟩;dsimp only at i0 i1 h1 h2 ⊢;obtain⟨⟨a0,a1⟩,b,c⟩:=alU ok EI hu hs i0 i1
 by_cases hi:i<w.length
 .have e:=SC (n:=n) (s:=n.start) i0 hi
  have hx:=EI.2 _ (aJ i0 hi);have ln:=ok.lens;have rw' :=ok.row _ a0 a1;have hc:=ok.calls;have jx:=ok.ak;have SF:=ok.ah;have SG:=EI.1;have My:jK 100000 o:=by
   cases o with
   |none=>trivial
   |some p=>obtain⟨xs,k⟩:=p;simp only[jK]at h1 ⊢;omega
  by_cases c1:ix w i<n.calls
  .have p1:=alP (x:=ix (ix n.push (n.dP n.start w i).1) (ix w i)) h1
   have e' : n.dP n.start w (i+1)=(ix (ix n.call (n.dP n.start w i).1) (ix w i),ix (ix n.push (n.dP n.start w i).1) (ix w i)::(n.dP n.start w i).2):=by rw[e,ao.step,ae c1]
   have q1:=alM n (n.dP n.start w i).1 (ix w i) a0 aa aa hx.1 aa aa
   have q2:=alR (ix (ix n.push (n.dP n.start w i).1) (ix w i)) o My;simp[hi,i0,c1,q1,q2,-aj]
   (repeat' apply And.intro)<;>try omega
   refine aD (i+1,jJ (ix (ix n.push (n.dP n.start w i).1) (ix w i)) o) (by simp[e']) ab ⟨⟨au,au⟩,?_,?_⟩ au
   .show jK (i+1).toNat _
    rw[show(i+1).toNat=i.toNat+1 by omega];exact p1.2
   .show _=(n.dP n.start w (i+1)).2
    rw[e', <-h2];exact p1.1
  by_cases c2:ix w i<n.calls+n.ak
  .have e' : n.dP n.start w (i+1)=(ix (ix n.inner (n.dP n.start w i).1) (ix w i-n.calls),(n.dP n.start w i).2):=by rw[e,ao.step,ad c1,ae c2]
   have q1:=alN n (n.dP n.start w i).1 (ix w i-n.calls) a0 aa aa aa
   simp[hi,i0,c1,c2,q1,-aj]
   (repeat' apply And.intro)<;>try omega
   refine aD (i+1,o) (by simp[e']) ab ⟨⟨au,au⟩,?_,?_⟩ au
   .cases o with
    |none=>trivial
    |some p=>obtain⟨xs,k⟩:=p;simp only[jK]at h1 ⊢;omega
   .show _=(n.dP n.start w (i+1)).2
    rw[e'];exact h2
  .have e' : n.dP n.start w (i+1)=(ix (ix (ix n.pop (n.dP n.start w i).1) (hd (n.dP n.start w i).2)) (ix w i-n.calls-n.ak),(n.dP n.start w i).2.tail):=by rw[e,ao.step,ad c1,ad c2]
   have jV:=hu (i+1) aa aa
   rw[xd i0 hi]at jV;simp only[ao.kE,ao.AW,ad c1,ae (show n.calls+n.ak<=ix w i by omega)]at jV
   have eP:(n.dP n.start w i).2 ≠ []:=λh=>by rw[h]at b;simp at b;omega
   obtain⟨p1,p2,xs,k,rfl,p3,p4,p5⟩:=alQ h1 (by rw[h2];exact eP)
   rw[h2]at p1 p5;have hg:hd (n.dP n.start w i).2∈(n.dP n.start w i).2:=by
    obtain⟨g,l,SH⟩:=List.exists_cons_of_ne_nil eP;rw[SH,Sz];simp
   have qg:=c _ hg;have d3:=ok.CW _ _ a0 a1 qg.1 qg.2;have q1:=alO n (n.dP n.start w i).1 (hd (n.dP n.start w i).2) (ix w i-n.calls-n.ak) a0 aa qg.1 aa aa aa
   have q2:=SB xs k p3 p4 My.2;rw[p5]at q2;simp[hi,i0,c1,c2,q1,q2,-aj]
   (repeat' apply And.intro)<;>try omega
   refine aD (i+1,pF (some (xs,k))) (by simp[e']) ab ⟨⟨au,au⟩,?_,?_⟩ au
   .simp only[pF,jK]at p2 ⊢;omega
   .show _=(n.dP n.start w (i+1)).2
    rw[e'];exact p1
 .rw[alS (n:=n) (s:=n.start) (w:=w) (i:=i) aa]at a0 a1 ⊢
  simp[hi,a0,a1]
def SJ:∀{n:Nat}{cs:List AV},cs.length<=n->chunk none n cs=cs
 |0,cs,h=>by
  have:cs=[]:=dY aa
  subst this;rfl
 |n+1,[],h=>rfl
 |n+1,c::cs,h=>by simp only[chunk];rw[SJ cq]
structure fX where
 size:Nat
 call:Int->Int->Int×Int
 inner:Int->Int->Int
 pop:Int->Int->Int->Int
 calls:Int
 ak:Int
 ah:Int
structure fX.Ok (M:fX):Prop where
 size:(M.size:Int)<=100000
 calls:0<=M.calls/\M.calls<=100000
 ak:0<=M.ak/\M.ak<=100000
 ah:0<=M.ah/\M.ah<=100000
 call:∀s c,0<=s->s<(M.size:Int)->0<=c->c<M.calls->0<=(M.call s c).1/\(M.call s c).1<(M.size:Int)
 inner:∀s i,0<=s->s<(M.size:Int)->0<=i->i<M.ak->0<=M.inner s i/\M.inner s i<(M.size:Int)
 pop:∀s c t r,0<=s->s<(M.size:Int)->0<=c->c<M.calls->0<=t->t<(M.size:Int)->0<=r->r<M.ah->0<=M.pop t (M.call s c).2 r/\M.pop t (M.call s c).2 r<(M.size:Int)
inductive kX (M:fX):Int->Int->Prop
 |refl (s:Int):kX M s s
 |aQ (s i t:Int):0<=i->i<M.ak->kX M (M.inner s i) t->kX M s t
 |call (s c p r t:Int):0<=c->c<M.calls->0<=r->r<M.ah->kX M (M.call s c).1 p->kX M (M.pop p (M.call s c).2 r) t->kX M s t
variable{M:fX}{a b c:Int}
def kX.trans(h:kX M a b) (k:kX M b c):kX M a c:=by
 induction h with
 |refl s=>exact k
 |aQ s i t h0 h1 _ ih=>exact .aQ s i c h0 h1 (ih k)
 |call s x p r t h0 h1 h2 h3 h4 _ _ ih=>exact .call s x p r c h0 h1 h2 h3 h4 (ih k)
def kX.range(hM:M.Ok)(h:kX M a b) (ha:0<=a/\a<(M.size:Int)):0<=b/\b<(M.size:Int):=by
 induction h with
 |refl s=>exact ha
 |aQ s i t h0 h1 _ ih=>exact ih (hM.inner s i ha.1 ha.2 h0 h1)
 |call s x p r t h0 h1 h2 h3 h4 _ nw oz=>
  have hp:=nw (hM.call s x ha.1 ha.2 h0 h1);exact oz (hM.pop s x p r ha.1 ha.2 h0 h1 hp.1 hp.2 h2 h3)
inductive oE (S:Int->Int->Prop):Int->Int->Prop
 |refl (s:Int):oE S s s
 |tail (s t u:Int):oE S s t->S t u->oE S s u
variable{S:Int->Int->Prop}
def oE.trans(h:oE S a b) (k:oE S b c):oE S a c:=by
 induction k with
 |refl=>exact h
 |tail t u _ h2 ih=>exact .tail a t u ih h2
def oE.head(h:S a b) (k:oE S b c):oE S a c:=(oE.tail a a b (.refl a) h).trans k
def rel (m:List (List Bool)) (s t:Int):Prop:=0<=s/\s<m.length/\0<=t/\t<m.length/\ix (ix m s) t=true
variable{j:Int}
def SK{l:List Bool}{i:Nat}{x:Bool}(b:0<=j) (a:i<l.length):ix (l.set i x) j=if j=i then x else ix l j:=by
 unfold ix;rw[gD,gD,List.getElem?_set]
 by_cases h:i=j.toNat
 .rw[ae h,ae a,ae aa];rfl
 .rw[ad h,ad aa]
def SM{l:List Bool}{i:Nat}(h:i<l.length) (a:ix l i=false):(l.set i true).count false+1=l.count false:=by
 rw[aB h]at a;rw[List.count_set h];simp[a];have:0<l.count false:=List.count_pos_iff.2 (by rw[<-a];exact List.getElem_mem h)
 omega
structure Spr (m:List (List Bool)) (a:Int) (seen:List Bool) (l:List Int):Prop where
 len:seen.length=m.length
 mem:∀t,0<=t->t<(m.length:Int)->(ix seen t=true↔t∈l)
 eV:∀t∈l,0<=t/\t<(m.length:Int)
 star:∀t∈l,oE (rel m) a t
 start:a∈l
 cnt:l.length+seen.count false=m.length
variable{m:List (List Bool)}{t:Int}
def Spr.more{seen:List Bool}(h:Spr m a seen l) (hs:s∈l) (gG:rel m s t) (hn:ix seen t=false):Spr m a (seen.set t.toNat true) (l ++ [t]):=by
 have alW :=gG;obtain⟨_,_,t0,t1,_⟩:=gG;have hr:t.toNat<seen.length:=by rw[h.len];omega
 refine⟨by rw[ox];exact h.len,λu u0 u1=>?_,λu hu=>?_,λu hu=>?_,by simp[h.start],?_⟩
 .rw[SK u0 hr]
  by_cases CZ:u=t.toNat
  .rw[ae CZ];simp;right;omega
  .rw[ad CZ,h.mem u u0 u1];simp;intro;omega
 .rcases cY.1 hu with hu|hu
  .exact h.eV u hu
  .simp at hu;subst hu;exact⟨t0,t1⟩
 .rcases cY.1 hu with hu|hu
  .exact h.star u hu
  .simp at hu;subst hu;exact .tail a s u (h.star s hs) alW
 .have:=SM hr (by rw[show((t.toNat:Nat):Int)=t by omega];exact hn)
  have:=h.cnt;simp;omega
abbrev alX (r:List Bool):al:=⟨none,r.map .bool,.live⟩
abbrev refs (k N:Nat):List AV:=(List.range k).map λi=>AV.sl (2+i) N 0 N
def CY (box:al) (N:Nat) (m:List (List Bool)) (rest:List al):List al:=box::⟨none,refs m.length N++List.replicate (N-m.length) .ag,.live⟩::(m.map alX++rest)
def C3:∀(σ:List al) (i:Nat),aq σ i=σ[i]?
 | [],i=>by simp[aq]
 |x::r,0=>rfl
 |x::r,i+1=>by simp[aq,C3 r i]
def JZ:∀(σ:List al) (i:Nat) (B:al),ar σ i B=σ.set i B
 | [],i,B=>by simp[ar]
 |x::r,0,B=>rfl
 |x::r,i+1,B=>by simp[ar,JZ r i B]
structure MOk (t:Nat) (v:AV) (M:fX):Prop where
 loc:aR v=true
 wk:Ab.wk v=v
 size:∃f,eY [(j5,jZ),(jH,pC)] t=some f/\PC f [v]=some (.int M.size)
 call:∃f,eY [(j5,tp),(jH,Ck)] t=some f/\∀s c,0<=s->s<(M.size:Int)->0<=c->c<M.calls->PC f [v,.int s,.int c]=some (.bM [.int (M.call s c).1,.int (M.call s c).2])
 inner:∃f,eY [(j5,tn),(jH,Cj)] t=some f/\∀s i,0<=s->s<(M.size:Int)->0<=i->i<M.ak->PC f [v,.int s,.int i]=some (.int (M.inner s i))
 pop:∃f,eY [(j5,tq),(jH,Cn),(HR,w8)] t=some f/\∀s c u r,0<=s->s<(M.size:Int)->0<=c->c<M.calls->0<=u->u<(M.size:Int)->0<=r->r<M.ah->PC f [v,.int u,.int (M.call s c).2,.int r]=some (.int (M.pop u (M.call s c).2 r))
def ao.eA (n:ao):fX:=⟨n.accept.length,λs c=>(ix (ix n.call s) c,ix (ix n.push s) c),λs i=>ix (ix n.inner s) i,λs g r=>ix (ix (ix n.pop s) g) r,n.calls,n.ak,n.ah⟩
def J0(h:n.Ok):n.eA.Ok:=by
 have:=h.eU;have:=h.calls;have:=h.ak;have:=h.ah;refine⟨?_,?_,?_,?_,λs c a b d e=>h.call s c a b d e,λs i a b d e=>h.inner s i a b d e,λs c t r a b d e g j l m=>?_⟩<;>simp only[ao.eA]at *<;>try omega
 have q:=h.push s c a b d e;exact h.pop t _ r g j q.1 q.2 l m
def Sq (N:Nat) (m:List (List Bool)):Prop:=m.length=N/\∀r∈m,r.length=N
variable{N:Nat}
def Sq.row(h:Sq N m)(h0:0<=s) (h1:s<N):(ix m s).length=N:=h.2 _ (aJ h0 (by rw[h.1];exact h1))
def tz (m:List (List Bool)) (s u:Int):List (List Bool):=m.set s.toNat ((ix m s).set u.toNat true)
variable{α:Type}
def alY [Inhabited α]{l:List α}{i:Nat}{x:α}(b:0<=j) (a:i<l.length):ix (l.set i x) j=if j=i then x else ix l j:=by
 unfold ix;rw[gD,gD,List.getElem?_set]
 by_cases h:i=j.toNat
 .rw[ae h,ae a,ae aa];rfl
 .rw[ad h,ad aa]
variable{u:Int}
def SN(h:Sq N m)(b:0<=s) (d:s<N):Sq N (tz m s u):=by
 refine⟨by rw[tz,ox,h.1],λr a=>?_⟩
 rcases List.mem_or_eq_of_mem_set a with a|rfl
 .exact h.2 r a
 .rw[ox,h.row b d]
def J1(h:Sq N m)(l:0<=s) (i:s<N) (n:0<=u) (o:u<N) (d:0<=a) (j:0<=b):ix (ix (tz m s u) a) b=if a=s/\b=u then true else ix (ix m a) b:=by
 unfold tz;rw[alY d (by rw[h.1];omega)]
 by_cases e:a=s
 .subst e
  rw[ae aa,SK j (by rw[h.row d i];omega)]
  by_cases g:b=u
  .rw[ae aa,ae ⟨rfl,g⟩]
  .rw[ad aa,ad iH]
 .rw[ad aa,ad ft]
def alZ(h:Sq N m)(d:0<=s) (g:s<N) (i:0<=u) (o:u<N):rel (tz m s u) a b↔rel m a b\/(a=s/\b=u):=by
 have q :=SN (u:=u) h d g;unfold rel;rw[h.1,q.1];constructor
 .rintro⟨j,p,l,b1,n⟩
  rw[J1 h d g i o j l]at n
  by_cases e:a=s/\b=u
  .exact .inr e
  .rw[ad e]at n;exact .inl ⟨j,p,l,b1,n⟩
 .rintro(⟨j,p,l,b1,n⟩|⟨rfl,rfl⟩)
  .refine⟨j,p,l,b1,?_⟩
   rw[J1 h d g i o j l,n];simp
  .refine⟨d,g,i,o,?_⟩
   rw[J1 h d g i o d i];simp
def cf (m:List (List Bool)):Nat:=(m.map λr=>r.count false).sum
def SO:∀{l:List Nat}{i:Nat}{x y:Nat},l[i]? = some y->x+1=y->(l.set i x).sum+1=l.sum
 | [],i,x,y,h,_=>by simp at h
 |a::l,0,x,y,h,e=>by simp at h;subst h;simp[List.set];omega
 |a::l,i+1,x,y,h,e=>by
  have:=SO (l:=l) (i:=i) (x:=x) (y:=y) cq e
  simp only[List.set_cons_succ,List.sum_cons];omega
def SQ(h:Sq N m)(a:0<=s) (b:s<N) (e:0<=u) (g:u<N) (d:ix (ix m s) u=false):cf (tz m s u)+1=cf m:=by
 unfold cf tz;rw[o8];refine SO (y:=(ix m s).count false) ?_ (SM (by rw[h.row a b];omega) (by rw[show((u.toNat:Nat):Int)=u by omega];exact d))
 rw[iv,mw a (by rw[h.1];exact b)];rfl
def J2(h:Sq N m)(j:0<=s) (l:s<N) (n:0<=u) (o:u<N) (d:ix (ix m s) u=true):tz m s u=m:=by
 have e:(ix m s).set u.toNat true=ix m s:=by
  apply me ab
  intro i g a;rw[qn];split
  .rename_i b
   subst b;rw[<-aB a,show((u.toNat:Nat):Int)=u by omega,d]
  .rfl
 unfold tz;rw[e];apply me ab
 intro i g a;rw[qn];split
 .rename_i b
  subst b;rw[<-aB a,show((s.toNat:Nat):Int)=s by omega]
 .rfl
def SR (M:fX) (R:List (List Bool)) (s u:Int):Prop:=∃c p r,(0<=c/\c<M.calls)/\(0<=r/\r<M.ah)/\rel R (M.call s c).1 p/\u=M.pop p (M.call s c).2 r
structure J3 (M:fX) (R:List (List Bool)) (m m' : List (List Bool)) (ch:Bool):Prop where
 sq:Sq M.size m'
 mono:∀s t,rel m s t->rel m' s t
 sound:∀s t,rel m' s t->rel m s t\/SR M R s t
 no:ch=false->m' = m
 yes:ch=true->cf m' < cf m
 le:cf m' <=cf m
def J3.more{R m m' : List (List Bool)}{ch:Bool}(h:J3 M R m m' ch)(s0:0<=s) (s1:s<(M.size:Int)) (u0:0<=u) (u1:u<(M.size:Int)) (hw:SR M R s u) :
  J3 M R m (tz m' s u) (ch || !ix (ix m' s) u)/\rel (tz m' s u) s u/\∀a b,rel m' a b->rel (tz m' s u) a b:=by
 have J4 :=s1;have Mz :=u1;have hr:=λa b=>alZ (a:=a) (b:=b) h.sq s0 J4 u0 Mz;refine⟨⟨SN h.sq s0 J4, λa b w3=>(hr a b).2 (.inl (h.mono a b w3)),λa b w3=>?_,λhc=>?_,λhc=>?_,?_⟩,(hr s u).2 (.inr ⟨rfl,rfl⟩),λa b w3=>(hr a b).2 (.inl w3)⟩
 .rcases(hr a b).1 w3 with w3|⟨rfl,rfl⟩
  .exact h.sound a b w3
  .exact .inr hw
 .simp at hc
  rw[J2 h.sq s0 J4 u0 Mz hc.2];exact h.no hc.1
 .by_cases hv:ix (ix m' s) u=true
  .rw[J2 h.sq s0 J4 u0 Mz hv]
   simp[hv]at hc;exact h.yes hc
  .have:=SQ h.sq s0 J4 u0 Mz (by simpa using hv)
   have:=h.le;omega
 .by_cases hv:ix (ix m' s) u=true
  .rw[J2 h.sq s0 J4 u0 Mz hv];exact h.le
  .have:=SQ h.sq s0 J4 u0 Mz (by simpa using hv)
   have:=h.le;omega
def C4{α:Type}{f g:α->AV}{v:AV->Option AV}:∀{xs:List α},(∀x∈xs,v (f x)=some (g x))->bJ v (xs.map f)=some (xs.map g)
 | [],_=>rfl
 |x::xs,h=>by
  have e:=C4 (f:=f) (g:=g) (v:=v) (xs:=xs) λy a=>h y fm
  simp only[cS,bJ,h x ab,e]
def SS{f g:α->AV}{σ:List al}{fr:Bool}{b k n:Nat}{xs:List α}{st:fb}(h:aq σ b=some ⟨none,xs.map f,st⟩) (a:st.fG=true) (d:n=xs.length) (e:∀x∈xs,view σ fr k (f x)=some (g x)) :
  view σ fr (k+1) (.sl b n 0 n)=some (.aF false (xs.map g)):=by
 subst d;have i:upto σ b xs.length=some ⟨none,xs.map f,st⟩:=by
  unfold upto;rw[h];cases st<;>simp at a ⊢
 unfold view;simp only[i,aM,dA,ow,gX,Nat.mul_one,bd,dD];rw[SJ ab,C4 e]
structure Gw (M:fX) (m m' : List (List Bool)) (ch:Bool):Prop where
 sq:Sq M.size m'
 mono:∀s t,rel m s t->rel m' s t
 sound:∀s t,rel m' s t->kX M s t
 no:ch=false->m' = m
 yes:ch=true->cf m' < cf m
inductive Wd (M:fX):Int->Int->List Int->Prop
 |nil (s:Int):Wd M s s []
 |aQ (s i t:Int) (w:List Int):0<=i->i<M.ak->Wd M (M.inner s i) t w->Wd M s t ((M.calls+i)::w)
 |call (s c p r t:Int) (u v:List Int):0<=c->c<M.calls->0<=r->r<M.ah->Wd M (M.call s c).1 p u->Wd M (M.pop p (M.call s c).2 r) t v->Wd M s t (c::(u++(M.calls+M.ak+r)::v))
variable{v:List Int}
def Wd.app{u:List Int}(h:Wd M a b u) (k:Wd M b c v):Wd M a c (u++v):=by
 induction h with
 |nil s=>exact k
 |aQ s i t w h0 h1 _ ih=>exact .aQ s i c _ h0 h1 (ih k)
 |call s x p r t u v h0 h1 h2 h3 h4 _ _ ih=>
  have:=Wd.call s x p r c u _ h0 h1 h2 h3 h4 (ih k);simpa using this
def Wd.conn{u:List Int}(h:Wd M a b u):kX M a b:=by
 induction h with
 |nil s=>exact .refl s
 |aQ s i t w h0 h1 _ ih=>exact .aQ s i t h0 h1 ih
 |call s x p r t u v h0 h1 h2 h3 _ _ nw oz=>exact .call s x p r t h0 h1 h2 h3 nw oz
def kX.wd(h:kX M a b):∃u,Wd M a b u:=by
 induction h with
 |refl s=>exact⟨[],.nil s⟩
 |aQ s i t h0 h1 _ ih=>obtain⟨u,hu⟩:=ih;exact⟨_,.aQ s i t u h0 h1 hu⟩
 |call s x p r t h0 h1 h2 h3 _ _ nw oz=>
  obtain⟨u,hu⟩:=nw;obtain⟨v,hv⟩:=oz;exact⟨_,.call s x p r t u v h0 h1 h2 h3 hu hv⟩
def fX.step (M:fX) (p:Int×List Int) (x:Int):Int×List Int:=
 if x<M.calls then((M.call p.1 x).1,(M.call p.1 x).2::p.2)
 else if x<M.calls+M.ak then(M.inner p.1 (x-M.calls),p.2)
 else(M.pop p.1 (hd p.2) (x-M.calls-M.ak),p.2.tail)
def mt (a b:Int):Nat->List Int->Bool
 |d,[]=>d==0
 |d,x::w=>if x<a then mt a b (d+1) w else if x<a+b then mt a b d w else match d with
  |0=>false
  |d+1=>mt a b d w
inductive Fr (M:fX) (s:Int):List Int->List Int->Int->Prop
 |base (w:List Int) (q:Int):Wd M s q w->Fr M s w [] q
 |open_ (w:List Int) (st:List Int) (p c q:Int) (v:List Int):Fr M s w st p->0<=c->c<M.calls->Wd M (M.call p c).1 q v->Fr M s (w++c::v) ((M.call p c).2::st) q
def Fr.ext{s q q' : Int}{st:List Int}(h:Fr M s w st q) (k:Wd M q q' v):Fr M s (w++v) st q' :=by
 cases h with
 |base _ _ h=>exact .base _ _ (h.app k)
 |open_ w st p c _ u h c0 c1 hu=>
  have:=Fr.open_ w st p c q' _ h c0 c1 (hu.app k);simpa using this
def Fr.run{M:fX}{s:Int}{n:Int}(hn:n=M.calls+M.ak+M.ah):∀{u w st:List Int}{q:Int},Fr M s w st q->(∀x∈u,0<=x/\x<n)->mt M.calls M.ak st.length u=true->Wd M s (u.foldl M.step (q,st)).1 (w++u)/\(u.foldl M.step (q,st)).2=[]
 | [],w,st,q,h,_,hm=>by
  have gG:st=[]:=by simpa[mt]using hm
  subst gG;cases h with
  |base _ _ h=>exact⟨cq,rfl⟩
 |x::u,w,st,q,h,hx,hm=>by
  have x0:=hx x ab
  have kT : ∀y∈u,0<=y/\y<n:=λy hy=>hx y (by simp[hy])
  simp only[mt]at hm;simp only[jW,fX.step]
  by_cases c1:x<M.calls
  .rw[ae c1]at hm ⊢
   have:=Fr.run hn (Fr.open_ w st q x _ [] h x0.1 c1 (.nil _)) kT hm;simpa using this
  .rw[ad c1]at hm ⊢
   by_cases c2:x<M.calls+M.ak
   .rw[ae c2]at hm ⊢
    have k:=Wd.aQ (M:=M) q (x-M.calls) _ [] aa aa (.nil _)
    rw[show M.calls+(x-M.calls)=x by omega]at k
    have:=Fr.run hn (h.ext k) kT hm;simpa using this
   .rw[ad c2]at hm ⊢
    cases h with
    |base _ _ h=>simp at hm
    |open_ w st p c _ v h c0 c1 hv=>
     simp only[cO]at hm;have k:=Wd.call (M:=M) p c q (x-M.calls-M.ak) _ v [] c0 c1 aa aa hv (.nil _)
     rw[show M.calls+M.ak+(x-M.calls-M.ak)=x by omega]at k
     have:=Fr.run hn (h.ext k) kT hm;simpa[hd]using this
def Wd.run(hM:0<=M.calls/\0<=M.ak/\0<=M.ah)(h:Wd M s t w):(∀x∈w,0<=x/\x<M.calls+M.ak+M.ah)/\(∀d rest,mt M.calls M.ak d (w++rest)=mt M.calls M.ak d rest)/\∀st rest,(w++rest).foldl M.step (s,st)=rest.foldl M.step (t,st):=by
 induction h with
 |nil s=>exact⟨ab,λ_ _=>rfl,λ_ _=>rfl⟩
 |aQ s i t w h0 h1 _ ih=>
  obtain⟨a,b,c⟩:=ih;refine⟨λx hx=>?_,λd rest=>?_,λst rest=>?_⟩
  .rcases b5.1 hx with rfl|hx
   .omega
   .exact a x hx
  .simp only[jD,mt]
   rw[ad aa,ae aa,b]
  .simp only[jD,jW,fX.step]
   rw[ad aa,ae aa,show M.calls+i-M.calls=i by omega,c]
 |call s x p r t u v h0 h1 h2 h3 _ _ nw oz=>
  obtain⟨a,b,c⟩:=nw;obtain⟨a', b', c'⟩:=oz;refine⟨λy hy=>?_,λd rest=>?_,λst rest=>?_⟩
  .simp only[b5,cY]at hy
   rcases hy with rfl|hy|rfl|hy
   .omega
   .exact a y hy
   .omega
   .exact a' y hy
  .simp only[jD,gZ,mt]
   rw[ae h1,b];simp only[mt];rw[ad aa,ad aa,b']
  .simp only[jD,gZ,jW,fX.step]
   rw[ae h1,c];simp only[jW,fX.step];rw[ad aa,ad aa,show M.calls+M.ak+r-M.calls-M.ak=r by omega]
   exact c' st rest
def J5(d:0<=M.calls/\0<=M.ak/\0<=M.ah):Wd M s t w↔(∀x∈w,0<=x/\x<M.calls+M.ak+M.ah)/\mt M.calls M.ak 0 w=true/\(w.foldl M.step (s,[])).1=t:=by
 constructor
 .intro h
  obtain⟨a,b,c⟩:=h.run d;refine⟨a,?_,?_⟩
  .have:=b 0 []
   simpa[mt]using this
  .have:=c [] []
   simp at this;rw[this]
 .rintro⟨a,b,rfl⟩
  have:=Fr.run (M:=M) rfl (u:=w) (.base [] s (.nil s)) a b;simpa using this.1
def C5{n:ao}:∀{w:List Int}{d:Nat}{mx mn:Int},mn<=0->(mt n.calls n.ak d w=true/\mn=0↔(w.foldl n.kE ((d:Int),mx,mn)).2.2=0/\(w.foldl n.kE ((d:Int),mx,mn)).1=0)
 | [],d,mx,mn,h=>by
  simp[mt];omega
 |x::w,d,mx,mn,h=>by
  simp only[mt,jW,ao.kE,ao.AW]
  by_cases a:x<n.calls
  .rw[ae a,ae a,show min mn ((d:Int)+1)=mn by omega]
   have:=C5 (n:=n) (w:=w) (d:=d+1) (mx:=max mx ((d:Int)+1)) h;rw[show(((d+1:Nat)):Int)=(d:Int)+1 by omega]at this
   exact this
  .rw[ad a,ad a]
   by_cases b:x<n.calls+n.ak
   .rw[ae b,ad aa,show min mn (d:Int)=mn by omega]
    exact C5 (w:=w) (d:=d) h
   .rw[ad b,ae aa]
    cases d with
    |succ d=>
     rw[show((d+1:Nat):Int)-1=(d:Int)by omega,show min mn (d:Int)=mn by omega]
     exact C5 (w:=w) (d:=d) h
    |zero=>
     simp only[ef,false_and,false_iff,not_and];intro g;have:∀(w:List Int) (p:Int×Int×Int),(w.foldl n.kE p).2.2<=p.2.2:=by
      intro w
      induction w with
      |nil=>intro p;exact Int.le_refl _
      |cons y w e=>
       intro p;have:=e (n.kE p y);simp only[jW];simp only[ao.kE]at this ⊢;omega
     have:=this w (((0:Nat):Int)-1,max mx (((0:Nat):Int)-1),min mn (((0:Nat):Int)-1));simp only at this;omega
def al0:n.CY w=mt n.calls n.ak 0 w:=by
 rw[mU];have:=C5 (n:=n) (w:=w) (d:=0) (mx:=0) (mn:=0) (Int.le_refl 0);simp only[and_true]at this;rw[this];simp only[ao.CY,ao.lO,aH];exact⟨λh=>⟨of_decide_eq_true h.1,of_decide_eq_true h.2⟩,λh=>⟨mf h.1,mf h.2⟩⟩
def SU(a:n.Ok):Wd n.eA s t w↔(∀x∈w,0<=x/\x<n.calls+n.ak+n.ah)/\n.CY w=true/\(n.run s w).1=t:=by
 have b:=a.calls;have d:=a.ak;have e:=a.ah;rw[J5 (M:=n.eA) ⟨b.1,d.1,e.1⟩,al0]
 rfl
end Ab
