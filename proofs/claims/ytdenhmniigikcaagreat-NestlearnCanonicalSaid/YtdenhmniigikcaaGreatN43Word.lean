/- The check of an automaton, by the program and by the document; and what it leans on. Condition: none. -/
import Derived.Test.YtdenhmniigikcaaGreatKey
set_option linter.all false
set_option maxRecDepth 100000
set_option maxHeartbeats 4000000
namespace Ab
structure al where
 calls:Int
 af:Int
 aj:Int
 stack:Int
 start:Int
 accept:List Bool
 call:List (List Int)
 push:List (List Int)
 inner:List (List Int)
 pop:List (List (List Int))
 deriving Inhabited
abbrev al.av (n:al):AV:=.agg [.int n.calls,.int n.af,.int n.aj,.int n.stack,.int n.start,bL n.accept,bN n.call,bN n.push,bN n.inner,dR n.pop]
structure al.fits (n:al):Prop where
 calls:ka n.calls=true
 af:ka n.af=true
 aj:ka n.aj=true
 stack:ka n.stack=true
 start:ka n.start=true
 accept:(n.accept.length:Int)<=9223372036854775807
 call:∀l∈n.call,(l.length:Int)<=9223372036854775807
 push:∀l∈n.push,(l.length:Int)<=9223372036854775807
 inner:∀l∈n.inner,(l.length:Int)<=9223372036854775807
 pop:∀l∈n.pop,(l.length:Int)<=9223372036854775807/\∀m∈l,(m.length:Int)<=9223372036854775807
def ain (x k:Int):PC A0 [.int x,.aV (.int k)]=some (.bool (gD k x)):=by
 refine bP (agW rfl ?_);simp[gD];omega
def ye (xs:List Int) (k:Int) (a:(xs.length:Int)<=9223372036854775807): PC rO [iL xs,.int k]=some (.bool (bad xs k)):=by
 refine bP (ags rfl ?_);simp[PJ xs A0 [.aV (.int k)] (gD k) a rfl rfl (λx _=>ain x k)]
 rfl
def PM (n:al) (a:ka (n.calls+n.af)=true) (b:ka (n.calls+n.af+n.aj)=true):PC xW [n.av]=some (.int (n.calls+n.af+n.aj)):=by
 refine bP (agl rfl ?_);simp;rw[o6]at a b;omega
def aio (n:al) (a:ka (n.calls+n.af)=true) (b:ka (n.calls+n.af+n.aj)=true):PC AR [n.av]=some (.int (n.calls+n.af+n.aj)):=by
 refine bP (agh rfl ?_);simp;rw[o6]at a b;omega
def al.iQ (n:al) (l:List Int):Int:=if(l.length:Int) ≠ n.aj then 1 else if bad l n.accept.length=true then 2 else 0
def al.dO (n:al) (s:Int):Int:=
 if ¬((ix n.call s).length:Int)=n.calls\/¬((ix n.push s).length:Int)=n.calls\/¬((ix n.inner s).length:Int)=n.af\/¬((ix n.pop s).length:Int)=n.stack then 1
 else if bad (ix n.call s) n.accept.length=true\/bad (ix n.push s) n.stack=true\/bad (ix n.inner s) n.accept.length=true then 2
 else eO (λg=>n.iQ (ix (ix n.pop s) g)) (ix n.pop s).length
def PN (n:al) (h:n.fits) (s:Int) (p:0<=s) (r:s<n.call.length) (u:s<n.push.length) (E:s<n.inner.length) (F:s<n.pop.length):PC G8 [n.av,.int s]=some (.int (n.dO s)):=by
 have G:=ye (ix n.call s) n.accept.length (h.call _ (aO p r));have H:=ye (ix n.push s) n.stack (h.push _ (aO p u));have I:=ye (ix n.inner s) n.accept.length (h.inner _ (aO p E));have J:=h.pop _ (aO p F);refine bP (agt rfl ?_);simp[p,r,u,E,F,G,H,I];have no:∀{a:Int},1=n.dO s->a=1->a=n.dO s:=λh e=>e.trans h;refine⟨λd=>⟨λl=>⟨λm=>⟨λo=>⟨λb1=>by simp[al.dO,d,l,m,o,b1],λb1=>⟨λz=>by simp[al.dO,d,l,m,o,z],λz=>⟨λA=>by simp[al.dO,d,l,m,o,A],λA=>?_⟩⟩⟩,λo=>by simp[al.dO,o]⟩,λm=>by simp[al.dO,m]⟩,λl=>by simp[al.dO,l]⟩,λd=>by simp[al.dO,d]⟩
 have e:n.dO s=eO (λg=>n.iQ (ix (ix n.pop s) g)) (ix n.pop s).length:=by simp[al.dO,d,l,m,o,b1,z,A]
 rw[e];refine aM (λi:Int=>[(4,.int i)]) (λ_=>[]) (λi=>0<=i/\i<=(ix n.pop s).length/\∀j,0<=j->j<i->n.iQ (ix (ix n.pop s) j)=0) (λi=>((ix n.pop s).length-i).toNat) 0 rfl (by simp;omega) λi ⟨B,i1,C⟩=>?_
 by_cases w:i<(ix n.pop s).length
 .have K:=ye (ix (ix n.pop s) i) n.accept.length (J.2 _ (aO B w))
  simp[w,B,K];have q:∀{x:Int},n.iQ (ix (ix n.pop s) i)=x->x ≠ 0->x=eO (λg=>n.iQ (ix (ix n.pop s) g)) (ix n.pop s).length:=λr u=>by subst r;exact(Be (f:=λg=>n.iQ (ix (ix n.pop s) g)) B w u C).symm
  refine⟨λy=>⟨λD=>q (by simp[al.iQ,y,D]) (by simp),λD=>⟨by omega,⟨by omega,by omega,gC (by simp[al.iQ,y,D]) C⟩,by omega⟩⟩,λy=>q (by simp[al.iQ,y]) (by simp)⟩
 .simp[w]
  rw[yd λj a b=>C j a (by omega)]
def al.eV (n:al):Int:=
 if n.calls<0\/65<=n.calls\/n.af<0\/65<=n.af\/n.aj<0\/65<=n.aj then 2
 else if n.calls+n.af+n.aj<1 then 2
 else if 64<n.calls+n.af+n.aj then 2
 else if n.stack<1 then 2
 else if 128<n.stack then 2
 else if n.accept=[]then 19
 else if 128<(n.accept.length:Int)then 11
 else if n.start<0 then 2
 else if(n.accept.length:Int)<=n.start then 2
 else if ¬(n.call.length:Int)=n.accept.length then 1
 else if ¬(n.push.length:Int)=n.accept.length then 1
 else if ¬(n.inner.length:Int)=n.accept.length then 1
 else if ¬(n.pop.length:Int)=n.accept.length then 1
 else 0
def al.aX (n:al):Int:=if n.eV ≠ 0 then n.eV else eO n.dO n.accept.length
variable{n:al}{x:Int}
theorem Hy(h:n.eV=x) (a:x ≠ 0):x=n.aX:=by
 subst h;simp[al.aX,a]
theorem Hz (n:al) (h:n.fits):PC tw [n.av]=some (.int n.aX):=by
 refine bP (af0 rfl ?_);have o:PC rO [.au false [.int n.calls,.int n.af,.int n.aj],.int 65]=_:=ye [n.calls,n.af,n.aj] 65 (by simp)
 by_cases d:bad [n.calls,n.af,n.aj] 65=true
 .simp[o,d]
  simp[bad,gD]at d;exact Hy (by simp[al.eV,show n.calls<0\/65<=n.calls\/n.af<0\/65<=n.af\/n.aj<0\/65<=n.aj by omega]) (by simp)
 have e :=d;simp[bad,gD]at e;have q:=PM n (by rw[o6];omega) (by rw[o6];omega)
 have e0:¬(n.calls<0\/65<=n.calls\/n.af<0\/65<=n.af\/n.aj<0\/65<=n.aj):=by omega
 simp[o,d,q]
 repeat' (first|apply And.intro|intro _)
 all_goals try(refine Hy ?_ (by simp);unfold al.eV;rw[aa e0];repeat (first|rw[ab (by assumption)]|rw[aa (by assumption)]|rw[aa (by omega)]))
 rename_i u w x y z A B C b1 D E F;have r:n.eV=0:=by unfold al.eV;rw[aa e0];repeat (first|rw[ab (by assumption)]|rw[aa (by assumption)]|rw[aa (by omega)])
 rw[show n.aX=eO n.dO n.accept.length by simp[al.aX,r]]
 refine aM (λi:Int=>[(3,.int i)]) (λ_=>[]) (λi=>0<=i/\i<=n.accept.length/\∀j,0<=j->j<i->n.dO j=0) (λi=>(n.accept.length-i).toNat) 0 rfl (by simp;omega) λi ⟨p,i1,g⟩=>?_
 by_cases l:i<n.accept.length
 .have s:=PN n h i p (by omega) (by omega) (by omega) (by omega)
  simp[l,s];exact⟨λm=>⟨by omega,⟨by omega,by omega,gC m g⟩,by omega⟩,λm=>(Be p l m g).symm⟩
 .simp[l]
  rw[yd λj a b=>g j a (by omega)]
theorem HA (n:al) (s:Int):PC xY [n.av,.int s]=some (.bool (!gD n.accept.length s)):=by
 refine bP (agO rfl ?_);rw[aij];simp;exact⟨λa=>by simp[a],λa b=>by omega⟩
theorem aip (n:al):PC G3 [n.av]=some (.int n.eV):=by
 refine bP (age rfl ?_)
 by_cases e0:n.calls<0\/65<=n.calls\/n.af<0\/65<=n.af\/n.aj<0\/65<=n.aj
 .rw[show n.eV=2 by simp[al.eV,e0]]
  simp;omega
 .have a:=aio n (by rw[o6];omega) (by rw[o6];omega)
  have b:¬n.calls<0:=by omega
  have d:¬n.calls>64:=by omega
  have e:¬n.af<0:=by omega
  have g:¬n.af>64:=by omega
  have h:¬n.aj<0:=by omega
  have i:¬n.aj>64:=by omega
  simp[b,d,e,g,h,i,a]
  repeat' (first|apply And.intro|intro _)
  all_goals (unfold al.eV;rw[aa e0];repeat (first|rw[ab (by assumption)]|rw[aa (by assumption)]|rw[aa (by omega)]))
theorem aiq (n:al) (h:n.fits) (s:Int) (l:0<=s) (y:s<n.call.length) (z:s<n.push.length) (F:s<n.inner.length) (C:s<n.pop.length):PC G4 [n.av,.int s]=some (.int (n.dO s)):=by
 refine bP (agf rfl ?_);have W:=h.call _ (aO l y);have X:=h.push _ (aO l z);have Y:=h.inner _ (aO l F);have T:=h.pop _ (aO l C);simp[l,y,z,F,C];refine⟨λp=>⟨λu=>⟨λw=>⟨λA=>?_,λA=>by simp[al.dO,A]⟩,λw=>by simp[al.dO,w]⟩,λu=>by simp[al.dO,u]⟩,λp=>by simp[al.dO,p]⟩
 refine aM (λi:Int=>[(3,.int i)]) (λ_=>[]) (λi=>0<=i/\i<=n.calls/\(∀j,0<=j->j<i->gD n.accept.length (ix (ix n.call s) j)=false)/\∀j,0<=j->j<i->gD n.stack (ix (ix n.push s) j)=false) (λi=>(n.calls-i).toNat) 0 rfl ⟨by omega,by omega,kH,kH⟩ λi ⟨D,i1,J,K⟩=>?_
 by_cases L:i<n.calls
 .have B:=HA n (ix (ix n.call s) i)
  simp[L,B,l,y,z,D,p,u];have q:bad (ix n.call s) n.accept.length=true\/bad (ix n.push s) n.stack=true\/bad (ix n.inner s) n.accept.length=true->2=n.dO s:=λG=>by simp[al.dO,p,u,w,A,G]
  refine⟨λd=>q (.inl (rP D (by omega) d)),λd=>⟨λm=>q (.inr (.inl (rP D (by omega) (by simp[gD,m])))),λm=>⟨λH=>q (.inr (.inl (rP D (by omega) (by simp[gD,H])))),λH=>⟨by omega,⟨by omega,by omega,gC d J,gC (Hx.2 ⟨m,H⟩) K⟩,by omega⟩⟩⟩⟩
 simp[L];have b1:=uu (xs:=ix n.call s) λj a b=>J j a (by omega)
 have U:=uu (xs:=ix n.push s) λj a b=>K j a (by omega)
 refine aM (λi:Int=>[(4,.int i)]) (λ_=>[]) (λi=>0<=i/\i<=n.af/\(∀j,0<=j->j<i->gD n.accept.length (ix (ix n.inner s) j)=false)) (λi=>(n.af-i).toNat) 0 rfl ⟨by omega,by omega,kH⟩ λM ⟨N,Z,O⟩=>?_
 by_cases P:M < n.af
 .have B:=HA n (ix (ix n.inner s) M)
  simp[P,B,l,F,N,w];have q:bad (ix n.inner s) n.accept.length=true->2=n.dO s:=λG=>by simp[al.dO,p,u,w,A,G]
  exact⟨λd=>q (rP N (by omega) d),λd=>⟨by omega,⟨by omega,by omega,gC d O⟩,by omega⟩⟩
 simp[P];have V:=uu (xs:=ix n.inner s) λj a b=>O j a (by omega)
 have e:n.dO s=eO (λg=>n.iQ (ix (ix n.pop s) g)) (ix n.pop s).length:=by simp[al.dO,p,u,w,A,b1,U,V]
 rw[e];refine aM (λi:Int=>[(5,.int i)]) (λ_=>[]) (λi=>0<=i/\i<=(ix n.pop s).length/\∀j,0<=j->j<i->n.iQ (ix (ix n.pop s) j)=0) (λi=>((ix n.pop s).length-i).toNat) 0 rfl (by simp;omega) λg ⟨E,g1,I⟩=>?_
 have q:g<(ix n.pop s).length->∀{x:Int},n.iQ (ix (ix n.pop s) g)=x->x ≠ 0->x=eO (λg=>n.iQ (ix (ix n.pop s) g)) (ix n.pop s).length:=λo x y z=>by subst y;exact(Be (f:=λg=>n.iQ (ix (ix n.pop s) g)) E o z I).symm
 by_cases o:g<(ix n.pop s).length
 .simp[show g<n.stack by omega,o,l,C,E]
  refine⟨λd=>?_,λd=>q o (by simp[al.iQ,d]) (by simp)⟩
  have k5:=T.2 _ (aO E o);refine aM (λi:Int=>[(6,.int i)]) (λ_=>[]) (λi=>0<=i/\i<=n.aj/\(∀j,0<=j->j<i->gD n.accept.length (ix (ix (ix n.pop s) g) j)=false)) (λi=>(n.aj-i).toNat) 0 rfl ⟨by omega,by omega,kH⟩ λr ⟨Q,r1,R⟩=>?_
  by_cases S:r<n.aj
  .have B:=HA n (ix (ix (ix n.pop s) g) r)
   simp[S,B,l,C,E,o,Q,d];exact⟨λm=>q o (by simp[al.iQ,d,rP Q (by omega) m]) (by simp),λm=>⟨by omega,⟨by omega,by omega,gC m R⟩,by omega⟩⟩
  .simp[S]
   exact⟨by omega,⟨by omega,by omega,gC (by simp[al.iQ,d,uu (xs:=ix (ix n.pop s) g) λj a b=>R j a (by omega)]) I⟩,by omega⟩
 .simp[show ¬g<n.stack by omega]
  rw[yd λj a b=>I j a (by omega)]
theorem PO (n:al) (h:n.fits):PC AJ [n.av]=some (.int n.aX):=by
 refine bP (afW rfl ?_);have o:=aip n;simp[o];refine⟨λd=>?_,λd=>Hy rfl d⟩;rw[show n.aX=eO n.dO n.accept.length by simp[al.aX,d]]
 have q:=h.accept;have r:(n.call.length:Int)=n.accept.length/\(n.push.length:Int)=n.accept.length/\(n.inner.length:Int)=n.accept.length/\(n.pop.length:Int)=n.accept.length:=by
  unfold al.eV at d
  (repeat' split at d)<;>omega
 refine aM (λi:Int=>[(3,.int i)]) (λ_=>[]) (λi=>0<=i/\i<=n.accept.length/\∀j,0<=j->j<i->n.dO j=0) (λi=>(n.accept.length-i).toNat) 0 rfl (by simp;omega) λi ⟨m,i1,e⟩=>?_
 by_cases g:i<n.accept.length
 .have p:=aiq n h i m (by omega) (by omega) (by omega) (by omega)
  simp[g,p];exact⟨λl=>⟨by omega,⟨by omega,by omega,gC l e⟩,by omega⟩,λl=>(Be m g l e).symm⟩
 .simp[g]
  rw[yd λj a b=>e j a (by omega)]
def al.zj (n:al) (l x:Int):Int:=if x<n.calls then l+1 else if n.calls+n.af<=x then l-1 else l
def al.jP (n:al) (p:Int×Int×Int) (x:Int):Int×Int×Int:=(n.zj p.1 x,max p.2.1 (n.zj p.1 x),min p.2.2 (n.zj p.1 x))
def al.kI (n:al) (w:List Int):Int×Int×Int:=w.foldl n.jP (0,0,0)
def al.lR (n:al) (w:List Int) (i:Int):Int×Int×Int:=(w.take i.toNat).foldl n.jP (0,0,0)
variable{w:List Int}{i:Int}
theorem vu(a:0<=i) (b:i<w.length):n.lR w (i+1)=n.jP (n.lR w i) (ix w i):=PK a b
theorem PQ:n.lR w 0=(0,0,0):=rfl
theorem PS(h:(w.length:Int)<=i):n.lR w i=n.kI w:=PL h
theorem air(i:Nat) (h:i<=w.length) : -i<=(n.lR w i).1/\(n.lR w i).1<=i/\0<=(n.lR w i).2.1/\(n.lR w i).2.1<=i/\(n.lR w i).2.2<=0/\-i<=(n.lR w i).2.2:=by
 induction i with
 |zero=>simp[PQ]
 |succ i a=>
  have e:=vu (n:=n) (w:=w) (i:=i) (by omega) (by omega)
  have:=a (by omega)
  rw[show((i+1:Nat):Int)=(i:Int)+1 by omega,e]
  simp only[al.jP,al.zj];split<;>(try split)<;>omega
theorem ais(a:0<=i) (b:i<=w.length) : -i<=(n.lR w i).1/\(n.lR w i).1<=i/\0<=(n.lR w i).2.1/\(n.lR w i).2.1<=i/\(n.lR w i).2.2<=0/\-i<=(n.lR w i).2.2:=by
 have:=air (n:=n) (w:=w) i.toNat (by omega)
 rw[show((i.toNat:Nat):Int)=i by omega]at this
 exact this
theorem ait (n:al) (w:List Int) (a:ka (n.calls+n.af)=true) (h:(w.length:Int)<=1000000):PC AU [n.av,iL w]=some (.bF [.int (n.kI w).2.1,.bool (decide ((n.kI w).2.2=0)&&decide ((n.kI w).1=0))]):=by
 refine bP (agm rfl ?_);rw[o6]at a;simp;refine aM (λi:Int=>[(2,.int i),(7,.int (n.lR w i).1),(8,.int (n.lR w i).2.1),(9,.bool (decide ((n.lR w i).2.2=0)))]) (λ_=>[]) (λi=>0<=i/\i<=w.length) (λi=>(w.length-i).toNat) 0 rfl (by simp) λi ⟨b,i1⟩=>?_
 have B:=ais (n:=n) b i1
 by_cases a:i<w.length
 .have e:=vu (n:=n) b a
  simp[a,b,and_assoc];refine⟨λd=>?_,λd=>⟨by omega,by omega,λg=>?_,λg=>?_⟩⟩
  .simp only[e,al.jP,al.zj,ab d]
   (repeat' (first|apply And.intro|intro _))<;>first|trivial|omega
  .simp only[e,al.jP,al.zj,aa (show ¬ix w i<n.calls by omega),ab g]
   (repeat' (first|apply And.intro|intro _))<;>first|trivial|omega
  .simp only[e,al.jP,al.zj,aa (show ¬ix w i<n.calls by omega),aa (show ¬n.calls+n.af<=ix w i by omega)]
   (repeat' (first|apply And.intro|intro _))<;>first|trivial|omega
 .have e:=PS (n:=n) (w:=w) (i:=i) (by omega)
  rw[e]at B ⊢;simp[a];omega
structure al.Ok (n:al):Prop where
 calls:0<=n.calls/\n.calls<=64
 af:0<=n.af/\n.af<=64
 aj:0<=n.aj/\n.aj<=64
 syms:1<=n.calls+n.af+n.aj/\n.calls+n.af+n.aj<=64
 stack:1<=n.stack/\n.stack<=128
 cP:1<=(n.accept.length:Int)/\(n.accept.length:Int)<=128
 start:0<=n.start/\n.start<n.accept.length
 lens:(n.call.length:Int)=n.accept.length/\(n.push.length:Int)=n.accept.length/\(n.inner.length:Int)=n.accept.length/\(n.pop.length:Int)=n.accept.length
 row:∀s,0<=s->s<(n.accept.length:Int)->((ix n.call s).length:Int)=n.calls/\((ix n.push s).length:Int)=n.calls/\((ix n.inner s).length:Int)=n.af/\((ix n.pop s).length:Int)=n.stack
 call:∀s c,0<=s->s<(n.accept.length:Int)->0<=c->c<n.calls->0<=ix (ix n.call s) c/\ix (ix n.call s) c<n.accept.length
 push:∀s c,0<=s->s<(n.accept.length:Int)->0<=c->c<n.calls->0<=ix (ix n.push s) c/\ix (ix n.push s) c<n.stack
 inner:∀s c,0<=s->s<(n.accept.length:Int)->0<=c->c<n.af->0<=ix (ix n.inner s) c/\ix (ix n.inner s) c<n.accept.length
 tD:∀s g,0<=s->s<(n.accept.length:Int)->0<=g->g<n.stack->((ix (ix n.pop s) g).length:Int)=n.aj
 pop:∀s g r,0<=s->s<(n.accept.length:Int)->0<=g->g<n.stack->0<=r->r<n.aj->0<=ix (ix (ix n.pop s) g) r/\ix (ix (ix n.pop s) g) r<n.accept.length
theorem aiu(h:n.eV=0):(0<=n.calls/\n.calls<=64)/\(0<=n.af/\n.af<=64)/\(0<=n.aj/\n.aj<=64)/\(1<=n.calls+n.af+n.aj/\n.calls+n.af+n.aj<=64)/\(1<=n.stack/\n.stack<=128)/\(1<=(n.accept.length:Int)/\(n.accept.length:Int)<=128)/\(0<=n.start/\n.start<n.accept.length)/\(n.call.length:Int)=n.accept.length/\(n.push.length:Int)=n.accept.length/\(n.inner.length:Int)=n.accept.length/\(n.pop.length:Int)=n.accept.length:=by
 unfold al.eV at h;have b:n.accept ≠ []->1<=(n.accept.length:Int):=λh=>by
  have:=l5.2 h;omega
 by_cases a:n.accept=[]
 .simp only[ab a]at h
  (repeat' split at h)<;>omega
 .have:=b a
  simp only[aa a]at h
  (repeat' split at h)<;>omega
variable{s:Int}
theorem aiv(h:n.dO s=0):(((ix n.call s).length:Int)=n.calls/\((ix n.push s).length:Int)=n.calls/\((ix n.inner s).length:Int)=n.af/\((ix n.pop s).length:Int)=n.stack)/\bad (ix n.call s) n.accept.length=false/\bad (ix n.push s) n.stack=false/\bad (ix n.inner s) n.accept.length=false/\∀g,0<=g->g<n.stack->((ix (ix n.pop s) g).length:Int)=n.aj/\bad (ix (ix n.pop s) g) n.accept.length=false:=by
 unfold al.dO at h;split at h
 .simp at h
 rename_i a;split at h
 .simp at h
 rename_i b;simp only[not_or,Classical.not_not,Bool.not_eq_true]at a b;refine⟨a,b.1,b.2.1,b.2.2,λg e i=>?_⟩;have:=Bg.1 h g e (by omega)
 simp only[al.iQ]at this;split at this
 .simp at this
 rename_i c;split at this
 .simp at this
 rename_i d;exact⟨by simpa using c,by simpa using d⟩
theorem og(h:n.aX=0):n.Ok:=by
 have l:n.eV=0:=by
  unfold al.aX at h;split at h
  .rename_i a;exact absurd h a
  .rename_i a;simpa using a
 have o:∀s,0<=s->s<(n.accept.length:Int)->n.dO s=0:=by
  unfold al.aX at h;rw[aa (by simpa using l)]at h
  exact Bg.1 h
 obtain⟨p,q,u,w,x,y,z,A⟩:=aiu l;have R:=λs b d=>aiv (o s b d);exact⟨p,q,u,w,x,y,z,A,λs b d=>(R s b d).1,λs c b d e m=>o8.1 (R s b d).2.1 c e (by have:=(R s b d).1;omega),λs c b d e m=>o8.1 (R s b d).2.2.1 c e (by have:=(R s b d).1;omega),λs c b d e m=>o8.1 (R s b d).2.2.2.1 c e (by have:=(R s b d).1;omega),λs g b d i j=>((R s b d).2.2.2.2 g i j).1,λs g r b d i j B C=>o8.1 ((R s b d).2.2.2.2 g i j).2 r B (by have:=((R s b d).2.2.2.2 g i j).1;omega)⟩
def al.word (n:al) (w:List Int):Prop:=(w.length:Int)<=1024/\∀x∈w,0<=x/\x<n.calls+n.af+n.aj
theorem aiw(h:jO w (n.calls+n.af+n.aj)=0):n.word w:=by
 unfold jO at h
 (repeat' split at h)<;>try(simp at h;done)
 rename_i a b c;exact⟨by omega,λx d=>CT.1 (by simpa using c) x d⟩
theorem aix (n:al) (s c:Int) (a:0<=s) (b:s<n.call.length) (d:s<n.push.length) (e:0<=c) (g:c<(ix n.call s).length) (h:c<(ix n.push s).length):PC rJ [n.av,.int s,.int c]=some (.bF [.int (ix (ix n.call s) c),.int (ix (ix n.push s) c)]):=by
 refine bP (agn rfl ?_);simp[a,b,d,e,g,h]
theorem aiy (n:al) (s c:Int) (a:0<=s) (b:s<n.inner.length) (d:0<=c) (e:c<(ix n.inner s).length):PC rI [n.av,.int s,.int c]=some (.int (ix (ix n.inner s) c)):=by
 refine bP (agp rfl ?_);simp[a,b,d,e]
theorem aiz (n:al) (s g r:Int) (a:0<=s) (b:s<n.pop.length) (d:0<=g) (e:g<(ix n.pop s).length) (h:0<=r) (i:r<(ix (ix n.pop s) g).length):PC rK [n.av,.int s,.int g,.int r]=some (.int (ix (ix (ix n.pop s) g) r)):=by
 refine bP (agq rfl ?_);simp[a,b,d,e,h,i]
def hd (l:List Int):Int:=l.headD 0
variable{l:List Int}
theorem PT:hd (x::l)=x:=rfl
def Bk:Option (List Int×Nat)->List ah
 |none=>[⟨some 1,[.ae],.live⟩]
 |some (xs,k)=>[⟨some 1,[.sl 1 xs.length 0 k],.live⟩,⟨none,xs.map .int,.live⟩]
def iR (x:Int):Option (List Int×Nat)->Option (List Int×Nat)
 |none=>some ([x],1)
 |some (xs,k)=>if xs.length=k then some (xs ++ [x],k+1)else some (xs.set k x,k+1)
def oh:Option (List Int×Nat)->Option (List Int×Nat)
 |none=>none
 |some (xs,k)=>some (xs,k-1)
def yg:Option (List Int×Nat)->List Int
 |none=>[]
 |some (xs,k)=>(xs.take k).reverse
def iS (m:Nat):Option (List Int×Nat)->Prop
 |none=>True
 |some (xs,k)=>k<=xs.length/\k<=m
variable{o:Option (List Int×Nat)}
theorem aiA{m:Nat}(h:iS m o):yg (iR x o)=x::yg o/\iS (m+1) (iR x o):=by
 cases o with
 |none=>simp[iR,yg,iS]
 |some p=>
  obtain⟨xs,k⟩:=p;simp only[iS]at h;simp only[iR];split
  .rename_i e;subst e;exact⟨by simp[yg,fc],by simp[iS];exact h.2⟩
  .rename_i e
   refine⟨?_,by simp[iS];omega⟩
   simp only[yg];rw[k8,List.take_set_of_le (aT k),List.getElem?_set_self (by omega)]
   simp
theorem aiB{m:Nat}(h:iS m o) (a:yg o ≠ []):yg (oh o)=(yg o).tail/\iS m (oh o)/\∃xs k,o=some (xs,k)/\0<k/\k<=xs.length/\ix xs ((k:Int)-1)=hd (yg o):=by
 cases o with
 |none=>exact absurd rfl a
 |some p=>
  obtain⟨xs,k⟩:=p;simp only[iS]at h;have b:0<k:=by
   rcases Nat.eq_zero_or_pos k with rfl|b
   .simp[yg]at a
   .exact b
  obtain⟨k,rfl⟩:∃j,k=j+1:=⟨k-1,by omega⟩
  have e:xs.take (k+1)=xs.take k ++ [xs[k]]:=by
   rw[k8,cO (by omega)];rfl
  refine⟨?_,by simp[oh,iS];omega,xs,k+1,rfl,by omega,by omega,?_⟩
  .show(xs.take k).reverse=((xs.take (k+1)).reverse).tail
   rw[e,List.reverse_append];rfl
  .show _=hd ((xs.take (k+1)).reverse)
   rw[e,show((k+1:Nat):Int)-1=(k:Int)by omega,aG (by omega),List.reverse_append]
   rfl
theorem aiC (x:Int) (o:Option (List Int×Nat)) (h:iS 100000 o):L G7 [.ptr 0 1 0,.int x] (Bk o)=some (.bF [],Bk (iR x o)):=by
 refine nU (ago rfl ?_);cases o with
 |none=>simp[Bk,iR]
 |some p=>
  obtain⟨xs,k⟩:=p;simp only[iS]at h
  by_cases a:xs.length=k
  .simp[Bk,iR,a];omega
  .simp[Bk,iR,a,show k<xs.length by omega];omega
theorem PU (xs:List Int) (k:Nat) (a:0<k) (b:k<=xs.length) (d:k<=100000):L vk [.ptr 0 1 0] (Bk (some (xs,k)))=some (.int (ix xs ((k:Int)-1)),Bk (oh (some (xs,k)))):=by
 refine nU (agr rfl ?_);simp[Bk,oh]
 (repeat' apply And.intro)<;>omega
def al.step (n:al) (p:Int×List Int) (x:Int):Int×List Int:=
 if x<n.calls then(ix (ix n.call p.1) x,ix (ix n.push p.1) x::p.2)
 else if x<n.calls+n.af then(ix (ix n.inner p.1) (x-n.calls),p.2)
 else(ix (ix (ix n.pop p.1) (hd p.2)) (x-n.calls-n.af),p.2.tail)
def al.run (n:al) (s:Int) (w:List Int):Int×List Int:=w.foldl n.step (s,[])
def al.dF (n:al) (s:Int) (w:List Int) (i:Int):Int×List Int:=(w.take i.toNat).foldl n.step (s,[])
theorem PV(a:0<=i) (b:i<w.length):n.dF s w (i+1)=n.step (n.dF s w i) (ix w i):=PK a b
theorem aiD(h:(w.length:Int)<=i):n.dF s w i=n.run s w:=PL h
def al.up (n:al) (w:List Int):Prop:=∀i,0<=i->i<=(w.length:Int)->0<=(n.lR w i).1
theorem aiE(o:0<=i) (p:i<=w.length):(n.kI w).2.2<=(n.lR w i).2.2/\(n.lR w i).2.2<=(n.lR w i).1:=by
 have h:∀j:Nat,j<=w.length->(n.lR w j).2.2<=(n.lR w j).1:=by
  intro j g;cases j with
  |zero=>simp[PQ]
  |succ j=>
   have e:=vu (n:=n) (w:=w) (i:=j) (by omega) (by omega)
   rw[show((j+1:Nat):Int)=(j:Int)+1 by omega,e]
   simp only[al.jP];omega
 have l:∀d j:Nat,j+d=w.length->(n.kI w).2.2<=(n.lR w j).2.2:=by
  intro d
  induction d with
  |zero=>
   intro j g;rw[<-PS (n:=n) (w:=w) (i:=j) (by omega)]
   exact Int.le_refl _
  |succ d m=>
   intro j g;have:=m (j+1) (by omega)
   have e:=vu (n:=n) (w:=w) (i:=j) (by omega) (by omega)
   rw[show((j+1:Nat):Int)=(j:Int)+1 by omega,e]at this
   simp only[al.jP]at this;omega
 have a:=h i.toNat (by omega)
 have b:=l (w.length-i.toNat) i.toNat (by omega)
 rw[show((i.toNat:Nat):Int)=i by omega]at a b
 exact⟨b,a⟩
theorem PW(h:(n.kI w).2.2=0):n.up w:=λi a b=>by
 have:=aiE (n:=n) a b;omega
theorem aiF(p:n.Ok)(B:n.word w) (C:n.up w)(D:0<=s/\s<n.accept.length)(H:0<=i) (I:i<=w.length) :
  (0<=(n.dF s w i).1/\(n.dF s w i).1<n.accept.length)/\((n.dF s w i).2.length:Int)=(n.lR w i).1/\∀g∈(n.dF s w i).2,0<=g/\g<n.stack:=by
 have key:∀j:Nat,j<=w.length->(0<=(n.dF s w j).1/\(n.dF s w j).1<n.accept.length)/\((n.dF s w j).2.length:Int)=(n.lR w j).1/\∀g∈(n.dF s w j).2,0<=g/\g<n.stack:=by
  intro j
  induction j with
  |zero=>intro _;exact⟨D,rfl,by simp[al.dF]⟩
  |succ j E=>
   intro J;obtain⟨a,b,c⟩:=E (by omega)
   have e:=PV (n:=n) (s:=s) (w:=w) (i:=j) (by omega) (by omega)
   have x:=vu (n:=n) (w:=w) (i:=j) (by omega) (by omega)
   have y:=B.2 _ (aO (l:=w) (n:=j) (by omega) (by omega))
   have d:=C (j+1) (by omega) (by omega)
   rw[show((j+1:Nat):Int)=(j:Int)+1 by omega,e,x]
   rw[x]at d;simp only[al.jP,al.zj]at d ⊢;unfold al.step
   by_cases m:ix w j<n.calls
   .rw[ab m]at d ⊢
    rw[ab m];have F:=p.call _ _ a.1 a.2 y.1 m;have G:=p.push _ _ a.1 a.2 y.1 m;refine⟨F,by simp;omega,λg q=>?_⟩
    rcases b5.1 q with rfl|q
    .exact G
    .exact c g q
   rw[aa m]at d ⊢;rw[aa m]
   by_cases z:ix w j<n.calls+n.af
   .rw[ab z]
    rw[aa (show ¬n.calls+n.af<=ix w j by omega)]
    exact⟨p.inner _ _ a.1 a.2 (by omega) (by omega),b,c⟩
   .rw[aa z]
    rw[ab (show n.calls+n.af<=ix w j by omega)]at d ⊢
    have r:(n.dF s w j).2 ≠ []:=λh=>by rw[h]at b;simp at b;omega
    obtain⟨g,l,o⟩:=List.exists_cons_of_ne_nil r;have A:=c g (by rw[o];simp)
    rw[o]at b c ⊢;simp only[PT,List.tail_cons];refine⟨p.pop _ _ _ a.1 a.2 A.1 A.2 (by omega) (by omega),?_,λg' u =>c g' (by simp[u])⟩
    simp at b;omega
 have:=key i.toNat (by omega)
 rw[show((i.toNat:Nat):Int)=i by omega]at this
 exact this
def al.Bm (n:al) (w:List Int):Bool:=decide ((n.kI w).2.2=0)&&decide ((n.kI w).1=0)
def al.syms (n:al):Int:=n.calls+n.af+n.aj
theorem Ok.sum(h:n.Ok):ka (n.calls+n.af)=true/\ka (n.calls+n.af+n.aj)=true:=by
 have:=h.calls;have:=h.af;have:=h.aj;rw[o6,o6];omega
def al.acc (n:al) (w:List Int):Bool×Int:=
 if n.aX ≠ 0 then(false,n.aX)
 else if jO w n.syms ≠ 0 then(false,jO w n.syms)
 else if 64<(n.kI w).2.1 then(false,16)
 else if n.Bm w=false then(false,0)
 else(ix n.accept (n.run n.start w).1,0)
theorem PX(h:n.Bm w=true):(n.kI w).2.2=0/\(n.kI w).1=0:=by simpa[al.Bm]using h
theorem aiG (n:al) (hf:n.fits) (w:List Int) (hl:(w.length:Int)<=9223372036854775807):PC Fg [n.av,iL w]=some (.bF [.bool (n.acc w).1,.int (n.acc w).2]):=by
 refine bP (afY rfl ?_);have e1:=Hz n hf
 by_cases hv:n.aX=0
 case neg=>simp[e1,hv,al.acc]
 have ok:=og hv;have e2:=PM n (Ok.sum ok).1 (Ok.sum ok).2;have e3:PC AT [iL w,.int (n.calls+n.af+n.aj)]=some (.int (jO w n.syms)):=aim w _ hl
 by_cases hw:jO w n.syms=0
 case neg=>simp[e1,hv,e2,e3,hw,al.acc]
 have CQ:=aiw hw;have e4:PC AU [n.av,iL w]=some (.bF [.int (n.kI w).2.1,.bool (n.Bm w)]):=ait n w (Ok.sum ok).1 (by have:=CQ.1;omega)
 by_cases hm:64<(n.kI w).2.1
 .simp[e1,hv,e2,e3,hw,e4,hm,al.acc]
 by_cases hb:n.Bm w=true
 case neg=>simp[e1,hv,e2,e3,hw,e4,hm,hb,al.acc]
 have hu:=PW (PX hb).1;have hs:=ok.start;rw[show n.acc w=(ix n.accept (n.run n.start w).1,0)by simp[al.acc,hv,hw,hm,hb]]
 simp[e1,hv,e2,e3,hw,e4,hm,hb];refine aM (λp:Int×Option (List Int×Nat)=>[(7,.int p.1),(12,.int (n.dF n.start w p.1).1)]) (λp=>Bk p.2) (λp=>(0<=p.1/\p.1<=w.length)/\iS p.1.toNat p.2/\yg p.2=(n.dF n.start w p.1).2) (λp=>(w.length-p.1).toNat) (0,none) (by rfl) ⟨⟨by simp,by simp⟩,by simp[iS],rfl⟩ ?_
 rintro⟨i,o⟩ ⟨⟨i0,i1⟩,h1,h2⟩;dsimp only at i0 i1 h1 h2 ⊢;obtain⟨⟨a0,a1⟩,b,c⟩:=aiF ok CQ hu hs i0 i1
 by_cases hi:i<w.length
 .have e:=PV (n:=n) (s:=n.start) i0 hi
  have hx:=CQ.2 _ (aO i0 hi);have ln:=ok.lens;have rw' :=ok.row _ a0 a1;have hc:=ok.calls;have jY:=ok.af;have PY:=ok.aj;have PZ:=CQ.1;have J4:iS 100000 o:=by
   cases o with
   |none=>trivial
   |some p=>obtain⟨xs,k⟩:=p;simp only[iS]at h1 ⊢;omega
  by_cases c1:ix w i<n.calls
  .have p1:=aiA (x:=ix (ix n.push (n.dF n.start w i).1) (ix w i)) h1
   have e' : n.dF n.start w (i+1)=(ix (ix n.call (n.dF n.start w i).1) (ix w i),ix (ix n.push (n.dF n.start w i).1) (ix w i)::(n.dF n.start w i).2):=by rw[e,al.step,ab c1]
   have q1:=aix n (n.dF n.start w i).1 (ix w i) a0 (by omega) (by omega) hx.1 (by omega) (by omega)
   have q2:=aiC (ix (ix n.push (n.dF n.start w i).1) (ix w i)) o J4;simp[hi,i0,c1,q1,q2,-ag]
   (repeat' apply And.intro)<;>try omega
   refine az (i+1,iR (ix (ix n.push (n.dF n.start w i).1) (ix w i)) o) (by simp[e']) (by simp) ⟨⟨by dsimp only;omega,by dsimp only;omega⟩,?_,?_⟩ (by dsimp only;omega)
   .show iS (i+1).toNat _
    rw[show(i+1).toNat=i.toNat+1 by omega];exact p1.2
   .show _=(n.dF n.start w (i+1)).2
    rw[e', <-h2];exact p1.1
  by_cases c2:ix w i<n.calls+n.af
  .have e' : n.dF n.start w (i+1)=(ix (ix n.inner (n.dF n.start w i).1) (ix w i-n.calls),(n.dF n.start w i).2):=by rw[e,al.step,aa c1,ab c2]
   have q1:=aiy n (n.dF n.start w i).1 (ix w i-n.calls) a0 (by omega) (by omega) (by omega)
   simp[hi,i0,c1,c2,q1,-ag]
   (repeat' apply And.intro)<;>try omega
   refine az (i+1,o) (by simp[e']) (by simp) ⟨⟨by dsimp only;omega,by dsimp only;omega⟩,?_,?_⟩ (by dsimp only;omega)
   .cases o with
    |none=>trivial
    |some p=>obtain⟨xs,k⟩:=p;simp only[iS]at h1 ⊢;omega
   .show _=(n.dF n.start w (i+1)).2
    rw[e'];exact h2
  .have e' : n.dF n.start w (i+1)=(ix (ix (ix n.pop (n.dF n.start w i).1) (hd (n.dF n.start w i).2)) (ix w i-n.calls-n.af),(n.dF n.start w i).2.tail):=by rw[e,al.step,aa c1,aa c2]
   have jg:=hu (i+1) (by omega) (by omega)
   rw[vu i0 hi]at jg;simp only[al.jP,al.zj,aa c1,ab (show n.calls+n.af<=ix w i by omega)]at jg
   have gY:(n.dF n.start w i).2 ≠ []:=λh=>by rw[h]at b;simp at b;omega
   obtain⟨p1,p2,xs,k,rfl,p3,p4,p5⟩:=aiB h1 (by rw[h2];exact gY)
   rw[h2]at p1 p5;have hg:hd (n.dF n.start w i).2∈(n.dF n.start w i).2:=by
    obtain⟨g,l,hgl⟩:=List.exists_cons_of_ne_nil gY;rw[hgl,PT];simp
   have qg:=c _ hg;have d3:=ok.tD _ _ a0 a1 qg.1 qg.2;have q1:=aiz n (n.dF n.start w i).1 (hd (n.dF n.start w i).2) (ix w i-n.calls-n.af) a0 (by omega) qg.1 (by omega) (by omega) (by omega)
   have q2:=PU xs k p3 p4 J4.2;rw[p5]at q2;simp[hi,i0,c1,c2,q1,q2,-ag]
   (repeat' apply And.intro)<;>try omega
   refine az (i+1,oh (some (xs,k))) (by simp[e']) (by simp) ⟨⟨by dsimp only;omega,by dsimp only;omega⟩,?_,?_⟩ (by dsimp only;omega)
   .simp only[oh,iS]at p2 ⊢;omega
   .show _=(n.dF n.start w (i+1)).2
    rw[e'];exact p1
 .rw[aiD (n:=n) (s:=n.start) (w:=w) (i:=i) (by omega)]at a0 a1 ⊢
  simp[hi,a0,a1]
theorem HB:∀{n:Nat}{cs:List AV},cs.length<=n->chunk none n cs=cs
 |0,cs,h=>by
  have:cs=[]:=dM (by omega)
  subst this;rfl
 |n+1,[],h=>rfl
 |n+1,c::cs,h=>by simp only[chunk];rw[HB (by simpa using h)]
theorem P0{a:Type}{f g:a->AV}{v:AV->Option AV}(h:∀x,v (f x)=some (g x)):∀{xs:List a},bI v (xs.map f)=some (xs.map g)
 | []=>rfl
 |x::xs=>by simp only[cJ,bI,h x,P0 h (xs:=xs)]
variable{α:Type}{σ:List ah}{fr:Bool}{k:Nat}{st:eM}
theorem aiH{f g:α->AV}{b n:Nat}{xs:List α}(h:ak σ b=some ⟨none,xs.map f,st⟩) (a:st.eT=true) (d:n=xs.length) (e:∀x,view σ fr k (f x)=some (g x)) :
  view σ fr (k+1) (.sl b n 0 n)=some (.au false (xs.map g)):=by
 subst d;have i:upto σ b xs.length=some ⟨none,xs.map f,st⟩:=by
  unfold upto;rw[h];cases st<;>simp at a ⊢
 unfold view;simp only[i,aE,cY,kF,gq,Nat.mul_one,aT,dt];rw[HB (by simp),P0 e]
structure eI where
 size:Nat
 call:Int->Int->Int×Int
 inner:Int->Int->Int
 pop:Int->Int->Int->Int
 calls:Int
 af:Int
 aj:Int
structure eI.Ok (M:eI):Prop where
 size:(M.size:Int)<=100000
 calls:0<=M.calls/\M.calls<=100000
 af:0<=M.af/\M.af<=100000
 aj:0<=M.aj/\M.aj<=100000
 call:∀s c,0<=s->s<(M.size:Int)->0<=c->c<M.calls->0<=(M.call s c).1/\(M.call s c).1<(M.size:Int)
 inner:∀s i,0<=s->s<(M.size:Int)->0<=i->i<M.af->0<=M.inner s i/\M.inner s i<(M.size:Int)
 pop:∀s c t r,0<=s->s<(M.size:Int)->0<=c->c<M.calls->0<=t->t<(M.size:Int)->0<=r->r<M.aj->0<=M.pop t (M.call s c).2 r/\M.pop t (M.call s c).2 r<(M.size:Int)
inductive fw (M:eI):Int->Int->Prop
 |refl (s:Int):fw M s s
 |aH (s i t:Int):0<=i->i<M.af->fw M (M.inner s i) t->fw M s t
 |call (s c p r t:Int):0<=c->c<M.calls->0<=r->r<M.aj->fw M (M.call s c).1 p->fw M (M.pop p (M.call s c).2 r) t->fw M s t
variable{M:eI}{a b c:Int}
theorem fw.trans(h:fw M a b) (k:fw M b c):fw M a c:=by
 induction h with
 |refl s=>exact k
 |aH s i t h0 h1 _ U=>exact .aH s i c h0 h1 (U k)
 |call s x p r t h0 h1 h2 h3 h4 _ _ U=>exact .call s x p r c h0 h1 h2 h3 h4 (U k)
theorem fw.range(V:M.Ok)(h:fw M a b) (U:0<=a/\a<(M.size:Int)):0<=b/\b<(M.size:Int):=by
 induction h with
 |refl s=>exact U
 |aH s i t h0 h1 _ ih=>exact ih (V.inner s i U.1 U.2 h0 h1)
 |call s x p r t h0 h1 h2 h3 h4 _ J0 te=>
  have hp:=J0 (V.call s x U.1 U.2 h0 h1);exact te (V.pop s x p r U.1 U.2 h0 h1 hp.1 hp.2 h2 h3)
inductive mV (S:Int->Int->Prop):Int->Int->Prop
 |refl (s:Int):mV S s s
 |tail (s t u:Int):mV S s t->S t u->mV S s u
variable{S:Int->Int->Prop}
theorem mV.trans(h:mV S a b) (k:mV S b c):mV S a c:=by
 induction k with
 |refl=>exact h
 |tail t u _ h2 U=>exact .tail a t u U h2
theorem mV.head(h:S a b) (k:mV S b c):mV S a c:=(mV.tail a a b (.refl a) h).trans k
theorem aiI(e:M.Ok){T:Int->Int->Prop}(sound:∀s t,T s t->fw M s t) (z:∀s,0<=s->s<(M.size:Int)->T s s)
  (aH:∀s i t,0<=s->s<(M.size:Int)->0<=i->i<M.af->0<=t->t<(M.size:Int)->T (M.inner s i) t->T s t)
  (cl:∀s c p r t,0<=s->s<(M.size:Int)->0<=c->c<M.calls->0<=p->p<(M.size:Int)->0<=r->r<M.aj->0<=t->t<(M.size:Int)->T (M.call s c).1 p->T (M.pop p (M.call s c).2 r) t->T s t)
   (d:0<=a/\a<(M.size:Int)):T a b↔fw M a b:=by
 refine⟨sound a b,λh=>?_⟩
 induction h with
 |refl s=>exact z s d.1 d.2
 |aH s i t g j m A=>
  have q:=e.inner s i d.1 d.2 g j;have l:=m.range e q;exact aH s i t d.1 d.2 g j l.1 l.2 (A q)
 |call s x p r t g j m w B C o u=>
  have q:=e.call s x d.1 d.2 g j;have n:=B.range e q;have y:=e.pop s x p r d.1 d.2 g j n.1 n.2 m w;have l:=C.range e y;exact cl s x p r t d.1 d.2 g j n.1 n.2 m w l.1 l.2 (o q) (u y)
def rel (m:List (List Bool)) (s t:Int):Prop:=0<=s/\s<m.length/\0<=t/\t<m.length/\ix (ix m s) t=true
variable{j:Int}
theorem HC{l:List Bool}{i:Nat}{x:Bool}(b:0<=j) (a:i<l.length):ix (l.set i x) j=if j=i then x else ix l j:=by
 unfold ix;rw[eE,eE,List.getElem?_set]
 by_cases h:i=j.toNat
 .rw[ab h,ab a,ab (by omega)];rfl
 .rw[aa h,aa (by omega)]
theorem P1{l:List Bool}{i:Nat}(h:i<l.length) (a:ix l i=false):(l.set i true).count false+1=l.count false:=by
 rw[aG h]at a;rw[List.count_set h];simp[a];have:0<l.count false:=List.count_pos_iff.2 (by rw[<-a];exact List.getElem_mem h)
 omega
structure Spr (m:List (List Bool)) (a:Int) (seen:List Bool) (l:List Int):Prop where
 len:seen.length=m.length
 mem:∀t,0<=t->t<(m.length:Int)->(ix seen t=true↔t∈l)
 fb:∀t∈l,0<=t/\t<(m.length:Int)
 star:∀t∈l,mV (rel m) a t
 start:a∈l
 cnt:l.length+seen.count false=m.length
theorem aiJ [Inhabited α]{l m:List α}(a:0<=j) (b:j<l.length):ix (l++m) j=ix l j:=by
 unfold ix;rw[eE,eE,eC (by omega)]
theorem aiK{n:Nat}{x:Bool}(a:0<=j) (b:j<n):ix (List.replicate n x) j=x:=by
 unfold ix;rw[eE,List.getElem?_replicate,ab (by omega)];rfl
variable{m:List (List Bool)}{t:Int}
theorem Spr.more{seen:List Bool}(h:Spr m a seen l) (hs:s∈l) (V:rel m s t) (hn:ix seen t=false):Spr m a (seen.set t.toNat true) (l ++ [t]):=by
 have aiL :=V;obtain⟨_,_,t0,t1,_⟩:=V;have hr:t.toNat<seen.length:=by rw[h.len];omega
 refine⟨by rw[mN];exact h.len,λu u0 u1=>?_,λu U=>?_,λu U=>?_,by simp[h.start],?_⟩
 .rw[HC u0 hr]
  by_cases hut:u=t.toNat
  .rw[ab hut];simp;right;omega
  .rw[aa hut,h.mem u u0 u1];simp;intro;omega
 .rcases dQ.1 U with U|U
  .exact h.fb u U
  .simp at U;subst U;exact⟨t0,t1⟩
 .rcases dQ.1 U with U|U
  .exact h.star u U
  .simp at U;subst U;exact .tail a s u (h.star s hs) aiL
 .have:=P1 hr (by rw[show((t.toNat:Nat):Int)=t by omega];exact hn)
  have:=h.cnt;simp;omega
abbrev P2 (r:List Bool):ah:=⟨none,r.map .bool,.live⟩
abbrev refs (k N:Nat):List AV:=(List.range k).map λi=>AV.sl (2+i) N 0 N
def Bm (box:ah) (N:Nat) (m:List (List Bool)) (rest:List ah):List ah:=box::⟨none,refs m.length N++List.replicate (N-m.length) .ae,.live⟩::(m.map P2++rest)
theorem mc:∀(σ:List ah) (i:Nat),ak σ i=σ[i]?
 | [],i=>by simp[ak]
 |x::r,0=>rfl
 |x::r,i+1=>by simp[ak,mc r i]
theorem tE:∀(σ:List ah) (i:Nat) (B:ah),ar σ i B=σ.set i B
 | [],i,B=>by simp[ar]
 |x::r,0,B=>rfl
 |x::r,i+1,B=>by simp[ar,tE r i B]
variable{N:Nat}
theorem P3(a:0<=s) (b:s<N):ix (List.range N) s=s.toNat:=by
 unfold ix;rw[eE,qi (by omega)];rfl
structure MOk (t:Nat) (v:AV) (M:eI):Prop where
 loc:aI v=true
 wk:Ab.wk v=v
 size:∃f,eA [(jj,jl),(iP,nY)] t=some f/\PC f [v]=some (.int M.size)
 call:∃f,eA [(jj,rJ),(iP,AB)] t=some f/\∀s c,0<=s->s<(M.size:Int)->0<=c->c<M.calls->PC f [v,.int s,.int c]=some (.bF [.int (M.call s c).1,.int (M.call s c).2])
 inner:∃f,eA [(jj,rI),(iP,AA)] t=some f/\∀s i,0<=s->s<(M.size:Int)->0<=i->i<M.af->PC f [v,.int s,.int i]=some (.int (M.inner s i))
 pop:∃f,eA [(jj,rK),(iP,AD),(Fo,vk)] t=some f/\∀s c u r,0<=s->s<(M.size:Int)->0<=c->c<M.calls->0<=u->u<(M.size:Int)->0<=r->r<M.aj->PC f [v,.int u,.int (M.call s c).2,.int r]=some (.int (M.pop u (M.call s c).2 r))
def al.aQ (n:al):eI:=⟨n.accept.length,λs c=>(ix (ix n.call s) c,ix (ix n.push s) c),λs i=>ix (ix n.inner s) i,λs g r=>ix (ix (ix n.pop s) g) r,n.calls,n.af,n.aj⟩
theorem me(h:n.Ok):n.aQ.Ok:=by
 have:=h.cP;have:=h.calls;have:=h.af;have:=h.aj;refine⟨?_,?_,?_,?_,λs c a b d e=>h.call s c a b d e,λs i a b d e=>h.inner s i a b d e,λs c t r a b d e g j l m=>?_⟩<;>simp only[al.aQ]at *<;>try omega
 have q:=h.push s c a b d e;exact h.pop t _ r g j q.1 q.2 l m
def Sq (N:Nat) (m:List (List Bool)):Prop:=m.length=N/\∀r∈m,r.length=N
theorem Sq.row(h:Sq N m)(h0:0<=s) (h1:s<N):(ix m s).length=N:=h.2 _ (aO h0 (by rw[h.1];exact h1))
def qw (m:List (List Bool)) (s u:Int):List (List Bool):=m.set s.toNat ((ix m s).set u.toNat true)
theorem aiM [Inhabited α]{l:List α}{i:Nat}{x:α}(b:0<=j) (a:i<l.length):ix (l.set i x) j=if j=i then x else ix l j:=by
 unfold ix;rw[eE,eE,List.getElem?_set]
 by_cases h:i=j.toNat
 .rw[ab h,ab a,ab (by omega)];rfl
 .rw[aa h,aa (by omega)]
variable{u:Int}
theorem HE(h:Sq N m)(b:0<=s) (d:s<N):Sq N (qw m s u):=by
 refine⟨by rw[qw,mN,h.1],λr a=>?_⟩
 rcases List.mem_or_eq_of_mem_set a with a|rfl
 .exact h.2 r a
 .rw[mN,h.row b d]
theorem HF(h:Sq N m)(l:0<=s) (i:s<N) (n:0<=u) (o:u<N) (d:0<=a) (j:0<=b):ix (ix (qw m s u) a) b=if a=s/\b=u then true else ix (ix m a) b:=by
 unfold qw;rw[aiM d (by rw[h.1];omega)]
 by_cases e:a=s
 .subst e
  rw[ab (by omega),HC j (by rw[h.row d i];omega)]
  by_cases g:b=u
  .rw[ab (by omega),ab ⟨rfl,g⟩]
  .rw[aa (by omega),aa (by simp[g])]
 .rw[aa (by omega),aa (by simp[e])]
theorem P4(h:Sq N m)(d:0<=s) (g:s<N) (i:0<=u) (o:u<N):rel (qw m s u) a b↔rel m a b\/(a=s/\b=u):=by
 have q :=HE (u:=u) h d g;unfold rel;rw[h.1,q.1];constructor
 .rintro⟨j,p,l,b1,n⟩
  rw[HF h d g i o j l]at n
  by_cases e:a=s/\b=u
  .exact .inr e
  .rw[aa e]at n;exact .inl ⟨j,p,l,b1,n⟩
 .rintro(⟨j,p,l,b1,n⟩|⟨rfl,rfl⟩)
  .refine⟨j,p,l,b1,?_⟩
   rw[HF h d g i o j l,n];simp
  .refine⟨d,g,i,o,?_⟩
   rw[HF h d g i o d i];simp
def cf (m:List (List Bool)):Nat:=(m.map λr=>r.count false).sum
theorem P5:∀{l:List Nat}{i:Nat}{x y:Nat},l[i]? = some y->x+1=y->(l.set i x).sum+1=l.sum
 | [],i,x,y,h,_=>by simp at h
 |a::l,0,x,y,h,e=>by simp at h;subst h;simp[List.set];omega
 |a::l,i+1,x,y,h,e=>by
  have:=P5 (l:=l) (i:=i) (x:=x) (y:=y) (by simpa using h) e
  simp only[q8,List.sum_cons];omega
theorem HG(h:Sq N m)(a:0<=s) (b:s<N) (e:0<=u) (g:u<N) (d:ix (ix m s) u=false):cf (qw m s u)+1=cf m:=by
 unfold cf qw;rw[List.map_set];refine P5 (y:=(ix m s).count false) ?_ (P1 (by rw[h.row a b];omega) (by rw[show((u.toNat:Nat):Int)=u by omega];exact d))
 rw[fS,ko a (by rw[h.1];exact b)];rfl
theorem HH(h:Sq N m)(j:0<=s) (l:s<N) (n:0<=u) (o:u<N) (d:ix (ix m s) u=true):qw m s u=m:=by
 have e:(ix m s).set u.toNat true=ix m s:=by
  apply jJ (by simp)
  intro i g a;rw[rh];split
  .rename_i b
   subst b;rw[<-aG a,show((u.toNat:Nat):Int)=u by omega,d]
  .rfl
 unfold qw;rw[e];apply jJ (by simp)
 intro i g a;rw[rh];split
 .rename_i b
  subst b;rw[<-aG a,show((s.toNat:Nat):Int)=s by omega]
 .rfl
def P6 (M:eI) (R:List (List Bool)) (s u:Int):Prop:=∃c p r,(0<=c/\c<M.calls)/\(0<=r/\r<M.aj)/\rel R (M.call s c).1 p/\u=M.pop p (M.call s c).2 r
structure HJ (M:eI) (R:List (List Bool)) (m m' : List (List Bool)) (ch:Bool):Prop where
 sq:Sq M.size m'
 mono:∀s t,rel m s t->rel m' s t
 sound:∀s t,rel m' s t->rel m s t\/P6 M R s t
 no:ch=false->m' = m
 yes:ch=true->cf m' < cf m
 le:cf m' <=cf m
variable{m': List (List Bool)}
theorem HJ.more{R m: List (List Bool)}{ch:Bool}(h:HJ M R m m' ch)(s0:0<=s) (s1:s<(M.size:Int)) (u0:0<=u) (u1:u<(M.size:Int)) (hw:P6 M R s u) :
  HJ M R m (qw m' s u) (ch || !ix (ix m' s) u)/\rel (qw m' s u) s u/\∀a b,rel m' a b->rel (qw m' s u) a b:=by
 have U :=s1;have J5 :=u1;have hr:=λa b=>P4 (a:=a) (b:=b) h.sq s0 U u0 J5;refine⟨⟨HE h.sq s0 U, λa b V=>(hr a b).2 (.inl (h.mono a b V)),λa b V=>?_,λhc=>?_,λhc=>?_,?_⟩,(hr s u).2 (.inr ⟨rfl,rfl⟩),λa b V=>(hr a b).2 (.inl V)⟩
 .rcases(hr a b).1 V with V|⟨rfl,rfl⟩
  .exact h.sound a b V
  .exact .inr hw
 .simp at hc
  rw[HH h.sq s0 U u0 J5 hc.2];exact h.no hc.1
 .by_cases hv:ix (ix m' s) u=true
  .rw[HH h.sq s0 U u0 J5 hv]
   simp[hv]at hc;exact h.yes hc
  .have:=HG h.sq s0 U u0 J5 (by simpa using hv)
   have:=h.le;omega
 .by_cases hv:ix (ix m' s) u=true
  .rw[HH h.sq s0 U u0 J5 hv];exact h.le
  .have:=HG h.sq s0 U u0 J5 (by simpa using hv)
   have:=h.le;omega
theorem Bn{α:Type}{f g:α->AV}{v:AV->Option AV}:∀{xs:List α},(∀x∈xs,v (f x)=some (g x))->bI v (xs.map f)=some (xs.map g)
 | [],_=>rfl
 |x::xs,h=>by
  have e:=Bn (f:=f) (g:=g) (v:=v) (xs:=xs) λy a=>h y (by simp[a])
  simp only[cJ,bI,h x (by simp),e]
theorem Bo{f g:α->AV}{b n:Nat}{xs:List α}(h:ak σ b=some ⟨none,xs.map f,st⟩) (a:st.eT=true) (d:n=xs.length) (e:∀x∈xs,view σ fr k (f x)=some (g x)) :
  view σ fr (k+1) (.sl b n 0 n)=some (.au false (xs.map g)):=by
 subst d;have i:upto σ b xs.length=some ⟨none,xs.map f,st⟩:=by
  unfold upto;rw[h];cases st<;>simp at a ⊢
 unfold view;simp only[i,aE,cY,kF,gq,Nat.mul_one,aT,dt];rw[HB (by simp),Bn e]
theorem aiN:(List.range m.length).map (λi=>bL (ix m (i:Nat)))=m.map bL:=by
 apply jJ (by simp)
 intro i a b;simp at a;simp only[k9,nI,aG a]
def om (M:eI) (T:List (List Bool)) (s t:Int):Prop:=
 (∃i,0<=i/\i<M.af/\ix (ix T (M.inner s i)) t=true)\/
 ∃c p r,(0<=c/\c<M.calls)/\(0<=p/\p<(M.size:Int))/\(0<=r/\r<M.aj)/\ix (ix T (M.call s c).1) p=true/\ix (ix T (M.pop p (M.call s c).2 r)) t=true
theorem aiO (n:al) (e:n.Ok) (T:List (List Bool)) (D:Sq n.accept.length T) (s t:Int) (g:0<=s) (E:s<n.accept.length) (Q:0<=t) (t1:t<n.accept.length) :
  LX L EP [n.av,.au false (T.map bL),.int s,.int t] [] (λv _=>∃b,v = .bool b/\(b=true↔om n.aQ T s t)):=by
 refine ahc rfl ?_;have ln:=e.lens;have Z :=e.row s g E;have hT1:=D.1;have R:=e.calls;have S:=e.af;have U:=e.aj;have jo:=e.cP;have H:s<(n.inner.length:Int):=by omega
 have u:s<(n.call.length:Int):=by omega
 have I:s<(n.push.length:Int):=by omega
 simp;refine aM (λi:Int=>[(4,.int i)]) (λ_=>[]) (λi=>(0<=i/\i<=n.af)/\∀j,0<=j->j<i->ix (ix T (ix (ix n.inner s) j)) t=false) (λi=>(n.af-i).toNat) 0 rfl ⟨⟨by omega,by omega⟩,kH⟩ λi ⟨⟨J,i1⟩,V⟩=>?_
 by_cases F:i<n.af
 .have q:=e.inner s i g E J F
  have rl:=D.row q.1 q.2;simp[-ag,F,J,g,H,q.1,show i<((ix n.inner s).length:Int)by omega,show ix (ix n.inner s) i<(T.length:Int)by omega,Q,show t<((ix T (ix (ix n.inner s) i)).length:Int)by omega]
  refine⟨λd=>.inl ⟨i,J,F,d⟩,λd=>?_⟩
  .refine⟨by omega,az (i+1) rfl rfl ⟨⟨by omega,by omega⟩,gC d V⟩ (by omega)⟩
 simp[-ag,F];refine aM (λi:Int=>[(6,.int i)]) (λ_=>[]) (λc=>(0<=c/\c<=n.calls)/\∀c', 0<=c' ->c' < c->∀p,0<=p->p<(n.accept.length:Int)->ix (ix T (ix (ix n.call s) c')) p=true->∀r,0<=r->r<n.aj->ix (ix T (ix (ix (ix n.pop p) (ix (ix n.push s) c')) r)) t=false) (λi=>(n.calls-i).toNat) 0 rfl ⟨⟨by omega,by omega⟩,kH⟩ λc ⟨⟨o,c1⟩,W⟩=>?_
 by_cases w:c<n.calls
 .have q:=e.call s c g E o w
  have x:=e.push s c g E o w;have rl:=D.row q.1 q.2;have y:c<((ix n.call s).length:Int):=by omega
  have K:c<((ix n.push s).length:Int):=by omega
  simp[-ag,w];refine aM (λi:Int=>[(7,.int i)]) (λ_=>[]) (λp=>(0<=p/\p<=(n.accept.length:Int))/\∀p', 0<=p' ->p' < p->ix (ix T (ix (ix n.call s) c)) p' = true->∀r,0<=r->r<n.aj->ix (ix T (ix (ix (ix n.pop p') (ix (ix n.push s) c)) r)) t=false) (λi=>(n.accept.length-i).toNat) 0 rfl ⟨⟨by omega,by omega⟩,kH⟩ λp ⟨⟨p0,p1⟩,M⟩=>?_
  by_cases l:p<(n.accept.length:Int)
  .have X:p<((ix T (ix (ix n.call s) c)).length:Int):=by omega
   have rwp:=e.row p p0 l
   by_cases d:ix (ix T (ix (ix n.call s) c)) p=true
   .simp[-ag,l,g,u,o,y,q.1,show ix (ix n.call s) c<(T.length:Int)by omega,p0,X,d]
    refine aM (λi:Int=>[(8,.int i)]) (λ_=>[]) (λr=>(0<=r/\r<=n.aj)/\∀z, 0<=z ->z < r->ix (ix T (ix (ix (ix n.pop p) (ix (ix n.push s) c)) z)) t=false) (λi=>(n.aj-i).toNat) 0 rfl ⟨⟨by omega,by omega⟩,kH⟩ λr ⟨⟨N,r1⟩,Y⟩=>?_
    by_cases G:r<n.aj
    .have O:=e.pop p _ r p0 l x.1 x.2 N G
     have lo:=e.tD p _ p0 l x.1 x.2;have rl2:=D.row O.1 O.2;simp[-ag,G,g,I,o,K,p0,N,x.1,Q,O.1,show p<(n.pop.length:Int)by omega,show ix (ix n.push s) c<((ix n.pop p).length:Int)by omega,show r<((ix (ix n.pop p) (ix (ix n.push s) c)).length:Int)by omega,show ix (ix (ix n.pop p) (ix (ix n.push s) c)) r<(T.length:Int)by omega,show t<((ix T (ix (ix (ix n.pop p) (ix (ix n.push s) c)) r)).length:Int)by omega]
     refine⟨λm=>.inr ⟨c,p,r,⟨o,w⟩,⟨p0,l⟩,⟨N,G⟩,d,m⟩,λm=>?_⟩
     .exact⟨by omega,az (r+1) rfl rfl ⟨⟨by omega,by omega⟩,gC m Y⟩ (by omega)⟩
    .simp[-ag,G]
     exact⟨by omega,az (p+1) rfl rfl ⟨⟨by omega,by omega⟩,gC (λ_ z a b=>Y z a (by omega)) M⟩ (by omega)⟩
   .have P : ix (ix T (ix (ix n.call s) c)) p=false:=by simpa using d
    simp[-ag,l,g,u,o,y,q.1,show ix (ix n.call s) c<(T.length:Int)by omega,p0,X,P]
    exact⟨by omega,az (p+1) rfl rfl ⟨⟨by omega,by omega⟩,gC (λh=>absurd h d) M⟩ (by omega)⟩
  .simp[-ag,l]
   exact⟨by omega,az (c+1) rfl rfl ⟨⟨by omega,by omega⟩,gC (λp' a b=>M p' a (by omega)) W⟩ (by omega)⟩
 .simp[-ag,w]
  rintro(⟨i', a,b,d⟩|⟨c', p,r,A, B, C, d,m⟩)
  .have:=V i' a (by simp only[al.aQ]at b;omega)
   simp only[al.aQ]at d;rw[this]at d;simp at d
  .have:=W c' A.1 (by have:=A.2;simp only[al.aQ]at this;omega) p B.1 B.2 d r C.1 C.2
   simp only[al.aQ]at m;rw[this]at m;simp at m
def gU (k N:Nat):List AV:=(List.range k).map λi=>AV.sl (1+i) N 0 N
theorem Bp:(gU k N).length=k:=by simp[gU]
theorem aiP:gU (k+1) N=gU k N ++ [.sl (1+k) N 0 N]:=by simp[gU,gw]
theorem aiQ{K:List AV->Prop}{t:Tk K}:nC (gU k N ++ [.sl (1+k) N 0 N]) K t=K (gU (k+1) N):=by rw[aiP];rfl
theorem P7(a:0<=s) (b:s<k):lQ (gU k N) s.toNat=some (.sl (1+s.toNat) N 0 N):=by
 rw[jM,gU,fS,qi (by omega)]
 rfl
def iC (N:Nat) (m:List (List Bool)):List ah:=⟨none,gU m.length N,lE m⟩::m.map P2
theorem aiR:(iC N m).length=1+m.length:=by simp[iC];omega
theorem HK:ak (iC N m) 0=some ⟨none,gU m.length N,lE m⟩:=rfl
theorem aiS{B:ah}:ak (iC N m ++ [B]) 0=some ⟨none,gU m.length N,lE m⟩:=rfl
theorem HL(a:0<=s) (b:s<m.length):ak (iC N m) (1+s.toNat)=some ⟨none,(ix m s).map .bool,.live⟩:=by
 rw[mc,iC,show 1+s.toNat=s.toNat+1 by omega,nH,fS,ko a b]
 rfl
variable{r:List Bool}
theorem P8(a:0<=s) (b:s<m.length):ar (iC N m) (1+s.toNat) ⟨none,r.map .bool,.live⟩=iC N (m.set s.toNat r):=by
 rw[tE,iC,iC,show 1+s.toNat=s.toNat+1 by omega,q8]
 simp[List.map_set]
theorem aiT:ar (iC N m ++ [⟨none,r.map .bool,.live⟩]) 0 ⟨none,gU (m.length+1) N,.live⟩=iC N (m ++ [r]):=by
 rw[tE,iC,iC];simp
theorem P9(h:Sq N m) (b:0<N):view (iC N m) fr vd (.sl 0 N 0 N)=some (.au false (m.map bL)):=by
 obtain⟨d,j⟩:=h;subst d;rw[<-aiN];have a:lE m = .live:=by cases m with
  |nil=>simp at b
  |cons=>rfl
 refine Bo (k:=11) (f:=λi=>AV.sl (1+i) m.length 0 m.length) (g:=λi=>bL (ix m (i:Nat))) (xs:=List.range m.length) (st:=.live) (by rw[HK,a];rfl) (by simp) (by simp) λi l=>?_
 simp at l;have e:=HL (N:=m.length) (m:=m) (s:=(i:Int)) (by omega) (by omega)
 rw[je]at e;exact aiH (k:=10) (f:=AV.bool) e (by simp) (j _ (aO (by omega) (by omega))).symm λ_=>rfl
structure Gw (M:eI) (m m' : List (List Bool)) (ch:Bool):Prop where
 sq:Sq M.size m'
 mono:∀s t,rel m s t->rel m' s t
 sound:∀s t,rel m' s t->fw M s t
 no:ch=false->m' = m
 yes:ch=true->cf m' < cf m
theorem aiU(d:M.Ok){T:List (List Bool)}(n:Sq M.size T) (sound:∀s t,rel T s t->fw M s t)(e:0<=s) (g:s<(M.size:Int)) (l:0<=t) (x:t<(M.size:Int)) (h:om M T s t):fw M s t:=by
 have y:=n.1;rcases h with⟨i,m,i1,h⟩|⟨c,p,r,a,j,b,o,u⟩
 .have q:=d.inner s i e g m i1
  exact .aH s i t m i1 (sound _ _ ⟨q.1,by omega,l,by omega,h⟩)
 .have q:=d.call s c e g a.1 a.2
  have w:=d.pop s c p r e g a.1 a.2 j.1 j.2 b.1 b.2;exact .call s c p r t a.1 a.2 b.1 b.2 (sound _ _ ⟨q.1,by omega,j.1,by omega,o⟩) (sound _ _ ⟨w.1,by omega,l,by omega,u⟩)
theorem aiV (n:al) (hn:n.Ok):LX L AZ [n.av] [] (λv τ=>∃R:List (List Bool),bV τ false v=some (.au false (R.map bL))/\Sq n.accept.length R/\∀s u,0<=s->s<(n.accept.length:Int)->0<=u->u<(n.accept.length:Int)->(ix (ix R s) u=true↔fw n.aQ s u)):=by
 have hM:=me hn;have jo:=hn.cP;refine agQ rfl ?_;simp;refine aM (λp:Int×List (List Bool)=>[(1,.int p.1),(3,.sl 0 p.2.length 0 p.2.length)]) (λp=>iC n.accept.length p.2)
  (λp=>(0<=p.1/\p.1<=(n.accept.length:Int))/\(p.2.length:Int)=p.1/\(∀r∈p.2,r.length=n.accept.length)/\∀s u,0<=s->s<p.1->0<=u->u<(n.accept.length:Int)->(ix (ix p.2 s) u=true↔s=u))
  (λp=>(n.accept.length-p.1).toNat) (0,[]) rfl ⟨by simp,by simp,by simp,λs u d o=>by simp at o;omega⟩ ?_
 rintro⟨s,m⟩ ⟨⟨d,o⟩,h1,U,h3⟩;dsimp only at d o h1 U h3 ⊢
 by_cases hs:s<(n.accept.length:Int)
 .have y:=P7 (N:=n.accept.length) (k:=m.length+1) (s:=s) d (by omega)
  have q:=HL (N:=n.accept.length) (m:=m ++ [List.replicate n.accept.length false]) d (by simp;omega)
  have I:=λr=>P8 (N:=n.accept.length) (m:=m ++ [List.replicate n.accept.length false]) (r:=r) d (by simp;omega)
  have xF:ix (m ++ [List.replicate n.accept.length false]) s=List.replicate n.accept.length false:=by
   unfold ix;rw[show s.toNat=m.length by omega,eE,eK (aT _)];simp
  have V:∀r,(m ++ [List.replicate n.accept.length false]).set s.toNat r=m ++ [r]:=λr=>by rw[show s.toNat=m.length by omega,List.set_append,aa (by omega)];simp
  rw[xF]at q;simp[-ag,-List.map_replicate,-List.map_set,-List.map_append,hs,d,aiR,aiS,HK,Bp,aiQ,aiT,y,q,I,V]
  (repeat' apply And.intro)<;>try omega
  refine az (s+1,m ++ [(List.replicate n.accept.length false).set s.toNat true]) (by simp) rfl ⟨⟨by dsimp only;omega,by dsimp only;omega⟩,by dsimp only;simp;omega,?_,?_⟩ (by dsimp only;omega)
  .intro r w
   rcases dQ.1 w with w|w
   .exact U r w
   .simp at w;subst w;simp
  .dsimp only
   intro s' u W s1' X u1
   by_cases e:s' = s
   .subst e
    rw[show ix (m ++ [(List.replicate n.accept.length false).set s'.toNat true]) s' = (List.replicate n.accept.length false).set s'.toNat true by
     unfold ix;rw[show s'.toNat=m.length by omega,eE,eK (aT _)];simp]
    rw[HC X (by simp;omega),aiK X (by omega)]
    by_cases J:u=s'.toNat
    .rw[ab J];simp;omega
    .rw[aa J];simp;omega
   .rw[aiJ W (by omega)]
    exact h3 s' u W (by omega) X u1
 .have z:m.length=n.accept.length:=by omega
  have hsq:Sq n.accept.length m:=⟨z,U⟩;simp[-ag,hs];refine aM (λp:Bool×List (List Bool)×AV×AV=>[(4,.bool p.1),(5,p.2.2.1),(6,p.2.2.2)]) (λp=>iC n.accept.length p.2.1)
   (λp=>Sq n.accept.length p.2.1/\(∀a b,rel m a b->rel p.2.1 a b)/\(∀a b,rel p.2.1 a b->fw n.aQ a b)/\(p.1=false->∀s t,0<=s->s<(n.accept.length:Int)->0<=t->t<(n.accept.length:Int)->om n.aQ p.2.1 s t->rel p.2.1 s t))
   (λp=>2*cf p.2.1+if p.1=true then 1 else 0) (true,m,.aF,.aF) (by simp[a8]) ⟨hsq,λ_ _ h=>h,λa b w=>?_,by simp⟩ ?_
  .dsimp only at w
   have:=(h3 a b w.1 (by have:=w.2.1;omega) w.2.2.1 (by have:=w.2.2.2.1;omega)).1 w.2.2.2.2
   subst this;exact .refl _
  rintro⟨ch,Y,x5,x6⟩ ⟨Z,k2,k3,k4⟩;dsimp only at Z k2 k3 k4 ⊢;cases ch with
  |false=>
   simp[-ag];refine⟨Y,?_,Z,λs u d o X u1=>?_⟩
   .rw[z];exact P9 Z (by omega)
   .have hl:=Z.1
    have key:=aiI (M:=n.aQ) hM (T:=rel Y) k3 (λs d o=>k2 _ _ ⟨d,by simp only[al.aQ]at o;omega,d,by simp only[al.aQ]at o;omega,(h3 s s d (by simp only[al.aQ]at o;omega) d (by simp only[al.aQ]at o;omega)).2 rfl⟩)
     (λs i t d o l i1 K Q h=>k4 rfl s t d o K Q (.inl ⟨i,l,i1,h.2.2.2.2⟩))
     (λs c p r t d o c0 c1 p0 p1 r0 r1 K Q h h' =>k4 rfl s t d o K Q (.inr ⟨c,p,r,⟨c0,c1⟩,⟨p0,p1⟩,⟨r0,r1⟩,h.2.2.2.2,h'.2.2.2.2⟩)) (a:=s) (b:=u) ⟨d,o⟩
    rw[<-key];exact⟨λh=>⟨d,by omega,X,by omega,h⟩,λh=>h.2.2.2.2⟩
  |true=>
   simp[-ag];refine aM (λp:Int×List (List Bool)×Bool×AV=>[(5,.int p.1),(4,.bool p.2.2.1),(6,p.2.2.2)]) (λp=>iC n.accept.length p.2.1)
    (λp=>(0<=p.1/\p.1<=(n.accept.length:Int))/\Gw n.aQ Y p.2.1 p.2.2.1/\(p.2.2.1=false->∀s,0<=s->s<p.1->∀t,0<=t->t<(n.accept.length:Int)->om n.aQ p.2.1 s t->rel p.2.1 s t))
    (λp=>(n.accept.length-p.1).toNat) (0,Y,false,x6) (by simp[a8]) ⟨⟨by simp,by simp⟩,⟨Z,λ_ _ h=>h,k3,λ_=>rfl,by simp⟩,λ_=>kH⟩ ?_
   rintro⟨i,m2,B,y6⟩ ⟨⟨l,i1⟩,G,g2⟩;dsimp only at l i1 G g2 ⊢
   by_cases A:i<(n.accept.length:Int)
   .simp[-ag,A]
    refine aM (λp:Int×List (List Bool)×Bool=>[(6,.int p.1),(4,.bool p.2.2)]) (λp=>iC n.accept.length p.2.1)
     (λp=>(0<=p.1/\p.1<=(n.accept.length:Int))/\Gw n.aQ Y p.2.1 p.2.2/\(p.2.2=false->B=false/\∀t,0<=t->t<p.1->om n.aQ p.2.1 i t->rel p.2.1 i t))
     (λp=>(n.accept.length-p.1).toNat) (0,m2,B) (by simp[a8]) ⟨⟨by simp,by simp⟩,G,λh=>⟨h,kH⟩⟩ ?_
    rintro⟨j,x,C⟩ ⟨⟨D,j1⟩,g,S⟩;dsimp only at D j1 g S ⊢
    by_cases H:j<(n.accept.length:Int)
    .have E:=g.sq.1
     have F:=g.sq.row l A;simp only[al.aQ]at E F;have gY:x ≠ []:=λh=>by rw[h]at E;simp at E;omega
     have y:=P7 (N:=n.accept.length) (k:=n.accept.length) (s:=i) l (by omega)
     have q:=HL (N:=n.accept.length) (m:=x) l (by omega)
     have I:=λr=>P8 (N:=n.accept.length) (m:=x) (r:=r) l (by omega)
     have Dq:∀m', m'.length=n.accept.length->ak (iC n.accept.length m') 0=some ⟨none,gU n.accept.length n.accept.length,.live⟩:=λm' h=>by
      rw[HK,h];cases m' with
      |nil=>simp at h;omega
      |cons=>rfl
     have O:=Dq x E;have P:rel x i j↔ix (ix x i) j=true:=⟨λh=>h.2.2.2.2,λh=>⟨l,by omega,D,by omega,h⟩⟩
     cases hx:ix (ix x i) j with
     |true=>
      simp[-ag,-List.map_set,A,H,l,D,O,Bp,y,q,hx,z,F]
      (repeat' apply And.intro)<;>try omega
      exact az (j+1,x,C) (by simp) rfl ⟨⟨by dsimp only;omega,by dsimp only;omega⟩,g,λh=>⟨(S h).1,gC (λ_=>P.2 hx) (S h).2⟩⟩ (by dsimp only;omega)
     |false=>
      obtain⟨vv,cG, e1,b,rfl,J⟩:=dh (aiO n hn x g.sq i j l A D H);have hvm:=P9 (fr:=false) (show Sq n.accept.length x from g.sq) (by omega)
      cases b with
      |false=>
       simp[-ag,-List.map_set,A,H,l,D,O,Bp,y,q,hx,z,F,hvm,e1]
       (repeat' apply And.intro)<;>try omega
       exact az (j+1,x,C) (by simp) rfl ⟨⟨by dsimp only;omega,by dsimp only;omega⟩,g,λh=>⟨(S h).1,gC (λhh=>by simpa using J.2 hh) (S h).2⟩⟩ (by dsimp only;omega)
      |true=>
       have hJ:=J.1 rfl;simp[-ag,-List.map_set,A,H,l,D,O,Bp,y,q,hx,z,F,hvm,e1,I,show j.toNat<n.accept.length by omega]
       (repeat' apply And.intro)<;>try omega
       have aiW:=HE (u:=j) g.sq l A;have hur:=λa b=>P4 (a:=a) (b:=b) g.sq l A D H;have DI:=HG g.sq l A D H hx;refine az (j+1,qw x i j,true) (by simp) (by simp[qw]) ⟨⟨by dsimp only;omega,by dsimp only;omega⟩,⟨aiW,λa b h=>(hur a b).2 (.inl (g.mono a b h)),λa b h=>?_,by simp,λ_=>?_⟩,by simp⟩ (by dsimp only;omega)
       .rcases(hur a b).1 h with h|⟨rfl,rfl⟩
        .exact g.sound a b h
        .exact aiU hM g.sq g.sound l A D H hJ
       .dsimp only
        cases C with
        |true=>have:=g.yes rfl;omega
        |false=>have:=g.no rfl;subst this;omega
    .simp[-ag,H]
     refine⟨by omega,?_⟩
     refine az (i+1,x,C,.aF) (by simp) rfl ⟨⟨by dsimp only;omega,by dsimp only;omega⟩,g,λh=>?_⟩ (by dsimp only;omega)
     dsimp only at h ⊢;obtain⟨h1,U⟩:=S h;have e3:=g.no h;have J:=G.no h1;subst e3;subst J;exact gC (λt K Q hJ=>U t K (by omega) hJ) (g2 h1)
   .simp[-ag,A]
    refine az (B,m2,_,_) rfl rfl ⟨G.sq,λa b h=>G.mono a b (k2 a b h),G.sound,λh s t d o K Q hJ=>g2 h s d (by omega) t K Q hJ⟩ ?_
    dsimp only;cases B with
    |true=>have:=G.yes rfl;simp;omega
    |false=>have:=G.no rfl;subst this;simp
noncomputable def oo (M:eI):List (List Bool):=by
 classical
 exact(List.range M.size).map λs=>(List.range M.size).map λt=>decide (fw M (s:Nat) (t:Nat))
theorem Qa:Sq M.size (oo M):=by
 constructor
 .simp[oo]
 .intro r a
  simp only[oo,cB]at a;obtain⟨s,_,rfl⟩:=a;simp
theorem HM(b:0<=s) (d:s<(M.size:Int)) (e:0<=t) (g:t<(M.size:Int)):ix (ix (oo M) s) t=true↔fw M s t:=by
 have a:ix (oo M) s=(List.range M.size).map λu=>by classical exact decide (fw M (s.toNat:Nat) (u:Nat)):=by
  unfold ix oo;rw[eE,fS,qi (by omega)]
  rfl
 rw[a];unfold ix;rw[eE,fS,qi (by omega)]
 simp[show((s.toNat:Nat):Int)=s by omega,show((t.toNat:Nat):Int)=t by omega]
theorem aiX{m: List (List Bool)}(h:Sq N m) (b : Sq N m') (e:∀s t,0<=s->s<(N:Int)->0<=t->t<(N:Int)->(ix (ix m s) t=true↔ix (ix m' s) t=true)):m=m' :=by
 refine tz (by rw[h.1,b.1]) λi a i1=>?_
 have g:=h.1;have:=h.row a (by omega)
 have:=b.row a (by omega)
 refine tz (by omega) λj d l=>?_
 rw[kY];exact e i j a (by omega) d (by omega)
theorem aiY{R:List (List Bool)}(h:Sq M.size R) (g:∀s u,0<=s->s<(M.size:Int)->0<=u->u<(M.size:Int)->(ix (ix R s) u=true↔fw M s u)):R=oo M:=
 aiX h Qa λs t a b d e=>by rw[g s t a b d e,HM a b d e]
theorem aiZ (n:al) (a:n.Ok):PC AZ [n.av]=some (.au false ((oo n.aQ).map bL)):=by
 refine bP ?_;obtain⟨i, b, d,R,e,g,h⟩:=dh (aiV n a);refine uj d ?_;rw[e,aiY (M:=n.aQ) g h];simp
inductive Wd (M:eI):Int->Int->List Int->Prop
 |nil (s:Int):Wd M s s []
 |aH (s i t:Int) (w:List Int):0<=i->i<M.af->Wd M (M.inner s i) t w->Wd M s t ((M.calls+i)::w)
 |call (s c p r t:Int) (u v:List Int):0<=c->c<M.calls->0<=r->r<M.aj->Wd M (M.call s c).1 p u->Wd M (M.pop p (M.call s c).2 r) t v->Wd M s t (c::(u++(M.calls+M.af+r)::v))
variable{v:List Int}
theorem Wd.app{u:List Int}(h:Wd M a b u) (k:Wd M b c v):Wd M a c (u++v):=by
 induction h with
 |nil s=>exact k
 |aH s i t w h0 h1 _ U=>exact .aH s i c _ h0 h1 (U k)
 |call s x p r t u v h0 h1 h2 h3 h4 _ _ U=>
  have:=Wd.call s x p r c u _ h0 h1 h2 h3 h4 (U k);simpa using this
theorem Wd.conn{u:List Int}(h:Wd M a b u):fw M a b:=by
 induction h with
 |nil s=>exact .refl s
 |aH s i t w h0 h1 _ ih=>exact .aH s i t h0 h1 ih
 |call s x p r t u v h0 h1 h2 h3 _ _ U V=>exact .call s x p r t h0 h1 h2 h3 U V
theorem fw.wd(h:fw M a b):∃u,Wd M a b u:=by
 induction h with
 |refl s=>exact⟨[],.nil s⟩
 |aH s i t h0 h1 _ ih=>obtain⟨u,U⟩:=ih;exact⟨_,.aH s i t u h0 h1 U⟩
 |call s x p r t h0 h1 h2 h3 _ _ V te=>
  obtain⟨u,U⟩:=V;obtain⟨v,hv⟩:=te;exact⟨_,.call s x p r t u v h0 h1 h2 h3 U hv⟩
def eI.step (M:eI) (p:Int×List Int) (x:Int):Int×List Int:=
 if x<M.calls then((M.call p.1 x).1,(M.call p.1 x).2::p.2)
 else if x<M.calls+M.af then(M.inner p.1 (x-M.calls),p.2)
 else(M.pop p.1 (hd p.2) (x-M.calls-M.af),p.2.tail)
def mt (a b:Int):Nat->List Int->Bool
 |d,[]=>d==0
 |d,x::w=>if x<a then mt a b (d+1) w else if x<a+b then mt a b d w else match d with
  |0=>false
  |d+1=>mt a b d w
inductive Fr (M:eI) (s:Int):List Int->List Int->Int->Prop
 |base (w:List Int) (q:Int):Wd M s q w->Fr M s w [] q
 |open_ (w:List Int) (st:List Int) (p c q:Int) (v:List Int):Fr M s w st p->0<=c->c<M.calls->Wd M (M.call p c).1 q v->Fr M s (w++c::v) ((M.call p c).2::st) q
theorem Fr.ext{s q U : Int}{st:List Int}(h:Fr M s w st q) (k:Wd M q U v):Fr M s (w++v) st U :=by
 cases h with
 |base _ _ h=>exact .base _ _ (h.app k)
 |open_ w st p c _ u h V c1 hu=>
  have:=Fr.open_ w st p c U _ h V c1 (hu.app k);simpa using this
theorem Fr.run{M:eI}{s:Int}{n:Int}(hn:n=M.calls+M.af+M.aj):∀{u w st:List Int}{q:Int},Fr M s w st q->(∀x∈u,0<=x/\x<n)->mt M.calls M.af st.length u=true->Wd M s (u.foldl M.step (q,st)).1 (w++u)/\(u.foldl M.step (q,st)).2=[]
 | [],w,st,q,h,_,U=>by
  have jo:st=[]:=by simpa[mt]using U
  subst jo;cases h with
  |base _ _ h=>exact⟨by simpa using h,rfl⟩
 |x::u,w,st,q,h,hx,U=>by
  have x0:=hx x (by simp)
  have V : ∀y∈u,0<=y/\y<n:=λy hy=>hx y (by simp[hy])
  simp only[mt]at U;simp only[l0,eI.step]
  by_cases c1:x<M.calls
  .rw[ab c1]at U ⊢
   have:=Fr.run hn (Fr.open_ w st q x _ [] h x0.1 c1 (.nil _)) V U;simpa using this
  .rw[aa c1]at U ⊢
   by_cases c2:x<M.calls+M.af
   .rw[ab c2]at U ⊢
    have k:=Wd.aH (M:=M) q (x-M.calls) _ [] (by omega) (by omega) (.nil _)
    rw[show M.calls+(x-M.calls)=x by omega]at k
    have:=Fr.run hn (h.ext k) V U;simpa using this
   .rw[aa c2]at U ⊢
    cases h with
    |base _ _ h=>simp at U
    |open_ w st p c _ v h c0 c1 hv=>
     simp only[bX]at U;have k:=Wd.call (M:=M) p c q (x-M.calls-M.af) _ v [] c0 c1 (by omega) (by omega) hv (.nil _)
     rw[show M.calls+M.af+(x-M.calls-M.af)=x by omega]at k
     have:=Fr.run hn (h.ext k) V U;simpa[hd]using this
theorem Wd.run(hM:0<=M.calls/\0<=M.af/\0<=M.aj)(h:Wd M s t w):(∀x∈w,0<=x/\x<M.calls+M.af+M.aj)/\(∀d rest,mt M.calls M.af d (w++rest)=mt M.calls M.af d rest)/\∀st rest,(w++rest).foldl M.step (s,st)=rest.foldl M.step (t,st):=by
 induction h with
 |nil s=>exact⟨by simp,λ_ _=>rfl,λ_ _=>rfl⟩
 |aH s i t w h0 h1 _ ih=>
  obtain⟨a,b,c⟩:=ih;refine⟨λx hx=>?_,λd rest=>?_,λst rest=>?_⟩
  .rcases b5.1 hx with rfl|hx
   .omega
   .exact a x hx
  .simp only[jI,mt]
   rw[aa (by omega),ab (by omega),b]
  .simp only[jI,l0,eI.step]
   rw[aa (by omega),ab (by omega),show M.calls+i-M.calls=i by omega,c]
 |call s x p r t u v h0 h1 h2 h3 _ _ V te=>
  obtain⟨a,b,c⟩:=V;obtain⟨a', b', c'⟩:=te;refine⟨λy U=>?_,λd rest=>?_,λst rest=>?_⟩
  .simp only[b5,dQ]at U
   rcases U with rfl|U|rfl|U
   .omega
   .exact a y U
   .omega
   .exact a' y U
  .simp only[jI,iw,mt]
   rw[ab h1,b];simp only[mt];rw[aa (by omega),aa (by omega),b']
  .simp only[jI,iw,l0,eI.step]
   rw[ab h1,c];simp only[l0,eI.step];rw[aa (by omega),aa (by omega),show M.calls+M.af+r-M.calls-M.af=r by omega]
   exact c' st rest
theorem qx(d:0<=M.calls/\0<=M.af/\0<=M.aj):Wd M s t w↔(∀x∈w,0<=x/\x<M.calls+M.af+M.aj)/\mt M.calls M.af 0 w=true/\(w.foldl M.step (s,[])).1=t:=by
 constructor
 .intro h
  obtain⟨a,b,c⟩:=h.run d;refine⟨a,?_,?_⟩
  .have:=b 0 []
   simpa[mt]using this
  .have:=c [] []
   simp at this;rw[this]
 .rintro⟨a,b,rfl⟩
  have:=Fr.run (M:=M) rfl (u:=w) (.base [] s (.nil s)) a b;simpa using this.1
theorem Br{n:al}:∀{w:List Int}{d:Nat}{mx mn:Int},mn<=0->(mt n.calls n.af d w=true/\mn=0↔(w.foldl n.jP ((d:Int),mx,mn)).2.2=0/\(w.foldl n.jP ((d:Int),mx,mn)).1=0)
 | [],d,mx,mn,h=>by
  simp[mt];omega
 |x::w,d,mx,mn,h=>by
  simp only[mt,l0,al.jP,al.zj]
  by_cases a:x<n.calls
  .rw[ab a,ab a,show min mn ((d:Int)+1)=mn by omega]
   have:=Br (n:=n) (w:=w) (d:=d+1) (mx:=max mx ((d:Int)+1)) h;rw[show(((d+1:Nat)):Int)=(d:Int)+1 by omega]at this
   exact this
  .rw[aa a,aa a]
   by_cases b:x<n.calls+n.af
   .rw[ab b,aa (by omega),show min mn (d:Int)=mn by omega]
    exact Br (w:=w) (d:=d) h
   .rw[aa b,ab (by omega)]
    cases d with
    |succ d=>
     rw[show((d+1:Nat):Int)-1=(d:Int)by omega,show min mn (d:Int)=mn by omega]
     exact Br (w:=w) (d:=d) h
    |zero=>
     simp only[eo,false_and,false_iff,not_and];intro g;have:∀(w:List Int) (p:Int×Int×Int),(w.foldl n.jP p).2.2<=p.2.2:=by
      intro w
      induction w with
      |nil=>intro p;exact Int.le_refl _
      |cons y w e=>
       intro p;have:=e (n.jP p y);simp only[l0];simp only[al.jP]at this ⊢;omega
     have:=this w (((0:Nat):Int)-1,max mx (((0:Nat):Int)-1),min mn (((0:Nat):Int)-1));simp only at this;omega
theorem ai0:n.Bm w=mt n.calls n.af 0 w:=by
 rw[kY];have:=Br (n:=n) (w:=w) (d:=0) (mx:=0) (mn:=0) (Int.le_refl 0);simp only[and_true]at this;rw[this];simp only[al.Bm,al.kI,aA];exact⟨λh=>⟨of_decide_eq_true h.1,of_decide_eq_true h.2⟩,λh=>⟨oW h.1,oW h.2⟩⟩
theorem Qb(a:n.Ok):Wd n.aQ s t w↔(∀x∈w,0<=x/\x<n.calls+n.af+n.aj)/\n.Bm w=true/\(n.run s w).1=t:=by
 have b:=a.calls;have d:=a.af;have e:=a.aj;rw[qx (M:=n.aQ) ⟨b.1,d.1,e.1⟩,ai0]
 rfl
end Ab
