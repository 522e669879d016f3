/- The check of an automaton, by the program and by the document. The document's check of an automaton. Runs of an automaton over a word: the program's and the document's. The state that a word leads to. Which states well-matched words connect. Tables of bools in memory, and machines behind an interface. Condition: none. -/
import Derived.Test.YtdenhmniigikcaaGreatKey
set_option linter.all false
set_option maxRecDepth 100000
set_option maxHeartbeats 4000000
namespace Ab
structure ak where
 calls:Int
 aj:Int
 aq:Int
 stack:Int
 start:Int
 accept:List Bool
 call:List (List Int)
 push:List (List Int)
 inner:List (List Int)
 pop:List (List (List Int))
 deriving Inhabited
abbrev ak.av (n:ak):AV:=.agg [.int n.calls,.int n.aj,.int n.aq,.int n.stack,.int n.start,bL n.accept,cO n.call,cO n.push,cO n.inner,fX n.pop]
structure ak.fits (n:ak):Prop where
 calls:kv n.calls=true
 aj:kv n.aj=true
 aq:kv n.aq=true
 stack:kv n.stack=true
 start:kv n.start=true
 accept:(n.accept.length:Int)<=9223372036854775807
 call:∀l∈n.call,(l.length:Int)<=9223372036854775807
 push:∀l∈n.push,(l.length:Int)<=9223372036854775807
 inner:∀l∈n.inner,(l.length:Int)<=9223372036854775807
 pop:∀l∈n.pop,(l.length:Int)<=9223372036854775807/\∀m∈l,(m.length:Int)<=9223372036854775807
theorem alG (x k:Int):PC EG [.int x,.bd (.int k)]=some (.bool (fY k x)):=by
 refine cu (aji rfl ?_);simp[fY];omega
theorem zL (xs:List Int) (k:Int) (hl:(xs.length:Int)<=9223372036854775807): PC tn [iL xs,.int k]=some (.bool (bad xs k)):=by
 refine cu (aiU rfl ?_);simp[SE xs EG [.bd (.int k)] (fY k) hl rfl rfl (λx _=>alG x k)]
 rfl
theorem SI (n:ak) (h1:kv (n.calls+n.aj)=true) (h2:kv (n.calls+n.aj+n.aq)=true):PC zC [n.av]=some (.int (n.calls+n.aj+n.aq)):=by
 refine cu (aiN rfl ?_);simp;rw[pa]at h1 h2;omega
theorem JC (n:ak) (h1:kv (n.calls+n.aj)=true) (h2:kv (n.calls+n.aj+n.aq)=true):PC wS [n.av]=some (.int (n.calls+n.aj+n.aq)):=by
 refine cu (aiI rfl ?_);simp;rw[pa]at h1 h2;omega
def ak.jw (n:ak) (l:List Int):Int:=if(l.length:Int) ≠ n.aq then 1 else if bad l n.accept.length=true then 2 else 0
def ak.eJ (n:ak) (s:Int):Int:=
 if ¬((ix n.call s).length:Int)=n.calls\/¬((ix n.push s).length:Int)=n.calls\/¬((ix n.inner s).length:Int)=n.aj\/¬((ix n.pop s).length:Int)=n.stack then 1
 else if bad (ix n.call s) n.accept.length=true\/bad (ix n.push s) n.stack=true\/bad (ix n.inner s) n.accept.length=true then 2
 else fk (λg=>n.jw (ix (ix n.pop s) g)) (ix n.pop s).length
theorem SJ (n:ak) (h:n.fits) (s:Int) (h0:0<=s) (h1:s<n.call.length) (h2:s<n.push.length) (h3:s<n.inner.length) (h4:s<n.pop.length):PC Jf [n.av,.int s]=some (.int (n.eJ s)):=by
 have e1:=zL (ix n.call s) n.accept.length (h.call _ (aU h0 h1));have e2:=zL (ix n.push s) n.stack (h.push _ (aU h0 h2));have e3:=zL (ix n.inner s) n.accept.length (h.inner _ (aU h0 h3));have hp:=h.pop _ (aU h0 h4);refine cu (aiV rfl ?_);simp[h0,h1,h2,h3,h4,e1,e2,e3];have no:∀{a:Int},1=n.eJ s->a=1->a=n.eJ s:=λh e=>e.trans h;refine⟨λa1=>⟨λa2=>⟨λa3=>⟨λa4=>⟨λb1=>by simp[ak.eJ,a1,a2,a3,a4,b1],λb1=>⟨λb2=>by simp[ak.eJ,a1,a2,a3,a4,b2],λb2=>⟨λb3=>by simp[ak.eJ,a1,a2,a3,a4,b3],λb3=>?_⟩⟩⟩,λa4=>by simp[ak.eJ,a4]⟩,λa3=>by simp[ak.eJ,a3]⟩,λa2=>by simp[ak.eJ,a2]⟩,λa1=>by simp[ak.eJ,a1]⟩
 have e:n.eJ s=fk (λg=>n.jw (ix (ix n.pop s) g)) (ix n.pop s).length:=by simp[ak.eJ,a1,a2,a3,a4,b1,b2,b3]
 rw[e];refine bu (λi:Int=>[(4,.int i)]) (λ_=>[]) (λi=>0<=i/\i<=(ix n.pop s).length/\∀j,0<=j->j<i->n.jw (ix (ix n.pop s) j)=0) (λi=>((ix n.pop s).length-i).toNat) 0 rfl (by simp;omega) λi ⟨i0,i1,i2⟩=>?_
 by_cases hi:i<(ix n.pop s).length
 ·have e4:=zL (ix (ix n.pop s) i) n.accept.length (hp.2 _ (aU i0 hi))
  simp[hi,i0,e4];have q:∀{x:Int},n.jw (ix (ix n.pop s) i)=x->x ≠ 0->x=fk (λg=>n.jw (ix (ix n.pop s) g)) (ix n.pop s).length:=λh1 h2=>by subst h1;exact(ER (f:=λg=>n.jw (ix (ix n.pop s) g)) i0 hi h2 i2).symm
  refine⟨λc1=>⟨λc2=>q (by simp[ak.jw,c1,c2]) (by simp),λc2=>⟨by omega,⟨by omega,by omega,kM (by simp[ak.jw,c1,c2]) i2⟩,by omega⟩⟩,λc1=>q (by simp[ak.jw,c1]) (by simp)⟩
 ·simp[hi]
  rw[zJ λj a b=>i2 j a (by omega)]
def ak.fv (n:ak):Int:=
 if n.calls<0\/65<=n.calls\/n.aj<0\/65<=n.aj\/n.aq<0\/65<=n.aq then 2
 else if n.calls+n.aj+n.aq<1 then 2
 else if 64<n.calls+n.aj+n.aq then 2
 else if n.stack<1 then 2
 else if 128<n.stack then 2
 else if n.accept=[]then 19
 else if 128<(n.accept.length:Int)then 11
 else if n.start<0 then 2
 else if(n.accept.length:Int)<=n.start then 2
 else if ¬(n.call.length:Int)=n.accept.length then 1
 else if ¬(n.push.length:Int)=n.accept.length then 1
 else if ¬(n.inner.length:Int)=n.accept.length then 1
 else if ¬(n.pop.length:Int)=n.accept.length then 1
 else 0
def ak.bC (n:ak):Int:=if n.fv ≠ 0 then n.fv else fk n.eJ n.accept.length
theorem JD{n:ak}{x:Int}(h:n.fv=x) (hx:x ≠ 0):x=n.bC:=by
 subst h;simp[ak.bC,hx]
theorem JE (n:ak) (h:n.fits):PC uN [n.av]=some (.int n.bC):=by
 refine cu (air rfl ?_);have e1:PC tn [.aE false [.int n.calls,.int n.aj,.int n.aq],.int 65]=_:=zL [n.calls,n.aj,n.aq] 65 (by simp)
 by_cases hb:bad [n.calls,n.aj,n.aq] 65=true
 ·simp[e1,hb]
  simp[bad,fY]at hb;exact JD (by simp[ak.fv,show n.calls<0\/65<=n.calls\/n.aj<0\/65<=n.aj\/n.aq<0\/65<=n.aq by omega]) (by simp)
 have rZ :=hb;simp[bad,fY]at rZ;have e2:=SI n (by rw[pa];omega) (by rw[pa];omega)
 have e0:¬(n.calls<0\/65<=n.calls\/n.aj<0\/65<=n.aj\/n.aq<0\/65<=n.aq):=by omega
 simp[e1,hb,e2]
 repeat' (first|apply And.intro|intro _)
 all_goals try(refine JD ?_ (by simp);unfold ak.fv;rw[ab e0];repeat (first|rw[ae (by assumption)]|rw[ab (by assumption)]|rw[ab (by omega)]))
 rename_i a1 a2 a3 a4 a5 a6 a7 a8 b1 b2 b3 b4;have e3:n.fv=0:=by unfold ak.fv;rw[ab e0];repeat (first|rw[ae (by assumption)]|rw[ab (by assumption)]|rw[ab (by omega)])
 rw[show n.bC=fk n.eJ n.accept.length by simp[ak.bC,e3]]
 refine bu (λi:Int=>[(3,.int i)]) (λ_=>[]) (λi=>0<=i/\i<=n.accept.length/\∀j,0<=j->j<i->n.eJ j=0) (λi=>(n.accept.length-i).toNat) 0 rfl (by simp;omega) λi ⟨i0,i1,i2⟩=>?_
 by_cases hi:i<n.accept.length
 ·have e4:=SJ n h i i0 (by omega) (by omega) (by omega) (by omega)
  simp[hi,e4];exact⟨λhz=>⟨by omega,⟨by omega,by omega,kM hz i2⟩,by omega⟩,λhz=>(ER i0 hi hz i2).symm⟩
 ·simp[hi]
  rw[zJ λj a b=>i2 j a (by omega)]
theorem JF (n:ak) (s:Int):PC zE [n.av,.int s]=some (.bool (!fY n.accept.length s)):=by
 refine cu (ajd rfl ?_);rw[alB];simp;exact⟨λa=>by simp[a],λa b=>by omega⟩
theorem alH (n:ak):PC Jb [n.av]=some (.int n.fv):=by
 refine cu (aiF rfl ?_)
 by_cases e0:n.calls<0\/65<=n.calls\/n.aj<0\/65<=n.aj\/n.aq<0\/65<=n.aq
 ·rw[show n.fv=2 by simp[ak.fv,e0]]
  simp;omega
 ·have e2:=JC n (by rw[pa];omega) (by rw[pa];omega)
  have d1:¬n.calls<0:=by omega
  have d2:¬n.calls>64:=by omega
  have d3:¬n.aj<0:=by omega
  have d4:¬n.aj>64:=by omega
  have d5:¬n.aq<0:=by omega
  have d6:¬n.aq>64:=by omega
  simp[d1,d2,d3,d4,d5,d6,e2]
  repeat' (first|apply And.intro|intro _)
  all_goals (unfold ak.fv;rw[ab e0];repeat (first|rw[ae (by assumption)]|rw[ab (by assumption)]|rw[ab (by omega)]))
theorem alI (n:ak) (h:n.fits) (s:Int) (h0:0<=s) (h1:s<n.call.length) (h2:s<n.push.length) (h3:s<n.inner.length) (h4:s<n.pop.length):PC Jc [n.av,.int s]=some (.int (n.eJ s)):=by
 refine cu (aiG rfl ?_);have k1:=h.call _ (aU h0 h1);have k2:=h.push _ (aU h0 h2);have k3:=h.inner _ (aU h0 h3);have k4:=h.pop _ (aU h0 h4);simp[h0,h1,h2,h3,h4];refine⟨λa1=>⟨λa2=>⟨λa3=>⟨λa4=>?_,λa4=>by simp[ak.eJ,a4]⟩,λa3=>by simp[ak.eJ,a3]⟩,λa2=>by simp[ak.eJ,a2]⟩,λa1=>by simp[ak.eJ,a1]⟩
 refine bu (λi:Int=>[(3,.int i)]) (λ_=>[]) (λi=>0<=i/\i<=n.calls/\(∀j,0<=j->j<i->fY n.accept.length (ix (ix n.call s) j)=false)/\∀j,0<=j->j<i->fY n.stack (ix (ix n.push s) j)=false) (λi=>(n.calls-i).toNat) 0 rfl ⟨by omega,by omega,qn,qn⟩ λi ⟨i0,i1,i2,i3⟩=>?_
 by_cases hi:i<n.calls
 ·have e1:=JF n (ix (ix n.call s) i)
  simp[hi,e1,h0,h1,h2,i0,a1,a2];have q:bad (ix n.call s) n.accept.length=true\/bad (ix n.push s) n.stack=true\/bad (ix n.inner s) n.accept.length=true->2=n.eJ s:=λhh=>by simp[ak.eJ,a1,a2,a3,a4,hh]
  refine⟨λc1=>q (.inl (qO i0 (by omega) c1)),λc1=>⟨λc2=>q (.inr (.inl (qO i0 (by omega) (by simp[fY,c2])))),λc2=>⟨λc3=>q (.inr (.inl (qO i0 (by omega) (by simp[fY,c3])))),λc3=>⟨by omega,⟨by omega,by omega,kM c1 i2,kM (ET.2 ⟨c2,c3⟩) i3⟩,by omega⟩⟩⟩⟩
 simp[hi];have b1:=tp (xs:=ix n.call s) λj a b=>i2 j a (by omega)
 have b2:=tp (xs:=ix n.push s) λj a b=>i3 j a (by omega)
 refine bu (λi:Int=>[(4,.int i)]) (λ_=>[]) (λi=>0<=i/\i<=n.aj/\(∀j,0<=j->j<i->fY n.accept.length (ix (ix n.inner s) j)=false)) (λi=>(n.aj-i).toNat) 0 rfl ⟨by omega,by omega,qn⟩ λi' ⟨j0,j1,j2⟩=>?_
 by_cases hj:i' < n.aj
 ·have e1:=JF n (ix (ix n.inner s) i')
  simp[hj,e1,h0,h3,j0,a3];have q:bad (ix n.inner s) n.accept.length=true->2=n.eJ s:=λhh=>by simp[ak.eJ,a1,a2,a3,a4,hh]
  exact⟨λc1=>q (qO j0 (by omega) c1),λc1=>⟨by omega,⟨by omega,by omega,kM c1 j2⟩,by omega⟩⟩
 simp[hj];have b3:=tp (xs:=ix n.inner s) λj a b=>j2 j a (by omega)
 have e:n.eJ s=fk (λg=>n.jw (ix (ix n.pop s) g)) (ix n.pop s).length:=by simp[ak.eJ,a1,a2,a3,a4,b1,b2,b3]
 rw[e];refine bu (λi:Int=>[(5,.int i)]) (λ_=>[]) (λi=>0<=i/\i<=(ix n.pop s).length/\∀j,0<=j->j<i->n.jw (ix (ix n.pop s) j)=0) (λi=>((ix n.pop s).length-i).toNat) 0 rfl (by simp;omega) λg ⟨g0,g1,g2⟩=>?_
 have q:g<(ix n.pop s).length->∀{x:Int},n.jw (ix (ix n.pop s) g)=x->x ≠ 0->x=fk (λg=>n.jw (ix (ix n.pop s) g)) (ix n.pop s).length:=λhg x h1 h2=>by subst h1;exact(ER (f:=λg=>n.jw (ix (ix n.pop s) g)) g0 hg h2 g2).symm
 by_cases hg:g<(ix n.pop s).length
 ·simp[show g<n.stack by omega,hg,h0,h4,g0]
  refine⟨λc1=>?_,λc1=>q hg (by simp[ak.jw,c1]) (by simp)⟩
  have k5:=k4.2 _ (aU g0 hg);refine bu (λi:Int=>[(6,.int i)]) (λ_=>[]) (λi=>0<=i/\i<=n.aq/\(∀j,0<=j->j<i->fY n.accept.length (ix (ix (ix n.pop s) g) j)=false)) (λi=>(n.aq-i).toNat) 0 rfl ⟨by omega,by omega,qn⟩ λr ⟨r0,r1,r2⟩=>?_
  by_cases hr:r<n.aq
  ·have e1:=JF n (ix (ix (ix n.pop s) g) r)
   simp[hr,e1,h0,h4,g0,hg,r0,c1];exact⟨λc2=>q hg (by simp[ak.jw,c1,qO r0 (by omega) c2]) (by simp),λc2=>⟨by omega,⟨by omega,by omega,kM c2 r2⟩,by omega⟩⟩
  ·simp[hr]
   exact⟨by omega,⟨by omega,by omega,kM (by simp[ak.jw,c1,tp (xs:=ix (ix n.pop s) g) λj a b=>r2 j a (by omega)]) g2⟩,by omega⟩
 ·simp[show ¬g<n.stack by omega]
  rw[zJ λj a b=>g2 j a (by omega)]
theorem JG (n:ak) (h:n.fits):PC zz [n.av]=some (.int n.bC):=by
 refine cu (aim rfl ?_);have e1:=alH n;simp[e1];refine⟨λe3=>?_,λe3=>JD rfl e3⟩;rw[show n.bC=fk n.eJ n.accept.length by simp[ak.bC,e3]]
 have ha:=h.accept;have hs:(n.call.length:Int)=n.accept.length/\(n.push.length:Int)=n.accept.length/\(n.inner.length:Int)=n.accept.length/\(n.pop.length:Int)=n.accept.length:=by
  unfold ak.fv at e3
  (repeat' split at e3)<;>omega
 refine bu (λi:Int=>[(3,.int i)]) (λ_=>[]) (λi=>0<=i/\i<=n.accept.length/\∀j,0<=j->j<i->n.eJ j=0) (λi=>(n.accept.length-i).toNat) 0 rfl (by simp;omega) λi ⟨i0,i1,i2⟩=>?_
 by_cases hi:i<n.accept.length
 ·have e4:=alI n h i i0 (by omega) (by omega) (by omega) (by omega)
  simp[hi,e4];exact⟨λhz=>⟨by omega,⟨by omega,by omega,kM hz i2⟩,by omega⟩,λhz=>(ER i0 hi hz i2).symm⟩
 ·simp[hi]
  rw[zJ λj a b=>i2 j a (by omega)]
def ak.uP (n:ak) (l x:Int):Int:=if x<n.calls then l+1 else if n.calls+n.aj<=x then l-1 else l
def ak.gO (n:ak) (p:Int×Int×Int) (x:Int):Int×Int×Int:=(n.uP p.1 x,max p.2.1 (n.uP p.1 x),min p.2.2 (n.uP p.1 x))
def ak.ig (n:ak) (w:List Int):Int×Int×Int:=w.foldl n.gO (0,0,0)
def ak.ll (n:ak) (w:List Int) (i:Int):Int×Int×Int:=(w.take i.toNat).foldl n.gO (0,0,0)
theorem tq{n:ak}{w:List Int}{i:Int}(h0:0<=i) (h1:i<w.length):n.ll w (i+1)=n.gO (n.ll w i) (ix w i):=SF h0 h1
theorem SK{n:ak}{w:List Int}:n.ll w 0=(0,0,0):=rfl
theorem JH{n:ak}{w:List Int}{i:Int}(h:(w.length:Int)<=i):n.ll w i=n.ig w:=SG h
theorem alJ{n:ak}{w:List Int}(i:Nat) (h:i<=w.length) : -i<=(n.ll w i).1/\(n.ll w i).1<=i/\0<=(n.ll w i).2.1/\(n.ll w i).2.1<=i/\(n.ll w i).2.2<=0/\-i<=(n.ll w i).2.2:=by
 induction i with
 |zero=>simp[SK]
 |succ i ih=>
  have e:=tq (n:=n) (w:=w) (i:=i) (by omega) (by omega)
  have:=ih (by omega)
  rw[show((i+1:Nat):Int)=(i:Int)+1 by omega,e]
  simp only[ak.gO,ak.uP];split<;>(try split)<;>omega
theorem SM{n:ak}{w:List Int}{i:Int}(h0:0<=i) (h1:i<=w.length) : -i<=(n.ll w i).1/\(n.ll w i).1<=i/\0<=(n.ll w i).2.1/\(n.ll w i).2.1<=i/\(n.ll w i).2.2<=0/\-i<=(n.ll w i).2.2:=by
 have:=alJ (n:=n) (w:=w) i.toNat (by omega)
 rw[show((i.toNat:Nat):Int)=i by omega]at this
 exact this
theorem alK (n:ak) (w:List Int) (hi:kv (n.calls+n.aj)=true) (hl:(w.length:Int)<=1000000):PC ED [n.av,iL w]=some (.bS [.int (n.ig w).2.1,.bool (decide ((n.ig w).2.2=0)&&decide ((n.ig w).1=0))]):=by
 refine cu (aiO rfl ?_);rw[pa]at hi;simp;refine bu (λi:Int=>[(2,.int i),(7,.int (n.ll w i).1),(8,.int (n.ll w i).2.1),(9,.bool (decide ((n.ll w i).2.2=0)))]) (λ_=>[]) (λi=>0<=i/\i<=w.length) (λi=>(w.length-i).toNat) 0 rfl (by simp) λi ⟨i0,i1⟩=>?_
 have B:=SM (n:=n) i0 i1
 by_cases hi:i<w.length
 ·have e:=tq (n:=n) i0 hi
  simp[hi,i0,and_assoc];refine⟨λc1=>?_,λc1=>⟨by omega,by omega,λc2=>?_,λc2=>?_⟩⟩
  ·simp only[e,ak.gO,ak.uP,ae c1]
   (repeat' (first|apply And.intro|intro _))<;>first|trivial|omega
  ·simp only[e,ak.gO,ak.uP,ab (show ¬ix w i<n.calls by omega),ae c2]
   (repeat' (first|apply And.intro|intro _))<;>first|trivial|omega
  ·simp only[e,ak.gO,ak.uP,ab (show ¬ix w i<n.calls by omega),ab (show ¬n.calls+n.aj<=ix w i by omega)]
   (repeat' (first|apply And.intro|intro _))<;>first|trivial|omega
 ·have e:=JH (n:=n) (w:=w) (i:=i) (by omega)
  rw[e]at B ⊢;simp[hi];omega
theorem SN (n:ak) (w:List Int) (hi:kv (n.calls+n.aj)=true) (h0:0<=n.aj) (hl:(w.length:Int)<=1000000):PC EB [n.av,iL w]=some (.bS [.int (n.ig w).2.1,.int (n.ig w).2.2,.int (n.ig w).1]):=by
 refine cu (aiJ rfl ?_);rw[pa]at hi;simp;refine bu (λi:Int=>[(2,.int i),(4,.int (n.ll w i).1),(5,.int (n.ll w i).2.1),(6,.int (n.ll w i).2.2)]) (λ_=>[]) (λi=>0<=i/\i<=w.length) (λi=>(w.length-i).toNat) 0 rfl (by simp) λi ⟨i0,i1⟩=>?_
 have B:=SM (n:=n) i0 i1
 by_cases hi:i<w.length
 ·have e:=tq (n:=n) i0 hi
  simp[hi,i0,and_assoc];refine⟨λc1=>?_,λc1=>⟨by omega,by omega,λc2=>?_,λc2=>?_⟩⟩
  ·simp only[e,ak.gO,ak.uP,ae c1]
   (repeat' (first|apply And.intro|intro _))<;>first|trivial|omega
  ·simp only[e,ak.gO,ak.uP,ab (show ¬ix w i<n.calls by omega),ae c2]
   (repeat' (first|apply And.intro|intro _))<;>first|trivial|omega
  ·simp only[e,ak.gO,ak.uP,ab (show ¬ix w i<n.calls by omega),ab (show ¬n.calls+n.aj<=ix w i by omega)]
   (repeat' (first|apply And.intro|intro _))<;>first|trivial|omega
 ·have e:=JH (n:=n) (w:=w) (i:=i) (by omega)
  rw[e]at B ⊢;simp[hi]
structure ak.Ok (n:ak):Prop where
 calls:0<=n.calls/\n.calls<=64
 aj:0<=n.aj/\n.aj<=64
 aq:0<=n.aq/\n.aq<=64
 syms:1<=n.calls+n.aj+n.aq/\n.calls+n.aj+n.aq<=64
 stack:1<=n.stack/\n.stack<=128
 states:1<=(n.accept.length:Int)/\(n.accept.length:Int)<=128
 start:0<=n.start/\n.start<n.accept.length
 lens:(n.call.length:Int)=n.accept.length/\(n.push.length:Int)=n.accept.length/\(n.inner.length:Int)=n.accept.length/\(n.pop.length:Int)=n.accept.length
 row:∀s,0<=s->s<(n.accept.length:Int)->((ix n.call s).length:Int)=n.calls/\((ix n.push s).length:Int)=n.calls/\((ix n.inner s).length:Int)=n.aj/\((ix n.pop s).length:Int)=n.stack
 call:∀s c,0<=s->s<(n.accept.length:Int)->0<=c->c<n.calls->0<=ix (ix n.call s) c/\ix (ix n.call s) c<n.accept.length
 push:∀s c,0<=s->s<(n.accept.length:Int)->0<=c->c<n.calls->0<=ix (ix n.push s) c/\ix (ix n.push s) c<n.stack
 inner:∀s c,0<=s->s<(n.accept.length:Int)->0<=c->c<n.aj->0<=ix (ix n.inner s) c/\ix (ix n.inner s) c<n.accept.length
 EW:∀s g,0<=s->s<(n.accept.length:Int)->0<=g->g<n.stack->((ix (ix n.pop s) g).length:Int)=n.aq
 pop:∀s g r,0<=s->s<(n.accept.length:Int)->0<=g->g<n.stack->0<=r->r<n.aq->0<=ix (ix (ix n.pop s) g) r/\ix (ix (ix n.pop s) g) r<n.accept.length
theorem alL{n:ak}(h:n.fv=0):(0<=n.calls/\n.calls<=64)/\(0<=n.aj/\n.aj<=64)/\(0<=n.aq/\n.aq<=64)/\(1<=n.calls+n.aj+n.aq/\n.calls+n.aj+n.aq<=64)/\(1<=n.stack/\n.stack<=128)/\(1<=(n.accept.length:Int)/\(n.accept.length:Int)<=128)/\(0<=n.start/\n.start<n.accept.length)/\(n.call.length:Int)=n.accept.length/\(n.push.length:Int)=n.accept.length/\(n.inner.length:Int)=n.accept.length/\(n.pop.length:Int)=n.accept.length:=by
 unfold ak.fv at h;have hl:n.accept ≠ []->1<=(n.accept.length:Int):=λh=>by
  have:=mC.2 h;omega
 by_cases ha:n.accept=[]
 ·simp only[ae ha]at h
  (repeat' split at h)<;>omega
 ·have:=hl ha
  simp only[ab ha]at h
  (repeat' split at h)<;>omega
theorem alM{n:ak}{s:Int}(h:n.eJ s=0):(((ix n.call s).length:Int)=n.calls/\((ix n.push s).length:Int)=n.calls/\((ix n.inner s).length:Int)=n.aj/\((ix n.pop s).length:Int)=n.stack)/\bad (ix n.call s) n.accept.length=false/\bad (ix n.push s) n.stack=false/\bad (ix n.inner s) n.accept.length=false/\∀g,0<=g->g<n.stack->((ix (ix n.pop s) g).length:Int)=n.aq/\bad (ix (ix n.pop s) g) n.accept.length=false:=by
 unfold ak.eJ at h;split at h
 ·simp at h
 rename_i a;split at h
 ·simp at h
 rename_i b;simp only[not_or,Classical.not_not,Bool.not_eq_true]at a b;refine⟨a,b.1,b.2.1,b.2.2,λg g0 g1=>?_⟩;have:=ES.1 h g g0 (by omega)
 simp only[ak.jw]at this;split at this
 ·simp at this
 rename_i c;split at this
 ·simp at this
 rename_i d;exact⟨by simpa using c,by simpa using d⟩
theorem qp{n:ak}(h:n.bC=0):n.Ok:=by
 have hs:n.fv=0:=by
  unfold ak.bC at h;split at h
  ·rename_i a;exact absurd h a
  ·rename_i a;simpa using a
 have hr:∀s,0<=s->s<(n.accept.length:Int)->n.eJ s=0:=by
  unfold ak.bC at h;rw[ab (by simpa using hs)]at h
  exact ES.1 h
 obtain⟨h1,h2,h3,h4,h5,h6,h7,h8⟩:=alL hs;have R:=λs s0 s1=>alM (hr s s0 s1);exact⟨h1,h2,h3,h4,h5,h6,h7,h8,λs s0 s1=>(R s s0 s1).1,λs c s0 s1 c0 c1=>qo.1 (R s s0 s1).2.1 c c0 (by have:=(R s s0 s1).1;omega),λs c s0 s1 c0 c1=>qo.1 (R s s0 s1).2.2.1 c c0 (by have:=(R s s0 s1).1;omega),λs c s0 s1 c0 c1=>qo.1 (R s s0 s1).2.2.2.1 c c0 (by have:=(R s s0 s1).1;omega),λs g s0 s1 g0 g1=>((R s s0 s1).2.2.2.2 g g0 g1).1,λs g r s0 s1 g0 g1 r0 r1=>qo.1 ((R s s0 s1).2.2.2.2 g g0 g1).2 r r0 (by have:=((R s s0 s1).2.2.2.2 g g0 g1).1;omega)⟩
def ak.word (n:ak) (w:List Int):Prop:=(w.length:Int)<=1024/\∀x∈w,0<=x/\x<n.calls+n.aj+n.aq
theorem wV{n:ak}{w:List Int}(h:eD w (n.calls+n.aj+n.aq)=0):n.word w:=by
 unfold eD at h
 (repeat' split at h)<;>try(simp at h;done)
 rename_i a b c;exact⟨by omega,λx hx=>GJ.1 (by simpa using c) x hx⟩
theorem alN (n:ak) (s c:Int) (s0:0<=s) (s1:s<n.call.length) (s2:s<n.push.length) (c0:0<=c) (c1:c<(ix n.call s).length) (c2:c<(ix n.push s).length):PC tj [n.av,.int s,.int c]=some (.bS [.int (ix (ix n.call s) c),.int (ix (ix n.push s) c)]):=by
 refine cu (aiP rfl ?_);simp[s0,s1,s2,c0,c1,c2]
theorem alO (n:ak) (s c:Int) (s0:0<=s) (s1:s<n.inner.length) (c0:0<=c) (c1:c<(ix n.inner s).length):PC th [n.av,.int s,.int c]=some (.int (ix (ix n.inner s) c)):=by
 refine cu (aiR rfl ?_);simp[s0,s1,c0,c1]
theorem alP (n:ak) (s g r:Int) (s0:0<=s) (s1:s<n.pop.length) (g0:0<=g) (g1:g<(ix n.pop s).length) (r0:0<=r) (r1:r<(ix (ix n.pop s) g).length):PC tm [n.av,.int s,.int g,.int r]=some (.int (ix (ix (ix n.pop s) g) r)):=by
 refine cu (aiS rfl ?_);simp[s0,s1,g0,g1,r0,r1]
def hd (l:List Int):Int:=l.headD 0
theorem JI{x:Int}{l:List Int}:hd (x::l)=x:=rfl
def EX:Option (List Int×Nat)->List ag
 |none=>[⟨some 1,[.ah],.live⟩]
 |some (xs,k)=>[⟨some 1,[.sl 1 xs.length 0 k],.live⟩,⟨none,xs.map .int,.live⟩]
def ij (x:Int):Option (List Int×Nat)->Option (List Int×Nat)
 |none=>some ([x],1)
 |some (xs,k)=>if xs.length=k then some (xs ++ [x],k+1)else some (xs.set k x,k+1)
def nu:Option (List Int×Nat)->Option (List Int×Nat)
 |none=>none
 |some (xs,k)=>some (xs,k-1)
def xN:Option (List Int×Nat)->List Int
 |none=>[]
 |some (xs,k)=>(xs.take k).reverse
def gw (m:Nat):Option (List Int×Nat)->Prop
 |none=>True
 |some (xs,k)=>k<=xs.length/\k<=m
theorem SO{x:Int}{o:Option (List Int×Nat)}{m:Nat}(h:gw m o):xN (ij x o)=x::xN o/\gw (m+1) (ij x o):=by
 cases o with
 |none=>simp[ij,xN,gw]
 |some p=>
  obtain⟨xs,k⟩:=p;simp only[gw]at h;simp only[ij];split
  ·rename_i e;subst e;exact⟨by simp[xN,gu],by simp[gw];exact h.2⟩
  ·rename_i e
   refine⟨?_,by simp[gw];omega⟩
   simp only[xN];rw[nO,List.take_set_of_le (bA k),List.getElem?_set_self (by omega)]
   simp
theorem SP{o:Option (List Int×Nat)}{m:Nat}(h:gw m o) (hp:xN o ≠ []):xN (nu o)=(xN o).tail/\gw m (nu o)/\∃xs k,o=some (xs,k)/\0<k/\k<=xs.length/\ix xs ((k:Int)-1)=hd (xN o):=by
 cases o with
 |none=>exact absurd rfl hp
 |some p=>
  obtain⟨xs,k⟩:=p;simp only[gw]at h;have hk:0<k:=by
   rcases Nat.eq_zero_or_pos k with rfl|hk
   ·simp[xN]at hp
   ·exact hk
  obtain⟨k,rfl⟩:∃j,k=j+1:=⟨k-1,by omega⟩
  have e:xs.take (k+1)=xs.take k ++ [xs[k]]:=by
   rw[nO,de (by omega)];rfl
  refine⟨?_,by simp[nu,gw];omega,xs,k+1,rfl,by omega,by omega,?_⟩
  ·show(xs.take k).reverse=((xs.take (k+1)).reverse).tail
   rw[e,List.reverse_append];rfl
  ·show _=hd ((xs.take (k+1)).reverse)
   rw[e,show((k+1:Nat):Int)-1=(k:Int)by omega,aT (by omega),List.reverse_append]
   rfl
theorem alQ (x:Int) (o:Option (List Int×Nat)) (h:gw 100000 o):L Je [.ptr 0 1 0,.int x] (EX o)=some (.bS [],EX (ij x o)):=by
 refine pb (aiQ rfl ?_);cases o with
 |none=>simp[EX,ij]
 |some p=>
  obtain⟨xs,k⟩:=p;simp only[gw]at h
  by_cases hk:xs.length=k
  ·simp[EX,ij,hk];omega
  ·simp[EX,ij,hk,show k<xs.length by omega];omega
theorem SQ (xs:List Int) (k:Nat) (h0:0<k) (h1:k<=xs.length) (h2:k<=100000):L wO [.ptr 0 1 0] (EX (some (xs,k)))=some (.int (ix xs ((k:Int)-1)),EX (nu (some (xs,k)))):=by
 refine pb (aiT rfl ?_);simp[EX,nu]
 (repeat' apply And.intro)<;>omega
def ak.step (n:ak) (p:Int×List Int) (x:Int):Int×List Int:=
 if x<n.calls then(ix (ix n.call p.1) x,ix (ix n.push p.1) x::p.2)
 else if x<n.calls+n.aj then(ix (ix n.inner p.1) (x-n.calls),p.2)
 else(ix (ix (ix n.pop p.1) (hd p.2)) (x-n.calls-n.aj),p.2.tail)
def ak.run (n:ak) (s:Int) (w:List Int):Int×List Int:=w.foldl n.step (s,[])
def ak.bN (n:ak) (s:Int) (w:List Int) (i:Int):Int×List Int:=(w.take i.toNat).foldl n.step (s,[])
theorem JJ{n:ak}{s:Int}{w:List Int}{i:Int}(h0:0<=i) (h1:i<w.length):n.bN s w (i+1)=n.step (n.bN s w i) (ix w i):=SF h0 h1
theorem JK{n:ak}{s:Int}{w:List Int}{i:Int}(h:(w.length:Int)<=i):n.bN s w i=n.run s w:=SG h
def ak.up (n:ak) (w:List Int):Prop:=∀i,0<=i->i<=(w.length:Int)->0<=(n.ll w i).1
theorem alR{n:ak}{w:List Int}{i:Int}(h0:0<=i) (h1:i<=w.length):(n.ig w).2.2<=(n.ll w i).2.2/\(n.ll w i).2.2<=(n.ll w i).1:=by
 have k1:∀j:Nat,j<=w.length->(n.ll w j).2.2<=(n.ll w j).1:=by
  intro j hj;cases j with
  |zero=>simp[SK]
  |succ j=>
   have e:=tq (n:=n) (w:=w) (i:=j) (by omega) (by omega)
   rw[show((j+1:Nat):Int)=(j:Int)+1 by omega,e]
   simp only[ak.gO];omega
 have k2:∀d j:Nat,j+d=w.length->(n.ig w).2.2<=(n.ll w j).2.2:=by
  intro d
  induction d with
  |zero=>
   intro j hj;rw[<-JH (n:=n) (w:=w) (i:=j) (by omega)]
   exact Int.le_refl _
  |succ d ih=>
   intro j hj;have:=ih (j+1) (by omega)
   have e:=tq (n:=n) (w:=w) (i:=j) (by omega) (by omega)
   rw[show((j+1:Nat):Int)=(j:Int)+1 by omega,e]at this
   simp only[ak.gO]at this;omega
 have a:=k1 i.toNat (by omega)
 have b:=k2 (w.length-i.toNat) i.toNat (by omega)
 rw[show((i.toNat:Nat):Int)=i by omega]at a b
 exact⟨b,a⟩
theorem zM{n:ak}{w:List Int}(h:(n.ig w).2.2=0):n.up w:=λi h0 h1=>by
 have:=alR (n:=n) h0 h1;omega
theorem JL{n:ak}(hn:n.Ok){w:List Int}(hw:n.word w) (hu:n.up w){s:Int}(hs:0<=s/\s<n.accept.length){i:Int}(h0:0<=i) (h1:i<=w.length) :
  (0<=(n.bN s w i).1/\(n.bN s w i).1<n.accept.length)/\((n.bN s w i).2.length:Int)=(n.ll w i).1/\∀g∈(n.bN s w i).2,0<=g/\g<n.stack:=by
 have key:∀j:Nat,j<=w.length->(0<=(n.bN s w j).1/\(n.bN s w j).1<n.accept.length)/\((n.bN s w j).2.length:Int)=(n.ll w j).1/\∀g∈(n.bN s w j).2,0<=g/\g<n.stack:=by
  intro j
  induction j with
  |zero=>intro _;exact⟨hs,rfl,by simp[ak.bN]⟩
  |succ j ih=>
   intro hj;obtain⟨a,b,c⟩:=ih (by omega)
   have e:=JJ (n:=n) (s:=s) (w:=w) (i:=j) (by omega) (by omega)
   have e2:=tq (n:=n) (w:=w) (i:=j) (by omega) (by omega)
   have hx:=hw.2 _ (aU (l:=w) (n:=j) (by omega) (by omega))
   have db:=hu (j+1) (by omega) (by omega)
   rw[show((j+1:Nat):Int)=(j:Int)+1 by omega,e,e2]
   rw[e2]at db;simp only[ak.gO,ak.uP]at db ⊢;unfold ak.step
   by_cases c1:ix w j<n.calls
   ·rw[ae c1]at db ⊢
    rw[ae c1];have q1:=hn.call _ _ a.1 a.2 hx.1 c1;have q2:=hn.push _ _ a.1 a.2 hx.1 c1;refine⟨q1,by simp;omega,λg hg=>?_⟩
    rcases cD.1 hg with rfl|hg
    ·exact q2
    ·exact c g hg
   rw[ab c1]at db ⊢;rw[ab c1]
   by_cases c2:ix w j<n.calls+n.aj
   ·rw[ae c2]
    rw[ab (show ¬n.calls+n.aj<=ix w j by omega)]
    exact⟨hn.inner _ _ a.1 a.2 (by omega) (by omega),b,c⟩
   ·rw[ab c2]
    rw[ae (show n.calls+n.aj<=ix w j by omega)]at db ⊢
    have b8:(n.bN s w j).2 ≠ []:=λh=>by rw[h]at b;simp at b;omega
    obtain⟨g,l,LV⟩:=List.exists_cons_of_ne_nil b8;have qg:=c g (by rw[LV];simp)
    rw[LV]at b c ⊢;simp only[JI,List.tail_cons];refine⟨hn.pop _ _ _ a.1 a.2 qg.1 qg.2 (by omega) (by omega),?_,λg' xH =>c g' (by simp[xH])⟩
    simp at b;omega
 have:=key i.toNat (by omega)
 rw[show((i.toNat:Nat):Int)=i by omega]at this
 exact this
theorem alS (n:ak) (hn:n.Ok) (w:List Int) (hw:n.word w) (hu:n.up w) (s:Int) (hs:0<=s/\s<n.accept.length):PC Jd [n.av,.int s,iL w]=some (.int (n.run s w).1):=by
 refine cu (aiL rfl ?_);simp;refine bu (λp:Int×List Int×Nat=>[(3,.int p.1),(1,.int (n.bN s w p.1).1),(6,.sl 0 p.2.1.length 0 p.2.2)]) (λp=>[⟨none,p.2.1.map .int,ph p.2.1⟩]) (λp=>(0<=p.1/\p.1<=w.length)/\gw p.1.toNat (some p.2)/\xN (some p.2)=(n.bN s w p.1).2) (λp=>(w.length-p.1).toNat) (0,[],0) rfl ⟨⟨by simp,by simp⟩,by simp[gw],rfl⟩ ?_
 rintro⟨i,xs,k⟩ ⟨⟨i0,i1⟩,h1,h2⟩;dsimp only at i0 i1 h1 h2 ⊢;obtain⟨⟨a0,a1⟩,b,c⟩:=JL hn hw hu hs i0 i1
 by_cases hi:i<w.length
 ·have e:=JJ (n:=n) (s:=s) i0 hi
  have hx:=hw.2 _ (aU i0 hi);have ln:=hn.lens;have rw' :=hn.row _ a0 a1;have hc:=hn.calls;have eZ:=hn.aj;have GK:=hn.aq;have GL:=hw.1;have k1:k<=i.toNat:=h1.2;have k2:k<=xs.length:=h1.1
  by_cases c1:ix w i<n.calls
  ·have p1:=SO (x:=ix (ix n.push (n.bN s w i).1) (ix w i)) h1
   have e' : n.bN s w (i+1)=(ix (ix n.call (n.bN s w i).1) (ix w i),ix (ix n.push (n.bN s w i).1) (ix w i)::(n.bN s w i).2):=by rw[e,ak.step,ae c1]
   have d1:(n.bN s w i).1<n.call.length:=by omega
   have d2:(n.bN s w i).1<n.push.length:=by omega
   have d3:ix w i<(ix n.call (n.bN s w i).1).length:=by omega
   have d4:ix w i<(ix n.push (n.bN s w i).1).length:=by omega
   rw[h2]at p1
   by_cases hk:xs.length=k
   ·simp only[ij,hk,dA]at p1
    simp[hi,i0,c1,show ¬n.calls<=ix w i by omega,hk,a0,d1,d2,d3,d4,hx.1,-ao]
    (repeat' apply And.intro)<;>try omega
    refine aX (i+1,xs ++ [ix (ix n.push (n.bN s w i).1) (ix w i)],k+1) (by simp[e', hk]) (by simp) ⟨⟨by dsimp only;omega,by dsimp only;omega⟩,?_,?_⟩ (by dsimp only;omega)
    ·show gw (i+1).toNat _
     rw[show(i+1).toNat=i.toNat+1 by omega];exact p1.2
    ·show _=(n.bN s w (i+1)).2
     rw[e'];exact p1.1
   ·simp only[ij,hk,ew]at p1
    simp[hi,i0,c1,show ¬n.calls<=ix w i by omega,hk,a0,d1,d2,d3,d4,hx.1,show k<xs.length by omega,-ao]
    (repeat' apply And.intro)<;>try omega
    refine aX (i+1,xs.set k (ix (ix n.push (n.bN s w i).1) (ix w i)),k+1) (by simp[e']) (by simp) ⟨⟨by dsimp only;omega,by dsimp only;omega⟩,?_,?_⟩ (by dsimp only;omega)
    ·show gw (i+1).toNat _
     rw[show(i+1).toNat=i.toNat+1 by omega];exact p1.2
    ·show _=(n.bN s w (i+1)).2
     rw[e'];exact p1.1
  by_cases c2:ix w i<n.calls+n.aj
  ·have e' : n.bN s w (i+1)=(ix (ix n.inner (n.bN s w i).1) (ix w i-n.calls),(n.bN s w i).2):=by rw[e,ak.step,ab c1,ae c2]
   have d1:(n.bN s w i).1<n.inner.length:=by omega
   have d2:ix w i-n.calls<(ix n.inner (n.bN s w i).1).length:=by omega
   simp[hi,i0,c1,c2,show n.calls<=ix w i by omega,show ¬n.calls+n.aj<=ix w i by omega,a0,d1,d2,-ao]
   (repeat' apply And.intro)<;>try omega
   refine aX (i+1,xs,k) (by simp[e']) (by simp) ⟨⟨by dsimp only;omega,by dsimp only;omega⟩,?_,?_⟩ (by dsimp only;omega)
   ·simp only[gw]at h1 ⊢;omega
   ·show _=(n.bN s w (i+1)).2
    rw[e'];exact h2
  ·have e' : n.bN s w (i+1)=(ix (ix (ix n.pop (n.bN s w i).1) (hd (n.bN s w i).2)) (ix w i-n.calls-n.aj),(n.bN s w i).2.tail):=by rw[e,ak.step,ab c1,ab c2]
   have db:=hu (i+1) (by omega) (by omega)
   rw[tq i0 hi]at db;simp only[ak.gO,ak.uP,ab c1,ae (show n.calls+n.aj<=ix w i by omega)]at db
   have b8:(n.bN s w i).2 ≠ []:=λh=>by rw[h]at b;simp at b;omega
   obtain⟨p1,p2,_,_,alT,p3,p4,p5⟩:=SP h1 (by rw[h2];exact b8)
   cases alT;rw[h2]at p1 p5;have hg:hd (n.bN s w i).2∈(n.bN s w i).2:=by
    obtain⟨g,l,LV⟩:=List.exists_cons_of_ne_nil b8;rw[LV,JI];simp
   have qg:=c _ hg;have d1:(n.bN s w i).1<n.pop.length:=by omega
   have d2:hd (n.bN s w i).2<(ix n.pop (n.bN s w i).1).length:=by omega
   have d3:=hn.EW _ _ a0 a1 qg.1 qg.2;have d4:ix w i-n.calls-n.aj<(ix (ix n.pop (n.bN s w i).1) (hd (n.bN s w i).2)).length:=by omega
   have yj:xs ≠ []:=λh=>by rw[h]at p4;simp at p4;omega
   have p5' : ix xs ((k-1:Nat):Int)=hd (n.bN s w i).2:=by rw[show(((k-1:Nat):Int))=(k:Int)-1 by omega];exact p5
   simp[hi,i0,c1,c2,show n.calls<=ix w i by omega,show n.calls+n.aj<=ix w i by omega,a0,d1,-ao,p5,p5', yj]
   (repeat' apply And.intro)<;>try omega
   refine aX (i+1,xs,k-1) (by simp[e']) (by simp) ⟨⟨by dsimp only;omega,by dsimp only;omega⟩,?_,?_⟩ (by dsimp only;omega)
   ·simp only[nu,gw]at p2 ⊢;omega
   ·show _=(n.bN s w (i+1)).2
    rw[e'];exact p1
 ·rw[<-JK (n:=n) (s:=s) (w:=w) (i:=i) (by omega)]
  simp[hi]
def ak.tt (n:ak) (w:List Int):Bool:=decide ((n.ig w).2.2=0)&&decide ((n.ig w).1=0)
def ak.syms (n:ak):Int:=n.calls+n.aj+n.aq
def ak.matched (n:ak) (w:List Int):Bool:=decide (n.bC=0)&&(decide (eD w n.syms=0)&&n.tt w)
theorem Ok.sum{n:ak}(h:n.Ok):kv (n.calls+n.aj)=true/\kv (n.calls+n.aj+n.aq)=true:=by
 have:=h.calls;have:=h.aj;have:=h.aq;rw[pa,pa];omega
theorem alU (n:ak) (hf:n.fits) (w:List Int) (hl:(w.length:Int)<=9223372036854775807):PC zB [n.av,iL w]=some (.bool (n.matched w)):=by
 refine cu (aiK rfl ?_);have e1:=JG n hf
 by_cases hv:n.bC=0
 ·have ok:=qp hv
  have e2:=JC n (Ok.sum ok).1 (Ok.sum ok).2;have e3:PC wR [iL w,.int (n.calls+n.aj+n.aq)]=some (.int (eD w n.syms)):=SH w _ hl
  by_cases hw:eD w n.syms=0
  ·have e4:=SN n w (Ok.sum ok).1 ok.aj.1 (by have:=(wV hw).1;omega)
   by_cases hz:(n.ig w).2.2=0<;>simp[e1,hv,e2,e3,hw,e4,ak.matched,ak.tt,hz]
  ·simp[e1,hv,e2,e3,hw,ak.matched]
 ·simp[e1,hv,ak.matched]
def ak.acc (n:ak) (w:List Int):Bool×Int:=
 if n.bC ≠ 0 then(false,n.bC)
 else if eD w n.syms ≠ 0 then(false,eD w n.syms)
 else if 64<(n.ig w).2.1 then(false,16)
 else if n.tt w=false then(false,0)
 else(ix n.accept (n.run n.start w).1,0)
theorem zO{n:ak}{w:List Int}(h:n.tt w=true):(n.ig w).2.2=0/\(n.ig w).1=0:=by simpa[ak.tt]using h
theorem SR (n:ak) (hf:n.fits) (w:List Int) (hl:(w.length:Int)<=9223372036854775807):PC Es [n.av,iL w]=some (.bS [.bool (n.acc w).1,.int (n.acc w).2]):=by
 refine cu (aio rfl ?_);have e1:=JG n hf
 by_cases hv:n.bC=0
 ·have ok:=qp hv
  have e2:=JC n (Ok.sum ok).1 (Ok.sum ok).2;have e3:PC wR [iL w,.int (n.calls+n.aj+n.aq)]=some (.int (eD w n.syms)):=SH w _ hl
  by_cases hw:eD w n.syms=0
  ·have e4:=SN n w (Ok.sum ok).1 ok.aj.1 (by have:=(wV hw).1;omega)
   have e5:=alU n hf w hl
   by_cases hm:64<(n.ig w).2.1
   ·simp[e1,hv,e2,e3,hw,e4,hm,ak.acc]
   ·by_cases hb:n.tt w=true
    ·have e6:=alS n ok w (wV hw) (zM (zO hb).1) n.start ok.start
     have q:=JL ok (wV hw) (zM (zO hb).1) ok.start (i:=w.length) (by omega) (by omega)
     rw[JK (by omega)]at q
     have e5' : PC zB [n.av,iL w]=some (.bool true):=by rw[e5];simp[ak.matched,hv,hw,hb]
     simp[e1,hv,e2,e3,hw,e4,hm,e5', e6,q.1.1,q.1.2,ak.acc,hb]
    ·have e5' : PC zB [n.av,iL w]=some (.bool false):=by rw[e5];simp[ak.matched,hv,hw,hb]
     simp[e1,hv,e2,e3,hw,e4,hm,e5', ak.acc,hb]
  ·simp[e1,hv,e2,e3,hw,ak.acc]
 ·simp[e1,hv,ak.acc]
theorem alV (n:ak) (hf:n.fits) (w:List Int) (hl:(w.length:Int)<=9223372036854775807):PC IU [n.av,iL w]=some (.bS [.bool (n.acc w).1,.int (n.acc w).2]):=by
 refine cu (aip rfl ?_);have e1:=JE n hf
 by_cases hv:n.bC=0
 case neg=>simp[e1,hv,ak.acc]
 have ok:=qp hv;have e2:=SI n (Ok.sum ok).1 (Ok.sum ok).2;have e3:PC EC [iL w,.int (n.calls+n.aj+n.aq)]=some (.int (eD w n.syms)):=alF w _ hl
 by_cases hw:eD w n.syms=0
 case neg=>simp[e1,hv,e2,e3,hw,ak.acc]
 have GG:=wV hw;have e4:PC ED [n.av,iL w]=some (.bS [.int (n.ig w).2.1,.bool (n.tt w)]):=alK n w (Ok.sum ok).1 (by have:=GG.1;omega)
 by_cases hm:64<(n.ig w).2.1
 ·simp[e1,hv,e2,e3,hw,e4,hm,ak.acc]
 by_cases hb:n.tt w=true
 case neg=>simp[e1,hv,e2,e3,hw,e4,hm,hb,ak.acc]
 have hu:=zM (zO hb).1;have hs:=ok.start;rw[show n.acc w=(ix n.accept (n.run n.start w).1,0)by simp[ak.acc,hv,hw,hm,hb]]
 simp[e1,hv,e2,e3,hw,e4,hm,hb];refine bu (λp:Int×Option (List Int×Nat)=>[(7,.int p.1),(12,.int (n.bN n.start w p.1).1)]) (λp=>EX p.2) (λp=>(0<=p.1/\p.1<=w.length)/\gw p.1.toNat p.2/\xN p.2=(n.bN n.start w p.1).2) (λp=>(w.length-p.1).toNat) (0,none) (by rfl) ⟨⟨by simp,by simp⟩,by simp[gw],rfl⟩ ?_
 rintro⟨i,o⟩ ⟨⟨i0,i1⟩,h1,h2⟩;dsimp only at i0 i1 h1 h2 ⊢;obtain⟨⟨a0,a1⟩,b,c⟩:=JL ok GG hu hs i0 i1
 by_cases hi:i<w.length
 ·have e:=JJ (n:=n) (s:=n.start) i0 hi
  have hx:=GG.2 _ (aU i0 hi);have ln:=ok.lens;have rw' :=ok.row _ a0 a1;have hc:=ok.calls;have eZ:=ok.aj;have GK:=ok.aq;have GL:=GG.1;have GM:gw 100000 o:=by
   cases o with
   |none=>trivial
   |some p=>obtain⟨xs,k⟩:=p;simp only[gw]at h1 ⊢;omega
  by_cases c1:ix w i<n.calls
  ·have p1:=SO (x:=ix (ix n.push (n.bN n.start w i).1) (ix w i)) h1
   have e' : n.bN n.start w (i+1)=(ix (ix n.call (n.bN n.start w i).1) (ix w i),ix (ix n.push (n.bN n.start w i).1) (ix w i)::(n.bN n.start w i).2):=by rw[e,ak.step,ae c1]
   have q1:=alN n (n.bN n.start w i).1 (ix w i) a0 (by omega) (by omega) hx.1 (by omega) (by omega)
   have q2:=alQ (ix (ix n.push (n.bN n.start w i).1) (ix w i)) o GM;simp[hi,i0,c1,q1,q2,-ao]
   (repeat' apply And.intro)<;>try omega
   refine aX (i+1,ij (ix (ix n.push (n.bN n.start w i).1) (ix w i)) o) (by simp[e']) (by simp) ⟨⟨by dsimp only;omega,by dsimp only;omega⟩,?_,?_⟩ (by dsimp only;omega)
   ·show gw (i+1).toNat _
    rw[show(i+1).toNat=i.toNat+1 by omega];exact p1.2
   ·show _=(n.bN n.start w (i+1)).2
    rw[e', <-h2];exact p1.1
  by_cases c2:ix w i<n.calls+n.aj
  ·have e' : n.bN n.start w (i+1)=(ix (ix n.inner (n.bN n.start w i).1) (ix w i-n.calls),(n.bN n.start w i).2):=by rw[e,ak.step,ab c1,ae c2]
   have q1:=alO n (n.bN n.start w i).1 (ix w i-n.calls) a0 (by omega) (by omega) (by omega)
   simp[hi,i0,c1,c2,q1,-ao]
   (repeat' apply And.intro)<;>try omega
   refine aX (i+1,o) (by simp[e']) (by simp) ⟨⟨by dsimp only;omega,by dsimp only;omega⟩,?_,?_⟩ (by dsimp only;omega)
   ·cases o with
    |none=>trivial
    |some p=>obtain⟨xs,k⟩:=p;simp only[gw]at h1 ⊢;omega
   ·show _=(n.bN n.start w (i+1)).2
    rw[e'];exact h2
  ·have e' : n.bN n.start w (i+1)=(ix (ix (ix n.pop (n.bN n.start w i).1) (hd (n.bN n.start w i).2)) (ix w i-n.calls-n.aj),(n.bN n.start w i).2.tail):=by rw[e,ak.step,ab c1,ab c2]
   have db:=hu (i+1) (by omega) (by omega)
   rw[tq i0 hi]at db;simp only[ak.gO,ak.uP,ab c1,ae (show n.calls+n.aj<=ix w i by omega)]at db
   have b8:(n.bN n.start w i).2 ≠ []:=λh=>by rw[h]at b;simp at b;omega
   obtain⟨p1,p2,xs,k,rfl,p3,p4,p5⟩:=SP h1 (by rw[h2];exact b8)
   rw[h2]at p1 p5;have hg:hd (n.bN n.start w i).2∈(n.bN n.start w i).2:=by
    obtain⟨g,l,LV⟩:=List.exists_cons_of_ne_nil b8;rw[LV,JI];simp
   have qg:=c _ hg;have d3:=ok.EW _ _ a0 a1 qg.1 qg.2;have q1:=alP n (n.bN n.start w i).1 (hd (n.bN n.start w i).2) (ix w i-n.calls-n.aj) a0 (by omega) qg.1 (by omega) (by omega) (by omega)
   have q2:=SQ xs k p3 p4 GM.2;rw[p5]at q2;simp[hi,i0,c1,c2,q1,q2,-ao]
   (repeat' apply And.intro)<;>try omega
   refine aX (i+1,nu (some (xs,k))) (by simp[e']) (by simp) ⟨⟨by dsimp only;omega,by dsimp only;omega⟩,?_,?_⟩ (by dsimp only;omega)
   ·simp only[nu,gw]at p2 ⊢;omega
   ·show _=(n.bN n.start w (i+1)).2
    rw[e'];exact p1
 ·rw[JK (n:=n) (s:=n.start) (w:=w) (i:=i) (by omega)]at a0 a1 ⊢
  simp[hi,a0,a1]
structure fm where
 size:Nat
 call:Int->Int->Int×Int
 inner:Int->Int->Int
 pop:Int->Int->Int->Int
 calls:Int
 aj:Int
 aq:Int
structure fm.Ok (M:fm):Prop where
 size:(M.size:Int)<=100000
 calls:0<=M.calls/\M.calls<=100000
 aj:0<=M.aj/\M.aj<=100000
 aq:0<=M.aq/\M.aq<=100000
 call:∀s c,0<=s->s<(M.size:Int)->0<=c->c<M.calls->0<=(M.call s c).1/\(M.call s c).1<(M.size:Int)
 inner:∀s i,0<=s->s<(M.size:Int)->0<=i->i<M.aj->0<=M.inner s i/\M.inner s i<(M.size:Int)
 pop:∀s c t r,0<=s->s<(M.size:Int)->0<=c->c<M.calls->0<=t->t<(M.size:Int)->0<=r->r<M.aq->0<=M.pop t (M.call s c).2 r/\M.pop t (M.call s c).2 r<(M.size:Int)
inductive kN (M:fm):Int->Int->Prop
 |refl (s:Int):kN M s s
 |aR (s i t:Int):0<=i->i<M.aj->kN M (M.inner s i) t->kN M s t
 |call (s c p r t:Int):0<=c->c<M.calls->0<=r->r<M.aq->kN M (M.call s c).1 p->kN M (M.pop p (M.call s c).2 r) t->kN M s t
theorem kN.trans{M:fm}{a b c:Int}(h:kN M a b) (k:kN M b c):kN M a c:=by
 induction h with
 |refl s=>exact k
 |aR s i t h0 h1 _ ih=>exact .aR s i c h0 h1 (ih k)
 |call s x p r t h0 h1 h2 h3 h4 _ _ ih=>exact .call s x p r c h0 h1 h2 h3 h4 (ih k)
theorem kN.range{M:fm}(hM:M.Ok){a b:Int}(h:kN M a b) (ha:0<=a/\a<(M.size:Int)):0<=b/\b<(M.size:Int):=by
 induction h with
 |refl s=>exact ha
 |aR s i t h0 h1 _ ih=>exact ih (hM.inner s i ha.1 ha.2 h0 h1)
 |call s x p r t h0 h1 h2 h3 h4 _ lZ mM=>
  have hp:=lZ (hM.call s x ha.1 ha.2 h0 h1);exact mM (hM.pop s x p r ha.1 ha.2 h0 h1 hp.1 hp.2 h2 h3)
inductive od (S:Int->Int->Prop):Int->Int->Prop
 |refl (s:Int):od S s s
 |tail (s t u:Int):od S s t->S t u->od S s u
theorem od.trans{S:Int->Int->Prop}{a b c:Int}(h:od S a b) (k:od S b c):od S a c:=by
 induction k with
 |refl=>exact h
 |tail t u _ h2 ih=>exact .tail a t u ih h2
theorem od.head{S:Int->Int->Prop}{a b c:Int}(h:S a b) (k:od S b c):od S a c:=(od.tail a a b (.refl a) h).trans k
def rel (m:List (List Bool)) (s t:Int):Prop:=0<=s/\s<m.length/\0<=t/\t<m.length/\ix (ix m s) t=true
theorem SS{l:List Bool}{i:Nat}{x:Bool}{j:Int}(hj:0<=j) (hi:i<l.length):ix (l.set i x) j=if j=i then x else ix l j:=by
 unfold ix;rw[gL,gL,List.getElem?_set]
 by_cases h:i=j.toNat
 ·rw[ae h,ae hi,ae (by omega)];rfl
 ·rw[ab h,ab (by omega)]
theorem SU{l:List Bool}{i:Nat}(h:i<l.length) (hv:ix l i=false):(l.set i true).count false+1=l.count false:=by
 rw[aT h]at hv;rw[List.count_set h];simp[hv];have:0<l.count false:=List.count_pos_iff.2 (by rw[<-hv];exact List.getElem_mem h)
 omega
structure Spr (m:List (List Bool)) (a:Int) (seen:List Bool) (l:List Int):Prop where
 len:seen.length=m.length
 mem:∀t,0<=t->t<(m.length:Int)->(ix seen t=true↔t∈l)
 fx:∀t∈l,0<=t/\t<(m.length:Int)
 star:∀t∈l,od (rel m) a t
 start:a∈l
 cnt:l.length+seen.count false=m.length
theorem Spr.more{m:List (List Bool)}{a s t:Int}{seen:List Bool}{l:List Int}(h:Spr m a seen l) (hs:s∈l) (bV:rel m s t) (hn:ix seen t=false):Spr m a (seen.set t.toNat true) (l ++ [t]):=by
 have y5 :=bV;obtain⟨_,_,t0,t1,_⟩:=bV;have hr:t.toNat<seen.length:=by rw[h.len];omega
 refine⟨by rw[nQ];exact h.len,λu u0 u1=>?_,λu hu=>?_,λu hu=>?_,by simp[h.start],?_⟩
 ·rw[SS u0 hr]
  by_cases EY:u=t.toNat
  ·rw[ae EY];simp;right;omega
  ·rw[ab EY,h.mem u u0 u1];simp;intro;omega
 ·rcases eH.1 hu with hu|hu
  ·exact h.fx u hu
  ·simp at hu;subst hu;exact⟨t0,t1⟩
 ·rcases eH.1 hu with hu|hu
  ·exact h.star u hu
  ·simp at hu;subst hu;exact .tail a s u (h.star s hs) y5
 ·have:=SU hr (by rw[show((t.toNat:Nat):Int)=t by omega];exact hn)
  have:=h.cnt;simp;omega
abbrev alW (r:List Bool):ag:=⟨none,r.map .bool,.live⟩
abbrev refs (k N:Nat):List AV:=(List.range k).map λi=>AV.sl (2+i) N 0 N
def tt (box:ag) (N:Nat) (m:List (List Bool)) (rest:List ag):List ag:=box::⟨none,refs m.length N++List.replicate (N-m.length) .ah,.live⟩::(m.map alW++rest)
theorem JM:∀(σ:List ag) (i:Nat),al σ i=σ[i]?
 | [],i=>by simp[al]
 |x::r,0=>rfl
 |x::r,i+1=>by simp[al,JM r i]
theorem SV:∀(σ:List ag) (i:Nat) (B:ag),az σ i B=σ.set i B
 | [],i,B=>by simp[az]
 |x::r,0,B=>rfl
 |x::r,i+1,B=>by simp[az,SV r i B]
structure MOk (t:Nat) (v:AV) (M:fm):Prop where
 loc:aO v=true
 wk:Ab.wk v=v
 size:∃f,eM [(jL,jM),(ju,pt)] t=some f/\PC f [v]=some (.int M.size)
 call:∃f,eM [(jL,tj),(ju,CQ)] t=some f/\∀s c,0<=s->s<(M.size:Int)->0<=c->c<M.calls->PC f [v,.int s,.int c]=some (.bS [.int (M.call s c).1,.int (M.call s c).2])
 inner:∃f,eM [(jL,th),(ju,CO)] t=some f/\∀s i,0<=s->s<(M.size:Int)->0<=i->i<M.aj->PC f [v,.int s,.int i]=some (.int (M.inner s i))
 pop:∃f,eM [(jL,tm),(ju,CT),(IW,wO)] t=some f/\∀s c u r,0<=s->s<(M.size:Int)->0<=c->c<M.calls->0<=u->u<(M.size:Int)->0<=r->r<M.aq->PC f [v,.int u,.int (M.call s c).2,.int r]=some (.int (M.pop u (M.call s c).2 r))
def ak.eK (n:ak):fm:=⟨n.accept.length,λs c=>(ix (ix n.call s) c,ix (ix n.push s) c),λs i=>ix (ix n.inner s) i,λs g r=>ix (ix (ix n.pop s) g) r,n.calls,n.aj,n.aq⟩
theorem SX{n:ak}(h:n.Ok):n.eK.Ok:=by
 have:=h.states;have:=h.calls;have:=h.aj;have:=h.aq;refine⟨?_,?_,?_,?_,λs c s0 s1 c0 c1=>h.call s c s0 s1 c0 c1,λs i s0 s1 c0 c1=>h.inner s i s0 s1 c0 c1,λs c t r s0 s1 c0 c1 t0 t1 r0 r1=>?_⟩<;>simp only[ak.eK]at *<;>try omega
 have q:=h.push s c s0 s1 c0 c1;exact h.pop t _ r t0 t1 q.1 q.2 r0 r1
end Ab
