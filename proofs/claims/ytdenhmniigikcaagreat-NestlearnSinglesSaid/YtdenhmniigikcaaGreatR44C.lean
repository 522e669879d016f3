/- What reads as its own reads so anywhere. Condition: none. -/
import Derived.Test.YtdenhmniigikcaaGreatKey
import Derived.Test.YtdenhmniigikcaaGreatR44A
set_option linter.all false
set_option maxRecDepth 100000
set_option maxHeartbeats 4000000
namespace Ab
def LF{d i:Type}{f g:d->Option i}(h:∀x y,f x=some y->g x=some y):∀{l:List d}{m:List i},bJ f l=some m->bJ g l=some m
 | [],m,e=>e
 |x::l,m,e=>by
  simp only[bJ]at e ⊢;cases a:f x with
  |none=>rw[a]at e;simp at e
  |some y=>
   rw[a]at e;cases b:bJ f l with
   |none=>rw[b]at e;simp at e
   |some s=>
    rw[b]at e;rw[h _ _ a,LF h b];exact e
def AE{σ:List al}:∀{k:Nat}{x y:AV},view σ true k x=some y->view σ false k x=some y
 |0,x,y,e=>by simp[view]at e
 |k+1,x,y,e=>by
  have j:∀{l m:List AV},bJ (view σ true k) l=some m->bJ (view σ false k) l=some m:=λh=>LF (λx y=>AE) h;unfold view at e ⊢;cases x with
  |sl b u off len=>
   simp only at e ⊢;cases i:upto σ b u with
   |none=>rw[i]at e;simp at e
   |some B=>
    rw[i]at e;simp only at e ⊢;split at e
    .rename_i n
     rw[ae n];cases a:bJ (view σ true k) (chunk B.k len (B.cells.drop off))with
     |none=>rw[a]at e;simp at e
     |some m=>rw[a]at e;rw[j a];exact e
    .simp at e
  |ptr b u off=>
   simp only at e ⊢;cases i:upto σ b u with
   |none=>rw[i]at e;simp at e
   |some B=>
    rw[i]at e;simp only at e ⊢;split at e
    .rename_i n
     rw[ae n];cases o:part B.cells 0 B.k with
     |none=>rw[o]at e;simp at e
     |some z=>
      rw[o]at e;simp only at e ⊢;cases d:view σ true k z with
      |none=>rw[d]at e;simp at e
      |some p =>rw[d]at e;rw[AE d];exact e
    .simp at e
  |agg l=>
   simp only at e ⊢;cases a:bJ (view σ true k) l with
   |none=>rw[a]at e;simp at e
   |some m=>rw[a]at e;rw[j a];exact e
  |func g l=>
   simp only at e ⊢;cases a:bJ (view σ true k) l with
   |none=>rw[a]at e;simp at e
   |some m=>rw[a]at e;rw[j a];exact e
  |iface t v=>
   simp only at e ⊢;cases d:view σ true k v with
   |none=>rw[d]at e;simp at e
   |some p =>rw[d]at e;rw[AE d];exact e
  |aF b l=>simp at e
  |a8 v=>simp at e
  |_=>exact e
def aow{σ:List al}{x y:AV}(e:bP σ true x=some y):bP σ false x=some y:=by
 unfold bP at e ⊢;cases x with
 |bM l=>
  simp only at e ⊢;cases a:bJ (view σ true vd) l with
  |none=>rw[a]at e;simp at e
  |some m=>rw[a]at e;rw[LF (λx y=>AE) a];exact e
 |_=>exact AE e
def PF (f:Nat) (args:List AV) (r:AV):Prop:=LX L f args [] λv a =>bP a true v=some r
variable{f:Nat}{args:List AV}{r:AV}
def PF.pc(h:PF f args r):PC f args=some r:=by
 obtain⟨v,cR, h1,h2⟩:=dd h;simp only[PC,rW,h1];exact aow h2
def VT(h:LX L f args [] λv a =>aS (bP a true v) (·= r)):PF f args r:=by
 obtain⟨v,a, b,d⟩:=dd h;obtain⟨u,e,rfl⟩:=kC d;exact za b e
def VU{n:Nat}:∀l:List Int,kL n (l.map .int)=l.map .int
 | []=>rfl
 |x::l=>by simp only[cS,kL,VU l];rfl
variable{l:List Int}
def LG{n:Nat}:gH n (bp l)=bp l:=by
 simp only[gH,VU]
 by_cases h:l=[]<;>simp[h]
def ao.fQ (n:ao) (v:List Int) (i:Int):List Int:=v.map λs=>ix (ix n.inner s) i
def ao.LH (n:ao) (l w:List Int) (c r s:Int):Int:=ix (ix (ix n.pop (ix w ((l.idxOf (ix (ix n.call s) c):Nat):Int))) (ix (ix n.push s) c)) r
def ao.jo (n:ao) (l v w:List Int) (c r:Int):List Int:=v.map (n.LH l w c r)
def VV (n:ao) (d:n.Ok) (l:List Int) (i:Int) (g:0<=i/\i<n.ak) (h:n.oF l) (q:l.length<=1000):L B8 [n.av,iL l,.int i] []=some (.sl 0 l.length 0 l.length,[bp (n.fQ l i)]):=by
 refine jP (ajG rfl ?_);have r:=d.lens;simp[-aj];refine aK (λk:Nat=>[(3,.int k),(4,.sl 0 k 0 k)]) (λk=>[bp ((l.take k).map λs=>ix (ix n.inner s) i)]) (λk=>k<=l.length) (λk=>l.length-k) 0 aX aa ?_
 intro k u
 by_cases e:k<l.length
 .have b:=h _ (aJ (l:=l) (n:=(k:Int)) aa aa)
  have j:=(d.row _ b.1 b.2).2.2.1;have m:=az (show ix l (k:Int)<(n.inner.length:Int)by omega)
  have o:=az (show i<((ix n.inner (ix l (k:Int))).length:Int)by omega)
  have a:min k l.length=k:=ql aa
  simp[-aj,-List.map_take,e,b.1,m,o,g.1,a];exact⟨dE,aa,aa,aD (k+1) ab (by rw[gx e];simp) aa aa⟩
 .have p:k=l.length:=by omega
  subst p;simp[-aj,ao.fQ]
def LI (n:ao) (g:n.Ok) (e l w:List Int) (c r:Int) (b:0<=c/\c<n.calls) (j:0<=r/\r<n.ah) (u:n.oF l) (P:l.length<=1000) (Q:e.length<=1000) (m:∀s c,0<=s->s<(n.accept.length:Int)->0<=c->c<n.calls->ix (ix n.call s) c∈e) (x:n.oF w) (y:w.length=e.length):L zq [n.av,iL e,iL l,iL w,.int c,.int r] []=some (.sl 0 l.length 0 l.length,[bp (n.jo e l w c r)]):=by
 refine jP (ajH rfl ?_);have R:=g.lens;simp[-aj];refine aK (λk:Nat=>[(6,.int k),(8,.sl 0 k 0 k)]) (λk=>[bp ((l.take k).map (n.LH e w c r))]) (λk=>k<=l.length) (λk=>l.length-k) 0 aX aa ?_
 intro k S
 by_cases q:k<l.length
 .have a:=u _ (aJ (l:=l) (n:=(k:Int)) aa aa)
  have tk:=gx q;have z:=g.row _ a.1 a.2;have A:=AD (D1 e (ix (ix n.call (ix l (k:Int))) c) aa)
  have B:=List.idxOf_lt_length_iff.2 (m _ c a.1 a.2 b.1 b.2);have o:n.LH e w c r (ix l (k:Int))=ix (ix (ix n.pop (ix w ((e.idxOf (ix (ix n.call (ix l (k:Int))) c):Nat):Int))) (ix (ix n.push (ix l (k:Int))) c)) r:=rfl;have C:=g.call _ _ a.1 a.2 b.1 b.2;have d:=g.push _ _ a.1 a.2 b.1 b.2;generalize e.idxOf (ix (ix n.call (ix l (k:Int))) c)=p at *;have h:=x _ (aJ (l:=w) (n:=(p:Int)) aa aa)
  have D:=g.row _ h.1 h.2;have E:=g.CW _ _ h.1 h.2 d.1 d.2;have i:min k l.length=k:=ql aa
  have F:=az (show ix l (k:Int)<(n.call.length:Int)by omega)
  have G:=az (show c<((ix n.call (ix l (k:Int))).length:Int)by omega)
  have H:=az (show(p:Int)<(w.length:Int)by omega)
  have I:=az (show ix w (p:Int)<(n.pop.length:Int)by omega)
  have J:=az (show ix l (k:Int)<(n.push.length:Int)by omega)
  have K:=az (show c<((ix n.push (ix l (k:Int))).length:Int)by omega)
  have M:=az (show ix (ix n.push (ix l (k:Int))) c<((ix n.pop (ix w (p:Int))).length:Int)by omega)
  have N:=az (show r<((ix (ix n.pop (ix w (p:Int))) (ix (ix n.push (ix l (k:Int))) c)).length:Int)by omega)
  simp[-aj,-List.map_take,q,a.1,b.1,A,F,G,H,h.1,I,J,K,d.1,M,j.1,N,i];exact⟨dE,aa,aa,aD (k+1) ab (by rw[tk];simp[o]) aa aa⟩
 .have O:k=l.length:=by omega
  subst O;simp[-aj,ao.jo]
def tO{a b:Type}{f:a->List b}{m:Nat}:∀{xs:List a},(∀x∈xs,(f x).length=m)->(xs.flatMap f).length=xs.length*m
 | [],_=>by simp
 |x::xs,h=>by
  rw[iI,aU,h x ab,tO (xs:=xs) λy d=>h y fM,cO,Nat.succ_mul];omega
def ao.A9 (n:ao) (e v:List Int) (w:List Int) (c:Int) (r:Nat):List (List Int):=[n.jo e v w c (r:Int),n.jo e w v c (r:Int)]
def ao.xG (n:ao) (e v w:List Int) (c:Nat):List (List Int):=(List.range n.ah.toNat).flatMap (n.A9 e v w (c:Int))
def ao.sz (n:ao) (e:List Int) (all:List (List Int)) (v:List Int) (k:Nat):List (List Int):=(List.range n.calls.toNat).flatMap (n.xG e v (ix all (k:Int)))
def ao.wa (n:ao) (e:List Int) (all:List (List Int)) (x:Nat):List (List Int):=((List.range n.ak.toNat).map λ(i:Nat)=>n.fQ (ix all (x:Int)) (i:Int))++(List.range (x+1)).flatMap (n.sz e all (ix all (x:Int)))
variable{e v:List Int}
def VW{n:ao}{w:List Int}{c:Nat}:(n.xG e v w c).length=n.ah.toNat*2:=by
 unfold ao.xG;rw[tO (m:=2) λx _=>rfl,ou]
variable{all:List (List Int)}{k:Nat}
def LJ{n:ao}:(n.sz e all v k).length=n.calls.toNat*(n.ah.toNat*2):=by
 unfold ao.sz;rw[tO (m:=n.ah.toNat*2) λx _=>VW,ou]
def aox{n:ao}{m:Nat}(b:v.length=m) (d:(ix all (k:Int)).length=m):∀r∈n.sz e all v k,r.length=m:=λr a=>by
 obtain⟨c,_,a⟩:=mW.1 a;obtain⟨j,_,a⟩:=mW.1 a;simp only[ao.A9,b5,List.not_mem_nil,or_false]at a;rcases a with rfl|rfl<;>simp[ao.jo,b,d]
def LL{a:Type}{f:Nat->List a}:(List.range (k+1)).flatMap f=(List.range k).flatMap f++f k:=by rw[jh,List.flatMap_append];simp
theorem aoy{K:Nat}{R:List (List Int)}(d:∀r∈R,r.length=K):view (vj K R) true vd (.sl 0 R.length 0 R.length)=some (b8 R):=by
 have h:(AA R.length).fG=true:=by unfold AA;split<;>rfl
 have e:R.map iL=(List.range R.length).map λ(i:Nat)=>iL (ix R (i:Int)):=by
  apply me
  .simp
  .intro i b m
   simp at b;simp[aB b]
 show view _ true (11+1) _=some (.aF false (R.map iL));rw[e];refine SS (f:=λi=>AV.sl (1+i) K 0 K) (xs:=List.range R.length) (st:=AA R.length) rfl h ab λi a=>?_
 have a:=bQ.1 a;have j:aq (vj K R) (1+i)=some (bp (ix R (i:Int))):=by
  rw[C3,show 1+i=i+1 by omega]
  unfold vj;rw[List.getElem?_cons_succ];simp[a,aB a]
 have l:=d (ix R (i:Int)) (aJ aa aa)
 exact dQ (k:=10) (f:=AV.int) (g:=AV.int) (xs:=ix R (i:Int)) j dE l.symm λ_ _=>rfl
def aoz (n:ao) (H:n.Ok) (e:List Int) (all:List (List Int)) (x:Nat) (hx:x<all.length) (d:∀v∈all,n.oF v/\v.length=e.length) (lJ:all.length<=512) (he:e.length<=1000) (I:∀s c,0<=s->s<(n.accept.length:Int)->0<=c->c<n.calls->ix (ix n.call s) c∈e):PF JH [n.av,iL e,b8 all,.int x] (b8 (n.wa e all x)):=by
 refine VT (ajE rfl ?_);have p:=d _ (aJ (l:=all) (n:=(x:Int)) aa aa)
 have J :=az (show(x:Int)<(all.length:Int)by omega)
 have O:=H.ak;have P:=H.calls;have Q:=H.ah;obtain⟨M,yU⟩:=gM O.1;obtain⟨b,z8⟩:=gM P.1;obtain⟨a,AX⟩:=gM Q.1;have BN : ix all (x:Int)=ix all (x:Int):=rfl;have e0:[(⟨none,[],.gN⟩:al)]=vj e.length []:=rfl;simp[-aj];refine aK (λi:Nat=>[(4,.int i),(6,.sl 0 i 0 i)]) (λi=>vj e.length ((List.range i).map λ(i:Nat)=>n.fQ (ix all (x:Int)) (i:Int))) (λi=>i<=M) (λi=>M-i) 0 (by simp[du,vj,AA]) aa ?_
 intro i i0
 by_cases hi:i<M
 .have q :=az (show(i:Int)<n.ak by omega)
  have hL:=VV n H (ix all (x:Int)) (i:Int) ⟨aa,aa⟩ p.1 aa
  rw[p.2]at hL;have hlen:=Lz (K:=e.length) (R:=(List.range i).map λ(i:Nat)=>n.fQ (ix all (x:Int)) (i:Int));have hp:=LA (K:=e.length) (R:=(List.range i).map λ(i:Nat)=>n.fQ (ix all (x:Int)) (i:Int)) (r:=n.fQ (ix all (x:Int)) (i:Int));have b0:=AB (K:=e.length) (R:=(List.range i).map λ(i:Nat)=>n.fQ (ix all (x:Int)) (i:Int)) (l:=[bp (n.fQ (ix all (x:Int)) (i:Int))]);have S:=LG (n:=1+i) (l:=n.fQ (ix all (x:Int)) (i:Int));have T:(List.range (i+1)).map (λ(i:Nat)=>n.fQ (ix all (x:Int)) (i:Int))=(List.range i).map (λ(i:Nat)=>n.fQ (ix all (x:Int)) (i:Int)) ++ [n.fQ (ix all (x:Int)) (i:Int)]:=by simp[jh]
  have U:((List.range i).map λ(i:Nat)=>n.fQ (ix all (x:Int)) (i:Int)).length=i:=ab
  generalize (List.range i).map (λ(i:Nat)=>n.fQ (ix all (x:Int)) (i:Int))=R at *;rw[U]at hlen hp b0;simp[-aj,q, J, hL,hlen,js,S,b0,hp];exact⟨by unfold AA;split<;>rfl,aa,aa,aD (i+1) ab (by rw[T]) aa aa⟩
 .have ei:i=M:=by omega
  subst ei;have q :=bX (show ¬(i:Int)<n.ak by omega)
  have V:n.ak.toNat=i:=aa
  simp[-aj,q];have hA:∀r∈(List.range i).map (λ(i:Nat)=>n.fQ (ix all (x:Int)) (i:Int)),r.length=e.length:=λr g=>by
   obtain⟨j,_,rfl⟩:=cx.1 g;simp[ao.fQ,p.2]
  have W:((List.range i).map (λ(i:Nat)=>n.fQ (ix all (x:Int)) (i:Int))).length=i:=ab
  have L:n.wa e all x=(List.range i).map (λ(i:Nat)=>n.fQ (ix all (x:Int)) (i:Int))++(List.range (x+1)).flatMap (n.sz e all (ix all (x:Int))):=by unfold ao.wa;rw[V]
  generalize (List.range i).map (λ(i:Nat)=>n.fQ (ix all (x:Int)) (i:Int))=A at *;have X:b*(a*2)<=64*(64*2):=jT aa aa
  have u:n.calls.toNat=b:=aa
  have o:n.ah.toNat=a:=aa
  have hVx:ix all (x:Int)=ix all (x:Int):=rfl;refine aK (λk:Nat=>[(7,.int k),(6,.sl 0 (A.length+k*(b*(a*2))) 0 (A.length+k*(b*(a*2))))]) (λk=>vj e.length (A++(List.range k).flatMap (n.sz e all (ix all (x:Int))))) (λk=>k<=x+1) (λk=>x+1-k) 0 (by simp[du,W]) ab ?_
  intro k k0
  by_cases Y:k<x+1
  .have w :=az (show(k:Int)<=(x:Int)by omega)
   have Z:=az (show(k:Int)<(all.length:Int)by omega)
   have N:=d _ (aJ (l:=all) (n:=(k:Int)) aa aa)
   have X3:k*(b*(a*2))<=512*(64*(64*2)):=jT aa X
   have hB:(A++(List.range k).flatMap (n.sz e all (ix all (x:Int)))).length=A.length+k*(b*(a*2)):=by
    rw[aU,tO (m:=b*(a*2)) λy _=>by rw[LJ,u,o],ou]
   have hBs:(A++(List.range (k+1)).flatMap (n.sz e all (ix all (x:Int))))=(A++(List.range k).flatMap (n.sz e all (ix all (x:Int))))++n.sz e all (ix all (x:Int)) k:=by rw[LL,gZ]
   have z:(k+1)*(b*(a*2))=k*(b*(a*2))+b*(a*2):=Nat.succ_mul _ _;generalize hBB:A++(List.range k).flatMap (n.sz e all (ix all (x:Int)))=B at *;generalize sG:k*(b*(a*2))=kk at *;simp[-aj,w];refine aK (λc:Nat=>[(8,.int c),(6,.sl 0 (B.length+c*(a*2)) 0 (B.length+c*(a*2)))]) (λc=>vj e.length (B++(List.range c).flatMap (n.xG e (ix all (x:Int)) (ix all (k:Int))))) (λc=>c<=b) (λc=>b-c) 0 (by simp[du,hB]) ab ?_
   intro c c0
   by_cases hc:c<b
   .have C :=az (show(c:Int)<n.calls by omega)
    have EK:c*(a*2)<=64*(64*2):=jT aa aa
    have hD:(B++(List.range c).flatMap (n.xG e (ix all (x:Int)) (ix all (k:Int)))).length=B.length+c*(a*2):=by
     rw[aU,tO (m:=a*2) λy _=>by rw[VW,o],ou]
    have hDs:B++(List.range (c+1)).flatMap (n.xG e (ix all (x:Int)) (ix all (k:Int)))=(B++(List.range c).flatMap (n.xG e (ix all (x:Int)) (ix all (k:Int))))++n.xG e (ix all (x:Int)) (ix all (k:Int)) c:=by rw[LL,gZ]
    have hsc:(c+1)*(a*2)=c*(a*2)+a*2:=Nat.succ_mul _ _;generalize hDD:B++(List.range c).flatMap (n.xG e (ix all (x:Int)) (ix all (k:Int)))=D at *;generalize sO:c*(a*2)=cc at *;simp[-aj,C];refine aK (λr:Nat=>[(9,.int r),(6,.sl 0 (D.length+r*2) 0 (D.length+r*2))]) (λr=>vj e.length (D++(List.range r).flatMap (n.A9 e (ix all (x:Int)) (ix all (k:Int)) (c:Int)))) (λr=>r<=a) (λr=>a-r) 0 (by simp[du,hD]) ab ?_
    intro r r0
    by_cases g:r<a
    .have F :=az (show(r:Int)<n.ah by omega)
     have hE:(D++(List.range r).flatMap (n.A9 e (ix all (x:Int)) (ix all (k:Int)) (c:Int))).length=D.length+r*2:=by
      rw[aU,tO (m:=2) λy _=>rfl,ou]
     have hEs:D++(List.range (r+1)).flatMap (n.A9 e (ix all (x:Int)) (ix all (k:Int)) (c:Int))=(D++(List.range r).flatMap (n.A9 e (ix all (x:Int)) (ix all (k:Int)) (c:Int))) ++ [n.jo e (ix all (x:Int)) (ix all (k:Int)) (c:Int) (r:Int)] ++ [n.jo e (ix all (k:Int)) (ix all (x:Int)) (c:Int) (r:Int)]:=by rw[LL];simp[ao.A9]
     have L1:=LI n H e (ix all (x:Int)) (ix all (k:Int)) (c:Int) (r:Int) ⟨aa,aa⟩ ⟨aa,aa⟩ p.1 aa he I N.1 N.2
     have L2:=LI n H e (ix all (k:Int)) (ix all (x:Int)) (c:Int) (r:Int) ⟨aa,aa⟩ ⟨aa,aa⟩ N.1 aa he I p.1 p.2
     rw[p.2]at L1;rw[N.2]at L2;generalize n.jo e (ix all (x:Int)) (ix all (k:Int)) (c:Int) (r:Int)=G at *;generalize n.jo e (ix all (k:Int)) (ix all (x:Int)) (c:Int) (r:Int)=y2 at *;generalize D++(List.range r).flatMap (n.A9 e (ix all (x:Int)) (ix all (k:Int)) (c:Int))=E at *;have l1:=Lz (K:=e.length) (R:=E);have l2:=Lz (K:=e.length) (R:=E ++ [G]);have p1:=LA (K:=e.length) (R:=E) (r:=G);have p2:=LA (K:=e.length) (R:=E ++ [G]) (r:=y2);have b1:=AB (K:=e.length) (R:=E) (l:=[bp G]);have b2:=AB (K:=e.length) (R:=E ++ [G]) (l:=[bp y2]);have s1:=LG (n:=1+E.length) (l:=G);have s2:=LG (n:=1+(E.length+1)) (l:=y2);have eE1:(E ++ [G]).length=E.length+1:=ab
     rw[eE1]at l2 p2 b2;rw[<-hE];simp[-aj,F, J, Z,L1,L2,l1,l2,js,s1,s2,b1,b2,p1,p2];exact⟨by unfold AA;split<;>rfl,aa,by unfold AA;split<;>rfl,aa,aa,aD (r+1) ax (by rw[hEs];simp) aa aa⟩
    .have er:r=a:=by omega
     subst er;have F :=bX (show ¬(r:Int)<n.ah by omega)
     simp[-aj,F];have e1:D++(List.range r).flatMap (n.A9 e (ix all (x:Int)) (ix all (k:Int)) (c:Int))=D++n.xG e (ix all (x:Int)) (ix all (k:Int)) c:=by unfold ao.xG;rw[o]
     exact⟨aa,aD (c+1) (by rw[hsc,hD];simp;omega) (by rw[hDs,e1]) aa aa⟩
   .have ec:c=b:=by omega
    subst ec;have C :=bX (show ¬(c:Int)<n.calls by omega)
    simp[-aj,C];have e1:B++(List.range c).flatMap (n.xG e (ix all (x:Int)) (ix all (k:Int)))=B++n.sz e all (ix all (x:Int)) k:=by unfold ao.sz;rw[u]
    exact⟨aa,aD (k+1) (by rw[z,hB];simp;omega) (by rw[hBs,e1]) aa aa⟩
  .have ek:k=x+1:=by omega
   subst ek;have w :=bX (show ¬((x+1:Nat):Int)<=(x:Int)by omega)
   simp[-aj,w];refine⟨λh=>absurd h aa,λ_=>?_⟩
   have hF:(A++(List.range (x+1)).flatMap (n.sz e all (ix all (x:Int)))).length=A.length+(x+1)*(b*(a*2)):=by
    rw[aU,tO (m:=b*(a*2)) λy _=>by rw[LJ,u,o],ou]
   rw[<-hF,aoy λr g=>?_,L]
   .rfl
   .rcases cY.1 g with g|g
    .exact hA r g
    .obtain⟨k,Y,g⟩:=mW.1 g
     have Y:=bQ.1 Y;exact aox p.2 (d _ (aJ (l:=all) (n:=(k:Int)) aa aa)).2 r g
def aoA{x y:Int}:y∈fU l x↔y∈l\/y=x:=by
 unfold fU;split
 .rename_i h
  exact⟨.inl,λk=>k.elim id λe=>e▸h⟩
 .simp
def VX:∀{xs l:List Int}{y:Int},y∈xs.foldl fU l↔y∈l\/y∈xs
 | [],l,y=>by simp
 |x::xs,l,y=>by
  rw[jW,VX (xs:=xs),aoA,b5];exact or_assoc
def VY:∀{xs l:List Int},l.Nodup->(xs.foldl fU l).Nodup
 | [],_,h=>h
 |x::xs,l,h=>by
  refine VY (xs:=xs) ?_;unfold fU;split
  .exact h
  .rename_i g
   rw[rO];exact⟨h,ab,λa i b d e=>g (by simp at d;rw[<-d,<-e];exact i)⟩
def VZ:∀{xs l:List Int},∃r,xs.foldl fU l=l++r
 | [],l=>⟨[],ab⟩
 |x::xs,l=>by
  obtain⟨r,h⟩:=VZ (xs:=xs) (l:=fU l x);rw[jW,h];unfold fU;split
  .exact⟨r,rfl⟩
  .exact⟨x::r,ab⟩
section
variable{n:ao}
def V0{x:Int}:x∈n.bz↔x=n.start\/∃r∈n.call,x∈r:=by
 unfold ao.bz;rw[VX,List.mem_flatten];simp
def aoB:n.bz.Nodup:=VY ab
def V1:0<n.bz.length/\ix n.bz 0=n.start:=by
 obtain⟨r,h⟩:=VZ (xs:=n.call.flatten) (l:=[n.start]);unfold ao.bz;rw[h];exact⟨ab,rfl⟩
def V2 (a:n.Ok):n.oF n.bz:=λs b=>by
 refine tG a s (r7.2 (V0.1 b))
def LN (a:n.Ok):n.bz.length<=n.accept.length:=tB n.accept.length aoB (V2 a)
def LO (a:n.Ok):∀s c,0<=s->s<(n.accept.length:Int)->0<=c->c<n.calls->ix (ix n.call s) c∈n.bz:=λs c b d e h=>by
 have g:=(a.row s b d).1;have i:=a.lens;exact V0.2 (.inr ⟨_,aJ b aa,aJ e aa⟩)
structure ao.rV (n:ao) (v w:List Int):Prop where
 l:v.length=n.bz.length
 ww:Ww n.cK w
 d:∀j:Nat,j<n.bz.length->Wd n.eA (ix n.bz (j:Int)) (ix v (j:Int)) w
def V3:n.rV n.bz []:=⟨rfl,.nil,λj _=>.nil _⟩
variable{v w:List Int}
def ao.rV.eV (hn:n.Ok)(h:n.rV v w):n.oF v:=λs hs=>by
 obtain⟨j,hj,rfl⟩:=eL.1 hs;have hl:=h.l;have:=h.d j aa
 rw[aB hj,aB (show j<n.bz.length by omega)]at this
 exact this.range (J0 hn) (V2 hn _ (List.getElem_mem _))
def V4(h:n.rV v w){i:Int}(a:0<=i) (i1:i<n.ak):n.rV (n.fQ v i) (w ++ [n.calls+i]):=by
 have b:=h.l;refine⟨by simpa[ao.fQ]using b,.aQ w i a i1 h.ww,λj e=>?_⟩
 unfold ao.fQ;rw[iR aa aa]
 exact(h.d j e).app (.aQ _ i _ [] a i1 (.nil _))
def LP (i:n.Ok){y u:List Int}(h:n.rV v w) (g:n.rV y u){c r:Int}(a:0<=c) (b:c<n.calls) (m:0<=r) (o:r<n.ah):n.rV (n.jo n.bz v y c r) (w++c::(u ++ [n.calls+n.ak+r])):=by
 have q:=h.l;have s:=h.eV i;refine⟨by simpa[ao.jo]using q,.aq w u c r a b m o h.ww g.ww,λj x=>?_⟩
 unfold ao.jo;rw[iR aa aa]
 have p:=s _ (aJ (l:=v) (n:=(j:Int)) aa aa)
 refine(h.d j x).app ?_;have z:=LO i _ c p.1 p.2 a b;have e:=List.idxOf_lt_length_iff.2 z;have hd:=g.d _ e;have A:ix n.bz ((n.bz.idxOf (ix (ix n.call (ix v (j:Int))) c):Nat):Int)=ix (ix n.call (ix v (j:Int))) c:=by
  rw[aB e];exact List.getElem_idxOf e
 rw[A]at hd;exact Wd.call (M:=n.eA) _ c _ r _ u [] a b m o hd (.nil _)
def aoC (b:n.Ok){a:List Int}(h:n.rV v w) (g:n.rV a w):v=a :=by
 have m:=h.l;have e :=g.l;refine xc aa λs i o=>?_
 obtain⟨j,rfl⟩:=gM i;exact(h.d j aa).det b (g.d j aa)
structure Rk (n:ao) (K:List (List Int)):Prop where
 nd:K.Nodup
 h0:0<K.length/\ix K 0=n.bz
 w:∀v∈K,∃w,n.rV v w
variable{K:List (List Int)}
def Rk.len(h:Rk n K) (hn:n.Ok):K.length<=n.accept.length^n.bz.length:=by
 have:∀k∈K,k∈se n.accept.length n.bz.length:=λk hk=>by
  obtain⟨w,hw⟩:=h.w k hk;exact Ls hw.l (hw.eV hn)
 have h1:=Lf h.nd this;rw[Lr]at h1;exact h1
def Rk.num(h:Rk n K)(hv:∃w,n.rV v w):Rk n (fS K v):=by
 obtain⟨r,e,_⟩:=Df K v;have h0:=h.h0;refine⟨TD h.nd,?_,λk hk=>?_⟩
 .rw[e]
  exact⟨ax,by have:=qE (K:=K) (r:=r) (x:=0) h0.1;rw[show((0:Nat):Int)=0 from rfl]at this;rw[this];exact h0.2⟩
 .unfold fS at hk
  split at hk
  .exact h.w k hk
  .rcases cY.1 hk with hk|hk
   .exact h.w k hk
   .simp at hk;subst hk;exact hv
def Rk.aG(h:Rk n K):∀{vs:List (List Int)},(∀v∈vs,∃w,n.rV v w)->Rk n (aG K vs):=fun {vs} hv=>by
 induction vs generalizing K with
 |nil=>exact h
 |cons v vs ih=>exact ih (K:=fS K v) (h.num (hv v ab)) λu hu=>hv u (by simp[hu])
variable{x:Nat}
def V5{e:List Int}{r:List (List Int)}(b:x<K.length):n.wa e (K++r) x=n.wa e K x:=by
 unfold ao.wa;rw[qE b]
 congr 1
 have:∀l:List Nat,(∀k∈l,k<K.length)->l.flatMap (n.sz e (K++r) (ix K (x:Int)))=l.flatMap (n.sz e K (ix K (x:Int))):=λl=>by
  induction l with
  |nil=>intro _;rfl
  |cons k l d=>
   intro a;rw[iI,iI,d λy g=>a y iH]
   unfold ao.sz;rw[qE (a k ab)]
 exact this _ λk h=>by have:=bQ.1 h;omega
def D3:v∈n.wa n.bz K x↔(∃i:Nat,i<n.ak.toNat/\v=n.fQ (ix K (x:Int)) (i:Int))\/∃k c r:Nat,k<=x/\c<n.calls.toNat/\r<n.ah.toNat/\(v=n.jo n.bz (ix K (x:Int)) (ix K (k:Int)) (c:Int) (r:Int)\/v=n.jo n.bz (ix K (k:Int)) (ix K (x:Int)) (c:Int) (r:Int)):=by
 unfold ao.wa ao.sz ao.xG ao.A9;simp only[cY,cx,bQ,mW,b5,List.not_mem_nil,or_false];constructor
 .rintro(⟨i,a,rfl⟩|⟨k,e,c,b,r,d,h⟩)
  .exact .inl ⟨i,a,rfl⟩
  .exact .inr ⟨k,c,r,aa,b,d,h⟩
 .rintro(⟨i,a,rfl⟩|⟨k,c,r,e,b,d,h⟩)
  .exact .inl ⟨i,a,rfl⟩
  .exact .inr ⟨k,aa,c,b,r,d,h⟩
def V6 (g:n.Ok)(h:Rk n K)(l:x<K.length):∀v∈n.wa n.bz K x,∃w,n.rV v w:=λv j=>by
 have a:∀k:Nat,k<=x->∃w,n.rV (ix K (k:Int)) w:=λk a=>h.w _ (aJ aa aa)
 rcases D3.1 j with⟨i,m,rfl⟩|⟨k,c,r,b, o,p,rfl|rfl⟩
 .obtain⟨w,d⟩:=a x aa
  exact⟨_,V4 d aa aa⟩
 .obtain⟨w,d⟩:=a x aa
  obtain⟨u,e⟩:=a k b;exact⟨_,LP g d e aa aa aa aa⟩
 .obtain⟨w,d⟩:=a x aa
  obtain⟨u,e⟩:=a k b;exact⟨_,LP g e d aa aa aa aa⟩
end
structure jQ (n:ao) (K:List (List Int)):Prop where
 k:Rk n K
 c:∀x:Nat,x<K.length->∀v∈n.wa n.bz K x,v∈K
 l:K.length<=512
def aoD (n:ao) (h:n.Ok) (hb:n.accept.length^n.bz.length<=512):∃K,jQ n K/\PC Cx [n.av]=some (.bM [iL n.bz,b8 K,.bool true]):=by
 have Z:LX L Cx [n.av] [] (λv z =>∃K,jQ n K/\bP z false v=some (.bM [iL n.bz,b8 K,.bool true])):=by
  refine ai5 rfl ?_;have hE:=aov n h;have qF:=LN h;have gG:=h.eU;simp[-aj,hE];refine aK (λq:Nat×List (List Int)=>[(3,.int q.1),(4,.sl 0 q.2.length 0 q.2.length)]) (λq=>[⟨none,q.2.map iL,.live⟩]) (λq=>Rk n q.2/\q.1<=q.2.length/\q.2.length<=512/\∀x:Nat,x<q.1->∀v∈n.wa n.bz q.2 x,v∈q.2) (λq=>513-q.1) (0,[n.bz]) aX ⟨⟨ab,⟨ab,rfl⟩,λv d=>by simp at d;subst d;exact⟨_,V3⟩⟩,ab,ab,λx G=>aa⟩ ?_
  rintro⟨x,K⟩ ⟨p,I,H,N⟩;dsimp only at p I H N ⊢;have A:∀v∈K,n.oF v/\v.length=n.bz.length:=λv d=>by
   obtain⟨w,s⟩:=p.w v d;exact⟨s.eV h,s.l⟩
  by_cases G:x<K.length
  .have O :=az (show(x:Int)<(K.length:Int)by omega)
   have P:=tD (fr:=false) (σ:=[⟨none,K.map iL,.live⟩]) (b:=0) (n:=K.length) (xs:=K) (st:=.live) rfl rfl rfl;obtain⟨vv,τ,Q,R⟩:=dd (aoz n h n.bz K x G A H aa (LO h))
   have u:=V6 h p G;have B:=λr:List (List Int)=>V5 (n:=n) (e:=n.bz) (r:=r) G;have S:∃m:Nat,(n.wa n.bz K x).length=m/\m<=10000000:=by
    refine⟨_,rfl,?_⟩;have D4:=h.calls;have D5:=h.ah;have D6:=h.ak;unfold ao.wa;rw[aU,dA,ou,tO (m:=n.calls.toNat*(n.ah.toNat*2)) λy _=>LJ,ou];have:(x+1)*(n.calls.toNat*(n.ah.toNat*2))<=512*(64*(64*2)):=jT aa (jT aa aa)
    omega
   obtain⟨m,hm,yd⟩:=S;generalize hM:n.wa n.bz K x=M at *;simp[-aj,O, P,Q,R];refine aK (λi:Nat=>[(5,.int i),(4,.sl 0 (aG K (M.take i)).length 0 (aG K (M.take i)).length)]) (λi=>[⟨none,(aG K (M.take i)).map iL,.live⟩]) (λi=>i<=M.length/\(aG K (M.take i)).length<=512) (λi=>M.length-i) 0 (by simp[du,aG]) (by simpa[aG]using H) ?_
   rintro i ⟨i0,i1⟩
   by_cases T:i<M.length
   .have tk:=gx T
    have a:aG K (M.take (i+1))=fS (aG K (M.take i)) (ix M (i:Int)):=by rw[tk,xi]
    have C:Rk n (aG K (M.take i)):=p.aG λv d=>u v (List.mem_of_mem_take d);have D:=u _ (aJ (l:=M) (n:=(i:Int)) aa aa)
    have o:=(C.num D).len h;have E:∀r∈aG K (M.take i),(r.length:Int)<=1000000:=λr hr=>by
     obtain⟨w,s⟩:=C.w r hr;have:=s.l;omega
    have U:((ix M (i:Int)).length:Int)<=1000000:=by
     obtain⟨w,s⟩:=D;have:=s.l;omega
    generalize aG K (M.take i)=J at *;have Y:=LC J (ix M (i:Int)) aa E U
    have F:=tD (fr:=false) (σ:=[⟨none,J.map iL,.live⟩]) (b:=0) (n:=J.length) (xs:=J) (st:=.live) rfl rfl rfl;have jt :=az (show(i:Int)<(M.length:Int)by omega)
    by_cases g:ix M (i:Int)∈J
    .have cm:=List.idxOf_lt_length_iff.2 g
     have j :=az (show((J.idxOf (ix M (i:Int)):Nat):Int)<(J.length:Int)by omega)
     rw[show fS J (ix M (i:Int))=J from ae g]at a;simp[-aj,T,F,Y,j];exact⟨aa,aD (i+1) (by rw[a];simp) (by rw[a]) ⟨aa,by rw[a];omega⟩ aa⟩
    .have hle:=uB g
     have j :=bX (show ¬((J.idxOf (ix M (i:Int)):Nat):Int)<(J.length:Int)by omega)
     rw[show fS J (ix M (i:Int))=J ++ [ix M (i:Int)]from ad g]at a o;simp only[aU,List.length_singleton]at o;have V:=bX (show ¬((J.length:Int)=512)by omega)
     simp[-aj,T,F,Y,j, V];exact⟨aa,aa,aD (i+1) (by rw[a];simp) (by rw[a];simp) ⟨aa,by rw[a];simp;omega⟩ aa⟩
   .have ei:i=M.length:=by omega
    subst ei;have e:M.take M.length=M:=List.take_length;rw[e]at i1 ⊢;obtain⟨r,W,_⟩:=uZ M K;have o:Rk n (aG K M):=p.aG u;simp[-aj];refine⟨aa,aD (x+1,aG K M) ab rfl ⟨o,by dsimp only;rw[W];simp;omega,i1,λy hy v d=>?_⟩ au⟩
    dsimp only at hy d ⊢
    by_cases X:y=x
    .subst X
     rw[W,B]at d;exact qC (.inl d)
    .rw[W,V5 aa]at d
     exact qC (.inr (N y aa v d))
  .have ex:x=K.length:=by omega
   subst ex;have P:=tD (fr:=false) (σ:=[⟨none,K.map iL,.live⟩]) (b:=0) (n:=K.length) (xs:=K) (st:=.live) rfl rfl rfl;simp[-aj,P];exact⟨K,⟨p,N,H⟩,rfl⟩
 obtain⟨v,z, d,K,p,s⟩:=dd Z;exact⟨K,p,by unfold PC rW;rw[d];exact s⟩
end Ab
