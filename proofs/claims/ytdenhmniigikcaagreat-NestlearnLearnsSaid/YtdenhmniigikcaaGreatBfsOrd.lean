/- Functions on words that many layers use; and what it leans on. Condition: none. -/
import Derived.Test.YtdenhmniigikcaaGreatKey
import Derived.Test.YtdenhmniigikcaaGreatCan
set_option linter.all false
set_option maxRecDepth 100000
set_option maxHeartbeats 4000000
open Option renaming some->aa,none->ab
open Bool renaming true->ad,false->ae
open List renaming replicate->ag,length->ah
open Int renaming toNat->aj
namespace Ab
def wB (p:Bool×ak):AV:=if p.1=ad/\p.2=[]then .aJ else iL p.2
def pN (p:Bool×ak):wB p = .aJ/\p.2=[]\/wB p=iL p.2:=by
 unfold wB;split
 .rename_i h;exact .inl ⟨rfl,h.2⟩
 .exact .inr rfl
def Fi (p:Bool×ak):bC (wB p)=ad:=by
 rcases pN p with h|h
 .rw[h.1];rfl
 .rw[h];rfl
def Uw (p:Bool×ak):(wB p).cells=[wB p]:=by
 rcases pN p with h|h
 .rw[h.1]
 .rw[h]
variable{k n:Nat}
def Ux{z:Int}:lR k (ag n (.int z))=ag n (.int z):=by
 induction n with
 |zero=>rfl
 |succ n a=>simp only[sJ,lR,iz,a]
def Uy (n:Nat) (h:0<n) (a:(n:Int)<=1073741824):L BB [.aJ,.int n] []=aa (.sl 0 n 0 0,[⟨ab,ag n (.int 0),.live⟩]):=by
 refine S7 (N:=0) ?_;simp only[o9];rw[aC aT,aD ⟨ax,by rw[show(eE:Int)=1073741824 from rfl];exact a⟩]
 simp
def Uz:L BB [.aJ,.int 0] []=aa (.aJ,[]):=S7 (N:=0) rfl
def cat (ps:List (Bool×ak)):ak:=ps.flatMap (·.2)
variable{ps:List (Bool×ak)}{i:Int}
def LL(a:0<=i) (b:i<ah ps):cat (ps.take (aj (i+1)))=cat (ps.take (aj i))++(ix ps i).2:=by
 have e:ps.take (aj (i+1))=ps.take (aj i) ++ [ix ps i]:=by
  rw[show(aj (i+1))=aj i+1 by omega,pE,mf a b]
  rfl
 rw[e];simp[cat]
def B6(i:Nat):ah (cat (ps.take i))<=ah (cat ps):=by
 have:cat ps=cat (ps.take i)++cat (ps.drop i):=by
  unfold cat;rw[<-List.flatMap_append,qw]
 rw[this];simp
def UA{a b:ak}(h:ah a+ah b<=n):putAt (a.map .int++ag (n-ah a) (.int 0)) (ah a) (b.map .int)=(a++b).map .int++ag (n-(ah a+ah b)) (.int 0):=by
 unfold putAt;rw[List.take_left' aA,List.drop_append,kf aA]
 simp;omega
def LN:∀{n:Nat}{cs:ao},ah cs<=n->chunk ab n cs=cs
 |0,cs,h=>by
  have:cs=[]:=eK ax
  subst this;rfl
 |n+1,[],h=>rfl
 |n+1,c::cs,h=>by simp only[chunk];rw[LN du]
def zr{a:Type}{f g:a->AV}{v:AV->Option AV}:∀{xs:List a},(∀x∈xs,v (f x)=aa (g x))->cu v (xs.map f)=aa (xs.map g)
 | [],_=>rfl
 |x::xs,h=>by
  have e:=zr (f:=f) (g:=g) (v:=v) (xs:=xs) λy b=>h y fS
  simp only[da,cu,h x aA,e]
variable{α:Type}{σ:aq}{fr:Bool}{b:Nat}{st:fR}
def gY{f g:α->AV}{xs:List α}(h:aQ σ b=aa ⟨ab,xs.map f,st⟩) (a:st.gx=ad) (d:n=ah xs) (e:∀x∈xs,view σ fr k (f x)=aa (g x)) :
  view σ fr (k+1) (.sl b n 0 n)=aa (.aX ae (xs.map g)):=by
 subst d;have i:upto σ b (ah xs)=aa ⟨ab,xs.map f,st⟩:=by
  unfold upto;rw[h];cases st<;>simp at a ⊢
 unfold view;simp only[i,ba,db,mG,gQ,Nat.mul_one,bG,dM];rw[LN aA,zr e]
theorem sw{xs:ak}(h:aQ σ b=aa ⟨ab,xs.map .int,st⟩) (a:st.gx=ad) (d:n=ah xs):view σ fr vd (.sl b n 0 n)=aa (iL xs):=gY (k:=11) h a d λ_ _=>rfl
def amW (ps:List (Bool×ak)) (w:(ah ps:Int)<=1000000) (h:(ah (cat ps):Int)<=100000000):PC zm [.aX ae (ps.map wB)]=aa (iL (cat ps)):=by
 refine cB (S6 rfl ?_);simp;refine bB (λi:Int=>[(1,.int i),(4,.int (ah (cat (ps.take (aj i))):Int))]) (λ_=>[]) (λi=>0<=i/\i<=ah ps) (λi=>aj (ah ps-i)) 0 rfl aA λi ⟨r,i1⟩=>?_
 by_cases o:i<ah ps
 .have e:=LL r o
  have y:=B6 (ps:=ps) (aj i);have l:=B6 (ps:=ps) (aj (i+1));rw[e]at l;simp at l;rcases pN (ix ps i)with⟨d,p⟩|d
  .simp[-aK,o,r,d]
   refine⟨ax,ax,a8 (i+1) (by simp[e,p]) rfl ⟨ax,ax⟩ ax⟩
  .simp[-aK,o,r,d]
   refine⟨ax,ax,λ_=>⟨ax,a8 (i+1) fX rfl ⟨ax,ax⟩ ax⟩⟩
 .have wS:ps.take (aj i)=ps:=gN ax
  rw[wS]
  by_cases z:ah (cat ps)=0
  .have x:cat ps=[]:=eK z
   simp[-aK,o,x,Uz,iz];refine bB (λi:Int=>[(6,.int i)]) (λ_=>[]) (λi=>0<=i/\i<=ah ps) (λi=>aj (ah ps-i)) 0 rfl aA λj ⟨m,A⟩=>?_
   by_cases g:j<ah ps
   .have s:(ix ps j).2=[]:=by
     have:=LL m g;have l:=B6 (ps:=ps) (aj (j+1));rw[this]at l;simp at l;exact eK ax
    rcases pN (ix ps j)with⟨d,p⟩|d
    .simp[g,m,d];omega
    .rw[s]at d
     simp[g,m,d];omega
   .simp[g]
  .have B:=Uy (ah (cat ps)) ax ax
   simp[-aK,-List.map_replicate,o,B,iz,gl,Ux];refine bB (λi:Int=>[(6,.int i),(9,.sl 0 (ah (cat ps)) 0 (ah (cat (ps.take (aj i)))))]) (λi=>[⟨ab,(cat (ps.take (aj i))).map .int++ag (ah (cat ps)-ah (cat (ps.take (aj i)))) (.int 0),.live⟩]) (λi=>0<=i/\i<=ah ps) (λi=>aj (ah ps-i)) 0 (by simp[fj,cat]) aA λj ⟨m,A⟩=>?_
   by_cases g:j<ah ps
   .have e:=LL m g
    have y:=B6 (ps:=ps) (aj j);have l:=B6 (ps:=ps) (aj (j+1));rw[e]at l;simp at l;have w:=UA (a:=cat (ps.take (aj j))) (b:=(ix ps j).2) (n:=ah (cat ps)) l;have done:(ix ps j).2=[]->cat (ps.take (aj (j+1)))=cat (ps.take (aj j)):=λh=>by rw[e,h];simp
    rcases pN (ix ps j)with⟨d,p⟩|d
    .simp[-aK,-List.map_replicate,g,m,d]
     refine⟨ax,ax,ax,a8 (j+1) (by simp[done p]) (by simp only[done p]) ⟨ax,ax⟩ ax⟩
    .by_cases q:(ix ps j).2=[]
     .rw[q]at d
      simp[-aK,-List.map_replicate,g,m,d];refine⟨ax,ax,ax,a8 (j+1) (by simp[done q]) (by simp only[done q]) ⟨ax,ax⟩ ax⟩
     .have C:0<ah (ix ps j).2:=nc.2 q
      simp[-aK,-List.map_replicate,g,m,d,q];refine⟨ax,ax,λx=>ax,λ_=>⟨ax,ax,a8 (j+1) fX (by simp only[e,bM];rw[<-w]) ⟨ax,ax⟩ ax⟩⟩
   .have u:ps.take (aj j)=ps:=gN ax
    rw[u];have D:=sw (σ:=[⟨ab,(cat ps).map .int,.live⟩]) (fr:=ae) (b:=0) (xs:=cat ps) (st:=.live) rfl aA rfl
    simp[g,D]
def B7 (ps:List (Bool×ak)) (b:(ah ps:Int)<=1000000) (h:(ah (cat ps):Int)<=100000000):PC qK [.aX ae (ps.map wB)]=aa (iL (cat ps)):=by
 refine cB (akC rfl ?_);have e:=amW ps b h;have d:aY (ps.map wB)=ad:=by
  clear e b h
  induction ps with
  |nil=>rfl
  |cons a r g=>simp only[da,aY,Fi,Bool.true_and];exact g
 simp[d,e]
def amX{cs:ao}{o:Nat}{x:AV}{K:ao->Prop}{t:Tk K}:pU cs o [x] K t=(o<ah cs/\K (cs.set o x)):=by
 have e:=uL (f:=id) (xs:=cs) (o:=o) (y:=x) (K:=K) (t:=t);simpa using e
theorem GX{fr:Bool}{xs:al}(h:aQ σ b=aa ⟨ab,xs.map iL,st⟩) (a:st.gx=ad) (d:n=ah xs):view σ ae vd (.sl b n 0 n)=aa (bU xs):=gY (k:=11) (f:=iL) (g:=iL) h a d λ_ _=>rfl
def kv{a:Type} [Inhabited α] [Inhabited a]{f:α->a}{l:List α}(b:0<=i) (d:i<ah l):ix (l.map f) i=f (ix l i):=by
 unfold ix;rw[fI,fI,gP,dG ax]
 simp
abbrev l5.at (m:l5) (s:Int):l5:=⟨m.cW,s,m.next,m.out⟩
abbrev pW (p:Pl):AV:=wB (ad,p.2)
def pc (q:List Pl):ao:=q.flatMap λp=>[.int p.1,pW p]
def B8 [Inhabited α]{l:List α}{x:α}(a:0<=i) (b:i<ah l):ix (l.set n x) i=if i=n then x else ix l i:=by
 unfold ix;rw[fI,fI,List.getElem?_set]
 by_cases e:i=n
 .rw[aD ax,aD ax,aD e];rfl
 .rw[aC ax,aC e]
structure Sn (N:Nat) (b:List Bool) (q:List Pl):Prop where
 len:ah b=N
 ok:∀t,0<=t->t<(N:Int)->ix b t=qQ q t
variable{q:List Pl}{w:ak}
def Sn.add{N:Nat}{b:List Bool}(h:Sn N b q){t:Int}(t0:0<=t) (t1:t<N):Sn N (b.set (aj t) ad) (q ++ [(t,w)]):=by
 refine⟨by simp[h.len],λu u0 u1=>?_⟩
 rw[B8 u0 (by have:=h.len;omega)]
 by_cases e:u=(aj t:Int)
 .rw[aD e];simp[qQ];right;omega
 .rw[aC e,h.ok u u0 u1]
  simp[qQ];omega
def l5.way (m:l5) (s t:Int):ak×Bool×Int:=match(m.LH s).find? λp=>p.1==t with
 |some p=>(p.2,ad,0)
 |none=>([],ae,0)
def l5.path (m:l5) (s t:Int):ak×Bool×Int:=
 if m.bI ≠ 0 then([],ae,m.bI)
 else if s<0\/(ah m.next:Int)<=s\/t<0\/(ah m.next:Int)<=t then([],ae,2)
 else m.way s t
def Fj:∀{u v a b:ak},ah u=ah v->dx (u++a) (v++b)=if dx u v=0 then dx a b else dx u v
 | [],[],a,b,_=>by simp[dx]
 |x::u,y::v,a,b,h=>by
  have e:=Fj (u:=u) (v:=v) (a:=a) (b:=b) du
  simp only[kK,dx,e];split
  .simp
  .split
   .simp
   .rfl
variable{u:ak}{a:Int}
def Fk{v:ak}{b:Int}(h:bD u v<0):bD (u ++ [a]) (v ++ [b])<0:=by
 unfold bD at h ⊢;simp only[bM,cT,eX]
 by_cases e:ah u<ah v
 .rw[aD ax];omega
 .rw[aC e]at h
  by_cases d:ah v<ah u
  .rw[aD d]at h;omega
  .rw[aC d]at h
   rw[aC ax,aC ax,Fj ax,aC ax]
   exact h
def amY{b:Int}(h:a<b):bD (u ++ [a]) (u ++ [b])<0:=by
 unfold bD;rw[aC aA,aC aA,Fj rfl,AM,aD rfl]
 simp only[dx,aD h];omega
def UB(h:w ≠ []):bD [] w<0:=by
 unfold bD;rw[aD (by simpa using nc.2 h)];omega
structure Bi (m:l5) (s i a:Int) (q:List Pl):Prop where
 bq:Bq m s q
 par:∀k,0<k->k<(ah q:Int)->∃j b,0<=j/\(j<i\/j=i/\b<a)/\j<k/\(0<=b/\b<m.cW)/\ix q k=(ix (ix m.next (ix q j).1) b,(ix q j).2 ++ [b])
 vI:∀j k,0<=j->j<k->k<(ah q:Int)->bD (ix q j).2 (ix q k).2<0
 done:∀j b,0<=j->j<(ah q:Int)->(j<i\/j=i/\b<a)->0<=b->b<m.cW->∃k,0<=k/\k<(ah q:Int)/\(ix q k).1=ix (ix m.next (ix q j).1) b/\bD (ix q k).2 ((ix q j).2 ++ [b])<=0
variable{m:l5}{s:Int}
def Bi.LO(h:Bi m s i a q) (i1:i<ah q):∀k,0<=k->k<(ah q:Int)->bD (ix q k).2 ((ix q i).2 ++ [a])<0:=by
 intro k k0 k1
 by_cases e:k=0
 .subst e
  rw[h.bq.head];exact UB aA
 .obtain⟨j,b,j0,j1,j2,b0,e⟩:=h.par k ax k1
  rw[e];rcases j1 with j1|⟨rfl,j1⟩
  .exact Fk (h.vI j i j0 j1 i1)
  .exact amY j1
def Bi.step(hm:m.Ok)(h:Bi m s i a q) (i0:0<=i) (i1:i<ah q) (a0:0<=a) (a1:a<m.cW):Bi m s i (a+1) (u5 m (ix q i) q a):=by
 have hr:=h.bq.gi _ (bh i0 i1);have hl:=h.bq.len i i0 i1;have cw:=h.LO i1;have ZF:=h.bq.step hm hr ax a0 a1
 cases hh:qQ q (ix (ix m.next (ix q i).1) a)with
 |true=>
  rw[Uu hh]at ZF ⊢;refine⟨ZF,λk k0 k1=>?_,h.vI,λj b j0 j1 jb b0 b1=>?_⟩
  .obtain⟨j,b,j0,j1,j2,b0,e⟩:=h.par k k0 k1
   exact⟨j,b,j0,ax,j2,b0,e⟩
  .by_cases e:j=i/\b=a
   .obtain⟨rfl,rfl⟩:=e
    rw[Ut]at hh;obtain⟨p,hp,e⟩:=cJ.1 hh;obtain⟨k,hk,rfl⟩:=fY.1 hp;rw[<-bt hk]at e;exact⟨(k:Int),ax,ax,e,by have:=cw (k:Int) ax ax;omega⟩
   .exact h.done j b j0 j1 ax b0 b1
 |false=>
  rw[Uv hh]at ZF ⊢;have hlen:(ah (q ++ [(ix (ix m.next (ix q i).1) a,(ix q i).2 ++ [a])]):Int)=ah q+1:=aA
  refine⟨ZF,λk k0 k1=>?_,λj k j0 jk k1=>?_,λj b j0 j1 jb b0 b1=>?_⟩
  .rw[hlen]at k1
   by_cases e:k<(ah q:Int)
   .obtain⟨j,b,j0,j1,j2,b0,e'⟩:=h.par k k0 e
    exact⟨j,b,j0,ax,j2,b0,by rw[iM ax e,iM j0 ax];exact e'⟩
   .have:k=(ah q:Int):=by omega
    subst this;exact⟨i,a,i0,ax,i1,⟨a0,a1⟩,by rw[u6,iM i0 i1]⟩
  .rw[hlen]at k1
   by_cases e:k<(ah q:Int)
   .rw[iM ax e,iM j0 ax]
    exact h.vI j k j0 jk e
   .have:k=(ah q:Int):=by omega
    subst this;rw[u6,iM j0 jk];exact cw j j0 jk
  .rw[hlen]at j1 ⊢
   have j1' : j<(ah q:Int):=ax
   rw[iM j0 j1']
   by_cases e:j=i/\b=a
   .obtain⟨rfl,rfl⟩:=e
    exact⟨ah q,ax,ax,by rw[u6],by rw[u6];exact Int.le_of_eq (dO.refl _)⟩
   .obtain⟨k,k0,k1,e1,e2⟩:=h.done j b j0 j1' ax b0 b1
    exact⟨k,k0,ax,by rw[iM k0 k1];exact e1,by rw[iM k0 k1];exact e2⟩
def l5.run (m:l5):Int->ak->Int
 |s,[]=>s
 |s,a::w=>m.run (ix (ix m.next s) a) w
structure Bf (m:l5) (s:Int) (q:List Pl):Prop where
 bq:Bq m s q
 run:∀k,0<=k->k<(ah q:Int)->m.run s (ix q k).2=(ix q k).1/\∀x∈(ix q k).2,0<=x/\x<m.cW
 par:∀k,0<k->k<(ah q:Int)->∃j b,0<=j/\j<k/\(0<=b/\b<m.cW)/\ix q k=(ix (ix m.next (ix q j).1) b,(ix q j).2 ++ [b])
 pre:∀k n,0<=k->k<(ah q:Int)->n<=ah (ix q k).2->∃j,0<=j/\j<=k/\(n<ah (ix q k).2->j<k)/\(ix q j).2=(ix q k).2.take n
 vI:∀j k,0<=j->j<k->k<(ah q:Int)->bD (ix q j).2 (ix q k).2<0
 all:∀w,(∀x∈w,0<=x/\x<m.cW)->∃k,0<=k/\k<(ah q:Int)/\(ix q k).1=m.run s w/\bD (ix q k).2 w<=0
end Ab
