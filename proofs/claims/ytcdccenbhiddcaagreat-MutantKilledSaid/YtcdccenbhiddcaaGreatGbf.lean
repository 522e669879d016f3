/- Functions on words that many layers use; and what it leans on. Condition: none. -/
import Derived.Test.YtcdccenbhiddcaaGreatUptoK
import Derived.Test.YtcdccenbhiddcaaGreatCan
set_option linter.all false
set_option maxRecDepth 100000
set_option maxHeartbeats 4000000
namespace Ab
def wB (p:Bool×List Int):AV:=if p.1=true/\p.2=[]then .ag else iL p.2
def nH (p:Bool×List Int):wB p = .ag/\p.2=[]\/wB p=iL p.2:=by
 unfold wB;split
 .rename_i h;exact .inl ⟨rfl,h.2⟩
 .exact .inr rfl
def u4 (p:Bool×List Int):aB (wB p)=true:=by
 rcases nH p with h|h
 .rw[h.1];rfl
 .rw[h];rfl
def AJ (p:Bool×List Int):(wB p).cells=[wB p]:=by
 rcases nH p with h|h
 .rw[h.1]
 .rw[h]
variable{n:Nat}
def Xu{k:Nat}{z:Int}:iy k (List.replicate n (.int z))=List.replicate n (.int z):=by
 induction n with
 |zero=>rfl
 |succ n a=>simp only[mH,iy,iz,a]
def Xv (n:Nat) (h:0<n) (a:(n:Int)<=1073741824):L sr [.ag,.int n] []=some (.sl 0 n 0 0,[⟨none,List.replicate n (.int 0),.live⟩]):=by
 refine Hi (N:=0) ?_;simp only[jK];rw[ae ai,ah ⟨aa,by rw[show(cE:Int)=1073741824 from rfl];exact a⟩]
 simp
def Xw:L sr [.ag,.int 0] []=some (.ag,[]):=Hi (N:=0) rfl
def cat (ps:List (Bool×List Int)):List Int:=ps.flatMap (·.2)
variable{ps:List (Bool×List Int)}{i:Int}
def AK(a:0<=i) (b:i<ps.length):cat (ps.take (i+1).toNat)=cat (ps.take i.toNat)++(ix ps i).2:=by
 have e:ps.take (i+1).toNat=ps.take i.toNat ++ [ix ps i]:=by
  rw[show(i+1).toNat=i.toNat+1 by omega,eD,ky a b]
  rfl
 rw[e];simp[cat]
def sL(i:Nat):(cat (ps.take i)).length<=(cat ps).length:=by
 have:cat ps=cat (ps.take i)++cat (ps.drop i):=by
  unfold cat;rw[<-List.flatMap_append,List.take_append_drop]
 rw[this];simp
def Xx{a b:List Int}(h:a.length+b.length<=n):putAt (a.map .int++List.replicate (n-a.length) (.int 0)) a.length (b.map .int)=(a++b).map .int++List.replicate (n-(a.length+b.length)) (.int 0):=by
 unfold putAt;rw[List.take_left' ab,List.drop_append,kP ab]
 simp;omega
def u5:∀{n:Nat}{cs:List AV},cs.length<=n->chunk none n cs=cs
 |0,cs,h=>by
  have:cs=[]:=fY aa
  subst this;rfl
 |n+1,[],h=>rfl
 |n+1,c::cs,h=>by simp only[chunk];rw[u5 ch]
def nI{a:Type}{f g:a->AV}{v:AV->Option AV}:∀{xs:List a},(∀x∈xs,v (f x)=some (g x))->aM v (xs.map f)=some (xs.map g)
 | [],_=>rfl
 |x::xs,h=>by
  have e:=nI (f:=f) (g:=g) (v:=v) (xs:=xs) λy b=>h y dS
  simp only[bC,aM,h x ab,e]
variable{σ:List aj}{fr:Bool}{b:Nat}{st:c6}
def AL{a:Type}{f g:a->AV}{k:Nat}{xs:List a}(h:ay σ b=some ⟨none,xs.map f,st⟩) (d:st.eH=true) (e:n=xs.length) (i:∀x∈xs,view σ fr k (f x)=some (g x)) :
  view σ fr (k+1) (.sl b n 0 n)=some (.aA false (xs.map g)):=by
 subst e;have j:upto σ b xs.length=some ⟨none,xs.map f,st⟩:=by
  unfold upto;rw[h];cases st<;>simp at d ⊢
 unfold view;simp only[j,aC,cP,iF,eL,Nat.mul_one,aY,cn];rw[u5 ab,nI i]
theorem iU{xs:List Int}(h:ay σ b=some ⟨none,xs.map .int,st⟩) (a:st.eH=true) (d:n=xs.length):view σ fr vd (.sl b n 0 n)=some (iL xs):=AL (k:=11) h a d λ_ _=>rfl
def Xy (ps:List (Bool×List Int)) (w:(ps.length:Int)<=1000000) (h:((cat ps).length:Int)<=1000000):PC yH [.aA false (ps.map wB)]=some (iL (cat ps)):=by
 refine ba (WB rfl ?_);simp;refine a6 (λi:Int=>[(1,.int i),(4,.int ((cat (ps.take i.toNat)).length:Int))]) (λ_=>[]) (λi=>0<=i/\i<=ps.length) (λi=>(ps.length-i).toNat) 0 rfl ab λi ⟨q,i1⟩=>?_
 by_cases m:i<ps.length
 .have e:=AK q m
  have y:=sL (ps:=ps) i.toNat;have g:=sL (ps:=ps) (i+1).toNat;rw[e]at g;simp at g;rcases nH (ix ps i)with⟨d,o⟩|d
  .simp[-ax,m,q,d]
   refine⟨aa,aa,aL (i+1) (by simp[e,o]) rfl ⟨aa,aa⟩ aa⟩
  .simp[-ax,m,q,d]
   refine⟨aa,aa,λ_=>⟨aa,aL (i+1) (by simp[e]) rfl ⟨aa,aa⟩ aa⟩⟩
 .have r:ps.take i.toNat=ps:=hJ aa
  rw[r]
  by_cases z:(cat ps).length=0
  .have x:cat ps=[]:=fY z
   simp[-ax,m,x,Xw,iz];refine a6 (λi:Int=>[(6,.int i)]) (λ_=>[]) (λi=>0<=i/\i<=ps.length) (λi=>(ps.length-i).toNat) 0 rfl ab λj ⟨l,A⟩=>?_
   by_cases f:j<ps.length
   .have s:(ix ps j).2=[]:=by
     have:=AK l f;have g:=sL (ps:=ps) (j+1).toNat;rw[this]at g;simp at g;exact fY aa
    rcases nH (ix ps j)with⟨d,o⟩|d
    .simp[f,l,d];omega
    .rw[s]at d
     simp[f,l,d];omega
   .simp[f]
  .have B:=Xv (cat ps).length aa aa
   simp[-ax,-List.map_replicate,m,B,iz,fZ,Xu];refine a6 (λi:Int=>[(6,.int i),(9,.sl 0 (cat ps).length 0 (cat (ps.take i.toNat)).length)]) (λi=>[⟨none,(cat (ps.take i.toNat)).map .int++List.replicate ((cat ps).length-(cat (ps.take i.toNat)).length) (.int 0),.live⟩]) (λi=>0<=i/\i<=ps.length) (λi=>(ps.length-i).toNat) 0 (by simp[b5,cat]) ab λj ⟨l,A⟩=>?_
   by_cases f:j<ps.length
   .have e:=AK l f
    have y:=sL (ps:=ps) j.toNat;have g:=sL (ps:=ps) (j+1).toNat;rw[e]at g;simp at g;have w:=Xx (a:=cat (ps.take j.toNat)) (b:=(ix ps j).2) (n:=(cat ps).length) g;have done:(ix ps j).2=[]->cat (ps.take (j+1).toNat)=cat (ps.take j.toNat):=λh=>by rw[e,h];simp
    rcases nH (ix ps j)with⟨d,o⟩|d
    .simp[-ax,-List.map_replicate,f,l,d]
     refine⟨aa,aa,aa,aL (j+1) (by simp[done o]) (by simp only[done o]) ⟨aa,aa⟩ aa⟩
    .by_cases p:(ix ps j).2=[]
     .rw[p]at d
      simp[-ax,-List.map_replicate,f,l,d];refine⟨aa,aa,aa,aL (j+1) (by simp[done p]) (by simp only[done p]) ⟨aa,aa⟩ aa⟩
     .have C:0<(ix ps j).2.length:=fc.2 p
      simp[-ax,-List.map_replicate,f,l,d,p];refine⟨aa,aa,λx=>aa,λ_=>⟨aa,aa,aL (j+1) (by simp[e]) (by simp only[e,ez];rw[<-w]) ⟨aa,aa⟩ aa⟩⟩
   .have u:ps.take j.toNat=ps:=hJ aa
    rw[u];have D:=iU (σ:=[⟨none,(cat ps).map .int,.live⟩]) (fr:=false) (b:=0) (xs:=cat ps) (st:=.live) rfl ab rfl
    simp[f,D]
def AM (ps:List (Bool×List Int)) (b:(ps.length:Int)<=1000000) (h:((cat ps).length:Int)<=1000000):PC fB [.aA false (ps.map wB)]=some (iL (cat ps)):=by
 refine ba (Wg rfl ?_);have e:=Xy ps b h;have d:aq (ps.map wB)=true:=by
  clear e b h
  induction ps with
  |nil=>rfl
  |cons a r f=>simp only[bC,aq,u4,Bool.true_and];exact f
 simp[d,e]
def HG{cs:List AV}{o:Nat}{x:AV}{K:List AV->Prop}{t:Tk K}:pU cs o [x] K t=(o<cs.length/\K (cs.set o x)):=by
 have e:=oE (f:=id) (xs:=cs) (o:=o) (y:=x) (K:=K) (t:=t);simpa using e
def HH{a:Type} [Inhabited a]{p:a->Bool}{xs:List a}(b:0<=i) (d:i<xs.length) (h:p (ix xs i)=true):xs.any p=true:=List.any_eq_true.2 ⟨_,bt b d,h⟩
def HI{a:Type} [Inhabited a]{p:a->Bool}{xs:List a}(b:∀j,0<=j->j<(xs.length:Int)->p (ix xs j)=false):xs.any p=false:=by
 rw[List.any_eq_false];intro x d;obtain⟨i,e,rfl⟩:=cd.1 d;rw[<-aK e];simp[b i aa aa]
theorem HJ{fr:Bool}{xs:List (List Int)}(h:ay σ b=some ⟨none,xs.map iL,st⟩) (a:st.eH=true) (d:n=xs.length):view σ false vd (.sl b n 0 n)=some (aW xs):=AL (k:=11) (f:=iL) (g:=iL) h a d λ_ _=>rfl
def gz{a b:Type} [Inhabited a] [Inhabited b]{f:a->b}{l:List a}(d:0<=i) (e:i<l.length):ix (l.map f) i=f (ix l i):=by
 unfold ix;rw[gZ,gZ,eQ,cG aa]
 simp
abbrev ak.at (m:ak) (s:Int):ak:=⟨m.inputs,s,m.next,m.out⟩
abbrev pW (p:Pl):AV:=wB (true,p.2)
abbrev pA (p:Pl):AV:=.agg [.int p.1,pW p]
def pc (q:List Pl):List AV:=q.flatMap λp=>[.int p.1,pW p]
def Xz{p:Pl}:aQ (pW p)=true:=by
 rcases nH (true,p.2)with h|h
 .rw[pW,h.1];rfl
 .rw[pW,h];rfl
variable{q:List Pl}{t a:Int}{w:List Int}
def XA:pc (q ++ [(t,w ++ [a])])=pc q ++ [.int t,.aA false (w.map .int ++ [.int a])]:=by
 simp[pc,pW,wB]
def sM:(pc q).length=2*q.length:=by
 induction q with
 |nil=>rfl
 |cons p q a=>simp only[pc,gR,ez,eO,List.length_nil]at a ⊢;omega
def HK:∀{q:List Pl}{n:Nat},n<q.length->(pc q)[n*2]? = some (.int (ix q (n:Int)).1)/\(pc q)[n*2+1]? = some (pW (ix q (n:Int)))
 |p::q,0,_=>⟨rfl,rfl⟩
 |p::q,n+1,h=>by
  have:=HK (q:=q) (n:=n) ch
  have e:ix (p::q) ((n+1:Nat):Int)=ix q (n:Int):=by simp[ix]
  rw[e,show(n+1)*2=n*2+1+1 by omega]
  exact this
def HL{n:Int}(a:0<=n) (b:n<q.length):jL (pc q) (n.toNat*2)=some (.int (ix q n).1)/\jL (pc q) (n.toNat*2+1)=some (pW (ix q n)):=by
 have:=HK (q:=q) (n:=n.toNat) aa
 rw[show((n.toNat:Nat):Int)=n by omega]at this
 rw[jA,jA];exact this
def HM:∀{q:List Pl},chunk (some 2) q.length (pc q)=q.map pA
 | []=>rfl
 |p::q=>by
  have e:=HM (q:=q);rw[bC,<-e];rfl
def XB{fr:Bool}{u:Nat}(h:ay σ b=some ⟨some 2,pc q,st⟩) (d:st.eH=true) (e:n=q.length) (a:u=2*n) :
  view σ false vd (.sl b u 0 n)=some (.aA false (q.map λp=>.agg [.int p.1,iL p.2])):=by
 subst a e;have a:upto σ b (2*q.length)=some ⟨some 2,pc q,st⟩:=by
  unfold upto;rw[h];cases st<;>simp[sM]at d ⊢
 show view σ false (11+1) _=_;unfold view;simp only[a,aC,sM,iF];rw[ah aa,HM,nI (g:=λp=>.agg [.int p.1,iL p.2])]
 intro p _;rcases nH (true,p.2)with h|h
 .simp[h.1,show p.2=[]from h.2]
 .simp[h]
def lh{a:Type} [Inhabited a]{l:List a}{x:a}(b:0<=i) (d:i<l.length):ix (l.set n x) i=if i=n then x else ix l i:=by
 unfold ix;rw[gZ,gZ,List.getElem?_set]
 by_cases e:i=n
 .rw[ah aa,ah aa,ah e];rfl
 .rw[ae aa,ae e]
def sN{a:Type} [Inhabited a]{x:a}(b:0<=i) (d:i<n):ix (List.replicate n x) i=x:=by
 unfold ix;rw[gZ,List.getElem?_replicate,ah aa];rfl
structure Sn (N:Nat) (b:List Bool) (q:List Pl):Prop where
 len:b.length=N
 ok:∀t,0<=t->t<(N:Int)->ix b t=ib q t
def Sn.add{N:Nat}{b:List Bool}(h:Sn N b q)(t0:0<=t) (t1:t<N):Sn N (b.set t.toNat true) (q ++ [(t,w)]):=by
 refine⟨by simp[h.len],λu Y u1=>?_⟩
 rw[lh Y (by have:=h.len;omega)]
 by_cases e:u=(t.toNat:Int)
 .rw[ah e];simp[ib];right;omega
 .rw[ae e,h.ok u Y u1]
  simp[ib];omega
def XC (p:Pl) (a:Int) (h:p.2.length<=100000):jN L fB [.aA false [pW p,.aA false [.int a]]]=some (iL (p.2 ++ [a])):=by
 have:=AM [(true,p.2),(false,[a])] ab (by simp[cat];omega)
 simp[cat]at this;rw[<-this]
 rfl
def AN (m:ak) (g:m.Ok) (s:Int) (r:0<=s/\s<(m.next.length:Int)):Bq m s (m.af s):=by
 have row:∀(q:List Pl) (p:Pl) (k:Nat),(k:Int)<=m.inputs->0<=p.1/\p.1<(m.next.length:Int)->p.2.length<q.length->Bq m s q->Bq m s (fR m p q k)/\q.length<=(fR m p q k).length:=by
  intro q p k
  induction k with
  |zero=>intro _ _ _ h;exact⟨h,aY _⟩
  |succ k d=>
   intro x j n h;obtain⟨u,y⟩:=d aa j n h
   rw[show((k+1:Nat):Int)=(k:Int)+1 by omega,sF aa]
   refine⟨u.step g j aa aa aa,?_⟩
   obtain⟨l,e⟩:=HE (m:=m) (p:=p) (q:=fR m p q k) (a:=k);rw[e];simp;omega
 have go:∀(f:Nat) (i:Int) (q:List Pl),0<=i->Bq m s q->Bq m s (qn m f i q):=by
  intro f
  induction f with
  |zero=>intro i q _ h;exact h
  |succ f d=>
   intro i q o h
   by_cases b:i<q.length
   .rw[sJ b]
    have n:=h.len i o b;have w:=g.inputs;have:=(row q (ix q i) m.inputs.toNat aa (h.fS _ (bt o b)) aa h).1
    rw[show((m.inputs.toNat:Nat):Int)=m.inputs by omega]at this
    exact d _ _ aa this
   .rw[sI b];exact h
 exact go _ _ _ aa (Bq.init r)
def AO:∀{u v a b:List Int},u.length=v.length->bh (u++a) (v++b)=if bh u v=0 then bh a b else bh u v
 | [],[],a,b,_=>by simp[bh]
 |x::u,y::v,a,b,h=>by
  have e:=AO (u:=u) (v:=v) (a:=a) (b:=b) ch
  simp only[kU,bh,e];split
  .simp
  .split
   .simp
   .rfl
variable{u v:List Int}
def u6{b:Int}(h:bp u v<0):bp (u ++ [a]) (v ++ [b])<0:=by
 unfold bp at h ⊢;simp only[ez,eO,List.length_nil]
 by_cases e:u.length<v.length
 .rw[ah aa];omega
 .rw[ae e]at h
  by_cases d:v.length<u.length
  .rw[ah d]at h;omega
  .rw[ae d]at h
   rw[ae aa,ae aa,AO aa,ae aa]
   exact h
def AP{b:Int}(h:a<b):bp (u ++ [a]) (u ++ [b])<0:=by
 unfold bp;rw[ae ab,ae ab,AO rfl,tP,ah rfl]
 simp only[bh,ah h];omega
def HN(h:w ≠ []):bp [] w<0:=by
 unfold bp;rw[ah (by simpa using fc.2 h)];omega
def AQ(h:bp u v<=0):bp (u ++ [a]) (v ++ [a])<=0:=by
 by_cases e:bp u v=0
 .have:=fe.eq u v e
  rw[this];have:=fe.refl (v ++ [a]);omega
 .have:=u6 (a:=a) (b:=a) (show bp u v<0 by omega);omega
structure Bi (m:ak) (s i a:Int) (q:List Pl):Prop where
 bq:Bq m s q
 par:∀k,0<k->k<(q.length:Int)->∃j b,0<=j/\(j<i\/j=i/\b<a)/\j<k/\(0<=b/\b<m.inputs)/\ix q k=(ix (ix m.next (ix q j).1) b,(ix q j).2 ++ [b])
 lM:∀j k,0<=j->j<k->k<(q.length:Int)->bp (ix q j).2 (ix q k).2<0
 done:∀j b,0<=j->j<(q.length:Int)->(j<i\/j=i/\b<a)->0<=b->b<m.inputs->∃k,0<=k/\k<(q.length:Int)/\(ix q k).1=ix (ix m.next (ix q j).1) b/\bp (ix q k).2 ((ix q j).2 ++ [b])<=0
variable{m:ak}
def Bi.oI{s:Int}(h:Bi m s i a q) (i1:i<q.length):∀k,0<=k->k<(q.length:Int)->bp (ix q k).2 ((ix q i).2 ++ [a])<0:=by
 intro k k0 k1
 by_cases e:k=0
 .subst e
  rw[h.bq.head];exact HN ab
 .obtain⟨j,b,j0,Y,j2,b0,e⟩:=h.par k aa k1
  rw[e];rcases Y with Y|⟨rfl,Y⟩
  .exact u6 (h.lM j i j0 Y i1)
  .exact AP Y
def Bi.step(hm:m.Ok){s:Int}(h:Bi m s i a q) (i0:0<=i) (i1:i<q.length) (a0:0<=a) (a1:a<m.inputs):Bi m s i (a+1) (gj m (ix q i) q a):=by
 have hr:=h.bq.fS _ (bt i0 i1);have hl:=h.bq.len i i0 i1;have bP:=h.oI i1;have K4:=h.bq.step hm hr aa a0 a1
 cases hh:ib q (ix (ix m.next (ix q i).1) a)with
 |true=>
  rw[sG hh]at K4 ⊢;refine⟨K4,λk k0 k1=>?_,h.lM,λj b Y j1 jb b0 b1=>?_⟩
  .obtain⟨j,b,Y,j1,j2,b0,e⟩:=h.par k k0 k1
   exact⟨j,b,Y,aa,j2,b0,e⟩
  .by_cases e:j=i/\b=a
   .obtain⟨rfl,rfl⟩:=e
    rw[uZ]at hh;obtain⟨p,hp,e⟩:=cB.1 hh;obtain⟨k,hk,rfl⟩:=cd.1 hp;rw[<-aK hk]at e;exact⟨(k:Int),aa,aa,e,by have:=bP (k:Int) aa aa;omega⟩
   .exact h.done j b Y j1 aa b0 b1
 |false=>
  rw[sH hh]at K4 ⊢;have hlen:((q ++ [(ix (ix m.next (ix q i).1) a,(ix q i).2 ++ [a])]).length:Int)=q.length+1:=ab
  refine⟨K4,λk k0 k1=>?_,λj k Y jk k1=>?_,λj b Y j1 jb b0 b1=>?_⟩
  .rw[hlen]at k1
   by_cases e:k<(q.length:Int)
   .obtain⟨j,b,Y,j1,j2,b0,e'⟩:=h.par k k0 e
    exact⟨j,b,Y,aa,j2,b0,by rw[a7 aa e,a7 Y aa];exact e'⟩
   .have:k=(q.length:Int):=by omega
    subst this;exact⟨i,a,i0,aa,i1,⟨a0,a1⟩,by rw[dH,a7 i0 i1]⟩
  .rw[hlen]at k1
   by_cases e:k<(q.length:Int)
   .rw[a7 aa e,a7 Y aa]
    exact h.lM j k Y jk e
   .have:k=(q.length:Int):=by omega
    subst this;rw[dH,a7 Y jk];exact bP j Y jk
  .rw[hlen]at j1 ⊢
   have j1' : j<(q.length:Int):=aa
   rw[a7 Y j1']
   by_cases e:j=i/\b=a
   .obtain⟨rfl,rfl⟩:=e
    exact⟨q.length,aa,aa,by rw[dH],by rw[dH];exact Int.le_of_eq (fe.refl _)⟩
   .obtain⟨k,k0,k1,e1,e2⟩:=h.done j b Y j1' aa b0 b1
    exact⟨k,k0,aa,by rw[a7 k0 k1];exact e1,by rw[a7 k0 k1];exact e2⟩
def XD (m:ak) (x:m.Ok) (s:Int) (B:0<=s/\s<(m.next.length:Int)):∃i,((m.af s).length:Int)<=i/\Bi m s i 0 (m.af s):=by
 have C:=x.inputs;have row:∀(q:List Pl) (i:Int) (k:Nat),0<=i->i<(q.length:Int)->(k:Int)<=m.inputs->Bi m s i 0 q->Bi m s i k (fR m (ix q i) q k)/\(∀j,0<=j->j<(q.length:Int)->ix (fR m (ix q i) q k) j=ix q j)/\q.length<=(fR m (ix q i) q k).length:=by
  intro q i k o i1
  induction k with
  |zero=>intro _ h;exact⟨h,λ_ _ _=>rfl,aY _⟩
  |succ k u=>
   intro H h;obtain⟨D,y,I⟩:=u aa h
   rw[show((k+1:Nat):Int)=(k:Int)+1 by omega,sF aa]
   have e:=y i o i1;have st:=D.step x o aa aa aa
   rw[e]at st;obtain⟨l,el⟩:=HE (m:=m) (p:=ix q i) (q:=fR m (ix q i) q k) (a:=k);refine⟨st,λj d g=>?_,by rw[el];simp;omega⟩
   rw[el,a7 d aa]
   exact y j d g
 have go:∀(f:Nat) (i:Int) (q:List Pl),0<=i->(m.next.length:Int)+1<=f+i->Bi m s i 0 q->∃z, ((qn m f i q).length:Int)<=z /\Bi m s z 0 (qn m f i q):=by
  intro f
  induction f with
  |zero=>intro i q _ E h;exact⟨i,by have:=h.bq.le;show(q.length:Int)<=i;omega,h⟩
  |succ f u=>
   intro i q o E h
   by_cases w:i<q.length
   .rw[sJ w]
    have:=(row q i m.inputs.toNat o w aa h).1
    rw[show((m.inputs.toNat:Nat):Int)=m.inputs by omega]at this
    refine u _ _ aa aa ⟨this.bq,λk A n=>?_,this.lM,λj b d g F G b1=>this.done j b d g aa G b1⟩
    obtain⟨j,b,d,g,r⟩:=this.par k A n;exact⟨j,b,d,aa,r⟩
   .rw[sI w];exact⟨i,aa,h⟩
 refine go _ 0 _ aa aa ⟨Bq.init B,λk A n=>?_,λj k d J n=>?_,λj b d g F=>?_⟩
 .simp at n;omega
 .simp at n;omega
 .omega
def ak.run (m:ak):Int->List Int->Int
 |s,[]=>s
 |s,a::w=>m.run (ix (ix m.next s) a) w
def iV{m:ak}:∀{u v:List Int}{s:Int},m.run s (u++v)=m.run (m.run s u) v
 | [],_,_=>rfl
 |a::u,v,s=>iV (u:=u)
structure Bf (m:ak) (s:Int) (q:List Pl):Prop where
 bq:Bq m s q
 run:∀k,0<=k->k<(q.length:Int)->m.run s (ix q k).2=(ix q k).1/\∀x∈(ix q k).2,0<=x/\x<m.inputs
 par:∀k,0<k->k<(q.length:Int)->∃j b,0<=j/\j<k/\(0<=b/\b<m.inputs)/\ix q k=(ix (ix m.next (ix q j).1) b,(ix q j).2 ++ [b])
 pre:∀k n,0<=k->k<(q.length:Int)->n<=(ix q k).2.length->∃j,0<=j/\j<=k/\(n<(ix q k).2.length->j<k)/\(ix q j).2=(ix q k).2.take n
 lM:∀j k,0<=j->j<k->k<(q.length:Int)->bp (ix q j).2 (ix q k).2<0
 all:∀w,(∀x∈w,0<=x/\x<m.inputs)->∃k,0<=k/\k<(q.length:Int)/\(ix q k).1=m.run s w/\bp (ix q k).2 w<=0
def iW (m:ak) (C:m.Ok) (s:Int) (D:0<=s/\s<(m.next.length:Int)):Bf m s (m.af s):=by
 obtain⟨i,P,h⟩:=XD m C s D;have par:∀k,0<k->k<((m.af s).length:Int)->∃j b,0<=j/\j<k/\(0<=b/\b<m.inputs)/\ix (m.af s) k=(ix (ix m.next (ix (m.af s) j).1) b,(ix (m.af s) j).2 ++ [b]):=λk f d=>by
  obtain⟨j,b,o,_,A,y,e⟩:=h.par k f d;exact⟨j,b,o,A,y,e⟩
 refine⟨h.bq,?_,par,?_,h.lM,?_⟩
 .have:∀n:Nat,∀k:Int,k<n->0<=k->k<((m.af s).length:Int)->m.run s (ix (m.af s) k).2=(ix (m.af s) k).1/\∀x∈(ix (m.af s) k).2,0<=x/\x<m.inputs:=by
   intro n
   induction n with
   |zero=>intro k;omega
   |succ n r=>
    intro k E f d
    by_cases e:k=0
    .subst e;rw[h.bq.head];exact⟨rfl,ab⟩
    .obtain⟨j,b,o,A,y,e⟩:=par k aa d
     obtain⟨F,G⟩:=r j aa o aa
     rw[e];refine⟨by rw[iV,F];rfl,λx g=>?_⟩
     rcases cp.1 g with g|g
     .exact G x g
     .simp at g;subst g;exact y
  exact λk f d=>this (k.toNat+1) k aa f d
 .have:∀n:Nat,∀(k:Int) (l:Nat),k<n->0<=k->k<((m.af s).length:Int)->l<=(ix (m.af s) k).2.length->∃j,0<=j/\j<=k/\(l<(ix (m.af s) k).2.length->j<k)/\(ix (m.af s) j).2=(ix (m.af s) k).2.take l:=by
   intro n
   induction n with
   |zero=>intro k;omega
   |succ n r=>
    intro k l E f d q
    by_cases hle:l=(ix (m.af s) k).2.length
    .exact⟨k,f,aa,aa,by rw[hle,kW]⟩
    .by_cases e:k=0
     .subst e;rw[h.bq.head]at q hle;simp at q hle;omega
     .obtain⟨j,b,o,A,y,e⟩:=par k aa d
      rw[e]at q hle;simp at q hle;obtain⟨H, I,Q,_,J⟩:=r j l aa o aa aa
      exact⟨H, I,aa,λ_=>aa,by rw[J,e];simp only;rw[List.take_append_of_le_length aa]⟩
  exact λk l f d q=>this (k.toNat+1) k l aa f d q
 .intro w
  have:∀n:Nat,∀w:List Int,w.length=n->(∀x∈w,0<=x/\x<m.inputs)->∃k,0<=k/\k<((m.af s).length:Int)/\(ix (m.af s) k).1=m.run s w/\bp (ix (m.af s) k).2 w<=0:=by
   intro n
   induction n with
   |zero=>
    intro w z _;have:w=[]:=fY z;subst this;exact⟨0,aa,by have:=h.bq.pos;omega,by rw[h.bq.head];rfl,by rw[h.bq.head];exact Int.le_of_eq (fe.refl _)⟩
   |succ n r=>
    intro w z g;have p:w ≠ []:=by intro e;subst e;simp at z
    have e:w=w.dropLast ++ [w.getLast p]:=(rn p).symm;generalize w.dropLast=u at e;generalize w.getLast p=a at e;subst e;obtain⟨j,o,K,L,M⟩:=r u (by simpa using z) λx h=>g x (by simp[h])
    have B:=g a ab
    obtain⟨k,f,d,N,O⟩:=h.done j a o K aa B.1 B.2
    exact⟨k,f,d,by rw[N,iV,L];rfl,fe.trans _ _ _ O (AQ M)⟩
  exact this w.length w rfl
section
variable{α:Type} [DecidableEq α] [Inhabited α]
def gD (q:List (α×List Int)) (t:α):Bool:=q.any λx=>decide (x.1=t)
theorem AR{q:List (α×List Int)}{t:α}:gD q t=true↔t∈q.map (·.1):=by
 simp[gD]
def dN (nx:α->Int->Option α) (p:α×List Int) (q:List (α×List Int)) (a:Int):List (α×List Int):=
 match nx p.1 a with
 |none=>q
 |some t=>if gD q t=true then q else q ++ [(t,p.2 ++ [a])]
def grow (nx:α->Int->Option α) (p:α×List Int) (q:List (α×List Int)) (k:Int):List (α×List Int):=(List.range k.toNat).foldl (λq a=>dN nx p q (a:Nat)) q
theorem qo{nx:α->Int->Option α}{p:α×List Int}{q:List (α×List Int)}:grow nx p q 0=q:=rfl
variable{a:Int}
theorem AS{nx:α->Int->Option α}{p:α×List Int}{q:List (α×List Int)}(h:0<=a):grow nx p q (a+1)=dN nx p (grow nx p q a) a:=by
 unfold grow;rw[show(a+1).toNat=a.toNat+1 by omega,List.range_succ,List.foldl_append]
 simp only[List.foldl_cons,List.foldl_nil];rw[show((a.toNat:Nat):Int)=a by omega]
def jC (nx:α->Int->Option α) (k:Int):Nat->Int->List (α×List Int)->List (α×List Int)
 |0,_,q=>q
 |f+1,i,q=>if i<q.length then jC nx k f (i+1) (grow nx (ix q i) q k)else q
def bT (nx:α->Int->Option α) (k:Int) (N:Nat) (s:α):List (α×List Int):=jC nx k (N+1) 0 [(s,[])]
variable{f:Nat}{i:Int}
theorem HO{nx:α->Int->Option α}{k:Int}{q:List (α×List Int)}(h:¬i<(q.length:Int)):jC nx k f i q=q:=by
 cases f with
 |zero=>rfl
 |succ f=>unfold jC;rw[ae h]
theorem HP{nx:α->Int->Option α}{k:Int}{q:List (α×List Int)}(h:i<(q.length:Int)):jC nx k (f+1) i q=jC nx k f (i+1) (grow nx (ix q i) q k):=by
 conv=>lhs;unfold jC
 rw[ah h]
theorem HQ{nx:α->Int->Option α}{p:α×List Int}{q:List (α×List Int)}(h:nx p.1 a=none):dN nx p q a=q:=by unfold dN;rw[h]
theorem AT{nx:α->Int->Option α}{p:α×List Int}{q:List (α×List Int)}{t:α}(h:nx p.1 a=some t) (b:gD q t=true):dN nx p q a=q:=by unfold dN;rw[h];exact ah b
theorem AU{nx:α->Int->Option α}{p:α×List Int}{q:List (α×List Int)}{t:α}(h:nx p.1 a=some t) (b:gD q t=false):dN nx p q a=q ++ [(t,p.2 ++ [a])]:=by unfold dN;rw[h];exact ae dS
theorem AW{nx:α->Int->Option α}{p:α×List Int}{q:List (α×List Int)}:∃l,dN nx p q a=q++l:=by
 unfold dN;split
 .exact⟨[],ab⟩
 .split
  .exact⟨[],ab⟩
  .exact⟨_,rfl⟩
theorem u7{nx:α->Int->Option α}{p:α×List Int}{q:List (α×List Int)}:∀k:Nat,∃l,grow nx p q (k:Int)=q++l
 |0=>⟨[],by simp[grow]⟩
 |k+1=>by
  obtain⟨l,e⟩:=u7 (nx:=nx) (p:=p) (q:=q) k;rw[show((k+1:Nat):Int)=(k:Int)+1 by omega,AS aa,e]
  obtain⟨m,b⟩:=AW (nx:=nx) (p:=p) (q:=q++l) (a:=k);exact⟨l++m,by rw[b,fO]⟩
theorem AX{nx:α->Int->Option α}{k:Int}(h:0<=k):∀{f:Nat}{i:Int}{q:List (α×List Int)},∃l,jC nx k f i q=q++l
 |0,i,q=>⟨[],by simp[jC]⟩
 |f+1,i,q=>by
  unfold jC;split
  .obtain⟨l,e⟩:=u7 (nx:=nx) (p:=ix q i) (q:=q) k.toNat
   rw[show((k.toNat:Nat):Int)=k by omega]at e
   obtain⟨m,a⟩:=AX h (nx:=nx) (f:=f) (i:=i+1) (q:=q++l);rw[e];exact⟨l++m,by rw[a,fO]⟩
  .exact⟨[],ab⟩
structure ie (nx:α->Int->Option α) (k:Int) (ok:α->Prop) (N:Nat):Prop where
 k0:0<=k
 step:∀x a y,ok x->0<=a->a<k->nx x a=some y->ok y
 fin:∀l:List α,l.Nodup->(∀x∈l,ok x)->l.length<=N
structure Gq (ok:α->Prop) (s:α) (q:List (α×List Int)):Prop where
 nd:(q.map (·.1)).Nodup
 fS:∀p∈q,ok p.1
 pos:0<q.length
 head:ix q 0=(s,[])
 len:∀j,0<=j->j<(q.length:Int)->((ix q j).2.length:Int)<=j
 ne:∀j,0<j->j<(q.length:Int)->(ix q j).2 ≠ []
variable{nx:α->Int->Option α}{k:Int}{ok:α->Prop}{N:Nat}{s:α}
theorem Gq.le (Y:ie nx k ok N){q:List (α×List Int)}(h:Gq ok s q):q.length<=N:=by
 have:=Y.fin _ h.nd (λx hx=>by
  obtain⟨p,hp,rfl⟩:=cB.1 hx;exact h.fS p hp)
 simpa using this
theorem Gq.init (h:ok s):Gq ok s [(s,[])]:=by
 refine⟨ab,ch,ab,rfl,λj j0 Y=>?_,λj j0 Y=>?_⟩
 .simp at Y
  rw[show j=0 by omega];simp[ix]
 .simp at Y;omega
variable{w:List Int}
theorem Gq.add{q:List (α×List Int)}(h:Gq ok s q){t:α}(ht:ok t) (hn:gD q t=false) (hw:w ≠ []) (hl:w.length<=q.length):Gq ok s (q ++ [(t,w)]):=by
 have hq:=h.pos;have iZ : t∉q.map (·.1):=λhm=>by rw[AR.2 hm]at hn;simp at hn
 refine⟨?_,λp Y=>?_,ab,by rw[a7 aa aa];exact h.head,λj j0 j1=>?_,λj j0 j1=>?_⟩
 .rw[eE,List.nodup_append]
  refine⟨h.nd,ab,λa ha b hb=>?_⟩
  simp at hb;subst hb;exact λe=>iZ (e▸ha)
 .rcases cp.1 Y with Y|Y
  .exact h.fS p Y
  .simp at Y;subst Y;exact ht
 .by_cases hj:j<(q.length:Int)
  .rw[a7 j0 hj];exact h.len j j0 hj
  .simp at j1
   rw[show j=(q.length:Int)by omega,dH]
   simp;omega
 .by_cases hj:j<(q.length:Int)
  .rw[a7 aa hj];exact h.ne j j0 hj
  .simp at j1
   rw[show j=(q.length:Int)by omega,dH]
   exact hw
variable{a:Int}
theorem Gq.step (hG:ie nx k ok N){q:List (α×List Int)}(h:Gq ok s q){p:α×List Int}(hp:ok p.1) (hl:p.2.length<q.length)(a0:0<=a) (a1:a<k):Gq ok s (dN nx p q a):=by
 cases Y:nx p.1 a with
 |none=>rw[HQ Y];exact h
 |some t=>
  cases hh:gD q t with
  |true=>rw[AT Y hh];exact h
  |false=>rw[AU Y hh];exact h.add (hG.step _ _ _ hp a0 a1 Y) hh ab ai
structure Gi (nx:α->Int->Option α) (k:Int) (ok:α->Prop) (s:α) (i a:Int) (q:List (α×List Int)):Prop where
 gq:Gq ok s q
 par:∀n,0<n->n<(q.length:Int)->∃j b,0<=j/\(j<i\/j=i/\b<a)/\j<n/\(0<=b/\b<k)/\nx (ix q j).1 b=some (ix q n).1/\(ix q n).2=(ix q j).2 ++ [b]
 lM:∀j n,0<=j->j<n->n<(q.length:Int)->bp (ix q j).2 (ix q n).2<0
 done:∀j b t,0<=j->j<(q.length:Int)->(j<i\/j=i/\b<a)->0<=b->b<k->nx (ix q j).1 b=some t->∃n,0<=n/\n<(q.length:Int)/\(ix q n).1=t/\bp (ix q n).2 ((ix q j).2 ++ [b])<=0
variable{i:Int}
theorem Gi.oI{q:List (α×List Int)}(h:Gi nx k ok s i a q) (i1:i<q.length):∀n,0<=n->n<(q.length:Int)->bp (ix q n).2 ((ix q i).2 ++ [a])<0:=by
 intro n n0 n1
 by_cases e:n=0
 .subst e
  rw[h.gq.head];exact HN ab
 .obtain⟨j,b,j0,Y,j2,b0,_,e⟩:=h.par n aa n1
  rw[e];rcases Y with Y|⟨rfl,Y⟩
  .exact u6 (h.lM j i j0 Y i1)
  .exact AP Y
theorem Gi.step (hG:ie nx k ok N){q:List (α×List Int)}(h:Gi nx k ok s i a q) (i0:0<=i) (i1:i<q.length) (a0:0<=a) (a1:a<k):Gi nx k ok s i (a+1) (dN nx (ix q i) q a):=by
 have hr:=h.gq.fS _ (bt i0 i1);have hl:=h.gq.len i i0 i1;have bP:=h.oI i1;have K5:=h.gq.step hG hr aa a0 a1
 have same:dN nx (ix q i) q a=q->(∀t,nx (ix q i).1 a=some t->gD q t=true)->Gi nx k ok s i (a+1) (dN nx (ix q i) q a):=λe hh=>by
  rw[e]at K5 ⊢;refine⟨K5,λn n0 n1=>?_,h.lM,λj b t j0 j1 jb b0 b1 Y=>?_⟩
  .obtain⟨j,b,j0,j1,j2,b0,e⟩:=h.par n n0 n1
   exact⟨j,b,j0,aa,j2,b0,e⟩
  .by_cases e:j=i/\b=a
   .obtain⟨rfl,rfl⟩:=e
    have hh:=hh t Y;rw[AR]at hh;obtain⟨p,hp,e⟩:=cB.1 hh;obtain⟨n,hn,rfl⟩:=cd.1 hp;rw[<-aK hn]at e;exact⟨(n:Int),aa,aa,e,by have:=bP (n:Int) aa aa;omega⟩
   .exact h.done j b t j0 j1 aa b0 b1 Y
 cases hx:nx (ix q i).1 a with
 |none=>exact same (HQ hx) λt Y=>by rw[hx]at Y;simp at Y
 |some t=>
  cases hh:gD q t with
  |true=>exact same (AT hx hh) λt' Y=>by rw[hx]at Y;injection Y with Y;subst Y;exact hh
  |false=>
   rw[AU hx hh]at K5 ⊢;have hlen:((q ++ [(t,(ix q i).2 ++ [a])]).length:Int)=q.length+1:=ab
   refine⟨K5,λn n0 n1=>?_,λj n j0 jn n1=>?_,λj b t' j0 j1 jb b0 b1 Y=>?_⟩
   .rw[hlen]at n1
    by_cases e:n<(q.length:Int)
    .obtain⟨j,b,j0,j1,j2,b0,e'⟩:=h.par n n0 e
     exact⟨j,b,j0,aa,j2,b0,by rw[a7 aa e,a7 j0 aa];exact e'⟩
    .have:n=(q.length:Int):=by omega
     subst this;exact⟨i,a,i0,aa,i1,⟨a0,a1⟩,by rw[dH,a7 i0 i1];exact⟨hx,rfl⟩⟩
   .rw[hlen]at n1
    by_cases e:n<(q.length:Int)
    .rw[a7 aa e,a7 j0 aa]
     exact h.lM j n j0 jn e
    .have:n=(q.length:Int):=by omega
     subst this;rw[dH,a7 j0 jn];exact bP j j0 jn
   .rw[hlen]at j1 ⊢
    by_cases jq:j<(q.length:Int)
    .rw[a7 j0 jq]at Y ⊢
     by_cases e:j=i/\b=a
     .obtain⟨rfl,rfl⟩:=e
      rw[hx]at Y;injection Y with Y
      subst Y;exact⟨q.length,aa,aa,by rw[dH],by rw[dH];exact Int.le_of_eq (fe.refl _)⟩
     .obtain⟨n,n0,n1,e1,e2⟩:=h.done j b t' j0 jq aa b0 b1 Y
      exact⟨n,n0,aa,by rw[a7 n0 n1];exact e1,by rw[a7 n0 n1];exact e2⟩
    .omega
theorem Gi.row (hG:ie nx k ok N){q:List (α×List Int)}(i0:0<=i) (i1:i<q.length):∀(n:Nat),(n:Int)<=k->Gi nx k ok s i 0 q->Gi nx k ok s i n (grow nx (ix q i) q n)/\(∀j,0<=j->j<(q.length:Int)->ix (grow nx (ix q i) q n) j=ix q j)/\q.length<=(grow nx (ix q i) q n).length:=by
 intro n
 induction n with
 |zero=>intro _ h;exact⟨h,λ_ _ _=>rfl,aY _⟩
 |succ n ih=>
  intro hk h;obtain⟨h1,Y,h3⟩:=ih aa h
  rw[show((n+1:Nat):Int)=(n:Int)+1 by omega,AS aa]
  have e:=Y i i0 i1;have st:=h1.step hG i0 aa aa aa
  rw[e]at st;obtain⟨l,el⟩:=AW (nx:=nx) (p:=ix q i) (q:=grow nx (ix q i) q n) (a:=n);refine⟨st,λj j0 j1=>?_,by rw[el];simp;omega⟩
  rw[el,a7 j0 aa]
  exact Y j j0 j1
theorem XE (e:ie nx k ok N) (p:ok s):∃i,((bT nx k N s).length:Int)<=i/\Gi nx k ok s i 0 (bT nx k N s):=by
 have A:=e.k0;have go:∀(f:Nat) (i:Int) (q:List (α×List Int)),0<=i->(N:Int)+1<=f+i->Gi nx k ok s i 0 q->∃m, ((jC nx k f i q).length:Int)<=m /\Gi nx k ok s m 0 (jC nx k f i q):=by
  intro f
  induction f with
  |zero=>intro i q _ u h;exact⟨i,by have:=h.gq.le e;show(q.length:Int)<=i;omega,h⟩
  |succ f w=>
   intro i q x u h
   by_cases g:i<q.length
   .rw[HP g]
    have:=(Gi.row e x g k.toNat aa h).1
    rw[show((k.toNat:Nat):Int)=k by omega]at this
    refine w _ _ aa aa ⟨this.gq,λn o a=>?_,this.lM,λj b t d l y z b1=>this.done j b t d l aa z b1⟩
    obtain⟨j,b,d,l,r⟩:=this.par n o a;exact⟨j,b,d,aa,r⟩
   .rw[HO g];exact⟨i,aa,h⟩
 refine go _ 0 _ aa aa ⟨Gq.init p,λn o a=>?_,λj n d B a=>?_,λj b t d l y=>?_⟩
 .simp at a;omega
 .simp at a;omega
 .omega
def dC (nx:α->Int->Option α):α->List Int->Option α
 |s,[]=>some s
 |s,a::w=>(nx s a).bind λt=>dC nx t w
theorem HR:∀{u v:List Int}{s:α},dC nx s (u++v)=(dC nx s u).bind λt=>dC nx t v
 | [],_,_=>rfl
 |a::u,v,s=>by
  simp only[kU,dC];cases nx s a with
  |none=>rfl
  |some t=>exact HR (u:=u)
variable{u:List Int}
theorem AY{s:α}:dC nx s (u ++ [a])=(dC nx s u).bind λt=>nx t a:=by
 rw[HR];cases dC nx s u with
 |none=>rfl
 |some t=>simp only[mS,dC];cases nx t a<;>rfl
structure Gf (nx:α->Int->Option α) (k:Int) (ok:α->Prop) (s:α) (q:List (α×List Int)):Prop where
 gq:Gq ok s q
 run:∀n,0<=n->n<(q.length:Int)->dC nx s (ix q n).2=some (ix q n).1/\∀x∈(ix q n).2,0<=x/\x<k
 lM:∀j n,0<=j->j<n->n<(q.length:Int)->bp (ix q j).2 (ix q n).2<0
 all:∀w t,(∀x∈w,0<=x/\x<k)->dC nx s w=some t->∃n,0<=n/\n<(q.length:Int)/\(ix q n).1=t/\bp (ix q n).2 w<=0
theorem AZ (B:ie nx k ok N) (C:ok s):Gf nx k ok s (bT nx k N s):=by
 obtain⟨i,M,h⟩:=XE B C;refine⟨h.gq,?_,h.lM,?_⟩
 .have:∀n:Nat,∀j:Int,j<n->0<=j->j<((bT nx k N s).length:Int)->dC nx s (ix (bT nx k N s) j).2=some (ix (bT nx k N s) j).1/\∀x∈(ix (bT nx k N s) j).2,0<=x/\x<k:=by
   intro n
   induction n with
   |zero=>intro j;omega
   |succ n m=>
    intro z O P D
    by_cases e:z = 0
    .subst e;rw[h.gq.head];exact⟨rfl,ab⟩
    .obtain⟨j,b,o,_,Q,E,p,q⟩:=h.par z aa D
     obtain⟨F,G⟩:=m j aa o aa
     rw[q];refine⟨by rw[AY,F];exact p,λx d=>?_⟩
     rcases cp.1 d with d|d
     .exact G x d
     .simp at d;subst d;exact E
  exact λn r y=>this (n.toNat+1) n aa r y
 .intro w
  have:∀n:Nat,∀(w:List Int) (t:α),w.length=n->(∀x∈w,0<=x/\x<k)->dC nx s w=some t->∃n,0<=n/\n<((bT nx k N s).length:Int)/\(ix (bT nx k N s) n).1=t/\bp (ix (bT nx k N s) n).2 w<=0:=by
   intro n
   induction n with
   |zero=>
    intro w t l _ f;have:w=[]:=fY l;subst this;injection f with f
    exact⟨0,aa,by have:=h.gq.pos;omega,by rw[h.gq.head];exact f,by rw[h.gq.head];exact Int.le_of_eq (fe.refl _)⟩
   |succ n m=>
    intro w t l d f;have g:w ≠ []:=by intro e;subst e;simp at l
    have e:w=w.dropLast ++ [w.getLast g]:=(rn g).symm;generalize w.dropLast=u at e;generalize w.getLast g=a at e;subst e;rw[AY]at f;obtain⟨H, I,f⟩:=dX.1 f;obtain⟨j,o,J,p,q⟩:=m u H (by simpa using l) (λx h=>d x (by simp[h])) I
    have A:=d a ab
    obtain⟨n,r,y,K,L⟩:=h.done j a t o J aa A.1 A.2 (by rw[p];exact f)
    exact⟨n,r,y,K,fe.trans _ _ _ L (AQ q)⟩
  exact λt=>this w.length w t rfl
def cc (nx:α->Int->Option α) (k:Int) (q:List (α×List Int)):List (α×List Int×Int):=q.flatMap λp=>((List.range k.toNat).filter λa=>decide (nx p.1 (a:Nat)=none)).map λa=>(p.1,p.2 ++ [((a:Nat):Int)],((a:Nat):Int))
theorem A0{q r:List (α×List Int)}:cc nx k (q++r)=cc nx k q++cc nx k r:=by simp[cc]
theorem qp{q:List (α×List Int)}{x:α×List Int×Int}:x∈cc nx k q↔∃p∈q,(0<=x.2.2/\x.2.2<k)/\nx p.1 x.2.2=none/\x.1=p.1/\x.2.1=p.2 ++ [x.2.2]:=by
 unfold cc;simp only[jS,cB,jt,gw,cO];constructor
 .rintro⟨p,e,a,⟨f,d⟩,rfl⟩
  exact⟨p,e,aI,d,rfl,rfl⟩
 .rintro⟨p,e,f,d,g,h⟩
  obtain⟨i,j,b⟩:=x;dsimp only at f d g h;refine⟨p,e,b.toNat,⟨aa,by rw[show((b.toNat:Nat):Int)=b by omega];exact d⟩,?_⟩
  rw[show((b.toNat:Nat):Int)=b by omega,g,h]
def gI (nx:α->Int->Option α) (p:α×List Int) (a:Int):List (α×List Int×Int):=((List.range a.toNat).filter λa=>decide (nx p.1 (a:Nat)=none)).map λa=>(p.1,p.2 ++ [((a:Nat):Int)],((a:Nat):Int))
theorem HS{p:α×List Int}(b:0<=a):gI nx p (a+1)=gI nx p a++(if nx p.1 a=none then[(p.1,p.2 ++ [a],a)]else[]):=by
 unfold gI;rw[show(a+1).toNat=a.toNat+1 by omega,List.range_succ,List.filter_append,eE]
 congr 1
 have e:((a.toNat:Nat):Int)=a:=aa
 by_cases h:nx p.1 a=none
 .rw[ah h];simp[List.filter_cons,e,h]
 .rw[ae h];simp[List.filter_cons,e,h]
theorem HT{p:α×List Int}:cc nx k [p]=gI nx p k:=by simp[cc,gI]
theorem XF{p:α×List Int}(h:∀b,0<=b->b<a->nx p.1 b ≠ none):gI nx p a=[]:=by
 unfold gI;rw[List.map_eq_nil_iff,List.filter_eq_nil_iff];intro b d;have:=gw.1 d;simpa using h b aa aa
theorem HU{q:List (α×List Int)}(h:∀j,0<=j->j<(q.length:Int)->∀b,0<=b->b<k->nx (ix q j).1 b ≠ none):cc nx k q=[]:=by
 rw[List.eq_nil_iff_forall_not_mem];intro x e;obtain⟨p,f,a,d,_⟩:=qp.1 e;obtain⟨n,g,rfl⟩:=cd.1 f;rw[<-aK g]at d;exact h n aa aa _ a.1 a.2 d
theorem XG{q r:List (α×List Int)}(l:0<=i) (i1:i<q.length) (m:0<=a) (A:a<k) (h:∀j,0<=j->j<i->∀b,0<=b->b<k->nx (ix q j).1 b ≠ none) (o:∀b,0<=b->b<a->nx (ix q i).1 b ≠ none) (p:nx (ix q i).1 a=none):(cc nx k (q++r)).head? = some ((ix q i).1,(ix q i).2 ++ [a],a):=by
 have e:q=q.take i.toNat++ix q i::q.drop (i+1).toNat:=by rw[<-rW l i1,List.take_append_drop]
 have s:cc nx k (q.take i.toNat)=[]:=HU λj g u b w b1=>by
  simp at u;have:ix (q.take i.toNat) j=ix q j:=by
   conv=>rhs;rw[e]
   rw[a7 g ai]
  rw[this];exact h j g aa b w b1
 have y:cc nx k [ix q i]=((ix q i).1,(ix q i).2 ++ [a],a)::(cc nx k [ix q i]).tail:=by
  have d:(cc nx k [ix q i]).head? = some ((ix q i).1,(ix q i).2 ++ [a],a):=by
   rw[HT];have:∀n:Nat,a+1+n<=k->(gI nx (ix q i) (a+1+n)).head? = some ((ix q i).1,(ix q i).2 ++ [a],a):=by
    intro n
    induction n with
    |zero=>intro _;rw[show a+1+((0:Nat):Int)=a+1 by omega,HS m,XF o,ah p];rfl
    |succ n z=>
     intro B;rw[show a+1+((n+1:Nat):Int)=(a+1+n)+1 by omega,HS aa]
     have:=z aa
     cases f:gI nx (ix q i) (a+1+n)with
     |nil=>rw[f]at this;simp at this
     |cons x r=>rw[f]at this;simpa using this
   have:=this (k-a-1).toNat aa
   rwa [show a+1+((k-a-1).toNat:Int)=k by omega]at this
  cases f:cc nx k [ix q i]with
  |nil=>rw[f]at d;simp at d
  |cons x r=>rw[f]at d;simp at d;rw[d];rfl
 rw[e,fO,A0,s,kM,kU,show ix q i::(q.drop (i+1).toNat++r)=[ix q i]++(q.drop (i+1).toNat++r)from rfl,A0,y];rw[<-e];rfl
theorem XH{q:List (α×List Int)}(h:∀j n,0<=j->j<n->n<(q.length:Int)->bp (ix q j).2 (ix q n).2<0):(cc nx k q).Pairwise λx y=>bp x.2.1 y.2.1<0:=by
 have e:q.Pairwise λx y=>bp x.2 y.2<0:=by
  rw[pL];intro i j g l m;have:=h i j aa aa aa
  rwa [aK g,aK l]at this
 clear h
 induction q with
 |nil=>exact List.Pairwise.nil
 |cons p q o=>
  rw[show p::q=[p]++q from rfl,A0,List.pairwise_append];rw[ff]at e;refine⟨?_,o e.2,λx r y s=>?_⟩
  .rw[HT]
   unfold gI;rw[kV];refine List.Pairwise.filter _ ?_;refine List.Pairwise.imp ?_ List.pairwise_lt_range;intro a b u;exact AP aa
  .obtain⟨B,d,_,_,_,w⟩:=qp.1 r
   obtain⟨z,f,_,_,_,A⟩:=qp.1 s;simp at d;subst d;rw[w,A];exact u6 (e.1 z f)
theorem Gf.fail{q:List (α×List Int)}(h:Gf nx k ok s q){t:α}(hu:∀x∈u,0<=x/\x<k) (a0:0<=a) (a1:a<k) (hr:dC nx s u=some t) (hn:nx t a=none):∃x∈cc nx k q,x.1=t/\x.2.2=a/\bp x.2.1 (u ++ [a])<=0:=by
 obtain⟨n,n0,n1,Y,e2⟩:=h.all u t hu hr;exact⟨((ix q n).1,(ix q n).2 ++ [a],a),qp.2 ⟨ix q n,bt n0 n1,⟨a0,a1⟩,by rw[Y];exact hn,rfl,rfl⟩,Y,rfl,AQ e2⟩
theorem HV:∀{w:List Int}{s:α},dC nx s w=none->∃u a v t,w=u++a::v/\dC nx s u=some t/\nx t a=none
 | [],s,h=>by simp[dC]at h
 |a::w,s,h=>by
  cases d:nx s a with
  |none=>exact⟨[],a,w,s,rfl,rfl,d⟩
  |some t=>
   simp only[dC,d,mS]at h;obtain⟨u,b,v,f, e,g,i⟩:=HV h;exact⟨a::u,b,v,f, by rw[e];rfl,by simp only[dC,d,mS];exact g,i⟩
structure kC (nx:α->Int->Option α) (k:Int) (ok:α->Prop) (N:Nat) (s:α) (i a:Int) (q:List (α×List Int)):Prop where
 i0:0<=i
 gi:Gi nx k ok s i a q
 fu:∃(f:Nat) (q0:List (α×List Int)),(N:Int)+1<=f+i/\jC nx k f i q0=bT nx k N s/\q=grow nx (ix q0 i) q0 a/\(0<a->i<q0.length)
theorem kC.init (hG:ie nx k ok N) (hs:ok s):kC nx k ok N s 0 0 [(s,[])]:=by
 refine⟨aa,⟨Gq.init hs,λn n0 Y=>?_,λj n j0 jn Y=>?_,λj b t j0 j1 jb=>?_⟩,N+1,[(s,[])],aa,rfl,rfl,aa⟩
 .simp at Y;omega
 .simp at Y;omega
 .omega
theorem kC.step (hG:ie nx k ok N){q:List (α×List Int)}(h:kC nx k ok N s i a q) (i1:i<q.length) (a0:0<=a) (a1:a<k):kC nx k ok N s i (a+1) (dN nx (ix q i) q a):=by
 obtain⟨f,q0,h1,h2,h3,h4⟩:=h.fu;have Y:i<q0.length:=by
  by_cases e:0<a
  .exact h4 e
  .have:a=0:=by omega
   subst this;rw[h3,qo]at i1;exact i1
 have KZ:ix q i=ix q0 i:=by
  obtain⟨l,e⟩:=u7 (nx:=nx) (p:=ix q0 i) (q:=q0) a.toNat;rw[show((a.toNat:Nat):Int)=a by omega,<-h3]at e
  rw[e,a7 h.i0 Y]
 refine⟨h.i0,h.gi.step hG h.i0 i1 a0 a1,f,q0,h1,h2,?_,λ_=>Y⟩;rw[AS a0,<-h3,KZ]
theorem kC.stay (Y:ie nx k ok N){q:List (α×List Int)}(h:kC nx k ok N s i a q) (i1:i<q.length) (a0:0<=a) (a1:a<k) (e:dN nx (ix q i) q a=q):kC nx k ok N s i (a+1) q:=by
 have:=h.step Y i1 a0 a1
 rwa [e]at this
theorem kC.next (hG:ie nx k ok N){q:List (α×List Int)}(h:kC nx k ok N s i k q) (i1:i<q.length):kC nx k ok N s (i+1) 0 q:=by
 obtain⟨f,q0,h1,h2,Y,h4⟩:=h.fu;have hk:=hG.k0;have XI:i<q0.length:=by
  by_cases e:0<k
  .exact h4 e
  .have:k=0:=by omega
   subst this;rw[Y,qo]at i1;exact i1
 have A2:=h.i0;refine⟨aa,⟨h.gi.gq,λn n0 n1=>?_,h.gi.lM,λj b t j0 j1 jb b0 b1=>h.gi.done j b t j0 j1 aa b0 b1⟩,?_⟩
 .obtain⟨j,b,j0,j1,r⟩:=h.gi.par n n0 n1
  exact⟨j,b,j0,aa,r⟩
 .cases f with
  |zero=>
   exfalso;have:=h.gi.gq.le hG;obtain⟨l,e⟩:=u7 (nx:=nx) (p:=ix q0 i) (q:=q0) k.toNat;rw[show((k.toNat:Nat):Int)=k by omega,<-Y]at e
   rw[e]at this;simp at this;omega
  |succ f=>
   rw[HP XI,<-Y]at h2;exact⟨f,q,aa,h2,qo.symm,aa⟩
theorem kC.pre (Y:ie nx k ok N){q:List (α×List Int)}(h:kC nx k ok N s i a q) (i1:i<q.length) (a0:0<=a) (a1:a<=k):∃r,bT nx k N s=q++r:=by
 have:∀n:Nat,∀(a:Int) (q:List (α×List Int)),k-a<=n->0<=a->a<=k->i<q.length->kC nx k ok N s i a q->∃r,bT nx k N s=q++r:=by
  intro n
  induction n with
  |zero=>
   intro a q hn a0 a1 i1 h;have:a=k:=aa
   subst this;obtain⟨f,q0,h1,h2,h3,_⟩:=(h.next Y i1).fu
   rw[qo]at h3;subst h3;rw[<-h2];exact AX Y.k0
  |succ n ih=>
   intro a q hn a0 a1 i1 h
   by_cases e:a=k
   .subst e
    obtain⟨f,q0,h1,h2,h3,_⟩:=(h.next Y i1).fu
    rw[qo]at h3;subst h3;rw[<-h2];exact AX Y.k0
   .obtain⟨l,el⟩:=AW (nx:=nx) (p:=ix q i) (q:=q) (a:=a)
    obtain⟨r,hr⟩:=ih (a+1) _ aa aa aa (by rw[el];simp;omega) (h.step Y i1 a0 aa)
    rw[el]at hr;exact⟨l++r,by rw[hr,fO]⟩
 exact this (k-a).toNat a q aa a0 a1 i1 h
theorem kC.fin{q:List (α×List Int)}(h:kC nx k ok N s i 0 q) (i1:¬i<q.length):q=bT nx k N s:=by
 obtain⟨f,q0,h1,h2,Y,_⟩:=h.fu;rw[qo]at Y;subst Y;rw[<-h2,HO i1]
def nJ (nx:α->Int->Option α) (k:Int) (i a:Int) (q:List (α×List Int)):Prop:=(∀j,0<=j->j<i->∀b,0<=b->b<k->nx (ix q j).1 b ≠ none)/\∀b,0<=b->b<a->nx (ix q i).1 b ≠ none
theorem nJ.init{q:List (α×List Int)}:nJ nx k 0 0 q:=⟨λj Y j1=>aa,λb b0 b1=>aa⟩
theorem nJ.app{q r:List (α×List Int)}(h:nJ nx k i a q) (i0:0<=i) (i1:i<q.length):nJ nx k i a (q++r):=⟨λj Y j1=>by rw[a7 Y aa];exact h.1 j Y j1,by rw[a7 i0 i1];exact h.2⟩
theorem nJ.step{q:List (α×List Int)}(h:nJ nx k i a q) (Y:nx (ix q i).1 a ≠ none):nJ nx k i (a+1) q:=⟨h.1,λb b0 b1=>by
 by_cases e:b=a
 .subst e;exact Y
 .exact h.2 b b0 aa⟩
theorem nJ.next{q:List (α×List Int)}(h:nJ nx k i k q):nJ nx k (i+1) 0 q:=⟨λj j0 j1 b Y b1=>by
 by_cases e:j=i
 .subst e;exact h.2 b Y b1
 .exact h.1 j j0 aa b Y b1,λb Y b1=>aa⟩
def ee (nx:α->Int->Option α) (k:Int) (N:Nat) (s:α):Option (List Int):=(cc nx k (bT nx k N s)).head?.map λx=>x.2.1
theorem XJ (e:ie nx k ok N){q:List (α×List Int)}(h:kC nx k ok N s i a q) (b:nJ nx k i a q) (i1:i<q.length) (d:0<=a) (f:a<k) (g:nx (ix q i).1 a=none):ee nx k N s=some ((ix q i).2 ++ [a]):=by
 obtain⟨r,j⟩:=h.pre e i1 d aa
 unfold ee;rw[j,XG h.i0 i1 d f b.1 b.2 g];rfl
theorem XK{q:List (α×List Int)}(h:kC nx k ok N s i 0 q) (a:nJ nx k i 0 q) (i1:¬i<q.length):ee nx k N s=none:=by
 unfold ee;rw[<-h.fin i1,HU λj d f b e b1=>a.1 j d aa b e b1];rfl
theorem HW (m:ie nx k ok N) (o:ok s)(h:ee nx k N s=some w):(∃u a t,w=u ++ [a]/\(∀x∈w,0<=x/\x<k)/\dC nx s u=some t/\nx t a=none)/\∀u a t,(∀x∈u,0<=x/\x<k)->0<=a->a<k->dC nx s u=some t->nx t a=none->bp w (u ++ [a])<=0:=by
 have e:=AZ m o;unfold ee at h;obtain⟨x,d,rfl⟩:=jP.1 h;have q:x∈cc nx k (bT nx k N s):=List.mem_of_head? d;refine⟨?_,λu a t A B C D f=>?_⟩
 .obtain⟨p,E,F,G,g,i⟩:=qp.1 q
  obtain⟨n,f,rfl⟩:=cd.1 E;have:=e.run n aa aa
  rw[aK f]at this;refine⟨_,_,_,i,λy b=>?_,this.1,G⟩;rw[i]at b;rcases cp.1 b with b|b
  .exact this.2 y b
  .simp at b;subst b;exact F
 .obtain⟨y,b,_,_,g⟩:=e.fail A B C D f
  have j:=XH (nx:=nx) (k:=k) e.lM;cases l:cc nx k (bT nx k N s)with
  |nil=>rw[l]at d;simp at d
  |cons z r=>
   rw[l]at d b j;simp at d;subst d;rcases bR.1 b with rfl|b
   .exact g
   .have:=(ff.1 j).1 y b
    exact fe.trans _ _ _ aa g
theorem HX (f:ie nx k ok N) (g:ok s) (h:ee nx k N s=none):∀w,(∀x∈w,0<=x/\x<k)->dC nx s w ≠ none:=by
 intro w b i;have j:=AZ f g;obtain⟨u,a,v,t,rfl,l,m⟩:=HV i;have d:=b a ab
 obtain⟨x,e,_⟩:=j.fail (λy n=>b y (by simp[n])) d.1 d.2 l m
 unfold ee at h;rw[Option.map_eq_none_iff,List.head?_eq_none_iff]at h;rw[h]at e;simp at e
end
end Ab
