/- Functions on words that many layers use; and what it leans on. Condition: none. -/
import Derived.Test.YtdenhmniigikcaaGreatKey
import Derived.Test.YtdenhmniigikcaaGreatCan
set_option linter.all false
set_option maxRecDepth 100000
set_option maxHeartbeats 4000000
namespace Ab
def wB (p:Bool×List Int):AV:=if p.1=true/\p.2=[]then .ag else iL p.2
def xe (p:Bool×List Int):wB p = .ag/\p.2=[]\/wB p=iL p.2:=by
 unfold wB;split
 .rename_i h;exact .inl ⟨rfl,h.2⟩
 .exact .inr rfl
def al3 (p:Bool×List Int):aR (wB p)=true:=by
 rcases xe p with h|h
 .rw[h.1];rfl
 .rw[h];rfl
variable{k n:Nat}
def S4{z:Int}:kL k (List.replicate n (.int z))=List.replicate n (.int z):=by
 induction n with
 |zero=>rfl
 |succ n a=>simp only[sC,kL,js,a]
def S5 (n:Nat) (h:0<n) (a:(n:Int)<=1073741824):L zr [.ag,.int n] []=some (.sl 0 n 0 0,[⟨none,List.replicate n (.int 0),.live⟩]):=by
 refine Rq (N:=0) ?_;simp only[nT];rw[ad ax,ae ⟨aa,by rw[show(dK:Int)=1073741824 from rfl];exact a⟩]
 simp
def S6:L zr [.ag,.int 0] []=some (.ag,[]):=Rq (N:=0) rfl
def cat (ps:List (Bool×List Int)):List Int:=ps.flatMap (·.2)
variable{ps:List (Bool×List Int)}{i:Int}
def J9(a:0<=i) (b:i<ps.length):cat (ps.take (i+1).toNat)=cat (ps.take i.toNat)++(ix ps i).2:=by
 have e:ps.take (i+1).toNat=ps.take i.toNat ++ [ix ps i]:=by
  rw[show(i+1).toNat=i.toNat+1 by omega,nh,mw a b]
  rfl
 rw[e];simp[cat]
def zS(i:Nat):(cat (ps.take i)).length<=(cat ps).length:=by
 have:cat ps=cat (ps.take i)++cat (ps.drop i):=by
  unfold cat;rw[<-List.flatMap_append,nm]
 rw[this];simp
def S7{a b:List Int}(h:a.length+b.length<=n):putAt (a.map .int++List.replicate (n-a.length) (.int 0)) a.length (b.map .int)=(a++b).map .int++List.replicate (n-(a.length+b.length)) (.int 0):=by
 unfold putAt;rw[List.take_left' ab,List.drop_append,jY ab]
 simp;omega
def Ka:∀{n:Nat}{cs:List AV},cs.length<=n->chunk none n cs=cs
 |0,cs,h=>by
  have:cs=[]:=dY aa
  subst this;rfl
 |n+1,[],h=>rfl
 |n+1,c::cs,h=>by simp only[chunk];rw[Ka cq]
def C8{a:Type}{f g:a->AV}{v:AV->Option AV}:∀{xs:List a},(∀x∈xs,v (f x)=some (g x))->bJ v (xs.map f)=some (xs.map g)
 | [],_=>rfl
 |x::xs,h=>by
  have e:=C8 (f:=f) (g:=g) (v:=v) (xs:=xs) λy b=>h y fj
  simp only[cS,bJ,h x ab,e]
variable{α:Type}{σ:List al}{fr:Bool}{b:Nat}{st:fb}
def dQ{f g:α->AV}{xs:List α}(h:aq σ b=some ⟨none,xs.map f,st⟩) (a:st.fG=true) (d:n=xs.length) (e:∀x∈xs,view σ fr k (f x)=some (g x)) :
  view σ fr (k+1) (.sl b n 0 n)=some (.aF false (xs.map g)):=by
 subst d;have i:upto σ b xs.length=some ⟨none,xs.map f,st⟩:=by
  unfold upto;rw[h];cases st<;>simp at a ⊢
 unfold view;simp only[i,aM,dA,ow,gX,Nat.mul_one,bd,dD];rw[Ka ab,C8 e]
theorem nU{xs:List Int}(h:aq σ b=some ⟨none,xs.map .int,st⟩) (a:st.fG=true) (d:n=xs.length):view σ fr vd (.sl b n 0 n)=some (iL xs):=dQ (k:=11) h a d λ_ _=>rfl
def al4 (ps:List (Bool×List Int)) (w:(ps.length:Int)<=1000000) (h:((cat ps).length:Int)<=1000000):PC w6 [.aF false (ps.map wB)]=some (iL (cat ps)):=by
 refine bZ (Rp rfl ?_);simp;refine aK (λi:Int=>[(1,.int i),(4,.int ((cat (ps.take i.toNat)).length:Int))]) (λ_=>[]) (λi=>0<=i/\i<=ps.length) (λi=>(ps.length-i).toNat) 0 rfl ab λi ⟨r,i1⟩=>?_
 by_cases o:i<ps.length
 .have e:=J9 r o
  have y:=zS (ps:=ps) i.toNat;have l:=zS (ps:=ps) (i+1).toNat;rw[e]at l;simp at l;rcases xe (ix ps i)with⟨d,p⟩|d
  .simp[-aj,o,r,d]
   refine⟨aa,aa,aD (i+1) (by simp[e,p]) rfl ⟨aa,aa⟩ aa⟩
  .simp[-aj,o,r,d]
   refine⟨aa,aa,λ_=>⟨aa,aD (i+1) ft rfl ⟨aa,aa⟩ aa⟩⟩
 .have C9:ps.take i.toNat=ps:=eZ aa
  rw[C9]
  by_cases z:(cat ps).length=0
  .have x:cat ps=[]:=dY z
   simp[-aj,o,x,S6,js];refine aK (λi:Int=>[(6,.int i)]) (λ_=>[]) (λi=>0<=i/\i<=ps.length) (λi=>(ps.length-i).toNat) 0 rfl ab λj ⟨m,A⟩=>?_
   by_cases g:j<ps.length
   .have s:(ix ps j).2=[]:=by
     have:=J9 m g;have l:=zS (ps:=ps) (j+1).toNat;rw[this]at l;simp at l;exact dY aa
    rcases xe (ix ps j)with⟨d,p⟩|d
    .simp[g,m,d];omega
    .rw[s]at d
     simp[g,m,d];omega
   .simp[g]
  .have B:=S5 (cat ps).length aa aa
   simp[-aj,-List.map_replicate,o,B,js,gH,S4];refine aK (λi:Int=>[(6,.int i),(9,.sl 0 (cat ps).length 0 (cat (ps.take i.toNat)).length)]) (λi=>[⟨none,(cat (ps.take i.toNat)).map .int++List.replicate ((cat ps).length-(cat (ps.take i.toNat)).length) (.int 0),.live⟩]) (λi=>0<=i/\i<=ps.length) (λi=>(ps.length-i).toNat) 0 (by simp[du,cat]) ab λj ⟨m,A⟩=>?_
   by_cases g:j<ps.length
   .have e:=J9 m g
    have y:=zS (ps:=ps) j.toNat;have l:=zS (ps:=ps) (j+1).toNat;rw[e]at l;simp at l;have w:=S7 (a:=cat (ps.take j.toNat)) (b:=(ix ps j).2) (n:=(cat ps).length) l;have done:(ix ps j).2=[]->cat (ps.take (j+1).toNat)=cat (ps.take j.toNat):=λh=>by rw[e,h];simp
    rcases xe (ix ps j)with⟨d,p⟩|d
    .simp[-aj,-List.map_replicate,g,m,d]
     refine⟨aa,aa,aa,aD (j+1) (by simp[done p]) (by simp only[done p]) ⟨aa,aa⟩ aa⟩
    .by_cases q:(ix ps j).2=[]
     .rw[q]at d
      simp[-aj,-List.map_replicate,g,m,d];refine⟨aa,aa,aa,aD (j+1) (by simp[done q]) (by simp only[done q]) ⟨aa,aa⟩ aa⟩
     .have C:0<(ix ps j).2.length:=mR.2 q
      simp[-aj,-List.map_replicate,g,m,d,q];refine⟨aa,aa,λx=>aa,λ_=>⟨aa,aa,aD (j+1) ft (by simp only[e,aU];rw[<-w]) ⟨aa,aa⟩ aa⟩⟩
   .have u:ps.take j.toNat=ps:=eZ aa
    rw[u];have D:=nU (σ:=[⟨none,(cat ps).map .int,.live⟩]) (fr:=false) (b:=0) (xs:=cat ps) (st:=.live) rfl ab rfl
    simp[g,D]
def Kb (ps:List (Bool×List Int)) (b:(ps.length:Int)<=1000000) (h:((cat ps).length:Int)<=1000000):PC uU [.aF false (ps.map wB)]=some (iL (cat ps)):=by
 refine bZ (ajR rfl ?_);have e:=al4 ps b h;have d:aC (ps.map wB)=true:=by
  clear e b h
  induction ps with
  |nil=>rfl
  |cons a r g=>simp only[cS,aC,al3,Bool.true_and];exact g
 simp[d,e]
def al5{cs:List AV}{o:Nat}{x:AV}{K:List AV->Prop}{t:Tk K}:pU cs o [x] K t=(o<cs.length/\K (cs.set o x)):=by
 have e:=uQ (f:=id) (xs:=cs) (o:=o) (y:=x) (K:=K) (t:=t);simpa using e
theorem tD{fr:Bool}{xs:List (List Int)}(h:aq σ b=some ⟨none,xs.map iL,st⟩) (a:st.fG=true) (d:n=xs.length):view σ false vd (.sl b n 0 n)=some (b8 xs):=dQ (k:=11) (f:=iL) (g:=iL) h a d λ_ _=>rfl
def iR{a:Type} [Inhabited α] [Inhabited a]{f:α->a}{l:List α}(b:0<=i) (d:i<l.length):ix (l.map f) i=f (ix l i):=by
 unfold ix;rw[gD,gD,iv,db aa]
 simp
abbrev kY.at (m:kY) (s:Int):kY:=⟨m.cA,s,m.next,m.out⟩
abbrev pW (p:Pl):AV:=wB (true,p.2)
def pc (q:List Pl):List AV:=q.flatMap λp=>[.int p.1,pW p]
def zT [Inhabited α]{l:List α}{x:α}(a:0<=i) (b:i<l.length):ix (l.set n x) i=if i=n then x else ix l i:=by
 unfold ix;rw[gD,gD,List.getElem?_set]
 by_cases e:i=n
 .rw[ae aa,ae aa,ae e];rfl
 .rw[ad aa,ad e]
structure Sn (N:Nat) (b:List Bool) (q:List Pl):Prop where
 len:b.length=N
 ok:∀t,0<=t->t<(N:Int)->ix b t=pG q t
variable{q:List Pl}{w:List Int}
def Sn.add{N:Nat}{b:List Bool}(h:Sn N b q){t:Int}(t0:0<=t) (t1:t<N):Sn N (b.set t.toNat true) (q ++ [(t,w)]):=by
 refine⟨by simp[h.len],λu u0 u1=>?_⟩
 rw[zT u0 (by have:=h.len;omega)]
 by_cases e:u=(t.toNat:Int)
 .rw[ae e];simp[pG];right;omega
 .rw[ad e,h.ok u u0 u1]
  simp[pG];omega
def kY.way (m:kY) (s t:Int):List Int×Bool×Int:=match(m.J7 s).find? λp=>p.1==t with
 |some p=>(p.2,true,0)
 |none=>([],false,0)
def kY.path (m:kY) (s t:Int):List Int×Bool×Int:=
 if m.bC ≠ 0 then([],false,m.bC)
 else if s<0\/(m.next.length:Int)<=s\/t<0\/(m.next.length:Int)<=t then([],false,2)
 else m.way s t
def Da:∀{u v a b:List Int},u.length=v.length->cy (u++a) (v++b)=if cy u v=0 then cy a b else cy u v
 | [],[],a,b,_=>by simp[cy]
 |x::u,y::v,a,b,h=>by
  have e:=Da (u:=u) (v:=v) (a:=a) (b:=b) cq
  simp only[jD,cy,e];split
  .simp
  .split
   .simp
   .rfl
variable{u:List Int}{a:Int}
def Db{v:List Int}{b:Int}(h:aI u v<0):aI (u ++ [a]) (v ++ [b])<0:=by
 unfold aI at h ⊢;simp only[aU,cO,fe]
 by_cases e:u.length<v.length
 .rw[ae aa];omega
 .rw[ad e]at h
  by_cases d:v.length<u.length
  .rw[ae d]at h;omega
  .rw[ad d]at h
   rw[ad aa,ad aa,Da aa,ad aa]
   exact h
def al6{b:Int}(h:a<b):aI (u ++ [a]) (u ++ [b])<0:=by
 unfold aI;rw[ad ab,ad ab,Da rfl,yH,ae rfl]
 simp only[cy,ae h];omega
def al7(h:w ≠ []):aI [] w<0:=by
 unfold aI;rw[ae (by simpa using mR.2 h)];omega
structure Bi (m:kY) (s i a:Int) (q:List Pl):Prop where
 bq:Bq m s q
 par:∀k,0<k->k<(q.length:Int)->∃j b,0<=j/\(j<i\/j=i/\b<a)/\j<k/\(0<=b/\b<m.cA)/\ix q k=(ix (ix m.next (ix q j).1) b,(ix q j).2 ++ [b])
 pX:∀j k,0<=j->j<k->k<(q.length:Int)->aI (ix q j).2 (ix q k).2<0
 done:∀j b,0<=j->j<(q.length:Int)->(j<i\/j=i/\b<a)->0<=b->b<m.cA->∃k,0<=k/\k<(q.length:Int)/\(ix q k).1=ix (ix m.next (ix q j).1) b/\aI (ix q k).2 ((ix q j).2 ++ [b])<=0
variable{m:kY}{s:Int}
def Bi.Kc(h:Bi m s i a q) (i1:i<q.length):∀k,0<=k->k<(q.length:Int)->aI (ix q k).2 ((ix q i).2 ++ [a])<0:=by
 intro k k0 k1
 by_cases e:k=0
 .subst e
  rw[h.bq.head];exact al7 ab
 .obtain⟨j,b,j0,j1,j2,b0,e⟩:=h.par k aa k1
  rw[e];rcases j1 with j1|⟨rfl,j1⟩
  .exact Db (h.pX j i j0 j1 i1)
  .exact al6 j1
def Bi.step(hm:m.Ok)(h:Bi m s i a q) (i0:0<=i) (i1:i<q.length) (a0:0<=a) (a1:a<m.cA):Bi m s i (a+1) (tA m (ix q i) q a):=by
 have hr:=h.bq.eV _ (aJ i0 i1);have hl:=h.bq.len i i0 i1;have cm:=h.Kc i1;have XI:=h.bq.step hm hr aa a0 a1
 cases hh:pG q (ix (ix m.next (ix q i).1) a)with
 |true=>
  rw[S2 hh]at XI ⊢;refine⟨XI,λk k0 k1=>?_,h.pX,λj b j0 j1 jb b0 b1=>?_⟩
  .obtain⟨j,b,j0,j1,j2,b0,e⟩:=h.par k k0 k1
   exact⟨j,b,j0,aa,j2,b0,e⟩
  .by_cases e:j=i/\b=a
   .obtain⟨rfl,rfl⟩:=e
    rw[SZ]at hh;obtain⟨p,hp,e⟩:=cx.1 hh;obtain⟨k,hk,rfl⟩:=eL.1 hp;rw[<-aB hk]at e;exact⟨(k:Int),aa,aa,e,by have:=cm (k:Int) aa aa;omega⟩
   .exact h.done j b j0 j1 aa b0 b1
 |false=>
  rw[S3 hh]at XI ⊢;have hlen:((q ++ [(ix (ix m.next (ix q i).1) a,(ix q i).2 ++ [a])]).length:Int)=q.length+1:=ab
  refine⟨XI,λk k0 k1=>?_,λj k j0 jk k1=>?_,λj b j0 j1 jb b0 b1=>?_⟩
  .rw[hlen]at k1
   by_cases e:k<(q.length:Int)
   .obtain⟨j,b,j0,j1,j2,b0,e'⟩:=h.par k k0 e
    exact⟨j,b,j0,aa,j2,b0,by rw[gS aa e,gS j0 aa];exact e'⟩
   .have:k=(q.length:Int):=by omega
    subst this;exact⟨i,a,i0,aa,i1,⟨a0,a1⟩,by rw[tC,gS i0 i1]⟩
  .rw[hlen]at k1
   by_cases e:k<(q.length:Int)
   .rw[gS aa e,gS j0 aa]
    exact h.pX j k j0 jk e
   .have:k=(q.length:Int):=by omega
    subst this;rw[tC,gS j0 jk];exact cm j j0 jk
  .rw[hlen]at j1 ⊢
   have j1' : j<(q.length:Int):=aa
   rw[gS j0 j1']
   by_cases e:j=i/\b=a
   .obtain⟨rfl,rfl⟩:=e
    exact⟨q.length,aa,aa,by rw[tC],by rw[tC];exact Int.le_of_eq (cC.refl _)⟩
   .obtain⟨k,k0,k1,e1,e2⟩:=h.done j b j0 j1' aa b0 b1
    exact⟨k,k0,aa,by rw[gS k0 k1];exact e1,by rw[gS k0 k1];exact e2⟩
def kY.run (m:kY):Int->List Int->Int
 |s,[]=>s
 |s,a::w=>m.run (ix (ix m.next s) a) w
structure Bf (m:kY) (s:Int) (q:List Pl):Prop where
 bq:Bq m s q
 run:∀k,0<=k->k<(q.length:Int)->m.run s (ix q k).2=(ix q k).1/\∀x∈(ix q k).2,0<=x/\x<m.cA
 par:∀k,0<k->k<(q.length:Int)->∃j b,0<=j/\j<k/\(0<=b/\b<m.cA)/\ix q k=(ix (ix m.next (ix q j).1) b,(ix q j).2 ++ [b])
 pre:∀k n,0<=k->k<(q.length:Int)->n<=(ix q k).2.length->∃j,0<=j/\j<=k/\(n<(ix q k).2.length->j<k)/\(ix q j).2=(ix q k).2.take n
 pX:∀j k,0<=j->j<k->k<(q.length:Int)->aI (ix q j).2 (ix q k).2<0
 all:∀w,(∀x∈w,0<=x/\x<m.cA)->∃k,0<=k/\k<(q.length:Int)/\(ix q k).1=m.run s w/\aI (ix q k).2 w<=0
end Ab
