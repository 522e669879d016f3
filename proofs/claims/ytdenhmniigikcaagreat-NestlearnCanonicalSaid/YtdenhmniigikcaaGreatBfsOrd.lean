/- Functions on words that many layers use; and what it leans on. Condition: none. -/
import Derived.Test.YtdenhmniigikcaaGreatKey
import Derived.Test.YtdenhmniigikcaaGreatCan
set_option linter.all false
set_option maxRecDepth 100000
set_option maxHeartbeats 4000000
namespace Ab
def wB (p:Bool×List Int):AV:=if p.1=true/\p.2=[]then .ae else iL p.2
def ou (p:Bool×List Int):wB p = .ae/\p.2=[]\/wB p=iL p.2:=by
 unfold wB;split
 .rename_i h;exact .inl ⟨rfl,h.2⟩
 .exact .inr rfl
def ai3 (p:Bool×List Int):aI (wB p)=true:=by
 rcases ou p with h|h
 .rw[h.1];rfl
 .rw[h];rfl
variable{k n:Nat}
theorem Qi{z:Int}:km k (List.replicate n (.int z))=List.replicate n (.int z):=by
 induction n with
 |zero=>rfl
 |succ n a=>simp only[sL,km,iW,a]
theorem Qj (n:Nat) (h:0<n) (a:(n:Int)<=1073741824):L xN [.ae,.int n] []=some (.sl 0 n 0 0,[⟨none,List.replicate n (.int 0),.live⟩]):=by
 refine OQ (N:=0) ?_;simp only[mA];rw[aa (by simp;omega),ab ⟨by omega,by rw[show(dz:Int)=1073741824 from rfl];exact a⟩]
 simp
theorem Qk:L xN [.ae,.int 0] []=some (.ae,[]):=OQ (N:=0) rfl
def cat (ps:List (Bool×List Int)):List Int:=ps.flatMap (·.2)
variable{ps:List (Bool×List Int)}{i:Int}
theorem HQ(a:0<=i) (b:i<ps.length):cat (ps.take (i+1).toNat)=cat (ps.take i.toNat)++(ix ps i).2:=by
 have e:ps.take (i+1).toNat=ps.take i.toNat ++ [ix ps i]:=by
  rw[show(i+1).toNat=i.toNat+1 by omega,k8,ko a b]
  rfl
 rw[e];simp[cat]
theorem yi(i:Nat):(cat (ps.take i)).length<=(cat ps).length:=by
 have:cat ps=cat (ps.take i)++cat (ps.drop i):=by
  unfold cat;rw[<-List.flatMap_append,mO]
 rw[this];simp
theorem Ql{a b:List Int}(h:a.length+b.length<=n):putAt (a.map .int++List.replicate (n-a.length) (.int 0)) a.length (b.map .int)=(a++b).map .int++List.replicate (n-(a.length+b.length)) (.int 0):=by
 unfold putAt;rw[List.take_left' (by simp),List.drop_append,ji (by simp)]
 simp;omega
theorem HR:∀{n:Nat}{cs:List AV},cs.length<=n->chunk none n cs=cs
 |0,cs,h=>by
  have:cs=[]:=dM (by omega)
  subst this;rfl
 |n+1,[],h=>rfl
 |n+1,c::cs,h=>by simp only[chunk];rw[HR (by simpa using h)]
theorem yj{a:Type}{f g:a->AV}{v:AV->Option AV}:∀{xs:List a},(∀x∈xs,v (f x)=some (g x))->bI v (xs.map f)=some (xs.map g)
 | [],_=>rfl
 |x::xs,h=>by
  have e:=yj (f:=f) (g:=g) (v:=v) (xs:=xs) λy b=>h y (by simp[b])
  simp only[cJ,bI,h x (by simp),e]
variable{α:Type}{σ:List ah}{fr:Bool}{b:Nat}{st:eM}
theorem fj{f g:α->AV}{xs:List α}(h:ak σ b=some ⟨none,xs.map f,st⟩) (a:st.eT=true) (d:n=xs.length) (e:∀x∈xs,view σ fr k (f x)=some (g x)) :
  view σ fr (k+1) (.sl b n 0 n)=some (.au false (xs.map g)):=by
 subst d;have i:upto σ b xs.length=some ⟨none,xs.map f,st⟩:=by
  unfold upto;rw[h];cases st<;>simp at a ⊢
 unfold view;simp only[i,aE,cY,kF,gq,Nat.mul_one,aT,dt];rw[HR (by simp),yj e]
theorem ow{xs:List Int}(h:ak σ b=some ⟨none,xs.map .int,st⟩) (a:st.eT=true) (d:n=xs.length):view σ fr vd (.sl b n 0 n)=some (iL xs):=fj (k:=11) h a d λ_ _=>rfl
theorem ai4 (ps:List (Bool×List Int)) (w:(ps.length:Int)<=1000000) (h:((cat ps).length:Int)<=1000000):PC vi [.au false (ps.map wB)]=some (iL (cat ps)):=by
 refine bP (OP rfl ?_);simp;refine aM (λi:Int=>[(1,.int i),(4,.int ((cat (ps.take i.toNat)).length:Int))]) (λ_=>[]) (λi=>0<=i/\i<=ps.length) (λi=>(ps.length-i).toNat) 0 rfl (by simp) λi ⟨r,i1⟩=>?_
 by_cases o:i<ps.length
 .have e:=HQ r o
  have y:=yi (ps:=ps) i.toNat;have l:=yi (ps:=ps) (i+1).toNat;rw[e]at l;simp at l;rcases ou (ix ps i)with⟨d,p⟩|d
  .simp[-ag,o,r,d]
   refine⟨by omega,by omega,az (i+1) (by simp[e,p]) rfl ⟨by omega,by omega⟩ (by omega)⟩
  .simp[-ag,o,r,d]
   refine⟨by omega,by omega,λ_=>⟨by omega,az (i+1) (by simp[e]) rfl ⟨by omega,by omega⟩ (by omega)⟩⟩
 .have wq:ps.take i.toNat=ps:=fc (by omega)
  rw[wq]
  by_cases z:(cat ps).length=0
  .have x:cat ps=[]:=dM z
   simp[-ag,o,x,Qk,iW];refine aM (λi:Int=>[(6,.int i)]) (λ_=>[]) (λi=>0<=i/\i<=ps.length) (λi=>(ps.length-i).toNat) 0 rfl (by simp) λj ⟨m,A⟩=>?_
   by_cases g:j<ps.length
   .have s:(ix ps j).2=[]:=by
     have:=HQ m g;have l:=yi (ps:=ps) (j+1).toNat;rw[this]at l;simp at l;exact dM (by omega)
    rcases ou (ix ps j)with⟨d,p⟩|d
    .simp[g,m,d];omega
    .rw[s]at d
     simp[g,m,d];omega
   .simp[g]
  .have B:=Qj (cat ps).length (by omega) (by omega)
   simp[-ag,-List.map_replicate,o,B,iW,gm,Qi];refine aM (λi:Int=>[(6,.int i),(9,.sl 0 (cat ps).length 0 (cat (ps.take i.toNat)).length)]) (λi=>[⟨none,(cat (ps.take i.toNat)).map .int++List.replicate ((cat ps).length-(cat (ps.take i.toNat)).length) (.int 0),.live⟩]) (λi=>0<=i/\i<=ps.length) (λi=>(ps.length-i).toNat) 0 (by simp[a8,cat]) (by simp) λj ⟨m,A⟩=>?_
   by_cases g:j<ps.length
   .have e:=HQ m g
    have y:=yi (ps:=ps) j.toNat;have l:=yi (ps:=ps) (j+1).toNat;rw[e]at l;simp at l;have w:=Ql (a:=cat (ps.take j.toNat)) (b:=(ix ps j).2) (n:=(cat ps).length) l;have done:(ix ps j).2=[]->cat (ps.take (j+1).toNat)=cat (ps.take j.toNat):=λh=>by rw[e,h];simp
    rcases ou (ix ps j)with⟨d,p⟩|d
    .simp[-ag,-List.map_replicate,g,m,d]
     refine⟨by omega,by omega,by omega,az (j+1) (by simp[done p]) (by simp only[done p]) ⟨by omega,by omega⟩ (by omega)⟩
    .by_cases q:(ix ps j).2=[]
     .rw[q]at d
      simp[-ag,-List.map_replicate,g,m,d];refine⟨by omega,by omega,by omega,az (j+1) (by simp[done q]) (by simp only[done q]) ⟨by omega,by omega⟩ (by omega)⟩
     .have C:0<(ix ps j).2.length:=l5.2 q
      simp[-ag,-List.map_replicate,g,m,d,q];refine⟨by omega,by omega,λx=>by omega,λ_=>⟨by omega,by omega,az (j+1) (by simp[e]) (by simp only[e,aY];rw[<-w]) ⟨by omega,by omega⟩ (by omega)⟩⟩
   .have u:ps.take j.toNat=ps:=fc (by omega)
    rw[u];have D:=ow (σ:=[⟨none,(cat ps).map .int,.live⟩]) (fr:=false) (b:=0) (xs:=cat ps) (st:=.live) rfl (by simp) rfl
    simp[g,D]
theorem HS (ps:List (Bool×List Int)) (b:(ps.length:Int)<=1000000) (h:((cat ps).length:Int)<=1000000):PC tu [.au false (ps.map wB)]=some (iL (cat ps)):=by
 refine bP (agM rfl ?_);have e:=ai4 ps b h;have d:ax (ps.map wB)=true:=by
  clear e b h
  induction ps with
  |nil=>rfl
  |cons a r g=>simp only[cJ,ax,ai3,Bool.true_and];exact g
 simp[d,e]
theorem ai5{cs:List AV}{o:Nat}{x:AV}{K:List AV->Prop}{t:Tk K}:pU cs o [x] K t=(o<cs.length/\K (cs.set o x)):=by
 have e:=tn (f:=id) (xs:=cs) (o:=o) (y:=x) (K:=K) (t:=t);simpa using e
theorem CU{fr:Bool}{xs:List (List Int)}(h:ak σ b=some ⟨none,xs.map iL,st⟩) (a:st.eT=true) (d:n=xs.length):view σ false vd (.sl b n 0 n)=some (bN xs):=fj (k:=11) (f:=iL) (g:=iL) h a d λ_ _=>rfl
theorem iT{a:Type} [Inhabited α] [Inhabited a]{f:α->a}{l:List α}(b:0<=i) (d:i<l.length):ix (l.map f) i=f (ix l i):=by
 unfold ix;rw[eE,eE,fS,cO (by omega)]
 simp
abbrev kh.at (m:kh) (s:Int):kh:=⟨m.cd,s,m.next,m.out⟩
abbrev pW (p:Pl):AV:=wB (true,p.2)
def pc (q:List Pl):List AV:=q.flatMap λp=>[.int p.1,pW p]
theorem yk [Inhabited α]{l:List α}{x:α}(a:0<=i) (b:i<l.length):ix (l.set n x) i=if i=n then x else ix l i:=by
 unfold ix;rw[eE,eE,List.getElem?_set]
 by_cases e:i=n
 .rw[ab (by omega),ab (by omega),ab e];rfl
 .rw[aa (by omega),aa e]
structure Sn (N:Nat) (b:List Bool) (q:List Pl):Prop where
 len:b.length=N
 ok:∀t,0<=t->t<(N:Int)->ix b t=oq q t
variable{q:List Pl}{w:List Int}
theorem Sn.add{N:Nat}{b:List Bool}(h:Sn N b q){t:Int}(t0:0<=t) (t1:t<N):Sn N (b.set t.toNat true) (q ++ [(t,w)]):=by
 refine⟨by simp[h.len],λu U V=>?_⟩
 rw[yk U (by have:=h.len;omega)]
 by_cases e:u=(t.toNat:Int)
 .rw[ab e];simp[oq];right;omega
 .rw[aa e,h.ok u U V]
  simp[oq];omega
def kh.way (m:kh) (s t:Int):List Int×Bool×Int:=match(m.HO s).find? λp=>p.1==t with
 |some p=>(p.2,true,0)
 |none=>([],false,0)
def kh.path (m:kh) (s t:Int):List Int×Bool×Int:=
 if m.aX ≠ 0 then([],false,m.aX)
 else if s<0\/(m.next.length:Int)<=s\/t<0\/(m.next.length:Int)<=t then([],false,2)
 else m.way s t
theorem Bv:∀{u v a b:List Int},u.length=v.length->b8 (u++a) (v++b)=if b8 u v=0 then b8 a b else b8 u v
 | [],[],a,b,_=>by simp[b8]
 |x::u,y::v,a,b,h=>by
  have e:=Bv (u:=u) (v:=v) (a:=a) (b:=b) (by simpa using h)
  simp only[jI,b8,e];split
  .simp
  .split
   .simp
   .rfl
variable{u:List Int}{a:Int}
theorem Bw{v:List Int}{b:Int}(h:aP u v<0):aP (u ++ [a]) (v ++ [b])<0:=by
 unfold aP at h ⊢;simp only[aY,bX,dg]
 by_cases e:u.length<v.length
 .rw[ab (by omega)];omega
 .rw[aa e]at h
  by_cases d:v.length<u.length
  .rw[ab d]at h;omega
  .rw[aa d]at h
   rw[aa (by omega),aa (by omega),Bv (by omega),aa (by omega)]
   exact h
theorem ai6{b:Int}(h:a<b):aP (u ++ [a]) (u ++ [b])<0:=by
 unfold aP;rw[aa (by simp),aa (by simp),Bv rfl,w3,ab rfl]
 simp only[b8,ab h];omega
theorem ai7(h:w ≠ []):aP [] w<0:=by
 unfold aP;rw[ab (by simpa using l5.2 h)];omega
structure Bi (m:kh) (s i a:Int) (q:List Pl):Prop where
 bq:Bq m s q
 par:∀k,0<k->k<(q.length:Int)->∃j b,0<=j/\(j<i\/j=i/\b<a)/\j<k/\(0<=b/\b<m.cd)/\ix q k=(ix (ix m.next (ix q j).1) b,(ix q j).2 ++ [b])
 zk:∀j k,0<=j->j<k->k<(q.length:Int)->aP (ix q j).2 (ix q k).2<0
 done:∀j b,0<=j->j<(q.length:Int)->(j<i\/j=i/\b<a)->0<=b->b<m.cd->∃k,0<=k/\k<(q.length:Int)/\(ix q k).1=ix (ix m.next (ix q j).1) b/\aP (ix q k).2 ((ix q j).2 ++ [b])<=0
variable{m:kh}{s:Int}
theorem Bi.HT(h:Bi m s i a q) (i1:i<q.length):∀k,0<=k->k<(q.length:Int)->aP (ix q k).2 ((ix q i).2 ++ [a])<0:=by
 intro k k0 V
 by_cases e:k=0
 .subst e
  rw[h.bq.head];exact ai7 (by simp)
 .obtain⟨j,b,j0,U,j2,b0,e⟩:=h.par k (by omega) V
  rw[e];rcases U with U|⟨rfl,U⟩
  .exact Bw (h.zk j i j0 U i1)
  .exact ai6 U
theorem Bi.step(hm:m.Ok)(h:Bi m s i a q) (i0:0<=i) (i1:i<q.length) (a0:0<=a) (a1:a<m.cd):Bi m s i (a+1) (rQ m (ix q i) q a):=by
 have hr:=h.bq.fb _ (aO i0 i1);have hl:=h.bq.len i i0 i1;have cL:=h.HT i1;have V:=h.bq.step hm hr (by omega) a0 a1
 cases hh:oq q (ix (ix m.next (ix q i).1) a)with
 |true=>
  rw[Qg hh]at V ⊢;refine⟨V,λk k0 k1=>?_,h.zk,λj b U j1 jb b0 b1=>?_⟩
  .obtain⟨j,b,U,j1,j2,b0,e⟩:=h.par k k0 k1
   exact⟨j,b,U,by omega,j2,b0,e⟩
  .by_cases e:j=i/\b=a
   .obtain⟨rfl,rfl⟩:=e
    rw[Qf]at hh;obtain⟨p,hp,e⟩:=cB.1 hh;obtain⟨k,hk,rfl⟩:=fu.1 hp;rw[<-aG hk]at e;exact⟨(k:Int),by omega,by omega,e,by have:=cL (k:Int) (by omega) (by omega);omega⟩
   .exact h.done j b U j1 (by omega) b0 b1
 |false=>
  rw[Qh hh]at V ⊢;have hlen:((q ++ [(ix (ix m.next (ix q i).1) a,(ix q i).2 ++ [a])]).length:Int)=q.length+1:=by simp
  refine⟨V,λk k0 k1=>?_,λj k U jk k1=>?_,λj b U j1 jb b0 b1=>?_⟩
  .rw[hlen]at k1
   by_cases e:k<(q.length:Int)
   .obtain⟨j,b,U,j1,j2,b0,e'⟩:=h.par k k0 e
    exact⟨j,b,U,by omega,j2,b0,by rw[gk (by omega) e,gk U (by omega)];exact e'⟩
   .have:k=(q.length:Int):=by omega
    subst this;exact⟨i,a,i0,by omega,i1,⟨a0,a1⟩,by rw[rR,gk i0 i1]⟩
  .rw[hlen]at k1
   by_cases e:k<(q.length:Int)
   .rw[gk (by omega) e,gk U (by omega)]
    exact h.zk j k U jk e
   .have:k=(q.length:Int):=by omega
    subst this;rw[rR,gk U jk];exact cL j U jk
  .rw[hlen]at j1 ⊢
   have j1' : j<(q.length:Int):=by omega
   rw[gk U j1']
   by_cases e:j=i/\b=a
   .obtain⟨rfl,rfl⟩:=e
    exact⟨q.length,by omega,by omega,by rw[rR],by rw[rR];exact Int.le_of_eq (dE.refl _)⟩
   .obtain⟨k,k0,k1,e1,e2⟩:=h.done j b U j1' (by omega) b0 b1
    exact⟨k,k0,by omega,by rw[gk k0 k1];exact e1,by rw[gk k0 k1];exact e2⟩
def kh.run (m:kh):Int->List Int->Int
 |s,[]=>s
 |s,a::w=>m.run (ix (ix m.next s) a) w
structure Bf (m:kh) (s:Int) (q:List Pl):Prop where
 bq:Bq m s q
 run:∀k,0<=k->k<(q.length:Int)->m.run s (ix q k).2=(ix q k).1/\∀x∈(ix q k).2,0<=x/\x<m.cd
 par:∀k,0<k->k<(q.length:Int)->∃j b,0<=j/\j<k/\(0<=b/\b<m.cd)/\ix q k=(ix (ix m.next (ix q j).1) b,(ix q j).2 ++ [b])
 pre:∀k n,0<=k->k<(q.length:Int)->n<=(ix q k).2.length->∃j,0<=j/\j<=k/\(n<(ix q k).2.length->j<k)/\(ix q j).2=(ix q k).2.take n
 zk:∀j k,0<=j->j<k->k<(q.length:Int)->aP (ix q j).2 (ix q k).2<0
 all:∀w,(∀x∈w,0<=x/\x<m.cd)->∃k,0<=k/\k<(q.length:Int)/\(ix q k).1=m.run s w/\aP (ix q k).2 w<=0
end Ab
