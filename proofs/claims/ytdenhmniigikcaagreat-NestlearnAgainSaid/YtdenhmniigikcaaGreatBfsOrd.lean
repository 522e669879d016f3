/- Functions on words that many layers use; and what it leans on. Condition: none. -/
import Derived.Test.YtdenhmniigikcaaGreatKey
import Derived.Test.YtdenhmniigikcaaGreatCan
set_option linter.all false
set_option maxRecDepth 100000
set_option maxHeartbeats 4000000
namespace Ab
def wB (p:Bool×List Int):AV:=if p.1=true/\p.2=[]then .ah else iL p.2
theorem Ez (p:Bool×List Int):wB p = .ah/\p.2=[]\/wB p=iL p.2:=by
 unfold wB;split
 ·rename_i h;exact .inl ⟨rfl,h.2⟩
 ·exact .inr rfl
theorem akR (p:Bool×List Int):aN (wB p)=true:=by
 rcases Ez p with h|h
 ·rw[h.1];rfl
 ·rw[h];rfl
theorem Sp{k n:Nat}{z:Int}:kM k (List.replicate n (.int z))=List.replicate n (.int z):=by
 induction n with
 |zero=>rfl
 |succ n ih=>simp only[uc,kM,jx,ih]
theorem Ss (n:Nat) (h:0<n) (hb:(n:Int)<=1073741824):L zu [.ah,.int n] []=some (.sl 0 n 0 0,[⟨none,List.replicate n (.int 0),.live⟩]):=by
 refine Qk (N:=0) ?_;simp only[na];rw[aa (by simp;omega),ab ⟨by omega,by rw[show(dE:Int)=1073741824 from rfl];exact hb⟩]
 simp
theorem Su:L zu [.ah,.int 0] []=some (.ah,[]):=Qk (N:=0) rfl
def cat (ps:List (Bool×List Int)):List Int:=ps.flatMap (·.2)
theorem Jf{ps:List (Bool×List Int)}{i:Int}(h0:0<=i) (h1:i<ps.length):cat (ps.take (i+1).toNat)=cat (ps.take i.toNat)++(ix ps i).2:=by
 have e:ps.take (i+1).toNat=ps.take i.toNat ++ [ix ps i]:=by
  rw[show(i+1).toNat=i.toNat+1 by omega,nH,lZ h0 h1]
  rfl
 rw[e];simp[cat]
theorem zC{ps:List (Bool×List Int)}(i:Nat):(cat (ps.take i)).length<=(cat ps).length:=by
 have:cat ps=cat (ps.take i)++cat (ps.drop i):=by
  unfold cat;rw[<-List.flatMap_append,oM]
 rw[this];simp
theorem Sv{a b:List Int}{n:Nat}(h:a.length+b.length<=n):putAt (a.map .int++List.replicate (n-a.length) (.int 0)) a.length (b.map .int)=(a++b).map .int++List.replicate (n-(a.length+b.length)) (.int 0):=by
 unfold putAt;rw[List.take_left' (by simp),List.drop_append,jH (by simp)]
 simp;omega
theorem Jg:∀{n:Nat}{cs:List AV},cs.length<=n->chunk none n cs=cs
 |0,cs,h=>by
  have:cs=[]:=dW (by omega)
  subst this;rfl
 |n+1,[],h=>rfl
 |n+1,c::cs,h=>by simp only[chunk];rw[Jg (by simpa using h)]
theorem EA{α:Type}{f g:α->AV}{v:AV->Option AV}:∀{xs:List α},(∀x∈xs,v (f x)=some (g x))->bV v (xs.map f)=some (xs.map g)
 | [],_=>rfl
 |x::xs,h=>by
  have e:=EA (f:=f) (g:=g) (v:=v) (xs:=xs) λy hy=>h y (by simp[hy])
  simp only[db,bV,h x (by simp),e]
theorem gu{α:Type}{f g:α->AV}{σ:List ag}{fr:Bool}{b k n:Nat}{xs:List α}{st:eo}(h:ak σ b=some ⟨none,xs.map f,st⟩) (hs:st.gw=true) (hn:n=xs.length) (hf:∀x∈xs,view σ fr k (f x)=some (g x)) :
  view σ fr (k+1) (.sl b n 0 n)=some (.aE false (xs.map g)):=by
 subst hn;have hu:upto σ b xs.length=some ⟨none,xs.map f,st⟩:=by
  unfold upto;rw[h];cases st<;>simp at hs ⊢
 unfold view;simp only[hu,aC,dR,nI,jf,Nat.mul_one,bw,dC];rw[Jg (by simp),EA hf]
theorem qL{σ:List ag}{fr:Bool}{b n:Nat}{xs:List Int}{st:eo}(h:ak σ b=some ⟨none,xs.map .int,st⟩) (hs:st.gw=true) (hn:n=xs.length):view σ fr vd (.sl b n 0 n)=some (iL xs):=gu (k:=11) h hs hn λ_ _=>rfl
theorem akS (ps:List (Bool×List Int)) (hp:(ps.length:Int)<=1000000) (h:((cat ps).length:Int)<=1000000):PC wO [.aE false (ps.map wB)]=some (iL (cat ps)):=by
 refine cW (Qg rfl ?_);simp;refine bC (λi:Int=>[(1,.int i),(4,.int ((cat (ps.take i.toNat)).length:Int))]) (λ_=>[]) (λi=>0<=i/\i<=ps.length) (λi=>(ps.length-i).toNat) 0 rfl (by simp) λi ⟨i0,i1⟩=>?_
 by_cases hi:i<ps.length
 ·have e:=Jf i0 hi
  have l1:=zC (ps:=ps) i.toNat;have l2:=zC (ps:=ps) (i+1).toNat;rw[e]at l2;simp at l2;rcases Ez (ix ps i)with⟨h1,h2⟩|h1
  ·simp[-al,hi,i0,h1]
   refine⟨by omega,by omega,ba (i+1) (by simp[e,h2]) rfl ⟨by omega,by omega⟩ (by omega)⟩
  ·simp[-al,hi,i0,h1]
   refine⟨by omega,by omega,λ_=>⟨by omega,ba (i+1) (by simp[e]) rfl ⟨by omega,by omega⟩ (by omega)⟩⟩
 ·have EB:ps.take i.toNat=ps:=gl (by omega)
  rw[EB]
  by_cases hz:(cat ps).length=0
  ·have hc:cat ps=[]:=dW hz
   simp[-al,hi,hc,Su,jx];refine bC (λi:Int=>[(6,.int i)]) (λ_=>[]) (λi=>0<=i/\i<=ps.length) (λi=>(ps.length-i).toNat) 0 rfl (by simp) λj ⟨j0,j1⟩=>?_
   by_cases hj:j<ps.length
   ·have qj:(ix ps j).2=[]:=by
     have:=Jf j0 hj;have l2:=zC (ps:=ps) (j+1).toNat;rw[this]at l2;simp at l2;exact dW (by omega)
    rcases Ez (ix ps j)with⟨h1,h2⟩|h1
    ·simp[hj,j0,h1];omega
    ·rw[qj]at h1
     simp[hj,j0,h1];omega
   ·simp[hj]
  ·have hg:=Ss (cat ps).length (by omega) (by omega)
   simp[-al,-List.map_replicate,hi,hg,jx,gM,Sp];refine bC (λi:Int=>[(6,.int i),(9,.sl 0 (cat ps).length 0 (cat (ps.take i.toNat)).length)]) (λi=>[⟨none,(cat (ps.take i.toNat)).map .int++List.replicate ((cat ps).length-(cat (ps.take i.toNat)).length) (.int 0),.live⟩]) (λi=>0<=i/\i<=ps.length) (λi=>(ps.length-i).toNat) 0 (by simp[bT,cat]) (by simp) λj ⟨j0,j1⟩=>?_
   by_cases hj:j<ps.length
   ·have e:=Jf j0 hj
    have l1:=zC (ps:=ps) j.toNat;have l2:=zC (ps:=ps) (j+1).toNat;rw[e]at l2;simp at l2;have hp:=Sv (a:=cat (ps.take j.toNat)) (b:=(ix ps j).2) (n:=(cat ps).length) l2;have done:(ix ps j).2=[]->cat (ps.take (j+1).toNat)=cat (ps.take j.toNat):=λh=>by rw[e,h];simp
    rcases Ez (ix ps j)with⟨h1,h2⟩|h1
    ·simp[-al,-List.map_replicate,hj,j0,h1]
     refine⟨by omega,by omega,by omega,ba (j+1) (by simp[done h2]) (by simp only[done h2]) ⟨by omega,by omega⟩ (by omega)⟩
    ·by_cases hn:(ix ps j).2=[]
     ·rw[hn]at h1
      simp[-al,-List.map_replicate,hj,j0,h1];refine⟨by omega,by omega,by omega,ba (j+1) (by simp[done hn]) (by simp only[done hn]) ⟨by omega,by omega⟩ (by omega)⟩
     ·have sh:0<(ix ps j).2.length:=mz.2 hn
      simp[-al,-List.map_replicate,hj,j0,h1,hn];refine⟨by omega,by omega,λhc=>by omega,λ_=>⟨by omega,by omega,ba (j+1) (by simp[e]) (by simp only[e,bu];rw[<-hp]) ⟨by omega,by omega⟩ (by omega)⟩⟩
   ·have yF:ps.take j.toNat=ps:=gl (by omega)
    rw[yF];have hv:=qL (σ:=[⟨none,(cat ps).map .int,.live⟩]) (fr:=false) (b:=0) (xs:=cat ps) (st:=.live) rfl (by simp) rfl
    simp[hj,hv]
theorem Jh (ps:List (Bool×List Int)) (hp:(ps.length:Int)<=1000000) (h:((cat ps).length:Int)<=1000000):PC uH [.aE false (ps.map wB)]=some (iL (cat ps)):=by
 refine cW (aie rfl ?_);have e:=akS ps hp h;have hl:ax (ps.map wB)=true:=by
  clear e hp h
  induction ps with
  |nil=>rfl
  |cons a r ih=>simp only[db,ax,akR,Bool.true_and];exact ih
 simp[hl,e]
theorem akT{cs:List AV}{o:Nat}{x:AV}{K:List AV->Prop}{t:Tk K}:pU cs o [x] K t=(o<cs.length/\K (cs.set o x)):=by
 have e:=uG (f:=id) (xs:=cs) (o:=o) (y:=x) (K:=K) (t:=t);simpa using e
theorem Ge{σ:List ag}{fr:Bool}{b n:Nat}{xs:List (List Int)}{st:eo}(h:ak σ b=some ⟨none,xs.map iL,st⟩) (hs:st.gw=true) (hn:n=xs.length):view σ false vd (.sl b n 0 n)=some (cK xs):=gu (k:=11) (f:=iL) (g:=iL) h hs hn λ_ _=>rfl
theorem jt{α β:Type} [Inhabited α] [Inhabited β]{f:α->β}{l:List α}{i:Int}(h0:0<=i) (h1:i<l.length):ix (l.map f) i=f (ix l i):=by
 unfold ix;rw[gG,gG,ie,dc (by omega)]
 simp
abbrev jC.at (m:jC) (s:Int):jC:=⟨m.cz,s,m.next,m.out⟩
abbrev pW (p:Pl):AV:=wB (true,p.2)
def pc (q:List Pl):List AV:=q.flatMap λp=>[.int p.1,pW p]
theorem zD{α:Type} [Inhabited α]{l:List α}{n:Nat}{i:Int}{x:α}(h0:0<=i) (h1:i<l.length):ix (l.set n x) i=if i=n then x else ix l i:=by
 unfold ix;rw[gG,gG,List.getElem?_set]
 by_cases e:i=n
 ·rw[ab (by omega),ab (by omega),ab e];rfl
 ·rw[aa (by omega),aa e]
structure Sn (N:Nat) (b:List Bool) (q:List Pl):Prop where
 len:b.length=N
 ok:∀t,0<=t->t<(N:Int)->ix b t=pj q t
theorem Sn.add{N:Nat}{b:List Bool}{q:List Pl}(h:Sn N b q){t:Int}{w:List Int}(t0:0<=t) (t1:t<N):Sn N (b.set t.toNat true) (q ++ [(t,w)]):=by
 refine⟨by simp[h.len],λu u0 u1=>?_⟩
 rw[zD u0 (by have:=h.len;omega)]
 by_cases e:u=(t.toNat:Int)
 ·rw[ab e];simp[pj];right;omega
 ·rw[aa e,h.ok u u0 u1]
  simp[pj];omega
def jC.way (m:jC) (s t:Int):List Int×Bool×Int:=match(m.Je s).find? λp=>p.1==t with
 |some p=>(p.2,true,0)
 |none=>([],false,0)
def jC.path (m:jC) (s t:Int):List Int×Bool×Int:=
 if m.bO ≠ 0 then([],false,m.bO)
 else if s<0\/(m.next.length:Int)<=s\/t<0\/(m.next.length:Int)<=t then([],false,2)
 else m.way s t
theorem EC:∀{u v a b:List Int},u.length=v.length->cP (u++a) (v++b)=if cP u v=0 then cP a b else cP u v
 | [],[],a,b,_=>by simp[cP]
 |x::u,y::v,a,b,h=>by
  have e:=EC (u:=u) (v:=v) (a:=a) (b:=b) (by simpa using h)
  simp only[kX,cP,e];split
  ·simp
  ·split
   ·simp
   ·rfl
theorem ED{u v:List Int}{a b:Int}(h:aV u v<0):aV (u ++ [a]) (v ++ [b])<0:=by
 unfold aV at h ⊢;simp only[bu,cw,dD]
 by_cases h1:u.length<v.length
 ·rw[ab (by omega)];omega
 ·rw[aa h1]at h
  by_cases h2:v.length<u.length
  ·rw[ab h2]at h;omega
  ·rw[aa h2]at h
   rw[aa (by omega),aa (by omega),EC (by omega),aa (by omega)]
   exact h
theorem akU{u:List Int}{a b:Int}(h:a<b):aV (u ++ [a]) (u ++ [b])<0:=by
 unfold aV;rw[aa (by simp),aa (by simp),EC rfl,yu,ab rfl]
 simp only[cP,ab h];omega
theorem akV{w:List Int}(h:w ≠ []):aV [] w<0:=by
 unfold aV;rw[ab (by simpa using mz.2 h)];omega
structure Bi (m:jC) (s i a:Int) (q:List Pl):Prop where
 bq:Bq m s q
 par:∀k,0<k->k<(q.length:Int)->∃j b,0<=j/\(j<i\/j=i/\b<a)/\j<k/\(0<=b/\b<m.cz)/\ix q k=(ix (ix m.next (ix q j).1) b,(ix q j).2 ++ [b])
 AR:∀j k,0<=j->j<k->k<(q.length:Int)->aV (ix q j).2 (ix q k).2<0
 done:∀j b,0<=j->j<(q.length:Int)->(j<i\/j=i/\b<a)->0<=b->b<m.cz->∃k,0<=k/\k<(q.length:Int)/\(ix q k).1=ix (ix m.next (ix q j).1) b/\aV (ix q k).2 ((ix q j).2 ++ [b])<=0
theorem Bi.Ji{m:jC}{s i a:Int}{q:List Pl}(h:Bi m s i a q) (i1:i<q.length):∀k,0<=k->k<(q.length:Int)->aV (ix q k).2 ((ix q i).2 ++ [a])<0:=by
 intro k k0 k1
 by_cases e:k=0
 ·subst e
  rw[h.bq.head];exact akV (by simp)
 ·obtain⟨j,b,j0,j1,j2,b0,e⟩:=h.par k (by omega) k1
  rw[e];rcases j1 with j1|⟨rfl,j1⟩
  ·exact ED (h.AR j i j0 j1 i1)
  ·exact akU j1
theorem Bi.step{m:jC}(hm:m.Ok){s i a:Int}{q:List Pl}(h:Bi m s i a q) (i0:0<=i) (i1:i<q.length) (a0:0<=a) (a1:a<m.cz):Bi m s i (a+1) (tp m (ix q i) q a):=by
 have hr:=h.bq.fu _ (aZ i0 i1);have hl:=h.bq.len i i0 i1;have aK:=h.Ji i1;have Wv:=h.bq.step hm hr (by omega) a0 a1
 cases hh:pj q (ix (ix m.next (ix q i).1) a)with
 |true=>
  rw[Sj hh]at Wv ⊢;refine⟨Wv,λk k0 k1=>?_,h.AR,λj b j0 j1 jb b0 b1=>?_⟩
  ·obtain⟨j,b,j0,j1,j2,b0,e⟩:=h.par k k0 k1
   exact⟨j,b,j0,by omega,j2,b0,e⟩
  ·by_cases e:j=i/\b=a
   ·obtain⟨rfl,rfl⟩:=e
    rw[Si]at hh;obtain⟨p,hp,e⟩:=cR.1 hh;obtain⟨k,hk,rfl⟩:=fJ.1 hp;rw[<-aS hk]at e;exact⟨(k:Int),by omega,by omega,e,by have:=aK (k:Int) (by omega) (by omega);omega⟩
   ·exact h.done j b j0 j1 (by omega) b0 b1
 |false=>
  rw[Sl hh]at Wv ⊢;have hlen:((q ++ [(ix (ix m.next (ix q i).1) a,(ix q i).2 ++ [a])]).length:Int)=q.length+1:=by simp
  refine⟨Wv,λk k0 k1=>?_,λj k j0 jk k1=>?_,λj b j0 j1 jb b0 b1=>?_⟩
  ·rw[hlen]at k1
   by_cases e:k<(q.length:Int)
   ·obtain⟨j,b,j0,j1,j2,b0,e'⟩:=h.par k k0 e
    exact⟨j,b,j0,by omega,j2,b0,by rw[gJ (by omega) e,gJ j0 (by omega)];exact e'⟩
   ·have:k=(q.length:Int):=by omega
    subst this;exact⟨i,a,i0,by omega,i1,⟨a0,a1⟩,by rw[tt,gJ i0 i1]⟩
  ·rw[hlen]at k1
   by_cases e:k<(q.length:Int)
   ·rw[gJ (by omega) e,gJ j0 (by omega)]
    exact h.AR j k j0 jk e
   ·have:k=(q.length:Int):=by omega
    subst this;rw[tt,gJ j0 jk];exact aK j j0 jk
  ·rw[hlen]at j1 ⊢
   have j1' : j<(q.length:Int):=by omega
   rw[gJ j0 j1']
   by_cases e:j=i/\b=a
   ·obtain⟨rfl,rfl⟩:=e
    exact⟨q.length,by omega,by omega,by rw[tt],by rw[tt];exact Int.le_of_eq (dJ.refl _)⟩
   ·obtain⟨k,k0,k1,e1,e2⟩:=h.done j b j0 j1' (by omega) b0 b1
    exact⟨k,k0,by omega,by rw[gJ k0 k1];exact e1,by rw[gJ k0 k1];exact e2⟩
def jC.run (m:jC):Int->List Int->Int
 |s,[]=>s
 |s,a::w=>m.run (ix (ix m.next s) a) w
structure Bf (m:jC) (s:Int) (q:List Pl):Prop where
 bq:Bq m s q
 run:∀k,0<=k->k<(q.length:Int)->m.run s (ix q k).2=(ix q k).1/\∀x∈(ix q k).2,0<=x/\x<m.cz
 par:∀k,0<k->k<(q.length:Int)->∃j b,0<=j/\j<k/\(0<=b/\b<m.cz)/\ix q k=(ix (ix m.next (ix q j).1) b,(ix q j).2 ++ [b])
 pre:∀k n,0<=k->k<(q.length:Int)->n<=(ix q k).2.length->∃j,0<=j/\j<=k/\(n<(ix q k).2.length->j<k)/\(ix q j).2=(ix q k).2.take n
 AR:∀j k,0<=j->j<k->k<(q.length:Int)->aV (ix q j).2 (ix q k).2<0
 all:∀w,(∀x∈w,0<=x/\x<m.cz)->∃k,0<=k/\k<(q.length:Int)/\(ix q k).1=m.run s w/\aV (ix q k).2 w<=0
end Ab
