/- Blocks of numbers; stores: blocks behind others, blocks that are put, rows that lie somewhere; and what it leans on. Condition: none. -/
import Derived.Test.YtdenhmniigikcaaGreatBfsOrd
import Derived.Test.YtdenhmniigikcaaGreatFrz
import Derived.Test.YtdenhmniigikcaaGreatKey
import Derived.Test.YtdenhmniigikcaaGreatN43Word
set_option linter.all false
set_option maxRecDepth 100000
set_option maxHeartbeats 4000000
namespace Ab
abbrev Zb (vs:List Int):al:=⟨none,vs.map .int,.live⟩
def bE:∀(σ:List al) (i:Nat),aq σ i=σ[i]?
 | [],i=>by simp[aq]
 |x::r,0=>rfl
 |x::r,i+1=>by simp[aq,bE r i]
def sE:∀(σ:List al) (i:Nat) (B:al),ar σ i B=σ.set i B
 | [],i,B=>by simp[ar]
 |x::r,0,B=>rfl
 |x::r,i+1,B=>by simp[ar,sE r i B]
def Dd{n:Nat}:∀l:List Int,kL n (l.map .int)=l.map .int
 | []=>rfl
 |x::l=>by simp only[cS,kL,js,Dd l]
variable{i:Nat}{B:al}
def cU{Q:List al}(h:aq Q i=some B):i<Q.length:=by
 rw[bE]at h;exact(dC.1 h).1
variable{r:List al}
def gz{Q:List al}(h:aq Q i=some B):aq (Q++r) i=some B:=by
 have:=cU h;rw[bE]at h ⊢;rw[eJ this];exact h
def gU{Q:List al}:aq (Q++B::r) Q.length=some B:=by rw[bE];simp
variable{A:al}
def Ke{Q:List al}:aq (Q++A::B::r) (Q.length+1)=some B:=by rw[bE];simp
def al9{Q:List al}{C:al}:aq (Q++A::B::C::r) (Q.length+2)=some C:=by rw[bE];simp
def aY{Q:List al}:(ar Q i B).length=Q.length:=by rw[sE];simp
def bU{Q:List al}(h:i<Q.length):aq (ar Q i B) i=some B:=by
 rw[bE,sE,List.getElem?_set,ae rfl,ae h]
def aA{Q:List al}{j:Nat}(h:i ≠ j):aq (ar Q i B) j=aq Q j:=by
 rw[bE,bE,sE,List.getElem?_set,ad h]
structure ama (σ:List al) (b:Nat) (x4 : Nat->Nat) (l:List (List Int)):Prop where
 tab:aq σ b=some ⟨none,(List.range l.length).map λ(j:Nat)=>AV.sl (x4 j) (ix l (j:Int)).length 0 (ix l (j:Int)).length,.live⟩
 row:∀j:Nat,j<l.length->aq σ (x4 j)=some (Zb (ix l (j:Int)))
variable{σ:List al}{b u:Nat}
def amb{vars env:List AV}{x:Rf}{z:List AV}{k:Option Nat}{a:List al}{K:List AV->List al->List al->Prop}{off len:Nat}(d:rv vars env x = .sl b u off len) (e:upto σ b u=some B) (g:0<len/\off+len*aM k<=B.cells.length/\aM B.k=aM k/\z.length=aM k/\B.st.isLive=true):ck L vars (.vA x z k) false env a σ K=K (.aO::env) [] (ar σ b ⟨B.k,putAt B.cells off (eK len z),B.st⟩):=by
 show aS (gf L σ (rv vars env) (.vA x z k)) (λp=>K (p.1::env) [] p.2)=_;simp only[gf,d,e];rw[ae g];rfl
def gl (l:List Int):Nat->List Int
 |0=>[]
 |n+1=>if 0<n/\ix l (n:Int)=ix l ((n:Int)-1)then gl l n else gl l n ++ [ix l (n:Int)]
def il (l:List Int):List Int:=gl l l.length
def Kf{l:List Int}:∀{n:Nat}{w:Int},n<=l.length->(w∈gl l n↔∃j:Int,0<=j/\j<n/\ix l j=w)
 |0,w,_=>by simp[gl];intro j;omega
 |n+1,w,h=>by
  have g:=λw=>Kf (l:=l) (n:=n) (w:=w) aa
  unfold gl;split
  .rename_i i
   rw[g];constructor
   .rintro⟨j,a,b,e⟩;exact⟨j,a,aa,e⟩
   .rintro⟨j,a,b,e⟩
    by_cases d:j=(n:Int)
    .subst d;exact⟨(n:Int)-1,aa,aa,by rw[<-i.2];exact e⟩
    .exact⟨j,a,aa,e⟩
  .rw[cY,g]
   constructor
   .rintro(⟨j,a,b,e⟩|e)
    .exact⟨j,a,aa,e⟩
    .simp at e;exact⟨n,aa,aa,e.symm⟩
   .rintro⟨j,a,b,e⟩
    by_cases d:j=(n:Int)
    .subst d;right;simp[e]
    .left;exact⟨j,a,aa,e⟩
def amc{l:List Int}{w:Int}:w∈il l↔w∈l:=by
 unfold il;rw[Kf (bd _)];constructor
 .rintro⟨j,a,b,rfl⟩;exact aJ a b
 .intro h
  obtain⟨j,d,e⟩:=eL.1 h;exact⟨j,aa,aa,by rw[aB d,e]⟩
def S9 (l:List Int):∀n,(gl l n).length<=n
 |0=>by simp[gl]
 |n+1=>by
  have:=S9 l n;unfold gl;split
  .omega
  .simp;omega
def Th{l:List Int}(g:l.Pairwise (·<=·)):∀{n:Nat},n<=l.length->(gl l n).Pairwise (·< ·)
 |0,_=>by simp[gl]
 |n+1,h=>by
  have m:=Th g (n:=n) aa
  unfold gl;split
  .exact m
  .rename_i q
   rw[List.pairwise_append];refine⟨m,ab,λa r b o=>?_⟩
   simp at o;subst o;obtain⟨j,w,x,rfl⟩:=(Kf aa).1 r
   have le:∀i k:Nat,i<=k->k<l.length->ix l (i:Int)<=ix l (k:Int):=λi k d p=>by
    rcases Nat.lt_or_eq_of_le d with d|d
    .rw[aB aa,aB p]
     exact qm.1 g i k aa p d
    .subst d;omega
   have s:=le j.toNat (n-1) aa aa
   have u:=le (n-1) n aa aa
   rw[show((j.toNat:Nat):Int)=j by omega,show((n-1:Nat):Int)=(n:Int)-1 by omega]at s
   rw[show((n-1:Nat):Int)=(n:Int)-1 by omega]at u
   have y:ix l (n:Int) ≠ ix l ((n:Int)-1):=λe=>q ⟨aa,e⟩
   omega
variable{vs:List Int}
def Ti(h:gl vs vs.length=vs.take vs.length):il vs=vs:=by unfold il;rw[h,List.take_length]
theorem Tl(h:0<vs.length):gl vs 1=vs.take 1:=by
 match vs,h with
 |x::r,_=>rfl
variable{k:Int}
def Tm(k0:1<=k) (h:ix vs k=ix vs (k-1)):gl vs (k+1).toNat=gl vs k.toNat:=by
 rw[show(k+1).toNat=k.toNat+1 by omega]
 conv=>lhs;unfold gl
 rw[ae ⟨aa,by rw[show((k.toNat:Nat):Int)=k by omega];exact h⟩]
def To(k0:1<=k) (h:¬ix vs k=ix vs (k-1)):gl vs (k+1).toNat=gl vs k.toNat ++ [ix vs k]:=by
 rw[show(k+1).toNat=k.toNat+1 by omega]
 conv=>lhs;unfold gl
 rw[ad (λ⟨_,e⟩=>h (by rwa [show((k.toNat:Nat):Int)=k by omega]at e)),show((k.toNat:Nat):Int)=k by omega]
def amd(a:0<=k) (b:k<vs.length):vs.take (k+1).toNat=vs.take k.toNat ++ [ix vs k]:=by
 rw[show(k+1).toNat=k.toNat+1 by omega,nh,mw a b];rfl
abbrev ZB (vs:List Int) (r:Nat):al:=⟨none,vs.map .int++List.replicate r (.int 0),.live⟩
def ame (vs:List Int) (D:vs ≠ []) (M:(vs.length:Int)<=1000000) :
  LX L JN [.sl 0 vs.length 0 vs.length] [Zb vs] (λv τ=>v = .sl 0 vs.length 0 (il vs).length/\τ=[ZB (il vs) (vs.length-(il vs).length)]):=by
 have C:0<vs.length:=mR.2 D;refine ajZ rfl ?_
 by_cases N:vs.length<2
 .simp[show(vs.length:Int)<2 by omega]
  have r:vs.length=1:=aa
  rw[Ti (by rw[r];exact Tl C)];simp
 .simp[show ¬(vs.length:Int)<2 by omega]
  refine aK (λk:Int=>[(1,.int k)]) (λ_=>[Zb vs]) (λk=>1<=k/\k<=vs.length/\gl vs k.toNat=vs.take k.toNat) (λk=>(vs.length-k).toNat) 1 rfl ⟨aa,aa,?_⟩ λk ⟨E,O,g⟩=>?_
  .exact Tl C
  by_cases s:k<vs.length
  .simp[-aj,s,show 0<=k by omega,show 0<=k-1 by omega,show k-1<(vs.length:Int)by omega]
   refine⟨aa,aa,aa,λu=>⟨aa,?_⟩,λu=>⟨aa,aD (k+1) rfl rfl ⟨aa,aa,by rw[To aa u,g,amd aa s]⟩ aa⟩⟩
   obtain⟨k,rfl⟩:∃F : Nat,k=F :=⟨k.toNat,aa⟩
   have G:k<vs.length:=aa
   rw[lA]at g ⊢;have e:=Tm (vs:=vs) E u;rw[show((k:Int)+1).toNat=k+1 by omega,lA,g]at e
   refine aK (λp:Nat×Nat×List Int=>[(1,.int p.1),(2,.int ((p.2.1:Int)+1))]) (λp=>[Zb p.2.2]) (λp=>k+p.2.1+1<=vs.length/\p.2.2.length=vs.length/\p.1=(gl vs (k+p.2.1+1)).length/\p.1<=k+p.2.1/\p.2.2.take p.1=gl vs (k+p.2.1+1)/\∀j:Nat,k+p.2.1<=j->j<vs.length->ix p.2.2 (j:Int)=ix vs (j:Int))
    (λp=>vs.length-p.2.1) (k,0,vs) aX ⟨au,rfl,by dsimp only;rw[Nat.add_zero,e];simp;omega,au,by dsimp only;rw[Nat.add_zero,e],λ_ _ _=>rfl⟩ ?_
   rintro⟨q,j,cs⟩ ⟨H,d,l,I,m,n⟩;dsimp only at H d l I m n ⊢
   by_cases J:k+j+1<vs.length
   .have r:=n (k+j+1) aa J
    have K:=n (k+j) aa aa
    have w:ix vs ((k+j+1:Nat):Int)=ix vs ((k+j:Nat):Int)->gl vs (k+(j+1)+1)=gl vs (k+j+1):=λh=>by
     have:=Tm (vs:=vs) (k:=((k+j+1:Nat):Int)) aa rI
     rw[show(((k+j+1:Nat):Int)+1).toNat=k+(j+1)+1 by omega,show(((k+j+1:Nat):Int)).toNat=k+j+1 by omega]at this
     exact this
    have x:¬ix vs ((k+j+1:Nat):Int)=ix vs ((k+j:Nat):Int)->gl vs (k+(j+1)+1)=gl vs (k+j+1) ++ [ix vs ((k+j+1:Nat):Int)]:=λh=>by
     have:=To (vs:=vs) (k:=((k+j+1:Nat):Int)) aa rI
     rw[show(((k+j+1:Nat):Int)+1).toNat=k+(j+1)+1 by omega,show(((k+j+1:Nat):Int)).toNat=k+j+1 by omega]at this
     exact this
    rw[<-r,<-K,show((k+j+1:Nat):Int)=(k:Int)+((j:Int)+1)by omega,show((k+j:Nat):Int)=(k:Int)+j by omega]at w x
    simp[-aj,d,show(j:Int)+1<((vs.length-k:Nat):Int)by omega]
    refine⟨aa,aa,aa,aa,aa,λh=>⟨aa,aD (q,j+1,cs) ab rfl ⟨au,d,by dsimp only;rw[w h];exact l,au,by dsimp only;rw[w h];exact m,λi a b=>n i (by dsimp only at a;omega) b⟩ au⟩,λh=>⟨aa,aa,aa,aa,aa,aD (q+1,j+1,cs.set q (ix cs ((k:Int)+((j:Int)+1)))) ab na ⟨au,fM,by dsimp only;rw[x h];simp;exact l,au,?_,λi a b=>?_⟩ au⟩⟩
    .dsimp only
     rw[x h,<-m,nh,List.take_set_of_le (bd _),List.getElem?_set_self aa]
     rfl
    .dsimp only at a ⊢
     rw[zT aa aa,ad aa]
     exact n i aa b
   .simp[-aj,show ¬(j:Int)+1<((vs.length-k:Nat):Int)by omega]
    have y:q<=vs.length:=aa
    have z:k+j+1=vs.length:=aa
    rw[z]at l m;refine⟨d,y,?_⟩;rw[amb (B:=Zb cs) rfl (by simp[upto,aq,d]) ⟨aa,by simp[d];omega,rfl,rfl,rfl⟩]
    have o:putAt (cs.map .int) q (eK (vs.length-q) [.int 0])=(il vs).map .int++List.replicate (vs.length-q) (.int 0):=by
     unfold putAt;rw[<-List.map_take,m,jY (by simp[eK,d];omega)]
     simp[eK,il]
    have A:(il vs).length=q:=by unfold il;exact l.symm
    simp[-List.map_replicate,o,A];omega
  .simp[s]
   rw[show k.toNat=vs.length by omega]at g
   rw[Ti g];simp
def amf{n:Nat}{zs:List Int}(e:aq σ b=some (Zb zs)) (g:n=zs.length) (h:zs ≠ []) (m:(zs.length:Int)<=1000000):L zL [.sl b n 0 n] σ=some (.bM [],ar σ b (Zb (cB zs))):=by
 subst g;refine ajY (N:=0) ?_;have d : upto σ b zs.length=some (Zb zs):=by
  unfold upto;rw[e];simp
 have i:0<zs.length:=mR.2 h;simp only[kz,d];have o:zs.length<=dK:=by show zs.length<=1073741824;omega
 rw[ae (by simp[fb.isLive,hZ,i];omega)]
 have j:(((zs.map AV.int).drop 0).take zs.length)=zs.map .int:=by rw[ow,eZ ab]
 rw[j,FO];have l:(cB zs).length=zs.length:=(wF zs).length_eq;have a:putAt (zs.map AV.int) 0 ((cB zs).map .int)=(cB zs).map .int:=by
  unfold putAt;rw[List.take_zero,mQ,jY (by simp[l])];simp
 simp only[a]
def zU{rest:List AV}:∀{xs:List Int},chunk none xs.length (xs.map AV.int++rest)=xs.map .int
 | []=>rfl
 |x::xs=>by
  have e:=zU (rest:=rest) (xs:=xs);simp only[cO,cS,jD,chunk,e]
def Tp{r:Nat}{xs:List Int}(h:aq σ b=some (ZB xs r)) (a:u=xs.length+r):view σ false vd (.sl b u 0 xs.length)=some (iL xs):=by
 subst a;have a:upto σ b (xs.length+r)=some (ZB xs r):=by
  unfold upto;rw[h];simp
 show view σ false (11+1) _=_;unfold view;simp only[a,aM,ow,gX,Nat.mul_one];rw[ae ab,zU,C8 (f:=AV.int) (g:=AV.int) (v:=view σ false 11) λ_ _=>rfl]
def amg (l:List Int):(il l).length<=l.length:=S9 l _
def Kg{k:Nat}:∀{ls:List (List Int)},(∀r∈ls,r.length<=k)->ls.flatten.length<=ls.length*k
 | [],_=>by simp
 |r::ls,h=>by
  have a:=Kg (k:=k) (ls:=ls) λx b=>h x fj
  have d:=h r ab
  simp[fh]at a ⊢;omega
attribute [local simp] oC
def amh{A:List AV}{x z:AV}{k:Nat}(h:A.length=i):putAt (A++List.replicate (k+1) z) i [x]=A ++ [x]++List.replicate k z:=by
 subst h;unfold putAt;rw[List.take_left,List.drop_append,jY ab]
 simp[List.drop_replicate]
def Kh (l:List Int) (b:∀x∈l,0<=x/\x<=255) (o:l.length<=100000):PC zt [iL l]=some (.str (fg l)):=by
 refine bZ (ajS rfl ?_);simp[-aj];refine⟨aa,?_⟩
 refine aK (λi:Nat=>[(4,.sl 0 l.length 0 i),(1,.int i)]) (λi=>[⟨none,(l.take i).map (AV.ik 4)++List.replicate (l.length-i) (.ik 4 0),.live⟩]) (λi=>i<=l.length) (λi=>l.length-i) 0 aX aa ?_
 intro i j
 by_cases d:i<l.length
 .have tk:=gx d
  have g:=b _ (aJ (l:=l) (n:=(i:Int)) aa aa)
  have a:min i l.length=i:=ql aa
  simp[-aj,-List.map_take,d,g.1,g.2,a];refine⟨aa,aa,λh=>absurd h aa,λ_=>⟨aa,aa,aD (i+1) ab ?_ aa aa⟩⟩
  rw[tk,jE,show l.length-i=(l.length-(i+1))+1 by omega]
  have:=amh (A:=(l.take i).map (AV.ik 4)) (z:=.ik 4 0) (x:=.ik 4 (ix l (i:Int))) (k:=l.length-(i+1)) (i:=i) ax
  exact congrArg (λc=>[(⟨none,c,.live⟩:al)]) this
 .have ei:i=l.length:=by omega
  subst ei;have m:=CU (l:=l) b;have e:(l.map (AV.ik 4)).take l.length=l.map (AV.ik 4):=eZ ab
  simp[-aj,-List.map_take,e,m]
def ao.bj (n:ao):List Int:=il (cB (n.start::n.call.flatten))
variable{n:ao}
def r7{x:Int}:x∈n.bj↔x=n.start\/∃r∈n.call,x∈r:=by
 unfold ao.bj;rw[amc,(wF _).mem_iff];simp[List.mem_flatten]
def ami:n.bj.Pairwise (·< ·):=Th (FV _) (bd _)
def ao.Ok.zV(hn:n.Ok):∀r∈n.call,r.length<=64:=λr hr=>by
 obtain⟨j,hj,e⟩:=eL.1 hr;have ln:=hn.lens;have:=(hn.row j aa aa).1
 rw[aB hj,e]at this;have:=hn.calls;omega
def amj (n:ao) (j:n.Ok):PC Jy [n.av]=some (iL n.bj):=by
 refine bZ (ajr rfl ?_);have A:=j.lens;have B:=Kg j.zV;have m:n.call.length<=128:=by have:=j.eU;omega
 have hle:∀i:Nat,(n.call.take i).flatten.length<=n.call.flatten.length:=λi=>by
  have e:(n.call.take i).flatten++(n.call.drop i).flatten=n.call.flatten:=by rw[<-List.flatten_append,nm]
  rw[<-e];simp
 simp[-aj];refine aK (λi:Nat=>[(2,.int i),(5,.sl 0 ((n.call.take i).flatten.length+1) 0 ((n.call.take i).flatten.length+1))]) (λi=>[Zb (n.start::(n.call.take i).flatten)]) (λi=>i<=n.call.length) (λi=>n.call.length-i) 0 aX aa ?_
 intro i C
 by_cases r:i<n.call.length
 .have d:(n.call.take (i+1)).flatten=(n.call.take i).flatten++ix n.call (i:Int):=by
   rw[gx r,List.flatten_append];simp
  have g:=hle (i+1);have D:=j.zV _ (aJ (l:=n.call) (n:=(i:Int)) aa aa)
  rw[d]at g;generalize (n.call.take i).flatten=F at *;rw[aU]at g;simp[-aj,-List.length_flatten,r];refine⟨aa,λh=>⟨aa,aD (i+1) (by rw[d,h];simp) (by rw[d,h];simp) aa aa⟩,λh=>⟨aa,aD (i+1) (by rw[d];simp;omega) (by rw[d];simp) aa aa⟩⟩
 .have ei:i=n.call.length:=by omega
  subst ei;rw[List.take_length];have s:=hle n.call.length;generalize y:n.call.flatten=F at *;have w:n.call.length*64<=128*64:=lr _ m;have o:=amf (σ:=[Zb (n.start::F)]) (b:=0) (n:=F.length+1) (zs:=n.start::F) rfl ab ab ax
  have o:L zL [.sl 0 (F.length+1) 0 (F.length+1)] [Zb (n.start::F)]=some (.bM [],[Zb (cB (n.start::F))]):=o;have a:(cB (n.start::F)).length=F.length+1:=by rw[(wF _).length_eq];rfl
  have p:cB (n.start::F) ≠ []:=λe=>by rw[e]at a;simp at a
  obtain⟨v,E,x,rfl,rfl⟩:=dd (ame (cB (n.start::F)) p aa)
  rw[a]at x;have z:=amg (cB (n.start::F));have q:=Tp (σ:=[ZB (il (cB (n.start::F))) (F.length+1-(il (cB (n.start::F))).length)]) (b:=0) (u:=F.length+1) rfl aa
  simp[-aj,-List.map_replicate,o,x,q];unfold ao.bj;rw[y]
end Ab
namespace Ab
abbrev nV (l:List (List (List (List Int)))):AV:=.aF false (l.map fv)
structure Tt where
 n:ao
 plc:List Int
 K:List (List Int)
 IN:List (List Int)
 BL:List (List (List (List Int)))
abbrev Tt.av (v:Tt):AV:=.a8 (.agg [.int v.n.calls,.int v.n.ak,.int v.n.ah,.int v.n.stack,.int v.n.start,bL v.n.accept,b8 v.n.call,b8 v.n.push,b8 v.n.inner,fv v.n.pop,iL v.n.bj,iL v.plc,b8 v.K,.qh,b8 v.IN,nV v.BL])
def ao.oF (n:ao) (l:List Int):Prop:=∀s∈l,0<=s/\s<(n.accept.length:Int)
variable{σ:List al}{b:Nat}{fr:Bool}
def zW{n:Nat}{out:List Int}(h:aq σ b=some (bp out)) (a:n=out.length):view σ fr vd (.sl b n 0 n)=some (iL out):=by
 subst a;exact nU h (by split<;>simp) rfl
def amk (v:Tt) (d:v.n.Ok) (x i:Int) (e:0<=x/\x<(v.K.length:Int)) (h:0<=i/\i<v.n.ak) (j:v.n.oF (ix v.K x)) (u:(ix v.K x).length<=1000):LX L JA [v.av,.int x,.int i] [] (λr τ=>bP τ true r=some (iL ((ix v.K x).map λs=>ix (ix v.n.inner s) i))):=by
 refine ajs rfl ?_;have w:=d.lens;simp[-aj,e.1,e.2];generalize ix v.K x=l at *;refine aK (λk:Nat=>[(3,.int k),(6,.sl 0 k 0 k)]) (λk=>[bp ((l.take k).map λs=>ix (ix v.n.inner s) i)]) (λk=>k<=l.length) (λk=>l.length-k) 0 aX aa ?_
 intro k y
 by_cases g:k<l.length
 .have b:=j _ (aJ (l:=l) (n:=(k:Int)) aa aa)
  have m:=(d.row _ b.1 b.2).2.2.1;have o:=az (show ix l (k:Int)<(v.n.inner.length:Int)by omega)
  have p:=az (show i<((ix v.n.inner (ix l (k:Int))).length:Int)by omega)
  have a:min k l.length=k:=ql aa
  simp[-aj,-List.map_take,g,b.1,o,p,h.1,a];exact⟨dE,aa,aa,aD (k+1) ab (by rw[gx g];simp) aa aa⟩
 .have q:k=l.length:=by omega
  subst q;simp[-aj];exact zW rfl ab
def ao.qy (n:ao) (plc y:List Int) (c r s:Int):Int:=
 ix (ix (ix n.pop (ix y (ix plc (ix (ix n.call s) c)))) (ix (ix n.push s) c)) r
def aml (v:Tt) (b:v.n.Ok) (x c y r:Int) (m:0<=x/\x<(v.K.length:Int)) (p:0<=y/\y<(v.K.length:Int)) (h:0<=c/\c<v.n.calls) (q:0<=r/\r<v.n.ah) (u:v.n.oF (ix v.K x)) (j:v.n.oF (ix v.K y)) (F:(ix v.K x).length<=1000)
  (w:∀s,0<=s->s<(v.n.accept.length:Int)->ix (ix v.n.call s) c<(v.plc.length:Int)/\0<=ix v.plc (ix (ix v.n.call s) c)/\ix v.plc (ix (ix v.n.call s) c)<((ix v.K y).length:Int)):LX L JO [v.av,.int x,.int c,.int y,.int r] [] (λz τ=>bP τ true z=some (iL ((ix v.K x).map (v.n.qy v.plc (ix v.K y) c r)))):=by
 refine aj0 rfl ?_;have G:=b.lens;simp[-aj,m.1,m.2];generalize ix v.K x=l at *;refine aK (λk:Nat=>[(5,.int k),(9,.sl 0 k 0 k)]) (λk=>[bp ((l.take k).map (v.n.qy v.plc (ix v.K y) c r))]) (λk=>k<=l.length) (λk=>l.length-k) 0 aX aa ?_
 intro k H
 by_cases o:k<l.length
 .have a:=u _ (aJ (l:=l) (n:=(k:Int)) aa aa)
  have tk:=gx o;have A:=b.row _ a.1 a.2;have d:=w _ a.1 a.2;have B:=b.call _ _ a.1 a.2 h.1 h.2;have e:=b.push _ _ a.1 a.2 h.1 h.2;have i:=j _ (aJ d.2.1 d.2.2);have C:=b.row _ i.1 i.2;have D:=b.CW _ _ i.1 i.2 e.1 e.2;have g:min k l.length=k:=ql aa
  simp[-aj,-List.map_take,o,a.1,g];refine⟨p,aa,aa,aa,aa,aa,aa,aa,aa,aa,dE,aa,aa,aD (k+1) ab (by rw[tk];simp[ao.qy]) aa aa⟩
 .have E:k=l.length:=by omega
  subst E;simp[-aj];exact zW rfl ab
def rb:Nat->List (List Int)->List (AV×AV)
 |_,[]=>[]
 |i,l::K=>(.str (fg l),.int i)::rb (i+1) K
def De:∀(i:Nat) (K:List (List Int)) (l:List Int),rb i (K ++ [l])=rb i K ++ [(.str (fg l),.int ((i+K.length:Nat):Int))]
 |i,[],l=>by simp[rb]
 |i,k::K,l=>by
  have:=De (i+1) K l;simp only[jD,rb,this,cO];rw[show i+1+K.length=i+(K.length+1)by omega]
def dG (l:List Int):Prop:=∀x∈l,0<=x/\x<=255
def xg{l:List Int}(b:dG l):∀(i:Nat) (K:List (List Int)),(∀k∈K,dG k)->cL (rb i K) (.str (fg l))=some (if l∈K then some (.int ((i+K.idxOf l:Nat):Int))else none)
 |i,[],_=>rfl
 |i,k::K,h=>by
  have d:=xg b (i+1) K λr g=>h r iH
  simp only[rb,cL,eC]
  by_cases a:k=l
  .subst a;simp[List.idxOf_cons]
  .have j:decide (fg l=fg k)=false:=by
    rw[uA];intro m;exact a (CV b (h k ab) m).symm
   rw[j];simp only[d];have n:¬l=k:=λe=>a e.symm;have o:(k==l)=false:=iJ
   simp[n,List.idxOf_cons,o];split
   .congr 2;omega
   .rfl
inductive Tg where
 |v|pl|mp|ls|aQ|bl
 |rw(x:Nat)
 |cl (x c:Nat)
 |old (i:Nat)
 deriving DecidableEq
def cu (b k:Nat):AV:=if k=0 then .ag else .sl b k 0 k
def wI (l:List Int):AV:=.aF (decide (l ≠ [])) (l.map .int)
structure Vd where
 n:ao
 plc:List Int
 K:List (List Int)
 IN:List (List Int)
 BL:List (List (List (List Int)))
abbrev Vd.vcs (D:Vd):Tt:=⟨D.n,D.plc,D.K,D.IN,D.BL⟩
def Vd.row (D:Vd) (x:Nat):List (List (List Int)):=ix D.BL (x:Int)
def Vd.bV (D:Vd) (x c:Nat):List (List Int):=ix (D.row x) (c:Int)
def Vd.box (D:Vd) (p:Tg->Nat):al:=⟨some 16,[.int D.n.calls,.int D.n.ak,.int D.n.ah,.int D.n.stack,.int D.n.start,bL D.n.accept,b8 D.n.call,b8 D.n.push,b8 D.n.inner,fv D.n.pop,iL D.n.bj,.sl (p .pl) D.plc.length 0 D.plc.length,.sl (p .ls) D.K.length 0 D.K.length,.cP (p .mp),cu (p .aQ) D.IN.length,cu (p .bl) D.BL.length],.live⟩
def Vd.ue (D:Vd) (p:Tg->Nat):al:=⟨none,(List.range D.BL.length).map λx=>.sl (p (.rw x)) (D.row x).length 0 (D.row x).length,.live⟩
def Vd.kF (D:Vd) (p:Tg->Nat) (x:Nat):al:=⟨none,(List.range (D.row x).length).map λc=>cu (p (.cl x c)) (D.bV x c).length,.live⟩
def Vd.cont (D:Vd) (O:Nat->Option al) (p:Tg->Nat):Tg->Option al
 |.v=>some (D.box p)
 |.pl=>some (Zb D.plc)
 |.mp=>some ⟨some 0,[],.map (rb 0 D.K)⟩
 |.ls=>some ⟨none,D.K.map iL,.live⟩
 |.aQ=>if D.IN=[]then none else some ⟨none,D.IN.map wI,.live⟩
 |.bl=>if D.BL=[]then none else some (D.ue p)
 |.rw x=>if x<D.BL.length then some (D.kF p x)else none
 |.cl x c=>if x<D.BL.length/\c<(D.row x).length/\D.bV x c ≠ []then some ⟨none,(D.bV x c).map wI,.live⟩else none
 |.old i=>O i
structure VS (D:Vd) (O:Nat->Option al) (p:Tg->Nat) (σ:List al):Prop where
 has:∀t B,D.cont O p t=some B->aq σ (p t)=some B
 inj:∀t u A B,D.cont O p t=some A->D.cont O p u=some B->p t=p u->t=u
 old:∀i,p (.old i)=i
variable{B:al}
def qz{u:Nat}(h:aq σ b=some B) (a:B.cells.length=u) (d:B.st.fG=true):upto σ b u=some B:=by
 unfold upto;rw[h];cases e:B.st<;>simp_all
variable{D:Vd}{O:Nat->Option al}{p:Tg->Nat}{t:Tg}{A:al}
def VS.ne(h:VS D O p σ){u:Tg}(ht:D.cont O p t=some A) (hu:D.cont O p u=some B) (hn:t ≠ u):p t ≠ p u:=λe=>hn (h.inj t u A B ht hu e)
def VS.lt(h:VS D O p σ)(ht:D.cont O p t=some A):p t<σ.length:=cU (h.has t A ht)
variable{D': Vd}{τ:List al}
def VS.tz{D: Vd}(h:VS D O p σ) (hu:∀t B,D'.cont O p t=some B->∃A,D.cont O p t=some A) (hb:∀t B,D'.cont O p t=some B->aq τ (p t)=some B):VS D' O p τ:=
 ⟨hb,λt u A B ht y4 e=>by
  obtain⟨A', hA⟩:=hu t A ht;obtain⟨B', hB⟩:=hu u B y4;exact h.inj t u A' B' hA hB e,h.old⟩
def tE (O:Nat->Option al) (b:Nat) (B:al):Nat->Option al:=λi=>if i=b then some B else O i
def uX(a:t ≠ .old b):D.cont (tE O b B) p t=D.cont O p t:=by
 cases t<;>try rfl
 rename_i i;show tE O b B i=O i;unfold tE;rw[ad λe=>a eD]
def xh:D.cont (tE O b B) p (.old b)=some B:=ae rfl
def VS.push(h:VS D O p σ) (B:al):VS D (tE O σ.length B) p (σ ++ [B]):=by
 refine⟨λt A hA=>?_,λt u A A' hA uY e=>?_,h.old⟩
 .by_cases ht:t = .old σ.length
  .subst ht
   rw[xh]at hA;rw[h.old,<-hA];exact gU
  .rw[uX ht]at hA
   exact gz (h.has t A hA)
 .by_cases ht:t = .old σ.length
  .by_cases hu:u = .old σ.length
   .rw[ht,hu]
   .rw[uX hu]at uY
    have:=h.lt uY;rw[<-e,ht,h.old]at this;omega
  .by_cases hu:u = .old σ.length
   .rw[uX ht]at hA
    have:=h.lt hA;rw[e,hu,h.old]at this;omega
   .rw[uX ht]at hA
    rw[uX hu]at uY;exact h.inj t u A A' hA uY e
def VS.put(h:VS D O p σ)(hA:O b=some A) (B:al):VS D (tE O b B) p (ar σ b B):=by
 have hb:D.cont O p (.old b)=some A:=hA;have cm:=h.lt hb;rw[h.old]at cm;refine⟨λt C hC=>?_,λt u C C' hC hC' e=>?_,h.old⟩
 .by_cases ht:t = .old b
  .subst ht
   rw[xh]at hC;rw[h.old,<-hC];exact bU cm
  .rw[uX ht]at hC
   have:=h.ne hb hC (Ne.symm ht);rw[h.old]at this;rw[aA this];exact h.has t C hC
 .have key:∀t C,D.cont (tE O b B) p t=some C->∃C', D.cont O p t=some C' :=λt C hC=>by
   by_cases ht:t = .old b
   .subst ht;exact⟨A,hb⟩
   .rw[uX ht]at hC;exact⟨C,hC⟩
  obtain⟨_,h1⟩:=key t C hC;obtain⟨_,h2⟩:=key u C' hC';exact h.inj t u _ _ h1 h2 e
def VS.zX{O O' : Nat->Option al}(h:VS D O p σ) (ho:∀i B,O' i=some B->O i=some B):VS D O' p σ:=by
 have key:∀t B,D.cont O' p t=some B->D.cont O p t=some B:=λt B hB=>by
  cases t<;>try exact hB
  exact ho _ _ hB
 exact⟨λt B hB=>h.has t B (key t B hB),λt u A B hA hB e=>h.inj t u A B (key t A hA) (key u B hB) e,h.old⟩
def Vd.add (D:Vd) (l:List Int):Vd:=if l∈D.K then D else {D with K:=D.K ++ [l]}
def Tu (D:Vd) (O:Nat->Option al) (p:Tg->Nat) (σ:List al) (h:VS D O p σ) (l:List Int) (q:dG l) (C:∀k∈D.K,dG k) (E:l.length<=1000) (F:D.K ≠ []) (I:D.K.length<=100000) :
  LX L xa [.ptr (p .v) 16 0,iL l] σ (λr τ=>r = .int (D.K.idxOf l)/\VS (D.add l) O p τ/\τ.length=σ.length):=by
 refine Rn rfl ?_;have o:=h.has .v _ rfl;have g:=h.has .mp _ rfl;have i:=h.has .ls _ rfl;have s:=Kh l q aa
 have n:=xg q 0 D.K C;have j:∀x,ba 1 (.str x)=true:=λ_=>rfl;unfold Vd.box at o
 by_cases m:l∈D.K
 .rw[ae m]at n
  simp[-aj,o,g,i,s,n,j];rw[Vd.add,ae m];exact h
 .rw[ad m]at n
  have w:p .mp ≠ p .v:=h.ne (t:=.mp) (u:=.v) rfl rfl ab
  have y:p .mp ≠ p .ls:=h.ne (t:=.mp) (u:=.ls) rfl rfl ab
  have z:p .ls ≠ p .v:=h.ne (t:=.ls) (u:=.v) rfl rfl ab
  have b1:∀(Q:List al) B,aq (ar Q (p .mp) B) (p .v)=aq Q (p .v):=λQ B=>aA w;have G:∀(Q:List al) B,aq (ar Q (p .mp) B) (p .ls)=aq Q (p .ls):=λQ B=>aA y;have H:∀(Q:List al) B,aq (ar Q (p .ls) B) (p .v)=aq Q (p .v):=λQ B=>aA z;have J:D.K.idxOf l=D.K.length:=uB m;simp[-aj,o,g,i,s,n,j,b1,G,H];refine⟨aa,aa,?_,by rw[aY,aY,aY]⟩
  rw[Vd.add,ad m];have A:∀t,t ≠ .v->t ≠ .ls->t ≠ .mp->Vd.cont {D with K:=D.K ++ [l]} O p t=D.cont O p t:=λt b d e=>by
   cases t<;>first|rfl|exact absurd rfl b|exact absurd rfl d|exact absurd rfl e
  refine h.tz (λt B a=>?_) λt B a=>?_
  .by_cases b:t = .v
   .subst b;exact⟨_,rfl⟩
   by_cases d:t = .ls
   .subst d;exact⟨_,rfl⟩
   by_cases e:t = .mp
   .subst e;exact⟨_,rfl⟩
   rw[A t b d e]at a;exact⟨B,a⟩
  .by_cases b:t = .v
   .subst b
    rw[bU (by rw[aY,aY];exact h.lt (t:=.v) rfl)]
    rw[<-a];simp[Vd.cont,Vd.box]
   by_cases d:t = .ls
   .subst d
    rw[aA z.symm,bU (by rw[aY];exact h.lt (t:=.ls) rfl),<-a]
    simp[Vd.cont]
   by_cases e:t = .mp
   .subst e
    rw[aA w.symm,aA y.symm,bU (h.lt (t:=.mp) rfl),<-a];simp[Vd.cont,De]
   rw[A t b d e]at a;rw[aA (h.ne (t:=.v) rfl a (Ne.symm b)),aA (h.ne (t:=.ls) rfl a (Ne.symm d)),aA (h.ne (t:=.mp) rfl a (Ne.symm e))];exact h.has t B a
variable{α:Type}
def qA{b:Type} [Inhabited α]{f:α->b}{l:List α}:(List.range l.length).map (λ(x:Nat)=>f (ix l (x:Int)))=l.map f:=by
 apply me ab
 intro i a d;simp at a;simp[aB a]
variable{k:Nat}
def qB{f g:α->AV}{n:Nat}{xs:List α}(h:xs ≠ []->aq σ b=some ⟨none,xs.map f,.live⟩) (a:n=xs.length) (i:∀x∈xs,view σ fr k (f x)=some (g x)) :
  view σ fr (k+1) (cu b n)=some (.aF false (xs.map g)):=by
 by_cases d:xs=[]
 .subst d;subst a;rfl
 .have:n ≠ 0:=by subst a;exact λe=>d (dY e)
  unfold cu;rw[ad this];exact dQ (h d) rfl a i
def cG{f:AV->Option AV}{a b:AV}{l m:List AV}(d:f a=some b) (e:bJ f l=some m):bJ f (a::l)=some (b::m):=by
 simp only[bJ,d,e]
def VS.view(h:VS D O p σ):Ab.view σ false vd (.ptr (p .v) 16 0)=some D.vcs.av:=by
 have hv:=h.has .v _ rfl;have hu:upto σ (p .v) 16=some (D.box p):=qz hv rfl rfl;show Ab.view σ false (11+1) _=_;unfold Ab.view;simp only[hu];have hp:part (D.box p).cells 0 (D.box p).k=some (.agg (D.box p).cells):=rfl;rw[ae (by rfl),hp]
 have hm:bJ (Ab.view σ false 10) (D.box p).cells=some [.int D.n.calls,.int D.n.ak,.int D.n.ah,.int D.n.stack,.int D.n.start,bL D.n.accept,b8 D.n.call,b8 D.n.push,b8 D.n.inner,fv D.n.pop,iL D.n.bj,iL D.plc,b8 D.K,.qh,b8 D.IN,nV D.BL]:=by
  unfold Vd.box;refine cG rfl (cG rfl (cG rfl (cG rfl (cG rfl (cG rfl (cG rfl (cG rfl (cG rfl (cG rfl (cG rfl (cG ?_ (cG ?_ (cG rfl (cG ?_ (cG ?_ rfl)))))))))))))))
  .exact dQ (k:=9) (h.has .pl _ rfl) rfl rfl λ_ _=>rfl
  .exact dQ (k:=9) (h.has .ls _ rfl) rfl rfl λ_ _=>rfl
  .exact qB (k:=9) (λhx=>h.has .aQ _ (ad hx)) rfl λ_ _=>rfl
  .have e:nV D.BL = .aF false ((List.range D.BL.length).map λ(x:Nat)=>fv (D.row x)):=by
    unfold Vd.row;rw[qA (f:=fv)]
   rw[e];refine qB (k:=9) (f:=λx=>.sl (p (.rw x)) (D.row x).length 0 (D.row x).length) (λhx=>h.has .bl _ (ad λe=>hx fK)) ab λx hx=>?_
   have kT :=bQ.1 hx;have e:fv (D.row x) = .aF false ((List.range (D.row x).length).map λ(c:Nat)=>b8 (D.bV x c)):=by
    unfold Vd.bV;rw[qA (f:=b8)]
   rw[e];refine dQ (k:=8) (f:=λc=>cu (p (.cl x c)) (D.bV x c).length) (h.has (.rw x) _ (ae kT)) rfl ab λc hc=>?_
   exact qB (k:=7) (λhz=>h.has (.cl x c) _ (ae ⟨kT, bQ.1 hc,hz⟩)) rfl λ_ _=>rfl
 have XJ:Ab.view σ false 11 (.agg (D.box p).cells)=some (.agg [.int D.n.calls,.int D.n.ak,.int D.n.ah,.int D.n.stack,.int D.n.start,bL D.n.accept,b8 D.n.call,b8 D.n.push,b8 D.n.inner,fv D.n.pop,iL D.n.bj,iL D.plc,b8 D.K,.qh,b8 D.IN,nV D.BL]):=by
  show Ab.view σ false (10+1) _=_;unfold Ab.view;simp only[hm]
 simp only[XJ]
def fS (K:List (List Int)) (l:List Int):List (List Int):=if l∈K then K else K ++ [l]
def aG (K vs:List (List Int)):List (List Int):=vs.foldl fS K
variable{l:List Int}
def Tv:D.add l={D with K:=fS D.K l}:=by
 unfold Vd.add fS;split<;>rfl
variable{K vs:List (List Int)}
def xi:aG K (vs ++ [l])=fS (aG K vs) l:=by simp[aG]
def Df (K:List (List Int)) (l:List Int):∃r,fS K l=K++r/\r.length<=1:=by
 unfold fS;split
 .exact⟨[],ab,ab⟩
 .exact⟨[l],rfl,ab⟩
def uZ:∀(vs K:List (List Int)),∃r,aG K vs=K++r/\r.length<=vs.length
 | [],K=>⟨[],by simp[aG],ab⟩
 |v::vs,K=>by
  obtain⟨r,a,e⟩:=Df K v;obtain⟨b, d,g⟩:=uZ vs (fS K v);exact⟨r++b, by show aG (fS K v) vs=_;rw[d,a,gZ],ax⟩
def amm:l∈fS K l:=by
 unfold fS;split
 .assumption
 .simp
variable{r:List (List Int)}
def Tw(h:l∈K):(K++r).idxOf l=K.idxOf l:=by
 rw[List.idxOf_append,ae h]
def Tx{m:List Int}(h:l∈K):(fS K m).idxOf l=K.idxOf l:=by
 obtain⟨r,a,_⟩:=Df K m;rw[a,Tw h]
def amn:(fS K l).idxOf l=K.idxOf l:=by
 by_cases h:l∈K
 .exact Tx h
 .unfold fS
  rw[ad h,List.idxOf_append,ad h,uB h];simp
def qC:∀{vs K:List (List Int)}{l:List Int},l∈vs\/l∈K->l∈aG K vs
 | [],K,l,h=>by simpa[aG]using h
 |v::vs,K,l,h=>by
  show l∈aG (fS K v) vs;rcases h with h|h
  .rcases b5.1 h with rfl|h
   .exact qC (.inr amm)
   .exact qC (.inl h)
  .obtain⟨r,a,_⟩:=Df K v
   exact qC (.inr (by rw[a];simp[h]))
def Dg{P:List Int->Prop}:∀{vs K:List (List Int)},(∀k∈K,P k)->(∀v∈vs,P v)->∀k∈aG K vs,P k
 | [],K,h,_=>h
 |v::vs,K,h,b=>by
  refine Dg (vs:=vs) (K:=fS K v) (λk a=>?_) λw d=>b w fM
  unfold fS at a;split at a
  .exact h k a
  .rcases cY.1 a with a|a
   .exact h k a
   .simp at a;subst a;exact b k ab
def idxs (K vs:List (List Int)):List Int:=vs.map λl=>((K.idxOf l:Nat):Int)
def Dh:idxs (aG K (vs ++ [l])) (vs ++ [l])=idxs (aG K vs) vs ++ [(((aG K vs).idxOf l:Nat):Int)]:=by
 unfold idxs;rw[jE,xi]
 congr 1
 .exact eM λm a=>by rw[Tx (qC (.inl a))]
 .simp[amn]
def Ki{σ:List al}:∀(ws:List Int) (acc:List Nat),(ws.map AV.int).foldl (λacc y=>reach σ 11 y acc) acc=acc
 | [],_=>rfl
 |w::ws,acc=>by simp only[cS,jW];exact Ki ws acc
def zY{b:Nat}{B:al}:∀{σ:List al}{n:Nat},aq σ b=some B->bG (λc=>[n+b].contains c) n σ=ar σ b ⟨B.k,B.cells,.dead⟩
 | [],_,h=>by simp[aq]at h
 |A::σ,n,h=>by
  have a:∀(τ:List al) (m:Nat),n+b<m->bG (λc=>[n+b].contains c) m τ=τ:=by
   intro τ
   induction τ with
   |nil=>intro m _;rfl
   |cons C τ d=>
    intro m i;simp only[bG];rw[d (m+1) aa]
    rw[ad ax]
  cases b with
  |zero=>
   have e:A=B:=by simpa[aq]using h
   subst e;simp only[bG,ar];rw[a σ (n+1) aa]
   simp
  |succ b=>
   have g:aq σ b=some B:=h;have:=zY (n:=n+1) g;simp only[bG,ar];rw[show n+(b+1)=n+1+b by omega,this]
   rw[ad ax]
def qD{vars:List AV}{d:Option (Nat×AV)}{n:Nat}{Q:Ex->St->Prop}(a:aq σ b=some (bp l)) (g:nth vars k = .sl b n 0 n) (e:n=l.length) (h:Q .eQ ⟨eu vars k (.aF (decide (l ≠ [])) (l.map .int)),d,ar σ b ⟨none,l.map .int,.dead⟩⟩):W L (.ji k) ⟨vars,d,σ⟩ Q:=by
 have i:reach σ vd (.sl b n 0 n) []=[b]:=by
  show reach σ (11+1) (.sl b n 0 n) []=[b];unfold reach;simp only[List.contains_nil,ef,eI,a];exact Ki l [b]
 have hd:=zY (n:=0) a;rw[gX]at hd;have j:view (bG (λc=>!([b]:List Nat).contains c) 0 σ) false vd (.sl b n 0 n)=some (iL l):=by
  refine zW ?_ e;rw[lL,a];simp
 have m:eE σ (.sl b n 0 n)=decide (l ≠ []):=by
  have:upto σ b n=some (bp l):=by
   refine qz a ft ?_
   show fb.fG (if l=[]then .gN else .live)=true
   split<;>rfl
  simp only[eE,this]
  by_cases h:l=[]<;>simp[h]
 refine⟨0,.eQ,_,?_,h⟩;simp only[exec,g,i,j,m,hd]
 by_cases h:l=[]
 .subst h;simp;rfl
 .simp[h]
structure tF (D:Vd):Prop where
 ok:D.n.Ok
 st:∀k∈D.K,D.n.oF k/\k.length=D.n.bj.length
 el:D.n.bj.length<=128
 plc:∀s c,0<=s->s<(D.n.accept.length:Int)->0<=c->c<D.n.calls->ix (ix D.n.call s) c<(D.plc.length:Int)/\0<=ix D.plc (ix (ix D.n.call s) c)/\ix D.plc (ix (ix D.n.call s) c)<(D.n.bj.length:Int)
variable{n:ao}
def zZ(a:n.Ok)(h:n.oF l):dG l:=λx b=>by
 have:=h x b;have:=a.eU;omega
def Vd.dW (D:Vd) (x c y:Nat):List (List Int):=(List.range D.n.ah.toNat).map λ(r:Nat)=>(ix D.K (x:Int)).map (D.n.qy D.plc (ix D.K (y:Int)) c r)
variable{x:Nat}
def tF.kx(h:tF D)(hx:x<D.K.length):D.n.oF (ix D.K (x:Int))/\(ix D.K (x:Int)).length=D.n.bj.length:=h.st _ (aJ aa aa)
variable{y:Nat}
def tF.qy(h:tF D){c r:Int}(hx:x<D.K.length) (hy:y<D.K.length) (hc:0<=c/\c<D.n.calls) (hr:0<=r/\r<D.n.ah) :
  D.n.oF ((ix D.K (x:Int)).map (D.n.qy D.plc (ix D.K (y:Int)) c r))/\((ix D.K (x:Int)).map (D.n.qy D.plc (ix D.K (y:Int)) c r)).length=D.n.bj.length:=by
 refine⟨λs hs=>?_,by rw[dA];exact(h.kx hx).2⟩
 obtain⟨t,ht,rfl⟩:=cx.1 hs;have h1:=(h.kx hx).1 t ht;obtain⟨p1,p2,p3⟩:=h.plc t c h1.1 h1.2 hc.1 hc.2;have hy2:=h.kx hy;have h2:=hy2.1 _ (aJ p2 aa)
 have h3:=h.ok.push t c h1.1 h1.2 hc.1 hc.2;exact h.ok.pop _ _ r h2.1 h2.2 h3.1 h3.2 hr.1 hr.2
def tF.aG(h:tF D)(hv:∀v∈vs,D.n.oF v/\v.length=D.n.bj.length):tF {D with K:=aG D.K vs}:=
 ⟨h.ok,Dg h.st hv,h.el,h.plc⟩
def Vd.comb (D:Vd) (x c y:Nat):Vd:={D with K:=aG D.K (D.dW x c y),BL:=D.BL.set x ((D.row x).set c (D.bV x c ++ [idxs (aG D.K (D.dW x c y)) (D.dW x c y)]))}
def jm [Inhabited α]{l:List α}{v:α}(b:k<l.length) (j:Nat):ix (l.set k v) (j:Int)=if j=k then v else ix l (j:Int):=by
 by_cases a:j<l.length
 .rw[aB iJ,aB a,qn]
  by_cases e:k=j
  .rw[ae e,ae e.symm]
  .rw[ad e,ad (Ne.symm e)]
 .rw[ad aa]
  unfold ix;rw[gD,gD,jg ax,jg ax]
def Vd.dp (D:Vd) (x c:Nat) (w:List (List Int)):Vd:={D with BL:=D.BL.set x ((D.row x).set c w)}
variable{c:Nat}{w:List (List Int)}
def Tz(a:x<D.BL.length) (y:Nat):(D.dp x c w).row y=if y=x then(D.row x).set c w else D.row y:=jm a y
def u4(a:x<D.BL.length) (y:Nat):((D.dp x c w).row y).length=(D.row y).length:=by
 rw[Tz a];split
 .rename_i e;subst e;simp
 .rfl
def xj(a:x<D.BL.length) (b:c<(D.row x).length) (y d:Nat):(D.dp x c w).bV y d=if y=x/\d=c then w else D.bV y d:=by
 unfold Vd.bV;rw[Tz a]
 by_cases e:y=x
 .subst e
  rw[ae rfl,jm b];simp
 .rw[ad e,ad λh=>e h.1]
variable{p': Tg->Nat}
theorem TA(b:x<D.BL.length) (j:c<(D.row x).length){p: Tg->Nat}(a:∀t,t ≠ .cl x c->p' t=p t)(m:t ≠ .rw x) (n:t ≠ .cl x c):(D.dp x c w).cont O p' t=D.cont O p t:=by
 have g:(D.dp x c w).BL.length=D.BL.length:=by simp[Vd.dp]
 have o:(D.dp x c w).BL=[]↔D.BL=[]:=by rw[<-List.length_eq_zero_iff,g,List.length_eq_zero_iff]
 cases t with
 |v=>
  show some ((D.dp x c w).box p')=some (D.box p);unfold Vd.box;rw[g,a .pl ab,a .ls ab,a .mp ab,a .aQ ab,a .bl ab]
  rfl
 |pl=>rfl
 |mp=>rfl
 |ls=>rfl
 |aQ=>rfl
 |bl=>
  show(if(D.dp x c w).BL=[]then none else some ((D.dp x c w).ue p'))=if D.BL=[]then none else some (D.ue p)
  simp only[o];unfold Vd.ue;rw[g];simp only[u4 b,λy=>a (.rw y) ab]
 |rw y=>
  show(if y<(D.dp x c w).BL.length then some ((D.dp x c w).kF p' y)else none)=if y<D.BL.length then some (D.kF p y)else none
  rw[g];have l:¬y=x:=λe=>m eD
  unfold Vd.kF;have h:∀d,p' (.cl y d)=p (.cl y d):=λd=>a _ (by simp[l])
  simp only[u4 b,xj b j,l,false_and,eI,h]
 |cl y d=>
  have q:¬(y=x/\d=c):=λe=>n (by rw[e.1,e.2])
  show(if y<(D.dp x c w).BL.length/\d<((D.dp x c w).row y).length/\(D.dp x c w).bV y d ≠ []then some (⟨none,((D.dp x c w).bV y d).map wI,.live⟩:al)else none)=if y<D.BL.length/\d<(D.row y).length/\D.bV y d ≠ []then some ⟨none,(D.bV y d).map wI,.live⟩else none
  rw[g,u4 b,xj b j,ad q]
 |old i=>rfl
def VS.dp{p: Tg->Nat}(h:VS D O p σ)(hx:x<D.BL.length) (hc:c<(D.row x).length) (hp:∀t,t ≠ .cl x c->p' t=p t) (hw:w ≠ [])
  (ss:aq τ (p' (.cl x c))=some ⟨none,w.map wI,.live⟩) (Di:aq τ (p (.rw x))=some ((D.dp x c w).kF p' x))
  (hot:∀t B,t ≠ .rw x->t ≠ .cl x c->D.cont O p t=some B->aq τ (p t)=some B)
  (jx:∀t B,t ≠ .cl x c->D.cont O p t=some B->p t ≠ p' (.cl x c)):VS (D.dp x c w) O p' τ:=by
 have hl:(D.dp x c w).BL.length=D.BL.length:=by simp[Vd.dp]
 have key:∀t B,t ≠ .cl x c->(D.dp x c w).cont O p' t=some B->∃A,D.cont O p t=some A:=λt B ht hB=>by
  by_cases h1:t = .rw x
  .subst h1;exact⟨_,ae hx⟩
  .rw[TA hx hc hp h1 ht]at hB;exact⟨B,hB⟩
 refine⟨λt B hB=>?_,λt u A B hA hB e=>?_,λi=>by rw[hp _ ab];exact h.old i⟩
 .by_cases h2:t = .cl x c
  .subst h2
   have:(D.dp x c w).cont O p' (.cl x c)=some ⟨none,w.map wI,.live⟩:=by
    show(if x<(D.dp x c w).BL.length/\c<((D.dp x c w).row x).length/\(D.dp x c w).bV x c ≠ []then some (⟨none,((D.dp x c w).bV x c).map wI,.live⟩:al)else none)=_
    simp only[hl,u4 hx,xj hx hc,and_self,dD];rw[ae ⟨hx,hc,hw⟩]
   rw[this]at hB;rw[ss];exact hB
  by_cases h1:t = .rw x
  .subst h1
   have:(D.dp x c w).cont O p' (.rw x)=some ((D.dp x c w).kF p' x):=ae (by rw[hl];exact hx)
   rw[this]at hB;rw[hp _ h2,Di];exact hB
  .rw[TA hx hc hp h1 h2]at hB
   rw[hp _ h2];exact hot t B h1 h2 hB
 .by_cases h1:t = .cl x c
  .by_cases h2:u = .cl x c
   .rw[h1,h2]
   .obtain⟨B', xY⟩:=key u B h2 hB
    rw[h1,hp _ h2]at e;exact absurd e.symm (jx u B' h2 xY)
  .obtain⟨A', uY⟩:=key t A h1 hA
   by_cases h2:u = .cl x c
   .rw[h2,hp _ h1]at e
    exact absurd e (jx t A' h1 uY)
   .obtain⟨B', xY⟩:=key u B h2 hB
    rw[hp _ h1,hp _ h2]at e;exact h.inj t u A' B' uY xY e
def TB{p: Tg->Nat}(a:x<D.BL.length) (b:c<(D.row x).length) (g:∀t,t ≠ .cl x c->p' t=p t) (j:w ≠ []) :
  (D.dp x c w).kF p' x=⟨none,((List.range (D.row x).length).map λd=>cu (p (.cl x d)) (D.bV x d).length).set c (.sl (p' (.cl x c)) w.length 0 w.length),.live⟩:=by
 unfold Vd.kF;rw[u4 a]
 congr 1
 apply me ab
 intro i l n;simp at l;rw[qn];simp only[lI,List.getElem_range,xj a b]
 by_cases e:c=i
 .subst e
  rw[ae rfl];simp only[and_self,dD];exact ad λe=>j (dY e)
 .rw[ad e,ad λh=>e h.2.symm,g _ (by simp;exact λm =>e m.symm)]
def lP:∀{cs:List AV}{k:Nat}{x:AV},ny cs k [x]=cs.set k x
 | [],0,_=>rfl
 | [],_+1,_=>rfl
 |c::cs,0,x=>by cases cs<;>rfl
 |c::cs,k+1,x=>by rw[List.set_cons_succ,<-lP (cs:=cs)]
def Kj{row:List Int}:AV.aF (!decide (row=[])) (row.map AV.int)=wI row:=by unfold wI;simp
def amo (D:Vd) (O:Nat->Option al) (p:Tg->Nat) (σ:List al) (h:VS D O p σ) (U:tF D) (x c y:Nat) (hx:x<D.K.length) (hy:y<D.K.length) (hc:(c:Int)<D.n.calls) (a:x<D.BL.length) (g:c<(D.row x).length) (hK:D.K.length<=1000) (ss:(D.bV x c).length<=1000) :
  LX L zG [.ptr (p .v) 16 0,.int x,.int c,.int y] σ (λr τ=>r = .bM []/\∃p', p' .v=p .v/\VS (D.comb x c y) O p' τ):=by
 refine ajt rfl ?_;have hn:=U.ok;have SF:=hn.ah;have V:=h.has .v _ rfl;unfold Vd.box at V;have BB:∀B:al,aq (σ ++ [B]) (p .v)=_:=λB=>gz (r:=[B]) V;simp[-aj,BB];have rl:(D.dW x c y).length=D.n.ah.toNat:=by simp[Vd.dW]
 refine aK (λq:Nat×List al=>[(4,.int q.1),(6,.sl σ.length q.1 0 q.1)]) (λq=>q.2)
  (λq=>q.1<=D.n.ah.toNat/\VS {D with K:=aG D.K ((D.dW x c y).take q.1)} (tE O σ.length (bp (idxs (aG D.K ((D.dW x c y).take q.1)) ((D.dW x c y).take q.1)))) p q.2) (λq=>D.n.ah.toNat-q.1) (0,σ ++ [bp []]) aX ⟨ab,by simpa[aG,idxs]using h.push _⟩ ?_
 rintro⟨r,Z⟩ ⟨r0,W⟩;dsimp only at r0 W ⊢;generalize I:D.dW x c y=vs at *;obtain⟨ext,o,he2⟩:=uZ (vs.take r) D.K;have J:ix (aG D.K (vs.take r)) (x:Int)=ix D.K (x:Int):=by rw[o,aB ax,aB hx,List.getElem_append_left]
 have M:ix (aG D.K (vs.take r)) (y:Int)=ix D.K (y:Int):=by rw[o,aB ax,aB hy,List.getElem_append_left]
 have MA:=W.view;have hb:=W.has (.old σ.length) _ xh;rw[W.old]at hb
 by_cases hr:r<D.n.ah.toNat
 .have N:(r:Int)<D.n.ah:=by omega
  have R:∀v∈vs,D.n.oF v/\v.length=D.n.bj.length:=λv V=>by
   rw[<-I]at V;obtain⟨r', u5, rfl⟩:=cx.1 V;have:=bQ.1 u5;exact U.qy hx hy ⟨aa,hc⟩ ⟨aa,aa⟩
  have hDr:=U.aG (vs:=vs.take r) λv V=>R v (List.mem_of_mem_take V);have zk:ix vs (r:Int)=(ix D.K (x:Int)).map (D.n.qy D.plc (ix D.K (y:Int)) c r):=by
   rw[<-I,Vd.dW,iR aa ax]
   simp[aB (show r<(List.range D.n.ah.toNat).length by simp;omega)]
  have hlx:=U.kx hx;have hly:=U.kx hy;have Gp:=U.el;have hx1:(x:Int)<((aG D.K (vs.take r)).length:Int):=by rw[o];simp;omega
  have hy1:(y:Int)<((aG D.K (vs.take r)).length:Int):=by rw[o];simp;omega
  have EN:(aG D.K (vs.take r)).length<=2000:=by rw[o,aU];have:(vs.take r).length<=r:=List.length_take_le r vs;omega
  have hA:=aml (Vd.vcs {D with K:=aG D.K (vs.take r)}) hn x c y r ⟨aa,hx1⟩ ⟨aa,hy1⟩ ⟨aa,hc⟩ ⟨aa,N⟩ (by show D.n.oF (ix (aG D.K (vs.take r)) (x:Int));rw[J];exact hlx.1) (by show D.n.oF (ix (aG D.K (vs.take r)) (y:Int));rw[M];exact hly.1) (by show(ix (aG D.K (vs.take r)) (x:Int)).length<=1000;rw[J];omega)
   (λs s0 s1=>by show _/\_/\_<((ix (aG D.K (vs.take r)) (y:Int)).length:Int);rw[M,hly.2];exact U.plc s c s0 s1 aa hc)
  obtain⟨z,XK,hA,C⟩:=dd hA;have C:bP XK true z=some (iL (ix vs (r:Int))):=by
   rw[C,zk];show some (iL ((ix (aG D.K (vs.take r)) (x:Int)).map (D.n.qy D.plc (ix (aG D.K (vs.take r)) (y:Int)) c r)))=_;rw[J,M]
  have EJ:=R _ (aJ (l:=vs) (n:=(r:Int)) aa aa)
  have tk:=gx (w:=vs) (k:=r) aa
  have gV:=Dh (K:=D.K) (vs:=vs.take r) (l:=ix vs (r:Int));generalize ix vs (r:Int)=l at *;have hN1:=Tu {D with K:=aG D.K (vs.take r)} _ p Z W l (zZ hn EJ.1) (λk hk=>zZ hn (hDr.st k hk).1) aa (λe=>by have h0:(aG D.K (vs.take r)).length=0:=(by dsimp only at e;rw[e];rfl);omega) au
  obtain⟨rv,τ,hN,rfl,P,hlen⟩:=dd hN1;clear hN1;have S:=P.has (.old σ.length) _ xh;rw[P.old]at S;have Q:(idxs (aG D.K (vs.take r)) (vs.take r)).length=r:=ng
  generalize idxs (aG D.K (vs.take r)) (vs.take r)=row at *;simp[-aj,N,MA,hA,C,hN,S];refine⟨⟨Q,dE⟩,aa,aa,aD (r+1,_) (by simp[Q]) rfl ⟨au,?_⟩ au⟩
  dsimp only;rw[tk,gV,xi];rw[Tv]at P;have:=P.put (b:=σ.length) (if_pos rfl) (bp (row ++ [(((aG D.K (vs.take r)).idxOf l:Nat):Int)]));have e:bp (row ++ [(((aG D.K (vs.take r)).idxOf l:Nat):Int)])=⟨none,row.map AV.int ++ [.int (((aG D.K (vs.take r)).idxOf l:Nat):Int)],.live⟩:=ab
  rw[<-e];refine this.zX λi B m=>?_;unfold tE at m ⊢;split
  .rename_i hi;simpa[hi]using m
  .rename_i hi;simpa[hi]using m
 .have er:r=D.n.ah.toNat:=by omega
  have N:¬(r:Int)<D.n.ah:=aa
  rw[eZ aa]at W hb MA o J M
  have Q:(idxs (aG D.K vs) vs).length=r:=ng
  simp[-aj,N];refine qD hb ab Q.symm ?_
  have d:=W.put (b:=σ.length) (ae rfl) ⟨none,(idxs (aG D.K vs) vs).map .int,.dead⟩;generalize E:idxs (aG D.K vs) vs=row at *;generalize amp:ar Z σ.length ⟨none,row.map .int,.dead⟩=j at *;have qV:=d.has .v _ rfl;unfold Vd.box at qV;have e1:cu (p .bl) D.BL.length = .sl (p .bl) D.BL.length 0 D.BL.length:=ad aa
  have X:=d.has .bl _ (if_neg λe=>by have h0:D.BL.length=0:=(by dsimp only at e;rw[e];rfl);omega)
  have F:=d.has (.rw x) _ (ae a);unfold Vd.ue at X;unfold Vd.kF at F;have A:∀K,Vd.row {D with K:=K}=D.row:=λ_=>rfl
  have G:∀K,Vd.bV {D with K:=K}=D.bV:=λ_=>rfl
  have e2:ix (List.range D.BL.length) (x:Int)=x:=by rw[aB iJ];simp
  have e3:ix (List.range D.BL.length) (0+(x:Int)*1)=x:=by rw[<-e2];congr 1;omega
  have e4:ix (List.range (D.row x).length) (c:Int)=c:=by rw[aB (by simpa using g)];simp
  have e5:ix (List.range (D.row x).length) (0+(c:Int)*1)=c:=by rw[<-e4];congr 1;omega
  simp only[A,G]at X F;simp[-aj,qV,e1,X,F,A,G,e2,e3,e4,e5,a,g];have H:∀i B,O i=some B->tE (tE O σ.length (bp row)) σ.length ⟨none,row.map .int,.dead⟩ i=some B:=λi B m=>by
   have T:=h.lt (t:=.old i) m;rw[h.old]at T;simp[tE,show i ≠ σ.length by omega,m]
  have amq:=d.lt (t:=.rw x) (ae a)
  by_cases C:D.bV x c=[]
  .have e6:cu (p (.cl x c)) (D.bV x c).length = .ag:=by rw[C];rfl
   have hpu:∀B:al,aq (j ++ [B]) (p (.rw x))=_:=λB=>gz (r:=[B]) F;simp[-aj,e6,hpu,e2,e3,e4,e5,a,g];refine⟨aa,λt=>if t = .cl x c then j.length else p t,ab,?_⟩
   have hw:[row] ≠ []:=ab
   have hpp:∀t,t ≠ Tg.cl x c->(λt=>if t=Tg.cl x c then j.length else p t) t=p t:=λt ht=>ad ht
   have Kk:(λt=>if t=Tg.cl x c then j.length else p t) (.cl x c)=j.length:=ae rfl
   generalize (λt=>if t=Tg.cl x c then j.length else p t)=p' at *
   have amr:p (.rw x)<(j ++ [(⟨none,[wI row],.live⟩:al)]).length:=ax
   have Y:VS (Vd.dp {D with K:=aG D.K vs} x c [row]) O p' _:=(d.dp a g hpp hw (τ:=ar (j ++ [⟨none,[wI row],.live⟩]) (p (.rw x)) ((Vd.dp {D with K:=aG D.K vs} x c [row]).kF p' x)) (by rw[Kk,aA aa];exact gU) (by rw[bU amr])
    (λt B T h2 m=>by rw[aA (d.ne (t:=.rw x) (ae a) m (Ne.symm T))];exact gz (d.has t B m))
    (λt B T m=>by have:=d.lt m;omega)).zX H
   rw[TB (D:={D with K:=aG D.K vs}) a g hpp hw,Kk]at Y
   simp only[A,G]at Y;show VS (D.comb x c y) O p' _;unfold Vd.comb;rw[I,E,show(AV.sl j.length 1 0 1).cells=[AV.sl j.length 1 0 1]from rfl,lP,Kj,C];simpa[Vd.dp,A]using Y
  .have e6:cu (p (.cl x c)) (D.bV x c).length = .sl (p (.cl x c)) (D.bV x c).length 0 (D.bV x c).length:=ad λe=>C (dY e)
   have hcv:=d.has (.cl x c) _ (ae ⟨a,g,C⟩);simp only[G]at hcv;have e7:p (.cl x c) ≠ p (.rw x):=d.ne (t:=.cl x c) (u:=.rw x) (ae ⟨a,g,C⟩) (ae a) ab
   have hg:∀B,aq (ar j (p (.cl x c)) B) (p (.rw x))=aq j (p (.rw x)):=λB=>aA e7;simp[-aj,e6,hcv,F,e2,e3,e4,e5,a,g,hg];refine⟨aa,aa,p,rfl,?_⟩
   have hw:D.bV x c ++ [row] ≠ []:=ab
   have Y:VS (Vd.dp {D with K:=aG D.K vs} x c (D.bV x c ++ [row])) O p _:=(d.dp a g (p' :=p) (λ_ _=>rfl) hw (τ:=ar (ar j (p (.cl x c)) ⟨none,(D.bV x c).map wI ++ [wI row],.live⟩) (p (.rw x)) ((Vd.dp {D with K:=aG D.K vs} x c (D.bV x c ++ [row])).kF p x)) (by rw[aA e7.symm,bU (d.lt (t:=.cl x c) (ae ⟨a,g,C⟩))];simp) (by rw[bU (by rw[aY];exact amq)])
    (λt B T h2 m=>by rw[aA (d.ne (t:=.rw x) (ae a) m (Ne.symm T)),aA (d.ne (t:=.cl x c) (ae ⟨a,g,C⟩) m (Ne.symm h2))];exact d.has t B m)
    (λt B T m=>d.ne m (u:=.cl x c) (ae ⟨a,g,C⟩) T)).zX H
   rw[TB (D:={D with K:=aG D.K vs}) a g (λ_ _=>rfl) hw]at Y
   simp only[A,G]at Y;show VS (D.comb x c y) O p _;unfold Vd.comb;rw[I,E,show(AV.sl (p (Tg.cl x c)) ((D.bV x c).length+1) 0 ((D.bV x c).length+1)).cells=[AV.sl (p (Tg.cl x c)) ((D.bV x c).length+1) 0 ((D.bV x c).length+1)]from rfl,lP,Kj];simpa[Vd.dp,A]using Y
def Vd.gW (D:Vd) (x:Nat):List (List Int):=(List.range D.n.ak.toNat).map λ(i:Nat)=>(ix D.K (x:Int)).map λs=>ix (ix D.n.inner s) (i:Int)
structure mB (P:List Int->Prop) (D:Vd):Prop where
 ok:tF D
 nd:D.K.Nodup
 pr:∀k∈D.K,P k
 h0:0<D.K.length/\ix D.K 0=D.n.bj
 aQ:∀x:Nat,x<D.IN.length->x<D.K.length/\ix D.IN (x:Int)=idxs D.K (D.gW x)/\∀v∈D.gW x,v∈D.K
 rl:∀x:Nat,x<D.BL.length->(D.row x).length=D.n.calls.toNat
 bl:∀x c y:Nat,x<D.BL.length->c<D.n.calls.toNat->y<(D.bV x c).length->x<D.K.length/\y<D.K.length/\ix (D.bV x c) (y:Int)=idxs D.K (D.dW x c y)/\∀v∈D.dW x c y,v∈D.K
def qE(h:x<K.length):ix (K++r) (x:Int)=ix K (x:Int):=by
 rw[aB ax,aB h,List.getElem_append_left]
def TC(h:∀v∈vs,v∈K):idxs (K++r) vs=idxs K vs:=
 eM λv a=>by rw[Tw (h v a)]
def TD(h:K.Nodup):(fS K l).Nodup:=by
 unfold fS;split
 .exact h
 .rename_i g
  rw[rO];exact⟨h,ab,λa i b d=>by simp at d;subst d;exact λe=>g (e▸i)⟩
def TE:∀{vs K:List (List Int)},K.Nodup->(aG K vs).Nodup
 | [],_,h=>h
 |v::vs,K,h=>TE (vs:=vs) (TD h)
variable{P:List Int->Prop}
def mB.grow(h:mB P D)(hs:∀v∈vs,D.n.oF v/\v.length=D.n.bj.length) (hp:∀v∈vs,P v):mB P {D with K:=aG D.K vs}:=by
 obtain⟨r,e,hr⟩:=uZ vs D.K;have ha:∀x,x<D.K.length->Vd.gW {D with K:=aG D.K vs} x=D.gW x:=λx hx=>by
  unfold Vd.gW;dsimp only;rw[e,qE hx]
 have hn:∀x c y,x<D.K.length->y<D.K.length->Vd.dW {D with K:=aG D.K vs} x c y=D.dW x c y:=λx c y hx hy=>by
  unfold Vd.dW;dsimp only;rw[e,qE hx,qE hy]
 refine⟨h.ok.aG hs,TE h.nd,Dg h.pr hp,?_,λx hx=>?_,h.rl,λx c y hx hc hy=>?_⟩
 .dsimp only
  rw[e];have:=qE (r:=r) h.h0.1;exact⟨by simp;have:=h.h0.1;omega,by rw[show(0:Int)=((0:Nat):Int)by rfl,this];exact h.h0.2⟩
 .obtain⟨h1,h2,h3⟩:=h.aQ x hx
  rw[ha x h1];dsimp only;rw[e];exact⟨ax,by rw[TC h3];exact h2,λv hv=>by simp[h3 v hv]⟩
 .obtain⟨h1,h2,h3,h4⟩:=h.bl x c y hx hc hy
  rw[hn x c y h1 h2];dsimp only;rw[e];exact⟨ax,ax,by rw[TC h4];exact h3,λv hv=>by simp[h4 v hv]⟩
def Kl [Inhabited α]{l:List α}{v:α}{j:Nat}(a:j<l.length+1):ix (l ++ [v]) (j:Int)=if j<l.length then ix l (j:Int)else v:=by
 rw[aB ax,List.getElem_append]
 split
 .rename_i h;rw[aB h]
 .have:j-l.length=0:=by omega
  simp[this]
def mB.dp(h:mB P D)(hx:x<D.BL.length) (hc:c<D.n.calls.toNat) (TF:x<D.K.length) (EO:y<D.K.length) (hl:(D.bV x c).length=y) (hv:∀v∈D.dW x c y,v∈D.K):mB P (D.dp x c (D.bV x c ++ [idxs D.K (D.dW x c y)])):=by
 have yq : c<(D.row x).length:=by rw[h.rl x hx];exact hc
 refine⟨⟨h.ok.ok,h.ok.st,h.ok.el,h.ok.plc⟩,h.nd,h.pr,h.h0,h.aQ,λx' kT =>?_,λx' c' y' kT TG ud =>?_⟩
 .rw[u4 hx]
  exact h.rl x' (by simpa[Vd.dp]using kT)
 .have ub:x' < D.BL.length:=by simpa[Vd.dp]using kT
  rw[xj hx yq]at ud ⊢;show _/\_/\_=idxs D.K (D.dW x' c' y')/\∀v∈D.dW x' c' y', v∈D.K
  by_cases e:x' = x/\c' = c
  .rw[ae e]at ud ⊢
   obtain⟨rfl,rfl⟩:=e;simp at ud;rw[Kl ud]
   by_cases cm:y' < (D.bV x' c').length
   .rw[ae cm]
    exact h.bl x' c' y' ub TG cm
   .have:y' = y:=by omega
    subst this;rw[ad cm];exact⟨TF,EO,rfl,hv⟩
  .rw[ad e]at ud ⊢
   exact h.bl x' c' y' ub TG ud
def tF.Km(h:tF D)(hx:x<D.K.length) (hy:y<D.K.length) (hc:(c:Int)<D.n.calls):∀v∈D.dW x c y,D.n.oF v/\v.length=D.n.bj.length:=λv hv=>by
 obtain⟨r,hr,rfl⟩:=cx.1 hv;have:=bQ.1 hr;exact h.qy hx hy ⟨aa,hc⟩ ⟨aa,aa⟩
def tF.Kn(h:tF D)(hx:x<D.K.length):∀v∈D.gW x,D.n.oF v/\v.length=D.n.bj.length:=λv hv=>by
 obtain⟨i,hi,rfl⟩:=cx.1 hv;have:=bQ.1 hi;have hk:=h.kx hx;refine⟨λs hs=>?_,by rw[dA];exact hk.2⟩
 obtain⟨t,ht,rfl⟩:=cx.1 hs;have h1:=hk.1 t ht;exact h.ok.inner t i h1.1 h1.2 aa aa
structure EP (P:List Int->Prop) (n:ao) (plc:List Int):Prop where
 aft:∀k,P k->∀i,0<=i->i<n.ak->P (k.map λs=>ix (ix n.inner s) i)
 qy:∀k m,P k->P m->∀c r,0<=c->c<n.calls->0<=r->r<n.ah->P (k.map (n.qy plc m c r))
def mB.kx(h:mB P D)(hx:x<D.K.length):P (ix D.K (x:Int)):=h.pr _ (aJ aa aa)
def mB.comb(h:mB P D) (hP:EP P D.n D.plc)(hx:x<D.BL.length) (hc:c<D.n.calls.toNat) (TF:x<D.K.length) (EO:y<D.K.length) (hl:(D.bV x c).length=y):mB P (D.comb x c y):=by
 have h1:=h.grow (vs:=D.dW x c y) (h.ok.Km TF EO aa) λv hv=>by
  obtain⟨r,hr,rfl⟩:=cx.1 hv;have:=bQ.1 hr;exact hP.qy _ _ (h.kx TF) (h.kx EO) c r aa aa aa aa
 obtain⟨r,e,hr⟩:=uZ (D.dW x c y) D.K;have hn:Vd.dW {D with K:=aG D.K (D.dW x c y)} x c y=D.dW x c y:=by
  show(List.range D.n.ah.toNat).map (λ(r:Nat)=>(ix (aG D.K (D.dW x c y)) (x:Int)).map (D.n.qy D.plc (ix (aG D.K (D.dW x c y)) (y:Int)) c r))=_;rw[e,qE TF,qE EO]
  rfl
 have h2:=h1.dp (x:=x) (c:=c) (y:=y) hx hc (by dsimp only;rw[e];simp;omega) (by dsimp only;rw[e];simp;omega) hl (by rw[hn];exact λv hv=>qC (.inl hv))
 rw[hn]at h2;exact h2
def Dj(b:x<D.BL.length) (d:c<(D.row x).length) (a c' : Nat):((D.comb x c y).bV a c').length=(D.bV a c').length+if a = x/\c' = c then 1 else 0:=by
 have:(D.comb x c y).bV a c' = (Vd.dp {D with K:=aG D.K (D.dW x c y)} x c (D.bV x c ++ [idxs (aG D.K (D.dW x c y)) (D.dW x c y)])).bV a c' :=rfl
 rw[this,xj (D:={D with K:=aG D.K (D.dW x c y)}) b d]
 split
 .rename_i e;rw[e.1,e.2];simp
 .rfl
def TH:∃r,(D.comb x c y).K=D.K++r/\r.length<=D.n.ah.toNat:=by
 obtain⟨r,e,a⟩:=uZ (D.dW x c y) D.K;exact⟨r,e,by simpa[Vd.dW]using a⟩
def z6:(D.comb x c y).BL.length=D.BL.length:=by simp[Vd.comb]
def ams(a:x<D.BL.length) (z:Nat):((D.comb x c y).row z).length=(D.row z).length:=u4 (D:={D with K:=aG D.K (D.dW x c y)}) a z
structure vT (D:Vd) (x y c:Nat):Prop where
 bl:D.BL.length=x+1
 lo:∀x' c', x' < x->c' < D.n.calls.toNat->(D.bV x' c').length=if x' < y\/(x' = y/\c' < c)then x+1 else x
 hi:∀c', c' < D.n.calls.toNat->(D.bV x c').length=if c' < c then y+1 else y
def vT.next(h:vT D x y D.n.calls.toNat):vT D x (y+1) 0:=by
 refine⟨h.bl,λx' c' h1 h2=>?_,λc' h2=>?_⟩
 .rw[h.lo x' c' h1 h2]
  by_cases e:x' < y\/x' = y
  .rw[ae aa,ae aa]
  .rw[ad aa,ad aa]
 .rw[h.hi c' h2,ae h2,ad aa]
abbrev Ko (b:Nat) (x:Nat):List AV:=[.ptr b 16 0,.int x,.aO,.aO,.aO,.aO,.aO,.aO,.aO,.aO,.aO,.aO,.aO]
def z7:IC:=(.seq (.seq (.cF R3)
 (.block 4 (.loop R4)))
 (.seq (.cF R5)
 (.cond 99 (.seq (.cF R6)
 .ret) .skip)))
def vT.one(h:vT D x y c) (hc:c<D.n.calls.toNat) (hr:∀z,z<D.BL.length->(D.row z).length=D.n.calls.toNat) (hy:y=x):vT (D.comb x c y) x y (c+1):=by
 have hb:=h.bl;have sO:∀x' c', ((D.comb x c y).bV x' c').length=(D.bV x' c').length+if x' = x/\c' = c then 1 else 0:=λx' c' =>Dj aa (by rw[hr x aa];exact hc) x' c'
 refine⟨by rw[z6];exact hb,λx' c' h1 h2=>?_,λc' h2=>?_⟩
 .rw[sO,h.lo x' c' h1 h2,ad (show ¬(x' = x/\c' = c)by omega),ae aa,ae aa]
 .rw[sO,h.hi c' h2]
  by_cases e:c' = c
  .rw[ad aa,ae aa,ae aa]
  .rw[ad (show ¬(x=x/\c' = c)by omega)]
   by_cases e2:c' < c
   .rw[ae e2,ae aa]
   .rw[ad e2,ad aa]<;>omega
def vT.two(h:vT D x y c) (hc:c<D.n.calls.toNat) (hr:∀z,z<D.BL.length->(D.row z).length=D.n.calls.toNat) (hy:y<x):vT ((D.comb x c y).comb y c x) x y (c+1):=by
 have hb:=h.bl;have sO:∀x' c', ((D.comb x c y).bV x' c').length=(D.bV x' c').length+if x' = x/\c' = c then 1 else 0:=λx' c' =>Dj aa (by rw[hr x aa];exact hc) x' c'
 have wN:∀x' c', (((D.comb x c y).comb y c x).bV x' c').length=((D.comb x c y).bV x' c').length+if x' = y/\c' = c then 1 else 0:=λx' c' =>Dj (by rw[z6];omega) (by rw[ams aa,hr y aa];exact hc) x' c'
 refine⟨by rw[z6,z6];exact hb,λx' c' h1 h2=>?_,λc' h2=>?_⟩
 .rw[wN,sO,h.lo x' c' h1 h2,ad (show ¬(x' = x/\c' = c)by omega)]
  by_cases e:x' = y/\c' = c
  .rw[ae e,ad aa,ae aa]
  .rw[ad e]
   by_cases e2:x' < y\/x' = y/\c' < c
   .rw[ae e2,ae aa]
   .rw[ad e2,ad aa]<;>omega
 .rw[wN,sO,h.hi c' h2,ad (show ¬(x=y/\c' = c)by omega)]
  by_cases e:c' = c
  .rw[ad aa,ae aa,ae aa]
  .rw[ad (show ¬(x=x/\c' = c)by omega)]
   by_cases e2:c' < c
   .rw[ae e2,ae aa]
   .rw[ad e2,ad aa]<;>omega
structure Dk (P:List Int->Prop) (n:ao) (plc:List Int) (O:Nat->Option al) (b x:Nat) (D:Vd) (p:Tg->Nat) (σ:List al):Prop where
 s:VS D O p σ
 v:mB P D
 n:D.n=n
 plc:D.plc=plc
 p:p .v=b
 i:D.IN.length=x+1
 x:x<D.K.length
variable{plc:List Int}
def Dk.comb(h:Dk P n plc O b x D p σ) (hP:EP P n plc){z:Nat}(hy:y<D.BL.length) (hz:z<D.K.length) (EO:y<D.K.length) (hc:c<n.calls.toNat) (hl:(D.bV y c).length=z) (hK:D.K.length<=1000) (ZJ:z<=1000) :
  ∃τ p', L zG [.ptr b 16 0,.int y,.int c,.int z] σ=some (.bM [],τ)/\Dk P n plc O b x (D.comb y c z) p' τ:=by
 have hn:=h.n;have hp:=h.plc;have sO:c<D.n.calls.toNat:=by rw[hn];exact hc
 have h1:=amo D O p σ h.s h.v.ok y c z EO hz aa hy (by rw[h.v.rl y hy];exact sO) hK aa
 obtain⟨r,τ,h2,rfl,p', h3,h4⟩:=dd h1;rw[h.p]at h2 h3;obtain⟨e,he,_⟩:=TH (D:=D) (x:=y) (c:=c) (y:=z);exact⟨τ,p', h2,h4,h.v.comb (by rw[hn,hp];exact hP) hy sO EO hz hl,hn,hp,h3,h.i,by rw[he];simp;have:=h.x;omega⟩
def amt(hP:EP P n plc){Q:Ex->St->Prop}
  (D:Vd) (p:Tg->Nat) (σ:List al) (J:Dk P n plc O b x D p σ) (hK:D.K.length<=600) (hl:vT D x 0 0)
  (h1:∀D' p' τ,Dk P n plc O b x D' p' τ->vT D' x (x+1) 0->D'.K.length<=512->Q .eQ ⟨Ko b x,none,τ⟩)
  (M:∀D' p' τ,Dk P n plc O b x D' p' τ->512<D'.K.length->Q .ret ⟨[.aO,.aO,.aO,.aO,.aO,.aO,.aO,.aO,.aO,.aO,.aO,.aO,.bool false],none,τ⟩):WK L z7 (Ko b x) none σ Q:=by
 unfold z7;have Gx:=J.x;have u:=J.v.ok.ok;rw[J.n]at u;have z8:=u.calls;have AX:=u.ah;simp[-aj];refine⟨aa,?_⟩
 refine aK (λq:Nat×List al=>[(6,.int q.1)]) (λq=>q.2) (λq=>q.1<=x+1/\∃D' p', Dk P n plc O b x D' p' q.2/\D'.K.length<=600/\vT D' x q.1 0) (λq=>x+1-q.1) (0,σ) aX ⟨ab,D,p,J,hK,hl⟩ ?_
 rintro⟨y,w⟩ ⟨y0,N,R,g,S,A⟩;dsimp only at y0 g A ⊢;have o:=g.s.has .v _ rfl;unfold Vd.box at o;rw[g.p,g.n]at o
 by_cases hy:y<x+1
 .have T :=az (show(y:Int)<(x:Int)+1 by omega)
  simp[-aj,T, o];refine aK (λq:Nat×List al=>[(8,.int q.1)]) (λq=>q.2) (λq=>q.1<=n.calls.toNat/\∃D' p', Dk P n plc O b x D' p' q.2/\D'.K.length<=600/\vT D' x y q.1) (λq=>n.calls.toNat-q.1) (0,w) aX ⟨ab,N,R,g,S,A⟩ ?_
  rintro⟨c,U⟩ ⟨c0,B,p2,a,V,d⟩;dsimp only at c0 a d ⊢
  by_cases W:c<n.calls.toNat
  .have r :=az (show(c:Int)<n.calls by omega)
   have j:c<B.n.calls.toNat:=by rw[a.n];exact W
   have Kq:=d.bl;have X:=a.x;obtain⟨E,p3,F,e⟩:=a.comb hP (y:=x) (c:=c) (z:=y) aa aa X W (by rw[d.hi c j,ad aa]) aa aa
   obtain⟨e1,Y,Z⟩:=TH (D:=B) (x:=x) (c:=c) (y:=y);rw[a.n]at Z;have aqb:(B.comb x c y).K.length<=664:=by rw[Y,aU];omega
   by_cases G:y<x
   .have l :=az (show(y:Int)<(x:Int)by omega)
    obtain⟨H,p4,hC2,m⟩:=e.comb hP (y:=y) (c:=c) (z:=x) (by rw[z6];omega) e.x (by have:=e.x;omega) W (by rw[Dj aa (by rw[a.v.rl x aa];exact j),d.lo y c G j,ad aa,ad aa]<;>omega) aa aa
    have C:=d.two j a.v.rl G;have i:=m.s.has .v _ rfl;unfold Vd.box at i;rw[m.p,m.n]at i;simp[-aj,r, l, F,hC2,i];generalize (B.comb x c y).comb y c x=I at *;exact⟨λh=>M I p4 H m aa,λh=>⟨aa,aD (c+1,H) ab rfl ⟨au,I,⟨p4,m⟩,aa,C⟩ au⟩⟩
   .have l :=bX (show ¬(y:Int)<(x:Int)by omega)
    have C:=d.one j a.v.rl aa
    have i:=e.s.has .v _ rfl;unfold Vd.box at i;rw[e.p,e.n]at i;simp[-aj,r, l, F,i];generalize B.comb x c y=I at *;exact⟨λh=>M I p3 E e aa,λh=>⟨aa,aD (c+1,E) ab rfl ⟨au,I,⟨p3,e⟩,aa,C⟩ au⟩⟩
  .have r :=bX (show ¬(c:Int)<n.calls by omega)
   have ec:c=B.n.calls.toNat:=by rw[a.n];omega
   rw[ec]at d;have ER:=d.next
   simp[-aj,r];exact⟨aa,aD (y+1,U) ab rfl ⟨au,B,⟨p2,a⟩,V,ER⟩ au⟩
 .have ey:y=x+1:=by omega
  subst ey;simp[-aj,o];exact⟨λh=>M N R w g aa,λh=>h1 N R w g A aa⟩
def VS.step{D: Vd}{p: Tg->Nat}(h:VS D O p σ) (Ch:Tg->Prop)
  (h1:∀t,¬Ch t->D'.cont O p' t=D.cont O p t/\p' t=p t)
  (h2:∀t B,Ch t->D'.cont O p' t=some B->aq τ (p' t)=some B)
  (h3:∀t B,¬Ch t->D.cont O p t=some B->aq τ (p t)=some B)
  (h4:∀t B,Ch t->D'.cont O p' t=some B->((∃A,D.cont O p t=some A)/\p' t=p t)\/σ.length<=p' t)
  (h5:∀t u,Ch t->Ch u->σ.length<=p' t->p' t=p' u->t=u)
  (h6:∀i,¬Ch (.old i)):VS D' O p' τ:=by
 have key:∀t B,D'.cont O p' t=some B->((∃A,D.cont O p t=some A)/\p' t=p t)\/(Ch t/\σ.length<=p' t):=λt B hB=>by
  by_cases hc:Ch t
  .exact(h4 t B hc hB).imp id λq=>⟨hc,q⟩
  .obtain⟨e1,e2⟩:=h1 t hc
   rw[e1]at hB;exact .inl ⟨⟨B,hB⟩,e2⟩
 refine⟨λt B hB=>?_,λt u A B hA hB e=>?_,λi=>by rw[(h1 _ (h6 i)).2];exact h.old i⟩
 .by_cases hc:Ch t
  .exact h2 t B hc hB
  .obtain⟨e1,e2⟩:=h1 t hc
   rw[e1]at hB;rw[e2];exact h3 t B hc hB
 .rcases key t A hA with⟨⟨A', uY⟩,e1⟩|⟨c1,e1⟩
  .rcases key u B hB with⟨⟨B', xY⟩,e2⟩|⟨c2,e2⟩
   .exact h.inj t u A' B' uY xY (by rw[<-e1,<-e2];exact e)
   .have:=h.lt uY; omega
  .rcases key u B hB with⟨⟨B', xY⟩,e2⟩|⟨c2,e2⟩
   .have:=h.lt xY; omega
   .exact h5 t u c1 c2 e1 e
def vU:IC:=(.seq (.cF R2) z7)
def Kr:IC:=(.seq (.cF R1) vU)
def Vd.eR (D:Vd) (row:List Int):Vd:={D with IN:=D.IN ++ [row]}
def VS.eR{p: Tg->Nat}(h:VS D O p σ){row:List Int}(hp:∀t,t ≠ .aQ->p' t=p t)
  (hi:aq τ (p' .aQ)=some ⟨none,(D.IN ++ [row]).map wI,.live⟩) (hv:aq τ (p .v)=some ((D.eR row).box p')) (h3:∀t B,t ≠ .v->t ≠ .aQ->D.cont O p t=some B->aq τ (p t)=some B)
  (h4:(D.IN ≠ []/\p' .aQ=p .aQ)\/σ.length<=p' .aQ):VS (D.eR row) O p' τ:=by
 have jx:(D.eR row).cont O p' .aQ=some ⟨none,(D.IN ++ [row]).map wI,.live⟩:=ad (by simp[Vd.eR])
 refine h.step (λt=>t = .v\/t = .aQ) (λt ht=>?_) (λt B ht hB=>?_) (λt B ht hB=>h3 t B (λe=>ht (.inl e)) (λe=>ht (.inr e)) hB) (λt B ht hB=>?_) (λt u ht hu hl e=>?_) λi=>ab
 .have h1:t ≠ .v:=λe=>ht (.inl e)
  have h2:t ≠ .aQ:=λe=>ht (.inr e);refine⟨?_,hp t h2⟩;cases t with
  |v=>exact absurd rfl h1
  |aQ=>exact absurd rfl h2
  |bl=>
   show(if D.BL=[]then none else some ((D.eR row).ue p'))=if D.BL=[]then none else some (D.ue p)
   have:(D.eR row).ue p' = D.ue p:=by
    unfold Vd.ue;simp only[λy=>hp (.rw y) ab]
    rfl
   rw[this]
  |rw x=>
   show(if x<D.BL.length then some ((D.eR row).kF p' x)else none)=if x<D.BL.length then some (D.kF p x)else none
   have:(D.eR row).kF p' x=D.kF p x:=by
    unfold Vd.kF;simp only[λy=>hp (.cl x y) ab]
    rfl
   rw[this]
  |_=>rfl
 .rcases ht with rfl|rfl
  .rw[hp _ ab,hv];exact hB
  .rw[jx]at hB;rw[hi];exact hB
 .rcases ht with rfl|rfl
  .exact .inl ⟨⟨_,rfl⟩,hp _ ab⟩
  .exact h4.imp (λq=>⟨⟨_,ad q.1⟩,q.2⟩) id
 .rcases ht with rfl|rfl
  .rw[hp _ ab]at hl
   have:=h.lt (t:=.v) rfl;omega
  .rcases hu with rfl|rfl
   .rw[hp .v ab]at e
    have:=h.lt (t:=.v) rfl;omega
   .rfl
def amu{Q:Ex->St->Prop}{row:List Int}
  (D:Vd) (p:Tg->Nat) (σ:List al) (b:VS D O p σ) (H:x<=1000) (I:D.IN.length=x) {i j:AV}
  (g:∀p' τ,VS (D.eR row) O p' τ->p' .v=p .v->WK L vU (Ko (p .v) x) none τ Q):WK L Kr [.ptr (p .v) 16 0,.int x,i,j,wI row,.aO,.aO,.aO,.aO,.aO,.aO,.aO,.aO] none σ Q:=by
 unfold Kr;have m:=b.has .v _ rfl;unfold Vd.box at m;have q:(wI row).cells=[wI row]:=rfl;have s:bg (wI row)=true:=rfl;have z:=b.lt (t:=.v) rfl
 by_cases a:D.IN=[]
 .have n:cu (p .aQ) D.IN.length = .ag:=by rw[a];rfl
  have b1:∀B:al,aq (σ ++ [B]) (p .v)=_:=λB=>gz (r:=[B]) m;simp[-aj,m,n,b1,q,s];have d:∀t,t ≠ Tg.aQ->(λt=>if t=Tg.aQ then σ.length else p t) t=p t:=λt A=>ad A
  have l:(λt=>if t=Tg.aQ then σ.length else p t) .aQ=σ.length:=ae rfl
  generalize (λt=>if t=Tg.aQ then σ.length else p t)=p' at *
  have C:p .v<(σ ++ [(⟨none,[wI row],.live⟩:al)]).length:=ax
  have E:(D.eR row).box p' = _:=rfl;refine g p' _ (b.eR d (by rw[l,aA aa,gU,a];rfl) ?_ (λt B g w h=>by rw[aA (b.ne (t:=.v) rfl h (Ne.symm g))];exact gz (b.has t B h)) (.inr aa)) (d _ ab)
  rw[bU C];unfold Vd.box;simp[Vd.eR,a,l,d,cu]
 .have o:=b.has .aQ _ (ad a)
  have F:D.IN.length ≠ 0:=λe=>a (dY e);have n:cu (p .aQ) D.IN.length = .sl (p .aQ) D.IN.length 0 D.IN.length:=ad aa
  have y:p .aQ ≠ p .v:=b.ne (t:=.aQ) (u:=.v) (ad a) rfl ab
  have b1:∀(Q:List al) B,aq (ar Q (p .aQ) B) (p .v)=aq Q (p .v):=λQ B=>aA y;have G:=b.lt (t:=.aQ) (ad a);simp[-aj,m,n,o,b1,q,s];refine⟨aa,g p _ (b.eR (λ_ _=>rfl) (by rw[aA y.symm,bU G];simp) ?_ (λt B g w h=>by rw[aA (b.ne (t:=.v) rfl h (Ne.symm g)),aA (b.ne (t:=.aQ) (ad a) h (Ne.symm w))];exact b.has t B h) (.inl ⟨a,rfl⟩)) rfl⟩
  rw[bU (by rw[aY];exact z)]
  unfold Vd.box;simp[Vd.eR,cu]
def Vd.bH (D:Vd):Vd:={D with BL:=D.BL ++ [List.replicate D.n.calls.toNat []]}
def u6:D.bH.row y=if y=D.BL.length then List.replicate D.n.calls.toNat []else D.row y:=by
 unfold Vd.row Vd.bH;dsimp only
 by_cases h:y<D.BL.length+1
 .rw[Kl h]
  by_cases e:y<D.BL.length
  .rw[ae e,ad aa]
  .rw[ad e,ae aa]
 .rw[ad aa]
  unfold ix;rw[gD,gD,jg ax,jg aa]
def lQ [Inhabited α]{a:α}(h:c<k):ix (List.replicate k a) (c:Int)=a:=by
 rw[aB cq];simp
def xk:D.bH.bV y c=if y=D.BL.length then[]else D.bV y c:=by
 unfold Vd.bV;rw[u6];split
 .by_cases h:c<D.n.calls.toNat
  .exact lQ h
  .unfold ix
   rw[gD,jg ax];rfl
 .rfl
def VS.bH{p: Tg->Nat}(h:VS D O p σ) (hp:∀t,t ≠ .bl->t ≠ .rw D.BL.length->p' t=p t)
  (hi:aq τ (p' .bl)=some (D.bH.ue p')) (hr:aq τ (p' (.rw D.BL.length))=some ⟨none,List.replicate D.n.calls.toNat .ag,.live⟩) (hv:aq τ (p .v)=some (D.bH.box p'))
  (h3:∀t B,t ≠ .v->t ≠ .bl->D.cont O p t=some B->aq τ (p t)=some B)
  (h4:(D.BL ≠ []/\p' .bl=p .bl)\/σ.length<=p' .bl) (h5:σ.length<=p' (.rw D.BL.length)) (h6:p' .bl ≠ p' (.rw D.BL.length)):VS D.bH O p' τ:=by
 have hl:D.bH.BL.length=D.BL.length+1:=by simp[Vd.bH]
 have jx:D.bH.cont O p' .bl=some (D.bH.ue p'):=ad (by simp[Vd.bH])
 have Di:D.bH.cont O p' (.rw D.BL.length)=some ⟨none,List.replicate D.n.calls.toNat .ag,.live⟩:=by
  show(if D.BL.length<D.bH.BL.length then some (D.bH.kF p' D.BL.length)else none)=_
  rw[hl,ae aa]
  unfold Vd.kF;rw[u6,ae rfl]
  congr 2
  apply me ab
  intro i h1 h2;simp[xk,cu]
 have xR:=h.lt (t:=.v) rfl;refine h.step (λt=>t = .v\/t = .bl\/t = .rw D.BL.length) (λt ht=>?_) (λt B ht hB=>?_) (λt B ht hB=>h3 t B (λe=>ht (.inl e)) (λe=>ht (.inr (.inl e))) hB) (λt B ht hB=>?_) (λt u ht hu cm e=>?_) λi=>ab
 .have h1:t ≠ .v:=λe=>ht (.inl e)
  have h2:t ≠ .bl:=λe=>ht (.inr (.inl e));have yz : t ≠ .rw D.BL.length:=λe=>ht (.inr (.inr e));refine⟨?_,hp t h2 yz⟩;cases t with
  |v=>exact absurd rfl h1
  |bl=>exact absurd rfl h2
  |rw x=>
   have hx:x ≠ D.BL.length:=λe=>yz eD
   show(if x<D.bH.BL.length then some (D.bH.kF p' x)else none)=if x<D.BL.length then some (D.kF p x)else none
   have:D.bH.kF p' x=D.kF p x:=by
    unfold Vd.kF;simp only[λy=>hp (.cl x y) ab ab,u6,xk,ad hx]
   rw[this,hl]
   by_cases e:x<D.BL.length
   .rw[ae e,ae aa]
   .rw[ad e,ad aa]
  |cl x c=>
   show(if x<D.bH.BL.length/\c<(D.bH.row x).length/\D.bH.bV x c ≠ []then some (⟨none,(D.bH.bV x c).map wI,.live⟩:al)else none)=if x<D.BL.length/\c<(D.row x).length/\D.bV x c ≠ []then some ⟨none,(D.bV x c).map wI,.live⟩else none
   rw[hl,u6,xk]
   by_cases e:x=D.BL.length
   .rw[ae e,ae e,ad ab,ad aa]
   .rw[ad e,ad e]
    by_cases e2:x<D.BL.length
    .simp only[e2,show x<D.BL.length+1 by omega]
    .simp only[e2,show ¬x<D.BL.length+1 by omega]
  |_=>rfl
 .rcases ht with rfl|rfl|rfl
  .rw[hp _ ab ab,hv];exact hB
  .rw[jx]at hB;rw[hi];exact hB
  .rw[Di]at hB;rw[hr];exact hB
 .rcases ht with rfl|rfl|rfl
  .exact .inl ⟨⟨_,rfl⟩,hp _ ab ab⟩
  .exact h4.imp (λq=>⟨⟨_,ad q.1⟩,q.2⟩) id
  .exact .inr h5
 .have pv:=hp .v ab ab
  rcases ht with rfl|rfl|rfl
  .omega
  .rcases hu with rfl|rfl|rfl
   .omega
   .rfl
   .exact absurd e h6
  .rcases hu with rfl|rfl|rfl
   .omega
   .exact absurd e.symm h6
   .rfl
def TJ{p: Tg->Nat}(a:∀t,t ≠ .bl->t ≠ .rw D.BL.length->p' t=p t):D.bH.ue p' = ⟨none,(List.range D.BL.length).map (λx=>AV.sl (p (.rw x)) (D.row x).length 0 (D.row x).length) ++ [AV.sl (p' (.rw D.BL.length)) D.n.calls.toNat 0 D.n.calls.toNat],.live⟩:=by
 unfold Vd.ue;rw[show D.bH.BL.length=D.BL.length+1 by simp[Vd.bH],jh,jE]
 congr 2
 .refine eM λx b=>?_
  have:=bQ.1 b;rw[u6,ad aa,a _ ab ax]
 .simp[u6]
def amv{Q:Ex->St->Prop}
  (D:Vd) (p:Tg->Nat) (σ:List al) (g:VS D O p σ) (y:D.n.Ok) (H:x<=1000) (j:D.BL.length=x)
  (i:∀p' τ,VS D.bH O p' τ->p' .v=p .v->WK L z7 (Ko (p .v) x) none τ Q):WK L vU (Ko (p .v) x) none σ Q:=by
 unfold vU;have o:=g.has .v _ rfl;unfold Vd.box at o;have z:=y.calls;have I:=g.lt (t:=.v) rfl
 by_cases a:D.BL=[]
 .have q:cu (p .bl) D.BL.length = .ag:=by rw[a];rfl
  have b1:∀B C:al,aq (σ ++ [B,C]) (p .v)=_:=λB C=>gz (r:=[B,C]) o;simp[-aj,o,q,b1];refine⟨aa,?_⟩
  have b:∀t,t ≠ Tg.bl->t ≠ Tg.rw D.BL.length->(λt=>if t=Tg.bl then σ.length+1 else if t=Tg.rw D.BL.length then σ.length else p t) t=p t:=λt i m=>by
   show(if t=Tg.bl then σ.length+1 else if t=Tg.rw D.BL.length then σ.length else p t)=p t
   rw[ad i,ad m]
  have d:(λt=>if t=Tg.bl then σ.length+1 else if t=Tg.rw D.BL.length then σ.length else p t) .bl=σ.length+1:=ae rfl
  have h:(λt=>if t=Tg.bl then σ.length+1 else if t=Tg.rw D.BL.length then σ.length else p t) (.rw D.BL.length)=σ.length:=ab
  generalize (λt=>if t=Tg.bl then σ.length+1 else if t=Tg.rw D.BL.length then σ.length else p t)=p' at *
  have s:∀B C:al,p .v<(σ ++ [B,C]).length:=λB C=>ax
  have A:D.BL.length=0:=by rw[a];rfl
  refine i p' _ (g.bH b ?_ ?_ ?_ (λt B i m j=>by rw[aA (g.ne (t:=.v) rfl j (Ne.symm i))];exact gz (g.has t B j)) (.inr aa) aa aa) (b _ ab ab)
  .rw[d,aA aa,Ke,TJ b,h,A]
   rfl
  .rw[h,aA aa,gU]
  .rw[bU (s _ _)]
   unfold Vd.box;simp[Vd.bH,a,d,b,cu]
 .have l:=g.has .bl _ (ad a)
  unfold Vd.ue at l;have q:cu (p .bl) D.BL.length = .sl (p .bl) D.BL.length 0 D.BL.length:=ad λe=>a (dY e);have w:p .bl ≠ p .v:=g.ne (t:=.bl) (u:=.v) (ad a) rfl ab
  have E:∀(Q:List al) B,aq (ar Q (p .bl) B) (p .v)=aq Q (p .v):=λQ B=>aA w;have b1:∀B:al,aq (σ ++ [B]) (p .v)=_:=λB=>gz (r:=[B]) o;have F:∀B:al,aq (σ ++ [B]) (p .bl)=_:=λB=>gz (r:=[B]) l;have J:=g.lt (t:=.bl) (ad a);simp[-aj,o,q,l,b1,E,F];refine⟨aa,aa,?_⟩
  have b:∀t,t ≠ Tg.bl->t ≠ Tg.rw D.BL.length->(λt=>if t=Tg.rw D.BL.length then σ.length else p t) t=p t:=λt i m=>ad m
  have d:(λt=>if t=Tg.rw D.BL.length then σ.length else p t) .bl=p .bl:=ab
  have h:(λt=>if t=Tg.rw D.BL.length then σ.length else p t) (.rw D.BL.length)=σ.length:=ab
  generalize (λt=>if t=Tg.rw D.BL.length then σ.length else p t)=p' at *
  have s:∀B:al,p .bl<(σ ++ [B]).length:=λB=>ax
  have G:∀B C:al,p .v<(ar (σ ++ [B]) (p .bl) C).length:=λB C=>by rw[aY];simp;omega
  refine i p' _ (g.bH b ?_ ?_ ?_ (λt B i m j=>by rw[aA (g.ne (t:=.v) rfl j (Ne.symm i)),aA (g.ne (t:=.bl) (ad a) j (Ne.symm m))];exact gz (g.has t B j)) (.inl ⟨a,d⟩) aa aa) (b _ ab ab)
  .rw[d,aA w.symm,bU (s _),TJ b,h]
  .rw[h,aA aa,aA aa,gU]
  .rw[bU (G _ _)]
   unfold Vd.box;simp[Vd.bH,d,b,cu]
def mB.eR(h:mB P D)(hx:x=D.IN.length) (hk:x<D.K.length) (hv:∀v∈D.gW x,v∈D.K):mB P (D.eR (idxs D.K (D.gW x))):=by
 refine⟨⟨h.ok.ok,h.ok.st,h.ok.el,h.ok.plc⟩,h.nd,h.pr,h.h0,λy hy=>?_,h.rl,h.bl⟩;have ud : y<D.IN.length+1:=by simpa[Vd.eR]using hy
 show y<D.K.length/\ix (D.IN ++ [idxs D.K (D.gW x)]) (y:Int)=idxs D.K (D.gW y)/\∀v∈D.gW y,v∈D.K;rw[Kl ud]
 by_cases e:y<D.IN.length
 .rw[ae e];exact h.aQ y e
 .have:y=x:=by omega
  subst this;rw[ad e];exact⟨hk,rfl,hv⟩
def mB.bH(h:mB P D):mB P D.bH:=by
 have hl:D.bH.BL.length=D.BL.length+1:=by simp[Vd.bH]
 refine⟨⟨h.ok.ok,h.ok.st,h.ok.el,h.ok.plc⟩,h.nd,h.pr,h.h0,h.aQ,λx hx=>?_,λx c y hx hc hy=>?_⟩
 .rw[u6]
  split
  .simp;rfl
  .exact h.rl x aa
 .rw[xk]at hy ⊢
  by_cases e:x=D.BL.length
  .rw[ae e]at hy;simp at hy
  .rw[ad e]at hy ⊢
   exact h.bl x c y aa hc hy
def clB:IC:=(.seq (.cF RY)
 (.seq (.seq (.cF RZ)
 (.seq (.block 2 (.loop R0)) (.ji 4))) Kr))
def TK(hP:EP P n plc){Q:Ex->St->Prop}
  (D:Vd) (p:Tg->Nat) (σ:List al) (h:VS D O p σ) (hV:mB P D) (C:D.n=n) (hDp:D.plc=plc) (hx:x<D.K.length) (hK:D.K.length<=512) (hI:D.IN.length=x) (j:D.BL.length=x) (hl:∀I c', I < x->c' < D.n.calls.toNat->(D.bV I c').length=x)
  (H:∀D' p' τ,Dk P n plc O (p .v) x D' p' τ->D'.K.length<=600->vT D' x 0 0->WK L z7 (Ko (p .v) x) none τ Q):WK L clB (Ko (p .v) x) none σ Q:=by
 unfold clB;have J:=hV.ok;have M:=J.ok;have jx:=M.ak;have y:=h.has .v _ rfl;unfold Vd.box at y;have BB:∀B:al,aq (σ ++ [B]) (p .v)=_:=λB=>gz (r:=[B]) y;simp[-aj,BB];have rl:(D.gW x).length=D.n.ak.toNat:=by simp[Vd.gW]
 refine aK (λq:Nat×List al=>[(2,.int q.1),(4,.sl σ.length q.1 0 q.1)]) (λq=>q.2)
  (λq=>q.1<=D.n.ak.toNat/\VS {D with K:=aG D.K ((D.gW x).take q.1)} (tE O σ.length (bp (idxs (aG D.K ((D.gW x).take q.1)) ((D.gW x).take q.1)))) p q.2) (λq=>D.n.ak.toNat-q.1) (0,σ ++ [bp []]) aX ⟨ab,by simpa[aG,idxs]using h.push _⟩ ?_
 rintro⟨r,N⟩ ⟨r0,E⟩;dsimp only at r0 E ⊢;have d:=J.Kn hx;have hpv:∀v∈D.gW x,P v:=λv y=>by
  obtain⟨i,R,rfl⟩:=cx.1 y;have:=bQ.1 R;rw[C];exact hP.aft _ (hV.kx hx) i aa (by rw[<-C];omega)
 generalize S:D.gW x=vs at *;obtain⟨ext,a,he2⟩:=uZ (vs.take r) D.K;have g:ix (aG D.K (vs.take r)) (x:Int)=ix D.K (x:Int):=by rw[a,qE hx]
 have T:=E.view;have hb:=E.has (.old σ.length) _ xh;rw[E.old]at hb
 by_cases hr:r<D.n.ak.toNat
 .have m:(r:Int)<D.n.ak:=by omega
  have hDr:=J.aG (vs:=vs.take r) λv y=>d v (List.mem_of_mem_take y);have zk:ix vs (r:Int)=(ix D.K (x:Int)).map λs=>ix (ix D.n.inner s) (r:Int):=by
   rw[<-S,Vd.gW,iR aa ax]
   simp[aB (show r<(List.range D.n.ak.toNat).length by simp;omega)]
  have hlx:=J.kx hx;have Gp:=J.el;have hx1:(x:Int)<((aG D.K (vs.take r)).length:Int):=by rw[a];simp;omega
  have EN:(aG D.K (vs.take r)).length<=2000:=by rw[a,aU];have:(vs.take r).length<=r:=List.length_take_le r vs;omega
  have hA:=amk (Vd.vcs {D with K:=aG D.K (vs.take r)}) M x r ⟨aa,hx1⟩ ⟨aa,m⟩ (by show D.n.oF (ix (aG D.K (vs.take r)) (x:Int));rw[g];exact hlx.1) (by show(ix (aG D.K (vs.take r)) (x:Int)).length<=1000;rw[g];omega)
  obtain⟨z,XK,hA,hz⟩:=dd hA;have hz:bP XK true z=some (iL (ix vs (r:Int))):=by
   rw[hz,zk];show some (iL ((ix (aG D.K (vs.take r)) (x:Int)).map λs=>ix (ix D.n.inner s) (r:Int)))=_;rw[g]
  have EJ:=d _ (aJ (l:=vs) (n:=(r:Int)) aa aa)
  have tk:=gx (w:=vs) (k:=r) aa
  have U:=Dh (K:=D.K) (vs:=vs.take r) (l:=ix vs (r:Int));generalize ix vs (r:Int)=l at *;have V:=Tu {D with K:=aG D.K (vs.take r)} _ p N E l (zZ M EJ.1) (λk hk=>zZ M (hDr.st k hk).1) aa (λe=>by have h0:(aG D.K (vs.take r)).length=0:=(by dsimp only at e;rw[e];rfl);omega) au
  obtain⟨rv,τ,hN,rfl,o,hlen⟩:=dd V;clear V;have A:=o.has (.old σ.length) _ xh;rw[o.old]at A;have u:(idxs (aG D.K (vs.take r)) (vs.take r)).length=r:=ng
  generalize idxs (aG D.K (vs.take r)) (vs.take r)=row at *;simp[-aj,m,T,hA,hz,hN,A];refine⟨⟨u,dE⟩,aa,aa,aD (r+1,_) (by simp[u]) rfl ⟨au,?_⟩ au⟩
  dsimp only;rw[tk,U,xi];rw[Tv]at o;have:=o.put (b:=σ.length) (if_pos rfl) (bp (row ++ [(((aG D.K (vs.take r)).idxOf l:Nat):Int)]));have e:bp (row ++ [(((aG D.K (vs.take r)).idxOf l:Nat):Int)])=⟨none,row.map AV.int ++ [.int (((aG D.K (vs.take r)).idxOf l:Nat):Int)],.live⟩:=ab
  rw[<-e];refine this.zX λi B j=>?_;unfold tE at j ⊢;split
  .rename_i R;simpa[R]using j
  .rename_i R;simpa[R]using j
 .have er:r=D.n.ak.toNat:=by omega
  have m:¬(r:Int)<D.n.ak:=aa
  rw[eZ aa]at E hb T a g
  have u:(idxs (aG D.K vs) vs).length=r:=ng
  simp[-aj,m];refine qD hb ab u.symm ?_
  have F:∀row:List Int,∀i B,O i=some B->tE (tE O σ.length (bp row)) σ.length ⟨none,row.map .int,.dead⟩ i=some B:=λrow i B j=>by
   have H:=h.lt (t:=.old i) j;rw[h.old]at H;simp[tE,show i ≠ σ.length by omega,j]
  have hS2:=(E.put (b:=σ.length) (ae rfl) ⟨none,(idxs (aG D.K vs) vs).map .int,.dead⟩).zX (F _);have hV2:=hV.grow d hpv;have W:Vd.gW {D with K:=aG D.K vs} x=vs:=by
   show(List.range D.n.ak.toNat).map (λ(i:Nat)=>(ix (aG D.K vs) (x:Int)).map λs=>ix (ix D.n.inner s) (i:Int))=_;rw[g,<-S];rfl
  have X:x<(aG D.K vs).length:=by rw[a];simp;omega
  have G:=hV2.eR (x:=x) hI.symm X (by rw[W];exact λv y=>qC (.inl y))
  rw[W]at G;have hlen:(aG D.K vs).length<=600:=by rw[a,aU];have:(vs.take r).length<=r:=List.length_take_le r vs;omega
  dsimp only at G;generalize aqc:idxs (aG D.K vs) vs=row at *;generalize amp:ar N σ.length ⟨none,row.map .int,.dead⟩=MB at *;simp[-aj];rw[Kj];refine amu (row:=row) {D with K:=aG D.K vs} p MB hS2 aa hI λp' τ hS3 Y=>?_
  rw[<-Y];refine amv (Vd.eR {D with K:=aG D.K vs} row) p' τ hS3 M aa j λp4 τ4 hS4 Z=>?_
  rw[<-Z];rw[<-Y,<-Z]at H;refine H _ p4 τ4 ⟨hS4,G.bH,C,hDp,rfl,by simp[Vd.bH,Vd.eR,hI],X⟩ hlen ⟨by simp[Vd.bH,Vd.eR,j],λI c' H h2=>?_,λc' h2=>?_⟩
  .rw[xk,ad (by show ¬I = D.BL.length;omega)]
   rw[ad aa]
   exact hl I c' H h2
  .rw[xk,ae (by show x=D.BL.length;omega)]
   simp
structure Full (D:Vd):Prop where
 i:D.IN.length=D.K.length
 b:D.BL.length=D.K.length
 k:D.K.length<=512
 c:∀x c,x<D.K.length->c<D.n.calls.toNat->(D.bV x c).length=D.K.length
def amw(D:Vd) (R:EP P D.n D.plc)(p:Tg->Nat) (σ:List al) (h:VS D O p σ) (X:mB P D) (Y:D.IN=[]) (Z:D.BL=[]) (hK:D.K.length<=512) :
  LX L Cs [.ptr (p .v) 16 0] σ (λr τ=>∃D' p', VS D' O p' τ/\mB P D' /\D'.n=D.n/\D'.plc=D.plc/\p' .v=p .v/\((r = .bool true/\Full D')\/(r = .bool false/\512<D'.K.length))):=by
 refine aiW rfl ?_;simp[-aj];refine aK (λq:Nat×List al=>[(1,.int q.1)]) (λq=>q.2)
  (λq=>∃D' p', VS D' O p' q.2/\mB P D' /\(D'.n=D.n/\D'.plc=D.plc/\p' .v=p .v)/\D'.IN.length=q.1/\D'.BL.length=q.1/\D'.K.length<=512/\q.1<=D'.K.length/\∀b d, b < q.1->d < D'.n.calls.toNat->(D'.bV b d).length=q.1) (λq=>513-q.1) (0,σ) aX ⟨D,p,h,X,⟨rfl,rfl,rfl⟩,by simp[Y],by simp[Z],hK,ab,λb d h=>by dsimp only at h;omega⟩ ?_
 rintro⟨x,G⟩ ⟨o,S,C,u,⟨T,U,H⟩,w,y,z,I,g⟩;dsimp only at C w y I g ⊢;have E:=C.has .v _ rfl;unfold Vd.box at E;rw[H]at E;show WK L (.seq (.seq (.cF RV) (.cond 14 .skip (.exit 0))) (.seq (.block 1 clB) (.cF R7))) _ _ _ _
 by_cases hx:x<o.K.length
 .have j :=az (show(x:Int)<(o.K.length:Int)by omega)
  simp[-aj,E,j];rw[<-H];refine TK (n:=D.n) (plc:=D.plc) R o S G C u T U hx z w y g λD2 p2 τ J M N=>?_;refine amt R D2 p2 τ J M N (λF Q A a l m=>?_) λF Q A a m=>?_
  .simp[-aj]
   refine⟨aa,aD (x+1,A) ab rfl ⟨F,Q,a.s,a.v,⟨a.n,a.plc,a.p⟩,a.i,l.bl,m,by have:=a.x;dsimp only;omega,λb d V W=>?_⟩ au⟩
   dsimp only at V ⊢;have B : d < F.n.calls.toNat:=aa
   by_cases e:b < x
   .rw[l.lo b d e B, ae aa]
   .have:b = x:=by omega
    subst this;rw[l.hi d B, ad aa]
  .simp[-aj]
   exact⟨F,Q,a.s,a.v,a.n,a.plc,a.p,m⟩
 .have j :=bX (show ¬(x:Int)<(o.K.length:Int)by omega)
  simp[-aj,E,j];exact⟨o,S,C,u,T,U,H,aa,aa,z,λb d V W=>by rw[g b d aa W];omega⟩
end Ab
