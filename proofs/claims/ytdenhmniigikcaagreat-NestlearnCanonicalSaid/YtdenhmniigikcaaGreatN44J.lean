/- Blocks of numbers; stores: blocks behind others, blocks that are put, rows that lie somewhere; and what it leans on. Condition: none. -/
import Derived.Test.YtdenhmniigikcaaGreatBfsOrd
import Derived.Test.YtdenhmniigikcaaGreatFrz
import Derived.Test.YtdenhmniigikcaaGreatKey
import Derived.Test.YtdenhmniigikcaaGreatN43Word
set_option linter.all false
set_option maxRecDepth 100000
set_option maxHeartbeats 4000000
namespace Ab
abbrev Zb (vs:List Int):ah:=⟨none,vs.map .int,.live⟩
def bE:∀(σ:List ah) (i:Nat),ak σ i=σ[i]?
 | [],i=>by simp[ak]
 |x::r,0=>rfl
 |x::r,i+1=>by simp[ak,bE r i]
def sE:∀(σ:List ah) (i:Nat) (B:ah),ar σ i B=σ.set i B
 | [],i,B=>by simp[ar]
 |x::r,0,B=>rfl
 |x::r,i+1,B=>by simp[ar,sE r i B]
def Bx{n:Nat}:∀l:List Int,km n (l.map .int)=l.map .int
 | []=>rfl
 |x::l=>by simp only[cJ,km,iW,Bx l]
variable{i:Nat}{B:ah}
theorem dw{Q:List ah}(h:ak Q i=some B):i<Q.length:=by
 rw[bE]at h;exact(dq.1 h).1
variable{r:List ah}
theorem fU{Q:List ah}(h:ak Q i=some B):ak (Q++r) i=some B:=by
 have:=dw h;rw[bE]at h ⊢;rw[eC this];exact h
theorem gJ{Q:List ah}:ak (Q++B::r) Q.length=some B:=by rw[bE];simp
variable{A:ah}
theorem HU{Q:List ah}:ak (Q++A::B::r) (Q.length+1)=some B:=by rw[bE];simp
theorem aja{Q:List ah}{C:ah}:ak (Q++A::B::C::r) (Q.length+2)=some C:=by rw[bE];simp
theorem bQ{Q:List ah}:(ar Q i B).length=Q.length:=by rw[sE];simp
theorem cv{Q:List ah}(h:i<Q.length):ak (ar Q i B) i=some B:=by
 rw[bE,sE,List.getElem?_set,ab rfl,ab h]
theorem aK{Q:List ah}{j:Nat}(h:i ≠ j):ak (ar Q i B) j=ak Q j:=by
 rw[bE,bE,sE,List.getElem?_set,aa h]
structure ajb (σ:List ah) (b:Nat) (By : Nat->Nat) (l:List (List Int)):Prop where
 tab:ak σ b=some ⟨none,(List.range l.length).map λ(j:Nat)=>AV.sl (By j) (ix l (j:Int)).length 0 (ix l (j:Int)).length,.live⟩
 row:∀j:Nat,j<l.length->ak σ (By j)=some (Zb (ix l (j:Int)))
variable{σ:List ah}{b u:Nat}
theorem ajc{vars env:List AV}{x:Rf}{z:List AV}{k:Option Nat}{a:List ah}{K:List AV->List ah->List ah->Prop}{off len:Nat}(d:rv vars env x = .sl b u off len) (e:upto σ b u=some B) (g:0<len/\off+len*aE k<=B.cells.length/\aE B.k=aE k/\z.length=aE k/\B.st.isLive=true):bY L vars (.tY x z k) false env a σ K=K (.aF::env) [] (ar σ b ⟨B.k,putAt B.cells off (dI len z),B.st⟩):=by
 show aL (fI L σ (rv vars env) (.tY x z k)) (λp=>K (p.1::env) [] p.2)=_;simp only[fI,d,e];rw[ab g];rfl
def fL (l:List Int):Nat->List Int
 |0=>[]
 |n+1=>if 0<n/\ix l (n:Int)=ix l ((n:Int)-1)then fL l n else fL l n ++ [ix l (n:Int)]
def gE (l:List Int):List Int:=fL l l.length
theorem HV{l:List Int}:∀{n:Nat}{w:Int},n<=l.length->(w∈fL l n↔∃j:Int,0<=j/\j<n/\ix l j=w)
 |0,w,_=>by simp[fL];intro j;omega
 |n+1,w,h=>by
  have g:=λw=>HV (l:=l) (n:=n) (w:=w) (by omega)
  unfold fL;split
  .rename_i i
   rw[g];constructor
   .rintro⟨j,a,b,e⟩;exact⟨j,a,by omega,e⟩
   .rintro⟨j,a,b,e⟩
    by_cases d:j=(n:Int)
    .subst d;exact⟨(n:Int)-1,by omega,by omega,by rw[<-i.2];exact e⟩
    .exact⟨j,a,by omega,e⟩
  .rw[dQ,g]
   constructor
   .rintro(⟨j,a,b,e⟩|e)
    .exact⟨j,a,by omega,e⟩
    .simp at e;exact⟨n,by omega,by omega,e.symm⟩
   .rintro⟨j,a,b,e⟩
    by_cases d:j=(n:Int)
    .subst d;right;simp[e]
    .left;exact⟨j,a,by omega,e⟩
theorem ajd{l:List Int}{w:Int}:w∈gE l↔w∈l:=by
 unfold gE;rw[HV (aT _)];constructor
 .rintro⟨j,a,b,rfl⟩;exact aO a b
 .intro h
  obtain⟨j,d,e⟩:=fu.1 h;exact⟨j,by omega,by omega,by rw[aG d,e]⟩
theorem Qn (l:List Int):∀n,(fL l n).length<=n
 |0=>by simp[fL]
 |n+1=>by
  have:=Qn l n;unfold fL;split
  .omega
  .simp;omega
theorem Qo{l:List Int}(g:l.Pairwise (·<=·)):∀{n:Nat},n<=l.length->(fL l n).Pairwise (·< ·)
 |0,_=>by simp[fL]
 |n+1,h=>by
  have m:=Qo g (n:=n) (by omega)
  unfold fL;split
  .exact m
  .rename_i q
   rw[List.pairwise_append];refine⟨m,by simp,λa r b o=>?_⟩
   simp at o;subst o;obtain⟨j,w,x,rfl⟩:=(HV (by omega)).1 r
   have le:∀i k:Nat,i<=k->k<l.length->ix l (i:Int)<=ix l (k:Int):=λi k d p=>by
    rcases Nat.lt_or_eq_of_le d with d|d
    .rw[aG (by omega),aG p]
     exact qj.1 g i k (by omega) p d
    .subst d;omega
   have s:=le j.toNat (n-1) (by omega) (by omega)
   have u:=le (n-1) n (by omega) (by omega)
   rw[show((j.toNat:Nat):Int)=j by omega,show((n-1:Nat):Int)=(n:Int)-1 by omega]at s
   rw[show((n-1:Nat):Int)=(n:Int)-1 by omega]at u
   have y:ix l (n:Int) ≠ ix l ((n:Int)-1):=λe=>q ⟨by omega,e⟩
   omega
variable{vs:List Int}
theorem Qp(h:fL vs vs.length=vs.take vs.length):gE vs=vs:=by unfold gE;rw[h,List.take_length]
theorem Qq(h:0<vs.length):fL vs 1=vs.take 1:=by
 match vs,h with
 |x::r,_=>rfl
variable{k:Int}
theorem Qr(k0:1<=k) (h:ix vs k=ix vs (k-1)):fL vs (k+1).toNat=fL vs k.toNat:=by
 rw[show(k+1).toNat=k.toNat+1 by omega]
 conv=>lhs;unfold fL
 rw[ab ⟨by omega,by rw[show((k.toNat:Nat):Int)=k by omega];exact h⟩]
theorem Qs(k0:1<=k) (h:¬ix vs k=ix vs (k-1)):fL vs (k+1).toNat=fL vs k.toNat ++ [ix vs k]:=by
 rw[show(k+1).toNat=k.toNat+1 by omega]
 conv=>lhs;unfold fL
 rw[aa (λ⟨_,e⟩=>h (by rwa [show((k.toNat:Nat):Int)=k by omega]at e)),show((k.toNat:Nat):Int)=k by omega]
theorem aje(a:0<=k) (b:k<vs.length):vs.take (k+1).toNat=vs.take k.toNat ++ [ix vs k]:=by
 rw[show(k+1).toNat=k.toNat+1 by omega,k8,ko a b];rfl
abbrev ZB (vs:List Int) (r:Nat):ah:=⟨none,vs.map .int++List.replicate r (.int 0),.live⟩
theorem ajf (vs:List Int) (D:vs ≠ []) (K:(vs.length:Int)<=1000000) :
  LX L Hm [.sl 0 vs.length 0 vs.length] [Zb vs] (λv τ=>v = .sl 0 vs.length 0 (gE vs).length/\τ=[ZB (gE vs) (vs.length-(gE vs).length)]):=by
 have C:0<vs.length:=l5.2 D;refine agY rfl ?_
 by_cases M:vs.length<2
 .simp[show(vs.length:Int)<2 by omega]
  have r:vs.length=1:=by omega
  rw[Qp (by rw[r];exact Qq C)];simp
 .simp[show ¬(vs.length:Int)<2 by omega]
  refine aM (λk:Int=>[(1,.int k)]) (λ_=>[Zb vs]) (λk=>1<=k/\k<=vs.length/\fL vs k.toNat=vs.take k.toNat) (λk=>(vs.length-k).toNat) 1 rfl ⟨by omega,by omega,?_⟩ λk ⟨k0,N,g⟩=>?_
  .exact Qq C
  by_cases s:k<vs.length
  .simp[-ag,s,show 0<=k by omega,show 0<=k-1 by omega,show k-1<(vs.length:Int)by omega]
   refine⟨by omega,by omega,by omega,λu=>⟨by omega,?_⟩,λu=>⟨by omega,az (k+1) rfl rfl ⟨by omega,by omega,by rw[Qs (by omega) u,g,aje (by omega) s]⟩ (by omega)⟩⟩
   obtain⟨k,rfl⟩:∃E : Nat,k=E :=⟨k.toNat,by omega⟩
   have F:k<vs.length:=by omega
   rw[je]at g ⊢;have e:=Qr (vs:=vs) k0 u;rw[show((k:Int)+1).toNat=k+1 by omega,je,g]at e
   refine aM (λp:Nat×Nat×List Int=>[(1,.int p.1),(2,.int ((p.2.1:Int)+1))]) (λp=>[Zb p.2.2]) (λp=>k+p.2.1+1<=vs.length/\p.2.2.length=vs.length/\p.1=(fL vs (k+p.2.1+1)).length/\p.1<=k+p.2.1/\p.2.2.take p.1=fL vs (k+p.2.1+1)/\∀j:Nat,k+p.2.1<=j->j<vs.length->ix p.2.2 (j:Int)=ix vs (j:Int))
    (λp=>vs.length-p.2.1) (k,0,vs) (by simp[a8]) ⟨by dsimp only;omega,rfl,by dsimp only;rw[Nat.add_zero,e];simp;omega,by dsimp only;omega,by dsimp only;rw[Nat.add_zero,e],λ_ _ _=>rfl⟩ ?_
   rintro⟨q,j,cs⟩ ⟨G,d,l,H,m,n⟩;dsimp only at G d l H m n ⊢
   by_cases I:k+j+1<vs.length
   .have r:=n (k+j+1) (by omega) I
    have J:=n (k+j) (by omega) (by omega)
    have w:ix vs ((k+j+1:Nat):Int)=ix vs ((k+j:Nat):Int)->fL vs (k+(j+1)+1)=fL vs (k+j+1):=λh=>by
     have:=Qr (vs:=vs) (k:=((k+j+1:Nat):Int)) (by omega) (by rw[show((k+j+1:Nat):Int)-1=((k+j:Nat):Int)by omega];exact h)
     rw[show(((k+j+1:Nat):Int)+1).toNat=k+(j+1)+1 by omega,show(((k+j+1:Nat):Int)).toNat=k+j+1 by omega]at this
     exact this
    have x:¬ix vs ((k+j+1:Nat):Int)=ix vs ((k+j:Nat):Int)->fL vs (k+(j+1)+1)=fL vs (k+j+1) ++ [ix vs ((k+j+1:Nat):Int)]:=λh=>by
     have:=Qs (vs:=vs) (k:=((k+j+1:Nat):Int)) (by omega) (by rw[show((k+j+1:Nat):Int)-1=((k+j:Nat):Int)by omega];exact h)
     rw[show(((k+j+1:Nat):Int)+1).toNat=k+(j+1)+1 by omega,show(((k+j+1:Nat):Int)).toNat=k+j+1 by omega]at this
     exact this
    rw[<-r,<-J,show((k+j+1:Nat):Int)=(k:Int)+((j:Int)+1)by omega,show((k+j:Nat):Int)=(k:Int)+j by omega]at w x
    simp[-ag,d,show(j:Int)+1<((vs.length-k:Nat):Int)by omega]
    refine⟨by omega,by omega,by omega,by omega,by omega,λh=>⟨by omega,az (q,j+1,cs) (by simp) rfl ⟨by dsimp only;omega,d,by dsimp only;rw[w h];exact l,by dsimp only;omega,by dsimp only;rw[w h];exact m,λi a b=>n i (by dsimp only at a;omega) b⟩ (by dsimp only;omega)⟩,λh=>⟨by omega,by omega,by omega,by omega,by omega,az (q+1,j+1,cs.set q (ix cs ((k:Int)+((j:Int)+1)))) (by simp) (by simp[List.map_set]) ⟨by dsimp only;omega,by simp[d],by dsimp only;rw[x h];simp;exact l,by dsimp only;omega,?_,λi a b=>?_⟩ (by dsimp only;omega)⟩⟩
    .dsimp only
     rw[x h,<-m,k8,List.take_set_of_le (aT _),List.getElem?_set_self (by omega)]
     rfl
    .dsimp only at a ⊢
     rw[yk (by omega) (by omega),aa (by omega)]
     exact n i (by omega) b
   .simp[-ag,show ¬(j:Int)+1<((vs.length-k:Nat):Int)by omega]
    have y:q<=vs.length:=by omega
    have z:k+j+1=vs.length:=by omega
    rw[z]at l m;refine⟨d,y,?_⟩;rw[ajc (B:=Zb cs) rfl (by simp[upto,ak,d]) ⟨by omega,by simp[d];omega,rfl,rfl,rfl⟩]
    have o:putAt (cs.map .int) q (dI (vs.length-q) [.int 0])=(gE vs).map .int++List.replicate (vs.length-q) (.int 0):=by
     unfold putAt;rw[<-List.map_take,m,ji (by simp[dI,d];omega)]
     simp[dI,gE]
    have A:(gE vs).length=q:=by unfold gE;exact l.symm
    simp[-List.map_replicate,o,A];omega
  .simp[s]
   rw[show k.toNat=vs.length by omega]at g
   rw[Qp g];simp
theorem ajg{n:Nat}{zs:List Int}(e:ak σ b=some (Zb zs)) (g:n=zs.length) (h:zs ≠ []) (m:(zs.length:Int)<=1000000):L yb [.sl b n 0 n] σ=some (.bF [],ar σ b (Zb (cg zs))):=by
 subst g;refine agX (N:=0) ?_;have d : upto σ b zs.length=some (Zb zs):=by
  unfold upto;rw[e];simp
 have i:0<zs.length:=l5.2 h;simp only[jG,d];have o:zs.length<=dz:=by show zs.length<=1073741824;omega
 rw[ab (by simp[eM.isLive,gv,i];omega)]
 have j:(((zs.map AV.int).drop 0).take zs.length)=zs.map .int:=by rw[kF,fc (by simp)]
 rw[j,DW];have l:(cg zs).length=zs.length:=(uT zs).length_eq;have a:putAt (zs.map AV.int) 0 ((cg zs).map .int)=(cg zs).map .int:=by
  unfold putAt;rw[List.take_zero,oQ,ji (by simp[l])];simp
 simp only[a]
theorem ym{rest:List AV}:∀{xs:List Int},chunk none xs.length (xs.map AV.int++rest)=xs.map .int
 | []=>rfl
 |x::xs=>by
  have e:=ym (rest:=rest) (xs:=xs);simp only[bX,cJ,jI,chunk,e]
theorem Qt{r:Nat}{xs:List Int}(h:ak σ b=some (ZB xs r)) (a:u=xs.length+r):view σ false vd (.sl b u 0 xs.length)=some (iL xs):=by
 subst a;have a:upto σ b (xs.length+r)=some (ZB xs r):=by
  unfold upto;rw[h];simp
 show view σ false (11+1) _=_;unfold view;simp only[a,aE,kF,gq,Nat.mul_one];rw[ab (by simp),ym,yj (f:=AV.int) (g:=AV.int) (v:=view σ false 11) λ_ _=>rfl]
theorem ajh (l:List Int):(gE l).length<=l.length:=Qn l _
theorem Qu{k:Nat}:∀{ls:List (List Int)},(∀r∈ls,r.length<=k)->ls.flatten.length<=ls.length*k
 | [],_=>by simp
 |r::ls,h=>by
  have a:=Qu (k:=k) (ls:=ls) λx b=>h x (by simp[b])
  have d:=h r (by simp)
  simp[eX]at a ⊢;omega
attribute [local simp] mT
theorem aji{A:List AV}{x z:AV}{k:Nat}(h:A.length=i):putAt (A++List.replicate (k+1) z) i [x]=A ++ [x]++List.replicate k z:=by
 subst h;unfold putAt;rw[List.take_left,List.drop_append,ji (by simp)]
 simp[List.drop_replicate]
theorem HW (l:List Int) (b:∀x∈l,0<=x/\x<=255) (o:l.length<=100000):PC xO [iL l]=some (.str (eH l)):=by
 refine bP (agN rfl ?_);simp[-ag];refine⟨by omega,?_⟩
 refine aM (λi:Nat=>[(4,.sl 0 l.length 0 i),(1,.int i)]) (λi=>[⟨none,(l.take i).map (AV.ik 4)++List.replicate (l.length-i) (.ik 4 0),.live⟩]) (λi=>i<=l.length) (λi=>l.length-i) 0 (by simp[a8]) (by omega) ?_
 intro i j
 by_cases d:i<l.length
 .have tk:=jm d
  have g:=b _ (aO (l:=l) (n:=(i:Int)) (by omega) (by omega))
  have a:min i l.length=i:=Nat.min_eq_left (by omega)
  simp[-ag,-List.map_take,d,g.1,g.2,a];refine⟨by omega,by omega,λh=>absurd h (by omega),λ_=>⟨by omega,by omega,az (i+1) (by simp) ?_ (by omega) (by omega)⟩⟩
  rw[tk,jK,show l.length-i=(l.length-(i+1))+1 by omega]
  have:=aji (A:=(l.take i).map (AV.ik 4)) (z:=.ik 4 0) (x:=.ik 4 (ix l (i:Int))) (k:=l.length-(i+1)) (i:=i) (by simp;omega)
  exact congrArg (λc=>[(⟨none,c,.live⟩:ah)]) this
 .have ei:i=l.length:=by omega
  subst ei;have m:=Bh (l:=l) b;have e:(l.map (AV.ik 4)).take l.length=l.map (AV.ik 4):=fc (by simp)
  simp[-ag,-List.map_take,e,m]
def al.aZ (n:al):List Int:=gE (cg (n.start::n.call.flatten))
variable{n:al}
theorem rS{x:Int}:x∈n.aZ↔x=n.start\/∃r∈n.call,x∈r:=by
 unfold al.aZ;rw[ajd,(uT _).mem_iff];simp[List.mem_flatten]
theorem ajj:n.aZ.Pairwise (·< ·):=Qo (D1 _) (aT _)
theorem al.Ok.CV(U:n.Ok):∀r∈n.call,r.length<=64:=λr V=>by
 obtain⟨j,hj,e⟩:=fu.1 V;have ln:=U.lens;have:=(U.row j (by omega) (by omega)).1
 rw[aG hj,e]at this;have:=U.calls;omega
theorem ajk (n:al) (j:n.Ok):PC G9 [n.av]=some (iL n.aZ):=by
 refine bP (agu rfl ?_);have A:=j.lens;have B:=Qu j.CV;have m:n.call.length<=128:=by have:=j.cP;omega
 have hle:∀i:Nat,(n.call.take i).flatten.length<=n.call.flatten.length:=λi=>by
  have e:(n.call.take i).flatten++(n.call.drop i).flatten=n.call.flatten:=by rw[<-List.flatten_append,mO]
  rw[<-e];simp
 simp[-ag];refine aM (λi:Nat=>[(2,.int i),(5,.sl 0 ((n.call.take i).flatten.length+1) 0 ((n.call.take i).flatten.length+1))]) (λi=>[Zb (n.start::(n.call.take i).flatten)]) (λi=>i<=n.call.length) (λi=>n.call.length-i) 0 (by simp[a8]) (by omega) ?_
 intro i C
 by_cases r:i<n.call.length
 .have d:(n.call.take (i+1)).flatten=(n.call.take i).flatten++ix n.call (i:Int):=by
   rw[jm r,List.flatten_append];simp
  have g:=hle (i+1);have D:=j.CV _ (aO (l:=n.call) (n:=(i:Int)) (by omega) (by omega))
  rw[d]at g;generalize (n.call.take i).flatten=F at *;rw[aY]at g;simp[-ag,-List.length_flatten,r];refine⟨by omega,λh=>⟨by omega,az (i+1) (by rw[d,h];simp) (by rw[d,h];simp) (by omega) (by omega)⟩,λh=>⟨by omega,az (i+1) (by rw[d];simp;omega) (by rw[d];simp) (by omega) (by omega)⟩⟩
 .have ei:i=n.call.length:=by omega
  subst ei;rw[List.take_length];have s:=hle n.call.length;generalize y:n.call.flatten=F at *;have w:n.call.length*64<=128*64:=kS _ m;have o:=ajg (σ:=[Zb (n.start::F)]) (b:=0) (n:=F.length+1) (zs:=n.start::F) rfl (by simp) (by simp) (by simp;omega)
  have o:L yb [.sl 0 (F.length+1) 0 (F.length+1)] [Zb (n.start::F)]=some (.bF [],[Zb (cg (n.start::F))]):=o;have a:(cg (n.start::F)).length=F.length+1:=by rw[(uT _).length_eq];rfl
  have p:cg (n.start::F) ≠ []:=λe=>by rw[e]at a;simp at a
  obtain⟨v,τ,x,rfl,rfl⟩:=dh (ajf (cg (n.start::F)) p (by omega))
  rw[a]at x;have z:=ajh (cg (n.start::F));have q:=Qt (σ:=[ZB (gE (cg (n.start::F))) (F.length+1-(gE (cg (n.start::F))).length)]) (b:=0) (u:=F.length+1) rfl (by omega)
  simp[-ag,-List.map_replicate,o,x,q];unfold al.aZ;rw[y]
end Ab
namespace Ab
abbrev mB (l:List (List (List (List Int)))):AV:=.au false (l.map dR)
structure Qv where
 n:al
 plc:List Int
 K:List (List Int)
 IN:List (List Int)
 BL:List (List (List (List Int)))
abbrev Qv.av (v:Qv):AV:=.aV (.agg [.int v.n.calls,.int v.n.af,.int v.n.aj,.int v.n.stack,.int v.n.start,bL v.n.accept,bN v.n.call,bN v.n.push,bN v.n.inner,dR v.n.pop,iL v.n.aZ,iL v.plc,bN v.K,.oT,bN v.IN,mB v.BL])
def al.rT (n:al) (l:List Int):Prop:=∀s∈l,0<=s/\s<(n.accept.length:Int)
variable{σ:List ah}{b:Nat}{fr:Bool}
theorem yn{n:Nat}{out:List Int}(h:ak σ b=some (bG out)) (a:n=out.length):view σ fr vd (.sl b n 0 n)=some (iL out):=by
 subst a;exact ow h (by split<;>simp) rfl
theorem ajl (v:Qv) (d:v.n.Ok) (x i:Int) (e:0<=x/\x<(v.K.length:Int)) (h:0<=i/\i<v.n.af) (j:v.n.rT (ix v.K x)) (u:(ix v.K x).length<=1000):LX L Hb [v.av,.int x,.int i] [] (λr τ=>bV τ true r=some (iL ((ix v.K x).map λs=>ix (ix v.n.inner s) i))):=by
 refine agv rfl ?_;have w:=d.lens;simp[-ag,e.1,e.2];generalize ix v.K x=l at *;refine aM (λk:Nat=>[(3,.int k),(6,.sl 0 k 0 k)]) (λk=>[bG ((l.take k).map λs=>ix (ix v.n.inner s) i)]) (λk=>k<=l.length) (λk=>l.length-k) 0 (by simp[a8]) (by omega) ?_
 intro k k0
 by_cases g:k<l.length
 .have b:=j _ (aO (l:=l) (n:=(k:Int)) (by omega) (by omega))
  have m:=(d.row _ b.1 b.2).2.2.1;have o:=aB (show ix l (k:Int)<(v.n.inner.length:Int)by omega)
  have p:=aB (show i<((ix v.n.inner (ix l (k:Int))).length:Int)by omega)
  have a:min k l.length=k:=Nat.min_eq_left (by omega)
  simp[-ag,-List.map_take,g,b.1,o,p,h.1,a];exact⟨by split<;>rfl,by omega,by omega,az (k+1) (by simp) (by rw[jm g];simp) (by omega) (by omega)⟩
 .have q:k=l.length:=by omega
  subst q;simp[-ag];exact yn rfl (by simp)
def al.o9 (n:al) (plc y:List Int) (c r s:Int):Int:=
 ix (ix (ix n.pop (ix y (ix plc (ix (ix n.call s) c)))) (ix (ix n.push s) c)) r
theorem ajm (v:Qv) (b:v.n.Ok) (x c y r:Int) (m:0<=x/\x<(v.K.length:Int)) (p:0<=y/\y<(v.K.length:Int)) (h:0<=c/\c<v.n.calls) (q:0<=r/\r<v.n.aj) (u:v.n.rT (ix v.K x)) (j:v.n.rT (ix v.K y)) (F:(ix v.K x).length<=1000)
  (w:∀s,0<=s->s<(v.n.accept.length:Int)->ix (ix v.n.call s) c<(v.plc.length:Int)/\0<=ix v.plc (ix (ix v.n.call s) c)/\ix v.plc (ix (ix v.n.call s) c)<((ix v.K y).length:Int)):LX L Hn [v.av,.int x,.int c,.int y,.int r] [] (λz τ=>bV τ true z=some (iL ((ix v.K x).map (v.n.o9 v.plc (ix v.K y) c r)))):=by
 refine agZ rfl ?_;have G:=b.lens;simp[-ag,m.1,m.2];generalize ix v.K x=l at *;refine aM (λk:Nat=>[(5,.int k),(9,.sl 0 k 0 k)]) (λk=>[bG ((l.take k).map (v.n.o9 v.plc (ix v.K y) c r))]) (λk=>k<=l.length) (λk=>l.length-k) 0 (by simp[a8]) (by omega) ?_
 intro k k0
 by_cases o:k<l.length
 .have a:=u _ (aO (l:=l) (n:=(k:Int)) (by omega) (by omega))
  have tk:=jm o;have A:=b.row _ a.1 a.2;have d:=w _ a.1 a.2;have B:=b.call _ _ a.1 a.2 h.1 h.2;have e:=b.push _ _ a.1 a.2 h.1 h.2;have i:=j _ (aO d.2.1 d.2.2);have C:=b.row _ i.1 i.2;have D:=b.tD _ _ i.1 i.2 e.1 e.2;have g:min k l.length=k:=Nat.min_eq_left (by omega)
  simp[-ag,-List.map_take,o,a.1,g];refine⟨p,by omega,by omega,by omega,by omega,by omega,by omega,by omega,by omega,by omega,by split<;>rfl,by omega,by omega,az (k+1) (by simp) (by rw[tk];simp[al.o9]) (by omega) (by omega)⟩
 .have E:k=l.length:=by omega
  subst E;simp[-ag];exact yn rfl (by simp)
def pP:Nat->List (List Int)->List (AV×AV)
 |_,[]=>[]
 |i,l::K=>(.str (eH l),.int i)::pP (i+1) K
theorem Bz:∀(i:Nat) (K:List (List Int)) (l:List Int),pP i (K ++ [l])=pP i K ++ [(.str (eH l),.int ((i+K.length:Nat):Int))]
 |i,[],l=>by simp[pP]
 |i,k::K,l=>by
  have:=Bz (i+1) K l;simp only[jI,pP,this,bX];rw[show i+1+K.length=i+(K.length+1)by omega]
def dx (l:List Int):Prop:=∀x∈l,0<=x/\x<=255
theorem vw{l:List Int}(b:dx l):∀(i:Nat) (K:List (List Int)),(∀k∈K,dx k)->cy (pP i K) (.str (eH l))=some (if l∈K then some (.int ((i+K.idxOf l:Nat):Int))else none)
 |i,[],_=>rfl
 |i,k::K,h=>by
  have d:=vw b (i+1) K λr g=>h r (by simp[g])
  simp only[pP,cy,dT]
  by_cases a:k=l
  .subst a;simp[List.idxOf_cons]
  .have j:decide (eH l=eH k)=false:=by
    rw[uV];intro m;exact a (Bj b (h k (by simp)) m).symm
   rw[j];simp only[d];have n:¬l=k:=λe=>a e.symm;have o:(k==l)=false:=by simpa using a
   simp[n,List.idxOf_cons,o];split
   .congr 2;omega
   .rfl
inductive Tg where
 |v|pl|mp|ls|aH|bl
 |rw(x:Nat)
 |cl (x c:Nat)
 |old (i:Nat)
 deriving DecidableEq
def cE (b k:Nat):AV:=if k=0 then .ae else .sl b k 0 k
def wI (l:List Int):AV:=.au (decide (l ≠ [])) (l.map .int)
structure Vd where
 n:al
 plc:List Int
 K:List (List Int)
 IN:List (List Int)
 BL:List (List (List (List Int)))
abbrev Vd.vcs (D:Vd):Qv:=⟨D.n,D.plc,D.K,D.IN,D.BL⟩
def Vd.row (D:Vd) (x:Nat):List (List (List Int)):=ix D.BL (x:Int)
def Vd.bM (D:Vd) (x c:Nat):List (List Int):=ix (D.row x) (c:Int)
def Vd.box (D:Vd) (p:Tg->Nat):ah:=⟨some 16,[.int D.n.calls,.int D.n.af,.int D.n.aj,.int D.n.stack,.int D.n.start,bL D.n.accept,bN D.n.call,bN D.n.push,bN D.n.inner,dR D.n.pop,iL D.n.aZ,.sl (p .pl) D.plc.length 0 D.plc.length,.sl (p .ls) D.K.length 0 D.K.length,.cC (p .mp),cE (p .aH) D.IN.length,cE (p .bl) D.BL.length],.live⟩
def Vd.sC (D:Vd) (p:Tg->Nat):ah:=⟨none,(List.range D.BL.length).map λx=>.sl (p (.rw x)) (D.row x).length 0 (D.row x).length,.live⟩
def Vd.jQ (D:Vd) (p:Tg->Nat) (x:Nat):ah:=⟨none,(List.range (D.row x).length).map λc=>cE (p (.cl x c)) (D.bM x c).length,.live⟩
def Vd.cont (D:Vd) (O:Nat->Option ah) (p:Tg->Nat):Tg->Option ah
 |.v=>some (D.box p)
 |.pl=>some (Zb D.plc)
 |.mp=>some ⟨some 0,[],.map (pP 0 D.K)⟩
 |.ls=>some ⟨none,D.K.map iL,.live⟩
 |.aH=>if D.IN=[]then none else some ⟨none,D.IN.map wI,.live⟩
 |.bl=>if D.BL=[]then none else some (D.sC p)
 |.rw x=>if x<D.BL.length then some (D.jQ p x)else none
 |.cl x c=>if x<D.BL.length/\c<(D.row x).length/\D.bM x c ≠ []then some ⟨none,(D.bM x c).map wI,.live⟩else none
 |.old i=>O i
structure VS (D:Vd) (O:Nat->Option ah) (p:Tg->Nat) (σ:List ah):Prop where
 has:∀t B,D.cont O p t=some B->ak σ (p t)=some B
 inj:∀t u A B,D.cont O p t=some A->D.cont O p u=some B->p t=p u->t=u
 old:∀i,p (.old i)=i
variable{B:ah}
theorem tG{u:Nat}(h:ak σ b=some B) (a:B.cells.length=u) (d:B.st.eT=true):upto σ b u=some B:=by
 unfold upto;rw[h];cases e:B.st<;>simp_all
variable{D:Vd}{O:Nat->Option ah}{p:Tg->Nat}{t:Tg}{A:ah}
theorem VS.ne(h:VS D O p σ){u:Tg}(U:D.cont O p t=some A) (V:D.cont O p u=some B) (hn:t ≠ u):p t ≠ p u:=λe=>hn (h.inj t u A B U V e)
theorem VS.lt(h:VS D O p σ)(U:D.cont O p t=some A):p t<σ.length:=dw (h.has t A U)
variable{D': Vd}{τ:List ah}
theorem VS.qw{D: Vd}(h:VS D O p σ) (V:∀t B,D'.cont O p t=some B->∃A,D.cont O p t=some A) (hb:∀t B,D'.cont O p t=some B->ak τ (p t)=some B):VS D' O p τ:=
 ⟨hb,λt u A B ht U e=>by
  obtain⟨A', hA⟩:=V t A ht;obtain⟨B', hB⟩:=V u B U;exact h.inj t u A' B' hA hB e,h.old⟩
def rU (O:Nat->Option ah) (b:Nat) (B:ah):Nat->Option ah:=λi=>if i=b then some B else O i
theorem tH(a:t ≠ .old b):D.cont (rU O b B) p t=D.cont O p t:=by
 cases t<;>try rfl
 rename_i i;show rU O b B i=O i;unfold rU;rw[aa λe=>a (by rw[e])]
theorem vy:D.cont (rU O b B) p (.old b)=some B:=ab rfl
theorem VS.push(h:VS D O p σ) (B:ah):VS D (rU O σ.length B) p (σ ++ [B]):=by
 refine⟨λt A U=>?_,λt u A A' U V e=>?_,h.old⟩
 .by_cases ht:t = .old σ.length
  .subst ht
   rw[vy]at U;rw[h.old,<-U];exact gJ
  .rw[tH ht]at U
   exact fU (h.has t A U)
 .by_cases ht:t = .old σ.length
  .by_cases hu:u = .old σ.length
   .rw[ht,hu]
   .rw[tH hu]at V
    have:=h.lt V;rw[<-e,ht,h.old]at this;omega
  .by_cases hu:u = .old σ.length
   .rw[tH ht]at U
    have:=h.lt U;rw[e,hu,h.old]at this;omega
   .rw[tH ht]at U
    rw[tH hu]at V;exact h.inj t u A A' U V e
theorem VS.put(h:VS D O p σ)(hA:O b=some A) (B:ah):VS D (rU O b B) p (ar σ b B):=by
 have hb:D.cont O p (.old b)=some A:=hA;have cL:=h.lt hb;rw[h.old]at cL;refine⟨λt C U=>?_,λt u C C' U hC' e=>?_,h.old⟩
 .by_cases V:t = .old b
  .subst V
   rw[vy]at U;rw[h.old,<-U];exact cv cL
  .rw[tH V]at U
   have:=h.ne hb U (Ne.symm V);rw[h.old]at this;rw[aK this];exact h.has t C U
 .have key:∀t C,D.cont (rU O b B) p t=some C->∃C', D.cont O p t=some C' :=λt C U=>by
   by_cases V:t = .old b
   .subst V;exact⟨A,hb⟩
   .rw[tH V]at U;exact⟨C,U⟩
  obtain⟨_,h1⟩:=key t C U;obtain⟨_,h2⟩:=key u C' hC';exact h.inj t u _ _ h1 h2 e
theorem VS.yo{O V : Nat->Option ah}(h:VS D O p σ) (ho:∀i B,V i=some B->O i=some B):VS D V p σ:=by
 have key:∀t B,D.cont V p t=some B->D.cont O p t=some B:=λt B U=>by
  cases t<;>try exact U
  exact ho _ _ U
 exact⟨λt B U=>h.has t B (key t B U),λt u A B hA U e=>h.inj t u A B (key t A hA) (key u B U) e,h.old⟩
def Vd.add (D:Vd) (l:List Int):Vd:=if l∈D.K then D else {D with K:=D.K ++ [l]}
theorem Qw (D:Vd) (O:Nat->Option ah) (p:Tg->Nat) (σ:List ah) (h:VS D O p σ) (l:List Int) (q:dx l) (C:∀k∈D.K,dx k) (E:l.length<=1000) (F:D.K ≠ []) (I:D.K.length<=100000) :
  LX L vq [.ptr (p .v) 16 0,iL l] σ (λr τ=>r = .int (D.K.idxOf l)/\VS (D.add l) O p τ/\τ.length=σ.length):=by
 refine ON rfl ?_;have o:=h.has .v _ rfl;have g:=h.has .mp _ rfl;have i:=h.has .ls _ rfl;have s:=HW l q (by omega)
 have n:=vw q 0 D.K C;have j:∀x,aW 1 (.str x)=true:=λ_=>rfl;unfold Vd.box at o
 by_cases m:l∈D.K
 .rw[ab m]at n
  simp[-ag,o,g,i,s,n,j];rw[Vd.add,ab m];exact h
 .rw[aa m]at n
  have w:p .mp ≠ p .v:=h.ne (t:=.mp) (u:=.v) rfl rfl (by simp)
  have y:p .mp ≠ p .ls:=h.ne (t:=.mp) (u:=.ls) rfl rfl (by simp)
  have z:p .ls ≠ p .v:=h.ne (t:=.ls) (u:=.v) rfl rfl (by simp)
  have b1:∀(Q:List ah) B,ak (ar Q (p .mp) B) (p .v)=ak Q (p .v):=λQ B=>aK w;have G:∀(Q:List ah) B,ak (ar Q (p .mp) B) (p .ls)=ak Q (p .ls):=λQ B=>aK y;have H:∀(Q:List ah) B,ak (ar Q (p .ls) B) (p .v)=ak Q (p .v):=λQ B=>aK z;have J:D.K.idxOf l=D.K.length:=List.idxOf_eq_length m;simp[-ag,o,g,i,s,n,j,b1,G,H];refine⟨by omega,by omega,?_,by rw[bQ,bQ,bQ]⟩
  rw[Vd.add,aa m];have A:∀t,t ≠ .v->t ≠ .ls->t ≠ .mp->Vd.cont {D with K:=D.K ++ [l]} O p t=D.cont O p t:=λt b d e=>by
   cases t<;>first|rfl|exact absurd rfl b|exact absurd rfl d|exact absurd rfl e
  refine h.qw (λt B a=>?_) λt B a=>?_
  .by_cases b:t = .v
   .subst b;exact⟨_,rfl⟩
   by_cases d:t = .ls
   .subst d;exact⟨_,rfl⟩
   by_cases e:t = .mp
   .subst e;exact⟨_,rfl⟩
   rw[A t b d e]at a;exact⟨B,a⟩
  .by_cases b:t = .v
   .subst b
    rw[cv (by rw[bQ,bQ];exact h.lt (t:=.v) rfl)]
    rw[<-a];simp[Vd.cont,Vd.box]
   by_cases d:t = .ls
   .subst d
    rw[aK z.symm,cv (by rw[bQ];exact h.lt (t:=.ls) rfl),<-a]
    simp[Vd.cont]
   by_cases e:t = .mp
   .subst e
    rw[aK w.symm,aK y.symm,cv (h.lt (t:=.mp) rfl),<-a];simp[Vd.cont,Bz]
   rw[A t b d e]at a;rw[aK (h.ne (t:=.v) rfl a (Ne.symm b)),aK (h.ne (t:=.ls) rfl a (Ne.symm d)),aK (h.ne (t:=.mp) rfl a (Ne.symm e))];exact h.has t B a
variable{α:Type}
theorem pd{b:Type} [Inhabited α]{f:α->b}{l:List α}:(List.range l.length).map (λ(x:Nat)=>f (ix l (x:Int)))=l.map f:=by
 apply jJ (by simp)
 intro i a d;simp at a;simp[aG a]
variable{k:Nat}
theorem pe{f g:α->AV}{n:Nat}{xs:List α}(h:xs ≠ []->ak σ b=some ⟨none,xs.map f,.live⟩) (a:n=xs.length) (i:∀x∈xs,view σ fr k (f x)=some (g x)) :
  view σ fr (k+1) (cE b n)=some (.au false (xs.map g)):=by
 by_cases d:xs=[]
 .subst d;subst a;rfl
 .have:n ≠ 0:=by subst a;exact λe=>d (dM e)
  unfold cE;rw[aa this];exact fj (h d) rfl a i
theorem cw{f:AV->Option AV}{a b:AV}{l m:List AV}(d:f a=some b) (e:bI f l=some m):bI f (a::l)=some (b::m):=by
 simp only[bI,d,e]
theorem VS.view(h:VS D O p σ):Ab.view σ false vd (.ptr (p .v) 16 0)=some D.vcs.av:=by
 have hv:=h.has .v _ rfl;have hu:upto σ (p .v) 16=some (D.box p):=tG hv rfl rfl;show Ab.view σ false (11+1) _=_;unfold Ab.view;simp only[hu];have hp:part (D.box p).cells 0 (D.box p).k=some (.agg (D.box p).cells):=rfl;rw[ab (by rfl),hp]
 have hm:bI (Ab.view σ false 10) (D.box p).cells=some [.int D.n.calls,.int D.n.af,.int D.n.aj,.int D.n.stack,.int D.n.start,bL D.n.accept,bN D.n.call,bN D.n.push,bN D.n.inner,dR D.n.pop,iL D.n.aZ,iL D.plc,bN D.K,.oT,bN D.IN,mB D.BL]:=by
  unfold Vd.box;refine cw rfl (cw rfl (cw rfl (cw rfl (cw rfl (cw rfl (cw rfl (cw rfl (cw rfl (cw rfl (cw rfl (cw ?_ (cw ?_ (cw rfl (cw ?_ (cw ?_ rfl)))))))))))))))
  .exact fj (k:=9) (h.has .pl _ rfl) rfl rfl λ_ _=>rfl
  .exact fj (k:=9) (h.has .ls _ rfl) rfl rfl λ_ _=>rfl
  .exact pe (k:=9) (λhx=>h.has .aH _ (aa hx)) rfl λ_ _=>rfl
  .have e:mB D.BL = .au false ((List.range D.BL.length).map λ(x:Nat)=>dR (D.row x)):=by
    unfold Vd.row;rw[pd (f:=dR)]
   rw[e];refine pe (k:=9) (f:=λx=>.sl (p (.rw x)) (D.row x).length 0 (D.row x).length) (λhx=>h.has .bl _ (aa λe=>hx (by rw[e];rfl))) (by simp) λx hx=>?_
   have U :=bT.1 hx;have e:dR (D.row x) = .au false ((List.range (D.row x).length).map λ(c:Nat)=>bN (D.bM x c)):=by
    unfold Vd.bM;rw[pd (f:=bN)]
   rw[e];refine fj (k:=8) (f:=λc=>cE (p (.cl x c)) (D.bM x c).length) (h.has (.rw x) _ (ab U)) rfl (by simp) λc hc=>?_
   exact pe (k:=7) (λhz=>h.has (.cl x c) _ (ab ⟨U, bT.1 hc,hz⟩)) rfl λ_ _=>rfl
 have V:Ab.view σ false 11 (.agg (D.box p).cells)=some (.agg [.int D.n.calls,.int D.n.af,.int D.n.aj,.int D.n.stack,.int D.n.start,bL D.n.accept,bN D.n.call,bN D.n.push,bN D.n.inner,dR D.n.pop,iL D.n.aZ,iL D.plc,bN D.K,.oT,bN D.IN,mB D.BL]):=by
  show Ab.view σ false (10+1) _=_;unfold Ab.view;simp only[hm]
 simp only[V]
def gL (K:List (List Int)) (l:List Int):List (List Int):=if l∈K then K else K ++ [l]
def aD (K vs:List (List Int)):List (List Int):=vs.foldl gL K
variable{l:List Int}
theorem Qx:D.add l={D with K:=gL D.K l}:=by
 unfold Vd.add gL;split<;>rfl
variable{K vs:List (List Int)}
theorem yp:aD K (vs ++ [l])=gL (aD K vs) l:=by simp[aD]
theorem HX (K:List (List Int)) (l:List Int):∃r,gL K l=K++r/\r.length<=1:=by
 unfold gL;split
 .exact⟨[],by simp,by simp⟩
 .exact⟨[l],rfl,by simp⟩
theorem vz:∀(vs K:List (List Int)),∃r,aD K vs=K++r/\r.length<=vs.length
 | [],K=>⟨[],by simp[aD],by simp⟩
 |v::vs,K=>by
  obtain⟨r,a,e⟩:=HX K v;obtain⟨b, d,g⟩:=vz vs (gL K v);exact⟨r++b, by show aD (gL K v) vs=_;rw[d,a,iw],by simp;omega⟩
theorem ajn:l∈gL K l:=by
 unfold gL;split
 .assumption
 .simp
variable{r:List (List Int)}
theorem Qy(h:l∈K):(K++r).idxOf l=K.idxOf l:=by
 rw[List.idxOf_append,ab h]
theorem Qz{m:List Int}(h:l∈K):(gL K m).idxOf l=K.idxOf l:=by
 obtain⟨r,a,_⟩:=HX K m;rw[a,Qy h]
theorem ajo:(gL K l).idxOf l=K.idxOf l:=by
 by_cases h:l∈K
 .exact Qz h
 .unfold gL
  rw[aa h,List.idxOf_append,aa h,List.idxOf_eq_length h];simp
theorem rV:∀{vs K:List (List Int)}{l:List Int},l∈vs\/l∈K->l∈aD K vs
 | [],K,l,h=>by simpa[aD]using h
 |v::vs,K,l,h=>by
  show l∈aD (gL K v) vs;rcases h with h|h
  .rcases b5.1 h with rfl|h
   .exact rV (.inr ajn)
   .exact rV (.inl h)
  .obtain⟨r,a,_⟩:=HX K v
   exact rV (.inr (by rw[a];simp[h]))
theorem BA{P:List Int->Prop}:∀{vs K:List (List Int)},(∀k∈K,P k)->(∀v∈vs,P v)->∀k∈aD K vs,P k
 | [],K,h,_=>h
 |v::vs,K,h,b=>by
  refine BA (vs:=vs) (K:=gL K v) (λk a=>?_) λw d=>b w (by simp[d])
  unfold gL at a;split at a
  .exact h k a
  .rcases dQ.1 a with a|a
   .exact h k a
   .simp at a;subst a;exact b k (by simp)
def idxs (K vs:List (List Int)):List Int:=vs.map λl=>((K.idxOf l:Nat):Int)
theorem BB:idxs (aD K (vs ++ [l])) (vs ++ [l])=idxs (aD K vs) vs ++ [(((aD K vs).idxOf l:Nat):Int)]:=by
 unfold idxs;rw[jK,yp]
 congr 1
 .exact fv λm a=>by rw[Qz (rV (.inl a))]
 .simp[ajo]
theorem QA{σ:List ah}:∀(ws:List Int) (acc:List Nat),(ws.map AV.int).foldl (λacc y=>reach σ 11 y acc) acc=acc
 | [],_=>rfl
 |w::ws,acc=>by simp only[cJ,l0];exact QA ws acc
theorem QB{b:Nat}{B:ah}:∀{σ:List ah}{n:Nat},ak σ b=some B->bC (λc=>[n+b].contains c) n σ=ar σ b ⟨B.k,B.cells,.dead⟩
 | [],_,h=>by simp[ak]at h
 |A::σ,n,h=>by
  have a:∀(τ:List ah) (m:Nat),n+b<m->bC (λc=>[n+b].contains c) m τ=τ:=by
   intro τ
   induction τ with
   |nil=>intro m _;rfl
   |cons C τ d=>
    intro m i;simp only[bC];rw[d (m+1) (by omega)]
    rw[aa (by simp;omega)]
  cases b with
  |zero=>
   have e:A=B:=by simpa[ak]using h
   subst e;simp only[bC,ar];rw[a σ (n+1) (by omega)]
   simp
  |succ b=>
   have g:ak σ b=some B:=h;have:=QB (n:=n+1) g;simp only[bC,ar];rw[show n+(b+1)=n+1+b by omega,this]
   rw[aa (by simp;omega)]
theorem yq{vars:List AV}{d:Option (Nat×AV)}{n:Nat}{Q:Ex->St->Prop}(a:ak σ b=some (bG l)) (g:nth vars k = .sl b n 0 n) (e:n=l.length) (h:Q .eU ⟨eu vars k (.au (decide (l ≠ [])) (l.map .int)),d,ar σ b ⟨none,l.map .int,.dead⟩⟩):W L (.kO k) ⟨vars,d,σ⟩ Q:=by
 have i:reach σ vd (.sl b n 0 n) []=[b]:=by
  show reach σ (11+1) (.sl b n 0 n) []=[b];unfold reach;simp only[List.contains_nil,eo,eJ,a];exact QA l [b]
 have hd:=QB (n:=0) a;rw[gq]at hd;have j:view (bC (λc=>!([b]:List Nat).contains c) 0 σ) false vd (.sl b n 0 n)=some (iL l):=by
  refine yn ?_ e;rw[mQ,a];simp
 have m:gy σ (.sl b n 0 n)=decide (l ≠ []):=by
  have:upto σ b n=some (bG l):=by
   refine tG a (by simp[e]) ?_
   show eM.eT (if l=[]then .jq else .live)=true
   split<;>rfl
  simp only[gy,this]
  by_cases h:l=[]<;>simp[h]
 refine⟨0,.eU,_,?_,h⟩;simp only[exec,g,i,j,m,hd]
 by_cases h:l=[]
 .subst h;simp;rfl
 .simp[h]
structure rW (D:Vd):Prop where
 ok:D.n.Ok
 st:∀k∈D.K,D.n.rT k/\k.length=D.n.aZ.length
 el:D.n.aZ.length<=128
 plc:∀s c,0<=s->s<(D.n.accept.length:Int)->0<=c->c<D.n.calls->ix (ix D.n.call s) c<(D.plc.length:Int)/\0<=ix D.plc (ix (ix D.n.call s) c)/\ix D.plc (ix (ix D.n.call s) c)<(D.n.aZ.length:Int)
variable{n:al}
theorem yr(a:n.Ok)(h:n.rT l):dx l:=λx b=>by
 have:=h x b;have:=a.cP;omega
def Vd.dK (D:Vd) (x c y:Nat):List (List Int):=(List.range D.n.aj.toNat).map λ(r:Nat)=>(ix D.K (x:Int)).map (D.n.o9 D.plc (ix D.K (y:Int)) c r)
variable{x:Nat}
theorem rW.kx(h:rW D)(hx:x<D.K.length):D.n.rT (ix D.K (x:Int))/\(ix D.K (x:Int)).length=D.n.aZ.length:=h.st _ (aO (by omega) (by omega))
variable{y:Nat}
theorem rW.o9(h:rW D){c r:Int}(hx:x<D.K.length) (hy:y<D.K.length) (U:0<=c/\c<D.n.calls) (hr:0<=r/\r<D.n.aj) :
  D.n.rT ((ix D.K (x:Int)).map (D.n.o9 D.plc (ix D.K (y:Int)) c r))/\((ix D.K (x:Int)).map (D.n.o9 D.plc (ix D.K (y:Int)) c r)).length=D.n.aZ.length:=by
 refine⟨λs hs=>?_,by rw[cY];exact(h.kx hx).2⟩
 obtain⟨t,ht,rfl⟩:=cB.1 hs;have h1:=(h.kx hx).1 t ht;obtain⟨p1,p2,p3⟩:=h.plc t c h1.1 h1.2 U.1 U.2;have V:=h.kx hy;have h2:=V.1 _ (aO p2 (by omega))
 have h3:=h.ok.push t c h1.1 h1.2 U.1 U.2;exact h.ok.pop _ _ r h2.1 h2.2 h3.1 h3.2 hr.1 hr.2
theorem rW.aD(h:rW D)(U:∀v∈vs,D.n.rT v/\v.length=D.n.aZ.length):rW {D with K:=aD D.K vs}:=
 ⟨h.ok,BA h.st U,h.el,h.plc⟩
def Vd.comb (D:Vd) (x c y:Nat):Vd:={D with K:=aD D.K (D.dK x c y),BL:=D.BL.set x ((D.row x).set c (D.bM x c ++ [idxs (aD D.K (D.dK x c y)) (D.dK x c y)]))}
theorem iD [Inhabited α]{l:List α}{v:α}(b:k<l.length) (j:Nat):ix (l.set k v) (j:Int)=if j=k then v else ix l (j:Int):=by
 by_cases a:j<l.length
 .rw[aG (by simpa using a),aG a,rh]
  by_cases e:k=j
  .rw[ab e,ab e.symm]
  .rw[aa e,aa (Ne.symm e)]
 .rw[aa (by omega)]
  unfold ix;rw[eE,eE,jh (by simp;omega),jh (by simp;omega)]
def Vd.cU (D:Vd) (x c:Nat) (w:List (List Int)):Vd:={D with BL:=D.BL.set x ((D.row x).set c w)}
variable{c:Nat}{w:List (List Int)}
theorem QC(a:x<D.BL.length) (y:Nat):(D.cU x c w).row y=if y=x then(D.row x).set c w else D.row y:=iD a y
theorem tI(a:x<D.BL.length) (y:Nat):((D.cU x c w).row y).length=(D.row y).length:=by
 rw[QC a];split
 .rename_i e;subst e;simp
 .rfl
theorem vA(a:x<D.BL.length) (b:c<(D.row x).length) (y d:Nat):(D.cU x c w).bM y d=if y=x/\d=c then w else D.bM y d:=by
 unfold Vd.bM;rw[QC a]
 by_cases e:y=x
 .subst e
  rw[ab rfl,iD b];simp
 .rw[aa e,aa λh=>e h.1]
variable{p': Tg->Nat}
theorem QD(b:x<D.BL.length) (j:c<(D.row x).length){p: Tg->Nat}(a:∀t,t ≠ .cl x c->p' t=p t)(m:t ≠ .rw x) (n:t ≠ .cl x c):(D.cU x c w).cont O p' t=D.cont O p t:=by
 have g:(D.cU x c w).BL.length=D.BL.length:=by simp[Vd.cU]
 have o:(D.cU x c w).BL=[]↔D.BL=[]:=by rw[<-List.length_eq_zero_iff,g,List.length_eq_zero_iff]
 cases t with
 |v=>
  show some ((D.cU x c w).box p')=some (D.box p);unfold Vd.box;rw[g,a .pl (by simp),a .ls (by simp),a .mp (by simp),a .aH (by simp),a .bl (by simp)]
  rfl
 |pl=>rfl
 |mp=>rfl
 |ls=>rfl
 |aH=>rfl
 |bl=>
  show(if(D.cU x c w).BL=[]then none else some ((D.cU x c w).sC p'))=if D.BL=[]then none else some (D.sC p)
  simp only[o];unfold Vd.sC;rw[g];simp only[tI b,λy=>a (.rw y) (by simp)]
 |rw y=>
  show(if y<(D.cU x c w).BL.length then some ((D.cU x c w).jQ p' y)else none)=if y<D.BL.length then some (D.jQ p y)else none
  rw[g];have l:¬y=x:=λe=>m (by rw[e])
  unfold Vd.jQ;have h:∀d,p' (.cl y d)=p (.cl y d):=λd=>a _ (by simp[l])
  simp only[tI b,vA b j,l,false_and,eJ,h]
 |cl y d=>
  have q:¬(y=x/\d=c):=λe=>n (by rw[e.1,e.2])
  show(if y<(D.cU x c w).BL.length/\d<((D.cU x c w).row y).length/\(D.cU x c w).bM y d ≠ []then some (⟨none,((D.cU x c w).bM y d).map wI,.live⟩:ah)else none)=if y<D.BL.length/\d<(D.row y).length/\D.bM y d ≠ []then some ⟨none,(D.bM y d).map wI,.live⟩else none
  rw[g,tI b,vA b j,aa q]
 |old i=>rfl
theorem VS.cU{p: Tg->Nat}(h:VS D O p σ)(hx:x<D.BL.length) (hc:c<(D.row x).length) (V:∀t,t ≠ .cl x c->p' t=p t) (hw:w ≠ [])
  (qR:ak τ (p' (.cl x c))=some ⟨none,w.map wI,.live⟩) (BC:ak τ (p (.rw x))=some ((D.cU x c w).jQ p' x))
  (hot:∀t B,t ≠ .rw x->t ≠ .cl x c->D.cont O p t=some B->ak τ (p t)=some B)
  (jY:∀t B,t ≠ .cl x c->D.cont O p t=some B->p t ≠ p' (.cl x c)):VS (D.cU x c w) O p' τ:=by
 have hl:(D.cU x c w).BL.length=D.BL.length:=by simp[Vd.cU]
 have key:∀t B,t ≠ .cl x c->(D.cU x c w).cont O p' t=some B->∃A,D.cont O p t=some A:=λt B ht U=>by
  by_cases h1:t = .rw x
  .subst h1;exact⟨_,ab hx⟩
  .rw[QD hx hc V h1 ht]at U;exact⟨B,U⟩
 refine⟨λt B U=>?_,λt u A B hA U e=>?_,λi=>by rw[V _ (by simp)];exact h.old i⟩
 .by_cases h2:t = .cl x c
  .subst h2
   have:(D.cU x c w).cont O p' (.cl x c)=some ⟨none,w.map wI,.live⟩:=by
    show(if x<(D.cU x c w).BL.length/\c<((D.cU x c w).row x).length/\(D.cU x c w).bM x c ≠ []then some (⟨none,((D.cU x c w).bM x c).map wI,.live⟩:ah)else none)=_
    simp only[hl,tI hx,vA hx hc,and_self,dt];rw[ab ⟨hx,hc,hw⟩]
   rw[this]at U;rw[qR];exact U
  by_cases h1:t = .rw x
  .subst h1
   have:(D.cU x c w).cont O p' (.rw x)=some ((D.cU x c w).jQ p' x):=ab (by rw[hl];exact hx)
   rw[this]at U;rw[V _ h2,BC];exact U
  .rw[QD hx hc V h1 h2]at U
   rw[V _ h2];exact hot t B h1 h2 U
 .by_cases h1:t = .cl x c
  .by_cases h2:u = .cl x c
   .rw[h1,h2]
   .obtain⟨B', wi⟩:=key u B h2 U
    rw[h1,V _ h2]at e;exact absurd e.symm (jY u B' h2 wi)
  .obtain⟨A', zl⟩:=key t A h1 hA
   by_cases h2:u = .cl x c
   .rw[h2,V _ h1]at e
    exact absurd e (jY t A' h1 zl)
   .obtain⟨B', wi⟩:=key u B h2 U
    rw[V _ h1,V _ h2]at e;exact h.inj t u A' B' zl wi e
theorem QE{p: Tg->Nat}(a:x<D.BL.length) (b:c<(D.row x).length) (g:∀t,t ≠ .cl x c->p' t=p t) (j:w ≠ []) :
  (D.cU x c w).jQ p' x=⟨none,((List.range (D.row x).length).map λd=>cE (p (.cl x d)) (D.bM x d).length).set c (.sl (p' (.cl x c)) w.length 0 w.length),.live⟩:=by
 unfold Vd.jQ;rw[tI a]
 congr 1
 apply jJ (by simp)
 intro i l n;simp at l;rw[rh];simp only[k9,nI,vA a b]
 by_cases e:c=i
 .subst e
  rw[ab rfl];simp only[and_self,dt];exact aa λe=>j (dM e)
 .rw[aa e,aa λh=>e h.2.symm,g _ (by simp;exact λm =>e m.symm)]
theorem qz:∀{cs:List AV}{k:Nat}{x:AV},jN cs k [x]=cs.set k x
 | [],0,_=>rfl
 | [],_+1,_=>rfl
 |c::cs,0,x=>by cases cs<;>rfl
 |c::cs,k+1,x=>by rw[q8,<-qz (cs:=cs)]
theorem HY{row:List Int}:AV.au (!decide (row=[])) (row.map AV.int)=wI row:=by unfold wI;simp
theorem ajp (D:Vd) (O:Nat->Option ah) (p:Tg->Nat) (σ:List ah) (h:VS D O p σ) (U:rW D) (x c y:Nat) (hx:x<D.K.length) (hy:y<D.K.length) (hc:(c:Int)<D.n.calls) (a:x<D.BL.length) (g:c<(D.row x).length) (hK:D.K.length<=1000) (qR:(D.bM x c).length<=1000) :
  LX L xX [.ptr (p .v) 16 0,.int x,.int c,.int y] σ (λr τ=>r = .bF []/\∃p', p' .v=p .v/\VS (D.comb x c y) O p' τ):=by
 refine agw rfl ?_;have hn:=U.ok;have PY:=hn.aj;have V:=h.has .v _ rfl;unfold Vd.box at V;have KW:∀B:ah,ak (σ ++ [B]) (p .v)=_:=λB=>fU (r:=[B]) V;simp[-ag,KW];have rl:(D.dK x c y).length=D.n.aj.toNat:=by simp[Vd.dK]
 refine aM (λq:Nat×List ah=>[(4,.int q.1),(6,.sl σ.length q.1 0 q.1)]) (λq=>q.2)
  (λq=>q.1<=D.n.aj.toNat/\VS {D with K:=aD D.K ((D.dK x c y).take q.1)} (rU O σ.length (bG (idxs (aD D.K ((D.dK x c y).take q.1)) ((D.dK x c y).take q.1)))) p q.2) (λq=>D.n.aj.toNat-q.1) (0,σ ++ [bG []]) (by simp[a8]) ⟨by simp,by simpa[aD,idxs]using h.push _⟩ ?_
 rintro⟨r,Z⟩ ⟨r0,W⟩;dsimp only at r0 W ⊢;generalize I:D.dK x c y=vs at *;obtain⟨ext,o,he2⟩:=vz (vs.take r) D.K;have J:ix (aD D.K (vs.take r)) (x:Int)=ix D.K (x:Int):=by rw[o,aG (by simp;omega),aG hx,List.getElem_append_left]
 have M:ix (aD D.K (vs.take r)) (y:Int)=ix D.K (y:Int):=by rw[o,aG (by simp;omega),aG hy,List.getElem_append_left]
 have J6:=W.view;have hb:=W.has (.old σ.length) _ vy;rw[W.old]at hb
 by_cases hr:r<D.n.aj.toNat
 .have N:(r:Int)<D.n.aj:=by omega
  have R:∀v∈vs,D.n.rT v/\v.length=D.n.aZ.length:=λv V=>by
   rw[<-I]at V;obtain⟨r', hr', rfl⟩:=cB.1 V;have:=bT.1 hr';exact U.o9 hx hy ⟨by omega,hc⟩ ⟨by omega,by omega⟩
  have hDr:=U.aD (vs:=vs.take r) λv V=>R v (List.mem_of_mem_take V);have xF:ix vs (r:Int)=(ix D.K (x:Int)).map (D.n.o9 D.plc (ix D.K (y:Int)) c r):=by
   rw[<-I,Vd.dK,iT (by omega) (by simp;omega)]
   simp[aG (show r<(List.range D.n.aj.toNat).length by simp;omega)]
  have hlx:=U.kx hx;have hly:=U.kx hy;have Ei:=U.el;have hx1:(x:Int)<((aD D.K (vs.take r)).length:Int):=by rw[o];simp;omega
  have hy1:(y:Int)<((aD D.K (vs.take r)).length:Int):=by rw[o];simp;omega
  have hKl:(aD D.K (vs.take r)).length<=2000:=by rw[o,aY];have:(vs.take r).length<=r:=List.length_take_le r vs;omega
  have hA:=ajm (Vd.vcs {D with K:=aD D.K (vs.take r)}) hn x c y r ⟨by omega,hx1⟩ ⟨by omega,hy1⟩ ⟨by omega,hc⟩ ⟨by omega,N⟩ (by show D.n.rT (ix (aD D.K (vs.take r)) (x:Int));rw[J];exact hlx.1) (by show D.n.rT (ix (aD D.K (vs.take r)) (y:Int));rw[M];exact hly.1) (by show(ix (aD D.K (vs.take r)) (x:Int)).length<=1000;rw[J];omega)
   (λs s0 s1=>by show _/\_/\_<((ix (aD D.K (vs.take r)) (y:Int)).length:Int);rw[M,hly.2];exact U.plc s c s0 s1 (by omega) hc)
  obtain⟨z,UB,hA,C⟩:=dh hA;have C:bV UB true z=some (iL (ix vs (r:Int))):=by
   rw[C,xF];show some (iL ((ix (aD D.K (vs.take r)) (x:Int)).map (D.n.o9 D.plc (ix (aD D.K (vs.take r)) (y:Int)) c r)))=_;rw[J,M]
  have CS:=R _ (aO (l:=vs) (n:=(r:Int)) (by omega) (by omega))
  have tk:=jm (w:=vs) (k:=r) (by omega)
  have yt:=BB (K:=D.K) (vs:=vs.take r) (l:=ix vs (r:Int));generalize ix vs (r:Int)=l at *;have hN1:=Qw {D with K:=aD D.K (vs.take r)} _ p Z W l (yr hn CS.1) (λk hk=>yr hn (hDr.st k hk).1) (by omega) (λe=>by have h0:(aD D.K (vs.take r)).length=0:=(by dsimp only at e;rw[e];rfl);omega) (by dsimp only;omega)
  obtain⟨rv,τ,hN,rfl,P,hlen⟩:=dh hN1;clear hN1;have S:=P.has (.old σ.length) _ vy;rw[P.old]at S;have Q:(idxs (aD D.K (vs.take r)) (vs.take r)).length=r:=by simp[idxs];omega
  generalize idxs (aD D.K (vs.take r)) (vs.take r)=row at *;simp[-ag,N,J6,hA,C,hN,S];refine⟨⟨Q,by split<;>rfl⟩,by omega,by omega,az (r+1,_) (by simp[Q]) rfl ⟨by dsimp only;omega,?_⟩ (by dsimp only;omega)⟩
  dsimp only;rw[tk,yt,yp];rw[Qx]at P;have:=P.put (b:=σ.length) (if_pos rfl) (bG (row ++ [(((aD D.K (vs.take r)).idxOf l:Nat):Int)]));have e:bG (row ++ [(((aD D.K (vs.take r)).idxOf l:Nat):Int)])=⟨none,row.map AV.int ++ [.int (((aD D.K (vs.take r)).idxOf l:Nat):Int)],.live⟩:=by simp
  rw[<-e];refine this.yo λi B m=>?_;unfold rU at m ⊢;split
  .rename_i hi;simpa[hi]using m
  .rename_i hi;simpa[hi]using m
 .have er:r=D.n.aj.toNat:=by omega
  have N:¬(r:Int)<D.n.aj:=by omega
  rw[fc (by omega)]at W hb J6 o J M
  have Q:(idxs (aD D.K vs) vs).length=r:=by simp[idxs];omega
  simp[-ag,N];refine yq hb (by simp) Q.symm ?_
  have d:=W.put (b:=σ.length) (ab rfl) ⟨none,(idxs (aD D.K vs) vs).map .int,.dead⟩;generalize E:idxs (aD D.K vs) vs=row at *;generalize ajq:ar Z σ.length ⟨none,row.map .int,.dead⟩=j at *;have pG:=d.has .v _ rfl;unfold Vd.box at pG;have e1:cE (p .bl) D.BL.length = .sl (p .bl) D.BL.length 0 D.BL.length:=aa (by omega)
  have X:=d.has .bl _ (if_neg λe=>by have h0:D.BL.length=0:=(by dsimp only at e;rw[e];rfl);omega)
  have F:=d.has (.rw x) _ (ab a);unfold Vd.sC at X;unfold Vd.jQ at F;have A:∀K,Vd.row {D with K:=K}=D.row:=λ_=>rfl
  have G:∀K,Vd.bM {D with K:=K}=D.bM:=λ_=>rfl
  have e2:ix (List.range D.BL.length) (x:Int)=x:=by rw[aG (by simpa using a)];simp
  have e3:ix (List.range D.BL.length) (0+(x:Int)*1)=x:=by rw[<-e2];congr 1;omega
  have e4:ix (List.range (D.row x).length) (c:Int)=c:=by rw[aG (by simpa using g)];simp
  have e5:ix (List.range (D.row x).length) (0+(c:Int)*1)=c:=by rw[<-e4];congr 1;omega
  simp only[A,G]at X F;simp[-ag,pG,e1,X,F,A,G,e2,e3,e4,e5,a,g];have H:∀i B,O i=some B->rU (rU O σ.length (bG row)) σ.length ⟨none,row.map .int,.dead⟩ i=some B:=λi B m=>by
   have T:=h.lt (t:=.old i) m;rw[h.old]at T;simp[rU,show i ≠ σ.length by omega,m]
  have ajr:=d.lt (t:=.rw x) (ab a)
  by_cases C:D.bM x c=[]
  .have e6:cE (p (.cl x c)) (D.bM x c).length = .ae:=by rw[C];rfl
   have hpu:∀B:ah,ak (j ++ [B]) (p (.rw x))=_:=λB=>fU (r:=[B]) F;simp[-ag,e6,hpu,e2,e3,e4,e5,a,g];refine⟨by omega,λt=>if t = .cl x c then j.length else p t,by simp,?_⟩
   have hw:[row] ≠ []:=by simp
   have QF:∀t,t ≠ Tg.cl x c->(λt=>if t=Tg.cl x c then j.length else p t) t=p t:=λt ht=>aa ht
   have HZ:(λt=>if t=Tg.cl x c then j.length else p t) (.cl x c)=j.length:=ab rfl
   generalize (λt=>if t=Tg.cl x c then j.length else p t)=p' at *
   have ajs:p (.rw x)<(j ++ [(⟨none,[wI row],.live⟩:ah)]).length:=by simp;omega
   have Y:VS (Vd.cU {D with K:=aD D.K vs} x c [row]) O p' _:=(d.cU a g QF hw (τ:=ar (j ++ [⟨none,[wI row],.live⟩]) (p (.rw x)) ((Vd.cU {D with K:=aD D.K vs} x c [row]).jQ p' x)) (by rw[HZ,aK (by omega)];exact gJ) (by rw[cv ajs])
    (λt B T h2 m=>by rw[aK (d.ne (t:=.rw x) (ab a) m (Ne.symm T))];exact fU (d.has t B m))
    (λt B T m=>by have:=d.lt m;omega)).yo H
   rw[QE (D:={D with K:=aD D.K vs}) a g QF hw,HZ]at Y
   simp only[A,G]at Y;show VS (D.comb x c y) O p' _;unfold Vd.comb;rw[I,E,show(AV.sl j.length 1 0 1).cells=[AV.sl j.length 1 0 1]from rfl,qz,HY,C];simpa[Vd.cU,A]using Y
  .have e6:cE (p (.cl x c)) (D.bM x c).length = .sl (p (.cl x c)) (D.bM x c).length 0 (D.bM x c).length:=aa λe=>C (dM e)
   have hcv:=d.has (.cl x c) _ (ab ⟨a,g,C⟩);simp only[G]at hcv;have e7:p (.cl x c) ≠ p (.rw x):=d.ne (t:=.cl x c) (u:=.rw x) (ab ⟨a,g,C⟩) (ab a) (by simp)
   have hg:∀B,ak (ar j (p (.cl x c)) B) (p (.rw x))=ak j (p (.rw x)):=λB=>aK e7;simp[-ag,e6,hcv,F,e2,e3,e4,e5,a,g,hg];refine⟨by omega,by omega,p,rfl,?_⟩
   have hw:D.bM x c ++ [row] ≠ []:=by simp
   have Y:VS (Vd.cU {D with K:=aD D.K vs} x c (D.bM x c ++ [row])) O p _:=(d.cU a g (p' :=p) (λ_ _=>rfl) hw (τ:=ar (ar j (p (.cl x c)) ⟨none,(D.bM x c).map wI ++ [wI row],.live⟩) (p (.rw x)) ((Vd.cU {D with K:=aD D.K vs} x c (D.bM x c ++ [row])).jQ p x)) (by rw[aK e7.symm,cv (d.lt (t:=.cl x c) (ab ⟨a,g,C⟩))];simp) (by rw[cv (by rw[bQ];exact ajr)])
    (λt B T h2 m=>by rw[aK (d.ne (t:=.rw x) (ab a) m (Ne.symm T)),aK (d.ne (t:=.cl x c) (ab ⟨a,g,C⟩) m (Ne.symm h2))];exact d.has t B m)
    (λt B T m=>d.ne m (u:=.cl x c) (ab ⟨a,g,C⟩) T)).yo H
   rw[QE (D:={D with K:=aD D.K vs}) a g (λ_ _=>rfl) hw]at Y
   simp only[A,G]at Y;show VS (D.comb x c y) O p _;unfold Vd.comb;rw[I,E,show(AV.sl (p (Tg.cl x c)) ((D.bM x c).length+1) 0 ((D.bM x c).length+1)).cells=[AV.sl (p (Tg.cl x c)) ((D.bM x c).length+1) 0 ((D.bM x c).length+1)]from rfl,qz,HY];simpa[Vd.cU,A]using Y
def Vd.gl (D:Vd) (x:Nat):List (List Int):=(List.range D.n.af.toNat).map λ(i:Nat)=>(ix D.K (x:Int)).map λs=>ix (ix D.n.inner s) (i:Int)
structure lI (P:List Int->Prop) (D:Vd):Prop where
 ok:rW D
 nd:D.K.Nodup
 pr:∀k∈D.K,P k
 h0:0<D.K.length/\ix D.K 0=D.n.aZ
 aH:∀x:Nat,x<D.IN.length->x<D.K.length/\ix D.IN (x:Int)=idxs D.K (D.gl x)/\∀v∈D.gl x,v∈D.K
 rl:∀x:Nat,x<D.BL.length->(D.row x).length=D.n.calls.toNat
 bl:∀x c y:Nat,x<D.BL.length->c<D.n.calls.toNat->y<(D.bM x c).length->x<D.K.length/\y<D.K.length/\ix (D.bM x c) (y:Int)=idxs D.K (D.dK x c y)/\∀v∈D.dK x c y,v∈D.K
theorem tJ(h:x<K.length):ix (K++r) (x:Int)=ix K (x:Int):=by
 rw[aG (by simp;omega),aG h,List.getElem_append_left]
theorem QG(h:∀v∈vs,v∈K):idxs (K++r) vs=idxs K vs:=
 fv λv a=>by rw[Qy (h v a)]
theorem ajt(h:K.Nodup):(gL K l).Nodup:=by
 unfold gL;split
 .exact h
 .rename_i g
  rw[rj];exact⟨h,by simp,λa i b d=>by simp at d;subst d;exact λe=>g (e▸i)⟩
theorem QH:∀{vs K:List (List Int)},K.Nodup->(aD K vs).Nodup
 | [],_,h=>h
 |v::vs,K,h=>QH (vs:=vs) (ajt h)
variable{P:List Int->Prop}
theorem lI.grow(h:lI P D)(hs:∀v∈vs,D.n.rT v/\v.length=D.n.aZ.length) (hp:∀v∈vs,P v):lI P {D with K:=aD D.K vs}:=by
 obtain⟨r,e,hr⟩:=vz vs D.K;have ha:∀x,x<D.K.length->Vd.gl {D with K:=aD D.K vs} x=D.gl x:=λx hx=>by
  unfold Vd.gl;dsimp only;rw[e,tJ hx]
 have hn:∀x c y,x<D.K.length->y<D.K.length->Vd.dK {D with K:=aD D.K vs} x c y=D.dK x c y:=λx c y hx U=>by
  unfold Vd.dK;dsimp only;rw[e,tJ hx,tJ U]
 refine⟨h.ok.aD hs,QH h.nd,BA h.pr hp,?_,λx hx=>?_,h.rl,λx c y hx hc U=>?_⟩
 .dsimp only
  rw[e];have:=tJ (r:=r) h.h0.1;exact⟨by simp;have:=h.h0.1;omega,by rw[show(0:Int)=((0:Nat):Int)by rfl,this];exact h.h0.2⟩
 .obtain⟨h1,h2,h3⟩:=h.aH x hx
  rw[ha x h1];dsimp only;rw[e];exact⟨by simp;omega,by rw[QG h3];exact h2,λv V=>by simp[h3 v V]⟩
 .obtain⟨h1,h2,h3,h4⟩:=h.bl x c y hx hc U
  rw[hn x c y h1 h2];dsimp only;rw[e];exact⟨by simp;omega,by simp;omega,by rw[QG h4];exact h3,λv V=>by simp[h4 v V]⟩
theorem H0 [Inhabited α]{l:List α}{v:α}{j:Nat}(a:j<l.length+1):ix (l ++ [v]) (j:Int)=if j<l.length then ix l (j:Int)else v:=by
 rw[aG (by simp;omega),List.getElem_append]
 split
 .rename_i h;rw[aG h]
 .have:j-l.length=0:=by omega
  simp[this]
theorem lI.cU(h:lI P D)(hx:x<D.BL.length) (hc:c<D.n.calls.toNat) (hxk:x<D.K.length) (hyk:y<D.K.length) (hl:(D.bM x c).length=y) (hv:∀v∈D.dK x c y,v∈D.K):lI P (D.cU x c (D.bM x c ++ [idxs D.K (D.dK x c y)])):=by
 have wL : c<(D.row x).length:=by rw[h.rl x hx];exact hc
 refine⟨⟨h.ok.ok,h.ok.st,h.ok.el,h.ok.plc⟩,h.nd,h.pr,h.h0,h.aH,λV pF =>?_,λV c' y' pF QI U =>?_⟩
 .rw[tI hx]
  exact h.rl V (by simpa[Vd.cU]using pF)
 .have Uh:V < D.BL.length:=by simpa[Vd.cU]using pF
  rw[vA hx wL]at U ⊢;show _/\_/\_=idxs D.K (D.dK V c' y')/\∀v∈D.dK V c' y', v∈D.K
  by_cases e:V = x/\c' = c
  .rw[ab e]at U ⊢
   obtain⟨rfl,rfl⟩:=e;simp at U;rw[H0 U]
   by_cases cL:y' < (D.bM V c').length
   .rw[ab cL]
    exact h.bl V c' y' Uh QI cL
   .have:y' = y:=by omega
    subst this;rw[aa cL];exact⟨hxk,hyk,rfl,hv⟩
  .rw[aa e]at U ⊢
   exact h.bl V c' y' Uh QI U
theorem rW.H2(h:rW D)(hx:x<D.K.length) (U:y<D.K.length) (V:(c:Int)<D.n.calls):∀v∈D.dK x c y,D.n.rT v/\v.length=D.n.aZ.length:=λv hv=>by
 obtain⟨r,hr,rfl⟩:=cB.1 hv;have:=bT.1 hr;exact h.o9 hx U ⟨by omega,V⟩ ⟨by omega,by omega⟩
theorem rW.H3(h:rW D)(hx:x<D.K.length):∀v∈D.gl x,D.n.rT v/\v.length=D.n.aZ.length:=λv V=>by
 obtain⟨i,hi,rfl⟩:=cB.1 V;have:=bT.1 hi;have U:=h.kx hx;refine⟨λs hs=>?_,by rw[cY];exact U.2⟩
 obtain⟨t,ht,rfl⟩:=cB.1 hs;have h1:=U.1 t ht;exact h.ok.inner t i h1.1 h1.2 (by omega) (by omega)
structure CW (P:List Int->Prop) (n:al) (plc:List Int):Prop where
 aft:∀k,P k->∀i,0<=i->i<n.af->P (k.map λs=>ix (ix n.inner s) i)
 o9:∀k m,P k->P m->∀c r,0<=c->c<n.calls->0<=r->r<n.aj->P (k.map (n.o9 plc m c r))
theorem lI.kx(h:lI P D)(hx:x<D.K.length):P (ix D.K (x:Int)):=h.pr _ (aO (by omega) (by omega))
theorem lI.comb(h:lI P D) (hP:CW P D.n D.plc)(hx:x<D.BL.length) (hc:c<D.n.calls.toNat) (U:x<D.K.length) (V:y<D.K.length) (hl:(D.bM x c).length=y):lI P (D.comb x c y):=by
 have h1:=h.grow (vs:=D.dK x c y) (h.ok.H2 U V (by omega)) λv hv=>by
  obtain⟨r,hr,rfl⟩:=cB.1 hv;have:=bT.1 hr;exact hP.o9 _ _ (h.kx U) (h.kx V) c r (by omega) (by omega) (by omega) (by omega)
 obtain⟨r,e,hr⟩:=vz (D.dK x c y) D.K;have hn:Vd.dK {D with K:=aD D.K (D.dK x c y)} x c y=D.dK x c y:=by
  show(List.range D.n.aj.toNat).map (λ(r:Nat)=>(ix (aD D.K (D.dK x c y)) (x:Int)).map (D.n.o9 D.plc (ix (aD D.K (D.dK x c y)) (y:Int)) c r))=_;rw[e,tJ U,tJ V]
  rfl
 have h2:=h1.cU (x:=x) (c:=c) (y:=y) hx hc (by dsimp only;rw[e];simp;omega) (by dsimp only;rw[e];simp;omega) hl (by rw[hn];exact λv hv=>rV (.inl hv))
 rw[hn]at h2;exact h2
theorem BD(b:x<D.BL.length) (d:c<(D.row x).length) (a c' : Nat):((D.comb x c y).bM a c').length=(D.bM a c').length+if a = x/\c' = c then 1 else 0:=by
 have:(D.comb x c y).bM a c' = (Vd.cU {D with K:=aD D.K (D.dK x c y)} x c (D.bM x c ++ [idxs (aD D.K (D.dK x c y)) (D.dK x c y)])).bM a c' :=rfl
 rw[this,vA (D:={D with K:=aD D.K (D.dK x c y)}) b d]
 split
 .rename_i e;rw[e.1,e.2];simp
 .rfl
theorem QJ:∃r,(D.comb x c y).K=D.K++r/\r.length<=D.n.aj.toNat:=by
 obtain⟨r,e,a⟩:=vz (D.dK x c y) D.K;exact⟨r,e,by simpa[Vd.dK]using a⟩
theorem yu:(D.comb x c y).BL.length=D.BL.length:=by simp[Vd.comb]
theorem aju(a:x<D.BL.length) (z:Nat):((D.comb x c y).row z).length=(D.row z).length:=tI (D:={D with K:=aD D.K (D.dK x c y)}) a z
structure uv (D:Vd) (x y c:Nat):Prop where
 bl:D.BL.length=x+1
 lo:∀x' c', x' < x->c' < D.n.calls.toNat->(D.bM x' c').length=if x' < y\/(x' = y/\c' < c)then x+1 else x
 hi:∀c', c' < D.n.calls.toNat->(D.bM x c').length=if c' < c then y+1 else y
theorem uv.next(h:uv D x y D.n.calls.toNat):uv D x (y+1) 0:=by
 refine⟨h.bl,λU c' h1 h2=>?_,λc' h2=>?_⟩
 .rw[h.lo U c' h1 h2]
  by_cases e:U < y\/U = y
  .rw[ab (by omega),ab (by omega)]
  .rw[aa (by omega),aa (by omega)]
 .rw[h.hi c' h2,ab h2,aa (by omega)]
abbrev H4 (b:Nat) (x:Nat):List AV:=[.ptr b 16 0,.int x,.aF,.aF,.aF,.aF,.aF,.aF,.aF,.aF,.aF,.aF,.aF]
def yw:IC:=(.seq (.seq (.cq Pr)
 (.block 4 (.loop Ps)))
 (.seq (.cq Pt)
 (.cond 99 (.seq (.cq Pu)
 .ret) .skip)))
theorem uv.one(h:uv D x y c) (hc:c<D.n.calls.toNat) (hr:∀z,z<D.BL.length->(D.row z).length=D.n.calls.toNat) (hy:y=x):uv (D.comb x c y) x y (c+1):=by
 have hb:=h.bl;have V:∀U c', ((D.comb x c y).bM U c').length=(D.bM U c').length+if U = x/\c' = c then 1 else 0:=λU c' =>BD (by omega) (by rw[hr x (by omega)];exact hc) U c'
 refine⟨by rw[yu];exact hb,λU c' h1 h2=>?_,λc' h2=>?_⟩
 .rw[V,h.lo U c' h1 h2,aa (show ¬(U = x/\c' = c)by omega),ab (by omega),ab (by omega)]
 .rw[V,h.hi c' h2]
  by_cases e:c' = c
  .rw[aa (by omega),ab (by omega),ab (by omega)]
  .rw[aa (show ¬(x=x/\c' = c)by omega)]
   by_cases e2:c' < c
   .rw[ab e2,ab (by omega)]
   .rw[aa e2,aa (by omega)]<;>omega
theorem uv.two(h:uv D x y c) (hc:c<D.n.calls.toNat) (hr:∀z,z<D.BL.length->(D.row z).length=D.n.calls.toNat) (hy:y<x):uv ((D.comb x c y).comb y c x) x y (c+1):=by
 have hb:=h.bl;have V:∀U c', ((D.comb x c y).bM U c').length=(D.bM U c').length+if U = x/\c' = c then 1 else 0:=λU c' =>BD (by omega) (by rw[hr x (by omega)];exact hc) U c'
 have zX:∀U c', (((D.comb x c y).comb y c x).bM U c').length=((D.comb x c y).bM U c').length+if U = y/\c' = c then 1 else 0:=λU c' =>BD (by rw[yu];omega) (by rw[aju (by omega),hr y (by omega)];exact hc) U c'
 refine⟨by rw[yu,yu];exact hb,λU c' h1 h2=>?_,λc' h2=>?_⟩
 .rw[zX,V,h.lo U c' h1 h2,aa (show ¬(U = x/\c' = c)by omega)]
  by_cases e:U = y/\c' = c
  .rw[ab e,aa (by omega),ab (by omega)]
  .rw[aa e]
   by_cases e2:U < y\/U = y/\c' < c
   .rw[ab e2,ab (by omega)]
   .rw[aa e2,aa (by omega)]<;>omega
 .rw[zX,V,h.hi c' h2,aa (show ¬(x=y/\c' = c)by omega)]
  by_cases e:c' = c
  .rw[aa (by omega),ab (by omega),ab (by omega)]
  .rw[aa (show ¬(x=x/\c' = c)by omega)]
   by_cases e2:c' < c
   .rw[ab e2,ab (by omega)]
   .rw[aa e2,aa (by omega)]<;>omega
structure BE (P:List Int->Prop) (n:al) (plc:List Int) (O:Nat->Option ah) (b x:Nat) (D:Vd) (p:Tg->Nat) (σ:List ah):Prop where
 s:VS D O p σ
 v:lI P D
 n:D.n=n
 plc:D.plc=plc
 p:p .v=b
 i:D.IN.length=x+1
 x:x<D.K.length
variable{plc:List Int}
theorem BE.comb(h:BE P n plc O b x D p σ) (hP:CW P n plc){z:Nat}(hy:y<D.BL.length) (hz:z<D.K.length) (U:y<D.K.length) (hc:c<n.calls.toNat) (hl:(D.bM y c).length=z) (hK:D.K.length<=1000) (Wx:z<=1000) :
  ∃τ p', L xX [.ptr b 16 0,.int y,.int c,.int z] σ=some (.bF [],τ)/\BE P n plc O b x (D.comb y c z) p' τ:=by
 have hn:=h.n;have hp:=h.plc;have V:c<D.n.calls.toNat:=by rw[hn];exact hc
 have h1:=ajp D O p σ h.s h.v.ok y c z U hz (by omega) hy (by rw[h.v.rl y hy];exact V) hK (by omega)
 obtain⟨r,τ,h2,rfl,p', h3,h4⟩:=dh h1;rw[h.p]at h2 h3;obtain⟨e,he,_⟩:=QJ (D:=D) (x:=y) (c:=c) (y:=z);exact⟨τ,p', h2,h4,h.v.comb (by rw[hn,hp];exact hP) hy V U hz hl,hn,hp,h3,h.i,by rw[he];simp;have:=h.x;omega⟩
theorem ajv(hP:CW P n plc){Q:Ex->St->Prop}
  (D:Vd) (p:Tg->Nat) (σ:List ah) (J:BE P n plc O b x D p σ) (hK:D.K.length<=600) (hl:uv D x 0 0)
  (h1:∀D' p' τ,BE P n plc O b x D' p' τ->uv D' x (x+1) 0->D'.K.length<=512->Q .eU ⟨H4 b x,none,τ⟩)
  (M:∀D' p' τ,BE P n plc O b x D' p' τ->512<D'.K.length->Q .ret ⟨[.aF,.aF,.aF,.aF,.aF,.aF,.aF,.aF,.aF,.aF,.aF,.aF,.bool false],none,τ⟩):WK L yw (H4 b x) none σ Q:=by
 unfold yw;have hx0:=J.x;have u:=J.v.ok.ok;rw[J.n]at u;have hnc:=u.calls;have hnr:=u.aj;simp[-ag];refine⟨by omega,?_⟩
 refine aM (λq:Nat×List ah=>[(6,.int q.1)]) (λq=>q.2) (λq=>q.1<=x+1/\∃D' p', BE P n plc O b x D' p' q.2/\D'.K.length<=600/\uv D' x q.1 0) (λq=>x+1-q.1) (0,σ) (by simp[a8]) ⟨by simp,D,p,J,hK,hl⟩ ?_
 rintro⟨y,w⟩ ⟨y0,N,R,g,S,A⟩;dsimp only at y0 g A ⊢;have o:=g.s.has .v _ rfl;unfold Vd.box at o;rw[g.p,g.n]at o
 by_cases hy:y<x+1
 .have T :=aB (show(y:Int)<(x:Int)+1 by omega)
  simp[-ag,T, o];refine aM (λq:Nat×List ah=>[(8,.int q.1)]) (λq=>q.2) (λq=>q.1<=n.calls.toNat/\∃D' p', BE P n plc O b x D' p' q.2/\D'.K.length<=600/\uv D' x y q.1) (λq=>n.calls.toNat-q.1) (0,w) (by simp[a8]) ⟨by simp,N,R,g,S,A⟩ ?_
  rintro⟨c,U⟩ ⟨c0,B,p2,a,V,d⟩;dsimp only at c0 a d ⊢
  by_cases W:c<n.calls.toNat
  .have r :=aB (show(c:Int)<n.calls by omega)
   have j:c<B.n.calls.toNat:=by rw[a.n];exact W
   have UC:=d.bl;have X:=a.x;obtain⟨E,p3,F,e⟩:=a.comb hP (y:=x) (c:=c) (z:=y) (by omega) (by omega) X W (by rw[d.hi c j,aa (by omega)]) (by omega) (by omega)
   obtain⟨e1,Y,Z⟩:=QJ (D:=B) (x:=x) (c:=c) (y:=y);rw[a.n]at Z;have anc:(B.comb x c y).K.length<=664:=by rw[Y,aY];omega
   by_cases G:y<x
   .have l :=aB (show(y:Int)<(x:Int)by omega)
    obtain⟨H,p4,hC2,m⟩:=e.comb hP (y:=y) (c:=c) (z:=x) (by rw[yu];omega) e.x (by have:=e.x;omega) W (by rw[BD (by omega) (by rw[a.v.rl x (by omega)];exact j),d.lo y c G j,aa (by omega),aa (by omega)]<;>omega) (by omega) (by omega)
    have C:=d.two j a.v.rl G;have i:=m.s.has .v _ rfl;unfold Vd.box at i;rw[m.p,m.n]at i;simp[-ag,r, l, F,hC2,i];generalize (B.comb x c y).comb y c x=I at *;exact⟨λh=>M I p4 H m (by omega),λh=>⟨by omega,az (c+1,H) (by simp) rfl ⟨by dsimp only;omega,I,⟨p4,m⟩,by omega,C⟩ (by dsimp only;omega)⟩⟩
   .have l :=dN (show ¬(y:Int)<(x:Int)by omega)
    have C:=d.one j a.v.rl (by omega)
    have i:=e.s.has .v _ rfl;unfold Vd.box at i;rw[e.p,e.n]at i;simp[-ag,r, l, F,i];generalize B.comb x c y=I at *;exact⟨λh=>M I p3 E e (by omega),λh=>⟨by omega,az (c+1,E) (by simp) rfl ⟨by dsimp only;omega,I,⟨p3,e⟩,by omega,C⟩ (by dsimp only;omega)⟩⟩
  .have r :=dN (show ¬(c:Int)<n.calls by omega)
   have ec:c=B.n.calls.toNat:=by rw[a.n];omega
   rw[ec]at d;have hl3:=d.next
   simp[-ag,r];exact⟨by omega,az (y+1,U) (by simp) rfl ⟨by dsimp only;omega,B,⟨p2,a⟩,V,hl3⟩ (by dsimp only;omega)⟩
 .have ey:y=x+1:=by omega
  subst ey;simp[-ag,o];exact⟨λh=>M N R w g (by omega),λh=>h1 N R w g A (by omega)⟩
theorem VS.step{D: Vd}{p: Tg->Nat}(h:VS D O p σ) (U:Tg->Prop)
  (h1:∀t,¬U t->D'.cont O p' t=D.cont O p t/\p' t=p t)
  (h2:∀t B,U t->D'.cont O p' t=some B->ak τ (p' t)=some B)
  (h3:∀t B,¬U t->D.cont O p t=some B->ak τ (p t)=some B)
  (h4:∀t B,U t->D'.cont O p' t=some B->((∃A,D.cont O p t=some A)/\p' t=p t)\/σ.length<=p' t)
  (h5:∀t u,U t->U u->σ.length<=p' t->p' t=p' u->t=u)
  (h6:∀i,¬U (.old i)):VS D' O p' τ:=by
 have key:∀t B,D'.cont O p' t=some B->((∃A,D.cont O p t=some A)/\p' t=p t)\/(U t/\σ.length<=p' t):=λt B V=>by
  by_cases hc:U t
  .exact(h4 t B hc V).imp id λq=>⟨hc,q⟩
  .obtain⟨e1,e2⟩:=h1 t hc
   rw[e1]at V;exact .inl ⟨⟨B,V⟩,e2⟩
 refine⟨λt B V=>?_,λt u A B hA V e=>?_,λi=>by rw[(h1 _ (h6 i)).2];exact h.old i⟩
 .by_cases hc:U t
  .exact h2 t B hc V
  .obtain⟨e1,e2⟩:=h1 t hc
   rw[e1]at V;rw[e2];exact h3 t B hc V
 .rcases key t A hA with⟨⟨A', zl⟩,e1⟩|⟨c1,e1⟩
  .rcases key u B V with⟨⟨B', wi⟩,e2⟩|⟨c2,e2⟩
   .exact h.inj t u A' B' zl wi (by rw[<-e1,<-e2];exact e)
   .have:=h.lt zl; omega
  .rcases key u B V with⟨⟨B', wi⟩,e2⟩|⟨c2,e2⟩
   .have:=h.lt wi; omega
   .exact h5 t u c1 c2 e1 e
def uw:IC:=(.seq (.cq Pq) yw)
def H5:IC:=(.seq (.cq Pp) uw)
def Vd.ef (D:Vd) (row:List Int):Vd:={D with IN:=D.IN ++ [row]}
theorem VS.ef{p: Tg->Nat}(h:VS D O p σ){row:List Int}(V:∀t,t ≠ .aH->p' t=p t)
  (hi:ak τ (p' .aH)=some ⟨none,(D.IN ++ [row]).map wI,.live⟩) (hv:ak τ (p .v)=some ((D.ef row).box p')) (h3:∀t B,t ≠ .v->t ≠ .aH->D.cont O p t=some B->ak τ (p t)=some B)
  (h4:(D.IN ≠ []/\p' .aH=p .aH)\/σ.length<=p' .aH):VS (D.ef row) O p' τ:=by
 have jY:(D.ef row).cont O p' .aH=some ⟨none,(D.IN ++ [row]).map wI,.live⟩:=aa (by simp[Vd.ef])
 refine h.step (λt=>t = .v\/t = .aH) (λt U=>?_) (λt B U hB=>?_) (λt B U hB=>h3 t B (λe=>U (.inl e)) (λe=>U (.inr e)) hB) (λt B U hB=>?_) (λt u U hu hl e=>?_) λi=>by simp
 .have h1:t ≠ .v:=λe=>U (.inl e)
  have h2:t ≠ .aH:=λe=>U (.inr e);refine⟨?_,V t h2⟩;cases t with
  |v=>exact absurd rfl h1
  |aH=>exact absurd rfl h2
  |bl=>
   show(if D.BL=[]then none else some ((D.ef row).sC p'))=if D.BL=[]then none else some (D.sC p)
   have:(D.ef row).sC p' = D.sC p:=by
    unfold Vd.sC;simp only[λy=>V (.rw y) (by simp)]
    rfl
   rw[this]
  |rw x=>
   show(if x<D.BL.length then some ((D.ef row).jQ p' x)else none)=if x<D.BL.length then some (D.jQ p x)else none
   have:(D.ef row).jQ p' x=D.jQ p x:=by
    unfold Vd.jQ;simp only[λy=>V (.cl x y) (by simp)]
    rfl
   rw[this]
  |_=>rfl
 .rcases U with rfl|rfl
  .rw[V _ (by simp),hv];exact hB
  .rw[jY]at hB;rw[hi];exact hB
 .rcases U with rfl|rfl
  .exact .inl ⟨⟨_,rfl⟩,V _ (by simp)⟩
  .exact h4.imp (λq=>⟨⟨_,aa q.1⟩,q.2⟩) id
 .rcases U with rfl|rfl
  .rw[V _ (by simp)]at hl
   have:=h.lt (t:=.v) rfl;omega
  .rcases hu with rfl|rfl
   .rw[V .v (by simp)]at e
    have:=h.lt (t:=.v) rfl;omega
   .rfl
theorem ajw{Q:Ex->St->Prop}{row:List Int}
  (D:Vd) (p:Tg->Nat) (σ:List ah) (b:VS D O p σ) (H:x<=1000) (I:D.IN.length=x) {i j:AV}
  (g:∀p' τ,VS (D.ef row) O p' τ->p' .v=p .v->WK L uw (H4 (p .v) x) none τ Q):WK L H5 [.ptr (p .v) 16 0,.int x,i,j,wI row,.aF,.aF,.aF,.aF,.aF,.aF,.aF,.aF] none σ Q:=by
 unfold H5;have m:=b.has .v _ rfl;unfold Vd.box at m;have q:(wI row).cells=[wI row]:=rfl;have s:bg (wI row)=true:=rfl;have z:=b.lt (t:=.v) rfl
 by_cases a:D.IN=[]
 .have n:cE (p .aH) D.IN.length = .ae:=by rw[a];rfl
  have b1:∀B:ah,ak (σ ++ [B]) (p .v)=_:=λB=>fU (r:=[B]) m;simp[-ag,m,n,b1,q,s];have d:∀t,t ≠ Tg.aH->(λt=>if t=Tg.aH then σ.length else p t) t=p t:=λt A=>aa A
  have l:(λt=>if t=Tg.aH then σ.length else p t) .aH=σ.length:=ab rfl
  generalize (λt=>if t=Tg.aH then σ.length else p t)=p' at *
  have C:p .v<(σ ++ [(⟨none,[wI row],.live⟩:ah)]).length:=by simp;omega
  have E:(D.ef row).box p' = _:=rfl;refine g p' _ (b.ef d (by rw[l,aK (by omega),gJ,a];rfl) ?_ (λt B g w h=>by rw[aK (b.ne (t:=.v) rfl h (Ne.symm g))];exact fU (b.has t B h)) (.inr (by omega))) (d _ (by simp))
  rw[cv C];unfold Vd.box;simp[Vd.ef,a,l,d,cE]
 .have o:=b.has .aH _ (aa a)
  have F:D.IN.length ≠ 0:=λe=>a (dM e);have n:cE (p .aH) D.IN.length = .sl (p .aH) D.IN.length 0 D.IN.length:=aa (by omega)
  have y:p .aH ≠ p .v:=b.ne (t:=.aH) (u:=.v) (aa a) rfl (by simp)
  have b1:∀(Q:List ah) B,ak (ar Q (p .aH) B) (p .v)=ak Q (p .v):=λQ B=>aK y;have G:=b.lt (t:=.aH) (aa a);simp[-ag,m,n,o,b1,q,s];refine⟨by omega,g p _ (b.ef (λ_ _=>rfl) (by rw[aK y.symm,cv G];simp) ?_ (λt B g w h=>by rw[aK (b.ne (t:=.v) rfl h (Ne.symm g)),aK (b.ne (t:=.aH) (aa a) h (Ne.symm w))];exact b.has t B h) (.inl ⟨a,rfl⟩)) rfl⟩
  rw[cv (by rw[bQ];exact z)]
  unfold Vd.box;simp[Vd.ef,cE]
def Vd.bz (D:Vd):Vd:={D with BL:=D.BL ++ [List.replicate D.n.calls.toNat []]}
theorem tK:D.bz.row y=if y=D.BL.length then List.replicate D.n.calls.toNat []else D.row y:=by
 unfold Vd.row Vd.bz;dsimp only
 by_cases h:y<D.BL.length+1
 .rw[H0 h]
  by_cases e:y<D.BL.length
  .rw[ab e,aa (by omega)]
  .rw[aa e,ab (by omega)]
 .rw[aa (by omega)]
  unfold ix;rw[eE,eE,jh (by simp;omega),jh (by omega)]
theorem kJ [Inhabited α]{a:α}(h:c<k):ix (List.replicate k a) (c:Int)=a:=by
 rw[aG (by simpa using h)];simp
theorem vB:D.bz.bM y c=if y=D.BL.length then[]else D.bM y c:=by
 unfold Vd.bM;rw[tK];split
 .by_cases h:c<D.n.calls.toNat
  .exact kJ h
  .unfold ix
   rw[eE,jh (by simp;omega)];rfl
 .rfl
theorem VS.bz{p: Tg->Nat}(h:VS D O p σ) (hp:∀t,t ≠ .bl->t ≠ .rw D.BL.length->p' t=p t)
  (hi:ak τ (p' .bl)=some (D.bz.sC p')) (hr:ak τ (p' (.rw D.BL.length))=some ⟨none,List.replicate D.n.calls.toNat .ae,.live⟩) (hv:ak τ (p .v)=some (D.bz.box p'))
  (h3:∀t B,t ≠ .v->t ≠ .bl->D.cont O p t=some B->ak τ (p t)=some B)
  (h4:(D.BL ≠ []/\p' .bl=p .bl)\/σ.length<=p' .bl) (h5:σ.length<=p' (.rw D.BL.length)) (h6:p' .bl ≠ p' (.rw D.BL.length)):VS D.bz O p' τ:=by
 have hl:D.bz.BL.length=D.BL.length+1:=by simp[Vd.bz]
 have jY:D.bz.cont O p' .bl=some (D.bz.sC p'):=aa (by simp[Vd.bz])
 have BC:D.bz.cont O p' (.rw D.BL.length)=some ⟨none,List.replicate D.n.calls.toNat .ae,.live⟩:=by
  show(if D.BL.length<D.bz.BL.length then some (D.bz.jQ p' D.BL.length)else none)=_
  rw[hl,ab (by omega)]
  unfold Vd.jQ;rw[tK,ab rfl]
  congr 2
  apply jJ (by simp)
  intro i h1 h2;simp[vB,cE]
 have vX:=h.lt (t:=.v) rfl;refine h.step (λt=>t = .v\/t = .bl\/t = .rw D.BL.length) (λt U=>?_) (λt B U V=>?_) (λt B U V=>h3 t B (λe=>U (.inl e)) (λe=>U (.inr (.inl e))) V) (λt B U V=>?_) (λt u U hu cL e=>?_) λi=>by simp
 .have h1:t ≠ .v:=λe=>U (.inl e)
  have h2:t ≠ .bl:=λe=>U (.inr (.inl e));have wT : t ≠ .rw D.BL.length:=λe=>U (.inr (.inr e));refine⟨?_,hp t h2 wT⟩;cases t with
  |v=>exact absurd rfl h1
  |bl=>exact absurd rfl h2
  |rw x=>
   have hx:x ≠ D.BL.length:=λe=>wT (by rw[e])
   show(if x<D.bz.BL.length then some (D.bz.jQ p' x)else none)=if x<D.BL.length then some (D.jQ p x)else none
   have:D.bz.jQ p' x=D.jQ p x:=by
    unfold Vd.jQ;simp only[λy=>hp (.cl x y) (by simp) (by simp),tK,vB,aa hx]
   rw[this,hl]
   by_cases e:x<D.BL.length
   .rw[ab e,ab (by omega)]
   .rw[aa e,aa (by omega)]
  |cl x c=>
   show(if x<D.bz.BL.length/\c<(D.bz.row x).length/\D.bz.bM x c ≠ []then some (⟨none,(D.bz.bM x c).map wI,.live⟩:ah)else none)=if x<D.BL.length/\c<(D.row x).length/\D.bM x c ≠ []then some ⟨none,(D.bM x c).map wI,.live⟩else none
   rw[hl,tK,vB]
   by_cases e:x=D.BL.length
   .rw[ab e,ab e,aa (by simp),aa (by omega)]
   .rw[aa e,aa e]
    by_cases e2:x<D.BL.length
    .simp only[e2,show x<D.BL.length+1 by omega]
    .simp only[e2,show ¬x<D.BL.length+1 by omega]
  |_=>rfl
 .rcases U with rfl|rfl|rfl
  .rw[hp _ (by simp) (by simp),hv];exact V
  .rw[jY]at V;rw[hi];exact V
  .rw[BC]at V;rw[hr];exact V
 .rcases U with rfl|rfl|rfl
  .exact .inl ⟨⟨_,rfl⟩,hp _ (by simp) (by simp)⟩
  .exact h4.imp (λq=>⟨⟨_,aa q.1⟩,q.2⟩) id
  .exact .inr h5
 .have pv:=hp .v (by simp) (by simp)
  rcases U with rfl|rfl|rfl
  .omega
  .rcases hu with rfl|rfl|rfl
   .omega
   .rfl
   .exact absurd e h6
  .rcases hu with rfl|rfl|rfl
   .omega
   .exact absurd e.symm h6
   .rfl
theorem QK{p: Tg->Nat}(a:∀t,t ≠ .bl->t ≠ .rw D.BL.length->p' t=p t):D.bz.sC p' = ⟨none,(List.range D.BL.length).map (λx=>AV.sl (p (.rw x)) (D.row x).length 0 (D.row x).length) ++ [AV.sl (p' (.rw D.BL.length)) D.n.calls.toNat 0 D.n.calls.toNat],.live⟩:=by
 unfold Vd.sC;rw[show D.bz.BL.length=D.BL.length+1 by simp[Vd.bz],gw,jK]
 congr 2
 .refine fv λx b=>?_
  have:=bT.1 b;rw[tK,aa (by omega),a _ (by simp) (by simp;omega)]
 .simp[tK]
theorem ajx{Q:Ex->St->Prop}
  (D:Vd) (p:Tg->Nat) (σ:List ah) (g:VS D O p σ) (y:D.n.Ok) (H:x<=1000) (j:D.BL.length=x)
  (i:∀p' τ,VS D.bz O p' τ->p' .v=p .v->WK L yw (H4 (p .v) x) none τ Q):WK L uw (H4 (p .v) x) none σ Q:=by
 unfold uw;have o:=g.has .v _ rfl;unfold Vd.box at o;have z:=y.calls;have I:=g.lt (t:=.v) rfl
 by_cases a:D.BL=[]
 .have q:cE (p .bl) D.BL.length = .ae:=by rw[a];rfl
  have b1:∀B C:ah,ak (σ ++ [B,C]) (p .v)=_:=λB C=>fU (r:=[B,C]) o;simp[-ag,o,q,b1];refine⟨by omega,?_⟩
  have b:∀t,t ≠ Tg.bl->t ≠ Tg.rw D.BL.length->(λt=>if t=Tg.bl then σ.length+1 else if t=Tg.rw D.BL.length then σ.length else p t) t=p t:=λt i m=>by
   show(if t=Tg.bl then σ.length+1 else if t=Tg.rw D.BL.length then σ.length else p t)=p t
   rw[aa i,aa m]
  have d:(λt=>if t=Tg.bl then σ.length+1 else if t=Tg.rw D.BL.length then σ.length else p t) .bl=σ.length+1:=ab rfl
  have h:(λt=>if t=Tg.bl then σ.length+1 else if t=Tg.rw D.BL.length then σ.length else p t) (.rw D.BL.length)=σ.length:=by simp
  generalize (λt=>if t=Tg.bl then σ.length+1 else if t=Tg.rw D.BL.length then σ.length else p t)=p' at *
  have s:∀B C:ah,p .v<(σ ++ [B,C]).length:=λB C=>by simp;omega
  have A:D.BL.length=0:=by rw[a];rfl
  refine i p' _ (g.bz b ?_ ?_ ?_ (λt B i m j=>by rw[aK (g.ne (t:=.v) rfl j (Ne.symm i))];exact fU (g.has t B j)) (.inr (by omega)) (by omega) (by omega)) (b _ (by simp) (by simp))
  .rw[d,aK (by omega),HU,QK b,h,A]
   rfl
  .rw[h,aK (by omega),gJ]
  .rw[cv (s _ _)]
   unfold Vd.box;simp[Vd.bz,a,d,b,cE]
 .have l:=g.has .bl _ (aa a)
  unfold Vd.sC at l;have q:cE (p .bl) D.BL.length = .sl (p .bl) D.BL.length 0 D.BL.length:=aa λe=>a (dM e);have w:p .bl ≠ p .v:=g.ne (t:=.bl) (u:=.v) (aa a) rfl (by simp)
  have E:∀(Q:List ah) B,ak (ar Q (p .bl) B) (p .v)=ak Q (p .v):=λQ B=>aK w;have b1:∀B:ah,ak (σ ++ [B]) (p .v)=_:=λB=>fU (r:=[B]) o;have F:∀B:ah,ak (σ ++ [B]) (p .bl)=_:=λB=>fU (r:=[B]) l;have J:=g.lt (t:=.bl) (aa a);simp[-ag,o,q,l,b1,E,F];refine⟨by omega,by omega,?_⟩
  have b:∀t,t ≠ Tg.bl->t ≠ Tg.rw D.BL.length->(λt=>if t=Tg.rw D.BL.length then σ.length else p t) t=p t:=λt i m=>aa m
  have d:(λt=>if t=Tg.rw D.BL.length then σ.length else p t) .bl=p .bl:=by simp
  have h:(λt=>if t=Tg.rw D.BL.length then σ.length else p t) (.rw D.BL.length)=σ.length:=by simp
  generalize (λt=>if t=Tg.rw D.BL.length then σ.length else p t)=p' at *
  have s:∀B:ah,p .bl<(σ ++ [B]).length:=λB=>by simp;omega
  have G:∀B C:ah,p .v<(ar (σ ++ [B]) (p .bl) C).length:=λB C=>by rw[bQ];simp;omega
  refine i p' _ (g.bz b ?_ ?_ ?_ (λt B i m j=>by rw[aK (g.ne (t:=.v) rfl j (Ne.symm i)),aK (g.ne (t:=.bl) (aa a) j (Ne.symm m))];exact fU (g.has t B j)) (.inl ⟨a,d⟩) (by omega) (by omega)) (b _ (by simp) (by simp))
  .rw[d,aK w.symm,cv (s _),QK b,h]
  .rw[h,aK (by omega),aK (by omega),gJ]
  .rw[cv (G _ _)]
   unfold Vd.box;simp[Vd.bz,d,b,cE]
theorem lI.ef(h:lI P D)(hx:x=D.IN.length) (V:x<D.K.length) (hv:∀v∈D.gl x,v∈D.K):lI P (D.ef (idxs D.K (D.gl x))):=by
 refine⟨⟨h.ok.ok,h.ok.st,h.ok.el,h.ok.plc⟩,h.nd,h.pr,h.h0,λy hy=>?_,h.rl,h.bl⟩;have U : y<D.IN.length+1:=by simpa[Vd.ef]using hy
 show y<D.K.length/\ix (D.IN ++ [idxs D.K (D.gl x)]) (y:Int)=idxs D.K (D.gl y)/\∀v∈D.gl y,v∈D.K;rw[H0 U]
 by_cases e:y<D.IN.length
 .rw[ab e];exact h.aH y e
 .have:y=x:=by omega
  subst this;rw[aa e];exact⟨V,rfl,hv⟩
theorem lI.bz(h:lI P D):lI P D.bz:=by
 have hl:D.bz.BL.length=D.BL.length+1:=by simp[Vd.bz]
 refine⟨⟨h.ok.ok,h.ok.st,h.ok.el,h.ok.plc⟩,h.nd,h.pr,h.h0,h.aH,λx hx=>?_,λx c y hx V U=>?_⟩
 .rw[tK]
  split
  .simp;rfl
  .exact h.rl x (by omega)
 .rw[vB]at U ⊢
  by_cases e:x=D.BL.length
  .rw[ab e]at U;simp at U
  .rw[aa e]at U ⊢
   exact h.bl x c y (by omega) V U
def clB:IC:=(.seq (.cq Pm)
 (.seq (.seq (.cq Pn)
 (.seq (.block 2 (.loop Po)) (.kO 4))) H5))
theorem QL(hP:CW P n plc){Q:Ex->St->Prop}
  (D:Vd) (p:Tg->Nat) (σ:List ah) (h:VS D O p σ) (hV:lI P D) (C:D.n=n) (hDp:D.plc=plc) (hx:x<D.K.length) (hK:D.K.length<=512) (hI:D.IN.length=x) (j:D.BL.length=x) (hl:∀I c', I < x->c' < D.n.calls.toNat->(D.bM I c').length=x)
  (H:∀D' p' τ,BE P n plc O (p .v) x D' p' τ->D'.K.length<=600->uv D' x 0 0->WK L yw (H4 (p .v) x) none τ Q):WK L clB (H4 (p .v) x) none σ Q:=by
 unfold clB;have J:=hV.ok;have M:=J.ok;have jY:=M.af;have y:=h.has .v _ rfl;unfold Vd.box at y;have KW:∀B:ah,ak (σ ++ [B]) (p .v)=_:=λB=>fU (r:=[B]) y;simp[-ag,KW];have rl:(D.gl x).length=D.n.af.toNat:=by simp[Vd.gl]
 refine aM (λq:Nat×List ah=>[(2,.int q.1),(4,.sl σ.length q.1 0 q.1)]) (λq=>q.2)
  (λq=>q.1<=D.n.af.toNat/\VS {D with K:=aD D.K ((D.gl x).take q.1)} (rU O σ.length (bG (idxs (aD D.K ((D.gl x).take q.1)) ((D.gl x).take q.1)))) p q.2) (λq=>D.n.af.toNat-q.1) (0,σ ++ [bG []]) (by simp[a8]) ⟨by simp,by simpa[aD,idxs]using h.push _⟩ ?_
 rintro⟨r,N⟩ ⟨r0,E⟩;dsimp only at r0 E ⊢;have d:=J.H3 hx;have hpv:∀v∈D.gl x,P v:=λv y=>by
  obtain⟨i,R,rfl⟩:=cB.1 y;have:=bT.1 R;rw[C];exact hP.aft _ (hV.kx hx) i (by omega) (by rw[<-C];omega)
 generalize S:D.gl x=vs at *;obtain⟨ext,a,he2⟩:=vz (vs.take r) D.K;have g:ix (aD D.K (vs.take r)) (x:Int)=ix D.K (x:Int):=by rw[a,tJ hx]
 have T:=E.view;have hb:=E.has (.old σ.length) _ vy;rw[E.old]at hb
 by_cases hr:r<D.n.af.toNat
 .have m:(r:Int)<D.n.af:=by omega
  have hDr:=J.aD (vs:=vs.take r) λv y=>d v (List.mem_of_mem_take y);have xF:ix vs (r:Int)=(ix D.K (x:Int)).map λs=>ix (ix D.n.inner s) (r:Int):=by
   rw[<-S,Vd.gl,iT (by omega) (by simp;omega)]
   simp[aG (show r<(List.range D.n.af.toNat).length by simp;omega)]
  have hlx:=J.kx hx;have Ei:=J.el;have hx1:(x:Int)<((aD D.K (vs.take r)).length:Int):=by rw[a];simp;omega
  have hKl:(aD D.K (vs.take r)).length<=2000:=by rw[a,aY];have:(vs.take r).length<=r:=List.length_take_le r vs;omega
  have hA:=ajl (Vd.vcs {D with K:=aD D.K (vs.take r)}) M x r ⟨by omega,hx1⟩ ⟨by omega,m⟩ (by show D.n.rT (ix (aD D.K (vs.take r)) (x:Int));rw[g];exact hlx.1) (by show(ix (aD D.K (vs.take r)) (x:Int)).length<=1000;rw[g];omega)
  obtain⟨z,UB,hA,hz⟩:=dh hA;have hz:bV UB true z=some (iL (ix vs (r:Int))):=by
   rw[hz,xF];show some (iL ((ix (aD D.K (vs.take r)) (x:Int)).map λs=>ix (ix D.n.inner s) (r:Int)))=_;rw[g]
  have CS:=d _ (aO (l:=vs) (n:=(r:Int)) (by omega) (by omega))
  have tk:=jm (w:=vs) (k:=r) (by omega)
  have U:=BB (K:=D.K) (vs:=vs.take r) (l:=ix vs (r:Int));generalize ix vs (r:Int)=l at *;have V:=Qw {D with K:=aD D.K (vs.take r)} _ p N E l (yr M CS.1) (λk hk=>yr M (hDr.st k hk).1) (by omega) (λe=>by have h0:(aD D.K (vs.take r)).length=0:=(by dsimp only at e;rw[e];rfl);omega) (by dsimp only;omega)
  obtain⟨rv,τ,hN,rfl,o,hlen⟩:=dh V;clear V;have A:=o.has (.old σ.length) _ vy;rw[o.old]at A;have u:(idxs (aD D.K (vs.take r)) (vs.take r)).length=r:=by simp[idxs];omega
  generalize idxs (aD D.K (vs.take r)) (vs.take r)=row at *;simp[-ag,m,T,hA,hz,hN,A];refine⟨⟨u,by split<;>rfl⟩,by omega,by omega,az (r+1,_) (by simp[u]) rfl ⟨by dsimp only;omega,?_⟩ (by dsimp only;omega)⟩
  dsimp only;rw[tk,U,yp];rw[Qx]at o;have:=o.put (b:=σ.length) (if_pos rfl) (bG (row ++ [(((aD D.K (vs.take r)).idxOf l:Nat):Int)]));have e:bG (row ++ [(((aD D.K (vs.take r)).idxOf l:Nat):Int)])=⟨none,row.map AV.int ++ [.int (((aD D.K (vs.take r)).idxOf l:Nat):Int)],.live⟩:=by simp
  rw[<-e];refine this.yo λi B j=>?_;unfold rU at j ⊢;split
  .rename_i R;simpa[R]using j
  .rename_i R;simpa[R]using j
 .have er:r=D.n.af.toNat:=by omega
  have m:¬(r:Int)<D.n.af:=by omega
  rw[fc (by omega)]at E hb T a g
  have u:(idxs (aD D.K vs) vs).length=r:=by simp[idxs];omega
  simp[-ag,m];refine yq hb (by simp) u.symm ?_
  have F:∀row:List Int,∀i B,O i=some B->rU (rU O σ.length (bG row)) σ.length ⟨none,row.map .int,.dead⟩ i=some B:=λrow i B j=>by
   have H:=h.lt (t:=.old i) j;rw[h.old]at H;simp[rU,show i ≠ σ.length by omega,j]
  have hS2:=(E.put (b:=σ.length) (ab rfl) ⟨none,(idxs (aD D.K vs) vs).map .int,.dead⟩).yo (F _);have hV2:=hV.grow d hpv;have W:Vd.gl {D with K:=aD D.K vs} x=vs:=by
   show(List.range D.n.af.toNat).map (λ(i:Nat)=>(ix (aD D.K vs) (x:Int)).map λs=>ix (ix D.n.inner s) (i:Int))=_;rw[g,<-S];rfl
  have X:x<(aD D.K vs).length:=by rw[a];simp;omega
  have G:=hV2.ef (x:=x) hI.symm X (by rw[W];exact λv y=>rV (.inl y))
  rw[W]at G;have hlen:(aD D.K vs).length<=600:=by rw[a,aY];have:(vs.take r).length<=r:=List.length_take_le r vs;omega
  dsimp only at G;generalize ane:idxs (aD D.K vs) vs=row at *;generalize ajq:ar N σ.length ⟨none,row.map .int,.dead⟩=J7 at *;simp[-ag];rw[HY];refine ajw (row:=row) {D with K:=aD D.K vs} p J7 hS2 (by omega) hI λp' τ hS3 Y=>?_
  rw[<-Y];refine ajx (Vd.ef {D with K:=aD D.K vs} row) p' τ hS3 M (by omega) j λp4 τ4 hS4 Z=>?_
  rw[<-Z];rw[<-Y,<-Z]at H;refine H _ p4 τ4 ⟨hS4,G.bz,C,hDp,rfl,by simp[Vd.bz,Vd.ef,hI],X⟩ hlen ⟨by simp[Vd.bz,Vd.ef,j],λI c' H h2=>?_,λc' h2=>?_⟩
  .rw[vB,aa (by show ¬I = D.BL.length;omega)]
   rw[aa (by omega)]
   exact hl I c' H h2
  .rw[vB,ab (by show x=D.BL.length;omega)]
   simp
structure Full (D:Vd):Prop where
 i:D.IN.length=D.K.length
 b:D.BL.length=D.K.length
 k:D.K.length<=512
 c:∀x c,x<D.K.length->c<D.n.calls.toNat->(D.bM x c).length=D.K.length
theorem ajy(D:Vd) (Q:CW P D.n D.plc)(p:Tg->Nat) (σ:List ah) (h:VS D O p σ) (W:lI P D) (X:D.IN=[]) (Y:D.BL=[]) (Z:D.K.length<=512) :
  LX L AM [.ptr (p .v) 16 0] σ (λr τ=>∃D' p', VS D' O p' τ/\lI P D' /\D'.n=D.n/\D'.plc=D.plc/\p' .v=p .v/\((r = .bool true/\Full D')\/(r = .bool false/\512<D'.K.length))):=by
 refine af2 rfl ?_;simp[-ag];refine aM (λq:Nat×List ah=>[(1,.int q.1)]) (λq=>q.2)
  (λq=>∃D' p', VS D' O p' q.2/\lI P D' /\(D'.n=D.n/\D'.plc=D.plc/\p' .v=p .v)/\D'.IN.length=q.1/\D'.BL.length=q.1/\D'.K.length<=512/\q.1<=D'.K.length/\∀b c', b < q.1->c' < D'.n.calls.toNat->(D'.bM b c').length=q.1) (λq=>513-q.1) (0,σ) (by simp[a8]) ⟨D,p,h,W,⟨rfl,rfl,rfl⟩,by simp[X],by simp[Y],Z,by simp,λb c' h=>by dsimp only at h;omega⟩ ?_
 rintro⟨x,F⟩ ⟨m,R,B,o,⟨S,T,G⟩,u,w,y,H,d⟩;dsimp only at B u w H d ⊢;have C:=B.has .v _ rfl;unfold Vd.box at C;rw[G]at C;show WK L (.seq (.seq (.cq Pk) (.cond 14 .skip (.exit 0))) (.seq (.block 1 clB) (.cq Pv))) _ _ _ _
 by_cases hx:x<m.K.length
 .have g :=aB (show(x:Int)<(m.K.length:Int)by omega)
  simp[-ag,C,g];rw[<-G];refine QL (n:=D.n) (plc:=D.plc) Q m R F B o S T hx y u w d λD2 p2 τ I J M=>?_;refine ajv Q D2 p2 τ I J M (λE N z a j l=>?_) λE N z a l=>?_
  .simp[-ag]
   refine⟨by omega,az (x+1,z) (by simp) rfl ⟨E,N,a.s,a.v,⟨a.n,a.plc,a.p⟩,a.i,j.bl,l,by have:=a.x;dsimp only;omega,λb c' U V=>?_⟩ (by dsimp only;omega)⟩
   dsimp only at U ⊢;have A : c' < E.n.calls.toNat:=by omega
   by_cases e:b < x
   .rw[j.lo b c' e A, ab (by omega)]
   .have:b = x:=by omega
    subst this;rw[j.hi c' A, aa (by omega)]
  .simp[-ag]
   exact⟨E,N,a.s,a.v,a.n,a.plc,a.p,l⟩
 .have g :=dN (show ¬(x:Int)<(m.K.length:Int)by omega)
  simp[-ag,C,g];exact⟨m,R,B,o,S,T,G,by omega,by omega,y,λb c' U V=>by rw[d b c' (by omega) V];omega⟩
end Ab
