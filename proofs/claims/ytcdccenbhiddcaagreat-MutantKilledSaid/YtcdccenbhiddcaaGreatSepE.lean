/- Numbers sorted, each once; and what it leans on. Condition: none. -/
import Derived.Test.YtcdccenbhiddcaaGreatGbf
import Derived.Test.YtcdccenbhiddcaaGreatMnlT
import Derived.Test.YtcdccenbhiddcaaGreatSepA
import Derived.Test.YtcdccenbhiddcaaGreatSepU
import Derived.Test.YtcdccenbhiddcaaGreatUptoK
set_option linter.all false
set_option maxRecDepth 100000
set_option maxHeartbeats 4000000
namespace Ab
variable{σ:List aj}{b u:Nat}
def Z9{vars env:List AV}{x:Rf}{z:List AV}{k:Option Nat}{a:List aj}{K:List AV->List aj->List aj->Prop}{off len:Nat}{B:aj}(d:rv vars env x = .sl b u off len) (e:upto σ b u=some B) (f:0<len/\off+len*aC k<=B.cells.length/\aC B.k=aC k/\z.length=aC k/\B.st.isLive=true):bA L vars (.oY x z k) false env a σ K=K (.au::env) [] (az σ b ⟨B.k,putAt B.cells off (cS len z),B.st⟩):=by
 show aH (dO L σ (rv vars env) (.oY x z k)) (λp=>K (p.1::env) [] p.2)=_;simp only[dO,d,e];rw[ah f];rfl
def dR (l:List Int):Nat->List Int
 |0=>[]
 |n+1=>if 0<n/\ix l (n:Int)=ix l ((n:Int)-1)then dR l n else dR l n ++ [ix l (n:Int)]
def eo (l:List Int):List Int:=dR l l.length
def JT{l:List Int}:∀{n:Nat}{w:Int},n<=l.length->(w∈dR l n↔∃j:Int,0<=j/\j<n/\ix l j=w)
 |0,w,_=>by simp[dR];intro j;omega
 |n+1,w,h=>by
  have f:=λw=>JT (l:=l) (n:=n) (w:=w) aa
  unfold dR;split
  .rename_i g
   rw[f];constructor
   .rintro⟨j,a,b,e⟩;exact⟨j,a,aa,e⟩
   .rintro⟨j,a,b,e⟩
    by_cases d:j=(n:Int)
    .subst d;exact⟨(n:Int)-1,aa,aa,by rw[<-g.2];exact e⟩
    .exact⟨j,a,aa,e⟩
  .rw[cp,f]
   constructor
   .rintro(⟨j,a,b,e⟩|e)
    .exact⟨j,a,aa,e⟩
    .simp at e;exact⟨n,aa,aa,e.symm⟩
   .rintro⟨j,a,b,e⟩
    by_cases d:j=(n:Int)
    .subst d;right;simp[e]
    .left;exact⟨j,a,aa,e⟩
def aaa{l:List Int}{w:Int}:w∈eo l↔w∈l:=by
 unfold eo;rw[JT (aY _)];constructor
 .rintro⟨j,a,b,rfl⟩;exact bt a b
 .intro h
  obtain⟨j,d,e⟩:=cd.1 h;exact⟨j,aa,aa,by rw[aK d,e]⟩
def JU (l:List Int):∀n,(dR l n).length<=n
 |0=>by simp[dR]
 |n+1=>by
  have:=JU l n;unfold dR;split
  .omega
  .simp;omega
variable{vs:List Int}
def JV(h:dR vs vs.length=vs.take vs.length):eo vs=vs:=by unfold eo;rw[h,kW]
theorem JW(h:0<vs.length):dR vs 1=vs.take 1:=by
 match vs,h with
 |x::r,_=>rfl
variable{k:Int}
def JX(k0:1<=k) (h:ix vs k=ix vs (k-1)):dR vs (k+1).toNat=dR vs k.toNat:=by
 rw[show(k+1).toNat=k.toNat+1 by omega]
 conv=>lhs;unfold dR
 rw[ah ⟨aa,by rw[show((k.toNat:Nat):Int)=k by omega];exact h⟩]
def JY(k0:1<=k) (h:¬ix vs k=ix vs (k-1)):dR vs (k+1).toNat=dR vs k.toNat ++ [ix vs k]:=by
 rw[show(k+1).toNat=k.toNat+1 by omega]
 conv=>lhs;unfold dR
 rw[ae (λ⟨_,e⟩=>h (by rwa [show((k.toNat:Nat):Int)=k by omega]at e)),show((k.toNat:Nat):Int)=k by omega]
def aab(a:0<=k) (b:k<vs.length):vs.take (k+1).toNat=vs.take k.toNat ++ [ix vs k]:=by
 rw[show(k+1).toNat=k.toNat+1 by omega,eD,ky a b];rfl
abbrev ZB (vs:List Int) (r:Nat):aj:=⟨none,vs.map .int++List.replicate r (.int 0),.live⟩
def aac (vs:List Int) (C:vs ≠ []) (M:(vs.length:Int)<=1000000) :
  LX L yC [.sl 0 vs.length 0 vs.length] [Zb vs] (λv D=>v = .sl 0 vs.length 0 (eo vs).length/\D=[ZB (eo vs) (vs.length-(eo vs).length)]):=by
 have A:0<vs.length:=fc.2 C;refine Ws rfl ?_
 by_cases N:vs.length<2
 .simp[show(vs.length:Int)<2 by omega]
  have o:vs.length=1:=aa
  rw[JV (by rw[o];exact JW A)];simp
 .simp[show ¬(vs.length:Int)<2 by omega]
  refine a6 (λk:Int=>[(1,.int k)]) (λ_=>[Zb vs]) (λk=>1<=k/\k<=vs.length/\dR vs k.toNat=vs.take k.toNat) (λk=>(vs.length-k).toNat) 1 rfl ⟨aa,aa,?_⟩ λk ⟨E,O,f⟩=>?_
  .exact JW A
  by_cases r:k<vs.length
  .simp[-ax,r,show 0<=k by omega,show 0<=k-1 by omega,show k-1<(vs.length:Int)by omega]
   refine⟨aa,aa,aa,λs=>⟨aa,?_⟩,λs=>⟨aa,aL (k+1) rfl rfl ⟨aa,aa,by rw[JY aa s,f,aab aa r]⟩ aa⟩⟩
   obtain⟨k,rfl⟩:∃F : Nat,k=F :=⟨k.toNat,aa⟩
   have G:k<vs.length:=aa
   rw[kg]at f ⊢;have e:=JX (vs:=vs) E s;rw[show((k:Int)+1).toNat=k+1 by omega,kg,f]at e
   refine a6 (λp:Nat×Nat×List Int=>[(1,.int p.1),(2,.int ((p.2.1:Int)+1))]) (λp=>[Zb p.2.2]) (λp=>k+p.2.1+1<=vs.length/\p.2.2.length=vs.length/\p.1=(dR vs (k+p.2.1+1)).length/\p.1<=k+p.2.1/\p.2.2.take p.1=dR vs (k+p.2.1+1)/\∀j:Nat,k+p.2.1<=j->j<vs.length->ix p.2.2 (j:Int)=ix vs (j:Int))
    (λp=>vs.length-p.2.1) (k,0,vs) dL ⟨aI,rfl,by dsimp only;rw[Nat.add_zero,e];simp;omega,aI,by dsimp only;rw[Nat.add_zero,e],λ_ _ _=>rfl⟩ ?_
   rintro⟨q,j,cs⟩ ⟨H,d,g,I,l,m⟩;dsimp only at H d g I l m ⊢
   by_cases J:k+j+1<vs.length
   .have o:=m (k+j+1) aa J
    have K:=m (k+j) aa aa
    have u:ix vs ((k+j+1:Nat):Int)=ix vs ((k+j:Nat):Int)->dR vs (k+(j+1)+1)=dR vs (k+j+1):=λh=>by
     have:=JX (vs:=vs) (k:=((k+j+1:Nat):Int)) aa l8
     rw[show(((k+j+1:Nat):Int)+1).toNat=k+(j+1)+1 by omega,show(((k+j+1:Nat):Int)).toNat=k+j+1 by omega]at this
     exact this
    have w:¬ix vs ((k+j+1:Nat):Int)=ix vs ((k+j:Nat):Int)->dR vs (k+(j+1)+1)=dR vs (k+j+1) ++ [ix vs ((k+j+1:Nat):Int)]:=λh=>by
     have:=JY (vs:=vs) (k:=((k+j+1:Nat):Int)) aa l8
     rw[show(((k+j+1:Nat):Int)+1).toNat=k+(j+1)+1 by omega,show(((k+j+1:Nat):Int)).toNat=k+j+1 by omega]at this
     exact this
    rw[<-o,<-K,show((k+j+1:Nat):Int)=(k:Int)+((j:Int)+1)by omega,show((k+j:Nat):Int)=(k:Int)+j by omega]at u w
    simp[-ax,d,show(j:Int)+1<((vs.length-k:Nat):Int)by omega]
    refine⟨aa,aa,aa,aa,aa,λh=>⟨aa,aL (q,j+1,cs) ab rfl ⟨aI,d,by dsimp only;rw[u h];exact g,aI,by dsimp only;rw[u h];exact l,λi a b=>m i (by dsimp only at a;omega) b⟩ aI⟩,λh=>⟨aa,aa,aa,aa,aa,aL (q+1,j+1,cs.set q (ix cs ((k:Int)+((j:Int)+1)))) ab (by simp[List.map_set]) ⟨aI,cW,by dsimp only;rw[w h];simp;exact g,aI,?_,λi a b=>?_⟩ aI⟩⟩
    .dsimp only
     rw[w h,<-l,eD,List.take_set_of_le (aY _),List.getElem?_set_self aa]
     rfl
    .dsimp only at a ⊢
     rw[lh aa aa,ae aa]
     exact m i aa b
   .simp[-ax,show ¬(j:Int)+1<((vs.length-k:Nat):Int)by omega]
    have x:q<=vs.length:=aa
    have y:k+j+1=vs.length:=aa
    rw[y]at g l;refine⟨d,x,?_⟩;rw[Z9 (B:=Zb cs) rfl (by simp[upto,ay,d]) ⟨aa,by simp[d];omega,rfl,rfl,rfl⟩]
    have n:putAt (cs.map .int) q (cS (vs.length-q) [.int 0])=(eo vs).map .int++List.replicate (vs.length-q) (.int 0):=by
     unfold putAt;rw[<-List.map_take,l,kP (by simp[cS,d];omega)]
     simp[cS,eo]
    have z:(eo vs).length=q:=by unfold eo;exact g.symm
    simp[-List.map_replicate,n,z];omega
  .simp[r]
   rw[show k.toNat=vs.length by omega]at f
   rw[JV f];simp
def JZ{n:Nat}{zs:List Int}(e:ay σ b=some (Zb zs)) (f:n=zs.length) (g:zs ≠ []) (l:(zs.length:Int)<=1000000):L qi [.sl b n 0 n] σ=some (.bz [],az σ b (Zb (bl zs))):=by
 subst f;refine V6 (N:=0) ?_;have d : upto σ b zs.length=some (Zb zs):=by
  unfold upto;rw[e];simp
 have h:0<zs.length:=fc.2 g;simp only[gd,d];have m:zs.length<=cE:=by show zs.length<=1073741824;omega
 rw[ah (by simp[c6.isLive,dV,h];omega)]
 have i:(((zs.map AV.int).drop 0).take zs.length)=zs.map .int:=by rw[iF,hJ ab]
 rw[i,xg];have j:(bl zs).length=zs.length:=(kS zs).length_eq;have a:putAt (zs.map AV.int) 0 ((bl zs).map .int)=(bl zs).map .int:=by
  unfold putAt;rw[List.take_zero,kM,kP (by simp[j])];simp
 simp only[a]
def s4{rest:List AV}:∀{xs:List Int},chunk none xs.length (xs.map AV.int++rest)=xs.map .int
 | []=>rfl
 |x::xs=>by
  have e:=s4 (rest:=rest) (xs:=xs);simp only[eO,bC,kU,chunk,e]
def J0{r:Nat}{xs:List Int}(h:ay σ b=some (ZB xs r)) (a:u=xs.length+r):view σ false vd (.sl b u 0 xs.length)=some (iL xs):=by
 subst a;have a:upto σ b (xs.length+r)=some (ZB xs r):=by
  unfold upto;rw[h];simp
 show view σ false (11+1) _=_;unfold view;simp only[a,aC,iF,eL,Nat.mul_one];rw[ah ab,s4,nI (f:=AV.int) (g:=AV.int) (v:=view σ false 11) λ_ _=>rfl]
def BL (l:List Int):(eo l).length<=l.length:=JU l _
def ak.dj (m:ak):List Int:=eo (bl m.out.flatten)
variable{m:ak}
def aad{x:Int}:x∈m.dj↔x∈m.out.flatten:=by
 unfold ak.dj;rw[aaa,(kS _).mem_iff]
def J1{k:Nat}:∀{ls:List (List Int)},(∀r∈ls,r.length<=k)->ls.flatten.length<=ls.length*k
 | [],_=>by simp
 |r::ls,h=>by
  have a:=J1 (k:=k) (ls:=ls) λx b=>h x dS
  have d:=h r ab
  simp[fa]at a ⊢;omega
def Ok.BM(Y:m.Ok):∀r∈m.out,r.length<=64:=λr hr=>by
 obtain⟨j,hj,e⟩:=cd.1 hr;have vQ:=Y.len;have:=(Y.row j aa aa).2
 rw[aK hj,e]at this;have:=Y.inputs;omega
def Ok.pv(Y:m.Ok):m.out.flatten.length<=8192/\m.out.flatten ≠ []:=by
 have h1:=J1 (Ok.BM Y);have vQ:=Y.len;have hs:=Y.states;refine⟨by have:m.out.length*64<=128*64:=nZ _ aa;omega,λe=>?_⟩
 have hr:=(Y.row 0 aa aa).2
 have jQ:=Y.inputs;have hp:0<m.out.length:=aa
 have hx:=bt (l:=m.out) (n:=0) aa aa
 have:(ix m.out 0).length=0:=by
  have:=List.flatten_eq_nil_iff.1 e _ hx;rw[this];rfl
 omega
def aae (m:ak) (h:m.fits) (s:m.ao=0):PC yp [m.av]=some (iL m.dj):=by
 refine ba (V7 rfl ?_);have f:=fQ s;obtain⟨z,d⟩:=Ok.pv f;have A:=f.len;have E:=f.states;have hle:∀i:Nat,(m.out.take i).flatten.length<=m.out.flatten.length:=λi=>by
  have e:(m.out.take i).flatten++(m.out.drop i).flatten=m.out.flatten:=by rw[<-List.flatten_append,List.take_append_drop]
  rw[<-e];simp
 simp[fD m h,s];refine a6 (λi:Nat=>[(2,.int i),(5,.sl 0 ((m.out.take i).flatten).length 0 ((m.out.take i).flatten).length)]) (λi=>[fE (m.out.take i).flatten]) (λi=>i<=m.out.length) (λi=>m.out.length-i) 0 dL aa ?_
 intro i G
 by_cases j:i<m.out.length
 .have l:(m.out.take (i+1)).flatten=(m.out.take i).flatten++ix m.out (i:Int):=by
   rw[eD,cG j,aK j,List.flatten_append];simp
  have w:=hle (i+1);rw[l]at w;have a:=(f.row i aa aa).2
  have B:=f.inputs;have x:¬ix m.out (i:Int)=[]:=λe=>by rw[e]at a;simp at a;omega
  generalize (m.out.take i).flatten=F at *;rw[ez]at w;simp[-ax,-List.length_flatten,j,x];refine⟨dA,aa,aa,aL (i+1) (by rw[l];simp[-List.length_flatten]) (by rw[l];simp[-List.length_flatten,x]) aa aa⟩
 .have C:i=m.out.length:=by omega
  subst C;rw[kW];have o:fE m.out.flatten=Zb m.out.flatten:=by unfold fE;rw[ae d]
  have p:=JZ (σ:=[Zb m.out.flatten]) (b:=0) (n:=m.out.flatten.length) (zs:=m.out.flatten) rfl rfl d aa
  have p:L qi [.sl 0 m.out.flatten.length 0 m.out.flatten.length] [Zb m.out.flatten]=some (.bz [],[Zb (bl m.out.flatten)]):=p;have g:(bl m.out.flatten).length=m.out.flatten.length:=(kS _).length_eq;have q:bl m.out.flatten ≠ []:=λe=>d (fY (by rw[<-g,e];rfl))
  obtain⟨v,H,y,rfl,rfl⟩:=jz (aac (bl m.out.flatten) q aa)
  rw[g]at y;have D:=BL (bl m.out.flatten);have r:=J0 (σ:=[ZB (eo (bl m.out.flatten)) (m.out.flatten.length-(eo (bl m.out.flatten)).length)]) (b:=0) (u:=m.out.flatten.length) rfl aa
  rw[o];simp[-List.length_flatten,-List.map_replicate,p,y,r]
  rfl
attribute [local simp] QH
end Ab
namespace Ab
abbrev PS:=Sit×List Int
section
variable{q:List PS}{n:Int}{K:AV->Prop}{t:Tk K}
end
def J2{m:ak}(h:m.fU m.fT=0):m.ao=0/\gJ m:=by
 unfold ak.fU at h;split at h
 .rename_i a;exact absurd h a
 .split at h
  .rename_i b;exact oU.1 b
  .simp at h
end Ab
