/- A copy of a machine; and what it leans on. Condition: none. -/
import Derived.Test.YtcdccenbhiddcaaGreatWsuS
import Derived.Test.YtcdccenbhiddcaaGreatSepA
import Derived.Test.YtcdccenbhiddcaaGreatMnlT
import Derived.Test.YtcdccenbhiddcaaGreatMutD
import Derived.Test.YtcdccenbhiddcaaGreatMinE
import Derived.Test.YtcdccenbhiddcaaGreatSmallM
set_option linter.all false
set_option maxRecDepth 100000
set_option maxHeartbeats 4000000
namespace Ab
def px (l:List Int) (h:l ≠ []) (a:(l.length:Int)<=1000000):L iS [iL l] []=some (.sl 0 l.length 0 l.length,[Zb l]):=by
 cases l with
 |nil=>exact absurd rfl h
 |cons x l=>
  refine uR ?_;simp only[db,iL,bC];rw[ah]
  .simp
  .simp[isScalar,cE]
   simp at a;omega
def pN (j:Nat):Nat:=if j=0 then 0 else 2*j+2
def pO (j:Nat):Nat:=if j=0 then 2 else 2*j+3
def two (A O:List (List Int)):List aj:=(List.zip A O).flatMap λp=>[Zb p.1,Zb p.2]
def BT:∀{A O:List (List Int)},A.length=O.length->(two A O).length=2*A.length
 | [],[],_=>rfl
 |a::A,o::O,h=>by
  have:=BT (A:=A) (O:=O) ch
  simp[two]at this ⊢;omega
abbrev bxM (a st:Int) (n e:Nat):aj:=⟨some 4,[.int a,.int st,.sl (e+1) n 0 n,.sl (e+3) n 0 n],.live⟩
def Km (b st:Int) (N O:List (List Int)) (K:Nat):List aj:=match N,O with
 |a::A,o::O=>⟨some 4,[.int 0,.int 0,.ag,.ag],.live⟩::bxM b st (A.length+1) 2::Zb a::⟨none,rws 2 pN (A.length+1) K,.live⟩::Zb o::⟨none,rws 2 pO (A.length+1) K,.live⟩::two A O
 |_,_=>[⟨some 4,[.int 0,.int 0,.ag,.ag],.live⟩,⟨some 4,[.int b,.int st,.ag,.ag],.live⟩]
variable{df st:Int}{o:List Int}{A O:List (List Int)}{K:Nat}
theorem vE{a:List Int}:Km df st (a::A) (o::O) K=⟨some 4,[.int 0,.int 0,.ag,.ag],.live⟩::bxM df st (A.length+1) 2::Zb a::⟨none,rws 2 pN (A.length+1) K,.live⟩::Zb o::⟨none,rws 2 pO (A.length+1) K,.live⟩::two A O:=rfl
theorem aaF:Km df st [] [] K=[⟨some 4,[.int 0,.int 0,.ag,.ag],.live⟩,⟨some 4,[.int df,.int st,.ag,.ag],.live⟩]:=rfl
def aaG{a:List Int}(h:A.length=O.length):two (A ++ [a]) (O ++ [o])=two A O ++ [Zb a,Zb o]:=by
 unfold two;rw[List.zip_append h];simp
def aaH (m:ak) (q:m.Ok):LX L sk [m.av] [] (λv σ' =>v = .agg [.int m.inputs,.int m.start,.sl 3 m.next.length 0 m.next.length,.sl 5 m.next.length 0 m.next.length]/\∃B,σ' = B::(Km m.inputs m.start m.next m.out m.inputs.toNat).drop 1):=by
 refine Wn rfl ?_;have s:=q.inputs;have d:=q.states;have b:=q.len;have f:=q.row;have u:∀j:Nat,j<m.next.length->L iS [iL (ix m.next (j:Int))] []=some (.sl 0 m.inputs.toNat 0 m.inputs.toNat,[Zb (ix m.next (j:Int))])/\L iS [iL (ix m.out (j:Int))] []=some (.sl 0 m.inputs.toNat 0 m.inputs.toNat,[Zb (ix m.out (j:Int))]):=λj w=>by
  obtain⟨R,S⟩:=f j aa aa
  have H:(ix m.next (j:Int)).length=m.inputs.toNat:=aa
  have I:(ix m.out (j:Int)).length=m.inputs.toNat:=aa
  have z:=px (ix m.next (j:Int)) (fc.1 aa) aa
  have C:=px (ix m.out (j:Int)) (fc.1 aa) aa
  rw[H]at z;rw[I]at C;exact⟨z,C⟩
 obtain⟨df,st,N,O⟩:=m;dsimp only at s d b u ⊢
 match N,O,d,b with
 |a::A,[],_,h=>exact absurd h ai
 | [],_,h,_=>exact absurd h ab
 |a::A,o::O,d,b=>
 have g:A.length=O.length:=by simp at b;omega
 have l:=u 0 ab
 rw[show((0:Nat):Int)=0 from rfl]at l;simp;refine a6 (λi:Nat=>[(2,.int i)]) (λi=>Km df st ((a::A).take i) ((o::O).take i) df.toNat) (λi=>i<=(a::A).length) (λi=>(a::A).length-i) 0 (by simp[b5,Km]) ab ?_
 intro i r
 match i,r with
 |0,_=>
  rw[show(a::A).take 0=[]from rfl,show(o::O).take 0=[]from rfl,aaF];simp[-ax,l,iz,fZ,qy];refine aL 1 ab (by simp[vE,rws,two,pN,pO];exact⟨rfl,rfl⟩) ab ab
 |j+1,r=>
  have D:(A.take j).length=j:=by rw[ji,Nat.min_eq_left (by simp at r;omega)]
  rw[show(a::A).take (j+1)=a::A.take j from rfl,show(o::O).take (j+1)=o::O.take j from rfl,vE,D]
  by_cases w:j<A.length
  .obtain⟨E,F⟩:=u (j+1) ai
   have J:A.take (j+1)=A.take j ++ [ix (a::A) ((j+1:Nat):Int)]:=by rw[eD,cG w,aK ai];rfl
   have K:O.take (j+1)=O.take j ++ [ix (o::O) ((j+1:Nat):Int)]:=by rw[eD,cG aa,aK ai];rfl
   have e:=aaG (A:=A.take j) (O:=O.take j) (a:=ix (a::A) ((j+1:Nat):Int)) (o:=ix (o::O) ((j+1:Nat):Int)) ai
   rw[<-J,<-K]at e;rw[show((j+1:Nat):Int)=(j:Int)+1 from rfl]at E F e;have G:=BT (A:=A.take j) (O:=O.take j) ai
   rw[D]at G;generalize two (A.take j) (O.take j)=T at *;have x : (A.take (j+1)).length=j+1:=ai
   have y : j<O.length:=aa
   have M:pN (j+1)=2*j+4:=by unfold pN;rw[ae aa];omega
   have P:pO (j+1)=2*j+5:=by unfold pO;rw[ae aa];omega
   simp[-ax,w,y, E,F,iz,fZ,qy,G,kD];refine⟨aa,aa,aa,aa,aa,aL (j+2) ai ?_ ai aa⟩
   rw[show(a::A).take (j+2)=a::A.take (j+1)from rfl,show(o::O).take (j+2)=o::O.take (j+1)from rfl,vE,x, e,oP (p:=pN) (n:=j+1),oP (p:=pO) (n:=j+1),M,P]
  .have Q:j=A.length:=by simp at r;omega
   subst Q;rw[kW,g,kW,<-g];simp[lx]
   rfl
structure vF (Q:List aj) (N O:List (List Int)) (K:Nat):Prop where
 len:Q.length=2*N.length+4
 nl:ay Q 3=some ⟨none,rws 3 pN N.length K,.live⟩
 ol:ay Q 5=some ⟨none,rws 3 pO N.length K,.live⟩
 nr:∀j:Nat,j<N.length->ay Q (pN j+2)=some (Zb (ix N (j:Int)))
 or:∀j:Nat,j<N.length->ay Q (pO j+2)=some (Zb (ix O (j:Int)))
def tc:∀{A O:List (List Int)}{j:Nat},A.length=O.length->j<A.length->ay (two A O) (2*j)=some (Zb (ix A (j:Int)))/\ay (two A O) (2*j+1)=some (Zb (ix O (j:Int)))
 |a::A,o::O,0,h,_=>⟨rfl,rfl⟩
 |a::A,o::O,j+1,h,b=>by
  have:=tc (A:=A) (O:=O) (j:=j) ch (by simpa using b)
  have d:ix (a::A) ((j+1:Nat):Int)=ix A (j:Int):=by simp[ix]
  have e:ix (o::O) ((j+1:Nat):Int)=ix O (j:Int):=by simp[ix]
  rw[d,e];exact this
def Kn{k:Nat}:∀{A O:List (List Int)},(two A O).map (fZ k)=two A O
 | [],_=>by simp[two]
 |_::_,[]=>by simp[two]
 |a::A,o::O=>by
  have:=Kn (k:=k) (A:=A) (O:=O);unfold two at this ⊢;rw[List.zip_cons_cons,gR,eE,this];simp[fZ,qy]
def aaI (m:ak) (i:m.Ok):∃R,L sk [m.av] []=some (.agg [.int m.inputs,.int m.start,.sl 3 m.next.length 0 m.next.length,.sl 5 m.next.length 0 m.next.length],R)/\vF (R.map (fZ 1)) m.next m.out m.inputs.toNat:=by
 have l:=aaH m i;have d:=i.states;have b:=i.len;unfold LX at l;generalize L sk [m.av] []=o at *;cases o with
 |none=>exact absurd l (by simp[aH])
 |some p=>
  obtain⟨n,B,q⟩:=l;refine⟨p.2,by rw[<-n],?_⟩
  rw[q];clear n q;obtain⟨df,st,N,O⟩:=m;dsimp only at d b ⊢
  match N,O,d,b with
  |a::A,[],_,h=>exact absurd h ai
  | [],_,h,_=>exact absurd h ab
  |a::A,o::O,d,b=>
   have f:A.length=O.length:=by simp at b;omega
   have r:=BT (A:=A) (O:=O) f;rw[vE];simp only[List.drop_succ_cons,iF,bC,Kn,fZ,Zr,qy];refine⟨ai,rfl,rfl,λj g=>?_,λj g=>?_⟩
   .match j,g with
    |0,_=>rfl
    |j+1,g=>
     have:=(tc (j:=j) f eT).1
     have e:ix (a::A) ((j+1:Nat):Int)=ix A (j:Int):=by simp[ix]
     rw[e,<-this,show pN (j+1)+2=2*j+6 by unfold pN;rw[ae aa];omega]
   .match j,g with
    |0,_=>rfl
    |j+1,g=>
     have:=(tc (j:=j) f eT).2
     have e:ix (o::O) ((j+1:Nat):Int)=ix O (j:Int):=by simp[ix]
     rw[e,<-this,show pO (j+1)+2=(2*j+1)+6 by unfold pO;rw[ae aa];omega]
structure e8.Fits (x:e8) (m:ak):Prop where
 st:0<=x.st/\x.st<(m.next.length:Int)
 df:0<=x.df/\x.df<m.inputs
 val:(x.kind=1/\0<=x.val/\x.val<=1048576/\x.dE=0)\/(x.kind=2/\0<=x.val/\x.val<(m.next.length:Int)/\x.dE=0)\/(x.kind=3/\0<=x.val/\x.val<=1048576/\0<=x.dE/\x.dE<m.inputs)
def dF (l:List (List Int)) (i j v:Int):List (List Int):=l.set i.toNat ((ix l i).set j.toNat v)
def ak.gm (m:ak) (x:e8):ak:=
 if x.kind=1 then⟨m.inputs,m.start,m.next,dF m.out x.st x.df x.val⟩
 else if x.kind=2 then⟨m.inputs,m.start,dF m.next x.st x.df x.val,m.out⟩
 else⟨m.inputs,m.start,dF m.next x.st x.df m.next.length ++ [ix m.next (ix (ix m.next x.st) x.df)],m.out ++ [(ix m.out (ix (ix m.next x.st) x.df)).set x.dE.toNat x.val]⟩
variable{e n:Nat}{p:Nat->Nat}{s:Int}
def Ko(a:0<=s) (b:s<n):jL (rws e p n K) s.toNat=some (.sl (p s.toNat+e) K 0 K):=by
 have d:s.toNat<(rws e p n K).length:=by rw[kD];omega
 rw[jA];unfold rws;rw[eQ,List.getElem?_range aa]
 rfl
def pNO (i j:Nat):pN i ≠ pO j:=by unfold pN pO;split<;>split<;>omega
variable{i j:Nat}
def Kp(h:pN i=pN j):i=j:=by unfold pN at h;split at h<;>split at h<;>omega
def aaJ(h:pO i=pO j):i=j:=by unfold pO at h;split at h<;>split at h<;>omega
def lQ (i:Nat):pN i+2 ≠ 3/\pN i+2 ≠ 5:=by unfold pN;split<;>omega
def te (i:Nat):pO i+2 ≠ 3/\pO i+2 ≠ 5:=by unfold pO;split<;>omega
variable{l:List (List Int)}{r:List Int}
def tf{s:Nat}(a:j<l.length):ix (l.set s r) (j:Int)=if j=s then r else ix l (j:Int):=by
 rw[lh aa aa]
 by_cases e:j=s
 .rw[ah aa,ah e]
 .rw[ae aa,ae e]
variable{N:List (List Int)}
def vF.aaK{Q:List aj}(h:vF Q N O K) (hl:O.length=N.length){s:Nat}:vF (az Q (pO s+2) (Zb r)) N (O.set s r) K:=by
 refine⟨by rw[eF];exact h.len,?_,?_,λj Y=>?_,λj Y=>?_⟩
 .rw[e6 (te s).1];exact h.nl
 .rw[e6 (te s).2];exact h.ol
 .rw[e6 (by have:=pNO j s;omega)];exact h.nr j Y
 .rw[tf aa]
  by_cases e:j=s
  .subst e;rw[ah rfl];exact qz (oQ (h.or j Y))
  .rw[ae e,e6 (λq=>e (aaJ aa))];exact h.or j Y
def vF.bD{Q:List aj}{N O:List (List Int)}{K:Nat}(h:vF Q N O K) (hl:O.length=N.length){s:Nat}{r:List Int}:vF (az Q (pN s+2) (Zb r)) (N.set s r) O K:=by
 refine⟨by rw[eF,iH];exact h.len,?_,?_,λj Y=>?_,λj Y=>?_⟩
 .rw[e6 (lQ s).1,iH];exact h.nl
 .rw[e6 (lQ s).2,iH];exact h.ol
 .rw[iH]at Y
  rw[tf aa]
  by_cases e:j=s
  .subst e;rw[ah rfl];exact qz (oQ (h.nr j Y))
  .rw[ae e,e6 (λq=>e (Kp aa))];exact h.nr j Y
 .rw[iH]at Y
  rw[e6 (by have:=pNO s j;omega)];exact h.or j Y
def vF.rows{Q r:List aj}{B:aj}(h:vF Q N O K) (hl:O.length=N.length) (hN:∀j:Nat,j<N.length->(ix N (j:Int)).length=K) (hO:∀j:Nat,j<N.length->(ix O (j:Int)).length=K):en (B::(Q++r)) 4 (λj=>pN j+3) N/\en (B::(Q++r)) 6 (λj=>pO j+3) O:=by
 refine⟨⟨?_,λj Y=>gE (h.nr j Y)⟩,⟨?_,λj Y=>gE (h.or j aa)⟩⟩
 .have e:((List.range N.length).map λ(j:Nat)=>AV.sl (pN j+3) (ix N (j:Int)).length 0 (ix N (j:Int)).length)=rws 3 pN N.length K:=mT λj Y=>by rw[hN j (gw.1 Y)]
  rw[e];exact gE h.nl
 .have e:((List.range O.length).map λ(j:Nat)=>AV.sl (pO j+3) (ix O (j:Int)).length 0 (ix O (j:Int)).length)=rws 3 pO N.length K:=by
   rw[hl];exact mT λj Y=>by rw[hO j (gw.1 Y)]
  rw[e];exact gE h.ol
def aaL{l:List AV}(b:0<=s) (d:s<n):jL (rws e p n K++l) s.toNat=some (.sl (p s.toNat+e) K 0 K):=by
 have a:s.toNat<(rws e p n K).length:=by rw[kD];omega
 rw[jA,dG a];unfold rws;rw[eQ,List.getElem?_range aa]
 rfl
def Kq{σ:List aj}{b q:Nat}(g:n=l.length) (i:ay σ b=some ⟨none,rws 3 p n K ++ [.sl q K 0 K],.live⟩) (f:∀j:Nat,j<l.length->(ix l (j:Int)).length=K/\ay σ (p j+3)=some (Zb (ix l (j:Int)))) (m:r.length=K) (o:ay σ q=some (Zb r)) :
  en σ b (λj=>if j<n then p j+3 else q) (l ++ [r]):=by
 subst g;have a:ix (l ++ [r]) ((l.length:Nat):Int)=r:=dH;have d:∀j:Nat,j<l.length->ix (l ++ [r]) (j:Int)=ix l (j:Int):=λj e=>a7 aa aa
 refine⟨?_,λj e=>?_⟩
 .rw[i]
  congr 2
  rw[show(l ++ [r]).length=l.length+1 by simp,List.range_succ,eE]
  congr 1
  .unfold rws
   refine mT λj e=>?_;have e:=gw.1 e;rw[ah e,d j e,(f j e).1]
  .simp only[bC,List.map_nil]
   rw[ae aa,a,m]
 .by_cases h:j<l.length
  .rw[ah h,d j h];exact(f j h).2
  .have:j=l.length:=by simp at e;omega
   subst this;rw[ae h,a];exact o
def aaM (m:ak) (p:m.Ok) (x:e8) (hx:x.Fits m):PC uz [m.av,x.av]=some (m.gm x).av:=by
 refine ba (V2 rfl ?_);have jQ:=p.inputs;have eA:=p.states;have vQ:=p.len;obtain⟨b,ha,hv⟩:=hx;obtain⟨R,S,i⟩:=aaI m p;generalize u:R.map (fZ 1)=Q at *;have hQl:=i.len;have T:∀{r},ay (Q++r) 3=some ⟨none,rws 3 pN m.next.length m.inputs.toNat,.live⟩:=fun {r}=>gE i.nl
 have U:∀{r},ay (Q++r) 5=some ⟨none,rws 3 pO m.next.length m.inputs.toNat,.live⟩:=fun {r}=>gE i.ol
 have d:∀j:Nat,j<m.next.length->(ix m.next (j:Int)).length=m.inputs.toNat:=λj f=>by have:=(p.row j aa aa).1;omega
 have g:∀j:Nat,j<m.next.length->(ix m.out (j:Int)).length=m.inputs.toNat:=λj f=>by have:=(p.row j aa aa).2;omega
 have L : m.out.length=m.next.length:=aa
 rcases hv with⟨w,M,N,O⟩|⟨w,M,N,O⟩|⟨w,M,N,O,hv3⟩
 .have h:=i.or x.st.toNat aa
  rw[show((x.st.toNat:Nat):Int)=x.st by omega]at h
  have y : ∀{r},ay (Q++r) (pO x.st.toNat+2)=some (Zb (ix m.out x.st)):=fun {r}=>gE h;have V:∀{r B},az (Q++r) (pO x.st.toNat+2) B=az Q (pO x.st.toNat+2) B++r:=fun {r B}=>sW (oQ h);have W:∀{r B C},ay (az Q (pO x.st.toNat+2) B++C::r) Q.length=some C:=fun {r B C}=>sX eF;have X:=i.aaK L (s:=x.st.toNat) (r:=(ix m.out x.st).set x.df.toNat x.val);have l:=λB r=>(X.rows (B:=B) (r:=r) ai d (λj f=>by rw[tf aa];split;simp;have:=g x.st.toNat aa;rw[show((x.st.toNat:Nat):Int)=x.st by omega]at this;exact this;exact g j f))
  have z:=λB r=>kE (k:=8) (n:=m.next.length) (l B r).1 rfl
  have G:=λB r=>kE (k:=8) (n:=m.next.length) (l B r).2 ai
  simp[-List.map_set,lx,z,G,V,W,S,u,w,iz,iy,nS,BC,ly,lz,T,U,y, Ko b.1 b.2,b.1,b.2,kD];have P:=g x.st.toNat aa
  rw[show((x.st.toNat:Nat):Int)=x.st by omega]at P
  have e:m.gm x=⟨m.inputs,m.start,m.next,dF m.out x.st x.df x.val⟩:=by unfold ak.gm;rw[ah w]
  rw[e];exact⟨aa,P,aa,rfl,rfl,rfl,rfl⟩
 .have h:=i.nr x.st.toNat aa
  rw[show((x.st.toNat:Nat):Int)=x.st by omega]at h
  have y : ∀{r},ay (Q++r) (pN x.st.toNat+2)=some (Zb (ix m.next x.st)):=fun {r}=>gE h
  have V:∀{r B},az (Q++r) (pN x.st.toNat+2) B=az Q (pN x.st.toNat+2) B++r:=fun {r B}=>sW (oQ h);have W:∀{r B C},ay (az Q (pN x.st.toNat+2) B++C::r) Q.length=some C:=fun {r B C}=>sX eF;have X:=i.bD L (s:=x.st.toNat) (r:=(ix m.next x.st).set x.df.toNat x.val)
  have a:=d x.st.toNat aa
  rw[show((x.st.toNat:Nat):Int)=x.st by omega]at a
  have l:=λB r=>(X.rows (B:=B) (r:=r) ai (λj f=>by rw[tf jm];split;simp;exact a;exact d j jm) (λj f=>g j jm))
  have z:=λB r=>kE (k:=8) (n:=m.next.length) (l B r).1 ab
  have G:=λB r=>kE (k:=8) (n:=m.next.length) (l B r).2 aa
  simp[-List.map_set,lx,z,G,V,W,S,u,w,iz,iy,nS,BC,ly,lz,T,U,y, Ko b.1 b.2,b.1,b.2,kD];have e:m.gm x=⟨m.inputs,m.start,dF m.next x.st x.df x.val,m.out⟩:=by unfold ak.gm;rw[ae aa,ah w]
  rw[e];exact⟨aa,a,aa,rfl,rfl,rfl,rfl⟩
 .generalize Y:ix (ix m.next x.st) x.df=t
  have H:=p.nx x.st x.df b.1 b.2 ha.1 ha.2;rw[Y]at H;have a:=d x.st.toNat aa
  rw[show((x.st.toNat:Nat):Int)=x.st by omega]at a
  have I:=d t.toNat aa
  rw[show((t.toNat:Nat):Int)=t by omega]at I
  have J:=g t.toNat aa
  rw[show((t.toNat:Nat):Int)=t by omega]at J
  have k1:=px (ix m.next t) (fc.1 aa) aa
  have k2:=px (ix m.out t) (fc.1 aa) aa
  have h:=i.nr x.st.toNat aa
  rw[show((x.st.toNat:Nat):Int)=x.st by omega]at h
  have gA:∀{r B},az (Q++r) 3 B=az Q 3 B++r:=fun {r B}=>sW aa
  have gB:∀{r B C},az (az Q 3 B++r) 5 C=az (az Q 3 B) 5 C++r:=fun {r B C}=>sW (by rw[eF];omega)
  have gC:∀{r B C D},az (az (az Q 3 B) 5 C++r) (pN x.st.toNat+2) D=az (az (az Q 3 B) 5 C) (pN x.st.toNat+2) D++r:=fun {r B C D}=>sW (by rw[eF,eF];exact oQ h)
  have b1:∀{r B},ay (az Q 3 B++r) 5=some ⟨none,rws 3 pO m.next.length m.inputs.toNat,.live⟩:=fun {r B}=>gE (by rw[e6 aa];exact i.ol)
  have b2:∀{r B C},ay (az (az Q 3 B) 5 C++r) 3=some B:=fun {r B C}=>gE (by rw[e6 aa];exact qz aa)
  have b3:∀{r B C},ay (az (az Q 3 B) 5 C++r) (pN x.st.toNat+2)=some (Zb (ix m.next x.st)):=fun {r B C}=>gE (by rw[e6 (by have:=lQ x.st.toNat;omega),e6 (by have:=lQ x.st.toNat;omega)];exact h)
  have c1:∀{r B C},ay (az Q 3 B++C::r) Q.length=some C:=fun {r B C}=>sX eF;have c2:∀{r B C D},ay (az (az Q 3 B) 5 D++C::r) Q.length=some C:=fun {r B C D}=>sX (by rw[eF,eF])
  have c3:∀{r B C D E},ay (az (az (az Q 3 B) 5 D) (pN x.st.toNat+2) E++C::r) Q.length=some C:=fun {r B C D E}=>sX (by rw[eF,eF,eF])
  have d1:∀{r B C F},az (az Q 3 B++C::r) Q.length F=az Q 3 B++F::r:=fun {r B C F}=>Jx eF;have d2:∀{r B C D F},az (az (az Q 3 B) 5 D++C::r) Q.length F=az (az Q 3 B) 5 D++F::r:=fun {r B C D F}=>Jx (by rw[eF,eF])
  have o:∀{B bx r'},r'.length=m.inputs.toNat->en (B::(az (az (az Q 3 ⟨none,rws 3 pN m.next.length m.inputs.toNat ++ [.sl (Q.length+2+1) m.inputs.toNat 0 m.inputs.toNat],.live⟩) 5 ⟨none,rws 3 pO m.next.length m.inputs.toNat ++ [.sl (Q.length+1+1) m.inputs.toNat 0 m.inputs.toNat],.live⟩) (pN x.st.toNat+2) (Zb r') ++ [bx,Zb ((ix m.out t).set x.dE.toNat x.val),Zb (ix m.next t)])) 4 (λj=>if j<m.next.length then pN j+3 else Q.length+2+1) (m.next.set x.st.toNat r' ++ [ix m.next t])/\en (B::(az (az (az Q 3 ⟨none,rws 3 pN m.next.length m.inputs.toNat ++ [.sl (Q.length+2+1) m.inputs.toNat 0 m.inputs.toNat],.live⟩) 5 ⟨none,rws 3 pO m.next.length m.inputs.toNat ++ [.sl (Q.length+1+1) m.inputs.toNat 0 m.inputs.toNat],.live⟩) (pN x.st.toNat+2) (Zb r') ++ [bx,Zb ((ix m.out t).set x.dE.toNat x.val),Zb (ix m.next t)])) 6 (λj=>if j<m.next.length then pO j+3 else Q.length+1+1) (m.out ++ [(ix m.out t).set x.dE.toNat x.val]):=by
   intro B bx r' Z;have hle:∀{A C D:aj},(az (az (az Q 3 A) 5 C) (pN x.st.toNat+2) D).length=Q.length:=by intros;rw[eF,eF,eF]
   have bP:=oQ h;have n1:=lQ x.st.toNat;refine⟨Kq (n:=m.next.length) (K:=m.inputs.toNat) ab ?_ (λj f=>?_) I ?_,Kq (n:=m.next.length) (K:=m.inputs.toNat) aa ?_ (λj f=>?_) (by simpa using J) ?_⟩
   .refine gE ?_
    rw[e6 n1.1,e6 aa];exact qz aa
   .rw[iH]at f
    rw[tf aa]
    have n2:=lQ j
    by_cases e:j=x.st.toNat
    .subst e
     rw[ah rfl];exact⟨Z, gE (qz (by rw[eF,eF];exact bP))⟩
    .rw[ae e]
     exact⟨d j f,gE (by rw[e6 (λq=>e (Kp aa)),e6 aa,e6 aa];exact i.nr j f)⟩
   .rw[nS]
    have:=Jw (Q:=az (az (az Q 3 ⟨none,rws 3 pN m.next.length m.inputs.toNat ++ [.sl (Q.length+2+1) m.inputs.toNat 0 m.inputs.toNat],.live⟩) 5 ⟨none,rws 3 pO m.next.length m.inputs.toNat ++ [.sl (Q.length+1+1) m.inputs.toNat 0 m.inputs.toNat],.live⟩) (pN x.st.toNat+2) (Zb r')) (A:=bx) (B:=Zb ((ix m.out t).set x.dE.toNat x.val)) (C:=Zb (ix m.next t)) (r:=[])
    rw[hle]at this;exact this
   .refine gE ?_
    rw[e6 n1.2];exact qz (by rw[eF];omega)
   .have n2:=te j
    have n3:=pNO x.st.toNat j;exact⟨g j aa,gE (by rw[e6 aa,e6 aa,e6 aa];exact i.or j aa)⟩
   .rw[nS]
    have:=vq (Q:=az (az (az Q 3 ⟨none,rws 3 pN m.next.length m.inputs.toNat ++ [.sl (Q.length+2+1) m.inputs.toNat 0 m.inputs.toNat],.live⟩) 5 ⟨none,rws 3 pO m.next.length m.inputs.toNat ++ [.sl (Q.length+1+1) m.inputs.toNat 0 m.inputs.toNat],.live⟩) (pN x.st.toNat+2) (Zb r')) (A:=bx) (B:=Zb ((ix m.out t).set x.dE.toNat x.val)) (r:=[Zb (ix m.next t)])
    rw[hle]at this;exact this
  have hw4:=λB bx=>kE (k:=8) (n:=m.next.length+1) (o (B:=B) (bx:=bx) (r' :=(ix m.next x.st).set x.df.toNat m.next.length) (by rw[iH];exact a)).1 ab
  have hw6:=λB bx=>kE (k:=8) (n:=m.next.length+1) (o (B:=B) (bx:=bx) (r' :=(ix m.next x.st).set x.df.toNat m.next.length) (by rw[iH];exact a)).2 ai
  simp[-List.map_set,-List.map_append,-ax,hw4,hw6,c3,aaL b.1 b.2,lx,Y,H.1,H.2,k1,k2,gA,gB,gC,b1,b2,b3,c1,c2,c3,d1,d2,S,u,w,iz,iy,fZ,qy,nS,BC,ly,lz,vq,BD,Jw,T,U,b.1,b.2,kD,a,I,J];have e:m.gm x=⟨m.inputs,m.start,dF m.next x.st x.df m.next.length ++ [ix m.next (ix (ix m.next x.st) x.df)],m.out ++ [(ix m.out (ix (ix m.next x.st) x.df)).set x.dE.toNat x.val]⟩:=by unfold ak.gm;rw[ae aa,ae aa]
  rw[e,Y];exact⟨aa,aa,aa,aa,aa,aa,aa,aa,rfl,rfl,rfl,rfl⟩
instance (x:e8) (m:ak):Decidable (x.Fits m):=
 if h:(0<=x.st/\x.st<(m.next.length:Int))/\(0<=x.df/\x.df<m.inputs)/\((x.kind=1/\0<=x.val/\x.val<=1048576/\x.dE=0)\/(x.kind=2/\0<=x.val/\x.val<(m.next.length:Int)/\x.dE=0)\/(x.kind=3/\0<=x.val/\x.val<=1048576/\0<=x.dE/\x.dE<m.inputs))then isTrue ⟨h.1,h.2.1,h.2.2⟩else isFalse λ⟨a,b,c⟩=>h ⟨a,b,c⟩
def ak.apply (m:ak) (x:e8):ak×Int:=
 if m.ao ≠ 0 then(⟨0,0,[],[]⟩,m.ao)else if ¬x.Fits m then(⟨0,0,[],[]⟩,1)else if x.kind=3/\128<=(m.next.length:Int)then(⟨0,0,[],[]⟩,11)else(m.gm x,0)
variable{m:ak}
def aaN(h:m.Ok):m.ao=0:=by
 have r:=h.inputs;have g:=h.states;have u:=h.start;have w:=h.len;have b:m.next ≠ []:=by intro e;rw[e]at g;simp at g
 have l:m.dW=0:=by
  unfold ak.dW;rw[ae aa,ae aa,ae b,ae aa,ae aa,ae aa,ae aa]
 unfold ak.ao;rw[ae (by simpa using l)]
 refine oH λs d f=>?_;obtain⟨p,q⟩:=h.row s d f;refine AI p q λa i j=>?_;unfold ak.fC;have n:=h.nx s a d f i j;have o:=h.ot s a d f i j;rw[uX.2 n,uX.2 aa];rfl
variable{a x:Int}{outs:List Int}{y:e8}
def Kr{k b:Int}:y∈pick k s a b x outs↔∃o∈outs,o ≠ x/\y=⟨k,s,a,o,b⟩:=by
 unfold pick;simp only[cB,jt,cO];constructor
 .rintro⟨o,⟨d,e⟩,rfl⟩;exact⟨o,d,e,rfl⟩
 .rintro⟨o,d,e,rfl⟩;exact⟨o,⟨d,e⟩,rfl⟩
def aaO{t:Int}:y∈eJ s a t n↔∃u:Nat,u<n/\(u:Int) ≠ t/\y=⟨2,s,a,u,0⟩:=by
 unfold eJ;simp only[cB,jt,gw,cO];constructor
 .rintro⟨o,⟨b,d⟩,rfl⟩;exact⟨o,b,d,rfl⟩
 .rintro⟨o,b,d,rfl⟩;exact⟨o,⟨b,d⟩,rfl⟩
def Ks{s a:Int}{row outs:List Int}{y:e8}:∀{n:Nat},y∈cD s a row outs n↔∃b:Nat,b<n/\∃o∈outs,o ≠ ix row (b:Int)/\y=⟨3,s,a,o,b⟩
 |0=>by simp[cD]
 |n+1=>by
  rw[cD,cp,Ks,Kr];constructor
  .rintro(⟨b,f,d⟩|h)
   .exact⟨b,aa,d⟩
   .exact⟨n,aa,h⟩
  .rintro⟨b,f,d⟩
   by_cases e:b=n
   .subst e;exact .inr d
   .exact .inl ⟨b,aa,d⟩
def aaP(h:y∈m.iX s a outs):y.st=s/\y.df=a/\((y.kind=1/\y.val∈outs/\y.val ≠ ix (ix m.out s) a/\y.dE=0)\/(y.kind=2/\(0<=y.val/\y.val<(m.next.length:Int))/\y.val ≠ ix (ix m.next s) a/\y.dE=0)\/(y.kind=3/\(m.next.length:Int)<128/\y.val∈outs/\(0<=y.dE/\y.dE<m.inputs)/\y.val ≠ ix (ix m.out (ix (ix m.next s) a)) y.dE)):=by
 unfold ak.iX at h;rcases cp.1 h with h|h
 .rcases cp.1 h with h|h
  .obtain⟨o,e,d,rfl⟩:=Kr.1 h
   exact⟨rfl,rfl,.inl ⟨rfl,e,d,rfl⟩⟩
  .obtain⟨u,e,d,rfl⟩:=aaO.1 h
   exact⟨rfl,rfl,.inr (.inl ⟨rfl,aI,d,rfl⟩)⟩
 .split at h
  .simp at h
  .rename_i g
   obtain⟨b,e,o,d,f,rfl⟩:=Ks.1 h;exact⟨rfl,rfl,.inr (.inr ⟨rfl,aa,d,aI,f⟩)⟩
def Kt{m:ak}{s:Int}{o:List Int}{y:e8}:∀{n:Nat},y∈er m s o n->∃a:Nat,a<n/\y∈m.iX s (a:Int) o
 |0,h=>by simp[er]at h
 |n+1,h=>by
  rcases cp.1 h with h|h
  .obtain⟨a,d,b⟩:=Kt h
   exact⟨a,aa,b⟩
  .exact⟨n,aa,h⟩
def aaQ(h:y∈m.allM):∃s∈m.rz,∃a,0<=a/\a<m.inputs/\y∈m.iX s a m.dj:=by
 unfold ak.allM ju at h;obtain⟨s,b,h⟩:=jS.1 h;obtain⟨a,e,d⟩:=Kt h;exact⟨s,b,(a:Int),aa,aa,d⟩
def Ok.aaR(Y:m.Ok)(h:x∈m.out.flatten):0<=x/\x<=1048576:=by
 obtain⟨r,hr,hx⟩:=List.mem_flatten.1 h;obtain⟨i,hi,rfl⟩:=cd.1 hr;obtain⟨j,hj,rfl⟩:=cd.1 hx;have hl:=Y.len;have hro:=(Y.row i aa aa).2
 rw[aK hi]at hro;have:=Y.ot i j aa aa aa aa
 rwa [aK hi,aK hj]at this
def BU(f:m.Ok)(h:y∈m.allM):y.Fits m/\(y.kind=3->(m.next.length:Int)<128):=by
 obtain⟨s,i,a,n,o,h⟩:=aaQ h;have p:=Kh f s i;obtain⟨q,r,h⟩:=aaP h;have g:∀x,x∈m.dj->0<=x/\x<=1048576:=λx j=>Ok.aaR f (aad.1 j);rcases h with⟨k,b,d,e⟩|⟨k,b,d,e⟩|⟨k,l,b,d,e⟩
 .have:=g _ b
  exact⟨⟨aa,aa,.inl ⟨k,aa,aa,e⟩⟩,aa⟩
 .exact⟨⟨aa,aa,.inr (.inl ⟨k,b.1,b.2,e⟩)⟩,aa⟩
 .have:=g _ b
  exact⟨⟨aa,aa,.inr (.inr ⟨k,aa,aa,d.1,d.2⟩)⟩,λ_=>l⟩
variable{v:Int}
def BV{i j:Int}(g:0<=s) (s1:s<l.length) (h:0<=a) (d:0<=i) (i1:i<l.length) (f:0<=j) (m:j<((ix l i).length:Int)):ix (ix (dF l s a v) i) j=if i=s/\j=a then v else ix (ix l i) j:=by
 unfold dF;rw[lh d i1]
 by_cases e:i=s
 .subst e
  rw[ah aa,lh f aa]
  by_cases b:j=a
  .rw[ah aa,ah ⟨rfl,b⟩]
  .rw[ae aa,ae dS]
 .rw[ae aa,ae (by simp[e])]
def BW{i:Int}(d:0<=s) (b:0<=i) (i1:i<l.length):(ix (dF l s a v) i).length=(ix l i).length:=by
 unfold dF;rw[lh b i1]
 by_cases e:i=s
 .subst e;rw[ah aa,iH]
 .rw[ae aa]
def j7:(dF l s a v).length=l.length:=by simp[dF]
def BX(f:m.Ok){x:e8}(F:x.Fits m) (z:x.kind=3->(m.next.length:Int)<128):(m.gm x).Ok:=by
 have o:=f.inputs;have p:=f.states;have j:=f.len;have q:=f.start;obtain⟨i,r,G⟩:=F;have n:=f.nx x.st x.df i.1 i.2 r.1 r.2;unfold ak.gm;rcases G with⟨k,A,B,C⟩|⟨k,A,B,C⟩|⟨k,A,B,C,H⟩
 .rw[ah k]
  refine⟨o,p,q,by simp only[j7];exact j,λs b d=>?_,f.nx,λs a b d g h=>?_⟩
  .have:=f.row s b d
   exact⟨this.1,by dsimp only;rw[BW i.1 b (by dsimp only at d;omega)];exact this.2⟩
  .dsimp only at d h ⊢
   rw[BV i.1 aa r.1 b aa g (by have:=(f.row s b d).2;omega)]
   split
   .omega
   .exact f.ot s a b d g h
 .rw[ae aa,ah k]
  refine⟨o,by simp only[j7];exact p,by simp only[j7];exact q,by simp only[j7];exact j,λs b d=>?_,λs a b d g h=>?_,λs a b d g h=>?_⟩
  .simp only[j7]at d
   have:=f.row s b d;exact⟨by dsimp only;rw[BW i.1 b d];exact this.1,this.2⟩
  .simp only[j7]at d ⊢
   dsimp only at h;rw[BV i.1 i.2 r.1 b d g (by have:=(f.row s b d).1;omega)]
   split
   .omega
   .exact f.nx s a b d g h
  .simp only[j7]at d
   exact f.ot s a b d g h
 .rw[ae aa,ae aa]
  generalize ix (ix m.next x.st) x.df=t at *
  have z:=z k;have D:∀s,0<=s->s<(m.next.length:Int)->ix (dF m.next x.st x.df m.next.length ++ [ix m.next t]) s=ix (dF m.next x.st x.df m.next.length) s:=λs b d=>a7 b (by rw[j7];exact d)
  have u:ix (dF m.next x.st x.df m.next.length ++ [ix m.next t]) (m.next.length:Int)=ix m.next t:=by
   have:=dH (l:=dF m.next x.st x.df m.next.length) (x:=ix m.next t)
   rwa [j7]at this
  have E:∀s,0<=s->s<(m.next.length:Int)->ix (m.out ++ [(ix m.out t).set x.dE.toNat x.val]) s=ix m.out s:=λs b d=>a7 b aa
  have w:ix (m.out ++ [(ix m.out t).set x.dE.toNat x.val]) (m.next.length:Int)=(ix m.out t).set x.dE.toNat x.val:=by
   have:=dH (l:=m.out) (x:=(ix m.out t).set x.dE.toNat x.val)
   rwa [j]at this
  have y:(((dF m.next x.st x.df m.next.length ++ [ix m.next t]).length:Nat):Int)=m.next.length+1:=by simp[j7]
  refine⟨o,aI,aI,by dsimp only;rw[y];simp;exact j,λs b d=>?_,λs a b d g h=>?_,λs a b d g h=>?_⟩
  .dsimp only at d ⊢
   by_cases e:s<(m.next.length:Int)
   .have:=f.row s b e
    rw[D s b e,E s b e,BW i.1 b e];exact this
   .have e:s=(m.next.length:Int):=by omega
    subst e;rw[u,w,iH];exact f.row t n.1 n.2
  .dsimp only at d h ⊢
   rw[y]
   by_cases e:s<(m.next.length:Int)
   .rw[D s b e,BV i.1 i.2 r.1 b e g (by have:=(f.row s b e).1;omega)]
    split
    .omega
    .have:=f.nx s a b e g h;omega
   .have e:s=(m.next.length:Int):=by omega
    subst e;rw[u];have:=f.nx t a n.1 n.2 g h;omega
  .dsimp only at d h ⊢
   by_cases e:s<(m.next.length:Int)
   .rw[E s b e];exact f.ot s a b e g h
   .have e:s=(m.next.length:Int):=by omega
    subst e;rw[w,lh g (by have:=(f.row t n.1 n.2).2;omega)]
    split
    .omega
    .exact f.ot t a n.1 n.2 g h
def Ku(a:m.Ok):m.fits:=by
 have h:=a.inputs;have l:=a.states;have n:=a.len;have o:=a.start;refine⟨k9.2 aa,k9.2 aa,⟨aa,λr e=>?_⟩,⟨aa,λr e=>?_⟩⟩
 .obtain⟨i,d,rfl⟩:=cd.1 e
  have b:=(a.row i aa aa).1
  rw[aK d]at b;refine⟨aa,λx f=>?_⟩
  obtain⟨j,g,rfl⟩:=cd.1 f;have:=a.nx i j aa aa aa aa
  rw[aK d,aK g]at this;exact k9.2 aa
 .obtain⟨i,d,rfl⟩:=cd.1 e
  have b:=(a.row i aa aa).2
  rw[aK d]at b;refine⟨aa,λx f=>?_⟩
  obtain⟨j,g,rfl⟩:=cd.1 f;have:=a.ot i j aa aa aa aa
  rw[aK d,aK g]at this;exact k9.2 aa
end Ab
