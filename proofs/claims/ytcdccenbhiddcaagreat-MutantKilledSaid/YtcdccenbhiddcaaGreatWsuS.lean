/- The mutations of a transition; and what it leans on. Condition: none. -/
import Derived.Test.YtcdccenbhiddcaaGreatSepE
import Derived.Test.YtcdccenbhiddcaaGreatSmallM
import Derived.Test.YtcdccenbhiddcaaGreatSepA
import Derived.Test.YtcdccenbhiddcaaGreatHomV
import Derived.Test.YtcdccenbhiddcaaGreatMnlT
import Derived.Test.YtcdccenbhiddcaaGreatSuiS
import Derived.Test.YtcdccenbhiddcaaGreatUptoK
import Derived.Test.YtcdccenbhiddcaaGreatWsuM
import Derived.Test.YtcdccenbhiddcaaGreatCovF
import Derived.Test.YtcdccenbhiddcaaGreatGbf
set_option linter.all false
set_option maxRecDepth 100000
set_option maxHeartbeats 4000000
namespace Ab
structure e8 where
 kind:Int
 st:Int
 df:Int
 val:Int
 dE:Int
 deriving Inhabited,DecidableEq
abbrev e8.av (x:e8):AV:=.agg [.int x.kind,.int x.st,.int x.df,.int x.val,.int x.dE]
def uc (x:e8):List AV:=[.int x.kind,.int x.st,.int x.df,.int x.val,.int x.dE]
def pw (xs:List e8):List AV:=xs.flatMap uc
def j6:∀{xs:List e8},(pw xs).length=5*xs.length
 | []=>rfl
 |x::xs=>by
  have:=j6 (xs:=xs);show(uc x++pw xs).length=_;rw[ez,this];show 5+_=_;simp;omega
variable{xs:List e8}
def qD{ys:List e8}:pw (xs++ys)=pw xs++pw ys:=by simp[pw]
def vz{x:e8}:pw [x]=uc x:=by simp[pw]
def J7:∀{xs:List e8},chunk (some 5) xs.length (pw xs)=xs.map e8.av
 | []=>rfl
 |x::xs=>by
  have e:=J7 (xs:=xs);rw[bC,<-e];rfl
abbrev uB (xs:List e8):aj:=⟨some 5,pw xs,if xs=[]then .fN else .live⟩
abbrev uS (b:Nat) (xs:List e8):AV:=.sl b (5*xs.length) 0 xs.length
abbrev J8 (xs:List e8):AV:=.aA false (xs.map e8.av)
variable{σ:List aj}
def vA{fr:Bool}{b:Nat}(h:ay σ b=some (uB xs)):view σ fr vd (uS b xs)=some (J8 xs):=by
 have d:upto σ b (5*xs.length)=some (uB xs):=by
  unfold upto;rw[h]
  by_cases a:xs=[]
  .subst a;rfl
  .simp[a,j6]
 show view σ fr (11+1) _=_;unfold view;simp only[d,aC,j6,iF];rw[ah aa,J7,nI (f:=e8.av) (g:=e8.av) (v:=view σ fr 11)]
 intro x _
 rfl
def pick (k s a b x:Int) (outs:List Int):List e8:=(outs.filter λo=>decide (o ≠ x)).map λo=>⟨k,s,a,o,b⟩
variable{k s a b x:Int}{outs:List Int}
def J9{i:Nat}(h:i<outs.length):pick k s a b x (outs.take (i+1))=pick k s a b x (outs.take i)++(if ix outs (i:Int)=x then[]else[⟨k,s,a,ix outs (i:Int),b⟩]):=by
 unfold pick;rw[eD,cG h,aK h,List.filter_append,eE]
 by_cases e:outs[i]=x<;>simp[List.filter_cons,e]
def s7:(pick k s a b x outs).length<=outs.length:=by
 unfold pick;rw[cP];exact ou _ _
def eJ (s a t:Int) (n:Nat):List e8:=((List.range n).filter λu=>decide (((u:Nat):Int) ≠ t)).map λu=>⟨2,s,a,(u:Nat),0⟩
variable{t:Int}{n:Nat}
def aaq:eJ s a t (n+1)=eJ s a t n++(if(n:Int)=t then[]else[⟨2,s,a,n,0⟩]):=by
 unfold eJ;rw[List.range_succ,List.filter_append,eE]
 by_cases e:(n:Int)=t<;>simp[List.filter_cons,e]
def BO:(eJ s a t n).length<=n:=by
 unfold eJ;rw[cP];have:=ou (λu=>decide (((u:Nat):Int) ≠ t)) (List.range n);simpa using this
def cD (s a:Int) (row:List Int) (outs:List Int):Nat->List e8
 |0=>[]
 |b+1=>cD s a row outs b++pick 3 s a b (ix row (b:Int)) outs
def vB{s a:Int}{row outs:List Int}:∀{n:Nat},(cD s a row outs n).length<=n*outs.length
 |0=>by simp[cD]
 |n+1=>by
  have d:=vB (s:=s) (a:=a) (row:=row) (outs:=outs) (n:=n);have e:=s7 (k:=3) (s:=s) (a:=a) (b:=n) (x:=ix row (n:Int)) (outs:=outs);simp only[cD,ez,fa];omega
def ak.iX (m:ak) (s a:Int) (outs:List Int):List e8:=
 (pick 1 s a 0 (ix (ix m.out s) a) outs++eJ s a (ix (ix m.next s) a) m.next.length)++(if 128<=(m.next.length:Int)then[]else cD s a (ix m.out (ix (ix m.next s) a)) outs m.inputs.toNat)
def aar (m:ak) (r:m.Ok) (s a:Int) (o:0<=s/\s<(m.next.length:Int)) (p:0<=a/\a<m.inputs) (outs:List Int) (R:outs.length<=8192):PC yq [m.av,.int s,.int a,iL outs]=some (J8 (m.iX s a outs)):=by
 refine ba (V8 rfl ?_);have S:=r.len;have T:=r.states;have U:=r.inputs;have h:=r.row s o.1 o.2;have u:s<(m.out.length:Int):=aa
 have A:=r.nx s a o.1 o.2 p.1 p.2;have V:=r.row _ A.1 A.2;generalize O:m.iX s a outs=M;unfold ak.iX at O;simp[o.1,o.2,p.1,p.2,h.1];refine a6 (λi:Nat=>[(5,.int i),(9,uS 0 (pick 1 s a 0 (ix (ix m.out s) a) (outs.take i)))]) (λi=>[uB (pick 1 s a 0 (ix (ix m.out s) a) (outs.take i))]) (λi=>i<=outs.length) (λi=>outs.length-i) 0 (by simp[b5,pick,pw]) aa ?_
 intro i Q;have pl:=s7 (k:=1) (s:=s) (a:=a) (b:=0) (x:=ix (ix m.out s) a) (outs:=outs.take i);rw[ji]at pl
 by_cases g:i<outs.length
 .have f:=J9 (k:=1) (s:=s) (a:=a) (b:=0) (x:=ix (ix m.out s) a) g
  generalize pick 1 s a 0 (ix (ix m.out s) a) (outs.take i)=F at *;have j:(5*F.length=F.length*aC (some 5))=True:=cq gY
  by_cases e:ix outs (i:Int)=ix (ix m.out s) a
  .rw[ah e,js]at f
   have l : (ix outs (i:Int)=ix (ix m.out s) a)=True:=cq e;simp[-ax,g,o.1,u,p.1,p.2,h.2,l];exact⟨aa,aL (i+1) (by simp[f]) (by simp[f]) aa aa⟩
  .rw[ae e]at f
   simp[-ax,g,o.1,u,p.1,p.2,h.2,e,j,j6];refine⟨dA,aa,aa,aL (i+1) (by simp[f,Nat.mul_add]) (by simp[f,qD,vz,uc]) aa aa⟩
 .have w:i=outs.length:=by omega
  subst w;rw[kW]at pl ⊢;have q:M=(pick 1 s a 0 (ix (ix m.out s) a) outs++eJ s a (ix (ix m.next s) a) m.next.length)++(if 128<=(m.next.length:Int)then[]else cD s a (ix m.out (ix (ix m.next s) a)) outs m.inputs.toNat):=O.symm
  generalize hP:pick 1 s a 0 (ix (ix m.out s) a) outs=P at *;simp[-ax,g];refine a6 (λi:Nat=>[(10,.int i),(9,uS 0 (P++eJ s a (ix (ix m.next s) a) i))]) (λi=>[uB (P++eJ s a (ix (ix m.next s) a) i)]) (λi=>i<=m.next.length) (λi=>m.next.length-i) 0 (by simp[b5,eJ]) aa ?_
  intro i Q;have nl:=BO (s:=s) (a:=a) (t:=ix (ix m.next s) a) (n:=i)
  by_cases g:i<m.next.length
  .have ns:=aaq (s:=s) (a:=a) (t:=ix (ix m.next s) a) (n:=i)
   generalize eJ s a (ix (ix m.next s) a) i=N at *
   have j:(5*(P++N).length=(P++N).length*aC (some 5))=True:=cq gY
   have E:(P++N).length=P.length+N.length:=ab
   have G:=j6 (xs:=P++N)
   by_cases e:(i:Int)=ix (ix m.next s) a
   .rw[ah e,js]at ns
    have l : ((i:Int)=ix (ix m.next s) a)=True:=cq e
    simp[-ax,-List.length_append,g,l];exact⟨aa,aL (i+1) (by simp[ns]) (by simp[ns]) aa aa⟩
   .rw[ae e]at ns
    simp[-ax,-List.length_append,-List.append_eq_nil_iff,g,e,j,j6];refine⟨dA,aa,aa,aL (i+1) (by simp[ns,Nat.mul_add];omega) (by simp[ns,qD,vz,uc]) aa aa⟩
  .have w:i=m.next.length:=by omega
   subst w;generalize W:P++eJ s a (ix (ix m.next s) a) m.next.length=B at *
   have X:B.length<=8192+128:=by rw[<-W,ez];omega
   by_cases d:128<=(m.next.length:Int)
   .have H:=vA (fr:=false) (σ:=[uB B]) (b:=0) (xs:=B) rfl
    have I:M=B:=by rw[q,ah d,js]
    rw[I];simp[-List.length_append,d,H]
   .have J:∀b:Nat,(b:Int)<=m.inputs->(cD s a (ix m.out (ix (ix m.next s) a)) outs b).length<=524288:=λb K=>by
     have h1:=vB (s:=s) (a:=a) (row:=ix m.out (ix (ix m.next s) a)) (outs:=outs) (n:=b)
     have h2:b*outs.length<=64*8192:=jg aa R
     omega
    simp[-ax,-List.length_append,d];refine a6 (λb:Nat=>[(14,.int b),(9,uS 0 (B++cD s a (ix m.out (ix (ix m.next s) a)) outs b))]) (λb=>[uB (B++cD s a (ix m.out (ix (ix m.next s) a)) outs b)]) (λb=>(b:Int)<=m.inputs) (λb=>m.inputs.toNat-b) 0 (by simp[b5,cD]) aa ?_
    intro b Y;have Z:=J b Y
    by_cases K:(b:Int)<m.inputs
    .have y:b<(ix m.out (ix (ix m.next s) a)).length:=by omega
     have z:cD s a (ix m.out (ix (ix m.next s) a)) outs (b+1)=cD s a (ix m.out (ix (ix m.next s) a)) outs b++pick 3 s a b (ix (ix m.out (ix (ix m.next s) a)) (b:Int)) outs:=rfl
     generalize cD s a (ix m.out (ix (ix m.next s) a)) outs b=C at *
     simp[-ax,-List.length_append,K]
     (repeat' apply And.intro)<;>try omega
     refine a6 (λi:Nat=>[(16,.int i),(9,uS 0 ((B++C)++pick 3 s a b (ix (ix m.out (ix (ix m.next s) a)) (b:Int)) (outs.take i)))]) (λi=>[uB ((B++C)++pick 3 s a b (ix (ix m.out (ix (ix m.next s) a)) (b:Int)) (outs.take i))]) (λi=>i<=outs.length) (λi=>outs.length-i) 0 (by simp[b5,pick]) aa ?_
     intro i Q;have L:=s7 (k:=3) (s:=s) (a:=a) (b:=b) (x:=ix (ix m.out (ix (ix m.next s) a)) (b:Int)) (outs:=outs.take i)
     rw[ji]at L
     by_cases g:i<outs.length
     .have f:=J9 (k:=3) (s:=s) (a:=a) (b:=b) (x:=ix (ix m.out (ix (ix m.next s) a)) (b:Int)) g
      generalize pick 3 s a b (ix (ix m.out (ix (ix m.next s) a)) (b:Int)) (outs.take i)=F at *
      have E:((B++C)++F).length=B.length+C.length+F.length:=ai
      generalize BP:B++C=D at *;have j:(5*(D++F).length=(D++F).length*aC (some 5))=True:=cq gY
      have G:=j6 (xs:=D++F);have hlD:(D++F).length=D.length+F.length:=ab
      by_cases e:ix outs (i:Int)=ix (ix m.out (ix (ix m.next s) a)) (b:Int)
      .rw[ah e,js]at f
       have l : (ix outs (i:Int)=ix (ix m.out (ix (ix m.next s) a)) (b:Int))=True:=cq e
       simp[-ax,-List.length_append,g,A.1,show ix (ix m.next s) a<(m.out.length:Int)by omega,y,l]
       exact⟨aa,aL (i+1) (by simp[f]) (by simp[f]) aa aa⟩
      .rw[ae e]at f
       simp[-ax,-List.length_append,-List.append_eq_nil_iff,g,A.1,show ix (ix m.next s) a<(m.out.length:Int)by omega,y,e,j,j6]
       refine⟨dA,aa,aa,aL (i+1) (by simp[f,Nat.mul_add];omega) (by simp[f,qD,vz,uc]) aa aa⟩
     .have w:i=outs.length:=by omega
      subst w;rw[kW];simp[-ax,-List.length_append,g];exact⟨aa,aL (b+1) (by simp[z]) (by simp[z]) aa aa⟩
    .have eb:m.inputs.toNat=b:=by omega
     rw[ae d,eb]at q;generalize hD:B++cD s a (ix m.out (ix (ix m.next s) a)) outs b=D at *
     rw[q];have H:=vA (fr:=false) (σ:=[uB D]) (b:=0) (xs:=D) rfl;simp[-List.length_append,K,d,H]
def aas (m:ak) (h:m.fits) (P:m.ao=0):LX L nA [m.av] [] (λv σ' =>∃b:List Bool,v = .sl 1 (m.af m.start).length 0 (m.af m.start).length/\σ' = [⟨none,b.map .bool,.live⟩,Zb ((m.af m.start).map (·.1))]):=by
 have B:=fQ P;obtain⟨S,T⟩:=B.inputs;obtain⟨U,V⟩:=B.states;have H:=B.start;refine He rfl ?_;simp[-List.map_replicate,fD m h,P];refine⟨aa,aa,aa,?_⟩
 refine a6 (λp:Int×List Pl×List Bool=>[(3,.int p.1),(4,.sl 1 p.2.1.length 0 p.2.1.length)]) (λp=>[⟨none,p.2.2.map .bool,.live⟩,⟨none,(p.2.1.map (·.1)).map .int,.live⟩])
  (λp=>(0<=p.1/\p.1<=p.2.1.length)/\Bq m m.start p.2.1/\Sn m.next.length p.2.2 p.2.1/\∃f:Nat,qn m f p.1 p.2.1=m.af m.start/\(m.next.length:Int)+1<=f+p.1)
  (λp=>(m.next.length-p.1).toNat) (0,[(m.start,[])],(List.replicate m.next.length false).set m.start.toNat true) dL ⟨ab,Bq.init H,?_,m.next.length+1,rfl,ab⟩ ?_
 .have:=Sn.add (N:=m.next.length) (b:=List.replicate m.next.length false) (q:=[]) (w:=[]) ⟨ab,λt W X=>by rw[sN W X];rfl⟩ H.1 H.2
  simpa using this
 rintro⟨i,q,b⟩ ⟨⟨r,i1⟩,F,Q,f,d,l⟩;dsimp only at r i1 F Q d l ⊢;have Y:=F.le
 by_cases x:i<q.length
 .have I:=F.fS _ (bt r x)
  have s:ix (q.map (·.1)) i=(ix q i).1:=gz r x;have n : 0<=ix (q.map (·.1)) i/\ix (q.map (·.1)) i<(m.next.length:Int):=by rw[s];exact I
  have g:=(B.row _ n.1 n.2).1;simp[-ax,-List.map_map,x,r,n.1,n.2,g];refine a6 (λp:Int×List Pl×List Bool=>[(4,.sl 1 p.2.1.length 0 p.2.1.length),(5,.int p.1)]) (λp=>[⟨none,p.2.2.map .bool,.live⟩,⟨none,(p.2.1.map (·.1)).map .int,.live⟩])
   (λp=>(0<=p.1/\p.1<=m.inputs)/\Bq m m.start p.2.1/\Sn m.next.length p.2.2 p.2.1/\p.2.1=fR m (ix q i) q p.1/\q.length<=p.2.1.length/\ix p.2.1 i=ix q i)
   (λp=>(m.inputs-p.1).toNat) (0,q,b) (by simp[-List.map_map,b5]) ⟨ai,F,Q,rfl,ab,rfl⟩ ?_
  rintro⟨a,C, J⟩ ⟨⟨D,Z⟩,y,z,ge,R,G⟩;dsimp only at D Z y z ge R G ⊢;have gqn:=y.le
  by_cases K:a<m.inputs
  .have A:=B.nx _ a I.1 I.2 D K
   have j :=A;rw[<-s]at j;have u:=z.ok _ A.1 A.2;rw[<-s]at u;have E:=z.len;have M:=y.len i r aa
   rw[G]at M;have es:fR m (ix q i) q (a+1)=gj m (ix q i) C a:=by rw[sF D,<-ge]
   cases o:ib C (ix (ix m.next (ix q i).1) a)with
   |true=>
    rw[<-s]at o;simp[-ax,-List.map_map,K,D,r,g,j.1,j.2,E,u,o];rw[s]at o;refine⟨aa,aL (a+1,C, J) ab rfl ⟨aI,y,z,by dsimp only;rw[es,sG o],R,G⟩ aI⟩
   |false=>
    rw[<-s]at o;simp[-ax,-List.map_map,K,D,r,g,j.1,j.2,E,u,o];rw[s]at o ⊢;refine⟨aa,aa,aL (a+1,C ++ [(ix (ix m.next (ix q i).1) a,(ix q i).2 ++ [a])],J.set (ix (ix m.next (ix q i).1) a).toNat true) dL (by simp[-List.map_map]) ⟨aI,y.add A o ab ai,z.add A.1 A.2,by dsimp only;rw[es,sH o],ai,by dsimp only;rw[a7 r aa,G]⟩ aI⟩
  .have O:a=m.inputs:=by omega
   subst O;simp[-ax,-List.map_map];refine⟨aa,aL (i+1,C, J) ab rfl ⟨aI,y,z,?_⟩ aI⟩
   match f,d,l with
   |0,_,l=>omega
   |f+1,d,l=>exact⟨f,by dsimp only;rw[sJ x,<-ge]at d;exact d,aI⟩
 .have e:q=m.af m.start:=by rw[<-d,sI x]
  subst e;simp[-List.map_map,x];exact⟨b,rfl⟩
def Ka{f:Nat}{args:List AV}{b:Bool}(h:PC f args=some (.bool b)):∃a,L f args []=some (.bool b,a):=by
 simp only[PC,jN]at h;split at h
 .rename_i v a d
  rw[HA h]at d;exact⟨a,d⟩
 .simp at h
variable{m:ak}
def s8(b:gJ m) (d:m.next.length<=8){ws:List (List Int)}(h:ts m ws):∀w∈ws,w.length<=64/\∀x∈w,0<=x/\x<m.inputs:=λw e=>by
 obtain⟨x,y,f,g,a,rfl⟩:=h.of w e;obtain⟨_,i,_,j⟩:=sU b d f g a;exact⟨j,i⟩
def Kb(h:m.fits) (f:gJ m) (g:m.ao=0) (i:m.next.length<=8)(b:0<=s/\s<(m.next.length:Int)) (d:0<=t/\t<(m.next.length:Int)) (a:s ≠ t):PC uA [m.av,.int s,.int t]=some (.bz [iL (m.sw s t),.bool true,.int 0]):=by
 have:=aap m h g s t b d;obtain⟨e,_⟩:=sU f i b d a;rw[this,e];rfl
noncomputable def ak.lP (m:ak):List (List Int):=if m.fU m.fT=0 then dD (m.lO m.next.length)else[]
def aat (m:ak) (h:m.fits) (hn8:m.ao=0->m.next.length<=8):PC yi [m.av]=some (.bz [aW m.lP,.int (m.fU m.fT)]):=by
 refine ba (VY rfl ?_);have hc:=Z2 m h
 by_cases h0:m.fU m.fT=0
 case neg=>
  have e:m.lP=[]:=ae h0;rw[e];simp[hc,h0]
 obtain⟨hv,hM⟩:=J2 h0;have h8:=hn8 hv;have hm:=hM.ok;have eA:=hm.states;have e:m.lP=dD (m.lO m.next.length):=ah h0
 rw[e];rw[h0]at hc ⊢;simp[-ax,hc];refine a6 (λi:Nat=>[(3,.int i),(7,.sl 0 (m.lO i).length 0 (m.lO i).length)]) (λi=>[cX (m.lO i)]) (λi=>i<=m.next.length) (λi=>m.next.length-i) 0 (by simp[b5,ak.lO]) aa ?_
 intro i Ce;have hX:=BA hM h8 i Ce
 by_cases hi:i<m.next.length
 .simp[-ax,hi]
  refine⟨aa,?_⟩
  have hR:=λj=>qx.row hM h8 hX j;have oc:m.lO (i+1)=m.sV i (m.lO i) (m.next.length-(i+1)):=rfl
  generalize m.lO i=set at *;refine a6 (λj:Nat=>[(6,.int ((i+1+j:Nat):Int)),(7,.sl 0 (m.sV i set j).length 0 (m.sV i set j).length)]) (λj=>[cX (m.sV i set j)]) (λj=>i+1+j<=m.next.length) (λj=>m.next.length-j) 0 (by simp[b5,ak.sV]) aa ?_
  intro j hj1;have hY:=hR j hj1;have hE:m.sV i set (j+1)=m.vn (i:Int) ((i+1+j:Nat):Int) (m.sV i set j):=rfl;generalize hws:m.sV i set j=ws at *
  by_cases hj:i+1+j<m.next.length
  .have hw:=s8 hM h8 hY.ok
   have hlen:=hY.ok.len;have hs:=Z8 m hm ws (i:Int) ((i+1+j:Nat):Int) ⟨aa,aa⟩ ⟨aa,aa⟩ aa (λw hx=>by have:=(hw w hx).1;omega) (λw hx=>(hw w hx).2)
   have BJ:=A7 (σ:=[cX ws]) (b:=0) (out:=ws) rfl;have hS:=Kb h hM hv h8 (s:=(i:Int)) (t:=((i+1+j:Nat):Int)) ⟨aa,aa⟩ ⟨aa,aa⟩ aa
   unfold ak.vn at hE;have Lc:(((i+1+j:Nat):Int)<(m.next.length:Int))=True:=cq aa
   have Kc : ((i:Int)+1+(j:Int)<(m.next.length:Int))=True:=cq aa
   generalize hT:((i+1+j:Nat):Int)=T at *;cases hb:m.sep (i:Int) T ws with
   |true=>
    rw[hb]at hs hE;rw[ah rfl]at hE;obtain⟨τ,hz⟩:=Ka hs;have hz:L sf [.agg [.int m.inputs,.int m.start,.aA false (m.next.map iL),.aA false (m.out.map iL)],aW ws,.int (i:Int),.int T] []=some (.bool true,τ):=hz
    simp[-ax,Lc,Kc, BJ,hz];exact⟨aa,aL (j+1) (by simp[hE];omega) (by rw[hE]) aa aa⟩
   |false=>
    rw[hb]at hs hE;rw[ae ab]at hE
    obtain⟨τ,hz⟩:=Ka hs;have hz:L sf [.agg [.int m.inputs,.int m.start,.aA false (m.next.map iL),.aA false (m.out.map iL)],aW ws,.int (i:Int),.int T] []=some (.bool false,τ):=hz
    simp[-ax,Lc,Kc, BJ,hz,hS];exact⟨dA,aa,aa,aL (j+1) (by simp[hE];omega) (by rw[hE];simp[cX]) aa aa⟩
  .have Lc:((i:Int)+1+(j:Int)<(m.next.length:Int))=False:=cf aa
   have ej:j=m.next.length-(i+1):=aa
   subst ej;simp[-ax,Lc];exact⟨aa,aL (i+1) (by simp[oc,hws]) (by rw[oc,hws]) aa aa⟩
 .have ei:i=m.next.length:=by omega
  subst ei;have hw:=s8 hM h8 hX.ok;have hlen:=hX.ok.len;have aau:=I7 (m.lO m.next.length) aa λw hx=>by have:=(hw w hx).1;omega
  simp;refine H7 rfl ?_;simp[aau]
def vC(e:gJ m) (f:m.next.length<=8):(dD (m.lO m.next.length)).length<m.next.length/\(∀w∈dD (m.lO m.next.length),w.length<=64/\∀x∈w,0<=x/\x<m.inputs)/\∀x y:Nat,x<y->y<m.next.length->m.sep (x:Int) (y:Int) (dD (m.lO m.next.length))=true:=by
 have a:=BA e f m.next.length (aY _)
 have h:=a.ok.len;have i:=Js (l:=m.lO m.next.length)
 refine⟨aa,λw b=>s8 e f a.ok w (Br.1 b),λx y d g=>?_⟩
 exact Jr (λw b=>Br.2 b) (a.all x y d g aa)
variable{vars:List AV}{fl:Option (Nat×AV)}{s1:St}
def Kd{r:dt}(h:WK L (.bM r) vars fl σ λ_ s' =>s' = s1):aT L r ⟨vars,fl,σ⟩=some s1:=by
 obtain⟨n,e,s', a,rfl⟩:=gy h;simp only[exec]at a;split at a
 .rename_i b;simp only[aS,Prod.mk.injEq]at a;rw[b,a.2]
 .simp at a
def wy{c:IC}{e:Ex}(b:tq c=true) (h:WK L c vars fl σ λa s' =>a = e/\s' = s1):exec 0 L c ⟨vars,fl,σ⟩=some (e,s1):=by
 obtain⟨n,a, s', d,rfl,rfl⟩:=gy h;rw[ql (m:=n) b];exact d
def tt (ws:List (List Int)):List aj:=if ws=[]then[⟨none,[.ag],.live⟩]else[⟨none,[.sl 1 ws.length 0 ws.length],.live⟩,⟨none,ws.map iL,.live⟩]
abbrev vS (c:AV):List AV:=[.au,.au,.au,.au,.au,.au,.au,.au,.au,.au,.ptr 0 1 0,c,.au,.au]
def wz{fl:Option (Nat×AV)}{σ0:List aj}:∀(xs ws:List (List Int)),(((ws++xs).length:Nat):Int)<=1000000->iT L ⟨vS .au,fl,σ0⟩ (xs.map iL) (tt ws)=some (tt (ws++xs))
 | [],ws,_=>by rw[js];rfl
 |x::r,ws,h=>by
  have b:=wz (fl:=fl) (σ0:=σ0) r (ws ++ [x]) (by rw[fO];exact h)
  have e:((ws.length:Nat):Int)+1<=1000000:=by simp at h;omega
  have d:aT L ss ⟨bD (bD (vS .au) 9 (iL x)) 11 (iL x),none,tt ws⟩=some ⟨[.au,.au,.au,.au,.au,.au,.au,.au,.au,iL x,.au,iL x,.au,.au],none,tt (ws ++ [x])⟩:=by
   refine Kd ?_
   by_cases a:ws=[]
   .subst a
    simp[tt]
   .have f:¬ws ++ [x]=[]:=by simp
    simp[tt,a];omega
  simp only[bC,iT,dX];exact⟨_,d,by rw[b,fO];rfl⟩
noncomputable def ak.jG (m:ak):List (List Int):=if m.aP.lP=[]then[[]]else m.aP.lP
noncomputable def ak.fM (m:ak):List (List Int):=((m.aP.af m.aP.start).map (·.2)).flatMap λu=>(mE m.inputs.toNat).flatMap λv=>m.jG.map λc=>u++v++c
def aav (A B C:List (List Int)):iq A B C=(A.flatMap λu=>B.flatMap λv=>C.map λc=>u++v++c).map iL:=by
 unfold iq;rw[List.map_flatMap]
 congr 1;funext u
 rw[List.map_flatMap]
 congr 1;funext v
 rw[List.map_map];rfl
def s9(b:gJ m):m.aP.next.length=m.next.length:=by
 have d:=oM b.ok;have a:jE m.aP m:=λw f=>Bb b.ok f;have g:=Y5 a d b rfl;have e:=congrArg List.length g;rw[cP,cP,nM d,nM b]at e;exact e
def oV{d e:Type}{f:d->List e}{k:Nat}:∀{l:List d},(∀a∈l,(f a).length<=k)->(l.flatMap f).length<=l.length*k
 | [],_=>by simp
 |a::r,h=>by
  have i:=h a ab
  have j:=oV (l:=r) λb g=>h b (by simp[g])
  rw[gR,ez,eO,fa];omega
def aaw{A B C:List (List Int)}(b:∀w∈A,w.length<=100) (d:∀w∈B,w.length<=100) (f:∀w∈C,w.length<=100):sv L A B C=true:=by
 simp only[sv,eS,bJ];intro u g v i x j;have h:=AM [(false,u),(false,v),(false,x)] ab (by have:=b u g;have:=d v i;have:=f x j;simp[cat];omega)
 have e:cat [(false,u),(false,v),(false,x)]=u++v++x:=by simp[cat]
 rw[e]at h;have a : jN L fB [.aA false [.aA false (u.map .int),.aA false (v.map .int),.aA false (x.map .int)]]=some (iL (u++v++x)):=h;unfold jN at a;split at a
 .rename_i n l m
  rw[m];simp only[a, mS];exact v7 _
 .simp at a
def Ke{σ:List aj}:∀(ws:List (List Int)) (acc:List Nat),(ws.map iL).foldl (λacc y=>reach σ 10 y acc) acc=acc
 | [],_=>rfl
 |w::ws,acc=>by simp only[bC,List.foldl_cons];exact Ke ws acc
def aax (ws:List (List Int)) (n:ws ≠ []):Ax ⟨vS .au,none,tt ws⟩=some ⟨[.au,.au,.au,.au,.au,.au,.au,.au,.au,.au,.ar (aW ws),.au,.au,.au],none,[⟨none,[.sl 1 ws.length 0 ws.length],.dead⟩,⟨none,ws.map iL,.dead⟩]⟩:=by
 unfold tt;rw[ae n];generalize a:([⟨none,[.sl 1 ws.length 0 ws.length],.live⟩,⟨none,ws.map iL,.live⟩]:List aj)=σ;have m:ay σ 0=some ⟨none,[.sl 1 ws.length 0 ws.length],.live⟩:=by rw[<-a]
 have b1:ay σ 1=some ⟨none,ws.map iL,.live⟩:=by rw[<-a]
 have d:reach σ (10+1) (.sl 1 ws.length 0 ws.length) [0]=[1,0]:=by
  unfold reach;simp only[b1];rw[ae ab]
  exact Ke ws [1,0]
 have o:reach σ vd (.ptr 0 1 0) []=[1,0]:=by
  show reach σ (11+1) (.ptr 0 1 0) []=[1,0];unfold reach;simp only[m,List.contains_nil,cZ,dg,List.foldl_cons,List.foldl_nil];exact d
 have e:view σ false 11 (.sl 1 ws.length 0 ws.length)=some (aW ws):=by
  have g:upto σ 1 ws.length=some ⟨none,ws.map iL,.live⟩:=by unfold upto;simp[b1]
  have i:∀(f:Nat) (l:List AV),f=l.length->chunk none f l=l:=by
   intro f l
   induction l generalizing f with
   |nil=>intro h;subst h;rfl
   |cons x r j=>intro h;subst h;simp only[eO,chunk];rw[j _ rfl]
  have p:∀l:List (List Int),aM (view σ false 10) (l.map iL)=some (l.map iL):=by
   intro l
   induction l with
   |nil=>rfl
   |cons x r j=>simp only[bC,aM,j];rfl
  show view σ false (10+1) (.sl 1 ws.length 0 ws.length)=some (aW ws);unfold view;simp only[g,iF,eL,aC,Nat.mul_one,cP,aY,cn];rw[i _ _ ab,p]
 have q:view σ false vd (.ptr 0 1 0)=some (.ar (aW ws)):=by
  have g:upto σ 0 1=some ⟨none,[.sl 1 ws.length 0 ws.length],.live⟩:=by unfold upto;simp[m]
  show view σ false (11+1) (.ptr 0 1 0)=_;unfold view;simp only[g,part,jL,e]
  rfl
 unfold Ax;simp only[exec];rw[show nth (vS .au) 10 = .ptr 0 1 0 from rfl,o];have s:cr (λb=>!([1,0]:List Nat).contains b) 0 σ=σ:=by rw[<-a];simp[cr]
 rw[s,q];rw[<-a];simp[gg,cr,bD]
def aay (a b c:List AV) (d:aq a=true) (e:aq b=true) (f:aq c=true):PC yj [.aA false a,.aA false b,.aA false c]=some (.func oG [.ar (.aA false a),.ar (.aA false b),.ar (.aA false c)]):=by
 refine ba (VZ rfl ?_);simp[d,e,f,aB,aq]
 rfl
def aaz (m:ak) (h:m.fits) (hM:gJ m) (h5:m.next.length<=5) (X:m.inputs<=3):PC qg [m.av,.int 1]=some (.bz [aW (e7 m.fM),.int 0]):=by
 have G:=hM.ok;have hv:=mn G;have o:=oM G;have q:=mn o.ok;have H:=Io o.ok;have hlen:=s9 hM;have Y:=fD m h;have Z:=wv m h;have I:lB m=(m.aP,0):=by unfold lB;rw[ae (by simpa using hv)]
 rw[I]at Z;have e3:=Y0 m.aP H;rw[I9 q]at e3;have hi:m.aP.inputs=m.inputs:=rfl;have e4:PC kz [.int m.aP.inputs,.int 2]=some (.bz [aW (mE m.inputs.toNat),.int 0]):=Xo (k:=m.inputs) G.inputs.1 X;have S:=aat m.aP H (λ_=>aa)
 have s:m.aP.fU m.aP.fT=0:=by unfold ak.fU;rw[ae (by simpa using q),oU.2 ⟨q,o⟩];rfl
 rw[s]at S;rw[hv]at Y;have J:∀w∈m.jG,w.length<=64/\∀x∈w,0<=x/\x<m.inputs:=by
  have D:m.aP.lP=dD (m.aP.lO m.aP.next.length):=ah s
  obtain⟨_,c2,_⟩:=vC o aa
  unfold ak.jG;split
  .intro w a;simp at a;subst a;simp
  .rw[D];exact c2
 have M:m.jG.length<=5:=by
  have D:m.aP.lP=dD (m.aP.lO m.aP.next.length):=ah s
  obtain⟨c1,_,_⟩:=vC o aa
  unfold ak.jG;split
  .simp
  .rw[D];omega
 have E:((m.aP.af m.aP.start).map (·.2)).length=m.next.length:=by rw[cP,nM o];exact hlen
 have N:∀w∈(m.aP.af m.aP.start).map (·.2),w.length<=5:=λw a=>by
  obtain⟨p,hp,rfl⟩:=cB.1 a;obtain⟨i,hi,rfl⟩:=cd.1 hp;have hb:=(iW m.aP o.ok m.aP.start o.ok.start).bq;have:=hb.len (i:Int) aa aa
  rw[aK hi]at this;rw[cP]at E;omega
 have O:∀w∈mE m.inputs.toNat,w.length<=2:=λw a=>(we a).1;have P:(mE m.inputs.toNat).length<=13:=by
  have:=G.inputs.1;obtain h|h|h:m.inputs=1\/m.inputs=2\/m.inputs=3:=aa
  all_goals rw[h];decide
 generalize hU:(m.aP.af m.aP.start).map (·.2)=U at *;generalize Q:mE m.inputs.toNat=V at *;have eA:=G.states;have jQ:=G.inputs;have g:m.fM=U.flatMap λu=>V.flatMap λv=>m.jG.map λc=>u++v++c:=by unfold ak.fM;rw[hU,Q]
 obtain⟨j,b,hld⟩:∃j,(j=if m.aP.lP=[]then AV.aA false [.ag]else aW m.aP.lP)/\vZ j=some m.jG:=by
  refine⟨_,rfl,?_⟩;unfold ak.jG;split
  .rfl
  .exact Hm _
 have f0:exec 0 L qj ⟨[m.av,.int 1]++List.replicate 12 .au,none,[]⟩=some (.exit 777,⟨[.au,.au,.au,.au,.au,.au,j,aW U,aW V,.au,.ptr 0 1 0,.au,.au,.au],none,[⟨none,[.ag],.live⟩]⟩):=by
  refine wy rfl ?_;unfold qj;have hp0:((U.length:Int)*V.length)<=65/\0<=(U.length:Int)*V.length:=by
   have:=jg (show U.length<=5 by omega) P
   rw[<-Int.natCast_mul];omega
  by_cases d:m.aP.lP=[]
  .rw[ah d]at b
   rw[d]at S;subst b;simp[Y,Z,e3,e4,S,show ¬10000<(U.length:Int)*V.length by omega]
   omega
  .rw[ae d]at b
   have pC:m.aP.lP.length<=5:=by
    have:m.jG=m.aP.lP:=by unfold ak.jG;rw[ae d]
    rw[<-this];exact M
   have hp1:((U.length:Int)*V.length)*m.aP.lP.length<=325/\0<=((U.length:Int)*V.length)*m.aP.lP.length:=by
    have:=jg (jg (show U.length<=5 by omega) P) pC
    rw[<-Int.natCast_mul,<-Int.natCast_mul];omega
   generalize m.aP.lP=K at *;have hk0:(K.length=0)=False:=cf (by simpa using d)
   subst b;simp[Y,Z,e3,e4,S,hk0,show ¬10000<(U.length:Int)*V.length*K.length by omega]
   omega
 have n:∀l:List (List Int),aq (l.map iL)=true:=by
  intro l
  induction l with
  |nil=>rfl
  |cons x r ih=>
   have hx:aq (x.map .int)=true:=by
    induction x with
    |nil=>rfl
    |cons y z KN=>simp only[bC,aq,aB,KN,Bool.and_self]
   simp only[bC,aq,aB,hx,ih,Bool.and_self]
 obtain⟨T,hlb,R⟩:∃T,j = .aA false T/\aq T=true:=by
  by_cases d:m.aP.lP=[]
  .exact⟨[.ag],by rw[b,ah d],rfl⟩
  .exact⟨m.aP.lP.map iL,by rw[b,ae d],n _⟩
 have ep:=aay (U.map iL) (V.map iL) T (n U) (n V) R;have f1:aT L uO ⟨[.au,.au,.au,.au,.au,.au,j,aW U,aW V,.au,.ptr 0 1 0,.au,.au,.au],none,[⟨none,[.ag],.live⟩]⟩=some ⟨vS .au,some (76,.func oG [.ar (aW U),.ar (aW V),.ar j]),[⟨none,[.ag],.live⟩]⟩:=by
  refine Kd ?_;rw[hlb];simp[ep,n,R,aB,aq]
 have hsl:m.fM.length<=5*13*5:=by
  rw[g];have h1:∀u∈U,(V.flatMap λv=>m.jG.map λc=>u++v++c).length<=13*5:=λu _=>by
   have:=oV (l:=V) (f:=λv=>m.jG.map λc=>u++v++c) (k:=5) λv _=>by simp;exact M
   omega
  have h2:=oV (l:=U) h1;have:=nZ (13*5) (show U.length<=5 by omega)
  omega
 have hsm:∀w∈m.fM,w.length<=71:=λw a=>by
  rw[g]at a;obtain⟨u,hu,a⟩:=jS.1 a;obtain⟨v,F, a⟩:=jS.1 a;obtain⟨c,d,rfl⟩:=cB.1 a;have:=N u hu;have:=O v F; have:=(J c d).1;simp;omega
 have fm:m.fM ≠ []:=by
  rw[g];have h1:U ≠ []:=λe=>by rw[e]at E;simp at E;omega
  have h2:V ≠ []:=λe=>by rw[<-Q]at e;unfold mE at e;simp at e
  have X:m.jG ≠ []:=by unfold ak.jG;split<;>simp_all
  obtain⟨u,hu⟩:=pP U h1;obtain⟨v,F⟩:=pP V h2;obtain⟨c,d⟩:=pP m.jG X;exact List.ne_nil_of_mem (jS.2 ⟨u,hu,jS.2 ⟨v,F, cB.2 ⟨c,d,rfl⟩⟩⟩)
 have f2:uQ ⟨vS .au,some (76,.func oG [.ar (aW U),.ar (aW V),.ar j]),[⟨none,[.ag],.live⟩]⟩=some (U,V,m.jG):=by
  simp only[uQ,Hm,hld,mS,and_self,cn];rw[ah ⟨aa,aa,aa⟩]
 have f3:=aaw (A:=U) (B:=V) (C:=m.jG) (λw a=>by have:=N w a;omega) (λw a=>by have:=O w a;omega) (λw a=>by have:=(J w a).1;omega)
 have f4:=wz (fl:=some (76,.func oG [.ar (aW U),.ar (aW V),.ar j])) (σ0:=tt []) m.fM [] ai
 have f5:=aax m.fM fm;have em:=aao m.fM aa λw a=>by have:=hsm w a;omega
 generalize hW:e7 m.fM=W at *;have f6:exec 0 L su ⟨[.au,.au,.au,.au,.au,.au,.au,.au,.au,.au,.ar (aW m.fM),.au,.au,.au],none,[⟨none,[.sl 1 m.fM.length 0 m.fM.length],.dead⟩,⟨none,m.fM.map iL,.dead⟩]⟩=some (.ret,⟨[.au,.au,.au,.au,.au,.au,.au,.au,.au,.au,.au,.au,aW W,.int 0],none,[⟨none,[.sl 1 m.fM.length 0 m.fM.length],.dead⟩,⟨none,m.fM.map iL,.dead⟩]⟩):=by
  refine wy rfl ?_;unfold su;simp[em]
 have hp:de L [m.av,.int 1] []=some (.bz [aW W,.int 0],[⟨none,[.sl 1 m.fM.length 0 m.fM.length],.dead⟩,⟨none,m.fM.map iL,.dead⟩]):=by
  unfold de;rw[ah (show[m.av,AV.int 1].length=2 from rfl),f0];simp only[mS,f1,f2];unfold lf;simp only[f3,cn];rw[aav,<-g];rw[show([⟨none,[.ag],.live⟩]:List aj)=tt []from rfl,f4];simp only[kM,mS,f5,f6]
  rfl
 have hL:=Xf hp;show jN L qg [m.av,.int 1]=_;unfold jN;rw[hL]
 rfl
end Ab
