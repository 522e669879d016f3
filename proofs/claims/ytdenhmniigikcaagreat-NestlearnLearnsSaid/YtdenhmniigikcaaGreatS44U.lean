/- The search in memory; and what it leans on. Condition: none. -/
import Derived.Test.YtdenhmniigikcaaGreatS44S
import Derived.Test.YtdenhmniigikcaaGreatS44T
import Derived.Test.YtdenhmniigikcaaGreatN44P
import Derived.Test.YtdenhmniigikcaaGreatFrz
set_option linter.all false
set_option maxRecDepth 100000
set_option maxHeartbeats 4000000
open Option renaming some->aa,none->ab
open Bool renaming true->ad,false->ae
open List renaming range->af,replicate->ag,length->ah
open Int renaming toNat->aj
namespace Ab
inductive DT where
 |rt (f:Bool) (k:Nat)
 |ra (t:Nat)
 |jk (B:aO)
structure XM where
 N:Nat
 bx:ao
 S:Bs
 C:Bs
 A:Int->List CR
 ri:Bool->Nat->Nat
 ai:Nat->Nat
 dyn:List DT
def XM.b (X:XM) (f:Bool):Bs:=if f=ad then X.S else X.C
inductive Ix where
 |mO (f:Bool)|box (f:Bool)|wr (f:Bool) (s:Nat)|wo (f:Bool)|dr (f:Bool) (s:Nat)|rb (f:Bool)|co|bx|dy (i:Nat)
def e0 (N:Nat) (f:Bool):Nat:=if f=ad then 0 else 2*N+4
def num (N:Nat):Ix->Nat
 |.mO f=>e0 N f
 |.box f=>e0 N f+1
 |.wr f s=>e0 N f+if s=0 then 2 else 4+2*s
 |.wo f=>e0 N f+3
 |.dr f s=>e0 N f+if s=0 then 4 else 5+2*s
 |.rb f=>e0 N f+5
 |.co=>4*N+8
 |.bx=>4*N+9
 |.dy i=>4*N+10+i
def iv (f:Bool) (i:Nat):Ix:=if i=0 then .mO f else if i=1 then .box f else if i=2 then .wr f 0 else if i=3 then .wo f else if i=4 then .dr f 0 else if i=5 then .rb f else if i%2=0 then .wr f (i/2-2)else .dr f (i/2-2)
def ib (N j:Nat):Ix:=if j<2*N+4 then iv ad j else if j<4*N+8 then iv ae (j-(2*N+4))else if j=4*N+8 then .co else if j=4*N+9 then .bx else .dy (j-(4*N+10))
variable{i:Nat}
def W8{N:Nat}{f:Bool}:num N (iv f i)=e0 N f+i:=by
 unfold iv;split
 .rename_i h;subst h;rfl
 split
 .rename_i h;subst h;rfl
 split
 .rename_i h;subst h;rfl
 split
 .rename_i h;subst h;rfl
 split
 .rename_i h;subst h;rfl
 split
 .rename_i h;subst h;rfl
 split
 .simp only[num];rw[aC ax];omega
 .simp only[num];rw[aC ax];omega
variable{j:Nat}
def F1{N:Nat}:num N (ib N j)=j:=by
 unfold ib;split
 .rw[W8];simp[e0]
 split
 .rw[W8];simp[e0];omega
 split
 .simp only[num];omega
 split
 .simp only[num];omega
 .simp only[num];omega
def Ix.val (N D:Nat):Ix->Prop
 |.wr _ s=>s<N
 |.dr _ s=>s<N
 |.dy i=>i<D
 |_=>True
def W9{f:Bool}{s:Nat}:iv f (if s=0 then 2 else 4+2*s) = .wr f s:=by
 by_cases h:s=0
 .subst h;rfl
 .rw[aC h]
  unfold iv;rw[aC ax,aC ax,aC ax,aC ax,aC ax,aC ax,aD ax]
  congr 1;omega
def Xa{f:Bool}{s:Nat}:iv f (if s=0 then 4 else 5+2*s) = .dr f s:=by
 by_cases h:s=0
 .subst h;rfl
 .rw[aC h]
  unfold iv;rw[aC ax,aC ax,aC ax,aC ax,aC ax,aC ax,aC ax]
  congr 1;omega
def zS{N:Nat}{f:Bool}(h:i<2*N+4):ib N (e0 N f+i)=iv f i:=by
 unfold ib e0;cases f with
 |true=>simp only[dM];rw[aD ax];congr 1;omega
 |false=>simp only[ff,fv];rw[aC ax,aD ax];congr 1;omega
variable{D:Nat}{x:Ix}
def xi{N:Nat}(a:1<=N)(h:x.val N D):ib N (num N x)=x:=by
 cases x with
 |mO f=>exact zS (i:=0) ax
 |box f=>exact zS (i:=1) ax
 |wo f=>exact zS (i:=3) ax
 |rb f=>exact zS (i:=5) ax
 |wr f s=>
  have h:s<N:=h;show ib N (e0 N f+_)=_;rw[zS (by split<;>omega),W9]
 |dr f s=>
  have h:s<N:=h;show ib N (e0 N f+_)=_;rw[zS (by split<;>omega),Xa]
 |co=>
  show ib N (4*N+8) = .co;unfold ib;rw[aC ax,aC ax,aD rfl]
 |bx=>
  show ib N (4*N+9) = .bx;unfold ib;rw[aC ax,aC ax,aC ax,aD rfl]
 |dy i=>
  show ib N (4*N+10+i) = .dy i;unfold ib;rw[aC ax,aC ax,aC ax,aC ax]
  congr 1;omega
def F3{N:Nat}(h:x.val N D):num N x<4*N+10+D:=by
 cases x with
 |mO f=>cases f<;>simp[num,e0]<;>omega
 |box f=>cases f<;>simp[num,e0]<;>omega
 |wo f=>cases f<;>simp[num,e0]<;>omega
 |rb f=>cases f<;>simp[num,e0]<;>omega
 |wr f s=>have h:s<N:=h;cases f<;>simp[num,e0]<;>split<;>omega
 |dr f s=>have h:s<N:=h;cases f<;>simp[num,e0]<;>split<;>omega
 |co=>simp[num];omega
 |bx=>simp[num];omega
 |dy i=>have h:i<D:=h;simp[num];omega
def Xb{N:Nat}{f:Bool}(a:1<=N) (h:i<2*N+4):(iv f i).val N D:=by
 unfold iv;split
 .exact trivial
 split
 .exact trivial
 split
 .show 0<N;omega
 split
 .exact trivial
 split
 .show 0<N;omega
 split
 .exact trivial
 split
 .show i/2-2<N;omega
 .show i/2-2<N;omega
def Xc{N:Nat}(a:1<=N) (h:j<4*N+10+D):(ib N j).val N D:=by
 unfold ib;split
 .exact Xb a jE
 split
 .exact Xb a ax
 split
 .exact trivial
 split
 .exact trivial
 .show j-(4*N+10)<D;omega
def wc:Option ak->AV
 |none=>.aJ
 |some w=>.aX ad (w.map .int)
def iE (N:Nat) (W:TO) (s:Nat):ao:=(af N).map λ(t:Nat)=>wc (W (s:Int) (t:Int))
def j5 (N:Nat) (D:Int->Int->Bool) (s:Nat):List Bool:=(af N).map λ(t:Nat)=>D (s:Int) (t:Int)
def tN (l:List PR):ao:=l.flatMap λp=>[.int p.1,.int p.2]
def Aq (l:List CR):ao:=l.flatMap λp=>[.int p.1,.int p.2.1,.int p.2.2]
def o5 (N:Nat) (g:Nat->Ix):ao:=(af N).map λs=>.sl (num N (g s)) N 0 N
def oo (X:XM) (f:Bool):ao:=(af 1025).map λk=>if(X.b f).R k=[]then .aJ else .sl (num X.N (.dy (X.ri f k))) (2*ah ((X.b f).R k)) 0 (ah ((X.b f).R k))
def sC (X:XM):ao:=(af X.N).map λ(t:Nat)=>if X.A (t:Int)=[]then .aJ else .sl (num X.N (.dy (X.ai t))) (3*ah (X.A (t:Int))) 0 (ah (X.A (t:Int)))
def mh (X:XM):Option DT->aO
 |some (.rt f k)=>⟨aa 2,tN ((X.b f).R k),.live⟩
 |some (.ra t)=>⟨aa 3,Aq (X.A (t:Int)),.live⟩
 |some (.jk B)=>B
 |none=>default
def cb (X:XM):Ix->aO
 |.mO f=>⟨ab,oo X f,.live⟩
 |.box f=>⟨aa 3,[.sl (num X.N (.wo f)) X.N 0 X.N,.sl (num X.N (.rb f)) X.N 0 X.N,.sl (num X.N (.mO f)) 1025 0 1025],.live⟩
 |.wr f s=>⟨ab,iE X.N (X.b f).W s,.live⟩
 |.wo f=>⟨ab,o5 X.N (.wr f),.live⟩
 |.dr f s=>⟨ab,(j5 X.N (X.b f).D s).map .bool,.live⟩
 |.rb f=>⟨ab,o5 X.N (.dr f),.live⟩
 |.co=>⟨ab,sC X,.live⟩
 |.bx=>⟨aa 14,X.bx ++ [.ptr (num X.N (.box ad)) (ba (aa 3)) 0,.ptr (num X.N (.box ae)) (ba (aa 3)) 0,.sl (num X.N .co) X.N 0 X.N],.live⟩
 |.dy i=>mh X X.dyn[i]?
def mem (X:XM):aq:=(af (4*X.N+10+ah X.dyn)).map λj=>cb X (ib X.N j)
structure iw (X:XM):Prop where
 n:1<=X.N/\X.N<=1000
 bx:ah X.bx=11
 r1:∀f k,(X.b f).R k ≠ []->X.dyn[X.ri f k]? = aa (.rt f k)
 r2:∀i f k,X.dyn[i]? = aa (.rt f k)->(X.b f).R k ≠ []/\i=X.ri f k
 a1:∀t:Nat,X.A (t:Int) ≠ []->X.dyn[X.ai t]? = aa (.ra t)
 a2:∀(i t:Nat),X.dyn[i]? = aa (.ra t)->X.A (t:Int) ≠ []/\i=X.ai t
section
variable{X Y:XM}
def r7:ah (mem X)=4*X.N+10+ah X.dyn:=by simp[mem]
variable{x:Ix}
def pR (a:1<=X.N)(h:x.val X.N (ah X.dyn)):aQ (mem X) (num X.N x)=aa (cb X x):=by
 have:=F3 h;rw[tx];unfold mem;rw[gP,wj this,nh,xi a h]
def M3 (b:1<=X.N) (a:X.N=Y.N) (hd:ah X.dyn=ah Y.dyn)(d:x.val X.N (ah X.dyn)) (B:aO) (g:cb Y x=B) (h:∀y,y ≠ x->cb Y y=cb X y):aV (mem X) (num X.N x) B=mem Y:=by
 rw[qO];apply gF
 .simp[mem,a,hd]
 .intro i l m
  rw[jm];simp only[mem,gq,jn]
  by_cases e:num X.N x=i
  .rw[aD e,<-g,<-e,<-a,xi b d]
  .rw[aC e,a]
   refine(h _ λj=>e ?_).symm;rw[<-j,a];exact F1
variable{z:Ix}
def Xd (b:1<=X.N) (a:X.N=Y.N) (hd:ah X.dyn=ah Y.dyn)(l:x.val X.N (ah X.dyn)) (m:z.val X.N (ah X.dyn)) (n:num X.N x ≠ num X.N z) (B B' : aO) (o:cb Y x=B) (g : cb Y z=B') (h:∀y,y ≠ x->y ≠ z->cb Y y=cb X y):aV (aV (mem X) (num X.N x) B) (num X.N z) B' = mem Y:=by
 rw[qO,qO];apply gF
 .simp[mem,a,hd]
 .intro i p q
  rw[jm,jm];simp only[mem,gq,jn]
  by_cases e:num X.N z=i
  .rw[aD e,<-g, <-e,<-a,xi b m]
  .rw[aC e]
   by_cases d:num X.N x=i
   .rw[aD d,<-o,<-d,<-a,xi b l]
   .rw[aC d,a]
    refine(h _ (λj=>d ?_) λj=>e ?_).symm
    .rw[<-j,a];exact F1
    .rw[<-j,a];exact F1
def Xf (a:1<=X.N) (b:X.N=Y.N){d:DT}(hd:Y.dyn=X.dyn ++ [d])(l:z.val X.N (ah X.dyn)) (B B' : aO) (n:mh Y (aa d)=B) (g : cb Y z=B') (h:∀y,y ≠ z->y.val X.N (ah X.dyn)->cb Y y=cb X y):aV (mem X ++ [B]) (num X.N z) B' = mem Y:=by
 have o:ah Y.dyn=ah X.dyn+1:=by rw[hd];simp
 have p:=F3 l;rw[qO];apply gF
 .simp[mem,b,o];omega
 .intro i s q
  rw[jm]
  by_cases e:num X.N z=i
  .rw[aD e]
   simp only[mem,gq,jn];rw[<-g, <-e,<-b,xi a l]
  .rw[aC e]
   have u:i<4*X.N+10+ah X.dyn+1:=by
    have:=q;simp only[mem,db,lT]at this;omega
   by_cases m:i=4*X.N+10+ah X.dyn
   .rw[uz (by rw[r7];omega)]
    simp only[r7,m,pG,List.getElem_cons_zero];have j:ib Y.N (4*X.N+10+ah X.dyn) = .dy (ah X.dyn):=by
     rw[<-b];exact xi (D:=ah X.dyn+1) a (x:=.dy (ah X.dyn)) (Nat.lt_succ_self _)
    simp only[mem,gq,jn,m,j];show B=mh Y Y.dyn[ah X.dyn]?;rw[hd,dW (bG _),pG];exact n.symm
   .rw[te (by rw[r7];omega)]
    simp only[mem,gq,jn,<-b];refine(h _ (λr=>e ?_) ?_).symm
    .rw[<-r];exact F1
    .exact Xc a ax
theorem apj (a:1<=X.N) (B:aO):mem X ++ [B]=mem {X with dyn:=X.dyn ++ [.jk B]}:=by
 apply gF
 .simp[mem];omega
 .intro i g l
  have m:i<4*X.N+10+ah X.dyn+1:=by
   have:=g;simp only[bM,r7,cT,eX]at this;omega
  by_cases h:i=4*X.N+10+ah X.dyn
  .rw[uz (by rw[r7];omega)]
   simp only[r7,h,pG,List.getElem_cons_zero];have b:ib X.N (4*X.N+10+ah X.dyn) = .dy (ah X.dyn):=xi (D:=ah X.dyn+1) a (x:=.dy (ah X.dyn)) (Nat.lt_succ_self _);simp only[mem,gq,jn,b];show B=mh _ (X.dyn ++ [.jk B])[ah X.dyn]?;rw[dW (bG _),pG]
   rfl
  .rw[te (by rw[r7];omega)]
   simp only[mem,gq,jn];have d:=Xc (N:=X.N) (D:=ah X.dyn) (j:=i) a ax
   generalize ib X.N i=y at d;cases y with
   |dy k=>
    have e:k<ah X.dyn:=d;show mh X X.dyn[k]? = mh _ (X.dyn ++ [.jk B])[k]?;rw[dq e,dG e];cases X.dyn[k]<;>rfl
   |_=>rfl
end
def M4{p:Nat->Bool}:∀{σ:aq}{i:Nat},(∀j,i<=j->j<i+ah σ->p j=ae)->bR p i σ=σ
 | [],_,_=>rfl
 |B::r,i,h=>by
  unfold bR;rw[h i (bG _) aA,M4 λj a b=>h j ax aT]
  rfl
def F4{p:Nat->Bool}:∀{σ τ:aq}{i:Nat},bR p i (σ++τ)=bR p i σ++bR p (i+ah σ) τ
 | [],τ,i=>by simp[bR]
 |B::r,τ,i=>by
  simp only[kK,bR,cT];rw[F4,show i+1+ah r=i+(ah r+1)by omega]
def F5{p:Nat->Bool}:∀{σ:aq}{i:Nat},ah (bR p i σ)=ah σ
 | [],_=>rfl
 |B::r,i=>by unfold bR;simp[F5]
def tO{σ:aq}{B:aO}{n:Nat}(h:n=ah σ):aQ (σ ++ [B]) n=aa B:=by
 subst h;rw[tx];simp
def Xg{σ:aq}{f:Nat}:∀(l:ao) (acc:List Nat),(∀x∈l,∃n,x = .int n)->l.foldl (λacc y=>reach σ f y acc) acc=acc
 | [],_,_=>rfl
 |x::l,acc,h=>by
  obtain⟨n,rfl⟩:=h x aA
  have e:reach σ f (.int n) acc=acc:=by cases f<;>rfl
  simp only[my,e];exact Xg l acc λy a=>h y gf
def CP{rest:ao}:∀{xs:ak},chunk ab (ah xs) (xs.map AV.int++rest)=xs.map .int
 | []=>rfl
 |x::xs=>by
  have e:=CP (rest:=rest) (xs:=xs);simp only[cT,da,kK,chunk,e]
def apk{vars:ao}{y:Option (Nat×AV)}{σ:aq}{k u:Nat}{l:ak}{r:Nat}{n:Nat}{Q:Ex->St->Prop}(d:n=ah σ) (A:u=ah l+r) (C:nth vars k = .sl n u 0 (ah l)) (h:Q .fe ⟨eY vars k (.aX ad (l.map .int)),y,σ ++ [⟨ab,l.map .int++ag r (.int 0),.dead⟩]⟩):W L (.km k) ⟨vars,y,σ ++ [⟨ab,l.map .int++ag r (.int 0),.live⟩]⟩ Q:=by
 generalize m:(⟨ab,l.map .int++ag r (.int 0),.live⟩:aO)=B;have z:=tO (B:=B) d;have D:reach (σ ++ [B]) vd (.sl n u 0 (ah l)) []=[n]:=by
  show reach (σ ++ [B]) (11+1) (.sl n u 0 (ah l)) []=[n];unfold reach;simp only[z];rw[aC aA]
  rw[<-m];refine Xg _ _ λx o=>?_;rcases dI.1 o with o|o
  .obtain⟨a,_,rfl⟩:=cJ.1 o;exact⟨a,rfl⟩
  .exact⟨0,(List.mem_replicate.1 o).2⟩
 have q:aQ (bR (λb=>!([n]:List Nat).contains b) 0 (σ ++ [B])) n=aa B:=by
  rw[F4];have:bR (λb=>!([n]:List Nat).contains b) (0+ah σ) [B]=[B]:=by
   simp[bR,d]
  rw[this];exact tO (by rw[F5];exact d)
 have s:bR (λb=>([n]:List Nat).contains b) 0 (σ ++ [B])=σ ++ [⟨B.k,B.cells,.dead⟩]:=by
  rw[F4,M4 λj H I=>aT]
  congr 1
  simp[bR,d]
 have p:∀i:aq,aQ i n=aa B->upto i n u=aa B:=λi E=>by
  unfold upto;rw[E,<-m];simp[A]
 have F:view (bR (λb=>!([n]:List Nat).contains b) 0 (σ ++ [B])) ae vd (.sl n u 0 (ah l))=aa (iL l):=by
  have:=p _ q;show view _ ae (11+1) _=_;unfold view;simp only[this];rw[<-m];simp only[ba,mG,gQ,Nat.mul_one];have e:∀i,cu (view i ae 11) (l.map AV.int)=aa (l.map AV.int):=λi=>zr (f:=AV.int) (g:=AV.int) λ_ _=>rfl;rw[aD aA,CP,e]
 have G:fJ (σ ++ [B]) (.sl n u 0 (ah l))=ad:=by
  have:=p _ z;simp only[fJ,this];rw[<-m]
 have w:(⟨B.k,B.cells,.dead⟩:aO)=⟨ab,l.map .int++ag r (.int 0),.dead⟩:=by rw[<-m]
 refine⟨0,.fe,_,?_,h⟩;simp only[exec,C,D,F,G,s,w]
 rfl
inductive Oo (σ:aq):AV->ak->Prop
 |nil:Oo σ .aJ []
 |aX (q:Bool) (l:ak):Oo σ (.aX q (l.map .int)) l
 |sl (b:Nat) (l:ak):aQ σ b=aa ⟨ab,l.map .int,.live⟩->Oo σ (.sl b (ah l) 0 (ah l)) l
section
variable{X:XM}{f:Bool}{s t:Nat}
variable{g:Nat->Ix}
def re{N:Nat}:ah (o5 N g)=N:=by simp[o5]
def rf{N:Nat}(h:s<N):lU (o5 N g) s=aa (.sl (num N (g s)) N 0 N):=by rw[qJ];simp[o5,h]
def xj{N:Nat}{W:TO}:ah (iE N W s)=N:=by simp[iE]
def xk{N:Nat}{W:TO}(h:t<N):lU (iE N W s) t=aa (wc (W (s:Int) (t:Int))):=by rw[qJ];simp[iE,h]
variable{D:Int->Int->Bool}
def CQ{N:Nat}:ah (j5 N D s)=N:=by simp[j5]
def F6{N:Nat}(h:t<N):ix (j5 N D s) (t:Int)=D (s:Int) (t:Int):=by rw[bt (by rw[CQ];exact h)];simp[j5]
def F7{N:Nat}(h:t<N):lU ((j5 N D s).map .bool) t=aa (.bool (D (s:Int) (t:Int))):=by rw[qJ];simp[j5,h]
def vt (h:iw X):aQ (mem X) (num X.N (.box f))=aa ⟨aa 3,[.sl (num X.N (.wo f)) X.N 0 X.N,.sl (num X.N (.rb f)) X.N 0 X.N,.sl (num X.N (.mO f)) 1025 0 1025],.live⟩:=pR h.n.1 (x:=.box f) trivial
def M5 (h:iw X):aQ (mem X) (num X.N (.wo f))=aa ⟨ab,o5 X.N (.wr f),.live⟩:=pR h.n.1 (x:=.wo f) trivial
def M6 (h:iw X) (a:s<X.N):aQ (mem X) (num X.N (.wr f s))=aa ⟨ab,iE X.N (X.b f).W s,.live⟩:=pR h.n.1 (x:=.wr f s) a
def M7 (h:iw X):aQ (mem X) (num X.N (.rb f))=aa ⟨ab,o5 X.N (.dr f),.live⟩:=pR h.n.1 (x:=.rb f) trivial
def M8 (h:iw X) (a:s<X.N):aQ (mem X) (num X.N (.dr f s))=aa ⟨ab,(j5 X.N (X.b f).D s).map .bool,.live⟩:=pR h.n.1 (x:=.dr f s) a
def CS (h:iw X):aQ (mem X) (num X.N (.mO f))=aa ⟨ab,oo X f,.live⟩:=pR h.n.1 (x:=.mO f) trivial
structure Xe (X Y:XM):Prop where
 ok:iw Y
 n:Y.N=X.N
 bx:Y.bx=X.bx
 d:∃ext,Y.dyn=X.dyn++ext
def Xe.refl (h:iw X):Xe X X:=⟨h,rfl,rfl,[],aA⟩
def Xe.trans{Y Z:XM}(h:Xe X Y) (k:Xe Y Z):Xe X Z:=⟨k.ok,by rw[k.n,h.n],by rw[k.bx,h.bx],by
 obtain⟨e1,h1⟩:=h.d;obtain⟨e2,h2⟩:=k.d;exact⟨e1++e2,by rw[h2,h1,jg]⟩⟩
def XM.add (X:XM) (B:aO):XM:={X with dyn:=X.dyn ++ [.jk B]}
def M9 (h:iw X) (B:aO):iw (X.add B):=by
 refine⟨h.n,h.bx,λf k b=>?_,λi f k a=>?_,λt b=>?_,λi t a=>?_⟩
 .have:=h.r1 f k b
  show(X.dyn ++ [.jk B])[X.ri f k]? = _;rw[dq (dp.1 this).1,this]
 .have a:(X.dyn ++ [.jk B])[i]? = aa (.rt f k):=a
  by_cases d:i<ah X.dyn
  .rw[dq d]at a;exact h.r2 i f k a
  .rw[dW ax]at a
   have:i-ah X.dyn=0\/0<i-ah X.dyn:=ax
   rcases this with e|e
   .rw[e]at a;simp at a
   .rw[il aT]at a;simp at a
 .have:=h.a1 t b
  show(X.dyn ++ [.jk B])[X.ai t]? = _;rw[dq (dp.1 this).1,this]
 .have a:(X.dyn ++ [.jk B])[i]? = aa (.ra t):=a
  by_cases d:i<ah X.dyn
  .rw[dq d]at a;exact h.a2 i t a
  .rw[dW ax]at a
   have:i-ah X.dyn=0\/0<i-ah X.dyn:=ax
   rcases this with e|e
   .rw[e]at a;simp at a
   .rw[il aT]at a;simp at a
def He (h:iw X) (B:aO):Xe X (X.add B):=⟨M9 h B,rfl,rfl,[.jk B],rfl⟩
def Na (h:iw X) (B:aO):mem X ++ [B]=mem (X.add B):=apj h.n.1 B
def XM.eV (X:XM) (f:Bool) (b:Bs):XM:=if f=ad then {X with S:=b}else {X with C:=b}
def CT{b:Bs}:(X.eV f b).b f=b:=by cases f<;>rfl
def apl{b:Bs}:(X.eV f b).b (!f)=X.b (!f):=by cases f<;>rfl
def lJ{b:Bs}{g:Bool}:(X.eV f b).b g=if g=f then b else X.b g:=by cases f<;>cases g<;>rfl
def lK{b:Bs}:(X.eV f b).N=X.N/\(X.eV f b).bx=X.bx/\(X.eV f b).A=X.A/\(X.eV f b).ri=X.ri/\(X.eV f b).ai=X.ai/\(X.eV f b).dyn=X.dyn:=by cases f<;>exact⟨rfl,rfl,rfl,rfl,rfl,rfl⟩
end
section
variable{X:XM}{f:Bool}{s t k:Nat}
theorem apm (h:iw X) (p:s<X.N) (C:t<X.N) (x:ak) (R:Nat->List PR) (q:R=(X.b f).R):aV (mem X) (num X.N (.wr f s)) ⟨ab,(iE X.N (X.b f).W s).set t (.aX ad (x.map .int)),.live⟩=mem (X.eV f ⟨ia (X.b f).W (s:Int) (t:Int) x,(X.b f).D,R⟩):=by
 subst q;obtain⟨a,l,m,r,w,o⟩:=lK (X:=X) (f:=f) (b:=⟨ia (X.b f).W (s:Int) (t:Int) x,(X.b f).D,(X.b f).R⟩);refine M3 h.n.1 a.symm (by rw[o]) (x:=.wr f s) p _ ?_ λy z=>?_
 .show(⟨ab,iE _ _ s,.live⟩:aO)=_
  rw[a,CT]
  congr 1
  apply gF
  .simp[iE]
  .intro i E F
   simp only[iE,jm,gq,jn,ia]
   by_cases e:t=i
   .subst e;simp[wc]
   .have A : ¬(i:Int)=(t:Int):=by omega
    rw[aC e];simp[A]
 .cases y with
  |mO g=>
   show(⟨ab,oo _ g,.live⟩:aO)=⟨ab,oo _ g,.live⟩
   congr 1
   unfold oo;rw[a,r,lJ]
   by_cases e:g=f
   .subst e;rw[aD rfl]
   .rw[aC e]
  |box g=>simp only[cb,a]
  |wo g=>simp only[cb,a]
  |rb g=>simp only[cb,a]
  |co=>simp only[cb,sC,a,m,w]
  |bx=>simp only[cb,a,l]
  |dr g u=>
   simp only[cb,a,lJ]
   by_cases e:g=f
   .subst e;rw[aD rfl]
   .rw[aC e]
  |wr g u=>
   simp only[cb,a,lJ]
   by_cases e:g=f
   .subst e
    rw[aD rfl];have G:u ≠ s:=λl=>z (by rw[l])
    congr 1
    unfold iE;refine fm λi _=>?_;simp only[ia];rw[aC ax]
   .rw[aC e]
  |dy i=>
   simp only[cb,o];cases X.dyn[i]? with
   |none=>rfl
   |some d=>
    cases d with
    |rt g j=>
     simp only[mh,lJ]
     by_cases e:g=f
     .subst e;rw[aD rfl]
     .rw[aC e]
    |ra j=>simp only[mh,m]
    |jk B=>rfl
theorem apn (h:iw X) (p:s<X.N) (A:t<X.N):aV (mem X) (num X.N (.dr f s)) ⟨ab,((j5 X.N (X.b f).D s).set t ad).map .bool,.live⟩=mem (X.eV f ⟨(X.b f).W,nW (X.b f).D (s:Int) (t:Int),(X.b f).R⟩):=by
 obtain⟨a,l,m,q,r,o⟩:=lK (X:=X) (f:=f) (b:=⟨(X.b f).W,nW (X.b f).D (s:Int) (t:Int),(X.b f).R⟩);refine M3 h.n.1 a.symm (by rw[o]) (x:=.dr f s) p _ ?_ λy w=>?_
 .show(⟨ab,(j5 _ _ s).map .bool,.live⟩:aO)=_
  rw[a,CT]
  congr 2
  apply gF
  .simp[j5]
  .intro i C E
   simp only[j5,jm,gq,jn,nW]
   by_cases e:t=i
   .subst e;simp
   .have z : ¬(i:Int)=(t:Int):=by omega
    rw[aC e];simp[z]
 .cases y with
  |mO g=>
   show(⟨ab,oo _ g,.live⟩:aO)=⟨ab,oo _ g,.live⟩
   congr 1
   unfold oo;rw[a,q,lJ]
   by_cases e:g=f
   .subst e;rw[aD rfl]
   .rw[aC e]
  |box g=>simp only[cb,a]
  |wo g=>simp only[cb,a]
  |rb g=>simp only[cb,a]
  |co=>simp only[cb,sC,a,m,r]
  |bx=>simp only[cb,a,l]
  |wr g u=>
   simp only[cb,a,lJ]
   by_cases e:g=f
   .subst e;rw[aD rfl]
   .rw[aC e]
  |dr g u=>
   simp only[cb,a,lJ]
   by_cases e:g=f
   .subst e
    rw[aD rfl];have F:u ≠ s:=λl=>w (by rw[l])
    congr 2
    unfold j5;refine fm λi _=>?_;simp only[nW];rw[aC ax]
   .rw[aC e]
  |dy i=>
   simp only[cb,o];cases X.dyn[i]? with
   |none=>rfl
   |some d=>
    cases d with
    |rt g j=>
     simp only[mh,lJ]
     by_cases e:g=f
     .subst e;rw[aD rfl]
     .rw[aC e]
    |ra j=>simp only[mh,m]
    |jk B=>rfl
def F8 (h:iw X) (W:TO) (D:Int->Int->Bool):iw (X.eV f ⟨W,D,(X.b f).R⟩):=by
 obtain⟨q,r,l,m,o,d⟩:=lK (X:=X) (f:=f) (b:=⟨W,D,(X.b f).R⟩);have p:∀g,((X.eV f ⟨W,D,(X.b f).R⟩).b g).R=(X.b g).R:=λg=>by
  rw[lJ]
  by_cases e:g=f
  .subst e;rw[aD rfl]
  .rw[aC e]
 exact⟨by rw[q];exact h.n,by rw[r];exact h.bx,λg k j=>by rw[d,m];exact h.r1 g k (by rw[<-p];exact j),λi g k a=>by rw[m,p];rw[d]at a;exact h.r2 i g k a,λt j=>by rw[d,o];exact h.a1 t (by rw[<-l];exact j),λi t a=>by rw[l,o];rw[d]at a;exact h.a2 i t a⟩
def Xh (h:iw X) (W:TO) (D:Int->Int->Bool):Xe X (X.eV f ⟨W,D,(X.b f).R⟩):=by
 obtain⟨a,d,g,i,j,e⟩:=lK (X:=X) (f:=f) (b:=⟨W,D,(X.b f).R⟩);exact⟨F8 h W D,a,d,[],by rw[e];simp⟩
def Xi:ah (oo X f)=1025:=by simp[oo]
def Xj (a:k<1025):lU (oo X f) k=aa (if(X.b f).R k=[]then .aJ else .sl (num X.N (.dy (X.ri f k))) (2*ah ((X.b f).R k)) 0 (ah ((X.b f).R k))):=by rw[qJ];simp[oo,a]
def yk (h:iw X) (e:(X.b f).R k ≠ []):X.ri f k<ah X.dyn/\aQ (mem X) (num X.N (.dy (X.ri f k)))=aa ⟨aa 2,tN ((X.b f).R k),.live⟩:=by
 have a:=h.r1 f k e;have d:=(dp.1 a).1;refine⟨d,?_⟩;have:=pR h.n.1 (x:=.dy (X.ri f k)) d;rw[this];show aa (mh X X.dyn[X.ri f k]?)=_;rw[a];rfl
variable{p:PR}
def Xk{l:List PR}:tN (l ++ [p])=tN l ++ [.int p.1,.int p.2]:=by simp[tN]
def tP:∀{l:List PR},ah (tN l)=2*ah l
 | []=>rfl
 |p::l=>by
  have:=tP (l:=l);simp only[tN,jD,bM,cT,eX]at this ⊢;omega
def F9 (r:Bool->Nat->Nat) (f:Bool) (k v:Nat):Bool->Nat->Nat:=λg j=>if g=f/\j=k then v else r g j
def XM.je (X:XM) (f:Bool) (k:Nat) (p:PR):XM:=
 let Y:=X.eV f ⟨(X.b f).W,(X.b f).D,ga (X.b f).R k p⟩
 if(X.b f).R k=[]then {Y with ri:=F9 X.ri f k (ah X.dyn),dyn:=X.dyn ++ [.rt f k]}else Y
theorem apo (h:iw X) (I:k<1025) (p:PR) (l:(X.b f).R k ≠ []):aV (aV (mem X) (num X.N (.dy (X.ri f k))) ⟨aa 2,tN ((X.b f).R k) ++ [.int p.1,.int p.2],.live⟩) (num X.N (.mO f)) ⟨ab,(oo X f).set k (.sl (num X.N (.dy (X.ri f k))) (2*ah ((X.b f).R k)+2) 0 (ah ((X.b f).R k)+1)),.live⟩=mem (X.je f k p):=by
 have s:=(yk h l).1;unfold XM.je;rw[aC l];obtain⟨a,m,q,r,w,o⟩:=lK (X:=X) (f:=f) (b:=⟨(X.b f).W,(X.b f).D,ga (X.b f).R k p⟩);refine Xd h.n.1 a.symm (by rw[o]) (x:=.dy (X.ri f k)) (z:=.mO f) s trivial ?_ _ _ ?_ ?_ λy A C=>?_
 .have:=F3 (N:=X.N) (D:=0) (x:=.mO f) trivial
  show 4*X.N+10+X.ri f k ≠ _;omega
 .show mh _ _=_
  rw[o,h.r1 f k l];simp only[mh,CT,ga,dM];rw[Xk]
 .show(⟨ab,oo _ f,.live⟩:aO)=_
  congr 1
  apply gF
  .simp[oo]
  .intro i J K
   simp only[oo,jm,gq,jn,a,r,CT,ga]
   by_cases e:k=i
   .subst e;simp;omega
   .have E : ¬i=k:=λx=>e x.symm
    rw[aC e];simp only[aC E]
 .cases y with
  |mO g=>
   have F:g ≠ f:=λe=>C fk
   show(⟨ab,oo _ g,.live⟩:aO)=⟨ab,oo _ g,.live⟩
   congr 1
   unfold oo;rw[a,r,lJ,aC F]
  |box g=>simp only[cb,a]
  |wo g=>simp only[cb,a]
  |rb g=>simp only[cb,a]
  |co=>simp only[cb,sC,a,q,w]
  |bx=>simp only[cb,a,m]
  |wr g u=>
   simp only[cb,a,lJ]
   by_cases e:g=f
   .subst e;rw[aD rfl]
   .rw[aC e]
  |dr g u=>
   simp only[cb,a,lJ]
   by_cases e:g=f
   .subst e;rw[aD rfl]
   .rw[aC e]
  |dy i=>
   have G:i ≠ X.ri f k:=λe=>A fk
   simp only[cb,o];cases hd:X.dyn[i]? with
   |none=>rfl
   |some d=>
    cases d with
    |rt g j=>
     simp only[mh,lJ]
     by_cases e:g=f
     .subst e
      rw[aD rfl];have H:j ≠ k:=λm=>G (by rw[<-m];exact(h.r2 i g j hd).2)
      simp only[ga,aC H]
     .rw[aC e]
    |ra j=>simp only[mh,q]
    |jk B=>rfl
theorem apq (h:iw X) (P:k<1025) (p:PR) (o:(X.b f).R k=[]):aV (mem X ++ [⟨aa 2,[.int p.1,.int p.2],.live⟩]) (num X.N (.mO f)) ⟨ab,(oo X f).set k (.sl (num X.N (.dy (ah X.dyn))) 2 0 1),.live⟩=mem (X.je f k p):=by
 unfold XM.je;rw[aD o];obtain⟨E,q,F,Q,G,S⟩:=lK (X:=X) (f:=f) (b:=⟨(X.b f).W,(X.b f).D,ga (X.b f).R k p⟩);generalize l:({X.eV f ⟨(X.b f).W,(X.b f).D,ga (X.b f).R k p⟩with ri:=F9 X.ri f k (ah X.dyn),dyn:=X.dyn ++ [.rt f k]}:XM)=Y
 have a:Y.N=X.N:=by rw[<-l];exact E
 have H:Y.bx=X.bx:=by rw[<-l];exact q
 have r:Y.A=X.A:=by rw[<-l];exact F
 have I:Y.ai=X.ai:=by rw[<-l];exact G
 have s:Y.ri=F9 X.ri f k (ah X.dyn):=by rw[<-l]
 have w:Y.dyn=X.dyn ++ [.rt f k]:=by rw[<-l]
 have m:∀g,Y.b g=if g=f then⟨(X.b f).W,(X.b f).D,ga (X.b f).R k p⟩else X.b g:=λg=>by rw[<-l,<-lJ];rfl
 refine Xf h.n.1 a.symm w (z:=.mO f) trivial _ _ ?_ ?_ λy J K=>?_
 .simp only[mh,m,dM,ga,o]
  rfl
 .show(⟨ab,oo _ f,.live⟩:aO)=_
  congr 1
  apply gF
  .simp[oo]
  .intro i T U
   simp only[oo,jm,gq,jn,a,s,m,ga,F9,dM]
   by_cases e:k=i
   .subst e;simp[o]
   .have L : ¬i=k:=λx=>e x.symm
    rw[aC e];simp only[true_and,aC L]
 .cases y with
  |mO g=>
   have C:g ≠ f:=λe=>J fk
   show(⟨ab,oo _ g,.live⟩:aO)=⟨ab,oo _ g,.live⟩
   congr 1
   unfold oo;refine fm λj _=>?_;rw[a,s,m,aC C];simp only[F9,C,false_and,fv]
  |box g=>simp only[cb,a]
  |wo g=>simp only[cb,a]
  |rb g=>simp only[cb,a]
  |co=>simp only[cb,sC,a,r,I]
  |bx=>simp only[cb,a,H]
  |wr g u=>
   simp only[cb,a,m]
   by_cases e:g=f
   .subst e;rw[aD rfl]
   .rw[aC e]
  |dr g u=>
   simp only[cb,a,m]
   by_cases e:g=f
   .subst e;rw[aD rfl]
   .rw[aC e]
  |dy i=>
   have M:i<ah X.dyn:=K;simp only[cb,w];rw[dq M];cases hd:X.dyn[i]? with
   |none=>rfl
   |some d=>
    cases d with
    |rt g j=>
     simp only[mh,m]
     by_cases e:g=f
     .subst e
      rw[aD rfl];have O:j ≠ k:=λq=>(h.r2 i g j hd).1 (by rw[q];exact o)
      simp only[ga,aC O]
     .rw[aC e]
    |ra j=>simp only[mh,r]
    |jk B=>rfl
def Xl{g:Bool}:(X.je f k p).b g=if g=f then⟨(X.b f).W,(X.b f).D,ga (X.b f).R k p⟩else X.b g:=by
 unfold XM.je;split
 .rw[<-lJ];rfl
 .exact lJ
def Xm:(X.je f k p).N=X.N/\(X.je f k p).bx=X.bx/\(X.je f k p).A=X.A/\(X.je f k p).ai=X.ai:=by
 obtain⟨a,d,e,h,g,i⟩:=lK (X:=X) (f:=f) (b:=⟨(X.b f).W,(X.b f).D,ga (X.b f).R k p⟩);unfold XM.je;split<;>exact⟨a,d,e,g⟩
def apr (h:iw X) (p:PR):Xe X (X.je f k p):=by
 obtain⟨u,w,y,z⟩:=Xm (X:=X) (f:=f) (k:=k) (p:=p);have A:=λg=>Xl (X:=X) (f:=f) (k:=k) (p:=p) (g:=g);obtain⟨K,L,M,H,N,I⟩:=lK (X:=X) (f:=f) (b:=⟨(X.b f).W,(X.b f).D,ga (X.b f).R k p⟩)
 by_cases q:(X.b f).R k=[]
 .have r:(X.je f k p).ri=F9 X.ri f k (ah X.dyn):=by unfold XM.je;rw[aD q]
  have l:(X.je f k p).dyn=X.dyn ++ [.rt f k]:=by unfold XM.je;rw[aD q]
  refine⟨⟨by rw[u];exact h.n,by rw[w];exact h.bx,λg j a=>?_,λi g j d=>?_,λt a=>?_,λi t d=>?_⟩,u,w,[.rt f k],l⟩
  .rw[l,r]
   unfold F9
   by_cases e:g=f/\j=k
   .rw[aD e,dW (bG _),pG,e.1,e.2];rfl
   .rw[aC e]
    have s : (X.b g).R j ≠ []:=by
     rw[A]at a
     by_cases m:g=f
     .subst m
      rw[aD rfl]at a;have B:j ≠ k:=λx=>e ⟨rfl,x⟩;simp only[ga,aC B]at a;exact a
     .rw[aC m]at a;exact a
    have:=h.r1 g j s;rw[dq (dp.1 this).1,this]
  .rw[l]at d
   rw[r,A]
   by_cases C:i<ah X.dyn
   .rw[dq C]at d
    obtain⟨E,J⟩:=h.r2 i g j d;have a:¬(g=f/\j=k):=λe=>E (by rw[e.1,e.2];exact q)
    unfold F9;rw[aC a];refine⟨?_,J⟩
    by_cases m:g=f
    .subst m
     rw[aD rfl];have B:j ≠ k:=λx=>a ⟨rfl,x⟩;simp only[ga,aC B];exact E
    .rw[aC m];exact E
   .rw[dW ax]at d
    have:i-ah X.dyn=0\/0<i-ah X.dyn:=ax
    rcases this with e|e
    .rw[e]at d
     simp at d;obtain⟨rfl,rfl⟩:=d;rw[aD rfl];exact⟨by simp[ga],by unfold F9;rw[aD ⟨rfl,rfl⟩];omega⟩
    .rw[il aT]at d;simp at d
  .rw[y]at a
   rw[l,z];have:=h.a1 t a;rw[dq (dp.1 this).1,this]
  .rw[l]at d
   rw[y,z]
   by_cases C:i<ah X.dyn
   .rw[dq C]at d;exact h.a2 i t d
   .rw[dW ax]at d
    have:i-ah X.dyn=0\/0<i-ah X.dyn:=ax
    rcases this with e|e
    .rw[e]at d;simp at d
    .rw[il aT]at d;simp at d
 .have F:X.je f k p=X.eV f ⟨(X.b f).W,(X.b f).D,ga (X.b f).R k p⟩:=by unfold XM.je;rw[aC q]
  have r:(X.je f k p).ri=X.ri:=by rw[F];exact H
  have l:(X.je f k p).dyn=X.dyn:=by rw[F];exact I
  have o:∀g j,((X.je f k p).b g).R j ≠ []↔(X.b g).R j ≠ []:=λg j=>by
   rw[A]
   by_cases m:g=f
   .subst m
    rw[aD rfl];simp only[ga]
    by_cases G:j=k
    .subst G;rw[aD rfl];simp[q]
    .rw[aC G]
   .rw[aC m]
  exact⟨⟨by rw[u];exact h.n,by rw[w];exact h.bx,λg j a=>by rw[l,r];exact h.r1 g j ((o g j).1 a),λi g j d=>by rw[r,o];rw[l]at d;exact h.r2 i g j d,λt a=>by rw[l,z];rw[y]at a;exact h.a1 t a,λi t d=>by rw[y,z];rw[l]at d;exact h.a2 i t d⟩,u,w,[],by rw[l];simp⟩
end
def OfQ (X:XM) (f:Bool) (b:Bs) (r:AV) (τ:aq):Prop:=r = .bY []/\∃Y,τ=mem Y/\Xe X Y/\Y.b f=b/\Y.b (!f)=X.b (!f)/\Y.A=X.A
variable{B:aO}
def kA{σ τ:aq}{n:Nat}(h:aQ σ n=aa B):aQ (σ++τ) n=aa B:=by
 rw[tx]at h ⊢;rw[dq (dp.1 h).1,h]
def Xn{σ:aq}{B B' : aO}{n:Nat}(h:n=ah σ):aV (σ ++ [B]) n B' = σ ++ [B']:=by
 subst h;rw[qO];simp
inductive CU:AV->ak->Prop
 |nil:CU .aJ []
 |aX (q:Bool) (l:ak):CU (.aX q (l.map .int)) l
def Xo{a b:ak}{n k:Nat}(d:k=ah a) (h:ah a+ah b<=n):putAt (a.map .int++ag (n-ah a) (.int 0)) k (b.map .int)=(a++b).map .int++ag (n-(ah a+ah b)) (.int 0):=by
 subst d;unfold putAt;rw[List.take_left' aA,List.drop_append,kf aA]
 simp;omega
variable{p v:AV}{lv lw:ak}
def ofA{σ:aq}{a b w:AV}{Q:Ex->St->Prop}(i:Oo σ v lv) (d:CU w lw) (e:ah lv+ah lw<=5000) (h:Q .fe ⟨[p,a,b,v,w,.int ((ah lv+ah lw:Nat):Int),.aW,.aW],ab,σ⟩):WK L (.cM Jq) [p,a,b,v,w,.aW,.aW,.aW] ab σ Q:=by
 cases i with
 |nil=>
  cases d with
  |nil=>simp[-aK]at h ⊢;exact h
  |aX q l=>simp[-aK]at h ⊢;exact⟨by simp at e;omega,h⟩
 |aX m j =>
  cases d with
  |nil=>simp[-aK]at h ⊢;exact⟨by simp at e;omega,h⟩
  |aX q l=>simp[-aK]at h ⊢;exact⟨ax,h⟩
 |sl c j g=>
  cases d with
  |nil=>simp[-aK,g]at h ⊢;exact⟨by simp at e;omega,h⟩
  |aX q l=>simp[-aK,g]at h ⊢;exact⟨ax,h⟩
def ofB{σ:aq}{a b w o:AV}{m:Nat}{Q:Ex->St->Prop}(C:m=ah lv+ah lw) (R:Oo σ v lv) (K:CU w lw) (S:m<=5000) (h:∀B,Q .fe ⟨[p,a,b,.aW,.aW,.int m,o,.aX ad ((lv++lw).map .int)],ab,σ ++ [B]⟩):WK L (.seq (.cM Jr) (.km 7)) [p,a,b,v,w,.int m,o,.aW] ab σ Q:=by
 have g:=λB=>tO (σ:=σ) (B:=B) (n:=ah σ) rfl;have i:=λB B' =>Xn (σ:=σ) (B:=B) (B' :=B') (n:=ah σ) rfl;have key:∀(cells:ao) (N u:Nat),cells=(lv++lw).map .int++ag 1 (.int 0)->N=ah (lv++lw)->u=m+1->W L (.km 7) ⟨[p,a,b,.aW,.aW,.int m,o,.sl (ah σ) u 0 N],ab,σ ++ [⟨ab,cells,.live⟩]⟩ Q:=by
  rintro cells N u rfl rfl rfl;exact apk (l:=lv++lw) (r:=1) rfl (by rw[C,bM]) rfl (h _)
 have T:List.map AV.int (ag (m+1) 0)=ag (m+1) (.int 0):=by rw[List.map_replicate]
 have z:∀(l:ak),ah l<=m->putAt (List.map AV.int (ag (m+1) 0)) 0 (l.map .int)=l.map .int++ag (m+1-ah l) (.int 0):=λl S=>by
  have:=Xo (a:=[]) (b:=l) (n:=m+1) (k:=0) rfl aT
  rw[T];simpa using this
 have O:ah (lv.map AV.int++ag (m+1-ah lv) (AV.int 0))=m+1:=aT
 have P:putAt (lv.map AV.int++ag (m+1-ah lv) (AV.int 0)) (ah lv) (lw.map .int)=(lv++lw).map .int++ag 1 (.int 0):=by
  have:=Xo (a:=lv) (b:=lw) (n:=m+1) (k:=ah lv) rfl ax
  rw[this,show m+1-(ah lv+ah lw)=1 by omega]
 have x:=bz (show (ah lv)<=m+1 by omega)
 have F:=bz (show (ah lw)<=m+1 by omega)
 have D:=bz (show (ah lv)+ah lw<=m+1 by omega)
 have G:=z lv ax
 have M:=z lw ax
 have H:(m+1=ah lv)=False:=eG ax
 have E : (ah lv=m+1)=False:=eG ax
 have y:List.take (ah lv) (lv.map AV.int)=lv.map .int:=gN aA
 have kw:lv=[]->W L (.km 7) ⟨[p,a,b,.aW,.aW,.int m,o,.sl (ah σ) (m+1) 0 (ah lw)],ab,σ ++ [⟨ab,lw.map .int++ag (m+1-ah lw) (.int 0),.live⟩]⟩ Q:=λe=>by
  have em:m=ah lw:=by rw[C,e];simp
  exact key _ _ _ (by rw[e,em,show (ah lw)+1-ah lw=1 by omega];rfl) fW rfl
 have J:lw=[]->W L (.km 7) ⟨[p,a,b,.aW,.aW,.int m,o,.sl (ah σ) (m+1) 0 (ah lv)],ab,σ ++ [⟨ab,lv.map .int++ag (m+1-ah lv) (.int 0),.live⟩]⟩ Q:=λe=>by
  have em:m=ah lv:=by rw[C,e];simp
  exact key _ _ _ (by rw[e,em,List.append_nil,show (ah lv)+1-ah lv=1 by omega]) (by rw[e];simp) rfl
 have I:W L (.km 7) ⟨[p,a,b,.aW,.aW,.int m,o,.sl (ah σ) (m+1) 0 (ah lv+ah lw)],ab,σ ++ [⟨ab,lv.map .int++(lw.map .int ++ [.int 0]),.live⟩]⟩ Q:=key _ _ _ aA aA rfl
 cases R with
 |nil=>
  cases K with
  |nil=>
   have em:m=0:=by rw[C];rfl
   subst em;simp[-aK,g,i];exact key _ _ _ rfl rfl rfl
  |aX q l=>
   by_cases s:lw=[]
   .have em:m=0:=by rw[C,s];rfl
    subst em;have d :=s;subst d;simp[-aK,g,i];exact key _ _ _ rfl rfl rfl
   .have em:m=ah lw:=by rw[C];simp
    simp[-aK,g,i,-List.map_replicate,s,M,F];exact⟨ax,ax,ax,kw rfl⟩
 |aX X U =>
  cases K with
  |nil=>
   by_cases j:lv=[]
   .have em:m=0:=by rw[C,j];rfl
    subst em;have d :=j;subst d;simp[-aK,g,i];exact key _ _ _ rfl rfl rfl
   .simp[-aK,g,i,-List.map_replicate,j,G,x]
    exact⟨ax,ax,ax,J rfl⟩
  |aX q l=>
   by_cases j:lv=[]
   .by_cases s:lw=[]
    .have em:m=0:=by rw[C,j,s];rfl
     subst em;have d :=j;subst d;have d :=s;subst d;simp[-aK,g,i];exact key _ _ _ rfl rfl rfl
    .have d :=j
     subst d;simp[-aK,g,i,-List.map_replicate,s,M,F];exact⟨ax,ax,ax,kw rfl⟩
   .by_cases s:lw=[]
    .have d :=s
     subst d;simp[-aK,g,i,-List.map_replicate,j,G,x];exact⟨ax,ax,ax,J rfl⟩
    .simp[-aK,g,i,-List.map_replicate,j,s,G,x,D,H,E, O,P]
     exact⟨ax,ax,ax,ax,I⟩
 |sl c U V=>
  have A :=λτ=>kA (τ:=τ) V;cases K with
  |nil=>
   by_cases j:lv=[]
   .have em:m=0:=by rw[C,j];rfl
    subst em;have d :=j;subst d;simp[-aK,g,i,A, y];exact key _ _ _ rfl rfl rfl
   .simp[-aK,g,i,A, y,-List.map_replicate,j,G,x]
    exact⟨ax,ax,ax,J rfl⟩
  |aX q l=>
   by_cases j:lv=[]
   .by_cases s:lw=[]
    .have em:m=0:=by rw[C,j,s];rfl
     subst em;have d :=j;subst d;have d :=s;subst d;simp[-aK,g,i,A, y];exact key _ _ _ rfl rfl rfl
    .have d :=j
     subst d;simp[-aK,g,i,A, y,-List.map_replicate,s,M,F];exact⟨ax,ax,ax,kw rfl⟩
   .by_cases s:lw=[]
    .have d :=s
     subst d;simp[-aK,g,i,A, y,-List.map_replicate,j,G,x];exact⟨ax,ax,ax,J rfl⟩
    .simp[-aK,g,i,A, y,-List.map_replicate,j,s,G,x,D,H,E, O,P]
     exact⟨ax,ax,ax,ax,I⟩
def rh:∀{cs:ao}{k:Nat}{x:AV},mI cs k [x]=cs.set k x
 | [],0,_=>rfl
 | [],_+1,_=>rfl
 |c::cs,0,x=>by cases cs<;>rfl
 |c::cs,k+1,x=>by rw[sQ,<-rh (cs:=cs)]
def Ga{σ:aq}{a b:Nat}(h:a ≠ b):aQ (aV σ a B) b=aQ σ b:=by
 rw[tx,qO,tx,List.getElem?_set_ne h]
def Nb:IC:=(.seq (.seq (.cM SP)
 (.cond 66 .ret .skip))
 (.seq (.cM SQ)
 (.seq (.cM SR)
 (.cond 84 (.cM SS) .skip))))
def Nc:IC:=(.seq (.seq (.cM Jr) (.km 7)) Nb)
section
variable{X:XM}{f:Bool}{s t:Nat}
def Nd (h:iw X):OfQ X f (X.b f) (.bY []) (mem X):=⟨rfl,X,rfl,.refl h,rfl,rfl,rfl⟩
def ofC (h:iw X) (hs:s<X.N) (ht:t<X.N){x:ak}(hx:ah x<=1024) (hD:(X.b f).D (s:Int) (t:Int)=ae) (ho:∀o,(X.b f).W (s:Int) (t:Int)=aa o->ah x<=ah o/\ah o<=1024) (hR:∀k,ah ((X.b f).R k)<=1000000){K:AV->aq->Prop}(hK:∀Y,Xe X Y->Y.b f=(X.b f).off (s:Int) (t:Int) x->Y.b (!f)=X.b (!f)->Y.A=X.A->K (.bY []) (mem Y)):WK L Nb [.ptr (num X.N (.box f)) (ba (aa 3)) 0,.int s,.int t,.aW,.aW,.int ((ah x:Nat):Int),wc ((X.b f).W (s:Int) (t:Int)),.aX ad (x.map .int)] ab (mem X) (iq BF K):=by
 unfold Nb;have b1:=vt (f:=f) h;have T:=M5 (f:=f) h;have U:=M6 (f:=f) h hs;have b6:=CS (f:=f) h;have V:=re (N:=X.N) (g:=.wr f);have Z:=rf (N:=X.N) (g:=.wr f) hs;have r5:=xj (s:=s) (N:=X.N) (W:=(X.b f).W);have H:=xk (s:=s) (N:=X.N) (W:=(X.b f).W) ht;have w :=bz hs;have y :=bz ht;have j:=apm (f:=f) h hs ht x (X.b f).R rfl;rw[<-rh]at j;have j:aV (mem X) (num X.N (.wr f s)) ⟨ab,mI (iE X.N (X.b f).W s) t (AV.aX ad (x.map .int)).cells,.live⟩=_:=j;have a:=Xh (f:=f) h (ia (X.b f).W (s:Int) (t:Int) x) (X.b f).D;have C:=CT (X:=X) (f:=f) (b:=⟨ia (X.b f).W (s:Int) (t:Int) x,(X.b f).D,(X.b f).R⟩);have I:=apl (X:=X) (f:=f) (b:=⟨ia (X.b f).W (s:Int) (t:Int) x,(X.b f).D,(X.b f).R⟩);have J:=(lK (X:=X) (f:=f) (b:=⟨ia (X.b f).W (s:Int) (t:Int) x,(X.b f).D,(X.b f).R⟩)).2.2.1;have q:=(lK (X:=X) (f:=f) (b:=⟨ia (X.b f).W (s:Int) (t:Int) x,(X.b f).D,(X.b f).R⟩)).1;generalize hY:X.eV f ⟨ia (X.b f).W (s:Int) (t:Int) x,(X.b f).D,(X.b f).R⟩=Y at *;have Q:=vt (f:=f) a.ok;have S:=CS (f:=f) a.ok;rw[q]at Q S;have l6:=Xi (X:=Y) (f:=f);have hk:ah x<1025:=ax
 have E :=bz hk;have el:=Xj (X:=Y) (f:=f) hk;have hRY:(Y.b f).R=(X.b f).R:=by rw[C]
 have z:=bz (show t+1<=X.N by omega)
 have F:=bz (show (ah x)+1<=1025 by omega)
 have nN:=λ(p:PR) (m:(Y.b f).R (ah x)=[])=>apq (f:=f) a.ok hk p m;have nO:=λ(p:PR) (m:(Y.b f).R (ah x) ≠ [])=>apo (f:=f) a.ok hk p m;have mlY:num X.N (.dy (ah Y.dyn))=ah (mem Y):=by rw[r7,q];rfl
 simp only[<-rh,q,mlY]at nN nO;have c7:=λ(B:aO)=>kA (τ:=[B]) S;have fg:∀i,num X.N (.dy i) ≠ num X.N (.mO f):=λi=>by
  have:=F3 (N:=X.N) (D:=0) (x:=.mO f) trivial;show 4*X.N+10+i ≠ _;omega
 have c8:=λ(i:Nat) (B:aO)=>Ga (σ:=mem Y) (B:=B) (fg i);have G:=bz (show(ah x:Int)<1025 by omega)
 have aE:=λ(p:PR)=>apr (f:=f) (k:=ah x) a.ok p;have aB:=λ(p:PR) (g:Bool)=>Xl (X:=Y) (f:=f) (k:=ah x) (p:=p) (g:=g);have aN:=λ(p:PR)=>Xm (X:=Y) (f:=f) (k:=ah x) (p:=p);cases hW:(X.b f).W (s:Int) (t:Int)with
 |none=>
  have eo:(X.b f).off (s:Int) (t:Int) x=⟨ia (X.b f).W (s:Int) (t:Int) x,(X.b f).D,ga (X.b f).R (ah x) ((s:Int),(t:Int))⟩:=by
   unfold Bs.off;rw[aC (by simp[hD];omega),hW]
  rw[hW]at H;have fin:K (.bY []) (mem (Y.je f (ah x) ((s:Int),(t:Int)))):=hK _ (a.trans (aE _)) (by rw[aB,aD rfl,eo,C]) (by rw[aB,aC (by cases f<;>simp),I]) (by rw[(aN _).2.2.1,J])
  have d:wc ab = .aJ:=rfl;rw[d]at H
  by_cases m:(Y.b f).R (ah x)=[]
  .rw[aD m]at el
   have M:=nN ((s:Int),(t:Int)) m;simp[-aK,d,b1,T,U,V,Z,r5,H,w, y, j,Q,S,l6,el,E, z,F,G,c7,M];exact fin
  .rw[aC m,q]at el
   have hm:=(yk a.ok m).2;rw[q]at hm;have O:=tP (l:=(Y.b f).R (ah x));have M:=nO ((s:Int),(t:Int)) m;have xY : ah ((Y.b f).R (ah x)) ≠ 0:=λe=>m (eK e);simp[-aK,d,b1,T,U,V,Z,r5,H,w, y, j,Q,S,l6,el,E, hm,O,z,F,G,c8,M];exact⟨⟨by simp[ba];omega,by rw[hRY];have:=hR (ah x);omega⟩,fin⟩
 |some o=>
  obtain⟨o1,o2⟩:=ho o hW;have u:=zz o x ax ax
  have u:PC oP [.aX ae (o.map .int),.aX ae (x.map .int)]=aa (.int (bD o x)):=u;have d:wc (aa o) = .aX ad (o.map .int):=rfl;rw[hW,d]at H;have P:(X.b f).off (s:Int) (t:Int) x=if bD o x<=0 then X.b f else⟨ia (X.b f).W (s:Int) (t:Int) x,(X.b f).D,if (ah x)<ah o then ga (X.b f).R (ah x) ((s:Int),(t:Int))else(X.b f).R⟩:=by
   unfold Bs.off;rw[aC (by simp[hD];omega),hW]
   dsimp only;rw[if_neg ax]
  by_cases hle:bD o x<=0
  .rw[aD hle]at P
   have n :=bz hle;simp[-aK,d,u,n];exact hK X (.refl h) P.symm rfl rfl
  .rw[aC hle]at P
   have n :=eG hle
   by_cases cw:ah x<ah o
   .rw[aD cw]at P
    have r :=bz (show(ah x:Int)<(ah o:Int)by omega)
    have fin:K (.bY []) (mem (Y.je f (ah x) ((s:Int),(t:Int)))):=hK _ (a.trans (aE _)) (by rw[aB,aD rfl,P,C]) (by rw[aB,aC (by cases f<;>simp),I]) (by rw[(aN _).2.2.1,J])
    by_cases m:(Y.b f).R (ah x)=[]
    .rw[aD m]at el
     have M:=nN ((s:Int),(t:Int)) m;simp[-aK,d,u,n, r, b1,T,U,V,Z,r5,H,w, y, j,Q,S,l6,el,E, z,F,G,c7,M];exact fin
    .rw[aC m,q]at el
     have hm:=(yk a.ok m).2;rw[q]at hm;have O:=tP (l:=(Y.b f).R (ah x));have M:=nO ((s:Int),(t:Int)) m;have xY : ah ((Y.b f).R (ah x)) ≠ 0:=λe=>m (eK e);simp[-aK,d,u,n, r, b1,T,U,V,Z,r5,H,w, y, j,Q,S,l6,el,E, hm,O,z,F,G,c8,M];exact⟨⟨by simp[ba];omega,by rw[hRY];have:=hR (ah x);omega⟩,fin⟩
   .rw[aC cw]at P
    have r :=eG (show ¬(ah x:Int)<(ah o:Int)by omega)
    simp[-aK,d,u,n, r, b1,T,U,V,Z,r5,H,w, y, j,Q,z];exact hK Y a (by rw[P,C]) I J
def zT (h:iw X) (r:s<X.N) (x:t<X.N){v w:AV}{lv lw:ak}(T:Oo (mem X) v lv) (U:CU w lw) (V:ah lv+ah lw<=5000) (Z:∀k,ah ((X.b f).R k)<=1000000) (ho:∀o,(X.b f).W (s:Int) (t:Int)=aa o->ah o<=1024):∃Y,L uR [.ptr (num X.N (.box f)) (ba (aa 3)) 0,.int s,.int t,v,w] (mem X)=aa (.bY [],mem Y)/\Xe X Y/\Y.b f=(X.b f).off (s:Int) (t:Int) (lv++lw)/\Y.b (!f)=X.b (!f)/\Y.A=X.A:=by
 have main:LX L uR [.ptr (num X.N (.box f)) (ba (aa 3)) 0,.int s,.int t,v,w] (mem X) (OfQ X f ((X.b f).off (s:Int) (t:Int) (lv++lw))):=by
  refine ak7 rfl ?_;show WK L (.seq (.cM Jq) (.seq (.cM SN) (.seq (.seq (.cM SO) (.cond 51 .ret .skip)) Nc))) [.ptr (num X.N (.box f)) (ba (aa 3)) 0,.int s,.int t,v,w,.aW,.aW,.aW] ab (mem X) _;rw[Iy];refine ofA T U V ?_;rw[Iz];have b1:=vt (f:=f) h;have y:=M5 (f:=f) h;have z:=M6 (f:=f) h r;have C:=M7 (f:=f) h;have E:=M8 (f:=f) h r;have F:=re (N:=X.N) (g:=.wr f);have G:=re (N:=X.N) (g:=.dr f);have H:=rf (N:=X.N) (g:=.wr f) r;have I:=rf (N:=X.N) (g:=.dr f) r;have J:=xj (s:=s) (N:=X.N) (W:=(X.b f).W);have l:=xk (s:=s) (N:=X.N) (W:=(X.b f).W) x;have K:=CQ (s:=s) (N:=X.N) (D:=(X.b f).D);have m:=F6 (s:=s) (N:=X.N) (D:=(X.b f).D) x;have p:=F7 (s:=s) (N:=X.N) (D:=(X.b f).D) x;have d :=bz r;have i :=bz x
  -- behind the Q
  have rest:¬1024<ah lv+ah lw->(X.b f).D (s:Int) (t:Int)=ae->(∀o,(X.b f).W (s:Int) (t:Int)=aa o->ah lv+ah lw<=ah o)->WK L Nc [.ptr (num X.N (.box f)) (ba (aa 3)) 0,.int s,.int t,v,w,.int ((ah lv+ah lw:Nat):Int),wc ((X.b f).W (s:Int) (t:Int)),.aW] ab (mem X) (iq BF (OfQ X f ((X.b f).off (s:Int) (t:Int) (lv++lw)))):=by
   intro q1 q2 q3;unfold Nc;rw[Iy];refine ofB rfl T U V λB=>?_;rw[Iz,Na h B];have M:ah (lv++lw)=ah lv+ah lw:=bM;rw[<-M];refine ofC (X:=X.add B) (M9 h B) r x ax q2 (λo e=>⟨by rw[M];exact q3 o e,ho o e⟩) Z λY y1 y2 y3 y4=>?_
   exact⟨rfl,Y,rfl,(He h B).trans y1,y2,y3,y4⟩
  by_cases P:1024<ah lv+ah lw
  .have e:(X.b f).off (s:Int) (t:Int) (lv++lw)=X.b f:=by unfold Bs.off;rw[aD (.inl (by rw[bM];exact P))]
   rw[e];have a :=bz (show(1024:Int)<((ah lv+ah lw:Nat):Int)by omega)
   generalize (ah lv)+ah lw=n at *;simp[-aK,b1,y,z,C,E,F,G,H,I,J,l,K,m,p,d, i, a];exact Nd h
  .have a :=eG (show ¬(1024:Int)<((ah lv+ah lw:Nat):Int)by omega)
   have rest:=rest P;cases O:(X.b f).D (s:Int) (t:Int)with
   |true=>
    have e:(X.b f).off (s:Int) (t:Int) (lv++lw)=X.b f:=by unfold Bs.off;rw[aD (.inr O)]
    rw[e];rw[O]at m p;generalize (ah lv)+ah lw=n at *;simp[-aK,b1,y,z,C,E,F,G,H,I,J,l,K,m,p,d, i, a];exact Nd h
   |false=>
    have rest:=rest O;rw[O]at m p;cases u:(X.b f).W (s:Int) (t:Int)with
    |none=>
     have j:wc ab = .aJ:=rfl;have rest:=rest (λo e=>by rw[u]at e;simp at e)
     rw[u,j]at l rest;generalize (ah lv)+ah lw=n at *;simp[-aK,b1,y,z,C,E,F,G,H,I,J,l,K,m,p,d, i, a];exact rest
    |some o=>
     have j:wc (aa o) = .aX ad (o.map .int):=rfl;rw[u,j]at l
     by_cases S:ah o<ah lv+ah lw
     .have e:(X.b f).off (s:Int) (t:Int) (lv++lw)=X.b f:=by
       unfold Bs.off;rw[aC (by simp[O];omega),u]
       dsimp only;rw[if_pos (by rw[List.length_append];exact S)]
      rw[e];have q :=bz (show(ah o:Int)<((ah lv+ah lw:Nat):Int)by omega)
      generalize (ah lv)+ah lw=n at *;simp[-aK,b1,y,z,C,E,F,G,H,I,J,l,K,m,p,d, i, a, q];exact Nd h
     .have rest:=rest (λo' e=>by rw[u]at e;injection e with e;rw[<-e];omega)
      rw[u,j]at rest;have q :=eG (show ¬(ah o:Int)<((ah lv+ah lw:Nat):Int)by omega)
      generalize (ah lv)+ah lw=n at *;simp[-aK,b1,y,z,C,E,F,G,H,I,J,l,K,m,p,d, i, a, q];exact rest
 obtain⟨_,_,P,rfl,Y,rfl,h2,h3,h4,h5⟩:=dt main;exact⟨Y,P,h2,h3,h4,h5⟩
end
def l8 (l:List PR):aO:=⟨aa 2,tN l,if l=[]then .jN else .live⟩
def Xp:∀{l:List PR}{i:Nat},i<ah l->(tN l).drop (i*2) = .int (ix l (i:Int)).1 :: .int (ix l (i:Int)).2::(tN l).drop (i*2+2)
 |p::l,0,_=>rfl
 |p::l,i+1,h=>by
  have:=Xp (l:=l) (i:=i) du
  have e:ix (p::l) ((i+1:Nat):Int)=ix l (i:Int):=by simp[ix]
  rw[e,show(i+1)*2=i*2+1+1 by omega]
  exact this
def Gb{l:List PR}{i:Nat}{K:AV->Prop}{t:Tk K}(h:i<ah l):pT (tN l) (0+i*2) (aa 2) K t=K (.agg [.int (ix l (i:Int)).1,.int (ix l (i:Int)).2]):=by
 have:=Xp h;unfold pT part;rw[gQ];simp only;rw[aD (by rw[tP];omega),this]
 rfl
section
variable{X:XM}{f:Bool}{s t:Nat}
def aps (h:iw X) (B:aO):aQ (mem (X.add B)) (num X.N (.dy (ah X.dyn)))=aa B:=by
 have:=pR (X:=X.add B) h.n.1 (x:=.dy (ah X.dyn)) (by show (ah X.dyn)<ah (X.dyn ++ [DT.jk B]);simp)
 have e:(X.add B).N=X.N:=rfl;rw[e]at this;rw[this];show aa (mh _ (X.dyn ++ [.jk B])[ah X.dyn]?)=_;rw[dW (bG _),pG]
 rfl
theorem Xq (h:iw X) (B B' : aO):aV (mem (X.add B)) (num X.N (.dy (ah X.dyn))) B' = mem (X.add B'):=by
 refine M3 (X:=X.add B) (Y:=X.add B') h.n.1 rfl (by simp[XM.add]) (x:=.dy (ah X.dyn)) (by show (ah X.dyn)<ah (X.dyn ++ [DT.jk B]);simp) _ ?_ λy b=>?_
 .show mh _ (X.dyn ++ [.jk B'])[ah X.dyn]? = _
  rw[dW (bG _),pG]
  rfl
 .cases y with
  |dy i=>
   have d:i ≠ ah X.dyn:=λe=>b fk
   show mh _ (X.dyn ++ [.jk B'])[i]? = mh _ (X.dyn ++ [.jk B])[i]?
   by_cases a:i<ah X.dyn
   .rw[dq a,dq a,dG a]
    cases X.dyn[i]<;>rfl
   .rw[il aT,il aT];rfl
  |_=>rfl
def apt{b a:Bs}{B:aO}:((X.eV f b).add B).eV f a=(X.eV f a).add B:=by cases f<;>rfl
variable{D:Int->Int->Bool}{l:List PR}
theorem apu{p:PR}:qW D (p::l)=if D p.1 p.2=ad then qW D l else((p::(qW (nW D p.1 p.2) l).1),(qW (nW D p.1 p.2) l).2):=rfl
def XM.l9 (X:XM) (f:Bool) (D:Int->Int->Bool) (l:List PR):XM:=(X.eV f ⟨(X.b f).W,D,(X.b f).R⟩).add (l8 l)
def xm (h:iw X) (D:Int->Int->Bool) (l:List PR):iw (X.l9 f D l):=M9 (F8 h _ D) _
def mj:(X.l9 f D l).N=X.N:=lK.1
def rj{g:Bool}:(X.l9 f D l).b g=if g=f then⟨(X.b f).W,D,(X.b f).R⟩else X.b g:=by rw[<-lJ];rfl
def Xr (h:iw X):mem X ++ [⟨aa 2,[],.jN⟩]=mem (X.l9 f (X.b f).D []):=by
 have:X.l9 f (X.b f).D []=X.add (l8 []):=by unfold XM.l9;cases f<;>rfl
 rw[this];exact Na h _
def apv (h:iw X) (D:Int->Int->Bool) (l:List PR):aQ (mem (X.l9 f D l)) (num X.N (.box f))=aa ⟨aa 3,[.sl (num X.N (.wo f)) X.N 0 X.N,.sl (num X.N (.rb f)) X.N 0 X.N,.sl (num X.N (.mO f)) 1025 0 1025],.live⟩:=by
 have:=vt (f:=f) (xm (f:=f) h D l)
 rwa [mj]at this
def Xt (h:iw X) (D:Int->Int->Bool) (l:List PR):aQ (mem (X.l9 f D l)) (num X.N (.rb f))=aa ⟨ab,o5 X.N (.dr f),.live⟩:=by
 have:=M7 (f:=f) (xm (f:=f) h D l)
 rwa [mj]at this
def Xu (h:iw X) (a:s<X.N) (D:Int->Int->Bool) (l:List PR):aQ (mem (X.l9 f D l)) (num X.N (.dr f s))=aa ⟨ab,(j5 X.N D s).map .bool,.live⟩:=by
 have:=M8 (f:=f) (s:=s) (xm (f:=f) h D l) (by rw[mj];exact a)
 rwa [mj,rj,aD rfl]at this
def apw (h:iw X) (D:Int->Int->Bool) (l:List PR):aQ (mem (X.l9 f D l)) (num X.N (.mO f))=aa ⟨ab,oo (X.l9 f D l) f,.live⟩:=by
 have:=CS (f:=f) (xm (f:=f) h D l)
 rwa [mj]at this
def Xv{l:List PR}:ah (X.eV f ⟨(X.b f).W,D,(X.b f).R⟩).dyn=ah X.dyn:=by rw[lK.2.2.2.2.2]
def apx (h:iw X) (D:Int->Int->Bool) (l:List PR):aQ (mem (X.l9 f D l)) (num X.N (.dy (ah X.dyn)))=aa (l8 l):=by
 have:=aps (F8 (f:=f) h (X.b f).W D) (l8 l)
 rwa [lK.1,Xv (l:=l)]at this
def apy (h:iw X){n:Nat}(a:(X.b f).R n ≠ []) (D:Int->Int->Bool) (l:List PR):aQ (mem (X.l9 f D l)) (num X.N (.dy (X.ri f n)))=aa ⟨aa 2,tN ((X.b f).R n),.live⟩:=by
 have e:(X.l9 f D l).ri=X.ri:=lK.2.2.2.1;have:=(yk (f:=f) (k:=n) (xm (f:=f) h D l) (by rw[rj,aD rfl];exact a)).2
 rwa [mj,rj,aD rfl,e]at this
def apz (h:iw X) (a:s<X.N) (b:t<X.N) (D:Int->Int->Bool) (l:List PR):aV (mem (X.l9 f D l)) (num X.N (.dr f s)) ⟨ab,mI ((j5 X.N D s).map .bool) t [.bool ad],.live⟩=mem (X.l9 f (nW D (s:Int) (t:Int)) l):=by
 have:=apn (X:=X.l9 f D l) (f:=f) (s:=s) (t:=t) (xm h D l) (by rw[mj];exact a) (by rw[mj];exact b)
 rw[mj,rj,if_pos rfl]at this;dsimp only at this;rw[rh];rw[List.map_set]at this;rw[this];unfold XM.l9;rw[apt]
def apA (h:iw X) (D:Int->Int->Bool) (l l' : List PR):aV (mem (X.l9 f D l)) (num X.N (.dy (ah X.dyn))) (l8 l')=mem (X.l9 f D l'):=by
 have:=Xq (F8 (f:=f) h (X.b f).W D) (l8 l) (l8 l')
 rwa [lK.1,Xv (l:=l)]at this
def apB (h:iw X){n:Nat}(hn:n<1025) (hR:ah ((X.b f).R n)<=1000000) (x:∀p∈(X.b f).R n,(0<=p.1/\p.1<(X.N:Int))/\(0<=p.2/\p.2<(X.N:Int))):LX L BD [.ptr (num X.N (.box f)) (ba (aa 3)) 0,.int n] (mem X) (λr τ=>r = .sl (num X.N (.dy (ah X.dyn))) (2*ah ((X.b f).tk n).1) 0 (ah ((X.b f).tk n).1)/\τ=mem (X.l9 f ((X.b f).tk n).2.D ((X.b f).tk n).1)):=by
 refine ak8 rfl ?_;have l6:=λ(D:Int->Int->Bool) (l:List PR)=>Xi (X:=X.l9 f D l) (f:=f);have el:=Xj (X:=X.l9 f (X.b f).D []) (f:=f) hn;have y :=bz (show(n:Int)<1025 by omega)
 have j :=bz hn;have a0:=Xr (f:=f) h;have G:=apv (f:=f) h;have a6:=apw (f:=f) h;have z:ah (mem X)=num X.N (.dy (ah X.dyn)):=r7;have M:((X.l9 f (X.b f).D []).b f).R=(X.b f).R:=by rw[rj,aD rfl]
 rw[M,mj,show(X.l9 f (X.b f).D []).ri=X.ri from lK.2.2.2.1]at el
 by_cases H:(X.b f).R n=[]
 .rw[aD H]at el
  have et:(X.b f).tk n=([],X.b f):=by
   unfold Bs.tk;rw[H]
   rfl
  rw[et];dsimp only;simp[-aK,a0,G,a6,l6,el,y, j];refine bB (λ_:Unit=>[]) (λ_=>mem (X.l9 f (X.b f).D [])) (λ_=>True) (λ_=>0) () bS trivial ?_
  rintro⟨⟩ _;simp[-aK,z]
 .rw[aC H]at el
  have hm:=apy (f:=f) h H;have A:=Xt (f:=f) h;have O:=λ(s:Nat) (Q:s<X.N)=>Xu (f:=f) (s:=s) h Q;have B:=λ(s t:Nat) (Q:s<X.N) (ht:t<X.N)=>apz (f:=f) (s:=s) (t:=t) h Q ht;have C:=apA (f:=f) h;have E:=apx (f:=f) h;have r2:=re (N:=X.N) (g:=.dr f);have q:=tP (l:=(X.b f).R n);simp[-aK,a0,G,a6,l6,el,y, j];have e1:(X.b f).tk n=((qW (X.b f).D ((X.b f).R n)).1,⟨(X.b f).W,(qW (X.b f).D ((X.b f).R n)).2,(X.b f).R⟩):=rfl;rw[e1];dsimp only;generalize hl:(X.b f).R n=l at *;generalize (X.b f).D=D0 at *;refine bB (λp:Nat×(Int->Int->Bool)×List PR=>[(2,.int p.1),(6,.sl (num X.N (.dy (ah X.dyn))) (2*ah p.2.2) 0 (ah p.2.2))]) (λp=>mem (X.l9 f p.2.1 p.2.2)) (λp=>p.1<=ah l/\ah p.2.2<=p.1/\qW D0 l=(p.2.2++(qW p.2.1 (l.drop p.1)).1,(qW p.2.1 (l.drop p.1)).2)) (λp=>ah l-p.1) (0,D0,[]) (by simp[fj,z]) aA ?_
  rintro⟨i,D,out⟩ ⟨i1,i2,a⟩;dsimp only at i1 i2 a ⊢
  by_cases F:i<ah l
  .have hp:=x _ (bh (l:=l) (n:=(i:Int)) ax ax)
   have S:=λ(K:AV->Prop) (t:Tk K)=>Gb (l:=l) (i:=i) (K:=K) (t:=t) F;have w:l.drop i=ix l (i:Int)::l.drop (i+1):=by rw[bt F];exact rH F
   rw[w]at a;generalize hP:ix l (i:Int)=P at *;obtain⟨⟨s0,s1⟩,t0,t1⟩:=hp;obtain⟨u,T⟩:=fU s0;obtain⟨v,U⟩:=fU t0;have d:u<X.N:=ax
   have e:v<X.N:=ax
   have m :=bz d;have o :=bz e;have g1:=O u d;have g2:=rf (N:=X.N) (g:=.dr f) d;have g3:=CQ (s:=u) (N:=X.N) (D:=D);have I:=F6 (s:=u) (N:=X.N) (D:=D) e;have J:=F7 (s:=u) (N:=X.N) (D:=D) e;have V:=bz (show v+1<=X.N by omega)
   have g6:=B u v d e D out;rw[rh]at g6;have g7:∀D,aQ (mem (X.l9 f D out)) (num X.N (.dy (ah X.dyn)))=aa ⟨aa 2,tN out,if out=[]then .jN else .live⟩:=λD=>E D out
   have Y:P=((u:Int),(v:Int)):=Prod.ext T U;have g8:∀D,aV (mem (X.l9 f D out)) (num X.N (.dy (ah X.dyn))) ⟨aa 2,tN out ++ [.int u,.int v],.live⟩=mem (X.l9 f D (out ++ [P])):=λD=>by
    rw[<-C D out (out ++ [P]),l8,aC aA,Xk,Y]
   have Z:=tP (l:=out);have vF:=bz (show 2*ah out=ah out*ba (aa 2)by simp[ba];omega)
   rw[apu,T,U]at a;rw[T,U]at S;have ke :=bz (show 0+i*2+2<=ah (tN l) by rw[q];omega)
   cases hD:D (u:Int) (v:Int)with
   |true=>
    rw[hD]at I J a;rw[if_pos rfl]at a;simp[-aK,F,hm,q,↓S,G,A,r2,g1,g2,g3,I,J,m, o];exact⟨ax,a8 (i+1,D,out) aA rfl ⟨aR,aR,a⟩ aR⟩
   |false=>
    rw[hD]at I J a;rw[aC aA]at a
    simp[-aK,F,hm,q,↓S,G,A,r2,g1,g2,g3,I,J,m, o, V,g6,g7,g8,Z,vF];exact⟨by split<;>simp,ax,ax,a8 (i+1,nW D (u:Int) (v:Int),out ++ [P]) (by simp[Nat.mul_add]) rfl ⟨aR,aT,by dsimp only;rw[a];simp⟩ aR⟩
  .have ei:i=ah l:=by omega
   subst ei;rw[List.drop_length]at a;rw[a];simp[-aK,qW]
end
def Xw:∀{l:List CR}{i:Nat},i<ah l->(Aq l).drop (i*3) = .int (ix l (i:Int)).1 :: .int (ix l (i:Int)).2.1 :: .int (ix l (i:Int)).2.2::(Aq l).drop (i*3+3)
 |p::l,0,_=>rfl
 |p::l,i+1,h=>by
  have:=Xw (l:=l) (i:=i) du
  have e:ix (p::l) ((i+1:Nat):Int)=ix l (i:Int):=by simp[ix]
  rw[e,show(i+1)*3=i*3+1+1+1 by omega]
  exact this
def Gc:∀{l:List CR},ah (Aq l)=3*ah l
 | []=>rfl
 |p::l=>by
  have:=Gc (l:=l);simp only[Aq,jD,bM,cT,eX]at this ⊢;omega
variable{i:Nat}
def apC{l:List CR}{K:AV->Prop}{t:Tk K}(h:i<ah l):pT (Aq l) (0+i*3) (aa 3) K t=K (.agg [.int (ix l (i:Int)).1,.int (ix l (i:Int)).2.1,.int (ix l (i:Int)).2.2]):=by
 have:=Xw h;unfold pT part;rw[gQ];simp only;rw[aD (by rw[Gc];omega),this]
 rfl
structure Zf (Z:XM) (N:Nat) (bx:ao):Prop where
 box:∀f,aQ (mem Z) (num N (.box f))=aa ⟨aa 3,[.sl (num N (.wo f)) N 0 N,.sl (num N (.rb f)) N 0 N,.sl (num N (.mO f)) 1025 0 1025],.live⟩
 wo:∀f,aQ (mem Z) (num N (.wo f))=aa ⟨ab,o5 N (.wr f),.live⟩
 wr:∀f s,s<N->aQ (mem Z) (num N (.wr f s))=aa ⟨ab,iE N (Z.b f).W s,.live⟩
 rb:∀f,aQ (mem Z) (num N (.rb f))=aa ⟨ab,o5 N (.dr f),.live⟩
 dr:∀f s,s<N->aQ (mem Z) (num N (.dr f s))=aa ⟨ab,(j5 N (Z.b f).D s).map .bool,.live⟩
 co:aQ (mem Z) (num N .co)=aa ⟨ab,sC Z,.live⟩
 bx:aQ (mem Z) (num N .bx)=aa ⟨aa 14,bx ++ [.ptr (num N (.box ad)) (ba (aa 3)) 0,.ptr (num N (.box ae)) (ba (aa 3)) 0,.sl (num N .co) N 0 N],.live⟩
variable{Z:XM}
def kE{N:Nat}{bx:ao}(h:iw Z) (b:Z.N=N) (d:Z.bx=bx):Zf Z N bx:=by
 subst b;subst d;exact⟨λf=>vt h,λf=>M5 h,λf s a=>M6 h a,λf=>M7 h,λf s a=>M8 h a,pR h.n.1 (x:=.co) trivial,pR h.n.1 (x:=.bx) trivial⟩
def Gd{N:Nat}{d:DT}(h:iw Z) (a:Z.N=N) (hd:Z.dyn[i]? = aa d):aQ (mem Z) (num N (.dy i))=aa (mh Z (aa d)):=by
 subst a;rw[pR h.n.1 (x:=.dy i) (dp.1 hd).1];show aa (mh Z Z.dyn[i]?)=_;rw[hd]
def yo{X Y:XM}{d:DT}(h:Xe X Y) (hd:X.dyn[i]? = aa d):Y.dyn[i]? = aa d:=by
 obtain⟨e,a⟩:=h.d;rw[a,dq (dp.1 hd).1,hd]
def Xx{X:XM}{f:Bool}(h:iw X) (D:Int->Int->Bool) (l:List PR):Xe X (X.l9 f D l)/\(X.l9 f D l).dyn[ah X.dyn]? = aa (.jk (l8 l))/\(X.l9 f D l).A=X.A:=by
 have e:=(lK (X:=X) (f:=f) (b:=⟨(X.b f).W,D,(X.b f).R⟩));refine⟨⟨xm h D l,e.1,e.2.1,[.jk (l8 l)],?_⟩,?_,e.2.2.1⟩
 .show _++_=_
  rw[e.2.2.2.2.2]
 .show((X.eV f ⟨(X.b f).W,D,(X.b f).R⟩).dyn ++ [DT.jk (l8 l)])[ah X.dyn]? = _
  rw[e.2.2.2.2.2,dW (bG _),pG]
  rfl
def Xy{X:XM}:ah (sC X)=X.N:=by simp[sC]
def Xz{X:XM}{t:Nat}(h:t<X.N):lU (sC X) t=aa (if X.A (t:Int)=[]then .aJ else .sl (num X.N (.dy (X.ai t))) (3*ah (X.A (t:Int))) 0 (ah (X.A (t:Int)))):=by rw[qJ];simp[sC,h]
def pS (a:Nat) (v:AV) (n:aS):ao:=[.iface a v,.int n.ay,.int n.aG,.int n.aM,.int n.aL,.int n.aF,bL n.az,bU n.call,bU n.push,bU n.aH,dw n.aP]
section
variable{M:eZ}{n:Nat}
def apD (hM:M.Sm) (T:M.size<=1000){d:XM}(hX:iw d) (hNM:d.N=M.size){bx:ao}(U:d.bx=bx) (yV:∃b0 b1 b2 b3 b4 b5 b6 b7 b8 b9 b10,bx=[b0,b1,b2,b3,b4,b5,b6,b7,b8,b9,b10]){D1:Nat}{out:List PR}(apE:ah out<=1000000) (hd:d.dyn[D1]? = aa (.jk (l8 out))){O:Bs}(I:jA M (Wd M) n O) (hXC:d.C=O) (Z0:jA M (mL M) (n+1) d.S)
  (ho:∀s t,(s,t)∈out->(cy M s/\cy M t)/\∃a,M.sk s t=aa a/\ah a=n/\d.S.W s t=aa a) (nv:AV) {Q:Ex->St->Prop}
  (hQ:∀Z,Xe d Z->Z.S=d.S->Z.A=d.A->tL M n d.S O Z.C out (ah out) 0->∀i,Q .fe ⟨[.ptr (num d.N .bx) (ba (aa 14)) 0,nv,.int i,.int (ah out),.sl (num d.N (.dy D1)) (2*ah out) 0 (ah out),.aW,.aW,.aW,.aW,.aW,.aW,.aW,.aW,.aW,.aW,.aW,.aW,.aW,.aW,.aW,.aW,.aW,.aW,.aW,.aW,.aW,.aW,.aW],ab,mem Z⟩) :
  W L (.loop SK) ⟨[.ptr (num d.N .bx) (ba (aa 14)) 0,nv,.int 0,.int (ah out),.sl (num d.N (.dy D1)) (2*ah out) 0 (ah out),.aW,.aW,.aW,.aW,.aW,.aW,.aW,.aW,.aW,.aW,.aW,.aW,.aW,.aW,.aW,.aW,.aW,.aW,.aW,.aW,.aW,.aW,.aW],ab,mem d⟩ (Out 0 Q):=by
 obtain⟨b0,b1,b2,b3,b4,b5,b6,b7,b8,b9,b10,zU⟩:=yV;have VH:=tP (l:=out);refine bB (λp:Nat×XM=>[(2,.int p.1)]) (λp=>mem p.2) (λp=>p.1<=ah out/\Xe d p.2/\p.2.S=d.S/\p.2.A=d.A/\tL M n d.S O p.2.C out p.1 0) (λp=>ah out-p.1) (0,d) bS ⟨aA,.refl hX,rfl,rfl,by rw[hXC];exact .init I⟩ ?_
 rintro⟨i,Z⟩ ⟨i1,x,z2,z3,z4⟩;dsimp only at i1 x z2 z3 z4 ⊢
 by_cases hi:i<ah out
 .have zf:=kE x.ok (x.n) (x.bx.trans U)
  have y:=Gd x.ok x.n (yo x hd);have y:aQ (mem Z) (num d.N (.dy D1))=aa ⟨aa 2,tN out,if out=[]then .jN else .live⟩:=y
  have ng:out ≠ []:=by intro e;rw[e]at hi;simp at hi
  rw[aC ng]at y;have p2:=λ(K:AV->Prop) (t:Tk K)=>Gb (l:=out) (i:=i) (K:=K) (t:=t) hi;have lD:=bh (l:=out) (n:=(i:Int)) ax ax
  obtain⟨⟨⟨s0,s1⟩,t0,t1⟩,a,ha,lB,Nf⟩:=ho (ix out (i:Int)).1 (ix out (i:Int)).2 lD;have B:=(FI hM).1 ha;generalize E:ix out (i:Int)=P at *;obtain⟨u,hu⟩:=fU s0;obtain⟨v,hv⟩:=fU t0;have z:u<d.N:=ax
  have h:v<d.N:=ax
  have apF :=eq_true z;have F :=eq_true h;have CV:=zf.bx;rw[zU]at CV;have q1:=zf.box ae;have q2:=zf.rb ae;have q3:=re (N:=d.N) (g:=.dr ae);have q4:=rf (N:=d.N) (g:=.dr ae) h;have q5:=zf.dr ae v h;have XA:P=((u:Int),(v:Int)):=Prod.ext hu hv;subst XA;dsimp only at p2;simp[-aK,hi,y,VH,↓p2,CV,q1,q2,q3,q4,q5,F];refine bB (λp:Nat×XM=>[(6,.int p.1)]) (λp=>mem p.2) (λp=>p.1<=d.N/\Xe d p.2/\p.2.S=d.S/\p.2.A=d.A/\tL M n d.S O p.2.C out i (p.1:Int)) (λp=>d.N-p.1) (0,Z) bS ⟨aA,x,z2,z3,z4⟩ ?_
  rintro⟨j,Y⟩ ⟨j1,q,y2,y3,G⟩;dsimp only at j1 q y2 y3 G ⊢
  by_cases J:j<d.N
  .have yf:=kE q.ok (q.n) (q.bx.trans U)
   have Hf:=yf.bx;rw[zU]at Hf;have vR :=bz J;have g1:aQ (mem Y) (num d.N (.dr ae v))=aa ⟨ab,(j5 d.N Y.C.D v).map .bool,.live⟩:=yf.dr ae v h;have g2:=CQ (s:=v) (N:=d.N) (D:=Y.C.D);have g3:=F6 (s:=v) (N:=d.N) (D:=Y.C.D) J;have g4:=F7 (s:=v) (N:=d.N) (D:=Y.C.D) J;have m:cy M (j:Int):=⟨ax,ax⟩
   have r:cy M (v:Int):=⟨ax,ax⟩
   have H:cy M (u:Int):=⟨ax,ax⟩
   obtain⟨k1,k2⟩:=I.r4 G.c r m;cases hD:Y.C.D (v:Int) (j:Int)with
   |false=>
    rw[hD]at g3 g4 k1;simp[-aK,J,g1,g2,g3,g4];exact⟨ax,a8 (j+1,Y) aA rfl ⟨aR,q,y2,y3,by have:=G.skip (by rw[E];exact k1);exact this⟩ aR⟩
   |true=>
    rw[hD]at g3 g4 k1;obtain⟨c,hc,Dd,sN⟩:=I.vl r m k1;have hcY:Y.C.W (v:Int) (j:Int)=aa c:=by rw[<-k2 k1];exact hc
    have vE:=(rX hM).1 Dd;have haY:Y.S.W (u:Int) (v:Int)=aa a:=by rw[y2];exact Nf
    have w1:aQ (mem Y) (num d.N (.wr ad u))=aa ⟨ab,iE d.N Y.S.W u,.live⟩:=yf.wr ad u z;have w2:aQ (mem Y) (num d.N (.wr ae v))=aa ⟨ab,iE d.N Y.C.W v,.live⟩:=yf.wr ae v h;have w3:=xj (s:=u) (N:=d.N) (W:=Y.S.W);have w4:=xk (s:=u) (N:=d.N) (W:=Y.S.W) h;have w5:=xj (s:=v) (N:=d.N) (W:=Y.C.W);have w6:=xk (s:=v) (N:=d.N) (W:=Y.C.W) J;rw[haY]at w4;rw[hcY]at w6;have w4:lU (iE d.N Y.S.W u) v=aa (.aX ad (a.map .int)):=w4;have w6:lU (iE d.N Y.C.W v) j=aa (.aX ad (c.map .int)):=w6;have w7:=yf.box ad;have w8:=yf.wo ad;have w9:=yf.wo ae;have w10:=re (N:=d.N) (g:=.wr ad);have w11:=rf (N:=d.N) (g:=.wr ad) z;have w12:=re (N:=d.N) (g:=.wr ae);have w13:=rf (N:=d.N) (g:=.wr ae) h;have w14:=yf.box ae;obtain⟨V,hO,v1,v2,v3,v4⟩:=zT (X:=Y) (f:=ae) (s:=u) (t:=j) q.ok (by rw[q.n];exact z) (by rw[q.n];exact J) (v:=.aX ad (a.map .int)) (w:=.aX ad (c.map .int)) (.aX ad a) (.aX ad c) (by have:=B.1.2;have:=vE.1.2;omega) (λk=>by have h1:=G.c.zM k;have h2:M.size*M.size<=1000*1000:=kH T T;show(ah (Y.C.R k))<=_;omega) (λo e=>(G.c.snd _ _ _ H m e).2)
    rw[q.n]at hO;simp[-aK,J,g1,g2,g3,g4,Hf,w1,w2,w3,w4,w5,w6,w7,w8,w9,w10,w11,w12,w13,w14,apF, F, vR, hO];refine⟨ax,a8 (j+1,V) aA rfl ⟨aR,q.trans v1,v3.trans y2,v4.trans y3,?_⟩ aR⟩
    have fT:=G.step hM (a:=a) (b:=c) hi (by rw[E];exact H) (by rw[E];exact r) m (by rw[E];exact Nf) (by rw[E];exact B.1.1) ax (by rw[E];exact hc) (by rw[E];exact vE.1.1)
    rw[E]at fT;have v2:V.C=Y.C.off (u:Int) (j:Int) (a++c):=v2;show tL M n d.S O V.C out i ((j+1:Nat):Int);rw[v2];exact fT
  .have ej:j=d.N:=by omega
   subst ej;simp[-aK];exact⟨ax,a8 (i+1,Y) aA rfl ⟨aR,q,y2,y3,by rw[hNM]at G;exact G.row⟩ aR⟩
 .have ei:i=ah out:=by omega
  subst ei;simp[-aK];exact hQ Z x z2 z3 z4 _
end
section
variable{M:eZ}{n:Nat}
def apG (hM:M.Sm) (sf:M.size<=1000){tt:Nat}{mv:AV}(Ae:GU tt mv M){nn:aS}(hc:nn.ay=M.ay) (ke : nn.aG=M.aG) (xY : nn.aM=M.aM){d:XM}(hX:iw d) (hNM:d.N=M.size) (Dt:d.bx=pS tt mv nn){D1:Nat}{out:List PR}(apE:ah out<=1000000) (hd:d.dyn[D1]? = aa (.jk (l8 out))){A:Int->List CR}(hA:d.A=A) (XB:MO M A) (hAl:∀p,ah (A p)<=1000000) (Z0:jA M (mL M) (n+1) d.S) (WJ:jA M (Wd M) (n+1) d.C)
  (ho:∀s t,(s,t)∈out->(cy M s/\cy M t)/\∃a,M.lk s t=aa a/\ah a=n/\d.C.W s t=aa a) {Q:Ex->St->Prop}
  (hQ:∀Z,Xe d Z->Z.A=d.A->mV M n A d.S d.C Z.S Z.C out (ah out) 0 0 0->∀i,Q .fe ⟨[.ptr (num d.N .bx) (ba (aa 14)) 0,.aW,.aW,.aW,.aW,.aW,.aW,.aW,.aW,.aW,.aW,.sl (num d.N (.dy D1)) (2*ah out) 0 (ah out),.int i,.int (ah out),.sl (num d.N (.dy D1)) (2*ah out) 0 (ah out),.aW,.aW,.aW,.aW,.aW,.aW,.aW,.aW,.aW,.aW,.aW,.aW,.aW],ab,mem Z⟩) :
  W L (.loop SM) ⟨[.ptr (num d.N .bx) (ba (aa 14)) 0,.aW,.aW,.aW,.aW,.aW,.aW,.aW,.aW,.aW,.aW,.sl (num d.N (.dy D1)) (2*ah out) 0 (ah out),.int 0,.int (ah out),.sl (num d.N (.dy D1)) (2*ah out) 0 (ah out),.aW,.aW,.aW,.aW,.aW,.aW,.aW,.aW,.aW,.aW,.aW,.aW,.aW],ab,mem d⟩ (Out 4 Q):=by
 have VH:=tP (l:=out);obtain⟨fs,Z1,apH⟩:=Ae.size;obtain⟨fp,hfp,apI⟩:=Ae.aP;have zU:pS tt mv nn=[.iface tt mv,.int nn.ay,.int nn.aG,.int nn.aM,.int nn.aL,.int nn.aF,bL nn.az,bU nn.call,bU nn.push,bU nn.aH,dw nn.aP]:=rfl;have T:=Ae.loc;have Ng:=Ae.wk;refine bB (λp:Nat×XM=>[(12,.int p.1)]) (λp=>mem p.2) (λp=>p.1<=ah out/\Xe d p.2/\p.2.A=d.A/\mV M n A d.S d.C p.2.S p.2.C out p.1 0 0 0) (λp=>ah out-p.1) (0,d) bS ⟨aA,.refl hX,rfl,.init Z0 WJ⟩ ?_
 rintro⟨i,Z⟩ ⟨i1,z1,z3,z4⟩;dsimp only at i1 z1 z3 z4 ⊢
 by_cases hi:i<ah out
 .have zf:=kE z1.ok (z1.n) (z1.bx.trans Dt)
  have Z2:=Gd z1.ok z1.n (yo z1 hd);have Z2:aQ (mem Z) (num d.N (.dy D1))=aa ⟨aa 2,tN out,if out=[]then .jN else .live⟩:=Z2
  have ng:out ≠ []:=by intro e;rw[e]at hi;simp at hi
  rw[aC ng]at Z2;have p2:=λ(K:AV->Prop) (t:Tk K)=>Gb (l:=out) (i:=i) (K:=K) (t:=t) hi;have lD:=bh (l:=out) (n:=(i:Int)) ax ax
  obtain⟨⟨⟨s0,s1⟩,t0,t1⟩,a,ha,lB,Nf⟩:=ho (ix out (i:Int)).1 (ix out (i:Int)).2 lD;have y:=(rX hM).1 ha;generalize E:ix out (i:Int)=P at *;obtain⟨u,hu⟩:=fU s0;obtain⟨v,hv⟩:=fU t0;have F:u<d.N:=ax
  have Oq:v<d.N:=ax
  have z :=eq_true F;have apJ :=eq_true Oq;have CV:=zf.bx;rw[zU]at CV;have XA:P=((u:Int),(v:Int)):=Prod.ext hu hv;subst XA;dsimp only at p2 ha Nf y;have h:cy M (v:Int):=⟨ax,ax⟩
  have x:cy M (u:Int):=⟨ax,ax⟩
  have haZ:Z.C.W (u:Int) (v:Int)=aa a:=by
   obtain⟨d1,d2⟩:=WJ.r4 z4.c x h;have:=(WJ.fin x h ha ax).1
   rw[<-d2 this];exact Nf
  have w2:aQ (mem Z) (num d.N (.wr ae u))=aa ⟨ab,iE d.N Z.C.W u,.live⟩:=zf.wr ae u F;have w5:=xj (s:=u) (N:=d.N) (W:=Z.C.W);have w6:=xk (s:=u) (N:=d.N) (W:=Z.C.W) Oq;rw[haZ]at w6;have w6:lU (iE d.N Z.C.W u) v=aa (.aX ad (a.map .int)):=w6;have w9:=zf.wo ae;have w12:=re (N:=d.N) (g:=.wr ae);have w13:=rf (N:=d.N) (g:=.wr ae) F;have w14:=zf.box ae;simp[-aK,hi,Z2,VH,↓p2,CV,w2,w5,w6,w9,w12,w13,w14,z, apJ, Z1,apH, T,Ng];refine bB (λp:Nat×XM=>[(16,.int p.1)]) (λp=>mem p.2) (λp=>p.1<=d.N/\Xe d p.2/\p.2.A=d.A/\mV M n A d.S d.C p.2.S p.2.C out i (p.1:Int) 0 0) (λp=>d.N-p.1) (0,Z) bS ⟨aA,z1,z3,z4⟩ ?_
  rintro⟨j,Y⟩ ⟨j1,m,y3,y4⟩;dsimp only at j1 m y3 y4 ⊢;have yf:=kE m.ok (m.n) (m.bx.trans Dt);have Hf:=yf.bx;rw[zU]at Hf
  by_cases hj:j<d.N
  .have vR :=bz hj
   have XC:=bz (show j<M.size by omega)
   have g0:=yf.rb ad;have g00:=yf.box ad;have g1:aQ (mem Y) (num d.N (.dr ad j))=aa ⟨ab,(j5 d.N Y.S.D j).map .bool,.live⟩:=yf.dr ad j hj;have g2:=CQ (s:=j) (N:=d.N) (D:=Y.S.D);have g3:=F6 (s:=j) (N:=d.N) (D:=Y.S.D) F;have g4:=F7 (s:=j) (N:=d.N) (D:=Y.S.D) F;have g5:=re (N:=d.N) (g:=.dr ad);have g6:=rf (N:=d.N) (g:=.dr ad) hj;have J:cy M (j:Int):=⟨ax,ax⟩
   obtain⟨k1,k2⟩:=Z0.r4 y4.s J x;cases hD:Y.S.D (j:Int) (u:Int)with
   |false=>
    rw[hD]at g3 g4 k1;simp[-aK,hj,XC,g0,g00,g1,g2,g3,g4,g5,g6,Hf,z, vR];exact⟨ax,a8 (j+1,Y) aA rfl ⟨aR,m,y3,by have:=y4.WG (by rw[E];exact k1);exact this⟩ aR⟩
   |true=>
    rw[hD]at g3 g4 k1;obtain⟨c,DY,Dd,sN⟩:=Z0.vl J x k1;have hcY:Y.S.W (j:Int) (u:Int)=aa c:=by rw[<-k2 k1];exact DY
    have G:=(FI hM).1 Dd;have v1' : aQ (mem Y) (num d.N (.wr ad j))=aa ⟨ab,iE d.N Y.S.W j,.live⟩:=yf.wr ad j hj;have v3' :=xj (s:=j) (N:=d.N) (W:=Y.S.W);have Z3 :=xk (s:=j) (N:=d.N) (W:=Y.S.W) F;rw[hcY]at Z3;have Z3 : lU (iE d.N Y.S.W j) u=aa (.aX ad (c.map .int)):=Z3;have v8:=yf.wo ad;have v10:=re (N:=d.N) (g:=.wr ad);have v11:=rf (N:=d.N) (g:=.wr ad) hj;obtain⟨V,hO,v1,v2,v3,v4⟩:=zT (X:=Y) (f:=ae) (s:=j) (t:=v) m.ok (by rw[m.n];exact hj) (by rw[m.n];exact Oq) (v:=.aX ad (c.map .int)) (w:=.aX ad (a.map .int)) (.aX ad c) (.aX ad a) (by have:=y.1.2;have:=G.1.2;omega) (λk=>by have h1:=y4.c.zM k;have h2:M.size*M.size<=1000*1000:=kH sf sf;show(ah (Y.C.R k))<=_;omega) (λo e=>(y4.c.snd _ _ _ J h e).2)
    rw[m.n]at hO;simp[-aK,hj,XC,g0,g00,g1,g2,g3,g4,g5,g6,Hf,z, vR, v1', v3', Z3, v8,v10,v11,hO];refine⟨ax,a8 (j+1,V) aA rfl ⟨aR,m.trans v1,v4.trans y3,?_⟩ aR⟩
    have H:=y4.WH hM (a:=c) (b:=a) hi (by rw[E];exact x) (by rw[E];exact h) J (by rw[E];exact DY) (by rw[E];exact G.1.1) (by rw[E];exact Nf) (by rw[E];exact y.1.1) ax
    rw[E]at H;have v2:V.C=Y.C.off (j:Int) (v:Int) (c++a):=v2;have v3:V.S=Y.S:=v3;show mV M n A d.S d.C V.S V.C out i ((j+1:Nat):Int) 0 0;rw[v2,v3];exact H
  .have ej:j=d.N:=by omega
   have XC:=eG (show ¬j<M.size by omega)
   subst ej;rw[hNM]at y4;have c0:=yf.co;have c1:ah (sC Y)=d.N:=by rw[Xy,m.n]
   have c2:=Xz (X:=Y) (t:=u) (by rw[m.n];exact F)
   rw[y3,hA]at c2;have finish:∀(W:XM),Xe d W->W.A=d.A->mV M n A d.S d.C W.S W.C out i (M.size:Int) (ah (A (u:Int))) 0->Xe d W/\W.A=d.A/\mV M n A d.S d.C W.S W.C out (i+1) 0 0 0:=λW q1 q2 q3=>⟨q1,q2,by have:=(show mV M n A d.S d.C W.S W.C out i (M.size:Int) (ah (A (ix out (i:Int)).1)) 0 by rw[E];exact q3).next;exact this⟩
   by_cases Z4:A (u:Int)=[]
   .rw[aD Z4]at c2
    simp[-aK,XC,Hf,c0,c1,c2,z];refine bB (λ_:Unit=>[]) (λ_=>mem Y) (λ_=>True) (λ_=>0) () bS trivial ?_
    rintro⟨⟩ _;have fn:=finish Y m y3 (by rw[Z4];exact y4)
    simp[-aK];exact⟨ax,a8 (i+1,Y) aA rfl ⟨aR,fn⟩ aR⟩
   .rw[aC Z4,m.n]at c2
    simp[-aK,XC,Hf,c0,c1,c2,z];have hAr:Y.dyn[Y.ai u]? = aa (.ra u):=m.ok.a1 u (by rw[y3,hA];exact Z4)
    refine bB (λp:Nat×XM=>[(20,.int p.1)]) (λp=>mem p.2) (λp=>p.1<=ah (A (u:Int))/\Xe Y p.2/\p.2.A=d.A/\mV M n A d.S d.C p.2.S p.2.C out i (M.size:Int) p.1 0) (λp=>ah (A (u:Int))-p.1) (0,Y) bS ⟨aA,.refl m.ok,y3,y4⟩ ?_
    rintro⟨k,V⟩ ⟨k1,v1,v3,v4⟩;dsimp only at k1 v1 v3 v4 ⊢
    by_cases hk:k<ah (A (u:Int))
    .have Z5:=Gd v1.ok (v1.n.trans m.n) (yo v1 hAr)
     have Z5:aQ (mem V) (num d.N (.dy (Y.ai u)))=aa ⟨aa 3,Aq (V.A (u:Int)),.live⟩:=Z5;rw[v3,hA]at Z5;have cl:=Gc (l:=A (u:Int));have p3:=λ(K:AV->Prop) (t:Tk K)=>apC (l:=A (u:Int)) (i:=k) (K:=K) (t:=t) hk;have hAm:=hAl (u:Int);have vf:=kE v1.ok (v1.n.trans m.n) ((v1.bx.trans m.bx).trans Dt);have XD:=vf.bx;rw[zU]at XD;have hk' :=bz hk;have hm:=bh (l:=A (u:Int)) (n:=(k:Int)) ax ax
     generalize hc:ix (A (u:Int)) (k:Int)=c at *;simp[-aK,hk,Z5,cl,hAm,↓p3,XD];subst hc;have hcp:A (u:Int)=A (u:Int):=rfl;obtain⟨⟨⟨q0,q1⟩,q2,q3⟩,q4⟩:=(XB (u:Int) x (ix (A (u:Int)) (k:Int)).1 (ix (A (u:Int)) (k:Int)).2.1 (ix (A (u:Int)) (k:Int)).2.2).1 hm;have hgp:∀r:Int,0<=r->r<M.aM->PC fp [mv,.int v,.int (ix (A (u:Int)) (k:Int)).2.2,.int r]=aa (.int (M.aP v (ix (A (u:Int)) (k:Int)).2.2 r)):=λr r0 r1=>by
      have:=apI (ix (A (u:Int)) (k:Int)).1 (ix (A (u:Int)) (k:Int)).2.1 (v:Int) r q0 q1 q2 q3 h.1 h.2 r0 r1;rw[q4]at this;exact this
     have hqs:=λ(r:Int) (r0:0<=r) (r1:r<M.aM)=>hM.ok.aP _ _ (v:Int) r q0 q1 q2 q3 h.1 h.2 r0 r1;rw[q4]at hqs;generalize pD:ix (A (u:Int)) (k:Int)=c at *;obtain⟨cs,G⟩:=fU q0;have XE:0<=M.aM:=by have:=hM.ok.aM;omega
     obtain⟨nr,hnr⟩:=fU XE;refine bB (λp:Nat×XM=>[(23,.int p.1)]) (λp=>mem p.2) (λp=>p.1<=nr/\Xe Y p.2/\p.2.A=d.A/\mV M n A d.S d.C p.2.S p.2.C out i (M.size:Int) k (p.1:Int)) (λp=>nr-p.1) (0,V) bS ⟨aA,v1,v3,v4⟩ ?_
     rintro⟨r,U⟩ ⟨r1,O,u3,u4⟩;dsimp only at r1 O u3 u4 ⊢
     by_cases hr:r<nr
     .have uf:=kE O.ok (O.n.trans m.n) ((O.bx.trans m.bx).trans Dt)
      have Hg:=uf.bx;rw[zU,hc,ke]at Hg;have qT:=bz (show(r:Int)<nn.aM by omega)
      have UW:=hgp (r:Int) ax ax
      obtain⟨qs0,qs1⟩:=hqs (r:Int) ax ax
      generalize hqq:M.aP (v:Int) c.2.2 (r:Int)=q at *;obtain⟨qn,rfl⟩:=fU qs0;have XF:cs<U.N:=by have:=O.n;have:=m.n;omega
      have hqn:qn<U.N:=by have:=O.n;have:=m.n;omega
      have hUN:=O.n.trans m.n;have XG:=hM.ok.ay;have jl:=hM.ok.aG;have Vx:=hM.ok.aM;have ZC:∀k,ah ((U.b ad).R k)<=1000000:=λk=>by have h1:=u4.s.zM k;have h2:M.size*M.size<=1000*1000:=kH sf sf;show(ah (U.S.R k))<=_;omega
      have XH:∀o,(U.b ad).W (cs:Int) (qn:Int)=aa o->ah o<=1024:=λo e=>(u4.s.snd _ _ _ (by rw[<-G];exact⟨q0,q1⟩) ⟨ax,qs1⟩ e).2
      have last:∀I:XM,Xe U I->I.S=U.S.off (cs:Int) (qn:Int) (c.2.1::(a ++ [M.ay+M.aG+(r:Int)]))->I.C=U.C->I.A=U.A->Xe Y I/\I.A=d.A/\mV M n A d.S d.C I.S I.C out i (M.size:Int) k ((r+1:Nat):Int):=by
       intro I w1 w2 w3 w4;refine⟨O.trans w1,w4.trans u3,?_⟩;have H:=u4.WI hM XB hi (by rw[E];exact x) (by rw[E];exact h) (by rw[E];exact hk) ⟨ax,ax⟩ (b:=a) (by rw[E];exact Nf) (by rw[E];exact y.1.1) ax
       rw[E]at H;dsimp only at H;rw[pD,hqq,G]at H;rw[w2,w3];exact H
      by_cases G9:a=[]
      .subst G9
       obtain⟨I,hO,w1,w2,w3,w4⟩:=zT (X:=U) (f:=ad) (s:=cs) (t:=qn) O.ok XF hqn (v:=.aX ad [.int c.2.1]) (w:=.aX ae [.int (M.ay+M.aG+(r:Int))]) (.aX ad [c.2.1]) (.aX ae [M.ay+M.aG+(r:Int)]) aA ZC XH
       rw[hUN,<-G]at hO;simp[-aK,qT,Hg,hfp,UW,T,Ng,hO];exact⟨⟨ax,ax⟩,⟨ax,ax⟩,ax,a8 (r+1,I) aA rfl ⟨aR,last I w1 w2 w3 w4⟩ aR⟩
      .have hB:=Na O.ok ⟨ab,(c.2.1::a).map .int,.live⟩
       have hU2:=He O.ok ⟨ab,(c.2.1::a).map .int,.live⟩;have Dp:=tO (σ:=mem U) (B:=⟨ab,(c.2.1::a).map .int,.live⟩) rfl;rw[hB]at Dp;obtain⟨I,hO,w1,w2,w3,w4⟩:=zT (X:=U.add ⟨ab,(c.2.1::a).map .int,.live⟩) (f:=ad) (s:=cs) (t:=qn) hU2.ok XF hqn (w:=.aX ae [.int (M.ay+M.aG+(r:Int))]) (.sl _ (c.2.1::a) Dp) (.aX ae [M.ay+M.aG+(r:Int)]) (by have:=y.1.2;simp;omega) ZC XH
       rw[<-hB]at hO;have apK : (U.add ⟨ab,(c.2.1::a).map .int,.live⟩).N=d.N:=hUN;rw[apK, <-G]at hO;have eB:iC (ts [AV.int c.2.1]) (a.map .int)=(c.2.1::a).map .int:=rfl;have ubl:=kA (τ:=[⟨ab,(c.2.1::a).map .int,.live⟩]) Hg;have e1:1+ah a=ah (c.2.1::a):=aT
       have e2:ah a+1=ah (c.2.1::a):=aA
       have apL:ah (c.2.1::a)<=1073741824:=by have:=y.1.2;simp;omega
       simp[-aK,-List.length_cons,-List.map_cons,qT,Hg,ubl,hfp,UW,T,Ng,G9,eB,e1,e2,apL,hO];exact⟨by simp[ba],⟨ax,ax⟩,⟨ax,ax⟩,ax,a8 (r+1,I) aA rfl ⟨aR,last I (hU2.trans w1) w2 w3 w4⟩ aR⟩
     .have er:r=nr:=by omega
      subst er;have qT:=eG (show ¬(r:Int)<nn.aM by omega)
      simp[-aK,qT];exact⟨ax,a8 (k+1,U) aA rfl ⟨aR,O,u3,(by rw[<-hnr]at u4;exact u4.aoQ)⟩ aR⟩
    .have ek:k=ah (A (u:Int)):=by omega
     subst ek;simp[-aK];have fn:=finish V (m.trans v1) v3 v4;exact⟨ax,a8 (i+1,V) aA rfl ⟨aR,fn⟩ aR⟩
 .have ei:i=ah out:=by omega
  subst ei;simp[-aK];exact hQ Z z1 z3 z4 _
end
section
variable{M:eZ}{n:Nat}
def XI{l:List PR}(a:l.Nodup) (h:∀s t,(s,t)∈l->cy M s/\cy M t):ah l<=M.size*M.size:=by
 rw[<-WE];refine zL a λp b=>?_;obtain⟨⟨d,e⟩,g,i⟩:=h p.1 p.2 b;simp only[MN,oF,cJ,cE];exact⟨aj p.1,ax,aj p.2,ax,by
  rw[show((aj p.1:Nat):Int)=p.1 by omega,show((aj p.2:Nat):Int)=p.2 by omega]⟩
def XJ{X:XM}{f:Bool}{P:Int->Int->ak->Prop}(e:iw X) (d:X.N=M.size) (a:M.size<=1000) (i:n<1025) (h:jA M P n (X.b f)):∃Y,L BD [.ptr (num X.N (.box f)) (ba (aa 3)) 0,.int n] (mem X)=aa (.sl (num X.N (.dy (ah X.dyn))) (2*ah ((X.b f).tk n).1) 0 (ah ((X.b f).tk n).1),mem Y)/\Xe X Y/\Y.b f=((X.b f).tk n).2/\Y.b (!f)=X.b (!f)/\Y.A=X.A/\Y.dyn[ah X.dyn]? = aa (.jk (l8 ((X.b f).tk n).1)):=by
 have j:ah ((X.b f).R n)<=1000000:=by have g:=h.zM n;have r:M.size*M.size<=1000*1000:=kH a a;omega
 obtain⟨_,_,g,rfl,rfl⟩:=dt (apB (X:=X) (f:=f) (n:=n) e i j λp l=>by rw[d];exact(h.low p.1 p.2 n l).1)
 obtain⟨m,o,q⟩:=Xx (X:=X) (f:=f) e ((X.b f).tk n).2.D ((X.b f).tk n).1;exact⟨_,g,m,by rw[rj,aD rfl];rfl,by rw[rj,aC (by cases f<;>simp)],q,o⟩
def apM (m:M.Sm) (d:M.size<=1000){tt:Nat}{mv:AV}(Ae:GU tt mv M){nn:aS}(hc:nn.ay=M.ay) (ke : nn.aG=M.aG) (xY : nn.aM=M.aM){X:XM}(hX:iw X) (e:X.N=M.size) (g:X.bx=pS tt mv nn) (o:MO M X.A) (hAl:∀p,ah (X.A p)<=1000000) (hn:n<1025) (h:Am M n X.S X.C) :
  ∃Y k out,L EV [.ptr (num X.N .bx) (ba (aa 14)) 0,.int n] (mem X)=aa (.sl (num X.N (.dy k)) (2*ah out) 0 (ah out),mem Y)/\Xe X Y/\Y.A=X.A/\Y.dyn[k]? = aa (.jk (l8 out))/\Am M (n+1) Y.S Y.C/\ah out<=1000000/\∀s t,(s,t)∈out↔(cy M s/\cy M t)/\∃a,M.lk s t=aa a/\ah a=n/\Y.C.W s t=aa a:=by
 have main:LX L EV [.ptr (num X.N .bx) (ba (aa 14)) 0,.int n] (mem X) (λv τ=>∃Y k out,v = .sl (num X.N (.dy k)) (2*ah out) 0 (ah out)/\τ=mem Y/\Xe X Y/\Y.A=X.A/\Y.dyn[k]? = aa (.jk (l8 out))/\Am M (n+1) Y.S Y.C/\ah out<=1000000/\∀s t,(s,t)∈out↔(cy M s/\cy M t)/\∃a,M.lk s t=aa a/\ah a=n/\Y.C.W s t=aa a):=by
  refine akX rfl ?_;have h2:M.size*M.size<=1000*1000:=kH d d;obtain⟨t1,t2,t3,t4⟩:=jA.tk (FV m) h.s (h.aoO m);obtain⟨X1,G,H,x,xC,xA,xd⟩:=XJ (X:=X) (f:=ad) hX e d hn h.s;have hS:X.b ad=X.S:=rfl;rw[hS]at G x xd;have x:X1.S=(X.S.tk n).2:=x;have xC:X1.C=X.C:=xC;have N1:=XI (M:=M) t3 λs t y=>((t4 s t).1 y).1;have ZT:=kE hX rfl g;have r:=ZT.bx;have z:pS tt mv nn=[.iface tt mv,.int nn.ay,.int nn.aG,.int nn.aM,.int nn.aL,.int nn.aF,bL nn.az,bU nn.call,bU nn.push,bU nn.aH,dw nn.aP]:=rfl;rw[z]at r;have t1' : jA M (mL M) (n+1) X1.S:=by rw[x];exact t1
  have I:=λ(nv:AV) (Q:Ex->St->Prop)=>apD m d (Q:=Q) H.ok (H.n.trans e) (H.bx.trans g) ⟨_,_,_,_,_,_,_,_,_,_,_,z⟩ ax xd h.c xC t1' (λs t y=>by have:=(t4 s t).1 y;rw[x];exact⟨this.1,this.2⟩) nv
  rw[H.n]at I;generalize u:(X.S.tk n).1=iK at *;simp[-aK,r,G];refine I _ _ λZ z1 z2 z3 B i=>?_;have z4' : tL M n (X.S.tk n).2 X.C Z.C (X.S.tk n).1 (ah (X.S.tk n).1) 0:=by rw[<-x,u];exact B
  have J:=tL.fin m h t1 (λs t=>by rw[u];exact t4 s t) z4'
  have oe1:=λ(s:Int) (hs:cy M s)=>(h.oe s hs).mono B.l hs hs;obtain⟨u1,u2,u3,u4⟩:=jA.tk (sB m) B.c (aoP m t1 B.c oe1 J);have K:=H.trans z1;obtain⟨j,O,y1,F,P,yA,yd⟩:=XJ (X:=Z) (f:=ae) z1.ok (K.n.trans e) d hn B.c;have R:Z.b ae=Z.C:=rfl;rw[R,K.n]at O;rw[R]at F yd;have F:j.C=(Z.C.tk n).2:=F;have P:j.S=(X.S.tk n).2:=(show j.S=Z.S from P).trans (z2.trans x);have T:j.A=X.A:=yA.trans (z3.trans xA);have rJ:=XI (M:=M) u3 λs t y=>((u4 s t).1 y).1;have U:=K.trans y1;have CV:=(kE z1.ok K.n (K.bx.trans g)).bx;rw[z]at CV;have D : jA M (Wd M) (n+1) j.C:=by rw[F];exact u1
  have Al : jA M (mL M) (n+1) j.S:=by rw[P];exact t1
  have E:∀s t,(s,t)∈(Z.C.tk n).1↔(cy M s/\cy M t)/\∃a,M.lk s t=aa a/\ah a=n/\j.C.W s t=aa a:=λs t=>by rw[F];exact u4 s t
  have XK:=λ(Q:Ex->St->Prop)=>apG m d (Q:=Q) Ae hc ke xY U.ok (U.n.trans e) (U.bx.trans g) ax yd T o hAl Al D (λs t y=>(E s t).1 y)
  rw[U.n]at XK;have k1:tK M X.S j.S:=by rw[P];exact t2
  have k2:tK M Z.C j.C:=by rw[F];exact u2
  generalize arG:(Z.C.tk n).1=w at *;simp[-aK,CV,O];refine XK _ λV v1 v2 v3 i' =>?_;have fin:=mV.fin m h o k1 B.l k2 B.c (by rw[P];exact J) E Al D v3
  have Ge:∀s t,(s,t)∈w↔(cy M s/\cy M t)/\∃a,M.lk s t=aa a/\ah a=n/\V.C.W s t=aa a:=λs t=>by
   rw[E];constructor
   .rintro⟨q,a,a1,a2,a3⟩
    exact⟨q,a,a1,a2,(v3.c.fin q.1 q.2 a1 ax).2⟩
   .rintro⟨q,a,a1,a2,a3⟩
    exact⟨q,a,a1,a2,(D.fin q.1 q.2 a1 ax).2⟩
  simp[-aK];exact⟨V,_,w,⟨rfl,rfl,rfl⟩,rfl,U.trans v1,v2.trans T,yo v1 yd,fin,ax,Ge⟩
 obtain⟨_,_,h1,Y,k,out,rfl,rfl,h2,h3,h4,h5,h6,h7⟩:=dt main;exact⟨Y,k,out,h1,h2,h3,h4,h5,h6,h7⟩
end
section
variable{X:XM}{t:Nat}{c:CR}
def Gf (r:Nat->Nat) (k v:Nat):Nat->Nat:=λj=>if j=k then v else r j
def XM.jM (X:XM) (t:Nat) (c:CR):XM:=
 if X.A (t:Int)=[]then {X with A:=lI X.A (t:Int) c,ai:=Gf X.ai t (ah X.dyn),dyn:=X.dyn ++ [.ra t]}else {X with A:=lI X.A (t:Int) c}
def apN{l:List CR}:Aq (l ++ [c])=Aq l ++ [.int c.1,.int c.2.1,.int c.2.2]:=by simp[Aq]
def Hh (h:iw X) (d:X.A (t:Int) ≠ []):X.ai t<ah X.dyn/\aQ (mem X) (num X.N (.dy (X.ai t)))=aa ⟨aa 3,Aq (X.A (t:Int)),.live⟩:=by
 have a:=h.a1 t d;have b:=(dp.1 a).1;refine⟨b,?_⟩;have:=pR h.n.1 (x:=.dy (X.ai t)) b;rw[this];show aa (mh X X.dyn[X.ai t]?)=_;rw[a];rfl
variable{A:Int->List CR}
def xp{i:Nat}(h:i ≠ t):lI A (t:Int) c (i:Int)=A (i:Int):=by unfold lI;rw[aC ax]
def zV:lI A (t:Int) c (t:Int)=A (t:Int) ++ [c]:=by unfold lI;rw[aD rfl]
theorem apO (h:iw X) (r:t<X.N) (a:X.A (t:Int) ≠ []):aV (aV (mem X) (num X.N (.dy (X.ai t))) ⟨aa 3,Aq (X.A (t:Int)) ++ [.int c.1,.int c.2.1,.int c.2.2],.live⟩) (num X.N .co) ⟨ab,(sC X).set t (.sl (num X.N (.dy (X.ai t))) (3*ah (X.A (t:Int))+3) 0 (ah (X.A (t:Int))+1)),.live⟩=mem (X.jM t c):=by
 have b:=(Hh h a).1;unfold XM.jM;rw[aC a];refine Xd (Y:={X with A:=lI X.A (t:Int) c}) h.n.1 rfl rfl (x:=.dy (X.ai t)) (z:=.co) b trivial ?_ _ _ ?_ ?_ λy g l=>?_
 .show 4*X.N+10+X.ai t ≠ 4*X.N+8
  omega
 .show mh _ X.dyn[X.ai t]? = _
  rw[h.a1 t a];simp only[mh,zV,apN]
 .show(⟨ab,sC _,.live⟩:aO)=_
  congr 1
  apply gF
  .simp[sC]
  .intro i s u
   simp only[sC,jm,gq,jn]
   by_cases e:t=i
   .subst e;simp[zV];omega
   .have m : ¬i=t:=λx=>e x.symm
    rw[aC e];simp only[xp m]
 .cases y with
  |co=>exact absurd rfl l
  |dy i=>
   have o:i ≠ X.ai t:=λe=>g fk
   simp only[cb];cases hd:X.dyn[i]? with
   |none=>rfl
   |some d=>
    cases d with
    |ra j=>
     have p:j ≠ t:=λq=>o (by rw[<-q];exact(h.a2 i j hd).2)
     simp only[mh,xp p]
    |_=>rfl
  |_=>rfl
theorem apP (h:iw X) (q:t<X.N) (a:X.A (t:Int)=[]):aV (mem X ++ [⟨aa 3,[.int c.1,.int c.2.1,.int c.2.2],.live⟩]) (num X.N .co) ⟨ab,(sC X).set t (.sl (num X.N (.dy (ah X.dyn))) 3 0 1),.live⟩=mem (X.jM t c):=by
 unfold XM.jM;rw[aD a];refine Xf (Y:={X with A:=lI X.A (t:Int) c,ai:=Gf X.ai t (ah X.dyn),dyn:=X.dyn ++ [.ra t]}) h.n.1 rfl rfl (z:=.co) trivial _ _ ?_ ?_ λy g l=>?_
 .simp only[mh,zV,a]
  rfl
 .show(⟨ab,sC _,.live⟩:aO)=_
  congr 1
  apply gF
  .simp[sC]
  .intro i r s
   simp only[sC,jm,gq,jn]
   by_cases e:t=i
   .subst e;simp[zV,a,Gf]
   .have b : ¬i=t:=λx=>e x.symm
    rw[aC e];simp only[xp b, Gf,aC b]
 .cases y with
  |co=>exact absurd rfl g
  |dy i=>
   have m:i<ah X.dyn:=l;show mh _ (X.dyn ++ [.ra t])[i]? = mh X X.dyn[i]?;rw[dq m];cases hd:X.dyn[i]? with
   |none=>rfl
   |some d=>
    cases d with
    |ra j=>
     have o:j ≠ t:=λp=>(h.a2 i j hd).1 (by rw[p];exact a)
     simp only[mh,xp o]
    |_=>rfl
  |_=>rfl
def apQ:(X.jM t c).N=X.N/\(X.jM t c).bx=X.bx/\(X.jM t c).S=X.S/\(X.jM t c).C=X.C/\(X.jM t c).A=lI X.A (t:Int) c:=by
 unfold XM.jM;split<;>exact⟨rfl,rfl,rfl,rfl,rfl⟩
def apR (h:iw X):Xe X (X.jM t c):=by
 by_cases l:X.A (t:Int)=[]
 .have m:X.jM t c={X with A:=lI X.A (t:Int) c,ai:=Gf X.ai t (ah X.dyn),dyn:=X.dyn ++ [.ra t]}:=by unfold XM.jM;rw[aD l]
  rw[m];refine⟨⟨h.n,h.bx,λg j a=>?_,λi g j b=>?_,λu a=>?_,λi u b=>?_⟩,rfl,rfl,[.ra t],rfl⟩
  .have:=h.r1 g j a
   show(X.dyn ++ [.ra t])[X.ri g j]? = _;rw[dq (dp.1 this).1,this]
  .have b:(X.dyn ++ [.ra t])[i]? = aa (.rt g j):=b
   by_cases o:i<ah X.dyn
   .rw[dq o]at b;exact h.r2 i g j b
   .rw[dW ax]at b
    have:i-ah X.dyn=0\/0<i-ah X.dyn:=ax
    rcases this with e|e
    .rw[e]at b;simp at b
    .rw[il aT]at b;simp at b
  .have a:lI X.A (t:Int) c (u:Int) ≠ []:=a
   show(X.dyn ++ [.ra t])[Gf X.ai t (ah X.dyn) u]? = _;unfold Gf
   by_cases e:u=t
   .rw[aD e,dW (bG _),pG,e];rfl
   .rw[aC e]
    rw[xp e]at a;have:=h.a1 u a;rw[dq (dp.1 this).1,this]
  .have b:(X.dyn ++ [.ra t])[i]? = aa (.ra u):=b
   show lI X.A (t:Int) c (u:Int) ≠ []/\i=Gf X.ai t (ah X.dyn) u;unfold Gf
   by_cases o:i<ah X.dyn
   .rw[dq o]at b
    obtain⟨p,q⟩:=h.a2 i u b;have a:u ≠ t:=λe=>p (by rw[e];exact l)
    rw[xp a,aC a];exact⟨p,q⟩
   .rw[dW ax]at b
    have:i-ah X.dyn=0\/0<i-ah X.dyn:=ax
    rcases this with e|e
    .rw[e]at b
     simp at b;subst b;rw[zV,aD rfl];exact⟨aA,ax⟩
    .rw[il aT]at b;simp at b
 .have m:X.jM t c={X with A:=lI X.A (t:Int) c}:=by unfold XM.jM;rw[aC l]
  rw[m];have d:∀u:Nat,lI X.A (t:Int) c (u:Int) ≠ []↔X.A (u:Int) ≠ []:=λu=>by
   by_cases e:u=t
   .subst e;rw[zV];simp[l]
   .rw[xp e]
  exact⟨⟨h.n,h.bx,h.r1,h.r2,λu a=>h.a1 u ((d u).1 a),λi u b=>⟨(d u).2 (h.a2 i u b).1,(h.a2 i u b).2⟩⟩,rfl,rfl,[],aA⟩
end
def XL:ao:=ag 1025 .aJ
def ma (N b w d:Nat):Ix->aO
 |.mO _=>⟨ab,XL,.live⟩
 |.box _=>⟨aa 3,[if w=0 then .aJ else .sl (b+3) w 0 w,if d=0 then .aJ else .sl (b+5) d 0 d,.sl b 1025 0 1025],.live⟩
 |.wr _ _=>⟨ab,ag N .aJ,.live⟩
 |.wo _=>⟨ab,(af w).map λs=>.sl (b+if s=0 then 2 else 4+2*s) N 0 N,.live⟩
 |.dr _ _=>⟨ab,ag N (.bool ae),.live⟩
 |.rb _=>⟨ab,(af d).map λs=>.sl (b+if s=0 then 4 else 5+2*s) N 0 N,.live⟩
 |_=>default
def qd (w d:Nat):Nat:=if w=0 then 2 else if d=0 then 4 else w+d+4
def lH (N b w d:Nat):aq:=(af (qd w d)).map λj=>ma N b w d (iv ad j)
section
variable{N b w d:Nat}{σ:aq}
def pV:ah (lH N b w d)=qd w d:=by simp[lH]
def Nh (a:b=ah σ){k:Nat}(e:k<qd w d):aQ (σ++lH N b w d) (b+k)=aa (ma N b w d (iv ad k)):=by
 subst a;rw[tx,dW ax]
 simp[lH,e]
def Gg:aQ (σ++lH N (ah σ) w d) (ah σ+1)=aa ⟨aa 3,[if w=0 then .aJ else .sl (ah σ+3) w 0 w,if d=0 then .aJ else .sl (ah σ+5) d 0 d,.sl (ah σ) 1025 0 1025],.live⟩:=Nh rfl (by unfold qd;by_cases h:w=0<;>by_cases a:d=0<;>simp[h,a]<;>omega)
def apS (a:w ≠ 0):aQ (σ++lH N (ah σ) w d) (ah σ+3)=aa ⟨ab,(af w).map λs=>.sl (ah σ+if s=0 then 2 else 4+2*s) N 0 N,.live⟩:=Nh rfl (by unfold qd;by_cases b:d=0<;>simp[a,b]<;>omega)
def apT (a:w ≠ 0) (hd:d ≠ 0):aQ (σ++lH N (ah σ) w d) (ah σ+5)=aa ⟨ab,(af d).map λs=>.sl (ah σ+if s=0 then 4 else 5+2*s) N 0 N,.live⟩:=Nh rfl (by unfold qd;simp[a,hd];omega)
variable{j:Nat}
def XN{w':Nat}(a:j ≠ 1) (e:j ≠ 3):ma N b w d (iv ad j)=ma N b w' d (iv ad j):=by
 unfold iv
 repeat' split
 all_goals first|rfl|(exfalso;omega)
def XO{d':Nat}(a:j ≠ 1) (e:j ≠ 5):ma N b w d (iv ad j)=ma N b w d' (iv ad j):=by
 unfold iv
 repeat' split
 all_goals first|rfl|(exfalso;omega)
def zW{τ:aq}{k:Nat}{B:aO}:aV (σ++τ) (ah σ+k) B=σ++τ.set k B:=by
 rw[qO,List.set_append_right _ _ ax,show (ah σ)+k-ah σ=k by omega]
def apU:aV (σ++(lH N (ah σ) 0 0 ++ [⟨ab,ag N .aJ,.live⟩,⟨ab,[.sl (ah σ+2) N 0 N],.live⟩])) (ah σ+1) ⟨aa 3,[.sl (ah σ+3) 1 0 1,.aJ,.sl (ah σ) 1025 0 1025],.live⟩=σ++lH N (ah σ) 1 0:=by
 rw[zW];rfl
def apV:aV (σ++(lH N (ah σ) 1 0 ++ [⟨ab,ag N (.bool ae),.live⟩,⟨ab,[.sl (ah σ+4) N 0 N],.live⟩])) (ah σ+1) ⟨aa 3,[.sl (ah σ+3) 1 0 1,.sl (ah σ+5) 1 0 1,.sl (ah σ) 1025 0 1025],.live⟩=σ++lH N (ah σ) 1 1:=by
 rw[zW];rfl
variable{i:Nat}
def apW(h:i ≠ 0):aV (aV (σ++(lH N (ah σ) i i ++ [⟨ab,ag N .aJ,.live⟩])) (ah σ+3) ⟨ab,(af i).map (λs=>.sl (ah σ+if s=0 then 2 else 4+2*s) N 0 N) ++ [.sl (ah σ+(i+i+4)) N 0 N],.live⟩) (ah σ+1) ⟨aa 3,[.sl (ah σ+3) (i+1) 0 (i+1),.sl (ah σ+5) i 0 i,.sl (ah σ) 1025 0 1025],.live⟩=σ++lH N (ah σ) (i+1) i:=by
 rw[zW,zW]
 congr 1
 have a:qd i i=i+i+4:=by unfold qd;simp[h]
 have g:qd (i+1) i=i+i+5:=by unfold qd;simp[h];omega
 apply gF
 .simp[lH,a,g]
 .intro j o l
  rw[jm,jm];simp only[lH,db,lT,g]at l;simp only[lH,gq,jn]
  by_cases b:1=j
  .subst b;rw[aD rfl];show _=ma N _ (i+1) i (.box ad);simp[ma,h]
  .rw[aC b]
   by_cases d:3=j
   .subst d;rw[aD rfl];show _=ma N _ (i+1) i (.wo ad);simp[ma,kL,h];omega
   .rw[aC d,XN (w' :=i) (λe=>b e.symm) (λe=>d e.symm)]
    by_cases m:j<i+i+4
    .rw[te (by simp[a];exact m)]
     simp
    .have:j=i+i+4:=by omega
     subst this;rw[uz gf]
     have n:iv ad (i+i+4) = .wr ad i:=by
      have:=W9 (f:=ad) (s:=i);rw[aC h]at this;rw[<-this];congr 1;omega
     simp[a,n,ma]
def apX(h:i ≠ 0):aV (aV (σ++(lH N (ah σ) (i+1) i ++ [⟨ab,ag N (.bool ae),.live⟩])) (ah σ+5) ⟨ab,(af i).map (λs=>.sl (ah σ+if s=0 then 4 else 5+2*s) N 0 N) ++ [.sl (ah σ+(i+i+5)) N 0 N],.live⟩) (ah σ+1) ⟨aa 3,[.sl (ah σ+3) (i+1) 0 (i+1),.sl (ah σ+5) (i+1) 0 (i+1),.sl (ah σ) 1025 0 1025],.live⟩=σ++lH N (ah σ) (i+1) (i+1):=by
 rw[zW,zW]
 congr 1
 have a:qd (i+1) i=i+i+5:=by unfold qd;simp[h];omega
 have g:qd (i+1) (i+1)=i+i+6:=by unfold qd;simp;omega
 apply gF
 .simp[lH,a,g]
 .intro j o l
  rw[jm,jm];simp only[lH,db,lT,g]at l;simp only[lH,gq,jn]
  by_cases b:1=j
  .subst b;rw[aD rfl];show _=ma N _ (i+1) (i+1) (.box ad);simp[ma,h]
  .rw[aC b]
   by_cases d:5=j
   .subst d;rw[aD rfl];show _=ma N _ (i+1) (i+1) (.rb ad);simp[ma,kL,h];omega
   .rw[aC d,XO (d' :=i) (λe=>b e.symm) (λe=>d e.symm)]
    by_cases m:j<i+i+5
    .rw[te (by simp[a];exact m)]
     simp
    .have:j=i+i+5:=by omega
     subst this;rw[uz gf]
     have n:iv ad (i+i+5) = .dr ad i:=by
      have:=Xa (f:=ad) (s:=i);rw[aC h]at this;rw[<-this];congr 1;omega
     simp[a,n,ma]
def apY{N:Nat}(G:N<=1000) (σ:aq):L BC [.int N] σ=aa (.ptr (ah σ+1) (ba (aa 3)) 0,σ++lH N (ah σ) N N):=by
 have main:LX L BC [.int N] σ (λv τ=>v = .ptr (ah σ+1) (ba (aa 3)) 0/\τ=σ++lH N (ah σ) N N):=by
  refine ak6 rfl ?_;have o:ag 1025 AV.aJ=XL:=rfl;have e0:[⟨ab,XL,.live⟩,⟨aa 3,[.aJ,.aJ,.sl (ah σ) 1025 0 1025],.live⟩]=lH N (ah σ) 0 0:=rfl;have q : (AV.agg [AV.aJ,AV.aJ,AV.sl (ah σ) 1025 0 1025]).cells=[AV.aJ,AV.aJ,AV.sl (ah σ) 1025 0 1025]:=rfl;simp[-aK,-List.reduceReplicate];simp only[o,q, e0];refine bB (λp:Nat=>[(1,.int p)]) (λp=>σ++lH N (ah σ) p p) (λp=>p<=N) (λp=>N-p) 0 bS aA ?_
  intro i i1
  try dsimp only at i1 ⊢
  have h:(N:Int)<=1073741824:=ax
  by_cases x:i<N
  .by_cases a:i=0
   .subst a
    have b1:=Gg (N:=N) (σ:=σ) (w:=0) (d:=0);have g:=Gg (N:=N) (σ:=σ) (w:=1) (d:=0);have j:=λτ=>kA (τ:=τ) b1;have l:=λτ=>kA (τ:=τ) g;have m:=pV (N:=N) (b:=ah σ) (w:=0) (d:=0);rw[show qd 0 0=2 from rfl]at m;have e:=pV (N:=N) (b:=ah σ) (w:=1) (d:=0);rw[show qd 1 0=4 from rfl]at e;simp at b1 j g l;have r:=apU (N:=N) (σ:=σ);have s:=apV (N:=N) (σ:=σ);simp[-aK,x,b1,j,m,r,g,l,e,s,h];exact a8 1 aA rfl ax ax
   .have b1:=Gg (N:=N) (σ:=σ) (w:=i) (d:=i)
    have g:=Gg (N:=N) (σ:=σ) (w:=i+1) (d:=i);have y:=apS (N:=N) (σ:=σ) (w:=i) (d:=i) a;have z:=apT (N:=N) (σ:=σ) (w:=i+1) (d:=i) ax a
    have m:=pV (N:=N) (b:=ah σ) (w:=i) (d:=i);have u:qd i i=i+i+4:=by unfold qd;simp[a]
    rw[u]at m;have e:=pV (N:=N) (b:=ah σ) (w:=i+1) (d:=i);have n:qd (i+1) i=i+i+5:=by unfold qd;simp[a];omega
    rw[n]at e;rw[aC a,aC a]at b1;rw[aC ax,aC a]at g
    have j:=λτ=>kA (τ:=τ) b1;have A:=λτ=>kA (τ:=τ) y;have l:=λτ=>kA (τ:=τ) g;have C:=λτ=>kA (τ:=τ) z;have D:=λ(τ:aq) (B:aO)=>Ga (σ:=τ) (B:=B) (show (ah σ)+3 ≠ ah σ+1 by omega)
    have E:=λ(τ:aq) (B:aO)=>Ga (σ:=τ) (B:=B) (show (ah σ)+5 ≠ ah σ+1 by omega)
    simp only[jg]at j l A C;have r:=apW (N:=N) (σ:=σ) a;have s:=apX (N:=N) (σ:=σ) a;simp[-aK,x,a,b1,g,y,z,j,l,A,C,D,E,m,e,h,r,s];exact⟨ax,ax,a8 (i+1) aA rfl ax ax⟩
  .have:i=N:=by omega
   subst this;simp[-aK]
 obtain⟨_,_,F,rfl,rfl⟩:=dt main;exact F
end
def uc (N:Nat) (bx:ao):XM:=⟨N,bx,.emp,.emp,λ_=>[],λ_ _=>0,λ_=>0,[]⟩
variable{bx:ao}
def apZ{N:Nat}(a:1<=N) (b:N<=1000) (d:ah bx=11):iw (uc N bx):=⟨⟨a,b⟩,d,λf k h=>by cases f<;>exact absurd rfl h,λi f k h=>by simp[uc]at h,λt h=>absurd rfl h,λi t h=>by simp[uc]at h⟩
variable{x:AV}
def xq{n:Nat}:(af n).map (λ_=>x)=ag n x:=by
 rw[List.map_const', lT]
def Ni{k n:Nat}(h:iz k x=x):lR k (ag n x)=ag n x:=by rw[sO,List.map_replicate,h]
theorem ap0{N k w d:Nat}{x:Ix}:gl k (ma N 0 w d x)=ma N k w d x:=by
 cases x with
 |mO f=>simp only[gl,ma];rw[show XL=ag 1025 AV.aJ from rfl,Ni (by unfold iz;rfl)];rfl
 |box f=>
  simp only[gl,ma,sO,da,List.map_nil]
  congr 1
  by_cases a:w=0<;>by_cases hd:d=0<;>simp[a,hd,iz,Nat.add_comm]
 |wr f s=>simp only[gl,ma];rw[Ni (by unfold iz;rfl)];rfl
 |dr f s=>simp only[gl,ma];rw[Ni (by unfold iz;rfl)];rfl
 |wo f=>
  simp only[gl,ma,sO,List.map_map]
  congr 1
  refine fm λj _=>?_;simp[iz,Nat.add_comm]
 |rb f=>
  simp only[gl,ma,sO,List.map_map]
  congr 1
  refine fm λj _=>?_;simp[iz,Nat.add_comm]
 |_=>rfl
def XP{N k w d:Nat}:(lH N 0 w d).map (gl k)=lH N k w d:=by
 unfold lH;rw[List.map_map];exact fm λj _=>ap0
def ap2{N:Nat}(p:1<=N):lH N 0 N N++(lH N (2*N+4) N N ++ [⟨ab,ag N .aJ,.live⟩,⟨aa 14,bx ++ [.ptr 1 (ba (aa 3)) 0,.ptr (2*N+5) (ba (aa 3)) 0,.sl (4*N+8) N 0 N],.live⟩])=mem (uc N bx):=by
 have a:qd N N=2*N+4:=by unfold qd;rw[aC ax,aC ax];omega
 have g:N ≠ 0:=ax
 have main:∀f k,k<2*N+4->cb (uc N bx) (iv f k)=ma N (e0 N f) N N (iv ad k):=by
  intro f k q;have d:(uc N bx).b f = .emp:=by cases f<;>rfl
  unfold iv
  repeat' split
  .simp only[cb,ma,oo,d];rw[show XL=ag 1025 AV.aJ from rfl,<-xq];simp[Bs.emp]
  .simp[cb,ma,uc,num,g]
  .simp only[cb,ma,iE,d];rw[<-xq];simp[Bs.emp,wc,uc]
  .simp[cb,ma,o5,uc,num]
  .simp only[cb,ma,j5,d];rw[<-xq];simp[Bs.emp,uc]
  .simp[cb,ma,o5,uc,num]
  .simp only[cb,ma,iE,d];rw[<-xq];simp[Bs.emp,wc,uc]
  .simp only[cb,ma,j5,d];rw[<-xq];simp[Bs.emp,uc]
 apply gF
 .simp[mem,lH,a,uc];omega
 .intro j r h
  simp only[mem,db,lT]at h;have h:j<4*N+10+0:=h;simp only[mem,gq,jn];have l:(uc N bx).N=N:=rfl;rw[l]
  by_cases e:j<2*N+4
  .rw[te (by rw[pV,a];exact e)]
   have hd:ib N j=iv ad j:=by unfold ib;rw[aD e]
   rw[hd,main ad j e];simp[lH,e0]
  .rw[uz (by rw[pV,a];omega)]
   simp only[pV,a]
   by_cases m:j<4*N+8
   .rw[te (by rw[pV,a];omega)]
    have hd:ib N j=iv ae (j-(2*N+4)):=by unfold ib;rw[aC e,aD m]
    rw[hd,main ae _ ax]
    simp[lH,e0]
   .rw[uz (by rw[pV,a];omega)]
    simp only[pV,a]
    by_cases n:j=4*N+8
    .subst n
     have hd:ib N (4*N+8) = .co:=by unfold ib;rw[aC ax,aC ax,aD rfl]
     rw[hd];have i:4*N+8-(2*N+4)-(2*N+4)=0:=ax
     simp only[i];simp[cb,sC,uc];exact xq.symm
    .have o:j=4*N+9:=by omega
     subst o;have hd:ib N (4*N+9) = .bx:=by unfold ib;rw[aC ax,aC ax,aC ax,aD rfl]
     rw[hd];have i:4*N+9-(2*N+4)-(2*N+4)=1:=ax
     simp only[i];simp[cb,uc,num,e0]
section
variable{M:eZ}
def ap3 (O:M.Sm) (NW:1<=M.size) (x:M.size<=1000){D:Nat}{mv:AV}(E:GU D mv M){nn:aS}(hc:nn.ay=M.ay) (ke : nn.aG=M.aG) (xY : nn.aM=M.aM) :
  ∃X,L EU [.iface D mv,nn.av] []=aa (.ptr (num X.N .bx) (ba (aa 14)) 0,mem X)/\iw X/\X.N=M.size/\X.bx=pS D mv nn/\Am M 0 X.S X.C/\MO M X.A/\∀p,ah (X.A p)<=1000000:=by
 have main:LX L EU [.iface D mv,nn.av] [] (λv τ=>∃X,v = .ptr (num X.N .bx) (ba (aa 14)) 0/\τ=mem X/\iw X/\X.N=M.size/\X.bx=pS D mv nn/\Am M 0 X.S X.C/\MO M X.A/\∀p,ah (X.A p)<=1000000):=by
  refine akW rfl ?_;obtain⟨fs,Z1,T⟩:=E.size;obtain⟨fc,hfc,XQ⟩:=E.call;obtain⟨fi,Dj,ap4⟩:=E.aH;have u:=E.loc;have F:=E.wk;have e1:qd M.size M.size=2*M.size+4:=by unfold qd;rw[aC ax,aC ax];omega
  have XK:=apY x [];have hl:=pV (N:=M.size) (b:=0) (w:=M.size) (d:=M.size);have rJ:=pV (N:=M.size) (b:=2*M.size+4) (w:=M.size) (d:=M.size);rw[e1]at hl rJ;have vU:=XP (N:=M.size) (k:=0) (w:=M.size) (d:=M.size);have hs2:=XP (N:=M.size) (k:=2*M.size+4) (w:=M.size) (d:=M.size);have p1:iz 0 (.ptr 1 (ba (aa 3)) 0) = .ptr 1 (ba (aa 3)) 0:=by simp[iz]
  have p2:iz (2*M.size+4) (.ptr 1 (ba (aa 3)) 0) = .ptr (2*M.size+5) (ba (aa 3)) 0:=by simp[iz];omega
  simp only[rB,eX,gQ]at XK;simp[-aK,Z1,T, u,F,XK,vU,hs2,p1,p2,hl,rJ];refine⟨ax,?_⟩
  have em:=ap2 (N:=M.size) (bx:=pS D mv nn) NW;have dR:=apZ (N:=M.size) (bx:=pS D mv nn) NW x rfl;generalize P:uc M.size (pS D mv nn)=I at *;have r:I.N=M.size:=by rw[<-P];rfl
  have b0:I.bx=pS D mv nn:=by rw[<-P];rfl
  have i0:ph M I.S I.C I.A 0 0 0 0:=by rw[<-P];exact .init
  have l0:∀p,ah (I.A p)=0:=λp=>by rw[<-P];rfl
  have zU:pS D mv nn=[.iface D mv,.int nn.ay,.int nn.aG,.int nn.aM,.int nn.aL,.int nn.aF,bL nn.az,bU nn.call,bU nn.push,bU nn.aH,dw nn.aP]:=rfl;have q1:2*M.size+4+(2*M.size+4)=4*M.size+8:=ax
  have q2:2*M.size+4+(2*M.size+4+1)=num M.size .bx:=by show _=4*M.size+9;omega
  rw[q1,q2];have XG:=O.ok.ay;have a:=O.ok.aG;have arU:=O.sum;have N5:=O.ok.aM;obtain⟨J,hnc⟩:=fU XG.1;obtain⟨ni,GD⟩:=fU a.1;refine bB (λp:Nat×XM=>[(3,.int p.1)]) (λp=>mem p.2) (λp=>p.1<=M.size/\Xe I p.2/\ph M p.2.S p.2.C p.2.A p.1 p.1 0 0/\∀q,ah (p.2.A q)<=p.1*J) (λp=>M.size-p.1) (0,I) (congrArg (λz=>(⟨_,ab,z⟩:St)) em) ⟨aA,.refl dR,i0,λq=>by rw[l0];omega⟩ ?_
  rintro⟨s,Z⟩ ⟨s1,y,z2,z3⟩;dsimp only at s1 y z2 z3 ⊢
  by_cases hs:s<M.size
  .have zf:=kE y.ok (y.n.trans r) (y.bx.trans b0)
   have CV:=zf.bx;rw[zU]at CV;have a:cy M (s:Int):=⟨ax,ax⟩
   have j8 :=bz hs;obtain⟨Y,hO,y1,yC,yS,yA⟩:=zT (X:=Z) (f:=ae) (s:=s) (t:=s) y.ok (by rw[y.n,r];exact hs) (by rw[y.n,r];exact hs) (v:=.aJ) (w:=.aJ) .nil .nil aA (λk=>by have h1:=z2.bc.zM k;have h2:M.size*M.size<=1000*1000:=kH x x;show(ah (Z.C.R k))<=_;omega) (λo e=>(z2.bc.snd _ _ _ a a e).2)
   rw[y.n,r]at hO;have yC:Y.C=Z.C.off (s:Int) (s:Int) []:=yC;have yS:Y.S=Z.S:=yS;have y2:ph M Y.S Y.C Y.A (s:Int) ((s:Int)+1) 0 0:=by rw[yC,yS,yA];exact z2.WM O a
   have yn:=(y.trans y1).n.trans r;simp[-aK,j8, Z1,T, u,F,CV,hO];refine bB (λp:Nat×XM=>[(7,.int p.1)]) (λp=>mem p.2) (λp=>p.1<=ni/\Xe I p.2/\ph M p.2.S p.2.C p.2.A (s:Int) ((s:Int)+1) p.1 0/\∀q,ah (p.2.A q)<=s*J) (λp=>ni-p.1) (0,Y) bS ⟨aA,y.trans y1,y2,λq=>by rw[yA];exact z3 q⟩ ?_
   rintro⟨j,V⟩ ⟨j1,K,v2,v3⟩;dsimp only at j1 K v2 v3 ⊢
   by_cases hj:j<ni
   .have vf:=kE K.ok (K.n.trans r) (K.bx.trans b0)
    have XD:=vf.bx;rw[zU]at XD;have Oe:=bz (show(j:Int)<nn.aG by omega)
    have G:=ap4 (s:Int) (j:Int) ax ax ax ax
    have H:=O.ok.aH (s:Int) (j:Int) a.1 a.2 ax ax
    generalize htt:M.aH (s:Int) (j:Int)=t at *;obtain⟨h,rfl⟩:=fU H.1;obtain⟨U,hO,m,uS,uC,uA⟩:=zT (X:=V) (f:=ad) (s:=s) (t:=h) K.ok (by rw[K.n,r];exact hs) (by rw[K.n,r];omega) (v:=.aX ae [.int (M.ay+(j:Int))]) (w:=.aJ) (.aX ae [M.ay+(j:Int)]) .nil aA (λk=>by have h1:=v2.bs.zM k;have h2:M.size*M.size<=1000*1000:=kH x x;show(ah (V.S.R k))<=_;omega) (λo e=>(v2.bs.snd _ _ _ a ⟨ax,H.2⟩ e).2)
    rw[K.n,r,<-hc]at hO;have uS:U.S=V.S.off (s:Int) (h:Int) [M.ay+(j:Int)]:=uS;have uC:U.C=V.C:=uC;have u2:ph M U.S U.C U.A (s:Int) ((s:Int)+1) ((j+1:Nat):Int) 0:=by rw[uC,uS,uA,<-htt];exact v2.WN O a ax ax
    have Od : -9223372036854775808<=nn.ay+(j:Int)/\nn.ay+(j:Int)<=9223372036854775807:=ax
    simp[-aK,Oe,Dj,G,u,F,XD,hO,Od];exact⟨ax,a8 (j+1,U) aA rfl ⟨aR,K.trans m,u2,λq=>by rw[uA];exact v3 q⟩ aR⟩
   .have:j=ni:=by omega
    subst this;have Oe:=eG (show ¬(j:Int)<nn.aG by omega)
    simp[-aK,Oe];have v2:ph M V.S V.C V.A (s:Int) ((s:Int)+1) M.aG ((0:Nat):Int):=by rw[GD];exact v2
    refine bB (λp:Nat×XM=>[(10,.int p.1)]) (λp=>mem p.2) (λp=>p.1<=J/\Xe I p.2/\ph M p.2.S p.2.C p.2.A (s:Int) ((s:Int)+1) M.aG p.1/\∀q,ah (p.2.A q)<=s*J+p.1) (λp=>J-p.1) (0,V) bS ⟨aA,K,v2,λq=>by simpa using v3 q⟩ ?_
    rintro⟨k,U⟩ ⟨k1,m,u2,u3⟩;dsimp only at k1 m u2 u3 ⊢
    by_cases hk:k<J
    .have uf:=kE m.ok (m.n.trans r) (m.bx.trans b0)
     have Hg:=uf.bx;rw[zU]at Hg;have Q:=bz (show(k:Int)<nn.ay by omega)
     have G:=XQ (s:Int) (k:Int) ax ax ax ax
     have H:=O.ok.call (s:Int) (k:Int) a.1 a.2 ax ax
     have fT:=u2.WO ax ax ax
     generalize htt:M.call (s:Int) (k:Int)=tg at *;obtain⟨t,g⟩:=tg;dsimp only at G H fT;obtain⟨h,rfl⟩:=Int.eq_ofNat_of_zero_le H.1;have htN:h<U.N:=by rw[m.n,r];omega
     have W :=bz (show h<M.size by omega)
     have aE:=apR (X:=U) (t:=h) (c:=((s:Int),(k:Int),g)) m.ok;obtain⟨a1,a2,a3,a4,a5⟩:=apQ (X:=U) (t:=h) (c:=((s:Int),(k:Int),g));have w2:ph M (U.jM h ((s:Int),(k:Int),g)).S (U.jM h ((s:Int),(k:Int),g)).C (U.jM h ((s:Int),(k:Int),g)).A (s:Int) ((s:Int)+1) M.aG ((k+1:Nat):Int):=by rw[a3,a4,a5];exact fT
     have w3:∀q,ah ((U.jM h ((s:Int),(k:Int),g)).A q)<=s*J+(k+1):=λq=>by
      rw[a5];unfold lI;have:=u3 q;split
      .rw[bM];simp;omega
      .omega
     have c0:=uf.co;have c1:=Xy (X:=U);have c2:=Xz (X:=U) (t:=h) htN;rw[m.n,r]at c1 c2;have vH:=bz (show h+1<=M.size by omega)
     have mlY:num M.size (.dy (ah U.dyn))=ah (mem U):=by rw[r7,m.n,r];rfl
     have c7:=λ(B:aO)=>kA (τ:=[B]) c0;have fg:∀i,num M.size (.dy i) ≠ num M.size .co:=λi=>by
      show 4*M.size+10+i ≠ 4*M.size+8;omega
     have c8:=λ(i:Nat) (B:aO)=>Ga (σ:=mem U) (B:=B) (fg i);have cl:=Gc (l:=U.A (h:Int));have hlen:ah (U.A (h:Int))<=1073741823:=by have h3:=u3 h;have h4:s*J<=1000*64:=kH ax ax;omega
     by_cases hA:U.A (h:Int)=[]
     .have st:=apP (c:=((s:Int),(k:Int),g)) m.ok htN hA
      rw[m.n,r]at st;simp only[<-rh,mlY]at st;rw[if_pos hA]at c2;simp[-aK,Q,hfc,G,u,F,Hg,c0,c1,c2,W, vH,c7,st];exact⟨ax,a8 (k+1,U.jM h ((s:Int),(k:Int),g)) aA rfl ⟨aR,m.trans aE,w2,w3⟩ aR⟩
     .have st:=apO (c:=((s:Int),(k:Int),g)) m.ok htN hA
      rw[m.n,r]at st;simp only[<-rh]at st;rw[if_neg hA]at c2;have XR:=(Hh m.ok hA).2;rw[m.n,r]at XR;simp[-aK,Q,hfc,G,u,F,Hg,c0,c1,c2,W, vH,XR,cl,hlen,c8,st];exact⟨by simp[ba];omega,ax,a8 (k+1,U.jM h ((s:Int),(k:Int),g)) aA rfl ⟨aR,m.trans aE,w2,w3⟩ aR⟩
    .have:k=J:=by omega
     subst this;have Q:=eG (show ¬(k:Int)<nn.ay by omega)
     simp[-aK,Q];have u2:ph M U.S U.C U.A (s:Int) ((s:Int)+1) M.aG M.ay:=by rw[hnc];exact u2
     exact⟨ax,a8 (s+1,U) aA rfl ⟨aR,m,by have:=u2.next;exact this,λq=>by have:=u3 q;have:(s+1)*k=s*k+k:=Nat.succ_mul s k;dsimp only;omega⟩ aR⟩
  .have:s=M.size:=by omega
   subst this;simp[-aK];obtain⟨f1,f2⟩:=ph.fin O z2;exact⟨Z,by rw[y.n,r],rfl,y.ok,y.n.trans r,y.bx.trans b0,f1,f2,λp=>by have h3:=z3 p;have h4:M.size*J<=1000*64:=kH x ax;omega⟩
 obtain⟨_,_,h1,X,rfl,rfl,h2⟩:=dt main;exact⟨X,h1,h2⟩
end
def xr (o:Option ak) (e:Int):AV:=
 match o with
 |some w=>.bY [iL w,.bool ad,.int 0]
 |none=>.bY [.aX ae [],.bool ae,.int e]
def wo:Option ak->AV
 |none=>.aJ
 |some w=>.aX ad (w.map .int)
structure tQ (W:TO) (s:Int) (g:Int->Bool) (out:List PR) (i:Nat) (o:Option ak):Prop where
 no:o=ab->∀j:Nat,j<i->j<ah out->(ix out (j:Int)).1=s->g (ix out (j:Int)).2=ad->False
 so:∀w,o=aa w->∃t,(s,t)∈out/\g t=ad/\W s t=aa w/\∀(j:Nat) v,j<i->j<ah out->(ix out (j:Int)).1=s->g (ix out (j:Int)).2=ad->W s (ix out (j:Int)).2=aa v->dU w<=dU v
variable{g:Int->Bool}{out:List PR}{i:Nat}
def tQ.r4{W:TO}{s:Int}{o:Option ak}(h:tQ W s g out i o) (hk:(ix out (i:Int)).1=s->g (ix out (i:Int)).2=ad->∃w v,o=aa w/\W s (ix out (i:Int)).2=aa v/\dU w<=dU v):tQ W s g out (i+1) o:=by
 refine⟨λho j hj hl h1 h2=>?_,λw hw=>?_⟩
 .by_cases e:j=i
  .subst e
   obtain⟨w,_,h3,_⟩:=hk h1 h2;rw[ho]at h3;simp at h3
  .exact h.no ho j ax hl h1 h2
 .obtain⟨t,t1,t2,t3,t4⟩:=h.so w hw
  refine⟨t,t1,t2,t3,λj v hj hl h1 h2 h3=>?_⟩
  by_cases e:j=i
  .subst e
   obtain⟨w', v', k1,k2,k3⟩:=hk h1 h2;rw[hw]at k1;injection k1 with k1
   rw[h3]at k2;injection k2 with k2
   rw[k1,k2];exact k3
  .exact t4 j v ax hl h1 h2 h3
def tQ.put{W:TO}{s:Int}{o:Option ak}{a:ak}(h:tQ W s g out i o) (hm:(s,(ix out (i:Int)).2)∈out) (h2:g (ix out (i:Int)).2=ad) (hv:W s (ix out (i:Int)).2=aa a) (hb:∀w,o=aa w->dU a<=dU w):tQ W s g out (i+1) (aa a):=by
 refine⟨λho=>by simp at ho,λw hw=>?_⟩
 injection hw with hw
 subst hw;refine⟨_,hm,h2,hv,λj v hj hl k1 k2 k3=>?_⟩
 by_cases e:j=i
 .subst e
  rw[hv]at k3;injection k3 with k3
  rw[k3];exact bG _
 .cases o with
  |none=>exact absurd (h.no rfl j ax hl k1 k2) (λh=>h)
  |some w=>
   obtain⟨t,t1,t2,t3,t4⟩:=h.so w rfl;have:=t4 j v ax hl k1 k2 k3
   have:=hb w rfl;omega
def ap5{M:eZ}(a:M.Sm){s t:Int}{w:ak}(h:M.lk s t=aa w):ah w<=1024:=((rX a).1 h).1.2
mutual
theorem yp:∀x:AV,iz 0 x=x
 |.int _=>rfl
 |.ik _ _=>rfl
 |.bool _=>rfl
 |.str _=>rfl
 |.agg l=>by simp only[iz,sD l]
 |.bY l=>by simp only[iz,sD l]
 |.aJ=>rfl
 |.emp=>rfl
 |.rF=>rfl
 |.aX _ _=>rfl
 |.arr l=>by simp only[iz,sD l]
 |.sl _ _ _ _=>rfl
 |.jj=>rfl
 |.bN _=>rfl
 |.ptr _ _ _=>rfl
 |.lS=>rfl
 |.func _ l=>by simp only[iz,sD l]
 |.iR=>rfl
 |.iface _ v=>by simp only[iz,yp v]
 |.cZ _=>rfl
 |.aW=>rfl
theorem sD:∀l:ao,lR 0 l=l
 | []=>rfl
 |x::r=>by simp only[lR,yp x,sD r]
end
def Hi:∀es:List (AV×AV),HK 0 es=es
 | []=>rfl
 |(k,x)::r=>by simp only[HK,yp x,Hi r]
theorem XS:∀s:fR,pZ 0 s=s
 |.map es=>by simp only[pZ,Hi]
 |.live=>rfl
 |.jN=>rfl
 |.dead=>rfl
def XT (l:aq):l.map (gl 0)=l:=by
 have:∀B:aO,gl 0 B=B:=λB=>by unfold gl;rw[sD,XS]
 rw[fm λB _=>this B,List.map_id']
def Dx (row gs:List Bool) (t:Nat):Bool:=(af t).any λu=>ix row (u:Int)&&ix gs (u:Int)
variable{row gs:List Bool}
def ap6{t:Nat}:Dx row gs (t+1)=(Dx row gs t||(ix row (t:Int)&&ix gs (t:Int))):=by simp[Dx,kL]
def XU{n:Nat}:Dx row gs n=ad↔∃t:Int,(0<=t/\t<(n:Int))/\ix row t=ad/\ix gs t=ad:=by
 simp only[Dx,List.any_eq_true,cE,bd];constructor
 .rintro⟨u,b,a⟩
  exact⟨u,⟨ax,ax⟩,a⟩
 .rintro⟨t,⟨b,a⟩,d⟩
  exact⟨aj t,ax,by rw[show((aj t:Nat):Int)=t by omega];exact d⟩
section
variable{M:eZ}
def ap7 (H:M.Sm) (NW:1<=M.size) (sf:M.size<=1000){tt:Nat}{mv:AV}(J:GU tt mv M){nn:aS}(hc:nn.ay=M.ay) (ke : nn.aG=M.aG) (xY : nn.aM=M.aM){s:Nat}(hs:s<M.size){gs:List Bool}(hg:ah gs=M.size){q:Bool} :
  PC K4 [.iface tt mv,nn.av,.int s,.aX q (gs.map .bool)]=aa (xr (M.f1 s (ix gs)) (M.Du s (ix gs))):=by
 refine cB ?_;refine akz rfl ?_;have zC:=amT M H.ok tt mv J nn hc ke xY;have En:=J.loc;have Ng:=J.wk;have ZD:=Uq (M:=M);have iD:=ZD.row (s:=(s:Int)) ax ax
 have XV : (ah (ix (qP M) (s:Int)):Int)=(M.size:Int):=ax
 have hsl:=ZD.1;have j8 :=bz (show(s:Int)<(ah (qP M):Int)by omega)
 simp[-aK,zC,En,Ng,j8, XV];generalize xZ:ix (qP M) (s:Int)=row at *;refine bB (λt:Nat=>[(5,.int t),(8,.bool (Dx row gs t))]) (λ_=>[]) (λt=>t<=M.size) (λt=>M.size-t) 0 (by simp[fj,Dx]) aA ?_
 intro t t1
 try dsimp only at t1 ⊢
 by_cases L:t<M.size
 .have vH:=bz (show(t:Int)<(ah row:Int)by omega)
  have Im:=bz (show(t:Int)<(ah gs:Int)by omega)
  have e:=ap6 (row:=row) (gs:=gs) (t:=t);cases z:Dx row gs t<;>cases I:ix row (t:Int)<;>cases O:ix gs (t:Int)<;>rw[z,I,O]at e<;>simp at e<;>simp[-aK,L,vH,Im,z,I,O]<;>exact⟨ax,a8 (t+1) fX rfl ax ax⟩
 .have:t=M.size:=by omega
  subst this;have hps:Dx row gs M.size=ad↔∃t,cy M t/\ix gs t=ad/\gA M (s:Int) t:=by
   rw[XU];constructor
   .rintro⟨t,z,I,O⟩
    exact⟨t,z,O,(LD ax ax z.1 z.2).1 (by rw[xZ];exact I)⟩
   .rintro⟨t,z,O,I⟩
    exact⟨t,z,by rw[<-xZ];exact(LD ax ax z.1 z.2).2 I,O⟩
  obtain⟨X,hX1,xo,xn,xb,xl,xa,xA⟩:=ap3 H NW sf J hc ke xY;have xs0:=XT (mem X);have xv0:=yp (.ptr (num X.N .bx) (ba (aa 14)) 0);cases hp:Dx row gs M.size with
  |false=>
   have fg:¬∃t,cy M t/\ix gs t=ad/\gA M (s:Int) t:=λh=>by rw[hps.2 h]at hp;simp at hp
   have hf:M.f1 (s:Int) (ix gs)=ab:=WR H λt L E=>by
    cases e:M.lk (s:Int) t with
    |none=>rfl
    |some w=>exact absurd ⟨t,L,E,((rX H).1 e).1.1.conn⟩ fg
   have hE:M.Du (s:Int) (ix gs)=0:=by unfold eZ.Du;rw[aC λh=>fg h.1]
   rw[hf,hE];simp[-aK,hp,xr]
  |true=>
   have hex:=hps.1 hp;simp[-aK,hp,En,hX1,xs0,xv0];have XW:cy M (s:Int):=⟨ax,ax⟩
   refine bB (λp:Nat×XM=>[(11,.int p.1)]) (λp=>mem p.2) (λp=>p.1<=1025/\Xe X p.2/\p.2.A=X.A/\Am M p.1 p.2.S p.2.C/\∀t,cy M t->ix gs t=ad->∀w,M.lk (s:Int) t=aa w->p.1<=ah w) (λp=>1025-p.1) (0,X) bS ⟨aA,.refl xo,rfl,xl,λ_ _ _ _ _=>Nat.zero_le _⟩ ?_
   rintro⟨n,Z⟩ ⟨n1,z1,z2,z3,z4⟩;dsimp only at n1 z1 z2 z3 z4 ⊢
   by_cases hn:n<1025
   .have mz :=bz (show(n:Int)<1025 by omega)
    obtain⟨Y,D,out,hL,y1,y2,yd,y3,yl,ym⟩:=apM H sf J hc ke xY z1.ok (z1.n.trans xn) (z1.bx.trans xb) (by rw[z2];exact xa) (by rw[z2];exact xA) hn z3
    have yx:=z1.trans y1;rw[z1.n]at hL;have yf:=kE yx.ok yx.n (yx.bx.trans xb);have m:=Gd yx.ok yx.n yd;have m:aQ (mem Y) (num X.N (.dy D))=aa ⟨aa 2,tN out,if out=[]then .jN else .live⟩:=m
    have Q:=tP (l:=out);have F:=yf.bx;have zU:pS tt mv nn=[.iface tt mv,.int nn.ay,.int nn.aG,.int nn.aM,.int nn.aL,.int nn.aF,bL nn.az,bU nn.call,bU nn.push,bU nn.aH,dw nn.aP]:=rfl;rw[zU]at F;simp[-aK,mz, hL];refine bB (λp:Nat×Option ak=>[(14,.int p.1),(18,.bool p.2.isSome),(20,wo p.2)]) (λ_=>mem Y) (λp=>p.1<=ah out/\tQ Y.C.W s (ix gs) out p.1 p.2) (λp=>ah out-p.1) (0,ab) (by simp[fj,wo]) ⟨aA,λ_ j hj=>ax,λw h=>fE⟩ ?_
    rintro⟨i,o⟩ ⟨i1,i2⟩;dsimp only at i1 i2 ⊢
    by_cases hi:i<ah out
    .have ng:out ≠ []:=by intro e;rw[e]at hi;simp at hi
     rw[aC ng]at m;have p2:=λ(K:AV->Prop) (t:Tk K)=>Gb (l:=out) (i:=i) (K:=K) (t:=t) hi;have lD:=bh (l:=out) (n:=(i:Int)) ax ax
     obtain⟨⟨⟨s0,s1⟩,t0,t1⟩,a,ha,lB,G⟩:=(ym (ix out (i:Int)).1 (ix out (i:Int)).2).1 lD;generalize hP:ix out (i:Int)=P at *;obtain⟨u,hu⟩:=fU s0;obtain⟨v,hv⟩:=fU t0;have hun:u<X.N:=ax
     have Oq:v<X.N:=ax
     have r :=eq_true hun;have x :=eq_true Oq;have XA:P=((u:Int),(v:Int)):=Prod.ext hu hv;subst XA;dsimp only at p2 ha G;have w2:aQ (mem Y) (num X.N (.wr ae u))=aa ⟨ab,iE X.N Y.C.W u,.live⟩:=yf.wr ae u hun;have w5:=xj (s:=u) (N:=X.N) (W:=Y.C.W);have w6:=xk (s:=u) (N:=X.N) (W:=Y.C.W) Oq;rw[G]at w6;have w6:lU (iE X.N Y.C.W u) v=aa (.aX ad (a.map .int)):=w6;have w9:=yf.wo ae;have R:=re (N:=X.N) (g:=.wr ae);have T:=rf (N:=X.N) (g:=.wr ae) hun;have U:=yf.box ae;have V:=eq_true (show(v:Int)<(ah gs:Int)by omega)
     by_cases XX:(u:Int)=(s:Int)
     .have GB:∀o2,tQ Y.C.W (s:Int) (ix gs) out (i+1) o2->(i+1<=ah out/\tQ Y.C.W (s:Int) (ix gs) out (i+1) o2):=λo2 h=>⟨ax,h⟩
      have b :=bz XX;rw[XX]at ha G;have asy:=((rX H).1 ha).1.1.sy H;cases B:ix gs (v:Int)with
      |false=>
       simp[-aK,hi,m,Q,↓p2,F,w2,w5,w6,w9,R,T,U,r, x, V,b, B];exact⟨ax,a8 (i+1,o) aA rfl (GB o (i2.r4 (by rw[hP];intro _ h;rw[B]at h;simp at h))) aR⟩
      |true=>
       have rE : ((s:Int),(v:Int))∈out:=by rw[<-XX];exact lD
       cases o with
       |none=>
        have y:(ab:Option ak).isSome=ae:=rfl;simp[-aK,hi,m,Q,↓p2,F,w2,w5,w6,w9,R,T,U,r, x, V,b, B,y];exact⟨ax,a8 (i+1,aa a) (by simp[wo]) rfl (GB _ (i2.put (by rw[hP];exact rE) (by rw[hP];exact B) (by rw[hP];exact G) (λw h=>fE))) aR⟩
       |some w=>
        have y:(aa w:Option ak).isSome=ad:=rfl;have Om:wo (aa w) = .aX ad (w.map .int):=rfl;obtain⟨t', z,I,O,h4⟩:=i2.so w rfl;obtain⟨⟨_,od⟩,a', ha1,ha2,d⟩:=(ym (s:Int) t').1 z;rw[O]at d;injection d with d;subst d
        have wsy:=((rX H).1 ha1).1.1.sy H;have Dn:=zz a w ax ax
        have Dn:PC oP [.aX ae (a.map .int),.aX ae (w.map .int)]=aa (.int (bD a w)):=Dn
        by_cases cw:bD a w<0
        .have Nj :=bz cw
         simp[-aK,hi,m,Q,↓p2,F,w2,w5,w6,w9,R,T,U,r, x, V,b, B,y,Om,Dn,Nj];have hr:=Ml asy wsy cw;exact⟨ax,a8 (i+1,aa a) (by simp[wo]) rfl (GB _ (i2.put (by rw[hP];exact rE) (by rw[hP];exact B) (by rw[hP];exact G) (λw' h=>by injection h with h;rw[<-h];omega))) aR⟩
        .have Nj :=eG cw
         simp[-aK,hi,m,Q,↓p2,F,w2,w5,w6,w9,R,T,U,r, x, V,b, B,y,Om,Dn,Nj];have hr:dU w<=dU a:=(xc wsy asy).1 (by have:=dO.gV a w;omega)
         exact⟨ax,a8 (i+1,aa w) (by simp[wo]) rfl (GB _ (i2.r4 (by rw[hP];exact λ_ _=>⟨w,a,rfl,G,hr⟩))) aR⟩
     .have b :=eG XX
      simp[-aK,hi,m,Q,↓p2,F,w2,w5,w6,w9,R,T,U,r, x, V,b];exact⟨ax,a8 (i+1,o) aA rfl ⟨aR,i2.r4 (by rw[hP];intro h;exact absurd h XX)⟩ aR⟩
    .have:i=ah out:=by omega
     subst this;have idx:∀t,(((s:Int),t)∈out)->∃j:Nat,j<ah out/\ix out (j:Int)=((s:Int),t):=λt h=>by
      obtain⟨j,hj,e⟩:=fY.1 h;exact⟨j,hj,by rw[bt hj,e]⟩
     have Ge:∀t,cy M t->∀w,M.lk (s:Int) t=aa w->ah w=n->(((s:Int),t)∈out)/\Y.C.W (s:Int) t=aa w:=λt L w hw hl=>by
      have:=(y3.c.fin XW L hw ax).2
      exact⟨(ym (s:Int) t).2 ⟨⟨XW,L⟩,w,hw,hl,this⟩,this⟩
     cases o with
     |none=>
      have y:(ab:Option ak).isSome=ae:=rfl;simp[-aK,y];refine⟨ax,a8 (n+1,Y) aA rfl ⟨aR,yx,y2.trans z2,y3,λt L E w hw=>?_⟩ aR⟩
      have z:=z4 t L E w hw;refine Classical.byContradiction λfg=>?_;obtain⟨I,O⟩:=Ge t L w hw (by dsimp only at fg;omega)
      obtain⟨j,hj,e⟩:=idx t I;exact i2.no rfl j hj hj fk (by rw[e];exact E)
     |some w=>
      have y:(aa w:Option ak).isSome=ad:=rfl;have Om:wo (aa w) = .aX ad (w.map .int):=rfl;obtain⟨t', z,I,O,h4⟩:=i2.so w rfl;obtain⟨⟨_,od⟩,a', ha1,ha2,d⟩:=(ym (s:Int) t').1 z;rw[O]at d;injection d with d;subst d
      have hf:=aoS H z4 od I ha1 ha2 λu v hu hgu hv hl=>by
       obtain⟨k1,k2⟩:=Ge u hu v hv hl;obtain⟨j,hj,e⟩:=idx u k1;exact h4 j v hj hj fk (by rw[e];exact hgu) (by rw[e];exact k2)
      have sN:PC pL [.aX ae (w.map .int)]=aa (.aX ae (w.map .int)):=L4 w ax
      rw[hf];simp[-aK,y,Om,sN,xr]
   .have:n=1025:=by omega
    subst this;have hf:M.f1 (s:Int) (ix gs)=ab:=WR H λt L E=>by
     cases e:M.lk (s:Int) t with
     |none=>rfl
     |some w=>
      have z:=z4 t L E w e;have I:=ap5 H e;omega
    have hE:M.Du (s:Int) (ix gs)=3:=by unfold eZ.Du;rw[aD ⟨hex,hf⟩]
    rw[hf,hE];simp[-aK,xr]
end
end Ab
namespace Ab
def XY{n:aS}{K:Int}(h:n.Lp K):n.bZ.Sm:=⟨rR h,by have:=h.syms;show n.ay+n.aG+n.aM<=64;omega⟩
def ap8{n:aS}(a:n.bI=0){s t:Int}{w:ak}(h:Wd n.bZ s t w) (j:ah w<=1024):n.matched w=ad/\n.word w/\n.up w/\(n.run s w).1=t:=by
 have ok:=oR a;have e:=ok.syms;obtain⟨b,d,g⟩:=(B4 ok).1 h;refine⟨?_,⟨ax,b⟩,GQ (GR d).1,g⟩
 have i:iZ w n.syms=0:=by
  unfold iZ aS.syms;rw[aC ax,aC ax,aC (by rw[BV.2 b];simp)]
 simp[aS.matched,a,i,d]
def aS.cs (n:aS):ao:=[.int n.ay,.int n.aG,.int n.aM,.int n.aL,.int n.aF,bL n.az,bU n.call,bU n.push,bU n.aH,dw n.aP]
def vM (a b:aS):AV:=.agg [.int a.ay,.int a.aG,.int a.aM,.int a.aL,.int a.aF,bL a.az,bU a.call,bU a.push,bU a.aH,dw a.aP,.int b.ay,.int b.aG,.int b.aM,.int b.aL,.int b.aF,bL b.az,bU b.call,bU b.push,bU b.aH,dw b.aP]
section
variable{a b:aS}
def XZ (h:fQ a b):PC oO [vM a b]=aa (.int ((dz a b).bZ.size:Int)):=by
 refine cB (akx rfl ?_);have d:(dz a b).bZ.size=ah a.az*ah b.az:=by show(ah (dz a b).az)=_;exact CK
 have e:=wR a;have g:=wR b;have j:=h.n;have i:((ah a.az:Int)*(ah b.az:Int))=((ah a.az*ah b.az:Nat):Int):=by rw[kW]
 rw[d];simp[-aK,vM,e,g];rw[i];omega
def Gh (h:fQ a b){s:Nat}(i:s<kS a b):PC ze [vM a b,.int s]=aa (.bY [.int ((s/gH b:Nat):Int),.int ((s%gH b:Nat):Int)]):=by
 refine cB (aky rfl ?_);have j:=wR b;have g:=h.k;have l:¬b.az=[]:=λe=>by rw[e]at g;simp at g
 have m:((s/gH b:Nat):Int)=(s:Int)/(ah b.az:Int):=by unfold gH;exact Int.natCast_ediv _ _
 have o:((s%gH b:Nat):Int)=(s:Int).tmod (ah b.az:Int):=rfl;have hle:s/gH b<=s:=Nat.div_le_self _ _;have q:=h.n;have p:s<ah a.az*ah b.az:=i;generalize s/gH b=x at *;generalize s%gH b=y at *;have d : -9223372036854775808<=(x:Int)/\(x:Int)<=9223372036854775807:=ax
 simp[-aK,vM,j,l,d,<-m,<-o]
def ap9 (h:fQ a b){s:Nat}(q:s<kS a b){c:Int}(d:0<=c) (l:c<a.ay):PC za [vM a b,.int s,.int c]=aa (.bY [.int ((dz a b).bZ.call s c).1,.int ((dz a b).bZ.call s c).2]):=by
 refine cB (ald rfl ?_);have r:=wR b;have e:=Gh h q;have m:=WT h (s:=(s:Int)) (c:=c) ax ax d l
 obtain⟨i,j⟩:=h.xy (s:=(s:Int)) ax ax
 rw[jT]at m i j;generalize s/gH b=x at *;generalize s%gH b=y at *;have ra:=h.oa.row (x:Int) ax i
 have D:=h.ob.row (y:Int) ax j
 have E:=h.oa.lens;have F:=h.ob.lens;have u:=h.c;have w:=Lr a x c ax ax ax d ax ax
 have z:=Lr b y c ax ax ax d ax ax
 have o:=h.oa.call (x:Int) c ax i d l
 have cb:=h.ob.call (y:Int) c ax j d ax
 have p:=h.oa.push (x:Int) c ax i d l
 have A:=h.ob.push (y:Int) c ax j d ax
 have b1:=qZ o cb;have G:=qZ p A;have H:=pH o.1 (show 0<=(ah b.az:Int)by omega)
 have I:=pH p.1 (show 0<=b.aL by have:=h.ob.aL;omega)
 have J:=h.n;have K:=h.g;have B:((ah a.az:Int)*(ah b.az:Int))=((ah a.az*ah b.az:Nat):Int):=by rw[kW]
 rw[B]at b1;have C:(gH b:Int)=(ah b.az:Int):=rfl;rw[m,C];unfold vM at e ⊢;simp[-aK,e,w,z,r];generalize ix (ix a.call (x:Int)) c*(ah b.az:Int)=L at *;generalize ix (ix a.push (x:Int)) c*b.aL=M at *;omega
def aqa (h:fQ a b){s:Nat}(p:s<kS a b){c:Int}(d:0<=c) (l:c<a.aG):PC y9 [vM a b,.int s,.int c]=aa (.int ((dz a b).bZ.aH s c)):=by
 refine cB (ale rfl ?_);have q:=wR b;have e:=Gh h p;have m:=WU h (s:=(s:Int)) (c:=c) ax ax d l
 obtain⟨g,j⟩:=h.xy (s:=(s:Int)) ax ax
 rw[jT]at m g j;generalize s/gH b=x at *;generalize s%gH b=y at *;have ra:=h.oa.row (x:Int) ax g
 have B:=h.ob.row (y:Int) ax j
 have C:=h.oa.lens;have D:=h.ob.lens;have r:=h.i;have u:=Ls a x c ax ax d ax
 have w:=Ls b y c ax ax d ax
 have o:=h.oa.aH (x:Int) c ax g d l
 have cb:=h.ob.aH (y:Int) c ax j d ax
 have b1:=qZ o cb;have E:=pH o.1 (show 0<=(ah b.az:Int)by omega)
 have F:=h.n;have z:((ah a.az:Int)*(ah b.az:Int))=((ah a.az*ah b.az:Nat):Int):=by rw[kW]
 rw[z]at b1;have A:(gH b:Int)=(ah b.az:Int):=rfl;rw[m,A];unfold vM at e ⊢;simp[-aK,e,u,w,q];generalize ix (ix a.aH (x:Int)) c*(ah b.az:Int)=G at *;omega
def aqb (h:fQ a b){s:Nat}(C:s<kS a b){g:Nat}(q:(g:Int)<a.aL*b.aL){r:Int}(i:0<=r) (w:r<a.aM):PC zb [vM a b,.int s,.int g,.int r]=aa (.int ((dz a b).bZ.aP s g r)):=by
 refine cB (alf rfl ?_);have D:=wR b;have j:=Gh h C;have z:=WV h (s:=(s:Int)) (g:=(g:Int)) (r:=r) ax ax ax q i w
 obtain⟨l,m⟩:=h.xy (s:=(s:Int)) ax ax
 obtain⟨d,e⟩:=h.gh (g:=(g:Int)) ax q
 have E:=h.ob.aL;obtain⟨k,A⟩:=fU (show 0<=b.aL by omega)
 simp only[jT]at z l m d e;have F:((g/aj b.aL:Nat):Int)=(g:Int)/b.aL:=by rw[A];exact Int.natCast_ediv _ _
 have G:((g%aj b.aL:Nat):Int)=(g:Int).tmod b.aL:=by rw[A];rfl
 have hle:g/aj b.aL<=g:=Nat.div_le_self _ _;generalize s/gH b=x at *;generalize s%gH b=y at *;generalize g/aj b.aL=u at *;generalize g%aj b.aL=v at *;have ra:=h.oa.row (x:Int) ax l
 have M:=h.ob.row (y:Int) ax m
 have N:=h.oa.lens;have O:=h.ob.lens;have P:=h.oa.zp (x:Int) (u:Int) ax l ax d
 have Q:=h.ob.zp (y:Int) (v:Int) ax m ax e
 have H:=h.r;have I:=Lt a x u r ax ax ax ax i ax
 have J:=Lt b y v r ax ax ax ax i ax
 have B:=h.oa.aP (x:Int) (u:Int) r ax l ax d i w
 have cb:=h.ob.aP (y:Int) (v:Int) r ax m ax e i ax
 have b1:=qZ B cb;have R:=pH B.1 (show 0<=(ah b.az:Int)by omega)
 have S:=h.n;have T:=h.g;have K:((ah a.az:Int)*(ah b.az:Int))=((ah a.az*ah b.az:Nat):Int):=by rw[kW]
 rw[K]at b1;have L:(gH b:Int)=(ah b.az:Int):=rfl;rw[z,L];have o:¬b.aL=0:=ax
 have p : -9223372036854775808<=(u:Int)/\(u:Int)<=9223372036854775807:=ax
 unfold vM at j ⊢;simp[-aK,j,I,J,D,<-F,<-G,o,p];generalize ix (ix (ix a.aP (x:Int)) (u:Int)) r*(ah b.az:Int)=U at *;omega
def aqc (h:fQ a b):GU jY (vM a b) (dz a b).bZ:=by
 have p:(((dz a b).bZ.size:Nat):Int)=((kS a b:Nat):Int):=by show((ah (dz a b).az:Nat):Int)=_;rw[CK];rfl
 refine⟨by simp[vM],by simp[vM],⟨oO,rfl,XZ h⟩,⟨za,rfl,λs c d l e i=>?_⟩,⟨y9,rfl,λs c d l e i=>?_⟩,⟨zb,rfl,λs c u r d l e i m q n o=>?_⟩⟩
 .obtain⟨s,rfl⟩:=fU d
  exact ap9 h ax e i
 .obtain⟨s,rfl⟩:=fU d
  exact aqa h ax e i
 .have j:=(WS h).push s c d l e i
  have j:0<=((dz a b).bZ.call s c).2/\((dz a b).bZ.call s c).2<a.aL*b.aL:=j;generalize ((dz a b).bZ.call s c).2=g at *;obtain⟨u,rfl⟩:=fU m;obtain⟨g,rfl⟩:=fU j.1;exact aqb h ax j.2 n o
end
def CW:∀{xs:List Bool},chunk ab (ah xs) (xs.map AV.bool)=xs.map .bool
 | []=>rfl
 |x::xs=>by
  have e:=CW (xs:=xs);simp only[cT,da,chunk,e]
def aqd{vars:ao}{i:Option (Nat×AV)}{ws:List Bool}{k:Nat}{Q:Ex->St->Prop}(n:nth vars k = .sl 0 (ah ws) 0 (ah ws)) (h:Q .fe ⟨eY vars k (.aX ad (ws.map .bool)),i,[⟨ab,ws.map .bool,.dead⟩]⟩):W L (.km k) ⟨vars,i,[⟨ab,ws.map .bool,.live⟩]⟩ Q:=by
 have a:∀(l:List Bool) (d:aq) (acc:List Nat),(l.map AV.bool).foldl (λacc y=>reach d 11 y acc) acc=acc:=λl=>by
  induction l with
  |nil=>intro _ _;rfl
  |cons x l o=>intro d acc;simp only[da,my];exact o d acc
 have p:reach [⟨ab,ws.map .bool,.live⟩] vd (.sl 0 (ah ws) 0 (ah ws)) []=[0]:=by
  show reach [⟨ab,ws.map .bool,.live⟩] (11+1) (.sl 0 (ah ws) 0 (ah ws)) []=[0];unfold reach;simp only[List.contains_nil,ff,fv,aQ];exact a ws _ [0]
 have j:upto [⟨ab,ws.map .bool,.live⟩] 0 (ah ws)=aa ⟨ab,ws.map .bool,.live⟩:=by
  unfold upto;simp[aQ]
 have q:view [⟨ab,ws.map .bool,.live⟩] ae vd (.sl 0 (ah ws) 0 (ah ws))=aa (bL ws):=by
  show view _ ae (11+1) _=_;unfold view;simp only[j];simp only[ba,mG,gQ,Nat.mul_one];have e:∀m,cu (view m ae 11) (ws.map AV.bool)=aa (ws.map AV.bool):=λm=>zr (f:=AV.bool) (g:=AV.bool) λ_ _=>rfl;rw[aD aA,CW,e]
 have r:fJ [⟨ab,ws.map .bool,.live⟩] (.sl 0 (ah ws) 0 (ah ws))=ad:=by
  simp only[fJ,j]
 refine⟨0,.fe,_,?_,h⟩;simp only[exec,n,p];have hd:bR (λb=>!([0]:List Nat).contains b) 0 [⟨ab,ws.map .bool,.live⟩]=[⟨ab,ws.map .bool,.live⟩]:=by simp[bR]
 rw[hd,q];simp only[r];simp[bR]
def Dy (a b:aS) (i:Nat):List Bool:=(af (kS a b)).map λk=>decide (k<i)&&qX a b k
variable{i:Nat}
def X0{a b:aS}:ah (Dy a b i)=kS a b:=by simp[Dy]
def X2{a b:aS}:(Dy a b 0).map AV.bool=ag (kS a b) (.bool ae):=by
 rw[<-xq];simp[Dy]
def X3{a b:aS}:Dy a b (kS a b)=(dz a b).az:=by
 show _=(af (kS a b)).map (qX a b);refine fm λk d=>?_;rw[qv (cE.1 d)];rfl
def X4{a b:aS}(d:i<kS a b):(Dy a b i).set i (qX a b i)=Dy a b (i+1):=by
 apply gF
 .simp[Dy]
 .intro j g h
  rw[jm];simp only[Dy,gq,jn]
  by_cases e:i=j
  .subst e;simp
  .rw[aC e]
   congr 1
   rw[decide_eq_decide];omega
def vu (e:Int):AV:=.bY [.aX ae [],.bool ae,.int e]
noncomputable def Ot (a b:aS):AV:=if a.bI ≠ 0 then vu a.bI else if b.bI ≠ 0 then vu b.bI else if a.ay ≠ b.ay\/a.aG ≠ b.aG\/a.aM ≠ b.aM then vu 15 else xr ((dz a b).bZ.f1 (dz a b).aF (ix (dz a b).az)) ((dz a b).bZ.Du (dz a b).aF (ix (dz a b).az))
def Ou (a b:aS):Prop:=a.Ok->b.Ok->ah a.az*ah b.az<=128/\a.aL*b.aL<=1024
def X5{a b:aS}(d:a.Ok) (e:b.Ok) (g:Ou a b) (h:a.ay=b.ay) (i:a.aG=b.aG) (j:a.aM=b.aM):fQ a b:=
 ⟨d,e,h.symm,i.symm,j.symm,(g d e).1,(g d e).2⟩
def aqe (a b:aS) (h:a.fits) (h' : b.fits) (hB:Ou a b):PC EH [a.av,b.av]=aa (Ot a b):=by
 refine cB (aj3 rfl ?_);have e1:=zn a h;have e2:=zn b h';unfold Ot
 by_cases hv:a.bI=0
 case neg=>simp[-aK,e1,hv,vu]
 by_cases hw:b.bI=0
 case neg=>simp[-aK,e1,e2,hv,hw,vu]
 by_cases hx:a.ay ≠ b.ay\/a.aG ≠ b.aG\/a.aM ≠ b.aM
 .rw[aC mE,aC (by simpa using hw),aD hx]
  have key:∀p q r:Prop,(p->q->r->False)->(p=True/\q=True/\r=False)\/(p=True/\q=False)\/p=False:=λp q r h=>by
   by_cases hp:p<;>by_cases hq:q<;>by_cases hr:r<;>simp[hp,hq,hr]
   exact absurd (h hp hq hr) id
  rcases key (a.ay=b.ay) (a.aG=b.aG) (a.aM=b.aM) (λc1 c2 c3=>by rcases hx with hx|hx|hx;exact hx c1;exact hx c2;exact hx c3)with⟨c1,c2,c3⟩|⟨c1,c2⟩|c1
  .simp[-aK,e1,e2,hv,hw,c1,c2,c3,vu]
  .simp[-aK,e1,e2,hv,hw,c1,c2,vu]
  .simp[-aK,e1,e2,hv,hw,c1,vu]
 rw[aC mE,aC (by simpa using hw),aC hx]
 have c1:a.ay=b.ay:=dP λh=>hx (.inl h);have c2:a.aG=b.aG:=dP λh=>hx (.inr (.inl h));have c3:a.aM=b.aM:=dP λh=>hx (.inr (.inr h));have oa:=oR hv;have ob:=oR hw;have hp:=X5 oa ob hB c1 c2 c3;have sf:=XZ hp;have hn:=hp.n;have hg:=hp.g;have hm:((ah a.az:Int)*(ah b.az:Int))=((ah a.az*ah b.az:Nat):Int):=by rw[kW]
 have l1:¬(144:Int)<(ah a.az:Int)*(ah b.az:Int):=ax
 have l2:¬(1024:Int)<a.aL*b.aL:=ax
 have l3 : -9223372036854775808<=(ah a.az:Int)*(ah b.az:Int)/\(ah a.az:Int)*(ah b.az:Int)<=9223372036854775807:=ax
 have gp:=pH (show 0<=a.aL by have:=oa.aL;omega) (show 0<=b.aL by have:=ob.aL;omega)
 have l4 : -9223372036854775808<=a.aL*b.aL/\a.aL*b.aL<=9223372036854775807:=ax
 have hN:(((dz a b).bZ.size:Nat):Int)=((kS a b:Nat):Int):=by show((ah (dz a b).az:Nat):Int)=_;rw[CK];rfl
 rw[hN]at sf;unfold vM at sf;have d1:=bz c1;have d2:=bz c2;have d3:=bz c3;clear hx;simp[-aK,e1,e2,hv,hw,d1,d2,d3,l1,l2,l3,l4,sf];refine⟨by unfold kS;omega,?_⟩
 refine bB (λi:Nat=>[(8,.int i)]) (λi=>[⟨ab,(Dy a b i).map .bool,.live⟩]) (λi=>i<=kS a b) (λi=>kS a b-i) 0 (by rw[X2];rfl) aA ?_
 intro i i1
 by_cases hi:i<kS a b
 .have N3:=Gh hp hi
  unfold vM at N3;obtain⟨hx,hy⟩:=hp.xy (s:=(i:Int)) ax ax
  rw[jT]at hx hy;have fT:=X4 hi;have hlen:=X0 (a:=a) (b:=b) (i:=i);have hpa:qX a b i=(ix a.az ((i/gH b:Nat):Int) != ix b.az ((i%gH b:Nat):Int)):=rfl;generalize i/gH b=x at *;generalize i%gH b=y at *;have lh :=bz hx;have tZ :=bz hy;have ke :=bz hi;rw[hpa]at fT;simp[-aK,hi,N3,lh, tZ, hlen];exact⟨by unfold kS at *;omega,a8 (i+1) aA (by rw[<-fT,List.map_set];rfl) ax ax⟩
 .have:i=kS a b:=by omega
  subst this;have X6:=WS hp;have hpn:ah (dz a b).az=kS a b:=CK;have hss:=X6.eC;have fT:=X6.aF;obtain⟨s,hs⟩:=fU fT.1;have hf:=ap7 (XY X6) (by show 1<=ah (dz a b).az;omega) (by show(ah (dz a b).az)<=1000;omega) (aqc hp) (nn:=a) rfl rfl rfl (s:=s) (by show s<ah (dz a b).az;omega) (gs:=(dz a b).az) rfl (q:=ae)
  rw[<-hs]at hf;have zD:(dz a b).aF=a.aF*(ah b.az:Int)+b.aF:=rfl;have e3:=wR b;have b3:=pH oa.aF.1 (show 0<=(ah b.az:Int)by omega)
  have bb:=ob.aF;have bd1 : -9223372036854775808<=a.aF*(ah b.az:Int)/\a.aF*(ah b.az:Int)<=9223372036854775807:=ax
  have bd2 : -9223372036854775808<=a.aF*(ah b.az:Int)+b.aF/\a.aF*(ah b.az:Int)+b.aF<=9223372036854775807:=ax
  simp[-aK];refine aqd (by simp[X0]) ?_
  rw[X3];unfold vM at hf;cases hm:(dz a b).bZ.f1 (dz a b).aF (ix (dz a b).az)with
  |none=>rw[hm]at hf;rw[zD]at hf ⊢;simp[-aK,hf,e3,bd1,bd2,xr]
  |some w=>rw[hm]at hf;rw[zD]at hf ⊢;simp[-aK,hf,e3,bd1,bd2,xr]
section
variable{a b:aS}
variable{x y:Int}
def X7 (h:fQ a b)(g:0<=x/\x<(ah a.az:Int)) (d:0<=y/\y<(ah b.az:Int)):ix (dz a b).az (pr b x y)=(ix a.az x != ix b.az y):=by
 have i:=vm h g d;obtain⟨j,l⟩:=yj g.1 d.1 d.2;have e:ix (dz a b).az (pr b x y)=qX a b (aj (pr b x y)):=fb i.1 i.2;rw[e];unfold qX;rw[j,l]
def aqf (h:fQ a b){l:Int}{w:ak}(m:0<=y/\y<(ah b.az:Int)) (k:Wd a.bZ x l w):∃e, (0<=e /\e < (ah b.az:Int))/\Wd b.bZ y e w:=by
 have g:=h.oa;have d:=h.ob;obtain⟨n,o,_⟩:=(rT (M:=a.bZ) ⟨g.ay.1,g.aG.1,g.aM.1⟩).1 k;have ec:b.bZ.ay=a.bZ.ay:=h.c;have ei:b.bZ.aG=a.bZ.aG:=h.i;have p:b.bZ.aM=a.bZ.aM:=h.r;have j:=(rT (M:=b.bZ) (s:=y) (w:=w) ⟨d.ay.1,d.aG.1,d.aM.1⟩).2 ⟨by rw[ec,ei,p];exact n,by rw[ec,ei];exact o,rfl⟩
 exact⟨_,j.range (rR d) m,j⟩
def aqg (h:fQ a b){x y l : Int}{w:ak}(m:0<=x/\x<(ah a.az:Int)) (k:Wd b.bZ y l w):∃e, (0<=e /\e < (ah a.az:Int))/\Wd a.bZ x e w:=by
 have d:=h.oa;have g:=h.ob;obtain⟨n,o,_⟩:=(rT (M:=b.bZ) ⟨g.ay.1,g.aG.1,g.aM.1⟩).1 k;have ec:b.bZ.ay=a.bZ.ay:=h.c;have ei:b.bZ.aG=a.bZ.aG:=h.i;have p:b.bZ.aM=a.bZ.aM:=h.r;have j:=(rT (M:=a.bZ) (s:=x) (w:=w) ⟨d.ay.1,d.aG.1,d.aM.1⟩).2 ⟨by rw[<-ec,<-ei,<-p];exact n,by rw[<-ec,<-ei];exact o,rfl⟩
 exact⟨_,j.range (rR d) m,j⟩
def aqh (a b:aS) (hB:Ou a b):(∃e:Int,e ≠ 0/\Ot a b = .bY [.aX ae [],.bool ae,.int e])\/(fQ a b/\a.bI=0/\b.bI=0/\(((dz a b).bZ.f1 (dz a b).aF (ix (dz a b).az)=ab/\(dz a b).bZ.Du (dz a b).aF (ix (dz a b).az)=0/\Ot a b = .bY [.aX ae [],.bool ae,.int 0])\/∃w,(dz a b).bZ.f1 (dz a b).aF (ix (dz a b).az)=aa w/\Ot a b = .bY [iL w,.bool ad,.int 0])):=by
 unfold Ot
 by_cases hv:a.bI=0
 case neg=>rw[aD hv];exact .inl ⟨_,hv,rfl⟩
 by_cases hw:b.bI=0
 case neg=>rw[aC mE,aD hw];exact .inl ⟨_,hw,rfl⟩
 by_cases hx:a.ay ≠ b.ay\/a.aG ≠ b.aG\/a.aM ≠ b.aM
 .rw[aC mE,aC (by simpa using hw),aD hx]
  exact .inl ⟨15,aA,rfl⟩
 rw[aC mE,aC (by simpa using hw),aC hx]
 have c1:a.ay=b.ay:=dP λh=>hx (.inl h);have c2:a.aG=b.aG:=dP λh=>hx (.inr (.inl h));have c3:a.aM=b.aM:=dP λh=>hx (.inr (.inr h));have hp:=X5 (oR hv) (oR hw) hB c1 c2 c3;cases hf:(dz a b).bZ.f1 (dz a b).aF (ix (dz a b).az)with
 |none=>
  by_cases he:(dz a b).bZ.Du (dz a b).aF (ix (dz a b).az)=0
  .exact .inr ⟨hp,hv,hw,.inl ⟨rfl,he,by rw[he];rfl⟩⟩
  .exact .inl ⟨_,he,rfl⟩
 |some w=>exact .inr ⟨hp,hv,hw,.inr ⟨w,rfl,rfl⟩⟩
end
def Nk (n:aS) (h:n.fits) (d:n.bI=0->ah n.az^ah n.bQ<=512):∃q:aS×Int,PC tw [n.av]=aa (.bY [q.1.av,.int q.2])/\(n.bI ≠ 0->q=(zN,n.bI))/\(n.bI=0->∃ws,js n.dB n.bT ws/\q=zR n.dB n.bT ws):=by
 obtain⟨⟨r,e⟩,g,b⟩:=ao1 n h (vP n) (λa i j=>ao9 (oR a) j) apa;refine⟨(r,e),g,λa=>?_,λa=>?_⟩
 .cases b with
  |inv _=>rfl
  |many _ h _ _=>exact absurd h a
  |eE _ _ _ h _ _=>exact absurd h a
  |MQ _ _ _ _ _ h _ _=>exact absurd h a
  |ok _ _ _ _ _ _ h _ _ _ _=>exact absurd h a
 .have:=d a
  exact b.out a λD l=>oC l.W6 this
def X8{n:aS}(h:n.kz=ad):(ah n.az:Int)<=3/\n.aL<=4/\n.small=ad:=by
 simp only[aS.kz,bd,fy]at h;exact⟨h.1.1.1,h.1.1.2,h.1.2⟩
def aqi{n:aS}(a:n.Ok):ah n.bQ<=ah n.az:=tB (ah n.az) Fx (wY a)
def aqj{n:aS}(h:n.kz=ad) (d:n.bI=0):ah n.az^ah n.bQ<=512:=by
 obtain⟨e,_,_⟩:=X8 h;have g:=aqi (oR d);have i:=(oR d).eC;have a:ah n.az<=3:=ax
 have b:ah n.bQ<=3:=ax
 have j:ah n.az^ah n.bQ<=3^ah n.bQ:=Nat.pow_le_pow_left a _;have l:3^ah n.bQ<=3^3:=Nat.pow_le_pow_right ax b
 omega
variable{A:kT}{ws:al}
def X9{L:ak->Prop}(h:A.Ok) (q:ah ws<=128) (u:ah ws*aj A.c<=128):(cO A L ws).ZZ/\(∀l∈(cO A L ws).call,ah l<=100000)/\(∀l∈(cO A L ws).push,ah l<=100000)/\(∀l∈(cO A L ws).aH,ah l<=100000)/\∀l∈(cO A L ws).aP,ah l<=100000/\∀m∈l,ah m<=100000:=by
 obtain⟨w,x,y,z,B⟩:=CN (A:=A) (L:=L) (ws:=ws);have C:=h.s;have D:=h.p;have o:A.aZ (ah ws)=max 1 (ah ws*aj A.c):=rfl;have i:∀l∈(cO A L ws).call,ah l<=64:=λl a=>by
  have:l∈ag (ah ws) (ag (aj A.c) (0:Int)):=a;rw[List.eq_of_mem_replicate this];simp;omega
 have j:∀l∈(cO A L ws).push,ah l<=64:=λl a=>by
  obtain⟨s,_,rfl⟩:=cJ.1 a;simp;omega
 have n:∀l∈(cO A L ws).aH,ah l<=64:=λl a=>by
  obtain⟨s,_,rfl⟩:=cJ.1 a;simp;omega
 have e:∀l∈(cO A L ws).aP,ah l<=128/\∀m∈l,ah m<=64:=λl a=>by
  obtain⟨s,_,rfl⟩:=cJ.1 a;refine⟨aT,λm d=>?_⟩
  obtain⟨g,_,rfl⟩:=cJ.1 d;simp;omega
 exact⟨⟨ax,⟨ax,λr b=>by have:=i r b;omega⟩,⟨ax,λr b=>by have:=j r b;omega⟩,⟨ax,λr b=>by have:=n r b;omega⟩,⟨ax,λr b=>⟨by have:=(e r b).1;omega,λm d=>by have:=(e r b).2 m d;omega⟩⟩⟩,λl a=>by have:=i l a;omega,λl a=>by have:=j l a;omega,λl a=>by have:=n l a;omega,λl a=>⟨by have:=(e l a).1;omega,λm d=>by have:=(e l a).2 m d;omega⟩⟩
def Ya{L:ak->Prop}(h:(zR A L ws).2=0):(zR A L ws).1=cO A L ws/\ah ws<=128/\ah ws*aj A.c<=128/\∀w∈ws,ah w<=1024:=by
 unfold zR at h ⊢;split at h
 .simp at h
 .rename_i b
  split at h
  .simp at h
  .rename_i a
   rw[aC b,aC a];exact⟨rfl,ax,ax,λw d=>dP λe=>a ⟨w,d,ax⟩⟩
def aqk{L:ak->Prop}(h:(zR A L ws).2 ≠ 0):(zR A L ws).1=zN:=by
 unfold zR at h ⊢;split at h
 .rename_i a;rw[aD a]
 .rename_i a
  split at h
  .rename_i b;rw[aC a,aD b]
  .exact absurd rfl h
def Wd.ww{M:eZ}{s t:Int}{w:ak}(h:Wd M s t w):Ww ⟨M.ay,M.aG,M.aM⟩ w:=by
 induction h with
 |nil=>exact .nil
 |bp s i t w i0 i1 _ ih=>
  have:=Ww.app (Ww.bp (A:=⟨M.ay,M.aG,M.aM⟩) [] i i0 i1 .nil) ih;exact this
 |call s c p r t u v c0 c1 r0 r1 _ _ qG rL=>
  have:=Ww.app (Ww.aQ (A:=⟨M.ay,M.aG,M.aM⟩) [] u c r c0 c1 r0 r1 .nil qG) rL;simpa using this
def Yb{n:aS}{w:ak}(h:n.bT w):Ww n.dB w:=by
 obtain⟨t,a,_⟩:=h;exact a.ww
structure j6 (n:aS) (ws:al):Prop where
 ok:n.Ok
 r:js n.dB n.bT ws
 k:ah ws<=128
 c:ah ws*aj n.dB.c<=128
def j6.o{n:aS}(h:j6 n ws):(cO n.dB n.bT ws).Ok:=ao5 h.r h.ok.dB h.ok.syms.1 h.k h.c
def j6.wd{n:aS}(h:j6 n ws){w:ak}(hw:Ww n.dB w):Wd (cO n.dB n.bT ws).bZ (cO n.dB n.bT ws).aF (iO n.dB n.bT ws w) w:=by
 have:=ao6 h.r h.ok.dB hw [] .nil;have hn:=h.r.MU h.ok.dB;have e0:iO n.dB n.bT ws []=0:=zP h.r .nil ax ax (by rw[hn.2];exact kU.refl _)
 rw[e0,rB]at this;exact this
def j6.bT{n:aS}(h:j6 n ws):(cO n.dB n.bT ws).bT=n.bT:=by
 funext w
 apply propext;constructor
 .intro hl
  have hw:Ww n.dB w:=Yb (n:=cO n.dB n.bT ws) hl;obtain⟨t,ht,ha⟩:=hl;have:=(h.wd hw).rq h.o.m0 ht;rw[<-this]at ha;exact(W3 h.r hw).1 ha
 .intro hl
  have hw:=Yb hl;exact⟨_,h.wd hw,(W3 h.r hw).2 hl⟩
def j6.entry{n:aS}(h:j6 n ws):(cO n.dB n.bT ws).entry:=by
 have l1:=(CN (A:=n.dB) (L:=n.bT) (ws:=ws)).1;have hc:=h.ok.ay;refine⟨rfl,?_,λs c s0 s1 c0 c1=>(zQ s0 (by rw[l1]at s1;exact s1) c0 c1).1,λs c s0 s1 c0 c1=>(zQ s0 (by rw[l1]at s1;exact s1) c0 c1).2⟩
 rw[l1];show((max 1 (ah ws*aj n.ay):Nat):Int)=max 1 ((ah ws:Int)*n.ay);have:(ah ws:Int)*n.ay=((ah ws*aj n.ay:Nat):Int):=qt
 rw[this];omega
def Yc{n m:aS}(e:n.Ok) (g:m.Ok) (h:n.ay=m.ay) (i:n.aG=m.aG) (l:n.aM=m.aM) (A:n.bT=m.bT) (w:ak):n.acc w=m.acc w:=by
 have B:n.syms=m.syms:=by unfold aS.syms;rw[h,i,l]
 have C:n.jo=m.jo:=by
  funext p x
  simp only[aS.jo,aS.zo,h,i]
 have o:n.kN w=m.kN w:=by unfold aS.kN;rw[C]
 have q:n.gu w=m.gu w:=by unfold aS.gu;rw[o]
 unfold aS.acc;rw[CM e,CM g,B,o,q]
 by_cases r:iZ w m.syms=0
 .by_cases a:m.gu w=ad
  .have d:=Lq r
   have u:=(B4 e (s:=n.aF) (t:=(n.run n.aF w).1) (w:=w)).2 ⟨by rw[h,i,l];exact d.2,by rw[q];exact a,rfl⟩
   have z:=(B4 g (s:=m.aF) (t:=(m.run m.aF w).1) (w:=w)).2 ⟨d.2,a,rfl⟩;have:ix n.az (n.run n.aF w).1=ix m.az (m.run m.aF w).1:=by
    have D:n.bT w↔ix n.az (n.run n.aF w).1=ad:=⟨λ⟨t,j,b⟩=>by rw[u.rq e.m0 j];exact b,λb=>⟨_,u,b⟩⟩
    have E:m.bT w↔ix m.az (m.run m.aF w).1=ad:=⟨λ⟨t,j,b⟩=>by rw[z.rq g.m0 j];exact b,λb=>⟨_,z,b⟩⟩
    rw[A]at D;cases x:ix n.az (n.run n.aF w).1<;>cases y:ix m.az (m.run m.aF w).1<;>simp_all
   rw[this]
  .have:m.gu w=ae:=by simpa using a
   simp[this]
 .simp[r]
end Ab
