/- Blocks of a round are forgotten. Condition: none. -/
import Derived.Test.YtcdccenbhiddcaaGreatAbL
import Derived.Test.YtcdccenbhiddcaaGreatGbf
set_option linter.all false
set_option maxRecDepth 100000
set_option maxHeartbeats 4000000
namespace Ab
def qq (m:Nat) (Q:Ex->St->Prop):Ex->St->Prop:=λe s=>match e with
 |.ret=>Q .ret s
 |e=>(s.vars.all (dh m)=true/\iI m m s.σ=true/\(match s.fl with|some _=>false|none=>true)=true)/\Q e {s with σ:=s.σ.take m}
def HY{L:CE}{c:IC}{vars:List AV}{fl:Option (Nat×AV)}{σ:List aj}{Q:Ex->St->Prop}{m:Nat}(l:σ.length=m) (h:WK L c vars fl σ (qq m Q)):WK L (.lex c) vars fl σ Q:=by
 subst l;rw[Ee];obtain⟨n,e,o, a,b⟩:=gy h;cases e with
 |ret=>exact⟨n,.ret,o, by simp only[exec,a],b⟩
 |c5=>
  obtain⟨⟨d,f,g⟩,i⟩:=b;refine⟨n,.c5,_,?_,i⟩;simp only[exec,a];rw[ah (by simp only[aD];exact⟨⟨d,f⟩,g⟩)]
 |exit j=>
  obtain⟨⟨d,f,g⟩,i⟩:=b;refine⟨n,.exit j,_,?_,i⟩;simp only[exec,a];rw[ah (by simp only[aD];exact⟨⟨d,f⟩,g⟩)]
variable{m:Nat}{Q:Ex->St->Prop}{vars:List AV}{σ:List aj}
theorem XL{s:St}:qq m Q .ret s=Q .ret s:=rfl
def XM:qq m Q .c5 ⟨vars,none,σ⟩=((vars.all (dh m)=true/\iI m m σ=true)/\Q .c5 ⟨vars,none,σ.take m⟩):=by
 simp[qq]
def XN{j:Nat}:qq m Q (.exit j) ⟨vars,none,σ⟩=((vars.all (dh m)=true/\iI m m σ=true)/\Q (.exit j) ⟨vars,none,σ.take m⟩):=by
 simp[qq]
theorem XO{n:Int}:dh m (.int n)=true:=rfl
theorem XP{b:Bool}:dh m (.bool b)=true:=rfl
theorem XQ:dh m .au=true:=rfl
theorem XR:dh m .ag=true:=rfl
theorem XS{b:Bool}{l:List AV}:dh m (.aA b l)=true:=rfl
theorem XT{x:AV}:dh m (.ar x)=true:=rfl
theorem XU{b u o n:Nat}:dh m (.sl b u o n)=decide (b<m):=rfl
theorem XV{b u o:Nat}:dh m (.ptr b u o)=decide (b<m):=rfl
theorem XW{b:Nat}:dh m (.b8 b)=decide (b<m):=rfl
def XX{n:Nat}{l:List aj}:iI n 0 l=true:=by unfold iI;rfl
theorem XY{n k:Nat}{B:aj}{l:List aj}:iI n (k+1) (B::l)=((B.cells.all (dh n)&&mY n B.st)&&iI n k l):=rfl
theorem XZ{n:Nat}:mY n .live=true:=rfl
theorem X0{n:Nat}:mY n .fN=true:=rfl
theorem X1{n:Nat}:mY n .dead=true:=rfl
attribute [simp ↓] XL XM XN
attribute [simp] XO XP XQ XR XS XT XU XV XW XX XY XZ X0 X1
end Ab
namespace Ab
def A3:∀{xs ys:List Int},xs.length=ys.length->cu (xs.map .int) (ys.map .int)=some (decide (xs=ys))
 | [],[],_=>rfl
 |x::xs,y::ys,h=>by
  have a:=A3 (xs:=xs) (ys:=ys) ch
  simp only[bC,cu,a,List.cons.injEq]
  by_cases b:x=y<;>by_cases d:xs=ys<;>simp[b,d]
 | [],_::_,h=>by simp at h
 |_::_,[],h=>cy
def lN (i:Nat):List (List Int)->List (AV×AV)
 | []=>[]
 |k::r=>(.agg (k.map .int),.int (i:Int))::lN (i+1) r
def A4{k:List Int}:∀{es:List (List Int)}{i:Nat},lN i (es ++ [k])=lN i es ++ [(.agg (k.map .int),.int ((i+es.length:Nat):Int))]
 | [],i=>by simp[lN]
 |e::es,i=>by
  simp only[kU,lN,A4 (es:=es) (i:=i+1),eO]
  congr 5
  omega
def A5:∀{es:List (List Int)}{i:Nat},(lN i es).length=es.length
 | [],_=>rfl
 |_::es,i=>by simp[lN,A5]
def kT (k:List Int) (i:Nat):List (List Int)->Option Nat
 | []=>none
 |e::r=>if k=e then some i else kT k (i+1) r
def HZ{n:Nat}{es:List (List Int)}{i:Nat}:mY n (.map (lN i es))=true:=by
 show(lN i es).all _=true
 induction es generalizing i with
 |nil=>rfl
 |cons e r a=>unfold lN;simp only[List.all_cons,a,Bool.and_true];rfl
def X2{n:Nat}{es:List (List Int)}{i:Nat}{a:AV}{k:Int}:mY n (.map (lN i es ++ [(a,.int k)]))=true:=by
 show(lN i es ++ [(a,AV.int k)]).all _=true;rw[List.all_append];have:(lN i es).all (λe=>dh n e.2)=true:=HZ;rw[this];rfl
attribute [local simp] HZ X2
def H0{k:List Int}:∀{es:List (List Int)}{i:Nat},(∀e∈es,e.length=k.length)->cw (lN i es) (.agg (k.map .int))=some ((kT k i es).map λn=>.int (n:Int))
 | [],_,_=>rfl
 |e::es,i,h=>by
  have d:=h e ab
  simp only[lN,cw,ga,A3 d.symm,kT]
  by_cases a:k=e
  .simp[a]
  .simp only[decide_eq_false a,ae a]
   exact H0 λf b =>h f dS
variable{k:List Int}
def H2(h:k.length=128):bd 130 (.agg (k.map .int))=true:=by
 show((k.map AV.int).length==128&&(cu (k.map .int) (k.map .int)).isSome)=true;rw[A3 rfl];simp[h]
def H3{K:AV->Prop}{t:Tk K}(h:k.length=128):pT (k.map AV.int) 0 (some 128) K t=K (.agg (k.map .int)):=by
 show aH (if 0+128<=(k.map AV.int).length then some (AV.agg (((k.map AV.int).drop 0).take 128))else none) K=_
 rw[ah (by simp[h]),uj,iF,hJ (by simp[h])]
def qs (m:ak) (c:List Int) (s:Int) (a:Nat):List Int:=((ix m.out s).take a++List.replicate (64-a) 0)++(((ix m.next s).take a).map (λt=>ix c t)++List.replicate (64-a) 0)
def cJ (m:ak) (c:List Int) (s:Int):List Int:=qs m c s m.inputs.toNat
def bF (m:ak) (c:List Int):Nat->List (List Int)×List Int
 |0=>([],[])
 |s+1=>match kT (cJ m c (s:Int)) 0 (bF m c s).1 with
  |some n=>((bF m c s).1,(bF m c s).2 ++ [(n:Int)])
  |none=>((bF m c s).1 ++ [cJ m c (s:Int)],(bF m c s).2 ++ [((bF m c s).1.length:Int)])
def lj{m:ak}{c:List Int}:∀{s:Nat},(bF m c s).2.length=s/\(bF m c s).1.length<=s
 |0=>⟨rfl,aY 0⟩
 |s+1=>by
  have a:=lj (m:=m) (c:=c) (s:=s);unfold bF;split<;>simp[a.1]<;>omega
variable{c:List Int}{s:Int}{a:Nat}
def A6{m:ak}(b:(a:Int)<=(ix m.out s).length) (d:(a:Int)<=(ix m.next s).length) (e:a<=64):(qs m c s a).length=128:=by
 simp[qs];omega
def X3{m:ak}:qs m c s 0=List.replicate 128 0:=by
 unfold qs;simp only[List.take_zero,List.map_nil,kM,Nat.sub_zero,List.replicate_append_replicate]
def X4{m:ak}(b:a<(ix m.out s).length) (d:a<(ix m.next s).length) (o:a<64):qs m c s (a+1)=((qs m c s a).set a (ix (ix m.out s) (a:Int))).set (64+a) (ix c (ix (ix m.next s) (a:Int))):=by
 have e:∀(l:List Int) (v:Int),l.length=a->(l++List.replicate (64-a) 0).set a v=l ++ [v]++List.replicate (64-(a+1)) 0:=λl v f=>by
  rw[iG,ae aa,f,Nat.sub_self]
  obtain⟨j,g⟩:∃j,64-a=j+1:=⟨63-a,aa⟩
  rw[g,mH,List.set_cons_zero,show 64-(a+1)=j by omega]
  simp
 have h:((ix m.out s).take a).length=a:=ai
 have i:(((ix m.next s).take a).map λt=>ix c t).length=a:=ai
 unfold qs;rw[iG,ah ai,e _ _ h,iG,ae ai]
 have n:((ix m.out s).take a ++ [ix (ix m.out s) (a:Int)]++List.replicate (64-(a+1)) 0).length=64:=ai
 rw[n,show 64+a-64=a by omega,e _ _ i]
 congr 2
 .rw[eD,cG b,aK b];rfl
 .rw[eD,cG d,eE,aK d];rfl
def H4{m:ak}{c:List Int}(d:m.Ok):∀{s:Nat},s<=m.next.length->∀e∈(bF m c s).1,e.length=128
 |0,_,e,a=>by simp[bF]at a
 |s+1,h,e,a=>by
  have f:=H4 d (c:=c) (s:=s) aa
  have g:=d.row (s:Int) aa aa
  have i:=d.inputs;have j:(cJ m c (s:Int)).length=128:=by unfold cJ;exact A6 aa aa aa
  unfold bF at a;split at a
  .exact f e a
  .rcases cp.1 a with b | b
   .exact f e b
   .simp at b; rw[b];exact j
def X5 (m:ak) (h:m.Ok) (c:List Int) (U:c.length=m.next.length):L yS [m.av,iL c] []=some (.bz [.sl 1 c.length 0 c.length,.int (bF m c c.length).1.length],[⟨some 0,[],.map (lN 0 (bF m c c.length).1)⟩,⟨none,(bF m c c.length).2.map .int,.live⟩]):=by
 refine rR (WT rfl ?_);have M:=h.inputs;have N:=h.states;have P:=h.len;simp[-ax,-List.map_replicate];refine⟨aa,?_⟩
 refine a6 (λs:Nat=>[(2,.int s)]) (λs=>[⟨some 0,[],.map (lN 0 (bF m c s).1)⟩,⟨none,((bF m c s).2++List.replicate (c.length-s) 0).map .int,.live⟩]) (λs=>s<=c.length) (λs=>c.length-s) 0 (by simp[-List.map_replicate,b5,bF,lN]) aa ?_
 intro s V;refine HY rfl ?_;have o:=lj (m:=m) (c:=c) (s:=s);have w:((bF m c s).2++List.replicate (c.length-s) 0).length=c.length:=by simp[o.1];omega
 by_cases x:s<c.length
 .have f:=h.row (s:Int) aa aa
  generalize J:(bF m c s).2++List.replicate (c.length-s) 0=O at *;simp[-ax,-List.map_append,x];refine a6 (λa:Nat=>[(5,.int a)]) (λa=>[⟨some 0,[],.map (lN 0 (bF m c s).1)⟩,⟨none,O.map .int,.live⟩,⟨some 128,(qs m c s a).map .int,.live⟩]) (λa=>(a:Int)<=m.inputs) (λa=>m.inputs.toNat-a) 0 (by rw[X3];rfl) aa ?_
  intro a W;refine HY rfl ?_
  by_cases u:(a:Int)<m.inputs
  .have y:(qs m c s a).length=128:=A6 aa aa aa
   have z:=X4 (m:=m) (c:=c) (s:=(s:Int)) (a:=a) aa aa aa
   have A:=h.nx (s:Int) (a:Int) aa aa aa u
   have B:(s:Int)<(m.next.length:Int):=aa
   have C:(s:Int)<(m.out.length:Int):=aa
   have D:ix (ix m.next (s:Int)) (a:Int)<(c.length:Int):=aa
   generalize qs m c s a=X at *;simp[-ax,-List.map_set,u,B,C,f.1,f.2,y,A.1,D];have E:((64:Int)+(a:Int)).toNat=64+a:=aa
   refine⟨aa,aa,aa,aa,aa,aa,aL (a+1) ab (by simp[-List.map_set,z,E]) aa aa⟩
  .have Q:a=m.inputs.toNat:=by omega
   have F:qs m c s a=cJ m c s:=by rw[Q];rfl
   have b:(cJ m c s).length=128:=by unfold cJ;exact A6 aa aa aa
   rw[F];have d:=H0 (k:=cJ m c (s:Int)) (es:=(bF m c s).1) (i:=0) (λe R=>by rw[b];exact H4 h aa e R)
   have p:=H2 b;have q:=λ(K:AV->Prop) (t:Tk K)=>H3 (k:=cJ m c (s:Int)) (K:=K) (t:=t) b;have r:O.length=c.length:=w;have G:O=(bF m c s).2++List.replicate (c.length-s) 0:=J.symm;have g:∀v:Int,O.set s v=(bF m c s).2 ++ [v]++List.replicate (c.length-(s+1)) 0:=λv=>by
    rw[G,iG,ae aa,o.1,Nat.sub_self]
    obtain⟨j,T⟩:∃j,c.length-s=j+1:=⟨c.length-s-1,aa⟩
    rw[T,mH,List.set_cons_zero,show c.length-(s+1)=j by omega]
    simp
   clear J;cases l:kT (cJ m c (s:Int)) 0 (bF m c s).1 with
   |some n=>
    rw[l]at d;have H:(bF m c (s+1)).1=(bF m c s).1:=rl
    have I:(bF m c (s+1)).2=(bF m c s).2 ++ [(n:Int)]:=rm
    generalize cJ m c (s:Int)=S at *;simp[-ax,-List.map_set,u,↓q,b,p,d,r,x];refine⟨aa,aL (s+1) ab (by simp[-List.map_set,H,I,g,A4]) aa aa⟩
   |none=>
    rw[l]at d;have H:(bF m c (s+1)).1=(bF m c s).1 ++ [cJ m c (s:Int)]:=rl
    have I:(bF m c (s+1)).2=(bF m c s).2 ++ [((bF m c s).1.length:Int)]:=rm
    generalize cJ m c (s:Int)=S at *;simp[-ax,-List.map_set,u,↓q,b,p,d,r,x,A5];refine⟨aa,aL (s+1) ab (by simp[-List.map_set,H,I,g,A4]) aa aa⟩
 .have:s=c.length:=by omega
  subst this;have e:(bF m c c.length).2++List.replicate (c.length-c.length) 0=(bF m c c.length).2:=ab
  rw[e];simp[A5]
def lk (m:ak):Nat->Nat->List Int->Int->List Int×Nat
 |0,i,c,_=>(c,i)
 |f+1,i,c,n=>if((bF m c c.length).1.length:Int)=n then(c,i)else lk m f (i+1) (bF m c c.length).2 (bF m c c.length).1.length
def eY (m:ak) (k:Int):List Int×Nat:=lk m (min (max k 0) m.next.length).toNat 0 (List.replicate m.next.length 0) 1
def nK (i n:Nat) (c:List Int):AV:=match i with
 |0=>.sl 0 n 0 n
 |_+1=>iL c
def X6 (m:ak) (r:m.Ok) (k:Int):PC yN [m.av,.int k]=some (.bz [iL (eY m k).1,.int (eY m k).2]):=by
 refine ba (WL rfl ?_);have y:=r.states;have z:eY m k=lk m (min (max k 0) m.next.length).toNat 0 (List.replicate m.next.length 0) 1:=rfl
 have u:min (max k 0) (m.next.length:Int)=((min (max k 0) m.next.length).toNat:Nat):=aa
 have A:(min (max k 0) (m.next.length:Int)).toNat<=m.next.length:=aa
 generalize eY m k=R at *;generalize B:(min (max k 0) (m.next.length:Int)).toNat=K at *
 simp[-ax,-List.map_replicate,u];refine⟨aa,?_⟩
 have E:List.replicate m.next.length (0:Int)=List.replicate m.next.length 0:=rfl
 generalize C:List.replicate m.next.length (0:Int)=Z at *
 have f:Z.length=m.next.length:=by rw[<-C];simp
 refine a6 (λp:Nat×List Int×Int=>[(3,.int p.1),(5,nK p.1 m.next.length p.2.1),(7,.int p.2.2)]) (λ_=>[⟨none,Z.map .int,.live⟩]) (λp=>(p.1<=K/\p.2.1.length=m.next.length/\(p.1=0->p.2.1=Z))/\lk m (K-p.1) p.1 p.2.1 p.2.2=R) (λp=>K-p.1) (0,Z,1) (by simp[b5,nK]) ⟨⟨aa,f,λ_=>rfl⟩,by simpa using z.symm⟩ ?_
 rintro⟨i,c,n⟩ ⟨⟨i1,o,w⟩,a⟩;dsimp only at i1 o w a ⊢;have d:view [⟨none,Z.map AV.int,.live⟩] false vd (nK i m.next.length c)=some (iL c):=by
  cases i with
  |zero=>
   rw[w rfl];exact iU (σ:=[⟨none,Z.map .int,.live⟩]) (fr:=false) (b:=0) (xs:=Z) (n:=m.next.length) (st:=.live) rfl ab f.symm
  |succ i=>rfl
 by_cases q:i<K
 .have x:=X5 m r c o
  obtain⟨j,D⟩:∃j,K-i=j+1:=⟨K-i-1,aa⟩
  rw[D]at a;unfold lk at a;have g:=lj (m:=m) (c:=c) (s:=c.length);have h:=iU (σ:=[⟨some 0,[],.map (lN 0 (bF m c c.length).1)⟩,⟨none,(bF m c c.length).2.map .int,.live⟩]) (fr:=true) (b:=1) (xs:=(bF m c c.length).2) (n:=c.length) (st:=.live) rfl ab (by rw[g.1])
  by_cases l:((bF m c c.length).1.length:Int)=n
  .rw[ah l]at a
   have e :=cq l;subst a;simp[-ax,q,d,x,h,e, aM]
  .rw[ae l]at a
   have e :=eq_false l;simp[-ax,q,d,x,h,e, aM];refine⟨aa,aL (i+1,(bF m c c.length).2,((bF m c c.length).1.length:Int)) (by simp[nK]) rfl ⟨⟨aI,by dsimp only;rw[g.1];exact o,ab⟩,by dsimp only;rw[show K-(i+1)=j by omega];exact a⟩ aI⟩
 .have:i=K:=by omega
  subst this;rw[Nat.sub_self]at a;unfold lk at a;subst a;simp[q,u,d,aM]
def ll (m:ak) (k:Int):List Int×Int:=if m.ao ≠ 0 then([],m.ao)else((eY m k).1,0)
def X7 (m:ak) (h:m.fits) (k:Int):PC yD [m.av,.int k]=some (.bz [iL (ll m k).1,.int (ll m k).2]):=by
 refine ba (Wt rfl ?_);have b:=fD m h
 by_cases a:m.ao=0
 .have e:ll m k=((eY m k).1,0):=by unfold ll;rw[ae cV]
  rw[a]at b;have d:=X6 m (fQ a) k;rw[e];simp[b,d]
 .have e:ll m k=([],m.ao):=by unfold ll;rw[ah a]
  rw[e];simp[b,a]
def X8 (m:ak) (h:m.fits):PC yu [m.av]=some (.bz [iL (ll m 128).1,.int (ll m 128).2]):=by
 refine ba (Wa rfl ?_);simp[X7 m h 128]
end Ab
