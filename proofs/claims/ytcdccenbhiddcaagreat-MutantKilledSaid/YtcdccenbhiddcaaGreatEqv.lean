/- Tables of truth values in memory; and what it leans on. Condition: none. -/
import Derived.Test.YtcdccenbhiddcaaGreatGbf
import Derived.Test.YtcdccenbhiddcaaGreatMnlT
set_option linter.all false
set_option maxRecDepth 100000
set_option maxHeartbeats 4000000
namespace Ab
abbrev po (r:List Bool):aj:=⟨none,r.map .bool,.live⟩
def mo (e k C:Nat):List AV:=(List.range k).map λi=>AV.sl (e+i) C 0 C
def Yo{e k C:Nat}:(mo e k C).length=k:=by simp[mo]
def Yp{e C:Nat}:mo e 0 C=[]:=mo.eq_1 e 0 C
def Yq{e C:Nat}:mo e 1 C=[.sl e C 0 C]:=mo.eq_1 e 1 C
attribute [simp] Yo Yp Yq
def bX (C N:Nat) (m:List (List Bool)) (rest:List aj):List aj:=⟨none,mo 1 m.length C++List.replicate (N-m.length) .ag,.live⟩::(m.map po ++ rest)
def Bg:∀(σ:List aj) (i:Nat),ay σ i=σ[i]?
 | [],i=>by simp[ay]
 |x::r,0=>rfl
 |x::r,i+1=>by simp[ay,Bg r i]
def pr:∀(σ:List aj) (i:Nat) (B:aj),az σ i B=σ.set i B
 | [],i,B=>by simp[az]
 |x::r,0,B=>rfl
 |x::r,i+1,B=>by simp[az,pr r i]
section
variable{box:aj}{C N:Nat}{m:List (List Bool)}{rest:List aj}
def Ip{s:Int}(a:0<=s) (b:s<m.length):ay (bX C N m rest) (1+s.toNat)=some (po (ix m s)):=by
 rw[Bg,bX,show 1+s.toNat=s.toNat+1 by omega,List.getElem?_cons_succ,dG ai,eQ,ky a b]
 rfl
theorem Iq:ay (bX C N m rest) 0=some ⟨none,mo 1 m.length C++List.replicate (N-m.length) .ag,.live⟩:=rfl
def Ir{B:aj}:bX C N m rest ++ [B]=bX C N m (rest ++ [B]):=by simp[bX]
def Is:(bX C N m rest).length=1+m.length+rest.length:=by simp[bX];omega
variable{r:List Bool}
def Yr(h:m.length<N):az (bX C N m [po r]) 0 ⟨none,(mo 1 m.length C++List.replicate (N-m.length) AV.ag).set m.length (.sl (1+m.length) C 0 C),.live⟩=bX C N (m ++ [r]) []:=by
 rw[pr];unfold bX;simp only[List.set_cons_zero,eE,bC,List.map_nil,js,ez,eO,List.length_nil,eL]
 congr 2
 rw[iG,ae ab,show N-m.length=(N-(m.length+1))+1 by omega,mH]
 rw[show mo 1 (m.length+1) C=mo 1 m.length C ++ [AV.sl (1+m.length) C 0 C]by simp only[mo,List.range_succ,eE,bC,List.map_nil],fO]
 simp
def Yt(h:m.length<N):az (bX C N m [po r]) 0 ⟨none,mo 1 m.length C++(List.replicate (N-m.length) AV.ag).set 0 (.sl (1+m.length) C 0 C),.live⟩=bX C N (m ++ [r]) []:=by
 have:=Yr (C:=C) (r:=r) h
 rwa [iG,ae ab,show m.length-(mo 1 m.length C).length=0 by simp]at this
end
variable{e k:Nat}{s:Int}
def Yu{C j:Nat}{K:AV->Prop}{t:Tk K}(a:0<=s) (b:s<k):pT (mo e k C++List.replicate j AV.ag) (0+s.toNat*1) none K t=K (.sl (e+s.toNat) C 0 C):=by
 unfold pT part;rw[show 0+s.toNat*1=s.toNat by omega]
 simp only[jA,dG (show s.toNat<(mo e k C).length by simp;omega)]
 simp only[mo,eQ,List.getElem?_range (show s.toNat<k by omega)]
 rfl
def It{C:Nat}{K:AV->Prop}{t:Tk K}(a:0<=s) (b:s<k):pT (mo e k C) (0+s.toNat*1) none K t=K (.sl (e+s.toNat) C 0 C):=by
 have:=Yu (e:=e) (C:=C) (k:=k) (j:=0) (K:=K) (t:=t) a b
 rwa [List.replicate_zero,js]at this
structure Sh (N C:Nat) (T:List (List Bool)):Prop where
 len:T.length=N
 row:∀r∈T,r.length=C
def Sh.ix{N C:Nat}{T:List (List Bool)}(h:Sh N C T)(Y:0<=s) (s1:s<N):(ix T s).length=C:=h.row _ (bt Y (by have:=h.len;omega))
section
variable{C N:Nat}{T:List (List Bool)}{rest:List aj}
def Bh (h:T.length=N):ay (bX C N T rest) 0=some ⟨none,mo 1 N C,.live⟩:=by rw[Iq,h];simp
def Iu{s:Int}{r:List Bool}(a:0<=s) (b:s<T.length):az (bX C N T rest) (1+s.toNat) ⟨none,r.map .bool,.live⟩=bX C N (T.set s.toNat r) rest:=by
 rw[pr,bX,bX,show 1+s.toNat=s.toNat+1 by omega,List.set_cons_succ,iG,ah ai]
 simp[List.map_set]
def Bj{B:aj}(h:T.length=N):ay (bX C N T [B]) (1+N)=some B:=by
 subst h;rw[Bg,bX,show 1+T.length=T.length+1 by omega,List.getElem?_cons_succ,fk ab]
 simp
def Yv{B B' : aj}(h:T.length=N):az (bX C N T [B]) (1+N) B' = bX C N T [B']:=by
 subst h;rw[pr,bX,bX,show 1+T.length=T.length+1 by omega,List.set_cons_succ,iG,ae ab]
 simp
end
abbrev P2:=Int×Int
def mq (a b:ak) (p:P2) (x:Int):Option P2:=if ix (ix a.out p.1) x=ix (ix b.out p.2) x then some (ix (ix a.next p.1) x,ix (ix b.next p.2) x)else none
def tr (a b:ak) (p:P2):Prop:=(0<=p.1/\p.1<(a.next.length:Int))/\(0<=p.2/\p.2<(b.next.length:Int))
def Yw{n m:Nat}{l:List P2}(j:l.Nodup) (h:∀p∈l,(0<=p.1/\p.1<(n:Int))/\(0<=p.2/\p.2<(m:Int))):l.length<=n*m:=by
 have o:(l.map λp:P2=>p.1*(m:Int)+p.2).Nodup:=by
  rw[pM,kV];refine List.Pairwise.imp_of_mem ?_ j;intro a b q r d e;obtain⟨_,f,g⟩:=h a q;obtain⟨_,s,u⟩:=h b r;apply d;have C:(0:Int)<m:=aa
  have w:(a.1*(m:Int)+a.2)/m=a.1:=by rw[Int.add_comm,Int.add_mul_ediv_right _ _ aa,Int.ediv_eq_zero_of_lt f g];omega
  have y:(b.1*(m:Int)+b.2)/m=b.1:=by rw[Int.add_comm,Int.add_mul_ediv_right _ _ aa,Int.ediv_eq_zero_of_lt s u];omega
  have i:a.1=b.1:=by rw[<-w,<-y,e]
  rw[i]at e;exact Prod.ext i aa
 have:=lg (n*m) o (λx z=>by
  obtain⟨p,A,rfl⟩:=cB.1 z;obtain⟨⟨B,D⟩,f,g⟩:=h p A;have hmul:p.1*(m:Int)<=((n:Int)-1)*m:=Int.mul_le_mul_of_nonneg_right aa aa
  have E:0<=p.1*(m:Int):=Int.mul_nonneg B aa
  have e:((n*m:Nat):Int)=(n:Int)*m:=Int.natCast_mul n m;rw[Int.sub_mul,Int.one_mul]at hmul;rw[e];omega)
 simpa using this
def Iv{a b:ak}(f:a.Ok) (h:b.Ok) (o:a.inputs=b.inputs):ie (mq a b) a.inputs (tr a b) (a.next.length*b.next.length):=by
 have i:=f.inputs;refine⟨aa,λp x y e g j d=>?_,λl m n=>Yw m n⟩
 unfold mq at d;split at d
 .injection d with d
  subst d;exact⟨f.nx _ _ e.1.1 e.1.2 g j,h.nx _ _ e.2.1 e.2.2 g aa⟩
 .simp at d
def ef (a b:ak) (s t:Int):Option (List Int):=ee (mq a b) a.inputs (a.next.length*b.next.length) (s,t)
def prun{a b:ak}:∀{w:List Int}{s t:Int},dC (mq a b) (s,t) w=if a.outs s w=b.outs t w then some (a.run s w,b.run t w)else none
 | [],s,t=>by simp[dC,ak.outs,ak.run]
 |x::w,s,t=>by
  simp only[dC,ak.outs,ak.run,mq]
  by_cases h:ix (ix a.out s) x=ix (ix b.out t) x
  .rw[ah h,mS,prun]
   simp[h]
  .rw[ae h]
   simp[h]
abbrev P3:=P2×List Int
def qc (q:List P3):List AV:=q.flatMap λp=>[.int p.1.1,.int p.1.2,wB (true,p.2)]
def sS:∀{q:List P3},(qc q).length=3*q.length
 | []=>rfl
 |p::q=>by
  have:=sS (q:=q);simp only[qc,gR,ez,eO,List.length_nil]at this ⊢;omega
def Yx{q r:List P3}:qc (q++r)=qc q++qc r:=by simp[qc]
def Iw{p:P3}:qc [p]=[.int p.1.1,.int p.1.2,wB (true,p.2)]:=by simp[qc]
def Bk:∀{q:List P3}{n:Nat},n<q.length->(qc q).drop (n*3) = .int (ix q (n:Int)).1.1 :: .int (ix q (n:Int)).1.2::wB (true,(ix q (n:Int)).2)::(qc q).drop (n*3+3)
 |p::q,0,_=>rfl
 |p::q,n+1,h=>by
  have:=Bk (q:=q) (n:=n) ch
  have e:ix (p::q) ((n+1:Nat):Int)=ix q (n:Int):=by simp[ix]
  rw[e,show(n+1)*3=n*3+1+1+1 by omega]
  exact this
section
variable{q:List P3}{n:Int}{K:AV->Prop}{t:Tk K}
def Yy (b:0<=n) (d:n<q.length):jL (qc q) (n.toNat*3)=some (.int (ix q n).1.1)/\jL (qc q) (n.toNat*3+1)=some (.int (ix q n).1.2)/\jL (qc q) (n.toNat*3+2)=some (wB (true,(ix q n).2)):=by
 have:=Bk (q:=q) (n:=n.toNat) aa
 rw[show((n.toNat:Nat):Int)=n by omega]at this
 rw[jA,jA,jA];have g:∀j,(qc q)[n.toNat*3+j]? = ((qc q).drop (n.toNat*3))[j]?:=λj=>by rw[jO]
 have a:=g 0;rw[Nat.add_zero]at a;rw[a,g 1,g 2,this];exact⟨rfl,rfl,rfl⟩
def Ix (a:0<=n) (b:n<q.length):pT (qc q) (0+n.toNat*3) (some 2) K t=K (.agg [.int (ix q n).1.1,.int (ix q n).1.2]):=by
 have:=Bk (q:=q) (n:=n.toNat) aa
 rw[show((n.toNat:Nat):Int)=n by omega]at this
 unfold pT part;rw[eL];simp only;rw[ah (by rw[sS];omega),this]
 rfl
def Yz (a:0<=n) (b:n<q.length):pT (qc q) (0+n.toNat*3+0) (some 2) K t=K (.agg [.int (ix q n).1.1,.int (ix q n).1.2]):=Ix a b
end
structure Cr (N C:Nat) (T:List (List Bool)) (q:List P3):Prop where
 sh:Sh N C T
 ok:∀s t,0<=s->s<(N:Int)->0<=t->t<(C:Int)->ix (ix T s) t=gD q (s,t)
def Cr.add{N C:Nat}{T:List (List Bool)}{q:List P3}(h:Cr N C T q){s t:Int}{w:List Int}(s0:0<=s) (s1:s<N) (t0:0<=t) (t1:t<C):Cr N C (T.set s.toNat ((ix T s).set t.toNat true)) (q ++ [((s,t),w)]):=by
 have hl:=h.sh.len;refine⟨⟨by rw[iH];exact hl,λr Y=>?_⟩,λu v u0 u1 v0 v1=>?_⟩
 .rcases List.mem_or_eq_of_mem_set Y with Y|Y
  .exact h.sh.row r Y
  .rw[Y,iH];exact h.sh.ix s0 s1
 .have hg:gD (q ++ [((s,t),w)]) (u,v)=(gD q (u,v)||decide (s=u/\t=v)):=by
   unfold gD;rw[List.any_append];simp
  rw[lh u0 aa,hg,<-h.ok u v u0 u1 v0 v1]
  by_cases e:u=s
  .subst e
   have Y:=h.sh.ix u0 u1;rw[ah aa,lh v0 aa]
   by_cases e2:v=t
   .subst e2;rw[ah aa];simp
   .rw[ae aa]
    simp;intro e3;exact absurd e3.symm e2
  .rw[ae aa]
   simp;intro e2;exact absurd e2.symm e
def Iy (p:Bool×List Int):aQ (wB p)=true:=by
 rcases nH p with h|h
 .rw[h.1];rfl
 .rw[h];rfl
def YA{q:List P3}{i:Int}{t:P2}(a:0<=i) (i1:i<q.length) (h:(ix q i).1=t):gD q t=true:=AR.2 (cB.2 ⟨_,bt a i1,h⟩)
def YB (w:List Int) (a:Int) (h:w.length<=100000):jN L fB [.aA false [wB (true,w),.aA false [.int a]]]=some (iL (w ++ [a])):=by
 have:=AM [(true,w),(false,[a])] ab (by simp[cat];omega)
 simp[cat]at this;rw[<-this]
 rfl
def Iz (a b:ak) (ha:a.Ok) (hb:b.Ok) (hi:a.inputs=b.inputs) (s t:Int) (F:0<=s/\s<(a.next.length:Int)) (ht:0<=t/\t<(b.next.length:Int)):PC uI [a.av,b.av,.agg [.int s,.int t]]=some (.bz [iL ((ef a b s t).getD []),.bool (ef a b s t).isSome]):=by
 refine ba (Wz rfl ?_);have X:=Iv ha hb hi;have jQ:=ha.inputs;have hsa:=ha.states;have hsb:=hb.states;have hla:=ha.len;have hlb:=hb.len;have hD:ee (mq a b) a.inputs (a.next.length*b.next.length) (s,t)=ef a b s t:=rfl
 generalize ef a b s t=D at *;have hNb:a.next.length*b.next.length<=128*128:=jg aa aa
 generalize a.next.length*b.next.length=N at *
 simp[-List.map_replicate];refine⟨aa,?_⟩
 refine a6 (λp:Nat=>[(5,.int p)]) (λp=>bX b.next.length a.next.length (List.replicate p (List.replicate b.next.length false)) []) (λp=>p<=a.next.length) (λp=>a.next.length-p) 0 (by simp[b5,bX]) ab ?_
 intro k hk
 by_cases h:k<a.next.length
 .have e:=Yt (C:=b.next.length) (N:=a.next.length) (m:=List.replicate k (List.replicate b.next.length false)) (r:=List.replicate b.next.length false) ch
  simp[-ax,-List.map_replicate,-List.map_append,-List.map_set,h,Ir,Is,Iq,-xX,↓HG]
  (repeat' apply And.intro)<;>try omega
  simp only[List.length_replicate]at e;refine aL (k+1) ab (by rw[List.replicate_succ'];exact e) aa aa
 .have e:k=a.next.length:=by omega
  subst e;have IA:Cr a.next.length b.next.length (List.replicate a.next.length (List.replicate b.next.length false)) ([]:List P3):=⟨⟨ab,λr hr=>by rw[List.eq_of_mem_replicate hr];simp⟩,λu v u0 u1 v0 v1=>by rw[sN u0 u1,sN v0 v1];rfl⟩
  generalize List.replicate a.next.length (List.replicate b.next.length false)=T0 at *
  have H:=IA.sh;have P:=H.ix F.1 F.2;have U:=IA.add (w:=[]) F.1 F.2 ht.1 ht.2;rw[kM]at U;have o1:=Bh (C:=b.next.length) (rest:=[]) H.len
  have r1:=Ip (C:=b.next.length) (N:=a.next.length) (rest:=[]) (m:=T0) F.1 (by rw[H.len];exact F.2)
  have p1:=λ(K:AV->Prop) (t:Tk K)=>It (e:=1) (C:=b.next.length) (k:=a.next.length) (K:=K) (t:=t) F.1 F.2
  have s1:=λr=>Iu (C:=b.next.length) (N:=a.next.length) (rest:=[]) (T:=T0) (r:=r) F.1 (by rw[H.len];exact F.2)
  have ln:=H.len;have wg:max t 0<(b.next.length:Int):=aa
  simp[-ax,-List.map_set,h,o1,r1,s1,F.1,F.2,ht.1,ht.2,↓p1,P,Ir,Is,ln,wg];have ok0:tr a b (s,t):=⟨F,ht⟩;refine a6 (λp:Int×List P3×List (List Bool)=>[(10,.int p.1),(11,.sl (1+a.next.length) (3*p.2.1.length) 0 p.2.1.length)]) (λp=>bX b.next.length a.next.length p.2.2 [⟨some 3,qc p.2.1,.live⟩])
   (λp=>p.1<=p.2.1.length/\kC (mq a b) a.inputs (tr a b) N (s,t) p.1 0 p.2.1/\nJ (mq a b) a.inputs p.1 0 p.2.1/\Cr a.next.length b.next.length p.2.2 p.2.1)
   (λp=>(N+1-p.1).toNat) (0,[((s,t),[])],T0.set s.toNat ((ix T0 s).set t.toNat true)) (by simp[b5,Iw,wB,mh]) ⟨ab,kC.init X ok0,nJ.init,U⟩ ?_
  rintro⟨i,q,T⟩ ⟨i1,hq,hn,hT⟩;dsimp only at i1 hq hn hT ⊢;have I:=hq.i0;have hql:=hq.gi.gq.le X
  by_cases y : i<q.length
  .have Q:=hq.gi.gq.fS _ (bt I y)
   have b1:=Bh (C:=b.next.length) (rest:=[⟨some 3,qc q,.live⟩]) hT.sh.len
   have b2:=Bj (C:=b.next.length) (B:=⟨some 3,qc q,.live⟩) hT.sh.len
   have p2:=λ(K:AV->Prop) (t:Tk K)=>Ix (K:=K) (t:=t) I y;have p2' :=λ(K:AV->Prop) (t:Tk K)=>Yz (K:=K) (t:=t) I y;simp[-ax,y, I,b2,sS,↓p2,↓p2'];refine a6 (λp:Int×List P3×List (List Bool)=>[(11,.sl (1+a.next.length) (3*p.2.1.length) 0 p.2.1.length),(12,.int p.1)]) (λp=>bX b.next.length a.next.length p.2.2 [⟨some 3,qc p.2.1,.live⟩])
    (λp=>(0<=p.1/\p.1<=a.inputs)/\(i<p.2.1.length/\ix p.2.1 i=ix q i)/\kC (mq a b) a.inputs (tr a b) N (s,t) i p.1 p.2.1/\nJ (mq a b) a.inputs i p.1 p.2.1/\Cr a.next.length b.next.length p.2.2 p.2.1)
    (λp=>(a.inputs-p.1).toNat) (0,q,T) dL ⟨aI,⟨y, rfl⟩,hq,hn,hT⟩ ?_
   rintro⟨x,g, R⟩ ⟨⟨O,x1⟩,⟨f,G⟩,Y,gn,gT⟩;dsimp only at O x1 f G Y gn gT ⊢;have gql:=Y.gi.gq.le X
   by_cases V:x<a.inputs
   .have j:=ha.row _ Q.1.1 Q.1.2
    have l:=hb.row _ Q.2.1 Q.2.2;have d:=ha.nx _ x Q.1.1 Q.1.2 O V;have n:=hb.nx _ x Q.2.1 Q.2.2 O aa
    have hwl:=Y.gi.gq.len i I f;rw[G]at hwl;have hj:=YB (ix q i).2 x aa
    have b1:=Bh (C:=b.next.length) (rest:=[⟨some 3,qc g, .live⟩]) gT.sh.len
    have b2:=Bj (C:=b.next.length) (B:=⟨some 3,qc g, .live⟩) gT.sh.len
    have Z:=Yy I f;rw[G]at Z;obtain⟨⟨q1,q2⟩,q3,q4⟩:=Q;have z:(ix q i).1.1<(a.out.length:Int):=aa
    have A:(ix q i).1.2<(b.out.length:Int):=aa
    have S:x<b.inputs:=aa
    by_cases ho:ix (ix a.out (ix q i).1.1) x=ix (ix b.out (ix q i).1.2) x
    .have J:mq a b (ix q i).1 x=some (ix (ix a.next (ix q i).1.1) x,ix (ix b.next (ix q i).1.2) x):=by unfold mq;rw[ah ho]
     have fq : (ix (ix a.out (ix q i).1.1) x=ix (ix b.out (ix q i).1.2) x)=True:=cq ho;generalize hu:ix (ix a.next (ix q i).1.1) x=u at *
     generalize hv:ix (ix b.next (ix q i).1.2) x=v at *
     have L:gD g (u,v)=true->kC (mq a b) a.inputs (tr a b) N (s,t) i (x+1) g :=λhh=>Y.stay X f O V (AT (by rw[G];exact J) hh)
     have M:nJ (mq a b) a.inputs i (x+1) g :=gn.step (by rw[G,J];simp)
     by_cases he:u=(ix q i).1.1/\v=(ix q i).1.2
     .have h1:(u=(ix q i).1.1)=True:=cq he.1
      have h2:(v=(ix q i).1.2)=True:=eq_true he.2;simp[-ax,V,O,q1,q2,q3,q4,z,A,j.1,j.2,l.1,l.2,S,fq, hu,hv,h1,h2];refine⟨aa,aL (x+1,g, R) ab rfl ⟨aI,⟨f,G⟩,L (YA I f (by rw[G];exact Prod.ext he.1.symm he.2.symm)),M,gT⟩ aI⟩
     .have h1:(¬u=(ix q i).1.1\/¬v=(ix q i).1.2)=True:=cq aa
      have b3:=Ip (C:=b.next.length) (N:=a.next.length) (rest:=[⟨some 3,qc g, .live⟩]) (m:=R) d.1 (by rw[gT.sh.len];exact d.2)
      have p1:=λ(K:AV->Prop) (t:Tk K)=>It (e:=1) (C:=b.next.length) (k:=a.next.length) (K:=K) (t:=t) d.1 d.2
      have P:=gT.sh.ix d.1 d.2;have E:=gT.ok u v d.1 d.2 n.1 n.2;have hvm:max v 0<(b.next.length:Int):=aa
      cases hh:gD g (u,v)with
      |true=>
       rw[hh]at E;simp[-ax,V,O,q1,q2,q3,q4,z,A,j.1,j.2,l.1,l.2,S,fq, hu,hv,h1,d.1,d.2,n.1,n.2,b1,b3,↓p1,P,E,hvm];refine⟨⟨aa,aL (x+1,g, R) ab rfl ⟨aI,⟨f,G⟩,L hh,M,gT⟩ aI⟩,λe1 e2=>absurd ⟨e1,e2⟩ he⟩
      |false=>
       rw[hh]at E;have oi:kC (mq a b) a.inputs (tr a b) N (s,t) i (x+1) (g ++ [((u,v),(ix q i).2 ++ [x])]):=by
        have:=Y.step X f O V;rw[AU (by rw[G];exact J) hh,G]at this
        exact this
       have s1:=λr=>Iu (C:=b.next.length) (N:=a.next.length) (rest:=[⟨some 3,qc g, .live⟩]) (T:=R) (r:=r) d.1 (by rw[gT.sh.len];exact d.2)
       have W:=gT.add (w:=(ix q i).2 ++ [x]) d.1 d.2 n.1 n.2;have hsl:=W.sh.len;have b4:=λr=>Bj (C:=b.next.length) (N:=a.next.length) (T:=R.set u.toNat r) (B:=⟨some 3,qc g, .live⟩) (by rw[iH];exact gT.sh.len)
       have s2:=λr B=>Yv (C:=b.next.length) (N:=a.next.length) (T:=R.set u.toNat r) (B:=⟨some 3,qc g, .live⟩) (B' :=B) (by rw[iH];exact gT.sh.len)
       have KG:(3*g.length=g.length*aC (some 3))=True:=cq gY
       simp[-ax,-List.map_set,V,O,q1,q2,q3,q4,z,A,j.1,j.2,l.1,l.2,S,fq, hu,hv,h1,d.1,d.2,n.1,n.2,b1,b3,↓p1,P,E,hvm,s1,b4,s2,sS,KG,Z,f,hj,I,u4,AJ,Iy];refine⟨⟨aa,aa,aL (x+1,g ++ [((u,v),(ix q i).2 ++ [x])],R.set u.toNat ((ix R u).set v.toNat true)) (by simp[Nat.mul_add]) (by simp[-List.map_set,Yx,Iw,wB,iL]) ⟨aI,⟨ai,by dsimp only;rw[a7 I f,G]⟩,oi,M.app I f,W⟩ aI⟩,λe1 e2=>absurd ⟨e1,e2⟩ he⟩
    .have J:mq a b (ix q i).1 x=none:=by unfold mq;rw[ae ho]
     have o:=XJ X Y gn f O V (by rw[G];exact J)
     rw[hD,G]at o;subst o;simp[-ax,V,O,q1,q2,q3,q4,z,A,j.1,j.2,l.1,l.2,S,ho,b2,sS,Z,f,hj,I,u4,AJ,Iy]
   .have mr:x=a.inputs:=by omega
    subst mr;simp[-ax];refine⟨aa,aL (i+1,g, R) ab rfl ⟨aI,Y.next X f,gn.next,gT⟩ aI⟩
  .have o:=XK hq hn y
   rw[hD]at o;subst o;simp[y]
def ig (a b:ak):Int:=if a.ao ≠ 0 then a.ao else if b.ao ≠ 0 then b.ao else if a.inputs ≠ b.inputs then 15 else 0
def YC{a b:ak}(h:ig a b=0):a.ao=0/\b.ao=0/\a.inputs=b.inputs:=by
 unfold ig at h;split at h
 .rename_i d;exact absurd h d
 split at h
 .rename_i d;exact absurd h d
 split at h
 .simp at h
 .rename_i d e f
  exact⟨by simpa using d,gX,jm⟩
def oN (a b:ak):Option (List Int)×Int:=if ig a b ≠ 0 then(none,ig a b)else(ef a b a.start b.start,0)
abbrev YD (r:Option (List Int)×Int):AV:=.bz [iL (r.1.getD []),.bool r.1.isSome,.int r.2]
def IB (a b:ak) (m:a.fits) (n:b.fits):PC yL [a.av,b.av]=some (.int (ig a b)):=by
 refine ba (WI rfl ?_);simp;refine a6 (λi:Nat=>[(4,.int i)]) (λ_=>[]) (λi=>i<=2/\(0<i->a.ao=0)/\(1<i->b.ao=0)) (λi=>2-i) 0 dL ab ?_
 intro i ⟨i1,e,g⟩;have j:=fD a m;have l:=fD b n
 match i,i1,e,g with
 |0,_,_,_=>
  by_cases d:a.ao=0
  .rw[d]at j
   simp[-ax,j];exact aL 1 ab rfl ⟨aa,λ_=>d,aa⟩ aa
  .simp[-ax,j,d]
   unfold ig;rw[ah d]
 |1,_,e,_=>
  have d:=e aa
  by_cases f:b.ao=0
  .rw[f]at l
   simp[-ax,l];exact aL 2 ab rfl ⟨aa,λ_=>d,λ_=>f⟩ aa
  .simp[-ax,l,f]
   unfold ig;rw[ae aa,ah f]
 |2,_,e,g=>
  have d:=e aa
  have f:=g aa
  simp[-ax];unfold ig;rw[ae aa,ae aa]
  exact⟨λh=>by simp[h],λh=>by simp[h]⟩
def ID (a b:ak) (g:a.fits) (i:b.fits):PC yA [a.av,b.av]=some (YD (oN a b)):=by
 refine ba (Wq rfl ?_);unfold oN
 by_cases h:ig a b=0
 .obtain⟨j,l,m⟩:=YC h
  have d:=fQ j;have f:=fQ l;have e:=Iz a b d f m a.start b.start d.start f.start;simp[IB a b g i,h,e]
 .simp[IB a b g i,h]
def YE (a b:ak) (d:a.fits) (e:b.fits):PC yn [a.av,b.av]=some (.bz [.bool (decide (ig a b=0) && !(oN a b).1.isSome),.int (ig a b)]):=by
 refine ba (V4 rfl ?_);have f:(oN a b).2=ig a b:=by unfold oN;split<;>simp_all
 by_cases h:ig a b=0
 .simp[ID a b d e,f,h]
 .simp[ID a b d e,f,h]
end Ab
