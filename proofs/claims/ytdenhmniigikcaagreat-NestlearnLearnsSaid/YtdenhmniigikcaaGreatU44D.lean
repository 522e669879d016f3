/- slices.Concat of lists of words; wordset.Union (SepK over fewer texts); and what it leans on. Condition: none. -/
import Derived.Test.YtdenhmniigikcaaGreatN44P
import Derived.Test.YtdenhmniigikcaaGreatFrz
import Derived.Test.YtdenhmniigikcaaGreatN44Y
import Derived.Test.YtdenhmniigikcaaGreatS44W
set_option linter.all false
set_option maxRecDepth 100000
set_option maxHeartbeats 8000000
open Option renaming some->aa,none->ab
open Bool renaming true->ad,false->ae
open List renaming range->af,replicate->ag,length->ah
namespace Ab
variable{n:Nat}
def aqr{k:Nat}:lR k (ag n .aJ)=ag n .aJ:=by
 induction n with
 |zero=>rfl
 |succ n a=>simp only[sJ,lR,iz,a]
def aqs (n:Nat) (h:0<n) (a:(n:Int)<=1073741824):L BE [.aJ,.int n] []=aa (.sl 0 n 0 0,[⟨ab,ag n .aJ,.live⟩]):=by
 refine S8 (N:=0) ?_;simp only[ll];rw[aC aT,aD ⟨ax,by rw[show(eE:Int)=1073741824 from rfl];exact a⟩]
 simp
def aqt:L BE [.aJ,.int 0] []=aa (.aJ,[]):=S8 (N:=0) rfl
def lP (ps:List al):al:=ps.flatten
variable{ps:List al}
def No{i:Nat}(h:i<ah ps):(lP (ps.take (i+1)))=(lP (ps.take i))++ix ps (i:Int):=by
 unfold lP;rw[pE,dG h,List.flatten_append,bt h];simp
def CZ(i:Nat):ah (lP (ps.take i))<=ah (lP ps):=by
 have:(lP ps)=(lP (ps.take i))++(lP (ps.drop i)):=by unfold lP;rw[<-List.flatten_append,qw]
 rw[this];simp
def aqu{a b:al}(h:ah a+ah b<=n):putAt (a.map iL++ag (n-ah a) .aJ) (ah a) (b.map iL)=(a++b).map iL++ag (n-(ah a+ah b)) .aJ:=by
 unfold putAt;rw[List.take_left' aA,List.drop_append,kf aA]
 simp;omega
def aqv (ps:List al) (H:(ah ps:Int)<=1000000) (h:(ah (lP ps):Int)<=1000000):PC I4 [.aX ae (ps.map bU)]=aa (bU (lP ps)):=by
 refine cB (ak2 rfl ?_);simp;refine bB (λi:Nat=>[(1,.int i),(4,.int (ah (lP (ps.take i)):Int))]) (λ_=>[]) (λi=>i<=ah ps) (λi=>ah ps-i) 0 (by simp[fj,lP]) ax λi i1=>?_
 by_cases o:i<ah ps
 .have e:=No o
  have s:=CZ (ps:=ps) i;have g:=CZ (ps:=ps) (i+1);rw[e,bM]at g;have x:(ah (lP (ps.take (i+1))):Int)=(ah (lP (ps.take i)):Int)+(ah (ix ps (i:Int)):Int):=by rw[e,bM];omega
  generalize (ah (lP (ps.take i)))=A at *;simp[-aK,-List.map_take,o];refine⟨ax,ax,λ_=>⟨ax,a8 (i+1) (by simp[-List.map_take,x]) rfl ax ax⟩⟩
 .have wS:ps.take i=ps:=gN ax
  rw[wS]
  by_cases y:ah (lP ps)=0
  .have u:(lP ps)=[]:=eK y
   have l:∀j:Nat,j<ah ps->ix ps (j:Int)=[]:=λj d=>by
    have:=No d;have g:=CZ (ps:=ps) (j+1);rw[this,bM]at g;exact eK ax
   rw[u];simp[-aK,o,aqt,iz];refine bB (λi:Nat=>[(6,.int i)]) (λ_=>[]) (λi=>i<=ah ps) (λi=>ah ps-i) 0 bS ax λj z=>?_
   by_cases d:j<ah ps
   .have B:=l j d
    simp[-aK,d,B];refine⟨ax,a8 (j+1) aA rfl ax ax⟩
   .simp[d]
  .have C:=aqs (ah (lP ps)) ax ax
   have D : (ah ps<=i)=True:=bz ax
   generalize w:(lP ps)=F at *;simp[-aK,-List.map_replicate,o,C,iz,gl,aqr];refine bB (λi:Nat=>[(6,.int i),(9,.sl 0 (ah F) 0 (ah (lP (ps.take i))))]) (λi=>[⟨ab,(lP (ps.take i)).map iL++ag (ah F-ah (lP (ps.take i))) .aJ,.live⟩]) (λi=>i<=ah ps) (λi=>ah ps-i) 0 (by simp[fj,lP]) ax λj z=>?_
   by_cases d:j<ah ps
   .have e:=No d
    have s:=CZ (ps:=ps) j;have g:=CZ (ps:=ps) (j+1);rw[e,bM]at g;rw[w]at s g;generalize (lP (ps.take j))=A at *;have q:=aqu (a:=A) (b:=ix ps (j:Int)) (n:=ah F) g
    by_cases p:ix ps (j:Int)=[]
    .have m:(lP (ps.take (j+1)))=A:=by rw[e,p];simp
     simp[-aK,-List.map_replicate,-List.map_take,d,p];refine⟨ax,ax,ax,a8 (j+1) (by simp[m]) (by simp only[m]) ax ax⟩
    .have E:0<ah (ix ps (j:Int)):=nc.2 p
     simp[-aK,-List.map_replicate,-List.map_take,d,p];refine⟨ax,ax,λu=>ax,λ_=>⟨ax,ax,a8 (j+1) fX (by simp only[e,bM];rw[<-q]) ax ax⟩⟩
   .have r:ps.take j=ps:=gN ax
    rw[r,w];have G:=GX (σ:=[⟨ab,F.map iL,.live⟩]) (fr:=ae) (b:=0) (xs:=F) (n:=ah F) (st:=.live) rfl aA rfl
    simp[d,G]
def aqw (ps:List al) (a:(ah ps:Int)<=1000000) (h:(ah (lP ps):Int)<=1000000) (b:qR (lP ps)):PC ES [.aX ae (ps.map bU)]=aa (bU (fP (lP ps))):=by
 refine cB (akQ rfl ?_);have d:=aqv ps a h;have e:=Vs (lP ps) ax b
 simp[d,e]
attribute [local simp] pK
theorem aqx{k:Nat}{n:Int}{K:AV->Prop}:ua (.bN (.ik k n)) ab K=K (.ik k n):=rfl
attribute [local simp] aqx GL
def Z6 (l:ak):aO:=⟨ab,l.map .int,if l=[]then .jN else .live⟩
def Yl{l:ak}:ah (fO l)=ah l:=by simp[fO]
def Ym{x:Int}(a:0<=x) (b:x<=255):((UInt8.ofNat x.toNat).toNat:Int)=x:=by
 have:(UInt8.ofNat x.toNat).toNat=x.toNat:=aT
 rw[this];omega
def Yn (l:ak) (g:∀x∈l,0<=x/\x<=255) (u:ah l<=100000):PC Ew [.str (fO l)]=aa (iL l):=by
 refine cB (ala rfl ?_);have p:=Yl (l:=l);have q:(fO l).map (λb=>AV.ik 4 (b.toNat:Int))=l.map (AV.ik 4):=by
  unfold fO;rw[List.map_map];exact fm λx d=>congrArg (AV.ik 4) (Ym (g x d).1 (g x d).2)
 simp[-aK];rw[q,p];refine bB (λi:Nat=>[(4,.sl 0 i 0 i),(1,.int i)]) (λi=>[Z6 (l.take i)]) (λi=>i<=ah l) (λi=>ah l-i) 0 (by simp[fj,Z6]) ax ?_
 intro i r
 by_cases h:i<ah l
 .have tk:=lZ h
  have j:l ≠ []:=λe=>by subst e;simp at h
  have a:min i (ah l)=i:=ta ax
  have d:=g _ (bh (l:=l) (n:=(i:Int)) ax ax)
  have m:=bz (show(ix l (i:Int))<=9223372036854775807 by omega)
  have o:=bz (show(-9223372036854775808:Int)<=(ix l (i:Int))by omega)
  simp[-aK,-List.map_take,h,d.1,o,m,a,Z6];exact⟨iB,ax,ax,a8 (i+1) aA (by rw[tk];simp[j]) ax ax⟩
 .have ei:i=ah l:=by omega
  subst ei;have s:=sw (σ:=[⟨ab,l.map .int,if l=[]then .jN else .live⟩]) (fr:=ae) (b:=0) (xs:=l) rfl iB rfl
  simp[-aK,-List.map_take,Z6,s]
def ctA (c:ak×ak):AV:=.agg [.str (fO c.1),.str (fO c.2)]
def zZ (c:ak×ak):Prop:=(∀x∈c.1,0<=x/\x<=255)/\(∀x∈c.2,0<=x/\x<=255)/\ah c.1+ah c.2<=100000
def Yo (c:ak×ak) (d:zZ c) (w:ak) (m:ah w<=100000):PC I6 [ctA c,iL w]=aa (iL (c.1++(w++c.2))):=by
 refine cB (ak3 rfl ?_);have i:=Yn c.1 d.1 (by have:=d.2.2;omega)
 have j:=Yn c.2 d.2.1 (by have:=d.2.2;omega)
 have g:=B7 [(ae,c.1),(ae,w),(ae,c.2)] aA (by have:=d.2.2;simp[cat];omega)
 have e:[(ae,c.1),(ae,w),(ae,c.2)].map wB=[iL c.1,iL w,iL c.2]:=by simp[wB]
 rw[e]at g;have z:∀l:ak,fO l=[]->l=[]:=λl h=>by
  have:=Yl (l:=l);rw[h]at this;exact eK this.symm
 simp[ctA,i,j,g];refine⟨λa b=>by rw[z _ a,z _ b];simp,λ_=>by simp[cat]⟩
structure Lg where
 n:aS
 ws:al
 cs:List (ak×ak)
 mo:List (ak×Nat×Nat)
 pc:Nat
def aS.lQ (n:aS):ao:=[.int n.ay,.int n.aG,.int n.aM,.int n.aL,.int n.aF,bL n.az,bU n.call,bU n.push,bU n.aH,dw n.aP]
def aS.z6 (n:aS) (w:ak) (c:ak×ak):Int:=if(n.acc (c.1++(w++c.2))).1=ad then 43 else 45
def aS.Dz (n:aS) (w:ak) (c:ak×ak):Int:=(n.acc (c.1++(w++c.2))).2
def aS.iG (n:aS) (w:ak):List (ak×ak)->Int
 | []=>0
 |c::l=>if n.Dz w c ≠ 0 then n.Dz w c else n.iG w l
def aS.gB (n:aS) (cs:List (ak×ak)) (w:ak):ak:=cs.map (n.z6 w)
def Hl (n:aS) (cs:List (ak×ak)) (w:ak):AV:=if n.iG w cs=0 then .bY [.str (fO (n.gB cs w)),.int 0]else .bY [.str [],.int (n.iG w cs)]
def DA (cs:List (ak×ak)):ao:=cs.flatMap λc=>[.str (fO c.1),.str (fO c.2)]
def Np (cs:List (ak×ak)):aO:=⟨aa 2,DA cs,.live⟩
def r9 (mo:List (ak×Nat×Nat)):List (AV×AV):=mo.map λe=>(.str (fO e.1),.sl e.2.2 e.2.1 0 e.2.1)
def o6 (w:ak):List (ak×Nat×Nat)->Option (Nat×Nat)
 | []=>ab
 |e::l=>if e.1=w then aa e.2 else o6 w l
def o7 (w:ak) (q:Nat×Nat):List (ak×Nat×Nat)->List (ak×Nat×Nat)
 | []=>[(w,q)]
 |e::l=>if e.1=w then(w,q)::l else e::o7 w q l
structure LM (S:Lg) (O:Nat->Option aO) (σ:aq):Prop where
 l:aQ σ 3=aa ⟨aa 13,S.n.lQ ++ [bU S.ws,.sl S.pc (2*ah S.cs) 0 (ah S.cs),.cZ 2],.live⟩
 m:aQ σ 2=aa ⟨aa 0,[],.map (r9 S.mo)⟩
 c:aQ σ S.pc=aa (Np S.cs)
 r:∀e∈S.mo,aQ σ e.2.2=aa ⟨ab,((S.n.gB S.cs e.1).take e.2.1).map (.ik 4),.live⟩
 le:∀e∈S.mo,e.2.1<=ah S.cs/\1<=e.2.1/\S.n.iG e.1 (S.cs.take e.2.1)=0
 ok:∀e∈S.mo,eD e.1
 nd:(S.mo.map (·.1)).Nodup
 nb:(S.mo.map (·.2.2)).Nodup
 xx:S.pc ≠ 2/\S.pc ≠ 3
 vN:∀e∈S.mo,e.2.2 ≠ 2/\e.2.2 ≠ 3/\e.2.2 ≠ S.pc
 o:∀i B,O i=aa B->aQ σ i=aa B/\i ≠ 2/\i ≠ 3/\i ≠ S.pc/\∀e∈S.mo,e.2.2 ≠ i
variable{S:Lg}{O:Nat->Option aO}{σ:aq}
def Yp(h:LM S O σ) (a:S.n.Ok) (w:ak) (i:Int) (m:0<=i) (o:i<S.n.aG) (p:ah w<=100000):L Eu [.ptr 3 13 0,iL w,.int i] σ=aa (iL (w ++ [S.n.ay+i]),σ):=by
 refine pa (akT rfl ?_);have b:=h.l;have d:=a.eC;have e:=a.ay;have g:=a.aG;have j:PC qK [.aX ae [iL w,.aX ae [.int (S.n.ay+i)]]]=aa (iL (w ++ [S.n.ay+i])):=by
  have:=B7 [(ae,w),(ae,[S.n.ay+i])] aA (by simp[cat];omega)
  simp[wB,cat]at this;exact this
 simp[-aK,b,aS.lQ,j];omega
def Yq(h:LM S O σ) (a:S.n.Ok) (w x:ak) (c r:Int) (m:0<=c) (o:c<S.n.ay) (p:0<=r) (q:r<S.n.aM) (s:ah w<=100000) (u:ah x<=100000):L Ev [.ptr 3 13 0,iL w,.int c,iL x,.int r] σ=aa (iL (w++c::(x ++ [S.n.ay+S.n.aG+r])),σ):=by
 refine pa (akU rfl ?_);have b:=h.l;have d:=a.eC;have e:=a.ay;have g:=a.aG;have i:=a.aM;have j:PC qK [.aX ae [iL w,.aX ae [.int c],iL x,.aX ae [.int (S.n.ay+S.n.aG+r)]]]=aa (iL (w++c::(x ++ [S.n.ay+S.n.aG+r]))):=by
  have:=B7 [(ae,w),(ae,[c]),(ae,x),(ae,[S.n.ay+S.n.aG+r])] aA (by simp[cat];omega)
  simp[wB,cat]at this;exact this
 simp[-aK,b,aS.lQ,j];omega
end Ab
namespace Ab
attribute [local simp] pK
def Nq{w:ak}(b:eD w):∀{mo:List (ak×Nat×Nat)},(∀e∈mo,eD e.1)->dg (r9 mo) (.str (fO w))=aa ((o6 w mo).map λq=>.sl q.2 q.1 0 q.1)
 | [],_=>rfl
 |e::l,h=>by
  have d:=Nq b (mo:=l) λx g=>h x jC
  show(match fh (.str (fO w)) (.str (fO e.1))with
   |some ad=>aa (aa (AV.sl e.2.2 e.2.1 0 e.2.1))
   |some ae=>dg (r9 l) (.str (fO w))
   |none=>ab)=_
  by_cases q:e.1=w
  .subst q
   simp[fh,o6]
  .have a:fO w ≠ fO e.1:=λi=>q (E5 b (h e aA) i).symm
   simp[fh,a,d,o6,q]
variable{w:ak}
def aqy(i:eD w) (q:Nat×Nat):∀{mo:List (ak×Nat×Nat)},(∀e∈mo,eD e.1)->wJ (r9 mo) (.str (fO w)) (.sl q.2 q.1 0 q.1) ((o6 w mo).map λq=>.sl q.2 q.1 0 q.1)=r9 (o7 w q mo):=by
 intro mo h;cases a:o6 w mo with
 |none=>
  show r9 mo ++ [(.str (fO w),.sl q.2 q.1 0 q.1)]=_;clear h
  induction mo with
  |nil=>rfl
  |cons e l g=>
   simp only[o6]at a;split at a
   .simp at a
   .rename_i b
    simp only[o7,aC b];rw[show r9 (e::o7 w q l)=(.str (fO e.1),.sl e.2.2 e.2.1 0 e.2.1)::r9 (o7 w q l)from rfl,<-g a]
    rfl
 |some z=>
  show jU (r9 mo) (.str (fO w)) (.sl q.2 q.1 0 q.1)=_
  induction mo with
  |nil=>simp[o6]at a
  |cons e l g=>
   show(match fh (.str (fO w)) (.str (fO e.1))with
    |some ad=>(AV.str (fO e.1),AV.sl q.2 q.1 0 q.1)::r9 l
    |_=>(AV.str (fO e.1),AV.sl e.2.2 e.2.1 0 e.2.1)::jU (r9 l) (.str (fO w)) (.sl q.2 q.1 0 q.1))=_
   simp only[o6]at a
   by_cases d:e.1=w
   .subst d
    simp[fh,o7]
    rfl
   .rw[aC d]at a
    have b:fO w ≠ fO e.1:=λj=>d (E5 i (h e aA) j).symm
    simp[fh,b,o7,d,g (λx m=>h x (by simp[m])) a]
    rfl
def tS{w:ak}{q:Nat×Nat}:∀{mo:List (ak×Nat×Nat)},o6 w mo=aa q->(w,q)∈mo
 | [],h=>by simp[o6]at h
 |e::l,h=>by
  simp only[o6]at h;split at h
  .rename_i a
   subst a;simp at h;subst h;simp
  .exact List.mem_cons_of_mem _ (tS h)
def C3{w:ak}{q:Nat×Nat}:∀{mo:List (ak×Nat×Nat)},o6 w (o7 w q mo)=aa q
 | []=>by simp[o6,o7]
 |e::l=>by
  simp only[o7];split
  .simp[o6]
  .rename_i a
   simp[o6,a,C3]
def vy{w:ak}{q:Nat×Nat}{x:ak×Nat×Nat}:∀{mo:List (ak×Nat×Nat)},(mo.map (·.1)).Nodup->(x∈o7 w q mo↔x=(w,q)\/(x∈mo/\x.1 ≠ w))
 | [],_=>by simp[o7]
 |e::l,g=>by
  rw[da,nw]at g;simp only[o7];split
  .rename_i d
   simp only[cC];constructor
   .rintro(a|a)
    .exact .inl a
    .refine .inr ⟨.inr a,λh =>g.1 ?_⟩
     rw[d,<-h];exact wm a
   .rintro(a|⟨a|a,b⟩)
    .exact .inl a
    .exact absurd (a▸d) b
    .exact .inr a
  .rename_i d
   simp only[cC,vy g.2];constructor
   .rintro(a|a|⟨a,b⟩)
    .exact .inr ⟨.inl a,by rw[a];exact d⟩
    .exact .inl a
    .exact .inr ⟨.inr a,b⟩
   .rintro(a|⟨a|a,b⟩)
    .exact .inr (.inl a)
    .exact .inl a
    .exact .inr (.inr ⟨a,b⟩)
def Yr{w:ak}{q:Nat×Nat}:∀{mo:List (ak×Nat×Nat)},(mo.map (·.1)).Nodup->((o7 w q mo).map (·.1)).Nodup
 | [],_=>by simp[o7]
 |e::l,d=>by
  have i :=d;rw[da,nw]at d;simp only[o7];split
  .rename_i g
   rw[da,nw];exact⟨by rw[<-g];exact d.1,d.2⟩
  .rename_i g
   rw[da,nw];refine⟨λj=>?_,Yr d.2⟩;obtain⟨x,m,h⟩:=cJ.1 j;rcases(vy d.2).1 m with a|⟨a,b⟩
   .subst a;exact g h.symm
   .exact d.1 (h ▸wm a)
def z7{g i:Type}{f:g->i}:∀{l:List g},(l.map f).Nodup->∀{x y:g},x∈l->y∈l->f x=f y->x=y
 | [],_,_,_,h,_,_=>by simp at h
 |e::l,d,x,y,j,m,q=>by
  rw[da,nw]at d;rcases cC.1 j with a|a<;>rcases cC.1 m with b|b
  .rw[a,b]
  .exact absurd (cJ.2 ⟨y,b,by rw[<-q,a]⟩) d.1
  .exact absurd (cJ.2 ⟨x,a,by rw[q,b]⟩) d.1
  .exact z7 d.2 a b q
def Yt{w:ak}{q:Nat×Nat}:∀{mo:List (ak×Nat×Nat)},(mo.map (·.1)).Nodup->(mo.map (·.2.2)).Nodup->(∀e∈mo,e.1 ≠ w->e.2.2 ≠ q.2)->((o7 w q mo).map (·.2.2)).Nodup
 | [],_,_,_=>by simp[o7]
 |e::l,g,h,j=>by
  rw[da,nw]at g h;simp only[o7];split
  .rename_i m
   rw[da,nw];refine⟨λn=>?_,h.2⟩;obtain⟨x,d,i⟩:=cJ.1 n;refine j x iU (λo=>g.1 ?_) i
   rw[m,<-o];exact wm d
  .rename_i m
   rw[da,nw];refine⟨λn=>?_,Yt g.2 h.2 λx d=>j x iU⟩
   obtain⟨x,d,i⟩:=cJ.1 n;rcases(vy g.2).1 d with a|⟨a,b⟩
   .subst a;exact j e aA m i.symm
   .exact h.1 (i ▸wm a)
def LM.mark{S:Lg}{O:Nat->Option aO}{σ τ:aq}(h:LM S O σ)(hw:eD w){k b:Nat}(hk:k<ah S.cs) (he:S.n.iG w (S.cs.take (k+1))=0)
  (hb:o6 w S.mo=aa (k,b)\/o6 w S.mo=ab/\k=0/\ah σ<=b)
  (hm:aQ τ 2=aa ⟨aa 0,[],.map (r9 (o7 w (k+1,b) S.mo))⟩)
  (hr:aQ τ b=aa ⟨ab,((S.n.gB S.cs w).take (k+1)).map (.ik 4),.live⟩)
  (ho:∀i,i<ah σ->i ≠ 2->i ≠ b->aQ τ i=aQ σ i):LM {S with mo:=o7 w (k+1,b) S.mo} O τ:=by
 have lt:∀{i:Nat} {B:aO},aQ σ i=aa B->i<ah σ:=fun {i B} q=>by
  exact cX q
 have bn:b ≠ 2/\b ≠ 3/\b ≠ S.pc:=by
  rcases hb with hb|⟨_,_,hb⟩
  .exact h.vN _ (tS hb)
  .have h2:=lt h.m
   have h3:=lt h.l;have h4:=lt h.c;omega
 have be:∀e∈S.mo,e.1 ≠ w->e.2.2 ≠ b:=λe hx fg q=>by
  rcases hb with hb|⟨_,_,hb⟩
  .have:=tS hb
   exact fg (congrArg (·.1) (z7 h.nb hx this q))
  .have:=lt (h.r e hx);omega
 have bo:∀i B,O i=aa B->b ≠ i:=λi B hB q=>by
  obtain⟨h1,_,_,_,h2⟩:=h.o i B hB;rcases hb with hb|⟨_,_,hb⟩
  .exact h2 _ (tS hb) q
  .have:=lt h1;omega
 refine⟨?_,hm,?_,λe hx=>?_,λe hx=>?_,λe hx=>?_,Yr h.nd,Yt h.nd h.nb be,h.xx,λe hx=>?_,λi B hB=>?_⟩
 .rw[ho 3 (lt h.l) ax (Ne.symm bn.2.1)];exact h.l
 .rw[show({S with mo:=o7 w (k+1,b) S.mo}:Lg).pc=S.pc from rfl,ho S.pc (lt h.c) h.xx.1 (Ne.symm bn.2.2)];exact h.c
 .rcases(vy h.nd).1 hx with rfl|⟨hx,fg⟩
  .exact hr
  .rw[ho _ (lt (h.r e hx)) (h.vN e hx).1 (be e hx fg)];exact h.r e hx
 .rcases(vy h.nd).1 hx with rfl|⟨hx,fg⟩
  .exact⟨by show k+1<=ah S.cs;omega,by show 1<=k+1;omega,he⟩
  .exact h.le e hx
 .rcases(vy h.nd).1 hx with rfl|⟨hx,fg⟩
  .exact hw
  .exact h.ok e hx
 .rcases(vy h.nd).1 hx with rfl|⟨hx,fg⟩
  .exact bn
  .exact h.vN e hx
 .obtain⟨h1,h2,h3,h4,h5⟩:=h.o i B hB
  refine⟨by rw[ho i (lt h1) h2 (Ne.symm (bo i B hB))];exact h1,h2,h3,h4,λe hx=>?_⟩
  rcases(vy h.nd).1 hx with rfl|⟨hx,fg⟩
  .exact bo i B hB
  .exact h5 e hx
end Ab
namespace Ab
attribute [local simp] pK
def cj (S T:Lg):Prop:=T.n=S.n/\T.ws=S.ws/\T.cs=S.cs
def tT:∀{cs:List (ak×ak)},ah (DA cs)=2*ah cs
 | []=>rfl
 |c::cs=>by
  show(ah (.str (fO c.1) :: .str (fO c.2)::DA cs:ao))=_;simp[tT (cs:=cs)];omega
def z8 (k b:Nat):AV:=if k=0 then .aJ else .sl b k 0 k
def aqz{k b:Nat}{K:Int->Prop}:GK (z8 k b) K=K k:=by
 unfold z8;split
 .rename_i h;subst h;rfl
 .rfl
def Yu{a b:List (ak×ak)}:DA (a++b)=DA a++DA b:=by simp[DA]
def Yv{cs:List (ak×ak)}{a i:Nat}{K:AV->Prop}{t:Tk K}(h:a+i<ah cs):pT (DA cs) (a*2+i*2) (aa 2) K t=K (.agg [.str (fO (ix cs (i+a:Nat)).1),.str (fO (ix cs (i+a:Nat)).2)]):=by
 have b:cs=cs.take (a+i)++cs[a+i]::cs.drop (a+i+1):=by rw[List.getElem_cons_drop,qw]
 have d:ix cs (i+a:Nat)=cs[a+i]:=by rw[Nat.add_comm,bt h]
 rw[d];unfold pT part;have e:=tT (cs:=cs);simp only[];rw[aD ax]
 have:((DA cs).drop (a*2+i*2)).take 2=[.str (fO cs[a+i].1),.str (fO cs[a+i].2)]:=by
  conv=>lhs;rw[b]
  rw[Yu,List.drop_append_of_le_length (by rw[tT,pA];omega),kf (by rw[tT,pA];omega)]
  rfl
 rw[this]
 rfl
def Nr{n:aS}{w:ak}{c:ak×ak}:∀{l m:List (ak×ak)},n.iG w l=0->n.iG w (l++c::m)=if n.Dz w c ≠ 0 then n.Dz w c else n.iG w m
 | [],_,_=>rfl
 |d::l,m,h=>by
  simp only[aS.iG]at h
  by_cases e:n.Dz w d=0
  .rw[aC fX]at h
   show(if n.Dz w d ≠ 0 then n.Dz w d else n.iG w (l++c::m))=_
   rw[aC fX,Nr h]
  .rw[aD e]at h;exact absurd h e
def Ns{S:Lg}{O:Nat->Option aO}{σ:aq}(h:LM S O σ) (hf:S.n.fits) (vE:∀c∈S.cs,zZ c) (hc0:1<=ah S.cs) (DY:ah S.cs<=1000) (w:ak) (V:eD w) (hl:ah w<=10000):LX L uO [.ptr 3 13 0,iL w] σ (λr τ=>∃T,LM T O τ/\cj S T/\ah σ<=ah τ/\r=Hl S.n S.cs w):=by
 refine akS rfl ?_;have W:=h.l;have hM:=h.m;have hC:=h.c;have ht:=Cb w V ax
 have E:=Nq V h.ok;have Y:∀x,bP 1 (.str x)=ad:=λ_=>rfl;obtain⟨d,b0,uH,hv,hm0,he0⟩:∃d b0,d<=ah S.cs/\ID .aJ ae ((o6 w S.mo).map λq=>.sl q.2 q.1 0 q.1)=z8 d b0/\(o6 w S.mo=aa (d,b0)\/o6 w S.mo=ab/\d=0/\b0=ah σ)/\S.n.iG w (S.cs.take d)=0:=by
  cases z:o6 w S.mo with
  |none=>exact⟨0,ah σ,ax,rfl,.inr ⟨rfl,rfl,rfl⟩,rfl⟩
  |some q=>
   obtain⟨a,b⟩:=q;have:=h.le _ (tS z);refine⟨a,b,this.1,?_,.inl rfl,this.2.2⟩;show AV.sl b a 0 a=z8 a b;unfold z8;rw[if_neg];have:=this.2.1;dsimp only at this;omega
 simp[-aK,ht,W,hM,E,aS.lQ,Y,hv,aqz,hC,Np,tT,ba];refine⟨uH,?_⟩;refine bB (λq:Nat×Lg×aq×Nat=>[(3,z8 (d+q.1) q.2.2.2),(4,.int q.1)]) (λq=>q.2.2.1)
  (λq=>q.1+d<=ah S.cs/\LM q.2.1 O q.2.2.1/\cj S q.2.1/\q.2.1.pc=S.pc/\ah σ<=ah q.2.2.1/\(o6 w q.2.1.mo=aa (d+q.1,q.2.2.2)\/o6 w q.2.1.mo=ab/\d+q.1=0/\q.2.2.2=ah q.2.2.1)/\S.n.iG w (S.cs.take (d+q.1))=0)
  (λq=>ah S.cs-q.1) (0,S,σ,b0) bS ⟨by simpa using uH,h,⟨rfl,rfl,rfl⟩,rfl,bG _,hm0,he0⟩ ?_
 rintro⟨i,T,τ,b⟩ ⟨i0,s,⟨A,X,o⟩,Z,hle,z,he⟩;dsimp only at i0 s A X o Z hle z he ⊢;have W:=s.l;have hM:=s.m;have hC:=s.c;rw[Z,o]at hC;rw[A,X,o,Z]at W;have E:=Nq V s.ok
 by_cases hi:i<ah S.cs-d
 .have F:d+i<ah S.cs:=by omega
  have Dn:=vE _ (bh (l:=S.cs) (n:=((i+d:Nat):Int)) ax ax)
  have hpt:=λK t=>Yv (K:=K) (t:=t) F;have hx:ix S.cs ((i+d:Nat):Int)=S.cs[d+i]:=by rw[Nat.add_comm,bt F]
  have hap:=Nr (c:=ix S.cs ((i+d:Nat):Int)) (m:=S.cs.drop (d+i+1)) he;have I:=Nr (c:=ix S.cs ((i+d:Nat):Int)) (m:=[]) he;have IQ:S.cs.take (d+i) ++ [ix S.cs ((i+d:Nat):Int)]=S.cs.take (d+i+1):=by rw[hx,List.take_append_getElem]
  rw[IQ]at I;rw[hx,List.getElem_cons_drop,qw,<-hx]at hap;generalize ix S.cs ((i+d:Nat):Int)=c at *;have P:=Yo c Dn w ax
  have sN:=Dn.2.2;have R:=B3 S.n hf (c.1++(w++c.2)) (by simp only[bM];omega)
  have hme:S.n.Dz w c=(S.n.acc (c.1++(w++c.2))).2:=rfl;have G:S.n.z6 w c=if(S.n.acc (c.1++(w++c.2))).1=ad then 43 else 45:=rfl
  unfold ctA at P;unfold aS.av at R;rw[hme]at hap I;generalize c.1++(w++c.2)=u at *;generalize hq:S.n.acc u=q at *;obtain⟨qa,qe⟩:=q;dsimp only at *;have N3:=s.vN
  by_cases hz:qe=0
  .subst hz
   have D:(S.n.gB S.cs w).take (d+i+1)=(S.n.gB S.cs w).take (d+i) ++ [S.n.z6 w c]:=by
    unfold aS.gB;rw[<-List.map_take,<-List.map_take,<-IQ,kk];rfl
   have g:=aqy V (d+i+1,b) s.ok;have J:S.n.iG w (S.cs.take (d+i+1))=0:=by rw[I];rfl
   have U:T.n.iG w (T.cs.take (d+i+1))=0:=by rw[A,o];exact J
   have h2l:=cX hM
   by_cases H:d+i=0
   .have M:z8 (d+i) b = .aJ:=aD H
    have y:o6 w T.mo=ab/\b=ah τ:=by
     rcases z with z|⟨z,_,e⟩
     .have:=(s.le _ (tS z)).2.1
      dsimp only at this;omega
     .exact⟨z,e⟩
    have Yw:∀B,aQ (τ ++ [B]) 2=aa ⟨aa 0,[],.map (r9 T.mo)⟩:=λB=>kA hM;have DB:=λB=>kA (τ:=[B]) W;rw[y.1]at E g;have N : r9 T.mo ++ [(.str (fO w),.sl (ah τ) 1 0 1)]=r9 (o7 w (d+i+1,b) T.mo):=by
     rw[<-g];show _=r9 T.mo ++ [(.str (fO w),.sl b (d+i+1) 0 (d+i+1))];rw[y.2,H]
    cases qa<;>simp only[reduceIte,ff]at G<;>simp[-aK,hi,W,hC,Np,aS.lQ,↓hpt,P,R,tT,M,Yw,DB,E,Y]
    .rw[N]
     refine⟨ax,a8 (i+1,{T with mo:=o7 w (d+i+1,b) T.mo},_,b) (by simp[z8,y.2,<-Nat.add_assoc,H]) rfl ⟨aR,?_,⟨A,X,o⟩,Z,by simp[cV];omega,.inl C3,J⟩ aR⟩
     refine s.mark V (by rw[o];exact F) U (.inr ⟨y.1,H,ax⟩) (cQ aT) ?_ λj hj j2 jb=>?_
     .rw[bu ax,tO y.2,A,o,D,G,H];rfl
     .rw[bu ax,fD hj]
    .rw[N]
     refine⟨ax,a8 (i+1,{T with mo:=o7 w (d+i+1,b) T.mo},_,b) (by simp[z8,y.2,<-Nat.add_assoc,H]) rfl ⟨aR,?_,⟨A,X,o⟩,Z,by simp[cV];omega,.inl C3,J⟩ aR⟩
     refine s.mark V (by rw[o];exact F) U (.inr ⟨y.1,H,ax⟩) (cQ aT) ?_ λj hj j2 jb=>?_
     .rw[bu ax,tO y.2,A,o,D,G,H];rfl
     .rw[bu ax,fD hj]
   .have M:z8 (d+i) b = .sl b (d+i) 0 (d+i):=aC H
    have C:o6 w T.mo=aa (d+i,b):=by
     rcases z with z|⟨z,e,_⟩
     .exact z
     .exact absurd e H
    have p:=s.r _ (tS C);have hbp:=s.vN _ (tS C);dsimp only at p hbp;rw[A,o]at p;have hlr:ah (((S.n.gB S.cs w).take (d+i)).map (AV.ik 4))=d+i:=by simp[aS.gB];omega
    generalize N2:((S.n.gB S.cs w).take (d+i)).map (AV.ik 4)=cb at *;rw[C]at E g;have Yw:∀B,aQ (aV τ b B) 2=aa ⟨aa 0,[],.map (r9 T.mo)⟩:=λB=>by rw[bu ax];exact hM
    have DB:=λB=>(bu (Q:=τ) (i:=b) (j:=3) (B:=B) ax).trans W
    have aqA:∀x:AV,ah (cb ++ [x])=d+i+1:=λx=>by rw[bM,hlr];rfl
    cases qa<;>simp only[reduceIte,ff]at G<;>simp[-aK,hi,W,hC,Np,aS.lQ,↓hpt,P,R,tT,M,p,hlr,aqA,DB,Yw,E,Y,ba]
    .rw[show wJ (r9 T.mo) (.str (fO w)) (.sl b (d+i+1) 0 (d+i+1)) ((aa (d+i,b)).map λq=>.sl q.2 q.1 0 q.1)=jU (r9 T.mo) (.str (fO w)) (.sl b (d+i+1) 0 (d+i+1))from rfl]at g
     rw[g];refine⟨ax,ax,a8 (i+1,{T with mo:=o7 w (d+i+1,b) T.mo},_,b) (by simp[z8,<-Nat.add_assoc]) rfl ⟨aR,?_,⟨A,X,o⟩,Z,by simp[cV];omega,.inl C3,J⟩ aR⟩
     refine s.mark V (by rw[o];exact F) U (.inl C) (cQ (by rw[cV];omega)) ?_ λj hj j2 jb=>?_
     .rw[bu ax,cQ (cX p),A,o,D,G,<-N2,kk];rfl
     .rw[bu ax,bu ax]
    .rw[show wJ (r9 T.mo) (.str (fO w)) (.sl b (d+i+1) 0 (d+i+1)) ((aa (d+i,b)).map λq=>.sl q.2 q.1 0 q.1)=jU (r9 T.mo) (.str (fO w)) (.sl b (d+i+1) 0 (d+i+1))from rfl]at g
     rw[g];refine⟨ax,ax,a8 (i+1,{T with mo:=o7 w (d+i+1,b) T.mo},_,b) (by simp[z8,<-Nat.add_assoc]) rfl ⟨aR,?_,⟨A,X,o⟩,Z,by simp[cV];omega,.inl C3,J⟩ aR⟩
     refine s.mark V (by rw[o];exact F) U (.inl C) (cQ (by rw[cV];omega)) ?_ λj hj j2 jb=>?_
     .rw[bu ax,cQ (cX p),A,o,D,G,<-N2,kk];rfl
     .rw[bu ax,bu ax]
  .simp[-aK,hi,W,hC,Np,aS.lQ,↓hpt,P,R,tT,hz]
   refine⟨T,s,⟨A,X,o⟩,hle,?_⟩;have:S.n.iG w S.cs=qe:=by rw[hap,aD hz]
   unfold Hl;rw[this,aC hz]
 .have ek:d+i=ah S.cs:=by omega
  have e0:S.n.iG w S.cs=0:=by
   have:=he
   rwa [ek,gN (bG _)]at this
  have H:d+i ≠ 0:=ax
  have M:z8 (d+i) b = .sl b (d+i) 0 (d+i):=aC H;have C:o6 w T.mo=aa (d+i,b):=by
   rcases z with z|⟨z,e,_⟩
   .exact z
   .exact absurd e H
  have p:=s.r _ (tS C);dsimp only at p;have qT:ah (S.n.gB S.cs w)=d+i:=by simp[aS.gB];omega
  rw[A,o,gN ax]at p
  have hb:bytesOf (((S.n.gB S.cs w).map (AV.ik 4)).take (d+i))=aa (fO (S.n.gB S.cs w)):=by
   rw[gN aT]
   refine E4 λx hx=>?_;obtain⟨c,_,rfl⟩:=cJ.1 hx;unfold aS.z6;split<;>omega
  simp[-aK,hi,M,p,qT,hb];exact⟨T,s,⟨A,X,o⟩,hle,by unfold Hl;rw[aD e0]⟩
end Ab
namespace Ab
attribute [local simp] pK
def mS (O:Nat->Option aO) (b:Nat) (B:aO):Nat->Option aO:=λi=>if i=b then aa B else O i
variable{S:Lg}{O:Nat->Option aO}{σ:aq}
def LM.add(h:LM S O σ) (B:aO):LM S (mS O (ah σ) B) (σ ++ [B]):=by
 refine⟨kA h.l,kA h.m,kA h.c,λe he=>kA (h.r e he),h.le,h.ok,h.nd,h.nb,h.xx,h.vN,λi A hA=>?_⟩;unfold mS at hA;split at hA
 .rename_i hi
  simp at hA;subst hA hi;have h2:=cX h.m;have h3:=cX h.l;have h4:=cX h.c;refine⟨tO rfl,ax,ax,ax,λe he=>?_⟩
  have:=cX (h.r e he);omega
 .obtain⟨h1,h2⟩:=h.o i A hA
  exact⟨kA h1,h2⟩
def LM.pb{b:Nat}{A:aO}(h:LM S (mS O b A) σ) (B:aO):LM S (mS O b B) (aV σ b B):=by
 have hb:=h.o b A (aD rfl);have N:∀{i C},aQ σ i=aa C->i ≠ b->aQ (aV σ b B) i=aa C:=λq hi=>by rw[bu (Ne.symm hi)];exact q
 refine⟨N h.l (Ne.symm hb.2.2.1),N h.m (Ne.symm hb.2.1),N h.c (Ne.symm hb.2.2.2.1),λe he=>N (h.r e he) (hb.2.2.2.2 e he),h.le,h.ok,h.nd,h.nb,h.xx,h.vN,λi C hC=>?_⟩;unfold mS at hC;split at hC
 .rename_i hi
  simp at hC;subst hC hi;exact⟨cQ (cX hb.1),hb.2⟩
 .rename_i hi
  obtain⟨h1,h2⟩:=h.o i C (by unfold mS;rw[aC hi];exact hC)
  exact⟨N h1 hi,h2⟩
def LM.sub{O O' : Nat->Option aO}(h:LM S O σ) (ho:∀i B,O' i=aa B->O i=aa B):LM S O' σ:=⟨h.l,h.m,h.c,h.r,h.le,h.ok,h.nd,h.nb,h.xx,h.vN,λi B hB=>h.o i B (ho i B hB)⟩
structure Lg.Ok (S:Lg):Prop where
 ok:S.n.Ok
 fits:S.n.fits
 cs:∀c∈S.cs,zZ c
 cl:1<=ah S.cs/\ah S.cs<=1000
 ws:∀w∈S.ws,eD w/\ah w<=4000
 wl:ah S.ws<=128
 nd:(S.ws.map (S.n.gB S.cs)).Nodup
variable{T:Lg}
def cj.ok(h:cj S T) (o:S.Ok):T.Ok:=by
 obtain⟨h1,h2,h3⟩:=h;exact⟨by rw[h1];exact o.ok,by rw[h1];exact o.fits,by rw[h3];exact o.cs,by rw[h3];exact o.cl,by rw[h2];exact o.ws,by rw[h2];exact o.wl,by rw[h1,h2,h3];exact o.nd⟩
def cj.trans{U:Lg}(h:cj S T) (g:cj T U):cj S U:=⟨g.1.trans h.1,g.2.1.trans h.2.1,g.2.2.trans h.2.2⟩
def Lg.row (S:Lg) (w:ak):ak:=S.n.gB S.cs w
def Lg.oq (S:Lg):al->Int
 | []=>0
 |w::l=>if S.n.iG w S.cs ≠ 0 then S.n.iG w S.cs else S.oq l
def Nt{S:Lg}{w:ak}:∀{l m:al},S.oq l=0->S.oq (l++w::m)=if S.n.iG w S.cs ≠ 0 then S.n.iG w S.cs else S.oq m
 | [],_,_=>rfl
 |d::l,m,h=>by
  simp only[Lg.oq]at h
  by_cases e:S.n.iG d S.cs=0
  .rw[aC fX]at h
   show(if S.n.iG d S.cs ≠ 0 then S.n.iG d S.cs else S.oq (l++w::m))=_
   rw[aC fX,Nt h]
  .rw[aD e]at h;exact absurd h e
def xz{n:aS}{cs:List (ak×ak)}{w:ak}:eD (n.gB cs w):=λx a=>by
 obtain⟨c,_,rfl⟩:=cJ.1 a;unfold aS.z6;split<;>omega
def vz (S:Lg) (k:Nat):aO:=⟨aa 0,[],.map (sx 0 ((S.ws.take k).map S.row))⟩
def Yx(h:LM S O σ) (A:S.Ok):LX L Es [.ptr 3 13 0] σ (λr τ=>∃T,cj S T/\ah σ<=ah τ/\((S.oq S.ws=0/\LM T (mS O (ah σ) (vz S (ah S.ws))) τ/\r = .bY [.cZ (ah σ),.int 0])\/(S.oq S.ws ≠ 0/\LM T O τ/\r = .bY [.rF,.int (S.oq S.ws)]))):=by
 refine akR rfl ?_;have E:=λB=>kA (τ:=[B]) h.l;simp[-aK,E,aS.lQ];refine bB (λq:Nat×Lg×aq=>[(1,.int q.1)]) (λq=>q.2.2)
  (λq=>q.1<=ah S.ws/\LM q.2.1 (mS O (ah σ) (vz S q.1)) q.2.2/\cj S q.2.1/\ah σ<=ah q.2.2/\S.oq (S.ws.take q.1)=0)
  (λq=>ah S.ws-q.1) (0,S,σ ++ [⟨aa 0,[],.map []⟩]) bS ⟨aA,h.add _,⟨rfl,rfl,rfl⟩,aA,rfl⟩ ?_
 rintro⟨k,T,τ⟩ ⟨U,F,g,hle,p⟩;dsimp only at U F g hle p ⊢;have V:=A.wl
 by_cases s:k<ah S.ws
 .have a:=g.ok A
  have G:=bh (l:=S.ws) (n:=(k:Int)) ax ax
  have H:=A.ws _ G;have d:S.ws.take (k+1)=S.ws.take k ++ [ix S.ws (k:Int)]:=by rw[lZ s]
  have b:=Nt (S:=S) (w:=ix S.ws (k:Int)) (m:=[]) p;have u:=Nt (S:=S) (w:=ix S.ws (k:Int)) (m:=S.ws.drop (k+1)) p;rw[<-d]at b;rw[bt s,List.getElem_cons_drop,qw,<-bt s]at u;obtain⟨r,W, y,N, e, I, P, rfl⟩:=dt (Ns F a.fits a.cs a.cl.1 a.cl.2 (ix S.ws (k:Int)) H.1 ax)
  have z:=g.trans I;rw[g.1,g.2.2]at y
  by_cases j:S.n.iG (ix S.ws (k:Int)) S.cs=0
  .rw[show Hl S.n S.cs (ix S.ws (k:Int)) = .bY [.str (fO (S.row (ix S.ws (k:Int)))),.int 0]from aD j]at y
   have C:=(e.o (ah σ) _ (aD rfl)).1;have X:∀x∈(S.ws.take k).map S.row,eD x:=λx D=>by
    obtain⟨w,_,rfl⟩:=cJ.1 D;exact xz
   have J:S.row (ix S.ws (k:Int))∉(S.ws.take k).map S.row:=λY=>by
    have Q:=A.nd;rw[<-List.take_append_drop (k+1) S.ws,d,kk,kk,uy]at Q;have:=Q.1;rw[uy]at this;exact this.2.2 _ Y _ (by simp[Lg.row]) rfl
   have R:=zt (l:=S.row (ix S.ws (k:Int))) xz 0 _ X;rw[aC J]at R;have K:∀x,bP 1 (.str x)=ad:=λ_=>rfl;have Z:=Fm 0 ((S.ws.take k).map S.row) (S.row (ix S.ws (k:Int)));have M:vz S (k+1)=⟨aa 0,[],.map (sx 0 ((S.ws.take k).map S.row) ++ [(.str (fO (S.row (ix S.ws (k:Int)))),.int (k:Int))])⟩:=by
    unfold vz;rw[d,kk,show[ix S.ws (k:Int)].map S.row=[S.row (ix S.ws (k:Int))]from rfl,Z];simp;omega
   simp[-aK,-List.map_take,s,y,C,vz,R,K];refine⟨ax,a8 (k+1,N, _) aA rfl ⟨aR,?_,z,by simp[cV];omega,by dsimp only;rw[b,if_neg (by simp[j])];rfl⟩ aR⟩
   rw[<-M];exact e.pb _
  .rw[show Hl S.n S.cs (ix S.ws (k:Int)) = .bY [.str [],.int (S.n.iG (ix S.ws (k:Int)) S.cs)]from aC j]at y
   have D:S.oq S.ws=S.n.iG (ix S.ws (k:Int)) S.cs:=by rw[u,aD j]
   simp[-aK,-List.map_take,s,y,j];refine⟨N, z,ax,by rw[D];exact j,e.sub λi B C=>?_,D.symm⟩
   have:=cX (h.o i B C).1;unfold mS;rw[aC ax]
   exact C
 .have ek:k=ah S.ws:=by omega
  subst ek;rw[gN (bG _)]at p;simp[-aK,p];exact⟨T,g,hle,F⟩
end Ab
namespace Ab
attribute [local simp] pK
def aS.rk (n:aS) (w:ak) (k:Nat):al:=(af k).map λ(i:Nat)=>w ++ [n.ay+(i:Int)]
def aS.pX (n:aS) (w:ak) (c:Int) (x:ak) (k:Nat):al:=(af k).map λ(r:Nat)=>w++c::(x ++ [n.ay+n.aG+(r:Int)])
def aS.nY (n:aS) (w:ak) (c:Int) (xs:al):al:=xs.flatMap λx=>n.pX w c x n.aM.toNat
def aS.pY (n:aS) (w:ak) (xs:al) (k:Nat):al:=(af k).flatMap λ(c:Nat)=>n.nY w (c:Int) xs
def aS.gC (n:aS) (xs:al) (ws:al):al:=ws.flatMap λw=>n.rk w n.aG.toNat++n.pY w xs n.ay.toNat
variable{n:aS}{w:ak}{k:Nat}
def Yy:n.rk w (k+1)=n.rk w k ++ [w ++ [n.ay+(k:Int)]]:=by simp[aS.rk,kL]
variable{x:ak}{c:Int}
def Yz:n.pX w c x (k+1)=n.pX w c x k ++ [w++c::(x ++ [n.ay+n.aG+(k:Int)])]:=by simp[aS.pX,kL]
variable{xs:al}
def YA:n.nY w c (xs ++ [x])=n.nY w c xs++n.pX w c x n.aM.toNat:=by simp[aS.nY]
def Hm:n.pY w xs (k+1)=n.pY w xs k++n.nY w (k:Int) xs:=by simp[aS.pY,kL]
variable{ws:al}
def YB:n.gC xs (ws ++ [w])=n.gC xs ws++(n.rk w n.aG.toNat++n.pY w xs n.ay.toNat):=by simp[aS.gC]
def aqB{i:Nat}(h:i<=k):ah (n.pY w xs i)<=ah (n.pY w xs k):=by
 induction h with
 |refl=>exact bG _
 |step _ a=>rw[Hm,bM];omega
def aqC{m:Nat}:ah (n.nY w c (xs.take m))<=ah (n.nY w c xs):=by
 have e:n.nY w c xs=n.nY w c (xs.take m)++n.nY w c (xs.drop m):=by
  unfold aS.nY;rw[<-List.flatMap_append,qw]
 rw[e,bM];omega
variable{σ:aq}
def aqD{vars:ao}{i:Option (Nat×AV)}{Q:Ex->St->Prop}(l:nth vars k = .sl (ah σ) (ah ws) 0 (ah ws)) (h:∀q,Q .fe ⟨eY vars k (.aX q (ws.map iL)),i,σ ++ [⟨ab,ws.map iL,.dead⟩]⟩):W L (.km k) ⟨vars,i,σ ++ [nS ws]⟩ Q:=by
 generalize e:nS ws=B;have m:=tO (B:=B) (rfl:ah σ=ah σ);have n:reach (σ ++ [B]) vd (.sl (ah σ) (ah ws) 0 (ah ws)) []=[ah σ]:=by
  show reach (σ ++ [B]) (11+1) (.sl (ah σ) (ah ws) 0 (ah ws)) []=[ah σ];unfold reach;simp only[m];rw[aC aA,<-e]
  exact UC ws [ah σ]
 have g:aQ (bR (λb=>!([ah σ]:List Nat).contains b) 0 (σ ++ [B])) (ah σ)=aa (nS ws):=by
  rw[nK,m,e];simp
 have a:bR (λb=>([ah σ]:List Nat).contains b) 0 (σ ++ [B])=σ ++ [⟨B.k,B.cells,.dead⟩]:=by
  rw[F4,M4 λj r s=>aT]
  congr 1
  simp[bR]
 have o:=amZ g;have d:(⟨B.k,B.cells,.dead⟩:aO)=⟨ab,ws.map iL,.dead⟩:=by rw[<-e]
 cases p:fJ (σ ++ [B]) (.sl (ah σ) (ah ws) 0 (ah ws))with
 |true=>
  refine⟨0,.fe,_,?_,h ad⟩;simp only[exec,l,n,o,p,a,d]
  rfl
 |false=>
  refine⟨0,.fe,_,?_,h ae⟩;simp only[exec,l,n,o,p,a,d]
  rfl
variable{S:Lg}{O:Nat->Option aO}
def LM.ext{τ:aq}(h:LM S O σ) (he:∀i B,aQ σ i=aa B->aQ τ i=aa B):LM S O τ:=⟨he _ _ h.l,he _ _ h.m,he _ _ h.c,λe hx=>he _ _ (h.r e hx),h.le,h.ok,h.nd,h.nb,h.xx,h.vN,λi B hB=>⟨he _ _ (h.o i B hB).1,(h.o i B hB).2⟩⟩
def aqE(h:LM S O σ) (o:S.Ok) (Z:(ah (S.n.gC S.ws S.ws):Int)<=1000000) (hf:qR (S.n.gC S.ws S.ws)):LX L I0 [.ptr 3 13 0] σ (λr τ=>LM S O τ/\ah σ<=ah τ/\r=bU (fP (S.n.gC S.ws S.ws))):=by
 refine ak0 rfl ?_;have d:=λB:aO=>(h.add B).l;have Mr:=o.wl;obtain⟨DY,D6⟩:=o.ok.ay;obtain⟨hi1,hi2⟩:=o.ok.aG;obtain⟨GC,NX⟩:=o.ok.aM;simp[-aK,d,aS.lQ];refine bB (λk:Nat=>[(1,.int k),(6,.sl (ah σ) (ah (S.n.gC S.ws (S.ws.take k))) 0 (ah (S.n.gC S.ws (S.ws.take k))))]) (λk=>σ ++ [nS (S.n.gC S.ws (S.ws.take k))])
  (λk=>k<=ah S.ws) (λk=>ah S.ws-k) 0 (by simp[fj,aS.gC]) ax ?_
 have hle:∀k,k<=ah S.ws->ah (S.n.gC S.ws (S.ws.take k))<=1000000:=λk _=>by
  have e:S.n.gC S.ws S.ws=S.n.gC S.ws (S.ws.take k)++S.n.gC S.ws (S.ws.drop k):=by
   unfold aS.gC;rw[<-List.flatMap_append,qw]
  rw[e,bM]at Z;omega
 intro k k0
 by_cases hk:k<ah S.ws
 .have J:S.ws.take (k+1)=S.ws.take k ++ [ix S.ws (k:Int)]:=by rw[lZ hk]
  generalize hA:S.n.gC S.ws (S.ws.take k)=A at *;have C:∀B,aQ (σ ++ [B]) (ah σ)=aa B:=λB=>tO rfl;have D:∀A B,aV (σ ++ [A]) (ah σ) B=σ ++ [B]:=λA B=>Xn rfl;have hww:=o.ws _ (bh (l:=S.ws) (n:=(k:Int)) ax ax)
  have a:S.n.gC S.ws (S.ws.take (k+1))=A++(S.n.rk (ix S.ws (k:Int)) S.n.aG.toNat++S.n.pY (ix S.ws (k:Int)) S.ws S.n.ay.toNat):=by rw[J,YB,hA]
  have b:=hle (k+1) ax
  rw[a]at b;generalize hw:ix S.ws (k:Int)=w at *;simp[-aK,-List.map_take,hk,d,aS.lQ,hw];refine bB (λi:Nat=>[(4,.int i),(6,.sl (ah σ) (ah (A++S.n.rk w i)) 0 (ah (A++S.n.rk w i)))]) (λi=>σ ++ [nS (A++S.n.rk w i)]) (λi=>(i:Int)<=S.n.aG) (λi=>(S.n.aG-i).toNat) 0 (by simp[fj,aS.rk]) ax ?_
  intro i i0
  by_cases K:(i:Int)<S.n.aG
  .have M:=λB=>Yp (h.add B) o.ok w i ax K ax
   have N1:ah (A++S.n.rk w i)<=1000000:=by
    simp only[bM,aS.rk,db,lT]at b ⊢;omega
   have F:=Yy (n:=S.n) (w:=w) (k:=i);have ea:A++S.n.rk w (i+1)=(A++S.n.rk w i) ++ [w ++ [S.n.ay+(i:Int)]]:=by rw[F,jg]
   have el:ah A+ah (S.n.rk w (i+1))=ah (A++S.n.rk w i)+1:=by rw[F];simp;omega
   generalize N:A++S.n.rk w i=B at *;simp[-aK,K,M,C,D];refine⟨iB,ax,ax,a8 (i+1) (by simp[el]) (by rw[ea];simp) ax ax⟩
  .have ei:i=S.n.aG.toNat:=by omega
   rw[<-ei]at b a;have arV:ah (A++S.n.rk w i)+ah (S.n.pY w S.ws S.n.ay.toNat)<=1000000:=by
    rw[bM,bM]at b;rw[bM];omega
   have s:S.n.gC S.ws (S.ws.take (k+1))=(A++S.n.rk w i)++S.n.pY w S.ws S.n.ay.toNat:=by rw[a,jg]
   generalize Nu:A++S.n.rk w i=g at *;simp[-aK,K,d,aS.lQ];refine bB (λc:Nat=>[(9,.int c),(6,.sl (ah σ) (ah (g++S.n.pY w S.ws c)) 0 (ah (g++S.n.pY w S.ws c)))]) (λc=>σ ++ [nS (g++S.n.pY w S.ws c)]) (λc=>(c:Int)<=S.n.ay) (λc=>(S.n.ay-c).toNat) 0 (by simp[fj,aS.pY]) ax ?_
   intro c c0
   by_cases P:(c:Int)<S.n.ay
   .have Q:=Hm (n:=S.n) (w:=w) (xs:=S.ws) (k:=c)
    have u:g++S.n.pY w S.ws (c+1)=(g++S.n.pY w S.ws c)++S.n.nY w (c:Int) S.ws:=by rw[Q,jg]
    have G:ah g+ah (S.n.pY w S.ws (c+1))=ah ((g++S.n.pY w S.ws c)++S.n.nY w (c:Int) S.ws):=by rw[<-u,bM]
    have R:ah ((g++S.n.pY w S.ws c)++S.n.nY w (c:Int) S.ws)<=1000000:=by
     have:ah (S.n.pY w S.ws (c+1))<=ah (S.n.pY w S.ws S.n.ay.toNat):=aqB ax
     rw[<-u,bM];omega
    generalize hA3:g++S.n.pY w S.ws c=p at *;have H :=R;rw[bM]at H G;simp[-aK,P,d,aS.lQ];refine bB (λm:Nat=>[(11,.int m),(6,.sl (ah σ) (ah (p++S.n.nY w c (S.ws.take m))) 0 (ah (p++S.n.nY w c (S.ws.take m))))]) (λm=>σ ++ [nS (p++S.n.nY w c (S.ws.take m))]) (λm=>m<=ah S.ws) (λm=>ah S.ws-m) 0 (by simp[fj,aS.nY]) ax ?_
    intro m m0
    by_cases hm:m<ah S.ws
    .have T:S.ws.take (m+1)=S.ws.take m ++ [ix S.ws (m:Int)]:=by rw[lZ hm]
     have Cw:=o.ws _ (bh (l:=S.ws) (n:=(m:Int)) ax ax)
     have U:S.n.nY w c (S.ws.take (m+1))=S.n.nY w c (S.ws.take m)++S.n.pX w c (ix S.ws (m:Int)) S.n.aM.toNat:=by rw[T,YA]
     have Ft:ah (S.n.nY w c (S.ws.take (m+1)))<=ah (S.n.nY w c S.ws):=aqC;generalize hx:ix S.ws (m:Int)=x at *;have y:p++S.n.nY w c (S.ws.take (m+1))=(p++S.n.nY w c (S.ws.take m))++S.n.pX w c x S.n.aM.toNat:=by rw[U,jg]
     have z:ah p+ah (S.n.nY w c (S.ws.take (m+1)))=ah (p++S.n.nY w c (S.ws.take m))+ah (S.n.pX w c x S.n.aM.toNat):=by rw[<-List.length_append,y,bM]
     generalize hA4:p++S.n.nY w c (S.ws.take m)=j at *;simp[-aK,-List.map_take,hm,d,aS.lQ,hx];refine bB (λr:Nat=>[(14,.int r),(6,.sl (ah σ) (ah (j++S.n.pX w c x r)) 0 (ah (j++S.n.pX w c x r)))]) (λr=>σ ++ [nS (j++S.n.pX w c x r)]) (λr=>(r:Int)<=S.n.aM) (λr=>(S.n.aM-r).toNat) 0 (by simp[fj,aS.pX]) ax ?_
     intro r r0
     by_cases V:(r:Int)<S.n.aM
     .have W:=λB=>Yq (h.add B) o.ok w x c r ax P ax V ax ax
      have X:=Yz (n:=S.n) (w:=w) (x:=x) (c:=c) (k:=r);have I:j++S.n.pX w c x (r+1)=(j++S.n.pX w c x r) ++ [w++(c:Int)::(x ++ [S.n.ay+S.n.aG+(r:Int)])]:=by rw[X,jg]
      have Y:ah j+ah (S.n.pX w c x (r+1))=ah (j++S.n.pX w c x r)+1:=by rw[<-List.length_append,I];simp;omega
      have hl4:ah (j++S.n.pX w c x r)<1000000:=by
       have e1:ah (S.n.pX w c x S.n.aM.toNat)=S.n.aM.toNat:=by simp[aS.pX]
       have e2:ah (S.n.pX w c x r)=r:=by simp[aS.pX]
       rw[bM,e2];rw[e1]at z;omega
      generalize N:j++S.n.pX w c x r=B at *;simp[-aK,V,W,C,D];refine⟨iB,ax,ax,a8 (r+1) (by simp[Y]) (by rw[I];simp) ax ax⟩
     .have er:r=S.n.aM.toNat:=by omega
      rw[<-er]at y z;simp[-aK,-List.map_take,V];refine⟨ax,a8 (m+1) (by simp[z]) (by rw[y]) ax ax⟩
    .have em:m=ah S.ws:=by omega
     subst em;simp[-aK,-List.map_take];refine⟨ax,a8 (c+1) (by simp[G]) (by rw[u]) ax ax⟩
   .have ec:c=S.n.ay.toNat:=by omega
    rw[<-ec]at s;simp[-aK,-List.map_take,P];refine⟨ax,a8 (k+1) (by simp[-List.map_take,s]) (by rw[s]) ax ax⟩
 .have ek:k=ah S.ws:=by omega
  subst ek;rw[gN (bG _)];generalize hE:S.n.gC S.ws S.ws=E at *;have hS:=Vs E Z hf;simp[-aK];refine aqD rfl λq=>?_;simp[hS];exact h.ext λi B N=>kA N
end Ab
namespace Ab
attribute [local simp] pK
def Lg.nZ (S:Lg):al->AV
 | []=>.bY [.aJ,.bool ae,.int 0]
 |w::l=>if S.n.iG w S.cs ≠ 0 then .bY [.aJ,.bool ae,.int (S.n.iG w S.cs)]else if S.row w∈S.ws.map S.row then S.nZ l else .bY [iL w,.bool ad,.int 0]
def Lg.tU (S:Lg):AV:=if S.oq S.ws ≠ 0 then .bY [.aJ,.bool ae,.int (S.oq S.ws)]else S.nZ (fP (S.n.gC S.ws S.ws))
def Nv{S:Lg}{O:Nat->Option aO}{σ:aq}(h:LM S O σ) (K:S.Ok) (hz:(ah (S.n.gC S.ws S.ws):Int)<=1000000) (hf:qR (S.n.gC S.ws S.ws)) (M:∀w∈fP (S.n.gC S.ws S.ws),eD w/\ah w<=10000) (Zr:ah (fP (S.n.gC S.ws S.ws))<=1000000):LX L La [.ptr 3 13 0] σ (λr τ=>∃T,cj S T/\LM T O τ/\ah σ<=ah τ/\r=S.tU):=by
 refine akP rfl ?_;obtain⟨r,τ,hc,T,A,hle,hr⟩:=dt (Yx h K);rcases hr with⟨I,N,rfl⟩|⟨I,N,rfl⟩
 .have P:=A.ok K
  have g:S.tU=S.nZ (fP (S.n.gC S.ws S.ws)):=by unfold Lg.tU;rw[aC (by simp[I])]
  have Q:T.n.gC T.ws T.ws=S.n.gC S.ws S.ws:=by rw[A.1,A.2.1]
  obtain⟨r,R,C,V,HJ,rfl⟩:=dt (aqE N P (by rw[Q];exact hz) (by rw[Q];exact hf))
  rw[Q]at C;generalize fP (S.n.gC S.ws S.ws)=E at *;simp[-aK,hc,C];refine bB (λq:Nat×Lg×aq=>[(2,.int q.1)]) (λq=>q.2.2) (λq=>q.1<=ah E/\LM q.2.1 (mS O (ah σ) (vz S (ah S.ws))) q.2.2/\cj S q.2.1/\ah σ<=ah q.2.2/\S.nZ E=S.nZ (E.drop q.1)) (λq=>ah E-q.1) (0,T,R) bS ⟨aA,V,A,aR,rfl⟩ ?_
  rintro⟨k,U,υ⟩ ⟨k0,W,b,D,a⟩;dsimp only at k0 W b D a ⊢
  by_cases F:k<ah E
  .have j:=b.ok K
   have X:=M _ (bh (l:=E) (n:=(k:Int)) ax ax)
   obtain⟨r,G, d,J, y, Y, kB, rfl⟩:=dt (Ns W j.fits j.cs j.cl.1 j.cl.2 (ix E (k:Int)) X.1 ax)
   rw[b.1,b.2.2]at d;have z:=b.trans Y;have hd:E.drop k=ix E (k:Int)::E.drop (k+1):=by rw[bt F,List.getElem_cons_drop]
   rw[hd]at a;have u:LM J O G :=y.sub λi B m=>by
    have:=cX (h.o i B m).1;unfold mS;rw[aC ax]
    exact m
   by_cases e:S.n.iG (ix E (k:Int)) S.cs=0
   .rw[show Hl S.n S.cs (ix E (k:Int)) = .bY [.str (fO (S.row (ix E (k:Int)))),.int 0]from aD e]at d
    have m:=(y.o (ah σ) _ (aD rfl)).1;have hK:∀x∈S.ws.map S.row,eD x:=λx M=>by
     obtain⟨w,_,rfl⟩:=cJ.1 M;exact xz
    have p:=zt (l:=S.row (ix E (k:Int))) xz 0 _ hK;have H:∀x,bP 1 (.str x)=ad:=λ_=>rfl;have Z:vz S (ah S.ws)=⟨aa 0,[],.map (sx 0 (S.ws.map S.row))⟩:=by
     unfold vz;rw[gN (bG _)]
    rw[Z]at m
    by_cases s:S.row (ix E (k:Int))∈S.ws.map S.row
    .rw[aD s]at p
     simp[-aK,-List.mem_map,F,d,m,p,H];refine⟨ax,a8 (k+1,J, G) aA rfl ⟨aR,y, z,aR,?_⟩ aR⟩
     dsimp only;rw[a];show(if _ then _ else _)=_
     rw[aC fX,aD s]
    .rw[aC s]at p
     simp[-aK,-List.mem_map,F,d,m,p,H];refine⟨J, z,u,ax,?_⟩
     rw[g,a];show _=(if _ then _ else _)
     rw[aC fX,aC s]
   .rw[show Hl S.n S.cs (ix E (k:Int)) = .bY [.str [],.int (S.n.iG (ix E (k:Int)) S.cs)]from aC e]at d
    simp[-aK,F,d,e];refine⟨J, z,u,ax,?_⟩
    rw[g,a];show _=(if _ then _ else _)
    rw[aD e]
  .rw[kf ax]at a
   simp[-aK,F];refine⟨U,b,W.sub λi B m=>?_,D,?_⟩
   .have:=cX (h.o i B m).1
    unfold mS;rw[aC ax]
    exact m
   .rw[g,a];rfl
 .simp[-aK,hc,I]
  exact⟨T,A,N,hle,by unfold Lg.tU;rw[aD I]⟩
end Ab
namespace Ab
attribute [local simp] pK
structure Lg.Fit (S:Lg):Prop where
 ok:S.Ok
 hz:(ah (S.n.gC S.ws S.ws):Int)<=1000000
 hf:qR (S.n.gC S.ws S.ws)
 hx:∀w∈fP (S.n.gC S.ws S.ws),eD w/\ah w<=10000
 hl:ah (fP (S.n.gC S.ws S.ws))<=1000000
def Lg.put (S:Lg) (w:ak):Lg:={S with ws:=fP (S.ws ++ [w])}
inductive Cm (E:Lg) (e:Int):Nat->Lg->Prop
 |done (S:Lg):S.Fit->S.tU = .bY [.aJ,.bool ae,.int e]->cj S E->Cm E e 0 S
 |lim (S:Lg) (w:ak):S.Fit->S.tU = .bY [iL w,.bool ad,.int 0]->e=11->(128<ah S.ws+1\/128<((ah S.ws:Int)+1)*S.n.ay)->cj S E->Cm E e 0 S
 |step (k:Nat) (S:Lg) (w:ak):S.Fit->S.tU = .bY [iL w,.bool ad,.int 0]->ah w<=10000->ah S.ws+1<=128->((ah S.ws:Int)+1)*S.n.ay<=128->Cm E e k (S.put w)->Cm E e (k+1) S
variable{S T:Lg}
def cj.symm(h:cj S T):cj T S:=⟨h.1.symm,h.2.1.symm,h.2.2.symm⟩
def cj.oq(h:cj S T):∀l,T.oq l=S.oq l
 | []=>rfl
 |w::l=>by simp only[Lg.oq,h.1,h.2.2,h.oq l]
def cj.row(h:cj S T):T.row=S.row:=by unfold Lg.row;rw[h.1,h.2.2]
def cj.nZ(h:cj S T):∀l,T.nZ l=S.nZ l
 | []=>rfl
 |w::l=>by simp only[Lg.nZ,h.1,h.2.1,h.2.2,h.row,h.nZ l]
def cj.tU(h:cj S T):T.tU=S.tU:=by
 unfold Lg.tU;rw[h.nZ,h.1,h.2.1,h.oq]
def cj.fit(h:cj S T) (g:S.Fit):T.Fit:=⟨h.ok g.ok,by rw[h.1,h.2.1];exact g.hz,by rw[h.1,h.2.1];exact g.hf,by rw[h.1,h.2.1];exact g.hx,by rw[h.1,h.2.1];exact g.hl⟩
variable{E:Lg}{e:Int}{k:Nat}
def Cm.same(h:Cm E e k S):∀{T:Lg},cj S T->Cm E e k T:=by
 induction h with
 |done S hf hm hs=>exact λg=>.done _ (g.fit hf) (by rw[g.tU];exact hm) (g.symm.trans hs)
 |lim S w hf hm he h1 hs=>exact λg=>.lim _ w (g.fit hf) (by rw[g.tU];exact hm) he (by rw[g.1,g.2.1];exact h1) (g.symm.trans hs)
 |step k S w hf hm hw h1 h2 _ ih=>exact fun {T} g=>.step k T w (g.fit hf) (by rw[g.tU];exact hm) hw (by rw[g.2.1];exact h1) (by rw[g.1,g.2.1];exact h2) (ih ⟨g.1,by unfold Lg.put;rw[g.2.1],g.2.2⟩)
variable{O:Nat->Option aO}{σ:aq}
def LM.words{τ:aq}(h:LM S O σ) (ws:al)
  (hl:aQ τ 3=aa ⟨aa 13,S.n.lQ ++ [bU ws,.sl S.pc (2*ah S.cs) 0 (ah S.cs),.cZ 2],.live⟩)
  (ho:∀i,i ≠ 3->aQ τ i=aQ σ i):LM {S with ws:=ws} O τ:=
 ⟨hl,by rw[ho 2 ax];exact h.m,by rw[show({S with ws:=ws}:Lg).pc=S.pc from rfl,ho _ h.xx.2];exact h.c,λe he=>by rw[ho _ (h.vN e he).2.1];exact h.r e he,h.le,h.ok,h.nd,h.nb,h.xx,h.vN,λi B hB=>by
  obtain⟨h1,h2,h3,h4⟩:=h.o i B hB;exact⟨by rw[ho i h3];exact h1,h2,h3,h4⟩⟩
def YC(h:LM S O σ) (K:Cm E e k S):LX L KZ [.ptr 3 13 0] σ (λr τ=>∃T,cj T E/\LM T O τ/\ah σ<=ah τ/\r = .int e):=by
 refine akv rfl ?_;simp[-aK];refine bB (λq:Nat×Lg×aq=>[]) (λq=>q.2.2) (λq=>LM q.2.1 O q.2.2/\Cm E e q.1 q.2.1/\ah σ<=ah q.2.2) (λq=>q.1) (k,S,σ) bS ⟨h,K,bG _⟩ ?_
 rintro⟨j,T,τ⟩ ⟨z,o,F⟩;dsimp only at z o F ⊢;cases o with
 |done _ b p A=>
  obtain⟨r,s, d,U,a,g,u,rfl⟩:=dt (Nv z b.ok b.hz b.hf b.hx b.hl);rw[p]at d;simp[-aK,d];exact⟨U,a.symm.trans A,g,ax⟩
 |lim _ w b p I J A=>
  obtain⟨r,s, d,U,a,g,u,rfl⟩:=dt (Nv z b.ok b.hz b.hf b.hx b.hl);rw[p]at d;have m:=g.l;rw[a.1,a.2.1,a.2.2]at m;obtain⟨B,M⟩:=b.ok.ok.ay;have N:=b.ok.wl;have P:0<=((ah T.ws:Int)+1)*T.n.ay:=pH ax B
  have Q:((ah T.ws:Int)+1)*T.n.ay<=129*64:=Int.mul_le_mul ax ax B ax
  by_cases C:128<(ah T.ws:Int)+1
  .simp[-aK,d,m,aS.lQ,C]
   exact⟨ax,U,a.symm.trans A,g,ax,I.symm⟩
  .have G:128<((ah T.ws:Int)+1)*T.n.ay:=J.resolve_left ax
   simp[-aK,d,m,aS.lQ,C,G];exact⟨ax,ax,U,a.symm.trans A,g,ax,I.symm⟩
 |step k _ w b p Y J R V=>
  obtain⟨r,s, d,U,a,g,u,rfl⟩:=dt (Nv z b.ok b.hz b.hf b.hx b.hl);rw[p]at d;have m:=g.l;rw[a.1,a.2.1,a.2.2]at m;have x:=aqw [T.ws,[w]] aA (by simp[lP];omega) (by
   intro v D;simp[lP]at D;rcases D with D|rfl
   .have:=(b.ok.ws v D).2;omega
   .omega)
  have H:lP [T.ws,[w]]=T.ws ++ [w]:=by simp[lP]
  rw[H]at x;obtain⟨B,M⟩:=b.ok.ok.ay;have y : PC ES [.aX ae [.aX ae (T.ws.map iL),.aX ae [.aX ae (w.map .int)]]]=aa (bU (fP (T.ws ++ [w]))):=x;have P:0<=((ah T.ws:Int)+1)*T.n.ay:=pH ax B
  have C:=bz R;have W:¬128<((ah T.ws:Int)+1)*T.n.ay:=ax
  have G:=bz (show(ah T.ws:Int)+1<=128 by omega)
  simp[-aK,d,m,aS.lQ,y, C,G,W];refine⟨ax,λh=>absurd h ax,ax,a8 (k,U.put w,_) aA rfl ⟨g.words _ (by rw[a.1,a.2.1,a.2.2];exact cQ (cX g.l)) λi X=>bu (Ne.symm X),V.same ⟨a.1,by unfold Lg.put;rw[a.2.1],a.2.2⟩,by dsimp only;rw[cV];omega⟩ aR⟩
end Ab
namespace Ab
structure DC where
 n:aS
 k:Nat
 fa:Nat->Bool
 fi:Nat->Nat->Int
 fq:Nat->Nat->Nat->Int
def DC.qq (F:DC) (i g r:Nat):Int:=if F.n.ay.toNat=0 then 0 else F.fq i g r
structure Hs (F:DC) (a s J G R:Nat) (A:aS):Prop where
 h1:A.ay=F.n.ay
 h2:A.aG=F.n.aG
 h3:A.aM=F.n.aM
 h4:A.aL=((F.n.aZ F.k:Nat):Int)
 h5:A.aF=0
 h6:A.call=(F.n.eN F.k F.k).call
 h7:A.push=(F.n.eN F.k F.k).push
 la:ah A.az=F.k
 li:ah A.aH=F.k
 rY:∀i,i<F.k->ah (A.dc .bp i)=F.n.aG.toNat
 lp:ah A.aP=F.k
 oZ:∀i,i<F.k->ah (A.cd i)=F.n.aZ F.k
 rZ:∀i g,i<F.k->g<F.n.aZ F.k->ah (A.df i g)=F.n.aM.toNat
 ac:∀i:Nat,i<F.k->ix A.az (i:Int)=if i<a then F.fa i else ae
 bp:∀i j:Nat,i<F.k->j<F.n.aG.toNat->ix (A.dc .bp i) (j:Int)=if i<s\/i=s/\j<J then F.fi i j else 0
 aP:∀i g r:Nat,i<F.k->g<F.n.aZ F.k->r<F.n.aM.toNat->ix (A.df i g) (r:Int)=if i<s\/i=s/\(g<G\/g=G/\r<R)then F.qq i g r else 0
variable{F:DC}
def aqF:Hs F 0 0 0 0 0 (F.n.eN F.k F.k):=by
 refine⟨rfl,rfl,rfl,rfl,rfl,rfl,rfl,by simp[aS.eN],by simp[aS.eN],λi a=>by rw[Mx a];rfl,oY,λi a=>by rw[(l7 a).2.2.2];simp,λi g a b=>by rw[xe a b];simp,λi a=>?_,λi j a d=>?_,λi g r a b e=>?_⟩
 .rw[aC ax];exact lF a
 .rw[aC ax,(l7 a).2.2.1];exact lF d
 .rw[aC ax,xe a b];exact lF e
variable{a s J R:Nat}{A:aS}
def Hs.cv{G:Nat}(h:Hs F a s J G R A) (hk:F.k ≠ 0) (p:Tn->Nat):A.cv p=[.int F.n.ay,.int F.n.aG,.int F.n.aM,.int ((F.n.aZ F.k:Nat):Int),.int 0,.sl (p .ac) F.k 0 F.k,.sl (p (.ls .cl)) F.k 0 F.k,.sl (p (.ls .ps)) F.k 0 F.k,.sl (p (.ls .bp)) F.k 0 F.k,.sl (p .po) F.k 0 F.k]:=by
 have e1:ah A.call=F.k:=by rw[h.h6];exact oX .cl
 have e2:ah A.push=F.k:=by rw[h.h7];exact oX .ps
 unfold aS.cv dh;rw[h.h1,h.h2,h.h3,h.h4,h.h5,h.la,e1,e2,h.li,h.lp,aC hk,aC hk,aC hk,aC hk]
def Hs.oT{G:Nat}(h:Hs F s s J G R A) (hs:s<F.k):Hs F (s+1) s J G R {A with az:=A.az.set s (F.fa s)}:=by
 refine⟨h.h1,h.h2,h.h3,h.h4,h.h5,h.h6,h.h7,by simp[h.la],h.li,h.rY,h.lp,h.oZ,h.rZ,λi hi=>?_,h.bp,h.aP⟩
 show ix (A.az.set s _) (i:Int)=_;rw[jZ (by rw[h.la];exact hs)]
 by_cases e:i=s
 .rw[aD e,aD ax,e]
 .rw[aC e,h.ac i hi]
  by_cases e2:i<s
  .rw[aD e2,aD ax]
  .rw[aC e2,aC ax]
def Hs.oU{G:Nat}(h:Hs F a s J G R A) (hs:s<F.k) (hJ:J<F.n.aG.toNat):Hs F a s (J+1) G R {A with aH:=A.aH.set s ((A.dc .bp s).set J (F.fi s J))}:=by
 have iD:∀s' : Nat,aS.dc {A with aH:=A.aH.set s ((A.dc .bp s).set J (F.fi s J))} .bp s' = if s' = s then(A.dc .bp s).set J (F.fi s J)else A.dc .bp s' :=λs' =>jZ (by rw[h.li];exact hs) s'
 refine⟨h.h1,h.h2,h.h3,h.h4,h.h5,h.h6,h.h7,h.la,by simp[h.li],λi hi=>?_,h.lp,h.oZ,h.rZ,h.ac,λi j hi hj=>?_,h.aP⟩
 .rw[iD]
  split
  .rw[pF];exact h.rY s hs
  .exact h.rY i hi
 .rw[iD]
  by_cases e:i=s
  .rw[aD e,jZ (by rw[h.rY s hs];exact hJ)]
   by_cases e2:j=J
   .rw[aD e2,aD (.inr ⟨e,ax⟩),e,e2]
   .subst e
    rw[aC e2,h.bp i j hi hj]
    by_cases e3:j<J
    .rw[aD (.inr ⟨rfl,e3⟩),aD (.inr ⟨rfl,ax⟩)]
    .rw[aC ax,aC ax]
  .rw[aC e,h.bp i j hi hj]
   by_cases e3:i<s
   .rw[aD (.inl e3),aD (.inl e3)]
   .rw[aC ax,aC ax]
def Hs.oV{G:Nat}(h:Hs F a s J G R A) (hs:s<F.k) (hG:G<F.n.aZ F.k) (hR:R<F.n.aM.toNat):Hs F a s J G (R+1) {A with aP:=A.aP.set s ((A.cd s).set G ((A.df s G).set R (F.qq s G R)))}:=by
 have iD:∀s' : Nat,aS.cd {A with aP:=A.aP.set s ((A.cd s).set G ((A.df s G).set R (F.qq s G R)))} s' = if s' = s then(A.cd s).set G ((A.df s G).set R (F.qq s G R))else A.cd s' :=λs' =>jZ (by rw[h.lp];exact hs) s'
 have oW:∀s' g' : Nat,aS.df {A with aP:=A.aP.set s ((A.cd s).set G ((A.df s G).set R (F.qq s G R)))} s' g' = if s' = s/\g' = G then(A.df s G).set R (F.qq s G R)else A.df s' g' :=λs' g' =>by
  generalize (A.df s G).set R (F.qq s G R)=w at *;unfold aS.df;rw[iD]
  by_cases e:s' = s
  .rw[aD e,jZ (by rw[h.oZ s hs];exact hG)]
   by_cases e2:g' = G
   .rw[aD e2,aD ⟨e,e2⟩]
   .rw[aC e2,aC λa=>e2 a.2,e]
  .rw[aC e,aC λa=>e a.1]
 refine⟨h.h1,h.h2,h.h3,h.h4,h.h5,h.h6,h.h7,h.la,h.li,h.rY,by simp[h.lp],λi hi=>?_,λi g hi hg=>?_,h.ac,h.bp,λi g r hi hg hr=>?_⟩
 .rw[iD]
  split
  .rw[pF];exact h.oZ s hs
  .exact h.oZ i hi
 .rw[oW]
  split
  .rw[pF];exact h.rZ s G hs hG
  .exact h.rZ i g hi hg
 .rw[oW]
  by_cases e:i=s/\g=G
  .rw[aD e,jZ (by rw[h.rZ s G hs hG];exact hR)]
   by_cases e2:r=R
   .rw[aD e2,aD (.inr ⟨e.1,.inr ⟨e.2,ax⟩⟩),e.1,e.2,e2]
   .have hp:=h.aP s G r hs hG hr
    rw[aC e2,hp,e.1,e.2]
    by_cases e3:r<R
    .rw[aD (.inr ⟨rfl,.inr ⟨rfl,e3⟩⟩),aD (.inr ⟨rfl,.inr ⟨rfl,ax⟩⟩)]
    .rw[aC ax,aC ax]
  .rw[aC e,h.aP i g r hi hg hr]
   by_cases e3:i<s\/i=s/\(g<G\/g=G/\r<R)
   .rw[aD e3,aD ax]
   .rw[aC e3,aC ax]
def Hs.CF{G:Nat}(h:Hs F a s J G F.n.aM.toNat A):Hs F a s J (G+1) 0 A:=by
 refine⟨h.h1,h.h2,h.h3,h.h4,h.h5,h.h6,h.h7,h.la,h.li,h.rY,h.lp,h.oZ,h.rZ,h.ac,h.bp,λi g r hi hg hr=>?_⟩;rw[h.aP i g r hi hg hr]
 by_cases e3:i<s\/i=s/\(g<G\/g=G/\r<F.n.aM.toNat)
 .rw[aD e3,aD ax]
 .rw[aC e3,aC ax]
def Hs.CG(h:Hs F (s+1) s F.n.aG.toNat (F.k*F.n.ay.toNat) 0 A):Hs F (s+1) (s+1) 0 0 0 A:=by
 refine⟨h.h1,h.h2,h.h3,h.h4,h.h5,h.h6,h.h7,h.la,h.li,h.rY,h.lp,h.oZ,h.rZ,h.ac,λi j hi hj=>?_,λi g r hi hg hr=>?_⟩
 .rw[h.bp i j hi hj]
  by_cases e3:i<s\/i=s/\j<F.n.aG.toNat
  .rw[aD e3,aD ax]
  .rw[aC e3,aC ax]
 .rw[h.aP i g r hi hg hr]
  by_cases hc:F.n.ay.toNat=0
  .have:F.qq i g r=0:=aD hc
   rw[this];simp
  .have fT:F.n.aZ F.k=max 1 (F.k*F.n.ay.toNat):=rfl
   have:1<=F.k*F.n.ay.toNat:=Nat.mul_pos ax ax
   by_cases e3:i<s\/i=s/\(g<F.k*F.n.ay.toNat\/g=F.k*F.n.ay.toNat/\r<0)
   .rw[aD e3,aD ax]
   .rw[aC e3,aC ax]
def DC.ee (F:DC):aS:=⟨F.n.ay,F.n.aG,F.n.aM,((F.n.aZ F.k:Nat):Int),0,(af F.k).map λi=>F.fa i,(F.n.eN F.k F.k).call,(F.n.eN F.k F.k).push,(af F.k).map λi=>(af F.n.aG.toNat).map λj=>F.fi i j,(af F.k).map λi=>(af (F.n.aZ F.k)).map λg=>(af F.n.aM.toNat).map λr=>F.qq i g r⟩
def Hs.fin(h:Hs F F.k F.k 0 0 0 A):A=F.ee:=by
 obtain⟨c,i,r,sk,s0,ac,cl,ps,bp,po⟩:=A;have e1:c=F.n.ay:=h.h1;have e2:i=F.n.aG:=h.h2;have e3:r=F.n.aM:=h.h3;have e4:sk=((F.n.aZ F.k:Nat):Int):=h.h4;have e5:s0=0:=h.h5;have e6:cl=(F.n.eN F.k F.k).call:=h.h6;have e7:ps=(F.n.eN F.k F.k).push:=h.h7;have e8:ac=(af F.k).map λi=>F.fa i:=pQ h.la λi hi=>by
  have:=h.ac i hi;rw[aD hi]at this;exact this
 have e9:bp=(af F.k).map λi=>(af F.n.aG.toNat).map λj=>F.fi i j:=pQ h.li λi hi=>pQ (h.rY i hi) λj hj=>by
  have:=h.bp i j hi hj;rw[aD (.inl hi)]at this;exact this
 have e10:po=(af F.k).map λi=>(af (F.n.aZ F.k)).map λg=>(af F.n.aM.toNat).map λr=>F.qq i g r:=pQ h.lp λi hi=>pQ (h.oZ i hi) λg hg=>pQ (h.rZ i g hi hg) λr hr=>by
  have:=h.aP i g r hi hg hr;rw[aD (.inl hi)]at this;exact this
 rw[e1,e2,e3,e4,e5,e6,e7,e8,e9,e10];rfl
attribute [local simp] pK
open Classical in
noncomputable def rm (a:Nat->Prop) (σ:aq):Nat->Option aO:=λi=>if a i then aQ σ i else ab
def lL (S:Lg) (N i:Nat):Prop:=i<N/\i ≠ 2/\i ≠ 3/\i ≠ S.pc/\∀e∈S.mo,e.2.2 ≠ i
variable{Dm:Nat->Prop}{σ:aq}{i:Nat}{B:aO}
def sb:rm Dm σ i=aa B↔Dm i/\aQ σ i=aa B:=by
 unfold rm;split
 .rename_i h;simp[h]
 .rename_i h;simp[h]
variable{S:Lg}
def LM.dom{O:Nat->Option aO}(h:LM S O σ) (N:Nat):LM S (rm (lL S N) σ) σ:=
 ⟨h.l,h.m,h.c,h.r,h.le,h.ok,h.nd,h.nb,h.xx,h.vN,λi B hB=>⟨(sb.1 hB).2,(sb.1 hB).1.2⟩⟩
def LM.old{S:Lg}{O:Nat->Option aO}{σ:aq}(h:LM S O σ){i:Nat}{B:aO}(hB:O i=aa B):lL S (ah σ) i:=⟨cX (h.o i B hB).1,(h.o i B hB).2⟩
variable{T:Lg}{τ:aq}
def LM.goD(h:LM T (rm Dm σ) τ) (hd:∀i,Dm i->i<ah σ):(∀i B,Dm i->aQ σ i=aa B->aQ τ i=aa B)/\LM T (rm Dm τ) τ:=by
 have h1:∀i B,Dm i->aQ σ i=aa B->aQ τ i=aa B:=λi B hi hB=>(h.o i B (sb.2 ⟨hi,hB⟩)).1;refine⟨h1,h.l,h.m,h.c,h.r,h.le,h.ok,h.nd,h.nb,h.xx,h.vN,λi B hB=>?_⟩;obtain⟨hi,hB⟩:=sb.1 hB;have hl:=hd i hi;obtain⟨C,hC⟩:∃C,aQ σ i=aa C:=⟨σ[i],by rw[bE];exact dG hl⟩
 exact⟨hB,(h.o i C (sb.2 ⟨hi,hC⟩)).2⟩
variable{j:Nat}
def LM.Nw(h:LM T (rm Dm σ) σ) (hj:Dm j) (hl:j<ah σ):LM T (rm Dm (aV σ j B)) (aV σ j B):=by
 obtain⟨C,hC⟩:∃C,aQ σ j=aa C:=⟨σ[j],by rw[bE];exact dG hl⟩
 have e:rm Dm σ=mS (rm Dm σ) j C:=by
  funext i
  unfold mS;split
  .rename_i hi;subst hi;exact sb.2 ⟨hj,hC⟩
  .rfl
 rw[e]at h;have:=h.pb B;refine this.sub λi D hD=>?_;obtain⟨hi,hD⟩:=sb.1 hD;unfold mS
 by_cases q:i=j
 .subst q
  rw[cQ hl]at hD;rw[aD rfl];exact hD
 .rw[bu (Ne.symm q)]at hD
  rw[aC q];exact sb.2 ⟨hi,hD⟩
structure HI (F:DC) (S:Lg) (O0:Nat->Option aO) (Dm:Nat->Prop) (d b sm r0:Nat) (A:aS) (T:Lg) (τ:aq):Prop where
 lm:LM T (rm Dm τ) τ
 sa:cj S T
 as:AS A (λt=>fp (F.n.aZ F.k) t+d) τ
 bx:aQ τ b=aa ⟨aa 10,[.int F.n.ay,.int F.n.aG,.int F.n.aM,.int ((F.n.aZ F.k:Nat):Int),.int 0,.sl (1+d) F.k 0 F.k,.sl (6+F.n.aZ F.k+d) F.k 0 F.k,.sl (7+F.n.aZ F.k+d) F.k 0 F.k,.sl (9+F.n.aZ F.k+d) F.k 0 F.k,.sl (10+F.n.aZ F.k+d) F.k 0 F.k],.live⟩
 st:aQ τ sm=aa (vz S (ah S.ws))
 rz:aQ τ r0=aa ⟨aa 10,[.int 0,.int 0,.int 0,.int 0,.int 0,.aJ,.aJ,.aJ,.aJ,.aJ],.live⟩
 ol:∀i B,O0 i=aa B->aQ τ i=aa B
 ln:b<ah τ
structure HD (O0:Nat->Option aO) (Dm:Nat->Prop) (d b sm r0:Nat):Prop where
 fr:∀i,d<=i->i<=b->Dm i
 s:Dm sm/\sm<d
 r:Dm r0/\r0<d
 o:∀i B,O0 i=aa B->Dm i/\i<d
 up:∀i,Dm i->i<=b
variable{O0:Nat->Option aO}{d b sm r0:Nat}{w:ak}
def HI.row(h:HI F S O0 Dm d b sm r0 A T τ) (hd:HD O0 Dm d b sm r0) (ho:S.Ok) (YD:d<=b) (hA:∀t B,A.cont (λt=>fp (F.n.aZ F.k) t+d) t=aa B->fp (F.n.aZ F.k) t+d<b)(hw:eD w) (hl:ah w<=10000) (hz:S.n.iG w S.cs=0):∃T' Z7, L uO [.ptr 3 13 0,iL w] τ=aa (.bY [.str (fO (S.row w)),.int 0],Z7)/\HI F S O0 Dm d b sm r0 A T' Z7 :=by
 have Z8:=h.sa.ok ho;obtain⟨r,Z7, hc,T', hT', j8, arW, rfl⟩:=dt (Ns h.lm Z8.fits Z8.cs Z8.cl.1 Z8.cl.2 w hw hl);rw[h.sa.1,h.sa.2.2,show Hl S.n S.cs w = .bY [.str (fO (S.row w)),.int 0]from aD hz]at hc;have hln:=h.ln;obtain⟨g1,g2⟩:=hT'.goD λi hi=>by have:=hd.up i hi;omega
 refine⟨T', Z7, hc,g2,h.sa.trans j8, h.as.other λt B hB=>?_,g1 _ _ (hd.fr b YD (bG _)) h.bx,g1 _ _ hd.s.1 h.st,g1 _ _ hd.r.1 h.rz,λi B hB=>g1 _ _ (hd.o i B hB).1 (h.ol i B hB),ax⟩
 have h1:=hA t B hB;have h2:=h.as.has t B hB;rw[h2];exact g1 _ _ (hd.fr _ ax ax) h2
def HI.set{A A' : aS}(h:HI F S O0 Dm d b sm r0 A T τ) (hd:HD O0 Dm d b sm r0)(j0:d<=j) (j1:j<b) (ha:AS A' (λt=>fp (F.n.aZ F.k) t+d) (aV τ j B)):HI F S O0 Dm d b sm r0 A' T (aV τ j B):=by
 have hln:=h.ln;have h1:=hd.s.2;have h2:=hd.r.2;exact⟨h.lm.Nw (hd.fr j j0 ax) ax,h.sa,ha,by rw[bu ax];exact h.bx,by rw[bu ax];exact h.st,by rw[bu ax];exact h.rz,λi C hC=>by rw[bu (by have:=(hd.o i C hC).2;omega)];exact h.ol i C hC,by rw[cV];exact hln⟩
def Hs.dom{G:Nat}(h:Hs F a s J G R A){p:Tn->Nat}{t:Tn}(hB:A.cont p t=aa B):∃C,(F.n.eN F.k F.k).cont p t=aa C:=by
 have N4:∀q,ah (A.tb q)=F.k:=λq=>by
  cases q
  .rw[show A.tb .cl=A.call from rfl,h.h6];exact oX .cl
  .rw[show A.tb .ps=A.push from rfl,h.h7];exact oX .ps
  .exact h.li
 cases t with
 |ac=>exact⟨_,rfl⟩
 |ls q=>
  refine⟨_,aC λe=>?_⟩;have h1:=oX (n:=F.n) (k:=F.k) (s:=F.k) q;rw[e]at h1;have:A.tb q=[]:=eK (by rw[N4,<-h1];rfl)
  have hB:(if A.tb q=[]then ab else aa _)=aa B:=hB
  rw[aD this]at hB;simp at hB
 |po=>
  refine⟨_,aC λe=>?_⟩;have h1:=oY (n:=F.n) (k:=F.k) (s:=F.k);rw[e]at h1;have:A.aP=[]:=eK (by rw[h.lp,<-h1];rfl)
  have hB:(if A.aP=[]then ab else aa _)=aa B:=hB
  rw[aD this]at hB;simp at hB
 |rw q i=>
  refine⟨_,aD ?_⟩;rw[oX];have hB:(if i<ah (A.tb q) then aa _ else ab)=aa B:=hB
  rw[N4]at hB;exact dP λe=>by rw[aC e]at hB;simp at hB
 |pr i=>
  refine⟨_,aD ?_⟩;rw[oY];have hB:(if i<ah A.aP then aa _ else ab)=aa B:=hB
  rw[h.lp]at hB;exact dP λe=>by rw[aC e]at hB;simp at hB
 |pg i g=>
  have hB:(if i<ah A.aP/\g<ah (A.cd i) then aa _ else ab)=aa B:=hB
  have YE:i<ah A.aP/\g<ah (A.cd i):=dP λe=>by rw[aC e]at hB;simp at hB
  rw[h.lp]at YE;have h2:=YE.2;rw[h.oZ i YE.1]at h2;refine⟨_,aD ⟨by rw[oY];exact YE.1,?_⟩⟩
  rw[(l7 YE.1).2.2.2];simpa using h2
def aqG{G:Nat}(h:AS A (λt=>fp (F.n.aZ F.k) t+d) σ) (b:Hs F a s J G R A) (g:F.k ≠ 0):aQ σ (9+F.n.aZ F.k+d)=aa ⟨ab,(af F.k).map λi=>jf (fp (F.n.aZ F.k) (.rw .bp i)+d) F.n.aG.toNat,.live⟩:=by
 have:=h.has (.ls .bp) _ (aC λe=>by have:=b.li;rw[show A.aH=[]from e]at this;exact g this.symm)
 rw[show aQ σ (9+F.n.aZ F.k+d)=_ from this];rw[show(ah (A.tb .bp))=F.k from b.li]
 congr 2
 exact fm λi j=>by rw[b.rY i (cE.1 j)]
def aqH{G:Nat}(h:AS A (λt=>fp (F.n.aZ F.k) t+d) σ) (b:Hs F a s J G R A) (g:F.k ≠ 0):aQ σ (10+F.n.aZ F.k+d)=aa ⟨ab,(af F.k).map λi=>jf (fp (F.n.aZ F.k) (.pr i)+d) (F.n.aZ F.k),.live⟩:=by
 have:=h.has .po _ (aC λe=>by have:=b.lp;rw[e]at this;exact g this.symm)
 rw[show aQ σ (10+F.n.aZ F.k+d)=_ from this];rw[b.lp]
 congr 2
 exact fm λi j=>by rw[b.oZ i (cE.1 j)]
def aqI{G:Nat}(h:AS A (λt=>fp (F.n.aZ F.k) t+d) σ) (b:Hs F a s J G R A)(e:i<F.k):aQ σ (fp (F.n.aZ F.k) (.pr i)+d)=aa ⟨ab,(af (F.n.aZ F.k)).map λg=>jf (fp (F.n.aZ F.k) (.pg i g)+d) F.n.aM.toNat,.live⟩:=by
 have:=h.has (.pr i) _ (aD (by rw[b.lp];exact e))
 rw[this,b.oZ i e]
 congr 2
 exact fm λg j=>by rw[b.rZ i g e (cE.1 j)]
variable{n:aS}{xs ws:al}
def YF(a:w∈ws)(b:(i:Int)<n.aG):w ++ [n.ay+(i:Int)]∈n.gC xs ws:=by
 unfold aS.gC;refine oF.2 ⟨w,a,dI.2 (.inl ?_)⟩;exact cJ.2 ⟨i,cE.2 ax,rfl⟩
variable{x:ak}{c r:Nat}
def YG(a:w∈ws) (b:x∈xs)(d:(c:Int)<n.ay) (e:(r:Int)<n.aM):w++(c:Int)::(x ++ [n.ay+n.aG+(r:Int)])∈n.gC xs ws:=by
 unfold aS.gC;refine oF.2 ⟨w,a,dI.2 (.inr ?_)⟩;refine oF.2 ⟨c,cE.2 ax,oF.2 ⟨x,b,cJ.2 ⟨r,cE.2 ax,rfl⟩⟩⟩
def aqJ(a:n.Ok)(b:eD w)(e:(i:Int)<n.aG):eD (w ++ [n.ay+(i:Int)]):=λx d=>by
 have g:=a.ay;have j:=a.aG;rcases dI.1 d with h|h
 .exact b x h
 .simp at h;subst h;omega
def aqK(a:n.Ok)(b:eD w) (d:eD x)(g:(c:Int)<n.ay) (i:(r:Int)<n.aM):eD (w++(c:Int)::(x ++ [n.ay+n.aG+(r:Int)])):=λy e=>by
 have j:=a.ay;have l:=a.aG;have m:=a.aM;rcases dI.1 e with h|h
 .exact b y h
 .rcases cC.1 h with h|h
  .omega
  .rcases dI.1 h with h|h
   .exact d y h
   .simp at h;omega
end Ab
namespace Ab
attribute [local simp] pK
def Lg.sG (S:Lg) (w:ak):Int:=((S.ws.map S.row).idxOf (S.row w):Nat)
def Lg.wd (S:Lg) (i:Nat):ak:=ix S.ws (i:Int)
noncomputable def Lg.tg (S:Lg):DC:=⟨S.n,ah S.ws,λi=>(ix (S.row (S.wd i)) 0==43),λi j=>S.sG (S.wd i ++ [S.n.ay+(j:Int)]),λi g r=>S.sG (S.wd (g/S.n.ay.toNat)++((g%S.n.ay.toNat:Nat):Int)::(S.wd i ++ [S.n.ay+S.n.aG+(r:Int)]))⟩
variable{S:Lg}
theorem rn:S.tg.k=ah S.ws:=rfl
theorem sc:S.tg.n=S.n:=rfl
abbrev gD:aO:=⟨aa 10,[.int 0,.int 0,.int 0,.int 0,.int 0,.aJ,.aJ,.aJ,.aJ,.aJ],.live⟩
def HyP (S:Lg) (O:Nat->Option aO) (σ:aq) (r:AV) (τ:aq):Prop:=∃T p a,cj S T/\LM T (rm a τ) τ/\(∀i B,O i=aa B->a i/\aQ τ i=aa B)/\AS S.tg.ee p τ/\(∀t B,S.tg.ee.cont p t=aa B->a (p t)/\ah σ<p t/\p t<ah τ)/\r = .bY [.agg (S.tg.ee.cv p),.int 0]
def aqL{O:Nat->Option aO}{σ:aq}(h:LM S O σ) (Q:S.Ok) (Ue:1<=ah S.ws) (hkc:ah S.ws*S.n.ay.toNat<=128) (he0:S.oq S.ws=0) (hws:∀w∈S.ws,S.n.iG w S.cs=0)
  (jl:∀w∈S.n.gC S.ws S.ws,S.n.iG w S.cs=0/\S.row w∈S.ws.map S.row):LX L K0 [.ptr 3 13 0] σ (HyP S O σ):=by
 refine akw rfl ?_;obtain⟨r,b,hc,T,hs,hle,hr⟩:=dt (Yx (h.add gD) Q);obtain⟨hT,rfl⟩:LM T (mS (mS O (ah σ) gD) (ah (σ ++ [gD])) (vz S (ah S.ws))) b/\r = .bY [.cZ (ah (σ ++ [gD])),.int 0]:=by
  rcases hr with⟨_,hT,e⟩|⟨he,_,_⟩
  .exact⟨hT,e⟩
  .exact absurd he0 he
 have Mr:=Q.wl;have hL:=hT.l;rw[hs.1,hs.2.1,hs.2.2]at hL;have YH:ah (σ ++ [gD])=ah σ+1:=aA
 rw[YH]at hc hT hle;obtain⟨rv,YI,hF,We,hA⟩:=dt (Wb S.n Q.ok (ah S.ws) ax hkc)
 have G9:=aqF (F:=S.tg);have uH:S.tg.k ≠ 0:=by show (ah S.ws) ≠ 0;omega
 have sN:(S.n.eN (ah S.ws) (ah S.ws)).cv (fp (S.n.aZ (ah S.ws)))=[.int S.n.ay,.int S.n.aG,.int S.n.aM,.int ((S.n.aZ (ah S.ws):Nat):Int),.int 0,.sl 1 (ah S.ws) 0 (ah S.ws),.sl (6+S.n.aZ (ah S.ws)) (ah S.ws) 0 (ah S.ws),.sl (7+S.n.aZ (ah S.ws)) (ah S.ws) 0 (ah S.ws),.sl (9+S.n.aZ (ah S.ws)) (ah S.ws) 0 (ah S.ws),.sl (10+S.n.aZ (ah S.ws)) (ah S.ws) 0 (ah S.ws)]:=G9.cv uH _;rw[sN]at We;subst We;have Wf : L zk [.agg [.int S.n.ay,.int S.n.aG,.int S.n.aM,.int S.n.aL,.int S.n.aF,.aX ae (S.n.az.map .bool),.aX ae (S.n.call.map iL),.aX ae (S.n.push.map iL),.aX ae (S.n.aH.map iL),.aX ae (S.n.aP.map bU)],.int (ah S.ws)] []=aa (.agg [.int S.n.ay,.int S.n.aG,.int S.n.aM,.int ((S.n.aZ (ah S.ws):Nat):Int),.int 0,.sl 1 (ah S.ws) 0 (ah S.ws),.sl (6+S.n.aZ (ah S.ws)) (ah S.ws) 0 (ah S.ws),.sl (7+S.n.aZ (ah S.ws)) (ah S.ws) 0 (ah S.ws),.sl (9+S.n.aZ (ah S.ws)) (ah S.ws) 0 (ah S.ws),.sl (10+S.n.aZ (ah S.ws)) (ah S.ws) 0 (ah S.ws)],YI):=hF;have Mu:=hA.shift b;obtain⟨d,P⟩:∃s,b++YI.map (gl (ah b))=s:=⟨_,rfl⟩;have e1:∀Y:aq,b++(YI.map (gl (ah b))++Y)=d++Y:=λY=>by rw[<-P,jg]
 have e2:ah b+ah YI=ah d:=by rw[<-P];simp
 have e3:ah (b++YI.map (gl (ah b)))=ah d:=by rw[P]
 have eb:∀Y:aO,aQ (d ++ [Y]) (ah d)=aa Y:=λY=>gZ;have es:∀Y Z:aO,aV (d ++ [Y]) (ah d) Z=d ++ [Z]:=λY Z=>vj;have hA1:AS (S.n.eN (ah S.ws) (ah S.ws)) (λt=>fp (S.n.aZ (ah S.ws)) t+ah b) d:=by rw[<-P];exact Mu
 have hLs:∀Y,aQ (d++Y) 3=aQ b 3:=λY=>by rw[<-P,jg,fD (cX hL)]
 simp[-aK,-List.map_replicate,hc,hL,aS.lQ,Wf, iz,lR,e1,e2,e3,eb,es,hLs]
 -- what is kept
 have Z9:∀i B,(mS (mS O (ah σ) gD) (ah σ+1) (vz S (ah S.ws))) i=aa B->lL T (ah d+1) i/\i<ah b:=λi B I=>by
  have h1:=hT.old I;exact⟨⟨by have:=h1.1;omega,h1.2⟩,h1.1⟩
 have hLo:∀i,O i=ab\/i<ah σ:=λi=>by
  cases e:O i with
  |none=>exact .inl rfl
  |some B=>exact .inr (cX (h.o i B e).1)
 have hOO:∀i B,O i=aa B->(mS (mS O (ah σ) gD) (ah σ+1) (vz S (ah S.ws))) i=aa B:=λi B I=>by
  have:=cX (h.o i B I).1;unfold mS;rw[aC ax,aC ax];exact I
 have hOs:(mS (mS O (ah σ) gD) (ah σ+1) (vz S (ah S.ws))) (ah σ+1)=aa (vz S (ah S.ws)):=aD rfl;have hOr:(mS (mS O (ah σ) gD) (ah σ+1) (vz S (ah S.ws))) (ah σ)=aa gD:=by
  unfold mS;rw[aC ax,aD rfl]
 have hD:HD O (lL T (ah d+1)) (ah b) (ah d) (ah σ+1) (ah σ):=by
  refine⟨λi i0 i1=>⟨ax,?_,?_,?_,λe he=>?_⟩,Z9 _ _ hOs,Z9 _ _ hOr,λi B I=>Z9 _ _ (hOO i B I),λi hi=>by have:=hi.1;omega⟩
  .have:=cX hT.m;omega
  .have:=cX hT.l;omega
  .have:=cX hT.c;omega
  .have:=cX (hT.r e he);omega
 have xh:∀{a s J G R:Nat} {A:aS},Hs S.tg a s J G R A->∀t B,A.cont (λt=>fp (S.tg.n.aZ S.tg.k) t+ah b) t=aa B->fp (S.tg.n.aZ S.tg.k) t+ah b<ah d:=λhs t B I=>by
  obtain⟨C,hC⟩:=hs.dom I;exact hA1.lt hC
 have YD:ah b<=ah d:=ax
 have hI0:HI S.tg S O (lL T (ah d+1)) (ah b) (ah d) (ah σ+1) (ah σ) (S.tg.n.eN S.tg.k S.tg.k) T (d ++ [⟨aa 10,[.int S.n.ay,.int S.n.aG,.int S.n.aM,.int ((S.n.aZ (ah S.ws):Nat):Int),.int 0,.sl (1+ah b) (ah S.ws) 0 (ah S.ws),.sl (6+S.n.aZ (ah S.ws)+ah b) (ah S.ws) 0 (ah S.ws),.sl (7+S.n.aZ (ah S.ws)+ah b) (ah S.ws) 0 (ah S.ws),.sl (9+S.n.aZ (ah S.ws)+ah b) (ah S.ws) 0 (ah S.ws),.sl (10+S.n.aZ (ah S.ws)+ah b) (ah S.ws) 0 (ah S.ws)],.live⟩]):=by
  have hex:∀i B,aQ b i=aa B->∀Y,aQ (d++Y) i=aa B:=λi B I Y=>by
   rw[<-P,jg,fD (cX I)];exact I
  exact⟨(hT.ext λi B I=>hex i B I _).dom _,hs,hA1.other λt B I=>fD (hA1.lt I),gZ,hex _ _ (hT.o _ _ hOs).1 _,hex _ _ (hT.o _ _ hOr).1 _,λi B I=>hex _ _ (hT.o _ _ (hOO i B I)).1 _,aA⟩
 refine bB (λq:Nat×aS×Lg×aq=>[(3,.int q.1)]) (λq=>q.2.2.2) (λq=>q.1<=ah S.ws/\Hs S.tg q.1 q.1 0 0 0 q.2.1/\HI S.tg S O (lL T (ah d+1)) (ah b) (ah d) (ah σ+1) (ah σ) q.2.1 q.2.2.1 q.2.2.2) (λq=>ah S.ws-q.1) (0,S.tg.n.eN S.tg.k S.tg.k,T,_) bS ⟨aA,G9,hI0⟩ ?_
 clear hI0 es eb e1 e2 e3 hLs hF Wf Mu hL hc Z9 hOO hOs hOr;rintro⟨s,A,U,υ⟩ ⟨s0,hH,hI⟩;dsimp only at s0 hH hI ⊢
 by_cases u:s<ah S.ws
 .have Ow:=bh (l:=S.ws) (n:=(s:Int)) ax ax
  obtain⟨U1,υ1,DY,M⟩:=hI.row hD Q YD (xh hH) (Q.ws _ Ow).1 (by have:=(Q.ws _ Ow).2;omega) (hws _ Ow)
  have hsi:∀K,si1 (.str (fO (S.row (ix S.ws (s:Int))))) (.int 0) K=K (.ik 4 (ix (S.row (ix S.ws (s:Int))) 0)):=λK=>by
   have hlr:ah (S.row (ix S.ws (s:Int)))=ah S.cs:=by simp[Lg.row,aS.gB]
   have arX:=Q.cl.1;have h0:0<ah (S.row (ix S.ws (s:Int))):=ax
   have hb:=xz (n:=S.n) (cs:=S.cs) (w:=ix S.ws (s:Int)) _ (bh (l:=S.row (ix S.ws (s:Int))) (n:=0) ax ax)
   rw[IH];have e:(fO (S.row (ix S.ws (s:Int))))[(0:Int).toNat]? = aa (UInt8.ofNat (ix (S.row (ix S.ws (s:Int))) 0).toNat):=by
    unfold fO;rw[gP];have:(S.row (ix S.ws (s:Int)))[(0:Int).toNat]? = aa (ix (S.row (ix S.ws (s:Int))) 0):=by
     rw[show((0:Int))=((0:Nat):Int)from rfl,bt h0];exact dG h0
    rw[this];rfl
   rw[e];simp only[bA,Int.le_refl,true_and];rw[Ym hb.1 hb.2]
  have yT:=M.bx;have hL1:=M.lm.l;rw[M.sa.1,M.sa.2.1,M.sa.2.2]at hL1;have Of:=M.as.has .ac _ rfl;rw[show fp (S.tg.n.aZ S.tg.k) .ac+ah b=1+ah b from rfl]at Of;have Wg:=hH.la;simp only[rn,sc]at yT Wg;have aqM:=M.ln;have DB:∀B,aQ (aV υ1 (1+ah b) B) 3=aQ υ1 3:=λB=>by
   have:=cX hT.l;exact bu ax
  simp[-aK,-List.map_replicate,u,DY,↓hsi,yT,Of,Wg,DB,hL1,aS.lQ];have hp1:1+ah b<ah d:=xh hH .ac _ rfl;have hH1:=hH.oT (by rw[rn];exact u)
  have y:=M.set hD (j:=1+ah b) ax hp1 (M.as.oT (l:=A.az.set s (S.tg.fa s)))
  rw[List.map_set]at y;have pD:=Q.ok.ay;have hii:=Q.ok.aG;have Vx:=Q.ok.aM;have hwS:=Q.ws _ Ow;have hfk:∀v,dg (sx 0 (S.ws.map S.row)) (.str (fO (S.row v)))=aa (if S.row v∈S.ws.map S.row then aa (.int (S.sG v))else ab):=λv=>by
   have:=zt (l:=S.row v) xz 0 (S.ws.map S.row) λx hx=>by
    obtain⟨w,_,rfl⟩:=cJ.1 hx;exact xz
   rw[this];simp[Lg.sG]
  have hkf:∀x,bP 1 (.str x)=ad:=λ_=>rfl;have YJ:vz S (ah S.ws)=⟨aa 0,[],.map (sx 0 (S.ws.map S.row))⟩:=by
   unfold vz;rw[gN (bG _)]
  have e2:ix (af (ah S.ws)) (s:Int)=s:=by rw[bt (by simpa using u)];simp
  have e3:ix (af (ah S.ws)) (0+(s:Int)*1)=s:=by rw[<-e2];congr 1;omega
  refine bB (λq:Nat×aS×Lg×aq=>[(11,.int q.1)]) (λq=>q.2.2.2) (λq=>q.1<=S.n.aG.toNat/\Hs S.tg (s+1) s q.1 0 0 q.2.1/\HI S.tg S O (lL T (ah d+1)) (ah b) (ah d) (ah σ+1) (ah σ) q.2.1 q.2.2.1 q.2.2.2) (λq=>S.n.aG.toNat-q.1) (0,_,U1,_) (by simp[fj];rfl) ⟨aA,hH1,y⟩ ?_
  clear y M hL1 DB yT Of Wg aqM DY hI hH hH1;rintro⟨j,A2,U2,υ2⟩ ⟨j0,E,y⟩;dsimp only at j0 E y ⊢
  by_cases hj:j<S.n.aG.toNat
  .have H9:(j:Int)<S.n.aG:=by omega
   have PK:=bz H9;have hbh:=Yp y.lm (by rw[y.sa.1];exact Q.ok) (ix S.ws (s:Int)) j ax (by rw[y.sa.1];exact H9) ax
   rw[y.sa.1]at hbh;have hm:=jl _ (YF (xs:=S.ws) Ow H9);obtain⟨U3,υ3,hc3,z⟩:=y.row hD Q YD (xh E) (aqJ Q.ok hwS.1 H9) aT hm.1
   have W:=hfk (ix S.ws (s:Int) ++ [S.n.ay+(j:Int)]);rw[aD hm.2]at W;have hb3:=z.bx;have hs3:=z.st;rw[YJ]at hs3;have MB:=aqG z.as E uH;have xZ:=z.as.has (.rw .bp s) _ (aD (by rw[show(ah (A2.tb .bp))=ah S.ws from E.li];exact u))
   have qT:=E.rY s u;simp only[rn,sc]at hb3 MB xZ qT;generalize hV:ix S.ws (s:Int) ++ [S.n.ay+(j:Int)]=V at *;simp[-aK,-List.map_replicate,PK,hbh,hV,hc3,hb3,hs3,MB,u,e2,e3,xZ,lE,W,hkf];have hp3:=xh E (.rw .bp s) _ (aD (by rw[show(ah (A2.tb .bp))=ah S.ws from E.li];exact u))
   have Dj:S.tg.fi s j=S.sG V:=by
    show S.sG (S.wd s ++ [S.n.ay+(j:Int)])=_;rw[<-hV];rfl
   have N:=z.set hD (j:=fp (S.tg.n.aZ S.tg.k) (.rw .bp s)+ah b) ax hp3 (z.as.oU (by rw[E.li];exact u) (l:=(A2.dc .bp s).set j (S.tg.fi s j)) aA)
   have Nx:=E.oU (by rw[rn];exact u) (by rw[sc];exact hj)
   refine⟨ax,qT,ax,ax,a8 (j+1,_,U3,_) aA ?_ ⟨aR,Nx,N⟩ aR⟩
   dsimp only;rw[Zb,List.map_set,Dj];rfl
  .have PK:=eG (show ¬(j:Int)<S.n.aG by omega)
   have ej:j=S.tg.n.aG.toNat:=by rw[sc];omega
   rw[ej]at E;have DB:=y.lm.l;rw[y.sa.1,y.sa.2.1,y.sa.2.2]at DB;simp[-aK,-List.map_replicate,PK,DB,aS.lQ];refine bB (λq:Nat×aS×Lg×aq=>[(15,.int q.1)]) (λq=>q.2.2.2) (λq=>q.1<=ah S.ws/\Hs S.tg (s+1) s S.tg.n.aG.toNat (q.1*S.tg.n.ay.toNat) 0 q.2.1/\HI S.tg S O (lL T (ah d+1)) (ah b) (ah d) (ah σ+1) (ah σ) q.2.1 q.2.2.1 q.2.2.2) (λq=>ah S.ws-q.1) (0,A2,U2,υ2) bS ⟨aA,by simpa using E,y⟩ ?_
   clear y DB E;rintro⟨p,A3,U3,υ3⟩ ⟨p0,YK,z⟩;dsimp only at p0 YK z ⊢
   by_cases hp:p<ah S.ws
   .have hwp:=bh (l:=S.ws) (n:=(p:Int)) ax ax
    have hwP:=Q.ws _ hwp;have hL3:=z.lm.l;rw[z.sa.1,z.sa.2.1,z.sa.2.2]at hL3;simp[-aK,-List.map_replicate,hp,hL3,aS.lQ];refine bB (λq:Nat×aS×Lg×aq=>[(18,.int q.1)]) (λq=>q.2.2.2) (λq=>q.1<=S.n.ay.toNat/\Hs S.tg (s+1) s S.tg.n.aG.toNat (p*S.tg.n.ay.toNat+q.1) 0 q.2.1/\HI S.tg S O (lL T (ah d+1)) (ah b) (ah d) (ah σ+1) (ah σ) q.2.1 q.2.2.1 q.2.2.2) (λq=>S.n.ay.toNat-q.1) (0,A3,U3,υ3) bS ⟨aA,YK,z⟩ ?_
    clear z hL3 YK;rintro⟨c,A4,U4,υ4⟩ ⟨c0,Nx,N⟩;dsimp only at c0 Nx N ⊢
    by_cases hc:c<S.n.ay.toNat
    .have Ha:(c:Int)<S.n.ay:=by omega
     have hct:=bz Ha;have hL4:=N.lm.l;rw[N.sa.1,N.sa.2.1,N.sa.2.2]at hL4;simp[-aK,-List.map_replicate,hct,hL4,aS.lQ];refine bB (λq:Nat×aS×Lg×aq=>[(20,.int q.1)]) (λq=>q.2.2.2) (λq=>q.1<=S.n.aM.toNat/\Hs S.tg (s+1) s S.tg.n.aG.toNat (p*S.tg.n.ay.toNat+c) q.1 q.2.1/\HI S.tg S O (lL T (ah d+1)) (ah b) (ah d) (ah σ+1) (ah σ) q.2.1 q.2.2.1 q.2.2.2) (λq=>S.n.aM.toNat-q.1) (0,A4,U4,υ4) bS ⟨aA,Nx,N⟩ ?_
     clear N hL4 Nx;rintro⟨r,A5,U5,υ5⟩ ⟨r0,D,X⟩;dsimp only at r0 D X ⊢
     by_cases hr:r<S.n.aM.toNat
     .have Hb:(r:Int)<S.n.aM:=by omega
      have N5:=bz Hb;have yc:=Yq X.lm (by rw[X.sa.1];exact Q.ok) (ix S.ws (p:Int)) (ix S.ws (s:Int)) c r ax (by rw[X.sa.1];exact Ha) ax (by rw[X.sa.1];exact Hb) ax ax
      rw[X.sa.1]at yc;have hm:=jl _ (YG (xs:=S.ws) hwp Ow Ha Hb);obtain⟨U6,υ6,hc6,H⟩:=X.row hD Q YD (xh D) (aqK Q.ok hwP.1 hwS.1 Ha Hb) aT hm.1
      have W:=hfk (ix S.ws (p:Int)++(c:Int)::(ix S.ws (s:Int) ++ [S.n.ay+S.n.aG+(r:Int)]));rw[aD hm.2]at W;have hb6:=H.bx;have hs6:=H.st;have hL6:=H.lm.l;rw[H.sa.1,H.sa.2.1,H.sa.2.2]at hL6;rw[YJ]at hs6;have G5:=aqH H.as D uH;have FO:=aqI H.as D (i:=s) (by rw[rn];exact u)
      have hG:p*S.tg.n.ay.toNat+c<S.tg.n.aZ S.tg.k:=by
       rw[sc,rn];have h1:p*S.n.ay.toNat+S.n.ay.toNat<=ah S.ws*S.n.ay.toNat:=sZ
       show _<max 1 (ah S.ws*S.n.ay.toNat);omega
      have hGi:(p:Int)*S.n.ay+(c:Int)=((p*S.n.ay.toNat+c:Nat):Int):=s3
      have zD:S.n.aZ (ah S.ws)<=128:=by show max 1 (ah S.ws*S.n.ay.toNat)<=128;omega
      have ZX:=H.as.has (.pg s (p*S.tg.n.ay.toNat+c)) _ (aD ⟨by rw[D.lp];exact u,by rw[D.oZ s u];exact hG⟩)
      have hp6:=xh D (.pg s (p*S.tg.n.ay.toNat+c)) _ (aD ⟨by rw[D.lp];exact u,by rw[D.oZ s u];exact hG⟩)
      have YL:=D.rZ s _ u hG;have LV:0<=(p:Int)*S.n.ay/\(p:Int)*S.n.ay<=128:=by
       have e:(p:Int)*S.n.ay=((p*S.n.ay.toNat:Nat):Int):=qt
       have:p*S.tg.n.ay.toNat=p*S.n.ay.toNat:=rfl;have:S.tg.n.aZ S.tg.k=S.n.aZ (ah S.ws):=rfl;omega
      have ZY:S.tg.qq s (p*S.tg.n.ay.toNat+c) r=S.sG (ix S.ws (p:Int)++(c:Int)::(ix S.ws (s:Int) ++ [S.n.ay+S.n.aG+(r:Int)])):=by
       unfold DC.qq;rw[sc,aC ax]
       show S.sG (S.wd ((p*S.n.ay.toNat+c)/S.n.ay.toNat)++(((p*S.n.ay.toNat+c)%S.n.ay.toNat:Nat):Int)::(S.wd s ++ [S.n.ay+S.n.aG+(r:Int)]))=_;rw[show(p*S.n.ay.toNat+c)/S.n.ay.toNat=p from by rw[mY,Nat.mul_add_div ax,Nat.div_eq_of_lt hc,Nat.add_zero],show(p*S.n.ay.toNat+c)%S.n.ay.toNat=c from by rw[mY,Nat.mul_add_mod,Nat.mod_eq_of_lt hc]]
       rfl
      have hH7:=D.oV (by rw[rn];exact u) hG (R:=r) (by rw[sc];exact hr)
      have hI7:=H.set hD (j:=fp (S.tg.n.aZ S.tg.k) (.pg s (p*S.tg.n.ay.toNat+c))+ah b) ax hp6 (H.as.oV (by rw[D.lp];exact u) (by rw[D.oZ s u];exact hG) (l:=(A5.df s (p*S.tg.n.ay.toNat+c)).set r (S.tg.qq s (p*S.tg.n.ay.toNat+c) r)) aA)
      generalize hV:ix S.ws (p:Int)++(c:Int)::(ix S.ws (s:Int) ++ [S.n.ay+S.n.aG+(r:Int)])=V at *;simp only[rn,sc]at hb6 G5 FO ZX YL hG hp6;have f2:ix (af (S.n.aZ (ah S.ws))) ((p*S.n.ay.toNat+c:Nat):Int)=p*S.n.ay.toNat+c:=by rw[bt (by simpa using hG)];simp
      rw[show S.tg.n.ay.toNat=S.n.ay.toNat from rfl]at hH7 hI7 ZY;generalize hgd:p*S.n.ay.toNat+c=g at *;have f3:ix (af (S.n.aZ (ah S.ws))) (0+(g:Int)*1)=g:=by rw[<-f2];congr 1;rw[f2];omega
      simp[-aK,-List.map_replicate,N5,yc,hV,hc6,hb6,hs6,hL6,aS.lQ,G5,u,e2,e3,FO,hGi,f2,f3,hG,ZX,W,hkf];refine⟨ax,ax,ax,YL,ax,ax,a8 (r+1,_,U6,_) aA ?_ ⟨aR,?_,hI7⟩ aR⟩
      .dsimp only
       rw[Zb,List.map_set,ZY];rfl
      .subst hgd
       exact hH7
     .have N5:=eG (show ¬(r:Int)<S.n.aM by omega)
      have er:r=S.tg.n.aM.toNat:=by rw[sc];omega
      rw[er]at D;simp[-aK,-List.map_replicate,N5];exact⟨ax,a8 (c+1,A5,U5,υ5) aA rfl ⟨aR,D.CF,X⟩ aR⟩
    .have hct:=eG (show ¬(c:Int)<S.n.ay by omega)
     have ec:c=S.n.ay.toNat:=ax
     have epc:p*S.tg.n.ay.toNat+c=(p+1)*S.tg.n.ay.toNat:=by rw[ec,fG,Nat.one_mul];rfl
     rw[epc]at Nx;simp[-aK,-List.map_replicate,hct];exact⟨ax,a8 (p+1,A4,U4,υ4) aA rfl ⟨aR,Nx,N⟩ aR⟩
   .have ep:p=S.tg.k:=by rw[rn];omega
    rw[ep]at YK;simp[-aK,-List.map_replicate,hp];exact⟨ax,a8 (s+1,A3,U3,υ3) aA rfl ⟨aR,YK.CG,z⟩ aR⟩
 .have es:s=S.tg.k:=by rw[rn];omega
  rw[es]at hH;have MA:=hI.rz;have Dt:=hI.bx;have qT:ah σ<ah υ:=cX MA;have YM:∀B:aO,aQ (aV υ (ah σ) B) (ah σ)=aa B:=λB=>cQ qT;have A1:=λ(ce:CE) (c0 c1 c2 c3 c4 c5 c6 c7 c8 c9:AV)=>pP (ce:=ce) (σ:=aV υ (ah σ) ⟨aa 10,[c0,c1,c2,c3,c4,c5,c6,c7,c8,c9],.live⟩) (n:=ah σ) (YM _);have aqN:=hH.fin;subst aqN;have oW:=hH.cv uH (λt=>fp (S.tg.n.aZ S.tg.k) t+ah b);have hln:=hI.ln;have hr0:=hD.r.2;have fg:∀t C,S.tg.ee.cont (λt=>fp (S.tg.n.aZ S.tg.k) t+ah b) t=aa C->ah b<=fp (S.tg.n.aZ S.tg.k) t+ah b/\fp (S.tg.n.aZ S.tg.k) t+ah b<ah d:=λt C hC=>⟨ax,xh hH t C hC⟩
  simp only[rn,sc]at Dt;simp[-aK,-Bo,u,Dt,MA,YM,A1];refine⟨U,λt=>fp (S.tg.n.aZ S.tg.k) t+ah b,lL T (ah d+1),hI.sa,hI.lm.Nw hD.r.1 qT,λi B I=>⟨(hD.o i B I).1,?_⟩,hI.as.other λt C hC=>bu (by have:=(fg t C hC).1;omega),λt C hC=>?_,?_⟩
  .have:=cX (h.o i B I).1
   rw[bu ax];exact hI.ol i B I
  .obtain⟨h1,h2⟩:=fg t C hC
   refine⟨hD.fr _ h1 (Nat.le_of_lt h2),?_,?_⟩
   .show (ah σ)<fp (S.tg.n.aZ S.tg.k) t+ah b
    omega
   .rw[cV]
    show fp (S.tg.n.aZ S.tg.k) t+ah b<_;omega
  .rw[oW];rfl
end Ab
namespace Ab
attribute [local simp] pK
structure Lg.Cl (E:Lg):Prop where
 ok:E.Ok
 w1:1<=ah E.ws
 kc:ah E.ws*E.n.ay.toNat<=128
 e0:E.oq E.ws=0
 ws:∀w∈E.ws,E.n.iG w E.cs=0
 cl:∀w∈E.n.gC E.ws E.ws,E.n.iG w E.cs=0/\E.row w∈E.ws.map E.row
variable{S T:Lg}
def cj.tg(h:cj S T):T.tg=S.tg:=by
 unfold Lg.tg Lg.sG Lg.wd;simp only[h.row,h.1,h.2.1]
def cj.cl(h:cj S T) (g:S.Cl):T.Cl:=⟨h.ok g.ok,by rw[h.2.1];exact g.w1,by rw[h.1,h.2.1];exact g.kc,by rw[h.2.1,h.oq];exact g.e0,by rw[h.1,h.2.1,h.2.2];exact g.ws,by rw[h.1,h.2.1,h.2.2,h.row];exact g.cl⟩
def YN{E:Lg}{O:Nat->Option aO}{σ:aq}{k:Nat}(h:LM S O σ) (I:Cm E 0 k S) (J:E.Cl):LX L EG [.ptr 3 13 0] σ (HyP E O σ):=by
 refine S4 rfl ?_;obtain⟨r,K,w,T,x,M,hle,rfl⟩:=dt (YC (h.add gD) I);have a:=x.symm.cl J;obtain⟨r,j,s,U,p,N,y,P,G,Q,H,rfl⟩:=dt (aqL M a.ok a.w1 a.kc a.e0 a.ws a.cl);rw[show T.tg=E.tg from x.symm.tg]at *;have l:ah (σ ++ [gD])=ah σ+1:=aA
 rw[l]at hle;have z:=G (ah σ) gD (by unfold mS;rw[aD rfl])
 have u:ah σ<ah j:=cX z.2;have C:=z.2;have e:E.tg.ee.cv p=[.int E.tg.ee.ay,.int E.tg.ee.aG,.int E.tg.ee.aM,.int E.tg.ee.aL,.int E.tg.ee.aF,jf (p .ac) (ah E.tg.ee.az),dh (p (.ls .cl)) (ah E.tg.ee.call),dh (p (.ls .ps)) (ah E.tg.ee.push),dh (p (.ls .bp)) (ah E.tg.ee.aH),dh (p .po) (ah E.tg.ee.aP)]:=rfl;rw[e]at s;have D:∀b m:Nat,eA (dh b m)=ad:=λb m=>by unfold dh;split<;>rfl
 have g:∀B:aO,aQ (aV j (ah σ) B) (ah σ)=aa B:=λB=>cQ u;have F:=λ(ce:CE) (R V W X Y Z c6 c7 c8 c9:AV)=>pP (ce:=ce) (σ:=aV j (ah σ) ⟨aa 10,[R,V,W,X,Y,Z,c6,c7,c8,c9],.live⟩) (n:=ah σ) (g _);generalize d:E.tg.ee=A at *;simp[-aK,-Bo,w,s,C,D,g,F];refine⟨U,p,N,x.symm.trans y,P.Nw z.1 u,λi B q=>?_,?_,λt B q=>?_,?_⟩
 .have hi:=cX (h.o i B q).1
  have:=G i B (by unfold mS;rw[aC ax];exact q)
  exact⟨this.1,by rw[bu ax];exact this.2⟩
 .rw[d]
  exact Q.other λt B q=>bu (by have:=(H t B q).2.1;omega)
 .rw[d]at q
  obtain⟨h1,h2,h3⟩:=H t B q;exact⟨h1,ax,by rw[cV];exact h3⟩
 .rw[d,e]
end Ab
namespace Ab
def YO (p:Bool×ak) (h:p.2=[]):L pL [wB p] []=aa (.emp,[]):=by
 refine BN ?_;obtain⟨b,l⟩:=p;simp only at h;subst h;cases b<;>rfl
def YP (l:ak) (h:l ≠ []) (a:ah l<=100000):L pL [iL l] []=aa (.sl 0 (ah l) 0 (ah l),[Zb l]):=by
 cases l with
 |nil=>exact absurd rfl h
 |cons x l=>
  refine BN ?_;simp only[gw,iL,da];rw[aD]
  .simp
  .simp[isScalar,eE]
   simp at a;omega
def C4{p:Bool×ak}(h:p.2 ≠ []):wB p=iL p.2:=by unfold wB;rw[aC (λe=>h e.2)]
def tV{l:ak}:wB (ae,l)=iL l:=by simp[wB]
def ru (p:Bool×ak) (s:Int):AV:=.agg [wB p,.int s]
def aqO (h:aS) (d:h.Ok) (p:Bool×ak) (C:ah p.2<=100000) (s a:Int) (e:0<=s) (g:s<ah h.az) (l:0<=a) (m:a<h.ay):PC zl [ru p s,h.av,.int a]=aa (ru (ae,p.2 ++ [ix (ix h.push s) a]) (ix (ix h.call s) a)):=by
 refine cB (K5 rfl ?_);obtain⟨o,q,F,G⟩:=d.lens;obtain⟨r,u,H,I⟩:=d.row s e g;have z:=d.call s a e g l m;have A:=d.push s a e g l m;have J:=d.aL;have D:=d.eC;have E:=d.ay;have B:iz 1 .emp = .emp:=rfl
 by_cases i:p.2=[]
 .have b:=YO p i
  have n:∀x:AV,view [⟨aa 2,[.sl 1 1 0 1,x],.live⟩,⟨ab,[.int (ix (ix h.push s) a)],.live⟩] ae 11 (.sl 1 1 0 1)=aa (iL [ix (ix h.push s) a]):=λx=>gY (k:=10) (xs:=[ix (ix h.push s) a]) rfl rfl rfl λ_ _=>rfl;rcases pN p with⟨j,_⟩|j
  .rw[j]at b
   simp[-aK,ru,j,aS.av,b,i,B,m,l,e,g,o,q,r,u,z,A,zX,n,tV]
  .rw[i]at j
   rw[j]at b;have b:L pL [.aX ae []] []=aa (.emp,[]):=b;simp[-aK,ru,j,aS.av,b,i,B,m,l,e,g,o,q,r,u,z,A,zX,n,tV]
 .have b:=YP p.2 i C
  rw[show ru p s = .agg [iL p.2,.int s]by unfold ru;rw[C4 i]]
  have w:gl 1 (Zb p.2)=Zb p.2:=by simp[gl,Zb,B9]
  have y:iz 1 (.sl 0 (ah p.2) 0 (ah p.2)) = .sl 1 (ah p.2) 0 (ah p.2):=rfl;have n:∀x:AV,view [⟨aa 2,[.sl 1 (ah p.2+1) 0 (ah p.2+1),x],.live⟩,⟨ab,(p.2 ++ [ix (ix h.push s) a]).map .int,.live⟩] ae 11 (.sl 1 (ah p.2+1) 0 (ah p.2+1))=aa (iL (p.2 ++ [ix (ix h.push s) a])):=λx=>gY (k:=10) rfl rfl aA λ_ _=>rfl
  simp only[kk,da,List.map_nil]at n;simp[-aK,ru,aS.av,b,w,y,m,l,e,g,o,q,r,u,zX,n,tV];omega
def aqP (h:aS) (b:h.Ok) (p:Bool×ak) (s a:Int) (d:0<=s) (e:s<ah h.az) (i:h.ay<=a) (j:a<h.ay+h.aG):PC zl [ru p s,h.av,.int a]=aa (ru (ae,p.2) (ix (ix h.aH s) (a-h.ay))):=by
 refine cB (K5 rfl ?_);obtain⟨x,y,l,z⟩:=b.lens;obtain⟨A,B,m,C⟩:=b.row s d e;have n:=b.aH s (a-h.ay) d e ax ax
 have q:=b.eC;have r:=b.ay;have u:=b.aG;have o:¬a<h.ay:=ax
 rcases pN p with⟨g,w⟩|g
 .simp[-aK,ru,g,w,aS.av,o,j,i,d,e,l,m,n,zX,tV]
  omega
 .simp[-aK,ru,g,aS.av,o,j,i,d,e,l,m,n,zX,tV]
  omega
def aqQ (h:aS) (b:h.Ok) (p:Bool×ak) (g s a:Int) (D:ah p.2<=100000) (d:0<=s) (e:s<ah h.az) (i:0<=g) (j:g<h.aL) (m:h.ay+h.aG<=a) (n:a<h.ay+h.aG+h.aM):PC zl [ru (ae,p.2 ++ [g]) s,h.av,.int a]=aa (ru (ae,p.2) (ix (ix (ix h.aP s) g) (a-h.ay-h.aG))):=by
 refine cB (K5 rfl ?_);obtain⟨E,F,G,o⟩:=b.lens;obtain⟨H,I,J,q⟩:=b.row s d e;have r:=b.zp s g d e i j;have u:=b.aP s g (a-h.ay-h.aG) d e i j ax ax
 have w:=b.eC;have x:=b.ay;have y:=b.aG;have z:=b.aM;have A:¬a<h.ay:=ax
 have l:¬a<h.ay+h.aG:=ax
 rw[show ru (ae,p.2 ++ [g]) s = .agg [iL (p.2 ++ [g]),.int s]from rfl];have B:ix (p.2 ++ [g]) (ah p.2:Int)=g:=by rw[bt aA];simp
 have C:eL 1 (p.2.map .int ++ [.int g])=ad:=by cases p.2<;>rfl
 simp[-aK,aS.av,A,l,n,m,d,e,i,j,o,q,r,B,u,zX,C,ru,wB];omega
def Lg.DD (S:Lg) (g:Int):ak:=ix S.ws (g.tdiv S.n.ay) ++ [g.tmod S.n.ay]
def Lg.pj (S:Lg) (ps:ak):ak:=ps.flatMap S.DD
variable{S:Lg}{g:Int}
def C5{ps:ak}:S.pj (ps ++ [g])=S.pj ps++S.DD g:=by simp[Lg.pj]
def Ny{S:Lg}{k:Nat}:∀{ps:ak},(∀g∈ps,ah (S.DD g)<=k)->ah (S.pj ps)<=ah ps*k
 | [],_=>by simp[Lg.pj]
 |g::ps,h=>by
  have b:=h g aA
  have d:=Ny (ps:=ps) λx a=>h x gf
  have e:S.pj (g::ps)=S.DD g++S.pj ps:=rfl;rw[e,bM,cT,fG];omega
def Gj(d:S.n.Ok)(a:0<=g/\g<(ah S.ws:Int)*S.n.ay):0<=g.tdiv S.n.ay/\g.tdiv S.n.ay<(ah S.ws:Int)/\0<=g.tmod S.n.ay/\g.tmod S.n.ay<S.n.ay/\0<S.n.ay:=by
 have b:0<S.n.ay:=by
  rcases Int.lt_or_le 0 S.n.ay with h|h
  .exact h
  .have:=d.ay.1
   rw[show S.n.ay=0 by omega,Int.mul_zero]at a
   omega
 rw[Int.tdiv_eq_ediv_of_nonneg a.1,Int.tmod_eq_emod_of_nonneg a.1];exact⟨Int.ediv_nonneg a.1 ax,Int.ediv_lt_of_lt_mul b a.2,Int.emod_nonneg _ ax,Int.emod_lt_of_pos _ b,b⟩
def YQ(a:S.n.Ok)(b:0<=g/\g<(ah S.ws:Int)*S.n.ay) (d:∀w∈S.ws,ah w<=10000):ah (S.DD g)<=10001:=by
 obtain⟨e,h,_⟩:=Gj a b;have:=d _ (bh (l:=S.ws) e h);simp[Lg.DD];omega
variable{O:Nat->Option aO}{σ:aq}
def aqR(h:LM S O σ) (r:S.n.Ok) (p:Bool×ak) (s:Int) (Q:ah p.2<=1024) (B:∀g∈p.2,0<=g/\g<(ah S.ws:Int)*S.n.ay) (C:∀w∈S.ws,ah w<=10000) (R:ah S.ws<=128):L K6 [.ptr 3 13 0,ru p s] σ=aa (wB (ad,S.pj p.2),σ):=by
 refine pa (akB rfl ?_);have I:=h.l;have J:=r.ay
 by_cases u:p.2=[]
 .have m:wB p = .aJ\/wB p=iL []:=by
   rcases pN p with⟨o,_⟩|o
   .exact .inl o
   .rw[u]at o;exact .inr o
  rw[u];unfold ru;rcases m with m|m<;>rw[m]<;>simp[-aK]<;>refine bB (λ_:Unit=>[]) (λ_=>σ) (λ_=>True) (λ_=>0) () rfl trivial ?_<;>intro _ _<;>simp[Lg.pj,wB]
 .rw[show ru p s = .agg [iL p.2,.int s]by unfold ru;rw[C4 u]]
  generalize p.2=ps at *;simp[-aK];refine bB (λi:Nat=>[(3,.int i),(6,wB (ad,S.pj (ps.take i)))]) (λ_=>σ) (λi=>i<=ah ps) (λi=>ah ps-i) 0 (by simp[fj,Lg.pj,wB]) ax ?_
  intro i T
  by_cases b : i<ah ps
  .have q:=B _ (bh (l:=ps) (n:=(i:Int)) ax ax)
   have tk:=lZ b;have d:min i (ah ps)=i:=ta ax
   have U:ah (S.pj (ps.take i))<=i*10001:=by
    have:=Ny (S:=S) (k:=10001) (ps:=ps.take i) λg x =>YQ r (B g (List.mem_of_mem_take x)) C;rw[pA,d]at this;exact this
   have K:=mq 10001 (show i<=1024 by omega)
   obtain⟨g,D⟩:∃g,ix ps (i:Int)=g:=⟨_,rfl⟩;rw[D]at q tk;obtain⟨E,F,m0,M,V⟩:=Gj r q;have N:=C _ (bh (l:=S.ws) E F);have G:PC qK [.aX ae [wB (ad,S.pj (ps.take i)),.aX ae ((ix S.ws (g.tdiv S.n.ay)).map .int),.aX ae [.int (g.tmod S.n.ay)]]]=aa (iL (S.pj (ps.take (i+1)))):=by
    have:=B7 [(ad,S.pj (ps.take i)),(ae,ix S.ws (g.tdiv S.n.ay)),(ae,[g.tmod S.n.ay])] aA (by simp[cat];omega)
    rw[tk,C5];simp[tV,cat]at this;exact this
   have y:¬S.pj (ps.take (i+1))=[]:=by
    rw[tk,C5];simp[Lg.DD]
   have P:wB (ad,S.pj (ps.take (i+1)))=iL (S.pj (ps.take (i+1))):=C4 y;have z:(S.n.ay=0)=False:=eG ax
   have A:(S.n.ay = -1)=False:=eG ax
   have e:=Fi (ad,S.pj (ps.take i));have a:ah (wB (ad,S.pj (ps.take i))).cells=1:=by rw[Uw];rfl
   have j:bW (wB (ad,S.pj (ps.take i)))=ad:=by rcases pN (ad,S.pj (ps.take i))with⟨h,_⟩|h<;>rw[h]<;>rfl
   obtain⟨Y,H⟩:∃Y,wB (ad,S.pj (ps.take i))=Y:=⟨_,rfl⟩;rw[H]at G e a j;simp[-aK,b, I,aS.lQ,D,q.1,q.2,E,F,m0,M,z,A,G,e,H,a,j];exact⟨ax,ax,a8 (i+1) (by simp[P]) rfl ax ax⟩
  .have:i=ah ps:=by omega
   subst this;simp
structure HyF (S:Lg) (H:aS):Prop where
 ok:H.Ok
 k:ah H.az=ah S.ws
 c:H.ay=S.n.ay
 i:H.aG=S.n.aG
 r:H.aM=S.n.aM
 st:H.aL=max 1 ((ah S.ws:Int)*S.n.ay)
def Lg.pre (S:Lg) (H:aS) (y:ak) (i:Int):ak:=S.pj (H.cx H.aF y i).2.reverse
def Lg.DE (S:Lg) (H:aS) (y:ak) (i:Int):ak:=ix S.ws (H.cx H.aF y i).1
def Lg.ask (S:Lg) (H:aS) (y:ak) (i:Int):ak:=S.pre H y i++(S.DE H y i++y.drop i.toNat)
def Lg.ctx (S:Lg) (c:ak×ak):Lg:={S with cs:=S.cs ++ [c]}
variable{H:aS}{y:ak}
def Nz(a:HyF S H)(m:H.word y) (o:H.up y){i:Int}(p:0<=i) (i1:i<=ah y):∀g∈(H.cx H.aF y i).2,0<=g/\g<(ah S.ws:Int)*S.n.ay:=by
 obtain⟨_,_,q⟩:=BZ a.ok m o a.ok.aF p i1;have key:H.ay=0->∀j:Nat,j<=ah y->(H.cx H.aF y j).2=[]:=by
  intro b j
  induction j with
  |zero=>intro _;rfl
  |succ j r=>
   intro z;have e:=BY (n:=H) (s:=H.aF) (w:=y) (i:=j) ax ax
   rw[show((j+1:Nat):Int)=(j:Int)+1 by omega,e]
   have A:=m.2 _ (bh (l:=y) (n:=(j:Int)) ax ax)
   unfold aS.step;rw[aC ax,r ax]
   split<;>rfl
 intro g d;have u:=q g d;have b:H.ay ≠ 0:=λb=>by
  have:=key b i.toNat ax
  rw[show((i.toNat:Nat):Int)=i by omega]at this
  rw[this]at d;simp at d
 have x:=a.ok.ay;have h:=a.ok.eC;rw[a.k]at h;have B:1*1<=(ah S.ws:Int)*S.n.ay:=Int.mul_le_mul ax (by rw[<-a.c];omega) ax ax
 rw[a.st]at u;omega
def aS.imp (H:aS) (y:ak) (i:Nat):Bool×ak:=(decide (i=0),(H.cx H.aF y i).2.reverse)
def aqS(d:H.Ok)(o:H.word y) (r:H.up y){i:Nat}(B:i<ah y):PC zl [ru (ae,(H.imp y i).2) (H.cx H.aF y i).1,H.av,.int (ix y (i:Int))]=aa (ru (ae,(H.cx H.aF y ((i:Int)+1)).2.reverse) (H.cx H.aF y ((i:Int)+1)).1):=by
 obtain⟨b,s,x⟩:=BZ d o r d.aF (i:=i) ax ax
 have z:=(Lo (n:=H) (w:=y) i ax)
 have u:=o.2 _ (bh (l:=y) (n:=(i:Int)) ax ax)
 have a:=r ((i:Int)+1) ax ax
 rw[uZ ax ax]at a
 have A:=o.1;have hlen:ah (H.imp y i).2<=100000:=by
  show(ah (H.cx H.aF y i).2.reverse)<=_;rw[List.length_reverse];omega
 rw[BY ax ax]
 unfold aS.step;unfold aS.jo aS.zo at a
 by_cases j:ix y (i:Int)<H.ay
 .rw[aD j]
  have:=aqO H d (ae,(H.imp y i).2) hlen _ _ b.1 b.2 u.1 j;rw[this];simp[aS.imp]
 .rw[aC j]
  by_cases p:ix y (i:Int)<H.ay+H.aG
  .rw[aD p]
   have:=aqP H d (ae,(H.imp y i).2) _ _ b.1 b.2 ax p
   rw[this]
   rfl
  .rw[aC p]
   rw[aC j,aD ax]at a
   dsimp only at a;have q:(H.cx H.aF y i).2 ≠ []:=λe=>by rw[e]at s;simp at s;omega
   obtain⟨g,l,m⟩:=List.exists_cons_of_ne_nil q;have h:=x g (by rw[m];simp)
   have himp:(H.imp y i).2=l.reverse ++ [g]:=by
    unfold aS.imp;rw[m,List.reverse_cons]
   have:=aqQ H d (ae,l.reverse) g _ _ (by rw[show(H.imp y i).2=(H.cx H.aF y i).2.reverse from rfl,m]at hlen;simp at hlen ⊢;omega) b.1 b.2 h.1 h.2 ax u.2
   rw[himp,this,m]
   rfl
def C6 (p:Bool×ak):gJ (wB p)=iL p.2:=by rcases pN p with⟨h,e⟩|h<;>rw[h]<;>simp[*]
def C7 (p:Bool×ak):ah (wB p).cells=1:=by rw[Uw];rfl
def C8 (p:Bool×ak):bW (wB p)=ad:=by rcases pN p with⟨h,_⟩|h<;>rw[h]<;>rfl
def aqT (p:Bool×ak):wk (wB p)=iL p.2:=by rcases pN p with⟨h,e⟩|h<;>rw[h]<;>simp[*]
def NA{n:aS}{w:ak}(h:(n.acc w).2=0):n.word w:=by
 unfold aS.acc at h;split at h
 .rename_i a;exact absurd h a
 split at h
 .rename_i a;exact absurd h a
 .rename_i a;exact Lq (by simpa[aS.syms]using a)
variable{τ:aq}
def LM.ctx(h:LM S O σ) (c:ak×ak)
  (hl:aQ τ 3=aa ⟨aa 13,S.n.lQ ++ [bU S.ws,.sl S.pc (2*(ah S.cs+1)) 0 (ah S.cs+1),.cZ 2],.live⟩)
  (hc:aQ τ S.pc=aa (Np (S.cs ++ [c]))) (ho:∀i,i ≠ 3->i ≠ S.pc->(∃B,aQ σ i=aa B)->aQ τ i=aQ σ i):LM (S.ctx c) O τ:=by
 have e1:ah (S.ctx c).cs=ah S.cs+1:=by simp[Lg.ctx]
 refine⟨by rw[e1];exact hl,by rw[ho 2 ax (λe=>h.xx.1 e.symm) ⟨_,h.m⟩];exact h.m,hc,λe he=>?_,λe he=>?_,h.ok,h.nd,h.nb,h.xx,h.vN,λi B hB=>?_⟩
 .obtain⟨p1,p2,p3⟩:=h.vN e he
  have hr:=h.r e he;rw[ho _ p2 p3 ⟨_,hr⟩,hr];have hle:=(h.le e he).1;have:((S.ctx c).n.gB (S.ctx c).cs e.1).take e.2.1=(S.n.gB S.cs e.1).take e.2.1:=by
   show(S.n.gB (S.cs ++ [c]) e.1).take e.2.1=_;unfold aS.gB;rw[kk,List.take_append_of_le_length (by simpa using hle)]
  rw[this]
 .obtain⟨q1,q2,q3⟩:=h.le e he
  refine⟨by rw[e1];omega,q2,?_⟩
  show S.n.iG e.1 ((S.cs ++ [c]).take e.2.1)=0;rw[List.take_append_of_le_length q1];exact q3
 .obtain⟨h1,h2,h3,h4,h5⟩:=h.o i B hB
  exact⟨by rw[ho i h3 h4 ⟨_,h1⟩];exact h1,h2,h3,h4,h5⟩
def Hn (O:Nat->Option aO) (τ:aq):Prop:=∀i B,O i=aa B->aQ τ i=aa B
def LM.X6(h:LM S O σ):Hn O σ:=λi B hB=>(h.o i B hB).1
def Hn.ap(h:Hn O σ):Hn O (σ++τ):=λi B hB=>by rw[fD (cX (h i B hB))];exact h i B hB
def aqU(h:LM S O σ) (ho:S.Ok) (H:aS) (hF:HyF S H) (y:ak) (hy:H.word y) (hu:H.up y):LX L KM [.ptr 3 13 0,H.av,iL y] σ (λr τ=>∃e,r = .int e/\((e ≠ 0/\Hn O τ)\/e=0/\∃i:Nat,i<ah y/\LM (S.ctx (S.pre H y (i+1),y.drop (i+1))) O τ/\(S.n.acc y).2=0/\(∀j:Nat,j<=i+1->0<j->(S.n.acc (S.ask H y j)).2=0)/\(∀j:Nat,j<=i->0<j->(S.n.acc (S.ask H y j)).1=(S.n.acc y).1)/\(S.n.acc (S.ask H y (i+1:Nat))).1 ≠ (S.n.acc y).1)):=by
 refine aj4 rfl ?_;have hl:=h.l;have hyl:(ah y:Int)<=1024:=hy.1;have hA:=B3 S.n ho.fits y ax
 obtain⟨b,hb⟩:∃b,(S.n.acc y).1=b:=⟨_,rfl⟩;rw[hb]at hA ⊢;unfold aS.av at hA;have fu:∀Y:aO,Hn O (σ ++ [Y]):=λY=>h.X6.ap;have eb:∀Y:aO,aQ (σ ++ [Y]) (ah σ)=aa Y:=λY=>gZ;have es:∀Y Z:aO,aV (σ ++ [Y]) (ah σ) Z=σ ++ [Z]:=λY Z=>vj;have Ft:∀Y:aO,aQ (σ ++ [Y]) 3=aa ⟨aa 13,S.n.lQ ++ [bU S.ws,.sl S.pc (2*ah S.cs) 0 (ah S.cs),.cZ 2],.live⟩:=λY=>by rw[fD (cX hl)];exact hl
 by_cases hz:(S.n.acc y).2=0
 case neg=>simp[-aK,Ft,eb,es,aS.av,aS.lQ,hA,hz,fu]
 rw[hz]at hA;simp[-aK,Ft,eb,es,aS.av,aS.lQ,hA];refine bB (λi:Nat=>[(5,.int i)]) (λi=>σ ++ [⟨aa 2,[wB (H.imp y i),.int (H.cx H.aF y i).1],.live⟩]) (λi=>i<=ah y/\(∀j:Nat,j<=i->0<j->(S.n.acc (S.ask H y j)).2=0)/\∀j:Nat,j<=i->0<j->(S.n.acc (S.ask H y j)).1=b) (λi=>ah y-i) 0 (by simp[fj,aS.imp,aS.cx,wB]) ⟨ax,λj a b=>ax,λj a b=>ax⟩ ?_
 rintro i ⟨i0,i1,i2⟩
 by_cases hi:i<ah y
 .have vA:=aqS hF.ok hy hu hi
  obtain⟨v1,v2,v3⟩:=BZ hF.ok hy hu hF.ok.aF (i:=(i:Int)+1) ax ax
  have fT:=Nz hF hy hu (i:=(i:Int)+1) ax ax
  have yQ:=Lo (n:=H) (w:=y) (i+1) ax
  rw[show((i+1:Nat):Int)=(i:Int)+1 by omega]at yQ
  obtain⟨B,hBd⟩:∃B:aO,B=⟨aa 2,[iL (H.cx H.aF y ((i:Int)+1)).2.reverse,.int (H.cx H.aF y ((i:Int)+1)).1],.live⟩:=⟨_,rfl⟩;have tY:=aqR (h.add B) ho.ok (ae,(H.cx H.aF y ((i:Int)+1)).2.reverse) (H.cx H.aF y ((i:Int)+1)).1 aT (λg hg=>fT g (by simpa using hg)) (λw hw=>by have:=(ho.ws w hw).2;omega) ho.wl
  have aqV:S.pj (ae,(H.cx H.aF y ((i:Int)+1)).2.reverse).2=S.pre H y ((i:Int)+1):=rfl;rw[aqV,hBd]at tY;have Bu:=bh (l:=S.ws) v1.1 (by rw[<-hF.k];exact v1.2)
  have Mr:=(ho.ws _ Bu).2;have hlp:ah (S.pre H y ((i:Int)+1))<=1024*10001:=by
   have:=Ny (S:=S) (k:=10001) (ps:=(H.cx H.aF y ((i:Int)+1)).2.reverse) λg hg=>YQ ho.ok (fT g (by simpa using hg)) λw hw=>by have:=(ho.ws w hw).2;omega
   have h2:=mq 10001 (show(ah (H.cx H.aF y ((i:Int)+1)).2.reverse)<=1024 by simp;omega)
   unfold Lg.pre;omega
  have hJ:PC qK [.aX ae [wB (ad,S.pre H y ((i:Int)+1)),.aX ae ((S.DE H y ((i:Int)+1)).map .int),.aX ae ((y.drop (i+1)).map .int)]]=aa (iL (S.ask H y ((i:Int)+1))):=by
   have hm:ah (S.DE H y ((i:Int)+1))<=4000:=Mr;have:=B7 [(ad,S.pre H y ((i:Int)+1)),(ae,S.DE H y ((i:Int)+1)),(ae,y.drop (i+1))] aA (by simp[cat];omega)
   have e:((i:Int)+1).toNat=i+1:=ax
   simp[tV,cat]at this;unfold Lg.ask;rw[e];exact this
  have Nu:=B3 S.n ho.fits (S.ask H y ((i:Int)+1)) (by
   have hm:ah (S.DE H y ((i:Int)+1))<=4000:=Mr;unfold Lg.ask;simp;omega)
  unfold aS.av at Nu vA;have Db:=Fi (ad,S.pre H y ((i:Int)+1));have hx:=hy.2 _ (bh (l:=y) (n:=(i:Int)) ax ax)
  have NB:=Fi (H.imp y i);unfold ru at vA tY;simp only[tV]at vA tY;have YR:ix S.ws (H.cx H.aF y ((i:Int)+1)).1=S.DE H y ((i:Int)+1):=rfl;have himp:wB (H.imp y (i+1))=iL (H.cx H.aF y ((i:Int)+1)).2.reverse:=by
   unfold aS.imp;rw[show decide (i+1=0)=ae from rfl,tV];rfl
  have Di:List.take (ah y-(i+1)) (List.drop (i+1) (y.map AV.int))=(y.drop (i+1)).map AV.int:=by
   rw[<-List.map_drop,gN aA]
  have Dj:eL 1 (y.map AV.int)=ad:=by cases y<;>rfl
  obtain⟨R,hR⟩:∃R,(H.cx H.aF y ((i:Int)+1)).2.reverse=R:=⟨_,rfl⟩;obtain⟨t,ht⟩:∃t,(H.cx H.aF y ((i:Int)+1)).1=t:=⟨_,rfl⟩;rw[hR]at vA tY himp;rw[ht]at vA tY YR v1;rw[<-YR,List.map_drop]at hJ;have hts:t<(ah S.ws:Int):=by rw[<-hF.k];exact v1.2
  by_cases tW:(S.n.acc (S.ask H y ((i:Int)+1))).2=0
  case neg=>
   simp[-aK,hi,Ft,eb,es,aS.av,aS.lQ,vA,tY,hJ,Nu,Db,NB,hx.1,C6,C7,C8,Di,Dj,v1.1,hts,tW,fu];omega
  rw[tW]at Nu
  by_cases yV:(S.n.acc (S.ask H y ((i:Int)+1))).1=b
  .rw[yV]at Nu
   simp[-aK,hi,Ft,eb,es,aS.av,aS.lQ,vA,tY,hJ,Nu,Db,NB,hx.1,C6,C7,C8,Di,Dj,v1.1,hts];have ec:((i+1:Nat):Int)=(i:Int)+1:=ax
   refine⟨ax,ax,ax,a8 (i+1) aA (by simp only[himp,ec,ht]) ⟨ax,λj a c=>?_,λj a c=>?_⟩ ax⟩
   .rcases Nat.lt_or_ge j (i+1)with d|d
    .exact i1 j ax c
    .rw[show(j:Int)=(i:Int)+1 by omega];exact tW
   .rcases Nat.lt_or_ge j (i+1)with d|d
    .exact i2 j ax c
    .rw[show(j:Int)=(i:Int)+1 by omega];exact yV
  .have wK:=NA tW
   have hsy:=ho.ok.syms;have arY:=hF.ok.syms;have hp1:∀x∈S.pre H y ((i:Int)+1),0<=x/\x<=255:=λx hx=>by
    have:=wK.2 x (List.mem_append_left _ hx);omega
   have hp2:∀x∈y.drop (i+1),0<=x/\x<=255:=λx hx=>by
    have:=hy.2 x (List.mem_of_mem_drop hx);omega
   have hp3:ah (S.pre H y ((i:Int)+1))<=1024:=by
    have:=wK.1;unfold Lg.ask at this;simp at this;omega
   have vH:=Cb _ hp1 ax
   have Im:=Cb _ hp2 aT
   have aqW : PC uP [.aX ae ((y.map AV.int).drop (i+1))]=aa (.str (fO (y.drop (i+1)))):=by rw[<-List.map_drop];exact Im
   have Ng:=aqT (ad,S.pre H y ((i:Int)+1));have hC:∀Y:aO,aQ (σ ++ [Y]) S.pc=aa ⟨aa 2,DA S.cs,.live⟩:=λY=>by rw[fD (cX h.c)];exact h.c
   have h33:∀Y Z:aO,aQ (aV (σ ++ [Y]) S.pc Z) 3=aa ⟨aa 13,S.n.lQ ++ [bU S.ws,.sl S.pc (2*ah S.cs) 0 (ah S.cs),.cZ 2],.live⟩:=λY Z=>by rw[bu h.xx.2];exact Ft Y
   have sN:=tT (cs:=S.cs);have Zi:=ho.cl;simp[-aK,hi,Ft,eb,es,aS.av,aS.lQ,vA,tY,hJ,Nu,Db,NB,hx.1,C6,C7,C8,Di,Dj,v1.1,hts,yV,Ng,vH,aqW, hC,sN,h33,ba];have l3:=cX hl;have lp:=cX h.c;refine⟨ax,ax,ax,i,hi,h.ctx _ ?_ ?_ λk k3 kp ⟨D,hD⟩=>?_,hz,λj a c=>?_,i2,yV⟩
   .rw[cQ (by rw[cV];simp;omega),show 2*(ah S.cs+1)=2*ah S.cs+2 by omega]
    rfl
   .rw[bu (Ne.symm h.xx.2),cQ aT]
    unfold Np;rw[Yu]
    rfl
   .rw[bu (Ne.symm k3),bu (Ne.symm kp),fD (cX hD)]
   .rcases Nat.lt_or_ge j (i+1)with d|d
    .exact i1 j ax c
    .rw[show(j:Int)=(i:Int)+1 by omega];exact tW
 .have:i=ah y:=by omega
  subst this;simp[fu]
def aqX{E:Lg}{e:Int}{k:Nat}(h:LM S O σ) (s:Cm E e k S) (u:e ≠ 0):LX L EG [.ptr 3 13 0] σ (λr τ=>r = .bY [.agg tJ,.int e]/\Hn O τ):=by
 refine S4 rfl ?_;obtain⟨r,b,d,T,J,m,hle,rfl⟩:=dt (YC (h.add gD) s);have p:=(m.o (ah σ) gD (by unfold mS;rw[aD rfl])).1
 have g:=cX p;have a:∀B:aO,aQ (aV b (ah σ) B) (ah σ)=aa B:=λB=>cQ g;have j:=λ(ce:CE) (w x y z A D F G H I:AV)=>pP (ce:=ce) (σ:=aV b (ah σ) ⟨aa 10,[w,x,y,z,A,D,F,G,H,I],.live⟩) (n:=ah σ) (a _);have l:∀B:aO,Hn O (aV b (ah σ) B):=λB i C q=>by
  have K:=cX (h.o i C q).1;rw[bu ax]
  exact(m.o i C (by unfold mS;rw[aC ax];exact q)).1
 simp[-aK,-Bo,d,u,p,a,j,l]
def aqY:S.tg.ee.aL=max 1 ((ah S.ws:Int)*(S.n.ay.toNat:Int)):=by
 show(((S.n.aZ (ah S.ws):Nat)):Int)=_;have:((ah S.ws*S.n.ay.toNat:Nat):Int)=(ah S.ws:Int)*(S.n.ay.toNat:Int):=by rw[kW]
 unfold aS.aZ;omega
def NC(a:S.tg.ee.Ok) (b:0<=S.n.ay):HyF S S.tg.ee:=by
 refine⟨a,?_,rfl,rfl,rfl,?_⟩
 .show(ah ((af (ah S.ws)).map _))=_
  simp
 .rw[aqY,show((S.n.ay.toNat:Nat):Int)=S.n.ay by omega]
end Ab
