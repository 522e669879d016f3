/- slices.Concat of lists of words; wordset.Union (SepK over fewer texts); and what it leans on. Condition: none. -/
import Derived.Test.YtdenhmniigikcaaGreatN44N
import Derived.Test.YtdenhmniigikcaaGreatFrz
import Derived.Test.YtdenhmniigikcaaGreatN44Y
import Derived.Test.YtdenhmniigikcaaGreatS44W
set_option linter.all false
set_option maxRecDepth 100000
set_option maxHeartbeats 4000000
namespace Ab
theorem anv{k n:Nat}:kM k (List.replicate n .ah)=List.replicate n .ah:=by
 induction n with
 |zero=>rfl
 |succ n ih=>simp only[uc,kM,jx,ih]
theorem anw (n:Nat) (h:0<n) (hb:(n:Int)<=1073741824):L zh [.ah,.int n] []=some (.sl 0 n 0 0,[⟨none,List.replicate n .ah,.live⟩]):=by
 refine Ql (N:=0) ?_;simp only[j8];rw[aa (by simp;omega),ab ⟨by omega,by rw[show(dE:Int)=1073741824 from rfl];exact hb⟩]
 simp
theorem anx:L zh [.ah,.int 0] []=some (.ah,[]):=Ql (N:=0) rfl
def kB (ps:List (List (List Int))):List (List Int):=ps.flatten
theorem KB{ps:List (List (List Int))}{i:Nat}(h:i<ps.length):(kB (ps.take (i+1)))=(kB (ps.take i))++ix ps (i:Int):=by
 unfold kB;rw[nH,dc h,List.flatten_append,aS h];simp
theorem As{ps:List (List (List Int))}(i:Nat):(kB (ps.take i)).length<=(kB ps).length:=by
 have:(kB ps)=(kB (ps.take i))++(kB (ps.drop i)):=by unfold kB;rw[<-List.flatten_append,oM]
 rw[this];simp
theorem anz{a b:List (List Int)}{n:Nat}(h:a.length+b.length<=n):putAt (a.map iL++List.replicate (n-a.length) .ah) a.length (b.map iL)=(a++b).map iL++List.replicate (n-(a.length+b.length)) .ah:=by
 unfold putAt;rw[List.take_left' (by simp),List.drop_append,jH (by simp)]
 simp;omega
theorem anA (ps:List (List (List Int))) (hp:(ps.length:Int)<=1000000) (h:((kB ps).length:Int)<=1000000):PC IS [.aE false (ps.map cK)]=some (cK (kB ps)):=by
 refine cW (aiB rfl ?_);simp;refine bC (λi:Nat=>[(1,.int i),(4,.int ((kB (ps.take i)).length:Int))]) (λ_=>[]) (λi=>i<=ps.length) (λi=>ps.length-i) 0 (by simp[bT,kB]) (by omega) λi i1=>?_
 by_cases hi:i<ps.length
 ·have e:=KB hi
  have l1:=As (ps:=ps) i;have l2:=As (ps:=ps) (i+1);rw[e,bu]at l2;have e2:((kB (ps.take (i+1))).length:Int)=((kB (ps.take i)).length:Int)+((ix ps (i:Int)).length:Int):=by rw[e,bu];omega
  generalize (kB (ps.take i)).length=A at *;simp[-al,-List.map_take,hi];refine⟨by omega,by omega,λ_=>⟨by omega,ba (i+1) (by simp[-List.map_take,e2]) rfl (by omega) (by omega)⟩⟩
 ·have EB:ps.take i=ps:=gl (by omega)
  rw[EB]
  by_cases hz:(kB ps).length=0
  ·have hc:(kB ps)=[]:=dW hz
   have fH:∀j:Nat,j<ps.length->ix ps (j:Int)=[]:=λj hj=>by
    have:=KB hj;have l2:=As (ps:=ps) (j+1);rw[this,bu]at l2;exact dW (by omega)
   rw[hc];simp[-al,hi,anx,jx];refine bC (λi:Nat=>[(6,.int i)]) (λ_=>[]) (λi=>i<=ps.length) (λi=>ps.length-i) 0 (by simp[bT]) (by omega) λj j1=>?_
   by_cases hj:j<ps.length
   ·have h1:=fH j hj
    simp[-al,hj,h1];refine⟨by omega,ba (j+1) (by simp) rfl (by omega) (by omega)⟩
   ·simp[hj]
  ·have hg:=anw (kB ps).length (by omega) (by omega)
   have dw : (ps.length<=i)=True:=bM (by omega)
   generalize hF:(kB ps)=F at *;simp[-al,-List.map_replicate,hi,hg,jx,gM,anv];refine bC (λi:Nat=>[(6,.int i),(9,.sl 0 F.length 0 (kB (ps.take i)).length)]) (λi=>[⟨none,(kB (ps.take i)).map iL++List.replicate (F.length-(kB (ps.take i)).length) .ah,.live⟩]) (λi=>i<=ps.length) (λi=>ps.length-i) 0 (by simp[bT,kB]) (by omega) λj j1=>?_
   by_cases hj:j<ps.length
   ·have e:=KB hj
    have l1:=As (ps:=ps) j;have l2:=As (ps:=ps) (j+1);rw[e,bu]at l2;rw[hF]at l1 l2;generalize (kB (ps.take j))=A at *;have xC:=anz (a:=A) (b:=ix ps (j:Int)) (n:=F.length) l2
    by_cases hn:ix ps (j:Int)=[]
    ·have rP:(kB (ps.take (j+1)))=A:=by rw[e,hn];simp
     simp[-al,-List.map_replicate,-List.map_take,hj,hn];refine⟨by omega,by omega,by omega,ba (j+1) (by simp[rP]) (by simp only[rP]) (by omega) (by omega)⟩
    ·have sh:0<(ix ps (j:Int)).length:=mz.2 hn
     simp[-al,-List.map_replicate,-List.map_take,hj,hn];refine⟨by omega,by omega,λhc=>by omega,λ_=>⟨by omega,by omega,ba (j+1) (by simp[e]) (by simp only[e,bu];rw[<-xC]) (by omega) (by omega)⟩⟩
   ·have yF:ps.take j=ps:=gl (by omega)
    rw[yF,hF];have hv:=Ge (σ:=[⟨none,F.map iL,.live⟩]) (fr:=false) (b:=0) (xs:=F) (n:=F.length) (st:=.live) rfl (by simp) rfl
    simp[hj,hv]
theorem anB (ps:List (List (List Int))) (hp:(ps.length:Int)<=1000000) (h:((kB ps).length:Int)<=1000000) (hw:pw (kB ps)):PC Eh [.aE false (ps.map cK)]=some (cK (gz (kB ps))):=by
 refine cW (ais rfl ?_);have h1:=anA ps hp h;have h2:=Tp (kB ps) (by omega) hw
 simp[h1,h2]
attribute [local simp] nR
theorem anC{k:Nat}{n:Int}{K:AV->Prop}:sb (.bd (.ik k n)) none K=K (.ik k n):=rfl
attribute [local simp] anC F5
def W9 (l:List Int):ag:=⟨none,l.map .int,if l=[]then .jN else .live⟩
theorem Vv{l:List Int}:(fe l).length=l.length:=by simp[fe]
theorem Vw{x:Int}(h0:0<=x) (h1:x<=255):((UInt8.ofNat x.toNat).toNat:Int)=x:=by
 have:(UInt8.ofNat x.toNat).toNat=x.toNat:=by simp;omega
 rw[this];omega
theorem Vx (l:List Int) (hl:∀x∈l,0<=x/\x<=255) (hn:l.length<=100000):PC Cw [.str (fe l)]=some (iL l):=by
 refine cW (aiE rfl ?_);have hk:=Vv (l:=l);have hb:(fe l).map (λb=>AV.ik 4 (b.toNat:Int))=l.map (AV.ik 4):=by
  unfold fe;rw[List.map_map];exact gf λx hx=>congrArg (AV.ik 4) (Vw (hl x hx).1 (hl x hx).2)
 simp[-al];rw[hb,hk];refine bC (λi:Nat=>[(4,.sl 0 i 0 i),(1,.int i)]) (λi=>[W9 (l.take i)]) (λi=>i<=l.length) (λi=>l.length-i) 0 (by simp[bT,W9]) (by omega) ?_
 intro i Zt
 by_cases hi:i<l.length
 ·have tk:=lg hi
  have bY:l ≠ []:=λe=>by subst e;simp at hi
  have ma:min i l.length=i:=qX (by omega)
  have hx:=hl _ (aZ (l:=l) (n:=(i:Int)) (by omega) (by omega))
  have AE:=bM (show(ix l (i:Int))<=9223372036854775807 by omega)
  have AJ:=bM (show(-9223372036854775808:Int)<=(ix l (i:Int))by omega)
  simp[-al,-List.map_take,hi,hx.1,AJ,AE,ma,W9];exact⟨by split<;>rfl,by omega,by omega,ba (i+1) (by simp) (by rw[tk];simp[bY]) (by omega) (by omega)⟩
 ·have ei:i=l.length:=by omega
  subst ei;have hv:=qL (σ:=[⟨none,l.map .int,if l=[]then .jN else .live⟩]) (fr:=false) (b:=0) (xs:=l) rfl (by split<;>rfl) rfl
  simp[-al,-List.map_take,W9,hv]
def ctA (c:List Int×List Int):AV:=.agg [.str (fe c.1),.str (fe c.2)]
def FB (c:List Int×List Int):Prop:=(∀x∈c.1,0<=x/\x<=255)/\(∀x∈c.2,0<=x/\x<=255)/\c.1.length+c.2.length<=100000
theorem Vy (c:List Int×List Int) (hc:FB c) (w:List Int) (hw:w.length<=100000):PC Ie [ctA c,iL w]=some (iL (c.1++(w++c.2))):=by
 refine cW (aiC rfl ?_);have h1:=Vx c.1 hc.1 (by have:=hc.2.2;omega)
 have h2:=Vx c.2 hc.2.1 (by have:=hc.2.2;omega)
 have h3:=Jh [(false,c.1),(false,w),(false,c.2)] (by simp) (by have:=hc.2.2;simp[cat];omega)
 have e:[(false,c.1),(false,w),(false,c.2)].map wB=[iL c.1,iL w,iL c.2]:=by simp[wB]
 rw[e]at h3;have z:∀l:List Int,fe l=[]->l=[]:=λl h=>by
  have:=Vv (l:=l);rw[h]at this;exact dW this.symm
 simp[ctA,h1,h2,h3];refine⟨λa b=>by rw[z _ a,z _ b];simp,λ_=>by simp[cat]⟩
structure Lg where
 n:ao
 ws:List (List Int)
 cs:List (List Int×List Int)
 mo:List (List Int×Nat×Nat)
 pc:Nat
def ao.pQ (n:ao):List AV:=[.int n.calls,.int n.aj,.int n.aq,.int n.stack,.int n.start,bL n.accept,cK n.call,cK n.push,cK n.inner,fU n.pop]
def ao.Vz (n:ao) (w:List Int) (c:List Int×List Int):Int:=if(n.acc (c.1++(w++c.2))).1=true then 43 else 45
def ao.GK (n:ao) (w:List Int) (c:List Int×List Int):Int:=(n.acc (c.1++(w++c.2))).2
def ao.ko (n:ao) (w:List Int):List (List Int×List Int)->Int
 | []=>0
 |c::l=>if n.GK w c ≠ 0 then n.GK w c else n.ko w l
def ao.kp (n:ao) (cs:List (List Int×List Int)) (w:List Int):List Int:=cs.map (n.Vz w)
def GL (n:ao) (cs:List (List Int×List Int)) (w:List Int):AV:=if n.ko w cs=0 then .bQ [.str (fe (n.kp cs w)),.int 0]else .bQ [.str [],.int (n.ko w cs)]
def FC (cs:List (List Int×List Int)):List AV:=cs.flatMap λc=>[.str (fe c.1),.str (fe c.2)]
def VA (cs:List (List Int×List Int)):ag:=⟨some 2,FC cs,.live⟩
def qA (mo:List (List Int×Nat×Nat)):List (AV×AV):=mo.map λe=>(.str (fe e.1),.sl e.2.2 e.2.1 0 e.2.1)
def mT (w:List Int):List (List Int×Nat×Nat)->Option (Nat×Nat)
 | []=>none
 |e::l=>if e.1=w then some e.2 else mT w l
def mU (w:List Int) (q:Nat×Nat):List (List Int×Nat×Nat)->List (List Int×Nat×Nat)
 | []=>[(w,q)]
 |e::l=>if e.1=w then(w,q)::l else e::mU w q l
structure LM (S:Lg) (O:Nat->Option ag) (σ:List ag):Prop where
 l:ak σ 3=some ⟨some 13,S.n.pQ ++ [cK S.ws,.sl S.pc (2*S.cs.length) 0 S.cs.length,.cM 2],.live⟩
 m:ak σ 2=some ⟨some 0,[],.map (qA S.mo)⟩
 c:ak σ S.pc=some (VA S.cs)
 r:∀e∈S.mo,ak σ e.2.2=some ⟨none,((S.n.kp S.cs e.1).take e.2.1).map (.ik 4),.live⟩
 le:∀e∈S.mo,e.2.1<=S.cs.length/\1<=e.2.1/\S.n.ko e.1 (S.cs.take e.2.1)=0
 ok:∀e∈S.mo,dA e.1
 nd:(S.mo.map (·.1)).Nodup
 nb:(S.mo.map (·.2.2)).Nodup
 A8:S.pc ≠ 2/\S.pc ≠ 3
 xk:∀e∈S.mo,e.2.2 ≠ 2/\e.2.2 ≠ 3/\e.2.2 ≠ S.pc
 o:∀i B,O i=some B->ak σ i=some B/\i ≠ 2/\i ≠ 3/\i ≠ S.pc/\∀e∈S.mo,e.2.2 ≠ i
theorem VB{S:Lg}{O:Nat->Option ag}{σ:List ag}(h:LM S O σ) (hn:S.n.Ok) (w:List Int) (i:Int) (h0:0<=i) (h1:i<S.n.aj) (hw:w.length<=100000):L Cp [.ptr 3 13 0,iL w,.int i] σ=some (iL (w ++ [S.n.calls+i]),σ):=by
 refine o5 (aiv rfl ?_);have hl:=h.l;have bR:=hn.gr;have gD:=hn.calls;have fc:=hn.aj;have hJ:PC uH [.aE false [iL w,.aE false [.int (S.n.calls+i)]]]=some (iL (w ++ [S.n.calls+i])):=by
  have:=Jh [(false,w),(false,[S.n.calls+i])] (by simp) (by simp[cat];omega)
  simp[wB,cat]at this;exact this
 simp[-al,hl,ao.pQ,hJ];omega
theorem VC{S:Lg}{O:Nat->Option ag}{σ:List ag}(h:LM S O σ) (hn:S.n.Ok) (w x:List Int) (c r:Int) (c0:0<=c) (c1:c<S.n.calls) (r0:0<=r) (r1:r<S.n.aq) (hw:w.length<=100000) (hx:x.length<=100000):L Cq [.ptr 3 13 0,iL w,.int c,iL x,.int r] σ=some (iL (w++c::(x ++ [S.n.calls+S.n.aj+r])),σ):=by
 refine o5 (aiw rfl ?_);have hl:=h.l;have bR:=hn.gr;have gD:=hn.calls;have fc:=hn.aj;have I5:=hn.aq;have hJ:PC uH [.aE false [iL w,.aE false [.int c],iL x,.aE false [.int (S.n.calls+S.n.aj+r)]]]=some (iL (w++c::(x ++ [S.n.calls+S.n.aj+r]))):=by
  have:=Jh [(false,w),(false,[c]),(false,x),(false,[S.n.calls+S.n.aj+r])] (by simp) (by simp[cat];omega)
  simp[wB,cat]at this;exact this
 simp[-al,hl,ao.pQ,hJ];omega
end Ab
namespace Ab
attribute [local simp] nR
theorem KC{w:List Int}(hw:dA w):∀{mo:List (List Int×Nat×Nat)},(∀e∈mo,dA e.1)->cH (qA mo) (.str (fe w))=some ((mT w mo).map λq=>.sl q.2 q.1 0 q.1)
 | [],_=>rfl
 |e::l,h=>by
  have ih:=KC hw (mo:=l) λx hx=>h x (by simp[hx])
  show(match ew (.str (fe w)) (.str (fe e.1))with
   |some true=>some (some (AV.sl e.2.2 e.2.1 0 e.2.1))
   |some false=>cH (qA l) (.str (fe w))
   |none=>none)=_
  by_cases q:e.1=w
  ·subst q
   simp[ew,mT]
  ·have bY:fe w ≠ fe e.1:=λhh=>q (Es hw (h e (by simp)) hh).symm
   simp[ew,bY,ih,mT,q]
theorem anD{w:List Int}(hw:dA w) (q:Nat×Nat):∀{mo:List (List Int×Nat×Nat)},(∀e∈mo,dA e.1)->uF (qA mo) (.str (fe w)) (.sl q.2 q.1 0 q.1) ((mT w mo).map λq=>.sl q.2 q.1 0 q.1)=qA (mU w q mo):=by
 intro mo h;cases hg:mT w mo with
 |none=>
  show qA mo ++ [(.str (fe w),.sl q.2 q.1 0 q.1)]=_;clear h
  induction mo with
  |nil=>rfl
  |cons e l ih=>
   simp only[mT]at hg;split at hg
   ·simp at hg
   ·rename_i bY
    simp only[mU,aa bY];rw[show qA (e::mU w q l)=(.str (fe e.1),.sl e.2.2 e.2.1 0 e.2.1)::qA (mU w q l)from rfl,<-ih hg]
    rfl
 |some z=>
  show iU (qA mo) (.str (fe w)) (.sl q.2 q.1 0 q.1)=_
  induction mo with
  |nil=>simp[mT]at hg
  |cons e l ih=>
   show(match ew (.str (fe w)) (.str (fe e.1))with
    |some true=>(AV.str (fe e.1),AV.sl q.2 q.1 0 q.1)::qA l
    |_=>(AV.str (fe e.1),AV.sl e.2.2 e.2.1 0 e.2.1)::iU (qA l) (.str (fe w)) (.sl q.2 q.1 0 q.1))=_
   simp only[mT]at hg
   by_cases hq:e.1=w
   ·subst hq
    simp[ew,mU]
    rfl
   ·rw[aa hq]at hg
    have bY:fe w ≠ fe e.1:=λhh=>hq (Es hw (h e (by simp)) hh).symm
    simp[ew,bY,mU,hq,ih (λx hx=>h x (by simp[hx])) hg]
    rfl
theorem rV{w:List Int}{q:Nat×Nat}:∀{mo:List (List Int×Nat×Nat)},mT w mo=some q->(w,q)∈mo
 | [],h=>by simp[mT]at h
 |e::l,h=>by
  simp only[mT]at h;split at h
  ·rename_i he
   subst he;simp at h;subst h;simp
  ·exact List.mem_cons_of_mem _ (rV h)
theorem Au{w:List Int}{q:Nat×Nat}:∀{mo:List (List Int×Nat×Nat)},mT w (mU w q mo)=some q
 | []=>by simp[mT,mU]
 |e::l=>by
  simp only[mU];split
  ·simp[mT]
  ·rename_i he
   simp[mT,he,Au]
theorem tK{w:List Int}{q:Nat×Nat}{x:List Int×Nat×Nat}:∀{mo:List (List Int×Nat×Nat)},(mo.map (·.1)).Nodup->(x∈mU w q mo↔x=(w,q)\/(x∈mo/\x.1 ≠ w))
 | [],_=>by simp[mU]
 |e::l,hn=>by
  rw[db,mD]at hn;simp only[mU];split
  ·rename_i he
   simp only[cB];constructor
   ·rintro(a|a)
    ·exact .inl a
    ·refine .inr ⟨.inr a,λe' =>hn.1 ?_⟩
     rw[he,<-e'];exact List.mem_map_of_mem a
   ·rintro(a|⟨a|a,b⟩)
    ·exact .inl a
    ·exact absurd (a▸he) b
    ·exact .inr a
  ·rename_i he
   simp only[cB,tK hn.2];constructor
   ·rintro(a|a|⟨a,b⟩)
    ·exact .inr ⟨.inl a,by rw[a];exact he⟩
    ·exact .inl a
    ·exact .inr ⟨.inr a,b⟩
   ·rintro(a|⟨a|a,b⟩)
    ·exact .inr (.inl a)
    ·exact .inl a
    ·exact .inr (.inr ⟨a,b⟩)
theorem VD{w:List Int}{q:Nat×Nat}:∀{mo:List (List Int×Nat×Nat)},(mo.map (·.1)).Nodup->((mU w q mo).map (·.1)).Nodup
 | [],_=>by simp[mU]
 |e::l,hn=>by
  have lr :=hn;rw[db,mD]at hn;simp only[mU];split
  ·rename_i he
   rw[db,mD];exact⟨by rw[<-he];exact hn.1,hn.2⟩
  ·rename_i he
   rw[db,mD];refine⟨λhm=>?_,VD hn.2⟩;obtain⟨x,hx,e'⟩:=cR.1 hm;rcases(tK hn.2).1 hx with a|⟨a,b⟩
   ·subst a;exact he e'.symm
   ·exact hn.1 (e' ▸List.mem_map_of_mem a)
theorem VE{α β:Type}{f:α->β}:∀{l:List α},(l.map f).Nodup->∀{x y:α},x∈l->y∈l->f x=f y->x=y
 | [],_,_,_,h,_,_=>by simp at h
 |e::l,hn,x,y,hx,hy,q=>by
  rw[db,mD]at hn;rcases cB.1 hx with a|a<;>rcases cB.1 hy with b|b
  ·rw[a,b]
  ·exact absurd (cR.2 ⟨y,b,by rw[<-q,a]⟩) hn.1
  ·exact absurd (cR.2 ⟨x,a,by rw[q,b]⟩) hn.1
  ·exact VE hn.2 a b q
theorem VF{w:List Int}{q:Nat×Nat}:∀{mo:List (List Int×Nat×Nat)},(mo.map (·.1)).Nodup->(mo.map (·.2.2)).Nodup->(∀e∈mo,e.1 ≠ w->e.2.2 ≠ q.2)->((mU w q mo).map (·.2.2)).Nodup
 | [],_,_,_=>by simp[mU]
 |e::l,hn,hb,hq=>by
  rw[db,mD]at hn hb;simp only[mU];split
  ·rename_i he
   rw[db,mD];refine⟨λhm=>?_,hb.2⟩;obtain⟨x,hx,e'⟩:=cR.1 hm;refine hq x (by simp[hx]) (λe2=>hn.1 ?_) e'
   rw[he,<-e2];exact List.mem_map_of_mem hx
  ·rename_i he
   rw[db,mD];refine⟨λhm=>?_,VF hn.2 hb.2 λx hx=>hq x (by simp[hx])⟩
   obtain⟨x,hx,e'⟩:=cR.1 hm;rcases(tK hn.2).1 hx with a|⟨a,b⟩
   ·subst a;exact hq e (by simp) he e'.symm
   ·exact hb.1 (e' ▸List.mem_map_of_mem a)
theorem LM.mark{S:Lg}{O:Nat->Option ag}{σ τ:List ag}(h:LM S O σ){w:List Int}(hw:dA w){k b:Nat}(hk:k<S.cs.length) (he:S.n.ko w (S.cs.take (k+1))=0)
  (hb:mT w S.mo=some (k,b)\/mT w S.mo=none/\k=0/\σ.length<=b)
  (hm:ak τ 2=some ⟨some 0,[],.map (qA (mU w (k+1,b) S.mo))⟩)
  (hr:ak τ b=some ⟨none,((S.n.kp S.cs w).take (k+1)).map (.ik 4),.live⟩)
  (ho:∀i,i<σ.length->i ≠ 2->i ≠ b->ak τ i=ak σ i):LM {S with mo:=mU w (k+1,b) S.mo} O τ:=by
 have lt:∀{i:Nat} {B:ag},ak σ i=some B->i<σ.length:=fun {i B} q=>by
  exact dz q
 have bn:b ≠ 2/\b ≠ 3/\b ≠ S.pc:=by
  rcases hb with hb|⟨_,_,hb⟩
  ·exact h.xk _ (rV hb)
  ·have h2:=lt h.m
   have h3:=lt h.l;have h4:=lt h.c;omega
 have be:∀e∈S.mo,e.1 ≠ w->e.2.2 ≠ b:=λe hx bY q=>by
  rcases hb with hb|⟨_,_,hb⟩
  ·have:=rV hb
   exact bY (congrArg (·.1) (VE h.nb hx this q))
  ·have:=lt (h.r e hx);omega
 have bo:∀i B,O i=some B->b ≠ i:=λi B hB q=>by
  obtain⟨h1,_,_,_,h2⟩:=h.o i B hB;rcases hb with hb|⟨_,_,hb⟩
  ·exact h2 _ (rV hb) q
  ·have:=lt h1;omega
 refine⟨?_,hm,?_,λe hx=>?_,λe hx=>?_,λe hx=>?_,VD h.nd,VF h.nd h.nb be,h.A8,λe hx=>?_,λi B hB=>?_⟩
 ·rw[ho 3 (lt h.l) (by omega) (Ne.symm bn.2.1)];exact h.l
 ·rw[show({S with mo:=mU w (k+1,b) S.mo}:Lg).pc=S.pc from rfl,ho S.pc (lt h.c) h.A8.1 (Ne.symm bn.2.2)];exact h.c
 ·rcases(tK h.nd).1 hx with rfl|⟨hx,bY⟩
  ·exact hr
  ·rw[ho _ (lt (h.r e hx)) (h.xk e hx).1 (be e hx bY)];exact h.r e hx
 ·rcases(tK h.nd).1 hx with rfl|⟨hx,bY⟩
  ·exact⟨by show k+1<=S.cs.length;omega,by show 1<=k+1;omega,he⟩
  ·exact h.le e hx
 ·rcases(tK h.nd).1 hx with rfl|⟨hx,bY⟩
  ·exact hw
  ·exact h.ok e hx
 ·rcases(tK h.nd).1 hx with rfl|⟨hx,bY⟩
  ·exact bn
  ·exact h.xk e hx
 ·obtain⟨h1,h2,h3,h4,h5⟩:=h.o i B hB
  refine⟨by rw[ho i (lt h1) h2 (Ne.symm (bo i B hB))];exact h1,h2,h3,h4,λe hx=>?_⟩
  rcases(tK h.nd).1 hx with rfl|⟨hx,bY⟩
  ·exact bo i B hB
  ·exact h5 e hx
end Ab
namespace Ab
attribute [local simp] nR
def bP (S T:Lg):Prop:=T.n=S.n/\T.ws=S.ws/\T.cs=S.cs
theorem tL:∀{cs:List (List Int×List Int)},(FC cs).length=2*cs.length
 | []=>rfl
 |c::cs=>by
  show(.str (fe c.1) :: .str (fe c.2)::FC cs:List AV).length=_;simp[tL (cs:=cs)];omega
def xl (k b:Nat):AV:=if k=0 then .ah else .sl b k 0 k
theorem anE{k b:Nat}{K:Int->Prop}:F4 (xl k b) K=K k:=by
 unfold xl;split
 ·rename_i h;subst h;rfl
 ·rfl
theorem anF{a b:List (List Int×List Int)}:FC (a++b)=FC a++FC b:=by simp[FC]
theorem VG{cs:List (List Int×List Int)}{a i:Nat}{K:AV->Prop}{t:Tk K}(h:a+i<cs.length):pT (FC cs) (a*2+i*2) (some 2) K t=K (.agg [.str (fe (ix cs (i+a:Nat)).1),.str (fe (ix cs (i+a:Nat)).2)]):=by
 have hs:cs=cs.take (a+i)++cs[a+i]::cs.drop (a+i+1):=by rw[List.getElem_cons_drop,oM]
 have hx:ix cs (i+a:Nat)=cs[a+i]:=by rw[Nat.add_comm,aS h]
 rw[hx];unfold pT part;have hl:=tL (cs:=cs);simp only[];rw[ab (by omega)]
 have:((FC cs).drop (a*2+i*2)).take 2=[.str (fe cs[a+i].1),.str (fe cs[a+i].2)]:=by
  conv=>lhs;rw[hs]
  rw[anF,List.drop_append_of_le_length (by rw[tL,my];omega),jH (by rw[tL,my];omega)]
  rfl
 rw[this]
 rfl
theorem KD{n:ao}{w:List Int}{c:List Int×List Int}:∀{l m:List (List Int×List Int)},n.ko w l=0->n.ko w (l++c::m)=if n.GK w c ≠ 0 then n.GK w c else n.ko w m
 | [],_,_=>rfl
 |d::l,m,h=>by
  simp only[ao.ko]at h
  by_cases e:n.GK w d=0
  ·rw[aa (by simp[e])]at h
   show(if n.GK w d ≠ 0 then n.GK w d else n.ko w (l++c::m))=_
   rw[aa (by simp[e]),KD h]
  ·rw[ab e]at h;exact absurd h e
theorem KE{S:Lg}{O:Nat->Option ag}{σ:List ag}(h:LM S O σ) (hf:S.n.fits) (jM:∀c∈S.cs,FB c) (xq:1<=S.cs.length) (r6:S.cs.length<=1000) (w:List Int) (hw:dA w) (hl:w.length<=10000):LX L th [.ptr 3 13 0,iL w] σ (λr τ=>∃T,LM T O τ/\bP S T/\σ.length<=τ.length/\r=GL S.n S.cs w):=by
 refine aiu rfl ?_;have hL:=h.l;have hM:=h.m;have hC:=h.c;have ht:=Jl w hw (by omega)
 have Lz:=KC hw h.ok;have qN:∀x,bg 1 (.str x)=true:=λ_=>rfl;obtain⟨k0,b0,jY,hv,hm0,he0⟩:∃k0 b0,k0<=S.cs.length/\H3 .ah false ((mT w S.mo).map λq=>.sl q.2 q.1 0 q.1)=xl k0 b0/\(mT w S.mo=some (k0,b0)\/mT w S.mo=none/\k0=0/\b0=σ.length)/\S.n.ko w (S.cs.take k0)=0:=by
  cases hg:mT w S.mo with
  |none=>exact⟨0,σ.length,by omega,rfl,.inr ⟨rfl,rfl,rfl⟩,rfl⟩
  |some q=>
   obtain⟨a,b⟩:=q;have:=h.le _ (rV hg);refine⟨a,b,this.1,?_,.inl rfl,this.2.2⟩;show AV.sl b a 0 a=xl a b;unfold xl;rw[if_neg];have:=this.2.1;dsimp only at this;omega
 simp[-al,ht,hL,hM,Lz,ao.pQ,qN,hv,anE,hC,VA,tL,aC];refine⟨jY,?_⟩;refine bC (λq:Nat×Lg×List ag×Nat=>[(3,xl (k0+q.1) q.2.2.2),(4,.int q.1)]) (λq=>q.2.2.1)
  (λq=>q.1+k0<=S.cs.length/\LM q.2.1 O q.2.2.1/\bP S q.2.1/\q.2.1.pc=S.pc/\σ.length<=q.2.2.1.length/\(mT w q.2.1.mo=some (k0+q.1,q.2.2.2)\/mT w q.2.1.mo=none/\k0+q.1=0/\q.2.2.2=q.2.2.1.length)/\S.n.ko w (S.cs.take (k0+q.1))=0)
  (λq=>S.cs.length-q.1) (0,S,σ,b0) (by simp[bT]) ⟨by simpa using jY,h,⟨rfl,rfl,rfl⟩,rfl,bw _,hm0,he0⟩ ?_
 rintro⟨i,T,τ,b⟩ ⟨i0,hT,⟨s1,s2,s3⟩,s4,hle,hg,he⟩;dsimp only at i0 hT s1 s2 s3 s4 hle hg he ⊢;have hL:=hT.l;have hM:=hT.m;have hC:=hT.c;rw[s4,s3]at hC;rw[s1,s2,s3,s4]at hL;have Lz:=KC hw hT.ok
 by_cases hi:i<S.cs.length-k0
 ·have vz:k0+i<S.cs.length:=by omega
  have zf:=jM _ (aZ (l:=S.cs) (n:=((i+k0:Nat):Int)) (by omega) (by omega))
  have xC:=λK t=>VG (K:=K) (t:=t) vz;have hx:ix S.cs ((i+k0:Nat):Int)=S.cs[k0+i]:=by rw[Nat.add_comm,aS vz]
  have LA:=KD (c:=ix S.cs ((i+k0:Nat):Int)) (m:=S.cs.drop (k0+i+1)) he;have xm:=KD (c:=ix S.cs ((i+k0:Nat):Int)) (m:=[]) he;have rY:S.cs.take (k0+i) ++ [ix S.cs ((i+k0:Nat):Int)]=S.cs.take (k0+i+1):=by rw[hx,List.take_append_getElem]
  rw[rY]at xm;rw[hx,List.getElem_cons_drop,oM,<-hx]at LA;generalize ix S.cs ((i+k0:Nat):Int)=c at *;have GM:=Vy c zf w (by omega)
  have gD:=zf.2.2;have Ae:=akL S.n hf (c.1++(w++c.2)) (by simp only[bu];omega)
  have hme:S.n.GK w c=(S.n.acc (c.1++(w++c.2))).2:=rfl;have FK:S.n.Vz w c=if(S.n.acc (c.1++(w++c.2))).1=true then 43 else 45:=rfl
  unfold ctA at GM;unfold ao.av at Ae;rw[hme]at LA xm;generalize c.1++(w++c.2)=u at *;generalize hq:S.n.acc u=q at *;obtain⟨qa,qe⟩:=q;dsimp only at *;have hsp:=hT.xk
  by_cases hz:qe=0
  ·subst hz
   have eu:(S.n.kp S.cs w).take (k0+i+1)=(S.n.kp S.cs w).take (k0+i) ++ [S.n.Vz w c]:=by
    unfold ao.kp;rw[<-List.map_take,<-List.map_take,<-rY,kY];rfl
   have ji:=anD hw (k0+i+1,b) hT.ok;have EJ:S.n.ko w (S.cs.take (k0+i+1))=0:=by rw[xm];rfl
   have pM:T.n.ko w (T.cs.take (k0+i+1))=0:=by rw[s1,s3];exact EJ
   have h2l:=dz hM
   by_cases hk:k0+i=0
   ·have yi:xl (k0+i) b = .ah:=ab hk
    have GN:mT w T.mo=none/\b=τ.length:=by
     rcases hg with hg|⟨hg,_,e⟩
     ·have:=(hT.le _ (rV hg)).2.1
      dsimp only at this;omega
     ·exact⟨hg,e⟩
    have Af:∀B,ak (τ ++ [B]) 2=some ⟨some 0,[],.map (qA T.mo)⟩:=λB=>rT hM;have xT:=λB=>rT (τ:=[B]) hL;rw[GN.1]at Lz ji;have GP : qA T.mo ++ [(.str (fe w),.sl τ.length 1 0 1)]=qA (mU w (k0+i+1,b) T.mo):=by
     rw[<-ji];show _=qA T.mo ++ [(.str (fe w),.sl b (k0+i+1) 0 (k0+i+1))];rw[GN.2,hk]
    cases qa<;>simp only[reduceIte,eE]at FK<;>simp[-al,hi,hL,hC,VA,ao.pQ,↓xC,GM,Ae,tL,yi,Af,xT,Lz,qN]
    ·rw[GP]
     refine⟨by omega,ba (i+1,{T with mo:=mU w (k0+i+1,b) T.mo},_,b) (by simp[xl,GN.2,<-Nat.add_assoc,hk]) rfl ⟨by dsimp only;omega,?_,⟨s1,s2,s3⟩,s4,by simp[bZ];omega,.inl Au,EJ⟩ (by dsimp only;omega)⟩
     refine hT.mark hw (by rw[s3];exact vz) pM (.inr ⟨GN.1,hk,by omega⟩) (cE (by simp;omega)) ?_ λj hj j2 jb=>?_
     ·rw[aO (by omega),Aq GN.2,s1,s3,eu,FK,hk];rfl
     ·rw[aO (by omega),gj hj]
    ·rw[GP]
     refine⟨by omega,ba (i+1,{T with mo:=mU w (k0+i+1,b) T.mo},_,b) (by simp[xl,GN.2,<-Nat.add_assoc,hk]) rfl ⟨by dsimp only;omega,?_,⟨s1,s2,s3⟩,s4,by simp[bZ];omega,.inl Au,EJ⟩ (by dsimp only;omega)⟩
     refine hT.mark hw (by rw[s3];exact vz) pM (.inr ⟨GN.1,hk,by omega⟩) (cE (by simp;omega)) ?_ λj hj j2 jb=>?_
     ·rw[aO (by omega),Aq GN.2,s1,s3,eu,FK,hk];rfl
     ·rw[aO (by omega),gj hj]
   ·have yi:xl (k0+i) b = .sl b (k0+i) 0 (k0+i):=aa hk
    have xA:mT w T.mo=some (k0+i,b):=by
     rcases hg with hg|⟨hg,e,_⟩
     ·exact hg
     ·exact absurd e hk
    have FD:=hT.r _ (rV xA);have hbp:=hT.xk _ (rV xA);dsimp only at FD hbp;rw[s1,s3]at FD;have hlr:(((S.n.kp S.cs w).take (k0+i)).map (AV.ik 4)).length=k0+i:=by simp[ao.kp];omega
    generalize oh:((S.n.kp S.cs w).take (k0+i)).map (AV.ik 4)=cb at *;rw[xA]at Lz ji;have Af:∀B,ak (ay τ b B) 2=some ⟨some 0,[],.map (qA T.mo)⟩:=λB=>by rw[aO (by omega)];exact hM
    have xT:=λB=>(aO (Q:=τ) (i:=b) (j:=3) (B:=B) (by omega)).trans hL
    have anG:∀x:AV,(cb ++ [x]).length=k0+i+1:=λx=>by rw[bu,hlr];rfl
    cases qa<;>simp only[reduceIte,eE]at FK<;>simp[-al,hi,hL,hC,VA,ao.pQ,↓xC,GM,Ae,tL,yi,FD,hlr,anG,xT,Af,Lz,qN,aC]
    ·rw[show uF (qA T.mo) (.str (fe w)) (.sl b (k0+i+1) 0 (k0+i+1)) ((some (k0+i,b)).map λq=>.sl q.2 q.1 0 q.1)=iU (qA T.mo) (.str (fe w)) (.sl b (k0+i+1) 0 (k0+i+1))from rfl]at ji
     rw[ji];refine⟨by omega,by omega,ba (i+1,{T with mo:=mU w (k0+i+1,b) T.mo},_,b) (by simp[xl,<-Nat.add_assoc]) rfl ⟨by dsimp only;omega,?_,⟨s1,s2,s3⟩,s4,by simp[bZ];omega,.inl Au,EJ⟩ (by dsimp only;omega)⟩
     refine hT.mark hw (by rw[s3];exact vz) pM (.inl xA) (cE (by rw[bZ];omega)) ?_ λj hj j2 jb=>?_
     ·rw[aO (by omega),cE (dz FD),s1,s3,eu,FK,<-oh,kY];rfl
     ·rw[aO (by omega),aO (by omega)]
    ·rw[show uF (qA T.mo) (.str (fe w)) (.sl b (k0+i+1) 0 (k0+i+1)) ((some (k0+i,b)).map λq=>.sl q.2 q.1 0 q.1)=iU (qA T.mo) (.str (fe w)) (.sl b (k0+i+1) 0 (k0+i+1))from rfl]at ji
     rw[ji];refine⟨by omega,by omega,ba (i+1,{T with mo:=mU w (k0+i+1,b) T.mo},_,b) (by simp[xl,<-Nat.add_assoc]) rfl ⟨by dsimp only;omega,?_,⟨s1,s2,s3⟩,s4,by simp[bZ];omega,.inl Au,EJ⟩ (by dsimp only;omega)⟩
     refine hT.mark hw (by rw[s3];exact vz) pM (.inl xA) (cE (by rw[bZ];omega)) ?_ λj hj j2 jb=>?_
     ·rw[aO (by omega),cE (dz FD),s1,s3,eu,FK,<-oh,kY];rfl
     ·rw[aO (by omega),aO (by omega)]
  ·simp[-al,hi,hL,hC,VA,ao.pQ,↓xC,GM,Ae,tL,hz]
   refine⟨T,hT,⟨s1,s2,s3⟩,hle,?_⟩;have:S.n.ko w S.cs=qe:=by rw[LA,ab hz]
   unfold GL;rw[this,aa hz]
 ·have ek:k0+i=S.cs.length:=by omega
  have e0:S.n.ko w S.cs=0:=by
   have:=he
   rwa [ek,gl (bw _)]at this
  have hk:k0+i ≠ 0:=by omega
  have yi:xl (k0+i) b = .sl b (k0+i) 0 (k0+i):=aa hk;have xA:mT w T.mo=some (k0+i,b):=by
   rcases hg with hg|⟨hg,e,_⟩
   ·exact hg
   ·exact absurd e hk
  have FD:=hT.r _ (rV xA);dsimp only at FD;have iv:(S.n.kp S.cs w).length=k0+i:=by simp[ao.kp];omega
  rw[s1,s3,gl (by omega)]at FD
  have hb:bytesOf (((S.n.kp S.cs w).map (AV.ik 4)).take (k0+i))=some (fe (S.n.kp S.cs w)):=by
   rw[gl (by simp;omega)]
   refine Er λx hx=>?_;obtain⟨c,_,rfl⟩:=cR.1 hx;unfold ao.Vz;split<;>omega
  simp[-al,hi,yi,FD,iv,hb];exact⟨T,hT,⟨s1,s2,s3⟩,hle,by unfold GL;rw[ab e0]⟩
end Ab
namespace Ab
attribute [local simp] nR
def mf (O:Nat->Option ag) (b:Nat) (B:ag):Nat->Option ag:=λi=>if i=b then some B else O i
theorem LM.add{S:Lg}{O:Nat->Option ag}{σ:List ag}(h:LM S O σ) (B:ag):LM S (mf O σ.length B) (σ ++ [B]):=by
 refine⟨rT h.l,rT h.m,rT h.c,λe he=>rT (h.r e he),h.le,h.ok,h.nd,h.nb,h.A8,h.xk,λi A hA=>?_⟩;unfold mf at hA;split at hA
 ·rename_i hi
  simp at hA;subst hA hi;have h2:=dz h.m;have h3:=dz h.l;have h4:=dz h.c;refine⟨Aq rfl,by omega,by omega,by omega,λe he=>?_⟩
  have:=dz (h.r e he);omega
 ·obtain⟨h1,h2⟩:=h.o i A hA
  exact⟨rT h1,h2⟩
theorem LM.tn{S:Lg}{O:Nat->Option ag}{σ:List ag}{b:Nat}{A:ag}(h:LM S (mf O b A) σ) (B:ag):LM S (mf O b B) (ay σ b B):=by
 have hb:=h.o b A (ab rfl);have N:∀{i C},ak σ i=some C->i ≠ b->ak (ay σ b B) i=some C:=λq hi=>by rw[aO (Ne.symm hi)];exact q
 refine⟨N h.l (Ne.symm hb.2.2.1),N h.m (Ne.symm hb.2.1),N h.c (Ne.symm hb.2.2.2.1),λe he=>N (h.r e he) (hb.2.2.2.2 e he),h.le,h.ok,h.nd,h.nb,h.A8,h.xk,λi C hC=>?_⟩;unfold mf at hC;split at hC
 ·rename_i hi
  simp at hC;subst hC hi;exact⟨cE (dz hb.1),hb.2⟩
 ·rename_i hi
  obtain⟨h1,h2⟩:=h.o i C (by unfold mf;rw[aa hi];exact hC)
  exact⟨N h1 hi,h2⟩
theorem LM.sub{S:Lg}{O O' : Nat->Option ag}{σ:List ag}(h:LM S O σ) (ho:∀i B,O' i=some B->O i=some B):LM S O' σ:=⟨h.l,h.m,h.c,h.r,h.le,h.ok,h.nd,h.nb,h.A8,h.xk,λi B hB=>h.o i B (ho i B hB)⟩
structure Lg.Ok (S:Lg):Prop where
 ok:S.n.Ok
 fits:S.n.fits
 cs:∀c∈S.cs,FB c
 cl:1<=S.cs.length/\S.cs.length<=1000
 ws:∀w∈S.ws,dA w/\w.length<=4000
 wl:S.ws.length<=128
 nd:(S.ws.map (S.n.kp S.cs)).Nodup
theorem bP.ok{S T:Lg}(h:bP S T) (o:S.Ok):T.Ok:=by
 obtain⟨h1,h2,h3⟩:=h;exact⟨by rw[h1];exact o.ok,by rw[h1];exact o.fits,by rw[h3];exact o.cs,by rw[h3];exact o.cl,by rw[h2];exact o.ws,by rw[h2];exact o.wl,by rw[h1,h2,h3];exact o.nd⟩
theorem bP.trans{S T U:Lg}(h:bP S T) (g:bP T U):bP S U:=⟨g.1.trans h.1,g.2.1.trans h.2.1,g.2.2.trans h.2.2⟩
def Lg.row (S:Lg) (w:List Int):List Int:=S.n.kp S.cs w
def Lg.pR (S:Lg):List (List Int)->Int
 | []=>0
 |w::l=>if S.n.ko w S.cs ≠ 0 then S.n.ko w S.cs else S.pR l
theorem KF{S:Lg}{w:List Int}:∀{l m:List (List Int)},S.pR l=0->S.pR (l++w::m)=if S.n.ko w S.cs ≠ 0 then S.n.ko w S.cs else S.pR m
 | [],_,_=>rfl
 |d::l,m,h=>by
  simp only[Lg.pR]at h
  by_cases e:S.n.ko d S.cs=0
  ·rw[aa (by simp[e])]at h
   show(if S.n.ko d S.cs ≠ 0 then S.n.ko d S.cs else S.pR (l++w::m))=_
   rw[aa (by simp[e]),KF h]
  ·rw[ab e]at h;exact absurd h e
theorem u4{n:ao}{cs:List (List Int×List Int)}{w:List Int}:dA (n.kp cs w):=λx hx=>by
 obtain⟨c,_,rfl⟩:=cR.1 hx;unfold ao.Vz;split<;>omega
def tM (S:Lg) (k:Nat):ag:=⟨some 0,[],.map (qM 0 ((S.ws.take k).map S.row))⟩
theorem VH{S:Lg}{O:Nat->Option ag}{σ:List ag}(h:LM S O σ) (ho:S.Ok):LX L Ei [.ptr 3 13 0] σ (λr τ=>∃T,bP S T/\σ.length<=τ.length/\((S.pR S.ws=0/\LM T (mf O σ.length (tM S S.ws.length)) τ/\r = .bQ [.cM σ.length,.int 0])\/(S.pR S.ws ≠ 0/\LM T O τ/\r = .bQ [.p7,.int (S.pR S.ws)]))):=by
 refine ait rfl ?_;have xT:=λB=>rT (τ:=[B]) h.l;simp[-al,xT,ao.pQ];refine bC (λq:Nat×Lg×List ag=>[(1,.int q.1)]) (λq=>q.2.2)
  (λq=>q.1<=S.ws.length/\LM q.2.1 (mf O σ.length (tM S q.1)) q.2.2/\bP S q.2.1/\σ.length<=q.2.2.length/\S.pR (S.ws.take q.1)=0)
  (λq=>S.ws.length-q.1) (0,S,σ ++ [⟨some 0,[],.map []⟩]) (by simp[bT]) ⟨by simp,h.add _,⟨rfl,rfl,rfl⟩,by simp,rfl⟩ ?_
 rintro⟨k,T,τ⟩ ⟨k0,hT,hs,hle,he⟩;dsimp only at k0 hT hs hle he ⊢;have xM:=ho.wl
 by_cases hk:k<S.ws.length
 ·have Av:=hs.ok ho
  have A9:=aZ (l:=S.ws) (n:=(k:Int)) (by omega) (by omega)
  have hww:=ho.ws _ A9;have rY:S.ws.take (k+1)=S.ws.take k ++ [ix S.ws (k:Int)]:=by rw[lg hk]
  have xm:=KF (S:=S) (w:=ix S.ws (k:Int)) (m:=[]) he;have LA:=KF (S:=S) (w:=ix S.ws (k:Int)) (m:=S.ws.drop (k+1)) he;rw[<-rY]at xm;rw[aS hk,List.getElem_cons_drop,oM,<-aS hk]at LA;obtain⟨r,Fp, hc,T', VI, gP, zU, rfl⟩:=dS (KE hT Av.fits Av.cs Av.cl.1 Av.cl.2 (ix S.ws (k:Int)) hww.1 (by omega))
  have xz:=hs.trans gP;rw[hs.1,hs.2.2]at hc
  by_cases hz:S.n.ko (ix S.ws (k:Int)) S.cs=0
  ·rw[show GL S.n S.cs (ix S.ws (k:Int)) = .bQ [.str (fe (S.row (ix S.ws (k:Int)))),.int 0]from ab hz]at hc
   have hB:=(VI.o σ.length _ (ab rfl)).1;have hK:∀x∈(S.ws.take k).map S.row,dA x:=λx hx=>by
    obtain⟨w,_,rfl⟩:=cR.1 hx;exact u4
   have oB:S.row (ix S.ws (k:Int))∉(S.ws.take k).map S.row:=λhm=>by
    have hn:=ho.nd;rw[<-List.take_append_drop (k+1) S.ws,rY,kY,kY,sK]at hn;have:=hn.1;rw[sK]at this;exact this.2.2 _ hm _ (by simp[Lg.row]) rfl
   have hf:=wR (l:=S.row (ix S.ws (k:Int))) u4 0 _ hK;rw[aa oB]at hf;have qN:∀x,bg 1 (.str x)=true:=λ_=>rfl;have ka:=EG 0 ((S.ws.take k).map S.row) (S.row (ix S.ws (k:Int)));have bR:tM S (k+1)=⟨some 0,[],.map (qM 0 ((S.ws.take k).map S.row) ++ [(.str (fe (S.row (ix S.ws (k:Int)))),.int (k:Int))])⟩:=by
    unfold tM;rw[rY,kY,show[ix S.ws (k:Int)].map S.row=[S.row (ix S.ws (k:Int))]from rfl,ka];simp;omega
   simp[-al,-List.map_take,hk,hc,hB,tM,hf,qN];refine⟨by omega,ba (k+1,T', _) (by simp) rfl ⟨by dsimp only;omega,?_,xz,by simp[bZ];omega,by dsimp only;rw[xm,if_neg (by simp[hz])];rfl⟩ (by dsimp only;omega)⟩
   rw[<-bR];exact VI.tn _
  ·rw[show GL S.n S.cs (ix S.ws (k:Int)) = .bQ [.str [],.int (S.n.ko (ix S.ws (k:Int)) S.cs)]from aa hz]at hc
   have hx:S.pR S.ws=S.n.ko (ix S.ws (k:Int)) S.cs:=by rw[LA,ab hz]
   simp[-al,-List.map_take,hk,hc,hz];refine⟨T', xz,by omega,by rw[hx];exact hz,VI.sub λi B hB=>?_,hx.symm⟩
   have:=dz (h.o i B hB).1;unfold mf;rw[aa (by omega)]
   exact hB
 ·have ek:k=S.ws.length:=by omega
  subst ek;rw[gl (bw _)]at he;simp[-al,he];exact⟨T,hs,hle,hT⟩
end Ab
namespace Ab
attribute [local simp] nR
def ao.qS (n:ao) (w:List Int) (k:Nat):List (List Int):=(List.range k).map λ(i:Nat)=>w ++ [n.calls+(i:Int)]
def ao.pS (n:ao) (w:List Int) (c:Int) (x:List Int) (k:Nat):List (List Int):=(List.range k).map λ(r:Nat)=>w++c::(x ++ [n.calls+n.aj+(r:Int)])
def ao.mV (n:ao) (w:List Int) (c:Int) (xs:List (List Int)):List (List Int):=xs.flatMap λx=>n.pS w c x n.aq.toNat
def ao.pV (n:ao) (w:List Int) (xs:List (List Int)) (k:Nat):List (List Int):=(List.range k).flatMap λ(c:Nat)=>n.mV w (c:Int) xs
def ao.iM (n:ao) (xs:List (List Int)) (ws:List (List Int)):List (List Int):=ws.flatMap λw=>n.qS w n.aj.toNat++n.pV w xs n.calls.toNat
theorem VJ{n:ao}{w:List Int}{k:Nat}:n.qS w (k+1)=n.qS w k ++ [w ++ [n.calls+(k:Int)]]:=by simp[ao.qS,mE]
theorem VK{n:ao}{w x:List Int}{c:Int}{k:Nat}:n.pS w c x (k+1)=n.pS w c x k ++ [w++c::(x ++ [n.calls+n.aj+(k:Int)])]:=by simp[ao.pS,mE]
theorem VL{n:ao}{w x:List Int}{c:Int}{xs:List (List Int)}:n.mV w c (xs ++ [x])=n.mV w c xs++n.pS w c x n.aq.toNat:=by simp[ao.mV]
theorem GQ{n:ao}{w:List Int}{xs:List (List Int)}{k:Nat}:n.pV w xs (k+1)=n.pV w xs k++n.mV w (k:Int) xs:=by simp[ao.pV,mE]
theorem VM{n:ao}{w:List Int}{xs ws:List (List Int)}:n.iM xs (ws ++ [w])=n.iM xs ws++(n.qS w n.aj.toNat++n.pV w xs n.calls.toNat):=by simp[ao.iM]
theorem anH{n:ao}{w:List Int}{xs:List (List Int)}{i k:Nat}(h:i<=k):(n.pV w xs i).length<=(n.pV w xs k).length:=by
 induction h with
 |refl=>exact bw _
 |step _ ih=>rw[GQ,bu];omega
theorem anI{n:ao}{w:List Int}{c:Int}{xs:List (List Int)}{m:Nat}:(n.mV w c (xs.take m)).length<=(n.mV w c xs).length:=by
 have e:n.mV w c xs=n.mV w c (xs.take m)++n.mV w c (xs.drop m):=by
  unfold ao.mV;rw[<-List.flatMap_append,oM]
 rw[e,bu];omega
theorem anJ{vars:List AV}{fl:Option (Nat×AV)}{σ:List ag}{k:Nat}{ws:List (List Int)}{Q:Ex->St->Prop}(hn:nth vars k = .sl σ.length ws.length 0 ws.length) (h:∀q,Q .fm ⟨eT vars k (.aE q (ws.map iL)),fl,σ ++ [⟨none,ws.map iL,.dead⟩]⟩):W L (.lu k) ⟨vars,fl,σ ++ [l9 ws]⟩ Q:=by
 generalize hB:l9 ws=B;have hb:=Aq (B:=B) (rfl:σ.length=σ.length);have hr:reach (σ ++ [B]) vd (.sl σ.length ws.length 0 ws.length) []=[σ.length]:=by
  show reach (σ ++ [B]) (11+1) (.sl σ.length ws.length 0 ws.length) []=[σ.length];unfold reach;simp only[hb];rw[aa (by simp),<-hB]
  exact Sw ws [σ.length]
 have hd1:ak (bI (λb=>!([σ.length]:List Nat).contains b) 0 (σ ++ [B])) σ.length=some (l9 ws):=by
  rw[nM,hb,hB];simp
 have hd2:bI (λb=>([σ.length]:List Nat).contains b) 0 (σ ++ [B])=σ ++ [⟨B.k,B.cells,.dead⟩]:=by
  rw[Vi,Vh λj h1 h2=>by simp;omega]
  congr 1
  simp[bI]
 have hv:=akW hd1;have hBc:(⟨B.k,B.cells,.dead⟩:ag)=⟨none,ws.map iL,.dead⟩:=by rw[<-hB]
 cases hs:gU (σ ++ [B]) (.sl σ.length ws.length 0 ws.length)with
 |true=>
  refine⟨0,.fm,_,?_,h true⟩;simp only[exec,hn,hr,hv,hs,hd2,hBc]
  rfl
 |false=>
  refine⟨0,.fm,_,?_,h false⟩;simp only[exec,hn,hr,hv,hs,hd2,hBc]
  rfl
theorem LM.ext{S:Lg}{O:Nat->Option ag}{σ τ:List ag}(h:LM S O σ) (he:∀i B,ak σ i=some B->ak τ i=some B):LM S O τ:=⟨he _ _ h.l,he _ _ h.m,he _ _ h.c,λe hx=>he _ _ (h.r e hx),h.le,h.ok,h.nd,h.nb,h.A8,h.xk,λi B hB=>⟨he _ _ (h.o i B hB).1,(h.o i B hB).2⟩⟩
theorem anK{S:Lg}{O:Nat->Option ag}{σ:List ag}(h:LM S O σ) (ho:S.Ok) (hz:((S.n.iM S.ws S.ws).length:Int)<=1000000) (hf:pw (S.n.iM S.ws S.ws)):LX L IQ [.ptr 3 13 0] σ (λr τ=>LM S O τ/\σ.length<=τ.length/\r=cK (gz (S.n.iM S.ws S.ws))):=by
 refine aiz rfl ?_;have Kl:=λB:ag=>(h.add B).l;have xM:=ho.wl;obtain⟨r6,p9⟩:=ho.ok.calls;obtain⟨Zt,WI⟩:=ho.ok.aj;obtain⟨AL,AM⟩:=ho.ok.aq;simp[-al,Kl,ao.pQ];refine bC (λk:Nat=>[(1,.int k),(6,.sl σ.length (S.n.iM S.ws (S.ws.take k)).length 0 (S.n.iM S.ws (S.ws.take k)).length)]) (λk=>σ ++ [l9 (S.n.iM S.ws (S.ws.take k))])
  (λk=>k<=S.ws.length) (λk=>S.ws.length-k) 0 (by simp[bT,ao.iM]) (by omega) ?_
 have hle:∀k,k<=S.ws.length->(S.n.iM S.ws (S.ws.take k)).length<=1000000:=λk _=>by
  have e:S.n.iM S.ws S.ws=S.n.iM S.ws (S.ws.take k)++S.n.iM S.ws (S.ws.drop k):=by
   unfold ao.iM;rw[<-List.flatMap_append,oM]
  rw[e,bu]at hz;omega
 intro k k0
 by_cases hk:k<S.ws.length
 ·have rY:S.ws.take (k+1)=S.ws.take k ++ [ix S.ws (k:Int)]:=by rw[lg hk]
  generalize hA:S.n.iM S.ws (S.ws.take k)=A at *;have eX:∀B,ak (σ ++ [B]) σ.length=some B:=λB=>Aq rfl;have bR:∀A B,ay (σ ++ [A]) σ.length B=σ ++ [B]:=λA B=>anh rfl;have hww:=ho.ws _ (aZ (l:=S.ws) (n:=(k:Int)) (by omega) (by omega))
  have Aw:S.n.iM S.ws (S.ws.take (k+1))=A++(S.n.qS (ix S.ws (k:Int)) S.n.aj.toNat++S.n.pV (ix S.ws (k:Int)) S.ws S.n.calls.toNat):=by rw[rY,VM,hA]
  have fP:=hle (k+1) (by omega)
  rw[Aw]at fP;generalize hw:ix S.ws (k:Int)=w at *;simp[-al,-List.map_take,hk,Kl,ao.pQ,hw];refine bC (λi:Nat=>[(4,.int i),(6,.sl σ.length (A++S.n.qS w i).length 0 (A++S.n.qS w i).length)]) (λi=>σ ++ [l9 (A++S.n.qS w i)]) (λi=>(i:Int)<=S.n.aj) (λi=>(S.n.aj-i).toNat) 0 (by simp[bT,ao.qS]) (by omega) ?_
  intro i i0
  by_cases hi:(i:Int)<S.n.aj
  ·have Xa:=λB=>VB (h.add B) ho.ok w i (by omega) hi (by omega)
   have r8:(A++S.n.qS w i).length<=1000000:=by
    simp only[bu,ao.qS,dR,List.length_range]at fP ⊢;omega
   have mH:=VJ (n:=S.n) (w:=w) (k:=i);have ea:A++S.n.qS w (i+1)=(A++S.n.qS w i) ++ [w ++ [S.n.calls+(i:Int)]]:=by rw[mH,iS]
   have el:A.length+(S.n.qS w (i+1)).length=(A++S.n.qS w i).length+1:=by rw[mH];simp;omega
   generalize hB:A++S.n.qS w i=B at *;simp[-al,hi,Xa,eX,bR];refine⟨by split<;>rfl,by omega,by omega,ba (i+1) (by simp[el]) (by rw[ea];simp) (by omega) (by omega)⟩
  ·have ei:i=S.n.aj.toNat:=by omega
   rw[<-ei]at fP Aw;have aqy:(A++S.n.qS w i).length+(S.n.pV w S.ws S.n.calls.toNat).length<=1000000:=by
    rw[bu,bu]at fP;rw[bu];omega
   have FW:S.n.iM S.ws (S.ws.take (k+1))=(A++S.n.qS w i)++S.n.pV w S.ws S.n.calls.toNat:=by rw[Aw,iS]
   generalize hA2:A++S.n.qS w i=A2 at *;simp[-al,hi,Kl,ao.pQ];refine bC (λc:Nat=>[(9,.int c),(6,.sl σ.length (A2++S.n.pV w S.ws c).length 0 (A2++S.n.pV w S.ws c).length)]) (λc=>σ ++ [l9 (A2++S.n.pV w S.ws c)]) (λc=>(c:Int)<=S.n.calls) (λc=>(S.n.calls-c).toNat) 0 (by simp[bT,ao.pV]) (by omega) ?_
   intro c c0
   by_cases hc:(c:Int)<S.n.calls
   ·have AN:=GQ (n:=S.n) (w:=w) (xs:=S.ws) (k:=c)
    have ea2:A2++S.n.pV w S.ws (c+1)=(A2++S.n.pV w S.ws c)++S.n.mV w (c:Int) S.ws:=by rw[AN,iS]
    have BJ:A2.length+(S.n.pV w S.ws (c+1)).length=((A2++S.n.pV w S.ws c)++S.n.mV w (c:Int) S.ws).length:=by rw[<-ea2,bu]
    have lU:((A2++S.n.pV w S.ws c)++S.n.mV w (c:Int) S.ws).length<=1000000:=by
     have:(S.n.pV w S.ws (c+1)).length<=(S.n.pV w S.ws S.n.calls.toNat).length:=anH (by omega)
     rw[<-ea2,bu];omega
    generalize hA3:A2++S.n.pV w S.ws c=A3 at *;have anL :=lU;rw[bu]at anL BJ;simp[-al,hc,Kl,ao.pQ];refine bC (λm:Nat=>[(11,.int m),(6,.sl σ.length (A3++S.n.mV w c (S.ws.take m)).length 0 (A3++S.n.mV w c (S.ws.take m)).length)]) (λm=>σ ++ [l9 (A3++S.n.mV w c (S.ws.take m))]) (λm=>m<=S.ws.length) (λm=>S.ws.length-m) 0 (by simp[bT,ao.mV]) (by omega) ?_
    intro m m0
    by_cases hm:m<S.ws.length
    ·have htm:S.ws.take (m+1)=S.ws.take m ++ [ix S.ws (m:Int)]:=by rw[lg hm]
     have tA:=ho.ws _ (aZ (l:=S.ws) (n:=(m:Int)) (by omega) (by omega))
     have Xb:S.n.mV w c (S.ws.take (m+1))=S.n.mV w c (S.ws.take m)++S.n.pS w c (ix S.ws (m:Int)) S.n.aq.toNat:=by rw[htm,VL]
     have Lf:(S.n.mV w c (S.ws.take (m+1))).length<=(S.n.mV w c S.ws).length:=anI;generalize hx:ix S.ws (m:Int)=x at *;have ea3:A3++S.n.mV w c (S.ws.take (m+1))=(A3++S.n.mV w c (S.ws.take m))++S.n.pS w c x S.n.aq.toNat:=by rw[Xb,iS]
     have el3:A3.length+(S.n.mV w c (S.ws.take (m+1))).length=(A3++S.n.mV w c (S.ws.take m)).length+(S.n.pS w c x S.n.aq.toNat).length:=by rw[<-List.length_append,ea3,bu]
     generalize hA4:A3++S.n.mV w c (S.ws.take m)=A4 at *;simp[-al,-List.map_take,hm,Kl,ao.pQ,hx];refine bC (λr:Nat=>[(14,.int r),(6,.sl σ.length (A4++S.n.pS w c x r).length 0 (A4++S.n.pS w c x r).length)]) (λr=>σ ++ [l9 (A4++S.n.pS w c x r)]) (λr=>(r:Int)<=S.n.aq) (λr=>(S.n.aq-r).toNat) 0 (by simp[bT,ao.pS]) (by omega) ?_
     intro r r0
     by_cases hr:(r:Int)<S.n.aq
     ·have qO:=λB=>VC (h.add B) ho.ok w x c r (by omega) hc (by omega) hr (by omega) (by omega)
      have hb4:=VK (n:=S.n) (w:=w) (x:=x) (c:=c) (k:=r);have ea4:A4++S.n.pS w c x (r+1)=(A4++S.n.pS w c x r) ++ [w++(c:Int)::(x ++ [S.n.calls+S.n.aj+(r:Int)])]:=by rw[hb4,iS]
      have el4:A4.length+(S.n.pS w c x (r+1)).length=(A4++S.n.pS w c x r).length+1:=by rw[<-List.length_append,ea4];simp;omega
      have WA:(A4++S.n.pS w c x r).length<1000000:=by
       have e1:(S.n.pS w c x S.n.aq.toNat).length=S.n.aq.toNat:=by simp[ao.pS]
       have e2:(S.n.pS w c x r).length=r:=by simp[ao.pS]
       rw[bu,e2];rw[e1]at el3;omega
      generalize hB:A4++S.n.pS w c x r=B at *;simp[-al,hr,qO,eX,bR];refine⟨by split<;>rfl,by omega,by omega,ba (r+1) (by simp[el4]) (by rw[ea4];simp) (by omega) (by omega)⟩
     ·have er:r=S.n.aq.toNat:=by omega
      rw[<-er]at ea3 el3;simp[-al,-List.map_take,hr];refine⟨by omega,ba (m+1) (by simp[el3]) (by rw[ea3]) (by omega) (by omega)⟩
    ·have em:m=S.ws.length:=by omega
     subst em;simp[-al,-List.map_take];refine⟨by omega,ba (c+1) (by simp[BJ]) (by rw[ea2]) (by omega) (by omega)⟩
   ·have ec:c=S.n.calls.toNat:=by omega
    rw[<-ec]at FW;simp[-al,-List.map_take,hc];refine⟨by omega,ba (k+1) (by simp[-List.map_take,FW]) (by rw[FW]) (by omega) (by omega)⟩
 ·have ek:k=S.ws.length:=by omega
  subst ek;rw[gl (bw _)];generalize hE:S.n.iM S.ws S.ws=E at *;have hS:=Tp E hz hf;simp[-al];refine anJ rfl λq=>?_;simp[hS];exact h.ext λi B hB=>rT hB
end Ab
