/- slices.Concat of lists of words; wordset.Union (SepK over fewer texts). The learner's memory, contexts, symbols. The learner: what is known of words. The learner's row. The learner's states: rows of the words. The learner's extensions. Condition: none. -/
import Derived.Test.YtdenhmniigikcaaGreatN44N
import Derived.Test.YtdenhmniigikcaaGreatFrz
import Derived.Test.YtdenhmniigikcaaGreatN44Y
import Derived.Test.YtdenhmniigikcaaGreatS44W
set_option linter.all false
set_option maxRecDepth 100000
set_option maxHeartbeats 4000000
namespace Ab
theorem aoF{k n:Nat}:kP k (List.replicate n .ah)=List.replicate n .ah:=by
 induction n with
 |zero=>rfl
 |succ n ih=>simp only[ug,kP,jA,ih]
theorem aoG (n:Nat) (h:0<n) (hb:(n:Int)<=1073741824):L zt [.ah,.int n] []=some (.sl 0 n 0 0,[⟨none,List.replicate n .ah,.live⟩]):=by
 refine QY (N:=0) ?_;simp only[ke];rw[ab (by simp;omega),ae ⟨by omega,by rw[show(dG:Int)=1073741824 from rfl];exact hb⟩]
 simp
theorem aoH:L zt [.ah,.int 0] []=some (.ah,[]):=QY (N:=0) rfl
def kD (ps:List (List (List Int))):List (List Int):=ps.flatten
theorem Lm{ps:List (List (List Int))}{i:Nat}(h:i<ps.length):(kD (ps.take (i+1)))=(kD (ps.take i))++ix ps (i:Int):=by
 unfold kD;rw[nO,de h,List.flatten_append,aT h];simp
theorem AG{ps:List (List (List Int))}(i:Nat):(kD (ps.take i)).length<=(kD ps).length:=by
 have:(kD ps)=(kD (ps.take i))++(kD (ps.drop i)):=by unfold kD;rw[<-List.flatten_append,oR]
 rw[this];simp
theorem aoI{a b:List (List Int)}{n:Nat}(h:a.length+b.length<=n):putAt (a.map iL++List.replicate (n-a.length) .ah) a.length (b.map iL)=(a++b).map iL++List.replicate (n-(a.length+b.length)) .ah:=by
 unfold putAt;rw[List.take_left' (by simp),List.drop_append,jJ (by simp)]
 simp;omega
theorem aoJ (ps:List (List (List Int))) (hp:(ps.length:Int)<=1000000) (h:((kD ps).length:Int)<=1000000):PC IS [.aE false (ps.map cO)]=some (cO (kD ps)):=by
 refine cu (ajz rfl ?_);simp;refine bu (λi:Nat=>[(1,.int i),(4,.int ((kD (ps.take i)).length:Int))]) (λ_=>[]) (λi=>i<=ps.length) (λi=>ps.length-i) 0 (by simp[bY,kD]) (by omega) λi i1=>?_
 by_cases hi:i<ps.length
 ·have e:=Lm hi
  have l1:=AG (ps:=ps) i;have l2:=AG (ps:=ps) (i+1);rw[e,bz]at l2;have e2:((kD (ps.take (i+1))).length:Int)=((kD (ps.take i)).length:Int)+((ix ps (i:Int)).length:Int):=by rw[e,bz];omega
  generalize (kD (ps.take i)).length=A at *;simp[-ao,-List.map_take,hi];refine⟨by omega,by omega,λ_=>⟨by omega,aX (i+1) (by simp[-List.map_take,e2]) rfl (by omega) (by omega)⟩⟩
 ·have E5:ps.take i=ps:=gu (by omega)
  rw[E5]
  by_cases hz:(kD ps).length=0
  ·have hc:(kD ps)=[]:=dW hz
   have fK:∀j:Nat,j<ps.length->ix ps (j:Int)=[]:=λj hj=>by
    have:=Lm hj;have l2:=AG (ps:=ps) (j+1);rw[this,bz]at l2;exact dW (by omega)
   rw[hc];simp[-ao,hi,aoH,jA];refine bu (λi:Nat=>[(6,.int i)]) (λ_=>[]) (λi=>i<=ps.length) (λi=>ps.length-i) 0 (by simp[bY]) (by omega) λj j1=>?_
   by_cases hj:j<ps.length
   ·have h1:=fK j hj
    simp[-ao,hj,h1];refine⟨by omega,aX (j+1) (by simp) rfl (by omega) (by omega)⟩
   ·simp[hj]
  ·have hg:=aoG (kD ps).length (by omega) (by omega)
   have dx : (ps.length<=i)=True:=bH (by omega)
   generalize hF:(kD ps)=F at *;simp[-ao,-List.map_replicate,hi,hg,jA,gR,aoF];refine bu (λi:Nat=>[(6,.int i),(9,.sl 0 F.length 0 (kD (ps.take i)).length)]) (λi=>[⟨none,(kD (ps.take i)).map iL++List.replicate (F.length-(kD (ps.take i)).length) .ah,.live⟩]) (λi=>i<=ps.length) (λi=>ps.length-i) 0 (by simp[bY,kD]) (by omega) λj j1=>?_
   by_cases hj:j<ps.length
   ·have e:=Lm hj
    have l1:=AG (ps:=ps) j;have l2:=AG (ps:=ps) (j+1);rw[e,bz]at l2;rw[hF]at l1 l2;generalize (kD (ps.take j))=A at *;have xL:=aoI (a:=A) (b:=ix ps (j:Int)) (n:=F.length) l2
    by_cases hn:ix ps (j:Int)=[]
    ·have rS:(kD (ps.take (j+1)))=A:=by rw[e,hn];simp
     simp[-ao,-List.map_replicate,-List.map_take,hj,hn];refine⟨by omega,by omega,by omega,aX (j+1) (by simp[rS]) (by simp only[rS]) (by omega) (by omega)⟩
    ·have ss:0<(ix ps (j:Int)).length:=mC.2 hn
     simp[-ao,-List.map_replicate,-List.map_take,hj,hn];refine⟨by omega,by omega,λhc=>by omega,λ_=>⟨by omega,by omega,aX (j+1) (by simp[e]) (by simp only[e,bz];rw[<-xL]) (by omega) (by omega)⟩⟩
   ·have yQ:ps.take j=ps:=gu (by omega)
    rw[yQ,hF];have hv:=GP (σ:=[⟨none,F.map iL,.live⟩]) (fr:=false) (b:=0) (xs:=F) (n:=F.length) (st:=.live) rfl (by simp) rfl
    simp[hj,hv]
theorem aoK (ps:List (List (List Int))) (hp:(ps.length:Int)<=1000000) (h:((kD ps).length:Int)<=1000000) (hw:pA (kD ps)):PC EK [.aE false (ps.map cO)]=some (cO (gC (kD ps))):=by
 refine cu (ajq rfl ?_);have h1:=aoJ ps hp h;have h2:=T4 (kD ps) (by omega) hw
 simp[h1,h2]
attribute [local simp] nX
theorem aoL{k:Nat}{n:Int}{K:AV->Prop}:sf (.bd (.ik k n)) none K=K (.ik k n):=rfl
attribute [local simp] aoL GB
def XO (l:List Int):ag:=⟨none,l.map .int,if l=[]then .jP else .live⟩
theorem V9{l:List Int}:(ff l).length=l.length:=by simp[ff]
theorem Wa{x:Int}(h0:0<=x) (h1:x<=255):((UInt8.ofNat x.toNat).toNat:Int)=x:=by
 have:(UInt8.ofNat x.toNat).toNat=x.toNat:=by simp;omega
 rw[this];omega
theorem Wb (l:List Int) (hl:∀x∈l,0<=x/\x<=255) (hn:l.length<=100000):PC C6 [.str (ff l)]=some (iL l):=by
 refine cu (ajC rfl ?_);have hk:=V9 (l:=l);have hb:(ff l).map (λb=>AV.ik 4 (b.toNat:Int))=l.map (AV.ik 4):=by
  unfold ff;rw[List.map_map];exact gk λx hx=>congrArg (AV.ik 4) (Wa (hl x hx).1 (hl x hx).2)
 simp[-ao];rw[hb,hk];refine bu (λi:Nat=>[(4,.sl 0 i 0 i),(1,.int i)]) (λi=>[XO (l.take i)]) (λi=>i<=l.length) (λi=>l.length-i) 0 (by simp[bY,XO]) (by omega) ?_
 intro i Z6
 by_cases hi:i<l.length
 ·have tk:=lj hi
  have b8:l ≠ []:=λe=>by subst e;simp at hi
  have mc:min i l.length=i:=q8 (by omega)
  have hx:=hl _ (aU (l:=l) (n:=(i:Int)) (by omega) (by omega))
  have AQ:=bH (show(ix l (i:Int))<=9223372036854775807 by omega)
  have AX:=bH (show(-9223372036854775808:Int)<=(ix l (i:Int))by omega)
  simp[-ao,-List.map_take,hi,hx.1,AX,AQ,mc,XO];exact⟨by split<;>rfl,by omega,by omega,aX (i+1) (by simp) (by rw[tk];simp[b8]) (by omega) (by omega)⟩
 ·have ei:i=l.length:=by omega
  subst ei;have hv:=qP (σ:=[⟨none,l.map .int,if l=[]then .jP else .live⟩]) (fr:=false) (b:=0) (xs:=l) rfl (by split<;>rfl) rfl
  simp[-ao,-List.map_take,XO,hv]
def ctA (c:List Int×List Int):AV:=.agg [.str (ff c.1),.str (ff c.2)]
def F7 (c:List Int×List Int):Prop:=(∀x∈c.1,0<=x/\x<=255)/\(∀x∈c.2,0<=x/\x<=255)/\c.1.length+c.2.length<=100000
theorem Wc (c:List Int×List Int) (hc:F7 c) (w:List Int) (hw:w.length<=100000):PC IT [ctA c,iL w]=some (iL (c.1++(w++c.2))):=by
 refine cu (ajA rfl ?_);have h1:=Wb c.1 hc.1 (by have:=hc.2.2;omega)
 have h2:=Wb c.2 hc.2.1 (by have:=hc.2.2;omega)
 have h3:=JQ [(false,c.1),(false,w),(false,c.2)] (by simp) (by have:=hc.2.2;simp[cat];omega)
 have e:[(false,c.1),(false,w),(false,c.2)].map wB=[iL c.1,iL w,iL c.2]:=by simp[wB]
 rw[e]at h3;have z:∀l:List Int,ff l=[]->l=[]:=λl h=>by
  have:=V9 (l:=l);rw[h]at this;exact dW this.symm
 simp[ctA,h1,h2,h3];refine⟨λa b=>by rw[z _ a,z _ b];simp,λ_=>by simp[cat]⟩
structure Lg where
 n:ak
 ws:List (List Int)
 cs:List (List Int×List Int)
 mo:List (List Int×Nat×Nat)
 pc:Nat
def ak.pV (n:ak):List AV:=[.int n.calls,.int n.aj,.int n.aq,.int n.stack,.int n.start,bL n.accept,cO n.call,cO n.push,cO n.inner,fX n.pop]
def ak.We (n:ak) (w:List Int) (c:List Int×List Int):Int:=if(n.acc (c.1++(w++c.2))).1=true then 43 else 45
def ak.Hh (n:ak) (w:List Int) (c:List Int×List Int):Int:=(n.acc (c.1++(w++c.2))).2
def ak.kp (n:ak) (w:List Int):List (List Int×List Int)->Int
 | []=>0
 |c::l=>if n.Hh w c ≠ 0 then n.Hh w c else n.kp w l
def ak.kq (n:ak) (cs:List (List Int×List Int)) (w:List Int):List Int:=cs.map (n.We w)
def Hi (n:ak) (cs:List (List Int×List Int)) (w:List Int):AV:=if n.kp w cs=0 then .bS [.str (ff (n.kq cs w)),.int 0]else .bS [.str [],.int (n.kp w cs)]
def F8 (cs:List (List Int×List Int)):List AV:=cs.flatMap λc=>[.str (ff c.1),.str (ff c.2)]
def Wf (cs:List (List Int×List Int)):ag:=⟨some 2,F8 cs,.live⟩
def qE (mo:List (List Int×Nat×Nat)):List (AV×AV):=mo.map λe=>(.str (ff e.1),.sl e.2.2 e.2.1 0 e.2.1)
def mX (w:List Int):List (List Int×Nat×Nat)->Option (Nat×Nat)
 | []=>none
 |e::l=>if e.1=w then some e.2 else mX w l
def mY (w:List Int) (q:Nat×Nat):List (List Int×Nat×Nat)->List (List Int×Nat×Nat)
 | []=>[(w,q)]
 |e::l=>if e.1=w then(w,q)::l else e::mY w q l
structure LM (S:Lg) (O:Nat->Option ag) (σ:List ag):Prop where
 l:al σ 3=some ⟨some 13,S.n.pV ++ [cO S.ws,.sl S.pc (2*S.cs.length) 0 S.cs.length,.cQ 2],.live⟩
 m:al σ 2=some ⟨some 0,[],.map (qE S.mo)⟩
 c:al σ S.pc=some (Wf S.cs)
 r:∀e∈S.mo,al σ e.2.2=some ⟨none,((S.n.kq S.cs e.1).take e.2.1).map (.ik 4),.live⟩
 le:∀e∈S.mo,e.2.1<=S.cs.length/\1<=e.2.1/\S.n.kp e.1 (S.cs.take e.2.1)=0
 ok:∀e∈S.mo,dC e.1
 nd:(S.mo.map (·.1)).Nodup
 nb:(S.mo.map (·.2.2)).Nodup
 Bl:S.pc ≠ 2/\S.pc ≠ 3
 xu:∀e∈S.mo,e.2.2 ≠ 2/\e.2.2 ≠ 3/\e.2.2 ≠ S.pc
 o:∀i B,O i=some B->al σ i=some B/\i ≠ 2/\i ≠ 3/\i ≠ S.pc/\∀e∈S.mo,e.2.2 ≠ i
theorem Wg{S:Lg}{O:Nat->Option ag}{σ:List ag}(h:LM S O σ) (hn:S.n.Ok) (w:List Int) (i:Int) (h0:0<=i) (h1:i<S.n.aj) (hw:w.length<=100000):L CX [.ptr 3 13 0,iL w,.int i] σ=some (iL (w ++ [S.n.calls+i]),σ):=by
 refine pb (ajt rfl ?_);have hl:=h.l;have bV:=hn.states;have gG:=hn.calls;have eZ:=hn.aj;have hJ:PC uM [.aE false [iL w,.aE false [.int (S.n.calls+i)]]]=some (iL (w ++ [S.n.calls+i])):=by
  have:=JQ [(false,w),(false,[S.n.calls+i])] (by simp) (by simp[cat];omega)
  simp[wB,cat]at this;exact this
 simp[-ao,hl,ak.pV,hJ];omega
theorem Wh{S:Lg}{O:Nat->Option ag}{σ:List ag}(h:LM S O σ) (hn:S.n.Ok) (w x:List Int) (c r:Int) (c0:0<=c) (c1:c<S.n.calls) (r0:0<=r) (r1:r<S.n.aq) (hw:w.length<=100000) (hx:x.length<=100000):L CY [.ptr 3 13 0,iL w,.int c,iL x,.int r] σ=some (iL (w++c::(x ++ [S.n.calls+S.n.aj+r])),σ):=by
 refine pb (aju rfl ?_);have hl:=h.l;have bV:=hn.states;have gG:=hn.calls;have eZ:=hn.aj;have GK:=hn.aq;have hJ:PC uM [.aE false [iL w,.aE false [.int c],iL x,.aE false [.int (S.n.calls+S.n.aj+r)]]]=some (iL (w++c::(x ++ [S.n.calls+S.n.aj+r]))):=by
  have:=JQ [(false,w),(false,[c]),(false,x),(false,[S.n.calls+S.n.aj+r])] (by simp) (by simp[cat];omega)
  simp[wB,cat]at this;exact this
 simp[-ao,hl,ak.pV,hJ];omega
end Ab
namespace Ab
attribute [local simp] nX
theorem Lo{w:List Int}(hw:dC w):∀{mo:List (List Int×Nat×Nat)},(∀e∈mo,dC e.1)->cL (qE mo) (.str (ff w))=some ((mX w mo).map λq=>.sl q.2 q.1 0 q.1)
 | [],_=>rfl
 |e::l,h=>by
  have ih:=Lo hw (mo:=l) λx hx=>h x (by simp[hx])
  show(match eA (.str (ff w)) (.str (ff e.1))with
   |some true=>some (some (AV.sl e.2.2 e.2.1 0 e.2.1))
   |some false=>cL (qE l) (.str (ff w))
   |none=>none)=_
  by_cases q:e.1=w
  ·subst q
   simp[eA,mX]
  ·have b8:ff w ≠ ff e.1:=λhh=>q (EV hw (h e (by simp)) hh).symm
   simp[eA,b8,ih,mX,q]
theorem aoM{w:List Int}(hw:dC w) (q:Nat×Nat):∀{mo:List (List Int×Nat×Nat)},(∀e∈mo,dC e.1)->uI (qE mo) (.str (ff w)) (.sl q.2 q.1 0 q.1) ((mX w mo).map λq=>.sl q.2 q.1 0 q.1)=qE (mY w q mo):=by
 intro mo h;cases hg:mX w mo with
 |none=>
  show qE mo ++ [(.str (ff w),.sl q.2 q.1 0 q.1)]=_;clear h
  induction mo with
  |nil=>rfl
  |cons e l ih=>
   simp only[mX]at hg;split at hg
   ·simp at hg
   ·rename_i b8
    simp only[mY,ab b8];rw[show qE (e::mY w q l)=(.str (ff e.1),.sl e.2.2 e.2.1 0 e.2.1)::qE (mY w q l)from rfl,<-ih hg]
    rfl
 |some z=>
  show iY (qE mo) (.str (ff w)) (.sl q.2 q.1 0 q.1)=_
  induction mo with
  |nil=>simp[mX]at hg
  |cons e l ih=>
   show(match eA (.str (ff w)) (.str (ff e.1))with
    |some true=>(AV.str (ff e.1),AV.sl q.2 q.1 0 q.1)::qE l
    |_=>(AV.str (ff e.1),AV.sl e.2.2 e.2.1 0 e.2.1)::iY (qE l) (.str (ff w)) (.sl q.2 q.1 0 q.1))=_
   simp only[mX]at hg
   by_cases hq:e.1=w
   ·subst hq
    simp[eA,mY]
    rfl
   ·rw[ab hq]at hg
    have b8:ff w ≠ ff e.1:=λhh=>hq (EV hw (h e (by simp)) hh).symm
    simp[eA,b8,mY,hq,ih (λx hx=>h x (by simp[hx])) hg]
    rfl
theorem rY{w:List Int}{q:Nat×Nat}:∀{mo:List (List Int×Nat×Nat)},mX w mo=some q->(w,q)∈mo
 | [],h=>by simp[mX]at h
 |e::l,h=>by
  simp only[mX]at h;split at h
  ·rename_i he
   subst he;simp at h;subst h;simp
  ·exact List.mem_cons_of_mem _ (rY h)
theorem AH{w:List Int}{q:Nat×Nat}:∀{mo:List (List Int×Nat×Nat)},mX w (mY w q mo)=some q
 | []=>by simp[mX,mY]
 |e::l=>by
  simp only[mY];split
  ·simp[mX]
  ·rename_i he
   simp[mX,he,AH]
theorem tO{w:List Int}{q:Nat×Nat}{x:List Int×Nat×Nat}:∀{mo:List (List Int×Nat×Nat)},(mo.map (·.1)).Nodup->(x∈mY w q mo↔x=(w,q)\/(x∈mo/\x.1 ≠ w))
 | [],_=>by simp[mY]
 |e::l,hn=>by
  rw[dd,mH]at hn;simp only[mY];split
  ·rename_i he
   simp only[cD];constructor
   ·rintro(a|a)
    ·exact .inl a
    ·refine .inr ⟨.inr a,λe' =>hn.1 ?_⟩
     rw[he,<-e'];exact List.mem_map_of_mem a
   ·rintro(a|⟨a|a,b⟩)
    ·exact .inl a
    ·exact absurd (a▸he) b
    ·exact .inr a
  ·rename_i he
   simp only[cD,tO hn.2];constructor
   ·rintro(a|a|⟨a,b⟩)
    ·exact .inr ⟨.inl a,by rw[a];exact he⟩
    ·exact .inl a
    ·exact .inr ⟨.inr a,b⟩
   ·rintro(a|⟨a|a,b⟩)
    ·exact .inr (.inl a)
    ·exact .inl a
    ·exact .inr (.inr ⟨a,b⟩)
theorem Wi{w:List Int}{q:Nat×Nat}:∀{mo:List (List Int×Nat×Nat)},(mo.map (·.1)).Nodup->((mY w q mo).map (·.1)).Nodup
 | [],_=>by simp[mY]
 |e::l,hn=>by
  have lA :=hn;rw[dd,mH]at hn;simp only[mY];split
  ·rename_i he
   rw[dd,mH];exact⟨by rw[<-he];exact hn.1,hn.2⟩
  ·rename_i he
   rw[dd,mH];refine⟨λhm=>?_,Wi hn.2⟩;obtain⟨x,hx,e'⟩:=cU.1 hm;rcases(tO hn.2).1 hx with a|⟨a,b⟩
   ·subst a;exact he e'.symm
   ·exact hn.1 (e' ▸List.mem_map_of_mem a)
theorem Wj{α β:Type}{f:α->β}:∀{l:List α},(l.map f).Nodup->∀{x y:α},x∈l->y∈l->f x=f y->x=y
 | [],_,_,_,h,_,_=>by simp at h
 |e::l,hn,x,y,hx,hy,q=>by
  rw[dd,mH]at hn;rcases cD.1 hx with a|a<;>rcases cD.1 hy with b|b
  ·rw[a,b]
  ·exact absurd (cU.2 ⟨y,b,by rw[<-q,a]⟩) hn.1
  ·exact absurd (cU.2 ⟨x,a,by rw[q,b]⟩) hn.1
  ·exact Wj hn.2 a b q
theorem Wk{w:List Int}{q:Nat×Nat}:∀{mo:List (List Int×Nat×Nat)},(mo.map (·.1)).Nodup->(mo.map (·.2.2)).Nodup->(∀e∈mo,e.1 ≠ w->e.2.2 ≠ q.2)->((mY w q mo).map (·.2.2)).Nodup
 | [],_,_,_=>by simp[mY]
 |e::l,hn,hb,hq=>by
  rw[dd,mH]at hn hb;simp only[mY];split
  ·rename_i he
   rw[dd,mH];refine⟨λhm=>?_,hb.2⟩;obtain⟨x,hx,e'⟩:=cU.1 hm;refine hq x (by simp[hx]) (λe2=>hn.1 ?_) e'
   rw[he,<-e2];exact List.mem_map_of_mem hx
  ·rename_i he
   rw[dd,mH];refine⟨λhm=>?_,Wk hn.2 hb.2 λx hx=>hq x (by simp[hx])⟩
   obtain⟨x,hx,e'⟩:=cU.1 hm;rcases(tO hn.2).1 hx with a|⟨a,b⟩
   ·subst a;exact hq e (by simp) he e'.symm
   ·exact hb.1 (e' ▸List.mem_map_of_mem a)
theorem LM.mark{S:Lg}{O:Nat->Option ag}{σ τ:List ag}(h:LM S O σ){w:List Int}(hw:dC w){k b:Nat}(hk:k<S.cs.length) (he:S.n.kp w (S.cs.take (k+1))=0)
  (hb:mX w S.mo=some (k,b)\/mX w S.mo=none/\k=0/\σ.length<=b)
  (hm:al τ 2=some ⟨some 0,[],.map (qE (mY w (k+1,b) S.mo))⟩)
  (hr:al τ b=some ⟨none,((S.n.kq S.cs w).take (k+1)).map (.ik 4),.live⟩)
  (ho:∀i,i<σ.length->i ≠ 2->i ≠ b->al τ i=al σ i):LM {S with mo:=mY w (k+1,b) S.mo} O τ:=by
 have lt:∀{i:Nat} {B:ag},al σ i=some B->i<σ.length:=fun {i B} q=>by
  exact dB q
 have bn:b ≠ 2/\b ≠ 3/\b ≠ S.pc:=by
  rcases hb with hb|⟨_,_,hb⟩
  ·exact h.xu _ (rY hb)
  ·have h2:=lt h.m
   have h3:=lt h.l;have h4:=lt h.c;omega
 have be:∀e∈S.mo,e.1 ≠ w->e.2.2 ≠ b:=λe hx b8 q=>by
  rcases hb with hb|⟨_,_,hb⟩
  ·have:=rY hb
   exact b8 (congrArg (·.1) (Wj h.nb hx this q))
  ·have:=lt (h.r e hx);omega
 have bo:∀i B,O i=some B->b ≠ i:=λi B hB q=>by
  obtain⟨h1,_,_,_,h2⟩:=h.o i B hB;rcases hb with hb|⟨_,_,hb⟩
  ·exact h2 _ (rY hb) q
  ·have:=lt h1;omega
 refine⟨?_,hm,?_,λe hx=>?_,λe hx=>?_,λe hx=>?_,Wi h.nd,Wk h.nd h.nb be,h.Bl,λe hx=>?_,λi B hB=>?_⟩
 ·rw[ho 3 (lt h.l) (by omega) (Ne.symm bn.2.1)];exact h.l
 ·rw[show({S with mo:=mY w (k+1,b) S.mo}:Lg).pc=S.pc from rfl,ho S.pc (lt h.c) h.Bl.1 (Ne.symm bn.2.2)];exact h.c
 ·rcases(tO h.nd).1 hx with rfl|⟨hx,b8⟩
  ·exact hr
  ·rw[ho _ (lt (h.r e hx)) (h.xu e hx).1 (be e hx b8)];exact h.r e hx
 ·rcases(tO h.nd).1 hx with rfl|⟨hx,b8⟩
  ·exact⟨by show k+1<=S.cs.length;omega,by show 1<=k+1;omega,he⟩
  ·exact h.le e hx
 ·rcases(tO h.nd).1 hx with rfl|⟨hx,b8⟩
  ·exact hw
  ·exact h.ok e hx
 ·rcases(tO h.nd).1 hx with rfl|⟨hx,b8⟩
  ·exact bn
  ·exact h.xu e hx
 ·obtain⟨h1,h2,h3,h4,h5⟩:=h.o i B hB
  refine⟨by rw[ho i (lt h1) h2 (Ne.symm (bo i B hB))];exact h1,h2,h3,h4,λe hx=>?_⟩
  rcases(tO h.nd).1 hx with rfl|⟨hx,b8⟩
  ·exact bo i B hB
  ·exact h5 e hx
end Ab
namespace Ab
attribute [local simp] nX
def bU (S T:Lg):Prop:=T.n=S.n/\T.ws=S.ws/\T.cs=S.cs
theorem tP:∀{cs:List (List Int×List Int)},(F8 cs).length=2*cs.length
 | []=>rfl
 |c::cs=>by
  show(.str (ff c.1) :: .str (ff c.2)::F8 cs:List AV).length=_;simp[tP (cs:=cs)];omega
def xx (k b:Nat):AV:=if k=0 then .ah else .sl b k 0 k
theorem aoN{k b:Nat}{K:Int->Prop}:GA (xx k b) K=K k:=by
 unfold xx;split
 ·rename_i h;subst h;rfl
 ·rfl
theorem aoO{a b:List (List Int×List Int)}:F8 (a++b)=F8 a++F8 b:=by simp[F8]
theorem Wl{cs:List (List Int×List Int)}{a i:Nat}{K:AV->Prop}{t:Tk K}(h:a+i<cs.length):pT (F8 cs) (a*2+i*2) (some 2) K t=K (.agg [.str (ff (ix cs (i+a:Nat)).1),.str (ff (ix cs (i+a:Nat)).2)]):=by
 have hs:cs=cs.take (a+i)++cs[a+i]::cs.drop (a+i+1):=by rw[List.getElem_cons_drop,oR]
 have hx:ix cs (i+a:Nat)=cs[a+i]:=by rw[Nat.add_comm,aT h]
 rw[hx];unfold pT part;have hl:=tP (cs:=cs);simp only[];rw[ae (by omega)]
 have:((F8 cs).drop (a*2+i*2)).take 2=[.str (ff cs[a+i].1),.str (ff cs[a+i].2)]:=by
  conv=>lhs;rw[hs]
  rw[aoO,List.drop_append_of_le_length (by rw[tP,mB];omega),jJ (by rw[tP,mB];omega)]
  rfl
 rw[this]
 rfl
theorem Lp{n:ak}{w:List Int}{c:List Int×List Int}:∀{l m:List (List Int×List Int)},n.kp w l=0->n.kp w (l++c::m)=if n.Hh w c ≠ 0 then n.Hh w c else n.kp w m
 | [],_,_=>rfl
 |d::l,m,h=>by
  simp only[ak.kp]at h
  by_cases e:n.Hh w d=0
  ·rw[ab (by simp[e])]at h
   show(if n.Hh w d ≠ 0 then n.Hh w d else n.kp w (l++c::m))=_
   rw[ab (by simp[e]),Lp h]
  ·rw[ae e]at h;exact absurd h e
theorem Lq{S:Lg}{O:Nat->Option ag}{σ:List ag}(h:LM S O σ) (hf:S.n.fits) (jO:∀c∈S.cs,F7 c) (xC:1<=S.cs.length) (r9:S.cs.length<=1000) (w:List Int) (hw:dC w) (hl:w.length<=10000):LX L tf [.ptr 3 13 0,iL w] σ (λr τ=>∃T,LM T O τ/\bU S T/\σ.length<=τ.length/\r=Hi S.n S.cs w):=by
 refine ajs rfl ?_;have hL:=h.l;have hM:=h.m;have hC:=h.c;have ht:=JU w hw (by omega)
 have Ml:=Lo hw h.ok;have qR:∀x,bg 1 (.str x)=true:=λ_=>rfl;obtain⟨k0,b0,j5,hv,hm0,he0⟩:∃k0 b0,k0<=S.cs.length/\ID .ah false ((mX w S.mo).map λq=>.sl q.2 q.1 0 q.1)=xx k0 b0/\(mX w S.mo=some (k0,b0)\/mX w S.mo=none/\k0=0/\b0=σ.length)/\S.n.kp w (S.cs.take k0)=0:=by
  cases hg:mX w S.mo with
  |none=>exact⟨0,σ.length,by omega,rfl,.inr ⟨rfl,rfl,rfl⟩,rfl⟩
  |some q=>
   obtain⟨a,b⟩:=q;have:=h.le _ (rY hg);refine⟨a,b,this.1,?_,.inl rfl,this.2.2⟩;show AV.sl b a 0 a=xx a b;unfold xx;rw[if_neg];have:=this.2.1;dsimp only at this;omega
 simp[-ao,ht,hL,hM,Ml,ak.pV,qR,hv,aoN,hC,Wf,tP,aC];refine⟨j5,?_⟩;refine bu (λq:Nat×Lg×List ag×Nat=>[(3,xx (k0+q.1) q.2.2.2),(4,.int q.1)]) (λq=>q.2.2.1)
  (λq=>q.1+k0<=S.cs.length/\LM q.2.1 O q.2.2.1/\bU S q.2.1/\q.2.1.pc=S.pc/\σ.length<=q.2.2.1.length/\(mX w q.2.1.mo=some (k0+q.1,q.2.2.2)\/mX w q.2.1.mo=none/\k0+q.1=0/\q.2.2.2=q.2.2.1.length)/\S.n.kp w (S.cs.take (k0+q.1))=0)
  (λq=>S.cs.length-q.1) (0,S,σ,b0) (by simp[bY]) ⟨by simpa using j5,h,⟨rfl,rfl,rfl⟩,rfl,bA _,hm0,he0⟩ ?_
 rintro⟨i,T,τ,b⟩ ⟨i0,hT,⟨s1,s2,s3⟩,s4,hle,hg,he⟩;dsimp only at i0 hT s1 s2 s3 s4 hle hg he ⊢;have hL:=hT.l;have hM:=hT.m;have hC:=hT.c;rw[s4,s3]at hC;rw[s1,s2,s3,s4]at hL;have Ml:=Lo hw hT.ok
 by_cases hi:i<S.cs.length-k0
 ·have vD:k0+i<S.cs.length:=by omega
  have zp:=jO _ (aU (l:=S.cs) (n:=((i+k0:Nat):Int)) (by omega) (by omega))
  have xL:=λK t=>Wl (K:=K) (t:=t) vD;have hx:ix S.cs ((i+k0:Nat):Int)=S.cs[k0+i]:=by rw[Nat.add_comm,aT vD]
  have Mm:=Lp (c:=ix S.cs ((i+k0:Nat):Int)) (m:=S.cs.drop (k0+i+1)) he;have xy:=Lp (c:=ix S.cs ((i+k0:Nat):Int)) (m:=[]) he;have r6:S.cs.take (k0+i) ++ [ix S.cs ((i+k0:Nat):Int)]=S.cs.take (k0+i+1):=by rw[hx,List.take_append_getElem]
  rw[r6]at xy;rw[hx,List.getElem_cons_drop,oR,<-hx]at Mm;generalize ix S.cs ((i+k0:Nat):Int)=c at *;have Hj:=Wc c zp w (by omega)
  have gG:=zp.2.2;have xj:=alV S.n hf (c.1++(w++c.2)) (by simp only[bz];omega)
  have hme:S.n.Hh w c=(S.n.acc (c.1++(w++c.2))).2:=rfl;have Gg:S.n.We w c=if(S.n.acc (c.1++(w++c.2))).1=true then 43 else 45:=rfl
  unfold ctA at Hj;unfold ak.av at xj;rw[hme]at Mm xy;generalize c.1++(w++c.2)=u at *;generalize hq:S.n.acc u=q at *;obtain⟨qa,qe⟩:=q;dsimp only at *;have hsp:=hT.xu
  by_cases hz:qe=0
  ·subst hz
   have dY:(S.n.kq S.cs w).take (k0+i+1)=(S.n.kq S.cs w).take (k0+i) ++ [S.n.We w c]:=by
    unfold ak.kq;rw[<-List.map_take,<-List.map_take,<-r6,lg];rfl
   have jn:=aoM hw (k0+i+1,b) hT.ok;have Fe:S.n.kp w (S.cs.take (k0+i+1))=0:=by rw[xy];rfl
   have pP:T.n.kp w (T.cs.take (k0+i+1))=0:=by rw[s1,s3];exact Fe
   have h2l:=dB hM
   by_cases hk:k0+i=0
   ·have yw:xx (k0+i) b = .ah:=ae hk
    have Hk:mX w T.mo=none/\b=τ.length:=by
     rcases hg with hg|⟨hg,_,e⟩
     ·have:=(hT.le _ (rY hg)).2.1
      dsimp only at this;omega
     ·exact⟨hg,e⟩
    have As:∀B,al (τ ++ [B]) 2=some ⟨some 0,[],.map (qE T.mo)⟩:=λB=>rW hM;have yc:=λB=>rW (τ:=[B]) hL;rw[Hk.1]at Ml jn;have Hl : qE T.mo ++ [(.str (ff w),.sl τ.length 1 0 1)]=qE (mY w (k0+i+1,b) T.mo):=by
     rw[<-jn];show _=qE T.mo ++ [(.str (ff w),.sl b (k0+i+1) 0 (k0+i+1))];rw[Hk.2,hk]
    cases qa<;>simp only[reduceIte,eu]at Gg<;>simp[-ao,hi,hL,hC,Wf,ak.pV,↓xL,Hj,xj,tP,yw,As,yc,Ml,qR]
    ·rw[Hl]
     refine⟨by omega,aX (i+1,{T with mo:=mY w (k0+i+1,b) T.mo},_,b) (by simp[xx,Hk.2,<-Nat.add_assoc,hk]) rfl ⟨by dsimp only;omega,?_,⟨s1,s2,s3⟩,s4,by simp[cg];omega,.inl AH,Fe⟩ (by dsimp only;omega)⟩
     refine hT.mark hw (by rw[s3];exact vD) pP (.inr ⟨Hk.1,hk,by omega⟩) (cH (by simp;omega)) ?_ λj hj j2 jb=>?_
     ·rw[aP (by omega),AE Hk.2,s1,s3,dY,Gg,hk];rfl
     ·rw[aP (by omega),gq hj]
    ·rw[Hl]
     refine⟨by omega,aX (i+1,{T with mo:=mY w (k0+i+1,b) T.mo},_,b) (by simp[xx,Hk.2,<-Nat.add_assoc,hk]) rfl ⟨by dsimp only;omega,?_,⟨s1,s2,s3⟩,s4,by simp[cg];omega,.inl AH,Fe⟩ (by dsimp only;omega)⟩
     refine hT.mark hw (by rw[s3];exact vD) pP (.inr ⟨Hk.1,hk,by omega⟩) (cH (by simp;omega)) ?_ λj hj j2 jb=>?_
     ·rw[aP (by omega),AE Hk.2,s1,s3,dY,Gg,hk];rfl
     ·rw[aP (by omega),gq hj]
   ·have yw:xx (k0+i) b = .sl b (k0+i) 0 (k0+i):=ab hk
    have xI:mX w T.mo=some (k0+i,b):=by
     rcases hg with hg|⟨hg,e,_⟩
     ·exact hg
     ·exact absurd e hk
    have F9:=hT.r _ (rY xI);have hbp:=hT.xu _ (rY xI);dsimp only at F9 hbp;rw[s1,s3]at F9;have hlr:(((S.n.kq S.cs w).take (k0+i)).map (AV.ik 4)).length=k0+i:=by simp[ak.kq];omega
    generalize ox:((S.n.kq S.cs w).take (k0+i)).map (AV.ik 4)=cb at *;rw[xI]at Ml jn;have As:∀B,al (az τ b B) 2=some ⟨some 0,[],.map (qE T.mo)⟩:=λB=>by rw[aP (by omega)];exact hM
    have yc:=λB=>(aP (Q:=τ) (i:=b) (j:=3) (B:=B) (by omega)).trans hL
    have aoP:∀x:AV,(cb ++ [x]).length=k0+i+1:=λx=>by rw[bz,hlr];rfl
    cases qa<;>simp only[reduceIte,eu]at Gg<;>simp[-ao,hi,hL,hC,Wf,ak.pV,↓xL,Hj,xj,tP,yw,F9,hlr,aoP,yc,As,Ml,qR,aC]
    ·rw[show uI (qE T.mo) (.str (ff w)) (.sl b (k0+i+1) 0 (k0+i+1)) ((some (k0+i,b)).map λq=>.sl q.2 q.1 0 q.1)=iY (qE T.mo) (.str (ff w)) (.sl b (k0+i+1) 0 (k0+i+1))from rfl]at jn
     rw[jn];refine⟨by omega,by omega,aX (i+1,{T with mo:=mY w (k0+i+1,b) T.mo},_,b) (by simp[xx,<-Nat.add_assoc]) rfl ⟨by dsimp only;omega,?_,⟨s1,s2,s3⟩,s4,by simp[cg];omega,.inl AH,Fe⟩ (by dsimp only;omega)⟩
     refine hT.mark hw (by rw[s3];exact vD) pP (.inl xI) (cH (by rw[cg];omega)) ?_ λj hj j2 jb=>?_
     ·rw[aP (by omega),cH (dB F9),s1,s3,dY,Gg,<-ox,lg];rfl
     ·rw[aP (by omega),aP (by omega)]
    ·rw[show uI (qE T.mo) (.str (ff w)) (.sl b (k0+i+1) 0 (k0+i+1)) ((some (k0+i,b)).map λq=>.sl q.2 q.1 0 q.1)=iY (qE T.mo) (.str (ff w)) (.sl b (k0+i+1) 0 (k0+i+1))from rfl]at jn
     rw[jn];refine⟨by omega,by omega,aX (i+1,{T with mo:=mY w (k0+i+1,b) T.mo},_,b) (by simp[xx,<-Nat.add_assoc]) rfl ⟨by dsimp only;omega,?_,⟨s1,s2,s3⟩,s4,by simp[cg];omega,.inl AH,Fe⟩ (by dsimp only;omega)⟩
     refine hT.mark hw (by rw[s3];exact vD) pP (.inl xI) (cH (by rw[cg];omega)) ?_ λj hj j2 jb=>?_
     ·rw[aP (by omega),cH (dB F9),s1,s3,dY,Gg,<-ox,lg];rfl
     ·rw[aP (by omega),aP (by omega)]
  ·simp[-ao,hi,hL,hC,Wf,ak.pV,↓xL,Hj,xj,tP,hz]
   refine⟨T,hT,⟨s1,s2,s3⟩,hle,?_⟩;have:S.n.kp w S.cs=qe:=by rw[Mm,ae hz]
   unfold Hi;rw[this,ab hz]
 ·have ek:k0+i=S.cs.length:=by omega
  have e0:S.n.kp w S.cs=0:=by
   have:=he
   rwa [ek,gu (bA _)]at this
  have hk:k0+i ≠ 0:=by omega
  have yw:xx (k0+i) b = .sl b (k0+i) 0 (k0+i):=ab hk;have xI:mX w T.mo=some (k0+i,b):=by
   rcases hg with hg|⟨hg,e,_⟩
   ·exact hg
   ·exact absurd e hk
  have F9:=hT.r _ (rY xI);dsimp only at F9;have iC:(S.n.kq S.cs w).length=k0+i:=by simp[ak.kq];omega
  rw[s1,s3,gu (by omega)]at F9
  have hb:bytesOf (((S.n.kq S.cs w).map (AV.ik 4)).take (k0+i))=some (ff (S.n.kq S.cs w)):=by
   rw[gu (by simp;omega)]
   refine EU λx hx=>?_;obtain⟨c,_,rfl⟩:=cU.1 hx;unfold ak.We;split<;>omega
  simp[-ao,hi,yw,F9,iC,hb];exact⟨T,hT,⟨s1,s2,s3⟩,hle,by unfold Hi;rw[ae e0]⟩
end Ab
namespace Ab
attribute [local simp] nX
def mh (O:Nat->Option ag) (b:Nat) (B:ag):Nat->Option ag:=λi=>if i=b then some B else O i
theorem LM.add{S:Lg}{O:Nat->Option ag}{σ:List ag}(h:LM S O σ) (B:ag):LM S (mh O σ.length B) (σ ++ [B]):=by
 refine⟨rW h.l,rW h.m,rW h.c,λe he=>rW (h.r e he),h.le,h.ok,h.nd,h.nb,h.Bl,h.xu,λi A hA=>?_⟩;unfold mh at hA;split at hA
 ·rename_i hi
  simp at hA;subst hA hi;have h2:=dB h.m;have h3:=dB h.l;have h4:=dB h.c;refine⟨AE rfl,by omega,by omega,by omega,λe he=>?_⟩
  have:=dB (h.r e he);omega
 ·obtain⟨h1,h2⟩:=h.o i A hA
  exact⟨rW h1,h2⟩
theorem LM.tA{S:Lg}{O:Nat->Option ag}{σ:List ag}{b:Nat}{A:ag}(h:LM S (mh O b A) σ) (B:ag):LM S (mh O b B) (az σ b B):=by
 have hb:=h.o b A (ae rfl);have N:∀{i C},al σ i=some C->i ≠ b->al (az σ b B) i=some C:=λq hi=>by rw[aP (Ne.symm hi)];exact q
 refine⟨N h.l (Ne.symm hb.2.2.1),N h.m (Ne.symm hb.2.1),N h.c (Ne.symm hb.2.2.2.1),λe he=>N (h.r e he) (hb.2.2.2.2 e he),h.le,h.ok,h.nd,h.nb,h.Bl,h.xu,λi C hC=>?_⟩;unfold mh at hC;split at hC
 ·rename_i hi
  simp at hC;subst hC hi;exact⟨cH (dB hb.1),hb.2⟩
 ·rename_i hi
  obtain⟨h1,h2⟩:=h.o i C (by unfold mh;rw[ab hi];exact hC)
  exact⟨N h1 hi,h2⟩
theorem LM.sub{S:Lg}{O O' : Nat->Option ag}{σ:List ag}(h:LM S O σ) (ho:∀i B,O' i=some B->O i=some B):LM S O' σ:=⟨h.l,h.m,h.c,h.r,h.le,h.ok,h.nd,h.nb,h.Bl,h.xu,λi B hB=>h.o i B (ho i B hB)⟩
structure Lg.Ok (S:Lg):Prop where
 ok:S.n.Ok
 fits:S.n.fits
 cs:∀c∈S.cs,F7 c
 cl:1<=S.cs.length/\S.cs.length<=1000
 ws:∀w∈S.ws,dC w/\w.length<=4000
 wl:S.ws.length<=128
 nd:(S.ws.map (S.n.kq S.cs)).Nodup
theorem bU.ok{S T:Lg}(h:bU S T) (o:S.Ok):T.Ok:=by
 obtain⟨h1,h2,h3⟩:=h;exact⟨by rw[h1];exact o.ok,by rw[h1];exact o.fits,by rw[h3];exact o.cs,by rw[h3];exact o.cl,by rw[h2];exact o.ws,by rw[h2];exact o.wl,by rw[h1,h2,h3];exact o.nd⟩
theorem bU.trans{S T U:Lg}(h:bU S T) (g:bU T U):bU S U:=⟨g.1.trans h.1,g.2.1.trans h.2.1,g.2.2.trans h.2.2⟩
def Lg.row (S:Lg) (w:List Int):List Int:=S.n.kq S.cs w
def Lg.pX (S:Lg):List (List Int)->Int
 | []=>0
 |w::l=>if S.n.kp w S.cs ≠ 0 then S.n.kp w S.cs else S.pX l
theorem Lr{S:Lg}{w:List Int}:∀{l m:List (List Int)},S.pX l=0->S.pX (l++w::m)=if S.n.kp w S.cs ≠ 0 then S.n.kp w S.cs else S.pX m
 | [],_,_=>rfl
 |d::l,m,h=>by
  simp only[Lg.pX]at h
  by_cases e:S.n.kp d S.cs=0
  ·rw[ab (by simp[e])]at h
   show(if S.n.kp d S.cs ≠ 0 then S.n.kp d S.cs else S.pX (l++w::m))=_
   rw[ab (by simp[e]),Lr h]
  ·rw[ae e]at h;exact absurd h e
theorem vb{n:ak}{cs:List (List Int×List Int)}{w:List Int}:dC (n.kq cs w):=λx hx=>by
 obtain⟨c,_,rfl⟩:=cU.1 hx;unfold ak.We;split<;>omega
def tQ (S:Lg) (k:Nat):ag:=⟨some 0,[],.map (qQ 0 ((S.ws.take k).map S.row))⟩
theorem Wm{S:Lg}{O:Nat->Option ag}{σ:List ag}(h:LM S O σ) (ho:S.Ok):LX L CH [.ptr 3 13 0] σ (λr τ=>∃T,bU S T/\σ.length<=τ.length/\((S.pX S.ws=0/\LM T (mh O σ.length (tQ S S.ws.length)) τ/\r = .bS [.cQ σ.length,.int 0])\/(S.pX S.ws ≠ 0/\LM T O τ/\r = .bS [.qb,.int (S.pX S.ws)]))):=by
 refine ajr rfl ?_;have yc:=λB=>rW (τ:=[B]) h.l;simp[-ao,yc,ak.pV];refine bu (λq:Nat×Lg×List ag=>[(1,.int q.1)]) (λq=>q.2.2)
  (λq=>q.1<=S.ws.length/\LM q.2.1 (mh O σ.length (tQ S q.1)) q.2.2/\bU S q.2.1/\σ.length<=q.2.2.length/\S.pX (S.ws.take q.1)=0)
  (λq=>S.ws.length-q.1) (0,S,σ ++ [⟨some 0,[],.map []⟩]) (by simp[bY]) ⟨by simp,h.add _,⟨rfl,rfl,rfl⟩,by simp,rfl⟩ ?_
 rintro⟨k,T,τ⟩ ⟨k0,hT,hs,hle,he⟩;dsimp only at k0 hT hs hle he ⊢;have xV:=ho.wl
 by_cases hk:k<S.ws.length
 ·have AI:=hs.ok ho
  have Bm:=aU (l:=S.ws) (n:=(k:Int)) (by omega) (by omega)
  have hww:=ho.ws _ Bm;have r6:S.ws.take (k+1)=S.ws.take k ++ [ix S.ws (k:Int)]:=by rw[lj hk]
  have xy:=Lr (S:=S) (w:=ix S.ws (k:Int)) (m:=[]) he;have Mm:=Lr (S:=S) (w:=ix S.ws (k:Int)) (m:=S.ws.drop (k+1)) he;rw[<-r6]at xy;rw[aT hk,List.getElem_cons_drop,oR,<-aT hk]at Mm;obtain⟨r,FT, hc,T', Wn, gV, Af, rfl⟩:=dS (Lq hT AI.fits AI.cs AI.cl.1 AI.cl.2 (ix S.ws (k:Int)) hww.1 (by omega))
  have sc:=hs.trans gV;rw[hs.1,hs.2.2]at hc
  by_cases hz:S.n.kp (ix S.ws (k:Int)) S.cs=0
  ·rw[show Hi S.n S.cs (ix S.ws (k:Int)) = .bS [.str (ff (S.row (ix S.ws (k:Int)))),.int 0]from ae hz]at hc
   have hB:=(Wn.o σ.length _ (ae rfl)).1;have hK:∀x∈(S.ws.take k).map S.row,dC x:=λx hx=>by
    obtain⟨w,_,rfl⟩:=cU.1 hx;exact vb
   have oG:S.row (ix S.ws (k:Int))∉(S.ws.take k).map S.row:=λhm=>by
    have hn:=ho.nd;rw[<-List.take_append_drop (k+1) S.ws,r6,lg,lg,sN]at hn;have:=hn.1;rw[sN]at this;exact this.2.2 _ hm _ (by simp[Lg.row]) rfl
   have hf:=wX (l:=S.row (ix S.ws (k:Int))) vb 0 _ hK;rw[ab oG]at hf;have qR:∀x,bg 1 (.str x)=true:=λ_=>rfl;have ka:=Fa 0 ((S.ws.take k).map S.row) (S.row (ix S.ws (k:Int)));have bV:tQ S (k+1)=⟨some 0,[],.map (qQ 0 ((S.ws.take k).map S.row) ++ [(.str (ff (S.row (ix S.ws (k:Int)))),.int (k:Int))])⟩:=by
    unfold tQ;rw[r6,lg,show[ix S.ws (k:Int)].map S.row=[S.row (ix S.ws (k:Int))]from rfl,ka];simp;omega
   simp[-ao,-List.map_take,hk,hc,hB,tQ,hf,qR];refine⟨by omega,aX (k+1,T', _) (by simp) rfl ⟨by dsimp only;omega,?_,sc,by simp[cg];omega,by dsimp only;rw[xy,if_neg (by simp[hz])];rfl⟩ (by dsimp only;omega)⟩
   rw[<-bV];exact Wn.tA _
  ·rw[show Hi S.n S.cs (ix S.ws (k:Int)) = .bS [.str [],.int (S.n.kp (ix S.ws (k:Int)) S.cs)]from ab hz]at hc
   have hx:S.pX S.ws=S.n.kp (ix S.ws (k:Int)) S.cs:=by rw[Mm,ae hz]
   simp[-ao,-List.map_take,hk,hc,hz];refine⟨T', sc,by omega,by rw[hx];exact hz,Wn.sub λi B hB=>?_,hx.symm⟩
   have:=dB (h.o i B hB).1;unfold mh;rw[ab (by omega)]
   exact hB
 ·have ek:k=S.ws.length:=by omega
  subst ek;rw[gu (bA _)]at he;simp[-ao,he];exact⟨T,hs,hle,hT⟩
end Ab
namespace Ab
attribute [local simp] nX
def ak.qW (n:ak) (w:List Int) (k:Nat):List (List Int):=(List.range k).map λ(i:Nat)=>w ++ [n.calls+(i:Int)]
def ak.pY (n:ak) (w:List Int) (c:Int) (x:List Int) (k:Nat):List (List Int):=(List.range k).map λ(r:Nat)=>w++c::(x ++ [n.calls+n.aj+(r:Int)])
def ak.mZ (n:ak) (w:List Int) (c:Int) (xs:List (List Int)):List (List Int):=xs.flatMap λx=>n.pY w c x n.aq.toNat
def ak.pZ (n:ak) (w:List Int) (xs:List (List Int)) (k:Nat):List (List Int):=(List.range k).flatMap λ(c:Nat)=>n.mZ w (c:Int) xs
def ak.iQ (n:ak) (xs:List (List Int)) (ws:List (List Int)):List (List Int):=ws.flatMap λw=>n.qW w n.aj.toNat++n.pZ w xs n.calls.toNat
theorem Wo{n:ak}{w:List Int}{k:Nat}:n.qW w (k+1)=n.qW w k ++ [w ++ [n.calls+(k:Int)]]:=by simp[ak.qW,mI]
theorem Wp{n:ak}{w x:List Int}{c:Int}{k:Nat}:n.pY w c x (k+1)=n.pY w c x k ++ [w++c::(x ++ [n.calls+n.aj+(k:Int)])]:=by simp[ak.pY,mI]
theorem Wq{n:ak}{w x:List Int}{c:Int}{xs:List (List Int)}:n.mZ w c (xs ++ [x])=n.mZ w c xs++n.pY w c x n.aq.toNat:=by simp[ak.mZ]
theorem Hm{n:ak}{w:List Int}{xs:List (List Int)}{k:Nat}:n.pZ w xs (k+1)=n.pZ w xs k++n.mZ w (k:Int) xs:=by simp[ak.pZ,mI]
theorem Wr{n:ak}{w:List Int}{xs ws:List (List Int)}:n.iQ xs (ws ++ [w])=n.iQ xs ws++(n.qW w n.aj.toNat++n.pZ w xs n.calls.toNat):=by simp[ak.iQ]
theorem aoQ{n:ak}{w:List Int}{xs:List (List Int)}{i k:Nat}(h:i<=k):(n.pZ w xs i).length<=(n.pZ w xs k).length:=by
 induction h with
 |refl=>exact bA _
 |step _ ih=>rw[Hm,bz];omega
theorem aoR{n:ak}{w:List Int}{c:Int}{xs:List (List Int)}{m:Nat}:(n.mZ w c (xs.take m)).length<=(n.mZ w c xs).length:=by
 have e:n.mZ w c xs=n.mZ w c (xs.take m)++n.mZ w c (xs.drop m):=by
  unfold ak.mZ;rw[<-List.flatMap_append,oR]
 rw[e,bz];omega
theorem aoS{vars:List AV}{fl:Option (Nat×AV)}{σ:List ag}{k:Nat}{ws:List (List Int)}{Q:Ex->St->Prop}(hn:nth vars k = .sl σ.length ws.length 0 ws.length) (h:∀q,Q .ft ⟨eV vars k (.aE q (ws.map iL)),fl,σ ++ [⟨none,ws.map iL,.dead⟩]⟩):W L (.lB k) ⟨vars,fl,σ ++ [mb ws]⟩ Q:=by
 generalize hB:mb ws=B;have hb:=AE (B:=B) (rfl:σ.length=σ.length);have hr:reach (σ ++ [B]) vd (.sl σ.length ws.length 0 ws.length) []=[σ.length]:=by
  show reach (σ ++ [B]) (11+1) (.sl σ.length ws.length 0 ws.length) []=[σ.length];unfold reach;simp only[hb];rw[ab (by simp),<-hB]
  exact S9 ws [σ.length]
 have hd1:al (bQ (λb=>!([σ.length]:List Nat).contains b) 0 (σ ++ [B])) σ.length=some (mb ws):=by
  rw[nS,hb,hB];simp
 have hd2:bQ (λb=>([σ.length]:List Nat).contains b) 0 (σ ++ [B])=σ ++ [⟨B.k,B.cells,.dead⟩]:=by
  rw[VV,VU λj h1 h2=>by simp;omega]
  congr 1
  simp[bQ]
 have hv:=al4 hd1;have hBc:(⟨B.k,B.cells,.dead⟩:ag)=⟨none,ws.map iL,.dead⟩:=by rw[<-hB]
 cases hs:gZ (σ ++ [B]) (.sl σ.length ws.length 0 ws.length)with
 |true=>
  refine⟨0,.ft,_,?_,h true⟩;simp only[exec,hn,hr,hv,hs,hd2,hBc]
  rfl
 |false=>
  refine⟨0,.ft,_,?_,h false⟩;simp only[exec,hn,hr,hv,hs,hd2,hBc]
  rfl
theorem LM.ext{S:Lg}{O:Nat->Option ag}{σ τ:List ag}(h:LM S O σ) (he:∀i B,al σ i=some B->al τ i=some B):LM S O τ:=⟨he _ _ h.l,he _ _ h.m,he _ _ h.c,λe hx=>he _ _ (h.r e hx),h.le,h.ok,h.nd,h.nb,h.Bl,h.xu,λi B hB=>⟨he _ _ (h.o i B hB).1,(h.o i B hB).2⟩⟩
theorem aoT{S:Lg}{O:Nat->Option ag}{σ:List ag}(h:LM S O σ) (ho:S.Ok) (hz:((S.n.iQ S.ws S.ws).length:Int)<=1000000) (hf:pA (S.n.iQ S.ws S.ws)):LX L IQ [.ptr 3 13 0] σ (λr τ=>LM S O τ/\σ.length<=τ.length/\r=cO (gC (S.n.iQ S.ws S.ws))):=by
 refine ajx rfl ?_;have K8:=λB:ag=>(h.add B).l;have xV:=ho.wl;obtain⟨r9,nm⟩:=ho.ok.calls;obtain⟨Z6,Xm⟩:=ho.ok.aj;obtain⟨AZ,A0⟩:=ho.ok.aq;simp[-ao,K8,ak.pV];refine bu (λk:Nat=>[(1,.int k),(6,.sl σ.length (S.n.iQ S.ws (S.ws.take k)).length 0 (S.n.iQ S.ws (S.ws.take k)).length)]) (λk=>σ ++ [mb (S.n.iQ S.ws (S.ws.take k))])
  (λk=>k<=S.ws.length) (λk=>S.ws.length-k) 0 (by simp[bY,ak.iQ]) (by omega) ?_
 have hle:∀k,k<=S.ws.length->(S.n.iQ S.ws (S.ws.take k)).length<=1000000:=λk _=>by
  have e:S.n.iQ S.ws S.ws=S.n.iQ S.ws (S.ws.take k)++S.n.iQ S.ws (S.ws.drop k):=by
   unfold ak.iQ;rw[<-List.flatMap_append,oR]
  rw[e,bz]at hz;omega
 intro k k0
 by_cases hk:k<S.ws.length
 ·have r6:S.ws.take (k+1)=S.ws.take k ++ [ix S.ws (k:Int)]:=by rw[lj hk]
  generalize hA:S.n.iQ S.ws (S.ws.take k)=A at *;have eY:∀B,al (σ ++ [B]) σ.length=some B:=λB=>AE rfl;have bV:∀A B,az (σ ++ [A]) σ.length B=σ ++ [B]:=λA B=>aor rfl;have hww:=ho.ws _ (aU (l:=S.ws) (n:=(k:Int)) (by omega) (by omega))
  have AJ:S.n.iQ S.ws (S.ws.take (k+1))=A++(S.n.qW (ix S.ws (k:Int)) S.n.aj.toNat++S.n.pZ (ix S.ws (k:Int)) S.ws S.n.calls.toNat):=by rw[r6,Wr,hA]
  have fS:=hle (k+1) (by omega)
  rw[AJ]at fS;generalize hw:ix S.ws (k:Int)=w at *;simp[-ao,-List.map_take,hk,K8,ak.pV,hw];refine bu (λi:Nat=>[(4,.int i),(6,.sl σ.length (A++S.n.qW w i).length 0 (A++S.n.qW w i).length)]) (λi=>σ ++ [mb (A++S.n.qW w i)]) (λi=>(i:Int)<=S.n.aj) (λi=>(S.n.aj-i).toNat) 0 (by simp[bY,ak.qW]) (by omega) ?_
  intro i i0
  by_cases hi:(i:Int)<S.n.aj
  ·have XP:=λB=>Wg (h.add B) ho.ok w i (by omega) hi (by omega)
   have sd:(A++S.n.qW w i).length<=1000000:=by
    simp only[bz,ak.qW,dR,List.length_range]at fS ⊢;omega
   have mL:=Wo (n:=S.n) (w:=w) (k:=i);have ea:A++S.n.qW w (i+1)=(A++S.n.qW w i) ++ [w ++ [S.n.calls+(i:Int)]]:=by rw[mL,iW]
   have el:A.length+(S.n.qW w (i+1)).length=(A++S.n.qW w i).length+1:=by rw[mL];simp;omega
   generalize hB:A++S.n.qW w i=B at *;simp[-ao,hi,XP,eY,bV];refine⟨by split<;>rfl,by omega,by omega,aX (i+1) (by simp[el]) (by rw[ea];simp) (by omega) (by omega)⟩
  ·have ei:i=S.n.aj.toNat:=by omega
   rw[<-ei]at fS AJ;have ary:(A++S.n.qW w i).length+(S.n.pZ w S.ws S.n.calls.toNat).length<=1000000:=by
    rw[bz,bz]at fS;rw[bz];omega
   have Gr:S.n.iQ S.ws (S.ws.take (k+1))=(A++S.n.qW w i)++S.n.pZ w S.ws S.n.calls.toNat:=by rw[AJ,iW]
   generalize hA2:A++S.n.qW w i=A2 at *;simp[-ao,hi,K8,ak.pV];refine bu (λc:Nat=>[(9,.int c),(6,.sl σ.length (A2++S.n.pZ w S.ws c).length 0 (A2++S.n.pZ w S.ws c).length)]) (λc=>σ ++ [mb (A2++S.n.pZ w S.ws c)]) (λc=>(c:Int)<=S.n.calls) (λc=>(S.n.calls-c).toNat) 0 (by simp[bY,ak.pZ]) (by omega) ?_
   intro c c0
   by_cases hc:(c:Int)<S.n.calls
   ·have A6:=Hm (n:=S.n) (w:=w) (xs:=S.ws) (k:=c)
    have ea2:A2++S.n.pZ w S.ws (c+1)=(A2++S.n.pZ w S.ws c)++S.n.mZ w (c:Int) S.ws:=by rw[A6,iW]
    have BU:A2.length+(S.n.pZ w S.ws (c+1)).length=((A2++S.n.pZ w S.ws c)++S.n.mZ w (c:Int) S.ws).length:=by rw[<-ea2,bz]
    have lY:((A2++S.n.pZ w S.ws c)++S.n.mZ w (c:Int) S.ws).length<=1000000:=by
     have:(S.n.pZ w S.ws (c+1)).length<=(S.n.pZ w S.ws S.n.calls.toNat).length:=aoQ (by omega)
     rw[<-ea2,bz];omega
    generalize hA3:A2++S.n.pZ w S.ws c=A3 at *;have aoU :=lY;rw[bz]at aoU BU;simp[-ao,hc,K8,ak.pV];refine bu (λm:Nat=>[(11,.int m),(6,.sl σ.length (A3++S.n.mZ w c (S.ws.take m)).length 0 (A3++S.n.mZ w c (S.ws.take m)).length)]) (λm=>σ ++ [mb (A3++S.n.mZ w c (S.ws.take m))]) (λm=>m<=S.ws.length) (λm=>S.ws.length-m) 0 (by simp[bY,ak.mZ]) (by omega) ?_
    intro m m0
    by_cases hm:m<S.ws.length
    ·have htm:S.ws.take (m+1)=S.ws.take m ++ [ix S.ws (m:Int)]:=by rw[lj hm]
     have tE:=ho.ws _ (aU (l:=S.ws) (n:=(m:Int)) (by omega) (by omega))
     have XQ:S.n.mZ w c (S.ws.take (m+1))=S.n.mZ w c (S.ws.take m)++S.n.pY w c (ix S.ws (m:Int)) S.n.aq.toNat:=by rw[htm,Wq]
     have L2:(S.n.mZ w c (S.ws.take (m+1))).length<=(S.n.mZ w c S.ws).length:=aoR;generalize hx:ix S.ws (m:Int)=x at *;have ea3:A3++S.n.mZ w c (S.ws.take (m+1))=(A3++S.n.mZ w c (S.ws.take m))++S.n.pY w c x S.n.aq.toNat:=by rw[XQ,iW]
     have el3:A3.length+(S.n.mZ w c (S.ws.take (m+1))).length=(A3++S.n.mZ w c (S.ws.take m)).length+(S.n.pY w c x S.n.aq.toNat).length:=by rw[<-List.length_append,ea3,bz]
     generalize hA4:A3++S.n.mZ w c (S.ws.take m)=A4 at *;simp[-ao,-List.map_take,hm,K8,ak.pV,hx];refine bu (λr:Nat=>[(14,.int r),(6,.sl σ.length (A4++S.n.pY w c x r).length 0 (A4++S.n.pY w c x r).length)]) (λr=>σ ++ [mb (A4++S.n.pY w c x r)]) (λr=>(r:Int)<=S.n.aq) (λr=>(S.n.aq-r).toNat) 0 (by simp[bY,ak.pY]) (by omega) ?_
     intro r r0
     by_cases hr:(r:Int)<S.n.aq
     ·have qS:=λB=>Wh (h.add B) ho.ok w x c r (by omega) hc (by omega) hr (by omega) (by omega)
      have hb4:=Wp (n:=S.n) (w:=w) (x:=x) (c:=c) (k:=r);have ea4:A4++S.n.pY w c x (r+1)=(A4++S.n.pY w c x r) ++ [w++(c:Int)::(x ++ [S.n.calls+S.n.aj+(r:Int)])]:=by rw[hb4,iW]
      have el4:A4.length+(S.n.pY w c x (r+1)).length=(A4++S.n.pY w c x r).length+1:=by rw[<-List.length_append,ea4];simp;omega
      have Xf:(A4++S.n.pY w c x r).length<1000000:=by
       have e1:(S.n.pY w c x S.n.aq.toNat).length=S.n.aq.toNat:=by simp[ak.pY]
       have e2:(S.n.pY w c x r).length=r:=by simp[ak.pY]
       rw[bz,e2];rw[e1]at el3;omega
      generalize hB:A4++S.n.pY w c x r=B at *;simp[-ao,hr,qS,eY,bV];refine⟨by split<;>rfl,by omega,by omega,aX (r+1) (by simp[el4]) (by rw[ea4];simp) (by omega) (by omega)⟩
     ·have er:r=S.n.aq.toNat:=by omega
      rw[<-er]at ea3 el3;simp[-ao,-List.map_take,hr];refine⟨by omega,aX (m+1) (by simp[el3]) (by rw[ea3]) (by omega) (by omega)⟩
    ·have em:m=S.ws.length:=by omega
     subst em;simp[-ao,-List.map_take];refine⟨by omega,aX (c+1) (by simp[BU]) (by rw[ea2]) (by omega) (by omega)⟩
   ·have ec:c=S.n.calls.toNat:=by omega
    rw[<-ec]at Gr;simp[-ao,-List.map_take,hc];refine⟨by omega,aX (k+1) (by simp[-List.map_take,Gr]) (by rw[Gr]) (by omega) (by omega)⟩
 ·have ek:k=S.ws.length:=by omega
  subst ek;rw[gu (bA _)];generalize hE:S.n.iQ S.ws S.ws=E at *;have hS:=T4 E hz hf;simp[-ao];refine aoS rfl λq=>?_;simp[hS];exact h.ext λi B hB=>rW hB
end Ab
