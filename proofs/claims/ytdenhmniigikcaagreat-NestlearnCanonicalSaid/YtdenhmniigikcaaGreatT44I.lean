/- slices.Concat of lists of words; wordset.Union (SepK over fewer texts); and what it leans on. Condition: none. -/
import Derived.Test.YtdenhmniigikcaaGreatN44P
import Derived.Test.YtdenhmniigikcaaGreatFrz
import Derived.Test.YtdenhmniigikcaaGreatN44Y
import Derived.Test.YtdenhmniigikcaaGreatS44W
set_option linter.all false
set_option maxRecDepth 100000
set_option maxHeartbeats 8000000
namespace Ab
variable{n:Nat}
theorem ams{k:Nat}:km k (List.replicate n .ae)=List.replicate n .ae:=by
 induction n with
 |zero=>rfl
 |succ n a=>simp only[sL,km,iW,a]
theorem amt (n:Nat) (h:0<n) (a:(n:Int)<=1073741824):L xP [.ae,.int n] []=some (.sl 0 n 0 0,[⟨none,List.replicate n .ae,.live⟩]):=by
 refine OR (N:=0) ?_;simp only[jD];rw[aa (by simp;omega),ab ⟨by omega,by rw[show(dz:Int)=1073741824 from rfl];exact a⟩]
 simp
theorem amu:L xP [.ae,.int 0] []=some (.ae,[]):=OR (N:=0) rfl
def j7 (ps:List (List (List Int))):List (List Int):=ps.flatten
variable{ps:List (List (List Int))}
theorem Jw{i:Nat}(h:i<ps.length):(j7 (ps.take (i+1)))=(j7 (ps.take i))++ix ps (i:Int):=by
 unfold j7;rw[k8,cO h,List.flatten_append,aG h];simp
theorem y8(i:Nat):(j7 (ps.take i)).length<=(j7 ps).length:=by
 have:(j7 ps)=(j7 (ps.take i))++(j7 (ps.drop i)):=by unfold j7;rw[<-List.flatten_append,mO]
 rw[this];simp
theorem amv{a b:List (List Int)}(h:a.length+b.length<=n):putAt (a.map iL++List.replicate (n-a.length) .ae) a.length (b.map iL)=(a++b).map iL++List.replicate (n-(a.length+b.length)) .ae:=by
 unfold putAt;rw[List.take_left' (by simp),List.drop_append,ji (by simp)]
 simp;omega
theorem amw (ps:List (List (List Int))) (H:(ps.length:Int)<=1000000) (h:((j7 ps).length:Int)<=1000000):PC Fc [.au false (ps.map bN)]=some (bN (j7 ps)):=by
 refine bP (ahh rfl ?_);simp;refine aM (λi:Nat=>[(1,.int i),(4,.int ((j7 (ps.take i)).length:Int))]) (λ_=>[]) (λi=>i<=ps.length) (λi=>ps.length-i) 0 (by simp[a8,j7]) (by omega) λi i1=>?_
 by_cases o:i<ps.length
 .have e:=Jw o
  have s:=y8 (ps:=ps) i;have g:=y8 (ps:=ps) (i+1);rw[e,aY]at g;have x:((j7 (ps.take (i+1))).length:Int)=((j7 (ps.take i)).length:Int)+((ix ps (i:Int)).length:Int):=by rw[e,aY];omega
  generalize (j7 (ps.take i)).length=A at *;simp[-ag,-List.map_take,o];refine⟨by omega,by omega,λ_=>⟨by omega,az (i+1) (by simp[-List.map_take,x]) rfl (by omega) (by omega)⟩⟩
 .have wq:ps.take i=ps:=fc (by omega)
  rw[wq]
  by_cases y:(j7 ps).length=0
  .have u:(j7 ps)=[]:=dM y
   have l:∀j:Nat,j<ps.length->ix ps (j:Int)=[]:=λj d=>by
    have:=Jw d;have g:=y8 (ps:=ps) (j+1);rw[this,aY]at g;exact dM (by omega)
   rw[u];simp[-ag,o,amu,iW];refine aM (λi:Nat=>[(6,.int i)]) (λ_=>[]) (λi=>i<=ps.length) (λi=>ps.length-i) 0 (by simp[a8]) (by omega) λj z=>?_
   by_cases d:j<ps.length
   .have B:=l j d
    simp[-ag,d,B];refine⟨by omega,az (j+1) (by simp) rfl (by omega) (by omega)⟩
   .simp[d]
  .have C:=amt (j7 ps).length (by omega) (by omega)
   have D : (ps.length<=i)=True:=aB (by omega)
   generalize w:(j7 ps)=F at *;simp[-ag,-List.map_replicate,o,C,iW,gm,ams];refine aM (λi:Nat=>[(6,.int i),(9,.sl 0 F.length 0 (j7 (ps.take i)).length)]) (λi=>[⟨none,(j7 (ps.take i)).map iL++List.replicate (F.length-(j7 (ps.take i)).length) .ae,.live⟩]) (λi=>i<=ps.length) (λi=>ps.length-i) 0 (by simp[a8,j7]) (by omega) λj z=>?_
   by_cases d:j<ps.length
   .have e:=Jw d
    have s:=y8 (ps:=ps) j;have g:=y8 (ps:=ps) (j+1);rw[e,aY]at g;rw[w]at s g;generalize (j7 (ps.take j))=A at *;have q:=amv (a:=A) (b:=ix ps (j:Int)) (n:=F.length) g
    by_cases p:ix ps (j:Int)=[]
    .have m:(j7 (ps.take (j+1)))=A:=by rw[e,p];simp
     simp[-ag,-List.map_replicate,-List.map_take,d,p];refine⟨by omega,by omega,by omega,az (j+1) (by simp[m]) (by simp only[m]) (by omega) (by omega)⟩
    .have E:0<(ix ps (j:Int)).length:=l5.2 p
     simp[-ag,-List.map_replicate,-List.map_take,d,p];refine⟨by omega,by omega,λu=>by omega,λ_=>⟨by omega,by omega,az (j+1) (by simp[e]) (by simp only[e,aY];rw[<-q]) (by omega) (by omega)⟩⟩
   .have r:ps.take j=ps:=fc (by omega)
    rw[r,w];have G:=CU (σ:=[⟨none,F.map iL,.live⟩]) (fr:=false) (b:=0) (xs:=F) (n:=F.length) (st:=.live) rfl (by simp) rfl
    simp[d,G]
theorem amx (ps:List (List (List Int))) (a:(ps.length:Int)<=1000000) (h:((j7 ps).length:Int)<=1000000) (b:ox (j7 ps)):PC A8 [.au false (ps.map bN)]=some (bN (fZ (j7 ps))):=by
 refine bP (ag6 rfl ?_);have d:=amw ps a h;have e:=Q5 (j7 ps) (by omega) b
 simp[d,e]
attribute [local simp] mT
theorem amy{k:Nat}{n:Int}{K:AV->Prop}:qt (.aV (.ik k n)) none K=K (.ik k n):=rfl
attribute [local simp] amy CM
def U0 (l:List Int):ah:=⟨none,l.map .int,if l=[]then .jq else .live⟩
theorem Tz{l:List Int}:(eH l).length=l.length:=by simp[eH]
theorem TD{x:Int}(a:0<=x) (b:x<=255):((UInt8.ofNat x.toNat).toNat:Int)=x:=by
 have:(UInt8.ofNat x.toNat).toNat=x.toNat:=by simp;omega
 rw[this];omega
theorem TE (l:List Int) (g:∀x∈l,0<=x/\x<=255) (u:l.length<=100000):PC AG [.str (eH l)]=some (iL l):=by
 refine bP (ahk rfl ?_);have p:=Tz (l:=l);have q:(eH l).map (λb=>AV.ik 4 (b.toNat:Int))=l.map (AV.ik 4):=by
  unfold eH;rw[List.map_map];exact fv λx d=>congrArg (AV.ik 4) (TD (g x d).1 (g x d).2)
 simp[-ag];rw[q,p];refine aM (λi:Nat=>[(4,.sl 0 i 0 i),(1,.int i)]) (λi=>[U0 (l.take i)]) (λi=>i<=l.length) (λi=>l.length-i) 0 (by simp[a8,U0]) (by omega) ?_
 intro i r
 by_cases h:i<l.length
 .have tk:=jm h
  have j:l ≠ []:=λe=>by subst e;simp at h
  have a:min i l.length=i:=Nat.min_eq_left (by omega)
  have d:=g _ (aO (l:=l) (n:=(i:Int)) (by omega) (by omega))
  have m:=aB (show(ix l (i:Int))<=9223372036854775807 by omega)
  have o:=aB (show(-9223372036854775808:Int)<=(ix l (i:Int))by omega)
  simp[-ag,-List.map_take,h,d.1,o,m,a,U0];exact⟨by split<;>rfl,by omega,by omega,az (i+1) (by simp) (by rw[tk];simp[j]) (by omega) (by omega)⟩
 .have ei:i=l.length:=by omega
  subst ei;have s:=ow (σ:=[⟨none,l.map .int,if l=[]then .jq else .live⟩]) (fr:=false) (b:=0) (xs:=l) rfl (by split<;>rfl) rfl
  simp[-ag,-List.map_take,U0,s]
def ctA (c:List Int×List Int):AV:=.agg [.str (eH c.1),.str (eH c.2)]
def Cs (c:List Int×List Int):Prop:=(∀x∈c.1,0<=x/\x<=255)/\(∀x∈c.2,0<=x/\x<=255)/\c.1.length+c.2.length<=100000
theorem TF (c:List Int×List Int) (d:Cs c) (w:List Int) (m:w.length<=100000):PC Ff [ctA c,iL w]=some (iL (c.1++(w++c.2))):=by
 refine bP (ahi rfl ?_);have i:=TE c.1 d.1 (by have:=d.2.2;omega)
 have j:=TE c.2 d.2.1 (by have:=d.2.2;omega)
 have g:=HS [(false,c.1),(false,w),(false,c.2)] (by simp) (by have:=d.2.2;simp[cat];omega)
 have e:[(false,c.1),(false,w),(false,c.2)].map wB=[iL c.1,iL w,iL c.2]:=by simp[wB]
 rw[e]at g;have z:∀l:List Int,eH l=[]->l=[]:=λl h=>by
  have:=Tz (l:=l);rw[h]at this;exact dM this.symm
 simp[ctA,i,j,g];refine⟨λa b=>by rw[z _ a,z _ b];simp,λ_=>by simp[cat]⟩
structure Lg where
 n:al
 ws:List (List Int)
 cs:List (List Int×List Int)
 mo:List (List Int×Nat×Nat)
 pc:Nat
def al.oJ (n:al):List AV:=[.int n.calls,.int n.af,.int n.aj,.int n.stack,.int n.start,bL n.accept,bN n.call,bN n.push,bN n.inner,dR n.pop]
def al.TG (n:al) (w:List Int) (c:List Int×List Int):Int:=if(n.acc (c.1++(w++c.2))).1=true then 43 else 45
def al.Dk (n:al) (w:List Int) (c:List Int×List Int):Int:=(n.acc (c.1++(w++c.2))).2
def al.jU (n:al) (w:List Int):List (List Int×List Int)->Int
 | []=>0
 |c::l=>if n.Dk w c ≠ 0 then n.Dk w c else n.jU w l
def al.jV (n:al) (cs:List (List Int×List Int)) (w:List Int):List Int:=cs.map (n.TG w)
def Dl (n:al) (cs:List (List Int×List Int)) (w:List Int):AV:=if n.jU w cs=0 then .bF [.str (eH (n.jV cs w)),.int 0]else .bF [.str [],.int (n.jU w cs)]
def Ct (cs:List (List Int×List Int)):List AV:=cs.flatMap λc=>[.str (eH c.1),.str (eH c.2)]
def TH (cs:List (List Int×List Int)):ah:=⟨some 2,Ct cs,.live⟩
def py (mo:List (List Int×Nat×Nat)):List (AV×AV):=mo.map λe=>(.str (eH e.1),.sl e.2.2 e.2.1 0 e.2.1)
def mu (w:List Int):List (List Int×Nat×Nat)->Option (Nat×Nat)
 | []=>none
 |e::l=>if e.1=w then some e.2 else mu w l
def mw (w:List Int) (q:Nat×Nat):List (List Int×Nat×Nat)->List (List Int×Nat×Nat)
 | []=>[(w,q)]
 |e::l=>if e.1=w then(w,q)::l else e::mw w q l
structure LM (S:Lg) (O:Nat->Option ah) (σ:List ah):Prop where
 l:ak σ 3=some ⟨some 13,S.n.oJ ++ [bN S.ws,.sl S.pc (2*S.cs.length) 0 S.cs.length,.cC 2],.live⟩
 m:ak σ 2=some ⟨some 0,[],.map (py S.mo)⟩
 c:ak σ S.pc=some (TH S.cs)
 r:∀e∈S.mo,ak σ e.2.2=some ⟨none,((S.n.jV S.cs e.1).take e.2.1).map (.ik 4),.live⟩
 le:∀e∈S.mo,e.2.1<=S.cs.length/\1<=e.2.1/\S.n.jU e.1 (S.cs.take e.2.1)=0
 ok:∀e∈S.mo,dx e.1
 nd:(S.mo.map (·.1)).Nodup
 nb:(S.mo.map (·.2.2)).Nodup
 zw:S.pc ≠ 2/\S.pc ≠ 3
 vV:∀e∈S.mo,e.2.2 ≠ 2/\e.2.2 ≠ 3/\e.2.2 ≠ S.pc
 o:∀i B,O i=some B->ak σ i=some B/\i ≠ 2/\i ≠ 3/\i ≠ S.pc/\∀e∈S.mo,e.2.2 ≠ i
variable{S:Lg}{O:Nat->Option ah}{σ:List ah}
theorem TJ(h:LM S O σ) (a:S.n.Ok) (w:List Int) (i:Int) (m:0<=i) (o:i<S.n.af) (p:w.length<=100000):L AE [.ptr 3 13 0,iL w,.int i] σ=some (iL (w ++ [S.n.calls+i]),σ):=by
 refine nU (ag9 rfl ?_);have b:=h.l;have d:=a.cP;have e:=a.calls;have g:=a.af;have j:PC tu [.au false [iL w,.au false [.int (S.n.calls+i)]]]=some (iL (w ++ [S.n.calls+i])):=by
  have:=HS [(false,w),(false,[S.n.calls+i])] (by simp) (by simp[cat];omega)
  simp[wB,cat]at this;exact this
 simp[-ag,b,al.oJ,j];omega
theorem TK(h:LM S O σ) (a:S.n.Ok) (w x:List Int) (c r:Int) (m:0<=c) (o:c<S.n.calls) (p:0<=r) (q:r<S.n.aj) (s:w.length<=100000) (u:x.length<=100000):L AF [.ptr 3 13 0,iL w,.int c,iL x,.int r] σ=some (iL (w++c::(x ++ [S.n.calls+S.n.af+r])),σ):=by
 refine nU (aha rfl ?_);have b:=h.l;have d:=a.cP;have e:=a.calls;have g:=a.af;have i:=a.aj;have j:PC tu [.au false [iL w,.au false [.int c],iL x,.au false [.int (S.n.calls+S.n.af+r)]]]=some (iL (w++c::(x ++ [S.n.calls+S.n.af+r]))):=by
  have:=HS [(false,w),(false,[c]),(false,x),(false,[S.n.calls+S.n.af+r])] (by simp) (by simp[cat];omega)
  simp[wB,cat]at this;exact this
 simp[-ag,b,al.oJ,j];omega
end Ab
namespace Ab
attribute [local simp] mT
def Jx{w:List Int}(b:dx w):∀{mo:List (List Int×Nat×Nat)},(∀e∈mo,dx e.1)->cy (py mo) (.str (eH w))=some ((mu w mo).map λq=>.sl q.2 q.1 0 q.1)
 | [],_=>rfl
 |e::l,h=>by
  have d:=Jx b (mo:=l) λx g=>h x (by simp[g])
  show(match dT (.str (eH w)) (.str (eH e.1))with
   |some true=>some (some (AV.sl e.2.2 e.2.1 0 e.2.1))
   |some false=>cy (py l) (.str (eH w))
   |none=>none)=_
  by_cases q:e.1=w
  .subst q
   simp[dT,mu]
  .have a:eH w ≠ eH e.1:=λi=>q (Bj b (h e (by simp)) i).symm
   simp[dT,a,d,mu,q]
variable{w:List Int}
theorem amz(i:dx w) (q:Nat×Nat):∀{mo:List (List Int×Nat×Nat)},(∀e∈mo,dx e.1)->tm (py mo) (.str (eH w)) (.sl q.2 q.1 0 q.1) ((mu w mo).map λq=>.sl q.2 q.1 0 q.1)=py (mw w q mo):=by
 intro mo h;cases a:mu w mo with
 |none=>
  show py mo ++ [(.str (eH w),.sl q.2 q.1 0 q.1)]=_;clear h
  induction mo with
  |nil=>rfl
  |cons e l g=>
   simp only[mu]at a;split at a
   .simp at a
   .rename_i b
    simp only[mw,aa b];rw[show py (e::mw w q l)=(.str (eH e.1),.sl e.2.2 e.2.1 0 e.2.1)::py (mw w q l)from rfl,<-g a]
    rfl
 |some z=>
  show iz (py mo) (.str (eH w)) (.sl q.2 q.1 0 q.1)=_
  induction mo with
  |nil=>simp[mu]at a
  |cons e l g=>
   show(match dT (.str (eH w)) (.str (eH e.1))with
    |some true=>(AV.str (eH e.1),AV.sl q.2 q.1 0 q.1)::py l
    |_=>(AV.str (eH e.1),AV.sl e.2.2 e.2.1 0 e.2.1)::iz (py l) (.str (eH w)) (.sl q.2 q.1 0 q.1))=_
   simp only[mu]at a
   by_cases d:e.1=w
   .subst d
    simp[dT,mw]
    rfl
   .rw[aa d]at a
    have b:eH w ≠ eH e.1:=λj=>d (Bj i (h e (by simp)) j).symm
    simp[dT,b,mw,d,g (λx m=>h x (by simp[m])) a]
    rfl
theorem qI{w:List Int}{q:Nat×Nat}:∀{mo:List (List Int×Nat×Nat)},mu w mo=some q->(w,q)∈mo
 | [],h=>by simp[mu]at h
 |e::l,h=>by
  simp only[mu]at h;split at h
  .rename_i a
   subst a;simp at h;subst h;simp
  .exact List.mem_cons_of_mem _ (qI h)
theorem y9{w:List Int}{q:Nat×Nat}:∀{mo:List (List Int×Nat×Nat)},mu w (mw w q mo)=some q
 | []=>by simp[mu,mw]
 |e::l=>by
  simp only[mw];split
  .simp[mu]
  .rename_i a
   simp[mu,a,y9]
theorem su{w:List Int}{q:Nat×Nat}{x:List Int×Nat×Nat}:∀{mo:List (List Int×Nat×Nat)},(mo.map (·.1)).Nodup->(x∈mw w q mo↔x=(w,q)\/(x∈mo/\x.1 ≠ w))
 | [],_=>by simp[mw]
 |e::l,g=>by
  rw[cJ,l8]at g;simp only[mw];split
  .rename_i d
   simp only[b5];constructor
   .rintro(a|a)
    .exact .inl a
    .refine .inr ⟨.inr a,λh =>g.1 ?_⟩
     rw[d,<-h];exact List.mem_map_of_mem a
   .rintro(a|⟨a|a,b⟩)
    .exact .inl a
    .exact absurd (a▸d) b
    .exact .inr a
  .rename_i d
   simp only[b5,su g.2];constructor
   .rintro(a|a|⟨a,b⟩)
    .exact .inr ⟨.inl a,by rw[a];exact d⟩
    .exact .inl a
    .exact .inr ⟨.inr a,b⟩
   .rintro(a|⟨a|a,b⟩)
    .exact .inr (.inl a)
    .exact .inl a
    .exact .inr (.inr ⟨a,b⟩)
theorem TL{w:List Int}{q:Nat×Nat}:∀{mo:List (List Int×Nat×Nat)},(mo.map (·.1)).Nodup->((mw w q mo).map (·.1)).Nodup
 | [],_=>by simp[mw]
 |e::l,d=>by
  have i :=d;rw[cJ,l8]at d;simp only[mw];split
  .rename_i g
   rw[cJ,l8];exact⟨by rw[<-g];exact d.1,d.2⟩
  .rename_i g
   rw[cJ,l8];refine⟨λj=>?_,TL d.2⟩;obtain⟨x,m,h⟩:=cB.1 j;rcases(su d.2).1 m with a|⟨a,b⟩
   .subst a;exact g h.symm
   .exact d.1 (h ▸List.mem_map_of_mem a)
theorem TM{g i:Type}{f:g->i}:∀{l:List g},(l.map f).Nodup->∀{x y:g},x∈l->y∈l->f x=f y->x=y
 | [],_,_,_,h,_,_=>by simp at h
 |e::l,d,x,y,j,m,q=>by
  rw[cJ,l8]at d;rcases b5.1 j with a|a<;>rcases b5.1 m with b|b
  .rw[a,b]
  .exact absurd (cB.2 ⟨y,b,by rw[<-q,a]⟩) d.1
  .exact absurd (cB.2 ⟨x,a,by rw[q,b]⟩) d.1
  .exact TM d.2 a b q
theorem TN{w:List Int}{q:Nat×Nat}:∀{mo:List (List Int×Nat×Nat)},(mo.map (·.1)).Nodup->(mo.map (·.2.2)).Nodup->(∀e∈mo,e.1 ≠ w->e.2.2 ≠ q.2)->((mw w q mo).map (·.2.2)).Nodup
 | [],_,_,_=>by simp[mw]
 |e::l,g,h,j=>by
  rw[cJ,l8]at g h;simp only[mw];split
  .rename_i m
   rw[cJ,l8];refine⟨λn=>?_,h.2⟩;obtain⟨x,d,i⟩:=cB.1 n;refine j x (by simp[d]) (λo=>g.1 ?_) i
   rw[m,<-o];exact List.mem_map_of_mem d
  .rename_i m
   rw[cJ,l8];refine⟨λn=>?_,TN g.2 h.2 λx d=>j x (by simp[d])⟩
   obtain⟨x,d,i⟩:=cB.1 n;rcases(su g.2).1 d with a|⟨a,b⟩
   .subst a;exact j e (by simp) m i.symm
   .exact h.1 (i ▸List.mem_map_of_mem a)
theorem LM.mark{S:Lg}{O:Nat->Option ah}{σ τ:List ah}(h:LM S O σ)(hw:dx w){k b:Nat}(hk:k<S.cs.length) (he:S.n.jU w (S.cs.take (k+1))=0)
  (V:mu w S.mo=some (k,b)\/mu w S.mo=none/\k=0/\σ.length<=b)
  (hm:ak τ 2=some ⟨some 0,[],.map (py (mw w (k+1,b) S.mo))⟩)
  (hr:ak τ b=some ⟨none,((S.n.jV S.cs w).take (k+1)).map (.ik 4),.live⟩)
  (ho:∀i,i<σ.length->i ≠ 2->i ≠ b->ak τ i=ak σ i):LM {S with mo:=mw w (k+1,b) S.mo} O τ:=by
 have lt:∀{i:Nat} {B:ah},ak σ i=some B->i<σ.length:=fun {i B} q=>by
  exact dw q
 have bn:b ≠ 2/\b ≠ 3/\b ≠ S.pc:=by
  rcases V with V|⟨_,_,V⟩
  .exact h.vV _ (qI V)
  .have h2:=lt h.m
   have h3:=lt h.l;have h4:=lt h.c;omega
 have be:∀e∈S.mo,e.1 ≠ w->e.2.2 ≠ b:=λe hx U q=>by
  rcases V with V|⟨_,_,V⟩
  .have:=qI V
   exact U (congrArg (·.1) (TM h.nb hx this q))
  .have:=lt (h.r e hx);omega
 have bo:∀i B,O i=some B->b ≠ i:=λi B hB q=>by
  obtain⟨h1,_,_,_,h2⟩:=h.o i B hB;rcases V with V|⟨_,_,V⟩
  .exact h2 _ (qI V) q
  .have:=lt h1;omega
 refine⟨?_,hm,?_,λe hx=>?_,λe hx=>?_,λe hx=>?_,TL h.nd,TN h.nd h.nb be,h.zw,λe hx=>?_,λi B hB=>?_⟩
 .rw[ho 3 (lt h.l) (by omega) (Ne.symm bn.2.1)];exact h.l
 .rw[show({S with mo:=mw w (k+1,b) S.mo}:Lg).pc=S.pc from rfl,ho S.pc (lt h.c) h.zw.1 (Ne.symm bn.2.2)];exact h.c
 .rcases(su h.nd).1 hx with rfl|⟨hx,U⟩
  .exact hr
  .rw[ho _ (lt (h.r e hx)) (h.vV e hx).1 (be e hx U)];exact h.r e hx
 .rcases(su h.nd).1 hx with rfl|⟨hx,U⟩
  .exact⟨by show k+1<=S.cs.length;omega,by show 1<=k+1;omega,he⟩
  .exact h.le e hx
 .rcases(su h.nd).1 hx with rfl|⟨hx,U⟩
  .exact hw
  .exact h.ok e hx
 .rcases(su h.nd).1 hx with rfl|⟨hx,U⟩
  .exact bn
  .exact h.vV e hx
 .obtain⟨h1,h2,h3,h4,h5⟩:=h.o i B hB
  refine⟨by rw[ho i (lt h1) h2 (Ne.symm (bo i B hB))];exact h1,h2,h3,h4,λe hx=>?_⟩
  rcases(su h.nd).1 hx with rfl|⟨hx,U⟩
  .exact bo i B hB
  .exact h5 e hx
end Ab
namespace Ab
attribute [local simp] mT
def bH (S T:Lg):Prop:=T.n=S.n/\T.ws=S.ws/\T.cs=S.cs
def sv:∀{cs:List (List Int×List Int)},(Ct cs).length=2*cs.length
 | []=>rfl
 |c::cs=>by
  show(.str (eH c.1) :: .str (eH c.2)::Ct cs:List AV).length=_;simp[sv (cs:=cs)];omega
def vW (k b:Nat):AV:=if k=0 then .ae else .sl b k 0 k
def amA{k b:Nat}{K:Int->Prop}:CL (vW k b) K=K k:=by
 unfold vW;split
 .rename_i h;subst h;rfl
 .rfl
def amB{a b:List (List Int×List Int)}:Ct (a++b)=Ct a++Ct b:=by simp[Ct]
def TP{cs:List (List Int×List Int)}{a i:Nat}{K:AV->Prop}{t:Tk K}(h:a+i<cs.length):pT (Ct cs) (a*2+i*2) (some 2) K t=K (.agg [.str (eH (ix cs (i+a:Nat)).1),.str (eH (ix cs (i+a:Nat)).2)]):=by
 have b:cs=cs.take (a+i)++cs[a+i]::cs.drop (a+i+1):=by rw[List.getElem_cons_drop,mO]
 have d:ix cs (i+a:Nat)=cs[a+i]:=by rw[Nat.add_comm,aG h]
 rw[d];unfold pT part;have e:=sv (cs:=cs);simp only[];rw[ab (by omega)]
 have:((Ct cs).drop (a*2+i*2)).take 2=[.str (eH cs[a+i].1),.str (eH cs[a+i].2)]:=by
  conv=>lhs;rw[b]
  rw[amB,List.drop_append_of_le_length (by rw[sv,nw];omega),ji (by rw[sv,nw];omega)]
  rfl
 rw[this]
 rfl
def Jy{n:al}{w:List Int}{c:List Int×List Int}:∀{l m:List (List Int×List Int)},n.jU w l=0->n.jU w (l++c::m)=if n.Dk w c ≠ 0 then n.Dk w c else n.jU w m
 | [],_,_=>rfl
 |d::l,m,h=>by
  simp only[al.jU]at h
  by_cases e:n.Dk w d=0
  .rw[aa (by simp[e])]at h
   show(if n.Dk w d ≠ 0 then n.Dk w d else n.jU w (l++c::m))=_
   rw[aa (by simp[e]),Jy h]
  .rw[ab e]at h;exact absurd h e
def Jz{S:Lg}{O:Nat->Option ah}{σ:List ah}(h:LM S O σ) (hf:S.n.fits) (wa:∀c∈S.cs,Cs c) (hc0:1<=S.cs.length) (JM:S.cs.length<=1000) (w:List Int) (U:dx w) (hl:w.length<=10000):LX L rH [.ptr 3 13 0,iL w] σ (λr τ=>∃T,LM T O τ/\bH S T/\σ.length<=τ.length/\r=Dl S.n S.cs w):=by
 refine ag8 rfl ?_;have V:=h.l;have hM:=h.m;have hC:=h.c;have ht:=HW w U (by omega)
 have D:=Jx U h.ok;have X:∀x,aW 1 (.str x)=true:=λ_=>rfl;obtain⟨k0,b0,ru,hv,hm0,Tu⟩:∃k0 b0,k0<=S.cs.length/\Ew .ae false ((mu w S.mo).map λq=>.sl q.2 q.1 0 q.1)=vW k0 b0/\(mu w S.mo=some (k0,b0)\/mu w S.mo=none/\k0=0/\b0=σ.length)/\S.n.jU w (S.cs.take k0)=0:=by
  cases y:mu w S.mo with
  |none=>exact⟨0,σ.length,by omega,rfl,.inr ⟨rfl,rfl,rfl⟩,rfl⟩
  |some q=>
   obtain⟨a,b⟩:=q;have:=h.le _ (qI y);refine⟨a,b,this.1,?_,.inl rfl,this.2.2⟩;show AV.sl b a 0 a=vW a b;unfold vW;rw[if_neg];have:=this.2.1;dsimp only at this;omega
 simp[-ag,ht,V,hM,D,al.oJ,X,hv,amA,hC,TH,sv,aE];refine⟨ru,?_⟩;refine aM (λq:Nat×Lg×List ah×Nat=>[(3,vW (k0+q.1) q.2.2.2),(4,.int q.1)]) (λq=>q.2.2.1)
  (λq=>q.1+k0<=S.cs.length/\LM q.2.1 O q.2.2.1/\bH S q.2.1/\q.2.1.pc=S.pc/\σ.length<=q.2.2.1.length/\(mu w q.2.1.mo=some (k0+q.1,q.2.2.2)\/mu w q.2.1.mo=none/\k0+q.1=0/\q.2.2.2=q.2.2.1.length)/\S.n.jU w (S.cs.take (k0+q.1))=0)
  (λq=>S.cs.length-q.1) (0,S,σ,b0) (by simp[a8]) ⟨by simpa using ru,h,⟨rfl,rfl,rfl⟩,rfl,aT _,hm0,Tu⟩ ?_
 rintro⟨i,T,τ,b⟩ ⟨i0,p,⟨z,W,g⟩,Y,hle,y,he⟩;dsimp only at i0 p z W g Y hle y he ⊢;have V:=p.l;have hM:=p.m;have hC:=p.c;rw[Y,g]at hC;rw[z,W,g,Y]at V;have D:=Jx U p.ok
 by_cases hi:i<S.cs.length-k0
 .have E:k0+i<S.cs.length:=by omega
  have OA:=wa _ (aO (l:=S.cs) (n:=((i+k0:Nat):Int)) (by omega) (by omega))
  have Z:=λK t=>TP (K:=K) (t:=t) E;have hx:ix S.cs ((i+k0:Nat):Int)=S.cs[k0+i]:=by rw[Nat.add_comm,aG E]
  have hap:=Jy (c:=ix S.cs ((i+k0:Nat):Int)) (m:=S.cs.drop (k0+i+1)) he;have H:=Jy (c:=ix S.cs ((i+k0:Nat):Int)) (m:=[]) he;have EH:S.cs.take (k0+i) ++ [ix S.cs ((i+k0:Nat):Int)]=S.cs.take (k0+i+1):=by rw[hx,List.take_append_getElem]
  rw[EH]at H;rw[hx,List.getElem_cons_drop,mO,<-hx]at hap;generalize ix S.cs ((i+k0:Nat):Int)=c at *;have N:=TF c OA w (by omega)
  have qR:=OA.2.2;have P:=aiG S.n hf (c.1++(w++c.2)) (by simp only[aY];omega)
  have hme:S.n.Dk w c=(S.n.acc (c.1++(w++c.2))).2:=rfl;have F:S.n.TG w c=if(S.n.acc (c.1++(w++c.2))).1=true then 43 else 45:=rfl
  unfold ctA at N;unfold al.av at P;rw[hme]at hap H;generalize c.1++(w++c.2)=u at *;generalize hq:S.n.acc u=q at *;obtain⟨qa,qe⟩:=q;dsimp only at *;have hsp:=p.vV
  by_cases hz:qe=0
  .subst hz
   have C:(S.n.jV S.cs w).take (k0+i+1)=(S.n.jV S.cs w).take (k0+i) ++ [S.n.TG w c]:=by
    unfold al.jV;rw[<-List.map_take,<-List.map_take,<-EH,jK];rfl
   have d:=amz U (k0+i+1,b) p.ok;have I:S.n.jU w (S.cs.take (k0+i+1))=0:=by rw[H];rfl
   have R:T.n.jU w (T.cs.take (k0+i+1))=0:=by rw[z,g];exact I
   have h2l:=dw hM
   by_cases G:k0+i=0
   .have J:vW (k0+i) b = .ae:=ab G
    have s:mu w T.mo=none/\b=τ.length:=by
     rcases y with y|⟨y,_,e⟩
     .have:=(p.le _ (qI y)).2.1
      dsimp only at this;omega
     .exact⟨y,e⟩
    have hM2:∀B,ak (τ ++ [B]) 2=some ⟨some 0,[],.map (py T.mo)⟩:=λB=>kk hM;have zx:=λB=>kk (τ:=[B]) V;rw[s.1]at D d;have M : py T.mo ++ [(.str (eH w),.sl τ.length 1 0 1)]=py (mw w (k0+i+1,b) T.mo):=by
     rw[<-d];show _=py T.mo ++ [(.str (eH w),.sl b (k0+i+1) 0 (k0+i+1))];rw[s.2,G]
    cases qa<;>simp only[reduceIte,eo]at F<;>simp[-ag,hi,V,hC,TH,al.oJ,↓Z,N,P,sv,J,hM2,zx,D,X]
    .rw[M]
     refine⟨by omega,az (i+1,{T with mo:=mw w (k0+i+1,b) T.mo},_,b) (by simp[vW,s.2,<-Nat.add_assoc,G]) rfl ⟨by dsimp only;omega,?_,⟨z,W,g⟩,Y,by simp[bQ];omega,.inl y9,I⟩ (by dsimp only;omega)⟩
     refine p.mark U (by rw[g];exact E) R (.inr ⟨s.1,G,by omega⟩) (cv (by simp;omega)) ?_ λj hj j2 jb=>?_
     .rw[aK (by omega),vQ s.2,z,g,C,F,G];rfl
     .rw[aK (by omega),fV hj]
    .rw[M]
     refine⟨by omega,az (i+1,{T with mo:=mw w (k0+i+1,b) T.mo},_,b) (by simp[vW,s.2,<-Nat.add_assoc,G]) rfl ⟨by dsimp only;omega,?_,⟨z,W,g⟩,Y,by simp[bQ];omega,.inl y9,I⟩ (by dsimp only;omega)⟩
     refine p.mark U (by rw[g];exact E) R (.inr ⟨s.1,G,by omega⟩) (cv (by simp;omega)) ?_ λj hj j2 jb=>?_
     .rw[aK (by omega),vQ s.2,z,g,C,F,G];rfl
     .rw[aK (by omega),fV hj]
   .have J:vW (k0+i) b = .sl b (k0+i) 0 (k0+i):=aa G
    have A:mu w T.mo=some (k0+i,b):=by
     rcases y with y|⟨y,e,_⟩
     .exact y
     .exact absurd e G
    have o:=p.r _ (qI A);have hbp:=p.vV _ (qI A);dsimp only at o hbp;rw[z,g]at o;have hlr:(((S.n.jV S.cs w).take (k0+i)).map (AV.ik 4)).length=k0+i:=by simp[al.jV];omega
    generalize J2:((S.n.jV S.cs w).take (k0+i)).map (AV.ik 4)=cb at *;rw[A]at D d;have hM2:∀B,ak (ar τ b B) 2=some ⟨some 0,[],.map (py T.mo)⟩:=λB=>by rw[aK (by omega)];exact hM
    have zx:=λB=>(aK (Q:=τ) (i:=b) (j:=3) (B:=B) (by omega)).trans V
    have amC:∀x:AV,(cb ++ [x]).length=k0+i+1:=λx=>by rw[aY,hlr];rfl
    cases qa<;>simp only[reduceIte,eo]at F<;>simp[-ag,hi,V,hC,TH,al.oJ,↓Z,N,P,sv,J,o,hlr,amC,zx,hM2,D,X,aE]
    .rw[show tm (py T.mo) (.str (eH w)) (.sl b (k0+i+1) 0 (k0+i+1)) ((some (k0+i,b)).map λq=>.sl q.2 q.1 0 q.1)=iz (py T.mo) (.str (eH w)) (.sl b (k0+i+1) 0 (k0+i+1))from rfl]at d
     rw[d];refine⟨by omega,by omega,az (i+1,{T with mo:=mw w (k0+i+1,b) T.mo},_,b) (by simp[vW,<-Nat.add_assoc]) rfl ⟨by dsimp only;omega,?_,⟨z,W,g⟩,Y,by simp[bQ];omega,.inl y9,I⟩ (by dsimp only;omega)⟩
     refine p.mark U (by rw[g];exact E) R (.inl A) (cv (by rw[bQ];omega)) ?_ λj hj j2 jb=>?_
     .rw[aK (by omega),cv (dw o),z,g,C,F,<-J2,jK];rfl
     .rw[aK (by omega),aK (by omega)]
    .rw[show tm (py T.mo) (.str (eH w)) (.sl b (k0+i+1) 0 (k0+i+1)) ((some (k0+i,b)).map λq=>.sl q.2 q.1 0 q.1)=iz (py T.mo) (.str (eH w)) (.sl b (k0+i+1) 0 (k0+i+1))from rfl]at d
     rw[d];refine⟨by omega,by omega,az (i+1,{T with mo:=mw w (k0+i+1,b) T.mo},_,b) (by simp[vW,<-Nat.add_assoc]) rfl ⟨by dsimp only;omega,?_,⟨z,W,g⟩,Y,by simp[bQ];omega,.inl y9,I⟩ (by dsimp only;omega)⟩
     refine p.mark U (by rw[g];exact E) R (.inl A) (cv (by rw[bQ];omega)) ?_ λj hj j2 jb=>?_
     .rw[aK (by omega),cv (dw o),z,g,C,F,<-J2,jK];rfl
     .rw[aK (by omega),aK (by omega)]
  .simp[-ag,hi,V,hC,TH,al.oJ,↓Z,N,P,sv,hz]
   refine⟨T,p,⟨z,W,g⟩,hle,?_⟩;have:S.n.jU w S.cs=qe:=by rw[hap,ab hz]
   unfold Dl;rw[this,aa hz]
 .have ek:k0+i=S.cs.length:=by omega
  have e0:S.n.jU w S.cs=0:=by
   have:=he
   rwa [ek,fc (aT _)]at this
  have G:k0+i ≠ 0:=by omega
  have J:vW (k0+i) b = .sl b (k0+i) 0 (k0+i):=aa G;have A:mu w T.mo=some (k0+i,b):=by
   rcases y with y|⟨y,e,_⟩
   .exact y
   .exact absurd e G
  have o:=p.r _ (qI A);dsimp only at o;have qC:(S.n.jV S.cs w).length=k0+i:=by simp[al.jV];omega
  rw[z,g,fc (by omega)]at o
  have hb:bytesOf (((S.n.jV S.cs w).map (AV.ik 4)).take (k0+i))=some (eH (S.n.jV S.cs w)):=by
   rw[fc (by simp;omega)]
   refine Bh λx hx=>?_;obtain⟨c,_,rfl⟩:=cB.1 hx;unfold al.TG;split<;>omega
  simp[-ag,hi,J,o,qC,hb];exact⟨T,p,⟨z,W,g⟩,hle,by unfold Dl;rw[ab e0]⟩
end Ab
namespace Ab
attribute [local simp] mT
def lO (O:Nat->Option ah) (b:Nat) (B:ah):Nat->Option ah:=λi=>if i=b then some B else O i
variable{S:Lg}{O:Nat->Option ah}{σ:List ah}
theorem LM.add(h:LM S O σ) (B:ah):LM S (lO O σ.length B) (σ ++ [B]):=by
 refine⟨kk h.l,kk h.m,kk h.c,λe V=>kk (h.r e V),h.le,h.ok,h.nd,h.nb,h.zw,h.vV,λi A U=>?_⟩;unfold lO at U;split at U
 .rename_i hi
  simp at U;subst U hi;have h2:=dw h.m;have h3:=dw h.l;have h4:=dw h.c;refine⟨vQ rfl,by omega,by omega,by omega,λe V=>?_⟩
  have:=dw (h.r e V);omega
 .obtain⟨h1,h2⟩:=h.o i A U
  exact⟨kk h1,h2⟩
theorem LM.qw{b:Nat}{A:ah}(h:LM S (lO O b A) σ) (B:ah):LM S (lO O b B) (ar σ b B):=by
 have U:=h.o b A (ab rfl);have N:∀{i C},ak σ i=some C->i ≠ b->ak (ar σ b B) i=some C:=λq hi=>by rw[aK (Ne.symm hi)];exact q
 refine⟨N h.l (Ne.symm U.2.2.1),N h.m (Ne.symm U.2.1),N h.c (Ne.symm U.2.2.2.1),λe he=>N (h.r e he) (U.2.2.2.2 e he),h.le,h.ok,h.nd,h.nb,h.zw,h.vV,λi C V=>?_⟩;unfold lO at V;split at V
 .rename_i hi
  simp at V;subst V hi;exact⟨cv (dw U.1),U.2⟩
 .rename_i hi
  obtain⟨h1,h2⟩:=h.o i C (by unfold lO;rw[aa hi];exact V)
  exact⟨N h1 hi,h2⟩
theorem LM.sub{O U : Nat->Option ah}(h:LM S O σ) (V:∀i B,U i=some B->O i=some B):LM S U σ:=⟨h.l,h.m,h.c,h.r,h.le,h.ok,h.nd,h.nb,h.zw,h.vV,λi B hB=>h.o i B (V i B hB)⟩
structure Lg.Ok (S:Lg):Prop where
 ok:S.n.Ok
 fits:S.n.fits
 cs:∀c∈S.cs,Cs c
 cl:1<=S.cs.length/\S.cs.length<=1000
 ws:∀w∈S.ws,dx w/\w.length<=4000
 wl:S.ws.length<=128
 nd:(S.ws.map (S.n.jV S.cs)).Nodup
variable{T:Lg}
theorem bH.ok(h:bH S T) (o:S.Ok):T.Ok:=by
 obtain⟨h1,h2,h3⟩:=h;exact⟨by rw[h1];exact o.ok,by rw[h1];exact o.fits,by rw[h3];exact o.cs,by rw[h3];exact o.cl,by rw[h2];exact o.ws,by rw[h2];exact o.wl,by rw[h1,h2,h3];exact o.nd⟩
theorem bH.trans{U:Lg}(h:bH S T) (g:bH T U):bH S U:=⟨g.1.trans h.1,g.2.1.trans h.2.1,g.2.2.trans h.2.2⟩
def Lg.row (S:Lg) (w:List Int):List Int:=S.n.jV S.cs w
def Lg.oL (S:Lg):List (List Int)->Int
 | []=>0
 |w::l=>if S.n.jU w S.cs ≠ 0 then S.n.jU w S.cs else S.oL l
theorem JA{S:Lg}{w:List Int}:∀{l m:List (List Int)},S.oL l=0->S.oL (l++w::m)=if S.n.jU w S.cs ≠ 0 then S.n.jU w S.cs else S.oL m
 | [],_,_=>rfl
 |d::l,m,h=>by
  simp only[Lg.oL]at h
  by_cases e:S.n.jU d S.cs=0
  .rw[aa (by simp[e])]at h
   show(if S.n.jU d S.cs ≠ 0 then S.n.jU d S.cs else S.oL (l++w::m))=_
   rw[aa (by simp[e]),JA h]
  .rw[ab e]at h;exact absurd h e
theorem tV{n:al}{cs:List (List Int×List Int)}{w:List Int}:dx (n.jV cs w):=λx a=>by
 obtain⟨c,_,rfl⟩:=cB.1 a;unfold al.TG;split<;>omega
def sw (S:Lg) (k:Nat):ah:=⟨some 0,[],.map (pP 0 ((S.ws.take k).map S.row))⟩
theorem TQ(h:LM S O σ) (A:S.Ok):LX L Ay [.ptr 3 13 0] σ (λr τ=>∃T,bH S T/\σ.length<=τ.length/\((S.oL S.ws=0/\LM T (lO O σ.length (sw S S.ws.length)) τ/\r = .bF [.cC σ.length,.int 0])\/(S.oL S.ws ≠ 0/\LM T O τ/\r = .bF [.oT,.int (S.oL S.ws)]))):=by
 refine ag7 rfl ?_;have E:=λB=>kk (τ:=[B]) h.l;simp[-ag,E,al.oJ];refine aM (λq:Nat×Lg×List ah=>[(1,.int q.1)]) (λq=>q.2.2)
  (λq=>q.1<=S.ws.length/\LM q.2.1 (lO O σ.length (sw S q.1)) q.2.2/\bH S q.2.1/\σ.length<=q.2.2.length/\S.oL (S.ws.take q.1)=0)
  (λq=>S.ws.length-q.1) (0,S,σ ++ [⟨some 0,[],.map []⟩]) (by simp[a8]) ⟨by simp,h.add _,⟨rfl,rfl,rfl⟩,by simp,rfl⟩ ?_
 rintro⟨k,T,τ⟩ ⟨k0,F,g,hle,p⟩;dsimp only at k0 F g hle p ⊢;have U:=A.wl
 by_cases s:k<S.ws.length
 .have a:=g.ok A
  have G:=aO (l:=S.ws) (n:=(k:Int)) (by omega) (by omega)
  have H:=A.ws _ G;have d:S.ws.take (k+1)=S.ws.take k ++ [ix S.ws (k:Int)]:=by rw[jm s]
  have b:=JA (S:=S) (w:=ix S.ws (k:Int)) (m:=[]) p;have u:=JA (S:=S) (w:=ix S.ws (k:Int)) (m:=S.ws.drop (k+1)) p;rw[<-d]at b;rw[aG s,List.getElem_cons_drop,mO,<-aG s]at u;obtain⟨r,V, y,N, e, I, P, rfl⟩:=dh (Jz F a.fits a.cs a.cl.1 a.cl.2 (ix S.ws (k:Int)) H.1 (by omega))
  have z:=g.trans I;rw[g.1,g.2.2]at y
  by_cases j:S.n.jU (ix S.ws (k:Int)) S.cs=0
  .rw[show Dl S.n S.cs (ix S.ws (k:Int)) = .bF [.str (eH (S.row (ix S.ws (k:Int)))),.int 0]from ab j]at y
   have C:=(e.o σ.length _ (ab rfl)).1;have W:∀x∈(S.ws.take k).map S.row,dx x:=λx D=>by
    obtain⟨w,_,rfl⟩:=cB.1 D;exact tV
   have J:S.row (ix S.ws (k:Int))∉(S.ws.take k).map S.row:=λX=>by
    have Q:=A.nd;rw[<-List.take_append_drop (k+1) S.ws,d,jK,jK,rj]at Q;have:=Q.1;rw[rj]at this;exact this.2.2 _ X _ (by simp[Lg.row]) rfl
   have R:=vw (l:=S.row (ix S.ws (k:Int))) tV 0 _ W;rw[aa J]at R;have K:∀x,aW 1 (.str x)=true:=λ_=>rfl;have Y:=Bz 0 ((S.ws.take k).map S.row) (S.row (ix S.ws (k:Int)));have M:sw S (k+1)=⟨some 0,[],.map (pP 0 ((S.ws.take k).map S.row) ++ [(.str (eH (S.row (ix S.ws (k:Int)))),.int (k:Int))])⟩:=by
    unfold sw;rw[d,jK,show[ix S.ws (k:Int)].map S.row=[S.row (ix S.ws (k:Int))]from rfl,Y];simp;omega
   simp[-ag,-List.map_take,s,y,C,sw,R,K];refine⟨by omega,az (k+1,N, _) (by simp) rfl ⟨by dsimp only;omega,?_,z,by simp[bQ];omega,by dsimp only;rw[b,if_neg (by simp[j])];rfl⟩ (by dsimp only;omega)⟩
   rw[<-M];exact e.qw _
  .rw[show Dl S.n S.cs (ix S.ws (k:Int)) = .bF [.str [],.int (S.n.jU (ix S.ws (k:Int)) S.cs)]from aa j]at y
   have D:S.oL S.ws=S.n.jU (ix S.ws (k:Int)) S.cs:=by rw[u,ab j]
   simp[-ag,-List.map_take,s,y,j];refine⟨N, z,by omega,by rw[D];exact j,e.sub λi B C=>?_,D.symm⟩
   have:=dw (h.o i B C).1;unfold lO;rw[aa (by omega)]
   exact C
 .have Z:k=S.ws.length:=by omega
  subst Z;rw[fc (aT _)]at p;simp[-ag,p];exact⟨T,g,hle,F⟩
end Ab
namespace Ab
attribute [local simp] mT
def al.pX (n:al) (w:List Int) (k:Nat):List (List Int):=(List.range k).map λ(i:Nat)=>w ++ [n.calls+(i:Int)]
def al.oM (n:al) (w:List Int) (c:Int) (x:List Int) (k:Nat):List (List Int):=(List.range k).map λ(r:Nat)=>w++c::(x ++ [n.calls+n.af+(r:Int)])
def al.my (n:al) (w:List Int) (c:Int) (xs:List (List Int)):List (List Int):=xs.flatMap λx=>n.oM w c x n.aj.toNat
def al.oN (n:al) (w:List Int) (xs:List (List Int)) (k:Nat):List (List Int):=(List.range k).flatMap λ(c:Nat)=>n.my w (c:Int) xs
def al.ib (n:al) (xs:List (List Int)) (ws:List (List Int)):List (List Int):=ws.flatMap λw=>n.pX w n.af.toNat++n.oN w xs n.calls.toNat
variable{n:al}{w:List Int}{k:Nat}
theorem TR:n.pX w (k+1)=n.pX w k ++ [w ++ [n.calls+(k:Int)]]:=by simp[al.pX,gw]
variable{x:List Int}{c:Int}
theorem TS:n.oM w c x (k+1)=n.oM w c x k ++ [w++c::(x ++ [n.calls+n.af+(k:Int)])]:=by simp[al.oM,gw]
variable{xs:List (List Int)}
theorem TT:n.my w c (xs ++ [x])=n.my w c xs++n.oM w c x n.aj.toNat:=by simp[al.my]
theorem Dn:n.oN w xs (k+1)=n.oN w xs k++n.my w (k:Int) xs:=by simp[al.oN,gw]
variable{ws:List (List Int)}
theorem TU:n.ib xs (ws ++ [w])=n.ib xs ws++(n.pX w n.af.toNat++n.oN w xs n.calls.toNat):=by simp[al.ib]
theorem amD{i:Nat}(h:i<=k):(n.oN w xs i).length<=(n.oN w xs k).length:=by
 induction h with
 |refl=>exact aT _
 |step _ a=>rw[Dn,aY];omega
theorem amE{m:Nat}:(n.my w c (xs.take m)).length<=(n.my w c xs).length:=by
 have e:n.my w c xs=n.my w c (xs.take m)++n.my w c (xs.drop m):=by
  unfold al.my;rw[<-List.flatMap_append,mO]
 rw[e,aY];omega
variable{σ:List ah}
theorem amF{vars:List AV}{i:Option (Nat×AV)}{Q:Ex->St->Prop}(l:nth vars k = .sl σ.length ws.length 0 ws.length) (h:∀q,Q .eU ⟨eu vars k (.au q (ws.map iL)),i,σ ++ [⟨none,ws.map iL,.dead⟩]⟩):W L (.kO k) ⟨vars,i,σ ++ [lH ws]⟩ Q:=by
 generalize e:lH ws=B;have m:=vQ (B:=B) (rfl:σ.length=σ.length);have n:reach (σ ++ [B]) vd (.sl σ.length ws.length 0 ws.length) []=[σ.length]:=by
  show reach (σ ++ [B]) (11+1) (.sl σ.length ws.length 0 ws.length) []=[σ.length];unfold reach;simp only[m];rw[aa (by simp),<-e]
  exact Qm ws [σ.length]
 have g:ak (bC (λb=>!([σ.length]:List Nat).contains b) 0 (σ ++ [B])) σ.length=some (lH ws):=by
  rw[mQ,m,e];simp
 have a:bC (λb=>([σ.length]:List Nat).contains b) 0 (σ ++ [B])=σ ++ [⟨B.k,B.cells,.dead⟩]:=by
  rw[SM,SK λj r s=>by simp;omega]
  congr 1
  simp[bC]
 have o:=ai8 g;have d:(⟨B.k,B.cells,.dead⟩:ah)=⟨none,ws.map iL,.dead⟩:=by rw[<-e]
 cases p:gy (σ ++ [B]) (.sl σ.length ws.length 0 ws.length)with
 |true=>
  refine⟨0,.eU,_,?_,h true⟩;simp only[exec,l,n,o,p,a,d]
  rfl
 |false=>
  refine⟨0,.eU,_,?_,h false⟩;simp only[exec,l,n,o,p,a,d]
  rfl
variable{S:Lg}{O:Nat->Option ah}
theorem LM.ext{τ:List ah}(h:LM S O σ) (U:∀i B,ak σ i=some B->ak τ i=some B):LM S O τ:=⟨U _ _ h.l,U _ _ h.m,U _ _ h.c,λe hx=>U _ _ (h.r e hx),h.le,h.ok,h.nd,h.nb,h.zw,h.vV,λi B V=>⟨U _ _ (h.o i B V).1,(h.o i B V).2⟩⟩
theorem amG(h:LM S O σ) (o:S.Ok) (Z:((S.n.ib S.ws S.ws).length:Int)<=1000000) (hf:ox (S.n.ib S.ws S.ws)):LX L Fa [.ptr 3 13 0] σ (λr τ=>LM S O τ/\σ.length<=τ.length/\r=bN (fZ (S.n.ib S.ws S.ws))):=by
 refine ahf rfl ?_;have d:=λB:ah=>(h.add B).l;have Iw:=o.wl;obtain⟨JM,zX⟩:=o.ok.calls;obtain⟨hi1,hi2⟩:=o.ok.af;obtain⟨CG,D9⟩:=o.ok.aj;simp[-ag,d,al.oJ];refine aM (λk:Nat=>[(1,.int k),(6,.sl σ.length (S.n.ib S.ws (S.ws.take k)).length 0 (S.n.ib S.ws (S.ws.take k)).length)]) (λk=>σ ++ [lH (S.n.ib S.ws (S.ws.take k))])
  (λk=>k<=S.ws.length) (λk=>S.ws.length-k) 0 (by simp[a8,al.ib]) (by omega) ?_
 have hle:∀k,k<=S.ws.length->(S.n.ib S.ws (S.ws.take k)).length<=1000000:=λk _=>by
  have e:S.n.ib S.ws S.ws=S.n.ib S.ws (S.ws.take k)++S.n.ib S.ws (S.ws.drop k):=by
   unfold al.ib;rw[<-List.flatMap_append,mO]
  rw[e,aY]at Z;omega
 intro k k0
 by_cases hk:k<S.ws.length
 .have J:S.ws.take (k+1)=S.ws.take k ++ [ix S.ws (k:Int)]:=by rw[jm hk]
  generalize hA:S.n.ib S.ws (S.ws.take k)=A at *;have C:∀B,ak (σ ++ [B]) σ.length=some B:=λB=>vQ rfl;have D:∀A B,ar (σ ++ [A]) σ.length B=σ ++ [B]:=λA B=>alw rfl;have hww:=o.ws _ (aO (l:=S.ws) (n:=(k:Int)) (by omega) (by omega))
  have a:S.n.ib S.ws (S.ws.take (k+1))=A++(S.n.pX (ix S.ws (k:Int)) S.n.af.toNat++S.n.oN (ix S.ws (k:Int)) S.ws S.n.calls.toNat):=by rw[J,TU,hA]
  have b:=hle (k+1) (by omega)
  rw[a]at b;generalize hw:ix S.ws (k:Int)=w at *;simp[-ag,-List.map_take,hk,d,al.oJ,hw];refine aM (λi:Nat=>[(4,.int i),(6,.sl σ.length (A++S.n.pX w i).length 0 (A++S.n.pX w i).length)]) (λi=>σ ++ [lH (A++S.n.pX w i)]) (λi=>(i:Int)<=S.n.af) (λi=>(S.n.af-i).toNat) 0 (by simp[a8,al.pX]) (by omega) ?_
  intro i i0
  by_cases K:(i:Int)<S.n.af
  .have M:=λB=>TJ (h.add B) o.ok w i (by omega) K (by omega)
   have L6:(A++S.n.pX w i).length<=1000000:=by
    simp only[aY,al.pX,cY,qk]at b ⊢;omega
   have F:=TR (n:=S.n) (w:=w) (k:=i);have ea:A++S.n.pX w (i+1)=(A++S.n.pX w i) ++ [w ++ [S.n.calls+(i:Int)]]:=by rw[F,iw]
   have el:A.length+(S.n.pX w (i+1)).length=(A++S.n.pX w i).length+1:=by rw[F];simp;omega
   generalize N:A++S.n.pX w i=B at *;simp[-ag,K,M,C,D];refine⟨by split<;>rfl,by omega,by omega,az (i+1) (by simp[el]) (by rw[ea];simp) (by omega) (by omega)⟩
  .have ei:i=S.n.af.toNat:=by omega
   rw[<-ei]at b a;have apf:(A++S.n.pX w i).length+(S.n.oN w S.ws S.n.calls.toNat).length<=1000000:=by
    rw[aY,aY]at b;rw[aY];omega
   have s:S.n.ib S.ws (S.ws.take (k+1))=(A++S.n.pX w i)++S.n.oN w S.ws S.n.calls.toNat:=by rw[a,iw]
   generalize hA2:A++S.n.pX w i=g at *;simp[-ag,K,d,al.oJ];refine aM (λc:Nat=>[(9,.int c),(6,.sl σ.length (g++S.n.oN w S.ws c).length 0 (g++S.n.oN w S.ws c).length)]) (λc=>σ ++ [lH (g++S.n.oN w S.ws c)]) (λc=>(c:Int)<=S.n.calls) (λc=>(S.n.calls-c).toNat) 0 (by simp[a8,al.oN]) (by omega) ?_
   intro c c0
   by_cases P:(c:Int)<S.n.calls
   .have Q:=Dn (n:=S.n) (w:=w) (xs:=S.ws) (k:=c)
    have u:g++S.n.oN w S.ws (c+1)=(g++S.n.oN w S.ws c)++S.n.my w (c:Int) S.ws:=by rw[Q,iw]
    have G:g.length+(S.n.oN w S.ws (c+1)).length=((g++S.n.oN w S.ws c)++S.n.my w (c:Int) S.ws).length:=by rw[<-u,aY]
    have R:((g++S.n.oN w S.ws c)++S.n.my w (c:Int) S.ws).length<=1000000:=by
     have:(S.n.oN w S.ws (c+1)).length<=(S.n.oN w S.ws S.n.calls.toNat).length:=amD (by omega)
     rw[<-u,aY];omega
    generalize hA3:g++S.n.oN w S.ws c=p at *;have H :=R;rw[aY]at H G;simp[-ag,P,d,al.oJ];refine aM (λm:Nat=>[(11,.int m),(6,.sl σ.length (p++S.n.my w c (S.ws.take m)).length 0 (p++S.n.my w c (S.ws.take m)).length)]) (λm=>σ ++ [lH (p++S.n.my w c (S.ws.take m))]) (λm=>m<=S.ws.length) (λm=>S.ws.length-m) 0 (by simp[a8,al.my]) (by omega) ?_
    intro m m0
    by_cases hm:m<S.ws.length
    .have T:S.ws.take (m+1)=S.ws.take m ++ [ix S.ws (m:Int)]:=by rw[jm hm]
     have yD:=o.ws _ (aO (l:=S.ws) (n:=(m:Int)) (by omega) (by omega))
     have U:S.n.my w c (S.ws.take (m+1))=S.n.my w c (S.ws.take m)++S.n.oM w c (ix S.ws (m:Int)) S.n.aj.toNat:=by rw[T,TT]
     have hl3:(S.n.my w c (S.ws.take (m+1))).length<=(S.n.my w c S.ws).length:=amE;generalize hx:ix S.ws (m:Int)=x at *;have y:p++S.n.my w c (S.ws.take (m+1))=(p++S.n.my w c (S.ws.take m))++S.n.oM w c x S.n.aj.toNat:=by rw[U,iw]
     have z:p.length+(S.n.my w c (S.ws.take (m+1))).length=(p++S.n.my w c (S.ws.take m)).length+(S.n.oM w c x S.n.aj.toNat).length:=by rw[<-List.length_append,y,aY]
     generalize hA4:p++S.n.my w c (S.ws.take m)=j at *;simp[-ag,-List.map_take,hm,d,al.oJ,hx];refine aM (λr:Nat=>[(14,.int r),(6,.sl σ.length (j++S.n.oM w c x r).length 0 (j++S.n.oM w c x r).length)]) (λr=>σ ++ [lH (j++S.n.oM w c x r)]) (λr=>(r:Int)<=S.n.aj) (λr=>(S.n.aj-r).toNat) 0 (by simp[a8,al.oM]) (by omega) ?_
     intro r r0
     by_cases V:(r:Int)<S.n.aj
     .have W:=λB=>TK (h.add B) o.ok w x c r (by omega) P (by omega) V (by omega) (by omega)
      have X:=TS (n:=S.n) (w:=w) (x:=x) (c:=c) (k:=r);have I:j++S.n.oM w c x (r+1)=(j++S.n.oM w c x r) ++ [w++(c:Int)::(x ++ [S.n.calls+S.n.af+(r:Int)])]:=by rw[X,iw]
      have Y:j.length+(S.n.oM w c x (r+1)).length=(j++S.n.oM w c x r).length+1:=by rw[<-List.length_append,I];simp;omega
      have hl4:(j++S.n.oM w c x r).length<1000000:=by
       have e1:(S.n.oM w c x S.n.aj.toNat).length=S.n.aj.toNat:=by simp[al.oM]
       have e2:(S.n.oM w c x r).length=r:=by simp[al.oM]
       rw[aY,e2];rw[e1]at z;omega
      generalize N:j++S.n.oM w c x r=B at *;simp[-ag,V,W,C,D];refine⟨by split<;>rfl,by omega,by omega,az (r+1) (by simp[Y]) (by rw[I];simp) (by omega) (by omega)⟩
     .have er:r=S.n.aj.toNat:=by omega
      rw[<-er]at y z;simp[-ag,-List.map_take,V];refine⟨by omega,az (m+1) (by simp[z]) (by rw[y]) (by omega) (by omega)⟩
    .have em:m=S.ws.length:=by omega
     subst em;simp[-ag,-List.map_take];refine⟨by omega,az (c+1) (by simp[G]) (by rw[u]) (by omega) (by omega)⟩
   .have ec:c=S.n.calls.toNat:=by omega
    rw[<-ec]at s;simp[-ag,-List.map_take,P];refine⟨by omega,az (k+1) (by simp[-List.map_take,s]) (by rw[s]) (by omega) (by omega)⟩
 .have ek:k=S.ws.length:=by omega
  subst ek;rw[fc (aT _)];generalize hE:S.n.ib S.ws S.ws=E at *;have hS:=Q5 E Z hf;simp[-ag];refine amF rfl λq=>?_;simp[hS];exact h.ext λi B N=>kk N
end Ab
namespace Ab
attribute [local simp] mT
def Lg.oD (S:Lg):List (List Int)->AV
 | []=>.bF [.ae,.bool false,.int 0]
 |w::l=>if S.n.jU w S.cs ≠ 0 then .bF [.ae,.bool false,.int (S.n.jU w S.cs)]else if S.row w∈S.ws.map S.row then S.oD l else .bF [iL w,.bool true,.int 0]
def Lg.uH (S:Lg):AV:=if S.oL S.ws ≠ 0 then .bF [.ae,.bool false,.int (S.oL S.ws)]else S.oD (fZ (S.n.ib S.ws S.ws))
def TV{S:Lg}{O:Nat->Option ah}{σ:List ah}(h:LM S O σ) (K:S.Ok) (hz:((S.n.ib S.ws S.ws).length:Int)<=1000000) (hf:ox (S.n.ib S.ws S.ws)) (M:∀w∈fZ (S.n.ib S.ws S.ws),dx w/\w.length<=10000) (L9:(fZ (S.n.ib S.ws S.ws)).length<=1000000):LX L Hp [.ptr 3 13 0] σ (λr τ=>∃T,bH S T/\LM T O τ/\σ.length<=τ.length/\r=S.uH):=by
 refine ag5 rfl ?_;obtain⟨r,τ,hc,T,A,hle,hr⟩:=dh (TQ h K);rcases hr with⟨I,N,rfl⟩|⟨I,N,rfl⟩
 .have P:=A.ok K
  have g:S.uH=S.oD (fZ (S.n.ib S.ws S.ws)):=by unfold Lg.uH;rw[aa (by simp[I])]
  have Q:T.n.ib T.ws T.ws=S.n.ib S.ws S.ws:=by rw[A.1,A.2.1]
  obtain⟨r,R,C,V,DG,rfl⟩:=dh (amG N P (by rw[Q];exact hz) (by rw[Q];exact hf))
  rw[Q]at C;generalize fZ (S.n.ib S.ws S.ws)=E at *;simp[-ag,hc,C];refine aM (λq:Nat×Lg×List ah=>[(2,.int q.1)]) (λq=>q.2.2) (λq=>q.1<=E.length/\LM q.2.1 (lO O σ.length (sw S S.ws.length)) q.2.2/\bH S q.2.1/\σ.length<=q.2.2.length/\S.oD E=S.oD (E.drop q.1)) (λq=>E.length-q.1) (0,T,R) (by simp[a8]) ⟨by simp,V,A,by dsimp only;omega,rfl⟩ ?_
  rintro⟨k,U,υ⟩ ⟨k0,W,b,D,a⟩;dsimp only at k0 W b D a ⊢
  by_cases F:k<E.length
  .have j:=b.ok K
   have X:=M _ (aO (l:=E) (n:=(k:Int)) (by omega) (by omega))
   obtain⟨r,G, d,J, y, Y, j8, rfl⟩:=dh (Jz W j.fits j.cs j.cl.1 j.cl.2 (ix E (k:Int)) X.1 (by omega))
   rw[b.1,b.2.2]at d;have z:=b.trans Y;have hd:E.drop k=ix E (k:Int)::E.drop (k+1):=by rw[aG F,List.getElem_cons_drop]
   rw[hd]at a;have u:LM J O G :=y.sub λi B m=>by
    have:=dw (h.o i B m).1;unfold lO;rw[aa (by omega)]
    exact m
   by_cases e:S.n.jU (ix E (k:Int)) S.cs=0
   .rw[show Dl S.n S.cs (ix E (k:Int)) = .bF [.str (eH (S.row (ix E (k:Int)))),.int 0]from ab e]at d
    have m:=(y.o σ.length _ (ab rfl)).1;have hK:∀x∈S.ws.map S.row,dx x:=λx M=>by
     obtain⟨w,_,rfl⟩:=cB.1 M;exact tV
    have p:=vw (l:=S.row (ix E (k:Int))) tV 0 _ hK;have H:∀x,aW 1 (.str x)=true:=λ_=>rfl;have Z:sw S S.ws.length=⟨some 0,[],.map (pP 0 (S.ws.map S.row))⟩:=by
     unfold sw;rw[fc (aT _)]
    rw[Z]at m
    by_cases s:S.row (ix E (k:Int))∈S.ws.map S.row
    .rw[ab s]at p
     simp[-ag,-List.mem_map,F,d,m,p,H];refine⟨by omega,az (k+1,J, G) (by simp) rfl ⟨by dsimp only;omega,y, z,by dsimp only;omega,?_⟩ (by dsimp only;omega)⟩
     dsimp only;rw[a];show(if _ then _ else _)=_
     rw[aa (by simp[e]),ab s]
    .rw[aa s]at p
     simp[-ag,-List.mem_map,F,d,m,p,H];refine⟨J, z,u,by omega,?_⟩
     rw[g,a];show _=(if _ then _ else _)
     rw[aa (by simp[e]),aa s]
   .rw[show Dl S.n S.cs (ix E (k:Int)) = .bF [.str [],.int (S.n.jU (ix E (k:Int)) S.cs)]from aa e]at d
    simp[-ag,F,d,e];refine⟨J, z,u,by omega,?_⟩
    rw[g,a];show _=(if _ then _ else _)
    rw[ab e]
  .rw[ji (by omega)]at a
   simp[-ag,F];refine⟨U,b,W.sub λi B m=>?_,D,?_⟩
   .have:=dw (h.o i B m).1
    unfold lO;rw[aa (by omega)]
    exact m
   .rw[g,a];rfl
 .simp[-ag,hc,I]
  exact⟨T,A,N,hle,by unfold Lg.uH;rw[ab I]⟩
end Ab
namespace Ab
attribute [local simp] mT
structure Lg.Fit (S:Lg):Prop where
 ok:S.Ok
 hz:((S.n.ib S.ws S.ws).length:Int)<=1000000
 hf:ox (S.n.ib S.ws S.ws)
 hx:∀w∈fZ (S.n.ib S.ws S.ws),dx w/\w.length<=10000
 hl:(fZ (S.n.ib S.ws S.ws)).length<=1000000
def Lg.put (S:Lg) (w:List Int):Lg:={S with ws:=fZ (S.ws ++ [w])}
inductive Cm (E:Lg):Nat->Lg->Prop
 |done (S:Lg):S.Fit->S.uH = .bF [.ae,.bool false,.int 0]->bH S E->Cm E 0 S
 |step (k:Nat) (S:Lg) (w:List Int):S.Fit->S.uH = .bF [iL w,.bool true,.int 0]->w.length<=10000->S.ws.length+1<=128->((S.ws.length:Int)+1)*S.n.calls<=128->Cm E k (S.put w)->Cm E (k+1) S
variable{S T:Lg}
theorem bH.symm(h:bH S T):bH T S:=⟨h.1.symm,h.2.1.symm,h.2.2.symm⟩
theorem bH.oL(h:bH S T):∀l,T.oL l=S.oL l
 | []=>rfl
 |w::l=>by simp only[Lg.oL,h.1,h.2.2,h.oL l]
theorem bH.row(h:bH S T):T.row=S.row:=by unfold Lg.row;rw[h.1,h.2.2]
theorem bH.oD(h:bH S T):∀l,T.oD l=S.oD l
 | []=>rfl
 |w::l=>by simp only[Lg.oD,h.1,h.2.1,h.2.2,h.row,h.oD l]
theorem bH.uH(h:bH S T):T.uH=S.uH:=by
 unfold Lg.uH;rw[h.oD,h.1,h.2.1,h.oL]
theorem bH.fit(h:bH S T) (g:S.Fit):T.Fit:=⟨h.ok g.ok,by rw[h.1,h.2.1];exact g.hz,by rw[h.1,h.2.1];exact g.hf,by rw[h.1,h.2.1];exact g.hx,by rw[h.1,h.2.1];exact g.hl⟩
variable{E:Lg}{k:Nat}
theorem Cm.same(h:Cm E k S):∀{T:Lg},bH S T->Cm E k T:=by
 induction h with
 |done S hf U V=>exact λg=>.done _ (g.fit hf) (by rw[g.uH];exact U) (g.symm.trans V)
 |step k S w hf U hw h1 h2 _ ih=>exact fun {T} g=>.step k T w (g.fit hf) (by rw[g.uH];exact U) hw (by rw[g.2.1];exact h1) (by rw[g.1,g.2.1];exact h2) (ih ⟨g.1,by unfold Lg.put;rw[g.2.1],g.2.2⟩)
variable{O:Nat->Option ah}{σ:List ah}
theorem LM.words{τ:List ah}(h:LM S O σ) (ws:List (List Int))
  (hl:ak τ 3=some ⟨some 13,S.n.oJ ++ [bN ws,.sl S.pc (2*S.cs.length) 0 S.cs.length,.cC 2],.live⟩)
  (U:∀i,i ≠ 3->ak τ i=ak σ i):LM {S with ws:=ws} O τ:=
 ⟨hl,by rw[U 2 (by omega)];exact h.m,by rw[show({S with ws:=ws}:Lg).pc=S.pc from rfl,U _ h.zw.2];exact h.c,λe V=>by rw[U _ (h.vV e V).2.1];exact h.r e V,h.le,h.ok,h.nd,h.nb,h.zw,h.vV,λi B hB=>by
  obtain⟨h1,h2,h3,h4⟩:=h.o i B hB;exact⟨by rw[U i h3];exact h1,h2,h3,h4⟩⟩
theorem amH(h:LM S O σ) (C:Cm E k S):LX L Hi [.ptr 3 13 0] σ (λr τ=>∃T,bH T E/\LM T O τ/\σ.length<=τ.length/\r = .int 0):=by
 refine agK rfl ?_;simp[-ag];refine aM (λq:Nat×Lg×List ah=>[]) (λq=>q.2.2) (λq=>LM q.2.1 O q.2.2/\Cm E q.1 q.2.1/\σ.length<=q.2.2.length) (λq=>q.1) (k,S,σ) (by simp[a8]) ⟨h,C,aT _⟩ ?_
 rintro⟨j,T,τ⟩ ⟨s,e,u⟩;dsimp only at s e u ⊢;cases e with
 |done _ b x D=>
  obtain⟨r,y, d,U,a,g,z,rfl⟩:=dh (TV s b.ok b.hz b.hf b.hx b.hl);rw[x]at d;simp[-ag,d];exact⟨U,a.symm.trans D,g,by omega⟩
 |step k _ w b x M N F G=>
  obtain⟨r,y, d,U,a,g,z,rfl⟩:=dh (TV s b.ok b.hz b.hf b.hx b.hl);rw[x]at d;have B:=g.l;rw[a.1,a.2.1,a.2.2]at B;have m:=amx [T.ws,[w]] (by simp) (by simp[j7];omega) (by
   intro v p;simp[j7]at p;rcases p with p|rfl
   .have:=(b.ok.ws v p).2;omega
   .omega)
  have A:j7 [T.ws,[w]]=T.ws ++ [w]:=by simp[j7]
  rw[A]at m;obtain⟨H,P⟩:=b.ok.ok.calls;have o : PC A8 [.au false [.au false (T.ws.map iL),.au false [.au false (w.map .int)]]]=some (bN (fZ (T.ws ++ [w]))):=m;have Q:0<=((T.ws.length:Int)+1)*T.n.calls:=nK (by omega) H
  have I:=aB F;have J:=aB (show(T.ws.length:Int)+1<=128 by omega)
  simp[-ag,d,B,al.oJ,o, I,J];refine⟨by omega,by omega,az (k,U.put w,_) (by simp) rfl ⟨g.words _ (by rw[a.1,a.2.1,a.2.2];exact cv (dw g.l)) λi K=>aK (Ne.symm K),G.same ⟨a.1,by unfold Lg.put;rw[a.2.1],a.2.2⟩,by dsimp only;rw[bQ];omega⟩ (by dsimp only;omega)⟩
end Ab
namespace Ab
structure Cu where
 n:al
 k:Nat
 fa:Nat->Bool
 fi:Nat->Nat->Int
 fq:Nat->Nat->Nat->Int
def Cu.qq (F:Cu) (i g r:Nat):Int:=if F.n.calls.toNat=0 then 0 else F.fq i g r
structure Hs (F:Cu) (a s J G R:Nat) (A:al):Prop where
 h1:A.calls=F.n.calls
 h2:A.af=F.n.af
 h3:A.aj=F.n.aj
 h4:A.stack=((F.n.ay F.k:Nat):Int)
 h5:A.start=0
 h6:A.call=(F.n.dH F.k F.k).call
 h7:A.push=(F.n.dH F.k F.k).push
 la:A.accept.length=F.k
 li:A.inner.length=F.k
 ph:∀i,i<F.k->(A.bp .aH i).length=F.n.af.toNat
 lp:A.pop.length=F.k
 mq:∀i,i<F.k->(A.bt i).length=F.n.ay F.k
 pj:∀i g,i<F.k->g<F.n.ay F.k->(A.cx i g).length=F.n.aj.toNat
 ac:∀i:Nat,i<F.k->ix A.accept (i:Int)=if i<a then F.fa i else false
 aH:∀i j:Nat,i<F.k->j<F.n.af.toNat->ix (A.bp .aH i) (j:Int)=if i<s\/i=s/\j<J then F.fi i j else 0
 pop:∀i g r:Nat,i<F.k->g<F.n.ay F.k->r<F.n.aj.toNat->ix (A.cx i g) (r:Int)=if i<s\/i=s/\(g<G\/g=G/\r<R)then F.qq i g r else 0
variable{F:Cu}
theorem amI:Hs F 0 0 0 0 0 (F.n.dH F.k F.k):=by
 refine⟨rfl,rfl,rfl,rfl,rfl,rfl,rfl,by simp[al.dH],by simp[al.dH],λi a=>by rw[IE a];rfl,mm,λi a=>by rw[(ki a).2.2.2];simp,λi g a b=>by rw[tN a b];simp,λi a=>?_,λi j a d=>?_,λi g r a b e=>?_⟩
 .rw[aa (by omega)];exact kJ a
 .rw[aa (by omega),(ki a).2.2.1];exact kJ d
 .rw[aa (by omega),tN a b];exact kJ e
variable{a s J R:Nat}{A:al}
theorem Hs.bM{G:Nat}(h:Hs F a s J G R A) (U:F.k ≠ 0) (p:Tn->Nat):A.bM p=[.int F.n.calls,.int F.n.af,.int F.n.aj,.int ((F.n.ay F.k:Nat):Int),.int 0,.sl (p .ac) F.k 0 F.k,.sl (p (.ls .cl)) F.k 0 F.k,.sl (p (.ls .ps)) F.k 0 F.k,.sl (p (.ls .aH)) F.k 0 F.k,.sl (p .po) F.k 0 F.k]:=by
 have V:A.call.length=F.k:=by rw[h.h6];exact ml .cl
 have e2:A.push.length=F.k:=by rw[h.h7];exact ml .ps
 unfold al.bM cE;rw[h.h1,h.h2,h.h3,h.h4,h.h5,h.la,V,e2,h.li,h.lp,aa U,aa U,aa U,aa U]
theorem Hs.mh{G:Nat}(h:Hs F s s J G R A) (V:s<F.k):Hs F (s+1) s J G R {A with accept:=A.accept.set s (F.fa s)}:=by
 refine⟨h.h1,h.h2,h.h3,h.h4,h.h5,h.h6,h.h7,by simp[h.la],h.li,h.ph,h.lp,h.mq,h.pj,λi hi=>?_,h.aH,h.pop⟩
 show ix (A.accept.set s _) (i:Int)=_;rw[iD (by rw[h.la];exact V)]
 by_cases e:i=s
 .rw[ab e,ab (by omega),e]
 .rw[aa e,h.ac i hi]
  by_cases U:i<s
  .rw[ab U,ab (by omega)]
  .rw[aa U,aa (by omega)]
theorem Hs.mi{G:Nat}(h:Hs F a s J G R A) (hs:s<F.k) (hJ:J<F.n.af.toNat):Hs F a s (J+1) G R {A with inner:=A.inner.set s ((A.bp .aH s).set J (F.fi s J))}:=by
 have U:∀s' : Nat,al.bp {A with inner:=A.inner.set s ((A.bp .aH s).set J (F.fi s J))} .aH s' = if s' = s then(A.bp .aH s).set J (F.fi s J)else A.bp .aH s' :=λs' =>iD (by rw[h.li];exact hs) s'
 refine⟨h.h1,h.h2,h.h3,h.h4,h.h5,h.h6,h.h7,h.la,by simp[h.li],λi hi=>?_,h.lp,h.mq,h.pj,h.ac,λi j hi hj=>?_,h.pop⟩
 .rw[U]
  split
  .rw[mN];exact h.ph s hs
  .exact h.ph i hi
 .rw[U]
  by_cases e:i=s
  .rw[ab e,iD (by rw[h.ph s hs];exact hJ)]
   by_cases e2:j=J
   .rw[ab e2,ab (.inr ⟨e,by omega⟩),e,e2]
   .subst e
    rw[aa e2,h.aH i j hi hj]
    by_cases V:j<J
    .rw[ab (.inr ⟨rfl,V⟩),ab (.inr ⟨rfl,by omega⟩)]
    .rw[aa (by omega),aa (by omega)]
  .rw[aa e,h.aH i j hi hj]
   by_cases V:i<s
   .rw[ab (.inl V),ab (.inl V)]
   .rw[aa (by omega),aa (by omega)]
theorem Hs.mj{G:Nat}(h:Hs F a s J G R A) (hs:s<F.k) (hG:G<F.n.ay F.k) (hR:R<F.n.aj.toNat):Hs F a s J G (R+1) {A with pop:=A.pop.set s ((A.bt s).set G ((A.cx s G).set R (F.qq s G R)))}:=by
 have U:∀s' : Nat,al.bt {A with pop:=A.pop.set s ((A.bt s).set G ((A.cx s G).set R (F.qq s G R)))} s' = if s' = s then(A.bt s).set G ((A.cx s G).set R (F.qq s G R))else A.bt s' :=λs' =>iD (by rw[h.lp];exact hs) s'
 have V:∀s' g' : Nat,al.cx {A with pop:=A.pop.set s ((A.bt s).set G ((A.cx s G).set R (F.qq s G R)))} s' g' = if s' = s/\g' = G then(A.cx s G).set R (F.qq s G R)else A.cx s' g' :=λs' g' =>by
  generalize (A.cx s G).set R (F.qq s G R)=w at *;unfold al.cx;rw[U]
  by_cases e:s' = s
  .rw[ab e,iD (by rw[h.mq s hs];exact hG)]
   by_cases e2:g' = G
   .rw[ab e2,ab ⟨e,e2⟩]
   .rw[aa e2,aa λa=>e2 a.2,e]
  .rw[aa e,aa λa=>e a.1]
 refine⟨h.h1,h.h2,h.h3,h.h4,h.h5,h.h6,h.h7,h.la,h.li,h.ph,by simp[h.lp],λi hi=>?_,λi g hi hg=>?_,h.ac,h.aH,λi g r hi hg hr=>?_⟩
 .rw[U]
  split
  .rw[mN];exact h.mq s hs
  .exact h.mq i hi
 .rw[V]
  split
  .rw[mN];exact h.pj s G hs hG
  .exact h.pj i g hi hg
 .rw[V]
  by_cases e:i=s/\g=G
  .rw[ab e,iD (by rw[h.pj s G hs hG];exact hR)]
   by_cases e2:r=R
   .rw[ab e2,ab (.inr ⟨e.1,.inr ⟨e.2,by omega⟩⟩),e.1,e.2,e2]
   .have hp:=h.pop s G r hs hG hr
    rw[aa e2,hp,e.1,e.2]
    by_cases e3:r<R
    .rw[ab (.inr ⟨rfl,.inr ⟨rfl,e3⟩⟩),ab (.inr ⟨rfl,.inr ⟨rfl,by omega⟩⟩)]
    .rw[aa (by omega),aa (by omega)]
  .rw[aa e,h.pop i g r hi hg hr]
   by_cases e3:i<s\/i=s/\(g<G\/g=G/\r<R)
   .rw[ab e3,ab (by omega)]
   .rw[aa e3,aa (by omega)]
theorem Hs.yJ{G:Nat}(h:Hs F a s J G F.n.aj.toNat A):Hs F a s J (G+1) 0 A:=by
 refine⟨h.h1,h.h2,h.h3,h.h4,h.h5,h.h6,h.h7,h.la,h.li,h.ph,h.lp,h.mq,h.pj,h.ac,h.aH,λi g r hi V hr=>?_⟩;rw[h.pop i g r hi V hr]
 by_cases U:i<s\/i=s/\(g<G\/g=G/\r<F.n.aj.toNat)
 .rw[ab U,ab (by omega)]
 .rw[aa U,aa (by omega)]
theorem Hs.yK(h:Hs F (s+1) s F.n.af.toNat (F.k*F.n.calls.toNat) 0 A):Hs F (s+1) (s+1) 0 0 0 A:=by
 refine⟨h.h1,h.h2,h.h3,h.h4,h.h5,h.h6,h.h7,h.la,h.li,h.ph,h.lp,h.mq,h.pj,h.ac,λi j hi V=>?_,λi g r hi hg hr=>?_⟩
 .rw[h.aH i j hi V]
  by_cases U:i<s\/i=s/\j<F.n.af.toNat
  .rw[ab U,ab (by omega)]
  .rw[aa U,aa (by omega)]
 .rw[h.pop i g r hi hg hr]
  by_cases hc:F.n.calls.toNat=0
  .have:F.qq i g r=0:=ab hc
   rw[this];simp
  .have jo:F.n.ay F.k=max 1 (F.k*F.n.calls.toNat):=rfl
   have:1<=F.k*F.n.calls.toNat:=Nat.mul_pos (by omega) (by omega)
   by_cases U:i<s\/i=s/\(g<F.k*F.n.calls.toNat\/g=F.k*F.n.calls.toNat/\r<0)
   .rw[ab U,ab (by omega)]
   .rw[aa U,aa (by omega)]
def Cu.qM (F:Cu):al:=⟨F.n.calls,F.n.af,F.n.aj,((F.n.ay F.k:Nat):Int),0,(List.range F.k).map λi=>F.fa i,(F.n.dH F.k F.k).call,(F.n.dH F.k F.k).push,(List.range F.k).map λi=>(List.range F.n.af.toNat).map λj=>F.fi i j,(List.range F.k).map λi=>(List.range (F.n.ay F.k)).map λg=>(List.range F.n.aj.toNat).map λr=>F.qq i g r⟩
theorem Hs.fin(h:Hs F F.k F.k 0 0 0 A):A=F.qM:=by
 obtain⟨c,i,r,sk,s0,ac,cl,ps,aH,po⟩:=A;have e1:c=F.n.calls:=h.h1;have e2:i=F.n.af:=h.h2;have e3:r=F.n.aj:=h.h3;have e4:sk=((F.n.ay F.k:Nat):Int):=h.h4;have e5:s0=0:=h.h5;have e6:cl=(F.n.dH F.k F.k).call:=h.h6;have e7:ps=(F.n.dH F.k F.k).push:=h.h7;have e8:ac=(List.range F.k).map λi=>F.fa i:=mX h.la λi hi=>by
  have:=h.ac i hi;rw[ab hi]at this;exact this
 have e9:aH=(List.range F.k).map λi=>(List.range F.n.af.toNat).map λj=>F.fi i j:=mX h.li λi hi=>mX (h.ph i hi) λj hj=>by
  have:=h.aH i j hi hj;rw[ab (.inl hi)]at this;exact this
 have U:po=(List.range F.k).map λi=>(List.range (F.n.ay F.k)).map λg=>(List.range F.n.aj.toNat).map λr=>F.qq i g r:=mX h.lp λi hi=>mX (h.mq i hi) λg V=>mX (h.pj i g hi V) λr hr=>by
  have:=h.pop i g r hi V hr;rw[ab (.inl hi)]at this;exact this
 rw[e1,e2,e3,e4,e5,e6,e7,e8,e9,U];rfl
attribute [local simp] mT
open Classical in
noncomputable def oE (a:Nat->Prop) (σ:List ah):Nat->Option ah:=λi=>if a i then ak σ i else none
def jW (S:Lg) (N i:Nat):Prop:=i<N/\i ≠ 2/\i ≠ 3/\i ≠ S.pc/\∀e∈S.mo,e.2.2 ≠ i
variable{Dm:Nat->Prop}{σ:List ah}{i:Nat}{B:ah}
theorem sx:oE Dm σ i=some B↔Dm i/\ak σ i=some B:=by
 unfold oE;split
 .rename_i h;simp[h]
 .rename_i h;simp[h]
variable{S:Lg}
theorem LM.dom{O:Nat->Option ah}(h:LM S O σ) (N:Nat):LM S (oE (jW S N) σ) σ:=
 ⟨h.l,h.m,h.c,h.r,h.le,h.ok,h.nd,h.nb,h.zw,h.vV,λi B U=>⟨(sx.1 U).2,(sx.1 U).1.2⟩⟩
theorem LM.old{S:Lg}{O:Nat->Option ah}{σ:List ah}(h:LM S O σ){i:Nat}{B:ah}(U:O i=some B):jW S σ.length i:=⟨dw (h.o i B U).1,(h.o i B U).2⟩
variable{T:Lg}{τ:List ah}
theorem LM.goD(h:LM T (oE Dm σ) τ) (hd:∀i,Dm i->i<σ.length):(∀i B,Dm i->ak σ i=some B->ak τ i=some B)/\LM T (oE Dm τ) τ:=by
 have h1:∀i B,Dm i->ak σ i=some B->ak τ i=some B:=λi B hi U=>(h.o i B (sx.2 ⟨hi,U⟩)).1;refine⟨h1,h.l,h.m,h.c,h.r,h.le,h.ok,h.nd,h.nb,h.zw,h.vV,λi B U=>?_⟩;obtain⟨hi,U⟩:=sx.1 U;have hl:=hd i hi;obtain⟨C,V⟩:∃C,ak σ i=some C:=⟨σ[i],by rw[bE];exact cO hl⟩
 exact⟨U,(h.o i C (sx.2 ⟨hi,V⟩)).2⟩
variable{j:Nat}
theorem LM.JB(h:LM T (oE Dm σ) σ) (V:Dm j) (hl:j<σ.length):LM T (oE Dm (ar σ j B)) (ar σ j B):=by
 obtain⟨C,hC⟩:∃C,ak σ j=some C:=⟨σ[j],by rw[bE];exact cO hl⟩
 have e:oE Dm σ=lO (oE Dm σ) j C:=by
  funext i
  unfold lO;split
  .rename_i hi;subst hi;exact sx.2 ⟨V,hC⟩
  .rfl
 rw[e]at h;have:=h.qw B;refine this.sub λi D U=>?_;obtain⟨hi,U⟩:=sx.1 U;unfold lO
 by_cases q:i=j
 .subst q
  rw[cv hl]at U;rw[ab rfl];exact U
 .rw[aK (Ne.symm q)]at U
  rw[aa q];exact sx.2 ⟨hi,U⟩
structure HI (F:Cu) (S:Lg) (O0:Nat->Option ah) (Dm:Nat->Prop) (d b sm r0:Nat) (A:al) (T:Lg) (τ:List ah):Prop where
 lm:LM T (oE Dm τ) τ
 sa:bH S T
 as:AS A (λt=>fp (F.n.ay F.k) t+d) τ
 bx:ak τ b=some ⟨some 10,[.int F.n.calls,.int F.n.af,.int F.n.aj,.int ((F.n.ay F.k:Nat):Int),.int 0,.sl (1+d) F.k 0 F.k,.sl (6+F.n.ay F.k+d) F.k 0 F.k,.sl (7+F.n.ay F.k+d) F.k 0 F.k,.sl (9+F.n.ay F.k+d) F.k 0 F.k,.sl (10+F.n.ay F.k+d) F.k 0 F.k],.live⟩
 st:ak τ sm=some (sw S S.ws.length)
 rz:ak τ r0=some ⟨some 10,[.int 0,.int 0,.int 0,.int 0,.int 0,.ae,.ae,.ae,.ae,.ae],.live⟩
 ol:∀i B,O0 i=some B->ak τ i=some B
 ln:b<τ.length
structure HD (O0:Nat->Option ah) (Dm:Nat->Prop) (d b sm r0:Nat):Prop where
 fr:∀i,d<=i->i<=b->Dm i
 s:Dm sm/\sm<d
 r:Dm r0/\r0<d
 o:∀i B,O0 i=some B->Dm i/\i<d
 up:∀i,Dm i->i<=b
variable{O0:Nat->Option ah}{d b sm r0:Nat}{w:List Int}
theorem HI.row(h:HI F S O0 Dm d b sm r0 A T τ) (hd:HD O0 Dm d b sm r0) (ho:S.Ok) (TW:d<=b) (hA:∀t B,A.cont (λt=>fp (F.n.ay F.k) t+d) t=some B->fp (F.n.ay F.k) t+d<b)(hw:dx w) (hl:w.length<=10000) (hz:S.n.jU w S.cs=0):∃T' U, L rH [.ptr 3 13 0,iL w] τ=some (.bF [.str (eH (S.row w)),.int 0],U)/\HI F S O0 Dm d b sm r0 A T' U :=by
 have V:=h.sa.ok ho;obtain⟨r,U, hc,T', hT', iU, apg, rfl⟩:=dh (Jz h.lm V.fits V.cs V.cl.1 V.cl.2 w hw hl);rw[h.sa.1,h.sa.2.2,show Dl S.n S.cs w = .bF [.str (eH (S.row w)),.int 0]from ab hz]at hc;have hln:=h.ln;obtain⟨g1,g2⟩:=hT'.goD λi hi=>by have:=hd.up i hi;omega
 refine⟨T', U, hc,g2,h.sa.trans iU, h.as.other λt B hB=>?_,g1 _ _ (hd.fr b TW (aT _)) h.bx,g1 _ _ hd.s.1 h.st,g1 _ _ hd.r.1 h.rz,λi B hB=>g1 _ _ (hd.o i B hB).1 (h.ol i B hB),by omega⟩
 have h1:=hA t B hB;have h2:=h.as.has t B hB;rw[h2];exact g1 _ _ (hd.fr _ (by omega) (by omega)) h2
theorem HI.set{A V : al}(h:HI F S O0 Dm d b sm r0 A T τ) (hd:HD O0 Dm d b sm r0)(j0:d<=j) (j1:j<b) (ha:AS V (λt=>fp (F.n.ay F.k) t+d) (ar τ j B)):HI F S O0 Dm d b sm r0 V T (ar τ j B):=by
 have U:=h.ln;have h1:=hd.s.2;have h2:=hd.r.2;exact⟨h.lm.JB (hd.fr j j0 (by omega)) (by omega),h.sa,ha,by rw[aK (by omega)];exact h.bx,by rw[aK (by omega)];exact h.st,by rw[aK (by omega)];exact h.rz,λi C hC=>by rw[aK (by have:=(hd.o i C hC).2;omega)];exact h.ol i C hC,by rw[bQ];exact U⟩
theorem Hs.dom{G:Nat}(h:Hs F a s J G R A){p:Tn->Nat}{t:Tn}(U:A.cont p t=some B):∃C,(F.n.dH F.k F.k).cont p t=some C:=by
 have J3:∀q,(A.tb q).length=F.k:=λq=>by
  cases q
  .rw[show A.tb .cl=A.call from rfl,h.h6];exact ml .cl
  .rw[show A.tb .ps=A.push from rfl,h.h7];exact ml .ps
  .exact h.li
 cases t with
 |ac=>exact⟨_,rfl⟩
 |ls q=>
  refine⟨_,aa λe=>?_⟩;have h1:=ml (n:=F.n) (k:=F.k) (s:=F.k) q;rw[e]at h1;have:A.tb q=[]:=dM (by rw[J3,<-h1];rfl)
  have U:(if A.tb q=[]then none else some _)=some B:=U
  rw[ab this]at U;simp at U
 |po=>
  refine⟨_,aa λe=>?_⟩;have h1:=mm (n:=F.n) (k:=F.k) (s:=F.k);rw[e]at h1;have:A.pop=[]:=dM (by rw[h.lp,<-h1];rfl)
  have U:(if A.pop=[]then none else some _)=some B:=U
  rw[ab this]at U;simp at U
 |rw q i=>
  refine⟨_,ab ?_⟩;rw[ml];have U:(if i<(A.tb q).length then some _ else none)=some B:=U
  rw[J3]at U;exact cZ λe=>by rw[aa e]at U;simp at U
 |pr i=>
  refine⟨_,ab ?_⟩;rw[mm];have U:(if i<A.pop.length then some _ else none)=some B:=U
  rw[h.lp]at U;exact cZ λe=>by rw[aa e]at U;simp at U
 |pg i g=>
  have U:(if i<A.pop.length/\g<(A.bt i).length then some _ else none)=some B:=U
  have V:i<A.pop.length/\g<(A.bt i).length:=cZ λe=>by rw[aa e]at U;simp at U
  rw[h.lp]at V;have h2:=V.2;rw[h.mq i V.1]at h2;refine⟨_,ab ⟨by rw[mm];exact V.1,?_⟩⟩
  rw[(ki V.1).2.2.2];simpa using h2
theorem amJ{G:Nat}(h:AS A (λt=>fp (F.n.ay F.k) t+d) σ) (b:Hs F a s J G R A) (g:F.k ≠ 0):ak σ (9+F.n.ay F.k+d)=some ⟨none,(List.range F.k).map λi=>gM (fp (F.n.ay F.k) (.rw .aH i)+d) F.n.af.toNat,.live⟩:=by
 have:=h.has (.ls .aH) _ (aa λe=>by have:=b.li;rw[show A.inner=[]from e]at this;exact g this.symm)
 rw[show ak σ (9+F.n.ay F.k+d)=_ from this];rw[show(A.tb .aH).length=F.k from b.li]
 congr 2
 exact fv λi j=>by rw[b.ph i (bT.1 j)]
theorem amK{G:Nat}(h:AS A (λt=>fp (F.n.ay F.k) t+d) σ) (b:Hs F a s J G R A) (g:F.k ≠ 0):ak σ (10+F.n.ay F.k+d)=some ⟨none,(List.range F.k).map λi=>gM (fp (F.n.ay F.k) (.pr i)+d) (F.n.ay F.k),.live⟩:=by
 have:=h.has .po _ (aa λe=>by have:=b.lp;rw[e]at this;exact g this.symm)
 rw[show ak σ (10+F.n.ay F.k+d)=_ from this];rw[b.lp]
 congr 2
 exact fv λi j=>by rw[b.mq i (bT.1 j)]
theorem amL{G:Nat}(h:AS A (λt=>fp (F.n.ay F.k) t+d) σ) (b:Hs F a s J G R A)(e:i<F.k):ak σ (fp (F.n.ay F.k) (.pr i)+d)=some ⟨none,(List.range (F.n.ay F.k)).map λg=>gM (fp (F.n.ay F.k) (.pg i g)+d) F.n.aj.toNat,.live⟩:=by
 have:=h.has (.pr i) _ (ab (by rw[b.lp];exact e))
 rw[this,b.mq i e]
 congr 2
 exact fv λg j=>by rw[b.pj i g e (bT.1 j)]
variable{n:al}{xs ws:List (List Int)}
theorem amM(a:w∈ws)(b:(i:Int)<n.af):w ++ [n.calls+(i:Int)]∈n.ib xs ws:=by
 unfold al.ib;refine qh.2 ⟨w,a,dQ.2 (.inl ?_)⟩;exact cB.2 ⟨i,bT.2 (by omega),rfl⟩
variable{x:List Int}{c r:Nat}
theorem amN(a:w∈ws) (b:x∈xs)(d:(c:Int)<n.calls) (e:(r:Int)<n.aj):w++(c:Int)::(x ++ [n.calls+n.af+(r:Int)])∈n.ib xs ws:=by
 unfold al.ib;refine qh.2 ⟨w,a,dQ.2 (.inr ?_)⟩;refine qh.2 ⟨c,bT.2 (by omega),qh.2 ⟨x,b,cB.2 ⟨r,bT.2 (by omega),rfl⟩⟩⟩
theorem amO(a:n.Ok)(b:dx w)(e:(i:Int)<n.af):dx (w ++ [n.calls+(i:Int)]):=λx d=>by
 have g:=a.calls;have j:=a.af;rcases dQ.1 d with h|h
 .exact b x h
 .simp at h;subst h;omega
theorem amP(a:n.Ok)(b:dx w) (d:dx x)(g:(c:Int)<n.calls) (i:(r:Int)<n.aj):dx (w++(c:Int)::(x ++ [n.calls+n.af+(r:Int)])):=λy e=>by
 have j:=a.calls;have l:=a.af;have m:=a.aj;rcases dQ.1 e with h|h
 .exact b y h
 .rcases b5.1 h with h|h
  .omega
  .rcases dQ.1 h with h|h
   .exact d y h
   .simp at h;omega
end Ab
namespace Ab
attribute [local simp] mT
def Lg.Cv (S:Lg) (w:List Int):Int:=((S.ws.map S.row).idxOf (S.row w):Nat)
def Lg.wd (S:Lg) (i:Nat):List Int:=ix S.ws (i:Int)
noncomputable def Lg.tg (S:Lg):Cu:=⟨S.n,S.ws.length,λi=>(ix (S.row (S.wd i)) 0==43),λi j=>S.Cv (S.wd i ++ [S.n.calls+(j:Int)]),λi g r=>S.Cv (S.wd (g/S.n.calls.toNat)++((g%S.n.calls.toNat:Nat):Int)::(S.wd i ++ [S.n.calls+S.n.af+(r:Int)]))⟩
variable{S:Lg}
theorem oF:S.tg.k=S.ws.length:=rfl
theorem pz:S.tg.n=S.n:=rfl
abbrev jX:ah:=⟨some 10,[.int 0,.int 0,.int 0,.int 0,.int 0,.ae,.ae,.ae,.ae,.ae],.live⟩
def HyP (S:Lg) (O:Nat->Option ah) (σ:List ah) (r:AV) (τ:List ah):Prop:=∃T p a,bH S T/\LM T (oE a τ) τ/\(∀i B,O i=some B->a i/\ak τ i=some B)/\AS S.tg.qM p τ/\(∀t B,S.tg.qM.cont p t=some B->a (p t)/\σ.length<p t/\p t<τ.length)/\r = .bF [.agg (S.tg.qM.bM p),.int 0]
theorem amQ{O:Nat->Option ah}{σ:List ah}(h:LM S O σ) (Q:S.Ok) (PZ:1<=S.ws.length) (hkc:S.ws.length*S.n.calls.toNat<=128) (Tu:S.oL S.ws=0) (hws:∀w∈S.ws,S.n.jU w S.cs=0)
  (jY:∀w∈S.n.ib S.ws S.ws,S.n.jU w S.cs=0/\S.row w∈S.ws.map S.row):LX L Hj [.ptr 3 13 0] σ (HyP S O σ):=by
 refine agL rfl ?_;obtain⟨r,b,hc,T,hs,hle,hr⟩:=dh (TQ (h.add jX) Q);obtain⟨hT,rfl⟩:LM T (lO (lO O σ.length jX) (σ ++ [jX]).length (sw S S.ws.length)) b/\r = .bF [.cC (σ ++ [jX]).length,.int 0]:=by
  rcases hr with⟨_,hT,e⟩|⟨he,_,_⟩
  .exact⟨hT,e⟩
  .exact absurd Tu he
 have Iw:=Q.wl;have hL:=hT.l;rw[hs.1,hs.2.1,hs.2.2]at hL;have TX:(σ ++ [jX]).length=σ.length+1:=by simp
 rw[TX]at hc hT hle;obtain⟨rv,TY,hF,RP,hA⟩:=dh (RN S.n Q.ok S.ws.length (by omega) hkc)
 have RQ:=amI (F:=S.tg);have ru:S.tg.k ≠ 0:=by show S.ws.length ≠ 0;omega
 have qR:(S.n.dH S.ws.length S.ws.length).bM (fp (S.n.ay S.ws.length))=[.int S.n.calls,.int S.n.af,.int S.n.aj,.int ((S.n.ay S.ws.length:Nat):Int),.int 0,.sl 1 S.ws.length 0 S.ws.length,.sl (6+S.n.ay S.ws.length) S.ws.length 0 S.ws.length,.sl (7+S.n.ay S.ws.length) S.ws.length 0 S.ws.length,.sl (9+S.n.ay S.ws.length) S.ws.length 0 S.ws.length,.sl (10+S.n.ay S.ws.length) S.ws.length 0 S.ws.length]:=RQ.bM ru _;rw[qR]at RP;subst RP;have RR : L vt [.agg [.int S.n.calls,.int S.n.af,.int S.n.aj,.int S.n.stack,.int S.n.start,.au false (S.n.accept.map .bool),.au false (S.n.call.map iL),.au false (S.n.push.map iL),.au false (S.n.inner.map iL),.au false (S.n.pop.map bN)],.int S.ws.length] []=some (.agg [.int S.n.calls,.int S.n.af,.int S.n.aj,.int ((S.n.ay S.ws.length:Nat):Int),.int 0,.sl 1 S.ws.length 0 S.ws.length,.sl (6+S.n.ay S.ws.length) S.ws.length 0 S.ws.length,.sl (7+S.n.ay S.ws.length) S.ws.length 0 S.ws.length,.sl (9+S.n.ay S.ws.length) S.ws.length 0 S.ws.length,.sl (10+S.n.ay S.ws.length) S.ws.length 0 S.ws.length],TY):=hF;have IA:=hA.shift b;obtain⟨d,P⟩:∃s,b++TY.map (gm b.length)=s:=⟨_,rfl⟩;have e1:∀Y:List ah,b++(TY.map (gm b.length)++Y)=d++Y:=λY=>by rw[<-P,iw]
 have e2:b.length+TY.length=d.length:=by rw[<-P];simp
 have e3:(b++TY.map (gm b.length)).length=d.length:=by rw[P]
 have eb:∀Y:ah,ak (d ++ [Y]) d.length=some Y:=λY=>gJ;have es:∀Y Z:ah,ar (d ++ [Y]) d.length Z=d ++ [Z]:=λY Z=>yI;have hA1:AS (S.n.dH S.ws.length S.ws.length) (λt=>fp (S.n.ay S.ws.length) t+b.length) d:=by rw[<-P];exact IA
 have hLs:∀Y,ak (d++Y) 3=ak b 3:=λY=>by rw[<-P,iw,fV (dw hL)]
 simp[-ag,-List.map_replicate,hc,hL,al.oJ,RR, iW,km,e1,e2,e3,eb,es,hLs]
 -- what is kept
 have U7:∀i B,(lO (lO O σ.length jX) (σ.length+1) (sw S S.ws.length)) i=some B->jW T (d.length+1) i/\i<b.length:=λi B I=>by
  have h1:=hT.old I;exact⟨⟨by have:=h1.1;omega,h1.2⟩,h1.1⟩
 have hLo:∀i,O i=none\/i<σ.length:=λi=>by
  cases e:O i with
  |none=>exact .inl rfl
  |some B=>exact .inr (dw (h.o i B e).1)
 have hOO:∀i B,O i=some B->(lO (lO O σ.length jX) (σ.length+1) (sw S S.ws.length)) i=some B:=λi B I=>by
  have:=dw (h.o i B I).1;unfold lO;rw[aa (by omega),aa (by omega)];exact I
 have hOs:(lO (lO O σ.length jX) (σ.length+1) (sw S S.ws.length)) (σ.length+1)=some (sw S S.ws.length):=ab rfl;have hOr:(lO (lO O σ.length jX) (σ.length+1) (sw S S.ws.length)) σ.length=some jX:=by
  unfold lO;rw[aa (by omega),ab rfl]
 have hD:HD O (jW T (d.length+1)) b.length d.length (σ.length+1) σ.length:=by
  refine⟨λi i0 i1=>⟨by omega,?_,?_,?_,λe he=>?_⟩,U7 _ _ hOs,U7 _ _ hOr,λi B I=>U7 _ _ (hOO i B I),λi hi=>by have:=hi.1;omega⟩
  .have:=dw hT.m;omega
  .have:=dw hT.l;omega
  .have:=dw hT.c;omega
  .have:=dw (hT.r e he);omega
 have sF:∀{a s J G R:Nat} {A:al},Hs S.tg a s J G R A->∀t B,A.cont (λt=>fp (S.tg.n.ay S.tg.k) t+b.length) t=some B->fp (S.tg.n.ay S.tg.k) t+b.length<d.length:=λhs t B I=>by
  obtain⟨C,hC⟩:=hs.dom I;exact hA1.lt hC
 have TW:b.length<=d.length:=by omega
 have hI0:HI S.tg S O (jW T (d.length+1)) b.length d.length (σ.length+1) σ.length (S.tg.n.dH S.tg.k S.tg.k) T (d ++ [⟨some 10,[.int S.n.calls,.int S.n.af,.int S.n.aj,.int ((S.n.ay S.ws.length:Nat):Int),.int 0,.sl (1+b.length) S.ws.length 0 S.ws.length,.sl (6+S.n.ay S.ws.length+b.length) S.ws.length 0 S.ws.length,.sl (7+S.n.ay S.ws.length+b.length) S.ws.length 0 S.ws.length,.sl (9+S.n.ay S.ws.length+b.length) S.ws.length 0 S.ws.length,.sl (10+S.n.ay S.ws.length+b.length) S.ws.length 0 S.ws.length],.live⟩]):=by
  have hex:∀i B,ak b i=some B->∀Y,ak (d++Y) i=some B:=λi B I Y=>by
   rw[<-P,iw,fV (dw I)];exact I
  exact⟨(hT.ext λi B I=>hex i B I _).dom _,hs,hA1.other λt B I=>fV (hA1.lt I),gJ,hex _ _ (hT.o _ _ hOs).1 _,hex _ _ (hT.o _ _ hOr).1 _,λi B I=>hex _ _ (hT.o _ _ (hOO i B I)).1 _,by simp⟩
 refine aM (λq:Nat×al×Lg×List ah=>[(3,.int q.1)]) (λq=>q.2.2.2) (λq=>q.1<=S.ws.length/\Hs S.tg q.1 q.1 0 0 0 q.2.1/\HI S.tg S O (jW T (d.length+1)) b.length d.length (σ.length+1) σ.length q.2.1 q.2.2.1 q.2.2.2) (λq=>S.ws.length-q.1) (0,S.tg.n.dH S.tg.k S.tg.k,T,_) (by simp[a8]) ⟨by simp,RQ,hI0⟩ ?_
 clear hI0 es eb e1 e2 e3 hLs hF RR IA hL hc U7 hOO hOs hOr;rintro⟨s,A,U,υ⟩ ⟨s0,hH,hI⟩;dsimp only at s0 hH hI ⊢
 by_cases u:s<S.ws.length
 .have Kg:=aO (l:=S.ws) (n:=(s:Int)) (by omega) (by omega)
  obtain⟨U1,υ1,JM,M⟩:=hI.row hD Q TW (sF hH) (Q.ws _ Kg).1 (by have:=(Q.ws _ Kg).2;omega) (hws _ Kg)
  have JK:∀K,si1 (.str (eH (S.row (ix S.ws (s:Int))))) (.int 0) K=K (.ik 4 (ix (S.row (ix S.ws (s:Int))) 0)):=λK=>by
   have hlr:(S.row (ix S.ws (s:Int))).length=S.cs.length:=by simp[Lg.row,al.jV]
   have aph:=Q.cl.1;have h0:0<(S.row (ix S.ws (s:Int))).length:=by omega
   have hb:=tV (n:=S.n) (cs:=S.cs) (w:=ix S.ws (s:Int)) _ (aO (l:=S.row (ix S.ws (s:Int))) (n:=0) (by omega) (by omega))
   rw[Ez];have e:(eH (S.row (ix S.ws (s:Int))))[(0:Int).toNat]? = some (UInt8.ofNat (ix (S.row (ix S.ws (s:Int))) 0).toNat):=by
    unfold eH;rw[fS];have:(S.row (ix S.ws (s:Int)))[(0:Int).toNat]? = some (ix (S.row (ix S.ws (s:Int))) 0):=by
     rw[show((0:Int))=((0:Nat):Int)from rfl,aG h0];exact cO h0
    rw[this];rfl
   rw[e];simp only[aL,Int.le_refl,true_and];rw[TD hb.1 hb.2]
  have u4:=M.bx;have hL1:=M.lm.l;rw[M.sa.1,M.sa.2.1,M.sa.2.2]at hL1;have Kb:=M.as.has .ac _ rfl;rw[show fp (S.tg.n.ay S.tg.k) .ac+b.length=1+b.length from rfl]at Kb;have RT:=hH.la;simp only[oF,pz]at u4 RT;have amR:=M.ln;have zx:∀B,ak (ar υ1 (1+b.length) B) 3=ak υ1 3:=λB=>by
   have:=dw hT.l;exact aK (by omega)
  simp[-ag,-List.map_replicate,u,JM,↓JK,u4,Kb,RT,zx,hL1,al.oJ];have hp1:1+b.length<d.length:=sF hH .ac _ rfl;have hH1:=hH.mh (by rw[oF];exact u)
  have y:=M.set hD (j:=1+b.length) (by omega) hp1 (M.as.mh (l:=A.accept.set s (S.tg.fa s)))
  rw[List.map_set]at y;have Cz:=Q.ok.calls;have hii:=Q.ok.af;have UD:=Q.ok.aj;have hwS:=Q.ws _ Kg;have hfk:∀v,cy (pP 0 (S.ws.map S.row)) (.str (eH (S.row v)))=some (if S.row v∈S.ws.map S.row then some (.int (S.Cv v))else none):=λv=>by
   have:=vw (l:=S.row v) tV 0 (S.ws.map S.row) λx hx=>by
    obtain⟨w,_,rfl⟩:=cB.1 hx;exact tV
   rw[this];simp[Lg.Cv]
  have hkf:∀x,aW 1 (.str x)=true:=λ_=>rfl;have Js:sw S S.ws.length=⟨some 0,[],.map (pP 0 (S.ws.map S.row))⟩:=by
   unfold sw;rw[fc (aT _)]
  have e2:ix (List.range S.ws.length) (s:Int)=s:=by rw[aG (by simpa using u)];simp
  have e3:ix (List.range S.ws.length) (0+(s:Int)*1)=s:=by rw[<-e2];congr 1;omega
  refine aM (λq:Nat×al×Lg×List ah=>[(11,.int q.1)]) (λq=>q.2.2.2) (λq=>q.1<=S.n.af.toNat/\Hs S.tg (s+1) s q.1 0 0 q.2.1/\HI S.tg S O (jW T (d.length+1)) b.length d.length (σ.length+1) σ.length q.2.1 q.2.2.1 q.2.2.2) (λq=>S.n.af.toNat-q.1) (0,_,U1,_) (by simp[a8];rfl) ⟨by simp,hH1,y⟩ ?_
  clear y M hL1 zx u4 Kb RT amR JM hI hH hH1;rintro⟨j,A2,U2,υ2⟩ ⟨j0,E,y⟩;dsimp only at j0 E y ⊢
  by_cases hj:j<S.n.af.toNat
  .have D6:(j:Int)<S.n.af:=by omega
   have Lz:=aB D6;have hbh:=TJ y.lm (by rw[y.sa.1];exact Q.ok) (ix S.ws (s:Int)) j (by omega) (by rw[y.sa.1];exact D6) (by omega)
   rw[y.sa.1]at hbh;have hm:=jY _ (amM (xs:=S.ws) Kg D6);obtain⟨U3,υ3,hc3,z⟩:=y.row hD Q TW (sF E) (amO Q.ok hwS.1 D6) (by simp;omega) hm.1
   have W:=hfk (ix S.ws (s:Int) ++ [S.n.calls+(j:Int)]);rw[ab hm.2]at W;have hb3:=z.bx;have hs3:=z.st;rw[Js]at hs3;have II:=amJ z.as E ru;have BC:=z.as.has (.rw .aH s) _ (ab (by rw[show(A2.tb .aH).length=S.ws.length from E.li];exact u))
   have qC:=E.ph s u;simp only[oF,pz]at hb3 II BC qC;generalize hV:ix S.ws (s:Int) ++ [S.n.calls+(j:Int)]=V at *;simp[-ag,-List.map_replicate,Lz,hbh,hV,hc3,hb3,hs3,II,u,e2,e3,BC,jQ,W,hkf];have hp3:=sF E (.rw .aH s) _ (ab (by rw[show(A2.tb .aH).length=S.ws.length from E.li];exact u))
   have Uk:S.tg.fi s j=S.Cv V:=by
    show S.Cv (S.wd s ++ [S.n.calls+(j:Int)])=_;rw[<-hV];rfl
   have N:=z.set hD (j:=fp (S.tg.n.ay S.tg.k) (.rw .aH s)+b.length) (by omega) hp3 (z.as.mi (by rw[E.li];exact u) (l:=(A2.bp .aH s).set j (S.tg.fi s j)) (by simp))
   have JC:=E.mi (by rw[oF];exact u) (by rw[pz];exact hj)
   refine⟨by omega,qC,by omega,by omega,az (j+1,_,U3,_) (by simp) ?_ ⟨by dsimp only;omega,JC,N⟩ (by dsimp only;omega)⟩
   dsimp only;rw[Zb,List.map_set,Uk];rfl
  .have Lz:=dN (show ¬(j:Int)<S.n.af by omega)
   have ej:j=S.tg.n.af.toNat:=by rw[pz];omega
   rw[ej]at E;have zx:=y.lm.l;rw[y.sa.1,y.sa.2.1,y.sa.2.2]at zx;simp[-ag,-List.map_replicate,Lz,zx,al.oJ];refine aM (λq:Nat×al×Lg×List ah=>[(15,.int q.1)]) (λq=>q.2.2.2) (λq=>q.1<=S.ws.length/\Hs S.tg (s+1) s S.tg.n.af.toNat (q.1*S.tg.n.calls.toNat) 0 q.2.1/\HI S.tg S O (jW T (d.length+1)) b.length d.length (σ.length+1) σ.length q.2.1 q.2.2.1 q.2.2.2) (λq=>S.ws.length-q.1) (0,A2,U2,υ2) (by simp[a8]) ⟨by simp,by simpa using E,y⟩ ?_
   clear y zx E;rintro⟨p,A3,U3,υ3⟩ ⟨p0,TZ,z⟩;dsimp only at p0 TZ z ⊢
   by_cases hp:p<S.ws.length
   .have hwp:=aO (l:=S.ws) (n:=(p:Int)) (by omega) (by omega)
    have hwP:=Q.ws _ hwp;have hL3:=z.lm.l;rw[z.sa.1,z.sa.2.1,z.sa.2.2]at hL3;simp[-ag,-List.map_replicate,hp,hL3,al.oJ];refine aM (λq:Nat×al×Lg×List ah=>[(18,.int q.1)]) (λq=>q.2.2.2) (λq=>q.1<=S.n.calls.toNat/\Hs S.tg (s+1) s S.tg.n.af.toNat (p*S.tg.n.calls.toNat+q.1) 0 q.2.1/\HI S.tg S O (jW T (d.length+1)) b.length d.length (σ.length+1) σ.length q.2.1 q.2.2.1 q.2.2.2) (λq=>S.n.calls.toNat-q.1) (0,A3,U3,υ3) (by simp[a8]) ⟨by simp,TZ,z⟩ ?_
    clear z hL3 TZ;rintro⟨c,A4,U4,υ4⟩ ⟨c0,JC,N⟩;dsimp only at c0 JC N ⊢
    by_cases hc:c<S.n.calls.toNat
    .have C8:(c:Int)<S.n.calls:=by omega
     have hct:=aB C8;have hL4:=N.lm.l;rw[N.sa.1,N.sa.2.1,N.sa.2.2]at hL4;simp[-ag,-List.map_replicate,hct,hL4,al.oJ];refine aM (λq:Nat×al×Lg×List ah=>[(20,.int q.1)]) (λq=>q.2.2.2) (λq=>q.1<=S.n.aj.toNat/\Hs S.tg (s+1) s S.tg.n.af.toNat (p*S.tg.n.calls.toNat+c) q.1 q.2.1/\HI S.tg S O (jW T (d.length+1)) b.length d.length (σ.length+1) σ.length q.2.1 q.2.2.1 q.2.2.2) (λq=>S.n.aj.toNat-q.1) (0,A4,U4,υ4) (by simp[a8]) ⟨by simp,JC,N⟩ ?_
     clear N hL4 JC;rintro⟨r,A5,U5,υ5⟩ ⟨r0,D,X⟩;dsimp only at r0 D X ⊢
     by_cases hr:r<S.n.aj.toNat
     .have C9:(r:Int)<S.n.aj:=by omega
      have PY:=aB C9;have BT:=TK X.lm (by rw[X.sa.1];exact Q.ok) (ix S.ws (p:Int)) (ix S.ws (s:Int)) c r (by omega) (by rw[X.sa.1];exact C8) (by omega) (by rw[X.sa.1];exact C9) (by omega) (by omega)
      rw[X.sa.1]at BT;have hm:=jY _ (amN (xs:=S.ws) hwp Kg C8 C9);obtain⟨U6,υ6,hc6,H⟩:=X.row hD Q TW (sF D) (amP Q.ok hwP.1 hwS.1 C8 C9) (by simp;omega) hm.1
      have W:=hfk (ix S.ws (p:Int)++(c:Int)::(ix S.ws (s:Int) ++ [S.n.calls+S.n.af+(r:Int)]));rw[ab hm.2]at W;have hb6:=H.bx;have hs6:=H.st;have hL6:=H.lm.l;rw[H.sa.1,H.sa.2.1,H.sa.2.2]at hL6;rw[Js]at hs6;have C4:=amK H.as D ru;have B3:=amL H.as D (i:=s) (by rw[oF];exact u)
      have hG:p*S.tg.n.calls.toNat+c<S.tg.n.ay S.tg.k:=by
       rw[pz,oF];have h1:p*S.n.calls.toNat+S.n.calls.toNat<=S.ws.length*S.n.calls.toNat:=by rw[<-Nat.succ_mul];exact kS _ (by omega)
       show _<max 1 (S.ws.length*S.n.calls.toNat);omega
      have hGi:(p:Int)*S.n.calls+(c:Int)=((p*S.n.calls.toNat+c:Nat):Int):=by rw[Int.natCast_add,iI];congr 2;omega
      have Ic:S.n.ay S.ws.length<=128:=by show max 1 (S.ws.length*S.n.calls.toNat)<=128;omega
      have IJ:=H.as.has (.pg s (p*S.tg.n.calls.toNat+c)) _ (ab ⟨by rw[D.lp];exact u,by rw[D.mq s u];exact hG⟩)
      have hp6:=sF D (.pg s (p*S.tg.n.calls.toNat+c)) _ (ab ⟨by rw[D.lp];exact u,by rw[D.mq s u];exact hG⟩)
      have T1:=D.pj s _ u hG;have HZ:0<=(p:Int)*S.n.calls/\(p:Int)*S.n.calls<=128:=by
       have e:(p:Int)*S.n.calls=((p*S.n.calls.toNat:Nat):Int):=by rw[iI];congr 1;omega
       have:p*S.tg.n.calls.toNat=p*S.n.calls.toNat:=rfl;have:S.tg.n.ay S.tg.k=S.n.ay S.ws.length:=rfl;omega
      have UT:S.tg.qq s (p*S.tg.n.calls.toNat+c) r=S.Cv (ix S.ws (p:Int)++(c:Int)::(ix S.ws (s:Int) ++ [S.n.calls+S.n.af+(r:Int)])):=by
       unfold Cu.qq;rw[pz,aa (by omega)]
       show S.Cv (S.wd ((p*S.n.calls.toNat+c)/S.n.calls.toNat)++(((p*S.n.calls.toNat+c)%S.n.calls.toNat:Nat):Int)::(S.wd s ++ [S.n.calls+S.n.af+(r:Int)]))=_;rw[show(p*S.n.calls.toNat+c)/S.n.calls.toNat=p from by rw[jd,Nat.mul_add_div (by omega),rf hc,lW],show(p*S.n.calls.toNat+c)%S.n.calls.toNat=c from by rw[jd,Nat.mul_add_mod,pZ hc]]
       rfl
      have hH7:=D.mj (by rw[oF];exact u) hG (R:=r) (by rw[pz];exact hr)
      have hI7:=H.set hD (j:=fp (S.tg.n.ay S.tg.k) (.pg s (p*S.tg.n.calls.toNat+c))+b.length) (by omega) hp6 (H.as.mj (by rw[D.lp];exact u) (by rw[D.mq s u];exact hG) (l:=(A5.cx s (p*S.tg.n.calls.toNat+c)).set r (S.tg.qq s (p*S.tg.n.calls.toNat+c) r)) (by simp))
      generalize hV:ix S.ws (p:Int)++(c:Int)::(ix S.ws (s:Int) ++ [S.n.calls+S.n.af+(r:Int)])=V at *;simp only[oF,pz]at hb6 C4 B3 IJ T1 hG hp6;have f2:ix (List.range (S.n.ay S.ws.length)) ((p*S.n.calls.toNat+c:Nat):Int)=p*S.n.calls.toNat+c:=by rw[aG (by simpa using hG)];simp
      rw[show S.tg.n.calls.toNat=S.n.calls.toNat from rfl]at hH7 hI7 UT;generalize hgd:p*S.n.calls.toNat+c=g at *;have f3:ix (List.range (S.n.ay S.ws.length)) (0+(g:Int)*1)=g:=by rw[<-f2];congr 1;rw[f2];omega
      simp[-ag,-List.map_replicate,PY,BT,hV,hc6,hb6,hs6,hL6,al.oJ,C4,u,e2,e3,B3,hGi,f2,f3,hG,IJ,W,hkf];refine⟨by omega,by omega,by omega,T1,by omega,by omega,az (r+1,_,U6,_) (by simp) ?_ ⟨by dsimp only;omega,?_,hI7⟩ (by dsimp only;omega)⟩
      .dsimp only
       rw[Zb,List.map_set,UT];rfl
      .subst hgd
       exact hH7
     .have PY:=dN (show ¬(r:Int)<S.n.aj by omega)
      have er:r=S.tg.n.aj.toNat:=by rw[pz];omega
      rw[er]at D;simp[-ag,-List.map_replicate,PY];exact⟨by omega,az (c+1,A5,U5,υ5) (by simp) rfl ⟨by dsimp only;omega,D.yJ,X⟩ (by dsimp only;omega)⟩
    .have hct:=dN (show ¬(c:Int)<S.n.calls by omega)
     have ec:c=S.n.calls.toNat:=by omega
     have epc:p*S.tg.n.calls.toNat+c=(p+1)*S.tg.n.calls.toNat:=by rw[ec,eX,Nat.one_mul];rfl
     rw[epc]at JC;simp[-ag,-List.map_replicate,hct];exact⟨by omega,az (p+1,A4,U4,υ4) (by simp) rfl ⟨by dsimp only;omega,JC,N⟩ (by dsimp only;omega)⟩
   .have ep:p=S.tg.k:=by rw[oF];omega
    rw[ep]at TZ;simp[-ag,-List.map_replicate,hp];exact⟨by omega,az (s+1,A3,U3,υ3) (by simp) rfl ⟨by dsimp only;omega,TZ.yK,z⟩ (by dsimp only;omega)⟩
 .have es:s=S.tg.k:=by rw[oF];omega
  rw[es]at hH;have IH:=hI.rz;have RS:=hI.bx;have qC:σ.length<υ.length:=dw IH;have T4:∀B:ah,ak (ar υ σ.length B) σ.length=some B:=λB=>cv qC;have Aa:=λ(ce:CE) (c0 c1 c2 c3 c4 c5 c6 c7 c8 c9:AV)=>qD (ce:=ce) (σ:=ar υ σ.length ⟨some 10,[c0,c1,c2,c3,c4,c5,c6,c7,c8,c9],.live⟩) (n:=σ.length) (T4 _);have amS:=hH.fin;subst amS;have amT:=hH.bM ru (λt=>fp (S.tg.n.ay S.tg.k) t+b.length);have hln:=hI.ln;have hr0:=hD.r.2;have gY:∀t C,S.tg.qM.cont (λt=>fp (S.tg.n.ay S.tg.k) t+b.length) t=some C->b.length<=fp (S.tg.n.ay S.tg.k) t+b.length/\fp (S.tg.n.ay S.tg.k) t+b.length<d.length:=λt C hC=>⟨by omega,sF hH t C hC⟩
  simp only[oF,pz]at RS;simp[-ag,-Aq,u,RS,IH,T4,Aa];refine⟨U,λt=>fp (S.tg.n.ay S.tg.k) t+b.length,jW T (d.length+1),hI.sa,hI.lm.JB hD.r.1 qC,λi B I=>⟨(hD.o i B I).1,?_⟩,hI.as.other λt C hC=>aK (by have:=(gY t C hC).1;omega),λt C hC=>?_,?_⟩
  .have:=dw (h.o i B I).1
   rw[aK (by omega)];exact hI.ol i B I
  .obtain⟨h1,h2⟩:=gY t C hC
   refine⟨hD.fr _ h1 (Nat.le_of_lt h2),?_,?_⟩
   .show σ.length<fp (S.tg.n.ay S.tg.k) t+b.length
    omega
   .rw[bQ]
    show fp (S.tg.n.ay S.tg.k) t+b.length<_;omega
  .rw[amT];rfl
end Ab
