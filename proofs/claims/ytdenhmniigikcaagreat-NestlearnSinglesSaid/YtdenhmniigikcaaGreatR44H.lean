/- slices.Concat of lists of words; wordset.Union (SepK over fewer texts); and what it leans on. Condition: none. -/
import Derived.Test.YtdenhmniigikcaaGreatN44P
import Derived.Test.YtdenhmniigikcaaGreatFrz
import Derived.Test.YtdenhmniigikcaaGreatN44Y
import Derived.Test.YtdenhmniigikcaaGreatS44W
import Derived.Test.YtdenhmniigikcaaGreatR44C
import Derived.Test.YtdenhmniigikcaaGreatR44A
set_option linter.all false
set_option maxRecDepth 100000
set_option maxHeartbeats 8000000
namespace Ab
def aoH{k n:Nat}:kL k (List.replicate n .ag)=List.replicate n .ag:=by
 induction n with
 |zero=>rfl
 |succ n a=>simp only[sC,kL,js,a]
def aoI (n:Nat) (h:0<n) (a:(n:Int)<=1073741824):L zu [.ag,.int n] []=some (.sl 0 n 0 0,[⟨none,List.replicate n .ag,.live⟩]):=by
 refine Rr (N:=0) ?_;simp only[kq];rw[ad ax,ae ⟨aa,by rw[show(dK:Int)=1073741824 from rfl];exact a⟩]
 simp
def aoJ:L zu [.ag,.int 0] []=some (.ag,[]):=Rr (N:=0) rfl
def kP (ps:List (List (List Int))):List (List Int):=ps.flatten
variable{ps:List (List (List Int))}
def LU{i:Nat}(h:i<ps.length):(kP (ps.take (i+1)))=(kP (ps.take i))++ix ps (i:Int):=by
 unfold kP;rw[nh,db h,List.flatten_append,aB h];simp
def AG(i:Nat):(kP (ps.take i)).length<=(kP ps).length:=by
 have:(kP ps)=(kP (ps.take i))++(kP (ps.drop i)):=by unfold kP;rw[<-List.flatten_append,nm]
 rw[this];simp
def aoK{a b:List (List Int)}{n:Nat}(h:a.length+b.length<=n):putAt (a.map iL++List.replicate (n-a.length) .ag) a.length (b.map iL)=(a++b).map iL++List.replicate (n-(a.length+b.length)) .ag:=by
 unfold putAt;rw[List.take_left' ab,List.drop_append,jY ab]
 simp;omega
def aoL (ps:List (List (List Int))) (H:(ps.length:Int)<=1000000) (h:((kP ps).length:Int)<=1000000):PC HG [.aF false (ps.map b8)]=some (b8 (kP ps)):=by
 refine bZ (akh rfl ?_);simp;refine aK (λi:Nat=>[(1,.int i),(4,.int ((kP (ps.take i)).length:Int))]) (λ_=>[]) (λi=>i<=ps.length) (λi=>ps.length-i) 0 (by simp[du,kP]) aa λi i1=>?_
 by_cases o:i<ps.length
 .have e:=LU o
  have s:=AG (ps:=ps) i;have g:=AG (ps:=ps) (i+1);rw[e,aU]at g;have x:((kP (ps.take (i+1))).length:Int)=((kP (ps.take i)).length:Int)+((ix ps (i:Int)).length:Int):=by rw[e,aU];omega
  generalize (kP (ps.take i)).length=A at *;simp[-aj,-List.map_take,o];refine⟨aa,aa,λ_=>⟨aa,aD (i+1) (by simp[-List.map_take,x]) rfl aa aa⟩⟩
 .have C9:ps.take i=ps:=eZ aa
  rw[C9]
  by_cases y:(kP ps).length=0
  .have u:(kP ps)=[]:=dY y
   have l:∀j:Nat,j<ps.length->ix ps (j:Int)=[]:=λj d=>by
    have:=LU d;have g:=AG (ps:=ps) (j+1);rw[this,aU]at g;exact dY aa
   rw[u];simp[-aj,o,aoJ,js];refine aK (λi:Nat=>[(6,.int i)]) (λ_=>[]) (λi=>i<=ps.length) (λi=>ps.length-i) 0 aX aa λj z=>?_
   by_cases d:j<ps.length
   .have B:=l j d
    simp[-aj,d,B];refine⟨aa,aD (j+1) ab rfl aa aa⟩
   .simp[d]
  .have C:=aoI (kP ps).length aa aa
   have D : (ps.length<=i)=True:=az aa
   generalize w:(kP ps)=F at *;simp[-aj,-List.map_replicate,o,C,js,gH,aoH];refine aK (λi:Nat=>[(6,.int i),(9,.sl 0 F.length 0 (kP (ps.take i)).length)]) (λi=>[⟨none,(kP (ps.take i)).map iL++List.replicate (F.length-(kP (ps.take i)).length) .ag,.live⟩]) (λi=>i<=ps.length) (λi=>ps.length-i) 0 (by simp[du,kP]) aa λj z=>?_
   by_cases d:j<ps.length
   .have e:=LU d
    have s:=AG (ps:=ps) j;have g:=AG (ps:=ps) (j+1);rw[e,aU]at g;rw[w]at s g;generalize (kP (ps.take j))=A at *;have q:=aoK (a:=A) (b:=ix ps (j:Int)) (n:=F.length) g
    by_cases p:ix ps (j:Int)=[]
    .have m:(kP (ps.take (j+1)))=A:=by rw[e,p];simp
     simp[-aj,-List.map_replicate,-List.map_take,d,p];refine⟨aa,aa,aa,aD (j+1) (by simp[m]) (by simp only[m]) aa aa⟩
    .have E:0<(ix ps (j:Int)).length:=mR.2 p
     simp[-aj,-List.map_replicate,-List.map_take,d,p];refine⟨aa,aa,λu=>aa,λ_=>⟨aa,aa,aD (j+1) ft (by simp only[e,aU];rw[<-q]) aa aa⟩⟩
   .have r:ps.take j=ps:=eZ aa
    rw[r,w];have G:=tD (σ:=[⟨none,F.map iL,.live⟩]) (fr:=false) (b:=0) (xs:=F) (n:=F.length) (st:=.live) rfl ab rfl
    simp[d,G]
def aoM (ps:List (List (List Int))) (a:(ps.length:Int)<=1000000) (h:((kP ps).length:Int)<=1000000) (b:pH (kP ps)):PC Cc [.aF false (ps.map b8)]=some (b8 (gJ (kP ps))):=by
 refine bZ (aj8 rfl ?_);have d:=aoL ps a h;have e:=T5 (kP ps) aa b
 simp[d,e]
attribute [local simp] oC
theorem aoN{k:Nat}{n:Int}{K:AV->Prop}:sv (.a8 (.ik k n)) none K=K (.ik k n):=rfl
attribute [local simp] aoN EE
def X4 (l:List Int):al:=⟨none,l.map .int,if l=[]then .gN else .live⟩
def Wa{l:List Int}:(fg l).length=l.length:=by simp[fg]
def Wb{x:Int}(a:0<=x) (b:x<=255):((UInt8.ofNat x.toNat).toNat:Int)=x:=by
 have:(UInt8.ofNat x.toNat).toNat=x.toNat:=ax
 rw[this];omega
def Wc (l:List Int) (g:∀x∈l,0<=x/\x<=255) (u:l.length<=100000):PC Co [.str (fg l)]=some (iL l):=by
 refine bZ (akk rfl ?_);have p:=Wa (l:=l);have q:(fg l).map (λb=>AV.ik 4 (b.toNat:Int))=l.map (AV.ik 4):=by
  unfold fg;rw[List.map_map];exact eM λx d=>congrArg (AV.ik 4) (Wb (g x d).1 (g x d).2)
 simp[-aj];rw[q,p];refine aK (λi:Nat=>[(4,.sl 0 i 0 i),(1,.int i)]) (λi=>[X4 (l.take i)]) (λi=>i<=l.length) (λi=>l.length-i) 0 (by simp[du,X4]) aa ?_
 intro i r
 by_cases h:i<l.length
 .have tk:=gx h
  have j:l ≠ []:=λe=>by subst e;simp at h
  have a:min i l.length=i:=ql aa
  have d:=g _ (aJ (l:=l) (n:=(i:Int)) aa aa)
  have m:=az (show(ix l (i:Int))<=9223372036854775807 by omega)
  have o:=az (show(-9223372036854775808:Int)<=(ix l (i:Int))by omega)
  simp[-aj,-List.map_take,h,d.1,o,m,a,X4];exact⟨dE,aa,aa,aD (i+1) ab (by rw[tk];simp[j]) aa aa⟩
 .have ei:i=l.length:=by omega
  subst ei;have s:=nU (σ:=[⟨none,l.map .int,if l=[]then .gN else .live⟩]) (fr:=false) (b:=0) (xs:=l) rfl dE rfl
  simp[-aj,-List.map_take,X4,s]
def ctA (c:List Int×List Int):AV:=.agg [.str (fg c.1),.str (fg c.2)]
def D8 (c:List Int×List Int):Prop:=(∀x∈c.1,0<=x/\x<=255)/\(∀x∈c.2,0<=x/\x<=255)/\c.1.length+c.2.length<=100000
def We (c:List Int×List Int) (d:D8 c) (w:List Int) (m:w.length<=100000):PC HJ [ctA c,iL w]=some (iL (c.1++(w++c.2))):=by
 refine bZ (aki rfl ?_);have i:=Wc c.1 d.1 (by have:=d.2.2;omega)
 have j:=Wc c.2 d.2.1 (by have:=d.2.2;omega)
 have g:=Kb [(false,c.1),(false,w),(false,c.2)] ab (by have:=d.2.2;simp[cat];omega)
 have e:[(false,c.1),(false,w),(false,c.2)].map wB=[iL c.1,iL w,iL c.2]:=by simp[wB]
 rw[e]at g;have z:∀l:List Int,fg l=[]->l=[]:=λl h=>by
  have:=Wa (l:=l);rw[h]at this;exact dY this.symm
 simp[ctA,i,j,g];refine⟨λa b=>by rw[z _ a,z _ b];simp,λ_=>by simp[cat]⟩
structure Lg where
 n:ao
 ws:List (List Int)
 cs:List (List Int×List Int)
 mo:List (List Int×Nat×Nat)
 pc:Nat
def ao.kQ (n:ao):List AV:=[.int n.calls,.int n.ak,.int n.ah,.int n.stack,.int n.start,bL n.accept,b8 n.call,b8 n.push,b8 n.inner,fv n.pop]
def ao.Wf (n:ao) (w:List Int) (c:List Int×List Int):Int:=if(n.acc (c.1++(w++c.2))).1=true then 43 else 45
def ao.E8 (n:ao) (w:List Int) (c:List Int×List Int):Int:=(n.acc (c.1++(w++c.2))).2
def ao.kH (n:ao) (w:List Int):List (List Int×List Int)->Int
 | []=>0
 |c::l=>if n.E8 w c ≠ 0 then n.E8 w c else n.kH w l
def ao.kI (n:ao) (cs:List (List Int×List Int)) (w:List Int):List Int:=cs.map (n.Wf w)
def E9 (n:ao) (cs:List (List Int×List Int)) (w:List Int):AV:=if n.kH w cs=0 then .bM [.str (fg (n.kI cs w)),.int 0]else .bM [.str [],.int (n.kH w cs)]
def D9 (cs:List (List Int×List Int)):List AV:=cs.flatMap λc=>[.str (fg c.1),.str (fg c.2)]
def Wg (cs:List (List Int×List Int)):al:=⟨some 2,D9 cs,.live⟩
def qM (mo:List (List Int×Nat×Nat)):List (AV×AV):=mo.map λe=>(.str (fg e.1),.sl e.2.2 e.2.1 0 e.2.1)
def nO (w:List Int):List (List Int×Nat×Nat)->Option (Nat×Nat)
 | []=>none
 |e::l=>if e.1=w then some e.2 else nO w l
def nP (w:List Int) (q:Nat×Nat):List (List Int×Nat×Nat)->List (List Int×Nat×Nat)
 | []=>[(w,q)]
 |e::l=>if e.1=w then(w,q)::l else e::nP w q l
structure LM (S:Lg) (O:Nat->Option al) (σ:List al):Prop where
 l:aq σ 3=some ⟨some 13,S.n.kQ ++ [b8 S.ws,.sl S.pc (2*S.cs.length) 0 S.cs.length,.cP 2],.live⟩
 m:aq σ 2=some ⟨some 0,[],.map (qM S.mo)⟩
 c:aq σ S.pc=some (Wg S.cs)
 r:∀e∈S.mo,aq σ e.2.2=some ⟨none,((S.n.kI S.cs e.1).take e.2.1).map (.ik 4),.live⟩
 le:∀e∈S.mo,e.2.1<=S.cs.length/\1<=e.2.1/\S.n.kH e.1 (S.cs.take e.2.1)=0
 ok:∀e∈S.mo,dG e.1
 nd:(S.mo.map (·.1)).Nodup
 nb:(S.mo.map (·.2.2)).Nodup
 Ba:S.pc ≠ 2/\S.pc ≠ 3
 xI:∀e∈S.mo,e.2.2 ≠ 2/\e.2.2 ≠ 3/\e.2.2 ≠ S.pc
 o:∀i B,O i=some B->aq σ i=some B/\i ≠ 2/\i ≠ 3/\i ≠ S.pc/\∀e∈S.mo,e.2.2 ≠ i
variable{S:Lg}{O:Nat->Option al}{σ:List al}
def Wh(h:LM S O σ) (a:S.n.Ok) (w:List Int) (i:Int) (m:0<=i) (o:i<S.n.ak) (p:w.length<=100000):L Cd [.ptr 3 13 0,iL w,.int i] σ=some (iL (w ++ [S.n.calls+i]),σ):=by
 refine jP (akb rfl ?_);have b:=h.l;have d:=a.eU;have e:=a.calls;have g:=a.ak;have j:PC uU [.aF false [iL w,.aF false [.int (S.n.calls+i)]]]=some (iL (w ++ [S.n.calls+i])):=by
  have:=Kb [(false,w),(false,[S.n.calls+i])] ab (by simp[cat];omega)
  simp[wB,cat]at this;exact this
 simp[-aj,b,ao.kQ,j];omega
def Wi(h:LM S O σ) (a:S.n.Ok) (w x:List Int) (c r:Int) (m:0<=c) (o:c<S.n.calls) (p:0<=r) (q:r<S.n.ah) (s:w.length<=100000) (u:x.length<=100000):L Ce [.ptr 3 13 0,iL w,.int c,iL x,.int r] σ=some (iL (w++c::(x ++ [S.n.calls+S.n.ak+r])),σ):=by
 refine jP (akc rfl ?_);have b:=h.l;have d:=a.eU;have e:=a.calls;have g:=a.ak;have i:=a.ah;have j:PC uU [.aF false [iL w,.aF false [.int c],iL x,.aF false [.int (S.n.calls+S.n.ak+r)]]]=some (iL (w++c::(x ++ [S.n.calls+S.n.ak+r]))):=by
  have:=Kb [(false,w),(false,[c]),(false,x),(false,[S.n.calls+S.n.ak+r])] ab (by simp[cat];omega)
  simp[wB,cat]at this;exact this
 simp[-aj,b,ao.kQ,j];omega
end Ab
namespace Ab
def ao.nQ (n:ao) (K:List (List Int)) (x:Nat) (i:Int):Nat:=K.idxOf (n.fQ (ix K (x:Int)) i)
def ao.xJ (n:ao) (K:List (List Int)) (x:Nat) (c:Int) (y:Nat) (r:Int):Nat:=K.idxOf (n.jo n.bz (ix K (x:Int)) (ix K (y:Int)) c r)
def ao.jR (n:ao) (K:List (List Int)) (x y j:Nat):Nat:=n.xJ K x ((j/n.ah.toNat:Nat):Int) y ((j%n.ah.toNat:Nat):Int)
def ao.lU (n:ao) (K:List (List Int)) (x:Nat):Bool:=ix n.accept (ix (ix K (x:Int)) 0)
def ao.RX (n:ao) (K:List (List Int)) (x:Nat) (w:List Int):Prop:=n.rV (ix K (x:Int)) w
section
variable{n:ao}{K:List (List Int)}
def jQ.x4 (hF:jQ n K){v:List Int}(h:v∈K):K.idxOf v<K.length/\ix K ((K.idxOf v:Nat):Int)=v:=by
 have h1:=List.idxOf_lt_length_iff.2 h;exact⟨h1,by rw[aB h1];exact List.getElem_idxOf h1⟩
variable{x:Nat}
def jQ.im (hF:jQ n K){i:Int}(hx:x<K.length) (i0:0<=i) (i1:i<n.ak):n.nQ K x i<K.length/\∀w,n.RX K x w->n.RX K (n.nQ K x i) (w ++ [n.calls+i]):=by
 obtain⟨a,b⟩:=hF.x4 (hF.c x hx _ (D3.2 (.inl ⟨i.toNat,aa,rfl⟩)))
 rw[show((i.toNat:Nat):Int)=i by omega]at a b
 refine⟨a,λw hw=>?_⟩;unfold ao.RX ao.nQ;rw[b];exact V4 hw i0 i1
variable{y:Nat}{r:Int}
def jQ.bk (hF:jQ n K) (hn:n.Ok){c:Int}(hx:x<K.length) (hy:y<K.length) (c0:0<=c) (c1:c<n.calls) (r0:0<=r) (r1:r<n.ah):n.xJ K x c y r<K.length/\∀w u,n.RX K x w->n.RX K y u->n.RX K (n.xJ K x c y r) (w++c::(u ++ [n.calls+n.ak+r])):=by
 have hm:n.jo n.bz (ix K (x:Int)) (ix K (y:Int)) c r∈K:=by
  have ec:((c.toNat:Nat):Int)=c:=aa
  have er:((r.toNat:Nat):Int)=r:=aa
  by_cases h:y<=x
  .exact hF.c x hx _ (D3.2 (.inr ⟨y,c.toNat,r.toNat,h,aa,aa,.inl (by rw[ec,er])⟩))
  .exact hF.c y hy _ (D3.2 (.inr ⟨x,c.toNat,r.toNat,aa,aa,aa,.inr (by rw[ec,er])⟩))
 obtain⟨a,b⟩:=hF.x4 hm;refine⟨a,λw u hw hu=>?_⟩;unfold ao.RX ao.xJ;rw[b];exact LP hn hw hu c0 c1 r0 r1
def jQ.zero (hF:jQ n K):n.RX K 0 []:=by
 unfold ao.RX;rw[show((0:Nat):Int)=0 from rfl,hF.k.h0.2];exact V3
variable{w:List Int}
def jQ.all (hF:jQ n K) (hn:n.Ok)(h:Ww n.cK w):∃x,x<K.length/\n.RX K x w:=by
 induction h with
 |nil=>exact⟨0,hF.k.h0.1,hF.zero⟩
 |aQ w i i0 i1 _ ih=>
  obtain⟨x,hx,hw⟩:=ih;exact⟨_,(hF.im hx i0 i1).1,(hF.im hx i0 i1).2 w hw⟩
 |aq w u c r c0 c1 r0 r1 _ _ nw oz=>
  obtain⟨x,hx,hw⟩:=nw;obtain⟨y,hy,hu⟩:=oz;exact⟨_,(hF.bk hn hx hy c0 c1 r0 r1).1,(hF.bk hn hx hy c0 c1 r0 r1).2 w u hw hu⟩
def jQ.word (hF:jQ n K)(hx:x<K.length):∃w,n.RX K x w:=hF.k.w _ (aJ aa aa)
def jQ.oN (hF:jQ n K) (hn:n.Ok)(hx:x<K.length) (hy:y<K.length) (h:n.RX K x w) (g:n.RX K y w):x=y:=by
 have:=aoC hn h g;rw[aB hx,aB hy]at this;exact(rN hF.k.nd).1 this
def RX.bh (hn:n.Ok)(h:n.RX K x w):n.bh w↔n.lU K x=true:=by
 have h0:=V1 (n:=n);have hd:=h.d 0 h0.1;rw[show((0:Nat):Int)=0 from rfl,h0.2]at hd;exact⟨λ⟨t,ht,ha⟩=>by unfold ao.lU;rw[hd.oN hn.m0 ht];exact ha,λha=>⟨_,hd,ha⟩⟩
structure ao.j6 (n:ao) (K:List (List Int)) (cls:List Int) (x y:Nat):Prop where
 e:ix cls (x:Int)=ix cls (y:Int)
 i:∀i:Nat,i<n.ak.toNat->ix cls (n.nQ K x (i:Int):Int)=ix cls (n.nQ K y (i:Int):Int)
 b:∀k j:Nat,k<K.length->j<n.calls.toNat*n.ah.toNat->ix cls (n.jR K x k j:Int)=ix cls (n.jR K y k j:Int)/\ix cls (n.jR K k x j:Int)=ix cls (n.jR K k y j:Int)
def j6.refl{cls:List Int}:n.j6 K cls x x:=⟨rfl,λ_ _=>rfl,λ_ _ _ _=>⟨rfl,rfl⟩⟩
def j6.symm{cls:List Int}(h:n.j6 K cls x y):n.j6 K cls y x:=⟨h.e.symm,λi hi=>(h.i i hi).symm,λk j hk hj=>⟨(h.b k j hk hj).1.symm,(h.b k j hk hj).2.symm⟩⟩
variable{z:Nat}
def j6.trans{cls:List Int}(h:n.j6 K cls x y) (g:n.j6 K cls y z):n.j6 K cls x z:=⟨h.e.trans g.e,λi hi=>(h.i i hi).trans (g.i i hi),λk j hk hj=>⟨(h.b k j hk hj).1.trans (g.b k j hk hj).1,(h.b k j hk hj).2.trans (g.b k j hk hj).2⟩⟩
def xL{c r:Nat}(a:r<n.ah.toNat):n.jR K x y (c*n.ah.toNat+r)=n.xJ K x (c:Int) y (r:Int):=by
 unfold ao.jR;rw[mO,Nat.mul_add_div aa,Nat.div_eq_of_lt a,kf,Nat.mul_add_mod,Nat.mod_eq_of_lt a]
def j6.bk{cls:List Int}(h:n.j6 K cls x y){c:Int}(hz:z<K.length) (c0:0<=c) (c1:c<n.calls) (r0:0<=r) (r1:r<n.ah):ix cls (n.xJ K x c z r:Int)=ix cls (n.xJ K y c z r:Int)/\ix cls (n.xJ K z c x r:Int)=ix cls (n.xJ K z c y r:Int):=by
 have hj:c.toNat*n.ah.toNat+r.toNat<n.calls.toNat*n.ah.toNat:=by
  have:(c.toNat+1)*n.ah.toNat<=n.calls.toNat*n.ah.toNat:=lr _ aa
  rw[Nat.succ_mul]at this;omega
 have:=h.b z _ hz hj;rw[xL aa,xL aa,xL aa,xL aa,show((c.toNat:Nat):Int)=c by omega,show((r.toNat:Nat):Int)=r by omega]at this
 exact this
end
open Classical in
noncomputable def ff (R:Nat->Nat->Prop) (x:Nat):Nat:=((List.range (x+1)).find? λy=>decide (R y x)).getD x
variable{R:Nat->Nat->Prop}{x:Nat}
def tQ(j:R x x):R (ff R x) x/\ff R x<=x/\∀y,y<ff R x->¬R y x:=by
 classical
 unfold ff;cases h:(List.range (x+1)).find? λy=>decide (R y x)with
 |none=>
  have:=List.find?_eq_none.1 h x ab
  simp at this;exact absurd j this
 |some y=>
  have g:=List.find?_some h;have p:=bQ.1 (List.mem_of_find?_eq_some h);simp at g;refine⟨g,by show y<=x;omega,λz l m=>?_⟩
  obtain⟨_,as,q,e,n⟩:=List.find?_eq_some_iff_append.1 h;have o : z<y:=l;have b:z∈List.range (x+1):=bQ.2 aa
  rw[e]at b;rcases cY.1 b with a|a
  .have:=n z a
   simp at this;exact this m
  .rcases b5.1 a with rfl|d
   .omega
   .have i:(List.range (x+1)).Pairwise (·< ·):=List.pairwise_lt_range
    rw[e,List.pairwise_append]at i;have:=(ku.1 i.2.1).1 z d;omega
variable{y:Nat}
def AH(b:R x x) (h:R y x) (d:∀z,z<y->¬R z x):ff R x=y:=by
 obtain⟨e,i,g⟩:=tQ b;rcases Nat.lt_trichotomy (ff R x) y with a|a|a
 .exact absurd e (d _ a)
 .exact a
 .exact absurd h (g _ a)
noncomputable def de (R:Nat->Nat->Prop) (N:Nat):List Int:=(List.range N).map λx=>((ff R x:Nat):Int)
variable{N:Nat}
def sh:(de R N).length=N:=by simp[de]
def AI(h:x<N):ix (de R N) (x:Int)=((ff R x:Nat):Int):=by
 rw[aB (by rw[sh];exact h)];simp[de]
structure yj (R:Nat->Nat->Prop):Prop where
 r:∀x,R x x
 s:∀x y,R x y->R y x
 t:∀x y z,R x y->R y z->R x z
def yj.ye(h:yj R):ff R x=ff R y↔R x y:=by
 obtain⟨a1,a2,a3⟩:=tQ (h.r x);obtain⟨b1,b2,b3⟩:=tQ (h.r y);constructor
 .intro e
  rw[e]at a1;exact h.t _ _ _ (h.s _ _ a1) b1
 .intro e
  exact AH (h.r x) (h.t _ _ _ b1 (h.s _ _ e)) λz hz hR=>b3 z hz (h.t _ _ _ hR e)
def yj.ix(h:yj R)(hx:x<N) (hy:y<N):ix (de R N) (x:Int)=ix (de R N) (y:Int)↔R x y:=by
 rw[AI hx,AI hy,<-h.ye];omega
def j6.eqr{n:ao}{K:List (List Int)}{cls:List Int}:yj (n.j6 K cls):=⟨λ_=>j6.refl,λ_ _ h=>j6.symm h,λ_ _ _ h g=>j6.trans h g⟩
structure Bb (n:ao) (K:List (List Int)) (R:Nat->Nat->Prop):Prop where
 q:yj R
 s:∀x y,x<K.length->y<K.length->¬R x y->∀u v,n.RX K x u->n.RX K y v->Sep n.cK n.bh u v
 a:∀x y,x<K.length->y<K.length->R x y->n.lU K x=n.lU K y
section
variable{n:ao}{K:List (List Int)}
def Bb.start (hn:n.Ok):Bb n K λx y=>n.lU K x=n.lU K y:=by
 refine⟨⟨λ_=>rfl,λ_ _ h=>h.symm,λ_ _ _ h g=>h.trans g⟩,λx y hx hy hR u v hu hv=>.acc _ _ λe=>hR ?_,λ_ _ _ _ h=>h⟩;have h1:=RX.bh hn hu;have h2:=RX.bh hn hv;rw[h1,h2]at e;cases h:n.lU K x<;>cases g:n.lU K y<;>simp_all
variable{R:Nat->Nat->Prop}
def Bb.next (hF:jQ n K) (hn:n.Ok)(h:Bb n K R):Bb n K (n.j6 K (de R K.length)):=by
 have key:∀x y,x<K.length->y<K.length->ix (de R K.length) (x:Int) ≠ ix (de R K.length) (y:Int)->∀u v,n.RX K x u->n.RX K y v->Sep n.cK n.bh u v:=λx y hx hy eP=>h.s x y hx hy λhR=>eP ((h.q.ix hx hy).2 hR);refine⟨j6.eqr,λx y hx hy hR u v hu hv=>?_,λx y hx hy hR=>h.a x y hx hy ((h.q.ix hx hy).1 hR.e)⟩;refine dF λhS=>hR ⟨?_,λi hi=>?_,λk j hk hj=>?_⟩
 .exact dF λe=>hS (key x y hx hy e u v hu hv)
 .refine dF λe=>hS ?_
  obtain⟨a1,a2⟩:=hF.im (i:=(i:Int)) hx aa aa
  obtain⟨b1,b2⟩:=hF.im (i:=(i:Int)) hy aa aa
  exact .aQ _ _ (i:Int) aa (by show(i:Int)<n.ak;omega) (key _ _ a1 b1 e _ _ (a2 u hu) (b2 v hv))
 .have Fa:0<n.ah.toNat:=by
   rcases uk n.ah.toNat with e|e
   .rw[e]at hj;omega
   .exact e
  have hc:j/n.ah.toNat<n.calls.toNat:=(oV Fa).2 hj;have hr:j%n.ah.toNat<n.ah.toNat:=l6 _ Fa;obtain⟨w,hw⟩:=hF.word hk;unfold ao.jR;generalize j/n.ah.toNat=c at *;generalize j%n.ah.toNat=r at *;obtain⟨a1,a2⟩:=hF.bk hn (c:=(c:Int)) (r:=(r:Int)) hx hk aa aa aa aa
  obtain⟨b1,b2⟩:=hF.bk hn (c:=(c:Int)) (r:=(r:Int)) hy hk aa aa aa aa
  obtain⟨c1,c2⟩:=hF.bk hn (c:=(c:Int)) (r:=(r:Int)) hk hx aa aa aa aa
  obtain⟨d1,d2⟩:=hF.bk hn (c:=(c:Int)) (r:=(r:Int)) hk hy aa aa aa aa
  exact⟨dF λe=>hS (.bl _ _ w (c:Int) (r:Int) aa (by show(c:Int)<n.calls;omega) aa (by show(r:Int)<n.ah;omega) hw.ww (key _ _ a1 b1 e _ _ (a2 u w hu hw) (b2 v w hv hw))),
   dF λe=>hS (.br _ _ w (c:Int) (r:Int) aa (by show(c:Int)<n.calls;omega) aa (by show(r:Int)<n.ah;omega) hw.ww (key _ _ c1 d1 e _ _ (c2 w u hw hu) (d2 w v hw hv)))⟩
structure oQ (n:ao) (K:List (List Int)) (cls:List Int):Prop where
 l:cls.length=K.length
 a:∀x y u v,x<K.length->y<K.length->n.RX K x u->n.RX K y v->(jw n.cK n.bh u v↔ix cls (x:Int)=ix cls (y:Int))
 m:∀x,x<K.length->∃y:Nat,ix cls (x:Int)=y/\y<=x/\ix cls (y:Int)=y
def Bb.stop (hF:jQ n K) (hn:n.Ok)(h:Bb n K R) (he:de (n.j6 K (de R K.length)) K.length=de R K.length):oQ n K (de R K.length):=by
 have hR:∀x y,x<K.length->y<K.length->R x y->n.j6 K (de R K.length) x y:=λx y hx hy hR=>by
  rw[<-h.q.ix hx hy,<-he]at hR;exact(j6.eqr.ix hx hy).1 hR
 have key:∀u v,Sep n.cK n.bh u v->∀x y,x<K.length->y<K.length->n.RX K x u->n.RX K y v->¬R x y:=by
  intro u v hs
  induction hs with
  |acc u v ha=>
   intro x y hx hy hu hv e;have:=h.a x y hx hy e;exact ha (by rw[RX.bh hn hu,RX.bh hn hv,this])
  |aQ u v i i0 i1 _ ih=>
   intro x y hx hy hu hv e;obtain⟨a1,a2⟩:=hF.im hx i0 i1;obtain⟨b1,b2⟩:=hF.im hy i0 i1;have:=(hR x y hx hy e).i i.toNat (by have:i<n.ak:=i1;omega)
   rw[show((i.toNat:Nat):Int)=i by omega,h.q.ix a1 b1]at this
   exact ih _ _ a1 b1 (a2 u hu) (b2 v hv) this
  |bl u v w c r c0 c1 r0 r1 hw _ ih=>
   intro x y hx hy hu hv e;obtain⟨z,hz,LV⟩:=hF.all hn hw;obtain⟨a1,a2⟩:=hF.bk hn hx hz c0 c1 r0 r1;obtain⟨b1,b2⟩:=hF.bk hn hy hz c0 c1 r0 r1;have:=(j6.bk (hR x y hx hy e) hz c0 c1 r0 r1).1;rw[h.q.ix a1 b1]at this;exact ih _ _ a1 b1 (a2 u w hu LV) (b2 v w hv LV) this
  |br u v w c r c0 c1 r0 r1 hw _ ih=>
   intro x y hx hy hu hv e;obtain⟨z,hz,LV⟩:=hF.all hn hw;obtain⟨a1,a2⟩:=hF.bk hn hz hx c0 c1 r0 r1;obtain⟨b1,b2⟩:=hF.bk hn hz hy c0 c1 r0 r1;have:=(j6.bk (hR x y hx hy e) hz c0 c1 r0 r1).2;rw[h.q.ix a1 b1]at this;exact ih _ _ a1 b1 (a2 w u LV hu) (b2 w v LV hv) this
 refine⟨sh,λx y u v hx hy hu hv=>?_,λx hx=>?_⟩
 .rw[h.q.ix hx hy]
  exact⟨λha=>dF λe=>ha (h.s x y hx hy e u v hu hv),λe hs=>key u v hs x y hx hy hu hv e⟩
 .obtain⟨h1,h2,_⟩:=tQ (h.q.r x)
  refine⟨ff R x,AI hx,h2,?_⟩;rw[AI aa]
  have:=(h.q.ye (x:=ff R x) (y:=x)).2 h1;omega
end
end Ab
namespace Ab
def ao.iW (n:ao) (K:List (List Int)) (x:Nat):List Int:=(List.range n.ak.toNat).map λ(i:Nat)=>((n.nQ K x (i:Int):Nat):Int)
def ao.sP (n:ao) (K:List (List Int)) (x y:Nat):List Int:=(List.range (n.calls.toNat*n.ah.toNat)).map λj=>((n.jR K x y j:Nat):Int)
def ao.ll (n:ao) (K:List (List Int)) (x:Nat):List (List Int):=(List.range K.length).map (n.sP K x)
def ao.sys (n:ao) (K:List (List Int)):AV:=.agg (n.kQ ++ [bL ((List.range K.length).map (n.lU K)),b8 ((List.range K.length).map (n.iW K)),fv ((List.range K.length).map (n.ll K))])
def Wj:al:=⟨some 13,[.int 0,.int 0,.int 0,.int 0,.int 0,.ag,.ag,.ag,.ag,.ag,.ag,.ag,.ag],.live⟩
def wL (l:List (List Int)):AV:=.aF (decide (l ≠ [])) (l.map iL)
structure X5 (n:ao) (K:List (List Int)) (v m:Nat) (σ:List al):Prop where
 r:aq σ 0=some Wj
 x:∃a b c,aq σ 1=some ⟨some 13,n.kQ ++ [cu a v,cu b v,cu c v],.live⟩/\1<m/\(v ≠ 0->aq σ a=some ⟨none,((List.range v).map (n.lU K)).map .bool,.live⟩/\aq σ b=some ⟨none,((List.range v).map (n.iW K)).map wI,.live⟩/\aq σ c=some ⟨none,((List.range v).map (n.ll K)).map wL,.live⟩/\(1<a/\1<b/\1<c/\a ≠ b/\a ≠ c/\b ≠ c)/\a<m/\b<m/\c<m)
variable{m:Nat}{σ:List al}
def X5.tK{n:ao}{K:List (List Int)}{v:Nat}{τ:List al}(h:X5 n K v m σ) (hk:∀i,i<m->aq τ i=aq σ i):X5 n K v m τ:=by
 obtain⟨a,b,c,h1,h0,h2⟩:=h.x;exact⟨by rw[hk 0 aa];exact h.r,a,b,c,by rw[hk 1 h0];exact h1,h0,λhv=>by
  obtain⟨p,q,r,s,s1,s2,s3⟩:=h2 hv;exact⟨by rw[hk _ s1];exact p,by rw[hk _ s2];exact q,by rw[hk _ s3];exact r,s,s1,s2,s3⟩⟩
abbrev wiB (ws:List (List Int)):al:=⟨none,ws.map wI,if ws=[]then .gN else .live⟩
def aoO{vars:List AV}{d:Option (Nat×AV)}{k b n:Nat}{ws:List (List Int)}{Q:Ex->St->Prop}(a:aq σ b=some ⟨none,ws.map wI,if ws=[]then .gN else .live⟩) (i:nth vars k = .sl b n 0 n) (e:n=ws.length) (h:Q .eQ ⟨eu vars k (wL ws),d,ar σ b ⟨none,ws.map wI,.dead⟩⟩):W L (.ji k) ⟨vars,d,σ⟩ Q:=by
 have j:reach σ vd (.sl b n 0 n) []=[b]:=by
  show reach σ (11+1) (.sl b n 0 n) []=[b];unfold reach;simp only[List.contains_nil,ef,eI,a];have:∀(ws:List (List Int)) (acc:List Nat),(ws.map wI).foldl (λacc y=>reach σ 11 y acc) acc=acc:=λws=>by
   induction ws with
   |nil=>exact λ_=>rfl
   |cons w ws l=>exact λacc=>by simp only[cS,jW];exact l acc
  exact this ws [b]
 have hd:=zY (n:=0) a;rw[gX]at hd;have m:view (bG (λc=>!([b]:List Nat).contains c) 0 σ) false vd (.sl b n 0 n)=some (b8 ws):=by
  refine dQ (k:=11) (f:=wI) (g:=iL) (xs:=ws) (st:=if ws=[]then .gN else .live) ?_ dE e λ_ _=>rfl
  rw[lL,a];simp
 have o:eE σ (.sl b n 0 n)=decide (ws ≠ []):=by
  have:upto σ b n=some ⟨none,ws.map wI,if ws=[]then .gN else .live⟩:=by
   refine qz a ft ?_
   show fb.fG (if ws=[]then .gN else .live)=true
   split<;>rfl
  simp only[eE,this]
  by_cases h:ws=[]<;>simp[h]
 refine⟨0,.eQ,_,?_,h⟩;simp only[exec,i,j,m,o,hd]
 by_cases h:ws=[]<;>simp[h,wL]<;>rfl
def Fb{f:Nat}{a:List AV}{l:List Int}(h:L f a []=some (.sl 0 m 0 m,[bp l])) (b:l.length=m):PC f a=some (iL l):=by
 unfold PC rW;rw[h];subst b;exact Dc rfl
section
variable{υ:List al}{A X B Y C W:al}
def Ea:(ar (ar (ar (υ ++ [A]) 1 X ++ [B]) 1 Y ++ [C]) 1 W).length=υ.length+3:=by
 rw[aY,aU,aY,aU,aY];simp
def aoP{i:Nat}(a:i<υ.length) (b:i ≠ 1):aq (ar (ar (ar (υ ++ [A]) 1 X ++ [B]) 1 Y ++ [C]) 1 W) i=aq υ i:=by
 rw[aA aa,dH (by rw[aY,aU,aY];simp;omega),aA aa,dH (by rw[aY];simp;omega),aA aa,dH a]
def aoQ (h:1<υ.length):aq (ar (ar (ar (υ ++ [A]) 1 X ++ [B]) 1 Y ++ [C]) 1 W) 1=some W:=bU (by rw[aU,aY,aU,aY];simp)
def aoR (h:1<υ.length):aq (ar (ar (ar (υ ++ [A]) 1 X ++ [B]) 1 Y ++ [C]) 1 W) υ.length=some A:=by
 rw[aA aa,dH (by rw[aY,aU,aY];simp;omega),aA aa,dH (by rw[aY];simp),aA aa]
 exact jn rfl
def aoS (h:1<υ.length):aq (ar (ar (ar (υ ++ [A]) 1 X ++ [B]) 1 Y ++ [C]) 1 W) (υ.length+1)=some B:=by
 rw[aA aa,dH (by rw[aY,aU,aY];simp),aA aa]
 exact jn (by rw[aY];simp)
def aoT (h:1<υ.length):aq (ar (ar (ar (υ ++ [A]) 1 X ++ [B]) 1 Y ++ [C]) 1 W) (υ.length+2)=some C:=by
 rw[aA aa]
 exact jn (by rw[aY,aU,aY];simp)
variable{a b c:Nat}
def Eb:(ar (ar (ar (ar (ar (ar υ a A) 1 X) b B) 1 Y) c C) 1 W).length=υ.length:=by simp only[aY]
def Wk{i:Nat}(h:i ≠ 1/\i ≠ a/\i ≠ b/\i ≠ c):aq (ar (ar (ar (ar (ar (ar υ a A) 1 X) b B) 1 Y) c C) 1 W) i=aq υ i:=by
 rw[aA aa,aA aa,aA aa,aA aa,aA aa,aA aa]
def Wl (h:1<υ.length):aq (ar (ar (ar (ar (ar (ar υ a A) 1 X) b B) 1 Y) c C) 1 W) 1=some W:=bU (by simp only[aY];exact h)
def Wm (h:a<υ.length) (d:a ≠ 1/\a ≠ b/\a ≠ c):aq (ar (ar (ar (ar (ar (ar υ a A) 1 X) b B) 1 Y) c C) 1 W) a=some A:=by
 rw[aA aa,aA aa,aA aa,aA aa,aA aa]
 exact bU h
def Wn (h:b<υ.length) (d:b ≠ 1/\b ≠ c):aq (ar (ar (ar (ar (ar (ar υ a A) 1 X) b B) 1 Y) c C) 1 W) b=some B:=by
 rw[aA aa,aA aa,aA aa]
 exact bU (by simp only[aY];exact h)
def Wo (h:c<υ.length) (d:c ≠ 1):aq (ar (ar (ar (ar (ar (ar υ a A) 1 X) b B) 1 Y) c C) 1 W) c=some C:=by
 rw[aA aa]
 exact bU (by simp only[aY];exact h)
end
def k8{a:Type}{f:Nat->a}{i:Nat}:(List.range (i+1)).map f=(List.range i).map f ++ [f i]:=by rw[jh,jE];rfl
def aoU{ce:CE}{σ:List al}{n:Nat}{a b d e g i j l m o p q r:AV}(h:aq σ n=some ⟨some 13,[a,b,d,e,g,i,j,l,m,o,p,q,r],.live⟩):ev ce σ 0 [] (λ_=>.ptr n (aM (some 13)) 0) (.ld (.v 0) (some 13))=some (.agg [a,b,d,e,g,i,j,l,m,o,p,q,r],none):=by
 have s:upto σ n (aM (some 13))=some ⟨some 13,[a,b,d,e,g,i,j,l,m,o,p,q,r],.live⟩:=by unfold upto;rw[h];rfl
 simp only[ev,s]
 rfl
def aoV (n:ao) (E:n.Ok) (K:List (List Int)) (hF:jQ n K):PC Jq [n.av,iL n.bz,b8 K]=some (n.sys K):=by
 refine bZ (ai6 rfl ?_);have D6:=E.ak;have D4:=E.calls;have D5:=E.ah;obtain⟨ni,yU⟩:=gM D6.1;obtain⟨I,z8⟩:=gM D4.1;obtain⟨d,AX⟩:=gM D5.1;have EN:=hF.l;have gG:=E.eU;have qF:=LN E;have u:∀v∈K,n.oF v/\v.length=n.bz.length:=λv hv=>by
  obtain⟨w,hw⟩:=hF.k.w v hv;exact⟨hw.eV E,hw.l⟩
 have J:∀r∈K,(r.length:Int)<=1000000:=λr hr=>by have:=(u r hr).2;omega
 have we:n.calls.toNat=I:=aa
 have uh:n.ah.toNat=d:=aa
 simp[-aj];refine aK (λq:Nat×List al=>[(4,.int q.1)]) (λq=>q.2) (λq=>q.1<=K.length/\X5 n K q.1 q.2.length q.2) (λq=>K.length-q.1) (0,_) (by simp[du];rfl) ⟨ab,⟨rfl,0,0,0,rfl,ab,λh=>absurd rfl h⟩⟩ ?_
 rintro⟨v,σ⟩ ⟨v0,hS⟩;dsimp only at v0 hS ⊢
 by_cases hv:v<K.length
 .have F :=az (show(v:Int)<(K.length:Int)by omega)
  have O:=u _ (aJ (l:=K) (n:=(v:Int)) aa aa)
  simp[-aj,F];refine aK (λi:Nat=>[(5,.int i),(6,.sl σ.length i 0 i)]) (λi=>σ ++ [bp ((n.iW K v).take i)]) (λi=>i<=ni) (λi=>ni-i) 0 aX aa ?_
  intro i i0;have hlI:(n.iW K v).length=ni:=by simp[ao.iW];omega
  by_cases hi:i<ni
  .have P :=az (show(i:Int)<n.ak by omega)
   have hI:=Fb (VV n E (ix K (v:Int)) (i:Int) ⟨aa,aa⟩ O.1 aa) (by simp[ao.fQ])
   have hX:=AD (LC K (n.fQ (ix K (v:Int)) (i:Int)) aa J (by simp[ao.fQ];omega))
   have tk:=gx (w:=n.iW K v) (k:=i) aa
   have z:ix (n.iW K v) (i:Int)=((K.idxOf (n.fQ (ix K (v:Int)) (i:Int)):Nat):Int):=by
    rw[aB aa];simp[ao.iW,ao.nQ]
   rw[z]at tk;have tl:((n.iW K v).take i).length=i:=ax
   have R:=λl:List Int=>jn (σ:=σ) (B:=bp l) (n:=σ.length) rfl;have G:=λ(l:List Int) (B:al)=>vi (σ:=σ) (τ:=[bp l]) (k:=0) (B:=B);simp only[kf,qk]at G;generalize (n.iW K v).take i=T at *;have R:=R T;have G:=G T;simp[-aj,P, F, hI,hX,R,G,tl];exact⟨dE,aa,aa,aD (i+1) ab (by rw[tk];simp) aa aa⟩
  .have ei:i=ni:=by omega
   subst ei;have P :=bX (show ¬(i:Int)<n.ak by omega)
   have e:(n.iW K v).take i=n.iW K v:=eZ aa
   rw[e];simp[-aj,P];refine qD (b:=σ.length) (l:=n.iW K v) (n:=i) (jn rfl) rfl hlI.symm ?_;have S:∀j,j<σ.length->aq (ar (σ ++ [bp (n.iW K v)]) σ.length ⟨none,(n.iW K v).map .int,.dead⟩) j=aq σ j:=λj H=>by
    rw[aA aa,bE,bE,eJ H]
   generalize ar (σ ++ [bp (n.iW K v)]) σ.length ⟨none,(n.iW K v).map .int,.dead⟩=s at S ⊢;have uc:σ.length<=s.length:=by
    rcases Nat.lt_or_ge s.length σ.length with h|h
    .have h1:=S s.length h
     rw[bE,bE,jg aa,db h]at h1
     simp at h1
    .exact h
   simp[-aj];refine aK (λq:Nat×List al=>[(7,.int q.1),(11,.sl s.length q.1 0 q.1)]) (λq=>q.2) (λq=>q.1<=K.length/\(∀j,j<σ.length->aq q.2 j=aq σ j)/\aq q.2 s.length=some (wiB ((List.range q.1).map (n.sP K v)))/\s.length<q.2.length) (λq=>K.length-q.1) (0,s ++ [⟨none,[],.gN⟩]) aX ⟨ab,λj H=>by dsimp only;rw[bE,List.getElem?_append_left aa,<-bE];exact S j H,jn rfl,ab⟩ ?_
   rintro⟨w,τ⟩ ⟨w0,U,V,sb⟩;dsimp only at w0 U V sb ⊢;generalize s.length=L at *
   by_cases hw:w<K.length
   .have XT :=az (show(w:Int)<(K.length:Int)by omega)
    have vW:=u _ (aJ (l:=K) (n:=(w:Int)) aa aa)
    have Q6:(n.sP K v w).length=I*d:=by simp[ao.sP,we,uh]
    have hm:I*d<=64*64:=jT aa aa
    simp[-aj,XT];refine aK (λc:Nat=>[(8,.int c),(10,.sl τ.length (c*d) 0 (c*d))]) (λc=>τ ++ [bp ((n.sP K v w).take (c*d))]) (λc=>c<=I) (λc=>I-c) 0 aX aa ?_
    intro c c0
    by_cases hc:c<I
    .have Z :=az (show(c:Int)<n.calls by omega)
     have EK:(c+1)*d<=I*d:=lr _ hc;rw[Nat.succ_mul]at EK;simp[-aj,Z];refine aK (λr:Nat=>[(9,.int r),(10,.sl τ.length (c*d+r) 0 (c*d+r))]) (λr=>τ ++ [bp ((n.sP K v w).take (c*d+r))]) (λr=>r<=d) (λr=>d-r) 0 aX aa ?_
     intro r r0
     by_cases hr:r<d
     .have u5 :=az (show(r:Int)<n.ah by omega)
      have hC:=Fb (LI n E n.bz (ix K (v:Int)) (ix K (w:Int)) (c:Int) (r:Int) ⟨aa,aa⟩ ⟨aa,aa⟩ O.1 aa aa (LO E) vW.1 vW.2) (by simp[ao.jo])
      have hX:=AD (LC K (n.jo n.bz (ix K (v:Int)) (ix K (w:Int)) (c:Int) (r:Int)) aa J (by simp[ao.jo];omega))
      have tk:=gx (w:=n.sP K v w) (k:=c*d+r) aa
      have z:ix (n.sP K v w) ((c*d+r:Nat):Int)=((K.idxOf (n.jo n.bz (ix K (v:Int)) (ix K (w:Int)) (c:Int) (r:Int)):Nat):Int):=by
       have:=xL (n:=n) (K:=K) (x:=v) (y:=w) (c:=c) (r:=r) aa
       rw[uh]at this;rw[aB aa]
       simp only[ao.sP,lI,List.getElem_range,this]
       rfl
      rw[z]at tk;have tl:((n.sP K v w).take (c*d+r)).length=c*d+r:=ax
      have R:=λl:List Int=>jn (σ:=τ) (B:=bp l) (n:=τ.length) rfl;have G:=λ(l:List Int) (B:al)=>vi (σ:=τ) (τ:=[bp l]) (k:=0) (B:=B);simp only[kf,qk]at G;generalize (n.sP K v w).take (c*d+r)=T at *;have R:=R T;have G:=G T;simp[-aj,u5, F, XT, hC,hX,R,G,tl];exact⟨dE,aa,aa,aD (r+1) ax (by rw[show c*d+(r+1)=c*d+r+1 by omega,tk];simp) aa aa⟩
     .have er:r=d:=by omega
      subst er;have u5 :=bX (show ¬(r:Int)<n.ah by omega)
      simp[-aj,u5];exact⟨aa,aD (c+1) (by rw[Nat.succ_mul];simp) (by rw[Nat.succ_mul]) aa aa⟩
    .have ec:c=I:=by omega
     subst ec;have Z :=bX (show ¬(c:Int)<n.calls by omega)
     have e:(n.sP K v w).take (c*d)=n.sP K v w:=eZ aa
     rw[e];simp[-aj,Z];refine qD (b:=τ.length) (l:=n.sP K v w) (n:=c*d) (jn rfl) rfl Q6.symm ?_;have pS:∀j,j<τ.length->aq (ar (τ ++ [bp (n.sP K v w)]) τ.length ⟨none,(n.sP K v w).map .int,.dead⟩) j=aq τ j:=λj H=>by
      rw[aA aa,bE,bE,eJ H]
     have ER:(ar (τ ++ [bp (n.sP K v w)]) τ.length ⟨none,(n.sP K v w).map .int,.dead⟩).length=τ.length+1:=by rw[aY];simp
     generalize ar (τ ++ [bp (n.sP K v w)]) τ.length ⟨none,(n.sP K v w).map .int,.dead⟩=DD at pS ER ⊢;have aoW:aq DD L=some (wiB ((List.range w).map (n.sP K v))):=by rw[pS L sb];exact V
     have Wp:=k8 (f:=n.sP K v) (i:=w);have Wq:((List.range w).map (n.sP K v)).length=w:=ab
     have hwi:wI (n.sP K v w) = .aF (decide (n.sP K v w ≠ [])) ((n.sP K v w).map .int):=rfl;generalize (List.range w).map (n.sP K v)=W at *;have aoX:aq DD L=some ⟨none,W.map wI,if W=[]then .gN else .live⟩:=aoW
     have iK:=aY (Q:=DD) (i:=L) (B:=⟨none,W.map wI ++ [wI (n.sP K v w)],.live⟩);simp[-aj,aoX,Wq];exact⟨dE,aa,aa,aD (w+1,_) ab rfl ⟨aa,λj H=>by
      have:=U j H;dsimp only;rw[aA aa,pS j aa];exact this,by
      dsimp only;rw[bU aa,Wp];simp[wI],rM⟩ au⟩
   .have ew:w=K.length:=by omega
    subst ew;simp[-aj];refine aoO (b:=L) (ws:=n.ll K v) (n:=K.length) V rfl (by simp[ao.ll]) ?_
    have Es:∀j,j<σ.length->aq (ar τ L ⟨none,(n.ll K v).map wI,.dead⟩) j=aq σ j:=λj H=>by
     rw[aA aa];exact U j H
    have ER:(ar τ L ⟨none,(n.ll K v).map wI,.dead⟩).length=τ.length:=aY;generalize ar τ L ⟨none,(n.ll K v).map wI,.dead⟩=o at Es ER ⊢;have hSu:=hS.tK Es;have p:1<o.length:=by obtain⟨_,_,_,_,h,_⟩:=hS.x;omega
    have D:=hSu.r;obtain⟨a,b,c,m,Gx,ub⟩:=hSu.x;have aoY:=V1 (n:=n);have BB:=az (show 0<(ix K (v:Int)).length by omega)
    have A7:=O.1 _ (aJ (l:=ix K (v:Int)) (n:=0) aa aa)
    have M:=A7.1;have N:=az A7.2;have hnm:=k8 (f:=n.lU K) (i:=v);have Ez:=k8 (f:=n.iW K) (i:=v);have hnP:=k8 (f:=n.ll K) (i:=v);have hwI:wI (n.iW K v) = .aF (decide (n.iW K v ≠ [])) ((n.iW K v).map .int):=rfl;unfold ao.kQ at m
    by_cases hz:v=0
    .subst hz
     simp only[cu,ae rfl]at m;have F1:=λA:al=>(dH (r:=[A]) p).trans m;have F2:=λA X:al=>bU (Q:=o ++ [A]) (i:=1) (B:=X) (by rw[aU];omega)
     have F3:=λA X B:al=>(dH (Q:=ar (o ++ [A]) 1 X) (r:=[B]) (i:=1) (by rw[aY,aU];omega)).trans (F2 A X)
     have F4:=λA X B Y:al=>bU (Q:=ar (o ++ [A]) 1 X ++ [B]) (i:=1) (B:=Y) (by rw[aU,aY,aU];omega)
     have F5:=λA X B Y C:al=>(dH (Q:=ar (ar (o ++ [A]) 1 X ++ [B]) 1 Y) (r:=[C]) (i:=1) (by rw[aY,aU,aY,aU];omega)).trans (F4 A X B Y)
     simp[-aj,m,BB,M,N,hv,F1,F2,F3,F4,F5,aY,wL,bg];refine⟨of_eq_true BB,A7,aD (1,_) ab rfl ⟨au,?_⟩ au⟩
     dsimp only;refine⟨by rw[aoP aa aa];exact D,o.length,o.length+1,o.length+2,by rw[aoQ p];simp[cu,ao.kQ],by rw[Ea];omega,λ_=>⟨by rw[aoR p];simp[ao.lU],by rw[aoS p];simp[wI],by rw[aoT p];simp[wL],⟨aa,aa,aa,aa,aa,aa⟩,by rw[Ea];omega,by rw[Ea];omega,by rw[Ea];omega⟩⟩
    .obtain⟨ha,hb,hc,⟨h1,h2,h3,h4,h5,h6⟩,h7,h8,h9⟩:=ub hz
     simp only[cu,ad hz]at m;have G1:=λA:al=>(aA (Q:=o) (i:=a) (B:=A) (j:=1) aa).trans m
     have G2:=λA X:al=>bU (Q:=ar o a A) (i:=1) (B:=X) (by rw[aY];exact p)
     have G3:=λA X:al=>((aA (Q:=ar o a A) (i:=1) (B:=X) (j:=b) aa).trans (aA (Q:=o) (i:=a) (B:=A) (j:=b) aa)).trans hb
     have G4:=λA X B:al=>(aA (Q:=ar (ar o a A) 1 X) (i:=b) (B:=B) (j:=1) aa).trans (G2 A X)
     have G5:=λA X B Y:al=>bU (Q:=ar (ar (ar o a A) 1 X) b B) (i:=1) (B:=Y) (by simp only[aY];exact p)
     have G6:=λA X B Y:al=>(((aA (Q:=ar (ar (ar o a A) 1 X) b B) (i:=1) (B:=Y) (j:=c) aa).trans (aA (Q:=ar (ar o a A) 1 X) (i:=b) (B:=B) (j:=c) aa)).trans ((aA (Q:=ar o a A) (i:=1) (B:=X) (j:=c) aa).trans (aA (Q:=o) (i:=a) (B:=A) (j:=c) aa))).trans hc
     have G7:=λA X B Y C:al=>(aA (Q:=ar (ar (ar (ar o a A) 1 X) b B) 1 Y) (i:=c) (B:=C) (j:=1) aa).trans (G5 A X B Y)
     simp[-aj,m,BB,M,N,F, ha,G1,G2,G3,G4,G5,G6,G7,aY,wL,bg];refine⟨aa,aa,aD (v+1,_) ab rfl ⟨au,?_⟩ au⟩
     dsimp only;refine⟨by rw[Wk ⟨aa,aa,aa,aa⟩];exact D,a,b,c,by rw[Wl p];simp[cu,ao.kQ],by rw[Eb];exact p,λ_=>⟨by rw[Wm aa ⟨aa,aa,aa⟩,hnm];simp[ao.lU],by rw[Wn aa ⟨aa,aa⟩,Ez];simp[wI],by rw[Wo aa aa,hnP];simp[wL],⟨h1,h2,h3,h4,h5,h6⟩,by rw[Eb];omega,by rw[Eb];omega,by rw[Eb];omega⟩⟩
 .have ev:v=K.length:=by omega
  subst ev;obtain⟨a,b,c,m,Gx,ub⟩:=hS.x;have D:=hS.r;have Wr:=hF.k.h0.1;obtain⟨ha,hb,hc,⟨h1,h2,h3,h4,h5,h6⟩,h7,h8,h9⟩:=ub aa
  unfold ao.kQ at m;unfold Wj at D;simp only[cu,ad (show ¬K.length=0 by omega)]at m
  have e0:=λB:al=>bU (Q:=σ) (i:=0) (B:=B) aa
  have er:=λ(ce:CE) (c0 c1 c2 c3 c4 c5 c6 c7 c8 c9 d0 d1 d2:AV)=>aoU (ce:=ce) (n:=0) (e0 ⟨some 13,[c0,c1,c2,c3,c4,c5,c6,c7,c8,c9,d0,d1,d2],.live⟩);have va:=λ(k:Nat) (B:al)=>dQ (σ:=ar σ 0 B) (fr:=false) (b:=a) (k:=k+1) (n:=K.length) (f:=AV.bool) (g:=AV.bool) (xs:=(List.range K.length).map (n.lU K)) (by rw[aA aa];exact ha) rfl ab λ_ _=>rfl
  have vb:=λ(k:Nat) (B:al)=>dQ (σ:=ar σ 0 B) (fr:=false) (b:=b) (k:=k+1) (n:=K.length) (f:=wI) (g:=iL) (xs:=(List.range K.length).map (n.iW K)) (by rw[aA aa];exact hb) rfl ab λ_ _=>rfl
  have vc:=λ(k:Nat) (B:al)=>dQ (σ:=ar σ 0 B) (fr:=false) (b:=c) (k:=k+1) (n:=K.length) (f:=wL) (g:=b8) (xs:=(List.range K.length).map (n.ll K)) (by rw[aA aa];exact hc) rfl ab λ_ _=>rfl
  simp[-aj,m,D,e0,er];rw[va 9,vb 9,vc 9]
  rfl
section
variable{n:ao}{K:List (List Int)}
variable{x:Nat}
def tR(h:x<K.length):ix ((List.range K.length).map (n.iW K)) (x:Int)=n.iW K x:=by rw[aB cq];simp
def rj(h:x<K.length):ix ((List.range K.length).map (n.ll K)) (x:Int)=n.ll K x:=by rw[aB cq];simp
def Fc(h:x<K.length):ix ((List.range K.length).map (n.lU K)) (x:Int)=n.lU K x:=by rw[aB cq];simp
def AJ{i:Nat}(h:i<n.ak.toNat):ix (n.iW K x) (i:Int)=((n.nQ K x (i:Int):Nat):Int):=by
 unfold ao.iW;rw[aB cq];simp
variable{y:Nat}
def vq(h:y<K.length):ix (n.ll K x) (y:Int)=n.sP K x y:=by
 unfold ao.ll;rw[aB cq];simp
variable{j:Nat}
def vt(h:j<n.calls.toNat*n.ah.toNat):ix (n.sP K x y) (j:Int)=((n.jR K x y j:Nat):Int):=by
 unfold ao.sP;rw[aB cq];simp
def Ec:(n.iW K x).length=n.ak.toNat:=by simp[ao.iW]
def xM:(n.ll K x).length=K.length:=by simp[ao.ll]
def xN:(n.sP K x y).length=n.calls.toNat*n.ah.toNat:=by simp[ao.sP]
def xO (d:jQ n K) (g:n.Ok)(h:x<K.length) (i:y<K.length) (b:j<n.calls.toNat*n.ah.toNat):n.jR K x y j<K.length:=by
 have a:0<n.ah.toNat:=by
  rcases uk n.ah.toNat with e|e
  .rw[e]at b;omega
  .exact e
 have l:j/n.ah.toNat<n.calls.toNat:=(oV a).2 b;have m:j%n.ah.toNat<n.ah.toNat:=l6 _ a;unfold ao.jR;generalize j/n.ah.toNat=c at *;generalize j%n.ah.toNat=r at *;exact(d.bk g h i aa aa aa aa).1
end
open Classical in
def aoZ (n:ao) (hn:n.Ok) (K:List (List Int)) (hF:jQ n K) (cls:List Int) (hl:cls.length=K.length) (v w:Nat) (hv:v<K.length) (hw:w<K.length):PC GX [n.sys K,iL cls,.int v,.int w]=some (.bool (decide (n.j6 K cls v w))):=by
 refine bZ (aj4 rfl ?_);have D6:=hn.ak;have D4:=hn.calls;have D5:=hn.ah;have EN:=hF.l;obtain⟨ni,yU⟩:=gM D6.1;obtain⟨nc,z8⟩:=gM D4.1;obtain⟨nr,AX⟩:=gM D5.1;have hTi:n.ak.toNat=ni:=aa
 have we:n.calls.toNat=nc:=aa
 have uh:n.ah.toNat=nr:=aa
 have hm:nc*nr<=64*64:=jT aa aa
 have hmI:n.calls*n.ah=((nc*nr:Nat):Int):=by rw[z8,AX,qb]
 have yd : -9223372036854775808<=n.calls*n.ah/\n.calls*n.ah<=9223372036854775807:=aa
 have X6:=az (show(v:Int)<(cls.length:Int)by omega)
 have hwc:=az (show(w:Int)<(cls.length:Int)by omega)
 have Ws:=az (show(v:Int)<(K.length:Int)by omega)
 have Wt:=az (show(w:Int)<(K.length:Int)by omega)
 have Iv:=tR (n:=n) hv;have Iw:=tR (n:=n) hw;have Pv:=rj (n:=n) hv;have Pw:=rj (n:=n) hw;unfold ao.sys ao.kQ
 by_cases he:ix cls (v:Int)=ix cls (w:Int)
 case neg=>
  have:¬n.j6 K cls v w:=λh=>he h.e;simp[-aj,X6,hwc,he,this]
 simp[-aj,X6,hwc,he];refine aK (λi:Nat=>[(4,.int i)]) (λ_=>[]) (λi=>i<=ni/\∀j:Nat,j<i->ix cls (n.nQ K v (j:Int):Int)=ix cls (n.nQ K w (j:Int):Int)) (λi=>ni-i) 0 aX ⟨aa,λj hj=>aa⟩ ?_
 rintro i ⟨i0,i1⟩
 by_cases hi:i<ni
 .have jt :=az (show(i:Int)<n.ak by omega)
  have a1:=(hF.im (i:=(i:Int)) hv aa aa).1
  have a2:=(hF.im (i:=(i:Int)) hw aa aa).1
  have b1:=AJ (n:=n) (K:=K) (x:=v) (i:=i) aa
  have b2:=AJ (n:=n) (K:=K) (x:=w) (i:=i) aa
  have c1:=az (show(i:Int)<((n.iW K v).length:Int)by rw[Ec];omega)
  have c2:=az (show(i:Int)<((n.iW K w).length:Int)by rw[Ec];omega)
  have d1:=az (show((n.nQ K v (i:Int):Nat):Int)<(cls.length:Int)by omega)
  have d2:=az (show((n.nQ K w (i:Int):Nat):Int)<(cls.length:Int)by omega)
  by_cases eP:ix cls (n.nQ K v (i:Int):Int)=ix cls (n.nQ K w (i:Int):Int)
  .simp[-aj,jt, Ws,Wt,Iv,Iw,b1,b2,c1,c2,d1,d2,eP]
   exact⟨aa,aD (i+1) ab rfl ⟨aa,λj hj=>by by_cases e:j=i;(subst e;exact eP);exact i1 j aa⟩ aa⟩
  .have:¬n.j6 K cls v w:=λh=>eP (h.i i aa)
   simp[-aj,jt, Ws,Wt,Iv,Iw,b1,b2,c1,c2,d1,d2,eP,this]
 .have ei:i=ni:=by omega
  subst ei;have jt :=bX (show ¬(i:Int)<n.ak by omega)
  simp[-aj,jt];refine aK (λk:Nat=>[(6,.int k)]) (λ_=>[]) (λk=>k<=cls.length/\∀z j:Nat,z<k->j<nc*nr->ix cls (n.jR K v z j:Int)=ix cls (n.jR K w z j:Int)/\ix cls (n.jR K z v j:Int)=ix cls (n.jR K z w j:Int)) (λk=>cls.length-k) 0 aX ⟨aa,λz j hz=>aa⟩ ?_
  rintro k ⟨k0,k1⟩
  by_cases hk:k<cls.length
  .have Xt :=az (show(k:Int)<(cls.length:Int)by omega)
   have sG:=az (show(k:Int)<(K.length:Int)by omega)
   have Pk:=rj (n:=n) (K:=K) (x:=k) aa
   simp[-aj,hk];refine aK (λj:Nat=>[(7,.int j)]) (λ_=>[]) (λj=>j<=nc*nr/\∀i:Nat,i<j->ix cls (n.jR K v k i:Int)=ix cls (n.jR K w k i:Int)/\ix cls (n.jR K k v i:Int)=ix cls (n.jR K k w i:Int)) (λj=>nc*nr-j) 0 aX ⟨aa,λi hi=>aa⟩ ?_
   rintro j ⟨j0,j1⟩
   by_cases hj:j<nc*nr
   .have tW :=az (show(j:Int)<n.calls*n.ah by omega)
    have Bc:j<n.calls.toNat*n.ah.toNat:=by rw[we,uh];exact hj
    have q1:=vq (n:=n) (K:=K) (x:=v) (y:=k) aa
    have q2:=vq (n:=n) (K:=K) (x:=w) (y:=k) aa
    have q3:=vq (n:=n) (K:=K) (x:=k) (y:=v) hv;have q4:=vq (n:=n) (K:=K) (x:=k) (y:=w) hw;have r1:=vt (n:=n) (K:=K) (x:=v) (y:=k) Bc;have r2:=vt (n:=n) (K:=K) (x:=w) (y:=k) Bc;have r3:=vt (n:=n) (K:=K) (x:=k) (y:=v) Bc;have r4:=vt (n:=n) (K:=K) (x:=k) (y:=w) Bc;have l1:=az (show(k:Int)<((n.ll K v).length:Int)by rw[xM];omega)
    have l2:=az (show(k:Int)<((n.ll K w).length:Int)by rw[xM];omega)
    have l3:=az (show(v:Int)<((n.ll K k).length:Int)by rw[xM];omega)
    have l4:=az (show(w:Int)<((n.ll K k).length:Int)by rw[xM];omega)
    have m1:=az (show(j:Int)<((n.sP K v k).length:Int)by rw[xN];omega)
    have m2:=az (show(j:Int)<((n.sP K w k).length:Int)by rw[xN];omega)
    have m3:=az (show(j:Int)<((n.sP K k v).length:Int)by rw[xN];omega)
    have m4:=az (show(j:Int)<((n.sP K k w).length:Int)by rw[xN];omega)
    have t1:=az (show((n.jR K v k j:Nat):Int)<(cls.length:Int)by have:=xO hF hn hv (show k<K.length by omega) Bc;omega)
    have t2:=az (show((n.jR K w k j:Nat):Int)<(cls.length:Int)by have:=xO hF hn hw (show k<K.length by omega) Bc;omega)
    have t3:=az (show((n.jR K k v j:Nat):Int)<(cls.length:Int)by have:=xO hF hn (show k<K.length by omega) hv Bc;omega)
    have t4:=az (show((n.jR K k w j:Nat):Int)<(cls.length:Int)by have:=xO hF hn (show k<K.length by omega) hw Bc;omega)
    by_cases e1:ix cls (n.jR K v k j:Int)=ix cls (n.jR K w k j:Int)
    .by_cases e2:ix cls (n.jR K k v j:Int)=ix cls (n.jR K k w j:Int)
     .simp[-aj,yd,tW, Ws,Wt,sG,Pv,Pw,Pk,q1,q2,q3,q4,r1,r2,r3,r4,l1,l2,l3,l4,m1,m2,m3,m4,t1,t2,t3,t4,e1,e2]
      exact⟨aa,aD (j+1) ab rfl ⟨aa,λi hi=>by by_cases e:i=j;(subst e;exact⟨e1,e2⟩);exact j1 i aa⟩ aa⟩
     .have:¬n.j6 K cls v w:=λh=>e2 (h.b k j aa Bc).2
      simp[-aj,yd,tW, Ws,Wt,sG,Pv,Pw,Pk,q1,q2,q3,q4,r1,r2,r3,r4,l1,l2,l3,l4,m1,m2,m3,m4,t1,t2,t3,t4,e1,e2,this]
    .have:¬n.j6 K cls v w:=λh=>e1 (h.b k j aa Bc).1
     simp[-aj,yd,tW, Ws,Wt,sG,Pv,Pw,Pk,q1,q2,q3,q4,r1,r2,r3,r4,l1,l2,l3,l4,m1,m2,m3,m4,t1,t2,t3,t4,e1,this]
   .have ej:j=nc*nr:=by omega
    have tW :=bX (show ¬(j:Int)<n.calls*n.ah by omega)
    simp[-aj,yd,tW];exact⟨aa,aD (k+1) ab rfl ⟨aa,λz i hz hi=>by by_cases e:z=k;(subst e;exact j1 i aa);exact k1 z i aa hi⟩ aa⟩
  .have ek:k=cls.length:=by omega
   have Xt :=bX (show ¬(k:Int)<(cls.length:Int)by omega)
   have:n.j6 K cls v w:=⟨he,λj hj=>i1 j aa,λz j hz hj=>k1 z j aa (by rw[<-we,<-uh];exact hj)⟩
   simp[-aj,Xt, this]
def yk (a:Nat->Prop) (v s k:Nat):Prop:=(k=v/\∀y,s<=y->y<v->¬a y)\/(s<=k/\k<v/\a k/\∀y,s<=y->y<k->¬a y)
variable{good:Nat->Prop}{v s k:Nat}
def yk.yes(h:yk good v (s+1) k) (hs:s<v) (g:good s):yk good v s s:=.inr ⟨bd _,hs,g,λy h1 h2=>aa⟩
def yk.no(h:yk good v (s+1) k) (g:¬good s):yk good v s k:=by
 have key:∀y,s<=y->s+1<=y\/y=s:=λy hy=>aa
 rcases h with⟨rfl,h⟩|⟨h1,h2,h3,h4⟩
 .exact .inl ⟨rfl,λy hy hv=>(key y hy).elim (λa=>h y a hv) λe=>e▸g⟩
 .exact .inr ⟨aa,h2,h3,λy hy hk=>(key y hy).elim (λa=>h4 y a hk) λe=>e▸g⟩
variable{R:Nat->Nat->Prop}
def yk.ye(hR:yj R)(h:yk good v 0 k) (hg:∀y,y<v->(good y↔R y v/\ff R y=y)):k=ff R v:=by
 have yD:∀z,z<v->R z v->∃y,y<=z/\good y:=λz hz hr=>by
  obtain⟨a1,a2,_⟩:=tQ (hR.r z);refine⟨ff R z,a2,(hg _ aa).2 ⟨hR.t _ _ _ a1 hr,hR.ye.2 a1⟩⟩
 rcases h with⟨rfl,h⟩|⟨_,h2,h3,h4⟩
 .refine(AH (hR.r _) (hR.r _) λz hz hr=>?_).symm
  obtain⟨y,hy,gy⟩:=yD z hz hr;exact h y aa aa gy
 .refine(AH (hR.r _) ((hg k h2).1 h3).1 λz hz hr=>?_).symm
  obtain⟨y,hy,gy⟩:=yD z aa hr
  exact h4 y aa aa gy
def yk.ao0(hR:yj R)(h:yk (λy=>R y v) v 0 k):k=ff R v:=by
 rcases h with⟨rfl,h⟩|⟨_,h2,h3,h4⟩
 .exact(AH (hR.r _) (hR.r _) λz hz hr=>h z aa hz hr).symm
 .exact(AH (hR.r _) h3 λz hz hr=>h4 z aa hz hr).symm
def Ed:de R (v+1)=de R v ++ [((ff R v:Nat):Int)]:=by unfold de;exact k8
open Classical in
def ao1 (n:ao) (H:n.Ok) (K:List (List Int)) (E:jQ n K) (cls:List Int) (F:cls.length=K.length):PC JI [n.sys K,iL cls]=some (iL (de (n.j6 K cls) K.length)):=by
 refine bZ (ajI rfl ?_);have I:=E.l;have B:yj (n.j6 K cls):=j6.eqr;have i:=aoZ n H K E cls F;unfold ao.sys ao.kQ at i ⊢;simp only[jD,mQ]at i ⊢;generalize J:n.j6 K cls=R at *;generalize (List.range K.length).map (n.lU K)=S at *;generalize (List.range K.length).map (n.iW K)=T at *;generalize (List.range K.length).map (n.ll K)=U at *;simp[-aj];refine aK (λv:Nat=>[(2,.int v),(4,.sl 0 v 0 v)]) (λv=>[bp (de R v)]) (λv=>v<=K.length) (λv=>K.length-v) 0 (by simp[du,de]) aa ?_
 intro v V
 by_cases L:v<K.length
 .have r :=az (show(v:Int)<(cls.length:Int)by omega)
  have a:=sh (R:=R) (N:=v);simp[-aj,r];refine⟨aa,?_⟩
  refine aK (λq:Nat×Nat=>[(3,.int ((q.1:Int)-1)),(6,.int q.2)]) (λ_=>[bp (de R v)]) (λq=>q.1<=v/\q.2<=v/\yk (λy=>R y v/\ff R y=y) v q.1 q.2) (λq=>q.1) (v,v) aX ⟨ab,ab,.inl ⟨rfl,λy M W=>by dsimp only at M;omega⟩⟩ ?_
  rintro⟨s,k⟩ ⟨O,C,u⟩;dsimp only at O C u ⊢
  by_cases X:0<s
  .obtain⟨w,rfl⟩:∃w,s=w+1:=⟨s-1,aa⟩
   have P:((w+1:Nat):Int)-1=(w:Int):=aa
   rw[P];have j:=az (show(0:Int)<=(w:Int)by omega)
   have m:=bX (show ¬de R v=[]from λe=>by rw[e]at a;simp at a;omega)
   have o:=az (show w<v by omega)
   have p:=AI (R:=R) (N:=v) (x:=w) aa
   have d:=i v w L aa
   by_cases g:ff R w=w
   .by_cases A:R v w
    .rw[mf A]at d
     have hd:=u.yes aa ⟨B.s _ _ A,g⟩
     simp[-aj,j,o,a,m,p,g,d];exact⟨aa,aD (w,w) ab rfl ⟨au,au,hd⟩ au⟩
    .rw[oq A]at d
     have hd:=u.no λh=>A (B.s _ _ h.1);simp[-aj,j,o,a,m,p,g,d];exact⟨aa,aD (w,k) ab rfl ⟨au,C,hd⟩ au⟩
   .have hd:=u.no λh=>g h.2
    have z :=bX (show ¬((ff R w:Nat):Int)=(w:Int)by omega)
    simp[-aj,j,o,a,m,p,z];exact⟨aa,aD (w,k) ab rfl ⟨au,C,hd⟩ au⟩
  .have es:s=0:=by omega
   subst es;have Q:=u.ye B λy Y=>Iff.rfl;subst Q;have D:=Ed (R:=R) (v:=v);simp[-aj,a];exact⟨dE,aa,aa,aD (v+1) ab (by rw[D];simp) aa aa⟩
 .have ev:v=K.length:=by omega
  subst ev;have r :=bX (show ¬(K.length:Int)<(cls.length:Int)by omega)
  have G:=Dc (σ:=[bp (de R K.length)]) (b:=0) rfl;rw[sh]at G;simp[-aj,F,G]
noncomputable def Fe (R:Nat->Nat->Prop) (N M:Nat):Nat:=((List.range M).map λx=>N-ff R x).sum
def Wu{R S:Nat->Nat->Prop}{N:Nat}(h:∀x,x<N->ff R x<=ff S x):∀M,M<=N->Fe S N M<=Fe R N M
 |0,_=>by simp[Fe]
 |M+1,b=>by
  have a:=Wu (N:=N) h M aa
  have:=h M aa
  unfold Fe at a ⊢;rw[k8,k8,List.sum_append,List.sum_append];simp only[List.sum_cons,List.sum_nil];omega
def Wv{R S:Nat->Nat->Prop}{N:Nat}(a:∀x,ff S x<=x) (h:∀x,x<N->ff R x<=ff S x):∀M,M<=N->de S M ≠ de R M->Fe S N M<Fe R N M
 |0,_,e=>absurd (by simp[de]) e
 |M+1,i,e=>by
  have b:=Wv (N:=N) a h M aa
  have hle:=Wu (N:=N) h M aa
  have j:=h M aa
  have l:=a M;unfold Fe at b hle ⊢;rw[k8,k8,List.sum_append,List.sum_append];simp only[List.sum_cons,List.sum_nil]
  by_cases d:de S M=de R M
  .have:ff S M ≠ ff R M:=λg=>e (by rw[Ed,Ed,d,g])
   omega
  .have:=b d
   omega
def ao2{S:Nat->Nat->Prop}(b:yj R) (d:yj S){N:Nat}(h:∀x y,x<N->y<N->S x y->R x y) (x:Nat) (e:x<N):ff R x<=ff S x:=by
 obtain⟨i,j,g⟩:=tQ (b.r x);obtain⟨b1,l,m⟩:=tQ (d.r x);rcases Nat.lt_or_ge (ff S x) (ff R x)with a|a
 .exact absurd (h _ _ aa e b1) (g _ a)
 .exact a
def ao3 (n:ao) (p:n.Ok) (K:List (List Int)) (F:jQ n K):∃cls,oQ n K cls/\PC Cy [n.sys K]=some (iL cls):=by
 have I:LX L Cy [n.sys K] [] (λv z =>∃cls,oQ n K cls/\bP z false v=some (iL cls)):=by
  refine ai7 rfl ?_;have Z:=F.l;have J:yj λx y=>n.lU K x=n.lU K y:=(Bb.start (K:=K) p).q;have m:=λcls hl=>ao1 n p K F cls hl;have A:=λ(x:Nat) (M:x<K.length)=>Fc (n:=n) M;have Q6:((List.range K.length).map (n.lU K)).length=K.length:=ab
  unfold ao.sys ao.kQ at m ⊢;simp only[jD,mQ]at m ⊢;generalize (List.range K.length).map (n.lU K)=O at *;generalize (List.range K.length).map (n.iW K)=SI at *;generalize (List.range K.length).map (n.ll K)=SP at *;generalize B:(λx y=>n.lU K x=n.lU K y)=R at *;have C:∀x y,R x y↔n.lU K x=n.lU K y:=λx y=>by rw[<-B]
  simp[-aj];refine aK (λv:Nat=>[(1,.int v),(4,.sl 0 v 0 v)]) (λv=>[bp (de R v)]) (λv=>v<=K.length) (λv=>K.length-v) 0 (by simp[du,de]) aa ?_
  intro v v0
  by_cases P:v<K.length
  .have d :=az (show v<O.length by omega)
   have Q:=sh (R:=R) (N:=v);have g:=A v P;simp[-aj,d];refine⟨aa,?_⟩
   refine aK (λq:Nat×Nat=>[(3,.int ((q.1:Int)-1)),(5,.int q.2)]) (λ_=>[bp (de R v)]) (λq=>q.1<=v/\q.2<=v/\yk (λy=>R y v) v q.1 q.2) (λq=>q.1) (v,v) aX ⟨ab,ab,.inl ⟨rfl,λy I h2=>by dsimp only at I;omega⟩⟩ ?_
   rintro⟨s,k⟩ ⟨s0,W,G⟩;dsimp only at s0 W G ⊢
   by_cases hs:0<s
   .obtain⟨w,rfl⟩:∃w,s=w+1:=⟨s-1,aa⟩
    have ew:((w+1:Nat):Int)-1=(w:Int):=aa
    rw[ew];have D :=az (show w<O.length by omega)
    have i:=A w aa
    by_cases H:R w v
    .have hd:=G.yes aa H
     have j:=(C w v).1 H;simp[-aj,d, D, g,i,j];exact⟨aa,aD (w,w) ab rfl ⟨au,au,hd⟩ au⟩
    .have hd:=G.no H
     have j:=eq_false λh=>H ((C w v).2 h);simp[-aj,d, D, g,i,j];exact⟨aa,aD (w,k) ab rfl ⟨au,W,hd⟩ au⟩
   .have es:s=0:=by omega
    subst es;have hk:=G.ao0 J;subst hk;have T:=Ed (R:=R) (v:=v);simp[-aj,Q];exact⟨dE,aa,aa,aD (v+1) ab (by rw[T];simp) aa aa⟩
  .have ev:v=K.length:=by omega
   subst ev;have d :=bX (show ¬K.length<O.length by omega)
   simp[-aj,d];refine qD (b:=0) (l:=de R K.length) (n:=K.length) rfl rfl sh.symm ?_;generalize ar [bp (de R K.length)] 0 ⟨none,(de R K.length).map .int,.dead⟩=σ;have X:=Bb.start (K:=K) p;rw[B]at X;simp[-aj];refine aK (λq:(Nat->Nat->Prop)×Bool×AV=>[(1,q.2.2),(4,.aF q.2.1 ((de q.1 K.length).map .int))]) (λ_=>σ) (λq=>Bb n K q.1) (λq=>Fe q.1 K.length K.length) (R,!decide (de R K.length=[]),.int (K.length:Int)) aX X ?_
   rintro⟨S,b,u⟩ E;dsimp only at E ⊢;have Y:=m (de S K.length) sh;have o:=E.next F p
   have a:=VB (de (n.j6 K (de S K.length)) K.length) (de S K.length) (by rw[sh];omega) (by rw[sh];omega)
   have U:=Wv (R:=S) (S:=n.j6 K (de S K.length)) (N:=K.length) (λx=>(tQ (o.q.r x)).2.1) (ao2 E.q o.q λx y M hy h=>(E.q.ix M hy).1 h.e) K.length (bd _)
   by_cases j:de (n.j6 K (de S K.length)) K.length=de S K.length
   .have V:=E.stop F p j
    rw[mf j]at a;simp[-aj,Y,a];exact⟨_,V,rfl⟩
   .rw[oq j]at a
    simp[-aj,Y,a];exact aD (n.j6 K (de S K.length),false,.aO) ab rfl o (U j)
 obtain⟨v,z, P,K,hK,hw⟩:=dd I;exact⟨K,hK,by unfold PC rW;rw[P];exact hw⟩
end Ab
namespace Ab
def fo:Option (List Int)->AV
 |none=>.ag
 |some w=>iL w
def pZ (fs:List (Option (List Int))):List al:=[⟨none,fs.map fo,.live⟩,⟨none,fs.map λo=>.bool o.isSome,.live⟩]
def si (fs:List (Option (List Int))) (k:Nat) (w:List Int):Bool:=decide (w.length<=1024)&&(match ix fs (k:Int)with
 |none=>true
 |some v=>decide (0<aI v w))
def sj (fs:List (Option (List Int))) (k:Nat) (w:List Int):List (Option (List Int)):=if si fs k w=true then fs.set k (some w)else fs
variable{k:Nat}{w:List Int}
def ao4{fs:List (Option (List Int))}:(sj fs k w).length=fs.length:=by unfold sj;split<;>simp
def ao5:∃b,fo (some w) = .aF b (w.map .int):=⟨false,rfl⟩
def ao6{fs:List (Option (List Int))}:[⟨none,(fs.map fo).set k (iL w),.live⟩,⟨none,(fs.map λo=>AV.bool o.isSome).set k (.bool true),.live⟩]=pZ (fs.set k (some w)):=by
 unfold pZ;rw[o8,o8]
 rfl
def Wx (fs:List (Option (List Int))) (N:Nat) (h:fs.length=N) (p:N<=512) (k:Nat) (i:k<N) (w:List Int) (r:(w.length:Int)<=1000000) (q:∀v,ix fs (k:Int)=some v->v.length<=1024):L CH [.sl 0 N 0 N,.sl 1 N 0 N,.int k,iL w] (pZ fs)=some (.bool (si fs k w),pZ (sj fs k w)):=by
 refine jP (ajL rfl ?_);have a:ix (fs.map fo) (k:Int)=fo (ix fs (k:Int)):=o7
 have d:ix (fs.map λo=>AV.bool o.isSome) (k:Int) = .bool (ix fs (k:Int)).isSome:=o7
 have s:=ao6 (fs:=fs) (k:=k) (w:=w);unfold pZ sj si at *
 by_cases e:w.length<=1024
 .cases g:ix fs (k:Int)with
  |none=>
   simp[-aj,e,a,d,g,h,i];exact⟨aa,λ_=>⟨aa,lP,lP⟩⟩
  |some v=>
   obtain⟨b,l⟩:=ao5 (w:=v);have m:=VD v w (by have:=q v g;omega) aa
   by_cases n:0<aI v w
   .simp[-aj,e,a,d,g,l,m,n,h,i]
    exact⟨aa,λ_=>⟨aa,lP,lP⟩⟩
   .simp[-aj,e,a,d,g,l,m,n,h,i]
    done
 .have j :=az (show(1024:Int)<(w.length:Int)by omega)
  simp[-aj,e,j]
  done
section
variable{n:ao}{K:List (List Int)}{cls:List Int}{fs:List (Option (List Int))}
structure qN (n:ao) (K:List (List Int)) (cls:List Int) (fs:List (Option (List Int))):Prop where
 l:fs.length=K.length
 s:∀k:Nat,k<K.length->∀w,ix fs (k:Int)=some w->w.length<=1024/\∃x,x<K.length/\n.RX K x w/\ix cls (x:Int)=k
 z:ix fs 0=some []
variable{w:List Int}
def ao7:aI [] w<=0:=by
 cases w with
 |nil=>exact Int.le_of_eq (cC.refl _)
 |cons x w=>unfold aI;rw[ae ab];omega
variable{k:Nat}
def Wy(h:si fs k w=true):w.length<=1024:=by
 unfold si at h;simp only[aH,eo]at h;exact h.1
def Wz(h:si fs k w=true) (b:k<fs.length) (j:Nat) (a:j<fs.length):ix (sj fs k w) (j:Int)=if j=k then some w else ix fs (j:Int):=by
 unfold sj;rw[ae h,aB (by simp;exact a),aB a,qn]
 by_cases e:k=j
 .subst e;simp
 .rw[ad e,ad (Ne.symm e)]
def qN.sj (h:qN n K cls fs)(hk:k<K.length) (hw:∃x,x<K.length/\n.RX K x w/\ix cls (x:Int)=k):qN n K cls (sj fs k w):=by
 by_cases hb:si fs k w=true
 .have hl:=h.l
  refine⟨by rw[ao4];exact hl,λj hj v hv=>?_,?_⟩
  .rw[Wz hb aa j aa]at hv
   by_cases e:j=k
   .rw[ae e]at hv
    cases hv;exact⟨Wy hb,by rw[e];exact hw⟩
   .rw[ad e]at hv
    exact h.s j hj v hv
  .have:=Wz hb aa 0 aa
   rw[show((0:Nat):Int)=0 from rfl]at this;rw[this]
   by_cases e:0=k
   .subst e
    unfold si at hb;rw[show((0:Nat):Int)=0 from rfl,h.z]at hb;simp only[aH,eo]at hb;have:=ao7 (w:=w);omega
   .rw[ad e];exact h.z
 .unfold Ab.sj
  rw[ad hb];exact h
def rkE:Nat:=1026
def rk0:Nat:=65^rkE
def ao8(a:sy w) (d:w.length<=1024):dS w<rk0:=by
 have b:=vX a;exact ui b (Nat.pow_le_pow_right bO (by unfold rkE;omega))
def MO (fs:List (Option (List Int))):Nat:=(fs.map λo=>match o with
 |none=>rk0
 |some w=>dS w).sum
def WA:∀{l:List Nat}{k:Nat}{x:Nat}(h:k<l.length),x<l[k]->(l.set k x).sum<l.sum
 | [],k,x,h,_=>by simp at h
 |a::l,0,x,h,b=>by simp at b ⊢;omega
 |a::l,k+1,x,h,b=>by
  have:=WA (l:=l) (k:=k) (x:=x) cq (by simpa using b)
  simp;omega
def ao9 (a:∀(k:Nat) w,ix fs (k:Int)=some w->sy w)(b:k<fs.length) (d:sy w) (h:si fs k w=true):MO (sj fs k w)<MO fs:=by
 have g:=Wy h;unfold MO sj;rw[ae h,o8];refine WA (by simpa using b) ?_
 rw[lI];have i:fs[k]=ix fs (k:Int):=(aB b).symm;unfold si at h;rw[i];cases e:ix fs (k:Int)with
 |none=>exact ao8 d g
 |some v=>
  rw[e]at h;simp only[aH,eo]at h;have j:=h.2;have l:=cC.fL v w;exact KM d (a k v e) aa
end
section
variable{n:ao}{K:List (List Int)}{cls:List Int}{fs gs:List (Option (List Int))}
def iX (cls:List Int) (x:Nat):Nat:=(ix cls (x:Int)).toNat
def oQ.cl (h:oQ n K cls){x:Nat}(hx:x<K.length):ix cls (x:Int)=((iX cls x:Nat):Int)/\iX cls x<=x/\ix cls ((iX cls x:Nat):Int)=((iX cls x:Nat):Int):=by
 obtain⟨y,h1,h2,h3⟩:=h.m x hx;have:iX cls x=y:=by unfold iX;rw[h1];simp
 rw[this];exact⟨h1,h2,h3⟩
def ao.wI (n:ao) (u:List Int) (i:Nat):List Int:=u ++ [n.calls+(i:Int)]
def ao.wJ (n:ao) (u w:List Int) (j:Nat):List Int:=u++((j/n.ah.toNat:Nat):Int)::(w ++ [n.calls+n.ak+((j%n.ah.toNat:Nat):Int)])
def MP (n:ao) (K:List (List Int)) (cls:List Int) (fs:List (Option (List Int))) (v i:Nat):Prop:=∀u,ix fs (v:Int)=some u->si fs (iX cls (n.nQ K v (i:Int))) (n.wI u i)=false
def MQ (n:ao) (K:List (List Int)) (cls:List Int) (fs:List (Option (List Int))) (v k j:Nat):Prop:=∀u w,ix fs (v:Int)=some u->ix fs (k:Int)=some w->si fs (iX cls (n.jR K v k j)) (n.wJ u w j)=false
structure Sw (n:ao) (K:List (List Int)) (cls:List Int) (fs gs:List (Option (List Int))) (ch:Bool) (P:Prop):Prop where
 f:qN n K cls gs
 n:ch=false->gs=fs/\P
 y:ch=true->MO gs<MO fs
def qN.sy (h:qN n K cls fs) (hn:n.Ok):∀(k:Nat) w,ix fs (k:Int)=some w->Ab.sy w:=λk w hk=>by
 by_cases hl:k<K.length
 .obtain⟨_,x,_,hx,_⟩:=h.s k hl w hk
  exact hx.ww.sy hn.cK
 .have:=h.l
  have e:ix fs (k:Int)=none:=by
   show fs.getD (k:Int).toNat default=none;rw[gD,jg ax];rfl
  rw[e]at hk;simp at hk
variable{ch:Bool}{P:Prop}{k:Nat}{w:List Int}
def Sw.step{Q:Prop}(h:Sw n K cls fs gs ch P) (hn:n.Ok)(hk:k<K.length) (hw:∃x,x<K.length/\n.RX K x w/\ix cls (x:Int)=k) (hQ:gs=fs->si gs k w=false->Q):Sw n K cls fs (sj gs k w) (si gs k w||ch) (P/\Q):=by
 refine⟨h.f.sj hk hw,λe=>?_,λe=>?_⟩
 .simp only[Bool.or_eq_false_iff]at e
  obtain⟨e1,e2⟩:=e;obtain⟨h1,h2⟩:=h.n e2;unfold sj;rw[ad (by rw[e1];simp)]
  exact⟨h1,h2,hQ h1 e1⟩
 .obtain⟨x,_,hx,_⟩:=hw
  cases e1:si gs k w with
  |true=>
   have:=ao9 (h.f.sy hn) (by have:=h.f.l;omega) (hx.ww.sy hn.cK) e1
   cases e2:ch with
   |true=>have:=h.y e2;omega
   |false=>obtain⟨h1,_⟩:=h.n e2;rw[<-h1];exact this
  |false=>
   rw[e1]at e;have:=h.y gC
   unfold sj;rw[ad (by rw[e1];simp)]
   exact this
def Sw.imp{Q:Prop}(h:Sw n K cls fs gs ch P) (hQ:gs=fs->P->Q):Sw n K cls fs gs ch Q:=⟨h.f,λe=>⟨(h.n e).1,hQ (h.n e).1 (h.n e).2⟩,h.y⟩
def WB{v:Nat}(a:v<gs.length) (h:(ix gs (v:Int)).isSome=true):(ix (sj gs k w) (v:Int)).isSome=true:=by
 unfold sj;split
 .rw[aB iJ,qn]
  split
  .rfl
  .rw[<-aB a];exact h
 .exact h
end
variable{x v:Nat}
def oQ.imE{n:ao}{K:List (List Int)}{cls:List Int}(hC:oQ n K cls) (hF:jQ n K)(hx:x<K.length) (hv:v<K.length) (e:ix cls (x:Int)=ix cls (v:Int)){i:Int}(i0:0<=i) (i1:i<n.ak):ix cls (n.nQ K x i:Int)=ix cls (n.nQ K v i:Int):=by
 obtain⟨u,hu⟩:=hF.word hx;obtain⟨w,hw⟩:=hF.word hv;obtain⟨a1,a2⟩:=hF.im hx i0 i1;obtain⟨b1,b2⟩:=hF.im hv i0 i1;exact(hC.a _ _ _ _ a1 b1 (a2 u hu) (b2 w hw)).1 (((hC.a _ _ _ _ hx hv hu hw).2 e).aQ i0 i1)
variable{k:Nat}
def oQ.bkE{n:ao}{K:List (List Int)}{cls:List Int}(hC:oQ n K cls) (hF:jQ n K) (hn:n.Ok){y:Nat}(hx:x<K.length) (hv:v<K.length) (hy:y<K.length) (hk:k<K.length) (e:ix cls (x:Int)=ix cls (v:Int)) (e2:ix cls (y:Int)=ix cls (k:Int)){c r:Int}(c0:0<=c) (c1:c<n.calls) (r0:0<=r) (r1:r<n.ah):ix cls (n.xJ K x c y r:Int)=ix cls (n.xJ K v c k r:Int):=by
 obtain⟨u,hu⟩:=hF.word hx;obtain⟨w,hw⟩:=hF.word hv;obtain⟨p,hp⟩:=hF.word hy;obtain⟨q,hq⟩:=hF.word hk;obtain⟨a1,a2⟩:=hF.bk hn hx hy c0 c1 r0 r1;obtain⟨b1,b2⟩:=hF.bk hn hv hk c0 c1 r0 r1;exact(hC.a _ _ _ _ a1 b1 (a2 u p hu hp) (b2 w q hw hq)).1 (((hC.a _ _ _ _ hx hv hu hw).2 e).aq ((hC.a _ _ _ _ hy hk hp hq).2 e2) c0 c1 r0 r1 hw.ww hp.ww)
variable{u:List Int}
def qN.cl{n:ao}{K:List (List Int)}{cls:List Int}{gs:List (Option (List Int))}(h:qN n K cls gs) (hC:oQ n K cls)(hv:v<K.length) (hu:ix gs (v:Int)=some u):∃x,x<K.length/\n.RX K x u/\ix cls (x:Int)=ix cls (v:Int):=by
 obtain⟨_,x,hx,WC,hxc⟩:=h.s v hv u hu;obtain⟨y,h1,h2,h3⟩:=hC.m x hx;have:y=v:=aa
 subst this;exact⟨x,hx,WC,by rw[h3,h1]⟩
def qN.wI{n:ao}{K:List (List Int)}{cls:List Int}{gs:List (Option (List Int))}(h:qN n K cls gs) (hC:oQ n K cls) (hF:jQ n K){i:Nat}(hv:v<K.length) (hu:ix gs (v:Int)=some u) (hi:i<n.ak.toNat):∃x,x<K.length/\n.RX K x (n.wI u i)/\ix cls (x:Int)=((iX cls (n.nQ K v (i:Int)):Nat):Int):=by
 obtain⟨x,hx,WC,e⟩:=h.cl hC hv hu;obtain⟨a1,a2⟩:=hF.im (i:=(i:Int)) hx aa aa
 have b1:=(hF.im (i:=(i:Int)) hv aa aa).1
 exact⟨_,a1,a2 u WC,by rw[hC.imE hF hx hv e aa aa];exact(hC.cl b1).1⟩
def qN.wJ{n:ao}{K:List (List Int)}{cls:List Int}{gs:List (Option (List Int))}(h:qN n K cls gs) (hC:oQ n K cls) (hF:jQ n K) (hn:n.Ok){j:Nat}{w:List Int}(hv:v<K.length) (hk:k<K.length) (hu:ix gs (v:Int)=some u) (hw:ix gs (k:Int)=some w) (hj:j<n.calls.toNat*n.ah.toNat):∃x,x<K.length/\n.RX K x (n.wJ u w j)/\ix cls (x:Int)=((iX cls (n.jR K v k j):Nat):Int):=by
 obtain⟨x,hx,WC,e⟩:=h.cl hC hv hu;obtain⟨y,hy,hyw,e2⟩:=h.cl hC hk hw;have Fa:0<n.ah.toNat:=by
  rcases uk n.ah.toNat with e|e
  .rw[e]at hj;omega
  .exact e
 have hc:j/n.ah.toNat<n.calls.toNat:=(oV Fa).2 hj;have hr:j%n.ah.toNat<n.ah.toNat:=l6 _ Fa;unfold ao.jR ao.wJ;generalize j/n.ah.toNat=c at *;generalize j%n.ah.toNat=r at *;obtain⟨a1,a2⟩:=hF.bk hn (c:=(c:Int)) (r:=(r:Int)) hx hy aa aa aa aa
 have b1:=(hF.bk hn (c:=(c:Int)) (r:=(r:Int)) hv hk aa aa aa aa).1
 exact⟨_,a1,a2 u w WC hyw,by rw[hC.bkE hF hn hx hv hy hk e e2 aa aa aa aa];exact(hC.cl b1).1⟩
def MS (n:ao) (K:List (List Int)) (cls:List Int) (fs:List (Option (List Int))):Prop:=∀v,v<K.length->(∀i,i<n.ak.toNat->MP n K cls fs v i)/\∀k j,k<K.length->j<n.calls.toNat*n.ah.toNat->MQ n K cls fs v k j
def AK (K:List (List Int)) (cls:List Int) (fs:List (Option (List Int))):Prop:=∀v:Nat,v<K.length->ix cls (v:Int)=v->(ix fs (v:Int)).isSome=true
def WrQ (n:ao) (K:List (List Int)) (cls:List Int) (r:Option AV):Prop:=∃fs,qN n K cls fs/\MS n K cls fs/\(AK K cls fs->∃a,r=some (.bM [.aF false (fs.map λo=>match o with|none=>.aF false []|some w=>iL w),a,.bool true]))/\(¬AK K cls fs->r=some (.bM [.aF false [],.aF false [],.bool false]))
def qN.init{n:ao}{K:List (List Int)}{cls:List Int}(hF:jQ n K) (AU:ix cls 0=0):qN n K cls ((List.replicate K.length none).set 0 (some [])):=by
 have Wr:=hF.k.h0.1;refine⟨ab,λk hk w hw=>?_,?_⟩
 .rw[aB (by simp;exact hk),qn]at hw
  by_cases e:0=k
  .rw[ae e]at hw
   cases hw;subst e;exact⟨ab,0,Wr,hF.zero,by exact AU⟩
  .rw[ad e]at hw;simp at hw
 .rw[show(0:Int)=((0:Nat):Int)from rfl,aB (by simp;exact Wr)]
  simp
def X7 (n:ao) (K:List (List Int)) (cls:List Int) (fs:List (Option (List Int))) (v:Nat):Prop:=(∀i,i<n.ak.toNat->MP n K cls fs v i)/\∀k j,k<K.length->j<n.calls.toNat*n.ah.toNat->MQ n K cls fs v k j
variable{N:Nat}
def WD{gs:List (Option (List Int))}(a:gs.length=N) (h:v<N):ix (gs.map λo=>AV.bool o.isSome) (v:Int) = .bool (ix gs (v:Int)).isSome:=o7
def WE{gs:List (Option (List Int))}(a:gs.length=N) (h:v<N):ix (gs.map fo) (v:Int)=fo (ix gs (v:Int)):=o7
def apa (n:ao) (hn:n.Ok) (K:List (List Int)) (hF:jQ n K) (cls:List Int) (hC:oQ n K cls):WrQ n K cls (PC Cz [n.sys K,iL cls]):=by
 have h1:LX L Cz [n.sys K,iL cls] [] (λv cR =>WrQ n K cls (bP cR false v)):=by
  refine ai8 rfl ?_;have EN:=hF.l;have Wr:=hF.k.h0.1;have I:=hC.l;have D6:=hn.ak;have D4:=hn.calls;have D5:=hn.ah;obtain⟨ni,yU⟩:=gM D6.1;obtain⟨nc,z8⟩:=gM D4.1;obtain⟨Z,AX⟩:=gM D5.1;have hTi:n.ak.toNat=ni:=aa
  have we:n.calls.toNat=nc:=aa
  have uh:n.ah.toNat=Z:=aa
  have hm:nc*Z<=64*64:=jT aa aa
  have hmI:n.calls*n.ah=((nc*Z:Nat):Int):=by rw[z8,AX,qb]
  have AU:ix cls 0=0:=by
   obtain⟨y,a,b,c⟩:=hC.m 0 Wr;rw[show((0:Nat):Int)=0 from rfl]at a;rw[a];omega
  have hIx:=λ(x:Nat) (hx:x<K.length)=>tR (n:=n) hx;have hPx:=λ(x:Nat) (hx:x<K.length)=>rj (n:=n) hx;have X8:=qN.init (n:=n) (K:=K) (cls:=cls) hF AU;unfold ao.sys ao.kQ;simp only[jD,mQ];generalize (List.range K.length).map (n.lU K)=SA at *;have aqF:((List.range K.length).map (n.iW K)).length=K.length:=ab
  have aqG:((List.range K.length).map (n.ll K)).length=K.length:=ab
  generalize (List.range K.length).map (n.iW K)=SI at *;generalize (List.range K.length).map (n.ll K)=SP at *;have hcp:=az (show 0<cls.length by omega)
  have yd : -9223372036854775808<=n.calls*n.ah/\n.calls*n.ah<=9223372036854775807:=aa
  simp[-aj,hcp,AU];refine⟨aa,aa,aK (λq:List (Option (List Int))×Bool×AV=>[(4,.bool q.2.1),(5,q.2.2)]) (λq=>pZ q.1) (λq=>qN n K cls q.1/\(q.2.1=false->MS n K cls q.1)) (λq=>2*MO q.1+if q.2.1 then 1 else 0) ((List.replicate K.length none).set 0 (some []),true,.aO) (by simp[du,pZ,lP,fo,I];rfl) ⟨X8,ab⟩ ?_⟩
  rintro⟨fs,ch,u⟩ ⟨P,hch⟩;dsimp only at P hch ⊢;cases ch with
  |false=>
   have BA:=hch rfl;have wQ:fs.length=cls.length:=by rw[P.l,I]
   simp[-aj];refine aK (λv:Nat=>[(12,.int v)]) (λ_=>pZ fs) (λv=>v<=K.length/\∀d, d < v->ix cls (d : Int)=d ->(ix fs (d : Int)).isSome=true) (λv=>K.length-v) 0 aX ⟨ab,λv A=>aa⟩ ?_
   rintro v ⟨v0,v1⟩;have R:aq (pZ fs) 1=some ⟨none,fs.map λo=>.bool o.isSome,.live⟩:=rfl
   by_cases A:v<K.length
   .have z:=az (show v<cls.length by omega)
    have hnx:((ix cls (v:Int)=v->(ix fs (v:Int)).isSome=true))->∀d, d < v+1->ix cls (d : Int)=d ->(ix fs (d : Int)).isSome=true:=λh d r e=>by
     by_cases e2:d = v
     .subst e2;exact h e
     .exact v1 d aa e
    by_cases hc:ix cls (v:Int)=v
    .cases hg:ix fs (v:Int)with
     |none=>
      simp[-aj,z,hc,R,hg,wQ];refine⟨fs,P,BA,λh=>?_,λ_=>rfl⟩;have:=h v A hc;rw[hg]at this;simp at this
     |some w=>
      simp[-aj,z,hc,R,hg,wQ];exact⟨aa,aD (v+1) ab rfl ⟨aa,hnx λ_=>by rw[hg];rfl⟩ aa⟩
    .simp[-aj,z,hc]
     exact⟨aa,aD (v+1) ab rfl ⟨aa,hnx λe=>absurd e hc⟩ aa⟩
   .have ev:v=K.length:=by omega
    subst ev;have r :=bX (show ¬K.length<cls.length by omega)
    have vf:=dQ (σ:=pZ fs) (fr:=false) (b:=0) (k:=11) (n:=cls.length) (f:=fo) (g:=λo=>match o with|none=>.aF false []|some w=>iL w) (xs:=fs) (st:=.live) rfl rfl wQ.symm λo _=>by cases o<;>rfl
    have vk:=dQ (σ:=pZ fs) (fr:=false) (b:=1) (k:=11) (n:=cls.length) (f:=λo=>AV.bool o.isSome) (g:=λo=>AV.bool o.isSome) (xs:=fs) (st:=.live) rfl rfl wQ.symm λo _=>rfl;simp[-aj,r];refine⟨fs,P,BA,λ_=>⟨.aF false (fs.map λo=>AV.bool o.isSome),?_⟩,λh=>absurd (λv A hc=>v1 v A hc) h⟩;have vf' : view (pZ fs) false vd (.sl 0 cls.length 0 cls.length)=_:=vf;have vk' : view (pZ fs) false vd (.sl 1 cls.length 0 cls.length)=_:=vk;rw[vf', vk']
  |true=>
   simp[-aj];refine aK (λq:Nat×List (Option (List Int))×Bool=>[(4,.bool q.2.2),(5,.int q.1)]) (λq=>pZ q.2.1) (λq=>q.1<=K.length/\Sw n K cls fs q.2.1 q.2.2 (∀v,v<q.1->X7 n K cls fs v)) (λq=>K.length-q.1) (0,fs,false) aX ⟨ab,P,λ_=>⟨rfl,λv A=>by dsimp only at A;omega⟩,λh=>eX⟩ ?_
   rintro⟨v,gs,c1⟩ ⟨v0,hS⟩;dsimp only at v0 hS ⊢
   by_cases A:v<K.length
   .have r :=az (show(v:Int)<(cls.length:Int)by omega)
    have SH:gs.length=cls.length:=by rw[hS.f.l,I]
    have R:aq (pZ gs) 1=some ⟨none,gs.map λo=>.bool o.isSome,.live⟩:=rfl;have tY:=WD SH (show v<cls.length by omega)
    have z:=az (show v<cls.length by omega)
    have hSI:=az (show v<SI.length by omega)
    cases J:ix gs (v:Int)with
    |none=>
     simp[-aj,r, R,J,SH,z];refine⟨aa,aD (v+1,gs,c1) ab rfl ⟨au,hS.imp λe h d r =>?_⟩ au⟩
     by_cases e2:d = v
     .subst e2
      rw[e]at J;exact⟨λi _ u C=>by rw[J]at C;simp at C,λk j _ _ u w C=>by rw[J]at C;simp at C⟩
     .exact h d (by dsimp only at r; omega)
    |some u0=>
     simp[-aj,r, R,J,SH,z];refine aK (λq:Nat×List (Option (List Int))×Bool=>[(4,.bool q.2.2),(6,.int q.1)]) (λq=>pZ q.2.1) (λq=>q.1<=ni/\Sw n K cls fs q.2.1 q.2.2 ((∀d, d < v->X7 n K cls fs d)/\∀i,i<q.1->MP n K cls fs v i)/\(ix q.2.1 (v:Int)).isSome=true) (λq=>ni-q.1) (0,gs,c1) aX ⟨ab,hS.imp λ_ h=>⟨h,λi hi=>by dsimp only at hi;omega⟩,by rw[J];rfl⟩ ?_
     rintro⟨i,hs,c2⟩ ⟨i0,hT,S⟩;dsimp only at i0 hT S ⊢;have T:hs.length=cls.length:=by rw[hT.f.l,I]
     obtain⟨u,C⟩:=ru.1 S;have xz:aq (pZ hs) 0=some ⟨none,hs.map fo,.live⟩:=rfl;have hfv:=WE T (show v<cls.length by omega)
     obtain⟨qc,x,hx,Ee,hxc⟩:=hT.f.s v A u C
     by_cases hi:i<ni
     .have D :=az (show(i:Int)<n.ak by omega)
      have hj:PC xb [.aF false [iL u,.aF false [.int (n.calls+(i:Int))]]]=some (iL (n.wI u i)):=by
       have:=VN [(false,u),(false,[n.calls+(i:Int)])] ab ax
       rw[show[(false,u),(false,[n.calls+(i:Int)])].map wB=[iL u,.aF false [.int (n.calls+(i:Int))]]from rfl]at this;rw[this];simp[ao.wI]
      have MC:=(hF.im (i:=(i:Int)) A aa aa).1
      obtain⟨U,wN,hc3⟩:=hC.cl MC;have hN:=Wx hs cls.length T aa (iX cls (n.nQ K v (i:Int))) aa (n.wI u i) (by unfold ao.wI;simp;omega) (λw M=>(hT.f.s _ aa w M).1)
      have b1:=AJ (n:=n) (K:=K) (x:=v) (i:=i) aa
      have l1:=az (show i<(n.iW K v).length by rw[Ec];omega)
      have l2:=az (show n.nQ K v (i:Int)<cls.length by omega)
      have hIv:=hIx v A;have B:=hT.step (Q:=MP n K cls fs v i) hn (k:=iX cls (n.nQ K v (i:Int))) (w:=n.wI u i) aa (hT.f.wI hC hF A C aa) (λe h0 u' F =>by rw[<-e]at F ⊢;rw[C]at F; cases F; exact h0)
      have E:=WB (gs:=hs) (k:=iX cls (n.nQ K v (i:Int))) (w:=n.wI u i) (v:=v) aa S
      generalize sj hs (iX cls (n.nQ K v (i:Int))) (n.wI u i)=Mu at *;cases V:si hs (iX cls (n.nQ K v (i:Int))) (n.wI u i)with
      |true=>
       rw[V]at hN B;simp[-aj,D, xz,C,T,z,fo,hj,hSI,hIv,b1,l1,l2,U,hN];exact⟨aa,aa,aD (i+1,Mu,true) ab rfl ⟨au,B.imp λ_ h=>⟨h.1.1,λi' D =>by by_cases e:i' = i;(subst e;exact h.2);exact h.1.2 i' (by dsimp only at D; omega)⟩,E⟩ au⟩
      |false=>
       rw[V]at hN B;simp[-aj,D, xz,C,T,z,fo,hj,hSI,hIv,b1,l1,l2,U,hN];exact⟨aa,aa,aD (i+1,Mu,c2) ab rfl ⟨au,B.imp λ_ h=>⟨h.1.1,λi' D =>by by_cases e:i' = i;(subst e;exact h.2);exact h.1.2 i' (by dsimp only at D; omega)⟩,E⟩ au⟩
     .have ei:i=ni:=by omega
      have D :=bX (show ¬(i:Int)<n.ak by omega)
      simp[-aj,D];refine aK (λq:Nat×List (Option (List Int))×Bool=>[(4,.bool q.2.2),(9,.int q.1)]) (λq=>pZ q.2.1) (λq=>q.1<=K.length/\Sw n K cls fs q.2.1 q.2.2 (((∀d, d < v->X7 n K cls fs d)/\∀i,i<ni->MP n K cls fs v i)/\∀k,k<q.1->∀j,j<nc*Z->MQ n K cls fs v k j)/\(ix q.2.1 (v:Int)).isSome=true) (λq=>K.length-q.1) (0,hs,c2) aX ⟨ab,hT.imp λ_ h=>⟨⟨h.1,λj hj=>h.2 j aa⟩,λk hk=>by dsimp only at hk;omega⟩,S⟩ ?_
      clear C hfv xz qc hx Ee hxc;clear hT S T;rintro⟨k,ks,c3⟩ ⟨k0,hU,X3⟩;dsimp only at k0 hU X3 ⊢;have Gi:ks.length=cls.length:=by rw[hU.f.l,I]
      have apb:aq (pZ ks) 1=some ⟨none,ks.map λo=>.bool o.isSome,.live⟩:=rfl
      by_cases hk:k<K.length
      .have G :=az (show(k:Int)<(cls.length:Int)by omega)
       have Ap:=az (show k<cls.length by omega)
       simp[-aj,G];refine aK (λq:Nat×List (Option (List Int))×Bool=>[(4,.bool q.2.2),(10,.int q.1)]) (λq=>pZ q.2.1) (λq=>q.1<=nc*Z/\Sw n K cls fs q.2.1 q.2.2 ((((∀d, d < v->X7 n K cls fs d)/\∀i,i<ni->MP n K cls fs v i)/\∀k', k' < k->∀j,j<nc*Z->MQ n K cls fs v k' j)/\∀j,j<q.1->MQ n K cls fs v k j)/\(ix q.2.1 (v:Int)).isSome=true) (λq=>nc*Z-q.1) (0,ks,c3) aX ⟨ab,hU.imp λ_ h=>⟨h,λj hj=>by dsimp only at hj;omega⟩,X3⟩ ?_
       clear hU X3 Gi apb;rintro⟨j,O,c4⟩ ⟨j0,hW,W⟩;dsimp only at j0 hW W ⊢;have X:O.length=cls.length:=by rw[hW.f.l,I]
       have H:aq (pZ O) 1=some ⟨none,O.map λo=>.bool o.isSome,.live⟩:=rfl;have WG:aq (pZ O) 0=some ⟨none,O.map fo,.live⟩:=rfl;obtain⟨u,C⟩:=ru.1 W;cases M:ix O (k:Int)with
       |none=>
        simp[-aj,H,M,X,Ap];refine⟨aa,aD (k+1,O,c4) ab rfl ⟨au,hW.imp λe h=>⟨h.1.1,λk' G j' p =>?_⟩,W⟩ au⟩
        by_cases e2:k' = k
        .subst e2
         rw[e]at M;exact λu' w' _ N =>by rw[M]at N; simp at N
        .exact h.1.2 k' (by dsimp only at G; omega) j' p
       |some w=>
        by_cases hj:j<nc*Z
        .have p :=az (show(j:Int)<n.calls*n.ah by omega)
         have Y:j<n.calls.toNat*n.ah.toNat:=by rw[we,uh];exact hj
         have aqH:0<Z:=by
          rcases uk Z with e|e
          .rw[e]at hj;omega
          .exact e
         obtain⟨KP,_⟩:=hW.f.s k hk w M;obtain⟨qc,_⟩:=hW.f.s v A u C;have Fa:=bX (show ¬n.ah=0 by omega)
         have A6:(j:Int)/n.ah=((j/n.ah.toNat:Nat):Int):=by rw[uh,AX];exact Int.natCast_ediv .. |>.symm
         have X9:(j:Int).tmod n.ah=((j%n.ah.toNat:Nat):Int):=by rw[uh,AX,Int.tmod_eq_emod_of_nonneg aa];exact Int.natCast_emod .. |>.symm
         have MT:j/n.ah.toNat<=64:=by
          have:j/n.ah.toNat<n.calls.toNat:=(oV aa).2 Y
          omega
         have hmo:j%n.ah.toNat<n.ah.toNat:=l6 _ aa
         have hjn:PC xb [.aF false [iL u,.aF false [.int ((j/n.ah.toNat:Nat):Int)],iL w,.aF false [.int (n.calls+n.ak+((j%n.ah.toNat:Nat):Int))]]]=some (iL (n.wJ u w j)):=by
          have:=VN [(false,u),(false,[((j/n.ah.toNat:Nat):Int)]),(false,w),(false,[n.calls+n.ak+((j%n.ah.toNat:Nat):Int)])] ab ax
          rw[show[(false,u),(false,[((j/n.ah.toNat:Nat):Int)]),(false,w),(false,[n.calls+n.ak+((j%n.ah.toNat:Nat):Int)])].map wB=[iL u,.aF false [.int ((j/n.ah.toNat:Nat):Int)],iL w,.aF false [.int (n.calls+n.ak+((j%n.ah.toNat:Nat):Int))]]from rfl]at this;rw[this];simp[ao.wJ]
         have KJ:=xO hF hn A hk Y;obtain⟨U,wN,hc3⟩:=hC.cl KJ;have hN:=Wx O cls.length X aa (iX cls (n.jR K v k j)) aa (n.wJ u w j) (by unfold ao.wJ;simp;omega) (λw M=>(hW.f.s _ aa w M).1)
         have q1:=vq (n:=n) (K:=K) (x:=v) (y:=k) hk;have q2:=vt (n:=n) (K:=K) (x:=v) (y:=k) Y;have l1:=az (show k<(n.ll K v).length by rw[xM];omega)
         have l2:=az (show j<(n.sP K v k).length by rw[xN];exact Y)
         have l3:=az (show n.jR K v k j<cls.length by omega)
         have l4:=az (show v<SP.length by omega)
         have hPv:=hPx v A;have B:=hW.step (Q:=MQ n K cls fs v k j) hn (k:=iX cls (n.jR K v k j)) (w:=n.wJ u w j) aa (hW.f.wJ hC hF hn A hk C M Y) (λe h0 u' w' F N =>by rw[<-e]at F N ⊢;rw[C]at F; rw[M]at N; cases F; cases N; exact h0)
         have E:=WB (gs:=O) (k:=iX cls (n.jR K v k j)) (w:=n.wJ u w j) (v:=v) aa W
         have B5:n.calls<=64/\n.ak<=64/\n.ah<=64:=⟨D4.2,D6.2,D5.2⟩;generalize sj O (iX cls (n.jR K v k j)) (n.wJ u w j)=js2 at *;generalize j/n.ah.toNat=jd at *;generalize j%n.ah.toNat=jr at *;cases V:si O (iX cls (n.jR K v k j)) (n.wJ u w j)with
         |true=>
          rw[V]at hN B;simp[-aj,H,WG,M,C,X,Ap,z,yd,p, Fa,A6,X9,fo,hjn,l4,hPv,q1,q2,l1,l2,l3,U,hN];exact⟨aa,aa,aa,aa,aD (j+1,js2,true) ab rfl ⟨au,B.imp λ_ h=>⟨h.1.1,λj' p =>by by_cases e:j' = j;(subst e;exact h.2);exact h.1.2 j' (by dsimp only at p; omega)⟩,E⟩ au⟩
         |false=>
          rw[V]at hN B;simp[-aj,H,WG,M,C,X,Ap,z,yd,p, Fa,A6,X9,fo,hjn,l4,hPv,q1,q2,l1,l2,l3,U,hN];exact⟨aa,aa,aa,aa,aD (j+1,js2,c4) ab rfl ⟨au,B.imp λ_ h=>⟨h.1.1,λj' p =>by by_cases e:j' = j;(subst e;exact h.2);exact h.1.2 j' (by dsimp only at p; omega)⟩,E⟩ au⟩
        .have p :=bX (show ¬(j:Int)<n.calls*n.ah by omega)
         simp[-aj,H,M,X,Ap,yd,p];refine⟨aa,aD (k+1,O,c4) ab rfl ⟨au,hW.imp λe h=>⟨h.1.1,λk' G j' p =>?_⟩,W⟩ au⟩
         by_cases e2:k' = k
         .subst e2;exact h.2 j' aa
         .exact h.1.2 k' (by dsimp only at G; omega) j' p
      .have ek:k=K.length:=by omega
       subst ek;have G :=bX (show ¬(K.length:Int)<(cls.length:Int)by omega)
       simp[-aj,G];refine⟨aa,aD (v+1,ks,c3) ab rfl ⟨au,hU.imp λe h d r =>?_⟩ au⟩
       by_cases e2:d = v
       .subst e2
        exact⟨λi hi=>h.1.2 i aa,λk j hk hj=>h.2 k hk j (by rw[<-we,<-uh];exact hj)⟩
       .exact h.1.1 d (by dsimp only at r; omega)
   .have ev:v=K.length:=by omega
    subst ev;have r :=bX (show ¬(K.length:Int)<(cls.length:Int)by omega)
    simp[-aj,r];refine aD (gs,c1,.int (K.length:Int)) ab rfl ⟨hS.f,λe=>?_⟩ ?_
    .obtain⟨a,b⟩:=hS.n e
     dsimp only;rw[a];exact λv A=>b v A
    .dsimp only
     cases c1 with
     |true=>have:=hS.y rfl;simp;omega
     |false=>obtain⟨a,_⟩:=hS.n rfl;rw[a];simp
 obtain⟨v,cR, A,h⟩:=dd h1;unfold PC rW;rw[A];exact h
end Ab
