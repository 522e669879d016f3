/- The document's first words are the least words of the classes; and what it leans on. Condition: none. -/
import Derived.Test.YtdenhmniigikcaaGreatR44H
import Derived.Test.YtdenhmniigikcaaGreatR44A
import Derived.Test.YtdenhmniigikcaaGreatS44U
set_option linter.all false
set_option maxRecDepth 100000
set_option maxHeartbeats 8000000
namespace Ab
variable{u w:List Int}
def apc{s:List Int}(g:sy u) (i:sy w) (d:sy s) (h:aI u w<=0):aI (u++s) (w++s)<=0:=by
 have a:sy (u++s):=λx e=>(cY.1 e).elim (g x) (d x);have b:sy (w++s):=λx e=>(cY.1 e).elim (i x) (d x);exact(oG a b).2 (DE d ((oG g i).1 h) (bd _))
def Ef(b:sy u) (a:sy w) (h:aI u w<=0):u.length<=w.length:=xr a ((oG b a).1 h)
section
variable{n:ao}{K:List (List Int)}{cls:List Int}{fs:List (Option (List Int))}
variable{w:List Int}
def Ff{k:Nat}(h:si fs k w=false) (b:w.length<=1024):∃z,ix fs (k:Int)=some z/\aI z w<=0:=by
 unfold si at h;rw[mf b,Bool.true_and]at h;cases a:ix fs (k:Int)with
 |none=>rw[a]at h;simp at h
 |some z=>
  rw[a]at h;simp only[uA]at h;exact⟨z,rfl,aa⟩
def oQ.zero (hC:oQ n K cls) (hK:0<K.length):iX cls 0=0:=by
 have:=(hC.cl hK).2.1;omega
def apd (b:n.Ok) (e:jQ n K) (A:oQ n K cls) (hf:qN n K cls fs) (hc:MS n K cls fs)(j:Ww n.cK w):∀x,x<K.length->n.RX K x w->w.length<=1024->∃u,ix fs ((iX cls x:Nat):Int)=some u/\aI u w<=0:=by
 have B:=hf.sy b
 induction j with
 |nil=>
  intro x D g _;have:x=0:=e.oN b D e.k.h0.1 g e.zero;subst this;rw[A.zero e.k.h0.1];exact⟨[],hf.z,Int.le_of_eq (cC.refl _)⟩
 |aQ w i i0 i1 j ih=>
  intro x D g R;obtain⟨y,l,h⟩:=e.all b j;obtain⟨S,T⟩:=e.im (i:=i) l i0 i1;have:x=n.nQ K y i:=e.oN b D S g (T w h);subst this;simp only[aU,List.length_singleton]at R;obtain⟨u,m,hle⟩:=ih y l h aa
  have U:=Ef (B _ _ m) (j.sy b.cK) hle;obtain⟨V,c2,c3⟩:=A.cl l;have hi:((i.toNat:Nat):Int)=i:=aa
  have hi1:i<n.ak:=i1;have E:=(hc (iX cls y) aa).1 i.toNat aa u m
  have o:iX cls (n.nQ K (iX cls y) (i.toNat:Nat))=iX cls (n.nQ K y i):=by
   have:=A.imE e (x:=iX cls y) (v:=y) aa l (by rw[c3,V]) i0 i1
   unfold iX at this ⊢;rw[hi,this]
  rw[o]at E;obtain⟨z,C,W⟩:=Ff E (by simp[ao.wI];omega)
  refine⟨z,C,cC.trans _ _ _ W ?_⟩;unfold ao.wI;rw[hi];refine apc (B _ _ m) (j.sy b.cK) ?_ hle;have X:=b.calls;have Y:=b.ak;have Z:=b.syms;have hrb:=b.ah;intro a d;simp at d;omega
 |aq w q c r c0 F r0 r1 j hq nw oz=>
  intro x D g R;obtain⟨y,l,h⟩:=e.all b j;obtain⟨z,C,G⟩:=e.all b hq;obtain⟨S,T⟩:=e.bk b l C c0 F r0 r1;have:x=n.xJ K y c z r:=e.oN b D S g (T w q h G);subst this;simp only[aU,cO,fe]at R;obtain⟨u,m,hle⟩:=nw y l h aa
  obtain⟨p,hp,H⟩:=oz z C G aa
  have U:=Ef (B _ _ m) (j.sy b.cK) hle;have sb:=Ef (B _ _ hp) (hq.sy b.cK) H;obtain⟨d1,d2,d3⟩:=A.cl l;obtain⟨e1,e2,e3⟩:=A.cl C;have I:((c.toNat:Nat):Int)=c:=aa
  have J:((r.toNat:Nat):Int)=r:=aa
  have X:=b.calls;have Y:=b.ak;have Z:=b.syms;have hrb:=b.ah;have V:c<n.calls:=F;have DR : r<n.ah:=r1;have hj:c.toNat*n.ah.toNat+r.toNat<n.calls.toNat*n.ah.toNat:=by
   have:(c.toNat+1)*n.ah.toNat<=n.calls.toNat*n.ah.toNat:=lr _ aa
   rw[Nat.succ_mul]at this;omega
  have E:=(hc (iX cls y) aa).2 (iX cls z) _ aa hj u p m hp
  have L:(c.toNat*n.ah.toNat+r.toNat)/n.ah.toNat=c.toNat:=by rw[mO,Nat.mul_add_div aa,Nat.div_eq_of_lt aa,kf]
  have M:(c.toNat*n.ah.toNat+r.toNat)%n.ah.toNat=r.toNat:=by rw[mO,Nat.mul_add_mod,Nat.mod_eq_of_lt aa]
  have o:iX cls (n.jR K (iX cls y) (iX cls z) (c.toNat*n.ah.toNat+r.toNat))=iX cls (n.xJ K y c z r):=by
   have:=A.bkE e b (x:=iX cls y) (v:=y) (y:=iX cls z) (k:=z) aa l aa C (by rw[d3,d1]) (by rw[e3,e1]) c0 V r0 DR
   unfold iX at this ⊢;unfold ao.jR;rw[L,M,I,J,this]
  rw[o]at E;obtain⟨t,ht,EL⟩:=Ff E (by simp[ao.wJ];omega)
  refine⟨t,ht,cC.trans _ _ _ EL ?_⟩;unfold ao.wJ;rw[L,M,I,J];have N:=B _ _ m;have O:=B _ _ hp;have P:=j.sy b.cK;have s:=hq.sy b.cK;have Q:sy [n.calls+n.ak+r]:=λa d=>by simp at d;omega
  have s2:sy (c::(p ++ [n.calls+n.ak+r])):=λa d=>by
   rcases b5.1 d with rfl|d
   .omega
   .exact(cY.1 d).elim (O a) (Q a)
  have s3:sy (c::(q ++ [n.calls+n.ak+r])):=λa d=>by
   rcases b5.1 d with rfl|d
   .omega
   .exact(cY.1 d).elim (s a) (Q a)
  have s4:sy (u++c::(p ++ [n.calls+n.ak+r])):=λa d=>(cY.1 d).elim (N a) (s2 a);have s5:sy (w++c::(q ++ [n.calls+n.ak+r])):=λa d=>(cY.1 d).elim (P a) (s3 a);refine(oG s4 s5).2 (DE s3 ((oG N P).1 hle) (ane (λa d=>(cY.1 d).elim (s a) (Q a)) (DE Q ((oG O s).1 H) (bd _))))
def LW (h:n.Ok) (r:jQ n K) (o:oQ n K cls) (p:qN n K cls fs) (A:MS n K cls fs){ws:List (List Int)}(i:fy n.cK n.bh ws)(j:w∈ws):∃k:Nat,k<K.length/\ix cls (k:Int)=k/\(∃x,x<K.length/\n.RX K x w/\ix cls (x:Int)=k)/\(w.length<=1024->ix fs (k:Int)=some w)/\(1024<w.length->ix fs (k:Int)=none):=by
 obtain⟨x,l,d⟩:=r.all h (i.ww w j);obtain⟨z,D,B⟩:=o.cl l;have key:∀u,ix fs ((iX cls x:Nat):Int)=some u->aI w u<=0/\u.length<=1024:=λu e=>by
  obtain⟨m,y,C,g,q⟩:=p.s _ aa u e
  exact⟨i.ye w j u g.ww ((o.a x y w u l C d g).2 (by rw[z,q])),m⟩
 refine⟨iX cls x,aa,B,⟨x,l,d,z⟩,λm=>?_,λm=>?_⟩
 .obtain⟨u,e,hle⟩:=apd h r o p A (i.ww w j) x l d m
  have:=DP (key u e).1 hle;rw[this,e]
 .cases e:ix fs ((iX cls x:Nat):Int)with
  |none=>rfl
  |some u=>
   obtain⟨a,b⟩:=key u e;have:=Ef ((i.ww w j).sy h.cK) (p.sy h _ _ e) a;omega
def LY (m:n.Ok) (e:jQ n K) (o:oQ n K cls){ws:List (List Int)}(g:fy n.cK n.bh ws){v:Nat}(h:v<K.length) (d:ix cls (v:Int)=v):∃w∈ws,∃x,x<K.length/\n.RX K x w/\ix cls (x:Int)=v:=by
 obtain⟨u,i⟩:=e.word h;obtain⟨w,j,p⟩:=g.all u i.ww;obtain⟨x,l,b⟩:=e.all m (g.ww w j);exact⟨w,j,x,l,b,by rw[<-(o.a v x u w h l i b).1 p,d]⟩
end
section
variable{α:Type}
def WH [Inhabited α]{A:List α}{v:α}{i:Nat}(d:i<=A.length) (j:Nat) (g:j<A.length+1):ix (A.take i++v::A.drop i) (j:Int)=if j<i then ix A (j:Int)else if j=i then v else ix A ((j-1:Nat):Int):=by
 rw[aB ax]
 by_cases h:j<i
 .rw[ae h,List.getElem_append_left ax,List.getElem_take,aB aa]
 .rw[ad h,List.getElem_append_right ax]
  have b:(A.take i).length=i:=ax
  by_cases a:j=i
  .subst a
   rw[ae rfl];simp[b]
  .rw[ad a]
   obtain⟨m,rfl⟩:∃m,j=i+(m+1):=⟨j-i-1,aa⟩
   have e:i+(m+1)-(A.take i).length=m+1:=aa
   simp only[e,List.getElem_cons_succ,List.getElem_drop];rw[aB aa]
   congr 1
def ape [Inhabited α]{A:List α}{v:α}{i:Nat}(b:i+1<=A.length):((A.take (i+1)++v::A.drop (i+1)).set (i+1) (ix A (i:Int))).set i v=A.take i++v::A.drop i:=by
 rw[gx aa,qj (by omega:i<A.length),<-aB aa]
 have a:(A.take i).length=i:=ax
 rw[List.set_append_right _ _ ax]
 rw[show i+1-(A.take i ++ [ix A (i:Int)]).length=0 by simp;omega,qk,gZ,List.set_append_right _ _ aa,a,Nat.sub_self]
 rfl
end
def kR (l:List Nat):List Int:=l.map λa:Nat=>(a:Int)
def xP{l:List Nat}:(kR l).length=l.length:=by simp[kR]
def sn{l:List Nat}{j:Nat}(h:j<l.length):ix (kR l) (j:Int)=((ix l (j:Int):Nat):Int):=by
 unfold kR;rw[aB cq,aB h];simp
def apf{l:List Nat}{v:Nat}:kR (l ++ [v])=kR l ++ [(v:Int)]:=by simp[kR]
def apg (cls:List Int) (W:List (List Int)) (N:Nat) (hN:N<=512) (hc:cls.length=N) (hW:W.length=N) (U:∀w∈W,w.length<=1024) (hd:∀a b:Nat,a<N->b<N->ix cls (a:Int)=a->ix cls (b:Int)=b->ix W (a:Int)=ix W (b:Int)->a=b):∃l:List Nat,pX (l.map λa:Nat=>ix W (a:Int))/\(∀a,a∈l↔a<N/\ix cls (a:Int)=a)/\PC zE [iL cls,b8 W]=some (iL (kR l)):=by
 have r:LX L zE [iL cls,b8 W] [] (λv G =>∃l:List Nat,pX (l.map λa:Nat=>ix W (a:Int))/\(∀a,a∈l↔a<N/\ix cls (a:Int)=a)/\bP G false v=some (iL (kR l))):=by
  refine aja rfl ?_;have hw:=λ(a:Nat) (ha:a<N)=>U _ (aJ (l:=W) (n:=(a:Int)) aa aa)
  simp[-aj];refine aK (λq:Nat×List Nat=>[(2,.int q.1),(3,.sl 0 q.2.length 0 q.2.length)]) (λq=>[bp (kR q.2)]) (λq=>q.1<=N/\q.2.length<=q.1/\pX (q.2.map λa:Nat=>ix W (a:Int))/\∀a,a∈q.2↔a<q.1/\ix cls (a:Int)=a) (λq=>N-q.1) (0,[]) (by simp[du,kR]) ⟨ab,ab,by simp[pX,Dp],ab⟩ ?_
  rintro⟨v,A⟩ ⟨v0,v1,H,I⟩;dsimp only at v0 v1 H I ⊢
  by_cases J:v<N
  .have s :=az (show v<cls.length by omega)
   by_cases F:ix cls (v:Int)=v
   .have V:=xP (l:=A)
    have D:∀j:Nat,j<A.length->ix A (j:Int)<N/\ix cls ((ix A (j:Int):Nat):Int)=((ix A (j:Int):Nat):Int)/\ix A (j:Int) ≠ v:=λj Q=>by
     obtain⟨a,b⟩:=(I _).1 (aJ (l:=A) (n:=(j:Int)) aa aa)
     exact⟨aa,b,aa⟩
    simp[-aj,s, F,V];refine⟨dE,aa,aa,?_⟩
    have X:(kR A).map AV.int ++ [.int (v:Int)]=(kR (A.take A.length++v::A.drop A.length)).map AV.int:=by
     rw[List.take_length,List.drop_length,apf];simp
    rw[X];refine aK (λi:Nat=>[(4,.int i)]) (λi=>[⟨none,(kR (A.take i++v::A.drop i)).map .int,.live⟩]) (λi=>i<=A.length/\∀j:Nat,i<=j->j<A.length->aI (ix W (v:Int)) (ix W ((ix A (j:Int):Nat):Int))<0) (λi=>i) A.length aX ⟨bd _,λj r g=>aa⟩ ?_
    rintro i ⟨K,i1⟩;have m:(kR (A.take i++v::A.drop i)).length=A.length+1:=by rw[xP];simp;omega
    have d:(i=0\/∃p,i=p+1/\¬aI (ix W (v:Int)) (ix W ((ix A (p:Int):Nat):Int))<0)->pX ((A.take i++v::A.drop i).map λa:Nat=>ix W (a:Int)):=λh=>by
     have Y:(A.map λa:Nat=>ix W (a:Int)).length=A.length:=ab
     have u:∀j:Nat,j<A.length->ix (A.map λa:Nat=>ix W (a:Int)) (j:Int)=ix W ((ix A (j:Int):Nat):Int):=λj Q=>by
      rw[aB (by simpa using Q),aB Q];simp
     rw[jE,cS,List.map_take,List.map_drop];refine aor H ⟨aa,λj Q=>?_,λj r g=>?_⟩ λg=>?_
     .rcases h with h|⟨p,rfl,hp⟩
      .omega
      .have E:=D p aa
       have Z:aI (ix W ((ix A (p:Int):Nat):Int)) (ix W (v:Int))<0:=by
        have R:=cC.fL (ix W ((ix A (p:Int):Nat):Int)) (ix W (v:Int));have S:aI (ix W (v:Int)) (ix W ((ix A (p:Int):Nat):Int)) ≠ 0:=λe=>E.2.2 (hd _ _ E.1 J E.2.1 F (cC.eq _ _ e).symm);omega
       by_cases e:j=p
       .subst e;rw[u j aa];exact Z
       .have:=VI H (i:=j) (j:=p) aa (by rw[Y];omega)
        rw[u p aa]at this
        exact VJ this aa
     .rw[Y]at g
      have R:=i1 j r g;rw[u j g];have S:=cC.fL (ix W ((ix A (j:Int):Nat):Int)) (ix W (v:Int));omega
     .rw[Y]at g
      obtain⟨R,S⟩:=g;rw[u i R]at S;have:=D i R;exact this.2.2 (hd _ _ this.1 J this.2.1 F S)
    have y:∀a,a∈A.take i++v::A.drop i↔a<v+1/\ix cls (a:Int)=a:=λa=>by
     have e:a∈A.take i++v::A.drop i↔a=v\/a∈A:=by
      conv=>rhs;rw[<-List.take_append_drop i A]
      simp only[cY,b5];constructor
      .rintro(h|h|h)
       .exact .inr (.inl h)
       .exact .inl h
       .exact .inr (.inr h)
      .rintro(h|h|h)
       .exact .inr (.inl h)
       .exact .inl h
       .exact .inr (.inr h)
     rw[e,I];constructor
     .rintro(rfl|⟨r,g⟩)
      .exact⟨aa,F⟩
      .exact⟨aa,g⟩
     .rintro⟨r,g⟩
      by_cases e:a=v
      .exact .inl e
      .exact .inr ⟨aa,g⟩
    have hBn:¬kR (A.take i++v::A.drop i)=[]:=λe=>by rw[e]at m;simp at m
    have M:(A.take i++v::A.drop i).length=A.length+1:=by rw[<-xP];exact m
    have z:bp (kR (A.take i++v::A.drop i))=⟨none,(kR (A.take i++v::A.drop i)).map .int,.live⟩:=by show al.mk _ _ (if _ then _ else _)=_;rw[ad hBn]
    rcases uk i with h0|h0
    .subst h0
     have d:=d (.inl rfl);generalize A.take 0++v::A.drop 0=B at *;simp[-aj];exact⟨aa,aD (v+1,B) (by simp[M]) (by dsimp only;rw[z]) ⟨au,au,d,y⟩ au⟩
    .obtain⟨p,rfl⟩:∃p,i=p+1:=⟨i-1,aa⟩
     have hp:=D p aa
     have x1:=WH (A:=A) (v:=v) K (p+1) aa
     rw[ad aa,ae rfl]at x1
     have x2:=WH (A:=A) (v:=v) K p aa
     rw[ae aa]at x2
     have T:=sn (l:=A.take (p+1)++v::A.drop (p+1)) (j:=p+1) aa
     have y2:=sn (l:=A.take (p+1)++v::A.drop (p+1)) (j:=p) aa
     rw[x1]at T;rw[x2]at y2;have hsw:=ape (A:=A) (v:=v) K;have C:=VD (ix W (v:Int)) (ix W ((ix A (p:Int):Nat):Int)) (by have:=hw v J;omega) (by have:=hw _ hp.1;omega)
     have O:=az (show v<W.length by omega)
     have P:=az (show ix A (p:Int)<W.length by omega)
     have ep:((p+1:Nat):Int)=(p:Int)+1:=aa
     rw[ep]at T
     by_cases x:aI (ix W (v:Int)) (ix W ((ix A (p:Int):Nat):Int))<0
     .have o :=az x
      generalize hB:A.take (p+1)++v::A.drop (p+1)=B at *;simp[-aj,m,T,y2,O,P,C,o, K]
      (repeat' apply And.intro)<;>try omega
      refine aD p ab ?_ ⟨aa,λj r g=>?_⟩ aa
      .rw[<-hsw,<-hB];unfold kR;simp only[o8,List.map_map]
      .by_cases e:j=p
       .subst e;exact x
       .exact i1 j aa g
     .have o :=bX x
      have d:=d (.inr ⟨p,rfl,x⟩);generalize hB:A.take (p+1)++v::A.drop (p+1)=B at *;simp[-aj,m,T,y2,O,P,C,o, K]
      (repeat' apply And.intro)<;>try omega
      exact aD (v+1,B) (by simp[M]) (by dsimp only;rw[z]) ⟨au,au,d,y⟩ au
   .simp[-aj,s, F]
    exact⟨aa,aD (v+1,A) ab rfl ⟨au,au,H,λa=>by
     rw[I];constructor
     .rintro⟨r,g⟩;exact⟨aa,g⟩
     .rintro⟨r,g⟩
      by_cases e:a=v
      .subst e;exact absurd g F
      .exact⟨aa,g⟩⟩ au⟩
  .have ev:v=N:=by omega
   subst ev;have s :=bX (show ¬v<cls.length by omega)
   simp[-aj,s];have hV:=Dc (σ:=[bp (kR A)]) (b:=0) rfl;rw[xP]at hV;exact⟨A,H,I,hV⟩
 obtain⟨v,G, J,l,a,b,c⟩:=dd r;exact⟨l,a,b,by unfold PC rW;rw[J];exact c⟩
section
variable{Q:List al}{i j:Nat}{B C:al}
def aph (h:aq Q i=some C):aq (ar Q i B) i=some B:=bU (cU h)
def api (h:aq Q j=some C):aq (Q ++ [B]) j=some C:=(dH (cU h)).trans h
def ne1 (h:aq Q j=some C) (a:i ≠ j):aq (ar Q i B) j=some C:=(aA a).trans h
def nN (i:Nat) (B:al) (h:aq Q j=some C) (a:i ≠ j:=by omega):aq (ar Q i B) j=some C:=ne1 h a
def aN (B:al) (h:aq Q j=some C):aq (Q ++ [B]) j=some C:=api h
def sN (B:al) (h:aq Q i=some C):aq (ar Q i B) i=some B:=aph h
def LZ{n:Nat}(_:aq Q j=some C) (h:n=Q.length):aq (Q ++ [B]) n=some B:=jn h
end
def wT (l:List Int):AV:=.aF true (l.map .int)
variable{vars:List AV}{fl:Option (Nat×AV)}{σ:List al}{k b:Nat}
def WI{n:Nat}{l:List Int}{Q:Ex->St->Prop}(a:aq σ b=some ⟨none,l.map .int,.live⟩) (e:nth vars k = .sl b n 0 n) (d:n=l.length) (h:Q .eQ ⟨eu vars k (wT l),fl,ar σ b ⟨none,l.map .int,.dead⟩⟩):W L (.ji k) ⟨vars,fl,σ⟩ Q:=by
 have i:reach σ vd (.sl b n 0 n) []=[b]:=by
  show reach σ (11+1) (.sl b n 0 n) []=[b];unfold reach;simp only[List.contains_nil,ef,eI,a];exact Ki l [b]
 have hd:=zY (n:=0) a;rw[gX]at hd;have j:view (bG (λc=>!([b]:List Nat).contains c) 0 σ) false vd (.sl b n 0 n)=some (iL l):=by
  refine dQ (k:=11) (f:=AV.int) (g:=AV.int) (xs:=l) (st:=.live) ?_ rfl d λ_ _=>rfl;rw[lL,a];simp
 have m:eE σ (.sl b n 0 n)=true:=by
  have:upto σ b n=some ⟨none,l.map .int,.live⟩:=qz a fM rfl
  simp only[eE,this]
 refine⟨0,.eQ,_,?_,h⟩;simp only[exec,e,i,j,m,hd]
 rfl
def apj{n:Nat}{ws:List (List Int)}{Q:Ex->St->Prop}(a:aq σ b=some ⟨none,ws.map wT,if ws=[]then .gN else .live⟩) (e:nth vars k = .sl b n 0 n) (d:n=ws.length) (h:Q .eQ ⟨eu vars k (wL ws),fl,ar σ b ⟨none,ws.map wT,.dead⟩⟩):W L (.ji k) ⟨vars,fl,σ⟩ Q:=by
 have i:reach σ vd (.sl b n 0 n) []=[b]:=by
  show reach σ (11+1) (.sl b n 0 n) []=[b];unfold reach;simp only[List.contains_nil,ef,eI,a];have:∀(ws:List (List Int)) (acc:List Nat),(ws.map wT).foldl (λacc y=>reach σ 11 y acc) acc=acc:=λws=>by
   induction ws with
   |nil=>exact λ_=>rfl
   |cons w ws j=>exact λacc=>by simp only[cS,jW];exact j acc
  exact this ws [b]
 have hd:=zY (n:=0) a;rw[gX]at hd;have l:view (bG (λc=>!([b]:List Nat).contains c) 0 σ) false vd (.sl b n 0 n)=some (b8 ws):=by
  refine dQ (k:=11) (f:=wT) (g:=iL) (xs:=ws) (st:=if ws=[]then .gN else .live) ?_ dE d λ_ _=>rfl
  rw[lL,a];simp
 have m:eE σ (.sl b n 0 n)=decide (ws ≠ []):=by
  have:upto σ b n=some ⟨none,ws.map wT,if ws=[]then .gN else .live⟩:=by
   refine qz a fM ?_
   show fb.fG (if ws=[]then .gN else .live)=true
   split<;>rfl
  simp only[eE,this]
  by_cases h:ws=[]<;>simp[h]
 refine⟨0,.eQ,_,?_,h⟩;simp only[exec,e,i,l,m,hd]
 by_cases h:ws=[]<;>simp[h,wL]<;>rfl
structure Sys where
 n:ao
 A:List Bool
 I:List (List Int)
 P:List (List (List Int))
 cls:List Int
 st:List Nat
def Sys.ac (S:Sys) (s:Nat):Bool:=ix S.A ((ix S.st (s:Int):Nat):Int)
def Sys.pl (S:Sys) (x:Int):Int:=(((kR S.st).idxOf (ix S.cls x):Nat):Int)
def Sys.ir (S:Sys) (s:Nat):List Int:=(List.range S.n.ak.toNat).map λ(i:Nat)=>S.pl (ix (ix S.I ((ix S.st (s:Int):Nat):Int)) (i:Int))
def Sys.ur (S:Sys) (s:Nat):List Int:=(List.range S.n.calls.toNat).map λ(c:Nat)=>(s:Int)*S.n.calls+(c:Int)
def Sys.pr (S:Sys) (s g:Nat):List Int:=(List.range S.n.ah.toNat).map λ(r:Nat)=>if S.n.calls.toNat=0 then 0 else S.pl (ix (ix (ix S.P ((ix S.st ((g/S.n.calls.toNat:Nat):Int):Nat):Int)) ((ix S.st (s:Int):Nat):Int)) ((g%S.n.calls.toNat*S.n.ah.toNat+r:Nat):Int))
def Sys.aE (S:Sys):Nat:=max 1 (S.st.length*S.n.calls.toNat)
def Sys.pt (S:Sys) (s:Nat):List (List Int):=(List.range S.aE).map (S.pr s)
def Sys.oR (S:Sys):ao:=⟨S.n.calls,S.n.ak,S.n.ah,(S.aE:Nat),0,(List.range S.st.length).map S.ac,List.replicate S.st.length (List.replicate S.n.calls.toNat 0),(List.range S.st.length).map S.ur,(List.range S.st.length).map S.ir,(List.range S.st.length).map S.pt⟩
def Sys.av (S:Sys):AV:=.agg (S.n.kQ ++ [bL S.A,b8 S.I,fv S.P])
structure Sys.Ok (S:Sys):Prop where
 n:S.n.Ok
 a:S.A.length=S.cls.length
 i:S.I.length=S.cls.length
 p:S.P.length=S.cls.length
 l:S.cls.length<=512
 s:∀a∈S.st,a<S.cls.length
 k1:1<=S.st.length
 k:S.st.length<=128
 kc:S.st.length*S.n.calls.toNat<=128
 ir:∀x:Nat,x<S.cls.length->(ix S.I (x:Int)).length=S.n.ak.toNat/\∀i:Nat,i<S.n.ak.toNat->0<=ix (ix S.I (x:Int)) (i:Int)/\ix (ix S.I (x:Int)) (i:Int)<(S.cls.length:Int)
 pr:∀x y:Nat,x<S.cls.length->y<S.cls.length->(ix S.P (x:Int)).length=S.cls.length/\(ix (ix S.P (x:Int)) (y:Int)).length=S.n.calls.toNat*S.n.ah.toNat/\∀j:Nat,j<S.n.calls.toNat*S.n.ah.toNat->0<=ix (ix (ix S.P (x:Int)) (y:Int)) (j:Int)/\ix (ix (ix S.P (x:Int)) (y:Int)) (j:Int)<(S.cls.length:Int)
def qO:al:=⟨some 10,[.int 0,.int 0,.int 0,.int 0,.int 0,.ag,.ag,.ag,.ag,.ag],.live⟩
structure Ya (S:Sys) (v m:Nat) (σ:List al):Prop where
 r:aq σ 0=some qO
 x:∃a b c d e,∃q:Nat->Nat,aq σ 1=some ⟨some 10,[.int S.n.calls,.int S.n.ak,.int S.n.ah,.int (S.aE:Nat),.int 0,cu a v,cu b v,cu c v,cu d v,cu e v],.live⟩/\1<m/\(v ≠ 0->aq σ a=some ⟨none,((List.range v).map S.ac).map .bool,.live⟩/\aq σ b=some ⟨none,(List.range v).map λj=>.sl (q j) S.n.calls.toNat 0 S.n.calls.toNat,.live⟩/\aq σ c=some ⟨none,((List.range v).map S.ur).map wI,.live⟩/\aq σ d=some ⟨none,((List.range v).map S.ir).map wI,.live⟩/\aq σ e=some ⟨none,((List.range v).map S.pt).map wL,.live⟩/\(1<a/\1<b/\1<c/\1<d/\1<e)/\(a ≠ b/\a ≠ c/\a ≠ d/\a ≠ e/\b ≠ c/\b ≠ d/\b ≠ e/\c ≠ d/\c ≠ e/\d ≠ e)/\a<m/\b<m/\c<m/\d<m/\e<m)/\∀j,j<v->aq σ (q j)=some ⟨none,List.replicate S.n.calls.toNat (.int 0),.live⟩/\q j<m/\q j ≠ 1/\q j ≠ a/\q j ≠ b/\q j ≠ c/\q j ≠ d/\q j ≠ e
def Ya.tK{S:Sys}{v m:Nat}{τ:List al}(h:Ya S v m σ) (hk:∀i,i<m->aq τ i=aq σ i):Ya S v m τ:=by
 obtain⟨a,b,c,d,e,q,h1,h0,h2,h3⟩:=h.x;refine⟨by rw[hk 0 aa];exact h.r,a,b,c,d,e,q,by rw[hk 1 h0];exact h1,h0,λhv=>?_,λj hj=>?_⟩
 .obtain⟨p1,p2,p3,p4,p5,s1,s2,t1,t2,t3,t4,t5⟩:=h2 hv
  exact⟨by rw[hk _ t1];exact p1,by rw[hk _ t2];exact p2,by rw[hk _ t3];exact p3,by rw[hk _ t4];exact p4,by rw[hk _ t5];exact p5,s1,s2,t1,t2,t3,t4,t5⟩
 .obtain⟨p1,p2,p3⟩:=h3 j hj
  exact⟨by rw[hk _ p2];exact p1,p2,p3⟩
def Eg (S:Sys) (v g:Nat):al:=⟨none,((List.range g).map (S.pr v)).map wT,if(List.range g).map (S.pr v)=[]then .gN else .live⟩
def apk (m:Nat) (x:AV):(List.range m).map (λ_=>x)=List.replicate m x:=by
 induction m with
 |zero=>rfl
 |succ m a=>rw[jh,jE,a,List.replicate_succ'];rfl
def apl{A:List AV}{x z:AV}{i:Nat}(h:A.length=i):(A++List.replicate (k+1) z).set i x=A ++ [x]++List.replicate k z:=by
 subst h;rw[List.set_append_right _ _ (bd _),Nat.sub_self,sC,qk];simp
def apm (S:Sys) (hS:S.Ok):PC CA [S.av,iL S.cls,iL (kR S.st)]=some S.oR.av:=by
 refine bZ (ai9 rfl ?_);have hn:=hS.n;have D6:=hn.ak;have D4:=hn.calls;have D5:=hn.ah;obtain⟨ni,yU⟩:=gM D6.1;obtain⟨o,z8⟩:=gM D4.1;obtain⟨y,AX⟩:=gM D5.1;have hTi:S.n.ak.toNat=ni:=aa
 have we:S.n.calls.toNat=o:=aa
 have uh:S.n.ah.toNat=y:=aa
 have MD:=hS.k1;have sG:=hS.k;have Ap:=hS.kc;rw[we]at Ap;have O:=xP (l:=S.st);have hmI:(S.st.length:Int)*S.n.calls=((S.st.length*o:Nat):Int):=by rw[z8,qb]
 have Eh:S.aE=max 1 (S.st.length*o):=by unfold Sys.aE;rw[we]
 have hsb:S.aE<=128:=by rw[Eh];omega
 have yd : -9223372036854775808<=(S.st.length:Int)*S.n.calls/\(S.st.length:Int)*S.n.calls<=9223372036854775807:=aa
 have hmx:max 1 ((S.st.length:Int)*S.n.calls)=((S.aE:Nat):Int):=by rw[hmI,Eh];omega
 unfold Sys.av ao.kQ;simp only[List.cons_append,List.nil_append];simp[-aj,O,yd,hmx];refine aK (λq:Nat×List al=>[(4,.int q.1)]) (λq=>q.2) (λq=>q.1<=S.st.length/\Ya S q.1 q.2.length q.2) (λq=>S.st.length-q.1) (0,_) (by simp[du];rfl) ⟨ab,⟨rfl,0,0,0,0,0,λ_=>0,rfl,ab,λh=>absurd rfl h,λj H=>by dsimp only at H;omega⟩⟩ ?_
 rintro⟨v,σ⟩ ⟨v0,hR⟩;dsimp only at v0 hR ⊢
 by_cases hv:v<S.st.length
 .have BN :=az (show v<S.st.length by omega)
  obtain⟨a0,b0,c0,d0,e0,q0,u,Gx,_⟩:=hR.x;have hB1:=λr:List al=>(dH (r:=r) (cU u)).trans u;have Bz:=hS.s _ (aJ (l:=S.st) (n:=(v:Int)) aa aa)
  have Yb:=sn (l:=S.st) (j:=v) hv;have zk:=hS.ir (ix S.st (v:Int)) Bz;have hIl:=hS.i;have hPl:=hS.p;have hAl:=hS.a;have ss:=hS.l;have qc:(S.ur v).length=o:=by simp[Sys.ur,we]
  have hil:(S.ir v).length=ni:=by simp[Sys.ir,hTi]
  simp[-aj,O,BN];refine aK (λc:Nat=>[(5,.int c),(7,.sl σ.length c 0 c)]) (λc=>σ ++ [bp ((S.ur v).take c),bp []]) (λc=>c<=o) (λc=>o-c) 0 aX aa ?_
  intro c c1
  by_cases hc:c<o
  .have R :=az (show(c:Int)<S.n.calls by omega)
   have tk:=gx (w:=S.ur v) (k:=c) aa
   have L:ix (S.ur v) (c:Int)=(v:Int)*S.n.calls+(c:Int):=by
    rw[aB aa];simp[Sys.ur]
   rw[L]at tk;have tl:((S.ur v).take c).length=c:=ax
   have hvm:(v:Int)*S.n.calls=((v*o:Nat):Int):=by rw[z8,qb]
   have hvb:v*o<=128*64:=jT aa aa
   have m1 : -9223372036854775808<=(v:Int)*S.n.calls/\(v:Int)*S.n.calls<=9223372036854775807:=aa
   have m2 : -9223372036854775808<=(v:Int)*S.n.calls+(c:Int)/\(v:Int)*S.n.calls+(c:Int)<=9223372036854775807:=aa
   have bA:=λl:List Int=>gU (Q:=σ) (B:=bp l) (r:=[bp []]);have bS:=λ(l:List Int) (B:al)=>vi (σ:=σ) (τ:=[bp l,bp []]) (k:=0) (B:=B);simp only[kf,qk]at bS;generalize (S.ur v).take c=T at *;have bA:=bA T;have bS:=bS T;have hB:=hB1 [bp T,bp []];simp[-aj,hB,R, m1,m2,bA,bS,tl];exact⟨dE,aa,aa,aD (c+1) ab (by rw[tk];simp) aa aa⟩
  .have ec:c=o:=by omega
   have R :=bX (show ¬(c:Int)<S.n.calls by omega)
   have e:(S.ur v).take c=S.ur v:=eZ aa
   have hB:=hB1 [bp (S.ur v),bp []];rw[e];simp[-aj,hB,R];refine qD (b:=σ.length) (l:=S.ur v) (n:=c) gU rfl aa ?_
   have F:=vi (σ:=σ) (τ:=[bp (S.ur v),bp []]) (k:=0) (B:=(⟨none,(S.ur v).map .int,.dead⟩:al));simp only[kf,qk]at F;rw[F];have Mu:σ ++ [⟨none,(S.ur v).map .int,.dead⟩,bp []]=(σ ++ [⟨none,(S.ur v).map .int,.dead⟩]) ++ [bp []]:=ab
   have uc:(σ ++ [(⟨none,(S.ur v).map AV.int,.dead⟩:al)]).length=σ.length+1:=ab
   have pS:∀j,j<σ.length->aq (σ ++ [⟨none,(S.ur v).map AV.int,.dead⟩]) j=aq σ j:=λj H=>dH H;rw[Mu,<-uc];generalize σ ++ [(⟨none,(S.ur v).map AV.int,.dead⟩:al)]=J at *;simp[-aj];refine aK (λi:Nat=>[(8,.int i),(9,.sl J.length i 0 i)]) (λi=>J ++ [bp ((S.ir v).take i)]) (λi=>i<=ni) (λi=>ni-i) 0 (by simp[du,uc]) aa ?_
   intro i i0;have ub:aq J 1=_:=(pS 1 (cU u)).trans u;have hB2:=λr:List al=>(dH (r:=r) (cU ub)).trans ub
   by_cases hi:i<ni
   .have jt :=az (show(i:Int)<S.n.ak by omega)
    have L:ix (S.ir v) (i:Int)=S.pl (ix (ix S.I ((ix S.st (v:Int):Nat):Int)) (i:Int)):=by
     rw[aB aa];simp[Sys.ir]
    have tk:=gx (w:=S.ir v) (k:=i) aa
    rw[L]at tk;have tl:((S.ir v).take i).length=i:=ax
    have hb:=zk.2 i aa
    have q1:=az (show ix S.st (v:Int)<S.I.length by omega)
    have q2:=az (show i<(ix S.I ((ix S.st (v:Int):Nat):Int)).length by omega)
    have K:=AD (D1 (kR S.st) (ix S.cls (ix (ix S.I ((ix S.st (v:Int):Nat):Int)) (i:Int))) aa)
    have Ma:(((kR S.st).idxOf (ix S.cls (ix (ix S.I ((ix S.st (v:Int):Nat):Int)) (i:Int))):Nat):Int)=S.pl (ix (ix S.I ((ix S.st (v:Int):Nat):Int)) (i:Int)):=rfl;rw[Ma]at K;have hy0:=hb.1;have hy1:=az hb.2;generalize S.pl (ix (ix S.I ((ix S.st (v:Int):Nat):Int)) (i:Int))=z at *;have bA:=λl:List Int=>jn (σ:=J) (B:=bp l) (n:=J.length) rfl;have bS:=λ(l:List Int) (B:al)=>vi (σ:=J) (τ:=[bp l]) (k:=0) (B:=B);simp only[kf,qk]at bS;generalize (S.ir v).take i=T at *;have bA:=bA T;have bS:=bS T;have hB:=hB2 [bp T];simp[-aj,hB,jt, O,BN, Yb,q1,q2,hy0,hy1,K,bA,bS,tl];exact⟨dE,aa,aa,aD (i+1) ab (by rw[tk];simp) aa aa⟩
   .have ei:i=ni:=by omega
    have jt :=bX (show ¬(i:Int)<S.n.ak by omega)
    have e:(S.ir v).take i=S.ir v:=eZ aa
    have hB:=hB2 [bp (S.ir v)];rw[e];simp[-aj,hB,jt];refine qD (b:=J.length) (l:=S.ir v) (n:=i) (jn rfl) rfl aa ?_
    have F:=vi (σ:=J) (τ:=[bp (S.ir v)]) (k:=0) (B:=(⟨none,(S.ir v).map .int,.dead⟩:al));simp only[kf,qk]at F;rw[F];have ER:(J ++ [(⟨none,(S.ir v).map AV.int,.dead⟩:al)]).length=σ.length+2:=by rw[aU,uc];rfl
    have Es:∀j,j<σ.length->aq (J ++ [⟨none,(S.ir v).map AV.int,.dead⟩]) j=aq σ j:=λj H=>(dH aa).trans (pS j H)
    generalize J ++ [(⟨none,(S.ir v).map AV.int,.dead⟩:al)]=Aj at *;simp[-aj];refine aK (λq:Nat×List al=>[(10,.int q.1),(13,.sl Aj.length q.1 0 q.1)]) (λq=>q.2) (λq=>q.1<=S.aE/\(∀j,j<σ.length->aq q.2 j=aq σ j)/\aq q.2 Aj.length=some (Eg S v q.1)/\Aj.length<q.2.length) (λq=>S.aE-q.1) (0,Aj ++ [⟨none,[],.gN⟩]) aX ⟨ab,λj H=>by dsimp only;rw[bE,List.getElem?_append_left aa,<-bE];exact Es j H,jn rfl,ab⟩ ?_
    rintro⟨g,τ⟩ ⟨g0,WJ,Yc,K⟩;dsimp only at g0 WJ Yc K ⊢;have aqI : σ.length+2=Aj.length:=ER.symm;clear Es F pS;generalize Aj.length=pb at *;have WL:aq τ 1=_:=(WJ 1 (cU u)).trans u;have hBt:=λr:List al=>(dH (r:=r) (cU WL)).trans WL
    by_cases hg:g<S.aE
    .have AQ :=az hg
     have WM:(S.pr v g).length=y:=by simp[Sys.pr,uh]
     simp[-aj,WL,AQ];refine⟨aa,?_⟩
     refine aK (λr:Nat=>[(11,.int r),(12,.sl τ.length y 0 y)]) (λr=>τ ++ [⟨none,((S.pr v g).take r).map .int++List.replicate (y-r) (.int 0),.live⟩]) (λr=>r<=y/\(o=0->r=0)) (λr=>y-r) 0 (by simp[du,uh]) ⟨aa,λ_=>rfl⟩ ?_
     rintro r ⟨r0,r1⟩;have hB:=hBt [⟨none,((S.pr v g).take r).map .int++List.replicate (y-r) (.int 0),.live⟩];have rS:(r=y\/o=0)->((S.pr v g).take r).map AV.int++List.replicate (y-r) (.int 0)=(S.pr v g).map AV.int:=λh=>by
      rcases h with h|h
      .rw[h,eZ aa,Nat.sub_self];simp
      .rw[r1 h]
       unfold Sys.pr;rw[we,uh,h];simp only[dD,Nat.sub_zero,List.take_zero,List.map_nil,mQ,List.map_map];have:∀m:Nat,List.replicate m (AV.int 0)=(List.range m).map λ_=>AV.int 0:=λm=>by
        induction m with
        |zero=>rfl
        |succ m ih=>rw[jh,jE,<-ih,List.replicate_succ'];rfl
       rw[this y];rfl
     generalize hCl:((S.pr v g).take r).map AV.int++List.replicate (y-r) (.int 0)=Cl at *
     by_cases N3:r<y/\o ≠ 0
     .obtain⟨hr,AU⟩:=N3
      have u5 :=az (show(r:Int)<S.n.ah by omega)
      have R :=az (show(0:Int)<S.n.calls by omega)
      have wN:=bX (show ¬S.n.calls=0 by omega)
      have hgk:g<S.st.length*o:=by
       have:1*1<=S.st.length*o:=jT MD aa
       omega
      have Fg:g/o<S.st.length:=(oV aa).2 hgk
      have hgm:g%o<o:=l6 _ aa
      have A6:(g:Int)/S.n.calls=((g/o:Nat):Int):=by rw[z8];exact Int.natCast_ediv .. |>.symm
      have X9:(g:Int).tmod S.n.calls=((g%o:Nat):Int):=by rw[z8,Int.tmod_eq_emod_of_nonneg aa];exact Int.natCast_emod .. |>.symm
      have hjr:g%o*y+r<o*y:=by
       have:(g%o+1)*y<=o*y:=lr _ hgm;rw[Nat.succ_mul]at this;omega
      have XH:((g%o:Nat):Int)*S.n.ah=((g%o*y:Nat):Int):=by rw[AX,qb]
      have aqJ:o*y<=64*64:=jT aa aa
      have hja:((g%o:Nat):Int)*S.n.ah+(r:Int)=((g%o*y+r:Nat):Int):=by rw[XH];omega
      have hj1 : -9223372036854775808<=((g%o:Nat):Int)*S.n.ah/\((g%o:Nat):Int)*S.n.ah<=9223372036854775807:=by rw[XH];omega
      have Ae:=hS.s _ (aJ (l:=S.st) (n:=((g/o:Nat):Int)) (Int.natCast_nonneg _) (Int.ofNat_lt.2 Fg));have hn2:=sn (l:=S.st) (j:=g/o) Fg;have Yd:=hS.pr (ix S.st ((g/o:Nat):Int)) (ix S.st (v:Int)) Ae Bz;rw[we,uh]at Yd;have L:ix (S.pr v g) (r:Int)=S.pl (ix (ix (ix S.P ((ix S.st ((g/o:Nat):Int):Nat):Int)) ((ix S.st (v:Int):Nat):Int)) ((g%o*y+r:Nat):Int)):=by
       rw[aB aa]
       simp only[Sys.pr,lI,List.getElem_range,we,uh];rw[ad AU]
      have hb:=Yd.2.2 _ hjr;have K:=AD (D1 (kR S.st) (ix S.cls (ix (ix (ix S.P ((ix S.st ((g/o:Nat):Int):Nat):Int)) ((ix S.st (v:Int):Nat):Int)) ((g%o*y+r:Nat):Int))) aa)
      have Ma:(((kR S.st).idxOf (ix S.cls (ix (ix (ix S.P ((ix S.st ((g/o:Nat):Int):Nat):Int)) ((ix S.st (v:Int):Nat):Int)) ((g%o*y+r:Nat):Int))):Nat):Int)=ix (S.pr v g) (r:Int):=L.symm;rw[Ma]at K;have q1:=az (show g/o<S.st.length from Fg);have q2:=az (show ix S.st ((g/o:Nat):Int)<S.P.length by omega)
      have q3:=az (show ix S.st (v:Int)<(ix S.P ((ix S.st ((g/o:Nat):Int):Nat):Int)).length by rw[Yd.1];exact Bz)
      have q4:=az (show g%o*y+r<(ix (ix S.P ((ix S.st ((g/o:Nat):Int):Nat):Int)) ((ix S.st (v:Int):Nat):Int)).length by rw[Yd.2.1];exact hjr)
      have xz:=hb.1;have uL:=az hb.2;have tk:=gx (w:=S.pr v g) (k:=r) aa
      have tl:(((S.pr v g).take r).map AV.int).length=r:=ax
      have F:=apl (A:=((S.pr v g).take r).map AV.int) (x:=.int (ix (S.pr v g) (r:Int))) (z:=.int 0) (k:=y-(r+1)) tl;rw[show y-(r+1)+1=y-r by omega,hCl]at F
      have sM:Cl.set r (.int (ix (S.pr v g) (r:Int)))=((S.pr v g).take (r+1)).map AV.int++List.replicate (y-(r+1)) (.int 0):=by rw[F,tk];simp
      have apn:Cl.length=y:=by rw[<-hCl];simp;omega
      have bA:=λC:List AV=>jn (σ:=τ) (B:=⟨none,C,.live⟩) (n:=τ.length) rfl;have bS:=λ(C:List AV) (B:al)=>vi (σ:=τ) (τ:=[⟨none,C,.live⟩]) (k:=0) (B:=B);simp only[kf,qk]at bS;generalize ix (S.pr v g) (r:Int)=z at *;generalize g/o=gd at *;generalize g%o*y+r=gj at *;generalize g%o=gr at *;simp[-aj,hB,u5, R, wN,A6,X9,hj1,hja,O,BN, Yb,hn2,q1,q2,q3,q4,xz,uL,K,bA,bS,apn]
      (repeat' apply And.intro)<;>try omega
      refine aD (r+1) ab ?_ ⟨aa,λh=>absurd h AU⟩ aa
      rw[show ny Cl r (AV.int z).cells=Cl.set r (.int z)from lP,sM,List.map_take]
     .have yD:¬r<y\/o=0:=by omega
      have rS:=rS aa
      by_cases hr:r<y
      .have R :=bX (show ¬(0:Int)<S.n.calls by omega)
       have u5 :=az (show(r:Int)<S.n.ah by omega)
       simp[-aj,hB,u5, R];refine WI (b:=τ.length) (l:=S.pr v g) (n:=y) (by rw[<-rS];exact jn rfl) rfl WM.symm ?_
       have A1:∀j,j<τ.length->aq (ar (τ ++ [⟨none,Cl,.live⟩]) τ.length ⟨none,(S.pr v g).map .int,.dead⟩) j=aq τ j:=λj H=>by
        rw[aA aa,bE,bE,eJ H]
       have Ye:(ar (τ ++ [⟨none,Cl,.live⟩]) τ.length ⟨none,(S.pr v g).map .int,.dead⟩).length=τ.length+1:=by rw[aY];simp
       generalize ar (τ ++ [⟨none,Cl,.live⟩]) τ.length ⟨none,(S.pr v g).map .int,.dead⟩=DD at A1 Ye ⊢;have M:aq DD pb=some (Eg S v g):=by rw[A1 pb K];exact Yc
       have hsn:=k8 (f:=S.pr v) (i:=g);have Ei:Eg S v (g+1)=⟨none,((List.range g).map (S.pr v)).map wT ++ [wT (S.pr v g)],.live⟩:=by unfold Eg;rw[hsn];simp
       have Wq:((List.range g).map (S.pr v)).length=g:=ab
       have hwT:wT (S.pr v g) = .aF true ((S.pr v g).map .int):=rfl;unfold Eg at M;generalize (List.range g).map (S.pr v)=W at *;rw[hwT]at Ei ⊢;simp[-aj,M,Wq];exact⟨dE,aa,aa,aD (g+1,_) ab rfl ⟨au,λj H=>by
        have:=WJ j H;dsimp only;rw[aA aa,A1 j aa];exact this,by dsimp only;rw[bU aa,Ei],rM⟩ au⟩
      .have u5 :=bX (show ¬(r:Int)<S.n.ah by omega)
       simp[-aj,hB,u5];refine WI (b:=τ.length) (l:=S.pr v g) (n:=y) (by rw[<-rS];exact jn rfl) rfl WM.symm ?_
       have A1:∀j,j<τ.length->aq (ar (τ ++ [⟨none,Cl,.live⟩]) τ.length ⟨none,(S.pr v g).map .int,.dead⟩) j=aq τ j:=λj H=>by
        rw[aA aa,bE,bE,eJ H]
       have Ye:(ar (τ ++ [⟨none,Cl,.live⟩]) τ.length ⟨none,(S.pr v g).map .int,.dead⟩).length=τ.length+1:=by rw[aY];simp
       generalize ar (τ ++ [⟨none,Cl,.live⟩]) τ.length ⟨none,(S.pr v g).map .int,.dead⟩=DD at A1 Ye ⊢;have M:aq DD pb=some (Eg S v g):=by rw[A1 pb K];exact Yc
       have hsn:=k8 (f:=S.pr v) (i:=g);have Ei:Eg S v (g+1)=⟨none,((List.range g).map (S.pr v)).map wT ++ [wT (S.pr v g)],.live⟩:=by unfold Eg;rw[hsn];simp
       have Wq:((List.range g).map (S.pr v)).length=g:=ab
       have hwT:wT (S.pr v g) = .aF true ((S.pr v g).map .int):=rfl;unfold Eg at M;generalize (List.range g).map (S.pr v)=W at *;rw[hwT]at Ei ⊢;simp[-aj,M,Wq];exact⟨dE,aa,aa,aD (g+1,_) ab rfl ⟨au,λj H=>by
        have:=WJ j H;dsimp only;rw[aA aa,A1 j aa];exact this,by dsimp only;rw[bU aa,Ei],rM⟩ au⟩
    .have eg:g=S.aE:=by omega
     have AQ :=bX hg;simp[-aj,WL,AQ];subst eg;refine apj (b:=pb) (ws:=S.pt v) (n:=S.aE) Yc rfl (by simp[Sys.pt]) ?_
     have XV:∀j,j<σ.length->aq (ar τ pb ⟨none,(S.pt v).map wT,.dead⟩) j=aq σ j:=λj H=>by
      rw[aA aa];exact WJ j H
     have hl5:(ar τ pb ⟨none,(S.pt v).map wT,.dead⟩).length=τ.length:=aY;generalize ar τ pb ⟨none,(S.pt v).map wT,.dead⟩=N at XV hl5 ⊢;have hRu:=hR.tK XV;have L0:=hRu.r;clear hB1 hBt hB2 ub WL;clear u Gx;obtain⟨a,b,c', d,e', q,u,Gx,ub,Mg⟩:=hRu.x;have WN:=az (show ix S.st (v:Int)<S.A.length by omega)
     have hnA:=k8 (f:=S.ac) (i:=v);have hnU:=k8 (f:=S.ur) (i:=v);have Ez:=k8 (f:=S.ir) (i:=v);have hnP:=k8 (f:=S.pt) (i:=v)
     by_cases hz:v=0
     .subst hz
      simp only[cu,ae rfl]at u;have F1:=λA:al=>(aN A u);have F2:=λA X:al=>(sN X (F1 A));have F3:=λA X Q:al=>(aN Q (F2 A X));have F4:=λA X Q B:al=>(aN B (F3 A X Q));have F5:=λA X Q B Y:al=>(sN Y (F4 A X Q B));have F6:=λA X Q B Y C:al=>(aN C (F5 A X Q B Y));have F7:=λA X Q B Y C Z:al=>(sN Z (F6 A X Q B Y C));have F8:=λA X Q B Y C Z D:al=>(aN D (F7 A X Q B Y C Z));have F9:=λA X Q B Y C Z D U:al=>(sN U (F8 A X Q B Y C Z D));have WO:=λA X Q B Y C Z D U E:al=>(aN E (F9 A X Q B Y C Z D U));have F11:=λA X Q B Y C Z D U E V:al=>(sN V (WO A X Q B Y C Z D U E));have T0:=λA X Q B Y C Z D U E V:al=>(nN 1 V (aN E (nN 1 U (aN D (nN 1 Z (aN C (nN 1 Y (aN B (aN Q (nN 1 X (aN A L0)))))))))));have Ta:=λA X Q B Y C Z D U E V:al=>(nN 1 V (aN E (nN 1 U (aN D (nN 1 Z (aN C (nN 1 Y (aN B (aN Q (nN 1 X (LZ (n:=N.length) (B:=A) u rfl)))))))))));have Tq:=λA X Q B Y C Z D U E V:al=>(nN 1 V (aN E (nN 1 U (aN D (nN 1 Z (aN C (nN 1 Y (aN B (LZ (n:=N.length+1) (B:=Q) (F2 A X) (by simp[aY]))))))))))
      have Tb:=λA X Q B Y C Z D U E V:al=>(nN 1 V (aN E (nN 1 U (aN D (nN 1 Z (aN C (nN 1 Y (LZ (n:=N.length+2) (B:=B) (F3 A X Q) (by simp[aY])))))))))
      have Tc:=λA X Q B Y C Z D U E V:al=>(nN 1 V (aN E (nN 1 U (aN D (nN 1 Z (LZ (n:=N.length+3) (B:=C) (F5 A X Q B Y) (by simp[aY])))))))
      have Td:=λA X Q B Y C Z D U E V:al=>(nN 1 V (aN E (nN 1 U (LZ (n:=N.length+4) (B:=D) (F7 A X Q B Y C Z) (by simp[aY])))))
      have Te:=λA X Q B Y C Z D U E V:al=>(nN 1 V (LZ (n:=N.length+5) (B:=E) (F9 A X Q B Y C Z D U) (by simp[aY])))
      have apo:ix (kR S.st) 0=((ix S.st 0:Nat):Int):=Yb;have WQ:(ix S.st 0<S.A.length)=True:=WN;simp[-aj,-List.append_assoc,O,BN, apo,WQ,u,F1,F2,F3,F4,F5,F6,F7,F8,F9,WO,aY,wL,bg,wI];refine⟨aa,aD (1,_) ab rfl ⟨au,?_⟩ au⟩
      dsimp only;exact⟨T0 _ _ _ _ _ _ _ _ _ _ _,N.length,N.length+2,N.length+3,N.length+4,N.length+5,λ_=>N.length+1,by rw[F11];simp[cu],fu,λ_=>⟨by rw[Ta];simp[Sys.ac],by rw[Tb];simp,by rw[Tc];simp[wI],by rw[Td];simp[wI],by rw[Te];simp[wL],⟨aa,aa,aa,aa,aa⟩,⟨aa,aa,aa,aa,aa,aa,aa,aa,aa,aa⟩,fu,fu,fu,fu,fu⟩,λj H=>⟨Tq _ _ _ _ _ _ _ _ _ _ _,fu,au,au,au,au,au,au⟩⟩
     .obtain⟨ha,hb,hc,hd,he,⟨g1,g2,g3,g4,g5⟩,⟨n1,n2,n3,n4,n5,n6,n7,n8,n9,n10⟩,m1,m2,m3,m4,m5⟩:=ub hz
      simp only[cu,ad hz]at u;have F1:=λA:al=>(nN a A u);have F2:=λA X:al=>(sN X (F1 A));have F3:=λA X Q:al=>(aN Q (F2 A X));have F4:=λA X Q B:al=>(nN b B (F3 A X Q));have F5:=λA X Q B Y:al=>(sN Y (F4 A X Q B));have F6:=λA X Q B Y C:al=>(nN c' C (F5 A X Q B Y));have F7:=λA X Q B Y C Z:al=>(sN Z (F6 A X Q B Y C));have F8:=λA X Q B Y C Z D:al=>(nN d D (F7 A X Q B Y C Z));have F9:=λA X Q B Y C Z D U:al=>(sN U (F8 A X Q B Y C Z D));have WO:=λA X Q B Y C Z D U E:al=>(nN e' E (F9 A X Q B Y C Z D U));have F11:=λA X Q B Y C Z D U E V:al=>(sN V (WO A X Q B Y C Z D U E));have Gb:=λA X Q:al=>(aN Q (nN 1 X (nN a A hb)));have Gc:=λA X Q B Y:al=>(nN 1 Y (nN b B (aN Q (nN 1 X (nN a A hc)))));have Gd:=λA X Q B Y C Z:al=>(nN 1 Z (nN c' C (nN 1 Y (nN b B (aN Q (nN 1 X (nN a A hd)))))));have Ge:=λA X Q B Y C Z D U:al=>(nN 1 U (nN d D (nN 1 Z (nN c' C (nN 1 Y (nN b B (aN Q (nN 1 X (nN a A he)))))))));have T0:=λA X Q B Y C Z D U E V:al=>(nN 1 V (nN e' E (nN 1 U (nN d D (nN 1 Z (nN c' C (nN 1 Y (nN b B (aN Q (nN 1 X (nN a A L0)))))))))));have Ta:=λA X Q B Y C Z D U E V:al=>(nN 1 V (nN e' E (nN 1 U (nN d D (nN 1 Z (nN c' C (nN 1 Y (nN b B (aN Q (nN 1 X (sN A ha)))))))))));have Tb:=λA X Q B Y C Z D U E V:al=>(nN 1 V (nN e' E (nN 1 U (nN d D (nN 1 Z (nN c' C (nN 1 Y (sN B (Gb A X Q)))))))));have Tc:=λA X Q B Y C Z D U E V:al=>(nN 1 V (nN e' E (nN 1 U (nN d D (nN 1 Z (sN C (Gc A X Q B Y)))))));have Td:=λA X Q B Y C Z D U E V:al=>(nN 1 V (nN e' E (nN 1 U (sN D (Gd A X Q B Y C Z)))));have Te:=λA X Q B Y C Z D U E V:al=>(nN 1 V (sN E (Ge A X Q B Y C Z D U)));have Tq:=λA X Q B Y C Z D U E V:al=>(nN 1 V (nN e' E (nN 1 U (nN d D (nN 1 Z (nN c' C (nN 1 Y (nN b B (LZ (n:=N.length) (B:=Q) (F2 A X) (by simp[aY]))))))))))
      have Tj:=λ(j:Nat) (G:al) (H:aq N j=some G) (hn1:j ≠ 1/\j ≠ a/\j ≠ b/\j ≠ c' /\j ≠ d/\j ≠ e') (A X Q B Y C Z D U E V:al)=>(nN 1 V (nN e' E (nN 1 U (nN d D (nN 1 Z (nN c' C (nN 1 Y (nN b B (aN Q (nN 1 X (nN a A H)))))))))));simp[-aj,O,BN, Yb,WN,u,ha,F1,F2,F3,F4,F5,F6,F7,F8,F9,WO,Gb,Gc,Gd,Ge,aY,wL,bg,wI];refine⟨aa,aa,aa,aa,aD (v+1,_) ab rfl ⟨au,?_⟩ au⟩
      dsimp only;refine⟨T0 _ _ _ _ _ _ _ _ _ _ _,a,b,c', d,e', λj=>if j=v then N.length else q j,?_,fu,λ_=>⟨?_,?_,?_,?_,?_,⟨g1,g2,g3,g4,g5⟩,⟨n1,n2,n3,n4,n5,n6,n7,n8,n9,n10⟩,fu,fu,fu,fu,fu⟩,λj H=>?_⟩
      .rw[F11];simp[cu]
      .rw[Ta,hnA];simp[Sys.ac]
      .rw[Tb,k8]
       have hm:(List.range v).map (λj=>AV.sl ((λj=>if j=v then N.length else q j) j) S.n.calls.toNat 0 S.n.calls.toNat)=(List.range v).map λj=>AV.sl (q j) S.n.calls.toNat 0 S.n.calls.toNat:=eM λj H=>by
        have:=bQ.1 H;simp[show ¬j=v by omega]
       rw[hm];simp
      .rw[Tc,hnU];simp[wI]
      .rw[Td,Ez];simp[wI]
      .rw[Te,hnP];simp[wL]
      .by_cases e2:j=v
       .subst e2
        simp only[ae rfl,dD];exact⟨Tq _ _ _ _ _ _ _ _ _ _ _,fu,aa,aa,aa,aa,aa,aa⟩
       .simp only[ad e2]
        obtain⟨p1,p2,p3⟩:=Mg j aa
        exact⟨Tj _ _ p1 p3 _ _ _ _ _ _ _ _ _ _ _,fu,p3⟩
 .have ev:v=S.st.length:=by omega
  have BN :=bX (show ¬v<S.st.length by omega)
  subst ev;obtain⟨a,b,c,d,e,q,u,Gx,ub,Mg⟩:=hR.x;have L0:=hR.r;obtain⟨ha,hb,hc,hd,he,⟨g1,g2,g3,g4,g5⟩,_,m1,m2,m3,m4,m5⟩:=ub aa
  unfold qO at L0;simp only[cu,ad (show ¬S.st.length=0 by omega)]at u
  have e0:=λB:al=>bU (Q:=σ) (i:=0) (B:=B) aa
  have er:=λ(ce:CE) (c0 c1 c2 c3 c4 c5 c6 c7 c8 c9:AV)=>oI (ce:=ce) (n:=0) (e0 ⟨some 10,[c0,c1,c2,c3,c4,c5,c6,c7,c8,c9],.live⟩);have va:=λB:al=>dQ (σ:=ar σ 0 B) (fr:=false) (b:=a) (k:=10) (n:=S.st.length) (f:=AV.bool) (g:=AV.bool) (xs:=(List.range S.st.length).map S.ac) (by rw[aA aa];exact ha) rfl ab λ_ _=>rfl
  have vb:=λB:al=>SS (σ:=ar σ 0 B) (fr:=false) (b:=b) (k:=10) (n:=S.st.length) (f:=λj=>AV.sl (q j) S.n.calls.toNat 0 S.n.calls.toNat) (g:=λ_=>iL (List.replicate S.n.calls.toNat 0)) (xs:=List.range S.st.length) (by rw[aA aa];exact hb) rfl ab λj H=>by
   obtain⟨p1,p2,p3⟩:=Mg j (bQ.1 H);have hq0:q j ≠ 0:=λh=>by rw[h,L0]at p1;simp at p1
   exact dQ (k:=9) (f:=AV.int) (g:=AV.int) (xs:=List.replicate S.n.calls.toNat 0) (st:=.live) (by rw[aA (Ne.symm hq0),p1];simp) rfl ab λ_ _=>rfl
  have vc:=λB:al=>dQ (σ:=ar σ 0 B) (fr:=false) (b:=c) (k:=10) (n:=S.st.length) (f:=wI) (g:=iL) (xs:=(List.range S.st.length).map S.ur) (by rw[aA aa];exact hc) rfl ab λ_ _=>rfl
  have vd' :=λB:al=>dQ (σ:=ar σ 0 B) (fr:=false) (b:=d) (k:=10) (n:=S.st.length) (f:=wI) (g:=iL) (xs:=(List.range S.st.length).map S.ir) (by rw[aA aa];exact hd) rfl ab λ_ _=>rfl
  have ve:=λB:al=>dQ (σ:=ar σ 0 B) (fr:=false) (b:=e) (k:=10) (n:=S.st.length) (f:=wL) (g:=b8) (xs:=(List.range S.st.length).map S.pt) (by rw[aA aa];exact he) rfl ab λ_ _=>rfl
  simp[-aj,O,u,L0,e0,er];rw[va,vb,vc,vd', ve];have hrp:(List.range S.st.length).map (λ_=>iL (List.replicate S.n.calls.toNat 0))=(List.replicate S.st.length (List.replicate S.n.calls.toNat 0)).map iL:=by
   rw[List.map_replicate];exact apk _ _
  rw[hrp]
  rfl
section
variable{n:ao}{K:List (List Int)}{cls:List Int}{fs:List (Option (List Int))}{ws:List (List Int)}
def apq (q:n.Ok) (r:jQ n K) (i:oQ n K cls) (j:fy n.cK n.bh ws){l:List Nat}(F:l.Nodup) (m:∀a:Nat,a∈l↔a<K.length/\ix cls (a:Int)=a):l.length=ws.length:=by
 have d:∃g:Nat->List Int,∀a∈l,g a∈ws/\∃x,x<K.length/\n.RX K x (g a)/\ix cls (x:Int)=a:=
  ⟨λa=>if h:a∈l then Classical.choose (LY q r i j ((m a).1 h).1 ((m a).1 h).2)else[],λa h=>by dsimp only;rw[dif_pos h];exact Classical.choose_spec (LY q r i j ((m a).1 h).1 ((m a).1 h).2)⟩
 obtain⟨g,d⟩:=d;have s:ws.Nodup:=j.pX.imp fun {a b} u e=>by rw[e,cC.refl]at u;omega
 have G:(l.map g).Nodup:=List.pairwise_map.2 (F.imp_of_mem fun {a b} z H I e=>by
  obtain⟨_,x,p,A,O⟩:=d a z;obtain⟨_,y,B,o,P⟩:=d b H;rw[<-e]at o;have:=(i.a x y _ _ p B A o).1 (jw.refl _);omega)
 have:=((List.perm_ext_iff_of_nodup G s).2 λw=>⟨λh=>by
  obtain⟨a,z,rfl⟩:=cx.1 h;exact(d a z).1,λh=>by
  obtain⟨x,p,C⟩:=r.all q (j.ww w h);obtain⟨J,Q,L⟩:=i.cl p;have E:=(m _).2 ⟨(by omega:iX cls x<K.length),L⟩
  obtain⟨M, y,B,D,N⟩:=d _ E;have:=j.one h M ((i.a x y w _ p B C D).2 (by rw[J,N]))
  exact cx.2 ⟨_,E,this.symm⟩⟩).length_eq
 rw[dA]at this;exact this
def WR (j:n.Ok) (l:jQ n K) (d:oQ n K cls) (p:qN n K cls fs) (q:MS n K cls fs) (m:fy n.cK n.bh ws) (r:∀w∈ws,w.length<=1024){v:Nat}(s:v<K.length) (g:ix cls (v:Int)=v):∃w∈ws,ix fs (v:Int)=some w/\∃x,x<K.length/\n.RX K x w/\ix cls (x:Int)=v:=by
 obtain⟨w,h,x,o,b,ex⟩:=LY j l d m s g;obtain⟨k,B,u,⟨y,z,i,C⟩,A,_⟩:=LW j l d p q m h;have:=(d.a x y w w o z b i).1 (jw.refl _);have e:k=v:=aa
 subst e;exact⟨w,h,A (r w h),x,o,b,ex⟩
def apr (g:n.Ok) (i:jQ n K) (j:oQ n K cls) (l:qN n K cls fs) (m:MS n K cls fs) (o:fy n.cK n.bh ws):AK K cls fs↔¬∃w∈ws,1024<w.length:=by
 constructor
 .rintro h ⟨w,a,p⟩
  obtain⟨k,q,b,_,_,r⟩:=LW g i j l m o a;have:=h k q b;rw[r p]at this;simp at this
 .intro h v s d
  obtain⟨w,_,e,_⟩:=WR g i j l m o (λw a=>dF λu=>h ⟨w,a,aa⟩) s d
  rw[e];rfl
def aps:∀{l:List Nat}{t:Nat},l.Nodup->t<l.length->(kR l).idxOf (ix (kR l) (t:Int))=t:=fun {l t} b a=>by
 have hlen:=xP (l:=l);refine D0 aa rfl λj d e=>?_
 rw[sn aa,sn a,aB aa,aB a]at e
 have:l[j]=l[t]:=aa
 have:=(rN b).1 this;omega
structure RO (n:ao) (K:List (List Int)) (cls:List Int) (ws:List (List Int)) (l:List Nat):Prop where
 nd:l.Nodup
 m:∀a:Nat,a∈l↔a<K.length/\ix cls (a:Int)=a
 w:∀s:Nat,s<l.length->∃x,x<K.length/\n.RX K x (ix ws (s:Int))/\ix cls (x:Int)=ix (kR l) (s:Int)
 l:l.length=ws.length
def ao.mF (n:ao) (K:List (List Int)) (cls:List Int) (l:List Nat):Sys:=⟨n,(List.range K.length).map (n.lU K),(List.range K.length).map (n.iW K),(List.range K.length).map (n.ll K),cls,l⟩
variable{l:List Nat}
def RO.ix (h:RO n K cls ws l){s:Nat}(hs:s<l.length):Ab.ix l (s:Int)<K.length/\Ab.ix cls ((Ab.ix l (s:Int):Nat):Int)=((Ab.ix l (s:Int):Nat):Int):=(h.m _).1 (aJ aa aa)
def RO.pl (h:RO n K cls ws l) (hn:n.Ok) (hF:jQ n K) (hC:oQ n K cls) (hR:fy n.cK n.bh ws){x y:Nat}{v:List Int}(hx:x<K.length) (hy:y<K.length) (hv:n.RX K x v) (e:Ab.ix cls (x:Int)=Ab.ix cls (y:Int)):(n.mF K cls l).pl (y:Int)=gF n.cK n.bh ws v:=by
 obtain⟨c1,c2,c3⟩:=hC.cl hy;obtain⟨t,ht,et⟩:=eL.1 ((h.m _).2 ⟨(by omega:iX cls y<K.length),c3⟩)
 have e1:Ab.ix (kR l) (t:Int)=Ab.ix cls (y:Int):=by rw[sn ht,aB ht,et,c1]
 obtain⟨z,hz,LV,ez⟩:=h.w t ht;unfold Sys.pl;show((List.idxOf (Ab.ix cls (y:Int)) (kR l):Nat):Int)=_;rw[<-e1,aps h.nd ht];refine(vh hR hv.ww aa (by have:=h.l;omega) ((hC.a x z v _ hx hz hv LV).2 (by rw[ez,e1,e]))).symm
def RO.oR (h:RO n K cls ws l) (hn:n.Ok) (hF:jQ n K) (hC:oQ n K cls) (hR:fy n.cK n.bh ws):(n.mF K cls l).oR=cJ n.cK n.bh ws:=by
 have hl:=h.l;have Uf:(n.mF K cls l).st.length=ws.length:=hl;have gG:∀s,Ab.ix (n.mF K cls l).st s=Ab.ix l s:=λ_=>rfl;have hw:∀s:Nat,s<l.length->∃x,x<K.length/\n.RX K x (Ab.ix ws (s:Int))/\Ab.ix cls (x:Int)=Ab.ix cls ((Ab.ix l (s:Int):Nat):Int):=λs hs=>by
  obtain⟨x,hx,Ee,ex⟩:=h.w s hs;exact⟨x,hx,Ee,by rw[ex,sn hs,(h.ix hs).2]⟩
 have hc:=hn.calls;have hi:=hn.ak;have hr:=hn.ah;have e1:(List.range ws.length).map (n.mF K cls l).ac=(List.range ws.length).map λ(i:Nat)=>@decide (n.bh (Ab.ix ws (i:Int))) (Classical.propDecidable _):=eM λs hs=>by
  have hs:=bQ.1 hs;obtain⟨x,hx,Ee,ex⟩:=hw s aa
  obtain⟨a1,a2⟩:=h.ix (s:=s) aa
  obtain⟨u,hu⟩:=hF.word a1;unfold Sys.ac;rw[gG];show Ab.ix ((List.range K.length).map (n.lU K)) ((Ab.ix l (s:Int):Nat):Int)=_;rw[Fc a1];have:=RX.bh hn hu;have:=((hC.a x _ _ u hx a1 Ee hu).2 ex).acc
  by_cases hL:n.bh (Ab.ix ws (s:Int))
  .rw[@decide_eq_true _ (Classical.propDecidable _) hL];simp_all
  .rw[@decide_eq_false _ (Classical.propDecidable _) hL]
   cases hq:n.lU K (Ab.ix l (s:Int))<;>simp_all
 have e2:(List.range ws.length).map (n.mF K cls l).ir=(List.range ws.length).map λ(i:Nat)=>(List.range n.ak.toNat).map λ(j:Nat)=>gF n.cK n.bh ws (Ab.ix ws (i:Int) ++ [n.calls+(j:Int)]):=eM λs hs=>by
  have hs:=bQ.1 hs;obtain⟨x,hx,Ee,ex⟩:=hw s aa
  obtain⟨a1,a2⟩:=h.ix (s:=s) aa
  refine eM λj hj=>?_;have hj:j<n.ak.toNat:=bQ.1 hj;obtain⟨i1,i2⟩:=hF.im hx (i:=(j:Int)) aa aa
  obtain⟨k1,_⟩:=hF.im a1 (i:=(j:Int)) aa aa
  rw[gG];show(n.mF K cls l).pl (Ab.ix (Ab.ix ((List.range K.length).map (n.iW K)) ((Ab.ix l (s:Int):Nat):Int)) (j:Int))=_;rw[tR a1,AJ hj];exact h.pl hn hF hC hR i1 k1 (i2 _ Ee) (hC.imE hF hx a1 ex aa aa)
 have e3:(List.range ws.length).map (n.mF K cls l).pt=(List.range ws.length).map λ(i:Nat)=>(List.range (n.cK.aE ws.length)).map λ(g:Nat)=>(List.range n.ah.toNat).map λ(r:Nat)=>if n.calls.toNat=0 then 0 else gF n.cK n.bh ws (Ab.ix ws ((g/n.calls.toNat:Nat):Int)++((g%n.calls.toNat:Nat):Int)::(Ab.ix ws (i:Int) ++ [n.calls+n.ak+(r:Int)])):=eM λs hs=>by
  have hs:=bQ.1 hs;obtain⟨x,hx,Ee,ex⟩:=hw s aa
  obtain⟨a1,a2⟩:=h.ix (s:=s) aa
  have Eh:(n.mF K cls l).aE=n.cK.aE ws.length:=by unfold Sys.aE;rw[Uf];rfl
  unfold Sys.pt;rw[Eh];refine eM λg hg=>eM λr u5 =>?_;have hg:g<max 1 (ws.length*n.calls.toNat):=bQ.1 hg;have u5 : r<n.ah.toNat:=bQ.1 u5;show(if n.calls.toNat=0 then(0:Int)else(n.mF K cls l).pl (Ab.ix (Ab.ix (Ab.ix ((List.range K.length).map (n.ll K)) ((Ab.ix l ((g/n.calls.toNat:Nat):Int):Nat):Int)) ((Ab.ix l (s:Int):Nat):Int)) ((g%n.calls.toNat*n.ah.toNat+r:Nat):Int)))=_
  by_cases hz:n.calls.toNat=0
  .rw[ae hz,ae hz]
  rw[ad hz,ad hz];have hwp:0<ws.length*n.calls.toNat:=Nat.mul_pos aa aa
  have Fg:g/n.calls.toNat<l.length:=(oV aa).2 (by rw[hl];omega)
  have hgm:g%n.calls.toNat<n.calls.toNat:=l6 _ aa
  obtain⟨y,hy,hyw,ey⟩:=hw _ Fg;obtain⟨b1,b2⟩:=h.ix Fg;have hj:g%n.calls.toNat*n.ah.toNat+r<n.calls.toNat*n.ah.toNat:=by
   have:(g%n.calls.toNat+1)*n.ah.toNat<=n.calls.toNat*n.ah.toNat:=lr _ aa
   rw[fh]at this;omega
  rw[rj b1,vq a1,vt hj,xL u5];generalize g/n.calls.toNat=gd at *;generalize g%n.calls.toNat=gm at *;obtain⟨j1,j2⟩:=hF.bk hn hy hx (c:=(gm:Int)) (r:=(r:Int)) aa aa aa aa
  obtain⟨k1,_⟩:=hF.bk hn b1 a1 (c:=(gm:Int)) (r:=(r:Int)) aa aa aa aa
  exact h.pl hn hF hC hR j1 k1 (j2 _ _ hyw Ee) (hC.bkE hF hn hy b1 hx a1 ey ex aa aa aa aa)
 unfold Sys.oR cJ;rw[Uf,e1,e2,e3];unfold Sys.aE;rw[Uf]
 rfl
def RO.ok (h:RO n K cls ws l) (hn:n.Ok) (hF:jQ n K) (hC:oQ n K cls) (hR:fy n.cK n.bh ws) (h1:ws.length<=128) (h2:ws.length*n.calls.toNat<=128):(n.mF K cls l).Ok:=by
 have hl:=h.l;have h0:=(hR.DQ hn.cK).1;have ss:=hC.l;have EN:=hF.l;have hi:=hn.ak;refine⟨hn,by simp[ao.mF,ss],by simp[ao.mF,ss],by simp[ao.mF,ss],by show cls.length<=512;omega,λa ha=>by have:=(h.m a).1 ha;show a<cls.length;omega,by show 1<=l.length;omega,by show l.length<=128;omega,by show l.length*n.calls.toNat<=128;rw[hl];exact h2,λx hx=>?_,λx y hx hy=>?_⟩
 .have hx:x<K.length:=by have:x<cls.length:=hx;omega
  show(Ab.ix ((List.range K.length).map (n.iW K)) (x:Int)).length=n.ak.toNat/\∀i:Nat,i<n.ak.toNat->0<=Ab.ix (Ab.ix ((List.range K.length).map (n.iW K)) (x:Int)) (i:Int)/\Ab.ix (Ab.ix ((List.range K.length).map (n.iW K)) (x:Int)) (i:Int)<(cls.length:Int);rw[tR hx];refine⟨Ec,λi jt =>?_⟩;rw[AJ jt];have:=(hF.im hx (i:=(i:Int)) aa aa).1
  omega
 .have hx:x<K.length:=by have:x<cls.length:=hx;omega
  have hy:y<K.length:=by have:y<cls.length:=hy;omega
  show(Ab.ix ((List.range K.length).map (n.ll K)) (x:Int)).length=cls.length/\(Ab.ix (Ab.ix ((List.range K.length).map (n.ll K)) (x:Int)) (y:Int)).length=n.calls.toNat*n.ah.toNat/\∀j:Nat,j<n.calls.toNat*n.ah.toNat->0<=Ab.ix (Ab.ix (Ab.ix ((List.range K.length).map (n.ll K)) (x:Int)) (y:Int)) (j:Int)/\Ab.ix (Ab.ix (Ab.ix ((List.range K.length).map (n.ll K)) (x:Int)) (y:Int)) (j:Int)<(cls.length:Int);rw[rj hx,vq hy];refine⟨by rw[xM];omega,xN,λj hj=>?_⟩
  rw[vt hj];have:=xO hF hn hx hy hj;omega
end
def apt (n:ao) (h:n.fits) (b:n.bC ≠ 0):PC zB [n.av]=some (.bM [zN.av,.int n.bC]):=by
 refine bZ (Rm rfl ?_);have d:=Sv n h;have a:=λ(ce:CE)=>oI (ce:=ce) (n:=0) (σ:=[qO]) rfl;unfold qO at a;simp[d,b,zN,a]
def Fh (cls:List Int) (v:Nat):Nat:=((List.range v).filter λa:Nat=>decide (ix cls (a:Int)=a)).length
variable{v:Nat}
def apu{cls:List Int}:Fh cls (v+1)=Fh cls v+if ix cls (v:Int)=v then 1 else 0:=by
 unfold Fh;rw[jh,List.filter_append,aU]
 by_cases h:ix cls (v:Int)=v<;>simp[h]
def apv{cls:List Int}:Fh cls v<=v:=by
 unfold Fh;have:=List.length_filter_le (λa:Nat=>decide (ix cls (a:Int)=a)) (List.range v);simpa using this
def apw (n:ao) (h:n.fits) (i:n.Ok) (hb:n.accept.length^n.bz.length<=512){ws:List (List Int)}(D:fy n.cK n.bh ws):PC zB [n.av]=some (.bM [(tM n.cK n.bh ws).1.av,.int (tM n.cK n.bh ws).2]):=by
 obtain⟨K,p,J⟩:=aoD n i hb;obtain⟨cls,q,L⟩:=ao3 n i K p;have N:=aoV n i K p;obtain⟨fs,O,hc,P,Q⟩:=apa n i K p cls q;have hV:=Sv n h;rw[Vl i]at hV;have hlen:Fh cls K.length=ws.length:=apq i p q D (List.nodup_range.filter _) λa=>ab
 have hl:=q.l;have EN:=p.l;have R:=i.calls;have m:=apr i p q O hc D;refine bZ (Rm rfl ?_);have E:n.sys K = .agg [.int n.calls,.int n.ak,.int n.ah,.int n.stack,.int n.start,bL n.accept,b8 n.call,b8 n.push,b8 n.inner,fv n.pop,bL ((List.range K.length).map (n.lU K)),b8 ((List.range K.length).map (n.iW K)),fv ((List.range K.length).map (n.ll K))]:=rfl;have hsg:128<ws.length\/128<ws.length*n.calls.toNat\/(ws.length<=128/\ws.length*n.calls.toNat<=128):=aa
 have hfe:AV.aF false (fs.map λo=>match o with|none=>.aF false []|some w=>iL w)=b8 (fs.map (·.getD [])):=by
  show _=AV.aF false _;rw[List.map_map]
  congr 1
  refine eM λo _=>?_;cases o<;>rfl
 have S:AK K cls fs->∃l,PC zE [iL cls,b8 (fs.map (·.getD []))]=some (iL (kR l))/\RO n K cls ws l:=λj=>by
  have T:∀w∈ws,w.length<=1024:=λw d=>dF λr=>m.1 j ⟨w,d,aa⟩
  have wQ:=O.l;have U:∀v:Nat,v<K.length->ix (fs.map (·.getD [])) (v:Int)=(ix fs (v:Int)).getD []:=λv hv=>o7
  have u:∀v:Nat,v<K.length->ix cls (v:Int)=v->ix (fs.map (·.getD [])) (v:Int)∈ws/\∃x,x<K.length/\n.RX K x (ix (fs.map (·.getD [])) (v:Int))/\ix cls (x:Int)=v:=λv hv X6=>by
   obtain⟨w,d,e,r⟩:=WR i p q O hc D T hv X6;rw[U v hv,e];exact⟨d,r⟩
  obtain⟨l,H,hm,hp⟩:=apg cls (fs.map (·.getD [])) K.length EN hl (by simp[wQ]) (λw d=>by
   obtain⟨o,ho,rfl⟩:=cx.1 d;obtain⟨k,j,e⟩:=eL.1 ho;rw[<-aB j]at e;cases o with
   |none=>simp
   |some w=>exact(O.s k aa w e).1) λa b H hb R B5 e=>by
    obtain⟨_,x,r,z,ex⟩:=u a H R;obtain⟨_,y,hy,V,ey⟩:=u b hb B5;rw[<-e]at V;have:=(q.a x y _ _ r hy z V).1 (jw.refl _);omega
  have X:l.map (λa:Nat=>ix (fs.map (·.getD [])) (a:Int))=ws:=Ll H D.pX λw=>⟨λd=>by
   obtain⟨a,H,rfl⟩:=cx.1 d;obtain⟨a1,a2⟩:=(hm a).1 H;exact(u a a1 a2).1,λd=>by
   obtain⟨k,j,Ap,⟨x,r,z,ex⟩,F,_⟩:=LW i p q O hc D d;exact cx.2 ⟨k,(hm k).2 ⟨j,Ap⟩,by rw[U k j,F (T w d)];rfl⟩⟩
  have hll:l.length=ws.length:=by rw[<-X,dA]
  refine⟨l,hp,?_,hm,λs E=>?_,hll⟩
  .have:(l.map λa:Nat=>ix (fs.map (·.getD [])) (a:Int)).Nodup:=H.imp fun {a b} w3 e=>by rw[e,cC.refl]at w3;omega
   exact(List.pairwise_map.1 this).imp λeP e=>eP eD
  .have Y:=(hm _).1 (aJ (l:=l) (n:=(s:Int)) aa aa)
   obtain⟨_,x,r,z,ex⟩:=u _ Y.1 Y.2;refine⟨x,r,?_,by rw[ex,sn E]⟩
   have e:ix ws (s:Int)=ix (fs.map (·.getD [])) ((ix l (s:Int):Nat):Int):=by
    rw[<-X,aB (by simpa using E),lI,aB E]
   rw[e];exact z
 rw[E]at N L P Q;have C:∀l,RO n K cls ws l->ws.length<=128->ws.length*n.calls.toNat<=128->PC CA [n.sys K,iL cls,iL (kR l)]=some (cJ n.cK n.bh ws).av:=λl hO F A=>by
  rw[<-hO.oR i p q D];exact apm _ (hO.ok i p q D F A)
 rw[E]at C;clear E;generalize (List.range K.length).map (n.lU K)=SA at *;generalize (List.range K.length).map (n.iW K)=SI at *;generalize (List.range K.length).map (n.ll K)=SP at *;have er:=λ(ce:CE) (c0 c1 c2 c3 c4 c5 c6 c7 c8 c9:AV)=>oI (ce:=ce) (n:=0) (σ:=[⟨some 10,[c0,c1,c2,c3,c4,c5,c6,c7,c8,c9],.live⟩]) rfl;simp[-aj,hV,J,N,L];refine aK (λv:Nat=>[(10,.int (Fh cls v)),(8,.int v)]) (λ_=>[qO]) (λv=>v<=K.length) (λv=>K.length-v) 0 (by simp[du,Fh,qO]) aa ?_
 rintro v v0;have qF:=apv (cls:=cls) (v:=v);have B:=apu (cls:=cls) (v:=v)
 by_cases hv:v<K.length
 .have g :=az (show v<cls.length by omega)
  by_cases I:ix cls (v:Int)=v
  .rw[ae I]at B
   simp[-aj,g, I];exact⟨aa,aa,aD (v+1) (by simp[B]) rfl aa aa⟩
  .rw[ad I,kf]at B
   simp[-aj,g, I];exact⟨aa,aD (v+1) (by simp[B]) rfl aa aa⟩
 .have ev:v=K.length:=by omega
  subst ev;have g :=bX (show ¬K.length<cls.length by omega)
  have KP:ws.length<=512:=aa
  obtain⟨M,hM⟩:∃M:Nat,M=ws.length*n.calls.toNat:=⟨_,rfl⟩;have G:(ws.length:Int)*n.calls=(M:Int):=by
   rw[hM,qb,show((n.calls.toNat:Nat):Int)=n.calls by omega]
  have hMl:M<=512*64:=by rw[hM];exact jT KP aa
  by_cases F:128<ws.length\/128<M
  .have Z:tM n.cK n.bh ws=(zN,11):=by unfold tM;exact ae (by rcases F with h|h;exact .inl h;exact .inr (by rw[hM]at h;exact h))
   rw[Z]
   by_cases A:(128:Int)<ws.length
   .simp[hlen,g, er,qO,zN,A]
   .have h3:=az (show(128:Int)<M by omega)
    have A:=bX A;simp[hlen,g, er,qO,zN,A,h3,G];omega
  .have A:=bX (show ¬(128:Int)<ws.length by omega)
   have h3:=bX (show ¬(128:Int)<M by omega)
   have hgn:¬(128<ws.length\/128<ws.length*n.cK.c.toNat):=by rw[hM]at F;exact F
   by_cases j:AK K cls fs
   .have Z:tM n.cK n.bh ws=(cJ n.cK n.bh ws,0):=by unfold tM;rw[ad hgn,ad (m.1 j)]
    rw[Z];obtain⟨kn,d⟩:=P j;have d:=d.trans (show _=some (AV.bM [b8 (fs.map (·.getD [])),kn,.bool true])by rw[<-hfe];rfl)
    obtain⟨l,hp,hO⟩:=S j;have I:=C l hO aa aa
    generalize fs.map (·.getD [])=W at d hp;simp[hlen,g, er,qO,A,h3,G,d,hp,I];omega
   .have Z:tM n.cK n.bh ws=(zN,3):=by unfold tM;rw[ad hgn,ae (dF λr=>j (m.2 r))]
    rw[Z];have d:=Q j;simp[hlen,g, er,qO,zN,A,h3,G,d];omega
def apx (aw:PC zA []=some (.bool true)) (n:ao) (h:n.fits):PC Rl [n.av]=some (.bool true):=by
 refine bZ (aiL rfl ?_);have l:=aog n h;cases g:n.nM with
 |false=>rw[g]at l;simp[l,aw]
 |true=>
  rw[g]at l;obtain⟨⟨x,e⟩,p,q,r⟩:=VE n h λd=>aop g d;have hd:PC zB [n.av]=some (.bM [x.av,.int e])/\x.Lt:=by
   by_cases d:n.bC=0
   .obtain⟨ws,s,i⟩:=r d
    have m:=tx d;have u:n.accept.length^n.bz.length<=512:=by
     obtain⟨z,_,_⟩:=VF g;have A:=LN m;have g:=m.eU;have a:n.accept.length<=3:=aa
     have b:n.bz.length<=3:=aa
     have B:n.accept.length^n.bz.length<=3^n.bz.length:=Nat.pow_le_pow_left a _;have C:3^n.bz.length<=3^3:=Nat.pow_le_pow_right aa b
     omega
    have:=apw n h m u s;rw[<-i]at this;have j:=aoq (L:=n.bh) (ws:=ws) m.cK;rw[<-i]at j;exact⟨this,j⟩
   .have:=apt n h d
    have w:=q d;injection w with ex y
    rw[ex,y];exact⟨this,Ly⟩
  have o:=Vt x x hd.2 hd.2;rw[Lu.2 rfl]at o;simp[l,p,hd.1,o,aw]
end Ab
