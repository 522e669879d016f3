/- The document's Differ, and that it is the program's; and what it leans on. Condition: none. -/
import Derived.Test.YtdenhmniigikcaaGreatN43Di
import Derived.Test.YtdenhmniigikcaaGreatS44U
set_option linter.all false
set_option maxRecDepth 100000
set_option maxHeartbeats 4000000
namespace Ab
def amn (a b:al) (h:a.fits) (h' : b.fits) (sa:a.small=true) (sb:b.small=true):PC GW [a.av,b.av]=some (Jc a b):=by
 refine bP (afX rfl ?_);have e1:=PO a h;have e2:=PO b h';unfold Jc
 by_cases hv:a.aX=0
 case neg=>simp[-ag,e1,hv,sg]
 by_cases hw:b.aX=0
 case neg=>simp[-ag,e1,e2,hv,hw,sg]
 by_cases hx:a.calls ≠ b.calls\/a.af ≠ b.af\/a.aj ≠ b.aj
 .rw[aa (by simpa using hv),aa (by simpa using hw),ab hx]
  have key:∀p q r:Prop,(p->q->r->False)->(p=True/\q=True/\r=False)\/(p=True/\q=False)\/p=False:=λp q r h=>by
   by_cases hp:p<;>by_cases hq:q<;>by_cases hr:r<;>simp[hp,hq,hr]
   exact absurd (h hp hq hr) id
  rcases key (a.calls=b.calls) (a.af=b.af) (a.aj=b.aj) (λc1 c2 c3=>by rcases hx with hx|hx|hx;exact hx c1;exact hx c2;exact hx c3)with⟨c1,c2,c3⟩|⟨c1,c2⟩|c1
  .simp[-ag,e1,e2,hv,hw,c1,c2,c3,sg]
  .simp[-ag,e1,e2,hv,hw,c1,c2,sg]
  .simp[-ag,e1,e2,hv,hw,c1,sg]
 rw[aa (by simpa using hv),aa (by simpa using hw),aa hx]
 have c1:a.calls=b.calls:=cZ λh=>hx (.inl h);have c2:a.af=b.af:=cZ λh=>hx (.inr (.inl h));have c3:a.aj=b.aj:=cZ λh=>hx (.inr (.inr h));have oa:=og hv;have ob:=og hw;have hp:=SU oa ob sa sb c1 c2 c3;have hn:=hp.n;have hg:=hp.g;have hm:((a.accept.length:Int)*(b.accept.length:Int))=((a.accept.length*b.accept.length:Nat):Int):=by rw[iI]
 have l1:¬(144:Int)<(a.accept.length:Int)*(b.accept.length:Int):=by omega
 have l2:¬(1024:Int)<a.stack*b.stack:=by omega
 have l3 : -9223372036854775808<=(a.accept.length:Int)*(b.accept.length:Int)/\(a.accept.length:Int)*(b.accept.length:Int)<=9223372036854775807:=by omega
 have gp:=nK (show 0<=a.stack by have:=oa.stack;omega) (show 0<=b.stack by have:=ob.stack;omega)
 have l4 : -9223372036854775808<=a.stack*b.stack/\a.stack*b.stack<=9223372036854775807:=by omega
 have d1:=aB c1;have d2:=aB c2;have d3:=aB c3;have S8:=amm hp;have hf:=al4 (akV hp);have ape:(cW a b).av = .agg [.int (cW a b).calls,.int (cW a b).af,.int (cW a b).aj,.int (cW a b).stack,.int (cW a b).start,bL (cW a b).accept,bN (cW a b).call,bN (cW a b).push,bN (cW a b).inner,dR (cW a b).pop]:=rfl;clear hx;generalize (cW a b).aQ.f1 (cW a b).start (ix (cW a b).accept)=m at *;generalize (cW a b).aQ.zp (cW a b).start (ix (cW a b).accept)=k at *;generalize cW a b=P at *;cases m with
 |none=>simp[-ag,e1,e2,hv,hw,d1,d2,d3,l1,l2,l3,l4,S8,hf,tR]
 |some w=>simp[-ag,e1,e2,hv,hw,d1,d2,d3,l1,l2,l3,l4,S8,hf,tR]
variable{a b:al}
theorem amo(h:¬a.bB=b.bB):∃w,¬(a.bB w↔b.bB w):=cZ λd=>h (funext λw=>propext (cZ λe=>d ⟨w,e⟩))
variable{w:List Int}{t:Int}
theorem y4{n:al}(e:n.Ok)(d:Wd n.aQ n.start t w):n.bB w↔ix n.accept t=true:=⟨λ⟨g, a, b⟩=>by rw[d.pO e.m0 a];exact b, λh=>⟨t,d,h⟩⟩
theorem Tt(d:fW a b) (w:List Int):gdW (cW a b).aQ (cW a b).start (ix (cW a b).accept) w↔¬(a.bB w↔b.bB w):=by
 constructor
 .rintro⟨t,y,x,t3⟩
  obtain⟨e, g, i,kx,l⟩:=Sp d t3 a.start b.start d.oa.start d.ob.start rfl;have j:0<=e /\e < (a.accept.length:Int):=kx.range (me d.oa) d.oa.start;have q:0<=g /\g < (b.accept.length:Int):=l.range (me d.ob) d.ob.start;rw[i,SV d j q]at x;rw[y4 d.oa kx,y4 d.ob l];cases m:ix a.accept e <;>cases n:ix b.accept g <;>simp_all
 .intro o
  have j:∃e g, ((0<=e /\e < (a.accept.length:Int))/\Wd a.aQ a.start e w)/\((0<=g /\g < (b.accept.length:Int))/\Wd b.aQ b.start g w):=by
   by_cases u:a.bB w
   .obtain⟨t,i,_⟩:=u
    obtain⟨g, m,n⟩:=alB d d.ob.start i;exact⟨t,g, ⟨i.range (me d.oa) d.oa.start,i⟩,m,n⟩
   .have r:b.bB w:=cZ λh=>o ⟨λs =>absurd s u,λs =>absurd s h⟩
    obtain⟨t,i,_⟩:=r;obtain⟨e, m,n⟩:=alC d d.oa.start i;exact⟨e, t,⟨m,n⟩,i.range (me d.ob) d.ob.start,i⟩
  obtain⟨e, g, ⟨j,kx⟩,q,l⟩:=j;have p:=r9 d j q;refine⟨pr b e g, ⟨p.1,?_⟩,?_,ak2 d d.oa.start d.ob.start kx l⟩
  .show _<(((cW a b).accept.length:Nat):Int)
   rw[akU];exact p.2
  .rw[SV d j q]
   rw[y4 d.oa kx,y4 d.ob l]at o;cases m:ix a.accept e <;>cases n:ix b.accept g <;>simp_all
theorem amp (aw:PC vl []=some (.bool true)) (a b:al) (ha:a.fits) (hb:b.fits):PC OM [a.av,b.av]=some (.bool true):=by
 refine bP (afQ rfl ?_);have Cq:=SF a ha;have Jt:=SF b hb;cases Jk:a.kM with
 |false=>rw[Jk]at Cq;simp[Cq,aw]
 |true=>
 cases UY:b.kM with
 |false=>rw[Jk]at Cq;rw[UY]at Jt;simp[Cq,Jt,aw]
 |true=>
  rw[Jk]at Cq;rw[UY]at Jt;obtain⟨⟨x,e⟩,Df,a1,a2⟩:=Jd a ha λhv=>SX Jk hv;obtain⟨⟨y,f⟩,UZ,b1,b2⟩:=Jd b hb λhv=>SX UY hv;have sa:=(Je Jk).2.2;have sb:=(Je UY).2.2;have hD:=amn a b ha hb sa sb;rcases alD a b sa sb with⟨e0,Tu,hd⟩|⟨hp,va,vb,hd⟩
  .rw[hd]at hD
   simp[Cq,Jt,hD,Df,UZ,Tu,aw]
  have hdf:∃w d,Jc a b = .bF [iL w,.bool d,.int 0]/\(d=true↔a.bB ≠ b.bB):=by
   rcases hd with⟨h1,h2,h3⟩|⟨w,h1,h3⟩
   .refine⟨[],false,h3,⟨λh=>by simp at h,λgY=>?_⟩⟩
    obtain⟨w,hw⟩:=amo gY;obtain⟨t,t1,t2,t3⟩:=(Tt hp w).2 hw;unfold eI.zp at h2;rw[ab ⟨⟨t,t1,t2,t3.conn⟩,h1⟩]at h2;simp at h2
   .refine⟨w,true,h3,⟨λ_ hl=>?_,λ_=>rfl⟩⟩
    have:=(Tt hp w).1 (BV h1).1.1;exact this (by rw[hl])
  obtain⟨w,d,hd2,OC⟩:=hdf;rw[hd2]at hD
  by_cases he:e=0
  case neg=>simp[Cq,Jt,hD,Df,UZ,he,aw]
  by_cases hf:f=0
  case neg=>simp[Cq,Jt,hD,Df,UZ,he,hf,aw]
  subst he hf;obtain⟨ws,hRa,hoa⟩:=a2 va;obtain⟨vs,hRb,hob⟩:=b2 vb;have hx:=SY (A:=a.dS) (L:=a.bB) (ws:=ws) (by rw[<-hoa])
  have hy:=SY (A:=b.dS) (L:=b.bB) (ws:=vs) (by rw[<-hob])
  rw[<-hoa]at hx;rw[<-hob]at hy;obtain⟨hx,h1,h2,h3⟩:=hx;obtain⟨hy,g1,g2,g3⟩:=hy;have hx:x=cA a.dS a.bB ws:=hx;have hy:y=cA b.dS b.bB vs:=hy;have hA:jS a ws:=⟨hp.oa,hRa,h1,h2⟩;have hB:jS b vs:=⟨hp.ob,hRb,g1,g2⟩;have eal:a.dS=b.dS:=by
   show(⟨a.calls,a.af,a.aj⟩:kj)=⟨b.calls,b.af,b.aj⟩;rw[hp.c,hp.i,hp.r]
  have hN:=SH x y (by rw[hx];exact(Jf hA.ok.dS h1 h2).1) (by rw[hy];exact(Jf hB.ok.dS g1 g2).1)
  have hsd:mE x y = !d:=by
   cases d with
   |false=>
    have hl:a.bB=b.bB:=cZ λh=>by have:=OC.2 h;simp at this
    show _=true;rw[I7,hx,hy];rw[eal,hl]at hRa ⊢;rw[hRa.pO hRb]
   |true=>
    refine SG λW5=>OC.1 rfl ?_;rw[<-hA.bB,<-hB.bB,<-hx,<-hy,W5]
  rw[hsd]at hN;cases d<;>simp[Cq,Jt,hD,Df,UZ,hN,aw]
def df:al:=⟨2,0,2,2,0,[true,false],[[0,0],[1,1]],[[0,1],[0,0]],[[],[]],[[[0,1],[1,0]],[[1,1],[1,1]]]⟩
def qH:al:=⟨2,0,2,4,0,[true,false],[[0,0],[0,0]],[[0,1],[2,3]],[[],[]],[[[0,1],[1,0],[1,1],[1,1]],[[1,1],[1,1],[1,1],[1,1]]]⟩
theorem Dj:df.aX=0:=by decide
theorem Tv:qH.aX=0:=by decide
theorem tT:df.Ok:=og Dj
theorem Tw:qH.Ok:=og Tv
def wF (t c s r:Int):Int:=if t=1 then 1 else if s=1 then 1 else if c=r then 0 else 1
theorem uG{x:Int}(a:0<=x) (b:x<2):x=0\/x=1:=by omega
variable{c s r:Int}{u:List Int}
theorem Ju(m:t=0\/t=1) (b:s=0\/s=1) (d:0<=c) (g:c<2) (i:0<=r) (j:r<2) (h:Wd df.aQ 0 s u) (n:Wd df.aQ 1 1 u):Wd df.aQ t (wF t c s r) (c::(u ++ [2+0+r])):=by
 have a:=uG d g;have l:=uG i j;have key:∀p,Wd df.aQ (df.aQ.call t c).1 p u->df.aQ.pop p (df.aQ.call t c).2 r=wF t c s r->Wd df.aQ t (wF t c s r) (c::(u ++ [2+0+r])):=λp o e=>by
  have:=Wd.call (M:=df.aQ) t c p r (wF t c s r) u [] d g i j o (by rw[e];exact .nil _)
  exact this
 rcases m with rfl|rfl
 .refine key s ?_ ?_
  .rcases a with rfl|rfl<;>exact h
  .rcases a with rfl|rfl<;>rcases l with rfl|rfl<;>rcases b with rfl|rfl<;>rfl
 .refine key 1 ?_ ?_
  .rcases a with rfl|rfl<;>exact n
  .rcases a with rfl|rfl<;>rcases l with rfl|rfl<;>rcases b with rfl|rfl<;>rfl
theorem px(h:Ww df.dS w):∃t:Int,(t=0\/t=1)/\Wd df.aQ 0 t w/\Wd df.aQ 1 1 w:=by
 induction h with
 |nil=>exact⟨0,.inl rfl,.nil _,.nil _⟩
 |aH w i x i1 _ _=>have i1:i<0:=i1;omega
 |ak w u c r g j l m _ _ b d=>
  obtain⟨t,p,q,e⟩:=b;obtain⟨s,n,o,a⟩:=d;refine⟨wF t c s r,?_,q.app (Ju p n g j l m o a),?_⟩
  .unfold wF;split
   .exact .inr rfl
   .split
    .exact .inr rfl
    .split
     .exact .inl rfl
     .exact .inr rfl
  .have:=e.app (Ju (t:=1) (.inr rfl) n g j l m o a)
   exact this
theorem ss(h:Wd df.aQ 0 s w) (g:Wd df.aQ 0 t w):s=t:=h.pO tT.m0 g
theorem tU(e:Wd df.aQ 0 t w) (g:Wd df.aQ 0 s u) (h:0<=c) (i:c<2) (j:0<=r) (l:r<2):Wd df.aQ 0 (wF t c s r) (w++c::(u ++ [2+0+r])):=by
 obtain⟨o, m,a, _⟩:=px e.ww;obtain⟨s', n,b, d⟩:=px g.ww;rw[ss e a, ss g b];exact a.app (Ju m n h i j l b d)
theorem vU(h:Wd df.aQ 0 t w):df.bB w↔t=0:=by
 have:=y4 tT (n:=df) (w:=w) (t:=t) h;rw[this];obtain⟨d, b,a, _⟩:=px h.ww;rw[ss h a];rcases b with rfl|rfl<;>decide
theorem y5{v:List Int}(a:Wd df.aQ 0 s u) (b:Wd df.aQ 0 t v):jt df.dS df.bB u v↔s=t:=by
 constructor
 .intro h
  have:=h.acc;rw[vU a,vU b]at this;obtain⟨s', n,o, _⟩:=px a.ww;obtain⟨z, A,p, _⟩:=px b.ww;have B:=ss a o;have C:=ss b p;omega
 .intro e n
  have back:∀{u v:List Int},Sep df.dS df.bB u v->∀s t,Wd df.aQ 0 s u->Wd df.aQ 0 t v->s ≠ t:=by
   intro u v n
   induction n with
   |acc u v h=>
    intro s t a b e;subst e;exact h (by rw[vU a,vU b])
   |aH u v i D i1 _ _=>have i1:i<0:=i1;omega
   |bl u v y c r d g j l q _ w=>
    intro s t a b e;subst e;obtain⟨x,_,m,_⟩:=px q;exact w _ _ (tU a m d g j l) (tU b m d g j l) rfl
   |br u v y c r d g j l q _ w=>
    intro s t a b e;subst e;obtain⟨x,_,m,_⟩:=px q;exact w _ _ (tU m a d g j l) (tU m b d g j l) rfl
  exact back n _ _ a b e
theorem pV:Wd df.aQ 0 1 [0,3]:=tU (w:=[]) (u:=[]) (t:=0) (s:=0) (c:=0) (r:=1) (.nil _) (.nil _) (by omega) (by omega) (by omega) (by omega)
theorem Cr:gP df.dS df.bB [[],[0,3]]:=by
 refine⟨?_,λw d=>?_,λw d v e p=>?_,λv e=>?_⟩
 .simp;decide
 .rcases b5.1 d with rfl|d
  .exact .nil
  .simp at d;subst d;exact pV.ww
 .rcases b5.1 d with rfl|d
  .unfold aP
   split
   .omega
   .split
    .rename_i h;simp at h
    .cases v with
     |nil=>decide
     |cons a v=>rename_i h _;simp at h
  .simp at d
   subst d;obtain⟨t,l,b,_⟩:=px e;have:=(y5 pV b).1 p;subst this;cases e with
   |nil=>have:=ss b (.nil 0);omega
   |aH w i q i1 _=>have i1:i<0:=i1;omega
   |ak w u c r m g n j d s=>
    by_cases o:w=[]/\u=[]
    .obtain⟨rfl,rfl⟩:=o
     have:=ss b (tU (.nil 0) (.nil 0) m g n j);have g:c<2:=g;have j:r<2:=j;rcases uG m g with rfl|rfl<;>rcases uG n j with rfl|rfl
     .simp[wF]at this
     .decide
     .decide
     .simp[wF]at this
    .have hlen:2<(w++c::(u ++ [df.dS.c+df.dS.i+r])).length:=by
      simp only[aY,bX,dg];cases w with
      |nil=>cases u with
       |nil=>exact absurd ⟨rfl,rfl⟩ o
       |cons a u=>simp<;>omega
      |cons a w=>simp<;>omega
     unfold aP;rw[ab (by simpa using hlen)];omega
 .obtain⟨t,l,b,_⟩:=px e
  rcases l with rfl|rfl
  .exact⟨[],by simp,(y5 b (.nil 0)).2 rfl⟩
  .exact⟨[0,3],by simp,(y5 b pV).2 rfl⟩
theorem amq(h:Wd df.aQ 0 t w):gn df.dS df.bB [[],[0,3]] w=t:=by
 obtain⟨d, b,a, _⟩:=px h.ww;have e:=ss h a;subst e;rcases b with rfl|rfl
 .exact vO Cr h.ww (by omega) (by simp) ((y5 h (.nil 0)).2 rfl)
 .exact vO Cr h.ww (by omega) (by simp) ((y5 h pV).2 rfl)
theorem Jv:cA df.dS df.bB [[],[0,3]]=qH:=by
 have b:Wd df.aQ 0 0 []:=.nil 0;have R:∀{w u:List Int} {t s:Int},Wd df.aQ 0 t w->Wd df.aQ 0 s u->∀c r:Int,0<=c->c<2->0<=r->r<2->gn df.dS df.bB [[],[0,3]] (w++c::(u ++ [2+0+r]))=wF t c s r:=λj l c r m n o p=>amq (tU j l m n o p);have q:df.bB []:=(vU b).2 rfl;have x:¬df.bB [0,3]:=λh=>by have:=(vU pV).1 h;omega
 have y:ix ([[],[0,3]]:List (List Int)) 0=[]:=rfl;have z:ix ([[],[0,3]]:List (List Int)) 1=[0,3]:=rfl;refine al.ext' rfl rfl rfl rfl rfl ?_ rfl rfl rfl ?_
 .show[@decide (df.bB []) (Classical.propDecidable _),@decide (df.bB [0,3]) (Classical.propDecidable _)]=[true,false]
  rw[@decide_eq_true _ (Classical.propDecidable _) q,@decide_eq_false _ (Classical.propDecidable _) x]
 .have P:∀(i g r:Nat),i<2->g<4->r<2->(if df.dS.c.toNat=0 then(0:Int)else gn df.dS df.bB [[],[0,3]] (ix ([[],[0,3]]:List (List Int)) ((g/df.dS.c.toNat:Nat):Int)++((g%df.dS.c.toNat:Nat):Int)::(ix ([[],[0,3]]:List (List Int)) (i:Int) ++ [df.dS.c+df.dS.i+(r:Int)])))=wF ((g/2:Nat):Int) ((g%2:Nat):Int) (i:Int) (r:Int):=λi g r a d e=>by
   have W:∀k:Nat,k<2->Wd df.aQ 0 (k:Int) (ix ([[],[0,3]]:List (List Int)) (k:Int)):=λk A=>by
    have:k=0\/k=1:=by omega
    rcases this with rfl|rfl
    .exact b
    .exact pV
   rw[aa (by decide)]
   show gn df.dS df.bB [[],[0,3]] (ix ([[],[0,3]]:List (List Int)) ((g/2:Nat):Int)++((g%2:Nat):Int)::(ix ([[],[0,3]]:List (List Int)) (i:Int) ++ [2+0+(r:Int)]))=_;exact R (W (g/2) (by omega)) (W i a) _ _ (by omega) (by omega) (by omega) (by omega)
  show(List.range 2).map (λ(i:Nat)=>(List.range 4).map λ(g:Nat)=>(List.range 2).map λ(r:Nat)=>if df.dS.c.toNat=0 then(0:Int)else gn df.dS df.bB [[],[0,3]] (ix ([[],[0,3]]:List (List Int)) ((g/df.dS.c.toNat:Nat):Int)++((g%df.dS.c.toNat:Nat):Int)::(ix ([[],[0,3]]:List (List Int)) (i:Int) ++ [df.dS.c+df.dS.i+(r:Int)])))=_
  rw[fv (g:=λ(i:Nat)=>(List.range 4).map λ(g:Nat)=>(List.range 2).map λ(r:Nat)=>wF ((g/2:Nat):Int) ((g%2:Nat):Int) (i:Int) (r:Int)) λi a=>fv λg d=>fv λr e=>P i g r (bT.1 a) (bT.1 d) (bT.1 e)]
  decide
theorem Tx:jS df [[],[0,3]]:=⟨tT,Cr,by decide,by decide⟩
theorem amr:qH.bB=df.bB:=by rw[<-Jv];exact Tx.bB
end Ab
