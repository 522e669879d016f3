/- First words by the document's table; and what it leans on. Condition: none. -/
import Derived.Test.YtdenhmniigikcaaGreatS44L
set_option linter.all false
set_option maxRecDepth 100000
set_option maxHeartbeats 4000000
open Option renaming some->aa,none->ab
open Bool renaming true->ad,false->ae
open List renaming range->af,replicate->ag,length->ah
open Int renaming toNat->aj
namespace Ab
abbrev TO:=Int->Int->Option ak
inductive Oh (M:eZ) (T:TO) (s t:Int):ak->Prop
 |bp (i:Int) (x:ak):0<=i->i<M.aG->T (M.aH s i) t=aa x->Oh M T s t ((M.ay+i)::x)
 |call (c p r:Int) (x y:ak):0<=c->c<M.ay->0<=p->p<(M.size:Int)->0<=r->r<M.aM->T (M.call s c).1 p=aa x->T (M.aP p (M.call s c).2 r) t=aa y->Oh M T s t (c::(x++(M.ay+M.aG+r)::y))
def cy (M:eZ) (s:Int):Prop:=0<=s/\s<(M.size:Int)
def Wy (M:eZ) (T:TO):Prop:=∀s t w,cy M s->cy M t->T s t=aa w->Wd M s t w/\ah w<=1024
variable{t:Int}{w:ak}
def Oh.wd{M:eZ}(hM:M.Ok){T:TO}(hT:Wy M T){s:Int}(hs:cy M s) (ht:cy M t) (h:Oh M T s t w):Wd M s t w:=by
 cases h with
 |bp i x h0 h1 h2=>exact .bp s i t x h0 h1 (hT _ _ _ (hM.aH s i hs.1 hs.2 h0 h1) ht h2).1
 |call c p r x y c0 c1 p0 p1 r0 r1 h1 h2=>
  have hc:=hM.call s c hs.1 hs.2 c0 c1;have hp:=hM.aP s c p r hs.1 hs.2 c0 c1 p0 p1 r0 r1;exact .call s c p r t x y c0 c1 r0 r1 (hT _ _ _ hc ⟨p0,p1⟩ h1).1 (hT _ _ _ hp ht h2).1
def Oi (l:Option ak) (w:ak):Option ak:=if 1024<ah w then l else match l with
 |none=>aa w
 |some x=>if bD x w<=0 then aa x else aa w
variable{l:Option ak}{x:ak}
def aoL(h:Oi l w=aa x):l=aa x\/(x=w/\ah x<=1024):=by
 unfold Oi at h;split at h
 .exact .inl h
 .split at h
  .injection h with h;exact .inr ⟨h.symm,by rw[<-h];omega⟩
  .split at h
   .exact .inl h
   .injection h with h;exact .inr ⟨h.symm,by rw[<-h];omega⟩
def CJ (l:Option ak) (ws:al):Option ak:=ws.foldl Oi l
def aoM{ws:al}:CJ l (ws ++ [w])=Oi (CJ l ws) w:=by simp[CJ]
def Wz{x:ak}:∀{ws:al}{l:Option ak},CJ l ws=aa x->l=aa x\/(x∈ws/\ah x<=1024)
 | [],_,h=>.inl h
 |w::ws,l,h=>by
  rcases Wz (ws:=ws) (l:=Oi l w) h with h|⟨b,a⟩
  .rcases aoL h with h|⟨rfl,a⟩
   .exact .inl h
   .exact .inr ⟨aA,a⟩
  .exact .inr ⟨fS,a⟩
abbrev PR:=Int×Int
structure Bs where
 W:TO
 D:Int->Int->Bool
 R:Nat->List PR
def ia (W:TO) (s t:Int) (w:ak):TO:=λu v=>if u=s/\v=t then aa w else W u v
def ga (R:Nat->List PR) (n:Nat) (p:PR):Nat->List PR:=λk=>if k=n then R k ++ [p]else R k
def nW (D:Int->Int->Bool) (s t:Int):Int->Int->Bool:=λu v=>if u=s/\v=t then ad else D u v
def Bs.off (b:Bs) (s t:Int) (x:ak):Bs:=
 if 1024<ah x\/b.D s t=ad then b else match b.W s t with
 |none=>⟨ia b.W s t x,b.D,ga b.R (ah x) (s,t)⟩
 |some o=>if (ah o)<ah x then b else if bD o x<=0 then b else⟨ia b.W s t x,b.D,if (ah x)<ah o then ga b.R (ah x) (s,t)else b.R⟩
structure jA (M:eZ) (P:Int->Int->ak->Prop) (n:Nat) (b:Bs):Prop where
 snd:∀s t w,cy M s->cy M t->b.W s t=aa w->P s t w/\ah w<=1024
 dn:∀s t,cy M s->cy M t->(b.D s t=ad↔∃w,lG (P s t)=aa w/\ah w<n)
 wd:∀s t,cy M s->cy M t->b.D s t=ad->b.W s t=lG (P s t)
 ge:∀s t w,cy M s->cy M t->b.W s t=aa w->b.D s t=ae->n<=ah w
 mO:∀s t w,cy M s->cy M t->b.W s t=aa w->b.D s t=ae->(s,t)∈b.R (ah w)
 low:∀s t k,(s,t)∈b.R k->(cy M s/\cy M t)/\∃w,b.W s t=aa w/\ah w<=k
 nd:∀k,(b.R k).Nodup
def pe (b:Bs) (s t:Int) (x:ak):Prop:=1024<ah x\/b.D s t=ad\/∃w,b.W s t=aa w/\dU w<=dU x
structure tK (M:eZ) (b c:Bs):Prop where
 D:∀s t,b.D s t=ad->c.D s t=ad
 W:∀s t w,cy M s->cy M t->b.W s t=aa w->∃v,c.W s t=aa v/\dU v<=dU w
def tK.refl{M:eZ}(b:Bs):tK M b b:=⟨λ_ _ h=>h,λ_ _ w _ _ h=>⟨w,h,bG _⟩⟩
def tK.trans{M:eZ}{a b c:Bs}(h:tK M a b) (k:tK M b c):tK M a c:=⟨λs t e=>k.D s t (h.D s t e),λs t w hs ht e=>by
 obtain⟨v,h1,h2⟩:=h.W s t w hs ht e;obtain⟨u,h3,h4⟩:=k.W s t v hs ht h1;exact⟨u,h3,ax⟩⟩
def pe.mono{M:eZ}{b c:Bs}(h:tK M b c){s:Int}(hs:cy M s) (ht:cy M t) (k:pe b s t x):pe c s t x:=by
 rcases k with k|k|⟨w,k1,k2⟩
 .exact .inl k
 .exact .inr (.inl (h.D s t k))
 .obtain⟨v,h1,h2⟩:=h.W s t w hs ht k1
  exact .inr (.inr ⟨v,h1,ax⟩)
section
variable{M:eZ}{P:Int->Int->ak->Prop}{n:Nat}{b:Bs}
variable{t:Int}{x:ak}
def jA.off (hP:∀s t w,P s t w->sy w) (h:jA M P n b){s:Int}(hs:cy M s) (ht:cy M t) (hx:P s t x) (hn:n<=ah x):jA M P n (b.off s t x)/\tK M b (b.off s t x)/\pe (b.off s t x) s t x:=by
 have hsx:=hP s t x hx;unfold Bs.off;split
 .rename_i hc
  exact⟨h,.refl _,by rcases hc with hc|hc;exact .inl hc;exact .inr (.inl hc)⟩
 .rename_i hc
  have hl:ah x<=1024:=ax
  have hD:b.D s t=ae:=by
   cases e:b.D s t with
   |false=>rfl
   |true=>exact absurd (.inr e) hc
  -- a better word is put in
  have put:∀R:Nat->List PR,(∀k p,p∈b.R k->p∈R k)->(∀k p,p∈R k->p∈b.R k\/(k=ah x/\p=(s,t)))->(s,t)∈R (ah x)->(∀w,b.W s t=aa w->dU x<=dU w/\ah x<=ah w)->(∀k,(R k).Nodup)->jA M P n ⟨ia b.W s t x,b.D,R⟩/\tK M b ⟨ia b.W s t x,b.D,R⟩/\pe ⟨ia b.W s t x,b.D,R⟩ s t x:=by
   intro R h1 h2 h3 h4 h5;refine⟨⟨λu v w hu hv e=>?_,h.dn,λu v hu hv e=>?_,λu v w hu hv e e2=>?_,λu v w hu hv e e2=>?_,λu v k e=>?_,h5⟩,⟨λ_ _ e=>e,λu v w hu hv e=>?_⟩,?_⟩
   .dsimp only[ia]at e
    by_cases om:u=s/\v=t
    .rw[aD om]at e;injection e with e;rw[om.1,om.2,<-e];exact⟨hx,hl⟩
    .rw[aC om]at e;exact h.snd u v w hu hv e
   .dsimp only[ia]at e ⊢
    by_cases om:u=s/\v=t
    .rw[om.1,om.2,hD]at e;simp at e
    .rw[aC om];exact h.wd u v hu hv e
   .dsimp only[ia]at e e2
    by_cases om:u=s/\v=t
    .rw[aD om]at e;injection e with e;rw[<-e];exact hn
    .rw[aC om]at e;exact h.ge u v w hu hv e e2
   .dsimp only[ia]at e e2 ⊢
    by_cases om:u=s/\v=t
    .rw[aD om]at e;injection e with e;rw[om.1,om.2,<-e];exact h3
    .rw[aC om]at e;exact h1 _ _ (h.mO u v w hu hv e e2)
   .dsimp only[ia]at e ⊢
    by_cases om:u=s/\v=t
    .obtain⟨rfl,rfl⟩:=om
     refine⟨⟨hs,ht⟩,x,aD ⟨rfl,rfl⟩,?_⟩;rcases h2 _ _ e with e|⟨rfl,_⟩
     .obtain⟨_,w,h7,h6⟩:=h.low _ _ k e
      have:=(h4 w h7).2;omega
     .exact bG _
    .rw[aC om]
     rcases h2 _ _ e with e|⟨rfl,e4⟩
     .exact h.low u v k e
     .injection e4 with e1 e2;exact absurd ⟨e1,e2⟩ om
   .dsimp only[ia]
    by_cases om:u=s/\v=t
    .rw[aD om];rw[om.1,om.2]at e;exact⟨x,rfl,(h4 w e).1⟩
    .rw[aC om];exact⟨w,e,bG _⟩
   .exact .inr (.inr ⟨x,aD ⟨rfl,rfl⟩,bG _⟩)
  have WA:∀k p,p∈b.R k->p∈ga b.R (ah x) (s,t) k:=λk p hp=>by unfold ga;split<;>simp[hp]
  have WB:∀k p,p∈ga b.R (ah x) (s,t) k->p∈b.R k\/(k=ah x/\p=(s,t)):=λk p hp=>by
   unfold ga at hp;split at hp
   .rename_i hk
    rcases dI.1 hp with hp|hp
    .exact .inl hp
    .simp at hp;exact .inr ⟨hk,hp⟩
   .exact .inl hp
  have WC:(∀w,b.W s t=aa w->ah x<ah w)->∀k,(ga b.R (ah x) (s,t) k).Nodup:=λhw k=>by
   unfold ga;split
   .rename_i hk
    rw[uy];refine⟨h.nd k,aA,λp hp q hq e=>?_⟩
    simp at hq;subst hq;subst e;obtain⟨_,w,h7,h6⟩:=h.low _ _ k hp;have:=hw w h7;omega
   .exact h.nd k
  have WD:(s,t)∈ga b.R (ah x) (s,t) (ah x):=by unfold ga;rw[aD rfl];simp
  split
  .rename_i e
   exact put _ WA WB WD (λw hw=>by rw[e]at hw;simp at hw) (WC λw hw=>by rw[e]at hw;simp at hw)
  .rename_i o e
   have N6:=hP s t o (h.snd s t o hs ht e).1;split
   .rename_i cw
    exact⟨h,.refl _,.inr (.inr ⟨o,e,Nat.le_of_lt (Cz N6 cw)⟩)⟩
   .rename_i cw
    split
    .rename_i hle
     exact⟨h,.refl _,.inr (.inr ⟨o,e,(xc N6 hsx).1 hle⟩)⟩
    .rename_i hle
     rw[xc N6 hsx]at hle;have h4:∀w,b.W s t=aa w->dU x<=dU w/\ah x<=ah w:=λw hw=>by
      rw[e]at hw;injection hw with hw;rw[<-hw];exact⟨ax,ax⟩
     split
     .rename_i aoN
      exact put _ WA WB WD h4 (WC λw hw=>by rw[e]at hw;injection hw with hw;rw[<-hw];exact aoN)
     .have Il:ah o=ah x:=by omega
      exact put _ (λ_ _ h=>h) (λ_ _ h=>.inl h) (by rw[<-Il];exact h.mO s t o hs ht e hD) h4 h.nd
def pe.wS (hP:∀s t w,P s t w->sy w) (h:jA M P n b){s:Int}{a:ak}(hs:cy M s) (ht:cy M t) (k:pe b s t x) (ha:lG (P s t)=aa a) (hn:n<=ah a) (hr:dU x<=dU a):b.W s t=aa a:=by
 have hf:=CA ha;rcases k with k|k|⟨w,k1,k2⟩
 .have:=wZ (hP s t a hf.1.1) hr
  have:=hf.1.2;omega
 .obtain⟨w,h1,h2⟩:=(h.dn s t hs ht).1 k
  rw[ha]at h1;injection h1 with h1
  rw[<-h1]at h2;omega
 .have h1:=h.snd s t w hs ht k1
  have h2:=hf.2 w h1.1;rw[k1,VU (hP s t w h1.1) (hP s t a hf.1.1) ax]
def qW (D:Int->Int->Bool):List PR->List PR×(Int->Int->Bool)
 | []=>([],D)
 |p::l=>if D p.1 p.2=ad then qW D l else((p::(qW (nW D p.1 p.2) l).1),(qW (nW D p.1 p.2) l).2)
def MM:∀{l:List PR}{D:Int->Int->Bool},(∀u v,(qW D l).2 u v=ad↔D u v=ad\/(u,v)∈l)/\(∀p,p∈(qW D l).1↔p∈l/\D p.1 p.2=ae)/\(qW D l).1.Nodup
 | [],D=>by simp[qW]
 |p::l,D=>by
  unfold qW
  by_cases h:D p.1 p.2=ad
  .rw[aD h]
   obtain⟨g,d,i⟩:=MM (l:=l) (D:=D);refine⟨λu v=>?_,λq=>?_,i⟩
   .rw[g,cC]
    constructor
    .rintro(h|h)
     .exact .inl h
     .exact .inr (.inr h)
    .rintro(h|h|h)
     .exact .inl h
     .subst h;exact .inl jE
     .exact .inr h
   .rw[d,cC]
    constructor
    .rintro⟨a,b⟩;exact⟨.inr a,b⟩
    .rintro⟨a|a,b⟩
     .subst a;rw[h]at b;simp at b
     .exact⟨a,b⟩
  .rw[aC h]
   obtain⟨g,d,i⟩:=MM (l:=l) (D:=nW D p.1 p.2);refine⟨λu v=>?_,λq=>?_,?_⟩
   .dsimp only
    rw[g,cC];unfold nW
    by_cases e:u=p.1/\v=p.2
    .rw[aD e]
     have:(u,v)=p:=Prod.ext e.1 e.2;simp[this]
    .rw[aC e]
     have:(u,v) ≠ p:=λh=>e ⟨congrArg Prod.fst h,congrArg Prod.snd h⟩;simp[this]
   .dsimp only
    rw[cC,d,cC];unfold nW
    by_cases e:q=p
    .subst e;simp;simpa using h
    .have:¬(q.1=p.1/\q.2=p.2):=λh=>e (Prod.ext h.1 h.2)
     rw[aC this];simp[e]
   .dsimp only
    rw[nw];refine⟨λj=>?_,i⟩;have:=((d p).1 j).2;unfold nW at this;rw[aD ⟨rfl,rfl⟩]at this;simp at this
def Bs.tk (b:Bs) (n:Nat):List PR×Bs:=((qW b.D (b.R n)).1,⟨b.W,(qW b.D (b.R n)).2,b.R⟩)
def jA.tk (hP:∀s t w,P s t w->sy w) (h:jA M P n b) (hc:∀s t a,cy M s->cy M t->lG (P s t)=aa a->ah a=n->b.W s t=aa a):jA M P (n+1) (b.tk n).2/\tK M b (b.tk n).2/\(b.tk n).1.Nodup/\∀s t,(s,t)∈(b.tk n).1↔(cy M s/\cy M t)/\∃a,lG (P s t)=aa a/\ah a=n/\b.W s t=aa a:=by
 obtain⟨h1,h2,h3⟩:=MM (l:=b.R n) (D:=b.D)
 -- a pair that is taken has a final word
 have fin:∀s t,(s,t)∈b.R n->b.D s t=ae->(cy M s/\cy M t)/\∃a,lG (P s t)=aa a/\ah a=n/\b.W s t=aa a:=by
  intro s t hm hd;obtain⟨fT,w,hw,hl⟩:=h.low s t n hm;have hg:=h.ge s t w fT.1 fT.2 hw hd;have hp:=h.snd s t w fT.1 fT.2 hw;obtain⟨a,ha⟩:=Mp (P:=P s t) (hP s t) hp.1 hp.2;have DX :=FH (hP s t) ha;have hr:=ha.2 w hp.1;have lB:=wZ (hP s t w hp.1) hr;have han:ah a=n:=by
   refine dP λfg=>?_;have:=(h.dn s t fT.1 fT.2).2 ⟨a,DX, by omega⟩
   rw[hd]at this;simp at this
  exact⟨fT,a,DX, han,hc s t a fT.1 fT.2 DX han⟩
 have tak:∀s t a,cy M s->cy M t->lG (P s t)=aa a->ah a=n->(s,t)∈b.R n/\b.D s t=ae:=by
  intro s t a hs ht ha hl;have hd:b.D s t=ae:=by
   cases e:b.D s t with
   |false=>rfl
   |true=>
    obtain⟨w,k1,k2⟩:=(h.dn s t hs ht).1 e;rw[ha]at k1;injection k1 with k1;rw[<-k1]at k2;omega
  refine⟨?_,hd⟩;have:=h.mO s t a hs ht (hc s t a hs ht ha hl) hd
  rwa [hl]at this
 have hD:∀s t,cy M s->cy M t->((b.tk n).2.D s t=ad↔∃w,lG (P s t)=aa w/\ah w<n+1):=by
  intro s t hs ht;show(qW b.D (b.R n)).2 s t=ad↔_;rw[h1];constructor
  .rintro(k|k)
   .obtain⟨w,k1,k2⟩:=(h.dn s t hs ht).1 k
    exact⟨w,k1,ax⟩
   .cases e:b.D s t with
    |true=>
     obtain⟨w,k1,k2⟩:=(h.dn s t hs ht).1 e;exact⟨w,k1,ax⟩
    |false=>
     obtain⟨_,a,k1,k2,_⟩:=fin s t k e;exact⟨a,k1,ax⟩
  .rintro⟨w,k1,k2⟩
   by_cases e:ah w<n
   .exact .inl ((h.dn s t hs ht).2 ⟨w,k1,e⟩)
   .exact .inr (tak s t w hs ht k1 ax).1
 have hW:(b.tk n).2.W=b.W:=rfl;have hR:(b.tk n).2.R=b.R:=rfl;have up:∀s t,(b.tk n).2.D s t=ae->b.D s t=ae/\(s,t)∉b.R n:=by
  intro s t e;have:¬((qW b.D (b.R n)).2 s t=ad):=by rw[Bool.not_eq_true];exact e
  rw[h1]at this;refine⟨?_,λhm=>this (.inr hm)⟩;cases e2:b.D s t with
  |false=>rfl
  |true=>exact absurd (.inl e2) this
 refine⟨⟨h.snd,hD,λs t hs ht e=>?_,λs t w hs ht e e2=>?_,λs t w hs ht e e2=>h.mO s t w hs ht e (up s t e2).1,h.low,h.nd⟩,⟨λs t e=>(h1 s t).2 (.inl e),λs t w _ _ e=>⟨w,e,bG _⟩⟩,h3,λs t=>?_⟩
 .rw[hW]
  rcases(h1 s t).1 e with e|e
  .exact h.wd s t hs ht e
  .cases e2:b.D s t with
   |true=>exact h.wd s t hs ht e2
   |false=>
    obtain⟨_,a,k1,k2,k3⟩:=fin s t e e2;rw[k3,k1]
 .rw[hW]at e
  have hu:=up s t e2;have hg:=h.ge s t w hs ht e hu.1;have hr:=h.mO s t w hs ht e hu.1;refine dP λD6=>?_;have:ah w=n:=ax
  rw[this]at hr;exact hu.2 hr
 .show(s,t)∈(qW b.D (b.R n)).1↔_
  rw[h2];constructor
  .rintro⟨k1,k2⟩;exact fin s t k1 k2
  .rintro⟨⟨hs,ht⟩,a,k1,k2,_⟩
   exact tak s t a hs ht k1 k2
end
def zL{b:Type} [BEq b] [LawfulBEq b]:∀{l L:List b},l.Nodup->(∀x∈l,x∈L)->ah l<=ah L
 | [],_,_,_=>by simp
 |a::l,L,i,h=>by
  obtain⟨j,m⟩:=nw.1 i;have d:=h a aA
  have:=zL (l:=l) (L:=L.erase a) m λx g=>(List.mem_erase_of_ne (λe=>j (by rw[<-e];exact g))).2 (h x jC)
  rw[List.length_erase_of_mem d]at this;have:=List.length_pos_of_mem d;simp only[cT];omega
def MN (N:Nat):List PR:=(af N).flatMap λ(s:Nat)=>(af N).map λ(t:Nat)=>((s:Int),(t:Int))
def WE{N:Nat}:ah (MN N)=N*N:=by
 unfold MN;have:∀k:Nat,ah ((af k).flatMap λ(s:Nat)=>(af N).map λ(t:Nat)=>((s:Int),(t:Int)))=k*N:=by
  intro k
  induction k with
  |zero=>simp
  |succ k a=>rw[kL,List.flatMap_append,bM,a];simp[fG]
 exact this N
def jA.zM{M:eZ}{P:Int->Int->ak->Prop}{n:Nat}{b:Bs}(h:jA M P n b) (k:Nat):ah (b.R k)<=M.size*M.size:=by
 rw[<-WE];refine zL (h.nd k) λp hp=>?_;obtain⟨⟨h1,h2⟩,_⟩:=h.low p.1 p.2 k hp;have:=h1.1;have:=h1.2;have:=h2.1;have:=h2.2;exact List.mem_flatMap.2 ⟨aj p.1,aT,List.mem_map.2 ⟨aj p.2,aT,Prod.ext aR aR⟩⟩
structure Am (M:eZ) (n:Nat) (S C:Bs):Prop where
 s:jA M (mL M) n S
 c:jA M (Wd M) n C
 oi:∀s i,cy M s->0<=i->i<M.aG->pe S s (M.aH s i) [M.ay+i]
 oc:∀s c q u r,cy M s->0<=c->c<M.ay->cy M q->0<=r->r<M.aM->C.D (M.call s c).1 q=ad->C.W (M.call s c).1 q=aa u->pe S s (M.aP q (M.call s c).2 r) (c::(u ++ [M.ay+M.aG+r]))
 oe:∀s,cy M s->pe C s s []
 oj:∀s p t a b,cy M s->cy M p->cy M t->S.D s p=ad->C.D p t=ad->S.W s p=aa a->C.W p t=aa b->pe C s t (a++b)
section
variable{M:eZ}{n:Nat}{S C:Bs}
def FV (a:M.Sm):∀s t w,mL M s t w->sy w:=λ_ _ _ h=>h.wd.sy a
def sB (a:M.Sm):∀s t w,Wd M s t w->sy w:=λ_ _ _ h=>h.sy a
variable{t:Int}{w:ak}
def jA.fin{P:Int->Int->ak->Prop}{b:Bs}(h:jA M P n b){s:Int}(hs:cy M s) (ht:cy M t) (hf:lG (P s t)=aa w) (hl:ah w<n):b.D s t=ad/\b.W s t=aa w:=by
 have:=(h.dn s t hs ht).2 ⟨w,hf,hl⟩;exact⟨this,by rw[h.wd s t hs ht this,hf]⟩
def mL.range (hM:M.Ok){s:Int}(h:mL M s t w) (hs:cy M s):cy M t:=h.wd.range hM hs
def Am.aoO (hM:M.Sm) (h:Am M n S C):∀s t a,cy M s->cy M t->M.sk s t=aa a->ah a=n->S.W s t=aa a:=by
 intro s t a hs ht ha hl;have hf:=(FI hM).1 ha;have fT:=hf.1.1;have wS:∀x,pe S s t x->dU x<=dU a->S.W s t=aa a:=λx k hr=>k.wS (FV hM) h.s hs ht ha ax hr
 cases fT with
 |bp i h0 h1=>exact wS _ (h.oi s i hs h0 h1) (bG _)
 |call c p r u c0 c1 r0 r1 hu=>
  have hc:=hM.ok.call s c hs.1 hs.2 c0 c1;have hp:cy M p:=hu.range hM.ok hc;simp at hl;have rJ:=hf.1.2;simp at rJ;obtain⟨v,hv,hr,yB⟩:=ye hM hu ax
  obtain⟨d1,d2⟩:=h.c.fin hc hp hv ax
  refine wS _ (h.oc s c p v r hs c0 c1 hp r0 r1 d1 d2) (aoa ?_ (Mn ?_ hr (bG _)))
  .have:=hf.1.1.wd.sy hM
   exact(Cx.1 this).2
  .have:=(Cx.1 (hf.1.1.wd.sy hM)).2
   exact(an9.1 this).2
def aoP (d:M.Sm) (A:jA M (mL M) (n+1) S) (g:jA M (Wd M) n C) (B:∀s,cy M s->pe C s s []) (E:∀s p t a b,cy M s->cy M p->cy M t->S.D s p=ad->C.D p t=ad->S.W s p=aa a->C.W p t=aa b->pe C s t (a++b)):∀s t a,cy M s->cy M t->M.lk s t=aa a->ah a=n->C.W s t=aa a:=by
 intro s t a e h i F;have r:=(rX d).1 i;rcases aoc r.1.1 with⟨rfl,rfl⟩|⟨p,u,v,rfl,j,w⟩
 .exact(B s e).wS (sB d) g e e i ax (bG _)
 .have l:=j.range d.ok e
  have z:=j.pos;have m:=r.1.2;rw[bM]at F m;obtain⟨x,G,o,H⟩:=VV d j ax
  obtain⟨y,I,q,J⟩:=ye d w ax
  obtain⟨K,L⟩:=A.fin e l G ax
  obtain⟨N,O⟩:=g.fin l h I ax
  exact(E s p t x y e l h K N L O).wS (sB d) g e h i (by rw[bM];omega) (Mn (w.sy d) o q)
def jA.vl{P:Int->Int->ak->Prop}{b:Bs}(h:jA M P n b){s:Int}(hs:cy M s) (ht:cy M t) (hd:b.D s t=ad):∃w,b.W s t=aa w/\lG (P s t)=aa w/\ah w<n:=by
 obtain⟨w,h1,h2⟩:=(h.dn s t hs ht).1 hd;exact⟨w,by rw[h.wd s t hs ht hd,h1],h1,h2⟩
def jA.r4{P:Int->Int->ak->Prop}{b c:Bs}(h:jA M P n b) (k:jA M P n c){s:Int}(hs:cy M s) (ht:cy M t):b.D s t=c.D s t/\(b.D s t=ad->b.W s t=c.W s t):=by
 have e:b.D s t=c.D s t:=by rw[nm,h.dn s t hs ht,k.dn s t hs ht]
 exact⟨e,λhd=>by rw[h.wd s t hs ht hd,k.wd s t hs ht (by rw[<-e];exact hd)]⟩
structure tL (M:eZ) (n:Nat) (S C:Bs) (C' : Bs) (out:List PR) (i:Nat) (t:Int):Prop where
 c:jA M (Wd M) n C'
 l:tK M C C'
 o:∀(j:Nat) (v:Int) (a b:ak),(j<i\/j=i/\v<t)->j<ah out->cy M v->C.D (ix out (j:Int)).2 v=ad->S.W (ix out (j:Int)).1 (ix out (j:Int)).2=aa a->C.W (ix out (j:Int)).2 v=aa b->pe C' (ix out (j:Int)).1 v (a++b)
variable{C' : Bs}{out:List PR}
def tL.init (h:jA M (Wd M) n C):tL M n S C C out 0 0:=⟨h,.refl _,λj v a b hj hl hv=>by
 rcases hj with hj|⟨_,hj⟩
 .omega
 .have:=hv.1;omega⟩
def tL.row{i:Nat}(h:tL M n S C C' out i (M.size:Int)):tL M n S C C' out (i+1) 0:=⟨h.c,h.l,λj v a b hj hl hv=>h.o j v a b (by
 have:=hv.1;have:=hv.2;rcases hj with hj|⟨_,hj⟩
 .by_cases e:j=i
  .exact .inr ⟨e,ax⟩
  .exact .inl ax
 .omega) hl hv⟩
variable{t:Int}
def tL.skip{i:Nat}(h:tL M n S C C' out i t) (hd:C.D (ix out (i:Int)).2 t=ae):tL M n S C C' out i (t+1):=⟨h.c,h.l,λj v a b hj hl hv k1=>by
 rcases hj with hj|⟨rfl,hj⟩
 .exact h.o j v a b (.inl hj) hl hv k1
 .by_cases e:v=t
  .subst e;rw[hd]at k1;simp at k1
  .exact h.o j v a b (.inr ⟨rfl,ax⟩) hl hv k1⟩
def tL.step (hM:M.Sm){i:Nat}(h:tL M n S C C' out i t) (hi:i<ah out) (h1:cy M (ix out (i:Int)).1) (h2:cy M (ix out (i:Int)).2) (ht:cy M t){a b:ak}(ha:S.W (ix out (i:Int)).1 (ix out (i:Int)).2=aa a) (hS:mL M (ix out (i:Int)).1 (ix out (i:Int)).2 a) (hn:n<=ah a) (hb:C.W (ix out (i:Int)).2 t=aa b) (hC:Wd M (ix out (i:Int)).2 t b):tL M n S C (C'.off (ix out (i:Int)).1 t (a++b)) out i (t+1):=by
 obtain⟨k1,k2,k3⟩:=h.c.off (sB hM) h1 ht (hS.then hC) (by rw[bM];omega)
 refine⟨k1,h.l.trans k2,λj v x y hj hl hv d1 d2 d3=>?_⟩
 by_cases e:j=i/\v=t
 .obtain⟨rfl,rfl⟩:=e
  rw[ha]at d2;rw[hb]at d3;injection d2 with d2
  injection d3 with d3
  rw[<-d2,<-d3];exact k3
 .have hP:=h.o j v x y (by
   rcases hj with hj|⟨e1,hj⟩
   .exact .inl hj
   .exact .inr ⟨e1,by
     by_cases e2:v=t
     .exact absurd ⟨e1,e2⟩ e
     .omega⟩) hl hv d1 d2 d3
  rcases hP with hP|hP|⟨w,w1,w2⟩
  .exact .inl hP
  .exact .inr (.inl (k2.D _ _ hP))
  .by_cases jl:cy M (ix out (j:Int)).1
   .obtain⟨u,u1,u2⟩:=k2.W _ _ _ jl hv w1
    exact .inr (.inr ⟨u,u1,ax⟩)
   .exact .inr (.inr ⟨w,by
     unfold Bs.off;split
     .exact w1
     .have fg:¬((ix out (j:Int)).1=(ix out (i:Int)).1/\v=t):=λe3=>jl (by rw[e3.1];exact h1)
      split
      .dsimp only[ia];rw[if_neg fg];exact w1
      .split
       .exact w1
       .split
        .exact w1
        .dsimp only[ia];rw[if_neg fg];exact w1,w2⟩)
def tL.fin (hM:M.Sm){S0:Bs}(h:Am M n S0 C) (hS:jA M (mL M) (n+1) (S0.tk n).2) (ho:∀s t,(s,t)∈(S0.tk n).1↔(cy M s/\cy M t)/\∃a,M.sk s t=aa a/\ah a=n/\S0.W s t=aa a) (k:tL M n (S0.tk n).2 C C' (S0.tk n).1 (ah (S0.tk n).1) 0):∀s p t a b,cy M s->cy M p->cy M t->(S0.tk n).2.D s p=ad->C'.D p t=ad->(S0.tk n).2.W s p=aa a->C'.W p t=aa b->pe C' s t (a++b):=by
 intro s p t a b hs hp ht d1 d2 w1 w2;obtain⟨e1,e2⟩:=h.c.r4 k.c hp ht;rw[<-e1]at d2;rw[<-e2 d2]at w2
 by_cases d3:S0.D s p=ad
 .exact(h.oj s p t a b hs hp ht d3 d2 w1 w2).mono k.l hs ht
 .obtain⟨x,x1,x2,x3⟩:=hS.vl hs hp d1
  have hm:(s,p)∈(S0.tk n).1:=by
   refine(ho s p).2 ⟨⟨hs,hp⟩,x,x2,?_,x1⟩;refine dP λfg=>d3 ?_;exact(h.s.fin hs hp x2 ax).1
  obtain⟨j,hj,e⟩:=fY.1 hm;have e' : ix (S0.tk n).1 (j:Int)=(s,p):=by rw[bt hj,e]
  have:=k.o j t a b (.inl hj) hj ht;rw[e']at this;exact this d2 w1 w2
abbrev CR:=Int×Int×Int
def MO (M:eZ) (A:Int->List CR):Prop:=∀p,cy M p->∀s c g,(s,c,g)∈A p↔(cy M s/\(0<=c/\c<M.ay))/\M.call s c=(p,g)
structure mV (M:eZ) (n:Nat) (A:Int->List CR) (S C S' C' : Bs) (out:List PR) (i:Nat) (t:Int) (k:Nat) (r:Int):Prop where
 s:jA M (mL M) (n+1) S'
 c:jA M (Wd M) (n+1) C'
 ls:tK M S S'
 lc:tK M C C'
 o1:∀(j:Nat) (s:Int) (a b:ak),(j<i\/j=i/\s<t)->j<ah out->cy M s->S.D s (ix out (j:Int)).1=ad->S.W s (ix out (j:Int)).1=aa a->C.W (ix out (j:Int)).1 (ix out (j:Int)).2=aa b->pe C' s (ix out (j:Int)).2 (a++b)
 o2:∀(j l:Nat) (x:Int) (b:ak),(j<i\/j=i/\(l<k\/l=k/\x<r))->j<ah out->l<ah (A (ix out (j:Int)).1)->(0<=x/\x<M.aM)->C.W (ix out (j:Int)).1 (ix out (j:Int)).2=aa b->pe S' (ix (A (ix out (j:Int)).1) (l:Int)).1 (M.aP (ix out (j:Int)).2 (ix (A (ix out (j:Int)).1) (l:Int)).2.2 x) ((ix (A (ix out (j:Int)).1) (l:Int)).2.1::(b ++ [M.ay+M.aG+x]))
variable{A:Int->List CR}{S' : Bs}
variable{t:Int}
def pe.off{P:Int->Int->ak->Prop}{b:Bs}{s u v:Int}{x y:ak}(hs:cy M s) (ht:cy M t) (k:tK M b (b.off s t x)) (h:pe b u v y):pe (b.off s t x) u v y:=by
 rcases h with h|h|⟨w,w1,w2⟩
 .exact .inl h
 .exact .inr (.inl (k.D _ _ h))
 .by_cases jl:cy M u/\cy M v
  .obtain⟨z,u1,u2⟩:=k.W _ _ _ jl.1 jl.2 w1
   exact .inr (.inr ⟨z,u1,ax⟩)
  .have fg:¬(u=s/\v=t):=λe3=>jl (by rw[e3.1,e3.2];exact⟨hs,ht⟩)
   exact .inr (.inr ⟨w,by
    unfold Bs.off;split
    .exact w1
    .split
     .dsimp only[ia];rw[if_neg fg];exact w1
     .split
      .exact w1
      .split
       .exact w1
       .dsimp only[ia];rw[if_neg fg];exact w1,w2⟩)
def mV.init (hS:jA M (mL M) (n+1) S) (hC:jA M (Wd M) (n+1) C):mV M n A S C S C out 0 0 0 0:=⟨hS,hC,.refl _,.refl _,λj s a b hj hl hs=>by
 rcases hj with hj|⟨_,hj⟩
 .omega
 .have:=hs.1;omega,λj l x b hj hl h2 hx=>by
 rcases hj with hj|⟨_,hj|⟨_,hj⟩⟩<;>omega⟩
def mV.WG{i:Nat}(h:mV M n A S C S' C' out i t 0 0) (hd:S.D t (ix out (i:Int)).1=ae):mV M n A S C S' C' out i (t+1) 0 0:=⟨h.s,h.c,h.ls,h.lc,λj s a b hj hl hs k1=>by
 rcases hj with hj|⟨rfl,hj⟩
 .exact h.o1 j s a b (.inl hj) hl hs k1
 .by_cases e:s=t
  .subst e;rw[hd]at k1;simp at k1
  .exact h.o1 j s a b (.inr ⟨rfl,ax⟩) hl hs k1,h.o2⟩
def mV.WH (hM:M.Sm){i:Nat}(h:mV M n A S C S' C' out i t 0 0) (hi:i<ah out) (h1:cy M (ix out (i:Int)).1) (h2:cy M (ix out (i:Int)).2) (ht:cy M t){a b:ak}(ha:S.W t (ix out (i:Int)).1=aa a) (hS:mL M t (ix out (i:Int)).1 a) (hb:C.W (ix out (i:Int)).1 (ix out (i:Int)).2=aa b) (hC:Wd M (ix out (i:Int)).1 (ix out (i:Int)).2 b) (hn:n<=ah b):mV M n A S C S' (C'.off t (ix out (i:Int)).2 (a++b)) out i (t+1) 0 0:=by
 have arT:=hS.pos;obtain⟨k1,k2,k3⟩:=h.c.off (sB hM) ht h2 (hS.then hC) (by rw[bM];omega)
 refine⟨h.s,k1,h.ls,h.lc.trans k2,λj v x y hj hl hv d1 d2 d3=>?_,h.o2⟩
 by_cases e:j=i/\v=t
 .obtain⟨rfl,rfl⟩:=e
  rw[ha]at d2;rw[hb]at d3;injection d2 with d2
  injection d3 with d3
  rw[<-d2,<-d3];exact k3
 .refine pe.off (P:=Wd M) ht h2 k2 (h.o1 j v x y ?_ hl hv d1 d2 d3)
  rcases hj with hj|⟨e1,hj⟩
  .exact .inl hj
  .exact .inr ⟨e1,by
    by_cases e2:v=t
    .exact absurd ⟨e1,e2⟩ e
    .omega⟩
def mV.WI (hM:M.Sm){i k:Nat}{r:Int}(h:mV M n A S C S' C' out i (M.size:Int) k r) (hA:MO M A) (hi:i<ah out) (h1:cy M (ix out (i:Int)).1) (h2:cy M (ix out (i:Int)).2) (hk:k<ah (A (ix out (i:Int)).1)) (hr:0<=r/\r<M.aM){b:ak}(hb:C.W (ix out (i:Int)).1 (ix out (i:Int)).2=aa b) (hC:Wd M (ix out (i:Int)).1 (ix out (i:Int)).2 b) (hn:n<=ah b):mV M n A S C (S'.off (ix (A (ix out (i:Int)).1) (k:Int)).1 (M.aP (ix out (i:Int)).2 (ix (A (ix out (i:Int)).1) (k:Int)).2.2 r) ((ix (A (ix out (i:Int)).1) (k:Int)).2.1::(b ++ [M.ay+M.aG+r]))) C' out i (M.size:Int) k (r+1):=by
 have hm:=bh (l:=A (ix out (i:Int)).1) (n:=(k:Int)) ax ax
 have hq:=(hA _ h1 (ix (A (ix out (i:Int)).1) (k:Int)).1 (ix (A (ix out (i:Int)).1) (k:Int)).2.1 (ix (A (ix out (i:Int)).1) (k:Int)).2.2).1 hm;obtain⟨⟨q1,q2,q3⟩,q4⟩:=hq;have hw:=mL.call (M:=M) (ix (A (ix out (i:Int)).1) (k:Int)).1 (ix (A (ix out (i:Int)).1) (k:Int)).2.1 (ix out (i:Int)).2 r b q2 q3 hr.1 hr.2 (by rw[q4];exact hC)
 rw[q4]at hw;dsimp only at hw;have jl:cy M (M.aP (ix out (i:Int)).2 (ix (A (ix out (i:Int)).1) (k:Int)).2.2 r):=hw.range hM.ok q1;obtain⟨k1,k2,k3⟩:=h.s.off (FV hM) q1 jl hw aT
 refine⟨k1,h.c,h.ls.trans k2,h.lc,h.o1,λj l x y hj hl rJ hx d=>?_⟩
 by_cases e:j=i/\l=k/\x=r
 .obtain⟨rfl,rfl,rfl⟩:=e
  rw[hb]at d;injection d with d
  rw[<-d];exact k3
 .refine pe.off (P:=mL M) q1 jl k2 (h.o2 j l x y ?_ hl rJ hx d)
  rcases hj with hj|⟨e1,hj|⟨e2,hj⟩⟩
  .exact .inl hj
  .exact .inr ⟨e1,.inl hj⟩
  .exact .inr ⟨e1,.inr ⟨e2,by
    by_cases e3:x=r
    .exact absurd ⟨e1,e2,e3⟩ e
    .omega⟩⟩
def mV.aoQ{i k:Nat}(h:mV M n A S C S' C' out i (M.size:Int) k M.aM):mV M n A S C S' C' out i (M.size:Int) (k+1) 0:=⟨h.s,h.c,h.ls,h.lc,h.o1,λj l x b hj hl rJ hx=>h.o2 j l x b (by
 rcases hj with hj|⟨e1,hj|⟨e2,hj⟩⟩
 .exact .inl hj
 .by_cases e:l=k
  .exact .inr ⟨e1,.inr ⟨e,hx.2⟩⟩
  .exact .inr ⟨e1,.inl ax⟩
 .have:=hx.1;omega) hl rJ hx⟩
def mV.next{i:Nat}(h:mV M n A S C S' C' out i (M.size:Int) (ah (A (ix out (i:Int)).1)) 0):mV M n A S C S' C' out (i+1) 0 0 0:=⟨h.s,h.c,h.ls,h.lc,λj s a b hj hl hs=>h.o1 j s a b (by
 rcases hj with hj|⟨_,hj⟩
 .by_cases e:j=i
  .exact .inr ⟨e,hs.2⟩
  .exact .inl ax
 .have:=hs.1;omega) hl hs,λj l x b hj hl rJ hx=>h.o2 j l x b (by
 rcases hj with hj|⟨e1,hj|⟨e2,hj⟩⟩
 .by_cases e:j=i
  .subst e;exact .inr ⟨rfl,.inl rJ⟩
  .exact .inl ax
 .omega
 .have:=hx.1;omega) hl rJ hx⟩
def mV.fin (hM:M.Sm){S0 C0 C1:Bs}(h:Am M n S0 C0) (hA:MO M A) (MB:tK M S0 S) (N1:tK M C0 C1) (rJ:tK M C1 C) (WJ:jA M (Wd M) n C1)
  (oj:∀s p t a b,cy M s->cy M p->cy M t->S.D s p=ad->C1.D p t=ad->S.W s p=aa a->C1.W p t=aa b->pe C1 s t (a++b))
  (ho:∀s t,(s,t)∈out↔(cy M s/\cy M t)/\∃a,M.lk s t=aa a/\ah a=n/\C.W s t=aa a)
  (hS:jA M (mL M) (n+1) S) (hC:jA M (Wd M) (n+1) C) (k:mV M n A S C S' C' out (ah out) 0 0 0):Am M (n+1) S' C' :=by
 have find:∀p q,cy M p->cy M q->∀w,M.lk p q=aa w->ah w=n->∃j:Nat,j<ah out/\ix out (j:Int)=(p,q)/\C.W p q=aa w:=by
  intro p q hp hq w hw hl;have hf:=hC.fin hp hq hw ax
  obtain⟨j,hj,e⟩:=fY.1 ((ho p q).2 ⟨⟨hp,hq⟩,w,hw,hl,hf.2⟩);exact⟨j,hj,by rw[bt hj,e],hf.2⟩
 refine⟨k.s,k.c,λs i hs h0 h1=>(h.oi s i hs h0 h1).mono (MB.trans k.ls) hs (hM.ok.aH s i hs.1 hs.2 h0 h1),λs c q u r hs c0 c1 hq r0 r1 d1 d2=>?_,λs hs=>(h.oe s hs).mono ((N1.trans rJ).trans k.lc) hs hs,λs p t a b hs hp ht d1 d2 w1 w2=>?_⟩
 .have hc:=hM.ok.call s c hs.1 hs.2 c0 c1
  have hp:=hM.ok.aP s c q r hs.1 hs.2 c0 c1 hq.1 hq.2 r0 r1;obtain⟨w,x1,x2,x3⟩:=k.c.vl hc hq d1;rw[d2]at x1;injection x1 with x1
  subst x1
  by_cases hl:ah u<n
  .obtain⟨y1,y2⟩:=h.c.fin hc hq x2 hl
   exact(h.oc s c q u r hs c0 c1 hq r0 r1 y1 y2).mono (MB.trans k.ls) hs hp
  .obtain⟨j,hj,e,hw⟩:=find _ _ hc hq u x2 ax
   have lD:=(hA _ hc s c (M.call s c).2).2 ⟨⟨hs,c0,c1⟩,rfl⟩;obtain⟨l,hl,el⟩:=fY.1 lD;have Da : ix (A (M.call s c).1) (l:Int)=(s,c,(M.call s c).2):=by rw[bt hl,el]
   have:=k.o2 j l r u (.inl hj) hj;rw[e]at this;dsimp only at this;rw[Da]at this;exact this hl ⟨r0,r1⟩ hw
 .obtain⟨e1,e2⟩:=hS.r4 k.s hs hp
  obtain⟨e3,e4⟩:=hC.r4 k.c hp ht;rw[<-e1]at d1;rw[<-e3]at d2;rw[<-e2 d1]at w1;rw[<-e4 d2]at w2;obtain⟨w,x1,x2,x3⟩:=hC.vl hp ht d2;rw[w2]at x1;injection x1 with x1
  subst x1
  by_cases hl:ah b<n
  .obtain⟨y1,y2⟩:=WJ.fin hp ht x2 hl
   exact(oj s p t a b hs hp ht d1 y1 w1 y2).mono (rJ.trans k.lc) hs ht
  .obtain⟨j,hj,e,hw⟩:=find p t hp ht b x2 ax
   have:=k.o1 j s a b (.inl hj) hj hs;rw[e]at this;exact this d1 w1 hw
end
def Bs.emp:Bs:=⟨λ_ _=>ab,λ_ _=>ae,λ_=>[]⟩
def WL{M:eZ}{P:Int->Int->ak->Prop}:jA M P 0 Bs.emp:=⟨λs t w _ _ h=>by simp[Bs.emp]at h,λs t _ _=>by simp[Bs.emp],λs t _ _ h=>by simp[Bs.emp]at h,λs t w _ _ h=>by simp[Bs.emp]at h,λs t w _ _ h=>by simp[Bs.emp]at h,λs t k h=>by simp[Bs.emp]at h,λk=>by simp[Bs.emp]⟩
structure ph (M:eZ) (S C:Bs) (A:Int->List CR) (s e i c:Int):Prop where
 bs:jA M (mL M) 0 S
 bc:jA M (Wd M) 0 C
 oe:∀u,cy M u->u<e->pe C u u []
 oi:∀u j,cy M u->0<=j->j<M.aG->(u<s\/u=s/\j<i)->pe S u (M.aH u j) [M.ay+j]
 a:∀p u d g,(u,d,g)∈A p↔(0<=u/\(0<=d/\d<M.ay)/\(u<s\/u=s/\d<c))/\M.call u d=(p,g)
section
variable{M:eZ}{S C:Bs}{A:Int->List CR}{s e i c:Int}
def ph.init:ph M .emp .emp (λ_=>[]) 0 0 0 0:=⟨WL,WL,λu hu h=>by have:=hu.1;omega,λu j hu _ _ h=>by have:=hu.1;omega,λp u d g=>aT⟩
def ph.WM (hM:M.Sm) (h:ph M S C A s s i c) (hs:cy M s):ph M S (C.off s s []) A s (s+1) i c:=by
 obtain⟨k1,k2,k3⟩:=h.bc.off (sB hM) hs hs (.nil s) (Nat.zero_le _);refine⟨h.bs,k1,λu hu hl=>?_,h.oi,h.a⟩
 by_cases e2:u=s
 .subst e2;exact k3
 .exact(h.oe u hu ax).mono k2 hu hu
def ph.WN (hM:M.Sm) (h:ph M S C A s e i c) (hs:cy M s) (i0:0<=i) (i1:i<M.aG):ph M (S.off s (M.aH s i) [M.ay+i]) C A s e (i+1) c:=by
 have ht:=hM.ok.aH s i hs.1 hs.2 i0 i1;obtain⟨k1,k2,k3⟩:=h.bs.off (FV hM) hs ht (.bp s i i0 i1) (Nat.zero_le _);refine⟨k1,h.bc,h.oe,λu j hu j0 j1 hl=>?_,h.a⟩
 by_cases e2:u=s/\j=i
 .obtain⟨rfl,rfl⟩:=e2;exact k3
 .refine(h.oi u j hu j0 j1 ?_).mono k2 hu (hM.ok.aH u j hu.1 hu.2 j0 j1)
  rcases hl with hl|⟨e3,hl⟩
  .exact .inl hl
  .exact .inr ⟨e3,by
    by_cases e4:j=i
    .exact absurd ⟨e3,e4⟩ e2
    .omega⟩
def lI (A:Int->List CR) (p:Int) (x:CR):Int->List CR:=λq=>if q=p then A q ++ [x]else A q
def ph.WO (h:ph M S C A s e i c) (s0:0<=s) (c0:0<=c) (c1:c<M.ay):ph M S C (lI A (M.call s c).1 (s,c,(M.call s c).2)) s e i (c+1):=by
 refine⟨h.bs,h.bc,h.oe,h.oi,λp u d g=>?_⟩;unfold lI;have ha:=h.a p u d g
 by_cases hp:p=(M.call s c).1
 .rw[aD hp,dI,ha]
  constructor
  .rintro(⟨⟨a1,a2,a3⟩,a4⟩|h)
   .refine⟨⟨a1,a2,?_⟩,a4⟩
    rcases a3 with a3|⟨a3,a5⟩
    .exact .inl a3
    .exact .inr ⟨a3,ax⟩
   .simp at h
    obtain⟨rfl,rfl,rfl⟩:=h;exact⟨⟨s0,⟨c0,c1⟩,.inr ⟨rfl,ax⟩⟩,Prod.ext hp.symm rfl⟩
  .rintro⟨⟨a1,a2,a3⟩,a4⟩
   by_cases e2:u=s/\d=c
   .obtain⟨rfl,rfl⟩:=e2
    exact .inr (by simp[a4])
   .refine .inl ⟨⟨a1,a2,?_⟩,a4⟩
    rcases a3 with a3|⟨a3,a5⟩
    .exact .inl a3
    .exact .inr ⟨a3,by
      by_cases e4:d=c
      .exact absurd ⟨a3,e4⟩ e2
      .omega⟩
 .rw[aC hp,ha]
  constructor
  .rintro⟨⟨a1,a2,a3⟩,a4⟩
   refine⟨⟨a1,a2,?_⟩,a4⟩;rcases a3 with a3|⟨a3,a5⟩
   .exact .inl a3
   .exact .inr ⟨a3,ax⟩
  .rintro⟨⟨a1,a2,a3⟩,a4⟩
   refine⟨⟨a1,a2,?_⟩,a4⟩;rcases a3 with a3|⟨a3,a5⟩
   .exact .inl a3
   .exact .inr ⟨a3,by
     by_cases e4:d=c
     .subst e4;subst a3;rw[a4]at hp;exact absurd rfl hp
     .omega⟩
def ph.next (h:ph M S C A s e M.aG M.ay):ph M S C A (s+1) e 0 0:=⟨h.bs,h.bc,h.oe,λu j hu j0 j1 hl=>h.oi u j hu j0 j1 (by
 rcases hl with hl|⟨_,hl⟩
 .by_cases e2:u=s
  .exact .inr ⟨e2,j1⟩
  .exact .inl ax
 .omega),λp u d g=>by
 rw[h.a];constructor
 .rintro⟨⟨a1,a2,a3⟩,a4⟩
  refine⟨⟨a1,a2,?_⟩,a4⟩;rcases a3 with a3|⟨a3,a5⟩
  .exact .inl ax
  .exact .inl ax
 .rintro⟨⟨a1,a2,a3⟩,a4⟩
  refine⟨⟨a1,a2,?_⟩,a4⟩;rcases a3 with a3|⟨_,a5⟩
  .by_cases e2:u=s
   .exact .inr ⟨e2,a2.2⟩
   .exact .inl ax
  .have:=a2.1;omega⟩
def ph.fin (hM:M.Sm) (h:ph M S C A (M.size:Int) (M.size:Int) 0 0):Am M 0 S C/\MO M A:=by
 refine⟨⟨h.bs,h.bc,λs i hs h0 h1=>h.oi s i hs h0 h1 (.inl hs.2),λs c q u r hs c0 c1 hq r0 r1 d _=>?_,λs hs=>h.oe s hs hs.2,λs p t a b hs hp ht d=>?_⟩,λp hp s c g=>?_⟩
 .obtain⟨w,_,h2⟩:=(h.bc.dn _ q (hM.ok.call s c hs.1 hs.2 c0 c1) hq).1 d
  omega
 .obtain⟨w,_,h2⟩:=(h.bs.dn s p hs hp).1 d
  omega
 .rw[h.a]
  constructor
  .rintro⟨⟨a1,a2,a3⟩,a4⟩
   refine⟨⟨⟨a1,?_⟩,a2⟩,a4⟩;rcases a3 with a3|⟨_,a5⟩
   .exact a3
   .have:=a2.1;omega
  .rintro⟨⟨a1,a2⟩,a4⟩
   exact⟨⟨a1.1,a2,.inl a1.2⟩,a4⟩
end
def gdW (M:eZ) (s:Int) (g:Int->Bool) (w:ak):Prop:=∃t,cy M t/\g t=ad/\Wd M s t w
noncomputable def eZ.f1 (M:eZ) (s:Int) (g:Int->Bool):Option ak:=lG (gdW M s g)
section
variable{M:eZ}{s:Int}{g:Int->Bool}
def WQ (a:M.Sm):∀w,gdW M s g w->sy w:=λw ⟨_,_,_,h⟩=>h.sy a
def WR (b:M.Sm) (h:∀t,cy M t->g t=ad->M.lk s t=ab):M.f1 s g=ab:=by
 cases e:M.f1 s g with
 |none=>rfl
 |some w=>
  have d:=CA e;obtain⟨⟨⟨t,i,j,l⟩,m⟩,_⟩:=d;obtain⟨v,a,_⟩:=ye b l m;rw[h t i j]at a;simp at a
variable{w:ak}{t:Int}
def aoR (a:M.Sm)(d:cy M t) (e:g t=ad) (i:M.lk s t=aa w) (h:∀u v,cy M u->g u=ad->M.lk s u=aa v->dU w<=dU v):M.f1 s g=aa w:=by
 have b:=(rX a).1 i;refine FH (WQ a) ⟨⟨⟨t,d,e,b.1.1⟩,b.1.2⟩,?_⟩;rintro v ⟨u,j,l,m⟩
 by_cases n:ah v<=1024
 .obtain⟨x,o,p,_⟩:=ye a m n
  have:=h u x j l o;omega
 .exact Nat.le_of_lt (Cz (b.1.1.sy a) (by have:=b.1.2;omega))
def aoS (b:M.Sm){n:Nat}(m:∀t,cy M t->g t=ad->∀w,M.lk s t=aa w->n<=ah w)(o:cy M t) (p:g t=ad) (i:M.lk s t=aa w) (q:ah w=n) (h:∀u v,cy M u->g u=ad->M.lk s u=aa v->ah v=n->dU w<=dU v):M.f1 s g=aa w:=by
 refine aoR b o p i λu v j a l=>?_
 by_cases e:ah v=n
 .exact h u v j a l e
 .have:=m u j a v l
  have d:=((rX b).1 i).1.1.sy b;exact Nat.le_of_lt (Cz d ax)
end
open Classical in
noncomputable def eZ.Du (M:eZ) (s:Int) (g:Int->Bool):Int:=if(∃t,cy M t/\g t=ad/\gA M s t)/\M.f1 s g=ab then 3 else 0
end Ab
namespace Ab
def fb{a:Type} [Inhabited a]{N:Nat}{f:Nat->a}{s:Int}(b:0<=s) (d:s<(N:Int)):ix ((af N).map f) s=f (aj s):=by
 obtain⟨k,rfl⟩:=fU b;rw[bt aT]
 simp
section
variable (a b:aS)
def gH:Nat:=ah b.az
def kS:Nat:=ah a.az*ah b.az
def qX (s:Nat):Bool:=ix a.az ((s/gH b:Nat):Int) != ix b.az ((s%gH b:Nat):Int)
def mP (s:Nat):ak:=(af (aj a.ay)).map λ(c:Nat)=>ix (ix a.call ((s/gH b:Nat):Int)) (c:Int)*(gH b:Int)+ix (ix b.call ((s%gH b:Nat):Int)) (c:Int)
def mQ (s:Nat):ak:=(af (aj a.ay)).map λ(c:Nat)=>ix (ix a.push ((s/gH b:Nat):Int)) (c:Int)*b.aL+ix (ix b.push ((s%gH b:Nat):Int)) (c:Int)
def qY (s:Nat):ak:=(af (aj a.aG)).map λ(c:Nat)=>ix (ix a.aH ((s/gH b:Nat):Int)) (c:Int)*(gH b:Int)+ix (ix b.aH ((s%gH b:Nat):Int)) (c:Int)
def mR (s g:Nat):ak:=(af (aj a.aM)).map λ(r:Nat)=>ix (ix (ix a.aP ((s/gH b:Nat):Int)) ((g/aj b.aL:Nat):Int)) (r:Int)*(gH b:Int)+ix (ix (ix b.aP ((s%gH b:Nat):Int)) ((g%aj b.aL:Nat):Int)) (r:Int)
def nX (s:Nat):al:=(af (aj a.aL*aj b.aL)).map (mR a b s)
def dz:aS:=⟨a.ay,a.aG,a.aM,a.aL*b.aL,a.aF*(gH b:Int)+b.aF,(af (kS a b)).map (qX a b),(af (kS a b)).map (mP a b),(af (kS a b)).map (mQ a b),(af (kS a b)).map (qY a b),(af (kS a b)).map (nX a b)⟩
end
section
variable{a b:aS}
variable{x y:Int}
def qZ{m k:Int}(a:0<=x/\x<m) (d:0<=y/\y<k):0<=x*k+y/\x*k+y<m*k:=by
 have e:0<=x*k:=pH a.1 ax
 have b:(x+1)*k<=m*k:=Int.mul_le_mul_of_nonneg_right ax ax
 rw[Int.add_mul]at b;omega
def CK:ah (dz a b).az=ah a.az*ah b.az:=by simp[dz,kS]
structure fQ (a b:aS):Prop where
 oa:a.Ok
 ob:b.Ok
 c:b.ay=a.ay
 i:b.aG=a.aG
 r:b.aM=a.aM
 n:ah a.az*ah b.az<=128
 g:a.aL*b.aL<=1024
def fQ.k (h:fQ a b):1<=ah b.az:=by have:=h.ob.eC;omega
def fQ.xy (h:fQ a b){s:Int}(h0:0<=s) (h1:s<((kS a b:Nat):Int)):((aj s/gH b:Nat):Int)<(ah a.az:Int)/\((aj s%gH b:Nat):Int)<(ah b.az:Int):=by
 have hk:=h.k;unfold kS at h1;unfold gH;constructor
 .have:=(vQ (show 0<ah b.az by omega)).2 (show (aj s)<ah a.az*ah b.az by omega)
  omega
 .have:=Nat.mod_lt (aj s) (show (ah b.az)>0 by omega)
  omega
def fQ.gh (h:fQ a b){g:Int}(h0:0<=g) (h1:g<a.aL*b.aL):((aj g/aj b.aL:Nat):Int)<a.aL/\((aj g%aj b.aL:Nat):Int)<b.aL:=by
 have h2:=h.oa.aL;have h3:=h.ob.aL;have e:(aj a.aL*aj b.aL:Nat)=aj (a.aL*b.aL):=by
  have:((aj a.aL*aj b.aL:Nat):Int)=a.aL*b.aL:=by
   rw[kW,show((aj a.aL:Nat):Int)=a.aL by omega,show((aj b.aL:Nat):Int)=b.aL by omega]
  omega
 constructor
 .have:=(vQ (show 0<aj b.aL by omega)).2 (show (aj g)<aj a.aL*aj b.aL by omega)
  omega
 .have:=Nat.mod_lt (aj g) (show (aj b.aL)>0 by omega)
  omega
def fQ.aZ (h:fQ a b):((aj a.aL*aj b.aL:Nat):Int)=a.aL*b.aL:=by
 have h2:=h.oa.aL;have h3:=h.ob.aL;rw[kW,show((aj a.aL:Nat):Int)=a.aL by omega,show((aj b.aL:Nat):Int)=b.aL by omega]
def WS (h:fQ a b):(dz a b).Lp 1024:=by
 have l:=h.oa;have x:=h.ob;have M:=l.ay;have N:=l.aG;have O:=l.aM;have P:=l.eC;have Q:=x.eC;have E:=l.aL;have F:=x.aL;have A:=h.aZ;have w:ah (dz a b).az=kS a b:=by simp[dz]
 have q:((kS a b:Nat):Int)=(ah a.az:Int)*(ah b.az:Int):=by unfold kS;rw[kW]
 have L:=h.n;refine⟨l.ay,l.aG,l.aM,l.syms,⟨?_,h.g⟩,?_,?_,?_,λs e d=>?_,λs c e d m B=>?_,λs c e d m B=>?_,λs c e d m B=>?_,λs g e d D G=>?_,λs g r e d D G H R=>?_⟩
 .have:1*1<=a.aL*b.aL:=Int.mul_le_mul E.1 F.1 ax ax
  exact this
 .rw[w]
  unfold kS;have:1*1<=ah a.az*ah b.az:=kH ax ax
  omega
 .rw[w,q]
  exact qZ l.aF x.aF
 .simp[dz]
 .rw[w]at d
  have o:ix (dz a b).call s=mP a b (aj s):=fb e d;have p:ix (dz a b).push s=mQ a b (aj s):=fb e d;have I:ix (dz a b).aH s=qY a b (aj s):=fb e d;have S:ix (dz a b).aP s=nX a b (aj s):=fb e d;rw[o,p,I,S];simp only[mP,mQ,qY,nX,db,lT,dz];exact⟨ax,ax,ax,ax⟩
 .rw[w]at d ⊢
  obtain⟨y,z⟩:=h.xy e d;have o:ix (dz a b).call s=mP a b (aj s):=fb e d;have j : c<a.ay:=B;have p:ix (mP a b (aj s)) c=_:=fb m ax
  rw[o,p,q,show((aj c:Nat):Int)=c by omega]
  exact qZ (l.call _ c (qx _) y m j) (x.call _ c (qx _) z m (by rw[h.c];exact j))
 .rw[w]at d
  obtain⟨y,z⟩:=h.xy e d;have o:ix (dz a b).push s=mQ a b (aj s):=fb e d;have j : c<a.ay:=B;have p:ix (mQ a b (aj s)) c=_:=fb m ax
  rw[o,p,show((aj c:Nat):Int)=c by omega]
  exact qZ (l.push _ c (qx _) y m j) (x.push _ c (qx _) z m (by rw[h.c];exact j))
 .rw[w]at d ⊢
  obtain⟨y,z⟩:=h.xy e d;have o:ix (dz a b).aH s=qY a b (aj s):=fb e d;have j : c<a.aG:=B;have p:ix (qY a b (aj s)) c=_:=fb m ax
  rw[o,p,q,show((aj c:Nat):Int)=c by omega]
  exact qZ (l.aH _ c (qx _) y m j) (x.aH _ c (qx _) z m (by rw[h.i];exact j))
 .rw[w]at d
  have o:ix (dz a b).aP s=nX a b (aj s):=fb e d;have u : g<a.aL*b.aL:=G;have p:ix (nX a b (aj s)) g=mR a b (aj s) (aj g):=fb D (by rw[A];exact u)
  rw[o,p];simp only[mR,db,lT,dz];omega
 .rw[w]at d ⊢
  obtain⟨y,z⟩:=h.xy e d;have o:ix (dz a b).aP s=nX a b (aj s):=fb e d;have u : g<a.aL*b.aL:=G;have C : r<a.aM:=R;obtain⟨J,K⟩:=h.gh D u;have p:ix (nX a b (aj s)) g=mR a b (aj s) (aj g):=fb D (by rw[A];exact u)
  have I:ix (mR a b (aj s) (aj g)) r=_:=fb H ax
  rw[o,p,I,q,show((aj r:Nat):Int)=r by omega]
  exact qZ (l.aP _ _ r (qx _) y (qx _) J H C) (x.aP _ _ r (qx _) z (qx _) K H (by rw[h.r];exact C))
def WT (h:fQ a b){s c:Int}(d:0<=s) (e:s<((kS a b:Nat):Int)) (g:0<=c) (n:c<a.ay):(dz a b).bZ.call s c=(ix (ix a.call ((aj s/gH b:Nat):Int)) c*(gH b:Int)+ix (ix b.call ((aj s%gH b:Nat):Int)) c,ix (ix a.push ((aj s/gH b:Nat):Int)) c*b.aL+ix (ix b.push ((aj s%gH b:Nat):Int)) c):=by
 have i:ix (dz a b).call s=mP a b (aj s):=fb d e;have j:ix (mP a b (aj s)) c=_:=fb g ax
 have l:ix (dz a b).push s=mQ a b (aj s):=fb d e;have m:ix (mQ a b (aj s)) c=_:=fb g ax
 show(ix (ix (dz a b).call s) c,ix (ix (dz a b).push s) c)=_;rw[i,j,l,m,show((aj c:Nat):Int)=c by omega]
def WU (h:fQ a b){s c:Int}(d:0<=s) (e:s<((kS a b:Nat):Int)) (g:0<=c) (l:c<a.aG):(dz a b).bZ.aH s c=ix (ix a.aH ((aj s/gH b:Nat):Int)) c*(gH b:Int)+ix (ix b.aH ((aj s%gH b:Nat):Int)) c:=by
 have i:ix (dz a b).aH s=qY a b (aj s):=fb d e;have j:ix (qY a b (aj s)) c=_:=fb g ax
 show ix (ix (dz a b).aH s) c=_;rw[i,j,show((aj c:Nat):Int)=c by omega]
variable{r:Int}
def WV (h:fQ a b){s g:Int}(e:0<=s) (i:s<((kS a b:Nat):Int)) (j:0<=g) (l:g<a.aL*b.aL) (m:0<=r) (q:r<a.aM):(dz a b).bZ.aP s g r=ix (ix (ix a.aP ((aj s/gH b:Nat):Int)) ((aj g/aj b.aL:Nat):Int)) r*(gH b:Int)+ix (ix (ix b.aP ((aj s%gH b:Nat):Int)) ((aj g%aj b.aL:Nat):Int)) r:=by
 have d:=h.aZ;have n:ix (dz a b).aP s=nX a b (aj s):=fb e i;have o:ix (nX a b (aj s)) g=mR a b (aj s) (aj g):=fb j (by rw[d];exact l)
 have p:ix (mR a b (aj s) (aj g)) r=_:=fb m ax
 show ix (ix (ix (dz a b).aP s) g) r=_;rw[n,o,p,show((aj r:Nat):Int)=r by omega]
def pr (b:aS) (x y:Int):Int:=x*(gH b:Int)+y
def yj(d:0<=x) (g:0<=y) (h:y<(ah b.az:Int)):((aj (pr b x y)/gH b:Nat):Int)=x/\((aj (pr b x y)%gH b:Nat):Int)=y:=by
 obtain⟨x,rfl⟩:=fU d;obtain⟨y,rfl⟩:=fU g;have e:aj (pr b (x:Int) (y:Int))=x*gH b+y:=by
  unfold pr;have:((x*gH b+y:Nat):Int)=(x:Int)*(gH b:Int)+(y:Int):=by rw[Int.natCast_add,kW]
  omega
 have a:y<gH b:=by unfold gH;omega
 rw[e];constructor
 .rw[mY,Nat.mul_add_div ax,Nat.div_eq_of_lt a,Nat.add_zero]
 .rw[mY,Nat.mul_add_mod,Nat.mod_eq_of_lt a]
def vm (h:fQ a b)(d:0<=x/\x<(ah a.az:Int)) (e:0<=y/\y<(ah b.az:Int)):0<=pr b x y/\pr b x y<((kS a b:Nat):Int):=by
 unfold pr kS;rw[kW];exact qZ d e
def aoT (h:fQ a b){c:Int}(e:0<=x/\x<(ah a.az:Int)) (d:0<=y/\y<(ah b.az:Int)) (i:0<=c) (j:c<a.ay):(dz a b).bZ.call (pr b x y) c=(pr b (a.bZ.call x c).1 (b.bZ.call y c).1,(a.bZ.call x c).2*b.aL+(b.bZ.call y c).2):=by
 have g:=vm h e d;obtain⟨l,m⟩:=yj e.1 d.1 d.2;rw[WT h g.1 g.2 i j,l,m]
 rfl
def aoU (h:fQ a b){c:Int}(e:0<=x/\x<(ah a.az:Int)) (d:0<=y/\y<(ah b.az:Int)) (i:0<=c) (j:c<a.aG):(dz a b).bZ.aH (pr b x y) c=pr b (a.bZ.aH x c) (b.bZ.aH y c):=by
 have g:=vm h e d;obtain⟨l,m⟩:=yj e.1 d.1 d.2;rw[WU h g.1 g.2 i j,l,m]
 rfl
def aoV (h:fQ a b){g k:Int}(j:0<=x/\x<(ah a.az:Int)) (d:0<=y/\y<(ah b.az:Int)) (l:0<=g/\g<a.aL) (m:0<=k/\k<b.aL) (q:0<=r) (s:r<a.aM):(dz a b).bZ.aP (pr b x y) (g*b.aL+k) r=pr b (a.bZ.aP x g r) (b.bZ.aP y k r):=by
 have n:=vm h j d;obtain⟨u,w⟩:=yj j.1 d.1 d.2;have o:=qZ l m;have p:((aj (g*b.aL+k)/aj b.aL:Nat):Int)=g/\((aj (g*b.aL+k)%aj b.aL:Nat):Int)=k:=by
  obtain⟨g,rfl⟩:=fU l.1;obtain⟨k,rfl⟩:=fU m.1;have i:((aj b.aL:Nat):Int)=b.aL:=ax
  have e:aj ((g:Int)*b.aL+(k:Int))=g*aj b.aL+k:=by
   have:((g*aj b.aL+k:Nat):Int)=(g:Int)*b.aL+(k:Int):=by rw[Int.natCast_add,kW,i]
   omega
  have d:k<aj b.aL:=ax
  rw[e];constructor
  .rw[mY,Nat.mul_add_div ax,Nat.div_eq_of_lt d,Nat.add_zero]
  .rw[mY,Nat.mul_add_mod,Nat.mod_eq_of_lt d]
 rw[WV h n.1 n.2 o.1 o.2 q s,u,w,p.1,p.2]
 rfl
variable{w:ak}
def MP (h:fQ a b){s t:Int}(k:Wd (dz a b).bZ s t w):∀x y,(0<=x/\x<(ah a.az:Int))->(0<=y/\y<(ah b.az:Int))->s=pr b x y->∃n o, t=pr b n o /\Wd a.bZ x n w/\Wd b.bZ y o w:=by
 induction k with
 |nil s=>exact λx y g j e=>⟨x,y,e,.nil x,.nil y⟩
 |bp s i t w E Y _ U=>
  intro x y g j e;have l : i<a.aG:=Y;have F:i<b.aG:=by rw[h.i];exact l
  have:=aoU h g j E l;rw[e]at U;obtain⟨n, o, R,P,Q⟩:=U _ _ (h.oa.aH x i g.1 g.2 E l) (h.ob.aH y i j.1 j.2 E F) this;have G:=Wd.bp (M:=b.bZ) y i o w E F Q;have ec:b.bZ.ay=(dz a b).bZ.ay:=h.c;rw[ec]at G;exact⟨n, o, R,Wd.bp (M:=a.bZ) x i n w E l P,G⟩
 |call s c p r t u v q Z H r1 _ _ I J=>
  intro x y g j e;have d : c<a.ay:=Z;have z:c<b.ay:=by rw[h.c];exact d
  have m : r<a.aM:=r1;have K:r<b.aM:=by rw[h.r];exact m
  have V:=aoT h g j q d;rw[e]at I J;have L:=h.oa.call x c g.1 g.2 q d;have N:=h.ob.call y c j.1 j.2 q z;obtain⟨W,X,R,P,Q⟩:=I _ _ L N (by rw[V];rfl)
  have A:=P.range (rR h.oa) L;have B:=Q.range (rR h.ob) N;have C:=h.oa.push x c g.1 g.2 q d;have D:=h.ob.push y c j.1 j.2 q z;have O:=aoV h A B C D H m;have S:=h.oa.aP W _ r A.1 A.2 C.1 C.2 H m;have T:=h.ob.aP X _ r B.1 B.2 D.1 D.2 H K;obtain⟨n, o, l1,l2,l3⟩:=J _ _ S T (by rw[V,R];exact O)
  have G:=Wd.call (M:=b.bZ) y c X r o u v q z H K Q l3;have ec:b.bZ.ay=(dz a b).bZ.ay:=h.c;have ei:b.bZ.aG=(dz a b).bZ.aG:=h.i;rw[ec,ei]at G;exact⟨n, o, l1,Wd.call (M:=a.bZ) x c W r n u v q d H m P l2,G⟩
def Wd.det{n:aS}(hn:n.Ok){s t t' : Int}(h:Wd n.bZ s t w) (k:Wd n.bZ s t' w):t=t' :=by
 rw[<-((B4 hn).1 h).2.2,<-((B4 hn).1 k).2.2]
def aoW (h:fQ a b){x y g i : Int}(l:0<=x/\x<(ah a.az:Int)) (m:0<=y/\y<(ah b.az:Int)) (j:Wd a.bZ x g w) (n:Wd b.bZ y i w):Wd (dz a b).bZ (pr b x y) (pr b g i) w:=by
 have d:=h.oa;obtain⟨o,p,_⟩:=(rT (M:=a.bZ) ⟨d.ay.1,d.aG.1,d.aM.1⟩).1 j;have k:=(rT (M:=(dz a b).bZ) (s:=pr b x y) (w:=w) ⟨d.ay.1,d.aG.1,d.aM.1⟩).2 ⟨o,p,rfl⟩;obtain⟨u,z,e,q,r⟩:=MP h k x y l m rfl;rw[e]at k;rw[Wd.det h.oa j q,Wd.det h.ob n r];exact k
end
variable{v:ak}
def zO{K:al}(h:v∈K):0<=(K.idxOf v:Int)/\(K.idxOf v:Int)<(ah K:Int)/\ix K (K.idxOf v:Int)=v:=by
 have a:=List.idxOf_lt_length_of_mem h;refine⟨ax,ax,?_⟩
 rw[bt a,List.getElem_idxOf]
def q7{P:ak->Prop}{D:Vd}(h:nT P D) (d:Full D):kQ D:=by
 refine⟨d,h.h0.1,h.ok.ok.ay,h.ok.ok.aG,h.ok.ok.aM,λx a=>h.rl x (by rw[d.b];exact a),λx a=>?_,λx c y a m l=>?_⟩
 .obtain⟨_,e,g⟩:=h.bp x (by rw[d.i];exact a)
  rw[e];refine⟨by simp[idxs,Vd.iN],λy l=>?_⟩
  obtain⟨v,j,rfl⟩:=cJ.1 l;exact⟨(zO (g v j)).1,(zO (g v j)).2.1⟩
 .obtain⟨_,_,e,g⟩:=h.bl x c y (by rw[d.b];exact a) m (by rw[d.c x c a m];exact l)
  rw[e];refine⟨by simp[idxs,Vd.eQ],λz n=>?_⟩
  obtain⟨v,j,rfl⟩:=cJ.1 n;exact⟨(zO (g v j)).1,(zO (g v j)).2.1⟩
variable{x:Nat}
def aoX{P:ak->Prop}{D:Vd}(h:nT P D) (b:Full D){i:Int}(d:x<ah D.K) (a:0<=i) (i1:i<D.n.aG):ix D.K (D.im x i)=(ix D.K (x:Int)).map λs=>ix (ix D.n.aH s) i:=by
 obtain⟨_,e,g⟩:=h.bp x (by rw[b.i];exact d)
 unfold Vd.im;rw[e];have j:ah (D.iN x)=aj D.n.aG:=by simp[Vd.iN]
 unfold idxs;rw[kv ax ax,(zO (g _ (bh a ax))).2.2]
 unfold Vd.iN;rw[fb a ax,show((aj i:Nat):Int)=i by omega]
variable{r:Int}
def aoY{P:ak->Prop}{D:Vd}(h:nT P D) (a:Full D){y:Nat}{c:Int}(d:x<ah D.K) (i:y<ah D.K) (l:0<=c) (m:c<D.n.ay) (g:0<=r) (o:r<D.n.aM):ix D.K (D.bk x c y r)=(ix D.K (x:Int)).map (D.n.rU D.plc (ix D.K (y:Int)) c r):=by
 obtain⟨_,_,e,j⟩:=h.bl x (aj c) y (by rw[a.b];exact d) ax (by rw[a.c x (aj c) d ax];exact i)
 unfold Vd.cv Vd.row at e;rw[show((aj c:Nat):Int)=c by omega]at e
 unfold Vd.bk;rw[e];have p:ah (D.eQ x (aj c) y)=aj D.n.aM:=by simp[Vd.eQ]
 unfold idxs;rw[kv ax ax,(zO (j _ (bh g ax))).2.2]
 unfold Vd.eQ;rw[fb g ax,show((aj c:Nat):Int)=c by omega,show((aj r:Nat):Int)=r by omega]
variable{w:ak}
def Dv.wd{P:ak->Prop}{D:Vd}(h:nT P D) (hF:Full D) (hp:Dq D.n D.plc){x:Int}(hd:Dv D x w):∀j:Nat,j<ah D.n.bQ->Wd D.n.bZ (ix D.n.bQ (j:Int)) (ix (ix D.K x) (j:Int)) w:=by
 have hD:=q7 h hF;have dR:=h.ok.ok
 induction hd with
 |nil=>
  intro j hj;rw[h.h0.2];exact .nil _
 |bp x i w i0 i1 hd ih=>
  intro j hj;have hx:=hd.gi hD;have e:=aoX h hF (x:=aj x) ax i0 i1
  rw[show((aj x:Nat):Int)=x by omega]at e
  have hk:=(h.ok.kx (x:=aj x) ax)
  rw[show((aj x:Nat):Int)=x by omega]at hk
  rw[e,kv ax ax]
  exact(ih j hj).app (.bp _ i _ [] i0 i1 (.nil _))
 |aQ x c y r w u c0 c1 r0 r1 hd hu qG rL=>
  intro j hj;have hx:=hd.gi hD;have hy:=hu.gi hD;have e:=aoY h hF (x:=aj x) (y:=aj y) ax ax c0 c1 r0 r1
  rw[show((aj x:Nat):Int)=x by omega,show((aj y:Nat):Int)=y by omega]at e
  have hk:=(h.ok.kx (x:=aj x) ax)
  rw[show((aj x:Nat):Int)=x by omega]at hk
  rw[e,kv ax ax]
  refine(qG j hj).app ?_;generalize ht:ix (ix D.K x) (j:Int)=t at *;have Oj:=hk.1 _ (bh (l:=ix D.K x) (n:=(j:Int)) ax ax)
  rw[ht]at Oj;have sN:=dR.call t c Oj.1 Oj.2 c0 c1
  -- the entry
  have hm:ix (ix D.n.call t) c∈D.n.bQ:=by
   have xZ:=(dR.row t Oj.1 Oj.2).1;have ln:=dR.lens;exact tC.2 (.inr ⟨_,bh Oj.1 ax,bh c0 ax⟩)
  obtain⟨m,CL,Hd⟩:=fY.1 hm;have xh:=hp.Fl m CL;rw[bt CL,Hd]at xh;have hw:=rL m CL;rw[bt CL,Hd]at hw;have:=Wd.call (M:=D.n.bZ) t c (ix (ix D.K y) (m:Int)) r _ u [] c0 c1 r0 r1 hw (.nil _);rw[show D.n.rU D.plc (ix D.K y) c r t=D.n.bZ.aP (ix (ix D.K y) (m:Int)) (D.n.bZ.call t c).2 r from by
   unfold aS.rU;rw[xh];rfl]
  exact this
def Wd.rq{M:eZ}(hM:0<=M.ay/\0<=M.aG/\0<=M.aM){s t t' : Int}(h:Wd M s t w) (g:Wd M s t' w):t=t' :=by
 have h1:=((rT hM).1 h).2.2;have h2:=((rT hM).1 g).2.2;rw[<-h1,<-h2]
def aS.Ok.m0{n:aS}(h:n.Ok):0<=n.bZ.ay/\0<=n.bZ.aG/\0<=n.bZ.aM:=⟨h.ay.1,h.aG.1,h.aM.1⟩
def Dv.rq{P:ak->Prop}{D:Vd}(h:nT P D) (hF:Full D) (hp:Dq D.n D.plc){x y:Int}(hx:Dv D x w) (hy:Dv D y w):x=y:=by
 have hD:=q7 h hF;have rx:=hx.gi hD;have ry:=hy.gi hD;have kx:=h.ok.kx (x:=aj x) ax
 have ky:=h.ok.kx (x:=aj y) ax
 have e:ix D.K (aj x:Int)=ix D.K (aj y:Int):=by
  refine wQ (by rw[kx.2,ky.2]) λj j0 j1=>?_
  have h1:=hx.wd h hF hp (aj j) (by rw[kx.2]at j1;omega)
  have h2:=hy.wd h hF hp (aj j) (by rw[kx.2]at j1;omega)
  rw[show((aj j:Nat):Int)=j by omega]at h1 h2
  rw[show((aj x:Nat):Int)=x by omega,show((aj y:Nat):Int)=y by omega]
  exact h1.rq h.ok.ok.m0 h2
 rw[bt (show (aj x)<ah D.K by omega),bt (show (aj y)<ah D.K by omega)]at e
 have:=(List.getElem_inj h.nd).1 e;omega
def zN:aS:=⟨0,0,0,0,0,[],[],[],[],[]⟩
structure Ol (P:ak->Prop) (n:aS) (D:Vd):Prop where
 v:nT P D
 n:D.n=n
 p:Dq D.n D.plc
structure Ao (P:ak->Prop) (n:aS) (D:Vd) (cls:ak) (k:Nat):Prop where
 d:Ol P n D
 f:Full D
 c:ZJ D D.jP cls k
structure Ap (P:ak->Prop) (n:aS) (D:Vd) (cls:ak) (k:Nat) (S:Fd) (l:List jz):Prop where
 c:Ao P n D cls k
 kb:k<=128/\k*aj n.ay<=128
 s:Sr D 1025 S
 l:CI cls S k (ah D.K) l
inductive Dw (P:ak->Prop) (n:aS):aS->Int->Prop
 |inv:n.bI ≠ 0->Dw P n zN n.bI
 |many (D:Vd):n.bI=0->Ol P n D->512<ah D.K->Dw P n zN 11
 |eE (D:Vd) (cls:ak) (k:Nat):n.bI=0->Ao P n D cls k->(128<k\/128<k*aj n.ay)->Dw P n zN 11
 |MQ (D:Vd) (cls:ak) (k:Nat) (S:Fd) (l:List jz):n.bI=0->Ap P n D cls k S l->l.any neg=ad->Dw P n zN 3
 |ok (D:Vd) (cls:ak) (k:Nat) (S:Fd) (l:List jz) (st:ak):n.bI=0->Ap P n D cls k S l->l.any neg=ae->ah st=ah l->(∀i:Nat,i<ah l->ix st (yi (dY l) i)=i)->Dw P n (vk D cls (dY l) st) 0
variable{l:List jz}
def Ap.wd{P:ak->Prop}{n:aS}{D:Vd}{cls:ak}{k:Nat}{S:Fd}(h:Ap P n D cls k S l){i:Nat}(hi:i<k) (hv:0<=(ix l (i:Int)).2.1):((ix l (i:Int)).2.1<(ah D.K:Int))/\ix cls (ix l (i:Int)).2.1=i/\mg D (ix l (i:Int)).2.1 (ix l (i:Int)).2.2/\ah (ix l (i:Int)).2.2<=1024:=by
 obtain⟨⟨a,b,c,d⟩,_⟩:=h.l.yes i hi hv;obtain⟨w,hw,hl⟩:=(h.s.fd _ hv (by rw[h.s.l];exact a)).1 c
 have:=h.s.lw _ w hw hl;unfold Fd.wd at d;rw[this]at d;have d:(ix l (i:Int)).2.2=w:=d;rw[d];exact⟨a,b,hw,ax⟩
def Ap.nodup{P:ak->Prop}{n:aS}{D:Vd}{cls:ak}{k:Nat}{S:Fd}(h:Ap P n D cls k S l) (hn:l.any neg=ae):(l.map λc=>c.2.2).Nodup:=by
 have hv:∀i:Nat,i<ah l->0<=(ix l (i:Int)).2.1:=λi hi=>by
  have:=List.any_eq_false.1 hn _ (bh (l:=l) (n:=(i:Int)) ax ax)
  simp[neg]at this;exact this
 have hk:=h.l.len;rw[List.Nodup,rI];intro i j hi hj xW e;simp only[db]at hi hj;simp only[gq]at e;rw[<-bt hi,<-bt hj]at e;obtain⟨a1,a2,a3,a4⟩:=h.wd (i:=i) ax (hv i hi)
 obtain⟨b1,b2,b3,b4⟩:=h.wd (i:=j) ax (hv j hj)
 rw[e]at a3;have:=Dv.rq h.c.d.v h.c.f h.c.d.p a3.1 b3.1;rw[this,b2]at a2;omega
def Ap.atm{P:ak->Prop}{n:aS}{D:Vd}{cls:ak}{k:Nat}{S:Fd}(h:Ap P n D cls k S l) (hn:l.any neg=ae) (hk:1<=k):ZV D cls (dY l):=by
 have hp:=r3 l;have hv:∀i:Nat,i<ah l->0<=(ix l (i:Int)).2.1:=λi hi=>by
  have:=List.any_eq_false.1 hn _ (bh (l:=l) (n:=(i:Int)) ax ax)
  simp[neg]at this;exact this
 have hl:=h.l.len;have xh:ah (dY l)=ah l:=hp.length_eq;have na:∀c∈dY l,∃i:Nat,i<ah l/\ix l (i:Int)=c:=λc hc=>by
  obtain⟨i,hi,e⟩:=fY.1 (hp.mem_iff.1 hc);exact⟨i,hi,by rw[bt hi];exact e⟩
 have GH:=h.c.d.n;have fT:=h.c.d.v.ok.ok.aF;have LV:=h.c.d.p;have hs:D.n.aF∈D.n.bQ:=tC.2 (.inl rfl);obtain⟨m,CL,Hd⟩:=fY.1 hs;have WW:=LV.Fl m CL;rw[bt CL,Hd]at WW;refine⟨q7 h.c.d.v h.c.f,h.c.d.v.ok,⟨ax,by have:=h.kb;omega⟩,?_,h.c.c.c.len,λc hc=>?_,λc hc=>?_,λc hc=>?_,?_,?_,?_⟩
 .rw[xh,hl,GH];exact h.kb.2
 .rw[xh,hl];exact h.c.c.c.can.gi c hc
 .obtain⟨i,hi,rfl⟩:=na c hc
  exact⟨hv i hi,(h.wd ax (hv i hi)).1⟩
 .obtain⟨i,hi,rfl⟩:=na c hc
  rw[h.l.cl i ax]
  omega
 .refine(hp.map _).nodup_iff.2 ?_
  rw[List.Nodup,rI];intro i j hi hj xW e;simp only[db]at hi hj;simp only[gq]at e;rw[<-bt hi,<-bt hj,h.l.cl i ax,h.l.cl j ax]at e
  omega
 .rw[LV.len];exact fT.2
 .unfold Vd.jP
  rw[WW];omega
def aoZ{P:ak->Prop}{n:aS}(d:n.Ok){plc:ak}(e:Dq n plc) (g:P n.bQ):nT P (p9 n plc):=
 ⟨anN d e,by simp[p9],λk b=>by simp[p9]at b;rw[b];exact g,⟨by simp[p9],rfl⟩,λx a=>by simp[p9]at a,λx a=>by simp[p9]at a,λx c y a=>by simp[p9]at a⟩
def ao0 (n:aS) (hf:n.fits) (P:ak->Prop) (hP:n.bI=0->∀plc,Dq n plc->G0 P n plc) (hP0:P n.bQ) (K:AV->aq->Prop) (H:∀e τ,Dw P n zN e->K (.bY [.agg tJ,.int e]) τ) (hk:∀r e τ,Dw P n r e->K (.bY [r.av,.int e]) τ):LX L tw [n.av] [] K:=by
 refine ajL rfl ?_;have hV:=zn n hf;show WK L (.seq (.cM Th)
 (.seq (.seq (.cM Ti)
 (.seq (.cM Tj)
 (.cond 18 (.seq (.cM Tl)
 .ret) .skip)))
 (.seq (.cM Tm)
 (.seq (.seq (.seq (.cM To) (.km 4))
 (.cond 25 (.seq (.cM Tp)
 .ret) .skip))
 (.seq (.cM Tq)
 (.seq (.seq (.cM Tt)
 (.cond 40 (.seq (.cM Tu)
 .ret) .skip))
 MK)))))) _ ab [] _
 by_cases u:n.bI=0
 .have hn:=oR u
  rw[u]at hV;obtain⟨rv,τ,I,plc,z,rfl,rfl⟩:=dt (anM n hn);have hvs:=vs0 n plc ⟨aa 10,tJ,.live⟩;have J:=anp (P:=P) (p9 n plc) (hP u plc z) p0 _ hvs (aoZ hn z hP0) rfl rfl (by simp[p9])
  obtain⟨rc,τ,G,D,p,hS,hI,h,B,w,hr⟩:=dt J;clear J;have w:p .v=3:=w;have M : L EB [.ptr 3 16 0] (⟨aa 10,tJ,.live⟩::(G3 n plc).map (gl 1))=aa (rc,τ):=G;have h:D.n=n:=h;have B:D.plc=plc:=B;have hd:Ol P n D:=⟨hI,h,by rw[h,B];exact z⟩
  rcases hr with⟨rfl,hF⟩|⟨rfl,N⟩
  .simp[-aK,hV,I,iz,M]
   refine Wn hS (b:=0) (A:=⟨aa 10,tJ,.live⟩) (by rw[w]) rfl λσ j=>?_
   have hD:=q7 hI hF;have fT:=hI.ok.ok.aF;have hs:D.n.aF∈D.n.bQ:=tC.2 (.inl rfl);obtain⟨m,O,Hd⟩:=fY.1 hs;have Q:=hd.p.Fl m O;rw[bt O,Hd]at Q;obtain⟨⟨cls,k⟩,x,a⟩:=anV D hD hI.ok (by rw[hd.p.len];exact fT.2) (by unfold Vd.jP;rw[Q];omega)
   have C:Ao P n D cls k:=⟨hd,hF,a⟩;have o:=a.c.can;have GF:=o.len;rw[a.c.len]at GF;have hkf:=hF.k;dsimp only at x;have E:=hn.ay;have y:1<=k:=by
    have:=o.gi _ (bh (l:=cls) (n:=0) ax (by rw[a.c.len];have:=hD.k;omega))
    omega
   have hmul:(k:Int)*n.ay=((k*aj n.ay:Nat):Int):=qt
   have hmb:0<=(k:Int)*n.ay/\(k:Int)*n.ay<=512*64:=⟨pH ax E.1,Int.le_trans (Int.mul_le_mul_of_nonneg_right (show(k:Int)<=512 by omega) E.1) (Int.mul_le_mul_of_nonneg_left E.2 ax)⟩
   have d:=λce (R T U V W X Y Z c8 c9:AV)=>pP (ce:=ce) (σ:=aV σ 0 ⟨aa 10,[R,T,U,V,W,X,Y,Z,c8,c9],.live⟩) (n:=0) (cQ (cX j))
   by_cases yT:128<k
   .have g :=bz (show(128:Int)<(k:Int)by omega)
    simp[-aK,x,g, j,d];exact H _ _ (.eE D cls k u C (.inl yT))
   .have g :=eG (show ¬(128:Int)<(k:Int)by omega)
    by_cases yV:128<k*aj n.ay
    .have q :=bz (show(128:Int)<(k:Int)*n.ay by rw[hmul];omega)
     simp[-aK,x,g, q, j,d];exact⟨ax,H _ _ (.eE D cls k u C (.inr yV))⟩
    .have q :=eG (show ¬(128:Int)<(k:Int)*n.ay by rw[hmul];omega)
     simp[-aK,x,g, q];have hsy:=hn.syms;refine⟨ax,aoK hD (by rw[h];omega) a.c.len o.gi ax y j λS l τ b x11 x12 x13 x16 hS G MA g0 gb=>?_⟩
     have hL:Ap P n D cls k S l:=⟨C,⟨ax,ax⟩,hS,G⟩
     have hlk:=G.len;subst hlk;have na:∀c∈l,∃i:Nat,i<ah l/\ix l (i:Int)=c:=λc hc=>by
      obtain⟨i,F,e⟩:=fY.1 hc;exact⟨i,F,by rw[bt F];exact e⟩
     refine aoH g0 gb MA (λc hc j=>?_) ax (λe=>by rw[e]at y;simp at y) (λc hc=>?_) (λs τ=>H _ _ (.MQ D cls _ S l u hL s)) λs=>⟨hL.nodup s,hL.atm s y,λst τ h1 h2=>hk _ _ _ (.ok D cls _ S l st u hL s h1 h2)⟩
     .obtain⟨i,F,rfl⟩:=na c hc
      exact(G.no i F j).1
     .obtain⟨i,F,rfl⟩:=na c hc
      by_cases j:(ix l (i:Int)).2.1<0
      .rw[(G.no i F j).1];simp
      .exact(hL.wd F ax).2.2.2
  .simp[-aK,hV,I,iz,M]
   refine Wn hS (b:=0) (A:=⟨aa 10,tJ,.live⟩) (by rw[w]) rfl λσ j=>?_
   have d:=λce (R T U V W X Y Z c8 c9:AV)=>pP (ce:=ce) (σ:=aV σ 0 ⟨aa 10,[R,T,U,V,W,X,Y,Z,c8,c9],.live⟩) (n:=0) (cQ (cX j));simp[-aK,j,d];exact H _ _ (.many D u hd N)
 .have MS:=λce (R T U V W X Y Z c8 c9:AV)=>pP (ce:=ce) (σ:=[⟨aa 10,[R,T,U,V,W,X,Y,Z,c8,c9],.live⟩]) (n:=0) rfl
  simp[-aK,hV,u,MS];exact H _ _ (.inv u)
def ao1 (n:aS) (b:n.fits) (P:ak->Prop) (d:n.bI=0->∀plc,Dq n plc->G0 P n plc) (a:P n.bQ):∃q:aS×Int,PC tw [n.av]=aa (.bY [q.1.av,.int q.2])/\Dw P n q.1 q.2:=
 Cr (g:=λq:aS×Int=>.bY [q.1.av,.int q.2]) (ao0 n b P d a _ (λe i h=>⟨(zN,e),rfl,h⟩) λr e i h=>⟨(r,e),rfl,h⟩)
structure kT where
 c:Int
 i:Int
 r:Int
inductive Ww (A:kT):ak->Prop
 |nil:Ww A []
 |bp (w:ak) (i:Int):0<=i->i<A.i->Ww A w->Ww A (w ++ [A.c+i])
 |aQ (w u:ak) (c r:Int):0<=c->c<A.c->0<=r->r<A.r->Ww A w->Ww A u->Ww A (w++c::(u ++ [A.c+A.i+r]))
inductive Sep (A:kT) (L:ak->Prop):ak->ak->Prop
 |acc (u v:ak):¬(L u↔L v)->Sep A L u v
 |bp (u v:ak) (i:Int):0<=i->i<A.i->Sep A L (u ++ [A.c+i]) (v ++ [A.c+i])->Sep A L u v
 |bl (u v y:ak) (c r:Int):0<=c->c<A.c->0<=r->r<A.r->Ww A y->Sep A L (u++c::(y ++ [A.c+A.i+r])) (v++c::(y ++ [A.c+A.i+r]))->Sep A L u v
 |br (u v y:ak) (c r:Int):0<=c->c<A.c->0<=r->r<A.r->Ww A y->Sep A L (y++c::(u ++ [A.c+A.i+r])) (y++c::(v ++ [A.c+A.i+r]))->Sep A L u v
def kU (A:kT) (L:ak->Prop) (u v:ak):Prop:=¬Sep A L u v
variable{u:ak}
def Sep.ne{A:kT}{L:ak->Prop}(h:Sep A L u v):u ≠ v:=by
 induction h with
 |acc u v h=>exact λe=>h fk
 |bp u v i _ _ _ ih=>exact λe=>ih fk
 |bl u v y c r _ _ _ _ _ _ ih=>exact λe=>ih fk
 |br u v y c r _ _ _ _ _ _ ih=>exact λe=>ih fk
def kU.refl{A:kT}{L:ak->Prop}(u:ak):kU A L u u:=λh=>h.ne rfl
def Sep.symm{A:kT}{L:ak->Prop}(h:Sep A L u v):Sep A L v u:=by
 induction h with
 |acc u v h=>exact .acc _ _ λe=>h e.symm
 |bp u v i h0 h1 _ ih=>exact .bp _ _ i h0 h1 ih
 |bl u v y c r h0 h1 h2 h3 hy _ ih=>exact .bl _ _ y c r h0 h1 h2 h3 hy ih
 |br u v y c r h0 h1 h2 h3 hy _ ih=>exact .br _ _ y c r h0 h1 h2 h3 hy ih
def kU.symm{A:kT}{L:ak->Prop}(h:kU A L u v):kU A L v u:=λg=>h g.symm
def Sep.split{A:kT}{L:ak->Prop}(h:Sep A L u w):∀v,Sep A L u v\/Sep A L v w:=by
 induction h with
 |acc u w h=>
  intro v
  by_cases e:L u↔L v
  .exact .inr (.acc _ _ λe2=>h (e.trans e2))
  .exact .inl (.acc _ _ e)
 |bp u w i h0 h1 _ ih=>exact λv=>(ih _).imp (.bp _ _ i h0 h1) (.bp _ _ i h0 h1)
 |bl u w y c r h0 h1 h2 h3 hy _ ih=>exact λv=>(ih _).imp (.bl _ _ y c r h0 h1 h2 h3 hy) (.bl _ _ y c r h0 h1 h2 h3 hy)
 |br u w y c r h0 h1 h2 h3 hy _ ih=>exact λv=>(ih (y++c::(v ++ [A.c+A.i+r]))).imp (.br _ _ y c r h0 h1 h2 h3 hy) (.br _ _ y c r h0 h1 h2 h3 hy)
def kU.trans{A:kT}{L:ak->Prop}(h:kU A L u v) (g:kU A L v w):kU A L u w:=λk=>(k.split v).elim h g
def kU.acc{A:kT}{L:ak->Prop}(h:kU A L u v):L u↔L v:=dP λe=>h (.acc _ _ e)
def kU.bp{A:kT}{L:ak->Prop}(h:kU A L u v){i:Int}(h0:0<=i) (h1:i<A.i):kU A L (u ++ [A.c+i]) (v ++ [A.c+i]):=λk=>h (.bp _ _ i h0 h1 k)
variable{y:ak}
def kU.bl{A:kT}{L:ak->Prop}(h:kU A L u v){c:Int}(h0:0<=c) (h1:c<A.c) (h2:0<=r) (h3:r<A.r) (hy:Ww A y):kU A L (u++c::(y ++ [A.c+A.i+r])) (v++c::(y ++ [A.c+A.i+r])):=λk=>h (.bl _ _ y c r h0 h1 h2 h3 hy k)
def kU.br{A:kT}{L:ak->Prop}(h:kU A L u v){c:Int}(h0:0<=c) (h1:c<A.c) (h2:0<=r) (h3:r<A.r) (hy:Ww A y):kU A L (y++c::(u ++ [A.c+A.i+r])) (y++c::(v ++ [A.c+A.i+r])):=λk=>h (.br _ _ y c r h0 h1 h2 h3 hy k)
def kU.aQ{A:kT}{L:ak->Prop}{x:ak}(h:kU A L u v) (g:kU A L x y){c:Int}(h0:0<=c) (h1:c<A.c) (h2:0<=r) (h3:r<A.r) (hv:Ww A v) (hx:Ww A x):kU A L (u++c::(x ++ [A.c+A.i+r])) (v++c::(y ++ [A.c+A.i+r])):=(h.bl h0 h1 h2 h3 hx).trans (g.br h0 h1 h2 h3 hv)
def Ww.sym{A:kT}(hA:0<=A.c/\0<=A.i/\0<=A.r)(h:Ww A w):∀a∈w,0<=a/\a<A.c+A.i+A.r:=by
 induction h with
 |nil=>simp
 |bp w i h0 h1 _ ih=>
  intro a ha;rcases dI.1 ha with ha|ha
  .exact ih a ha
  .simp at ha;omega
 |aQ w u c r h0 h1 h2 h3 _ _ qG rL=>
  intro a ha;simp only[dI,cC,List.not_mem_nil,or_false]at ha;rcases ha with ha|rfl|ha|rfl
  .exact qG a ha
  .omega
  .exact rL a ha
  .omega
structure kT.Ok (A:kT):Prop where
 p:0<=A.c/\0<=A.i/\0<=A.r
 s:A.c+A.i+A.r<=64
def Ww.sy{A:kT}(hA:A.Ok)(h:Ww A w):Ab.sy w:=λa ha=>by
 have:=h.sym hA.p a ha;have:=hA.s;omega
def ao2{P:ak->Prop}(d:∀w,P w->Ab.sy w)(a:P w):∃v,P v/\∀u,P u->bD v u<=0:=by
 have:∀(n:Nat) (w:ak),dU w<=n->P w->∃v,P v/\∀u,P u->dU v<=dU u:=by
  intro n
  induction n with
  |zero=>exact λw h a=>⟨w,a,λu _=>ax⟩
  |succ n i=>
   intro w h a
   by_cases e:∃u,P u/\dU u<dU w
   .obtain⟨u,j,m⟩:=e
    exact i u ax j
   .exact⟨w,a,λu b=>by
     refine dP λo=>e ⟨u,b,ax⟩⟩
 obtain⟨v,g,l⟩:=this _ w (bG _) a;exact⟨v,g,λu b=>(xc (d v g) (d u b)).2 (l u b)⟩
structure js (A:kT) (L:ak->Prop) (ws:al):Prop where
 vI:ws.Pairwise λa b=>bD a b<0
 ww:∀w∈ws,Ww A w
 WX:∀w∈ws,∀v,Ww A v->kU A L w v->bD w v<=0
 all:∀v,Ww A v->∃w∈ws,kU A L v w
def FW{a b:ak}(h:bD a b<=0) (g:bD b a<=0):a=b:=by
 have:=dO.gV a b;exact dO.eq _ _ ax
def js.one{A:kT}{L:ak->Prop}{ws:al}(h:js A L ws)(hv:v∈ws) (hw:w∈ws) (e:kU A L v w):v=w:=
 FW (h.WX v hv w (h.ww w hw) e) (h.WX w hw v (h.ww v hv) e.symm)
def WY:∀{a b:al},a.Pairwise (λa b=>bD a b<0)->b.Pairwise (λa b=>bD a b<0)->(∀w,w∈a↔w∈b)->a=b
 | [],[],_,_,_=>rfl
 | [],y::b,_,_,h=>absurd ((h y).2 aA) aA
 |x::a,[],_,_,h=>absurd ((h x).1 aA) aA
 |x::a,y::b,i,j,h=>by
  rw[jV]at i j;have l:∀u v:ak,bD u v<0->bD v u<0->False:=λu v m p=>by have:=dO.gV u v;omega
  have e:x=y:=by
   rcases cC.1 ((h x).1 aA)with e|n
   .exact e
   .rcases cC.1 ((h y).2 aA)with e|o
    .exact e.symm
    .exact absurd (i.1 y o) λm=>l _ _ m (j.1 x n)
  subst e;rw[WY i.2 j.2 λw=>?_];constructor
  .intro g
   rcases cC.1 ((h w).1 jC)with e|d
   .subst e;exact absurd (i.1 w g) (by have:=dO.refl w;omega)
   .exact d
  .intro g
   rcases cC.1 ((h w).2 jC)with e|d
   .subst e;exact absurd (j.1 w g) (by have:=dO.refl w;omega)
   .exact d
def js.rq{A:kT}{L:ak->Prop}{a b:al}(h:js A L a) (g:js A L b):a=b:=by
 have key:∀{a b:al},js A L a->js A L b->∀w,w∈a->w∈b:=fun {a b} h g w hw=>by
  obtain⟨v,hv,e⟩:=g.all w (h.ww w hw);rw[FW (h.WX w hw v (g.ww v hv) e) (g.WX v hv w (h.ww w hw) e.symm)];exact hv
 exact WY h.vI g.vI λw=>⟨key h g w,key g h w⟩
open Classical in
noncomputable def iO (A:kT) (L:ak->Prop) (ws:al) (v:ak):Int:=(ws.findIdx λw=>decide (kU A L v w):Nat)
def r6{A:kT}{L:ak->Prop}{ws:al}(h:js A L ws)(b:Ww A v):0<=iO A L ws v/\iO A L ws v<(ah ws:Int)/\kU A L v (ix ws (iO A L ws v)):=by
 obtain⟨w,d,e⟩:=h.all v b;have a:=List.findIdx_lt_length_of_exists (p:=λw=>@decide (kU A L v w) (Classical.propDecidable _)) ⟨w,d,iT⟩
 have g:=List.findIdx_getElem (w:=a);unfold iO;refine⟨ax,ax,?_⟩
 rw[bt a];simpa using g
def zP{A:kT}{L:ak->Prop}{ws:al}(h:js A L ws)(j:Ww A v){i:Int}(l:0<=i) (i1:i<(ah ws:Int)) (e:kU A L v (ix ws i)):iO A L ws v=i:=by
 obtain⟨m,n,o⟩:=r6 h j;have p:=bh l i1;have q:=bh m n;have:=h.one q p (o.symm.trans e);have d:ws.Nodup:=h.vI.imp fun {a b} g e=>by rw[e,dO.refl]at g;omega
 rw[show iO A L ws v=(aj (iO A L ws v):Int)by omega,show i=(aj i:Int)by omega]at this
 rw[bt ax,bt ax]at this
 have:=(List.getElem_inj d).1 this;omega
def WZ{A:kT}{L:ak->Prop}{ws:al}(h:js A L ws)(a:Ww A u) (g:Ww A v):iO A L ws u=iO A L ws v↔kU A L u v:=by
 obtain⟨i,j,b⟩:=r6 h g;constructor
 .intro e
  obtain⟨l,m,d⟩:=r6 h a;rw[e]at d;exact d.trans b.symm
 .exact λe=>zP h a i j (e.trans b)
end Ab
namespace Ab
def CM{n:aS}(h:n.Ok):n.bI=0:=by
 have p:n.gg=0:=by
  have u:=h.ay;have w:=h.aG;have x:=h.aM;have y:=h.syms;have z:=h.aL;have m:=h.eC;have A:=h.aF;obtain⟨B,C,D,E⟩:=h.lens;unfold aS.gg;rw[aC ax,aC ax,aC ax,aC ax,aC ax,aC (λe=>by rw[e]at m;simp at m),aC ax,aC ax,aC ax,aC ax,aC ax,aC ax,aC ax]
 unfold aS.bI;rw[aC (by simpa using p)]
 refine E3.2 λs b d=>?_;obtain⟨F,G,H,q⟩:=h.row s b d;unfold aS.fC;rw[aC ax,aC]
 .refine E3.2 λg o i=>?_
  rw[q]at i;have r:=h.zp s g b d o i;unfold aS.kr;rw[aC (by simpa using r),aC]
  rw[rQ.2 λj a l=>h.aP s g j b d o i a ax]
  simp
 .rw[rQ.2 λj a l=>h.call s j b d a ax,rQ.2 λj a l=>h.push s j b d a ax,rQ.2 λj a l=>h.aH s j b d a ax]
  simp
def MT{n:aS}(h:n.Ok) (g:(∀l∈n.call,ah l<=100000)/\(∀l∈n.push,ah l<=100000)/\(∀l∈n.aH,ah l<=100000)/\∀l∈n.aP,ah l<=100000/\∀m∈l,ah m<=100000):n.fits:=by
 have i:=h.ay;have j:=h.aG;have o:=h.aM;have u:=h.aL;have w:=h.eC;have p:=h.aF;have inr:∀x:Int,0<=x->x<=1000->lA x=ad:=λx a b=>by simp[lA];omega
 obtain⟨b1,q,r,e⟩:=g;exact⟨inr _ i.1 ax,inr _ j.1 ax,inr _ o.1 ax,inr _ ax ax,inr _ p.1 ax,ax,λl d=>by have:=b1 l d;omega,λl d=>by have:=q l d;omega,λl d=>by have:=r l d;omega,λl d=>⟨by have:=(e l d).1;omega,λm s=>by have:=(e l d).2 m s;omega⟩⟩
def jd{a:Type} [Inhabited a]{N:Nat}{f:Nat->a}{s:Int}(b:0<=s) (d:s<(N:Int)):ix ((af N).map f) s=f (aj s):=fb b d
def kT.aZ (A:kT) (k:Nat):Nat:=max 1 (k*aj A.c)
open Classical in
noncomputable def cO (A:kT) (L:ak->Prop) (ws:al):aS:=⟨A.c,A.i,A.r,((A.aZ (ah ws):Nat):Int),0,
 (af (ah ws)).map λ(i:Nat)=>decide (L (ix ws (i:Int))),
 ag (ah ws) (ag (aj A.c) 0),
 (af (ah ws)).map λ(s:Nat)=>(af (aj A.c)).map λ(c:Nat)=>(s:Int)*A.c+(c:Int),
 (af (ah ws)).map λ(i:Nat)=>(af (aj A.i)).map λ(j:Nat)=>iO A L ws (ix ws (i:Int) ++ [A.c+(j:Int)]),
 (af (ah ws)).map λ(i:Nat)=>(af (A.aZ (ah ws))).map λ(g:Nat)=>(af (aj A.r)).map λ(r:Nat)=>if (aj A.c)=0 then 0 else iO A L ws (ix ws ((g/aj A.c:Nat):Int)++((g%aj A.c:Nat):Int)::(ix ws (i:Int) ++ [A.c+A.i+(r:Int)]))⟩
section
variable{A:kT}{L:ak->Prop}{ws:al}
def CN:ah (cO A L ws).az=ah ws/\ah (cO A L ws).call=ah ws/\ah (cO A L ws).push=ah ws/\ah (cO A L ws).aH=ah ws/\ah (cO A L ws).aP=ah ws:=by
 simp[cO]
def zQ{s c:Int}(a:0<=s) (b:s<(ah ws:Int)) (d:0<=c) (e:c<A.c):ix (ix (cO A L ws).call s) c=0/\ix (ix (cO A L ws).push s) c=s*A.c+c:=by
 constructor
 .show ix (ix (ag (ah ws) (ag (aj A.c) 0)) s) c=0
  rw[show s=((aj s:Nat):Int)by omega,show c=((aj c:Nat):Int)by omega,lF ax,lF ax]
 .show ix (ix ((af (ah ws)).map λ(s:Nat)=>(af (aj A.c)).map λ(c:Nat)=>(s:Int)*A.c+(c:Int)) s) c=_
  rw[jd a b,jd d ax]
  rw[show((aj s:Nat):Int)=s by omega,show((aj c:Nat):Int)=c by omega]
def ao3{s:Int}(a:0<=s) (b:s<(ah ws:Int)):ah (ix (cO A L ws).call s)=aj A.c/\ah (ix (cO A L ws).push s)=aj A.c/\ah (ix (cO A L ws).aH s)=aj A.i/\ah (ix (cO A L ws).aP s)=A.aZ (ah ws):=by
 refine⟨?_,?_,?_,?_⟩
 .show(ah (ix (ag (ah ws) (ag (aj A.c) (0:Int))) s))=_
  rw[show s=((aj s:Nat):Int)by omega,lF ax];simp
 .show(ah (ix ((af (ah ws)).map λ(s:Nat)=>(af (aj A.c)).map λ(c:Nat)=>(s:Int)*A.c+(c:Int)) s))=_
  rw[jd a b];simp
 .show(ah (ix ((af (ah ws)).map λ(i:Nat)=>(af (aj A.i)).map λ(j:Nat)=>iO A L ws (ix ws (i:Int) ++ [A.c+(j:Int)])) s))=_
  rw[jd a b];simp
 .show(ah (ix ((af (ah ws)).map λ(i:Nat)=>(af (A.aZ (ah ws))).map λ(g:Nat)=>(af (aj A.r)).map λ(r:Nat)=>if (aj A.c)=0 then 0 else iO A L ws (ix ws ((g/aj A.c:Nat):Int)++((g%aj A.c:Nat):Int)::(ix ws (i:Int) ++ [A.c+A.i+(r:Int)]))) s))=_
  rw[jd a b];simp
def W0{s i:Int}(a:0<=s) (b:s<(ah ws:Int)) (d:0<=i) (i1:i<A.i):ix (ix (cO A L ws).aH s) i=iO A L ws (ix ws s ++ [A.c+i]):=by
 show ix (ix ((af (ah ws)).map λ(i:Nat)=>(af (aj A.i)).map λ(j:Nat)=>iO A L ws (ix ws (i:Int) ++ [A.c+(j:Int)])) s) i=_;rw[jd a b,jd d ax,show((aj s:Nat):Int)=s by omega,show((aj i:Nat):Int)=i by omega]
def ao4{s g:Int}(a:0<=s) (b:s<(ah ws:Int)) (d:0<=g) (e:g<(A.aZ (ah ws):Int)):ah (ix (ix (cO A L ws).aP s) g)=aj A.r:=by
 show(ah (ix (ix ((af (ah ws)).map λ(i:Nat)=>(af (A.aZ (ah ws))).map λ(g:Nat)=>(af (aj A.r)).map λ(r:Nat)=>if (aj A.c)=0 then 0 else iO A L ws (ix ws ((g/aj A.c:Nat):Int)++((g%aj A.c:Nat):Int)::(ix ws (i:Int) ++ [A.c+A.i+(r:Int)]))) s) g))=_
 rw[jd a b,jd d e];simp
variable{r:Int}
def W1{s g:Int}(a:0<=s) (b:s<(ah ws:Int)) (d:0<=g) (e:g<(A.aZ (ah ws):Int)) (h:0<=r) (j:r<A.r):ix (ix (ix (cO A L ws).aP s) g) r=if (aj A.c)=0 then 0 else iO A L ws (ix ws ((aj g/aj A.c:Nat):Int)++((aj g%aj A.c:Nat):Int)::(ix ws s ++ [A.c+A.i+r])):=by
 show ix (ix (ix ((af (ah ws)).map λ(i:Nat)=>(af (A.aZ (ah ws))).map λ(g:Nat)=>(af (aj A.r)).map λ(r:Nat)=>if (aj A.c)=0 then 0 else iO A L ws (ix ws ((g/aj A.c:Nat):Int)++((g%aj A.c:Nat):Int)::(ix ws (i:Int) ++ [A.c+A.i+(r:Int)]))) s) g) r=_
 rw[jd a b,jd d e,jd h ax,show((aj s:Nat):Int)=s by omega,show((aj r:Nat):Int)=r by omega]
def W2{s p c:Int}(b:0<=s) (d:s<(ah ws:Int)) (p0:0<=p) (j:p<(ah ws:Int)) (l:0<=c) (m:c<A.c) (g:0<=r) (h:r<A.r):0<=p*A.c+c/\p*A.c+c<(A.aZ (ah ws):Int)/\ix (ix (ix (cO A L ws).aP s) (p*A.c+c)) r=iO A L ws (ix ws p++c::(ix ws s ++ [A.c+A.i+r])):=by
 obtain⟨a,rfl⟩:∃a:Nat,p=a:=⟨aj p,ax⟩
 obtain⟨cn,rfl⟩:∃cn:Nat,c=cn:=⟨aj c,ax⟩
 have e:(a:Int)*A.c+(cn:Int)=((a*aj A.c+cn:Nat):Int):=s3
 have n:a*aj A.c+aj A.c<=ah ws*aj A.c:=sZ
 have o:a*aj A.c+cn<A.aZ (ah ws):=by
  show _<max 1 (ah ws*aj A.c);omega
 rw[e];refine⟨ax,ax,?_⟩
 rw[W1 b d ax ax g h,aC ax,jT,show(a*aj A.c+cn)/aj A.c=a from by rw[mY,Nat.mul_add_div ax,Nat.div_eq_of_lt ax,Nat.add_zero],show(a*aj A.c+cn)%aj A.c=cn from by rw[mY,Nat.mul_add_mod,Nat.mod_eq_of_lt ax]]
def js.MU (h:js A L ws) (hA:A.Ok):1<=ah ws/\ix ws 0=[]:=by
 obtain⟨w,hw,e⟩:=h.all [] .nil;have hle:=h.WX w hw [] .nil e.symm;have Om:w=[]:=by
  have:bD [] w<=0:=by
   unfold bD;split
   .omega
   .split
    .rename_i h1;simp at h1
    .rename_i h1 h2
     have:w=[]:=by cases w with
      |nil=>rfl
      |cons a w=>simp at h1
     subst this;simp[dx]
  exact FW hle this
 subst Om;have hp:=List.length_pos_of_mem hw;refine⟨hp,?_⟩;cases ws with
 |nil=>simp at hp
 |cons x l=>
  have hx:x=[]:=by
   rcases cC.1 hw with e|hw
   .exact e.symm
   .have:=(jV.1 h.vI).1 [] hw
    unfold bD at this;split at this
    .rename_i h1;simp at h1
    .split at this
     .omega
     .cases x with
      |nil=>rfl
      |cons a x=>rename_i h1 h2;simp at h2
  rw[hx];rfl
def js.MV (h:js A L ws){s:Int}(s0:0<=s) (s1:s<(ah ws:Int)):Ww A (ix ws s):=h.ww _ (bh s0 s1)
def ao5 (h:js A L ws) (z:A.Ok) (G:1<=A.c+A.i+A.r) (H:ah ws<=128) (P:ah ws*aj A.c<=128):(cO A L ws).Ok:=by
 have B:=z.p;have C:=z.s;obtain⟨n,I,J,K,M⟩:=CN (A:=A) (L:=L) (ws:=ws);have N:=(h.MU z).1;have D:A.aZ (ah ws)=max 1 (ah ws*aj A.c):=rfl;have q:(cO A L ws).aL=(A.aZ (ah ws):Int):=rfl;refine⟨⟨B.1,?_⟩,⟨B.2.1,?_⟩,⟨B.2.2,?_⟩,⟨G,C⟩,⟨by rw[q];omega,by rw[q];omega⟩,⟨by rw[n];omega,by rw[n];omega⟩,⟨Int.le_refl _,?_⟩,⟨by rw[n,I],by rw[n,J],by rw[n,K],by rw[n,M]⟩,λs l j=>?_,λs c l j u o=>?_,λs c l j u o=>?_,λs c l j u o=>?_,λs g l j E w=>?_,λs g r l j E w F y=>?_⟩
 .show A.c<=64;omega
 .show A.i<=64;omega
 .show A.r<=64;omega
 .show(0:Int)<_;rw[n];omega
 .rw[n]at j
  obtain⟨a,b,c,d⟩:=ao3 (A:=A) (L:=L) l j;refine⟨?_,?_,?_,?_⟩
  .rw[a];show((aj A.c:Nat):Int)=A.c;omega
  .rw[b];show((aj A.c:Nat):Int)=A.c;omega
  .rw[c];show((aj A.i:Nat):Int)=A.i;omega
  .rw[d];rfl
 .rw[n]at j ⊢
  rw[(zQ l j u o).1];omega
 .rw[n]at j
  rw[(zQ l j u o).2]
  by_cases O:0<A.r
  .have:=W2 (A:=A) (L:=L) l j l j u o (r:=0) ax O
   exact⟨this.1,this.2.1⟩
  .-- no returns
   obtain⟨x,rfl⟩:∃x:Nat,s=x:=⟨aj s,ax⟩
   obtain⟨cn,rfl⟩:∃cn:Nat,c=cn:=⟨aj c,ax⟩
   have o:(cn:Int)<A.c:=o;have e:(x:Int)*A.c+(cn:Int)=((x*aj A.c+cn:Nat):Int):=s3
   have H:x*aj A.c+aj A.c<=ah ws*aj A.c:=sZ
   rw[e,q,D];omega
 .rw[n]at j ⊢
  rw[W0 l j u o];have:=r6 h (.bp _ c u o (h.MV l j));exact⟨this.1,this.2.1⟩
 .rw[n]at j
  rw[ao4 l j E w];show((aj A.r:Nat):Int)=A.r;omega
 .rw[n]at j ⊢
  rw[W1 l j E w F y];split
  .omega
  .rename_i Q
   have w:g<(A.aZ (ah ws):Int):=w;have R:=Nat.mod_lt (aj g) (show 0<aj A.c by omega)
   have hd:aj g/aj A.c<ah ws:=by
    rw[vQ ax]
    have:1<=ah ws*aj A.c:=Nat.mul_pos N ax
    omega
   have y:r<A.r:=y;generalize (aj g)/aj A.c=d at *;generalize (aj g)%aj A.c=m at *;have:=r6 h (.aQ (ix ws ((d:Nat):Int)) (ix ws s) ((m:Nat):Int) r ax ax F y (h.MV ax ax) (h.MV l j))
   exact⟨this.1,this.2.1⟩
def Ww.app{u v:ak}(hu:Ww A u) (hv:Ww A v):Ww A (u++v):=by
 induction hv with
 |nil=>simpa using hu
 |bp w i h0 h1 _ ih=>rw[<-List.append_assoc];exact .bp _ i h0 h1 ih
 |aQ w x c r h0 h1 h2 h3 _ hx qG _=>rw[<-List.append_assoc];exact .aQ _ x c r h0 h1 h2 h3 qG hx
variable{w:ak}
def ao6 (h:js A L ws) (C:A.Ok)(l:Ww A w):∀u,Ww A u->Wd (cO A L ws).bZ (iO A L ws u) (iO A L ws (u++w)) w:=by
 induction l with
 |nil=>intro u d;rw[List.append_nil];exact .nil _
 |bp w i m n l D=>
  intro u d;have a:=d.app l;have r:=r6 h a;refine(D u d).app ?_;have e:(cO A L ws).bZ.aH (iO A L ws (u++w)) i=iO A L ws (u++(w ++ [A.c+i])):=by
   show ix (ix (cO A L ws).aH _) i=_;rw[W0 r.1 r.2.1 m n];refine(WZ h (.bp _ i m n (h.MV r.1 r.2.1)) ?_).2 ?_
   .rw[<-List.append_assoc];exact .bp _ i m n a
   .rw[<-List.append_assoc];exact r.2.2.symm.bp m n
  have:=Wd.bp (M:=(cO A L ws).bZ) (iO A L ws (u++w)) i (iO A L ws (u++(w ++ [A.c+i]))) [] m n (by rw[e];exact .nil _)
  exact this
 |aQ w y c r g j o p l B s x=>
  intro u d;have a:=d.app l;have q:=r6 h a;have b:=r6 h B;have E:=h.MU C;refine(s u d).app ?_;have z:=x [] .nil;rw[rB]at z;have e0:iO A L ws []=0:=zP h .nil ax ax (by rw[E.2];exact kU.refl _)
  rw[e0]at z;have ec:=zQ (A:=A) (L:=L) q.1 q.2.1 g j;have F:=W2 (A:=A) (L:=L) b.1 b.2.1 q.1 q.2.1 g j o p;have e:(cO A L ws).bZ.aP (iO A L ws y) ((cO A L ws).bZ.call (iO A L ws (u++w)) c).2 r=iO A L ws (u++(w++c::(y ++ [A.c+A.i+r]))):=by
   show ix (ix (ix (cO A L ws).aP (iO A L ws y)) (ix (ix (cO A L ws).push (iO A L ws (u++w))) c)) r=_;rw[ec.2,F.2.2];refine(WZ h (.aQ _ _ c r g j o p (h.MV q.1 q.2.1) (h.MV b.1 b.2.1)) ?_).2 ?_
   .rw[<-List.append_assoc];exact .aQ _ y c r g j o p a B
   .rw[<-List.append_assoc];exact q.2.2.symm.aQ b.2.2.symm g j o p a (h.MV b.1 b.2.1)
  have:=Wd.call (M:=(cO A L ws).bZ) (iO A L ws (u++w)) c (iO A L ws y) r (iO A L ws (u++(w++c::(y ++ [A.c+A.i+r])))) y [] g j o p (by rw[show((cO A L ws).bZ.call (iO A L ws (u++w)) c).1=0 from ec.1];exact z) (by rw[e];exact .nil _)
  exact this
def W3 (h:js A L ws)(a:Ww A w):ix (cO A L ws).az (iO A L ws w)=ad↔L w:=by
 have q:=r6 h a;show ix ((af (ah ws)).map λ(i:Nat)=>@decide (L (ix ws (i:Int))) (Classical.propDecidable _)) _=ad↔_;rw[jd q.1 q.2.1,show((aj (iO A L ws w):Nat):Int)=iO A L ws w by omega]
 rw[@decide_eq_true_eq _ (Classical.propDecidable _)];exact q.2.2.acc.symm
end
end Ab
namespace Ab
abbrev aS.dB (n:aS):kT:=⟨n.ay,n.aG,n.aM⟩
def aS.bT (n:aS) (w:ak):Prop:=∃t,Wd n.bZ n.aF t w/\ix n.az t=ad
def aS.Ok.dB{n:aS}(h:n.Ok):n.dB.Ok:=⟨⟨h.ay.1,h.aG.1,h.aM.1⟩,h.syms.2⟩
def vP (n:aS) (k:ak):Prop:=ah k=ah n.bQ/\∃w,Ww n.dB w/\∀j:Nat,j<ah n.bQ->Wd n.bZ (ix n.bQ (j:Int)) (ix k (j:Int)) w
variable{plc:ak}
def ao7{n:aS}(g:n.Ok){m:ak}(o:Dq n plc){t c r:Int}{u:ak}(h:0<=t) (p:t<(ah n.az:Int)) (i:0<=c) (q:c<n.ay) (s:0<=r) (w:r<n.aM) (x:∀j:Nat,j<ah n.bQ->Wd n.bZ (ix n.bQ (j:Int)) (ix m (j:Int)) u):Wd n.bZ t (n.rU plc m c r t) (c::(u ++ [n.ay+n.aG+r])):=by
 have b:ix (ix n.call t) c∈n.bQ:=by
  have y:=(g.row t h p).1;have z:=g.lens;exact tC.2 (.inr ⟨_,bh h ax,bh i ax⟩)
 obtain⟨j,a,d⟩:=fY.1 b;have e:=o.Fl j a;rw[bt a,d]at e;have l:=x j a;rw[bt a,d]at l;have:=Wd.call (M:=n.bZ) t c (ix m (j:Int)) r _ u [] i q s w l (.nil _);rw[show n.rU plc m c r t=n.bZ.aP (ix m (j:Int)) (n.bZ.call t c).2 r from by
  unfold aS.rU;rw[e];rfl]
 exact this
def ao8{n:aS}(a:n.Ok){k:ak}(h:vP n k):n.u7 k:=λs b=>by
 obtain⟨g,w,_,d⟩:=h;obtain⟨j,e,rfl⟩:=fY.1 b;have:=d j ax
 rw[bt e,bt (show j<ah n.bQ by omega)]at this
 exact this.range (rR a) (wY a _ (List.getElem_mem _))
def ao9{n:aS}(p:n.Ok)(A:Dq n plc):G0 (vP n) n plc:=by
 refine⟨λk d i q i1=>?_,λk m d B c r s x y z=>?_⟩
 .obtain⟨e,w,g,h⟩:=d
  refine⟨iT,_,.bp w i q i1 g,λj a=>?_⟩
  rw[kv ax ax]
  exact(h j a).app (.bp _ i _ [] q i1 (.nil _))
 .have C:=ao8 p d
  obtain⟨e,w,g,h⟩:=d;obtain⟨D,u,E,o⟩:=B;refine⟨iT,_,.aQ w u c r s x y z g E,λj a=>?_⟩
  rw[kv ax ax]
  have b:=C _ (bh (l:=k) (n:=(j:Int)) ax ax)
  exact(h j a).app (ao7 p A b.1 b.2 s x y z o)
def apa{n:aS}:vP n n.bQ:=⟨rfl,[],.nil,λj _=>.nil _⟩
section
variable{n:aS}{D:Vd}{cls:ak}{k:Nat}
variable{x:Int}{w:ak}
def Dv.ww (hd:D.n=n)(h:Dv D x w):Ww n.dB w:=by
 subst hd
 induction h with
 |nil=>exact .nil
 |bp x i w i0 i1 _ ih=>exact .bp w i i0 i1 ih
 |aQ x c y r w u c0 c1 r0 r1 _ _ qG rL=>exact .aQ w u c r c0 c1 r0 r1 qG rL
def vq (hd:D.n=n)(h:Ww n.dB w):∃x,Dv D x w:=by
 subst hd
 induction h with
 |nil=>exact⟨0,.nil⟩
 |bp w i e i1 _ g=>obtain⟨x,a⟩:=g;exact⟨_,.bp x i w e i1 a⟩
 |aQ w u c r j l m o _ _ b d=>
  obtain⟨x,a⟩:=b;obtain⟨y,p⟩:=d;exact⟨_,.aQ x c y r w u j l m o a p⟩
def Ao.word (h:Ao (vP n) n D cls k){x:Nat}(hx:x<ah D.K):∃w,Dv D x w:=by
 have hn:=h.d.n;have mz : n=D.n:=hn.symm;obtain⟨hl,w,hw,hj⟩:=h.d.v.kx hx;obtain⟨y,hy⟩:=vq hn hw;have hD:=q7 h.d.v h.f;have ry:=hy.gi hD;have ky:=h.d.v.ok.kx (x:=aj y) ax
 refine⟨w,?_⟩;have e:ix D.K (x:Int)=ix D.K (aj y:Int):=by
  refine wQ (by rw[ky.2,hl,hn]) λj j0 j1=>?_
  have h1:=hj (aj j) ax
  have h2:=hy.wd h.d.v h.f h.d.p (aj j) (by rw[hn];omega)
  rw[show((aj j:Nat):Int)=j by omega]at h1 h2
  rw[show((aj y:Nat):Int)=y by omega]
  rw[hn]at h2;exact Wd.rq (M:=n.bZ) (hn▸h.d.v.ok.ok.m0) h1 h2
 rw[bt hx,bt (show (aj y)<ah D.K by omega)]at e
 have:=(List.getElem_inj h.d.v.nd).1 e;rw[show(x:Int)=y by omega]
 exact hy
def Ao.bT (h:Ao (vP n) n D cls k)(hx:Dv D x w):n.bT w↔D.ac D.jP x=ad:=by
 have hn:=h.d.n;have hs:D.n.aF∈D.n.bQ:=tC.2 (.inl rfl);obtain⟨m,CL,Hd⟩:=fY.1 hs;have WW:=h.d.p.Fl m CL;have hw:=hx.wd h.d.v h.f h.d.p m CL;rw[bt CL,Hd]at WW hw;have e:D.ac D.jP x=ix D.n.az (ix (ix D.K x) (m:Int)):=by unfold Vd.ac Vd.jP;rw[WW]
 rw[e];have dR:=h.d.v.ok.ok;subst hn;constructor
 .rintro⟨t,ht,ha⟩
  rw[hw.rq dR.m0 ht];exact ha
 .exact λha=>⟨_,hw,ha⟩
def Ao.alk (h:Ao (vP n) n D cls k){y:Int}{u v:ak}(hx:Dv D x u) (hy:Dv D y v):kU n.dB n.bT u v↔ix cls x=ix cls y:=by
 have hD:=q7 h.d.v h.f;have hn:=h.d.n;have key:∀{x y:Int},zB D D.jP x y->∀u v,Dv D x u->Dv D y v->Sep n.dB n.bT u v:=by
  intro x y hs
  induction hs with
  |acc x y ha=>
   intro u v hu hv;refine .acc _ _ λe=>ha ?_;rw[h.bT hu,h.bT hv]at e;cases h1:D.ac D.jP x<;>cases h2:D.ac D.jP y<;>simp_all
  |bp x y i i0 i1 _ ih=>
   intro u v hu hv;have:=ih _ _ (.bp x i u i0 i1 hu) (.bp y i v i0 i1 hv);rw[hn]at this i1;exact .bp _ _ i i0 i1 this
  |bl x y c z r c0 c1 z0 z1 r0 r1 _ ih=>
   intro u v hu hv;obtain⟨w,hw⟩:=h.word (x:=aj z) ax
   rw[show((aj z:Nat):Int)=z by omega]at hw
   have:=ih _ _ (.aQ x c z r u w c0 c1 r0 r1 hu hw) (.aQ y c z r v w c0 c1 r0 r1 hv hw);rw[hn]at this c1 r1;exact .bl _ _ w c r c0 c1 r0 r1 (hw.ww hn) this
  |br x y c z r c0 c1 z0 z1 r0 r1 _ ih=>
   intro u v hu hv;obtain⟨w,hw⟩:=h.word (x:=aj z) ax
   rw[show((aj z:Nat):Int)=z by omega]at hw
   have:=ih _ _ (.aQ z c x r w u c0 c1 r0 r1 hw hu) (.aQ z c y r w v c0 c1 r0 r1 hw hv);rw[hn]at this c1 r1;exact .br _ _ w c r c0 c1 r0 r1 (hw.ww hn) this
 have back:∀{u v:ak},Sep n.dB n.bT u v->∀x y,Dv D x u->Dv D y v->ix cls x ≠ ix cls y:=by
  intro u v hs
  induction hs with
  |acc u v ha=>
   intro x y hu hv e;have rx:=hu.gi hD;have ry:=hv.gi hD;have:=h.c.c.ac (aj x) (aj y) ax ax s4
   rw[show((aj x:Nat):Int)=x by omega,show((aj y:Nat):Int)=y by omega]at this
   exact ha (by rw[h.bT hu,h.bT hv,this])
  |bp u v i i0 i1 _ ih=>
   intro x y hu hv e;have rx:=hu.gi hD;have ry:=hv.gi hD;have hg:=h.c.L9 (aj x) (aj y) ax ax s4
   rw[show((aj x:Nat):Int)=x by omega,show((aj y:Nat):Int)=y by omega]at hg
   have i1' : i<D.n.aG:=by rw[hn];exact i1
   have h1:=Dv.bp x i u i0 i1' hu;have h2:=Dv.bp y i v i0 i1' hv;rw[hn]at h1 h2;exact ih _ _ h1 h2 (hg.i i i0 i1')
  |bl u v w c r c0 c1 r0 r1 hw _ ih=>
   intro x y hu hv e;have rx:=hu.gi hD;have ry:=hv.gi hD;have hg:=h.c.L9 (aj x) (aj y) ax ax s4
   rw[show((aj x:Nat):Int)=x by omega,show((aj y:Nat):Int)=y by omega]at hg
   obtain⟨z,hz⟩:=vq hn hw;have rz:=hz.gi hD;have Fc : c<D.n.ay:=by rw[hn];exact c1
   have MW : r<D.n.aM:=by rw[hn];exact r1
   have h1:=Dv.aQ x c z r u w c0 Fc r0 MW hu hz;have h2:=Dv.aQ y c z r v w c0 Fc r0 MW hv hz;rw[hn]at h1 h2;exact ih _ _ h1 h2 (hg.l c z r c0 Fc rz.1 rz.2 r0 MW)
  |br u v w c r c0 c1 r0 r1 hw _ ih=>
   intro x y hu hv e;have rx:=hu.gi hD;have ry:=hv.gi hD;have hg:=h.c.L9 (aj x) (aj y) ax ax s4
   rw[show((aj x:Nat):Int)=x by omega,show((aj y:Nat):Int)=y by omega]at hg
   obtain⟨z,hz⟩:=vq hn hw;have rz:=hz.gi hD;have Fc : c<D.n.ay:=by rw[hn];exact c1
   have MW : r<D.n.aM:=by rw[hn];exact r1
   have h1:=Dv.aQ z c x r w u c0 Fc r0 MW hz hu;have h2:=Dv.aQ z c y r w v c0 Fc r0 MW hz hv;rw[hn]at h1 h2;exact ih _ _ h1 h2 (hg.r c z r c0 Fc rz.1 rz.2 r0 MW)
 constructor
 .intro ha
  refine dP λe=>ha ?_;have rx:=hx.gi hD;have ry:=hy.gi hD;have:=h.c.c.sep (aj x) (aj y) ax ax
  rw[show((aj x:Nat):Int)=x by omega,show((aj y:Nat):Int)=y by omega]at this
  exact key (this e) _ _ hx hy
 .exact λe hs=>back hs _ _ hx hy e
structure On (D:Vd) (cls:ak) (k:Nat) (l:List jz):Prop where
 len:ah l=k
 cl:∀i:Nat,i<k->(ix l (i:Int)).1=i
 w:∀i:Nat,i<k->(∃x,Dv D x (ix l (i:Int)).2.2/\ix cls x=i)/\∀y v,Dv D y v->ix cls y=i->bD (ix l (i:Int)).2.2 v<=0
def Ao.W4 (h:Ao (vP n) n D cls k):∃l,On D cls k l:=by
 have hD:=q7 h.d.v h.f;have hA:=h.d.v.ok.ok.dB;have:∀i:Nat,i<k->∃w,(∃x,Dv D x w/\ix cls x=i)/\∀v,(∃y,Dv D y v/\ix cls y=i)->bD w v<=0:=λi hi=>by
  have hoc:=h.c.c.can.occ (i:Int) ax ax
  obtain⟨x,hx,e⟩:=fY.1 hoc;obtain⟨w,hw⟩:=h.word (x:=x) (by rw[<-h.c.c.len];exact hx)
  exact ao2 (P:=λw=>∃x,Dv D x w/\ix cls x=i) (λw ⟨x,hx,_⟩=>(hx.ww rfl).sy hA) ⟨x,hw,by rw[bt hx];exact e⟩
 refine⟨(af k).map λ(i:Nat)=>((i:Int),0,if hi:i<k then Classical.choose (this i hi)else[]),aA,λi hi=>?_,λi hi=>?_⟩
 .rw[jd ax ax];simp
 .rw[jd ax ax]
  dsimp only;rw[Int.toNat_natCast,dif_pos hi];have:=Classical.choose_spec (this i hi);exact⟨this.1,λy v hy e=>this.2 v ⟨y,hy,e⟩⟩
def On.FX (h:Ao (vP n) n D cls k){l:List jz}(hl:On D cls k l):js n.dB n.bT ((dY l).map λc=>c.2.2):=by
 have hn:=h.d.n;have hD:=q7 h.d.v h.f;have hp:=r3 l;have rp:(l.map λc=>c.2.2).Nodup:=by
  rw[List.Nodup,rI];intro i j hi hj xW e;simp only[db]at hi hj;simp only[gq]at e;rw[<-bt hi,<-bt hj]at e;have hlen:=hl.len;obtain⟨⟨x,hx,ex⟩,_⟩:=hl.w i ax
  obtain⟨⟨y,hy,ey⟩,_⟩:=hl.w j ax
  rw[e]at hx;rw[Dv.rq h.d.v h.f h.d.p hx hy,ey]at ex;omega
 have na:∀w,w∈((dY l).map λc=>c.2.2)->∃i:Nat,i<k/\(ix l (i:Int)).2.2=w:=λw hw=>by
  obtain⟨c,hc,rfl⟩:=cJ.1 hw;obtain⟨i,hi,e⟩:=fY.1 (hp.mem_iff.1 hc);exact⟨i,by rw[<-hl.len];exact hi,by rw[bt hi,e]⟩
 refine⟨?_,λw hw=>?_,λw hw v hv ha=>?_,λv hv=>?_⟩
 .rw[List.pairwise_map]
  exact MI rp
 .obtain⟨i,hi,rfl⟩:=na w hw
  obtain⟨⟨x,hx,_⟩,_⟩:=hl.w i hi;exact hx.ww hn
 .obtain⟨i,hi,rfl⟩:=na w hw
  obtain⟨⟨x,hx,ex⟩,FY⟩:=hl.w i hi;obtain⟨y,hy⟩:=vq hn hv;exact FY y v hy (by rw[<-(h.alk hx hy).1 ha,ex])
 .obtain⟨y,hy⟩:=vq hn hv
  have ry:=hy.gi hD;have hc:=h.c.c.can.gi _ (bh (l:=cls) ry.1 (by rw[h.c.c.len];exact ry.2))
  obtain⟨⟨x,hx,ex⟩,FY⟩:=hl.w (aj (ix cls y)) ax
  refine⟨_,cJ.2 ⟨ix l (aj (ix cls y):Int),hp.mem_iff.2 (bh ax (by have:=hl.len;omega)),rfl⟩,?_⟩
  exact(h.alk hy hx).2 (by rw[ex];omega)
end
open Classical in
noncomputable def zR (A:kT) (L:ak->Prop) (ws:al):aS×Int:=
 if 128<ah ws\/128<ah ws*aj A.c then(zN,11)
 else if ∃w∈ws,1024<ah w then(zN,3)
 else(cO A L ws,0)
variable{l:List jz}
def On.MX{D:Vd}{cls:ak}{k:Nat}(h:On D cls k l):ah ((dY l).map λc=>c.2.2)=k:=by
 rw[db,(r3 l).length_eq,h.len]
def Ap.W4{n:aS}{D:Vd}{cls:ak}{k:Nat}{S:Fd}(h:Ap (vP n) n D cls k S l) (hn:l.any neg=ae):On D cls k l:=by
 have hv:∀i:Nat,i<ah l->0<=(ix l (i:Int)).2.1:=λi hi=>by
  have:=List.any_eq_false.1 hn _ (bh (l:=l) (n:=(i:Int)) ax ax)
  simp[neg]at this;exact this
 have hlen:=h.l.len;have hD:=q7 h.c.d.v h.c.f;refine⟨hlen,h.l.cl,λi hi=>?_⟩;obtain⟨a1,a2,a3,a4⟩:=h.wd hi (hv i ax)
 refine⟨⟨_,a3.1,a2⟩,λy v hy ec=>?_⟩;have ry:=hy.gi hD;obtain⟨u,hu,ui⟩:=VW hD (by have:=h.c.d.v.ok.ok.syms;omega) hy
 have om:=hu.2 v hy
 by_cases hs:ah u<=1024
 .have hf:ix S.F y=ad:=(h.s.fd y ry.1 (by rw[h.s.l];exact ry.2)).2 ⟨u,hu,ax⟩
  have hw:=h.s.lw y u hu ax
  have:=(h.l.yes i hi (hv i ax)).2 (aj y) ax (by rw[show((aj y:Nat):Int)=y by omega];exact ec) (by rw[show((aj y:Nat):Int)=y by omega];exact hf)
  rw[show((aj y:Nat):Int)=y by omega]at this
  unfold Fd.wd at this;rw[hw]at this;exact dO.trans _ _ _ this om
 .refine dO.trans _ _ _ ?_ om
  unfold bD;rw[aD ax];omega
def apb{n:aS}{D:Vd}{cls:ak}{k:Nat}{S:Fd}{st:ak}(h:Ap (vP n) n D cls k S l) (Q:l.any neg=ae) (V:ah st=ah l) (W:∀i:Nat,i<ah l->ix st (yi (dY l) i)=i):vk D cls (dY l) st=cO n.dB n.bT ((dY l).map λc=>c.2.2):=by
 have I:=h.W4 Q;have X:=I.FX h.c;have J:=r3 l;have z:ah (dY l)=ah l:=J.length_eq;have hlen:=h.l.len;have Y:=q7 h.c.d.v h.c.f;have b:=h.c.d.n;have Z:∀i:Nat,i<ah l->0<=(ix l (i:Int)).2.1:=λi m=>by
  have:=List.any_eq_false.1 Q _ (bh (l:=l) (n:=(i:Int)) ax ax)
  simp[neg]at this;exact this
 generalize B:((dY l).map λc=>c.2.2)=ws at *;have o:ah ws=ah l:=by rw[<-B,db,z]
 have K:∀i:Nat,i<ah l->ix ws (i:Int)=(ix (dY l) (i:Int)).2.2:=λi m=>by rw[<-B];exact kv ax ax
 -- each state
 have u:∀i:Nat,i<ah l->Dv D (zJ (dY l) i) (ix ws (i:Int))/\ix cls (zJ (dY l) i)=yi (dY l) i:=λi m=>by
  have G:=J.mem_iff.1 (bh (l:=dY l) (n:=(i:Int)) ax ax)
  obtain⟨j,C,e⟩:=fY.1 G;rw[<-bt C]at e;obtain⟨a1,a2,a3,a4⟩:=h.wd (i:=j) ax (Z j C)
  rw[K i m];unfold zJ yi;rw[<-e,a2,h.l.cl j ax]
  exact⟨a3.1,rfl⟩
 have L:∀q:Int,0<=q->q<(k:Int)->∃p:Nat,p<ah l/\yi (dY l) p=q:=λq q0 q1=>by
  have G:=J.mem_iff.2 (bh (l:=l) (n:=q) q0 ax)
  obtain⟨p,M,e⟩:=fY.1 G;refine⟨p,ax,?_⟩
  unfold yi;rw[bt M,e];have:=h.l.cl (aj q) ax
  rw[show((aj q:Nat):Int)=q by omega]at this
  exact this
 have w:∀y v,Dv D y v->ZW st cls y=iO n.dB n.bT ws v:=λy v N=>by
  have R:=N.gi Y;have A:=h.c.c.c.can.gi _ (bh (l:=cls) R.1 (by rw[h.c.c.c.len];exact R.2))
  obtain⟨p,E,F⟩:=L _ A.1 A.2;unfold ZW;rw[<-F,W p E]
  symm
  refine zP X (N.ww b) ax ax ?_
  obtain⟨b1,b2⟩:=u p E;exact(h.c.alk N b1).2 (by rw[b2,F])
 have x:D.n.aZ (ah l)=n.dB.aZ (ah ws):=by
  show max 1 (ah l*aj D.n.ay)=max 1 (ah ws*aj n.ay);rw[o,b]
 have e1:(af (ah l)).map (λi=>D.ac D.jP (zJ (dY l) i))=(af (ah ws)).map λ(i:Nat)=>@decide (n.bT (ix ws (i:Int))) (Classical.propDecidable _):=by
  rw[o];refine fm λi m=>?_;have m:=cE.1 m;have H:=h.c.bT (u i m).1;cases T:D.ac D.jP (zJ (dY l) i)with
  |true=>rw[T]at H;exact(@decide_eq_true _ (Classical.propDecidable _) (H.2 rfl)).symm
  |false=>rw[T]at H;exact(@decide_eq_false _ (Classical.propDecidable _) λa=>by simp[H]at a).symm
 have e2:(D.n.eN (ah l) (ah l)).call=ag (ah ws) (ag (aj n.ay) 0):=by rw[o,b];rfl
 have e3:(D.n.eN (ah l) (ah l)).push=(af (ah ws)).map λ(s:Nat)=>(af (aj n.ay)).map λ(c:Nat)=>(s:Int)*n.ay+(c:Int):=by rw[o,b];rfl
 have e4:(af (ah l)).map (λi=>(af (aj D.n.aG)).map λj=>FN D cls (dY l) st i j)=(af (ah ws)).map λ(i:Nat)=>(af (aj n.aG)).map λ(j:Nat)=>iO n.dB n.bT ws (ix ws (i:Int) ++ [n.ay+(j:Int)]):=by
  rw[o];refine fm λi m=>?_;have m:=cE.1 m;rw[b];refine fm λj C=>?_;have C:=cE.1 C;have hd:=Dv.bp _ (j:Int) _ ax (by rw[b];omega) (u i m).1
  have:=w _ _ hd;rw[b]at this;exact this
 have e5:(af (ah l)).map (λi=>(af (D.n.aZ (ah l))).map λg=>(af (aj D.n.aM)).map λr=>xg D cls (dY l) st i g r)=(af (ah ws)).map λ(i:Nat)=>(af (n.dB.aZ (ah ws))).map λ(g:Nat)=>(af (aj n.aM)).map λ(r:Nat)=>if (aj n.ay)=0 then 0 else iO n.dB n.bT ws (ix ws ((g/aj n.ay:Nat):Int)++((g%aj n.ay:Nat):Int)::(ix ws (i:Int) ++ [n.ay+n.aG+(r:Int)])):=by
  rw[x,o];refine fm λi m=>?_;have m:=cE.1 m;refine fm λg O=>?_;have O:=cE.1 O;rw[b];refine fm λr U=>?_;have U:=cE.1 U;unfold xg;rw[b]
  by_cases A:aj n.ay=0
  .rw[aD A,aD A]
  .rw[aC A,aC A]
   have G:=Nat.mod_lt g (show 0<aj n.ay by omega)
   have NU : g<max 1 (ah l*aj n.ay):=O;have h0:1<=ah l*aj n.ay:=Nat.mul_pos ax ax
   have P:g/aj n.ay<ah l:=by
    rw[vQ ax]
    omega
   have hd:=Dv.aQ _ ((g%aj n.ay:Nat):Int) _ (r:Int) _ _ ax (by rw[b];omega) ax (by rw[b];omega) (u _ P).1 (u i m).1
   have:=w _ _ hd;rw[b]at this;exact this
 have e6:((D.n.aZ (ah (dY l)):Nat):Int)=((n.dB.aZ (ah ws):Nat):Int):=by rw[z,x]
 unfold vk cO;rw[z]at *;rw[e1,e2,e3,e4,e5,e6,b]
def Dw.out{n r:aS}{e:Int}(h:Dw (vP n) n r e) (hv:n.bI=0) (hb:∀D,Ol (vP n) n D->ah D.K<=512):∃ws,js n.dB n.bT ws/\(r,e)=zR n.dB n.bT ws:=by
 cases h with
 |inv h=>exact absurd hv h
 |many D _ hd hk=>have:=hb D hd;omega
 |eE D cls k _ hc hk=>
  obtain⟨l,hl⟩:=hc.W4;refine⟨_,hl.FX hc,?_⟩;unfold zR;rw[hl.MX,aD hk]
 |MQ D cls k S l _ hL hn=>
  obtain⟨l', kB⟩:=hL.c.W4;refine⟨_,kB.FX hL.c,?_⟩;have hD:=q7 hL.c.d.v hL.c.f;unfold zR;have hkb:=hL.kb;rw[kB.MX,aC (by show ¬(128<k\/128<k*aj n.ay);omega),aD]
  obtain⟨c,hc,W5⟩:=List.any_eq_true.1 hn;simp[neg]at W5;obtain⟨i,hi,e⟩:=fY.1 hc;rw[<-bt hi]at e;have hlen:=hL.l.len;obtain⟨_,HM⟩:=hL.l.no i ax (by rw[e];exact W5)
  obtain⟨⟨x,hx,ex⟩,FY⟩:=kB.w i ax
  have rx:=hx.gi hD;refine⟨_,cJ.2 ⟨ix l' (i:Int),(r3 l').mem_iff.2 (bh ax (by have:=kB.len;omega)),rfl⟩,dP λhsm=>?_⟩
  have hf:=(hL.s.fd x rx.1 (by rw[hL.s.l];exact rx.2)).2 ⟨_,⟨hx,λv hv=>FY x v hv ex⟩,ax⟩
  have:=HM (aj x) ax (by rw[show((aj x:Nat):Int)=x by omega];exact ex)
  rw[show((aj x:Nat):Int)=x by omega,hf]at this
  simp at this
 |ok D cls k S l st _ hL hn h1 h2=>
  have VJ:=hL.W4 hn;refine⟨_,VJ.FX hL.c,?_⟩;have hkb:=hL.kb;unfold zR;rw[VJ.MX,aC (by show ¬(128<k\/128<k*aj n.ay);omega),aC,apb hL hn h1 h2]
  rintro⟨w,hw,cw⟩;obtain⟨c,hc,rfl⟩:=cJ.1 hw;obtain⟨i,hi,e⟩:=fY.1 ((r3 l).mem_iff.1 hc);have hlen:=hL.l.len;have qE:=List.any_eq_false.1 hn _ (bh (l:=l) (n:=(i:Int)) ax ax)
  simp[neg]at qE;have:=(hL.wd (i:=i) ax qE).2.2.2
  rw[bt hi,e]at this;omega
def tM (m:Nat):Nat->al
 |0=>[[]]
 |e+1=>(af m).flatMap λ(x:Nat)=>(tM m e).map λv=>(x:Int)::v
def MY{m:Nat}:∀e,ah (tM m e)=m^e
 |0=>rfl
 |e+1=>by
  have b:=MY (m:=m) e;have:∀k:Nat,ah ((af k).flatMap λ(x:Nat)=>(tM m e).map λv=>(x:Int)::v)=k*m^e:=by
   intro k
   induction k with
   |zero=>simp
   |succ k a=>rw[kL,List.flatMap_append,bM,a,fG];simp[b]
  unfold tM;rw[this m,Nat.pow_succ,mY]
def MZ{m:Nat}:∀{e:Nat}{k:ak},ah k=e->(∀x∈k,0<=x/\x<(m:Int))->k∈tM m e
 |0,[],_,_=>by simp[tM]
 |e+1,x::k,a,h=>by
  have d:=h x aA
  unfold tM;rw[oF];exact⟨aj x,by rw[cE];omega,cJ.2 ⟨k,MZ iQ λy b=>h y fS,by rw[show((aj x:Nat):Int)=x by omega]⟩⟩
def Ol.W6{n:aS}{D:Vd}(h:Ol (vP n) n D):ah D.K<=ah n.az^ah n.bQ:=by
 have:=zL (l:=D.K) (L:=tM (ah n.az) (ah n.bQ)) h.v.nd λk hk=>by
  obtain⟨h1,h2⟩:=h.v.ok.st k hk;rw[h.n]at h1 h2;exact MZ h2 h1
 rw[MY]at this;exact this
end Ab
