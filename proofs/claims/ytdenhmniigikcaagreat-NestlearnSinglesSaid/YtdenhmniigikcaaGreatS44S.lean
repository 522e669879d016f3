/- First words by the document's table; and what it leans on. Condition: none. -/
import Derived.Test.YtdenhmniigikcaaGreatS44F
import Derived.Test.YtdenhmniigikcaaGreatS44L
set_option linter.all false
set_option maxRecDepth 100000
set_option maxHeartbeats 4000000
namespace Ab
abbrev TO:=Int->Int->Option (List Int)
inductive MI (M:fX) (T:TO) (s t:Int):List Int->Prop
 |aQ (i:Int) (x:List Int):0<=i->i<M.ak->T (M.inner s i) t=some x->MI M T s t ((M.calls+i)::x)
 |call (c p r:Int) (x y:List Int):0<=c->c<M.calls->0<=p->p<(M.size:Int)->0<=r->r<M.ah->T (M.call s c).1 p=some x->T (M.pop p (M.call s c).2 r) t=some y->MI M T s t (c::(x++(M.calls+M.ak+r)::y))
def dI (M:fX) (s:Int):Prop:=0<=s/\s<(M.size:Int)
def Va (M:fX) (T:TO):Prop:=∀s t w,dI M s->dI M t->T s t=some w->Wd M s t w/\w.length<=1024
variable{t:Int}{w:List Int}
def MI.wd{M:fX}(hM:M.Ok){T:TO}(hT:Va M T){s:Int}(hs:dI M s) (ht:dI M t) (h:MI M T s t w):Wd M s t w:=by
 cases h with
 |aQ i x h0 h1 h2=>exact .aQ s i t x h0 h1 (hT _ _ _ (hM.inner s i hs.1 hs.2 h0 h1) ht h2).1
 |call c p r x y c0 c1 p0 p1 r0 r1 h1 h2=>
  have hc:=hM.call s c hs.1 hs.2 c0 c1;have hp:=hM.pop s c p r hs.1 hs.2 c0 c1 p0 p1 r0 r1;exact .call s c p r t x y c0 c1 r0 r1 (hT _ _ _ hc ⟨p0,p1⟩ h1).1 (hT _ _ _ hp ht h2).1
def MJ (l:Option (List Int)) (w:List Int):Option (List Int):=if 1024<w.length then l else match l with
 |none=>some w
 |some x=>if aI x w<=0 then some x else some w
variable{l:Option (List Int)}{x:List Int}
def anT(h:MJ l w=some x):l=some x\/(x=w/\x.length<=1024):=by
 unfold MJ at h;split at h
 .exact .inl h
 .split at h
  .injection h with h;exact .inr ⟨h.symm,by rw[<-h];omega⟩
  .split at h
   .exact .inl h
   .injection h with h;exact .inr ⟨h.symm,by rw[<-h];omega⟩
def Av (l:Option (List Int)) (ws:List (List Int)):Option (List Int):=ws.foldl MJ l
def anU{ws:List (List Int)}:Av l (ws ++ [w])=MJ (Av l ws) w:=by simp[Av]
def Vb{x:List Int}:∀{ws:List (List Int)}{l:Option (List Int)},Av l ws=some x->l=some x\/(x∈ws/\x.length<=1024)
 | [],_,h=>.inl h
 |w::ws,l,h=>by
  rcases Vb (ws:=ws) (l:=MJ l w) h with h|⟨b,a⟩
  .rcases anT h with h|⟨rfl,a⟩
   .exact .inl h
   .exact .inr ⟨ab,a⟩
  .exact .inr ⟨fj,a⟩
abbrev PR:=Int×Int
structure Bs where
 W:TO
 D:Int->Int->Bool
 R:Nat->List PR
def lT (W:TO) (s t:Int) (w:List Int):TO:=λu v=>if u=s/\v=t then some w else W u v
def qJ (R:Nat->List PR) (n:Nat) (p:PR):Nat->List PR:=λk=>if k=n then R k ++ [p]else R k
def xB (D:Int->Int->Bool) (s t:Int):Int->Int->Bool:=λu v=>if u=s/\v=t then true else D u v
def Bs.off (b:Bs) (s t:Int) (x:List Int):Bs:=
 if 1024<x.length\/b.D s t=true then b else match b.W s t with
 |none=>⟨lT b.W s t x,b.D,qJ b.R x.length (s,t)⟩
 |some o=>if o.length<x.length then b else if aI o x<=0 then b else⟨lT b.W s t x,b.D,if x.length<o.length then qJ b.R x.length (s,t)else b.R⟩
structure lZ (M:fX) (P:Int->Int->List Int->Prop) (n:Nat) (b:Bs):Prop where
 snd:∀s t w,dI M s->dI M t->b.W s t=some w->P s t w/\w.length<=1024
 dn:∀s t,dI M s->dI M t->(b.D s t=true↔∃w,kG (P s t)=some w/\w.length<n)
 wd:∀s t,dI M s->dI M t->b.D s t=true->b.W s t=kG (P s t)
 ge:∀s t w,dI M s->dI M t->b.W s t=some w->b.D s t=false->n<=w.length
 ya:∀s t w,dI M s->dI M t->b.W s t=some w->b.D s t=false->(s,t)∈b.R w.length
 low:∀s t k,(s,t)∈b.R k->(dI M s/\dI M t)/\∃w,b.W s t=some w/\w.length<=k
 nd:∀k,(b.R k).Nodup
def qK (b:Bs) (s t:Int) (x:List Int):Prop:=1024<x.length\/b.D s t=true\/∃w,b.W s t=some w/\dS w<=dS x
structure tJ (M:fX) (b c:Bs):Prop where
 D:∀s t,b.D s t=true->c.D s t=true
 W:∀s t w,dI M s->dI M t->b.W s t=some w->∃v,c.W s t=some v/\dS v<=dS w
def tJ.refl{M:fX}(b:Bs):tJ M b b:=⟨λ_ _ h=>h,λ_ _ w _ _ h=>⟨w,h,bd _⟩⟩
def tJ.trans{M:fX}{a b c:Bs}(h:tJ M a b) (k:tJ M b c):tJ M a c:=⟨λs t e=>k.D s t (h.D s t e),λs t w hs ht e=>by
 obtain⟨v,h1,h2⟩:=h.W s t w hs ht e;obtain⟨u,h3,h4⟩:=k.W s t v hs ht h1;exact⟨u,h3,aa⟩⟩
def qK.mono{M:fX}{b c:Bs}(h:tJ M b c){s:Int}(hs:dI M s) (ht:dI M t) (k:qK b s t x):qK c s t x:=by
 rcases k with k|k|⟨w,k1,k2⟩
 .exact .inl k
 .exact .inr (.inl (h.D s t k))
 .obtain⟨v,h1,h2⟩:=h.W s t w hs ht k1
  exact .inr (.inr ⟨v,h1,aa⟩)
section
variable{M:fX}{P:Int->Int->List Int->Prop}{n:Nat}{b:Bs}
variable{t:Int}{x:List Int}
def lZ.off (hP:∀s t w,P s t w->sy w) (h:lZ M P n b){s:Int}(hs:dI M s) (ht:dI M t) (hx:P s t x) (hn:n<=x.length):lZ M P n (b.off s t x)/\tJ M b (b.off s t x)/\qK (b.off s t x) s t x:=by
 have hsx:=hP s t x hx;unfold Bs.off;split
 .rename_i hc
  exact⟨h,.refl _,by rcases hc with hc|hc;exact .inl hc;exact .inr (.inl hc)⟩
 .rename_i hc
  have hl:x.length<=1024:=aa
  have hD:b.D s t=false:=by
   cases e:b.D s t with
   |false=>rfl
   |true=>exact absurd (.inr e) hc
  -- a better word is put in
  have put:∀R:Nat->List PR,(∀k p,p∈b.R k->p∈R k)->(∀k p,p∈R k->p∈b.R k\/(k=x.length/\p=(s,t)))->(s,t)∈R x.length->(∀w,b.W s t=some w->dS x<=dS w/\x.length<=w.length)->(∀k,(R k).Nodup)->lZ M P n ⟨lT b.W s t x,b.D,R⟩/\tJ M b ⟨lT b.W s t x,b.D,R⟩/\qK ⟨lT b.W s t x,b.D,R⟩ s t x:=by
   intro R h1 h2 h3 h4 h5;refine⟨⟨λu v w hu hv e=>?_,h.dn,λu v hu hv e=>?_,λu v w hu hv e e2=>?_,λu v w hu hv e e2=>?_,λu v k e=>?_,h5⟩,⟨λ_ _ e=>e,λu v w hu hv e=>?_⟩,?_⟩
   .dsimp only[lT]at e
    by_cases mJ:u=s/\v=t
    .rw[ae mJ]at e;injection e with e;rw[mJ.1,mJ.2,<-e];exact⟨hx,hl⟩
    .rw[ad mJ]at e;exact h.snd u v w hu hv e
   .dsimp only[lT]at e ⊢
    by_cases mJ:u=s/\v=t
    .rw[mJ.1,mJ.2,hD]at e;simp at e
    .rw[ad mJ];exact h.wd u v hu hv e
   .dsimp only[lT]at e e2
    by_cases mJ:u=s/\v=t
    .rw[ae mJ]at e;injection e with e;rw[<-e];exact hn
    .rw[ad mJ]at e;exact h.ge u v w hu hv e e2
   .dsimp only[lT]at e e2 ⊢
    by_cases mJ:u=s/\v=t
    .rw[ae mJ]at e;injection e with e;rw[mJ.1,mJ.2,<-e];exact h3
    .rw[ad mJ]at e;exact h1 _ _ (h.ya u v w hu hv e e2)
   .dsimp only[lT]at e ⊢
    by_cases mJ:u=s/\v=t
    .obtain⟨rfl,rfl⟩:=mJ
     refine⟨⟨hs,ht⟩,x,ae ⟨rfl,rfl⟩,?_⟩;rcases h2 _ _ e with e|⟨rfl,_⟩
     .obtain⟨_,w,h7,h6⟩:=h.low _ _ k e
      have:=(h4 w h7).2;omega
     .exact bd _
    .rw[ad mJ]
     rcases h2 _ _ e with e|⟨rfl,e4⟩
     .exact h.low u v k e
     .injection e4 with e1 e2;exact absurd ⟨e1,e2⟩ mJ
   .dsimp only[lT]
    by_cases mJ:u=s/\v=t
    .rw[ae mJ];rw[mJ.1,mJ.2]at e;exact⟨x,rfl,(h4 w e).1⟩
    .rw[ad mJ];exact⟨w,e,bd _⟩
   .exact .inr (.inr ⟨x,ae ⟨rfl,rfl⟩,bd _⟩)
  have Vc:∀k p,p∈b.R k->p∈qJ b.R x.length (s,t) k:=λk p hp=>by unfold qJ;split<;>simp[hp]
  have Ve:∀k p,p∈qJ b.R x.length (s,t) k->p∈b.R k\/(k=x.length/\p=(s,t)):=λk p hp=>by
   unfold qJ at hp;split at hp
   .rename_i hk
    rcases cY.1 hp with hp|hp
    .exact .inl hp
    .simp at hp;exact .inr ⟨hk,hp⟩
   .exact .inl hp
  have Vf:(∀w,b.W s t=some w->x.length<w.length)->∀k,(qJ b.R x.length (s,t) k).Nodup:=λhw k=>by
   unfold qJ;split
   .rename_i hk
    rw[rO];refine⟨h.nd k,ab,λp hp q hq e=>?_⟩
    simp at hq;subst hq;subst e;obtain⟨_,w,h7,h6⟩:=h.low _ _ k hp;have:=hw w h7;omega
   .exact h.nd k
  have Vg:(s,t)∈qJ b.R x.length (s,t) x.length:=by unfold qJ;rw[ae rfl];simp
  split
  .rename_i e
   exact put _ Vc Ve Vg (λw hw=>by rw[e]at hw;simp at hw) (Vf λw hw=>by rw[e]at hw;simp at hw)
  .rename_i o e
   have My:=hP s t o (h.snd s t o hs ht e).1;split
   .rename_i cm
    exact⟨h,.refl _,.inr (.inr ⟨o,e,Nat.le_of_lt (KL My cm)⟩)⟩
   .rename_i cm
    split
    .rename_i hle
     exact⟨h,.refl _,.inr (.inr ⟨o,e,(oG My hsx).1 hle⟩)⟩
    .rename_i hle
     rw[oG My hsx]at hle;have h4:∀w,b.W s t=some w->dS x<=dS w/\x.length<=w.length:=λw hw=>by
      rw[e]at hw;injection hw with hw;rw[<-hw];exact⟨aa,aa⟩
     split
     .rename_i anV
      exact put _ Vc Ve Vg h4 (Vf λw hw=>by rw[e]at hw;injection hw with hw;rw[<-hw];exact anV)
     .have Gp:o.length=x.length:=by omega
      exact put _ (λ_ _ h=>h) (λ_ _ h=>.inl h) (by rw[<-Gp];exact h.ya s t o hs ht e hD) h4 h.nd
def qK.C9 (hP:∀s t w,P s t w->sy w) (h:lZ M P n b){s:Int}{a:List Int}(hs:dI M s) (ht:dI M t) (k:qK b s t x) (ha:kG (P s t)=some a) (hn:n<=a.length) (hr:dS x<=dS a):b.W s t=some a:=by
 have hf:=anh ha;rcases k with k|k|⟨w,k1,k2⟩
 .have:=xr (hP s t a hf.1.1) hr
  have:=hf.1.2;omega
 .obtain⟨w,h1,h2⟩:=(h.dn s t hs ht).1 k
  rw[ha]at h1;injection h1 with h1
  rw[<-h1]at h2;omega
 .have h1:=h.snd s t w hs ht k1
  have h2:=hf.2 w h1.1;rw[k1,Us (hP s t w h1.1) (hP s t a hf.1.1) aa]
def xC (D:Int->Int->Bool):List PR->List PR×(Int->Int->Bool)
 | []=>([],D)
 |p::l=>if D p.1 p.2=true then xC D l else((p::(xC (xB D p.1 p.2) l).1),(xC (xB D p.1 p.2) l).2)
def Le:∀{l:List PR}{D:Int->Int->Bool},(∀u v,(xC D l).2 u v=true↔D u v=true\/(u,v)∈l)/\(∀p,p∈(xC D l).1↔p∈l/\D p.1 p.2=false)/\(xC D l).1.Nodup
 | [],D=>by simp[xC]
 |p::l,D=>by
  unfold xC
  by_cases h:D p.1 p.2=true
  .rw[ae h]
   obtain⟨g,d,i⟩:=Le (l:=l) (D:=D);refine⟨λu v=>?_,λq=>?_,i⟩
   .rw[g,b5]
    constructor
    .rintro(h|h)
     .exact .inl h
     .exact .inr (.inr h)
    .rintro(h|h|h)
     .exact .inl h
     .subst h;exact .inl jy
     .exact .inr h
   .rw[d,b5]
    constructor
    .rintro⟨a,b⟩;exact⟨.inr a,b⟩
    .rintro⟨a|a,b⟩
     .subst a;rw[h]at b;simp at b
     .exact⟨a,b⟩
  .rw[ad h]
   obtain⟨g,d,i⟩:=Le (l:=l) (D:=xB D p.1 p.2);refine⟨λu v=>?_,λq=>?_,?_⟩
   .dsimp only
    rw[g,b5];unfold xB
    by_cases e:u=p.1/\v=p.2
    .rw[ae e]
     have:(u,v)=p:=Prod.ext e.1 e.2;simp[this]
    .rw[ad e]
     have:(u,v) ≠ p:=λh=>e ⟨congrArg Prod.fst h,congrArg Prod.snd h⟩;simp[this]
   .dsimp only
    rw[b5,d,b5];unfold xB
    by_cases e:q=p
    .subst e;simp;simpa using h
    .have:¬(q.1=p.1/\q.2=p.2):=λh=>e (Prod.ext h.1 h.2)
     rw[ad this];simp[e]
   .dsimp only
    rw[nj];refine⟨λj=>?_,i⟩;have:=((d p).1 j).2;unfold xB at this;rw[ae ⟨rfl,rfl⟩]at this;simp at this
def Bs.tk (b:Bs) (n:Nat):List PR×Bs:=((xC b.D (b.R n)).1,⟨b.W,(xC b.D (b.R n)).2,b.R⟩)
def lZ.tk (hP:∀s t w,P s t w->sy w) (h:lZ M P n b) (hc:∀s t a,dI M s->dI M t->kG (P s t)=some a->a.length=n->b.W s t=some a):lZ M P (n+1) (b.tk n).2/\tJ M b (b.tk n).2/\(b.tk n).1.Nodup/\∀s t,(s,t)∈(b.tk n).1↔(dI M s/\dI M t)/\∃a,kG (P s t)=some a/\a.length=n/\b.W s t=some a:=by
 obtain⟨h1,h2,h3⟩:=Le (l:=b.R n) (D:=b.D)
 -- a pair that is taken has a final word
 have fin:∀s t,(s,t)∈b.R n->b.D s t=false->(dI M s/\dI M t)/\∃a,kG (P s t)=some a/\a.length=n/\b.W s t=some a:=by
  intro s t hm hd;obtain⟨gG,w,hw,hl⟩:=h.low s t n hm;have hg:=h.ge s t w gG.1 gG.2 hw hd;have hp:=h.snd s t w gG.1 gG.2 hw;obtain⟨a,ha⟩:=anf (P:=P s t) (hP s t) hp.1 hp.2;have BC :=ani (hP s t) ha;have hr:=ha.2 w hp.1;have lJ:=xr (hP s t w hp.1) hr;have han:a.length=n:=by
   refine dF λeP=>?_;have:=(h.dn s t gG.1 gG.2).2 ⟨a,BC, by omega⟩
   rw[hd]at this;simp at this
  exact⟨gG,a,BC, han,hc s t a gG.1 gG.2 BC han⟩
 have tak:∀s t a,dI M s->dI M t->kG (P s t)=some a->a.length=n->(s,t)∈b.R n/\b.D s t=false:=by
  intro s t a hs ht ha hl;have hd:b.D s t=false:=by
   cases e:b.D s t with
   |false=>rfl
   |true=>
    obtain⟨w,k1,k2⟩:=(h.dn s t hs ht).1 e;rw[ha]at k1;injection k1 with k1;rw[<-k1]at k2;omega
  refine⟨?_,hd⟩;have:=h.ya s t a hs ht (hc s t a hs ht ha hl) hd
  rwa [hl]at this
 have hD:∀s t,dI M s->dI M t->((b.tk n).2.D s t=true↔∃w,kG (P s t)=some w/\w.length<n+1):=by
  intro s t hs ht;show(xC b.D (b.R n)).2 s t=true↔_;rw[h1];constructor
  .rintro(k|k)
   .obtain⟨w,k1,k2⟩:=(h.dn s t hs ht).1 k
    exact⟨w,k1,aa⟩
   .cases e:b.D s t with
    |true=>
     obtain⟨w,k1,k2⟩:=(h.dn s t hs ht).1 e;exact⟨w,k1,aa⟩
    |false=>
     obtain⟨_,a,k1,k2,_⟩:=fin s t k e;exact⟨a,k1,aa⟩
  .rintro⟨w,k1,k2⟩
   by_cases e:w.length<n
   .exact .inl ((h.dn s t hs ht).2 ⟨w,k1,e⟩)
   .exact .inr (tak s t w hs ht k1 aa).1
 have hW:(b.tk n).2.W=b.W:=rfl;have hR:(b.tk n).2.R=b.R:=rfl;have up:∀s t,(b.tk n).2.D s t=false->b.D s t=false/\(s,t)∉b.R n:=by
  intro s t e;have:¬((xC b.D (b.R n)).2 s t=true):=by rw[Bool.not_eq_true];exact e
  rw[h1]at this;refine⟨?_,λhm=>this (.inr hm)⟩;cases e2:b.D s t with
  |false=>rfl
  |true=>exact absurd (.inl e2) this
 refine⟨⟨h.snd,hD,λs t hs ht e=>?_,λs t w hs ht e e2=>?_,λs t w hs ht e e2=>h.ya s t w hs ht e (up s t e2).1,h.low,h.nd⟩,⟨λs t e=>(h1 s t).2 (.inl e),λs t w _ _ e=>⟨w,e,bd _⟩⟩,h3,λs t=>?_⟩
 .rw[hW]
  rcases(h1 s t).1 e with e|e
  .exact h.wd s t hs ht e
  .cases e2:b.D s t with
   |true=>exact h.wd s t hs ht e2
   |false=>
    obtain⟨_,a,k1,k2,k3⟩:=fin s t e e2;rw[k3,k1]
 .rw[hW]at e
  have hu:=up s t e2;have hg:=h.ge s t w hs ht e hu.1;have hr:=h.ya s t w hs ht e hu.1;refine dF λwN=>?_;have:w.length=n:=aa
  rw[this]at hr;exact hu.2 hr
 .show(s,t)∈(xC b.D (b.R n)).1↔_
  rw[h2];constructor
  .rintro⟨k1,k2⟩;exact fin s t k1 k2
  .rintro⟨⟨hs,ht⟩,a,k1,k2,_⟩
   exact tak s t a hs ht k1 k2
end
def Lf{b:Type} [BEq b] [LawfulBEq b]:∀{l L:List b},l.Nodup->(∀x∈l,x∈L)->l.length<=L.length
 | [],_,_,_=>by simp
 |a::l,L,i,h=>by
  obtain⟨j,m⟩:=nj.1 i;have d:=h a ab
  have:=Lf (l:=l) (L:=L.erase a) m λx g=>(List.mem_erase_of_ne (λe=>j (by rw[<-e];exact g))).2 (h x iH)
  rw[List.length_erase_of_mem d]at this;have:=List.length_pos_of_mem d;simp only[cO];omega
structure X2 (M:fX) (n:Nat) (S C:Bs):Prop where
 s:lZ M (sx M) n S
 c:lZ M (Wd M) n C
 oi:∀s i,dI M s->0<=i->i<M.ak->qK S s (M.inner s i) [M.calls+i]
 oc:∀s c q u r,dI M s->0<=c->c<M.calls->dI M q->0<=r->r<M.ah->C.D (M.call s c).1 q=true->C.W (M.call s c).1 q=some u->qK S s (M.pop q (M.call s c).2 r) (c::(u ++ [M.calls+M.ak+r]))
 oe:∀s,dI M s->qK C s s []
 oj:∀s p t a b,dI M s->dI M p->dI M t->S.D s p=true->C.D p t=true->S.W s p=some a->C.W p t=some b->qK C s t (a++b)
section
variable{M:fX}{n:Nat}{S C:Bs}
def Vh (a:M.Sm):∀s t w,Wd M s t w->sy w:=λ_ _ _ h=>h.sy a
variable{t:Int}{w:List Int}
def lZ.fin{P:Int->Int->List Int->Prop}{b:Bs}(h:lZ M P n b){s:Int}(hs:dI M s) (ht:dI M t) (hf:kG (P s t)=some w) (hl:w.length<n):b.D s t=true/\b.W s t=some w:=by
 have:=(h.dn s t hs ht).2 ⟨w,hf,hl⟩;exact⟨this,by rw[h.wd s t hs ht this,hf]⟩
def sx.range (hM:M.Ok){s:Int}(h:sx M s t w) (hs:dI M s):dI M t:=h.wd.range hM hs
def lZ.Aw{P:Int->Int->List Int->Prop}{b:Bs}(h:lZ M P n b){s:Int}(hs:dI M s) (ht:dI M t) (hd:b.D s t=true):∃w,b.W s t=some w/\kG (P s t)=some w/\w.length<n:=by
 obtain⟨w,h1,h2⟩:=(h.dn s t hs ht).1 hd;exact⟨w,by rw[h.wd s t hs ht hd,h1],h1,h2⟩
def lZ.tK{P:Int->Int->List Int->Prop}{b c:Bs}(h:lZ M P n b) (k:lZ M P n c){s:Int}(hs:dI M s) (ht:dI M t):b.D s t=c.D s t/\(b.D s t=true->b.W s t=c.W s t):=by
 have e:b.D s t=c.D s t:=by rw[mU,h.dn s t hs ht,k.dn s t hs ht]
 exact⟨e,λhd=>by rw[h.wd s t hs ht hd,k.wd s t hs ht (by rw[<-e];exact hd)]⟩
structure xD (M:fX) (n:Nat) (S C:Bs) (C' : Bs) (out:List PR) (i:Nat) (t:Int):Prop where
 c:lZ M (Wd M) n C'
 l:tJ M C C'
 o:∀(j:Nat) (v:Int) (a b:List Int),(j<i\/j=i/\v<t)->j<out.length->dI M v->C.D (ix out (j:Int)).2 v=true->S.W (ix out (j:Int)).1 (ix out (j:Int)).2=some a->C.W (ix out (j:Int)).2 v=some b->qK C' (ix out (j:Int)).1 v (a++b)
variable{C' : Bs}{out:List PR}
def xD.init (h:lZ M (Wd M) n C):xD M n S C C out 0 0:=⟨h,.refl _,λj v a b hj hl hv=>by
 rcases hj with hj|⟨_,hj⟩
 .omega
 .have:=hv.1;omega⟩
def xD.row{i:Nat}(h:xD M n S C C' out i (M.size:Int)):xD M n S C C' out (i+1) 0:=⟨h.c,h.l,λj v a b hj hl hv=>h.o j v a b (by
 have:=hv.1;have:=hv.2;rcases hj with hj|⟨_,hj⟩
 .by_cases e:j=i
  .exact .inr ⟨e,aa⟩
  .exact .inl aa
 .omega) hl hv⟩
variable{t:Int}
def xD.skip{i:Nat}(h:xD M n S C C' out i t) (hd:C.D (ix out (i:Int)).2 t=false):xD M n S C C' out i (t+1):=⟨h.c,h.l,λj v a b hj hl hv k1=>by
 rcases hj with hj|⟨rfl,hj⟩
 .exact h.o j v a b (.inl hj) hl hv k1
 .by_cases e:v=t
  .subst e;rw[hd]at k1;simp at k1
  .exact h.o j v a b (.inr ⟨rfl,aa⟩) hl hv k1⟩
def xD.step (hM:M.Sm){i:Nat}(h:xD M n S C C' out i t) (hi:i<out.length) (h1:dI M (ix out (i:Int)).1) (h2:dI M (ix out (i:Int)).2) (ht:dI M t){a b:List Int}(ha:S.W (ix out (i:Int)).1 (ix out (i:Int)).2=some a) (hS:sx M (ix out (i:Int)).1 (ix out (i:Int)).2 a) (hn:n<=a.length) (hb:C.W (ix out (i:Int)).2 t=some b) (hC:Wd M (ix out (i:Int)).2 t b):xD M n S C (C'.off (ix out (i:Int)).1 t (a++b)) out i (t+1):=by
 obtain⟨k1,k2,k3⟩:=h.c.off (Vh hM) h1 ht (hS.then hC) (by rw[aU];omega)
 refine⟨k1,h.l.trans k2,λj v x y hj hl hv d1 d2 d3=>?_⟩
 by_cases e:j=i/\v=t
 .obtain⟨rfl,rfl⟩:=e
  rw[ha]at d2;rw[hb]at d3;injection d2 with d2
  injection d3 with d3
  rw[<-d2,<-d3];exact k3
 .have hP:=h.o j v x y (by
   rcases hj with hj|⟨e1,hj⟩
   .exact .inl hj
   .exact .inr ⟨e1,by
     by_cases e2:v=t
     .exact absurd ⟨e1,e2⟩ e
     .omega⟩) hl hv d1 d2 d3
  rcases hP with hP|hP|⟨w,w1,w2⟩
  .exact .inl hP
  .exact .inr (.inl (k2.D _ _ hP))
  .by_cases jx:dI M (ix out (j:Int)).1
   .obtain⟨u,u1,u2⟩:=k2.W _ _ _ jx hv w1
    exact .inr (.inr ⟨u,u1,aa⟩)
   .exact .inr (.inr ⟨w,by
     unfold Bs.off;split
     .exact w1
     .have eP:¬((ix out (j:Int)).1=(ix out (i:Int)).1/\v=t):=λe3=>jx (by rw[e3.1];exact h1)
      split
      .dsimp only[lT];rw[if_neg eP];exact w1
      .split
       .exact w1
       .split
        .exact w1
        .dsimp only[lT];rw[if_neg eP];exact w1,w2⟩)
def xD.fin (hM:M.Sm){S0:Bs}(h:X2 M n S0 C) (hS:lZ M (sx M) (n+1) (S0.tk n).2) (ho:∀s t,(s,t)∈(S0.tk n).1↔(dI M s/\dI M t)/\∃a,M.sk s t=some a/\a.length=n/\S0.W s t=some a) (k:xD M n (S0.tk n).2 C C' (S0.tk n).1 (S0.tk n).1.length 0):∀s p t a b,dI M s->dI M p->dI M t->(S0.tk n).2.D s p=true->C'.D p t=true->(S0.tk n).2.W s p=some a->C'.W p t=some b->qK C' s t (a++b):=by
 intro s p t a b hs hp ht d1 d2 w1 w2;obtain⟨e1,e2⟩:=h.c.tK k.c hp ht;rw[<-e1]at d2;rw[<-e2 d2]at w2
 by_cases d3:S0.D s p=true
 .exact(h.oj s p t a b hs hp ht d3 d2 w1 w2).mono k.l hs ht
 .obtain⟨x,x1,x2,x3⟩:=hS.Aw hs hp d1
  have hm:(s,p)∈(S0.tk n).1:=by
   refine(ho s p).2 ⟨⟨hs,hp⟩,x,x2,?_,x1⟩;refine dF λeP=>d3 ?_;exact(h.s.fin hs hp x2 aa).1
  obtain⟨j,hj,e⟩:=eL.1 hm;have e' : ix (S0.tk n).1 (j:Int)=(s,p):=by rw[aB hj,e]
  have:=k.o j t a b (.inl hj) hj ht;rw[e']at this;exact this d2 w1 w2
abbrev CR:=Int×Int×Int
def AOk (M:fX) (A:Int->List CR):Prop:=∀p,dI M p->∀s c g,(s,c,g)∈A p↔(dI M s/\(0<=c/\c<M.calls))/\M.call s c=(p,g)
structure Lh (M:fX) (n:Nat) (A:Int->List CR) (S C S' C' : Bs) (out:List PR) (i:Nat) (t:Int) (k:Nat) (r:Int):Prop where
 s:lZ M (sx M) (n+1) S'
 c:lZ M (Wd M) (n+1) C'
 ls:tJ M S S'
 lc:tJ M C C'
 o1:∀(j:Nat) (s:Int) (a b:List Int),(j<i\/j=i/\s<t)->j<out.length->dI M s->S.D s (ix out (j:Int)).1=true->S.W s (ix out (j:Int)).1=some a->C.W (ix out (j:Int)).1 (ix out (j:Int)).2=some b->qK C' s (ix out (j:Int)).2 (a++b)
 o2:∀(j l:Nat) (x:Int) (b:List Int),(j<i\/j=i/\(l<k\/l=k/\x<r))->j<out.length->l<(A (ix out (j:Int)).1).length->(0<=x/\x<M.ah)->C.W (ix out (j:Int)).1 (ix out (j:Int)).2=some b->qK S' (ix (A (ix out (j:Int)).1) (l:Int)).1 (M.pop (ix out (j:Int)).2 (ix (A (ix out (j:Int)).1) (l:Int)).2.2 x) ((ix (A (ix out (j:Int)).1) (l:Int)).2.1::(b ++ [M.calls+M.ak+x]))
variable{A:Int->List CR}{S' : Bs}
def qK.off{P:Int->Int->List Int->Prop}{b:Bs}{s t u v:Int}{x y:List Int}(hs:dI M s) (ht:dI M t) (k:tJ M b (b.off s t x)) (h:qK b u v y):qK (b.off s t x) u v y:=by
 rcases h with h|h|⟨w,w1,w2⟩
 .exact .inl h
 .exact .inr (.inl (k.D _ _ h))
 .by_cases jx:dI M u/\dI M v
  .obtain⟨z,u1,u2⟩:=k.W _ _ _ jx.1 jx.2 w1
   exact .inr (.inr ⟨z,u1,aa⟩)
  .have eP:¬(u=s/\v=t):=λe3=>jx (by rw[e3.1,e3.2];exact⟨hs,ht⟩)
   exact .inr (.inr ⟨w,by
    unfold Bs.off;split
    .exact w1
    .split
     .dsimp only[lT];rw[if_neg eP];exact w1
     .split
      .exact w1
      .split
       .exact w1
       .dsimp only[lT];rw[if_neg eP];exact w1,w2⟩)
def Lh.init (hS:lZ M (sx M) (n+1) S) (hC:lZ M (Wd M) (n+1) C):Lh M n A S C S C out 0 0 0 0:=⟨hS,hC,.refl _,.refl _,λj s a b hj hl hs=>by
 rcases hj with hj|⟨_,hj⟩
 .omega
 .have:=hs.1;omega,λj l x b hj hl h2 hx=>by
 rcases hj with hj|⟨_,hj|⟨_,hj⟩⟩<;>omega⟩
def Lh.next{i:Nat}(h:Lh M n A S C S' C' out i (M.size:Int) (A (ix out (i:Int)).1).length 0):Lh M n A S C S' C' out (i+1) 0 0 0:=⟨h.s,h.c,h.ls,h.lc,λj s a b hj hl hs=>h.o1 j s a b (by
 rcases hj with hj|⟨_,hj⟩
 .by_cases e:j=i
  .exact .inr ⟨e,hs.2⟩
  .exact .inl aa
 .have:=hs.1;omega) hl hs,λj l x b hj hl uc hx=>h.o2 j l x b (by
 rcases hj with hj|⟨e1,hj|⟨e2,hj⟩⟩
 .by_cases e:j=i
  .subst e;exact .inr ⟨rfl,.inl uc⟩
  .exact .inl aa
 .omega
 .have:=hx.1;omega) hl uc hx⟩
def Lh.fin (hM:M.Sm){S0 C0 C1:Bs}(h:X2 M n S0 C0) (hA:AOk M A) (KZ:tJ M S0 S) (OC:tJ M C0 C1) (uc:tJ M C1 C) (hC1:lZ M (Wd M) n C1)
  (oj:∀s p t a b,dI M s->dI M p->dI M t->S.D s p=true->C1.D p t=true->S.W s p=some a->C1.W p t=some b->qK C1 s t (a++b))
  (ho:∀s t,(s,t)∈out↔(dI M s/\dI M t)/\∃a,M.lk s t=some a/\a.length=n/\C.W s t=some a)
  (hS:lZ M (sx M) (n+1) S) (hC:lZ M (Wd M) (n+1) C) (k:Lh M n A S C S' C' out out.length 0 0 0):X2 M (n+1) S' C' :=by
 have find:∀p q,dI M p->dI M q->∀w,M.lk p q=some w->w.length=n->∃j:Nat,j<out.length/\ix out (j:Int)=(p,q)/\C.W p q=some w:=by
  intro p q hp hq w hw hl;have hf:=hC.fin hp hq hw aa
  obtain⟨j,hj,e⟩:=eL.1 ((ho p q).2 ⟨⟨hp,hq⟩,w,hw,hl,hf.2⟩);exact⟨j,hj,by rw[aB hj,e],hf.2⟩
 refine⟨k.s,k.c,λs i hs h0 h1=>(h.oi s i hs h0 h1).mono (KZ.trans k.ls) hs (hM.ok.inner s i hs.1 hs.2 h0 h1),λs c q u r hs c0 c1 hq r0 r1 d1 d2=>?_,λs hs=>(h.oe s hs).mono ((OC.trans uc).trans k.lc) hs hs,λs p t a b hs hp ht d1 d2 w1 w2=>?_⟩
 .have hc:=hM.ok.call s c hs.1 hs.2 c0 c1
  have hp:=hM.ok.pop s c q r hs.1 hs.2 c0 c1 hq.1 hq.2 r0 r1;obtain⟨w,x1,x2,x3⟩:=k.c.Aw hc hq d1;rw[d2]at x1;injection x1 with x1
  subst x1
  by_cases hl:u.length<n
  .obtain⟨y1,y2⟩:=h.c.fin hc hq x2 hl
   exact(h.oc s c q u r hs c0 c1 hq r0 r1 y1 y2).mono (KZ.trans k.ls) hs hp
  .obtain⟨j,hj,e,hw⟩:=find _ _ hc hq u x2 aa
   have qw:=(hA _ hc s c (M.call s c).2).2 ⟨⟨hs,c0,c1⟩,rfl⟩;obtain⟨l,hl,el⟩:=eL.1 qw;have AM : ix (A (M.call s c).1) (l:Int)=(s,c,(M.call s c).2):=by rw[aB hl,el]
   have:=k.o2 j l r u (.inl hj) hj;rw[e]at this;dsimp only at this;rw[AM]at this;exact this hl ⟨r0,r1⟩ hw
 .obtain⟨e1,e2⟩:=hS.tK k.s hs hp
  obtain⟨e3,e4⟩:=hC.tK k.c hp ht;rw[<-e1]at d1;rw[<-e3]at d2;rw[<-e2 d1]at w1;rw[<-e4 d2]at w2;obtain⟨w,x1,x2,x3⟩:=hC.Aw hp ht d2;rw[w2]at x1;injection x1 with x1
  subst x1
  by_cases hl:b.length<n
  .obtain⟨y1,y2⟩:=hC1.fin hp ht x2 hl
   exact(oj s p t a b hs hp ht d1 y1 w1 y2).mono (uc.trans k.lc) hs ht
  .obtain⟨j,hj,e,hw⟩:=find p t hp ht b x2 aa
   have:=k.o1 j s a b (.inl hj) hj hs;rw[e]at this;exact this d1 w1 hw
end
def Bs.emp:Bs:=⟨λ_ _=>none,λ_ _=>false,λ_=>[]⟩
def Vi{M:fX}{P:Int->Int->List Int->Prop}:lZ M P 0 Bs.emp:=⟨λs t w _ _ h=>by simp[Bs.emp]at h,λs t _ _=>by simp[Bs.emp],λs t _ _ h=>by simp[Bs.emp]at h,λs t w _ _ h=>by simp[Bs.emp]at h,λs t w _ _ h=>by simp[Bs.emp]at h,λs t k h=>by simp[Bs.emp]at h,λk=>by simp[Bs.emp]⟩
structure Li (M:fX) (S C:Bs) (A:Int->List CR) (s e i c:Int):Prop where
 bs:lZ M (sx M) 0 S
 bc:lZ M (Wd M) 0 C
 oe:∀u,dI M u->u<e->qK C u u []
 oi:∀u j,dI M u->0<=j->j<M.ak->(u<s\/u=s/\j<i)->qK S u (M.inner u j) [M.calls+j]
 a:∀p u d g,(u,d,g)∈A p↔(0<=u/\(0<=d/\d<M.calls)/\(u<s\/u=s/\d<c))/\M.call u d=(p,g)
section
variable{M:fX}{S C:Bs}{A:Int->List CR}{s e i c:Int}
def Li.init:Li M .emp .emp (λ_=>[]) 0 0 0 0:=⟨Vi,Vi,λu hu h=>by have:=hu.1;omega,λu j hu _ _ h=>by have:=hu.1;omega,λp u d g=>ax⟩
def Li.next (h:Li M S C A s e M.ak M.calls):Li M S C A (s+1) e 0 0:=⟨h.bs,h.bc,h.oe,λu j hu j0 j1 hl=>h.oi u j hu j0 j1 (by
 rcases hl with hl|⟨_,hl⟩
 .by_cases e2:u=s
  .exact .inr ⟨e2,j1⟩
  .exact .inl aa
 .omega),λp u d g=>by
 rw[h.a];constructor
 .rintro⟨⟨a1,a2,a3⟩,a4⟩
  refine⟨⟨a1,a2,?_⟩,a4⟩;rcases a3 with a3|⟨a3,a5⟩
  .exact .inl aa
  .exact .inl aa
 .rintro⟨⟨a1,a2,a3⟩,a4⟩
  refine⟨⟨a1,a2,?_⟩,a4⟩;rcases a3 with a3|⟨_,a5⟩
  .by_cases e2:u=s
   .exact .inr ⟨e2,a2.2⟩
   .exact .inl aa
  .have:=a2.1;omega⟩
def Li.fin (hM:M.Sm) (h:Li M S C A (M.size:Int) (M.size:Int) 0 0):X2 M 0 S C/\AOk M A:=by
 refine⟨⟨h.bs,h.bc,λs i hs h0 h1=>h.oi s i hs h0 h1 (.inl hs.2),λs c q u r hs c0 c1 hq r0 r1 d _=>?_,λs hs=>h.oe s hs hs.2,λs p t a b hs hp ht d=>?_⟩,λp hp s c g=>?_⟩
 .obtain⟨w,_,h2⟩:=(h.bc.dn _ q (hM.ok.call s c hs.1 hs.2 c0 c1) hq).1 d
  omega
 .obtain⟨w,_,h2⟩:=(h.bs.dn s p hs hp).1 d
  omega
 .rw[h.a]
  constructor
  .rintro⟨⟨a1,a2,a3⟩,a4⟩
   refine⟨⟨⟨a1,?_⟩,a2⟩,a4⟩;rcases a3 with a3|⟨_,a5⟩
   .exact a3
   .have:=a2.1;omega
  .rintro⟨⟨a1,a2⟩,a4⟩
   exact⟨⟨a1.1,a2,.inl a1.2⟩,a4⟩
end
def gdW (M:fX) (s:Int) (g:Int->Bool) (w:List Int):Prop:=∃t,dI M t/\g t=true/\Wd M s t w
noncomputable def fX.f1 (M:fX) (s:Int) (g:Int->Bool):Option (List Int):=kG (gdW M s g)
section
variable{M:fX}{s:Int}{g:Int->Bool}
end
def Lj{a:Type} [Inhabited a]{N:Nat}{f:Nat->a}{s:Int}(b:0<=s) (d:s<(N:Int)):ix ((List.range N).map f) s=f s.toNat:=by
 obtain⟨k,rfl⟩:=gM b;rw[aB ax]
 simp
section
variable (a b:ao)
def prK:Nat:=b.accept.length
end
section
variable{a b:ao}
structure DO (a b:ao):Prop where
 oa:a.Ok
 ob:b.Ok
 c:b.calls=a.calls
 i:b.ak=a.ak
 r:b.ah=a.ah
 n:a.accept.length*b.accept.length<=128
 g:a.stack*b.stack<=128
def DO.k (h:DO a b):1<=b.accept.length:=by have:=h.ob.eU;omega
def DO.aE (h:DO a b):((a.stack.toNat*b.stack.toNat:Nat):Int)=a.stack*b.stack:=by
 have h2:=h.oa.stack;have h3:=h.ob.stack;rw[qb,show((a.stack.toNat:Nat):Int)=a.stack by omega,show((b.stack.toNat:Nat):Int)=b.stack by omega]
def pr (b:ao) (x y:Int):Int:=x*(prK b:Int)+y
def Wd.det{n:ao}(hn:n.Ok){s t t' : Int}{w:List Int}(h:Wd n.eA s t w) (k:Wd n.eA s t' w):t=t' :=by
 rw[<-((SU hn).1 h).2.2,<-((SU hn).1 k).2.2]
end
variable{v:List Int}
def xE{K:List (List Int)}(h:v∈K):0<=(K.idxOf v:Int)/\(K.idxOf v:Int)<(K.length:Int)/\ix K (K.idxOf v:Int)=v:=by
 have a:=List.idxOf_lt_length_of_mem h;refine⟨aa,aa,?_⟩
 rw[aB a,List.getElem_idxOf]
def pM{P:List Int->Prop}{D:Vd}(h:mB P D) (d:Full D):j9 D:=by
 refine⟨d,h.h0.1,h.ok.ok.calls,h.ok.ok.ak,h.ok.ok.ah,λx a=>h.rl x (by rw[d.b];exact a),λx a=>?_,λx c y a m l=>?_⟩
 .obtain⟨_,e,g⟩:=h.aQ x (by rw[d.i];exact a)
  rw[e];refine⟨by simp[idxs,Vd.gW],λy l=>?_⟩
  obtain⟨v,j,rfl⟩:=cx.1 l;exact⟨(xE (g v j)).1,(xE (g v j)).2.1⟩
 .obtain⟨_,_,e,g⟩:=h.bl x c y (by rw[d.b];exact a) m (by rw[d.c x c a m];exact l)
  rw[e];refine⟨by simp[idxs,Vd.dW],λz n=>?_⟩
  obtain⟨v,j,rfl⟩:=cx.1 n;exact⟨(xE (g v j)).1,(xE (g v j)).2.1⟩
variable{x:Nat}
def anW{P:List Int->Prop}{D:Vd}(h:mB P D) (b:Full D){i:Int}(d:x<D.K.length) (a:0<=i) (i1:i<D.n.ak):ix D.K (D.im x i)=(ix D.K (x:Int)).map λs=>ix (ix D.n.inner s) i:=by
 obtain⟨_,e,g⟩:=h.aQ x (by rw[b.i];exact d)
 unfold Vd.im;rw[e];have j:(D.gW x).length=D.n.ak.toNat:=by simp[Vd.gW]
 unfold idxs;rw[iR aa aa,(xE (g _ (aJ a aa))).2.2]
 unfold Vd.gW;rw[Lj a aa,show((i.toNat:Nat):Int)=i by omega]
variable{r:Int}
def anX{P:List Int->Prop}{D:Vd}(h:mB P D) (a:Full D){y:Nat}{c:Int}(d:x<D.K.length) (i:y<D.K.length) (l:0<=c) (m:c<D.n.calls) (g:0<=r) (o:r<D.n.ah):ix D.K (D.bk x c y r)=(ix D.K (x:Int)).map (D.n.qy D.plc (ix D.K (y:Int)) c r):=by
 obtain⟨_,_,e,j⟩:=h.bl x c.toNat y (by rw[a.b];exact d) aa (by rw[a.c x c.toNat d aa];exact i)
 unfold Vd.bV Vd.row at e;rw[show((c.toNat:Nat):Int)=c by omega]at e
 unfold Vd.bk;rw[e];have p:(D.dW x c.toNat y).length=D.n.ah.toNat:=by simp[Vd.dW]
 unfold idxs;rw[iR aa aa,(xE (j _ (aJ g aa))).2.2]
 unfold Vd.dW;rw[Lj g aa,show((c.toNat:Nat):Int)=c by omega,show((r.toNat:Nat):Int)=r by omega]
variable{w:List Int}
def Dv.wd{P:List Int->Prop}{D:Vd}(h:mB P D) (hF:Full D) (hp:AY D.n D.plc){x:Int}(hd:Dv D x w):∀j:Nat,j<D.n.bj.length->Wd D.n.eA (ix D.n.bj (j:Int)) (ix (ix D.K x) (j:Int)) w:=by
 have hD:=pM h hF;have dw:=h.ok.ok
 induction hd with
 |nil=>
  intro j hj;rw[h.h0.2];exact .nil _
 |aQ x i w i0 i1 hd ih=>
  intro j hj;have hx:=hd.eV hD;have e:=anW h hF (x:=x.toNat) aa i0 i1
  rw[show((x.toNat:Nat):Int)=x by omega]at e
  have hk:=(h.ok.kx (x:=x.toNat) aa)
  rw[show((x.toNat:Nat):Int)=x by omega]at hk
  rw[e,iR aa aa]
  exact(ih j hj).app (.aQ _ i _ [] i0 i1 (.nil _))
 |aq x c y r w u c0 c1 r0 r1 hd hu nw oz=>
  intro j hj;have hx:=hd.eV hD;have hy:=hu.eV hD;have e:=anX h hF (x:=x.toNat) (y:=y.toNat) aa aa c0 c1 r0 r1
  rw[show((x.toNat:Nat):Int)=x by omega,show((y.toNat:Nat):Int)=y by omega]at e
  have hk:=(h.ok.kx (x:=x.toNat) aa)
  rw[show((x.toNat:Nat):Int)=x by omega]at hk
  rw[e,iR aa aa]
  refine(nw j hj).app ?_;generalize ht:ix (ix D.K x) (j:Int)=t at *;have MK:=hk.1 _ (aJ (l:=ix D.K x) (n:=(j:Int)) aa aa)
  rw[ht]at MK;have ss:=dw.call t c MK.1 MK.2 c0 c1
  -- the entry
  have hm:ix (ix D.n.call t) c∈D.n.bj:=by
   have Di:=(dw.row t MK.1 MK.2).1;have ln:=dw.lens;exact r7.2 (.inr ⟨_,aJ MK.1 aa,aJ c0 aa⟩)
  obtain⟨m,Ax,E3⟩:=eL.1 hm;have sb:=hp.x4 m Ax;rw[aB Ax,E3]at sb;have hw:=oz m Ax;rw[aB Ax,E3]at hw;have:=Wd.call (M:=D.n.eA) t c (ix (ix D.K y) (m:Int)) r _ u [] c0 c1 r0 r1 hw (.nil _);rw[show D.n.qy D.plc (ix D.K y) c r t=D.n.eA.pop (ix (ix D.K y) (m:Int)) (D.n.eA.call t c).2 r from by
   unfold ao.qy;rw[sb];rfl]
  exact this
def Wd.oN{M:fX}(hM:0<=M.calls/\0<=M.ak/\0<=M.ah){s t t' : Int}(h:Wd M s t w) (g:Wd M s t' w):t=t' :=by
 have h1:=((J5 hM).1 h).2.2;have h2:=((J5 hM).1 g).2.2;rw[<-h1,<-h2]
def ao.Ok.m0{n:ao}(h:n.Ok):0<=n.eA.calls/\0<=n.eA.ak/\0<=n.eA.ah:=⟨h.calls.1,h.ak.1,h.ah.1⟩
def Dv.oN{P:List Int->Prop}{D:Vd}(h:mB P D) (hF:Full D) (hp:AY D.n D.plc){x y:Int}(hx:Dv D x w) (hy:Dv D y w):x=y:=by
 have hD:=pM h hF;have rx:=hx.eV hD;have ry:=hy.eV hD;have kx:=h.ok.kx (x:=x.toNat) aa
 have ky:=h.ok.kx (x:=y.toNat) aa
 have e:ix D.K (x.toNat:Int)=ix D.K (y.toNat:Int):=by
  refine xc (by rw[kx.2,ky.2]) λj j0 j1=>?_
  have h1:=hx.wd h hF hp j.toNat (by rw[kx.2]at j1;omega)
  have h2:=hy.wd h hF hp j.toNat (by rw[kx.2]at j1;omega)
  rw[show((j.toNat:Nat):Int)=j by omega]at h1 h2
  rw[show((x.toNat:Nat):Int)=x by omega,show((y.toNat:Nat):Int)=y by omega]
  exact h1.oN h.ok.ok.m0 h2
 rw[aB (show x.toNat<D.K.length by omega),aB (show y.toNat<D.K.length by omega)]at e
 have:=(rN h.nd).1 e;omega
def zN:ao:=⟨0,0,0,0,0,[],[],[],[],[]⟩
structure ML (P:List Int->Prop) (n:ao) (D:Vd):Prop where
 v:mB P D
 n:D.n=n
 p:AY D.n D.plc
structure yb (P:List Int->Prop) (n:ao) (D:Vd) (cls:List Int) (k:Nat):Prop where
 d:ML P n D
 f:Full D
 c:XN D D.iV cls k
structure yc (P:List Int->Prop) (n:ao) (D:Vd) (cls:List Int) (k:Nat) (S:Fd) (l:List iB):Prop where
 c:yb P n D cls k
 kb:k<=128/\k*n.calls.toNat<=128
 s:Sr D 1025 S
 l:Au cls S k D.K.length l
inductive A8 (P:List Int->Prop) (n:ao):ao->Int->Prop
 |inv:n.bC ≠ 0->A8 P n zN n.bC
 |many (D:Vd):n.bC=0->ML P n D->512<D.K.length->A8 P n zN 11
 |dK (D:Vd) (cls:List Int) (k:Nat):n.bC=0->yb P n D cls k->(128<k\/128<k*n.calls.toNat)->A8 P n zN 11
 |Lk (D:Vd) (cls:List Int) (k:Nat) (S:Fd) (l:List iB):n.bC=0->yc P n D cls k S l->l.any neg=true->A8 P n zN 3
 |ok (D:Vd) (cls:List Int) (k:Nat) (S:Fd) (l:List iB) (st:List Int):n.bC=0->yc P n D cls k S l->l.any neg=false->st.length=l.length->(∀i:Nat,i<l.length->ix st (v8 (dx l) i)=i)->A8 P n (tH D cls (dx l) st) 0
variable{l:List iB}
def yc.wd{P:List Int->Prop}{n:ao}{D:Vd}{cls:List Int}{k:Nat}{S:Fd}(h:yc P n D cls k S l){i:Nat}(hi:i<k) (hv:0<=(ix l (i:Int)).2.1):((ix l (i:Int)).2.1<(D.K.length:Int))/\ix cls (ix l (i:Int)).2.1=i/\lh D (ix l (i:Int)).2.1 (ix l (i:Int)).2.2/\(ix l (i:Int)).2.2.length<=1024:=by
 obtain⟨⟨a,b,c,d⟩,_⟩:=h.l.yes i hi hv;obtain⟨w,hw,hl⟩:=(h.s.fd _ hv (by rw[h.s.l];exact a)).1 c
 have:=h.s.lw _ w hw hl;unfold Fd.wd at d;rw[this]at d;have d:(ix l (i:Int)).2.2=w:=d;rw[d];exact⟨a,b,hw,aa⟩
def yc.nodup{P:List Int->Prop}{n:ao}{D:Vd}{cls:List Int}{k:Nat}{S:Fd}(h:yc P n D cls k S l) (hn:l.any neg=false):(l.map λc=>c.2.2).Nodup:=by
 have hv:∀i:Nat,i<l.length->0<=(ix l (i:Int)).2.1:=λi hi=>by
  have:=List.any_eq_false.1 hn _ (aJ (l:=l) (n:=(i:Int)) aa aa)
  simp[neg]at this;exact this
 have hk:=h.l.len;rw[List.Nodup,qm];intro i j hi hj vR e;simp only[dA]at hi hj;simp only[lI]at e;rw[<-aB hi,<-aB hj]at e;obtain⟨a1,a2,a3,a4⟩:=h.wd (i:=i) aa (hv i hi)
 obtain⟨b1,b2,b3,b4⟩:=h.wd (i:=j) aa (hv j hj)
 rw[e]at a3;have:=Dv.oN h.c.d.v h.c.f h.c.d.p a3.1 b3.1;rw[this,b2]at a2;omega
def yc.atm{P:List Int->Prop}{n:ao}{D:Vd}{cls:List Int}{k:Nat}{S:Fd}(h:yc P n D cls k S l) (hn:l.any neg=false) (hk:1<=k):XX D cls (dx l):=by
 have hp:=qI l;have hv:∀i:Nat,i<l.length->0<=(ix l (i:Int)).2.1:=λi hi=>by
  have:=List.any_eq_false.1 hn _ (aJ (l:=l) (n:=(i:Int)) aa aa)
  simp[neg]at this;exact this
 have hl:=h.l.len;have sb:(dx l).length=l.length:=hp.length_eq;have l8:∀c∈dx l,∃i:Nat,i<l.length/\ix l (i:Int)=c:=λc hc=>by
  obtain⟨i,hi,e⟩:=eL.1 (hp.mem_iff.1 hc);exact⟨i,hi,by rw[aB hi];exact e⟩
 have EA:=h.c.d.n;have gG:=h.c.d.v.ok.ok.start;have Kk:=h.c.d.p;have hs:D.n.start∈D.n.bj:=r7.2 (.inl rfl);obtain⟨m,Ax,E3⟩:=eL.1 hs;have Vj:=Kk.x4 m Ax;rw[aB Ax,E3]at Vj;refine⟨pM h.c.d.v h.c.f,h.c.d.v.ok,⟨aa,by have:=h.kb;omega⟩,?_,h.c.c.c.len,λc hc=>?_,λc hc=>?_,λc hc=>?_,?_,?_,?_⟩
 .rw[sb,hl,EA];exact h.kb.2
 .rw[sb,hl];exact h.c.c.c.can.eV c hc
 .obtain⟨i,hi,rfl⟩:=l8 c hc
  exact⟨hv i hi,(h.wd aa (hv i hi)).1⟩
 .obtain⟨i,hi,rfl⟩:=l8 c hc
  rw[h.l.cl i aa]
  omega
 .refine(hp.map _).nodup_iff.2 ?_
  rw[List.Nodup,qm];intro i j hi hj vR e;simp only[dA]at hi hj;simp only[lI]at e;rw[<-aB hi,<-aB hj,h.l.cl i aa,h.l.cl j aa]at e
  omega
 .rw[Kk.len];exact gG.2
 .unfold Vd.iV
  rw[Vj];omega
def anY{P:List Int->Prop}{n:ao}(d:n.Ok){plc:List Int}(e:AY n plc) (g:P n.bj):mB P (oO n plc):=
 ⟨amR d e,by simp[oO],λk b=>by simp[oO]at b;rw[b];exact g,⟨by simp[oO],rfl⟩,λx a=>by simp[oO]at a,λx a=>by simp[oO]at a,λx c y a=>by simp[oO]at a⟩
def anZ (n:ao) (hf:n.fits) (P:List Int->Prop) (hP:n.bC=0->∀plc,AY n plc->EP P n plc) (hP0:P n.bj) (K:AV->List al->Prop) (H:∀e τ,A8 P n zN e->K (.bM [.agg tI,.int e]) τ) (hk:∀r e τ,A8 P n r e->K (.bM [r.av,.int e]) τ):LX L rZ [n.av] [] K:=by
 refine aiO rfl ?_;have hV:=JX n hf;show WK L (.seq (.cF Ry)
 (.seq (.seq (.cF Rz)
 (.seq (.cF RA)
 (.cond 18 (.seq (.cF RB)
 .ret) .skip)))
 (.seq (.cF RD)
 (.seq (.seq (.seq (.cF RE) (.ji 4))
 (.cond 25 (.seq (.cF RF)
 .ret) .skip))
 (.seq (.cF RH)
 (.seq (.seq (.cF RI)
 (.cond 40 (.seq (.cF RJ)
 .ret) .skip))
 Lc)))))) _ none [] _
 by_cases u:n.bC=0
 .have hn:=tx u
  rw[u]at hV;obtain⟨rv,τ,I,plc,z,rfl,rfl⟩:=dd (amQ n hn);have hvs:=vs0 n plc ⟨some 10,tI,.live⟩;have J:=amw (P:=P) (oO n plc) (hP u plc z) p0 _ hvs (anY hn z hP0) rfl rfl (by simp[oO])
  obtain⟨rc,τ,G,D,p,hS,hI,h,B,w,hr⟩:=dd J;clear J;have w:p .v=3:=w;have M : L Cs [.ptr 3 16 0] (⟨some 10,tI,.live⟩::(ET n plc).map (gH 1))=some (rc,τ):=G;have h:D.n=n:=h;have B:D.plc=plc:=B;have hd:ML P n D:=⟨hI,h,by rw[h,B];exact z⟩
  rcases hr with⟨rfl,hF⟩|⟨rfl,N⟩
  .simp[-aj,hV,I,js,M]
   refine UT hS (b:=0) (A:=⟨some 10,tI,.live⟩) (by rw[w]) rfl λσ j=>?_
   have hD:=pM hI hF;have gG:=hI.ok.ok.start;have hs:D.n.start∈D.n.bj:=r7.2 (.inl rfl);obtain⟨m,O,E3⟩:=eL.1 hs;have Q:=hd.p.x4 m O;rw[aB O,E3]at Q;obtain⟨⟨cls,k⟩,x,a⟩:=amZ D hD hI.ok (by rw[hd.p.len];exact gG.2) (by unfold Vd.iV;rw[Q];omega)
   have C:yb P n D cls k:=⟨hd,hF,a⟩;have o:=a.c.can;have Gi:=o.len;rw[a.c.len]at Gi;have hkf:=hF.k;dsimp only at x;have E:=hn.calls;have y:1<=k:=by
    have:=o.eV _ (aJ (l:=cls) (n:=0) aa (by rw[a.c.len];have:=hD.k;omega))
    omega
   have hmul:(k:Int)*n.calls=((k*n.calls.toNat:Nat):Int):=o6
   have yd:0<=(k:Int)*n.calls/\(k:Int)*n.calls<=512*64:=⟨Int.mul_nonneg aa E.1,Int.le_trans (Int.mul_le_mul_of_nonneg_right (show(k:Int)<=512 by omega) E.1) (Int.mul_le_mul_of_nonneg_left E.2 aa)⟩
   have d:=λce (R T U V W X Y Z c8 c9:AV)=>oI (ce:=ce) (σ:=ar σ 0 ⟨some 10,[R,T,U,V,W,X,Y,Z,c8,c9],.live⟩) (n:=0) (bU (cU j))
   by_cases uL:128<k
   .have g :=az (show(128:Int)<(k:Int)by omega)
    simp[-aj,x,g, j,d];exact H _ _ (.dK D cls k u C (.inl uL))
   .have g :=bX (show ¬(128:Int)<(k:Int)by omega)
    by_cases Xr:128<k*n.calls.toNat
    .have q :=az (show(128:Int)<(k:Int)*n.calls by rw[hmul];omega)
     simp[-aj,x,g, q, j,d];exact⟨aa,H _ _ (.dK D cls k u C (.inr Xr))⟩
    .have q :=bX (show ¬(128:Int)<(k:Int)*n.calls by rw[hmul];omega)
     simp[-aj,x,g, q];have hsy:=hn.syms;refine⟨aa,anS hD (by rw[h];omega) a.c.len o.eV aa y j λS l τ b x11 x12 x13 x16 hS G xz g0 gb=>?_⟩
     have hL:yc P n D cls k S l:=⟨C,⟨aa,aa⟩,hS,G⟩
     have hlk:=G.len;subst hlk;have l8:∀c∈l,∃i:Nat,i<l.length/\ix l (i:Int)=c:=λc hc=>by
      obtain⟨i,F,e⟩:=eL.1 hc;exact⟨i,F,by rw[aB F];exact e⟩
     refine anP g0 gb xz (λc hc j=>?_) aa (λe=>by rw[e]at y;simp at y) (λc hc=>?_) (λs τ=>H _ _ (.Lk D cls _ S l u hL s)) λs=>⟨hL.nodup s,hL.atm s y,λst τ h1 h2=>hk _ _ _ (.ok D cls _ S l st u hL s h1 h2)⟩
     .obtain⟨i,F,rfl⟩:=l8 c hc
      exact(G.no i F j).1
     .obtain⟨i,F,rfl⟩:=l8 c hc
      by_cases j:(ix l (i:Int)).2.1<0
      .rw[(G.no i F j).1];simp
      .exact(hL.wd F aa).2.2.2
  .simp[-aj,hV,I,js,M]
   refine UT hS (b:=0) (A:=⟨some 10,tI,.live⟩) (by rw[w]) rfl λσ j=>?_
   have d:=λce (R T U V W X Y Z c8 c9:AV)=>oI (ce:=ce) (σ:=ar σ 0 ⟨some 10,[R,T,U,V,W,X,Y,Z,c8,c9],.live⟩) (n:=0) (bU (cU j));simp[-aj,j,d];exact H _ _ (.many D u hd N)
 .have an0:=λce (R T U V W X Y Z c8 c9:AV)=>oI (ce:=ce) (σ:=[⟨some 10,[R,T,U,V,W,X,Y,Z,c8,c9],.live⟩]) (n:=0) rfl
  simp[-aj,hV,u,an0];exact H _ _ (.inv u)
def an1 (n:ao) (b:n.fits) (P:List Int->Prop) (d:n.bC=0->∀plc,AY n plc->EP P n plc) (a:P n.bj):∃q:ao×Int,PC rZ [n.av]=some (.bM [q.1.av,.int q.2])/\A8 P n q.1 q.2:=
 DC (g:=λq:ao×Int=>.bM [q.1.av,.int q.2]) (anZ n b P d a _ (λe i h=>⟨(zN,e),rfl,h⟩) λr e i h=>⟨(r,e),rfl,h⟩)
structure lj where
 c:Int
 i:Int
 r:Int
inductive Ww (A:lj):List Int->Prop
 |nil:Ww A []
 |aQ (w:List Int) (i:Int):0<=i->i<A.i->Ww A w->Ww A (w ++ [A.c+i])
 |aq (w u:List Int) (c r:Int):0<=c->c<A.c->0<=r->r<A.r->Ww A w->Ww A u->Ww A (w++c::(u ++ [A.c+A.i+r]))
inductive Sep (A:lj) (L:List Int->Prop):List Int->List Int->Prop
 |acc (u v:List Int):¬(L u↔L v)->Sep A L u v
 |aQ (u v:List Int) (i:Int):0<=i->i<A.i->Sep A L (u ++ [A.c+i]) (v ++ [A.c+i])->Sep A L u v
 |bl (u v y:List Int) (c r:Int):0<=c->c<A.c->0<=r->r<A.r->Ww A y->Sep A L (u++c::(y ++ [A.c+A.i+r])) (v++c::(y ++ [A.c+A.i+r]))->Sep A L u v
 |br (u v y:List Int) (c r:Int):0<=c->c<A.c->0<=r->r<A.r->Ww A y->Sep A L (y++c::(u ++ [A.c+A.i+r])) (y++c::(v ++ [A.c+A.i+r]))->Sep A L u v
def jw (A:lj) (L:List Int->Prop) (u v:List Int):Prop:=¬Sep A L u v
variable{u:List Int}
def Sep.ne{A:lj}{L:List Int->Prop}(h:Sep A L u v):u ≠ v:=by
 induction h with
 |acc u v h=>exact λe=>h eD
 |aQ u v i _ _ _ ih=>exact λe=>ih eD
 |bl u v y c r _ _ _ _ _ _ ih=>exact λe=>ih eD
 |br u v y c r _ _ _ _ _ _ ih=>exact λe=>ih eD
def jw.refl{A:lj}{L:List Int->Prop}(u:List Int):jw A L u u:=λh=>h.ne rfl
def Sep.symm{A:lj}{L:List Int->Prop}(h:Sep A L u v):Sep A L v u:=by
 induction h with
 |acc u v h=>exact .acc _ _ λe=>h e.symm
 |aQ u v i h0 h1 _ ih=>exact .aQ _ _ i h0 h1 ih
 |bl u v y c r h0 h1 h2 h3 hy _ ih=>exact .bl _ _ y c r h0 h1 h2 h3 hy ih
 |br u v y c r h0 h1 h2 h3 hy _ ih=>exact .br _ _ y c r h0 h1 h2 h3 hy ih
def jw.symm{A:lj}{L:List Int->Prop}(h:jw A L u v):jw A L v u:=λg=>h g.symm
def Sep.split{A:lj}{L:List Int->Prop}(h:Sep A L u w):∀v,Sep A L u v\/Sep A L v w:=by
 induction h with
 |acc u w h=>
  intro v
  by_cases e:L u↔L v
  .exact .inr (.acc _ _ λe2=>h (e.trans e2))
  .exact .inl (.acc _ _ e)
 |aQ u w i h0 h1 _ ih=>exact λv=>(ih _).imp (.aQ _ _ i h0 h1) (.aQ _ _ i h0 h1)
 |bl u w y c r h0 h1 h2 h3 hy _ ih=>exact λv=>(ih _).imp (.bl _ _ y c r h0 h1 h2 h3 hy) (.bl _ _ y c r h0 h1 h2 h3 hy)
 |br u w y c r h0 h1 h2 h3 hy _ ih=>exact λv=>(ih (y++c::(v ++ [A.c+A.i+r]))).imp (.br _ _ y c r h0 h1 h2 h3 hy) (.br _ _ y c r h0 h1 h2 h3 hy)
def jw.trans{A:lj}{L:List Int->Prop}(h:jw A L u v) (g:jw A L v w):jw A L u w:=λk=>(k.split v).elim h g
def jw.acc{A:lj}{L:List Int->Prop}(h:jw A L u v):L u↔L v:=dF λe=>h (.acc _ _ e)
def jw.aQ{A:lj}{L:List Int->Prop}(h:jw A L u v){i:Int}(h0:0<=i) (h1:i<A.i):jw A L (u ++ [A.c+i]) (v ++ [A.c+i]):=λk=>h (.aQ _ _ i h0 h1 k)
variable{y:List Int}
def jw.bl{A:lj}{L:List Int->Prop}(h:jw A L u v){c:Int}(h0:0<=c) (h1:c<A.c) (h2:0<=r) (h3:r<A.r) (hy:Ww A y):jw A L (u++c::(y ++ [A.c+A.i+r])) (v++c::(y ++ [A.c+A.i+r])):=λk=>h (.bl _ _ y c r h0 h1 h2 h3 hy k)
def jw.br{A:lj}{L:List Int->Prop}(h:jw A L u v){c:Int}(h0:0<=c) (h1:c<A.c) (h2:0<=r) (h3:r<A.r) (hy:Ww A y):jw A L (y++c::(u ++ [A.c+A.i+r])) (y++c::(v ++ [A.c+A.i+r])):=λk=>h (.br _ _ y c r h0 h1 h2 h3 hy k)
def jw.aq{A:lj}{L:List Int->Prop}{x:List Int}(h:jw A L u v) (g:jw A L x y){c:Int}(h0:0<=c) (h1:c<A.c) (h2:0<=r) (h3:r<A.r) (hv:Ww A v) (hx:Ww A x):jw A L (u++c::(x ++ [A.c+A.i+r])) (v++c::(y ++ [A.c+A.i+r])):=(h.bl h0 h1 h2 h3 hx).trans (g.br h0 h1 h2 h3 hv)
def Ww.sym{A:lj}(hA:0<=A.c/\0<=A.i/\0<=A.r)(h:Ww A w):∀a∈w,0<=a/\a<A.c+A.i+A.r:=by
 induction h with
 |nil=>simp
 |aQ w i h0 h1 _ ih=>
  intro a ha;rcases cY.1 ha with ha|ha
  .exact ih a ha
  .simp at ha;omega
 |aq w u c r h0 h1 h2 h3 _ _ nw oz=>
  intro a ha;simp only[cY,b5,List.not_mem_nil,or_false]at ha;rcases ha with ha|rfl|ha|rfl
  .exact nw a ha
  .omega
  .exact oz a ha
  .omega
structure lj.Ok (A:lj):Prop where
 p:0<=A.c/\0<=A.i/\0<=A.r
 s:A.c+A.i+A.r<=64
def Ww.sy{A:lj}(hA:A.Ok)(h:Ww A w):Ab.sy w:=λa ha=>by
 have:=h.sym hA.p a ha;have:=hA.s;omega
def an2{P:List Int->Prop}(d:∀w,P w->Ab.sy w)(a:P w):∃v,P v/\∀u,P u->aI v u<=0:=by
 have:∀(n:Nat) (w:List Int),dS w<=n->P w->∃v,P v/\∀u,P u->dS v<=dS u:=by
  intro n
  induction n with
  |zero=>exact λw h a=>⟨w,a,λu _=>aa⟩
  |succ n i=>
   intro w h a
   by_cases e:∃u,P u/\dS u<dS w
   .obtain⟨u,j,m⟩:=e
    exact i u aa j
   .exact⟨w,a,λu b=>by
     refine dF λo=>e ⟨u,b,aa⟩⟩
 obtain⟨v,g,l⟩:=this _ w (bd _) a;exact⟨v,g,λu b=>(oG (d v g) (d u b)).2 (l u b)⟩
structure fy (A:lj) (L:List Int->Prop) (ws:List (List Int)):Prop where
 pX:ws.Pairwise λa b=>aI a b<0
 ww:∀w∈ws,Ww A w
 ye:∀w∈ws,∀v,Ww A v->jw A L w v->aI w v<=0
 all:∀v,Ww A v->∃w∈ws,jw A L v w
def DP{a b:List Int}(h:aI a b<=0) (g:aI b a<=0):a=b:=by
 have:=cC.fL a b;exact cC.eq _ _ aa
def fy.one{A:lj}{L:List Int->Prop}{ws:List (List Int)}(h:fy A L ws)(hv:v∈ws) (hw:w∈ws) (e:jw A L v w):v=w:=
 DP (h.ye v hv w (h.ww w hw) e) (h.ye w hw v (h.ww v hv) e.symm)
def Ll:∀{a b:List (List Int)},a.Pairwise (λa b=>aI a b<0)->b.Pairwise (λa b=>aI a b<0)->(∀w,w∈a↔w∈b)->a=b
 | [],[],_,_,_=>rfl
 | [],y::b,_,_,h=>absurd ((h y).2 ab) ab
 |x::a,[],_,_,h=>absurd ((h x).1 ab) ab
 |x::a,y::b,i,j,h=>by
  rw[ku]at i j;have l:∀u v:List Int,aI u v<0->aI v u<0->False:=λu v m p=>by have:=cC.fL u v;omega
  have e:x=y:=by
   rcases b5.1 ((h x).1 ab)with e|n
   .exact e
   .rcases b5.1 ((h y).2 ab)with e|o
    .exact e.symm
    .exact absurd (i.1 y o) λm=>l _ _ m (j.1 x n)
  subst e;rw[Ll i.2 j.2 λw=>?_];constructor
  .intro g
   rcases b5.1 ((h w).1 iH)with e|d
   .subst e;exact absurd (i.1 w g) (by have:=cC.refl w;omega)
   .exact d
  .intro g
   rcases b5.1 ((h w).2 iH)with e|d
   .subst e;exact absurd (j.1 w g) (by have:=cC.refl w;omega)
   .exact d
def fy.oN{A:lj}{L:List Int->Prop}{a b:List (List Int)}(h:fy A L a) (g:fy A L b):a=b:=by
 have key:∀{a b:List (List Int)},fy A L a->fy A L b->∀w,w∈a->w∈b:=fun {a b} h g w hw=>by
  obtain⟨v,hv,e⟩:=g.all w (h.ww w hw);rw[DP (h.ye w hw v (g.ww v hv) e) (g.ye v hv w (h.ww w hw) e.symm)];exact hv
 exact Ll h.pX g.pX λw=>⟨key h g w,key g h w⟩
open Classical in
noncomputable def gF (A:lj) (L:List Int->Prop) (ws:List (List Int)) (v:List Int):Int:=(ws.findIdx λw=>decide (jw A L v w):Nat)
def sd{A:lj}{L:List Int->Prop}{ws:List (List Int)}(h:fy A L ws)(b:Ww A v):0<=gF A L ws v/\gF A L ws v<(ws.length:Int)/\jw A L v (ix ws (gF A L ws v)):=by
 obtain⟨w,d,e⟩:=h.all v b;have a:=List.findIdx_lt_length_of_exists (p:=λw=>@decide (jw A L v w) (Classical.propDecidable _)) ⟨w,d,gC⟩
 have g:=List.findIdx_getElem (w:=a);unfold gF;refine⟨aa,aa,?_⟩
 rw[aB a];simpa using g
def vh{A:lj}{L:List Int->Prop}{ws:List (List Int)}(h:fy A L ws)(j:Ww A v){i:Int}(l:0<=i) (i1:i<(ws.length:Int)) (e:jw A L v (ix ws i)):gF A L ws v=i:=by
 obtain⟨m,n,o⟩:=sd h j;have p:=aJ l i1;have q:=aJ m n;have:=h.one q p (o.symm.trans e);have d:ws.Nodup:=h.pX.imp fun {a b} g e=>by rw[e,cC.refl]at g;omega
 rw[show gF A L ws v=((gF A L ws v).toNat:Int)by omega,show i=(i.toNat:Int)by omega]at this
 rw[aB aa,aB aa]at this
 have:=(rN d).1 this;omega
def Vk{A:lj}{L:List Int->Prop}{ws:List (List Int)}(h:fy A L ws)(a:Ww A u) (g:Ww A v):gF A L ws u=gF A L ws v↔jw A L u v:=by
 obtain⟨i,j,b⟩:=sd h g;constructor
 .intro e
  obtain⟨l,m,d⟩:=sd h a;rw[e]at d;exact d.trans b.symm
 .exact λe=>vh h a i j (e.trans b)
end Ab
namespace Ab
def Vl{n:ao}(h:n.Ok):n.bC=0:=by
 have p:n.fH=0:=by
  have u:=h.calls;have w:=h.ak;have x:=h.ah;have y:=h.syms;have z:=h.stack;have m:=h.eU;have A:=h.start;obtain⟨B,C,D,E⟩:=h.lens;unfold ao.fH;rw[ad aa,ad aa,ad aa,ad aa,ad aa,ad (λe=>by rw[e]at m;simp at m),ad aa,ad aa,ad aa,ad aa,ad aa,ad aa,ad aa]
 unfold ao.bC;rw[ad (by simpa using p)]
 refine CT.2 λs b d=>?_;obtain⟨F,G,H,q⟩:=h.row s b d;unfold ao.eO;rw[ad aa,ad]
 .refine CT.2 λg o i=>?_
  rw[q]at i;have r:=h.CW s g b d o i;unfold ao.jI;rw[ad (by simpa using r),ad]
  rw[qx.2 λj a l=>h.pop s g j b d o i a aa]
  simp
 .rw[qx.2 λj a l=>h.call s j b d a aa,qx.2 λj a l=>h.push s j b d a aa,qx.2 λj a l=>h.inner s j b d a aa]
  simp
def Vm{n:ao}(h:n.Ok) (g:(∀l∈n.call,l.length<=100000)/\(∀l∈n.push,l.length<=100000)/\(∀l∈n.inner,l.length<=100000)/\∀l∈n.pop,l.length<=100000/\∀m∈l,m.length<=100000):n.fits:=by
 have i:=h.calls;have j:=h.ak;have o:=h.ah;have u:=h.stack;have w:=h.eU;have p:=h.start;have inr:∀x:Int,0<=x->x<=1000->kU x=true:=λx a b=>by simp[kU];omega
 obtain⟨b1,q,r,e⟩:=g;exact⟨inr _ i.1 aa,inr _ j.1 aa,inr _ o.1 aa,inr _ aa aa,inr _ p.1 aa,aa,λl d=>by have:=b1 l d;omega,λl d=>by have:=q l d;omega,λl d=>by have:=r l d;omega,λl d=>⟨by have:=(e l d).1;omega,λm s=>by have:=(e l d).2 m s;omega⟩⟩
def iu{a:Type} [Inhabited a]{N:Nat}{f:Nat->a}{s:Int}(b:0<=s) (d:s<(N:Int)):ix ((List.range N).map f) s=f s.toNat:=Lj b d
def lj.aE (A:lj) (k:Nat):Nat:=max 1 (k*A.c.toNat)
open Classical in
noncomputable def cJ (A:lj) (L:List Int->Prop) (ws:List (List Int)):ao:=⟨A.c,A.i,A.r,((A.aE ws.length:Nat):Int),0,
 (List.range ws.length).map λ(i:Nat)=>decide (L (ix ws (i:Int))),
 List.replicate ws.length (List.replicate A.c.toNat 0),
 (List.range ws.length).map λ(s:Nat)=>(List.range A.c.toNat).map λ(c:Nat)=>(s:Int)*A.c+(c:Int),
 (List.range ws.length).map λ(i:Nat)=>(List.range A.i.toNat).map λ(j:Nat)=>gF A L ws (ix ws (i:Int) ++ [A.c+(j:Int)]),
 (List.range ws.length).map λ(i:Nat)=>(List.range (A.aE ws.length)).map λ(g:Nat)=>(List.range A.r.toNat).map λ(r:Nat)=>if A.c.toNat=0 then 0 else gF A L ws (ix ws ((g/A.c.toNat:Nat):Int)++((g%A.c.toNat:Nat):Int)::(ix ws (i:Int) ++ [A.c+A.i+(r:Int)]))⟩
section
variable{A:lj}{L:List Int->Prop}{ws:List (List Int)}
def Lm:(cJ A L ws).accept.length=ws.length/\(cJ A L ws).call.length=ws.length/\(cJ A L ws).push.length=ws.length/\(cJ A L ws).inner.length=ws.length/\(cJ A L ws).pop.length=ws.length:=by
 simp[cJ]
def Ay{s c:Int}(a:0<=s) (b:s<(ws.length:Int)) (d:0<=c) (e:c<A.c):ix (ix (cJ A L ws).call s) c=0/\ix (ix (cJ A L ws).push s) c=s*A.c+c:=by
 constructor
 .show ix (ix (List.replicate ws.length (List.replicate A.c.toNat 0)) s) c=0
  rw[show s=((s.toNat:Nat):Int)by omega,show c=((c.toNat:Nat):Int)by omega,lQ aa,lQ aa]
 .show ix (ix ((List.range ws.length).map λ(s:Nat)=>(List.range A.c.toNat).map λ(c:Nat)=>(s:Int)*A.c+(c:Int)) s) c=_
  rw[iu a b,iu d aa]
  rw[show((s.toNat:Nat):Int)=s by omega,show((c.toNat:Nat):Int)=c by omega]
def an3{s:Int}(a:0<=s) (b:s<(ws.length:Int)):(ix (cJ A L ws).call s).length=A.c.toNat/\(ix (cJ A L ws).push s).length=A.c.toNat/\(ix (cJ A L ws).inner s).length=A.i.toNat/\(ix (cJ A L ws).pop s).length=A.aE ws.length:=by
 refine⟨?_,?_,?_,?_⟩
 .show(ix (List.replicate ws.length (List.replicate A.c.toNat (0:Int))) s).length=_
  rw[show s=((s.toNat:Nat):Int)by omega,lQ aa];simp
 .show(ix ((List.range ws.length).map λ(s:Nat)=>(List.range A.c.toNat).map λ(c:Nat)=>(s:Int)*A.c+(c:Int)) s).length=_
  rw[iu a b];simp
 .show(ix ((List.range ws.length).map λ(i:Nat)=>(List.range A.i.toNat).map λ(j:Nat)=>gF A L ws (ix ws (i:Int) ++ [A.c+(j:Int)])) s).length=_
  rw[iu a b];simp
 .show(ix ((List.range ws.length).map λ(i:Nat)=>(List.range (A.aE ws.length)).map λ(g:Nat)=>(List.range A.r.toNat).map λ(r:Nat)=>if A.c.toNat=0 then 0 else gF A L ws (ix ws ((g/A.c.toNat:Nat):Int)++((g%A.c.toNat:Nat):Int)::(ix ws (i:Int) ++ [A.c+A.i+(r:Int)]))) s).length=_
  rw[iu a b];simp
def Vn{s i:Int}(a:0<=s) (b:s<(ws.length:Int)) (d:0<=i) (i1:i<A.i):ix (ix (cJ A L ws).inner s) i=gF A L ws (ix ws s ++ [A.c+i]):=by
 show ix (ix ((List.range ws.length).map λ(i:Nat)=>(List.range A.i.toNat).map λ(j:Nat)=>gF A L ws (ix ws (i:Int) ++ [A.c+(j:Int)])) s) i=_;rw[iu a b,iu d aa,show((s.toNat:Nat):Int)=s by omega,show((i.toNat:Nat):Int)=i by omega]
def an4{s g:Int}(a:0<=s) (b:s<(ws.length:Int)) (d:0<=g) (e:g<(A.aE ws.length:Int)):(ix (ix (cJ A L ws).pop s) g).length=A.r.toNat:=by
 show(ix (ix ((List.range ws.length).map λ(i:Nat)=>(List.range (A.aE ws.length)).map λ(g:Nat)=>(List.range A.r.toNat).map λ(r:Nat)=>if A.c.toNat=0 then 0 else gF A L ws (ix ws ((g/A.c.toNat:Nat):Int)++((g%A.c.toNat:Nat):Int)::(ix ws (i:Int) ++ [A.c+A.i+(r:Int)]))) s) g).length=_
 rw[iu a b,iu d e];simp
variable{r:Int}
def Vo{s g:Int}(a:0<=s) (b:s<(ws.length:Int)) (d:0<=g) (e:g<(A.aE ws.length:Int)) (h:0<=r) (j:r<A.r):ix (ix (ix (cJ A L ws).pop s) g) r=if A.c.toNat=0 then 0 else gF A L ws (ix ws ((g.toNat/A.c.toNat:Nat):Int)++((g.toNat%A.c.toNat:Nat):Int)::(ix ws s ++ [A.c+A.i+r])):=by
 show ix (ix (ix ((List.range ws.length).map λ(i:Nat)=>(List.range (A.aE ws.length)).map λ(g:Nat)=>(List.range A.r.toNat).map λ(r:Nat)=>if A.c.toNat=0 then 0 else gF A L ws (ix ws ((g/A.c.toNat:Nat):Int)++((g%A.c.toNat:Nat):Int)::(ix ws (i:Int) ++ [A.c+A.i+(r:Int)]))) s) g) r=_
 rw[iu a b,iu d e,iu h aa,show((s.toNat:Nat):Int)=s by omega,show((r.toNat:Nat):Int)=r by omega]
def Vp{s p c:Int}(b:0<=s) (d:s<(ws.length:Int)) (p0:0<=p) (j:p<(ws.length:Int)) (l:0<=c) (m:c<A.c) (g:0<=r) (h:r<A.r):0<=p*A.c+c/\p*A.c+c<(A.aE ws.length:Int)/\ix (ix (ix (cJ A L ws).pop s) (p*A.c+c)) r=gF A L ws (ix ws p++c::(ix ws s ++ [A.c+A.i+r])):=by
 obtain⟨a,rfl⟩:∃a:Nat,p=a:=⟨p.toNat,aa⟩
 obtain⟨cn,rfl⟩:∃cn:Nat,c=cn:=⟨c.toNat,aa⟩
 have e:(a:Int)*A.c+(cn:Int)=((a*A.c.toNat+cn:Nat):Int):=rK
 have n:a*A.c.toNat+A.c.toNat<=ws.length*A.c.toNat:=rJ
 have o:a*A.c.toNat+cn<A.aE ws.length:=by
  show _<max 1 (ws.length*A.c.toNat);omega
 rw[e];refine⟨aa,aa,?_⟩
 rw[Vo b d aa aa g h,ad aa,lA,show(a*A.c.toNat+cn)/A.c.toNat=a from by rw[mO,Nat.mul_add_div aa,Nat.div_eq_of_lt aa,kf],show(a*A.c.toNat+cn)%A.c.toNat=cn from by rw[mO,Nat.mul_add_mod,Nat.mod_eq_of_lt aa]]
def fy.DQ (h:fy A L ws) (hA:A.Ok):1<=ws.length/\ix ws 0=[]:=by
 obtain⟨w,hw,e⟩:=h.all [] .nil;have hle:=h.ye w hw [] .nil e.symm;have hw0:w=[]:=by
  have:aI [] w<=0:=by
   unfold aI;split
   .omega
   .split
    .rename_i h1;simp at h1
    .rename_i h1 h2
     have:w=[]:=by cases w with
      |nil=>rfl
      |cons a w=>simp at h1
     subst this;simp[cy]
  exact DP hle this
 subst hw0;have hp:=List.length_pos_of_mem hw;refine⟨hp,?_⟩;cases ws with
 |nil=>simp at hp
 |cons x l=>
  have hx:x=[]:=by
   rcases b5.1 hw with e|hw
   .exact e.symm
   .have:=(ku.1 h.pX).1 [] hw
    unfold aI at this;split at this
    .rename_i h1;simp at h1
    .split at this
     .omega
     .cases x with
      |nil=>rfl
      |cons a x=>rename_i h1 h2;simp at h2
  rw[hx];rfl
def fy.Lo (h:fy A L ws){s:Int}(s0:0<=s) (s1:s<(ws.length:Int)):Ww A (ix ws s):=h.ww _ (aJ s0 s1)
def an5 (h:fy A L ws) (z:A.Ok) (G:1<=A.c+A.i+A.r) (H:ws.length<=128) (P:ws.length*A.c.toNat<=128):(cJ A L ws).Ok:=by
 have B:=z.p;have C:=z.s;obtain⟨n,I,J,K,M⟩:=Lm (A:=A) (L:=L) (ws:=ws);have N:=(h.DQ z).1;have D:A.aE ws.length=max 1 (ws.length*A.c.toNat):=rfl;have q:(cJ A L ws).stack=(A.aE ws.length:Int):=rfl;refine⟨⟨B.1,?_⟩,⟨B.2.1,?_⟩,⟨B.2.2,?_⟩,⟨G,C⟩,⟨by rw[q];omega,by rw[q];omega⟩,⟨by rw[n];omega,by rw[n];omega⟩,⟨Int.le_refl _,?_⟩,⟨by rw[n,I],by rw[n,J],by rw[n,K],by rw[n,M]⟩,λs l j=>?_,λs c l j u o=>?_,λs c l j u o=>?_,λs c l j u o=>?_,λs g l j E w=>?_,λs g r l j E w F y=>?_⟩
 .show A.c<=64;omega
 .show A.i<=64;omega
 .show A.r<=64;omega
 .show(0:Int)<_;rw[n];omega
 .rw[n]at j
  obtain⟨a,b,c,d⟩:=an3 (A:=A) (L:=L) l j;refine⟨?_,?_,?_,?_⟩
  .rw[a];show((A.c.toNat:Nat):Int)=A.c;omega
  .rw[b];show((A.c.toNat:Nat):Int)=A.c;omega
  .rw[c];show((A.i.toNat:Nat):Int)=A.i;omega
  .rw[d];rfl
 .rw[n]at j ⊢
  rw[(Ay l j u o).1];omega
 .rw[n]at j
  rw[(Ay l j u o).2]
  by_cases O:0<A.r
  .have:=Vp (A:=A) (L:=L) l j l j u o (r:=0) aa O
   exact⟨this.1,this.2.1⟩
  .-- no returns
   obtain⟨x,rfl⟩:∃x:Nat,s=x:=⟨s.toNat,aa⟩
   obtain⟨cn,rfl⟩:∃cn:Nat,c=cn:=⟨c.toNat,aa⟩
   have o:(cn:Int)<A.c:=o;have e:(x:Int)*A.c+(cn:Int)=((x*A.c.toNat+cn:Nat):Int):=rK
   have H:x*A.c.toNat+A.c.toNat<=ws.length*A.c.toNat:=rJ
   rw[e,q,D];omega
 .rw[n]at j ⊢
  rw[Vn l j u o];have:=sd h (.aQ _ c u o (h.Lo l j));exact⟨this.1,this.2.1⟩
 .rw[n]at j
  rw[an4 l j E w];show((A.r.toNat:Nat):Int)=A.r;omega
 .rw[n]at j ⊢
  rw[Vo l j E w F y];split
  .omega
  .rename_i Q
   have w:g<(A.aE ws.length:Int):=w;have R:=l6 g.toNat (show 0<A.c.toNat by omega)
   have hd:g.toNat/A.c.toNat<ws.length:=by
    rw[oV aa]
    have:1<=ws.length*A.c.toNat:=Nat.mul_pos N aa
    omega
   have y:r<A.r:=y;generalize g.toNat/A.c.toNat=d at *;generalize g.toNat%A.c.toNat=m at *;have:=sd h (.aq (ix ws ((d:Nat):Int)) (ix ws s) ((m:Nat):Int) r aa aa F y (h.Lo aa aa) (h.Lo l j))
   exact⟨this.1,this.2.1⟩
def Ww.app{u v:List Int}(hu:Ww A u) (hv:Ww A v):Ww A (u++v):=by
 induction hv with
 |nil=>simpa using hu
 |aQ w i h0 h1 _ ih=>rw[<-List.append_assoc];exact .aQ _ i h0 h1 ih
 |aq w x c r h0 h1 h2 h3 _ hx nw _=>rw[<-List.append_assoc];exact .aq _ x c r h0 h1 h2 h3 nw hx
variable{w:List Int}
def an6 (h:fy A L ws) (C:A.Ok)(l:Ww A w):∀u,Ww A u->Wd (cJ A L ws).eA (gF A L ws u) (gF A L ws (u++w)) w:=by
 induction l with
 |nil=>intro u d;rw[List.append_nil];exact .nil _
 |aQ w i m n l D=>
  intro u d;have a:=d.app l;have r:=sd h a;refine(D u d).app ?_;have e:(cJ A L ws).eA.inner (gF A L ws (u++w)) i=gF A L ws (u++(w ++ [A.c+i])):=by
   show ix (ix (cJ A L ws).inner _) i=_;rw[Vn r.1 r.2.1 m n];refine(Vk h (.aQ _ i m n (h.Lo r.1 r.2.1)) ?_).2 ?_
   .rw[<-List.append_assoc];exact .aQ _ i m n a
   .rw[<-List.append_assoc];exact r.2.2.symm.aQ m n
  have:=Wd.aQ (M:=(cJ A L ws).eA) (gF A L ws (u++w)) i (gF A L ws (u++(w ++ [A.c+i]))) [] m n (by rw[e];exact .nil _)
  exact this
 |aq w y c r g j o p l B s x=>
  intro u d;have a:=d.app l;have q:=sd h a;have b:=sd h B;have E:=h.DQ C;refine(s u d).app ?_;have z:=x [] .nil;rw[mQ]at z;have e0:gF A L ws []=0:=vh h .nil aa aa (by rw[E.2];exact jw.refl _)
  rw[e0]at z;have ec:=Ay (A:=A) (L:=L) q.1 q.2.1 g j;have F:=Vp (A:=A) (L:=L) b.1 b.2.1 q.1 q.2.1 g j o p;have e:(cJ A L ws).eA.pop (gF A L ws y) ((cJ A L ws).eA.call (gF A L ws (u++w)) c).2 r=gF A L ws (u++(w++c::(y ++ [A.c+A.i+r]))):=by
   show ix (ix (ix (cJ A L ws).pop (gF A L ws y)) (ix (ix (cJ A L ws).push (gF A L ws (u++w))) c)) r=_;rw[ec.2,F.2.2];refine(Vk h (.aq _ _ c r g j o p (h.Lo q.1 q.2.1) (h.Lo b.1 b.2.1)) ?_).2 ?_
   .rw[<-List.append_assoc];exact .aq _ y c r g j o p a B
   .rw[<-List.append_assoc];exact q.2.2.symm.aq b.2.2.symm g j o p a (h.Lo b.1 b.2.1)
  have:=Wd.call (M:=(cJ A L ws).eA) (gF A L ws (u++w)) c (gF A L ws y) r (gF A L ws (u++(w++c::(y ++ [A.c+A.i+r])))) y [] g j o p (by rw[show((cJ A L ws).eA.call (gF A L ws (u++w)) c).1=0 from ec.1];exact z) (by rw[e];exact .nil _)
  exact this
def Vq (h:fy A L ws)(a:Ww A w):ix (cJ A L ws).accept (gF A L ws w)=true↔L w:=by
 have q:=sd h a;show ix ((List.range ws.length).map λ(i:Nat)=>@decide (L (ix ws (i:Int))) (Classical.propDecidable _)) _=true↔_;rw[iu q.1 q.2.1,show(((gF A L ws w).toNat:Nat):Int)=gF A L ws w by omega]
 rw[@decide_eq_true_eq _ (Classical.propDecidable _)];exact q.2.2.acc.symm
end
end Ab
namespace Ab
abbrev ao.cK (n:ao):lj:=⟨n.calls,n.ak,n.ah⟩
def ao.bh (n:ao) (w:List Int):Prop:=∃t,Wd n.eA n.start t w/\ix n.accept t=true
def ao.Ok.cK{n:ao}(h:n.Ok):n.cK.Ok:=⟨⟨h.calls.1,h.ak.1,h.ah.1⟩,h.syms.2⟩
def vP (n:ao) (k:List Int):Prop:=k.length=n.bj.length/\∃w,Ww n.cK w/\∀j:Nat,j<n.bj.length->Wd n.eA (ix n.bj (j:Int)) (ix k (j:Int)) w
variable{plc:List Int}
def an7{n:ao}(g:n.Ok){m:List Int}(o:AY n plc){t c r:Int}{u:List Int}(h:0<=t) (p:t<(n.accept.length:Int)) (i:0<=c) (q:c<n.calls) (s:0<=r) (w:r<n.ah) (x:∀j:Nat,j<n.bj.length->Wd n.eA (ix n.bj (j:Int)) (ix m (j:Int)) u):Wd n.eA t (n.qy plc m c r t) (c::(u ++ [n.calls+n.ak+r])):=by
 have b:ix (ix n.call t) c∈n.bj:=by
  have y:=(g.row t h p).1;have z:=g.lens;exact r7.2 (.inr ⟨_,aJ h aa,aJ i aa⟩)
 obtain⟨j,a,d⟩:=eL.1 b;have e:=o.x4 j a;rw[aB a,d]at e;have l:=x j a;rw[aB a,d]at l;have:=Wd.call (M:=n.eA) t c (ix m (j:Int)) r _ u [] i q s w l (.nil _);rw[show n.qy plc m c r t=n.eA.pop (ix m (j:Int)) (n.eA.call t c).2 r from by
  unfold ao.qy;rw[e];rfl]
 exact this
def an8{n:ao}(a:n.Ok){k:List Int}(h:vP n k):n.oF k:=λs b=>by
 obtain⟨g,w,_,d⟩:=h;obtain⟨j,e,rfl⟩:=eL.1 b;have:=d j aa
 rw[aB e,aB (show j<n.bj.length by omega)]at this
 exact this.range (J0 a) (tG a _ (List.getElem_mem _))
def an9{n:ao}(p:n.Ok)(A:AY n plc):EP (vP n) n plc:=by
 refine⟨λk d i q i1=>?_,λk m d B c r s x y z=>?_⟩
 .obtain⟨e,w,g,h⟩:=d
  refine⟨gC,_,.aQ w i q i1 g,λj a=>?_⟩
  rw[iR aa aa]
  exact(h j a).app (.aQ _ i _ [] q i1 (.nil _))
 .have C:=an8 p d
  obtain⟨e,w,g,h⟩:=d;obtain⟨D,u,E,o⟩:=B;refine⟨gC,_,.aq w u c r s x y z g E,λj a=>?_⟩
  rw[iR aa aa]
  have b:=C _ (aJ (l:=k) (n:=(j:Int)) aa aa)
  exact(h j a).app (an7 p A b.1 b.2 s x y z o)
def aoa{n:ao}:vP n n.bj:=⟨rfl,[],.nil,λj _=>.nil _⟩
section
variable{n:ao}{D:Vd}{cls:List Int}{k:Nat}
variable{x:Int}{w:List Int}
def Dv.ww (hd:D.n=n)(h:Dv D x w):Ww n.cK w:=by
 subst hd
 induction h with
 |nil=>exact .nil
 |aQ x i w i0 i1 _ ih=>exact .aQ w i i0 i1 ih
 |aq x c y r w u c0 c1 r0 r1 _ _ nw oz=>exact .aq w u c r c0 c1 r0 r1 nw oz
def tL (hd:D.n=n)(h:Ww n.cK w):∃x,Dv D x w:=by
 subst hd
 induction h with
 |nil=>exact⟨0,.nil⟩
 |aQ w i e i1 _ g=>obtain⟨x,a⟩:=g;exact⟨_,.aQ x i w e i1 a⟩
 |aq w u c r j l m o _ _ b d=>
  obtain⟨x,a⟩:=b;obtain⟨y,p⟩:=d;exact⟨_,.aq x c y r w u j l m o a p⟩
def yb.word (h:yb (vP n) n D cls k){x:Nat}(hx:x<D.K.length):∃w,Dv D x w:=by
 have hn:=h.d.n;have l9 : n=D.n:=hn.symm;obtain⟨hl,w,hw,hj⟩:=h.d.v.kx hx;obtain⟨y,hy⟩:=tL hn hw;have hD:=pM h.d.v h.f;have ry:=hy.eV hD;have ky:=h.d.v.ok.kx (x:=y.toNat) aa
 refine⟨w,?_⟩;have e:ix D.K (x:Int)=ix D.K (y.toNat:Int):=by
  refine xc (by rw[ky.2,hl,hn]) λj j0 j1=>?_
  have h1:=hj j.toNat aa
  have h2:=hy.wd h.d.v h.f h.d.p j.toNat (by rw[hn];omega)
  rw[show((j.toNat:Nat):Int)=j by omega]at h1 h2
  rw[show((y.toNat:Nat):Int)=y by omega]
  rw[hn]at h2;exact Wd.oN (M:=n.eA) (hn▸h.d.v.ok.ok.m0) h1 h2
 rw[aB hx,aB (show y.toNat<D.K.length by omega)]at e
 have:=(rN h.d.v.nd).1 e;rw[show(x:Int)=y by omega]
 exact hy
def yb.bh (h:yb (vP n) n D cls k)(hx:Dv D x w):n.bh w↔D.ac D.iV x=true:=by
 have hn:=h.d.n;have hs:D.n.start∈D.n.bj:=r7.2 (.inl rfl);obtain⟨m,Ax,E3⟩:=eL.1 hs;have Vj:=h.d.p.x4 m Ax;have hw:=hx.wd h.d.v h.f h.d.p m Ax;rw[aB Ax,E3]at Vj hw;have e:D.ac D.iV x=ix D.n.accept (ix (ix D.K x) (m:Int)):=by unfold Vd.ac Vd.iV;rw[Vj]
 rw[e];have dw:=h.d.v.ok.ok;subst hn;constructor
 .rintro⟨t,ht,ha⟩
  rw[hw.oN dw.m0 ht];exact ha
 .exact λha=>⟨_,hw,ha⟩
def yb.alk (h:yb (vP n) n D cls k){y:Int}{u v:List Int}(hx:Dv D x u) (hy:Dv D y v):jw n.cK n.bh u v↔ix cls x=ix cls y:=by
 have hD:=pM h.d.v h.f;have hn:=h.d.n;have key:∀{x y:Int},xo D D.iV x y->∀u v,Dv D x u->Dv D y v->Sep n.cK n.bh u v:=by
  intro x y hs
  induction hs with
  |acc x y ha=>
   intro u v hu hv;refine .acc _ _ λe=>ha ?_;rw[h.bh hu,h.bh hv]at e;cases h1:D.ac D.iV x<;>cases h2:D.ac D.iV y<;>simp_all
  |aQ x y i i0 i1 _ ih=>
   intro u v hu hv;have:=ih _ _ (.aQ x i u i0 i1 hu) (.aQ y i v i0 i1 hv);rw[hn]at this i1;exact .aQ _ _ i i0 i1 this
  |bl x y c z r c0 c1 z0 z1 r0 r1 _ ih=>
   intro u v hu hv;obtain⟨w,hw⟩:=h.word (x:=z.toNat) aa
   rw[show((z.toNat:Nat):Int)=z by omega]at hw
   have:=ih _ _ (.aq x c z r u w c0 c1 r0 r1 hu hw) (.aq y c z r v w c0 c1 r0 r1 hv hw);rw[hn]at this c1 r1;exact .bl _ _ w c r c0 c1 r0 r1 (hw.ww hn) this
  |br x y c z r c0 c1 z0 z1 r0 r1 _ ih=>
   intro u v hu hv;obtain⟨w,hw⟩:=h.word (x:=z.toNat) aa
   rw[show((z.toNat:Nat):Int)=z by omega]at hw
   have:=ih _ _ (.aq z c x r w u c0 c1 r0 r1 hw hu) (.aq z c y r w v c0 c1 r0 r1 hw hv);rw[hn]at this c1 r1;exact .br _ _ w c r c0 c1 r0 r1 (hw.ww hn) this
 have back:∀{u v:List Int},Sep n.cK n.bh u v->∀x y,Dv D x u->Dv D y v->ix cls x ≠ ix cls y:=by
  intro u v hs
  induction hs with
  |acc u v ha=>
   intro x y hu hv e;have rx:=hu.eV hD;have ry:=hv.eV hD;have:=h.c.c.ac x.toNat y.toNat aa aa rL
   rw[show((x.toNat:Nat):Int)=x by omega,show((y.toNat:Nat):Int)=y by omega]at this
   exact ha (by rw[h.bh hu,h.bh hv,this])
  |aQ u v i i0 i1 _ ih=>
   intro x y hu hv e;have rx:=hu.eV hD;have ry:=hv.eV hD;have hg:=h.c.Kx x.toNat y.toNat aa aa rL
   rw[show((x.toNat:Nat):Int)=x by omega,show((y.toNat:Nat):Int)=y by omega]at hg
   have i1' : i<D.n.ak:=by rw[hn];exact i1
   have h1:=Dv.aQ x i u i0 i1' hu;have h2:=Dv.aQ y i v i0 i1' hv;rw[hn]at h1 h2;exact ih _ _ h1 h2 (hg.i i i0 i1')
  |bl u v w c r c0 c1 r0 r1 hw _ ih=>
   intro x y hu hv e;have rx:=hu.eV hD;have ry:=hv.eV hD;have hg:=h.c.Kx x.toNat y.toNat aa aa rL
   rw[show((x.toNat:Nat):Int)=x by omega,show((y.toNat:Nat):Int)=y by omega]at hg
   obtain⟨z,hz⟩:=tL hn hw;have rz:=hz.eV hD;have Lp : c<D.n.calls:=by rw[hn];exact c1
   have DR : r<D.n.ah:=by rw[hn];exact r1
   have h1:=Dv.aq x c z r u w c0 Lp r0 DR hu hz;have h2:=Dv.aq y c z r v w c0 Lp r0 DR hv hz;rw[hn]at h1 h2;exact ih _ _ h1 h2 (hg.l c z r c0 Lp rz.1 rz.2 r0 DR)
  |br u v w c r c0 c1 r0 r1 hw _ ih=>
   intro x y hu hv e;have rx:=hu.eV hD;have ry:=hv.eV hD;have hg:=h.c.Kx x.toNat y.toNat aa aa rL
   rw[show((x.toNat:Nat):Int)=x by omega,show((y.toNat:Nat):Int)=y by omega]at hg
   obtain⟨z,hz⟩:=tL hn hw;have rz:=hz.eV hD;have Lp : c<D.n.calls:=by rw[hn];exact c1
   have DR : r<D.n.ah:=by rw[hn];exact r1
   have h1:=Dv.aq z c x r w u c0 Lp r0 DR hz hu;have h2:=Dv.aq z c y r w v c0 Lp r0 DR hz hv;rw[hn]at h1 h2;exact ih _ _ h1 h2 (hg.r c z r c0 Lp rz.1 rz.2 r0 DR)
 constructor
 .intro ha
  refine dF λe=>ha ?_;have rx:=hx.eV hD;have ry:=hy.eV hD;have:=h.c.c.sep x.toNat y.toNat aa aa
  rw[show((x.toNat:Nat):Int)=x by omega,show((y.toNat:Nat):Int)=y by omega]at this
  exact key (this e) _ _ hx hy
 .exact λe hs=>back hs _ _ hx hy e
structure MM (D:Vd) (cls:List Int) (k:Nat) (l:List iB):Prop where
 len:l.length=k
 cl:∀i:Nat,i<k->(ix l (i:Int)).1=i
 w:∀i:Nat,i<k->(∃x,Dv D x (ix l (i:Int)).2.2/\ix cls x=i)/\∀y v,Dv D y v->ix cls y=i->aI (ix l (i:Int)).2.2 v<=0
def yb.Vr (h:yb (vP n) n D cls k):∃l,MM D cls k l:=by
 have hD:=pM h.d.v h.f;have hA:=h.d.v.ok.ok.cK;have:∀i:Nat,i<k->∃w,(∃x,Dv D x w/\ix cls x=i)/\∀v,(∃y,Dv D y v/\ix cls y=i)->aI w v<=0:=λi hi=>by
  have hoc:=h.c.c.can.occ (i:Int) aa aa
  obtain⟨x,hx,e⟩:=eL.1 hoc;obtain⟨w,hw⟩:=h.word (x:=x) (by rw[<-h.c.c.len];exact hx)
  exact an2 (P:=λw=>∃x,Dv D x w/\ix cls x=i) (λw ⟨x,hx,_⟩=>(hx.ww rfl).sy hA) ⟨x,hw,by rw[aB hx];exact e⟩
 refine⟨(List.range k).map λ(i:Nat)=>((i:Int),0,if hi:i<k then Classical.choose (this i hi)else[]),ab,λi hi=>?_,λi hi=>?_⟩
 .rw[iu aa aa];simp
 .rw[iu aa aa]
  dsimp only;rw[Int.toNat_natCast,dif_pos hi];have:=Classical.choose_spec (this i hi);exact⟨this.1,λy v hy e=>this.2 v ⟨y,hy,e⟩⟩
def MM.DS (h:yb (vP n) n D cls k){l:List iB}(hl:MM D cls k l):fy n.cK n.bh ((dx l).map λc=>c.2.2):=by
 have hn:=h.d.n;have hD:=pM h.d.v h.f;have hp:=qI l;have qS:(l.map λc=>c.2.2).Nodup:=by
  rw[List.Nodup,qm];intro i j hi hj vR e;simp only[dA]at hi hj;simp only[lI]at e;rw[<-aB hi,<-aB hj]at e;have hlen:=hl.len;obtain⟨⟨x,hx,ex⟩,_⟩:=hl.w i aa
  obtain⟨⟨y,hy,ey⟩,_⟩:=hl.w j aa
  rw[e]at hx;rw[Dv.oN h.d.v h.f h.d.p hx hy,ey]at ex;omega
 have l8:∀w,w∈((dx l).map λc=>c.2.2)->∃i:Nat,i<k/\(ix l (i:Int)).2.2=w:=λw hw=>by
  obtain⟨c,hc,rfl⟩:=cx.1 hw;obtain⟨i,hi,e⟩:=eL.1 (hp.mem_iff.1 hc);exact⟨i,by rw[<-hl.len];exact hi,by rw[aB hi,e]⟩
 refine⟨?_,λw hw=>?_,λw hw v hv ha=>?_,λv hv=>?_⟩
 .rw[List.pairwise_map]
  exact K9 qS
 .obtain⟨i,hi,rfl⟩:=l8 w hw
  obtain⟨⟨x,hx,_⟩,_⟩:=hl.w i hi;exact hx.ww hn
 .obtain⟨i,hi,rfl⟩:=l8 w hw
  obtain⟨⟨x,hx,ex⟩,DU⟩:=hl.w i hi;obtain⟨y,hy⟩:=tL hn hv;exact DU y v hy (by rw[<-(h.alk hx hy).1 ha,ex])
 .obtain⟨y,hy⟩:=tL hn hv
  have ry:=hy.eV hD;have hc:=h.c.c.can.eV _ (aJ (l:=cls) ry.1 (by rw[h.c.c.len];exact ry.2))
  obtain⟨⟨x,hx,ex⟩,DU⟩:=hl.w (ix cls y).toNat aa
  refine⟨_,cx.2 ⟨ix l ((ix cls y).toNat:Int),hp.mem_iff.2 (aJ aa (by have:=hl.len;omega)),rfl⟩,?_⟩
  exact(h.alk hy hx).2 (by rw[ex];omega)
end
open Classical in
noncomputable def tM (A:lj) (L:List Int->Prop) (ws:List (List Int)):ao×Int:=
 if 128<ws.length\/128<ws.length*A.c.toNat then(zN,11)
 else if ∃w∈ws,1024<w.length then(zN,3)
 else(cJ A L ws,0)
variable{l:List iB}
def MM.Lq{D:Vd}{cls:List Int}{k:Nat}(h:MM D cls k l):((dx l).map λc=>c.2.2).length=k:=by
 rw[dA,(qI l).length_eq,h.len]
def yc.Vr{n:ao}{D:Vd}{cls:List Int}{k:Nat}{S:Fd}(h:yc (vP n) n D cls k S l) (hn:l.any neg=false):MM D cls k l:=by
 have hv:∀i:Nat,i<l.length->0<=(ix l (i:Int)).2.1:=λi hi=>by
  have:=List.any_eq_false.1 hn _ (aJ (l:=l) (n:=(i:Int)) aa aa)
  simp[neg]at this;exact this
 have hlen:=h.l.len;have hD:=pM h.c.d.v h.c.f;refine⟨hlen,h.l.cl,λi hi=>?_⟩;obtain⟨a1,a2,a3,a4⟩:=h.wd hi (hv i aa)
 refine⟨⟨_,a3.1,a2⟩,λy v hy ec=>?_⟩;have ry:=hy.eV hD;obtain⟨u,hu,qc⟩:=Ut hD (by have:=h.c.d.v.ok.ok.syms;omega) hy
 have mJ:=hu.2 v hy
 by_cases hs:u.length<=1024
 .have hf:ix S.F y=true:=(h.s.fd y ry.1 (by rw[h.s.l];exact ry.2)).2 ⟨u,hu,aa⟩
  have hw:=h.s.lw y u hu aa
  have:=(h.l.yes i hi (hv i aa)).2 y.toNat aa (by rw[show((y.toNat:Nat):Int)=y by omega];exact ec) (by rw[show((y.toNat:Nat):Int)=y by omega];exact hf)
  rw[show((y.toNat:Nat):Int)=y by omega]at this
  unfold Fd.wd at this;rw[hw]at this;exact cC.trans _ _ _ this mJ
 .refine cC.trans _ _ _ ?_ mJ
  unfold aI;rw[ae aa];omega
def aob{n:ao}{D:Vd}{cls:List Int}{k:Nat}{S:Fd}{st:List Int}(h:yc (vP n) n D cls k S l) (Q:l.any neg=false) (V:st.length=l.length) (W:∀i:Nat,i<l.length->ix st (v8 (dx l) i)=i):tH D cls (dx l) st=cJ n.cK n.bh ((dx l).map λc=>c.2.2):=by
 have I:=h.Vr Q;have X:=I.DS h.c;have J:=qI l;have z:(dx l).length=l.length:=J.length_eq;have hlen:=h.l.len;have Y:=pM h.c.d.v h.c.f;have b:=h.c.d.n;have Z:∀i:Nat,i<l.length->0<=(ix l (i:Int)).2.1:=λi m=>by
  have:=List.any_eq_false.1 Q _ (aJ (l:=l) (n:=(i:Int)) aa aa)
  simp[neg]at this;exact this
 generalize B:((dx l).map λc=>c.2.2)=ws at *;have o:ws.length=l.length:=by rw[<-B,dA,z]
 have K:∀i:Nat,i<l.length->ix ws (i:Int)=(ix (dx l) (i:Int)).2.2:=λi m=>by rw[<-B];exact iR aa aa
 -- each state
 have u:∀i:Nat,i<l.length->Dv D (xy (dx l) i) (ix ws (i:Int))/\ix cls (xy (dx l) i)=v8 (dx l) i:=λi m=>by
  have G:=J.mem_iff.1 (aJ (l:=dx l) (n:=(i:Int)) aa aa)
  obtain⟨j,C,e⟩:=eL.1 G;rw[<-aB C]at e;obtain⟨a1,a2,a3,a4⟩:=h.wd (i:=j) aa (Z j C)
  rw[K i m];unfold xy v8;rw[<-e,a2,h.l.cl j aa]
  exact⟨a3.1,rfl⟩
 have L:∀q:Int,0<=q->q<(k:Int)->∃p:Nat,p<l.length/\v8 (dx l) p=q:=λq q0 q1=>by
  have G:=J.mem_iff.2 (aJ (l:=l) (n:=q) q0 aa)
  obtain⟨p,M,e⟩:=eL.1 G;refine⟨p,aa,?_⟩
  unfold v8;rw[aB M,e];have:=h.l.cl q.toNat aa
  rw[show((q.toNat:Nat):Int)=q by omega]at this
  exact this
 have w:∀y v,Dv D y v->XY st cls y=gF n.cK n.bh ws v:=λy v N=>by
  have R:=N.eV Y;have A:=h.c.c.c.can.eV _ (aJ (l:=cls) R.1 (by rw[h.c.c.c.len];exact R.2))
  obtain⟨p,E,F⟩:=L _ A.1 A.2;unfold XY;rw[<-F,W p E]
  symm
  refine vh X (N.ww b) aa aa ?_
  obtain⟨b1,b2⟩:=u p E;exact(h.c.alk N b1).2 (by rw[b2,F])
 have x:D.n.aE l.length=n.cK.aE ws.length:=by
  show max 1 (l.length*D.n.calls.toNat)=max 1 (ws.length*n.calls.toNat);rw[o,b]
 have e1:(List.range l.length).map (λi=>D.ac D.iV (xy (dx l) i))=(List.range ws.length).map λ(i:Nat)=>@decide (n.bh (ix ws (i:Int))) (Classical.propDecidable _):=by
  rw[o];refine eM λi m=>?_;have m:=bQ.1 m;have H:=h.c.bh (u i m).1;cases T:D.ac D.iV (xy (dx l) i)with
  |true=>rw[T]at H;exact(@decide_eq_true _ (Classical.propDecidable _) (H.2 rfl)).symm
  |false=>rw[T]at H;exact(@decide_eq_false _ (Classical.propDecidable _) λa=>by simp[H]at a).symm
 have e2:(D.n.dT l.length l.length).call=List.replicate ws.length (List.replicate n.calls.toNat 0):=by rw[o,b];rfl
 have e3:(D.n.dT l.length l.length).push=(List.range ws.length).map λ(s:Nat)=>(List.range n.calls.toNat).map λ(c:Nat)=>(s:Int)*n.calls+(c:Int):=by rw[o,b];rfl
 have e4:(List.range l.length).map (λi=>(List.range D.n.ak.toNat).map λj=>DI D cls (dx l) st i j)=(List.range ws.length).map λ(i:Nat)=>(List.range n.ak.toNat).map λ(j:Nat)=>gF n.cK n.bh ws (ix ws (i:Int) ++ [n.calls+(j:Int)]):=by
  rw[o];refine eM λi m=>?_;have m:=bQ.1 m;rw[b];refine eM λj C=>?_;have C:=bQ.1 C;have hd:=Dv.aQ _ (j:Int) _ aa (by rw[b];omega) (u i m).1
  have:=w _ _ hd;rw[b]at this;exact this
 have e5:(List.range l.length).map (λi=>(List.range (D.n.aE l.length)).map λg=>(List.range D.n.ah.toNat).map λr=>vg D cls (dx l) st i g r)=(List.range ws.length).map λ(i:Nat)=>(List.range (n.cK.aE ws.length)).map λ(g:Nat)=>(List.range n.ah.toNat).map λ(r:Nat)=>if n.calls.toNat=0 then 0 else gF n.cK n.bh ws (ix ws ((g/n.calls.toNat:Nat):Int)++((g%n.calls.toNat:Nat):Int)::(ix ws (i:Int) ++ [n.calls+n.ak+(r:Int)])):=by
  rw[x,o];refine eM λi m=>?_;have m:=bQ.1 m;refine eM λg O=>?_;have O:=bQ.1 O;rw[b];refine eM λr U=>?_;have U:=bQ.1 U;unfold vg;rw[b]
  by_cases A:n.calls.toNat=0
  .rw[ae A,ae A]
  .rw[ad A,ad A]
   have G:=l6 g (show 0<n.calls.toNat by omega)
   have AQ : g<max 1 (l.length*n.calls.toNat):=O;have h0:1<=l.length*n.calls.toNat:=Nat.mul_pos aa aa
   have P:g/n.calls.toNat<l.length:=by
    rw[oV aa]
    omega
   have hd:=Dv.aq _ ((g%n.calls.toNat:Nat):Int) _ (r:Int) _ _ aa (by rw[b];omega) aa (by rw[b];omega) (u _ P).1 (u i m).1
   have:=w _ _ hd;rw[b]at this;exact this
 have e6:((D.n.aE (dx l).length:Nat):Int)=((n.cK.aE ws.length:Nat):Int):=by rw[z,x]
 unfold tH cJ;rw[z]at *;rw[e1,e2,e3,e4,e5,e6,b]
def A8.out{n r:ao}{e:Int}(h:A8 (vP n) n r e) (hv:n.bC=0) (hb:∀D,ML (vP n) n D->D.K.length<=512):∃ws,fy n.cK n.bh ws/\(r,e)=tM n.cK n.bh ws:=by
 cases h with
 |inv h=>exact absurd hv h
 |many D _ hd hk=>have:=hb D hd;omega
 |dK D cls k _ hc hk=>
  obtain⟨l,hl⟩:=hc.Vr;refine⟨_,hl.DS hc,?_⟩;unfold tM;rw[hl.Lq,ae hk]
 |Lk D cls k S l _ hL hn=>
  obtain⟨l', jL⟩:=hL.c.Vr;refine⟨_,jL.DS hL.c,?_⟩;have hD:=pM hL.c.d.v hL.c.f;unfold tM;have hkb:=hL.kb;rw[jL.Lq,ad (by show ¬(128<k\/128<k*n.calls.toNat);omega),ae]
  obtain⟨c,hc,Vs⟩:=List.any_eq_true.1 hn;simp[neg]at Vs;obtain⟨i,hi,e⟩:=eL.1 hc;rw[<-aB hi]at e;have hlen:=hL.l.len;obtain⟨_,yD⟩:=hL.l.no i aa (by rw[e];exact Vs)
  obtain⟨⟨x,hx,ex⟩,DU⟩:=jL.w i aa
  have rx:=hx.eV hD;refine⟨_,cx.2 ⟨ix l' (i:Int),(qI l').mem_iff.2 (aJ aa (by have:=jL.len;omega)),rfl⟩,dF λhsm=>?_⟩
  have hf:=(hL.s.fd x rx.1 (by rw[hL.s.l];exact rx.2)).2 ⟨_,⟨hx,λv hv=>DU x v hv ex⟩,aa⟩
  have:=yD x.toNat aa (by rw[show((x.toNat:Nat):Int)=x by omega];exact ex)
  rw[show((x.toNat:Nat):Int)=x by omega,hf]at this
  simp at this
 |ok D cls k S l st _ hL hn h1 h2=>
  have Ul:=hL.Vr hn;refine⟨_,Ul.DS hL.c,?_⟩;have hkb:=hL.kb;unfold tM;rw[Ul.Lq,ad (by show ¬(128<k\/128<k*n.calls.toNat);omega),ad,aob hL hn h1 h2]
  rintro⟨w,hw,cm⟩;obtain⟨c,hc,rfl⟩:=cx.1 hw;obtain⟨i,hi,e⟩:=eL.1 ((qI l).mem_iff.1 hc);have hlen:=hL.l.len;have px:=List.any_eq_false.1 hn _ (aJ (l:=l) (n:=(i:Int)) aa aa)
  simp[neg]at px;have:=(hL.wd (i:=i) aa px).2.2.2
  rw[aB hi,e]at this;omega
def se (m:Nat):Nat->List (List Int)
 |0=>[[]]
 |e+1=>(List.range m).flatMap λ(x:Nat)=>(se m e).map λv=>(x:Int)::v
def Lr{m:Nat}:∀e,(se m e).length=m^e
 |0=>rfl
 |e+1=>by
  have b:=Lr (m:=m) e;have:∀k:Nat,((List.range k).flatMap λ(x:Nat)=>(se m e).map λv=>(x:Int)::v).length=k*m^e:=by
   intro k
   induction k with
   |zero=>simp
   |succ k a=>rw[jh,List.flatMap_append,aU,a,fh];simp[b]
  unfold se;rw[this m,Nat.pow_succ,mO]
def Ls{m:Nat}:∀{e:Nat}{k:List Int},k.length=e->(∀x∈k,0<=x/\x<(m:Int))->k∈se m e
 |0,[],_,_=>by simp[se]
 |e+1,x::k,a,h=>by
  have d:=h x ab
  unfold se;rw[mW];exact⟨x.toNat,by rw[bQ];omega,cx.2 ⟨k,Ls iJ λy b=>h y fj,by rw[show((x.toNat:Nat):Int)=x by omega]⟩⟩
def ML.few{n:ao}{D:Vd}(h:ML (vP n) n D):D.K.length<=n.accept.length^n.bj.length:=by
 have:=Lf (l:=D.K) (L:=se n.accept.length n.bj.length) h.v.nd λk hk=>by
  obtain⟨h1,h2⟩:=h.v.ok.st k hk;rw[h.n]at h1 h2;exact Ls h2 h1
 rw[Lr]at this;exact this
end Ab
