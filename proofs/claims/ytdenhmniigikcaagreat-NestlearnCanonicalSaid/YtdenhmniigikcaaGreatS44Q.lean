/- First words by the document's table; and what it leans on. Condition: none. -/
import Derived.Test.YtdenhmniigikcaaGreatS44F
import Derived.Test.YtdenhmniigikcaaGreatS44L
set_option linter.all false
set_option maxRecDepth 100000
set_option maxHeartbeats 4000000
namespace Ab
abbrev TO:=Int->Int->Option (List Int)
inductive tP (M:eI) (T:TO) (s t:Int):List Int->Prop
 |aH (i:Int) (x:List Int):0<=i->i<M.af->T (M.inner s i) t=some x->tP M T s t ((M.calls+i)::x)
 |call (c p r:Int) (x y:List Int):0<=c->c<M.calls->0<=p->p<(M.size:Int)->0<=r->r<M.aj->T (M.call s c).1 p=some x->T (M.pop p (M.call s c).2 r) t=some y->tP M T s t (c::(x++(M.calls+M.af+r)::y))
def cj (M:eI) (s:Int):Prop:=0<=s/\s<(M.size:Int)
def yN (M:eI) (T:TO):Prop:=∀s t w,cj M s->cj M t->T s t=some w->Wd M s t w/\w.length<=1024
variable{T:TO}{t:Int}{w:List Int}
theorem tP.wd{M:eI}(V:M.Ok)(hT:yN M T){s:Int}(U:cj M s) (ht:cj M t) (h:tP M T s t w):Wd M s t w:=by
 cases h with
 |aH i x h0 h1 h2=>exact .aH s i t x h0 h1 (hT _ _ _ (V.inner s i U.1 U.2 h0 h1) ht h2).1
 |call c p r x y c0 c1 p0 p1 r0 r1 h1 h2=>
  have hc:=V.call s c U.1 U.2 c0 c1;have hp:=V.pop s c p r U.1 U.2 c0 c1 p0 p1 r0 r1;exact .call s c p r t x y c0 c1 r0 r1 (hT _ _ _ hc ⟨p0,p1⟩ h1).1 (hT _ _ _ hp ht h2).1
theorem akP{M:eI}(b:M.Sm)(Q:yN M T) (R:∀s,cj M s->T s s=some []) (L:∀s t,cj M s->cj M t->∀c,tP M T s t c->c.length<=1024->∃x,T s t=some x/\ct x<=ct c):∀s t,cj M s->cj M t->T s t=M.lk s t:=by
 have key:∀s t w,Wd M s t w->cj M s->w.length<=1024->∃x,T s t=some x/\ct x<=ct w:=by
  intro s t w h
  induction h with
  |nil s=>exact λa _=>⟨[],R s a,aT _⟩
  |aH s i t w D g d S=>
   intro a m;have N:=b.ok.inner s i a.1 a.2 D g;have n:cj M t:=d.range b.ok N;obtain⟨x,E,F⟩:=S N (by simp at m;omega)
   have l :=It (x:=M.calls+i) (d.sy b) F;have j:sy ((M.calls+i)::w):=(Wd.aH s i t w D g d).sy b;obtain⟨y,e,o⟩:=L s t a n _ (.aH i x D g E) (by have:=rX j l; omega)
   exact⟨y,e,by omega⟩
  |call s c p r t u v A B G H g d I J=>
   intro a m;have O:=b.ok.call s c a.1 a.2 A B;have C:cj M p:=g.range b.ok O;have P:=b.ok.pop s c p r a.1 a.2 A B C.1 C.2 G H;have n:cj M t:=d.range b.ok P;simp at m;obtain⟨x,E,K⟩:=I O (by omega)
   obtain⟨y,e,o⟩:=J P (by omega)
   have j:sy (c::(u++(M.calls+M.af+r)::v)):=(Wd.call s c p r t u v A B G H g d).sy b;have q:=(BU.1 j).2;have l : ct (c::(x++(M.calls+M.af+r)::y))<=ct (c::(u++(M.calls+M.af+r)::v)):=It q (Ru (akf.1 q).2 K (It (d.sy b) o));obtain⟨z,U,V⟩:=L s t a n _ (.call c p r x y A B C.1 C.2 G H E e) (by have:=rX j l; simp at this ⊢;omega)
   exact⟨z,U,by omega⟩
 intro s t a n;cases h:T s t with
 |some x=>
  obtain⟨g,d⟩:=Q s t x a n h;refine((tM b).2 ⟨⟨g,d⟩,λv W=>?_⟩).symm
  by_cases m:v.length<=1024
  .obtain⟨y,e,F⟩:=key s t v W a m
   rw[h]at e;injection e with e
   rw[e];exact F
  .exact Nat.le_of_lt (yE (g.sy b) (by omega))
 |none=>
  cases d:M.lk s t with
  |none=>rfl
  |some w=>
   have:=(tM b).1 d;obtain⟨y,e,_⟩:=key s t w this.1.1 a this.1.2;rw[h]at e;simp at e
def lT (l:Option (List Int)) (w:List Int):Option (List Int):=if 1024<w.length then l else match l with
 |none=>some w
 |some x=>if aP x w<=0 then some x else some w
variable{l:Option (List Int)}{x:List Int}
theorem B8(h:lT l w=some x):l=some x\/(x=w/\x.length<=1024):=by
 unfold lT at h;split at h
 .exact .inl h
 .split at h
  .injection h with h;exact .inr ⟨h.symm,by rw[<-h];omega⟩
  .split at h
   .exact .inl h
   .injection h with h;exact .inr ⟨h.symm,by rw[<-h];omega⟩
theorem R9(a:sy x) (b:sy w) (h:l=some x):∃y,lT l w=some y/\ct y<=ct x:=by
 subst h;unfold lT;split
 .exact⟨x,rfl,aT _⟩
 .dsimp only
  split
  .exact⟨x,rfl,aT _⟩
  .rename_i d
   rw[rY a b]at d;exact⟨w,rfl,by omega⟩
theorem Sa(a:∀x,l=some x->sy x) (b:sy w) (h:w.length<=1024):∃y,lT l w=some y/\ct y<=ct w:=by
 unfold lT;rw[aa (by omega)]
 cases l with
 |none=>exact⟨w,rfl,aT _⟩
 |some x=>
  dsimp only;split
  .rename_i d
   exact⟨x,rfl,(rY (a x rfl) b).1 d⟩
  .exact⟨w,rfl,aT _⟩
def tQ (l:Option (List Int)) (ws:List (List Int)):Option (List Int):=ws.foldl lT l
theorem akQ{ws:List (List Int)}:tQ l (ws ++ [w])=lT (tQ l ws) w:=by simp[tQ]
theorem B9{x:List Int}:∀{ws:List (List Int)}{l:Option (List Int)},tQ l ws=some x->l=some x\/(x∈ws/\x.length<=1024)
 | [],_,h=>.inl h
 |w::ws,l,h=>by
  rcases B9 (ws:=ws) (l:=lT l w) h with h|⟨b,a⟩
  .rcases B8 h with h|⟨rfl,a⟩
   .exact .inl h
   .exact .inr ⟨by simp,a⟩
  .exact .inr ⟨by simp[b],a⟩
theorem IX:∀{ws:List (List Int)}{l:Option (List Int)}{x:List Int},sy x->(∀w∈ws,sy w)->l=some x->∃y,tQ l ws=some y/\ct y<=ct x
 | [],_,x,_,_,h=>⟨x,h,aT _⟩
 |w::ws,l,x,e,b,h=>by
  obtain⟨y,g,n⟩:=R9 e (b w (by simp)) h
  have d:sy y:=by
   rcases B8 g with a | ⟨rfl,_⟩
   .rw[h]at a; injection a with a; rw[<-a];exact e
   .exact b _ (by simp)
  obtain⟨z,i,j⟩:=IX (ws:=ws) d (λv m=>b v (by simp[m])) g
  exact⟨z,i,by omega⟩
theorem Sb:∀{ws:List (List Int)}{l:Option (List Int)}{w:List Int},(∀x,l=some x->sy x)->(∀w∈ws,sy w)->w∈ws->w.length<=1024->∃y,tQ l ws=some y/\ct y<=ct w
 |v::ws,l,w,g,b,d,h=>by
  have a:∀x,lT l v=some x->sy x:=λx j=>by
   rcases B8 j with m | ⟨rfl,_⟩
   .exact g x m
   .exact b _ (by simp)
  rcases b5.1 d with rfl|d
  .obtain⟨y,i,p⟩:=Sa g (b w (by simp)) h
   obtain⟨z,n,o⟩:=IX (ws:=ws) (a y i) (λv e=>b v (by simp[e])) i
   exact⟨z,n,by omega⟩
  .exact Sb (ws:=ws) a (λv e=>b v (by simp[e])) d h
abbrev PR:=Int×Int
structure Bs where
 W:TO
 D:Int->Int->Bool
 R:Nat->List PR
def ee (W:TO) (s t:Int) (w:List Int):TO:=λu v=>if u=s/\v=t then some w else W u v
def pt (R:Nat->List PR) (n:Nat) (p:PR):Nat->List PR:=λk=>if k=n then R k ++ [p]else R k
def vL (D:Int->Int->Bool) (s t:Int):Int->Int->Bool:=λu v=>if u=s/\v=t then true else D u v
def Bs.off (b:Bs) (s t:Int) (x:List Int):Bs:=
 if 1024<x.length\/b.D s t=true then b else match b.W s t with
 |none=>⟨ee b.W s t x,b.D,pt b.R x.length (s,t)⟩
 |some o=>if o.length<x.length then b else if aP o x<=0 then b else⟨ee b.W s t x,b.D,if x.length<o.length then pt b.R x.length (s,t)else b.R⟩
structure mC (M:eI) (P:Int->Int->List Int->Prop) (n:Nat) (b:Bs):Prop where
 snd:∀s t w,cj M s->cj M t->b.W s t=some w->P s t w/\w.length<=1024
 dn:∀s t,cj M s->cj M t->(b.D s t=true↔∃w,jR (P s t)=some w/\w.length<n)
 wd:∀s t,cj M s->cj M t->b.D s t=true->b.W s t=jR (P s t)
 ge:∀s t w,cj M s->cj M t->b.W s t=some w->b.D s t=false->n<=w.length
 wv:∀s t w,cj M s->cj M t->b.W s t=some w->b.D s t=false->(s,t)∈b.R w.length
 low:∀s t k,(s,t)∈b.R k->(cj M s/\cj M t)/\∃w,b.W s t=some w/\w.length<=k
 nd:∀k,(b.R k).Nodup
def pw (b:Bs) (s t:Int) (x:List Int):Prop:=1024<x.length\/b.D s t=true\/∃w,b.W s t=some w/\ct w<=ct x
structure r8 (M:eI) (b c:Bs):Prop where
 D:∀s t,b.D s t=true->c.D s t=true
 W:∀s t w,cj M s->cj M t->b.W s t=some w->∃v,c.W s t=some v/\ct v<=ct w
theorem r8.refl{M:eI}(b:Bs):r8 M b b:=⟨λ_ _ h=>h,λ_ _ w _ _ h=>⟨w,h,aT _⟩⟩
theorem r8.trans{M:eI}{a b c:Bs}(h:r8 M a b) (k:r8 M b c):r8 M a c:=⟨λs t e=>k.D s t (h.D s t e),λs t w U V e=>by
 obtain⟨v,h1,h2⟩:=h.W s t w U V e;obtain⟨u,h3,h4⟩:=k.W s t v U V h1;exact⟨u,h3,by omega⟩⟩
theorem pw.mono{M:eI}{b c:Bs}(h:r8 M b c){s:Int}(U:cj M s) (V:cj M t) (k:pw b s t x):pw c s t x:=by
 rcases k with k|k|⟨w,k1,k2⟩
 .exact .inl k
 .exact .inr (.inl (h.D s t k))
 .obtain⟨v,h1,h2⟩:=h.W s t w U V k1
  exact .inr (.inr ⟨v,h1,by omega⟩)
section
variable{M:eI}{P:Int->Int->List Int->Prop}{n:Nat}{b:Bs}
variable{t:Int}{x:List Int}
theorem mC.off (hP:∀s t w,P s t w->sy w) (h:mC M P n b){s:Int}(hs:cj M s) (ht:cj M t) (hx:P s t x) (hn:n<=x.length):mC M P n (b.off s t x)/\r8 M b (b.off s t x)/\pw (b.off s t x) s t x:=by
 have hsx:=hP s t x hx;unfold Bs.off;split
 .rename_i hc
  exact⟨h,.refl _,by rcases hc with hc|hc;exact .inl hc;exact .inr (.inl hc)⟩
 .rename_i hc
  have hl:x.length<=1024:=by omega
  have hD:b.D s t=false:=by
   cases e:b.D s t with
   |false=>rfl
   |true=>exact absurd (.inr e) hc
  -- a better word is put in
  have put:∀R:Nat->List PR,(∀k p,p∈b.R k->p∈R k)->(∀k p,p∈R k->p∈b.R k\/(k=x.length/\p=(s,t)))->(s,t)∈R x.length->(∀w,b.W s t=some w->ct x<=ct w/\x.length<=w.length)->(∀k,(R k).Nodup)->mC M P n ⟨ee b.W s t x,b.D,R⟩/\r8 M b ⟨ee b.W s t x,b.D,R⟩/\pw ⟨ee b.W s t x,b.D,R⟩ s t x:=by
   intro R h1 h2 h3 h4 h5;refine⟨⟨λu v w hu hv e=>?_,h.dn,λu v hu hv e=>?_,λu v w hu hv e e2=>?_,λu v w hu hv e e2=>?_,λu v k e=>?_,h5⟩,⟨λ_ _ e=>e,λu v w hu hv e=>?_⟩,?_⟩
   .dsimp only[ee]at e
    by_cases U:u=s/\v=t
    .rw[ab U]at e;injection e with e;rw[U.1,U.2,<-e];exact⟨hx,hl⟩
    .rw[aa U]at e;exact h.snd u v w hu hv e
   .dsimp only[ee]at e ⊢
    by_cases U:u=s/\v=t
    .rw[U.1,U.2,hD]at e;simp at e
    .rw[aa U];exact h.wd u v hu hv e
   .dsimp only[ee]at e e2
    by_cases U:u=s/\v=t
    .rw[ab U]at e;injection e with e;rw[<-e];exact hn
    .rw[aa U]at e;exact h.ge u v w hu hv e e2
   .dsimp only[ee]at e e2 ⊢
    by_cases U:u=s/\v=t
    .rw[ab U]at e;injection e with e;rw[U.1,U.2,<-e];exact h3
    .rw[aa U]at e;exact h1 _ _ (h.wv u v w hu hv e e2)
   .dsimp only[ee]at e ⊢
    by_cases U:u=s/\v=t
    .obtain⟨rfl,rfl⟩:=U
     refine⟨⟨hs,ht⟩,x,ab ⟨rfl,rfl⟩,?_⟩;rcases h2 _ _ e with e|⟨rfl,_⟩
     .obtain⟨_,w,h7,h6⟩:=h.low _ _ k e
      have:=(h4 w h7).2;omega
     .exact aT _
    .rw[aa U]
     rcases h2 _ _ e with e|⟨rfl,e4⟩
     .exact h.low u v k e
     .injection e4 with e1 e2;exact absurd ⟨e1,e2⟩ U
   .dsimp only[ee]
    by_cases U:u=s/\v=t
    .rw[ab U];rw[U.1,U.2]at e;exact⟨x,rfl,(h4 w e).1⟩
    .rw[aa U];exact⟨w,e,aT _⟩
   .exact .inr (.inr ⟨x,ab ⟨rfl,rfl⟩,aT _⟩)
  have Sc:∀k p,p∈b.R k->p∈pt b.R x.length (s,t) k:=λk p hp=>by unfold pt;split<;>simp[hp]
  have Sd:∀k p,p∈pt b.R x.length (s,t) k->p∈b.R k\/(k=x.length/\p=(s,t)):=λk p hp=>by
   unfold pt at hp;split at hp
   .rename_i hk
    rcases dQ.1 hp with hp|hp
    .exact .inl hp
    .simp at hp;exact .inr ⟨hk,hp⟩
   .exact .inl hp
  have Se:(∀w,b.W s t=some w->x.length<w.length)->∀k,(pt b.R x.length (s,t) k).Nodup:=λV k=>by
   unfold pt;split
   .rename_i hk
    rw[rj];refine⟨h.nd k,by simp,λp hp q hq e=>?_⟩
    simp at hq;subst hq;subst e;obtain⟨_,w,h7,h6⟩:=h.low _ _ k hp;have:=V w h7;omega
   .exact h.nd k
  have Sf:(s,t)∈pt b.R x.length (s,t) x.length:=by unfold pt;rw[ab rfl];simp
  split
  .rename_i e
   exact put _ Sc Sd Sf (λw V=>by rw[e]at V;simp at V) (Se λw V=>by rw[e]at V;simp at V)
  .rename_i o e
   have J4:=hP s t o (h.snd s t o hs ht e).1;split
   .rename_i cL
    exact⟨h,.refl _,.inr (.inr ⟨o,e,Nat.le_of_lt (yE J4 cL)⟩)⟩
   .rename_i cL
    split
    .rename_i hle
     exact⟨h,.refl _,.inr (.inr ⟨o,e,(rY J4 hsx).1 hle⟩)⟩
    .rename_i hle
     rw[rY J4 hsx]at hle;have h4:∀w,b.W s t=some w->ct x<=ct w/\x.length<=w.length:=λw V=>by
      rw[e]at V;injection V with V;rw[<-V];exact⟨by omega,by omega⟩
     split
     .rename_i akR
      exact put _ Sc Sd Sf h4 (Se λw V=>by rw[e]at V;injection V with V;rw[<-V];exact akR)
     .have Ei:o.length=x.length:=by omega
      exact put _ (λ_ _ h=>h) (λ_ _ h=>.inl h) (by rw[<-Ei];exact h.wv s t o hs ht e hD) h4 h.nd
theorem pw.wq (U:∀s t w,P s t w->sy w) (h:mC M P n b){s:Int}{a:List Int}(V:cj M s) (ht:cj M t) (k:pw b s t x) (ha:jR (P s t)=some a) (hn:n<=a.length) (hr:ct x<=ct a):b.W s t=some a:=by
 have hf:=BV ha;rcases k with k|k|⟨w,k1,k2⟩
 .have:=rX (U s t a hf.1.1) hr
  have:=hf.1.2;omega
 .obtain⟨w,h1,h2⟩:=(h.dn s t V ht).1 k
  rw[ha]at h1;injection h1 with h1
  rw[<-h1]at h2;omega
 .have h1:=h.snd s t w V ht k1
  have h2:=hf.2 w h1.1;rw[k1,Ir (U s t w h1.1) (U s t a hf.1.1) (by omega)]
def vM (D:Int->Int->Bool):List PR->List PR×(Int->Int->Bool)
 | []=>([],D)
 |p::l=>if D p.1 p.2=true then vM D l else((p::(vM (vL D p.1 p.2) l).1),(vM (vL D p.1 p.2) l).2)
theorem IY:∀{l:List PR}{D:Int->Int->Bool},(∀u v,(vM D l).2 u v=true↔D u v=true\/(u,v)∈l)/\(∀p,p∈(vM D l).1↔p∈l/\D p.1 p.2=false)/\(vM D l).1.Nodup
 | [],D=>by simp[vM]
 |p::l,D=>by
  unfold vM
  by_cases h:D p.1 p.2=true
  .rw[ab h]
   obtain⟨g,d,i⟩:=IY (l:=l) (D:=D);refine⟨λu v=>?_,λq=>?_,i⟩
   .rw[g,b5]
    constructor
    .rintro(h|h)
     .exact .inl h
     .exact .inr (.inr h)
    .rintro(h|h|h)
     .exact .inl h
     .subst h;exact .inl (by assumption)
     .exact .inr h
   .rw[d,b5]
    constructor
    .rintro⟨a,b⟩;exact⟨.inr a,b⟩
    .rintro⟨a|a,b⟩
     .subst a;rw[h]at b;simp at b
     .exact⟨a,b⟩
  .rw[aa h]
   obtain⟨g,d,i⟩:=IY (l:=l) (D:=vL D p.1 p.2);refine⟨λu v=>?_,λq=>?_,?_⟩
   .dsimp only
    rw[g,b5];unfold vL
    by_cases e:u=p.1/\v=p.2
    .rw[ab e]
     have:(u,v)=p:=Prod.ext e.1 e.2;simp[this]
    .rw[aa e]
     have:(u,v) ≠ p:=λh=>e ⟨congrArg Prod.fst h,congrArg Prod.snd h⟩;simp[this]
   .dsimp only
    rw[b5,d,b5];unfold vL
    by_cases e:q=p
    .subst e;simp;simpa using h
    .have:¬(q.1=p.1/\q.2=p.2):=λh=>e (Prod.ext h.1 h.2)
     rw[aa this];simp[e]
   .dsimp only
    rw[l8];refine⟨λj=>?_,i⟩;have:=((d p).1 j).2;unfold vL at this;rw[ab ⟨rfl,rfl⟩]at this;simp at this
def Bs.tk (b:Bs) (n:Nat):List PR×Bs:=((vM b.D (b.R n)).1,⟨b.W,(vM b.D (b.R n)).2,b.R⟩)
theorem mC.tk (hP:∀s t w,P s t w->sy w) (h:mC M P n b) (hc:∀s t a,cj M s->cj M t->jR (P s t)=some a->a.length=n->b.W s t=some a):mC M P (n+1) (b.tk n).2/\r8 M b (b.tk n).2/\(b.tk n).1.Nodup/\∀s t,(s,t)∈(b.tk n).1↔(cj M s/\cj M t)/\∃a,jR (P s t)=some a/\a.length=n/\b.W s t=some a:=by
 obtain⟨h1,h2,h3⟩:=IY (l:=b.R n) (D:=b.D)
 -- a pair that is taken has a final word
 have fin:∀s t,(s,t)∈b.R n->b.D s t=false->(cj M s/\cj M t)/\∃a,jR (P s t)=some a/\a.length=n/\b.W s t=some a:=by
  intro s t hm hd;obtain⟨U,w,hw,hl⟩:=h.low s t n hm;have hg:=h.ge s t w U.1 U.2 hw hd;have hp:=h.snd s t w U.1 U.2 hw;obtain⟨a,ha⟩:=Rv (P:=P s t) (hP s t) hp.1 hp.2;have zQ :=Iu (hP s t) ha;have hr:=ha.2 w hp.1;have ma:=rX (hP s t w hp.1) hr;have han:a.length=n:=by
   refine cZ λgY=>?_;have:=(h.dn s t U.1 U.2).2 ⟨a,zQ, by omega⟩
   rw[hd]at this;simp at this
  exact⟨U,a,zQ, han,hc s t a U.1 U.2 zQ han⟩
 have tak:∀s t a,cj M s->cj M t->jR (P s t)=some a->a.length=n->(s,t)∈b.R n/\b.D s t=false:=by
  intro s t a hs ht ha hl;have hd:b.D s t=false:=by
   cases e:b.D s t with
   |false=>rfl
   |true=>
    obtain⟨w,V,k2⟩:=(h.dn s t hs ht).1 e;rw[ha]at V;injection V with V;rw[<-V]at k2;omega
  refine⟨?_,hd⟩;have:=h.wv s t a hs ht (hc s t a hs ht ha hl) hd
  rwa [hl]at this
 have hD:∀s t,cj M s->cj M t->((b.tk n).2.D s t=true↔∃w,jR (P s t)=some w/\w.length<n+1):=by
  intro s t hs ht;show(vM b.D (b.R n)).2 s t=true↔_;rw[h1];constructor
  .rintro(k|k)
   .obtain⟨w,V,k2⟩:=(h.dn s t hs ht).1 k
    exact⟨w,V,by omega⟩
   .cases e:b.D s t with
    |true=>
     obtain⟨w,V,k2⟩:=(h.dn s t hs ht).1 e;exact⟨w,V,by omega⟩
    |false=>
     obtain⟨_,a,V,k2,_⟩:=fin s t k e;exact⟨a,V,by omega⟩
  .rintro⟨w,V,k2⟩
   by_cases e:w.length<n
   .exact .inl ((h.dn s t hs ht).2 ⟨w,V,e⟩)
   .exact .inr (tak s t w hs ht V (by omega)).1
 have hW:(b.tk n).2.W=b.W:=rfl;have hR:(b.tk n).2.R=b.R:=rfl;have up:∀s t,(b.tk n).2.D s t=false->b.D s t=false/\(s,t)∉b.R n:=by
  intro s t e;have:¬((vM b.D (b.R n)).2 s t=true):=by rw[Bool.not_eq_true];exact e
  rw[h1]at this;refine⟨?_,λhm=>this (.inr hm)⟩;cases e2:b.D s t with
  |false=>rfl
  |true=>exact absurd (.inl e2) this
 refine⟨⟨h.snd,hD,λs t hs ht e=>?_,λs t w hs ht e e2=>?_,λs t w hs ht e e2=>h.wv s t w hs ht e (up s t e2).1,h.low,h.nd⟩,⟨λs t e=>(h1 s t).2 (.inl e),λs t w _ _ e=>⟨w,e,aT _⟩⟩,h3,λs t=>?_⟩
 .rw[hW]
  rcases(h1 s t).1 e with e|e
  .exact h.wd s t hs ht e
  .cases e2:b.D s t with
   |true=>exact h.wd s t hs ht e2
   |false=>
    obtain⟨_,a,V,k2,k3⟩:=fin s t e e2;rw[k3,V]
 .rw[hW]at e
  have hu:=up s t e2;have hg:=h.ge s t w hs ht e hu.1;have hr:=h.wv s t w hs ht e hu.1;refine cZ λzX=>?_;have:w.length=n:=by omega
  rw[this]at hr;exact hu.2 hr
 .show(s,t)∈(vM b.D (b.R n)).1↔_
  rw[h2];constructor
  .rintro⟨V,k2⟩;exact fin s t V k2
  .rintro⟨⟨hs,ht⟩,a,V,k2,_⟩
   exact tak s t a hs ht V k2
end
theorem Sg{b:Type} [BEq b] [LawfulBEq b]:∀{l L:List b},l.Nodup->(∀x∈l,x∈L)->l.length<=L.length
 | [],_,_,_=>by simp
 |a::l,L,i,h=>by
  obtain⟨j,m⟩:=l8.1 i;have d:=h a (by simp)
  have:=Sg (l:=l) (L:=L.erase a) m λx g=>(List.mem_erase_of_ne (λe=>j (by rw[<-e];exact g))).2 (h x (by simp[g]))
  rw[List.length_erase_of_mem d]at this;have:=List.length_pos_of_mem d;simp only[bX];omega
structure UU (M:eI) (n:Nat) (S C:Bs):Prop where
 s:mC M (r5 M) n S
 c:mC M (Wd M) n C
 oi:∀s i,cj M s->0<=i->i<M.af->pw S s (M.inner s i) [M.calls+i]
 oc:∀s c q u r,cj M s->0<=c->c<M.calls->cj M q->0<=r->r<M.aj->C.D (M.call s c).1 q=true->C.W (M.call s c).1 q=some u->pw S s (M.pop q (M.call s c).2 r) (c::(u ++ [M.calls+M.af+r]))
 oe:∀s,cj M s->pw C s s []
 oj:∀s p t a b,cj M s->cj M p->cj M t->S.D s p=true->C.D p t=true->S.W s p=some a->C.W p t=some b->pw C s t (a++b)
section
variable{M:eI}{n:Nat}{S C:Bs}
theorem Sh (a:M.Sm):∀s t w,Wd M s t w->sy w:=λ_ _ _ h=>h.sy a
variable{t:Int}{w:List Int}
theorem mC.fin{P:Int->Int->List Int->Prop}{b:Bs}(h:mC M P n b){s:Int}(U:cj M s) (V:cj M t) (hf:jR (P s t)=some w) (hl:w.length<n):b.D s t=true/\b.W s t=some w:=by
 have:=(h.dn s t U V).2 ⟨w,hf,hl⟩;exact⟨this,by rw[h.wd s t U V this,hf]⟩
theorem r5.range (U:M.Ok){s:Int}(h:r5 M s t w) (V:cj M s):cj M t:=h.wd.range U V
theorem mC.yO{P:Int->Int->List Int->Prop}{b:Bs}(h:mC M P n b){s:Int}(U:cj M s) (V:cj M t) (hd:b.D s t=true):∃w,b.W s t=some w/\jR (P s t)=some w/\w.length<n:=by
 obtain⟨w,h1,h2⟩:=(h.dn s t U V).1 hd;exact⟨w,by rw[h.wd s t U V hd,h1],h1,h2⟩
theorem mC.Ca{P:Int->Int->List Int->Prop}{b c:Bs}(h:mC M P n b) (k:mC M P n c){s:Int}(U:cj M s) (V:cj M t):b.D s t=c.D s t/\(b.D s t=true->b.W s t=c.W s t):=by
 have e:b.D s t=c.D s t:=by rw[kY,h.dn s t U V,k.dn s t U V]
 exact⟨e,λhd=>by rw[h.wd s t U V hd,k.wd s t U V (by rw[<-e];exact hd)]⟩
structure yP (M:eI) (n:Nat) (S C:Bs) (C' : Bs) (out:List PR) (i:Nat) (t:Int):Prop where
 c:mC M (Wd M) n C'
 l:r8 M C C'
 o:∀(j:Nat) (v:Int) (a b:List Int),(j<i\/j=i/\v<t)->j<out.length->cj M v->C.D (ix out (j:Int)).2 v=true->S.W (ix out (j:Int)).1 (ix out (j:Int)).2=some a->C.W (ix out (j:Int)).2 v=some b->pw C' (ix out (j:Int)).1 v (a++b)
variable{C' : Bs}{out:List PR}
theorem yP.row{i:Nat}(h:yP M n S C C' out i (M.size:Int)):yP M n S C C' out (i+1) 0:=⟨h.c,h.l,λj v a b U hl V=>h.o j v a b (by
 have:=V.1;have:=V.2;rcases U with U|⟨_,U⟩
 .by_cases e:j=i
  .exact .inr ⟨e,by omega⟩
  .exact .inl (by omega)
 .omega) hl V⟩
variable{t:Int}
theorem yP.skip{i:Nat}(h:yP M n S C C' out i t) (hd:C.D (ix out (i:Int)).2 t=false):yP M n S C C' out i (t+1):=⟨h.c,h.l,λj v a b U hl hv V=>by
 rcases U with U|⟨rfl,U⟩
 .exact h.o j v a b (.inl U) hl hv V
 .by_cases e:v=t
  .subst e;rw[hd]at V;simp at V
  .exact h.o j v a b (.inr ⟨rfl,by omega⟩) hl hv V⟩
theorem yP.step (hM:M.Sm){i:Nat}(h:yP M n S C C' out i t) (hi:i<out.length) (h1:cj M (ix out (i:Int)).1) (h2:cj M (ix out (i:Int)).2) (ht:cj M t){a b:List Int}(ha:S.W (ix out (i:Int)).1 (ix out (i:Int)).2=some a) (hS:r5 M (ix out (i:Int)).1 (ix out (i:Int)).2 a) (hn:n<=a.length) (hb:C.W (ix out (i:Int)).2 t=some b) (hC:Wd M (ix out (i:Int)).2 t b):yP M n S C (C'.off (ix out (i:Int)).1 t (a++b)) out i (t+1):=by
 obtain⟨k1,k2,k3⟩:=h.c.off (Sh hM) h1 ht (hS.then hC) (by rw[aY];omega)
 refine⟨k1,h.l.trans k2,λj v x y hj hl hv d1 U V=>?_⟩
 by_cases e:j=i/\v=t
 .obtain⟨rfl,rfl⟩:=e
  rw[ha]at U;rw[hb]at V;injection U with U
  injection V with V
  rw[<-U,<-V];exact k3
 .have hP:=h.o j v x y (by
   rcases hj with hj|⟨e1,hj⟩
   .exact .inl hj
   .exact .inr ⟨e1,by
     by_cases e2:v=t
     .exact absurd ⟨e1,e2⟩ e
     .omega⟩) hl hv d1 U V
  rcases hP with hP|hP|⟨w,w1,w2⟩
  .exact .inl hP
  .exact .inr (.inl (k2.D _ _ hP))
  .by_cases jY:cj M (ix out (j:Int)).1
   .obtain⟨u,u1,u2⟩:=k2.W _ _ _ jY hv w1
    exact .inr (.inr ⟨u,u1,by omega⟩)
   .exact .inr (.inr ⟨w,by
     unfold Bs.off;split
     .exact w1
     .have gY:¬((ix out (j:Int)).1=(ix out (i:Int)).1/\v=t):=λe3=>jY (by rw[e3.1];exact h1)
      split
      .dsimp only[ee];rw[if_neg gY];exact w1
      .split
       .exact w1
       .split
        .exact w1
        .dsimp only[ee];rw[if_neg gY];exact w1,w2⟩)
theorem yP.fin (hM:M.Sm){U:Bs}(h:UU M n U C) (hS:mC M (r5 M) (n+1) (U.tk n).2) (ho:∀s t,(s,t)∈(U.tk n).1↔(cj M s/\cj M t)/\∃a,M.sk s t=some a/\a.length=n/\U.W s t=some a) (k:yP M n (U.tk n).2 C C' (U.tk n).1 (U.tk n).1.length 0):∀s p t a b,cj M s->cj M p->cj M t->(U.tk n).2.D s p=true->C'.D p t=true->(U.tk n).2.W s p=some a->C'.W p t=some b->pw C' s t (a++b):=by
 intro s p t a b V hp ht d1 d2 w1 w2;obtain⟨e1,e2⟩:=h.c.Ca k.c hp ht;rw[<-e1]at d2;rw[<-e2 d2]at w2
 by_cases d3:U.D s p=true
 .exact(h.oj s p t a b V hp ht d3 d2 w1 w2).mono k.l V ht
 .obtain⟨x,x1,x2,x3⟩:=hS.yO V hp d1
  have hm:(s,p)∈(U.tk n).1:=by
   refine(ho s p).2 ⟨⟨V,hp⟩,x,x2,?_,x1⟩;refine cZ λgY=>d3 ?_;exact(h.s.fin V hp x2 (by omega)).1
  obtain⟨j,hj,e⟩:=fu.1 hm;have e' : ix (U.tk n).1 (j:Int)=(s,p):=by rw[aG hj,e]
  have:=k.o j t a b (.inl hj) hj ht;rw[e']at this;exact this d2 w1 w2
abbrev CR:=Int×Int×Int
def AOk (M:eI) (A:Int->List CR):Prop:=∀p,cj M p->∀s c g,(s,c,g)∈A p↔(cj M s/\(0<=c/\c<M.calls))/\M.call s c=(p,g)
structure Si (M:eI) (n:Nat) (A:Int->List CR) (S C S' C' : Bs) (out:List PR) (i:Nat) (t:Int) (k:Nat) (r:Int):Prop where
 s:mC M (r5 M) (n+1) S'
 c:mC M (Wd M) (n+1) C'
 ls:r8 M S S'
 lc:r8 M C C'
 o1:∀(j:Nat) (s:Int) (a b:List Int),(j<i\/j=i/\s<t)->j<out.length->cj M s->S.D s (ix out (j:Int)).1=true->S.W s (ix out (j:Int)).1=some a->C.W (ix out (j:Int)).1 (ix out (j:Int)).2=some b->pw C' s (ix out (j:Int)).2 (a++b)
 o2:∀(j l:Nat) (x:Int) (b:List Int),(j<i\/j=i/\(l<k\/l=k/\x<r))->j<out.length->l<(A (ix out (j:Int)).1).length->(0<=x/\x<M.aj)->C.W (ix out (j:Int)).1 (ix out (j:Int)).2=some b->pw S' (ix (A (ix out (j:Int)).1) (l:Int)).1 (M.pop (ix out (j:Int)).2 (ix (A (ix out (j:Int)).1) (l:Int)).2.2 x) ((ix (A (ix out (j:Int)).1) (l:Int)).2.1::(b ++ [M.calls+M.af+x]))
variable{A:Int->List CR}{S' : Bs}
theorem pw.off{P:Int->Int->List Int->Prop}{b:Bs}{s t u v:Int}{x y:List Int}(hs:cj M s) (ht:cj M t) (k:r8 M b (b.off s t x)) (h:pw b u v y):pw (b.off s t x) u v y:=by
 rcases h with h|h|⟨w,w1,w2⟩
 .exact .inl h
 .exact .inr (.inl (k.D _ _ h))
 .by_cases U:cj M u/\cj M v
  .obtain⟨z,u1,u2⟩:=k.W _ _ _ U.1 U.2 w1
   exact .inr (.inr ⟨z,u1,by omega⟩)
  .have V:¬(u=s/\v=t):=λe3=>U (by rw[e3.1,e3.2];exact⟨hs,ht⟩)
   exact .inr (.inr ⟨w,by
    unfold Bs.off;split
    .exact w1
    .split
     .dsimp only[ee];rw[if_neg V];exact w1
     .split
      .exact w1
      .split
       .exact w1
       .dsimp only[ee];rw[if_neg V];exact w1,w2⟩)
theorem Si.next{i:Nat}(h:Si M n A S C S' C' out i (M.size:Int) (A (ix out (i:Int)).1).length 0):Si M n A S C S' C' out (i+1) 0 0 0:=⟨h.s,h.c,h.ls,h.lc,λj s a b U hl hs=>h.o1 j s a b (by
 rcases U with U|⟨_,U⟩
 .by_cases e:j=i
  .exact .inr ⟨e,hs.2⟩
  .exact .inl (by omega)
 .have:=hs.1;omega) hl hs,λj l x b U hl V hx=>h.o2 j l x b (by
 rcases U with U|⟨e1,U|⟨e2,U⟩⟩
 .by_cases e:j=i
  .subst e;exact .inr ⟨rfl,.inl V⟩
  .exact .inl (by omega)
 .omega
 .have:=hx.1;omega) hl V hx⟩
theorem Si.fin (hM:M.Sm){S0 C0 C1:Bs}(h:UU M n S0 C0) (hA:AOk M A) (II:r8 M S0 S) (L6:r8 M C0 C1) (CH:r8 M C1 C) (hC1:mC M (Wd M) n C1)
  (oj:∀s p t a b,cj M s->cj M p->cj M t->S.D s p=true->C1.D p t=true->S.W s p=some a->C1.W p t=some b->pw C1 s t (a++b))
  (ho:∀s t,(s,t)∈out↔(cj M s/\cj M t)/\∃a,M.lk s t=some a/\a.length=n/\C.W s t=some a)
  (hS:mC M (r5 M) (n+1) S) (hC:mC M (Wd M) (n+1) C) (k:Si M n A S C S' C' out out.length 0 0 0):UU M (n+1) S' C' :=by
 have find:∀p q,cj M p->cj M q->∀w,M.lk p q=some w->w.length=n->∃j:Nat,j<out.length/\ix out (j:Int)=(p,q)/\C.W p q=some w:=by
  intro p q V hq w hw hl;have hf:=hC.fin V hq hw (by omega)
  obtain⟨j,hj,e⟩:=fu.1 ((ho p q).2 ⟨⟨V,hq⟩,w,hw,hl,hf.2⟩);exact⟨j,hj,by rw[aG hj,e],hf.2⟩
 refine⟨k.s,k.c,λs i U h0 h1=>(h.oi s i U h0 h1).mono (II.trans k.ls) U (hM.ok.inner s i U.1 U.2 h0 h1),λs c q u r U c0 c1 hq r0 r1 d1 d2=>?_,λs U=>(h.oe s U).mono ((L6.trans CH).trans k.lc) U U,λs p t a b U V ht d1 d2 w1 w2=>?_⟩
 .have hc:=hM.ok.call s c U.1 U.2 c0 c1
  have V:=hM.ok.pop s c q r U.1 U.2 c0 c1 hq.1 hq.2 r0 r1;obtain⟨w,x1,x2,x3⟩:=k.c.yO hc hq d1;rw[d2]at x1;injection x1 with x1
  subst x1
  by_cases hl:u.length<n
  .obtain⟨y1,y2⟩:=h.c.fin hc hq x2 hl
   exact(h.oc s c q u r U c0 c1 hq r0 r1 y1 y2).mono (II.trans k.ls) U V
  .obtain⟨j,hj,e,hw⟩:=find _ _ hc hq u x2 (by omega)
   have vh:=(hA _ hc s c (M.call s c).2).2 ⟨⟨U,c0,c1⟩,rfl⟩;obtain⟨l,hl,el⟩:=fu.1 vh;have zb : ix (A (M.call s c).1) (l:Int)=(s,c,(M.call s c).2):=by rw[aG hl,el]
   have:=k.o2 j l r u (.inl hj) hj;rw[e]at this;dsimp only at this;rw[zb]at this;exact this hl ⟨r0,r1⟩ hw
 .obtain⟨e1,e2⟩:=hS.Ca k.s U V
  obtain⟨e3,e4⟩:=hC.Ca k.c V ht;rw[<-e1]at d1;rw[<-e3]at d2;rw[<-e2 d1]at w1;rw[<-e4 d2]at w2;obtain⟨w,x1,x2,x3⟩:=hC.yO V ht d2;rw[w2]at x1;injection x1 with x1
  subst x1
  by_cases hl:b.length<n
  .obtain⟨y1,y2⟩:=hC1.fin V ht x2 hl
   exact(oj s p t a b U V ht d1 y1 w1 y2).mono (CH.trans k.lc) U ht
  .obtain⟨j,hj,e,hw⟩:=find p t V ht b x2 (by omega)
   have:=k.o1 j s a b (.inl hj) hj U;rw[e]at this;exact this d1 w1 hw
end
def Bs.emp:Bs:=⟨λ_ _=>none,λ_ _=>false,λ_=>[]⟩
structure Sj (M:eI) (S C:Bs) (A:Int->List CR) (s e i c:Int):Prop where
 bs:mC M (r5 M) 0 S
 bc:mC M (Wd M) 0 C
 oe:∀u,cj M u->u<e->pw C u u []
 oi:∀u j,cj M u->0<=j->j<M.af->(u<s\/u=s/\j<i)->pw S u (M.inner u j) [M.calls+j]
 a:∀p u d g,(u,d,g)∈A p↔(0<=u/\(0<=d/\d<M.calls)/\(u<s\/u=s/\d<c))/\M.call u d=(p,g)
section
variable{M:eI}{S C:Bs}{A:Int->List CR}{s e i c:Int}
theorem Sj.next (h:Sj M S C A s e M.af M.calls):Sj M S C A (s+1) e 0 0:=⟨h.bs,h.bc,h.oe,λu j hu j0 j1 hl=>h.oi u j hu j0 j1 (by
 rcases hl with hl|⟨_,hl⟩
 .by_cases V:u=s
  .exact .inr ⟨V,j1⟩
  .exact .inl (by omega)
 .omega),λp u d g=>by
 rw[h.a];constructor
 .rintro⟨⟨a1,a2,U⟩,a4⟩
  refine⟨⟨a1,a2,?_⟩,a4⟩;rcases U with U|⟨U,a5⟩
  .exact .inl (by omega)
  .exact .inl (by omega)
 .rintro⟨⟨a1,a2,U⟩,a4⟩
  refine⟨⟨a1,a2,?_⟩,a4⟩;rcases U with U|⟨_,a5⟩
  .by_cases V:u=s
   .exact .inr ⟨V,a2.2⟩
   .exact .inl (by omega)
  .have:=a2.1;omega⟩
theorem Sj.fin (hM:M.Sm) (h:Sj M S C A (M.size:Int) (M.size:Int) 0 0):UU M 0 S C/\AOk M A:=by
 refine⟨⟨h.bs,h.bc,λs i U h0 h1=>h.oi s i U h0 h1 (.inl U.2),λs c q u r U c0 c1 hq r0 r1 d _=>?_,λs U=>h.oe s U U.2,λs p t a b U hp ht d=>?_⟩,λp hp s c g=>?_⟩
 .obtain⟨w,_,h2⟩:=(h.bc.dn _ q (hM.ok.call s c U.1 U.2 c0 c1) hq).1 d
  omega
 .obtain⟨w,_,h2⟩:=(h.bs.dn s p U hp).1 d
  omega
 .rw[h.a]
  constructor
  .rintro⟨⟨a1,a2,V⟩,a4⟩
   refine⟨⟨⟨a1,?_⟩,a2⟩,a4⟩;rcases V with V|⟨_,a5⟩
   .exact V
   .have:=a2.1;omega
  .rintro⟨⟨a1,a2⟩,a4⟩
   exact⟨⟨a1.1,a2,.inl a1.2⟩,a4⟩
end
def gdW (M:eI) (s:Int) (g:Int->Bool) (w:List Int):Prop:=∃t,cj M t/\g t=true/\Wd M s t w
noncomputable def eI.f1 (M:eI) (s:Int) (g:Int->Bool):Option (List Int):=jR (gdW M s g)
section
variable{M:eI}{s:Int}{g:Int->Bool}
theorem Sl (a:M.Sm):∀w,gdW M s g w->sy w:=λw ⟨_,_,_,h⟩=>h.sy a
theorem akS (b:M.Sm) (h:∀t,cj M t->g t=true->M.lk s t=none):M.f1 s g=none:=by
 cases e:M.f1 s g with
 |none=>rfl
 |some w=>
  have d:=BV e;obtain⟨⟨⟨t,i,j,l⟩,m⟩,_⟩:=d;obtain⟨v,a,_⟩:=C3 b l m;rw[h t i j]at a;simp at a
theorem akT (a:M.Sm){w:List Int}{t:Int}(d:cj M t) (e:g t=true) (i:M.lk s t=some w) (h:∀u v,cj M u->g u=true->M.lk s u=some v->ct w<=ct v):M.f1 s g=some w:=by
 have b:=(tM a).1 i;refine Iu (Sl a) ⟨⟨⟨t,d,e,b.1.1⟩,b.1.2⟩,?_⟩;rintro v ⟨u,j,l,m⟩
 by_cases n:v.length<=1024
 .obtain⟨x,o,p,_⟩:=C3 a m n
  have:=h u x j l o;omega
 .exact Nat.le_of_lt (yE (b.1.1.sy a) (by have:=b.1.2;omega))
end
open Classical in
noncomputable def eI.zp (M:eI) (s:Int) (g:Int->Bool):Int:=if(∃t,cj M t/\g t=true/\fw M s t)/\M.f1 s g=none then 3 else 0
end Ab
namespace Ab
def fA{a:Type} [Inhabited a]{N:Nat}{f:Nat->a}{s:Int}(b:0<=s) (d:s<(N:Int)):ix ((List.range N).map f) s=f s.toNat:=by
 obtain⟨k,rfl⟩:=gd b;rw[aG (by simp;omega)]
 simp
section
variable (a b:al)
def gO:Nat:=b.accept.length
def oI:Nat:=a.accept.length*b.accept.length
def mD (s:Nat):Bool:=ix a.accept ((s/gO b:Nat):Int) != ix b.accept ((s%gO b:Nat):Int)
def dd (s:Nat):List Int:=(List.range a.calls.toNat).map λ(c:Nat)=>ix (ix a.call ((s/gO b:Nat):Int)) (c:Int)*(gO b:Int)+ix (ix b.call ((s%gO b:Nat):Int)) (c:Int)
def de (s:Nat):List Int:=(List.range a.calls.toNat).map λ(c:Nat)=>ix (ix a.push ((s/gO b:Nat):Int)) (c:Int)*b.stack+ix (ix b.push ((s%gO b:Nat):Int)) (c:Int)
def eG (s:Nat):List Int:=(List.range a.af.toNat).map λ(c:Nat)=>ix (ix a.inner ((s/gO b:Nat):Int)) (c:Int)*(gO b:Int)+ix (ix b.inner ((s%gO b:Nat):Int)) (c:Int)
def fM (s g:Nat):List Int:=(List.range a.aj.toNat).map λ(r:Nat)=>ix (ix (ix a.pop ((s/gO b:Nat):Int)) ((g/b.stack.toNat:Nat):Int)) (r:Int)*(gO b:Int)+ix (ix (ix b.pop ((s%gO b:Nat):Int)) ((g%b.stack.toNat:Nat):Int)) (r:Int)
def fm (s:Nat):List (List Int):=(List.range (a.stack.toNat*b.stack.toNat)).map (fM a b s)
def cW:al:=⟨a.calls,a.af,a.aj,a.stack*b.stack,a.start*(gO b:Int)+b.start,(List.range (oI a b)).map (mD a b),(List.range (oI a b)).map (dd a b),(List.range (oI a b)).map (de a b),(List.range (oI a b)).map (eG a b),(List.range (oI a b)).map (fm a b)⟩
end
section
variable{a b:al}
variable{x y:Int}
theorem mY{m k:Int}(a:0<=x/\x<m) (d:0<=y/\y<k):0<=x*k+y/\x*k+y<m*k:=by
 have e:0<=x*k:=nK a.1 (by omega)
 have b:(x+1)*k<=m*k:=Int.mul_le_mul_of_nonneg_right (by omega) (by omega)
 rw[Int.add_mul]at b;omega
theorem akU:(cW a b).accept.length=a.accept.length*b.accept.length:=by simp[cW,oI]
structure fW (a b:al):Prop where
 oa:a.Ok
 ob:b.Ok
 c:b.calls=a.calls
 i:b.af=a.af
 r:b.aj=a.aj
 n:a.accept.length*b.accept.length<=128
 g:a.stack*b.stack<=128
theorem fW.k (h:fW a b):1<=b.accept.length:=by have:=h.ob.cP;omega
theorem fW.xy (h:fW a b){s:Int}(h0:0<=s) (h1:s<((oI a b:Nat):Int)):((s.toNat/gO b:Nat):Int)<(a.accept.length:Int)/\((s.toNat%gO b:Nat):Int)<(b.accept.length:Int):=by
 have U:=h.k;unfold oI at h1;unfold gO;constructor
 .have:=(sK (show 0<b.accept.length by omega)).2 (show s.toNat<a.accept.length*b.accept.length by omega)
  omega
 .have:=Nat.mod_lt s.toNat (show b.accept.length>0 by omega)
  omega
theorem fW.gh (h:fW a b){g:Int}(h0:0<=g) (h1:g<a.stack*b.stack):((g.toNat/b.stack.toNat:Nat):Int)<a.stack/\((g.toNat%b.stack.toNat:Nat):Int)<b.stack:=by
 have h2:=h.oa.stack;have h3:=h.ob.stack;have e:(a.stack.toNat*b.stack.toNat:Nat)=(a.stack*b.stack).toNat:=by
  have:((a.stack.toNat*b.stack.toNat:Nat):Int)=a.stack*b.stack:=by
   rw[iI,show((a.stack.toNat:Nat):Int)=a.stack by omega,show((b.stack.toNat:Nat):Int)=b.stack by omega]
  omega
 constructor
 .have:=(sK (show 0<b.stack.toNat by omega)).2 (show g.toNat<a.stack.toNat*b.stack.toNat by omega)
  omega
 .have:=Nat.mod_lt g.toNat (show b.stack.toNat>0 by omega)
  omega
theorem fW.ay (h:fW a b):((a.stack.toNat*b.stack.toNat:Nat):Int)=a.stack*b.stack:=by
 have h2:=h.oa.stack;have h3:=h.ob.stack;rw[iI,show((a.stack.toNat:Nat):Int)=a.stack by omega,show((b.stack.toNat:Nat):Int)=b.stack by omega]
theorem akV (h:fW a b):(cW a b).Ok:=by
 have l:=h.oa;have x:=h.ob;have M:=l.calls;have N:=l.af;have O:=l.aj;have P:=l.cP;have Q:=x.cP;have E:=l.stack;have F:=x.stack;have A:=h.ay;have w:(cW a b).accept.length=oI a b:=by simp[cW]
 have q:((oI a b:Nat):Int)=(a.accept.length:Int)*(b.accept.length:Int):=by unfold oI;rw[iI]
 have L:=h.n;refine⟨l.calls,l.af,l.aj,l.syms,⟨?_,h.g⟩,?_,?_,?_,λs e d=>?_,λs c e d m B=>?_,λs c e d m B=>?_,λs c e d m B=>?_,λs g e d D G=>?_,λs g r e d D G H R=>?_⟩
 .have:1*1<=a.stack*b.stack:=Int.mul_le_mul E.1 F.1 (by omega) (by omega)
  exact this
 .rw[w]
  unfold oI;have:1*1<=a.accept.length*b.accept.length:=oP (by omega) (by omega)
  omega
 .rw[w,q]
  exact mY l.start x.start
 .simp[cW]
 .rw[w]at d
  have o:ix (cW a b).call s=dd a b s.toNat:=fA e d;have p:ix (cW a b).push s=de a b s.toNat:=fA e d;have I:ix (cW a b).inner s=eG a b s.toNat:=fA e d;have S:ix (cW a b).pop s=fm a b s.toNat:=fA e d;rw[o,p,I,S];simp only[dd,de,eG,fm,cY,qk,cW];exact⟨by omega,by omega,by omega,by omega⟩
 .rw[w]at d ⊢
  obtain⟨y,z⟩:=h.xy e d;have o:ix (cW a b).call s=dd a b s.toNat:=fA e d;have j : c<a.calls:=B;have p:ix (dd a b s.toNat) c=_:=fA m (by omega)
  rw[o,p,q,show((c.toNat:Nat):Int)=c by omega]
  exact mY (l.call _ c (nJ _) y m j) (x.call _ c (nJ _) z m (by rw[h.c];exact j))
 .rw[w]at d
  obtain⟨y,z⟩:=h.xy e d;have o:ix (cW a b).push s=de a b s.toNat:=fA e d;have j : c<a.calls:=B;have p:ix (de a b s.toNat) c=_:=fA m (by omega)
  rw[o,p,show((c.toNat:Nat):Int)=c by omega]
  exact mY (l.push _ c (nJ _) y m j) (x.push _ c (nJ _) z m (by rw[h.c];exact j))
 .rw[w]at d ⊢
  obtain⟨y,z⟩:=h.xy e d;have o:ix (cW a b).inner s=eG a b s.toNat:=fA e d;have j : c<a.af:=B;have p:ix (eG a b s.toNat) c=_:=fA m (by omega)
  rw[o,p,q,show((c.toNat:Nat):Int)=c by omega]
  exact mY (l.inner _ c (nJ _) y m j) (x.inner _ c (nJ _) z m (by rw[h.i];exact j))
 .rw[w]at d
  have o:ix (cW a b).pop s=fm a b s.toNat:=fA e d;have u : g<a.stack*b.stack:=G;have p:ix (fm a b s.toNat) g=fM a b s.toNat g.toNat:=fA D (by rw[A];exact u)
  rw[o,p];simp only[fM,cY,qk,cW];omega
 .rw[w]at d ⊢
  obtain⟨y,z⟩:=h.xy e d;have o:ix (cW a b).pop s=fm a b s.toNat:=fA e d;have u : g<a.stack*b.stack:=G;have C : r<a.aj:=R;obtain⟨J,K⟩:=h.gh D u;have p:ix (fm a b s.toNat) g=fM a b s.toNat g.toNat:=fA D (by rw[A];exact u)
  have I:ix (fM a b s.toNat g.toNat) r=_:=fA H (by omega)
  rw[o,p,I,q,show((r.toNat:Nat):Int)=r by omega]
  exact mY (l.pop _ _ r (nJ _) y (nJ _) J H C) (x.pop _ _ r (nJ _) z (nJ _) K H (by rw[h.r];exact C))
theorem akW (h:fW a b){s c:Int}(d:0<=s) (e:s<((oI a b:Nat):Int)) (g:0<=c) (n:c<a.calls):(cW a b).aQ.call s c=(ix (ix a.call ((s.toNat/gO b:Nat):Int)) c*(gO b:Int)+ix (ix b.call ((s.toNat%gO b:Nat):Int)) c,ix (ix a.push ((s.toNat/gO b:Nat):Int)) c*b.stack+ix (ix b.push ((s.toNat%gO b:Nat):Int)) c):=by
 have i:ix (cW a b).call s=dd a b s.toNat:=fA d e;have j:ix (dd a b s.toNat) c=_:=fA g (by omega)
 have l:ix (cW a b).push s=de a b s.toNat:=fA d e;have m:ix (de a b s.toNat) c=_:=fA g (by omega)
 show(ix (ix (cW a b).call s) c,ix (ix (cW a b).push s) c)=_;rw[i,j,l,m,show((c.toNat:Nat):Int)=c by omega]
theorem akX (h:fW a b){s c:Int}(d:0<=s) (e:s<((oI a b:Nat):Int)) (g:0<=c) (l:c<a.af):(cW a b).aQ.inner s c=ix (ix a.inner ((s.toNat/gO b:Nat):Int)) c*(gO b:Int)+ix (ix b.inner ((s.toNat%gO b:Nat):Int)) c:=by
 have i:ix (cW a b).inner s=eG a b s.toNat:=fA d e;have j:ix (eG a b s.toNat) c=_:=fA g (by omega)
 show ix (ix (cW a b).inner s) c=_;rw[i,j,show((c.toNat:Nat):Int)=c by omega]
variable{r:Int}
theorem akY (h:fW a b){s g:Int}(e:0<=s) (i:s<((oI a b:Nat):Int)) (j:0<=g) (l:g<a.stack*b.stack) (m:0<=r) (q:r<a.aj):(cW a b).aQ.pop s g r=ix (ix (ix a.pop ((s.toNat/gO b:Nat):Int)) ((g.toNat/b.stack.toNat:Nat):Int)) r*(gO b:Int)+ix (ix (ix b.pop ((s.toNat%gO b:Nat):Int)) ((g.toNat%b.stack.toNat:Nat):Int)) r:=by
 have d:=h.ay;have n:ix (cW a b).pop s=fm a b s.toNat:=fA e i;have o:ix (fm a b s.toNat) g=fM a b s.toNat g.toNat:=fA j (by rw[d];exact l)
 have p:ix (fM a b s.toNat g.toNat) r=_:=fA m (by omega)
 show ix (ix (ix (cW a b).pop s) g) r=_;rw[n,o,p,show((r.toNat:Nat):Int)=r by omega]
def pr (b:al) (x y:Int):Int:=x*(gO b:Int)+y
theorem uC(d:0<=x) (g:0<=y) (h:y<(b.accept.length:Int)):(((pr b x y).toNat/gO b:Nat):Int)=x/\(((pr b x y).toNat%gO b:Nat):Int)=y:=by
 obtain⟨x,rfl⟩:=gd d;obtain⟨y,rfl⟩:=gd g;have e:(pr b (x:Int) (y:Int)).toNat=x*gO b+y:=by
  unfold pr;have:((x*gO b+y:Nat):Int)=(x:Int)*(gO b:Int)+(y:Int):=by rw[Int.natCast_add,iI]
  omega
 have a:y<gO b:=by unfold gO;omega
 rw[e];constructor
 .rw[jd,Nat.mul_add_div (by omega),rf a,lW]
 .rw[jd,Nat.mul_add_mod,pZ a]
theorem r9 (h:fW a b)(d:0<=x/\x<(a.accept.length:Int)) (e:0<=y/\y<(b.accept.length:Int)):0<=pr b x y/\pr b x y<((oI a b:Nat):Int):=by
 unfold pr oI;rw[iI];exact mY d e
theorem akZ (h:fW a b){c:Int}(e:0<=x/\x<(a.accept.length:Int)) (d:0<=y/\y<(b.accept.length:Int)) (i:0<=c) (j:c<a.calls):(cW a b).aQ.call (pr b x y) c=(pr b (a.aQ.call x c).1 (b.aQ.call y c).1,(a.aQ.call x c).2*b.stack+(b.aQ.call y c).2):=by
 have g:=r9 h e d;obtain⟨l,m⟩:=uC e.1 d.1 d.2;rw[akW h g.1 g.2 i j,l,m]
 rfl
theorem ak0 (h:fW a b){c:Int}(e:0<=x/\x<(a.accept.length:Int)) (d:0<=y/\y<(b.accept.length:Int)) (i:0<=c) (j:c<a.af):(cW a b).aQ.inner (pr b x y) c=pr b (a.aQ.inner x c) (b.aQ.inner y c):=by
 have g:=r9 h e d;obtain⟨l,m⟩:=uC e.1 d.1 d.2;rw[akX h g.1 g.2 i j,l,m]
 rfl
theorem ak1 (h:fW a b){g k:Int}(j:0<=x/\x<(a.accept.length:Int)) (d:0<=y/\y<(b.accept.length:Int)) (l:0<=g/\g<a.stack) (m:0<=k/\k<b.stack) (q:0<=r) (s:r<a.aj):(cW a b).aQ.pop (pr b x y) (g*b.stack+k) r=pr b (a.aQ.pop x g r) (b.aQ.pop y k r):=by
 have n:=r9 h j d;obtain⟨u,w⟩:=uC j.1 d.1 d.2;have o:=mY l m;have p:(((g*b.stack+k).toNat/b.stack.toNat:Nat):Int)=g/\(((g*b.stack+k).toNat%b.stack.toNat:Nat):Int)=k:=by
  obtain⟨g,rfl⟩:=gd l.1;obtain⟨k,rfl⟩:=gd m.1;have i:((b.stack.toNat:Nat):Int)=b.stack:=by omega
  have e:((g:Int)*b.stack+(k:Int)).toNat=g*b.stack.toNat+k:=by
   have:((g*b.stack.toNat+k:Nat):Int)=(g:Int)*b.stack+(k:Int):=by rw[Int.natCast_add,iI,i]
   omega
  have d:k<b.stack.toNat:=by omega
  rw[e];constructor
  .rw[jd,Nat.mul_add_div (by omega),rf d,lW]
  .rw[jd,Nat.mul_add_mod,pZ d]
 rw[akY h n.1 n.2 o.1 o.2 q s,u,w,p.1,p.2]
 rfl
variable{w:List Int}
theorem Sp (h:fW a b){s t:Int}(k:Wd (cW a b).aQ s t w):∀x y,(0<=x/\x<(a.accept.length:Int))->(0<=y/\y<(b.accept.length:Int))->s=pr b x y->∃n o, t=pr b n o /\Wd a.aQ x n w/\Wd b.aQ y o w:=by
 induction k with
 |nil s=>exact λx y g j e=>⟨x,y,e,.nil x,.nil y⟩
 |aH s i t w E Y _ U=>
  intro x y g j e;have l : i<a.af:=Y;have F:i<b.af:=by rw[h.i];exact l
  have:=ak0 h g j E l;rw[e]at U;obtain⟨n, o, R,P,Q⟩:=U _ _ (h.oa.inner x i g.1 g.2 E l) (h.ob.inner y i j.1 j.2 E F) this;have G:=Wd.aH (M:=b.aQ) y i o w E F Q;have ec:b.aQ.calls=(cW a b).aQ.calls:=h.c;rw[ec]at G;exact⟨n, o, R,Wd.aH (M:=a.aQ) x i n w E l P,G⟩
 |call s c p r t u v q Z H r1 _ _ I J=>
  intro x y g j e;have d : c<a.calls:=Z;have z:c<b.calls:=by rw[h.c];exact d
  have m : r<a.aj:=r1;have K:r<b.aj:=by rw[h.r];exact m
  have V:=akZ h g j q d;rw[e]at I J;have L:=h.oa.call x c g.1 g.2 q d;have N:=h.ob.call y c j.1 j.2 q z;obtain⟨W,X,R,P,Q⟩:=I _ _ L N (by rw[V];rfl)
  have A:=P.range (me h.oa) L;have B:=Q.range (me h.ob) N;have C:=h.oa.push x c g.1 g.2 q d;have D:=h.ob.push y c j.1 j.2 q z;have O:=ak1 h A B C D H m;have S:=h.oa.pop W _ r A.1 A.2 C.1 C.2 H m;have T:=h.ob.pop X _ r B.1 B.2 D.1 D.2 H K;obtain⟨n, o, l1,l2,l3⟩:=J _ _ S T (by rw[V,R];exact O)
  have G:=Wd.call (M:=b.aQ) y c X r o u v q z H K Q l3;have ec:b.aQ.calls=(cW a b).aQ.calls:=h.c;have ei:b.aQ.af=(cW a b).aQ.af:=h.i;rw[ec,ei]at G;exact⟨n, o, l1,Wd.call (M:=a.aQ) x c W r n u v q d H m P l2,G⟩
theorem Wd.det{n:al}(U:n.Ok){s t V : Int}(h:Wd n.aQ s t w) (k:Wd n.aQ s V w):t=V :=by
 rw[<-((Qb U).1 h).2.2,<-((Qb U).1 k).2.2]
theorem ak2 (h:fW a b){x y g i : Int}(l:0<=x/\x<(a.accept.length:Int)) (m:0<=y/\y<(b.accept.length:Int)) (j:Wd a.aQ x g w) (n:Wd b.aQ y i w):Wd (cW a b).aQ (pr b x y) (pr b g i) w:=by
 have d:=h.oa;obtain⟨o,p,_⟩:=(qx (M:=a.aQ) ⟨d.calls.1,d.af.1,d.aj.1⟩).1 j;have k:=(qx (M:=(cW a b).aQ) (s:=pr b x y) (w:=w) ⟨d.calls.1,d.af.1,d.aj.1⟩).2 ⟨o,p,rfl⟩;obtain⟨u,z,e,q,r⟩:=Sp h k x y l m rfl;rw[e]at k;rw[Wd.det h.oa j q,Wd.det h.ob n r];exact k
end
variable{v:List Int}
theorem vN{K:List (List Int)}(h:v∈K):0<=(K.idxOf v:Int)/\(K.idxOf v:Int)<(K.length:Int)/\ix K (K.idxOf v:Int)=v:=by
 have a:=List.idxOf_lt_length_of_mem h;refine⟨by omega,by omega,?_⟩
 rw[aG a,List.getElem_idxOf]
variable{D:Vd}
theorem oB{P:List Int->Prop}(h:lI P D) (d:Full D):jr D:=by
 refine⟨d,h.h0.1,h.ok.ok.calls,h.ok.ok.af,h.ok.ok.aj,λx a=>h.rl x (by rw[d.b];exact a),λx a=>?_,λx c y a m l=>?_⟩
 .obtain⟨_,e,g⟩:=h.aH x (by rw[d.i];exact a)
  rw[e];refine⟨by simp[idxs,Vd.gl],λy l=>?_⟩
  obtain⟨v,j,rfl⟩:=cB.1 l;exact⟨(vN (g v j)).1,(vN (g v j)).2.1⟩
 .obtain⟨_,_,e,g⟩:=h.bl x c y (by rw[d.b];exact a) m (by rw[d.c x c a m];exact l)
  rw[e];refine⟨by simp[idxs,Vd.dK],λz n=>?_⟩
  obtain⟨v,j,rfl⟩:=cB.1 n;exact⟨(vN (g v j)).1,(vN (g v j)).2.1⟩
variable{x:Nat}
theorem ak3{P:List Int->Prop}(h:lI P D) (b:Full D){i:Int}(d:x<D.K.length) (a:0<=i) (i1:i<D.n.af):ix D.K (D.im x i)=(ix D.K (x:Int)).map λs=>ix (ix D.n.inner s) i:=by
 obtain⟨_,e,g⟩:=h.aH x (by rw[b.i];exact d)
 unfold Vd.im;rw[e];have j:(D.gl x).length=D.n.af.toNat:=by simp[Vd.gl]
 unfold idxs;rw[iT (by omega) (by omega),(vN (g _ (aO a (by omega)))).2.2]
 unfold Vd.gl;rw[fA a (by omega),show((i.toNat:Nat):Int)=i by omega]
variable{r:Int}
theorem ak4{P:List Int->Prop}(h:lI P D) (a:Full D){y:Nat}{c:Int}(d:x<D.K.length) (i:y<D.K.length) (l:0<=c) (m:c<D.n.calls) (g:0<=r) (o:r<D.n.aj):ix D.K (D.bk x c y r)=(ix D.K (x:Int)).map (D.n.o9 D.plc (ix D.K (y:Int)) c r):=by
 obtain⟨_,_,e,j⟩:=h.bl x c.toNat y (by rw[a.b];exact d) (by omega) (by rw[a.c x c.toNat d (by omega)];exact i)
 unfold Vd.bM Vd.row at e;rw[show((c.toNat:Nat):Int)=c by omega]at e
 unfold Vd.bk;rw[e];have p:(D.dK x c.toNat y).length=D.n.aj.toNat:=by simp[Vd.dK]
 unfold idxs;rw[iT (by omega) (by omega),(vN (j _ (aO g (by omega)))).2.2]
 unfold Vd.dK;rw[fA g (by omega),show((c.toNat:Nat):Int)=c by omega,show((r.toNat:Nat):Int)=r by omega]
variable{w:List Int}
theorem Dv.wd{P:List Int->Prop}(h:lI P D) (hF:Full D) (hp:zm D.n D.plc){x:Int}(hd:Dv D x w):∀j:Nat,j<D.n.aZ.length->Wd D.n.aQ (ix D.n.aZ (j:Int)) (ix (ix D.K x) (j:Int)) w:=by
 have hD:=oB h hF;have db:=h.ok.ok
 induction hd with
 |nil=>
  intro j hj;rw[h.h0.2];exact .nil _
 |aH x i w i0 i1 hd ih=>
  intro j hj;have hx:=hd.fb hD;have e:=ak3 h hF (x:=x.toNat) (by omega) i0 i1
  rw[show((x.toNat:Nat):Int)=x by omega]at e
  have hk:=(h.ok.kx (x:=x.toNat) (by omega))
  rw[show((x.toNat:Nat):Int)=x by omega]at hk
  rw[e,iT (by omega) (by omega)]
  exact(ih j hj).app (.aH _ i _ [] i0 i1 (.nil _))
 |ak x c y r w u c0 c1 r0 r1 hd hu J0 te=>
  intro j hj;have hx:=hd.fb hD;have hy:=hu.fb hD;have e:=ak4 h hF (x:=x.toNat) (y:=y.toNat) (by omega) (by omega) c0 c1 r0 r1
  rw[show((x.toNat:Nat):Int)=x by omega,show((y.toNat:Nat):Int)=y by omega]at e
  have hk:=(h.ok.kx (x:=x.toNat) (by omega))
  rw[show((x.toNat:Nat):Int)=x by omega]at hk
  rw[e,iT (by omega) (by omega)]
  refine(J0 j hj).app ?_;generalize ht:ix (ix D.K x) (j:Int)=t at *;have U:=hk.1 _ (aO (l:=ix D.K x) (n:=(j:Int)) (by omega) (by omega))
  rw[ht]at U;have qR:=db.call t c U.1 U.2 c0 c1
  -- the entry
  have hm:ix (ix D.n.call t) c∈D.n.aZ:=by
   have BC:=(db.row t U.1 U.2).1;have ln:=db.lens;exact rS.2 (.inr ⟨_,aO U.1 (by omega),aO c0 (by omega)⟩)
  obtain⟨m,V,Db⟩:=fu.1 hm;have sF:=hp.By m V;rw[aG V,Db]at sF;have hw:=te m V;rw[aG V,Db]at hw;have:=Wd.call (M:=D.n.aQ) t c (ix (ix D.K y) (m:Int)) r _ u [] c0 c1 r0 r1 hw (.nil _);rw[show D.n.o9 D.plc (ix D.K y) c r t=D.n.aQ.pop (ix (ix D.K y) (m:Int)) (D.n.aQ.call t c).2 r from by
   unfold al.o9;rw[sF];rfl]
  exact this
theorem Wd.pO{M:eI}(U:0<=M.calls/\0<=M.af/\0<=M.aj){s t V : Int}(h:Wd M s t w) (g:Wd M s V w):t=V :=by
 have h1:=((qx U).1 h).2.2;have h2:=((qx U).1 g).2.2;rw[<-h1,<-h2]
theorem al.Ok.m0{n:al}(h:n.Ok):0<=n.aQ.calls/\0<=n.aQ.af/\0<=n.aQ.aj:=⟨h.calls.1,h.af.1,h.aj.1⟩
theorem Dv.pO{P:List Int->Prop}(h:lI P D) (U:Full D) (V:zm D.n D.plc){x y:Int}(hx:Dv D x w) (hy:Dv D y w):x=y:=by
 have hD:=oB h U;have rx:=hx.fb hD;have ry:=hy.fb hD;have kx:=h.ok.kx (x:=x.toNat) (by omega)
 have ky:=h.ok.kx (x:=y.toNat) (by omega)
 have e:ix D.K (x.toNat:Int)=ix D.K (y.toNat:Int):=by
  refine tz (by rw[kx.2,ky.2]) λj j0 j1=>?_
  have h1:=hx.wd h U V j.toNat (by rw[kx.2]at j1;omega)
  have h2:=hy.wd h U V j.toNat (by rw[kx.2]at j1;omega)
  rw[show((j.toNat:Nat):Int)=j by omega]at h1 h2
  rw[show((x.toNat:Nat):Int)=x by omega,show((y.toNat:Nat):Int)=y by omega]
  exact h1.pO h.ok.ok.m0 h2
 rw[aG (show x.toNat<D.K.length by omega),aG (show y.toNat<D.K.length by omega)]at e
 have:=(List.getElem_inj h.nd).1 e;omega
def zN:al:=⟨0,0,0,0,0,[],[],[],[],[]⟩
structure Kc (P:List Int->Prop) (n:al) (D:Vd):Prop where
 v:lI P D
 n:D.n=n
 p:zm D.n D.plc
structure wz (P:List Int->Prop) (n:al) (D:Vd) (cls:List Int) (k:Nat):Prop where
 d:Kc P n D
 f:Full D
 c:UF D D.ij cls k
structure wA (P:List Int->Prop) (n:al) (D:Vd) (cls:List Int) (k:Nat) (S:Fd) (l:List gN):Prop where
 c:wz P n D cls k
 kb:k<=128/\k*n.calls.toNat<=128
 s:Sr D 1025 S
 l:yM cls S k D.K.length l
inductive zq (P:List Int->Prop) (n:al):al->Int->Prop
 |inv:n.aX ≠ 0->zq P n zN n.aX
 |many (D:Vd):n.aX=0->Kc P n D->512<D.K.length->zq P n zN 11
 |dz (D:Vd) (cls:List Int) (k:Nat):n.aX=0->wz P n D cls k->(128<k\/128<k*n.calls.toNat)->zq P n zN 11
 |IZ (D:Vd) (cls:List Int) (k:Nat) (S:Fd) (l:List gN):n.aX=0->wA P n D cls k S l->l.any neg=true->zq P n zN 3
 |ok (D:Vd) (cls:List Int) (k:Nat) (S:Fd) (l:List gN) (st:List Int):n.aX=0->wA P n D cls k S l->l.any neg=false->st.length=l.length->(∀i:Nat,i<l.length->ix st (uB (dc l) i)=i)->zq P n (r6 D cls (dc l) st) 0
variable{cls:List Int}{l:List gN}
theorem wA.wd{P:List Int->Prop}{n:al}{k:Nat}{S:Fd}(h:wA P n D cls k S l){i:Nat}(hi:i<k) (U:0<=(ix l (i:Int)).2.1):((ix l (i:Int)).2.1<(D.K.length:Int))/\ix cls (ix l (i:Int)).2.1=i/\kp D (ix l (i:Int)).2.1 (ix l (i:Int)).2.2/\(ix l (i:Int)).2.2.length<=1024:=by
 obtain⟨⟨a,b,c,d⟩,_⟩:=h.l.yes i hi U;obtain⟨w,V,hl⟩:=(h.s.fd _ U (by rw[h.s.l];exact a)).1 c
 have:=h.s.lw _ w V hl;unfold Fd.wd at d;rw[this]at d;have d:(ix l (i:Int)).2.2=w:=d;rw[d];exact⟨a,b,V,by omega⟩
theorem wA.nodup{P:List Int->Prop}{n:al}{k:Nat}{S:Fd}(h:wA P n D cls k S l) (hn:l.any neg=false):(l.map λc=>c.2.2).Nodup:=by
 have V:∀i:Nat,i<l.length->0<=(ix l (i:Int)).2.1:=λi hi=>by
  have:=List.any_eq_false.1 hn _ (aO (l:=l) (n:=(i:Int)) (by omega) (by omega))
  simp[neg]at this;exact this
 have hk:=h.l.len;rw[List.Nodup,qj];intro i j hi U ur e;simp only[cY]at hi U;simp only[k9]at e;rw[<-aG hi,<-aG U]at e;obtain⟨a1,a2,a3,a4⟩:=h.wd (i:=i) (by omega) (V i hi)
 obtain⟨b1,b2,b3,b4⟩:=h.wd (i:=j) (by omega) (V j U)
 rw[e]at a3;have:=Dv.pO h.c.d.v h.c.f h.c.d.p a3.1 b3.1;rw[this,b2]at a2;omega
theorem wA.atm{P:List Int->Prop}{n:al}{k:Nat}{S:Fd}(h:wA P n D cls k S l) (hn:l.any neg=false) (hk:1<=k):UQ D cls (dc l):=by
 have hp:=pn l;have hv:∀i:Nat,i<l.length->0<=(ix l (i:Int)).2.1:=λi hi=>by
  have:=List.any_eq_false.1 hn _ (aO (l:=l) (n:=(i:Int)) (by omega) (by omega))
  simp[neg]at this;exact this
 have hl:=h.l.len;have V:(dc l).length=l.length:=hp.length_eq;have kU:∀c∈dc l,∃i:Nat,i<l.length/\ix l (i:Int)=c:=λc U=>by
  obtain⟨i,hi,e⟩:=fu.1 (hp.mem_iff.1 U);exact⟨i,hi,by rw[aG hi];exact e⟩
 have Af:=h.c.d.n;have jo:=h.c.d.v.ok.ok.start;have HZ:=h.c.d.p;have hs:D.n.start∈D.n.aZ:=rS.2 (.inl rfl);obtain⟨m,hm1,Db⟩:=fu.1 hs;have hpm:=HZ.By m hm1;rw[aG hm1,Db]at hpm;refine⟨oB h.c.d.v h.c.f,h.c.d.v.ok,⟨by omega,by have:=h.kb;omega⟩,?_,h.c.c.c.len,λc U=>?_,λc U=>?_,λc U=>?_,?_,?_,?_⟩
 .rw[V,hl,Af];exact h.kb.2
 .rw[V,hl];exact h.c.c.c.can.fb c U
 .obtain⟨i,hi,rfl⟩:=kU c U
  exact⟨hv i hi,(h.wd (by omega) (hv i hi)).1⟩
 .obtain⟨i,hi,rfl⟩:=kU c U
  rw[h.l.cl i (by omega)]
  omega
 .refine(hp.map _).nodup_iff.2 ?_
  rw[List.Nodup,qj];intro i j hi hj ur e;simp only[cY]at hi hj;simp only[k9]at e;rw[<-aG hi,<-aG hj,h.l.cl i (by omega),h.l.cl j (by omega)]at e
  omega
 .rw[HZ.len];exact jo.2
 .unfold Vd.ij
  rw[hpm];omega
theorem ak5{P:List Int->Prop}{n:al}(d:n.Ok){plc:List Int}(e:zm n plc) (g:P n.aZ):lI P (ng n plc):=
 ⟨ajU d e,by simp[ng],λk b=>by simp[ng]at b;rw[b];exact g,⟨by simp[ng],rfl⟩,λx a=>by simp[ng]at a,λx a=>by simp[ng]at a,λx c y a=>by simp[ng]at a⟩
theorem ak6 (n:al) (hf:n.fits) (P:List Int->Prop) (hP:n.aX=0->∀plc,zm n plc->CW P n plc) (hP0:P n.aZ) (K:AV->List ah->Prop) (H:∀e τ,zq P n zN e->K (.bF [.agg r7,.int e]) τ) (hk:∀r e τ,zq P n r e->K (.bF [r.av,.int e]) τ):LX L o7 [n.av] [] K:=by
 refine afT rfl ?_;have hV:=Hz n hf;show WK L (.seq (.cq OY)
 (.seq (.seq (.cq OZ)
 (.seq (.cq O1)
 (.cond 18 (.seq (.cq O2)
 .ret) .skip)))
 (.seq (.cq O3)
 (.seq (.seq (.seq (.cq O4) (.kO 4))
 (.cond 25 (.seq (.cq O5)
 .ret) .skip))
 (.seq (.cq O6)
 (.seq (.seq (.cq O7)
 (.cond 40 (.seq (.cq O8)
 .ret) .skip))
 IV)))))) _ none [] _
 by_cases u:n.aX=0
 .have hn:=og u
  rw[u]at hV;obtain⟨rv,τ,I,plc,z,rfl,rfl⟩:=dh (ajT n hn);have Xi:=vs0 n plc ⟨some 10,r7,.live⟩;have J:=ajy (P:=P) (ng n plc) (hP u plc z) p0 _ Xi (ak5 hn z hP0) rfl rfl (by simp[ng])
  obtain⟨rc,τ,G,D,p,hS,hI,h,B,w,hr⟩:=dh J;clear J;have w:p .v=3:=w;have M : L AM [.ptr 3 16 0] (⟨some 10,r7,.live⟩::(CY n plc).map (gm 1))=some (rc,τ):=G;have h:D.n=n:=h;have B:D.plc=plc:=B;have hd:Kc P n D:=⟨hI,h,by rw[h,B];exact z⟩
  rcases hr with⟨rfl,hF⟩|⟨rfl,N⟩
  .simp[-ag,hV,I,iW,M]
   refine RZ hS (b:=0) (A:=⟨some 10,r7,.live⟩) (by rw[w]) rfl λσ j=>?_
   have hD:=oB hI hF;have jo:=hI.ok.ok.start;have hs:D.n.start∈D.n.aZ:=rS.2 (.inl rfl);obtain⟨m,O,Db⟩:=fu.1 hs;have Q:=hd.p.By m O;rw[aG O,Db]at Q;obtain⟨⟨cls,k⟩,x,a⟩:=aj2 D hD hI.ok (by rw[hd.p.len];exact jo.2) (by unfold Vd.ij;rw[Q];omega)
   have C:wz P n D cls k:=⟨hd,hF,a⟩;have o:=a.c.can;have LP:=o.len;rw[a.c.len]at LP;have hkf:=hF.k;dsimp only at x;have E:=hn.calls;have y:1<=k:=by
    have:=o.fb _ (aO (l:=cls) (n:=0) (by omega) (by rw[a.c.len];have:=hD.k;omega))
    omega
   have hmul:(k:Int)*n.calls=((k*n.calls.toNat:Nat):Int):=by rw[iI];congr 1;omega
   have hmb:0<=(k:Int)*n.calls/\(k:Int)*n.calls<=512*64:=⟨nK (by omega) E.1,Int.le_trans (Int.mul_le_mul_of_nonneg_right (show(k:Int)<=512 by omega) E.1) (Int.mul_le_mul_of_nonneg_left E.2 (by omega))⟩
   have d:=λce (R T U V W X Y Z c8 c9:AV)=>qD (ce:=ce) (σ:=ar σ 0 ⟨some 10,[R,T,U,V,W,X,Y,Z,c8,c9],.live⟩) (n:=0) (cv (dw j))
   by_cases u4:128<k
   .have g :=aB (show(128:Int)<(k:Int)by omega)
    simp[-ag,x,g, j,d];exact H _ _ (.dz D cls k u C (.inl u4))
   .have g :=dN (show ¬(128:Int)<(k:Int)by omega)
    by_cases Un:128<k*n.calls.toNat
    .have q :=aB (show(128:Int)<(k:Int)*n.calls by rw[hmul];omega)
     simp[-ag,x,g, q, j,d];exact⟨by omega,H _ _ (.dz D cls k u C (.inr Un))⟩
    .have q :=dN (show ¬(128:Int)<(k:Int)*n.calls by rw[hmul];omega)
     simp[-ag,x,g, q];have hsy:=hn.syms;refine⟨by omega,akO hD (by rw[h];omega) a.c.len o.fb (by omega) y j λS l τ b x11 x12 x13 x16 hS G IH g0 gb=>?_⟩
     have hL:wA P n D cls k S l:=⟨C,⟨by omega,by omega⟩,hS,G⟩
     have hlk:=G.len;subst hlk;have kU:∀c∈l,∃i:Nat,i<l.length/\ix l (i:Int)=c:=λc hc=>by
      obtain⟨i,F,e⟩:=fu.1 hc;exact⟨i,F,by rw[aG F];exact e⟩
     refine akL g0 gb IH (λc hc j=>?_) (by omega) (λe=>by rw[e]at y;simp at y) (λc hc=>?_) (λs τ=>H _ _ (.IZ D cls _ S l u hL s)) λs=>⟨hL.nodup s,hL.atm s y,λst τ h1 h2=>hk _ _ _ (.ok D cls _ S l st u hL s h1 h2)⟩
     .obtain⟨i,F,rfl⟩:=kU c hc
      exact(G.no i F j).1
     .obtain⟨i,F,rfl⟩:=kU c hc
      by_cases j:(ix l (i:Int)).2.1<0
      .rw[(G.no i F j).1];simp
      .exact(hL.wd F (by omega)).2.2.2
  .simp[-ag,hV,I,iW,M]
   refine RZ hS (b:=0) (A:=⟨some 10,r7,.live⟩) (by rw[w]) rfl λσ j=>?_
   have d:=λce (R T U V W X Y Z c8 c9:AV)=>qD (ce:=ce) (σ:=ar σ 0 ⟨some 10,[R,T,U,V,W,X,Y,Z,c8,c9],.live⟩) (n:=0) (cv (dw j));simp[-ag,j,d];exact H _ _ (.many D u hd N)
 .have ak7:=λce (R T U V W X Y Z c8 c9:AV)=>qD (ce:=ce) (σ:=[⟨some 10,[R,T,U,V,W,X,Y,Z,c8,c9],.live⟩]) (n:=0) rfl
  simp[-ag,hV,u,ak7];exact H _ _ (.inv u)
theorem ak8 (n:al) (b:n.fits) (P:List Int->Prop) (d:n.aX=0->∀plc,zm n plc->CW P n plc) (a:P n.aZ):∃q:al×Int,PC o7 [n.av]=some (.bF [q.1.av,.int q.2])/\zq P n q.1 q.2:=
 BS (g:=λq:al×Int=>.bF [q.1.av,.int q.2]) (ak6 n b P d a _ (λe τ h=>⟨(zN,e),rfl,h⟩) λr e τ h=>⟨(r,e),rfl,h⟩)
structure kj where
 c:Int
 i:Int
 r:Int
inductive Ww (A:kj):List Int->Prop
 |nil:Ww A []
 |aH (w:List Int) (i:Int):0<=i->i<A.i->Ww A w->Ww A (w ++ [A.c+i])
 |ak (w u:List Int) (c r:Int):0<=c->c<A.c->0<=r->r<A.r->Ww A w->Ww A u->Ww A (w++c::(u ++ [A.c+A.i+r]))
inductive Sep (A:kj) (L:List Int->Prop):List Int->List Int->Prop
 |acc (u v:List Int):¬(L u↔L v)->Sep A L u v
 |aH (u v:List Int) (i:Int):0<=i->i<A.i->Sep A L (u ++ [A.c+i]) (v ++ [A.c+i])->Sep A L u v
 |bl (u v y:List Int) (c r:Int):0<=c->c<A.c->0<=r->r<A.r->Ww A y->Sep A L (u++c::(y ++ [A.c+A.i+r])) (v++c::(y ++ [A.c+A.i+r]))->Sep A L u v
 |br (u v y:List Int) (c r:Int):0<=c->c<A.c->0<=r->r<A.r->Ww A y->Sep A L (y++c::(u ++ [A.c+A.i+r])) (y++c::(v ++ [A.c+A.i+r]))->Sep A L u v
def jt (A:kj) (L:List Int->Prop) (u v:List Int):Prop:=¬Sep A L u v
variable{u:List Int}
theorem Sep.ne{A:kj}{L:List Int->Prop}(h:Sep A L u v):u ≠ v:=by
 induction h with
 |acc u v h=>exact λe=>h (by rw[e])
 |aH u v i _ _ _ U=>exact λe=>U (by rw[e])
 |bl u v y c r _ _ _ _ _ _ U=>exact λe=>U (by rw[e])
 |br u v y c r _ _ _ _ _ _ U=>exact λe=>U (by rw[e])
theorem jt.refl{A:kj}{L:List Int->Prop}(u:List Int):jt A L u u:=λh=>h.ne rfl
theorem Sep.symm{A:kj}{L:List Int->Prop}(h:Sep A L u v):Sep A L v u:=by
 induction h with
 |acc u v h=>exact .acc _ _ λe=>h e.symm
 |aH u v i h0 h1 _ U=>exact .aH _ _ i h0 h1 U
 |bl u v y c r h0 h1 h2 h3 V _ U=>exact .bl _ _ y c r h0 h1 h2 h3 V U
 |br u v y c r h0 h1 h2 h3 V _ U=>exact .br _ _ y c r h0 h1 h2 h3 V U
theorem jt.symm{A:kj}{L:List Int->Prop}(h:jt A L u v):jt A L v u:=λg=>h g.symm
theorem Sep.split{A:kj}{L:List Int->Prop}(h:Sep A L u w):∀v,Sep A L u v\/Sep A L v w:=by
 induction h with
 |acc u w h=>
  intro v
  by_cases e:L u↔L v
  .exact .inr (.acc _ _ λe2=>h (e.trans e2))
  .exact .inl (.acc _ _ e)
 |aH u w i h0 h1 _ U=>exact λv=>(U _).imp (.aH _ _ i h0 h1) (.aH _ _ i h0 h1)
 |bl u w y c r h0 h1 h2 h3 V _ U=>exact λv=>(U _).imp (.bl _ _ y c r h0 h1 h2 h3 V) (.bl _ _ y c r h0 h1 h2 h3 V)
 |br u w y c r h0 h1 h2 h3 V _ U=>exact λv=>(U (y++c::(v ++ [A.c+A.i+r]))).imp (.br _ _ y c r h0 h1 h2 h3 V) (.br _ _ y c r h0 h1 h2 h3 V)
theorem jt.trans{A:kj}{L:List Int->Prop}(h:jt A L u v) (g:jt A L v w):jt A L u w:=λk=>(k.split v).elim h g
theorem jt.acc{A:kj}{L:List Int->Prop}(h:jt A L u v):L u↔L v:=cZ λe=>h (.acc _ _ e)
theorem jt.aH{A:kj}{L:List Int->Prop}(h:jt A L u v){i:Int}(h0:0<=i) (h1:i<A.i):jt A L (u ++ [A.c+i]) (v ++ [A.c+i]):=λk=>h (.aH _ _ i h0 h1 k)
variable{y:List Int}
theorem jt.bl{A:kj}{L:List Int->Prop}(h:jt A L u v){c:Int}(h0:0<=c) (h1:c<A.c) (h2:0<=r) (h3:r<A.r) (U:Ww A y):jt A L (u++c::(y ++ [A.c+A.i+r])) (v++c::(y ++ [A.c+A.i+r])):=λk=>h (.bl _ _ y c r h0 h1 h2 h3 U k)
theorem jt.br{A:kj}{L:List Int->Prop}(h:jt A L u v){c:Int}(h0:0<=c) (h1:c<A.c) (h2:0<=r) (h3:r<A.r) (U:Ww A y):jt A L (y++c::(u ++ [A.c+A.i+r])) (y++c::(v ++ [A.c+A.i+r])):=λk=>h (.br _ _ y c r h0 h1 h2 h3 U k)
theorem jt.ak{A:kj}{L:List Int->Prop}{x:List Int}(h:jt A L u v) (g:jt A L x y){c:Int}(h0:0<=c) (h1:c<A.c) (h2:0<=r) (h3:r<A.r) (U:Ww A v) (hx:Ww A x):jt A L (u++c::(x ++ [A.c+A.i+r])) (v++c::(y ++ [A.c+A.i+r])):=(h.bl h0 h1 h2 h3 hx).trans (g.br h0 h1 h2 h3 U)
theorem Ww.sym{A:kj}(hA:0<=A.c/\0<=A.i/\0<=A.r)(h:Ww A w):∀a∈w,0<=a/\a<A.c+A.i+A.r:=by
 induction h with
 |nil=>simp
 |aH w i h0 h1 _ ih=>
  intro a U;rcases dQ.1 U with U|U
  .exact ih a U
  .simp at U;omega
 |ak w u c r h0 h1 h2 h3 _ _ V te=>
  intro a U;simp only[dQ,b5,List.not_mem_nil,or_false]at U;rcases U with U|rfl|U|rfl
  .exact V a U
  .omega
  .exact te a U
  .omega
structure kj.Ok (A:kj):Prop where
 p:0<=A.c/\0<=A.i/\0<=A.r
 s:A.c+A.i+A.r<=64
theorem Ww.sy{A:kj}(U:A.Ok)(h:Ww A w):Ab.sy w:=λa V=>by
 have:=h.sym U.p a V;have:=U.s;omega
theorem ak9{P:List Int->Prop}(d:∀w,P w->Ab.sy w)(a:P w):∃v,P v/\∀u,P u->aP v u<=0:=by
 have:∀(n:Nat) (w:List Int),ct w<=n->P w->∃v,P v/\∀u,P u->ct v<=ct u:=by
  intro n
  induction n with
  |zero=>exact λw h a=>⟨w,a,λu _=>by omega⟩
  |succ n i=>
   intro w h a
   by_cases e:∃u,P u/\ct u<ct w
   .obtain⟨u,j,m⟩:=e
    exact i u (by omega) j
   .exact⟨w,a,λu b=>by
     refine cZ λo=>e ⟨u,b,by omega⟩⟩
 obtain⟨v,g,l⟩:=this _ w (aT _) a;exact⟨v,g,λu b=>(rY (d v g) (d u b)).2 (l u b)⟩
structure gP (A:kj) (L:List Int->Prop) (ws:List (List Int)):Prop where
 zk:ws.Pairwise λa b=>aP a b<0
 ww:∀w∈ws,Ww A w
 Ss:∀w∈ws,∀v,Ww A v->jt A L w v->aP w v<=0
 all:∀v,Ww A v->∃w∈ws,jt A L v w
theorem I0{a b:List Int}(h:aP a b<=0) (g:aP b a<=0):a=b:=by
 have:=dE.gg a b;exact dE.eq _ _ (by omega)
theorem gP.one{A:kj}{L:List Int->Prop}{ws:List (List Int)}(h:gP A L ws)(U:v∈ws) (V:w∈ws) (e:jt A L v w):v=w:=
 I0 (h.Ss v U w (h.ww w V) e) (h.Ss w V v (h.ww v U) e.symm)
theorem Su:∀{a b:List (List Int)},a.Pairwise (λa b=>aP a b<0)->b.Pairwise (λa b=>aP a b<0)->(∀w,w∈a↔w∈b)->a=b
 | [],[],_,_,_=>rfl
 | [],y::b,_,_,h=>absurd ((h y).2 (by simp)) (by simp)
 |x::a,[],_,_,h=>absurd ((h x).1 (by simp)) (by simp)
 |x::a,y::b,i,j,h=>by
  rw[kD]at i j;have l:∀u v:List Int,aP u v<0->aP v u<0->False:=λu v m p=>by have:=dE.gg u v;omega
  have e:x=y:=by
   rcases b5.1 ((h x).1 (by simp))with e|n
   .exact e
   .rcases b5.1 ((h y).2 (by simp))with e|o
    .exact e.symm
    .exact absurd (i.1 y o) λm=>l _ _ m (j.1 x n)
  subst e;rw[Su i.2 j.2 λw=>?_];constructor
  .intro g
   rcases b5.1 ((h w).1 (by simp[g]))with e|d
   .subst e;exact absurd (i.1 w g) (by have:=dE.refl w;omega)
   .exact d
  .intro g
   rcases b5.1 ((h w).2 (by simp[g]))with e|d
   .subst e;exact absurd (j.1 w g) (by have:=dE.refl w;omega)
   .exact d
theorem gP.pO{A:kj}{L:List Int->Prop}{a b:List (List Int)}(h:gP A L a) (g:gP A L b):a=b:=by
 have key:∀{a b:List (List Int)},gP A L a->gP A L b->∀w,w∈a->w∈b:=fun {a b} h g w U=>by
  obtain⟨v,V,e⟩:=g.all w (h.ww w U);rw[I0 (h.Ss w U v (g.ww v V) e) (g.Ss v V w (h.ww w U) e.symm)];exact V
 exact Su h.zk g.zk λw=>⟨key h g w,key g h w⟩
open Classical in
noncomputable def gn (A:kj) (L:List Int->Prop) (ws:List (List Int)) (v:List Int):Int:=(ws.findIdx λw=>decide (jt A L v w):Nat)
theorem qF{A:kj}{L:List Int->Prop}{ws:List (List Int)}(h:gP A L ws)(b:Ww A v):0<=gn A L ws v/\gn A L ws v<(ws.length:Int)/\jt A L v (ix ws (gn A L ws v)):=by
 obtain⟨w,d,e⟩:=h.all v b;have a:=List.findIdx_lt_length_of_exists (p:=λw=>@decide (jt A L v w) (Classical.propDecidable _)) ⟨w,d,by simpa using e⟩
 have g:=List.findIdx_getElem (w:=a);unfold gn;refine⟨by omega,by omega,?_⟩
 rw[aG a];simpa using g
theorem vO{A:kj}{L:List Int->Prop}{ws:List (List Int)}(h:gP A L ws)(j:Ww A v){i:Int}(l:0<=i) (i1:i<(ws.length:Int)) (e:jt A L v (ix ws i)):gn A L ws v=i:=by
 obtain⟨m,n,o⟩:=qF h j;have p:=aO l i1;have q:=aO m n;have:=h.one q p (o.symm.trans e);have d:ws.Nodup:=h.zk.imp fun {a b} g e=>by rw[e,dE.refl]at g;omega
 rw[show gn A L ws v=((gn A L ws v).toNat:Int)by omega,show i=(i.toNat:Int)by omega]at this
 rw[aG (by omega),aG (by omega)]at this
 have:=(List.getElem_inj d).1 this;omega
theorem Sv{A:kj}{L:List Int->Prop}{ws:List (List Int)}(h:gP A L ws)(a:Ww A u) (g:Ww A v):gn A L ws u=gn A L ws v↔jt A L u v:=by
 obtain⟨i,j,b⟩:=qF h g;constructor
 .intro e
  obtain⟨l,m,d⟩:=qF h a;rw[e]at d;exact d.trans b.symm
 .exact λe=>vO h a i j (e.trans b)
end Ab
namespace Ab
def ala{n:al}(h:n.Ok):n.aX=0:=by
 have p:n.eV=0:=by
  have u:=h.calls;have w:=h.af;have x:=h.aj;have y:=h.syms;have z:=h.stack;have m:=h.cP;have A:=h.start;obtain⟨B,C,D,E⟩:=h.lens;unfold al.eV;rw[aa (by omega),aa (by omega),aa (by omega),aa (by omega),aa (by omega),aa (λe=>by rw[e]at m;simp at m),aa (by omega),aa (by omega),aa (by omega),aa (by omega),aa (by omega),aa (by omega),aa (by omega)]
 unfold al.aX;rw[aa (by simpa using p)]
 refine Bg.2 λs b d=>?_;obtain⟨F,G,H,q⟩:=h.row s b d;unfold al.dO;rw[aa (by omega),aa]
 .refine Bg.2 λg o i=>?_
  rw[q]at i;have r:=h.tD s g b d o i;unfold al.iQ;rw[aa (by simpa using r),aa]
  rw[o8.2 λj a l=>h.pop s g j b d o i a (by omega)]
  simp
 .rw[o8.2 λj a l=>h.call s j b d a (by omega),o8.2 λj a l=>h.push s j b d a (by omega),o8.2 λj a l=>h.inner s j b d a (by omega)]
  simp
def Sw{n:al}(h:n.Ok) (g:(∀l∈n.call,l.length<=100000)/\(∀l∈n.push,l.length<=100000)/\(∀l∈n.inner,l.length<=100000)/\∀l∈n.pop,l.length<=100000/\∀m∈l,m.length<=100000):n.fits:=by
 have i:=h.calls;have j:=h.af;have o:=h.aj;have u:=h.stack;have w:=h.cP;have p:=h.start;have inr:∀x:Int,0<=x->x<=1000->ka x=true:=λx a b=>by simp[ka];omega
 obtain⟨b1,q,r,e⟩:=g;exact⟨inr _ i.1 (by omega),inr _ j.1 (by omega),inr _ o.1 (by omega),inr _ (by omega) (by omega),inr _ p.1 (by omega),by omega,λl d=>by have:=b1 l d;omega,λl d=>by have:=q l d;omega,λl d=>by have:=r l d;omega,λl d=>⟨by have:=(e l d).1;omega,λm s=>by have:=(e l d).2 m s;omega⟩⟩
def gG{a:Type} [Inhabited a]{N:Nat}{f:Nat->a}{s:Int}(b:0<=s) (d:s<(N:Int)):ix ((List.range N).map f) s=f s.toNat:=fA b d
def kj.ay (A:kj) (k:Nat):Nat:=max 1 (k*A.c.toNat)
open Classical in
noncomputable def cA (A:kj) (L:List Int->Prop) (ws:List (List Int)):al:=⟨A.c,A.i,A.r,((A.ay ws.length:Nat):Int),0,
 (List.range ws.length).map λ(i:Nat)=>decide (L (ix ws (i:Int))),
 List.replicate ws.length (List.replicate A.c.toNat 0),
 (List.range ws.length).map λ(s:Nat)=>(List.range A.c.toNat).map λ(c:Nat)=>(s:Int)*A.c+(c:Int),
 (List.range ws.length).map λ(i:Nat)=>(List.range A.i.toNat).map λ(j:Nat)=>gn A L ws (ix ws (i:Int) ++ [A.c+(j:Int)]),
 (List.range ws.length).map λ(i:Nat)=>(List.range (A.ay ws.length)).map λ(g:Nat)=>(List.range A.r.toNat).map λ(r:Nat)=>if A.c.toNat=0 then 0 else gn A L ws (ix ws ((g/A.c.toNat:Nat):Int)++((g%A.c.toNat:Nat):Int)::(ix ws (i:Int) ++ [A.c+A.i+(r:Int)]))⟩
section
variable{A:kj}{L:List Int->Prop}{ws:List (List Int)}
theorem I3:(cA A L ws).accept.length=ws.length/\(cA A L ws).call.length=ws.length/\(cA A L ws).push.length=ws.length/\(cA A L ws).inner.length=ws.length/\(cA A L ws).pop.length=ws.length:=by
 simp[cA]
theorem yQ{s c:Int}(a:0<=s) (b:s<(ws.length:Int)) (d:0<=c) (e:c<A.c):ix (ix (cA A L ws).call s) c=0/\ix (ix (cA A L ws).push s) c=s*A.c+c:=by
 constructor
 .show ix (ix (List.replicate ws.length (List.replicate A.c.toNat 0)) s) c=0
  rw[show s=((s.toNat:Nat):Int)by omega,show c=((c.toNat:Nat):Int)by omega,kJ (by omega),kJ (by omega)]
 .show ix (ix ((List.range ws.length).map λ(s:Nat)=>(List.range A.c.toNat).map λ(c:Nat)=>(s:Int)*A.c+(c:Int)) s) c=_
  rw[gG a b,gG d (by omega)]
  rw[show((s.toNat:Nat):Int)=s by omega,show((c.toNat:Nat):Int)=c by omega]
theorem alb{s:Int}(a:0<=s) (b:s<(ws.length:Int)):(ix (cA A L ws).call s).length=A.c.toNat/\(ix (cA A L ws).push s).length=A.c.toNat/\(ix (cA A L ws).inner s).length=A.i.toNat/\(ix (cA A L ws).pop s).length=A.ay ws.length:=by
 refine⟨?_,?_,?_,?_⟩
 .show(ix (List.replicate ws.length (List.replicate A.c.toNat (0:Int))) s).length=_
  rw[show s=((s.toNat:Nat):Int)by omega,kJ (by omega)];simp
 .show(ix ((List.range ws.length).map λ(s:Nat)=>(List.range A.c.toNat).map λ(c:Nat)=>(s:Int)*A.c+(c:Int)) s).length=_
  rw[gG a b];simp
 .show(ix ((List.range ws.length).map λ(i:Nat)=>(List.range A.i.toNat).map λ(j:Nat)=>gn A L ws (ix ws (i:Int) ++ [A.c+(j:Int)])) s).length=_
  rw[gG a b];simp
 .show(ix ((List.range ws.length).map λ(i:Nat)=>(List.range (A.ay ws.length)).map λ(g:Nat)=>(List.range A.r.toNat).map λ(r:Nat)=>if A.c.toNat=0 then 0 else gn A L ws (ix ws ((g/A.c.toNat:Nat):Int)++((g%A.c.toNat:Nat):Int)::(ix ws (i:Int) ++ [A.c+A.i+(r:Int)]))) s).length=_
  rw[gG a b];simp
theorem Sx{s i:Int}(a:0<=s) (b:s<(ws.length:Int)) (d:0<=i) (i1:i<A.i):ix (ix (cA A L ws).inner s) i=gn A L ws (ix ws s ++ [A.c+i]):=by
 show ix (ix ((List.range ws.length).map λ(i:Nat)=>(List.range A.i.toNat).map λ(j:Nat)=>gn A L ws (ix ws (i:Int) ++ [A.c+(j:Int)])) s) i=_;rw[gG a b,gG d (by omega),show((s.toNat:Nat):Int)=s by omega,show((i.toNat:Nat):Int)=i by omega]
theorem ald{s g:Int}(a:0<=s) (b:s<(ws.length:Int)) (d:0<=g) (e:g<(A.ay ws.length:Int)):(ix (ix (cA A L ws).pop s) g).length=A.r.toNat:=by
 show(ix (ix ((List.range ws.length).map λ(i:Nat)=>(List.range (A.ay ws.length)).map λ(g:Nat)=>(List.range A.r.toNat).map λ(r:Nat)=>if A.c.toNat=0 then 0 else gn A L ws (ix ws ((g/A.c.toNat:Nat):Int)++((g%A.c.toNat:Nat):Int)::(ix ws (i:Int) ++ [A.c+A.i+(r:Int)]))) s) g).length=_
 rw[gG a b,gG d e];simp
variable{r:Int}
theorem Sy{s g:Int}(a:0<=s) (b:s<(ws.length:Int)) (d:0<=g) (e:g<(A.ay ws.length:Int)) (h:0<=r) (j:r<A.r):ix (ix (ix (cA A L ws).pop s) g) r=if A.c.toNat=0 then 0 else gn A L ws (ix ws ((g.toNat/A.c.toNat:Nat):Int)++((g.toNat%A.c.toNat:Nat):Int)::(ix ws s ++ [A.c+A.i+r])):=by
 show ix (ix (ix ((List.range ws.length).map λ(i:Nat)=>(List.range (A.ay ws.length)).map λ(g:Nat)=>(List.range A.r.toNat).map λ(r:Nat)=>if A.c.toNat=0 then 0 else gn A L ws (ix ws ((g/A.c.toNat:Nat):Int)++((g%A.c.toNat:Nat):Int)::(ix ws (i:Int) ++ [A.c+A.i+(r:Int)]))) s) g) r=_
 rw[gG a b,gG d e,gG h (by omega),show((s.toNat:Nat):Int)=s by omega,show((r.toNat:Nat):Int)=r by omega]
theorem Sz{s p c:Int}(b:0<=s) (d:s<(ws.length:Int)) (p0:0<=p) (j:p<(ws.length:Int)) (l:0<=c) (m:c<A.c) (g:0<=r) (h:r<A.r):0<=p*A.c+c/\p*A.c+c<(A.ay ws.length:Int)/\ix (ix (ix (cA A L ws).pop s) (p*A.c+c)) r=gn A L ws (ix ws p++c::(ix ws s ++ [A.c+A.i+r])):=by
 obtain⟨a,rfl⟩:∃a:Nat,p=a:=⟨p.toNat,by omega⟩
 obtain⟨cn,rfl⟩:∃cn:Nat,c=cn:=⟨c.toNat,by omega⟩
 have e:(a:Int)*A.c+(cn:Int)=((a*A.c.toNat+cn:Nat):Int):=by rw[Int.natCast_add,iI];congr 2;omega
 have n:a*A.c.toNat+A.c.toNat<=ws.length*A.c.toNat:=by rw[<-Nat.succ_mul];exact kS _ (by omega)
 have o:a*A.c.toNat+cn<A.ay ws.length:=by
  show _<max 1 (ws.length*A.c.toNat);omega
 rw[e];refine⟨by omega,by omega,?_⟩
 rw[Sy b d (by omega) (by omega) g h,aa (by omega),je,show(a*A.c.toNat+cn)/A.c.toNat=a from by rw[jd,Nat.mul_add_div (by omega),rf (by omega),lW],show(a*A.c.toNat+cn)%A.c.toNat=cn from by rw[jd,Nat.mul_add_mod,pZ (by omega)]]
theorem gP.I4 (h:gP A L ws) (hA:A.Ok):1<=ws.length/\ix ws 0=[]:=by
 obtain⟨w,U,e⟩:=h.all [] .nil;have hle:=h.Ss w U [] .nil e.symm;have V:w=[]:=by
  have:aP [] w<=0:=by
   unfold aP;split
   .omega
   .split
    .rename_i h1;simp at h1
    .rename_i h1 h2
     have:w=[]:=by cases w with
      |nil=>rfl
      |cons a w=>simp at h1
     subst this;simp[b8]
  exact I0 hle this
 subst V;have hp:=List.length_pos_of_mem U;refine⟨hp,?_⟩;cases ws with
 |nil=>simp at hp
 |cons x l=>
  have hx:x=[]:=by
   rcases b5.1 U with e|U
   .exact e.symm
   .have:=(kD.1 h.zk).1 [] U
    unfold aP at this;split at this
    .rename_i h1;simp at h1
    .split at this
     .omega
     .cases x with
      |nil=>rfl
      |cons a x=>rename_i h1 h2;simp at h2
  rw[hx];rfl
theorem gP.I5 (h:gP A L ws){s:Int}(s0:0<=s) (s1:s<(ws.length:Int)):Ww A (ix ws s):=h.ww _ (aO s0 s1)
theorem ale (h:gP A L ws) (z:A.Ok) (G:1<=A.c+A.i+A.r) (H:ws.length<=128) (P:ws.length*A.c.toNat<=128):(cA A L ws).Ok:=by
 have B:=z.p;have C:=z.s;obtain⟨n,I,J,K,M⟩:=I3 (A:=A) (L:=L) (ws:=ws);have N:=(h.I4 z).1;have D:A.ay ws.length=max 1 (ws.length*A.c.toNat):=rfl;have q:(cA A L ws).stack=(A.ay ws.length:Int):=rfl;refine⟨⟨B.1,?_⟩,⟨B.2.1,?_⟩,⟨B.2.2,?_⟩,⟨G,C⟩,⟨by rw[q];omega,by rw[q];omega⟩,⟨by rw[n];omega,by rw[n];omega⟩,⟨Int.le_refl _,?_⟩,⟨by rw[n,I],by rw[n,J],by rw[n,K],by rw[n,M]⟩,λs l j=>?_,λs c l j u o=>?_,λs c l j u o=>?_,λs c l j u o=>?_,λs g l j E w=>?_,λs g r l j E w F y=>?_⟩
 .show A.c<=64;omega
 .show A.i<=64;omega
 .show A.r<=64;omega
 .show(0:Int)<_;rw[n];omega
 .rw[n]at j
  obtain⟨a,b,c,d⟩:=alb (A:=A) (L:=L) l j;refine⟨?_,?_,?_,?_⟩
  .rw[a];show((A.c.toNat:Nat):Int)=A.c;omega
  .rw[b];show((A.c.toNat:Nat):Int)=A.c;omega
  .rw[c];show((A.i.toNat:Nat):Int)=A.i;omega
  .rw[d];rfl
 .rw[n]at j ⊢
  rw[(yQ l j u o).1];omega
 .rw[n]at j
  rw[(yQ l j u o).2]
  by_cases O:0<A.r
  .have:=Sz (A:=A) (L:=L) l j l j u o (r:=0) (by omega) O
   exact⟨this.1,this.2.1⟩
  .-- no returns
   obtain⟨x,rfl⟩:∃x:Nat,s=x:=⟨s.toNat,by omega⟩
   obtain⟨cn,rfl⟩:∃cn:Nat,c=cn:=⟨c.toNat,by omega⟩
   have o:(cn:Int)<A.c:=o;have e:(x:Int)*A.c+(cn:Int)=((x*A.c.toNat+cn:Nat):Int):=by rw[Int.natCast_add,iI];congr 2;omega
   have H:x*A.c.toNat+A.c.toNat<=ws.length*A.c.toNat:=by rw[<-Nat.succ_mul];exact kS _ (by omega)
   rw[e,q,D];omega
 .rw[n]at j ⊢
  rw[Sx l j u o];have:=qF h (.aH _ c u o (h.I5 l j));exact⟨this.1,this.2.1⟩
 .rw[n]at j
  rw[ald l j E w];show((A.r.toNat:Nat):Int)=A.r;omega
 .rw[n]at j ⊢
  rw[Sy l j E w F y];split
  .omega
  .rename_i Q
   have w:g<(A.ay ws.length:Int):=w;have R:=Nat.mod_lt g.toNat (show 0<A.c.toNat by omega)
   have hd:g.toNat/A.c.toNat<ws.length:=by
    rw[sK (by omega)]
    have:1<=ws.length*A.c.toNat:=Nat.mul_pos N (by omega)
    omega
   have y:r<A.r:=y;generalize g.toNat/A.c.toNat=d at *;generalize g.toNat%A.c.toNat=m at *;have:=qF h (.ak (ix ws ((d:Nat):Int)) (ix ws s) ((m:Nat):Int) r (by omega) (by omega) F y (h.I5 (by omega) (by omega)) (h.I5 l j))
   exact⟨this.1,this.2.1⟩
theorem Ww.app{u v:List Int}(V:Ww A u) (hv:Ww A v):Ww A (u++v):=by
 induction hv with
 |nil=>simpa using V
 |aH w i h0 h1 _ ih=>rw[<-List.append_assoc];exact .aH _ i h0 h1 ih
 |ak w x c r h0 h1 h2 h3 _ hx U _=>rw[<-List.append_assoc];exact .ak _ x c r h0 h1 h2 h3 U hx
variable{w:List Int}
theorem alf (h:gP A L ws) (C:A.Ok)(l:Ww A w):∀u,Ww A u->Wd (cA A L ws).aQ (gn A L ws u) (gn A L ws (u++w)) w:=by
 induction l with
 |nil=>intro u d;rw[List.append_nil];exact .nil _
 |aH w i m n l D=>
  intro u d;have a:=d.app l;have r:=qF h a;refine(D u d).app ?_;have e:(cA A L ws).aQ.inner (gn A L ws (u++w)) i=gn A L ws (u++(w ++ [A.c+i])):=by
   show ix (ix (cA A L ws).inner _) i=_;rw[Sx r.1 r.2.1 m n];refine(Sv h (.aH _ i m n (h.I5 r.1 r.2.1)) ?_).2 ?_
   .rw[<-List.append_assoc];exact .aH _ i m n a
   .rw[<-List.append_assoc];exact r.2.2.symm.aH m n
  have:=Wd.aH (M:=(cA A L ws).aQ) (gn A L ws (u++w)) i (gn A L ws (u++(w ++ [A.c+i]))) [] m n (by rw[e];exact .nil _)
  exact this
 |ak w y c r g j o p l B s x=>
  intro u d;have a:=d.app l;have q:=qF h a;have b:=qF h B;have E:=h.I4 C;refine(s u d).app ?_;have z:=x [] .nil;rw[oQ]at z;have e0:gn A L ws []=0:=vO h .nil (by omega) (by omega) (by rw[E.2];exact jt.refl _)
  rw[e0]at z;have ec:=yQ (A:=A) (L:=L) q.1 q.2.1 g j;have F:=Sz (A:=A) (L:=L) b.1 b.2.1 q.1 q.2.1 g j o p;have e:(cA A L ws).aQ.pop (gn A L ws y) ((cA A L ws).aQ.call (gn A L ws (u++w)) c).2 r=gn A L ws (u++(w++c::(y ++ [A.c+A.i+r]))):=by
   show ix (ix (ix (cA A L ws).pop (gn A L ws y)) (ix (ix (cA A L ws).push (gn A L ws (u++w))) c)) r=_;rw[ec.2,F.2.2];refine(Sv h (.ak _ _ c r g j o p (h.I5 q.1 q.2.1) (h.I5 b.1 b.2.1)) ?_).2 ?_
   .rw[<-List.append_assoc];exact .ak _ y c r g j o p a B
   .rw[<-List.append_assoc];exact q.2.2.symm.ak b.2.2.symm g j o p a (h.I5 b.1 b.2.1)
  have:=Wd.call (M:=(cA A L ws).aQ) (gn A L ws (u++w)) c (gn A L ws y) r (gn A L ws (u++(w++c::(y ++ [A.c+A.i+r])))) y [] g j o p (by rw[show((cA A L ws).aQ.call (gn A L ws (u++w)) c).1=0 from ec.1];exact z) (by rw[e];exact .nil _)
  exact this
theorem SA (h:gP A L ws)(a:Ww A w):ix (cA A L ws).accept (gn A L ws w)=true↔L w:=by
 have q:=qF h a;show ix ((List.range ws.length).map λ(i:Nat)=>@decide (L (ix ws (i:Int))) (Classical.propDecidable _)) _=true↔_;rw[gG q.1 q.2.1,show(((gn A L ws w).toNat:Nat):Int)=gn A L ws w by omega]
 rw[@decide_eq_true_eq _ (Classical.propDecidable _)];exact q.2.2.acc.symm
end
end Ab
