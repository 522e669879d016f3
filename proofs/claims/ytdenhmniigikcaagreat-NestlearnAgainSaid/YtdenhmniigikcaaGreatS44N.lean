/- First words by the document's table; and what it leans on. Condition: none. -/
import Derived.Test.YtdenhmniigikcaaGreatS44D
import Derived.Test.YtdenhmniigikcaaGreatS44L
set_option linter.all false
set_option maxRecDepth 100000
set_option maxHeartbeats 4000000
namespace Ab
abbrev TO:=Int->Int->Option (List Int)
inductive Ls (M:fj) (T:TO) (s t:Int):List Int->Prop
 |aQ (i:Int) (x:List Int):0<=i->i<M.aj->T (M.inner s i) t=some x->Ls M T s t ((M.calls+i)::x)
 |call (c p r:Int) (x y:List Int):0<=c->c<M.calls->0<=p->p<(M.size:Int)->0<=r->r<M.aq->T (M.call s c).1 p=some x->T (M.pop p (M.call s c).2 r) t=some y->Ls M T s t (c::(x++(M.calls+M.aj+r)::y))
def dB (M:fj) (s:Int):Prop:=0<=s/\s<(M.size:Int)
def UG (M:fj) (T:TO):Prop:=∀s t w,dB M s->dB M t->T s t=some w->Wd M s t w/\w.length<=1024
theorem Ls.wd{M:fj}(hM:M.Ok){T:TO}(hT:UG M T){s t:Int}{w:List Int}(hs:dB M s) (ht:dB M t) (h:Ls M T s t w):Wd M s t w:=by
 cases h with
 |aQ i x h0 h1 h2=>exact .aQ s i t x h0 h1 (hT _ _ _ (hM.inner s i hs.1 hs.2 h0 h1) ht h2).1
 |call c p r x y c0 c1 p0 p1 r0 r1 h1 h2=>
  have hc:=hM.call s c hs.1 hs.2 c0 c1;have hp:=hM.pop s c p r hs.1 hs.2 c0 c1 p0 p1 r0 r1;exact .call s c p r t x y c0 c1 r0 r1 (hT _ _ _ hc ⟨p0,p1⟩ h1).1 (hT _ _ _ hp ht h2).1
def Lt (l:Option (List Int)) (w:List Int):Option (List Int):=if 1024<w.length then l else match l with
 |none=>some w
 |some x=>if aV x w<=0 then some x else some w
theorem amP{l:Option (List Int)}{w x:List Int}(h:Lt l w=some x):l=some x\/(x=w/\x.length<=1024):=by
 unfold Lt at h;split at h
 ·exact .inl h
 ·split at h
  ·injection h with h;exact .inr ⟨h.symm,by rw[<-h];omega⟩
  ·split at h
   ·exact .inl h
   ·injection h with h;exact .inr ⟨h.symm,by rw[<-h];omega⟩
def Aj (l:Option (List Int)) (ws:List (List Int)):Option (List Int):=ws.foldl Lt l
theorem amQ{l:Option (List Int)}{ws:List (List Int)}{w:List Int}:Aj l (ws ++ [w])=Lt (Aj l ws) w:=by simp[Aj]
theorem UH{x:List Int}:∀{ws:List (List Int)}{l:Option (List Int)},Aj l ws=some x->l=some x\/(x∈ws/\x.length<=1024)
 | [],_,h=>.inl h
 |w::ws,l,h=>by
  rcases UH (ws:=ws) (l:=Lt l w) h with h|⟨h1,h2⟩
  ·rcases amP h with h|⟨rfl,h2⟩
   ·exact .inl h
   ·exact .inr ⟨by simp,h2⟩
  ·exact .inr ⟨by simp[h1],h2⟩
abbrev PR:=Int×Int
structure Bs where
 W:TO
 D:Int->Int->Bool
 R:Nat->List PR
def lq (W:TO) (s t:Int) (w:List Int):TO:=λu v=>if u=s/\v=t then some w else W u v
def qw (R:Nat->List PR) (n:Nat) (p:PR):Nat->List PR:=λk=>if k=n then R k ++ [p]else R k
def xd (D:Int->Int->Bool) (s t:Int):Int->Int->Bool:=λu v=>if u=s/\v=t then true else D u v
def Bs.off (b:Bs) (s t:Int) (x:List Int):Bs:=
 if 1024<x.length\/b.D s t=true then b else match b.W s t with
 |none=>⟨lq b.W s t x,b.D,qw b.R x.length (s,t)⟩
 |some o=>if o.length<x.length then b else if aV o x<=0 then b else⟨lq b.W s t x,b.D,if x.length<o.length then qw b.R x.length (s,t)else b.R⟩
structure nj (M:fj) (P:Int->Int->List Int->Prop) (n:Nat) (b:Bs):Prop where
 snd:∀s t w,dB M s->dB M t->b.W s t=some w->P s t w/\w.length<=1024
 dn:∀s t,dB M s->dB M t->(b.D s t=true↔∃w,kn (P s t)=some w/\w.length<n)
 wd:∀s t,dB M s->dB M t->b.D s t=true->b.W s t=kn (P s t)
 ge:∀s t w,dB M s->dB M t->b.W s t=some w->b.D s t=false->n<=w.length
 xN:∀s t w,dB M s->dB M t->b.W s t=some w->b.D s t=false->(s,t)∈b.R w.length
 low:∀s t k,(s,t)∈b.R k->(dB M s/\dB M t)/\∃w,b.W s t=some w/\w.length<=k
 nd:∀k,(b.R k).Nodup
def qx (b:Bs) (s t:Int) (x:List Int):Prop:=1024<x.length\/b.D s t=true\/∃w,b.W s t=some w/\fw w<=fw x
structure tF (M:fj) (b c:Bs):Prop where
 D:∀s t,b.D s t=true->c.D s t=true
 W:∀s t w,dB M s->dB M t->b.W s t=some w->∃v,c.W s t=some v/\fw v<=fw w
theorem tF.refl{M:fj}(b:Bs):tF M b b:=⟨λ_ _ h=>h,λ_ _ w _ _ h=>⟨w,h,bw _⟩⟩
theorem tF.trans{M:fj}{a b c:Bs}(h:tF M a b) (k:tF M b c):tF M a c:=⟨λs t e=>k.D s t (h.D s t e),λs t w hs ht e=>by
 obtain⟨v,h1,h2⟩:=h.W s t w hs ht e;obtain⟨u,h3,h4⟩:=k.W s t v hs ht h1;exact⟨u,h3,by omega⟩⟩
theorem qx.mono{M:fj}{b c:Bs}(h:tF M b c){s t:Int}{x:List Int}(hs:dB M s) (ht:dB M t) (k:qx b s t x):qx c s t x:=by
 rcases k with k|k|⟨w,k1,k2⟩
 ·exact .inl k
 ·exact .inr (.inl (h.D s t k))
 ·obtain⟨v,h1,h2⟩:=h.W s t w hs ht k1
  exact .inr (.inr ⟨v,h1,by omega⟩)
section
variable{M:fj}{P:Int->Int->List Int->Prop}{n:Nat}{b:Bs}
theorem nj.off (hP:∀s t w,P s t w->sy w) (h:nj M P n b){s t:Int}{x:List Int}(hs:dB M s) (ht:dB M t) (hx:P s t x) (hn:n<=x.length):nj M P n (b.off s t x)/\tF M b (b.off s t x)/\qx (b.off s t x) s t x:=by
 have hsx:=hP s t x hx;unfold Bs.off;split
 ·rename_i hc
  exact⟨h,.refl _,by rcases hc with hc|hc;exact .inl hc;exact .inr (.inl hc)⟩
 ·rename_i hc
  have hl:x.length<=1024:=by omega
  have hD:b.D s t=false:=by
   cases e:b.D s t with
   |false=>rfl
   |true=>exact absurd (.inr e) hc
  -- a better word is put in
  have put:∀R:Nat->List PR,(∀k p,p∈b.R k->p∈R k)->(∀k p,p∈R k->p∈b.R k\/(k=x.length/\p=(s,t)))->(s,t)∈R x.length->(∀w,b.W s t=some w->fw x<=fw w/\x.length<=w.length)->(∀k,(R k).Nodup)->nj M P n ⟨lq b.W s t x,b.D,R⟩/\tF M b ⟨lq b.W s t x,b.D,R⟩/\qx ⟨lq b.W s t x,b.D,R⟩ s t x:=by
   intro R h1 h2 h3 h4 h5;refine⟨⟨λu v w hu hv e=>?_,h.dn,λu v hu hv e=>?_,λu v w hu hv e e2=>?_,λu v w hu hv e e2=>?_,λu v k e=>?_,h5⟩,⟨λ_ _ e=>e,λu v w hu hv e=>?_⟩,?_⟩
   ·dsimp only[lq]at e
    by_cases mq:u=s/\v=t
    ·rw[ab mq]at e;injection e with e;rw[mq.1,mq.2,<-e];exact⟨hx,hl⟩
    ·rw[aa mq]at e;exact h.snd u v w hu hv e
   ·dsimp only[lq]at e ⊢
    by_cases mq:u=s/\v=t
    ·rw[mq.1,mq.2,hD]at e;simp at e
    ·rw[aa mq];exact h.wd u v hu hv e
   ·dsimp only[lq]at e e2
    by_cases mq:u=s/\v=t
    ·rw[ab mq]at e;injection e with e;rw[<-e];exact hn
    ·rw[aa mq]at e;exact h.ge u v w hu hv e e2
   ·dsimp only[lq]at e e2 ⊢
    by_cases mq:u=s/\v=t
    ·rw[ab mq]at e;injection e with e;rw[mq.1,mq.2,<-e];exact h3
    ·rw[aa mq]at e;exact h1 _ _ (h.xN u v w hu hv e e2)
   ·dsimp only[lq]at e ⊢
    by_cases mq:u=s/\v=t
    ·obtain⟨rfl,rfl⟩:=mq
     refine⟨⟨hs,ht⟩,x,ab ⟨rfl,rfl⟩,?_⟩;rcases h2 _ _ e with e|⟨rfl,_⟩
     ·obtain⟨_,w,h7,h6⟩:=h.low _ _ k e
      have:=(h4 w h7).2;omega
     ·exact bw _
    ·rw[aa mq]
     rcases h2 _ _ e with e|⟨rfl,e4⟩
     ·exact h.low u v k e
     ·injection e4 with e1 e2;exact absurd ⟨e1,e2⟩ mq
   ·dsimp only[lq]
    by_cases mq:u=s/\v=t
    ·rw[ab mq];rw[mq.1,mq.2]at e;exact⟨x,rfl,(h4 w e).1⟩
    ·rw[aa mq];exact⟨w,e,bw _⟩
   ·exact .inr (.inr ⟨x,ab ⟨rfl,rfl⟩,bw _⟩)
  have UI:∀k p,p∈b.R k->p∈qw b.R x.length (s,t) k:=λk p hp=>by unfold qw;split<;>simp[hp]
  have UJ:∀k p,p∈qw b.R x.length (s,t) k->p∈b.R k\/(k=x.length/\p=(s,t)):=λk p hp=>by
   unfold qw at hp;split at hp
   ·rename_i hk
    rcases eI.1 hp with hp|hp
    ·exact .inl hp
    ·simp at hp;exact .inr ⟨hk,hp⟩
   ·exact .inl hp
  have UK:(∀w,b.W s t=some w->x.length<w.length)->∀k,(qw b.R x.length (s,t) k).Nodup:=λhw k=>by
   unfold qw;split
   ·rename_i hk
    rw[sK];refine⟨h.nd k,by simp,λp hp q hq e=>?_⟩
    simp at hq;subst hq;subst e;obtain⟨_,w,h7,h6⟩:=h.low _ _ k hp;have:=hw w h7;omega
   ·exact h.nd k
  have UL:(s,t)∈qw b.R x.length (s,t) x.length:=by unfold qw;rw[ab rfl];simp
  split
  ·rename_i e
   exact put _ UI UJ UL (λw hw=>by rw[e]at hw;simp at hw) (UK λw hw=>by rw[e]at hw;simp at hw)
  ·rename_i o e
   have Gd:=hP s t o (h.snd s t o hs ht e).1;split
   ·rename_i aK
    exact⟨h,.refl _,.inr (.inr ⟨o,e,Nat.le_of_lt (JT Gd aK)⟩)⟩
   ·rename_i aK
    split
    ·rename_i hle
     exact⟨h,.refl _,.inr (.inr ⟨o,e,(w6 Gd hsx).1 hle⟩)⟩
    ·rename_i hle
     rw[w6 Gd hsx]at hle;have h4:∀w,b.W s t=some w->fw x<=fw w/\x.length<=w.length:=λw hw=>by
      rw[e]at hw;injection hw with hw;rw[<-hw];exact⟨by omega,by omega⟩
     split
     ·rename_i amR
      exact put _ UI UJ UL h4 (UK λw hw=>by rw[e]at hw;injection hw with hw;rw[<-hw];exact amR)
     ·have sg:o.length=x.length:=by omega
      exact put _ (λ_ _ h=>h) (λ_ _ h=>.inl h) (by rw[<-sg];exact h.xN s t o hs ht e hD) h4 h.nd
theorem qx.EB (hP:∀s t w,P s t w->sy w) (h:nj M P n b){s t:Int}{x a:List Int}(hs:dB M s) (ht:dB M t) (k:qx b s t x) (ha:kn (P s t)=some a) (hn:n<=a.length) (hr:fw x<=fw a):b.W s t=some a:=by
 have hf:=ame ha;rcases k with k|k|⟨w,k1,k2⟩
 ·have:=E9 (hP s t a hf.1.1) hr
  have:=hf.1.2;omega
 ·obtain⟨w,h1,h2⟩:=(h.dn s t hs ht).1 k
  rw[ha]at h1;injection h1 with h1
  rw[<-h1]at h2;omega
 ·have h1:=h.snd s t w hs ht k1
  have h2:=hf.2 w h1.1;rw[k1,TX (hP s t w h1.1) (hP s t a hf.1.1) (by omega)]
def xe (D:Int->Int->Bool):List PR->List PR×(Int->Int->Bool)
 | []=>([],D)
 |p::l=>if D p.1 p.2=true then xe D l else((p::(xe (xd D p.1 p.2) l).1),(xe (xd D p.1 p.2) l).2)
theorem Kh:∀{l:List PR}{D:Int->Int->Bool},(∀u v,(xe D l).2 u v=true↔D u v=true\/(u,v)∈l)/\(∀p,p∈(xe D l).1↔p∈l/\D p.1 p.2=false)/\(xe D l).1.Nodup
 | [],D=>by simp[xe]
 |p::l,D=>by
  unfold xe
  by_cases h:D p.1 p.2=true
  ·rw[ab h]
   obtain⟨h1,h2,h3⟩:=Kh (l:=l) (D:=D);refine⟨λu v=>?_,λq=>?_,h3⟩
   ·rw[h1,cB]
    constructor
    ·rintro(h|h)
     ·exact .inl h
     ·exact .inr (.inr h)
    ·rintro(h|h|h)
     ·exact .inl h
     ·subst h;exact .inl (by assumption)
     ·exact .inr h
   ·rw[h2,cB]
    constructor
    ·rintro⟨a,b⟩;exact⟨.inr a,b⟩
    ·rintro⟨a|a,b⟩
     ·subst a;rw[h]at b;simp at b
     ·exact⟨a,b⟩
  ·rw[aa h]
   obtain⟨h1,h2,h3⟩:=Kh (l:=l) (D:=xd D p.1 p.2);refine⟨λu v=>?_,λq=>?_,?_⟩
   ·dsimp only
    rw[h1,cB];unfold xd
    by_cases e:u=p.1/\v=p.2
    ·rw[ab e]
     have:(u,v)=p:=Prod.ext e.1 e.2;simp[this]
    ·rw[aa e]
     have:(u,v) ≠ p:=λh=>e ⟨congrArg Prod.fst h,congrArg Prod.snd h⟩;simp[this]
   ·dsimp only
    rw[cB,h2,cB];unfold xd
    by_cases e:q=p
    ·subst e;simp;simpa using h
    ·have:¬(q.1=p.1/\q.2=p.2):=λh=>e (Prod.ext h.1 h.2)
     rw[aa this];simp[e]
   ·dsimp only
    rw[mD];refine⟨λhp=>?_,h3⟩;have:=((h2 p).1 hp).2;unfold xd at this;rw[ab ⟨rfl,rfl⟩]at this;simp at this
def Bs.tk (b:Bs) (n:Nat):List PR×Bs:=((xe b.D (b.R n)).1,⟨b.W,(xe b.D (b.R n)).2,b.R⟩)
theorem nj.tk (hP:∀s t w,P s t w->sy w) (h:nj M P n b) (hc:∀s t a,dB M s->dB M t->kn (P s t)=some a->a.length=n->b.W s t=some a):nj M P (n+1) (b.tk n).2/\tF M b (b.tk n).2/\(b.tk n).1.Nodup/\∀s t,(s,t)∈(b.tk n).1↔(dB M s/\dB M t)/\∃a,kn (P s t)=some a/\a.length=n/\b.W s t=some a:=by
 obtain⟨h1,h2,h3⟩:=Kh (l:=b.R n) (D:=b.D)
 -- a pair that is taken has a final word
 have fin:∀s t,(s,t)∈b.R n->b.D s t=false->(dB M s/\dB M t)/\∃a,kn (P s t)=some a/\a.length=n/\b.W s t=some a:=by
  intro s t hm hd;obtain⟨bR,w,hw,hl⟩:=h.low s t n hm;have hg:=h.ge s t w bR.1 bR.2 hw hd;have hp:=h.snd s t w bR.1 bR.2 hw;obtain⟨a,ha⟩:=amc (P:=P s t) (hP s t) hp.1 hp.2;have ny :=amf (hP s t) ha;have hr:=ha.2 w hp.1;have lA:=E9 (hP s t w hp.1) hr;have han:a.length=n:=by
   refine eS λbY=>?_;have:=(h.dn s t bR.1 bR.2).2 ⟨a,ny, by omega⟩
   rw[hd]at this;simp at this
  exact⟨bR,a,ny, han,hc s t a bR.1 bR.2 ny han⟩
 have tak:∀s t a,dB M s->dB M t->kn (P s t)=some a->a.length=n->(s,t)∈b.R n/\b.D s t=false:=by
  intro s t a hs ht ha hl;have hd:b.D s t=false:=by
   cases e:b.D s t with
   |false=>rfl
   |true=>
    obtain⟨w,k1,k2⟩:=(h.dn s t hs ht).1 e;rw[ha]at k1;injection k1 with k1;rw[<-k1]at k2;omega
  refine⟨?_,hd⟩;have:=h.xN s t a hs ht (hc s t a hs ht ha hl) hd
  rwa [hl]at this
 have hD:∀s t,dB M s->dB M t->((b.tk n).2.D s t=true↔∃w,kn (P s t)=some w/\w.length<n+1):=by
  intro s t hs ht;show(xe b.D (b.R n)).2 s t=true↔_;rw[h1];constructor
  ·rintro(k|k)
   ·obtain⟨w,k1,k2⟩:=(h.dn s t hs ht).1 k
    exact⟨w,k1,by omega⟩
   ·cases e:b.D s t with
    |true=>
     obtain⟨w,k1,k2⟩:=(h.dn s t hs ht).1 e;exact⟨w,k1,by omega⟩
    |false=>
     obtain⟨_,a,k1,k2,_⟩:=fin s t k e;exact⟨a,k1,by omega⟩
  ·rintro⟨w,k1,k2⟩
   by_cases e:w.length<n
   ·exact .inl ((h.dn s t hs ht).2 ⟨w,k1,e⟩)
   ·exact .inr (tak s t w hs ht k1 (by omega)).1
 have hW:(b.tk n).2.W=b.W:=rfl;have hR:(b.tk n).2.R=b.R:=rfl;have up:∀s t,(b.tk n).2.D s t=false->b.D s t=false/\(s,t)∉b.R n:=by
  intro s t e;have:¬((xe b.D (b.R n)).2 s t=true):=by rw[Bool.not_eq_true];exact e
  rw[h1]at this;refine⟨?_,λhm=>this (.inr hm)⟩;cases e2:b.D s t with
  |false=>rfl
  |true=>exact absurd (.inl e2) this
 refine⟨⟨h.snd,hD,λs t hs ht e=>?_,λs t w hs ht e e2=>?_,λs t w hs ht e e2=>h.xN s t w hs ht e (up s t e2).1,h.low,h.nd⟩,⟨λs t e=>(h1 s t).2 (.inl e),λs t w _ _ e=>⟨w,e,bw _⟩⟩,h3,λs t=>?_⟩
 ·rw[hW]
  rcases(h1 s t).1 e with e|e
  ·exact h.wd s t hs ht e
  ·cases e2:b.D s t with
   |true=>exact h.wd s t hs ht e2
   |false=>
    obtain⟨_,a,k1,k2,k3⟩:=fin s t e e2;rw[k3,k1]
 ·rw[hW]at e
  have hu:=up s t e2;have hg:=h.ge s t w hs ht e hu.1;have hr:=h.xN s t w hs ht e hu.1;refine eS λp9=>?_;have:w.length=n:=by omega
  rw[this]at hr;exact hu.2 hr
 ·show(s,t)∈(xe b.D (b.R n)).1↔_
  rw[h2];constructor
  ·rintro⟨k1,k2⟩;exact fin s t k1 k2
  ·rintro⟨⟨hs,ht⟩,a,k1,k2,_⟩
   exact tak s t a hs ht k1 k2
end
theorem UM{α:Type} [BEq α] [LawfulBEq α]:∀{l L:List α},l.Nodup->(∀x∈l,x∈L)->l.length<=L.length
 | [],_,_,_=>by simp
 |a::l,L,hn,h=>by
  obtain⟨h1,h2⟩:=mD.1 hn;have ha:=h a (by simp)
  have:=UM (l:=l) (L:=L.erase a) h2 λx hx=>(List.mem_erase_of_ne (λe=>h1 (by rw[<-e];exact hx))).2 (h x (by simp[hx]))
  rw[List.length_erase_of_mem ha]at this;have:=List.length_pos_of_mem ha;simp only[cw];omega
structure W6 (M:fj) (n:Nat) (S C:Bs):Prop where
 s:nj M (tB M) n S
 c:nj M (Wd M) n C
 oi:∀s i,dB M s->0<=i->i<M.aj->qx S s (M.inner s i) [M.calls+i]
 oc:∀s c q u r,dB M s->0<=c->c<M.calls->dB M q->0<=r->r<M.aq->C.D (M.call s c).1 q=true->C.W (M.call s c).1 q=some u->qx S s (M.pop q (M.call s c).2 r) (c::(u ++ [M.calls+M.aj+r]))
 oe:∀s,dB M s->qx C s s []
 oj:∀s p t a b,dB M s->dB M p->dB M t->S.D s p=true->C.D p t=true->S.W s p=some a->C.W p t=some b->qx C s t (a++b)
section
variable{M:fj}{n:Nat}{S C:Bs}
theorem UN (hM:M.Sm):∀s t w,Wd M s t w->sy w:=λ_ _ _ h=>h.sy hM
theorem nj.fin{P:Int->Int->List Int->Prop}{b:Bs}(h:nj M P n b){s t:Int}{w:List Int}(hs:dB M s) (ht:dB M t) (hf:kn (P s t)=some w) (hl:w.length<n):b.D s t=true/\b.W s t=some w:=by
 have:=(h.dn s t hs ht).2 ⟨w,hf,hl⟩;exact⟨this,by rw[h.wd s t hs ht this,hf]⟩
theorem tB.range (hM:M.Ok){s t:Int}{w:List Int}(h:tB M s t w) (hs:dB M s):dB M t:=h.wd.range hM hs
theorem nj.Ak{P:Int->Int->List Int->Prop}{b:Bs}(h:nj M P n b){s t:Int}(hs:dB M s) (ht:dB M t) (hd:b.D s t=true):∃w,b.W s t=some w/\kn (P s t)=some w/\w.length<n:=by
 obtain⟨w,h1,h2⟩:=(h.dn s t hs ht).1 hd;exact⟨w,by rw[h.wd s t hs ht hd,h1],h1,h2⟩
theorem nj.Fq{P:Int->Int->List Int->Prop}{b c:Bs}(h:nj M P n b) (k:nj M P n c){s t:Int}(hs:dB M s) (ht:dB M t):b.D s t=c.D s t/\(b.D s t=true->b.W s t=c.W s t):=by
 have e:b.D s t=c.D s t:=by rw[oL,h.dn s t hs ht,k.dn s t hs ht]
 exact⟨e,λhd=>by rw[h.wd s t hs ht hd,k.wd s t hs ht (by rw[<-e];exact hd)]⟩
structure Al (M:fj) (n:Nat) (S C:Bs) (C' : Bs) (out:List PR) (i:Nat) (t:Int):Prop where
 c:nj M (Wd M) n C'
 l:tF M C C'
 o:∀(j:Nat) (v:Int) (a b:List Int),(j<i\/j=i/\v<t)->j<out.length->dB M v->C.D (ix out (j:Int)).2 v=true->S.W (ix out (j:Int)).1 (ix out (j:Int)).2=some a->C.W (ix out (j:Int)).2 v=some b->qx C' (ix out (j:Int)).1 v (a++b)
variable{C' : Bs}{out:List PR}
theorem Al.row{i:Nat}(h:Al M n S C C' out i (M.size:Int)):Al M n S C C' out (i+1) 0:=⟨h.c,h.l,λj v a b hj hl hv=>h.o j v a b (by
 have:=hv.1;have:=hv.2;rcases hj with hj|⟨_,hj⟩
 ·by_cases e:j=i
  ·exact .inr ⟨e,by omega⟩
  ·exact .inl (by omega)
 ·omega) hl hv⟩
theorem Al.skip{i:Nat}{t:Int}(h:Al M n S C C' out i t) (hd:C.D (ix out (i:Int)).2 t=false):Al M n S C C' out i (t+1):=⟨h.c,h.l,λj v a b hj hl hv k1=>by
 rcases hj with hj|⟨rfl,hj⟩
 ·exact h.o j v a b (.inl hj) hl hv k1
 ·by_cases e:v=t
  ·subst e;rw[hd]at k1;simp at k1
  ·exact h.o j v a b (.inr ⟨rfl,by omega⟩) hl hv k1⟩
theorem Al.step (hM:M.Sm){i:Nat}{t:Int}(h:Al M n S C C' out i t) (hi:i<out.length) (h1:dB M (ix out (i:Int)).1) (h2:dB M (ix out (i:Int)).2) (ht:dB M t){a b:List Int}(ha:S.W (ix out (i:Int)).1 (ix out (i:Int)).2=some a) (hS:tB M (ix out (i:Int)).1 (ix out (i:Int)).2 a) (hn:n<=a.length) (hb:C.W (ix out (i:Int)).2 t=some b) (hC:Wd M (ix out (i:Int)).2 t b):Al M n S C (C'.off (ix out (i:Int)).1 t (a++b)) out i (t+1):=by
 obtain⟨k1,k2,k3⟩:=h.c.off (UN hM) h1 ht (hS.then hC) (by rw[bu];omega)
 refine⟨k1,h.l.trans k2,λj v x y hj hl hv d1 d2 d3=>?_⟩
 by_cases e:j=i/\v=t
 ·obtain⟨rfl,rfl⟩:=e
  rw[ha]at d2;rw[hb]at d3;injection d2 with d2
  injection d3 with d3
  rw[<-d2,<-d3];exact k3
 ·have hP:=h.o j v x y (by
   rcases hj with hj|⟨e1,hj⟩
   ·exact .inl hj
   ·exact .inr ⟨e1,by
     by_cases e2:v=t
     ·exact absurd ⟨e1,e2⟩ e
     ·omega⟩) hl hv d1 d2 d3
  rcases hP with hP|hP|⟨w,w1,w2⟩
  ·exact .inl hP
  ·exact .inr (.inl (k2.D _ _ hP))
  ·by_cases fc:dB M (ix out (j:Int)).1
   ·obtain⟨u,u1,u2⟩:=k2.W _ _ _ fc hv w1
    exact .inr (.inr ⟨u,u1,by omega⟩)
   ·exact .inr (.inr ⟨w,by
     unfold Bs.off;split
     ·exact w1
     ·have bY:¬((ix out (j:Int)).1=(ix out (i:Int)).1/\v=t):=λe3=>fc (by rw[e3.1];exact h1)
      split
      ·dsimp only[lq];rw[if_neg bY];exact w1
      ·split
       ·exact w1
       ·split
        ·exact w1
        ·dsimp only[lq];rw[if_neg bY];exact w1,w2⟩)
theorem Al.fin (hM:M.Sm){S0:Bs}(h:W6 M n S0 C) (hS:nj M (tB M) (n+1) (S0.tk n).2) (ho:∀s t,(s,t)∈(S0.tk n).1↔(dB M s/\dB M t)/\∃a,M.sk s t=some a/\a.length=n/\S0.W s t=some a) (k:Al M n (S0.tk n).2 C C' (S0.tk n).1 (S0.tk n).1.length 0):∀s p t a b,dB M s->dB M p->dB M t->(S0.tk n).2.D s p=true->C'.D p t=true->(S0.tk n).2.W s p=some a->C'.W p t=some b->qx C' s t (a++b):=by
 intro s p t a b hs hp ht d1 d2 w1 w2;obtain⟨e1,e2⟩:=h.c.Fq k.c hp ht;rw[<-e1]at d2;rw[<-e2 d2]at w2
 by_cases d3:S0.D s p=true
 ·exact(h.oj s p t a b hs hp ht d3 d2 w1 w2).mono k.l hs ht
 ·obtain⟨x,x1,x2,x3⟩:=hS.Ak hs hp d1
  have hm:(s,p)∈(S0.tk n).1:=by
   refine(ho s p).2 ⟨⟨hs,hp⟩,x,x2,?_,x1⟩;refine eS λbY=>d3 ?_;exact(h.s.fin hs hp x2 (by omega)).1
  obtain⟨j,hj,e⟩:=fJ.1 hm;have e' : ix (S0.tk n).1 (j:Int)=(s,p):=by rw[aS hj,e]
  have:=k.o j t a b (.inl hj) hj ht;rw[e']at this;exact this d2 w1 w2
abbrev CR:=Int×Int×Int
def AOk (M:fj) (A:Int->List CR):Prop:=∀p,dB M p->∀s c g,(s,c,g)∈A p↔(dB M s/\(0<=c/\c<M.calls))/\M.call s c=(p,g)
structure UO (M:fj) (n:Nat) (A:Int->List CR) (S C S' C' : Bs) (out:List PR) (i:Nat) (t:Int) (k:Nat) (r:Int):Prop where
 s:nj M (tB M) (n+1) S'
 c:nj M (Wd M) (n+1) C'
 ls:tF M S S'
 lc:tF M C C'
 o1:∀(j:Nat) (s:Int) (a b:List Int),(j<i\/j=i/\s<t)->j<out.length->dB M s->S.D s (ix out (j:Int)).1=true->S.W s (ix out (j:Int)).1=some a->C.W (ix out (j:Int)).1 (ix out (j:Int)).2=some b->qx C' s (ix out (j:Int)).2 (a++b)
 o2:∀(j l:Nat) (x:Int) (b:List Int),(j<i\/j=i/\(l<k\/l=k/\x<r))->j<out.length->l<(A (ix out (j:Int)).1).length->(0<=x/\x<M.aq)->C.W (ix out (j:Int)).1 (ix out (j:Int)).2=some b->qx S' (ix (A (ix out (j:Int)).1) (l:Int)).1 (M.pop (ix out (j:Int)).2 (ix (A (ix out (j:Int)).1) (l:Int)).2.2 x) ((ix (A (ix out (j:Int)).1) (l:Int)).2.1::(b ++ [M.calls+M.aj+x]))
variable{A:Int->List CR}{S' : Bs}
theorem qx.off{P:Int->Int->List Int->Prop}{b:Bs}{s t u v:Int}{x y:List Int}(hs:dB M s) (ht:dB M t) (k:tF M b (b.off s t x)) (h:qx b u v y):qx (b.off s t x) u v y:=by
 rcases h with h|h|⟨w,w1,w2⟩
 ·exact .inl h
 ·exact .inr (.inl (k.D _ _ h))
 ·by_cases fc:dB M u/\dB M v
  ·obtain⟨z,u1,u2⟩:=k.W _ _ _ fc.1 fc.2 w1
   exact .inr (.inr ⟨z,u1,by omega⟩)
  ·have bY:¬(u=s/\v=t):=λe3=>fc (by rw[e3.1,e3.2];exact⟨hs,ht⟩)
   exact .inr (.inr ⟨w,by
    unfold Bs.off;split
    ·exact w1
    ·split
     ·dsimp only[lq];rw[if_neg bY];exact w1
     ·split
      ·exact w1
      ·split
       ·exact w1
       ·dsimp only[lq];rw[if_neg bY];exact w1,w2⟩)
theorem UO.next{i:Nat}(h:UO M n A S C S' C' out i (M.size:Int) (A (ix out (i:Int)).1).length 0):UO M n A S C S' C' out (i+1) 0 0 0:=⟨h.s,h.c,h.ls,h.lc,λj s a b hj hl hs=>h.o1 j s a b (by
 rcases hj with hj|⟨_,hj⟩
 ·by_cases e:j=i
  ·exact .inr ⟨e,hs.2⟩
  ·exact .inl (by omega)
 ·have:=hs.1;omega) hl hs,λj l x b hj hl lU hx=>h.o2 j l x b (by
 rcases hj with hj|⟨e1,hj|⟨e2,hj⟩⟩
 ·by_cases e:j=i
  ·subst e;exact .inr ⟨rfl,.inl lU⟩
  ·exact .inl (by omega)
 ·omega
 ·have:=hx.1;omega) hl lU hx⟩
theorem UO.fin (hM:M.Sm){S0 C0 C1:Bs}(h:W6 M n S0 C0) (hA:AOk M A) (xE:tF M S0 S) (r8:tF M C0 C1) (lU:tF M C1 C) (Wz:nj M (Wd M) n C1)
  (oj:∀s p t a b,dB M s->dB M p->dB M t->S.D s p=true->C1.D p t=true->S.W s p=some a->C1.W p t=some b->qx C1 s t (a++b))
  (ho:∀s t,(s,t)∈out↔(dB M s/\dB M t)/\∃a,M.lk s t=some a/\a.length=n/\C.W s t=some a)
  (hS:nj M (tB M) (n+1) S) (hC:nj M (Wd M) (n+1) C) (k:UO M n A S C S' C' out out.length 0 0 0):W6 M (n+1) S' C' :=by
 have find:∀p q,dB M p->dB M q->∀w,M.lk p q=some w->w.length=n->∃j:Nat,j<out.length/\ix out (j:Int)=(p,q)/\C.W p q=some w:=by
  intro p q hp hq w hw hl;have hf:=hC.fin hp hq hw (by omega)
  obtain⟨j,hj,e⟩:=fJ.1 ((ho p q).2 ⟨⟨hp,hq⟩,w,hw,hl,hf.2⟩);exact⟨j,hj,by rw[aS hj,e],hf.2⟩
 refine⟨k.s,k.c,λs i hs h0 h1=>(h.oi s i hs h0 h1).mono (xE.trans k.ls) hs (hM.ok.inner s i hs.1 hs.2 h0 h1),λs c q u r hs c0 c1 hq r0 r1 d1 d2=>?_,λs hs=>(h.oe s hs).mono ((r8.trans lU).trans k.lc) hs hs,λs p t a b hs hp ht d1 d2 w1 w2=>?_⟩
 ·have hc:=hM.ok.call s c hs.1 hs.2 c0 c1
  have hp:=hM.ok.pop s c q r hs.1 hs.2 c0 c1 hq.1 hq.2 r0 r1;obtain⟨w,x1,x2,x3⟩:=k.c.Ak hc hq d1;rw[d2]at x1;injection x1 with x1
  subst x1
  by_cases hl:u.length<n
  ·obtain⟨y1,y2⟩:=h.c.fin hc hq x2 hl
   exact(h.oc s c q u r hs c0 c1 hq r0 r1 y1 y2).mono (xE.trans k.ls) hs hp
  ·obtain⟨j,hj,e,hw⟩:=find _ _ hc hq u x2 (by omega)
   have il:=(hA _ hc s c (M.call s c).2).2 ⟨⟨hs,c0,c1⟩,rfl⟩;obtain⟨l,hl,el⟩:=fJ.1 il;have mg : ix (A (M.call s c).1) (l:Int)=(s,c,(M.call s c).2):=by rw[aS hl,el]
   have:=k.o2 j l r u (.inl hj) hj;rw[e]at this;dsimp only at this;rw[mg]at this;exact this hl ⟨r0,r1⟩ hw
 ·obtain⟨e1,e2⟩:=hS.Fq k.s hs hp
  obtain⟨e3,e4⟩:=hC.Fq k.c hp ht;rw[<-e1]at d1;rw[<-e3]at d2;rw[<-e2 d1]at w1;rw[<-e4 d2]at w2;obtain⟨w,x1,x2,x3⟩:=hC.Ak hp ht d2;rw[w2]at x1;injection x1 with x1
  subst x1
  by_cases hl:b.length<n
  ·obtain⟨y1,y2⟩:=Wz.fin hp ht x2 hl
   exact(oj s p t a b hs hp ht d1 y1 w1 y2).mono (lU.trans k.lc) hs ht
  ·obtain⟨j,hj,e,hw⟩:=find p t hp ht b x2 (by omega)
   have:=k.o1 j s a b (.inl hj) hj hs;rw[e]at this;exact this d1 w1 hw
end
def Bs.emp:Bs:=⟨λ_ _=>none,λ_ _=>false,λ_=>[]⟩
structure UP (M:fj) (S C:Bs) (A:Int->List CR) (s e i c:Int):Prop where
 bs:nj M (tB M) 0 S
 bc:nj M (Wd M) 0 C
 oe:∀u,dB M u->u<e->qx C u u []
 oi:∀u j,dB M u->0<=j->j<M.aj->(u<s\/u=s/\j<i)->qx S u (M.inner u j) [M.calls+j]
 a:∀p u d g,(u,d,g)∈A p↔(0<=u/\(0<=d/\d<M.calls)/\(u<s\/u=s/\d<c))/\M.call u d=(p,g)
section
variable{M:fj}{S C:Bs}{A:Int->List CR}{s e i c:Int}
theorem UP.next (h:UP M S C A s e M.aj M.calls):UP M S C A (s+1) e 0 0:=⟨h.bs,h.bc,h.oe,λu j hu j0 j1 hl=>h.oi u j hu j0 j1 (by
 rcases hl with hl|⟨_,hl⟩
 ·by_cases e2:u=s
  ·exact .inr ⟨e2,j1⟩
  ·exact .inl (by omega)
 ·omega),λp u d g=>by
 rw[h.a];constructor
 ·rintro⟨⟨a1,a2,a3⟩,a4⟩
  refine⟨⟨a1,a2,?_⟩,a4⟩;rcases a3 with a3|⟨a3,a5⟩
  ·exact .inl (by omega)
  ·exact .inl (by omega)
 ·rintro⟨⟨a1,a2,a3⟩,a4⟩
  refine⟨⟨a1,a2,?_⟩,a4⟩;rcases a3 with a3|⟨_,a5⟩
  ·by_cases e2:u=s
   ·exact .inr ⟨e2,a2.2⟩
   ·exact .inl (by omega)
  ·have:=a2.1;omega⟩
theorem UP.fin (hM:M.Sm) (h:UP M S C A (M.size:Int) (M.size:Int) 0 0):W6 M 0 S C/\AOk M A:=by
 refine⟨⟨h.bs,h.bc,λs i hs h0 h1=>h.oi s i hs h0 h1 (.inl hs.2),λs c q u r hs c0 c1 hq r0 r1 d _=>?_,λs hs=>h.oe s hs hs.2,λs p t a b hs hp ht d=>?_⟩,λp hp s c g=>?_⟩
 ·obtain⟨w,_,h2⟩:=(h.bc.dn _ q (hM.ok.call s c hs.1 hs.2 c0 c1) hq).1 d
  omega
 ·obtain⟨w,_,h2⟩:=(h.bs.dn s p hs hp).1 d
  omega
 ·rw[h.a]
  constructor
  ·rintro⟨⟨a1,a2,a3⟩,a4⟩
   refine⟨⟨⟨a1,?_⟩,a2⟩,a4⟩;rcases a3 with a3|⟨_,a5⟩
   ·exact a3
   ·have:=a2.1;omega
  ·rintro⟨⟨a1,a2⟩,a4⟩
   exact⟨⟨a1.1,a2,.inl a1.2⟩,a4⟩
end
def gdW (M:fj) (s:Int) (g:Int->Bool) (w:List Int):Prop:=∃t,dB M t/\g t=true/\Wd M s t w
noncomputable def fj.f1 (M:fj) (s:Int) (g:Int->Bool):Option (List Int):=kn (gdW M s g)
section
variable{M:fj}{s:Int}{g:Int->Bool}
end
theorem Ki{α:Type} [Inhabited α]{N:Nat}{f:Nat->α}{s:Int}(h0:0<=s) (h1:s<(N:Int)):ix ((List.range N).map f) s=f s.toNat:=by
 obtain⟨k,rfl⟩:=qV h0;rw[aS (by simp;omega)]
 simp
section
variable (a b:ao)
def prK:Nat:=b.accept.length
end
section
variable{a b:ao}
structure Fs (a b:ao):Prop where
 oa:a.Ok
 ob:b.Ok
 c:b.calls=a.calls
 i:b.aj=a.aj
 r:b.aq=a.aq
 n:a.accept.length*b.accept.length<=128
 g:a.stack*b.stack<=128
theorem Fs.k (h:Fs a b):1<=b.accept.length:=by have:=h.ob.gr;omega
theorem Fs.aA (h:Fs a b):((a.stack.toNat*b.stack.toNat:Nat):Int)=a.stack*b.stack:=by
 have h2:=h.oa.stack;have h3:=h.ob.stack;rw[oy,show((a.stack.toNat:Nat):Int)=a.stack by omega,show((b.stack.toNat:Nat):Int)=b.stack by omega]
def pr (b:ao) (x y:Int):Int:=x*(prK b:Int)+y
end
theorem xg{K:List (List Int)}{v:List Int}(h:v∈K):0<=(K.idxOf v:Int)/\(K.idxOf v:Int)<(K.length:Int)/\ix K (K.idxOf v:Int)=v:=by
 have hl:=List.idxOf_lt_length_of_mem h;refine⟨by omega,by omega,?_⟩
 rw[aS hl,List.getElem_idxOf]
theorem pB{P:List Int->Prop}{D:Vd}(h:mb P D) (hF:Full D):jO D:=by
 refine⟨hF,h.h0.1,h.ok.ok.calls,h.ok.ok.aj,h.ok.ok.aq,λx hx=>h.rl x (by rw[hF.b];exact hx),λx hx=>?_,λx c y hx hc hy=>?_⟩
 ·obtain⟨_,e,hm⟩:=h.aQ x (by rw[hF.i];exact hx)
  rw[e];refine⟨by simp[idxs,Vd.gL],λy hy=>?_⟩
  obtain⟨v,hv,rfl⟩:=cR.1 hy;exact⟨(xg (hm v hv)).1,(xg (hm v hv)).2.1⟩
 ·obtain⟨_,_,e,hm⟩:=h.bl x c y (by rw[hF.b];exact hx) hc (by rw[hF.c x c hx hc];exact hy)
  rw[e];refine⟨by simp[idxs,Vd.dU],λz hz=>?_⟩
  obtain⟨v,hv,rfl⟩:=cR.1 hz;exact⟨(xg (hm v hv)).1,(xg (hm v hv)).2.1⟩
theorem amS{P:List Int->Prop}{D:Vd}(h:mb P D) (hF:Full D){x:Nat}{i:Int}(hx:x<D.K.length) (i0:0<=i) (i1:i<D.n.aj):ix D.K (D.im x i)=(ix D.K (x:Int)).map λs=>ix (ix D.n.inner s) i:=by
 obtain⟨_,e,hm⟩:=h.aQ x (by rw[hF.i];exact hx)
 unfold Vd.im;rw[e];have hl:(D.gL x).length=D.n.aj.toNat:=by simp[Vd.gL]
 unfold idxs;rw[jt (by omega) (by omega),(xg (hm _ (aZ i0 (by omega)))).2.2]
 unfold Vd.gL;rw[Ki i0 (by omega),show((i.toNat:Nat):Int)=i by omega]
theorem amT{P:List Int->Prop}{D:Vd}(h:mb P D) (hF:Full D){x y:Nat}{c r:Int}(hx:x<D.K.length) (hy:y<D.K.length) (c0:0<=c) (c1:c<D.n.calls) (r0:0<=r) (r1:r<D.n.aq):ix D.K (D.bk x c y r)=(ix D.K (x:Int)).map (D.n.qn D.plc (ix D.K (y:Int)) c r):=by
 obtain⟨_,_,e,hm⟩:=h.bl x c.toNat y (by rw[hF.b];exact hx) (by omega) (by rw[hF.c x c.toNat hx (by omega)];exact hy)
 unfold Vd.bS Vd.row at e;rw[show((c.toNat:Nat):Int)=c by omega]at e
 unfold Vd.bk;rw[e];have hl:(D.dU x c.toNat y).length=D.n.aq.toNat:=by simp[Vd.dU]
 unfold idxs;rw[jt (by omega) (by omega),(xg (hm _ (aZ r0 (by omega)))).2.2]
 unfold Vd.dU;rw[Ki r0 (by omega),show((c.toNat:Nat):Int)=c by omega,show((r.toNat:Nat):Int)=r by omega]
theorem Dv.wd{P:List Int->Prop}{D:Vd}(h:mb P D) (hF:Full D) (hp:AU D.n D.plc){x:Int}{w:List Int}(hd:Dv D x w):∀j:Nat,j<D.n.bj.length->Wd D.n.eV (ix D.n.bj (j:Int)) (ix (ix D.K x) (j:Int)) w:=by
 have hD:=pB h hF;have au:=h.ok.ok
 induction hd with
 |nil=>
  intro j hj;rw[h.h0.2];exact .nil _
 |aQ x i w i0 i1 hd ih=>
  intro j hj;have hx:=hd.fu hD;have e:=amS h hF (x:=x.toNat) (by omega) i0 i1
  rw[show((x.toNat:Nat):Int)=x by omega]at e
  have hk:=(h.ok.kx (x:=x.toNat) (by omega))
  rw[show((x.toNat:Nat):Int)=x by omega]at hk
  rw[e,jt (by omega) (by omega)]
  exact(ih j hj).app (.aQ _ i _ [] i0 i1 (.nil _))
 |ak x c y r w u c0 c1 r0 r1 hd hu lV mI=>
  intro j hj;have hx:=hd.fu hD;have hy:=hu.fu hD;have e:=amT h hF (x:=x.toNat) (y:=y.toNat) (by omega) (by omega) c0 c1 r0 r1
  rw[show((x.toNat:Nat):Int)=x by omega,show((y.toNat:Nat):Int)=y by omega]at e
  have hk:=(h.ok.kx (x:=x.toNat) (by omega))
  rw[show((x.toNat:Nat):Int)=x by omega]at hk
  rw[e,jt (by omega) (by omega)]
  refine(lV j hj).app ?_;generalize ht:ix (ix D.K x) (j:Int)=t at *;have Ft:=hk.1 _ (aZ (l:=ix D.K x) (n:=(j:Int)) (by omega) (by omega))
  rw[ht]at Ft;have gD:=au.call t c Ft.1 Ft.2 c0 c1
  -- the entry
  have hm:ix (ix D.n.call t) c∈D.n.bj:=by
   have rL:=(au.row t Ft.1 Ft.2).1;have ln:=au.lens;exact rK.2 (.inr ⟨_,aZ Ft.1 (by omega),aZ c0 (by omega)⟩)
  obtain⟨m,vQ,GC⟩:=fJ.1 hm;have gV:=hp.EF m vQ;rw[aS vQ,GC]at gV;have hw:=mI m vQ;rw[aS vQ,GC]at hw;have:=Wd.call (M:=D.n.eV) t c (ix (ix D.K y) (m:Int)) r _ u [] c0 c1 r0 r1 hw (.nil _);rw[show D.n.qn D.plc (ix D.K y) c r t=D.n.eV.pop (ix (ix D.K y) (m:Int)) (D.n.eV.call t c).2 r from by
   unfold ao.qn;rw[gV];rfl]
  exact this
theorem Wd.qK{M:fj}(hM:0<=M.calls/\0<=M.aj/\0<=M.aq){s t t' : Int}{w:List Int}(h:Wd M s t w) (g:Wd M s t' w):t=t' :=by
 have h1:=((Se hM).1 h).2.2;have h2:=((Se hM).1 g).2.2;rw[<-h1,<-h2]
theorem ao.Ok.m0{n:ao}(h:n.Ok):0<=n.eV.calls/\0<=n.eV.aj/\0<=n.eV.aq:=⟨h.calls.1,h.aj.1,h.aq.1⟩
theorem Dv.qK{P:List Int->Prop}{D:Vd}(h:mb P D) (hF:Full D) (hp:AU D.n D.plc){x y:Int}{w:List Int}(hx:Dv D x w) (hy:Dv D y w):x=y:=by
 have hD:=pB h hF;have rx:=hx.fu hD;have ry:=hy.fu hD;have kx:=h.ok.kx (x:=x.toNat) (by omega)
 have ky:=h.ok.kx (x:=y.toNat) (by omega)
 have e:ix D.K (x.toNat:Int)=ix D.K (y.toNat:Int):=by
  refine zy (by rw[kx.2,ky.2]) λj j0 j1=>?_
  have h1:=hx.wd h hF hp j.toNat (by rw[kx.2]at j1;omega)
  have h2:=hy.wd h hF hp j.toNat (by rw[kx.2]at j1;omega)
  rw[show((j.toNat:Nat):Int)=j by omega]at h1 h2
  rw[show((x.toNat:Nat):Int)=x by omega,show((y.toNat:Nat):Int)=y by omega]
  exact h1.qK h.ok.ok.m0 h2
 rw[aS (show x.toNat<D.K.length by omega),aS (show y.toNat<D.K.length by omega)]at e
 have:=(List.getElem_inj h.nd).1 e;omega
def zN:ao:=⟨0,0,0,0,0,[],[],[],[],[]⟩
structure Lu (P:List Int->Prop) (n:ao) (D:Vd):Prop where
 v:mb P D
 n:D.n=n
 p:AU D.n D.plc
structure xO (P:List Int->Prop) (n:ao) (D:Vd) (cls:List Int) (k:Nat):Prop where
 d:Lu P n D
 f:Full D
 c:WD D D.iO cls k
structure xP (P:List Int->Prop) (n:ao) (D:Vd) (cls:List Int) (k:Nat) (S:Fd) (l:List eO):Prop where
 c:xO P n D cls k
 kb:k<=128/\k*n.calls.toNat<=128
 s:Sr D 1025 S
 l:Ai cls S k D.K.length l
inductive A6 (P:List Int->Prop) (n:ao):ao->Int->Prop
 |inv:n.bO ≠ 0->A6 P n zN n.bO
 |many (D:Vd):n.bO=0->Lu P n D->512<D.K.length->A6 P n zN 11
 |dE (D:Vd) (cls:List Int) (k:Nat):n.bO=0->xO P n D cls k->(128<k\/128<k*n.calls.toNat)->A6 P n zN 11
 |Kj (D:Vd) (cls:List Int) (k:Nat) (S:Fd) (l:List eO):n.bO=0->xP P n D cls k S l->l.any neg=true->A6 P n zN 3
 |ok (D:Vd) (cls:List Int) (k:Nat) (S:Fd) (l:List eO) (st:List Int):n.bO=0->xP P n D cls k S l->l.any neg=false->st.length=l.length->(∀i:Nat,i<l.length->ix st (vO (dq l) i)=i)->A6 P n (tC D cls (dq l) st) 0
theorem xP.wd{P:List Int->Prop}{n:ao}{D:Vd}{cls:List Int}{k:Nat}{S:Fd}{l:List eO}(h:xP P n D cls k S l){i:Nat}(hi:i<k) (hv:0<=(ix l (i:Int)).2.1):((ix l (i:Int)).2.1<(D.K.length:Int))/\ix cls (ix l (i:Int)).2.1=i/\kP D (ix l (i:Int)).2.1 (ix l (i:Int)).2.2/\(ix l (i:Int)).2.2.length<=1024:=by
 obtain⟨⟨a,b,c,d⟩,_⟩:=h.l.yes i hi hv;obtain⟨w,hw,hl⟩:=(h.s.fd _ hv (by rw[h.s.l];exact a)).1 c
 have:=h.s.lw _ w hw hl;unfold Fd.wd at d;rw[this]at d;have d:(ix l (i:Int)).2.2=w:=d;rw[d];exact⟨a,b,hw,by omega⟩
theorem xP.nodup{P:List Int->Prop}{n:ao}{D:Vd}{cls:List Int}{k:Nat}{S:Fd}{l:List eO}(h:xP P n D cls k S l) (hn:l.any neg=false):(l.map λc=>c.2.2).Nodup:=by
 have hv:∀i:Nat,i<l.length->0<=(ix l (i:Int)).2.1:=λi hi=>by
  have:=List.any_eq_false.1 hn _ (aZ (l:=l) (n:=(i:Int)) (by omega) (by omega))
  simp[neg]at this;exact this
 have hk:=h.l.len;rw[List.Nodup,rr];intro i j hi hj qk e;simp only[dR]at hi hj;simp only[oN]at e;rw[<-aS hi,<-aS hj]at e;obtain⟨a1,a2,a3,a4⟩:=h.wd (i:=i) (by omega) (hv i hi)
 obtain⟨b1,b2,b3,b4⟩:=h.wd (i:=j) (by omega) (hv j hj)
 rw[e]at a3;have:=Dv.qK h.c.d.v h.c.f h.c.d.p a3.1 b3.1;rw[this,b2]at a2;omega
theorem xP.atm{P:List Int->Prop}{n:ao}{D:Vd}{cls:List Int}{k:Nat}{S:Fd}{l:List eO}(h:xP P n D cls k S l) (hn:l.any neg=false) (hk:1<=k):WU D cls (dq l):=by
 have hp:=qv l;have hv:∀i:Nat,i<l.length->0<=(ix l (i:Int)).2.1:=λi hi=>by
  have:=List.any_eq_false.1 hn _ (aZ (l:=l) (n:=(i:Int)) (by omega) (by omega))
  simp[neg]at this;exact this
 have hl:=h.l.len;have gV:(dq l).length=l.length:=hp.length_eq;have eX:∀c∈dq l,∃i:Nat,i<l.length/\ix l (i:Int)=c:=λc hc=>by
  obtain⟨i,hi,e⟩:=fJ.1 (hp.mem_iff.1 hc);exact⟨i,hi,by rw[aS hi];exact e⟩
 have wz:=h.c.d.n;have bR:=h.c.d.v.ok.ok.start;have wW:=h.c.d.p;have hs:D.n.start∈D.n.bj:=rK.2 (.inl rfl);obtain⟨m,vQ,GC⟩:=fJ.1 hs;have GD:=wW.EF m vQ;rw[aS vQ,GC]at GD;refine⟨pB h.c.d.v h.c.f,h.c.d.v.ok,⟨by omega,by have:=h.kb;omega⟩,?_,h.c.c.c.len,λc hc=>?_,λc hc=>?_,λc hc=>?_,?_,?_,?_⟩
 ·rw[gV,hl,wz];exact h.kb.2
 ·rw[gV,hl];exact h.c.c.c.can.fu c hc
 ·obtain⟨i,hi,rfl⟩:=eX c hc
  exact⟨hv i hi,(h.wd (by omega) (hv i hi)).1⟩
 ·obtain⟨i,hi,rfl⟩:=eX c hc
  rw[h.l.cl i (by omega)]
  omega
 ·refine(hp.map _).nodup_iff.2 ?_
  rw[List.Nodup,rr];intro i j hi hj qk e;simp only[dR]at hi hj;simp only[oN]at e;rw[<-aS hi,<-aS hj,h.l.cl i (by omega),h.l.cl j (by omega)]at e
  omega
 ·rw[wW.len];exact bR.2
 ·unfold Vd.iO
  rw[GD];omega
theorem amU{P:List Int->Prop}{n:ao}(hn:n.Ok){plc:List Int}(hp:AU n plc) (h0:P n.bj):mb P (om n plc):=
 ⟨alN hn hp,by simp[om],λk hk=>by simp[om]at hk;rw[hk];exact h0,⟨by simp[om],rfl⟩,λx hx=>by simp[om]at hx,λx hx=>by simp[om]at hx,λx c y hx=>by simp[om]at hx⟩
theorem amV (n:ao) (hf:n.fits) (P:List Int->Prop) (hP:n.bO=0->∀plc,AU n plc->Gi P n plc) (hP0:P n.bj) (K:AV->List ag->Prop) (hz:∀e τ,A6 P n zN e->K (.bQ [.agg tD,.int e]) τ) (hk:∀r e τ,A6 P n r e->K (.bQ [r.av,.int e]) τ):LX L ql [n.av] [] K:=by
 refine ahw rfl ?_;have hV:=I3 n hf;show WK L (.seq (.ae Q7)
 (.seq (.seq (.ae Q8)
 (.seq (.ae Q9)
 (.cond 18 (.seq (.ae Ra)
 .ret) .skip)))
 (.seq (.ae Rb)
 (.seq (.seq (.seq (.ae Rc) (.lu 4))
 (.cond 25 (.seq (.ae Re)
 .ret) .skip))
 (.seq (.ae Rg)
 (.seq (.seq (.ae Rh)
 (.cond 40 (.seq (.ae Ri)
 .ret) .skip))
 Kf)))))) _ none [] _
 by_cases hv:n.bO=0
 ·have hn:=tm hv
  rw[hv]at hV;obtain⟨rv,τ,hNV,plc,gV,rfl,rfl⟩:=dS (alM n hn);have yL:=vs0 n plc ⟨some 10,tD,.live⟩;have gD:=alo (P:=P) (om n plc) (hP hv plc gV) p0 _ yL (amU hn gV hP0) rfl rfl (by simp[om])
  obtain⟨rc,τ,hC,D,p,hS,hI,EN,S3,Li,hr⟩:=dS gD;clear gD;have Li:p .v=3:=Li;have xr : L D0 [.ptr 3 16 0] (⟨some 10,tD,.live⟩::(Gk n plc).map (gM 1))=some (rc,τ):=hC;have EN:D.n=n:=EN;have S3:D.plc=plc:=S3;have hd:Lu P n D:=⟨hI,EN,by rw[EN,S3];exact gV⟩
  rcases hr with⟨rfl,hF⟩|⟨rfl,fP⟩
  ·simp[-al,hV,hNV,jx,xr]
   refine Uw hS (b:=0) (A:=⟨some 10,tD,.live⟩) (by rw[Li]) rfl λσ h0=>?_
   have hD:=pB hI hF;have bR:=hI.ok.ok.start;have hs:D.n.start∈D.n.bj:=rK.2 (.inl rfl);obtain⟨m,vQ,GC⟩:=fJ.1 hs;have GD:=hd.p.EF m vQ;rw[aS vQ,GC]at GD;obtain⟨⟨cls,k⟩,jM,Am⟩:=al0 D hD hI.ok (by rw[hd.p.len];exact bR.2) (by unfold Vd.iO;rw[GD];omega)
   have hsg:xO P n D cls k:=⟨hd,hF,Am⟩;have uz:=Am.c.can;have vz:=uz.len;rw[Am.c.len]at vz;have qN:=hF.k;dsimp only at jM;have lI:=hn.calls;have jY:1<=k:=by
    have:=uz.fu _ (aZ (l:=cls) (n:=0) (by omega) (by rw[Am.c.len];have:=hD.k;omega))
    omega
   have hmul:(k:Int)*n.calls=((k*n.calls.toNat:Nat):Int):=by rw[oy];congr 1;omega
   have hmb:0<=(k:Int)*n.calls/\(k:Int)*n.calls<=512*64:=⟨Int.mul_nonneg (by omega) lI.1,Int.le_trans (Int.mul_le_mul_of_nonneg_right (show(k:Int)<=512 by omega) lI.1) (Int.mul_le_mul_of_nonneg_left lI.2 (by omega))⟩
   have tE:=λce (c0 c1 c2 c3 c4 c5 c6 c7 c8 c9:AV)=>rQ (ce:=ce) (σ:=ay σ 0 ⟨some 10,[c0,c1,c2,c3,c4,c5,c6,c7,c8,c9],.live⟩) (n:=0) (cE (dz h0))
   by_cases mH:128<k
   ·have Fu :=bM (show(128:Int)<(k:Int)by omega)
    simp[-al,jM,Fu, h0,tE];exact hz _ _ (.dE D cls k hv hsg (.inl mH))
   ·have Fu :=gg (show ¬(128:Int)<(k:Int)by omega)
    by_cases AN:128<k*n.calls.toNat
    ·have Kk :=bM (show(128:Int)<(k:Int)*n.calls by rw[hmul];omega)
     simp[-al,jM,Fu, Kk, h0,tE];exact⟨by omega,hz _ _ (.dE D cls k hv hsg (.inr AN))⟩
    ·have Kk :=gg (show ¬(128:Int)<(k:Int)*n.calls by rw[hmul];omega)
     simp[-al,jM,Fu, Kk];have hsy:=hn.syms;refine⟨by omega,amO hD (by rw[EN];omega) Am.c.len uz.fu (by omega) jY h0 λS l τ b Gx Gy Gz GA hS hC mZ g0 gb=>?_⟩
     have hL:xP P n D cls k S l:=⟨hsg,⟨by omega,by omega⟩,hS,hC⟩
     have Kl:=hC.len;subst Kl;have eX:∀c∈l,∃i:Nat,i<l.length/\ix l (i:Int)=c:=λc hc=>by
      obtain⟨i,hi,e⟩:=fJ.1 hc;exact⟨i,hi,by rw[aS hi];exact e⟩
     refine amK g0 gb mZ (λc hc h0=>?_) (by omega) (λe=>by rw[e]at jY;simp at jY) (λc hc=>?_) (λUQ τ=>hz _ _ (.Kj D cls _ S l hv hL UQ)) λUQ=>⟨hL.nodup UQ,hL.atm UQ jY,λst τ h1 h2=>hk _ _ _ (.ok D cls _ S l st hv hL UQ h1 h2)⟩
     ·obtain⟨i,hi,rfl⟩:=eX c hc
      exact(hC.no i hi h0).1
     ·obtain⟨i,hi,rfl⟩:=eX c hc
      by_cases h0:(ix l (i:Int)).2.1<0
      ·rw[(hC.no i hi h0).1];simp
      ·exact(hL.wd hi (by omega)).2.2.2
  ·simp[-al,hV,hNV,jx,xr]
   refine Uw hS (b:=0) (A:=⟨some 10,tD,.live⟩) (by rw[Li]) rfl λσ h0=>?_
   have tE:=λce (c0 c1 c2 c3 c4 c5 c6 c7 c8 c9:AV)=>rQ (ce:=ce) (σ:=ay σ 0 ⟨some 10,[c0,c1,c2,c3,c4,c5,c6,c7,c8,c9],.live⟩) (n:=0) (cE (dz h0));simp[-al,h0,tE];exact hz _ _ (.many D hv hd fP)
 ·have amW:=λce (c0 c1 c2 c3 c4 c5 c6 c7 c8 c9:AV)=>rQ (ce:=ce) (σ:=[⟨some 10,[c0,c1,c2,c3,c4,c5,c6,c7,c8,c9],.live⟩]) (n:=0) rfl
  simp[-al,hV,hv,amW];exact hz _ _ (.inv hv)
theorem amX (n:ao) (hf:n.fits) (P:List Int->Prop) (hP:n.bO=0->∀plc,AU n plc->Gi P n plc) (hP0:P n.bj):∃q:ao×Int,PC ql [n.av]=some (.bQ [q.1.av,.int q.2])/\A6 P n q.1 q.2:=
 E6 (g:=λq:ao×Int=>.bQ [q.1.av,.int q.2]) (amV n hf P hP hP0 _ (λe τ h=>⟨(zN,e),rfl,h⟩) λr e τ h=>⟨(r,e),rfl,h⟩)
end Ab
