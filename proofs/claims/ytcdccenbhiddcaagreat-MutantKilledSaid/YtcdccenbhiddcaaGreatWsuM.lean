/- Groups of states with the same outputs: what they are, homing words; and what it leans on. Condition: none. -/
import Derived.Test.YtcdccenbhiddcaaGreatMnlT
import Derived.Test.YtcdccenbhiddcaaGreatCovF
import Derived.Test.YtcdccenbhiddcaaGreatEqv
import Derived.Test.YtcdccenbhiddcaaGreatMinE
set_option linter.all false
set_option maxRecDepth 100000
set_option maxHeartbeats 1000000
namespace Ab
abbrev up (l:List Int):Prop:=l.Pairwise λa b=>a<b
def wm:∀{l k:List Int},up l->up k->(∀x,x∈l↔x∈k)->l=k
 | [],[],_,_,_=>rfl
 | [],b::k,_,_,h=>absurd ((h b).2 ab) ab
 |a::l,[],_,_,h=>absurd ((h a).1 ab) ab
 |a::l,b::k,i,j,h=>by
  have⟨g,m⟩:=ff.1 i;have⟨b1,n⟩:=ff.1 j;have e:a=b:=by
   rcases bR.1 ((h a).1 ab)with e|o
   .exact e
   rcases bR.1 ((h b).2 ab)with e|p
   .exact e.symm
   have:=b1 a o;have:=g b p;omega
  subst e
  congr 1
  refine wm m n λx=>?_;constructor
  .intro d
   rcases bR.1 ((h x).1 cW)with e|f
   .have:=g x d;omega
   .exact f
  .intro d
   rcases bR.1 ((h x).2 cW)with e|f
   .have:=b1 x d;omega
   .exact f
def qw (l:List Int) (t:Int):List Int:=if t∈l then l else(l.filter λx=>decide (x<t))++t::l.filter λx=>decide (t<x)
variable{l:List Int}
def Y7{t x:Int}:x∈qw l t↔x∈l\/x=t:=by
 unfold qw
 by_cases h:t∈l
 .rw[ah h]
  constructor
  .exact .inl
  .rintro(d | rfl)
   .exact d
   .exact h
 .rw[ae h]
  simp only[cp,bR,jt,cO];constructor
  .rintro(⟨a,_⟩|a|⟨a,_⟩)
   .exact .inl a
   .exact .inr a
   .exact .inl a
  .rintro(a|a)
   .rcases lY x t with b|b|b
    .exact .inl ⟨a,b⟩
    .exact .inr (.inl b)
    .exact .inr (.inr ⟨a,b⟩)
   .exact .inr (.inl a)
def Y8{t:Int}(h:up l):up (qw l t):=by
 unfold qw;split
 .exact h
 .rw[up,List.pairwise_append]
  refine⟨h.filter _,?_,λa e b d=>?_⟩
  .rw[ff]
   exact⟨λx f=>by simpa using(jt.1 f).2,h.filter _⟩
  .have g:a<t:=by simpa using(jt.1 e).2
   rcases bR.1 d with rfl|d
   .exact g
   .have i:t<b:=by simpa using(jt.1 d).2
    omega
abbrev Gr:=List Int×List Int
def nN (o:List Int) (t:Int):List Gr->List Gr
 | []=>[(o,[t])]
 |g::r=>if g.1=o then(g.1,qw g.2 t)::r else g::nN o t r
def lu (m:ak) (w:List Int):Nat->List Gr
 |0=>[]
 |s+1=>nN (m.outs (s:Int) w) (m.run (s:Int) w) (lu m w s)
def Jf{o:List Int}{t:Int}:∀{l:List Gr},(nN o t l).map (·.1)=if o∈l.map (·.1)then l.map (·.1)else l.map (·.1) ++ [o]
 | []=>by simp[nN]
 |g::r=>by
  unfold nN
  by_cases h:g.1=o
  .rw[ah h];simp[h]
  .rw[ae h,bC,Jf (l:=r)]
   have b : ¬o=g.1:=λe=>h e.symm
   by_cases a:o∈r.map (·.1)
   .rw[ah a,ah (by simp only[bC,bR];exact .inr a)];rfl
   .rw[ae a,ae (by simp only[bC,bR,not_or];exact⟨b, a⟩)];rfl
structure Bv (m:ak) (w:List Int) (n:Nat) (G:List Gr):Prop where
 nd:(G.map (·.1)).Nodup
 up:∀g∈G,up g.2
 mem:∀g∈G,∀t,t∈g.2↔∃s:Nat,s<n/\m.outs (s:Int) w=g.1/\m.run (s:Int) w=t
 all:∀s:Nat,s<n->m.outs (s:Int) w∈G.map (·.1)
 ne:∀g∈G,∃s:Nat,s<n/\m.outs (s:Int) w=g.1
def vj{o:List Int}{t:Int}:∀{l:List Gr}{g:Gr},(l.map (·.1)).Nodup->(g∈nN o t l↔(g∈l/\g.1 ≠ o)\/(∃k∈l,k.1=o/\g=(o,qw k.2 t))\/(o∉l.map (·.1)/\g=(o,[t])))
 | [],g,_=>by simp[nN]
 |k::r,g,i=>by
  have⟨f,j⟩:=List.nodup_cons.1 (show(k.1::r.map (·.1)).Nodup from i);unfold nN
  by_cases h:k.1=o
  .rw[ah h]
   subst h;constructor
   .intro d
    rcases bR.1 d with rfl|d
    .exact .inr (.inl ⟨k,ab,rfl,rfl⟩)
    .exact .inl ⟨cW,λe=>f (e▸cB.2 ⟨g,d,rfl⟩)⟩
   .rintro(⟨a,b⟩|⟨q,a,b,rfl⟩|⟨a,_⟩)
    .rcases bR.1 a with rfl|a
     .exact absurd rfl b
     .exact List.mem_cons_of_mem _ a
    .rcases bR.1 a with rfl|a
     .exact List.mem_cons_self
     .exact absurd (cB.2 ⟨q,a,b⟩) f
    .exact absurd ab a
  .rw[ae h,bR,vj j]
   constructor
   .rintro(rfl|⟨a,b⟩|⟨q,a,b,rfl⟩|⟨a,rfl⟩)
    .exact .inl ⟨ab,h⟩
    .exact .inl ⟨by simp[a],b⟩
    .exact .inr (.inl ⟨q,by simp[a],b,rfl⟩)
    .exact .inr (.inr ⟨by simp only[bC,bR,not_or];exact⟨λe=>h e.symm,a⟩,rfl⟩)
   .rintro(⟨a,b⟩|⟨q,a,b,rfl⟩|⟨a,rfl⟩)
    .rcases bR.1 a with rfl|a
     .exact .inl rfl
     .exact .inr (.inl ⟨a,b⟩)
    .rcases bR.1 a with rfl|a
     .exact absurd b h
     .exact .inr (.inr (.inl ⟨q,a,b,rfl⟩))
    .simp only[bC,bR,not_or]at a
     exact .inr (.inr (.inr ⟨a.2,rfl⟩))
def Jg{m:ak}{w:List Int}:∀{n:Nat},Bv m w n (lu m w n)
 |0=>⟨by simp[lu],by simp[lu],by simp[lu],aa,by simp[lu]⟩
 |n+1=>by
  have d:=Jg (m:=m) (w:=w) (n:=n);have u:=Jf (o:=m.outs (n:Int) w) (t:=m.run (n:Int) w) (l:=lu m w n);unfold lu;generalize lu m w n=G at *;refine⟨?_,λg j=>?_,λg j t=>?_,λs z=>?_,λg j=>?_⟩
  .rw[u]
   split
   .exact d.nd
   .rename_i r
    rw[List.nodup_append];exact⟨d.nd,ab,λa y b x=>by simp at x;subst x;exact λe=>r (e▸y)⟩
  .rcases(vj d.nd).1 j with⟨f,_⟩|⟨k,f,_,rfl⟩|⟨_,rfl⟩
   .exact d.up g f
   .exact Y8 (d.up k f)
   .simp[up]
  .rcases(vj d.nd).1 j with⟨f,q⟩|⟨k,f,q,rfl⟩|⟨f,rfl⟩
   .rw[d.mem g f]
    constructor
    .rintro⟨s,p,h,i⟩;exact⟨s,aa,h,i⟩
    .rintro⟨s,p,h,i⟩
     by_cases e:s=n
     .subst e;exact absurd h.symm q
     .exact⟨s,aa,h,i⟩
   .dsimp only
    rw[Y7,d.mem k f];constructor
    .rintro(⟨s,p,h,i⟩|rfl)
     .exact⟨s,aa,by rw[h,q],i⟩
     .exact⟨n,aa,rfl,rfl⟩
    .rintro⟨s,p,h,i⟩
     by_cases e:s=n
     .subst e;exact .inr i.symm
     .exact .inl ⟨s,aa,by rw[h,q],i⟩
   .dsimp only
    simp only[List.mem_singleton];constructor
    .rintro rfl;exact⟨n,aa,rfl,rfl⟩
    .rintro⟨s,p,h,i⟩
     by_cases e:s=n
     .subst e;exact i.symm
     .have:=d.all s aa
      rw[h]at this;exact absurd this f
  .rw[u]
   by_cases e:s=n
   .subst e
    split
    .assumption
    .simp
   .have:=d.all s aa
    split
    .exact this
    .exact List.mem_append_left _ this
  .rcases(vj d.nd).1 j with⟨f,_⟩|⟨k,f,_,rfl⟩|⟨_,rfl⟩
   .obtain⟨s,p,h⟩:=d.ne g f;exact⟨s,aa,h⟩
   .exact⟨n,aa,rfl⟩
   .exact⟨n,aa,rfl⟩
variable{m:ak}{w:List Int}
def Bv.perm{n:Nat}{G H:List Gr}(h:Bv m w n G) (Y:H.Perm G):Bv m w n H:=
 ⟨((Y.map (·.1)).nodup_iff).2 h.nd,λg hg=>h.up g (Y.mem_iff.1 hg),λg hg=>h.mem g (Y.mem_iff.1 hg),λs hs=>((Y.map (·.1)).mem_iff).2 (h.all s hs),λg hg=>h.ne g (Y.mem_iff.1 hg)⟩
def pt (x:Gr):List Gr->List Gr
 | []=>[x]
 |y::r=>if bh x.1 y.1<=0 then x::y::r else y::pt x r
def Bw:List Gr->List Gr
 | []=>[]
 |x::r=>pt x (Bw r)
def Jh (x:Gr):∀l,(pt x l).Perm (x::l)
 | []=>.refl _
 |y::r=>by
  unfold pt;split
  .exact .refl _
  .exact((Jh x r).cons y).trans (.swap x y r)
def Ji:∀l,(Bw l).Perm l
 | []=>.refl _
 |x::r=>(Jh x _).trans ((Ji r).cons x)
def ak.vk (m:ak) (w:List Int):List Gr:=Bw (lu m w m.next.length)
def Bx (m:ak) (w:List Int):Bv m w m.next.length (m.vk w):=Jg.perm (Ji _)
def ak.cur (m:ak) (w o:List Int):List Int:=((List.range m.next.length).filter λ(t:Nat)=>(List.range m.next.length).any λ(s:Nat)=>decide (m.outs (s:Int) w=o)&&decide (m.run (s:Int) w=(t:Int))).map λ(t:Nat)=>(t:Int)
variable{o:List Int}
def Y9:up (m.cur w o):=by
 unfold ak.cur;rw[up,kV];exact(List.pairwise_lt_range.filter _).imp λh=>aa
def Za(e:m.Ok)(f:∀x∈w,0<=x/\x<m.inputs){t:Int}:t∈m.cur w o↔∃s:Nat,s<m.next.length/\m.outs (s:Int) w=o/\m.run (s:Int) w=t:=by
 unfold ak.cur;simp only[cB,jt,gw,List.any_eq_true,aD,cO];constructor
 .rintro⟨g, ⟨_,s,a,b,d⟩,rfl⟩;exact⟨s,a,b,d⟩
 .rintro⟨s,a,b,d⟩
  have:=jD e (s:=(s:Int)) ⟨aa,aa⟩ f
  exact⟨t.toNat,⟨aa,s,a,b,aa⟩,aa⟩
def Zc(b:m.Ok)(d:∀x∈w,0<=x/\x<m.inputs){g:Gr}(a:g∈m.vk w):g.2=m.cur w g.1:=
 wm ((Bx m w).up g a) Y9 λt=>by rw[(Bx m w).mem g a,Za b d]
def ak.bO (m:ak) (w:List Int):List Int:=match(m.vk w).find? λg=>decide (1<g.2.length)with
 |some g=>g.2
 |none=>[]
def Jj{b:Type}{p q:b->Bool}:∀{l:List b},(∀x∈l,p x=true->q x=true)->(l.filter p).length<=(l.filter q).length
 | [],_=>by simp
 |a::l,h=>by
  have i:=Jj (p:=p) (q:=q) (l:=l) λx d=>h x cW
  have e:=h a ab
  cases f:p a<;>cases g:q a<;>simp[f,g]at e ⊢<;>omega
def By{d:Type}{p q:d->Bool}:∀{l:List d},(∀x∈l,p x=true->q x=true)->(∃x∈l,p x=false/\q x=true)->(l.filter p).length<(l.filter q).length
 | [],_,h=>by simp at h
 |a::l,h,b=>by
  have e : ∀x∈l,p x=true->q x=true:=λx b=>h x dS
  have hle:=Jj e;have i:=h a ab
  obtain⟨x,b,f,g⟩:=b;rcases bR.1 b with rfl|b
  .rw[List.filter_cons_of_neg (by simp[f]),List.filter_cons_of_pos g,eO];omega
  .have n:=By e ⟨x,b,f,g⟩
   cases j:p a<;>cases m:q a<;>simp[j,m]at i ⊢<;>omega
def ak.fst (m:ak) (w:List Int) (s:Nat):Bool:=(List.range s).all λ(t:Nat)=>decide (m.outs (t:Int) w ≠ m.outs (s:Int) w)
def vl{s:Nat}:m.fst w s=true↔∀t:Nat,t<s->m.outs (t:Int) w ≠ m.outs (s:Int) w:=by
 unfold ak.fst;simp[eS]
def ak.oO (m:ak) (w:List Int):Nat:=((List.range m.next.length).filter λs=>m.fst w s).length
def Zd:m.oO w<=m.next.length:=by
 unfold ak.oO;have:=ou (λs=>m.fst w s) (List.range m.next.length)
 simpa using this
def Ze(h:0<m.next.length):1<=m.oO w:=by
 unfold ak.oO;exact fc.2 (List.ne_nil_of_mem (a:=0) (jt.2 ⟨ch,vl.2 λt b=>aa⟩))
def Jk:∀{s:Nat},∃f:Nat,f<=s/\m.fst w f=true/\m.outs (f:Int) w=m.outs (s:Int) w:=by
 intro s
 induction s using Nat.strongRecOn with
 |ind s b=>
  by_cases h:m.fst w s=true
  .exact⟨s,aY s,h,rfl⟩
  .rw[vl]at h
   obtain⟨t,a⟩:=Classical.not_forall.1 h;obtain⟨a,e⟩:=Classical.not_imp.1 a;rw[Classical.not_not]at e;obtain⟨f,i,d,g⟩:=b t a;exact⟨f,aa,d,by rw[g,e]⟩
def Zf{a b:Nat}(d:m.fst w a=true) (f:m.fst w b=true) (e:m.outs (a:Int) w=m.outs (b:Int) w):a=b:=by
 rw[vl]at d f;rcases Nat.lt_trichotomy a b with h|h|h
 .exact absurd e (f a h)
 .exact h
 .exact absurd e.symm (d b h)
variable{v:List Int}
def Jl{s t:Int}(h:m.outs s (w++v)=m.outs t (w++v)):m.outs s w=m.outs t w:=by
 rw[eZ,eZ]at h;exact(List.append_inj h jo).1
def Zg{a b:Nat}(j:a<m.next.length) (l:b<m.next.length) (n:m.outs (a:Int) w=m.outs (b:Int) w) (o:m.outs (a:Int) (w++v) ≠ m.outs (b:Int) (w++v)):m.oO w<m.oO (w++v):=by
 unfold ak.oO;refine By (λs _ d=>?_) ?_
 .rw[vl]at d ⊢
  exact λt p e=>d t p (Jl e)
 .obtain⟨f,A,q,h⟩:=Jk (m:=m) (w:=w) (s:=a)
  obtain⟨s,B,r,u⟩:∃s:Nat,s<m.next.length/\m.outs (s:Int) w=m.outs (f:Int) w/\m.outs (s:Int) (w++v) ≠ m.outs (f:Int) (w++v):=by
   by_cases e:m.outs (a:Int) (w++v)=m.outs (f:Int) (w++v)
   .exact⟨b,l,by rw[h,n],λx =>o (by rw[e,x])⟩
   .exact⟨a,j,h.symm,e⟩
  obtain⟨g,C,y,i⟩:=Jk (m:=m) (w:=w++v) (s:=s);refine⟨g,ai,?_,y⟩
  rw[Bool.eq_false_iff];intro z;have:=Zf z q (by rw[Jl i,r])
  subst this;exact u i.symm
def Jm{a b:ak}(l:a.Ok) (m:b.Ok) (d:a.inputs=b.inputs){s t:Int}(n:0<=s/\s<(a.next.length:Int)) (o:0<=t/\t<(b.next.length:Int))(h:ef a b s t=some v):v.length<=a.next.length*b.next.length:=by
 have g:=Iv l m d;have f:tr a b (s,t):=⟨n,o⟩;have j:=AZ g f;have hle:=j.gq.le g;unfold ef ee at h;obtain⟨x,q,rfl⟩:=jP.1 h;obtain⟨p,r,_,_,_,e⟩:=qp.1 (List.mem_of_mem_head? q);obtain⟨i,d,rfl⟩:=cd.1 r;have:=j.gq.len (i:Int) aa aa
 rw[aK d]at this;rw[e];simp;omega
def Jn{a b:ak}(g:a.Ok) (i:b.Ok) (j:a.inputs=b.inputs){s t:Int}(l:0<=s/\s<(a.next.length:Int)) (m:0<=t/\t<(b.next.length:Int))(h:ef a b s t=some v):(∀x∈v,0<=x/\x<a.inputs)/\a.outs s v ≠ b.outs t v:=by
 have n:=Iv g i j;have d:tr a b (s,t):=⟨l,m⟩;obtain⟨⟨u,x,q,rfl,o,p,r⟩,_⟩:=HW n d h;refine⟨o,λe=>?_⟩;have f:dC (mq a b) (s,t) (u ++ [x])=none:=by rw[AY,p];exact r
 rw[prun,ah e]at f;simp at f
def Jo(a:gJ m){s t:Int}(b:0<=s/\s<(m.next.length:Int)) (d:0<=t/\t<(m.next.length:Int)) (e:s ≠ t):∃v,ef m m s t=some v:=by
 have g:=Iv a.ok a.ok rfl;have f:tr m m (s,t):=⟨b,d⟩;cases h:ef m m s t with
 |some v=>exact⟨v,rfl⟩
 |none=>
  exfalso;refine e (a.K6 s t b.1 b.2 d.1 d.2 λw i=>?_);have:=HX g f h w i;rw[prun]at this;refine jT λj=>this ?_;rw[ae j]
def Zh(i:m.Ok)(j:∀x∈w,0<=x/\x<m.inputs) (h:m.bO w ≠ []):((0<=ix (m.bO w) 0/\ix (m.bO w) 0<(m.next.length:Int))/\(0<=ix (m.bO w) 1/\ix (m.bO w) 1<(m.next.length:Int))/\ix (m.bO w) 0 ≠ ix (m.bO w) 1)/\2<=(m.bO w).length/\(m.bO w).length<=m.next.length/\∃a b:Nat,a<m.next.length/\b<m.next.length/\m.outs (a:Int) w=m.outs (b:Int) w/\m.run (a:Int) w=ix (m.bO w) 0/\m.run (b:Int) w=ix (m.bO w) 1:=by
 have p:=Bx m w;unfold ak.bO at h ⊢;cases l:(m.vk w).find? λg=>decide (1<g.2.length)with
 |none=>rw[l]at h;exact absurd rfl h
 |some g=>
  have n:=List.mem_of_find?_eq_some l;have e:=List.find?_some l;simp only[decide_eq_true_eq]at e;have o:=p.up g n;have d:=p.mem g n;dsimp only;have f:=Zc i j n;have hlen:g.2.length<=m.next.length:=by
   rw[f];unfold ak.cur;rw[cP];have:=ou (λ(t:Nat)=>(List.range m.next.length).any λ(s:Nat)=>decide (m.outs (s:Int) w=g.1)&&decide (m.run (s:Int) w=(t:Int))) (List.range m.next.length)
   simpa using this
  match q:g.2,e,o,d,hlen with
  |x::y::r,_,o,d,hlen=>
   obtain⟨a,u,z,A⟩:=(d x).1 ab
   obtain⟨b,b1,B,C⟩:=(d y).1 ab
   have G:=jD i (s:=(a:Int)) ⟨aa,aa⟩ j
   have H:=jD i (s:=(b:Int)) ⟨aa,aa⟩ j
   have D:=(ff.1 o).1 y ab
   have E:ix (x::y::r) 0=x:=rfl;have F:ix (x::y::r) 1=y:=rfl;rw[E,F];exact⟨⟨aa,aa,aa⟩,ab,hlen,a,b,u,b1,by rw[z,B],A,C⟩
  | [_],e,_,_,_=>simp at e
  | [],e,_,_,_=>simp at e
def ak.vX (m:ak):Nat->List Int->List Int
 |0,w=>w
 |f+1,w=>if m.bO w=[]then w else m.vX f (w++(ef m m (ix (m.bO w) 0) (ix (m.bO w) 1)).getD [])
def Zi(d:gJ m)(l:∀x∈w,0<=x/\x<m.inputs) (h:m.bO w ≠ []):∃v,ef m m (ix (m.bO w) 0) (ix (m.bO w) 1)=some v/\(∀x∈w++v,0<=x/\x<m.inputs)/\v.length<=m.next.length*m.next.length/\m.oO w<m.oO (w++v):=by
 obtain⟨⟨g,i,o⟩,_,_,a,b,p,q,n,r,s⟩:=Zh d.ok l h;obtain⟨v,j⟩:=Jo d g i o;obtain⟨u,y⟩:=Jn d.ok d.ok rfl g i j;refine⟨v,j,λx f=>?_,Jm d.ok d.ok rfl g i j,Zg p q n λe=>?_⟩
 .rcases cp.1 f with f|f
  .exact l x f
  .exact u x f
 .rw[eZ,eZ,n]at e
  have:=List.append_cancel_left e;rw[r,s]at this;exact y this
def Bz{u:List Int}:bp u (u++v)<=0:=by
 cases v with
 |nil=>rw[js];exact Int.le_of_eq (fe.refl _)
 |cons x v=>unfold bp;rw[ah ab];omega
section
variable{a b:ak}{s t:Int}
end
def Zj{u v:List Int}(h:bp u v<=0) (k:bp v u<=0):u=v:=by
 refine fe.eq u v ?_;have:=fe.iC u v;omega
def ak.sw (m:ak) (s t:Int):List Int:=(ef m m s t).getD []
def sU{m:ak}(a:gJ m) (h:m.next.length<=8){s t:Int}(d:0<=s/\s<(m.next.length:Int)) (f:0<=t/\t<(m.next.length:Int)) (g:s ≠ t):ef m m s t=some (m.sw s t)/\(∀x∈m.sw s t,0<=x/\x<m.inputs)/\m.outs s (m.sw s t) ≠ m.outs t (m.sw s t)/\(m.sw s t).length<=64:=by
 obtain⟨v,b⟩:=Jo a d f g;have e:m.sw s t=v:=by unfold ak.sw;rw[b];rfl
 obtain⟨i,j⟩:=Jn a.ok a.ok rfl d f b;have n:=Jm a.ok a.ok rfl d f b;have l:m.next.length*m.next.length<=64:=jg h h
 rw[e];exact⟨b,i,j,aa⟩
section
variable{α β:Type} [DecidableEq α] [DecidableEq β]
def nO (f:Nat->α) (s:Nat):Bool:=(List.range s).all λt=>decide (f t ≠ f s)
theorem vm{f:Nat->α}{s:Nat}:nO f s=true↔∀t:Nat,t<s->f t ≠ f s:=by
 unfold nO;simp[eS]
def nP (f:Nat->α) (n:Nat):Nat:=((List.range n).filter λs=>nO f s).length
theorem Zk{f:Nat->α}{n:Nat}:nP f n<=n:=by
 unfold nP;have:=ou (λs=>nO f s) (List.range n);simpa using this
theorem Zl{f:Nat->α}{n:Nat}(h:0<n):1<=nP f n:=by
 unfold nP;exact fc.2 (List.ne_nil_of_mem (a:=0) (jt.2 ⟨ch,vm.2 λt b=>aa⟩))
theorem Jp{f:Nat->α}:∀{s:Nat},∃k:Nat,k<=s/\nO f k=true/\f k=f s:=by
 intro s
 induction s using Nat.strongRecOn with
 |ind s b=>
  by_cases h:nO f s=true
  .exact⟨s,aY s,h,rfl⟩
  .rw[vm]at h
   obtain⟨t,a⟩:=Classical.not_forall.1 h;obtain⟨a,e⟩:=Classical.not_imp.1 a;rw[Classical.not_not]at e;obtain⟨k,i,d,g⟩:=b t a;exact⟨k,aa,d,by rw[g,e]⟩
theorem Zm{f:Nat->α}{a b:Nat}(d:nO f a=true) (g:nO f b=true) (e:f a=f b):a=b:=by
 rw[vm]at d g;rcases Nat.lt_trichotomy a b with h|h|h
 .exact absurd e (g a h)
 .exact h
 .exact absurd e.symm (d b h)
theorem Zn{f:Nat->α}{g:Nat->β}{n a b:Nat}(d:∀s t,g s=g t->f s=f t) (m:a<n) (o:b<n) (p:f a=f b) (q:g a ≠ g b):nP f n<nP g n:=by
 unfold nP;refine By (λs _ h=>?_) ?_
 .rw[vm]at h ⊢
  exact λt r e=>h t r (d _ _ e)
 .obtain⟨k,B,u,i⟩:=Jp (f:=f) (s:=a)
  obtain⟨s,C,w,x⟩:∃s:Nat,s<n/\f s=f k/\g s ≠ g k:=by
   by_cases e:g a=g k
   .exact⟨b,o,by rw[i,p],λy =>q (by rw[e,y])⟩
   .exact⟨a,m,i.symm,e⟩
  obtain⟨j,D,z,l⟩:=Jp (f:=g) (s:=s);refine⟨j,ai,?_,z⟩
  rw[Bool.eq_false_iff];intro A;have:=Zm A u (by rw[d _ _ l,w])
  subst this;exact x l.symm
end
def ak.ows (m:ak) (ws:List (List Int)) (s:Int):List (List Int):=ws.map λw=>m.outs s w
def ak.sep (m:ak) (s t:Int) (ws:List (List Int)):Bool:=ws.any λw=>decide (m.outs s w ≠ m.outs t w)
variable{m:ak}{ws:List (List Int)}
def nQ{s t:Int}:m.sep s t ws=true↔∃w∈ws,m.outs s w ≠ m.outs t w:=by
 unfold ak.sep;simp[List.any_eq_true]
def Jq{s t:Int}:m.sep s t ws=false↔m.ows ws s=m.ows ws t:=by
 unfold ak.sep ak.ows;rw[List.map_inj_left,List.any_eq_false];simp
def Jr{s t:Int}{vs:List (List Int)}(h:∀w∈ws,w∈vs) (a:m.sep s t ws=true):m.sep s t vs=true:=by
 rw[nQ]at a ⊢;obtain⟨w,b,d⟩:=a;exact⟨w,h w b,d⟩
def ak.vn (m:ak) (s t:Int) (set:List (List Int)):List (List Int):=if m.sep s t set=true then set else set ++ [m.sw s t]
def ak.sV (m:ak) (s:Nat) (set:List (List Int)):Nat->List (List Int)
 |0=>set
 |j+1=>m.vn (s:Int) ((s+1+j:Nat):Int) (m.sV s set j)
def ak.lO (m:ak):Nat->List (List Int)
 |0=>[]
 |s+1=>m.sV s (m.lO s) (m.next.length-(s+1))
def Zo{s t:Int}{set:List (List Int)}:∃r,m.vn s t set=set++r:=by
 unfold ak.vn;split
 .exact⟨[],ab⟩
 .exact⟨_,rfl⟩
structure ts (m:ak) (ws:List (List Int)):Prop where
 of:∀w∈ws,∃x y:Int,(0<=x/\x<(m.next.length:Int))/\(0<=y/\y<(m.next.length:Int))/\x ≠ y/\w=m.sw x y
 oO:ws.length+1<=nP (λs:Nat=>m.ows ws (s:Int)) m.next.length
def ts.init(Y:m.Ok):ts m []:=by
 have:=Y.states;exact⟨ab,Zl aa⟩
def ts.len(h:ts m ws):ws.length+1<=m.next.length:=by
 have:=h.oO;have:=Zk (f:=λs:Nat=>m.ows ws (s:Int)) (n:=m.next.length)
 omega
def ts.step(hm:gJ m) (h8:m.next.length<=8)(h:ts m ws){s t:Nat}(hs:s<m.next.length) (ht:t<m.next.length) (fm:s ≠ t):ts m (m.vn (s:Int) (t:Int) ws)/\m.sep (s:Int) (t:Int) (m.vn (s:Int) (t:Int) ws)=true:=by
 unfold ak.vn;split
 .rename_i hc
  exact⟨h,hc⟩
 .rename_i hc
  have hf:m.sep (s:Int) (t:Int) ws=false:=by simpa using hc
  obtain⟨h1,h2,h3,h4⟩:=sU hm h8 (s:=(s:Int)) (t:=(t:Int)) ⟨aa,aa⟩ ⟨aa,aa⟩ aa
  refine⟨⟨λw Y=>?_,?_⟩,nQ.2 ⟨_,ab,h3⟩⟩
  .rcases cp.1 Y with Y|Y
   .exact h.of w Y
   .simp at Y
    exact⟨s,t,⟨aa,aa⟩,⟨aa,aa⟩,aa,Y⟩
  .have hc:=h.oO
   generalize m.sw (s:Int) (t:Int)=v at h3;have:=Zn (f:=λx:Nat=>m.ows ws (x:Int)) (g:=λx:Nat=>m.ows (ws ++ [v]) (x:Int)) (n:=m.next.length) (a:=s) (b:=t) (λx y e=>?_) hs ht (Jq.1 hf) (λe=>?_)
   .rw[ez]
    simp only[eO,List.length_nil];omega
   .dsimp only[ak.ows]at e ⊢
    rw[eE,eE]at e;exact(List.append_inj e ab).1
   .dsimp only[ak.ows]at e
    rw[eE,eE]at e;have:=(List.append_inj e ab).2
    simp only[bC,List.map_nil,List.cons.injEq,and_true]at this;exact h3 this
structure qx (m:ak) (s j:Nat) (ws:List (List Int)):Prop where
 ok:ts m ws
 all:∀x y:Nat,x<y->y<m.next.length->(x<s\/x=s/\y<s+1+j)->m.sep (x:Int) (y:Int) ws=true
variable{j:Nat}
def qx.step(hm:gJ m) (h8:m.next.length<=8){s:Nat}(h:qx m s j ws) (hs:s+1+j<m.next.length):qx m s (j+1) (m.vn (s:Int) ((s+1+j:Nat):Int) ws):=by
 obtain⟨h1,h2⟩:=h.ok.step hm h8 (s:=s) (t:=s+1+j) aa hs aa
 refine⟨h1,λx y Y hy hd=>?_⟩
 by_cases e:x=s/\y=s+1+j
 .obtain⟨rfl,rfl⟩:=e;exact h2
 .obtain⟨r,hr⟩:=Zo (m:=m) (s:=(s:Int)) (t:=((s+1+j:Nat):Int)) (set:=ws)
  rw[hr];exact Jr (λw hw=>by simp[hw]) (h.all x y Y hy aa)
def qx.row{m:ak}(Y:gJ m) (h8:m.next.length<=8){s:Nat}{ws:List (List Int)}(h:qx m s 0 ws):∀j:Nat,s+1+j<=m.next.length->qx m s j (m.sV s ws j)
 |0,_=>h
 |j+1,hj=>(qx.row Y h8 h j aa).step Y h8 aa
def qx.next{s:Nat}(h:qx m s j ws) (hj:m.next.length<=s+1+j):qx m (s+1) 0 ws:=⟨h.ok,λx y Y hy hd=>h.all x y Y hy aa⟩
def BA{m:ak}(a:gJ m) (b:m.next.length<=8):∀s:Nat,s<=m.next.length->qx m s 0 (m.lO s)
 |0,_=>⟨ts.init a.ok,λx y d e f=>aa⟩
 |s+1,g=>(qx.row a b (BA a b s aa) (m.next.length-(s+1)) aa).next aa
def Js{l:List (List Int)}:(dD l).length<=l.length:=by
 show(dn (cU bp l)).length<=_;have:=Bo (cU bp l);rw[sT]at this;exact this
def Zp{l:List Int}{N:Nat}(b:l.Nodup) (d:∀x∈l,0<=x/\x<(N:Int)) (g:N<=l.length){x:Int}(e:0<=x) (f:x<N):x∈l:=by
 by_cases h:x∈l
 .exact h
 .have:=lg N (List.nodup_cons.2 ⟨h,b⟩) (by
   intro y a;rcases bR.1 a with rfl|a
   .exact⟨e,f⟩
   .exact d y a)
  simp at this;omega
def Jt{p:List Int->Prop}(b:p []) (d:∀w a,p w->p (w ++ [a])):∀w,p w:=by
 intro w;have key:∀r:List Int,p r.reverse:=by
  intro r
  induction r with
  |nil=>exact b
  |cons a r e=>rw[List.reverse_cons];exact d _ _ e
 have:=key w.reverse
 rwa [List.reverse_reverse]at this
def Cs (a b:ak) (C:List (List Int)) (p s:Int):Prop:=∀c∈C,a.outs p c=b.outs s c
section
variable{n z:ak}{C:List (List Int)}
def Ju (d:∀x y:Nat,x<y->y<n.next.length->n.sep (x:Int) (y:Int) C=true){p s t:Int}(j:0<=s) (s1:s<n.next.length) (l:0<=t) (q:t<n.next.length) (e:Cs z n C p s) (f:Cs z n C p t):s=t:=by
 have key:∀x y:Nat,x<y->y<n.next.length->Cs z n C p x->Cs z n C p y->False:=λx y g m e f=>by
  obtain⟨c,i,o⟩:=nQ.1 (d x y g m);exact o ((e c i).symm.trans (f c i))
 obtain⟨a,rfl⟩:=dz j;obtain⟨b,rfl⟩:=dz l;rcases Nat.lt_trichotomy a b with h|h|h
 .exact(key a b h aa e f).elim
 .rw[h]
 .exact(key b a h aa f e).elim
def BB{a b c d:List Int}(e:a.length=c.length) (h:a++b=c++d):a=c/\b=d:=List.append_inj h e
variable (hn:gJ n) (hz:z.Ok) (hi:z.inputs=n.inputs) (hl:z.next.length<=n.next.length+1) (hC:C ≠ [])
 (vo:∀x y:Nat,x<y->y<n.next.length->n.sep (x:Int) (y:Int) C=true)
 (hp:∀u∈(n.af n.start).map (·.2),∀v:List Int,v.length<=2->(∀x∈v,0<=x/\x<n.inputs)->∀c∈C,n.outs n.start (u++v++c)=z.outs z.start (u++v++c))
include hp
theorem nR{u v:List Int}(b:u∈(n.af n.start).map (·.2)) (d:v.length<=2) (a:∀x∈v,0<=x/\x<n.inputs):Cs z n C (z.run z.start (u++v)) (n.run n.start (u++v)):=λc e=>by
 have h:=hp u b v d a c e;rw[eZ (u:=u++v),eZ (u:=u++v)]at h;exact(BB jo h).2.symm
include hn hz hi hl vo
theorem Zq:∀w:List Int,(∀x∈w,0<=x/\x<n.inputs)->∃u∈(n.af n.start).map (·.2),∃v:List Int,v.length<=1/\(∀x∈v,0<=x/\x<n.inputs)/\z.run z.start w=z.run z.start (u++v):=by
 have f:=hn.ok;have r:∀u∈(n.af n.start).map (·.2),∀x∈u,0<=x/\x<n.inputs:=λu g=>((lr f).1 g).1;have q:∀w,(∀x∈w,0<=x/\x<n.inputs)->0<=z.run z.start w/\z.run z.start w<z.next.length:=λw m=>jD hz hz.start λx d=>by rw[hi];exact m x d
 have y:∀w,(∀x∈w,0<=x/\x<n.inputs)->0<=n.run n.start w/\n.run n.start w<n.next.length:=λw m=>jD f f.start m
 have A:([]:List Int)∈(n.af n.start).map (·.2):=(lr f).2 ⟨ab,λu _ _=>by have:=Bz (u:=[]) (v:=u);simpa using this⟩
 have hlen:((n.af n.start).map (·.2)).length=n.next.length:=by rw[cP,nM hn]
 have B:∀a∈(n.af n.start).map (·.2),∀b∈(n.af n.start).map (·.2),z.run z.start a=z.run z.start b->a=b:=λa o b s e=>by
  have C:=nR hp (v:=[]) o ab ab
  have I:=nR hp (v:=[]) s ab ab
  rw[js]at C I;rw[e]at C;have O:=y a (r a o);have P:=y b (r b s);have Q:=Ju vo O.1 O.2 P.1 P.2 C I;exact Zj (((lr f).1 o).2 b (r b s) Q.symm) (((lr f).1 s).2 a (r a o) Q)
 have J:(((n.af n.start).map (·.2)).map λu=>z.run z.start u).Nodup:=by
  unfold List.Nodup;rw[kV];refine List.Pairwise.imp_of_mem (fun {a b} o s h e=>?_) (Bu f);rw[B a o b s e]at h;have:=fe.iC b b;omega
 have i:∀x,x∈((n.af n.start).map (·.2)).map (λu=>z.run z.start u)->∃u∈(n.af n.start).map (·.2),x=z.run z.start u:=λx d=>by
  obtain⟨u,g,rfl⟩:=cB.1 d;exact⟨u,g,rfl⟩
 have K:∀x∈((n.af n.start).map (·.2)).map (λu=>z.run z.start u),0<=x/\x<(z.next.length:Int):=λx d=>by
  obtain⟨u,g,rfl⟩:=i x d;exact q u (r u g)
 by_cases R:∀u∈(n.af n.start).map (·.2),∀a:Int,0<=a->a<n.inputs->∃p ∈(n.af n.start).map (·.2),z.run z.start (u ++ [a])=z.run z.start p
 .have key:∀w:List Int,(∀x∈w,0<=x/\x<n.inputs)->∃u∈(n.af n.start).map (·.2),z.run z.start w=z.run z.start u:=by
   refine Jt (λ_=>⟨[],A,rfl⟩) λw a T m=>?_;obtain⟨u,g,e⟩:=T λx d=>m x cW
   have o:=m a ab
   obtain⟨p, j, U⟩:=R u g a o.1 o.2;exact⟨p, j, by rw[iV,e,<-iV,U]⟩
  intro w m;obtain⟨u,g,e⟩:=key w m;exact⟨u,g,[],ab,ab,by rw[js];exact e⟩
 .obtain⟨D,E,a,L,M,V⟩:∃D∈(n.af n.start).map (·.2),∃a:Int,0<=a/\a<n.inputs/\∀p ∈(n.af n.start).map (·.2),z.run z.start (D ++ [a]) ≠ z.run z.start p :=by
   refine jT λF =>R λu g a L M=>jT λI=>F ⟨u,g,a,L,M,λp j e=>I ⟨p, j, e⟩⟩
  have G:∀x∈[a],0<=x/\x<n.inputs:=λx d=>by simp at d;subst d;exact⟨L,M⟩
  have H:=λx W C=>Zp (l:=z.run z.start (D ++ [a])::((n.af n.start).map (·.2)).map λu=>z.run z.start u) (N:=z.next.length) (List.nodup_cons.2 ⟨λh=>by
    obtain⟨p, j, e⟩:=i _ h;exact V p j e,J⟩) (λx d=>by
    rcases bR.1 d with rfl|d
    .exact q _ λx d=>by
      rcases cp.1 d with h|h
      .exact r D E x h
      .exact G x h
    .exact K x d) (by rw[eO,cP,hlen];exact hl) (x:=x) W C
  intro w m;have S:=q w m;rcases bR.1 (H _ S.1 S.2)with e|h
  .exact⟨D,E,[a],ab,G,e⟩
  .obtain⟨u,g,e⟩:=i _ h
   exact⟨u,g,[],ab,ab,by rw[js];exact e⟩
include hC
theorem Jv:jE n z:=by
 have b:=hn.ok;have D:∀u∈(n.af n.start).map (·.2),∀x∈u,0<=x/\x<n.inputs:=λu g=>((lr b).1 g).1;have i:([]:List Int)∈(n.af n.start).map (·.2):=(lr b).2 ⟨ab,λu _ _=>by have:=Bz (u:=[]) (v:=u);simpa using this⟩
 obtain⟨E,o⟩:=pP C hC;have key:∀w:List Int,(∀x∈w,0<=x/\x<n.inputs)->n.outs n.start w=z.outs z.start w/\Cs z n C (z.run z.start w) (n.run n.start w):=by
  refine Jt (λ_=>⟨rfl,nR hp (v:=[]) i ab ab⟩) λw a F m=>?_
  have d:∀x∈w,0<=x/\x<n.inputs:=λx j=>m x (by simp[j])
  have G:=m a ab
  obtain⟨H,s⟩:=F d;obtain⟨u,g,v,L,f,e⟩:=Zq hn hz hi hl vo hp w d;have I:=nR hp g aa f
  have p:∀x∈u++v,0<=x/\x<n.inputs:=λx j=>by
   rcases cp.1 j with h|h
   .exact D u g x h
   .exact f x h
  have y:=jD b (w:=w) b.start d;have A:=jD b (w:=u++v) b.start p;rw[e]at s;have B:=Ju vo y.1 y.2 A.1 A.2 s I;have l:∀x∈v ++ [a],0<=x/\x<n.inputs:=λx j=>by
   rcases cp.1 j with h|h
   .exact f x h
   .simp at h;subst h;exact G
  have q:=hp u g (v ++ [a]) ai l E o
  have r:=nR hp g (v:=v ++ [a]) ai l
  rw[<-List.append_assoc]at q r;rw[iV,iV (u:=u++v)]at r;rw[fO (u++v),eZ (u:=u++v),eZ (u:=u++v),eZ (u:=[a]),eZ (u:=[a])]at q;have J:=(BB jo q).2
  have K:=(BB jo J).1
  refine⟨?_,?_⟩
  .rw[eZ,eZ,H,B,K,e]
  .rw[iV,iV,e,B];exact r
 exact λw m=>(key w m).1
end
end Ab
