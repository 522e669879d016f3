/- Arguments that read as plain data are encodings of lists and numbers; and what it leans on. Condition: none. -/
import Derived.Test.YtdenhmniigikcaaGreatAbTop
import Derived.Test.YtdenhmniigikcaaGreatKey
set_option linter.all false
set_option maxRecDepth 100000
set_option maxHeartbeats 4000000
open Option renaming some->aa
open Bool renaming true->ad,false->ae
open List renaming range->af,length->ah
open Int renaming toNat->aj
namespace Ab
open Go
variable{x:AV}
def lO(h:Ty.int.has x):∃n:Int,x = .int n/\lA n=ad:=h
def B5(h:Ty.bool.has x):∃n:Bool,x = .bool n/\True:=by
 obtain⟨b,rfl⟩:=h;exact⟨b,rfl,trivial⟩
def nR{e:Ty}{d:Type}{f:d->AV}{p:d->Prop}(h:∀y,e.has y->∃a,y=f a/\p a)(i:(Ty.sl e).has x):∃l:List d,x = .aX ae (l.map f)/\(ah l:Int)<=9223372036854775807/\∀a∈l,p a:=by
 obtain⟨l,rfl,j,g⟩:=i;have key:∀l:ao,(∀y,y∈l->e.has y)->∃m:List d,l=m.map f/\∀a∈m,p a:=by
  intro l
  induction l with
  |nil=>exact λ_=>⟨[],rfl,aA⟩
  |cons y r n=>
   intro g;obtain⟨a,rfl,o⟩:=h y (g y aA)
   obtain⟨m,rfl,b⟩:=n λz q=>g z (by simp[q])
   exact⟨a::m,rfl,by simpa using⟨o,b⟩⟩
 obtain⟨m,rfl,b⟩:=key l g;refine⟨m,rfl,?_,b⟩;simp[maxLen]at j;omega
def ZE (l:ak):Prop:=(ah l:Int)<=9223372036854775807/\∀n∈l,lA n=ad
def okB (l:List Bool):Prop:=(ah l:Int)<=9223372036854775807
def Fg (l:al):Prop:=(ah l:Int)<=9223372036854775807/\∀m∈l,ZE m
def Ur (l:List al):Prop:=(ah l:Int)<=9223372036854775807/\∀m∈l,Fg m
def GW(h:(Ty.sl .int).has x):∃l:ak,x=iL l/\ZE l:=nR (λ_ h=>lO h) h
def Us(h:(Ty.sl .bool).has x):∃l:List Bool,x=bL l/\okB l:=by
 obtain⟨l,a,b,_⟩:=nR (λ_ h=>B5 h) h;exact⟨l,a,b⟩
def tA(h:(Ty.sl (.sl .int)).has x):∃l:al,x=bU l/\Fg l:=nR (λ_ h=>GW h) h
def Fh(h:(Ty.sl (.sl (.sl .int))).has x):∃l:List al,x=dw l/\Ur l:=nR (λ_ h=>tA h) h
def amU{σ:aq}{b fr:Bool}{v:AV}(h:cK σ fr v=aa (.bool b)):v = .bool b:=by
 have key:∀{x:AV} {k:Nat},view σ fr (k+1) x=aa (.bool b)->x = .bool b:=by
  intro x k h;cases x<;>unfold view at h
  case bool=>simpa using h
  case sl=>
   dsimp only at h;split at h
   .simp at h
   .split at h
    .split at h<;>simp at h
    .simp at h
  case ptr=>
   dsimp only at h;split at h
   .simp at h
   .split at h
    .split at h
     .simp at h
     .split at h<;>simp at h
    .simp at h
  all_goals (try dsimp only at h)
  all_goals (try split at h)<;>simp at h
 cases v with
 |bY l=>simp only[cK]at h;split at h<;>simp at h
 |_=>exact key (k:=11) h
def LG{f:Nat}{args:ao}(h:PC f args=aa (.bool ad)):∃a, L f args []=aa (.bool ad,a):=by
 unfold PC Aj at h;cases b:L f args []with
 |none=>simp[b]at h
 |some p=>
  obtain⟨v,a⟩:=p;simp only[b]at h;exact⟨a, by rw[amU h]⟩
end Ab
namespace Ab
structure l5 where
 cW:Int
 aF:Int
 next:al
 out:al
 deriving Inhabited
abbrev l5.av (m:l5):AV:=.agg [.int m.cW,.int m.aF,bU m.next,bU m.out]
structure l5.fits (m:l5):Prop where
 cW:lA m.cW=ad
 aF:lA m.aF=ad
 next:Fg m.next
 out:Fg m.out
def l5.fC (m:l5) (s:Int):Int:=
 if ¬(ah (ix m.next s):Int)=m.cW\/¬(ah (ix m.out s):Int)=m.cW then 1
 else if bad (ix m.next s) (ah m.next)=ad\/bad (ix m.out s) 1048577=ad then 2 else 0
def l5.gg (m:l5):Int:=
 if m.cW<1 then 2
 else if 64<m.cW then 2
 else if m.next=[]then 19
 else if 128<(ah m.next:Int)then 11
 else if m.aF<0 then 2
 else if(ah m.next:Int)<=m.aF then 2
 else if ¬(ah m.out:Int)=ah m.next then 1
 else 0
def l5.bI (m:l5):Int:=if m.gg ≠ 0 then m.gg else fZ m.fC (ah m.next)
structure l5.Ok (m:l5):Prop where
 cW:1<=m.cW/\m.cW<=64
 eC:1<=(ah m.next:Int)/\(ah m.next:Int)<=128
 aF:0<=m.aF/\m.aF<ah m.next
 len:(ah m.out:Int)=ah m.next
 row:∀s,0<=s->s<(ah m.next:Int)->(ah (ix m.next s):Int)=m.cW/\(ah (ix m.out s):Int)=m.cW
 nx:∀s a,0<=s->s<(ah m.next:Int)->0<=a->a<m.cW->0<=ix (ix m.next s) a/\ix (ix m.next s) a<ah m.next
 ot:∀s a,0<=s->s<(ah m.next:Int)->0<=a->a<m.cW->0<=ix (ix m.out s) a/\ix (ix m.out s) a<=1048576
abbrev Pl:=Int×ak
def u5 (m:l5) (p:Pl) (q:List Pl) (a:Int):List Pl:=if q.any (λx=>x.1==ix (ix m.next p.1) a)then q else q ++ [(ix (ix m.next p.1) a,p.2 ++ [a])]
def amV (m:l5) (p:Pl) (q:List Pl) (k:Int):List Pl:=(af (aj k)).foldl (λq a=>u5 m p q (a:Nat)) q
def bfs (m:l5):Nat->Int->List Pl->List Pl
 |0,_,q=>q
 |f+1,i,q=>if i<ah q then bfs m f (i+1) (amV m (ix q i) q m.cW)else q
def l5.LH (m:l5) (s:Int):List Pl:=bfs m (ah m.next+1) 0 [(s,[])]
def tB:∀(n:Nat){l:ak},l.Nodup->(∀x∈l,0<=x/\x<(n:Int))->ah l<=n
 |0,l,_,h=>by
  cases l with
  |nil=>simp
  |cons x r=>have:=h x aA;omega
 |n+1,l,g,h=>by
  have e:ah l=ah (l.filter λx=>decide (x<(n:Int)))+ah (l.filter λx=>!decide (x<(n:Int))):=by
   clear g h
   induction l with
   |nil=>rfl
   |cons x r o=>by_cases b:x<(n:Int)<;>simp[b]<;>omega
  have p:=tB n (l:=l.filter λx=>decide (x<(n:Int))) (g.filter _) (λx b=>by
   simp only[List.mem_filter,fy]at b;exact⟨(h x b.1).1,b.2⟩)
  have i:ah (l.filter λx=>!decide (x<(n:Int)))<=1:=by
   have d:=g.filter (λx=>!decide (x<(n:Int)));have a:∀x∈l.filter (λx=>!decide (x<(n:Int))),x=(n:Int):=λx b=>by
    have b:=List.mem_filter.1 b;have i:¬x<(n:Int):=by simpa using b.2
    have:=h x b.1;omega
   generalize l.filter (λx=>!decide (x<(n:Int)))=k at d a
   match k,d,a with
   | [],_,_=>simp
   | [_],_,_=>simp
   |x::y::r,d,a=>
    have b:=a x aA
    have j:=a y aA
    have m:=(nw.1 d).1;exact absurd (by rw[b,j];simp) m
  omega
structure Bq (m:l5) (s:Int) (q:List Pl):Prop where
 nd:(q.map (·.1)).Nodup
 gi:∀p∈q,0<=p.1/\p.1<(ah m.next:Int)
 pos:0<ah q
 head:ix q 0=(s,[])
 len:∀j,0<=j->j<(ah q:Int)->(ah (ix q j).2:Int)<=j
 ne:∀j,0<j->j<(ah q:Int)->(ix q j).2 ≠ []
variable{m:l5}{s:Int}{q:List Pl}
def Bq.le(h:Bq m s q):ah q<=ah m.next:=by
 have:=tB (ah m.next) h.nd (λx hx=>by
  obtain⟨p,hp,rfl⟩:=cJ.1 hx;exact h.gi p hp)
 simpa using this
def Bq.init(h:0<=s/\s<(ah m.next:Int)):Bq m s [(s,[])]:=by
 refine⟨aA,du,aA,rfl,λj j0 j1=>?_,λj j0 j1=>?_⟩
 .simp at j1
  rw[show j=0 by omega];simp[ix]
 .simp at j1;omega
variable{α:Type}
def iM [Inhabited α]{l m:List α}{j:Int}(a:0<=j) (b:j<ah l):ix (l++m) j=ix l j:=by
 unfold ix;rw[fI,fI,dq ax]
def u6 [Inhabited α]{l:List α}{x:α}:ix (l ++ [x]) (ah l:Int)=x:=by
 unfold ix;rw[fI,jT,dW (bG _)];simp
def qQ (q:List Pl) (t:Int):Bool:=q.any λx=>x.1==t
variable{t:Int}
def Ut:qQ q t=ad↔t∈q.map (·.1):=by
 simp[qQ]
def Bq.add(h:Bq m s q){w:ak}(ht:0<=t/\t<(ah m.next:Int)) (hn:qQ q t=ae) (hw:w ≠ []) (hl:ah w<=ah q):Bq m s (q ++ [(t,w)]):=by
 have hq:=h.pos;have mz : t∉q.map (·.1):=λhm=>by rw[Ut.2 hm]at hn;simp at hn
 refine⟨?_,λp hp=>?_,aA,by rw[iM ax ax];exact h.head,λj j0 j1=>?_,λj j0 j1=>?_⟩
 .rw[kk,uy]
  refine⟨h.nd,aA,λa ha b hb=>?_⟩
  simp at hb;subst hb;exact λe=>mz (e▸ha)
 .rcases dI.1 hp with hp|hp
  .exact h.gi p hp
  .simp at hp;subst hp;exact ht
 .by_cases hj:j<(ah q:Int)
  .rw[iM j0 hj];exact h.len j j0 hj
  .simp at j1
   rw[show j=(ah q:Int)by omega,u6]
   simp;omega
 .by_cases hj:j<(ah q:Int)
  .rw[iM ax hj];exact h.ne j j0 hj
  .simp at j1
   rw[show j=(ah q:Int)by omega,u6]
   exact hw
variable{p:Pl}{a:Int}
def Uu(h:qQ q (ix (ix m.next p.1) a)=ad):u5 m p q a=q:=aD h
def Uv(h:qQ q (ix (ix m.next p.1) a)=ae):u5 m p q a=q ++ [(ix (ix m.next p.1) a,p.2 ++ [a])]:=aC (by unfold qQ at h;simp[h])
def Bq.step(hm:m.Ok)(h:Bq m s q)(hp:0<=p.1/\p.1<(ah m.next:Int)) (hl:ah p.2<ah q)(a0:0<=a) (a1:a<m.cW):Bq m s (u5 m p q a):=by
 have ht:=hm.nx p.1 a hp.1 hp.2 a0 a1;cases hh:qQ q (ix (ix m.next p.1) a)with
 |true=>rw[Uu hh];exact h
 |false=>rw[Uv hh];exact h.add ht hh aA aT
inductive Can:ak->Nat->Prop where
 |nil:Can [] 0
 |old {c:ak} {k:Nat} {v:Int}:Can c k->0<=v->v<(k:Int)->Can (c ++ [v]) k
 |new {c:ak} {k:Nat}:Can c k->Can (c ++ [(k:Int)]) (k+1)
variable{c:ak}{k:Nat}
def Can.gi(h:Can c k):∀v∈c,0<=v/\v<(k:Int):=by
 induction h with
 |nil=>simp
 |old h v0 v1 ih=>
  intro x hx;rcases dI.1 hx with hx|hx
  .exact ih x hx
  .simp at hx;omega
 |new h ih=>
  intro x hx;rcases dI.1 hx with hx|hx
  .have:=ih x hx;omega
  .simp at hx;omega
def Can.occ(h:Can c k):∀v,0<=v->v<(k:Int)->v∈c:=by
 induction h with
 |nil=>intro v h0 h1;omega
 |old h v0 v1 ih=>intro x h0 h1;exact List.mem_append_left _ (ih x h0 h1)
 | @new c k h ih=>
  intro x h0 h1
  by_cases e:x=(k:Int)
  .subst e;simp
  .exact List.mem_append_left _ (ih x h0 ax)
def Can.len(h:Can c k):k<=ah c:=by
 induction h with
 |nil=>simp
 |old h v0 v1 ih=>simp;omega
 |new h ih=>simp;omega
def Can.back(h:Can c k):∀{d:ak}{v:Int},c=d ++ [v]->∃j,Can d j/\((0<=v/\v<(j:Int)/\k=j)\/(v=(j:Int)/\k=j+1)):=by
 intro d v e;cases h with
 |nil=>simp at e
 | @old c k v' h v0 v1=>
  obtain⟨rfl,e2⟩:=List.append_inj' e rfl;simp at e2;subst e2;exact⟨k,h,.inl ⟨v0,v1,rfl⟩⟩
 | @new c k h=>
  obtain⟨rfl,e2⟩:=List.append_inj' e rfl;simp at e2;exact⟨k,h,.inr ⟨e2.symm,rfl⟩⟩
def Can.first(h:Can c k):c ≠ []->ix c 0=0:=by
 induction h with
 |nil=>intro h;exact absurd rfl h
 | @old c k v h v0 v1 ih=>
  intro _
  by_cases e:c=[]
  .subst e;have:=h.len;simp at this;omega
  .rw[iM ax (by have:=nc.2 e;omega)];exact ih e
 | @new c k h ih=>
  intro _
  by_cases e:c=[]
  .subst e;have:=h.len;simp at this;subst this;rfl
  .rw[iM ax (by have:=nc.2 e;omega)];exact ih e
def Can.ref{c' : ak}{k' : Nat}(h' : Can c' k'):∀{c:ak}{k:Nat},Can c k->ah c=ah c'->(∀i j:Nat,i<ah c->j<ah c->ix c' i=ix c' j->ix c i=ix c j)->(c' = c/\k' = k)\/k<k' :=by
 induction h' with
 |nil=>
  intro c k h hl _;have:c=[]:=eK (by simpa using hl)
  subst this;have:=h.len;exact .inl ⟨rfl,by simp at this;omega⟩
 | @old d' k' v' h' v0 v1 ih=>
  intro c k h hl hr;have fg:c ≠ []:=by intro e;subst e;simp at hl
  obtain⟨d,v,rfl⟩:∃d v,c=d ++ [v]:=⟨c.dropLast,c.getLast fg,(List.dropLast_concat_getLast fg).symm⟩;have IS:ah d=ah d':=by simpa using hl
  obtain⟨kd,hd,hv⟩:=h.back rfl;have LJ:∀i j:Nat,i<ah d->j<ah d->ix d' i=ix d' j->ix d i=ix d j:=λi j hi hj e=>by
   have:=hr i j aT aT
   rw[iM ax ax,iM ax ax,iM ax ax,iM ax ax]at this
   exact this e
  obtain⟨j,hj,ej⟩:=fY.1 (h'.occ v' v0 v1);have hjv:ix d j=v:=by
   have e1:ix (d' ++ [v']) (j:Int)=v' :=by rw[iM ax ax,bt hj,ej]
   have e2:ix (d' ++ [v']) (ah d:Int)=v' :=by rw[IS,u6]
   have:=hr j (ah d) aT aA (e1.trans e2.symm)
   rw[iM ax ax,u6]at this
   exact this
  have hjm:ix d (j:Int)∈d:=bh ax ax
  have GP:=hd.gi _ hjm;rcases ih hd IS LJ with⟨e1,e2⟩|cw
  .subst e1
   rw[bt hj,ej]at hjv;exact .inl ⟨by rw[hjv],ax⟩
  .right;omega
 | @new d' k' h' ih=>
  intro c k h hl hr;have fg:c ≠ []:=by intro e;subst e;simp at hl
  obtain⟨d,v,rfl⟩:∃d v,c=d ++ [v]:=⟨c.dropLast,c.getLast fg,(List.dropLast_concat_getLast fg).symm⟩;have IS:ah d=ah d':=by simpa using hl
  obtain⟨kd,hd,hv⟩:=h.back rfl;have LJ:∀i j:Nat,i<ah d->j<ah d->ix d' i=ix d' j->ix d i=ix d j:=λi j hi hj e=>by
   have:=hr i j aT aT
   rw[iM ax ax,iM ax ax,iM ax ax,iM ax ax]at this
   exact this e
  rcases ih hd IS LJ with⟨e1,e2⟩|cw
  .subst e1 e2
   rcases hv with⟨_,_,e⟩|⟨e,e'⟩
   .right;omega
   .exact .inl ⟨fk,ax⟩
  .right;omega
def Can.rq{j:Nat}(h:Can c k) (h' : Can c j):k=j:=by
 rcases h.ref h' rfl (λ_ _ _ _ e=>e)with⟨_,e⟩|h1
 .exact e
 rcases h'.ref h rfl (λ_ _ _ _ e=>e)with⟨_,e⟩|h2
 .exact e.symm
 .omega
end Ab
