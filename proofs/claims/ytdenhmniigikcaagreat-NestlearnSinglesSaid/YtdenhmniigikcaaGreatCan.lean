/- Arguments that read as plain data are encodings of lists and numbers; and what it leans on. Condition: none. -/
import Derived.Test.YtdenhmniigikcaaGreatAbTop
import Derived.Test.YtdenhmniigikcaaGreatKey
set_option linter.all false
set_option maxRecDepth 100000
set_option maxHeartbeats 4000000
namespace Ab
open Go
variable{x:AV}
def kO(h:Ty.int.has x):∃n:Int,x = .int n/\kU n=true:=h
def zR(h:Ty.bool.has x):∃n:Bool,x = .bool n/\True:=by
 obtain⟨b,rfl⟩:=h;exact⟨b,rfl,trivial⟩
def mz{e:Ty}{d:Type}{f:d->AV}{p:d->Prop}(h:∀y,e.has y->∃a,y=f a/\p a)(i:(Ty.sl e).has x):∃l:List d,x = .aF false (l.map f)/\(l.length:Int)<=9223372036854775807/\∀a∈l,p a:=by
 obtain⟨l,rfl,j,g⟩:=i;have key:∀l:List AV,(∀y,y∈l->e.has y)->∃m:List d,l=m.map f/\∀a∈m,p a:=by
  intro l
  induction l with
  |nil=>exact λ_=>⟨[],rfl,ab⟩
  |cons y r n=>
   intro g;obtain⟨a,rfl,o⟩:=h y (g y ab)
   obtain⟨m,rfl,b⟩:=n λz q=>g z (by simp[q])
   exact⟨a::m,rfl,by simpa using⟨o,b⟩⟩
 obtain⟨m,rfl,b⟩:=key l g;refine⟨m,rfl,?_,b⟩;simp[maxLen]at j;omega
def XG (l:List Int):Prop:=(l.length:Int)<=9223372036854775807/\∀n∈l,kU n=true
def okB (l:List Bool):Prop:=(l.length:Int)<=9223372036854775807
def C6 (l:List (List Int)):Prop:=(l.length:Int)<=9223372036854775807/\∀m∈l,XG m
def SV (l:List (List (List Int))):Prop:=(l.length:Int)<=9223372036854775807/\∀m∈l,C6 m
def SX(h:(Ty.sl .int).has x):∃l:List Int,x=iL l/\XG l:=mz (λ_ h=>kO h) h
def SY(h:(Ty.sl .bool).has x):∃l:List Bool,x=bL l/\okB l:=by
 obtain⟨l,a,b,_⟩:=mz (λ_ h=>zR h) h;exact⟨l,a,b⟩
def r6(h:(Ty.sl (.sl .int)).has x):∃l:List (List Int),x=b8 l/\C6 l:=mz (λ_ h=>SX h) h
def C7(h:(Ty.sl (.sl (.sl .int))).has x):∃l:List (List (List Int)),x=fv l/\SV l:=mz (λ_ h=>r6 h) h
def al1{σ:List al}{b fr:Bool}{v:AV}(h:bP σ fr v=some (.bool b)):v = .bool b:=by
 have key:∀{x:AV} {k:Nat},view σ fr (k+1) x=some (.bool b)->x = .bool b:=by
  intro x k h;cases x<;>unfold view at h
  case bool=>simpa using h
  case sl=>
   dsimp only at h;split at h
   .simp at h
   .split at h
    .split at h<;>simp at h
    .simp at h
  case ptr=>
   dsimp only at h;split at h
   .simp at h
   .split at h
    .split at h
     .simp at h
     .split at h<;>simp at h
    .simp at h
  all_goals (try dsimp only at h)
  all_goals (try split at h)<;>simp at h
 cases v with
 |bM l=>simp only[bP]at h;split at h<;>simp at h
 |_=>exact key (k:=11) h
def J6{f:Nat}{args:List AV}(h:PC f args=some (.bool true)):∃a, L f args []=some (.bool true,a):=by
 unfold PC rW at h;cases b:L f args []with
 |none=>simp[b]at h
 |some p=>
  obtain⟨v,a⟩:=p;simp only[b]at h;exact⟨a, by rw[al1 h]⟩
end Ab
namespace Ab
structure kY where
 cA:Int
 start:Int
 next:List (List Int)
 out:List (List Int)
 deriving Inhabited
abbrev kY.av (m:kY):AV:=.agg [.int m.cA,.int m.start,b8 m.next,b8 m.out]
structure kY.fits (m:kY):Prop where
 cA:kU m.cA=true
 start:kU m.start=true
 next:C6 m.next
 out:C6 m.out
def kY.eO (m:kY) (s:Int):Int:=
 if ¬((ix m.next s).length:Int)=m.cA\/¬((ix m.out s).length:Int)=m.cA then 1
 else if bad (ix m.next s) m.next.length=true\/bad (ix m.out s) 1048577=true then 2 else 0
def kY.fH (m:kY):Int:=
 if m.cA<1 then 2
 else if 64<m.cA then 2
 else if m.next=[]then 19
 else if 128<(m.next.length:Int)then 11
 else if m.start<0 then 2
 else if(m.next.length:Int)<=m.start then 2
 else if ¬(m.out.length:Int)=m.next.length then 1
 else 0
def kY.bC (m:kY):Int:=if m.fH ≠ 0 then m.fH else fx m.eO m.next.length
structure kY.Ok (m:kY):Prop where
 cA:1<=m.cA/\m.cA<=64
 eU:1<=(m.next.length:Int)/\(m.next.length:Int)<=128
 start:0<=m.start/\m.start<m.next.length
 len:(m.out.length:Int)=m.next.length
 row:∀s,0<=s->s<(m.next.length:Int)->((ix m.next s).length:Int)=m.cA/\((ix m.out s).length:Int)=m.cA
 nx:∀s a,0<=s->s<(m.next.length:Int)->0<=a->a<m.cA->0<=ix (ix m.next s) a/\ix (ix m.next s) a<m.next.length
 ot:∀s a,0<=s->s<(m.next.length:Int)->0<=a->a<m.cA->0<=ix (ix m.out s) a/\ix (ix m.out s) a<=1048576
abbrev Pl:=Int×List Int
def tA (m:kY) (p:Pl) (q:List Pl) (a:Int):List Pl:=if q.any (λx=>x.1==ix (ix m.next p.1) a)then q else q ++ [(ix (ix m.next p.1) a,p.2 ++ [a])]
def al2 (m:kY) (p:Pl) (q:List Pl) (k:Int):List Pl:=(List.range k.toNat).foldl (λq a=>tA m p q (a:Nat)) q
def bfs (m:kY):Nat->Int->List Pl->List Pl
 |0,_,q=>q
 |f+1,i,q=>if i<q.length then bfs m f (i+1) (al2 m (ix q i) q m.cA)else q
def kY.J7 (m:kY) (s:Int):List Pl:=bfs m (m.next.length+1) 0 [(s,[])]
def tB:∀(n:Nat){l:List Int},l.Nodup->(∀x∈l,0<=x/\x<(n:Int))->l.length<=n
 |0,l,_,h=>by
  cases l with
  |nil=>simp
  |cons x r=>have:=h x ab;omega
 |n+1,l,g,h=>by
  have e:l.length=(l.filter λx=>decide (x<(n:Int))).length+(l.filter λx=>!decide (x<(n:Int))).length:=by
   clear g h
   induction l with
   |nil=>rfl
   |cons x r o=>by_cases b:x<(n:Int)<;>simp[b]<;>omega
  have p:=tB n (l:=l.filter λx=>decide (x<(n:Int))) (g.filter _) (λx b=>by
   simp only[List.mem_filter,eo]at b;exact⟨(h x b.1).1,b.2⟩)
  have i:(l.filter λx=>!decide (x<(n:Int))).length<=1:=by
   have d:=g.filter (λx=>!decide (x<(n:Int)));have a:∀x∈l.filter (λx=>!decide (x<(n:Int))),x=(n:Int):=λx b=>by
    have b:=List.mem_filter.1 b;have i:¬x<(n:Int):=by simpa using b.2
    have:=h x b.1;omega
   generalize l.filter (λx=>!decide (x<(n:Int)))=k at d a
   match k,d,a with
   | [],_,_=>simp
   | [_],_,_=>simp
   |x::y::r,d,a=>
    have b:=a x ab
    have j:=a y ab
    have m:=(nj.1 d).1;exact absurd (by rw[b,j];simp) m
  omega
structure Bq (m:kY) (s:Int) (q:List Pl):Prop where
 nd:(q.map (·.1)).Nodup
 eV:∀p∈q,0<=p.1/\p.1<(m.next.length:Int)
 pos:0<q.length
 head:ix q 0=(s,[])
 len:∀j,0<=j->j<(q.length:Int)->((ix q j).2.length:Int)<=j
 ne:∀j,0<j->j<(q.length:Int)->(ix q j).2 ≠ []
variable{m:kY}{s:Int}{q:List Pl}
def Bq.le(h:Bq m s q):q.length<=m.next.length:=by
 have:=tB m.next.length h.nd (λx hx=>by
  obtain⟨p,hp,rfl⟩:=cx.1 hx;exact h.eV p hp)
 simpa using this
def Bq.init(h:0<=s/\s<(m.next.length:Int)):Bq m s [(s,[])]:=by
 refine⟨ab,cq,ab,rfl,λj j0 j1=>?_,λj j0 j1=>?_⟩
 .simp at j1
  rw[show j=0 by omega];simp[ix]
 .simp at j1;omega
variable{α:Type}
def gS [Inhabited α]{l m:List α}{j:Int}(a:0<=j) (b:j<l.length):ix (l++m) j=ix l j:=by
 unfold ix;rw[gD,gD,eJ aa]
def tC [Inhabited α]{l:List α}{x:α}:ix (l ++ [x]) (l.length:Int)=x:=by
 unfold ix;rw[gD,lA,gA (bd _)];simp
def pG (q:List Pl) (t:Int):Bool:=q.any λx=>x.1==t
variable{t:Int}
def SZ:pG q t=true↔t∈q.map (·.1):=by
 simp[pG]
def Bq.add(h:Bq m s q){w:List Int}(ht:0<=t/\t<(m.next.length:Int)) (hn:pG q t=false) (hw:w ≠ []) (hl:w.length<=q.length):Bq m s (q ++ [(t,w)]):=by
 have hq:=h.pos;have l9 : t∉q.map (·.1):=λhm=>by rw[SZ.2 hm]at hn;simp at hn
 refine⟨?_,λp hp=>?_,ab,by rw[gS aa aa];exact h.head,λj j0 j1=>?_,λj j0 j1=>?_⟩
 .rw[jE,rO]
  refine⟨h.nd,ab,λa ha b hb=>?_⟩
  simp at hb;subst hb;exact λe=>l9 (e▸ha)
 .rcases cY.1 hp with hp|hp
  .exact h.eV p hp
  .simp at hp;subst hp;exact ht
 .by_cases hj:j<(q.length:Int)
  .rw[gS j0 hj];exact h.len j j0 hj
  .simp at j1
   rw[show j=(q.length:Int)by omega,tC]
   simp;omega
 .by_cases hj:j<(q.length:Int)
  .rw[gS aa hj];exact h.ne j j0 hj
  .simp at j1
   rw[show j=(q.length:Int)by omega,tC]
   exact hw
variable{p:Pl}{a:Int}
def S2(h:pG q (ix (ix m.next p.1) a)=true):tA m p q a=q:=ae h
def S3(h:pG q (ix (ix m.next p.1) a)=false):tA m p q a=q ++ [(ix (ix m.next p.1) a,p.2 ++ [a])]:=ad (by unfold pG at h;simp[h])
def Bq.step(hm:m.Ok)(h:Bq m s q)(hp:0<=p.1/\p.1<(m.next.length:Int)) (hl:p.2.length<q.length)(a0:0<=a) (a1:a<m.cA):Bq m s (tA m p q a):=by
 have ht:=hm.nx p.1 a hp.1 hp.2 a0 a1;cases hh:pG q (ix (ix m.next p.1) a)with
 |true=>rw[S2 hh];exact h
 |false=>rw[S3 hh];exact h.add ht hh ab ax
inductive Can:List Int->Nat->Prop where
 |nil:Can [] 0
 |old {c:List Int} {k:Nat} {v:Int}:Can c k->0<=v->v<(k:Int)->Can (c ++ [v]) k
 |new {c:List Int} {k:Nat}:Can c k->Can (c ++ [(k:Int)]) (k+1)
variable{c:List Int}{k:Nat}
def Can.eV(h:Can c k):∀v∈c,0<=v/\v<(k:Int):=by
 induction h with
 |nil=>simp
 |old h v0 v1 ih=>
  intro x hx;rcases cY.1 hx with hx|hx
  .exact ih x hx
  .simp at hx;omega
 |new h ih=>
  intro x hx;rcases cY.1 hx with hx|hx
  .have:=ih x hx;omega
  .simp at hx;omega
def Can.occ(h:Can c k):∀v,0<=v->v<(k:Int)->v∈c:=by
 induction h with
 |nil=>intro v h0 h1;omega
 |old h v0 v1 ih=>intro x h0 h1;exact List.mem_append_left _ (ih x h0 h1)
 | @new c k h ih=>
  intro x h0 h1
  by_cases e:x=(k:Int)
  .subst e;simp
  .exact List.mem_append_left _ (ih x h0 aa)
def Can.len(h:Can c k):k<=c.length:=by
 induction h with
 |nil=>simp
 |old h v0 v1 ih=>simp;omega
 |new h ih=>simp;omega
def Can.back(h:Can c k):∀{d:List Int}{v:Int},c=d ++ [v]->∃j,Can d j/\((0<=v/\v<(j:Int)/\k=j)\/(v=(j:Int)/\k=j+1)):=by
 intro d v e;cases h with
 |nil=>simp at e
 | @old c k v' h v0 v1=>
  obtain⟨rfl,e2⟩:=List.append_inj' e rfl;simp at e2;subst e2;exact⟨k,h,.inl ⟨v0,v1,rfl⟩⟩
 | @new c k h=>
  obtain⟨rfl,e2⟩:=List.append_inj' e rfl;simp at e2;exact⟨k,h,.inr ⟨e2.symm,rfl⟩⟩
def Can.first(h:Can c k):c ≠ []->ix c 0=0:=by
 induction h with
 |nil=>intro h;exact absurd rfl h
 | @old c k v h v0 v1 ih=>
  intro _
  by_cases e:c=[]
  .subst e;have:=h.len;simp at this;omega
  .rw[gS aa (by have:=mR.2 e;omega)];exact ih e
 | @new c k h ih=>
  intro _
  by_cases e:c=[]
  .subst e;have:=h.len;simp at this;subst this;rfl
  .rw[gS aa (by have:=mR.2 e;omega)];exact ih e
def Can.ref{c' : List Int}{k' : Nat}(h' : Can c' k'):∀{c:List Int}{k:Nat},Can c k->c.length=c'.length->(∀i j:Nat,i<c.length->j<c.length->ix c' i=ix c' j->ix c i=ix c j)->(c' = c/\k' = k)\/k<k' :=by
 induction h' with
 |nil=>
  intro c k h hl _;have:c=[]:=dY (by simpa using hl)
  subst this;have:=h.len;exact .inl ⟨rfl,by simp at this;omega⟩
 | @old d' k' v' h' v0 v1 ih=>
  intro c k h hl hr;have eP:c ≠ []:=by intro e;subst e;simp at hl
  obtain⟨d,v,rfl⟩:∃d v,c=d ++ [v]:=⟨c.dropLast,c.getLast eP,(List.dropLast_concat_getLast eP).symm⟩;have GQ:d.length=d'.length:=by simpa using hl
  obtain⟨kd,hd,hv⟩:=h.back rfl;have J8:∀i j:Nat,i<d.length->j<d.length->ix d' i=ix d' j->ix d i=ix d j:=λi j hi hj e=>by
   have:=hr i j ax ax
   rw[gS aa aa,gS aa aa,gS aa aa,gS aa aa]at this
   exact this e
  obtain⟨j,hj,ej⟩:=eL.1 (h'.occ v' v0 v1);have hjv:ix d j=v:=by
   have e1:ix (d' ++ [v']) (j:Int)=v' :=by rw[gS aa aa,aB hj,ej]
   have e2:ix (d' ++ [v']) (d.length:Int)=v' :=by rw[GQ,tC]
   have:=hr j d.length ax ab (e1.trans e2.symm)
   rw[gS aa aa,tC]at this
   exact this
  have XH:ix d (j:Int)∈d:=aJ aa aa
  have EJ:=hd.eV _ XH;rcases ih hd GQ J8 with⟨e1,e2⟩|cm
  .subst e1
   rw[aB hj,ej]at hjv;exact .inl ⟨by rw[hjv],aa⟩
  .right;omega
 | @new d' k' h' ih=>
  intro c k h hl hr;have eP:c ≠ []:=by intro e;subst e;simp at hl
  obtain⟨d,v,rfl⟩:∃d v,c=d ++ [v]:=⟨c.dropLast,c.getLast eP,(List.dropLast_concat_getLast eP).symm⟩;have GQ:d.length=d'.length:=by simpa using hl
  obtain⟨kd,hd,hv⟩:=h.back rfl;have J8:∀i j:Nat,i<d.length->j<d.length->ix d' i=ix d' j->ix d i=ix d j:=λi j hi hj e=>by
   have:=hr i j ax ax
   rw[gS aa aa,gS aa aa,gS aa aa,gS aa aa]at this
   exact this e
  rcases ih hd GQ J8 with⟨e1,e2⟩|cm
  .subst e1 e2
   rcases hv with⟨_,_,e⟩|⟨e,e'⟩
   .right;omega
   .exact .inl ⟨eD,aa⟩
  .right;omega
def Can.oN{j:Nat}(h:Can c k) (h' : Can c j):k=j:=by
 rcases h.ref h' rfl (λ_ _ _ _ e=>e)with⟨_,e⟩|h1
 .exact e
 rcases h'.ref h rfl (λ_ _ _ _ e=>e)with⟨_,e⟩|h2
 .exact e.symm
 .omega
end Ab
