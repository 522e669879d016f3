/- Arguments that read as plain data are encodings of lists and numbers; and what it leans on. Condition: none. -/
import Derived.Test.YtdenhmniigikcaaGreatAbTop
import Derived.Test.YtdenhmniigikcaaGreatKey
set_option linter.all false
set_option maxRecDepth 100000
set_option maxHeartbeats 4000000
namespace Ab
open Go
theorem kA{x:AV}(h:Ty.int.has x):∃n:Int,x = .int n/\kZ n=true:=h
theorem zB{x:AV}(h:Ty.bool.has x):∃n:Bool,x = .bool n/\True:=by
 obtain⟨b,rfl⟩:=h;exact⟨b,rfl,trivial⟩
theorem l8{e:Ty}{α:Type}{f:α->AV}{p:α->Prop}(h:∀y,e.has y->∃a,y=f a/\p a){x:AV}(hx:(Ty.sl e).has x):∃l:List α,x = .aE false (l.map f)/\(l.length:Int)<=9223372036854775807/\∀a∈l,p a:=by
 obtain⟨l,rfl,hl,hm⟩:=hx;have key:∀l:List AV,(∀y,y∈l->e.has y)->∃m:List α,l=m.map f/\∀a∈m,p a:=by
  intro l
  induction l with
  |nil=>exact λ_=>⟨[],rfl,by simp⟩
  |cons y r ih=>
   intro hm;obtain⟨a,rfl,ha⟩:=h y (hm y (by simp))
   obtain⟨m,rfl,nE⟩:=ih λz hz=>hm z (by simp[hz])
   exact⟨a::m,rfl,by simpa using⟨ha,nE⟩⟩
 obtain⟨m,rfl,nE⟩:=key l hm;refine⟨m,rfl,?_,nE⟩;simp[maxLen]at hl;omega
def Wu (l:List Int):Prop:=(l.length:Int)<=9223372036854775807/\∀n∈l,kZ n=true
def okB (l:List Bool):Prop:=(l.length:Int)<=9223372036854775807
def Ew (l:List (List Int)):Prop:=(l.length:Int)<=9223372036854775807/\∀m∈l,Wu m
def Sf (l:List (List (List Int))):Prop:=(l.length:Int)<=9223372036854775807/\∀m∈l,Ew m
theorem Sg{x:AV}(h:(Ty.sl .int).has x):∃l:List Int,x=iL l/\Wu l:=l8 (λ_ h=>kA h) h
theorem Sh{x:AV}(h:(Ty.sl .bool).has x):∃l:List Bool,x=bL l/\okB l:=by
 obtain⟨l,h1,h2,_⟩:=l8 (λ_ h=>zB h) h;exact⟨l,h1,h2⟩
theorem rJ{x:AV}(h:(Ty.sl (.sl .int)).has x):∃l:List (List Int),x=cK l/\Ew l:=l8 (λ_ h=>Sg h) h
theorem Ey{x:AV}(h:(Ty.sl (.sl (.sl .int))).has x):∃l:List (List (List Int)),x=fU l/\Sf l:=l8 (λ_ h=>rJ h) h
theorem akP{σ:List ag}{b fr:Bool}{v:AV}(h:cv σ fr v=some (.bool b)):v = .bool b:=by
 have key:∀{x:AV} {k:Nat},view σ fr (k+1) x=some (.bool b)->x = .bool b:=by
  intro x k h;cases x<;>unfold view at h
  case bool=>simpa using h
  case sl=>
   dsimp only at h;split at h
   ·simp at h
   ·split at h
    ·split at h<;>simp at h
    ·simp at h
  case ptr=>
   dsimp only at h;split at h
   ·simp at h
   ·split at h
    ·split at h
     ·simp at h
     ·split at h<;>simp at h
    ·simp at h
  all_goals (try dsimp only at h)
  all_goals (try split at h)<;>simp at h
 cases v with
 |bQ l=>simp only[cv]at h;split at h<;>simp at h
 |_=>exact key (k:=11) h
theorem Jd{f:Nat}{args:List AV}(h:PC f args=some (.bool true)):∃bp, L f args []=some (.bool true,bp):=by
 unfold PC xD at h;cases hl:L f args []with
 |none=>simp[hl]at h
 |some p=>
  obtain⟨v,bp⟩:=p;simp only[hl]at h;exact⟨bp, by rw[akP h]⟩
end Ab
namespace Ab
structure jC where
 cz:Int
 start:Int
 next:List (List Int)
 out:List (List Int)
 deriving Inhabited
abbrev jC.av (m:jC):AV:=.agg [.int m.cz,.int m.start,cK m.next,cK m.out]
structure jC.fits (m:jC):Prop where
 cz:kZ m.cz=true
 start:kZ m.start=true
 next:Ew m.next
 out:Ew m.out
def jC.iJ (m:jC) (s:Int):Int:=
 if ¬((ix m.next s).length:Int)=m.cz\/¬((ix m.out s).length:Int)=m.cz then 1
 else if bad (ix m.next s) m.next.length=true\/bad (ix m.out s) 1048577=true then 2 else 0
def jC.gZ (m:jC):Int:=
 if m.cz<1 then 2
 else if 64<m.cz then 2
 else if m.next=[]then 19
 else if 128<(m.next.length:Int)then 11
 else if m.start<0 then 2
 else if(m.next.length:Int)<=m.start then 2
 else if ¬(m.out.length:Int)=m.next.length then 1
 else 0
def jC.bO (m:jC):Int:=if m.gZ ≠ 0 then m.gZ else gq m.iJ m.next.length
structure jC.Ok (m:jC):Prop where
 cz:1<=m.cz/\m.cz<=64
 gr:1<=(m.next.length:Int)/\(m.next.length:Int)<=128
 start:0<=m.start/\m.start<m.next.length
 len:(m.out.length:Int)=m.next.length
 row:∀s,0<=s->s<(m.next.length:Int)->((ix m.next s).length:Int)=m.cz/\((ix m.out s).length:Int)=m.cz
 nx:∀s a,0<=s->s<(m.next.length:Int)->0<=a->a<m.cz->0<=ix (ix m.next s) a/\ix (ix m.next s) a<m.next.length
 ot:∀s a,0<=s->s<(m.next.length:Int)->0<=a->a<m.cz->0<=ix (ix m.out s) a/\ix (ix m.out s) a<=1048576
abbrev Pl:=Int×List Int
def tp (m:jC) (p:Pl) (q:List Pl) (a:Int):List Pl:=if q.any (λx=>x.1==ix (ix m.next p.1) a)then q else q ++ [(ix (ix m.next p.1) a,p.2 ++ [a])]
def akQ (m:jC) (p:Pl) (q:List Pl) (k:Int):List Pl:=(List.range k.toNat).foldl (λq a=>tp m p q (a:Nat)) q
def bfs (m:jC):Nat->Int->List Pl->List Pl
 |0,_,q=>q
 |f+1,i,q=>if i<q.length then bfs m f (i+1) (akQ m (ix q i) q m.cz)else q
def jC.Je (m:jC) (s:Int):List Pl:=bfs m (m.next.length+1) 0 [(s,[])]
theorem tq:∀(n:Nat){l:List Int},l.Nodup->(∀x∈l,0<=x/\x<(n:Int))->l.length<=n
 |0,l,_,h=>by
  cases l with
  |nil=>simp
  |cons x r=>have:=h x (by simp);omega
 |n+1,l,hn,h=>by
  have e:l.length=(l.filter λx=>decide (x<(n:Int))).length+(l.filter λx=>!decide (x<(n:Int))).length:=by
   clear hn h
   induction l with
   |nil=>rfl
   |cons x r ih=>by_cases hx:x<(n:Int)<;>simp[hx]<;>omega
  have h1:=tq n (l:=l.filter λx=>decide (x<(n:Int))) (hn.filter _) (λx hx=>by
   simp only[List.mem_filter,eP]at hx;exact⟨(h x hx.1).1,hx.2⟩)
  have h2:(l.filter λx=>!decide (x<(n:Int))).length<=1:=by
   have jh:=hn.filter (λx=>!decide (x<(n:Int)));have fH:∀x∈l.filter (λx=>!decide (x<(n:Int))),x=(n:Int):=λx hx=>by
    have hx:=List.mem_filter.1 hx;have h2:¬x<(n:Int):=by simpa using hx.2
    have:=h x hx.1;omega
   generalize l.filter (λx=>!decide (x<(n:Int)))=k at jh fH
   match k,jh,fH with
   | [],_,_=>simp
   | [_],_,_=>simp
   |x::y::r,jh,fH=>
    have hx:=fH x (by simp)
    have hy:=fH y (by simp)
    have hm:=(mD.1 jh).1;exact absurd (by rw[hx,hy];simp) hm
  omega
structure Bq (m:jC) (s:Int) (q:List Pl):Prop where
 nd:(q.map (·.1)).Nodup
 fu:∀p∈q,0<=p.1/\p.1<(m.next.length:Int)
 pos:0<q.length
 head:ix q 0=(s,[])
 len:∀j,0<=j->j<(q.length:Int)->((ix q j).2.length:Int)<=j
 ne:∀j,0<j->j<(q.length:Int)->(ix q j).2 ≠ []
theorem Bq.le{m:jC}{s:Int}{q:List Pl}(h:Bq m s q):q.length<=m.next.length:=by
 have:=tq m.next.length h.nd (λx hx=>by
  obtain⟨p,hp,rfl⟩:=cR.1 hx;exact h.fu p hp)
 simpa using this
theorem gJ{α:Type} [Inhabited α]{l m:List α}{j:Int}(h0:0<=j) (h1:j<l.length):ix (l++m) j=ix l j:=by
 unfold ix;rw[gG,gG,ft (by omega)]
theorem tt{α:Type} [Inhabited α]{l:List α}{x:α}:ix (l ++ [x]) (l.length:Int)=x:=by
 unfold ix;rw[gG,kE,gm (bw _)];simp
def pj (q:List Pl) (t:Int):Bool:=q.any λx=>x.1==t
theorem Si{q:List Pl}{t:Int}:pj q t=true↔t∈q.map (·.1):=by
 simp[pj]
theorem Bq.add{m:jC}{s:Int}{q:List Pl}(h:Bq m s q){t:Int}{w:List Int}(ht:0<=t/\t<(m.next.length:Int)) (hn:pj q t=false) (hw:w ≠ []) (hl:w.length<=q.length):Bq m s (q ++ [(t,w)]):=by
 have hq:=h.pos;have lr : t∉q.map (·.1):=λhm=>by rw[Si.2 hm]at hn;simp at hn
 refine⟨?_,λp hp=>?_,by simp,by rw[gJ (by omega) (by omega)];exact h.head,λj j0 j1=>?_,λj j0 j1=>?_⟩
 ·rw[kY,sK]
  refine⟨h.nd,by simp,λa ha b hb=>?_⟩
  simp at hb;subst hb;exact λe=>lr (e▸ha)
 ·rcases eI.1 hp with hp|hp
  ·exact h.fu p hp
  ·simp at hp;subst hp;exact ht
 ·by_cases hj:j<(q.length:Int)
  ·rw[gJ j0 hj];exact h.len j j0 hj
  ·simp at j1
   rw[show j=(q.length:Int)by omega,tt]
   simp;omega
 ·by_cases hj:j<(q.length:Int)
  ·rw[gJ (by omega) hj];exact h.ne j j0 hj
  ·simp at j1
   rw[show j=(q.length:Int)by omega,tt]
   exact hw
theorem Sj{m:jC}{p:Pl}{q:List Pl}{a:Int}(h:pj q (ix (ix m.next p.1) a)=true):tp m p q a=q:=ab h
theorem Sl{m:jC}{p:Pl}{q:List Pl}{a:Int}(h:pj q (ix (ix m.next p.1) a)=false):tp m p q a=q ++ [(ix (ix m.next p.1) a,p.2 ++ [a])]:=aa (by unfold pj at h;simp[h])
theorem Bq.step{m:jC}(hm:m.Ok){s:Int}{q:List Pl}(h:Bq m s q){p:Pl}(hp:0<=p.1/\p.1<(m.next.length:Int)) (hl:p.2.length<q.length){a:Int}(a0:0<=a) (a1:a<m.cz):Bq m s (tp m p q a):=by
 have ht:=hm.nx p.1 a hp.1 hp.2 a0 a1;cases hh:pj q (ix (ix m.next p.1) a)with
 |true=>rw[Sj hh];exact h
 |false=>rw[Sl hh];exact h.add ht hh (by simp) (by simp;omega)
inductive Can:List Int->Nat->Prop where
 |nil:Can [] 0
 |old {c:List Int} {k:Nat} {v:Int}:Can c k->0<=v->v<(k:Int)->Can (c ++ [v]) k
 |new {c:List Int} {k:Nat}:Can c k->Can (c ++ [(k:Int)]) (k+1)
theorem Can.fu{c:List Int}{k:Nat}(h:Can c k):∀v∈c,0<=v/\v<(k:Int):=by
 induction h with
 |nil=>simp
 |old h v0 v1 ih=>
  intro x hx;rcases eI.1 hx with hx|hx
  ·exact ih x hx
  ·simp at hx;omega
 |new h ih=>
  intro x hx;rcases eI.1 hx with hx|hx
  ·have:=ih x hx;omega
  ·simp at hx;omega
theorem Can.occ{c:List Int}{k:Nat}(h:Can c k):∀v,0<=v->v<(k:Int)->v∈c:=by
 induction h with
 |nil=>intro v h0 h1;omega
 |old h v0 v1 ih=>intro x h0 h1;exact List.mem_append_left _ (ih x h0 h1)
 | @new c k h ih=>
  intro x h0 h1
  by_cases e:x=(k:Int)
  ·subst e;simp
  ·exact List.mem_append_left _ (ih x h0 (by omega))
theorem Can.len{c:List Int}{k:Nat}(h:Can c k):k<=c.length:=by
 induction h with
 |nil=>simp
 |old h v0 v1 ih=>simp;omega
 |new h ih=>simp;omega
theorem Can.back{c:List Int}{k:Nat}(h:Can c k):∀{d:List Int}{v:Int},c=d ++ [v]->∃j,Can d j/\((0<=v/\v<(j:Int)/\k=j)\/(v=(j:Int)/\k=j+1)):=by
 intro d v e;cases h with
 |nil=>simp at e
 | @old c k v' h v0 v1=>
  obtain⟨rfl,e2⟩:=List.append_inj' e rfl;simp at e2;subst e2;exact⟨k,h,.inl ⟨v0,v1,rfl⟩⟩
 | @new c k h=>
  obtain⟨rfl,e2⟩:=List.append_inj' e rfl;simp at e2;exact⟨k,h,.inr ⟨e2.symm,rfl⟩⟩
theorem Can.first{c:List Int}{k:Nat}(h:Can c k):c ≠ []->ix c 0=0:=by
 induction h with
 |nil=>intro h;exact absurd rfl h
 | @old c k v h v0 v1 ih=>
  intro _
  by_cases e:c=[]
  ·subst e;have:=h.len;simp at this;omega
  ·rw[gJ (by omega) (by have:=mz.2 e;omega)];exact ih e
 | @new c k h ih=>
  intro _
  by_cases e:c=[]
  ·subst e;have:=h.len;simp at this;subst this;rfl
  ·rw[gJ (by omega) (by have:=mz.2 e;omega)];exact ih e
theorem Can.ref{c' : List Int}{k' : Nat}(h' : Can c' k'):∀{c:List Int}{k:Nat},Can c k->c.length=c'.length->(∀i j:Nat,i<c.length->j<c.length->ix c' i=ix c' j->ix c i=ix c j)->(c' = c/\k' = k)\/k<k' :=by
 induction h' with
 |nil=>
  intro c k h hl _;have:c=[]:=dW (by simpa using hl)
  subst this;have:=h.len;exact .inl ⟨rfl,by simp at this;omega⟩
 | @old d' k' v' h' v0 v1 ih=>
  intro c k h hl hr;have bY:c ≠ []:=by intro e;subst e;simp at hl
  obtain⟨d,v,rfl⟩:∃d v,c=d ++ [v]:=⟨c.dropLast,c.getLast bY,(List.dropLast_concat_getLast bY).symm⟩;have Ic:d.length=d'.length:=by simpa using hl
  obtain⟨kd,hd,hv⟩:=h.back rfl;have wQ:∀i j:Nat,i<d.length->j<d.length->ix d' i=ix d' j->ix d i=ix d j:=λi j hi hj e=>by
   have:=hr i j (by simp;omega) (by simp;omega)
   rw[gJ (by omega) (by omega),gJ (by omega) (by omega),gJ (by omega) (by omega),gJ (by omega) (by omega)]at this
   exact this e
  obtain⟨j,hj,ej⟩:=fJ.1 (h'.occ v' v0 v1);have hjv:ix d j=v:=by
   have e1:ix (d' ++ [v']) (j:Int)=v' :=by rw[gJ (by omega) (by omega),aS hj,ej]
   have e2:ix (d' ++ [v']) (d.length:Int)=v' :=by rw[Ic,tt]
   have:=hr j d.length (by simp;omega) (by simp) (e1.trans e2.symm)
   rw[gJ (by omega) (by omega),tt]at this
   exact this
  have hjm:ix d (j:Int)∈d:=aZ (by omega) (by omega)
  have tV:=hd.fu _ hjm;rcases ih hd Ic wQ with⟨e1,e2⟩|aK
  ·subst e1
   rw[aS hj,ej]at hjv;exact .inl ⟨by rw[hjv],by omega⟩
  ·right;omega
 | @new d' k' h' ih=>
  intro c k h hl hr;have bY:c ≠ []:=by intro e;subst e;simp at hl
  obtain⟨d,v,rfl⟩:∃d v,c=d ++ [v]:=⟨c.dropLast,c.getLast bY,(List.dropLast_concat_getLast bY).symm⟩;have Ic:d.length=d'.length:=by simpa using hl
  obtain⟨kd,hd,hv⟩:=h.back rfl;have wQ:∀i j:Nat,i<d.length->j<d.length->ix d' i=ix d' j->ix d i=ix d j:=λi j hi hj e=>by
   have:=hr i j (by simp;omega) (by simp;omega)
   rw[gJ (by omega) (by omega),gJ (by omega) (by omega),gJ (by omega) (by omega),gJ (by omega) (by omega)]at this
   exact this e
  rcases ih hd Ic wQ with⟨e1,e2⟩|aK
  ·subst e1 e2
   rcases hv with⟨_,_,e⟩|⟨e,e'⟩
   ·right;omega
   ·exact .inl ⟨by rw[e],by omega⟩
  ·right;omega
theorem Can.qK{c:List Int}{k j:Nat}(h:Can c k) (h' : Can c j):k=j:=by
 rcases h.ref h' rfl (λ_ _ _ _ e=>e)with⟨_,e⟩|h1
 ·exact e
 rcases h'.ref h rfl (λ_ _ _ _ e=>e)with⟨_,e⟩|h2
 ·exact e.symm
 ·omega
end Ab
