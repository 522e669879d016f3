/- Arguments that read as plain data are encodings of lists and numbers; and what it leans on. Condition: none. -/
import Derived.Test.YtdenhmniigikcaaGreatAbTop
import Derived.Test.YtdenhmniigikcaaGreatKey
set_option linter.all false
set_option maxRecDepth 100000
set_option maxHeartbeats 4000000
namespace Ab
open Go
variable{x:AV}
theorem j6(h:Ty.int.has x):∃n:Int,x = .int n/\ka n=true:=h
theorem yh(h:Ty.bool.has x):∃n:Bool,x = .bool n/\True:=by
 obtain⟨b,rfl⟩:=h;exact⟨b,rfl,trivial⟩
theorem lG{e:Ty}{d:Type}{f:d->AV}{p:d->Prop}(h:∀y,e.has y->∃a,y=f a/\p a)(i:(Ty.sl e).has x):∃l:List d,x = .au false (l.map f)/\(l.length:Int)<=9223372036854775807/\∀a∈l,p a:=by
 obtain⟨l,rfl,j,g⟩:=i;have key:∀l:List AV,(∀y,y∈l->e.has y)->∃m:List d,l=m.map f/\∀a∈m,p a:=by
  intro l
  induction l with
  |nil=>exact λ_=>⟨[],rfl,by simp⟩
  |cons y r n=>
   intro g;obtain⟨a,rfl,o⟩:=h y (g y (by simp))
   obtain⟨m,rfl,b⟩:=n λz q=>g z (by simp[q])
   exact⟨a::m,rfl,by simpa using⟨o,b⟩⟩
 obtain⟨m,rfl,b⟩:=key l g;refine⟨m,rfl,?_,b⟩;simp[maxLen]at j;omega
def UA (l:List Int):Prop:=(l.length:Int)<=9223372036854775807/\∀n∈l,ka n=true
def okB (l:List Bool):Prop:=(l.length:Int)<=9223372036854775807
def Bt (l:List (List Int)):Prop:=(l.length:Int)<=9223372036854775807/\∀m∈l,UA m
def Qc (l:List (List (List Int))):Prop:=(l.length:Int)<=9223372036854775807/\∀m∈l,Bt m
theorem Qd(h:(Ty.sl .int).has x):∃l:List Int,x=iL l/\UA l:=lG (λ_ h=>j6 h) h
theorem Qe(h:(Ty.sl .bool).has x):∃l:List Bool,x=bL l/\okB l:=by
 obtain⟨l,a,b,_⟩:=lG (λ_ h=>yh h) h;exact⟨l,a,b⟩
theorem qy(h:(Ty.sl (.sl .int)).has x):∃l:List (List Int),x=bN l/\Bt l:=lG (λ_ h=>Qd h) h
theorem Bu(h:(Ty.sl (.sl (.sl .int))).has x):∃l:List (List (List Int)),x=dR l/\Qc l:=lG (λ_ h=>qy h) h
theorem ai1{σ:List ah}{b fr:Bool}{v:AV}(h:bV σ fr v=some (.bool b)):v = .bool b:=by
 have key:∀{x:AV} {k:Nat},view σ fr (k+1) x=some (.bool b)->x = .bool b:=by
  intro x k h;cases x<;>unfold view at h
  case bool=>simpa using h
  case sl=>
   dsimp only at h;split at h
   .simp at h
   .split at h
    .split at h<;>simp at h
    .simp at h
  case ptr=>
   dsimp only at h;split at h
   .simp at h
   .split at h
    .split at h
     .simp at h
     .split at h<;>simp at h
    .simp at h
  all_goals (try dsimp only at h)
  all_goals (try split at h)<;>simp at h
 cases v with
 |bF l=>simp only[bV]at h;split at h<;>simp at h
 |_=>exact key (k:=11) h
theorem HN{f:Nat}{args:List AV}(h:PC f args=some (.bool true)):∃a, L f args []=some (.bool true,a):=by
 unfold PC wj at h;cases b:L f args []with
 |none=>simp[b]at h
 |some p=>
  obtain⟨v,a⟩:=p;simp only[b]at h;exact⟨a, by rw[ai1 h]⟩
end Ab
namespace Ab
structure kh where
 cd:Int
 start:Int
 next:List (List Int)
 out:List (List Int)
 deriving Inhabited
abbrev kh.av (m:kh):AV:=.agg [.int m.cd,.int m.start,bN m.next,bN m.out]
structure kh.fits (m:kh):Prop where
 cd:ka m.cd=true
 start:ka m.start=true
 next:Bt m.next
 out:Bt m.out
def kh.dO (m:kh) (s:Int):Int:=
 if ¬((ix m.next s).length:Int)=m.cd\/¬((ix m.out s).length:Int)=m.cd then 1
 else if bad (ix m.next s) m.next.length=true\/bad (ix m.out s) 1048577=true then 2 else 0
def kh.eV (m:kh):Int:=
 if m.cd<1 then 2
 else if 64<m.cd then 2
 else if m.next=[]then 19
 else if 128<(m.next.length:Int)then 11
 else if m.start<0 then 2
 else if(m.next.length:Int)<=m.start then 2
 else if ¬(m.out.length:Int)=m.next.length then 1
 else 0
def kh.aX (m:kh):Int:=if m.eV ≠ 0 then m.eV else eO m.dO m.next.length
structure kh.Ok (m:kh):Prop where
 cd:1<=m.cd/\m.cd<=64
 cP:1<=(m.next.length:Int)/\(m.next.length:Int)<=128
 start:0<=m.start/\m.start<m.next.length
 len:(m.out.length:Int)=m.next.length
 row:∀s,0<=s->s<(m.next.length:Int)->((ix m.next s).length:Int)=m.cd/\((ix m.out s).length:Int)=m.cd
 nx:∀s a,0<=s->s<(m.next.length:Int)->0<=a->a<m.cd->0<=ix (ix m.next s) a/\ix (ix m.next s) a<m.next.length
 ot:∀s a,0<=s->s<(m.next.length:Int)->0<=a->a<m.cd->0<=ix (ix m.out s) a/\ix (ix m.out s) a<=1048576
abbrev Pl:=Int×List Int
def rQ (m:kh) (p:Pl) (q:List Pl) (a:Int):List Pl:=if q.any (λx=>x.1==ix (ix m.next p.1) a)then q else q ++ [(ix (ix m.next p.1) a,p.2 ++ [a])]
def ai2 (m:kh) (p:Pl) (q:List Pl) (k:Int):List Pl:=(List.range k.toNat).foldl (λq a=>rQ m p q (a:Nat)) q
def bfs (m:kh):Nat->Int->List Pl->List Pl
 |0,_,q=>q
 |f+1,i,q=>if i<q.length then bfs m f (i+1) (ai2 m (ix q i) q m.cd)else q
def kh.HO (m:kh) (s:Int):List Pl:=bfs m (m.next.length+1) 0 [(s,[])]
def tF:∀(n:Nat){l:List Int},l.Nodup->(∀x∈l,0<=x/\x<(n:Int))->l.length<=n
 |0,l,_,h=>by
  cases l with
  |nil=>simp
  |cons x r=>have:=h x (by simp);omega
 |n+1,l,g,h=>by
  have e:l.length=(l.filter λx=>decide (x<(n:Int))).length+(l.filter λx=>!decide (x<(n:Int))).length:=by
   clear g h
   induction l with
   |nil=>rfl
   |cons x r o=>by_cases b:x<(n:Int)<;>simp[b]<;>omega
  have p:=tF n (l:=l.filter λx=>decide (x<(n:Int))) (g.filter _) (λx b=>by
   simp only[List.mem_filter,dY]at b;exact⟨(h x b.1).1,b.2⟩)
  have i:(l.filter λx=>!decide (x<(n:Int))).length<=1:=by
   have d:=g.filter (λx=>!decide (x<(n:Int)));have a:∀x∈l.filter (λx=>!decide (x<(n:Int))),x=(n:Int):=λx b=>by
    have b:=List.mem_filter.1 b;have i:¬x<(n:Int):=by simpa using b.2
    have:=h x b.1;omega
   generalize l.filter (λx=>!decide (x<(n:Int)))=k at d a
   match k,d,a with
   | [],_,_=>simp
   | [_],_,_=>simp
   |x::y::r,d,a=>
    have b:=a x (by simp)
    have j:=a y (by simp)
    have m:=(l8.1 d).1;exact absurd (by rw[b,j];simp) m
  omega
structure Bq (m:kh) (s:Int) (q:List Pl):Prop where
 nd:(q.map (·.1)).Nodup
 fb:∀p∈q,0<=p.1/\p.1<(m.next.length:Int)
 pos:0<q.length
 head:ix q 0=(s,[])
 len:∀j,0<=j->j<(q.length:Int)->((ix q j).2.length:Int)<=j
 ne:∀j,0<j->j<(q.length:Int)->(ix q j).2 ≠ []
variable{m:kh}{s:Int}{q:List Pl}
theorem Bq.le(h:Bq m s q):q.length<=m.next.length:=by
 have:=tF m.next.length h.nd (λx hx=>by
  obtain⟨p,U,rfl⟩:=cB.1 hx;exact h.fb p U)
 simpa using this
variable{α:Type}
theorem gk [Inhabited α]{l m:List α}{j:Int}(a:0<=j) (b:j<l.length):ix (l++m) j=ix l j:=by
 unfold ix;rw[eE,eE,eC (by omega)]
theorem rR [Inhabited α]{l:List α}{x:α}:ix (l ++ [x]) (l.length:Int)=x:=by
 unfold ix;rw[eE,je,eK (aT _)];simp
def oq (q:List Pl) (t:Int):Bool:=q.any λx=>x.1==t
variable{t:Int}
theorem Qf:oq q t=true↔t∈q.map (·.1):=by
 simp[oq]
theorem Bq.add(h:Bq m s q){w:List Int}(ht:0<=t/\t<(m.next.length:Int)) (hn:oq q t=false) (hw:w ≠ []) (hl:w.length<=q.length):Bq m s (q ++ [(t,w)]):=by
 have hq:=h.pos;have kV : t∉q.map (·.1):=λhm=>by rw[Qf.2 hm]at hn;simp at hn
 refine⟨?_,λp U=>?_,by simp,by rw[gk (by omega) (by omega)];exact h.head,λj j0 j1=>?_,λj j0 j1=>?_⟩
 .rw[jK,rj]
  refine⟨h.nd,by simp,λa ha b hb=>?_⟩
  simp at hb;subst hb;exact λe=>kV (e▸ha)
 .rcases dQ.1 U with U|U
  .exact h.fb p U
  .simp at U;subst U;exact ht
 .by_cases V:j<(q.length:Int)
  .rw[gk j0 V];exact h.len j j0 V
  .simp at j1
   rw[show j=(q.length:Int)by omega,rR]
   simp;omega
 .by_cases V:j<(q.length:Int)
  .rw[gk (by omega) V];exact h.ne j j0 V
  .simp at j1
   rw[show j=(q.length:Int)by omega,rR]
   exact hw
variable{p:Pl}{a:Int}
theorem Qg(h:oq q (ix (ix m.next p.1) a)=true):rQ m p q a=q:=ab h
theorem Qh(h:oq q (ix (ix m.next p.1) a)=false):rQ m p q a=q ++ [(ix (ix m.next p.1) a,p.2 ++ [a])]:=aa (by unfold oq at h;simp[h])
theorem Bq.step(hm:m.Ok)(h:Bq m s q)(V:0<=p.1/\p.1<(m.next.length:Int)) (hl:p.2.length<q.length)(a0:0<=a) (a1:a<m.cd):Bq m s (rQ m p q a):=by
 have ht:=hm.nx p.1 a V.1 V.2 a0 a1;cases U:oq q (ix (ix m.next p.1) a)with
 |true=>rw[Qg U];exact h
 |false=>rw[Qh U];exact h.add ht U (by simp) (by simp;omega)
inductive Can:List Int->Nat->Prop where
 |nil:Can [] 0
 |old {c:List Int} {k:Nat} {v:Int}:Can c k->0<=v->v<(k:Int)->Can (c ++ [v]) k
 |new {c:List Int} {k:Nat}:Can c k->Can (c ++ [(k:Int)]) (k+1)
variable{c:List Int}{k:Nat}
theorem Can.fb(h:Can c k):∀v∈c,0<=v/\v<(k:Int):=by
 induction h with
 |nil=>simp
 |old h V v1 U=>
  intro x hx;rcases dQ.1 hx with hx|hx
  .exact U x hx
  .simp at hx;omega
 |new h U=>
  intro x hx;rcases dQ.1 hx with hx|hx
  .have:=U x hx;omega
  .simp at hx;omega
theorem Can.occ(h:Can c k):∀v,0<=v->v<(k:Int)->v∈c:=by
 induction h with
 |nil=>intro v h0 h1;omega
 |old h V v1 U=>intro x h0 h1;exact List.mem_append_left _ (U x h0 h1)
 | @new c k h U=>
  intro x h0 h1
  by_cases e:x=(k:Int)
  .subst e;simp
  .exact List.mem_append_left _ (U x h0 (by omega))
theorem Can.len(h:Can c k):k<=c.length:=by
 induction h with
 |nil=>simp
 |old h V v1 U=>simp;omega
 |new h U=>simp;omega
theorem Can.back(h:Can c k):∀{d:List Int}{v:Int},c=d ++ [v]->∃j,Can d j/\((0<=v/\v<(j:Int)/\k=j)\/(v=(j:Int)/\k=j+1)):=by
 intro d v e;cases h with
 |nil=>simp at e
 | @old c k v' h V v1=>
  obtain⟨rfl,U⟩:=List.append_inj' e rfl;simp at U;subst U;exact⟨k,h,.inl ⟨V,v1,rfl⟩⟩
 | @new c k h=>
  obtain⟨rfl,U⟩:=List.append_inj' e rfl;simp at U;exact⟨k,h,.inr ⟨U.symm,rfl⟩⟩
theorem Can.first(h:Can c k):c ≠ []->ix c 0=0:=by
 induction h with
 |nil=>intro h;exact absurd rfl h
 | @old c k v h V v1 U=>
  intro _
  by_cases e:c=[]
  .subst e;have:=h.len;simp at this;omega
  .rw[gk (by omega) (by have:=l5.2 e;omega)];exact U e
 | @new c k h U=>
  intro _
  by_cases e:c=[]
  .subst e;have:=h.len;simp at this;subst this;rfl
  .rw[gk (by omega) (by have:=l5.2 e;omega)];exact U e
theorem Can.ref{c' : List Int}{k' : Nat}(h' : Can c' k'):∀{c:List Int}{k:Nat},Can c k->c.length=c'.length->(∀i j:Nat,i<c.length->j<c.length->ix c' i=ix c' j->ix c i=ix c j)->(c' = c/\k' = k)\/k<k' :=by
 induction h' with
 |nil=>
  intro c k h hl _;have:c=[]:=dM (by simpa using hl)
  subst this;have:=h.len;exact .inl ⟨rfl,by simp at this;omega⟩
 | @old d' k' v' h' v0 v1 ih=>
  intro c k h hl hr;have U:c ≠ []:=by intro e;subst e;simp at hl
  obtain⟨d,v,rfl⟩:∃d v,c=d ++ [v]:=⟨c.dropLast,c.getLast U,(List.dropLast_concat_getLast U).symm⟩;have V:d.length=d'.length:=by simpa using hl
  obtain⟨kd,hd,hv⟩:=h.back rfl;have HP:∀i j:Nat,i<d.length->j<d.length->ix d' i=ix d' j->ix d i=ix d j:=λi j hi hj e=>by
   have:=hr i j (by simp;omega) (by simp;omega)
   rw[gk (by omega) (by omega),gk (by omega) (by omega),gk (by omega) (by omega),gk (by omega) (by omega)]at this
   exact this e
  obtain⟨j,hj,ej⟩:=fu.1 (h'.occ v' v0 v1);have hjv:ix d j=v:=by
   have e1:ix (d' ++ [v']) (j:Int)=v' :=by rw[gk (by omega) (by omega),aG hj,ej]
   have e2:ix (d' ++ [v']) (d.length:Int)=v' :=by rw[V,rR]
   have:=hr j d.length (by simp;omega) (by simp) (e1.trans e2.symm)
   rw[gk (by omega) (by omega),rR]at this
   exact this
  have hjm:ix d (j:Int)∈d:=aO (by omega) (by omega)
  have CS:=hd.fb _ hjm;rcases ih hd V HP with⟨e1,e2⟩|cL
  .subst e1
   rw[aG hj,ej]at hjv;exact .inl ⟨by rw[hjv],by omega⟩
  .right;omega
 | @new d' k' h' ih=>
  intro c k h hl hr;have U:c ≠ []:=by intro e;subst e;simp at hl
  obtain⟨d,v,rfl⟩:∃d v,c=d ++ [v]:=⟨c.dropLast,c.getLast U,(List.dropLast_concat_getLast U).symm⟩;have V:d.length=d'.length:=by simpa using hl
  obtain⟨kd,hd,hv⟩:=h.back rfl;have HP:∀i j:Nat,i<d.length->j<d.length->ix d' i=ix d' j->ix d i=ix d j:=λi j hi hj e=>by
   have:=hr i j (by simp;omega) (by simp;omega)
   rw[gk (by omega) (by omega),gk (by omega) (by omega),gk (by omega) (by omega),gk (by omega) (by omega)]at this
   exact this e
  rcases ih hd V HP with⟨e1,e2⟩|cL
  .subst e1 e2
   rcases hv with⟨_,_,e⟩|⟨e,e'⟩
   .right;omega
   .exact .inl ⟨by rw[e],by omega⟩
  .right;omega
theorem Can.pO{j:Nat}(h:Can c k) (U : Can c j):k=j:=by
 rcases h.ref U rfl (λ_ _ _ _ e=>e)with⟨_,e⟩|h1
 .exact e
 rcases U.ref h rfl (λ_ _ _ _ e=>e)with⟨_,e⟩|h2
 .exact e.symm
 .omega
end Ab
