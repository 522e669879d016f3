/- Arguments that read as plain data are encodings of lists and numbers; and what it leans on. Condition: none. -/
import Derived.Test.YtcdccenbhiddcaaGreatAbTop
import Derived.Test.YtcdccenbhiddcaaGreatUptoK
set_option linter.all false
set_option maxRecDepth 100000
set_option maxHeartbeats 4000000
namespace Ab
open Go
variable{x:AV}
def mj(h:Ty.int.has x):∃n:Int,x = .int n/\mA n=true:=h
def nG{e:Ty}{d:Type}{f:d->AV}{p:d->Prop}(h:∀y,e.has y->∃a,y=f a/\p a)(i:(Ty.sl e).has x):∃l:List d,x = .aA false (l.map f)/\(l.length:Int)<=9223372036854775807/\∀a∈l,p a:=by
 obtain⟨l,rfl,j,g⟩:=i;have key:∀l:List AV,(∀y,y∈l->e.has y)->∃m:List d,l=m.map f/\∀a∈m,p a:=by
  intro l
  induction l with
  |nil=>exact λ_=>⟨[],rfl,ab⟩
  |cons y r n=>
   intro g;obtain⟨a,rfl,o⟩:=h y (g y ab)
   obtain⟨m,rfl,b⟩:=n λz q=>g z (by simp[q])
   exact⟨a::m,rfl,by simpa using⟨o,b⟩⟩
 obtain⟨m,rfl,b⟩:=key l g;refine⟨m,rfl,?_,b⟩;simp[maxLen]at j;omega
def okI (l:List Int):Prop:=(l.length:Int)<=9223372036854775807/\∀n∈l,mA n=true
def AG (l:List (List Int)):Prop:=(l.length:Int)<=9223372036854775807/\∀m∈l,okI m
def Hz(h:(Ty.sl .int).has x):∃l:List Int,x=iL l/\okI l:=nG (λ_ h=>mj h) h
def sC(h:(Ty.sl (.sl .int)).has x):∃l:List (List Int),x=aW l/\AG l:=nG (λ_ h=>Hz h) h
def HA{σ:List aj}{b fr:Bool}{v:AV}(h:bu σ fr v=some (.bool b)):v = .bool b:=by
 have key:∀{x:AV} {k:Nat},view σ fr (k+1) x=some (.bool b)->x = .bool b:=by
  intro x k h;cases x<;>unfold view at h
  case bool=>simpa using h
  case sl=>
   dsimp only at h;split at h
   .simp at h
   .split at h
    .split at h<;>simp at h
    .simp at h
  case ptr=>
   dsimp only at h;split at h
   .simp at h
   .split at h
    .split at h
     .simp at h
     .split at h<;>simp at h
    .simp at h
  all_goals (try dsimp only at h)
  all_goals (try split at h)<;>simp at h
 cases v with
 |bz l=>simp only[bu]at h;split at h<;>simp at h
 |_=>exact key (k:=11) h
def AH{f:Nat}{args:List AV}(h:PC f args=some (.bool true)):∃σ', L f args []=some (.bool true,σ'):=by
 unfold PC jN at h;cases a:L f args []with
 |none=>simp[a]at h
 |some p=>
  obtain⟨v,σ'⟩:=p;simp only[a]at h;exact⟨σ', by rw[HA h]⟩
end Ab
namespace Ab
structure ak where
 inputs:Int
 start:Int
 next:List (List Int)
 out:List (List Int)
 deriving Inhabited
abbrev ak.av (m:ak):AV:=.agg [.int m.inputs,.int m.start,aW m.next,aW m.out]
structure ak.fits (m:ak):Prop where
 inputs:mA m.inputs=true
 start:mA m.start=true
 next:AG m.next
 out:AG m.out
abbrev sD:Ty:=.st [.int,.int,.sl (.sl .int),.sl (.sl .int)]
def uY{x:AV}(h:sD.has x):∃m:ak,x=m.av/\m.fits:=by
 obtain⟨xs,rfl,h⟩:=h;simp only[Ty.ny]at h;obtain⟨q,r,rfl,a,s,u,rfl,b,w,y,rfl,d,z,A,rfl,e,rfl⟩:=h;obtain⟨f,rfl,g⟩:=mj a;obtain⟨i,rfl,j⟩:=mj b;obtain⟨l,rfl,n⟩:=sC d;obtain⟨o,rfl,p⟩:=sC e;exact⟨⟨f,i,l,o⟩,rfl,⟨g,j,n,p⟩⟩
def ak.dB (m:ak) (s:Int):Int:=
 if ¬((ix m.next s).length:Int)=m.inputs\/¬((ix m.out s).length:Int)=m.inputs then 1
 else if bad (ix m.next s) m.next.length=true\/bad (ix m.out s) 1048577=true then 2 else 0
def ak.dW (m:ak):Int:=
 if m.inputs<1 then 2
 else if 64<m.inputs then 2
 else if m.next=[]then 19
 else if 128<(m.next.length:Int)then 11
 else if m.start<0 then 2
 else if(m.next.length:Int)<=m.start then 2
 else if ¬(m.out.length:Int)=m.next.length then 1
 else 0
def ak.ao (m:ak):Int:=if m.dW ≠ 0 then m.dW else dv m.dB m.next.length
variable{m:ak}
def HB{x:Int}(h:m.dW=x) (a:x ≠ 0):x=m.ao:=by
 subst h;simp[ak.ao,a]
structure ak.Ok (m:ak):Prop where
 inputs:1<=m.inputs/\m.inputs<=64
 states:1<=(m.next.length:Int)/\(m.next.length:Int)<=128
 start:0<=m.start/\m.start<m.next.length
 len:(m.out.length:Int)=m.next.length
 row:∀s,0<=s->s<(m.next.length:Int)->((ix m.next s).length:Int)=m.inputs/\((ix m.out s).length:Int)=m.inputs
 nx:∀s a,0<=s->s<(m.next.length:Int)->0<=a->a<m.inputs->0<=ix (ix m.next s) a/\ix (ix m.next s) a<m.next.length
 ot:∀s a,0<=s->s<(m.next.length:Int)->0<=a->a<m.inputs->0<=ix (ix m.out s) a/\ix (ix m.out s) a<=1048576
def Xp(h:m.dW=0):(1<=m.inputs/\m.inputs<=64)/\(1<=(m.next.length:Int)/\(m.next.length:Int)<=128)/\(0<=m.start/\m.start<m.next.length)/\(m.out.length:Int)=m.next.length:=by
 unfold ak.dW at h
 by_cases a:m.next=[]
 .simp only[ah a]at h
  (repeat' split at h)<;>omega
 .have:=fc.2 a
  simp only[ae a]at h
  (repeat' split at h)<;>omega
variable{s:Int}
def Xq(h:m.dB s=0):(((ix m.next s).length:Int)=m.inputs/\((ix m.out s).length:Int)=m.inputs)/\bad (ix m.next s) m.next.length=false/\bad (ix m.out s) 1048577=false:=by
 unfold ak.dB at h;split at h
 .simp at h
 rename_i a;split at h
 .simp at h
 rename_i b;simp only[not_or,Classical.not_not,Bool.not_eq_true]at a b;exact⟨a,b.1,b.2⟩
def fQ(h:m.ao=0):m.Ok:=by
 have f:m.dW=0:=by
  unfold ak.ao at h;split at h
  .rename_i a;exact absurd h a
  .rename_i a;simpa using a
 have g:∀s,0<=s->s<(m.next.length:Int)->m.dB s=0:=by
  unfold ak.ao at h;rw[ae jm]at h
  exact Xj.1 h
 obtain⟨i,j,l,n⟩:=Xp f;have R:=λs b d=>Xq (g s b d);exact⟨i,j,l,n,λs b d=>(R s b d).1,λs c b d e o=>qm.1 (R s b d).2.1 c e (by have:=(R s b d).1;omega),λs c b d e o=>by have:=qm.1 (R s b d).2.2 c e (by have:=(R s b d).1;omega);omega⟩
def ak.fC (m:ak) (s a:Int):Bool:=ed m.next.length (ix (ix m.next s) a)||ed 1048577 (ix (ix m.out s) a)
variable{a:Int}
def HC(d:((ix m.next s).length:Int)=m.inputs) (e:((ix m.out s).length:Int)=m.inputs) (b:0<=a) (f:a<m.inputs) (h:m.fC s a=true):m.dB s=2:=by
 unfold ak.dB;rw[ae (by simp[d,e]),ah]
 simp only[ak.fC,Bool.or_eq_true]at h;rcases h with h|h
 .exact .inl (wa b aa h)
 .exact .inr (wa b aa h)
def AI(e:((ix m.next s).length:Int)=m.inputs) (f:((ix m.out s).length:Int)=m.inputs) (h:∀a,0<=a->a<m.inputs->m.fC s a=false):m.dB s=0:=by
 unfold ak.dB;have d : ∀a,0<=a->a<m.inputs->ed m.next.length (ix (ix m.next s) a)=false/\ed 1048577 (ix (ix m.out s) a)=false:=λa g i=>by
  have:=h a g i;simpa[ak.fC]using this
 rw[ae (by simp[e,f]),ae]
 rw[wc λj a b=>(d j a aa).1,wc λj a b=>(d j a aa).2]
 simp
def fD (m:ak) (h:m.fits):PC ia [m.av]=some (.int m.ao):=by
 refine ba (VV rfl ?_);have C:=h.next.1
 simp
 repeat' (first|apply And.intro|intro _)
 all_goals try(refine HB ?_ ab;unfold ak.dW;repeat (first|rw[ah l3]|rw[ae l3]|rw[ae aa]|rw[ah aa]))
 rename_i D E F G H I J;have y:m.dW=0:=rk
 rw[show m.ao=dv m.dB m.next.length by simp[ak.ao,y]]
 refine a6 (λi:Int=>[(3,.int i)]) (λ_=>[]) (λi=>0<=i/\i<=m.next.length/\∀j,0<=j->j<i->m.dB j=0) (λi=>(m.next.length-i).toNat) 0 rfl ai λi ⟨n,i1,o⟩=>?_
 by_cases e:i<m.next.length
 .have g:i<(m.out.length:Int):=by omega
  have d:m.dB i=1->1=dv m.dB m.next.length:=λh=>by rw[<-h];exact(uW (f:=m.dB) n e aa o).symm
  have l:m.dB i=2->2=dv m.dB m.next.length:=λh=>by rw[<-h];exact(uW (f:=m.dB) n e aa o).symm
  simp[-ax,e,n,g];refine⟨λb1=>⟨λp=>?_,λp=>d (by simp[ak.dB,p])⟩,λb1=>d (by simp[ak.dB,b1])⟩
  refine a6 (λa:Int=>[(6,.int a)]) (λ_=>[]) (λa=>0<=a/\a<=m.inputs/\∀j,0<=j->j<a->m.fC i j=false) (λa=>(m.inputs-a).toNat) 0 rfl ⟨aa,aa,nE⟩ λa ⟨r,K,s⟩=>?_
  by_cases q:a<m.inputs
  .have off:m.fC i a=true->2=dv m.dB m.next.length:=λh=>l (HC b1 p r q h)
   simp[-ax,q,n,e,g,r,show a<((ix m.next i).length:Int)by omega,show a<((ix m.out i).length:Int)by omega]
   refine⟨λu=>off (by simp[ak.fC,ed,u]),λu=>⟨λw=>off (by simp[ak.fC,ed,w]),λw=>⟨λx=>off (by simp[ak.fC,ed,x]),λx=>⟨λz=>off (by simp[ak.fC,ed,show(1048577:Int)<=ix (ix m.out i) a by omega]),λz=>⟨aa,?_⟩⟩⟩⟩⟩
   refine aL (a+1) rfl rfl ⟨aa,aa,kB ?_ s⟩ aa
   simp[ak.fC,ed];omega
  .simp[-ax,q]
   refine⟨aa,aL (i+1) rfl rfl ⟨aa,aa,kB (AI b1 p λA B L=>s A B aa) o⟩ aa⟩
 .simp[e]
  rw[oH λj a b=>o j a aa]
def Xr (m:ak) (s:Int) (f:0<=s) (s1:s<m.next.length) (g:s<m.out.length) (w:(m.next.length:Int)<=9223372036854775807) (d:mA m.inputs=true):PC yo [m.av,.int s]=some (.int (m.dB s)):=by
 rw[k9]at d;refine ba (V5 rfl ?_);simp[-ax,f,s1,g];refine⟨λb1=>⟨λb=>?_,λb=>by simp[ak.dB,b]⟩,λb1=>by simp[ak.dB,b1]⟩
 refine a6 (λa:Int=>[(3,.int a)]) (λ_=>[]) (λa=>0<=a/\a<=m.inputs/\∀j,0<=j->j<a->m.fC s j=false) (λa=>(m.inputs-a).toNat) 0 rfl ⟨aa,aa,nE⟩ λa ⟨i,x,l⟩=>?_
 by_cases e:a<m.inputs
 .have off:m.fC s a=true->2=m.dB s:=λh=>(HC b1 b i e h).symm
  simp[-ax,e,f,s1,g,i,show a<((ix m.next s).length:Int)by omega,show a<((ix m.out s).length:Int)by omega]
  refine⟨λn=>off (by simp[ak.fC,ed,n]),λn=>⟨λo=>off (by simp[ak.fC,ed,o]),λo=>⟨λp=>off (by simp[ak.fC,ed,p]),λp=>⟨λq=>off (by simp[ak.fC,ed,show(1048577:Int)<=ix (ix m.out s) a by omega]),λq=>⟨aa,?_⟩⟩⟩⟩⟩
  refine aL (a+1) rfl rfl ⟨aa,aa,kB ?_ l⟩ aa
  simp[ak.fC,ed];omega
 .simp[-ax,e]
  exact(AI b1 b λr u y=>l r u aa).symm
def HD (m:ak) (h:m.fits):PC uw [m.av]=some (.int m.ao):=by
 refine ba (VS rfl ?_);have n:=h.next.1
 simp
 repeat' (first|apply And.intro|intro _)
 all_goals try(refine HB ?_ ab;unfold ak.dW;repeat (first|rw[ah l3]|rw[ae l3]|rw[ae aa]|rw[ah aa]))
 rename_i p q r s u w x;have o:m.dW=0:=rk
 rw[show m.ao=dv m.dB m.next.length by simp[ak.ao,o]]
 refine a6 (λi:Int=>[(2,.int i)]) (λ_=>[]) (λi=>0<=i/\i<=m.next.length/\∀j,0<=j->j<i->m.dB j=0) (λi=>(m.next.length-i).toNat) 0 rfl ai λi ⟨l,i1,f⟩=>?_
 by_cases d:i<m.next.length
 .have e:=Xr m i l d aa n h.inputs
  simp[d,e];exact⟨λg=>⟨aa,⟨aa,aa,kB g f⟩,aa⟩,λg=>(uW l d g f).symm⟩
 .simp[d]
  rw[oH λj a b=>f j a aa]
abbrev Pl:=Int×List Int
def gj (m:ak) (p:Pl) (q:List Pl) (a:Int):List Pl:=if q.any (λx=>x.1==ix (ix m.next p.1) a)then q else q ++ [(ix (ix m.next p.1) a,p.2 ++ [a])]
def fR (m:ak) (p:Pl) (q:List Pl) (k:Int):List Pl:=(List.range k.toNat).foldl (λq a=>gj m p q (a:Nat)) q
variable{p:Pl}{q:List Pl}
def sF(h:0<=a):fR m p q (a+1)=gj m p (fR m p q a) a:=by
 unfold fR;rw[show(a+1).toNat=a.toNat+1 by omega,List.range_succ,List.foldl_append]
 simp only[List.foldl_cons,List.foldl_nil];rw[show((a.toNat:Nat):Int)=a by omega]
def qn (m:ak):Nat->Int->List Pl->List Pl
 |0,_,q=>q
 |f+1,i,q=>if i<q.length then qn m f (i+1) (fR m (ix q i) q m.inputs)else q
def ak.af (m:ak) (s:Int):List Pl:=qn m (m.next.length+1) 0 [(s,[])]
def lg:∀(n:Nat){l:List Int},l.Nodup->(∀x∈l,0<=x/\x<(n:Int))->l.length<=n
 |0,l,_,h=>by
  cases l with
  |nil=>simp
  |cons x r=>have:=h x ab;omega
 |n+1,l,f,h=>by
  have e:l.length=(l.filter λx=>decide (x<(n:Int))).length+(l.filter λx=>!decide (x<(n:Int))).length:=by
   clear f h
   induction l with
   |nil=>rfl
   |cons x r m=>by_cases b:x<(n:Int)<;>simp[b]<;>omega
  have o:=lg n (l:=l.filter λx=>decide (x<(n:Int))) (f.filter _) (λx b=>by
   simp only[jt,cO]at b;exact⟨(h x b.1).1,b.2⟩)
  have g:(l.filter λx=>!decide (x<(n:Int))).length<=1:=by
   have d:=f.filter (λx=>!decide (x<(n:Int)));have a:∀x∈l.filter (λx=>!decide (x<(n:Int))),x=(n:Int):=λx b=>by
    have b:=jt.1 b;have g:¬x<(n:Int):=by simpa using b.2
    have:=h x b.1;omega
   generalize l.filter (λx=>!decide (x<(n:Int)))=k at d a
   match k,d,a with
   | [],_,_=>simp
   | [_],_,_=>simp
   |x::y::r,d,a=>
    have b:=a x ab
    have i:=a y ab
    have j:=(List.nodup_cons.1 d).1;exact absurd (by rw[b,i];simp) j
  omega
structure Bq (m:ak) (s:Int) (q:List Pl):Prop where
 nd:(q.map (·.1)).Nodup
 fS:∀p∈q,0<=p.1/\p.1<(m.next.length:Int)
 pos:0<q.length
 head:ix q 0=(s,[])
 len:∀j,0<=j->j<(q.length:Int)->((ix q j).2.length:Int)<=j
 ne:∀j,0<j->j<(q.length:Int)->(ix q j).2 ≠ []
def Bq.le(h:Bq m s q):q.length<=m.next.length:=by
 have:=lg m.next.length h.nd (λx Y=>by
  obtain⟨p,hp,rfl⟩:=cB.1 Y;exact h.fS p hp)
 simpa using this
def Bq.init(h:0<=s/\s<(m.next.length:Int)):Bq m s [(s,[])]:=by
 refine⟨ab,ch,ab,rfl,λj j0 Y=>?_,λj j0 Y=>?_⟩
 .simp at Y
  rw[show j=0 by omega];simp[ix]
 .simp at Y;omega
variable{α:Type}
def a7 [Inhabited α]{l m:List α}{j:Int}(a:0<=j) (b:j<l.length):ix (l++m) j=ix l j:=by
 unfold ix;rw[gZ,gZ,dG aa]
def dH [Inhabited α]{l:List α}{x:α}:ix (l ++ [x]) (l.length:Int)=x:=by
 unfold ix;rw[gZ,kg,fk (aY _)];simp
def ib (q:List Pl) (t:Int):Bool:=q.any λx=>x.1==t
variable{t:Int}
def uZ:ib q t=true↔t∈q.map (·.1):=by
 simp[ib]
def Bq.add(h:Bq m s q){w:List Int}(ht:0<=t/\t<(m.next.length:Int)) (hn:ib q t=false) (hw:w ≠ []) (hl:w.length<=q.length):Bq m s (q ++ [(t,w)]):=by
 have hq:=h.pos;have iZ : t∉q.map (·.1):=λhm=>by rw[uZ.2 hm]at hn;simp at hn
 refine⟨?_,λp Y=>?_,ab,by rw[a7 aa aa];exact h.head,λj j0 j1=>?_,λj j0 j1=>?_⟩
 .rw[eE,List.nodup_append]
  refine⟨h.nd,ab,λa ha b hb=>?_⟩
  simp at hb;subst hb;exact λe=>iZ (e▸ha)
 .rcases cp.1 Y with Y|Y
  .exact h.fS p Y
  .simp at Y;subst Y;exact ht
 .by_cases hj:j<(q.length:Int)
  .rw[a7 j0 hj];exact h.len j j0 hj
  .simp at j1
   rw[show j=(q.length:Int)by omega,dH]
   simp;omega
 .by_cases hj:j<(q.length:Int)
  .rw[a7 aa hj];exact h.ne j j0 hj
  .simp at j1
   rw[show j=(q.length:Int)by omega,dH]
   exact hw
def sG(h:ib q (ix (ix m.next p.1) a)=true):gj m p q a=q:=ah h
def sH(h:ib q (ix (ix m.next p.1) a)=false):gj m p q a=q ++ [(ix (ix m.next p.1) a,p.2 ++ [a])]:=ae (by unfold ib at h;simp[h])
def Bq.step(hm:m.Ok)(h:Bq m s q)(hp:0<=p.1/\p.1<(m.next.length:Int)) (hl:p.2.length<q.length)(a0:0<=a) (a1:a<m.inputs):Bq m s (gj m p q a):=by
 have ht:=hm.nx p.1 a hp.1 hp.2 a0 a1;cases Y:ib q (ix (ix m.next p.1) a)with
 |true=>rw[sG Y];exact h
 |false=>rw[sH Y];exact h.add ht Y ab ai
def HE:∃l,gj m p q a=q++l:=by
 unfold gj;split
 .exact⟨[],ab⟩
 .exact⟨_,rfl⟩
variable{f:Nat}{i:Int}
def sI(h:¬i<(q.length:Int)):qn m f i q=q:=by
 cases f with
 |zero=>rfl
 |succ f=>unfold qn;rw[ae h]
def sJ(h:i<(q.length:Int)):qn m (f+1) i q=qn m f (i+1) (fR m (ix q i) q m.inputs):=by
 conv=>lhs;unfold qn
 rw[ah h]
inductive Can:List Int->Nat->Prop where
 |nil:Can [] 0
 |old {c:List Int} {k:Nat} {v:Int}:Can c k->0<=v->v<(k:Int)->Can (c ++ [v]) k
 |new {c:List Int} {k:Nat}:Can c k->Can (c ++ [(k:Int)]) (k+1)
variable{c:List Int}{k:Nat}
def Can.fS(h:Can c k):∀v∈c,0<=v/\v<(k:Int):=by
 induction h with
 |nil=>simp
 |old h v0 v1 ih=>
  intro x Y;rcases cp.1 Y with Y|Y
  .exact ih x Y
  .simp at Y;omega
 |new h ih=>
  intro x Y;rcases cp.1 Y with Y|Y
  .have:=ih x Y;omega
  .simp at Y;omega
def Can.HF(h:Can c k):∀v,0<=v->v<(k:Int)->v∈c:=by
 induction h with
 |nil=>intro v Y h1;omega
 |old h v0 v1 ih=>intro x Y h1;exact List.mem_append_left _ (ih x Y h1)
 | @new c k h ih=>
  intro x Y h1
  by_cases e:x=(k:Int)
  .subst e;simp
  .exact List.mem_append_left _ (ih x Y aa)
def Can.len(h:Can c k):k<=c.length:=by
 induction h with
 |nil=>simp
 |old h v0 v1 Y=>simp;omega
 |new h Y=>simp;omega
def Can.back(h:Can c k):∀{d:List Int}{v:Int},c=d ++ [v]->∃j,Can d j/\((0<=v/\v<(j:Int)/\k=j)\/(v=(j:Int)/\k=j+1)):=by
 intro d v e;cases h with
 |nil=>simp at e
 | @old c k v' h v0 v1=>
  obtain⟨rfl,Y⟩:=List.append_inj' e rfl;simp at Y;subst Y;exact⟨k,h,.inl ⟨v0,v1,rfl⟩⟩
 | @new c k h=>
  obtain⟨rfl,Y⟩:=List.append_inj' e rfl;simp at Y;exact⟨k,h,.inr ⟨Y.symm,rfl⟩⟩
def Can.sK:∀n:Nat,Can (List.replicate (n+1) 0) 1
 |0=>by have:=Can.new Can.nil;simpa using this
 |n+1=>by
  have:=Can.old (v:=0) (Can.sK n) aa aa
  rw[List.replicate_succ'];exact this
def Can.first(h:Can c k):c ≠ []->ix c 0=0:=by
 induction h with
 |nil=>intro h;exact absurd rfl h
 | @old c k v h v0 v1 Y=>
  intro _
  by_cases e:c=[]
  .subst e;have:=h.len;simp at this;omega
  .rw[a7 aa (by have:=fc.2 e;omega)];exact Y e
 | @new c k h Y=>
  intro _
  by_cases e:c=[]
  .subst e;have:=h.len;simp at this;subst this;rfl
  .rw[a7 aa (by have:=fc.2 e;omega)];exact Y e
def Can.ref{c' : List Int}{k' : Nat}(h' : Can c' k'):∀{c:List Int}{k:Nat},Can c k->c.length=c'.length->(∀i j:Nat,i<c.length->j<c.length->ix c' i=ix c' j->ix c i=ix c j)->(c' = c/\k' = k)\/k<k' :=by
 induction h' with
 |nil=>
  intro c k h hl _;have:c=[]:=fY (by simpa using hl)
  subst this;have:=h.len;exact .inl ⟨rfl,by simp at this;omega⟩
 | @old d' k' v' h' v0 v1 ih=>
  intro c k h hl hr;have Y:c ≠ []:=by intro e;subst e;simp at hl
  obtain⟨d,v,rfl⟩:∃d v,c=d ++ [v]:=⟨c.dropLast,c.getLast Y,(rn Y).symm⟩;have K3:d.length=d'.length:=by simpa using hl
  obtain⟨kd,hd,hv⟩:=h.back rfl;have Xt:∀i j:Nat,i<d.length->j<d.length->ix d' i=ix d' j->ix d i=ix d j:=λi j hi hj e=>by
   have:=hr i j ai ai
   rw[a7 aa aa,a7 aa aa,a7 aa aa,a7 aa aa]at this
   exact this e
  obtain⟨j,hj,ej⟩:=cd.1 (h'.HF v' v0 v1);have hjv:ix d j=v:=by
   have e1:ix (d' ++ [v']) (j:Int)=v' :=by rw[a7 aa aa,aK hj,ej]
   have e2:ix (d' ++ [v']) (d.length:Int)=v' :=by rw[K3,dH]
   have:=hr j d.length ai ab (e1.trans e2.symm)
   rw[a7 aa aa,dH]at this
   exact this
  have hjm:ix d (j:Int)∈d:=bt aa aa
  have x6:=hd.fS _ hjm;rcases ih hd K3 Xt with⟨e1,e2⟩|bP
  .subst e1
   rw[aK hj,ej]at hjv;exact .inl ⟨by rw[hjv],aa⟩
  .right;omega
 | @new d' k' h' ih=>
  intro c k h hl hr;have Y:c ≠ []:=by intro e;subst e;simp at hl
  obtain⟨d,v,rfl⟩:∃d v,c=d ++ [v]:=⟨c.dropLast,c.getLast Y,(rn Y).symm⟩;have K3:d.length=d'.length:=by simpa using hl
  obtain⟨kd,hd,hv⟩:=h.back rfl;have Xt:∀i j:Nat,i<d.length->j<d.length->ix d' i=ix d' j->ix d i=ix d j:=λi j hi hj e=>by
   have:=hr i j ai ai
   rw[a7 aa aa,a7 aa aa,a7 aa aa,a7 aa aa]at this
   exact this e
  rcases ih hd K3 Xt with⟨e1,e2⟩|bP
  .subst e1 e2
   rcases hv with⟨_,_,e⟩|⟨e,e'⟩
   .right;omega
   .exact .inl ⟨by rw[e],aa⟩
  .right;omega
end Ab
