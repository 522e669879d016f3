/- From the interpreter's answer to a given row's statement: arguments that read as data are abstract values; a law that the interpreter finds true returns true and leaves all as it was. Condition: the checks of types and functions, which are closed facts. -/
import Derived.Carry
import Derived.ChangeSame
import Derived.ProofKit
import Derived.OpenShut
import Derived.Test.YtdenhmniigikcaaGreatAbC
import Derived.Test.YtdenhmniigikcaaGreatAbL
set_option linter.all false
open Option renaming some->aa,none->ab
open Bool renaming true->ad,false->ae
open List renaming length->ah
namespace Ab
open Go Go.ChangeShapes Go.WideShapes Go.RowKit
variable{P:Program}
inductive Ty where
 |int|bool|str
 |ik (k:Nat)
 |sl (e:Ty)
 |st (fs:List Ty)
mutual
def Ty.n:Ty->Nat
 |.st fs=>Ty.ns fs
 |_=>1
def Ty.ns:List Ty->Nat
 | []=>0
 |t::r=>t.n+Ty.ns r
end
mutual
def ko (P:Program):Ty->TypeId->Bool
 |.int,t=>match P.underlying t with
  |some (.int .i64)=>ad
  |_=>ae
 |.bool,t=>match P.underlying t with
  |some .bool=>ad
  |_=>ae
 |.str,t=>match P.underlying t with
  |some .string=>ad
  |_=>ae
 |.ik k,t=>match P.underlying t with
  |some (.int K)=>decide (kY k=aa K)
  |_=>ae
 |.sl e,t=>match P.underlying t with
  |some (.slice u)=>ko P e u&&P.cellsOf u==e.n&&decide (0<e.n)
  |_=>ae
 |.st fs,t=>match P.underlying t with
  |some (.struct gs)=>P.cellsOf t==Ty.ns fs&&jX P fs gs.toList 0
  |some (.array n u)=>P.cellsOf t==Ty.ns fs&&ah fs==n&&uM P fs u
  |_=>ae
def uM (P:Program):List Ty->TypeId->Bool
 | [],_=>ad
 |T::r,u=>P.cellsOf u==T.n&&ko P T u&&uM P r u
def jX (P:Program):List Ty->List Field->Nat->Bool
 | [],[],_=>ad
 |T::r,f::s,off=>f.offset==off&&P.cellsOf f.type==T.n&&ko P T f.type&&jX P r s (off+T.n)
 |_,_,_=>ae
end
def inK (k:Nat) (n:Int):Bool:=match kY k with
 |some K=>decide (K.min<=n)&&decide (n<=K.max)
 |none=>ae
mutual
def Ty.has:Ty->AV->Prop
 |.int,x=>∃n,x = .int n/\lA n=ad
 |.bool,x=>∃b,x = .bool b
 |.str,x=>∃s,x = .str s
 |.ik k,x=>∃n,x = .ik k n/\inK k n=ad
 |.sl e,x=>∃l,x = .aX ae l/\ah l<=maxLen/\∀y,y∈l->e.has y
 |.st fs,x=>∃xs,x = .agg (xs.flatMap AV.cells)/\Ty.uN fs xs
def Ty.uN:List Ty->ao->Prop
 | [],xs=>xs=[]
 |T::r,xs=>∃x s,xs=x::s/\T.has x/\Ty.uN r s
end
variable{l:ao}
def SA{m:ao}(h:aY l=ad) (k:aY m=ad):aY (l++m)=ad:=by
 induction l with
 |nil=>exact k
 |cons a r b=>
  simp only[aY,bd,kK]at h ⊢;exact⟨h.1,b h.2⟩
variable{x:AV}
def SB(h:bC x=ad):aY x.cells=ad:=by
 cases x<;>simp_all [AV.cells,aY,bC]
def aiR(h:∀y,y∈l->bC y=ad):aY l=ad:=by
 induction l with
 |nil=>rfl
 |cons a r b=>
  simp only[aY,bd];exact⟨h a aA,b λy d=>h y iU⟩
def nu (w:World):Ctx:=aI [] (λ_=>0) (λk=>k<w.heap.size)
variable{cs:List Value}
def aiS{C:Ctx}{H:Array Obj}(a:(∃l,x = .agg l)\/∃v,cs=[v]) (h:cH C H x.cells cs) (d:∀y∈cs,y.oneCell' = ad):∃v,VR C H x v/\v.cells=cs.toArray:=by
 by_cases b:∃l,x = .agg l
 .obtain⟨l,rfl⟩:=b
  exact⟨.agg cs.toArray,by unfold VR;exact⟨cs,rfl,h,d⟩,rfl⟩
 .have e:x.cells=[x]:=by cases x<;>first|rfl|exact absurd ⟨_,rfl⟩ b
  rcases a with a|⟨v,rfl⟩
  .exact absurd a b
  .rw[e]at h
   obtain⟨j, s,g,i,m⟩:=h;simp at g;obtain⟨rfl,rfl⟩:=g;exact⟨v,i,by rw[A6 (d v aA)]⟩
def IM{w:World}{a:Addr}{k:Nat}(p:0<k) (h:w.cells? 0 a k=aa cs) :
  a.spot=ab/\ah cs=k/\∃c el g,w.heap[a.block]? = aa (.cells c el g)/\∀j,j<k->c[a.off+j]? = cs[j]?:=by
 unfold World.cells? at h;simp only[Nat.zero_le,dM]at h;have l:=mapM_some_length h;have m:=λj (i:j<k)=>mapM_some_get h j j (by simp[i])
 simp only[lT]at l;have b:=m 0 p;obtain⟨v,r⟩:∃v,cs[0]? = aa v:=⟨cs[0]' ax,by simp[show 0<ah cs by omega]⟩
 rw[r]at b;simp only[World.cell?,Addr.add,dM]at b;cases d:w.heap[a.block]? with
 |none=>simp[d]at b
 |some o=>
  cases o with
  |cells c el g=>
   have n:a.spot=ab:=by
    cases s:a.spot with
    |none=>rfl
    |some q=>simp[d,s]at b
   refine⟨n,l,c,el,g,rfl,λj i=>?_⟩;have:=m j i;rw[<-this];simp only[World.cell?,Addr.add]
   by_cases e:j=0
   .subst e;simp[d,n]
   .simp[e,d]
  |_=>simp[d]at b
section
variable{H:Type}{enc:TypeId×Value->H}{w:World}
structure Rd (w:World) (T:Ty) (cs:List Value) (a:AV):Prop where
 has:T.has a
 loc:bC a=ad
 vr:cH (nu w) w.heap a.cells cs
 one:∀y∈cs,y.oneCell' = ad
 len:ah cs=T.n
 alone:(∃l,a = .agg l)\/∃v,cs=[v]
variable{T:Ty}{v:Value}
def Rd.scalar{a:AV}(h1:T.has a) (h2:bC a=ad) (h3:VR (nu w) w.heap a v) (h4:v.oneCell' = ad) (h5:T.n=1) (h6:a.cells=[a]):Rd w T [v] a:=
 ⟨h1,h2,by rw[h6];exact⟨v,[],rfl,h3,rfl⟩,by simpa using h4,by simp[h5],.inr ⟨v,rfl⟩⟩
mutual
theorem rd:∀(T:Ty){n:Nat}{t:TypeId}{cs:List Value}{x:DataW H×List MemPlace},ko P T t=ad->DataW.trod enc P w 0 (λ_=>ad) ad n t cs=aa x->∃a,Rd w T cs a
 |.int,n,t,cs,x,ht,h=>by
  have hu:P.underlying t=aa (.int .i64):=by
   unfold ko at ht;split at ht<;>simp_all
  obtain⟨m,rfl,_,hw⟩:=DataW.trod_int hu h;refine⟨.int m,Rd.scalar ⟨m,rfl,?_⟩ rfl rfl rfl rfl rfl⟩;have:=by simpa[Lit.wf,IntKind.min,IntKind.max,IntKind.signed,IntKind.bits]using hw
  simp only[lA,bd,fy];omega
 |.bool,n,t,cs,x,ht,h=>by
  have hu:P.underlying t=aa .bool:=by
   unfold ko at ht;split at ht<;>simp_all
  obtain⟨m,rfl,_⟩:=DataW.trod_bool hu h;exact⟨.bool m,Rd.scalar ⟨m,rfl⟩ rfl rfl rfl rfl rfl⟩
 |.str,n,t,cs,x,ht,h=>by
  have hu:P.underlying t=aa .string:=by
   unfold ko at ht;split at ht<;>simp_all
  obtain⟨m,rfl,_⟩:=DataW.trod_string hu h;exact⟨.str m.data.toList,Rd.scalar ⟨_,rfl⟩ rfl (by unfold VR;simp) rfl rfl rfl⟩
 |.ik k,n,t,cs,x,ht,h=>by
  have hu:∃K,P.underlying t=aa (.int K)/\kY k=aa K:=by
   unfold ko at ht;split at ht
   .rename_i K h1;exact⟨K,h1,by simpa using ht⟩
   .simp at ht
  obtain⟨K,hu,hk⟩:=hu;obtain⟨m,rfl,_,hw⟩:=DataW.trod_int hu h;refine⟨.ik k m,Rd.scalar ⟨m,rfl,?_⟩ rfl (by unfold VR;exact⟨K,hk,rfl⟩) rfl rfl rfl⟩
  unfold inK;rw[hk];have:=by simpa[Lit.wf]using hw
  simp only[bd,fy];omega
 |.sl e,n,t,cs,x,ht,h=>by
  have key:∃u,P.underlying t=aa (.slice u)/\ko P e u=ad/\P.cellsOf u=e.n/\0<e.n:=by
   unfold ko at ht;split at ht
   .rename_i u hu
    simp only[bd,dA,fy]at ht;exact⟨u,hu,ht.1.1,ht.1.2,ht.2⟩
   .simp at ht
  obtain⟨u,hu,h1,h2,h3⟩:=key;rcases DataW.trod_slice hu h with⟨rfl,_⟩|⟨a,len,cap,elems,rest,m,_,rfl,_,_,hl,hm,Il,mH,N3,_⟩
  .exact⟨.aX ae [],Rd.scalar ⟨[],rfl,aA,aA⟩ rfl (by unfold VR;exact⟨rfl,.inl ⟨rfl,ab,rfl,aA⟩⟩) rfl rfl rfl⟩
  .rw[h2]at mH N3
   have each:∀i,i<len->∃a' Ak, w.cells? 0 (a.add (i*e.n)) e.n=aa Ak /\Rd w e Ak a' :=λi hi=>by
    have hg:=mH i hi;obtain⟨y,hy⟩:∃y,elems[i]? = aa y:=⟨elems[i]' ax,by simp[show i<ah elems by omega]⟩
    rw[hy,Option.bind_eq_some_iff]at hg;obtain⟨Ak, g1,g2⟩:=hg;obtain⟨a', ha⟩:=rd e h1 g2;exact⟨a', Ak, g1,ha⟩
   have all:∀k,k<=len->∃l:ao,ah l=k/\∀i y,l[i]? = aa y->∃Ak, w.cells? 0 (a.add (i*e.n)) e.n=aa Ak /\Rd w e Ak y:=by
    intro k
    induction k with
    |zero=>intro _;exact⟨[],rfl,aA⟩
    |succ k ih=>
     intro hk;obtain⟨l,l1,l2⟩:=ih ax
     obtain⟨a', Ak, c1,c2⟩:=each k ax
     refine⟨l ++ [a'],by simp[l1],λi y hi=>?_⟩
     by_cases hik:i<ah l
     .rw[dq hik]at hi;exact l2 i y hi
     .have:i<ah (l ++ [a']):=(dp.1 hi).1
      simp at this;obtain rfl:i=k:=ax
      rw[dW ax,l1]at hi
      simp at hi;subst hi;exact⟨Ak, c1,c2⟩
   obtain⟨l,l1,l2⟩:=all len (bG _);have aiT:∀y,y∈l->e.has y:=λy hy=>by
    obtain⟨i,hi⟩:=vX.1 hy;obtain⟨_,_,hr⟩:=l2 i y hi;exact hr.has
   have En:aY l=ad:=aiR λy hy=>by
    obtain⟨i,hi⟩:=vX.1 hy;obtain⟨_,_,hr⟩:=l2 i y hi;exact hr.loc
   have GP:VR (nu w) w.heap (.aX ae l) (.slice (aa a) len cap):=by
    unfold VR;refine⟨En,?_⟩
    by_cases hc0:cap=0
    .subst hc0
     obtain rfl:len=0:=ax
     exact .inl ⟨eK l1,aa a,rfl,aA⟩
    .have hb:a.spot=ab/\∃c el fz,w.heap[a.block]? = aa (.cells c el fz):=by
      by_cases hl0:0<len
      .obtain⟨_,Ak, c1,_⟩:=each 0 hl0
       rw[Nat.zero_mul,show a.add 0=a from rfl]at c1;obtain⟨q1,_,c,el,fz,q2,_⟩:=IM h3 c1;exact⟨q1,c,el,fz,q2⟩
      .obtain⟨r1,r2⟩:=N3 rfl
       have hg:=r2 0 ax
       obtain⟨y,hy⟩:∃y,rest[0]? = aa y:=⟨rest[0]' ax,by simp[show 0<ah rest by omega]⟩
       rw[hy,Option.bind_eq_some_iff]at hg;obtain⟨Ak, g1,_⟩:=hg;rw[show len+0=0 by omega,Nat.zero_mul,show a.add 0=a from rfl]at g1
       obtain⟨q1,_,c,el,fz,q2,_⟩:=IM h3 g1;exact⟨q1,c,el,fz,q2⟩
     obtain⟨hs,c,el,fz,hb⟩:=hb;refine .inr ⟨a.block,a.off,cap,e.n,c,el,fz,?_,ax,(kV.1 hb).1,hb,kF.of λi y hi=>?_⟩
     .rw[l1,<-hs]
     .obtain⟨Ak, c1,hr⟩:=l2 i y hi
      obtain⟨q1,q2,c', Da, fz', q3,q4⟩:=IM h3 c1;have eb:(a.add (i*e.n)).block=a.block/\(a.add (i*e.n)).off=a.off+i*e.n:=by
       unfold Addr.add;split
       .rename_i h0;rw[h0];exact⟨rfl,rfl⟩
       .exact⟨rfl,rfl⟩
      rw[eb.1,hb]at q3;simp only[ct,mw]at q3;obtain⟨rfl,_,_⟩:=q3;obtain⟨v,v1,v2⟩:=aiS hr.alone hr.vr hr.one;refine⟨v,v1,by rw[v2];simpa using q2,λj hj=>?_⟩
      have:=q4 j hj;rw[eb.2]at this;rw[this,v2,List.getElem?_toArray]
   exact⟨.aX ae l,Rd.scalar ⟨l,rfl,ax,aiT⟩ rfl GP rfl rfl rfl⟩
 |.st fs,n,t,cs,x,ht,h=>by
  have key:(∃gs,P.underlying t=aa (.struct gs)/\P.cellsOf t=Ty.ns fs/\jX P fs gs.toList 0=ad)\/∃k u,P.underlying t=aa (.array k u)/\P.cellsOf t=Ty.ns fs/\ah fs=k/\uM P fs u=ad:=by
   unfold ko at ht;split at ht
   .rename_i gs hu
    simp only[bd,dA]at ht;exact .inl ⟨gs,hu,ht.1,ht.2⟩
   .rename_i k u hu
    simp only[bd,dA]at ht;exact .inr ⟨k,u,hu,ht.1.1,ht.1.2,ht.2⟩
   .simp at ht
  rcases key with⟨gs,hu,h1,h2⟩|⟨k,u,hu,h1,hk,h2⟩
  case inr=>
   obtain⟨xs,m,_,_,hl,hlen,hf⟩:=DataW.trod_array hu h;obtain⟨as,a1,a2,a3,a4⟩:=rdA fs 0 h2 (cs:=cs) (λi hi=>by
    have:=hf i ax
    have cw:i<ah xs:=ax
    rw[dG cw]at this;exact⟨m,_,by rw[gQ];exact this⟩)
   have e:(cs.drop 0).take (Ty.ns fs)=cs:=by rw[mG,gN ax]
   rw[e]at a3 a4;exact⟨.agg (as.flatMap AV.cells),⟨⟨as,rfl,a1⟩,a2,a3,a4,by rw[hl,h1];rfl,.inl ⟨_,rfl⟩⟩⟩
  obtain⟨xs,m,_,_,hl,hlen,hf⟩:=DataW.trod_struct hu h;obtain⟨as,a1,a2,a3,a4⟩:=rdL fs 0 h2 (cs:=cs) (λi f hi=>by
   have ke : gs[i]? = aa f:=ox
   have:=hf i f ke;have cw:i<ah xs:=by rw[hlen];exact(kV.1 ke).1
   rw[dG cw]at this;exact⟨m,_,this⟩)
  have e:(cs.drop 0).take (Ty.ns fs)=cs:=by rw[mG,gN ax]
  rw[e]at a3 a4;exact⟨.agg (as.flatMap AV.cells),⟨⟨as,rfl,a1⟩,a2,a3,a4,by rw[hl,h1];rfl,.inl ⟨_,rfl⟩⟩⟩
theorem rdA:∀(fs:List Ty) (off:Nat){u:TypeId}{cs:List Value},uM P fs u=ad->
  (∀(i:Nat),i<ah fs->∃(n:Nat) (x:DataW H×List MemPlace),DataW.trod enc P w 0 (λ_=>ad) ad n u ((cs.drop (off+i*P.cellsOf u)).take (P.cellsOf u))=aa x)->
  ∃as,Ty.uN fs as/\aY (as.flatMap AV.cells)=ad/\cH (nu w) w.heap (as.flatMap AV.cells) ((cs.drop off).take (Ty.ns fs))/\∀y∈(cs.drop off).take (Ty.ns fs),y.oneCell' = ad
 | [],off,u,cs,b,j=>by
  refine⟨[],rfl,rfl,?_,?_⟩
  .rw[show Ty.ns []=0 from rfl,List.take_zero];rfl
  .rw[show Ty.ns []=0 from rfl,List.take_zero];simp
 |T::r,off,u,cs,b,j=>by
  simp only[uM,bd,dA]at b;obtain⟨⟨l,m⟩,o⟩:=b;obtain⟨n,x,h⟩:=j 0 aA
  rw[Nat.zero_mul,Nat.add_zero]at h;obtain⟨a,d⟩:=rd T m h;obtain⟨as,b1,p,q,s⟩:=rdA r (off+T.n) o (cs:=cs) λi z=>by
   obtain⟨n,x,h⟩:=j (i+1) aT
   refine⟨n,x,?_⟩;rw[<-l,show off+P.cellsOf u+i*P.cellsOf u=off+(i+1)*P.cellsOf u by rw[fG];omega]
   exact h
  have e:(cs.drop off).take (Ty.ns (T::r))=(cs.drop off).take T.n++(cs.drop (off+T.n)).take (Ty.ns r):=by
   rw[show Ty.ns (T::r)=T.n+Ty.ns r from rfl,List.take_add,List.drop_drop]
  rw[l]at d;refine⟨a::as,⟨a,as,rfl,d.has,b1⟩,?_,?_,?_⟩
  .rw[jD];exact SA (SB d.loc) p
  .rw[e,jD];exact d.vr.append q
  .rw[e]
   intro y g;rcases dI.1 g with g|g
   .exact d.one y g
   .exact s y g
theorem rdL:∀(fs:List Ty) (off:Nat){gs:List Field}{cs:List Value},jX P fs gs off=ad->
  (∀(i:Nat) (f:Field),gs[i]? = aa f->∃(n:Nat) (x:DataW H×List MemPlace),DataW.trod enc P w 0 (λ_=>ad) ad n f.type ((cs.drop f.offset).take (P.cellsOf f.type))=aa x)->
  ∃as,Ty.uN fs as/\aY (as.flatMap AV.cells)=ad/\cH (nu w) w.heap (as.flatMap AV.cells) ((cs.drop off).take (Ty.ns fs))/\∀y∈(cs.drop off).take (Ty.ns fs),y.oneCell' = ad
 | [],off,gs,cs,b,h=>by
  refine⟨[],rfl,rfl,?_,?_⟩
  .rw[show Ty.ns []=0 from rfl,List.take_zero];rfl
  .rw[show Ty.ns []=0 from rfl,List.take_zero];simp
 |T::r,off,gs,cs,b,h=>by
  cases gs with
  |nil=>simp[jX]at b
  |cons f s=>
   simp only[jX,bd,dA]at b;obtain⟨⟨⟨j,l⟩,m⟩,o⟩:=b;obtain⟨n,x,p⟩:=h 0 f rfl;obtain⟨a,d⟩:=rd T m p;obtain⟨as,b1,q,u,z⟩:=rdL r (off+T.n) o (cs:=cs) λi A B=>h (i+1) A (by simpa using B)
   have e:(cs.drop off).take (Ty.ns (T::r))=(cs.drop off).take T.n++(cs.drop (off+T.n)).take (Ty.ns r):=by
    rw[show Ty.ns (T::r)=T.n+Ty.ns r from rfl,List.take_add,List.drop_drop]
   rw[j,l]at d;refine⟨a::as,⟨a,as,rfl,d.has,b1⟩,?_,?_,?_⟩
   .rw[jD];exact SA (SB d.loc) q
   .rw[e,jD];exact d.vr.append u
   .rw[e]
    intro y g;rcases dI.1 g with g|g
    .exact d.one y g
    .exact z y g
end
def aiV{r:Reach}{A:Nat}{t:TypeId}{d:DataW H}{ps:List MemPlace}(i:ko P T t=ad) (b:Value.okWide P w r A t v) (h:DataW.Trod enc P w 0 (λ_=>ad) ad t v d ps) :
  ∃a,T.has a/\bC a=ad/\VR (nu w) w.heap a v:=by
 obtain⟨n,B⟩:=h;obtain⟨a,j⟩:=rd T i B;refine⟨a,j.has,j.loc,?_⟩
 by_cases o:∃fs,T = .st fs
 .obtain⟨fs,rfl⟩:=o
  obtain⟨xs,rfl,_⟩:=j.has;have g:(∃gs,P.underlying t=aa (.struct gs))\/∃k u,P.underlying t=aa (.array k u):=by
   unfold ko at i;split at i
   .exact .inl ⟨_,‹_›⟩
   .exact .inr ⟨_,_,‹_›⟩
   .simp at i
  have x:∃cs,v = .agg cs:=by
   rcases g with⟨gs,g⟩|⟨k,u,g⟩
   .simp only[Value.okWide,g]at b
    obtain⟨cs,rfl,_⟩:=b;exact⟨cs,rfl⟩
   .simp only[Value.okWide,g]at b
    obtain⟨cs,rfl,_⟩:=b;exact⟨cs,rfl⟩
  obtain⟨cs,rfl⟩:=x;unfold VR;exact⟨cs.toList,aA,j.vr,j.one⟩
 .have p:v.oneCell' = ad:=by
   cases T with
   |int=>
    have g:P.underlying t=aa (.int .i64):=by
     unfold ko at i;split at i<;>simp_all
    obtain⟨m,rfl⟩:=okWide_int g b;rfl
   |ik k=>
    have g:∃K,P.underlying t=aa (.int K):=by
     unfold ko at i;split at i
     .exact⟨_,‹_›⟩
     .simp at i
    obtain⟨K,g⟩:=g;obtain⟨m,rfl⟩:=okWide_int g b;rfl
   |bool=>
    have g:P.underlying t=aa .bool:=by
     unfold ko at i;split at i<;>simp_all
    obtain⟨m,rfl⟩:=okWide_bool g b;rfl
   |str=>
    have g:P.underlying t=aa .string:=by
     unfold ko at i;split at i<;>simp_all
    obtain⟨m,rfl⟩:=okWide_string g b;rfl
   |sl e=>
    have g:∃u,P.underlying t=aa (.slice u):=by
     unfold ko at i;split at i
     .exact⟨_,‹_›⟩
     .simp at i
    obtain⟨u,g⟩:=g;obtain⟨q,l,c,rfl⟩:=okWide_slice g b;rfl
   |st fs=>exact absurd ⟨fs,rfl⟩ o
  have y:=j.vr;rw[A6 p]at y;rcases j.alone with⟨l,rfl⟩|_
  .cases T with
   |st fs=>exact absurd ⟨fs,rfl⟩ o
   |_=>have:=j.has;simp[Ty.has]at this
  .have e:a.cells=[a]:=by
    cases a with
    |agg l=>
     cases T with
     |st fs=>exact absurd ⟨fs,rfl⟩ o
     |_=>have:=j.has;simp[Ty.has]at this
    |_=>rfl
   rw[e]at y;obtain⟨D, s,z,C,E⟩:=y;simp at z;obtain⟨rfl,rfl⟩:=z;exact C
def ss (P:Program):List Ty->List TypeId->Bool
 | [],[]=>ad
 |T::r,t::s=>ko P T t&&ss P r s
 |_,_=>ae
def SC:∀(Ts:List Ty){r:Reach}{m:Nat}{g:List TypeId}{vs:List Value}{ds:List (DataW H)}{ps:List MemPlace},ss P Ts g=ad->
  (∀(j:Nat) t v,g[j]? = aa t->vs[j]? = aa v->Value.okWide P w r m t v)->DataW.TrodAll enc P w 0 (λ_=>ad) ad g vs ds ps->∃as,Ty.uN Ts as/\aY as=ad/\cH (nu w) w.heap as vs
 | [],_,_,g,vs,ds,ps,i,e,h=>by
  cases g with
  |cons a b=>simp[ss]at i
  |nil=>
   obtain⟨rfl,rfl,rfl⟩:=trodAll_nil h;exact⟨[],rfl,rfl,rfl⟩
 |T::Ts,_,_,g,vs,ds,ps,i,e,h=>by
  cases g with
  |nil=>simp[ss]at i
  |cons t g=>
   simp only[ss,bd]at i;obtain⟨v,l, d,n, p,q,rfl,rfl,rfl,o,s⟩:=trodAll_cons h;obtain⟨a,u,x,y⟩:=aiV i.1 (e 0 t v rfl rfl) o;obtain⟨as,b1,z,A⟩:=SC Ts i.2 (λj B C D E=>e (j+1) B C (by simpa using D) (by simpa using E)) s
   exact⟨a::as,⟨a,as,rfl,u,b1⟩,by simp[aY,x,z],v,l, rfl,y,A⟩
end
def Eo (s:ChangeSpec) (k:Nat):Prop:=s.vars=[]/\∀(H:Type) (a:List (DataW H)),ah a=k->s.fn H a={results:=[.lit (.bool ad)],args:=a}
def SD{H:Type}{enc:TypeId×Value->H}{w:World}{b:Nat}{sp:Nat->Bool}{hd:Bool}:∀{a:List TypeId}{vs:List Value}{ds:List (DataW H)}{ps:List MemPlace},DataW.TrodAll enc P w b sp hd a vs ds ps->ah ds=ah a
 | [],vs,ds,ps,h=>by obtain⟨rfl,rfl,rfl⟩:=trodAll_nil h;rfl
 |t::a,vs,ds,ps,h=>by
  obtain⟨v,e, d,g, p,q,rfl,rfl,rfl,j,i⟩:=trodAll_cons h;simp[SD i]
def IP{H:Type}{enc:TypeId×Value->H}{W i : World}(j:laidOutB P=ad) (l:Below W.heap.size W i):∀{e:List TypeId}{vs:List Value}{ds:List (DataW H)}{ps:List MemPlace}{sp:Nat->Bool},
  (e.all λt=>P.readableRec t&&decide (t<P.types.size))=ad->(∀p∈ps,p.block<W.heap.size)->(∀p∈ps,sp p.block=ad)->DataW.TrodAll enc P W 0 (λ_=>ad) ad e vs ds ps->DataW.TrodAll enc P i 0 sp ad e vs ds ps
 | [],vs,ds,ps,sp,_,_,_,h=>by obtain⟨rfl,rfl,rfl⟩:=trodAll_nil h;rfl
 |t::e,vs,ds,ps,sp,g,b,m,h=>by
  obtain⟨v,n, d,o, p,q,rfl,rfl,rfl,r,s⟩:=trodAll_cons h;simp only[List.all_cons,bd,fy]at g;refine trodAll_cons_mk (WideElems.Trod_stays j g.1.1 g.1.2 r (λx a=>l.same (b x gf)) λx a=>m x gf) ?_
  exact IP j l (by simpa using g.2) (λx a=>b x gf) (λx a=>m x gf) s
def SE (w:World):Good (nu w) w:=
 ⟨λk h=>h,λb u B id h=>sX,λb u B id h=>sX,λb u B id d e g a h=>sX,λb u B id es h=>sX⟩
def tu{H:Type}{enc:TypeId×Value->H}{ce:CE}(G:cR P ce){f:FuncId}{fn:Func}{s:ChangeSpec}{apart fresh handsOn again:Bool}{Ts:List Ty}{tb:TypeId}
  (T:Eo s fn.params.size) (M:laidOutB P=ad) (I:ss P Ts fn.params.toList=ad) (o:(fn.params.toList.all λt=>P.readableRec t&&decide (t<P.types.size))=ad)
  (i:fn.resultTypes = #[tb]) (r:P.underlying tb=aa .bool)
  {W:World} {U:Nat} {args:Array Value} {ds gs:List (DataW H)} {before:List MemPlace}
  (w:∀(j:Nat) t v,fn.params[j]? = aa t->args[j]? = aa v->Value.okWide P W .any U t v)
  (N:DataW.Whole enc P fn.params.toList s.vars apart W args.toList ds gs before)
  (law:∀as,Ty.uN Ts as->aY as=ad->∃m, ce f as []=aa (.bool ad,m)) :
  Calls P f args W λe D =>∃v,e = .returned v/\s.post enc P fn apart fresh handsOn again W args v D :=by
 obtain⟨n,J⟩:=T;have y:=N;obtain⟨p,q,E,O,rfl,K,L⟩:=N;rw[n]at O;obtain⟨rfl,rfl⟩:=trodVars_none O;have g:∀x∈p,x.block<W.heap.size:=λx l=>y.lt x (by simp[l])
 obtain⟨as,V,X,Y⟩:=SC Ts I (λj t v Z z=>w j t v (by simpa using Z) (by simpa using z)) E
 obtain⟨m, A⟩:=law as V X;have Q:=G f as [] (.bool ad) m A (λ_=>0) (λk=>k<W.heap.size) W args.toList (SE W) Y;simp only[Array.toArray_toList]at Q;refine Q.mono λe D ⟨v,R, I', he,NU, z,d⟩=>⟨v,he,?_⟩;have z:v = .bool ad:=z;subst z;have F:Below W.heap.size W D :=⟨d.os,d.tape.1,d.output,d.size,λk hk=>d.frame k hk (λ⟨b,u,B,h,_⟩=>eS)⟩
 have a:s.fn H (ds ++ [])={results:=[.lit (.bool ad)],args:=ds}:=by
  rw[List.append_nil];exact J H ds (by rw[SD E];simp)
 have S:∀(b:Nat) (sp:Nat->Bool) (hd:Bool),DataW.TrodAll enc P D b sp hd fn.resultTypes.toList ((Value.bool ad).resultList fn.resultTypes.size) [.lit (.bool ad)] []:=λb sp hd=>by
  rw[i];exact trodAll_cons_mk (shut_bool r ad) trodAll_mk0
 refine⟨ds,[],p ++ [],[],p,[],y,by rw[a];exact S _ _ _,by rw[a];exact IP M F o g (λx l=>by simpa using g x l) E,by rw[a,n];rfl,World.keptBut_mono (λx l=>⟨l,.inr (.inl (by simpa using l))⟩) (F.frame (·∈p ++ [])),λ_=>?_⟩
 refine⟨ok_one i rfl (okWide_bool_mk r _),_,[],([]++p) ++ [],⟨[]++p,[],trodAll_append (IP M F o g (λ_ _=>rfl) E) (S _ _ _),by rw[n];rfl,rfl,?_,?_⟩,?_⟩
 .intro b off hp
  have C:MemPlace.cell b off∈p:=by simpa using hp
  rw[F.frozen (g _ C)];exact K b off (by simpa using C)
 .intro ha
  have:=L ha;simpa using this
 .intro x l _
  simpa using l
end Ab
