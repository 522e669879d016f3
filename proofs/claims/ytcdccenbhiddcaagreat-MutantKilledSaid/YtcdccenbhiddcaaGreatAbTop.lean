/- From the interpreter's answer to a given row's statement: arguments that read as data are abstract values; a law that the interpreter finds true returns true and leaves all as it was. Condition: the checks of types and functions, which are closed facts. -/
import Derived.Carry
import Derived.ChangeSame
import Derived.ProofKit
import Derived.OpenShut
import Derived.Test.YtcdccenbhiddcaaGreatAbC
import Derived.Test.YtcdccenbhiddcaaGreatAbL
set_option linter.all false
namespace Ab
open Go Go.ChangeShapes Go.WideShapes Go.RowKit
variable{P:Program}
inductive Ty where
 |int|bool|str
 |ik (k:Nat)
 |sl (e:Ty)
 |st (fs:List Ty)
mutual
def Ty.n:Ty->Nat
 |.st fs=>Ty.ns fs
 |_=>1
def Ty.ns:List Ty->Nat
 | []=>0
 |t::r=>t.n+Ty.ns r
end
mutual
def fA (P:Program):Ty->TypeId->Bool
 |.int,t=>match P.underlying t with
  |some (.int .i64)=>true
  |_=>false
 |.bool,t=>match P.underlying t with
  |some .bool=>true
  |_=>false
 |.str,t=>match P.underlying t with
  |some .string=>true
  |_=>false
 |.ik k,t=>match P.underlying t with
  |some (.int K)=>decide (jy k=some K)
  |_=>false
 |.sl e,t=>match P.underlying t with
  |some (.slice u)=>fA P e u&&P.cellsOf u==e.n&&decide (0<e.n)
  |_=>false
 |.st fs,t=>match P.underlying t with
  |some (.struct gs)=>P.cellsOf t==Ty.ns fs&&fi P fs gs.toList 0
  |some (.array n u)=>P.cellsOf t==Ty.ns fs&&fs.length==n&&nw P fs u
  |_=>false
def nw (P:Program):List Ty->TypeId->Bool
 | [],_=>true
 |T::r,u=>P.cellsOf u==T.n&&fA P T u&&nw P r u
def fi (P:Program):List Ty->List Field->Nat->Bool
 | [],[],_=>true
 |T::r,f::s,off=>f.offset==off&&P.cellsOf f.type==T.n&&fA P T f.type&&fi P r s (off+T.n)
 |_,_,_=>false
end
def inK (k:Nat) (n:Int):Bool:=match jy k with
 |some K=>decide (K.min<=n)&&decide (n<=K.max)
 |none=>false
mutual
def Ty.has:Ty->AV->Prop
 |.int,x=>∃n,x = .int n/\mA n=true
 |.bool,x=>∃b,x = .bool b
 |.str,x=>∃s,x = .str s
 |.ik k,x=>∃n,x = .ik k n/\inK k n=true
 |.sl e,x=>∃l,x = .aA false l/\l.length<=maxLen/\∀y,y∈l->e.has y
 |.st fs,x=>∃xs,x = .agg (xs.flatMap AV.cells)/\Ty.ny fs xs
def Ty.ny:List Ty->List AV->Prop
 | [],xs=>xs=[]
 |T::r,xs=>∃x s,xs=x::s/\T.has x/\Ty.ny r s
end
variable{l:List AV}
def F6{m:List AV}(h:aq l=true) (k:aq m=true):aq (l++m)=true:=by
 induction l with
 |nil=>exact k
 |cons a r b=>
  simp only[aq,aD,kU]at h ⊢;exact⟨h.1,b h.2⟩
variable{x:AV}
def F7(h:aB x=true):aq x.cells=true:=by
 cases x<;>simp_all [AV.cells,aq,aB]
def Uq(h:∀y,y∈l->aB y=true):aq l=true:=by
 induction l with
 |nil=>rfl
 |cons a r b=>
  simp only[aq,aD];exact⟨h a ab,b λy d=>h y cW⟩
def iE (w:World):Ctx:=ad [] (λ_=>0) (λk=>k<w.heap.size)
variable{cs:List Value}
def Ur{C:Ctx}{H:Array Obj}(a:(∃l,x = .agg l)\/∃v,cs=[v]) (h:bm C H x.cells cs) (d:∀y∈cs,y.oneCell' = true):∃v,VR C H x v/\v.cells=cs.toArray:=by
 by_cases b:∃l,x = .agg l
 .obtain⟨l,rfl⟩:=b
  exact⟨.agg cs.toArray,by unfold VR;exact⟨cs,rfl,h,d⟩,rfl⟩
 .have e:x.cells=[x]:=by cases x<;>first|rfl|exact absurd ⟨_,rfl⟩ b
  rcases a with a|⟨v,rfl⟩
  .exact absurd a b
  .rw[e]at h
   obtain⟨i, s,f,g,j⟩:=h;simp at f;obtain⟨rfl,rfl⟩:=f;exact⟨v,g,by rw[rI (d v ab)]⟩
def x5{w:World}{a:Addr}{k:Nat}(n:0<k) (h:w.cells? 0 a k=some cs) :
  a.spot=none/\cs.length=k/\∃c el f,w.heap[a.block]? = some (.cells c el f)/\∀j,j<k->c[a.off+j]? = cs[j]?:=by
 unfold World.cells? at h;simp only[Nat.zero_le,cn]at h;have i:=mapM_some_length h;have l:=λj (g:j<k)=>mapM_some_get h j j (by simp[g])
 simp only[List.length_range]at i;have b:=l 0 n;obtain⟨v,p⟩:∃v,cs[0]? = some v:=⟨cs[0]' aa,by simp[show 0<cs.length by omega]⟩
 rw[p]at b;simp only[World.cell?,Addr.add,cn]at b;cases d:w.heap[a.block]? with
 |none=>simp[d]at b
 |some o=>
  cases o with
  |cells c el f=>
   have m:a.spot=none:=by
    cases r:a.spot with
    |none=>rfl
    |some q=>simp[d,r]at b
   refine⟨m,i,c,el,f,rfl,λj g=>?_⟩;have:=l j g;rw[<-this];simp only[World.cell?,Addr.add]
   by_cases e:j=0
   .subst e;simp[d,m]
   .simp[e,d]
  |_=>simp[d]at b
section
variable{H:Type}{enc:TypeId×Value->H}{w:World}
structure Rd (w:World) (T:Ty) (cs:List Value) (a:AV):Prop where
 has:T.has a
 loc:aB a=true
 vr:bm (iE w) w.heap a.cells cs
 one:∀y∈cs,y.oneCell' = true
 len:cs.length=T.n
 alone:(∃l,a = .agg l)\/∃v,cs=[v]
variable{T:Ty}{v:Value}
def Rd.scalar{a:AV}(Y:T.has a) (h2:aB a=true) (h3:VR (iE w) w.heap a v) (h4:v.oneCell' = true) (h5:T.n=1) (h6:a.cells=[a]):Rd w T [v] a:=
 ⟨Y,h2,by rw[h6];exact⟨v,[],rfl,h3,rfl⟩,by simpa using h4,by simp[h5],.inr ⟨v,rfl⟩⟩
mutual
theorem rd:∀(T:Ty){n:Nat}{t:TypeId}{cs:List Value}{x:DataW H×List MemPlace},fA P T t=true->DataW.trod enc P w 0 (λ_=>true) true n t cs=some x->∃a,Rd w T cs a
 |.int,n,t,cs,x,ht,h=>by
  have hu:P.underlying t=some (.int .i64):=by
   unfold fA at ht;split at ht<;>simp_all
  obtain⟨m,rfl,_,hw⟩:=DataW.trod_int hu h;refine⟨.int m,Rd.scalar ⟨m,rfl,?_⟩ rfl rfl rfl rfl rfl⟩;have:=by simpa[Lit.wf,IntKind.min,IntKind.max,IntKind.signed,IntKind.bits]using hw
  simp only[mA,aD,cO];omega
 |.bool,n,t,cs,x,ht,h=>by
  have hu:P.underlying t=some .bool:=by
   unfold fA at ht;split at ht<;>simp_all
  obtain⟨m,rfl,_⟩:=DataW.trod_bool hu h;exact⟨.bool m,Rd.scalar ⟨m,rfl⟩ rfl rfl rfl rfl rfl⟩
 |.str,n,t,cs,x,ht,h=>by
  have hu:P.underlying t=some .string:=by
   unfold fA at ht;split at ht<;>simp_all
  obtain⟨m,rfl,_⟩:=DataW.trod_string hu h;exact⟨.str m.data.toList,Rd.scalar ⟨_,rfl⟩ rfl (by unfold VR;simp) rfl rfl rfl⟩
 |.ik k,n,t,cs,x,ht,h=>by
  have hu:∃K,P.underlying t=some (.int K)/\jy k=some K:=by
   unfold fA at ht;split at ht
   .rename_i K h1;exact⟨K,h1,by simpa using ht⟩
   .simp at ht
  obtain⟨K,hu,hk⟩:=hu;obtain⟨m,rfl,_,hw⟩:=DataW.trod_int hu h;refine⟨.ik k m,Rd.scalar ⟨m,rfl,?_⟩ rfl (by unfold VR;exact⟨K,hk,rfl⟩) rfl rfl rfl⟩
  unfold inK;rw[hk];have:=by simpa[Lit.wf]using hw
  simp only[aD,cO];omega
 |.sl e,n,t,cs,x,ht,h=>by
  have key:∃u,P.underlying t=some (.slice u)/\fA P e u=true/\P.cellsOf u=e.n/\0<e.n:=by
   unfold fA at ht;split at ht
   .rename_i u hu
    simp only[aD,bJ,cO]at ht;exact⟨u,hu,ht.1.1,ht.1.2,ht.2⟩
   .simp at ht
  obtain⟨u,hu,h1,h2,h3⟩:=key;rcases DataW.trod_slice hu h with⟨rfl,_⟩|⟨a,len,cap,elems,rest,m,_,rfl,_,_,hl,hm,xJ,jU,hsp,_⟩
  .exact⟨.aA false [],Rd.scalar ⟨[],rfl,ab,ab⟩ rfl (by unfold VR;exact⟨rfl,.inl ⟨rfl,none,rfl,ab⟩⟩) rfl rfl rfl⟩
  .rw[h2]at jU hsp
   have each:∀i,i<len->∃a' qL, w.cells? 0 (a.add (i*e.n)) e.n=some qL /\Rd w e qL a' :=λi hi=>by
    have hg:=jU i hi;obtain⟨y,hy⟩:∃y,elems[i]? = some y:=⟨elems[i]' aa,by simp[show i<elems.length by omega]⟩
    rw[hy,dX]at hg;obtain⟨qL, g1,g2⟩:=hg;obtain⟨a', ha⟩:=rd e h1 g2;exact⟨a', qL, g1,ha⟩
   have all:∀k,k<=len->∃l:List AV,l.length=k/\∀i y,l[i]? = some y->∃qL, w.cells? 0 (a.add (i*e.n)) e.n=some qL /\Rd w e qL y:=by
    intro k
    induction k with
    |zero=>intro _;exact⟨[],rfl,ab⟩
    |succ k ih=>
     intro hk;obtain⟨l,l1,l2⟩:=ih aa
     obtain⟨a', qL, c1,c2⟩:=each k aa
     refine⟨l ++ [a'],by simp[l1],λi y hi=>?_⟩
     by_cases hik:i<l.length
     .rw[dG hik]at hi;exact l2 i y hi
     .have:i<(l ++ [a']).length:=(cM.1 hi).1
      simp at this;obtain rfl:i=k:=aa
      rw[fk aa,l1]at hi
      simp at hi;subst hi;exact⟨qL, c1,c2⟩
   obtain⟨l,l1,l2⟩:=all len (aY _);have Us:∀y,y∈l->e.has y:=λy hy=>by
    obtain⟨i,hi⟩:=List.mem_iff_getElem?.1 hy;obtain⟨_,_,hr⟩:=l2 i y hi;exact hr.has
   have Ut:aq l=true:=Uq λy hy=>by
    obtain⟨i,hi⟩:=List.mem_iff_getElem?.1 hy;obtain⟨_,_,hr⟩:=l2 i y hi;exact hr.loc
   have x6:VR (iE w) w.heap (.aA false l) (.slice (some a) len cap):=by
    unfold VR;refine⟨Ut,?_⟩
    by_cases K0:cap=0
    .subst K0
     obtain rfl:len=0:=aa
     exact .inl ⟨fY l1,some a,rfl,ab⟩
    .have hb:a.spot=none/\∃c el fz,w.heap[a.block]? = some (.cells c el fz):=by
      by_cases L6:0<len
      .obtain⟨_,qL, c1,_⟩:=each 0 L6
       rw[Nat.zero_mul,show a.add 0=a from rfl]at c1;obtain⟨q1,_,c,el,fz,q2,_⟩:=x5 h3 c1;exact⟨q1,c,el,fz,q2⟩
      .obtain⟨r1,r2⟩:=hsp rfl
       have hg:=r2 0 aa
       obtain⟨y,hy⟩:∃y,rest[0]? = some y:=⟨rest[0]' aa,by simp[show 0<rest.length by omega]⟩
       rw[hy,dX]at hg;obtain⟨qL, g1,_⟩:=hg;rw[show len+0=0 by omega,Nat.zero_mul,show a.add 0=a from rfl]at g1
       obtain⟨q1,_,c,el,fz,q2,_⟩:=x5 h3 g1;exact⟨q1,c,el,fz,q2⟩
     obtain⟨hs,c,el,fz,hb⟩:=hb;refine .inr ⟨a.block,a.off,cap,e.n,c,el,fz,?_,aa,(eK.1 hb).1,hb,fF.of λi y hi=>?_⟩
     .rw[l1,<-hs]
     .obtain⟨qL, c1,hr⟩:=l2 i y hi
      obtain⟨q1,q2,c', wO, fz', q3,q4⟩:=x5 h3 c1;have eb:(a.add (i*e.n)).block=a.block/\(a.add (i*e.n)).off=a.off+i*e.n:=by
       unfold Addr.add;split
       .rename_i h0;rw[h0];exact⟨rfl,rfl⟩
       .exact⟨rfl,rfl⟩
      rw[eb.1,hb]at q3;simp only[aS,jh]at q3;obtain⟨rfl,_,_⟩:=q3;obtain⟨v,v1,v2⟩:=Ur hr.alone hr.vr hr.one;refine⟨v,v1,by rw[v2];simpa using q2,λj hj=>?_⟩
      have:=q4 j hj;rw[eb.2]at this;rw[this,v2,oa]
   exact⟨.aA false l,Rd.scalar ⟨l,rfl,aa,Us⟩ rfl x6 rfl rfl rfl⟩
 |.st fs,n,t,cs,x,ht,h=>by
  have key:(∃gs,P.underlying t=some (.struct gs)/\P.cellsOf t=Ty.ns fs/\fi P fs gs.toList 0=true)\/∃k u,P.underlying t=some (.array k u)/\P.cellsOf t=Ty.ns fs/\fs.length=k/\nw P fs u=true:=by
   unfold fA at ht;split at ht
   .rename_i gs hu
    simp only[aD,bJ]at ht;exact .inl ⟨gs,hu,ht.1,ht.2⟩
   .rename_i k u hu
    simp only[aD,bJ]at ht;exact .inr ⟨k,u,hu,ht.1.1,ht.1.2,ht.2⟩
   .simp at ht
  rcases key with⟨gs,hu,h1,h2⟩|⟨k,u,hu,h1,hk,h2⟩
  case inr=>
   obtain⟨xs,m,_,_,hl,hlen,hf⟩:=DataW.trod_array hu h;obtain⟨as,a1,a2,a3,a4⟩:=rdA fs 0 h2 (cs:=cs) (λi hi=>by
    have:=hf i aa
    have bP:i<xs.length:=aa
    rw[cG bP]at this;exact⟨m,_,by rw[eL];exact this⟩)
   have e:(cs.drop 0).take (Ty.ns fs)=cs:=by rw[iF,hJ aa]
   rw[e]at a3 a4;exact⟨.agg (as.flatMap AV.cells),⟨⟨as,rfl,a1⟩,a2,a3,a4,by rw[hl,h1];rfl,.inl ⟨_,rfl⟩⟩⟩
  obtain⟨xs,m,_,_,hl,hlen,hf⟩:=DataW.trod_struct hu h;obtain⟨as,a1,a2,a3,a4⟩:=rdL fs 0 h2 (cs:=cs) (λi f hi=>by
   have ja : gs[i]? = some f:=by simpa using hi
   have:=hf i f ja;have bP:i<xs.length:=by rw[hlen];exact(eK.1 ja).1
   rw[cG bP]at this;exact⟨m,_,this⟩)
  have e:(cs.drop 0).take (Ty.ns fs)=cs:=by rw[iF,hJ aa]
  rw[e]at a3 a4;exact⟨.agg (as.flatMap AV.cells),⟨⟨as,rfl,a1⟩,a2,a3,a4,by rw[hl,h1];rfl,.inl ⟨_,rfl⟩⟩⟩
theorem rdA:∀(fs:List Ty) (off:Nat){u:TypeId}{cs:List Value},nw P fs u=true->
  (∀(i:Nat),i<fs.length->∃(n:Nat) (x:DataW H×List MemPlace),DataW.trod enc P w 0 (λ_=>true) true n u ((cs.drop (off+i*P.cellsOf u)).take (P.cellsOf u))=some x)->
  ∃as,Ty.ny fs as/\aq (as.flatMap AV.cells)=true/\bm (iE w) w.heap (as.flatMap AV.cells) ((cs.drop off).take (Ty.ns fs))/\∀y∈(cs.drop off).take (Ty.ns fs),y.oneCell' = true
 | [],off,u,cs,b,h=>by
  refine⟨[],rfl,rfl,?_,?_⟩
  .rw[show Ty.ns []=0 from rfl,List.take_zero];rfl
  .rw[show Ty.ns []=0 from rfl,List.take_zero];simp
 |T::r,off,u,cs,b,h=>by
  simp only[nw,aD,bJ]at b;obtain⟨⟨j,l⟩,m⟩:=b;obtain⟨n,x,g⟩:=h 0 ab
  rw[Nat.zero_mul,Nat.add_zero]at g;obtain⟨a,d⟩:=rd T l g;obtain⟨as,b1,o,p,q⟩:=rdA r (off+T.n) m (cs:=cs) λi s=>by
   obtain⟨n,x,g⟩:=h (i+1) ai
   refine⟨n,x,?_⟩;rw[<-j,show off+P.cellsOf u+i*P.cellsOf u=off+(i+1)*P.cellsOf u by rw[fa];omega]
   exact g
  have e:(cs.drop off).take (Ty.ns (T::r))=(cs.drop off).take T.n++(cs.drop (off+T.n)).take (Ty.ns r):=by
   rw[show Ty.ns (T::r)=T.n+Ty.ns r from rfl,List.take_add,List.drop_drop]
  rw[j]at d;refine⟨a::as,⟨a,as,rfl,d.has,b1⟩,?_,?_,?_⟩
  .rw[gR];exact F6 (F7 d.loc) o
  .rw[e,gR];exact d.vr.append p
  .rw[e]
   intro y f;rcases cp.1 f with f|f
   .exact d.one y f
   .exact q y f
theorem rdL:∀(fs:List Ty) (off:Nat){gs:List Field}{cs:List Value},fi P fs gs off=true->
  (∀(i:Nat) (f:Field),gs[i]? = some f->∃(n:Nat) (x:DataW H×List MemPlace),DataW.trod enc P w 0 (λ_=>true) true n f.type ((cs.drop f.offset).take (P.cellsOf f.type))=some x)->
  ∃as,Ty.ny fs as/\aq (as.flatMap AV.cells)=true/\bm (iE w) w.heap (as.flatMap AV.cells) ((cs.drop off).take (Ty.ns fs))/\∀y∈(cs.drop off).take (Ty.ns fs),y.oneCell' = true
 | [],off,gs,cs,b,h=>by
  refine⟨[],rfl,rfl,?_,?_⟩
  .rw[show Ty.ns []=0 from rfl,List.take_zero];rfl
  .rw[show Ty.ns []=0 from rfl,List.take_zero];simp
 |T::r,off,gs,cs,b,h=>by
  cases gs with
  |nil=>simp[fi]at b
  |cons f s=>
   simp only[fi,aD,bJ]at b;obtain⟨⟨⟨j,l⟩,m⟩,o⟩:=b;obtain⟨n,x,p⟩:=h 0 f rfl;obtain⟨a,d⟩:=rd T m p;obtain⟨as,b1,q,u,z⟩:=rdL r (off+T.n) o (cs:=cs) λi A B=>h (i+1) A (by simpa using B)
   have e:(cs.drop off).take (Ty.ns (T::r))=(cs.drop off).take T.n++(cs.drop (off+T.n)).take (Ty.ns r):=by
    rw[show Ty.ns (T::r)=T.n+Ty.ns r from rfl,List.take_add,List.drop_drop]
   rw[j,l]at d;refine⟨a::as,⟨a,as,rfl,d.has,b1⟩,?_,?_,?_⟩
   .rw[gR];exact F6 (F7 d.loc) q
   .rw[e,gR];exact d.vr.append u
   .rw[e]
    intro y g;rcases cp.1 g with g|g
    .exact d.one y g
    .exact z y g
end
def Uu{r:Reach}{A:Nat}{t:TypeId}{d:DataW H}{ps:List MemPlace}(g:fA P T t=true) (b:Value.okWide P w r A t v) (h:DataW.Trod enc P w 0 (λ_=>true) true t v d ps) :
  ∃a,T.has a/\aB a=true/\VR (iE w) w.heap a v:=by
 obtain⟨n,B⟩:=h;obtain⟨a,i⟩:=rd T g B;refine⟨a,i.has,i.loc,?_⟩
 by_cases j:∃o,T = .st o
 .obtain⟨o,rfl⟩:=j
  obtain⟨xs,rfl,_⟩:=i.has;have f:(∃gs,P.underlying t=some (.struct gs))\/∃k u,P.underlying t=some (.array k u):=by
   unfold fA at g;split at g
   .exact .inl ⟨_,‹_›⟩
   .exact .inr ⟨_,_,‹_›⟩
   .simp at g
  have x:∃cs,v = .agg cs:=by
   rcases f with⟨gs,f⟩|⟨k,u,f⟩
   .simp only[Value.okWide,f]at b
    obtain⟨cs,rfl,_⟩:=b;exact⟨cs,rfl⟩
   .simp only[Value.okWide,f]at b
    obtain⟨cs,rfl,_⟩:=b;exact⟨cs,rfl⟩
  obtain⟨cs,rfl⟩:=x;unfold VR;exact⟨cs.toList,ab,i.vr,i.one⟩
 .have p:v.oneCell' = true:=by
   cases T with
   |int=>
    have f:P.underlying t=some (.int .i64):=by
     unfold fA at g;split at g<;>simp_all
    obtain⟨m,rfl⟩:=okWide_int f b;rfl
   |ik k=>
    have f:∃K,P.underlying t=some (.int K):=by
     unfold fA at g;split at g
     .exact⟨_,‹_›⟩
     .simp at g
    obtain⟨K,f⟩:=f;obtain⟨m,rfl⟩:=okWide_int f b;rfl
   |bool=>
    have f:P.underlying t=some .bool:=by
     unfold fA at g;split at g<;>simp_all
    obtain⟨m,rfl⟩:=okWide_bool f b;rfl
   |str=>
    have f:P.underlying t=some .string:=by
     unfold fA at g;split at g<;>simp_all
    obtain⟨m,rfl⟩:=okWide_string f b;rfl
   |sl e=>
    have f:∃u,P.underlying t=some (.slice u):=by
     unfold fA at g;split at g
     .exact⟨_,‹_›⟩
     .simp at g
    obtain⟨u,f⟩:=f;obtain⟨q,l,c,rfl⟩:=okWide_slice f b;rfl
   |st o=>exact absurd ⟨o,rfl⟩ j
  have y:=i.vr;rw[rI p]at y;rcases i.alone with⟨l,rfl⟩|_
  .cases T with
   |st o=>exact absurd ⟨o,rfl⟩ j
   |_=>have:=i.has;simp[Ty.has]at this
  .have e:a.cells=[a]:=by
    cases a with
    |agg l=>
     cases T with
     |st o=>exact absurd ⟨o,rfl⟩ j
     |_=>have:=i.has;simp[Ty.has]at this
    |_=>rfl
   rw[e]at y;obtain⟨D, s,z,C,E⟩:=y;simp at z;obtain⟨rfl,rfl⟩:=z;exact C
def lJ (P:Program):List Ty->List TypeId->Bool
 | [],[]=>true
 |T::r,t::s=>fA P T t&&lJ P r s
 |_,_=>false
def F8:∀(Ts:List Ty){r:Reach}{l:Nat}{f:List TypeId}{vs:List Value}{ds:List (DataW H)}{ps:List MemPlace},lJ P Ts f=true->
  (∀(j:Nat) t v,f[j]? = some t->vs[j]? = some v->Value.okWide P w r l t v)->DataW.TrodAll enc P w 0 (λ_=>true) true f vs ds ps->∃as,Ty.ny Ts as/\aq as=true/\bm (iE w) w.heap as vs
 | [],_,_,f,vs,ds,ps,g,e,h=>by
  cases f with
  |cons a b=>simp[lJ]at g
  |nil=>
   obtain⟨rfl,rfl,rfl⟩:=trodAll_nil h;exact⟨[],rfl,rfl,rfl⟩
 |T::Ts,_,_,f,vs,ds,ps,g,e,h=>by
  cases f with
  |nil=>simp[lJ]at g
  |cons t f=>
   simp only[lJ,aD]at g;obtain⟨v,i, d,m, p,q,rfl,rfl,rfl,n,o⟩:=trodAll_cons h;obtain⟨a,s,u,x⟩:=Uu g.1 (e 0 t v rfl rfl) n;obtain⟨as,b1,y,z⟩:=F8 Ts g.2 (λj A B C D=>e (j+1) A B (by simpa using C) (by simpa using D)) o
   exact⟨a::as,⟨a,as,rfl,s,b1⟩,by simp[aq,u,y],v,i, rfl,x,z⟩
end
def ur (s:ChangeSpec) (k:Nat):Prop:=s.vars=[]/\∀(H:Type) (a:List (DataW H)),a.length=k->s.fn H a={results:=[.lit (.bool true)],args:=a}
def F9{H:Type}{enc:TypeId×Value->H}{w:World}{b:Nat}{sp:Nat->Bool}{e:Bool}:∀{a:List TypeId}{vs:List Value}{ds:List (DataW H)}{ps:List MemPlace},DataW.TrodAll enc P w b sp e a vs ds ps->ds.length=a.length
 | [],vs,ds,ps,h=>by obtain⟨rfl,rfl,rfl⟩:=trodAll_nil h;rfl
 |t::a,vs,ds,ps,h=>by
  obtain⟨v,f, d,g, p,q,rfl,rfl,rfl,j,i⟩:=trodAll_cons h;simp[F9 i]
def x7{H:Type}{enc:TypeId×Value->H}{W g : World}(i:laidOutB P=true) (j:Below W.heap.size W g):∀{e:List TypeId}{vs:List Value}{ds:List (DataW H)}{ps:List MemPlace}{sp:Nat->Bool},
  (e.all λt=>P.readableRec t&&decide (t<P.types.size))=true->(∀p∈ps,p.block<W.heap.size)->(∀p∈ps,sp p.block=true)->DataW.TrodAll enc P W 0 (λ_=>true) true e vs ds ps->DataW.TrodAll enc P g 0 sp true e vs ds ps
 | [],vs,ds,ps,sp,_,_,_,h=>by obtain⟨rfl,rfl,rfl⟩:=trodAll_nil h;rfl
 |t::e,vs,ds,ps,sp,f,b,l,h=>by
  obtain⟨v,m, d,n, p,q,rfl,rfl,rfl,o,r⟩:=trodAll_cons h;simp only[List.all_cons,aD,cO]at f;refine trodAll_cons_mk (WideElems.Trod_stays i f.1.1 f.1.2 o (λx a=>j.same (b x (by simp[a]))) λx a=>l x (by simp[a])) ?_
  exact x7 i j (by simpa using f.2) (λx a=>b x (by simp[a])) (λx a=>l x (by simp[a])) r
def Ga (w:World):Good (iE w) w:=
 ⟨λk h=>h,λb u B id h=>l7,λb u B id h=>l7,λb u B id d e f a h=>l7,λb u B id es h=>l7⟩
def mi{H:Type}{enc:TypeId×Value->H}{ce:CE}(F:bn P ce){f:FuncId}{fn:Func}{s:ChangeSpec}{apart fresh handsOn again:Bool}{Ts:List Ty}{tb:TypeId}
  (T:ur s fn.params.size) (L:laidOutB P=true) (G:lJ P Ts fn.params.toList=true) (n:(fn.params.toList.all λt=>P.readableRec t&&decide (t<P.types.size))=true)
  (i:fn.resultTypes = #[tb]) (o:P.underlying tb=some .bool)
  {W:World} {U:Nat} {args:Array Value} {ds gs:List (DataW H)} {before:List MemPlace}
  (r:∀(j:Nat) t v,fn.params[j]? = some t->args[j]? = some v->Value.okWide P W .any U t v)
  (M:DataW.Whole enc P fn.params.toList s.vars apart W args.toList ds gs before)
  (law:∀as,Ty.ny Ts as->aq as=true->∃σ', ce f as []=some (.bool true,σ')) :
  Calls P f args W λe C =>∃v,e = .returned v/\s.post enc P fn apart fresh handsOn again W args v C :=by
 obtain⟨m,I⟩:=T;have w:=M;obtain⟨p,q,D,N,rfl,J,K⟩:=M;rw[m]at N;obtain⟨rfl,rfl⟩:=trodVars_none N;have g:∀x∈p,x.block<W.heap.size:=λx l=>w.lt x (by simp[l])
 obtain⟨as,V,X,Y⟩:=F8 Ts G (λj t v Z y=>r j t v (by simpa using Z) (by simpa using y)) D
 obtain⟨σ', z⟩:=law as V X;have O:=F f as [] (.bool true) σ' z (λ_=>0) (λk=>k<W.heap.size) W args.toList (Ga W) Y;simp only[Array.toArray_toList]at O;refine O.mono λe C ⟨v,Q, I', he,Dt, y,d⟩=>⟨v,he,?_⟩;have y:v = .bool true:=y;subst y;have E:Below W.heap.size W C :=⟨d.os,d.tape.1,d.output,d.size,λk hk=>d.frame k hk (λ⟨b,u,B,h,_⟩=>c7)⟩
 have a:s.fn H (ds ++ [])={results:=[.lit (.bool true)],args:=ds}:=by
  rw[js];exact I H ds (by rw[F9 D];simp)
 have R:∀(b:Nat) (sp:Nat->Bool) (S:Bool),DataW.TrodAll enc P C b sp S fn.resultTypes.toList ((Value.bool true).resultList fn.resultTypes.size) [.lit (.bool true)] []:=λb sp S=>by
  rw[i];exact trodAll_cons_mk (shut_bool o true) trodAll_mk0
 refine⟨ds,[],p ++ [],[],p,[],w,by rw[a];exact R _ _ _,by rw[a];exact x7 L E n g (λx l=>by simpa using g x l) D,by rw[a,m];rfl,World.keptBut_mono (λx l=>⟨l,.inr (.inl (by simpa using l))⟩) (E.frame (·∈p ++ [])),λ_=>?_⟩
 refine⟨ok_one i rfl (okWide_bool_mk o _),_,[],([]++p) ++ [],⟨[]++p,[],trodAll_append (x7 L E n g (λ_ _=>rfl) D) (R _ _ _),by rw[m];rfl,rfl,?_,?_⟩,?_⟩
 .intro b off hp
  have A:MemPlace.cell b off∈p:=by simpa using hp
  rw[E.frozen (g _ A)];exact J b off (by simpa using A)
 .intro ha
  have:=K ha;simpa using this
 .intro x l _
  simpa using l
end Ab
