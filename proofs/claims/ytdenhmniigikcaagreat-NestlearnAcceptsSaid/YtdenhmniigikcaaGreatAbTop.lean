/- From the interpreter's answer to a given row's statement: arguments that read as data are abstract values; a law that the interpreter finds true returns true and leaves all as it was. Condition: the checks of types and functions, which are closed facts. -/
import Derived.Carry
import Derived.ChangeSame
import Derived.ProofKit
import Derived.OpenShut
import Derived.Test.YtdenhmniigikcaaGreatAbC
import Derived.Test.YtdenhmniigikcaaGreatAbL
set_option linter.all false
namespace Ab
open Go Go.ChangeShapes Go.WideShapes Go.RowKit
variable{P:Program}
inductive Ty where
 |int|bool|str
 |ik (k:Nat)
 |sl (e:Ty)
 |st (fs:List Ty)
mutual
def Ty.n:Ty->Nat
 |.st fs=>Ty.ns fs
 |_=>1
def Ty.ns:List Ty->Nat
 | []=>0
 |t::r=>t.n+Ty.ns r
end
mutual
def jt (P:Program):Ty->TypeId->Bool
 |.int,t=>match P.underlying t with
  |some (.int .i64)=>true
  |_=>false
 |.bool,t=>match P.underlying t with
  |some .bool=>true
  |_=>false
 |.str,t=>match P.underlying t with
  |some .string=>true
  |_=>false
 |.ik k,t=>match P.underlying t with
  |some (.int K)=>decide (jX k=some K)
  |_=>false
 |.sl e,t=>match P.underlying t with
  |some (.slice u)=>jt P e u&&P.cellsOf u==e.n&&decide (0<e.n)
  |_=>false
 |.st fs,t=>match P.underlying t with
  |some (.struct gs)=>P.cellsOf t==Ty.ns fs&&jc P fs gs.toList 0
  |some (.array n u)=>P.cellsOf t==Ty.ns fs&&fs.length==n&&tc P fs u
  |_=>false
def tc (P:Program):List Ty->TypeId->Bool
 | [],_=>true
 |T::r,u=>P.cellsOf u==T.n&&jt P T u&&tc P r u
def jc (P:Program):List Ty->List Field->Nat->Bool
 | [],[],_=>true
 |T::r,f::s,off=>f.offset==off&&P.cellsOf f.type==T.n&&jt P T f.type&&jc P r s (off+T.n)
 |_,_,_=>false
end
def inK (k:Nat) (n:Int):Bool:=match jX k with
 |some K=>decide (K.min<=n)&&decide (n<=K.max)
 |none=>false
mutual
def Ty.has:Ty->AV->Prop
 |.int,x=>∃n,x = .int n/\kv n=true
 |.bool,x=>∃b,x = .bool b
 |.str,x=>∃s,x = .str s
 |.ik k,x=>∃n,x = .ik k n/\inK k n=true
 |.sl e,x=>∃l,x = .aE false l/\l.length<=maxLen/\∀y,y∈l->e.has y
 |.st fs,x=>∃xs,x = .agg (xs.flatMap AV.cells)/\Ty.te fs xs
def Ty.te:List Ty->List AV->Prop
 | [],xs=>xs=[]
 |T::r,xs=>∃x s,xs=x::s/\T.has x/\Ty.te r s
end
theorem Qz{l m:List AV}(h:ay l=true) (k:ay m=true):ay (l++m)=true:=by
 induction l with
 |nil=>exact k
 |cons a r ih=>
  simp only[ay,aD,lf]at h ⊢;exact⟨h.1,ih h.2⟩
theorem QA{x:AV}(h:aO x=true):ay x.cells=true:=by
 cases x<;>simp_all [AV.cells,ay,aO]
theorem ag9{l:List AV}(h:∀y,y∈l->aO y=true):ay l=true:=by
 induction l with
 |nil=>rfl
 |cons a r ih=>
  simp only[ay,aD];exact⟨h a (by simp),ih λy hy=>h y (by simp[hy])⟩
def jE (w:World):Ctx:=af [] (λ_=>0) (λk=>k<w.heap.size)
theorem aha{C:Ctx}{H:Array Obj}{x:AV}{cs:List Value}(hx:(∃l,x = .agg l)\/∃v,cs=[v]) (h:cm C H x.cells cs) (h1:∀y∈cs,y.oneCell' = true):∃v,VR C H x v/\v.cells=cs.toArray:=by
 by_cases ha:∃l,x = .agg l
 ·obtain⟨l,rfl⟩:=ha
  exact⟨.agg cs.toArray,by unfold VR;exact⟨cs,rfl,h,h1⟩,rfl⟩
 ·have e:x.cells=[x]:=by cases x<;>first|rfl|exact absurd ⟨_,rfl⟩ ha
  rcases hx with hx|⟨v,rfl⟩
  ·exact absurd hx ha
  ·rw[e]at h
   obtain⟨v', s,e1,e2,e3⟩:=h;simp at e1;obtain⟨rfl,rfl⟩:=e1;exact⟨v,e2,by rw[yX (h1 v (by simp))]⟩
theorem IK{w:World}{a:Addr}{k:Nat}{cs:List Value}(hk:0<k) (h:w.cells? 0 a k=some cs) :
  a.spot=none/\cs.length=k/\∃c el fz,w.heap[a.block]? = some (.cells c el fz)/\∀j,j<k->c[a.off+j]? = cs[j]?:=by
 unfold World.cells? at h;simp only[Nat.zero_le,dA]at h;have hl:=mapM_some_length h;have hg:=λj (hj:j<k)=>mapM_some_get h j j (by simp[hj])
 simp only[List.length_range]at hl;have h0:=hg 0 hk;obtain⟨v,hv⟩:∃v,cs[0]? = some v:=⟨cs[0]'(by omega),by simp[show 0<cs.length by omega]⟩
 rw[hv]at h0;simp only[World.cell?,Addr.add,dA]at h0;cases hb:w.heap[a.block]? with
 |none=>simp[hb]at h0
 |some o=>
  cases o with
  |cells c el fz=>
   have hs:a.spot=none:=by
    cases hq:a.spot with
    |none=>rfl
    |some q=>simp[hb,hq]at h0
   refine⟨hs,hl,c,el,fz,rfl,λj hj=>?_⟩;have:=hg j hj;rw[<-this];simp only[World.cell?,Addr.add]
   by_cases W7:j=0
   ·subst W7;simp[hb,hs]
   ·simp[W7,hb]
  |_=>simp[hb]at h0
section
variable{H:Type}{enc:TypeId×Value->H}{w:World}
structure Rd (w:World) (T:Ty) (cs:List Value) (a:AV):Prop where
 has:T.has a
 loc:aO a=true
 vr:cm (jE w) w.heap a.cells cs
 one:∀y∈cs,y.oneCell' = true
 len:cs.length=T.n
 alone:(∃l,a = .agg l)\/∃v,cs=[v]
theorem Rd.scalar{T:Ty}{a:AV}{v:Value}(h1:T.has a) (h2:aO a=true) (h3:VR (jE w) w.heap a v) (h4:v.oneCell' = true) (h5:T.n=1) (h6:a.cells=[a]):Rd w T [v] a:=
 ⟨h1,h2,by rw[h6];exact⟨v,[],rfl,h3,rfl⟩,by simpa using h4,by simp[h5],.inr ⟨v,rfl⟩⟩
mutual
theorem rd:∀(T:Ty){n:Nat}{t:TypeId}{cs:List Value}{x:DataW H×List MemPlace},jt P T t=true->DataW.trod enc P w 0 (λ_=>true) true n t cs=some x->∃a,Rd w T cs a
 |.int,n,t,cs,x,ht,h=>by
  have hu:P.underlying t=some (.int .i64):=by
   unfold jt at ht;split at ht<;>simp_all
  obtain⟨m,rfl,_,hw⟩:=DataW.trod_int hu h;refine⟨.int m,Rd.scalar ⟨m,rfl,?_⟩ rfl rfl rfl rfl rfl⟩;have:=by simpa[Lit.wf,IntKind.min,IntKind.max,IntKind.signed,IntKind.bits]using hw
  simp only[kv,aD,eR];omega
 |.bool,n,t,cs,x,ht,h=>by
  have hu:P.underlying t=some .bool:=by
   unfold jt at ht;split at ht<;>simp_all
  obtain⟨m,rfl,_⟩:=DataW.trod_bool hu h;exact⟨.bool m,Rd.scalar ⟨m,rfl⟩ rfl rfl rfl rfl rfl⟩
 |.str,n,t,cs,x,ht,h=>by
  have hu:P.underlying t=some .string:=by
   unfold jt at ht;split at ht<;>simp_all
  obtain⟨m,rfl,_⟩:=DataW.trod_string hu h;exact⟨.str m.data.toList,Rd.scalar ⟨_,rfl⟩ rfl (by unfold VR;simp) rfl rfl rfl⟩
 |.ik k,n,t,cs,x,ht,h=>by
  have hu:∃K,P.underlying t=some (.int K)/\jX k=some K:=by
   unfold jt at ht;split at ht
   ·rename_i K h1;exact⟨K,h1,by simpa using ht⟩
   ·simp at ht
  obtain⟨K,hu,hk⟩:=hu;obtain⟨m,rfl,_,hw⟩:=DataW.trod_int hu h;refine⟨.ik k m,Rd.scalar ⟨m,rfl,?_⟩ rfl (by unfold VR;exact⟨K,hk,rfl⟩) rfl rfl rfl⟩
  unfold inK;rw[hk];have:=by simpa[Lit.wf]using hw
  simp only[aD,eR];omega
 |.sl e,n,t,cs,x,ht,h=>by
  have key:∃u,P.underlying t=some (.slice u)/\jt P e u=true/\P.cellsOf u=e.n/\0<e.n:=by
   unfold jt at ht;split at ht
   ·rename_i u hu
    simp only[aD,cP,eR]at ht;exact⟨u,hu,ht.1.1,ht.1.2,ht.2⟩
   ·simp at ht
  obtain⟨u,hu,h1,h2,h3⟩:=key;rcases DataW.trod_slice hu h with⟨rfl,_⟩|⟨a,len,cap,elems,rest,m,_,rfl,_,_,hl,hm,sr,gF,hsp,_⟩
  ·exact⟨.aE false [],Rd.scalar ⟨[],rfl,by simp,by simp⟩ rfl (by unfold VR;exact⟨rfl,.inl ⟨rfl,none,rfl,by simp⟩⟩) rfl rfl rfl⟩
  ·rw[h2]at gF hsp
   have each:∀i,i<len->∃a' nU, w.cells? 0 (a.add (i*e.n)) e.n=some nU /\Rd w e nU a' :=λi hi=>by
    have hg:=gF i hi;obtain⟨y,hy⟩:∃y,elems[i]? = some y:=⟨elems[i]'(by omega),by simp[show i<elems.length by omega]⟩
    rw[hy,Option.bind_eq_some_iff]at hg;obtain⟨nU, g1,g2⟩:=hg;obtain⟨a', ha⟩:=rd e h1 g2;exact⟨a', nU, g1,ha⟩
   have all:∀k,k<=len->∃l:List AV,l.length=k/\∀i y,l[i]? = some y->∃nU, w.cells? 0 (a.add (i*e.n)) e.n=some nU /\Rd w e nU y:=by
    intro k
    induction k with
    |zero=>intro _;exact⟨[],rfl,by simp⟩
    |succ k ih=>
     intro hk;obtain⟨l,l1,l2⟩:=ih (by omega)
     obtain⟨a', nU, c1,c2⟩:=each k (by omega)
     refine⟨l ++ [a'],by simp[l1],λi y hi=>?_⟩
     by_cases Cj:i<l.length
     ·rw[fw Cj]at hi;exact l2 i y hi
     ·have:i<(l ++ [a']).length:=(cV.1 hi).1
      simp at this;obtain rfl:i=k:=by omega
      rw[gv (by omega),l1]at hi
      simp at hi;subst hi;exact⟨nU, c1,c2⟩
   obtain⟨l,l1,l2⟩:=all len (bA _);have ahb:∀y,y∈l->e.has y:=λy hy=>by
    obtain⟨i,hi⟩:=sH.1 hy;obtain⟨_,_,hr⟩:=l2 i y hi;exact hr.has
   have ahc:ay l=true:=ag9 λy hy=>by
    obtain⟨i,hi⟩:=sH.1 hy;obtain⟨_,_,hr⟩:=l2 i y hi;exact hr.loc
   have tZ:VR (jE w) w.heap (.aE false l) (.slice (some a) len cap):=by
    unfold VR;refine⟨ahc,?_⟩
    by_cases xC:cap=0
    ·subst xC
     obtain rfl:len=0:=by omega
     exact .inl ⟨dW l1,some a,rfl,by simp⟩
    ·have hb:a.spot=none/\∃c el fz,w.heap[a.block]? = some (.cells c el fz):=by
      by_cases HM:0<len
      ·obtain⟨_,nU, c1,_⟩:=each 0 HM
       rw[Nat.zero_mul,show a.add 0=a from rfl]at c1;obtain⟨q1,_,c,el,fz,q2,_⟩:=IK h3 c1;exact⟨q1,c,el,fz,q2⟩
      ·obtain⟨r1,r2⟩:=hsp rfl
       have hg:=r2 0 (by omega)
       obtain⟨y,hy⟩:∃y,rest[0]? = some y:=⟨rest[0]'(by omega),by simp[show 0<rest.length by omega]⟩
       rw[hy,Option.bind_eq_some_iff]at hg;obtain⟨nU, g1,_⟩:=hg;rw[show len+0=0 by omega,Nat.zero_mul,show a.add 0=a from rfl]at g1
       obtain⟨q1,_,c,el,fz,q2,_⟩:=IK h3 g1;exact⟨q1,c,el,fz,q2⟩
     obtain⟨hs,c,el,fz,hb⟩:=hb;refine .inr ⟨a.block,a.off,cap,e.n,c,el,fz,?_,by omega,(jh.1 hb).1,hb,ji.of λi y hi=>?_⟩
     ·rw[l1,<-hs]
     ·obtain⟨nU, c1,hr⟩:=l2 i y hi
      obtain⟨q1,q2,c', mi, fz', q3,q4⟩:=IK h3 c1;have eb:(a.add (i*e.n)).block=a.block/\(a.add (i*e.n)).off=a.off+i*e.n:=by
       unfold Addr.add;split
       ·rename_i h0;rw[h0];exact⟨rfl,rfl⟩
       ·exact⟨rfl,rfl⟩
      rw[eb.1,hb]at q3;simp only[bJ,kH]at q3;obtain⟨rfl,_,_⟩:=q3;obtain⟨v,v1,v2⟩:=aha hr.alone hr.vr hr.one;refine⟨v,v1,by rw[v2];simpa using q2,λj hj=>?_⟩
      have:=q4 j hj;rw[eb.2]at this;rw[this,v2,List.getElem?_toArray]
   exact⟨.aE false l,Rd.scalar ⟨l,rfl,by omega,ahb⟩ rfl tZ rfl rfl rfl⟩
 |.st fs,n,t,cs,x,ht,h=>by
  have key:(∃gs,P.underlying t=some (.struct gs)/\P.cellsOf t=Ty.ns fs/\jc P fs gs.toList 0=true)\/∃k u,P.underlying t=some (.array k u)/\P.cellsOf t=Ty.ns fs/\fs.length=k/\tc P fs u=true:=by
   unfold jt at ht;split at ht
   ·rename_i gs hu
    simp only[aD,cP]at ht;exact .inl ⟨gs,hu,ht.1,ht.2⟩
   ·rename_i k u hu
    simp only[aD,cP]at ht;exact .inr ⟨k,u,hu,ht.1.1,ht.1.2,ht.2⟩
   ·simp at ht
  rcases key with⟨gs,hu,h1,h2⟩|⟨k,u,hu,h1,hk,h2⟩
  case inr=>
   obtain⟨xs,m,_,_,hl,hlen,hf⟩:=DataW.trod_array hu h;obtain⟨as,a1,a2,a3,a4⟩:=rdA fs 0 h2 (cs:=cs) (λi hi=>by
    have:=hf i (by omega)
    have aK:i<xs.length:=by omega
    rw[de aK]at this;exact⟨m,_,by rw[jj];exact this⟩)
   have e:(cs.drop 0).take (Ty.ns fs)=cs:=by rw[nP,gu (by omega)]
   rw[e]at a3 a4;exact⟨.agg (as.flatMap AV.cells),⟨⟨as,rfl,a1⟩,a2,a3,a4,by rw[hl,h1];rfl,.inl ⟨_,rfl⟩⟩⟩
  obtain⟨xs,m,_,_,hl,hlen,hf⟩:=DataW.trod_struct hu h;obtain⟨as,a1,a2,a3,a4⟩:=rdL fs 0 h2 (cs:=cs) (λi f hi=>by
   have dx : gs[i]? = some f:=by simpa using hi
   have:=hf i f dx;have aK:i<xs.length:=by rw[hlen];exact(jh.1 dx).1
   rw[de aK]at this;exact⟨m,_,this⟩)
  have e:(cs.drop 0).take (Ty.ns fs)=cs:=by rw[nP,gu (by omega)]
  rw[e]at a3 a4;exact⟨.agg (as.flatMap AV.cells),⟨⟨as,rfl,a1⟩,a2,a3,a4,by rw[hl,h1];rfl,.inl ⟨_,rfl⟩⟩⟩
theorem rdA:∀(fs:List Ty) (off:Nat){u:TypeId}{cs:List Value},tc P fs u=true->
  (∀(i:Nat),i<fs.length->∃(n:Nat) (x:DataW H×List MemPlace),DataW.trod enc P w 0 (λ_=>true) true n u ((cs.drop (off+i*P.cellsOf u)).take (P.cellsOf u))=some x)->
  ∃as,Ty.te fs as/\ay (as.flatMap AV.cells)=true/\cm (jE w) w.heap (as.flatMap AV.cells) ((cs.drop off).take (Ty.ns fs))/\∀y∈(cs.drop off).take (Ty.ns fs),y.oneCell' = true
 | [],off,u,cs,au,hr=>by
  refine⟨[],rfl,rfl,?_,?_⟩
  ·rw[show Ty.ns []=0 from rfl,List.take_zero];rfl
  ·rw[show Ty.ns []=0 from rfl,List.take_zero];simp
 |T::r,off,u,cs,au,hr=>by
  simp only[tc,aD,cP]at au;obtain⟨⟨h2,h3⟩,h4⟩:=au;obtain⟨n,x,hx⟩:=hr 0 (by simp)
  rw[Nat.zero_mul,Nat.add_zero]at hx;obtain⟨a,ha⟩:=rd T h3 hx;obtain⟨as,b1,b2,b3,b4⟩:=rdA r (off+T.n) h4 (cs:=cs) λi hi=>by
   obtain⟨n,x,hx⟩:=hr (i+1) (by simp;omega)
   refine⟨n,x,?_⟩;rw[<-h2,show off+P.cellsOf u+i*P.cellsOf u=off+(i+1)*P.cellsOf u by rw[fC];omega]
   exact hx
  have e:(cs.drop off).take (Ty.ns (T::r))=(cs.drop off).take T.n++(cs.drop (off+T.n)).take (Ty.ns r):=by
   rw[show Ty.ns (T::r)=T.n+Ty.ns r from rfl,List.take_add,List.drop_drop]
  rw[h2]at ha;refine⟨a::as,⟨a,as,rfl,ha.has,b1⟩,?_,?_,?_⟩
  ·rw[jG];exact Qz (QA ha.loc) b2
  ·rw[e,jG];exact ha.vr.append b3
  ·rw[e]
   intro y hy;rcases eH.1 hy with hy|hy
   ·exact ha.one y hy
   ·exact b4 y hy
theorem rdL:∀(fs:List Ty) (off:Nat){gs:List Field}{cs:List Value},jc P fs gs off=true->
  (∀(i:Nat) (f:Field),gs[i]? = some f->∃(n:Nat) (x:DataW H×List MemPlace),DataW.trod enc P w 0 (λ_=>true) true n f.type ((cs.drop f.offset).take (P.cellsOf f.type))=some x)->
  ∃as,Ty.te fs as/\ay (as.flatMap AV.cells)=true/\cm (jE w) w.heap (as.flatMap AV.cells) ((cs.drop off).take (Ty.ns fs))/\∀y∈(cs.drop off).take (Ty.ns fs),y.oneCell' = true
 | [],off,gs,cs,au,hr=>by
  refine⟨[],rfl,rfl,?_,?_⟩
  ·rw[show Ty.ns []=0 from rfl,List.take_zero];rfl
  ·rw[show Ty.ns []=0 from rfl,List.take_zero];simp
 |T::r,off,gs,cs,au,hr=>by
  cases gs with
  |nil=>simp[jc]at au
  |cons f s=>
   simp only[jc,aD,cP]at au;obtain⟨⟨⟨h1,h2⟩,h3⟩,h4⟩:=au;obtain⟨n,x,hx⟩:=hr 0 f rfl;obtain⟨a,ha⟩:=rd T h3 hx;obtain⟨as,b1,b2,b3,b4⟩:=rdL r (off+T.n) h4 (cs:=cs) λi f' hi=>hr (i+1) f' (by simpa using hi)
   have e:(cs.drop off).take (Ty.ns (T::r))=(cs.drop off).take T.n++(cs.drop (off+T.n)).take (Ty.ns r):=by
    rw[show Ty.ns (T::r)=T.n+Ty.ns r from rfl,List.take_add,List.drop_drop]
   rw[h1,h2]at ha;refine⟨a::as,⟨a,as,rfl,ha.has,b1⟩,?_,?_,?_⟩
   ·rw[jG];exact Qz (QA ha.loc) b2
   ·rw[e,jG];exact ha.vr.append b3
   ·rw[e]
    intro y hy;rcases eH.1 hy with hy|hy
    ·exact ha.one y hy
    ·exact b4 y hy
end
theorem ahd{T:Ty}{r:Reach}{b0:Nat}{t:TypeId}{v:Value}{d:DataW H}{ps:List MemPlace}(ht:jt P T t=true) (fc:Value.okWide P w r b0 t v) (h:DataW.Trod enc P w 0 (λ_=>true) true t v d ps) :
  ∃a,T.has a/\aO a=true/\VR (jE w) w.heap a v:=by
 obtain⟨n,hn⟩:=h;obtain⟨a,ha⟩:=rd T ht hn;refine⟨a,ha.has,ha.loc,?_⟩
 by_cases bV:∃fs,T = .st fs
 ·obtain⟨fs,rfl⟩:=bV
  obtain⟨xs,rfl,_⟩:=ha.has;have hu:(∃gs,P.underlying t=some (.struct gs))\/∃k u,P.underlying t=some (.array k u):=by
   unfold jt at ht;split at ht
   ·exact .inl ⟨_,‹_›⟩
   ·exact .inr ⟨_,_,‹_›⟩
   ·simp at ht
  have pO:∃cs,v = .agg cs:=by
   rcases hu with⟨gs,hu⟩|⟨k,u,hu⟩
   ·simp only[Value.okWide,hu]at fc
    obtain⟨cs,rfl,_⟩:=fc;exact⟨cs,rfl⟩
   ·simp only[Value.okWide,hu]at fc
    obtain⟨cs,rfl,_⟩:=fc;exact⟨cs,rfl⟩
  obtain⟨cs,rfl⟩:=pO;unfold VR;exact⟨cs.toList,by simp,ha.vr,ha.one⟩
 ·have kI:v.oneCell' = true:=by
   cases T with
   |int=>
    have hu:P.underlying t=some (.int .i64):=by
     unfold jt at ht;split at ht<;>simp_all
    obtain⟨m,rfl⟩:=okWide_int hu fc;rfl
   |ik k=>
    have hu:∃K,P.underlying t=some (.int K):=by
     unfold jt at ht;split at ht
     ·exact⟨_,‹_›⟩
     ·simp at ht
    obtain⟨K,hu⟩:=hu;obtain⟨m,rfl⟩:=okWide_int hu fc;rfl
   |bool=>
    have hu:P.underlying t=some .bool:=by
     unfold jt at ht;split at ht<;>simp_all
    obtain⟨m,rfl⟩:=okWide_bool hu fc;rfl
   |str=>
    have hu:P.underlying t=some .string:=by
     unfold jt at ht;split at ht<;>simp_all
    obtain⟨m,rfl⟩:=okWide_string hu fc;rfl
   |sl e=>
    have hu:∃u,P.underlying t=some (.slice u):=by
     unfold jt at ht;split at ht
     ·exact⟨_,‹_›⟩
     ·simp at ht
    obtain⟨u,hu⟩:=hu;obtain⟨q,l,c,rfl⟩:=okWide_slice hu fc;rfl
   |st fs=>exact absurd ⟨fs,rfl⟩ bV
  have hv:=ha.vr;rw[yX kI]at hv;rcases ha.alone with⟨l,rfl⟩|_
  ·cases T with
   |st fs=>exact absurd ⟨fs,rfl⟩ bV
   |_=>have:=ha.has;simp[Ty.has]at this
  ·have e:a.cells=[a]:=by
    cases a with
    |agg l=>
     cases T with
     |st fs=>exact absurd ⟨fs,rfl⟩ bV
     |_=>have:=ha.has;simp[Ty.has]at this
    |_=>rfl
   rw[e]at hv;obtain⟨v', s,e1,e2,e3⟩:=hv;simp at e1;obtain⟨rfl,rfl⟩:=e1;exact e2
def qL (P:Program):List Ty->List TypeId->Bool
 | [],[]=>true
 |T::r,t::s=>jt P T t&&qL P r s
 |_,_=>false
theorem QB:∀(Ts:List Ty){r:Reach}{b0:Nat}{ts:List TypeId}{vs:List Value}{ds:List (DataW H)}{ps:List MemPlace},qL P Ts ts=true->
  (∀(j:Nat) t v,ts[j]? = some t->vs[j]? = some v->Value.okWide P w r b0 t v)->DataW.TrodAll enc P w 0 (λ_=>true) true ts vs ds ps->∃as,Ty.te Ts as/\ay as=true/\cm (jE w) w.heap as vs
 | [],_,_,ts,vs,ds,ps,ht,fc,h=>by
  cases ts with
  |cons a b=>simp[qL]at ht
  |nil=>
   obtain⟨rfl,rfl,rfl⟩:=trodAll_nil h;exact⟨[],rfl,rfl,rfl⟩
 |T::Ts,_,_,ts,vs,ds,ps,ht,fc,h=>by
  cases ts with
  |nil=>simp[qL]at ht
  |cons t ts=>
   simp only[qL,aD]at ht;obtain⟨v,vf, d,ds', p,q,rfl,rfl,rfl,h1,h2⟩:=trodAll_cons h;obtain⟨a,a1,a2,a3⟩:=ahd ht.1 (fc 0 t v rfl rfl) h1;obtain⟨as,b1,b2,b3⟩:=QB Ts ht.2 (λj t' v' hj hv=>fc (j+1) t' v' (by simpa using hj) (by simpa using hv)) h2
   exact⟨a::as,⟨a,as,rfl,a1,b1⟩,by simp[ay,a2,b2],v,vf, rfl,a3,b3⟩
end
def Ck (s:ChangeSpec) (k:Nat):Prop:=s.vars=[]/\∀(H:Type) (ds:List (DataW H)),ds.length=k->s.fn H ds={results:=[.lit (.bool true)],args:=ds}
theorem QC{H:Type}{enc:TypeId×Value->H}{w:World}{b:Nat}{sp:Nat->Bool}{hd:Bool}:∀{ts:List TypeId}{vs:List Value}{ds:List (DataW H)}{ps:List MemPlace},DataW.TrodAll enc P w b sp hd ts vs ds ps->ds.length=ts.length
 | [],vs,ds,ps,h=>by obtain⟨rfl,rfl,rfl⟩:=trodAll_nil h;rfl
 |t::ts,vs,ds,ps,h=>by
  obtain⟨v,vf, d,ds', p,q,rfl,rfl,rfl,h1,h2⟩:=trodAll_cons h;simp[QC h2]
theorem IL{H:Type}{enc:TypeId×Value->H}{W W' : World}(hl:laidOutB P=true) (hb:Below W.heap.size W W'):∀{ts:List TypeId}{vs:List Value}{ds:List (DataW H)}{ps:List MemPlace}{sp:Nat->Bool},
  (ts.all λt=>P.readableRec t&&decide (t<P.types.size))=true->(∀p∈ps,p.block<W.heap.size)->(∀p∈ps,sp p.block=true)->DataW.TrodAll enc P W 0 (λ_=>true) true ts vs ds ps->DataW.TrodAll enc P W' 0 sp true ts vs ds ps
 | [],vs,ds,ps,sp,_,_,_,h=>by obtain⟨rfl,rfl,rfl⟩:=trodAll_nil h;rfl
 |t::ts,vs,ds,ps,sp,ht,aK,hs,h=>by
  obtain⟨v,vf, d,ds', p,q,rfl,rfl,rfl,h1,h2⟩:=trodAll_cons h;simp only[List.all_cons,aD,eR]at ht;refine trodAll_cons_mk (WideElems.Trod_stays hl ht.1.1 ht.1.2 h1 (λx hx=>hb.same (aK x (by simp[hx]))) λx hx=>hs x (by simp[hx])) ?_
  exact IL hl hb (by simpa using ht.2) (λx hx=>aK x (by simp[hx])) (λx hx=>hs x (by simp[hx])) h2
theorem QD (w:World):Good (jE w) w:=
 ⟨λk h=>h,λb u B id h=>by simp[jE,af,al]at h,λb u B id h=>by simp[jE,af,al]at h,λb u B id b' u' B' id' h=>by simp[jE,af,al]at h,λb u B id es h=>by simp[jE,af,al]at h⟩
theorem rJ{H:Type}{enc:TypeId×Value->H}{ce:CE}(dM:cz P ce){f:FuncId}{fn:Func}{s:ChangeSpec}{apart fresh handsOn again:Bool}{Ts:List Ty}{tb:TypeId}
  (hs:Ck s fn.params.size) (hl:laidOutB P=true) (hts:qL P Ts fn.params.toList=true) (GH:(fn.params.toList.all λt=>P.readableRec t&&decide (t<P.types.size))=true)
  (QE:fn.resultTypes = #[tb]) (A9:P.underlying tb=some .bool)
  {W:World} {b0:Nat} {args:Array Value} {ds gs:List (DataW H)} {before:List MemPlace}
  (fc:∀(j:Nat) t v,fn.params[j]? = some t->args[j]? = some v->Value.okWide P W .any b0 t v)
  (hW:DataW.Whole enc P fn.params.toList s.vars apart W args.toList ds gs before)
  (law:∀as,Ty.te Ts as->ay as=true->∃bp, ce f as []=some (.bool true,bp)) :
  Calls P f args W λe W' =>∃v,e = .returned v/\s.post enc P fn apart fresh handsOn again W args v W' :=by
 obtain⟨qG,hfn⟩:=hs;have hW0:=hW;obtain⟨p,q,hA,hV,rfl,QF,jm⟩:=hW;rw[qG]at hV;obtain⟨rfl,rfl⟩:=trodVars_none hV;have aK:∀x∈p,x.block<W.heap.size:=λx hx=>hW0.lt x (by simp[hx])
 obtain⟨as,a1,a2,a3⟩:=QB Ts hts (λj t v hj hv=>fc j t v (by simpa using hj) (by simpa using hv)) hA
 obtain⟨bp, ahe⟩:=law as a1 a2;have hc:=dM f as [] (.bool true) bp ahe (λ_=>0) (λk=>k<W.heap.size) W args.toList (QD W) a3;simp only[Array.toArray_toList]at hc;refine hc.mono λe W' ⟨v,aJ, I', he,xH, hv,bV⟩=>⟨v,he,?_⟩;have hv:v = .bool true:=hv;subst hv;have hb:Below W.heap.size W W' :=⟨bV.os,bV.tape.1,bV.output,bV.size,λk hk=>bV.frame k hk (λ⟨b,u,B,h,_⟩=>by simp[af,al]at h)⟩
 have zo:s.fn H (ds ++ [])={results:=[.lit (.bool true)],args:=ds}:=by
  rw[List.append_nil];exact hfn H ds (by rw[QC hA];simp)
 have hr:∀(b:Nat) (sp:Nat->Bool) (hd:Bool),DataW.TrodAll enc P W' b sp hd fn.resultTypes.toList ((Value.bool true).resultList fn.resultTypes.size) [.lit (.bool true)] []:=λb sp hd=>by
  rw[QE];exact trodAll_cons_mk (shut_bool A9 true) trodAll_mk0
 refine⟨ds,[],p ++ [],[],p,[],hW0,by rw[zo];exact hr _ _ _,by rw[zo];exact IL hl hb GH aK (λx hx=>by simpa using aK x hx) hA,by rw[zo,qG];rfl,World.keptBut_mono (λx hx=>⟨hx,.inr (.inl (by simpa using hx))⟩) (hb.frame (·∈p ++ [])),λ_=>?_⟩
 refine⟨ok_one QE rfl (okWide_bool_mk A9 _),_,[],([]++p) ++ [],⟨[]++p,[],trodAll_append (IL hl hb GH aK (λ_ _=>rfl) hA) (hr _ _ _),by rw[qG];rfl,rfl,?_,?_⟩,?_⟩
 ·intro b off hp
  have eZ:MemPlace.cell b off∈p:=by simpa using hp
  rw[hb.frozen (aK _ eZ)];exact QF b off (by simpa using eZ)
 ·intro ha
  have:=jm ha;simpa using this
 ·intro x hx _
  simpa using hx
end Ab
