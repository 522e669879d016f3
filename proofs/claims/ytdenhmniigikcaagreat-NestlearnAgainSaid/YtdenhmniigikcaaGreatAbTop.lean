/- From the interpreter's answer to a given row's statement: arguments that read as data are abstract values; a law that the interpreter finds true returns true and leaves all as it was. Condition: the checks of types and functions, which are closed facts. -/
import Derived.Carry
import Derived.ChangeSame
import Derived.ProofKit
import Derived.OpenShut
import Derived.Test.YtdenhmniigikcaaGreatAbC
import Derived.Test.YtdenhmniigikcaaGreatAbL
set_option linter.all false
namespace Ab
open Go Go.ChangeShapes Go.WideShapes Go.RowKit
variable{P:Program}
inductive Ty where
 |int|bool|str
 |ik (k:Nat)
 |sl (e:Ty)
 |st (fs:List Ty)
mutual
def Ty.n:Ty->Nat
 |.st fs=>Ty.ns fs
 |_=>1
def Ty.ns:List Ty->Nat
 | []=>0
 |t::r=>t.n+Ty.ns r
end
mutual
def jo (P:Program):Ty->TypeId->Bool
 |.int,t=>match P.underlying t with
  |some (.int .i64)=>true
  |_=>false
 |.bool,t=>match P.underlying t with
  |some .bool=>true
  |_=>false
 |.str,t=>match P.underlying t with
  |some .string=>true
  |_=>false
 |.ik k,t=>match P.underlying t with
  |some (.int K)=>decide (jV k=some K)
  |_=>false
 |.sl e,t=>match P.underlying t with
  |some (.slice u)=>jo P e u&&P.cellsOf u==e.n&&decide (0<e.n)
  |_=>false
 |.st fs,t=>match P.underlying t with
  |some (.struct gs)=>P.cellsOf t==Ty.ns fs&&iX P fs gs.toList 0
  |some (.array n u)=>P.cellsOf t==Ty.ns fs&&fs.length==n&&sY P fs u
  |_=>false
def sY (P:Program):List Ty->TypeId->Bool
 | [],_=>true
 |T::r,u=>P.cellsOf u==T.n&&jo P T u&&sY P r u
def iX (P:Program):List Ty->List Field->Nat->Bool
 | [],[],_=>true
 |T::r,f::s,off=>f.offset==off&&P.cellsOf f.type==T.n&&jo P T f.type&&iX P r s (off+T.n)
 |_,_,_=>false
end
def inK (k:Nat) (n:Int):Bool:=match jV k with
 |some K=>decide (K.min<=n)&&decide (n<=K.max)
 |none=>false
mutual
def Ty.has:Ty->AV->Prop
 |.int,x=>∃n,x = .int n/\kZ n=true
 |.bool,x=>∃b,x = .bool b
 |.str,x=>∃s,x = .str s
 |.ik k,x=>∃n,x = .ik k n/\inK k n=true
 |.sl e,x=>∃l,x = .aE false l/\l.length<=maxLen/\∀y,y∈l->e.has y
 |.st fs,x=>∃xs,x = .agg (xs.flatMap AV.cells)/\Ty.sZ fs xs
def Ty.sZ:List Ty->List AV->Prop
 | [],xs=>xs=[]
 |T::r,xs=>∃x s,xs=x::s/\T.has x/\Ty.sZ r s
end
theorem PW{l m:List AV}(h:ax l=true) (k:ax m=true):ax (l++m)=true:=by
 induction l with
 |nil=>exact k
 |cons a r ih=>
  simp only[ax,aD,kX]at h ⊢;exact⟨h.1,ih h.2⟩
theorem PX{x:AV}(h:aN x=true):ax x.cells=true:=by
 cases x<;>simp_all [AV.cells,ax,aN]
theorem agB{l:List AV}(h:∀y,y∈l->aN y=true):ax l=true:=by
 induction l with
 |nil=>rfl
 |cons a r ih=>
  simp only[ax,aD];exact⟨h a (by simp),ih λy hy=>h y (by simp[hy])⟩
def jB (w:World):Ctx:=af [] (λ_=>0) (λk=>k<w.heap.size)
theorem agC{C:Ctx}{H:Array Obj}{x:AV}{cs:List Value}(hx:(∃l,x = .agg l)\/∃v,cs=[v]) (h:cd C H x.cells cs) (h1:∀y∈cs,y.oneCell' = true):∃v,VR C H x v/\v.cells=cs.toArray:=by
 by_cases ha:∃l,x = .agg l
 ·obtain⟨l,rfl⟩:=ha
  exact⟨.agg cs.toArray,by unfold VR;exact⟨cs,rfl,h,h1⟩,rfl⟩
 ·have e:x.cells=[x]:=by cases x<;>first|rfl|exact absurd ⟨_,rfl⟩ ha
  rcases hx with hx|⟨v,rfl⟩
  ·exact absurd hx ha
  ·rw[e]at h
   obtain⟨v', s,e1,e2,e3⟩:=h;simp at e1;obtain⟨rfl,rfl⟩:=e1;exact⟨v,e2,by rw[yN (h1 v (by simp))]⟩
theorem Ia{w:World}{a:Addr}{k:Nat}{cs:List Value}(hk:0<k) (h:w.cells? 0 a k=some cs) :
  a.spot=none/\cs.length=k/\∃c el fz,w.heap[a.block]? = some (.cells c el fz)/\∀j,j<k->c[a.off+j]? = cs[j]?:=by
 unfold World.cells? at h;simp only[Nat.zero_le,dC]at h;have hl:=mapM_some_length h;have hg:=λj (hj:j<k)=>mapM_some_get h j j (by simp[hj])
 simp only[List.length_range]at hl;have h0:=hg 0 hk;obtain⟨v,hv⟩:∃v,cs[0]? = some v:=⟨cs[0]'(by omega),by simp[show 0<cs.length by omega]⟩
 rw[hv]at h0;simp only[World.cell?,Addr.add,dC]at h0;cases hb:w.heap[a.block]? with
 |none=>simp[hb]at h0
 |some o=>
  cases o with
  |cells c el fz=>
   have hs:a.spot=none:=by
    cases hq:a.spot with
    |none=>rfl
    |some q=>simp[hb,hq]at h0
   refine⟨hs,hl,c,el,fz,rfl,λj hj=>?_⟩;have:=hg j hj;rw[<-this];simp only[World.cell?,Addr.add]
   by_cases Wr:j=0
   ·subst Wr;simp[hb,hs]
   ·simp[Wr,hb]
  |_=>simp[hb]at h0
section
variable{H:Type}{enc:TypeId×Value->H}{w:World}
structure Rd (w:World) (T:Ty) (cs:List Value) (a:AV):Prop where
 has:T.has a
 loc:aN a=true
 vr:cd (jB w) w.heap a.cells cs
 one:∀y∈cs,y.oneCell' = true
 len:cs.length=T.n
 alone:(∃l,a = .agg l)\/∃v,cs=[v]
theorem Rd.scalar{T:Ty}{a:AV}{v:Value}(h1:T.has a) (h2:aN a=true) (h3:VR (jB w) w.heap a v) (h4:v.oneCell' = true) (h5:T.n=1) (h6:a.cells=[a]):Rd w T [v] a:=
 ⟨h1,h2,by rw[h6];exact⟨v,[],rfl,h3,rfl⟩,by simpa using h4,by simp[h5],.inr ⟨v,rfl⟩⟩
mutual
theorem rd:∀(T:Ty){n:Nat}{t:TypeId}{cs:List Value}{x:DataW H×List MemPlace},jo P T t=true->DataW.trod enc P w 0 (λ_=>true) true n t cs=some x->∃a,Rd w T cs a
 |.int,n,t,cs,x,ht,h=>by
  have hu:P.underlying t=some (.int .i64):=by
   unfold jo at ht;split at ht<;>simp_all
  obtain⟨m,rfl,_,hw⟩:=DataW.trod_int hu h;refine⟨.int m,Rd.scalar ⟨m,rfl,?_⟩ rfl rfl rfl rfl rfl⟩;have:=by simpa[Lit.wf,IntKind.min,IntKind.max,IntKind.signed,IntKind.bits]using hw
  simp only[kZ,aD,eP];omega
 |.bool,n,t,cs,x,ht,h=>by
  have hu:P.underlying t=some .bool:=by
   unfold jo at ht;split at ht<;>simp_all
  obtain⟨m,rfl,_⟩:=DataW.trod_bool hu h;exact⟨.bool m,Rd.scalar ⟨m,rfl⟩ rfl rfl rfl rfl rfl⟩
 |.str,n,t,cs,x,ht,h=>by
  have hu:P.underlying t=some .string:=by
   unfold jo at ht;split at ht<;>simp_all
  obtain⟨m,rfl,_⟩:=DataW.trod_string hu h;exact⟨.str m.data.toList,Rd.scalar ⟨_,rfl⟩ rfl (by unfold VR;simp) rfl rfl rfl⟩
 |.ik k,n,t,cs,x,ht,h=>by
  have hu:∃K,P.underlying t=some (.int K)/\jV k=some K:=by
   unfold jo at ht;split at ht
   ·rename_i K h1;exact⟨K,h1,by simpa using ht⟩
   ·simp at ht
  obtain⟨K,hu,hk⟩:=hu;obtain⟨m,rfl,_,hw⟩:=DataW.trod_int hu h;refine⟨.ik k m,Rd.scalar ⟨m,rfl,?_⟩ rfl (by unfold VR;exact⟨K,hk,rfl⟩) rfl rfl rfl⟩
  unfold inK;rw[hk];have:=by simpa[Lit.wf]using hw
  simp only[aD,eP];omega
 |.sl e,n,t,cs,x,ht,h=>by
  have key:∃u,P.underlying t=some (.slice u)/\jo P e u=true/\P.cellsOf u=e.n/\0<e.n:=by
   unfold jo at ht;split at ht
   ·rename_i u hu
    simp only[aD,cL,eP]at ht;exact⟨u,hu,ht.1.1,ht.1.2,ht.2⟩
   ·simp at ht
  obtain⟨u,hu,h1,h2,h3⟩:=key;rcases DataW.trod_slice hu h with⟨rfl,_⟩|⟨a,len,cap,elems,rest,m,_,rfl,_,_,hl,hm,sg,gC,hsp,_⟩
  ·exact⟨.aE false [],Rd.scalar ⟨[],rfl,by simp,by simp⟩ rfl (by unfold VR;exact⟨rfl,.inl ⟨rfl,none,rfl,by simp⟩⟩) rfl rfl rfl⟩
  ·rw[h2]at gC hsp
   have each:∀i,i<len->∃a' nO, w.cells? 0 (a.add (i*e.n)) e.n=some nO /\Rd w e nO a' :=λi hi=>by
    have hg:=gC i hi;obtain⟨y,hy⟩:∃y,elems[i]? = some y:=⟨elems[i]'(by omega),by simp[show i<elems.length by omega]⟩
    rw[hy,Option.bind_eq_some_iff]at hg;obtain⟨nO, g1,g2⟩:=hg;obtain⟨a', ha⟩:=rd e h1 g2;exact⟨a', nO, g1,ha⟩
   have all:∀k,k<=len->∃l:List AV,l.length=k/\∀i y,l[i]? = some y->∃nO, w.cells? 0 (a.add (i*e.n)) e.n=some nO /\Rd w e nO y:=by
    intro k
    induction k with
    |zero=>intro _;exact⟨[],rfl,by simp⟩
    |succ k ih=>
     intro hk;obtain⟨l,l1,l2⟩:=ih (by omega)
     obtain⟨a', nO, c1,c2⟩:=each k (by omega)
     refine⟨l ++ [a'],by simp[l1],λi y hi=>?_⟩
     by_cases B8:i<l.length
     ·rw[ft B8]at hi;exact l2 i y hi
     ·have:i<(l ++ [a']).length:=(cT.1 hi).1
      simp at this;obtain rfl:i=k:=by omega
      rw[gm (by omega),l1]at hi
      simp at hi;subst hi;exact⟨nO, c1,c2⟩
   obtain⟨l,l1,l2⟩:=all len (bw _);have agD:∀y,y∈l->e.has y:=λy hy=>by
    obtain⟨i,hi⟩:=sD.1 hy;obtain⟨_,_,hr⟩:=l2 i y hi;exact hr.has
   have agE:ax l=true:=agB λy hy=>by
    obtain⟨i,hi⟩:=sD.1 hy;obtain⟨_,_,hr⟩:=l2 i y hi;exact hr.loc
   have tV:VR (jB w) w.heap (.aE false l) (.slice (some a) len cap):=by
    unfold VR;refine⟨agE,?_⟩
    by_cases xq:cap=0
    ·subst xq
     obtain rfl:len=0:=by omega
     exact .inl ⟨dW l1,some a,rfl,by simp⟩
    ·have hb:a.spot=none/\∃c el fz,w.heap[a.block]? = some (.cells c el fz):=by
      by_cases He:0<len
      ·obtain⟨_,nO, c1,_⟩:=each 0 He
       rw[Nat.zero_mul,show a.add 0=a from rfl]at c1;obtain⟨q1,_,c,el,fz,q2,_⟩:=Ia h3 c1;exact⟨q1,c,el,fz,q2⟩
      ·obtain⟨r1,r2⟩:=hsp rfl
       have hg:=r2 0 (by omega)
       obtain⟨y,hy⟩:∃y,rest[0]? = some y:=⟨rest[0]'(by omega),by simp[show 0<rest.length by omega]⟩
       rw[hy,Option.bind_eq_some_iff]at hg;obtain⟨nO, g1,_⟩:=hg;rw[show len+0=0 by omega,Nat.zero_mul,show a.add 0=a from rfl]at g1
       obtain⟨q1,_,c,el,fz,q2,_⟩:=Ia h3 g1;exact⟨q1,c,el,fz,q2⟩
     obtain⟨hs,c,el,fz,hb⟩:=hb;refine .inr ⟨a.block,a.off,cap,e.n,c,el,fz,?_,by omega,(jd.1 hb).1,hb,je.of λi y hi=>?_⟩
     ·rw[l1,<-hs]
     ·obtain⟨nO, c1,hr⟩:=l2 i y hi
      obtain⟨q1,q2,c', mg, fz', q3,q4⟩:=Ia h3 c1;have eb:(a.add (i*e.n)).block=a.block/\(a.add (i*e.n)).off=a.off+i*e.n:=by
       unfold Addr.add;split
       ·rename_i h0;rw[h0];exact⟨rfl,rfl⟩
       ·exact⟨rfl,rfl⟩
      rw[eb.1,hb]at q3;simp only[bF,kF]at q3;obtain⟨rfl,_,_⟩:=q3;obtain⟨v,v1,v2⟩:=agC hr.alone hr.vr hr.one;refine⟨v,v1,by rw[v2];simpa using q2,λj hj=>?_⟩
      have:=q4 j hj;rw[eb.2]at this;rw[this,v2,List.getElem?_toArray]
   exact⟨.aE false l,Rd.scalar ⟨l,rfl,by omega,agD⟩ rfl tV rfl rfl rfl⟩
 |.st fs,n,t,cs,x,ht,h=>by
  have key:(∃gs,P.underlying t=some (.struct gs)/\P.cellsOf t=Ty.ns fs/\iX P fs gs.toList 0=true)\/∃k u,P.underlying t=some (.array k u)/\P.cellsOf t=Ty.ns fs/\fs.length=k/\sY P fs u=true:=by
   unfold jo at ht;split at ht
   ·rename_i gs hu
    simp only[aD,cL]at ht;exact .inl ⟨gs,hu,ht.1,ht.2⟩
   ·rename_i k u hu
    simp only[aD,cL]at ht;exact .inr ⟨k,u,hu,ht.1.1,ht.1.2,ht.2⟩
   ·simp at ht
  rcases key with⟨gs,hu,h1,h2⟩|⟨k,u,hu,h1,hk,h2⟩
  case inr=>
   obtain⟨xs,m,_,_,hl,hlen,hf⟩:=DataW.trod_array hu h;obtain⟨as,a1,a2,a3,a4⟩:=rdA fs 0 h2 (cs:=cs) (λi hi=>by
    have:=hf i (by omega)
    have aK:i<xs.length:=by omega
    rw[dc aK]at this;exact⟨m,_,by rw[jf];exact this⟩)
   have e:(cs.drop 0).take (Ty.ns fs)=cs:=by rw[nI,gl (by omega)]
   rw[e]at a3 a4;exact⟨.agg (as.flatMap AV.cells),⟨⟨as,rfl,a1⟩,a2,a3,a4,by rw[hl,h1];rfl,.inl ⟨_,rfl⟩⟩⟩
  obtain⟨xs,m,_,_,hl,hlen,hf⟩:=DataW.trod_struct hu h;obtain⟨as,a1,a2,a3,a4⟩:=rdL fs 0 h2 (cs:=cs) (λi f hi=>by
   have dw : gs[i]? = some f:=by simpa using hi
   have:=hf i f dw;have aK:i<xs.length:=by rw[hlen];exact(jd.1 dw).1
   rw[dc aK]at this;exact⟨m,_,this⟩)
  have e:(cs.drop 0).take (Ty.ns fs)=cs:=by rw[nI,gl (by omega)]
  rw[e]at a3 a4;exact⟨.agg (as.flatMap AV.cells),⟨⟨as,rfl,a1⟩,a2,a3,a4,by rw[hl,h1];rfl,.inl ⟨_,rfl⟩⟩⟩
theorem rdA:∀(fs:List Ty) (off:Nat){u:TypeId}{cs:List Value},sY P fs u=true->
  (∀(i:Nat),i<fs.length->∃(n:Nat) (x:DataW H×List MemPlace),DataW.trod enc P w 0 (λ_=>true) true n u ((cs.drop (off+i*P.cellsOf u)).take (P.cellsOf u))=some x)->
  ∃as,Ty.sZ fs as/\ax (as.flatMap AV.cells)=true/\cd (jB w) w.heap (as.flatMap AV.cells) ((cs.drop off).take (Ty.ns fs))/\∀y∈(cs.drop off).take (Ty.ns fs),y.oneCell' = true
 | [],off,u,cs,au,hr=>by
  refine⟨[],rfl,rfl,?_,?_⟩
  ·rw[show Ty.ns []=0 from rfl,List.take_zero];rfl
  ·rw[show Ty.ns []=0 from rfl,List.take_zero];simp
 |T::r,off,u,cs,au,hr=>by
  simp only[sY,aD,cL]at au;obtain⟨⟨h2,h3⟩,h4⟩:=au;obtain⟨n,x,hx⟩:=hr 0 (by simp)
  rw[Nat.zero_mul,Nat.add_zero]at hx;obtain⟨a,ha⟩:=rd T h3 hx;obtain⟨as,b1,b2,b3,b4⟩:=rdA r (off+T.n) h4 (cs:=cs) λi hi=>by
   obtain⟨n,x,hx⟩:=hr (i+1) (by simp;omega)
   refine⟨n,x,?_⟩;rw[<-h2,show off+P.cellsOf u+i*P.cellsOf u=off+(i+1)*P.cellsOf u by rw[fx];omega]
   exact hx
  have e:(cs.drop off).take (Ty.ns (T::r))=(cs.drop off).take T.n++(cs.drop (off+T.n)).take (Ty.ns r):=by
   rw[show Ty.ns (T::r)=T.n+Ty.ns r from rfl,List.take_add,List.drop_drop]
  rw[h2]at ha;refine⟨a::as,⟨a,as,rfl,ha.has,b1⟩,?_,?_,?_⟩
  ·rw[jD];exact PW (PX ha.loc) b2
  ·rw[e,jD];exact ha.vr.append b3
  ·rw[e]
   intro y hy;rcases eI.1 hy with hy|hy
   ·exact ha.one y hy
   ·exact b4 y hy
theorem rdL:∀(fs:List Ty) (off:Nat){gs:List Field}{cs:List Value},iX P fs gs off=true->
  (∀(i:Nat) (f:Field),gs[i]? = some f->∃(n:Nat) (x:DataW H×List MemPlace),DataW.trod enc P w 0 (λ_=>true) true n f.type ((cs.drop f.offset).take (P.cellsOf f.type))=some x)->
  ∃as,Ty.sZ fs as/\ax (as.flatMap AV.cells)=true/\cd (jB w) w.heap (as.flatMap AV.cells) ((cs.drop off).take (Ty.ns fs))/\∀y∈(cs.drop off).take (Ty.ns fs),y.oneCell' = true
 | [],off,gs,cs,au,hr=>by
  refine⟨[],rfl,rfl,?_,?_⟩
  ·rw[show Ty.ns []=0 from rfl,List.take_zero];rfl
  ·rw[show Ty.ns []=0 from rfl,List.take_zero];simp
 |T::r,off,gs,cs,au,hr=>by
  cases gs with
  |nil=>simp[iX]at au
  |cons f s=>
   simp only[iX,aD,cL]at au;obtain⟨⟨⟨h1,h2⟩,h3⟩,h4⟩:=au;obtain⟨n,x,hx⟩:=hr 0 f rfl;obtain⟨a,ha⟩:=rd T h3 hx;obtain⟨as,b1,b2,b3,b4⟩:=rdL r (off+T.n) h4 (cs:=cs) λi f' hi=>hr (i+1) f' (by simpa using hi)
   have e:(cs.drop off).take (Ty.ns (T::r))=(cs.drop off).take T.n++(cs.drop (off+T.n)).take (Ty.ns r):=by
    rw[show Ty.ns (T::r)=T.n+Ty.ns r from rfl,List.take_add,List.drop_drop]
   rw[h1,h2]at ha;refine⟨a::as,⟨a,as,rfl,ha.has,b1⟩,?_,?_,?_⟩
   ·rw[jD];exact PW (PX ha.loc) b2
   ·rw[e,jD];exact ha.vr.append b3
   ·rw[e]
    intro y hy;rcases eI.1 hy with hy|hy
    ·exact ha.one y hy
    ·exact b4 y hy
end
theorem agF{T:Ty}{r:Reach}{b0:Nat}{t:TypeId}{v:Value}{d:DataW H}{ps:List MemPlace}(ht:jo P T t=true) (eZ:Value.okWide P w r b0 t v) (h:DataW.Trod enc P w 0 (λ_=>true) true t v d ps) :
  ∃a,T.has a/\aN a=true/\VR (jB w) w.heap a v:=by
 obtain⟨n,hn⟩:=h;obtain⟨a,ha⟩:=rd T ht hn;refine⟨a,ha.has,ha.loc,?_⟩
 by_cases bR:∃fs,T = .st fs
 ·obtain⟨fs,rfl⟩:=bR
  obtain⟨xs,rfl,_⟩:=ha.has;have hu:(∃gs,P.underlying t=some (.struct gs))\/∃k u,P.underlying t=some (.array k u):=by
   unfold jo at ht;split at ht
   ·exact .inl ⟨_,‹_›⟩
   ·exact .inr ⟨_,_,‹_›⟩
   ·simp at ht
  have pL:∃cs,v = .agg cs:=by
   rcases hu with⟨gs,hu⟩|⟨k,u,hu⟩
   ·simp only[Value.okWide,hu]at eZ
    obtain⟨cs,rfl,_⟩:=eZ;exact⟨cs,rfl⟩
   ·simp only[Value.okWide,hu]at eZ
    obtain⟨cs,rfl,_⟩:=eZ;exact⟨cs,rfl⟩
  obtain⟨cs,rfl⟩:=pL;unfold VR;exact⟨cs.toList,by simp,ha.vr,ha.one⟩
 ·have kG:v.oneCell' = true:=by
   cases T with
   |int=>
    have hu:P.underlying t=some (.int .i64):=by
     unfold jo at ht;split at ht<;>simp_all
    obtain⟨m,rfl⟩:=okWide_int hu eZ;rfl
   |ik k=>
    have hu:∃K,P.underlying t=some (.int K):=by
     unfold jo at ht;split at ht
     ·exact⟨_,‹_›⟩
     ·simp at ht
    obtain⟨K,hu⟩:=hu;obtain⟨m,rfl⟩:=okWide_int hu eZ;rfl
   |bool=>
    have hu:P.underlying t=some .bool:=by
     unfold jo at ht;split at ht<;>simp_all
    obtain⟨m,rfl⟩:=okWide_bool hu eZ;rfl
   |str=>
    have hu:P.underlying t=some .string:=by
     unfold jo at ht;split at ht<;>simp_all
    obtain⟨m,rfl⟩:=okWide_string hu eZ;rfl
   |sl e=>
    have hu:∃u,P.underlying t=some (.slice u):=by
     unfold jo at ht;split at ht
     ·exact⟨_,‹_›⟩
     ·simp at ht
    obtain⟨u,hu⟩:=hu;obtain⟨q,l,c,rfl⟩:=okWide_slice hu eZ;rfl
   |st fs=>exact absurd ⟨fs,rfl⟩ bR
  have hv:=ha.vr;rw[yN kG]at hv;rcases ha.alone with⟨l,rfl⟩|_
  ·cases T with
   |st fs=>exact absurd ⟨fs,rfl⟩ bR
   |_=>have:=ha.has;simp[Ty.has]at this
  ·have e:a.cells=[a]:=by
    cases a with
    |agg l=>
     cases T with
     |st fs=>exact absurd ⟨fs,rfl⟩ bR
     |_=>have:=ha.has;simp[Ty.has]at this
    |_=>rfl
   rw[e]at hv;obtain⟨v', s,e1,e2,e3⟩:=hv;simp at e1;obtain⟨rfl,rfl⟩:=e1;exact e2
def qH (P:Program):List Ty->List TypeId->Bool
 | [],[]=>true
 |T::r,t::s=>jo P T t&&qH P r s
 |_,_=>false
theorem PY:∀(Ts:List Ty){r:Reach}{b0:Nat}{ts:List TypeId}{vs:List Value}{ds:List (DataW H)}{ps:List MemPlace},qH P Ts ts=true->
  (∀(j:Nat) t v,ts[j]? = some t->vs[j]? = some v->Value.okWide P w r b0 t v)->DataW.TrodAll enc P w 0 (λ_=>true) true ts vs ds ps->∃as,Ty.sZ Ts as/\ax as=true/\cd (jB w) w.heap as vs
 | [],_,_,ts,vs,ds,ps,ht,eZ,h=>by
  cases ts with
  |cons a b=>simp[qH]at ht
  |nil=>
   obtain⟨rfl,rfl,rfl⟩:=trodAll_nil h;exact⟨[],rfl,rfl,rfl⟩
 |T::Ts,_,_,ts,vs,ds,ps,ht,eZ,h=>by
  cases ts with
  |nil=>simp[qH]at ht
  |cons t ts=>
   simp only[qH,aD]at ht;obtain⟨v,u7, d,ds', p,q,rfl,rfl,rfl,h1,h2⟩:=trodAll_cons h;obtain⟨a,a1,a2,a3⟩:=agF ht.1 (eZ 0 t v rfl rfl) h1;obtain⟨as,b1,b2,b3⟩:=PY Ts ht.2 (λj t' v' hj hv=>eZ (j+1) t' v' (by simpa using hj) (by simpa using hv)) h2
   exact⟨a::as,⟨a,as,rfl,a1,b1⟩,by simp[ax,a2,b2],v,u7, rfl,a3,b3⟩
end
def B9 (s:ChangeSpec) (k:Nat):Prop:=s.vars=[]/\∀(H:Type) (ds:List (DataW H)),ds.length=k->s.fn H ds={results:=[.lit (.bool true)],args:=ds}
theorem PZ{H:Type}{enc:TypeId×Value->H}{w:World}{b:Nat}{sp:Nat->Bool}{hd:Bool}:∀{ts:List TypeId}{vs:List Value}{ds:List (DataW H)}{ps:List MemPlace},DataW.TrodAll enc P w b sp hd ts vs ds ps->ds.length=ts.length
 | [],vs,ds,ps,h=>by obtain⟨rfl,rfl,rfl⟩:=trodAll_nil h;rfl
 |t::ts,vs,ds,ps,h=>by
  obtain⟨v,u7, d,ds', p,q,rfl,rfl,rfl,h1,h2⟩:=trodAll_cons h;simp[PZ h2]
theorem Ib{H:Type}{enc:TypeId×Value->H}{W W' : World}(hl:laidOutB P=true) (hb:Below W.heap.size W W'):∀{ts:List TypeId}{vs:List Value}{ds:List (DataW H)}{ps:List MemPlace}{sp:Nat->Bool},
  (ts.all λt=>P.readableRec t&&decide (t<P.types.size))=true->(∀p∈ps,p.block<W.heap.size)->(∀p∈ps,sp p.block=true)->DataW.TrodAll enc P W 0 (λ_=>true) true ts vs ds ps->DataW.TrodAll enc P W' 0 sp true ts vs ds ps
 | [],vs,ds,ps,sp,_,_,_,h=>by obtain⟨rfl,rfl,rfl⟩:=trodAll_nil h;rfl
 |t::ts,vs,ds,ps,sp,ht,aK,hs,h=>by
  obtain⟨v,u7, d,ds', p,q,rfl,rfl,rfl,h1,h2⟩:=trodAll_cons h;simp only[List.all_cons,aD,eP]at ht;refine trodAll_cons_mk (WideElems.Trod_stays hl ht.1.1 ht.1.2 h1 (λx hx=>hb.same (aK x (by simp[hx]))) λx hx=>hs x (by simp[hx])) ?_
  exact Ib hl hb (by simpa using ht.2) (λx hx=>aK x (by simp[hx])) (λx hx=>hs x (by simp[hx])) h2
theorem P0 (w:World):Good (jB w) w:=
 ⟨λk h=>h,λb u B id h=>by simp[jB,af,ak]at h,λb u B id h=>by simp[jB,af,ak]at h,λb u B id b' u' B' id' h=>by simp[jB,af,ak]at h,λb u B id es h=>by simp[jB,af,ak]at h⟩
theorem rF{H:Type}{enc:TypeId×Value->H}{ce:CE}(dM:cx P ce){f:FuncId}{fn:Func}{s:ChangeSpec}{apart fresh handsOn again:Bool}{Ts:List Ty}{tb:TypeId}
  (hs:B9 s fn.params.size) (hl:laidOutB P=true) (hts:qH P Ts fn.params.toList=true) (Ga:(fn.params.toList.all λt=>P.readableRec t&&decide (t<P.types.size))=true)
  (P1:fn.resultTypes = #[tb]) (AQ:P.underlying tb=some .bool)
  {W:World} {b0:Nat} {args:Array Value} {ds gs:List (DataW H)} {before:List MemPlace}
  (eZ:∀(j:Nat) t v,fn.params[j]? = some t->args[j]? = some v->Value.okWide P W .any b0 t v)
  (hW:DataW.Whole enc P fn.params.toList s.vars apart W args.toList ds gs before)
  (law:∀as,Ty.sZ Ts as->ax as=true->∃bp, ce f as []=some (.bool true,bp)) :
  Calls P f args W λe W' =>∃v,e = .returned v/\s.post enc P fn apart fresh handsOn again W args v W' :=by
 obtain⟨qC,hfn⟩:=hs;have hW0:=hW;obtain⟨p,q,hA,hV,rfl,P2,jh⟩:=hW;rw[qC]at hV;obtain⟨rfl,rfl⟩:=trodVars_none hV;have aK:∀x∈p,x.block<W.heap.size:=λx hx=>hW0.lt x (by simp[hx])
 obtain⟨as,a1,a2,a3⟩:=PY Ts hts (λj t v hj hv=>eZ j t v (by simpa using hj) (by simpa using hv)) hA
 obtain⟨bp, agG⟩:=law as a1 a2;have hc:=dM f as [] (.bool true) bp agG (λ_=>0) (λk=>k<W.heap.size) W args.toList (P0 W) a3;simp only[Array.toArray_toList]at hc;refine hc.mono λe W' ⟨v,aJ, I', he,xy, hv,bR⟩=>⟨v,he,?_⟩;have hv:v = .bool true:=hv;subst hv;have hb:Below W.heap.size W W' :=⟨bR.os,bR.tape.1,bR.output,bR.size,λk hk=>bR.frame k hk (λ⟨b,u,B,h,_⟩=>by simp[af,ak]at h)⟩
 have ze:s.fn H (ds ++ [])={results:=[.lit (.bool true)],args:=ds}:=by
  rw[List.append_nil];exact hfn H ds (by rw[PZ hA];simp)
 have hr:∀(b:Nat) (sp:Nat->Bool) (hd:Bool),DataW.TrodAll enc P W' b sp hd fn.resultTypes.toList ((Value.bool true).resultList fn.resultTypes.size) [.lit (.bool true)] []:=λb sp hd=>by
  rw[P1];exact trodAll_cons_mk (shut_bool AQ true) trodAll_mk0
 refine⟨ds,[],p ++ [],[],p,[],hW0,by rw[ze];exact hr _ _ _,by rw[ze];exact Ib hl hb Ga aK (λx hx=>by simpa using aK x hx) hA,by rw[ze,qC];rfl,World.keptBut_mono (λx hx=>⟨hx,.inr (.inl (by simpa using hx))⟩) (hb.frame (·∈p ++ [])),λ_=>?_⟩
 refine⟨ok_one P1 rfl (okWide_bool_mk AQ _),_,[],([]++p) ++ [],⟨[]++p,[],trodAll_append (Ib hl hb Ga aK (λ_ _=>rfl) hA) (hr _ _ _),by rw[qC];rfl,rfl,?_,?_⟩,?_⟩
 ·intro b off hp
  have fc:MemPlace.cell b off∈p:=by simpa using hp
  rw[hb.frozen (aK _ fc)];exact P2 b off (by simpa using fc)
 ·intro ha
  have:=jh ha;simpa using this
 ·intro x hx _
  simpa using hx
end Ab
