/- What maps do: a new one, what it has for a key, an entry more. Condition: none. -/
import Derived.Test.YtdenhmniigikcaaGreatAbA
import Derived.MapKept
import Derived.WideKeyRuns
set_option linter.all false
set_option maxRecDepth 100000
namespace Ab
open Go
variable{P:Program}
section
variable{C:Ctx}{H:Array Obj}{w:World}
def NJ{t:TypeId}(h:bF P t none=true):∃i,P.info? t=some i/\P.cellsOf t=1:=by
 have a:=nZ h;unfold cD at a;cases b:P.info? t with
 |none=>simp[b]at a
 |some i=>
  simp[b,aM]at a;exact⟨i,rfl,by simp[Program.cellsOf,b,a]⟩
variable{x:AV}
def sQ(h:ba 0 x=true):∃s,x = .int s:=by
 cases x<;>first|exact⟨_,rfl⟩|(change false=true at h;cases h)
def sR(h:ba 1 x=true):∃s,x = .str s:=by
 cases x<;>first|exact⟨_,rfl⟩|(change false=true at h;cases h)
def FD{n:Nat}(h:ba (n+2) x=true):∃l,x = .agg l/\l.length=n/\(fk l l).isSome=true:=by
 cases x<;>first|(change false=true at h;cases h;done)|skip
 rename_i l;change (l.length==n&&(fk l l).isSome)=true at h;simp only[aH,cT]at h;exact⟨l,rfl,h.1,h.2⟩
variable{kt:TypeId}{kd:Nat}{y:AV}{v u:Value}
def ZC{b:Bool}(g:dL P kt kd=true) (B:ba kd x=true) (I:VR C H x v) (J:VR C H y u) (r:eC x y=some b) (w:World):(Op.equal kt v u).run P w = .ok b w:=by
 unfold Op.equal Op.maxDepth
 match kd,g,B with
 |0,g,B=>
  have z:P.underlying kt=some (.int .i64):=by
   unfold dL at g;split at g<;>first|assumption|(rename_i V _;omega)|(cases g)
  obtain⟨a,rfl⟩:=sQ B;cases y<;>simp only[eC,reduceCtorEq]at r
  rename_i c;simp at r;subst r;rw[I.bt,J.bt,show(10000:Nat)=9999+1 from rfl,run_equalIn_int w 9999 kt .i64 .i64 _ _ z]
  congr 1
 |1,g,B=>
  have z:P.underlying kt=some .string:=by
   unfold dL at g;split at g<;>first|assumption|(rename_i V _;omega)|(cases g)
  obtain⟨a,rfl⟩:=sR B;cases y<;>simp only[eC,reduceCtorEq]at r
  rename_i c;simp at r;subst r;unfold VR at I J;rw[I,J,show(10000:Nat)=9999+1 from rfl,run_equalIn_string w 9999 kt _ _ z];have p:∀s:List UInt8,ByteArray.toList ⟨s.toArray⟩=s:=λs=>by rw[ByteArray.toList_eq]
  rw[p,p]
  congr 1
  rw[mU];simp
 |n+2,g,B=>
  obtain⟨xs,rfl,L,_⟩:=FD B;cases y<;>simp only[eC,reduceCtorEq]at r
  rename_i ys;obtain⟨j,l,rfl,rfl,W,rfl⟩:=yG r;obtain⟨vs,rfl,M,_⟩:=I;obtain⟨us,rfl,N,_⟩:=J;rw[wD M,wD N];have D:j.length=n:=by simpa using L
  unfold dL at g;split at g
  .rename_i p _;exact absurd p ab
  .rename_i p _;exact absurd p ab
  .rename_i O fs p z
   have p:n=O :=aa
   subst p;simp only[aH,cT,Bool.not_eq_true']at g;have E:P.fieldsOf kt=fs:=by unfold Program.fieldsOf;rw[z]
   rw[show(10000:Nat)=9999+1 from rfl,run_equalIn_struct w 9999 kt _ _ (by rw[E];exact z) g.2,E]
   have:=FE (P:=P) (d:=9998) (w:=w) W (fs:=fs.toList) (o:=0) g.1.2 (by simp[D,g.1.1])
   simpa using this
  .rename_i O m e p z
   have p:n=O :=aa
   subst p;simp only[aH,cT]at g;obtain⟨⟨rfl,F⟩,G⟩:=g;have Q:P.underlying e=some (.int .i64):=by
    split at F
    .assumption
    .simp at F
   obtain⟨i,X,R⟩:=NJ G;rw[show(10000:Nat)=9999+1 from rfl,run_equalIn_array w 9999 _ _ z X,R];have S:∀(Z:List Int) (o:Nat) (h:o<Z.length) (w:World),(Go.part e (Z.map (Value.int .i64)).toArray (o*1)).run P w = .ok (.int .i64 Z[o]) w:=λZ o h w=>by
    have Y:(Z.map (Value.int .i64)).toArray[o]? = some (.int .i64 Z[o]):=by simp[h]
    simp only[Nat.mul_one,Go.part,aW,uq G,uu,aZ,ef,eI,Y,bw]
   have go:∀(k o:Nat),o+k=j.length->(Op.eqItems 9999 e 1 (j.map (Value.int .i64)).toArray (l.map (Value.int .i64)).toArray (List.range' o k)).run P w = .ok (decide (j.drop o=l.drop o)) w:=by
    intro k
    induction k with
    |zero=>
     intro o ho;simp only[List.range'_zero,Op.eqItems,bw];rw[jY aa,jY aa];simp
    |succ k K=>
     intro o ho;have T:o<j.length:=aa
     have U:o<l.length:=aa
     simp only[List.range'_succ,Op.eqItems,aW,S j o T,S l o U,aZ,show(9999:Nat)=9998+1 from rfl,run_equalIn_int w 9998 e .i64 .i64 _ _ Q];have K:=K (o+1) aa
     rw[show(9999:Nat)=9998+1 from rfl]at K;have A:(j.drop o=l.drop o)↔(j[o]=l[o]/\j.drop (o+1)=l.drop (o+1)):=by
      rw[qj T,qj U,List.cons.injEq]
     by_cases q:j[o]=l[o]
     .have hd:decide (j.drop (o+1)=l.drop (o+1))=decide (j.drop o=l.drop o):=by
       rw[mU,decide_eq_true_iff,decide_eq_true_iff,A];exact⟨λh=>⟨q,h⟩,λh=>h.2⟩
      have eb:(j[o]==l[o])=true:=by simpa using q
      simp only[eb,Bool.not_true,ef,eI,K,hd]
     .have e' : (j[o]==l[o])=false:=by simpa using q
      have hd:decide (j.drop o=l.drop o)=false:=oq λh=>q (A.1 h).1;simp only[e', Bool.not_false,dD,bw,hd]
   have:=go j.length 0 aa
   rw[<-List.range_eq_range', D]at this;simpa using this
  .simp at g
def ZD{D:Nat}(hk:dL P kt kd=true) (hf:ba kd x=true) (hx:VR C H x v) (w:World) (em:Bool):(Instr.checkKey em (D+1+1) kt v).run P w = .ok () w:=by
 match kd,hk,hf with
 |0,hk,hf=>
  have hu:P.underlying kt=some (.int .i64):=by
   unfold dL at hk;split at hk<;>first|assumption|(rename_i h1 _;omega)|(cases hk)
  obtain⟨a,rfl⟩:=sQ hf;rw[hx.bt];exact Go.MapKept.run_checkKey (k:=.int .i64 a) hu mV em _
 |1,hk,hf=>
  have hu:P.underlying kt=some .string:=by
   unfold dL at hk;split at hk<;>first|assumption|(rename_i h1 _;omega)|(cases hk)
  obtain⟨a,rfl⟩:=sR hf;unfold VR at hx;rw[hx];exact Go.MapKept.run_checkKey (k:=.string ⟨a.toArray⟩) hu mV em _
 |n+2,hk,hf=>
  obtain⟨xs,rfl,hf1,Xl⟩:=FD hf;obtain⟨q,hq⟩:=ru.1 Xl;obtain⟨Xs,_,rfl,_,_,_⟩:=yG hq;obtain⟨vs,rfl,qV,_⟩:=hx;rw[wD qV];have Mh:Xs.length=n:=by simpa using hf1
  unfold dL at hk;split at hk
  .rename_i e1 _;exact absurd e1 ab
  .rename_i e1 _;exact absurd e1 ab
  .rename_i n' fs e1 hu
   have e1:n=n' :=aa
   subst e1;simp only[aH,cT,Bool.not_eq_true']at hk;rw[Instr.checkKey];simp only[aW,run_underlying hu,aZ];rw[<-Array.forIn_toList];have go:∀(fs:List Field) (o:Nat),gg P fs o=true->o+fs.length=Xs.length->(forIn fs PUnit.unit λ(f:Field) (_:PUnit)=>(if f.name ≠ "_" then do
      Instr.checkKey em (D+1) f.type (<-Go.part f.type (Xs.map (Value.int .i64)).toArray f.offset)
      pure (ForInStep.yield PUnit.unit)else pure (ForInStep.yield PUnit.unit):Sem (ForInStep PUnit))).run P w = .ok PUnit.unit w:=by
    intro fs
    induction fs with
    |nil=>intro o _ _;simp
    |cons f fs ih=>
     intro o hi ho;simp only[gg,aH,cT,bne_iff_ne]at hi;obtain⟨⟨⟨⟨h1,h2⟩,h3⟩,h4⟩,h5⟩:=hi;have hu:P.underlying f.type=some (.int .i64):=by
      split at h2
      .assumption
      .simp at h2
     simp only[cO]at ho;have hX:o<Xs.length:=aa
     have hg:(Xs.map (Value.int .i64)).toArray[o]? = some (.int .i64 Xs[o]):=by simp[hX]
     have hp:(Go.part f.type (Xs.map (Value.int .i64)).toArray f.offset).run P w = .ok (.int .i64 Xs[o]) w:=by
      simp only[Go.part,aW,uq h3,uu,aZ,ef,eI,h4,hg,bw]
     have hc:(Instr.checkKey em (D+1) f.type (.int .i64 Xs[o])).run P w = .ok () w:=Go.MapKept.run_checkKey (k:=.int .i64 Xs[o]) hu mV em _
     simp only[List.forIn_cons,aW,ae h1,hp,aZ,hc,bw];exact ih (o+1) h5 aa
   rw[go fs.toList 0 hk.1.2 (by simp[Mh,hk.1.1])];simp
  .rename_i n' m e e1 hu
   have e1:n=n' :=aa
   subst e1;simp only[aH,cT]at hk;obtain⟨⟨rfl,pS⟩,Es⟩:=hk;have hue:P.underlying e=some (.int .i64):=by
    split at pS
    .assumption
    .simp at pS
   obtain⟨i,hi,Mi⟩:=NJ Es;rw[Instr.checkKey];simp only[aW,run_underlying hu,aZ];simp only[Std.Legacy.Range.forIn_eq_forIn_range', Std.Legacy.Range.size,Nat.sub_zero,Nat.add_one_sub_one,Nat.div_one];have hp:∀(o:Nat) (h:o<Xs.length),(Go.part e (Xs.map (Value.int .i64)).toArray (o*1)).run P w = .ok (.int .i64 Xs[o]) w:=λo h=>by
    have hg:(Xs.map (Value.int .i64)).toArray[o]? = some (.int .i64 Xs[o]):=by simp[h]
    simp only[Nat.mul_one,Go.part,aW,uq Es,uu,aZ,ef,eI,hg,bw]
   have go:∀(k o:Nat),o+k=Xs.length->(forIn (List.range' o k) PUnit.unit λ(i:Nat) (_:PUnit)=>(do
      Instr.checkKey em (D+1) e (<-Go.part e (Xs.map (Value.int .i64)).toArray (i*(<-sizeOf e)))
      pure (ForInStep.yield PUnit.unit):Sem (ForInStep PUnit))).run P w = .ok PUnit.unit w:=by
    intro k
    induction k with
    |zero=>intro o _;simp
    |succ k ih=>
     intro o ho;have hX:o<Xs.length:=aa
     have hc:(Instr.checkKey em (D+1) e (.int .i64 Xs[o])).run P w = .ok () w:=Go.MapKept.run_checkKey (k:=.int .i64 Xs[o]) hue mV em _
     simp only[List.range'_succ,List.forIn_cons,aW,run_sizeOf w hi,Mi,hp o hX,aZ,hc,bw];exact ih (o+1) aa
   rw[<-Mh];rw[go Xs.length 0 aa];simp
  .simp at hk
def Fz(a:dL P kt kd=true) (b:ba kd x=true) (d:VR C H x v) (w:World) (em:Bool):(Instr.checkKey em 10000 kt v).run P w = .ok () w:=ZD (D:=9998) a b d w em
def Nr(h:ba kd x=true):aR x=true:=by
 match kd with
 |0=>obtain⟨s,rfl⟩:=sQ h;rfl
 |1=>obtain⟨s,rfl⟩:=sR h;rfl
 |n+2=>
  obtain⟨l,rfl,_,b⟩:=FD h;obtain⟨q,d⟩:=ru.1 b;obtain⟨g,_,rfl,_,_,_⟩:=yG d;show aC _=true;have go:∀l:List Int,aC (l.map AV.int)=true:=λl=>by
   induction l with
   |nil=>rfl
   |cons a r e=>simpa[aC,aR]using e
  exact go _
def MR.push{C:Ctx}{H:Array Obj}{k x:AV}{e:MapEntry}(hk:aR k=true) (tY:VR C H k e.key) (hxv:VR C H x e.val):∀{es:List (AV×AV)}{l:List MapEntry},MR C H es l->MR C H (es ++ [(k,x)]) (l ++ [e])
 | [],_,h=>by
  have:_=[]:=h;subst this;exact⟨e,[],rfl,⟨hk,tY⟩,hxv,rfl⟩
 |_::_,_,⟨e', s,q,h1,h2,hr⟩=>by
  subst q;exact⟨e', s ++ [e],rfl,h1,h2,MR.push hk tY hxv hr⟩
def FR (C:Ctx) (H:Array Obj) (r:Option AV) (q:Option (Nat×Value)):Prop:=match r,q with
 |none,none=>True
 |some y,some (_,v)=>VR C H y v
 |_,_=>False
def NK{kt:TypeId}{kd:Nat}{x:AV}{v:Value}{r:Option AV}(d:dL P kt kd=true) (g:ba kd x=true) (j:VR C H x v) (w:World):∀{es:List (AV×AV)}{l:List MapEntry}(i:Nat),MR C H es l->cL es x=some r->∃q,(Instr.findAsking kt v l i).run P w = .ok q w/\FR C H r q
 | [],_,i,n,h=>by
  have:_=[]:=n;subst this;simp[cL]at h;subst h;exact⟨none,by simp[Instr.findAsking],trivial⟩
 |(k,y)::es,_,i,⟨e,s,el,⟨B,o⟩,p,u⟩,h=>by
  subst el;simp only[cL]at h;cases a:eC x k with
  |none=>rw[a]at h;simp at h
  |some b=>
   have m:=ZC d g j o a w;cases b with
   |true=>
    rw[a]at h;simp at h;subst h;exact⟨some (i,e.val),by simp[Instr.findAsking,m],p⟩
   |false=>
    rw[a]at h;obtain⟨q,z,A⟩:=NK d g j w (i+1) u h;exact⟨q,by simp[Instr.findAsking,m,z],A⟩
def FF{kd:Nat}{d:TypeDesc}{x:AV}{v:Value}{r:Option AV}(hd:(kd=0/\d = .int .i64)\/(kd=1/\d = .string)) (m:ba kd x=true) (j:VR C H x v):∀{es:List (AV×AV)}{l:List MapEntry}(i:Nat),MR C H es l->cL es x=some r->∃q,Instr.findNow d v l i=some q/\FR C H r q
 | [],_,i,p,h=>by
  have:_=[]:=p;subst this;simp[cL]at h;subst h;exact⟨none,by simp[Instr.findNow],trivial⟩
 |(k,y)::es,_,i,⟨e,s,el,⟨B,n⟩,u,w⟩,h=>by
  subst el;simp only[cL]at h;cases g:eC x k with
  |none=>rw[g]at h;simp at h
  |some b=>
   have o:Instr.sameNow d v e.key=some b:=by
    rcases hd with⟨rfl,rfl⟩|⟨rfl,rfl⟩
    .obtain⟨a,rfl⟩:=sQ m
     cases k<;>simp only[eC,reduceCtorEq]at g;rename_i c;simp at g;subst g;rw[j.bt,n.bt];simp[Instr.sameNow];rw[mU];simp
    .obtain⟨a,rfl⟩:=sR m
     cases k<;>simp only[eC,reduceCtorEq]at g;rename_i c;simp at g;subst g;unfold VR at j n;rw[j,n];simp only[Instr.sameNow]
     congr 1
     rw[mU,Go.MapKept.bytes_beq];simp
   cases b with
   |true=>
    rw[g]at h;simp at h;subst h;exact⟨some (i,e.val),by simp[Instr.findNow,o],u⟩
   |false=>
    rw[g]at h;obtain⟨q,z,A⟩:=FF hd m j (i+1) w h;exact⟨q,by simp[Instr.findNow,o,z],A⟩
variable{es:List (AV×AV)}
def Fy{r:Option AV}(a:dL P kt kd=true) (b:ba kd x=true) (i:VR C H x v) (w:World){l:List MapEntry}(j:MR C H es l) (h:cL es x=some r):∃q,(Instr.findKey kt v l).run P w = .ok q w/\FR C H r q:=by
 match kd,a,b with
 |0,a,b=>
  have d:P.underlying kt=some (.int .i64):=by
   unfold dL at a;split at a<;>first|assumption|(rename_i e _;omega)|(cases a)
  obtain⟨q,e,g⟩:=FF (.inl ⟨rfl,rfl⟩) b i 0 j h;exact⟨q,Go.MapKept.run_findKey d e,g⟩
 |1,a,b=>
  have d:P.underlying kt=some .string:=by
   unfold dL at a;split at a<;>first|assumption|(rename_i e _;omega)|(cases a)
  obtain⟨q,e,g⟩:=FF (.inr ⟨rfl,rfl⟩) b i 0 j h;exact⟨q,Go.MapKept.run_findKey d e,g⟩
 |n+2,a,b=>
  obtain⟨q,e,g⟩:=NK a b i w 0 j h;refine⟨q,?_,g⟩;rw[run_findKey_eq w _ v l]
  .exact e
  .unfold dL at a
   split at a
   .rename_i m _;exact absurd m ab
   .rename_i m _;exact absurd m ab
   .rename_i d;rw[d]
   .rename_i d;rw[d]
   .cases a
def ZE{k:AV}(e:kd<2) (d:ba kd x=true) (b:eC x k=some true):k=x:=by
 match kd,e,d with
 |0,_,d=>
  obtain⟨a,rfl⟩:=sQ d;cases k<;>simp only[eC,reduceCtorEq]at b
  simp at b;rw[b]
 |1,_,d=>
  obtain⟨a,rfl⟩:=sR d;cases k<;>simp only[eC,reduceCtorEq]at b
  simp at b;rw[b]
def ZF(g:kd<2) (b:ba kd x=true) (d:VR C H x v) (e:VR C H x u):u=v:=by
 match kd,g,b with
 |0,_,b=>
  obtain⟨a,rfl⟩:=sQ b;rw[d.bt,e.bt]
 |1,_,b=>
  obtain⟨a,rfl⟩:=sR b;unfold VR at d e;rw[d,e]
def YU(h:dL P kt kd=true) (g:kd<2) (b:ba kd x=true) (e:VR C H x v) (w:World):(Instr.keyThatStays v v).run P w = .ok v w:=by
 match kd,g,b with
 |0,_,b=>
  obtain⟨a,rfl⟩:=sQ b;rw[e.bt];exact Go.MapKept.run_keyThatStays (d:=.int .i64) mV
 |1,_,b=>
  obtain⟨a,rfl⟩:=sR b;unfold VR at e;rw[e];exact Go.MapKept.run_keyThatStays (d:=.string) mV
def FG{kd:Nat}{d:TypeDesc}{x z:AV}{v u:Value}{y:AV}(hd:(kd=0/\d = .int .i64)\/(kd=1/\d = .string)) (p:kd<2) (n:ba kd x=true) (m:VR C H x v) (w:VR C H z u):∀{es:List (AV×AV)}{l:List MapEntry}(i:Nat),MR C H es l->cL es x=some (some y)->
  ∃j e,Instr.findNow d v l i=some (some (i+j,e.val))/\l[j]? = some e/\e.key=v/\MR C H (jf es x z) (l.set j {e with key:=v,val:=u})
 | [],_,i,L,h=>by simp[cL]at h
 |(k,M)::es,_,i,⟨e,s,el,⟨A,o⟩,E,B⟩,h=>by
  subst el;simp only[cL]at h;cases g:eC x k with
  |none=>rw[g]at h;simp at h
  |some b=>
   have D:Instr.sameNow d v e.key=some b:=by
    rcases hd with⟨rfl,rfl⟩|⟨rfl,rfl⟩
    .obtain⟨a,rfl⟩:=sQ n
     cases k<;>simp only[eC,reduceCtorEq]at g;rename_i c;simp at g;subst g;rw[m.bt,o.bt];simp[Instr.sameNow];rw[mU];simp
    .obtain⟨a,rfl⟩:=sR n
     cases k<;>simp only[eC,reduceCtorEq]at g;rename_i c;simp at g;subst g;unfold VR at m o;rw[m,o];simp only[Instr.sameNow]
     congr 1
     rw[mU,Go.MapKept.bytes_beq];simp
   cases b with
   |true=>
    have q:=ZE p n g;subst q;have r:=ZF p n m o;refine⟨0,e,by simp[Instr.findNow,D],rfl,r,?_⟩
    simp only[jf,g,qk];exact⟨_,s,rfl,⟨A,m⟩,w,B⟩
   |false=>
    rw[g]at h;obtain⟨j,F, G,I,J,K⟩:=FG hd p n m w (i+1) B h;refine⟨j+1,F, ?_,by simpa using I,J,?_⟩
    .simp only[Instr.findNow,D]
     rw[show i+(j+1)=i+1+j by omega]
     simpa using G
    .simp only[jf,g,List.set_cons_succ]
     exact⟨e,_,rfl,⟨A,o⟩,E,K⟩
def YT{z:AV}(a:dL P kt kd=true) (b:kd<2) (d:ba kd x=true) (p:VR C H x v) (q:VR C H z u) (w:World){l:Array MapEntry}(r:MR C H es l.toList) (h:cL es x=some (some y)) :
  ∃j e,(Instr.findKey kt v l.toList).run P w = .ok (some (j,e.val)) w/\l.toList[j]? = some e/\e.key=v/\MR C H (jf es x z) (l.toList.set j {e with key:=v,val:=u}):=by
 match kd,a,b,d with
 |0,a,b,d=>
  have i:P.underlying kt=some (.int .i64):=by
   unfold dL at a;split at a<;>first|assumption|(rename_i s _;omega)|(cases a)
  obtain⟨j,e,g,m,n,o⟩:=FG (.inl ⟨rfl,rfl⟩) b d p q 0 r h;rw[gX]at g;exact⟨j,e,Go.MapKept.run_findKey i g,m,n,o⟩
 |1,a,b,d=>
  have i:P.underlying kt=some .string:=by
   unfold dL at a;split at a<;>first|assumption|(rename_i s _;omega)|(cases a)
  obtain⟨j,e,g,m,n,o⟩:=FG (.inr ⟨rfl,rfl⟩) b d p q 0 r h;rw[gX]at g;exact⟨j,e,Go.MapKept.run_findKey i g,m,n,o⟩
end
section
variable{a:Act}{ρ:Operand->Value}{r:Rf->AV}{w:World}{C:Ctx}{ce:CE}{σ:List al}{nl:Nat}{ps:List cQ}
variable{b:Nat}{es:List (AV×AV)}
def ZG(h:fc σ b=some es):∃B,fW σ b 0=some B/\B.st = .map es:=by
 unfold fc at h;unfold fW;cases a:aq σ b with
 |none=>simp[a]at h
 |some B=>
  simp only[a]at h ⊢;cases d:B.st<;>simp only[d]at h ⊢<;>try(simp at h;done)
  split at h<;>simp at h;rename_i e;subst h;rw[ae e];exact⟨B,rfl,d⟩
variable{v:Value}
def Bw (i:Good C w) (a:∀b u B,C.lim b u->fW σ b u=some B->∃id,C.own b u=some (B,id))(h:fc σ b=some es) (d:VR C w.heap (.cP b) v) :
  ∃id l clock,v = .map (some id)/\w.heap[id]? = some (.map l clock)/\MR C w.heap es l.toList/\∃B,C.own b 0=some (B,id)/\B.st = .map es:=by
 obtain⟨B,j,e⟩:=ZG h;obtain⟨id,g⟩:=a b 0 B (ZH d) j;obtain⟨_,l,c,m,n⟩:=i.maps b 0 B id es g e;unfold VR at d;exact⟨id,l,c,d.2.2 B id g fK,m,n,B,g,e⟩
variable{e:TypeId}{z:AV}
def ZI(h:oL P e z=true) (w:World):∃v,(zeroValue e).run P w = .ok v w/\(∀C H,VR C H z v)/\aR z=true:=by
 unfold oL at h;cases a:P.info? e with
 |none=>simp[a]at h
 |some i=>
  simp only[a]at h;cases b:i.zero with
  |none=>simp[b]at h
  |some v=>
   simp only[b,aH]at h;exact⟨v,by simp only[zeroValue,aW,run_typeInfo w a,aZ,b,bw],λ_ _=>FH h.1,h.2⟩
variable{o:Oper}{t kt:TypeId}{x:Operand}{x': Rf}{p:Option cQ}
def NH{k:Operand}{k': Rf}{kd:Nat}{ok:Bool}{y:AV}(ho:o.op = .lookup t x k ok) (ht:P.underlying t=some (.map kt e)) (hk:dL P kt kd=true) (hz:oL P e z=true)
  (hg:Good C w) (jV:∀b u B,C.lim b u->fW σ b u=some B->∃id,C.own b u=some (B,id)) (hx:VR C w.heap (r x') (ρ x)) (tY:VR C w.heap (r k') (ρ k)) (he:ev ce σ nl ps r (.vB x' kd k' z ok)=some (y,p)):Plain P ρ o w C w.heap y/\p=none:=by
 simp only[ev]at he;cases kT : r x' <;>simp only[kT]at he<;>try(simp at he;done)
 rename_i b;rw[kT]at hx;cases hm:fc σ b with
 |none=>simp[hm]at he
 |some es=>
  simp only[hm]at he;split at he
  case isFalse=>simp at he
  rename_i hf;obtain⟨id,l,c,e1,hH,hM,_⟩:=Bw hg jV hm hx;have hc:=Fz hk hf tY w l.isEmpty;obtain⟨zv,hz1,ZJ,hz3⟩:=ZI hz w;cases hq:cL es (r k')with
  |none=>simp[hq]at he
  |some q=>
   obtain⟨q', h1,h2⟩:=Fy hk hf tY w hM hq;cases q with
   |none=>
    simp only[hq,bT,Prod.mk.injEq]at he;obtain⟨rfl,rfl⟩:=he;cases q' with
    |some _=>exact h2.elim
    |none=>
     refine⟨fI (s:=Instr.lookup t (ρ x) (ρ k) ok) (v:=if ok then .tuple #[zv,.bool false]else zv) lF ?_ ?_,rfl⟩
     .rw[e1]
      simp only[Instr.lookup,aW,run_underlying ht,aZ,wA hH,bw,hc,h1,hz1]
     .cases ok with
      |true=>unfold VR;exact⟨[zv,.bool false],rfl,zv,[.bool false],rfl,ZJ _ _,.bool false,[],rfl,rfl,rfl⟩
      |false=>exact ZJ _ _
   |some yv=>
    simp only[hq,bT,Prod.mk.injEq]at he;obtain⟨rfl,rfl⟩:=he;cases q' with
    |none=>exact h2.elim
    |some jv=>
     obtain⟨j,v⟩:=jv;have g2:=h2;refine⟨fI (s:=Instr.lookup t (ρ x) (ρ k) ok) (v:=if ok then .tuple #[v,.bool true]else v) lF ?_ ?_,rfl⟩
     .rw[e1]
      simp only[Instr.lookup,aW,run_underlying ht,aZ,wA hH,bw,hc,h1]
     .cases ok with
      |true=>unfold VR;exact⟨[v,.bool true],rfl,v,[.bool true],rfl,g2,.bool true,[],rfl,rfl,rfl⟩
      |false=>exact g2
def NL{C:Ctx}{H:Array Obj}:∀{es:List (AV×AV)}{l:List MapEntry},MR C H es l->l.length=es.length
 | [],_,e=>by rw[show _=[]from e];rfl
 |_::_,_,⟨e,s,q,_,_,a⟩=>by rw[q];simp[NL a]
variable{y:Rf}
def NI{a:Call}(s:o.op = .call a) (A:a.callee = .builtin .len) (D:a.args.toList=[x]) (i:a.argTypes.toList=[t])
  (E:P.underlying t=some (.map kt e)) (F:Good C w) (j:∀b u B,C.lim b u->fW σ b u=some B->∃id,C.own b u=some (B,id)) (q:VR C w.heap (r y) (ρ x)) (d:ev ce σ nl ps r (.AO y)=some (z,p)):Plain P ρ o w C w.heap z/\p=none:=by
 simp only[ev]at d;cases g : r y<;>simp only[g]at d<;>try(simp at d;done)
 rename_i b;rw[g]at q;cases m:fc σ b with
 |none=>simp[m]at d
 |some es=>
  simp only[m,bT,Prod.mk.injEq]at d;obtain⟨rfl,rfl⟩:=d;obtain⟨id,l,c,G,H,I,_⟩:=Bw F j m q;have n : a.args = #[x]:=by rw[<-Array.toList_inj];simpa using D
  have h : a.argTypes = #[t]:=by rw[<-Array.toList_inj];simpa using i
  have J:l.size=es.length:=by have:=NL I;simpa using this
  refine⟨⟨.int .i64 es.length,?_,gB⟩,rfl⟩
  simp only[execOp,s,resolve,A,n, h, aW,bw,aZ,invoke,builtin,Builtin.len_];simp[G,aW,run_underlying E,goInt,wA H,J]
variable{n:Int}
def ik7{C:Ctx}{H:Array Obj}(h:VR C H (.ik 7 n) v):v = .int .u64 n:=by
 unfold VR at h;obtain⟨K,a,b⟩:=h;rw[show kh 7=some IntKind.u64 from rfl]at a;cases a;exact b
def ZK(h:0<=n/\n<=255):IntKind.u8.wrap n=n:=by
 simp[IntKind.wrap,IntKind.bits,IntKind.signed];omega
def Bl{C:Ctx}{H:Array Obj}:VR C H (.ik 4 n) (.int .u8 n):=by unfold VR;exact⟨_,rfl,rfl⟩
variable{s d:TypeId}
def Zu(l:o.op = .convert s d x)
  (i:(match P.underlying s,P.underlying d with|some (.int _),some (.int .u8)=>true|_,_=>false)=true) (j:VR C w.heap (r y) (ρ x)) (a:ev ce σ nl ps r (.Mj y)=some (z,p)):Plain P ρ o w C w.heap z/\p=none:=by
 have m:∃k,P.underlying s=some (.int k)/\P.underlying d=some (.int .u8):=by
  split at i
  .rename_i k q u;exact⟨k,q,u⟩
  .simp at i
 obtain⟨k,e,g⟩:=m;simp only[ev]at a;cases b : r y<;>simp only[b]at a<;>try(simp at a;done)
 rename_i n;rw[b]at j;split at a<;>simp at a
 rename_i h;obtain⟨A,B⟩:=a;subst A B;refine⟨fI (s:=Go.convert s d (ρ x)) (v:=.int .u8 n) (by simp only[execOp,l]) ?_ Bl,rfl⟩
 rw[j.bt];simp only[Go.convert,aW,run_underlying e,run_underlying g,aZ,Conv.intToInt,bw,ZK h]
def ZL:IntKind.u8.wrap n=n%256:=by
 simp[IntKind.wrap,IntKind.bits,IntKind.signed]
def Zw(j:o.op = .convert s d x)
  (h:(match P.underlying s,P.underlying d with|some (.int _),some (.int .u8)=>true|_,_=>false)=true) (i:VR C w.heap (r y) (ρ x)) (a:ev ce σ nl ps r (.BD y)=some (z,p)):Plain P ρ o w C w.heap z/\p=none:=by
 have l:∃k,P.underlying s=some (.int k)/\P.underlying d=some (.int .u8):=by
  split at h
  .rename_i k m q;exact⟨k,m,q⟩
  .simp at h
 obtain⟨k,e,g⟩:=l;simp only[ev]at a;cases b : r y<;>simp only[b]at a<;>try(simp at a;done)
 rename_i n;rw[b]at i;simp at a;obtain⟨u,A⟩:=a;subst u A;refine⟨fI (s:=Go.convert s d (ρ x)) (v:=.int .u8 (n%256)) (by simp only[execOp,j]) ?_ Bl,rfl⟩
 rw[i.bt];simp only[Go.convert,aW,run_underlying e,run_underlying g,aZ,Conv.intToInt,bw,ZL]
def Zv{i:Operand}{i': Rf}(ho:o.op = .index t x i)
  (ht:(match P.underlying t with|some .string=>true|_=>false)=true)
  (hx:VR C w.heap (r x') (ρ x)) (hi:VR C w.heap (r i') (ρ i)) (he:ev ce σ nl ps r (.Mk x' i')=some (z,p)):Plain P ρ o w C w.heap z/\p=none:=by
 have hu:P.underlying t=some .string:=by
  split at ht
  .assumption
  .simp at ht
 simp only[ev]at he;cases kT : r x' <;>simp only[kT]at he<;>try(simp at he;done)
 cases jt : r i' <;>simp only[jt]at he<;>try(simp at he;done)
 rename_i s n;rw[kT]at hx;rw[jt]at hi;split at he
 case isFalse=>simp at he
 rename_i h0;cases hb:s[n.toNat]? with
 |none=>rw[hb]at he;simp at he
 |some b=>
  rw[hb]at he;simp at he;obtain⟨hz,hp⟩:=he;subst hz hp;refine⟨fI (s:=Instr.index t (ρ x) (ρ i)) (v:=.int .u8 (b.toNat:Int)) lF ?_ Bl,rfl⟩
  unfold VR at hx;rw[hx,hi.bt];have cm:=(dC.1 hb).1;have hg:(⟨s.toArray⟩:ByteArray)[n.toNat]? = some b:=by
   rw[getElem?_pos _ _ (by show n.toNat<s.toArray.size;simpa using cm)]
   have:=(dC.1 hb).2;show some (s.toArray[n.toNat]'_)=some b;simp[this]
  simp only[Instr.index,asIntOf,aW,bw,aZ,run_underlying hu,ae h0,hg]
variable{op:BinOp}
def FI{y:Operand}{k d : IntKind}{a b:Int}(w:World):(eqGuard op t x y (.int k a) (.int d b)).run P w = .ok () w:=by
 unfold eqGuard;split<;>simp
variable{t': TypeId}{y': Rf}
def Zy{t: TypeId}{y:Operand}{neg:Bool}(ho:o.op = .binOp op t x y t')
  (fF:lG op neg=true) (ht:(match P.underlying t with|some (.int _)=>true|_=>false)=true)
  (hx:VR C w.heap (r x') (ρ x)) (hy:VR C w.heap (r y') (ρ y)) (he:ev ce σ nl ps r (.Ml neg x' y')=some (z,p)):Plain P ρ o w C w.heap z/\p=none:=by
 have hu:∃K,P.underlying t=some (.int K):=by
  split at ht
  .exact⟨_,jy⟩
  .simp at ht
 obtain⟨K,hu⟩:=hu;simp only[ev]at he;split at he
 case h_2=>simp at he
 rename_i k a j b h1 h2;split at he<;>simp at he
 rename_i hkj;subst hkj;obtain⟨rfl,rfl⟩:=he;rw[h1]at hx;rw[h2]at hy;unfold VR at hx hy;obtain⟨K1,q1,hx⟩:=hx;obtain⟨K2,q2,hy⟩:=hy;rw[q1]at q2;cases q2;refine⟨fI (s:=do eqGuard op t x y (ρ x) (ρ y);binOp op t (ρ x) (ρ y)) (v:=.bool ((a==b) != neg)) lF ?_ gB,rfl⟩
 rw[hx,hy];have hq:(Op.equal t (.int K1 a) (.int K1 b)).run P w = .ok (a==b) w:=by
  unfold Op.equal Op.maxDepth;exact run_equalIn_int w 9999 t K1 K a b hu
 unfold lG at fF;split at fF
 .simp at fF;subst fF
  simp[aW,FI,aZ,binOp,hq,bw,Op.intCmp]
 .subst fF
  simp[aW,FI,aZ,binOp,hq,bw,Op.intCmp]
  rfl
 .simp at fF
def Zx{t: TypeId}{y:Operand}(j:o.op = .binOp .shr t x y t')
  (d:VR C w.heap (r x') (ρ x)) (e:VR C w.heap (r y') (ρ y)) (b:ev ce σ nl ps r (.FJ x' y')=some (z,p)):Plain P ρ o w C w.heap z/\p=none:=by
 have main:∀K a n,ρ x = .int .i64 a->ρ y = .int K n->(0<=n/\n<64)->z = .int (a.fdiv (2^n.toNat))->p=none->Plain P ρ o w C w.heap z/\p=none:=by
  intro K a n l m h q u;subst q u;refine⟨fI (s:=do eqGuard .shr t x y (ρ x) (ρ y);binOp .shr t (ρ x) (ρ y)) (v:=.int .i64 (a.fdiv (2^n.toNat))) (by simp only[execOp,j]) ?_ gB,rfl⟩
  rw[l,m];have A:min n.toNat (IntKind.bits .i64)=n.toNat:=by simp[IntKind.bits];omega
  simp only[aW,FI,aZ,binOp,Op.shift,ad (show ¬n<0 by omega),A,bw]
 simp only[ev]at b;split at b
 .rename_i a n g i
  split at b<;>simp at b;rename_i h;rw[g]at d;rw[i]at e;exact main _ a n d.bt e.bt h b.1.symm b.2.symm
 .rename_i a n g i
  split at b<;>simp at b;rename_i h;rw[g]at d;rw[i]at e;exact main _ a n d.bt (ik7 e) h b.1.symm b.2.symm
 .simp at b
end
end Ab
