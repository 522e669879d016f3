/- What maps do: a new one, what it has for a key, an entry more. Condition: none. -/
import Derived.Test.YtdenhmniigikcaaGreatAbA
import Derived.MapKept
import Derived.WideKeyRuns
set_option linter.all false
set_option maxRecDepth 100000
namespace Ab
open Go
variable{P:Program}
section
variable{C:Ctx}{H:Array Obj}{w:World}
theorem Mz{t:TypeId}(h:bt P t none=true):∃i,P.info? t=some i/\P.cellsOf t=1:=by
 have hs:=kD h;unfold bW at hs;cases hi:P.info? t with
 |none=>simp[hi]at hs
 |some i=>
  simp[hi,aC]at hs;exact⟨i,rfl,by simp[Program.cellsOf,hi,hs]⟩
theorem sF{x:AV}(h:bg 0 x=true):∃s,x = .int s:=by
 cases x<;>first|exact⟨_,rfl⟩|(change false=true at h;cases h)
theorem sG{x:AV}(h:bg 1 x=true):∃s,x = .str s:=by
 cases x<;>first|exact⟨_,rfl⟩|(change false=true at h;cases h)
theorem Hh{n:Nat}{x:AV}(h:bg (n+2) x=true):∃l,x = .agg l/\l.length=n/\(fg l l).isSome=true:=by
 cases x<;>first|(change false=true at h;cases h;done)|skip
 rename_i l;change (l.length==n&&(fg l l).isSome)=true at h;simp only[aD,cL]at h;exact⟨l,rfl,h.1,h.2⟩
theorem YG{kt:TypeId}{kd:Nat}{x y:AV}{v u:Value}{b:Bool}(hk:dF P kt kd=true) (hf:bg kd x=true) (hx:VR C H x v) (hy:VR C H y u) (he:ew x y=some b) (w:World):(Op.equal kt v u).run P w = .ok b w:=by
 unfold Op.equal Op.maxDepth
 match kd,hk,hf with
 |0,hk,hf=>
  have hu:P.underlying kt=some (.int .i64):=by
   unfold dF at hk;split at hk<;>first|assumption|(rename_i h1 _;omega)|(cases hk)
  obtain⟨a,rfl⟩:=sF hf;cases y<;>simp only[ew,reduceCtorEq]at he
  rename_i c;simp at he;subst he;rw[hx.aY,hy.aY,show(10000:Nat)=9999+1 from rfl,run_equalIn_int w 9999 kt .i64 .i64 _ _ hu]
  congr 1
 |1,hk,hf=>
  have hu:P.underlying kt=some .string:=by
   unfold dF at hk;split at hk<;>first|assumption|(rename_i h1 _;omega)|(cases hk)
  obtain⟨a,rfl⟩:=sG hf;cases y<;>simp only[ew,reduceCtorEq]at he
  rename_i c;simp at he;subst he;unfold VR at hx hy;rw[hx,hy,show(10000:Nat)=9999+1 from rfl,run_equalIn_string w 9999 kt _ _ hu];have e1:∀s:List UInt8,ByteArray.toList ⟨s.toArray⟩=s:=λs=>by rw[ByteArray.toList_eq]
  rw[e1,e1]
  congr 1
  rw[oL];simp
 |n+2,hk,hf=>
  obtain⟨xs,rfl,V9,_⟩:=Hh hf;cases y<;>simp only[ew,reduceCtorEq]at he
  rename_i ys;obtain⟨Xs,Ys,rfl,rfl,hl,rfl⟩:=yq he;obtain⟨vs,rfl,dQ,_⟩:=hx;obtain⟨us,rfl,nG,_⟩:=hy;rw[v7 dQ,v7 nG];have BC:Xs.length=n:=by simpa using V9
  unfold dF at hk;split at hk
  ·rename_i e1 _;exact absurd e1 (by simp)
  ·rename_i e1 _;exact absurd e1 (by simp)
  ·rename_i n' fs e1 hu
   have e1:n=n' :=by omega
   subst e1;simp only[aD,cL,Bool.not_eq_true']at hk;have AA:P.fieldsOf kt=fs:=by unfold Program.fieldsOf;rw[hu]
   rw[show(10000:Nat)=9999+1 from rfl,run_equalIn_struct w 9999 kt _ _ (by rw[AA];exact hu) hk.2,AA]
   have:=Hi (P:=P) (d:=9998) (w:=w) hl (fs:=fs.toList) (o:=0) hk.1.2 (by simp[BC,hk.1.1])
   simpa using this
  ·rename_i n' m e e1 hu
   have e1:n=n' :=by omega
   subst e1;simp only[aD,cL]at hk;obtain⟨⟨rfl,nZ⟩,MA⟩:=hk;have YH:P.underlying e=some (.int .i64):=by
    split at nZ
    ·assumption
    ·simp at nZ
   obtain⟨i,hi,r6⟩:=Mz MA;rw[show(10000:Nat)=9999+1 from rfl,run_equalIn_array w 9999 _ _ hu hi,r6];have hp:∀(Z:List Int) (o:Nat) (h:o<Z.length) (w:World),(Go.part e (Z.map (Value.int .i64)).toArray (o*1)).run P w = .ok (.int .i64 Z[o]) w:=λZ o h w=>by
    have hg:(Z.map (Value.int .i64)).toArray[o]? = some (.int .i64 Z[o]):=by simp[h]
    simp only[Nat.mul_one,Go.part,aL,re MA,rf,aR,eE,eG,hg,bh]
   have go:∀(k o:Nat),o+k=Xs.length->(Op.eqItems 9999 e 1 (Xs.map (Value.int .i64)).toArray (Ys.map (Value.int .i64)).toArray (List.range' o k)).run P w = .ok (decide (Xs.drop o=Ys.drop o)) w:=by
    intro k
    induction k with
    |zero=>
     intro o ho;simp only[List.range'_zero,Op.eqItems,bh];rw[jH (by omega),jH (by omega)];simp
    |succ k ih=>
     intro o ho;have hX:o<Xs.length:=by omega
     have hY:o<Ys.length:=by omega
     simp only[List.range'_succ,Op.eqItems,aL,hp Xs o hX,hp Ys o hY,aR,show(9999:Nat)=9998+1 from rfl,run_equalIn_int w 9998 e .i64 .i64 _ _ YH];have ih:=ih (o+1) (by omega)
     rw[show(9999:Nat)=9998+1 from rfl]at ih;have sH:(Xs.drop o=Ys.drop o)↔(Xs[o]=Ys[o]/\Xs.drop (o+1)=Ys.drop (o+1)):=by
      rw[rh hX,rh hY,List.cons.injEq]
     by_cases q:Xs[o]=Ys[o]
     ·have hd:decide (Xs.drop (o+1)=Ys.drop (o+1))=decide (Xs.drop o=Ys.drop o):=by
       rw[oL,decide_eq_true_iff,decide_eq_true_iff,sH];exact⟨λh=>⟨q,h⟩,λh=>h.2⟩
      have eb:(Xs[o]==Ys[o])=true:=by simpa using q
      simp only[eb,Bool.not_true,eE,eG,ih,hd]
     ·have e' : (Xs[o]==Ys[o])=false:=by simpa using q
      have hd:decide (Xs.drop o=Ys.drop o)=false:=rj λh=>q (sH.1 h).1;simp only[e', Bool.not_false,dC,bh,hd]
   have:=go Xs.length 0 (by omega)
   rw[<-List.range_eq_range', BC]at this;simpa using this
  ·simp at hk
theorem YI{D:Nat}{kt:TypeId}{kd:Nat}{x:AV}{v:Value}(hk:dF P kt kd=true) (hf:bg kd x=true) (hx:VR C H x v) (w:World) (em:Bool):(Instr.checkKey em (D+1+1) kt v).run P w = .ok () w:=by
 match kd,hk,hf with
 |0,hk,hf=>
  have hu:P.underlying kt=some (.int .i64):=by
   unfold dF at hk;split at hk<;>first|assumption|(rename_i h1 _;omega)|(cases hk)
  obtain⟨a,rfl⟩:=sF hf;rw[hx.aY];exact Go.MapKept.run_checkKey (k:=.int .i64 a) hu (by simp[Go.MapKept.IsKey]) em _
 |1,hk,hf=>
  have hu:P.underlying kt=some .string:=by
   unfold dF at hk;split at hk<;>first|assumption|(rename_i h1 _;omega)|(cases hk)
  obtain⟨a,rfl⟩:=sG hf;unfold VR at hx;rw[hx];exact Go.MapKept.run_checkKey (k:=.string ⟨a.toArray⟩) hu (by simp[Go.MapKept.IsKey]) em _
 |n+2,hk,hf=>
  obtain⟨xs,rfl,V9,AG⟩:=Hh hf;obtain⟨q,hq⟩:=ss.1 AG;obtain⟨Xs,_,rfl,_,_,_⟩:=yq hq;obtain⟨vs,rfl,dQ,_⟩:=hx;rw[v7 dQ];have BC:Xs.length=n:=by simpa using V9
  unfold dF at hk;split at hk
  ·rename_i e1 _;exact absurd e1 (by simp)
  ·rename_i e1 _;exact absurd e1 (by simp)
  ·rename_i n' fs e1 hu
   have e1:n=n' :=by omega
   subst e1;simp only[aD,cL,Bool.not_eq_true']at hk;rw[Instr.checkKey];simp only[aL,run_underlying hu,aR];rw[<-Array.forIn_toList];have go:∀(fs:List Field) (o:Nat),fQ P fs o=true->o+fs.length=Xs.length->(forIn fs PUnit.unit λ(f:Field) (_:PUnit)=>(if f.name ≠ "_" then do
      Instr.checkKey em (D+1) f.type (<-Go.part f.type (Xs.map (Value.int .i64)).toArray f.offset)
      pure (ForInStep.yield PUnit.unit)else pure (ForInStep.yield PUnit.unit):Sem (ForInStep PUnit))).run P w = .ok PUnit.unit w:=by
    intro fs
    induction fs with
    |nil=>intro o _ _;simp
    |cons f fs ih=>
     intro o hi ho;simp only[fQ,aD,cL,bne_iff_ne]at hi;obtain⟨⟨⟨⟨h1,h2⟩,h3⟩,h4⟩,h5⟩:=hi;have hu:P.underlying f.type=some (.int .i64):=by
      split at h2
      ·assumption
      ·simp at h2
     simp only[cw]at ho;have hX:o<Xs.length:=by omega
     have hg:(Xs.map (Value.int .i64)).toArray[o]? = some (.int .i64 Xs[o]):=by simp[hX]
     have hp:(Go.part f.type (Xs.map (Value.int .i64)).toArray f.offset).run P w = .ok (.int .i64 Xs[o]) w:=by
      simp only[Go.part,aL,re h3,rf,aR,eE,eG,h4,hg,bh]
     have hc:(Instr.checkKey em (D+1) f.type (.int .i64 Xs[o])).run P w = .ok () w:=Go.MapKept.run_checkKey (k:=.int .i64 Xs[o]) hu (by simp[Go.MapKept.IsKey]) em _
     simp only[List.forIn_cons,aL,ab h1,hp,aR,hc,bh];exact ih (o+1) h5 (by omega)
   rw[go fs.toList 0 hk.1.2 (by simp[BC,hk.1.1])];simp
  ·rename_i n' m e e1 hu
   have e1:n=n' :=by omega
   subst e1;simp only[aD,cL]at hk;obtain⟨⟨rfl,nZ⟩,MA⟩:=hk;have YH:P.underlying e=some (.int .i64):=by
    split at nZ
    ·assumption
    ·simp at nZ
   obtain⟨i,hi,r6⟩:=Mz MA;rw[Instr.checkKey];simp only[aL,run_underlying hu,aR];simp only[Std.Legacy.Range.forIn_eq_forIn_range', Std.Legacy.Range.size,Nat.sub_zero,Nat.add_one_sub_one,Nat.div_one];have hp:∀(o:Nat) (h:o<Xs.length),(Go.part e (Xs.map (Value.int .i64)).toArray (o*1)).run P w = .ok (.int .i64 Xs[o]) w:=λo h=>by
    have hg:(Xs.map (Value.int .i64)).toArray[o]? = some (.int .i64 Xs[o]):=by simp[h]
    simp only[Nat.mul_one,Go.part,aL,re MA,rf,aR,eE,eG,hg,bh]
   have go:∀(k o:Nat),o+k=Xs.length->(forIn (List.range' o k) PUnit.unit λ(i:Nat) (_:PUnit)=>(do
      Instr.checkKey em (D+1) e (<-Go.part e (Xs.map (Value.int .i64)).toArray (i*(<-sizeOf e)))
      pure (ForInStep.yield PUnit.unit):Sem (ForInStep PUnit))).run P w = .ok PUnit.unit w:=by
    intro k
    induction k with
    |zero=>intro o _;simp
    |succ k ih=>
     intro o ho;have hX:o<Xs.length:=by omega
     have hc:(Instr.checkKey em (D+1) e (.int .i64 Xs[o])).run P w = .ok () w:=Go.MapKept.run_checkKey (k:=.int .i64 Xs[o]) YH (by simp[Go.MapKept.IsKey]) em _
     simp only[List.range'_succ,List.forIn_cons,aL,run_sizeOf w hi,r6,hp o hX,aR,hc,bh];exact ih (o+1) (by omega)
   rw[<-BC];rw[go Xs.length 0 (by omega)];simp
  ·simp at hk
theorem Hc{kt:TypeId}{kd:Nat}{x:AV}{v:Value}(hk:dF P kt kd=true) (hf:bg kd x=true) (hx:VR C H x v) (w:World) (em:Bool):(Instr.checkKey em 10000 kt v).run P w = .ok () w:=YI (D:=9998) hk hf hx w em
theorem Mi{kd:Nat}{x:AV}(h:bg kd x=true):aN x=true:=by
 match kd with
 |0=>obtain⟨s,rfl⟩:=sF h;rfl
 |1=>obtain⟨s,rfl⟩:=sG h;rfl
 |n+2=>
  obtain⟨l,rfl,_,h2⟩:=Hh h;obtain⟨q,hq⟩:=ss.1 h2;obtain⟨Xs,_,rfl,_,_,_⟩:=yq hq;show ax _=true;have go:∀l:List Int,ax (l.map AV.int)=true:=λl=>by
   induction l with
   |nil=>rfl
   |cons a r ih=>simpa[ax,aN]using ih
  exact go _
theorem MR.push{C:Ctx}{H:Array Obj}{k x:AV}{e:MapEntry}(hk:aN k=true) (sA:VR C H k e.key) (hxv:VR C H x e.val):∀{es:List (AV×AV)}{l:List MapEntry},MR C H es l->MR C H (es ++ [(k,x)]) (l ++ [e])
 | [],_,h=>by
  have:_=[]:=h;subst this;exact⟨e,[],rfl,⟨hk,sA⟩,hxv,rfl⟩
 |_::_,_,⟨e', s,q,h1,h2,hr⟩=>by
  subst q;exact⟨e', s ++ [e],rfl,h1,h2,MR.push hk sA hxv hr⟩
def FR (C:Ctx) (H:Array Obj) (r:Option AV) (q:Option (Nat×Value)):Prop:=match r,q with
 |none,none=>True
 |some y,some (_,v)=>VR C H y v
 |_,_=>False
theorem MB{kt:TypeId}{kd:Nat}{x:AV}{v:Value}{r:Option AV}(hk:dF P kt kd=true) (hf:bg kd x=true) (hx:VR C H x v) (w:World):∀{es:List (AV×AV)}{l:List MapEntry}(i:Nat),MR C H es l->cH es x=some r->∃q,(Instr.findAsking kt v l i).run P w = .ok q w/\FR C H r q
 | [],_,i,hm,h=>by
  have:_=[]:=hm;subst this;simp[cH]at h;subst h;exact⟨none,by simp[Instr.findAsking],trivial⟩
 |(k,y)::es,_,i,⟨e,s,el,⟨k1,k2⟩,y2,hr⟩,h=>by
  subst el;simp only[cH]at h;cases hq:ew x k with
  |none=>rw[hq]at h;simp at h
  |some b=>
   have he:=YG hk hf hx k2 hq w;cases b with
   |true=>
    rw[hq]at h;simp at h;subst h;exact⟨some (i,e.val),by simp[Instr.findAsking,he],y2⟩
   |false=>
    rw[hq]at h;obtain⟨q,h1,h2⟩:=MB hk hf hx w (i+1) hr h;exact⟨q,by simp[Instr.findAsking,he,h1],h2⟩
theorem Hj{kd:Nat}{d:TypeDesc}{x:AV}{v:Value}{r:Option AV}(hd:(kd=0/\d = .int .i64)\/(kd=1/\d = .string)) (hf:bg kd x=true) (hx:VR C H x v):∀{es:List (AV×AV)}{l:List MapEntry}(i:Nat),MR C H es l->cH es x=some r->∃q,Instr.findNow d v l i=some q/\FR C H r q
 | [],_,i,hm,h=>by
  have:_=[]:=hm;subst this;simp[cH]at h;subst h;exact⟨none,by simp[Instr.findNow],trivial⟩
 |(k,y)::es,_,i,⟨e,s,el,⟨k1,k2⟩,y2,hr⟩,h=>by
  subst el;simp only[cH]at h;cases hq:ew x k with
  |none=>rw[hq]at h;simp at h
  |some b=>
   have he:Instr.sameNow d v e.key=some b:=by
    rcases hd with⟨rfl,rfl⟩|⟨rfl,rfl⟩
    ·obtain⟨a,rfl⟩:=sF hf
     cases k<;>simp only[ew,reduceCtorEq]at hq;rename_i c;simp at hq;subst hq;rw[hx.aY,k2.aY];simp[Instr.sameNow];rw[oL];simp
    ·obtain⟨a,rfl⟩:=sG hf
     cases k<;>simp only[ew,reduceCtorEq]at hq;rename_i c;simp at hq;subst hq;unfold VR at hx k2;rw[hx,k2];simp only[Instr.sameNow]
     congr 1
     rw[oL,Go.MapKept.bytes_beq];simp
   cases b with
   |true=>
    rw[hq]at h;simp at h;subst h;exact⟨some (i,e.val),by simp[Instr.findNow,he],y2⟩
   |false=>
    rw[hq]at h;obtain⟨q,h1,h2⟩:=Hj hd hf hx (i+1) hr h;exact⟨q,by simp[Instr.findNow,he,h1],h2⟩
theorem Hb{kt:TypeId}{kd:Nat}{x:AV}{v:Value}{r:Option AV}(hk:dF P kt kd=true) (hf:bg kd x=true) (hx:VR C H x v) (w:World){es:List (AV×AV)}{l:List MapEntry}(hm:MR C H es l) (h:cH es x=some r):∃q,(Instr.findKey kt v l).run P w = .ok q w/\FR C H r q:=by
 match kd,hk,hf with
 |0,hk,hf=>
  have hu:P.underlying kt=some (.int .i64):=by
   unfold dF at hk;split at hk<;>first|assumption|(rename_i h1 _;omega)|(cases hk)
  obtain⟨q,h1,h2⟩:=Hj (.inl ⟨rfl,rfl⟩) hf hx 0 hm h;exact⟨q,Go.MapKept.run_findKey hu h1,h2⟩
 |1,hk,hf=>
  have hu:P.underlying kt=some .string:=by
   unfold dF at hk;split at hk<;>first|assumption|(rename_i h1 _;omega)|(cases hk)
  obtain⟨q,h1,h2⟩:=Hj (.inr ⟨rfl,rfl⟩) hf hx 0 hm h;exact⟨q,Go.MapKept.run_findKey hu h1,h2⟩
 |n+2,hk,hf=>
  obtain⟨q,h1,h2⟩:=MB hk hf hx w 0 hm h;refine⟨q,?_,h2⟩;rw[run_findKey_eq w _ v l]
  ·exact h1
  ·unfold dF at hk
   split at hk
   ·rename_i e1 _;exact absurd e1 (by simp)
   ·rename_i e1 _;exact absurd e1 (by simp)
   ·rename_i hu;rw[hu]
   ·rename_i hu;rw[hu]
   ·cases hk
theorem YJ{kd:Nat}{x k:AV}(h2:kd<2) (hf:bg kd x=true) (hq:ew x k=some true):k=x:=by
 match kd,h2,hf with
 |0,_,hf=>
  obtain⟨a,rfl⟩:=sF hf;cases k<;>simp only[ew,reduceCtorEq]at hq
  simp at hq;rw[hq]
 |1,_,hf=>
  obtain⟨a,rfl⟩:=sG hf;cases k<;>simp only[ew,reduceCtorEq]at hq
  simp at hq;rw[hq]
theorem YK{kd:Nat}{x:AV}{v u:Value}(h2:kd<2) (hf:bg kd x=true) (hv:VR C H x v) (hu:VR C H x u):u=v:=by
 match kd,h2,hf with
 |0,_,hf=>
  obtain⟨a,rfl⟩:=sF hf;rw[hv.aY,hu.aY]
 |1,_,hf=>
  obtain⟨a,rfl⟩:=sG hf;unfold VR at hv hu;rw[hv,hu]
theorem XU{kt:TypeId}{kd:Nat}{x:AV}{v:Value}(hk:dF P kt kd=true) (h2:kd<2) (hf:bg kd x=true) (hv:VR C H x v) (w:World):(Instr.keyThatStays v v).run P w = .ok v w:=by
 match kd,h2,hf with
 |0,_,hf=>
  obtain⟨a,rfl⟩:=sF hf;rw[hv.aY];exact Go.MapKept.run_keyThatStays (d:=.int .i64) (by simp[Go.MapKept.IsKey])
 |1,_,hf=>
  obtain⟨a,rfl⟩:=sG hf;unfold VR at hv;rw[hv];exact Go.MapKept.run_keyThatStays (d:=.string) (by simp[Go.MapKept.IsKey])
theorem Hk{kd:Nat}{d:TypeDesc}{x z:AV}{v u:Value}{y:AV}(hd:(kd=0/\d = .int .i64)\/(kd=1/\d = .string)) (h2:kd<2) (hf:bg kd x=true) (hx:VR C H x v) (hz:VR C H z u):∀{es:List (AV×AV)}{l:List MapEntry}(i:Nat),MR C H es l->cH es x=some (some y)->
  ∃j e,Instr.findNow d v l i=some (some (i+j,e.val))/\l[j]? = some e/\e.key=v/\MR C H (iU es x z) (l.set j {e with key:=v,val:=u})
 | [],_,i,hm,h=>by simp[cH]at h
 |(k,y')::es,_,i,⟨e,s,el,⟨k1,k2⟩,y2,hr⟩,h=>by
  subst el;simp only[cH]at h;cases hq:ew x k with
  |none=>rw[hq]at h;simp at h
  |some b=>
   have he:Instr.sameNow d v e.key=some b:=by
    rcases hd with⟨rfl,rfl⟩|⟨rfl,rfl⟩
    ·obtain⟨a,rfl⟩:=sF hf
     cases k<;>simp only[ew,reduceCtorEq]at hq;rename_i c;simp at hq;subst hq;rw[hx.aY,k2.aY];simp[Instr.sameNow];rw[oL];simp
    ·obtain⟨a,rfl⟩:=sG hf
     cases k<;>simp only[ew,reduceCtorEq]at hq;rename_i c;simp at hq;subst hq;unfold VR at hx k2;rw[hx,k2];simp only[Instr.sameNow]
     congr 1
     rw[oL,Go.MapKept.bytes_beq];simp
   cases b with
   |true=>
    have vf:=YJ h2 hf hq;subst vf;have sA:=YK h2 hf hx k2;refine⟨0,e,by simp[Instr.findNow,he],rfl,sA,?_⟩
    simp only[iU,hq,List.set_cons_zero];exact⟨_,s,rfl,⟨k1,hx⟩,hz,hr⟩
   |false=>
    rw[hq]at h;obtain⟨j,e', g1,g2,g3,g4⟩:=Hk hd h2 hf hx hz (i+1) hr h;refine⟨j+1,e', ?_,by simpa using g2,g3,?_⟩
    ·simp only[Instr.findNow,he]
     rw[show i+(j+1)=i+1+j by omega]
     simpa using g1
    ·simp only[iU,hq,List.set_cons_succ]
     exact⟨e,_,rfl,⟨k1,k2⟩,y2,g4⟩
theorem XT{kt:TypeId}{kd:Nat}{x z:AV}{v u:Value}{y:AV}(hk:dF P kt kd=true) (h2:kd<2) (hf:bg kd x=true) (hx:VR C H x v) (hz:VR C H z u) (w:World){es:List (AV×AV)}{l:Array MapEntry}(hm:MR C H es l.toList) (h:cH es x=some (some y)) :
  ∃j e,(Instr.findKey kt v l.toList).run P w = .ok (some (j,e.val)) w/\l.toList[j]? = some e/\e.key=v/\MR C H (iU es x z) (l.toList.set j {e with key:=v,val:=u}):=by
 match kd,hk,h2,hf with
 |0,hk,h2,hf=>
  have hu:P.underlying kt=some (.int .i64):=by
   unfold dF at hk;split at hk<;>first|assumption|(rename_i h1 _;omega)|(cases hk)
  obtain⟨j,e,g1,g2,g3,g4⟩:=Hk (.inl ⟨rfl,rfl⟩) h2 hf hx hz 0 hm h;rw[jf]at g1;exact⟨j,e,Go.MapKept.run_findKey hu g1,g2,g3,g4⟩
 |1,hk,h2,hf=>
  have hu:P.underlying kt=some .string:=by
   unfold dF at hk;split at hk<;>first|assumption|(rename_i h1 _;omega)|(cases hk)
  obtain⟨j,e,g1,g2,g3,g4⟩:=Hk (.inr ⟨rfl,rfl⟩) h2 hf hx hz 0 hm h;rw[jf]at g1;exact⟨j,e,Go.MapKept.run_findKey hu g1,g2,g3,g4⟩
end
section
variable{a:Act}{ρ:Operand->Value}{r:Rf->AV}{w:World}{C:Ctx}{ce:CE}{σ:List ag}{nl:Nat}{ps:List aX}
theorem YL{b:Nat}{es:List (AV×AV)}(h:eY σ b=some es):∃B,fL σ b 0=some B/\B.st = .map es:=by
 unfold eY at h;unfold fL;cases hb:ak σ b with
 |none=>simp[hb]at h
 |some B=>
  simp only[hb]at h ⊢;cases hs:B.st<;>simp only[hs]at h ⊢<;>try(simp at h;done)
  split at h<;>simp at h;rename_i h0;subst h;rw[ab h0];exact⟨B,rfl,hs⟩
theorem Bx (hg:Good C w) (dg:∀b u B,C.lim b u->fL σ b u=some B->∃id,C.own b u=some (B,id)){b:Nat}{es:List (AV×AV)}{v:Value}(h:eY σ b=some es) (hv:VR C w.heap (.cM b) v) :
  ∃id l clock,v = .map (some id)/\w.heap[id]? = some (.map l clock)/\MR C w.heap es l.toList/\∃B,C.own b 0=some (B,id)/\B.st = .map es:=by
 obtain⟨B,h1,h2⟩:=YL h;obtain⟨id,ho⟩:=dg b 0 B (YM hv) h1;obtain⟨_,l,c,h3,h4⟩:=hg.maps b 0 B id es ho h2;unfold VR at hv;exact⟨id,l,c,hv.2.2 B id ho (by rw[h2];rfl),h3,h4,B,ho,h2⟩
theorem YN{e:TypeId}{z:AV}(h:od P e z=true) (w:World):∃v,(zeroValue e).run P w = .ok v w/\(∀C H,VR C H z v)/\aN z=true:=by
 unfold od at h;cases hi:P.info? e with
 |none=>simp[hi]at h
 |some i=>
  simp only[hi]at h;cases hz:i.zero with
  |none=>simp[hz]at h
  |some v=>
   simp only[hz,aD]at h;exact⟨v,by simp only[zeroValue,aL,run_typeInfo w hi,aR,hz,bh],λ_ _=>Hl h.1,h.2⟩
theorem Mx{o:Oper}{t kt e:TypeId}{x k:Operand}{x' k' : Rf}{kd:Nat}{z:AV}{ok:Bool}{y:AV}{p:Option aX}(ho:o.op = .lookup t x k ok) (ht:P.underlying t=some (.map kt e)) (hk:dF P kt kd=true) (hz:od P e z=true)
  (hg:Good C w) (dg:∀b u B,C.lim b u->fL σ b u=some B->∃id,C.own b u=some (B,id)) (hx:VR C w.heap (r x') (ρ x)) (sA:VR C w.heap (r k') (ρ k)) (he:ev ce σ nl ps r (.vj x' kd k' z ok)=some (y,p)):Plain P ρ o w C w.heap y/\p=none:=by
 simp only[ev]at he;cases bJ : r x' <;>simp only[bJ]at he<;>try(simp at he;done)
 rename_i b;rw[bJ]at hx;cases hm:eY σ b with
 |none=>simp[hm]at he
 |some es=>
  simp only[hm]at he;split at he
  case isFalse=>simp at he
  rename_i hf;obtain⟨id,l,c,e1,hH,hM,_⟩:=Bx hg dg hm hx;have hc:=Hc hk hf sA w l.isEmpty;obtain⟨zv,yr,ug,hz3⟩:=YN hz w;cases hq:cH es (r k')with
  |none=>simp[hq]at he
  |some q=>
   obtain⟨q', h1,h2⟩:=Hb hk hf sA w hM hq;cases q with
   |none=>
    simp only[hq,bF,Prod.mk.injEq]at he;obtain⟨rfl,rfl⟩:=he;cases q' with
    |some _=>exact h2.elim
    |none=>
     refine⟨dX (s:=Instr.lookup t (ρ x) (ρ k) ok) (v:=if ok then .tuple #[zv,.bool false]else zv) (by simp only[execOp,ho]) ?_ ?_,rfl⟩
     ·rw[e1]
      simp only[Instr.lookup,aL,run_underlying ht,aR,vY hH,bh,hc,h1,yr]
     ·cases ok with
      |true=>unfold VR;exact⟨[zv,.bool false],rfl,zv,[.bool false],rfl,ug _ _,.bool false,[],rfl,rfl,rfl⟩
      |false=>exact ug _ _
   |some yv=>
    simp only[hq,bF,Prod.mk.injEq]at he;obtain⟨rfl,rfl⟩:=he;cases q' with
    |none=>exact h2.elim
    |some jv=>
     obtain⟨j,v⟩:=jv;have g2:=h2;refine⟨dX (s:=Instr.lookup t (ρ x) (ρ k) ok) (v:=if ok then .tuple #[v,.bool true]else v) (by simp only[execOp,ho]) ?_ ?_,rfl⟩
     ·rw[e1]
      simp only[Instr.lookup,aL,run_underlying ht,aR,vY hH,bh,hc,h1]
     ·cases ok with
      |true=>unfold VR;exact⟨[v,.bool true],rfl,v,[.bool true],rfl,g2,.bool true,[],rfl,rfl,rfl⟩
      |false=>exact g2
theorem MC{C:Ctx}{H:Array Obj}:∀{es:List (AV×AV)}{l:List MapEntry},MR C H es l->l.length=es.length
 | [],_,e=>by rw[show _=[]from e];rfl
 |_::_,_,⟨e,s,q,_,_,hr⟩=>by rw[q];simp[MC hr]
theorem My{o:Oper}{ca:Call}{x:Operand}{t kt e:TypeId}{y:Rf}{z:AV}{p:Option aX}(ho:o.op = .call ca) (hc:ca.callee = .builtin .len) (ha:ca.args.toList=[x]) (eX:ca.argTypes.toList=[t])
  (ht:P.underlying t=some (.map kt e)) (hg:Good C w) (dg:∀b u B,C.lim b u->fL σ b u=some B->∃id,C.own b u=some (B,id)) (hx:VR C w.heap (r y) (ρ x)) (he:ev ce σ nl ps r (.AH y)=some (z,p)):Plain P ρ o w C w.heap z/\p=none:=by
 simp only[ev]at he;cases bJ : r y<;>simp only[bJ]at he<;>try(simp at he;done)
 rename_i b;rw[bJ]at hx;cases hm:eY σ b with
 |none=>simp[hm]at he
 |some es=>
  simp only[hm,bF,Prod.mk.injEq]at he;obtain⟨rfl,rfl⟩:=he;obtain⟨id,l,c,e1,hH,hM,_⟩:=Bx hg dg hm hx;have ny : ca.args = #[x]:=by rw[<-Array.toList_inj];simpa using ha
  have nA : ca.argTypes = #[t]:=by rw[<-Array.toList_inj];simpa using eX
  have hl:l.size=es.length:=by have:=MC hM;simpa using this
  refine⟨⟨.int .i64 es.length,?_,by unfold VR;rfl⟩,rfl⟩
  simp only[execOp,ho,resolve,hc,ny, nA, aL,bh,aR,invoke,builtin,Builtin.len_];simp[e1,aL,run_underlying ht,goInt,vY hH,hl]
theorem YO{n:Int}(h:0<=n/\n<=18446744073709551615):IntKind.u64.wrap n=n:=by
 simp[IntKind.wrap,IntKind.bits,IntKind.signed];omega
theorem KQ{n:Int}{v:Value}{C:Ctx}{H:Array Obj}(h:VR C H (.ik 7 n) v):v = .int .u64 n:=by
 unfold VR at h;obtain⟨K,h1,h2⟩:=h;rw[show jV 7=some IntKind.u64 from rfl]at h1;cases h1;exact h2
theorem MD{n:Int}{C:Ctx}{H:Array Obj}:VR C H (.ik 7 n) (.int .u64 n):=by unfold VR;exact⟨_,rfl,rfl⟩
theorem Yv{o:Oper}{s d:TypeId}{x:Operand}{y:Rf}{z:AV}{p:Option aX}(ho:o.op = .convert s d x)
  (ht:(match P.underlying s,P.underlying d with|some (.int _),some (.int .u64)=>true|_,_=>false)=true) (hx:VR C w.heap (r y) (ρ x)) (he:ev ce σ nl ps r (.YP y)=some (z,p)):Plain P ρ o w C w.heap z/\p=none:=by
 have hu:∃k,P.underlying s=some (.int k)/\P.underlying d=some (.int .u64):=by
  split at ht
  ·rename_i k h1 h2;exact⟨k,h1,h2⟩
  ·simp at ht
 obtain⟨k,xx,Hm⟩:=hu;have main:∀K n,ρ x = .int K n->(0<=n/\n<=18446744073709551615)->z = .ik 7 n->p=none->Plain P ρ o w C w.heap z/\p=none:=by
  intro K n e h hz hp;subst hz hp;refine⟨dX (s:=Go.convert s d (ρ x)) (v:=.int .u64 n) (by simp only[execOp,ho]) ?_ MD,rfl⟩
  rw[e];simp only[Go.convert,aL,run_underlying xx,run_underlying Hm,aR,Conv.intToInt,bh,YO h]
 simp only[ev]at he;cases bJ : r y<;>simp only[bJ]at he<;>try(simp at he;done)
 ·rename_i n
  rw[bJ]at hx;split at he<;>simp at he
  rename_i h;exact main _ n hx.aY h he.1.symm he.2.symm
 ·rename_i k' n
  rw[bJ]at hx;split at he<;>simp at he
  rename_i h;unfold VR at hx;obtain⟨K,_,e⟩:=hx;exact main K n e h he.1.symm he.2.symm
theorem YQ{n:Int}(h:0<=n/\n<=255):IntKind.u8.wrap n=n:=by
 simp[IntKind.wrap,IntKind.bits,IntKind.signed];omega
theorem Bj{n:Int}{C:Ctx}{H:Array Obj}:VR C H (.ik 4 n) (.int .u8 n):=by unfold VR;exact⟨_,rfl,rfl⟩
theorem Yy{o:Oper}{s d:TypeId}{x:Operand}{y:Rf}{z:AV}{p:Option aX}(ho:o.op = .convert s d x)
  (ht:(match P.underlying s,P.underlying d with|some (.int _),some (.int .u8)=>true|_,_=>false)=true) (hx:VR C w.heap (r y) (ρ x)) (he:ev ce σ nl ps r (.KR y)=some (z,p)):Plain P ρ o w C w.heap z/\p=none:=by
 have hu:∃k,P.underlying s=some (.int k)/\P.underlying d=some (.int .u8):=by
  split at ht
  ·rename_i k h1 h2;exact⟨k,h1,h2⟩
  ·simp at ht
 obtain⟨k,xx,Hm⟩:=hu;simp only[ev]at he;cases bJ : r y<;>simp only[bJ]at he<;>try(simp at he;done)
 rename_i n;rw[bJ]at hx;split at he<;>simp at he
 rename_i h;obtain⟨hz,hp⟩:=he;subst hz hp;refine⟨dX (s:=Go.convert s d (ρ x)) (v:=.int .u8 n) (by simp only[execOp,ho]) ?_ Bj,rfl⟩
 rw[hx.aY];simp only[Go.convert,aL,run_underlying xx,run_underlying Hm,aR,Conv.intToInt,bh,YQ h]
theorem YR{n:Int}:IntKind.u8.wrap n=n%256:=by
 simp[IntKind.wrap,IntKind.bits,IntKind.signed]
theorem YA{o:Oper}{s d:TypeId}{x:Operand}{y:Rf}{z:AV}{p:Option aX}(ho:o.op = .convert s d x)
  (ht:(match P.underlying s,P.underlying d with|some (.int _),some (.int .u8)=>true|_,_=>false)=true) (hx:VR C w.heap (r y) (ρ x)) (he:ev ce σ nl ps r (.BD y)=some (z,p)):Plain P ρ o w C w.heap z/\p=none:=by
 have hu:∃k,P.underlying s=some (.int k)/\P.underlying d=some (.int .u8):=by
  split at ht
  ·rename_i k h1 h2;exact⟨k,h1,h2⟩
  ·simp at ht
 obtain⟨k,xx,Hm⟩:=hu;simp only[ev]at he;cases bJ : r y<;>simp only[bJ]at he<;>try(simp at he;done)
 rename_i n;rw[bJ]at hx;simp at he;obtain⟨hz,hp⟩:=he;subst hz hp;refine⟨dX (s:=Go.convert s d (ρ x)) (v:=.int .u8 (n%256)) (by simp only[execOp,ho]) ?_ Bj,rfl⟩
 rw[hx.aY];simp only[Go.convert,aL,run_underlying xx,run_underlying Hm,aR,Conv.intToInt,bh,YR]
theorem Yz{o:Oper}{t:TypeId}{x i:Operand}{x' i' : Rf}{z:AV}{p:Option aX}(ho:o.op = .index t x i)
  (ht:(match P.underlying t with|some .string=>true|_=>false)=true)
  (hx:VR C w.heap (r x') (ρ x)) (hi:VR C w.heap (r i') (ρ i)) (he:ev ce σ nl ps r (.KS x' i')=some (z,p)):Plain P ρ o w C w.heap z/\p=none:=by
 have hu:P.underlying t=some .string:=by
  split at ht
  ·assumption
  ·simp at ht
 simp only[ev]at he;cases bJ : r x' <;>simp only[bJ]at he<;>try(simp at he;done)
 cases dw : r i' <;>simp only[dw]at he<;>try(simp at he;done)
 rename_i s n;rw[bJ]at hx;rw[dw]at hi;split at he
 case isFalse=>simp at he
 rename_i h0;cases hb:s[n.toNat]? with
 |none=>rw[hb]at he;simp at he
 |some b=>
  rw[hb]at he;simp at he;obtain⟨hz,hp⟩:=he;subst hz hp;refine⟨dX (s:=Instr.index t (ρ x) (ρ i)) (v:=.int .u8 (b.toNat:Int)) (by simp only[execOp,ho]) ?_ Bj,rfl⟩
  unfold VR at hx;rw[hx,hi.aY];have aK:=(cT.1 hb).1;have hg:(⟨s.toArray⟩:ByteArray)[n.toNat]? = some b:=by
   rw[getElem?_pos _ _ (by show n.toNat<s.toArray.size;simpa using aK)]
   have:=(cT.1 hb).2;show some (s.toArray[n.toNat]'_)=some b;simp[this]
  simp only[Instr.index,asIntOf,aL,bh,aR,run_underlying hu,ab h0,hg]
theorem yt{op:BinOp}{t:TypeId}{x y:Operand}{k k' : IntKind}{a b:Int}(w:World):(eqGuard op t x y (.int k a) (.int k' b)).run P w = .ok () w:=by
 unfold eqGuard;split<;>simp
theorem YC{o:Oper}{op:BinOp}{t t' : TypeId}{x y:Operand}{neg:Bool}{x' y' : Rf}{z:AV}{p:Option aX}(ho:o.op = .binOp op t x y t')
  (cY:kU op neg=true) (ht:(match P.underlying t with|some (.int _)=>true|_=>false)=true)
  (hx:VR C w.heap (r x') (ρ x)) (hy:VR C w.heap (r y') (ρ y)) (he:ev ce σ nl ps r (.KT neg x' y')=some (z,p)):Plain P ρ o w C w.heap z/\p=none:=by
 have hu:∃K,P.underlying t=some (.int K):=by
  split at ht
  ·exact⟨_,by assumption⟩
  ·simp at ht
 obtain⟨K,hu⟩:=hu;simp only[ev]at he;split at he
 case h_2=>simp at he
 rename_i k a j b h1 h2;split at he<;>simp at he
 rename_i hkj;subst hkj;obtain⟨rfl,rfl⟩:=he;rw[h1]at hx;rw[h2]at hy;unfold VR at hx hy;obtain⟨K1,q1,hx⟩:=hx;obtain⟨K2,q2,hy⟩:=hy;rw[q1]at q2;cases q2;refine⟨dX (s:=do eqGuard op t x y (ρ x) (ρ y);binOp op t (ρ x) (ρ y)) (v:=.bool ((a==b) != neg)) (by simp only[execOp,ho]) ?_ (by unfold VR;rfl),rfl⟩
 rw[hx,hy];have hq:(Op.equal t (.int K1 a) (.int K1 b)).run P w = .ok (a==b) w:=by
  unfold Op.equal Op.maxDepth;exact run_equalIn_int w 9999 t K1 K a b hu
 unfold kU at cY;split at cY
 ·simp at cY;subst cY
  simp[aL,yt,aR,binOp,hq,bh,Op.intCmp]
 ·subst cY
  simp[aL,yt,aR,binOp,hq,bh,Op.intCmp]
  rfl
 ·simp at cY
theorem Yw{o:Oper}{t t' : TypeId}{x y:Operand}{x' y' : Rf}{z:AV}{p:Option aX}(ho:o.op = .binOp .gtr t x y t')
  (hx:VR C w.heap (r x') (ρ x)) (hy:VR C w.heap (r y') (ρ y)) (he:ev ce σ nl ps r (.YS x' y')=some (z,p)):Plain P ρ o w C w.heap z/\p=none:=by
 simp only[ev]at he;split at he
 ·rename_i a b h1 h2
  simp only[bF,Prod.mk.injEq]at he;obtain⟨rfl,rfl⟩:=he;rw[h1]at hx;rw[h2]at hy;refine⟨dX (s:=do eqGuard .gtr t x y (ρ x) (ρ y);binOp .gtr t (ρ x) (ρ y)) (v:=.bool (decide (b<a))) (by simp only[execOp,ho]) ?_ (by unfold VR;rfl),rfl⟩
  rw[KQ hx,KQ hy];simp only[aL,yt,aR,binOp,ne_eq,not_true_eq_false,eG,Op.intCmp,bh]
 ·simp at he
theorem YB{o:Oper}{t t' : TypeId}{x y:Operand}{x' y' : Rf}{z:AV}{p:Option aX}(ho:o.op = .binOp .shr t x y t')
  (hx:VR C w.heap (r x') (ρ x)) (hy:VR C w.heap (r y') (ρ y)) (he:ev ce σ nl ps r (.Hn x' y')=some (z,p)):Plain P ρ o w C w.heap z/\p=none:=by
 have main:∀K a n,ρ x = .int .i64 a->ρ y = .int K n->(0<=n/\n<64)->z = .int (a.fdiv (2^n.toNat))->p=none->Plain P ρ o w C w.heap z/\p=none:=by
  intro K a n e1 e2 h hz hp;subst hz hp;refine⟨dX (s:=do eqGuard .shr t x y (ρ x) (ρ y);binOp .shr t (ρ x) (ρ y)) (v:=.int .i64 (a.fdiv (2^n.toNat))) (by simp only[execOp,ho]) ?_ (by unfold VR;rfl),rfl⟩
  rw[e1,e2];have hm:min n.toNat (IntKind.bits .i64)=n.toNat:=by simp[IntKind.bits];omega
  simp only[aL,yt,aR,binOp,Op.shift,aa (show ¬n<0 by omega),hm,bh]
 simp only[ev]at he;split at he
 ·rename_i a n h1 h2
  split at he<;>simp at he;rename_i h;rw[h1]at hx;rw[h2]at hy;exact main _ a n hx.aY hy.aY h he.1.symm he.2.symm
 ·rename_i a n h1 h2
  split at he<;>simp at he;rename_i h;rw[h1]at hx;rw[h2]at hy;exact main _ a n hx.aY (KQ hy) h he.1.symm he.2.symm
 ·simp at he
theorem Yx{o:Oper}{t t' : TypeId}{x y:Operand}{x' y' : Rf}{z:AV}{p:Option aX}(ho:o.op = .binOp .shr t x y t')
  (hx:VR C w.heap (r x') (ρ x)) (hy:VR C w.heap (r y') (ρ y)) (he:ev ce σ nl ps r (.YT x' y')=some (z,p)):Plain P ρ o w C w.heap z/\p=none:=by
 have main:∀K a n,ρ x = .int .u64 a->ρ y = .int K n->(0<=n/\n<64)->z = .ik 7 (a.fdiv (2^n.toNat))->p=none->Plain P ρ o w C w.heap z/\p=none:=by
  intro K a n e1 e2 h hz hp;subst hz hp;refine⟨dX (s:=do eqGuard .shr t x y (ρ x) (ρ y);binOp .shr t (ρ x) (ρ y)) (v:=.int .u64 (a.fdiv (2^n.toNat))) (by simp only[execOp,ho]) ?_ MD,rfl⟩
  rw[e1,e2];have hm:min n.toNat (IntKind.bits .u64)=n.toNat:=by simp[IntKind.bits];omega
  simp only[aL,yt,aR,binOp,Op.shift,aa (show ¬n<0 by omega),hm,bh]
 simp only[ev]at he;split at he
 ·rename_i a n h1 h2
  split at he<;>simp at he;rename_i h;rw[h1]at hx;rw[h2]at hy;exact main _ a n (KQ hx) hy.aY h he.1.symm he.2.symm
 ·rename_i a n h1 h2
  split at he<;>simp at he;rename_i h;rw[h1]at hx;rw[h2]at hy;exact main _ a n (KQ hx) (KQ hy) h he.1.symm he.2.symm
 ·simp at he
end
end Ab
