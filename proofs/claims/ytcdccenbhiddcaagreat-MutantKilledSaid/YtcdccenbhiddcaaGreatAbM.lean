/- What maps do: a new one, what it has for a key, an entry more. Condition: none. -/
import Derived.Test.YtcdccenbhiddcaaGreatAbA
import Derived.MapKept
import Derived.WideKeyRuns
set_option linter.all false
set_option maxRecDepth 100000
namespace Ab
open Go
variable{P:Program}
section
variable{C:Ctx}{H:Array Obj}{w:World}
def Dd{t:TypeId}(h:aR P t none=true):∃i,P.info? t=some i/\P.cellsOf t=1:=by
 have a:=jf h;unfold bw at a;cases b:P.info? t with
 |none=>simp[b]at a
 |some i=>
  simp[b,aC]at a;exact⟨i,rfl,by simp[Program.cellsOf,b,a]⟩
variable{x:AV}
def tL(h:bd 0 x=true):∃s,x = .int s:=by
 cases x<;>first|exact⟨_,rfl⟩|(change false=true at h;cases h)
def tM(h:bd 1 x=true):∃s,x = .str s:=by
 cases x<;>first|exact⟨_,rfl⟩|(change false=true at h;cases h)
def wZ{n:Nat}(h:bd (n+2) x=true):∃l,x = .agg l/\l.length=n/\(cu l l).isSome=true:=by
 cases x<;>first|(change false=true at h;cases h;done)|skip
 rename_i l;change (l.length==n&&(cu l l).isSome)=true at h;simp only[aD,bJ]at h;exact⟨l,rfl,h.1,h.2⟩
variable{kt:TypeId}{kd:Nat}{v:Value}
def Mo{y:AV}{u:Value}{b:Bool}(f:c9 P kt kd=true) (A:bd kd x=true) (G:VR C H x v) (I:VR C H y u) (p:ga x y=some b) (w:World):(Op.equal kt v u).run P w = .ok b w:=by
 unfold Op.equal Op.maxDepth
 match kd,f,A with
 |0,f,A=>
  have r:P.underlying kt=some (.int .i64):=by
   unfold c9 at f;split at f<;>first|assumption|(rename_i V _;omega)|(cases f)
  obtain⟨a,rfl⟩:=tL A;cases y<;>simp only[ga,reduceCtorEq]at p
  rename_i c;simp at p;subst p;rw[G.bo,I.bo,show(10000:Nat)=9999+1 from rfl,run_equalIn_int w 9999 kt .i64 .i64 _ _ r]
  congr 1
 |1,f,A=>
  have r:P.underlying kt=some .string:=by
   unfold c9 at f;split at f<;>first|assumption|(rename_i V _;omega)|(cases f)
  obtain⟨a,rfl⟩:=tM A;cases y<;>simp only[ga,reduceCtorEq]at p
  rename_i c;simp at p;subst p;unfold VR at G I;rw[G,I,show(10000:Nat)=9999+1 from rfl,run_equalIn_string w 9999 kt _ _ r];have l:∀s:List UInt8,ByteArray.toList ⟨s.toArray⟩=s:=λs=>by rw[ByteArray.toList_eq]
  rw[l,l]
  congr 1
  rw[Bool.eq_iff_iff];simp
 |n+2,f,A=>
  obtain⟨xs,rfl,K,_⟩:=wZ A;cases y<;>simp only[ga,reduceCtorEq]at p
  rename_i ys;obtain⟨g,j,rfl,rfl,W,rfl⟩:=rh p;obtain⟨vs,rfl,L,_⟩:=G;obtain⟨us,rfl,M,_⟩:=I;rw[pH L,pH M];have B:g.length=n:=by simpa using K
  unfold c9 at f;split at f
  .rename_i l _;exact absurd l ab
  .rename_i l _;exact absurd l ab
  .rename_i N fs l r
   have l:n=N :=aa
   subst l;simp only[aD,bJ,Bool.not_eq_true']at f;have D:P.fieldsOf kt=fs:=by unfold Program.fieldsOf;rw[r]
   rw[show(10000:Nat)=9999+1 from rfl,run_equalIn_struct w 9999 kt _ _ (by rw[D];exact r) f.2,D]
   have:=w7 (P:=P) (d:=9998) (w:=w) W (fs:=fs.toList) (o:=0) f.1.2 (by simp[B,f.1.1])
   simpa using this
  .rename_i N m e l r
   have l:n=N :=aa
   subst l;simp only[aD,bJ]at f;obtain⟨⟨rfl,E⟩,F⟩:=f;have O:P.underlying e=some (.int .i64):=by
    split at E
    .assumption
    .simp at E
   obtain⟨i,X,Q⟩:=Dd F;rw[show(10000:Nat)=9999+1 from rfl,run_equalIn_array w 9999 _ _ r X,Q];have S:∀(Z:List Int) (o:Nat) (h:o<Z.length) (w:World),(Go.part e (Z.map (Value.int .i64)).toArray (o*1)).run P w = .ok (.int .i64 Z[o]) w:=λZ o h w=>by
    have Y:(Z.map (Value.int .i64)).toArray[o]? = some (.int .i64 Z[o]):=by simp[h]
    simp only[Nat.mul_one,Go.part,aN,pI F,oj,aU,cZ,dg,Y,aZ]
   have go:∀(k o:Nat),o+k=g.length->(Op.eqItems 9999 e 1 (g.map (Value.int .i64)).toArray (j.map (Value.int .i64)).toArray (List.range' o k)).run P w = .ok (decide (g.drop o=j.drop o)) w:=by
    intro k
    induction k with
    |zero=>
     intro o ho;simp only[List.range'_zero,Op.eqItems,aZ];rw[kP aa,kP aa];simp
    |succ k J=>
     intro o ho;have T:o<g.length:=aa
     have U:o<j.length:=aa
     simp only[List.range'_succ,Op.eqItems,aN,S g o T,S j o U,aU,show(9999:Nat)=9998+1 from rfl,run_equalIn_int w 9998 e .i64 .i64 _ _ O];have J:=J (o+1) aa
     rw[show(9999:Nat)=9998+1 from rfl]at J;have z:(g.drop o=j.drop o)↔(g[o]=j[o]/\g.drop (o+1)=j.drop (o+1)):=by
      rw[kQ T,kQ U,List.cons.injEq]
     by_cases q:g[o]=j[o]
     .have R:decide (g.drop (o+1)=j.drop (o+1))=decide (g.drop o=j.drop o):=by
       rw[Bool.eq_iff_iff,decide_eq_true_iff,decide_eq_true_iff,z];exact⟨λh=>⟨q,h⟩,λh=>h.2⟩
      have eb:(g[o]==j[o])=true:=by simpa using q
      simp only[eb,Bool.not_true,cZ,dg,J,R]
     .have e' : (g[o]==j[o])=false:=by simpa using q
      have R:decide (g.drop o=j.drop o)=false:=decide_eq_false λh=>q (z.1 h).1;simp only[e', Bool.not_false,cn,aZ,R]
   have:=go g.length 0 aa
   rw[<-List.range_eq_range', B]at this;simpa using this
  .simp at f
def Mp{D:Nat}(hk:c9 P kt kd=true) (hf:bd kd x=true) (hx:VR C H x v) (w:World) (em:Bool):(Instr.checkKey em (D+1+1) kt v).run P w = .ok () w:=by
 match kd,hk,hf with
 |0,hk,hf=>
  have hu:P.underlying kt=some (.int .i64):=by
   unfold c9 at hk;split at hk<;>first|assumption|(rename_i h1 _;omega)|(cases hk)
  obtain⟨a,rfl⟩:=tL hf;rw[hx.bo];exact Go.MapKept.run_checkKey (k:=.int .i64 a) hu (by simp[Go.MapKept.IsKey]) em _
 |1,hk,hf=>
  have hu:P.underlying kt=some .string:=by
   unfold c9 at hk;split at hk<;>first|assumption|(rename_i h1 _;omega)|(cases hk)
  obtain⟨a,rfl⟩:=tM hf;unfold VR at hx;rw[hx];exact Go.MapKept.run_checkKey (k:=.string ⟨a.toArray⟩) hu (by simp[Go.MapKept.IsKey]) em _
 |n+2,hk,hf=>
  obtain⟨xs,rfl,hf1,KF⟩:=wZ hf;obtain⟨q,hq⟩:=n9.1 KF;obtain⟨Xs,_,rfl,_,_,_⟩:=rh hq;obtain⟨vs,rfl,tN,_⟩:=hx;rw[pH tN];have kH:Xs.length=n:=by simpa using hf1
  unfold c9 at hk;split at hk
  .rename_i e1 _;exact absurd e1 ab
  .rename_i e1 _;exact absurd e1 ab
  .rename_i n' fs e1 hu
   have e1:n=n' :=aa
   subst e1;simp only[aD,bJ,Bool.not_eq_true']at hk;rw[Instr.checkKey];simp only[aN,run_underlying hu,aU];rw[<-Array.forIn_toList];have go:∀(fs:List Field) (o:Nat),dq P fs o=true->o+fs.length=Xs.length->(forIn fs PUnit.unit λ(f:Field) (_:PUnit)=>(if f.name ≠ "_" then do
      Instr.checkKey em (D+1) f.type (<-Go.part f.type (Xs.map (Value.int .i64)).toArray f.offset)
      pure (ForInStep.yield PUnit.unit)else pure (ForInStep.yield PUnit.unit):Sem (ForInStep PUnit))).run P w = .ok PUnit.unit w:=by
    intro fs
    induction fs with
    |nil=>intro o _ _;simp
    |cons f fs ih=>
     intro o hi ho;simp only[dq,aD,bJ,bne_iff_ne]at hi;obtain⟨⟨⟨⟨h1,h2⟩,h3⟩,h4⟩,h5⟩:=hi;have hu:P.underlying f.type=some (.int .i64):=by
      split at h2
      .assumption
      .simp at h2
     simp only[eO]at ho;have hX:o<Xs.length:=aa
     have hg:(Xs.map (Value.int .i64)).toArray[o]? = some (.int .i64 Xs[o]):=by simp[hX]
     have hp:(Go.part f.type (Xs.map (Value.int .i64)).toArray f.offset).run P w = .ok (.int .i64 Xs[o]) w:=by
      simp only[Go.part,aN,pI h3,oj,aU,cZ,dg,h4,hg,aZ]
     have hc:(Instr.checkKey em (D+1) f.type (.int .i64 Xs[o])).run P w = .ok () w:=Go.MapKept.run_checkKey (k:=.int .i64 Xs[o]) hu (by simp[Go.MapKept.IsKey]) em _
     simp only[List.forIn_cons,aN,ah h1,hp,aU,hc,aZ];exact ih (o+1) h5 aa
   rw[go fs.toList 0 hk.1.2 (by simp[kH,hk.1.1])];simp
  .rename_i n' m e e1 hu
   have e1:n=n' :=aa
   subst e1;simp only[aD,bJ]at hk;obtain⟨⟨rfl,hk2⟩,KG⟩:=hk;have hue:P.underlying e=some (.int .i64):=by
    split at hk2
    .assumption
    .simp at hk2
   obtain⟨i,hi,hc1⟩:=Dd KG;rw[Instr.checkKey];simp only[aN,run_underlying hu,aU];simp only[Std.Legacy.Range.forIn_eq_forIn_range', Std.Legacy.Range.size,Nat.sub_zero,Nat.add_one_sub_one,Nat.div_one];have hp:∀(o:Nat) (h:o<Xs.length),(Go.part e (Xs.map (Value.int .i64)).toArray (o*1)).run P w = .ok (.int .i64 Xs[o]) w:=λo h=>by
    have hg:(Xs.map (Value.int .i64)).toArray[o]? = some (.int .i64 Xs[o]):=by simp[h]
    simp only[Nat.mul_one,Go.part,aN,pI KG,oj,aU,cZ,dg,hg,aZ]
   have go:∀(k o:Nat),o+k=Xs.length->(forIn (List.range' o k) PUnit.unit λ(i:Nat) (_:PUnit)=>(do
      Instr.checkKey em (D+1) e (<-Go.part e (Xs.map (Value.int .i64)).toArray (i*(<-sizeOf e)))
      pure (ForInStep.yield PUnit.unit):Sem (ForInStep PUnit))).run P w = .ok PUnit.unit w:=by
    intro k
    induction k with
    |zero=>intro o _;simp
    |succ k ih=>
     intro o ho;have hX:o<Xs.length:=aa
     have hc:(Instr.checkKey em (D+1) e (.int .i64 Xs[o])).run P w = .ok () w:=Go.MapKept.run_checkKey (k:=.int .i64 Xs[o]) hue (by simp[Go.MapKept.IsKey]) em _
     simp only[List.range'_succ,List.forIn_cons,aN,run_sizeOf w hi,hc1,hp o hX,aU,hc,aZ];exact ih (o+1) aa
   rw[<-kH];rw[go Xs.length 0 aa];simp
  .simp at hk
def CT(a:c9 P kt kd=true) (b:bd kd x=true) (d:VR C H x v) (w:World) (em:Bool):(Instr.checkKey em 10000 kt v).run P w = .ok () w:=Mp (D:=9998) a b d w em
def LP(h:bd kd x=true):aB x=true:=by
 match kd with
 |0=>obtain⟨s,rfl⟩:=tL h;rfl
 |1=>obtain⟨s,rfl⟩:=tM h;rfl
 |n+2=>
  obtain⟨l,rfl,_,b⟩:=wZ h;obtain⟨q,d⟩:=n9.1 b;obtain⟨f,_,rfl,_,_,_⟩:=rh d;show aq _=true;have go:∀l:List Int,aq (l.map AV.int)=true:=λl=>by
   induction l with
   |nil=>rfl
   |cons a r e=>simpa[aq,aB]using e
  exact go _
def MR.push{C:Ctx}{H:Array Obj}{k x:AV}{e:MapEntry}(hk:aB k=true) (Y:VR C H k e.key) (hxv:VR C H x e.val):∀{es:List (AV×AV)}{l:List MapEntry},MR C H es l->MR C H (es ++ [(k,x)]) (l ++ [e])
 | [],_,h=>by
  have:_=[]:=h;subst this;exact⟨e,[],rfl,⟨hk,Y⟩,hxv,rfl⟩
 |_::_,_,⟨e', s,q,h1,h2,hr⟩=>by
  subst q;exact⟨e', s ++ [e],rfl,h1,h2,MR.push hk Y hxv hr⟩
def FR (C:Ctx) (H:Array Obj) (r:Option AV) (q:Option (Nat×Value)):Prop:=match r,q with
 |none,none=>True
 |some y,some (_,v)=>VR C H y v
 |_,_=>False
def De{kt:TypeId}{kd:Nat}{x:AV}{v:Value}{r:Option AV}(d:c9 P kt kd=true) (f:bd kd x=true) (g:VR C H x v) (w:World):∀{es:List (AV×AV)}{l:List MapEntry}(i:Nat),MR C H es l->cw es x=some r->∃q,(Instr.findAsking kt v l i).run P w = .ok q w/\FR C H r q
 | [],_,i,m,h=>by
  have:_=[]:=m;subst this;simp[cw]at h;subst h;exact⟨none,by simp[Instr.findAsking],trivial⟩
 |(k,y)::es,_,i,⟨e,s,el,⟨A,n⟩,o,p⟩,h=>by
  subst el;simp only[cw]at h;cases a:ga x k with
  |none=>rw[a]at h;simp at h
  |some b=>
   have j:=Mo d f g n a w;cases b with
   |true=>
    rw[a]at h;simp at h;subst h;exact⟨some (i,e.val),by simp[Instr.findAsking,j],o⟩
   |false=>
    rw[a]at h;obtain⟨q,u,z⟩:=De d f g w (i+1) p h;exact⟨q,by simp[Instr.findAsking,j,u],z⟩
def w9{kd:Nat}{d:TypeDesc}{x:AV}{v:Value}{r:Option AV}(n:(kd=0/\d = .int .i64)\/(kd=1/\d = .string)) (j:bd kd x=true) (g:VR C H x v):∀{es:List (AV×AV)}{l:List MapEntry}(i:Nat),MR C H es l->cw es x=some r->∃q,Instr.findNow d v l i=some q/\FR C H r q
 | [],_,i,p,h=>by
  have:_=[]:=p;subst this;simp[cw]at h;subst h;exact⟨none,by simp[Instr.findNow],trivial⟩
 |(k,y)::es,_,i,⟨e,s,el,⟨B,m⟩,u,w⟩,h=>by
  subst el;simp only[cw]at h;cases f:ga x k with
  |none=>rw[f]at h;simp at h
  |some b=>
   have o:Instr.sameNow d v e.key=some b:=by
    rcases n with⟨rfl,rfl⟩|⟨rfl,rfl⟩
    .obtain⟨a,rfl⟩:=tL j
     cases k<;>simp only[ga,reduceCtorEq]at f;rename_i c;simp at f;subst f;rw[g.bo,m.bo];simp[Instr.sameNow];rw[Bool.eq_iff_iff];simp
    .obtain⟨a,rfl⟩:=tM j
     cases k<;>simp only[ga,reduceCtorEq]at f;rename_i c;simp at f;subst f;unfold VR at g m;rw[g,m];simp only[Instr.sameNow]
     congr 1
     rw[Bool.eq_iff_iff,Go.MapKept.bytes_beq];simp
   cases b with
   |true=>
    rw[f]at h;simp at h;subst h;exact⟨some (i,e.val),by simp[Instr.findNow,o],u⟩
   |false=>
    rw[f]at h;obtain⟨q,z,A⟩:=w9 n j g (i+1) w h;exact⟨q,by simp[Instr.findNow,o,z],A⟩
def CS{r:Option AV}(a:c9 P kt kd=true) (b:bd kd x=true) (g:VR C H x v) (w:World){es:List (AV×AV)}{l:List MapEntry}(i:MR C H es l) (h:cw es x=some r):∃q,(Instr.findKey kt v l).run P w = .ok q w/\FR C H r q:=by
 match kd,a,b with
 |0,a,b=>
  have d:P.underlying kt=some (.int .i64):=by
   unfold c9 at a;split at a<;>first|assumption|(rename_i e _;omega)|(cases a)
  obtain⟨q,e,f⟩:=w9 (.inl ⟨rfl,rfl⟩) b g 0 i h;exact⟨q,Go.MapKept.run_findKey d e,f⟩
 |1,a,b=>
  have d:P.underlying kt=some .string:=by
   unfold c9 at a;split at a<;>first|assumption|(rename_i e _;omega)|(cases a)
  obtain⟨q,e,f⟩:=w9 (.inr ⟨rfl,rfl⟩) b g 0 i h;exact⟨q,Go.MapKept.run_findKey d e,f⟩
 |n+2,a,b=>
  obtain⟨q,e,f⟩:=De a b g w 0 i h;refine⟨q,?_,f⟩;rw[run_findKey_eq w _ v l]
  .exact e
  .unfold c9 at a
   split at a
   .rename_i j _;exact absurd j ab
   .rename_i j _;exact absurd j ab
   .rename_i d;rw[d]
   .rename_i d;rw[d]
   .cases a
end
section
variable{a:Act}{ρ:Operand->Value}{r:Rf->AV}{w:World}{C:Ctx}{ce:CE}{σ:List aj}{nl:Nat}{ps:List bI}
variable{b:Nat}{es:List (AV×AV)}
def Mq(h:da σ b=some es):∃B,dm σ b 0=some B/\B.st = .map es:=by
 unfold da at h;unfold dm;cases a:ay σ b with
 |none=>simp[a]at h
 |some B=>
  simp only[a]at h ⊢;cases d:B.st<;>simp only[d]at h ⊢<;>try(simp at h;done)
  split at h<;>simp at h;rename_i e;subst h;rw[ah e];exact⟨B,rfl,d⟩
def wS (g:Good C w) (a:∀b u B,C.lim b u->dm σ b u=some B->∃id,C.own b u=some (B,id)){v:Value}(h:da σ b=some es) (d:VR C w.heap (.b8 b) v) :
  ∃id l clock,v = .map (some id)/\w.heap[id]? = some (.map l clock)/\MR C w.heap es l.toList/\∃B,C.own b 0=some (B,id)/\B.st = .map es:=by
 obtain⟨B,i,e⟩:=Mq h;obtain⟨id,f⟩:=a b 0 B (Mr d) i;obtain⟨_,l,c,j,m⟩:=g.maps b 0 B id es f e;unfold VR at d;exact⟨id,l,c,d.2.2 B id f (by rw[e];rfl),j,m,B,f,e⟩
variable{e:TypeId}{z:AV}
def Ms(h:j9 P e z=true) (w:World):∃v,(zeroValue e).run P w = .ok v w/\(∀C H,VR C H z v)/\aB z=true:=by
 unfold j9 at h;cases a:P.info? e with
 |none=>simp[a]at h
 |some i=>
  simp only[a]at h;cases b:i.zero with
  |none=>simp[b]at h
  |some v=>
   simp only[b,aD]at h;exact⟨v,by simp only[zeroValue,aN,run_typeInfo w a,aU,b,aZ],λ_ _=>xa h.1,h.2⟩
variable{o:Oper}{t kt:TypeId}{x:Operand}{p:Option bI}
def Db{k:Operand}{x' k' : Rf}{kd:Nat}{ok:Bool}{y:AV}(ho:o.op = .lookup t x k ok) (ht:P.underlying t=some (.map kt e)) (hk:c9 P kt kd=true) (hz:j9 P e z=true)
  (hg:Good C w) (gk:∀b u B,C.lim b u->dm σ b u=some B->∃id,C.own b u=some (B,id)) (hx:VR C w.heap (r x') (ρ x)) (Ca:VR C w.heap (r k') (ρ k)) (he:ev ce σ nl ps r (.tO x' kd k' z ok)=some (y,p)):Plain P ρ o w C w.heap y/\p=none:=by
 simp only[ev]at he;cases pG : r x' <;>simp only[pG]at he<;>try(simp at he;done)
 rename_i b;rw[pG]at hx;cases hm:da σ b with
 |none=>simp[hm]at he
 |some es=>
  simp only[hm]at he;split at he
  case isFalse=>simp at he
  rename_i hf;obtain⟨id,l,c,e1,hH,hM,_⟩:=wS hg gk hm hx;have hc:=CT hk hf Ca w l.isEmpty;obtain⟨zv,hz1,hz2,hz3⟩:=Ms hz w;cases hq:cw es (r k')with
  |none=>simp[hq]at he
  |some q=>
   obtain⟨q', h1,h2⟩:=CS hk hf Ca w hM hq;cases q with
   |none=>
    simp only[hq,aS,Prod.mk.injEq]at he;obtain⟨rfl,rfl⟩:=he;cases q' with
    |some _=>exact h2.elim
    |none=>
     refine⟨eR (s:=Instr.lookup t (ρ x) (ρ k) ok) (v:=if ok then .tuple #[zv,.bool false]else zv) km ?_ ?_,rfl⟩
     .rw[e1]
      simp only[Instr.lookup,aN,run_underlying ht,aU,Go.MapKept.run_getObj_map hH,aZ,hc,h1,hz1]
     .cases ok with
      |true=>unfold VR;exact⟨[zv,.bool false],rfl,zv,[.bool false],rfl,hz2 _ _,.bool false,[],rfl,rfl,rfl⟩
      |false=>exact hz2 _ _
   |some yv=>
    simp only[hq,aS,Prod.mk.injEq]at he;obtain⟨rfl,rfl⟩:=he;cases q' with
    |none=>exact h2.elim
    |some jv=>
     obtain⟨j,v⟩:=jv;have g2:=h2;refine⟨eR (s:=Instr.lookup t (ρ x) (ρ k) ok) (v:=if ok then .tuple #[v,.bool true]else v) km ?_ ?_,rfl⟩
     .rw[e1]
      simp only[Instr.lookup,aN,run_underlying ht,aU,Go.MapKept.run_getObj_map hH,aZ,hc,h1]
     .cases ok with
      |true=>unfold VR;exact⟨[v,.bool true],rfl,v,[.bool true],rfl,g2,.bool true,[],rfl,rfl,rfl⟩
      |false=>exact g2
def Df{C:Ctx}{H:Array Obj}:∀{es:List (AV×AV)}{l:List MapEntry},MR C H es l->l.length=es.length
 | [],_,e=>by rw[show _=[]from e];rfl
 |_::_,_,⟨e,s,q,_,_,a⟩=>by rw[q];simp[Df a]
def Dc{a:Call}{y:Rf}(q:o.op = .call a) (s:a.callee = .builtin .len) (A:a.args.toList=[x]) (h:a.argTypes.toList=[t])
  (D:P.underlying t=some (.map kt e)) (E:Good C w) (i:∀b u B,C.lim b u->dm σ b u=some B->∃id,C.own b u=some (B,id)) (n:VR C w.heap (r y) (ρ x)) (d:ev ce σ nl ps r (.tk y)=some (z,p)):Plain P ρ o w C w.heap z/\p=none:=by
 simp only[ev]at d;cases f : r y<;>simp only[f]at d<;>try(simp at d;done)
 rename_i b;rw[f]at n;cases j:da σ b with
 |none=>simp[j]at d
 |some es=>
  simp only[j,aS,Prod.mk.injEq]at d;obtain⟨rfl,rfl⟩:=d;obtain⟨id,l,c,F,G,H,_⟩:=wS E i j n;have m : a.args = #[x]:=by rw[<-Array.toList_inj];simpa using A
  have g : a.argTypes = #[t]:=by rw[<-Array.toList_inj];simpa using h
  have I:l.size=es.length:=by have:=Df H;simpa using this
  refine⟨⟨.int .i64 es.length,?_,by unfold VR;rfl⟩,rfl⟩
  simp only[execOp,q,resolve,s,m, g, aN,aZ,aU,invoke,builtin,Builtin.len_];simp[F,aN,run_underlying D,goInt,Go.MapKept.run_getObj_map G,I]
end
end Ab
