/- What maps do: a new one, what it has for a key, an entry more. Condition: none. -/
import Derived.Test.YtdenhmniigikcaaGreatAbA
import Derived.MapKept
import Derived.WideKeyRuns
set_option linter.all false
set_option maxRecDepth 100000
open Option renaming some->aa,none->ab
open Bool renaming true->ad,false->ae
open List renaming length->ah
namespace Ab
open Go
variable{P:Program}
section
variable{C:Ctx}{H:Array Obj}{w:World}
def Pj{t:TypeId}(h:cg P t ab=ad):∃i,P.info? t=aa i/\P.cellsOf t=1:=by
 have a:=px h;unfold cS at a;cases b:P.info? t with
 |none=>simp[b]at a
 |some i=>
  simp[b,ba]at a;exact⟨i,rfl,by simp[Program.cellsOf,b,a]⟩
variable{x:AV}
def uu(h:bP 0 x=ad):∃s,x = .int s:=by
 cases x<;>first|exact⟨_,rfl⟩|(change ae=ad at h;cases h)
def uv(h:bP 1 x=ad):∃s,x = .str s:=by
 cases x<;>first|exact⟨_,rfl⟩|(change ae=ad at h;cases h)
def HO{n:Nat}(h:bP (n+2) x=ad):∃l,x = .agg l/\ah l=n/\(fV l l).isSome=ad:=by
 cases x<;>first|(change ae=ad at h;cases h;done)|skip
 rename_i l;change (ah l==n&&(fV l l).isSome)=ad at h;simp only[bd,dA]at h;exact⟨l,rfl,h.1,h.2⟩
variable{kt:TypeId}{kd:Nat}{y:AV}{v u:Value}
def abj{b:Bool}(g:eH P kt kd=ad) (B:bP kd x=ad) (I:VR C H x v) (J:VR C H y u) (r:fh x y=aa b) (w:World):(Op.equal kt v u).run P w = .ok b w:=by
 unfold Op.equal Op.maxDepth
 match kd,g,B with
 |0,g,B=>
  have z:P.underlying kt=aa (.int .i64):=by
   unfold eH at g;split at g<;>first|assumption|(rename_i V _;omega)|(cases g)
  obtain⟨a,rfl⟩:=uu B;cases y<;>simp only[fh,reduceCtorEq]at r
  rename_i c;simp at r;subst r;rw[I.bV,J.bV,show(10000:Nat)=9999+1 from rfl,run_equalIn_int w 9999 kt .i64 .i64 _ _ z]
  congr 1
 |1,g,B=>
  have z:P.underlying kt=aa .string:=by
   unfold eH at g;split at g<;>first|assumption|(rename_i V _;omega)|(cases g)
  obtain⟨a,rfl⟩:=uv B;cases y<;>simp only[fh,reduceCtorEq]at r
  rename_i c;simp at r;subst r;unfold VR at I J;rw[I,J,show(10000:Nat)=9999+1 from rfl,run_equalIn_string w 9999 kt _ _ z];have p:∀s:List UInt8,ByteArray.toList ⟨s.toArray⟩=s:=λs=>by rw[ByteArray.toList_eq]
  rw[p,p]
  congr 1
  rw[nm];simp
 |n+2,g,B=>
  obtain⟨xs,rfl,L,_⟩:=HO B;cases y<;>simp only[fh,reduceCtorEq]at r
  rename_i ys;obtain⟨j,l,rfl,rfl,W,rfl⟩:=AL r;obtain⟨vs,rfl,M,_⟩:=I;obtain⟨us,rfl,N,_⟩:=J;rw[yI M,yI N];have D:ah j=n:=by simpa using L
  unfold eH at g;split at g
  .rename_i p _;exact absurd p aA
  .rename_i p _;exact absurd p aA
  .rename_i O fs p z
   have p:n=O :=ax
   subst p;simp only[bd,dA,Bool.not_eq_true']at g;have E:P.fieldsOf kt=fs:=by unfold Program.fieldsOf;rw[z]
   rw[show(10000:Nat)=9999+1 from rfl,run_equalIn_struct w 9999 kt _ _ (by rw[E];exact z) g.2,E]
   have:=HP (P:=P) (d:=9998) (w:=w) W (fs:=fs.toList) (o:=0) g.1.2 (by simp[D,g.1.1])
   simpa using this
  .rename_i O m e p z
   have p:n=O :=ax
   subst p;simp only[bd,dA]at g;obtain⟨⟨rfl,F⟩,G⟩:=g;have Q:P.underlying e=aa (.int .i64):=by
    split at F
    .assumption
    .simp at F
   obtain⟨i,X,R⟩:=Pj G;rw[show(10000:Nat)=9999+1 from rfl,run_equalIn_array w 9999 _ _ z X,R];have S:∀(Z:ak) (o:Nat) (h:o<ah Z) (w:World),(Go.part e (Z.map (Value.int .i64)).toArray (o*1)).run P w = .ok (.int .i64 Z[o]) w:=λZ o h w=>by
    have Y:(Z.map (Value.int .i64)).toArray[o]? = aa (.int .i64 Z[o]):=by simp[h]
    simp only[Nat.mul_one,Go.part,bJ,vY G,vZ,bO,ff,fv,Y,bX]
   have go:∀(k o:Nat),o+k=ah j->(Op.eqItems 9999 e 1 (j.map (Value.int .i64)).toArray (l.map (Value.int .i64)).toArray (List.range' o k)).run P w = .ok (decide (j.drop o=l.drop o)) w:=by
    intro k
    induction k with
    |zero=>
     intro o ho;simp only[List.range'_zero,Op.eqItems,bX];rw[kf ax,kf ax];simp
    |succ k K=>
     intro o ho;have T:o<ah j:=ax
     have U:o<ah l:=ax
     simp only[List.range'_succ,Op.eqItems,bJ,S j o T,S l o U,bO,show(9999:Nat)=9998+1 from rfl,run_equalIn_int w 9998 e .i64 .i64 _ _ Q];have K:=K (o+1) ax
     rw[show(9999:Nat)=9998+1 from rfl]at K;have A:(j.drop o=l.drop o)↔(j[o]=l[o]/\j.drop (o+1)=l.drop (o+1)):=by
      rw[rH T,rH U,List.cons.injEq]
     by_cases q:j[o]=l[o]
     .have hd:decide (j.drop (o+1)=l.drop (o+1))=decide (j.drop o=l.drop o):=by
       rw[nm,decide_eq_true_iff,decide_eq_true_iff,A];exact⟨λh=>⟨q,h⟩,λh=>h.2⟩
      have eb:(j[o]==l[o])=ad:=by simpa using q
      simp only[eb,Bool.not_true,ff,fv,K,hd]
     .have e' : (j[o]==l[o])=ae:=by simpa using q
      have hd:decide (j.drop o=l.drop o)=ae:=sP λh=>q (A.1 h).1;simp only[e', Bool.not_false,dM,bX,hd]
   have:=go (ah j) 0 ax
   rw[<-List.range_eq_range', D]at this;simpa using this
  .simp at g
def abk{D:Nat}(hk:eH P kt kd=ad) (hf:bP kd x=ad) (hx:VR C H x v) (w:World) (em:Bool):(Instr.checkKey em (D+1+1) kt v).run P w = .ok () w:=by
 match kd,hk,hf with
 |0,hk,hf=>
  have hu:P.underlying kt=aa (.int .i64):=by
   unfold eH at hk;split at hk<;>first|assumption|(rename_i h1 _;omega)|(cases hk)
  obtain⟨a,rfl⟩:=uu hf;rw[hx.bV];exact Go.MapKept.run_checkKey (k:=.int .i64 a) hu oE em _
 |1,hk,hf=>
  have hu:P.underlying kt=aa .string:=by
   unfold eH at hk;split at hk<;>first|assumption|(rename_i h1 _;omega)|(cases hk)
  obtain⟨a,rfl⟩:=uv hf;unfold VR at hx;rw[hx];exact Go.MapKept.run_checkKey (k:=.string ⟨a.toArray⟩) hu oE em _
 |n+2,hk,hf=>
  obtain⟨xs,rfl,hf1,Zj⟩:=HO hf;obtain⟨q,hq⟩:=vS.1 Zj;obtain⟨Xs,_,rfl,_,_,_⟩:=AL hq;obtain⟨vs,rfl,si,_⟩:=hx;rw[yI si];have NL:ah Xs=n:=by simpa using hf1
  unfold eH at hk;split at hk
  .rename_i e1 _;exact absurd e1 aA
  .rename_i e1 _;exact absurd e1 aA
  .rename_i n' fs e1 hu
   have e1:n=n' :=ax
   subst e1;simp only[bd,dA,Bool.not_eq_true']at hk;rw[Instr.checkKey];simp only[bJ,run_underlying hu,bO];rw[<-Array.forIn_toList];have go:∀(fs:List Field) (o:Nat),gU P fs o=ad->o+ah fs=ah Xs->(forIn fs PUnit.unit λ(f:Field) (_:PUnit)=>(if f.name ≠ "_" then do
      Instr.checkKey em (D+1) f.type (<-Go.part f.type (Xs.map (Value.int .i64)).toArray f.offset)
      pure (ForInStep.yield PUnit.unit)else pure (ForInStep.yield PUnit.unit):Sem (ForInStep PUnit))).run P w = .ok PUnit.unit w:=by
    intro fs
    induction fs with
    |nil=>intro o _ _;simp
    |cons f fs ih=>
     intro o hi ho;simp only[gU,bd,dA,bne_iff_ne]at hi;obtain⟨⟨⟨⟨h1,h2⟩,h3⟩,h4⟩,h5⟩:=hi;have hu:P.underlying f.type=aa (.int .i64):=by
      split at h2
      .assumption
      .simp at h2
     simp only[cT]at ho;have hX:o<ah Xs:=ax
     have hg:(Xs.map (Value.int .i64)).toArray[o]? = aa (.int .i64 Xs[o]):=by simp[hX]
     have hp:(Go.part f.type (Xs.map (Value.int .i64)).toArray f.offset).run P w = .ok (.int .i64 Xs[o]) w:=by
      simp only[Go.part,bJ,vY h3,vZ,bO,ff,fv,h4,hg,bX]
     have hc:(Instr.checkKey em (D+1) f.type (.int .i64 Xs[o])).run P w = .ok () w:=Go.MapKept.run_checkKey (k:=.int .i64 Xs[o]) hu oE em _
     simp only[List.forIn_cons,bJ,aD h1,hp,bO,hc,bX];exact ih (o+1) h5 ax
   rw[go fs.toList 0 hk.1.2 (by simp[NL,hk.1.1])];simp
  .rename_i n' m e e1 hu
   have e1:n=n' :=ax
   subst e1;simp only[bd,dA]at hk;obtain⟨⟨rfl,vF⟩,hk3⟩:=hk;have hue:P.underlying e=aa (.int .i64):=by
    split at vF
    .assumption
    .simp at vF
   obtain⟨i,hi,DY⟩:=Pj hk3;rw[Instr.checkKey];simp only[bJ,run_underlying hu,bO];simp only[Std.Legacy.Range.forIn_eq_forIn_range', Std.Legacy.Range.size,Nat.sub_zero,Nat.add_one_sub_one,Nat.div_one];have hp:∀(o:Nat) (h:o<ah Xs),(Go.part e (Xs.map (Value.int .i64)).toArray (o*1)).run P w = .ok (.int .i64 Xs[o]) w:=λo h=>by
    have hg:(Xs.map (Value.int .i64)).toArray[o]? = aa (.int .i64 Xs[o]):=by simp[h]
    simp only[Nat.mul_one,Go.part,bJ,vY hk3,vZ,bO,ff,fv,hg,bX]
   have go:∀(k o:Nat),o+k=ah Xs->(forIn (List.range' o k) PUnit.unit λ(i:Nat) (_:PUnit)=>(do
      Instr.checkKey em (D+1) e (<-Go.part e (Xs.map (Value.int .i64)).toArray (i*(<-sizeOf e)))
      pure (ForInStep.yield PUnit.unit):Sem (ForInStep PUnit))).run P w = .ok PUnit.unit w:=by
    intro k
    induction k with
    |zero=>intro o _;simp
    |succ k ih=>
     intro o ho;have hX:o<ah Xs:=ax
     have hc:(Instr.checkKey em (D+1) e (.int .i64 Xs[o])).run P w = .ok () w:=Go.MapKept.run_checkKey (k:=.int .i64 Xs[o]) hue oE em _
     simp only[List.range'_succ,List.forIn_cons,bJ,run_sizeOf w hi,DY,hp o hX,bO,hc,bX];exact ih (o+1) ax
   rw[<-NL];rw[go (ah Xs) 0 ax];simp
  .simp at hk
def HG(a:eH P kt kd=ad) (b:bP kd x=ad) (d:VR C H x v) (w:World) (em:Bool):(Instr.checkKey em 10000 kt v).run P w = .ok () w:=abk (D:=9998) a b d w em
def O1(h:bP kd x=ad):bC x=ad:=by
 match kd with
 |0=>obtain⟨s,rfl⟩:=uu h;rfl
 |1=>obtain⟨s,rfl⟩:=uv h;rfl
 |n+2=>
  obtain⟨l,rfl,_,b⟩:=HO h;obtain⟨q,d⟩:=vS.1 b;obtain⟨g,_,rfl,_,_,_⟩:=AL d;show aY _=ad;have go:∀l:ak,aY (l.map AV.int)=ad:=λl=>by
   induction l with
   |nil=>rfl
   |cons a r e=>simpa[aY,bC]using e
  exact go _
def MR.push{C:Ctx}{H:Array Obj}{k x:AV}{e:MapEntry}(hk:bC k=ad) (vV:VR C H k e.key) (hxv:VR C H x e.val):∀{es:List (AV×AV)}{l:List MapEntry},MR C H es l->MR C H (es ++ [(k,x)]) (l ++ [e])
 | [],_,h=>by
  have:_=[]:=h;subst this;exact⟨e,[],rfl,⟨hk,vV⟩,hxv,rfl⟩
 |_::_,_,⟨e', s,q,h1,h2,hr⟩=>by
  subst q;exact⟨e', s ++ [e],rfl,h1,h2,MR.push hk vV hxv hr⟩
def FR (C:Ctx) (H:Array Obj) (r:Option AV) (q:Option (Nat×Value)):Prop:=match r,q with
 |none,ab=>True
 |some y,aa (_,v)=>VR C H y v
 |_,_=>False
def Pk{kt:TypeId}{kd:Nat}{x:AV}{v:Value}{r:Option AV}(d:eH P kt kd=ad) (g:bP kd x=ad) (j:VR C H x v) (w:World):∀{es:List (AV×AV)}{l:List MapEntry}(i:Nat),MR C H es l->dg es x=aa r->∃q,(Instr.findAsking kt v l i).run P w = .ok q w/\FR C H r q
 | [],_,i,n,h=>by
  have:_=[]:=n;subst this;simp[dg]at h;subst h;exact⟨ab,by simp[Instr.findAsking],trivial⟩
 |(k,y)::es,_,i,⟨e,s,el,⟨B,o⟩,p,u⟩,h=>by
  subst el;simp only[dg]at h;cases a:fh x k with
  |none=>rw[a]at h;simp at h
  |some b=>
   have m:=abj d g j o a w;cases b with
   |true=>
    rw[a]at h;simp at h;subst h;exact⟨aa (i,e.val),by simp[Instr.findAsking,m],p⟩
   |false=>
    rw[a]at h;obtain⟨q,z,A⟩:=Pk d g j w (i+1) u h;exact⟨q,by simp[Instr.findAsking,m,z],A⟩
def HQ{kd:Nat}{d:TypeDesc}{x:AV}{v:Value}{r:Option AV}(hd:(kd=0/\d = .int .i64)\/(kd=1/\d = .string)) (m:bP kd x=ad) (j:VR C H x v):∀{es:List (AV×AV)}{l:List MapEntry}(i:Nat),MR C H es l->dg es x=aa r->∃q,Instr.findNow d v l i=aa q/\FR C H r q
 | [],_,i,p,h=>by
  have:_=[]:=p;subst this;simp[dg]at h;subst h;exact⟨ab,by simp[Instr.findNow],trivial⟩
 |(k,y)::es,_,i,⟨e,s,el,⟨B,n⟩,u,w⟩,h=>by
  subst el;simp only[dg]at h;cases g:fh x k with
  |none=>rw[g]at h;simp at h
  |some b=>
   have o:Instr.sameNow d v e.key=aa b:=by
    rcases hd with⟨rfl,rfl⟩|⟨rfl,rfl⟩
    .obtain⟨a,rfl⟩:=uu m
     cases k<;>simp only[fh,reduceCtorEq]at g;rename_i c;simp at g;subst g;rw[j.bV,n.bV];simp[Instr.sameNow];rw[nm];simp
    .obtain⟨a,rfl⟩:=uv m
     cases k<;>simp only[fh,reduceCtorEq]at g;rename_i c;simp at g;subst g;unfold VR at j n;rw[j,n];simp only[Instr.sameNow]
     congr 1
     rw[nm,Go.MapKept.bytes_beq];simp
   cases b with
   |true=>
    rw[g]at h;simp at h;subst h;exact⟨aa (i,e.val),by simp[Instr.findNow,o],u⟩
   |false=>
    rw[g]at h;obtain⟨q,z,A⟩:=HQ hd m j (i+1) w h;exact⟨q,by simp[Instr.findNow,o,z],A⟩
variable{es:List (AV×AV)}
def HF{r:Option AV}(a:eH P kt kd=ad) (b:bP kd x=ad) (i:VR C H x v) (w:World){l:List MapEntry}(j:MR C H es l) (h:dg es x=aa r):∃q,(Instr.findKey kt v l).run P w = .ok q w/\FR C H r q:=by
 match kd,a,b with
 |0,a,b=>
  have d:P.underlying kt=aa (.int .i64):=by
   unfold eH at a;split at a<;>first|assumption|(rename_i e _;omega)|(cases a)
  obtain⟨q,e,g⟩:=HQ (.inl ⟨rfl,rfl⟩) b i 0 j h;exact⟨q,Go.MapKept.run_findKey d e,g⟩
 |1,a,b=>
  have d:P.underlying kt=aa .string:=by
   unfold eH at a;split at a<;>first|assumption|(rename_i e _;omega)|(cases a)
  obtain⟨q,e,g⟩:=HQ (.inr ⟨rfl,rfl⟩) b i 0 j h;exact⟨q,Go.MapKept.run_findKey d e,g⟩
 |n+2,a,b=>
  obtain⟨q,e,g⟩:=Pk a b i w 0 j h;refine⟨q,?_,g⟩;rw[run_findKey_eq w _ v l]
  .exact e
  .unfold eH at a
   split at a
   .rename_i m _;exact absurd m aA
   .rename_i m _;exact absurd m aA
   .rename_i d;rw[d]
   .rename_i d;rw[d]
   .cases a
def abl{k:AV}(e:kd<2) (d:bP kd x=ad) (b:fh x k=aa ad):k=x:=by
 match kd,e,d with
 |0,_,d=>
  obtain⟨a,rfl⟩:=uu d;cases k<;>simp only[fh,reduceCtorEq]at b
  simp at b;rw[b]
 |1,_,d=>
  obtain⟨a,rfl⟩:=uv d;cases k<;>simp only[fh,reduceCtorEq]at b
  simp at b;rw[b]
def abm(g:kd<2) (b:bP kd x=ad) (d:VR C H x v) (e:VR C H x u):u=v:=by
 match kd,g,b with
 |0,_,b=>
  obtain⟨a,rfl⟩:=uu b;rw[d.bV,e.bV]
 |1,_,b=>
  obtain⟨a,rfl⟩:=uv b;unfold VR at d e;rw[d,e]
def aaG(h:eH P kt kd=ad) (g:kd<2) (b:bP kd x=ad) (e:VR C H x v) (w:World):(Instr.keyThatStays v v).run P w = .ok v w:=by
 match kd,g,b with
 |0,_,b=>
  obtain⟨a,rfl⟩:=uu b;rw[e.bV];exact Go.MapKept.run_keyThatStays (d:=.int .i64) oE
 |1,_,b=>
  obtain⟨a,rfl⟩:=uv b;unfold VR at e;rw[e];exact Go.MapKept.run_keyThatStays (d:=.string) oE
def HR{kd:Nat}{d:TypeDesc}{x z:AV}{v u:Value}{y:AV}(hd:(kd=0/\d = .int .i64)\/(kd=1/\d = .string)) (p:kd<2) (n:bP kd x=ad) (m:VR C H x v) (w:VR C H z u):∀{es:List (AV×AV)}{l:List MapEntry}(i:Nat),MR C H es l->dg es x=aa (aa y)->
  ∃j e,Instr.findNow d v l i=aa (aa (i+j,e.val))/\l[j]? = aa e/\e.key=v/\MR C H (jU es x z) (l.set j {e with key:=v,val:=u})
 | [],_,i,L,h=>by simp[dg]at h
 |(k,M)::es,_,i,⟨e,s,el,⟨A,o⟩,E,B⟩,h=>by
  subst el;simp only[dg]at h;cases g:fh x k with
  |none=>rw[g]at h;simp at h
  |some b=>
   have D:Instr.sameNow d v e.key=aa b:=by
    rcases hd with⟨rfl,rfl⟩|⟨rfl,rfl⟩
    .obtain⟨a,rfl⟩:=uu n
     cases k<;>simp only[fh,reduceCtorEq]at g;rename_i c;simp at g;subst g;rw[m.bV,o.bV];simp[Instr.sameNow];rw[nm];simp
    .obtain⟨a,rfl⟩:=uv n
     cases k<;>simp only[fh,reduceCtorEq]at g;rename_i c;simp at g;subst g;unfold VR at m o;rw[m,o];simp only[Instr.sameNow]
     congr 1
     rw[nm,Go.MapKept.bytes_beq];simp
   cases b with
   |true=>
    have q:=abl p n g;subst q;have r:=abm p n m o;refine⟨0,e,by simp[Instr.findNow,D],rfl,r,?_⟩
    simp only[jU,g,List.set_cons_zero];exact⟨_,s,rfl,⟨A,m⟩,w,B⟩
   |false=>
    rw[g]at h;obtain⟨j,F, G,I,J,K⟩:=HR hd p n m w (i+1) B h;refine⟨j+1,F, ?_,by simpa using I,J,?_⟩
    .simp only[Instr.findNow,D]
     rw[show i+(j+1)=i+1+j by omega]
     simpa using G
    .simp only[jU,g,sQ]
     exact⟨e,_,rfl,⟨A,o⟩,E,K⟩
def aaF{z:AV}(a:eH P kt kd=ad) (b:kd<2) (d:bP kd x=ad) (p:VR C H x v) (q:VR C H z u) (w:World){l:Array MapEntry}(r:MR C H es l.toList) (h:dg es x=aa (aa y)) :
  ∃j e,(Instr.findKey kt v l.toList).run P w = .ok (aa (j,e.val)) w/\l.toList[j]? = aa e/\e.key=v/\MR C H (jU es x z) (l.toList.set j {e with key:=v,val:=u}):=by
 match kd,a,b,d with
 |0,a,b,d=>
  have i:P.underlying kt=aa (.int .i64):=by
   unfold eH at a;split at a<;>first|assumption|(rename_i s _;omega)|(cases a)
  obtain⟨j,e,g,m,n,o⟩:=HR (.inl ⟨rfl,rfl⟩) b d p q 0 r h;rw[gQ]at g;exact⟨j,e,Go.MapKept.run_findKey i g,m,n,o⟩
 |1,a,b,d=>
  have i:P.underlying kt=aa .string:=by
   unfold eH at a;split at a<;>first|assumption|(rename_i s _;omega)|(cases a)
  obtain⟨j,e,g,m,n,o⟩:=HR (.inr ⟨rfl,rfl⟩) b d p q 0 r h;rw[gQ]at g;exact⟨j,e,Go.MapKept.run_findKey i g,m,n,o⟩
end
section
variable{a:Act}{ρ:Operand->Value}{r:Rf->AV}{w:World}{C:Ctx}{ce:CE}{σ:aq}{nl:Nat}{ps:List dd}
variable{b:Nat}{es:List (AV×AV)}
def abn(h:fM σ b=aa es):∃B,gI σ b 0=aa B/\B.st = .map es:=by
 unfold fM at h;unfold gI;cases a:aQ σ b with
 |none=>simp[a]at h
 |some B=>
  simp only[a]at h ⊢;cases d:B.st<;>simp only[d]at h ⊢<;>try(simp at h;done)
  split at h<;>simp at h;rename_i e;subst h;rw[aD e];exact⟨B,rfl,d⟩
variable{v:Value}
def DU (i:Good C w) (a:∀b u B,C.lim b u->gI σ b u=aa B->∃id,C.own b u=aa (B,id))(h:fM σ b=aa es) (d:VR C w.heap (.cZ b) v) :
  ∃id l clock,v = .map (aa id)/\w.heap[id]? = aa (.map l clock)/\MR C w.heap es l.toList/\∃B,C.own b 0=aa (B,id)/\B.st = .map es:=by
 obtain⟨B,j,e⟩:=abn h;obtain⟨id,g⟩:=a b 0 B (abo d) j;obtain⟨_,l,c,m,n⟩:=i.maps b 0 B id es g e;unfold VR at d;exact⟨id,l,c,d.2.2 B id g fW,m,n,B,g,e⟩
variable{e:TypeId}{z:AV}
def abp(h:p6 P e z=ad) (w:World):∃v,(zeroValue e).run P w = .ok v w/\(∀C H,VR C H z v)/\bC z=ad:=by
 unfold p6 at h;cases a:P.info? e with
 |none=>simp[a]at h
 |some i=>
  simp only[a]at h;cases b:i.zero with
  |none=>simp[b]at h
  |some v=>
   simp only[b,bd]at h;exact⟨v,by simp only[zeroValue,bJ,run_typeInfo w a,bO,b,bX],λ_ _=>HS h.1,h.2⟩
variable{o:Oper}{t kt:TypeId}{x:Operand}{x': Rf}{p:Option dd}
def Pg{k:Operand}{k': Rf}{kd:Nat}{ok:Bool}{y:AV}(ho:o.op = .lookup t x k ok) (ht:P.underlying t=aa (.map kt e)) (hk:eH P kt kd=ad) (hz:p6 P e z=ad)
  (hg:Good C w) (kJ:∀b u B,C.lim b u->gI σ b u=aa B->∃id,C.own b u=aa (B,id)) (hx:VR C w.heap (r x') (ρ x)) (vV:VR C w.heap (r k') (ρ k)) (he:ev ce σ nl ps r (.xG x' kd k' z ok)=aa (y,p)):Plain P ρ o w C w.heap y/\p=ab:=by
 simp only[ev]at he;cases lh : r x' <;>simp only[lh]at he<;>try(simp at he;done)
 rename_i b;rw[lh]at hx;cases hm:fM σ b with
 |none=>simp[hm]at he
 |some es=>
  simp only[hm]at he;split at he
  case isFalse=>simp at he
  rename_i hf;obtain⟨id,l,c,e1,hH,hM,_⟩:=DU hg kJ hm hx;have hc:=HG hk hf vV w l.isEmpty;obtain⟨zv,hz1,tW,Zk⟩:=abp hz w;cases hq:dg es (r k')with
  |none=>simp[hq]at he
  |some q=>
   obtain⟨q', h1,h2⟩:=HF hk hf vV w hM hq;cases q with
   |none=>
    simp only[hq,ct,Prod.mk.injEq]at he;obtain⟨rfl,rfl⟩:=he;cases q' with
    |some _=>exact h2.elim
    |none=>
     refine⟨gk (s:=Instr.lookup t (ρ x) (ρ k) ok) (v:=if ok then .tuple #[zv,.bool ae]else zv) mC ?_ ?_,rfl⟩
     .rw[e1]
      simp only[Instr.lookup,bJ,run_underlying ht,bO,yF hH,bX,hc,h1,hz1]
     .cases ok with
      |true=>unfold VR;exact⟨[zv,.bool ae],rfl,zv,[.bool ae],rfl,tW _ _,.bool ae,[],rfl,rfl,rfl⟩
      |false=>exact tW _ _
   |some yv=>
    simp only[hq,ct,Prod.mk.injEq]at he;obtain⟨rfl,rfl⟩:=he;cases q' with
    |none=>exact h2.elim
    |some jv=>
     obtain⟨j,v⟩:=jv;have g2:=h2;refine⟨gk (s:=Instr.lookup t (ρ x) (ρ k) ok) (v:=if ok then .tuple #[v,.bool ad]else v) mC ?_ ?_,rfl⟩
     .rw[e1]
      simp only[Instr.lookup,bJ,run_underlying ht,bO,yF hH,bX,hc,h1]
     .cases ok with
      |true=>unfold VR;exact⟨[v,.bool ad],rfl,v,[.bool ad],rfl,g2,.bool ad,[],rfl,rfl,rfl⟩
      |false=>exact g2
def Pm{C:Ctx}{H:Array Obj}:∀{es:List (AV×AV)}{l:List MapEntry},MR C H es l->ah l=ah es
 | [],_,e=>by rw[show _=[]from e];rfl
 |_::_,_,⟨e,s,q,_,_,a⟩=>by rw[q];simp[Pm a]
variable{y:Rf}
def Ph{a:Call}(s:o.op = .call a) (A:a.callee = .builtin .len) (D:a.args.toList=[x]) (i:a.argTypes.toList=[t])
  (E:P.underlying t=aa (.map kt e)) (F:Good C w) (j:∀b u B,C.lim b u->gI σ b u=aa B->∃id,C.own b u=aa (B,id)) (q:VR C w.heap (r y) (ρ x)) (d:ev ce σ nl ps r (.De y)=aa (z,p)):Plain P ρ o w C w.heap z/\p=ab:=by
 simp only[ev]at d;cases g : r y<;>simp only[g]at d<;>try(simp at d;done)
 rename_i b;rw[g]at q;cases m:fM σ b with
 |none=>simp[m]at d
 |some es=>
  simp only[m,ct,Prod.mk.injEq]at d;obtain⟨rfl,rfl⟩:=d;obtain⟨id,l,c,G,H,I,_⟩:=DU F j m q;have n : a.args = #[x]:=by rw[<-Array.toList_inj];simpa using D
  have h : a.argTypes = #[t]:=by rw[<-Array.toList_inj];simpa using i
  have J:l.size=ah es:=by have:=Pm I;simpa using this
  refine⟨⟨.int .i64 (ah es),?_,iy⟩,rfl⟩
  simp only[execOp,s,resolve,A,n, h, bJ,bX,bO,invoke,builtin,Builtin.len_];simp[G,bJ,run_underlying E,goInt,yF H,J]
variable{n:Int}
def ik7{C:Ctx}{H:Array Obj}(h:VR C H (.ik 7 n) v):v = .int .u64 n:=by
 unfold VR at h;obtain⟨K,a,b⟩:=h;rw[show kY 7=aa IntKind.u64 from rfl]at a;cases a;exact b
def abq(h:0<=n/\n<=255):IntKind.u8.wrap n=n:=by
 simp[IntKind.wrap,IntKind.bits,IntKind.signed];omega
def DK{C:Ctx}{H:Array Obj}:VR C H (.ik 4 n) (.int .u8 n):=by unfold VR;exact⟨_,rfl,rfl⟩
variable{s d:TypeId}
def abc(l:o.op = .convert s d x)
  (i:(match P.underlying s,P.underlying d with|some (.int _),aa (.int .u8)=>ad|_,_=>ae)=ad) (j:VR C w.heap (r y) (ρ x)) (a:ev ce σ nl ps r (.NM y)=aa (z,p)):Plain P ρ o w C w.heap z/\p=ab:=by
 have m:∃k,P.underlying s=aa (.int k)/\P.underlying d=aa (.int .u8):=by
  split at i
  .rename_i k q u;exact⟨k,q,u⟩
  .simp at i
 obtain⟨k,e,g⟩:=m;simp only[ev]at a;cases b : r y<;>simp only[b]at a<;>try(simp at a;done)
 rename_i n;rw[b]at j;split at a<;>simp at a
 rename_i h;obtain⟨A,B⟩:=a;subst A B;refine⟨gk (s:=Go.convert s d (ρ x)) (v:=.int .u8 n) (by simp only[execOp,l]) ?_ DK,rfl⟩
 rw[j.bV];simp only[Go.convert,bJ,run_underlying e,run_underlying g,bO,Conv.intToInt,bX,abq h]
def abr:IntKind.u8.wrap n=n%256:=by
 simp[IntKind.wrap,IntKind.bits,IntKind.signed]
def abe(j:o.op = .convert s d x)
  (h:(match P.underlying s,P.underlying d with|some (.int _),aa (.int .u8)=>ad|_,_=>ae)=ad) (i:VR C w.heap (r y) (ρ x)) (a:ev ce σ nl ps r (.DZ y)=aa (z,p)):Plain P ρ o w C w.heap z/\p=ab:=by
 have l:∃k,P.underlying s=aa (.int k)/\P.underlying d=aa (.int .u8):=by
  split at h
  .rename_i k m q;exact⟨k,m,q⟩
  .simp at h
 obtain⟨k,e,g⟩:=l;simp only[ev]at a;cases b : r y<;>simp only[b]at a<;>try(simp at a;done)
 rename_i n;rw[b]at i;simp at a;obtain⟨u,A⟩:=a;subst u A;refine⟨gk (s:=Go.convert s d (ρ x)) (v:=.int .u8 (n%256)) (by simp only[execOp,j]) ?_ DK,rfl⟩
 rw[i.bV];simp only[Go.convert,bJ,run_underlying e,run_underlying g,bO,Conv.intToInt,bX,abr]
def abd{i:Operand}{i': Rf}(ho:o.op = .index t x i)
  (ht:(match P.underlying t with|some .string=>ad|_=>ae)=ad)
  (hx:VR C w.heap (r x') (ρ x)) (hi:VR C w.heap (r i') (ρ i)) (he:ev ce σ nl ps r (.NN x' i')=aa (z,p)):Plain P ρ o w C w.heap z/\p=ab:=by
 have hu:P.underlying t=aa .string:=by
  split at ht
  .assumption
  .simp at ht
 simp only[ev]at he;cases lh : r x' <;>simp only[lh]at he<;>try(simp at he;done)
 cases ke : r i' <;>simp only[ke]at he<;>try(simp at he;done)
 rename_i s n;rw[lh]at hx;rw[ke]at hi;split at he
 case isFalse=>simp at he
 rename_i h0;cases hb:s[n.toNat]? with
 |none=>rw[hb]at he;simp at he
 |some b=>
  rw[hb]at he;simp at he;obtain⟨hz,hp⟩:=he;subst hz hp;refine⟨gk (s:=Instr.index t (ρ x) (ρ i)) (v:=.int .u8 (b.toNat:Int)) mC ?_ DK,rfl⟩
  unfold VR at hx;rw[hx,hi.bV];have cw:=(dp.1 hb).1;have hg:(⟨s.toArray⟩:ByteArray)[n.toNat]? = aa b:=by
   rw[getElem?_pos _ _ (by show n.toNat<s.toArray.size;simpa using cw)]
   have:=(dp.1 hb).2;show aa (s.toArray[n.toNat]'_)=aa b;simp[this]
  simp only[Instr.index,asIntOf,bJ,bX,bO,run_underlying hu,aD h0,hg]
variable{op:BinOp}
def HT{y:Operand}{k d : IntKind}{a b:Int}(w:World):(eqGuard op t x y (.int k a) (.int d b)).run P w = .ok () w:=by
 unfold eqGuard;split<;>simp
variable{t': TypeId}{y': Rf}
def abg{t: TypeId}{y:Operand}{neg:Bool}(ho:o.op = .binOp op t x y t')
  (fu:mD op neg=ad) (ht:(match P.underlying t with|some (.int _)=>ad|_=>ae)=ad)
  (hx:VR C w.heap (r x') (ρ x)) (hy:VR C w.heap (r y') (ρ y)) (he:ev ce σ nl ps r (.NO neg x' y')=aa (z,p)):Plain P ρ o w C w.heap z/\p=ab:=by
 have hu:∃K,P.underlying t=aa (.int K):=by
  split at ht
  .exact⟨_,jE⟩
  .simp at ht
 obtain⟨K,hu⟩:=hu;simp only[ev]at he;split at he
 case h_2=>simp at he
 rename_i k a j b h1 h2;split at he<;>simp at he
 rename_i hkj;subst hkj;obtain⟨rfl,rfl⟩:=he;rw[h1]at hx;rw[h2]at hy;unfold VR at hx hy;obtain⟨K1,q1,hx⟩:=hx;obtain⟨K2,q2,hy⟩:=hy;rw[q1]at q2;cases q2;refine⟨gk (s:=do eqGuard op t x y (ρ x) (ρ y);binOp op t (ρ x) (ρ y)) (v:=.bool ((a==b) != neg)) mC ?_ iy,rfl⟩
 rw[hx,hy];have hq:(Op.equal t (.int K1 a) (.int K1 b)).run P w = .ok (a==b) w:=by
  unfold Op.equal Op.maxDepth;exact run_equalIn_int w 9999 t K1 K a b hu
 unfold mD at fu;split at fu
 .simp at fu;subst fu
  simp[bJ,HT,bO,binOp,hq,bX,Op.intCmp]
 .subst fu
  simp[bJ,HT,bO,binOp,hq,bX,Op.intCmp]
  rfl
 .simp at fu
def abf{t: TypeId}{y:Operand}(j:o.op = .binOp .shr t x y t')
  (d:VR C w.heap (r x') (ρ x)) (e:VR C w.heap (r y') (ρ y)) (b:ev ce σ nl ps r (.HU x' y')=aa (z,p)):Plain P ρ o w C w.heap z/\p=ab:=by
 have main:∀K a n,ρ x = .int .i64 a->ρ y = .int K n->(0<=n/\n<64)->z = .int (a.fdiv (2^n.toNat))->p=ab->Plain P ρ o w C w.heap z/\p=ab:=by
  intro K a n l m h q u;subst q u;refine⟨gk (s:=do eqGuard .shr t x y (ρ x) (ρ y);binOp .shr t (ρ x) (ρ y)) (v:=.int .i64 (a.fdiv (2^n.toNat))) (by simp only[execOp,j]) ?_ iy,rfl⟩
  rw[l,m];have A:min n.toNat (IntKind.bits .i64)=n.toNat:=by simp[IntKind.bits];omega
  simp only[bJ,HT,bO,binOp,Op.shift,aC (show ¬n<0 by omega),A,bX]
 simp only[ev]at b;split at b
 .rename_i a n g i
  split at b<;>simp at b;rename_i h;rw[g]at d;rw[i]at e;exact main _ a n d.bV e.bV h b.1.symm b.2.symm
 .rename_i a n g i
  split at b<;>simp at b;rename_i h;rw[g]at d;rw[i]at e;exact main _ a n d.bV (ik7 e) h b.1.symm b.2.symm
 .simp at b
end
end Ab
