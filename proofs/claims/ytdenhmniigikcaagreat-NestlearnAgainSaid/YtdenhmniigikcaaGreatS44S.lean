/- Well-matched words that a language tells apart, and the least ones; and what it leans on. Condition: none. -/
import Derived.Test.YtdenhmniigikcaaGreatS44N
set_option linter.all false
set_option maxRecDepth 100000
set_option maxHeartbeats 4000000
namespace Ab
structure kL where
 c:Int
 i:Int
 r:Int
inductive Ww (A:kL):List Int->Prop
 |nil:Ww A []
 |aQ (w:List Int) (i:Int):0<=i->i<A.i->Ww A w->Ww A (w ++ [A.c+i])
 |ak (w u:List Int) (c r:Int):0<=c->c<A.c->0<=r->r<A.r->Ww A w->Ww A u->Ww A (w++c::(u ++ [A.c+A.i+r]))
inductive Sep (A:kL) (L:List Int->Prop):List Int->List Int->Prop
 |acc (u v:List Int):¬(L u↔L v)->Sep A L u v
 |aQ (u v:List Int) (i:Int):0<=i->i<A.i->Sep A L (u ++ [A.c+i]) (v ++ [A.c+i])->Sep A L u v
 |bl (u v y:List Int) (c r:Int):0<=c->c<A.c->0<=r->r<A.r->Ww A y->Sep A L (u++c::(y ++ [A.c+A.i+r])) (v++c::(y ++ [A.c+A.i+r]))->Sep A L u v
 |br (u v y:List Int) (c r:Int):0<=c->c<A.c->0<=r->r<A.r->Ww A y->Sep A L (y++c::(u ++ [A.c+A.i+r])) (y++c::(v ++ [A.c+A.i+r]))->Sep A L u v
def jQ (A:kL) (L:List Int->Prop) (u v:List Int):Prop:=¬Sep A L u v
theorem Sep.ne{A:kL}{L:List Int->Prop}{u v:List Int}(h:Sep A L u v):u ≠ v:=by
 induction h with
 |acc u v h=>exact λe=>h (by rw[e])
 |aQ u v i _ _ _ ih=>exact λe=>ih (by rw[e])
 |bl u v y c r _ _ _ _ _ _ ih=>exact λe=>ih (by rw[e])
 |br u v y c r _ _ _ _ _ _ ih=>exact λe=>ih (by rw[e])
theorem jQ.refl{A:kL}{L:List Int->Prop}(u:List Int):jQ A L u u:=λh=>h.ne rfl
theorem Sep.symm{A:kL}{L:List Int->Prop}{u v:List Int}(h:Sep A L u v):Sep A L v u:=by
 induction h with
 |acc u v h=>exact .acc _ _ λe=>h e.symm
 |aQ u v i h0 h1 _ ih=>exact .aQ _ _ i h0 h1 ih
 |bl u v y c r h0 h1 h2 h3 hy _ ih=>exact .bl _ _ y c r h0 h1 h2 h3 hy ih
 |br u v y c r h0 h1 h2 h3 hy _ ih=>exact .br _ _ y c r h0 h1 h2 h3 hy ih
theorem jQ.symm{A:kL}{L:List Int->Prop}{u v:List Int}(h:jQ A L u v):jQ A L v u:=λg=>h g.symm
theorem Sep.split{A:kL}{L:List Int->Prop}{u w:List Int}(h:Sep A L u w):∀v,Sep A L u v\/Sep A L v w:=by
 induction h with
 |acc u w h=>
  intro v
  by_cases e:L u↔L v
  ·exact .inr (.acc _ _ λe2=>h (e.trans e2))
  ·exact .inl (.acc _ _ e)
 |aQ u w i h0 h1 _ ih=>exact λv=>(ih _).imp (.aQ _ _ i h0 h1) (.aQ _ _ i h0 h1)
 |bl u w y c r h0 h1 h2 h3 hy _ ih=>exact λv=>(ih _).imp (.bl _ _ y c r h0 h1 h2 h3 hy) (.bl _ _ y c r h0 h1 h2 h3 hy)
 |br u w y c r h0 h1 h2 h3 hy _ ih=>exact λv=>(ih (y++c::(v ++ [A.c+A.i+r]))).imp (.br _ _ y c r h0 h1 h2 h3 hy) (.br _ _ y c r h0 h1 h2 h3 hy)
theorem jQ.trans{A:kL}{L:List Int->Prop}{u v w:List Int}(h:jQ A L u v) (g:jQ A L v w):jQ A L u w:=λk=>(k.split v).elim h g
theorem jQ.acc{A:kL}{L:List Int->Prop}{u v:List Int}(h:jQ A L u v):L u↔L v:=eS λe=>h (.acc _ _ e)
theorem jQ.aQ{A:kL}{L:List Int->Prop}{u v:List Int}(h:jQ A L u v){i:Int}(h0:0<=i) (h1:i<A.i):jQ A L (u ++ [A.c+i]) (v ++ [A.c+i]):=λk=>h (.aQ _ _ i h0 h1 k)
theorem jQ.bl{A:kL}{L:List Int->Prop}{u v y:List Int}(h:jQ A L u v){c r:Int}(h0:0<=c) (h1:c<A.c) (h2:0<=r) (h3:r<A.r) (hy:Ww A y):jQ A L (u++c::(y ++ [A.c+A.i+r])) (v++c::(y ++ [A.c+A.i+r])):=λk=>h (.bl _ _ y c r h0 h1 h2 h3 hy k)
theorem jQ.br{A:kL}{L:List Int->Prop}{u v y:List Int}(h:jQ A L u v){c r:Int}(h0:0<=c) (h1:c<A.c) (h2:0<=r) (h3:r<A.r) (hy:Ww A y):jQ A L (y++c::(u ++ [A.c+A.i+r])) (y++c::(v ++ [A.c+A.i+r])):=λk=>h (.br _ _ y c r h0 h1 h2 h3 hy k)
theorem jQ.ak{A:kL}{L:List Int->Prop}{u v x y:List Int}(h:jQ A L u v) (g:jQ A L x y){c r:Int}(h0:0<=c) (h1:c<A.c) (h2:0<=r) (h3:r<A.r) (hv:Ww A v) (hx:Ww A x):jQ A L (u++c::(x ++ [A.c+A.i+r])) (v++c::(y ++ [A.c+A.i+r])):=(h.bl h0 h1 h2 h3 hx).trans (g.br h0 h1 h2 h3 hv)
theorem Ww.sym{A:kL}(hA:0<=A.c/\0<=A.i/\0<=A.r){w:List Int}(h:Ww A w):∀a∈w,0<=a/\a<A.c+A.i+A.r:=by
 induction h with
 |nil=>simp
 |aQ w i h0 h1 _ ih=>
  intro a ha;rcases eI.1 ha with ha|ha
  ·exact ih a ha
  ·simp at ha;omega
 |ak w u c r h0 h1 h2 h3 _ _ lV mI=>
  intro a ha;simp only[eI,cB,List.not_mem_nil,or_false]at ha;rcases ha with ha|rfl|ha|rfl
  ·exact lV a ha
  ·omega
  ·exact mI a ha
  ·omega
structure kL.Ok (A:kL):Prop where
 p:0<=A.c/\0<=A.i/\0<=A.r
 s:A.c+A.i+A.r<=64
theorem Ww.sy{A:kL}(hA:A.Ok){w:List Int}(h:Ww A w):Ab.sy w:=λa ha=>by
 have:=h.sym hA.p a ha;have:=hA.s;omega
theorem amY{P:List Int->Prop}(hP:∀w,P w->Ab.sy w){w:List Int}(hw:P w):∃v,P v/\∀u,P u->aV v u<=0:=by
 have:∀(n:Nat) (w:List Int),fw w<=n->P w->∃v,P v/\∀u,P u->fw v<=fw u:=by
  intro n
  induction n with
  |zero=>exact λw h hw=>⟨w,hw,λu _=>by omega⟩
  |succ n ih=>
   intro w h hw
   by_cases hx:∃u,P u/\fw u<fw w
   ·obtain⟨u,h1,h2⟩:=hx
    exact ih u (by omega) h1
   ·exact⟨w,hw,λu hu=>by
     refine eS λhc=>hx ⟨u,hu,by omega⟩⟩
 obtain⟨v,v1,v2⟩:=this _ w (bw _) hw;exact⟨v,v1,λu hu=>(w6 (hP v v1) (hP u hu)).2 (v2 u hu)⟩
structure iy (A:kL) (L:List Int->Prop) (ws:List (List Int)):Prop where
 AR:ws.Pairwise λa b=>aV a b<0
 ww:∀w∈ws,Ww A w
 UR:∀w∈ws,∀v,Ww A v->jQ A L w v->aV w v<=0
 all:∀v,Ww A v->∃w∈ws,jQ A L v w
theorem Km{a b:List Int}(h:aV a b<=0) (g:aV b a<=0):a=b:=by
 have:=dJ.gF a b;exact dJ.eq _ _ (by omega)
theorem iy.one{A:kL}{L:List Int->Prop}{ws:List (List Int)}(h:iy A L ws){v w:List Int}(hv:v∈ws) (hw:w∈ws) (e:jQ A L v w):v=w:=
 Km (h.UR v hv w (h.ww w hw) e) (h.UR w hw v (h.ww v hv) e.symm)
theorem US:∀{a b:List (List Int)},a.Pairwise (λa b=>aV a b<0)->b.Pairwise (λa b=>aV a b<0)->(∀w,w∈a↔w∈b)->a=b
 | [],[],_,_,_=>rfl
 | [],y::b,_,_,h=>absurd ((h y).2 (by simp)) (by simp)
 |x::a,[],_,_,h=>absurd ((h x).1 (by simp)) (by simp)
 |x::a,y::b,ha,hb,h=>by
  rw[kV]at ha hb;have aK:∀u v:List Int,aV u v<0->aV v u<0->False:=λu v h1 h2=>by have:=dJ.gF u v;omega
  have e:x=y:=by
   rcases cB.1 ((h x).1 (by simp))with e|hx
   ·exact e
   ·rcases cB.1 ((h y).2 (by simp))with e|hy
    ·exact e.symm
    ·exact absurd (ha.1 y hy) λh1=>aK _ _ h1 (hb.1 x hx)
  subst e;rw[US ha.2 hb.2 λw=>?_];constructor
  ·intro hw
   rcases cB.1 ((h w).1 (by simp[hw]))with e|ui
   ·subst e;exact absurd (ha.1 w hw) (by have:=dJ.refl w;omega)
   ·exact ui
  ·intro hw
   rcases cB.1 ((h w).2 (by simp[hw]))with e|ui
   ·subst e;exact absurd (hb.1 w hw) (by have:=dJ.refl w;omega)
   ·exact ui
theorem iy.qK{A:kL}{L:List Int->Prop}{a b:List (List Int)}(h:iy A L a) (g:iy A L b):a=b:=by
 have key:∀{a b:List (List Int)},iy A L a->iy A L b->∀w,w∈a->w∈b:=fun {a b} h g w hw=>by
  obtain⟨v,hv,e⟩:=g.all w (h.ww w hw);rw[Km (h.UR w hw v (g.ww v hv) e) (g.UR v hv w (h.ww w hw) e.symm)];exact hv
 exact US h.AR g.AR λw=>⟨key h g w,key g h w⟩
open Classical in
noncomputable def gN (A:kL) (L:List Int->Prop) (ws:List (List Int)) (v:List Int):Int:=(ws.findIdx λw=>decide (jQ A L v w):Nat)
theorem rS{A:kL}{L:List Int->Prop}{ws:List (List Int)}(h:iy A L ws){v:List Int}(hv:Ww A v):0<=gN A L ws v/\gN A L ws v<(ws.length:Int)/\jQ A L v (ix ws (gN A L ws v)):=by
 obtain⟨w,hw,e⟩:=h.all v hv;have aK:=List.findIdx_lt_length_of_exists (p:=λw=>@decide (jQ A L v w) (Classical.propDecidable _)) ⟨w,hw,by simpa using e⟩
 have hg:=List.findIdx_getElem (w:=aK);unfold gN;refine⟨by omega,by omega,?_⟩
 rw[aS aK];simpa using hg
theorem xh{A:kL}{L:List Int->Prop}{ws:List (List Int)}(h:iy A L ws){v:List Int}(hv:Ww A v){i:Int}(i0:0<=i) (i1:i<(ws.length:Int)) (e:jQ A L v (ix ws i)):gN A L ws v=i:=by
 obtain⟨r0,r1,r2⟩:=rS h hv;have hi:=aZ i0 i1;have hr:=aZ r0 r1;have:=h.one hr hi (r2.symm.trans e);have jh:ws.Nodup:=h.AR.imp fun {a b} wG e=>by rw[e,dJ.refl]at wG;omega
 rw[show gN A L ws v=((gN A L ws v).toNat:Int)by omega,show i=(i.toNat:Int)by omega]at this
 rw[aS (by omega),aS (by omega)]at this
 have:=(List.getElem_inj jh).1 this;omega
theorem UT{A:kL}{L:List Int->Prop}{ws:List (List Int)}(h:iy A L ws){u v:List Int}(hu:Ww A u) (hv:Ww A v):gN A L ws u=gN A L ws v↔jQ A L u v:=by
 obtain⟨r0,r1,r2⟩:=rS h hv;constructor
 ·intro e
  obtain⟨s0,s1,s2⟩:=rS h hu;rw[e]at s2;exact s2.trans r2.symm
 ·exact λe=>xh h hu r0 r1 (e.trans r2)
end Ab
namespace Ab
theorem UU{n:ao}(h:n.Ok):n.bO=0:=by
 have hs:n.gZ=0:=by
  have h1:=h.calls;have h2:=h.aj;have h3:=h.aq;have h4:=h.syms;have h5:=h.stack;have h6:=h.gr;have h7:=h.start;obtain⟨l1,l2,l3,l4⟩:=h.lens;unfold ao.gZ;rw[aa (by omega),aa (by omega),aa (by omega),aa (by omega),aa (by omega),aa (λe=>by rw[e]at h6;simp at h6),aa (by omega),aa (by omega),aa (by omega),aa (by omega),aa (by omega),aa (by omega),aa (by omega)]
 unfold ao.bO;rw[aa (by simpa using hs)]
 refine Ep.2 λs s0 s1=>?_;obtain⟨r1,r2,r3,r4⟩:=h.row s s0 s1;unfold ao.iJ;rw[aa (by omega),aa]
 ·refine Ep.2 λg g0 g1=>?_
  rw[r4]at g1;have hl:=h.I4 s g s0 s1 g0 g1;unfold ao.pd;rw[aa (by simpa using hl),aa]
  rw[tj.2 λj j0 j1=>h.pop s g j s0 s1 g0 g1 j0 (by omega)]
  simp
 ·rw[tj.2 λj j0 j1=>h.call s j s0 s1 j0 (by omega),tj.2 λj j0 j1=>h.push s j s0 s1 j0 (by omega),tj.2 λj j0 j1=>h.inner s j s0 s1 j0 (by omega)]
  simp
theorem Kn{n:ao}(h:n.Ok) (hb:(∀l∈n.call,l.length<=100000)/\(∀l∈n.push,l.length<=100000)/\(∀l∈n.inner,l.length<=100000)/\∀l∈n.pop,l.length<=100000/\∀m∈l,m.length<=100000):n.fits:=by
 have h1:=h.calls;have h2:=h.aj;have h3:=h.aq;have h5:=h.stack;have h6:=h.gr;have h7:=h.start;have inr:∀x:Int,0<=x->x<=1000->kZ x=true:=λx a b=>by simp[kZ];omega
 obtain⟨b1,b2,b3,b4⟩:=hb;exact⟨inr _ h1.1 (by omega),inr _ h2.1 (by omega),inr _ h3.1 (by omega),inr _ (by omega) (by omega),inr _ h7.1 (by omega),by omega,λl hl=>by have:=b1 l hl;omega,λl hl=>by have:=b2 l hl;omega,λl hl=>by have:=b3 l hl;omega,λl hl=>⟨by have:=(b4 l hl).1;omega,λm hm=>by have:=(b4 l hl).2 m hm;omega⟩⟩
theorem ib{α:Type} [Inhabited α]{N:Nat}{f:Nat->α}{s:Int}(h0:0<=s) (h1:s<(N:Int)):ix ((List.range N).map f) s=f s.toNat:=Ki h0 h1
def kL.aA (A:kL) (k:Nat):Nat:=max 1 (k*A.c.toNat)
open Classical in
noncomputable def cO (A:kL) (L:List Int->Prop) (ws:List (List Int)):ao:=⟨A.c,A.i,A.r,((A.aA ws.length:Nat):Int),0,
 (List.range ws.length).map λ(i:Nat)=>decide (L (ix ws (i:Int))),
 List.replicate ws.length (List.replicate A.c.toNat 0),
 (List.range ws.length).map λ(s:Nat)=>(List.range A.c.toNat).map λ(c:Nat)=>(s:Int)*A.c+(c:Int),
 (List.range ws.length).map λ(i:Nat)=>(List.range A.i.toNat).map λ(j:Nat)=>gN A L ws (ix ws (i:Int) ++ [A.c+(j:Int)]),
 (List.range ws.length).map λ(i:Nat)=>(List.range (A.aA ws.length)).map λ(g:Nat)=>(List.range A.r.toNat).map λ(r:Nat)=>if A.c.toNat=0 then 0 else gN A L ws (ix ws ((g/A.c.toNat:Nat):Int)++((g%A.c.toNat:Nat):Int)::(ix ws (i:Int) ++ [A.c+A.i+(r:Int)]))⟩
section
variable{A:kL}{L:List Int->Prop}{ws:List (List Int)}
theorem Ko:(cO A L ws).accept.length=ws.length/\(cO A L ws).call.length=ws.length/\(cO A L ws).push.length=ws.length/\(cO A L ws).inner.length=ws.length/\(cO A L ws).pop.length=ws.length:=by
 simp[cO]
theorem Ao{s c:Int}(s0:0<=s) (s1:s<(ws.length:Int)) (c0:0<=c) (c1:c<A.c):ix (ix (cO A L ws).call s) c=0/\ix (ix (cO A L ws).push s) c=s*A.c+c:=by
 constructor
 ·show ix (ix (List.replicate ws.length (List.replicate A.c.toNat 0)) s) c=0
  rw[show s=((s.toNat:Nat):Int)by omega,show c=((c.toNat:Nat):Int)by omega,lh (by omega),lh (by omega)]
 ·show ix (ix ((List.range ws.length).map λ(s:Nat)=>(List.range A.c.toNat).map λ(c:Nat)=>(s:Int)*A.c+(c:Int)) s) c=_
  rw[ib s0 s1,ib c0 (by omega)]
  rw[show((s.toNat:Nat):Int)=s by omega,show((c.toNat:Nat):Int)=c by omega]
theorem amZ{s:Int}(s0:0<=s) (s1:s<(ws.length:Int)):(ix (cO A L ws).call s).length=A.c.toNat/\(ix (cO A L ws).push s).length=A.c.toNat/\(ix (cO A L ws).inner s).length=A.i.toNat/\(ix (cO A L ws).pop s).length=A.aA ws.length:=by
 refine⟨?_,?_,?_,?_⟩
 ·show(ix (List.replicate ws.length (List.replicate A.c.toNat (0:Int))) s).length=_
  rw[show s=((s.toNat:Nat):Int)by omega,lh (by omega)];simp
 ·show(ix ((List.range ws.length).map λ(s:Nat)=>(List.range A.c.toNat).map λ(c:Nat)=>(s:Int)*A.c+(c:Int)) s).length=_
  rw[ib s0 s1];simp
 ·show(ix ((List.range ws.length).map λ(i:Nat)=>(List.range A.i.toNat).map λ(j:Nat)=>gN A L ws (ix ws (i:Int) ++ [A.c+(j:Int)])) s).length=_
  rw[ib s0 s1];simp
 ·show(ix ((List.range ws.length).map λ(i:Nat)=>(List.range (A.aA ws.length)).map λ(g:Nat)=>(List.range A.r.toNat).map λ(r:Nat)=>if A.c.toNat=0 then 0 else gN A L ws (ix ws ((g/A.c.toNat:Nat):Int)++((g%A.c.toNat:Nat):Int)::(ix ws (i:Int) ++ [A.c+A.i+(r:Int)]))) s).length=_
  rw[ib s0 s1];simp
theorem UW{s i:Int}(s0:0<=s) (s1:s<(ws.length:Int)) (i0:0<=i) (i1:i<A.i):ix (ix (cO A L ws).inner s) i=gN A L ws (ix ws s ++ [A.c+i]):=by
 show ix (ix ((List.range ws.length).map λ(i:Nat)=>(List.range A.i.toNat).map λ(j:Nat)=>gN A L ws (ix ws (i:Int) ++ [A.c+(j:Int)])) s) i=_;rw[ib s0 s1,ib i0 (by omega),show((s.toNat:Nat):Int)=s by omega,show((i.toNat:Nat):Int)=i by omega]
theorem am0{s g:Int}(s0:0<=s) (s1:s<(ws.length:Int)) (g0:0<=g) (g1:g<(A.aA ws.length:Int)):(ix (ix (cO A L ws).pop s) g).length=A.r.toNat:=by
 show(ix (ix ((List.range ws.length).map λ(i:Nat)=>(List.range (A.aA ws.length)).map λ(g:Nat)=>(List.range A.r.toNat).map λ(r:Nat)=>if A.c.toNat=0 then 0 else gN A L ws (ix ws ((g/A.c.toNat:Nat):Int)++((g%A.c.toNat:Nat):Int)::(ix ws (i:Int) ++ [A.c+A.i+(r:Int)]))) s) g).length=_
 rw[ib s0 s1,ib g0 g1];simp
theorem UX{s g r:Int}(s0:0<=s) (s1:s<(ws.length:Int)) (g0:0<=g) (g1:g<(A.aA ws.length:Int)) (r0:0<=r) (r1:r<A.r):ix (ix (ix (cO A L ws).pop s) g) r=if A.c.toNat=0 then 0 else gN A L ws (ix ws ((g.toNat/A.c.toNat:Nat):Int)++((g.toNat%A.c.toNat:Nat):Int)::(ix ws s ++ [A.c+A.i+r])):=by
 show ix (ix (ix ((List.range ws.length).map λ(i:Nat)=>(List.range (A.aA ws.length)).map λ(g:Nat)=>(List.range A.r.toNat).map λ(r:Nat)=>if A.c.toNat=0 then 0 else gN A L ws (ix ws ((g/A.c.toNat:Nat):Int)++((g%A.c.toNat:Nat):Int)::(ix ws (i:Int) ++ [A.c+A.i+(r:Int)]))) s) g) r=_
 rw[ib s0 s1,ib g0 g1,ib r0 (by omega),show((s.toNat:Nat):Int)=s by omega,show((r.toNat:Nat):Int)=r by omega]
theorem UY{s p c r:Int}(s0:0<=s) (s1:s<(ws.length:Int)) (p0:0<=p) (p1:p<(ws.length:Int)) (c0:0<=c) (c1:c<A.c) (r0:0<=r) (r1:r<A.r):0<=p*A.c+c/\p*A.c+c<(A.aA ws.length:Int)/\ix (ix (ix (cO A L ws).pop s) (p*A.c+c)) r=gN A L ws (ix ws p++c::(ix ws s ++ [A.c+A.i+r])):=by
 obtain⟨pn,rfl⟩:∃pn:Nat,p=pn:=⟨p.toNat,by omega⟩
 obtain⟨cn,rfl⟩:∃cn:Nat,c=cn:=⟨c.toNat,by omega⟩
 have e:(pn:Int)*A.c+(cn:Int)=((pn*A.c.toNat+cn:Nat):Int):=by rw[Int.natCast_add,oy];congr 2;omega
 have h1:pn*A.c.toNat+A.c.toNat<=ws.length*A.c.toNat:=by rw[<-Nat.succ_mul];exact jR _ (by omega)
 have hG:pn*A.c.toNat+cn<A.aA ws.length:=by
  show _<max 1 (ws.length*A.c.toNat);omega
 rw[e];refine⟨by omega,by omega,?_⟩
 rw[UX s0 s1 (by omega) (by omega) r0 r1,aa (by omega),kE,show(pn*A.c.toNat+cn)/A.c.toNat=pn from by rw[Nat.mul_comm,Nat.mul_add_div (by omega),Nat.div_eq_of_lt (by omega),Nat.add_zero],show(pn*A.c.toNat+cn)%A.c.toNat=cn from by rw[Nat.mul_comm,Nat.mul_add_mod,Nat.mod_eq_of_lt (by omega)]]
theorem iy.Kq (h:iy A L ws) (hA:A.Ok):1<=ws.length/\ix ws 0=[]:=by
 obtain⟨w,hw,e⟩:=h.all [] .nil;have hle:=h.UR w hw [] .nil e.symm;have hw0:w=[]:=by
  have:aV [] w<=0:=by
   unfold aV;split
   ·omega
   ·split
    ·rename_i h1;simp at h1
    ·rename_i h1 h2
     have:w=[]:=by cases w with
      |nil=>rfl
      |cons a w=>simp at h1
     subst this;simp[cP]
  exact Km hle this
 subst hw0;have hp:=List.length_pos_of_mem hw;refine⟨hp,?_⟩;cases ws with
 |nil=>simp at hp
 |cons x l=>
  have hx:x=[]:=by
   rcases cB.1 hw with e|hw
   ·exact e.symm
   ·have:=(kV.1 h.AR).1 [] hw
    unfold aV at this;split at this
    ·rename_i h1;simp at h1
    ·split at this
     ·omega
     ·cases x with
      |nil=>rfl
      |cons a x=>rename_i h1 h2;simp at h2
  rw[hx];rfl
theorem iy.Kr (h:iy A L ws){s:Int}(s0:0<=s) (s1:s<(ws.length:Int)):Ww A (ix ws s):=h.ww _ (aZ s0 s1)
theorem am1 (h:iy A L ws) (hA:A.Ok) (hs:1<=A.c+A.i+A.r) (h1:ws.length<=128) (h2:ws.length*A.c.toNat<=128):(cO A L ws).Ok:=by
 have hp:=hA.p;have hss:=hA.s;obtain⟨l1,l2,l3,l4,l5⟩:=Ko (A:=A) (L:=L) (ws:=ws);have h0:=(h.Kq hA).1;have bR:A.aA ws.length=max 1 (ws.length*A.c.toNat):=rfl;have hsk:(cO A L ws).stack=(A.aA ws.length:Int):=rfl;refine⟨⟨hp.1,?_⟩,⟨hp.2.1,?_⟩,⟨hp.2.2,?_⟩,⟨hs,hss⟩,⟨by rw[hsk];omega,by rw[hsk];omega⟩,⟨by rw[l1];omega,by rw[l1];omega⟩,⟨Int.le_refl _,?_⟩,⟨by rw[l1,l2],by rw[l1,l3],by rw[l1,l4],by rw[l1,l5]⟩,λs s0 s1=>?_,λs c s0 s1 c0 c1=>?_,λs c s0 s1 c0 c1=>?_,λs c s0 s1 c0 c1=>?_,λs g s0 s1 g0 g1=>?_,λs g r s0 s1 g0 g1 r0 r1=>?_⟩
 ·show A.c<=64;omega
 ·show A.i<=64;omega
 ·show A.r<=64;omega
 ·show(0:Int)<_;rw[l1];omega
 ·rw[l1]at s1
  obtain⟨a,b,c,d⟩:=amZ (A:=A) (L:=L) s0 s1;refine⟨?_,?_,?_,?_⟩
  ·rw[a];show((A.c.toNat:Nat):Int)=A.c;omega
  ·rw[b];show((A.c.toNat:Nat):Int)=A.c;omega
  ·rw[c];show((A.i.toNat:Nat):Int)=A.i;omega
  ·rw[d];rfl
 ·rw[l1]at s1 ⊢
  rw[(Ao s0 s1 c0 c1).1];omega
 ·rw[l1]at s1
  rw[(Ao s0 s1 c0 c1).2]
  by_cases hr:0<A.r
  ·have:=UY (A:=A) (L:=L) s0 s1 s0 s1 c0 c1 (r:=0) (by omega) hr
   exact⟨this.1,this.2.1⟩
  ·-- no returns
   obtain⟨pn,rfl⟩:∃pn:Nat,s=pn:=⟨s.toNat,by omega⟩
   obtain⟨cn,rfl⟩:∃cn:Nat,c=cn:=⟨c.toNat,by omega⟩
   have c1:(cn:Int)<A.c:=c1;have e:(pn:Int)*A.c+(cn:Int)=((pn*A.c.toNat+cn:Nat):Int):=by rw[Int.natCast_add,oy];congr 2;omega
   have h1:pn*A.c.toNat+A.c.toNat<=ws.length*A.c.toNat:=by rw[<-Nat.succ_mul];exact jR _ (by omega)
   rw[e,hsk,bR];omega
 ·rw[l1]at s1 ⊢
  rw[UW s0 s1 c0 c1];have:=rS h (.aQ _ c c0 c1 (h.Kr s0 s1));exact⟨this.1,this.2.1⟩
 ·rw[l1]at s1
  rw[am0 s0 s1 g0 g1];show((A.r.toNat:Nat):Int)=A.r;omega
 ·rw[l1]at s1 ⊢
  rw[UX s0 s1 g0 g1 r0 r1];split
  ·omega
  ·rename_i hc
   have g1:g<(A.aA ws.length:Int):=g1;have hm:=Nat.mod_lt g.toNat (show 0<A.c.toNat by omega)
   have hd:g.toNat/A.c.toNat<ws.length:=by
    rw[Nat.div_lt_iff_lt_mul (by omega)]
    have:1<=ws.length*A.c.toNat:=Nat.mul_pos h0 (by omega)
    omega
   have r1:r<A.r:=r1;generalize g.toNat/A.c.toNat=d at *;generalize g.toNat%A.c.toNat=m at *;have:=rS h (.ak (ix ws ((d:Nat):Int)) (ix ws s) ((m:Nat):Int) r (by omega) (by omega) r0 r1 (h.Kr (by omega) (by omega)) (h.Kr s0 s1))
   exact⟨this.1,this.2.1⟩
theorem Ww.app{u v:List Int}(hu:Ww A u) (hv:Ww A v):Ww A (u++v):=by
 induction hv with
 |nil=>simpa using hu
 |aQ w i h0 h1 _ ih=>rw[<-List.append_assoc];exact .aQ _ i h0 h1 ih
 |ak w x c r h0 h1 h2 h3 _ hx lV _=>rw[<-List.append_assoc];exact .ak _ x c r h0 h1 h2 h3 lV hx
theorem am2 (h:iy A L ws) (hA:A.Ok){w:List Int}(hw:Ww A w):∀u,Ww A u->Wd (cO A L ws).eV (gN A L ws u) (gN A L ws (u++w)) w:=by
 induction hw with
 |nil=>intro u hu;rw[List.append_nil];exact .nil _
 |aQ w i h0 h1 hw ih=>
  intro u hu;have Lv:=hu.app hw;have r:=rS h Lv;refine(ih u hu).app ?_;have e:(cO A L ws).eV.inner (gN A L ws (u++w)) i=gN A L ws (u++(w ++ [A.c+i])):=by
   show ix (ix (cO A L ws).inner _) i=_;rw[UW r.1 r.2.1 h0 h1];refine(UT h (.aQ _ i h0 h1 (h.Kr r.1 r.2.1)) ?_).2 ?_
   ·rw[<-List.append_assoc];exact .aQ _ i h0 h1 Lv
   ·rw[<-List.append_assoc];exact r.2.2.symm.aQ h0 h1
  have:=Wd.aQ (M:=(cO A L ws).eV) (gN A L ws (u++w)) i (gN A L ws (u++(w ++ [A.c+i]))) [] h0 h1 (by rw[e];exact .nil _)
  exact this
 |ak w y c r c0 c1 r0 r1 hw hy lV mI=>
  intro u hu;have Lv:=hu.app hw;have q:=rS h Lv;have qy:=rS h hy;have hn:=h.Kq hA;refine(lV u hu).app ?_;have hb:=mI [] .nil;rw[q7]at hb;have e0:gN A L ws []=0:=xh h .nil (by omega) (by omega) (by rw[hn.2];exact jQ.refl _)
  rw[e0]at hb;have ec:=Ao (A:=A) (L:=L) q.1 q.2.1 c0 c1;have ep:=UY (A:=A) (L:=L) qy.1 qy.2.1 q.1 q.2.1 c0 c1 r0 r1;have e:(cO A L ws).eV.pop (gN A L ws y) ((cO A L ws).eV.call (gN A L ws (u++w)) c).2 r=gN A L ws (u++(w++c::(y ++ [A.c+A.i+r]))):=by
   show ix (ix (ix (cO A L ws).pop (gN A L ws y)) (ix (ix (cO A L ws).push (gN A L ws (u++w))) c)) r=_;rw[ec.2,ep.2.2];refine(UT h (.ak _ _ c r c0 c1 r0 r1 (h.Kr q.1 q.2.1) (h.Kr qy.1 qy.2.1)) ?_).2 ?_
   ·rw[<-List.append_assoc];exact .ak _ y c r c0 c1 r0 r1 Lv hy
   ·rw[<-List.append_assoc];exact q.2.2.symm.ak qy.2.2.symm c0 c1 r0 r1 Lv (h.Kr qy.1 qy.2.1)
  have:=Wd.call (M:=(cO A L ws).eV) (gN A L ws (u++w)) c (gN A L ws y) r (gN A L ws (u++(w++c::(y ++ [A.c+A.i+r])))) y [] c0 c1 r0 r1 (by rw[show((cO A L ws).eV.call (gN A L ws (u++w)) c).1=0 from ec.1];exact hb) (by rw[e];exact .nil _)
  exact this
theorem UZ (h:iy A L ws){w:List Int}(hw:Ww A w):ix (cO A L ws).accept (gN A L ws w)=true↔L w:=by
 have q:=rS h hw;show ix ((List.range ws.length).map λ(i:Nat)=>@decide (L (ix ws (i:Int))) (Classical.propDecidable _)) _=true↔_;rw[ib q.1 q.2.1,show(((gN A L ws w).toNat:Nat):Int)=gN A L ws w by omega]
 rw[@decide_eq_true_eq _ (Classical.propDecidable _)];exact q.2.2.acc.symm
end
end Ab
namespace Ab
abbrev ao.eD (n:ao):kL:=⟨n.calls,n.aj,n.aq⟩
def ao.cp (n:ao) (w:List Int):Prop:=∃t,Wd n.eV n.start t w/\ix n.accept t=true
theorem ao.Ok.eD{n:ao}(h:n.Ok):n.eD.Ok:=⟨⟨h.calls.1,h.aj.1,h.aq.1⟩,h.syms.2⟩
def vP (n:ao) (k:List Int):Prop:=k.length=n.bj.length/\∃w,Ww n.eD w/\∀j:Nat,j<n.bj.length->Wd n.eV (ix n.bj (j:Int)) (ix k (j:Int)) w
theorem am3{n:ao}(hn:n.Ok){plc m:List Int}(hp:AU n plc){t c r:Int}{u:List Int}(t0:0<=t) (t1:t<(n.accept.length:Int)) (c0:0<=c) (c1:c<n.calls) (r0:0<=r) (r1:r<n.aq) (hm:∀j:Nat,j<n.bj.length->Wd n.eV (ix n.bj (j:Int)) (ix m (j:Int)) u):Wd n.eV t (n.qn plc m c r t) (c::(u ++ [n.calls+n.aj+r])):=by
 have il:ix (ix n.call t) c∈n.bj:=by
  have rL:=(hn.row t t0 t1).1;have ln:=hn.lens;exact rK.2 (.inr ⟨_,aZ t0 (by omega),aZ c0 (by omega)⟩)
 obtain⟨j,W7,Lj⟩:=fJ.1 il;have gV:=hp.EF j W7;rw[aS W7,Lj]at gV;have hw:=hm j W7;rw[aS W7,Lj]at hw;have:=Wd.call (M:=n.eV) t c (ix m (j:Int)) r _ u [] c0 c1 r0 r1 hw (.nil _);rw[show n.qn plc m c r t=n.eV.pop (ix m (j:Int)) (n.eV.call t c).2 r from by
  unfold ao.qn;rw[gV];rfl]
 exact this
theorem am4{n:ao}(hn:n.Ok){k:List Int}(h:vP n k):n.tu k:=λs hs=>by
 obtain⟨hl,w,_,hw⟩:=h;obtain⟨j,hj,rfl⟩:=fJ.1 hs;have:=hw j (by omega)
 rw[aS hj,aS (show j<n.bj.length by omega)]at this
 exact this.range (R9 hn) (uT hn _ (List.getElem_mem _))
theorem am5{n:ao}(hn:n.Ok){plc:List Int}(hp:AU n plc):Gi (vP n) n plc:=by
 refine⟨λk hk i i0 i1=>?_,λk m hk hm c r c0 c1 r0 r1=>?_⟩
 ·obtain⟨hl,w,hw,hj⟩:=hk
  refine⟨by simpa using hl,_,.aQ w i i0 i1 hw,λj Lq=>?_⟩
  rw[jt (by omega) (by omega)]
  exact(hj j Lq).app (.aQ _ i _ [] i0 i1 (.nil _))
 ·have hr:=am4 hn hk
  obtain⟨hl,w,hw,hj⟩:=hk;obtain⟨lU,u,hu,Lj⟩:=hm;refine⟨by simpa using hl,_,.ak w u c r c0 c1 r0 r1 hw hu,λj Lq=>?_⟩
  rw[jt (by omega) (by omega)]
  have Ft:=hr _ (aZ (l:=k) (n:=(j:Int)) (by omega) (by omega))
  exact(hj j Lq).app (am3 hn hp Ft.1 Ft.2 c0 c1 r0 r1 Lj)
theorem am6{n:ao}:vP n n.bj:=⟨rfl,[],.nil,λj _=>.nil _⟩
section
variable{n:ao}{D:Vd}{cls:List Int}{k:Nat}
theorem Dv.ww (hd:D.n=n){x:Int}{w:List Int}(h:Dv D x w):Ww n.eD w:=by
 subst hd
 induction h with
 |nil=>exact .nil
 |aQ x i w i0 i1 _ ih=>exact .aQ w i i0 i1 ih
 |ak x c y r w u c0 c1 r0 r1 _ _ lV mI=>exact .ak w u c r c0 c1 r0 r1 lV mI
theorem tG (hd:D.n=n){w:List Int}(h:Ww n.eD w):∃x,Dv D x w:=by
 subst hd
 induction h with
 |nil=>exact⟨0,.nil⟩
 |aQ w i i0 i1 _ ih=>obtain⟨x,hx⟩:=ih;exact⟨_,.aQ x i w i0 i1 hx⟩
 |ak w u c r c0 c1 r0 r1 _ _ lV mI=>
  obtain⟨x,hx⟩:=lV;obtain⟨y,hy⟩:=mI;exact⟨_,.ak x c y r w u c0 c1 r0 r1 hx hy⟩
theorem xO.word (h:xO (vP n) n D cls k){x:Nat}(hx:x<D.K.length):∃w,Dv D x w:=by
 have hn:=h.d.n;have lr : n=D.n:=hn.symm;obtain⟨hl,w,hw,hj⟩:=h.d.v.kx hx;obtain⟨y,hy⟩:=tG hn hw;have hD:=pB h.d.v h.f;have ry:=hy.fu hD;have ky:=h.d.v.ok.kx (x:=y.toNat) (by omega)
 refine⟨w,?_⟩;have e:ix D.K (x:Int)=ix D.K (y.toNat:Int):=by
  refine zy (by rw[ky.2,hl,hn]) λj j0 j1=>?_
  have h1:=hj j.toNat (by omega)
  have h2:=hy.wd h.d.v h.f h.d.p j.toNat (by rw[hn];omega)
  rw[show((j.toNat:Nat):Int)=j by omega]at h1 h2
  rw[show((y.toNat:Nat):Int)=y by omega]
  rw[hn]at h2;exact Wd.qK (M:=n.eV) (hn▸h.d.v.ok.ok.m0) h1 h2
 rw[aS hx,aS (show y.toNat<D.K.length by omega)]at e
 have:=(List.getElem_inj h.d.v.nd).1 e;rw[show(x:Int)=y by omega]
 exact hy
theorem xO.cp (h:xO (vP n) n D cls k){x:Int}{w:List Int}(hx:Dv D x w):n.cp w↔D.ac D.iO x=true:=by
 have hn:=h.d.n;have hs:D.n.start∈D.n.bj:=rK.2 (.inl rfl);obtain⟨m,vQ,GC⟩:=fJ.1 hs;have GD:=h.d.p.EF m vQ;have hw:=hx.wd h.d.v h.f h.d.p m vQ;rw[aS vQ,GC]at GD hw;have e:D.ac D.iO x=ix D.n.accept (ix (ix D.K x) (m:Int)):=by unfold Vd.ac Vd.iO;rw[GD]
 rw[e];have au:=h.d.v.ok.ok;subst hn;constructor
 ·rintro⟨t,ht,ha⟩
  rw[hw.qK au.m0 ht];exact ha
 ·exact λha=>⟨_,hw,ha⟩
theorem xO.alk (h:xO (vP n) n D cls k){x y:Int}{u v:List Int}(hx:Dv D x u) (hy:Dv D y v):jQ n.eD n.cp u v↔ix cls x=ix cls y:=by
 have hD:=pB h.d.v h.f;have hn:=h.d.n;have key:∀{x y:Int},w4 D D.iO x y->∀u v,Dv D x u->Dv D y v->Sep n.eD n.cp u v:=by
  intro x y hs
  induction hs with
  |acc x y ha=>
   intro u v hu hv;refine .acc _ _ λe=>ha ?_;rw[h.cp hu,h.cp hv]at e;cases h1:D.ac D.iO x<;>cases h2:D.ac D.iO y<;>simp_all
  |aQ x y i i0 i1 _ ih=>
   intro u v hu hv;have:=ih _ _ (.aQ x i u i0 i1 hu) (.aQ y i v i0 i1 hv);rw[hn]at this i1;exact .aQ _ _ i i0 i1 this
  |bl x y c z r c0 c1 z0 z1 r0 r1 _ ih=>
   intro u v hu hv;obtain⟨w,hw⟩:=h.word (x:=z.toNat) (by omega)
   rw[show((z.toNat:Nat):Int)=z by omega]at hw
   have:=ih _ _ (.ak x c z r u w c0 c1 r0 r1 hu hw) (.ak y c z r v w c0 c1 r0 r1 hv hw);rw[hn]at this c1 r1;exact .bl _ _ w c r c0 c1 r0 r1 (hw.ww hn) this
  |br x y c z r c0 c1 z0 z1 r0 r1 _ ih=>
   intro u v hu hv;obtain⟨w,hw⟩:=h.word (x:=z.toNat) (by omega)
   rw[show((z.toNat:Nat):Int)=z by omega]at hw
   have:=ih _ _ (.ak z c x r w u c0 c1 r0 r1 hw hu) (.ak z c y r w v c0 c1 r0 r1 hw hv);rw[hn]at this c1 r1;exact .br _ _ w c r c0 c1 r0 r1 (hw.ww hn) this
 have back:∀{u v:List Int},Sep n.eD n.cp u v->∀x y,Dv D x u->Dv D y v->ix cls x ≠ ix cls y:=by
  intro u v hs
  induction hs with
  |acc u v ha=>
   intro x y hu hv e;have rx:=hu.fu hD;have ry:=hv.fu hD;have:=h.c.c.ac x.toNat y.toNat (by omega) (by omega) (by rw[show((x.toNat:Nat):Int)=x by omega,show((y.toNat:Nat):Int)=y by omega];exact e)
   rw[show((x.toNat:Nat):Int)=x by omega,show((y.toNat:Nat):Int)=y by omega]at this
   exact ha (by rw[h.cp hu,h.cp hv,this])
  |aQ u v i i0 i1 _ ih=>
   intro x y hu hv e;have rx:=hu.fu hD;have ry:=hv.fu hD;have hg:=h.c.JA x.toNat y.toNat (by omega) (by omega) (by rw[show((x.toNat:Nat):Int)=x by omega,show((y.toNat:Nat):Int)=y by omega];exact e)
   rw[show((x.toNat:Nat):Int)=x by omega,show((y.toNat:Nat):Int)=y by omega]at hg
   have i1' : i<D.n.aj:=by rw[hn];exact i1
   have h1:=Dv.aQ x i u i0 i1' hu;have h2:=Dv.aQ y i v i0 i1' hv;rw[hn]at h1 h2;exact ih _ _ h1 h2 (hg.i i i0 i1')
  |bl u v w c r c0 c1 r0 r1 hw _ ih=>
   intro x y hu hv e;have rx:=hu.fu hD;have ry:=hv.fu hD;have hg:=h.c.JA x.toNat y.toNat (by omega) (by omega) (by rw[show((x.toNat:Nat):Int)=x by omega,show((y.toNat:Nat):Int)=y by omega];exact e)
   rw[show((x.toNat:Nat):Int)=x by omega,show((y.toNat:Nat):Int)=y by omega]at hg
   obtain⟨z,hz⟩:=tG hn hw;have rz:=hz.fu hD;have Br : c<D.n.calls:=by rw[hn];exact c1
   have Ks : r<D.n.aq:=by rw[hn];exact r1
   have h1:=Dv.ak x c z r u w c0 Br r0 Ks hu hz;have h2:=Dv.ak y c z r v w c0 Br r0 Ks hv hz;rw[hn]at h1 h2;exact ih _ _ h1 h2 (hg.l c z r c0 Br rz.1 rz.2 r0 Ks)
  |br u v w c r c0 c1 r0 r1 hw _ ih=>
   intro x y hu hv e;have rx:=hu.fu hD;have ry:=hv.fu hD;have hg:=h.c.JA x.toNat y.toNat (by omega) (by omega) (by rw[show((x.toNat:Nat):Int)=x by omega,show((y.toNat:Nat):Int)=y by omega];exact e)
   rw[show((x.toNat:Nat):Int)=x by omega,show((y.toNat:Nat):Int)=y by omega]at hg
   obtain⟨z,hz⟩:=tG hn hw;have rz:=hz.fu hD;have Br : c<D.n.calls:=by rw[hn];exact c1
   have Ks : r<D.n.aq:=by rw[hn];exact r1
   have h1:=Dv.ak z c x r w u c0 Br r0 Ks hz hu;have h2:=Dv.ak z c y r w v c0 Br r0 Ks hz hv;rw[hn]at h1 h2;exact ih _ _ h1 h2 (hg.r c z r c0 Br rz.1 rz.2 r0 Ks)
 constructor
 ·intro ha
  refine eS λe=>ha ?_;have rx:=hx.fu hD;have ry:=hy.fu hD;have:=h.c.c.sep x.toNat y.toNat (by omega) (by omega)
  rw[show((x.toNat:Nat):Int)=x by omega,show((y.toNat:Nat):Int)=y by omega]at this
  exact key (this e) _ _ hx hy
 ·exact λe hs=>back hs _ _ hx hy e
structure Lw (D:Vd) (cls:List Int) (k:Nat) (l:List eO):Prop where
 len:l.length=k
 cl:∀i:Nat,i<k->(ix l (i:Int)).1=i
 w:∀i:Nat,i<k->(∃x,Dv D x (ix l (i:Int)).2.2/\ix cls x=i)/\∀y v,Dv D y v->ix cls y=i->aV (ix l (i:Int)).2.2 v<=0
theorem xO.U0 (h:xO (vP n) n D cls k):∃l,Lw D cls k l:=by
 have hD:=pB h.d.v h.f;have hA:=h.d.v.ok.ok.eD;have:∀i:Nat,i<k->∃w,(∃x,Dv D x w/\ix cls x=i)/\∀v,(∃y,Dv D y v/\ix cls y=i)->aV w v<=0:=λi hi=>by
  have L8:=h.c.c.can.occ (i:Int) (by omega) (by omega)
  obtain⟨x,hx,e⟩:=fJ.1 L8;obtain⟨w,hw⟩:=h.word (x:=x) (by rw[<-h.c.c.len];exact hx)
  exact amY (P:=λw=>∃x,Dv D x w/\ix cls x=i) (λw ⟨x,hx,_⟩=>(hx.ww rfl).sy hA) ⟨x,hw,by rw[aS hx];exact e⟩
 refine⟨(List.range k).map λ(i:Nat)=>((i:Int),0,if hi:i<k then Classical.choose (this i hi)else[]),by simp,λi hi=>?_,λi hi=>?_⟩
 ·rw[ib (by omega) (by omega)];simp
 ·rw[ib (by omega) (by omega)]
  dsimp only;rw[Int.toNat_natCast,dif_pos hi];have:=Classical.choose_spec (this i hi);exact⟨this.1,λy v hy e=>this.2 v ⟨y,hy,e⟩⟩
theorem Lw.Fv (h:xO (vP n) n D cls k){l:List eO}(hl:Lw D cls k l):iy n.eD n.cp ((dq l).map λc=>c.2.2):=by
 have hn:=h.d.n;have hD:=pB h.d.v h.f;have hp:=qv l;have jh:(l.map λc=>c.2.2).Nodup:=by
  rw[List.Nodup,rr];intro i j hi hj qk e;simp only[dR]at hi hj;simp only[oN]at e;rw[<-aS hi,<-aS hj]at e;have hlen:=hl.len;obtain⟨⟨x,hx,ex⟩,_⟩:=hl.w i (by omega)
  obtain⟨⟨y,hy,ey⟩,_⟩:=hl.w j (by omega)
  rw[e]at hx;rw[Dv.qK h.d.v h.f h.d.p hx hy,ey]at ex;omega
 have eX:∀w,w∈((dq l).map λc=>c.2.2)->∃i:Nat,i<k/\(ix l (i:Int)).2.2=w:=λw hw=>by
  obtain⟨c,hc,rfl⟩:=cR.1 hw;obtain⟨i,hi,e⟩:=fJ.1 (hp.mem_iff.1 hc);exact⟨i,by rw[<-hl.len];exact hi,by rw[aS hi,e]⟩
 refine⟨?_,λw hw=>?_,λw hw v hv ha=>?_,λv hv=>?_⟩
 ·rw[List.pairwise_map]
  exact Ka jh
 ·obtain⟨i,hi,rfl⟩:=eX w hw
  obtain⟨⟨x,hx,_⟩,_⟩:=hl.w i hi;exact hx.ww hn
 ·obtain⟨i,hi,rfl⟩:=eX w hw
  obtain⟨⟨x,hx,ex⟩,ma⟩:=hl.w i hi;obtain⟨y,hy⟩:=tG hn hv;exact ma y v hy (by rw[<-(h.alk hx hy).1 ha,ex])
 ·obtain⟨y,hy⟩:=tG hn hv
  have ry:=hy.fu hD;have hc:=h.c.c.can.fu _ (aZ (l:=cls) ry.1 (by rw[h.c.c.len];exact ry.2))
  obtain⟨⟨x,hx,ex⟩,ma⟩:=hl.w (ix cls y).toNat (by omega)
  refine⟨_,cR.2 ⟨ix l ((ix cls y).toNat:Int),hp.mem_iff.2 (aZ (by omega) (by have:=hl.len;omega)),rfl⟩,?_⟩
  exact(h.alk hy hx).2 (by rw[ex];omega)
end
open Classical in
noncomputable def A7 (A:kL) (L:List Int->Prop) (ws:List (List Int)):ao×Int:=
 if 128<ws.length\/128<ws.length*A.c.toNat then(zN,11)
 else if ∃w∈ws,1024<w.length then(zN,3)
 else(cO A L ws,0)
theorem Lw.Kt{D:Vd}{cls:List Int}{k:Nat}{l:List eO}(h:Lw D cls k l):((dq l).map λc=>c.2.2).length=k:=by
 rw[dR,(qv l).length_eq,h.len]
theorem xP.U0{n:ao}{D:Vd}{cls:List Int}{k:Nat}{S:Fd}{l:List eO}(h:xP (vP n) n D cls k S l) (hn:l.any neg=false):Lw D cls k l:=by
 have hv:∀i:Nat,i<l.length->0<=(ix l (i:Int)).2.1:=λi hi=>by
  have:=List.any_eq_false.1 hn _ (aZ (l:=l) (n:=(i:Int)) (by omega) (by omega))
  simp[neg]at this;exact this
 have hlen:=h.l.len;have hD:=pB h.c.d.v h.c.f;refine⟨hlen,h.l.cl,λi hi=>?_⟩;obtain⟨a1,a2,a3,a4⟩:=h.wd hi (hv i (by omega))
 refine⟨⟨_,a3.1,a2⟩,λy v hy ec=>?_⟩;have ry:=hy.fu hD;obtain⟨u,hu,oE⟩:=TY hD (by have:=h.c.d.v.ok.ok.syms;omega) hy
 have mq:=hu.2 v hy
 by_cases hs:u.length<=1024
 ·have hf:ix S.F y=true:=(h.s.fd y ry.1 (by rw[h.s.l];exact ry.2)).2 ⟨u,hu,by omega⟩
  have hw:=h.s.lw y u hu (by omega)
  have:=(h.l.yes i hi (hv i (by omega))).2 y.toNat (by omega) (by rw[show((y.toNat:Nat):Int)=y by omega];exact ec) (by rw[show((y.toNat:Nat):Int)=y by omega];exact hf)
  rw[show((y.toNat:Nat):Int)=y by omega]at this
  unfold Fd.wd at this;rw[hw]at this;exact dJ.trans _ _ _ this mq
 ·refine dJ.trans _ _ _ ?_ mq
  unfold aV;rw[ab (by omega)];omega
theorem am7{n:ao}{D:Vd}{cls:List Int}{k:Nat}{S:Fd}{l:List eO}{st:List Int}(h:xP (vP n) n D cls k S l) (hn:l.any neg=false) (bR:st.length=l.length) (hs:∀i:Nat,i<l.length->ix st (vO (dq l) i)=i):tC D cls (dq l) st=cO n.eD n.cp ((dq l).map λc=>c.2.2):=by
 have JL:=h.U0 hn;have hR:=JL.Fv h.c;have hp:=qv l;have gV:(dq l).length=l.length:=hp.length_eq;have hlen:=h.l.len;have hD:=pB h.c.d.v h.c.f;have rP:=h.c.d.n;have hv:∀i:Nat,i<l.length->0<=(ix l (i:Int)).2.1:=λi hi=>by
  have:=List.any_eq_false.1 hn _ (aZ (l:=l) (n:=(i:Int)) (by omega) (by omega))
  simp[neg]at this;exact this
 generalize W8:((dq l).map λc=>c.2.2)=ws at *;have xM:ws.length=l.length:=by rw[<-W8,dR,gV]
 have hwi:∀i:Nat,i<l.length->ix ws (i:Int)=(ix (dq l) (i:Int)).2.2:=λi hi=>by rw[<-W8];exact jt (by omega) (by omega)
 -- each state
 have eX:∀i:Nat,i<l.length->Dv D (xa (dq l) i) (ix ws (i:Int))/\ix cls (xa (dq l) i)=vO (dq l) i:=λi hi=>by
  have hm:=hp.mem_iff.1 (aZ (l:=dq l) (n:=(i:Int)) (by omega) (by omega))
  obtain⟨j,hj,e⟩:=fJ.1 hm;rw[<-aS hj]at e;obtain⟨a1,a2,a3,a4⟩:=h.wd (i:=j) (by omega) (hv j hj)
  rw[hwi i hi];unfold xa vO;rw[<-e,a2,h.l.cl j (by omega)]
  exact⟨a3.1,rfl⟩
 have L8:∀q:Int,0<=q->q<(k:Int)->∃p:Nat,p<l.length/\vO (dq l) p=q:=λq q0 q1=>by
  have hm:=hp.mem_iff.2 (aZ (l:=l) (n:=q) q0 (by omega))
  obtain⟨p,pt,e⟩:=fJ.1 hm;refine⟨p,by omega,?_⟩
  unfold vO;rw[aS pt,e];have:=h.l.cl q.toNat (by omega)
  rw[show((q.toNat:Nat):Int)=q by omega]at this
  exact this
 have U7:∀y v,Dv D y v->WV st cls y=gN n.eD n.cp ws v:=λy v hy=>by
  have ry:=hy.fu hD;have hc:=h.c.c.c.can.fu _ (aZ (l:=cls) ry.1 (by rw[h.c.c.c.len];exact ry.2))
  obtain⟨p,jA,nP⟩:=L8 _ hc.1 hc.2;unfold WV;rw[<-nP,hs p jA]
  symm
  refine xh hR (hy.ww rP) (by omega) (by omega) ?_
  obtain⟨b1,b2⟩:=eX p jA;exact(h.c.alk hy b1).2 (by rw[b2,nP])
 have U8:D.n.aA l.length=n.eD.aA ws.length:=by
  show max 1 (l.length*D.n.calls.toNat)=max 1 (ws.length*n.calls.toNat);rw[xM,rP]
 have e1:(List.range l.length).map (λi=>D.ac D.iO (xa (dq l) i))=(List.range ws.length).map λ(i:Nat)=>@decide (n.cp (ix ws (i:Int))) (Classical.propDecidable _):=by
  rw[xM];refine gf λi hi=>?_;have hi:=cy.1 hi;have hl:=h.c.cp (eX i hi).1;cases ha:D.ac D.iO (xa (dq l) i)with
  |true=>rw[ha]at hl;exact(@decide_eq_true _ (Classical.propDecidable _) (hl.2 rfl)).symm
  |false=>rw[ha]at hl;exact(@decide_eq_false _ (Classical.propDecidable _) λa=>by simp[hl]at a).symm
 have e2:(D.n.dO l.length l.length).call=List.replicate ws.length (List.replicate n.calls.toNat 0):=by rw[xM,rP];rfl
 have e3:(D.n.dO l.length l.length).push=(List.range ws.length).map λ(s:Nat)=>(List.range n.calls.toNat).map λ(c:Nat)=>(s:Int)*n.calls+(c:Int):=by rw[xM,rP];rfl
 have e4:(List.range l.length).map (λi=>(List.range D.n.aj.toNat).map λj=>Fe D cls (dq l) st i j)=(List.range ws.length).map λ(i:Nat)=>(List.range n.aj.toNat).map λ(j:Nat)=>gN n.eD n.cp ws (ix ws (i:Int) ++ [n.calls+(j:Int)]):=by
  rw[xM];refine gf λi hi=>?_;have hi:=cy.1 hi;rw[rP];refine gf λj hj=>?_;have hj:=cy.1 hj;have hd:=Dv.aQ _ (j:Int) _ (by omega) (by rw[rP];omega) (eX i hi).1
  have:=U7 _ _ hd;rw[rP]at this;exact this
 have e5:(List.range l.length).map (λi=>(List.range (D.n.aA l.length)).map λg=>(List.range D.n.aq.toNat).map λr=>uX D cls (dq l) st i g r)=(List.range ws.length).map λ(i:Nat)=>(List.range (n.eD.aA ws.length)).map λ(g:Nat)=>(List.range n.aq.toNat).map λ(r:Nat)=>if n.calls.toNat=0 then 0 else gN n.eD n.cp ws (ix ws ((g/n.calls.toNat:Nat):Int)++((g%n.calls.toNat:Nat):Int)::(ix ws (i:Int) ++ [n.calls+n.aj+(r:Int)])):=by
  rw[U8,xM];refine gf λi hi=>?_;have hi:=cy.1 hi;refine gf λg hg=>?_;have hg:=cy.1 hg;rw[rP];refine gf λr hr=>?_;have hr:=cy.1 hr;unfold uX;rw[rP]
  by_cases hc:n.calls.toNat=0
  ·rw[ab hc,ab hc]
  ·rw[aa hc,aa hc]
   have hm:=Nat.mod_lt g (show 0<n.calls.toNat by omega)
   have xy : g<max 1 (l.length*n.calls.toNat):=hg;have h0:1<=l.length*n.calls.toNat:=Nat.mul_pos (by omega) (by omega)
   have JR:g/n.calls.toNat<l.length:=by
    rw[Nat.div_lt_iff_lt_mul (by omega)]
    omega
   have hd:=Dv.ak _ ((g%n.calls.toNat:Nat):Int) _ (r:Int) _ _ (by omega) (by rw[rP];omega) (by omega) (by rw[rP];omega) (eX _ JR).1 (eX i hi).1
   have:=U7 _ _ hd;rw[rP]at this;exact this
 have e6:((D.n.aA (dq l).length:Nat):Int)=((n.eD.aA ws.length:Nat):Int):=by rw[gV,U8]
 unfold tC cO;rw[gV]at *;rw[e1,e2,e3,e4,e5,e6,rP]
theorem A6.out{n r:ao}{e:Int}(h:A6 (vP n) n r e) (hv:n.bO=0) (hb:∀D,Lu (vP n) n D->D.K.length<=512):∃ws,iy n.eD n.cp ws/\(r,e)=A7 n.eD n.cp ws:=by
 cases h with
 |inv h=>exact absurd hv h
 |many D _ hd hk=>have:=hb D hd;omega
 |dE D cls k _ hc hk=>
  obtain⟨l,hl⟩:=hc.U0;refine⟨_,hl.Fv hc,?_⟩;unfold A7;rw[hl.Kt,ab hk]
 |Kj D cls k S l _ hL hn=>
  obtain⟨l', ct⟩:=hL.c.U0;refine⟨_,ct.Fv hL.c,?_⟩;have hD:=pB hL.c.d.v hL.c.f;unfold A7;have hkb:=hL.kb;rw[ct.Kt,aa (by show ¬(128<k\/128<k*n.calls.toNat);omega),ab]
  obtain⟨c,hc,U9⟩:=List.any_eq_true.1 hn;simp[neg]at U9;obtain⟨i,hi,e⟩:=fJ.1 hc;rw[<-aS hi]at e;have hlen:=hL.l.len;obtain⟨_,oB⟩:=hL.l.no i (by omega) (by rw[e];exact U9)
  obtain⟨⟨x,hx,ex⟩,ma⟩:=ct.w i (by omega)
  have rx:=hx.fu hD;refine⟨_,cR.2 ⟨ix l' (i:Int),(qv l').mem_iff.2 (aZ (by omega) (by have:=ct.len;omega)),rfl⟩,eS λhsm=>?_⟩
  have hf:=(hL.s.fd x rx.1 (by rw[hL.s.l];exact rx.2)).2 ⟨_,⟨hx,λv hv=>ma x v hv ex⟩,by omega⟩
  have:=oB x.toNat (by omega) (by rw[show((x.toNat:Nat):Int)=x by omega];exact ex)
  rw[show((x.toNat:Nat):Int)=x by omega,hf]at this
  simp at this
 |ok D cls k S l st _ hL hn h1 h2=>
  have JL:=hL.U0 hn;refine⟨_,JL.Fv hL.c,?_⟩;have hkb:=hL.kb;unfold A7;rw[JL.Kt,aa (by show ¬(128<k\/128<k*n.calls.toNat);omega),aa,am7 hL hn h1 h2]
  rintro⟨w,hw,aK⟩;obtain⟨c,hc,rfl⟩:=cR.1 hw;obtain⟨i,hi,e⟩:=fJ.1 ((qv l).mem_iff.1 hc);have hlen:=hL.l.len;have oW:=List.any_eq_false.1 hn _ (aZ (l:=l) (n:=(i:Int)) (by omega) (by omega))
  simp[neg]at oW;have:=(hL.wd (i:=i) (by omega) oW).2.2.2
  rw[aS hi,e]at this;omega
def tH (m:Nat):Nat->List (List Int)
 |0=>[[]]
 |e+1=>(List.range m).flatMap λ(x:Nat)=>(tH m e).map λv=>(x:Int)::v
theorem Va{m:Nat}:∀e,(tH m e).length=m^e
 |0=>rfl
 |e+1=>by
  have ih:=Va (m:=m) e;have:∀k:Nat,((List.range k).flatMap λ(x:Nat)=>(tH m e).map λv=>(x:Int)::v).length=k*m^e:=by
   intro k
   induction k with
   |zero=>simp
   |succ k ihk=>rw[mE,List.flatMap_append,bu,ihk,fx];simp[ih]
  unfold tH;rw[this m,Nat.pow_succ,Nat.mul_comm]
theorem Vb{m:Nat}:∀{e:Nat}{k:List Int},k.length=e->(∀x∈k,0<=x/\x<(m:Int))->k∈tH m e
 |0,[],_,_=>by simp[tH]
 |e+1,x::k,hl,h=>by
  have hx:=h x (by simp)
  unfold tH;rw[rq];exact⟨x.toNat,by rw[cy];omega,cR.2 ⟨k,Vb (by simpa using hl) λy hy=>h y (by simp[hy]),by rw[show((x.toNat:Nat):Int)=x by omega]⟩⟩
theorem Lu.few{n:ao}{D:Vd}(h:Lu (vP n) n D):D.K.length<=n.accept.length^n.bj.length:=by
 have:=UM (l:=D.K) (L:=tH n.accept.length n.bj.length) h.v.nd λk hk=>by
  obtain⟨h1,h2⟩:=h.v.ok.st k hk;rw[h.n]at h1 h2;exact Vb h2 h1
 rw[Va]at this;exact this
end Ab
