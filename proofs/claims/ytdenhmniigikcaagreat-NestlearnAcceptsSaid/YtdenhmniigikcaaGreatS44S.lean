/- Well-matched words that a language tells apart, and the least ones. The single-entry automaton of a language. Single: vectors, classes and the language. Single answers the automaton of the language. Condition: none. -/
import Derived.Test.YtdenhmniigikcaaGreatS44N
set_option linter.all false
set_option maxRecDepth 100000
set_option maxHeartbeats 4000000
namespace Ab
structure kC where
 c:Int
 i:Int
 r:Int
inductive Ww (A:kC):List Int->Prop
 |nil:Ww A []
 |aR (w:List Int) (i:Int):0<=i->i<A.i->Ww A w->Ww A (w ++ [A.c+i])
 |al (w u:List Int) (c r:Int):0<=c->c<A.c->0<=r->r<A.r->Ww A w->Ww A u->Ww A (w++c::(u ++ [A.c+A.i+r]))
inductive Sep (A:kC) (L:List Int->Prop):List Int->List Int->Prop
 |acc (u v:List Int):¬(L u↔L v)->Sep A L u v
 |aR (u v:List Int) (i:Int):0<=i->i<A.i->Sep A L (u ++ [A.c+i]) (v ++ [A.c+i])->Sep A L u v
 |bl (u v y:List Int) (c r:Int):0<=c->c<A.c->0<=r->r<A.r->Ww A y->Sep A L (u++c::(y ++ [A.c+A.i+r])) (v++c::(y ++ [A.c+A.i+r]))->Sep A L u v
 |br (u v y:List Int) (c r:Int):0<=c->c<A.c->0<=r->r<A.r->Ww A y->Sep A L (y++c::(u ++ [A.c+A.i+r])) (y++c::(v ++ [A.c+A.i+r]))->Sep A L u v
def jS (A:kC) (L:List Int->Prop) (u v:List Int):Prop:=¬Sep A L u v
theorem Sep.ne{A:kC}{L:List Int->Prop}{u v:List Int}(h:Sep A L u v):u ≠ v:=by
 induction h with
 |acc u v h=>exact λe=>h (by rw[e])
 |aR u v i _ _ _ ih=>exact λe=>ih (by rw[e])
 |bl u v y c r _ _ _ _ _ _ ih=>exact λe=>ih (by rw[e])
 |br u v y c r _ _ _ _ _ _ ih=>exact λe=>ih (by rw[e])
theorem jS.refl{A:kC}{L:List Int->Prop}(u:List Int):jS A L u u:=λh=>h.ne rfl
theorem Sep.symm{A:kC}{L:List Int->Prop}{u v:List Int}(h:Sep A L u v):Sep A L v u:=by
 induction h with
 |acc u v h=>exact .acc _ _ λe=>h e.symm
 |aR u v i h0 h1 _ ih=>exact .aR _ _ i h0 h1 ih
 |bl u v y c r h0 h1 h2 h3 hy _ ih=>exact .bl _ _ y c r h0 h1 h2 h3 hy ih
 |br u v y c r h0 h1 h2 h3 hy _ ih=>exact .br _ _ y c r h0 h1 h2 h3 hy ih
theorem jS.symm{A:kC}{L:List Int->Prop}{u v:List Int}(h:jS A L u v):jS A L v u:=λg=>h g.symm
theorem Sep.split{A:kC}{L:List Int->Prop}{u w:List Int}(h:Sep A L u w):∀v,Sep A L u v\/Sep A L v w:=by
 induction h with
 |acc u w h=>
  intro v
  by_cases e:L u↔L v
  ·exact .inr (.acc _ _ λe2=>h (e.trans e2))
  ·exact .inl (.acc _ _ e)
 |aR u w i h0 h1 _ ih=>exact λv=>(ih _).imp (.aR _ _ i h0 h1) (.aR _ _ i h0 h1)
 |bl u w y c r h0 h1 h2 h3 hy _ ih=>exact λv=>(ih _).imp (.bl _ _ y c r h0 h1 h2 h3 hy) (.bl _ _ y c r h0 h1 h2 h3 hy)
 |br u w y c r h0 h1 h2 h3 hy _ ih=>exact λv=>(ih (y++c::(v ++ [A.c+A.i+r]))).imp (.br _ _ y c r h0 h1 h2 h3 hy) (.br _ _ y c r h0 h1 h2 h3 hy)
theorem jS.trans{A:kC}{L:List Int->Prop}{u v w:List Int}(h:jS A L u v) (g:jS A L v w):jS A L u w:=λk=>(k.split v).elim h g
theorem jS.acc{A:kC}{L:List Int->Prop}{u v:List Int}(h:jS A L u v):L u↔L v:=eU λe=>h (.acc _ _ e)
theorem jS.aR{A:kC}{L:List Int->Prop}{u v:List Int}(h:jS A L u v){i:Int}(h0:0<=i) (h1:i<A.i):jS A L (u ++ [A.c+i]) (v ++ [A.c+i]):=λk=>h (.aR _ _ i h0 h1 k)
theorem jS.bl{A:kC}{L:List Int->Prop}{u v y:List Int}(h:jS A L u v){c r:Int}(h0:0<=c) (h1:c<A.c) (h2:0<=r) (h3:r<A.r) (hy:Ww A y):jS A L (u++c::(y ++ [A.c+A.i+r])) (v++c::(y ++ [A.c+A.i+r])):=λk=>h (.bl _ _ y c r h0 h1 h2 h3 hy k)
theorem jS.br{A:kC}{L:List Int->Prop}{u v y:List Int}(h:jS A L u v){c r:Int}(h0:0<=c) (h1:c<A.c) (h2:0<=r) (h3:r<A.r) (hy:Ww A y):jS A L (y++c::(u ++ [A.c+A.i+r])) (y++c::(v ++ [A.c+A.i+r])):=λk=>h (.br _ _ y c r h0 h1 h2 h3 hy k)
theorem jS.al{A:kC}{L:List Int->Prop}{u v x y:List Int}(h:jS A L u v) (g:jS A L x y){c r:Int}(h0:0<=c) (h1:c<A.c) (h2:0<=r) (h3:r<A.r) (hv:Ww A v) (hx:Ww A x):jS A L (u++c::(x ++ [A.c+A.i+r])) (v++c::(y ++ [A.c+A.i+r])):=(h.bl h0 h1 h2 h3 hx).trans (g.br h0 h1 h2 h3 hv)
theorem Ww.sym{A:kC}(hA:0<=A.c/\0<=A.i/\0<=A.r){w:List Int}(h:Ww A w):∀a∈w,0<=a/\a<A.c+A.i+A.r:=by
 induction h with
 |nil=>simp
 |aR w i h0 h1 _ ih=>
  intro a ha;rcases eH.1 ha with ha|ha
  ·exact ih a ha
  ·simp at ha;omega
 |al w u c r h0 h1 h2 h3 _ _ lZ mM=>
  intro a ha;simp only[eH,cD,List.not_mem_nil,or_false]at ha;rcases ha with ha|rfl|ha|rfl
  ·exact lZ a ha
  ·omega
  ·exact mM a ha
  ·omega
structure kC.Ok (A:kC):Prop where
 p:0<=A.c/\0<=A.i/\0<=A.r
 s:A.c+A.i+A.r<=64
theorem Ww.sy{A:kC}(hA:A.Ok){w:List Int}(h:Ww A w):Ab.sy w:=λa ha=>by
 have:=h.sym hA.p a ha;have:=hA.s;omega
theorem an7{P:List Int->Prop}(hP:∀w,P w->Ab.sy w){w:List Int}(hw:P w):∃v,P v/\∀u,P u->aW v u<=0:=by
 have:∀(n:Nat) (w:List Int),fA w<=n->P w->∃v,P v/\∀u,P u->fA v<=fA u:=by
  intro n
  induction n with
  |zero=>exact λw h hw=>⟨w,hw,λu _=>by omega⟩
  |succ n ih=>
   intro w h hw
   by_cases hx:∃u,P u/\fA u<fA w
   ·obtain⟨u,h1,h2⟩:=hx
    exact ih u (by omega) h1
   ·exact⟨w,hw,λu hu=>by
     refine eU λhc=>hx ⟨u,hu,by omega⟩⟩
 obtain⟨v,v1,v2⟩:=this _ w (bA _) hw;exact⟨v,v1,λu hu=>(xd (hP v v1) (hP u hu)).2 (v2 u hu)⟩
structure iE (A:kC) (L:List Int->Prop) (ws:List (List Int)):Prop where
 Ba:ws.Pairwise λa b=>aW a b<0
 ww:∀w∈ws,Ww A w
 VC:∀w∈ws,∀v,Ww A v->jS A L w v->aW w v<=0
 all:∀v,Ww A v->∃w∈ws,jS A L v w
theorem K9{a b:List Int}(h:aW a b<=0) (g:aW b a<=0):a=b:=by
 have:=dK.gJ a b;exact dK.eq _ _ (by omega)
theorem iE.one{A:kC}{L:List Int->Prop}{ws:List (List Int)}(h:iE A L ws){v w:List Int}(hv:v∈ws) (hw:w∈ws) (e:jS A L v w):v=w:=
 K9 (h.VC v hv w (h.ww w hw) e) (h.VC w hw v (h.ww v hv) e.symm)
theorem VD:∀{a b:List (List Int)},a.Pairwise (λa b=>aW a b<0)->b.Pairwise (λa b=>aW a b<0)->(∀w,w∈a↔w∈b)->a=b
 | [],[],_,_,_=>rfl
 | [],y::b,_,_,h=>absurd ((h y).2 (by simp)) (by simp)
 |x::a,[],_,_,h=>absurd ((h x).1 (by simp)) (by simp)
 |x::a,y::b,ha,hb,h=>by
  rw[kY]at ha hb;have aK:∀u v:List Int,aW u v<0->aW v u<0->False:=λu v h1 h2=>by have:=dK.gJ u v;omega
  have e:x=y:=by
   rcases cD.1 ((h x).1 (by simp))with e|hx
   ·exact e
   ·rcases cD.1 ((h y).2 (by simp))with e|hy
    ·exact e.symm
    ·exact absurd (ha.1 y hy) λh1=>aK _ _ h1 (hb.1 x hx)
  subst e;rw[VD ha.2 hb.2 λw=>?_];constructor
  ·intro hw
   rcases cD.1 ((h w).1 (by simp[hw]))with e|uo
   ·subst e;exact absurd (ha.1 w hw) (by have:=dK.refl w;omega)
   ·exact uo
  ·intro hw
   rcases cD.1 ((h w).2 (by simp[hw]))with e|uo
   ·subst e;exact absurd (hb.1 w hw) (by have:=dK.refl w;omega)
   ·exact uo
theorem iE.qt{A:kC}{L:List Int->Prop}{a b:List (List Int)}(h:iE A L a) (g:iE A L b):a=b:=by
 have key:∀{a b:List (List Int)},iE A L a->iE A L b->∀w,w∈a->w∈b:=fun {a b} h g w hw=>by
  obtain⟨v,hv,e⟩:=g.all w (h.ww w hw);rw[K9 (h.VC w hw v (g.ww v hv) e) (g.VC v hv w (h.ww w hw) e.symm)];exact hv
 exact VD h.Ba g.Ba λw=>⟨key h g w,key g h w⟩
open Classical in
noncomputable def gS (A:kC) (L:List Int->Prop) (ws:List (List Int)) (v:List Int):Int:=(ws.findIdx λw=>decide (jS A L v w):Nat)
theorem rV{A:kC}{L:List Int->Prop}{ws:List (List Int)}(h:iE A L ws){v:List Int}(hv:Ww A v):0<=gS A L ws v/\gS A L ws v<(ws.length:Int)/\jS A L v (ix ws (gS A L ws v)):=by
 obtain⟨w,hw,e⟩:=h.all v hv;have aK:=List.findIdx_lt_length_of_exists (p:=λw=>@decide (jS A L v w) (Classical.propDecidable _)) ⟨w,hw,by simpa using e⟩
 have hg:=List.findIdx_getElem (w:=aK);unfold gS;refine⟨by omega,by omega,?_⟩
 rw[aT aK];simpa using hg
theorem xp{A:kC}{L:List Int->Prop}{ws:List (List Int)}(h:iE A L ws){v:List Int}(hv:Ww A v){i:Int}(i0:0<=i) (i1:i<(ws.length:Int)) (e:jS A L v (ix ws i)):gS A L ws v=i:=by
 obtain⟨r0,r1,r2⟩:=rV h hv;have hi:=aU i0 i1;have hr:=aU r0 r1;have:=h.one hr hi (r2.symm.trans e);have jm:ws.Nodup:=h.Ba.imp fun {a b} wL e=>by rw[e,dK.refl]at wL;omega
 rw[show gS A L ws v=((gS A L ws v).toNat:Int)by omega,show i=(i.toNat:Int)by omega]at this
 rw[aT (by omega),aT (by omega)]at this
 have:=(List.getElem_inj jm).1 this;omega
theorem VE{A:kC}{L:List Int->Prop}{ws:List (List Int)}(h:iE A L ws){u v:List Int}(hu:Ww A u) (hv:Ww A v):gS A L ws u=gS A L ws v↔jS A L u v:=by
 obtain⟨r0,r1,r2⟩:=rV h hv;constructor
 ·intro e
  obtain⟨s0,s1,s2⟩:=rV h hu;rw[e]at s2;exact s2.trans r2.symm
 ·exact λe=>xp h hu r0 r1 (e.trans r2)
end Ab
namespace Ab
theorem FY{n:ak}(h:n.Ok):n.bC=0:=by
 have hs:n.fv=0:=by
  have h1:=h.calls;have h2:=h.aj;have h3:=h.aq;have h4:=h.syms;have h5:=h.stack;have h6:=h.states;have h7:=h.start;obtain⟨l1,l2,l3,l4⟩:=h.lens;unfold ak.fv;rw[ab (by omega),ab (by omega),ab (by omega),ab (by omega),ab (by omega),ab (λe=>by rw[e]at h6;simp at h6),ab (by omega),ab (by omega),ab (by omega),ab (by omega),ab (by omega),ab (by omega),ab (by omega)]
 unfold ak.bC;rw[ab (by simpa using hs)]
 refine ES.2 λs s0 s1=>?_;obtain⟨r1,r2,r3,r4⟩:=h.row s s0 s1;unfold ak.eJ;rw[ab (by omega),ab]
 ·refine ES.2 λg g0 g1=>?_
  rw[r4]at g1;have hl:=h.EW s g s0 s1 g0 g1;unfold ak.jw;rw[ab (by simpa using hl),ab]
  rw[qo.2 λj j0 j1=>h.pop s g j s0 s1 g0 g1 j0 (by omega)]
  simp
 ·rw[qo.2 λj j0 j1=>h.call s j s0 s1 j0 (by omega),qo.2 λj j0 j1=>h.push s j s0 s1 j0 (by omega),qo.2 λj j0 j1=>h.inner s j s0 s1 j0 (by omega)]
  simp
theorem La{n:ak}(h:n.Ok) (hb:(∀l∈n.call,l.length<=100000)/\(∀l∈n.push,l.length<=100000)/\(∀l∈n.inner,l.length<=100000)/\∀l∈n.pop,l.length<=100000/\∀m∈l,m.length<=100000):n.fits:=by
 have h1:=h.calls;have h2:=h.aj;have h3:=h.aq;have h5:=h.stack;have h6:=h.states;have h7:=h.start;have inr:∀x:Int,0<=x->x<=1000->kv x=true:=λx a b=>by simp[kv];omega
 obtain⟨b1,b2,b3,b4⟩:=hb;exact⟨inr _ h1.1 (by omega),inr _ h2.1 (by omega),inr _ h3.1 (by omega),inr _ (by omega) (by omega),inr _ h7.1 (by omega),by omega,λl hl=>by have:=b1 l hl;omega,λl hl=>by have:=b2 l hl;omega,λl hl=>by have:=b3 l hl;omega,λl hl=>⟨by have:=(b4 l hl).1;omega,λm hm=>by have:=(b4 l hl).2 m hm;omega⟩⟩
theorem iu{α:Type} [Inhabited α]{N:Nat}{f:Nat->α}{s:Int}(h0:0<=s) (h1:s<(N:Int)):ix ((List.range N).map f) s=f s.toNat:=K0 h0 h1
def kC.aB (A:kC) (k:Nat):Nat:=max 1 (k*A.c.toNat)
open Classical in
noncomputable def cR (A:kC) (L:List Int->Prop) (ws:List (List Int)):ak:=⟨A.c,A.i,A.r,((A.aB ws.length:Nat):Int),0,
 (List.range ws.length).map λ(i:Nat)=>decide (L (ix ws (i:Int))),
 List.replicate ws.length (List.replicate A.c.toNat 0),
 (List.range ws.length).map λ(s:Nat)=>(List.range A.c.toNat).map λ(c:Nat)=>(s:Int)*A.c+(c:Int),
 (List.range ws.length).map λ(i:Nat)=>(List.range A.i.toNat).map λ(j:Nat)=>gS A L ws (ix ws (i:Int) ++ [A.c+(j:Int)]),
 (List.range ws.length).map λ(i:Nat)=>(List.range (A.aB ws.length)).map λ(g:Nat)=>(List.range A.r.toNat).map λ(r:Nat)=>if A.c.toNat=0 then 0 else gS A L ws (ix ws ((g/A.c.toNat:Nat):Int)++((g%A.c.toNat:Nat):Int)::(ix ws (i:Int) ++ [A.c+A.i+(r:Int)]))⟩
section
variable{A:kC}{L:List Int->Prop}{ws:List (List Int)}
theorem Lc:(cR A L ws).accept.length=ws.length/\(cR A L ws).call.length=ws.length/\(cR A L ws).push.length=ws.length/\(cR A L ws).inner.length=ws.length/\(cR A L ws).pop.length=ws.length:=by
 simp[cR]
theorem AB{s c:Int}(s0:0<=s) (s1:s<(ws.length:Int)) (c0:0<=c) (c1:c<A.c):ix (ix (cR A L ws).call s) c=0/\ix (ix (cR A L ws).push s) c=s*A.c+c:=by
 constructor
 ·show ix (ix (List.replicate ws.length (List.replicate A.c.toNat 0)) s) c=0
  rw[show s=((s.toNat:Nat):Int)by omega,show c=((c.toNat:Nat):Int)by omega,lq (by omega),lq (by omega)]
 ·show ix (ix ((List.range ws.length).map λ(s:Nat)=>(List.range A.c.toNat).map λ(c:Nat)=>(s:Int)*A.c+(c:Int)) s) c=_
  rw[iu s0 s1,iu c0 (by omega)]
  rw[show((s.toNat:Nat):Int)=s by omega,show((c.toNat:Nat):Int)=c by omega]
theorem an8{s:Int}(s0:0<=s) (s1:s<(ws.length:Int)):(ix (cR A L ws).call s).length=A.c.toNat/\(ix (cR A L ws).push s).length=A.c.toNat/\(ix (cR A L ws).inner s).length=A.i.toNat/\(ix (cR A L ws).pop s).length=A.aB ws.length:=by
 refine⟨?_,?_,?_,?_⟩
 ·show(ix (List.replicate ws.length (List.replicate A.c.toNat (0:Int))) s).length=_
  rw[show s=((s.toNat:Nat):Int)by omega,lq (by omega)];simp
 ·show(ix ((List.range ws.length).map λ(s:Nat)=>(List.range A.c.toNat).map λ(c:Nat)=>(s:Int)*A.c+(c:Int)) s).length=_
  rw[iu s0 s1];simp
 ·show(ix ((List.range ws.length).map λ(i:Nat)=>(List.range A.i.toNat).map λ(j:Nat)=>gS A L ws (ix ws (i:Int) ++ [A.c+(j:Int)])) s).length=_
  rw[iu s0 s1];simp
 ·show(ix ((List.range ws.length).map λ(i:Nat)=>(List.range (A.aB ws.length)).map λ(g:Nat)=>(List.range A.r.toNat).map λ(r:Nat)=>if A.c.toNat=0 then 0 else gS A L ws (ix ws ((g/A.c.toNat:Nat):Int)++((g%A.c.toNat:Nat):Int)::(ix ws (i:Int) ++ [A.c+A.i+(r:Int)]))) s).length=_
  rw[iu s0 s1];simp
theorem VF{s i:Int}(s0:0<=s) (s1:s<(ws.length:Int)) (i0:0<=i) (i1:i<A.i):ix (ix (cR A L ws).inner s) i=gS A L ws (ix ws s ++ [A.c+i]):=by
 show ix (ix ((List.range ws.length).map λ(i:Nat)=>(List.range A.i.toNat).map λ(j:Nat)=>gS A L ws (ix ws (i:Int) ++ [A.c+(j:Int)])) s) i=_;rw[iu s0 s1,iu i0 (by omega),show((s.toNat:Nat):Int)=s by omega,show((i.toNat:Nat):Int)=i by omega]
theorem an9{s g:Int}(s0:0<=s) (s1:s<(ws.length:Int)) (g0:0<=g) (g1:g<(A.aB ws.length:Int)):(ix (ix (cR A L ws).pop s) g).length=A.r.toNat:=by
 show(ix (ix ((List.range ws.length).map λ(i:Nat)=>(List.range (A.aB ws.length)).map λ(g:Nat)=>(List.range A.r.toNat).map λ(r:Nat)=>if A.c.toNat=0 then 0 else gS A L ws (ix ws ((g/A.c.toNat:Nat):Int)++((g%A.c.toNat:Nat):Int)::(ix ws (i:Int) ++ [A.c+A.i+(r:Int)]))) s) g).length=_
 rw[iu s0 s1,iu g0 g1];simp
theorem VG{s g r:Int}(s0:0<=s) (s1:s<(ws.length:Int)) (g0:0<=g) (g1:g<(A.aB ws.length:Int)) (r0:0<=r) (r1:r<A.r):ix (ix (ix (cR A L ws).pop s) g) r=if A.c.toNat=0 then 0 else gS A L ws (ix ws ((g.toNat/A.c.toNat:Nat):Int)++((g.toNat%A.c.toNat:Nat):Int)::(ix ws s ++ [A.c+A.i+r])):=by
 show ix (ix (ix ((List.range ws.length).map λ(i:Nat)=>(List.range (A.aB ws.length)).map λ(g:Nat)=>(List.range A.r.toNat).map λ(r:Nat)=>if A.c.toNat=0 then 0 else gS A L ws (ix ws ((g/A.c.toNat:Nat):Int)++((g%A.c.toNat:Nat):Int)::(ix ws (i:Int) ++ [A.c+A.i+(r:Int)]))) s) g) r=_
 rw[iu s0 s1,iu g0 g1,iu r0 (by omega),show((s.toNat:Nat):Int)=s by omega,show((r.toNat:Nat):Int)=r by omega]
theorem VH{s p c r:Int}(s0:0<=s) (s1:s<(ws.length:Int)) (p0:0<=p) (p1:p<(ws.length:Int)) (c0:0<=c) (c1:c<A.c) (r0:0<=r) (r1:r<A.r):0<=p*A.c+c/\p*A.c+c<(A.aB ws.length:Int)/\ix (ix (ix (cR A L ws).pop s) (p*A.c+c)) r=gS A L ws (ix ws p++c::(ix ws s ++ [A.c+A.i+r])):=by
 obtain⟨pn,rfl⟩:∃pn:Nat,p=pn:=⟨p.toNat,by omega⟩
 obtain⟨cn,rfl⟩:∃cn:Nat,c=cn:=⟨c.toNat,by omega⟩
 have e:(pn:Int)*A.c+(cn:Int)=((pn*A.c.toNat+cn:Nat):Int):=by rw[Int.natCast_add,oE];congr 2;omega
 have h1:pn*A.c.toNat+A.c.toNat<=ws.length*A.c.toNat:=by rw[<-Nat.succ_mul];exact jT _ (by omega)
 have hG:pn*A.c.toNat+cn<A.aB ws.length:=by
  show _<max 1 (ws.length*A.c.toNat);omega
 rw[e];refine⟨by omega,by omega,?_⟩
 rw[VG s0 s1 (by omega) (by omega) r0 r1,ab (by omega),kG,show(pn*A.c.toNat+cn)/A.c.toNat=pn from by rw[Nat.mul_comm,Nat.mul_add_div (by omega),Nat.div_eq_of_lt (by omega),Nat.add_zero],show(pn*A.c.toNat+cn)%A.c.toNat=cn from by rw[Nat.mul_comm,Nat.mul_add_mod,Nat.mod_eq_of_lt (by omega)]]
theorem iE.Ld (h:iE A L ws) (hA:A.Ok):1<=ws.length/\ix ws 0=[]:=by
 obtain⟨w,hw,e⟩:=h.all [] .nil;have hle:=h.VC w hw [] .nil e.symm;have hw0:w=[]:=by
  have:aW [] w<=0:=by
   unfold aW;split
   ·omega
   ·split
    ·rename_i h1;simp at h1
    ·rename_i h1 h2
     have:w=[]:=by cases w with
      |nil=>rfl
      |cons a w=>simp at h1
     subst this;simp[cS]
  exact K9 hle this
 subst hw0;have hp:=List.length_pos_of_mem hw;refine⟨hp,?_⟩;cases ws with
 |nil=>simp at hp
 |cons x l=>
  have hx:x=[]:=by
   rcases cD.1 hw with e|hw
   ·exact e.symm
   ·have:=(kY.1 h.Ba).1 [] hw
    unfold aW at this;split at this
    ·rename_i h1;simp at h1
    ·split at this
     ·omega
     ·cases x with
      |nil=>rfl
      |cons a x=>rename_i h1 h2;simp at h2
  rw[hx];rfl
theorem iE.Le (h:iE A L ws){s:Int}(s0:0<=s) (s1:s<(ws.length:Int)):Ww A (ix ws s):=h.ww _ (aU s0 s1)
theorem aoa (h:iE A L ws) (hA:A.Ok) (hs:1<=A.c+A.i+A.r) (h1:ws.length<=128) (h2:ws.length*A.c.toNat<=128):(cR A L ws).Ok:=by
 have hp:=hA.p;have hss:=hA.s;obtain⟨l1,l2,l3,l4,l5⟩:=Lc (A:=A) (L:=L) (ws:=ws);have h0:=(h.Ld hA).1;have bV:A.aB ws.length=max 1 (ws.length*A.c.toNat):=rfl;have hsk:(cR A L ws).stack=(A.aB ws.length:Int):=rfl;refine⟨⟨hp.1,?_⟩,⟨hp.2.1,?_⟩,⟨hp.2.2,?_⟩,⟨hs,hss⟩,⟨by rw[hsk];omega,by rw[hsk];omega⟩,⟨by rw[l1];omega,by rw[l1];omega⟩,⟨Int.le_refl _,?_⟩,⟨by rw[l1,l2],by rw[l1,l3],by rw[l1,l4],by rw[l1,l5]⟩,λs s0 s1=>?_,λs c s0 s1 c0 c1=>?_,λs c s0 s1 c0 c1=>?_,λs c s0 s1 c0 c1=>?_,λs g s0 s1 g0 g1=>?_,λs g r s0 s1 g0 g1 r0 r1=>?_⟩
 ·show A.c<=64;omega
 ·show A.i<=64;omega
 ·show A.r<=64;omega
 ·show(0:Int)<_;rw[l1];omega
 ·rw[l1]at s1
  obtain⟨a,b,c,d⟩:=an8 (A:=A) (L:=L) s0 s1;refine⟨?_,?_,?_,?_⟩
  ·rw[a];show((A.c.toNat:Nat):Int)=A.c;omega
  ·rw[b];show((A.c.toNat:Nat):Int)=A.c;omega
  ·rw[c];show((A.i.toNat:Nat):Int)=A.i;omega
  ·rw[d];rfl
 ·rw[l1]at s1 ⊢
  rw[(AB s0 s1 c0 c1).1];omega
 ·rw[l1]at s1
  rw[(AB s0 s1 c0 c1).2]
  by_cases hr:0<A.r
  ·have:=VH (A:=A) (L:=L) s0 s1 s0 s1 c0 c1 (r:=0) (by omega) hr
   exact⟨this.1,this.2.1⟩
  ·-- no returns
   obtain⟨pn,rfl⟩:∃pn:Nat,s=pn:=⟨s.toNat,by omega⟩
   obtain⟨cn,rfl⟩:∃cn:Nat,c=cn:=⟨c.toNat,by omega⟩
   have c1:(cn:Int)<A.c:=c1;have e:(pn:Int)*A.c+(cn:Int)=((pn*A.c.toNat+cn:Nat):Int):=by rw[Int.natCast_add,oE];congr 2;omega
   have h1:pn*A.c.toNat+A.c.toNat<=ws.length*A.c.toNat:=by rw[<-Nat.succ_mul];exact jT _ (by omega)
   rw[e,hsk,bV];omega
 ·rw[l1]at s1 ⊢
  rw[VF s0 s1 c0 c1];have:=rV h (.aR _ c c0 c1 (h.Le s0 s1));exact⟨this.1,this.2.1⟩
 ·rw[l1]at s1
  rw[an9 s0 s1 g0 g1];show((A.r.toNat:Nat):Int)=A.r;omega
 ·rw[l1]at s1 ⊢
  rw[VG s0 s1 g0 g1 r0 r1];split
  ·omega
  ·rename_i hc
   have g1:g<(A.aB ws.length:Int):=g1;have hm:=Nat.mod_lt g.toNat (show 0<A.c.toNat by omega)
   have hd:g.toNat/A.c.toNat<ws.length:=by
    rw[Nat.div_lt_iff_lt_mul (by omega)]
    have:1<=ws.length*A.c.toNat:=Nat.mul_pos h0 (by omega)
    omega
   have r1:r<A.r:=r1;generalize g.toNat/A.c.toNat=d at *;generalize g.toNat%A.c.toNat=m at *;have:=rV h (.al (ix ws ((d:Nat):Int)) (ix ws s) ((m:Nat):Int) r (by omega) (by omega) r0 r1 (h.Le (by omega) (by omega)) (h.Le s0 s1))
   exact⟨this.1,this.2.1⟩
theorem Ww.app{u v:List Int}(hu:Ww A u) (hv:Ww A v):Ww A (u++v):=by
 induction hv with
 |nil=>simpa using hu
 |aR w i h0 h1 _ ih=>rw[<-List.append_assoc];exact .aR _ i h0 h1 ih
 |al w x c r h0 h1 h2 h3 _ hx lZ _=>rw[<-List.append_assoc];exact .al _ x c r h0 h1 h2 h3 lZ hx
theorem aob (h:iE A L ws) (hA:A.Ok){w:List Int}(hw:Ww A w):∀u,Ww A u->Wd (cR A L ws).eK (gS A L ws u) (gS A L ws (u++w)) w:=by
 induction hw with
 |nil=>intro u hu;rw[List.append_nil];exact .nil _
 |aR w i h0 h1 hw ih=>
  intro u hu;have Mh:=hu.app hw;have r:=rV h Mh;refine(ih u hu).app ?_;have e:(cR A L ws).eK.inner (gS A L ws (u++w)) i=gS A L ws (u++(w ++ [A.c+i])):=by
   show ix (ix (cR A L ws).inner _) i=_;rw[VF r.1 r.2.1 h0 h1];refine(VE h (.aR _ i h0 h1 (h.Le r.1 r.2.1)) ?_).2 ?_
   ·rw[<-List.append_assoc];exact .aR _ i h0 h1 Mh
   ·rw[<-List.append_assoc];exact r.2.2.symm.aR h0 h1
  have:=Wd.aR (M:=(cR A L ws).eK) (gS A L ws (u++w)) i (gS A L ws (u++(w ++ [A.c+i]))) [] h0 h1 (by rw[e];exact .nil _)
  exact this
 |al w y c r c0 c1 r0 r1 hw hy lZ mM=>
  intro u hu;have Mh:=hu.app hw;have q:=rV h Mh;have qy:=rV h hy;have hn:=h.Ld hA;refine(lZ u hu).app ?_;have hb:=mM [] .nil;rw[rf]at hb;have e0:gS A L ws []=0:=xp h .nil (by omega) (by omega) (by rw[hn.2];exact jS.refl _)
  rw[e0]at hb;have ec:=AB (A:=A) (L:=L) q.1 q.2.1 c0 c1;have ep:=VH (A:=A) (L:=L) qy.1 qy.2.1 q.1 q.2.1 c0 c1 r0 r1;have e:(cR A L ws).eK.pop (gS A L ws y) ((cR A L ws).eK.call (gS A L ws (u++w)) c).2 r=gS A L ws (u++(w++c::(y ++ [A.c+A.i+r]))):=by
   show ix (ix (ix (cR A L ws).pop (gS A L ws y)) (ix (ix (cR A L ws).push (gS A L ws (u++w))) c)) r=_;rw[ec.2,ep.2.2];refine(VE h (.al _ _ c r c0 c1 r0 r1 (h.Le q.1 q.2.1) (h.Le qy.1 qy.2.1)) ?_).2 ?_
   ·rw[<-List.append_assoc];exact .al _ y c r c0 c1 r0 r1 Mh hy
   ·rw[<-List.append_assoc];exact q.2.2.symm.al qy.2.2.symm c0 c1 r0 r1 Mh (h.Le qy.1 qy.2.1)
  have:=Wd.call (M:=(cR A L ws).eK) (gS A L ws (u++w)) c (gS A L ws y) r (gS A L ws (u++(w++c::(y ++ [A.c+A.i+r])))) y [] c0 c1 r0 r1 (by rw[show((cR A L ws).eK.call (gS A L ws (u++w)) c).1=0 from ec.1];exact hb) (by rw[e];exact .nil _)
  exact this
theorem VI (h:iE A L ws){w:List Int}(hw:Ww A w):ix (cR A L ws).accept (gS A L ws w)=true↔L w:=by
 have q:=rV h hw;show ix ((List.range ws.length).map λ(i:Nat)=>@decide (L (ix ws (i:Int))) (Classical.propDecidable _)) _=true↔_;rw[iu q.1 q.2.1,show(((gS A L ws w).toNat:Nat):Int)=gS A L ws w by omega]
 rw[@decide_eq_true_eq _ (Classical.propDecidable _)];exact q.2.2.acc.symm
end
end Ab
namespace Ab
abbrev ak.eQ (n:ak):kC:=⟨n.calls,n.aj,n.aq⟩
def ak.cj (n:ak) (w:List Int):Prop:=∃t,Wd n.eK n.start t w/\ix n.accept t=true
theorem ak.Ok.eQ{n:ak}(h:n.Ok):n.eQ.Ok:=⟨⟨h.calls.1,h.aj.1,h.aq.1⟩,h.syms.2⟩
def vP (n:ak) (k:List Int):Prop:=k.length=n.bw.length/\∃w,Ww n.eQ w/\∀j:Nat,j<n.bw.length->Wd n.eK (ix n.bw (j:Int)) (ix k (j:Int)) w
theorem aoc{n:ak}(hn:n.Ok){plc m:List Int}(hp:Bc n plc){t c r:Int}{u:List Int}(t0:0<=t) (t1:t<(n.accept.length:Int)) (c0:0<=c) (c1:c<n.calls) (r0:0<=r) (r1:r<n.aq) (hm:∀j:Nat,j<n.bw.length->Wd n.eK (ix n.bw (j:Int)) (ix m (j:Int)) u):Wd n.eK t (n.qu plc m c r t) (c::(u ++ [n.calls+n.aj+r])):=by
 have iz:ix (ix n.call t) c∈n.bw:=by
  have rO:=(hn.row t t0 t1).1;have ln:=hn.lens;exact tx.2 (.inr ⟨_,aU t0 (by omega),aU c0 (by omega)⟩)
 obtain⟨j,XK,L5⟩:=fM.1 iz;have hZ:=hp.E9 j XK;rw[aT XK,L5]at hZ;have hw:=hm j XK;rw[aT XK,L5]at hw;have:=Wd.call (M:=n.eK) t c (ix m (j:Int)) r _ u [] c0 c1 r0 r1 hw (.nil _);rw[show n.qu plc m c r t=n.eK.pop (ix m (j:Int)) (n.eK.call t c).2 r from by
  unfold ak.qu;rw[hZ];rfl]
 exact this
theorem aod{n:ak}(hn:n.Ok){k:List Int}(h:vP n k):n.tz k:=λs hs=>by
 obtain⟨hl,w,_,hw⟩:=h;obtain⟨j,hj,rfl⟩:=fM.1 hs;have:=hw j (by omega)
 rw[aT hj,aT (show j<n.bw.length by omega)]at this
 exact this.range (SX hn) (uY hn _ (List.getElem_mem _))
theorem aoe{n:ak}(hn:n.Ok){plc:List Int}(hp:Bc n plc):GU (vP n) n plc:=by
 refine⟨λk hk i i0 i1=>?_,λk m hk hm c r c0 c1 r0 r1=>?_⟩
 ·obtain⟨hl,w,hw,hj⟩:=hk
  refine⟨by simpa using hl,_,.aR w i i0 i1 hw,λj Mc=>?_⟩
  rw[jx (by omega) (by omega)]
  exact(hj j Mc).app (.aR _ i _ [] i0 i1 (.nil _))
 ·have hr:=aod hn hk
  obtain⟨hl,w,hw,hj⟩:=hk;obtain⟨lY,u,hu,L5⟩:=hm;refine⟨by simpa using hl,_,.al w u c r c0 c1 r0 r1 hw hu,λj Mc=>?_⟩
  rw[jx (by omega) (by omega)]
  have FW:=hr _ (aU (l:=k) (n:=(j:Int)) (by omega) (by omega))
  exact(hj j Mc).app (aoc hn hp FW.1 FW.2 c0 c1 r0 r1 L5)
theorem aof{n:ak}:vP n n.bw:=⟨rfl,[],.nil,λj _=>.nil _⟩
section
variable{n:ak}{D:Vd}{cls:List Int}{k:Nat}
theorem Dv.ww (hd:D.n=n){x:Int}{w:List Int}(h:Dv D x w):Ww n.eQ w:=by
 subst hd
 induction h with
 |nil=>exact .nil
 |aR x i w i0 i1 _ ih=>exact .aR w i i0 i1 ih
 |al x c y r w u c0 c1 r0 r1 _ _ lZ mM=>exact .al w u c r c0 c1 r0 r1 lZ mM
theorem tK (hd:D.n=n){w:List Int}(h:Ww n.eQ w):∃x,Dv D x w:=by
 subst hd
 induction h with
 |nil=>exact⟨0,.nil⟩
 |aR w i i0 i1 _ ih=>obtain⟨x,hx⟩:=ih;exact⟨_,.aR x i w i0 i1 hx⟩
 |al w u c r c0 c1 r0 r1 _ _ lZ mM=>
  obtain⟨x,hx⟩:=lZ;obtain⟨y,hy⟩:=mM;exact⟨_,.al x c y r w u c0 c1 r0 r1 hx hy⟩
theorem xX.word (h:xX (vP n) n D cls k){x:Nat}(hx:x<D.K.length):∃w,Dv D x w:=by
 have hn:=h.d.n;have lA : n=D.n:=hn.symm;obtain⟨hl,w,hw,hj⟩:=h.d.v.kx hx;obtain⟨y,hy⟩:=tK hn hw;have hD:=pF h.d.v h.f;have ry:=hy.fx hD;have ky:=h.d.v.ok.kx (x:=y.toNat) (by omega)
 refine⟨w,?_⟩;have e:ix D.K (x:Int)=ix D.K (y.toNat:Int):=by
  refine zK (by rw[ky.2,hl,hn]) λj j0 j1=>?_
  have h1:=hj j.toNat (by omega)
  have h2:=hy.wd h.d.v h.f h.d.p j.toNat (by rw[hn];omega)
  rw[show((j.toNat:Nat):Int)=j by omega]at h1 h2
  rw[show((y.toNat:Nat):Int)=y by omega]
  rw[hn]at h2;exact Wd.qt (M:=n.eK) (hn▸h.d.v.ok.ok.m0) h1 h2
 rw[aT hx,aT (show y.toNat<D.K.length by omega)]at e
 have:=(List.getElem_inj h.d.v.nd).1 e;rw[show(x:Int)=y by omega]
 exact hy
theorem xX.cj (h:xX (vP n) n D cls k){x:Int}{w:List Int}(hx:Dv D x w):n.cj w↔D.ac D.iS x=true:=by
 have hn:=h.d.n;have hs:D.n.start∈D.n.bw:=tx.2 (.inl rfl);obtain⟨m,vU,Hb⟩:=fM.1 hs;have Hc:=h.d.p.E9 m vU;have hw:=hx.wd h.d.v h.f h.d.p m vU;rw[aT vU,Hb]at Hc hw;have e:D.ac D.iS x=ix D.n.accept (ix (ix D.K x) (m:Int)):=by unfold Vd.ac Vd.iS;rw[Hc]
 rw[e];have au:=h.d.v.ok.ok;subst hn;constructor
 ·rintro⟨t,ht,ha⟩
  rw[hw.qt au.m0 ht];exact ha
 ·exact λha=>⟨_,hw,ha⟩
theorem xX.alk (h:xX (vP n) n D cls k){x y:Int}{u v:List Int}(hx:Dv D x u) (hy:Dv D y v):jS n.eQ n.cj u v↔ix cls x=ix cls y:=by
 have hD:=pF h.d.v h.f;have hn:=h.d.n;have key:∀{x y:Int},xa D D.iS x y->∀u v,Dv D x u->Dv D y v->Sep n.eQ n.cj u v:=by
  intro x y hs
  induction hs with
  |acc x y ha=>
   intro u v hu hv;refine .acc _ _ λe=>ha ?_;rw[h.cj hu,h.cj hv]at e;cases h1:D.ac D.iS x<;>cases h2:D.ac D.iS y<;>simp_all
  |aR x y i i0 i1 _ ih=>
   intro u v hu hv;have:=ih _ _ (.aR x i u i0 i1 hu) (.aR y i v i0 i1 hv);rw[hn]at this i1;exact .aR _ _ i i0 i1 this
  |bl x y c z r c0 c1 z0 z1 r0 r1 _ ih=>
   intro u v hu hv;obtain⟨w,hw⟩:=h.word (x:=z.toNat) (by omega)
   rw[show((z.toNat:Nat):Int)=z by omega]at hw
   have:=ih _ _ (.al x c z r u w c0 c1 r0 r1 hu hw) (.al y c z r v w c0 c1 r0 r1 hv hw);rw[hn]at this c1 r1;exact .bl _ _ w c r c0 c1 r0 r1 (hw.ww hn) this
  |br x y c z r c0 c1 z0 z1 r0 r1 _ ih=>
   intro u v hu hv;obtain⟨w,hw⟩:=h.word (x:=z.toNat) (by omega)
   rw[show((z.toNat:Nat):Int)=z by omega]at hw
   have:=ih _ _ (.al z c x r w u c0 c1 r0 r1 hw hu) (.al z c y r w v c0 c1 r0 r1 hw hv);rw[hn]at this c1 r1;exact .br _ _ w c r c0 c1 r0 r1 (hw.ww hn) this
 have back:∀{u v:List Int},Sep n.eQ n.cj u v->∀x y,Dv D x u->Dv D y v->ix cls x ≠ ix cls y:=by
  intro u v hs
  induction hs with
  |acc u v ha=>
   intro x y hu hv e;have rx:=hu.fx hD;have ry:=hv.fx hD;have:=h.c.c.ac x.toNat y.toNat (by omega) (by omega) (by rw[show((x.toNat:Nat):Int)=x by omega,show((y.toNat:Nat):Int)=y by omega];exact e)
   rw[show((x.toNat:Nat):Int)=x by omega,show((y.toNat:Nat):Int)=y by omega]at this
   exact ha (by rw[h.cj hu,h.cj hv,this])
  |aR u v i i0 i1 _ ih=>
   intro x y hu hv e;have rx:=hu.fx hD;have ry:=hv.fx hD;have hg:=h.c.Ka x.toNat y.toNat (by omega) (by omega) (by rw[show((x.toNat:Nat):Int)=x by omega,show((y.toNat:Nat):Int)=y by omega];exact e)
   rw[show((x.toNat:Nat):Int)=x by omega,show((y.toNat:Nat):Int)=y by omega]at hg
   have i1' : i<D.n.aj:=by rw[hn];exact i1
   have h1:=Dv.aR x i u i0 i1' hu;have h2:=Dv.aR y i v i0 i1' hv;rw[hn]at h1 h2;exact ih _ _ h1 h2 (hg.i i i0 i1')
  |bl u v w c r c0 c1 r0 r1 hw _ ih=>
   intro x y hu hv e;have rx:=hu.fx hD;have ry:=hv.fx hD;have hg:=h.c.Ka x.toNat y.toNat (by omega) (by omega) (by rw[show((x.toNat:Nat):Int)=x by omega,show((y.toNat:Nat):Int)=y by omega];exact e)
   rw[show((x.toNat:Nat):Int)=x by omega,show((y.toNat:Nat):Int)=y by omega]at hg
   obtain⟨z,hz⟩:=tK hn hw;have rz:=hz.fx hD;have BC : c<D.n.calls:=by rw[hn];exact c1
   have Lf : r<D.n.aq:=by rw[hn];exact r1
   have h1:=Dv.al x c z r u w c0 BC r0 Lf hu hz;have h2:=Dv.al y c z r v w c0 BC r0 Lf hv hz;rw[hn]at h1 h2;exact ih _ _ h1 h2 (hg.l c z r c0 BC rz.1 rz.2 r0 Lf)
  |br u v w c r c0 c1 r0 r1 hw _ ih=>
   intro x y hu hv e;have rx:=hu.fx hD;have ry:=hv.fx hD;have hg:=h.c.Ka x.toNat y.toNat (by omega) (by omega) (by rw[show((x.toNat:Nat):Int)=x by omega,show((y.toNat:Nat):Int)=y by omega];exact e)
   rw[show((x.toNat:Nat):Int)=x by omega,show((y.toNat:Nat):Int)=y by omega]at hg
   obtain⟨z,hz⟩:=tK hn hw;have rz:=hz.fx hD;have BC : c<D.n.calls:=by rw[hn];exact c1
   have Lf : r<D.n.aq:=by rw[hn];exact r1
   have h1:=Dv.al z c x r w u c0 BC r0 Lf hz hu;have h2:=Dv.al z c y r w v c0 BC r0 Lf hz hv;rw[hn]at h1 h2;exact ih _ _ h1 h2 (hg.r c z r c0 BC rz.1 rz.2 r0 Lf)
 constructor
 ·intro ha
  refine eU λe=>ha ?_;have rx:=hx.fx hD;have ry:=hy.fx hD;have:=h.c.c.sep x.toNat y.toNat (by omega) (by omega)
  rw[show((x.toNat:Nat):Int)=x by omega,show((y.toNat:Nat):Int)=y by omega]at this
  exact key (this e) _ _ hx hy
 ·exact λe hs=>back hs _ _ hx hy e
structure Mi (D:Vd) (cls:List Int) (k:Nat) (l:List eP):Prop where
 len:l.length=k
 cl:∀i:Nat,i<k->(ix l (i:Int)).1=i
 w:∀i:Nat,i<k->(∃x,Dv D x (ix l (i:Int)).2.2/\ix cls x=i)/\∀y v,Dv D y v->ix cls y=i->aW (ix l (i:Int)).2.2 v<=0
theorem xX.VJ (h:xX (vP n) n D cls k):∃l,Mi D cls k l:=by
 have hD:=pF h.d.v h.f;have hA:=h.d.v.ok.ok.eQ;have:∀i:Nat,i<k->∃w,(∃x,Dv D x w/\ix cls x=i)/\∀v,(∃y,Dv D y v/\ix cls y=i)->aW w v<=0:=λi hi=>by
  have MM:=h.c.c.can.occ (i:Int) (by omega) (by omega)
  obtain⟨x,hx,e⟩:=fM.1 MM;obtain⟨w,hw⟩:=h.word (x:=x) (by rw[<-h.c.c.len];exact hx)
  exact an7 (P:=λw=>∃x,Dv D x w/\ix cls x=i) (λw ⟨x,hx,_⟩=>(hx.ww rfl).sy hA) ⟨x,hw,by rw[aT hx];exact e⟩
 refine⟨(List.range k).map λ(i:Nat)=>((i:Int),0,if hi:i<k then Classical.choose (this i hi)else[]),by simp,λi hi=>?_,λi hi=>?_⟩
 ·rw[iu (by omega) (by omega)];simp
 ·rw[iu (by omega) (by omega)]
  dsimp only;rw[Int.toNat_natCast,dif_pos hi];have:=Classical.choose_spec (this i hi);exact⟨this.1,λy v hy e=>this.2 v ⟨y,hy,e⟩⟩
theorem Mi.FZ (h:xX (vP n) n D cls k){l:List eP}(hl:Mi D cls k l):iE n.eQ n.cj ((dt l).map λc=>c.2.2):=by
 have hn:=h.d.n;have hD:=pF h.d.v h.f;have hp:=qA l;have jm:(l.map λc=>c.2.2).Nodup:=by
  rw[List.Nodup,rC];intro i j hi hj qm e;simp only[dR]at hi hj;simp only[oS]at e;rw[<-aT hi,<-aT hj]at e;have hlen:=hl.len;obtain⟨⟨x,hx,ex⟩,_⟩:=hl.w i (by omega)
  obtain⟨⟨y,hy,ey⟩,_⟩:=hl.w j (by omega)
  rw[e]at hx;rw[Dv.qt h.d.v h.f h.d.p hx hy,ey]at ex;omega
 have eY:∀w,w∈((dt l).map λc=>c.2.2)->∃i:Nat,i<k/\(ix l (i:Int)).2.2=w:=λw hw=>by
  obtain⟨c,hc,rfl⟩:=cU.1 hw;obtain⟨i,hi,e⟩:=fM.1 (hp.mem_iff.1 hc);exact⟨i,by rw[<-hl.len];exact hi,by rw[aT hi,e]⟩
 refine⟨?_,λw hw=>?_,λw hw v hv ha=>?_,λv hv=>?_⟩
 ·rw[List.pairwise_map]
  exact KT jm
 ·obtain⟨i,hi,rfl⟩:=eY w hw
  obtain⟨⟨x,hx,_⟩,_⟩:=hl.w i hi;exact hx.ww hn
 ·obtain⟨i,hi,rfl⟩:=eY w hw
  obtain⟨⟨x,hx,ex⟩,mc⟩:=hl.w i hi;obtain⟨y,hy⟩:=tK hn hv;exact mc y v hy (by rw[<-(h.alk hx hy).1 ha,ex])
 ·obtain⟨y,hy⟩:=tK hn hv
  have ry:=hy.fx hD;have hc:=h.c.c.can.fx _ (aU (l:=cls) ry.1 (by rw[h.c.c.len];exact ry.2))
  obtain⟨⟨x,hx,ex⟩,mc⟩:=hl.w (ix cls y).toNat (by omega)
  refine⟨_,cU.2 ⟨ix l ((ix cls y).toNat:Int),hp.mem_iff.2 (aU (by omega) (by have:=hl.len;omega)),rfl⟩,?_⟩
  exact(h.alk hy hx).2 (by rw[ex];omega)
end
open Classical in
noncomputable def xq (A:kC) (L:List Int->Prop) (ws:List (List Int)):ak×Int:=
 if 128<ws.length\/128<ws.length*A.c.toNat then(zN,11)
 else if ∃w∈ws,1024<w.length then(zN,3)
 else(cR A L ws,0)
theorem Mi.Lh{D:Vd}{cls:List Int}{k:Nat}{l:List eP}(h:Mi D cls k l):((dt l).map λc=>c.2.2).length=k:=by
 rw[dR,(qA l).length_eq,h.len]
theorem xY.VJ{n:ak}{D:Vd}{cls:List Int}{k:Nat}{S:Fd}{l:List eP}(h:xY (vP n) n D cls k S l) (hn:l.any neg=false):Mi D cls k l:=by
 have hv:∀i:Nat,i<l.length->0<=(ix l (i:Int)).2.1:=λi hi=>by
  have:=List.any_eq_false.1 hn _ (aU (l:=l) (n:=(i:Int)) (by omega) (by omega))
  simp[neg]at this;exact this
 have hlen:=h.l.len;have hD:=pF h.c.d.v h.c.f;refine⟨hlen,h.l.cl,λi hi=>?_⟩;obtain⟨a1,a2,a3,a4⟩:=h.wd hi (hv i (by omega))
 refine⟨⟨_,a3.1,a2⟩,λy v hy ec=>?_⟩;have ry:=hy.fx hD;obtain⟨u,hu,oJ⟩:=UD hD (by have:=h.c.d.v.ok.ok.syms;omega) hy
 have mu:=hu.2 v hy
 by_cases hs:u.length<=1024
 ·have hf:ix S.F y=true:=(h.s.fd y ry.1 (by rw[h.s.l];exact ry.2)).2 ⟨u,hu,by omega⟩
  have hw:=h.s.lw y u hu (by omega)
  have:=(h.l.yes i hi (hv i (by omega))).2 y.toNat (by omega) (by rw[show((y.toNat:Nat):Int)=y by omega];exact ec) (by rw[show((y.toNat:Nat):Int)=y by omega];exact hf)
  rw[show((y.toNat:Nat):Int)=y by omega]at this
  unfold Fd.wd at this;rw[hw]at this;exact dK.trans _ _ _ this mu
 ·refine dK.trans _ _ _ ?_ mu
  unfold aW;rw[ae (by omega)];omega
theorem aog{n:ak}{D:Vd}{cls:List Int}{k:Nat}{S:Fd}{l:List eP}{st:List Int}(h:xY (vP n) n D cls k S l) (hn:l.any neg=false) (bV:st.length=l.length) (hs:∀i:Nat,i<l.length->ix st (vT (dt l) i)=i):tG D cls (dt l) st=cR n.eQ n.cj ((dt l).map λc=>c.2.2):=by
 have Km:=h.VJ hn;have hR:=Km.FZ h.c;have hp:=qA l;have hZ:(dt l).length=l.length:=hp.length_eq;have hlen:=h.l.len;have hD:=pF h.c.d.v h.c.f;have rS:=h.c.d.n;have hv:∀i:Nat,i<l.length->0<=(ix l (i:Int)).2.1:=λi hi=>by
  have:=List.any_eq_false.1 hn _ (aU (l:=l) (n:=(i:Int)) (by omega) (by omega))
  simp[neg]at this;exact this
 generalize XL:((dt l).map λc=>c.2.2)=ws at *;have xV:ws.length=l.length:=by rw[<-XL,dR,hZ]
 have hwi:∀i:Nat,i<l.length->ix ws (i:Int)=(ix (dt l) (i:Int)).2.2:=λi hi=>by rw[<-XL];exact jx (by omega) (by omega)
 -- each state
 have eY:∀i:Nat,i<l.length->Dv D (xi (dt l) i) (ix ws (i:Int))/\ix cls (xi (dt l) i)=vT (dt l) i:=λi hi=>by
  have hm:=hp.mem_iff.1 (aU (l:=dt l) (n:=(i:Int)) (by omega) (by omega))
  obtain⟨j,hj,e⟩:=fM.1 hm;rw[<-aT hj]at e;obtain⟨a1,a2,a3,a4⟩:=h.wd (i:=j) (by omega) (hv j hj)
  rw[hwi i hi];unfold xi vT;rw[<-e,a2,h.l.cl j (by omega)]
  exact⟨a3.1,rfl⟩
 have MM:∀q:Int,0<=q->q<(k:Int)->∃p:Nat,p<l.length/\vT (dt l) p=q:=λq q0 q1=>by
  have hm:=hp.mem_iff.2 (aU (l:=l) (n:=q) q0 (by omega))
  obtain⟨p,pz,e⟩:=fM.1 hm;refine⟨p,by omega,?_⟩
  unfold vT;rw[aT pz,e];have:=h.l.cl q.toNat (by omega)
  rw[show((q.toNat:Nat):Int)=q by omega]at this
  exact this
 have VK:∀y v,Dv D y v->Xy st cls y=gS n.eQ n.cj ws v:=λy v hy=>by
  have ry:=hy.fx hD;have hc:=h.c.c.c.can.fx _ (aU (l:=cls) ry.1 (by rw[h.c.c.c.len];exact ry.2))
  obtain⟨p,jD,nV⟩:=MM _ hc.1 hc.2;unfold Xy;rw[<-nV,hs p jD]
  symm
  refine xp hR (hy.ww rS) (by omega) (by omega) ?_
  obtain⟨b1,b2⟩:=eY p jD;exact(h.c.alk hy b1).2 (by rw[b2,nV])
 have VL:D.n.aB l.length=n.eQ.aB ws.length:=by
  show max 1 (l.length*D.n.calls.toNat)=max 1 (ws.length*n.calls.toNat);rw[xV,rS]
 have e1:(List.range l.length).map (λi=>D.ac D.iS (xi (dt l) i))=(List.range ws.length).map λ(i:Nat)=>@decide (n.cj (ix ws (i:Int))) (Classical.propDecidable _):=by
  rw[xV];refine gk λi hi=>?_;have hi:=cA.1 hi;have hl:=h.c.cj (eY i hi).1;cases ha:D.ac D.iS (xi (dt l) i)with
  |true=>rw[ha]at hl;exact(@decide_eq_true _ (Classical.propDecidable _) (hl.2 rfl)).symm
  |false=>rw[ha]at hl;exact(@decide_eq_false _ (Classical.propDecidable _) λa=>by simp[hl]at a).symm
 have e2:(D.n.dO l.length l.length).call=List.replicate ws.length (List.replicate n.calls.toNat 0):=by rw[xV,rS];rfl
 have e3:(D.n.dO l.length l.length).push=(List.range ws.length).map λ(s:Nat)=>(List.range n.calls.toNat).map λ(c:Nat)=>(s:Int)*n.calls+(c:Int):=by rw[xV,rS];rfl
 have e4:(List.range l.length).map (λi=>(List.range D.n.aj.toNat).map λj=>FH D cls (dt l) st i j)=(List.range ws.length).map λ(i:Nat)=>(List.range n.aj.toNat).map λ(j:Nat)=>gS n.eQ n.cj ws (ix ws (i:Int) ++ [n.calls+(j:Int)]):=by
  rw[xV];refine gk λi hi=>?_;have hi:=cA.1 hi;rw[rS];refine gk λj hj=>?_;have hj:=cA.1 hj;have hd:=Dv.aR _ (j:Int) _ (by omega) (by rw[rS];omega) (eY i hi).1
  have:=VK _ _ hd;rw[rS]at this;exact this
 have e5:(List.range l.length).map (λi=>(List.range (D.n.aB l.length)).map λg=>(List.range D.n.aq.toNat).map λr=>u6 D cls (dt l) st i g r)=(List.range ws.length).map λ(i:Nat)=>(List.range (n.eQ.aB ws.length)).map λ(g:Nat)=>(List.range n.aq.toNat).map λ(r:Nat)=>if n.calls.toNat=0 then 0 else gS n.eQ n.cj ws (ix ws ((g/n.calls.toNat:Nat):Int)++((g%n.calls.toNat:Nat):Int)::(ix ws (i:Int) ++ [n.calls+n.aj+(r:Int)])):=by
  rw[VL,xV];refine gk λi hi=>?_;have hi:=cA.1 hi;refine gk λg hg=>?_;have hg:=cA.1 hg;rw[rS];refine gk λr hr=>?_;have hr:=cA.1 hr;unfold u6;rw[rS]
  by_cases hc:n.calls.toNat=0
  ·rw[ae hc,ae hc]
  ·rw[ab hc,ab hc]
   have hm:=Nat.mod_lt g (show 0<n.calls.toNat by omega)
   have xH : g<max 1 (l.length*n.calls.toNat):=hg;have h0:1<=l.length*n.calls.toNat:=Nat.mul_pos (by omega) (by omega)
   have Kt:g/n.calls.toNat<l.length:=by
    rw[Nat.div_lt_iff_lt_mul (by omega)]
    omega
   have hd:=Dv.al _ ((g%n.calls.toNat:Nat):Int) _ (r:Int) _ _ (by omega) (by rw[rS];omega) (by omega) (by rw[rS];omega) (eY _ Kt).1 (eY i hi).1
   have:=VK _ _ hd;rw[rS]at this;exact this
 have e6:((D.n.aB (dt l).length:Nat):Int)=((n.eQ.aB ws.length:Nat):Int):=by rw[hZ,VL]
 unfold tG cR;rw[hZ]at *;rw[e1,e2,e3,e4,e5,e6,rS]
theorem Bk.out{n r:ak}{e:Int}(h:Bk (vP n) n r e) (hv:n.bC=0) (hb:∀D,Mg (vP n) n D->D.K.length<=512):∃ws,iE n.eQ n.cj ws/\(r,e)=xq n.eQ n.cj ws:=by
 cases h with
 |inv h=>exact absurd hv h
 |many D _ hd hk=>have:=hb D hd;omega
 |dG D cls k _ hc hk=>
  obtain⟨l,hl⟩:=hc.VJ;refine⟨_,hl.FZ hc,?_⟩;unfold xq;rw[hl.Lh,ae hk]
 |K6 D cls k S l _ hL hn=>
  obtain⟨l', cw⟩:=hL.c.VJ;refine⟨_,cw.FZ hL.c,?_⟩;have hD:=pF hL.c.d.v hL.c.f;unfold xq;have hkb:=hL.kb;rw[cw.Lh,ab (by show ¬(128<k\/128<k*n.calls.toNat);omega),ae]
  obtain⟨c,hc,VM⟩:=List.any_eq_true.1 hn;simp[neg]at VM;obtain⟨i,hi,e⟩:=fM.1 hc;rw[<-aT hi]at e;have hlen:=hL.l.len;obtain⟨_,oG⟩:=hL.l.no i (by omega) (by rw[e];exact VM)
  obtain⟨⟨x,hx,ex⟩,mc⟩:=cw.w i (by omega)
  have rx:=hx.fx hD;refine⟨_,cU.2 ⟨ix l' (i:Int),(qA l').mem_iff.2 (aU (by omega) (by have:=cw.len;omega)),rfl⟩,eU λhsm=>?_⟩
  have hf:=(hL.s.fd x rx.1 (by rw[hL.s.l];exact rx.2)).2 ⟨_,⟨hx,λv hv=>mc x v hv ex⟩,by omega⟩
  have:=oG x.toNat (by omega) (by rw[show((x.toNat:Nat):Int)=x by omega];exact ex)
  rw[show((x.toNat:Nat):Int)=x by omega,hf]at this
  simp at this
 |ok D cls k S l st _ hL hn h1 h2=>
  have Km:=hL.VJ hn;refine⟨_,Km.FZ hL.c,?_⟩;have hkb:=hL.kb;unfold xq;rw[Km.Lh,ab (by show ¬(128<k\/128<k*n.calls.toNat);omega),ab,aog hL hn h1 h2]
  rintro⟨w,hw,aK⟩;obtain⟨c,hc,rfl⟩:=cU.1 hw;obtain⟨i,hi,e⟩:=fM.1 ((qA l).mem_iff.1 hc);have hlen:=hL.l.len;have o6:=List.any_eq_false.1 hn _ (aU (l:=l) (n:=(i:Int)) (by omega) (by omega))
  simp[neg]at o6;have:=(hL.wd (i:=i) (by omega) o6).2.2.2
  rw[aT hi,e]at this;omega
def tL (m:Nat):Nat->List (List Int)
 |0=>[[]]
 |e+1=>(List.range m).flatMap λ(x:Nat)=>(tL m e).map λv=>(x:Int)::v
theorem VN{m:Nat}:∀e,(tL m e).length=m^e
 |0=>rfl
 |e+1=>by
  have ih:=VN (m:=m) e;have:∀k:Nat,((List.range k).flatMap λ(x:Nat)=>(tL m e).map λv=>(x:Int)::v).length=k*m^e:=by
   intro k
   induction k with
   |zero=>simp
   |succ k ihk=>rw[mI,List.flatMap_append,bz,ihk,fC];simp[ih]
  unfold tL;rw[this m,Nat.pow_succ,Nat.mul_comm]
theorem VO{m:Nat}:∀{e:Nat}{k:List Int},k.length=e->(∀x∈k,0<=x/\x<(m:Int))->k∈tL m e
 |0,[],_,_=>by simp[tL]
 |e+1,x::k,hl,h=>by
  have hx:=h x (by simp)
  unfold tL;rw[rB];exact⟨x.toNat,by rw[cA];omega,cU.2 ⟨k,VO (by simpa using hl) λy hy=>h y (by simp[hy]),by rw[show((x.toNat:Nat):Int)=x by omega]⟩⟩
theorem Mg.few{n:ak}{D:Vd}(h:Mg (vP n) n D):D.K.length<=n.accept.length^n.bw.length:=by
 have:=Vx (l:=D.K) (L:=tL n.accept.length n.bw.length) h.v.nd λk hk=>by
  obtain⟨h1,h2⟩:=h.v.ok.st k hk;rw[h.n]at h1 h2;exact VO h2 h1
 rw[VN]at this;exact this
end Ab
