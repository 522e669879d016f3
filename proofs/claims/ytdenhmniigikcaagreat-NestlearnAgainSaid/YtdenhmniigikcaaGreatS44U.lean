/- The search in memory; and what it leans on. Condition: none. -/
import Derived.Test.YtdenhmniigikcaaGreatS44N
import Derived.Test.YtdenhmniigikcaaGreatS44T
import Derived.Test.YtdenhmniigikcaaGreatN44N
import Derived.Test.YtdenhmniigikcaaGreatFrz
set_option linter.all false
set_option maxRecDepth 100000
set_option maxHeartbeats 4000000
namespace Ab
inductive DT where
 |rt (f:Bool) (k:Nat)
 |ra (t:Nat)
 |jk (B:ag)
structure XM where
 N:Nat
 bx:List AV
 S:Bs
 C:Bs
 A:Int->List CR
 ri:Bool->Nat->Nat
 ai:Nat->Nat
 dyn:List DT
def XM.b (X:XM) (f:Bool):Bs:=if f=true then X.S else X.C
inductive Ix where
 |xN (f:Bool)|box (f:Bool)|wr (f:Bool) (s:Nat)|wo (f:Bool)|dr (f:Bool) (s:Nat)|GF (f:Bool)|co|bx|dy (i:Nat)
def e0 (N:Nat) (f:Bool):Nat:=if f=true then 0 else 2*N+4
def num (N:Nat):Ix->Nat
 |.xN f=>e0 N f
 |.box f=>e0 N f+1
 |.wr f s=>e0 N f+if s=0 then 2 else 4+2*s
 |.wo f=>e0 N f+3
 |.dr f s=>e0 N f+if s=0 then 4 else 5+2*s
 |.GF f=>e0 N f+5
 |.co=>4*N+8
 |.bx=>4*N+9
 |.dy i=>4*N+10+i
def Kw (f:Bool) (i:Nat):Ix:=if i=0 then .xN f else if i=1 then .box f else if i=2 then .wr f 0 else if i=3 then .wo f else if i=4 then .dr f 0 else if i=5 then .GF f else if i%2=0 then .wr f (i/2-2)else .dr f (i/2-2)
def ang (N j:Nat):Ix:=if j<2*N+4 then Kw true j else if j<4*N+8 then Kw false (j-(2*N+4))else if j=4*N+8 then .co else if j=4*N+9 then .bx else .dy (j-(4*N+10))
def Ix.val (N D:Nat):Ix->Prop
 |.wr _ s=>s<N
 |.dr _ s=>s<N
 |.dy i=>i<D
 |_=>True
def wc:Option (List Int)->AV
 |none=>.ah
 |some w=>.aE true (w.map .int)
def Vf (N:Nat) (W:TO) (s:Nat):List AV:=(List.range N).map λ(t:Nat)=>wc (W (s:Int) (t:Int))
def Vg (N:Nat) (D:Int->Int->Bool) (s:Nat):List Bool:=(List.range N).map λ(t:Nat)=>D (s:Int) (t:Int)
def prs (l:List PR):List AV:=l.flatMap λp=>[.int p.1,.int p.2]
def crs (l:List CR):List AV:=l.flatMap λp=>[.int p.1,.int p.2.1,.int p.2.2]
def Fz (N:Nat) (g:Nat->Ix):List AV:=(List.range N).map λs=>.sl (num N (g s)) N 0 N
def rdc (X:XM) (f:Bool):List AV:=(List.range 1025).map λk=>if(X.b f).R k=[]then .ah else .sl (num X.N (.dy (X.ri f k))) (2*((X.b f).R k).length) 0 ((X.b f).R k).length
def coc (X:XM):List AV:=(List.range X.N).map λ(t:Nat)=>if X.A (t:Int)=[]then .ah else .sl (num X.N (.dy (X.ai t))) (3*(X.A (t:Int)).length) 0 (X.A (t:Int)).length
def dcb (X:XM):Option DT->ag
 |some (.rt f k)=>⟨some 2,prs ((X.b f).R k),.live⟩
 |some (.ra t)=>⟨some 3,crs (X.A (t:Int)),.live⟩
 |some (.jk B)=>B
 |none=>default
def cb (X:XM):Ix->ag
 |.xN f=>⟨none,rdc X f,.live⟩
 |.box f=>⟨some 3,[.sl (num X.N (.wo f)) X.N 0 X.N,.sl (num X.N (.GF f)) X.N 0 X.N,.sl (num X.N (.xN f)) 1025 0 1025],.live⟩
 |.wr f s=>⟨none,Vf X.N (X.b f).W s,.live⟩
 |.wo f=>⟨none,Fz X.N (.wr f),.live⟩
 |.dr f s=>⟨none,(Vg X.N (X.b f).D s).map .bool,.live⟩
 |.GF f=>⟨none,Fz X.N (.dr f),.live⟩
 |.co=>⟨none,coc X,.live⟩
 |.bx=>⟨some 14,X.bx ++ [.ptr (num X.N (.box true)) (aC (some 3)) 0,.ptr (num X.N (.box false)) (aC (some 3)) 0,.sl (num X.N .co) X.N 0 X.N],.live⟩
 |.dy i=>dcb X X.dyn[i]?
def mem (X:XM):List ag:=(List.range (4*X.N+10+X.dyn.length)).map λj=>cb X (ang X.N j)
structure Xok (X:XM):Prop where
 n:1<=X.N/\X.N<=1000
 bx:X.bx.length=11
 r1:∀f k,(X.b f).R k ≠ []->X.dyn[X.ri f k]? = some (.rt f k)
 r2:∀i f k,X.dyn[i]? = some (.rt f k)->(X.b f).R k ≠ []/\i=X.ri f k
 a1:∀t:Nat,X.A (t:Int) ≠ []->X.dyn[X.ai t]? = some (.ra t)
 a2:∀(i t:Nat),X.dyn[i]? = some (.ra t)->X.A (t:Int) ≠ []/\i=X.ai t
section
variable{X Y:XM}
end
theorem Vh{p:Nat->Bool}:∀{σ:List ag}{i:Nat},(∀j,i<=j->j<i+σ.length->p j=false)->bI p i σ=σ
 | [],_,_=>rfl
 |B::r,i,h=>by
  unfold bI;rw[h i (bw _) (by simp),Vh λj h1 h2=>h j (by omega) (by simp;omega)]
  rfl
theorem Vi{p:Nat->Bool}:∀{σ τ:List ag}{i:Nat},bI p i (σ++τ)=bI p i σ++bI p (i+σ.length) τ
 | [],τ,i=>by simp[bI]
 |B::r,τ,i=>by
  simp only[kX,bI,cw];rw[Vi,show i+1+r.length=i+(r.length+1)by omega]
theorem Vj{p:Nat->Bool}:∀{σ:List ag}{i:Nat},(bI p i σ).length=σ.length
 | [],_=>rfl
 |B::r,i=>by unfold bI;simp[Vj]
theorem Aq{σ:List ag}{B:ag}{n:Nat}(h:n=σ.length):ak (σ ++ [B]) n=some B:=by
 subst h;rw[I7];simp
inductive Rdw (σ:List ag):AV->List Int->Prop
 |nil:Rdw σ .ah []
 |aE (q:Bool) (l:List Int):Rdw σ (.aE q (l.map .int)) l
 |sl (b:Nat) (l:List Int):ak σ b=some ⟨none,l.map .int,.live⟩->Rdw σ (.sl b l.length 0 l.length) l
section
variable{X:XM}{f:Bool}{s t:Nat}
structure Xe (X Y:XM):Prop where
 ok:Xok Y
 n:Y.N=X.N
 bx:Y.bx=X.bx
 d:∃ext,Y.dyn=X.dyn++ext
theorem Xe.refl (h:Xok X):Xe X X:=⟨h,rfl,rfl,[],by simp⟩
theorem Xe.trans{Y Z:XM}(h:Xe X Y) (k:Xe Y Z):Xe X Z:=⟨k.ok,by rw[k.n,h.n],by rw[k.bx,h.bx],by
 obtain⟨e1,h1⟩:=h.d;obtain⟨e2,h2⟩:=k.d;exact⟨e1++e2,by rw[h2,h1,iS]⟩⟩
def XM.add (X:XM) (B:ag):XM:={X with dyn:=X.dyn ++ [.jk B]}
end
theorem rT{σ τ:List ag}{n:Nat}{B:ag}(h:ak σ n=some B):ak (σ++τ) n=some B:=by
 rw[I7]at h ⊢;rw[ft (cT.1 h).1,h]
theorem anh{σ:List ag}{B B' : ag}{n:Nat}(h:n=σ.length):ay (σ ++ [B]) n B' = σ ++ [B']:=by
 subst h;rw[R8];simp
inductive Vk:AV->List Int->Prop
 |nil:Vk .ah []
 |aE (q:Bool) (l:List Int):Vk (.aE q (l.map .int)) l
structure Zf (Z:XM) (N:Nat) (bx:List AV):Prop where
 box:∀f,ak (mem Z) (num N (.box f))=some ⟨some 3,[.sl (num N (.wo f)) N 0 N,.sl (num N (.GF f)) N 0 N,.sl (num N (.xN f)) 1025 0 1025],.live⟩
 wo:∀f,ak (mem Z) (num N (.wo f))=some ⟨none,Fz N (.wr f),.live⟩
 wr:∀f s,s<N->ak (mem Z) (num N (.wr f s))=some ⟨none,Vf N (Z.b f).W s,.live⟩
 GF:∀f,ak (mem Z) (num N (.GF f))=some ⟨none,Fz N (.dr f),.live⟩
 dr:∀f s,s<N->ak (mem Z) (num N (.dr f s))=some ⟨none,(Vg N (Z.b f).D s).map .bool,.live⟩
 co:ak (mem Z) (num N .co)=some ⟨none,coc Z,.live⟩
 bx:ak (mem Z) (num N .bx)=some ⟨some 14,bx ++ [.ptr (num N (.box true)) (aC (some 3)) 0,.ptr (num N (.box false)) (aC (some 3)) 0,.sl (num N .co) N 0 N],.live⟩
def rd0:List AV:=List.replicate 1025 .ah
def nbI (N b w d:Nat):Ix->ag
 |.xN _=>⟨none,rd0,.live⟩
 |.box _=>⟨some 3,[if w=0 then .ah else .sl (b+3) w 0 w,if d=0 then .ah else .sl (b+5) d 0 d,.sl b 1025 0 1025],.live⟩
 |.wr _ _=>⟨none,List.replicate N .ah,.live⟩
 |.wo _=>⟨none,(List.range w).map λs=>.sl (b+if s=0 then 2 else 4+2*s) N 0 N,.live⟩
 |.dr _ _=>⟨none,List.replicate N (.bool false),.live⟩
 |.GF _=>⟨none,(List.range d).map λs=>.sl (b+if s=0 then 4 else 5+2*s) N 0 N,.live⟩
 |_=>default
def nbN (w d:Nat):Nat:=if w=0 then 2 else if d=0 then 4 else w+d+4
def nbl (N b w d:Nat):List ag:=(List.range (nbN w d)).map λj=>nbI N b w d (Kw true j)
section
variable{N b w d:Nat}{σ:List ag}
end
def wo:Option (List Int)->AV
 |none=>.ah
 |some w=>.aE true (w.map .int)
structure xi (W:TO) (s:Int) (g:Int->Bool) (out:List PR) (i:Nat) (o:Option (List Int)):Prop where
 no:o=none->∀j:Nat,j<i->j<out.length->(ix out (j:Int)).1=s->g (ix out (j:Int)).2=true->False
 so:∀w,o=some w->∃t,(s,t)∈out/\g t=true/\W s t=some w/\∀(j:Nat) v,j<i->j<out.length->(ix out (j:Int)).1=s->g (ix out (j:Int)).2=true->W s (ix out (j:Int)).2=some v->fw w<=fw v
theorem xi.Fq{W:TO}{s:Int}{g:Int->Bool}{out:List PR}{i:Nat}{o:Option (List Int)}(h:xi W s g out i o) (hk:(ix out (i:Int)).1=s->g (ix out (i:Int)).2=true->∃w v,o=some w/\W s (ix out (i:Int)).2=some v/\fw w<=fw v):xi W s g out (i+1) o:=by
 refine⟨λho j hj hl h1 h2=>?_,λw hw=>?_⟩
 ·by_cases e:j=i
  ·subst e
   obtain⟨w,_,h3,_⟩:=hk h1 h2;rw[ho]at h3;simp at h3
  ·exact h.no ho j (by omega) hl h1 h2
 ·obtain⟨t,t1,t2,t3,t4⟩:=h.so w hw
  refine⟨t,t1,t2,t3,λj v hj hl h1 h2 h3=>?_⟩
  by_cases e:j=i
  ·subst e
   obtain⟨w', v', k1,k2,k3⟩:=hk h1 h2;rw[hw]at k1;injection k1 with k1
   rw[h3]at k2;injection k2 with k2
   rw[k1,k2];exact k3
  ·exact t4 j v (by omega) hl h1 h2 h3
theorem xi.put{W:TO}{s:Int}{g:Int->Bool}{out:List PR}{i:Nat}{o:Option (List Int)}{a:List Int}(h:xi W s g out i o) (hm:(s,(ix out (i:Int)).2)∈out) (h2:g (ix out (i:Int)).2=true) (hv:W s (ix out (i:Int)).2=some a) (hb:∀w,o=some w->fw a<=fw w):xi W s g out (i+1) (some a):=by
 refine⟨λho=>by simp at ho,λw hw=>?_⟩
 injection hw with hw
 subst hw;refine⟨_,hm,h2,hv,λj v hj hl k1 k2 k3=>?_⟩
 by_cases e:j=i
 ·subst e
  rw[hv]at k3;injection k3 with k3
  rw[k3];exact bw _
 ·cases o with
  |none=>exact absurd (h.no rfl j (by omega) hl k1 k2) (λh=>h)
  |some w=>
   obtain⟨t,t1,t2,t3,t4⟩:=h.so w rfl;have:=t4 j v (by omega) hl k1 k2 k3
   have:=hb w rfl;omega
mutual
theorem GG:∀x:AV,jx 0 x=x
 |.int _=>rfl
 |.ik _ _=>rfl
 |.bool _=>rfl
 |.str _=>rfl
 |.agg l=>by simp only[jx,tI l]
 |.bQ l=>by simp only[jx,tI l]
 |.ah=>rfl
 |.emp=>rfl
 |.p7=>rfl
 |.aE _ _=>rfl
 |.arr l=>by simp only[jx,tI l]
 |.sl _ _ _ _=>rfl
 |.ig=>rfl
 |.bd _=>rfl
 |.ptr _ _ _=>rfl
 |.kH=>rfl
 |.func _ l=>by simp only[jx,tI l]
 |.gQ=>rfl
 |.iface _ v=>by simp only[jx,GG v]
 |.cM _=>rfl
 |.aM=>rfl
theorem tI:∀l:List AV,kM 0 l=l
 | []=>rfl
 |x::r=>by simp only[kM,GG x,tI r]
end
section
variable{M:fj}
end
end Ab
namespace Ab
theorem ani{n:ao}(h:n.Ok):n.eV.Sm:=⟨R9 h,by have:=h.syms;show n.calls+n.aj+n.aq<=64;omega⟩
def ao.cs (n:ao):List AV:=[.int n.calls,.int n.aj,.int n.aq,.int n.stack,.int n.start,bL n.accept,cK n.call,cK n.push,cK n.inner,fU n.pop]
section
variable{a b:ao}
end
theorem Kx (n:ao) (h:n.fits) (hb:n.bO=0->n.accept.length^n.bj.length<=512):∃q:ao×Int,PC ql [n.av]=some (.bQ [q.1.av,.int q.2])/\(n.bO ≠ 0->q=(zN,n.bO))/\(n.bO=0->∃ws,iy n.eD n.cp ws/\q=A7 n.eD n.cp ws):=by
 obtain⟨⟨r,e⟩,h1,h2⟩:=amX n h (vP n) (λhv plc hp=>am5 (tm hv) hp) am6;refine⟨(r,e),h1,λhv=>?_,λhv=>?_⟩
 ·cases h2 with
  |inv _=>rfl
  |many _ h _ _=>exact absurd h hv
  |dE _ _ _ h _ _=>exact absurd h hv
  |Kj _ _ _ _ _ h _ _=>exact absurd h hv
  |ok _ _ _ _ _ _ h _ _ _ _=>exact absurd h hv
 ·have:=hb hv
  exact h2.out hv λD hD=>Nat.le_trans hD.few this
theorem anj{n:ao}(h:n.mS=true):(n.accept.length:Int)<=3/\n.stack<=4/\n.small=true:=by
 simp only[ao.mS,aD,eP]at h;exact⟨h.1.1.1,h.1.1.2,h.1.2⟩
theorem ank{n:ao}(hn:n.Ok):n.bj.length<=n.accept.length:=tq n.accept.length ES (uT hn)
theorem anl{n:ao}(h:n.mS=true) (hv:n.bO=0):n.accept.length^n.bj.length<=512:=by
 obtain⟨h1,_,_⟩:=anj h;have h2:=ank (tm hv);have hs:=(tm hv).gr;have a:n.accept.length<=3:=by omega
 have b:n.bj.length<=3:=by omega
 have h3:n.accept.length^n.bj.length<=3^n.bj.length:=Nat.pow_le_pow_left a _;have h4:3^n.bj.length<=3^3:=Nat.pow_le_pow_right (by omega) b
 omega
theorem Ky{A:kL}{L:List Int->Prop}{ws:List (List Int)}(hA:A.Ok) (h1:ws.length<=128) (h2:ws.length*A.c.toNat<=128):(cO A L ws).Vc/\(∀l∈(cO A L ws).call,l.length<=100000)/\(∀l∈(cO A L ws).push,l.length<=100000)/\(∀l∈(cO A L ws).inner,l.length<=100000)/\∀l∈(cO A L ws).pop,l.length<=100000/\∀m∈l,m.length<=100000:=by
 obtain⟨l1,l2,l3,l4,l5⟩:=Ko (A:=A) (L:=L) (ws:=ws);have hs:=hA.s;have hp:=hA.p;have bR:A.aA ws.length=max 1 (ws.length*A.c.toNat):=rfl;have c1:∀l∈(cO A L ws).call,l.length<=64:=λl hl=>by
  have:l∈List.replicate ws.length (List.replicate A.c.toNat (0:Int)):=hl;rw[List.eq_of_mem_replicate this];simp;omega
 have c2:∀l∈(cO A L ws).push,l.length<=64:=λl hl=>by
  obtain⟨s,_,rfl⟩:=cR.1 hl;simp;omega
 have c3:∀l∈(cO A L ws).inner,l.length<=64:=λl hl=>by
  obtain⟨s,_,rfl⟩:=cR.1 hl;simp;omega
 have c4:∀l∈(cO A L ws).pop,l.length<=128/\∀m∈l,m.length<=64:=λl hl=>by
  obtain⟨s,_,rfl⟩:=cR.1 hl;refine⟨by simp;omega,λm hm=>?_⟩
  obtain⟨g,_,rfl⟩:=cR.1 hm;simp;omega
 exact⟨⟨by omega,⟨by omega,λr hr=>by have:=c1 r hr;omega⟩,⟨by omega,λr hr=>by have:=c2 r hr;omega⟩,⟨by omega,λr hr=>by have:=c3 r hr;omega⟩,⟨by omega,λr hr=>⟨by have:=(c4 r hr).1;omega,λm hm=>by have:=(c4 r hr).2 m hm;omega⟩⟩⟩,λl hl=>by have:=c1 l hl;omega,λl hl=>by have:=c2 l hl;omega,λl hl=>by have:=c3 l hl;omega,λl hl=>⟨by have:=(c4 l hl).1;omega,λm hm=>by have:=(c4 l hl).2 m hm;omega⟩⟩
theorem anm{A:kL}{L:List Int->Prop}{ws:List (List Int)}(h:(A7 A L ws).2=0):(A7 A L ws).1=cO A L ws/\ws.length<=128/\ws.length*A.c.toNat<=128/\∀w∈ws,w.length<=1024:=by
 unfold A7 at h ⊢;split at h
 ·simp at h
 ·rename_i h1
  split at h
  ·simp at h
  ·rename_i h2
   rw[aa h1,aa h2];exact⟨rfl,by omega,by omega,λw hw=>eS λhc=>h2 ⟨w,hw,by omega⟩⟩
theorem Wd.ww{M:fj}{s t:Int}{w:List Int}(h:Wd M s t w):Ww ⟨M.calls,M.aj,M.aq⟩ w:=by
 induction h with
 |nil=>exact .nil
 |aQ s i t w i0 i1 _ ih=>
  have:=Ww.app (Ww.aQ (A:=⟨M.calls,M.aj,M.aq⟩) [] i i0 i1 .nil) ih;exact this
 |call s c p r t u v c0 c1 r0 r1 _ _ lV mI=>
  have:=Ww.app (Ww.ak (A:=⟨M.calls,M.aj,M.aq⟩) [] u c r c0 c1 r0 r1 .nil lV) mI;simpa using this
theorem Vl{n:ao}{w:List Int}(h:n.cp w):Ww n.eD w:=by
 obtain⟨t,ht,_⟩:=h;exact ht.ww
structure kQ (n:ao) (ws:List (List Int)):Prop where
 ok:n.Ok
 r:iy n.eD n.cp ws
 k:ws.length<=128
 c:ws.length*n.eD.c.toNat<=128
theorem kQ.o{n:ao}{ws:List (List Int)}(h:kQ n ws):(cO n.eD n.cp ws).Ok:=am1 h.r h.ok.eD h.ok.syms.1 h.k h.c
theorem kQ.wd{n:ao}{ws:List (List Int)}(h:kQ n ws){w:List Int}(hw:Ww n.eD w):Wd (cO n.eD n.cp ws).eV (cO n.eD n.cp ws).start (gN n.eD n.cp ws w) w:=by
 have:=am2 h.r h.ok.eD hw [] .nil;have hn:=h.r.Kq h.ok.eD;have e0:gN n.eD n.cp ws []=0:=xh h.r .nil (by omega) (by omega) (by rw[hn.2];exact jQ.refl _)
 rw[e0,q7]at this;exact this
theorem kQ.cp{n:ao}{ws:List (List Int)}(h:kQ n ws):(cO n.eD n.cp ws).cp=n.cp:=by
 funext w
 apply propext;constructor
 ·intro hl
  have hw:Ww n.eD w:=Vl (n:=cO n.eD n.cp ws) hl;obtain⟨t,ht,ha⟩:=hl;have:=(h.wd hw).qK h.o.m0 ht;rw[<-this]at ha;exact(UZ h.r hw).1 ha
 ·intro hl
  have hw:=Vl hl;exact⟨_,h.wd hw,(UZ h.r hw).2 hl⟩
theorem kQ.entry{n:ao}{ws:List (List Int)}(h:kQ n ws):(cO n.eD n.cp ws).entry:=by
 have l1:=(Ko (A:=n.eD) (L:=n.cp) (ws:=ws)).1;have hc:=h.ok.calls;refine⟨rfl,?_,λs c s0 s1 c0 c1=>(Ao s0 (by rw[l1]at s1;exact s1) c0 c1).1,λs c s0 s1 c0 c1=>(Ao s0 (by rw[l1]at s1;exact s1) c0 c1).2⟩
 rw[l1];show((max 1 (ws.length*n.calls.toNat):Nat):Int)=max 1 ((ws.length:Int)*n.calls);have:(ws.length:Int)*n.calls=((ws.length*n.calls.toNat:Nat):Int):=by rw[oy];congr 1;omega
 rw[this];omega
end Ab
