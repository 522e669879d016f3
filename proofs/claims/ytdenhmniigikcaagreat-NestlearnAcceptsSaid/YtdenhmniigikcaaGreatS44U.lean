/- The search in memory. A word is offered: nested's best. A word is offered: the program does it. One level of the search: what is read. Empty words: newBest. The first word, as the program finds it. Shortest, as the program finds it. The automaton of pairs, as the program has it. Single by the language. Condition: none. -/
import Derived.Test.YtdenhmniigikcaaGreatS44N
import Derived.Test.YtdenhmniigikcaaGreatS44T
import Derived.Test.YtdenhmniigikcaaGreatN44N
import Derived.Test.YtdenhmniigikcaaGreatFrz
set_option linter.all false
set_option maxRecDepth 100000
set_option maxHeartbeats 4000000
namespace Ab
inductive DT where
 |rt (f:Bool) (k:Nat)
 |ra (t:Nat)
 |jk (B:ag)
structure XM where
 N:Nat
 bx:List AV
 S:Bs
 C:Bs
 A:Int->List CR
 ri:Bool->Nat->Nat
 ai:Nat->Nat
 dyn:List DT
def XM.b (X:XM) (f:Bool):Bs:=if f=true then X.S else X.C
inductive Ix where
 |xW (f:Bool)|box (f:Bool)|wr (f:Bool) (s:Nat)|wo (f:Bool)|dr (f:Bool) (s:Nat)|Hd (f:Bool)|co|bx|dy (i:Nat)
def e0 (N:Nat) (f:Bool):Nat:=if f=true then 0 else 2*N+4
def num (N:Nat):Ix->Nat
 |.xW f=>e0 N f
 |.box f=>e0 N f+1
 |.wr f s=>e0 N f+if s=0 then 2 else 4+2*s
 |.wo f=>e0 N f+3
 |.dr f s=>e0 N f+if s=0 then 4 else 5+2*s
 |.Hd f=>e0 N f+5
 |.co=>4*N+8
 |.bx=>4*N+9
 |.dy i=>4*N+10+i
def Lj (f:Bool) (i:Nat):Ix:=if i=0 then .xW f else if i=1 then .box f else if i=2 then .wr f 0 else if i=3 then .wo f else if i=4 then .dr f 0 else if i=5 then .Hd f else if i%2=0 then .wr f (i/2-2)else .dr f (i/2-2)
def aoq (N j:Nat):Ix:=if j<2*N+4 then Lj true j else if j<4*N+8 then Lj false (j-(2*N+4))else if j=4*N+8 then .co else if j=4*N+9 then .bx else .dy (j-(4*N+10))
def Ix.val (N D:Nat):Ix->Prop
 |.wr _ s=>s<N
 |.dr _ s=>s<N
 |.dy i=>i<D
 |_=>True
def wc:Option (List Int)->AV
 |none=>.ah
 |some w=>.aE true (w.map .int)
def VQ (N:Nat) (W:TO) (s:Nat):List AV:=(List.range N).map λ(t:Nat)=>wc (W (s:Int) (t:Int))
def VT (N:Nat) (D:Int->Int->Bool) (s:Nat):List Bool:=(List.range N).map λ(t:Nat)=>D (s:Int) (t:Int)
def prs (l:List PR):List AV:=l.flatMap λp=>[.int p.1,.int p.2]
def crs (l:List CR):List AV:=l.flatMap λp=>[.int p.1,.int p.2.1,.int p.2.2]
def F4 (N:Nat) (g:Nat->Ix):List AV:=(List.range N).map λs=>.sl (num N (g s)) N 0 N
def rdc (X:XM) (f:Bool):List AV:=(List.range 1025).map λk=>if(X.b f).R k=[]then .ah else .sl (num X.N (.dy (X.ri f k))) (2*((X.b f).R k).length) 0 ((X.b f).R k).length
def coc (X:XM):List AV:=(List.range X.N).map λ(t:Nat)=>if X.A (t:Int)=[]then .ah else .sl (num X.N (.dy (X.ai t))) (3*(X.A (t:Int)).length) 0 (X.A (t:Int)).length
def dcb (X:XM):Option DT->ag
 |some (.rt f k)=>⟨some 2,prs ((X.b f).R k),.live⟩
 |some (.ra t)=>⟨some 3,crs (X.A (t:Int)),.live⟩
 |some (.jk B)=>B
 |none=>default
def cb (X:XM):Ix->ag
 |.xW f=>⟨none,rdc X f,.live⟩
 |.box f=>⟨some 3,[.sl (num X.N (.wo f)) X.N 0 X.N,.sl (num X.N (.Hd f)) X.N 0 X.N,.sl (num X.N (.xW f)) 1025 0 1025],.live⟩
 |.wr f s=>⟨none,VQ X.N (X.b f).W s,.live⟩
 |.wo f=>⟨none,F4 X.N (.wr f),.live⟩
 |.dr f s=>⟨none,(VT X.N (X.b f).D s).map .bool,.live⟩
 |.Hd f=>⟨none,F4 X.N (.dr f),.live⟩
 |.co=>⟨none,coc X,.live⟩
 |.bx=>⟨some 14,X.bx ++ [.ptr (num X.N (.box true)) (aC (some 3)) 0,.ptr (num X.N (.box false)) (aC (some 3)) 0,.sl (num X.N .co) X.N 0 X.N],.live⟩
 |.dy i=>dcb X X.dyn[i]?
def mem (X:XM):List ag:=(List.range (4*X.N+10+X.dyn.length)).map λj=>cb X (aoq X.N j)
structure Xok (X:XM):Prop where
 n:1<=X.N/\X.N<=1000
 bx:X.bx.length=11
 r1:∀f k,(X.b f).R k ≠ []->X.dyn[X.ri f k]? = some (.rt f k)
 r2:∀i f k,X.dyn[i]? = some (.rt f k)->(X.b f).R k ≠ []/\i=X.ri f k
 a1:∀t:Nat,X.A (t:Int) ≠ []->X.dyn[X.ai t]? = some (.ra t)
 a2:∀(i t:Nat),X.dyn[i]? = some (.ra t)->X.A (t:Int) ≠ []/\i=X.ai t
section
variable{X Y:XM}
end
theorem VU{p:Nat->Bool}:∀{σ:List ag}{i:Nat},(∀j,i<=j->j<i+σ.length->p j=false)->bQ p i σ=σ
 | [],_,_=>rfl
 |B::r,i,h=>by
  unfold bQ;rw[h i (bA _) (by simp),VU λj h1 h2=>h j (by omega) (by simp;omega)]
  rfl
theorem VV{p:Nat->Bool}:∀{σ τ:List ag}{i:Nat},bQ p i (σ++τ)=bQ p i σ++bQ p (i+σ.length) τ
 | [],τ,i=>by simp[bQ]
 |B::r,τ,i=>by
  simp only[lf,bQ,cy];rw[VV,show i+1+r.length=i+(r.length+1)by omega]
theorem VW{p:Nat->Bool}:∀{σ:List ag}{i:Nat},(bQ p i σ).length=σ.length
 | [],_=>rfl
 |B::r,i=>by unfold bQ;simp[VW]
theorem AE{σ:List ag}{B:ag}{n:Nat}(h:n=σ.length):al (σ ++ [B]) n=some B:=by
 subst h;rw[JM];simp
inductive Rdw (σ:List ag):AV->List Int->Prop
 |nil:Rdw σ .ah []
 |aE (q:Bool) (l:List Int):Rdw σ (.aE q (l.map .int)) l
 |sl (b:Nat) (l:List Int):al σ b=some ⟨none,l.map .int,.live⟩->Rdw σ (.sl b l.length 0 l.length) l
section
variable{X:XM}{f:Bool}{s t:Nat}
structure Xe (X Y:XM):Prop where
 ok:Xok Y
 n:Y.N=X.N
 bx:Y.bx=X.bx
 d:∃ext,Y.dyn=X.dyn++ext
theorem Xe.refl (h:Xok X):Xe X X:=⟨h,rfl,rfl,[],by simp⟩
theorem Xe.trans{Y Z:XM}(h:Xe X Y) (k:Xe Y Z):Xe X Z:=⟨k.ok,by rw[k.n,h.n],by rw[k.bx,h.bx],by
 obtain⟨e1,h1⟩:=h.d;obtain⟨e2,h2⟩:=k.d;exact⟨e1++e2,by rw[h2,h1,iW]⟩⟩
def XM.add (X:XM) (B:ag):XM:={X with dyn:=X.dyn ++ [.jk B]}
end
theorem rW{σ τ:List ag}{n:Nat}{B:ag}(h:al σ n=some B):al (σ++τ) n=some B:=by
 rw[JM]at h ⊢;rw[fw (cV.1 h).1,h]
theorem aor{σ:List ag}{B B' : ag}{n:Nat}(h:n=σ.length):az (σ ++ [B]) n B' = σ ++ [B']:=by
 subst h;rw[SV];simp
inductive VX:AV->List Int->Prop
 |nil:VX .ah []
 |aE (q:Bool) (l:List Int):VX (.aE q (l.map .int)) l
structure Zf (Z:XM) (N:Nat) (bx:List AV):Prop where
 box:∀f,al (mem Z) (num N (.box f))=some ⟨some 3,[.sl (num N (.wo f)) N 0 N,.sl (num N (.Hd f)) N 0 N,.sl (num N (.xW f)) 1025 0 1025],.live⟩
 wo:∀f,al (mem Z) (num N (.wo f))=some ⟨none,F4 N (.wr f),.live⟩
 wr:∀f s,s<N->al (mem Z) (num N (.wr f s))=some ⟨none,VQ N (Z.b f).W s,.live⟩
 Hd:∀f,al (mem Z) (num N (.Hd f))=some ⟨none,F4 N (.dr f),.live⟩
 dr:∀f s,s<N->al (mem Z) (num N (.dr f s))=some ⟨none,(VT N (Z.b f).D s).map .bool,.live⟩
 co:al (mem Z) (num N .co)=some ⟨none,coc Z,.live⟩
 bx:al (mem Z) (num N .bx)=some ⟨some 14,bx ++ [.ptr (num N (.box true)) (aC (some 3)) 0,.ptr (num N (.box false)) (aC (some 3)) 0,.sl (num N .co) N 0 N],.live⟩
def rd0:List AV:=List.replicate 1025 .ah
def nbI (N b w d:Nat):Ix->ag
 |.xW _=>⟨none,rd0,.live⟩
 |.box _=>⟨some 3,[if w=0 then .ah else .sl (b+3) w 0 w,if d=0 then .ah else .sl (b+5) d 0 d,.sl b 1025 0 1025],.live⟩
 |.wr _ _=>⟨none,List.replicate N .ah,.live⟩
 |.wo _=>⟨none,(List.range w).map λs=>.sl (b+if s=0 then 2 else 4+2*s) N 0 N,.live⟩
 |.dr _ _=>⟨none,List.replicate N (.bool false),.live⟩
 |.Hd _=>⟨none,(List.range d).map λs=>.sl (b+if s=0 then 4 else 5+2*s) N 0 N,.live⟩
 |_=>default
def nbN (w d:Nat):Nat:=if w=0 then 2 else if d=0 then 4 else w+d+4
def nbl (N b w d:Nat):List ag:=(List.range (nbN w d)).map λj=>nbI N b w d (Lj true j)
section
variable{N b w d:Nat}{σ:List ag}
end
def wo:Option (List Int)->AV
 |none=>.ah
 |some w=>.aE true (w.map .int)
structure xr (W:TO) (s:Int) (g:Int->Bool) (out:List PR) (i:Nat) (o:Option (List Int)):Prop where
 no:o=none->∀j:Nat,j<i->j<out.length->(ix out (j:Int)).1=s->g (ix out (j:Int)).2=true->False
 so:∀w,o=some w->∃t,(s,t)∈out/\g t=true/\W s t=some w/\∀(j:Nat) v,j<i->j<out.length->(ix out (j:Int)).1=s->g (ix out (j:Int)).2=true->W s (ix out (j:Int)).2=some v->fA w<=fA v
theorem xr.FU{W:TO}{s:Int}{g:Int->Bool}{out:List PR}{i:Nat}{o:Option (List Int)}(h:xr W s g out i o) (hk:(ix out (i:Int)).1=s->g (ix out (i:Int)).2=true->∃w v,o=some w/\W s (ix out (i:Int)).2=some v/\fA w<=fA v):xr W s g out (i+1) o:=by
 refine⟨λho j hj hl h1 h2=>?_,λw hw=>?_⟩
 ·by_cases e:j=i
  ·subst e
   obtain⟨w,_,h3,_⟩:=hk h1 h2;rw[ho]at h3;simp at h3
  ·exact h.no ho j (by omega) hl h1 h2
 ·obtain⟨t,t1,t2,t3,t4⟩:=h.so w hw
  refine⟨t,t1,t2,t3,λj v hj hl h1 h2 h3=>?_⟩
  by_cases e:j=i
  ·subst e
   obtain⟨w', v', k1,k2,k3⟩:=hk h1 h2;rw[hw]at k1;injection k1 with k1
   rw[h3]at k2;injection k2 with k2
   rw[k1,k2];exact k3
  ·exact t4 j v (by omega) hl h1 h2 h3
theorem xr.put{W:TO}{s:Int}{g:Int->Bool}{out:List PR}{i:Nat}{o:Option (List Int)}{a:List Int}(h:xr W s g out i o) (hm:(s,(ix out (i:Int)).2)∈out) (h2:g (ix out (i:Int)).2=true) (hv:W s (ix out (i:Int)).2=some a) (hb:∀w,o=some w->fA a<=fA w):xr W s g out (i+1) (some a):=by
 refine⟨λho=>by simp at ho,λw hw=>?_⟩
 injection hw with hw
 subst hw;refine⟨_,hm,h2,hv,λj v hj hl k1 k2 k3=>?_⟩
 by_cases e:j=i
 ·subst e
  rw[hv]at k3;injection k3 with k3
  rw[k3];exact bA _
 ·cases o with
  |none=>exact absurd (h.no rfl j (by omega) hl k1 k2) (λh=>h)
  |some w=>
   obtain⟨t,t1,t2,t3,t4⟩:=h.so w rfl;have:=t4 j v (by omega) hl k1 k2 k3
   have:=hb w rfl;omega
mutual
theorem He:∀x:AV,jA 0 x=x
 |.int _=>rfl
 |.ik _ _=>rfl
 |.bool _=>rfl
 |.str _=>rfl
 |.agg l=>by simp only[jA,tM l]
 |.bS l=>by simp only[jA,tM l]
 |.ah=>rfl
 |.emp=>rfl
 |.qb=>rfl
 |.aE _ _=>rfl
 |.arr l=>by simp only[jA,tM l]
 |.sl _ _ _ _=>rfl
 |.iw=>rfl
 |.bd _=>rfl
 |.ptr _ _ _=>rfl
 |.kJ=>rfl
 |.func _ l=>by simp only[jA,tM l]
 |.gW=>rfl
 |.iface _ v=>by simp only[jA,He v]
 |.cQ _=>rfl
 |.aM=>rfl
theorem tM:∀l:List AV,kP 0 l=l
 | []=>rfl
 |x::r=>by simp only[kP,He x,tM r]
end
section
variable{M:fm}
end
end Ab
namespace Ab
theorem aos{n:ak}(h:n.Ok):n.eK.Sm:=⟨SX h,by have:=h.syms;show n.calls+n.aj+n.aq<=64;omega⟩
def ak.cs (n:ak):List AV:=[.int n.calls,.int n.aj,.int n.aq,.int n.stack,.int n.start,bL n.accept,cO n.call,cO n.push,cO n.inner,fX n.pop]
section
variable{a b:ak}
end
theorem VY (n:ak) (h:n.fits) (hb:n.bC=0->n.accept.length^n.bw.length<=512):∃q:ak×Int,PC rM [n.av]=some (.bS [q.1.av,.int q.2])/\(n.bC ≠ 0->q=(zN,n.bC))/\(n.bC=0->∃ws,iE n.eQ n.cj ws/\q=xq n.eQ n.cj ws):=by
 obtain⟨⟨r,e⟩,h1,h2⟩:=an6 n h (vP n) (λhv plc hp=>aoe (qp hv) hp) aof;refine⟨(r,e),h1,λhv=>?_,λhv=>?_⟩
 ·cases h2 with
  |inv _=>rfl
  |many _ h _ _=>exact absurd h hv
  |dG _ _ _ h _ _=>exact absurd h hv
  |K6 _ _ _ _ _ h _ _=>exact absurd h hv
  |ok _ _ _ _ _ _ h _ _ _ _=>exact absurd h hv
 ·have:=hb hv
  exact h2.out hv λD hD=>Nat.le_trans hD.few this
theorem aot{n:ak}(h:n.mW=true):(n.accept.length:Int)<=3/\n.stack<=4/\n.small=true:=by
 simp only[ak.mW,aD,eR]at h;exact⟨h.1.1.1,h.1.1.2,h.1.2⟩
theorem aou{n:ak}(hn:n.Ok):n.bw.length<=n.accept.length:=uQ n.accept.length J5 (uY hn)
theorem aov{n:ak}(h:n.mW=true) (hv:n.bC=0):n.accept.length^n.bw.length<=512:=by
 obtain⟨h1,_,_⟩:=aot h;have h2:=aou (qp hv);have hs:=(qp hv).states;have a:n.accept.length<=3:=by omega
 have b:n.bw.length<=3:=by omega
 have h3:n.accept.length^n.bw.length<=3^n.bw.length:=Nat.pow_le_pow_left a _;have h4:3^n.bw.length<=3^3:=Nat.pow_le_pow_right (by omega) b
 omega
theorem VZ{A:kC}{L:List Int->Prop}{ws:List (List Int)}(hA:A.Ok) (h1:ws.length<=128) (h2:ws.length*A.c.toNat<=128):(cR A L ws).XN/\(∀l∈(cR A L ws).call,l.length<=100000)/\(∀l∈(cR A L ws).push,l.length<=100000)/\(∀l∈(cR A L ws).inner,l.length<=100000)/\∀l∈(cR A L ws).pop,l.length<=100000/\∀m∈l,m.length<=100000:=by
 obtain⟨l1,l2,l3,l4,l5⟩:=Lc (A:=A) (L:=L) (ws:=ws);have hs:=hA.s;have hp:=hA.p;have bV:A.aB ws.length=max 1 (ws.length*A.c.toNat):=rfl;have c1:∀l∈(cR A L ws).call,l.length<=64:=λl hl=>by
  have:l∈List.replicate ws.length (List.replicate A.c.toNat (0:Int)):=hl;rw[List.eq_of_mem_replicate this];simp;omega
 have c2:∀l∈(cR A L ws).push,l.length<=64:=λl hl=>by
  obtain⟨s,_,rfl⟩:=cU.1 hl;simp;omega
 have c3:∀l∈(cR A L ws).inner,l.length<=64:=λl hl=>by
  obtain⟨s,_,rfl⟩:=cU.1 hl;simp;omega
 have c4:∀l∈(cR A L ws).pop,l.length<=128/\∀m∈l,m.length<=64:=λl hl=>by
  obtain⟨s,_,rfl⟩:=cU.1 hl;refine⟨by simp;omega,λm hm=>?_⟩
  obtain⟨g,_,rfl⟩:=cU.1 hm;simp;omega
 exact⟨⟨by omega,⟨by omega,λr hr=>by have:=c1 r hr;omega⟩,⟨by omega,λr hr=>by have:=c2 r hr;omega⟩,⟨by omega,λr hr=>by have:=c3 r hr;omega⟩,⟨by omega,λr hr=>⟨by have:=(c4 r hr).1;omega,λm hm=>by have:=(c4 r hr).2 m hm;omega⟩⟩⟩,λl hl=>by have:=c1 l hl;omega,λl hl=>by have:=c2 l hl;omega,λl hl=>by have:=c3 l hl;omega,λl hl=>⟨by have:=(c4 l hl).1;omega,λm hm=>by have:=(c4 l hl).2 m hm;omega⟩⟩
theorem aow{A:kC}{L:List Int->Prop}{ws:List (List Int)}(h:(xq A L ws).2=0):(xq A L ws).1=cR A L ws/\ws.length<=128/\ws.length*A.c.toNat<=128/\∀w∈ws,w.length<=1024:=by
 unfold xq at h ⊢;split at h
 ·simp at h
 ·rename_i h1
  split at h
  ·simp at h
  ·rename_i h2
   rw[ab h1,ab h2];exact⟨rfl,by omega,by omega,λw hw=>eU λhc=>h2 ⟨w,hw,by omega⟩⟩
theorem aox{A:kC}{L:List Int->Prop}{ws:List (List Int)}(h:(xq A L ws).2 ≠ 0):(xq A L ws).1=zN:=by
 unfold xq at h ⊢;split at h
 ·rename_i h1;rw[ae h1]
 ·rename_i h1
  split at h
  ·rename_i h2;rw[ab h1,ae h2]
  ·exact absurd rfl h
theorem Wd.ww{M:fm}{s t:Int}{w:List Int}(h:Wd M s t w):Ww ⟨M.calls,M.aj,M.aq⟩ w:=by
 induction h with
 |nil=>exact .nil
 |aR s i t w i0 i1 _ ih=>
  have:=Ww.app (Ww.aR (A:=⟨M.calls,M.aj,M.aq⟩) [] i i0 i1 .nil) ih;exact this
 |call s c p r t u v c0 c1 r0 r1 _ _ lZ mM=>
  have:=Ww.app (Ww.al (A:=⟨M.calls,M.aj,M.aq⟩) [] u c r c0 c1 r0 r1 .nil lZ) mM;simpa using this
theorem V0{n:ak}{w:List Int}(h:n.cj w):Ww n.eQ w:=by
 obtain⟨t,ht,_⟩:=h;exact ht.ww
structure kT (n:ak) (ws:List (List Int)):Prop where
 ok:n.Ok
 r:iE n.eQ n.cj ws
 k:ws.length<=128
 c:ws.length*n.eQ.c.toNat<=128
theorem kT.o{n:ak}{ws:List (List Int)}(h:kT n ws):(cR n.eQ n.cj ws).Ok:=aoa h.r h.ok.eQ h.ok.syms.1 h.k h.c
theorem kT.wd{n:ak}{ws:List (List Int)}(h:kT n ws){w:List Int}(hw:Ww n.eQ w):Wd (cR n.eQ n.cj ws).eK (cR n.eQ n.cj ws).start (gS n.eQ n.cj ws w) w:=by
 have:=aob h.r h.ok.eQ hw [] .nil;have hn:=h.r.Ld h.ok.eQ;have e0:gS n.eQ n.cj ws []=0:=xp h.r .nil (by omega) (by omega) (by rw[hn.2];exact jS.refl _)
 rw[e0,rf]at this;exact this
theorem kT.cj{n:ak}{ws:List (List Int)}(h:kT n ws):(cR n.eQ n.cj ws).cj=n.cj:=by
 funext w
 apply propext;constructor
 ·intro hl
  have hw:Ww n.eQ w:=V0 (n:=cR n.eQ n.cj ws) hl;obtain⟨t,ht,ha⟩:=hl;have:=(h.wd hw).qt h.o.m0 ht;rw[<-this]at ha;exact(VI h.r hw).1 ha
 ·intro hl
  have hw:=V0 hl;exact⟨_,h.wd hw,(VI h.r hw).2 hl⟩
theorem kT.entry{n:ak}{ws:List (List Int)}(h:kT n ws):(cR n.eQ n.cj ws).entry:=by
 have l1:=(Lc (A:=n.eQ) (L:=n.cj) (ws:=ws)).1;have hc:=h.ok.calls;refine⟨rfl,?_,λs c s0 s1 c0 c1=>(AB s0 (by rw[l1]at s1;exact s1) c0 c1).1,λs c s0 s1 c0 c1=>(AB s0 (by rw[l1]at s1;exact s1) c0 c1).2⟩
 rw[l1];show((max 1 (ws.length*n.calls.toNat):Nat):Int)=max 1 ((ws.length:Int)*n.calls);have:(ws.length:Int)*n.calls=((ws.length*n.calls.toNat:Nat):Int):=by rw[oE];congr 1;omega
 rw[this];omega
theorem aoy{n m:ak}(hn:n.Ok) (hm:m.Ok) (h1:n.calls=m.calls) (h2:n.aj=m.aj) (h3:n.aq=m.aq) (hl:n.cj=m.cj) (w:List Int):n.acc w=m.acc w:=by
 have e1:n.syms=m.syms:=by unfold ak.syms;rw[h1,h2,h3]
 have e2:n.gO=m.gO:=by
  funext p x
  simp only[ak.gO,ak.uP,h1,h2]
 have e3:n.ig w=m.ig w:=by unfold ak.ig;rw[e2]
 have e4:n.tt w=m.tt w:=by unfold ak.tt;rw[e3]
 unfold ak.acc;rw[FY hn,FY hm,e1,e3,e4]
 by_cases hw:eD w m.syms=0
 ·by_cases hmt:m.tt w=true
  ·have hwz:=wV hw
   have a1:=(Uy hn (s:=n.start) (t:=(n.run n.start w).1) (w:=w)).2 ⟨by rw[h1,h2,h3];exact hwz.2,by rw[e4];exact hmt,rfl⟩
   have a2:=(Uy hm (s:=m.start) (t:=(m.run m.start w).1) (w:=w)).2 ⟨hwz.2,hmt,rfl⟩;have:ix n.accept (n.run n.start w).1=ix m.accept (m.run m.start w).1:=by
    have k1:n.cj w↔ix n.accept (n.run n.start w).1=true:=⟨λ⟨t,ht,ha⟩=>by rw[a1.qt hn.m0 ht];exact ha,λha=>⟨_,a1,ha⟩⟩
    have k2:m.cj w↔ix m.accept (m.run m.start w).1=true:=⟨λ⟨t,ht,ha⟩=>by rw[a2.qt hm.m0 ht];exact ha,λha=>⟨_,a2,ha⟩⟩
    rw[hl]at k1;cases x:ix n.accept (n.run n.start w).1<;>cases y:ix m.accept (m.run m.start w).1<;>simp_all
   rw[this]
  ·have:m.tt w=false:=by simpa using hmt
   simp[this]
 ·simp[hw]
end Ab
