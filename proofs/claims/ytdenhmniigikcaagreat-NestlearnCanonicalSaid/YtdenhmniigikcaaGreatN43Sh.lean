/- The search in memory; and what it leans on. Condition: none. -/
import Derived.Test.YtdenhmniigikcaaGreatS44Q
set_option linter.all false
set_option maxRecDepth 100000
set_option maxHeartbeats 4000000
namespace Ab
inductive DT where
 |rt (f:Bool) (k:Nat)
 |ra (t:Nat)
 |jk (B:ah)
structure XM where
 N:Nat
 bx:List AV
 S:Bs
 C:Bs
 A:Int->List CR
 ri:Bool->Nat->Nat
 ai:Nat->Nat
 dyn:List DT
def XM.b (X:XM) (f:Bool):Bs:=if f=true then X.S else X.C
inductive Ix where
 |wv (f:Bool)|box (f:Bool)|wr (f:Bool) (s:Nat)|wo (f:Bool)|dr (f:Bool) (s:Nat)|Dc (f:Bool)|co|bx|dy (i:Nat)
def e0 (N:Nat) (f:Bool):Nat:=if f=true then 0 else 2*N+4
def num (N:Nat):Ix->Nat
 |.wv f=>e0 N f
 |.box f=>e0 N f+1
 |.wr f s=>e0 N f+if s=0 then 2 else 4+2*s
 |.wo f=>e0 N f+3
 |.dr f s=>e0 N f+if s=0 then 4 else 5+2*s
 |.Dc f=>e0 N f+5
 |.co=>4*N+8
 |.bx=>4*N+9
 |.dy i=>4*N+10+i
def I9 (f:Bool) (i:Nat):Ix:=if i=0 then .wv f else if i=1 then .box f else if i=2 then .wr f 0 else if i=3 then .wo f else if i=4 then .dr f 0 else if i=5 then .Dc f else if i%2=0 then .wr f (i/2-2)else .dr f (i/2-2)
def alv (N j:Nat):Ix:=if j<2*N+4 then I9 true j else if j<4*N+8 then I9 false (j-(2*N+4))else if j=4*N+8 then .co else if j=4*N+9 then .bx else .dy (j-(4*N+10))
def Ix.val (N D:Nat):Ix->Prop
 |.wr _ s=>s<N
 |.dr _ s=>s<N
 |.dy i=>i<D
 |_=>True
def wc:Option (List Int)->AV
 |none=>.ae
 |some w=>.au true (w.map .int)
def SI (N:Nat) (W:TO) (s:Nat):List AV:=(List.range N).map λ(t:Nat)=>wc (W (s:Int) (t:Int))
def SJ (N:Nat) (D:Int->Int->Bool) (s:Nat):List Bool:=(List.range N).map λ(t:Nat)=>D (s:Int) (t:Int)
def prs (l:List PR):List AV:=l.flatMap λp=>[.int p.1,.int p.2]
def crs (l:List CR):List AV:=l.flatMap λp=>[.int p.1,.int p.2.1,.int p.2.2]
def Cd (N:Nat) (g:Nat->Ix):List AV:=(List.range N).map λs=>.sl (num N (g s)) N 0 N
def rdc (X:XM) (f:Bool):List AV:=(List.range 1025).map λk=>if(X.b f).R k=[]then .ae else .sl (num X.N (.dy (X.ri f k))) (2*((X.b f).R k).length) 0 ((X.b f).R k).length
def coc (X:XM):List AV:=(List.range X.N).map λ(t:Nat)=>if X.A (t:Int)=[]then .ae else .sl (num X.N (.dy (X.ai t))) (3*(X.A (t:Int)).length) 0 (X.A (t:Int)).length
def dcb (X:XM):Option DT->ah
 |some (.rt f k)=>⟨some 2,prs ((X.b f).R k),.live⟩
 |some (.ra t)=>⟨some 3,crs (X.A (t:Int)),.live⟩
 |some (.jk B)=>B
 |none=>default
def cb (X:XM):Ix->ah
 |.wv f=>⟨none,rdc X f,.live⟩
 |.box f=>⟨some 3,[.sl (num X.N (.wo f)) X.N 0 X.N,.sl (num X.N (.Dc f)) X.N 0 X.N,.sl (num X.N (.wv f)) 1025 0 1025],.live⟩
 |.wr f s=>⟨none,SI X.N (X.b f).W s,.live⟩
 |.wo f=>⟨none,Cd X.N (.wr f),.live⟩
 |.dr f s=>⟨none,(SJ X.N (X.b f).D s).map .bool,.live⟩
 |.Dc f=>⟨none,Cd X.N (.dr f),.live⟩
 |.co=>⟨none,coc X,.live⟩
 |.bx=>⟨some 14,X.bx ++ [.ptr (num X.N (.box true)) (aE (some 3)) 0,.ptr (num X.N (.box false)) (aE (some 3)) 0,.sl (num X.N .co) X.N 0 X.N],.live⟩
 |.dy i=>dcb X X.dyn[i]?
def mem (X:XM):List ah:=(List.range (4*X.N+10+X.dyn.length)).map λj=>cb X (alv X.N j)
structure Xok (X:XM):Prop where
 n:1<=X.N/\X.N<=1000
 bx:X.bx.length=11
 r1:∀f k,(X.b f).R k ≠ []->X.dyn[X.ri f k]? = some (.rt f k)
 r2:∀i f k,X.dyn[i]? = some (.rt f k)->(X.b f).R k ≠ []/\i=X.ri f k
 a1:∀t:Nat,X.A (t:Int) ≠ []->X.dyn[X.ai t]? = some (.ra t)
 a2:∀(i t:Nat),X.dyn[i]? = some (.ra t)->X.A (t:Int) ≠ []/\i=X.ai t
section
variable{X Y:XM}
end
def SK{p:Nat->Bool}:∀{σ:List ah}{i:Nat},(∀j,i<=j->j<i+σ.length->p j=false)->bC p i σ=σ
 | [],_,_=>rfl
 |B::r,i,h=>by
  unfold bC;rw[h i (aT _) (by simp),SK λj a b=>h j (by omega) (by simp;omega)]
  rfl
def SM{p:Nat->Bool}:∀{σ τ:List ah}{i:Nat},bC p i (σ++τ)=bC p i σ++bC p (i+σ.length) τ
 | [],τ,i=>by simp[bC]
 |B::r,τ,i=>by
  simp only[jI,bC,bX];rw[SM,show i+1+r.length=i+(r.length+1)by omega]
def SN{p:Nat->Bool}:∀{σ:List ah}{i:Nat},(bC p i σ).length=σ.length
 | [],_=>rfl
 |B::r,i=>by unfold bC;simp[SN]
def vQ{σ:List ah}{B:ah}{n:Nat}(h:n=σ.length):ak (σ ++ [B]) n=some B:=by
 subst h;rw[mc];simp
inductive Rdw (σ:List ah):AV->List Int->Prop
 |nil:Rdw σ .ae []
 |au (q:Bool) (l:List Int):Rdw σ (.au q (l.map .int)) l
 |sl (b:Nat) (l:List Int):ak σ b=some ⟨none,l.map .int,.live⟩->Rdw σ (.sl b l.length 0 l.length) l
section
variable{X:XM}{f:Bool}{s t:Nat}
structure Xe (X Y:XM):Prop where
 ok:Xok Y
 n:Y.N=X.N
 bx:Y.bx=X.bx
 d:∃ext,Y.dyn=X.dyn++ext
theorem Xe.refl (h:Xok X):Xe X X:=⟨h,rfl,rfl,[],by simp⟩
theorem Xe.trans{Y Z:XM}(h:Xe X Y) (k:Xe Y Z):Xe X Z:=⟨k.ok,by rw[k.n,h.n],by rw[k.bx,h.bx],by
 obtain⟨U,h1⟩:=h.d;obtain⟨V,h2⟩:=k.d;exact⟨U++V,by rw[h2,h1,iw]⟩⟩
def XM.add (X:XM) (B:ah):XM:={X with dyn:=X.dyn ++ [.jk B]}
end
variable{n:Nat}
theorem kk{σ τ:List ah}{B:ah}(h:ak σ n=some B):ak (σ++τ) n=some B:=by
 rw[mc]at h ⊢;rw[eC (dq.1 h).1,h]
theorem alw{σ:List ah}{B B' : ah}(h:n=σ.length):ar (σ ++ [B]) n B' = σ ++ [B']:=by
 subst h;rw[tE];simp
inductive SO:AV->List Int->Prop
 |nil:SO .ae []
 |au (q:Bool) (l:List Int):SO (.au q (l.map .int)) l
structure Zf (Z:XM) (N:Nat) (bx:List AV):Prop where
 box:∀f,ak (mem Z) (num N (.box f))=some ⟨some 3,[.sl (num N (.wo f)) N 0 N,.sl (num N (.Dc f)) N 0 N,.sl (num N (.wv f)) 1025 0 1025],.live⟩
 wo:∀f,ak (mem Z) (num N (.wo f))=some ⟨none,Cd N (.wr f),.live⟩
 wr:∀f s,s<N->ak (mem Z) (num N (.wr f s))=some ⟨none,SI N (Z.b f).W s,.live⟩
 Dc:∀f,ak (mem Z) (num N (.Dc f))=some ⟨none,Cd N (.dr f),.live⟩
 dr:∀f s,s<N->ak (mem Z) (num N (.dr f s))=some ⟨none,(SJ N (Z.b f).D s).map .bool,.live⟩
 co:ak (mem Z) (num N .co)=some ⟨none,coc Z,.live⟩
 bx:ak (mem Z) (num N .bx)=some ⟨some 14,bx ++ [.ptr (num N (.box true)) (aE (some 3)) 0,.ptr (num N (.box false)) (aE (some 3)) 0,.sl (num N .co) N 0 N],.live⟩
def rd0:List AV:=List.replicate 1025 .ae
def nbI (N b w d:Nat):Ix->ah
 |.wv _=>⟨none,rd0,.live⟩
 |.box _=>⟨some 3,[if w=0 then .ae else .sl (b+3) w 0 w,if d=0 then .ae else .sl (b+5) d 0 d,.sl b 1025 0 1025],.live⟩
 |.wr _ _=>⟨none,List.replicate N .ae,.live⟩
 |.wo _=>⟨none,(List.range w).map λs=>.sl (b+if s=0 then 2 else 4+2*s) N 0 N,.live⟩
 |.dr _ _=>⟨none,List.replicate N (.bool false),.live⟩
 |.Dc _=>⟨none,(List.range d).map λs=>.sl (b+if s=0 then 4 else 5+2*s) N 0 N,.live⟩
 |_=>default
def nbN (w d:Nat):Nat:=if w=0 then 2 else if d=0 then 4 else w+d+4
def nbl (N b w d:Nat):List ah:=(List.range (nbN w d)).map λj=>nbI N b w d (I9 true j)
section
variable{N b w d:Nat}{σ:List ah}
theorem vR{τ:List ah}{k:Nat}{B:ah}:ar (σ++τ) (σ.length+k) B=σ++τ.set k B:=by
 rw[tE,List.set_append_right _ _ (by omega),show σ.length+k-σ.length=k by omega]
end
def tR (o:Option (List Int)) (e:Int):AV:=
 match o with
 |some w=>.bF [iL w,.bool true,.int 0]
 |none=>.bF [.au false [],.bool false,.int e]
def wo:Option (List Int)->AV
 |none=>.ae
 |some w=>.au true (w.map .int)
structure vS (W:TO) (s:Int) (g:Int->Bool) (out:List PR) (i:Nat) (o:Option (List Int)):Prop where
 no:o=none->∀j:Nat,j<i->j<out.length->(ix out (j:Int)).1=s->g (ix out (j:Int)).2=true->False
 so:∀w,o=some w->∃t,(s,t)∈out/\g t=true/\W s t=some w/\∀(j:Nat) v,j<i->j<out.length->(ix out (j:Int)).1=s->g (ix out (j:Int)).2=true->W s (ix out (j:Int)).2=some v->ct w<=ct v
variable{g:Int->Bool}{out:List PR}{i:Nat}{o:Option (List Int)}
theorem vS.Ca{W:TO}{s:Int}(h:vS W s g out i o) (hk:(ix out (i:Int)).1=s->g (ix out (i:Int)).2=true->∃w v,o=some w/\W s (ix out (i:Int)).2=some v/\ct w<=ct v):vS W s g out (i+1) o:=by
 refine⟨λho j hj hl h1 h2=>?_,λw hw=>?_⟩
 .by_cases e:j=i
  .subst e
   obtain⟨w,_,h3,_⟩:=hk h1 h2;rw[ho]at h3;simp at h3
  .exact h.no ho j (by omega) hl h1 h2
 .obtain⟨t,t1,t2,t3,t4⟩:=h.so w hw
  refine⟨t,t1,t2,t3,λj v hj hl h1 h2 h3=>?_⟩
  by_cases e:j=i
  .subst e
   obtain⟨w', v', U,V,k3⟩:=hk h1 h2;rw[hw]at U;injection U with U
   rw[h3]at V;injection V with V
   rw[U,V];exact k3
  .exact t4 j v (by omega) hl h1 h2 h3
theorem vS.put{W:TO}{s:Int}{a:List Int}(h:vS W s g out i o) (hm:(s,(ix out (i:Int)).2)∈out) (h2:g (ix out (i:Int)).2=true) (hv:W s (ix out (i:Int)).2=some a) (hb:∀w,o=some w->ct a<=ct w):vS W s g out (i+1) (some a):=by
 refine⟨λho=>by simp at ho,λw V=>?_⟩
 injection V with V
 subst V;refine⟨_,hm,h2,hv,λj v hj hl k1 k2 U=>?_⟩
 by_cases e:j=i
 .subst e
  rw[hv]at U;injection U with U
  rw[U];exact aT _
 .cases o with
  |none=>exact absurd (h.no rfl j (by omega) hl k1 k2) (λh=>h)
  |some w=>
   obtain⟨t,t1,t2,t3,t4⟩:=h.so w rfl;have:=t4 j v (by omega) hl k1 k2 U
   have:=hb w rfl;omega
theorem Ja{M:eI}(a:M.Sm){s t:Int}{w:List Int}(h:M.lk s t=some w):w.length<=1024:=((tM a).1 h).1.2
mutual
theorem Dd:∀x:AV,iW 0 x=x
 |.int _=>rfl
 |.ik _ _=>rfl
 |.bool _=>rfl
 |.str _=>rfl
 |.agg l=>by simp only[iW,sf l]
 |.bF l=>by simp only[iW,sf l]
 |.ae=>rfl
 |.emp=>rfl
 |.oT=>rfl
 |.au _ _=>rfl
 |.arr l=>by simp only[iW,sf l]
 |.sl _ _ _ _=>rfl
 |.gI=>rfl
 |.aV _=>rfl
 |.ptr _ _ _=>rfl
 |.j9=>rfl
 |.func _ l=>by simp only[iW,sf l]
 |.gu=>rfl
 |.iface _ v=>by simp only[iW,Dd v]
 |.cC _=>rfl
 |.aF=>rfl
theorem sf:∀l:List AV,km 0 l=l
 | []=>rfl
 |x::r=>by simp only[km,Dd x,sf r]
end
def wC (row gs:List Bool) (t:Nat):Bool:=(List.range t).any λu=>ix row (u:Int)&&ix gs (u:Int)
variable{row gs:List Bool}
theorem alx{t:Nat}:wC row gs (t+1)=(wC row gs t||(ix row (t:Int)&&ix gs (t:Int))):=by simp[wC,gw]
theorem SP{n:Nat}:wC row gs n=true↔∃t:Int,(0<=t/\t<(n:Int))/\ix row t=true/\ix gs t=true:=by
 simp only[wC,List.any_eq_true,bT,aA];constructor
 .rintro⟨u,b,a⟩
  exact⟨u,⟨by omega,by omega⟩,a⟩
 .rintro⟨t,⟨b,a⟩,d⟩
  exact⟨t.toNat,by omega,by rw[show((t.toNat:Nat):Int)=t by omega];exact d⟩
section
variable{M:eI}
end
end Ab
namespace Ab
theorem yS{n:al}(h:n.Ok):n.aQ.Sm:=⟨me h,by have:=h.syms;show n.calls+n.af+n.aj<=64;omega⟩
end Ab
