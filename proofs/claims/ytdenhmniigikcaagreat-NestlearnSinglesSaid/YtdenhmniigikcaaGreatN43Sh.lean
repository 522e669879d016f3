/- The search in memory; and what it leans on. Condition: none. -/
import Derived.Test.YtdenhmniigikcaaGreatS44S
set_option linter.all false
set_option maxRecDepth 100000
set_option maxHeartbeats 4000000
namespace Ab
inductive DT where
 |rt (f:Bool) (k:Nat)
 |ra (t:Nat)
 |jk (B:al)
structure XM where
 N:Nat
 bx:List AV
 S:Bs
 C:Bs
 A:Int->List CR
 ri:Bool->Nat->Nat
 ai:Nat->Nat
 dyn:List DT
def XM.b (X:XM) (f:Bool):Bs:=if f=true then X.S else X.C
inductive Ix where
 |ya (f:Bool)|box (f:Bool)|wr (f:Bool) (s:Nat)|wo (f:Bool)|dr (f:Bool) (s:Nat)|E4 (f:Bool)|co|bx|dy (i:Nat)
def e0 (N:Nat) (f:Bool):Nat:=if f=true then 0 else 2*N+4
def num (N:Nat):Ix->Nat
 |.ya f=>e0 N f
 |.box f=>e0 N f+1
 |.wr f s=>e0 N f+if s=0 then 2 else 4+2*s
 |.wo f=>e0 N f+3
 |.dr f s=>e0 N f+if s=0 then 4 else 5+2*s
 |.E4 f=>e0 N f+5
 |.co=>4*N+8
 |.bx=>4*N+9
 |.dy i=>4*N+10+i
def Lw (f:Bool) (i:Nat):Ix:=if i=0 then .ya f else if i=1 then .box f else if i=2 then .wr f 0 else if i=3 then .wo f else if i=4 then .dr f 0 else if i=5 then .E4 f else if i%2=0 then .wr f (i/2-2)else .dr f (i/2-2)
def aoj (N j:Nat):Ix:=if j<2*N+4 then Lw true j else if j<4*N+8 then Lw false (j-(2*N+4))else if j=4*N+8 then .co else if j=4*N+9 then .bx else .dy (j-(4*N+10))
def Ix.val (N D:Nat):Ix->Prop
 |.wr _ s=>s<N
 |.dr _ s=>s<N
 |.dy i=>i<D
 |_=>True
def wc:Option (List Int)->AV
 |none=>.ag
 |some w=>.aF true (w.map .int)
def Vu (N:Nat) (W:TO) (s:Nat):List AV:=(List.range N).map λ(t:Nat)=>wc (W (s:Int) (t:Int))
def Vv (N:Nat) (D:Int->Int->Bool) (s:Nat):List Bool:=(List.range N).map λ(t:Nat)=>D (s:Int) (t:Int)
def prs (l:List PR):List AV:=l.flatMap λp=>[.int p.1,.int p.2]
def crs (l:List CR):List AV:=l.flatMap λp=>[.int p.1,.int p.2.1,.int p.2.2]
def DX (N:Nat) (g:Nat->Ix):List AV:=(List.range N).map λs=>.sl (num N (g s)) N 0 N
def rdc (X:XM) (f:Bool):List AV:=(List.range 1025).map λk=>if(X.b f).R k=[]then .ag else .sl (num X.N (.dy (X.ri f k))) (2*((X.b f).R k).length) 0 ((X.b f).R k).length
def coc (X:XM):List AV:=(List.range X.N).map λ(t:Nat)=>if X.A (t:Int)=[]then .ag else .sl (num X.N (.dy (X.ai t))) (3*(X.A (t:Int)).length) 0 (X.A (t:Int)).length
def dcb (X:XM):Option DT->al
 |some (.rt f k)=>⟨some 2,prs ((X.b f).R k),.live⟩
 |some (.ra t)=>⟨some 3,crs (X.A (t:Int)),.live⟩
 |some (.jk B)=>B
 |none=>default
def cb (X:XM):Ix->al
 |.ya f=>⟨none,rdc X f,.live⟩
 |.box f=>⟨some 3,[.sl (num X.N (.wo f)) X.N 0 X.N,.sl (num X.N (.E4 f)) X.N 0 X.N,.sl (num X.N (.ya f)) 1025 0 1025],.live⟩
 |.wr f s=>⟨none,Vu X.N (X.b f).W s,.live⟩
 |.wo f=>⟨none,DX X.N (.wr f),.live⟩
 |.dr f s=>⟨none,(Vv X.N (X.b f).D s).map .bool,.live⟩
 |.E4 f=>⟨none,DX X.N (.dr f),.live⟩
 |.co=>⟨none,coc X,.live⟩
 |.bx=>⟨some 14,X.bx ++ [.ptr (num X.N (.box true)) (aM (some 3)) 0,.ptr (num X.N (.box false)) (aM (some 3)) 0,.sl (num X.N .co) X.N 0 X.N],.live⟩
 |.dy i=>dcb X X.dyn[i]?
def mem (X:XM):List al:=(List.range (4*X.N+10+X.dyn.length)).map λj=>cb X (aoj X.N j)
structure Xok (X:XM):Prop where
 n:1<=X.N/\X.N<=1000
 bx:X.bx.length=11
 r1:∀f k,(X.b f).R k ≠ []->X.dyn[X.ri f k]? = some (.rt f k)
 r2:∀i f k,X.dyn[i]? = some (.rt f k)->(X.b f).R k ≠ []/\i=X.ri f k
 a1:∀t:Nat,X.A (t:Int) ≠ []->X.dyn[X.ai t]? = some (.ra t)
 a2:∀(i t:Nat),X.dyn[i]? = some (.ra t)->X.A (t:Int) ≠ []/\i=X.ai t
section
variable{X Y:XM}
end
def Vw{p:Nat->Bool}:∀{σ:List al}{i:Nat},(∀j,i<=j->j<i+σ.length->p j=false)->bG p i σ=σ
 | [],_,_=>rfl
 |B::r,i,h=>by
  unfold bG;rw[h i (bd _) ab,Vw λj a b=>h j aa ax]
  rfl
def Vx{p:Nat->Bool}:∀{σ τ:List al}{i:Nat},bG p i (σ++τ)=bG p i σ++bG p (i+σ.length) τ
 | [],τ,i=>by simp[bG]
 |B::r,τ,i=>by
  simp only[jD,bG,cO];rw[Vx,show i+1+r.length=i+(r.length+1)by omega]
def Vy{p:Nat->Bool}:∀{σ:List al}{i:Nat},(bG p i σ).length=σ.length
 | [],_=>rfl
 |B::r,i=>by unfold bG;simp[Vy]
def jn{σ:List al}{B:al}{n:Nat}(h:n=σ.length):aq (σ ++ [B]) n=some B:=by
 subst h;rw[C3];simp
inductive Rdw (σ:List al):AV->List Int->Prop
 |nil:Rdw σ .ag []
 |aF (q:Bool) (l:List Int):Rdw σ (.aF q (l.map .int)) l
 |sl (b:Nat) (l:List Int):aq σ b=some ⟨none,l.map .int,.live⟩->Rdw σ (.sl b l.length 0 l.length) l
section
variable{X:XM}{f:Bool}{s t:Nat}
structure Xe (X Y:XM):Prop where
 ok:Xok Y
 n:Y.N=X.N
 bx:Y.bx=X.bx
 d:∃ext,Y.dyn=X.dyn++ext
def Xe.refl (h:Xok X):Xe X X:=⟨h,rfl,rfl,[],ab⟩
def Xe.trans{Y Z:XM}(h:Xe X Y) (k:Xe Y Z):Xe X Z:=⟨k.ok,by rw[k.n,h.n],by rw[k.bx,h.bx],by
 obtain⟨e1,h1⟩:=h.d;obtain⟨e2,h2⟩:=k.d;exact⟨e1++e2,by rw[h2,h1,gZ]⟩⟩
def XM.add (X:XM) (B:al):XM:={X with dyn:=X.dyn ++ [.jk B]}
end
variable{n:Nat}
def sf{σ τ:List al}{B:al}(h:aq σ n=some B):aq (σ++τ) n=some B:=by
 rw[C3]at h ⊢;rw[eJ (dC.1 h).1,h]
def aok{σ:List al}{B B' : al}(h:n=σ.length):ar (σ ++ [B]) n B' = σ ++ [B']:=by
 subst h;rw[JZ];simp
inductive Vz:AV->List Int->Prop
 |nil:Vz .ag []
 |aF (q:Bool) (l:List Int):Vz (.aF q (l.map .int)) l
structure Zf (Z:XM) (N:Nat) (bx:List AV):Prop where
 box:∀f,aq (mem Z) (num N (.box f))=some ⟨some 3,[.sl (num N (.wo f)) N 0 N,.sl (num N (.E4 f)) N 0 N,.sl (num N (.ya f)) 1025 0 1025],.live⟩
 wo:∀f,aq (mem Z) (num N (.wo f))=some ⟨none,DX N (.wr f),.live⟩
 wr:∀f s,s<N->aq (mem Z) (num N (.wr f s))=some ⟨none,Vu N (Z.b f).W s,.live⟩
 E4:∀f,aq (mem Z) (num N (.E4 f))=some ⟨none,DX N (.dr f),.live⟩
 dr:∀f s,s<N->aq (mem Z) (num N (.dr f s))=some ⟨none,(Vv N (Z.b f).D s).map .bool,.live⟩
 co:aq (mem Z) (num N .co)=some ⟨none,coc Z,.live⟩
 bx:aq (mem Z) (num N .bx)=some ⟨some 14,bx ++ [.ptr (num N (.box true)) (aM (some 3)) 0,.ptr (num N (.box false)) (aM (some 3)) 0,.sl (num N .co) N 0 N],.live⟩
def rd0:List AV:=List.replicate 1025 .ag
def nbI (N b w d:Nat):Ix->al
 |.ya _=>⟨none,rd0,.live⟩
 |.box _=>⟨some 3,[if w=0 then .ag else .sl (b+3) w 0 w,if d=0 then .ag else .sl (b+5) d 0 d,.sl b 1025 0 1025],.live⟩
 |.wr _ _=>⟨none,List.replicate N .ag,.live⟩
 |.wo _=>⟨none,(List.range w).map λs=>.sl (b+if s=0 then 2 else 4+2*s) N 0 N,.live⟩
 |.dr _ _=>⟨none,List.replicate N (.bool false),.live⟩
 |.E4 _=>⟨none,(List.range d).map λs=>.sl (b+if s=0 then 4 else 5+2*s) N 0 N,.live⟩
 |_=>default
def nbN (w d:Nat):Nat:=if w=0 then 2 else if d=0 then 4 else w+d+4
def nbl (N b w d:Nat):List al:=(List.range (nbN w d)).map λj=>nbI N b w d (Lw true j)
section
variable{N b w d:Nat}{σ:List al}
def vi{τ:List al}{k:Nat}{B:al}:ar (σ++τ) (σ.length+k) B=σ++τ.set k B:=by
 rw[JZ,List.set_append_right _ _ aa,show σ.length+k-σ.length=k by omega]
end
def wo:Option (List Int)->AV
 |none=>.ag
 |some w=>.aF true (w.map .int)
structure xF (W:TO) (s:Int) (g:Int->Bool) (out:List PR) (i:Nat) (o:Option (List Int)):Prop where
 no:o=none->∀j:Nat,j<i->j<out.length->(ix out (j:Int)).1=s->g (ix out (j:Int)).2=true->False
 so:∀w,o=some w->∃t,(s,t)∈out/\g t=true/\W s t=some w/\∀(j:Nat) v,j<i->j<out.length->(ix out (j:Int)).1=s->g (ix out (j:Int)).2=true->W s (ix out (j:Int)).2=some v->dS w<=dS v
variable{g:Int->Bool}{out:List PR}{i:Nat}{o:Option (List Int)}
def xF.tK{W:TO}{s:Int}(h:xF W s g out i o) (hk:(ix out (i:Int)).1=s->g (ix out (i:Int)).2=true->∃w v,o=some w/\W s (ix out (i:Int)).2=some v/\dS w<=dS v):xF W s g out (i+1) o:=by
 refine⟨λho j hj hl h1 h2=>?_,λw hw=>?_⟩
 .by_cases e:j=i
  .subst e
   obtain⟨w,_,h3,_⟩:=hk h1 h2;rw[ho]at h3;simp at h3
  .exact h.no ho j aa hl h1 h2
 .obtain⟨t,t1,t2,t3,t4⟩:=h.so w hw
  refine⟨t,t1,t2,t3,λj v hj hl h1 h2 h3=>?_⟩
  by_cases e:j=i
  .subst e
   obtain⟨w', v', k1,k2,k3⟩:=hk h1 h2;rw[hw]at k1;injection k1 with k1
   rw[h3]at k2;injection k2 with k2
   rw[k1,k2];exact k3
  .exact t4 j v aa hl h1 h2 h3
def xF.put{W:TO}{s:Int}{a:List Int}(h:xF W s g out i o) (hm:(s,(ix out (i:Int)).2)∈out) (h2:g (ix out (i:Int)).2=true) (hv:W s (ix out (i:Int)).2=some a) (hb:∀w,o=some w->dS a<=dS w):xF W s g out (i+1) (some a):=by
 refine⟨λho=>by simp at ho,λw hw=>?_⟩
 injection hw with hw
 subst hw;refine⟨_,hm,h2,hv,λj v hj hl k1 k2 k3=>?_⟩
 by_cases e:j=i
 .subst e
  rw[hv]at k3;injection k3 with k3
  rw[k3];exact bd _
 .cases o with
  |none=>exact absurd (h.no rfl j aa hl k1 k2) (λh=>h)
  |some w=>
   obtain⟨t,t1,t2,t3,t4⟩:=h.so w rfl;have:=t4 j v aa hl k1 k2 k3
   have:=hb w rfl;omega
mutual
theorem E5:∀x:AV,js 0 x=x
 |.int _=>rfl
 |.ik _ _=>rfl
 |.bool _=>rfl
 |.str _=>rfl
 |.agg l=>by simp only[js,tN l]
 |.bM l=>by simp only[js,tN l]
 |.ag=>rfl
 |.emp=>rfl
 |.qh=>rfl
 |.aF _ _=>rfl
 |.arr l=>by simp only[js,tN l]
 |.sl _ _ _ _=>rfl
 |.iy=>rfl
 |.a8 _=>rfl
 |.ptr _ _ _=>rfl
 |.kS=>rfl
 |.func _ l=>by simp only[js,tN l]
 |.hY=>rfl
 |.iface _ v=>by simp only[js,E5 v]
 |.cP _=>rfl
 |.aO=>rfl
theorem tN:∀l:List AV,kL 0 l=l
 | []=>rfl
 |x::r=>by simp only[kL,E5 x,tN r]
end
section
variable{M:fX}
end
end Ab
namespace Ab
def aol{n:ao}(h:n.Ok):n.eA.Sm:=⟨J0 h,by have:=h.syms;show n.calls+n.ak+n.ah<=64;omega⟩
end Ab
