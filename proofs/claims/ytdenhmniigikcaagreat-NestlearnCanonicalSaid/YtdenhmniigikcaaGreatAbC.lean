/- What is known after an effect is the new list of blocks, and the old one can still be seen. A region: whatever order its operations come in, it does what its lines do in the text's order. Condition: the callees answer as the interpreter says. What holds in the midst of a region. A step of a region keeps what holds. Operations that look at owned blocks, and operations that turn them. Condition: the callees answer as the interpreter says. One operation of a region in any order. One operation of a region, whatever its class. A region does what its lines say. Condition: the callees answer as the interpreter says. An owned value is given away for good; blocks of a round are forgotten. The code of a function does what its small text says. Condition: the callees answer as the interpreter says. Functions do what the interpreter says. Condition: the check of each function. Condition: none. -/
import Derived.Test.YtdenhmniigikcaaGreatAbPhase
import Derived.Scope
set_option linter.all false
namespace Ab
open Go
def uX{σ:List ah}{b u:Nat}{B:ah}(h:fC σ b u=some B):ak σ b=some B/\B.cells.length=u/\B.st ≠ .dead:=by
 unfold fC at h;cases d:ak σ b with
 |none=>simp[d]at h
 |some B' =>
  simp only[d]at h;cases e:B'.st<;>simp only[e]at h<;>first
   |(simp at h;done)
   |(by_cases a:B'.cells.length=u
     .simp[a]at h;subst h;exact⟨rfl,a,by rw[e];simp⟩
     .simp[a]at h)
def iZ (C:Ctx) (σ:List ah):Prop:=∃ids,(∀b u e,(ad σ ids C.I).own b u=some e->C.own b u=some e)/\∀b u,C.lim b u->(ad σ ids C.I).lim b u
def Seen (C:Ctx) (σ:List ah):Prop:=∀b u B,C.lim b u->fC σ b u=some B->∃id,C.own b u=some (B,id)
def iZ.seen{C:Ctx}{σ:List ah}(h:iZ C σ):Seen C σ:=λb u B _ U=>by
 obtain⟨ids,h1,_⟩:=h;exact⟨_,h1 b u _ (qX ids C.I U)⟩
def Lo (σ:List ah) (ids:Nat->Nat) (I:Nat->Prop):iZ (ad σ ids I) σ:=⟨ids,λ_ _ _ h=>h,λ_ _ h=>h⟩
def iZ.w6{C:Ctx}{σ:List ah}(h:iZ C σ) (I' : Nat->Prop):iZ {C with I:=I'} σ:=by
 obtain⟨ids,h1,h2⟩:=h;exact⟨ids,h1,h2⟩
def Seen.w6{C:Ctx}{σ:List ah}(h:Seen C σ) (I' : Nat->Prop):Seen {C with I:=I'} σ:=h
def iZ.take{C:Ctx}{σ:List ah}{w:World}(h:iZ C σ) (U:Good C w):∃ids,Good (ad σ ids C.I) w/\Step C w (ad σ ids C.I) w:=by
 obtain⟨ids,h1,h2⟩:=h;exact⟨ids,Good.shrink U rfl h1 h2⟩
def Ext.fY{σ:List ah}{ids:Nat->Nat}{I:Nat->Prop}{p:Option cD}{C' : Ctx}{w' : World}(hg:Good C' w') (h:Ext σ.length p (ad σ ids I) C') :
  iZ C' (match p with|some q=>fK σ q|none=>σ)/\Seen C' σ:=by
 cases p with
 |none=>
  obtain⟨h1,h2⟩:=h;have hs:iZ C' σ:=⟨ids,λb u e U=>by rw[h1];exact U,λb u U=>by rw[h2]at U;exact U⟩
  exact⟨hs,hs.seen⟩
 |some q=>
  cases q with
  |new B=>
   obtain⟨id,h1,h2⟩:=h;have pC:B.st ≠ .dead:=(hg.kN σ.length B.cells.length B id (by rw[h1];simp[ao])).2.2.2
   refine⟨⟨λq=>if q=σ.length then id else ids q,λb u e U=>?_,λb u U=>?_⟩,λb u B' _ hu=>?_⟩
   .rw[h1];exact zO (I:=C'.I) pC b u e U
   .rw[h2]at U;exact zP (ids:=ids) (I:=C'.I) (id:=id) b u U
   .obtain⟨V,_⟩:=uX hu
    have cL:b<σ.length:=by rw[cX]at V;exact(List.getElem?_eq_some_iff.1 V).1
    rw[h1];simp only[ao];rw[if_neg (by omega)]
    exact⟨_,qX ids I hu⟩
  |news l=>
   obtain⟨sZ,h1,h2⟩:=h;have hblk:∀b,ak (σ++l) b=if b<σ.length then ak σ b else ak l (b-σ.length):=λb=>by
    rw[cX,cX,cX]
    by_cases V:b<σ.length
    .rw[if_pos V,List.getElem?_append_left V]
    .rw[if_neg V,List.getElem?_append_right (by omega)]
   refine⟨⟨λq=>if q<σ.length then ids q else sZ (q-σ.length),λb u e U=>?_,λb u U=>?_⟩,λb u B' _ hu=>?_⟩
   .rw[h1]
    simp only[ad,fK,hblk]at U ⊢
    by_cases V:b<σ.length
    .rw[if_neg (by omega)]
     simp only[V,if_true]at U;exact U
    .simp only[V,if_false]at U
     have cL:b-σ.length<l.length:=by
      cases hq:ak l (b-σ.length)with
      |none=>simp[hq]at U
      |some q=>rw[cX]at hq;exact(List.getElem?_eq_some_iff.1 hq).1
     rw[if_pos (by omega)]
     exact U
   .rw[h2]at U
    simp only[ad,fK,hblk]at U ⊢;rcases U with⟨k1,B1,k2,k3⟩|⟨B1,k2,k3⟩
    .exact⟨B1,by rw[if_neg (by omega)];exact k2,k3⟩
    .have cL:b<σ.length:=by rw[cX]at k2;exact(List.getElem?_eq_some_iff.1 k2).1
     exact⟨B1,by rw[if_pos cL];exact k2,k3⟩
   .obtain⟨V,_⟩:=uX hu
    have cL:b<σ.length:=by rw[cX]at V;exact(List.getElem?_eq_some_iff.1 V).1
    rw[h1];simp only;rw[if_neg (by omega)]
    exact⟨_,qX ids I hu⟩
  |grow b cs=>
   obtain⟨B0,id0,id,gY,h0,h1,h2⟩:=h;obtain⟨V,_⟩:=wQ h0;have hlen:B0.cells.length<(B0.cells++cs).length:=by
    have:0<cs.length:=List.length_pos_iff.2 gY;simp;omega
   have JH:fK σ (.grow b cs)=ar σ b ⟨B0.k,B0.cells++cs,.live⟩:=by simp only[fK,rn,V]
   simp only[JH];refine⟨⟨λq=>if q=b then id else ids q,λb1 u e U=>?_,λb1 u U=>?_⟩,λb1 u B' _ hu=>?_⟩
   .rw[h1]
    exact oR (ids:=ids) (I:=C'.I) (B' :=⟨B0.k,B0.cells++cs,.live⟩) (id' :=id) V (by simp) b1 u e U
   .rw[h2]at U
    rcases U with⟨rfl,rfl⟩|U
    .have cL:b1<σ.length:=by rw[cX]at V;exact(List.getElem?_eq_some_iff.1 V).1
     exact⟨⟨B0.k,B0.cells++cs,.live⟩,by rw[wP cL];simp,Nat.le_refl _⟩
    .exact oS (ids:=ids) (I:=C'.I) V (by show _<=(B0.cells++cs).length;omega) b1 u U
   .obtain⟨k1,k2,_⟩:=uX hu
    rw[h1];simp only[ao];rw[if_neg (by
     rintro⟨rfl,rfl⟩;rw[V]at k1;simp at k1;subst k1;omega)]
    exact⟨_,qX ids I hu⟩
end Ab
namespace Ab
open Go
variable{P:Program}
theorem Lp{ce:CE}{vars:List AV}:∀{ls:List Ln}{s s' : LS},lines ce vars ls s=some s' ->
  ∃st:Nat->LS,st 0=s/\st ls.length=s' /\∀i l,ls[i]? = some l->cT ce vars (st i) l=some (st (i+1))
 | [],s,s', h=>by
  simp[lines]at h;subst h;exact⟨λ_=>s,rfl,rfl,λi l h=>by simp at h⟩
 |l::ls,s,s', h=>by
  simp only[lines]at h;cases a:cT ce vars s l with
  |none=>simp[a]at h
  |some g=>
   simp only[a]at h;obtain⟨st,e0,e,b⟩:=Lp h;refine⟨λi=>match i with|0=>s|i+1=>st i,rfl,by simpa using e,λi l' d=>?_⟩
   cases i with
   |zero=>simp at d;subst d;simp only[a,e0]
   |succ i=>exact b i l' (by simpa using d)
theorem WV{ce:CE}{vars:List AV}{s s' : LS}{l:Ln}(h:cT ce vars s l=some s'):∃v,s'.env=v::s.env:=by
 unfold cT at h;split at h
 .simp at h
 .simp at h;subst h;exact⟨_,rfl⟩
 .split at h
  .split at h
   .simp at h;subst h;exact⟨_,rfl⟩
   .simp at h
  .split at h
   .simp at h;subst h;exact⟨_,rfl⟩
   .simp at h;subst h;exact⟨_,rfl⟩
   .simp at h
def valOf (st:Nat->LS) (i:Nat):AV:=nth (st (i+1)).env 0
theorem Lq{st:Nat->LS}{n:Nat}(a:(st 0).env=[]) (h:∀i,i<n->∃v,(st (i+1)).env=v::(st i).env):∀i,i<=n->∀d,d<i->nth (st i).env d=valOf st (i-1-d)
 |0,_,d,hd=>absurd hd (Nat.not_lt_zero d)
 |i+1,e,d,hd=>by
  obtain⟨v,b⟩:=h i (by omega)
  cases d with
  |zero=>simp[valOf]
  |succ d=>
   rw[b];simp only[nth];rw[Lq a h i (by omega) d (by omega)]
   congr 1
   omega
theorem Lr{ce:CE}{σ:List ah}{nl:Nat}{ps:List cD}{r:Rf->AV}{op:cS}{x:AV}{p:Option cD}(h:op.kP=false) (a:ev ce σ nl ps r op=some (x,p)):p=none:=by
 cases op<;>first
  |(simp[cS.kP]at h;done)
  |(simp only[ev]at a;simp at a;exact a.2.symm)
  |(simp only[ev]at a;(repeat' split at a)<;>first|(simp at a;done)|(simp at a;exact a.2.symm)|(simp at a;obtain⟨_,_,_,e⟩:=a;exact e.symm)|(simp at a;obtain⟨_,_,e⟩:=a;exact e.symm))
def lg (draw:Bool) (a:List Nat) (i j:Nat):Bool:=if draw then((a[j]?).getD 0).testBit i else decide (i<j)
def w7 (a:List Nat) (o:Oper):Nat:=o.after.toList.foldl (λs e=>if Region.binds .any e then s ||| 2^e.on ||| (a[e.on]?).getD 0 else s) 0
def Ls (ops:List Oper):List Nat:=ops.foldl (λacc o=>acc ++ [w7 acc o]) []
def cM (ops:List Oper) (i:Nat):Option Nat:=(ops[i]?).bind (·.dst)
def lh (ls:List Ln) (i:Nat):Option Nat:=
 match ls[i]? with
 |some l=>match l.op with
  |.iF (.t d) _ _=>some (i-1-d)
  |_=>none
 |none=>none
def iN (ops:List Oper) (ls:List Ln) (i:Nat):Option Nat:=
 match lh ls i with
 |some j=>cM ops j
 |none=>cM ops i
def aR (ls:List Ln) (i:Nat):Bool:=
 match ls[i]? with
 |some l=>l.op.kP||l.op.kn
 |none=>false
def D3 (ls:List Ln) (i:Nat):Bool:=
 match ls[i]? with
 |some l=>l.op.kP&&l.g.isNone
 |none=>false
def dU (ls:List Ln) (i:Nat):Option Nat:=
 match ls[i]? with
 |some l=>match l.op with
  |.ff m=>some m
  |_=>none
 |none=>none
def pJ (draw:Bool) (a:List Nat) (ops:List Oper) (ls:List Ln) (sl:List Nat) (i:Nat):Operand->Rf->Bool
 |.tmp s,.t d=>decide (d<i)&&iN ops ls (i-1-d)==some s&&lg draw a (i-1-d) i
 |.tmp s,.v k=>sl[k]? == some s&&(List.range ops.length).all λj=>!(cM ops j==some s)||lg draw a i j
 |.const v,.c x=>jZ v x
 |.func f,.c (.func g [])=>f==g
 |_,_=>false
def ql (draw:Bool) (a:List Nat) (ops:List Oper) (ls:List Ln) (i:Nat) (o:Oper) (l:Ln):Bool:=
 match o.guard,l.g with
 |none,none=>true
 |some (j,b),some (.t d,e)=>b==e && decide (d<i)&&j==i-1-d&&(lh ls j).isNone&&(cM ops j).isSome&&lg draw a j i
 |_,_=>false
def uc (ops:List Oper) (nt i:Nat) (o:Oper):Bool:=
 match o.dst with
 |none=>true
 |some s=>decide (s<nt)&&(List.range i).all λj=>!(cM ops j==some s)
def nN (ls:List Ln) (draw:Bool) (a:List Nat) (i:Nat) (o:Oper) (l:Ln):Bool:=
 match l.op with
 |.ff _=>l.g.isNone&&o.dst.isSome
 |.iF (.t d) _ m=>l.g.isNone&&o.dst.isNone&&decide (d<i)&&dU ls (i-1-d)==some m&&lg draw a (i-1-d) i&&(List.range i).all λj=>!(lh ls j==some (i-1-d))
 |.iF ..=>false
 |_=>true
def hY (ls:List Ln) (i:Nat):Bool:=
 match ls[i]? with
 |some l=>l.g.isNone&&(match l.op with
  |.iH .. | .can .. | .ks .. | .wM | .lZ ..=>true
  |_=>false)
 |none=>false
def loose (ls:List Ln) (draw:Bool) (a:List Nat) (j i:Nat):Bool:=aR ls j&&aR ls i&&decide (j<i) && !lg draw a j i
def nO (ls:List Ln) (draw:Bool) (a:List Nat) (j:Nat):Bool:=(List.range ls.length).any λi=>loose ls draw a j i
def nP (ls:List Ln) (draw:Bool) (a:List Nat) (i:Nat):Bool:=(List.range ls.length).any λj=>loose ls draw a j i
def l9 (ls:List Ln) (draw:Bool) (a:List Nat) (k:Nat):Bool:=((List.range (k+1)).any λj=>nO ls draw a j)&&((List.range ls.length).any λi=>decide (k<=i)&&nP ls draw a i)
def rp (ls:List Ln) (draw:Bool) (a:List Nat) (i:Nat) (l:Ln):Bool:=
 if l.op.kP||l.op.kn then !l.prev&&(!l9 ls draw a i||hY ls i)else true
def gQ (ls:List Ln) (j v:Nat):Bool:=(List.range v).all λk=>!(decide (j<=k)) || !aR ls k||hY ls k
def w8 (ls:List Ln) (draw:Bool) (a:List Nat):Bool:=(List.range ls.length).all λk=>!l9 ls draw a k
def lj (ls:List Ln) (i:Nat) (l:Ln):Nat:=if l.prev then((List.range i).reverse.find? (aR ls)).getD 0 else i
def w9 (ls:List Ln) (a b:Nat):Bool:=(List.range b).all λk=>!(decide (a<=k)) || !aR ls k
def s3 (ls:List Ln) (draw:Bool) (a:List Nat) (i:Nat) (l:Ln):Bool:=
 if l.op.kP||l.op.kn||l.op.jC then true else
  (if l.prev then decide (lj ls i l<i)&&D3 ls (lj ls i l)&&w9 ls (lj ls i l+1) i else true) &&
  (List.range ls.length).all λj=>!aR ls j||(if j<lj ls i l then lg draw a j i||(gQ ls j (lj ls i l)&&w8 ls draw a)else lg draw a i j||(j != i&&D3 ls j&&gQ ls (lj ls i l) j))
def zV (draw:Bool) (a:List Nat) (i:Nat) (o:Oper):Bool:=
 if draw then a[i]? == some (w7 a o)&&o.after.toList.all λe=>!Region.binds .any e||decide (e.on<i)else true
def s4 (P:Program) (draw:Bool) (a:List Nat) (ops:List Oper) (ls:List Ln) (sl:List Nat) (nt i:Nat):Bool:=
 match ops[i]?,ls[i]? with
 |some o,some l=>kX P (pJ draw a ops ls sl i) o.op l.op&&ql draw a ops ls i o l&&uc ops nt i o&&nN ls draw a i o l&&rp ls draw a i l&&s3 ls draw a i l&&zV draw a i o
 |_,_=>false
theorem Lt (b:List Nat) (i:Nat):∀(es:List Edge) (s:Nat),(es.foldl (λs e=>if Region.binds .any e then s ||| 2^e.on ||| (b[e.on]?).getD 0 else s) s).testBit i=true->
  s.testBit i=true\/∃e∈es,Region.binds .any e=true/\(e.on=i\/((b[e.on]?).getD 0).testBit i=true)
 | [],s,h=>.inl h
 |e::es,s,h=>by
  simp only[List.foldl_cons]at h;rcases Lt b i es _ h with h|⟨d, g,j⟩
  .by_cases a:Region.binds .any e=true
   .rw[if_pos a]at h
    simp only[Nat.testBit_or,Bool.or_eq_true,Nat.testBit_two_pow,decide_eq_true_eq]at h;rcases h with(h|h)|h
    .exact .inl h
    .exact .inr ⟨e,by simp,a,.inl h⟩
    .exact .inr ⟨e,by simp,a,.inr h⟩
   .rw[if_neg a]at h
    exact .inl h
  .exact .inr ⟨d, by simp[g],j⟩
structure RC (P:Program) where
 draw:Bool
 bf:List Nat
 ops:List Oper
 ls:List Ln
 sl:List Nat
 nt:Nat
 ce:CE
 vars:List AV
 JT:List ah
 st:Nat->LS
 len:ops.length=ls.length
 ok:∀i,i<ls.length->s4 P draw bf ops ls sl nt i=true
 st0:st 0=⟨[],JT,JT⟩
 run:∀i l,ls[i]? = some l->cT ce vars (st i) l=some (st (i+1))
 pD:ck P ce
 zg:dX P ce
structure rq (X:RC P) (i:Nat) (o:Oper) (l:Ln):Prop where
 op:kX P (pJ X.draw X.bf X.ops X.ls X.sl i) o.op l.op=true
 g:ql X.draw X.bf X.ops X.ls i o l=true
 dst:uc X.ops X.nt i o=true
 iF:nN X.ls X.draw X.bf i o l=true
 WW:rp X.ls X.draw X.bf i l=true
 read:s3 X.ls X.draw X.bf i l=true
 bf:zV X.draw X.bf i o=true
namespace RC
variable (X:RC P)
theorem at_{i:Nat}(h:i<X.ls.length):∃o l,X.ops[i]? = some o/\X.ls[i]? = some l/\rq X i o l:=by
 have:=X.ok i h;unfold s4 at this;split at this
 .rename_i o l a b
  simp only[Bool.and_eq_true]at this;obtain⟨⟨⟨⟨⟨⟨d,e⟩,g⟩,j⟩,m⟩,n⟩,p⟩:=this;exact⟨o,l,a,b,d,e,g,j,m,n,p⟩
 .simp at this
theorem WX{i:Nat}(h:i<X.ls.length):∃v,(X.st (i+1)).env=v::(X.st i).env:=by
 obtain⟨o,l,_,a,_⟩:=X.at_ h;exact WV (X.run i l a)
theorem ud{i:Nat}(h:i<=X.ls.length){d:Nat}(hd:d<i):nth (X.st i).env d=valOf X.st (i-1-d):=
 Lq (by rw[X.st0]) (λi a=>X.WX a) i h d hd
theorem still{i:Nat}{l:Ln}(d:X.ls[i]? = some l) (h:aR X.ls i=false):(X.st (i+1)).σ=(X.st i).σ/\(X.st (i+1)).aC=(X.st i).aC:=by
 have a:=X.run i l d;have b : l.op.kP=false/\l.op.kn=false:=by simpa[aR,d]using h
 unfold cT at a;split at a
 .simp at a
 .simp at a;rw[<-a];exact⟨rfl,rfl⟩
 .rw[if_neg (by rw[b.2];simp)]at a
  split at a
  .simp only[b.1,Bool.false_eq_true,if_false,Option.some.injEq]at a;rw[<-a];exact⟨rfl,rfl⟩
  .rename_i e
   have:=Lr b.1 e;simp at this
  .simp at a
theorem same{p:Nat}:∀(k:Nat),p+k<=X.ls.length->(∀j,p<=j->j<p+k->aR X.ls j=false)->(X.st (p+k)).σ=(X.st p).σ/\(X.st (p+k)).aC=(X.st p).aC
 |0,_,_=>⟨rfl,rfl⟩
 |k+1,h,d=>by
  obtain⟨_,l,_,e,_⟩:=X.at_ (show p+k<X.ls.length by omega)
  obtain⟨g,i⟩:=X.still e (d (p+k) (by omega) (by omega))
  obtain⟨m,n⟩:=same k (by omega) λj a b=>d j a (by omega)
  exact⟨g.trans m,i.trans n⟩
theorem nQ{p q:Nat}(h:p<=q) (e:q<=X.ls.length) (d:∀j,p<=j->j<q->aR X.ls j=false):(X.st q).σ=(X.st p).σ/\(X.st q).aC=(X.st p).aC:=by
 have:=X.same (p:=p) (q-p) (by omega) (λj a b=>d j a (by omega))
 rwa [show p+(q-p)=q by omega]at this
end RC
end Ab
namespace Ab
open Go
variable{P:Program}
structure hZ (X:RC P) (D:Nat->Prop) (C:Ctx) (f:Nat):Prop where
 WY:f<=X.ls.length
 lo:∀e,e<f->aR X.ls e=true->D e
 hi:∀e,f<=e->aR X.ls e=true->¬D e
 fY:iZ C (X.st f).σ
 last:0<f->aR X.ls (f-1)=true/\(D3 X.ls (f-1)=true->Seen C (X.st (f-1)).σ)
def alive (X:RC P) (D:Nat->Prop) (a:Nat) (b:Nat):Prop:=b<(X.st a).σ.length\/∃i,aR X.ls i=true/\l9 X.ls X.draw X.bf i=true/\D i/\(X.st i).σ.length<=b/\b<(X.st (i+1)).σ.length
structure nR (X:RC P) (D:Nat->Prop) (C:Ctx) (lo hi:Nat):Prop where
 nS:∀k,l9 X.ls X.draw X.bf k=true↔lo<=k/\k<=hi
 JU:aR X.ls hi=true
 le:lo<=hi
 before:∀e,e<lo->aR X.ls e=true->D e
 behind:∀e,hi<e->aR X.ls e=true->¬D e
 fY:∃ids,(∀b u e,alive X D lo b->(ad (X.st (hi+1)).σ ids C.I).own b u=some e->C.own b u=some e)/\∀b u,C.lim b u->alive X D lo b/\(ad (X.st (hi+1)).σ ids C.I).lim b u
def ll (X:RC P) (D:Nat->Prop) (C:Ctx) (f:Nat):Prop:=hZ X D C f\/∃a b,nR X D C a b/\∃k,aR X.ls k=true/\l9 X.ls X.draw X.bf k=true/\D k
structure Inv (X:RC P) (C0:Ctx) (w0:World) (ds:List Deferred) (D:Nat->Prop) (C:Ctx) (f:Nat) (a:Act) (w:World):Prop where
 good:Good C w
 step:Step C0 w0 C w
 size:a.tmps.size=X.nt
 defers:a.defers=ds
 below:∀j,D j->j<X.ls.length
 closed:∀i j,D j->lg X.draw X.bf i j=true->D i
 tv:∀j s,D j->iN X.ops X.ls j=some s->VR C w.heap (valOf X.st j) (a.tmps.getD s undef)
 vv:∀k s,X.sl[k]? = some s->(∀j,D j->cM X.ops j ≠ some s)->VR C w.heap (nth X.vars k) (a.tmps.getD s undef)
 lb:∀j m,D j->dU X.ls j=some m->(∀i,D i->lh X.ls i ≠ some j)->∃s id c el,cM X.ops j=some s/\a.tmps.getD s undef = .pointer (some ⟨id,0,none⟩)/\w0.heap.size<=id/\¬C.I id/\¬owned C id/\
  w.heap[id]? = some (.cells c el (0,0))/\c.size=m
 WZ:∀j j' m m' s s' id,D j->D j' ->dU X.ls j=some m->dU X.ls j' = some m' ->(∀i,D i->lh X.ls i ≠ some j)->(∀i,D i->lh X.ls i ≠ some j')->cM X.ops j=some s->cM X.ops j' = some s' ->j ≠ j' ->
  a.tmps.getD s undef = .pointer (some ⟨id,0,none⟩)->a.tmps.getD s' undef ≠ .pointer (some ⟨id,0,none⟩)
 fr:ll X D C f
section
variable{X:RC P}{C0:Ctx}{w0:World}{ds:List Deferred}{D:Nat->Prop}{C:Ctx}{f:Nat}{a:Act}{w:World}
theorem Inv.ref (h:Inv X C0 w0 ds D C f a w){i:Nat}(hi:i<X.ls.length) (hD:¬D i) (hb:∀j,lg X.draw X.bf j i=true->D j){x:Operand}{y:Rf}(U:pJ X.draw X.bf X.ops X.ls X.sl i x y=true) :
  VR C w.heap (rv X.vars (X.st i).env y) (a.eval x):=by
 unfold pJ at U;split at U
 .simp only[Bool.and_eq_true,decide_eq_true_eq,beq_iff_eq]at U
  obtain⟨⟨h1,h2⟩,h3⟩:=U;show VR C w.heap (nth (X.st i).env _) (a.tmps.getD _ undef);rw[X.ud (by omega) h1]
  exact h.tv _ _ (hb _ h3) h2
 .rename_i s k
  simp only[Bool.and_eq_true,beq_iff_eq,List.all_eq_true,List.mem_range,Bool.or_eq_true,Bool.not_eq_true', beq_eq_false_iff_ne]at U;refine h.vv k s U.1 λj V hd=>?_;rcases U.2 j (by rw[X.len];exact h.below j V)with h1|h1
  .exact h1 hd
  .exact hD (h.closed _ _ V h1)
 .exact DO U
 .simp only[beq_iff_eq]at U
  subst U;show VR C w.heap (.func _ []) (.func (.func _) #[] #[]);unfold VR;exact⟨[],rfl,rfl⟩
 .simp at U
theorem Inv.wanted (h:Inv X C0 w0 ds D C f a w){i:Nat}(hi:i<X.ls.length) (hb:∀j,lg X.draw X.bf j i=true->D j){o:Oper}{l:Ln}(hF:rq X i o l){b:Bool}(U:want X.vars (X.st i).env l.g=some b) :
  Region.wanted o (yielded X.ops.toArray a.tmps)=b:=by
 have hg:=hF.g;unfold ql at hg;split at hg
 .rename_i h1 h2
  rw[h2]at U;simp[want]at U;subst U;unfold Region.wanted;rw[h1]
 .rename_i j b1 d b2 h1 h2
  simp only[Bool.and_eq_true,beq_iff_eq,decide_eq_true_eq,Option.isNone_iff_eq_none]at hg;obtain⟨⟨⟨⟨⟨rfl,hd⟩,rfl⟩,ht⟩,CF⟩,zW⟩:=hg;rw[h2]at U;simp only[want,rv,X.ud (Nat.le_of_lt hi) hd]at U;unfold Region.wanted;rw[h1];simp only;have hDj:=hb _ zW;have ke:∀s,cM X.ops (i-1-d)=some s->VR C w.heap (valOf X.st (i-1-d)) (a.tmps.getD s undef):=λs hs=>h.tv _ s hDj (by simp only[iN,ht];exact hs)
  have hy:yielded X.ops.toArray a.tmps (i-1-d)=match(cM X.ops (i-1-d)).bind (a.tmps[·]?)with
    |some (.bool b)=>some b
    |_=>none:=by
   unfold yielded cM;simp only[List.getElem?_toArray]
   rfl
  rw[hy];cases Lu:cM X.ops (i-1-d)with
  |none=>rw[Lu]at CF;simp at CF
  |some s=>
   have V:=ke s Lu;simp only[Option.bind_some];cases hq:valOf X.st (i-1-d)<;>simp only[hq]at U<;>try(simp at U;done)
   .rw[hq]at V
    have V:a.tmps.getD s undef = .bool _:=V;simp at U;subst U;have:a.tmps[s]? = some (.bool ‹Bool›):=by
     rw[Array.getD_eq_getD_getElem?]at V;cases mL : a.tmps[s]? with
     |none=>rw[mL]at V;simp[undef]at V
     |some v=>rw[mL]at V;simp at V;rw[V]
    rw[this];simp
   .rename_i tl
    cases tl with
    |cons _ _=>simp at U
    |nil=>
     simp at U;subst U;rw[hq]at V;unfold VR at V;obtain⟨vs,e1,e2⟩:=V;have e2:vs=[]:=e2;subst e2;rw[Array.getD_eq_getD_getElem?]at e1;cases mL : a.tmps[s]? with
     |none=>rfl
     |some v=>rw[mL]at e1;simp at e1;rw[e1];rfl
 .simp at hg
end
end Ab
namespace Ab
open Go
variable{P:Program}
theorem W0{a:Act}{dst:Option Tmp}{v:Value}{nt:Nat}(b:a.tmps.size=nt) (g:∀s,dst=some s->s<nt) (s:Nat):(a.put dst v).tmps.getD s undef=if dst=some s then v else a.tmps.getD s undef:=by
 cases dst with
 |none=>simp[Act.put]
 |some d=>
  have hd:=g d rfl;simp only[Act.put,Array.getD_eq_getD_getElem?,Array.getElem?_setIfInBounds]
  by_cases e:d=s
  .subst e
   simp[b,hd]
  .simp[e]
theorem W1 (a:Act) (dst:Option Tmp) (v:Value):(a.put dst v).tmps.size=a.tmps.size:=by cases dst<;>simp[Act.put]
theorem W2 (a:Act) (dst:Option Tmp) (v:Value):(a.put dst v).defers=a.defers:=by cases dst<;>rfl
namespace RC
variable (X:RC P)
variable{s:Nat}
theorem xb{i:Nat}(h:cM X.ops i=some s):i<X.ls.length:=by
 unfold cM at h;cases a:X.ops[i]? with
 |none=>simp[a]at h
 |some o=>rw[<-X.len];exact(List.getElem?_eq_some_iff.1 a).1
theorem D4{i:Nat}(h:cM X.ops i=some s):s<X.nt:=by
 obtain⟨o,l,a,d,b⟩:=X.at_ (X.xb h);have:=b.dst;simp only[cM,a,Option.bind_some]at h;simp only[uc,h,Bool.and_eq_true,decide_eq_true_eq]at this;exact this.1
variable{j:Nat}
theorem xc{i:Nat}(h:cM X.ops i=some s) (k:cM X.ops j=some s) (a:j<i):False:=by
 obtain⟨o,l,b,e,d⟩:=X.at_ (X.xb h);have:=d.dst;simp only[cM,b,Option.bind_some]at h;simp only[uc,h,Bool.and_eq_true,List.all_eq_true,List.mem_range]at this;have:=this.2 j a;simp[k]at this
theorem qm{i:Nat}(h:cM X.ops i=some s) (k:cM X.ops j=some s):i=j:=by
 rcases Nat.lt_trichotomy i j with a|b|a
 .exact(X.xc k h a).elim
 .exact b
 .exact(X.xc h k a).elim
variable{t:Nat}
theorem fh{i:Nat}(h:lh X.ls i=some t):i<X.ls.length/\∃o l d x m,X.ops[i]? = some o/\X.ls[i]? = some l/\rq X i o l/\l.op = .iF (.t d) x m/\l.g=none/\o.dst=none/\d<i/\t=i-1-d/\dU X.ls t=some m/\
  lg X.draw X.bf t i=true/\∀j,j<i->lh X.ls j ≠ some t:=by
 unfold lh at h;cases e:X.ls[i]? with
 |none=>simp[e]at h
 |some l=>
  have n:=(List.getElem?_eq_some_iff.1 e).1;obtain⟨o,l', q,a, p⟩:=X.at_ n;rw[e]at a; simp at a; subst a;simp only[e]at h;split at h
  .rename_i d x m b
   have:=p.iF;simp only[nN,b,Bool.and_eq_true,Option.isNone_iff_eq_none,decide_eq_true_eq,beq_iff_eq,List.all_eq_true,List.mem_range,Bool.not_eq_true', beq_eq_false_iff_ne]at this;obtain⟨⟨⟨⟨⟨r,s⟩,u⟩,w⟩,y⟩,z⟩:=this;simp at h;subst h;exact⟨n,o,l,d,x,m,q,rfl,p,b,r,s,u,rfl,w,y,z⟩
  .simp at h
theorem ue{i:Nat}(h:lh X.ls i=some t) (k:lh X.ls j=some t):i=j:=by
 obtain⟨_,_,_,_,_,_,_,_,_,_,_,_,_,_,_,_,b⟩:=X.fh h;obtain⟨_,_,_,_,_,_,_,_,_,_,_,_,_,_,_,_,d⟩:=X.fh k;rcases Nat.lt_trichotomy i j with a|e|a
 .exact absurd h (d i a)
 .exact e
 .exact absurd k (b j a)
end RC
section
variable{X:RC P}{C0:Ctx}{w0:World}{ds:List Deferred}{D:Nat->Prop}{C:Ctx}{f:Nat}{a:Act}{w:World}
theorem ll.rr{i:Nat}(h:ll X D C f) (U:aR X.ls i=false) (I' : Nat->Prop):ll X (λj=>D j\/j=i) {C with I:=I'} f:=by
 rcases h with h|⟨j,i2,h,k0,y1,y2,y3⟩
 .refine .inl ⟨h.WY,λe h1 h2=>.inl (h.lo e h1 h2),λe h1 h2 h3=>?_,h.fY.w6 I', λhf=>⟨(h.last hf).1,λU=>((h.last hf).2 U).w6 I'⟩⟩
  rcases h3 with h3|rfl
  .exact h.hi e h1 h2 h3
  .rw[U]at h2;simp at h2
 .obtain⟨ids,e1,e2⟩:=h.fY
  have V:∀b,alive X (λk=>D k\/k=i) j b↔alive X D j b:=λb=>by
   constructor
   .rintro(h1|⟨k,k1,k2,k3,k4⟩)
    .exact .inl h1
    .rcases k3 with k3|rfl
     .exact .inr ⟨k,k1,k2,k3,k4⟩
     .rw[U]at k1;simp at k1
   .rintro(h1|⟨k,k1,k2,k3,k4⟩)
    .exact .inl h1
    .exact .inr ⟨k,k1,k2,.inl k3,k4⟩
  refine .inr ⟨j,i2,⟨h.nS,h.JU,h.le,λe h1 h2=>.inl (h.before e h1 h2),λe h1 h2 h3=>?_,ids,λb u e ha ho=>e1 b u e ((V b).1 ha) ho,λb u hl=>⟨(V b).2 (e2 b u hl).1,(e2 b u hl).2⟩⟩,k0,y1,y2,.inl y3⟩;rcases h3 with h3|rfl
  .exact h.behind e h1 h2 h3
  .rw[U]at h2;simp at h2
theorem Inv.after (h:Inv X C0 w0 ds D C f a w){i:Nat}(hi:i<X.ls.length) (hD:¬D i) (hb:∀j,lg X.draw X.bf j i=true->D j){o:Oper}(ho:X.ops[i]? = some o){C' : Ctx}{w' : World}{v:Value}{f' : Nat}
  (JV : Good C' w') (jo:Step C w C' w') (W3:lh X.ls i=none) (hv:VR C' w'.heap (valOf X.st i) v)
  (ma:∀m,dU X.ls i=some m->(∃s,o.dst=some s)/\∃id c el,v = .pointer (some ⟨id,0,none⟩)/\w.heap.size<=id/\¬C'.I id/\¬owned C' id/\w'.heap[id]? = some (.cells c el (0,0))/\c.size=m)
  (DH:ll X (λj=>D j\/j=i) C' f'):Inv X C0 w0 ds (λj=>D j\/j=i) C' f' (a.put o.dst v) w' :=by
 have zh:cM X.ops i=o.dst:=by simp[cM,ho]
 have V:=W0 (v:=v) h.size (dst:=o.dst) λs hs=>X.D4 (i:=i) (by rw[zh];exact hs)
 have W4:∀j s,D j->cM X.ops j=some s->(a.put o.dst v).tmps.getD s undef=a.tmps.getD s undef:=λj s U hs=>by
  rw[V,if_neg];intro e;have:=X.qm hs (zh.trans e);exact hD (this▸U)
 have old:∀j m,D j->dU X.ls j=some m->(∀i', (D i' \/i' = i)->lh X.ls i' ≠ some j)->∃s id c el,cM X.ops j=some s/\a.tmps.getD s undef = .pointer (some ⟨id,0,none⟩)/\(a.put o.dst v).tmps.getD s undef = .pointer (some ⟨id,0,none⟩)/\
   w0.heap.size<=id/\¬C'.I id/\¬owned C' id/\w'.heap[id]? = some (.cells c el (0,0))/\c.size=m/\id<w.heap.size:=λj m U hm hn=>by
  obtain⟨s,id,c,el,k1,k2,k3,k4,k5,k6,k7⟩:=h.lb j m U hm λi' lP =>hn i' (.inl lP);have cL:=(Array.getElem?_eq_some_iff.1 k6).1;refine⟨s,id,c,el,k1,k2,by rw[W4 j s U k1];exact k2,k3,λhI=>?_,λhO=>?_,by rw[jo.frame id cL k5];exact k6,k7,cL⟩
  .rcases jo.ga id hI with q|q|q
   .exact k4 q
   .exact k5 q
   .omega
  .rcases jo.fN id hO with q|q
   .exact k5 q
   .omega
 refine⟨JV, h.step.trans jo,by rw[W1];exact h.size,by rw[W2];exact h.defers,λj U=>U.elim (h.below j) (λe=>e▸hi),λi' j U zW=>?_,λj s U hs=>?_,λk s hk hn=>?_,λj m U hm hn=>?_,?_,DH⟩
 .rcases U with U|rfl
  .exact .inl (h.closed _ _ U zW)
  .exact .inl (hb _ zW)
 .rcases U with U|rfl
  .have gY:o.dst ≠ some s:=λe=>by
    unfold iN at hs;cases ht:lh X.ls j with
    |none=>
     simp only[ht]at hs;exact hD (X.qm hs (zh.trans e)▸U)
    |some t=>
     simp only[ht]at hs;obtain⟨_,_,_,_,_,_,_,_,_,_,_,_,_,_,_,Lv,_⟩:=X.fh ht;exact hD (X.qm hs (zh.trans e)▸h.closed _ _ U Lv)
   rw[V,if_neg gY];exact VR.mono jo.ev _ _ (h.tv j s U hs)
  .simp only[iN,W3,zh]at hs
   rw[V,if_pos hs];exact hv
 .have gY:o.dst ≠ some s:=λe=>hn i (.inr rfl) (zh.trans e)
  rw[V,if_neg gY];exact VR.mono jo.ev _ _ (h.vv k s hk λj U=>hn j (.inl U))
 .rcases U with U|rfl
  .obtain⟨s,id,c,el,k1,_,k2,k3,k4,k5,k6,k7,_⟩:=old j m U hm hn
   exact⟨s,id,c,el,k1,k2,k3,k4,k5,k6,k7⟩
  .obtain⟨⟨s,hs⟩,id,c,el,k1,k2,k3,k4,k5,k6⟩:=ma m hm
   exact⟨s,id,c,el,zh.trans hs,by rw[V,if_pos hs];exact k1,Nat.le_trans h.step.size k2,k3,k4,k5,k6⟩
 .intro j j' m m' s s' id U za hm sA hn kV hs iU gY e1 e2
  rcases U with U|rfl<;>rcases za with za | rfl
  .rw[W4 j s U hs]at e1
   rw[W4 j' s' za iU]at e2;exact h.WZ j j' m m' s s' id U za hm sA (λi' lP =>hn i' (.inl lP)) (λi' lP =>kV i' (.inl lP)) hs iU gY e1 e2
  .obtain⟨s1,id1,c,el,k1,_,k2,_,_,_,_,_,k3⟩:=old j m U hm hn
   rw[k1]at hs;simp at hs;subst hs;obtain⟨_,zd,c2,JW,q1,q2,_⟩:=ma m' sA;rw[V,if_pos (zh.symm.trans iU),q1]at e2;rw[k2]at e1;simp at e1 e2;omega
  .obtain⟨s1,id1,c,el,k1,_,k2,_,_,_,_,_,k3⟩:=old j' m' za sA kV
   rw[k1]at iU; simp at iU; subst iU;obtain⟨_,zd,c2,JW,q1,q2,_⟩:=ma m hm;rw[V,if_pos (zh.symm.trans hs),q1]at e1;rw[k2]at e2;simp at e1 e2;omega
  .exact gY rfl
theorem Inv.fill (h:Inv X C0 w0 ds D C f a w){i t d m:Nat}{x:Rf}(hi:i<X.ls.length) (hD:¬D i) (hb:∀j,lg X.draw X.bf j i=true->D j){l:Ln}(hl:X.ls[i]? = some l) (eS:l.op = .iF (.t d) x m) (ht:lh X.ls i=some t)
  {xv:AV} {y:Value} (ke:valOf X.st i = .aV xv) (hn:aI xv=true) (W5:VR C w.heap xv y) {s id:Nat} {c:Array Value} {el:TypeId} (hs:cM X.ops t=some s) (hp:a.tmps.getD s undef = .pointer (some ⟨id,0,none⟩))
  (hid:w0.heap.size<=id) (hI:¬C.I id) (hO:¬owned C id) (hH:w.heap[id]? = some (.cells c el (0,0))) {c' : Array Value} (JF:c'.size=c.size) (hc:∀j,j<y.cells.size->c'[j]? = y.cells[j]?) :
  Inv X C0 w0 ds (λj=>D j\/j=i) {C with I:=λk=>C.I k\/k=id} f a (w.setRow id c'):=by
 obtain⟨_,o,l', d', x', m', ho,j8, hF,uY, hg,D5,hd,JX,ma,Lv,Lw⟩:=X.fh ht;have hDt:=hb _ Lv;have zh:cM X.ops i=none:=by simp[cM,ho,D5]
 have uL : (w.setRow id c').heap[id]? = some (.cells c' el (0,0)):=setRow_heap w id c c' el (0,0) hH;have cL:=(Array.getElem?_eq_some_iff.1 hH).1;have ev:fF C w.heap {C with I:=λk=>C.I k\/k=id} (w.setRow id c').heap:=by
  refine⟨λk hk=>.inl hk,λk hk=>jy w id c' λe=>hI (e▸hk),λ_ _ h=>h,λb u B' zd _ U=>⟨B', U,rfl,rfl,λc2 JW zX=>?_⟩⟩
  by_cases e:zd=id
  .subst e
   rw[hH]at zX;simp at zX;obtain⟨rfl,rfl⟩:=zX;exact⟨c', uL, JF⟩
  .exact⟨c2,by rw[jy w id c' e];exact zX,rfl⟩
 have Lx:Good {C with I:=λk=>C.I k\/k=id} (w.setRow id c'):=by
  refine⟨λk hk=>by rw[mJ];exact hk.elim (h.good.I k) (λe=>e▸cL),h.good.kN,λb u B i' U xd=>?_,h.good.apart,λb u B i' es U xd=>?_⟩
  obtain⟨k1,c2,JW,k2,k3,k4⟩:=h.good.live b u B i' U xd;have gY:i' ≠ id:=λe=>hO ⟨b,u,B,e▸U,kT xd⟩;refine⟨λhk=>hk.elim k1 gY,c2,JW,by rw[jy w id c' gY];exact k2,k3,λi2 x2 Uh=>?_⟩
  obtain⟨y2,j1,j2,j3⟩:=k4 i2 x2 Uh;exact⟨y2,j1,VR.mono ev _ _ j2,j3⟩;have gY:i' ≠ id:=λe=>hO ⟨b,u,B,e▸U,kQ xd⟩;exact h.good.cQ (C' :={C with I:=λk=>C.I k\/k=id}) ev U xd (jy w id c' gY) (λhk=>hk.elim (h.good.maps b u B i' es U xd).1 gY)
 have Ly:Step C0 w0 {C with I:=λk=>C.I k\/k=id} (w.setRow id c'):=by
  refine⟨h.step.ev.trans ev,by rw[mJ];exact h.step.size,λk hk DJ=>by rw[jy w id c' (by omega)];exact h.step.frame k hk DJ,λk hk=>h.step.fN k hk,λk hk=>?_,h.step.os,h.step.tape,h.step.output⟩
  rcases hk with hk|rfl
  .exact h.step.ga k hk
  .exact .inr (.inr hid)
 have gY:aR X.ls i=false:=by simp[aR,hl,eS,cS.kP,cS.kn]
 have W6:∀i', D i' ->lh X.ls i' ≠ some t:=λi' lP e=>hD (X.ue ht e▸lP);refine⟨Lx,Ly,h.size,h.defers,λj V=>V.elim (h.below j) (λe=>e▸hi),λi' j V zW=>?_,λj s' V iU =>?_,λk s' hk kV =>?_,λj m2 V hm kV =>?_,?_,h.fr.rr gY _⟩
 .rcases V with V|rfl
  .exact .inl (h.closed _ _ V zW)
  .exact .inl (hb _ zW)
 .rcases V with V|rfl
  .exact VR.mono ev _ _ (h.tv j s' V iU)
  .simp only[iN,ht]at iU
   rw[hs]at iU; simp at iU; subst iU;rw[ke,hp];unfold VR;exact⟨hn,id,0,c', el,(0,0),y,rfl,.inr rfl,uL, VR.mono ev _ _ W5,λj V=>by rw[Nat.zero_add];exact hc j V⟩
 .exact VR.mono ev _ _ (h.vv k s' hk λj V=>kV j (.inl V))
 .rcases V with V|rfl
  .obtain⟨s2,zd,c2,JW,k1,k2,k3,k4,k5,k6,k7⟩:=h.lb j m2 V hm λi' lP =>kV i' (.inl lP)
   have Lz:j ≠ t:=λe=>kV i (.inr rfl) (e▸ht);have LA:zd ≠ id:=λe=>by
    subst e;exact h.WZ j t m2 m' s2 s zd V hDt hm ma (λi' lP =>kV i' (.inl lP)) W6 k1 hs Lz k2 hp
   exact⟨s2,zd,c2,JW,k1,k2,k3,λhk=>hk.elim k4 LA,k5,by rw[jy w id c' LA];exact k6,k7⟩
  .simp[dU,hl,eS]at hm
 .intro j j' m1 m2 s1 s2 zd V za hm sA hn1 hn2 hs1 hs2 W7 e1 e2
  have D6:∀j m,(D j\/j=i)->dU X.ls j=some m->D j:=λj m V hm=>V.elim (λq=>q) λe=>by
   subst e;simp[dU,hl,eS]at hm
  exact h.WZ j j' m1 m2 s1 s2 zd (D6 j m1 V hm) (D6 j' m2 za sA) hm sA (λi' lP =>hn1 i' (.inl lP)) (λi' lP =>hn2 i' (.inl lP)) hs1 hs2 W7 e1 e2
end
end Ab
namespace Ab
open Go
variable{P:Program}
section
variable{a:Act}{r:Rf->AV}{w:World}{C:Ctx}{R:Operand->Rf->Bool}{ce:CE}{σ:List ah}{nl:Nat}{ps:List cD}
variable{o:Oper}{oU:cS}{x:AV}
theorem opR{p:Option cD}(d:kX P R o.op oU=true) (F:oU.jC=false) (G:oU.kP=false) (H:oU.kn=false) (z:ck P ce) (q:Good C w)
  (i:∀b u B,C.lim b u->fC σ b u=some B->∃id,C.own b u=some (B,id))
  (l:∀x y,R x y=true->VR C w.heap (r y) (a.eval x)) (m:ev ce σ nl ps r oU=some (x,p)):bA P o a w (cR C w x):=by
 have j:∀b u B,C.lim b u->upto σ b u=some B->∃id,C.own b u=some (B,id):=λb u B I h=>i b u B I (K0 h);obtain⟨dst,op,type,pos,after,guard⟩:=o;have pl:∀{E : AV} {p' : Option cD},Plain P a.eval ⟨dst,op,type,pos,after,guard⟩ w C w.heap E /\p' = none->bA P ⟨dst,op,type,pos,after,guard⟩ a w (cR C w E):=λh=>h.1.does q;simp only[kX]at d;split at d
 all_goals first
  |(exfalso;simp[cS.jC]at F;done)
  |(exfalso;simp[cS.kn]at H;done)
  |(exfalso;simp[cS.kP]at G;done)
  |skip
 .simp only[Bool.and_eq_true,Bool.or_eq_true]at d
  exact pl (K4 (a:=a) rfl rfl d.1.1 d.1.2 j (d.2.imp (λh=>⟨h.1,l _ _ h.2⟩) (λh=>⟨h.1,l _ _ h.2⟩)) m)
 .simp only[Bool.and_eq_true]at d
  exact pl (wY rfl d.1 q j (l _ _ d.2) m)
 .simp only[Bool.and_eq_true]at d
  obtain⟨⟨⟨g,n⟩,A⟩,J⟩:=d;split at g
  .rename_i e s
   exact pl (K5 rfl s g j (l _ _ n) A J l m)
  .simp at g
 .simp only[Bool.and_eq_true,beq_iff_eq]at d
  obtain⟨⟨rfl,g⟩,n⟩:=d;exact(Kj z rfl rfl g q j (l7 l n) m).1
 .simp only[Bool.and_eq_true,beq_iff_eq]at d
  obtain⟨⟨⟨g,rfl⟩,n⟩,A⟩:=d;split at g
  .rename_i s
   simp only[Bool.and_eq_true]at g;exact pl (K6 rfl s g.1 g.2 q i (l _ _ n) (l _ _ A) m)
  .simp at g
 .split at d
  .rename_i K D
   simp only[Bool.and_eq_true]at d;obtain⟨g,n⟩:=d;split at g
   .rename_i s
    exact pl (K7 rfl rfl K D s q i (l _ _ n) m)
   .simp at g
  .simp at d
 .simp only[Bool.and_eq_true]at d
  exact pl (KB rfl d.1 q j (l _ _ d.2) m)
 .simp at d
theorem opW{q : List ah}{ids:Nat->Nat}{I:Nat->Prop}(b:kX P R o.op oU=true) (A:oU.kn=true) (s:ck P ce) (u:dX P ce) (j:Good (ad σ ids I) w)
  (g:∀x y,R x y=true->VR (ad σ ids I) w.heap (r y) (a.eval x)) (l:fI ce σ r oU=some (x,q)):bA P o a w (jA σ ids I w x q):=by
 obtain⟨dst,op,type,pos,after,guard⟩:=o;simp only[kX]at b;split at b
 all_goals first
  |(exfalso;simp[cS.kn]at A;done)
  |skip
 .simp only[Bool.and_eq_true]at b
  exact KH rfl b.1.1 j (g _ _ b.1.2) (g _ _ b.2) l
 .split at b
  .rename_i z p
   simp only[Bool.and_eq_true]at b;obtain⟨⟨⟨d,h⟩,m⟩,n⟩:=b;split at d
   .rename_i e i
    simp only[Bool.and_eq_true]at d;exact VI rfl rfl z p i h d.1.1 d.1.2 d.2 j (g _ _ m) (g _ _ n) l
   .simp at d
  .simp at b
 .simp only[Bool.and_eq_true,beq_iff_eq]at b
  obtain⟨⟨rfl,d⟩,h⟩:=b;exact VT s rfl rfl d j (l7 g h) l
 .simp only[Bool.and_eq_true]at b
  exact VU s u rfl rfl j (g _ _ b.1) (l7 g b.2) l
 .split at b
  .rename_i z p
   simp only[Bool.and_eq_true]at b;obtain⟨d,h⟩:=b;split at d
   .rename_i e i
    simp only[Bool.and_eq_true]at d;exact VY rfl rfl z p i d.1 d.2 j (g _ _ h) l
   .simp at d
  .simp at b
 .simp only[Bool.and_eq_true]at b
  obtain⟨⟨⟨d,h⟩,m⟩,n⟩:=b;split at d
  .rename_i i
   exact KJ (.inl rfl) i d j (g _ _ h) (g _ _ m) (g _ _ n) l
  .simp at d
 .simp only[Bool.and_eq_true]at b
  obtain⟨⟨⟨d,h⟩,m⟩,n⟩:=b;split at d
  .rename_i i
   exact KJ (.inr rfl) i d j (g _ _ h) (g _ _ m) (g _ _ n) l
  .simp at d
 .simp only[Bool.and_eq_true]at b
  obtain⟨⟨⟨d,h⟩,m⟩,n⟩:=b;split at d
  .rename_i i
   simp only[Bool.and_eq_true,decide_eq_true_eq]at d;exact KO (.inl rfl) i d.1 d.2 j (g _ _ h) (g _ _ m) (g _ _ n) l
  .simp at d
 .simp only[Bool.and_eq_true]at b
  obtain⟨⟨⟨d,h⟩,m⟩,n⟩:=b;split at d
  .rename_i i
   simp only[Bool.and_eq_true,decide_eq_true_eq]at d;exact KO (.inr rfl) i d.1 d.2 j (g _ _ h) (g _ _ m) (g _ _ n) l
  .simp at d
 .simp at b
variable{n:Nat}
theorem opA(b:kX P R o.op (.ff n)=true) (g:Good C w) :
  bA P o a w λv w' =>Good C w' /\Step C w C w' /\∃id c el,v = .pointer (some ⟨id,0,none⟩)/\w.heap.size<=id/\¬C.I id/\¬owned C id/\w'.heap[id]? = some (.cells c el (0,0))/\c.size=n:=by
 obtain⟨dst,op,type,pos,after,guard⟩:=o;simp only[kX]at b;split at b
 all_goals first
  |(rename_i heq;exfalso;simp at heq;done)
  |skip
 .rename_i t r heq
  simp at heq;subst heq;simp only[Bool.and_eq_true]at b;obtain⟨_,e⟩:=b;cases h:P.info? t with
  |none=>simp[h]at e
  |some i=>
   simp only[h]at e;cases j:i.zero with
   |none=>simp[j]at e
   |some v=>
    simp only[j,beq_iff_eq]at e;obtain⟨l,m⟩:=g.grow (w' :=bU w (.cells v.cells t)) (by simp[bU]) λk d=>lV w _ d
    refine bA.val (v:=.pointer (some ⟨w.heap.size,0,none⟩)) (w' :=bU w (.cells v.cells t)) ?_ ⟨l,⟨m,by simp[bU],λk d _=>lV w _ d,λk d=>.inl d,λk d=>.inl d,rfl,⟨rfl,Nat.le_refl _⟩,rfl⟩,w.heap.size,v.cells,t,rfl,Nat.le_refl _,λp=>Nat.lt_irrefl _ (g.I _ p),λq=>Nat.lt_irrefl _ (g.lt q),nm w _,e⟩
    simp only[execOp,Instr.alloc,zeroValue,Sem.run_bind,run_typeInfo w h,Result.andThen_ok,j,Sem.run_pure,zy]
 .simp at b
theorem opI{p x:Rf}(d:kX P R o.op (.iF p x n)=true){id:Nat}{c:Array Value}{el:TypeId}(A:∀q,R q p=true->a.eval q = .pointer (some ⟨id,0,none⟩)) (B:w.heap[id]? = some (.cells c el (0,0))) (J:c.size=n)
  (D:∀q,R q x=true->VR C w.heap (r x) (a.eval q)) (i:aI (r x)=true) (E:(r x).cells.length=n) :
  ∃y,VR C w.heap (r x) y/\bA P o a w λ_ w' =>∃c', w' = w.setRow id c' /\c'.size=c.size/\∀j,j<y.cells.size->c'[j]? = y.cells[j]?:=by
 obtain⟨dst,op,type,pos,after,guard⟩:=o;simp only[kX]at d;split at d
 all_goals first
  |(rename_i heq;exfalso;simp at heq;done)
  |skip
 .rename_i t q z p' K L heq
  simp at heq;obtain⟨rfl,rfl,rfl⟩:=heq;simp only[Bool.and_eq_true]at d;obtain⟨⟨F,G⟩,H⟩:=d;have m:=D _ H;have g:il (r x):=⟨λe=>by rw[e]at i;simp[aI]at i,λl e=>by rw[e]at i;simp[aI]at i⟩
  have s:=VR.size g m;have h:∀v∈(a.eval z).cells.toList,v.oneCell' = true:=(VR.cells g m).2;have e:=A _ G;refine⟨a.eval z,m,?_⟩;have b:=run_storeCells_at P id 0 el (a.eval z).cells.toList 0 c w B (by simp;omega) h
  refine bA.skip (w' :=w.setRow id (c.toList.take 0++(a.eval z).cells.toList++c.toList.drop (0+(a.eval z).cells.toList.length)).toArray) ?_ ⟨_,rfl,?_,λj I=>?_⟩
  .have u:=kr F w
   simp only[execOp,Instr.storeAt,e,Instr.sureAddr,storeVar,Sem.run_bind,Sem.run_pure,Result.andThen_ok,u];rw[if_neg (by rw[s,E];simp)]
   simp only[Nat.add_zero]at b;rw[b]
   rfl
  .simp;omega
  .simp[List.getElem?_append_left,I]
 .simp at d
end
end Ab
namespace Ab
open Go
variable{P:Program}
namespace RC
variable (X:RC P)
theorem ew{i:Nat}(a:aR X.ls i=true):i<X.ls.length:=by
 unfold aR at a;cases b:X.ls[i]? with
 |none=>simp[b]at a
 |some l=>exact(List.getElem?_eq_some_iff.1 b).1
variable{k:Nat}
theorem na:l9 X.ls X.draw X.bf k=true↔(∃j,j<=k/\nO X.ls X.draw X.bf j=true)/\∃i,i<X.ls.length/\k<=i/\nP X.ls X.draw X.bf i=true:=by
 simp only[l9,Bool.and_eq_true,List.any_eq_true,List.mem_range,decide_eq_true_eq];constructor
 .rintro⟨⟨j,g,a⟩,i,b,d,e⟩;exact⟨⟨j,by omega,a⟩,i,b,d,e⟩
 .rintro⟨⟨j,g,a⟩,i,b,d,e⟩;exact⟨⟨j,by omega,a⟩,i,b,d,e⟩
theorem mb{i j:Nat}(a:aR X.ls i=true) (d:aR X.ls j=true) (b:j<i):lg X.draw X.bf j i=true\/l9 X.ls X.draw X.bf j=true/\l9 X.ls X.draw X.bf i=true:=by
 cases l:lg X.draw X.bf j i with
 |true=>exact .inl rfl
 |false=>
  have e:loose X.ls X.draw X.bf j i=true:=by simp[loose,a,d,b,l]
  have g:nO X.ls X.draw X.bf j=true:=List.any_eq_true.2 ⟨i,List.mem_range.2 (X.ew a),e⟩;have h:nP X.ls X.draw X.bf i=true:=List.any_eq_true.2 ⟨j,List.mem_range.2 (X.ew d),e⟩;exact .inr ⟨X.na.2 ⟨⟨j,Nat.le_refl _,g⟩,i,X.ew a,by omega,h⟩,X.na.2 ⟨⟨j,by omega,g⟩,i,X.ew a,Nat.le_refl _,h⟩⟩
theorem lq{i:Nat}(a:aR X.ls i=true) (b:l9 X.ls X.draw X.bf i=true):hY X.ls i=true:=by
 obtain⟨o,l,j,d,e⟩:=X.at_ (X.ew a);have h:=e.WW;have g:(l.op.kP||l.op.kn)=true:=by simpa[aR,d]using a
 simp only[rp,g,if_true,Bool.and_eq_true,b,Bool.not_true,Bool.false_or]at h;exact h.2
theorem least{p:Nat->Prop}:∀n,p n->∃m,p m/\∀k,k<m->¬p k:=by
 intro n
 induction n using Nat.strongRecOn with
 |_ n b=>
  intro h
  by_cases a:∃k,k<n/\p k
  .obtain⟨k,d,e⟩:=a;exact b k d e
  .exact⟨n,h,λk g i=>a ⟨k,g,i⟩⟩
theorem xe{p:Nat->Prop}{L:Nat}(a:∀k,p k->k<L){n:Nat}(h:p n):∃m,p m/\∀k,m<k->¬p k:=by
 obtain⟨d,b,e⟩:=least (p:=λd=>d<=L/\p (L-d)) (L-n) ⟨by omega,by have:=a n h;rwa [show L-(L-n)=n by omega]⟩
 refine⟨L-d,b.2,λk i g=>?_⟩;have:=a k g;exact e (L-k) (by omega) ⟨by omega,by rwa [show L-(L-k)=k by omega]⟩
theorem nS(h:l9 X.ls X.draw X.bf k=true):∃d a,(∀k,l9 X.ls X.draw X.bf k=true↔d<=k/\k<=a)/\aR X.ls a=true/\d<=a:=by
 obtain⟨⟨j,_,u⟩,i,C,_,w⟩:=X.na.1 h;have e:∀i,nP X.ls X.draw X.bf i=true->aR X.ls i=true/\∃j,j<i/\nO X.ls X.draw X.bf j=true:=λi a=>by
  obtain⟨j,_,g⟩:=List.any_eq_true.1 a;have l :=g;simp only[loose,Bool.and_eq_true,decide_eq_true_eq]at g;exact⟨g.1.1.2,j,g.1.2,List.any_eq_true.2 ⟨i,List.mem_range.2 (X.ew g.1.1.2),l⟩⟩
 obtain⟨d,x,n⟩:=least (p:=λj=>nO X.ls X.draw X.bf j=true) j u;obtain⟨a,o,y⟩:=xe (p:=λi=>nP X.ls X.draw X.bf i=true) (L:=X.ls.length) (λk z=>X.ew (e k z).1) w;obtain⟨q,r, D,A⟩:=e a o;have hle:d<=a:=by
  have:¬r < d:=λb=>n r b A;omega
 refine⟨d,a,λk=>X.na.trans ⟨?_,?_⟩,q,hle⟩
 .rintro⟨⟨j,s,m⟩,i,_,b1,B⟩
  have E:¬j<d:=λb=>n j b m;have F:¬a<i:=λb=>y i b B;omega
 .rintro⟨s,m⟩
  exact⟨⟨d,s,x⟩,a,X.ew q,m,o⟩
theorem free_spec{i:Nat}{l:Ln}(m:X.ls[i]? = some l) (h:hY X.ls i=true):l.g=none/\l.op.kP=true/\l.op.kn=false/\l.op.mz=false/\(∀ce σ e nl ps r,ev ce σ nl ps r l.op=ev ce e nl ps r l.op)/\
  ∀ce σ nl ps r x p,ev ce σ nl ps r l.op=some (x,p)->((∀f as,l.op ≠ .can f as)/\∃B,p=some (.new B))\/∃n,p=some (.news n):=by
 simp only[hY,m,Bool.and_eq_true,Option.isNone_iff_eq_none]at h;obtain⟨d,j⟩:=h;split at j
 .rename_i b
  rw[b];refine⟨d,rfl,rfl,rfl,λ_ _ _ _ _ _=>rfl,λce σ nl ps r x p a=>.inl ⟨by simp,?_⟩⟩
  simp only[ev]at a;split at a<;>try(simp at a;done)
  split at a<;>simp at a;exact⟨_,a.2.symm⟩
 .rename_i b
  rw[b];refine⟨d,rfl,rfl,rfl,λ_ _ _ _ _ _=>rfl,λce σ nl ps r x p a=>.inr ?_⟩;simp only[ev]at a;split at a<;>try(simp at a;done)
  split at a<;>simp at a;exact⟨_,a.2.symm⟩
 .rename_i b
  rw[b];refine⟨d,rfl,rfl,rfl,λ_ _ _ _ _ _=>rfl,λce σ nl ps r x p a=>.inl ⟨by simp,?_⟩⟩
  simp only[ev]at a;split at a<;>simp at a
  exact⟨_,a.2.symm⟩
 .rename_i b
  rw[b];refine⟨d,rfl,rfl,rfl,λ_ _ _ _ _ _=>rfl,λce σ nl ps r x p a=>.inl ⟨by simp,?_⟩⟩
  simp only[ev,Option.some.injEq,Prod.mk.injEq]at a;exact⟨_,a.2.symm⟩
 .rename_i b
  rw[b];refine⟨d,rfl,rfl,rfl,λ_ _ _ _ _ _=>rfl,λce σ nl ps r x p a=>.inl ⟨by simp,?_⟩⟩
  simp only[ev]at a;split at a<;>simp at a
  exact⟨_,a.2.symm⟩
 .simp at j
theorem uZ{i:Nat}(e:aR X.ls i=true) (j:l9 X.ls X.draw X.bf i=true):∃l,(X.st (i+1)).σ=(X.st i).σ++l:=by
 obtain⟨o,l,r,g,s⟩:=X.at_ (X.ew e);obtain⟨m,u,n,_,_,h⟩:=X.free_spec g (X.lq e j);have d:=X.run i l g;unfold cT at d;simp only[m,want,n,Bool.false_eq_true,if_false]at d;split at d
 .rename_i v b
  rcases h _ _ _ _ _ _ _ b with⟨_,B,a⟩|⟨q,a⟩<;>simp at a
 .rename_i v p b
  simp only[Option.some.injEq]at d;rw[<-d];rcases h _ _ _ _ _ _ _ b with⟨_,B,a⟩|⟨q,a⟩
  .simp at a;subst a;exact⟨_,rfl⟩
  .simp at a;subst a;exact⟨_,rfl⟩
 .simp at d
theorem pre{d e:Nat}(b:∀k,l9 X.ls X.draw X.bf k=true↔d<=k/\k<=e){p:Nat}:∀(n:Nat),d<=p->p+n<=e+1->p+n<=X.ls.length->∃l,(X.st (p+n)).σ=(X.st p).σ++l
 |0,_,_,_=>⟨[],by simp⟩
 |n+1,i,j,m=>by
  obtain⟨l,g⟩:=pre b n i (by omega) (by omega)
  cases h:aR X.ls (p+n)with
  |true=>
   obtain⟨l', a⟩:=X.uZ h ((b _).2 ⟨by omega,by omega⟩)
   exact⟨l++l', by rw[show p+(n+1)=p+n+1 by omega,a, g,List.append_assoc]⟩
  |false=>
   obtain⟨o,l', q,a, r⟩:=X.at_ (show p+n<X.ls.length by omega)
   exact⟨l,by rw[show p+(n+1)=p+n+1 by omega,(X.still a h).1,g]⟩
variable{lo hi p q:Nat}
theorem xg(a:∀k,l9 X.ls X.draw X.bf k=true↔lo<=k/\k<=hi) (b:lo<=p) (d:p<=q) (e:q<=hi+1) (g:q<=X.ls.length):∃l,(X.st q).σ=(X.st p).σ++l:=by
 have:=X.pre a (p:=p) (q-p) b (by omega) (by omega)
 rwa [show p+(q-p)=q by omega]at this
theorem lu(a:∀k,l9 X.ls X.draw X.bf k=true↔lo<=k/\k<=hi) (b:lo<=p) (d:p<=q) (e:q<=hi+1) (g:q<=X.ls.length):(X.st p).σ.length<=(X.st q).σ.length:=by
 obtain⟨l,h⟩:=X.xg a b d e g;rw[h];simp
theorem ta{i:Nat}(h:aR X.ls i=true) (j:hY X.ls i=true):∃l,(X.st (i+1)).σ=(X.st i).σ++l:=by
 obtain⟨o,l,r,e,s⟩:=X.at_ (X.ew h);obtain⟨m,u,n,_,_,g⟩:=X.free_spec e j;have d:=X.run i l e;unfold cT at d;simp only[m,want,n,Bool.false_eq_true,if_false]at d;split at d
 .rename_i v b
  rcases g _ _ _ _ _ _ _ b with⟨_,B,a⟩|⟨q,a⟩<;>simp at a
 .rename_i v p b
  simp only[Option.some.injEq]at d;rw[<-d];rcases g _ _ _ _ _ _ _ b with⟨_,B,a⟩|⟨q,a⟩
  .simp at a;subst a;exact⟨_,rfl⟩
  .simp at a;subst a;exact⟨_,rfl⟩
 .simp at d
theorem uf{p:Nat}:∀(n:Nat),p+n<=X.ls.length->(∀j,p<=j->j<p+n->aR X.ls j=true->hY X.ls j=true)->∃l,(X.st (p+n)).σ=(X.st p).σ++l
 |0,_,_=>⟨[],by simp⟩
 |n+1,h,d=>by
  obtain⟨l,e⟩:=uf n (by omega) λj g i=>d j g (by omega)
  cases b:aR X.ls (p+n)with
  |true=>
   obtain⟨l', a⟩:=X.ta b (d _ (by omega) (by omega) b)
   exact⟨l++l', by rw[show p+(n+1)=p+n+1 by omega,a, e,List.append_assoc]⟩
  |false=>
   obtain⟨o,l', m,a, q⟩:=X.at_ (show p+n<X.ls.length by omega)
   exact⟨l,by rw[show p+(n+1)=p+n+1 by omega,(X.still a b).1,e]⟩
theorem Ui{lo hi:Nat}(a:∀k,l9 X.ls X.draw X.bf k=true↔lo<=k/\k<=hi){b:Nat}:∀(n:Nat),lo+n<=hi+1->lo+n<=X.ls.length->b<(X.st (lo+n)).σ.length->b<(X.st lo).σ.length\/∃i,lo<=i/\i<lo+n/\aR X.ls i=true/\(X.st i).σ.length<=b/\b<(X.st (i+1)).σ.length
 |0,_,_,h=>.inl h
 |n+1,m,p,h=>by
  by_cases g:b<(X.st (lo+n)).σ.length
  .rcases Ui a n (by omega) (by omega) g with h|⟨i,j,q,l⟩
   .exact .inl h
   .exact .inr ⟨i,j,by omega,l⟩
  .cases e:aR X.ls (lo+n)with
   |true=>exact .inr ⟨lo+n,by omega,by omega,e,by omega,h⟩
   |false=>
    obtain⟨o,l', r,d, s⟩:=X.at_ (show lo+n<X.ls.length by omega)
    rw[show lo+(n+1)=lo+n+1 by omega,(X.still d e).1]at h
    omega
theorem lz(h:gQ X.ls p q=true):∀j,p<=j->j<q->aR X.ls j=true->hY X.ls j=true:=λj d a b=>by
 simp only[gQ,List.all_eq_true,List.mem_range,Bool.or_eq_true,Bool.not_eq_true', decide_eq_false_iff_not]at h;rcases h j a with(h|h)|h
 .omega
 .rw[b]at h;simp at h
 .exact h
theorem tc(h:w9 X.ls p q=true):∀j,p<=j->j<q->aR X.ls j=false:=λj a b=>by
 simp only[w9,List.all_eq_true,List.mem_range,Bool.or_eq_true,Bool.not_eq_true', decide_eq_false_iff_not]at h;rcases h j b with h|h
 .exact absurd a h
 .exact h
end RC
section
variable{X:RC P}{C0:Ctx}{w0:World}{ds:List Deferred}{D:Nat->Prop}{C:Ctx}{f:Nat}{a:Act}{w:World}{i:Nat}
theorem hZ.front (h:hZ X D C f) (hD:¬D i) (hb:∀j,lg X.draw X.bf j i=true->D j) (he:aR X.ls i=true) (V:l9 X.ls X.draw X.bf i=false):f<=i/\∀j,f<=j->j<i->aR X.ls j=false:=by
 refine⟨Nat.le_of_not_lt λcL=>hD (h.lo i cL he),λj h1 h2=>?_⟩;cases hj:aR X.ls j with
 |false=>rfl
 |true=>
  rcases X.mb he hj h2 with U|U
  .exact absurd (hb j U) (h.hi j h1 hj)
  .rw[V]at U;simp at U
theorem hZ.D7 (h:hZ X D C f) (hf:f<=i) (V:∀j,f<=j->j<i->aR X.ls j=false) :
  (∀e,e<i+1->aR X.ls e=true->D e\/e=i)/\∀e,i+1<=e->aR X.ls e=true->¬(D e\/e=i):=by
 refine⟨λe h1 h2=>?_,λe h1 h2 h3=>?_⟩
 .rcases Nat.lt_or_ge e i with U|Uj
  .rcases Nat.lt_or_ge e f with hl|hg
   .exact .inl (h.lo e hl h2)
   .rw[V e hg U]at h2;simp at h2
  .exact .inr (by omega)
 .rcases h3 with h3|h3
  .exact h.hi e (by omega) h2 h3
  .omega
variable{l:List ah}{ids:Nat->Nat}{I:Nat->Prop}{b u:Nat}
theorem D8{σ:List ah}(a:b<σ.length):(ad (σ++l) ids I).own b u=(ad σ ids I).own b u/\((ad (σ++l) ids I).lim b u↔(ad σ ids I).lim b u):=by
 have e:ak (σ++l) b=ak σ b:=by rw[cX,cX,List.getElem?_append_left a]
 simp only[ad,e,and_self]
theorem W8{σ:List ah}(h:(ad σ ids I).lim b u):b<σ.length:=by
 obtain⟨B,a,_⟩:=h;rw[cX]at a;exact(List.getElem?_eq_some_iff.1 a).1
theorem hZ.group (h:hZ X D C f) (hD:¬D i) (hb:∀j,lg X.draw X.bf j i=true->D j) (he:aR X.ls i=true) (hg:l9 X.ls X.draw X.bf i=true):∃lo hi,nR X D C lo hi:=by
 obtain⟨lo,hi,V,g2,g3⟩:=X.nS hg;have hi1:=(V i).1 hg;have Uk:f<=i:=Nat.le_of_not_lt λU=>hD (h.lo i U he);have W9:=X.ew g2;have LC:∀e,e<lo->aR X.ls e=true->D e:=λe h1 h2=>by
  rcases X.mb he h2 (by omega)with hq|hq
  .exact hb e hq
  .have:=(V e).1 hq.1;omega
 have Xa:∀e,hi<e->aR X.ls e=true->¬D e:=λe h1 h2=>h.hi e (by omega) h2
 -- the blocks now
 obtain⟨q,q1,q2,q3,q4⟩:∃q,lo<=q/\q<=hi+1/\(X.st f).σ=(X.st q).σ/\∀e,aR X.ls e=true->lo<=e->(D e↔e<q):=by
  rcases Nat.lt_or_ge f lo with U|Uj
  .refine⟨lo,Nat.le_refl _,by omega,((X.nQ (p:=f) (q:=lo) (by omega) (by omega) λk k1 k2=>?_).1).symm,λe h1 h2=>⟨λhd=>absurd hd (h.hi e (by omega) h1),λh3=>by omega⟩⟩
   cases hk:aR X.ls k with
   |false=>rfl
   |true=>exact absurd (LC k k2 hk) (h.hi k k1 hk)
  .exact⟨f,Uj,by omega,rfl,λe h1 h2=>⟨λhd=>Nat.lt_of_not_le λh3=>h.hi e h3 h1 hd,λh3=>h.lo e h3 h1⟩⟩
 have ma:∀b,alive X D lo b↔b<(X.st f).σ.length:=λb=>by
  rw[q3];constructor
  .rintro(h1|⟨k,k1,k2,k3,k4,k5⟩)
   .have:=X.lu V (Nat.le_refl lo) q1 q2 (by omega);omega
   .have a1:=(V k).1 k2
    have a2:=(q4 k k1 a1.1).1 k3;have:=X.lu V (p:=k+1) (q:=q) (by omega) (by omega) q2 (by omega)
    omega
  .intro h1
   have LD : b<(X.st (lo+(q-lo))).σ.length:=by rwa [show lo+(q-lo)=q by omega]
   rcases X.Ui V (q-lo) (by omega) (by omega) LD with h2|⟨k,k1,k2,k3,k4,k5⟩
   .exact .inl h2
   .exact .inr ⟨k,k3,(V k).2 ⟨k1,by omega⟩,(q4 k k3 k1).2 (by omega),k4,k5⟩
 obtain⟨l,hl⟩:=X.xg V q1 q2 (Nat.le_refl _) (by omega)
 rw[<-q3]at hl;obtain⟨ids,s1,s2⟩:=h.fY;refine⟨lo,hi,V,g2,g3,LC,Xa,ids,λb u e ha ho=>?_,λb u gH=>?_⟩
 .rw[hl,(D8 ((ma b).1 ha)).1]at ho
  exact s1 b u e ho
 .have:=s2 b u gH
  have U:=W8 this;exact⟨(ma b).2 U,by rw[hl];exact(D8 U).2.2 this⟩
theorem nR.done{lo hi:Nat}(h:nR X D C lo hi) (V:∀k,aR X.ls k=true->l9 X.ls X.draw X.bf k=true->D k):hZ X D C (hi+1):=by
 have W9:=X.ew h.JU;have hle:=h.le;have ma:∀b,b<(X.st (hi+1)).σ.length->alive X D lo b:=λb hb=>by
  have LD : b<(X.st (lo+(hi+1-lo))).σ.length:=by rwa [show lo+(hi+1-lo)=hi+1 by omega]
  rcases X.Ui h.nS (hi+1-lo) (by omega) (by omega) LD with h2|⟨k,k1,k2,k3,k4,k5⟩
  .exact .inl h2
  .have hg:=(h.nS k).2 ⟨k1,by omega⟩
   exact .inr ⟨k,k3,hg,V k k3 hg,k4,k5⟩
 obtain⟨ids,s1,s2⟩:=h.fY;have vZ:iZ C (X.st (hi+1)).σ:=by
  refine⟨ids,λb u e ho=>?_,λb u hl=>(s2 b u hl).2⟩;have U:b<(X.st (hi+1)).σ.length:=by
   cases hq:ak (X.st (hi+1)).σ b with
   |none=>simp[ad,hq]at ho
   |some B=>rw[cX]at hq;exact(List.getElem?_eq_some_iff.1 hq).1
  exact s1 b u e (ma b U) ho
 refine⟨by omega,λe h1 h2=>?_,λe h1 h2=>h.behind e (by omega) h2,vZ,λ_=>⟨by rw[Nat.add_sub_cancel];exact h.JU,λ_=>?_⟩⟩
 .by_cases U:e<lo
  .exact h.before e U h2
  .exact V e h2 ((h.nS e).2 ⟨by omega,by omega⟩)
 .rw[Nat.add_sub_cancel]
  intro b u B JJ hu;obtain⟨l,hl⟩:=X.xg h.nS (p:=hi) (q:=hi+1) hle (by omega) (Nat.le_refl _) (by omega)
  obtain⟨k1,k2,k3⟩:=uX hu;have U:b<(X.st hi).σ.length:=by rw[cX]at k1;exact(List.getElem?_eq_some_iff.1 k1).1
  refine vZ.seen b u B JJ ?_;rw[hl];unfold fC;rw[show ak ((X.st hi).σ++l) b=ak (X.st hi).σ b by rw[cX,cX,List.getElem?_append_left U]]
  exact hu
theorem ll.norm (h:ll X D C f) (hD:¬D i) (hb:∀j,lg X.draw X.bf j i=true->D j) (he:aR X.ls i=true) (U:l9 X.ls X.draw X.bf i=false):∃f,hZ X D C f:=by
 rcases h with hN|⟨lo,hi,V,_⟩
 .exact⟨_,hN⟩
 .have hle:=V.le
  have lP : hi<i:=by
   have h1:¬(lo<=i/\i<=hi):=λh=>by rw[(V.nS i).2 h]at U;simp at U
   have h2:¬i<lo:=λh=>hD (V.before i h he);omega
  refine⟨_,V.done λk hk hg=>?_⟩;have:=(V.nS k).1 hg;rcases X.mb he hk (by omega)with hq|hq
  .exact hb k hq
  .rw[U]at hq;simp at hq
theorem ll.nS (h:ll X D C f) (U:¬D i) (V:∀j,lg X.draw X.bf j i=true->D j) (he:aR X.ls i=true) (hg:l9 X.ls X.draw X.bf i=true):∃lo hi,nR X D C lo hi:=by
 rcases h with hN|⟨lo,hi,hG,_⟩
 .exact hN.group U V he hg
 .exact⟨lo,hi,hG⟩
theorem LF{C:Ctx}{σ:List ah}(h:Seen C (σ++l)):Seen C σ:=λb u B a e=>by
 refine h b u B a ?_;have g:=(uX e).1;have d:b<σ.length:=by rw[cX]at g;exact(List.getElem?_eq_some_iff.1 g).1
 unfold fC at e ⊢
 rwa [show ak (σ++l) b=ak σ b by rw[cX,cX,List.getElem?_append_left d]]
theorem Inv.Xb (h:Inv X C0 w0 ds D C f a w) (hi:i<X.ls.length) (hD:¬D i) (hb:∀j,lg X.draw X.bf j i=true->D j){o:Oper}{l:Ln}(hl:X.ls[i]? = some l) (hF:rq X i o l)
  (hE:l.op.kP=false) (hW:l.op.kn=false) (hP:l.op.jC=false):Seen C (if l.prev then(X.st i).aC else(X.st i).σ):=by
 have hr:=hF.read;simp only[s3,hE,hW,hP,Bool.or_self,Bool.false_eq_true,if_false,Bool.and_eq_true,List.all_eq_true,List.mem_range]at hr;obtain⟨CG,D9⟩:=hr;generalize hv:lj X.ls i l=v at CG D9;have hvi:v<=i:=by
  by_cases hp:l.prev=true
  .simp only[hp,if_true,Bool.and_eq_true,decide_eq_true_eq]at CG
   omega
  .have:v=i:=by rw[<-hv];simp[lj,hp]
   omega
 have Xc:(if l.prev then(X.st i).aC else(X.st i).σ)=(X.st v).σ:=by
  by_cases hp:l.prev=true
  .simp only[hp,if_true,Bool.and_eq_true,decide_eq_true_eq]at CG ⊢
   obtain⟨⟨q1,q2⟩,q3⟩:=CG;have h1:=(X.nQ (p:=v+1) (q:=i) (by omega) (Nat.le_of_lt hi) (X.tc q3)).2
   rw[h1];obtain⟨ov,lv,_,xd,hFv⟩:=X.at_ (show v<X.ls.length by omega)
   have U:=X.run v lv xd;simp only[D3,xd,Bool.and_eq_true,Option.isNone_iff_eq_none]at q2;have hef:=hFv.WW;simp only[rp,q2.1,Bool.true_or,if_true,Bool.and_eq_true,Bool.not_eq_true']at hef;unfold cT at U;simp only[q2.2,want]at U;have hW:lv.op.kn=false:=by revert q2;cases lv.op<;>simp[cS.kP,cS.kn]
   rw[if_neg (by rw[hW];simp)]at U
   split at U
   .simp only[q2.1,if_true,Option.some.injEq]at U;rw[<-U]
   .simp only[Option.some.injEq]at U;rw[<-U]
   .simp at U
  .have:v=i:=by rw[<-hv];simp[lj,hp]
   simp[hp,this]
 rw[Xc];have jY:∀j,aR X.ls j=true->j<X.ls.length:=λj hj=>by
  unfold aR at hj;cases hl:X.ls[j]? with
  |none=>simp[hl]at hj
  |some l=>exact(List.getElem?_eq_some_iff.1 hl).1
 have key:∀j,aR X.ls j=true->if j<v then(lg X.draw X.bf j i=true\/(gQ X.ls j v=true/\w8 X.ls X.draw X.bf=true))else lg X.draw X.bf i j=true\/(D3 X.ls j=true/\gQ X.ls v j=true):=λj hj=>by
  have:=D9 j (jY j hj);simp only[hj,Bool.not_true,Bool.false_or]at this
  by_cases V:j<v
  .simpa[V]using this
  .simp only[V,if_false,Bool.or_eq_true,Bool.and_eq_true]at this ⊢
   exact this.imp (λq=>q) λq=>⟨q.1.2,q.2⟩
 rcases h.fr with hN|⟨lo,hi,hS,k0,y1,y2,y3⟩
 .rcases Nat.lt_or_ge v f with hvf|hvf
  .obtain⟨e1,e2⟩:=hN.last (by omega)
   have hd:=hN.lo (f-1) (by omega) e1
   have:=key (f-1) e1;rw[if_neg (by omega)]at this
   rcases this with k|⟨k1,k2⟩
   .exact absurd (h.closed _ _ hd k) hD
   .obtain⟨l', j8⟩:=X.uf (p:=v) (f-1-v) (by have:=hN.WY;omega) λj j1 j2=>X.lz k2 j j1 (by omega)
    rw[show v+(f-1-v)=f-1 by omega]at j8
    have:=e2 k1;rw[j8]at this;exact LF this
  .have DH:∀j,f<=j->j<v->aR X.ls j=true->hY X.ls j=true:=λj j1 j2 hj=>by
    have:=key j hj;rw[if_pos j2]at this;rcases this with this|this
    .exact absurd (hb j this) (hN.hi j j1 hj)
    .have:=this.1
     simp only[gQ,List.all_eq_true,List.mem_range,Bool.or_eq_true,Bool.not_eq_true', decide_eq_false_iff_not]at this;rcases this j j2 with(q|q)|q
     .exact absurd (Nat.le_refl j) q
     .rw[hj]at q;simp at q
     .exact q
   obtain⟨l', j8⟩:=X.uf (p:=f) (v-f) (by omega) λj j1 j2=>DH j j1 (by omega)
   rw[show f+(v-f)=v by omega]at j8
   intro b u B JJ hu;obtain⟨ids,s1,s2⟩:=hN.fY;have V:b<(X.st f).σ.length:=by
    obtain⟨B1,q1,_⟩:=s2 b u JJ;rw[cX]at q1;exact(List.getElem?_eq_some_iff.1 q1).1
   refine hN.fY.seen b u B JJ ?_;rw[j8]at hu;unfold fC at hu ⊢
   rwa [show ak ((X.st f).σ++l') b=ak (X.st f).σ b by rw[cX,cX,List.getElem?_append_left V]]at hu
 .-- all Ul before v are done;of anb behind it at ani the first one
  have hle:=hS.le;have W9:=X.ew hS.JU;have k1:∀e,aR X.ls e=true->e<v->D e:=λe he V=>by
   have:=key e he;rw[if_pos V]at this;rcases this with this|this
   .exact hb e this
   .have h2:=this.2
    simp only[w8,List.all_eq_true,List.mem_range,Bool.not_eq_true']at h2;have:=h2 k0 (X.ew y1);rw[y2]at this;simp at this
  have k2:∀e,aR X.ls e=true->D e->v<=e->gQ X.ls v e=true:=λe he hd hle=>by
   have:=key e he;rw[if_neg (by omega)]at this
   rcases this with hq|hq
   .exact absurd (h.closed _ _ hd hq) hD
   .exact hq.2
  by_cases zi:hi<v
  .have hN:=hS.done λk hk hg=>k1 k hk (by have:=(hS.nS k).1 hg;omega)
   rw[(X.nQ (p:=hi+1) (q:=v) (by omega) (by omega) λj j1 j2=>by
    cases hj:aR X.ls j with
    |false=>rfl
    |true=>exact absurd (k1 j hj j2) (hS.behind j (by omega) hj)).1]
   exact hN.fY.seen
  .obtain⟨q,q1,q2,⟨l', q3⟩,q4⟩:∃q,lo<=q/\q<=hi/\(∃l', (X.st q).σ=(X.st v).σ++l')/\∀e,aR X.ls e=true->e<q->D e:=by
    by_cases xd:lo<=v
    .exact⟨v,xd,by omega,⟨[],by simp⟩,k1⟩
    .have ru:=(hS.nS k0).1 y2
     have gY:=X.lz (k2 k0 y1 y3 (by omega))
     obtain⟨l', j8⟩:=X.uf (p:=v) (lo-v) (by omega) λj j1 j2=>gY j j1 (by omega)
     rw[show v+(lo-v)=lo by omega]at j8
     exact⟨lo,Nat.le_refl _,hle,⟨l', j8⟩,λe he V=>hS.before e V he⟩
   refine LF (l:=l') ?_;rw[<-q3];intro b u B _ hu;obtain⟨u1,u2,u3⟩:=uX hu;have V:b<(X.st q).σ.length:=by rw[cX]at u1;exact(List.getElem?_eq_some_iff.1 u1).1
   have ma:alive X D lo b:=by
    have LD : b<(X.st (lo+(q-lo))).σ.length:=by rwa [show lo+(q-lo)=q by omega]
    rcases X.Ui hS.nS (q-lo) (by omega) (by omega) LD with h2|⟨k,a1,a2,a3,a4,a5⟩
    .exact .inl h2
    .exact .inr ⟨k,a3,(hS.nS k).2 ⟨a1,by omega⟩,q4 k a3 (by omega),a4,a5⟩
   obtain⟨l,hl⟩:=X.xg hS.nS (p:=q) (q:=hi+1) q1 (by omega) (Nat.le_refl _) (by omega)
   obtain⟨ids,s1,s2⟩:=hS.fY;refine⟨ids b,s1 b u _ ma ?_⟩;rw[hl,(D8 V).1];exact qX ids C.I hu
end
end Ab
namespace Ab
open Go
variable{P:Program}
def cmt (σ:List ah):Option cD->List ah
 |some q=>fK σ q
 |none=>σ
theorem Xd{ls:List Ln}{t m:Nat}(h:dU ls t=some m):lh ls t=none:=by
 unfold dU at h;unfold lh;cases b:ls[t]? with
 |none=>rfl
 |some l=>
  simp only[b]at h ⊢;split at h
  .rename_i a;rw[a]
  .simp at h
theorem LG (σ l:List ah) (b:Nat):ak (σ++l) b=if b<σ.length then ak σ b else ak l (b-σ.length):=by
 rw[cX,cX,cX]
 by_cases a:b<σ.length
 .rw[if_pos a,List.getElem?_append_left a]
 .rw[if_neg a,List.getElem?_append_right (by omega)]
open Classical in
noncomputable def ug (σ:List ah) (A:Nat->Prop) (ids:Nat->Nat) (I:Nat->Prop):Ctx where
 I:=I
 own:=λb u=>if A b then(ad σ ids I).own b u else none
 lim:=λb u=>A b/\(ad σ ids I).lim b u
section
variable{X:RC P}{C0:Ctx}{w0:World}{ds:List Deferred}{D:Nat->Prop}{C:Ctx}{f:Nat}{a:Act}{w:World}{i:Nat}
theorem Inv.next (h:Inv X C0 w0 ds D C f a w) (hi:i<X.ls.length) (hD:¬D i) (hb:∀j,lg X.draw X.bf j i=true->D j) (Q:Exit->Act->World->Prop) :
  wpOp P X.ops.toArray Q i (λa' w' =>∃C' f', Inv X C0 w0 ds (λj=>D j\/j=i) C' f' a' w') a w:=by
 obtain⟨o,l,ho,hl,hF⟩:=X.at_ hi;have ft:=X.run i l hl;have hR:∀x y,pJ X.draw X.bf X.ops X.ls X.sl i x y=true->VR C w.heap (rv X.vars (X.st i).env y) (a.eval x):=λx y hr=>h.ref hi hD hb hr;unfold wpOp;simp only[List.getElem?_toArray,ho];unfold cT at ft;cases hw:want X.vars (X.st i).env l.g with
 |none=>simp[hw]at ft
 |some b=>
  have hwa:=h.wanted hi hb hF hw;rw[hwa];simp only[hw]at ft;cases b with
  |false=>
   simp only[Bool.false_eq_true,if_false];simp only[Option.some.injEq]at ft;have ke:valOf X.st i = .bF []:=by rw[valOf,<-ft]
   have Um:l.g ≠ none:=λe=>by rw[e]at hw;simp[want]at hw
   have zY:lh X.ls i=none:=by
    cases ht:lh X.ls i with
    |none=>rfl
    |some t=>
     obtain⟨_,_,l', _,_,_,_,j8, _,_,JV, _⟩:=X.fh ht;rw[hl]at j8; simp at j8; subst j8;exact absurd JV Um
   have qn:dU X.ls i=none:=by
    unfold dU;simp only[hl];split
    .rename_i m eS
     have:=hF.iF;simp only[nN,eS,Bool.and_eq_true,Option.isNone_iff_eq_none]at this;exact absurd this.1 Um
    .rfl
   have LH:VR C w.heap (valOf X.st i) undef:=by rw[ke];unfold VR;exact⟨[],rfl,rfl⟩
   cases he:aR X.ls i with
   |false=>
    exact⟨C,f,h.after hi hD hb ho h.good (Step.refl _ _) zY LH (λm hm=>by rw[qn]at hm;simp at hm) (h.fr.rr he C.I)⟩
   |true=>
    have rA:l9 X.ls X.draw X.bf i=false:=by
     cases hg:l9 X.ls X.draw X.bf i with
     |false=>rfl
     |true=>exact absurd (X.free_spec hl (X.lq he hg)).1 Um
    obtain⟨f', hN⟩:=h.fr.norm hD hb he rA;obtain⟨q1,q2⟩:=hN.front hD hb he rA;obtain⟨e1,e2⟩:=hN.D7 q1 q2;have hs:(X.st (i+1)).σ=(X.st f').σ:=by rw[<-ft];exact(X.nQ q1 (Nat.le_of_lt hi) q2).1
    refine⟨C,i+1,h.after hi hD hb ho h.good (Step.refl _ _) zY LH (λm hm=>by rw[qn]at hm;simp at hm) (.inl ⟨by omega,e1,e2,by rw[hs];exact hN.fY,λ_=>⟨he,λLI=>?_⟩⟩)⟩
    simp only[Nat.add_sub_cancel,D3,hl,Bool.and_eq_true,Option.isNone_iff_eq_none]at LI;exact absurd LI.2 Um
  |true=>
   dsimp only at ft;simp only[if_true];refine .inl ?_
   by_cases wh:l.op.kn=true
   .rw[if_pos wh]at ft
    have he:aR X.ls i=true:=by simp[aR,hl,wh]
    have rA:l9 X.ls X.draw X.bf i=false:=by
     cases hg:l9 X.ls X.draw X.bf i with
     |false=>rfl
     |true=>rw[(X.free_spec hl (X.lq he hg)).2.2.1]at wh;simp at wh
    obtain⟨f', hN⟩:=h.fr.norm hD hb he rA;obtain⟨q1,q2⟩:=hN.front hD hb he rA;have Ea:=(X.nQ q1 (Nat.le_of_lt hi) q2).1;obtain⟨ids,g1,g2⟩:=hN.fY.take h.good;rw[<-Ea]at g1 g2;split at ft
    .rename_i v cG gR
     simp only[Option.some.injEq]at ft;have zY:lh X.ls i=none:=by
      cases ht:lh X.ls i with
      |none=>rfl
      |some t=>
       obtain⟨_,_,l', _,_,_,_,j8, _,eS,_⟩:=X.fh ht;rw[hl]at j8; simp at j8; subst j8;rw[eS]at wh;simp[cS.kn]at wh
     have qn:dU X.ls i=none:=by
      unfold dU;simp only[hl];split
      .rename_i m eS;rw[eS]at wh;simp[cS.kn]at wh
      .rfl
     refine opW hF.op wh X.pD X.zg g1 (λx y hr=>VR.mono g2.ev _ _ (hR x y hr)) gR _ Q λv' w' hp=>?_;obtain⟨bO, I', k1,k2,k3⟩:=hp;obtain⟨e1,e2⟩:=hN.D7 q1 q2;have hs:(X.st (i+1)).σ=cG :=by rw[<-ft]
     have ke:valOf X.st i=v:=by rw[valOf,<-ft]
     refine⟨_,i+1,h.after hi hD hb ho k1 (g2.trans k2) zY (by rw[ke];exact k3) (λm hm=>by rw[qn]at hm;simp at hm) (.inl ⟨by omega,e1,e2,by rw[hs];exact Lo _ _ _,λ_=>⟨he,λLI=>?_⟩⟩)⟩
     simp only[Nat.add_sub_cancel,D3,hl,Bool.and_eq_true]at LI;exfalso
     revert wh LI;cases l.op<;>simp[cS.kP,cS.kn]
    .simp at ft
   .rw[if_neg wh]at ft
    have LJ:l.op.kn=false:=by simpa using wh
    cases gR:ev X.ce (if l.prev then(X.st i).aC else(X.st i).σ) (X.st i).σ.length [] (rv X.vars (X.st i).env) l.op with
    |none=>simp[gR]at ft
    |some vp=>
     obtain⟨v,p⟩:=vp;simp only[gR]at ft;have ke:valOf X.st i=v:=by cases p<;>simp only[Option.some.injEq]at ft<;>rw[valOf,<-ft]<;>rfl
     have jo:(X.st (i+1)).σ=cmt (X.st i).σ p:=by cases p<;>simp only[Option.some.injEq]at ft<;>rw[<-ft]<;>rfl
     cases hE:l.op.kP with
     |true=>
      have he:aR X.ls i=true:=by simp[aR,hl,hE]
      have xh:l.prev=false:=by
       have:=hF.WW;simp only[rp,hE,Bool.true_or,if_true,Bool.and_eq_true,Bool.not_eq_true']at this;exact this.1
      rw[xh]at gR;simp only[Bool.false_eq_true,if_false]at gR;have zY:lh X.ls i=none:=by
       cases ht:lh X.ls i with
       |none=>rfl
       |some t=>
        obtain⟨_,_,l', _,_,_,_,j8, _,eS,_⟩:=X.fh ht;rw[hl]at j8; simp at j8; subst j8;rw[eS]at hE;simp[cS.kP]at hE
      have qn:dU X.ls i=none:=by
       unfold dU;simp only[hl];split
       .rename_i m eS;rw[eS]at hE;simp[cS.kP]at hE
       .rfl
      have Eb:l.op.mz=false:=by revert hE;cases l.op<;>simp[cS.kP,cS.mz]
      cases rA:l9 X.ls X.draw X.bf i with
      |false=>
       obtain⟨f', hN⟩:=h.fr.norm hD hb he rA;obtain⟨q1,q2⟩:=hN.front hD hb he rA;obtain⟨ids,g1,g2⟩:=hN.fY.take h.good;have Ea:=(X.nQ q1 (Nat.le_of_lt hi) q2).1;rw[<-Ea]at g1 g2;refine opE hF.op LJ Eb X.pD X.zg g1 (λb u B _ hu=>⟨_,qX ids C.I hu⟩) (λ_ _=>uP) (λl' _ b u u4 _ gH=>?_) (λb u B cs hu _ _=>⟨λn hn gH=>?_,λu' B' id' fH=>?_⟩) (λx y hr=>VR.mono g2.ev _ _ (hR x y hr)) rfl gR _ Q λv' w' hp=>?_
       .obtain⟨B,hB,_⟩:=gH
        rw[cX,List.getElem?_eq_none (by omega)]at hB;simp at hB
       .obtain⟨B', hB,hle⟩:=gH
        obtain⟨k1,k2,_⟩:=qV hu;rw[k1]at hB;simp at hB;subst hB;omega
       .obtain⟨k1,k2,_⟩:=qV hu
        rw[<-k2];exact mM (u:=0) k1 u' B' id' fH
       .obtain⟨C', k1,k2,k3,k4⟩:=hp
        obtain⟨s1,s2⟩:=Ext.fY k1 k4;obtain⟨e1,e2⟩:=hN.D7 q1 q2;exact⟨C', i+1,h.after hi hD hb ho k1 (g2.trans k2) zY (by rw[ke];exact k3) (λm hm=>by rw[qn]at hm;simp at hm) (.inl ⟨by omega,e1,e2,by rw[jo];cases p<;>exact s1,λ_=>⟨he,λ_=>s2⟩⟩)⟩
      |true=>
       obtain⟨lo,hh,hG⟩:=h.fr.nS hD hb he rA;obtain⟨fr1,fr2,fr3,fr4,fr5,fr6⟩:=X.free_spec hl (X.lq he rA);have jY:=(hG.nS i).1 rA;have W9:=X.ew hG.JU;have hle:=hG.le;obtain⟨ids,m1,m2⟩:=hG.fY;obtain⟨bs,hbs,Ec⟩:∃bs,(X.st (i+1)).σ=(X.st i).σ++bs/\(((∀f as,l.op ≠ .can f as)/\∃B,p=some (.new B)/\bs=[B])\/p=some (.news bs)):=by
        rcases fr6 _ _ _ _ _ _ _ gR with⟨hc,B,rfl⟩|⟨bs,rfl⟩
        .exact⟨[B],by rw[jo];rfl,.inl ⟨hc,B,rfl,rfl⟩⟩
        .exact⟨bs,by rw[jo];rfl,.inr rfl⟩
       have hlen:(X.st (i+1)).σ.length=(X.st i).σ.length+bs.length:=by rw[hbs];simp
       have LL:∀b,(X.st i).σ.length<=b->b<(X.st (i+1)).σ.length->¬alive X D lo b:=by
        rintro b b1 b2 (h1|⟨k,k1,k2,k3,k4,k5⟩)
        .have:=X.lu hG.nS (p:=lo) (q:=i) (Nat.le_refl _) jY.1 (by omega) (by omega);omega
        .have hk:=(hG.nS k).1 k2
         rcases Nat.lt_trichotomy k i with cL|rfl|hgt
         .have:=X.lu hG.nS (p:=k+1) (q:=i) (by omega) (by omega) (by omega) (by omega);omega
         .exact hD k3
         .have:=X.lu hG.nS (p:=i+1) (q:=k) (by omega) (by omega) (by omega) (by omega);omega
       have Xf:=Good.shrink (C2:=ug (X.st (hh+1)).σ (alive X D lo) ids C.I) h.good rfl (λb u e jB =>by
        unfold ug at jB;dsimp only at jB;split at jB
        .rename_i ha;exact m1 b u e ha jB
        .simp at jB) m2
       have u5 : ∀b,alive X (λj=>D j\/j=i) lo b↔alive X D lo b\/((X.st i).σ.length<=b/\b<(X.st (i+1)).σ.length):=λb=>by
        constructor
        .rintro(h1|⟨k,k1,k2,k3,k4⟩)
         .exact .inl (.inl h1)
         .rcases k3 with k3|rfl
          .exact .inl (.inr ⟨k,k1,k2,k3,k4⟩)
          .exact .inr k4
        .rintro((h1|⟨k,k1,k2,k3,k4⟩)|h1)
         .exact .inl h1
         .exact .inr ⟨k,k1,k2,.inl k3,k4⟩
         .exact .inr ⟨i,he,rA,.inr rfl,h1⟩
       obtain⟨l2,CH⟩:=X.xg hG.nS (p:=i+1) (q:=hh+1) (by omega) (by omega) (Nat.le_refl _) (by omega)
       have hblk:∀b,(X.st i).σ.length<=b->b<(X.st (i+1)).σ.length->ak (X.st (hh+1)).σ b=ak bs (b-(X.st i).σ.length):=λb b1 b2=>by
        rw[CH,LG,if_pos b2,hbs,LG,if_neg (by omega)]
       refine opE (σ:=[]) hF.op LJ Eb X.pD X.zg Xf.1 (λb u B _ hu=>by simp[fC,ak]at hu) (λ_ hc u gH=>?_) (λl' hq b u u4 Un gH=>?_) (λb u B cs hu _ _=>by simp[upto,ak]at hu) (λx y hr=>VR.mono Xf.2.ev _ _ (hR x y hr)) rfl (by rw[fr5 X.ce [] (X.st i).σ];exact gR) _ Q λv' w' hp=>?_
       .rcases Ec with⟨_,B,_,rfl⟩|hq
        .exact LL _ (Nat.le_refl _) (by rw[hlen];simp) gH.1
        .exfalso
         rcases fr6 _ _ _ _ _ _ _ gR with⟨_,B,hB⟩|⟨bs', hB⟩
         .rw[hq]at hB;simp at hB
         .have hf:=X.lq he rA
          simp only[hY,hl,Bool.and_eq_true]at hf;have Ug:=hf.2;split at Ug
          .rename_i eS;rw[eS]at gR;simp only[ev]at gR
           split at gR<;>try(simp at gR;done)
           split at gR<;>simp at gR;rw[<-gR.2]at hq;simp at hq
          .rename_i f as eS;exact hc f as eS
          .rename_i eS;rw[eS]at gR;simp only[ev]at gR
           split at gR<;>simp at gR;rw[<-gR.2]at hq;simp at hq
          .rename_i eS;rw[eS]at gR;simp[ev]at gR
           rw[<-gR.2]at hq;simp at hq
          .rename_i eS;rw[eS]at gR;simp only[ev]at gR
           split at gR<;>simp at gR;rw[<-gR.2]at hq;simp at hq
          .simp at Ug
       .rcases Ec with⟨_,B,Xg, _⟩|Xg
        .rw[Xg]at hq;simp at hq
        .rw[Xg]at hq;simp at hq;subst hq
         exact LL b u4 (by omega) gH.1
       .obtain⟨C', k1,k2,k3,k4⟩:=hp
        have vZ:∃bO, (∀b u e,alive X (λj=>D j\/j=i) lo b->(ad (X.st (hh+1)).σ bO C'.I).own b u=some e->C'.own b u=some e)/\∀b u,C'.lim b u->alive X (λj=>D j\/j=i) lo b/\(ad (X.st (hh+1)).σ bO C'.I).lim b u:=by
         rcases Ec with⟨_,B,rfl,rfl⟩|rfl
         .obtain⟨id,k5,k6⟩:=k4
          have pC:B.st ≠ .dead:=(k1.kN (X.st i).σ.length B.cells.length B id (by rw[k5];simp[ao])).2.2.2
          have u4:=hblk (X.st i).σ.length (Nat.le_refl _) (by rw[hlen];simp)
          rw[Nat.sub_self]at u4;refine⟨λq=>if q=(X.st i).σ.length then id else ids q,λb u e ha jB =>?_,λb u gH=>?_⟩
          .rw[k5]
           by_cases e0:b=(X.st i).σ.length
           .subst e0
            simp only[ad,u4,ak,if_true]at jB;have hu:B.cells.length=u/\(B,id)=e:=by
             cases hs:B.st<;>simp only[hs]at jB pC
             .split at jB <;>simp at jB; rename_i h;exact⟨h,jB⟩
             .split at jB <;>simp at jB; rename_i h;exact⟨h,jB⟩
             .exact absurd rfl pC
             .split at jB <;>simp at jB; rename_i h;exact⟨h,jB⟩
            obtain⟨rfl,rfl⟩:=hu;simp[ao]
           .have zQ : alive X D lo b:=by
             rcases(u5 b).1 ha with h|h
             .exact h
             .rw[hlen]at h;simp at h;omega
            simp only[ao];rw[if_neg (by omega)]
            simp only[ug,zQ, if_true];simp only[ad,e0,if_false]at jB;exact jB
          .rw[k6]at gH
           rcases gH with⟨rfl,rfl⟩|⟨h1,h2⟩
           .exact⟨(u5 _).2 (.inr ⟨Nat.le_refl _,by rw[hlen];simp⟩),B,u4,Nat.le_refl _⟩
           .exact⟨(u5 _).2 (.inl h1),h2⟩
         .obtain⟨sZ,k5,k6⟩:=k4
          refine⟨λq=>if(X.st i).σ.length<=q/\q<(X.st (i+1)).σ.length then sZ (q-(X.st i).σ.length)else ids q,λb u e ha jB =>?_,λb u gH=>?_⟩
          .rw[k5]
           dsimp only
           by_cases e0:(X.st i).σ.length<=b/\b<(X.st (i+1)).σ.length
           .rw[if_pos (by omega)]
            simp only[ad,hblk b e0.1 e0.2,e0,and_self,if_true]at jB;exact jB
           .have zQ : alive X D lo b:=by
             rcases(u5 b).1 ha with h|h
             .exact h
             .exact absurd h e0
            rw[if_neg (by omega)]
            simp only[ug,zQ, if_true];simp only[ad,e0,if_false]at jB;exact jB
          .rw[k6]at gH
           rcases gH with⟨h1,B', h2,h3⟩|⟨h1,h2⟩
           .have cL:b-(X.st i).σ.length<bs.length:=by rw[cX]at h2;exact(List.getElem?_eq_some_iff.1 h2).1
            exact⟨(u5 _).2 (.inr ⟨h1,by omega⟩),B', by rw[hblk b h1 (by omega)];exact h2,h3⟩
           .exact⟨(u5 _).2 (.inl h1),h2⟩
        refine⟨C', f,h.after hi hD hb ho k1 (Xf.2.trans k2) zY (by rw[ke];exact k3) (λm hm=>by rw[qn]at hm;simp at hm) (.inr ⟨lo,hh,⟨hG.nS,hG.JU,hG.le,λe h1 h2=>.inl (hG.before e h1 h2),λe h1 h2 h3=>?_,vZ⟩,i,he,rA,.inr rfl⟩)⟩
        rcases h3 with h3|rfl
        .exact hG.behind e h1 h2 h3
        .omega
     |false=>
      have he:aR X.ls i=false:=by simp[aR,hl,hE,LJ]
      have hpn:=Lr hE gR;subst hpn;cases hP:l.op.jC with
      |false=>
       have zY:lh X.ls i=none:=by
        cases ht:lh X.ls i with
        |none=>rfl
        |some t=>
         obtain⟨_,_,l', _,_,_,_,j8, _,eS,_⟩:=X.fh ht;rw[hl]at j8; simp at j8; subst j8;rw[eS]at hP;simp[cS.jC]at hP
       have qn:dU X.ls i=none:=by
        unfold dU;simp only[hl];split
        .rename_i m eS;rw[eS]at hP;simp[cS.jC]at hP
        .rfl
       refine opR hF.op hP hE LJ X.pD h.good (h.Xb hi hD hb hl hF hE LJ hP) hR gR _ Q λv' w' hp=>?_;obtain⟨I', k1,k2,k3⟩:=hp;exact⟨_,f,h.after hi hD hb ho k1 k2 zY (by rw[ke];exact k3) (λm hm=>by rw[qn]at hm;simp at hm) (h.fr.rr he I')⟩
      |true=>
       cases ht:lh X.ls i with
       |some t=>
        obtain⟨_,o', l', d,x,m,jB, j8, _,eS,JV, D5,hd,JX,ma,Lv,Lw⟩:=X.fh ht;rw[hl]at j8; simp at j8; subst j8;rw[ho]at jB; simp at jB; subst jB;have W6:∀i', D i' ->lh X.ls i' ≠ some t:=λi' lP e=>hD (X.ue ht e▸lP);obtain⟨s,id,c,el,k1,k2,k3,k4,k5,k6,k7⟩:=h.lb t m (hb _ Lv) ma W6;rw[eS]at gR;simp only[ev]at gR;split at gR
        case isFalse=>simp at gR
        rename_i hc;simp only[Bool.and_eq_true,beq_iff_eq]at hc;simp at gR;have uY :=hF.op;rw[eS]at uY;obtain⟨y,q1,q2⟩:=opI uY (w:=w) (a:=a) (C:=C) (r:=rv X.vars (X.st i).env) (id:=id) (c:=c) (el:=el) (λq hq=>by
         unfold pJ at hq;split at hq
         .rename_i s' d' heq
          simp only[Rf.t.injEq]at heq;subst heq;simp only[Bool.and_eq_true,beq_iff_eq]at hq;have iU :=hq.1.2;rw[<-JX]at iU;simp only[iN,Xd ma,k1,Option.some.injEq]at iU;subst iU;exact k2
         all_goals (rename_i heq;first|(simp at heq;done)|(simp at hq;done)|skip)) k6 k7 (λq hq=>hR q x hq) hc.1 hc.2
        refine q2 _ Q λv' w' hp=>?_;obtain⟨c', rfl,z1,z2⟩:=hp;rw[D5];exact⟨_,f,h.fill hi hD hb hl eS ht (by rw[ke,<-gR]) hc.1 q1 k1 k2 k3 k4 k5 k6 z1 z2⟩
       |none=>
        cases ma:dU X.ls i with
        |some m=>
         have eS:l.op = .ff m:=by
          unfold dU at ma;simp only[hl]at ma;split at ma
          .rename_i m' eS;simp at ma;rw[eS,ma]
          .simp at ma
         have uY :=hF.op;rw[eS]at uY gR;simp[ev]at gR;have Lu:=hF.iF;simp only[nN,eS,Bool.and_eq_true]at Lu;obtain⟨s,hs⟩:=Option.isSome_iff_exists.1 Lu.2;refine opA (w:=w) (a:=a) (C:=C) uY h.good _ Q λv' w' hp=>?_;obtain⟨p1,p2,id,c,el,p3⟩:=hp;exact⟨C,f,h.after hi hD hb ho p1 p2 ht (by rw[ke,<-gR];unfold VR;trivial) (λm' sA =>by
          rw[ma]at sA; simp at sA; subst sA;exact⟨⟨s,hs⟩,id,c,el,p3⟩) (h.fr.rr he C.I)⟩
        |none=>
         have Eb:l.op.mz=false:=by
          cases eS:l.op with
          |ff m=>simp[dU,hl,eS]at ma
          |iF p x n=>
           have:=hF.iF;cases p with
           |t d=>simp[lh,hl,eS]at ht
           |v k=>simp[nN,eS]at this
           |c x=>simp[nN,eS]at this
          |_=>rfl
         obtain⟨q1,_⟩:=opP (w:=w) (a:=a) (C:=C) hF.op hP Eb X.pD X.zg h.good hR rfl gR;refine q1 _ Q λv' w' hp=>?_;obtain⟨I', k1,k2,k3⟩:=hp;exact⟨_,f,h.after hi hD hb ho k1 k2 ht (by rw[ke];exact k3) (λm hm=>by rw[ma]at hm;simp at hm) (h.fr.rr he I')⟩
end
end Ab
namespace Ab
open Go
variable{P:Program}
structure Rel (sl:List Nat) (nt:Nat) (ds:List Deferred) (s:St) (C:Ctx) (a:Act) (w:World):Prop where
 good:Good C w
 size:a.tmps.size=nt
 defers:a.defers=ds
 vars:∀k t,sl[k]? = some t->VR C w.heap (nth s.vars k) (a.tmps.getD t undef)
 fl:∀t v,s.fl=some (t,v)->VR C w.heap v (a.tmps.getD t undef)
def uh (ops:List Oper) (ls:List Ln) (sl:List Nat) (r:fQ):Bool:=
 (r.outs.all λ(k,d)=>decide (d<ls.length)&&match sl[k]? with|some t=>iN ops ls (ls.length-1-d)==some t|none=>true) &&
 ((List.range sl.length).all λk=>r.dC.any (·== k)||r.outs.any (·.1==k)||(List.range ls.length).all λj=>match sl[k]?,cM ops j with|some t,some a =>t != a | _,_=>true) &&
 (match r.fl with|some (t,d)=>decide (d<ls.length)&&iN ops ls (ls.length-1-d)==some t|none=>true)
def xi (P:Program) (draw:Bool) (ops:List Oper) (sl:List Nat) (nt:Nat) (r:fQ):Bool:=
 ops.length==r.ls.length&&((List.range r.ls.length).all (s4 P draw (Ls ops) ops r.ls sl nt))&&uh ops r.ls sl r&&(!draw||ops.all λo=>match o.op with | .select ..=>false|_=>true)
theorem Ed{l:List AV}{k n:Nat}{x:AV}:nth (eu l k x) n=if n=k/\k<l.length then x else nth l n:=by
 rw[rB,Xh,rB,List.getElem?_set]
 by_cases e:k=n
 .subst e
  by_cases h:k<l.length
  .simp[h]
  .simp[h,List.getElem?_eq_none (Nat.le_of_not_lt h)]
 .rw[if_neg e,if_neg (λh=>e h.1.symm)]
theorem LN{Q:AV->Prop}(b:Q .aF){k:Nat}:∀(a:List Nat) (vs:List AV),(k∉a->Q (nth vs k))->Q (nth (dC a vs) k)
 | [],vs,h=>h (by simp)
 |d :: a,vs,h=>by
  unfold dC;refine LN b a _ λg=>?_;rw[Ed]
  by_cases e:k=d /\d < vs.length
  .rw[if_pos e];exact b
  .rw[if_neg e]
   by_cases i : k=d
   .have:vs.length<=k:=by omega
    rw[rB,List.getElem?_eq_none this];exact b
   .exact h (by simp[i, g])
theorem LO{Q:AV->Prop}(b:Q .aF){env:List AV}{k:Nat}:∀(os:List (Nat×Nat)) (vs:List AV),(∀d,(k,d)∈os->Q (nth env d))->((∀d,(k,d)∉os)->Q (nth vs k))->Q (nth (outs env os vs) k)
 | [],vs,_,h=>h (by simp)
 |(a, d')::os,vs,g,i=>by
  unfold outs;refine LO b os _ (λd hd=>g d (by simp[hd])) λj=>?_
  rw[Ed]
  by_cases e:k=a /\a < vs.length
  .rw[if_pos e];exact g d' (by simp[e.1])
  .rw[if_neg e]
   by_cases l : k=a
   .have:vs.length<=k:=by omega
    rw[rB,List.getElem?_eq_none this];exact b
   .exact i λd hd=>by
     rcases List.mem_cons.1 hd with h|h
     .simp at h;exact l h.1
     .exact j d h
section
variable{X:RC P}{C0:Ctx}{w0:World}{ds:List Deferred}
theorem Inv.full{D:Nat->Prop}{C:Ctx}{f:Nat}{a:Act}{w:World}(h:Inv X C0 w0 ds D C f a w) (hD:∀j,j<X.ls.length->D j){r:fQ}(hr:r.ls=X.ls) (U:uh X.ops X.ls X.sl r=true){vs:List AV}
  (Xi:vs=X.vars) (fl:Option (Nat×AV)) (JY:fl=match r.fl with|some (t,d)=>some (t,nth (X.st X.ls.length).env d)|none=>none) :
  ∃ids I,Rel X.sl X.nt ds {vars:=dC r.dC (outs (X.st X.ls.length).env r.outs vs),fl,σ:=(X.st X.ls.length).σ} (ad (X.st X.ls.length).σ ids I) a w/\Step C0 w0 (ad (X.st X.ls.length).σ ids I) w:=by
 subst Xi;obtain⟨f,hN⟩:∃f,hZ X D C f:=by
  rcases h.fr with hN|⟨lo,hi,hG,_⟩
  .exact⟨_,hN⟩
  .exact⟨_,hG.done λk hk _=>hD k (X.ew hk)⟩
 have Xc:(X.st X.ls.length).σ=(X.st f).σ:=(X.nQ (p:=f) hN.WY (Nat.le_refl _) λj h1 h2=>by
  cases hj:aR X.ls j with
  |false=>rfl
  |true=>exact absurd (hD j h2) (hN.hi j h1 hj)).1
 obtain⟨ids,g1,g2⟩:=hN.fY.take h.good;rw[Xc];refine⟨ids,C.I,⟨g1,h.size,h.defers,λk t hk=>?_,λt v hv=>?_⟩,h.step.trans g2⟩
 .simp only[uh,Bool.and_eq_true,List.all_eq_true,decide_eq_true_eq]at U
  obtain⟨⟨e1,e2⟩,_⟩:=U;refine LN (Q:=λx=>VR (ad (X.st f).σ ids C.I) w.heap x (a.tmps.getD t undef)) (by unfold VR;trivial) _ _ λhnk=>?_
  refine LO (Q:=λx=>VR (ad (X.st f).σ ids C.I) w.heap x (a.tmps.getD t undef)) (by unfold VR;trivial) _ _ (λd hd=>?_) λDJ=>?_
  .have:=e1 _ hd
   simp only[hk,beq_iff_eq]at this;rw[X.ud (Nat.le_refl _) this.1];exact VR.mono g2.ev _ _ (h.tv _ t (hD _ (by omega)) this.2)
  .have LP:k<X.sl.length:=(List.getElem?_eq_some_iff.1 hk).1
   have:=e2 k (List.mem_range.2 LP);simp only[Bool.or_eq_true,List.any_eq_true,beq_iff_eq,List.all_eq_true,List.mem_range]at this;rcases this with(⟨x,hx,rfl⟩|⟨x,hx,rfl⟩)|hd
   .exact absurd hx hnk
   .exact absurd hx (DJ x.2)
   .refine VR.mono g2.ev _ _ (h.vv k t hk λj hj hdj=>?_)
    have:=hd j (h.below j hj);simp[hk,hdj]at this
 .simp only[uh,Bool.and_eq_true,List.all_eq_true,decide_eq_true_eq]at U
  obtain⟨_,e3⟩:=U;subst JY;simp only at hv;cases V:r.fl with
  |none=>simp[V]at hv
  |some td=>
   obtain⟨t', d⟩:=td;simp only[V,Option.some.injEq,Prod.mk.injEq]at hv;obtain⟨rfl,rfl⟩:=hv;simp only[V,Bool.and_eq_true,decide_eq_true_eq,beq_iff_eq]at e3;rw[X.ud (Nat.le_refl _) e3.1];exact VR.mono g2.ev _ _ (h.tv _ t' (hD _ (by omega)) e3.2)
theorem Xj{i:Nat}{D:Nat->Prop}(a:X.draw=true){o:Oper}{l:Ln}(s:X.ops[i]? = some o) (q:rq X i o l) (d:∀i j,D j->lg X.draw X.bf i j=true->D i)
  (hd:∀e∈o.after.toList,Region.binds .any e=true->D e.on):∀j,lg X.draw X.bf j i=true->D j:=λj r=>by
 have m:=q.bf;simp only[zV,a,if_true,Bool.and_eq_true,beq_iff_eq]at m;have b :=r;simp only[lg,a,if_true,m.1,Option.getD_some]at b;rcases Lt X.bf j o.after.toList 0 b with h|⟨e,n,p,g⟩
 .simp at h
 .rcases g with rfl|g
  .exact hd e n p
  .exact d j e.on (hd e n p) (by simp only[lg,a,if_true];exact g)
theorem Inv.mk0{ids:Nat->Nat}{I:Nat->Prop}{s:St}{a:Act}{w:World}(V:X.vars=s.vars) (U:X.JT=s.σ) (h:Rel X.sl X.nt ds s (ad s.σ ids I) a w):Inv X (ad s.σ ids I) w ds (λ_=>False) (ad s.σ ids I) 0 a w:=by
 refine⟨h.good,Step.refl _ _,h.size,h.defers,λ_ h=>h.elim,λ_ _ h=>h.elim,λ_ _ h=>h.elim,λk t hk _=>by rw[V];exact h.vars k t hk,λ_ _ h=>h.elim,λ_ _ _ _ _ _ _ h=>h.elim,.inl ⟨Nat.zero_le _,λ_ h=>absurd h (Nat.not_lt_zero _),λ_ _ _ h=>h,?_,λh=>absurd h (Nat.lt_irrefl _)⟩⟩
 rw[X.st0,U];exact Lo _ _ _
theorem LQ{Q:Exit->Act->World->Prop}(d:X.draw=false) (m:∀D C f a w,Inv X C0 w0 ds D C f a w->(∀j,j<X.ls.length->D j)->Q .normal a w) :
  ∀(k:Nat) (D:Nat->Prop) (C:Ctx) (f:Nat) (a:Act) (w:World),k<=X.ls.length->(∀j,D j↔j<X.ls.length-k)->Inv X C0 w0 ds D C f a w->wpOps P X.ops.toArray Q (List.range' (X.ls.length-k) k) a w
 |0,D,C,f,a,w,_,b,h=>by
  simp only[List.range'_zero,wpOps];exact m D C f a w h λj g=>(b j).2 (by omega)
 |k+1,D,C,f,a,w,r,b,h=>by
  rw[List.range'_succ,wpOps_cons];have e:X.ls.length-(k+1)+1=X.ls.length-k:=by omega
  rw[e];have l:∀j,lg X.draw X.bf j (X.ls.length-(k+1))=true->D j:=λj g=>(b j).2 (by
   simp only[lg,d,Bool.false_eq_true,if_false,decide_eq_true_eq]at g;exact g)
  refine wpOp_mono (λn w' ⟨C', f', o⟩=>LQ d m k _ C' f' n w' (by omega) (λj=>?_) o) (h.next (i:=X.ls.length-(k+1)) (by omega) (λhd=>by have:=(b _).1 hd;omega) l Q)
  .constructor
   .rintro(q|rfl)
    .have:=(b j).1 q;omega
    .omega
   .intro q
    by_cases p : j=X.ls.length-(k+1)
    .exact .inr p
    .exact .inl ((b j).2 (by omega))
theorem Xk{Q:Exit->Act->World->Prop}(F:X.draw=true) (V:∀D C f a w,Inv X C0 w0 ds D C f a w->(∀j,j<X.ls.length->D j)->Q .normal a w) :
  ∀(k:Nat) (d:Array Bool) (C:Ctx) (f:Nat) (a:Act) (w:World),d.size=X.ls.length->(d.toList.filter (·== false)).length<=k->Inv X C0 w0 ds (λj=>d[j]? = some true) C f a w->
   wpAny P .any X.ops.toArray Q k d a w:=by
 have G:∀(d:Array Bool),d.size=X.ls.length->Region.ready .any X.ops.toArray d=[]->∀j,j<X.ls.length->d[j]? = some true:=by
  intro d u H j
  induction j using Nat.strongRecOn with
  |ind j I=>
   intro R;obtain⟨o,l,A,Y,S⟩:=X.at_ R;have W:=S.bf;simp only[zV,F,if_true,Bool.and_eq_true,List.all_eq_true,Bool.or_eq_true,Bool.not_eq_true', decide_eq_true_eq]at W;have p:j∉Region.ready .any X.ops.toArray d:=by rw[H];simp
   simp only[Region.ready,List.mem_filter,List.mem_range,List.size_toArray,X.len,Array.getD_eq_getD_getElem?,List.getElem?_toArray,A,Option.map_some,Option.getD_some,Bool.and_eq_true,Bool.not_eq_true', not_and]at p;cases g:d[j]? with
   |none=>rw[Array.getElem?_eq_none_iff]at g;omega
   |some b=>
    cases b with
    |true=>rfl
    |false=>
     exfalso;refine absurd ?_ (p R (by rw[g];rfl))
     rw[<-Array.all_toList];simp only[List.all_eq_true,Bool.or_eq_true,Bool.not_eq_true'];intro e T;cases y:Region.binds .any e with
     |false=>exact .inl rfl
     |true=>
      right;have U:e.on<j:=(W.2 e T).resolve_left (by rw[y];simp)
      rw[I e.on U (by omega)];rfl
 have J:∀(d:Array Bool) i,d.size=X.ls.length->i∈Region.ready .any X.ops.toArray d->i<X.ls.length/\d[i]? = some false/\∀o,X.ops[i]? = some o->∀e∈o.after.toList,Region.binds .any e=true->d[e.on]? = some true:=by
  intro d i u O;simp only[Region.ready,List.mem_filter,List.mem_range,List.size_toArray,X.len,Array.getD_eq_getD_getElem?,List.getElem?_toArray,Bool.and_eq_true,Bool.not_eq_true']at O;obtain⟨B,m,z⟩:=O;refine⟨B,?_,λo A e T y=>?_⟩
  .cases K:d[i]? with
   |none=>rw[Array.getElem?_eq_none_iff]at K;omega
   |some b=>rw[K]at m;simp at m;rw[m]
  .rw[A]at z
   simp only[Option.map_some,Option.getD_some]at z;rw[<-Array.all_toList]at z;simp only[List.all_eq_true,Bool.or_eq_true,Bool.not_eq_true']at z;rcases z e T with h|h
   .rw[y]at h;simp at h
   .cases hle:d[e.on]? with
    |none=>rw[hle]at h;simp at h
    |some b=>rw[hle]at h;simp at h;rw[h]
 intro k
 induction k with
 |zero=>
  intro d C f a w u Z h;have s:∀j,j<X.ls.length->d[j]? = some true:=λj R=>by
   cases g:d[j]? with
   |none=>rw[Array.getElem?_eq_none_iff]at g;omega
   |some b=>
    cases b with
    |true=>rfl
    |false=>
     have:false∈d.toList.filter (·== false):=by
      rw[List.mem_filter];exact⟨by rw[Array.mem_toList_iff];exact Array.mem_of_getElem? g,rfl⟩
     have:=List.length_pos_of_mem this;omega
  refine⟨?_,V _ C f a w h s⟩;cases H:Region.ready .any X.ops.toArray d with
  |nil=>rfl
  |cons i r=>
   obtain⟨B,m,_⟩:=J d i u (by rw[H];simp)
   rw[s i B]at m;simp at m
 |succ k I=>
  intro d C f a w u Z h;refine⟨λH=>V _ C f a w h (G d u H),λi O=>?_⟩;obtain⟨B,m,z⟩:=J d i u O;obtain⟨o,l,A,Y,S⟩:=X.at_ B;have L:i<d.size:=by omega
  refine wpOp_mono (λa' w' ⟨C', f', h'⟩=>I _ C' f' a' w' (by simp[u]) ?_ ?_) (h.next B (by rw[m];simp) (Xj F A S h.closed (z o A)) Q)
  .have M:(d.setIfInBounds i true).toList=d.toList.set i true:=by simp
   rw[M];have N:∀(l:List Bool) (n:Nat),l[n]? = some false->((l.set n true).filter (·== false)).length+1=(l.filter (·== false)).length:=by
    intro l
    induction l with
    |nil=>intro n E;simp at E
    |cons x r I=>
     intro n E;cases n with
     |zero=>simp at E;subst E;simp
     |succ n=>
      simp at E;have:=I n E;cases x<;>simp_all
   have:=N d.toList i (by rw[Array.getElem?_toList];exact m)
   omega
  .have:(λj=>d[j]? = some true\/j=i)=λj=>(d.setIfInBounds i true)[j]? = some true:=by
    funext j
    rw[Array.getElem?_setIfInBounds]
    by_cases e:i=j
    .subst e;simp[L]
    .have e' : j ≠ i:=λq=>e q.symm
     simp[e,e']
   rw[<-this];exact h'
end
theorem Xl{draw:Bool}{ops:List Oper}{sl:List Nat}{nt:Nat}{r:fQ}{ce:CE}{s s' : St}{id:Nat}{ds:List Deferred}{ids:Nat->Nat}{I:Nat->Prop}{a:Act}{w:World}{Q:Exit->Act->World->Prop}(B:P.follows .mixedOrders=true)
  (d:xi P draw ops sl nt r=true) (l:ck P ce) (m:dX P ce) (g:da ce r s=some s') (h:Rel sl nt ds s (ad s.σ ids I) a w)
  (x:∀b I' i w', Rel sl nt ds s' (ad s'.σ b I') i w' ->Step (ad s.σ ids I) w (ad s'.σ b I') w' ->Q .normal i w'):(Code.region id ops.toArray draw).wp P Q a w:=by
 simp only[xi,Bool.and_eq_true,beq_iff_eq,List.all_eq_true,List.mem_range]at d;obtain⟨⟨⟨n,E⟩,F⟩,_⟩:=d;unfold da at g;cases o:lines ce s.vars r.ls ⟨[],s.σ,s.σ⟩with
 |none=>simp[o]at g
 |some q=>
  simp only[o,Option.some.injEq]at g;obtain⟨st,e0,G,p⟩:=Lp o
  let X:RC P:=⟨draw,Ls ops,ops,r.ls,sl,nt,ce,s.vars,s.σ,st,n,E,e0,p,l,m⟩
  have fin:∀(u:World) (y:Step (ad s.σ ids I) w (ad s.σ ids I) u) D C f a w', Inv X (ad s.σ ids I) u ds D C f a w' ->(∀j,j<X.ls.length->D j)->Q .normal a w' :=by
   intro u y D C f i w' H J;obtain⟨b, I', z,A⟩:=H.full J (r:=r) rfl F (vs:=s.vars) rfl _ rfl;have e:(X.st X.ls.length)=q:=G;rw[e]at z A;rw[<-g]at x;exact x b I' i w' z (y.trans A)
  cases draw with
  |false=>
   refine wp_region ?_;have:=LQ (X:=X) (Q:=Q) rfl (fin w (Step.refl _ _)) X.ls.length (λ_=>False) _ 0 a w (Nat.le_refl _) (λj=>by simp) (Inv.mk0 rfl rfl h)
   rw[Nat.sub_self]at this;rw[List.size_toArray,n,List.range_eq_range'];exact this
  |true=>
   refine wp_region_any B ?_;have hd:Step (ad s.σ ids I) w (ad s.σ ids I) {w with drawn:=w.drawn+1}:=⟨fF.refl _ _,Nat.le_refl _,λ_ _ _=>rfl,λ_ h=>.inl h,λ_ h=>.inl h,rfl,⟨rfl,Nat.le_succ _⟩,rfl⟩
   have K : Rel sl nt ds s (ad s.σ ids I) a {w with drawn:=w.drawn+1}:=⟨⟨h.good.I,h.good.kN,h.good.live,h.good.apart,h.good.maps⟩,h.size,h.defers,h.vars,h.fl⟩
   rw[List.size_toArray,n];refine Xk (X:=X) rfl (fin _ hd) r.ls.length (Array.replicate r.ls.length false) (ad s.σ ids I) 0 a _ (by simp[X]) (Nat.le_trans (List.length_filter_le _ _) (by simp)) ?_
   have e:(λ_:Nat=>False)=λj:Nat=>(Array.replicate r.ls.length false)[j]? = some true:=by
    funext j
    simp[Array.getElem?_replicate]
   rw[<-e];exact Inv.mk0 rfl rfl K
end Ab
namespace Ab
open Go
def mQ{p:Nat->Bool}:∀{σ:List ah}{n b:Nat},ak (bC p n σ) b=(ak σ b).map λB=>if p (n+b)then⟨B.k,B.cells,.dead⟩else B
 | [],_,_=>rfl
 |B::r,n,0=>by simp[bC,ak]
 |B::r,n,b+1=>by
  simp only[bC,ak];rw[mQ,show n+1+b=n+(b+1)by omega]
variable{p:Nat->Bool}{ids:Nat->Nat}{I I': Nat->Prop}{b u:Nat}
theorem nT{σ:List ah}{e:ah×Nat}:(ad (bC p 0 σ) ids I').own b u=some e↔p b=false/\(ad σ ids I).own b u=some e:=by
 simp only[ad,mQ,Nat.zero_add];cases a:ak σ b with
 |none=>simp
 |some B=>
  simp only[Option.map_some];cases d:p b with
  |true=>simp
  |false=>simp
variable{bO: Nat->Nat}
theorem Ee{σ:List ah}{ids: Nat->Nat}:(ad (bC p 0 σ) ids I').lim b u↔(ad σ bO I).lim b u:=by
 simp only[ad,mQ,Nat.zero_add];cases d:ak σ b with
 |none=>simp
 |some B=>
  cases a:p b<;>simp[a]
variable{x y:AV}{v:Value}
theorem Xm{σ:List ah}{I:Nat->Prop}{w:World}(p:Nat->Bool) (d:Good (ad σ ids I) w) (H:view (bC (λb=>!p b) 0 σ) false vd x=some y) (J:VR (ad σ ids I) w.heap x v) :
  ∃I', Good (ad (bC p 0 σ) ids I') w/\Step (ad σ ids I) w (ad (bC p 0 σ) ids I') w/\VR (ad (bC p 0 σ) ids I') w.heap y v:=by
 let I' : Nat->Prop:=λk=>I k\/owned (ad (bC (λb=>!p b) 0 σ) ids I) k
 obtain⟨K,L⟩:=Good.shrink (C2:=ad (bC (λb=>!p b) 0 σ) ids I) d rfl (λb u e h=>(nT.1 h).2) (λb u h=>Ee.2 h);have q:∀k,owned (ad (bC (λb=>!p b) 0 σ) ids I) k->owned (ad σ ids I) k:=λk ⟨b,u,B,h,g⟩=>⟨b,u,B,(nT.1 h).2,g⟩;have ev:fF (ad σ ids I) w.heap (ad (bC p 0 σ) ids I') w.heap:=by
  refine⟨λk a=>.inl a,λ_ _=>rfl,λb u h=>Ee.2 h,λb u B' id _ j=>⟨B', (nT.1 j).2,rfl,rfl,λc el M=>⟨c,M,rfl⟩⟩⟩
 refine⟨I', ⟨λk a=>a.elim (d.I k) λh=>d.lt (q k h),λb u B id j=>?_,λb u B id j g=>?_,λb1 U V i1 W X Y Z r N s O A=>d.apart _ _ _ _ _ _ _ _ (nT.1 r).2 N (nT.1 s).2 O A,λb u B id es j g=>?_⟩,
  ⟨ev,Nat.le_refl _,λ_ _ _=>rfl,λk ⟨b,u,B,h,g⟩=>.inl ⟨b,u,B,(nT.1 h).2,g⟩,λk a=>a.elim .inl λh=>.inr (.inl (q k h)),rfl,⟨rfl,Nat.le_refl _⟩,rfl⟩,?_⟩
 .obtain⟨r,s,C,D⟩:=d.kN b u B id (nT.1 j).2
  exact⟨Ee.2 r,s,C,D⟩
 .obtain⟨E,o⟩:=(nT (I:=I)).1 j
  obtain⟨r,c,el,s,C,D⟩:=d.live b u B id o g;refine⟨λa=>?_,c,el,s,C,λi x P=>?_⟩
  .rcases a with a|⟨F, u', B', l, m⟩
   .exact r a
   .obtain⟨z,G⟩:=(nT (I:=I)).1 l
    have n:F ≠ b:=λe=>by
     subst e;rw[E]at z;simp at z
    exact d.apart _ _ _ _ _ _ _ _ G m o (kT g) n rfl
  .obtain⟨y,Q,R,S⟩:=D i x P
   exact⟨y,Q,VR.mono ev _ _ R,S⟩
 .obtain⟨E,o⟩:=(nT (I:=I)).1 j
  refine d.cQ (C' :=ad (bC p 0 σ) ids I') ev o g rfl λa=>?_;rcases a with a|⟨F, u', B', l, m⟩
  .exact(d.maps b u B id es o g).1 a
  .obtain⟨z,G⟩:=(nT (I:=I)).1 l
   have n:F ≠ b:=λe=>by
    subst e;rw[E]at z;simp at z
   exact d.apart _ _ _ _ _ _ _ _ G m o (kQ g) n rfl
 .exact(zA (C2:=ad (bC p 0 σ) ids I') (λb u B _ T=>⟨_,mG ids I T⟩) K (fr:=false) ⟨λ_ k a=>.inl a,λk a=>.inr a⟩ vd x y v H (VR.mono L.ev _ _ J)).2
def LR:AV->AV
 |.au _ l=>.au true l
 |x=>x
variable{C2:Ctx}
theorem Xn{σ:List ah}{I:Nat->Prop}{w:World}(d:gy σ x=true) (g:VR (ad σ ids I) w.heap x v) (i:VR C2 w.heap y v) :
  VR C2 w.heap (LR y) v:=by
 have j:v ≠ .slice none 0 0:=by
  cases x<;>simp only[gy]at d<;>try(simp at d;done)
  .rename_i p l
   subst d;unfold VR at g;rcases g.2 with⟨_,a,h,d⟩|⟨_,_,_,_,_,_,_,h,_⟩
   .obtain⟨q,rfl⟩:=Option.isSome_iff_exists.1 (d rfl);rw[h];simp
   .rw[h];simp
  .rename_i b u off len
   cases m:upto σ b u with
   |none=>simp[m]at d
   |some B=>
    simp only[m]at d;have r:B.st = .live:=by revert d;cases B.st<;>simp
    unfold VR at g;have:=g.2.2 B _ (mG ids I m);rw[r]at this;obtain⟨c,el,o,cap,_,e,_⟩:=this;rw[e];simp
 cases y with
 |au p l=>
  unfold LR;unfold VR at i ⊢;refine⟨i.1,?_⟩;rcases i.2 with h|h
  .obtain⟨s,a,n,_⟩:=h
   refine .inl ⟨s,a,n,λ_=>?_⟩;cases a with
   |none=>exact absurd n j
   |some q=>rfl
  .exact .inr h
 |_=>exact i
theorem zZ{C C2:Ctx}{H:Array Obj}{q:AV->Bool}(b:∀x v,q x=true->VR C H x v->VR C2 H x v):∀{l:List AV}{vs:List Value},l.all q=true->bW C H l vs->bW C2 H l vs
 | [],_,_,h=>h
 |x::r,_,a,⟨v,s,e,d,g⟩=>by
  simp only[List.all_cons,Bool.and_eq_true]at a;exact⟨v,s,e,b x v a.1 d,zZ b a.2 g⟩
variable{m:Nat}
theorem Xo{C:Ctx}{H:Array Obj}(w:C2.I=C.I) (r:∀b u e,b<m->C2.own b u=some e->C.own b u=some e) (s:∀b u,b<m->C.lim b u->C2.lim b u) :
  ∀(x:AV) (v:Value),lf m x=true->VR C H x v->VR C2 H x v:=by
 have a:nu C H C2 H:=⟨λk h=>by rw[w];exact h,λ_ _=>rfl⟩
 have o:∀b u off len v,b<m->VR C H (.sl b u off len) v->VR C2 H (.sl b u off len) v:=λb u off len v j h=>by
  unfold VR at h ⊢;exact⟨h.1,s b u j h.2.1,λB id g=>h.2.2 B id (r b u _ j g)⟩
 have p:∀b u off v,b<m->VR C H (.ptr b u off) v->VR C2 H (.ptr b u off) v:=λb u off v j h=>by
  unfold VR at h ⊢;exact⟨h.1,s b u j h.2.1,λB id g=>h.2.2 B id (r b u _ j g)⟩
 have q:∀b v,b<m->VR C H (.cC b) v->VR C2 H (.cC b) v:=λb v j h=>by
  unfold VR at h ⊢;exact⟨h.1,s b 0 j h.2.1,λB id g=>h.2.2 B id (r b 0 _ j g)⟩
 have n:∀(x:AV) v,uW m x=true->VR C H x v->VR C2 H x v:=λx v d h=>by
  cases x with
  |cC b=>exact q b v (by simpa[uW]using d) h
  |sl b u off len=>exact o b u off len v (by simpa[uW]using d) h
  |ptr b u off=>exact p b u off v (by simpa[uW]using d) h
  |aF=>unfold VR;trivial
  |_=>exact VR.free a _ _ (by simpa[uW]using d) h
 intro x v d h;cases x with
 |sl b u off len=>exact o b u off len v (by simpa[lf]using d) h
 |ptr b u off=>exact p b u off v (by simpa[lf]using d) h
 |cC b=>exact q b v (by simpa[lf]using d) h
 |aF=>unfold VR;trivial
 |arr l=>simp[lf]at d
 |agg l=>
  unfold VR at h ⊢;obtain⟨vs,e,i, z⟩:=h;exact⟨vs,e,zZ n d i, z⟩
 |bF l=>
  unfold VR at h ⊢;obtain⟨vs,e,i⟩:=h;exact⟨vs,e,zZ n d i⟩
 |func f l=>
  unfold VR at h ⊢;obtain⟨vs,e,i⟩:=h;exact⟨vs,e,zZ n d i⟩
 |iface t y=>exact VR.free a _ _ (by simpa[lf,aI]using d) h
 |au A l=>
  have:ax l=true:=by unfold VR at h;exact h.1
  exact VR.free a _ _ (by simpa[aI]using this) h
 |aV y=>
  have:aI y=true:=by unfold VR at h;exact h.1
  exact VR.free a _ _ (by simpa[aI]using this) h
 |_=>exact VR.free a _ _ rfl h
theorem Ef{n:Nat}:∀{m:Nat}{σ:List ah},sY n m σ=true->∀b B,b<m->ak σ b=some B->B.cells.all (lf n)=true/\Lm n B.st=true
 |0,_,_,b,_,d,_=>absurd d (Nat.not_lt_zero b)
 |m+1,[],_,b,B,_,h=>by simp[ak]at h
 |m+1,e::r,h,b,B,d,a=>by
  simp only[sY,Bool.and_eq_true]at h;cases b with
  |zero=>simp[ak]at a;subst a;exact h.1
  |succ b=>exact Ef h.2 b B (by omega) (by simpa[ak]using a)
theorem LU{σ:List ah}:ak (σ.take m) b=if b<m then ak σ b else none:=by
 rw[cX,cX,List.getElem?_take]
theorem Xp{σ a : List ah}{ids: Nat->Nat}{w w' : World}(E:Good (ad a bO I') w') (o:Step (ad σ ids I) w (ad a bO I') w') (G:sY σ.length σ.length a = true) :
  Good (ad (a.take σ.length) bO I') w' /\Step (ad σ ids I) w (ad (a.take σ.length) bO I') w' /\∀x v,lf σ.length x=true->VR (ad a bO I') w'.heap x v->VR (ad (a.take σ.length) bO I') w'.heap x v:=by
 have d:∀b u e,(ad (a.take σ.length) bO I').own b u=some e->b<σ.length/\(ad a bO I').own b u=some e:=λb u e h=>by
  simp only[ad,LU]at h ⊢
  by_cases p:b<σ.length
  .simp only[p,if_true]at h;exact⟨p,h⟩
  .simp[p]at h
 have r:∀b u,b<σ.length->(ad a bO I').lim b u->(ad (a.take σ.length) bO I').lim b u:=λb u p ⟨B,n,z⟩=>⟨B,by rw[LU,if_pos p];exact n,z⟩
 have low:=Xo (H:=w'.heap) (m:=σ.length) (C:=ad a bO I') (C2:=ad (a.take σ.length) bO I') rfl (λb u e _ h=>(d b u e h).2) r;have K:∀b u,(ad σ ids I).lim b u->b<σ.length:=λb u ⟨B,n,_⟩=>by rw[cX]at n;exact(List.getElem?_eq_some_iff.1 n).1
 refine⟨⟨E.I,λb u B id D=>?_,λb u B id D A=>?_,λb1 X Y i1 Z u2 B2 i2 n R z S L=>E.apart _ _ _ _ _ _ _ _ (d _ _ _ n).2 R (d _ _ _ z).2 S L,λb u B id es D A=>?_⟩,
  ⟨⟨o.ev.au,o.ev.same,λb u h=>r b u (K b u h) (o.ev.lim b u h),λb u B' id h D=>o.ev.own b u B' id h (d _ _ _ D).2⟩,o.size,o.frame,λk ⟨b,u,B,h,G⟩=>o.fN k ⟨b,u,B,(d _ _ _ h).2,G⟩,o.ga,o.os,o.tape,o.output⟩,low⟩
 .obtain⟨p,g⟩:=d _ _ _ D
  obtain⟨n,z,F,M⟩:=E.kN b u B id g;exact⟨r b u p n,z,F,M⟩
 .obtain⟨p,g⟩:=d _ _ _ D
  obtain⟨n,c,el,z,F,M⟩:=E.live b u B id g A;obtain⟨N,_⟩:=wQ g;have j:=(Ef G b B p N).1;refine⟨n,c,el,z,F,λi x Q=>?_⟩;obtain⟨y,J,O,T⟩:=M i x Q;exact⟨y,J,low x y (List.all_eq_true.1 j x (List.mem_of_getElem? Q)) O,T⟩
 .obtain⟨p,g⟩:=d _ _ _ D
  obtain⟨n,l,c,z,F⟩:=E.maps b u B id es g A;obtain⟨N,_⟩:=wQ g;have j:=(Ef G b B p N).2;rw[A]at j;refine⟨n,l,c,z,?_⟩;have go:∀{es:List (AV×AV)} {l:List MapEntry},(es.all λe=>lf σ.length e.2)=true->MR (ad a bO I') w'.heap es l->MR (ad (a.take σ.length) bO I') w'.heap es l:=by
   intro es
   induction es with
   |nil=>intro l _ h;exact h
   |cons e es U=>
    obtain⟨k,x⟩:=e;rintro l P ⟨e,s,q,⟨J,O⟩,V,W⟩;simp only[List.all_cons,Bool.and_eq_true]at P;exact⟨e,s,q,⟨J,VR.free (show nu (ad a bO I') w'.heap (ad (a.take σ.length) bO I') w'.heap from⟨λ_ h=>h,λ_ _=>rfl⟩) _ _ J O⟩,low _ _ P.1 V,U P.2 W⟩
  exact go j F
end Ab
namespace Ab
open Go
variable{P:Program}
def ig (P:Program) (sl:List Nat) (nt:Nat):IC->Code->Bool
 |.skip,.skip=>true
 |.skip,.label _=>true
 |.bad,_=>true
 |.cut b a,.cond (.const (.bool d)) x y=>b==d && ig P sl nt a (if b then x else y)
 |.CD a,.scope x=>ig P sl nt a x
 |.cq r,.region _ ops draw=>xi P draw ops.toList sl nt r
 |.seq a b,c=>match b with
  |.kO k=>decide (k<sl.length)&&ig P sl nt a c
  |_=>match c with
   |.seq x y=>ig P sl nt a x&&ig P sl nt b y
   |_=>false
 |.cond t a b,.cond (.tmp e) x y=>t==e && ig P sl nt a x&&ig P sl nt b y
 |.iX k a b,.cond (.tmp t) x y=>sl[k]? == some t&&ig P sl nt a x&&ig P sl nt b y
 |.block id a,.block id' x=>id==id' && ig P sl nt a x
 |.loop a,.loop x=>ig P sl nt a x
 |.exit id,.exit id' =>id==id'
 |.ret,.ret=>true
 |.lex a,c=>ig P sl nt a c
 |_,_=>false
def z6:Ex->Exit
 |.eU=>.normal
 |.exit id=>.exit id
 |.ret=>.ret
theorem least{p:Nat->Prop}:∀{n:Nat},p n->∃k,p k/\∀m,m<k->¬p m:=by
 intro n
 induction n using Nat.strongRecOn with
 |ind n e=>
  intro h
  by_cases d:∃m,m<n/\p m
  .obtain⟨m,a,b⟩:=d
   exact e m a b
  .exact⟨n,h,λm a b=>d ⟨m,a,b⟩⟩
open Classical in
theorem Xq{c:Code}{Q:Exit->Act->World->Prop}{a:Act}{w:World}(J:Nat->Act->World->Prop){k:Nat}(o:J k a w) (q:∀a w,¬J 0 a w) (round:∀k a w,J (k+1) a w->c.wp P (Exit.then (J k) Q) a w):(Code.loop c).wp P Q a w:=by
 let b:Act->World->Nat:=λa w=>if h:∃k,J k a w/\∀m,m<k->¬J m a w then choose h else 0
 have d:∀a w k,J k a w->J (b a w) a w/\b a w<=k:=λa w k g=>by
  have h:=least (p:=λk=>J k a w) g;have e:b a w=choose h:=dif_pos h;have n:=choose_spec h;rw[e];exact⟨n.1,Nat.le_of_not_lt λi=>n.2 k i g⟩
 refine wp_loop (λa w=>∃k,J k a w) b ⟨k,o⟩ λa w ⟨k,g⟩=>?_;obtain⟨j,_⟩:=d a w k g;generalize s:b a w=m at j;cases m with
 |zero=>exact absurd j (q a w)
 |succ m=>
  refine wp_mono (round m a w j) λe r w' l=>?_;cases e with
  |normal=>exact⟨⟨m,l⟩,Nat.lt_succ_of_le (d r w' m l).2⟩
  |_=>exact l
theorem Xr{sl:List Nat}{nt:Nat}{ds:List Deferred}{n:Nat}{ce:CE}(hm:P.follows .mixedOrders=true) (pD:ck P ce) (zg:dX P ce) :
  ∀(ic:IC) (c:Code) (s:St) (e:Ex) (s' : St) (ids:Nat->Nat) (I:Nat->Prop) (a:Act) (w:World) (Q:Exit->Act->World->Prop),ig P sl nt ic c=true->exec n ce ic s=some (e,s')->Rel sl nt ds s (ad s.σ ids I) a w->
   (∀bO I' a' w', Rel sl nt ds s' (ad s'.σ bO I') a' w' ->Step (ad s.σ ids I) w (ad s'.σ bO I') w' ->Q (z6 e) a' w')->c.wp P Q a w:=by
 intro ic
 induction ic with
 |skip=>
  intro c s e s' ids I a w Q db he h hQ;cases c<;>try(simp[ig]at db;done)
  .simp only[exec,Option.some.injEq,Prod.mk.injEq]at he
   obtain⟨rfl,rfl⟩:=he;exact wp_skip (hQ ids I a w h (Step.refl _ _))
  .simp only[exec,Option.some.injEq,Prod.mk.injEq]at he
   obtain⟨rfl,rfl⟩:=he;exact wp_label (hQ ids I a w h (Step.refl _ _))
 |bad=>
  intro c s e s' ids I a w Q db he h hQ;simp[exec]at he
 |cut b x ih=>
  intro c s e s' ids I a w Q db he h hQ;cases c<;>try(simp[ig]at db;done)
  rename_i c0 x' y';cases c0<;>try(simp[ig]at db;done)
  rename_i v;cases v<;>try(simp[ig]at db;done)
  rename_i b';simp only[ig,Bool.and_eq_true,beq_iff_eq]at db;obtain⟨rfl,db⟩:=db;simp only[exec]at he;refine wp_cond (t:=b) rfl ?_;exact ih _ s e s' ids I a w Q db he h hQ
 |CD x ih=>
  intro c s e s' ids I a w Q db he h hQ;cases c<;>try(simp[ig]at db;done)
  rename_i c;simp only[ig]at db;simp only[exec]at he;refine wp_scope_straight ?_;refine ih c s e s' ids I a w _ db he h λbO I' a' w' h' zI =>?_;have:=hQ bO I' a' w' h' zI;cases e<;>exact this
 |cq r=>
  intro c s e s' ids I a w Q db he h hQ;cases c<;>try(simp[ig]at db;done)
  rename_i id ops draw;simp only[exec]at he;cases hr:da ce r s with
  |none=>simp[hr]at he
  |some s1=>
   simp only[hr,Option.some.injEq,Prod.mk.injEq]at he;obtain⟨rfl,rfl⟩:=he;simp only[ig]at db;have:=Xl (id:=id) (Q:=Q) hm db pD zg hr h hQ
   rwa [Array.toArray_toList]at this
 |seq x y JZ LV=>
  intro c s e s' ids I a w Q db he h hQ;simp only[exec]at he;cases hx:exec n ce x s with
  |none=>simp[hx]at he
  |some es=>
   obtain⟨e1,s1⟩:=es;simp only[hx]at he
   by_cases hf:∃k,y = .kO k
   .obtain⟨k,rfl⟩:=hf
    simp only[ig,Bool.and_eq_true,decide_eq_true_eq]at db;obtain⟨hk,db⟩:=db;refine JZ c s e1 s1 ids I a w Q db hx h λiA I1 a1 w1 h1 st1=>?_;cases e1 with
    |eU=>
     simp only[exec]at he;split at he
     case h_2=>simp at he
     rename_i v hv;simp only[Option.some.injEq,Prod.mk.injEq]at he;obtain⟨rfl,rfl⟩:=he;have hk' : ∃t,sl[k]? = some t:=⟨_,List.getElem?_eq_getElem hk⟩
     .obtain⟨t,ht⟩:=hk'
      obtain⟨I2,g1,g2,g3⟩:=Xm (λb=>(reach s1.σ vd (nth s1.vars k) []).contains b) h1.good hv (h1.vars k t ht);refine hQ iA I2 a1 w1 ⟨g1,h1.size,h1.defers,λj t' hj=>?_,λt' v' LW =>VR.mono g2.ev _ _ (h1.fl t' v' LW)⟩ (st1.trans g2);simp only;rw[Ed]
      by_cases e:j=k/\k<s1.vars.length
      .rw[if_pos e]
       have:t' = t:=by rw[e.1,ht]at hj;simp at hj;exact hj.symm
       subst this
       by_cases hs:gy s1.σ (nth s1.vars k)=true
       .rw[if_pos hs];exact Xn hs (h1.vars k t' ht) g3
       .rw[if_neg hs];exact g3
      .rw[if_neg e]
       exact VR.mono g2.ev _ _ (h1.vars j t' hj)
    |exit id=>simp only[Option.some.injEq,Prod.mk.injEq]at he;obtain⟨rfl,rfl⟩:=he;exact hQ iA I1 a1 w1 h1 st1
    |ret=>simp only[Option.some.injEq,Prod.mk.injEq]at he;obtain⟨rfl,rfl⟩:=he;exact hQ iA I1 a1 w1 h1 st1
   .have Xt : ∃x' y', c = .seq x' y' /\ig P sl nt x x' = true/\ig P sl nt y y' = true:=by
     unfold ig at db;split at db
     .exact absurd ⟨_,rfl⟩ hf
     .split at db
      .simp only[Bool.and_eq_true]at db
       exact⟨_,_,rfl,db.1,db.2⟩
      .simp at db
    obtain⟨x', y', rfl,LY,LZ⟩:=Xt;refine wp_seq (JZ x' s e1 s1 ids I a w _ LY hx h λiA I1 a1 w1 h1 st1=>?_);cases e1 with
    |eU=>exact LV y' s1 e s' iA I1 a1 w1 Q LZ he h1 λbO I' a' w' h' zI =>hQ bO I' a' w' h' (st1.trans zI)
    |exit id=>simp only[Option.some.injEq,Prod.mk.injEq]at he;obtain⟨rfl,rfl⟩:=he;exact hQ iA I1 a1 w1 h1 st1
    |ret=>simp only[Option.some.injEq,Prod.mk.injEq]at he;obtain⟨rfl,rfl⟩:=he;exact hQ iA I1 a1 w1 h1 st1
 |cond t x y JZ LV=>
  intro c s e s' ids I a w Q db he h hQ;cases c<;>try(simp[ig]at db;done)
  rename_i c0 x' y';cases c0<;>try(simp[ig]at db;done)
  rename_i t';simp only[ig,Bool.and_eq_true,beq_iff_eq]at db;obtain⟨⟨rfl,LY⟩,LZ⟩:=db;simp only[exec]at he;split at he
  case h_2=>simp at he
  rename_i t1 b JY
  by_cases e1:t1=t
  .subst e1
   simp only[beq_self_eq_true,if_true]at he;have hb:a.eval (.tmp t1) = .bool b:=h.fl t1 (.bool b) JY;have h' : Rel sl nt ds {s with fl:=none} (ad s.σ ids I) a w:=⟨h.good,h.size,h.defers,h.vars,λ_ _ q=>by simp at q⟩
   refine wp_cond (t:=b) hb ?_;cases b with
   |true=>exact JZ x' {s with fl:=none} e s' ids I a w Q LY he h' hQ
   |false=>exact LV y' {s with fl:=none} e s' ids I a w Q LZ he h' hQ
  .have:(t1==t)=false:=by simpa using e1
   simp[this]at he
 |iX k x y JZ LV=>
  intro c s e s' ids I a w Q db he h hQ;cases c<;>try(simp[ig]at db;done)
  rename_i c0 x' y';cases c0<;>try(simp[ig]at db;done)
  rename_i t;simp only[ig,Bool.and_eq_true,beq_iff_eq]at db;obtain⟨⟨hk,LY⟩,LZ⟩:=db;simp only[exec]at he;split at he
  case h_2=>simp at he
  rename_i b hv;have hb:a.eval (.tmp t) = .bool b:=by
   have:=h.vars k t hk;rw[hv]at this;exact this
  refine wp_cond (t:=b) hb ?_;cases b with
  |true=>exact JZ x' s e s' ids I a w Q LY he h hQ
  |false=>exact LV y' s e s' ids I a w Q LZ he h hQ
 |block id x ih=>
  intro c s e s' ids I a w Q db he h hQ;cases c<;>try(simp[ig]at db;done)
  rename_i id' c;simp only[ig,Bool.and_eq_true,beq_iff_eq]at db;obtain⟨rfl,db⟩:=db;simp only[exec]at he;refine wp_block ?_;cases hx:exec n ce x s with
  |none=>simp[hx]at he
  |some es=>
   obtain⟨e1,s1⟩:=es;simp only[hx]at he;refine ih c s e1 s1 ids I a w _ db hx h λiA I1 a1 w1 h1 st1=>?_;cases e1 with
   |eU=>simp only[Option.some.injEq,Prod.mk.injEq]at he;obtain⟨rfl,rfl⟩:=he;exact hQ iA I1 a1 w1 h1 st1
   |exit j=>
    simp only at he
    by_cases hj:j=id
    .subst hj
     simp only[beq_self_eq_true,if_true,Option.some.injEq,Prod.mk.injEq]at he;obtain⟨rfl,rfl⟩:=he;simp only[z6,Exit.inBlock,if_true];exact hQ iA I1 a1 w1 h1 st1
    .have:(j==id)=false:=by simpa using hj
     simp only[this,Bool.false_eq_true,if_false,Option.some.injEq,Prod.mk.injEq]at he;obtain⟨rfl,rfl⟩:=he;simp only[z6,Exit.inBlock,hj,if_false];exact hQ iA I1 a1 w1 h1 st1
   |ret=>simp only[Option.some.injEq,Prod.mk.injEq]at he;obtain⟨rfl,rfl⟩:=he;exact hQ iA I1 a1 w1 h1 st1
 |loop x ih=>
  intro c s e s' ids I a w Q db he h hQ;cases c<;>try(simp[ig]at db;done)
  rename_i c;simp only[ig]at db;simp only[exec]at he;refine Xq (λk a1 w1=>∃s1 iA I1,iter (exec n ce x) k s1=some (e,s')/\Rel sl nt ds s1 (ad s1.σ iA I1) a1 w1/\Step (ad s.σ ids I) w (ad s1.σ iA I1) w1) (k:=n) ⟨s,ids,I,he,h,Step.refl _ _⟩ (λa1 w1 ⟨s1,_,_,h0,_⟩=>by simp[iter]at h0) ?_
  rintro k a1 w1 ⟨s1,iA,I1,h1,r1,st1⟩;simp only[iter]at h1;cases hx:exec n ce x s1 with
  |none=>simp[hx]at h1
  |some es=>
   obtain⟨e2,s2⟩:=es;simp only[hx]at h1;refine ih c s1 e2 s2 iA I1 a1 w1 _ db hx r1 λsZ I2 a2 w2 r2 st2=>?_;cases e2 with
   |eU=>exact⟨s2,sZ,I2,h1,r2,st1.trans st2⟩
   |exit j=>simp only[Option.some.injEq,Prod.mk.injEq]at h1;obtain⟨rfl,rfl⟩:=h1;exact hQ sZ I2 a2 w2 r2 (st1.trans st2)
   |ret=>simp only[Option.some.injEq,Prod.mk.injEq]at h1;obtain⟨rfl,rfl⟩:=h1;exact hQ sZ I2 a2 w2 r2 (st1.trans st2)
 |exit id=>
  intro c s e s' ids I a w Q db he h hQ;cases c<;>try(simp[ig]at db;done)
  simp only[ig,beq_iff_eq]at db;subst db;simp only[exec,Option.some.injEq,Prod.mk.injEq]at he;obtain⟨rfl,rfl⟩:=he;exact wp_exit (hQ ids I a w h (Step.refl _ _))
 |ret=>
  intro c s e s' ids I a w Q db he h hQ;cases c<;>try(simp[ig]at db;done)
  simp only[exec,Option.some.injEq,Prod.mk.injEq]at he;obtain⟨rfl,rfl⟩:=he;exact wp_ret (hQ ids I a w h (Step.refl _ _))
 |kO k=>
  intro c s e s' ids I a w Q db he h hQ;cases c<;>simp[ig]at db
 |lex x ih=>
  intro c s e s' ids I a w Q db he h hQ;simp only[ig]at db;simp only[exec]at he;cases hx:exec n ce x s with
  |none=>simp[hx]at he
  |some es=>
   obtain⟨e1,s1⟩:=es;simp only[hx]at he;refine ih c s e1 s1 ids I a w Q db hx h λiA I1 a1 w1 h1 st1=>?_;have go:(if(s1.vars.all (lf s.σ.length)&&sY s.σ.length s.σ.length s1.σ&&(match s1.fl with|some _=>false|none=>true))=true then some (e1,({s1 with σ:=s1.σ.take s.σ.length}:St))else none)=some (e,s')->Q (z6 e1) a1 w1:=λhe=>by
    by_cases hc:(s1.vars.all (lf s.σ.length)&&sY s.σ.length s.σ.length s1.σ&&(match s1.fl with|some _=>false|none=>true))=true
    case neg=>rw[if_neg hc]at he;simp at he
    rw[if_pos hc]at he;simp only[Bool.and_eq_true]at hc;obtain⟨⟨c1,c2⟩,c3⟩:=hc;simp only[Option.some.injEq,Prod.mk.injEq]at he;obtain⟨rfl,rfl⟩:=he;obtain⟨g1,g2,g3⟩:=Xp h1.good st1 c2;refine hQ iA I1 a1 w1 ⟨g1,h1.size,h1.defers,λj t hj=>?_,λt v hv=>?_⟩ g2
    .refine g3 _ _ ?_ (h1.vars j t hj)
     rw[rB];cases hq:s1.vars[j]? with
     |none=>rfl
     |some q=>exact List.all_eq_true.1 c1 q (List.mem_of_getElem? hq)
    .simp only at hv
     rw[hv]at c3;simp at c3
   cases e1 with
   |eU=>exact go he
   |exit j=>exact go he
   |ret=>simp only[Option.some.injEq,Prod.mk.injEq]at he;obtain⟨rfl,rfl⟩:=he;exact hQ iA I1 a1 w1 h1 st1
end Ab
namespace Ab
open Go
variable{P:Program}
def jL (P:Program) (sl:List Nat):List ResultVar->List (Nat×Option (Option Nat))->Bool
 | [],[]=>true
 |.tmp t::r,(k,none)::s=>sl[k]? == some t&&jL P sl r s
 |.cell a ty::r,(k,some b)::s=>sl[k]? == some a&&bu P ty b&&jL P sl r s
 |_,_=>false
def oX (P:Program) (f:Nat) (fn:Fn) (sl:List Nat):Bool:=
 match P.funcs[f]? with
 |some a=>cz P f&&(match a.body with
  |some c=>ig P sl a.ntmps fn.body c&&jL P sl a.results.toList fn.res&&decide (fn.np<=a.ntmps)&&(List.range sl.length).all λk=>decide (fn.np<=k)||sl[k]? == some k
  |none=>false)
 |none=>false
def et (P:Program) (f:Nat) (p:CE->List AV->List ah->Option (AV×List ah)):Prop:=
 cz P f=true/\∀ce,ck P ce->dX P ce->∀args σ r b, p ce args σ=some (r,b)->∀(ids:Nat->Nat) (I:Nat->Prop) (w:World) (vs:List Value),Good (ad σ ids I) w->bW (ad σ ids I) w.heap args vs->
  Calls P f vs.toArray w λe w' =>∃v a I', e = .returned v/\Good (ad b a I') w' /\VR (ad b a I') w'.heap r v/\Step (ad σ ids I) w (ad b a I') w'
variable{v:Value}
theorem Xu{s:Sem Value}{w:World}(h:(do let x <-s;pure (Next.value x):Sem Next).run P w = .ok (.value v) w):s.run P w = .ok v w:=by
 simp only[Sem.run_bind]at h;cases b:s.run P w with
 |ok a w' =>rw[b]at h;simp[Result.andThen]at h;obtain⟨rfl,rfl⟩:=h;rfl
 |halt x w' =>rw[b]at h;simp[Result.andThen]at h
theorem Xv{C:Ctx}{w:World}{σ:List ah}{x y:AV}{p:Option cD}{kd:Option Nat}{ty:TypeId}(hk:bu P ty kd=true) (hg:Good C w) (jg:∀b u B,C.lim b u->upto σ b u=some B->∃id,C.own b u=some (B,id)) (hx:VR C w.heap x v)
  (he:ev (λ_ _ _=>none) σ 0 [] (λ_=>x) (.ld (.v 0) kd)=some (y,p)):∃z,(do loadVar ty (<-asAddr v):Sem Value).run P w = .ok z w/\VR C w.heap y z:=by
 obtain⟨⟨z,h1,h2⟩,_⟩:=wY (P:=P) (ρ:=λ_=>v) (o:=⟨none,.load ty (.tmp 0),0, "",#[],none⟩) (w:=w) (C:=C) rfl hk hg jg hx he;have h3:=Xu (s:=Instr.loadAt ty v) h1;refine⟨z,?_,h2⟩;have hp:∃a,v = .pointer (some a):=by
  simp only[ev]at he;cases x<;>try(simp at he;done)
  .unfold VR at hx;obtain⟨_,ak,off,_,_,_,_,e,_⟩:=hx;exact⟨_,e⟩
  .unfold VR at hx;obtain⟨⟨ak,e⟩,_⟩:=hx;exact⟨_,e⟩
 obtain⟨a,rfl⟩:=hp;rw[<-h3];simp only[Instr.loadAt,Instr.sureAddr,asAddr,Sem.run_bind,Sem.run_pure,Result.andThen_ok]
def qo (tmps:Array Value):ResultVar->Sem Value
 |.tmp t=>pure (tmps.getD t undef)
 |.cell a t=>do loadVar t (<-asAddr (tmps.getD a undef))
theorem Xw (a:Func) (tmps:Array Value):Go.results a tmps=(do
  let vs <-a.results.mapM (qo tmps)
  pure (if h:vs.size=1 then vs[0]else .tuple vs)):=by
 unfold Go.results
 congr 2
theorem Eg{sl:List Nat}{nt:Nat}{ds:List Deferred}{s:St}{ids:Nat->Nat}{I:Nat->Prop}{a:Act}{w:World}(h:Rel sl nt ds s (ad s.σ ids I) a w) :
  ∀(rs:List ResultVar) (g:List (Nat×Option (Option Nat))) (xs:List AV),jL P sl rs g=true->bI (iY s) g=some xs->
   ∃vs,(rs.mapM (qo a.tmps)).run P w = .ok vs w/\bW (ad s.σ ids I) w.heap xs vs
 | [],[],xs,_,e=>by
  simp[bI]at e;subst e;exact⟨[],by simp,rfl⟩
 |.tmp t::rs,(k,none)::g,xs,d,e=>by
  simp only[jL,Bool.and_eq_true,beq_iff_eq]at d;simp only[bI,iY]at e;cases i:bI (iY s) g with
  |none=>simp[i]at e
  |some ys=>
   simp[i]at e;subst e;obtain⟨vs,j,l⟩:=Eg h rs g ys d.2 i;exact⟨_::vs,by simp[List.mapM_cons,qo,j],_,_,rfl,h.vars k t d.1,l⟩
 |.cell q ty::rs,(k,some n)::g,xs,d,e=>by
  simp only[jL,Bool.and_eq_true,beq_iff_eq]at d;simp only[bI,iY]at e;cases m:ev (λ_ _ _=>none) s.σ 0 [] (λ_=>nth s.vars k) (.ld (.v 0) n)with
  |none=>simp[m]at e
  |some o=>
   obtain⟨y,p⟩:=o;simp only[m]at e;cases i:bI (iY s) g with
   |none=>simp[i]at e
   |some ys=>
    simp[i]at e;subst e;obtain⟨vs,j,l⟩:=Eg h rs g ys d.2 i;obtain⟨z,r,x⟩:=Xv d.1.2 h.good (λb u B _ A=>⟨_,mG ids I A⟩) (h.vars k q d.1.1) m;refine⟨z::vs,?_,_,_,rfl,x,l⟩;rw[List.mapM_cons,Sem.run_bind,show(qo a.tmps (.cell q ty)).run P w = .ok z w from r];simp[j]
 | [],_::_,_,d,_=>by simp[jL]at d
 |.tmp _::_,[],_,d,_=>by simp[jL]at d
 |.cell .. :: _,[],_,d,_=>by simp[jL]at d
 |.tmp _::_,(_,some _)::_,_,d,_=>by simp[jL]at d
 |.cell .. :: _,(_,none)::_,_,d,_=>by simp[jL]at d
theorem z8{G:Nat->Option Fn}{Q:jF}{n:Nat}(hm:P.follows .mixedOrders=true) (hG:∀f fn,G f=some fn->∃sl,oX P f fn sl=true) (hQ:∀f p,Q f=some p->et P f p):∀d,ck P (dD G Q n d)/\dX P (dD G Q n d)
 |0=>⟨λf args σ r cG h=>by simp[dD]at h,λf args σ r h=>by simp[dD]at h⟩
 |d+1=>by
  obtain⟨J0,te⟩:=z8 (n:=n) hm hG hQ d;refine⟨λf args σ r cG h ids I w vs hg hv=>?_,λf args σ r h=>?_⟩
  .simp only[dD]at h
   cases hq:Q f with
   |some p=>
    simp only[hq]at h;exact(hQ f p hq).2 _ J0 te args σ r cG h ids I w vs hg hv
   |none=>
    simp only[hq]at h;cases J1:G f with
    |none=>simp[J1]at h
    |some fn=>
     simp only[J1]at h;split at h
     case isFalse=>simp at h
     rename_i hlen;simp only[beq_iff_eq]at hlen;cases he:exec n (dD G Q n d) fn.body {vars:=args++List.replicate (fn.nv-fn.np) .aF,fl:=none,σ}with
     |none=>simp[he]at h
     |some es=>
      obtain⟨e,s⟩:=es;simp only[he]at h;obtain⟨sl,db⟩:=hG f fn J1;unfold oX at db;cases xh:P.funcs[f]? with
      |none=>simp[xh]at db
      |some pf=>
       simp only[xh,Bool.and_eq_true]at db;obtain⟨_,db⟩:=db;cases xj:pf.body with
       |none=>simp[xj]at db
       |some c=>
        simp only[xj,Bool.and_eq_true,decide_eq_true_eq,List.all_eq_true,List.mem_range,Bool.or_eq_true,beq_iff_eq]at db;obtain⟨⟨⟨o1,o2⟩,o3⟩,o4⟩:=db;have vX:vs.length=fn.np:=(bW.length hv).trans hlen;have Xx:Rel sl pf.ntmps [] {vars:=args++List.replicate (fn.nv-fn.np) .aF,fl:=none,σ} (ad σ ids I) {tmps:=vs.toArray++Array.replicate (pf.ntmps-vs.toArray.size) undef,defers:=[]} w:=by
         refine⟨hg,by simp;omega,rfl,λk t hk=>?_,λ_ _ q=>by simp at q⟩
         have LP:k<sl.length:=(List.getElem?_eq_some_iff.1 hk).1;rcases o4 k LP with Uj|heq
         .have:nth (args++List.replicate (fn.nv-fn.np) .aF) k = .aF:=by
           rw[rB,List.getElem?_append_right (by omega),List.getElem?_replicate]
           split<;>rfl
          rw[this];unfold VR;trivial
         .by_cases hkn:k<fn.np
          .rw[heq]at hk;simp at hk;subst hk
           have Xy:k<args.length:=by omega
           obtain⟨v,k1,k2⟩:=hv.get k _ (List.getElem?_eq_getElem Xy);have e1:nth (args++List.replicate (fn.nv-fn.np) .aF) k=args[k]:=by
            rw[rB,List.getElem?_append_left Xy,List.getElem?_eq_getElem Xy];rfl
           have e2:(vs.toArray++Array.replicate (pf.ntmps-vs.toArray.size) undef).getD k undef=v:=by
            rw[Array.getD_eq_getD_getElem?,Array.getElem?_append_left (by simp;omega),List.getElem?_toArray,k1];rfl
           rw[e1];show VR _ _ _ ((vs.toArray++Array.replicate (pf.ntmps-vs.toArray.size) undef).getD k undef);rw[e2];exact k2
          .have:nth (args++List.replicate (fn.nv-fn.np) .aF) k = .aF:=by
            rw[rB,List.getElem?_append_right (by omega),List.getElem?_replicate]
            split<;>rfl
           rw[this];unfold VR;trivial
        have Aa:results fn s=some r/\s.σ=cG /\∀j,e ≠ .exit j:=by
         cases e with
         |exit j=>simp at h
         |eU=>
          simp only[Option.map_eq_some_iff,Prod.mk.injEq]at h;obtain⟨q,h1,rfl,h2⟩:=h;exact⟨h1,h2,λj q=>by simp at q⟩
         |ret=>
          simp only[Option.map_eq_some_iff,Prod.mk.injEq]at h;obtain⟨q,h1,rfl,h2⟩:=h;exact⟨h1,h2,λj q=>by simp at q⟩
        obtain⟨hr,rfl,gY⟩:=Aa;refine calls_of_wp xh xj (Xr (sl:=sl) (nt:=pf.ntmps) (ds:=[]) hm J0 te fn.body c _ e s ids I _ w _ o1 he Xx λbO I' a' w' h' zI =>?_);have key:a'.defers=[]/\∃v,(Go.results pf a'.tmps).run P w' = .ok v w' /\∃v1 bO I', Ending.returned v = .returned v1/\Good (ad s.σ bO I') w' /\VR (ad s.σ bO I') w'.heap r v1/\Step (ad σ ids I) w (ad s.σ bO I') w' :=by
         refine⟨h'.defers,?_⟩;unfold results at hr;cases Xz:bI (iY s) fn.res with
         |none=>simp[Xz]at hr
         |some xs=>
          obtain⟨zs,g1,g2⟩:=Eg h' pf.results.toList fn.res xs o2 Xz;refine⟨if hz:zs.toArray.size=1 then zs.toArray[0]else .tuple zs.toArray,?_,_,bO, I', rfl,h'.good,?_,zI⟩
          .rw[Xw,Sem.run_bind,Array.mapM_eq_mapM_toList,Sem.run_map,g1]
           rfl
          .simp only[Xz]at hr
           have hl:=bW.length g2;have many:∀l,xs=l->l.length ≠ 1->r = .bF l->VR (ad s.σ bO I') w'.heap r (if hz:zs.toArray.size=1 then zs.toArray[0]else .tuple zs.toArray):=λl e1 e2 e3=>by
            subst e1;subst e3;rw[dif_neg (by simp;omega)]
            unfold VR;exact⟨zs,rfl,g2⟩
           cases xs with
           |nil=>exact many [] rfl (by simp) (by simpa using hr.symm)
           |cons x t=>
            cases t with
            |nil=>
             simp at hr;subst hr;obtain⟨v,t,e1,e2,e3⟩:=g2;have e3:t=[]:=e3;subst e3;subst e1;simpa using e2
            |cons y t=>exact many (x::y::t) rfl (by simp) (by simpa using hr.symm)
        cases e with
        |exit j=>exact absurd rfl (gY j)
        |eU=>exact key
        |ret=>exact key
  .simp only[dD]at h
   cases hq:Q f with
   |some p=>exact(hQ f p hq).1
   |none=>
    simp only[hq]at h;cases J1:G f with
    |none=>simp[J1]at h
    |some fn=>
     obtain⟨sl,db⟩:=hG f fn J1;unfold oX at db;cases xh:P.funcs[f]? with
     |none=>simp[xh]at db
     |some pf=>
      simp only[xh,Bool.and_eq_true]at db;exact db.1
end Ab
