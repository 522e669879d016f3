/- What is known after an effect is the new list of blocks, and the old one can still be seen. A region: whatever order its operations come in, it does what its lines do in the text's order. Condition: the callees answer as the interpreter says. What holds in the midst of a region. A step of a region keeps what holds. Operations that look at owned blocks, and operations that turn them. Condition: the callees answer as the interpreter says. One operation of a region in any order. One operation of a region, whatever its class. A region does what its lines say. Condition: the callees answer as the interpreter says. An owned value is given away for good; blocks of a round are forgotten. The code of a function does what its small text says. Condition: the callees answer as the interpreter says. Functions do what the interpreter says. Condition: the check of each function. Condition: none. -/
import Derived.Test.YtdenhmniigikcaaGreatAbPhase
import Derived.Scope
set_option linter.all false
namespace Ab
open Go
theorem wv{σ:List ag}{b u:Nat}{B:ag}(h:fO σ b u=some B):al σ b=some B/\B.cells.length=u/\B.st ≠ .dead:=by
 unfold fO at h;cases hb:al σ b with
 |none=>simp[hb]at h
 |some B' =>
  simp only[hb]at h;cases hs:B'.st<;>simp only[hs]at h<;>first
   |(simp at h;done)
   |(by_cases hu:B'.cells.length=u
     ·simp[hu]at h;subst h;exact⟨rfl,hu,by rw[hs];simp⟩
     ·simp[hu]at h)
def jC (C:Ctx) (σ:List ag):Prop:=∃ids,(∀b u e,(af σ ids C.I).own b u=some e->C.own b u=some e)/\∀b u,C.lim b u->(af σ ids C.I).lim b u
def Seen (C:Ctx) (σ:List ag):Prop:=∀b u B,C.lim b u->fO σ b u=some B->∃id,C.own b u=some (B,id)
theorem jC.seen{C:Ctx}{σ:List ag}(h:jC C σ):Seen C σ:=λb u B _ hu=>by
 obtain⟨ids,h1,_⟩:=h;exact⟨_,h1 b u _ (sF ids C.I hu)⟩
theorem Nw (σ:List ag) (ids:Nat->Nat) (I:Nat->Prop):jC (af σ ids I) σ:=⟨ids,λ_ _ _ h=>h,λ_ _ h=>h⟩
theorem jC.yJ{C:Ctx}{σ:List ag}(h:jC C σ) (I' : Nat->Prop):jC {C with I:=I'} σ:=by
 obtain⟨ids,h1,h2⟩:=h;exact⟨ids,h1,h2⟩
theorem Seen.yJ{C:Ctx}{σ:List ag}(h:Seen C σ) (I' : Nat->Prop):Seen {C with I:=I'} σ:=h
theorem jC.take{C:Ctx}{σ:List ag}{w:World}(h:jC C σ) (hg:Good C w):∃ids,Good (af σ ids C.I) w/\Step C w (af σ ids C.I) w:=by
 obtain⟨ids,h1,h2⟩:=h;exact⟨ids,Good.shrink hg rfl h1 h2⟩
theorem Ext.gA{σ:List ag}{ids:Nat->Nat}{I:Nat->Prop}{p:Option aZ}{C' : Ctx}{w' : World}(hg:Good C' w') (h:Ext σ.length p (af σ ids I) C') :
  jC C' (match p with|some q=>fW σ q|none=>σ)/\Seen C' σ:=by
 cases p with
 |none=>
  obtain⟨h1,h2⟩:=h;have hs:jC C' σ:=⟨ids,λb u e he=>by rw[h1];exact he,λb u he=>by rw[h2]at he;exact he⟩
  exact⟨hs,hs.seen⟩
 |some q=>
  cases q with
  |new B=>
   obtain⟨id,h1,h2⟩:=h;have jm:B.st ≠ .dead:=(hg.kU σ.length B.cells.length B id (by rw[h1];simp[ar])).2.2.2
   refine⟨⟨λq=>if q=σ.length then id else ids q,λb u e he=>?_,λb u he=>?_⟩,λb u B' _ hu=>?_⟩
   ·rw[h1];exact BI (I:=C'.I) jm b u e he
   ·rw[h2]at he;exact BJ (ids:=ids) (I:=C'.I) (id:=id) b u he
   ·obtain⟨hb,_⟩:=wv hu
    have aK:b<σ.length:=by rw[dp]at hb;exact(List.getElem?_eq_some_iff.1 hb).1
    rw[h1];simp only[ar];rw[if_neg (by omega)]
    exact⟨_,sF ids I hu⟩
  |news l=>
   obtain⟨uy,h1,h2⟩:=h;have hblk:∀b,al (σ++l) b=if b<σ.length then al σ b else al l (b-σ.length):=λb=>by
    rw[dp,dp,dp]
    by_cases hb:b<σ.length
    ·rw[if_pos hb,List.getElem?_append_left hb]
    ·rw[if_neg hb,List.getElem?_append_right (by omega)]
   refine⟨⟨λq=>if q<σ.length then ids q else uy (q-σ.length),λb u e he=>?_,λb u he=>?_⟩,λb u B' _ hu=>?_⟩
   ·rw[h1]
    simp only[af,fW,hblk]at he ⊢
    by_cases hb:b<σ.length
    ·rw[if_neg (by omega)]
     simp only[hb,if_true]at he;exact he
    ·simp only[hb,if_false]at he
     have aK:b-σ.length<l.length:=by
      cases hq:al l (b-σ.length)with
      |none=>simp[hq]at he
      |some q=>rw[dp]at hq;exact(List.getElem?_eq_some_iff.1 hq).1
     rw[if_pos (by omega)]
     exact he
   ·rw[h2]at he
    simp only[af,fW,hblk]at he ⊢;rcases he with⟨k1,B1,k2,k3⟩|⟨B1,k2,k3⟩
    ·exact⟨B1,by rw[if_neg (by omega)];exact k2,k3⟩
    ·have aK:b<σ.length:=by rw[dp]at k2;exact(List.getElem?_eq_some_iff.1 k2).1
     exact⟨B1,by rw[if_pos aK];exact k2,k3⟩
   ·obtain⟨hb,_⟩:=wv hu
    have aK:b<σ.length:=by rw[dp]at hb;exact(List.getElem?_eq_some_iff.1 hb).1
    rw[h1];simp only;rw[if_neg (by omega)]
    exact⟨_,sF ids I hu⟩
  |grow b cs=>
   obtain⟨B0,X4,id,b8,h0,h1,h2⟩:=h;obtain⟨hb,_⟩:=yx h0;have hlen:B0.cells.length<(B0.cells++cs).length:=by
    have:0<cs.length:=List.length_pos_iff.2 b8;simp;omega
   have vi:fW σ (.grow b cs)=az σ b ⟨B0.k,B0.cells++cs,.live⟩:=by simp only[fW,sO,hb]
   simp only[vi];refine⟨⟨λq=>if q=b then id else ids q,λb1 u e he=>?_,λb1 u he=>?_⟩,λb1 u B' _ hu=>?_⟩
   ·rw[h1]
    exact oM (ids:=ids) (I:=C'.I) (B' :=⟨B0.k,B0.cells++cs,.live⟩) (id' :=id) hb (by simp) b1 u e he
   ·rw[h2]at he
    rcases he with⟨rfl,rfl⟩|he
    ·have aK:b1<σ.length:=by rw[dp]at hb;exact(List.getElem?_eq_some_iff.1 hb).1
     exact⟨⟨B0.k,B0.cells++cs,.live⟩,by rw[yu aK];simp,Nat.le_refl _⟩
    ·exact oN (ids:=ids) (I:=C'.I) hb (by show _<=(B0.cells++cs).length;omega) b1 u he
   ·obtain⟨k1,k2,_⟩:=wv hu
    rw[h1];simp only[ar];rw[if_neg (by
     rintro⟨rfl,rfl⟩;rw[hb]at k1;simp at k1;subst k1;omega)]
    exact⟨_,sF ids I hu⟩
end Ab
namespace Ab
open Go
variable{P:Program}
theorem Nx{ce:CE}{vars:List AV}:∀{ls:List Ln}{s s' : LS},lines ce vars ls s=some s' ->
  ∃st:Nat->LS,st 0=s/\st ls.length=s' /\∀i l,ls[i]? = some l->dg ce vars (st i) l=some (st (i+1))
 | [],s,s', h=>by
  simp[lines]at h;subst h;exact⟨λ_=>s,rfl,rfl,λi l h=>by simp at h⟩
 |l::ls,s,s', h=>by
  simp only[lines]at h;cases h1:dg ce vars s l with
  |none=>simp[h1]at h
  |some s1=>
   simp only[h1]at h;obtain⟨st,e0,en,bV⟩:=Nx h;refine⟨λi=>match i with|0=>s|i+1=>st i,rfl,by simpa using en,λi l' hl=>?_⟩
   cases i with
   |zero=>simp at hl;subst hl;simp only[h1,e0]
   |succ i=>exact bV i l' (by simpa using hl)
theorem ZT{ce:CE}{vars:List AV}{s s' : LS}{l:Ln}(h:dg ce vars s l=some s'):∃v,s'.env=v::s.env:=by
 unfold dg at h;split at h
 ·simp at h
 ·simp at h;subst h;exact⟨_,rfl⟩
 ·split at h
  ·split at h
   ·simp at h;subst h;exact⟨_,rfl⟩
   ·simp at h
  ·split at h
   ·simp at h;subst h;exact⟨_,rfl⟩
   ·simp at h;subst h;exact⟨_,rfl⟩
   ·simp at h
def valOf (st:Nat->LS) (i:Nat):AV:=nth (st (i+1)).env 0
theorem Ny{st:Nat->LS}{n:Nat}(h0:(st 0).env=[]) (h:∀i,i<n->∃v,(st (i+1)).env=v::(st i).env):∀i,i<=n->∀d,d<i->nth (st i).env d=valOf st (i-1-d)
 |0,_,d,hd=>absurd hd (Nat.not_lt_zero d)
 |i+1,hi,d,hd=>by
  obtain⟨v,hv⟩:=h i (by omega)
  cases d with
  |zero=>simp[valOf]
  |succ d=>
   rw[hv];simp only[nth];rw[Ny h0 h i (by omega) d (by omega)]
   congr 1
   omega
theorem Nz{ce:CE}{σ:List ag}{nl:Nat}{ps:List aZ}{r:Rf->AV}{op:cW}{x:AV}{p:Option aZ}(h:op.lC=false) (he:ev ce σ nl ps r op=some (x,p)):p=none:=by
 cases op<;>first
  |(simp[cW.lC]at h;done)
  |(simp only[ev]at he;simp at he;exact he.2.symm)
  |(simp only[ev]at he;(repeat' split at he)<;>first|(simp at he;done)|(simp at he;exact he.2.symm)|(simp at he;obtain⟨_,_,_,e⟩:=he;exact e.symm)|(simp at he;obtain⟨_,_,e⟩:=he;exact e.symm))
def lQ (draw:Bool) (bf:List Nat) (i j:Nat):Bool:=if draw then((bf[j]?).getD 0).testBit i else decide (i<j)
def yK (bf:List Nat) (o:Oper):Nat:=o.after.toList.foldl (λs e=>if Region.binds .any e then s ||| 2^e.on ||| (bf[e.on]?).getD 0 else s) 0
def NA (ops:List Oper):List Nat:=ops.foldl (λacc o=>acc ++ [yK acc o]) []
def cY (ops:List Oper) (i:Nat):Option Nat:=(ops[i]?).bind (·.dst)
def lR (ls:List Ln) (i:Nat):Option Nat:=
 match ls[i]? with
 |some l=>match l.op with
  |.kK (.t d) _ _=>some (i-1-d)
  |_=>none
 |none=>none
def js (ops:List Oper) (ls:List Ln) (i:Nat):Option Nat:=
 match lR ls i with
 |some j=>cY ops j
 |none=>cY ops i
def aV (ls:List Ln) (i:Nat):Bool:=
 match ls[i]? with
 |some l=>l.op.lC||l.op.kQ
 |none=>false
def H8 (ls:List Ln) (i:Nat):Bool:=
 match ls[i]? with
 |some l=>l.op.lC&&l.g.isNone
 |none=>false
def eC (ls:List Ln) (i:Nat):Option Nat:=
 match ls[i]? with
 |some l=>match l.op with
  |.gH m=>some m
  |_=>none
 |none=>none
def qJ (draw:Bool) (bf:List Nat) (ops:List Oper) (ls:List Ln) (sl:List Nat) (i:Nat):Operand->Rf->Bool
 |.tmp s,.t d=>decide (d<i)&&js ops ls (i-1-d)==some s&&lQ draw bf (i-1-d) i
 |.tmp s,.v k=>sl[k]? == some s&&(List.range ops.length).all λj=>!(cY ops j==some s)||lQ draw bf i j
 |.const v,.c x=>kz v x
 |.func f,.c (.func g [])=>f==g
 |_,_=>false
def rD (draw:Bool) (bf:List Nat) (ops:List Oper) (ls:List Ln) (i:Nat) (o:Oper) (l:Ln):Bool:=
 match o.guard,l.g with
 |none,none=>true
 |some (j,b),some (.t d,b')=>b==b' && decide (d<i)&&j==i-1-d&&(lR ls j).isNone&&(cY ops j).isSome&&lQ draw bf j i
 |_,_=>false
def vw (ops:List Oper) (nt i:Nat) (o:Oper):Bool:=
 match o.dst with
 |none=>true
 |some s=>decide (s<nt)&&(List.range i).all λj=>!(cY ops j==some s)
def oV (ls:List Ln) (draw:Bool) (bf:List Nat) (i:Nat) (o:Oper) (l:Ln):Bool:=
 match l.op with
 |.gH _=>l.g.isNone&&o.dst.isSome
 |.kK (.t d) _ m=>l.g.isNone&&o.dst.isNone&&decide (d<i)&&eC ls (i-1-d)==some m&&lQ draw bf (i-1-d) i&&(List.range i).all λj=>!(lR ls j==some (i-1-d))
 |.kK ..=>false
 |_=>true
def iN (ls:List Ln) (i:Nat):Bool:=
 match ls[i]? with
 |some l=>l.g.isNone&&(match l.op with
  |.jV .. | .can .. | .oD .. | .yl | .mz ..=>true
  |_=>false)
 |none=>false
def loose (ls:List Ln) (draw:Bool) (bf:List Nat) (j i:Nat):Bool:=aV ls j&&aV ls i&&decide (j<i) && !lQ draw bf j i
def oW (ls:List Ln) (draw:Bool) (bf:List Nat) (j:Nat):Bool:=(List.range ls.length).any λi=>loose ls draw bf j i
def oX (ls:List Ln) (draw:Bool) (bf:List Nat) (i:Nat):Bool:=(List.range ls.length).any λj=>loose ls draw bf j i
def mJ (ls:List Ln) (draw:Bool) (bf:List Nat) (k:Nat):Bool:=((List.range (k+1)).any λj=>oW ls draw bf j)&&((List.range ls.length).any λi=>decide (k<=i)&&oX ls draw bf i)
def sP (ls:List Ln) (draw:Bool) (bf:List Nat) (i:Nat) (l:Ln):Bool:=
 if l.op.lC||l.op.kQ then !l.prev&&(!mJ ls draw bf i||iN ls i)else true
def iG (ls:List Ln) (j v:Nat):Bool:=(List.range v).all λk=>!(decide (j<=k)) || !aV ls k||iN ls k
def yL (ls:List Ln) (draw:Bool) (bf:List Nat):Bool:=(List.range ls.length).all λk=>!mJ ls draw bf k
def lS (ls:List Ln) (i:Nat) (l:Ln):Nat:=if l.prev then((List.range i).reverse.find? (aV ls)).getD 0 else i
def yM (ls:List Ln) (a b:Nat):Bool:=(List.range b).all λk=>!(decide (a<=k)) || !aV ls k
def uz (ls:List Ln) (draw:Bool) (bf:List Nat) (i:Nat) (l:Ln):Bool:=
 if l.op.lC||l.op.kQ||l.op.jI then true else
  (if l.prev then decide (lS ls i l<i)&&H8 ls (lS ls i l)&&yM ls (lS ls i l+1) i else true) &&
  (List.range ls.length).all λj=>!aV ls j||(if j<lS ls i l then lQ draw bf j i||(iG ls j (lS ls i l)&&yL ls draw bf)else lQ draw bf i j||(j != i&&H8 ls j&&iG ls (lS ls i l) j))
def BT (draw:Bool) (bf:List Nat) (i:Nat) (o:Oper):Bool:=
 if draw then bf[i]? == some (yK bf o)&&o.after.toList.all λe=>!Region.binds .any e||decide (e.on<i)else true
def uA (P:Program) (draw:Bool) (bf:List Nat) (ops:List Oper) (ls:List Ln) (sl:List Nat) (nt i:Nat):Bool:=
 match ops[i]?,ls[i]? with
 |some o,some l=>lM P (qJ draw bf ops ls sl i) o.op l.op&&rD draw bf ops ls i o l&&vw ops nt i o&&oV ls draw bf i o l&&sP ls draw bf i l&&uz ls draw bf i l&&BT draw bf i o
 |_,_=>false
theorem NB (bf:List Nat) (i:Nat):∀(es:List Edge) (s:Nat),(es.foldl (λs e=>if Region.binds .any e then s ||| 2^e.on ||| (bf[e.on]?).getD 0 else s) s).testBit i=true->
  s.testBit i=true\/∃e∈es,Region.binds .any e=true/\(e.on=i\/((bf[e.on]?).getD 0).testBit i=true)
 | [],s,h=>.inl h
 |e::es,s,h=>by
  simp only[List.foldl_cons]at h;rcases NB bf i es _ h with h|⟨e', h1,h2⟩
  ·by_cases hb:Region.binds .any e=true
   ·rw[if_pos hb]at h
    simp only[Nat.testBit_or,Bool.or_eq_true,Nat.testBit_two_pow,decide_eq_true_eq]at h;rcases h with(h|h)|h
    ·exact .inl h
    ·exact .inr ⟨e,by simp,hb,.inl h⟩
    ·exact .inr ⟨e,by simp,hb,.inr h⟩
   ·rw[if_neg hb]at h
    exact .inl h
  ·exact .inr ⟨e', by simp[h1],h2⟩
structure RC (P:Program) where
 draw:Bool
 bf:List Nat
 ops:List Oper
 ls:List Ln
 sl:List Nat
 nt:Nat
 ce:CE
 vars:List AV
 fj:List ag
 st:Nat->LS
 len:ops.length=ls.length
 ok:∀i,i<ls.length->uA P draw bf ops ls sl nt i=true
 st0:st 0=⟨[],fj,fj⟩
 run:∀i l,ls[i]? = some l->dg ce vars (st i) l=some (st (i+1))
 dM:cz P ce
 jz:dZ P ce
structure sQ (X:RC P) (i:Nat) (o:Oper) (l:Ln):Prop where
 op:lM P (qJ X.draw X.bf X.ops X.ls X.sl i) o.op l.op=true
 g:rD X.draw X.bf X.ops X.ls i o l=true
 dst:vw X.ops X.nt i o=true
 kK:oV X.ls X.draw X.bf i o l=true
 ZU:sP X.ls X.draw X.bf i l=true
 read:uz X.ls X.draw X.bf i l=true
 bf:BT X.draw X.bf i o=true
namespace RC
variable (X:RC P)
theorem at_{i:Nat}(h:i<X.ls.length):∃o l,X.ops[i]? = some o/\X.ls[i]? = some l/\sQ X i o l:=by
 have:=X.ok i h;unfold uA at this;split at this
 ·rename_i o l ho hl
  simp only[Bool.and_eq_true]at this;obtain⟨⟨⟨⟨⟨⟨a1,a2⟩,a3⟩,a4⟩,a5⟩,a6⟩,a7⟩:=this;exact⟨o,l,ho,hl,a1,a2,a3,a4,a5,a6,a7⟩
 ·simp at this
theorem ZV{i:Nat}(h:i<X.ls.length):∃v,(X.st (i+1)).env=v::(X.st i).env:=by
 obtain⟨o,l,_,hl,_⟩:=X.at_ h;exact ZT (X.run i l hl)
theorem vy{i:Nat}(h:i<=X.ls.length){d:Nat}(hd:d<i):nth (X.st i).env d=valOf X.st (i-1-d):=
 Ny (by rw[X.st0]) (λi hi=>X.ZV hi) i h d hd
theorem still{i:Nat}{l:Ln}(hl:X.ls[i]? = some l) (h:aV X.ls i=false):(X.st (i+1)).σ=(X.st i).σ/\(X.st (i+1)).aA=(X.st i).aA:=by
 have hr:=X.run i l hl;have h' : l.op.lC=false/\l.op.kQ=false:=by simpa[aV,hl]using h
 unfold dg at hr;split at hr
 ·simp at hr
 ·simp at hr;rw[<-hr];exact⟨rfl,rfl⟩
 ·rw[if_neg (by rw[h'.2];simp)]at hr
  split at hr
  ·simp only[h'.1,Bool.false_eq_true,if_false,Option.some.injEq]at hr;rw[<-hr];exact⟨rfl,rfl⟩
  ·rename_i he
   have:=Nz h'.1 he;simp at this
  ·simp at hr
theorem same{p:Nat}:∀(k:Nat),p+k<=X.ls.length->(∀j,p<=j->j<p+k->aV X.ls j=false)->(X.st (p+k)).σ=(X.st p).σ/\(X.st (p+k)).aA=(X.st p).aA
 |0,_,_=>⟨rfl,rfl⟩
 |k+1,h,hn=>by
  obtain⟨_,l,_,hl,_⟩:=X.at_ (show p+k<X.ls.length by omega)
  obtain⟨h1,h2⟩:=X.still hl (hn (p+k) (by omega) (by omega))
  obtain⟨g1,g2⟩:=same k (by omega) λj a b=>hn j a (by omega)
  exact⟨h1.trans g1,h2.trans g2⟩
theorem oY{p q:Nat}(h:p<=q) (hq:q<=X.ls.length) (hn:∀j,p<=j->j<q->aV X.ls j=false):(X.st q).σ=(X.st p).σ/\(X.st q).aA=(X.st p).aA:=by
 have:=X.same (p:=p) (q-p) (by omega) (λj a b=>hn j a (by omega))
 rwa [show p+(q-p)=q by omega]at this
end RC
end Ab
namespace Ab
open Go
variable{P:Program}
structure iO (X:RC P) (D:Nat->Prop) (C:Ctx) (f:Nat):Prop where
 ZW:f<=X.ls.length
 lo:∀e,e<f->aV X.ls e=true->D e
 hi:∀e,f<=e->aV X.ls e=true->¬D e
 gA:jC C (X.st f).σ
 last:0<f->aV X.ls (f-1)=true/\(H8 X.ls (f-1)=true->Seen C (X.st (f-1)).σ)
def alive (X:RC P) (D:Nat->Prop) (lo:Nat) (b:Nat):Prop:=b<(X.st lo).σ.length\/∃i,aV X.ls i=true/\mJ X.ls X.draw X.bf i=true/\D i/\(X.st i).σ.length<=b/\b<(X.st (i+1)).σ.length
structure oZ (X:RC P) (D:Nat->Prop) (C:Ctx) (lo hi:Nat):Prop where
 o5:∀k,mJ X.ls X.draw X.bf k=true↔lo<=k/\k<=hi
 LJ:aV X.ls hi=true
 le:lo<=hi
 before:∀e,e<lo->aV X.ls e=true->D e
 behind:∀e,hi<e->aV X.ls e=true->¬D e
 gA:∃ids,(∀b u e,alive X D lo b->(af (X.st (hi+1)).σ ids C.I).own b u=some e->C.own b u=some e)/\∀b u,C.lim b u->alive X D lo b/\(af (X.st (hi+1)).σ ids C.I).lim b u
def lT (X:RC P) (D:Nat->Prop) (C:Ctx) (f:Nat):Prop:=iO X D C f\/∃lo hi,oZ X D C lo hi/\∃k,aV X.ls k=true/\mJ X.ls X.draw X.bf k=true/\D k
structure Inv (X:RC P) (C0:Ctx) (w0:World) (ds:List Deferred) (D:Nat->Prop) (C:Ctx) (f:Nat) (a:Act) (w:World):Prop where
 good:Good C w
 step:Step C0 w0 C w
 size:a.tmps.size=X.nt
 defers:a.defers=ds
 below:∀j,D j->j<X.ls.length
 closed:∀i j,D j->lQ X.draw X.bf i j=true->D i
 tv:∀j s,D j->js X.ops X.ls j=some s->VR C w.heap (valOf X.st j) (a.tmps.getD s undef)
 vv:∀k s,X.sl[k]? = some s->(∀j,D j->cY X.ops j ≠ some s)->VR C w.heap (nth X.vars k) (a.tmps.getD s undef)
 lb:∀j m,D j->eC X.ls j=some m->(∀i,D i->lR X.ls i ≠ some j)->∃s id c el,cY X.ops j=some s/\a.tmps.getD s undef = .pointer (some ⟨id,0,none⟩)/\w0.heap.size<=id/\¬C.I id/\¬owned C id/\
  w.heap[id]? = some (.cells c el (0,0))/\c.size=m
 ZX:∀j j' m m' s s' id,D j->D j' ->eC X.ls j=some m->eC X.ls j' = some m' ->(∀i,D i->lR X.ls i ≠ some j)->(∀i,D i->lR X.ls i ≠ some j')->cY X.ops j=some s->cY X.ops j' = some s' ->j ≠ j' ->
  a.tmps.getD s undef = .pointer (some ⟨id,0,none⟩)->a.tmps.getD s' undef ≠ .pointer (some ⟨id,0,none⟩)
 fr:lT X D C f
section
variable{X:RC P}{C0:Ctx}{w0:World}{ds:List Deferred}{D:Nat->Prop}{C:Ctx}{f:Nat}{a:Act}{w:World}
theorem Inv.ref (h:Inv X C0 w0 ds D C f a w){i:Nat}(hi:i<X.ls.length) (hD:¬D i) (hb:∀j,lQ X.draw X.bf j i=true->D j){x:Operand}{y:Rf}(hr:qJ X.draw X.bf X.ops X.ls X.sl i x y=true) :
  VR C w.heap (rv X.vars (X.st i).env y) (a.eval x):=by
 unfold qJ at hr;split at hr
 ·simp only[Bool.and_eq_true,decide_eq_true_eq,beq_iff_eq]at hr
  obtain⟨⟨h1,h2⟩,h3⟩:=hr;show VR C w.heap (nth (X.st i).env _) (a.tmps.getD _ undef);rw[X.vy (by omega) h1]
  exact h.tv _ _ (hb _ h3) h2
 ·rename_i s k
  simp only[Bool.and_eq_true,beq_iff_eq,List.all_eq_true,List.mem_range,Bool.or_eq_true,Bool.not_eq_true', beq_eq_false_iff_ne]at hr;refine h.vv k s hr.1 λj hj hd=>?_;rcases hr.2 j (by rw[X.len];exact h.below j hj)with h1|h1
  ·exact h1 hd
  ·exact hD (h.closed _ _ hj h1)
 ·exact HT hr
 ·simp only[beq_iff_eq]at hr
  subst hr;show VR C w.heap (.func _ []) (.func (.func _) #[] #[]);unfold VR;exact⟨[],rfl,rfl⟩
 ·simp at hr
theorem Inv.wanted (h:Inv X C0 w0 ds D C f a w){i:Nat}(hi:i<X.ls.length) (hb:∀j,lQ X.draw X.bf j i=true->D j){o:Oper}{l:Ln}(hF:sQ X i o l){b:Bool}(hw:want X.vars (X.st i).env l.g=some b) :
  Region.wanted o (yielded X.ops.toArray a.tmps)=b:=by
 have hg:=hF.g;unfold rD at hg;split at hg
 ·rename_i h1 h2
  rw[h2]at hw;simp[want]at hw;subst hw;unfold Region.wanted;rw[h1]
 ·rename_i j b1 d b2 h1 h2
  simp only[Bool.and_eq_true,beq_iff_eq,decide_eq_true_eq,Option.isNone_iff_eq_none]at hg;obtain⟨⟨⟨⟨⟨rfl,hd⟩,rfl⟩,ht⟩,Gq⟩,yN⟩:=hg;rw[h2]at hw;simp only[want,rv,X.vy (Nat.le_of_lt hi) hd]at hw;unfold Region.wanted;rw[h1];simp only;have hDj:=hb _ yN;have fc:∀s,cY X.ops (i-1-d)=some s->VR C w.heap (valOf X.st (i-1-d)) (a.tmps.getD s undef):=λs hs=>h.tv _ s hDj (by simp only[js,ht];exact hs)
  have hy:yielded X.ops.toArray a.tmps (i-1-d)=match(cY X.ops (i-1-d)).bind (a.tmps[·]?)with
    |some (.bool b)=>some b
    |_=>none:=by
   unfold yielded cY;simp only[List.getElem?_toArray]
   rfl
  rw[hy];cases NC:cY X.ops (i-1-d)with
  |none=>rw[NC]at Gq;simp at Gq
  |some s=>
   have hv:=fc s NC;simp only[Option.bind_some];cases hq:valOf X.st (i-1-d)<;>simp only[hq]at hw<;>try(simp at hw;done)
   ·rw[hq]at hv
    have hv:a.tmps.getD s undef = .bool _:=hv;simp at hw;subst hw;have:a.tmps[s]? = some (.bool ‹Bool›):=by
     rw[Array.getD_eq_getD_getElem?]at hv;cases jf : a.tmps[s]? with
     |none=>rw[jf]at hv;simp[undef]at hv
     |some v=>rw[jf]at hv;simp at hv;rw[hv]
    rw[this];simp
   ·rename_i tl
    cases tl with
    |cons _ _=>simp at hw
    |nil=>
     simp at hw;subst hw;rw[hq]at hv;unfold VR at hv;obtain⟨vs,e1,e2⟩:=hv;have e2:vs=[]:=e2;subst e2;rw[Array.getD_eq_getD_getElem?]at e1;cases jf : a.tmps[s]? with
     |none=>rfl
     |some v=>rw[jf]at e1;simp at e1;rw[e1];rfl
 ·simp at hg
end
end Ab
namespace Ab
open Go
variable{P:Program}
theorem ZY{a:Act}{dst:Option Tmp}{v:Value}{nt:Nat}(hn:a.tmps.size=nt) (hs:∀s,dst=some s->s<nt) (s:Nat):(a.put dst v).tmps.getD s undef=if dst=some s then v else a.tmps.getD s undef:=by
 cases dst with
 |none=>simp[Act.put]
 |some d=>
  have hd:=hs d rfl;simp only[Act.put,Array.getD_eq_getD_getElem?,Array.getElem?_setIfInBounds]
  by_cases e:d=s
  ·subst e
   simp[hn,hd]
  ·simp[e]
theorem ZZ (a:Act) (dst:Option Tmp) (v:Value):(a.put dst v).tmps.size=a.tmps.size:=by cases dst<;>simp[Act.put]
theorem Z0 (a:Act) (dst:Option Tmp) (v:Value):(a.put dst v).defers=a.defers:=by cases dst<;>rfl
namespace RC
variable (X:RC P)
theorem yO{i s:Nat}(h:cY X.ops i=some s):i<X.ls.length:=by
 unfold cY at h;cases ho:X.ops[i]? with
 |none=>simp[ho]at h
 |some o=>rw[<-X.len];exact(List.getElem?_eq_some_iff.1 ho).1
theorem H9{i s:Nat}(h:cY X.ops i=some s):s<X.nt:=by
 obtain⟨o,l,ho,hl,hF⟩:=X.at_ (X.yO h);have:=hF.dst;simp only[cY,ho,Option.bind_some]at h;simp only[vw,h,Bool.and_eq_true,decide_eq_true_eq]at this;exact this.1
theorem yP{i j s:Nat}(h:cY X.ops i=some s) (k:cY X.ops j=some s) (aK:j<i):False:=by
 obtain⟨o,l,ho,hl,hF⟩:=X.at_ (X.yO h);have:=hF.dst;simp only[cY,ho,Option.bind_some]at h;simp only[vw,h,Bool.and_eq_true,List.all_eq_true,List.mem_range]at this;have:=this.2 j aK;simp[k]at this
theorem rE{i j s:Nat}(h:cY X.ops i=some s) (k:cY X.ops j=some s):i=j:=by
 rcases Nat.lt_trichotomy i j with aK|he|aK
 ·exact(X.yP k h aK).elim
 ·exact he
 ·exact(X.yP h k aK).elim
theorem fG{i t:Nat}(h:lR X.ls i=some t):i<X.ls.length/\∃o l d x m,X.ops[i]? = some o/\X.ls[i]? = some l/\sQ X i o l/\l.op = .kK (.t d) x m/\l.g=none/\o.dst=none/\d<i/\t=i-1-d/\eC X.ls t=some m/\
  lQ X.draw X.bf t i=true/\∀j,j<i->lR X.ls j ≠ some t:=by
 unfold lR at h;cases hl:X.ls[i]? with
 |none=>simp[hl]at h
 |some l=>
  have hi:=(List.getElem?_eq_some_iff.1 hl).1;obtain⟨o,l', ho,cw, hF⟩:=X.at_ hi;rw[hl]at cw; simp at cw; subst cw;simp only[hl]at h;split at h
  ·rename_i d x m cZ
   have:=hF.kK;simp only[oV,cZ,Bool.and_eq_true,Option.isNone_iff_eq_none,decide_eq_true_eq,beq_iff_eq,List.all_eq_true,List.mem_range,Bool.not_eq_true', beq_eq_false_iff_ne]at this;obtain⟨⟨⟨⟨⟨a1,a2⟩,a3⟩,a4⟩,a5⟩,a6⟩:=this;simp at h;subst h;exact⟨hi,o,l,d,x,m,ho,rfl,hF,cZ,a1,a2,a3,rfl,a4,a5,a6⟩
  ·simp at h
theorem vz{i j t:Nat}(h:lR X.ls i=some t) (k:lR X.ls j=some t):i=j:=by
 obtain⟨_,_,_,_,_,_,_,_,_,_,_,_,_,_,_,_,h1⟩:=X.fG h;obtain⟨_,_,_,_,_,_,_,_,_,_,_,_,_,_,_,_,h2⟩:=X.fG k;rcases Nat.lt_trichotomy i j with aK|he|aK
 ·exact absurd h (h2 i aK)
 ·exact he
 ·exact absurd k (h1 j aK)
end RC
section
variable{X:RC P}{C0:Ctx}{w0:World}{ds:List Deferred}{D:Nat->Prop}{C:Ctx}{f:Nat}{a:Act}{w:World}
theorem lT.sR{i:Nat}(h:lT X D C f) (he:aV X.ls i=false) (I' : Nat->Prop):lT X (λj=>D j\/j=i) {C with I:=I'} f:=by
 rcases h with h|⟨j,i2,h,k0,y1,y2,y3⟩
 ·refine .inl ⟨h.ZW,λe h1 h2=>.inl (h.lo e h1 h2),λe h1 h2 h3=>?_,h.gA.yJ I', λhf=>⟨(h.last hf).1,λhe=>((h.last hf).2 he).yJ I'⟩⟩
  rcases h3 with h3|rfl
  ·exact h.hi e h1 h2 h3
  ·rw[he]at h2;simp at h2
 ·obtain⟨ids,e1,e2⟩:=h.gA
  have lD:∀b,alive X (λk=>D k\/k=i) j b↔alive X D j b:=λb=>by
   constructor
   ·rintro(h1|⟨k,k1,k2,k3,k4⟩)
    ·exact .inl h1
    ·rcases k3 with k3|rfl
     ·exact .inr ⟨k,k1,k2,k3,k4⟩
     ·rw[he]at k1;simp at k1
   ·rintro(h1|⟨k,k1,k2,k3,k4⟩)
    ·exact .inl h1
    ·exact .inr ⟨k,k1,k2,.inl k3,k4⟩
  refine .inr ⟨j,i2,⟨h.o5,h.LJ,h.le,λe h1 h2=>.inl (h.before e h1 h2),λe h1 h2 h3=>?_,ids,λb u e ha ho=>e1 b u e ((lD b).1 ha) ho,λb u hl=>⟨(lD b).2 (e2 b u hl).1,(e2 b u hl).2⟩⟩,k0,y1,y2,.inl y3⟩;rcases h3 with h3|rfl
  ·exact h.behind e h1 h2 h3
  ·rw[he]at h2;simp at h2
theorem Inv.after (h:Inv X C0 w0 ds D C f a w){i:Nat}(hi:i<X.ls.length) (hD:¬D i) (hb:∀j,lQ X.draw X.bf j i=true->D j){o:Oper}(ho:X.ops[i]? = some o){C' : Ctx}{w' : World}{v:Value}{f' : Nat}
  (xH : Good C' w') (bV:Step C w C' w') (Z1:lR X.ls i=none) (hv:VR C' w'.heap (valOf X.st i) v)
  (lD:∀m,eC X.ls i=some m->(∃s,o.dst=some s)/\∃id c el,v = .pointer (some ⟨id,0,none⟩)/\w.heap.size<=id/\¬C'.I id/\¬owned C' id/\w'.heap[id]? = some (.cells c el (0,0))/\c.size=m)
  (BM:lT X (λj=>D j\/j=i) C' f'):Inv X C0 w0 ds (λj=>D j\/j=i) C' f' (a.put o.dst v) w' :=by
 have AW:cY X.ops i=o.dst:=by simp[cY,ho]
 have gF:=ZY (v:=v) h.size (dst:=o.dst) λs hs=>X.H9 (i:=i) (by rw[AW];exact hs)
 have Z2:∀j s,D j->cY X.ops j=some s->(a.put o.dst v).tmps.getD s undef=a.tmps.getD s undef:=λj s hj hs=>by
  rw[gF,if_neg];intro e;have:=X.rE hs (AW.trans e);exact hD (this▸hj)
 have old:∀j m,D j->eC X.ls j=some m->(∀i', (D i' \/i' = i)->lR X.ls i' ≠ some j)->∃s id c el,cY X.ops j=some s/\a.tmps.getD s undef = .pointer (some ⟨id,0,none⟩)/\(a.put o.dst v).tmps.getD s undef = .pointer (some ⟨id,0,none⟩)/\
   w0.heap.size<=id/\¬C'.I id/\¬owned C' id/\w'.heap[id]? = some (.cells c el (0,0))/\c.size=m/\id<w.heap.size:=λj m hj hm hn=>by
  obtain⟨s,id,c,el,k1,k2,k3,k4,k5,k6,k7⟩:=h.lb j m hj hm λi' dx =>hn i' (.inl dx);have aK:=(Array.getElem?_eq_some_iff.1 k6).1;refine⟨s,id,c,el,k1,k2,by rw[Z2 j s hj k1];exact k2,k3,λhI=>?_,λhO=>?_,by rw[bV.frame id aK k5];exact k6,k7,aK⟩
  ·rcases bV.gD id hI with q|q|q
   ·exact k4 q
   ·exact k5 q
   ·omega
  ·rcases bV.gd id hO with q|q
   ·exact k5 q
   ·omega
 refine⟨xH, h.step.trans bV,by rw[ZZ];exact h.size,by rw[Z0];exact h.defers,λj hj=>hj.elim (h.below j) (λe=>e▸hi),λi' j hj yN=>?_,λj s hj hs=>?_,λk s hk hn=>?_,λj m hj hm hn=>?_,?_,BM⟩
 ·rcases hj with hj|rfl
  ·exact .inl (h.closed _ _ hj yN)
  ·exact .inl (hb _ yN)
 ·rcases hj with hj|rfl
  ·have b8:o.dst ≠ some s:=λe=>by
    unfold js at hs;cases ht:lR X.ls j with
    |none=>
     simp only[ht]at hs;exact hD (X.rE hs (AW.trans e)▸hj)
    |some t=>
     simp only[ht]at hs;obtain⟨_,_,_,_,_,_,_,_,_,_,_,_,_,_,_,ND,_⟩:=X.fG ht;exact hD (X.rE hs (AW.trans e)▸h.closed _ _ hj ND)
   rw[gF,if_neg b8];exact VR.mono bV.ev _ _ (h.tv j s hj hs)
  ·simp only[js,Z1,AW]at hs
   rw[gF,if_pos hs];exact hv
 ·have b8:o.dst ≠ some s:=λe=>hn i (.inr rfl) (AW.trans e)
  rw[gF,if_neg b8];exact VR.mono bV.ev _ _ (h.vv k s hk λj hj=>hn j (.inl hj))
 ·rcases hj with hj|rfl
  ·obtain⟨s,id,c,el,k1,_,k2,k3,k4,k5,k6,k7,_⟩:=old j m hj hm hn
   exact⟨s,id,c,el,k1,k2,k3,k4,k5,k6,k7⟩
  ·obtain⟨⟨s,hs⟩,id,c,el,k1,k2,k3,k4,k5,k6⟩:=lD m hm
   exact⟨s,id,c,el,AW.trans hs,by rw[gF,if_pos hs];exact k1,Nat.le_trans h.step.size k2,k3,k4,k5,k6⟩
 ·intro j j' m m' s s' id hj tT hm nM hn lA hs gV b8 e1 e2
  rcases hj with hj|rfl<;>rcases tT with tT | rfl
  ·rw[Z2 j s hj hs]at e1
   rw[Z2 j' s' tT gV]at e2;exact h.ZX j j' m m' s s' id hj tT hm nM (λi' dx =>hn i' (.inl dx)) (λi' dx =>lA i' (.inl dx)) hs gV b8 e1 e2
  ·obtain⟨s1,id1,c,el,k1,_,k2,_,_,_,_,_,k3⟩:=old j m hj hm hn
   rw[k1]at hs;simp at hs;subst hs;obtain⟨_,AP,c2,BU,q1,q2,_⟩:=lD m' nM;rw[gF,if_pos (AW.symm.trans gV),q1]at e2;rw[k2]at e1;simp at e1 e2;omega
  ·obtain⟨s1,id1,c,el,k1,_,k2,_,_,_,_,_,k3⟩:=old j' m' tT nM lA
   rw[k1]at gV; simp at gV; subst gV;obtain⟨_,AP,c2,BU,q1,q2,_⟩:=lD m hm;rw[gF,if_pos (AW.symm.trans hs),q1]at e1;rw[k2]at e2;simp at e1 e2;omega
  ·exact b8 rfl
theorem Inv.fill (h:Inv X C0 w0 ds D C f a w){i t d m:Nat}{x:Rf}(hi:i<X.ls.length) (hD:¬D i) (hb:∀j,lQ X.draw X.bf j i=true->D j){l:Ln}(hl:X.ls[i]? = some l) (cZ:l.op = .kK (.t d) x m) (ht:lR X.ls i=some t)
  {xv:AV} {y:Value} (fc:valOf X.st i = .bd xv) (hn:aO xv=true) (wh:VR C w.heap xv y) {s id:Nat} {c:Array Value} {el:TypeId} (hs:cY X.ops t=some s) (hp:a.tmps.getD s undef = .pointer (some ⟨id,0,none⟩))
  (BD:w0.heap.size<=id) (hI:¬C.I id) (hO:¬owned C id) (hH:w.heap[id]? = some (.cells c el (0,0))) {c' : Array Value} (mj:c'.size=c.size) (hc:∀j,j<y.cells.size->c'[j]? = y.cells[j]?) :
  Inv X C0 w0 ds (λj=>D j\/j=i) {C with I:=λk=>C.I k\/k=id} f a (w.setRow id c'):=by
 obtain⟨_,o,l', d', x', m', ho,cw, hF,wz, hg,Ia,hd,LL,lD,ND,NF⟩:=X.fG ht;have hDt:=hb _ ND;have AW:cY X.ops i=none:=by simp[cY,ho,Ia]
 have r7 : (w.setRow id c').heap[id]? = some (.cells c' el (0,0)):=setRow_heap w id c c' el (0,0) hH;have aK:=(Array.getElem?_eq_some_iff.1 hH).1;have ev:fR C w.heap {C with I:=λk=>C.I k\/k=id} (w.setRow id c').heap:=by
  refine⟨λk hk=>.inl hk,λk hk=>jY w id c' λe=>hI (e▸hk),λ_ _ h=>h,λb u B' AP _ bO=>⟨B', bO,rfl,rfl,λc2 BU nm=>?_⟩⟩
  by_cases e:AP=id
  ·subst e
   rw[hH]at nm;simp at nm;obtain⟨rfl,rfl⟩:=nm;exact⟨c', r7, mj⟩
  ·exact⟨c2,by rw[jY w id c' e];exact nm,rfl⟩
 have NG:Good {C with I:=λk=>C.I k\/k=id} (w.setRow id c'):=by
  refine⟨λk hk=>by rw[nH];exact hk.elim (h.good.I k) (λe=>e▸aK),h.good.kU,λb u B i' bO tY=>?_,h.good.apart,λb u B i' es bO tY=>?_⟩
  obtain⟨k1,c2,BU,k2,k3,k4⟩:=h.good.live b u B i' bO tY;have b8:i' ≠ id:=λe=>hO ⟨b,u,B,e▸bO,lJ tY⟩;refine⟨λhk=>hk.elim k1 b8,c2,BU,by rw[jY w id c' b8];exact k2,k3,λi2 x2 AX=>?_⟩
  obtain⟨y2,j1,j2,j3⟩:=k4 i2 x2 AX;exact⟨y2,j1,VR.mono ev _ _ j2,j3⟩;have b8:i' ≠ id:=λe=>hO ⟨b,u,B,e▸bO,lE tY⟩;exact h.good.da (C' :={C with I:=λk=>C.I k\/k=id}) ev bO tY (jY w id c' b8) (λhk=>hk.elim (h.good.maps b u B i' es bO tY).1 b8)
 have NH:Step C0 w0 {C with I:=λk=>C.I k\/k=id} (w.setRow id c'):=by
  refine⟨h.step.ev.trans ev,by rw[nH];exact h.step.size,λk hk oG=>by rw[jY w id c' (by omega)];exact h.step.frame k hk oG,λk hk=>h.step.gd k hk,λk hk=>?_,h.step.os,h.step.tape,h.step.output⟩
  rcases hk with hk|rfl
  ·exact h.step.gD k hk
  ·exact .inr (.inr BD)
 have b8:aV X.ls i=false:=by simp[aV,hl,cZ,cW.lC,cW.kQ]
 have Z3:∀i', D i' ->lR X.ls i' ≠ some t:=λi' dx e=>hD (X.vz ht e▸dx);refine⟨NG,NH,h.size,h.defers,λj hj=>hj.elim (h.below j) (λe=>e▸hi),λi' j hj yN=>?_,λj s' hj gV =>?_,λk s' hk lA =>?_,λj m2 hj hm lA =>?_,?_,h.fr.sR b8 _⟩
 ·rcases hj with hj|rfl
  ·exact .inl (h.closed _ _ hj yN)
  ·exact .inl (hb _ yN)
 ·rcases hj with hj|rfl
  ·exact VR.mono ev _ _ (h.tv j s' hj gV)
  ·simp only[js,ht]at gV
   rw[hs]at gV; simp at gV; subst gV;rw[fc,hp];unfold VR;exact⟨hn,id,0,c', el,(0,0),y,rfl,.inr rfl,r7, VR.mono ev _ _ wh,λj hj=>by rw[Nat.zero_add];exact hc j hj⟩
 ·exact VR.mono ev _ _ (h.vv k s' hk λj hj=>lA j (.inl hj))
 ·rcases hj with hj|rfl
  ·obtain⟨s2,AP,c2,BU,k1,k2,k3,k4,k5,k6,k7⟩:=h.lb j m2 hj hm λi' dx =>lA i' (.inl dx)
   have yQ:j ≠ t:=λe=>lA i (.inr rfl) (e▸ht);have NI:AP ≠ id:=λe=>by
    subst e;exact h.ZX j t m2 m' s2 s AP hj hDt hm lD (λi' dx =>lA i' (.inl dx)) Z3 k1 hs yQ k2 hp
   exact⟨s2,AP,c2,BU,k1,k2,k3,λhk=>hk.elim k4 NI,k5,by rw[jY w id c' NI];exact k6,k7⟩
  ·simp[eC,hl,cZ]at hm
 ·intro j j' m1 m2 s1 s2 AP hj tT hm nM WL Gr sb sc Z4 e1 e2
  have yR:∀j m,(D j\/j=i)->eC X.ls j=some m->D j:=λj m hj hm=>hj.elim (λq=>q) λe=>by
   subst e;simp[eC,hl,cZ]at hm
  exact h.ZX j j' m1 m2 s1 s2 AP (yR j m1 hj hm) (yR j' m2 tT nM) hm nM (λi' dx =>WL i' (.inl dx)) (λi' dx =>Gr i' (.inl dx)) sb sc Z4 e1 e2
end
end Ab
namespace Ab
open Go
variable{P:Program}
section
variable{a:Act}{r:Rf->AV}{w:World}{C:Ctx}{R:Operand->Rf->Bool}{ce:CE}{σ:List ag}{nl:Nat}{ps:List aZ}
theorem opR{o:Oper}{oQ:cW}{x:AV}{p:Option aZ}(au:lM P R o.op oQ=true) (hP:oQ.jI=false) (hE:oQ.lC=false) (hW:oQ.kQ=false) (dM:cz P ce) (hg:Good C w)
  (uj:∀b u B,C.lim b u->fO σ b u=some B->∃id,C.own b u=some (B,id))
  (hR:∀x y,R x y=true->VR C w.heap (r y) (a.eval x)) (he:ev ce σ nl ps r oQ=some (x,p)):bF P o a w (dc C w x):=by
 have db:∀b u B,C.lim b u->upto σ b u=some B->∃id,C.own b u=some (B,id):=λb u B hl h=>uj b u B hl (Na h);obtain⟨dst,op,type,pos,after,guard⟩:=o;have pl:∀{x' : AV} {p' : Option aZ},Plain P a.eval ⟨dst,op,type,pos,after,guard⟩ w C w.heap x' /\p' = none->bF P ⟨dst,op,type,pos,after,guard⟩ a w (dc C w x'):=λh=>h.1.does hg;simp only[lM]at au;split at au
 all_goals first
  |(exfalso;simp[cW.jI]at hP;done)
  |(exfalso;simp[cW.kQ]at hW;done)
  |(exfalso;simp[cW.lC]at hE;done)
  |skip
 ·simp only[Bool.and_eq_true,Bool.or_eq_true]at au
  exact pl (Nb (a:=a) rfl rfl au.1.1 au.1.2 db (au.2.imp (λh=>⟨h.1,hR _ _ h.2⟩) (λh=>⟨h.1,hR _ _ h.2⟩)) he)
 ·simp only[Bool.and_eq_true]at au
  exact pl (yC rfl au.1 hg db (hR _ _ au.2) he)
 ·simp only[Bool.and_eq_true]at au
  obtain⟨⟨⟨h1,h2⟩,h3⟩,h4⟩:=au;split at h1
  ·rename_i e ht
   exact pl (HO rfl ht h1 db (hR _ _ h2) h3 h4 hR he)
  ·simp at h1
 ·simp only[Bool.and_eq_true,beq_iff_eq]at au
  obtain⟨⟨rfl,h1⟩,h2⟩:=au;exact(Mr dM rfl rfl h1 hg db (lN hR h2) he).1
 ·simp only[Bool.and_eq_true,beq_iff_eq]at au
  obtain⟨⟨⟨h1,rfl⟩,h2⟩,h3⟩:=au;split at h1
  ·rename_i ht
   simp only[Bool.and_eq_true]at h1;exact pl (Nc rfl ht h1.1 h1.2 hg uj (hR _ _ h2) (hR _ _ h3) he)
  ·simp at h1
 ·split at au
  ·rename_i ha eY
   simp only[Bool.and_eq_true]at au;obtain⟨h1,h2⟩:=au;split at h1
   ·rename_i ht
    exact pl (Nd rfl rfl ha eY ht hg uj (hR _ _ h2) he)
   ·simp at h1
  ·simp at au
 ·simp only[Bool.and_eq_true]at au
  exact pl (MH rfl au.1 hg db (hR _ _ au.2) he)
 ·simp at au
theorem opW{o:Oper}{oQ:cW}{x:AV}{bp : List ag}{ids:Nat->Nat}{I:Nat->Prop}(au:lM P R o.op oQ=true) (hW:oQ.kQ=true) (dM:cz P ce) (jz:dZ P ce) (hg:Good (af σ ids I) w)
  (hR:∀x y,R x y=true->VR (af σ ids I) w.heap (r y) (a.eval x)) (he:fF ce σ r oQ=some (x,bp)):bF P o a w (iX σ ids I w x bp):=by
 obtain⟨dst,op,type,pos,after,guard⟩:=o;simp only[lM]at au;split at au
 all_goals first
  |(exfalso;simp[cW.kQ]at hW;done)
  |skip
 ·simp only[Bool.and_eq_true]at au
  exact MU rfl au.1.1 hg (hR _ _ au.1.2) (hR _ _ au.2) he
 ·split at au
  ·rename_i ha eY
   simp only[Bool.and_eq_true]at au;obtain⟨⟨⟨h1,h2⟩,h3⟩,h4⟩:=au;split at h1
   ·rename_i e ht
    simp only[Bool.and_eq_true]at h1;exact Yy rfl rfl ha eY ht h2 h1.1.1 h1.1.2 h1.2 hg (hR _ _ h3) (hR _ _ h4) he
   ·simp at h1
  ·simp at au
 ·simp only[Bool.and_eq_true,beq_iff_eq]at au
  obtain⟨⟨rfl,h1⟩,h2⟩:=au;exact YF dM rfl rfl h1 hg (lN hR h2) he
 ·simp only[Bool.and_eq_true]at au
  exact YG dM jz rfl rfl hg (hR _ _ au.1) (lN hR au.2) he
 ·simp only[Bool.and_eq_true]at au
  exact YH dM jz rfl rfl au.2 hg (hR _ _ au.1.1) (lN hR au.1.2) he
 ·split at au
  ·rename_i ha eY
   simp only[Bool.and_eq_true]at au;obtain⟨h1,h2⟩:=au;split at h1
   ·rename_i e ht
    simp only[Bool.and_eq_true]at h1;exact YK rfl rfl ha eY ht h1.1 h1.2 hg (hR _ _ h2) he
   ·simp at h1
  ·simp at au
 ·simp only[Bool.and_eq_true]at au
  obtain⟨⟨⟨h1,h2⟩,h3⟩,h4⟩:=au;split at h1
  ·rename_i ht
   exact MV (.inl rfl) ht h1 hg (hR _ _ h2) (hR _ _ h3) (hR _ _ h4) he
  ·simp at h1
 ·simp only[Bool.and_eq_true]at au
  obtain⟨⟨⟨h1,h2⟩,h3⟩,h4⟩:=au;split at h1
  ·rename_i ht
   exact MV (.inr rfl) ht h1 hg (hR _ _ h2) (hR _ _ h3) (hR _ _ h4) he
  ·simp at h1
 ·split at au
  ·rename_i ha eY
   simp only[Bool.and_eq_true]at au;obtain⟨⟨h1,h2⟩,h3⟩:=au;split at h1
   ·rename_i e ht
    exact YL rfl rfl ha eY ht h1 hg (hR _ _ h2) (hR _ _ h3) he
   ·simp at h1
  ·simp at au
 ·simp only[Bool.and_eq_true]at au
  obtain⟨⟨⟨h1,h2⟩,h3⟩,h4⟩:=au;split at h1
  ·rename_i ht
   simp only[Bool.and_eq_true,decide_eq_true_eq]at h1;exact MZ (.inl rfl) ht h1.1 h1.2 hg (hR _ _ h2) (hR _ _ h3) (hR _ _ h4) he
  ·simp at h1
 ·simp only[Bool.and_eq_true]at au
  obtain⟨⟨⟨h1,h2⟩,h3⟩,h4⟩:=au;split at h1
  ·rename_i ht
   simp only[Bool.and_eq_true,decide_eq_true_eq]at h1;exact MZ (.inr rfl) ht h1.1 h1.2 hg (hR _ _ h2) (hR _ _ h3) (hR _ _ h4) he
  ·simp at h1
 ·simp at au
theorem opA{o:Oper}{n:Nat}(au:lM P R o.op (.gH n)=true) (hg:Good C w) :
  bF P o a w λv w' =>Good C w' /\Step C w C w' /\∃id c el,v = .pointer (some ⟨id,0,none⟩)/\w.heap.size<=id/\¬C.I id/\¬owned C id/\w'.heap[id]? = some (.cells c el (0,0))/\c.size=n:=by
 obtain⟨dst,op,type,pos,after,guard⟩:=o;simp only[lM]at au;split at au
 all_goals first
  |(rename_i heq;exfalso;simp at heq;done)
  |skip
 ·rename_i t n' heq
  simp at heq;subst heq;simp only[Bool.and_eq_true]at au;obtain⟨_,h2⟩:=au;cases hi:P.info? t with
  |none=>simp[hi]at h2
  |some i=>
   simp only[hi]at h2;cases hz:i.zero with
   |none=>simp[hz]at h2
   |some v=>
    simp only[hz,beq_iff_eq]at h2;obtain⟨g1,g2⟩:=hg.grow (w' :=cq w (.cells v.cells t)) (by simp[cq]) λk hk=>my w _ hk
    refine bF.val (v:=.pointer (some ⟨w.heap.size,0,none⟩)) (w' :=cq w (.cells v.cells t)) ?_ ⟨g1,⟨g2,by simp[cq],λk hk _=>my w _ hk,λk hk=>.inl hk,λk hk=>.inl hk,rfl,⟨rfl,Nat.le_refl _⟩,rfl⟩,w.heap.size,v.cells,t,rfl,Nat.le_refl _,λhI=>Nat.lt_irrefl _ (hg.I _ hI),λhO=>Nat.lt_irrefl _ (hg.lt hO),oA w _,h2⟩
    simp only[execOp,Instr.alloc,zeroValue,Sem.run_bind,run_typeInfo w hi,Result.andThen_ok,hz,Sem.run_pure,Bo]
 ·simp at au
theorem opI{o:Oper}{p x:Rf}{n:Nat}(au:lM P R o.op (.kK p x n)=true){id:Nat}{c:Array Value}{el:TypeId}(hp:∀q,R q p=true->a.eval q = .pointer (some ⟨id,0,none⟩)) (hH:w.heap[id]? = some (.cells c el (0,0))) (hc:c.size=n)
  (hR:∀q,R q x=true->VR C w.heap (r x) (a.eval q)) (hn:aO (r x)=true) (hx:(r x).cells.length=n) :
  ∃y,VR C w.heap (r x) y/\bF P o a w λ_ w' =>∃c', w' = w.setRow id c' /\c'.size=c.size/\∀j,j<y.cells.size->c'[j]? = y.cells[j]?:=by
 obtain⟨dst,op,type,pos,after,guard⟩:=o;simp only[lM]at au;split at au
 all_goals first
  |(rename_i heq;exfalso;simp at heq;done)
  |skip
 ·rename_i t q z p' x' n' heq
  simp at heq;obtain⟨rfl,rfl,rfl⟩:=heq;simp only[Bool.and_eq_true]at au;obtain⟨⟨h1,h2⟩,h3⟩:=au;have hv:=hR _ h3;have v8:gU (r x):=⟨λe=>by rw[e]at hn;simp[aO]at hn,λl e=>by rw[e]at hn;simp[aO]at hn⟩
  have mj:=VR.size v8 hv;have kI:∀v∈(a.eval z).cells.toList,v.oneCell' = true:=(VR.cells v8 hv).2;have e:=hp _ h2;refine⟨a.eval z,hv,?_⟩;have fg:=run_storeCells_at P id 0 el (a.eval z).cells.toList 0 c w hH (by simp;omega) kI
  refine bF.skip (w' :=w.setRow id (c.toList.take 0++(a.eval z).cells.toList++c.toList.drop (0+(a.eval z).cells.toList.length)).toArray) ?_ ⟨_,rfl,?_,λj hj=>?_⟩
  ·have Ge:=iT h1 w
   simp only[execOp,Instr.storeAt,e,Instr.sureAddr,storeVar,Sem.run_bind,Sem.run_pure,Result.andThen_ok,Ge];rw[if_neg (by rw[mj,hx];simp)]
   simp only[Nat.add_zero]at fg;rw[fg]
   rfl
  ·simp;omega
  ·simp[List.getElem?_append_left,hj]
 ·simp at au
end
end Ab
namespace Ab
open Go
variable{P:Program}
namespace RC
variable (X:RC P)
theorem eX{i:Nat}(hi:aV X.ls i=true):i<X.ls.length:=by
 unfold aV at hi;cases hl:X.ls[i]? with
 |none=>simp[hl]at hi
 |some l=>exact(List.getElem?_eq_some_iff.1 hl).1
theorem ow{k:Nat}:mJ X.ls X.draw X.bf k=true↔(∃j,j<=k/\oW X.ls X.draw X.bf j=true)/\∃i,i<X.ls.length/\k<=i/\oX X.ls X.draw X.bf i=true:=by
 simp only[mJ,Bool.and_eq_true,List.any_eq_true,List.mem_range,decide_eq_true_eq];constructor
 ·rintro⟨⟨j,h1,h2⟩,i,h3,h4,h5⟩;exact⟨⟨j,by omega,h2⟩,i,h3,h4,h5⟩
 ·rintro⟨⟨j,h1,h2⟩,i,h3,h4,h5⟩;exact⟨⟨j,by omega,h2⟩,i,h3,h4,h5⟩
theorem mK{i j:Nat}(hi:aV X.ls i=true) (hj:aV X.ls j=true) (aK:j<i):lQ X.draw X.bf j i=true\/mJ X.ls X.draw X.bf j=true/\mJ X.ls X.draw X.bf i=true:=by
 cases hb:lQ X.draw X.bf j i with
 |true=>exact .inl rfl
 |false=>
  have hl:loose X.ls X.draw X.bf j i=true:=by simp[loose,hi,hj,aK,hb]
  have h1:oW X.ls X.draw X.bf j=true:=List.any_eq_true.2 ⟨i,List.mem_range.2 (X.eX hi),hl⟩;have h2:oX X.ls X.draw X.bf i=true:=List.any_eq_true.2 ⟨j,List.mem_range.2 (X.eX hj),hl⟩;exact .inr ⟨X.ow.2 ⟨⟨j,Nat.le_refl _,h1⟩,i,X.eX hi,by omega,h2⟩,X.ow.2 ⟨⟨j,by omega,h1⟩,i,X.eX hi,Nat.le_refl _,h2⟩⟩
theorem lU{i:Nat}(hi:aV X.ls i=true) (hg:mJ X.ls X.draw X.bf i=true):iN X.ls i=true:=by
 obtain⟨o,l,ho,hl,hF⟩:=X.at_ (X.eX hi);have h:=hF.ZU;have he:(l.op.lC||l.op.kQ)=true:=by simpa[aV,hl]using hi
 simp only[sP,he,if_true,Bool.and_eq_true,hg,Bool.not_true,Bool.false_or]at h;exact h.2
theorem least{p:Nat->Prop}:∀n,p n->∃m,p m/\∀k,k<m->¬p k:=by
 intro n
 induction n using Nat.strongRecOn with
 |_ n ih=>
  intro h
  by_cases hx:∃k,k<n/\p k
  ·obtain⟨k,h1,h2⟩:=hx;exact ih k h1 h2
  ·exact⟨n,h,λk hk hp=>hx ⟨k,hk,hp⟩⟩
theorem greatest{p:Nat->Prop}{L:Nat}(hL:∀k,p k->k<L){n:Nat}(h:p n):∃m,p m/\∀k,m<k->¬p k:=by
 obtain⟨d,h1,h2⟩:=least (p:=λd=>d<=L/\p (L-d)) (L-n) ⟨by omega,by have:=hL n h;rwa [show L-(L-n)=n by omega]⟩
 refine⟨L-d,h1.2,λk hk hp=>?_⟩;have:=hL k hp;exact h2 (L-k) (by omega) ⟨by omega,by rwa [show L-(L-k)=k by omega]⟩
theorem o5{k:Nat}(h:mJ X.ls X.draw X.bf k=true):∃lo hi,(∀k,mJ X.ls X.draw X.bf k=true↔lo<=k/\k<=hi)/\aV X.ls hi=true/\lo<=hi:=by
 obtain⟨⟨j,_,h1⟩,i,h3,_,h4⟩:=X.ow.1 h;have NJ:∀i,oX X.ls X.draw X.bf i=true->aV X.ls i=true/\∃j,j<i/\oW X.ls X.draw X.bf j=true:=λi hi=>by
  obtain⟨j,_,hl⟩:=List.any_eq_true.1 hi;have cw :=hl;simp only[loose,Bool.and_eq_true,decide_eq_true_eq]at hl;exact⟨hl.1.1.2,j,hl.1.2,List.any_eq_true.2 ⟨i,List.mem_range.2 (X.eX hl.1.1.2),cw⟩⟩
 obtain⟨lo,l1,l2⟩:=least (p:=λj=>oW X.ls X.draw X.bf j=true) j h1;obtain⟨hi,g1,g2⟩:=greatest (p:=λi=>oX X.ls X.draw X.bf i=true) (L:=X.ls.length) (λk hk=>X.eX (NJ k hk).1) h4;obtain⟨e1,j', e2,e3⟩:=NJ hi g1;have hle:lo<=hi:=by
  have:¬j' < lo:=λaK=>l2 j' aK e3;omega
 refine⟨lo,hi,λk=>X.ow.trans ⟨?_,?_⟩,e1,hle⟩
 ·rintro⟨⟨j,a1,a2⟩,i,_,b1,b2⟩
  have c1:¬j<lo:=λaK=>l2 j aK a2;have c2:¬hi<i:=λaK=>g2 i aK b2;omega
 ·rintro⟨a1,a2⟩
  exact⟨⟨lo,a1,l1⟩,hi,X.eX e1,a2,g1⟩
theorem free_spec{i:Nat}{l:Ln}(hl:X.ls[i]? = some l) (h:iN X.ls i=true):l.g=none/\l.op.lC=true/\l.op.kQ=false/\l.op.nh=false/\(∀ce σ bp nl ps r,ev ce σ nl ps r l.op=ev ce bp nl ps r l.op)/\
  ∀ce σ nl ps r x p,ev ce σ nl ps r l.op=some (x,p)->((∀f as,l.op ≠ .can f as)/\∃B,p=some (.new B))\/∃bs,p=some (.news bs):=by
 simp only[iN,hl,Bool.and_eq_true,Option.isNone_iff_eq_none]at h;obtain⟨h1,h2⟩:=h;split at h2
 ·rename_i cZ
  rw[cZ];refine⟨h1,rfl,rfl,rfl,λ_ _ _ _ _ _=>rfl,λce σ nl ps r x p he=>.inl ⟨by simp,?_⟩⟩
  simp only[ev]at he;split at he<;>try(simp at he;done)
  split at he<;>simp at he;exact⟨_,he.2.symm⟩
 ·rename_i cZ
  rw[cZ];refine⟨h1,rfl,rfl,rfl,λ_ _ _ _ _ _=>rfl,λce σ nl ps r x p he=>.inr ?_⟩;simp only[ev]at he;split at he<;>try(simp at he;done)
  split at he<;>simp at he;exact⟨_,he.2.symm⟩
 ·rename_i cZ
  rw[cZ];refine⟨h1,rfl,rfl,rfl,λ_ _ _ _ _ _=>rfl,λce σ nl ps r x p he=>.inl ⟨by simp,?_⟩⟩
  simp only[ev]at he;split at he<;>simp at he
  exact⟨_,he.2.symm⟩
 ·rename_i cZ
  rw[cZ];refine⟨h1,rfl,rfl,rfl,λ_ _ _ _ _ _=>rfl,λce σ nl ps r x p he=>.inl ⟨by simp,?_⟩⟩
  simp only[ev,Option.some.injEq,Prod.mk.injEq]at he;exact⟨_,he.2.symm⟩
 ·rename_i cZ
  rw[cZ];refine⟨h1,rfl,rfl,rfl,λ_ _ _ _ _ _=>rfl,λce σ nl ps r x p he=>.inl ⟨by simp,?_⟩⟩
  simp only[ev]at he;split at he<;>simp at he
  exact⟨_,he.2.symm⟩
 ·simp at h2
theorem wA{i:Nat}(he:aV X.ls i=true) (hg:mJ X.ls X.draw X.bf i=true):∃l,(X.st (i+1)).σ=(X.st i).σ++l:=by
 obtain⟨o,l,ho,hl,hF⟩:=X.at_ (X.eX he);obtain⟨h1,h2,h3,_,_,h4⟩:=X.free_spec hl (X.lU he hg);have hr:=X.run i l hl;unfold dg at hr;simp only[h1,want,h3,Bool.false_eq_true,if_false]at hr;split at hr
 ·rename_i v fP
  rcases h4 _ _ _ _ _ _ _ fP with⟨_,B,hB⟩|⟨bs,hB⟩<;>simp at hB
 ·rename_i v p fP
  simp only[Option.some.injEq]at hr;rw[<-hr];rcases h4 _ _ _ _ _ _ _ fP with⟨_,B,hB⟩|⟨bs,hB⟩
  ·simp at hB;subst hB;exact⟨_,rfl⟩
  ·simp at hB;subst hB;exact⟨_,rfl⟩
 ·simp at hr
theorem pre{lo hi:Nat}(vi:∀k,mJ X.ls X.draw X.bf k=true↔lo<=k/\k<=hi){p:Nat}:∀(n:Nat),lo<=p->p+n<=hi+1->p+n<=X.ls.length->∃l,(X.st (p+n)).σ=(X.st p).σ++l
 |0,_,_,_=>⟨[],by simp⟩
 |n+1,h1,h2,h3=>by
  obtain⟨l,hl⟩:=pre vi n h1 (by omega) (by omega)
  cases he:aV X.ls (p+n)with
  |true=>
   obtain⟨l', cw⟩:=X.wA he ((vi _).2 ⟨by omega,by omega⟩)
   exact⟨l++l', by rw[show p+(n+1)=p+n+1 by omega,cw, hl,List.append_assoc]⟩
  |false=>
   obtain⟨o,l', ho,cw, hF⟩:=X.at_ (show p+n<X.ls.length by omega)
   exact⟨l,by rw[show p+(n+1)=p+n+1 by omega,(X.still cw he).1,hl]⟩
theorem yS{lo hi p q:Nat}(vi:∀k,mJ X.ls X.draw X.bf k=true↔lo<=k/\k<=hi) (h1:lo<=p) (h2:p<=q) (h3:q<=hi+1) (h4:q<=X.ls.length):∃l,(X.st q).σ=(X.st p).σ++l:=by
 have:=X.pre vi (p:=p) (q-p) h1 (by omega) (by omega)
 rwa [show p+(q-p)=q by omega]at this
theorem lV{lo hi p q:Nat}(vi:∀k,mJ X.ls X.draw X.bf k=true↔lo<=k/\k<=hi) (h1:lo<=p) (h2:p<=q) (h3:q<=hi+1) (h4:q<=X.ls.length):(X.st p).σ.length<=(X.st q).σ.length:=by
 obtain⟨l,hl⟩:=X.yS vi h1 h2 h3 h4;rw[hl];simp
theorem uB{i:Nat}(he:aV X.ls i=true) (hf:iN X.ls i=true):∃l,(X.st (i+1)).σ=(X.st i).σ++l:=by
 obtain⟨o,l,ho,hl,hF⟩:=X.at_ (X.eX he);obtain⟨h1,h2,h3,_,_,h4⟩:=X.free_spec hl hf;have hr:=X.run i l hl;unfold dg at hr;simp only[h1,want,h3,Bool.false_eq_true,if_false]at hr;split at hr
 ·rename_i v fP
  rcases h4 _ _ _ _ _ _ _ fP with⟨_,B,hB⟩|⟨bs,hB⟩<;>simp at hB
 ·rename_i v p fP
  simp only[Option.some.injEq]at hr;rw[<-hr];rcases h4 _ _ _ _ _ _ _ fP with⟨_,B,hB⟩|⟨bs,hB⟩
  ·simp at hB;subst hB;exact⟨_,rfl⟩
  ·simp at hB;subst hB;exact⟨_,rfl⟩
 ·simp at hr
theorem vA{p:Nat}:∀(n:Nat),p+n<=X.ls.length->(∀j,p<=j->j<p+n->aV X.ls j=true->iN X.ls j=true)->∃l,(X.st (p+n)).σ=(X.st p).σ++l
 |0,_,_=>⟨[],by simp⟩
 |n+1,h3,hf=>by
  obtain⟨l,hl⟩:=vA n (by omega) λj j1 j2=>hf j j1 (by omega)
  cases he:aV X.ls (p+n)with
  |true=>
   obtain⟨l', cw⟩:=X.uB he (hf _ (by omega) (by omega) he)
   exact⟨l++l', by rw[show p+(n+1)=p+n+1 by omega,cw, hl,List.append_assoc]⟩
  |false=>
   obtain⟨o,l', ho,cw, hF⟩:=X.at_ (show p+n<X.ls.length by omega)
   exact⟨l,by rw[show p+(n+1)=p+n+1 by omega,(X.still cw he).1,hl]⟩
theorem WR{lo hi:Nat}(vi:∀k,mJ X.ls X.draw X.bf k=true↔lo<=k/\k<=hi){b:Nat}:∀(n:Nat),lo+n<=hi+1->lo+n<=X.ls.length->b<(X.st (lo+n)).σ.length->b<(X.st lo).σ.length\/∃i,lo<=i/\i<lo+n/\aV X.ls i=true/\(X.st i).σ.length<=b/\b<(X.st (i+1)).σ.length
 |0,_,_,h=>.inl h
 |n+1,h1,h2,h=>by
  by_cases hb:b<(X.st (lo+n)).σ.length
  ·rcases WR vi n (by omega) (by omega) hb with h|⟨i,a1,a2,a3⟩
   ·exact .inl h
   ·exact .inr ⟨i,a1,by omega,a3⟩
  ·cases he:aV X.ls (lo+n)with
   |true=>exact .inr ⟨lo+n,by omega,by omega,he,by omega,h⟩
   |false=>
    obtain⟨o,l', ho,cw, hF⟩:=X.at_ (show lo+n<X.ls.length by omega)
    rw[show lo+(n+1)=lo+n+1 by omega,(X.still cw he).1]at h
    omega
theorem lW{p q:Nat}(h:iG X.ls p q=true):∀j,p<=j->j<q->aV X.ls j=true->iN X.ls j=true:=λj h1 h2 h3=>by
 simp only[iG,List.all_eq_true,List.mem_range,Bool.or_eq_true,Bool.not_eq_true', decide_eq_false_iff_not]at h;rcases h j h2 with(h|h)|h
 ·omega
 ·rw[h3]at h;simp at h
 ·exact h
theorem uC{p q:Nat}(h:yM X.ls p q=true):∀j,p<=j->j<q->aV X.ls j=false:=λj h1 h2=>by
 simp only[yM,List.all_eq_true,List.mem_range,Bool.or_eq_true,Bool.not_eq_true', decide_eq_false_iff_not]at h;rcases h j h2 with h|h
 ·exact absurd h1 h
 ·exact h
end RC
section
variable{X:RC P}{C0:Ctx}{w0:World}{ds:List Deferred}{D:Nat->Prop}{C:Ctx}{f:Nat}{a:Act}{w:World}{i:Nat}
theorem iO.front (h:iO X D C f) (hD:¬D i) (hb:∀j,lQ X.draw X.bf j i=true->D j) (he:aV X.ls i=true) (o6:mJ X.ls X.draw X.bf i=false):f<=i/\∀j,f<=j->j<i->aV X.ls j=false:=by
 refine⟨Nat.le_of_not_lt λaK=>hD (h.lo i aK he),λj h1 h2=>?_⟩;cases hj:aV X.ls j with
 |false=>rfl
 |true=>
  rcases X.mK he hj h2 with hq|hq
  ·exact absurd (hb j hq) (h.hi j h1 hj)
  ·rw[o6]at hq;simp at hq
theorem iO.Ib (h:iO X D C f) (hf:f<=i) (hn:∀j,f<=j->j<i->aV X.ls j=false) :
  (∀e,e<i+1->aV X.ls e=true->D e\/e=i)/\∀e,i+1<=e->aV X.ls e=true->¬(D e\/e=i):=by
 refine⟨λe h1 h2=>?_,λe h1 h2 h3=>?_⟩
 ·rcases Nat.lt_or_ge e i with aK|WS
  ·rcases Nat.lt_or_ge e f with hl|hg
   ·exact .inl (h.lo e hl h2)
   ·rw[hn e hg aK]at h2;simp at h2
  ·exact .inr (by omega)
 ·rcases h3 with h3|h3
  ·exact h.hi e (by omega) h2 h3
  ·omega
theorem Ic{σ l:List ag}{ids:Nat->Nat}{I:Nat->Prop}{b u:Nat}(hb:b<σ.length):(af (σ++l) ids I).own b u=(af σ ids I).own b u/\((af (σ++l) ids I).lim b u↔(af σ ids I).lim b u):=by
 have e:al (σ++l) b=al σ b:=by rw[dp,dp,List.getElem?_append_left hb]
 simp only[af,e,and_self]
theorem Z5{σ:List ag}{ids:Nat->Nat}{I:Nat->Prop}{b u:Nat}(h:(af σ ids I).lim b u):b<σ.length:=by
 obtain⟨B,h1,_⟩:=h;rw[dp]at h1;exact(List.getElem?_eq_some_iff.1 h1).1
theorem iO.group (h:iO X D C f) (hD:¬D i) (hb:∀j,lQ X.draw X.bf j i=true->D j) (he:aV X.ls i=true) (hg:mJ X.ls X.draw X.bf i=true):∃lo hi,oZ X D C lo hi:=by
 obtain⟨lo,hi,g1,g2,g3⟩:=X.o5 hg;have Z6:=(g1 i).1 hg;have AY:f<=i:=Nat.le_of_not_lt λaK=>hD (h.lo i aK he);have Z7:=X.eX g2;have NK:∀e,e<lo->aV X.ls e=true->D e:=λe h1 h2=>by
  rcases X.mK he h2 (by omega)with hq|hq
  ·exact hb e hq
  ·have:=(g1 e).1 hq.1;omega
 have Z8:∀e,hi<e->aV X.ls e=true->¬D e:=λe h1 h2=>h.hi e (by omega) h2
 -- the blocks now
 obtain⟨q,q1,q2,q3,q4⟩:∃q,lo<=q/\q<=hi+1/\(X.st f).σ=(X.st q).σ/\∀e,aV X.ls e=true->lo<=e->(D e↔e<q):=by
  rcases Nat.lt_or_ge f lo with aK|WS
  ·refine⟨lo,Nat.le_refl _,by omega,((X.oY (p:=f) (q:=lo) (by omega) (by omega) λk k1 k2=>?_).1).symm,λe h1 h2=>⟨λhd=>absurd hd (h.hi e (by omega) h1),λh3=>by omega⟩⟩
   cases hk:aV X.ls k with
   |false=>rfl
   |true=>exact absurd (NK k k2 hk) (h.hi k k1 hk)
  ·exact⟨f,WS,by omega,rfl,λe h1 h2=>⟨λhd=>Nat.lt_of_not_le λh3=>h.hi e h3 h1 hd,λh3=>h.lo e h3 h1⟩⟩
 have lD:∀b,alive X D lo b↔b<(X.st f).σ.length:=λb=>by
  rw[q3];constructor
  ·rintro(h1|⟨k,k1,k2,k3,k4,k5⟩)
   ·have:=X.lV g1 (Nat.le_refl lo) q1 q2 (by omega);omega
   ·have a1:=(g1 k).1 k2
    have a2:=(q4 k k1 a1.1).1 k3;have:=X.lV g1 (p:=k+1) (q:=q) (by omega) (by omega) q2 (by omega)
    omega
  ·intro h1
   have Bu : b<(X.st (lo+(q-lo))).σ.length:=by rwa [show lo+(q-lo)=q by omega]
   rcases X.WR g1 (q-lo) (by omega) (by omega) Bu with h2|⟨k,k1,k2,k3,k4,k5⟩
   ·exact .inl h2
   ·exact .inr ⟨k,k3,(g1 k).2 ⟨k1,by omega⟩,(q4 k k3 k1).2 (by omega),k4,k5⟩
 obtain⟨l,hl⟩:=X.yS g1 q1 q2 (Nat.le_refl _) (by omega)
 rw[<-q3]at hl;obtain⟨ids,s1,s2⟩:=h.gA;refine⟨lo,hi,g1,g2,g3,NK,Z8,ids,λb u e ha ho=>?_,λb u fL=>?_⟩
 ·rw[hl,(Ic ((lD b).1 ha)).1]at ho
  exact s1 b u e ho
 ·have:=s2 b u fL
  have aK:=Z5 this;exact⟨(lD b).2 aK,by rw[hl];exact(Ic aK).2.2 this⟩
theorem oZ.done{lo hi:Nat}(h:oZ X D C lo hi) (fK:∀k,aV X.ls k=true->mJ X.ls X.draw X.bf k=true->D k):iO X D C (hi+1):=by
 have Z7:=X.eX h.LJ;have hle:=h.le;have lD:∀b,b<(X.st (hi+1)).σ.length->alive X D lo b:=λb hb=>by
  have Bu : b<(X.st (lo+(hi+1-lo))).σ.length:=by rwa [show lo+(hi+1-lo)=hi+1 by omega]
  rcases X.WR h.o5 (hi+1-lo) (by omega) (by omega) Bu with h2|⟨k,k1,k2,k3,k4,k5⟩
  ·exact .inl h2
  ·have hg:=(h.o5 k).2 ⟨k1,by omega⟩
   exact .inr ⟨k,k3,hg,fK k k3 hg,k4,k5⟩
 obtain⟨ids,s1,s2⟩:=h.gA;have vk:jC C (X.st (hi+1)).σ:=by
  refine⟨ids,λb u e ho=>?_,λb u hl=>(s2 b u hl).2⟩;have aK:b<(X.st (hi+1)).σ.length:=by
   cases hq:al (X.st (hi+1)).σ b with
   |none=>simp[af,hq]at ho
   |some B=>rw[dp]at hq;exact(List.getElem?_eq_some_iff.1 hq).1
  exact s1 b u e (lD b aK) ho
 refine⟨by omega,λe h1 h2=>?_,λe h1 h2=>h.behind e (by omega) h2,vk,λ_=>⟨by rw[Nat.add_sub_cancel];exact h.LJ,λ_=>?_⟩⟩
 ·by_cases aK:e<lo
  ·exact h.before e aK h2
  ·exact fK e h2 ((h.o5 e).2 ⟨by omega,by omega⟩)
 ·rw[Nat.add_sub_cancel]
  intro b u B AO hu;obtain⟨l,hl⟩:=X.yS h.o5 (p:=hi) (q:=hi+1) hle (by omega) (Nat.le_refl _) (by omega)
  obtain⟨k1,k2,k3⟩:=wv hu;have aK:b<(X.st hi).σ.length:=by rw[dp]at k1;exact(List.getElem?_eq_some_iff.1 k1).1
  refine vk.seen b u B AO ?_;rw[hl];unfold fO;rw[show al ((X.st hi).σ++l) b=al (X.st hi).σ b by rw[dp,dp,List.getElem?_append_left aK]]
  exact hu
theorem lT.norm (h:lT X D C f) (hD:¬D i) (hb:∀j,lQ X.draw X.bf j i=true->D j) (he:aV X.ls i=true) (o6:mJ X.ls X.draw X.bf i=false):∃f,iO X D C f:=by
 rcases h with hN|⟨lo,hi,hG,_⟩
 ·exact⟨_,hN⟩
 ·have hle:=hG.le
  have dx : hi<i:=by
   have h1:¬(lo<=i/\i<=hi):=λh=>by rw[(hG.o5 i).2 h]at o6;simp at o6
   have h2:¬i<lo:=λh=>hD (hG.before i h he);omega
  refine⟨_,hG.done λk hk hg=>?_⟩;have:=(hG.o5 k).1 hg;rcases X.mK he hk (by omega)with hq|hq
  ·exact hb k hq
  ·rw[o6]at hq;simp at hq
theorem lT.o5 (h:lT X D C f) (hD:¬D i) (hb:∀j,lQ X.draw X.bf j i=true->D j) (he:aV X.ls i=true) (hg:mJ X.ls X.draw X.bf i=true):∃lo hi,oZ X D C lo hi:=by
 rcases h with hN|⟨lo,hi,hG,_⟩
 ·exact hN.group hD hb he hg
 ·exact⟨lo,hi,hG⟩
theorem NL{C:Ctx}{σ l:List ag}(h:Seen C (σ++l)):Seen C σ:=λb u B AO hu=>by
 refine h b u B AO ?_;have hb:=(wv hu).1;have aK:b<σ.length:=by rw[dp]at hb;exact(List.getElem?_eq_some_iff.1 hb).1
 unfold fO at hu ⊢
 rwa [show al (σ++l) b=al σ b by rw[dp,dp,List.getElem?_append_left aK]]
theorem Inv.Z9 (h:Inv X C0 w0 ds D C f a w) (hi:i<X.ls.length) (hD:¬D i) (hb:∀j,lQ X.draw X.bf j i=true->D j){o:Oper}{l:Ln}(hl:X.ls[i]? = some l) (hF:sQ X i o l)
  (hE:l.op.lC=false) (hW:l.op.kQ=false) (hP:l.op.jI=false):Seen C (if l.prev then(X.st i).aA else(X.st i).σ):=by
 have hr:=hF.read;simp only[uz,hE,hW,hP,Bool.or_self,Bool.false_eq_true,if_false,Bool.and_eq_true,List.all_eq_true,List.mem_range]at hr;obtain⟨AZ,A0⟩:=hr;generalize hv:lS X.ls i l=v at AZ A0;have hvi:v<=i:=by
  by_cases hp:l.prev=true
  ·simp only[hp,if_true,Bool.and_eq_true,decide_eq_true_eq]at AZ
   omega
  ·have:v=i:=by rw[<-hv];simp[lS,hp]
   omega
 have NM:(if l.prev then(X.st i).aA else(X.st i).σ)=(X.st v).σ:=by
  by_cases hp:l.prev=true
  ·simp only[hp,if_true,Bool.and_eq_true,decide_eq_true_eq]at AZ ⊢
   obtain⟨⟨q1,q2⟩,q3⟩:=AZ;have h1:=(X.oY (p:=v+1) (q:=i) (by omega) (Nat.le_of_lt hi) (X.uC q3)).2
   rw[h1];obtain⟨ov,lv,_,tY,hFv⟩:=X.at_ (show v<X.ls.length by omega)
   have cG:=X.run v lv tY;simp only[H8,tY,Bool.and_eq_true,Option.isNone_iff_eq_none]at q2;have hef:=hFv.ZU;simp only[sP,q2.1,Bool.true_or,if_true,Bool.and_eq_true,Bool.not_eq_true']at hef;unfold dg at cG;simp only[q2.2,want]at cG;have hW:lv.op.kQ=false:=by revert q2;cases lv.op<;>simp[cW.lC,cW.kQ]
   rw[if_neg (by rw[hW];simp)]at cG
   split at cG
   ·simp only[q2.1,if_true,Option.some.injEq]at cG;rw[<-cG]
   ·simp only[Option.some.injEq]at cG;rw[<-cG]
   ·simp at cG
  ·have:v=i:=by rw[<-hv];simp[lS,hp]
   simp[hp,this]
 rw[NM];have eZ:∀j,aV X.ls j=true->j<X.ls.length:=λj hj=>by
  unfold aV at hj;cases hl:X.ls[j]? with
  |none=>simp[hl]at hj
  |some l=>exact(List.getElem?_eq_some_iff.1 hl).1
 have key:∀j,aV X.ls j=true->if j<v then(lQ X.draw X.bf j i=true\/(iG X.ls j v=true/\yL X.ls X.draw X.bf=true))else lQ X.draw X.bf i j=true\/(H8 X.ls j=true/\iG X.ls v j=true):=λj hj=>by
  have:=A0 j (eZ j hj);simp only[hj,Bool.not_true,Bool.false_or]at this
  by_cases aK:j<v
  ·simpa[aK]using this
  ·simp only[aK,if_false,Bool.or_eq_true,Bool.and_eq_true]at this ⊢
   exact this.imp (λq=>q) λq=>⟨q.1.2,q.2⟩
 rcases h.fr with hN|⟨lo,hi,hS,k0,y1,y2,y3⟩
 ·rcases Nat.lt_or_ge v f with WT|WT
  ·obtain⟨e1,e2⟩:=hN.last (by omega)
   have hd:=hN.lo (f-1) (by omega) e1
   have:=key (f-1) e1;rw[if_neg (by omega)]at this
   rcases this with k|⟨k1,k2⟩
   ·exact absurd (h.closed _ _ hd k) hD
   ·obtain⟨l', cw⟩:=X.vA (p:=v) (f-1-v) (by have:=hN.ZW;omega) λj j1 j2=>X.lW k2 j j1 (by omega)
    rw[show v+(f-1-v)=f-1 by omega]at cw
    have:=e2 k1;rw[cw]at this;exact NL this
  ·have BM:∀j,f<=j->j<v->aV X.ls j=true->iN X.ls j=true:=λj j1 j2 hj=>by
    have:=key j hj;rw[if_pos j2]at this;rcases this with this|this
    ·exact absurd (hb j this) (hN.hi j j1 hj)
    ·have:=this.1
     simp only[iG,List.all_eq_true,List.mem_range,Bool.or_eq_true,Bool.not_eq_true', decide_eq_false_iff_not]at this;rcases this j j2 with(q|q)|q
     ·exact absurd (Nat.le_refl j) q
     ·rw[hj]at q;simp at q
     ·exact q
   obtain⟨l', cw⟩:=X.vA (p:=f) (v-f) (by omega) λj j1 j2=>BM j j1 (by omega)
   rw[show f+(v-f)=v by omega]at cw
   intro b u B AO hu;obtain⟨ids,s1,s2⟩:=hN.gA;have aK:b<(X.st f).σ.length:=by
    obtain⟨B1,q1,_⟩:=s2 b u AO;rw[dp]at q1;exact(List.getElem?_eq_some_iff.1 q1).1
   refine hN.gA.seen b u B AO ?_;rw[cw]at hu;unfold fO at hu ⊢
   rwa [show al ((X.st f).σ++l') b=al (X.st f).σ b by rw[dp,dp,List.getElem?_append_left aK]]at hu
 ·-- all WU before v are done;of those behind it at apv the first one
  have hle:=hS.le;have Z7:=X.eX hS.LJ;have k1:∀e,aV X.ls e=true->e<v->D e:=λe he aK=>by
   have:=key e he;rw[if_pos aK]at this;rcases this with this|this
   ·exact hb e this
   ·have h2:=this.2
    simp only[yL,List.all_eq_true,List.mem_range,Bool.not_eq_true']at h2;have:=h2 k0 (X.eX y1);rw[y2]at this;simp at this
  have k2:∀e,aV X.ls e=true->D e->v<=e->iG X.ls v e=true:=λe he hd hle=>by
   have:=key e he;rw[if_neg (by omega)]at this
   rcases this with hq|hq
   ·exact absurd (h.closed _ _ hd hq) hD
   ·exact hq.2
  by_cases nN:hi<v
  ·have hN:=hS.done λk hk hg=>k1 k hk (by have:=(hS.o5 k).1 hg;omega)
   rw[(X.oY (p:=hi+1) (q:=v) (by omega) (by omega) λj j1 j2=>by
    cases hj:aV X.ls j with
    |false=>rfl
    |true=>exact absurd (k1 j hj j2) (hS.behind j (by omega) hj)).1]
   exact hN.gA.seen
  ·obtain⟨q,q1,q2,⟨l', q3⟩,q4⟩:∃q,lo<=q/\q<=hi/\(∃l', (X.st q).σ=(X.st v).σ++l')/\∀e,aV X.ls e=true->e<q->D e:=by
    by_cases tY:lo<=v
    ·exact⟨v,tY,by omega,⟨[],by simp⟩,k1⟩
    ·have j5:=(hS.o5 k0).1 y2
     have b8:=X.lW (k2 k0 y1 y3 (by omega))
     obtain⟨l', cw⟩:=X.vA (p:=v) (lo-v) (by omega) λj j1 j2=>b8 j j1 (by omega)
     rw[show v+(lo-v)=lo by omega]at cw
     exact⟨lo,Nat.le_refl _,hle,⟨l', cw⟩,λe he aK=>hS.before e aK he⟩
   refine NL (l:=l') ?_;rw[<-q3];intro b u B _ hu;obtain⟨u1,u2,u3⟩:=wv hu;have aK:b<(X.st q).σ.length:=by rw[dp]at u1;exact(List.getElem?_eq_some_iff.1 u1).1
   have lD:alive X D lo b:=by
    have Bu : b<(X.st (lo+(q-lo))).σ.length:=by rwa [show lo+(q-lo)=q by omega]
    rcases X.WR hS.o5 (q-lo) (by omega) (by omega) Bu with h2|⟨k,a1,a2,a3,a4,a5⟩
    ·exact .inl h2
    ·exact .inr ⟨k,a3,(hS.o5 k).2 ⟨a1,by omega⟩,q4 k a3 (by omega),a4,a5⟩
   obtain⟨l,hl⟩:=X.yS hS.o5 (p:=q) (q:=hi+1) q1 (by omega) (Nat.le_refl _) (by omega)
   obtain⟨ids,s1,s2⟩:=hS.gA;refine⟨ids b,s1 b u _ lD ?_⟩;rw[hl,(Ic aK).1];exact sF ids C.I hu
end
end Ab
namespace Ab
open Go
variable{P:Program}
def cmt (σ:List ag):Option aZ->List ag
 |some q=>fW σ q
 |none=>σ
theorem aaa{ls:List Ln}{t m:Nat}(h:eC ls t=some m):lR ls t=none:=by
 unfold eC at h;unfold lR;cases hl:ls[t]? with
 |none=>rfl
 |some l=>
  simp only[hl]at h ⊢;split at h
  ·rename_i cZ;rw[cZ]
  ·simp at h
theorem NN (σ l:List ag) (b:Nat):al (σ++l) b=if b<σ.length then al σ b else al l (b-σ.length):=by
 rw[dp,dp,dp]
 by_cases hb:b<σ.length
 ·rw[if_pos hb,List.getElem?_append_left hb]
 ·rw[if_neg hb,List.getElem?_append_right (by omega)]
open Classical in
noncomputable def vB (σ:List ag) (A:Nat->Prop) (ids:Nat->Nat) (I:Nat->Prop):Ctx where
 I:=I
 own:=λb u=>if A b then(af σ ids I).own b u else none
 lim:=λb u=>A b/\(af σ ids I).lim b u
section
variable{X:RC P}{C0:Ctx}{w0:World}{ds:List Deferred}{D:Nat->Prop}{C:Ctx}{f:Nat}{a:Act}{w:World}{i:Nat}
theorem Inv.next (h:Inv X C0 w0 ds D C f a w) (hi:i<X.ls.length) (hD:¬D i) (hb:∀j,lQ X.draw X.bf j i=true->D j) (Q:Exit->Act->World->Prop) :
  wpOp P X.ops.toArray Q i (λa' w' =>∃C' f', Inv X C0 w0 ds (λj=>D j\/j=i) C' f' a' w') a w:=by
 obtain⟨o,l,ho,hl,hF⟩:=X.at_ hi;have cG:=X.run i l hl;have hR:∀x y,qJ X.draw X.bf X.ops X.ls X.sl i x y=true->VR C w.heap (rv X.vars (X.st i).env y) (a.eval x):=λx y hr=>h.ref hi hD hb hr;unfold wpOp;simp only[List.getElem?_toArray,ho];unfold dg at cG;cases hw:want X.vars (X.st i).env l.g with
 |none=>simp[hw]at cG
 |some b=>
  have hwa:=h.wanted hi hb hF hw;rw[hwa];simp only[hw]at cG;cases b with
  |false=>
   simp only[Bool.false_eq_true,if_false];simp only[Option.some.injEq]at cG;have fc:valOf X.st i = .bS []:=by rw[valOf,<-cG]
   have xI:l.g ≠ none:=λe=>by rw[e]at hw;simp[want]at hw
   have BV:lR X.ls i=none:=by
    cases ht:lR X.ls i with
    |none=>rfl
    |some t=>
     obtain⟨_,_,l', _,_,_,_,cw, _,_,xH, _⟩:=X.fG ht;rw[hl]at cw; simp at cw; subst cw;exact absurd xH xI
   have rF:eC X.ls i=none:=by
    unfold eC;simp only[hl];split
    ·rename_i m cZ
     have:=hF.kK;simp only[oV,cZ,Bool.and_eq_true,Option.isNone_iff_eq_none]at this;exact absurd this.1 xI
    ·rfl
   have NO:VR C w.heap (valOf X.st i) undef:=by rw[fc];unfold VR;exact⟨[],rfl,rfl⟩
   cases he:aV X.ls i with
   |false=>
    exact⟨C,f,h.after hi hD hb ho h.good (Step.refl _ _) BV NO (λm hm=>by rw[rF]at hm;simp at hm) (h.fr.sR he C.I)⟩
   |true=>
    have o6:mJ X.ls X.draw X.bf i=false:=by
     cases hg:mJ X.ls X.draw X.bf i with
     |false=>rfl
     |true=>exact absurd (X.free_spec hl (X.lU he hg)).1 xI
    obtain⟨f', hN⟩:=h.fr.norm hD hb he o6;obtain⟨q1,q2⟩:=hN.front hD hb he o6;obtain⟨e1,e2⟩:=hN.Ib q1 q2;have hs:(X.st (i+1)).σ=(X.st f').σ:=by rw[<-cG];exact(X.oY q1 (Nat.le_of_lt hi) q2).1
    refine⟨C,i+1,h.after hi hD hb ho h.good (Step.refl _ _) BV NO (λm hm=>by rw[rF]at hm;simp at hm) (.inl ⟨by omega,e1,e2,by rw[hs];exact hN.gA,λ_=>⟨he,λGf=>?_⟩⟩)⟩
    simp only[Nat.add_sub_cancel,H8,hl,Bool.and_eq_true,Option.isNone_iff_eq_none]at Gf;exact absurd Gf.2 xI
  |true=>
   dsimp only at cG;simp only[if_true];refine .inl ?_
   by_cases xJ:l.op.kQ=true
   ·rw[if_pos xJ]at cG
    have he:aV X.ls i=true:=by simp[aV,hl,xJ]
    have o6:mJ X.ls X.draw X.bf i=false:=by
     cases hg:mJ X.ls X.draw X.bf i with
     |false=>rfl
     |true=>rw[(X.free_spec hl (X.lU he hg)).2.2.1]at xJ;simp at xJ
    obtain⟨f', hN⟩:=h.fr.norm hD hb he o6;obtain⟨q1,q2⟩:=hN.front hD hb he o6;have Ie:=(X.oY q1 (Nat.le_of_lt hi) q2).1;obtain⟨ids,g1,g2⟩:=hN.gA.take h.good;rw[<-Ie]at g1 g2;split at cG
    ·rename_i v bp fP
     simp only[Option.some.injEq]at cG;have BV:lR X.ls i=none:=by
      cases ht:lR X.ls i with
      |none=>rfl
      |some t=>
       obtain⟨_,_,l', _,_,_,_,cw, _,cZ,_⟩:=X.fG ht;rw[hl]at cw; simp at cw; subst cw;rw[cZ]at xJ;simp[cW.kQ]at xJ
     have rF:eC X.ls i=none:=by
      unfold eC;simp only[hl];split
      ·rename_i m cZ;rw[cZ]at xJ;simp[cW.kQ]at xJ
      ·rfl
     refine opW hF.op xJ X.dM X.jz g1 (λx y hr=>VR.mono g2.ev _ _ (hR x y hr)) fP _ Q λv' w' hp=>?_;obtain⟨aJ, I', k1,k2,k3⟩:=hp;obtain⟨e1,e2⟩:=hN.Ib q1 q2;have hs:(X.st (i+1)).σ=bp :=by rw[<-cG]
     have fc:valOf X.st i=v:=by rw[valOf,<-cG]
     refine⟨_,i+1,h.after hi hD hb ho k1 (g2.trans k2) BV (by rw[fc];exact k3) (λm hm=>by rw[rF]at hm;simp at hm) (.inl ⟨by omega,e1,e2,by rw[hs];exact Nw _ _ _,λ_=>⟨he,λGf=>?_⟩⟩)⟩
     simp only[Nat.add_sub_cancel,H8,hl,Bool.and_eq_true]at Gf;exfalso
     revert xJ Gf;cases l.op<;>simp[cW.lC,cW.kQ]
    ·simp at cG
   ·rw[if_neg xJ]at cG
    have NP:l.op.kQ=false:=by simpa using xJ
    cases fP:ev X.ce (if l.prev then(X.st i).aA else(X.st i).σ) (X.st i).σ.length [] (rv X.vars (X.st i).env) l.op with
    |none=>simp[fP]at cG
    |some vp=>
     obtain⟨v,p⟩:=vp;simp only[fP]at cG;have fc:valOf X.st i=v:=by cases p<;>simp only[Option.some.injEq]at cG<;>rw[valOf,<-cG]<;>rfl
     have bV:(X.st (i+1)).σ=cmt (X.st i).σ p:=by cases p<;>simp only[Option.some.injEq]at cG<;>rw[<-cG]<;>rfl
     cases hE:l.op.lC with
     |true=>
      have he:aV X.ls i=true:=by simp[aV,hl,hE]
      have yT:l.prev=false:=by
       have:=hF.ZU;simp only[sP,hE,Bool.true_or,if_true,Bool.and_eq_true,Bool.not_eq_true']at this;exact this.1
      rw[yT]at fP;simp only[Bool.false_eq_true,if_false]at fP;have BV:lR X.ls i=none:=by
       cases ht:lR X.ls i with
       |none=>rfl
       |some t=>
        obtain⟨_,_,l', _,_,_,_,cw, _,cZ,_⟩:=X.fG ht;rw[hl]at cw; simp at cw; subst cw;rw[cZ]at hE;simp[cW.lC]at hE
      have rF:eC X.ls i=none:=by
       unfold eC;simp only[hl];split
       ·rename_i m cZ;rw[cZ]at hE;simp[cW.lC]at hE
       ·rfl
      have yB:l.op.nh=false:=by revert hE;cases l.op<;>simp[cW.lC,cW.nh]
      cases o6:mJ X.ls X.draw X.bf i with
      |false=>
       obtain⟨f', hN⟩:=h.fr.norm hD hb he o6;obtain⟨q1,q2⟩:=hN.front hD hb he o6;obtain⟨ids,g1,g2⟩:=hN.gA.take h.good;have Ie:=(X.oY q1 (Nat.le_of_lt hi) q2).1;rw[<-Ie]at g1 g2;refine opE hF.op NP yB X.dM X.jz g1 (λb u B _ hu=>⟨_,sF ids C.I hu⟩) (λ_ _=>wb) (λl' _ b u mL _ fL=>?_) (λb u B cs hu _ _=>⟨λn hn fL=>?_,λu' B' id' bO=>?_⟩) (λx y hr=>VR.mono g2.ev _ _ (hR x y hr)) rfl fP _ Q λv' w' hp=>?_
       ·obtain⟨B,hB,_⟩:=fL
        rw[dp,List.getElem?_eq_none (by omega)]at hB;simp at hB
       ·obtain⟨B', hB,hle⟩:=fL
        obtain⟨k1,k2,_⟩:=rj hu;rw[k1]at hB;simp at hB;subst hB;omega
       ·obtain⟨k1,k2,_⟩:=rj hu
        rw[<-k2];exact mD (u:=0) k1 u' B' id' bO
       ·obtain⟨C', k1,k2,k3,k4⟩:=hp
        obtain⟨s1,s2⟩:=Ext.gA k1 k4;obtain⟨e1,e2⟩:=hN.Ib q1 q2;exact⟨C', i+1,h.after hi hD hb ho k1 (g2.trans k2) BV (by rw[fc];exact k3) (λm hm=>by rw[rF]at hm;simp at hm) (.inl ⟨by omega,e1,e2,by rw[bV];cases p<;>exact s1,λ_=>⟨he,λ_=>s2⟩⟩)⟩
      |true=>
       obtain⟨lo,hh,hG⟩:=h.fr.o5 hD hb he o6;obtain⟨fr1,fr2,fr3,fr4,fr5,fr6⟩:=X.free_spec hl (X.lU he o6);have eZ:=(hG.o5 i).1 o6;have Z7:=X.eX hG.LJ;have hle:=hG.le;obtain⟨ids,m1,m2⟩:=hG.gA;obtain⟨bs,LN,uD⟩:∃bs,(X.st (i+1)).σ=(X.st i).σ++bs/\(((∀f as,l.op ≠ .can f as)/\∃B,p=some (.new B)/\bs=[B])\/p=some (.news bs)):=by
        rcases fr6 _ _ _ _ _ _ _ fP with⟨hc,B,rfl⟩|⟨bs,rfl⟩
        ·exact⟨[B],by rw[bV];rfl,.inl ⟨hc,B,rfl,rfl⟩⟩
        ·exact⟨bs,by rw[bV];rfl,.inr rfl⟩
       have hlen:(X.st (i+1)).σ.length=(X.st i).σ.length+bs.length:=by rw[LN];simp
       have NQ:∀b,(X.st i).σ.length<=b->b<(X.st (i+1)).σ.length->¬alive X D lo b:=by
        rintro b b1 b2 (h1|⟨k,k1,k2,k3,k4,k5⟩)
        ·have:=X.lV hG.o5 (p:=lo) (q:=i) (Nat.le_refl _) eZ.1 (by omega) (by omega);omega
        ·have hk:=(hG.o5 k).1 k2
         rcases Nat.lt_trichotomy k i with aK|rfl|hgt
         ·have:=X.lV hG.o5 (p:=k+1) (q:=i) (by omega) (by omega) (by omega) (by omega);omega
         ·exact hD k3
         ·have:=X.lV hG.o5 (p:=i+1) (q:=k) (by omega) (by omega) (by omega) (by omega);omega
       have hg2:=Good.shrink (C2:=vB (X.st (hh+1)).σ (alive X D lo) ids C.I) h.good rfl (λb u e aY =>by
        unfold vB at aY;dsimp only at aY;split at aY
        ·rename_i ha;exact m1 b u e ha aY
        ·simp at aY) m2
       have wC : ∀b,alive X (λj=>D j\/j=i) lo b↔alive X D lo b\/((X.st i).σ.length<=b/\b<(X.st (i+1)).σ.length):=λb=>by
        constructor
        ·rintro(h1|⟨k,k1,k2,k3,k4⟩)
         ·exact .inl (.inl h1)
         ·rcases k3 with k3|rfl
          ·exact .inl (.inr ⟨k,k1,k2,k3,k4⟩)
          ·exact .inr k4
        ·rintro((h1|⟨k,k1,k2,k3,k4⟩)|h1)
         ·exact .inl h1
         ·exact .inr ⟨k,k1,k2,.inl k3,k4⟩
         ·exact .inr ⟨i,he,o6,.inr rfl,h1⟩
       obtain⟨l2,lY⟩:=X.yS hG.o5 (p:=i+1) (q:=hh+1) (by omega) (by omega) (Nat.le_refl _) (by omega)
       have hblk:∀b,(X.st i).σ.length<=b->b<(X.st (i+1)).σ.length->al (X.st (hh+1)).σ b=al bs (b-(X.st i).σ.length):=λb b1 b2=>by
        rw[lY,NN,if_pos b2,LN,NN,if_neg (by omega)]
       refine opE (σ:=[]) hF.op NP yB X.dM X.jz hg2.1 (λb u B _ hu=>by simp[fO,al]at hu) (λ_ hc u fL=>?_) (λl' hq b u mL A6 fL=>?_) (λb u B cs hu _ _=>by simp[upto,al]at hu) (λx y hr=>VR.mono hg2.2.ev _ _ (hR x y hr)) rfl (by rw[fr5 X.ce [] (X.st i).σ];exact fP) _ Q λv' w' hp=>?_
       ·rcases uD with⟨_,B,_,rfl⟩|hq
        ·exact NQ _ (Nat.le_refl _) (by rw[hlen];simp) fL.1
        ·exfalso
         rcases fr6 _ _ _ _ _ _ _ fP with⟨_,B,hB⟩|⟨bs', hB⟩
         ·rw[hq]at hB;simp at hB
         ·have hf:=X.lU he o6
          simp only[iN,hl,Bool.and_eq_true]at hf;have AT:=hf.2;split at AT
          ·rename_i cZ;rw[cZ]at fP;simp only[ev]at fP
           split at fP<;>try(simp at fP;done)
           split at fP<;>simp at fP;rw[<-fP.2]at hq;simp at hq
          ·rename_i f as cZ;exact hc f as cZ
          ·rename_i cZ;rw[cZ]at fP;simp only[ev]at fP
           split at fP<;>simp at fP;rw[<-fP.2]at hq;simp at hq
          ·rename_i cZ;rw[cZ]at fP;simp[ev]at fP
           rw[<-fP.2]at hq;simp at hq
          ·rename_i cZ;rw[cZ]at fP;simp only[ev]at fP
           split at fP<;>simp at fP;rw[<-fP.2]at hq;simp at hq
          ·simp at AT
       ·rcases uD with⟨_,B,hq', _⟩|hq'
        ·rw[hq']at hq;simp at hq
        ·rw[hq']at hq;simp at hq;subst hq
         exact NQ b mL (by omega) fL.1
       ·obtain⟨C', k1,k2,k3,k4⟩:=hp
        have vk:∃aJ, (∀b u e,alive X (λj=>D j\/j=i) lo b->(af (X.st (hh+1)).σ aJ C'.I).own b u=some e->C'.own b u=some e)/\∀b u,C'.lim b u->alive X (λj=>D j\/j=i) lo b/\(af (X.st (hh+1)).σ aJ C'.I).lim b u:=by
         rcases uD with⟨_,B,rfl,rfl⟩|rfl
         ·obtain⟨id,k5,k6⟩:=k4
          have jm:B.st ≠ .dead:=(k1.kU (X.st i).σ.length B.cells.length B id (by rw[k5];simp[ar])).2.2.2
          have mL:=hblk (X.st i).σ.length (Nat.le_refl _) (by rw[hlen];simp)
          rw[Nat.sub_self]at mL;refine⟨λq=>if q=(X.st i).σ.length then id else ids q,λb u e ha aY =>?_,λb u fL=>?_⟩
          ·rw[k5]
           by_cases e0:b=(X.st i).σ.length
           ·subst e0
            simp only[af,mL,al,if_true]at aY;have hu:B.cells.length=u/\(B,id)=e:=by
             cases hs:B.st<;>simp only[hs]at aY jm
             ·split at aY <;>simp at aY; rename_i h;exact⟨h,aY⟩
             ·split at aY <;>simp at aY; rename_i h;exact⟨h,aY⟩
             ·exact absurd rfl jm
             ·split at aY <;>simp at aY; rename_i h;exact⟨h,aY⟩
            obtain⟨rfl,rfl⟩:=hu;simp[ar]
           ·have nI : alive X D lo b:=by
             rcases(wC b).1 ha with h|h
             ·exact h
             ·rw[hlen]at h;simp at h;omega
            simp only[ar];rw[if_neg (by omega)]
            simp only[vB,nI, if_true];simp only[af,e0,if_false]at aY;exact aY
          ·rw[k6]at fL
           rcases fL with⟨rfl,rfl⟩|⟨h1,h2⟩
           ·exact⟨(wC _).2 (.inr ⟨Nat.le_refl _,by rw[hlen];simp⟩),B,mL,Nat.le_refl _⟩
           ·exact⟨(wC _).2 (.inl h1),h2⟩
         ·obtain⟨uy,k5,k6⟩:=k4
          refine⟨λq=>if(X.st i).σ.length<=q/\q<(X.st (i+1)).σ.length then uy (q-(X.st i).σ.length)else ids q,λb u e ha aY =>?_,λb u fL=>?_⟩
          ·rw[k5]
           dsimp only
           by_cases e0:(X.st i).σ.length<=b/\b<(X.st (i+1)).σ.length
           ·rw[if_pos (by omega)]
            simp only[af,hblk b e0.1 e0.2,e0,and_self,if_true]at aY;exact aY
           ·have nI : alive X D lo b:=by
             rcases(wC b).1 ha with h|h
             ·exact h
             ·exact absurd h e0
            rw[if_neg (by omega)]
            simp only[vB,nI, if_true];simp only[af,e0,if_false]at aY;exact aY
          ·rw[k6]at fL
           rcases fL with⟨h1,B', h2,h3⟩|⟨h1,h2⟩
           ·have aK:b-(X.st i).σ.length<bs.length:=by rw[dp]at h2;exact(List.getElem?_eq_some_iff.1 h2).1
            exact⟨(wC _).2 (.inr ⟨h1,by omega⟩),B', by rw[hblk b h1 (by omega)];exact h2,h3⟩
           ·exact⟨(wC _).2 (.inl h1),h2⟩
        refine⟨C', f,h.after hi hD hb ho k1 (hg2.2.trans k2) BV (by rw[fc];exact k3) (λm hm=>by rw[rF]at hm;simp at hm) (.inr ⟨lo,hh,⟨hG.o5,hG.LJ,hG.le,λe h1 h2=>.inl (hG.before e h1 h2),λe h1 h2 h3=>?_,vk⟩,i,he,o6,.inr rfl⟩)⟩
        rcases h3 with h3|rfl
        ·exact hG.behind e h1 h2 h3
        ·omega
     |false=>
      have he:aV X.ls i=false:=by simp[aV,hl,hE,NP]
      have hpn:=Nz hE fP;subst hpn;cases hP:l.op.jI with
      |false=>
       have BV:lR X.ls i=none:=by
        cases ht:lR X.ls i with
        |none=>rfl
        |some t=>
         obtain⟨_,_,l', _,_,_,_,cw, _,cZ,_⟩:=X.fG ht;rw[hl]at cw; simp at cw; subst cw;rw[cZ]at hP;simp[cW.jI]at hP
       have rF:eC X.ls i=none:=by
        unfold eC;simp only[hl];split
        ·rename_i m cZ;rw[cZ]at hP;simp[cW.jI]at hP
        ·rfl
       refine opR hF.op hP hE NP X.dM h.good (h.Z9 hi hD hb hl hF hE NP hP) hR fP _ Q λv' w' hp=>?_;obtain⟨I', k1,k2,k3⟩:=hp;exact⟨_,f,h.after hi hD hb ho k1 k2 BV (by rw[fc];exact k3) (λm hm=>by rw[rF]at hm;simp at hm) (h.fr.sR he I')⟩
      |true=>
       cases ht:lR X.ls i with
       |some t=>
        obtain⟨_,o', l', d,x,m,aY, cw, _,cZ,xH, Ia,hd,LL,lD,ND,NF⟩:=X.fG ht;rw[hl]at cw; simp at cw; subst cw;rw[ho]at aY; simp at aY; subst aY;have Z3:∀i', D i' ->lR X.ls i' ≠ some t:=λi' dx e=>hD (X.vz ht e▸dx);obtain⟨s,id,c,el,k1,k2,k3,k4,k5,k6,k7⟩:=h.lb t m (hb _ ND) lD Z3;rw[cZ]at fP;simp only[ev]at fP;split at fP
        case isFalse=>simp at fP
        rename_i hc;simp only[Bool.and_eq_true,beq_iff_eq]at hc;simp at fP;have wz :=hF.op;rw[cZ]at wz;obtain⟨y,q1,q2⟩:=opI wz (w:=w) (a:=a) (C:=C) (r:=rv X.vars (X.st i).env) (id:=id) (c:=c) (el:=el) (λq hq=>by
         unfold qJ at hq;split at hq
         ·rename_i s' d' heq
          simp only[Rf.t.injEq]at heq;subst heq;simp only[Bool.and_eq_true,beq_iff_eq]at hq;have gV :=hq.1.2;rw[<-LL]at gV;simp only[js,aaa lD,k1,Option.some.injEq]at gV;subst gV;exact k2
         all_goals (rename_i heq;first|(simp at heq;done)|(simp at hq;done)|skip)) k6 k7 (λq hq=>hR q x hq) hc.1 hc.2
        refine q2 _ Q λv' w' hp=>?_;obtain⟨c', rfl,z1,z2⟩:=hp;rw[Ia];exact⟨_,f,h.fill hi hD hb hl cZ ht (by rw[fc,<-fP]) hc.1 q1 k1 k2 k3 k4 k5 k6 z1 z2⟩
       |none=>
        cases lD:eC X.ls i with
        |some m=>
         have cZ:l.op = .gH m:=by
          unfold eC at lD;simp only[hl]at lD;split at lD
          ·rename_i m' cZ;simp at lD;rw[cZ,lD]
          ·simp at lD
         have wz :=hF.op;rw[cZ]at wz fP;simp[ev]at fP;have NC:=hF.kK;simp only[oV,cZ,Bool.and_eq_true]at NC;obtain⟨s,hs⟩:=Option.isSome_iff_exists.1 NC.2;refine opA (w:=w) (a:=a) (C:=C) wz h.good _ Q λv' w' hp=>?_;obtain⟨p1,p2,id,c,el,p3⟩:=hp;exact⟨C,f,h.after hi hD hb ho p1 p2 ht (by rw[fc,<-fP];unfold VR;trivial) (λm' nM =>by
          rw[lD]at nM; simp at nM; subst nM;exact⟨⟨s,hs⟩,id,c,el,p3⟩) (h.fr.sR he C.I)⟩
        |none=>
         have yB:l.op.nh=false:=by
          cases cZ:l.op with
          |gH m=>simp[eC,hl,cZ]at lD
          |kK p x n=>
           have:=hF.kK;cases p with
           |t d=>simp[lR,hl,cZ]at ht
           |v k=>simp[oV,cZ]at this
           |c x=>simp[oV,cZ]at this
          |_=>rfl
         obtain⟨q1,_⟩:=opP (w:=w) (a:=a) (C:=C) hF.op hP yB X.dM X.jz h.good hR rfl fP;refine q1 _ Q λv' w' hp=>?_;obtain⟨I', k1,k2,k3⟩:=hp;exact⟨_,f,h.after hi hD hb ho k1 k2 ht (by rw[fc];exact k3) (λm hm=>by rw[lD]at hm;simp at hm) (h.fr.sR he I')⟩
end
end Ab
namespace Ab
open Go
variable{P:Program}
structure Rel (sl:List Nat) (nt:Nat) (ds:List Deferred) (s:St) (C:Ctx) (a:Act) (w:World):Prop where
 good:Good C w
 size:a.tmps.size=nt
 defers:a.defers=ds
 vars:∀k t,sl[k]? = some t->VR C w.heap (nth s.vars k) (a.tmps.getD t undef)
 fl:∀t v,s.fl=some (t,v)->VR C w.heap v (a.tmps.getD t undef)
def vC (ops:List Oper) (ls:List Ln) (sl:List Nat) (r:gh):Bool:=
 (r.outs.all λ(k,d)=>decide (d<ls.length)&&match sl[k]? with|some t=>js ops ls (ls.length-1-d)==some t|none=>true) &&
 ((List.range sl.length).all λk=>r.dI.any (·== k)||r.outs.any (·.1==k)||(List.range ls.length).all λj=>match sl[k]?,cY ops j with|some t,some t' =>t != t' | _,_=>true) &&
 (match r.fl with|some (t,d)=>decide (d<ls.length)&&js ops ls (ls.length-1-d)==some t|none=>true)
def yU (P:Program) (draw:Bool) (ops:List Oper) (sl:List Nat) (nt:Nat) (r:gh):Bool:=
 ops.length==r.ls.length&&((List.range r.ls.length).all (uA P draw (NA ops) ops r.ls sl nt))&&vC ops r.ls sl r&&(!draw||ops.all λo=>match o.op with | .select ..=>false|_=>true)
theorem Ig{l:List AV}{k n:Nat}{x:AV}:nth (eV l k x) n=if n=k/\k<l.length then x else nth l n:=by
 rw[sS,aab,sS,List.getElem?_set]
 by_cases e:k=n
 ·subst e
  by_cases h:k<l.length
  ·simp[h]
  ·simp[h,List.getElem?_eq_none (Nat.le_of_not_lt h)]
 ·rw[if_neg e,if_neg (λh=>e h.1.symm)]
theorem NR{Q:AV->Prop}(hu:Q .aM){k:Nat}:∀(ks:List Nat) (vs:List AV),(k∉ks->Q (nth vs k))->Q (nth (dI ks vs) k)
 | [],vs,h=>h (by simp)
 |k' :: ks,vs,h=>by
  unfold dI;refine NR hu ks _ λhk=>?_;rw[Ig]
  by_cases e:k=k' /\k' < vs.length
  ·rw[if_pos e];exact hu
  ·rw[if_neg e]
   by_cases e' : k=k'
   ·have:vs.length<=k:=by omega
    rw[sS,List.getElem?_eq_none this];exact hu
   ·exact h (by simp[e', hk])
theorem NS{Q:AV->Prop}(hu:Q .aM){env:List AV}{k:Nat}:∀(os:List (Nat×Nat)) (vs:List AV),(∀d,(k,d)∈os->Q (nth env d))->((∀d,(k,d)∉os)->Q (nth vs k))->Q (nth (outs env os vs) k)
 | [],vs,_,h=>h (by simp)
 |(k', d')::os,vs,h1,h2=>by
  unfold outs;refine NS hu os _ (λd hd=>h1 d (by simp[hd])) λhn=>?_
  rw[Ig]
  by_cases e:k=k' /\k' < vs.length
  ·rw[if_pos e];exact h1 d' (by simp[e.1])
  ·rw[if_neg e]
   by_cases e' : k=k'
   ·have:vs.length<=k:=by omega
    rw[sS,List.getElem?_eq_none this];exact hu
   ·exact h2 λd hd=>by
     rcases List.mem_cons.1 hd with h|h
     ·simp at h;exact e' h.1
     ·exact hn d h
section
variable{X:RC P}{C0:Ctx}{w0:World}{ds:List Deferred}
theorem Inv.full{D:Nat->Prop}{C:Ctx}{f:Nat}{a:Act}{w:World}(h:Inv X C0 w0 ds D C f a w) (hD:∀j,j<X.ls.length->D j){r:gh}(hr:r.ls=X.ls) (BW:vC X.ops X.ls X.sl r=true){vs:List AV}
  (yV:vs=X.vars) (fl:Option (Nat×AV)) (A7:fl=match r.fl with|some (t,d)=>some (t,nth (X.st X.ls.length).env d)|none=>none) :
  ∃ids I,Rel X.sl X.nt ds {vars:=dI r.dI (outs (X.st X.ls.length).env r.outs vs),fl,σ:=(X.st X.ls.length).σ} (af (X.st X.ls.length).σ ids I) a w/\Step C0 w0 (af (X.st X.ls.length).σ ids I) w:=by
 subst yV;obtain⟨f,hN⟩:∃f,iO X D C f:=by
  rcases h.fr with hN|⟨lo,hi,hG,_⟩
  ·exact⟨_,hN⟩
  ·exact⟨_,hG.done λk hk _=>hD k (X.eX hk)⟩
 have NM:(X.st X.ls.length).σ=(X.st f).σ:=(X.oY (p:=f) hN.ZW (Nat.le_refl _) λj h1 h2=>by
  cases hj:aV X.ls j with
  |false=>rfl
  |true=>exact absurd (hD j h2) (hN.hi j h1 hj)).1
 obtain⟨ids,g1,g2⟩:=hN.gA.take h.good;rw[NM];refine⟨ids,C.I,⟨g1,h.size,h.defers,λk t hk=>?_,λt v hv=>?_⟩,h.step.trans g2⟩
 ·simp only[vC,Bool.and_eq_true,List.all_eq_true,decide_eq_true_eq]at BW
  obtain⟨⟨e1,e2⟩,_⟩:=BW;refine NR (Q:=λx=>VR (af (X.st f).σ ids C.I) w.heap x (a.tmps.getD t undef)) (by unfold VR;trivial) _ _ λNT=>?_
  refine NS (Q:=λx=>VR (af (X.st f).σ ids C.I) w.heap x (a.tmps.getD t undef)) (by unfold VR;trivial) _ _ (λd hd=>?_) λoG=>?_
  ·have:=e1 _ hd
   simp only[hk,beq_iff_eq]at this;rw[X.vy (Nat.le_refl _) this.1];exact VR.mono g2.ev _ _ (h.tv _ t (hD _ (by omega)) this.2)
  ·have vD:k<X.sl.length:=(List.getElem?_eq_some_iff.1 hk).1
   have:=e2 k (List.mem_range.2 vD);simp only[Bool.or_eq_true,List.any_eq_true,beq_iff_eq,List.all_eq_true,List.mem_range]at this;rcases this with(⟨x,hx,rfl⟩|⟨x,hx,rfl⟩)|hd
   ·exact absurd hx NT
   ·exact absurd hx (oG x.2)
   ·refine VR.mono g2.ev _ _ (h.vv k t hk λj hj hdj=>?_)
    have:=hd j (h.below j hj);simp[hk,hdj]at this
 ·simp only[vC,Bool.and_eq_true,List.all_eq_true,decide_eq_true_eq]at BW
  obtain⟨_,e3⟩:=BW;subst A7;simp only at hv;cases hrf:r.fl with
  |none=>simp[hrf]at hv
  |some td=>
   obtain⟨t', d⟩:=td;simp only[hrf,Option.some.injEq,Prod.mk.injEq]at hv;obtain⟨rfl,rfl⟩:=hv;simp only[hrf,Bool.and_eq_true,decide_eq_true_eq,beq_iff_eq]at e3;rw[X.vy (Nat.le_refl _) e3.1];exact VR.mono g2.ev _ _ (h.tv _ t' (hD _ (by omega)) e3.2)
theorem aac{i:Nat}{D:Nat->Prop}(sT:X.draw=true){o:Oper}{l:Ln}(ho:X.ops[i]? = some o) (hF:sQ X i o l) (gG:∀i j,D j->lQ X.draw X.bf i j=true->D i)
  (hd:∀e∈o.after.toList,Region.binds .any e=true->D e.on):∀j,lQ X.draw X.bf j i=true->D j:=λj hj=>by
 have hb:=hF.bf;simp only[BT,sT,if_true,Bool.and_eq_true,beq_iff_eq]at hb;have tT :=hj;simp only[lQ,sT,if_true,hb.1,Option.getD_some]at tT;rcases NB X.bf j o.after.toList 0 tT with h|⟨e,h1,h2,h3⟩
 ·simp at h
 ·rcases h3 with rfl|h3
  ·exact hd e h1 h2
  ·exact gG j e.on (hd e h1 h2) (by simp only[lQ,sT,if_true];exact h3)
theorem Inv.mk0{ids:Nat->Nat}{I:Nat->Prop}{s:St}{a:Act}{w:World}(hv:X.vars=s.vars) (NM:X.fj=s.σ) (h:Rel X.sl X.nt ds s (af s.σ ids I) a w):Inv X (af s.σ ids I) w ds (λ_=>False) (af s.σ ids I) 0 a w:=by
 refine⟨h.good,Step.refl _ _,h.size,h.defers,λ_ h=>h.elim,λ_ _ h=>h.elim,λ_ _ h=>h.elim,λk t hk _=>by rw[hv];exact h.vars k t hk,λ_ _ h=>h.elim,λ_ _ _ _ _ _ _ h=>h.elim,.inl ⟨Nat.zero_le _,λ_ h=>absurd h (Nat.not_lt_zero _),λ_ _ _ h=>h,?_,λh=>absurd h (Nat.lt_irrefl _)⟩⟩
 rw[X.st0,NM];exact Nw _ _ _
theorem NU{Q:Exit->Act->World->Prop}(sT:X.draw=false) (hQ:∀D C f a w,Inv X C0 w0 ds D C f a w->(∀j,j<X.ls.length->D j)->Q .normal a w) :
  ∀(k:Nat) (D:Nat->Prop) (C:Ctx) (f:Nat) (a:Act) (w:World),k<=X.ls.length->(∀j,D j↔j<X.ls.length-k)->Inv X C0 w0 ds D C f a w->wpOps P X.ops.toArray Q (List.range' (X.ls.length-k) k) a w
 |0,D,C,f,a,w,_,hD,h=>by
  simp only[List.range'_zero,wpOps];exact hQ D C f a w h λj hj=>(hD j).2 (by omega)
 |k+1,D,C,f,a,w,hk,hD,h=>by
  rw[List.range'_succ,wpOps_cons];have e:X.ls.length-(k+1)+1=X.ls.length-k:=by omega
  rw[e];have yN:∀j,lQ X.draw X.bf j (X.ls.length-(k+1))=true->D j:=λj hj=>(hD j).2 (by
   simp only[lQ,sT,Bool.false_eq_true,if_false,decide_eq_true_eq]at hj;exact hj)
  refine wpOp_mono (λa' w' ⟨C', f', h'⟩=>NU sT hQ k _ C' f' a' w' (by omega) (λj=>?_) h') (h.next (i:=X.ls.length-(k+1)) (by omega) (λhd=>by have:=(hD _).1 hd;omega) yN Q)
  ·constructor
   ·rintro(q|rfl)
    ·have:=(hD j).1 q;omega
    ·omega
   ·intro q
    by_cases e' : j=X.ls.length-(k+1)
    ·exact .inr e'
    ·exact .inl ((hD j).2 (by omega))
theorem aad{Q:Exit->Act->World->Prop}(sT:X.draw=true) (hQ:∀D C f a w,Inv X C0 w0 ds D C f a w->(∀j,j<X.ls.length->D j)->Q .normal a w) :
  ∀(k:Nat) (bT:Array Bool) (C:Ctx) (f:Nat) (a:Act) (w:World),bT.size=X.ls.length->(bT.toList.filter (·== false)).length<=k->Inv X C0 w0 ds (λj=>bT[j]? = some true) C f a w->
   wpAny P .any X.ops.toArray Q k bT a w:=by
 have oF:∀(bT:Array Bool),bT.size=X.ls.length->Region.ready .any X.ops.toArray bT=[]->∀j,j<X.ls.length->bT[j]? = some true:=by
  intro bT hs hr j
  induction j using Nat.strongRecOn with
  |ind j ih=>
   intro hj;obtain⟨o,l,ho,hl,hF⟩:=X.at_ hj;have hb:=hF.bf;simp only[BT,sT,if_true,Bool.and_eq_true,List.all_eq_true,Bool.or_eq_true,Bool.not_eq_true', decide_eq_true_eq]at hb;have NV:j∉Region.ready .any X.ops.toArray bT:=by rw[hr];simp
   simp only[Region.ready,List.mem_filter,List.mem_range,List.size_toArray,X.len,Array.getD_eq_getD_getElem?,List.getElem?_toArray,ho,Option.map_some,Option.getD_some,Bool.and_eq_true,Bool.not_eq_true', not_and]at NV;cases NW:bT[j]? with
   |none=>rw[Array.getElem?_eq_none_iff]at NW;omega
   |some b=>
    cases b with
    |true=>rfl
    |false=>
     exfalso;refine absurd ?_ (NV hj (by rw[NW];rfl))
     rw[<-Array.all_toList];simp only[List.all_eq_true,Bool.or_eq_true,Bool.not_eq_true'];intro e he;cases LO:Region.binds .any e with
     |false=>exact .inl rfl
     |true=>
      right;have aK:e.on<j:=(hb.2 e he).resolve_left (by rw[LO];simp)
      rw[ih e.on aK (by omega)];rfl
 have eZ:∀(bT:Array Bool) i,bT.size=X.ls.length->i∈Region.ready .any X.ops.toArray bT->i<X.ls.length/\bT[i]? = some false/\∀o,X.ops[i]? = some o->∀e∈o.after.toList,Region.binds .any e=true->bT[e.on]? = some true:=by
  intro bT i hs hi;simp only[Region.ready,List.mem_filter,List.mem_range,List.size_toArray,X.len,Array.getD_eq_getD_getElem?,List.getElem?_toArray,Bool.and_eq_true,Bool.not_eq_true']at hi;obtain⟨h1,h2,h3⟩:=hi;refine⟨h1,?_,λo ho e he LO=>?_⟩
  ·cases hli:bT[i]? with
   |none=>rw[Array.getElem?_eq_none_iff]at hli;omega
   |some b=>rw[hli]at h2;simp at h2;rw[h2]
  ·rw[ho]at h3
   simp only[Option.map_some,Option.getD_some]at h3;rw[<-Array.all_toList]at h3;simp only[List.all_eq_true,Bool.or_eq_true,Bool.not_eq_true']at h3;rcases h3 e he with h|h
   ·rw[LO]at h;simp at h
   ·cases hle:bT[e.on]? with
    |none=>rw[hle]at h;simp at h
    |some b=>rw[hle]at h;simp at h;rw[h]
 intro k
 induction k with
 |zero=>
  intro bT C f a w hs hk h;have fK:∀j,j<X.ls.length->bT[j]? = some true:=λj hj=>by
   cases NW:bT[j]? with
   |none=>rw[Array.getElem?_eq_none_iff]at NW;omega
   |some b=>
    cases b with
    |true=>rfl
    |false=>
     have:false∈bT.toList.filter (·== false):=by
      rw[List.mem_filter];exact⟨by rw[Array.mem_toList_iff];exact Array.mem_of_getElem? NW,rfl⟩
     have:=List.length_pos_of_mem this;omega
  refine⟨?_,hQ _ C f a w h fK⟩;cases hr:Region.ready .any X.ops.toArray bT with
  |nil=>rfl
  |cons i r=>
   obtain⟨h1,h2,_⟩:=eZ bT i hs (by rw[hr];simp)
   rw[fK i h1]at h2;simp at h2
 |succ k ih=>
  intro bT C f a w hs hk h;refine⟨λhr=>hQ _ C f a w h (oF bT hs hr),λi hi=>?_⟩;obtain⟨h1,h2,h3⟩:=eZ bT i hs hi;obtain⟨o,l,ho,hl,hF⟩:=X.at_ h1;have Ih:i<bT.size:=by omega
  refine wpOp_mono (λa' w' ⟨C', f', h'⟩=>ih _ C' f' a' w' (by simp[hs]) ?_ ?_) (h.next h1 (by rw[h2];simp) (aac sT ho hF h.closed (h3 o ho)) Q)
  ·have eS:(bT.setIfInBounds i true).toList=bT.toList.set i true:=by simp
   rw[eS];have aae:∀(l:List Bool) (n:Nat),l[n]? = some false->((l.set n true).filter (·== false)).length+1=(l.filter (·== false)).length:=by
    intro l
    induction l with
    |nil=>intro n hn;simp at hn
    |cons x r ih=>
     intro n hn;cases n with
     |zero=>simp at hn;subst hn;simp
     |succ n=>
      simp at hn;have:=ih n hn;cases x<;>simp_all
   have:=aae bT.toList i (by rw[Array.getElem?_toList];exact h2)
   omega
  ·have:(λj=>bT[j]? = some true\/j=i)=λj=>(bT.setIfInBounds i true)[j]? = some true:=by
    funext j
    rw[Array.getElem?_setIfInBounds]
    by_cases e:i=j
    ·subst e;simp[Ih]
    ·have e' : j ≠ i:=λq=>e q.symm
     simp[e,e']
   rw[<-this];exact h'
end
theorem aaf{draw:Bool}{ops:List Oper}{sl:List Nat}{nt:Nat}{r:gh}{ce:CE}{s s' : St}{id:Nat}{ds:List Deferred}{ids:Nat->Nat}{I:Nat->Prop}{a:Act}{w:World}{Q:Exit->Act->World->Prop}(hm:P.follows .mixedOrders=true)
  (au:yU P draw ops sl nt r=true) (dM:cz P ce) (jz:dZ P ce) (hr:dq ce r s=some s') (h:Rel sl nt ds s (af s.σ ids I) a w)
  (hQ:∀aJ I' a' w', Rel sl nt ds s' (af s'.σ aJ I') a' w' ->Step (af s.σ ids I) w (af s'.σ aJ I') w' ->Q .normal a' w'):(Code.region id ops.toArray draw).wp P Q a w:=by
 simp only[yU,Bool.and_eq_true,beq_iff_eq,List.all_eq_true,List.mem_range]at au;obtain⟨⟨⟨o1,o2⟩,o3⟩,_⟩:=au;unfold dq at hr;cases hl:lines ce s.vars r.ls ⟨[],s.σ,s.σ⟩with
 |none=>simp[hl]at hr
 |some q=>
  simp only[hl,Option.some.injEq]at hr;obtain⟨st,e0,en,bV⟩:=Nx hl
  let X:RC P:=⟨draw,NA ops,ops,r.ls,sl,nt,ce,s.vars,s.σ,st,o1,o2,e0,bV,dM,jz⟩
  have fin:∀(w1:World) (hw:Step (af s.σ ids I) w (af s.σ ids I) w1) D C f a w', Inv X (af s.σ ids I) w1 ds D C f a w' ->(∀j,j<X.ls.length->D j)->Q .normal a w' :=by
   intro w1 hw D C f a' w' hi hD;obtain⟨aJ, I', k1,k2⟩:=hi.full hD (r:=r) rfl o3 (vs:=s.vars) rfl _ rfl;have e:(X.st X.ls.length)=q:=en;rw[e]at k1 k2;rw[<-hr]at hQ;exact hQ aJ I' a' w' k1 (hw.trans k2)
  cases draw with
  |false=>
   refine wp_region ?_;have:=NU (X:=X) (Q:=Q) rfl (fin w (Step.refl _ _)) X.ls.length (λ_=>False) _ 0 a w (Nat.le_refl _) (λj=>by simp) (Inv.mk0 rfl rfl h)
   rw[Nat.sub_self]at this;rw[List.size_toArray,o1,List.range_eq_range'];exact this
  |true=>
   refine wp_region_any hm ?_;have hd:Step (af s.σ ids I) w (af s.σ ids I) {w with drawn:=w.drawn+1}:=⟨fR.refl _ _,Nat.le_refl _,λ_ _ _=>rfl,λ_ h=>.inl h,λ_ h=>.inl h,rfl,⟨rfl,Nat.le_succ _⟩,rfl⟩
   have h' : Rel sl nt ds s (af s.σ ids I) a {w with drawn:=w.drawn+1}:=⟨⟨h.good.I,h.good.kU,h.good.live,h.good.apart,h.good.maps⟩,h.size,h.defers,h.vars,h.fl⟩
   rw[List.size_toArray,o1];refine aad (X:=X) rfl (fin _ hd) r.ls.length (Array.replicate r.ls.length false) (af s.σ ids I) 0 a _ (by simp[X]) (Nat.le_trans (List.length_filter_le _ _) (by simp)) ?_
   have e:(λ_:Nat=>False)=λj:Nat=>(Array.replicate r.ls.length false)[j]? = some true:=by
    funext j
    simp[Array.getElem?_replicate]
   rw[<-e];exact Inv.mk0 rfl rfl h'
end Ab
namespace Ab
open Go
theorem nS{p:Nat->Bool}:∀{σ:List ag}{n b:Nat},al (bQ p n σ) b=(al σ b).map λB=>if p (n+b)then⟨B.k,B.cells,.dead⟩else B
 | [],_,_=>rfl
 |B::r,n,0=>by simp[bQ,al]
 |B::r,n,b+1=>by
  simp only[bQ,al];rw[nS,show n+1+b=n+(b+1)by omega]
theorem o7{p:Nat->Bool}{σ:List ag}{ids:Nat->Nat}{I I' : Nat->Prop}{b u:Nat}{e:ag×Nat}:(af (bQ p 0 σ) ids I').own b u=some e↔p b=false/\(af σ ids I).own b u=some e:=by
 simp only[af,nS,Nat.zero_add];cases hb:al σ b with
 |none=>simp
 |some B=>
  simp only[Option.map_some];cases hp:p b with
  |true=>simp
  |false=>simp
theorem Ii{p:Nat->Bool}{σ:List ag}{ids aJ : Nat->Nat}{I I' : Nat->Prop}{b u:Nat}:(af (bQ p 0 σ) ids I').lim b u↔(af σ aJ I).lim b u:=by
 simp only[af,nS,Nat.zero_add];cases hb:al σ b with
 |none=>simp
 |some B=>
  cases hp:p b<;>simp[hp]
theorem aag{σ:List ag}{ids:Nat->Nat}{I:Nat->Prop}{w:World}{x y:AV}{v:Value}(p:Nat->Bool) (hg:Good (af σ ids I) w) (hv:view (bQ (λb=>!p b) 0 σ) false vd x=some y) (hx:VR (af σ ids I) w.heap x v) :
  ∃I', Good (af (bQ p 0 σ) ids I') w/\Step (af σ ids I) w (af (bQ p 0 σ) ids I') w/\VR (af (bQ p 0 σ) ids I') w.heap y v:=by
 let I' : Nat->Prop:=λk=>I k\/owned (af (bQ (λb=>!p b) 0 σ) ids I) k
 obtain⟨g1,g2⟩:=Good.shrink (C2:=af (bQ (λb=>!p b) 0 σ) ids I) hg rfl (λb u e h=>(o7.1 h).2) (λb u h=>Ii.2 h);have hOI:∀k,owned (af (bQ (λb=>!p b) 0 σ) ids I) k->owned (af σ ids I) k:=λk ⟨b,u,B,h,hl⟩=>⟨b,u,B,(o7.1 h).2,hl⟩;have ev:fR (af σ ids I) w.heap (af (bQ p 0 σ) ids I') w.heap:=by
  refine⟨λk hk=>.inl hk,λ_ _=>rfl,λb u h=>Ii.2 h,λb u B' id _ ho=>⟨B', (o7.1 ho).2,rfl,rfl,λc el hc=>⟨c,hc,rfl⟩⟩⟩
 refine⟨I', ⟨λk hk=>hk.elim (hg.I k) λh=>hg.lt (hOI k h),λb u B id ho=>?_,λb u B id ho hl=>?_,λb1 u1 B1 i1 b2 u2 B2 i2 h1 l1 h2 l2 b8=>hg.apart _ _ _ _ _ _ _ _ (o7.1 h1).2 l1 (o7.1 h2).2 l2 b8,λb u B id es ho hl=>?_⟩,
  ⟨ev,Nat.le_refl _,λ_ _ _=>rfl,λk ⟨b,u,B,h,hl⟩=>.inl ⟨b,u,B,(o7.1 h).2,hl⟩,λk hk=>hk.elim .inl λh=>.inr (.inl (hOI k h)),rfl,⟨rfl,Nat.le_refl _⟩,rfl⟩,?_⟩
 ·obtain⟨h1,h2,h3,h4⟩:=hg.kU b u B id (o7.1 ho).2
  exact⟨Ii.2 h1,h2,h3,h4⟩
 ·obtain⟨q1,q2⟩:=(o7 (I:=I)).1 ho
  obtain⟨h1,c,el,h2,h3,h4⟩:=hg.live b u B id q2 hl;refine⟨λhk=>?_,c,el,h2,h3,λi x hi=>?_⟩
  ·rcases hk with hk|⟨b', u', B', aY, cw⟩
   ·exact h1 hk
   ·obtain⟨r1,r2⟩:=(o7 (I:=I)).1 aY
    have sA:b' ≠ b:=λe=>by
     subst e;rw[q1]at r1;simp at r1
    exact hg.apart _ _ _ _ _ _ _ _ r2 cw q2 (lJ hl) sA rfl
  ·obtain⟨y,k1,k2,k3⟩:=h4 i x hi
   exact⟨y,k1,VR.mono ev _ _ k2,k3⟩
 ·obtain⟨q1,q2⟩:=(o7 (I:=I)).1 ho
  refine hg.da (C' :=af (bQ p 0 σ) ids I') ev q2 hl rfl λhk=>?_;rcases hk with hk|⟨b', u', B', aY, cw⟩
  ·exact(hg.maps b u B id es q2 hl).1 hk
  ·obtain⟨r1,r2⟩:=(o7 (I:=I)).1 aY
   have sA:b' ≠ b:=λe=>by
    subst e;rw[q1]at r1;simp at r1
   exact hg.apart _ _ _ _ _ _ _ _ r2 cw q2 (lE hl) sA rfl
 ·exact(Br (C2:=af (bQ p 0 σ) ids I') (λb u B _ hu=>⟨_,lF ids I hu⟩) g1 (fr:=false) ⟨λ_ k hk=>.inl hk,λk hk=>.inr hk⟩ vd x y v hv (VR.mono g2.ev _ _ hx)).2
def NX:AV->AV
 |.aE _ l=>.aE true l
 |x=>x
theorem aah{σ:List ag}{ids:Nat->Nat}{I:Nat->Prop}{w:World}{x y:AV}{v:Value}{C2:Ctx}(hs:gZ σ x=true) (hx:VR (af σ ids I) w.heap x v) (hy:VR C2 w.heap y v) :
  VR C2 w.heap (NX y) v:=by
 have b8:v ≠ .slice none 0 0:=by
  cases x<;>simp only[gZ]at hs<;>try(simp at hs;done)
  ·rename_i nn l
   subst hs;unfold VR at hx;rcases hx.2 with⟨_,a,h,hs⟩|⟨_,_,_,_,_,_,_,h,_⟩
   ·obtain⟨q,rfl⟩:=Option.isSome_iff_exists.1 (hs rfl);rw[h];simp
   ·rw[h];simp
  ·rename_i b u off len
   cases hu:upto σ b u with
   |none=>simp[hu]at hs
   |some B=>
    simp only[hu]at hs;have hl:B.st = .live:=by revert hs;cases B.st<;>simp
    unfold VR at hx;have:=hx.2.2 B _ (lF ids I hu);rw[hl]at this;obtain⟨c,el,o,cap,_,e,_⟩:=this;rw[e];simp
 cases y with
 |aE nn l=>
  unfold NX;unfold VR at hy ⊢;refine⟨hy.1,?_⟩;rcases hy.2 with h|h
  ·obtain⟨h1,a,h2,_⟩:=h
   refine .inl ⟨h1,a,h2,λ_=>?_⟩;cases a with
   |none=>exact absurd h2 b8
   |some q=>rfl
  ·exact .inr h
 |_=>exact hy
theorem BX{C C2:Ctx}{H:Array Obj}{q:AV->Bool}(hq:∀x v,q x=true->VR C H x v->VR C2 H x v):∀{l:List AV}{vs:List Value},l.all q=true->cm C H l vs->cm C2 H l vs
 | [],_,_,h=>h
 |x::r,_,ha,⟨v,s,e,hx,hr⟩=>by
  simp only[List.all_cons,Bool.and_eq_true]at ha;exact⟨v,s,e,hq x v ha.1 hx,BX hq ha.2 hr⟩
theorem aai{C C2:Ctx}{H:Array Obj}{m:Nat}(hI:C2.I=C.I) (ho:∀b u e,b<m->C2.own b u=some e->C.own b u=some e) (hl:∀b u,b<m->C.lim b u->C2.lim b u) :
  ∀(x:AV) (v:Value),lP m x=true->VR C H x v->VR C2 H x v:=by
 have sU:oC C H C2 H:=⟨λk h=>by rw[hI];exact h,λ_ _=>rfl⟩
 have gB:∀b u off len v,b<m->VR C H (.sl b u off len) v->VR C2 H (.sl b u off len) v:=λb u off len v hb h=>by
  unfold VR at h ⊢;exact⟨h.1,hl b u hb h.2.1,λB id NY=>h.2.2 B id (ho b u _ hb NY)⟩
 have xL:∀b u off v,b<m->VR C H (.ptr b u off) v->VR C2 H (.ptr b u off) v:=λb u off v hb h=>by
  unfold VR at h ⊢;exact⟨h.1,hl b u hb h.2.1,λB id NY=>h.2.2 B id (ho b u _ hb NY)⟩
 have NZ:∀b v,b<m->VR C H (.cQ b) v->VR C2 H (.cQ b) v:=λb v hb h=>by
  unfold VR at h ⊢;exact⟨h.1,hl b 0 hb h.2.1,λB id NY=>h.2.2 B id (ho b 0 _ hb NY)⟩
 have sr:∀(x:AV) v,wq m x=true->VR C H x v->VR C2 H x v:=λx v hx h=>by
  cases x with
  |cQ b=>exact NZ b v (by simpa[wq]using hx) h
  |sl b u off len=>exact gB b u off len v (by simpa[wq]using hx) h
  |ptr b u off=>exact xL b u off v (by simpa[wq]using hx) h
  |aM=>unfold VR;trivial
  |_=>exact VR.free sU _ _ (by simpa[wq]using hx) h
 intro x v hx h;cases x with
 |sl b u off len=>exact gB b u off len v (by simpa[lP]using hx) h
 |ptr b u off=>exact xL b u off v (by simpa[lP]using hx) h
 |cQ b=>exact NZ b v (by simpa[lP]using hx) h
 |aM=>unfold VR;trivial
 |arr l=>simp[lP]at hx
 |agg l=>
  unfold VR at h ⊢;obtain⟨vs,e,cw, hc⟩:=h;exact⟨vs,e,BX sr hx cw, hc⟩
 |bS l=>
  unfold VR at h ⊢;obtain⟨vs,e,cw⟩:=h;exact⟨vs,e,BX sr hx cw⟩
 |func f l=>
  unfold VR at h ⊢;obtain⟨vs,e,cw⟩:=h;exact⟨vs,e,BX sr hx cw⟩
 |iface t y=>exact VR.free sU _ _ (by simpa[lP,aO]using hx) h
 |aE nn l=>
  have:ay l=true:=by unfold VR at h;exact h.1
  exact VR.free sU _ _ (by simpa[aO]using this) h
 |bd y=>
  have:aO y=true:=by unfold VR at h;exact h.1
  exact VR.free sU _ _ (by simpa[aO]using this) h
 |_=>exact VR.free sU _ _ rfl h
theorem Ij{n:Nat}:∀{m:Nat}{σ:List ag},ux n m σ=true->∀b B,b<m->al σ b=some B->B.cells.all (lP n)=true/\Nv n B.st=true
 |0,_,_,b,_,hb,_=>absurd hb (Nat.not_lt_zero b)
 |m+1,[],_,b,B,_,h=>by simp[al]at h
 |m+1,B0::r,h,b,B,hb,hB=>by
  simp only[ux,Bool.and_eq_true]at h;cases b with
  |zero=>simp[al]at hB;subst hB;exact h.1
  |succ b=>exact Ij h.2 b B (by omega) (by simpa[al]using hB)
theorem N0{σ:List ag}{m b:Nat}:al (σ.take m) b=if b<m then al σ b else none:=by
 rw[dp,dp,List.getElem?_take]
theorem aaj{σ bp : List ag}{ids aJ : Nat->Nat}{I I' : Nat->Prop}{w w' : World}(hg:Good (af bp aJ I') w') (hs:Step (af σ ids I) w (af bp aJ I') w') (hl:ux σ.length σ.length bp = true) :
  Good (af (bp.take σ.length) aJ I') w' /\Step (af σ ids I) w (af (bp.take σ.length) aJ I') w' /\∀x v,lP σ.length x=true->VR (af bp aJ I') w'.heap x v->VR (af (bp.take σ.length) aJ I') w'.heap x v:=by
 have bO:∀b u e,(af (bp.take σ.length) aJ I').own b u=some e->b<σ.length/\(af bp aJ I').own b u=some e:=λb u e h=>by
  simp only[af,N0]at h ⊢
  by_cases hb:b<σ.length
  ·simp only[hb,if_true]at h;exact⟨hb,h⟩
  ·simp[hb]at h
 have fL:∀b u,b<σ.length->(af bp aJ I').lim b u->(af (bp.take σ.length) aJ I').lim b u:=λb u hb ⟨B,h1,h2⟩=>⟨B,by rw[N0,if_pos hb];exact h1,h2⟩
 have low:=aai (H:=w'.heap) (m:=σ.length) (C:=af bp aJ I') (C2:=af (bp.take σ.length) aJ I') rfl (λb u e _ h=>(bO b u e h).2) fL;have aK:∀b u,(af σ ids I).lim b u->b<σ.length:=λb u ⟨B,h1,_⟩=>by rw[dp]at h1;exact(List.getElem?_eq_some_iff.1 h1).1
 refine⟨⟨hg.I,λb u B id ho=>?_,λb u B id ho tY=>?_,λb1 u1 B1 i1 b2 u2 B2 i2 h1 l1 h2 l2 b8=>hg.apart _ _ _ _ _ _ _ _ (bO _ _ _ h1).2 l1 (bO _ _ _ h2).2 l2 b8,λb u B id es ho tY=>?_⟩,
  ⟨⟨hs.ev.aE,hs.ev.same,λb u h=>fL b u (aK b u h) (hs.ev.lim b u h),λb u B' id h ho=>hs.ev.own b u B' id h (bO _ _ _ ho).2⟩,hs.size,hs.frame,λk ⟨b,u,B,h,hl⟩=>hs.gd k ⟨b,u,B,(bO _ _ _ h).2,hl⟩,hs.gD,hs.os,hs.tape,hs.output⟩,low⟩
 ·obtain⟨hb,aY⟩:=bO _ _ _ ho
  obtain⟨h1,h2,h3,h4⟩:=hg.kU b u B id aY;exact⟨fL b u hb h1,h2,h3,h4⟩
 ·obtain⟨hb,aY⟩:=bO _ _ _ ho
  obtain⟨h1,c,el,h2,h3,h4⟩:=hg.live b u B id aY tY;obtain⟨hB,_⟩:=yx aY;have fK:=(Ij hl b B hb hB).1;refine⟨h1,c,el,h2,h3,λi x hi=>?_⟩;obtain⟨y,k1,k2,k3⟩:=h4 i x hi;exact⟨y,k1,low x y (List.all_eq_true.1 fK x (List.mem_of_getElem? hi)) k2,k3⟩
 ·obtain⟨hb,aY⟩:=bO _ _ _ ho
  obtain⟨h1,l,c,h2,h3⟩:=hg.maps b u B id es aY tY;obtain⟨hB,_⟩:=yx aY;have fK:=(Ij hl b B hb hB).2;rw[tY]at fK;refine⟨h1,l,c,h2,?_⟩;have go:∀{es:List (AV×AV)} {l:List MapEntry},(es.all λe=>lP σ.length e.2)=true->MR (af bp aJ I') w'.heap es l->MR (af (bp.take σ.length) aJ I') w'.heap es l:=by
   intro es
   induction es with
   |nil=>intro l _ h;exact h
   |cons e es ih=>
    obtain⟨k,x⟩:=e;rintro l ha ⟨e,s,q,⟨k1,k2⟩,x2,hr⟩;simp only[List.all_cons,Bool.and_eq_true]at ha;exact⟨e,s,q,⟨k1,VR.free (show oC (af bp aJ I') w'.heap (af (bp.take σ.length) aJ I') w'.heap from⟨λ_ h=>h,λ_ _=>rfl⟩) _ _ k1 k2⟩,low _ _ ha.1 x2,ih ha.2 hr⟩
  exact go fK h3
end Ab
namespace Ab
open Go
variable{P:Program}
def iR (P:Program) (sl:List Nat) (nt:Nat):IC->Code->Bool
 |.skip,.skip=>true
 |.skip,.label _=>true
 |.bad,_=>true
 |.cut b a,.cond (.const (.bool b')) x y=>b==b' && iR P sl nt a (if b then x else y)
 |.Gp a,.scope x=>iR P sl nt a x
 |.aa r,.region _ ops draw=>yU P draw ops.toList sl nt r
 |.seq a b,c=>match b with
  |.lB k=>decide (k<sl.length)&&iR P sl nt a c
  |_=>match c with
   |.seq x y=>iR P sl nt a x&&iR P sl nt b y
   |_=>false
 |.cond t a b,.cond (.tmp t') x y=>t==t' && iR P sl nt a x&&iR P sl nt b y
 |.kR k a b,.cond (.tmp t) x y=>sl[k]? == some t&&iR P sl nt a x&&iR P sl nt b y
 |.block id a,.block id' x=>id==id' && iR P sl nt a x
 |.loop a,.loop x=>iR P sl nt a x
 |.exit id,.exit id' =>id==id'
 |.ret,.ret=>true
 |.lex a,c=>iR P sl nt a c
 |_,_=>false
def BY:Ex->Exit
 |.ft=>.normal
 |.exit id=>.exit id
 |.ret=>.ret
theorem least{p:Nat->Prop}:∀{n:Nat},p n->∃k,p k/\∀m,m<k->¬p m:=by
 intro n
 induction n using Nat.strongRecOn with
 |ind n ih=>
  intro h
  by_cases hm:∃m,m<n/\p m
  ·obtain⟨m,h1,h2⟩:=hm
   exact ih m h1 h2
  ·exact⟨n,h,λm h1 h2=>hm ⟨m,h1,h2⟩⟩
open Classical in
theorem aak{c:Code}{Q:Exit->Act->World->Prop}{a:Act}{w:World}(J:Nat->Act->World->Prop){k:Nat}(h0:J k a w) (hz:∀a w,¬J 0 a w) (round:∀k a w,J (k+1) a w->c.wp P (Exit.then (J k) Q) a w):(Code.loop c).wp P Q a w:=by
 let μ:Act->World->Nat:=λa w=>if h:∃k,J k a w/\∀m,m<k->¬J m a w then choose h else 0
 have hμ:∀a w k,J k a w->J (μ a w) a w/\μ a w<=k:=λa w k hk=>by
  have h:=least (p:=λk=>J k a w) hk;have e:μ a w=choose h:=dif_pos h;have hs:=choose_spec h;rw[e];exact⟨hs.1,Nat.le_of_not_lt λaK=>hs.2 k aK hk⟩
 refine wp_loop (λa w=>∃k,J k a w) μ ⟨k,h0⟩ λa w ⟨k,hk⟩=>?_;obtain⟨h1,_⟩:=hμ a w k hk;generalize hm:μ a w=m at h1;cases m with
 |zero=>exact absurd h1 (hz a w)
 |succ m=>
  refine wp_mono (round m a w h1) λe a' w' he=>?_;cases e with
  |normal=>exact⟨⟨m,he⟩,Nat.lt_succ_of_le (hμ a' w' m he).2⟩
  |_=>exact he
theorem aal{sl:List Nat}{nt:Nat}{ds:List Deferred}{n:Nat}{ce:CE}(hm:P.follows .mixedOrders=true) (dM:cz P ce) (jz:dZ P ce) :
  ∀(ic:IC) (c:Code) (s:St) (e:Ex) (s' : St) (ids:Nat->Nat) (I:Nat->Prop) (a:Act) (w:World) (Q:Exit->Act->World->Prop),iR P sl nt ic c=true->exec n ce ic s=some (e,s')->Rel sl nt ds s (af s.σ ids I) a w->
   (∀aJ I' a' w', Rel sl nt ds s' (af s'.σ aJ I') a' w' ->Step (af s.σ ids I) w (af s'.σ aJ I') w' ->Q (BY e) a' w')->c.wp P Q a w:=by
 intro ic
 induction ic with
 |skip=>
  intro c s e s' ids I a w Q au he h hQ;cases c<;>try(simp[iR]at au;done)
  ·simp only[exec,Option.some.injEq,Prod.mk.injEq]at he
   obtain⟨rfl,rfl⟩:=he;exact wp_skip (hQ ids I a w h (Step.refl _ _))
  ·simp only[exec,Option.some.injEq,Prod.mk.injEq]at he
   obtain⟨rfl,rfl⟩:=he;exact wp_label (hQ ids I a w h (Step.refl _ _))
 |bad=>
  intro c s e s' ids I a w Q au he h hQ;simp[exec]at he
 |cut b x ih=>
  intro c s e s' ids I a w Q au he h hQ;cases c<;>try(simp[iR]at au;done)
  rename_i c0 x' y';cases c0<;>try(simp[iR]at au;done)
  rename_i v;cases v<;>try(simp[iR]at au;done)
  rename_i b';simp only[iR,Bool.and_eq_true,beq_iff_eq]at au;obtain⟨rfl,au⟩:=au;simp only[exec]at he;refine wp_cond (t:=b) rfl ?_;exact ih _ s e s' ids I a w Q au he h hQ
 |Gp x ih=>
  intro c s e s' ids I a w Q au he h hQ;cases c<;>try(simp[iR]at au;done)
  rename_i c;simp only[iR]at au;simp only[exec]at he;refine wp_scope_straight ?_;refine ih c s e s' ids I a w _ au he h λaJ I' a' w' h' oo =>?_;have:=hQ aJ I' a' w' h' oo;cases e<;>exact this
 |aa r=>
  intro c s e s' ids I a w Q au he h hQ;cases c<;>try(simp[iR]at au;done)
  rename_i id ops draw;simp only[exec]at he;cases hr:dq ce r s with
  |none=>simp[hr]at he
  |some s1=>
   simp only[hr,Option.some.injEq,Prod.mk.injEq]at he;obtain⟨rfl,rfl⟩:=he;simp only[iR]at au;have:=aaf (id:=id) (Q:=Q) hm au dM jz hr h hQ
   rwa [Array.toArray_toList]at this
 |seq x y LP N1=>
  intro c s e s' ids I a w Q au he h hQ;simp only[exec]at he;cases hx:exec n ce x s with
  |none=>simp[hx]at he
  |some es=>
   obtain⟨e1,s1⟩:=es;simp only[hx]at he
   by_cases hf:∃k,y = .lB k
   ·obtain⟨k,rfl⟩:=hf
    simp only[iR,Bool.and_eq_true,decide_eq_true_eq]at au;obtain⟨hk,au⟩:=au;refine LP c s e1 s1 ids I a w Q au hx h λiZ I1 a1 w1 h1 st1=>?_;cases e1 with
    |ft=>
     simp only[exec]at he;split at he
     case h_2=>simp at he
     rename_i v hv;simp only[Option.some.injEq,Prod.mk.injEq]at he;obtain⟨rfl,rfl⟩:=he;have N2 : ∃t,sl[k]? = some t:=⟨_,List.getElem?_eq_getElem hk⟩
     ·obtain⟨t,ht⟩:=N2
      obtain⟨I2,g1,g2,g3⟩:=aag (λb=>(reach s1.σ vd (nth s1.vars k) []).contains b) h1.good hv (h1.vars k t ht);refine hQ iZ I2 a1 w1 ⟨g1,h1.size,h1.defers,λj t' hj=>?_,λt' v' Gs =>VR.mono g2.ev _ _ (h1.fl t' v' Gs)⟩ (st1.trans g2);simp only;rw[Ig]
      by_cases e:j=k/\k<s1.vars.length
      ·rw[if_pos e]
       have:t' = t:=by rw[e.1,ht]at hj;simp at hj;exact hj.symm
       subst this
       by_cases hs:gZ s1.σ (nth s1.vars k)=true
       ·rw[if_pos hs];exact aah hs (h1.vars k t' ht) g3
       ·rw[if_neg hs];exact g3
      ·rw[if_neg e]
       exact VR.mono g2.ev _ _ (h1.vars j t' hj)
    |exit id=>simp only[Option.some.injEq,Prod.mk.injEq]at he;obtain⟨rfl,rfl⟩:=he;exact hQ iZ I1 a1 w1 h1 st1
    |ret=>simp only[Option.some.injEq,Prod.mk.injEq]at he;obtain⟨rfl,rfl⟩:=he;exact hQ iZ I1 a1 w1 h1 st1
   ·have aam : ∃x' y', c = .seq x' y' /\iR P sl nt x x' = true/\iR P sl nt y y' = true:=by
     unfold iR at au;split at au
     ·exact absurd ⟨_,rfl⟩ hf
     ·split at au
      ·simp only[Bool.and_eq_true]at au
       exact⟨_,_,rfl,au.1,au.2⟩
      ·simp at au
    obtain⟨x', y', rfl,N3,N4⟩:=aam;refine wp_seq (LP x' s e1 s1 ids I a w _ N3 hx h λiZ I1 a1 w1 h1 st1=>?_);cases e1 with
    |ft=>exact N1 y' s1 e s' iZ I1 a1 w1 Q N4 he h1 λaJ I' a' w' h' oo =>hQ aJ I' a' w' h' (st1.trans oo)
    |exit id=>simp only[Option.some.injEq,Prod.mk.injEq]at he;obtain⟨rfl,rfl⟩:=he;exact hQ iZ I1 a1 w1 h1 st1
    |ret=>simp only[Option.some.injEq,Prod.mk.injEq]at he;obtain⟨rfl,rfl⟩:=he;exact hQ iZ I1 a1 w1 h1 st1
 |cond t x y LP N1=>
  intro c s e s' ids I a w Q au he h hQ;cases c<;>try(simp[iR]at au;done)
  rename_i c0 x' y';cases c0<;>try(simp[iR]at au;done)
  rename_i t';simp only[iR,Bool.and_eq_true,beq_iff_eq]at au;obtain⟨⟨rfl,N3⟩,N4⟩:=au;simp only[exec]at he;split at he
  case h_2=>simp at he
  rename_i t1 b A7
  by_cases e1:t1=t
  ·subst e1
   simp only[beq_self_eq_true,if_true]at he;have hb:a.eval (.tmp t1) = .bool b:=h.fl t1 (.bool b) A7;have h' : Rel sl nt ds {s with fl:=none} (af s.σ ids I) a w:=⟨h.good,h.size,h.defers,h.vars,λ_ _ q=>by simp at q⟩
   refine wp_cond (t:=b) hb ?_;cases b with
   |true=>exact LP x' {s with fl:=none} e s' ids I a w Q N3 he h' hQ
   |false=>exact N1 y' {s with fl:=none} e s' ids I a w Q N4 he h' hQ
  ·have:(t1==t)=false:=by simpa using e1
   simp[this]at he
 |kR k x y LP N1=>
  intro c s e s' ids I a w Q au he h hQ;cases c<;>try(simp[iR]at au;done)
  rename_i c0 x' y';cases c0<;>try(simp[iR]at au;done)
  rename_i t;simp only[iR,Bool.and_eq_true,beq_iff_eq]at au;obtain⟨⟨hk,N3⟩,N4⟩:=au;simp only[exec]at he;split at he
  case h_2=>simp at he
  rename_i b hv;have hb:a.eval (.tmp t) = .bool b:=by
   have:=h.vars k t hk;rw[hv]at this;exact this
  refine wp_cond (t:=b) hb ?_;cases b with
  |true=>exact LP x' s e s' ids I a w Q N3 he h hQ
  |false=>exact N1 y' s e s' ids I a w Q N4 he h hQ
 |block id x ih=>
  intro c s e s' ids I a w Q au he h hQ;cases c<;>try(simp[iR]at au;done)
  rename_i id' c;simp only[iR,Bool.and_eq_true,beq_iff_eq]at au;obtain⟨rfl,au⟩:=au;simp only[exec]at he;refine wp_block ?_;cases hx:exec n ce x s with
  |none=>simp[hx]at he
  |some es=>
   obtain⟨e1,s1⟩:=es;simp only[hx]at he;refine ih c s e1 s1 ids I a w _ au hx h λiZ I1 a1 w1 h1 st1=>?_;cases e1 with
   |ft=>simp only[Option.some.injEq,Prod.mk.injEq]at he;obtain⟨rfl,rfl⟩:=he;exact hQ iZ I1 a1 w1 h1 st1
   |exit j=>
    simp only at he
    by_cases hj:j=id
    ·subst hj
     simp only[beq_self_eq_true,if_true,Option.some.injEq,Prod.mk.injEq]at he;obtain⟨rfl,rfl⟩:=he;simp only[BY,Exit.inBlock,if_true];exact hQ iZ I1 a1 w1 h1 st1
    ·have:(j==id)=false:=by simpa using hj
     simp only[this,Bool.false_eq_true,if_false,Option.some.injEq,Prod.mk.injEq]at he;obtain⟨rfl,rfl⟩:=he;simp only[BY,Exit.inBlock,hj,if_false];exact hQ iZ I1 a1 w1 h1 st1
   |ret=>simp only[Option.some.injEq,Prod.mk.injEq]at he;obtain⟨rfl,rfl⟩:=he;exact hQ iZ I1 a1 w1 h1 st1
 |loop x ih=>
  intro c s e s' ids I a w Q au he h hQ;cases c<;>try(simp[iR]at au;done)
  rename_i c;simp only[iR]at au;simp only[exec]at he;refine aak (λk a1 w1=>∃s1 iZ I1,iter (exec n ce x) k s1=some (e,s')/\Rel sl nt ds s1 (af s1.σ iZ I1) a1 w1/\Step (af s.σ ids I) w (af s1.σ iZ I1) w1) (k:=n) ⟨s,ids,I,he,h,Step.refl _ _⟩ (λa1 w1 ⟨s1,_,_,h0,_⟩=>by simp[iter]at h0) ?_
  rintro k a1 w1 ⟨s1,iZ,I1,h1,r1,st1⟩;simp only[iter]at h1;cases hx:exec n ce x s1 with
  |none=>simp[hx]at h1
  |some es=>
   obtain⟨e2,s2⟩:=es;simp only[hx]at h1;refine ih c s1 e2 s2 iZ I1 a1 w1 _ au hx r1 λuy I2 a2 w2 r2 st2=>?_;cases e2 with
   |ft=>exact⟨s2,uy,I2,h1,r2,st1.trans st2⟩
   |exit j=>simp only[Option.some.injEq,Prod.mk.injEq]at h1;obtain⟨rfl,rfl⟩:=h1;exact hQ uy I2 a2 w2 r2 (st1.trans st2)
   |ret=>simp only[Option.some.injEq,Prod.mk.injEq]at h1;obtain⟨rfl,rfl⟩:=h1;exact hQ uy I2 a2 w2 r2 (st1.trans st2)
 |exit id=>
  intro c s e s' ids I a w Q au he h hQ;cases c<;>try(simp[iR]at au;done)
  simp only[iR,beq_iff_eq]at au;subst au;simp only[exec,Option.some.injEq,Prod.mk.injEq]at he;obtain⟨rfl,rfl⟩:=he;exact wp_exit (hQ ids I a w h (Step.refl _ _))
 |ret=>
  intro c s e s' ids I a w Q au he h hQ;cases c<;>try(simp[iR]at au;done)
  simp only[exec,Option.some.injEq,Prod.mk.injEq]at he;obtain⟨rfl,rfl⟩:=he;exact wp_ret (hQ ids I a w h (Step.refl _ _))
 |lB k=>
  intro c s e s' ids I a w Q au he h hQ;cases c<;>simp[iR]at au
 |lex x ih=>
  intro c s e s' ids I a w Q au he h hQ;simp only[iR]at au;simp only[exec]at he;cases hx:exec n ce x s with
  |none=>simp[hx]at he
  |some es=>
   obtain⟨e1,s1⟩:=es;simp only[hx]at he;refine ih c s e1 s1 ids I a w Q au hx h λiZ I1 a1 w1 h1 st1=>?_;have go:(if(s1.vars.all (lP s.σ.length)&&ux s.σ.length s.σ.length s1.σ&&(match s1.fl with|some _=>false|none=>true))=true then some (e1,({s1 with σ:=s1.σ.take s.σ.length}:St))else none)=some (e,s')->Q (BY e1) a1 w1:=λhe=>by
    by_cases hc:(s1.vars.all (lP s.σ.length)&&ux s.σ.length s.σ.length s1.σ&&(match s1.fl with|some _=>false|none=>true))=true
    case neg=>rw[if_neg hc]at he;simp at he
    rw[if_pos hc]at he;simp only[Bool.and_eq_true]at hc;obtain⟨⟨c1,c2⟩,c3⟩:=hc;simp only[Option.some.injEq,Prod.mk.injEq]at he;obtain⟨rfl,rfl⟩:=he;obtain⟨g1,g2,g3⟩:=aaj h1.good st1 c2;refine hQ iZ I1 a1 w1 ⟨g1,h1.size,h1.defers,λj t hj=>?_,λt v hv=>?_⟩ g2
    ·refine g3 _ _ ?_ (h1.vars j t hj)
     rw[sS];cases hq:s1.vars[j]? with
     |none=>rfl
     |some q=>exact List.all_eq_true.1 c1 q (List.mem_of_getElem? hq)
    ·simp only at hv
     rw[hv]at c3;simp at c3
   cases e1 with
   |ft=>exact go he
   |exit j=>exact go he
   |ret=>simp only[Option.some.injEq,Prod.mk.injEq]at he;obtain⟨rfl,rfl⟩:=he;exact hQ iZ I1 a1 w1 h1 st1
end Ab
namespace Ab
open Go
variable{P:Program}
def kj (P:Program) (sl:List Nat):List ResultVar->List (Nat×Option (Option Nat))->Bool
 | [],[]=>true
 |.tmp t::r,(k,none)::s=>sl[k]? == some t&&kj P sl r s
 |.cell a ty::r,(k,some kd)::s=>sl[k]? == some a&&bt P ty kd&&kj P sl r s
 |_,_=>false
def aN (P:Program) (f:Nat) (fn:Fn) (sl:List Nat):Bool:=
 match P.funcs[f]? with
 |some pf=>cM P f&&(match pf.body with
  |some c=>iR P sl pf.ntmps fn.body c&&kj P sl pf.results.toList fn.res&&decide (fn.np<=pf.ntmps)&&(List.range sl.length).all λk=>decide (fn.np<=k)||sl[k]? == some k
  |none=>false)
 |none=>false
def eT (P:Program) (f:Nat) (p:CE->List AV->List ag->Option (AV×List ag)):Prop:=
 cM P f=true/\∀ce,cz P ce->dZ P ce->∀args σ r bp, p ce args σ=some (r,bp)->∀(ids:Nat->Nat) (I:Nat->Prop) (w:World) (vs:List Value),Good (af σ ids I) w->cm (af σ ids I) w.heap args vs->
  Calls P f vs.toArray w λe w' =>∃v aJ I', e = .returned v/\Good (af bp aJ I') w' /\VR (af bp aJ I') w'.heap r v/\Step (af σ ids I) w (af bp aJ I') w'
theorem aan{s:Sem Value}{w:World}{v:Value}(h:(do let x <-s;pure (Next.value x):Sem Next).run P w = .ok (.value v) w):s.run P w = .ok v w:=by
 simp only[Sem.run_bind]at h;cases hs:s.run P w with
 |ok a w' =>rw[hs]at h;simp[Result.andThen]at h;obtain⟨rfl,rfl⟩:=h;rfl
 |halt x w' =>rw[hs]at h;simp[Result.andThen]at h
theorem aao{C:Ctx}{w:World}{σ:List ag}{x y:AV}{p:Option aZ}{kd:Option Nat}{ty:TypeId}{v:Value}(hk:bt P ty kd=true) (hg:Good C w) (db:∀b u B,C.lim b u->upto σ b u=some B->∃id,C.own b u=some (B,id)) (hx:VR C w.heap x v)
  (he:ev (λ_ _ _=>none) σ 0 [] (λ_=>x) (.ld (.v 0) kd)=some (y,p)):∃z,(do loadVar ty (<-asAddr v):Sem Value).run P w = .ok z w/\VR C w.heap y z:=by
 obtain⟨⟨z,h1,h2⟩,_⟩:=yC (P:=P) (ρ:=λ_=>v) (o:=⟨none,.load ty (.tmp 0),0, "",#[],none⟩) (w:=w) (C:=C) rfl hk hg db hx he;have h3:=aan (s:=Instr.loadAt ty v) h1;refine⟨z,?_,h2⟩;have hp:∃a,v = .pointer (some a):=by
  simp only[ev]at he;cases x<;>try(simp at he;done)
  ·unfold VR at hx;obtain⟨_,al,off,_,_,_,_,e,_⟩:=hx;exact⟨_,e⟩
  ·unfold VR at hx;obtain⟨⟨al,e⟩,_⟩:=hx;exact⟨_,e⟩
 obtain⟨a,rfl⟩:=hp;rw[<-h3];simp only[Instr.loadAt,Instr.sureAddr,asAddr,Sem.run_bind,Sem.run_pure,Result.andThen_ok]
def rG (tmps:Array Value):ResultVar->Sem Value
 |.tmp t=>pure (tmps.getD t undef)
 |.cell a t=>do loadVar t (<-asAddr (tmps.getD a undef))
theorem aap (pf:Func) (tmps:Array Value):Go.results pf tmps=(do
  let vs <-pf.results.mapM (rG tmps)
  pure (if h:vs.size=1 then vs[0]else .tuple vs)):=by
 unfold Go.results
 congr 2
theorem Ik{sl:List Nat}{nt:Nat}{ds:List Deferred}{s:St}{ids:Nat->Nat}{I:Nat->Prop}{a:Act}{w:World}(h:Rel sl nt ds s (af s.σ ids I) a w) :
  ∀(rs:List ResultVar) (qs:List (Nat×Option (Option Nat))) (xs:List AV),kj P sl rs qs=true->bZ (jB s) qs=some xs->
   ∃vs,(rs.mapM (rG a.tmps)).run P w = .ok vs w/\cm (af s.σ ids I) w.heap xs vs
 | [],[],xs,_,hm=>by
  simp[bZ]at hm;subst hm;exact⟨[],by simp,rfl⟩
 |.tmp t::rs,(k,none)::qs,xs,au,hm=>by
  simp only[kj,Bool.and_eq_true,beq_iff_eq]at au;simp only[bZ,jB]at hm;cases hr:bZ (jB s) qs with
  |none=>simp[hr]at hm
  |some ys=>
   simp[hr]at hm;subst hm;obtain⟨vs,h1,h2⟩:=Ik h rs qs ys au.2 hr;exact⟨_::vs,by simp[List.mapM_cons,rG,h1],_,_,rfl,h.vars k t au.1,h2⟩
 |.cell q ty::rs,(k,some kd)::qs,xs,au,hm=>by
  simp only[kj,Bool.and_eq_true,beq_iff_eq]at au;simp only[bZ,jB]at hm;cases he:ev (λ_ _ _=>none) s.σ 0 [] (λ_=>nth s.vars k) (.ld (.v 0) kd)with
  |none=>simp[he]at hm
  |some yp=>
   obtain⟨y,p⟩:=yp;simp only[he]at hm;cases hr:bZ (jB s) qs with
   |none=>simp[hr]at hm
   |some ys=>
    simp[hr]at hm;subst hm;obtain⟨vs,h1,h2⟩:=Ik h rs qs ys au.2 hr;obtain⟨z,g1,g2⟩:=aao au.1.2 h.good (λb u B _ hu=>⟨_,lF ids I hu⟩) (h.vars k q au.1.1) he;refine⟨z::vs,?_,_,_,rfl,g2,h2⟩;rw[List.mapM_cons,Sem.run_bind,show(rG a.tmps (.cell q ty)).run P w = .ok z w from g1];simp[h1]
 | [],_::_,_,au,_=>by simp[kj]at au
 |.tmp _::_,[],_,au,_=>by simp[kj]at au
 |.cell .. :: _,[],_,au,_=>by simp[kj]at au
 |.tmp _::_,(_,some _)::_,_,au,_=>by simp[kj]at au
 |.cell .. :: _,(_,none)::_,_,au,_=>by simp[kj]at au
theorem BZ{G:Nat->Option Fn}{Q:kg}{n:Nat}(hm:P.follows .mixedOrders=true) (hG:∀f fn,G f=some fn->∃sl,aN P f fn sl=true) (hQ:∀f p,Q f=some p->eT P f p):∀d,cz P (dJ G Q n d)/\dZ P (dJ G Q n d)
 |0=>⟨λf args σ r bp h=>by simp[dJ]at h,λf args σ r h=>by simp[dJ]at h⟩
 |d+1=>by
  obtain⟨lZ,mM⟩:=BZ (n:=n) hm hG hQ d;refine⟨λf args σ r bp h ids I w vs hg hv=>?_,λf args σ r h=>?_⟩
  ·simp only[dJ]at h
   cases hq:Q f with
   |some p=>
    simp only[hq]at h;exact(hQ f p hq).2 _ lZ mM args σ r bp h ids I w vs hg hv
   |none=>
    simp only[hq]at h;cases LQ:G f with
    |none=>simp[LQ]at h
    |some fn=>
     simp only[LQ]at h;split at h
     case isFalse=>simp at h
     rename_i hlen;simp only[beq_iff_eq]at hlen;cases he:exec n (dJ G Q n d) fn.body {vars:=args++List.replicate (fn.nv-fn.np) .aM,fl:=none,σ}with
     |none=>simp[he]at h
     |some es=>
      obtain⟨e,s⟩:=es;simp only[he]at h;obtain⟨sl,au⟩:=hG f fn LQ;unfold aN at au;cases yT:P.funcs[f]? with
      |none=>simp[yT]at au
      |some pf=>
       simp only[yT,Bool.and_eq_true]at au;obtain⟨_,au⟩:=au;cases yW:pf.body with
       |none=>simp[yW]at au
       |some c=>
        simp only[yW,Bool.and_eq_true,decide_eq_true_eq,List.all_eq_true,List.mem_range,Bool.or_eq_true,beq_iff_eq]at au;obtain⟨⟨⟨o1,o2⟩,o3⟩,o4⟩:=au;have pM:vs.length=fn.np:=(cm.length hv).trans hlen;have aaq:Rel sl pf.ntmps [] {vars:=args++List.replicate (fn.nv-fn.np) .aM,fl:=none,σ} (af σ ids I) {tmps:=vs.toArray++Array.replicate (pf.ntmps-vs.toArray.size) undef,defers:=[]} w:=by
         refine⟨hg,by simp;omega,rfl,λk t hk=>?_,λ_ _ q=>by simp at q⟩
         have vD:k<sl.length:=(List.getElem?_eq_some_iff.1 hk).1;rcases o4 k vD with WS|heq
         ·have:nth (args++List.replicate (fn.nv-fn.np) .aM) k = .aM:=by
           rw[sS,List.getElem?_append_right (by omega),List.getElem?_replicate]
           split<;>rfl
          rw[this];unfold VR;trivial
         ·by_cases hkn:k<fn.np
          ·rw[heq]at hk;simp at hk;subst hk
           have hka:k<args.length:=by omega
           obtain⟨v,k1,k2⟩:=hv.get k _ (List.getElem?_eq_getElem hka);have e1:nth (args++List.replicate (fn.nv-fn.np) .aM) k=args[k]:=by
            rw[sS,List.getElem?_append_left hka,List.getElem?_eq_getElem hka];rfl
           have e2:(vs.toArray++Array.replicate (pf.ntmps-vs.toArray.size) undef).getD k undef=v:=by
            rw[Array.getD_eq_getD_getElem?,Array.getElem?_append_left (by simp;omega),List.getElem?_toArray,k1];rfl
           rw[e1];show VR _ _ _ ((vs.toArray++Array.replicate (pf.ntmps-vs.toArray.size) undef).getD k undef);rw[e2];exact k2
          ·have:nth (args++List.replicate (fn.nv-fn.np) .aM) k = .aM:=by
            rw[sS,List.getElem?_append_right (by omega),List.getElem?_replicate]
            split<;>rfl
           rw[this];unfold VR;trivial
        have vE:results fn s=some r/\s.σ=bp /\∀j,e ≠ .exit j:=by
         cases e with
         |exit j=>simp at h
         |ft=>
          simp only[Option.map_eq_some_iff,Prod.mk.injEq]at h;obtain⟨q,h1,rfl,h2⟩:=h;exact⟨h1,h2,λj q=>by simp at q⟩
         |ret=>
          simp only[Option.map_eq_some_iff,Prod.mk.injEq]at h;obtain⟨q,h1,rfl,h2⟩:=h;exact⟨h1,h2,λj q=>by simp at q⟩
        obtain⟨hr,rfl,b8⟩:=vE;refine calls_of_wp yT yW (aal (sl:=sl) (nt:=pf.ntmps) (ds:=[]) hm lZ mM fn.body c _ e s ids I _ w _ o1 he aaq λaJ I' a' w' h' oo =>?_);have key:a'.defers=[]/\∃v,(Go.results pf a'.tmps).run P w' = .ok v w' /\∃v1 aJ I', Ending.returned v = .returned v1/\Good (af s.σ aJ I') w' /\VR (af s.σ aJ I') w'.heap r v1/\Step (af σ ids I) w (af s.σ aJ I') w' :=by
         refine⟨h'.defers,?_⟩;unfold results at hr;cases yj:bZ (jB s) fn.res with
         |none=>simp[yj]at hr
         |some xs=>
          obtain⟨zs,g1,g2⟩:=Ik h' pf.results.toList fn.res xs o2 yj;refine⟨if hz:zs.toArray.size=1 then zs.toArray[0]else .tuple zs.toArray,?_,_,aJ, I', rfl,h'.good,?_,oo⟩
          ·rw[aap,Sem.run_bind,Array.mapM_eq_mapM_toList,Sem.run_map,g1]
           rfl
          ·simp only[yj]at hr
           have hl:=cm.length g2;have many:∀l,xs=l->l.length ≠ 1->r = .bS l->VR (af s.σ aJ I') w'.heap r (if hz:zs.toArray.size=1 then zs.toArray[0]else .tuple zs.toArray):=λl e1 e2 e3=>by
            subst e1;subst e3;rw[dif_neg (by simp;omega)]
            unfold VR;exact⟨zs,rfl,g2⟩
           cases xs with
           |nil=>exact many [] rfl (by simp) (by simpa using hr.symm)
           |cons x t=>
            cases t with
            |nil=>
             simp at hr;subst hr;obtain⟨v,t,e1,e2,e3⟩:=g2;have e3:t=[]:=e3;subst e3;subst e1;simpa using e2
            |cons y t=>exact many (x::y::t) rfl (by simp) (by simpa using hr.symm)
        cases e with
        |exit j=>exact absurd rfl (b8 j)
        |ft=>exact key
        |ret=>exact key
  ·simp only[dJ]at h
   cases hq:Q f with
   |some p=>exact(hQ f p hq).1
   |none=>
    simp only[hq]at h;cases LQ:G f with
    |none=>simp[LQ]at h
    |some fn=>
     obtain⟨sl,au⟩:=hG f fn LQ;unfold aN at au;cases yT:P.funcs[f]? with
     |none=>simp[yT]at au
     |some pf=>
      simp only[yT,Bool.and_eq_true]at au;exact au.1
end Ab
