/- What is known after an effect is the new list of blocks, and the old one can still be seen. A region: whatever order its operations come in, it does what its lines do in the text's order. Condition: the callees answer as the interpreter says. What holds in the midst of a region. A step of a region keeps what holds. Operations that look at owned blocks, and operations that turn them. Condition: the callees answer as the interpreter says. One operation of a region in any order. One operation of a region, whatever its class. A region does what its lines say. Condition: the callees answer as the interpreter says. An owned value is given away for good; blocks of a round are forgotten. The code of a function does what its small text says. Condition: the callees answer as the interpreter says. Functions do what the interpreter says. Condition: the check of each function. Condition: none. -/
import Derived.Test.YtdenhmniigikcaaGreatAbPhase
import Derived.Scope
set_option linter.all false
namespace Ab
open Go
theorem wi{σ:List ag}{b u:Nat}{B:ag}(h:fL σ b u=some B):ak σ b=some B/\B.cells.length=u/\B.st ≠ .dead:=by
 unfold fL at h;cases hb:ak σ b with
 |none=>simp[hb]at h
 |some B' =>
  simp only[hb]at h;cases hs:B'.st<;>simp only[hs]at h<;>first
   |(simp at h;done)
   |(by_cases hu:B'.cells.length=u
     ·simp[hu]at h;subst h;exact⟨rfl,hu,by rw[hs];simp⟩
     ·simp[hu]at h)
def jz (C:Ctx) (σ:List ag):Prop:=∃ids,(∀b u e,(af σ ids C.I).own b u=some e->C.own b u=some e)/\∀b u,C.lim b u->(af σ ids C.I).lim b u
def Seen (C:Ctx) (σ:List ag):Prop:=∀b u B,C.lim b u->fL σ b u=some B->∃id,C.own b u=some (B,id)
theorem jz.seen{C:Ctx}{σ:List ag}(h:jz C σ):Seen C σ:=λb u B _ hu=>by
 obtain⟨ids,h1,_⟩:=h;exact⟨_,h1 b u _ (sB ids C.I hu)⟩
theorem MP (σ:List ag) (ids:Nat->Nat) (I:Nat->Prop):jz (af σ ids I) σ:=⟨ids,λ_ _ _ h=>h,λ_ _ h=>h⟩
theorem jz.yy{C:Ctx}{σ:List ag}(h:jz C σ) (I' : Nat->Prop):jz {C with I:=I'} σ:=by
 obtain⟨ids,h1,h2⟩:=h;exact⟨ids,h1,h2⟩
theorem Seen.yy{C:Ctx}{σ:List ag}(h:Seen C σ) (I' : Nat->Prop):Seen {C with I:=I'} σ:=h
theorem jz.take{C:Ctx}{σ:List ag}{w:World}(h:jz C σ) (hg:Good C w):∃ids,Good (af σ ids C.I) w/\Step C w (af σ ids C.I) w:=by
 obtain⟨ids,h1,h2⟩:=h;exact⟨ids,Good.shrink hg rfl h1 h2⟩
theorem Ext.gx{σ:List ag}{ids:Nat->Nat}{I:Nat->Prop}{p:Option aX}{C' : Ctx}{w' : World}(hg:Good C' w') (h:Ext σ.length p (af σ ids I) C') :
  jz C' (match p with|some q=>fT σ q|none=>σ)/\Seen C' σ:=by
 cases p with
 |none=>
  obtain⟨h1,h2⟩:=h;have hs:jz C' σ:=⟨ids,λb u e he=>by rw[h1];exact he,λb u he=>by rw[h2]at he;exact he⟩
  exact⟨hs,hs.seen⟩
 |some q=>
  cases q with
  |new B=>
   obtain⟨id,h1,h2⟩:=h;have jh:B.st ≠ .dead:=(hg.kR σ.length B.cells.length B id (by rw[h1];simp[ar])).2.2.2
   refine⟨⟨λq=>if q=σ.length then id else ids q,λb u e he=>?_,λb u he=>?_⟩,λb u B' _ hu=>?_⟩
   ·rw[h1];exact By (I:=C'.I) jh b u e he
   ·rw[h2]at he;exact Bz (ids:=ids) (I:=C'.I) (id:=id) b u he
   ·obtain⟨hb,_⟩:=wi hu
    have aK:b<σ.length:=by rw[dh]at hb;exact(List.getElem?_eq_some_iff.1 hb).1
    rw[h1];simp only[ar];rw[if_neg (by omega)]
    exact⟨_,sB ids I hu⟩
  |news l=>
   obtain⟨uu,h1,h2⟩:=h;have hblk:∀b,ak (σ++l) b=if b<σ.length then ak σ b else ak l (b-σ.length):=λb=>by
    rw[dh,dh,dh]
    by_cases hb:b<σ.length
    ·rw[if_pos hb,List.getElem?_append_left hb]
    ·rw[if_neg hb,List.getElem?_append_right (by omega)]
   refine⟨⟨λq=>if q<σ.length then ids q else uu (q-σ.length),λb u e he=>?_,λb u he=>?_⟩,λb u B' _ hu=>?_⟩
   ·rw[h1]
    simp only[af,fT,hblk]at he ⊢
    by_cases hb:b<σ.length
    ·rw[if_neg (by omega)]
     simp only[hb,if_true]at he;exact he
    ·simp only[hb,if_false]at he
     have aK:b-σ.length<l.length:=by
      cases hq:ak l (b-σ.length)with
      |none=>simp[hq]at he
      |some q=>rw[dh]at hq;exact(List.getElem?_eq_some_iff.1 hq).1
     rw[if_pos (by omega)]
     exact he
   ·rw[h2]at he
    simp only[af,fT,hblk]at he ⊢;rcases he with⟨k1,B1,k2,k3⟩|⟨B1,k2,k3⟩
    ·exact⟨B1,by rw[if_neg (by omega)];exact k2,k3⟩
    ·have aK:b<σ.length:=by rw[dh]at k2;exact(List.getElem?_eq_some_iff.1 k2).1
     exact⟨B1,by rw[if_pos aK];exact k2,k3⟩
   ·obtain⟨hb,_⟩:=wi hu
    have aK:b<σ.length:=by rw[dh]at hb;exact(List.getElem?_eq_some_iff.1 hb).1
    rw[h1];simp only;rw[if_neg (by omega)]
    exact⟨_,sB ids I hu⟩
  |grow b cs=>
   obtain⟨B0,Xq,id,bY,h0,h1,h2⟩:=h;obtain⟨hb,_⟩:=yj h0;have hlen:B0.cells.length<(B0.cells++cs).length:=by
    have:0<cs.length:=List.length_pos_iff.2 bY;simp;omega
   have ve:fT σ (.grow b cs)=ay σ b ⟨B0.k,B0.cells++cs,.live⟩:=by simp only[fT,sL,hb]
   simp only[ve];refine⟨⟨λq=>if q=b then id else ids q,λb1 u e he=>?_,λb1 u he=>?_⟩,λb1 u B' _ hu=>?_⟩
   ·rw[h1]
    exact oG (ids:=ids) (I:=C'.I) (B' :=⟨B0.k,B0.cells++cs,.live⟩) (id' :=id) hb (by simp) b1 u e he
   ·rw[h2]at he
    rcases he with⟨rfl,rfl⟩|he
    ·have aK:b1<σ.length:=by rw[dh]at hb;exact(List.getElem?_eq_some_iff.1 hb).1
     exact⟨⟨B0.k,B0.cells++cs,.live⟩,by rw[yh aK];simp,Nat.le_refl _⟩
    ·exact oH (ids:=ids) (I:=C'.I) hb (by show _<=(B0.cells++cs).length;omega) b1 u he
   ·obtain⟨k1,k2,_⟩:=wi hu
    rw[h1];simp only[ar];rw[if_neg (by
     rintro⟨rfl,rfl⟩;rw[hb]at k1;simp at k1;subst k1;omega)]
    exact⟨_,sB ids I hu⟩
end Ab
namespace Ab
open Go
variable{P:Program}
theorem MQ{ce:CE}{vars:List AV}:∀{ls:List Ln}{s s' : LS},lines ce vars ls s=some s' ->
  ∃st:Nat->LS,st 0=s/\st ls.length=s' /\∀i l,ls[i]? = some l->dd ce vars (st i) l=some (st (i+1))
 | [],s,s', h=>by
  simp[lines]at h;subst h;exact⟨λ_=>s,rfl,rfl,λi l h=>by simp at h⟩
 |l::ls,s,s', h=>by
  simp only[lines]at h;cases h1:dd ce vars s l with
  |none=>simp[h1]at h
  |some s1=>
   simp only[h1]at h;obtain⟨st,e0,en,bR⟩:=MQ h;refine⟨λi=>match i with|0=>s|i+1=>st i,rfl,by simpa using en,λi l' hl=>?_⟩
   cases i with
   |zero=>simp at hl;subst hl;simp only[h1,e0]
   |succ i=>exact bR i l' (by simpa using hl)
theorem Zg{ce:CE}{vars:List AV}{s s' : LS}{l:Ln}(h:dd ce vars s l=some s'):∃v,s'.env=v::s.env:=by
 unfold dd at h;split at h
 ·simp at h
 ·simp at h;subst h;exact⟨_,rfl⟩
 ·split at h
  ·split at h
   ·simp at h;subst h;exact⟨_,rfl⟩
   ·simp at h
  ·split at h
   ·simp at h;subst h;exact⟨_,rfl⟩
   ·simp at h;subst h;exact⟨_,rfl⟩
   ·simp at h
def valOf (st:Nat->LS) (i:Nat):AV:=nth (st (i+1)).env 0
theorem MS{st:Nat->LS}{n:Nat}(h0:(st 0).env=[]) (h:∀i,i<n->∃v,(st (i+1)).env=v::(st i).env):∀i,i<=n->∀d,d<i->nth (st i).env d=valOf st (i-1-d)
 |0,_,d,hd=>absurd hd (Nat.not_lt_zero d)
 |i+1,hi,d,hd=>by
  obtain⟨v,hv⟩:=h i (by omega)
  cases d with
  |zero=>simp[valOf]
  |succ d=>
   rw[hv];simp only[nth];rw[MS h0 h i (by omega) d (by omega)]
   congr 1
   omega
theorem MT{ce:CE}{σ:List ag}{nl:Nat}{ps:List aX}{r:Rf->AV}{op:cU}{x:AV}{p:Option aX}(h:op.lz=false) (he:ev ce σ nl ps r op=some (x,p)):p=none:=by
 cases op<;>first
  |(simp[cU.lz]at h;done)
  |(simp only[ev]at he;simp at he;exact he.2.symm)
  |(simp only[ev]at he;(repeat' split at he)<;>first|(simp at he;done)|(simp at he;exact he.2.symm)|(simp at he;obtain⟨_,_,_,e⟩:=he;exact e.symm)|(simp at he;obtain⟨_,_,e⟩:=he;exact e.symm))
def lN (draw:Bool) (bf:List Nat) (i j:Nat):Bool:=if draw then((bf[j]?).getD 0).testBit i else decide (i<j)
def yz (bf:List Nat) (o:Oper):Nat:=o.after.toList.foldl (λs e=>if Region.binds .any e then s ||| 2^e.on ||| (bf[e.on]?).getD 0 else s) 0
def MU (ops:List Oper):List Nat:=ops.foldl (λacc o=>acc ++ [yz acc o]) []
def cX (ops:List Oper) (i:Nat):Option Nat:=(ops[i]?).bind (·.dst)
def lO (ls:List Ln) (i:Nat):Option Nat:=
 match ls[i]? with
 |some l=>match l.op with
  |.ku (.t d) _ _=>some (i-1-d)
  |_=>none
 |none=>none
def jn (ops:List Oper) (ls:List Ln) (i:Nat):Option Nat:=
 match lO ls i with
 |some j=>cX ops j
 |none=>cX ops i
def aU (ls:List Ln) (i:Nat):Bool:=
 match ls[i]? with
 |some l=>l.op.lz||l.op.kN
 |none=>false
def HA (ls:List Ln) (i:Nat):Bool:=
 match ls[i]? with
 |some l=>l.op.lz&&l.g.isNone
 |none=>false
def eA (ls:List Ln) (i:Nat):Option Nat:=
 match ls[i]? with
 |some l=>match l.op with
  |.gn m=>some m
  |_=>none
 |none=>none
def qF (draw:Bool) (bf:List Nat) (ops:List Oper) (ls:List Ln) (sl:List Nat) (i:Nat):Operand->Rf->Bool
 |.tmp s,.t d=>decide (d<i)&&jn ops ls (i-1-d)==some s&&lN draw bf (i-1-d) i
 |.tmp s,.v k=>sl[k]? == some s&&(List.range ops.length).all λj=>!(cX ops j==some s)||lN draw bf i j
 |.const v,.c x=>kv v x
 |.func f,.c (.func g [])=>f==g
 |_,_=>false
def ru (draw:Bool) (bf:List Nat) (ops:List Oper) (ls:List Ln) (i:Nat) (o:Oper) (l:Ln):Bool:=
 match o.guard,l.g with
 |none,none=>true
 |some (j,b),some (.t d,b')=>b==b' && decide (d<i)&&j==i-1-d&&(lO ls j).isNone&&(cX ops j).isSome&&lN draw bf j i
 |_,_=>false
def vm (ops:List Oper) (nt i:Nat) (o:Oper):Bool:=
 match o.dst with
 |none=>true
 |some s=>decide (s<nt)&&(List.range i).all λj=>!(cX ops j==some s)
def oQ (ls:List Ln) (draw:Bool) (bf:List Nat) (i:Nat) (o:Oper) (l:Ln):Bool:=
 match l.op with
 |.gn _=>l.g.isNone&&o.dst.isSome
 |.ku (.t d) _ m=>l.g.isNone&&o.dst.isNone&&decide (d<i)&&eA ls (i-1-d)==some m&&lN draw bf (i-1-d) i&&(List.range i).all λj=>!(lO ls j==some (i-1-d))
 |.ku ..=>false
 |_=>true
def iH (ls:List Ln) (i:Nat):Bool:=
 match ls[i]? with
 |some l=>l.g.isNone&&(match l.op with
  |.jT .. | .can .. | .ox .. | .ya | .mw ..=>true
  |_=>false)
 |none=>false
def loose (ls:List Ln) (draw:Bool) (bf:List Nat) (j i:Nat):Bool:=aU ls j&&aU ls i&&decide (j<i) && !lN draw bf j i
def oR (ls:List Ln) (draw:Bool) (bf:List Nat) (j:Nat):Bool:=(List.range ls.length).any λi=>loose ls draw bf j i
def oS (ls:List Ln) (draw:Bool) (bf:List Nat) (i:Nat):Bool:=(List.range ls.length).any λj=>loose ls draw bf j i
def mF (ls:List Ln) (draw:Bool) (bf:List Nat) (k:Nat):Bool:=((List.range (k+1)).any λj=>oR ls draw bf j)&&((List.range ls.length).any λi=>decide (k<=i)&&oS ls draw bf i)
def sM (ls:List Ln) (draw:Bool) (bf:List Nat) (i:Nat) (l:Ln):Bool:=
 if l.op.lz||l.op.kN then !l.prev&&(!mF ls draw bf i||iH ls i)else true
def iA (ls:List Ln) (j v:Nat):Bool:=(List.range v).all λk=>!(decide (j<=k)) || !aU ls k||iH ls k
def yA (ls:List Ln) (draw:Bool) (bf:List Nat):Bool:=(List.range ls.length).all λk=>!mF ls draw bf k
def lP (ls:List Ln) (i:Nat) (l:Ln):Nat:=if l.prev then((List.range i).reverse.find? (aU ls)).getD 0 else i
def yB (ls:List Ln) (a b:Nat):Bool:=(List.range b).all λk=>!(decide (a<=k)) || !aU ls k
def uv (ls:List Ln) (draw:Bool) (bf:List Nat) (i:Nat) (l:Ln):Bool:=
 if l.op.lz||l.op.kN||l.op.jG then true else
  (if l.prev then decide (lP ls i l<i)&&HA ls (lP ls i l)&&yB ls (lP ls i l+1) i else true) &&
  (List.range ls.length).all λj=>!aU ls j||(if j<lP ls i l then lN draw bf j i||(iA ls j (lP ls i l)&&yA ls draw bf)else lN draw bf i j||(j != i&&HA ls j&&iA ls (lP ls i l) j))
def BI (draw:Bool) (bf:List Nat) (i:Nat) (o:Oper):Bool:=
 if draw then bf[i]? == some (yz bf o)&&o.after.toList.all λe=>!Region.binds .any e||decide (e.on<i)else true
def uw (P:Program) (draw:Bool) (bf:List Nat) (ops:List Oper) (ls:List Ln) (sl:List Nat) (nt i:Nat):Bool:=
 match ops[i]?,ls[i]? with
 |some o,some l=>lJ P (qF draw bf ops ls sl i) o.op l.op&&ru draw bf ops ls i o l&&vm ops nt i o&&oQ ls draw bf i o l&&sM ls draw bf i l&&uv ls draw bf i l&&BI draw bf i o
 |_,_=>false
theorem MV (bf:List Nat) (i:Nat):∀(es:List Edge) (s:Nat),(es.foldl (λs e=>if Region.binds .any e then s ||| 2^e.on ||| (bf[e.on]?).getD 0 else s) s).testBit i=true->
  s.testBit i=true\/∃e∈es,Region.binds .any e=true/\(e.on=i\/((bf[e.on]?).getD 0).testBit i=true)
 | [],s,h=>.inl h
 |e::es,s,h=>by
  simp only[List.foldl_cons]at h;rcases MV bf i es _ h with h|⟨e', h1,h2⟩
  ·by_cases hb:Region.binds .any e=true
   ·rw[if_pos hb]at h
    simp only[Nat.testBit_or,Bool.or_eq_true,Nat.testBit_two_pow,decide_eq_true_eq]at h;rcases h with(h|h)|h
    ·exact .inl h
    ·exact .inr ⟨e,by simp,hb,.inl h⟩
    ·exact .inr ⟨e,by simp,hb,.inr h⟩
   ·rw[if_neg hb]at h
    exact .inl h
  ·exact .inr ⟨e', by simp[h1],h2⟩
structure RC (P:Program) where
 draw:Bool
 bf:List Nat
 ops:List Oper
 ls:List Ln
 sl:List Nat
 nt:Nat
 ce:CE
 vars:List AV
 fh:List ag
 st:Nat->LS
 len:ops.length=ls.length
 ok:∀i,i<ls.length->uw P draw bf ops ls sl nt i=true
 st0:st 0=⟨[],fh,fh⟩
 run:∀i l,ls[i]? = some l->dd ce vars (st i) l=some (st (i+1))
 dM:cx P ce
 jw:dY P ce
structure sN (X:RC P) (i:Nat) (o:Oper) (l:Ln):Prop where
 op:lJ P (qF X.draw X.bf X.ops X.ls X.sl i) o.op l.op=true
 g:ru X.draw X.bf X.ops X.ls i o l=true
 dst:vm X.ops X.nt i o=true
 ku:oQ X.ls X.draw X.bf i o l=true
 Zh:sM X.ls X.draw X.bf i l=true
 read:uv X.ls X.draw X.bf i l=true
 bf:BI X.draw X.bf i o=true
namespace RC
variable (X:RC P)
theorem at_{i:Nat}(h:i<X.ls.length):∃o l,X.ops[i]? = some o/\X.ls[i]? = some l/\sN X i o l:=by
 have:=X.ok i h;unfold uw at this;split at this
 ·rename_i o l ho hl
  simp only[Bool.and_eq_true]at this;obtain⟨⟨⟨⟨⟨⟨a1,a2⟩,a3⟩,a4⟩,a5⟩,a6⟩,a7⟩:=this;exact⟨o,l,ho,hl,a1,a2,a3,a4,a5,a6,a7⟩
 ·simp at this
theorem Zi{i:Nat}(h:i<X.ls.length):∃v,(X.st (i+1)).env=v::(X.st i).env:=by
 obtain⟨o,l,_,hl,_⟩:=X.at_ h;exact Zg (X.run i l hl)
theorem vq{i:Nat}(h:i<=X.ls.length){d:Nat}(hd:d<i):nth (X.st i).env d=valOf X.st (i-1-d):=
 MS (by rw[X.st0]) (λi hi=>X.Zi hi) i h d hd
theorem still{i:Nat}{l:Ln}(hl:X.ls[i]? = some l) (h:aU X.ls i=false):(X.st (i+1)).σ=(X.st i).σ/\(X.st (i+1)).az=(X.st i).az:=by
 have hr:=X.run i l hl;have h' : l.op.lz=false/\l.op.kN=false:=by simpa[aU,hl]using h
 unfold dd at hr;split at hr
 ·simp at hr
 ·simp at hr;rw[<-hr];exact⟨rfl,rfl⟩
 ·rw[if_neg (by rw[h'.2];simp)]at hr
  split at hr
  ·simp only[h'.1,Bool.false_eq_true,if_false,Option.some.injEq]at hr;rw[<-hr];exact⟨rfl,rfl⟩
  ·rename_i he
   have:=MT h'.1 he;simp at this
  ·simp at hr
theorem same{p:Nat}:∀(k:Nat),p+k<=X.ls.length->(∀j,p<=j->j<p+k->aU X.ls j=false)->(X.st (p+k)).σ=(X.st p).σ/\(X.st (p+k)).az=(X.st p).az
 |0,_,_=>⟨rfl,rfl⟩
 |k+1,h,hn=>by
  obtain⟨_,l,_,hl,_⟩:=X.at_ (show p+k<X.ls.length by omega)
  obtain⟨h1,h2⟩:=X.still hl (hn (p+k) (by omega) (by omega))
  obtain⟨g1,g2⟩:=same k (by omega) λj a b=>hn j a (by omega)
  exact⟨h1.trans g1,h2.trans g2⟩
theorem oT{p q:Nat}(h:p<=q) (hq:q<=X.ls.length) (hn:∀j,p<=j->j<q->aU X.ls j=false):(X.st q).σ=(X.st p).σ/\(X.st q).az=(X.st p).az:=by
 have:=X.same (p:=p) (q-p) (by omega) (λj a b=>hn j a (by omega))
 rwa [show p+(q-p)=q by omega]at this
end RC
end Ab
namespace Ab
open Go
variable{P:Program}
structure iI (X:RC P) (D:Nat->Prop) (C:Ctx) (f:Nat):Prop where
 Zj:f<=X.ls.length
 lo:∀e,e<f->aU X.ls e=true->D e
 hi:∀e,f<=e->aU X.ls e=true->¬D e
 gx:jz C (X.st f).σ
 last:0<f->aU X.ls (f-1)=true/\(HA X.ls (f-1)=true->Seen C (X.st (f-1)).σ)
def alive (X:RC P) (D:Nat->Prop) (lo:Nat) (b:Nat):Prop:=b<(X.st lo).σ.length\/∃i,aU X.ls i=true/\mF X.ls X.draw X.bf i=true/\D i/\(X.st i).σ.length<=b/\b<(X.st (i+1)).σ.length
structure oU (X:RC P) (D:Nat->Prop) (C:Ctx) (lo hi:Nat):Prop where
 oV:∀k,mF X.ls X.draw X.bf k=true↔lo<=k/\k<=hi
 KW:aU X.ls hi=true
 le:lo<=hi
 before:∀e,e<lo->aU X.ls e=true->D e
 behind:∀e,hi<e->aU X.ls e=true->¬D e
 gx:∃ids,(∀b u e,alive X D lo b->(af (X.st (hi+1)).σ ids C.I).own b u=some e->C.own b u=some e)/\∀b u,C.lim b u->alive X D lo b/\(af (X.st (hi+1)).σ ids C.I).lim b u
def lQ (X:RC P) (D:Nat->Prop) (C:Ctx) (f:Nat):Prop:=iI X D C f\/∃lo hi,oU X D C lo hi/\∃k,aU X.ls k=true/\mF X.ls X.draw X.bf k=true/\D k
structure Inv (X:RC P) (C0:Ctx) (w0:World) (ds:List Deferred) (D:Nat->Prop) (C:Ctx) (f:Nat) (a:Act) (w:World):Prop where
 good:Good C w
 step:Step C0 w0 C w
 size:a.tmps.size=X.nt
 defers:a.defers=ds
 below:∀j,D j->j<X.ls.length
 closed:∀i j,D j->lN X.draw X.bf i j=true->D i
 tv:∀j s,D j->jn X.ops X.ls j=some s->VR C w.heap (valOf X.st j) (a.tmps.getD s undef)
 vv:∀k s,X.sl[k]? = some s->(∀j,D j->cX X.ops j ≠ some s)->VR C w.heap (nth X.vars k) (a.tmps.getD s undef)
 lb:∀j m,D j->eA X.ls j=some m->(∀i,D i->lO X.ls i ≠ some j)->∃s id c el,cX X.ops j=some s/\a.tmps.getD s undef = .pointer (some ⟨id,0,none⟩)/\w0.heap.size<=id/\¬C.I id/\¬owned C id/\
  w.heap[id]? = some (.cells c el (0,0))/\c.size=m
 Zk:∀j j' m m' s s' id,D j->D j' ->eA X.ls j=some m->eA X.ls j' = some m' ->(∀i,D i->lO X.ls i ≠ some j)->(∀i,D i->lO X.ls i ≠ some j')->cX X.ops j=some s->cX X.ops j' = some s' ->j ≠ j' ->
  a.tmps.getD s undef = .pointer (some ⟨id,0,none⟩)->a.tmps.getD s' undef ≠ .pointer (some ⟨id,0,none⟩)
 fr:lQ X D C f
section
variable{X:RC P}{C0:Ctx}{w0:World}{ds:List Deferred}{D:Nat->Prop}{C:Ctx}{f:Nat}{a:Act}{w:World}
theorem Inv.ref (h:Inv X C0 w0 ds D C f a w){i:Nat}(hi:i<X.ls.length) (hD:¬D i) (hb:∀j,lN X.draw X.bf j i=true->D j){x:Operand}{y:Rf}(hr:qF X.draw X.bf X.ops X.ls X.sl i x y=true) :
  VR C w.heap (rv X.vars (X.st i).env y) (a.eval x):=by
 unfold qF at hr;split at hr
 ·simp only[Bool.and_eq_true,decide_eq_true_eq,beq_iff_eq]at hr
  obtain⟨⟨h1,h2⟩,h3⟩:=hr;show VR C w.heap (nth (X.st i).env _) (a.tmps.getD _ undef);rw[X.vq (by omega) h1]
  exact h.tv _ _ (hb _ h3) h2
 ·rename_i s k
  simp only[Bool.and_eq_true,beq_iff_eq,List.all_eq_true,List.mem_range,Bool.or_eq_true,Bool.not_eq_true', beq_eq_false_iff_ne]at hr;refine h.vv k s hr.1 λj hj hd=>?_;rcases hr.2 j (by rw[X.len];exact h.below j hj)with h1|h1
  ·exact h1 hd
  ·exact hD (h.closed _ _ hj h1)
 ·exact Hl hr
 ·simp only[beq_iff_eq]at hr
  subst hr;show VR C w.heap (.func _ []) (.func (.func _) #[] #[]);unfold VR;exact⟨[],rfl,rfl⟩
 ·simp at hr
theorem Inv.wanted (h:Inv X C0 w0 ds D C f a w){i:Nat}(hi:i<X.ls.length) (hb:∀j,lN X.draw X.bf j i=true->D j){o:Oper}{l:Ln}(hF:sN X i o l){b:Bool}(hw:want X.vars (X.st i).env l.g=some b) :
  Region.wanted o (yielded X.ops.toArray a.tmps)=b:=by
 have hg:=hF.g;unfold ru at hg;split at hg
 ·rename_i h1 h2
  rw[h2]at hw;simp[want]at hw;subst hw;unfold Region.wanted;rw[h1]
 ·rename_i j b1 d b2 h1 h2
  simp only[Bool.and_eq_true,beq_iff_eq,decide_eq_true_eq,Option.isNone_iff_eq_none]at hg;obtain⟨⟨⟨⟨⟨rfl,hd⟩,rfl⟩,ht⟩,FV⟩,yC⟩:=hg;rw[h2]at hw;simp only[want,rv,X.vq (Nat.le_of_lt hi) hd]at hw;unfold Region.wanted;rw[h1];simp only;have hDj:=hb _ yC;have eZ:∀s,cX X.ops (i-1-d)=some s->VR C w.heap (valOf X.st (i-1-d)) (a.tmps.getD s undef):=λs hs=>h.tv _ s hDj (by simp only[jn,ht];exact hs)
  have hy:yielded X.ops.toArray a.tmps (i-1-d)=match(cX X.ops (i-1-d)).bind (a.tmps[·]?)with
    |some (.bool b)=>some b
    |_=>none:=by
   unfold yielded cX;simp only[List.getElem?_toArray]
   rfl
  rw[hy];cases MW:cX X.ops (i-1-d)with
  |none=>rw[MW]at FV;simp at FV
  |some s=>
   have hv:=eZ s MW;simp only[Option.bind_some];cases hq:valOf X.st (i-1-d)<;>simp only[hq]at hw<;>try(simp at hw;done)
   ·rw[hq]at hv
    have hv:a.tmps.getD s undef = .bool _:=hv;simp at hw;subst hw;have:a.tmps[s]? = some (.bool ‹Bool›):=by
     rw[Array.getD_eq_getD_getElem?]at hv;cases ja : a.tmps[s]? with
     |none=>rw[ja]at hv;simp[undef]at hv
     |some v=>rw[ja]at hv;simp at hv;rw[hv]
    rw[this];simp
   ·rename_i tl
    cases tl with
    |cons _ _=>simp at hw
    |nil=>
     simp at hw;subst hw;rw[hq]at hv;unfold VR at hv;obtain⟨vs,e1,e2⟩:=hv;have e2:vs=[]:=e2;subst e2;rw[Array.getD_eq_getD_getElem?]at e1;cases ja : a.tmps[s]? with
     |none=>rfl
     |some v=>rw[ja]at e1;simp at e1;rw[e1];rfl
 ·simp at hg
end
end Ab
namespace Ab
open Go
variable{P:Program}
theorem Zl{a:Act}{dst:Option Tmp}{v:Value}{nt:Nat}(hn:a.tmps.size=nt) (hs:∀s,dst=some s->s<nt) (s:Nat):(a.put dst v).tmps.getD s undef=if dst=some s then v else a.tmps.getD s undef:=by
 cases dst with
 |none=>simp[Act.put]
 |some d=>
  have hd:=hs d rfl;simp only[Act.put,Array.getD_eq_getD_getElem?,Array.getElem?_setIfInBounds]
  by_cases e:d=s
  ·subst e
   simp[hn,hd]
  ·simp[e]
theorem Zm (a:Act) (dst:Option Tmp) (v:Value):(a.put dst v).tmps.size=a.tmps.size:=by cases dst<;>simp[Act.put]
theorem Zn (a:Act) (dst:Option Tmp) (v:Value):(a.put dst v).defers=a.defers:=by cases dst<;>rfl
namespace RC
variable (X:RC P)
theorem yD{i s:Nat}(h:cX X.ops i=some s):i<X.ls.length:=by
 unfold cX at h;cases ho:X.ops[i]? with
 |none=>simp[ho]at h
 |some o=>rw[<-X.len];exact(List.getElem?_eq_some_iff.1 ho).1
theorem HB{i s:Nat}(h:cX X.ops i=some s):s<X.nt:=by
 obtain⟨o,l,ho,hl,hF⟩:=X.at_ (X.yD h);have:=hF.dst;simp only[cX,ho,Option.bind_some]at h;simp only[vm,h,Bool.and_eq_true,decide_eq_true_eq]at this;exact this.1
theorem yE{i j s:Nat}(h:cX X.ops i=some s) (k:cX X.ops j=some s) (aK:j<i):False:=by
 obtain⟨o,l,ho,hl,hF⟩:=X.at_ (X.yD h);have:=hF.dst;simp only[cX,ho,Option.bind_some]at h;simp only[vm,h,Bool.and_eq_true,List.all_eq_true,List.mem_range]at this;have:=this.2 j aK;simp[k]at this
theorem rA{i j s:Nat}(h:cX X.ops i=some s) (k:cX X.ops j=some s):i=j:=by
 rcases Nat.lt_trichotomy i j with aK|he|aK
 ·exact(X.yE k h aK).elim
 ·exact he
 ·exact(X.yE h k aK).elim
theorem fD{i t:Nat}(h:lO X.ls i=some t):i<X.ls.length/\∃o l d x m,X.ops[i]? = some o/\X.ls[i]? = some l/\sN X i o l/\l.op = .ku (.t d) x m/\l.g=none/\o.dst=none/\d<i/\t=i-1-d/\eA X.ls t=some m/\
  lN X.draw X.bf t i=true/\∀j,j<i->lO X.ls j ≠ some t:=by
 unfold lO at h;cases hl:X.ls[i]? with
 |none=>simp[hl]at h
 |some l=>
  have hi:=(List.getElem?_eq_some_iff.1 hl).1;obtain⟨o,l', ho,ct, hF⟩:=X.at_ hi;rw[hl]at ct; simp at ct; subst ct;simp only[hl]at h;split at h
  ·rename_i d x m cY
   have:=hF.ku;simp only[oQ,cY,Bool.and_eq_true,Option.isNone_iff_eq_none,decide_eq_true_eq,beq_iff_eq,List.all_eq_true,List.mem_range,Bool.not_eq_true', beq_eq_false_iff_ne]at this;obtain⟨⟨⟨⟨⟨a1,a2⟩,a3⟩,a4⟩,a5⟩,a6⟩:=this;simp at h;subst h;exact⟨hi,o,l,d,x,m,ho,rfl,hF,cY,a1,a2,a3,rfl,a4,a5,a6⟩
  ·simp at h
theorem vt{i j t:Nat}(h:lO X.ls i=some t) (k:lO X.ls j=some t):i=j:=by
 obtain⟨_,_,_,_,_,_,_,_,_,_,_,_,_,_,_,_,h1⟩:=X.fD h;obtain⟨_,_,_,_,_,_,_,_,_,_,_,_,_,_,_,_,h2⟩:=X.fD k;rcases Nat.lt_trichotomy i j with aK|he|aK
 ·exact absurd h (h2 i aK)
 ·exact he
 ·exact absurd k (h1 j aK)
end RC
section
variable{X:RC P}{C0:Ctx}{w0:World}{ds:List Deferred}{D:Nat->Prop}{C:Ctx}{f:Nat}{a:Act}{w:World}
theorem lQ.sO{i:Nat}(h:lQ X D C f) (he:aU X.ls i=false) (I' : Nat->Prop):lQ X (λj=>D j\/j=i) {C with I:=I'} f:=by
 rcases h with h|⟨j,i2,h,k0,y1,y2,y3⟩
 ·refine .inl ⟨h.Zj,λe h1 h2=>.inl (h.lo e h1 h2),λe h1 h2 h3=>?_,h.gx.yy I', λhf=>⟨(h.last hf).1,λhe=>((h.last hf).2 he).yy I'⟩⟩
  rcases h3 with h3|rfl
  ·exact h.hi e h1 h2 h3
  ·rw[he]at h2;simp at h2
 ·obtain⟨ids,e1,e2⟩:=h.gx
  have lA:∀b,alive X (λk=>D k\/k=i) j b↔alive X D j b:=λb=>by
   constructor
   ·rintro(h1|⟨k,k1,k2,k3,k4⟩)
    ·exact .inl h1
    ·rcases k3 with k3|rfl
     ·exact .inr ⟨k,k1,k2,k3,k4⟩
     ·rw[he]at k1;simp at k1
   ·rintro(h1|⟨k,k1,k2,k3,k4⟩)
    ·exact .inl h1
    ·exact .inr ⟨k,k1,k2,.inl k3,k4⟩
  refine .inr ⟨j,i2,⟨h.oV,h.KW,h.le,λe h1 h2=>.inl (h.before e h1 h2),λe h1 h2 h3=>?_,ids,λb u e ha ho=>e1 b u e ((lA b).1 ha) ho,λb u hl=>⟨(lA b).2 (e2 b u hl).1,(e2 b u hl).2⟩⟩,k0,y1,y2,.inl y3⟩;rcases h3 with h3|rfl
  ·exact h.behind e h1 h2 h3
  ·rw[he]at h2;simp at h2
theorem Inv.after (h:Inv X C0 w0 ds D C f a w){i:Nat}(hi:i<X.ls.length) (hD:¬D i) (hb:∀j,lN X.draw X.bf j i=true->D j){o:Oper}(ho:X.ops[i]? = some o){C' : Ctx}{w' : World}{v:Value}{f' : Nat}
  (xy : Good C' w') (bR:Step C w C' w') (Zo:lO X.ls i=none) (hv:VR C' w'.heap (valOf X.st i) v)
  (lA:∀m,eA X.ls i=some m->(∃s,o.dst=some s)/\∃id c el,v = .pointer (some ⟨id,0,none⟩)/\w.heap.size<=id/\¬C'.I id/\¬owned C' id/\w'.heap[id]? = some (.cells c el (0,0))/\c.size=m)
  (BB:lQ X (λj=>D j\/j=i) C' f'):Inv X C0 w0 ds (λj=>D j\/j=i) C' f' (a.put o.dst v) w' :=by
 have AI:cX X.ops i=o.dst:=by simp[cX,ho]
 have gC:=Zl (v:=v) h.size (dst:=o.dst) λs hs=>X.HB (i:=i) (by rw[AI];exact hs)
 have Zp:∀j s,D j->cX X.ops j=some s->(a.put o.dst v).tmps.getD s undef=a.tmps.getD s undef:=λj s hj hs=>by
  rw[gC,if_neg];intro e;have:=X.rA hs (AI.trans e);exact hD (this▸hj)
 have old:∀j m,D j->eA X.ls j=some m->(∀i', (D i' \/i' = i)->lO X.ls i' ≠ some j)->∃s id c el,cX X.ops j=some s/\a.tmps.getD s undef = .pointer (some ⟨id,0,none⟩)/\(a.put o.dst v).tmps.getD s undef = .pointer (some ⟨id,0,none⟩)/\
   w0.heap.size<=id/\¬C'.I id/\¬owned C' id/\w'.heap[id]? = some (.cells c el (0,0))/\c.size=m/\id<w.heap.size:=λj m hj hm hn=>by
  obtain⟨s,id,c,el,k1,k2,k3,k4,k5,k6,k7⟩:=h.lb j m hj hm λi' dw =>hn i' (.inl dw);have aK:=(Array.getElem?_eq_some_iff.1 k6).1;refine⟨s,id,c,el,k1,k2,by rw[Zp j s hj k1];exact k2,k3,λhI=>?_,λhO=>?_,by rw[bR.frame id aK k5];exact k6,k7,aK⟩
  ·rcases bR.gA id hI with q|q|q
   ·exact k4 q
   ·exact k5 q
   ·omega
  ·rcases bR.fX id hO with q|q
   ·exact k5 q
   ·omega
 refine⟨xy, h.step.trans bR,by rw[Zm];exact h.size,by rw[Zn];exact h.defers,λj hj=>hj.elim (h.below j) (λe=>e▸hi),λi' j hj yC=>?_,λj s hj hs=>?_,λk s hk hn=>?_,λj m hj hm hn=>?_,?_,BB⟩
 ·rcases hj with hj|rfl
  ·exact .inl (h.closed _ _ hj yC)
  ·exact .inl (hb _ yC)
 ·rcases hj with hj|rfl
  ·have bY:o.dst ≠ some s:=λe=>by
    unfold jn at hs;cases ht:lO X.ls j with
    |none=>
     simp only[ht]at hs;exact hD (X.rA hs (AI.trans e)▸hj)
    |some t=>
     simp only[ht]at hs;obtain⟨_,_,_,_,_,_,_,_,_,_,_,_,_,_,_,MX,_⟩:=X.fD ht;exact hD (X.rA hs (AI.trans e)▸h.closed _ _ hj MX)
   rw[gC,if_neg bY];exact VR.mono bR.ev _ _ (h.tv j s hj hs)
  ·simp only[jn,Zo,AI]at hs
   rw[gC,if_pos hs];exact hv
 ·have bY:o.dst ≠ some s:=λe=>hn i (.inr rfl) (AI.trans e)
  rw[gC,if_neg bY];exact VR.mono bR.ev _ _ (h.vv k s hk λj hj=>hn j (.inl hj))
 ·rcases hj with hj|rfl
  ·obtain⟨s,id,c,el,k1,_,k2,k3,k4,k5,k6,k7,_⟩:=old j m hj hm hn
   exact⟨s,id,c,el,k1,k2,k3,k4,k5,k6,k7⟩
  ·obtain⟨⟨s,hs⟩,id,c,el,k1,k2,k3,k4,k5,k6⟩:=lA m hm
   exact⟨s,id,c,el,AI.trans hs,by rw[gC,if_pos hs];exact k1,Nat.le_trans h.step.size k2,k3,k4,k5,k6⟩
 ·intro j j' m m' s s' id hj tP hm nE hn lr hs gP bY e1 e2
  rcases hj with hj|rfl<;>rcases tP with tP | rfl
  ·rw[Zp j s hj hs]at e1
   rw[Zp j' s' tP gP]at e2;exact h.Zk j j' m m' s s' id hj tP hm nE (λi' dw =>hn i' (.inl dw)) (λi' dw =>lr i' (.inl dw)) hs gP bY e1 e2
  ·obtain⟨s1,id1,c,el,k1,_,k2,_,_,_,_,_,k3⟩:=old j m hj hm hn
   rw[k1]at hs;simp at hs;subst hs;obtain⟨_,AD,c2,BJ,q1,q2,_⟩:=lA m' nE;rw[gC,if_pos (AI.symm.trans gP),q1]at e2;rw[k2]at e1;simp at e1 e2;omega
  ·obtain⟨s1,id1,c,el,k1,_,k2,_,_,_,_,_,k3⟩:=old j' m' tP nE lr
   rw[k1]at gP; simp at gP; subst gP;obtain⟨_,AD,c2,BJ,q1,q2,_⟩:=lA m hm;rw[gC,if_pos (AI.symm.trans hs),q1]at e1;rw[k2]at e2;simp at e1 e2;omega
  ·exact bY rfl
theorem Inv.fill (h:Inv X C0 w0 ds D C f a w){i t d m:Nat}{x:Rf}(hi:i<X.ls.length) (hD:¬D i) (hb:∀j,lN X.draw X.bf j i=true->D j){l:Ln}(hl:X.ls[i]? = some l) (cY:l.op = .ku (.t d) x m) (ht:lO X.ls i=some t)
  {xv:AV} {y:Value} (eZ:valOf X.st i = .bd xv) (hn:aN xv=true) (wa:VR C w.heap xv y) {s id:Nat} {c:Array Value} {el:TypeId} (hs:cX X.ops t=some s) (hp:a.tmps.getD s undef = .pointer (some ⟨id,0,none⟩))
  (Bt:w0.heap.size<=id) (hI:¬C.I id) (hO:¬owned C id) (hH:w.heap[id]? = some (.cells c el (0,0))) {c' : Array Value} (mh:c'.size=c.size) (hc:∀j,j<y.cells.size->c'[j]? = y.cells[j]?) :
  Inv X C0 w0 ds (λj=>D j\/j=i) {C with I:=λk=>C.I k\/k=id} f a (w.setRow id c'):=by
 obtain⟨_,o,l', d', x', m', ho,ct, hF,wj, hg,HC,hd,KX,lA,MX,MY⟩:=X.fD ht;have hDt:=hb _ MX;have AI:cX X.ops i=none:=by simp[cX,ho,HC]
 have rZ : (w.setRow id c').heap[id]? = some (.cells c' el (0,0)):=setRow_heap w id c c' el (0,0) hH;have aK:=(Array.getElem?_eq_some_iff.1 hH).1;have ev:fO C w.heap {C with I:=λk=>C.I k\/k=id} (w.setRow id c').heap:=by
  refine⟨λk hk=>.inl hk,λk hk=>jW w id c' λe=>hI (e▸hk),λ_ _ h=>h,λb u B' AD _ bH=>⟨B', bH,rfl,rfl,λc2 BJ p9=>?_⟩⟩
  by_cases e:AD=id
  ·subst e
   rw[hH]at p9;simp at p9;obtain⟨rfl,rfl⟩:=p9;exact⟨c', rZ, mh⟩
  ·exact⟨c2,by rw[jW w id c' e];exact p9,rfl⟩
 have MZ:Good {C with I:=λk=>C.I k\/k=id} (w.setRow id c'):=by
  refine⟨λk hk=>by rw[nw];exact hk.elim (h.good.I k) (λe=>e▸aK),h.good.kR,λb u B i' bH tU=>?_,h.good.apart,λb u B i' es bH tU=>?_⟩
  obtain⟨k1,c2,BJ,k2,k3,k4⟩:=h.good.live b u B i' bH tU;have bY:i' ≠ id:=λe=>hO ⟨b,u,B,e▸bH,lG tU⟩;refine⟨λhk=>hk.elim k1 bY,c2,BJ,by rw[jW w id c' bY];exact k2,k3,λi2 x2 AJ=>?_⟩
  obtain⟨y2,j1,j2,j3⟩:=k4 i2 x2 AJ;exact⟨y2,j1,VR.mono ev _ _ j2,j3⟩;have bY:i' ≠ id:=λe=>hO ⟨b,u,B,e▸bH,lB tU⟩;exact h.good.cZ (C' :={C with I:=λk=>C.I k\/k=id}) ev bH tU (jW w id c' bY) (λhk=>hk.elim (h.good.maps b u B i' es bH tU).1 bY)
 have M0:Step C0 w0 {C with I:=λk=>C.I k\/k=id} (w.setRow id c'):=by
  refine⟨h.step.ev.trans ev,by rw[nw];exact h.step.size,λk hk oB=>by rw[jW w id c' (by omega)];exact h.step.frame k hk oB,λk hk=>h.step.fX k hk,λk hk=>?_,h.step.os,h.step.tape,h.step.output⟩
  rcases hk with hk|rfl
  ·exact h.step.gA k hk
  ·exact .inr (.inr Bt)
 have bY:aU X.ls i=false:=by simp[aU,hl,cY,cU.lz,cU.kN]
 have Zq:∀i', D i' ->lO X.ls i' ≠ some t:=λi' dw e=>hD (X.vt ht e▸dw);refine⟨MZ,M0,h.size,h.defers,λj hj=>hj.elim (h.below j) (λe=>e▸hi),λi' j hj yC=>?_,λj s' hj gP =>?_,λk s' hk lr =>?_,λj m2 hj hm lr =>?_,?_,h.fr.sO bY _⟩
 ·rcases hj with hj|rfl
  ·exact .inl (h.closed _ _ hj yC)
  ·exact .inl (hb _ yC)
 ·rcases hj with hj|rfl
  ·exact VR.mono ev _ _ (h.tv j s' hj gP)
  ·simp only[jn,ht]at gP
   rw[hs]at gP; simp at gP; subst gP;rw[eZ,hp];unfold VR;exact⟨hn,id,0,c', el,(0,0),y,rfl,.inr rfl,rZ, VR.mono ev _ _ wa,λj hj=>by rw[Nat.zero_add];exact hc j hj⟩
 ·exact VR.mono ev _ _ (h.vv k s' hk λj hj=>lr j (.inl hj))
 ·rcases hj with hj|rfl
  ·obtain⟨s2,AD,c2,BJ,k1,k2,k3,k4,k5,k6,k7⟩:=h.lb j m2 hj hm λi' dw =>lr i' (.inl dw)
   have yF:j ≠ t:=λe=>lr i (.inr rfl) (e▸ht);have M1:AD ≠ id:=λe=>by
    subst e;exact h.Zk j t m2 m' s2 s AD hj hDt hm lA (λi' dw =>lr i' (.inl dw)) Zq k1 hs yF k2 hp
   exact⟨s2,AD,c2,BJ,k1,k2,k3,λhk=>hk.elim k4 M1,k5,by rw[jW w id c' M1];exact k6,k7⟩
  ·simp[eA,hl,cY]at hm
 ·intro j j' m1 m2 s1 s2 AD hj tP hm nE V5 FW r7 xz Zr e1 e2
  have yG:∀j m,(D j\/j=i)->eA X.ls j=some m->D j:=λj m hj hm=>hj.elim (λq=>q) λe=>by
   subst e;simp[eA,hl,cY]at hm
  exact h.Zk j j' m1 m2 s1 s2 AD (yG j m1 hj hm) (yG j' m2 tP nE) hm nE (λi' dw =>V5 i' (.inl dw)) (λi' dw =>FW i' (.inl dw)) r7 xz Zr e1 e2
end
end Ab
namespace Ab
open Go
variable{P:Program}
section
variable{a:Act}{r:Rf->AV}{w:World}{C:Ctx}{R:Operand->Rf->Bool}{ce:CE}{σ:List ag}{nl:Nat}{ps:List aX}
theorem opR{o:Oper}{oJ:cU}{x:AV}{p:Option aX}(au:lJ P R o.op oJ=true) (hP:oJ.jG=false) (hE:oJ.lz=false) (hW:oJ.kN=false) (dM:cx P ce) (hg:Good C w)
  (uf:∀b u B,C.lim b u->fL σ b u=some B->∃id,C.own b u=some (B,id))
  (hR:∀x y,R x y=true->VR C w.heap (r y) (a.eval x)) (he:ev ce σ nl ps r oJ=some (x,p)):bA P o a w (da C w x):=by
 have dg:∀b u B,C.lim b u->upto σ b u=some B->∃id,C.own b u=some (B,id):=λb u B hl h=>uf b u B hl (Mv h);obtain⟨dst,op,type,pos,after,guard⟩:=o;have pl:∀{x' : AV} {p' : Option aX},Plain P a.eval ⟨dst,op,type,pos,after,guard⟩ w C w.heap x' /\p' = none->bA P ⟨dst,op,type,pos,after,guard⟩ a w (da C w x'):=λh=>h.1.does hg;simp only[lJ]at au;split at au
 all_goals first
  |(exfalso;simp[cU.jG]at hP;done)
  |(exfalso;simp[cU.kN]at hW;done)
  |(exfalso;simp[cU.lz]at hE;done)
  |skip
 ·simp only[Bool.and_eq_true,Bool.or_eq_true]at au
  exact pl (Mw (a:=a) rfl rfl au.1.1 au.1.2 dg (au.2.imp (λh=>⟨h.1,hR _ _ h.2⟩) (λh=>⟨h.1,hR _ _ h.2⟩)) he)
 ·simp only[Bool.and_eq_true]at au
  exact pl (yo rfl au.1 hg dg (hR _ _ au.2) he)
 ·simp only[Bool.and_eq_true]at au
  obtain⟨⟨⟨h1,h2⟩,h3⟩,h4⟩:=au;split at h1
  ·rename_i e ht
   exact pl (Hg rfl ht h1 dg (hR _ _ h2) h3 h4 hR he)
  ·simp at h1
 ·simp only[Bool.and_eq_true,beq_iff_eq]at au
  obtain⟨⟨rfl,h1⟩,h2⟩:=au;exact(LG dM rfl rfl h1 hg dg (lK hR h2) he).1
 ·simp only[Bool.and_eq_true,beq_iff_eq]at au
  obtain⟨⟨⟨h1,rfl⟩,h2⟩,h3⟩:=au;split at h1
  ·rename_i ht
   simp only[Bool.and_eq_true]at h1;exact pl (Mx rfl ht h1.1 h1.2 hg uf (hR _ _ h2) (hR _ _ h3) he)
  ·simp at h1
 ·split at au
  ·rename_i ha eX
   simp only[Bool.and_eq_true]at au;obtain⟨h1,h2⟩:=au;split at h1
   ·rename_i ht
    exact pl (My rfl rfl ha eX ht hg uf (hR _ _ h2) he)
   ·simp at h1
  ·simp at au
 ·simp only[Bool.and_eq_true]at au
  exact pl (L3 rfl au.1 hg dg (hR _ _ au.2) he)
 ·simp at au
theorem opW{o:Oper}{oJ:cU}{x:AV}{bp : List ag}{ids:Nat->Nat}{I:Nat->Prop}(au:lJ P R o.op oJ=true) (hW:oJ.kN=true) (dM:cx P ce) (jw:dY P ce) (hg:Good (af σ ids I) w)
  (hR:∀x y,R x y=true->VR (af σ ids I) w.heap (r y) (a.eval x)) (he:fC ce σ r oJ=some (x,bp)):bA P o a w (iT σ ids I w x bp):=by
 obtain⟨dst,op,type,pos,after,guard⟩:=o;simp only[lJ]at au;split at au
 all_goals first
  |(exfalso;simp[cU.kN]at hW;done)
  |skip
 ·simp only[Bool.and_eq_true]at au
  exact Mf rfl au.1.1 hg (hR _ _ au.1.2) (hR _ _ au.2) he
 ·split at au
  ·rename_i ha eX
   simp only[Bool.and_eq_true]at au;obtain⟨⟨⟨h1,h2⟩,h3⟩,h4⟩:=au;split at h1
   ·rename_i e ht
    simp only[Bool.and_eq_true]at h1;exact XV rfl rfl ha eX ht h2 h1.1.1 h1.1.2 h1.2 hg (hR _ _ h3) (hR _ _ h4) he
   ·simp at h1
  ·simp at au
 ·simp only[Bool.and_eq_true,beq_iff_eq]at au
  obtain⟨⟨rfl,h1⟩,h2⟩:=au;exact X2 dM rfl rfl h1 hg (lK hR h2) he
 ·simp only[Bool.and_eq_true]at au
  exact X3 dM jw rfl rfl hg (hR _ _ au.1) (lK hR au.2) he
 ·simp only[Bool.and_eq_true]at au
  exact X4 dM jw rfl rfl au.2 hg (hR _ _ au.1.1) (lK hR au.1.2) he
 ·split at au
  ·rename_i ha eX
   simp only[Bool.and_eq_true]at au;obtain⟨h1,h2⟩:=au;split at h1
   ·rename_i e ht
    simp only[Bool.and_eq_true]at h1;exact X7 rfl rfl ha eX ht h1.1 h1.2 hg (hR _ _ h2) he
   ·simp at h1
  ·simp at au
 ·simp only[Bool.and_eq_true]at au
  obtain⟨⟨⟨h1,h2⟩,h3⟩,h4⟩:=au;split at h1
  ·rename_i ht
   exact Mg (.inl rfl) ht h1 hg (hR _ _ h2) (hR _ _ h3) (hR _ _ h4) he
  ·simp at h1
 ·simp only[Bool.and_eq_true]at au
  obtain⟨⟨⟨h1,h2⟩,h3⟩,h4⟩:=au;split at h1
  ·rename_i ht
   exact Mg (.inr rfl) ht h1 hg (hR _ _ h2) (hR _ _ h3) (hR _ _ h4) he
  ·simp at h1
 ·split at au
  ·rename_i ha eX
   simp only[Bool.and_eq_true]at au;obtain⟨⟨h1,h2⟩,h3⟩:=au;split at h1
   ·rename_i e ht
    exact X8 rfl rfl ha eX ht h1 hg (hR _ _ h2) (hR _ _ h3) he
   ·simp at h1
  ·simp at au
 ·simp only[Bool.and_eq_true]at au
  obtain⟨⟨⟨h1,h2⟩,h3⟩,h4⟩:=au;split at h1
  ·rename_i ht
   simp only[Bool.and_eq_true,decide_eq_true_eq]at h1;exact Mk (.inl rfl) ht h1.1 h1.2 hg (hR _ _ h2) (hR _ _ h3) (hR _ _ h4) he
  ·simp at h1
 ·simp only[Bool.and_eq_true]at au
  obtain⟨⟨⟨h1,h2⟩,h3⟩,h4⟩:=au;split at h1
  ·rename_i ht
   simp only[Bool.and_eq_true,decide_eq_true_eq]at h1;exact Mk (.inr rfl) ht h1.1 h1.2 hg (hR _ _ h2) (hR _ _ h3) (hR _ _ h4) he
  ·simp at h1
 ·simp at au
theorem opA{o:Oper}{n:Nat}(au:lJ P R o.op (.gn n)=true) (hg:Good C w) :
  bA P o a w λv w' =>Good C w' /\Step C w C w' /\∃id c el,v = .pointer (some ⟨id,0,none⟩)/\w.heap.size<=id/\¬C.I id/\¬owned C id/\w'.heap[id]? = some (.cells c el (0,0))/\c.size=n:=by
 obtain⟨dst,op,type,pos,after,guard⟩:=o;simp only[lJ]at au;split at au
 all_goals first
  |(rename_i heq;exfalso;simp at heq;done)
  |skip
 ·rename_i t n' heq
  simp at heq;subst heq;simp only[Bool.and_eq_true]at au;obtain⟨_,h2⟩:=au;cases hi:P.info? t with
  |none=>simp[hi]at h2
  |some i=>
   simp only[hi]at h2;cases hz:i.zero with
   |none=>simp[hz]at h2
   |some v=>
    simp only[hz,beq_iff_eq]at h2;obtain⟨g1,g2⟩:=hg.grow (w' :=ck w (.cells v.cells t)) (by simp[ck]) λk hk=>mu w _ hk
    refine bA.val (v:=.pointer (some ⟨w.heap.size,0,none⟩)) (w' :=ck w (.cells v.cells t)) ?_ ⟨g1,⟨g2,by simp[ck],λk hk _=>mu w _ hk,λk hk=>.inl hk,λk hk=>.inl hk,rfl,⟨rfl,Nat.le_refl _⟩,rfl⟩,w.heap.size,v.cells,t,rfl,Nat.le_refl _,λhI=>Nat.lt_irrefl _ (hg.I _ hI),λhO=>Nat.lt_irrefl _ (hg.lt hO),oq w _,h2⟩
    simp only[execOp,Instr.alloc,zeroValue,Sem.run_bind,run_typeInfo w hi,Result.andThen_ok,hz,Sem.run_pure,Bb]
 ·simp at au
theorem opI{o:Oper}{p x:Rf}{n:Nat}(au:lJ P R o.op (.ku p x n)=true){id:Nat}{c:Array Value}{el:TypeId}(hp:∀q,R q p=true->a.eval q = .pointer (some ⟨id,0,none⟩)) (hH:w.heap[id]? = some (.cells c el (0,0))) (hc:c.size=n)
  (hR:∀q,R q x=true->VR C w.heap (r x) (a.eval q)) (hn:aN (r x)=true) (hx:(r x).cells.length=n) :
  ∃y,VR C w.heap (r x) y/\bA P o a w λ_ w' =>∃c', w' = w.setRow id c' /\c'.size=c.size/\∀j,j<y.cells.size->c'[j]? = y.cells[j]?:=by
 obtain⟨dst,op,type,pos,after,guard⟩:=o;simp only[lJ]at au;split at au
 all_goals first
  |(rename_i heq;exfalso;simp at heq;done)
  |skip
 ·rename_i t q z p' x' n' heq
  simp at heq;obtain⟨rfl,rfl,rfl⟩:=heq;simp only[Bool.and_eq_true]at au;obtain⟨⟨h1,h2⟩,h3⟩:=au;have hv:=hR _ h3;have vX:gO (r x):=⟨λe=>by rw[e]at hn;simp[aN]at hn,λl e=>by rw[e]at hn;simp[aN]at hn⟩
  have mh:=VR.size vX hv;have kG:∀v∈(a.eval z).cells.toList,v.oneCell' = true:=(VR.cells vX hv).2;have e:=hp _ h2;refine⟨a.eval z,hv,?_⟩;have ff:=run_storeCells_at P id 0 el (a.eval z).cells.toList 0 c w hH (by simp;omega) kG
  refine bA.skip (w' :=w.setRow id (c.toList.take 0++(a.eval z).cells.toList++c.toList.drop (0+(a.eval z).cells.toList.length)).toArray) ?_ ⟨_,rfl,?_,λj hj=>?_⟩
  ·have FI:=iP h1 w
   simp only[execOp,Instr.storeAt,e,Instr.sureAddr,storeVar,Sem.run_bind,Sem.run_pure,Result.andThen_ok,FI];rw[if_neg (by rw[mh,hx];simp)]
   simp only[Nat.add_zero]at ff;rw[ff]
   rfl
  ·simp;omega
  ·simp[List.getElem?_append_left,hj]
 ·simp at au
end
end Ab
namespace Ab
open Go
variable{P:Program}
namespace RC
variable (X:RC P)
theorem eU{i:Nat}(hi:aU X.ls i=true):i<X.ls.length:=by
 unfold aU at hi;cases hl:X.ls[i]? with
 |none=>simp[hl]at hi
 |some l=>exact(List.getElem?_eq_some_iff.1 hl).1
theorem og{k:Nat}:mF X.ls X.draw X.bf k=true↔(∃j,j<=k/\oR X.ls X.draw X.bf j=true)/\∃i,i<X.ls.length/\k<=i/\oS X.ls X.draw X.bf i=true:=by
 simp only[mF,Bool.and_eq_true,List.any_eq_true,List.mem_range,decide_eq_true_eq];constructor
 ·rintro⟨⟨j,h1,h2⟩,i,h3,h4,h5⟩;exact⟨⟨j,by omega,h2⟩,i,h3,h4,h5⟩
 ·rintro⟨⟨j,h1,h2⟩,i,h3,h4,h5⟩;exact⟨⟨j,by omega,h2⟩,i,h3,h4,h5⟩
theorem mG{i j:Nat}(hi:aU X.ls i=true) (hj:aU X.ls j=true) (aK:j<i):lN X.draw X.bf j i=true\/mF X.ls X.draw X.bf j=true/\mF X.ls X.draw X.bf i=true:=by
 cases hb:lN X.draw X.bf j i with
 |true=>exact .inl rfl
 |false=>
  have hl:loose X.ls X.draw X.bf j i=true:=by simp[loose,hi,hj,aK,hb]
  have h1:oR X.ls X.draw X.bf j=true:=List.any_eq_true.2 ⟨i,List.mem_range.2 (X.eU hi),hl⟩;have h2:oS X.ls X.draw X.bf i=true:=List.any_eq_true.2 ⟨j,List.mem_range.2 (X.eU hj),hl⟩;exact .inr ⟨X.og.2 ⟨⟨j,Nat.le_refl _,h1⟩,i,X.eU hi,by omega,h2⟩,X.og.2 ⟨⟨j,by omega,h1⟩,i,X.eU hi,Nat.le_refl _,h2⟩⟩
theorem lR{i:Nat}(hi:aU X.ls i=true) (hg:mF X.ls X.draw X.bf i=true):iH X.ls i=true:=by
 obtain⟨o,l,ho,hl,hF⟩:=X.at_ (X.eU hi);have h:=hF.Zh;have he:(l.op.lz||l.op.kN)=true:=by simpa[aU,hl]using hi
 simp only[sM,he,if_true,Bool.and_eq_true,hg,Bool.not_true,Bool.false_or]at h;exact h.2
theorem least{p:Nat->Prop}:∀n,p n->∃m,p m/\∀k,k<m->¬p k:=by
 intro n
 induction n using Nat.strongRecOn with
 |_ n ih=>
  intro h
  by_cases hx:∃k,k<n/\p k
  ·obtain⟨k,h1,h2⟩:=hx;exact ih k h1 h2
  ·exact⟨n,h,λk hk hp=>hx ⟨k,hk,hp⟩⟩
theorem yH{p:Nat->Prop}{L:Nat}(hL:∀k,p k->k<L){n:Nat}(h:p n):∃m,p m/\∀k,m<k->¬p k:=by
 obtain⟨d,h1,h2⟩:=least (p:=λd=>d<=L/\p (L-d)) (L-n) ⟨by omega,by have:=hL n h;rwa [show L-(L-n)=n by omega]⟩
 refine⟨L-d,h1.2,λk hk hp=>?_⟩;have:=hL k hp;exact h2 (L-k) (by omega) ⟨by omega,by rwa [show L-(L-k)=k by omega]⟩
theorem oV{k:Nat}(h:mF X.ls X.draw X.bf k=true):∃lo hi,(∀k,mF X.ls X.draw X.bf k=true↔lo<=k/\k<=hi)/\aU X.ls hi=true/\lo<=hi:=by
 obtain⟨⟨j,_,h1⟩,i,h3,_,h4⟩:=X.og.1 h;have M3:∀i,oS X.ls X.draw X.bf i=true->aU X.ls i=true/\∃j,j<i/\oR X.ls X.draw X.bf j=true:=λi hi=>by
  obtain⟨j,_,hl⟩:=List.any_eq_true.1 hi;have ct :=hl;simp only[loose,Bool.and_eq_true,decide_eq_true_eq]at hl;exact⟨hl.1.1.2,j,hl.1.2,List.any_eq_true.2 ⟨i,List.mem_range.2 (X.eU hl.1.1.2),ct⟩⟩
 obtain⟨lo,l1,l2⟩:=least (p:=λj=>oR X.ls X.draw X.bf j=true) j h1;obtain⟨hi,g1,g2⟩:=yH (p:=λi=>oS X.ls X.draw X.bf i=true) (L:=X.ls.length) (λk hk=>X.eU (M3 k hk).1) h4;obtain⟨e1,j', e2,e3⟩:=M3 hi g1;have hle:lo<=hi:=by
  have:¬j' < lo:=λaK=>l2 j' aK e3;omega
 refine⟨lo,hi,λk=>X.og.trans ⟨?_,?_⟩,e1,hle⟩
 ·rintro⟨⟨j,a1,a2⟩,i,_,b1,b2⟩
  have c1:¬j<lo:=λaK=>l2 j aK a2;have c2:¬hi<i:=λaK=>g2 i aK b2;omega
 ·rintro⟨a1,a2⟩
  exact⟨⟨lo,a1,l1⟩,hi,X.eU e1,a2,g1⟩
theorem free_spec{i:Nat}{l:Ln}(hl:X.ls[i]? = some l) (h:iH X.ls i=true):l.g=none/\l.op.lz=true/\l.op.kN=false/\l.op.mY=false/\(∀ce σ bp nl ps r,ev ce σ nl ps r l.op=ev ce bp nl ps r l.op)/\
  ∀ce σ nl ps r x p,ev ce σ nl ps r l.op=some (x,p)->((∀f as,l.op ≠ .can f as)/\∃B,p=some (.new B))\/∃bs,p=some (.news bs):=by
 simp only[iH,hl,Bool.and_eq_true,Option.isNone_iff_eq_none]at h;obtain⟨h1,h2⟩:=h;split at h2
 ·rename_i cY
  rw[cY];refine⟨h1,rfl,rfl,rfl,λ_ _ _ _ _ _=>rfl,λce σ nl ps r x p he=>.inl ⟨by simp,?_⟩⟩
  simp only[ev]at he;split at he<;>try(simp at he;done)
  split at he<;>simp at he;exact⟨_,he.2.symm⟩
 ·rename_i cY
  rw[cY];refine⟨h1,rfl,rfl,rfl,λ_ _ _ _ _ _=>rfl,λce σ nl ps r x p he=>.inr ?_⟩;simp only[ev]at he;split at he<;>try(simp at he;done)
  split at he<;>simp at he;exact⟨_,he.2.symm⟩
 ·rename_i cY
  rw[cY];refine⟨h1,rfl,rfl,rfl,λ_ _ _ _ _ _=>rfl,λce σ nl ps r x p he=>.inl ⟨by simp,?_⟩⟩
  simp only[ev]at he;split at he<;>simp at he
  exact⟨_,he.2.symm⟩
 ·rename_i cY
  rw[cY];refine⟨h1,rfl,rfl,rfl,λ_ _ _ _ _ _=>rfl,λce σ nl ps r x p he=>.inl ⟨by simp,?_⟩⟩
  simp only[ev,Option.some.injEq,Prod.mk.injEq]at he;exact⟨_,he.2.symm⟩
 ·rename_i cY
  rw[cY];refine⟨h1,rfl,rfl,rfl,λ_ _ _ _ _ _=>rfl,λce σ nl ps r x p he=>.inl ⟨by simp,?_⟩⟩
  simp only[ev]at he;split at he<;>simp at he
  exact⟨_,he.2.symm⟩
 ·simp at h2
theorem wm{i:Nat}(he:aU X.ls i=true) (hg:mF X.ls X.draw X.bf i=true):∃l,(X.st (i+1)).σ=(X.st i).σ++l:=by
 obtain⟨o,l,ho,hl,hF⟩:=X.at_ (X.eU he);obtain⟨h1,h2,h3,_,_,h4⟩:=X.free_spec hl (X.lR he hg);have hr:=X.run i l hl;unfold dd at hr;simp only[h1,want,h3,Bool.false_eq_true,if_false]at hr;split at hr
 ·rename_i v fM
  rcases h4 _ _ _ _ _ _ _ fM with⟨_,B,hB⟩|⟨bs,hB⟩<;>simp at hB
 ·rename_i v p fM
  simp only[Option.some.injEq]at hr;rw[<-hr];rcases h4 _ _ _ _ _ _ _ fM with⟨_,B,hB⟩|⟨bs,hB⟩
  ·simp at hB;subst hB;exact⟨_,rfl⟩
  ·simp at hB;subst hB;exact⟨_,rfl⟩
 ·simp at hr
theorem pre{lo hi:Nat}(ve:∀k,mF X.ls X.draw X.bf k=true↔lo<=k/\k<=hi){p:Nat}:∀(n:Nat),lo<=p->p+n<=hi+1->p+n<=X.ls.length->∃l,(X.st (p+n)).σ=(X.st p).σ++l
 |0,_,_,_=>⟨[],by simp⟩
 |n+1,h1,h2,h3=>by
  obtain⟨l,hl⟩:=pre ve n h1 (by omega) (by omega)
  cases he:aU X.ls (p+n)with
  |true=>
   obtain⟨l', ct⟩:=X.wm he ((ve _).2 ⟨by omega,by omega⟩)
   exact⟨l++l', by rw[show p+(n+1)=p+n+1 by omega,ct, hl,List.append_assoc]⟩
  |false=>
   obtain⟨o,l', ho,ct, hF⟩:=X.at_ (show p+n<X.ls.length by omega)
   exact⟨l,by rw[show p+(n+1)=p+n+1 by omega,(X.still ct he).1,hl]⟩
theorem yI{lo hi p q:Nat}(ve:∀k,mF X.ls X.draw X.bf k=true↔lo<=k/\k<=hi) (h1:lo<=p) (h2:p<=q) (h3:q<=hi+1) (h4:q<=X.ls.length):∃l,(X.st q).σ=(X.st p).σ++l:=by
 have:=X.pre ve (p:=p) (q-p) h1 (by omega) (by omega)
 rwa [show p+(q-p)=q by omega]at this
theorem lS{lo hi p q:Nat}(ve:∀k,mF X.ls X.draw X.bf k=true↔lo<=k/\k<=hi) (h1:lo<=p) (h2:p<=q) (h3:q<=hi+1) (h4:q<=X.ls.length):(X.st p).σ.length<=(X.st q).σ.length:=by
 obtain⟨l,hl⟩:=X.yI ve h1 h2 h3 h4;rw[hl];simp
theorem ux{i:Nat}(he:aU X.ls i=true) (hf:iH X.ls i=true):∃l,(X.st (i+1)).σ=(X.st i).σ++l:=by
 obtain⟨o,l,ho,hl,hF⟩:=X.at_ (X.eU he);obtain⟨h1,h2,h3,_,_,h4⟩:=X.free_spec hl hf;have hr:=X.run i l hl;unfold dd at hr;simp only[h1,want,h3,Bool.false_eq_true,if_false]at hr;split at hr
 ·rename_i v fM
  rcases h4 _ _ _ _ _ _ _ fM with⟨_,B,hB⟩|⟨bs,hB⟩<;>simp at hB
 ·rename_i v p fM
  simp only[Option.some.injEq]at hr;rw[<-hr];rcases h4 _ _ _ _ _ _ _ fM with⟨_,B,hB⟩|⟨bs,hB⟩
  ·simp at hB;subst hB;exact⟨_,rfl⟩
  ·simp at hB;subst hB;exact⟨_,rfl⟩
 ·simp at hr
theorem vu{p:Nat}:∀(n:Nat),p+n<=X.ls.length->(∀j,p<=j->j<p+n->aU X.ls j=true->iH X.ls j=true)->∃l,(X.st (p+n)).σ=(X.st p).σ++l
 |0,_,_=>⟨[],by simp⟩
 |n+1,h3,hf=>by
  obtain⟨l,hl⟩:=vu n (by omega) λj j1 j2=>hf j j1 (by omega)
  cases he:aU X.ls (p+n)with
  |true=>
   obtain⟨l', ct⟩:=X.ux he (hf _ (by omega) (by omega) he)
   exact⟨l++l', by rw[show p+(n+1)=p+n+1 by omega,ct, hl,List.append_assoc]⟩
  |false=>
   obtain⟨o,l', ho,ct, hF⟩:=X.at_ (show p+n<X.ls.length by omega)
   exact⟨l,by rw[show p+(n+1)=p+n+1 by omega,(X.still ct he).1,hl]⟩
theorem Wa{lo hi:Nat}(ve:∀k,mF X.ls X.draw X.bf k=true↔lo<=k/\k<=hi){b:Nat}:∀(n:Nat),lo+n<=hi+1->lo+n<=X.ls.length->b<(X.st (lo+n)).σ.length->b<(X.st lo).σ.length\/∃i,lo<=i/\i<lo+n/\aU X.ls i=true/\(X.st i).σ.length<=b/\b<(X.st (i+1)).σ.length
 |0,_,_,h=>.inl h
 |n+1,h1,h2,h=>by
  by_cases hb:b<(X.st (lo+n)).σ.length
  ·rcases Wa ve n (by omega) (by omega) hb with h|⟨i,a1,a2,a3⟩
   ·exact .inl h
   ·exact .inr ⟨i,a1,by omega,a3⟩
  ·cases he:aU X.ls (lo+n)with
   |true=>exact .inr ⟨lo+n,by omega,by omega,he,by omega,h⟩
   |false=>
    obtain⟨o,l', ho,ct, hF⟩:=X.at_ (show lo+n<X.ls.length by omega)
    rw[show lo+(n+1)=lo+n+1 by omega,(X.still ct he).1]at h
    omega
theorem lT{p q:Nat}(h:iA X.ls p q=true):∀j,p<=j->j<q->aU X.ls j=true->iH X.ls j=true:=λj h1 h2 h3=>by
 simp only[iA,List.all_eq_true,List.mem_range,Bool.or_eq_true,Bool.not_eq_true', decide_eq_false_iff_not]at h;rcases h j h2 with(h|h)|h
 ·omega
 ·rw[h3]at h;simp at h
 ·exact h
theorem uy{p q:Nat}(h:yB X.ls p q=true):∀j,p<=j->j<q->aU X.ls j=false:=λj h1 h2=>by
 simp only[yB,List.all_eq_true,List.mem_range,Bool.or_eq_true,Bool.not_eq_true', decide_eq_false_iff_not]at h;rcases h j h2 with h|h
 ·exact absurd h1 h
 ·exact h
end RC
section
variable{X:RC P}{C0:Ctx}{w0:World}{ds:List Deferred}{D:Nat->Prop}{C:Ctx}{f:Nat}{a:Act}{w:World}{i:Nat}
theorem iI.front (h:iI X D C f) (hD:¬D i) (hb:∀j,lN X.draw X.bf j i=true->D j) (he:aU X.ls i=true) (oW:mF X.ls X.draw X.bf i=false):f<=i/\∀j,f<=j->j<i->aU X.ls j=false:=by
 refine⟨Nat.le_of_not_lt λaK=>hD (h.lo i aK he),λj h1 h2=>?_⟩;cases hj:aU X.ls j with
 |false=>rfl
 |true=>
  rcases X.mG he hj h2 with hq|hq
  ·exact absurd (hb j hq) (h.hi j h1 hj)
  ·rw[oW]at hq;simp at hq
theorem iI.HE (h:iI X D C f) (hf:f<=i) (hn:∀j,f<=j->j<i->aU X.ls j=false) :
  (∀e,e<i+1->aU X.ls e=true->D e\/e=i)/\∀e,i+1<=e->aU X.ls e=true->¬(D e\/e=i):=by
 refine⟨λe h1 h2=>?_,λe h1 h2 h3=>?_⟩
 ·rcases Nat.lt_or_ge e i with aK|Wb
  ·rcases Nat.lt_or_ge e f with hl|hg
   ·exact .inl (h.lo e hl h2)
   ·rw[hn e hg aK]at h2;simp at h2
  ·exact .inr (by omega)
 ·rcases h3 with h3|h3
  ·exact h.hi e (by omega) h2 h3
  ·omega
theorem HF{σ l:List ag}{ids:Nat->Nat}{I:Nat->Prop}{b u:Nat}(hb:b<σ.length):(af (σ++l) ids I).own b u=(af σ ids I).own b u/\((af (σ++l) ids I).lim b u↔(af σ ids I).lim b u):=by
 have e:ak (σ++l) b=ak σ b:=by rw[dh,dh,List.getElem?_append_left hb]
 simp only[af,e,and_self]
theorem Zs{σ:List ag}{ids:Nat->Nat}{I:Nat->Prop}{b u:Nat}(h:(af σ ids I).lim b u):b<σ.length:=by
 obtain⟨B,h1,_⟩:=h;rw[dh]at h1;exact(List.getElem?_eq_some_iff.1 h1).1
theorem iI.group (h:iI X D C f) (hD:¬D i) (hb:∀j,lN X.draw X.bf j i=true->D j) (he:aU X.ls i=true) (hg:mF X.ls X.draw X.bf i=true):∃lo hi,oU X D C lo hi:=by
 obtain⟨lo,hi,g1,g2,g3⟩:=X.oV hg;have Zt:=(g1 i).1 hg;have AK:f<=i:=Nat.le_of_not_lt λaK=>hD (h.lo i aK he);have Zu:=X.eU g2;have M4:∀e,e<lo->aU X.ls e=true->D e:=λe h1 h2=>by
  rcases X.mG he h2 (by omega)with hq|hq
  ·exact hb e hq
  ·have:=(g1 e).1 hq.1;omega
 have Zv:∀e,hi<e->aU X.ls e=true->¬D e:=λe h1 h2=>h.hi e (by omega) h2
 -- the blocks now
 obtain⟨q,q1,q2,q3,q4⟩:∃q,lo<=q/\q<=hi+1/\(X.st f).σ=(X.st q).σ/\∀e,aU X.ls e=true->lo<=e->(D e↔e<q):=by
  rcases Nat.lt_or_ge f lo with aK|Wb
  ·refine⟨lo,Nat.le_refl _,by omega,((X.oT (p:=f) (q:=lo) (by omega) (by omega) λk k1 k2=>?_).1).symm,λe h1 h2=>⟨λhd=>absurd hd (h.hi e (by omega) h1),λh3=>by omega⟩⟩
   cases hk:aU X.ls k with
   |false=>rfl
   |true=>exact absurd (M4 k k2 hk) (h.hi k k1 hk)
  ·exact⟨f,Wb,by omega,rfl,λe h1 h2=>⟨λhd=>Nat.lt_of_not_le λh3=>h.hi e h3 h1 hd,λh3=>h.lo e h3 h1⟩⟩
 have lA:∀b,alive X D lo b↔b<(X.st f).σ.length:=λb=>by
  rw[q3];constructor
  ·rintro(h1|⟨k,k1,k2,k3,k4,k5⟩)
   ·have:=X.lS g1 (Nat.le_refl lo) q1 q2 (by omega);omega
   ·have a1:=(g1 k).1 k2
    have a2:=(q4 k k1 a1.1).1 k3;have:=X.lS g1 (p:=k+1) (q:=q) (by omega) (by omega) q2 (by omega)
    omega
  ·intro h1
   have Bg : b<(X.st (lo+(q-lo))).σ.length:=by rwa [show lo+(q-lo)=q by omega]
   rcases X.Wa g1 (q-lo) (by omega) (by omega) Bg with h2|⟨k,k1,k2,k3,k4,k5⟩
   ·exact .inl h2
   ·exact .inr ⟨k,k3,(g1 k).2 ⟨k1,by omega⟩,(q4 k k3 k1).2 (by omega),k4,k5⟩
 obtain⟨l,hl⟩:=X.yI g1 q1 q2 (Nat.le_refl _) (by omega)
 rw[<-q3]at hl;obtain⟨ids,s1,s2⟩:=h.gx;refine⟨lo,hi,g1,g2,g3,M4,Zv,ids,λb u e ha ho=>?_,λb u fI=>?_⟩
 ·rw[hl,(HF ((lA b).1 ha)).1]at ho
  exact s1 b u e ho
 ·have:=s2 b u fI
  have aK:=Zs this;exact⟨(lA b).2 aK,by rw[hl];exact(HF aK).2.2 this⟩
theorem oU.done{lo hi:Nat}(h:oU X D C lo hi) (fH:∀k,aU X.ls k=true->mF X.ls X.draw X.bf k=true->D k):iI X D C (hi+1):=by
 have Zu:=X.eU h.KW;have hle:=h.le;have lA:∀b,b<(X.st (hi+1)).σ.length->alive X D lo b:=λb hb=>by
  have Bg : b<(X.st (lo+(hi+1-lo))).σ.length:=by rwa [show lo+(hi+1-lo)=hi+1 by omega]
  rcases X.Wa h.oV (hi+1-lo) (by omega) (by omega) Bg with h2|⟨k,k1,k2,k3,k4,k5⟩
  ·exact .inl h2
  ·have hg:=(h.oV k).2 ⟨k1,by omega⟩
   exact .inr ⟨k,k3,hg,fH k k3 hg,k4,k5⟩
 obtain⟨ids,s1,s2⟩:=h.gx;have vg:jz C (X.st (hi+1)).σ:=by
  refine⟨ids,λb u e ho=>?_,λb u hl=>(s2 b u hl).2⟩;have aK:b<(X.st (hi+1)).σ.length:=by
   cases hq:ak (X.st (hi+1)).σ b with
   |none=>simp[af,hq]at ho
   |some B=>rw[dh]at hq;exact(List.getElem?_eq_some_iff.1 hq).1
  exact s1 b u e (lA b aK) ho
 refine⟨by omega,λe h1 h2=>?_,λe h1 h2=>h.behind e (by omega) h2,vg,λ_=>⟨by rw[Nat.add_sub_cancel];exact h.KW,λ_=>?_⟩⟩
 ·by_cases aK:e<lo
  ·exact h.before e aK h2
  ·exact fH e h2 ((h.oV e).2 ⟨by omega,by omega⟩)
 ·rw[Nat.add_sub_cancel]
  intro b u B AB hu;obtain⟨l,hl⟩:=X.yI h.oV (p:=hi) (q:=hi+1) hle (by omega) (Nat.le_refl _) (by omega)
  obtain⟨k1,k2,k3⟩:=wi hu;have aK:b<(X.st hi).σ.length:=by rw[dh]at k1;exact(List.getElem?_eq_some_iff.1 k1).1
  refine vg.seen b u B AB ?_;rw[hl];unfold fL;rw[show ak ((X.st hi).σ++l) b=ak (X.st hi).σ b by rw[dh,dh,List.getElem?_append_left aK]]
  exact hu
theorem lQ.norm (h:lQ X D C f) (hD:¬D i) (hb:∀j,lN X.draw X.bf j i=true->D j) (he:aU X.ls i=true) (oW:mF X.ls X.draw X.bf i=false):∃f,iI X D C f:=by
 rcases h with hN|⟨lo,hi,hG,_⟩
 ·exact⟨_,hN⟩
 ·have hle:=hG.le
  have dw : hi<i:=by
   have h1:¬(lo<=i/\i<=hi):=λh=>by rw[(hG.oV i).2 h]at oW;simp at oW
   have h2:¬i<lo:=λh=>hD (hG.before i h he);omega
  refine⟨_,hG.done λk hk hg=>?_⟩;have:=(hG.oV k).1 hg;rcases X.mG he hk (by omega)with hq|hq
  ·exact hb k hq
  ·rw[oW]at hq;simp at hq
theorem lQ.oV (h:lQ X D C f) (hD:¬D i) (hb:∀j,lN X.draw X.bf j i=true->D j) (he:aU X.ls i=true) (hg:mF X.ls X.draw X.bf i=true):∃lo hi,oU X D C lo hi:=by
 rcases h with hN|⟨lo,hi,hG,_⟩
 ·exact hN.group hD hb he hg
 ·exact⟨lo,hi,hG⟩
theorem M5{C:Ctx}{σ l:List ag}(h:Seen C (σ++l)):Seen C σ:=λb u B AB hu=>by
 refine h b u B AB ?_;have hb:=(wi hu).1;have aK:b<σ.length:=by rw[dh]at hb;exact(List.getElem?_eq_some_iff.1 hb).1
 unfold fL at hu ⊢
 rwa [show ak (σ++l) b=ak σ b by rw[dh,dh,List.getElem?_append_left aK]]
theorem Inv.Zw (h:Inv X C0 w0 ds D C f a w) (hi:i<X.ls.length) (hD:¬D i) (hb:∀j,lN X.draw X.bf j i=true->D j){o:Oper}{l:Ln}(hl:X.ls[i]? = some l) (hF:sN X i o l)
  (hE:l.op.lz=false) (hW:l.op.kN=false) (hP:l.op.jG=false):Seen C (if l.prev then(X.st i).az else(X.st i).σ):=by
 have hr:=hF.read;simp only[uv,hE,hW,hP,Bool.or_self,Bool.false_eq_true,if_false,Bool.and_eq_true,List.all_eq_true,List.mem_range]at hr;obtain⟨AL,AM⟩:=hr;generalize hv:lP X.ls i l=v at AL AM;have hvi:v<=i:=by
  by_cases hp:l.prev=true
  ·simp only[hp,if_true,Bool.and_eq_true,decide_eq_true_eq]at AL
   omega
  ·have:v=i:=by rw[<-hv];simp[lP,hp]
   omega
 have M6:(if l.prev then(X.st i).az else(X.st i).σ)=(X.st v).σ:=by
  by_cases hp:l.prev=true
  ·simp only[hp,if_true,Bool.and_eq_true,decide_eq_true_eq]at AL ⊢
   obtain⟨⟨q1,q2⟩,q3⟩:=AL;have h1:=(X.oT (p:=v+1) (q:=i) (by omega) (Nat.le_of_lt hi) (X.uy q3)).2
   rw[h1];obtain⟨ov,lv,_,tU,hFv⟩:=X.at_ (show v<X.ls.length by omega)
   have cD:=X.run v lv tU;simp only[HA,tU,Bool.and_eq_true,Option.isNone_iff_eq_none]at q2;have hef:=hFv.Zh;simp only[sM,q2.1,Bool.true_or,if_true,Bool.and_eq_true,Bool.not_eq_true']at hef;unfold dd at cD;simp only[q2.2,want]at cD;have hW:lv.op.kN=false:=by revert q2;cases lv.op<;>simp[cU.lz,cU.kN]
   rw[if_neg (by rw[hW];simp)]at cD
   split at cD
   ·simp only[q2.1,if_true,Option.some.injEq]at cD;rw[<-cD]
   ·simp only[Option.some.injEq]at cD;rw[<-cD]
   ·simp at cD
  ·have:v=i:=by rw[<-hv];simp[lP,hp]
   simp[hp,this]
 rw[M6];have fc:∀j,aU X.ls j=true->j<X.ls.length:=λj hj=>by
  unfold aU at hj;cases hl:X.ls[j]? with
  |none=>simp[hl]at hj
  |some l=>exact(List.getElem?_eq_some_iff.1 hl).1
 have key:∀j,aU X.ls j=true->if j<v then(lN X.draw X.bf j i=true\/(iA X.ls j v=true/\yA X.ls X.draw X.bf=true))else lN X.draw X.bf i j=true\/(HA X.ls j=true/\iA X.ls v j=true):=λj hj=>by
  have:=AM j (fc j hj);simp only[hj,Bool.not_true,Bool.false_or]at this
  by_cases aK:j<v
  ·simpa[aK]using this
  ·simp only[aK,if_false,Bool.or_eq_true,Bool.and_eq_true]at this ⊢
   exact this.imp (λq=>q) λq=>⟨q.1.2,q.2⟩
 rcases h.fr with hN|⟨lo,hi,hS,k0,y1,y2,y3⟩
 ·rcases Nat.lt_or_ge v f with Wc|Wc
  ·obtain⟨e1,e2⟩:=hN.last (by omega)
   have hd:=hN.lo (f-1) (by omega) e1
   have:=key (f-1) e1;rw[if_neg (by omega)]at this
   rcases this with k|⟨k1,k2⟩
   ·exact absurd (h.closed _ _ hd k) hD
   ·obtain⟨l', ct⟩:=X.vu (p:=v) (f-1-v) (by have:=hN.Zj;omega) λj j1 j2=>X.lT k2 j j1 (by omega)
    rw[show v+(f-1-v)=f-1 by omega]at ct
    have:=e2 k1;rw[ct]at this;exact M5 this
  ·have BB:∀j,f<=j->j<v->aU X.ls j=true->iH X.ls j=true:=λj j1 j2 hj=>by
    have:=key j hj;rw[if_pos j2]at this;rcases this with this|this
    ·exact absurd (hb j this) (hN.hi j j1 hj)
    ·have:=this.1
     simp only[iA,List.all_eq_true,List.mem_range,Bool.or_eq_true,Bool.not_eq_true', decide_eq_false_iff_not]at this;rcases this j j2 with(q|q)|q
     ·exact absurd (Nat.le_refl j) q
     ·rw[hj]at q;simp at q
     ·exact q
   obtain⟨l', ct⟩:=X.vu (p:=f) (v-f) (by omega) λj j1 j2=>BB j j1 (by omega)
   rw[show f+(v-f)=v by omega]at ct
   intro b u B AB hu;obtain⟨ids,s1,s2⟩:=hN.gx;have aK:b<(X.st f).σ.length:=by
    obtain⟨B1,q1,_⟩:=s2 b u AB;rw[dh]at q1;exact(List.getElem?_eq_some_iff.1 q1).1
   refine hN.gx.seen b u B AB ?_;rw[ct]at hu;unfold fL at hu ⊢
   rwa [show ak ((X.st f).σ++l') b=ak (X.st f).σ b by rw[dh,dh,List.getElem?_append_left aK]]at hu
 ·-- all We before v are done;of aog behind it at aom the first one
  have hle:=hS.le;have Zu:=X.eU hS.KW;have k1:∀e,aU X.ls e=true->e<v->D e:=λe he aK=>by
   have:=key e he;rw[if_pos aK]at this;rcases this with this|this
   ·exact hb e this
   ·have h2:=this.2
    simp only[yA,List.all_eq_true,List.mem_range,Bool.not_eq_true']at h2;have:=h2 k0 (X.eU y1);rw[y2]at this;simp at this
  have k2:∀e,aU X.ls e=true->D e->v<=e->iA X.ls v e=true:=λe he hd hle=>by
   have:=key e he;rw[if_neg (by omega)]at this
   rcases this with hq|hq
   ·exact absurd (h.closed _ _ hd hq) hD
   ·exact hq.2
  by_cases nG:hi<v
  ·have hN:=hS.done λk hk hg=>k1 k hk (by have:=(hS.oV k).1 hg;omega)
   rw[(X.oT (p:=hi+1) (q:=v) (by omega) (by omega) λj j1 j2=>by
    cases hj:aU X.ls j with
    |false=>rfl
    |true=>exact absurd (k1 j hj j2) (hS.behind j (by omega) hj)).1]
   exact hN.gx.seen
  ·obtain⟨q,q1,q2,⟨l', q3⟩,q4⟩:∃q,lo<=q/\q<=hi/\(∃l', (X.st q).σ=(X.st v).σ++l')/\∀e,aU X.ls e=true->e<q->D e:=by
    by_cases tU:lo<=v
    ·exact⟨v,tU,by omega,⟨[],by simp⟩,k1⟩
    ·have jY:=(hS.oV k0).1 y2
     have bY:=X.lT (k2 k0 y1 y3 (by omega))
     obtain⟨l', ct⟩:=X.vu (p:=v) (lo-v) (by omega) λj j1 j2=>bY j j1 (by omega)
     rw[show v+(lo-v)=lo by omega]at ct
     exact⟨lo,Nat.le_refl _,hle,⟨l', ct⟩,λe he aK=>hS.before e aK he⟩
   refine M5 (l:=l') ?_;rw[<-q3];intro b u B _ hu;obtain⟨u1,u2,u3⟩:=wi hu;have aK:b<(X.st q).σ.length:=by rw[dh]at u1;exact(List.getElem?_eq_some_iff.1 u1).1
   have lA:alive X D lo b:=by
    have Bg : b<(X.st (lo+(q-lo))).σ.length:=by rwa [show lo+(q-lo)=q by omega]
    rcases X.Wa hS.oV (q-lo) (by omega) (by omega) Bg with h2|⟨k,a1,a2,a3,a4,a5⟩
    ·exact .inl h2
    ·exact .inr ⟨k,a3,(hS.oV k).2 ⟨a1,by omega⟩,q4 k a3 (by omega),a4,a5⟩
   obtain⟨l,hl⟩:=X.yI hS.oV (p:=q) (q:=hi+1) q1 (by omega) (Nat.le_refl _) (by omega)
   obtain⟨ids,s1,s2⟩:=hS.gx;refine⟨ids b,s1 b u _ lA ?_⟩;rw[hl,(HF aK).1];exact sB ids C.I hu
end
end Ab
namespace Ab
open Go
variable{P:Program}
def cmt (σ:List ag):Option aX->List ag
 |some q=>fT σ q
 |none=>σ
theorem Zx{ls:List Ln}{t m:Nat}(h:eA ls t=some m):lO ls t=none:=by
 unfold eA at h;unfold lO;cases hl:ls[t]? with
 |none=>rfl
 |some l=>
  simp only[hl]at h ⊢;split at h
  ·rename_i cY;rw[cY]
  ·simp at h
theorem M7 (σ l:List ag) (b:Nat):ak (σ++l) b=if b<σ.length then ak σ b else ak l (b-σ.length):=by
 rw[dh,dh,dh]
 by_cases hb:b<σ.length
 ·rw[if_pos hb,List.getElem?_append_left hb]
 ·rw[if_neg hb,List.getElem?_append_right (by omega)]
open Classical in
noncomputable def vw (σ:List ag) (A:Nat->Prop) (ids:Nat->Nat) (I:Nat->Prop):Ctx where
 I:=I
 own:=λb u=>if A b then(af σ ids I).own b u else none
 lim:=λb u=>A b/\(af σ ids I).lim b u
section
variable{X:RC P}{C0:Ctx}{w0:World}{ds:List Deferred}{D:Nat->Prop}{C:Ctx}{f:Nat}{a:Act}{w:World}{i:Nat}
theorem Inv.next (h:Inv X C0 w0 ds D C f a w) (hi:i<X.ls.length) (hD:¬D i) (hb:∀j,lN X.draw X.bf j i=true->D j) (Q:Exit->Act->World->Prop) :
  wpOp P X.ops.toArray Q i (λa' w' =>∃C' f', Inv X C0 w0 ds (λj=>D j\/j=i) C' f' a' w') a w:=by
 obtain⟨o,l,ho,hl,hF⟩:=X.at_ hi;have cD:=X.run i l hl;have hR:∀x y,qF X.draw X.bf X.ops X.ls X.sl i x y=true->VR C w.heap (rv X.vars (X.st i).env y) (a.eval x):=λx y hr=>h.ref hi hD hb hr;unfold wpOp;simp only[List.getElem?_toArray,ho];unfold dd at cD;cases hw:want X.vars (X.st i).env l.g with
 |none=>simp[hw]at cD
 |some b=>
  have hwa:=h.wanted hi hb hF hw;rw[hwa];simp only[hw]at cD;cases b with
  |false=>
   simp only[Bool.false_eq_true,if_false];simp only[Option.some.injEq]at cD;have eZ:valOf X.st i = .bQ []:=by rw[valOf,<-cD]
   have xA:l.g ≠ none:=λe=>by rw[e]at hw;simp[want]at hw
   have BK:lO X.ls i=none:=by
    cases ht:lO X.ls i with
    |none=>rfl
    |some t=>
     obtain⟨_,_,l', _,_,_,_,ct, _,_,xy, _⟩:=X.fD ht;rw[hl]at ct; simp at ct; subst ct;exact absurd xy xA
   have rB:eA X.ls i=none:=by
    unfold eA;simp only[hl];split
    ·rename_i m cY
     have:=hF.ku;simp only[oQ,cY,Bool.and_eq_true,Option.isNone_iff_eq_none]at this;exact absurd this.1 xA
    ·rfl
   have M8:VR C w.heap (valOf X.st i) undef:=by rw[eZ];unfold VR;exact⟨[],rfl,rfl⟩
   cases he:aU X.ls i with
   |false=>
    exact⟨C,f,h.after hi hD hb ho h.good (Step.refl _ _) BK M8 (λm hm=>by rw[rB]at hm;simp at hm) (h.fr.sO he C.I)⟩
   |true=>
    have oW:mF X.ls X.draw X.bf i=false:=by
     cases hg:mF X.ls X.draw X.bf i with
     |false=>rfl
     |true=>exact absurd (X.free_spec hl (X.lR he hg)).1 xA
    obtain⟨f', hN⟩:=h.fr.norm hD hb he oW;obtain⟨q1,q2⟩:=hN.front hD hb he oW;obtain⟨e1,e2⟩:=hN.HE q1 q2;have hs:(X.st (i+1)).σ=(X.st f').σ:=by rw[<-cD];exact(X.oT q1 (Nat.le_of_lt hi) q2).1
    refine⟨C,i+1,h.after hi hD hb ho h.good (Step.refl _ _) BK M8 (λm hm=>by rw[rB]at hm;simp at hm) (.inl ⟨by omega,e1,e2,by rw[hs];exact hN.gx,λ_=>⟨he,λFJ=>?_⟩⟩)⟩
    simp only[Nat.add_sub_cancel,HA,hl,Bool.and_eq_true,Option.isNone_iff_eq_none]at FJ;exact absurd FJ.2 xA
  |true=>
   dsimp only at cD;simp only[if_true];refine .inl ?_
   by_cases xB:l.op.kN=true
   ·rw[if_pos xB]at cD
    have he:aU X.ls i=true:=by simp[aU,hl,xB]
    have oW:mF X.ls X.draw X.bf i=false:=by
     cases hg:mF X.ls X.draw X.bf i with
     |false=>rfl
     |true=>rw[(X.free_spec hl (X.lR he hg)).2.2.1]at xB;simp at xB
    obtain⟨f', hN⟩:=h.fr.norm hD hb he oW;obtain⟨q1,q2⟩:=hN.front hD hb he oW;have HG:=(X.oT q1 (Nat.le_of_lt hi) q2).1;obtain⟨ids,g1,g2⟩:=hN.gx.take h.good;rw[<-HG]at g1 g2;split at cD
    ·rename_i v bp fM
     simp only[Option.some.injEq]at cD;have BK:lO X.ls i=none:=by
      cases ht:lO X.ls i with
      |none=>rfl
      |some t=>
       obtain⟨_,_,l', _,_,_,_,ct, _,cY,_⟩:=X.fD ht;rw[hl]at ct; simp at ct; subst ct;rw[cY]at xB;simp[cU.kN]at xB
     have rB:eA X.ls i=none:=by
      unfold eA;simp only[hl];split
      ·rename_i m cY;rw[cY]at xB;simp[cU.kN]at xB
      ·rfl
     refine opW hF.op xB X.dM X.jw g1 (λx y hr=>VR.mono g2.ev _ _ (hR x y hr)) fM _ Q λv' w' hp=>?_;obtain⟨aJ, I', k1,k2,k3⟩:=hp;obtain⟨e1,e2⟩:=hN.HE q1 q2;have hs:(X.st (i+1)).σ=bp :=by rw[<-cD]
     have eZ:valOf X.st i=v:=by rw[valOf,<-cD]
     refine⟨_,i+1,h.after hi hD hb ho k1 (g2.trans k2) BK (by rw[eZ];exact k3) (λm hm=>by rw[rB]at hm;simp at hm) (.inl ⟨by omega,e1,e2,by rw[hs];exact MP _ _ _,λ_=>⟨he,λFJ=>?_⟩⟩)⟩
     simp only[Nat.add_sub_cancel,HA,hl,Bool.and_eq_true]at FJ;exfalso
     revert xB FJ;cases l.op<;>simp[cU.lz,cU.kN]
    ·simp at cD
   ·rw[if_neg xB]at cD
    have M9:l.op.kN=false:=by simpa using xB
    cases fM:ev X.ce (if l.prev then(X.st i).az else(X.st i).σ) (X.st i).σ.length [] (rv X.vars (X.st i).env) l.op with
    |none=>simp[fM]at cD
    |some vp=>
     obtain⟨v,p⟩:=vp;simp only[fM]at cD;have eZ:valOf X.st i=v:=by cases p<;>simp only[Option.some.injEq]at cD<;>rw[valOf,<-cD]<;>rfl
     have bR:(X.st (i+1)).σ=cmt (X.st i).σ p:=by cases p<;>simp only[Option.some.injEq]at cD<;>rw[<-cD]<;>rfl
     cases hE:l.op.lz with
     |true=>
      have he:aU X.ls i=true:=by simp[aU,hl,hE]
      have yJ:l.prev=false:=by
       have:=hF.Zh;simp only[sM,hE,Bool.true_or,if_true,Bool.and_eq_true,Bool.not_eq_true']at this;exact this.1
      rw[yJ]at fM;simp only[Bool.false_eq_true,if_false]at fM;have BK:lO X.ls i=none:=by
       cases ht:lO X.ls i with
       |none=>rfl
       |some t=>
        obtain⟨_,_,l', _,_,_,_,ct, _,cY,_⟩:=X.fD ht;rw[hl]at ct; simp at ct; subst ct;rw[cY]at hE;simp[cU.lz]at hE
      have rB:eA X.ls i=none:=by
       unfold eA;simp only[hl];split
       ·rename_i m cY;rw[cY]at hE;simp[cU.lz]at hE
       ·rfl
      have yn:l.op.mY=false:=by revert hE;cases l.op<;>simp[cU.lz,cU.mY]
      cases oW:mF X.ls X.draw X.bf i with
      |false=>
       obtain⟨f', hN⟩:=h.fr.norm hD hb he oW;obtain⟨q1,q2⟩:=hN.front hD hb he oW;obtain⟨ids,g1,g2⟩:=hN.gx.take h.good;have HG:=(X.oT q1 (Nat.le_of_lt hi) q2).1;rw[<-HG]at g1 g2;refine opE hF.op M9 yn X.dM X.jw g1 (λb u B _ hu=>⟨_,sB ids C.I hu⟩) (λ_ _=>vZ) (λl' _ b u mH _ fI=>?_) (λb u B cs hu _ _=>⟨λn hn fI=>?_,λu' B' id' bH=>?_⟩) (λx y hr=>VR.mono g2.ev _ _ (hR x y hr)) rfl fM _ Q λv' w' hp=>?_
       ·obtain⟨B,hB,_⟩:=fI
        rw[dh,List.getElem?_eq_none (by omega)]at hB;simp at hB
       ·obtain⟨B', hB,hle⟩:=fI
        obtain⟨k1,k2,_⟩:=q9 hu;rw[k1]at hB;simp at hB;subst hB;omega
       ·obtain⟨k1,k2,_⟩:=q9 hu
        rw[<-k2];exact mA (u:=0) k1 u' B' id' bH
       ·obtain⟨C', k1,k2,k3,k4⟩:=hp
        obtain⟨s1,s2⟩:=Ext.gx k1 k4;obtain⟨e1,e2⟩:=hN.HE q1 q2;exact⟨C', i+1,h.after hi hD hb ho k1 (g2.trans k2) BK (by rw[eZ];exact k3) (λm hm=>by rw[rB]at hm;simp at hm) (.inl ⟨by omega,e1,e2,by rw[bR];cases p<;>exact s1,λ_=>⟨he,λ_=>s2⟩⟩)⟩
      |true=>
       obtain⟨lo,hh,hG⟩:=h.fr.oV hD hb he oW;obtain⟨fr1,fr2,fr3,fr4,fr5,fr6⟩:=X.free_spec hl (X.lR he oW);have fc:=(hG.oV i).1 oW;have Zu:=X.eU hG.KW;have hle:=hG.le;obtain⟨ids,m1,m2⟩:=hG.gx;obtain⟨bs,KY,uz⟩:∃bs,(X.st (i+1)).σ=(X.st i).σ++bs/\(((∀f as,l.op ≠ .can f as)/\∃B,p=some (.new B)/\bs=[B])\/p=some (.news bs)):=by
        rcases fr6 _ _ _ _ _ _ _ fM with⟨hc,B,rfl⟩|⟨bs,rfl⟩
        ·exact⟨[B],by rw[bR];rfl,.inl ⟨hc,B,rfl,rfl⟩⟩
        ·exact⟨bs,by rw[bR];rfl,.inr rfl⟩
       have hlen:(X.st (i+1)).σ.length=(X.st i).σ.length+bs.length:=by rw[KY];simp
       have Na:∀b,(X.st i).σ.length<=b->b<(X.st (i+1)).σ.length->¬alive X D lo b:=by
        rintro b b1 b2 (h1|⟨k,k1,k2,k3,k4,k5⟩)
        ·have:=X.lS hG.oV (p:=lo) (q:=i) (Nat.le_refl _) fc.1 (by omega) (by omega);omega
        ·have hk:=(hG.oV k).1 k2
         rcases Nat.lt_trichotomy k i with aK|rfl|hgt
         ·have:=X.lS hG.oV (p:=k+1) (q:=i) (by omega) (by omega) (by omega) (by omega);omega
         ·exact hD k3
         ·have:=X.lS hG.oV (p:=i+1) (q:=k) (by omega) (by omega) (by omega) (by omega);omega
       have Zy:=Good.shrink (C2:=vw (X.st (hh+1)).σ (alive X D lo) ids C.I) h.good rfl (λb u e aW =>by
        unfold vw at aW;dsimp only at aW;split at aW
        ·rename_i ha;exact m1 b u e ha aW
        ·simp at aW) m2
       have wq : ∀b,alive X (λj=>D j\/j=i) lo b↔alive X D lo b\/((X.st i).σ.length<=b/\b<(X.st (i+1)).σ.length):=λb=>by
        constructor
        ·rintro(h1|⟨k,k1,k2,k3,k4⟩)
         ·exact .inl (.inl h1)
         ·rcases k3 with k3|rfl
          ·exact .inl (.inr ⟨k,k1,k2,k3,k4⟩)
          ·exact .inr k4
        ·rintro((h1|⟨k,k1,k2,k3,k4⟩)|h1)
         ·exact .inl h1
         ·exact .inr ⟨k,k1,k2,.inl k3,k4⟩
         ·exact .inr ⟨i,he,oW,.inr rfl,h1⟩
       obtain⟨l2,lU⟩:=X.yI hG.oV (p:=i+1) (q:=hh+1) (by omega) (by omega) (Nat.le_refl _) (by omega)
       have hblk:∀b,(X.st i).σ.length<=b->b<(X.st (i+1)).σ.length->ak (X.st (hh+1)).σ b=ak bs (b-(X.st i).σ.length):=λb b1 b2=>by
        rw[lU,M7,if_pos b2,KY,M7,if_neg (by omega)]
       refine opE (σ:=[]) hF.op M9 yn X.dM X.jw Zy.1 (λb u B _ hu=>by simp[fL,ak]at hu) (λ_ hc u fI=>?_) (λl' hq b u mH AN fI=>?_) (λb u B cs hu _ _=>by simp[upto,ak]at hu) (λx y hr=>VR.mono Zy.2.ev _ _ (hR x y hr)) rfl (by rw[fr5 X.ce [] (X.st i).σ];exact fM) _ Q λv' w' hp=>?_
       ·rcases uz with⟨_,B,_,rfl⟩|hq
        ·exact Na _ (Nat.le_refl _) (by rw[hlen];simp) fI.1
        ·exfalso
         rcases fr6 _ _ _ _ _ _ _ fM with⟨_,B,hB⟩|⟨bs', hB⟩
         ·rw[hq]at hB;simp at hB
         ·have hf:=X.lR he oW
          simp only[iH,hl,Bool.and_eq_true]at hf;have AG:=hf.2;split at AG
          ·rename_i cY;rw[cY]at fM;simp only[ev]at fM
           split at fM<;>try(simp at fM;done)
           split at fM<;>simp at fM;rw[<-fM.2]at hq;simp at hq
          ·rename_i f as cY;exact hc f as cY
          ·rename_i cY;rw[cY]at fM;simp only[ev]at fM
           split at fM<;>simp at fM;rw[<-fM.2]at hq;simp at hq
          ·rename_i cY;rw[cY]at fM;simp[ev]at fM
           rw[<-fM.2]at hq;simp at hq
          ·rename_i cY;rw[cY]at fM;simp only[ev]at fM
           split at fM<;>simp at fM;rw[<-fM.2]at hq;simp at hq
          ·simp at AG
       ·rcases uz with⟨_,B,Zz, _⟩|Zz
        ·rw[Zz]at hq;simp at hq
        ·rw[Zz]at hq;simp at hq;subst hq
         exact Na b mH (by omega) fI.1
       ·obtain⟨C', k1,k2,k3,k4⟩:=hp
        have vg:∃aJ, (∀b u e,alive X (λj=>D j\/j=i) lo b->(af (X.st (hh+1)).σ aJ C'.I).own b u=some e->C'.own b u=some e)/\∀b u,C'.lim b u->alive X (λj=>D j\/j=i) lo b/\(af (X.st (hh+1)).σ aJ C'.I).lim b u:=by
         rcases uz with⟨_,B,rfl,rfl⟩|rfl
         ·obtain⟨id,k5,k6⟩:=k4
          have jh:B.st ≠ .dead:=(k1.kR (X.st i).σ.length B.cells.length B id (by rw[k5];simp[ar])).2.2.2
          have mH:=hblk (X.st i).σ.length (Nat.le_refl _) (by rw[hlen];simp)
          rw[Nat.sub_self]at mH;refine⟨λq=>if q=(X.st i).σ.length then id else ids q,λb u e ha aW =>?_,λb u fI=>?_⟩
          ·rw[k5]
           by_cases e0:b=(X.st i).σ.length
           ·subst e0
            simp only[af,mH,ak,if_true]at aW;have hu:B.cells.length=u/\(B,id)=e:=by
             cases hs:B.st<;>simp only[hs]at aW jh
             ·split at aW <;>simp at aW; rename_i h;exact⟨h,aW⟩
             ·split at aW <;>simp at aW; rename_i h;exact⟨h,aW⟩
             ·exact absurd rfl jh
             ·split at aW <;>simp at aW; rename_i h;exact⟨h,aW⟩
            obtain⟨rfl,rfl⟩:=hu;simp[ar]
           ·have ny : alive X D lo b:=by
             rcases(wq b).1 ha with h|h
             ·exact h
             ·rw[hlen]at h;simp at h;omega
            simp only[ar];rw[if_neg (by omega)]
            simp only[vw,ny, if_true];simp only[af,e0,if_false]at aW;exact aW
          ·rw[k6]at fI
           rcases fI with⟨rfl,rfl⟩|⟨h1,h2⟩
           ·exact⟨(wq _).2 (.inr ⟨Nat.le_refl _,by rw[hlen];simp⟩),B,mH,Nat.le_refl _⟩
           ·exact⟨(wq _).2 (.inl h1),h2⟩
         ·obtain⟨uu,k5,k6⟩:=k4
          refine⟨λq=>if(X.st i).σ.length<=q/\q<(X.st (i+1)).σ.length then uu (q-(X.st i).σ.length)else ids q,λb u e ha aW =>?_,λb u fI=>?_⟩
          ·rw[k5]
           dsimp only
           by_cases e0:(X.st i).σ.length<=b/\b<(X.st (i+1)).σ.length
           ·rw[if_pos (by omega)]
            simp only[af,hblk b e0.1 e0.2,e0,and_self,if_true]at aW;exact aW
           ·have ny : alive X D lo b:=by
             rcases(wq b).1 ha with h|h
             ·exact h
             ·exact absurd h e0
            rw[if_neg (by omega)]
            simp only[vw,ny, if_true];simp only[af,e0,if_false]at aW;exact aW
          ·rw[k6]at fI
           rcases fI with⟨h1,B', h2,h3⟩|⟨h1,h2⟩
           ·have aK:b-(X.st i).σ.length<bs.length:=by rw[dh]at h2;exact(List.getElem?_eq_some_iff.1 h2).1
            exact⟨(wq _).2 (.inr ⟨h1,by omega⟩),B', by rw[hblk b h1 (by omega)];exact h2,h3⟩
           ·exact⟨(wq _).2 (.inl h1),h2⟩
        refine⟨C', f,h.after hi hD hb ho k1 (Zy.2.trans k2) BK (by rw[eZ];exact k3) (λm hm=>by rw[rB]at hm;simp at hm) (.inr ⟨lo,hh,⟨hG.oV,hG.KW,hG.le,λe h1 h2=>.inl (hG.before e h1 h2),λe h1 h2 h3=>?_,vg⟩,i,he,oW,.inr rfl⟩)⟩
        rcases h3 with h3|rfl
        ·exact hG.behind e h1 h2 h3
        ·omega
     |false=>
      have he:aU X.ls i=false:=by simp[aU,hl,hE,M9]
      have hpn:=MT hE fM;subst hpn;cases hP:l.op.jG with
      |false=>
       have BK:lO X.ls i=none:=by
        cases ht:lO X.ls i with
        |none=>rfl
        |some t=>
         obtain⟨_,_,l', _,_,_,_,ct, _,cY,_⟩:=X.fD ht;rw[hl]at ct; simp at ct; subst ct;rw[cY]at hP;simp[cU.jG]at hP
       have rB:eA X.ls i=none:=by
        unfold eA;simp only[hl];split
        ·rename_i m cY;rw[cY]at hP;simp[cU.jG]at hP
        ·rfl
       refine opR hF.op hP hE M9 X.dM h.good (h.Zw hi hD hb hl hF hE M9 hP) hR fM _ Q λv' w' hp=>?_;obtain⟨I', k1,k2,k3⟩:=hp;exact⟨_,f,h.after hi hD hb ho k1 k2 BK (by rw[eZ];exact k3) (λm hm=>by rw[rB]at hm;simp at hm) (h.fr.sO he I')⟩
      |true=>
       cases ht:lO X.ls i with
       |some t=>
        obtain⟨_,o', l', d,x,m,aW, ct, _,cY,xy, HC,hd,KX,lA,MX,MY⟩:=X.fD ht;rw[hl]at ct; simp at ct; subst ct;rw[ho]at aW; simp at aW; subst aW;have Zq:∀i', D i' ->lO X.ls i' ≠ some t:=λi' dw e=>hD (X.vt ht e▸dw);obtain⟨s,id,c,el,k1,k2,k3,k4,k5,k6,k7⟩:=h.lb t m (hb _ MX) lA Zq;rw[cY]at fM;simp only[ev]at fM;split at fM
        case isFalse=>simp at fM
        rename_i hc;simp only[Bool.and_eq_true,beq_iff_eq]at hc;simp at fM;have wj :=hF.op;rw[cY]at wj;obtain⟨y,q1,q2⟩:=opI wj (w:=w) (a:=a) (C:=C) (r:=rv X.vars (X.st i).env) (id:=id) (c:=c) (el:=el) (λq hq=>by
         unfold qF at hq;split at hq
         ·rename_i s' d' heq
          simp only[Rf.t.injEq]at heq;subst heq;simp only[Bool.and_eq_true,beq_iff_eq]at hq;have gP :=hq.1.2;rw[<-KX]at gP;simp only[jn,Zx lA,k1,Option.some.injEq]at gP;subst gP;exact k2
         all_goals (rename_i heq;first|(simp at heq;done)|(simp at hq;done)|skip)) k6 k7 (λq hq=>hR q x hq) hc.1 hc.2
        refine q2 _ Q λv' w' hp=>?_;obtain⟨c', rfl,z1,z2⟩:=hp;rw[HC];exact⟨_,f,h.fill hi hD hb hl cY ht (by rw[eZ,<-fM]) hc.1 q1 k1 k2 k3 k4 k5 k6 z1 z2⟩
       |none=>
        cases lA:eA X.ls i with
        |some m=>
         have cY:l.op = .gn m:=by
          unfold eA at lA;simp only[hl]at lA;split at lA
          ·rename_i m' cY;simp at lA;rw[cY,lA]
          ·simp at lA
         have wj :=hF.op;rw[cY]at wj fM;simp[ev]at fM;have MW:=hF.ku;simp only[oQ,cY,Bool.and_eq_true]at MW;obtain⟨s,hs⟩:=Option.isSome_iff_exists.1 MW.2;refine opA (w:=w) (a:=a) (C:=C) wj h.good _ Q λv' w' hp=>?_;obtain⟨p1,p2,id,c,el,p3⟩:=hp;exact⟨C,f,h.after hi hD hb ho p1 p2 ht (by rw[eZ,<-fM];unfold VR;trivial) (λm' nE =>by
          rw[lA]at nE; simp at nE; subst nE;exact⟨⟨s,hs⟩,id,c,el,p3⟩) (h.fr.sO he C.I)⟩
        |none=>
         have yn:l.op.mY=false:=by
          cases cY:l.op with
          |gn m=>simp[eA,hl,cY]at lA
          |ku p x n=>
           have:=hF.ku;cases p with
           |t d=>simp[lO,hl,cY]at ht
           |v k=>simp[oQ,cY]at this
           |c x=>simp[oQ,cY]at this
          |_=>rfl
         obtain⟨q1,_⟩:=opP (w:=w) (a:=a) (C:=C) hF.op hP yn X.dM X.jw h.good hR rfl fM;refine q1 _ Q λv' w' hp=>?_;obtain⟨I', k1,k2,k3⟩:=hp;exact⟨_,f,h.after hi hD hb ho k1 k2 ht (by rw[eZ];exact k3) (λm hm=>by rw[lA]at hm;simp at hm) (h.fr.sO he I')⟩
end
end Ab
namespace Ab
open Go
variable{P:Program}
structure Rel (sl:List Nat) (nt:Nat) (ds:List Deferred) (s:St) (C:Ctx) (a:Act) (w:World):Prop where
 good:Good C w
 size:a.tmps.size=nt
 defers:a.defers=ds
 vars:∀k t,sl[k]? = some t->VR C w.heap (nth s.vars k) (a.tmps.getD t undef)
 fl:∀t v,s.fl=some (t,v)->VR C w.heap v (a.tmps.getD t undef)
def vy (ops:List Oper) (ls:List Ln) (sl:List Nat) (r:ga):Bool:=
 (r.outs.all λ(k,d)=>decide (d<ls.length)&&match sl[k]? with|some t=>jn ops ls (ls.length-1-d)==some t|none=>true) &&
 ((List.range sl.length).all λk=>r.dG.any (·== k)||r.outs.any (·.1==k)||(List.range ls.length).all λj=>match sl[k]?,cX ops j with|some t,some t' =>t != t' | _,_=>true) &&
 (match r.fl with|some (t,d)=>decide (d<ls.length)&&jn ops ls (ls.length-1-d)==some t|none=>true)
def yK (P:Program) (draw:Bool) (ops:List Oper) (sl:List Nat) (nt:Nat) (r:ga):Bool:=
 ops.length==r.ls.length&&((List.range r.ls.length).all (uw P draw (MU ops) ops r.ls sl nt))&&vy ops r.ls sl r&&(!draw||ops.all λo=>match o.op with | .select ..=>false|_=>true)
theorem HH{l:List AV}{k n:Nat}{x:AV}:nth (eT l k x) n=if n=k/\k<l.length then x else nth l n:=by
 rw[sP,ZA,sP,List.getElem?_set]
 by_cases e:k=n
 ·subst e
  by_cases h:k<l.length
  ·simp[h]
  ·simp[h,List.getElem?_eq_none (Nat.le_of_not_lt h)]
 ·rw[if_neg e,if_neg (λh=>e h.1.symm)]
theorem Nb{Q:AV->Prop}(hu:Q .aM){k:Nat}:∀(ks:List Nat) (vs:List AV),(k∉ks->Q (nth vs k))->Q (nth (dG ks vs) k)
 | [],vs,h=>h (by simp)
 |k' :: ks,vs,h=>by
  unfold dG;refine Nb hu ks _ λhk=>?_;rw[HH]
  by_cases e:k=k' /\k' < vs.length
  ·rw[if_pos e];exact hu
  ·rw[if_neg e]
   by_cases e' : k=k'
   ·have:vs.length<=k:=by omega
    rw[sP,List.getElem?_eq_none this];exact hu
   ·exact h (by simp[e', hk])
theorem Nc{Q:AV->Prop}(hu:Q .aM){env:List AV}{k:Nat}:∀(os:List (Nat×Nat)) (vs:List AV),(∀d,(k,d)∈os->Q (nth env d))->((∀d,(k,d)∉os)->Q (nth vs k))->Q (nth (outs env os vs) k)
 | [],vs,_,h=>h (by simp)
 |(k', d')::os,vs,h1,h2=>by
  unfold outs;refine Nc hu os _ (λd hd=>h1 d (by simp[hd])) λhn=>?_
  rw[HH]
  by_cases e:k=k' /\k' < vs.length
  ·rw[if_pos e];exact h1 d' (by simp[e.1])
  ·rw[if_neg e]
   by_cases e' : k=k'
   ·have:vs.length<=k:=by omega
    rw[sP,List.getElem?_eq_none this];exact hu
   ·exact h2 λd hd=>by
     rcases List.mem_cons.1 hd with h|h
     ·simp at h;exact e' h.1
     ·exact hn d h
section
variable{X:RC P}{C0:Ctx}{w0:World}{ds:List Deferred}
theorem Inv.full{D:Nat->Prop}{C:Ctx}{f:Nat}{a:Act}{w:World}(h:Inv X C0 w0 ds D C f a w) (hD:∀j,j<X.ls.length->D j){r:ga}(hr:r.ls=X.ls) (BM:vy X.ops X.ls X.sl r=true){vs:List AV}
  (yL:vs=X.vars) (fl:Option (Nat×AV)) (AO:fl=match r.fl with|some (t,d)=>some (t,nth (X.st X.ls.length).env d)|none=>none) :
  ∃ids I,Rel X.sl X.nt ds {vars:=dG r.dG (outs (X.st X.ls.length).env r.outs vs),fl,σ:=(X.st X.ls.length).σ} (af (X.st X.ls.length).σ ids I) a w/\Step C0 w0 (af (X.st X.ls.length).σ ids I) w:=by
 subst yL;obtain⟨f,hN⟩:∃f,iI X D C f:=by
  rcases h.fr with hN|⟨lo,hi,hG,_⟩
  ·exact⟨_,hN⟩
  ·exact⟨_,hG.done λk hk _=>hD k (X.eU hk)⟩
 have M6:(X.st X.ls.length).σ=(X.st f).σ:=(X.oT (p:=f) hN.Zj (Nat.le_refl _) λj h1 h2=>by
  cases hj:aU X.ls j with
  |false=>rfl
  |true=>exact absurd (hD j h2) (hN.hi j h1 hj)).1
 obtain⟨ids,g1,g2⟩:=hN.gx.take h.good;rw[M6];refine⟨ids,C.I,⟨g1,h.size,h.defers,λk t hk=>?_,λt v hv=>?_⟩,h.step.trans g2⟩
 ·simp only[vy,Bool.and_eq_true,List.all_eq_true,decide_eq_true_eq]at BM
  obtain⟨⟨e1,e2⟩,_⟩:=BM;refine Nb (Q:=λx=>VR (af (X.st f).σ ids C.I) w.heap x (a.tmps.getD t undef)) (by unfold VR;trivial) _ _ λNd=>?_
  refine Nc (Q:=λx=>VR (af (X.st f).σ ids C.I) w.heap x (a.tmps.getD t undef)) (by unfold VR;trivial) _ _ (λd hd=>?_) λoB=>?_
  ·have:=e1 _ hd
   simp only[hk,beq_iff_eq]at this;rw[X.vq (Nat.le_refl _) this.1];exact VR.mono g2.ev _ _ (h.tv _ t (hD _ (by omega)) this.2)
  ·have vz:k<X.sl.length:=(List.getElem?_eq_some_iff.1 hk).1
   have:=e2 k (List.mem_range.2 vz);simp only[Bool.or_eq_true,List.any_eq_true,beq_iff_eq,List.all_eq_true,List.mem_range]at this;rcases this with(⟨x,hx,rfl⟩|⟨x,hx,rfl⟩)|hd
   ·exact absurd hx Nd
   ·exact absurd hx (oB x.2)
   ·refine VR.mono g2.ev _ _ (h.vv k t hk λj hj hdj=>?_)
    have:=hd j (h.below j hj);simp[hk,hdj]at this
 ·simp only[vy,Bool.and_eq_true,List.all_eq_true,decide_eq_true_eq]at BM
  obtain⟨_,e3⟩:=BM;subst AO;simp only at hv;cases ZC:r.fl with
  |none=>simp[ZC]at hv
  |some td=>
   obtain⟨t', d⟩:=td;simp only[ZC,Option.some.injEq,Prod.mk.injEq]at hv;obtain⟨rfl,rfl⟩:=hv;simp only[ZC,Bool.and_eq_true,decide_eq_true_eq,beq_iff_eq]at e3;rw[X.vq (Nat.le_refl _) e3.1];exact VR.mono g2.ev _ _ (h.tv _ t' (hD _ (by omega)) e3.2)
theorem ZD{i:Nat}{D:Nat->Prop}(sQ:X.draw=true){o:Oper}{l:Ln}(ho:X.ops[i]? = some o) (hF:sN X i o l) (gD:∀i j,D j->lN X.draw X.bf i j=true->D i)
  (hd:∀e∈o.after.toList,Region.binds .any e=true->D e.on):∀j,lN X.draw X.bf j i=true->D j:=λj hj=>by
 have hb:=hF.bf;simp only[BI,sQ,if_true,Bool.and_eq_true,beq_iff_eq]at hb;have tP :=hj;simp only[lN,sQ,if_true,hb.1,Option.getD_some]at tP;rcases MV X.bf j o.after.toList 0 tP with h|⟨e,h1,h2,h3⟩
 ·simp at h
 ·rcases h3 with rfl|h3
  ·exact hd e h1 h2
  ·exact gD j e.on (hd e h1 h2) (by simp only[lN,sQ,if_true];exact h3)
theorem Inv.mk0{ids:Nat->Nat}{I:Nat->Prop}{s:St}{a:Act}{w:World}(hv:X.vars=s.vars) (M6:X.fh=s.σ) (h:Rel X.sl X.nt ds s (af s.σ ids I) a w):Inv X (af s.σ ids I) w ds (λ_=>False) (af s.σ ids I) 0 a w:=by
 refine⟨h.good,Step.refl _ _,h.size,h.defers,λ_ h=>h.elim,λ_ _ h=>h.elim,λ_ _ h=>h.elim,λk t hk _=>by rw[hv];exact h.vars k t hk,λ_ _ h=>h.elim,λ_ _ _ _ _ _ _ h=>h.elim,.inl ⟨Nat.zero_le _,λ_ h=>absurd h (Nat.not_lt_zero _),λ_ _ _ h=>h,?_,λh=>absurd h (Nat.lt_irrefl _)⟩⟩
 rw[X.st0,M6];exact MP _ _ _
theorem Nf{Q:Exit->Act->World->Prop}(sQ:X.draw=false) (hQ:∀D C f a w,Inv X C0 w0 ds D C f a w->(∀j,j<X.ls.length->D j)->Q .normal a w) :
  ∀(k:Nat) (D:Nat->Prop) (C:Ctx) (f:Nat) (a:Act) (w:World),k<=X.ls.length->(∀j,D j↔j<X.ls.length-k)->Inv X C0 w0 ds D C f a w->wpOps P X.ops.toArray Q (List.range' (X.ls.length-k) k) a w
 |0,D,C,f,a,w,_,hD,h=>by
  simp only[List.range'_zero,wpOps];exact hQ D C f a w h λj hj=>(hD j).2 (by omega)
 |k+1,D,C,f,a,w,hk,hD,h=>by
  rw[List.range'_succ,wpOps_cons];have e:X.ls.length-(k+1)+1=X.ls.length-k:=by omega
  rw[e];have yC:∀j,lN X.draw X.bf j (X.ls.length-(k+1))=true->D j:=λj hj=>(hD j).2 (by
   simp only[lN,sQ,Bool.false_eq_true,if_false,decide_eq_true_eq]at hj;exact hj)
  refine wpOp_mono (λa' w' ⟨C', f', h'⟩=>Nf sQ hQ k _ C' f' a' w' (by omega) (λj=>?_) h') (h.next (i:=X.ls.length-(k+1)) (by omega) (λhd=>by have:=(hD _).1 hd;omega) yC Q)
  ·constructor
   ·rintro(q|rfl)
    ·have:=(hD j).1 q;omega
    ·omega
   ·intro q
    by_cases e' : j=X.ls.length-(k+1)
    ·exact .inr e'
    ·exact .inl ((hD j).2 (by omega))
theorem ZE{Q:Exit->Act->World->Prop}(sQ:X.draw=true) (hQ:∀D C f a w,Inv X C0 w0 ds D C f a w->(∀j,j<X.ls.length->D j)->Q .normal a w) :
  ∀(k:Nat) (bN:Array Bool) (C:Ctx) (f:Nat) (a:Act) (w:World),bN.size=X.ls.length->(bN.toList.filter (·== false)).length<=k->Inv X C0 w0 ds (λj=>bN[j]? = some true) C f a w->
   wpAny P .any X.ops.toArray Q k bN a w:=by
 have oz:∀(bN:Array Bool),bN.size=X.ls.length->Region.ready .any X.ops.toArray bN=[]->∀j,j<X.ls.length->bN[j]? = some true:=by
  intro bN hs hr j
  induction j using Nat.strongRecOn with
  |ind j ih=>
   intro hj;obtain⟨o,l,ho,hl,hF⟩:=X.at_ hj;have hb:=hF.bf;simp only[BI,sQ,if_true,Bool.and_eq_true,List.all_eq_true,Bool.or_eq_true,Bool.not_eq_true', decide_eq_true_eq]at hb;have Ng:j∉Region.ready .any X.ops.toArray bN:=by rw[hr];simp
   simp only[Region.ready,List.mem_filter,List.mem_range,List.size_toArray,X.len,Array.getD_eq_getD_getElem?,List.getElem?_toArray,ho,Option.map_some,Option.getD_some,Bool.and_eq_true,Bool.not_eq_true', not_and]at Ng;cases Nh:bN[j]? with
   |none=>rw[Array.getElem?_eq_none_iff]at Nh;omega
   |some b=>
    cases b with
    |true=>rfl
    |false=>
     exfalso;refine absurd ?_ (Ng hj (by rw[Nh];rfl))
     rw[<-Array.all_toList];simp only[List.all_eq_true,Bool.or_eq_true,Bool.not_eq_true'];intro e he;cases KZ:Region.binds .any e with
     |false=>exact .inl rfl
     |true=>
      right;have aK:e.on<j:=(hb.2 e he).resolve_left (by rw[KZ];simp)
      rw[ih e.on aK (by omega)];rfl
 have fc:∀(bN:Array Bool) i,bN.size=X.ls.length->i∈Region.ready .any X.ops.toArray bN->i<X.ls.length/\bN[i]? = some false/\∀o,X.ops[i]? = some o->∀e∈o.after.toList,Region.binds .any e=true->bN[e.on]? = some true:=by
  intro bN i hs hi;simp only[Region.ready,List.mem_filter,List.mem_range,List.size_toArray,X.len,Array.getD_eq_getD_getElem?,List.getElem?_toArray,Bool.and_eq_true,Bool.not_eq_true']at hi;obtain⟨h1,h2,h3⟩:=hi;refine⟨h1,?_,λo ho e he KZ=>?_⟩
  ·cases hli:bN[i]? with
   |none=>rw[Array.getElem?_eq_none_iff]at hli;omega
   |some b=>rw[hli]at h2;simp at h2;rw[h2]
  ·rw[ho]at h3
   simp only[Option.map_some,Option.getD_some]at h3;rw[<-Array.all_toList]at h3;simp only[List.all_eq_true,Bool.or_eq_true,Bool.not_eq_true']at h3;rcases h3 e he with h|h
   ·rw[KZ]at h;simp at h
   ·cases hle:bN[e.on]? with
    |none=>rw[hle]at h;simp at h
    |some b=>rw[hle]at h;simp at h;rw[h]
 intro k
 induction k with
 |zero=>
  intro bN C f a w hs hk h;have fH:∀j,j<X.ls.length->bN[j]? = some true:=λj hj=>by
   cases Nh:bN[j]? with
   |none=>rw[Array.getElem?_eq_none_iff]at Nh;omega
   |some b=>
    cases b with
    |true=>rfl
    |false=>
     have:false∈bN.toList.filter (·== false):=by
      rw[List.mem_filter];exact⟨by rw[Array.mem_toList_iff];exact Array.mem_of_getElem? Nh,rfl⟩
     have:=List.length_pos_of_mem this;omega
  refine⟨?_,hQ _ C f a w h fH⟩;cases hr:Region.ready .any X.ops.toArray bN with
  |nil=>rfl
  |cons i r=>
   obtain⟨h1,h2,_⟩:=fc bN i hs (by rw[hr];simp)
   rw[fH i h1]at h2;simp at h2
 |succ k ih=>
  intro bN C f a w hs hk h;refine⟨λhr=>hQ _ C f a w h (oz bN hs hr),λi hi=>?_⟩;obtain⟨h1,h2,h3⟩:=fc bN i hs hi;obtain⟨o,l,ho,hl,hF⟩:=X.at_ h1;have HJ:i<bN.size:=by omega
  refine wpOp_mono (λa' w' ⟨C', f', h'⟩=>ih _ C' f' a' w' (by simp[hs]) ?_ ?_) (h.next h1 (by rw[h2];simp) (ZD sQ ho hF h.closed (h3 o ho)) Q)
  ·have eQ:(bN.setIfInBounds i true).toList=bN.toList.set i true:=by simp
   rw[eQ];have ZF:∀(l:List Bool) (n:Nat),l[n]? = some false->((l.set n true).filter (·== false)).length+1=(l.filter (·== false)).length:=by
    intro l
    induction l with
    |nil=>intro n hn;simp at hn
    |cons x r ih=>
     intro n hn;cases n with
     |zero=>simp at hn;subst hn;simp
     |succ n=>
      simp at hn;have:=ih n hn;cases x<;>simp_all
   have:=ZF bN.toList i (by rw[Array.getElem?_toList];exact h2)
   omega
  ·have:(λj=>bN[j]? = some true\/j=i)=λj=>(bN.setIfInBounds i true)[j]? = some true:=by
    funext j
    rw[Array.getElem?_setIfInBounds]
    by_cases e:i=j
    ·subst e;simp[HJ]
    ·have e' : j ≠ i:=λq=>e q.symm
     simp[e,e']
   rw[<-this];exact h'
end
theorem ZG{draw:Bool}{ops:List Oper}{sl:List Nat}{nt:Nat}{r:ga}{ce:CE}{s s' : St}{id:Nat}{ds:List Deferred}{ids:Nat->Nat}{I:Nat->Prop}{a:Act}{w:World}{Q:Exit->Act->World->Prop}(hm:P.follows .mixedOrders=true)
  (au:yK P draw ops sl nt r=true) (dM:cx P ce) (jw:dY P ce) (hr:dp ce r s=some s') (h:Rel sl nt ds s (af s.σ ids I) a w)
  (hQ:∀aJ I' a' w', Rel sl nt ds s' (af s'.σ aJ I') a' w' ->Step (af s.σ ids I) w (af s'.σ aJ I') w' ->Q .normal a' w'):(Code.region id ops.toArray draw).wp P Q a w:=by
 simp only[yK,Bool.and_eq_true,beq_iff_eq,List.all_eq_true,List.mem_range]at au;obtain⟨⟨⟨o1,o2⟩,o3⟩,_⟩:=au;unfold dp at hr;cases hl:lines ce s.vars r.ls ⟨[],s.σ,s.σ⟩with
 |none=>simp[hl]at hr
 |some q=>
  simp only[hl,Option.some.injEq]at hr;obtain⟨st,e0,en,bR⟩:=MQ hl
  let X:RC P:=⟨draw,MU ops,ops,r.ls,sl,nt,ce,s.vars,s.σ,st,o1,o2,e0,bR,dM,jw⟩
  have fin:∀(w1:World) (hw:Step (af s.σ ids I) w (af s.σ ids I) w1) D C f a w', Inv X (af s.σ ids I) w1 ds D C f a w' ->(∀j,j<X.ls.length->D j)->Q .normal a w' :=by
   intro w1 hw D C f a' w' hi hD;obtain⟨aJ, I', k1,k2⟩:=hi.full hD (r:=r) rfl o3 (vs:=s.vars) rfl _ rfl;have e:(X.st X.ls.length)=q:=en;rw[e]at k1 k2;rw[<-hr]at hQ;exact hQ aJ I' a' w' k1 (hw.trans k2)
  cases draw with
  |false=>
   refine wp_region ?_;have:=Nf (X:=X) (Q:=Q) rfl (fin w (Step.refl _ _)) X.ls.length (λ_=>False) _ 0 a w (Nat.le_refl _) (λj=>by simp) (Inv.mk0 rfl rfl h)
   rw[Nat.sub_self]at this;rw[List.size_toArray,o1,List.range_eq_range'];exact this
  |true=>
   refine wp_region_any hm ?_;have hd:Step (af s.σ ids I) w (af s.σ ids I) {w with drawn:=w.drawn+1}:=⟨fO.refl _ _,Nat.le_refl _,λ_ _ _=>rfl,λ_ h=>.inl h,λ_ h=>.inl h,rfl,⟨rfl,Nat.le_succ _⟩,rfl⟩
   have h' : Rel sl nt ds s (af s.σ ids I) a {w with drawn:=w.drawn+1}:=⟨⟨h.good.I,h.good.kR,h.good.live,h.good.apart,h.good.maps⟩,h.size,h.defers,h.vars,h.fl⟩
   rw[List.size_toArray,o1];refine ZE (X:=X) rfl (fin _ hd) r.ls.length (Array.replicate r.ls.length false) (af s.σ ids I) 0 a _ (by simp[X]) (Nat.le_trans (List.length_filter_le _ _) (by simp)) ?_
   have e:(λ_:Nat=>False)=λj:Nat=>(Array.replicate r.ls.length false)[j]? = some true:=by
    funext j
    simp[Array.getElem?_replicate]
   rw[<-e];exact Inv.mk0 rfl rfl h'
end Ab
namespace Ab
open Go
theorem nM{p:Nat->Bool}:∀{σ:List ag}{n b:Nat},ak (bI p n σ) b=(ak σ b).map λB=>if p (n+b)then⟨B.k,B.cells,.dead⟩else B
 | [],_,_=>rfl
 |B::r,n,0=>by simp[bI,ak]
 |B::r,n,b+1=>by
  simp only[bI,ak];rw[nM,show n+1+b=n+(b+1)by omega]
theorem oX{p:Nat->Bool}{σ:List ag}{ids:Nat->Nat}{I I' : Nat->Prop}{b u:Nat}{e:ag×Nat}:(af (bI p 0 σ) ids I').own b u=some e↔p b=false/\(af σ ids I).own b u=some e:=by
 simp only[af,nM,Nat.zero_add];cases hb:ak σ b with
 |none=>simp
 |some B=>
  simp only[Option.map_some];cases hp:p b with
  |true=>simp
  |false=>simp
theorem HK{p:Nat->Bool}{σ:List ag}{ids aJ : Nat->Nat}{I I' : Nat->Prop}{b u:Nat}:(af (bI p 0 σ) ids I').lim b u↔(af σ aJ I).lim b u:=by
 simp only[af,nM,Nat.zero_add];cases hb:ak σ b with
 |none=>simp
 |some B=>
  cases hp:p b<;>simp[hp]
theorem ZH{σ:List ag}{ids:Nat->Nat}{I:Nat->Prop}{w:World}{x y:AV}{v:Value}(p:Nat->Bool) (hg:Good (af σ ids I) w) (hv:view (bI (λb=>!p b) 0 σ) false vd x=some y) (hx:VR (af σ ids I) w.heap x v) :
  ∃I', Good (af (bI p 0 σ) ids I') w/\Step (af σ ids I) w (af (bI p 0 σ) ids I') w/\VR (af (bI p 0 σ) ids I') w.heap y v:=by
 let I' : Nat->Prop:=λk=>I k\/owned (af (bI (λb=>!p b) 0 σ) ids I) k
 obtain⟨g1,g2⟩:=Good.shrink (C2:=af (bI (λb=>!p b) 0 σ) ids I) hg rfl (λb u e h=>(oX.1 h).2) (λb u h=>HK.2 h);have hOI:∀k,owned (af (bI (λb=>!p b) 0 σ) ids I) k->owned (af σ ids I) k:=λk ⟨b,u,B,h,hl⟩=>⟨b,u,B,(oX.1 h).2,hl⟩;have ev:fO (af σ ids I) w.heap (af (bI p 0 σ) ids I') w.heap:=by
  refine⟨λk hk=>.inl hk,λ_ _=>rfl,λb u h=>HK.2 h,λb u B' id _ ho=>⟨B', (oX.1 ho).2,rfl,rfl,λc el hc=>⟨c,hc,rfl⟩⟩⟩
 refine⟨I', ⟨λk hk=>hk.elim (hg.I k) λh=>hg.lt (hOI k h),λb u B id ho=>?_,λb u B id ho hl=>?_,λb1 u1 B1 i1 b2 u2 B2 i2 h1 l1 h2 l2 bY=>hg.apart _ _ _ _ _ _ _ _ (oX.1 h1).2 l1 (oX.1 h2).2 l2 bY,λb u B id es ho hl=>?_⟩,
  ⟨ev,Nat.le_refl _,λ_ _ _=>rfl,λk ⟨b,u,B,h,hl⟩=>.inl ⟨b,u,B,(oX.1 h).2,hl⟩,λk hk=>hk.elim .inl λh=>.inr (.inl (hOI k h)),rfl,⟨rfl,Nat.le_refl _⟩,rfl⟩,?_⟩
 ·obtain⟨h1,h2,h3,h4⟩:=hg.kR b u B id (oX.1 ho).2
  exact⟨HK.2 h1,h2,h3,h4⟩
 ·obtain⟨q1,q2⟩:=(oX (I:=I)).1 ho
  obtain⟨h1,c,el,h2,h3,h4⟩:=hg.live b u B id q2 hl;refine⟨λhk=>?_,c,el,h2,h3,λi x hi=>?_⟩
  ·rcases hk with hk|⟨b', u', B', aW, ct⟩
   ·exact h1 hk
   ·obtain⟨r1,r2⟩:=(oX (I:=I)).1 aW
    have sv:b' ≠ b:=λe=>by
     subst e;rw[q1]at r1;simp at r1
    exact hg.apart _ _ _ _ _ _ _ _ r2 ct q2 (lG hl) sv rfl
  ·obtain⟨y,k1,k2,k3⟩:=h4 i x hi
   exact⟨y,k1,VR.mono ev _ _ k2,k3⟩
 ·obtain⟨q1,q2⟩:=(oX (I:=I)).1 ho
  refine hg.cZ (C' :=af (bI p 0 σ) ids I') ev q2 hl rfl λhk=>?_;rcases hk with hk|⟨b', u', B', aW, ct⟩
  ·exact(hg.maps b u B id es q2 hl).1 hk
  ·obtain⟨r1,r2⟩:=(oX (I:=I)).1 aW
   have sv:b' ≠ b:=λe=>by
    subst e;rw[q1]at r1;simp at r1
   exact hg.apart _ _ _ _ _ _ _ _ r2 ct q2 (lB hl) sv rfl
 ·exact(Bd (C2:=af (bI p 0 σ) ids I') (λb u B _ hu=>⟨_,lC ids I hu⟩) g1 (fr:=false) ⟨λ_ k hk=>.inl hk,λk hk=>.inr hk⟩ vd x y v hv (VR.mono g2.ev _ _ hx)).2
def Ni:AV->AV
 |.aE _ l=>.aE true l
 |x=>x
theorem ZI{σ:List ag}{ids:Nat->Nat}{I:Nat->Prop}{w:World}{x y:AV}{v:Value}{C2:Ctx}(hs:gU σ x=true) (hx:VR (af σ ids I) w.heap x v) (hy:VR C2 w.heap y v) :
  VR C2 w.heap (Ni y) v:=by
 have bY:v ≠ .slice none 0 0:=by
  cases x<;>simp only[gU]at hs<;>try(simp at hs;done)
  ·rename_i nn l
   subst hs;unfold VR at hx;rcases hx.2 with⟨_,a,h,hs⟩|⟨_,_,_,_,_,_,_,h,_⟩
   ·obtain⟨q,rfl⟩:=Option.isSome_iff_exists.1 (hs rfl);rw[h];simp
   ·rw[h];simp
  ·rename_i b u off len
   cases hu:upto σ b u with
   |none=>simp[hu]at hs
   |some B=>
    simp only[hu]at hs;have hl:B.st = .live:=by revert hs;cases B.st<;>simp
    unfold VR at hx;have:=hx.2.2 B _ (lC ids I hu);rw[hl]at this;obtain⟨c,el,o,cap,_,e,_⟩:=this;rw[e];simp
 cases y with
 |aE nn l=>
  unfold Ni;unfold VR at hy ⊢;refine⟨hy.1,?_⟩;rcases hy.2 with h|h
  ·obtain⟨h1,a,h2,_⟩:=h
   refine .inl ⟨h1,a,h2,λ_=>?_⟩;cases a with
   |none=>exact absurd h2 bY
   |some q=>rfl
  ·exact .inr h
 |_=>exact hy
theorem BN{C C2:Ctx}{H:Array Obj}{q:AV->Bool}(hq:∀x v,q x=true->VR C H x v->VR C2 H x v):∀{l:List AV}{vs:List Value},l.all q=true->cd C H l vs->cd C2 H l vs
 | [],_,_,h=>h
 |x::r,_,ha,⟨v,s,e,hx,hr⟩=>by
  simp only[List.all_cons,Bool.and_eq_true]at ha;exact⟨v,s,e,hq x v ha.1 hx,BN hq ha.2 hr⟩
theorem ZJ{C C2:Ctx}{H:Array Obj}{m:Nat}(hI:C2.I=C.I) (ho:∀b u e,b<m->C2.own b u=some e->C.own b u=some e) (hl:∀b u,b<m->C.lim b u->C2.lim b u) :
  ∀(x:AV) (v:Value),lM m x=true->VR C H x v->VR C2 H x v:=by
 have sR:ow C H C2 H:=⟨λk h=>by rw[hI];exact h,λ_ _=>rfl⟩
 have gy:∀b u off len v,b<m->VR C H (.sl b u off len) v->VR C2 H (.sl b u off len) v:=λb u off len v hb h=>by
  unfold VR at h ⊢;exact⟨h.1,hl b u hb h.2.1,λB id Nj=>h.2.2 B id (ho b u _ hb Nj)⟩
 have xC:∀b u off v,b<m->VR C H (.ptr b u off) v->VR C2 H (.ptr b u off) v:=λb u off v hb h=>by
  unfold VR at h ⊢;exact⟨h.1,hl b u hb h.2.1,λB id Nj=>h.2.2 B id (ho b u _ hb Nj)⟩
 have Nk:∀b v,b<m->VR C H (.cM b) v->VR C2 H (.cM b) v:=λb v hb h=>by
  unfold VR at h ⊢;exact⟨h.1,hl b 0 hb h.2.1,λB id Nj=>h.2.2 B id (ho b 0 _ hb Nj)⟩
 have sg:∀(x:AV) v,wh m x=true->VR C H x v->VR C2 H x v:=λx v hx h=>by
  cases x with
  |cM b=>exact Nk b v (by simpa[wh]using hx) h
  |sl b u off len=>exact gy b u off len v (by simpa[wh]using hx) h
  |ptr b u off=>exact xC b u off v (by simpa[wh]using hx) h
  |aM=>unfold VR;trivial
  |_=>exact VR.free sR _ _ (by simpa[wh]using hx) h
 intro x v hx h;cases x with
 |sl b u off len=>exact gy b u off len v (by simpa[lM]using hx) h
 |ptr b u off=>exact xC b u off v (by simpa[lM]using hx) h
 |cM b=>exact Nk b v (by simpa[lM]using hx) h
 |aM=>unfold VR;trivial
 |arr l=>simp[lM]at hx
 |agg l=>
  unfold VR at h ⊢;obtain⟨vs,e,ct, hc⟩:=h;exact⟨vs,e,BN sg hx ct, hc⟩
 |bQ l=>
  unfold VR at h ⊢;obtain⟨vs,e,ct⟩:=h;exact⟨vs,e,BN sg hx ct⟩
 |func f l=>
  unfold VR at h ⊢;obtain⟨vs,e,ct⟩:=h;exact⟨vs,e,BN sg hx ct⟩
 |iface t y=>exact VR.free sR _ _ (by simpa[lM,aN]using hx) h
 |aE nn l=>
  have:ax l=true:=by unfold VR at h;exact h.1
  exact VR.free sR _ _ (by simpa[aN]using this) h
 |bd y=>
  have:aN y=true:=by unfold VR at h;exact h.1
  exact VR.free sR _ _ (by simpa[aN]using this) h
 |_=>exact VR.free sR _ _ rfl h
theorem HL{n:Nat}:∀{m:Nat}{σ:List ag},ur n m σ=true->∀b B,b<m->ak σ b=some B->B.cells.all (lM n)=true/\MO n B.st=true
 |0,_,_,b,_,hb,_=>absurd hb (Nat.not_lt_zero b)
 |m+1,[],_,b,B,_,h=>by simp[ak]at h
 |m+1,B0::r,h,b,B,hb,hB=>by
  simp only[ur,Bool.and_eq_true]at h;cases b with
  |zero=>simp[ak]at hB;subst hB;exact h.1
  |succ b=>exact HL h.2 b B (by omega) (by simpa[ak]using hB)
theorem Nl{σ:List ag}{m b:Nat}:ak (σ.take m) b=if b<m then ak σ b else none:=by
 rw[dh,dh,List.getElem?_take]
theorem ZK{σ bp : List ag}{ids aJ : Nat->Nat}{I I' : Nat->Prop}{w w' : World}(hg:Good (af bp aJ I') w') (hs:Step (af σ ids I) w (af bp aJ I') w') (hl:ur σ.length σ.length bp = true) :
  Good (af (bp.take σ.length) aJ I') w' /\Step (af σ ids I) w (af (bp.take σ.length) aJ I') w' /\∀x v,lM σ.length x=true->VR (af bp aJ I') w'.heap x v->VR (af (bp.take σ.length) aJ I') w'.heap x v:=by
 have bH:∀b u e,(af (bp.take σ.length) aJ I').own b u=some e->b<σ.length/\(af bp aJ I').own b u=some e:=λb u e h=>by
  simp only[af,Nl]at h ⊢
  by_cases hb:b<σ.length
  ·simp only[hb,if_true]at h;exact⟨hb,h⟩
  ·simp[hb]at h
 have fI:∀b u,b<σ.length->(af bp aJ I').lim b u->(af (bp.take σ.length) aJ I').lim b u:=λb u hb ⟨B,h1,h2⟩=>⟨B,by rw[Nl,if_pos hb];exact h1,h2⟩
 have low:=ZJ (H:=w'.heap) (m:=σ.length) (C:=af bp aJ I') (C2:=af (bp.take σ.length) aJ I') rfl (λb u e _ h=>(bH b u e h).2) fI;have aK:∀b u,(af σ ids I).lim b u->b<σ.length:=λb u ⟨B,h1,_⟩=>by rw[dh]at h1;exact(List.getElem?_eq_some_iff.1 h1).1
 refine⟨⟨hg.I,λb u B id ho=>?_,λb u B id ho tU=>?_,λb1 u1 B1 i1 b2 u2 B2 i2 h1 l1 h2 l2 bY=>hg.apart _ _ _ _ _ _ _ _ (bH _ _ _ h1).2 l1 (bH _ _ _ h2).2 l2 bY,λb u B id es ho tU=>?_⟩,
  ⟨⟨hs.ev.aE,hs.ev.same,λb u h=>fI b u (aK b u h) (hs.ev.lim b u h),λb u B' id h ho=>hs.ev.own b u B' id h (bH _ _ _ ho).2⟩,hs.size,hs.frame,λk ⟨b,u,B,h,hl⟩=>hs.fX k ⟨b,u,B,(bH _ _ _ h).2,hl⟩,hs.gA,hs.os,hs.tape,hs.output⟩,low⟩
 ·obtain⟨hb,aW⟩:=bH _ _ _ ho
  obtain⟨h1,h2,h3,h4⟩:=hg.kR b u B id aW;exact⟨fI b u hb h1,h2,h3,h4⟩
 ·obtain⟨hb,aW⟩:=bH _ _ _ ho
  obtain⟨h1,c,el,h2,h3,h4⟩:=hg.live b u B id aW tU;obtain⟨hB,_⟩:=yj aW;have fH:=(HL hl b B hb hB).1;refine⟨h1,c,el,h2,h3,λi x hi=>?_⟩;obtain⟨y,k1,k2,k3⟩:=h4 i x hi;exact⟨y,k1,low x y (List.all_eq_true.1 fH x (List.mem_of_getElem? hi)) k2,k3⟩
 ·obtain⟨hb,aW⟩:=bH _ _ _ ho
  obtain⟨h1,l,c,h2,h3⟩:=hg.maps b u B id es aW tU;obtain⟨hB,_⟩:=yj aW;have fH:=(HL hl b B hb hB).2;rw[tU]at fH;refine⟨h1,l,c,h2,?_⟩;have go:∀{es:List (AV×AV)} {l:List MapEntry},(es.all λe=>lM σ.length e.2)=true->MR (af bp aJ I') w'.heap es l->MR (af (bp.take σ.length) aJ I') w'.heap es l:=by
   intro es
   induction es with
   |nil=>intro l _ h;exact h
   |cons e es ih=>
    obtain⟨k,x⟩:=e;rintro l ha ⟨e,s,q,⟨k1,k2⟩,x2,hr⟩;simp only[List.all_cons,Bool.and_eq_true]at ha;exact⟨e,s,q,⟨k1,VR.free (show ow (af bp aJ I') w'.heap (af (bp.take σ.length) aJ I') w'.heap from⟨λ_ h=>h,λ_ _=>rfl⟩) _ _ k1 k2⟩,low _ _ ha.1 x2,ih ha.2 hr⟩
  exact go fH h3
end Ab
namespace Ab
open Go
variable{P:Program}
def iN (P:Program) (sl:List Nat) (nt:Nat):IC->Code->Bool
 |.skip,.skip=>true
 |.skip,.label _=>true
 |.bad,_=>true
 |.cut b a,.cond (.const (.bool b')) x y=>b==b' && iN P sl nt a (if b then x else y)
 |.FU a,.scope x=>iN P sl nt a x
 |.ae r,.region _ ops draw=>yK P draw ops.toList sl nt r
 |.seq a b,c=>match b with
  |.lu k=>decide (k<sl.length)&&iN P sl nt a c
  |_=>match c with
   |.seq x y=>iN P sl nt a x&&iN P sl nt b y
   |_=>false
 |.cond t a b,.cond (.tmp t') x y=>t==t' && iN P sl nt a x&&iN P sl nt b y
 |.kO k a b,.cond (.tmp t) x y=>sl[k]? == some t&&iN P sl nt a x&&iN P sl nt b y
 |.block id a,.block id' x=>id==id' && iN P sl nt a x
 |.loop a,.loop x=>iN P sl nt a x
 |.exit id,.exit id' =>id==id'
 |.ret,.ret=>true
 |.lex a,c=>iN P sl nt a c
 |_,_=>false
def BO:Ex->Exit
 |.fm=>.normal
 |.exit id=>.exit id
 |.ret=>.ret
theorem least{p:Nat->Prop}:∀{n:Nat},p n->∃k,p k/\∀m,m<k->¬p m:=by
 intro n
 induction n using Nat.strongRecOn with
 |ind n ih=>
  intro h
  by_cases hm:∃m,m<n/\p m
  ·obtain⟨m,h1,h2⟩:=hm
   exact ih m h1 h2
  ·exact⟨n,h,λm h1 h2=>hm ⟨m,h1,h2⟩⟩
open Classical in
theorem ZL{c:Code}{Q:Exit->Act->World->Prop}{a:Act}{w:World}(J:Nat->Act->World->Prop){k:Nat}(h0:J k a w) (hz:∀a w,¬J 0 a w) (round:∀k a w,J (k+1) a w->c.wp P (Exit.then (J k) Q) a w):(Code.loop c).wp P Q a w:=by
 let μ:Act->World->Nat:=λa w=>if h:∃k,J k a w/\∀m,m<k->¬J m a w then choose h else 0
 have hμ:∀a w k,J k a w->J (μ a w) a w/\μ a w<=k:=λa w k hk=>by
  have h:=least (p:=λk=>J k a w) hk;have e:μ a w=choose h:=dif_pos h;have hs:=choose_spec h;rw[e];exact⟨hs.1,Nat.le_of_not_lt λaK=>hs.2 k aK hk⟩
 refine wp_loop (λa w=>∃k,J k a w) μ ⟨k,h0⟩ λa w ⟨k,hk⟩=>?_;obtain⟨h1,_⟩:=hμ a w k hk;generalize hm:μ a w=m at h1;cases m with
 |zero=>exact absurd h1 (hz a w)
 |succ m=>
  refine wp_mono (round m a w h1) λe a' w' he=>?_;cases e with
  |normal=>exact⟨⟨m,he⟩,Nat.lt_succ_of_le (hμ a' w' m he).2⟩
  |_=>exact he
theorem ZM{sl:List Nat}{nt:Nat}{ds:List Deferred}{n:Nat}{ce:CE}(hm:P.follows .mixedOrders=true) (dM:cx P ce) (jw:dY P ce) :
  ∀(ic:IC) (c:Code) (s:St) (e:Ex) (s' : St) (ids:Nat->Nat) (I:Nat->Prop) (a:Act) (w:World) (Q:Exit->Act->World->Prop),iN P sl nt ic c=true->exec n ce ic s=some (e,s')->Rel sl nt ds s (af s.σ ids I) a w->
   (∀aJ I' a' w', Rel sl nt ds s' (af s'.σ aJ I') a' w' ->Step (af s.σ ids I) w (af s'.σ aJ I') w' ->Q (BO e) a' w')->c.wp P Q a w:=by
 intro ic
 induction ic with
 |skip=>
  intro c s e s' ids I a w Q au he h hQ;cases c<;>try(simp[iN]at au;done)
  ·simp only[exec,Option.some.injEq,Prod.mk.injEq]at he
   obtain⟨rfl,rfl⟩:=he;exact wp_skip (hQ ids I a w h (Step.refl _ _))
  ·simp only[exec,Option.some.injEq,Prod.mk.injEq]at he
   obtain⟨rfl,rfl⟩:=he;exact wp_label (hQ ids I a w h (Step.refl _ _))
 |bad=>
  intro c s e s' ids I a w Q au he h hQ;simp[exec]at he
 |cut b x ih=>
  intro c s e s' ids I a w Q au he h hQ;cases c<;>try(simp[iN]at au;done)
  rename_i c0 x' y';cases c0<;>try(simp[iN]at au;done)
  rename_i v;cases v<;>try(simp[iN]at au;done)
  rename_i b';simp only[iN,Bool.and_eq_true,beq_iff_eq]at au;obtain⟨rfl,au⟩:=au;simp only[exec]at he;refine wp_cond (t:=b) rfl ?_;exact ih _ s e s' ids I a w Q au he h hQ
 |FU x ih=>
  intro c s e s' ids I a w Q au he h hQ;cases c<;>try(simp[iN]at au;done)
  rename_i c;simp only[iN]at au;simp only[exec]at he;refine wp_scope_straight ?_;refine ih c s e s' ids I a w _ au he h λaJ I' a' w' h' nY =>?_;have:=hQ aJ I' a' w' h' nY;cases e<;>exact this
 |ae r=>
  intro c s e s' ids I a w Q au he h hQ;cases c<;>try(simp[iN]at au;done)
  rename_i id ops draw;simp only[exec]at he;cases hr:dp ce r s with
  |none=>simp[hr]at he
  |some s1=>
   simp only[hr,Option.some.injEq,Prod.mk.injEq]at he;obtain⟨rfl,rfl⟩:=he;simp only[iN]at au;have:=ZG (id:=id) (Q:=Q) hm au dM jw hr h hQ
   rwa [Array.toArray_toList]at this
 |seq x y K0 Nn=>
  intro c s e s' ids I a w Q au he h hQ;simp only[exec]at he;cases hx:exec n ce x s with
  |none=>simp[hx]at he
  |some es=>
   obtain⟨e1,s1⟩:=es;simp only[hx]at he
   by_cases hf:∃k,y = .lu k
   ·obtain⟨k,rfl⟩:=hf
    simp only[iN,Bool.and_eq_true,decide_eq_true_eq]at au;obtain⟨hk,au⟩:=au;refine K0 c s e1 s1 ids I a w Q au hx h λiV I1 a1 w1 h1 st1=>?_;cases e1 with
    |fm=>
     simp only[exec]at he;split at he
     case h_2=>simp at he
     rename_i v hv;simp only[Option.some.injEq,Prod.mk.injEq]at he;obtain⟨rfl,rfl⟩:=he;have No : ∃t,sl[k]? = some t:=⟨_,List.getElem?_eq_getElem hk⟩
     ·obtain⟨t,ht⟩:=No
      obtain⟨I2,g1,g2,g3⟩:=ZH (λb=>(reach s1.σ vd (nth s1.vars k) []).contains b) h1.good hv (h1.vars k t ht);refine hQ iV I2 a1 w1 ⟨g1,h1.size,h1.defers,λj t' hj=>?_,λt' v' FX =>VR.mono g2.ev _ _ (h1.fl t' v' FX)⟩ (st1.trans g2);simp only;rw[HH]
      by_cases e:j=k/\k<s1.vars.length
      ·rw[if_pos e]
       have:t' = t:=by rw[e.1,ht]at hj;simp at hj;exact hj.symm
       subst this
       by_cases hs:gU s1.σ (nth s1.vars k)=true
       ·rw[if_pos hs];exact ZI hs (h1.vars k t' ht) g3
       ·rw[if_neg hs];exact g3
      ·rw[if_neg e]
       exact VR.mono g2.ev _ _ (h1.vars j t' hj)
    |exit id=>simp only[Option.some.injEq,Prod.mk.injEq]at he;obtain⟨rfl,rfl⟩:=he;exact hQ iV I1 a1 w1 h1 st1
    |ret=>simp only[Option.some.injEq,Prod.mk.injEq]at he;obtain⟨rfl,rfl⟩:=he;exact hQ iV I1 a1 w1 h1 st1
   ·have ZN : ∃x' y', c = .seq x' y' /\iN P sl nt x x' = true/\iN P sl nt y y' = true:=by
     unfold iN at au;split at au
     ·exact absurd ⟨_,rfl⟩ hf
     ·split at au
      ·simp only[Bool.and_eq_true]at au
       exact⟨_,_,rfl,au.1,au.2⟩
      ·simp at au
    obtain⟨x', y', rfl,Np,Nq⟩:=ZN;refine wp_seq (K0 x' s e1 s1 ids I a w _ Np hx h λiV I1 a1 w1 h1 st1=>?_);cases e1 with
    |fm=>exact Nn y' s1 e s' iV I1 a1 w1 Q Nq he h1 λaJ I' a' w' h' nY =>hQ aJ I' a' w' h' (st1.trans nY)
    |exit id=>simp only[Option.some.injEq,Prod.mk.injEq]at he;obtain⟨rfl,rfl⟩:=he;exact hQ iV I1 a1 w1 h1 st1
    |ret=>simp only[Option.some.injEq,Prod.mk.injEq]at he;obtain⟨rfl,rfl⟩:=he;exact hQ iV I1 a1 w1 h1 st1
 |cond t x y K0 Nn=>
  intro c s e s' ids I a w Q au he h hQ;cases c<;>try(simp[iN]at au;done)
  rename_i c0 x' y';cases c0<;>try(simp[iN]at au;done)
  rename_i t';simp only[iN,Bool.and_eq_true,beq_iff_eq]at au;obtain⟨⟨rfl,Np⟩,Nq⟩:=au;simp only[exec]at he;split at he
  case h_2=>simp at he
  rename_i t1 b AO
  by_cases e1:t1=t
  ·subst e1
   simp only[beq_self_eq_true,if_true]at he;have hb:a.eval (.tmp t1) = .bool b:=h.fl t1 (.bool b) AO;have h' : Rel sl nt ds {s with fl:=none} (af s.σ ids I) a w:=⟨h.good,h.size,h.defers,h.vars,λ_ _ q=>by simp at q⟩
   refine wp_cond (t:=b) hb ?_;cases b with
   |true=>exact K0 x' {s with fl:=none} e s' ids I a w Q Np he h' hQ
   |false=>exact Nn y' {s with fl:=none} e s' ids I a w Q Nq he h' hQ
  ·have:(t1==t)=false:=by simpa using e1
   simp[this]at he
 |kO k x y K0 Nn=>
  intro c s e s' ids I a w Q au he h hQ;cases c<;>try(simp[iN]at au;done)
  rename_i c0 x' y';cases c0<;>try(simp[iN]at au;done)
  rename_i t;simp only[iN,Bool.and_eq_true,beq_iff_eq]at au;obtain⟨⟨hk,Np⟩,Nq⟩:=au;simp only[exec]at he;split at he
  case h_2=>simp at he
  rename_i b hv;have hb:a.eval (.tmp t) = .bool b:=by
   have:=h.vars k t hk;rw[hv]at this;exact this
  refine wp_cond (t:=b) hb ?_;cases b with
  |true=>exact K0 x' s e s' ids I a w Q Np he h hQ
  |false=>exact Nn y' s e s' ids I a w Q Nq he h hQ
 |block id x ih=>
  intro c s e s' ids I a w Q au he h hQ;cases c<;>try(simp[iN]at au;done)
  rename_i id' c;simp only[iN,Bool.and_eq_true,beq_iff_eq]at au;obtain⟨rfl,au⟩:=au;simp only[exec]at he;refine wp_block ?_;cases hx:exec n ce x s with
  |none=>simp[hx]at he
  |some es=>
   obtain⟨e1,s1⟩:=es;simp only[hx]at he;refine ih c s e1 s1 ids I a w _ au hx h λiV I1 a1 w1 h1 st1=>?_;cases e1 with
   |fm=>simp only[Option.some.injEq,Prod.mk.injEq]at he;obtain⟨rfl,rfl⟩:=he;exact hQ iV I1 a1 w1 h1 st1
   |exit j=>
    simp only at he
    by_cases hj:j=id
    ·subst hj
     simp only[beq_self_eq_true,if_true,Option.some.injEq,Prod.mk.injEq]at he;obtain⟨rfl,rfl⟩:=he;simp only[BO,Exit.inBlock,if_true];exact hQ iV I1 a1 w1 h1 st1
    ·have:(j==id)=false:=by simpa using hj
     simp only[this,Bool.false_eq_true,if_false,Option.some.injEq,Prod.mk.injEq]at he;obtain⟨rfl,rfl⟩:=he;simp only[BO,Exit.inBlock,hj,if_false];exact hQ iV I1 a1 w1 h1 st1
   |ret=>simp only[Option.some.injEq,Prod.mk.injEq]at he;obtain⟨rfl,rfl⟩:=he;exact hQ iV I1 a1 w1 h1 st1
 |loop x ih=>
  intro c s e s' ids I a w Q au he h hQ;cases c<;>try(simp[iN]at au;done)
  rename_i c;simp only[iN]at au;simp only[exec]at he;refine ZL (λk a1 w1=>∃s1 iV I1,iter (exec n ce x) k s1=some (e,s')/\Rel sl nt ds s1 (af s1.σ iV I1) a1 w1/\Step (af s.σ ids I) w (af s1.σ iV I1) w1) (k:=n) ⟨s,ids,I,he,h,Step.refl _ _⟩ (λa1 w1 ⟨s1,_,_,h0,_⟩=>by simp[iter]at h0) ?_
  rintro k a1 w1 ⟨s1,iV,I1,h1,r1,st1⟩;simp only[iter]at h1;cases hx:exec n ce x s1 with
  |none=>simp[hx]at h1
  |some es=>
   obtain⟨e2,s2⟩:=es;simp only[hx]at h1;refine ih c s1 e2 s2 iV I1 a1 w1 _ au hx r1 λuu I2 a2 w2 r2 st2=>?_;cases e2 with
   |fm=>exact⟨s2,uu,I2,h1,r2,st1.trans st2⟩
   |exit j=>simp only[Option.some.injEq,Prod.mk.injEq]at h1;obtain⟨rfl,rfl⟩:=h1;exact hQ uu I2 a2 w2 r2 (st1.trans st2)
   |ret=>simp only[Option.some.injEq,Prod.mk.injEq]at h1;obtain⟨rfl,rfl⟩:=h1;exact hQ uu I2 a2 w2 r2 (st1.trans st2)
 |exit id=>
  intro c s e s' ids I a w Q au he h hQ;cases c<;>try(simp[iN]at au;done)
  simp only[iN,beq_iff_eq]at au;subst au;simp only[exec,Option.some.injEq,Prod.mk.injEq]at he;obtain⟨rfl,rfl⟩:=he;exact wp_exit (hQ ids I a w h (Step.refl _ _))
 |ret=>
  intro c s e s' ids I a w Q au he h hQ;cases c<;>try(simp[iN]at au;done)
  simp only[exec,Option.some.injEq,Prod.mk.injEq]at he;obtain⟨rfl,rfl⟩:=he;exact wp_ret (hQ ids I a w h (Step.refl _ _))
 |lu k=>
  intro c s e s' ids I a w Q au he h hQ;cases c<;>simp[iN]at au
 |lex x ih=>
  intro c s e s' ids I a w Q au he h hQ;simp only[iN]at au;simp only[exec]at he;cases hx:exec n ce x s with
  |none=>simp[hx]at he
  |some es=>
   obtain⟨e1,s1⟩:=es;simp only[hx]at he;refine ih c s e1 s1 ids I a w Q au hx h λiV I1 a1 w1 h1 st1=>?_;have go:(if(s1.vars.all (lM s.σ.length)&&ur s.σ.length s.σ.length s1.σ&&(match s1.fl with|some _=>false|none=>true))=true then some (e1,({s1 with σ:=s1.σ.take s.σ.length}:St))else none)=some (e,s')->Q (BO e1) a1 w1:=λhe=>by
    by_cases hc:(s1.vars.all (lM s.σ.length)&&ur s.σ.length s.σ.length s1.σ&&(match s1.fl with|some _=>false|none=>true))=true
    case neg=>rw[if_neg hc]at he;simp at he
    rw[if_pos hc]at he;simp only[Bool.and_eq_true]at hc;obtain⟨⟨c1,c2⟩,c3⟩:=hc;simp only[Option.some.injEq,Prod.mk.injEq]at he;obtain⟨rfl,rfl⟩:=he;obtain⟨g1,g2,g3⟩:=ZK h1.good st1 c2;refine hQ iV I1 a1 w1 ⟨g1,h1.size,h1.defers,λj t hj=>?_,λt v hv=>?_⟩ g2
    ·refine g3 _ _ ?_ (h1.vars j t hj)
     rw[sP];cases hq:s1.vars[j]? with
     |none=>rfl
     |some q=>exact List.all_eq_true.1 c1 q (List.mem_of_getElem? hq)
    ·simp only at hv
     rw[hv]at c3;simp at c3
   cases e1 with
   |fm=>exact go he
   |exit j=>exact go he
   |ret=>simp only[Option.some.injEq,Prod.mk.injEq]at he;obtain⟨rfl,rfl⟩:=he;exact hQ iV I1 a1 w1 h1 st1
end Ab
namespace Ab
open Go
variable{P:Program}
def kh (P:Program) (sl:List Nat):List ResultVar->List (Nat×Option (Option Nat))->Bool
 | [],[]=>true
 |.tmp t::r,(k,none)::s=>sl[k]? == some t&&kh P sl r s
 |.cell a ty::r,(k,some kd)::s=>sl[k]? == some a&&bt P ty kd&&kh P sl r s
 |_,_=>false
def aT (P:Program) (f:Nat) (fn:Fn) (sl:List Nat):Bool:=
 match P.funcs[f]? with
 |some pf=>cJ P f&&(match pf.body with
  |some c=>iN P sl pf.ntmps fn.body c&&kh P sl pf.results.toList fn.res&&decide (fn.np<=pf.ntmps)&&(List.range sl.length).all λk=>decide (fn.np<=k)||sl[k]? == some k
  |none=>false)
 |none=>false
def eR (P:Program) (f:Nat) (p:CE->List AV->List ag->Option (AV×List ag)):Prop:=
 cJ P f=true/\∀ce,cx P ce->dY P ce->∀args σ r bp, p ce args σ=some (r,bp)->∀(ids:Nat->Nat) (I:Nat->Prop) (w:World) (vs:List Value),Good (af σ ids I) w->cd (af σ ids I) w.heap args vs->
  Calls P f vs.toArray w λe w' =>∃v aJ I', e = .returned v/\Good (af bp aJ I') w' /\VR (af bp aJ I') w'.heap r v/\Step (af σ ids I) w (af bp aJ I') w'
theorem ZO{s:Sem Value}{w:World}{v:Value}(h:(do let x <-s;pure (Next.value x):Sem Next).run P w = .ok (.value v) w):s.run P w = .ok v w:=by
 simp only[Sem.run_bind]at h;cases hs:s.run P w with
 |ok a w' =>rw[hs]at h;simp[Result.andThen]at h;obtain⟨rfl,rfl⟩:=h;rfl
 |halt x w' =>rw[hs]at h;simp[Result.andThen]at h
theorem ZP{C:Ctx}{w:World}{σ:List ag}{x y:AV}{p:Option aX}{kd:Option Nat}{ty:TypeId}{v:Value}(hk:bt P ty kd=true) (hg:Good C w) (dg:∀b u B,C.lim b u->upto σ b u=some B->∃id,C.own b u=some (B,id)) (hx:VR C w.heap x v)
  (he:ev (λ_ _ _=>none) σ 0 [] (λ_=>x) (.ld (.v 0) kd)=some (y,p)):∃z,(do loadVar ty (<-asAddr v):Sem Value).run P w = .ok z w/\VR C w.heap y z:=by
 obtain⟨⟨z,h1,h2⟩,_⟩:=yo (P:=P) (ρ:=λ_=>v) (o:=⟨none,.load ty (.tmp 0),0, "",#[],none⟩) (w:=w) (C:=C) rfl hk hg dg hx he;have h3:=ZO (s:=Instr.loadAt ty v) h1;refine⟨z,?_,h2⟩;have hp:∃a,v = .pointer (some a):=by
  simp only[ev]at he;cases x<;>try(simp at he;done)
  ·unfold VR at hx;obtain⟨_,ak,off,_,_,_,_,e,_⟩:=hx;exact⟨_,e⟩
  ·unfold VR at hx;obtain⟨⟨ak,e⟩,_⟩:=hx;exact⟨_,e⟩
 obtain⟨a,rfl⟩:=hp;rw[<-h3];simp only[Instr.loadAt,Instr.sureAddr,asAddr,Sem.run_bind,Sem.run_pure,Result.andThen_ok]
def rC (tmps:Array Value):ResultVar->Sem Value
 |.tmp t=>pure (tmps.getD t undef)
 |.cell a t=>do loadVar t (<-asAddr (tmps.getD a undef))
theorem ZQ (pf:Func) (tmps:Array Value):Go.results pf tmps=(do
  let vs <-pf.results.mapM (rC tmps)
  pure (if h:vs.size=1 then vs[0]else .tuple vs)):=by
 unfold Go.results
 congr 2
theorem HM{sl:List Nat}{nt:Nat}{ds:List Deferred}{s:St}{ids:Nat->Nat}{I:Nat->Prop}{a:Act}{w:World}(h:Rel sl nt ds s (af s.σ ids I) a w) :
  ∀(rs:List ResultVar) (qs:List (Nat×Option (Option Nat))) (xs:List AV),kh P sl rs qs=true->bV (jy s) qs=some xs->
   ∃vs,(rs.mapM (rC a.tmps)).run P w = .ok vs w/\cd (af s.σ ids I) w.heap xs vs
 | [],[],xs,_,hm=>by
  simp[bV]at hm;subst hm;exact⟨[],by simp,rfl⟩
 |.tmp t::rs,(k,none)::qs,xs,au,hm=>by
  simp only[kh,Bool.and_eq_true,beq_iff_eq]at au;simp only[bV,jy]at hm;cases hr:bV (jy s) qs with
  |none=>simp[hr]at hm
  |some ys=>
   simp[hr]at hm;subst hm;obtain⟨vs,h1,h2⟩:=HM h rs qs ys au.2 hr;exact⟨_::vs,by simp[List.mapM_cons,rC,h1],_,_,rfl,h.vars k t au.1,h2⟩
 |.cell q ty::rs,(k,some kd)::qs,xs,au,hm=>by
  simp only[kh,Bool.and_eq_true,beq_iff_eq]at au;simp only[bV,jy]at hm;cases he:ev (λ_ _ _=>none) s.σ 0 [] (λ_=>nth s.vars k) (.ld (.v 0) kd)with
  |none=>simp[he]at hm
  |some yp=>
   obtain⟨y,p⟩:=yp;simp only[he]at hm;cases hr:bV (jy s) qs with
   |none=>simp[hr]at hm
   |some ys=>
    simp[hr]at hm;subst hm;obtain⟨vs,h1,h2⟩:=HM h rs qs ys au.2 hr;obtain⟨z,g1,g2⟩:=ZP au.1.2 h.good (λb u B _ hu=>⟨_,lC ids I hu⟩) (h.vars k q au.1.1) he;refine⟨z::vs,?_,_,_,rfl,g2,h2⟩;rw[List.mapM_cons,Sem.run_bind,show(rC a.tmps (.cell q ty)).run P w = .ok z w from g1];simp[h1]
 | [],_::_,_,au,_=>by simp[kh]at au
 |.tmp _::_,[],_,au,_=>by simp[kh]at au
 |.cell .. :: _,[],_,au,_=>by simp[kh]at au
 |.tmp _::_,(_,some _)::_,_,au,_=>by simp[kh]at au
 |.cell .. :: _,(_,none)::_,_,au,_=>by simp[kh]at au
theorem BP{G:Nat->Option Fn}{Q:ke}{n:Nat}(hm:P.follows .mixedOrders=true) (hG:∀f fn,G f=some fn->∃sl,aT P f fn sl=true) (hQ:∀f p,Q f=some p->eR P f p):∀d,cx P (dH G Q n d)/\dY P (dH G Q n d)
 |0=>⟨λf args σ r bp h=>by simp[dH]at h,λf args σ r h=>by simp[dH]at h⟩
 |d+1=>by
  obtain⟨lV,mI⟩:=BP (n:=n) hm hG hQ d;refine⟨λf args σ r bp h ids I w vs hg hv=>?_,λf args σ r h=>?_⟩
  ·simp only[dH]at h
   cases hq:Q f with
   |some p=>
    simp only[hq]at h;exact(hQ f p hq).2 _ lV mI args σ r bp h ids I w vs hg hv
   |none=>
    simp only[hq]at h;cases K6:G f with
    |none=>simp[K6]at h
    |some fn=>
     simp only[K6]at h;split at h
     case isFalse=>simp at h
     rename_i hlen;simp only[beq_iff_eq]at hlen;cases he:exec n (dH G Q n d) fn.body {vars:=args++List.replicate (fn.nv-fn.np) .aM,fl:=none,σ}with
     |none=>simp[he]at h
     |some es=>
      obtain⟨e,s⟩:=es;simp only[he]at h;obtain⟨sl,au⟩:=hG f fn K6;unfold aT at au;cases yJ:P.funcs[f]? with
      |none=>simp[yJ]at au
      |some pf=>
       simp only[yJ,Bool.and_eq_true]at au;obtain⟨_,au⟩:=au;cases yM:pf.body with
       |none=>simp[yM]at au
       |some c=>
        simp only[yM,Bool.and_eq_true,decide_eq_true_eq,List.all_eq_true,List.mem_range,Bool.or_eq_true,beq_iff_eq]at au;obtain⟨⟨⟨o1,o2⟩,o3⟩,o4⟩:=au;have pI:vs.length=fn.np:=(cd.length hv).trans hlen;have ZR:Rel sl pf.ntmps [] {vars:=args++List.replicate (fn.nv-fn.np) .aM,fl:=none,σ} (af σ ids I) {tmps:=vs.toArray++Array.replicate (pf.ntmps-vs.toArray.size) undef,defers:=[]} w:=by
         refine⟨hg,by simp;omega,rfl,λk t hk=>?_,λ_ _ q=>by simp at q⟩
         have vz:k<sl.length:=(List.getElem?_eq_some_iff.1 hk).1;rcases o4 k vz with Wb|heq
         ·have:nth (args++List.replicate (fn.nv-fn.np) .aM) k = .aM:=by
           rw[sP,List.getElem?_append_right (by omega),List.getElem?_replicate]
           split<;>rfl
          rw[this];unfold VR;trivial
         ·by_cases hkn:k<fn.np
          ·rw[heq]at hk;simp at hk;subst hk
           have ZS:k<args.length:=by omega
           obtain⟨v,k1,k2⟩:=hv.get k _ (List.getElem?_eq_getElem ZS);have e1:nth (args++List.replicate (fn.nv-fn.np) .aM) k=args[k]:=by
            rw[sP,List.getElem?_append_left ZS,List.getElem?_eq_getElem ZS];rfl
           have e2:(vs.toArray++Array.replicate (pf.ntmps-vs.toArray.size) undef).getD k undef=v:=by
            rw[Array.getD_eq_getD_getElem?,Array.getElem?_append_left (by simp;omega),List.getElem?_toArray,k1];rfl
           rw[e1];show VR _ _ _ ((vs.toArray++Array.replicate (pf.ntmps-vs.toArray.size) undef).getD k undef);rw[e2];exact k2
          ·have:nth (args++List.replicate (fn.nv-fn.np) .aM) k = .aM:=by
            rw[sP,List.getElem?_append_right (by omega),List.getElem?_replicate]
            split<;>rfl
           rw[this];unfold VR;trivial
        have vA:results fn s=some r/\s.σ=bp /\∀j,e ≠ .exit j:=by
         cases e with
         |exit j=>simp at h
         |fm=>
          simp only[Option.map_eq_some_iff,Prod.mk.injEq]at h;obtain⟨q,h1,rfl,h2⟩:=h;exact⟨h1,h2,λj q=>by simp at q⟩
         |ret=>
          simp only[Option.map_eq_some_iff,Prod.mk.injEq]at h;obtain⟨q,h1,rfl,h2⟩:=h;exact⟨h1,h2,λj q=>by simp at q⟩
        obtain⟨hr,rfl,bY⟩:=vA;refine calls_of_wp yJ yM (ZM (sl:=sl) (nt:=pf.ntmps) (ds:=[]) hm lV mI fn.body c _ e s ids I _ w _ o1 he ZR λaJ I' a' w' h' nY =>?_);have key:a'.defers=[]/\∃v,(Go.results pf a'.tmps).run P w' = .ok v w' /\∃v1 aJ I', Ending.returned v = .returned v1/\Good (af s.σ aJ I') w' /\VR (af s.σ aJ I') w'.heap r v1/\Step (af σ ids I) w (af s.σ aJ I') w' :=by
         refine⟨h'.defers,?_⟩;unfold results at hr;cases Bl:bV (jy s) fn.res with
         |none=>simp[Bl]at hr
         |some xs=>
          obtain⟨zs,g1,g2⟩:=HM h' pf.results.toList fn.res xs o2 Bl;refine⟨if hz:zs.toArray.size=1 then zs.toArray[0]else .tuple zs.toArray,?_,_,aJ, I', rfl,h'.good,?_,nY⟩
          ·rw[ZQ,Sem.run_bind,Array.mapM_eq_mapM_toList,Sem.run_map,g1]
           rfl
          ·simp only[Bl]at hr
           have hl:=cd.length g2;have many:∀l,xs=l->l.length ≠ 1->r = .bQ l->VR (af s.σ aJ I') w'.heap r (if hz:zs.toArray.size=1 then zs.toArray[0]else .tuple zs.toArray):=λl e1 e2 e3=>by
            subst e1;subst e3;rw[dif_neg (by simp;omega)]
            unfold VR;exact⟨zs,rfl,g2⟩
           cases xs with
           |nil=>exact many [] rfl (by simp) (by simpa using hr.symm)
           |cons x t=>
            cases t with
            |nil=>
             simp at hr;subst hr;obtain⟨v,t,e1,e2,e3⟩:=g2;have e3:t=[]:=e3;subst e3;subst e1;simpa using e2
            |cons y t=>exact many (x::y::t) rfl (by simp) (by simpa using hr.symm)
        cases e with
        |exit j=>exact absurd rfl (bY j)
        |fm=>exact key
        |ret=>exact key
  ·simp only[dH]at h
   cases hq:Q f with
   |some p=>exact(hQ f p hq).1
   |none=>
    simp only[hq]at h;cases K6:G f with
    |none=>simp[K6]at h
    |some fn=>
     obtain⟨sl,au⟩:=hG f fn K6;unfold aT at au;cases yJ:P.funcs[f]? with
     |none=>simp[yJ]at au
     |some pf=>
      simp only[yJ,Bool.and_eq_true]at au;exact au.1
end Ab
