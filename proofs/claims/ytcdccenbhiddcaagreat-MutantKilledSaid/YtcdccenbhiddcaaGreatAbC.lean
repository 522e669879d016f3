/- What is known after an effect is the new list of blocks, and the old one can still be seen. A region: whatever order its operations come in, it does what its lines do in the text's order. Condition: the callees answer as the interpreter says. What holds in the midst of a region. A step of a region keeps what holds. Operations that look at owned blocks, and operations that turn them. Condition: the callees answer as the interpreter says. One operation of a region in any order. One operation of a region, whatever its class. A region does what its lines say. Condition: the callees answer as the interpreter says. An owned value is given away for good; blocks of a round are forgotten. The code of a function does what its small text says. Condition: the callees answer as the interpreter says. Functions do what the interpreter says. Condition: the check of each function. Condition: none. -/
import Derived.Test.YtcdccenbhiddcaaGreatAbPhase
import Derived.Scope
set_option linter.all false
namespace Ab
open Go
def pS{σ:List aj}{b u:Nat}{B:aj}(h:dm σ b u=some B):ay σ b=some B/\B.cells.length=u/\B.st ≠ .dead:=by
 unfold dm at h;cases d:ay σ b with
 |none=>simp[d]at h
 |some e =>
  simp only[d]at h;cases f:e.st<;>simp only[f]at h<;>first
   |(simp at h;done)
   |(by_cases a:e.cells.length=u
     .simp[a]at h;subst h;exact⟨rfl,a,by rw[f];simp⟩
     .simp[a]at h)
def fI (C:Ctx) (σ:List aj):Prop:=∃ids,(∀b u e,(ad σ ids C.I).own b u=some e->C.own b u=some e)/\∀b u,C.lim b u->(ad σ ids C.I).lim b u
def Seen (C:Ctx) (σ:List aj):Prop:=∀b u B,C.lim b u->dm σ b u=some B->∃id,C.own b u=some (B,id)
def fI.seen{C:Ctx}{σ:List aj}(h:fI C σ):Seen C σ:=λb u B _ Y=>by
 obtain⟨ids,h1,_⟩:=h;exact⟨_,h1 b u _ (oh ids C.I Y)⟩
def Dn (σ:List aj) (ids:Nat->Nat) (I:Nat->Prop):fI (ad σ ids I) σ:=⟨ids,λ_ _ _ h=>h,λ_ _ h=>h⟩
def fI.rr{C:Ctx}{σ:List aj}(h:fI C σ) (I' : Nat->Prop):fI {C with I:=I'} σ:=by
 obtain⟨ids,Y,h2⟩:=h;exact⟨ids,Y,h2⟩
def Seen.rr{C:Ctx}{σ:List aj}(h:Seen C σ) (I' : Nat->Prop):Seen {C with I:=I'} σ:=h
def fI.take{C:Ctx}{σ:List aj}{w:World}(h:fI C σ) (Y:Good C w):∃ids,Good (ad σ ids C.I) w/\Step C w (ad σ ids C.I) w:=by
 obtain⟨ids,h1,h2⟩:=h;exact⟨ids,Good.shrink Y rfl h1 h2⟩
def Ext.dM{σ:List aj}{ids:Nat->Nat}{I:Nat->Prop}{p:Option bI}{C' : Ctx}{w' : World}(hg:Good C' w') (h:Ext σ.length p (ad σ ids I) C') :
  fI C' (match p with|some q=>du σ q|none=>σ)/\Seen C' σ:=by
 cases p with
 |none=>
  obtain⟨h1,h2⟩:=h;have hs:fI C' σ:=⟨ids,λb u e Y=>by rw[h1];exact Y,λb u Y=>by rw[h2]at Y;exact Y⟩
  exact⟨hs,hs.seen⟩
 |some q=>
  cases q with
  |new B=>
   obtain⟨id,h1,h2⟩:=h;have pD:B.st ≠ .dead:=(hg.ij σ.length B.cells.length B id (by rw[h1];simp[al])).2.2.2
   refine⟨⟨λq=>if q=σ.length then id else ids q,λb u e Y=>?_,λb u Y=>?_⟩,λb u B' _ hu=>?_⟩
   .rw[h1];exact wT (I:=C'.I) pD b u e Y
   .rw[h2]at Y;exact wU (ids:=ids) (I:=C'.I) (id:=id) b u Y
   .obtain⟨hb,_⟩:=pS hu
    have bP:b<σ.length:=by rw[bV]at hb;exact(List.getElem?_eq_some_iff.1 hb).1
    rw[h1];simp only[al];rw[if_neg (by omega)]
    exact⟨_,oh ids I hu⟩
  |news l=>
   obtain⟨kX,h1,h2⟩:=h;have hblk:∀b,ay (σ++l) b=if b<σ.length then ay σ b else ay l (b-σ.length):=λb=>by
    rw[bV,bV,bV]
    by_cases hb:b<σ.length
    .rw[if_pos hb,List.getElem?_append_left hb]
    .rw[if_neg hb,List.getElem?_append_right (by omega)]
   refine⟨⟨λq=>if q<σ.length then ids q else kX (q-σ.length),λb u e Y=>?_,λb u Y=>?_⟩,λb u B' _ hu=>?_⟩
   .rw[h1]
    simp only[ad,du,hblk]at Y ⊢
    by_cases hb:b<σ.length
    .rw[if_neg (by omega)]
     simp only[hb,if_true]at Y;exact Y
    .simp only[hb,if_false]at Y
     have bP:b-σ.length<l.length:=by
      cases hq:ay l (b-σ.length)with
      |none=>simp[hq]at Y
      |some q=>rw[bV]at hq;exact(List.getElem?_eq_some_iff.1 hq).1
     rw[if_pos (by omega)]
     exact Y
   .rw[h2]at Y
    simp only[ad,du,hblk]at Y ⊢;rcases Y with⟨k1,B1,k2,k3⟩|⟨B1,k2,k3⟩
    .exact⟨B1,by rw[if_neg (by omega)];exact k2,k3⟩
    .have bP:b<σ.length:=by rw[bV]at k2;exact(List.getElem?_eq_some_iff.1 k2).1
     exact⟨B1,by rw[if_pos bP];exact k2,k3⟩
   .obtain⟨hb,_⟩:=pS hu
    have bP:b<σ.length:=by rw[bV]at hb;exact(List.getElem?_eq_some_iff.1 hb).1
    rw[h1];simp only;rw[if_neg (by omega)]
    exact⟨_,oh ids I hu⟩
  |grow b cs=>
   obtain⟨B0,id0,id,fm,h0,h1,h2⟩:=h;obtain⟨hb,_⟩:=tH h0;have hlen:B0.cells.length<(B0.cells++cs).length:=by
    have:0<cs.length:=List.length_pos_iff.2 fm;simp;omega
   have LI:du σ (.grow b cs)=az σ b ⟨B0.k,B0.cells++cs,.live⟩:=by simp only[du,mX,hb]
   simp only[LI];refine⟨⟨λq=>if q=b then id else ids q,λb1 u e Y=>?_,λb1 u Y=>?_⟩,λb1 u B' _ hu=>?_⟩
   .rw[h1]
    exact mL (ids:=ids) (I:=C'.I) (B' :=⟨B0.k,B0.cells++cs,.live⟩) (id' :=id) hb (by simp) b1 u e Y
   .rw[h2]at Y
    rcases Y with⟨rfl,rfl⟩|Y
    .have bP:b1<σ.length:=by rw[bV]at hb;exact(List.getElem?_eq_some_iff.1 hb).1
     exact⟨⟨B0.k,B0.cells++cs,.live⟩,by rw[qZ bP];simp,Nat.le_refl _⟩
    .exact mM (ids:=ids) (I:=C'.I) hb (by show _<=(B0.cells++cs).length;omega) b1 u Y
   .obtain⟨k1,k2,_⟩:=pS hu
    rw[h1];simp only[al];rw[if_neg (by
     rintro⟨rfl,rfl⟩;rw[hb]at k1;simp at k1;subst k1;omega)]
    exact⟨_,oh ids I hu⟩
end Ab
namespace Ab
open Go
variable{P:Program}
def xm{ce:CE}{vars:List AV}:∀{ls:List Ln}{s s' : LS},lines ce vars ls s=some s' ->
  ∃st:Nat->LS,st 0=s/\st ls.length=s' /\∀i l,ls[i]? = some l->bS ce vars (st i) l=some (st (i+1))
 | [],s,s', h=>by
  simp[lines]at h;subst h;exact⟨λ_=>s,rfl,rfl,λi l h=>by simp at h⟩
 |l::ls,s,s', h=>by
  simp only[lines]at h;cases a:bS ce vars s l with
  |none=>simp[a]at h
  |some j=>
   simp only[a]at h;obtain⟨st,e,f,b⟩:=xm h;refine⟨λi=>match i with|0=>s|i+1=>st i,rfl,by simpa using f,λi g d=>?_⟩
   cases i with
   |zero=>simp at d;subst d;simp only[a,e]
   |succ i=>exact b i g (by simpa using d)
def MI{ce:CE}{vars:List AV}{s s' : LS}{l:Ln}(h:bS ce vars s l=some s'):∃v,s'.env=v::s.env:=by
 unfold bS at h;split at h
 .simp at h
 .simp at h;subst h;exact⟨_,rfl⟩
 .split at h
  .split at h
   .simp at h;subst h;exact⟨_,rfl⟩
   .simp at h
  .split at h
   .simp at h;subst h;exact⟨_,rfl⟩
   .simp at h;subst h;exact⟨_,rfl⟩
   .simp at h
def valOf (st:Nat->LS) (i:Nat):AV:=nth (st (i+1)).env 0
def Dp{st:Nat->LS}{n:Nat}(b:(st 0).env=[]) (h:∀i,i<n->∃v,(st (i+1)).env=v::(st i).env):∀i,i<=n->∀d,d<i->nth (st i).env d=valOf st (i-1-d)
 |0,_,d,a=>absurd a (Nat.not_lt_zero d)
 |i+1,f,d,a=>by
  obtain⟨v,e⟩:=h i (by omega)
  cases d with
  |zero=>simp[valOf]
  |succ d=>
   rw[e];simp only[nth];rw[Dp b h i (by omega) d (by omega)]
   congr 1
   omega
def Dq{ce:CE}{σ:List aj}{nl:Nat}{ps:List bI}{r:Rf->AV}{op:bZ}{x:AV}{p:Option bI}(h:op.il=false) (a:ev ce σ nl ps r op=some (x,p)):p=none:=by
 cases op<;>first
  |(simp[bZ.il]at h;done)
  |(simp only[ev]at a;simp at a;exact a.2.symm)
  |(simp only[ev]at a;(repeat' split at a)<;>first|(simp at a;done)|(simp at a;exact a.2.symm)|(simp at a;obtain⟨_,_,_,e⟩:=a;exact e.symm)|(simp at a;obtain⟨_,_,e⟩:=a;exact e.symm))
def iJ (draw:Bool) (a:List Nat) (i j:Nat):Bool:=if draw then((a[j]?).getD 0).testBit i else decide (i<j)
def ru (a:List Nat) (o:Oper):Nat:=o.after.toList.foldl (λs e=>if Region.binds .any e then s ||| 2^e.on ||| (a[e.on]?).getD 0 else s) 0
def xn (ops:List Oper):List Nat:=ops.foldl (λacc o=>acc ++ [ru acc o]) []
def bN (ops:List Oper) (i:Nat):Option Nat:=(ops[i]?).bind (·.dst)
def iK (ls:List Ln) (i:Nat):Option Nat:=
 match ls[i]? with
 |some l=>match l.op with
  |.gv (.t d) _ _=>some (i-1-d)
  |_=>none
 |none=>none
def fy (ops:List Oper) (ls:List Ln) (i:Nat):Option Nat:=
 match iK ls i with
 |some j=>bN ops j
 |none=>bN ops i
def aJ (ls:List Ln) (i:Nat):Bool:=
 match ls[i]? with
 |some l=>l.op.il||l.op.gG
 |none=>false
def xo (ls:List Ln) (i:Nat):Bool:=
 match ls[i]? with
 |some l=>l.op.il&&l.g.isNone
 |none=>false
def cC (ls:List Ln) (i:Nat):Option Nat:=
 match ls[i]? with
 |some l=>match l.op with
  |.eC m=>some m
  |_=>none
 |none=>none
def lH (draw:Bool) (a:List Nat) (ops:List Oper) (ls:List Ln) (sl:List Nat) (i:Nat):Operand->Rf->Bool
 |.tmp s,.t d=>decide (d<i)&&fy ops ls (i-1-d)==some s&&iJ draw a (i-1-d) i
 |.tmp s,.v k=>sl[k]? == some s&&(List.range ops.length).all λj=>!(bN ops j==some s)||iJ draw a i j
 |.const v,.c x=>gl v x
 |.func f,.c (.func g [])=>f==g
 |_,_=>false
def mc (draw:Bool) (a:List Nat) (ops:List Oper) (ls:List Ln) (i:Nat) (o:Oper) (l:Ln):Bool:=
 match o.guard,l.g with
 |none,none=>true
 |some (j,b),some (.t d,e)=>b==e && decide (d<i)&&j==i-1-d&&(iK ls j).isNone&&(bN ops j).isSome&&iJ draw a j i
 |_,_=>false
def o6 (ops:List Oper) (nt i:Nat) (o:Oper):Bool:=
 match o.dst with
 |none=>true
 |some s=>decide (s<nt)&&(List.range i).all λj=>!(bN ops j==some s)
def kp (ls:List Ln) (draw:Bool) (a:List Nat) (i:Nat) (o:Oper) (l:Ln):Bool:=
 match l.op with
 |.eC _=>l.g.isNone&&o.dst.isSome
 |.gv (.t d) _ m=>l.g.isNone&&o.dst.isNone&&decide (d<i)&&cC ls (i-1-d)==some m&&iJ draw a (i-1-d) i&&(List.range i).all λj=>!(iK ls j==some (i-1-d))
 |.gv ..=>false
 |_=>true
def eU (ls:List Ln) (i:Nat):Bool:=
 match ls[i]? with
 |some l=>l.g.isNone&&(match l.op with
  |.kf .. | .can .. | .j8 .. | .vG | .je ..=>true
  |_=>false)
 |none=>false
def loose (ls:List Ln) (draw:Bool) (a:List Nat) (j i:Nat):Bool:=aJ ls j&&aJ ls i&&decide (j<i) && !iJ draw a j i
def kq (ls:List Ln) (draw:Bool) (a:List Nat) (j:Nat):Bool:=(List.range ls.length).any λi=>loose ls draw a j i
def kr (ls:List Ln) (draw:Bool) (a:List Nat) (i:Nat):Bool:=(List.range ls.length).any λj=>loose ls draw a j i
def jw (ls:List Ln) (draw:Bool) (a:List Nat) (k:Nat):Bool:=((List.range (k+1)).any λj=>kq ls draw a j)&&((List.range ls.length).any λi=>decide (k<=i)&&kr ls draw a i)
def mZ (ls:List Ln) (draw:Bool) (a:List Nat) (i:Nat) (l:Ln):Bool:=
 if l.op.il||l.op.gG then !l.prev&&(!jw ls draw a i||eU ls i)else true
def eI (ls:List Ln) (j v:Nat):Bool:=(List.range v).all λk=>!(decide (j<=k)) || !aJ ls k||eU ls k
def ry (ls:List Ln) (draw:Bool) (a:List Nat):Bool:=(List.range ls.length).all λk=>!jw ls draw a k
def iM (ls:List Ln) (i:Nat) (l:Ln):Nat:=if l.prev then((List.range i).reverse.find? (aJ ls)).getD 0 else i
def rA (ls:List Ln) (a b:Nat):Bool:=(List.range b).all λk=>!(decide (a<=k)) || !aJ ls k
def oy (ls:List Ln) (draw:Bool) (a:List Nat) (i:Nat) (l:Ln):Bool:=
 if l.op.il||l.op.gG||l.op.gW then true else
  (if l.prev then decide (iM ls i l<i)&&xo ls (iM ls i l)&&rA ls (iM ls i l+1) i else true) &&
  (List.range ls.length).all λj=>!aJ ls j||(if j<iM ls i l then iJ draw a j i||(eI ls j (iM ls i l)&&ry ls draw a)else iJ draw a i j||(j != i&&xo ls j&&eI ls (iM ls i l) j))
def tT (draw:Bool) (a:List Nat) (i:Nat) (o:Oper):Bool:=
 if draw then a[i]? == some (ru a o)&&o.after.toList.all λe=>!Region.binds .any e||decide (e.on<i)else true
def oz (P:Program) (draw:Bool) (a:List Nat) (ops:List Oper) (ls:List Ln) (sl:List Nat) (nt i:Nat):Bool:=
 match ops[i]?,ls[i]? with
 |some o,some l=>iA P (lH draw a ops ls sl i) o.op l.op&&mc draw a ops ls i o l&&o6 ops nt i o&&kp ls draw a i o l&&mZ ls draw a i l&&oy ls draw a i l&&tT draw a i o
 |_,_=>false
def Dr (b:List Nat) (i:Nat):∀(es:List Edge) (s:Nat),(es.foldl (λs e=>if Region.binds .any e then s ||| 2^e.on ||| (b[e.on]?).getD 0 else s) s).testBit i=true->
  s.testBit i=true\/∃e∈es,Region.binds .any e=true/\(e.on=i\/((b[e.on]?).getD 0).testBit i=true)
 | [],s,h=>.inl h
 |e::es,s,h=>by
  simp only[List.foldl_cons]at h;rcases Dr b i es _ h with h|⟨d, f,g⟩
  .by_cases a:Region.binds .any e=true
   .rw[if_pos a]at h
    simp only[Nat.testBit_or,Bool.or_eq_true,Nat.testBit_two_pow,decide_eq_true_eq]at h;rcases h with(h|h)|h
    .exact .inl h
    .exact .inr ⟨e,by simp,a,.inl h⟩
    .exact .inr ⟨e,by simp,a,.inr h⟩
   .rw[if_neg a]at h
    exact .inl h
  .exact .inr ⟨d, by simp[f],g⟩
structure RC (P:Program) where
 draw:Bool
 bf:List Nat
 ops:List Oper
 ls:List Ln
 sl:List Nat
 nt:Nat
 ce:CE
 vars:List AV
 σ0:List aj
 st:Nat->LS
 len:ops.length=ls.length
 ok:∀i,i<ls.length->oz P draw bf ops ls sl nt i=true
 xp:st 0=⟨[],σ0,σ0⟩
 run:∀i l,ls[i]? = some l->bS ce vars (st i) l=some (st (i+1))
 fG:bn P ce
 iD:bQ P ce
structure na (X:RC P) (i:Nat) (o:Oper) (l:Ln):Prop where
 op:iA P (lH X.draw X.bf X.ops X.ls X.sl i) o.op l.op=true
 g:mc X.draw X.bf X.ops X.ls i o l=true
 dst:o6 X.ops X.nt i o=true
 gv:kp X.ls X.draw X.bf i o l=true
 MJ:mZ X.ls X.draw X.bf i l=true
 read:oy X.ls X.draw X.bf i l=true
 bf:tT X.draw X.bf i o=true
namespace RC
variable (X:RC P)
theorem at_{i:Nat}(h:i<X.ls.length):∃o l,X.ops[i]? = some o/\X.ls[i]? = some l/\na X i o l:=by
 have:=X.ok i h;unfold oz at this;split at this
 .rename_i o l a b
  simp only[Bool.and_eq_true]at this;obtain⟨⟨⟨⟨⟨⟨d,e⟩,f⟩,g⟩,j⟩,m⟩,n⟩:=this;exact⟨o,l,a,b,d,e,f,g,j,m,n⟩
 .simp at this
theorem MK{i:Nat}(h:i<X.ls.length):∃v,(X.st (i+1)).env=v::(X.st i).env:=by
 obtain⟨o,l,_,a,_⟩:=X.at_ h;exact MI (X.run i l a)
theorem o7{i:Nat}(h:i<=X.ls.length){d:Nat}(a:d<i):nth (X.st i).env d=valOf X.st (i-1-d):=
 Dp (by rw[X.xp]) (λi b=>X.MK b) i h d a
theorem still{i:Nat}{l:Ln}(d:X.ls[i]? = some l) (h:aJ X.ls i=false):(X.st (i+1)).σ=(X.st i).σ/\(X.st (i+1)).aF=(X.st i).aF:=by
 have a:=X.run i l d;have b : l.op.il=false/\l.op.gG=false:=by simpa[aJ,d]using h
 unfold bS at a;split at a
 .simp at a
 .simp at a;rw[<-a];exact⟨rfl,rfl⟩
 .rw[if_neg (by rw[b.2];simp)]at a
  split at a
  .simp only[b.1,Bool.false_eq_true,if_false,Option.some.injEq]at a;rw[<-a];exact⟨rfl,rfl⟩
  .rename_i e
   have:=Dq b.1 e;simp at this
  .simp at a
theorem same{p:Nat}:∀(k:Nat),p+k<=X.ls.length->(∀j,p<=j->j<p+k->aJ X.ls j=false)->(X.st (p+k)).σ=(X.st p).σ/\(X.st (p+k)).aF=(X.st p).aF
 |0,_,_=>⟨rfl,rfl⟩
 |k+1,h,d=>by
  obtain⟨_,l,_,e,_⟩:=X.at_ (show p+k<X.ls.length by omega)
  obtain⟨f,g⟩:=X.still e (d (p+k) (by omega) (by omega))
  obtain⟨i,m⟩:=same k (by omega) λj a b=>d j a (by omega)
  exact⟨f.trans i,g.trans m⟩
theorem ks{p q:Nat}(h:p<=q) (e:q<=X.ls.length) (d:∀j,p<=j->j<q->aJ X.ls j=false):(X.st q).σ=(X.st p).σ/\(X.st q).aF=(X.st p).aF:=by
 have:=X.same (p:=p) (q-p) (by omega) (λj a b=>d j a (by omega))
 rwa [show p+(q-p)=q by omega]at this
end RC
end Ab
namespace Ab
open Go
variable{P:Program}
structure eV (X:RC P) (D:Nat->Prop) (C:Ctx) (f:Nat):Prop where
 ML:f<=X.ls.length
 lo:∀e,e<f->aJ X.ls e=true->D e
 hi:∀e,f<=e->aJ X.ls e=true->¬D e
 dM:fI C (X.st f).σ
 last:0<f->aJ X.ls (f-1)=true/\(xo X.ls (f-1)=true->Seen C (X.st (f-1)).σ)
def alive (X:RC P) (D:Nat->Prop) (a:Nat) (b:Nat):Prop:=b<(X.st a).σ.length\/∃i,aJ X.ls i=true/\jw X.ls X.draw X.bf i=true/\D i/\(X.st i).σ.length<=b/\b<(X.st (i+1)).σ.length
structure ku (X:RC P) (D:Nat->Prop) (C:Ctx) (lo hi:Nat):Prop where
 kv:∀k,jw X.ls X.draw X.bf k=true↔lo<=k/\k<=hi
 Cc:aJ X.ls hi=true
 le:lo<=hi
 before:∀e,e<lo->aJ X.ls e=true->D e
 behind:∀e,hi<e->aJ X.ls e=true->¬D e
 dM:∃ids,(∀b u e,alive X D lo b->(ad (X.st (hi+1)).σ ids C.I).own b u=some e->C.own b u=some e)/\∀b u,C.lim b u->alive X D lo b/\(ad (X.st (hi+1)).σ ids C.I).lim b u
def iN (X:RC P) (D:Nat->Prop) (C:Ctx) (f:Nat):Prop:=eV X D C f\/∃a b,ku X D C a b/\∃k,aJ X.ls k=true/\jw X.ls X.draw X.bf k=true/\D k
structure Inv (X:RC P) (C0:Ctx) (w0:World) (ds:List Deferred) (D:Nat->Prop) (C:Ctx) (f:Nat) (a:Act) (w:World):Prop where
 good:Good C w
 step:Step C0 w0 C w
 size:a.tmps.size=X.nt
 defers:a.defers=ds
 below:∀j,D j->j<X.ls.length
 closed:∀i j,D j->iJ X.draw X.bf i j=true->D i
 tv:∀j s,D j->fy X.ops X.ls j=some s->VR C w.heap (valOf X.st j) (a.tmps.getD s undef)
 vv:∀k s,X.sl[k]? = some s->(∀j,D j->bN X.ops j ≠ some s)->VR C w.heap (nth X.vars k) (a.tmps.getD s undef)
 lb:∀j m,D j->cC X.ls j=some m->(∀i,D i->iK X.ls i ≠ some j)->∃s id c el,bN X.ops j=some s/\a.tmps.getD s undef = .pointer (some ⟨id,0,none⟩)/\w0.heap.size<=id/\¬C.I id/\¬owned C id/\
  w.heap[id]? = some (.cells c el (0,0))/\c.size=m
 MM:∀j j' m m' s s' id,D j->D j' ->cC X.ls j=some m->cC X.ls j' = some m' ->(∀i,D i->iK X.ls i ≠ some j)->(∀i,D i->iK X.ls i ≠ some j')->bN X.ops j=some s->bN X.ops j' = some s' ->j ≠ j' ->
  a.tmps.getD s undef = .pointer (some ⟨id,0,none⟩)->a.tmps.getD s' undef ≠ .pointer (some ⟨id,0,none⟩)
 fr:iN X D C f
section
variable{X:RC P}{C0:Ctx}{w0:World}{ds:List Deferred}{D:Nat->Prop}{C:Ctx}{f:Nat}{a:Act}{w:World}
def Inv.ref (h:Inv X C0 w0 ds D C f a w){i:Nat}(hi:i<X.ls.length) (hD:¬D i) (hb:∀j,iJ X.draw X.bf j i=true->D j){x:Operand}{y:Rf}(Y:lH X.draw X.bf X.ops X.ls X.sl i x y=true) :
  VR C w.heap (rv X.vars (X.st i).env y) (a.eval x):=by
 unfold lH at Y;split at Y
 .simp only[Bool.and_eq_true,decide_eq_true_eq,beq_iff_eq]at Y
  obtain⟨⟨h1,h2⟩,h3⟩:=Y;show VR C w.heap (nth (X.st i).env _) (a.tmps.getD _ undef);rw[X.o7 (by omega) h1]
  exact h.tv _ _ (hb _ h3) h2
 .rename_i s k
  simp only[Bool.and_eq_true,beq_iff_eq,List.all_eq_true,List.mem_range,Bool.or_eq_true,Bool.not_eq_true', beq_eq_false_iff_ne]at Y;refine h.vv k s Y.1 λj hj hd=>?_;rcases Y.2 j (by rw[X.len];exact h.below j hj)with h1|h1
  .exact h1 hd
  .exact hD (h.closed _ _ hj h1)
 .exact xa Y
 .simp only[beq_iff_eq]at Y
  subst Y;show VR C w.heap (.func _ []) (.func (.func _) #[] #[]);unfold VR;exact⟨[],rfl,rfl⟩
 .simp at Y
def Inv.wanted (h:Inv X C0 w0 ds D C f a w){i:Nat}(hi:i<X.ls.length) (hb:∀j,iJ X.draw X.bf j i=true->D j){o:Oper}{l:Ln}(hF:na X i o l){b:Bool}(Y:want X.vars (X.st i).env l.g=some b) :
  Region.wanted o (yielded X.ops.toArray a.tmps)=b:=by
 have hg:=hF.g;unfold mc at hg;split at hg
 .rename_i h1 h2
  rw[h2]at Y;simp[want]at Y;subst Y;unfold Region.wanted;rw[h1]
 .rename_i j b1 d b2 h1 h2
  simp only[Bool.and_eq_true,beq_iff_eq,decide_eq_true_eq,Option.isNone_iff_eq_none]at hg;obtain⟨⟨⟨⟨⟨rfl,hd⟩,rfl⟩,ht⟩,vN⟩,xq⟩:=hg;rw[h2]at Y;simp only[want,rv,X.o7 (Nat.le_of_lt hi) hd]at Y;unfold Region.wanted;rw[h1];simp only;have hDj:=hb _ xq;have gx:∀s,bN X.ops (i-1-d)=some s->VR C w.heap (valOf X.st (i-1-d)) (a.tmps.getD s undef):=λs hs=>h.tv _ s hDj (by simp only[fy,ht];exact hs)
  have hy:yielded X.ops.toArray a.tmps (i-1-d)=match(bN X.ops (i-1-d)).bind (a.tmps[·]?)with
    |some (.bool b)=>some b
    |_=>none:=by
   unfold yielded bN;simp only[List.getElem?_toArray]
   rfl
  rw[hy];cases Ds:bN X.ops (i-1-d)with
  |none=>rw[Ds]at vN;simp at vN
  |some s=>
   have hv:=gx s Ds;simp only[Option.bind_some];cases hq:valOf X.st (i-1-d)<;>simp only[hq]at Y<;>try(simp at Y;done)
   .rw[hq]at hv
    have hv:a.tmps.getD s undef = .bool _:=hv;simp at Y;subst Y;have:a.tmps[s]? = some (.bool ‹Bool›):=by
     rw[Array.getD_eq_getD_getElem?]at hv;cases kh : a.tmps[s]? with
     |none=>rw[kh]at hv;simp[undef]at hv
     |some v=>rw[kh]at hv;simp at hv;rw[hv]
    rw[this];simp
   .rename_i tl
    cases tl with
    |cons _ _=>simp at Y
    |nil=>
     simp at Y;subst Y;rw[hq]at hv;unfold VR at hv;obtain⟨vs,e1,e2⟩:=hv;have e2:vs=[]:=e2;subst e2;rw[Array.getD_eq_getD_getElem?]at e1;cases kh : a.tmps[s]? with
     |none=>rfl
     |some v=>rw[kh]at e1;simp at e1;rw[e1];rfl
 .simp at hg
end
end Ab
namespace Ab
open Go
variable{P:Program}
def MN{a:Act}{dst:Option Tmp}{v:Value}{nt:Nat}(b:a.tmps.size=nt) (f:∀s,dst=some s->s<nt) (s:Nat):(a.put dst v).tmps.getD s undef=if dst=some s then v else a.tmps.getD s undef:=by
 cases dst with
 |none=>simp[Act.put]
 |some d=>
  have g:=f d rfl;simp only[Act.put,Array.getD_eq_getD_getElem?,Array.getElem?_setIfInBounds]
  by_cases e:d=s
  .subst e
   simp[b,g]
  .simp[e]
def MO (a:Act) (dst:Option Tmp) (v:Value):(a.put dst v).tmps.size=a.tmps.size:=by cases dst<;>simp[Act.put]
def MP (a:Act) (dst:Option Tmp) (v:Value):(a.put dst v).defers=a.defers:=by cases dst<;>rfl
namespace RC
variable (X:RC P)
variable{s:Nat}
theorem rB{i:Nat}(h:bN X.ops i=some s):i<X.ls.length:=by
 unfold bN at h;cases a:X.ops[i]? with
 |none=>simp[a]at h
 |some o=>rw[<-X.len];exact(List.getElem?_eq_some_iff.1 a).1
theorem xr{i:Nat}(h:bN X.ops i=some s):s<X.nt:=by
 obtain⟨o,l,a,d,b⟩:=X.at_ (X.rB h);have:=b.dst;simp only[bN,a,Option.bind_some]at h;simp only[o6,h,Bool.and_eq_true,decide_eq_true_eq]at this;exact this.1
variable{j:Nat}
theorem rC{i:Nat}(h:bN X.ops i=some s) (k:bN X.ops j=some s) (a:j<i):False:=by
 obtain⟨o,l,b,e,d⟩:=X.at_ (X.rB h);have:=d.dst;simp only[bN,b,Option.bind_some]at h;simp only[o6,h,Bool.and_eq_true,List.all_eq_true,List.mem_range]at this;have:=this.2 j a;simp[k]at this
theorem me{i:Nat}(h:bN X.ops i=some s) (k:bN X.ops j=some s):i=j:=by
 rcases Nat.lt_trichotomy i j with a|b|a
 .exact(X.rC k h a).elim
 .exact b
 .exact(X.rC h k a).elim
variable{t:Nat}
theorem dd{i:Nat}(h:iK X.ls i=some t):i<X.ls.length/\∃o l d x m,X.ops[i]? = some o/\X.ls[i]? = some l/\na X i o l/\l.op = .gv (.t d) x m/\l.g=none/\o.dst=none/\d<i/\t=i-1-d/\cC X.ls t=some m/\
  iJ X.draw X.bf t i=true/\∀j,j<i->iK X.ls j ≠ some t:=by
 unfold iK at h;cases b:X.ls[i]? with
 |none=>simp[b]at h
 |some l=>
  have e:=(List.getElem?_eq_some_iff.1 b).1;obtain⟨o,y, n,a, f⟩:=X.at_ e;rw[b]at a; simp at a; subst a;simp only[b]at h;split at h
  .rename_i d x m bO
   have:=f.gv;simp only[kp,bO,Bool.and_eq_true,Option.isNone_iff_eq_none,decide_eq_true_eq,beq_iff_eq,List.all_eq_true,List.mem_range,Bool.not_eq_true', beq_eq_false_iff_ne]at this;obtain⟨⟨⟨⟨⟨p,q⟩,r⟩,s⟩,u⟩,w⟩:=this;simp at h;subst h;exact⟨e,o,l,d,x,m,n,rfl,f,bO,p,q,r,rfl,s,u,w⟩
  .simp at h
theorem o8{i:Nat}(h:iK X.ls i=some t) (k:iK X.ls j=some t):i=j:=by
 obtain⟨_,_,_,_,_,_,_,_,_,_,_,_,_,_,_,_,b⟩:=X.dd h;obtain⟨_,_,_,_,_,_,_,_,_,_,_,_,_,_,_,_,d⟩:=X.dd k;rcases Nat.lt_trichotomy i j with a|e|a
 .exact absurd h (d i a)
 .exact e
 .exact absurd k (b j a)
end RC
section
variable{X:RC P}{C0:Ctx}{w0:World}{ds:List Deferred}{D:Nat->Prop}{C:Ctx}{f:Nat}{a:Act}{w:World}
def iN.nc{i:Nat}(h:iN X D C f) (he:aJ X.ls i=false) (I' : Nat->Prop):iN X (λj=>D j\/j=i) {C with I:=I'} f:=by
 rcases h with h|⟨j,i2,h,k0,y1,y2,y3⟩
 .refine .inl ⟨h.ML,λe Y h2=>.inl (h.lo e Y h2),λe Y h2 h3=>?_,h.dM.rr I', λhf=>⟨(h.last hf).1,λhe=>((h.last hf).2 he).rr I'⟩⟩
  rcases h3 with h3|rfl
  .exact h.hi e Y h2 h3
  .rw[he]at h2;simp at h2
 .obtain⟨ids,e1,e2⟩:=h.dM
  have fP:∀b,alive X (λk=>D k\/k=i) j b↔alive X D j b:=λb=>by
   constructor
   .rintro(Y|⟨k,k1,k2,k3,k4⟩)
    .exact .inl Y
    .rcases k3 with k3|rfl
     .exact .inr ⟨k,k1,k2,k3,k4⟩
     .rw[he]at k1;simp at k1
   .rintro(Y|⟨k,k1,k2,k3,k4⟩)
    .exact .inl Y
    .exact .inr ⟨k,k1,k2,.inl k3,k4⟩
  refine .inr ⟨j,i2,⟨h.kv,h.Cc,h.le,λe Y h2=>.inl (h.before e Y h2),λe Y h2 h3=>?_,ids,λb u e ha ho=>e1 b u e ((fP b).1 ha) ho,λb u hl=>⟨(fP b).2 (e2 b u hl).1,(e2 b u hl).2⟩⟩,k0,y1,y2,.inl y3⟩;rcases h3 with h3|rfl
  .exact h.behind e Y h2 h3
  .rw[he]at h2;simp at h2
def Inv.after (h:Inv X C0 w0 ds D C f a w){i:Nat}(hi:i<X.ls.length) (hD:¬D i) (hb:∀j,iJ X.draw X.bf j i=true->D j){o:Oper}(ho:X.ops[i]? = some o){C' : Ctx}{w' : World}{v:Value}{f' : Nat}
  (Dt : Good C' w') (eA:Step C w C' w') (MQ:iK X.ls i=none) (hv:VR C' w'.heap (valOf X.st i) v)
  (fP:∀m,cC X.ls i=some m->(∃s,o.dst=some s)/\∃id c el,v = .pointer (some ⟨id,0,none⟩)/\w.heap.size<=id/\¬C'.I id/\¬owned C' id/\w'.heap[id]? = some (.cells c el (0,0))/\c.size=m)
  (wX:iN X (λj=>D j\/j=i) C' f'):Inv X C0 w0 ds (λj=>D j\/j=i) C' f' (a.put o.dst v) w' :=by
 have tn:bN X.ops i=o.dst:=by simp[bN,ho]
 have jU:=MN (v:=v) h.size (dst:=o.dst) λs hs=>X.xr (i:=i) (by rw[tn];exact hs)
 have MS:∀j s,D j->bN X.ops j=some s->(a.put o.dst v).tmps.getD s undef=a.tmps.getD s undef:=λj s Y hs=>by
  rw[jU,if_neg];intro e;have:=X.me hs (tn.trans e);exact hD (this▸Y)
 have old:∀j m,D j->cC X.ls j=some m->(∀i', (D i' \/i' = i)->iK X.ls i' ≠ some j)->∃s id c el,bN X.ops j=some s/\a.tmps.getD s undef = .pointer (some ⟨id,0,none⟩)/\(a.put o.dst v).tmps.getD s undef = .pointer (some ⟨id,0,none⟩)/\
   w0.heap.size<=id/\¬C'.I id/\¬owned C' id/\w'.heap[id]? = some (.cells c el (0,0))/\c.size=m/\id<w.heap.size:=λj m Y hm hn=>by
  obtain⟨s,id,c,el,k1,k2,k3,k4,k5,k6,k7⟩:=h.lb j m Y hm λi' ja =>hn i' (.inl ja);have bP:=(Array.getElem?_eq_some_iff.1 k6).1;refine⟨s,id,c,el,k1,k2,by rw[MS j s Y k1];exact k2,k3,λhI=>?_,λhO=>?_,by rw[eA.frame id bP k5];exact k6,k7,bP⟩
  .rcases eA.cv id hI with q|q|q
   .exact k4 q
   .exact k5 q
   .omega
  .rcases eA.cm id hO with q|q
   .exact k5 q
   .omega
 refine⟨Dt, h.step.trans eA,by rw[MO];exact h.size,by rw[MP];exact h.defers,λj Y=>Y.elim (h.below j) (λe=>e▸hi),λi' j Y xq=>?_,λj s Y hs=>?_,λk s hk hn=>?_,λj m Y hm hn=>?_,?_,wX⟩
 .rcases Y with Y|rfl
  .exact .inl (h.closed _ _ Y xq)
  .exact .inl (hb _ xq)
 .rcases Y with Y|rfl
  .have fm:o.dst ≠ some s:=λe=>by
    unfold fy at hs;cases ht:iK X.ls j with
    |none=>
     simp only[ht]at hs;exact hD (X.me hs (tn.trans e)▸Y)
    |some t=>
     simp only[ht]at hs;obtain⟨_,_,_,_,_,_,_,_,_,_,_,_,_,_,_,Du,_⟩:=X.dd ht;exact hD (X.me hs (tn.trans e)▸h.closed _ _ Y Du)
   rw[jU,if_neg fm];exact VR.mono eA.ev _ _ (h.tv j s Y hs)
  .simp only[fy,MQ,tn]at hs
   rw[jU,if_pos hs];exact hv
 .have fm:o.dst ≠ some s:=λe=>hn i (.inr rfl) (tn.trans e)
  rw[jU,if_neg fm];exact VR.mono eA.ev _ _ (h.vv k s hk λj Y=>hn j (.inl Y))
 .rcases Y with Y|rfl
  .obtain⟨s,id,c,el,k1,_,k2,k3,k4,k5,k6,k7,_⟩:=old j m Y hm hn
   exact⟨s,id,c,el,k1,k2,k3,k4,k5,k6,k7⟩
  .obtain⟨⟨s,hs⟩,id,c,el,k1,k2,k3,k4,k5,k6⟩:=fP m hm
   exact⟨s,id,c,el,tn.trans hs,by rw[jU,if_pos hs];exact k1,Nat.le_trans h.step.size k2,k3,k4,k5,k6⟩
 .intro j j' m m' s s' id Y oX hm pE hn iZ hs iY fm e1 e2
  rcases Y with Y|rfl<;>rcases oX with oX | rfl
  .rw[MS j s Y hs]at e1
   rw[MS j' s' oX iY]at e2;exact h.MM j j' m m' s s' id Y oX hm pE (λi' ja =>hn i' (.inl ja)) (λi' ja =>iZ i' (.inl ja)) hs iY fm e1 e2
  .obtain⟨s1,id1,c,el,k1,_,k2,_,_,_,_,_,k3⟩:=old j m Y hm hn
   rw[k1]at hs;simp at hs;subst hs;obtain⟨_,tj,c2,Cd,q1,q2,_⟩:=fP m' pE;rw[jU,if_pos (tn.symm.trans iY),q1]at e2;rw[k2]at e1;simp at e1 e2;omega
  .obtain⟨s1,id1,c,el,k1,_,k2,_,_,_,_,_,k3⟩:=old j' m' oX pE iZ
   rw[k1]at iY; simp at iY; subst iY;obtain⟨_,tj,c2,Cd,q1,q2,_⟩:=fP m hm;rw[jU,if_pos (tn.symm.trans hs),q1]at e1;rw[k2]at e2;simp at e1 e2;omega
  .exact fm rfl
def Inv.fill (h:Inv X C0 w0 ds D C f a w){i t d m:Nat}{x:Rf}(hi:i<X.ls.length) (hD:¬D i) (hb:∀j,iJ X.draw X.bf j i=true->D j){l:Ln}(hl:X.ls[i]? = some l) (bO:l.op = .gv (.t d) x m) (ht:iK X.ls i=some t)
  {xv:AV} {y:Value} (gx:valOf X.st i = .ar xv) (hn:aB xv=true) (hxy:VR C w.heap xv y) {s id:Nat} {c:Array Value} {el:TypeId} (hs:bN X.ops t=some s) (hp:a.tmps.getD s undef = .pointer (some ⟨id,0,none⟩))
  (hid:w0.heap.size<=id) (hI:¬C.I id) (hO:¬owned C id) (hH:w.heap[id]? = some (.cells c el (0,0))) {c' : Array Value} (tE:c'.size=c.size) (hc:∀j,j<y.cells.size->c'[j]? = y.cells[j]?) :
  Inv X C0 w0 ds (λj=>D j\/j=i) {C with I:=λk=>C.I k\/k=id} f a (w.setRow id c'):=by
 obtain⟨_,o,l', d', x', m', ho,gF, hF,pV, hg,xt,hd,htd,fP,Du,Dv⟩:=X.dd ht;have hDt:=hb _ Du;have tn:bN X.ops i=none:=by simp[bN,ho,xt]
 have tG : (w.setRow id c').heap[id]? = some (.cells c' el (0,0)):=setRow_heap w id c c' el (0,0) hH;have bP:=(Array.getElem?_eq_some_iff.1 hH).1;have ev:cF C w.heap {C with I:=λk=>C.I k\/k=id} (w.setRow id c').heap:=by
  refine⟨λk hk=>.inl hk,λk hk=>gr w id c' λe=>hI (e▸hk),λ_ _ h=>h,λb u B' tj _ Y=>⟨B', Y,rfl,rfl,λc2 Cd KH=>?_⟩⟩
  by_cases e:tj=id
  .subst e
   rw[hH]at KH;simp at KH;obtain⟨rfl,rfl⟩:=KH;exact⟨c', tG, tE⟩
  .exact⟨c2,by rw[gr w id c' e];exact KH,rfl⟩
 have Dw:Good {C with I:=λk=>C.I k\/k=id} (w.setRow id c'):=by
  refine⟨λk hk=>by rw[kK];exact hk.elim (h.good.I k) (λe=>e▸bP),h.good.ij,λb u B i' Y rD=>?_,h.good.apart,λb u B i' es Y rD=>?_⟩
  obtain⟨k1,c2,Cd,k2,k3,k4⟩:=h.good.live b u B i' Y rD;have fm:i' ≠ id:=λe=>hO ⟨b,u,B,e▸Y,gS rD⟩;refine⟨λhk=>hk.elim k1 fm,c2,Cd,by rw[gr w id c' fm];exact k2,k3,λi2 x2 hx2=>?_⟩
  obtain⟨y2,j1,j2,j3⟩:=k4 i2 x2 hx2;exact⟨y2,j1,VR.mono ev _ _ j2,j3⟩;have fm:i' ≠ id:=λe=>hO ⟨b,u,B,e▸Y,gN rD⟩;exact h.good.bG (C' :={C with I:=λk=>C.I k\/k=id}) ev Y rD (gr w id c' fm) (λhk=>hk.elim (h.good.maps b u B i' es Y rD).1 fm)
 have Dx:Step C0 w0 {C with I:=λk=>C.I k\/k=id} (w.setRow id c'):=by
  refine⟨h.step.ev.trans ev,by rw[kK];exact h.step.size,λk hk re=>by rw[gr w id c' (by omega)];exact h.step.frame k hk re,λk hk=>h.step.cm k hk,λk hk=>?_,h.step.os,h.step.tape,h.step.output⟩
  rcases hk with hk|rfl
  .exact h.step.cv k hk
  .exact .inr (.inr hid)
 have fm:aJ X.ls i=false:=by simp[aJ,hl,bO,bZ.il,bZ.gG]
 have MT:∀i', D i' ->iK X.ls i' ≠ some t:=λi' ja e=>hD (X.o8 ht e▸ja);refine⟨Dw,Dx,h.size,h.defers,λj hj=>hj.elim (h.below j) (λe=>e▸hi),λi' j hj xq=>?_,λj s' hj iY =>?_,λk s' hk iZ =>?_,λj m2 hj hm iZ =>?_,?_,h.fr.nc fm _⟩
 .rcases hj with hj|rfl
  .exact .inl (h.closed _ _ hj xq)
  .exact .inl (hb _ xq)
 .rcases hj with hj|rfl
  .exact VR.mono ev _ _ (h.tv j s' hj iY)
  .simp only[fy,ht]at iY
   rw[hs]at iY; simp at iY; subst iY;rw[gx,hp];unfold VR;exact⟨hn,id,0,c', el,(0,0),y,rfl,.inr rfl,tG, VR.mono ev _ _ hxy,λj hj=>by rw[Nat.zero_add];exact hc j hj⟩
 .exact VR.mono ev _ _ (h.vv k s' hk λj hj=>iZ j (.inl hj))
 .rcases hj with hj|rfl
  .obtain⟨s2,tj,c2,Cd,k1,k2,k3,k4,k5,k6,k7⟩:=h.lb j m2 hj hm λi' ja =>iZ i' (.inl ja)
   have hjt:j ≠ t:=λe=>iZ i (.inr rfl) (e▸ht);have Dy:tj ≠ id:=λe=>by
    subst e;exact h.MM j t m2 m' s2 s tj hj hDt hm fP (λi' ja =>iZ i' (.inl ja)) MT k1 hs hjt k2 hp
   exact⟨s2,tj,c2,Cd,k1,k2,k3,λhk=>hk.elim k4 Dy,k5,by rw[gr w id c' Dy];exact k6,k7⟩
  .simp[cC,hl,bO]at hm
 .intro j j' m1 m2 s1 s2 tj hj oX hm pE tU tV hs1 MU MV e1 e2
  have hji:∀j m,(D j\/j=i)->cC X.ls j=some m->D j:=λj m hj hm=>hj.elim (λq=>q) λe=>by
   subst e;simp[cC,hl,bO]at hm
  exact h.MM j j' m1 m2 s1 s2 tj (hji j m1 hj hm) (hji j' m2 oX pE) hm pE (λi' ja =>tU i' (.inl ja)) (λi' ja =>tV i' (.inl ja)) hs1 MU MV e1 e2
end
end Ab
namespace Ab
open Go
variable{P:Program}
section
variable{a:Act}{r:Rf->AV}{w:World}{C:Ctx}{R:Operand->Rf->Bool}{ce:CE}{σ:List aj}{nl:Nat}{ps:List bI}
variable{o:Oper}{kO:bZ}{x:AV}
def opR{p:Option bI}(d:iA P R o.op kO=true) (E:kO.gW=false) (F:kO.il=false) (G:kO.gG=false) (s:bn P ce) (n:Good C w)
  (g:∀b u B,C.lim b u->dm σ b u=some B->∃id,C.own b u=some (B,id))
  (i:∀x y,R x y=true->VR C w.heap (r y) (a.eval x)) (m:ev ce σ nl ps r kO=some (x,p)):aX P o a w (b7 C w x):=by
 have j:∀b u B,C.lim b u->upto σ b u=some B->∃id,C.own b u=some (B,id):=λb u B H h=>g b u B H (C8 h);obtain⟨dst,op,type,pos,after,guard⟩:=o;have pl:∀{D : AV} {I : Option bI},Plain P a.eval ⟨dst,op,type,pos,after,guard⟩ w C w.heap D /\I = none->aX P ⟨dst,op,type,pos,after,guard⟩ a w (b7 C w D):=λh=>h.1.does n;simp only[iA]at d;split at d
 all_goals first
  |(exfalso;simp[bZ.gW]at E;done)
  |(exfalso;simp[bZ.gG]at G;done)
  |(exfalso;simp[bZ.il]at F;done)
  |skip
 .simp only[Bool.and_eq_true,Bool.or_eq_true]at d
  exact pl (C9 (a:=a) rfl rfl d.1.1 d.1.2 j (d.2.imp (λh=>⟨h.1,i _ _ h.2⟩) (λh=>⟨h.1,i _ _ h.2⟩)) m)
 .simp only[Bool.and_eq_true]at d
  exact pl (rf rfl d.1 n j (i _ _ d.2) m)
 .simp only[Bool.and_eq_true]at d
  obtain⟨⟨⟨f,l⟩,z⟩,J⟩:=d;split at f
  .rename_i e q
   exact pl (Da rfl q f j (i _ _ l) z J i m)
  .simp at f
 .simp only[Bool.and_eq_true,beq_iff_eq]at d
  obtain⟨⟨rfl,f⟩,l⟩:=d;exact(Cy s rfl rfl f n j (kl i l) m).1
 .simp only[Bool.and_eq_true,beq_iff_eq]at d
  obtain⟨⟨⟨f,rfl⟩,l⟩,z⟩:=d;split at f
  .rename_i q
   simp only[Bool.and_eq_true]at f;exact pl (Db rfl q f.1 f.2 n g (i _ _ l) (i _ _ z) m)
  .simp at f
 .split at d
  .rename_i K A
   simp only[Bool.and_eq_true]at d;obtain⟨f,l⟩:=d;split at f
   .rename_i q
    exact pl (Dc rfl rfl K A q n g (i _ _ l) m)
   .simp at f
  .simp at d
 .simp at d
def opW{σ' : List aj}{ids:Nat->Nat}{I:Nat->Prop}(b:iA P R o.op kO=true) (s:kO.gG=true) (p:bn P ce) (u:bQ P ce) (j:Good (ad σ ids I) w)
  (f:∀x y,R x y=true->VR (ad σ ids I) w.heap (r y) (a.eval x)) (l:dO ce σ r kO=some (x,σ')):aX P o a w (kj σ ids I w x σ'):=by
 obtain⟨dst,op,type,pos,after,guard⟩:=o;simp only[iA]at b;split at b
 all_goals first
  |(exfalso;simp[bZ.gG]at s;done)
  |skip
 .simp only[Bool.and_eq_true]at b
  exact CQ rfl b.1.1 j (f _ _ b.1.2) (f _ _ b.2) l
 .split at b
  .rename_i q h
   simp only[Bool.and_eq_true]at b;obtain⟨⟨⟨d,g⟩,m⟩,n⟩:=b;split at d
   .rename_i e i
    simp only[Bool.and_eq_true]at d;exact LR rfl rfl q h i g d.1.1 d.1.2 d.2 j (f _ _ m) (f _ _ n) l
   .simp at d
  .simp at b
 .simp only[Bool.and_eq_true,beq_iff_eq]at b
  obtain⟨⟨rfl,d⟩,g⟩:=b;exact L2 p rfl rfl d j (kl f g) l
 .split at b
  .rename_i q h
   simp only[Bool.and_eq_true]at b;obtain⟨d,g⟩:=b;split at d
   .rename_i e i
    simp only[Bool.and_eq_true]at d;exact L7 rfl rfl q h i d.1 d.2 j (f _ _ g) l
   .simp at d
  .simp at b
 .simp only[Bool.and_eq_true]at b
  obtain⟨⟨⟨d,g⟩,m⟩,n⟩:=b;split at d
  .rename_i i
   exact CR (.inl rfl) i d j (f _ _ g) (f _ _ m) (f _ _ n) l
  .simp at d
 .simp only[Bool.and_eq_true]at b
  obtain⟨⟨⟨d,g⟩,m⟩,n⟩:=b;split at d
  .rename_i i
   exact CR (.inr rfl) i d j (f _ _ g) (f _ _ m) (f _ _ n) l
  .simp at d
 .simp at b
variable{n:Nat}
def opA(b:iA P R o.op (.eC n)=true) (f:Good C w) :
  aX P o a w λv w' =>Good C w' /\Step C w C w' /\∃id c el,v = .pointer (some ⟨id,0,none⟩)/\w.heap.size<=id/\¬C.I id/\¬owned C id/\w'.heap[id]? = some (.cells c el (0,0))/\c.size=n:=by
 obtain⟨dst,op,type,pos,after,guard⟩:=o;simp only[iA]at b;split at b
 all_goals first
  |(rename_i heq;exfalso;simp at heq;done)
  |skip
 .rename_i t q heq
  simp at heq;subst heq;simp only[Bool.and_eq_true]at b;obtain⟨_,e⟩:=b;cases g:P.info? t with
  |none=>simp[g]at e
  |some i=>
   simp only[g]at e;cases h:i.zero with
   |none=>simp[h]at e
   |some v=>
    simp only[h,beq_iff_eq]at e;obtain⟨j,l⟩:=f.grow (w' :=bj w (.cells v.cells t)) (by simp[bj]) λk d=>jc w _ d
    refine aX.val (v:=.pointer (some ⟨w.heap.size,0,none⟩)) (w' :=bj w (.cells v.cells t)) ?_ ⟨j,⟨l,by simp[bj],λk d _=>jc w _ d,λk d=>.inl d,λk d=>.inl d,rfl,⟨rfl,Nat.le_refl _⟩,rfl⟩,w.heap.size,v.cells,t,rfl,Nat.le_refl _,λm=>Nat.lt_irrefl _ (f.I _ m),λp=>Nat.lt_irrefl _ (f.lt p),kI w _,e⟩
    simp only[execOp,Instr.alloc,zeroValue,Sem.run_bind,run_typeInfo w g,Result.andThen_ok,h,Sem.run_pure,tu]
 .simp at b
def opI{p x:Rf}(d:iA P R o.op (.gv p x n)=true){id:Nat}{c:Array Value}{el:TypeId}(u:∀q,R q p=true->a.eval q = .pointer (some ⟨id,0,none⟩)) (A:w.heap[id]? = some (.cells c el (0,0))) (I:c.size=n)
  (B:∀q,R q x=true->VR C w.heap (r x) (a.eval q)) (h:aB (r x)=true) (D:(r x).cells.length=n) :
  ∃y,VR C w.heap (r x) y/\aX P o a w λ_ w' =>∃c', w' = w.setRow id c' /\c'.size=c.size/\∀j,j<y.cells.size->c'[j]? = y.cells[j]?:=by
 obtain⟨dst,op,type,pos,after,guard⟩:=o;simp only[iA]at d;split at d
 all_goals first
  |(rename_i heq;exfalso;simp at heq;done)
  |skip
 .rename_i t q z J K L heq
  simp at heq;obtain⟨rfl,rfl,rfl⟩:=heq;simp only[Bool.and_eq_true]at d;obtain⟨⟨E,F⟩,G⟩:=d;have i:=B _ G;have f:eG (r x):=⟨λe=>by rw[e]at h;simp[aB]at h,λl e=>by rw[e]at h;simp[aB]at h⟩
  have m:=VR.size f i;have g:∀v∈(a.eval z).cells.toList,v.oneCell' = true:=(VR.cells f i).2;have e:=u _ F;refine⟨a.eval z,i,?_⟩;have b:=run_storeCells_at P id 0 el (a.eval z).cells.toList 0 c w A (by simp;omega) g
  refine aX.skip (w' :=w.setRow id (c.toList.take 0++(a.eval z).cells.toList++c.toList.drop (0+(a.eval z).cells.toList.length)).toArray) ?_ ⟨_,rfl,?_,λj H=>?_⟩
  .have s:=gp E w
   simp only[execOp,Instr.storeAt,e,Instr.sureAddr,storeVar,Sem.run_bind,Sem.run_pure,Result.andThen_ok,s];rw[if_neg (by rw[m,D];simp)]
   simp only[Nat.add_zero]at b;rw[b]
   rfl
  .simp;omega
  .simp[List.getElem?_append_left,H]
 .simp at d
end
end Ab
namespace Ab
open Go
variable{P:Program}
namespace RC
variable (X:RC P)
theorem cQ{i:Nat}(a:aJ X.ls i=true):i<X.ls.length:=by
 unfold aJ at a;cases b:X.ls[i]? with
 |none=>simp[b]at a
 |some l=>exact(List.getElem?_eq_some_iff.1 b).1
variable{k:Nat}
theorem ka:jw X.ls X.draw X.bf k=true↔(∃j,j<=k/\kq X.ls X.draw X.bf j=true)/\∃i,i<X.ls.length/\k<=i/\kr X.ls X.draw X.bf i=true:=by
 simp only[jw,Bool.and_eq_true,List.any_eq_true,List.mem_range,decide_eq_true_eq];constructor
 .rintro⟨⟨j,f,a⟩,i,b,d,e⟩;exact⟨⟨j,by omega,a⟩,i,b,d,e⟩
 .rintro⟨⟨j,f,a⟩,i,b,d,e⟩;exact⟨⟨j,by omega,a⟩,i,b,d,e⟩
theorem jx{i j:Nat}(a:aJ X.ls i=true) (d:aJ X.ls j=true) (b:j<i):iJ X.draw X.bf j i=true\/jw X.ls X.draw X.bf j=true/\jw X.ls X.draw X.bf i=true:=by
 cases h:iJ X.draw X.bf j i with
 |true=>exact .inl rfl
 |false=>
  have e:loose X.ls X.draw X.bf j i=true:=by simp[loose,a,d,b,h]
  have f:kq X.ls X.draw X.bf j=true:=List.any_eq_true.2 ⟨i,List.mem_range.2 (X.cQ a),e⟩;have g:kr X.ls X.draw X.bf i=true:=List.any_eq_true.2 ⟨j,List.mem_range.2 (X.cQ d),e⟩;exact .inr ⟨X.ka.2 ⟨⟨j,Nat.le_refl _,f⟩,i,X.cQ a,by omega,g⟩,X.ka.2 ⟨⟨j,by omega,f⟩,i,X.cQ a,Nat.le_refl _,g⟩⟩
theorem iO{i:Nat}(a:aJ X.ls i=true) (b:jw X.ls X.draw X.bf i=true):eU X.ls i=true:=by
 obtain⟨o,l,g,d,e⟩:=X.at_ (X.cQ a);have h:=e.MJ;have f:(l.op.il||l.op.gG)=true:=by simpa[aJ,d]using a
 simp only[mZ,f,if_true,Bool.and_eq_true,b,Bool.not_true,Bool.false_or]at h;exact h.2
theorem least{p:Nat->Prop}:∀n,p n->∃m,p m/\∀k,k<m->¬p k:=by
 intro n
 induction n using Nat.strongRecOn with
 |_ n b=>
  intro h
  by_cases a:∃k,k<n/\p k
  .obtain⟨k,d,e⟩:=a;exact b k d e
  .exact⟨n,h,λk f g=>a ⟨k,f,g⟩⟩
theorem rE{p:Nat->Prop}{L:Nat}(a:∀k,p k->k<L){n:Nat}(h:p n):∃m,p m/\∀k,m<k->¬p k:=by
 obtain⟨d,b,e⟩:=least (p:=λd=>d<=L/\p (L-d)) (L-n) ⟨by omega,by have:=a n h;rwa [show L-(L-n)=n by omega]⟩
 refine⟨L-d,b.2,λk g f=>?_⟩;have:=a k f;exact e (L-k) (by omega) ⟨by omega,by rwa [show L-(L-k)=k by omega]⟩
theorem kv(h:jw X.ls X.draw X.bf k=true):∃d a,(∀k,jw X.ls X.draw X.bf k=true↔d<=k/\k<=a)/\aJ X.ls a=true/\d<=a:=by
 obtain⟨⟨j,_,s⟩,i,B,_,u⟩:=X.ka.1 h;have e:∀i,kr X.ls X.draw X.bf i=true->aJ X.ls i=true/\∃j,j<i/\kq X.ls X.draw X.bf j=true:=λi a=>by
  obtain⟨j,_,f⟩:=List.any_eq_true.1 a;have g :=f;simp only[loose,Bool.and_eq_true,decide_eq_true_eq]at f;exact⟨f.1.1.2,j,f.1.2,List.any_eq_true.2 ⟨i,List.mem_range.2 (X.cQ f.1.1.2),g⟩⟩
 obtain⟨d,w,m⟩:=least (p:=λj=>kq X.ls X.draw X.bf j=true) j s;obtain⟨a,n,x⟩:=rE (p:=λi=>kr X.ls X.draw X.bf i=true) (L:=X.ls.length) (λk y=>X.cQ (e k y).1) u;obtain⟨o,q, C,z⟩:=e a n;have hle:d<=a:=by
  have:¬q < d:=λb=>m q b z;omega
 refine⟨d,a,λk=>X.ka.trans ⟨?_,?_⟩,o,hle⟩
 .rintro⟨⟨j,r,l⟩,i,_,b1,A⟩
  have D:¬j<d:=λb=>m j b l;have E:¬a<i:=λb=>x i b A;omega
 .rintro⟨r,l⟩
  exact⟨⟨d,r,w⟩,a,X.cQ o,l,n⟩
theorem free_spec{i:Nat}{l:Ln}(e:X.ls[i]? = some l) (h:eU X.ls i=true):l.g=none/\l.op.il=true/\l.op.gG=false/\l.op.jJ=false/\(∀ce σ σ' nl ps r,ev ce σ nl ps r l.op=ev ce σ' nl ps r l.op)/\
  ∀ce σ nl ps r x p,ev ce σ nl ps r l.op=some (x,p)->((∀f as,l.op ≠ .can f as)/\∃B,p=some (.new B))\/∃j,p=some (.news j):=by
 simp only[eU,e,Bool.and_eq_true,Option.isNone_iff_eq_none]at h;obtain⟨b,d⟩:=h;split at d
 .rename_i bO
  rw[bO];refine⟨b,rfl,rfl,rfl,λ_ _ _ _ _ _=>rfl,λce σ nl ps r x p a=>.inl ⟨by simp,?_⟩⟩
  simp only[ev]at a;split at a<;>try(simp at a;done)
  split at a<;>simp at a;exact⟨_,a.2.symm⟩
 .rename_i bO
  rw[bO];refine⟨b,rfl,rfl,rfl,λ_ _ _ _ _ _=>rfl,λce σ nl ps r x p a=>.inr ?_⟩;simp only[ev]at a;split at a<;>try(simp at a;done)
  split at a<;>simp at a;exact⟨_,a.2.symm⟩
 .rename_i bO
  rw[bO];refine⟨b,rfl,rfl,rfl,λ_ _ _ _ _ _=>rfl,λce σ nl ps r x p a=>.inl ⟨by simp,?_⟩⟩
  simp only[ev]at a;split at a<;>simp at a
  exact⟨_,a.2.symm⟩
 .rename_i bO
  rw[bO];refine⟨b,rfl,rfl,rfl,λ_ _ _ _ _ _=>rfl,λce σ nl ps r x p a=>.inl ⟨by simp,?_⟩⟩
  simp only[ev,Option.some.injEq,Prod.mk.injEq]at a;exact⟨_,a.2.symm⟩
 .rename_i bO
  rw[bO];refine⟨b,rfl,rfl,rfl,λ_ _ _ _ _ _=>rfl,λce σ nl ps r x p a=>.inl ⟨by simp,?_⟩⟩
  simp only[ev]at a;split at a<;>simp at a
  exact⟨_,a.2.symm⟩
 .simp at d
theorem pX{i:Nat}(e:aJ X.ls i=true) (h:jw X.ls X.draw X.bf i=true):∃l,(X.st (i+1)).σ=(X.st i).σ++l:=by
 obtain⟨o,l,q,f,r⟩:=X.at_ (X.cQ e);obtain⟨j,s,m,_,_,g⟩:=X.free_spec f (X.iO e h);have d:=X.run i l f;unfold bS at d;simp only[j,want,m,Bool.false_eq_true,if_false]at d;split at d
 .rename_i v b
  rcases g _ _ _ _ _ _ _ b with⟨_,B,a⟩|⟨n,a⟩<;>simp at a
 .rename_i v p b
  simp only[Option.some.injEq]at d;rw[<-d];rcases g _ _ _ _ _ _ _ b with⟨_,B,a⟩|⟨n,a⟩
  .simp at a;subst a;exact⟨_,rfl⟩
  .simp at a;subst a;exact⟨_,rfl⟩
 .simp at d
theorem pre{d e:Nat}(b:∀k,jw X.ls X.draw X.bf k=true↔d<=k/\k<=e){p:Nat}:∀(n:Nat),d<=p->p+n<=e+1->p+n<=X.ls.length->∃l,(X.st (p+n)).σ=(X.st p).σ++l
 |0,_,_,_=>⟨[],by simp⟩
 |n+1,i,j,m=>by
  obtain⟨l,f⟩:=pre b n i (by omega) (by omega)
  cases g:aJ X.ls (p+n)with
  |true=>
   obtain⟨h, a⟩:=X.pX g ((b _).2 ⟨by omega,by omega⟩)
   exact⟨l++h, by rw[show p+(n+1)=p+n+1 by omega,a, f,List.append_assoc]⟩
  |false=>
   obtain⟨o,h, q,a, r⟩:=X.at_ (show p+n<X.ls.length by omega)
   exact⟨l,by rw[show p+(n+1)=p+n+1 by omega,(X.still a g).1,f]⟩
variable{lo hi p q:Nat}
theorem rF(a:∀k,jw X.ls X.draw X.bf k=true↔lo<=k/\k<=hi) (b:lo<=p) (d:p<=q) (e:q<=hi+1) (f:q<=X.ls.length):∃l,(X.st q).σ=(X.st p).σ++l:=by
 have:=X.pre a (p:=p) (q-p) b (by omega) (by omega)
 rwa [show p+(q-p)=q by omega]at this
theorem iP(a:∀k,jw X.ls X.draw X.bf k=true↔lo<=k/\k<=hi) (b:lo<=p) (d:p<=q) (e:q<=hi+1) (f:q<=X.ls.length):(X.st p).σ.length<=(X.st q).σ.length:=by
 obtain⟨l,g⟩:=X.rF a b d e f;rw[g];simp
theorem oA{i:Nat}(g:aJ X.ls i=true) (h:eU X.ls i=true):∃l,(X.st (i+1)).σ=(X.st i).σ++l:=by
 obtain⟨o,l,q,e,r⟩:=X.at_ (X.cQ g);obtain⟨j,s,m,_,_,f⟩:=X.free_spec e h;have d:=X.run i l e;unfold bS at d;simp only[j,want,m,Bool.false_eq_true,if_false]at d;split at d
 .rename_i v b
  rcases f _ _ _ _ _ _ _ b with⟨_,B,a⟩|⟨n,a⟩<;>simp at a
 .rename_i v p b
  simp only[Option.some.injEq]at d;rw[<-d];rcases f _ _ _ _ _ _ _ b with⟨_,B,a⟩|⟨n,a⟩
  .simp at a;subst a;exact⟨_,rfl⟩
  .simp at a;subst a;exact⟨_,rfl⟩
 .simp at d
theorem o9{p:Nat}:∀(n:Nat),p+n<=X.ls.length->(∀j,p<=j->j<p+n->aJ X.ls j=true->eU X.ls j=true)->∃l,(X.st (p+n)).σ=(X.st p).σ++l
 |0,_,_=>⟨[],by simp⟩
 |n+1,h,d=>by
  obtain⟨l,e⟩:=o9 n (by omega) λj g i=>d j g (by omega)
  cases b:aJ X.ls (p+n)with
  |true=>
   obtain⟨f, a⟩:=X.oA b (d _ (by omega) (by omega) b)
   exact⟨l++f, by rw[show p+(n+1)=p+n+1 by omega,a, e,List.append_assoc]⟩
  |false=>
   obtain⟨o,f, m,a, q⟩:=X.at_ (show p+n<X.ls.length by omega)
   exact⟨l,by rw[show p+(n+1)=p+n+1 by omega,(X.still a b).1,e]⟩
theorem nf{lo hi:Nat}(a:∀k,jw X.ls X.draw X.bf k=true↔lo<=k/\k<=hi){b:Nat}:∀(n:Nat),lo+n<=hi+1->lo+n<=X.ls.length->b<(X.st (lo+n)).σ.length->b<(X.st lo).σ.length\/∃i,lo<=i/\i<lo+n/\aJ X.ls i=true/\(X.st i).σ.length<=b/\b<(X.st (i+1)).σ.length
 |0,_,_,h=>.inl h
 |n+1,l,m,h=>by
  by_cases f:b<(X.st (lo+n)).σ.length
  .rcases nf a n (by omega) (by omega) f with h|⟨i,g,p,j⟩
   .exact .inl h
   .exact .inr ⟨i,g,by omega,j⟩
  .cases e:aJ X.ls (lo+n)with
   |true=>exact .inr ⟨lo+n,by omega,by omega,e,by omega,h⟩
   |false=>
    obtain⟨o,q, r,d, s⟩:=X.at_ (show lo+n<X.ls.length by omega)
    rw[show lo+(n+1)=lo+n+1 by omega,(X.still d e).1]at h
    omega
theorem iQ(h:eI X.ls p q=true):∀j,p<=j->j<q->aJ X.ls j=true->eU X.ls j=true:=λj d a b=>by
 simp only[eI,List.all_eq_true,List.mem_range,Bool.or_eq_true,Bool.not_eq_true', decide_eq_false_iff_not]at h;rcases h j a with(h|h)|h
 .omega
 .rw[b]at h;simp at h
 .exact h
theorem oB(h:rA X.ls p q=true):∀j,p<=j->j<q->aJ X.ls j=false:=λj a b=>by
 simp only[rA,List.all_eq_true,List.mem_range,Bool.or_eq_true,Bool.not_eq_true', decide_eq_false_iff_not]at h;rcases h j b with h|h
 .exact absurd a h
 .exact h
end RC
section
variable{X:RC P}{C0:Ctx}{w0:World}{ds:List Deferred}{D:Nat->Prop}{C:Ctx}{f:Nat}{a:Act}{w:World}{i:Nat}
def eV.front (h:eV X D C f) (hD:¬D i) (hb:∀j,iJ X.draw X.bf j i=true->D j) (he:aJ X.ls i=true) (nW:jw X.ls X.draw X.bf i=false):f<=i/\∀j,f<=j->j<i->aJ X.ls j=false:=by
 refine⟨Nat.le_of_not_lt λbP=>hD (h.lo i bP he),λj h1 h2=>?_⟩;cases hj:aJ X.ls j with
 |false=>rfl
 |true=>
  rcases X.jx he hj h2 with Y|Y
  .exact absurd (hb j Y) (h.hi j h1 hj)
  .rw[nW]at Y;simp at Y
def eV.xu (h:eV X D C f) (hf:f<=i) (hn:∀j,f<=j->j<i->aJ X.ls j=false) :
  (∀e,e<i+1->aJ X.ls e=true->D e\/e=i)/\∀e,i+1<=e->aJ X.ls e=true->¬(D e\/e=i):=by
 refine⟨λe h1 Y=>?_,λe h1 Y h3=>?_⟩
 .rcases Nat.lt_or_ge e i with bP|KI
  .rcases Nat.lt_or_ge e f with hl|hg
   .exact .inl (h.lo e hl Y)
   .rw[hn e hg bP]at Y;simp at Y
  .exact .inr (by omega)
 .rcases h3 with h3|h3
  .exact h.hi e (by omega) Y h3
  .omega
variable{l:List aj}{ids:Nat->Nat}{I:Nat->Prop}{b u:Nat}
def xw{σ:List aj}(a:b<σ.length):(ad (σ++l) ids I).own b u=(ad σ ids I).own b u/\((ad (σ++l) ids I).lim b u↔(ad σ ids I).lim b u):=by
 have e:ay (σ++l) b=ay σ b:=by rw[bV,bV,List.getElem?_append_left a]
 simp only[ad,e,and_self]
def MW{σ:List aj}(h:(ad σ ids I).lim b u):b<σ.length:=by
 obtain⟨B,a,_⟩:=h;rw[bV]at a;exact(List.getElem?_eq_some_iff.1 a).1
def eV.group (h:eV X D C f) (hD:¬D i) (hb:∀j,iJ X.draw X.bf j i=true->D j) (he:aJ X.ls i=true) (hg:jw X.ls X.draw X.bf i=true):∃lo hi,ku X D C lo hi:=by
 obtain⟨lo,hi,g1,g2,g3⟩:=X.kv hg;have Ce:=(g1 i).1 hg;have hfi:f<=i:=Nat.le_of_not_lt λY=>hD (h.lo i Y he);have MX:=X.cQ g2;have Dz:∀e,e<lo->aJ X.ls e=true->D e:=λe h1 h2=>by
  rcases X.jx he h2 (by omega)with hq|hq
  .exact hb e hq
  .have:=(g1 e).1 hq.1;omega
 have MY:∀e,hi<e->aJ X.ls e=true->¬D e:=λe h1 h2=>h.hi e (by omega) h2
 -- the blocks now
 obtain⟨q,q1,q2,q3,q4⟩:∃q,lo<=q/\q<=hi+1/\(X.st f).σ=(X.st q).σ/\∀e,aJ X.ls e=true->lo<=e->(D e↔e<q):=by
  rcases Nat.lt_or_ge f lo with Y|KI
  .refine⟨lo,Nat.le_refl _,by omega,((X.ks (p:=f) (q:=lo) (by omega) (by omega) λk k1 k2=>?_).1).symm,λe h1 h2=>⟨λhd=>absurd hd (h.hi e (by omega) h1),λh3=>by omega⟩⟩
   cases hk:aJ X.ls k with
   |false=>rfl
   |true=>exact absurd (Dz k k2 hk) (h.hi k k1 hk)
  .exact⟨f,KI,by omega,rfl,λe h1 h2=>⟨λhd=>Nat.lt_of_not_le λh3=>h.hi e h3 h1 hd,λh3=>h.lo e h3 h1⟩⟩
 have fP:∀b,alive X D lo b↔b<(X.st f).σ.length:=λb=>by
  rw[q3];constructor
  .rintro(h1|⟨k,k1,k2,k3,k4,k5⟩)
   .have:=X.iP g1 (Nat.le_refl lo) q1 q2 (by omega);omega
   .have a1:=(g1 k).1 k2
    have a2:=(q4 k k1 a1.1).1 k3;have:=X.iP g1 (p:=k+1) (q:=q) (by omega) (by omega) q2 (by omega)
    omega
  .intro h1
   have tp : b<(X.st (lo+(q-lo))).σ.length:=by rwa [show lo+(q-lo)=q by omega]
   rcases X.nf g1 (q-lo) (by omega) (by omega) tp with h2|⟨k,k1,k2,k3,k4,k5⟩
   .exact .inl h2
   .exact .inr ⟨k,k3,(g1 k).2 ⟨k1,by omega⟩,(q4 k k3 k1).2 (by omega),k4,k5⟩
 obtain⟨l,hl⟩:=X.rF g1 q1 q2 (Nat.le_refl _) (by omega)
 rw[<-q3]at hl;obtain⟨ids,s1,s2⟩:=h.dM;refine⟨lo,hi,g1,g2,g3,Dz,MY,ids,λb u e ha ho=>?_,λb u eB=>?_⟩
 .rw[hl,(xw ((fP b).1 ha)).1]at ho
  exact s1 b u e ho
 .have:=s2 b u eB
  have Y:=MW this;exact⟨(fP b).2 Y,by rw[hl];exact(xw Y).2.2 this⟩
def ku.done{lo hi:Nat}(h:ku X D C lo hi) (pz:∀k,aJ X.ls k=true->jw X.ls X.draw X.bf k=true->D k):eV X D C (hi+1):=by
 have MX:=X.cQ h.Cc;have hle:=h.le;have fP:∀b,b<(X.st (hi+1)).σ.length->alive X D lo b:=λb hb=>by
  have tp : b<(X.st (lo+(hi+1-lo))).σ.length:=by rwa [show lo+(hi+1-lo)=hi+1 by omega]
  rcases X.nf h.kv (hi+1-lo) (by omega) (by omega) tp with h2|⟨k,k1,k2,k3,k4,k5⟩
  .exact .inl h2
  .have hg:=(h.kv k).2 ⟨k1,by omega⟩
   exact .inr ⟨k,k3,hg,pz k k3 hg,k4,k5⟩
 obtain⟨ids,s1,s2⟩:=h.dM;have qG:fI C (X.st (hi+1)).σ:=by
  refine⟨ids,λb u e ho=>?_,λb u hl=>(s2 b u hl).2⟩;have Y:b<(X.st (hi+1)).σ.length:=by
   cases hq:ay (X.st (hi+1)).σ b with
   |none=>simp[ad,hq]at ho
   |some B=>rw[bV]at hq;exact(List.getElem?_eq_some_iff.1 hq).1
  exact s1 b u e (fP b Y) ho
 refine⟨by omega,λe h1 h2=>?_,λe h1 h2=>h.behind e (by omega) h2,qG,λ_=>⟨by rw[Nat.add_sub_cancel];exact h.Cc,λ_=>?_⟩⟩
 .by_cases Y:e<lo
  .exact h.before e Y h2
  .exact pz e h2 ((h.kv e).2 ⟨by omega,by omega⟩)
 .rw[Nat.add_sub_cancel]
  intro b u B B9 hu;obtain⟨l,hl⟩:=X.rF h.kv (p:=hi) (q:=hi+1) hle (by omega) (Nat.le_refl _) (by omega)
  obtain⟨k1,k2,k3⟩:=pS hu;have Y:b<(X.st hi).σ.length:=by rw[bV]at k1;exact(List.getElem?_eq_some_iff.1 k1).1
  refine qG.seen b u B B9 ?_;rw[hl];unfold dm;rw[show ay ((X.st hi).σ++l) b=ay (X.st hi).σ b by rw[bV,bV,List.getElem?_append_left Y]]
  exact hu
def iN.norm (h:iN X D C f) (hD:¬D i) (hb:∀j,iJ X.draw X.bf j i=true->D j) (he:aJ X.ls i=true) (Y:jw X.ls X.draw X.bf i=false):∃f,eV X D C f:=by
 rcases h with hN|⟨lo,hi,hG,_⟩
 .exact⟨_,hN⟩
 .have hle:=hG.le
  have ja : hi<i:=by
   have h1:¬(lo<=i/\i<=hi):=λh=>by rw[(hG.kv i).2 h]at Y;simp at Y
   have h2:¬i<lo:=λh=>hD (hG.before i h he);omega
  refine⟨_,hG.done λk hk hg=>?_⟩;have:=(hG.kv k).1 hg;rcases X.jx he hk (by omega)with hq|hq
  .exact hb k hq
  .rw[Y]at hq;simp at hq
def iN.kv (h:iN X D C f) (hD:¬D i) (Y:∀j,iJ X.draw X.bf j i=true->D j) (he:aJ X.ls i=true) (hg:jw X.ls X.draw X.bf i=true):∃lo hi,ku X D C lo hi:=by
 rcases h with hN|⟨lo,hi,hG,_⟩
 .exact hN.group hD Y he hg
 .exact⟨lo,hi,hG⟩
def DA{C:Ctx}{σ:List aj}(h:Seen C (σ++l)):Seen C σ:=λb u B a e=>by
 refine h b u B a ?_;have f:=(pS e).1;have d:b<σ.length:=by rw[bV]at f;exact(List.getElem?_eq_some_iff.1 f).1
 unfold dm at e ⊢
 rwa [show ay (σ++l) b=ay σ b by rw[bV,bV,List.getElem?_append_left d]]
def Inv.MZ (h:Inv X C0 w0 ds D C f a w) (hi:i<X.ls.length) (hD:¬D i) (hb:∀j,iJ X.draw X.bf j i=true->D j){o:Oper}{l:Ln}(hl:X.ls[i]? = some l) (hF:na X i o l)
  (hE:l.op.il=false) (hW:l.op.gG=false) (hP:l.op.gW=false):Seen C (if l.prev then(X.st i).aF else(X.st i).σ):=by
 have hr:=hF.read;simp only[oy,hE,hW,hP,Bool.or_self,Bool.false_eq_true,if_false,Bool.and_eq_true,List.all_eq_true,List.mem_range]at hr;obtain⟨KJ,KK⟩:=hr;generalize hv:iM X.ls i l=v at KJ KK;have hvi:v<=i:=by
  by_cases hp:l.prev=true
  .simp only[hp,if_true,Bool.and_eq_true,decide_eq_true_eq]at KJ
   omega
  .have:v=i:=by rw[<-hv];simp[iM,hp]
   omega
 have M0:(if l.prev then(X.st i).aF else(X.st i).σ)=(X.st v).σ:=by
  by_cases hp:l.prev=true
  .simp only[hp,if_true,Bool.and_eq_true,decide_eq_true_eq]at KJ ⊢
   obtain⟨⟨q1,q2⟩,q3⟩:=KJ;have h1:=(X.ks (p:=v+1) (q:=i) (by omega) (Nat.le_of_lt hi) (X.oB q3)).2
   rw[h1];obtain⟨ov,lv,_,rD,hFv⟩:=X.at_ (show v<X.ls.length by omega)
   have Y:=X.run v lv rD;simp only[xo,rD,Bool.and_eq_true,Option.isNone_iff_eq_none]at q2;have hef:=hFv.MJ;simp only[mZ,q2.1,Bool.true_or,if_true,Bool.and_eq_true,Bool.not_eq_true']at hef;unfold bS at Y;simp only[q2.2,want]at Y;have hW:lv.op.gG=false:=by revert q2;cases lv.op<;>simp[bZ.il,bZ.gG]
   rw[if_neg (by rw[hW];simp)]at Y
   split at Y
   .simp only[q2.1,if_true,Option.some.injEq]at Y;rw[<-Y]
   .simp only[Option.some.injEq]at Y;rw[<-Y]
   .simp at Y
  .have:v=i:=by rw[<-hv];simp[iM,hp]
   simp[hp,this]
 rw[M0];have jQ:∀j,aJ X.ls j=true->j<X.ls.length:=λj hj=>by
  unfold aJ at hj;cases hl:X.ls[j]? with
  |none=>simp[hl]at hj
  |some l=>exact(List.getElem?_eq_some_iff.1 hl).1
 have key:∀j,aJ X.ls j=true->if j<v then(iJ X.draw X.bf j i=true\/(eI X.ls j v=true/\ry X.ls X.draw X.bf=true))else iJ X.draw X.bf i j=true\/(xo X.ls j=true/\eI X.ls v j=true):=λj hj=>by
  have:=KK j (jQ j hj);simp only[hj,Bool.not_true,Bool.false_or]at this
  by_cases bP:j<v
  .simpa[bP]using this
  .simp only[bP,if_false,Bool.or_eq_true,Bool.and_eq_true]at this ⊢
   exact this.imp (λq=>q) λq=>⟨q.1.2,q.2⟩
 rcases h.fr with hN|⟨lo,hi,hS,k0,y1,y2,y3⟩
 .rcases Nat.lt_or_ge v f with hvf|hvf
  .obtain⟨e1,e2⟩:=hN.last (by omega)
   have hd:=hN.lo (f-1) (by omega) e1
   have:=key (f-1) e1;rw[if_neg (by omega)]at this
   rcases this with k|⟨k1,k2⟩
   .exact absurd (h.closed _ _ hd k) hD
   .obtain⟨l', gF⟩:=X.o9 (p:=v) (f-1-v) (by have:=hN.ML;omega) λj j1 j2=>X.iQ k2 j j1 (by omega)
    rw[show v+(f-1-v)=f-1 by omega]at gF
    have:=e2 k1;rw[gF]at this;exact DA this
  .have wX:∀j,f<=j->j<v->aJ X.ls j=true->eU X.ls j=true:=λj j1 j2 hj=>by
    have:=key j hj;rw[if_pos j2]at this;rcases this with this|this
    .exact absurd (hb j this) (hN.hi j j1 hj)
    .have:=this.1
     simp only[eI,List.all_eq_true,List.mem_range,Bool.or_eq_true,Bool.not_eq_true', decide_eq_false_iff_not]at this;rcases this j j2 with(q|q)|q
     .exact absurd (Nat.le_refl j) q
     .rw[hj]at q;simp at q
     .exact q
   obtain⟨l', gF⟩:=X.o9 (p:=f) (v-f) (by omega) λj j1 j2=>wX j j1 (by omega)
   rw[show f+(v-f)=v by omega]at gF
   intro b u B B9 hu;obtain⟨ids,s1,s2⟩:=hN.dM;have bP:b<(X.st f).σ.length:=by
    obtain⟨B1,q1,_⟩:=s2 b u B9;rw[bV]at q1;exact(List.getElem?_eq_some_iff.1 q1).1
   refine hN.dM.seen b u B B9 ?_;rw[gF]at hu;unfold dm at hu ⊢
   rwa [show ay ((X.st f).σ++l') b=ay (X.st f).σ b by rw[bV,bV,List.getElem?_append_left bP]]at hu
 .-- all KL before v are done;of abb behind it at most the first one
  have hle:=hS.le;have MX:=X.cQ hS.Cc;have k1:∀e,aJ X.ls e=true->e<v->D e:=λe he bP=>by
   have:=key e he;rw[if_pos bP]at this;rcases this with this|this
   .exact hb e this
   .have h2:=this.2
    simp only[ry,List.all_eq_true,List.mem_range,Bool.not_eq_true']at h2;have:=h2 k0 (X.cQ y1);rw[y2]at this;simp at this
  have k2:∀e,aJ X.ls e=true->D e->v<=e->eI X.ls v e=true:=λe he hd hle=>by
   have:=key e he;rw[if_neg (by omega)]at this
   rcases this with hq|hq
   .exact absurd (h.closed _ _ hd hq) hD
   .exact hq.2
  by_cases xx:hi<v
  .have hN:=hS.done λk hk hg=>k1 k hk (by have:=(hS.kv k).1 hg;omega)
   rw[(X.ks (p:=hi+1) (q:=v) (by omega) (by omega) λj j1 j2=>by
    cases hj:aJ X.ls j with
    |false=>rfl
    |true=>exact absurd (k1 j hj j2) (hS.behind j (by omega) hj)).1]
   exact hN.dM.seen
  .obtain⟨q,q1,q2,⟨l', q3⟩,q4⟩:∃q,lo<=q/\q<=hi/\(∃l', (X.st q).σ=(X.st v).σ++l')/\∀e,aJ X.ls e=true->e<q->D e:=by
    by_cases rD:lo<=v
    .exact⟨v,rD,by omega,⟨[],by simp⟩,k1⟩
    .have hk0:=(hS.kv k0).1 y2
     have fm:=X.iQ (k2 k0 y1 y3 (by omega))
     obtain⟨l', gF⟩:=X.o9 (p:=v) (lo-v) (by omega) λj j1 j2=>fm j j1 (by omega)
     rw[show v+(lo-v)=lo by omega]at gF
     exact⟨lo,Nat.le_refl _,hle,⟨l', gF⟩,λe he bP=>hS.before e bP he⟩
   refine DA (l:=l') ?_;rw[<-q3];intro b u B _ hu;obtain⟨u1,u2,u3⟩:=pS hu;have bP:b<(X.st q).σ.length:=by rw[bV]at u1;exact(List.getElem?_eq_some_iff.1 u1).1
   have fP:alive X D lo b:=by
    have tp : b<(X.st (lo+(q-lo))).σ.length:=by rwa [show lo+(q-lo)=q by omega]
    rcases X.nf hS.kv (q-lo) (by omega) (by omega) tp with h2|⟨k,a1,a2,a3,a4,a5⟩
    .exact .inl h2
    .exact .inr ⟨k,a3,(hS.kv k).2 ⟨a1,by omega⟩,q4 k a3 (by omega),a4,a5⟩
   obtain⟨l,hl⟩:=X.rF hS.kv (p:=q) (q:=hi+1) q1 (by omega) (Nat.le_refl _) (by omega)
   obtain⟨ids,s1,s2⟩:=hS.dM;refine⟨ids b,s1 b u _ fP ?_⟩;rw[hl,(xw bP).1];exact oh ids C.I hu
end
end Ab
namespace Ab
open Go
variable{P:Program}
def cmt (σ:List aj):Option bI->List aj
 |some q=>du σ q
 |none=>σ
def M1{ls:List Ln}{t m:Nat}(h:cC ls t=some m):iK ls t=none:=by
 unfold cC at h;unfold iK;cases a:ls[t]? with
 |none=>rfl
 |some l=>
  simp only[a]at h ⊢;split at h
  .rename_i bO;rw[bO]
  .simp at h
def DB (σ l:List aj) (b:Nat):ay (σ++l) b=if b<σ.length then ay σ b else ay l (b-σ.length):=by
 rw[bV,bV,bV]
 by_cases a:b<σ.length
 .rw[if_pos a,List.getElem?_append_left a]
 .rw[if_neg a,List.getElem?_append_right (by omega)]
open Classical in
noncomputable def pa (σ:List aj) (A:Nat->Prop) (ids:Nat->Nat) (I:Nat->Prop):Ctx where
 I:=I
 own:=λb u=>if A b then(ad σ ids I).own b u else none
 lim:=λb u=>A b/\(ad σ ids I).lim b u
section
variable{rd:Option Nat}{X:RC P}{C0:Ctx}{w0:World}{ds:List Deferred}{D:Nat->Prop}{C:Ctx}{f:Nat}{a:Act}{w:World}{i:Nat}
def Inv.next (h:Inv X C0 w0 ds D C f a w) (hi:i<X.ls.length) (hD:¬D i) (hb:∀j,iJ X.draw X.bf j i=true->D j) (Q:Exit->Act->World->Prop) :
  wpOpIn (fw rd) 0 P X.ops.toArray Q i (λa' w' =>∃C' f', Inv X C0 w0 ds (λj=>D j\/j=i) C' f' a' w') a w:=by
 obtain⟨o,l,ho,hl,hF⟩:=X.at_ hi;have cY:=X.run i l hl;have hR:∀x y,lH X.draw X.bf X.ops X.ls X.sl i x y=true->VR C w.heap (rv X.vars (X.st i).env y) (a.eval x):=λx y hr=>h.ref hi hD hb hr;unfold wpOpIn;simp only[List.getElem?_toArray,ho];unfold bS at cY;cases hw:want X.vars (X.st i).env l.g with
 |none=>simp[hw]at cY
 |some b=>
  have hwa:=h.wanted hi hb hF hw;rw[hwa];simp only[hw]at cY;cases b with
  |false=>
   simp only[Bool.false_eq_true,if_false];refine⟨λ_ _=>trivial,?_⟩;simp only[Option.some.injEq]at cY;have gx:valOf X.st i = .bz []:=by rw[valOf,<-cY]
   have KM:l.g ≠ none:=λe=>by rw[e]at hw;simp[want]at hw
   have tW:iK X.ls i=none:=by
    cases ht:iK X.ls i with
    |none=>rfl
    |some t=>
     obtain⟨_,_,l', _,_,_,_,gF, _,_,Dt, _⟩:=X.dd ht;rw[hl]at gF; simp at gF; subst gF;exact absurd Dt KM
   have mf:cC X.ls i=none:=by
    unfold cC;simp only[hl];split
    .rename_i m bO
     have:=hF.gv;simp only[kp,bO,Bool.and_eq_true,Option.isNone_iff_eq_none]at this;exact absurd this.1 KM
    .rfl
   have DC:VR C w.heap (valOf X.st i) undef:=by rw[gx];unfold VR;exact⟨[],rfl,rfl⟩
   cases he:aJ X.ls i with
   |false=>
    exact⟨C,f,h.after hi hD hb ho h.good (Step.refl _ _) tW DC (λm hm=>by rw[mf]at hm;simp at hm) (h.fr.nc he C.I)⟩
   |true=>
    have nW:jw X.ls X.draw X.bf i=false:=by
     cases hg:jw X.ls X.draw X.bf i with
     |false=>rfl
     |true=>exact absurd (X.free_spec hl (X.iO he hg)).1 KM
    obtain⟨f', hN⟩:=h.fr.norm hD hb he nW;obtain⟨q1,q2⟩:=hN.front hD hb he nW;obtain⟨e1,e2⟩:=hN.xu q1 q2;have hs:(X.st (i+1)).σ=(X.st f').σ:=by rw[<-cY];exact(X.ks q1 (Nat.le_of_lt hi) q2).1
    refine⟨C,i+1,h.after hi hD hb ho h.good (Step.refl _ _) tW DC (λm hm=>by rw[mf]at hm;simp at hm) (.inl ⟨by omega,e1,e2,by rw[hs];exact hN.dM,λ_=>⟨he,λDD=>?_⟩⟩)⟩
    simp only[Nat.add_sub_cancel,xo,hl,Bool.and_eq_true,Option.isNone_iff_eq_none]at DD;exact absurd DD.2 KM
  |true=>
   dsimp only at cY;simp only[if_true]
   by_cases qJ:l.op.gG=true
   .rw[if_pos qJ]at cY
    have he:aJ X.ls i=true:=by simp[aJ,hl,qJ]
    have nW:jw X.ls X.draw X.bf i=false:=by
     cases hg:jw X.ls X.draw X.bf i with
     |false=>rfl
     |true=>rw[(X.free_spec hl (X.iO he hg)).2.2.1]at qJ;simp at qJ
    obtain⟨f', hN⟩:=h.fr.norm hD hb he nW;obtain⟨q1,q2⟩:=hN.front hD hb he nW;have xy:=(X.ks q1 (Nat.le_of_lt hi) q2).1;obtain⟨ids,g1,g2⟩:=hN.dM.take h.good;rw[<-xy]at g1 g2;split at cY
    .rename_i v σ' eu
     simp only[Option.some.injEq]at cY;have tW:iK X.ls i=none:=by
      cases ht:iK X.ls i with
      |none=>rfl
      |some t=>
       obtain⟨_,_,l', _,_,_,_,gF, _,bO,_⟩:=X.dd ht;rw[hl]at gF; simp at gF; subst gF;rw[bO]at qJ;simp[bZ.gG]at qJ
     have mf:cC X.ls i=none:=by
      unfold cC;simp only[hl];split
      .rename_i m bO;rw[bO]at qJ;simp[bZ.gG]at qJ
      .rfl
     refine opW hF.op qJ X.fG X.iD g1 (λx y hr=>VR.mono g2.ev _ _ (hR x y hr)) eu _ _ Q λv' w' hp=>?_;obtain⟨aV, I', k1,k2,k3⟩:=hp;obtain⟨e1,e2⟩:=hN.xu q1 q2;have hs:(X.st (i+1)).σ=σ' :=by rw[<-cY]
     have gx:valOf X.st i=v:=by rw[valOf,<-cY]
     refine⟨_,i+1,h.after hi hD hb ho k1 (g2.trans k2) tW (by rw[gx];exact k3) (λm hm=>by rw[mf]at hm;simp at hm) (.inl ⟨by omega,e1,e2,by rw[hs];exact Dn _ _ _,λ_=>⟨he,λDD=>?_⟩⟩)⟩
     simp only[Nat.add_sub_cancel,xo,hl,Bool.and_eq_true]at DD;exfalso
     revert qJ DD;cases l.op<;>simp[bZ.il,bZ.gG]
    .simp at cY
   .rw[if_neg qJ]at cY
    have DE:l.op.gG=false:=by simpa using qJ
    cases eu:ev X.ce (if l.prev then(X.st i).aF else(X.st i).σ) (X.st i).σ.length [] (rv X.vars (X.st i).env) l.op with
    |none=>simp[eu]at cY
    |some vp=>
     obtain⟨v,p⟩:=vp;simp only[eu]at cY;have gx:valOf X.st i=v:=by cases p<;>simp only[Option.some.injEq]at cY<;>rw[valOf,<-cY]<;>rfl
     have eA:(X.st (i+1)).σ=cmt (X.st i).σ p:=by cases p<;>simp only[Option.some.injEq]at cY<;>rw[<-cY]<;>rfl
     cases hE:l.op.il with
     |true=>
      have he:aJ X.ls i=true:=by simp[aJ,hl,hE]
      have vO:l.prev=false:=by
       have:=hF.MJ;simp only[mZ,hE,Bool.true_or,if_true,Bool.and_eq_true,Bool.not_eq_true']at this;exact this.1
      rw[vO]at eu;simp only[Bool.false_eq_true,if_false]at eu;have tW:iK X.ls i=none:=by
       cases ht:iK X.ls i with
       |none=>rfl
       |some t=>
        obtain⟨_,_,l', _,_,_,_,gF, _,bO,_⟩:=X.dd ht;rw[hl]at gF; simp at gF; subst gF;rw[bO]at hE;simp[bZ.il]at hE
      have mf:cC X.ls i=none:=by
       unfold cC;simp only[hl];split
       .rename_i m bO;rw[bO]at hE;simp[bZ.il]at hE
       .rfl
      have Cf:l.op.jJ=false:=by revert hE;cases l.op<;>simp[bZ.il,bZ.jJ]
      cases nW:jw X.ls X.draw X.bf i with
      |false=>
       obtain⟨f', hN⟩:=h.fr.norm hD hb he nW;obtain⟨q1,q2⟩:=hN.front hD hb he nW;obtain⟨ids,g1,g2⟩:=hN.dM.take h.good;have xy:=(X.ks q1 (Nat.le_of_lt hi) q2).1;rw[<-xy]at g1 g2;refine opE hF.op DE Cf X.fG X.iD g1 (λb u B _ hu=>⟨_,oh ids C.I hu⟩) (λ_ _=>q8) (λl' _ b u Ch _ eB=>?_) (λb u B cs hu _ _=>⟨λn hn eB=>?_,λu' B' id' dU=>?_⟩) (λx y hr=>VR.mono g2.ev _ _ (hR x y hr)) rfl eu _ _ Q λv' w' hp=>?_
       .obtain⟨B,hB,_⟩:=eB
        rw[bV,List.getElem?_eq_none (by omega)]at hB;simp at hB
       .obtain⟨B', hB,hle⟩:=eB
        obtain⟨k1,k2,_⟩:=oe hu;rw[k1]at hB;simp at hB;subst hB;omega
       .obtain⟨k1,k2,_⟩:=oe hu
        rw[<-k2];exact lT (u:=0) k1 u' B' id' dU
       .obtain⟨C', k1,k2,k3,k4⟩:=hp
        obtain⟨s1,s2⟩:=Ext.dM k1 k4;obtain⟨e1,e2⟩:=hN.xu q1 q2;exact⟨C', i+1,h.after hi hD hb ho k1 (g2.trans k2) tW (by rw[gx];exact k3) (λm hm=>by rw[mf]at hm;simp at hm) (.inl ⟨by omega,e1,e2,by rw[eA];cases p<;>exact s1,λ_=>⟨he,λ_=>s2⟩⟩)⟩
      |true=>
       obtain⟨lo,hh,hG⟩:=h.fr.kv hD hb he nW;obtain⟨fr1,fr2,fr3,fr4,fr5,fr6⟩:=X.free_spec hl (X.iO he nW);have jQ:=(hG.kv i).1 nW;have MX:=X.cQ hG.Cc;have hle:=hG.le;obtain⟨ids,m1,m2⟩:=hG.dM;obtain⟨bs,hbs,xz⟩:∃bs,(X.st (i+1)).σ=(X.st i).σ++bs/\(((∀f as,l.op ≠ .can f as)/\∃B,p=some (.new B)/\bs=[B])\/p=some (.news bs)):=by
        rcases fr6 _ _ _ _ _ _ _ eu with⟨hc,B,rfl⟩|⟨bs,rfl⟩
        .exact⟨[B],by rw[eA];rfl,.inl ⟨hc,B,rfl,rfl⟩⟩
        .exact⟨bs,by rw[eA];rfl,.inr rfl⟩
       have hlen:(X.st (i+1)).σ.length=(X.st i).σ.length+bs.length:=by rw[hbs];simp
       have DF:∀b,(X.st i).σ.length<=b->b<(X.st (i+1)).σ.length->¬alive X D lo b:=by
        rintro b b1 b2 (h1|⟨k,k1,k2,k3,k4,k5⟩)
        .have:=X.iP hG.kv (p:=lo) (q:=i) (Nat.le_refl _) jQ.1 (by omega) (by omega);omega
        .have hk:=(hG.kv k).1 k2
         rcases Nat.lt_trichotomy k i with bP|rfl|hgt
         .have:=X.iP hG.kv (p:=k+1) (q:=i) (by omega) (by omega) (by omega) (by omega);omega
         .exact hD k3
         .have:=X.iP hG.kv (p:=i+1) (q:=k) (by omega) (by omega) (by omega) (by omega);omega
       have M3:=Good.shrink (C2:=pa (X.st (hh+1)).σ (alive X D lo) ids C.I) h.good rfl (λb u e fq =>by
        unfold pa at fq;dsimp only at fq;split at fq
        .rename_i ha;exact m1 b u e ha fq
        .simp at fq) m2
       have pY : ∀b,alive X (λj=>D j\/j=i) lo b↔alive X D lo b\/((X.st i).σ.length<=b/\b<(X.st (i+1)).σ.length):=λb=>by
        constructor
        .rintro(h1|⟨k,k1,k2,k3,k4⟩)
         .exact .inl (.inl h1)
         .rcases k3 with k3|rfl
          .exact .inl (.inr ⟨k,k1,k2,k3,k4⟩)
          .exact .inr k4
        .rintro((h1|⟨k,k1,k2,k3,k4⟩)|h1)
         .exact .inl h1
         .exact .inr ⟨k,k1,k2,.inl k3,k4⟩
         .exact .inr ⟨i,he,nW,.inr rfl,h1⟩
       obtain⟨l2,Ci⟩:=X.rF hG.kv (p:=i+1) (q:=hh+1) (by omega) (by omega) (Nat.le_refl _) (by omega)
       have hblk:∀b,(X.st i).σ.length<=b->b<(X.st (i+1)).σ.length->ay (X.st (hh+1)).σ b=ay bs (b-(X.st i).σ.length):=λb b1 b2=>by
        rw[Ci,DB,if_pos b2,hbs,DB,if_neg (by omega)]
       refine opE (σ:=[]) hF.op DE Cf X.fG X.iD M3.1 (λb u B _ hu=>by simp[dm,ay]at hu) (λ_ hc u eB=>?_) (λl' hq b u Ch hb2 eB=>?_) (λb u B cs hu _ _=>by simp[upto,ay]at hu) (λx y hr=>VR.mono M3.2.ev _ _ (hR x y hr)) rfl (by rw[fr5 X.ce [] (X.st i).σ];exact eu) _ _ Q λv' w' hp=>?_
       .rcases xz with⟨_,B,_,rfl⟩|hq
        .exact DF _ (Nat.le_refl _) (by rw[hlen];simp) eB.1
        .exfalso
         rcases fr6 _ _ _ _ _ _ _ eu with⟨_,B,hB⟩|⟨bs', hB⟩
         .rw[hq]at hB;simp at hB
         .have hf:=X.iO he nW
          simp only[eU,hl,Bool.and_eq_true]at hf;have KF:=hf.2;split at KF
          .rename_i bO;rw[bO]at eu;simp only[ev]at eu
           split at eu<;>try(simp at eu;done)
           split at eu<;>simp at eu;rw[<-eu.2]at hq;simp at hq
          .rename_i f as bO;exact hc f as bO
          .rename_i bO;rw[bO]at eu;simp only[ev]at eu
           split at eu<;>simp at eu;rw[<-eu.2]at hq;simp at hq
          .rename_i bO;rw[bO]at eu;simp[ev]at eu
           rw[<-eu.2]at hq;simp at hq
          .rename_i bO;rw[bO]at eu;simp only[ev]at eu
           split at eu<;>simp at eu;rw[<-eu.2]at hq;simp at hq
          .simp at KF
       .rcases xz with⟨_,B,M4, _⟩|M4
        .rw[M4]at hq;simp at hq
        .rw[M4]at hq;simp at hq;subst hq
         exact DF b Ch (by omega) eB.1
       .obtain⟨C', k1,k2,k3,k4⟩:=hp
        have qG:∃aV, (∀b u e,alive X (λj=>D j\/j=i) lo b->(ad (X.st (hh+1)).σ aV C'.I).own b u=some e->C'.own b u=some e)/\∀b u,C'.lim b u->alive X (λj=>D j\/j=i) lo b/\(ad (X.st (hh+1)).σ aV C'.I).lim b u:=by
         rcases xz with⟨_,B,rfl,rfl⟩|rfl
         .obtain⟨id,k5,k6⟩:=k4
          have pD:B.st ≠ .dead:=(k1.ij (X.st i).σ.length B.cells.length B id (by rw[k5];simp[al])).2.2.2
          have Ch:=hblk (X.st i).σ.length (Nat.le_refl _) (by rw[hlen];simp)
          rw[Nat.sub_self]at Ch;refine⟨λq=>if q=(X.st i).σ.length then id else ids q,λb u e ha fq =>?_,λb u eB=>?_⟩
          .rw[k5]
           by_cases e0:b=(X.st i).σ.length
           .subst e0
            simp only[ad,Ch,ay,if_true]at fq;have hu:B.cells.length=u/\(B,id)=e:=by
             cases hs:B.st<;>simp only[hs]at fq pD
             .split at fq <;>simp at fq; rename_i h;exact⟨h,fq⟩
             .split at fq <;>simp at fq; rename_i h;exact⟨h,fq⟩
             .exact absurd rfl pD
             .split at fq <;>simp at fq; rename_i h;exact⟨h,fq⟩
            obtain⟨rfl,rfl⟩:=hu;simp[al]
           .have C6 : alive X D lo b:=by
             rcases(pY b).1 ha with h|h
             .exact h
             .rw[hlen]at h;simp at h;omega
            simp only[al];rw[if_neg (by omega)]
            simp only[pa,C6, if_true];simp only[ad,e0,if_false]at fq;exact fq
          .rw[k6]at eB
           rcases eB with⟨rfl,rfl⟩|⟨h1,h2⟩
           .exact⟨(pY _).2 (.inr ⟨Nat.le_refl _,by rw[hlen];simp⟩),B,Ch,Nat.le_refl _⟩
           .exact⟨(pY _).2 (.inl h1),h2⟩
         .obtain⟨kX,k5,k6⟩:=k4
          refine⟨λq=>if(X.st i).σ.length<=q/\q<(X.st (i+1)).σ.length then kX (q-(X.st i).σ.length)else ids q,λb u e ha fq =>?_,λb u eB=>?_⟩
          .rw[k5]
           dsimp only
           by_cases e0:(X.st i).σ.length<=b/\b<(X.st (i+1)).σ.length
           .rw[if_pos (by omega)]
            simp only[ad,hblk b e0.1 e0.2,e0,and_self,if_true]at fq;exact fq
           .have C6 : alive X D lo b:=by
             rcases(pY b).1 ha with h|h
             .exact h
             .exact absurd h e0
            rw[if_neg (by omega)]
            simp only[pa,C6, if_true];simp only[ad,e0,if_false]at fq;exact fq
          .rw[k6]at eB
           rcases eB with⟨h1,B', h2,h3⟩|⟨h1,h2⟩
           .have bP:b-(X.st i).σ.length<bs.length:=by rw[bV]at h2;exact(List.getElem?_eq_some_iff.1 h2).1
            exact⟨(pY _).2 (.inr ⟨h1,by omega⟩),B', by rw[hblk b h1 (by omega)];exact h2,h3⟩
           .exact⟨(pY _).2 (.inl h1),h2⟩
        refine⟨C', f,h.after hi hD hb ho k1 (M3.2.trans k2) tW (by rw[gx];exact k3) (λm hm=>by rw[mf]at hm;simp at hm) (.inr ⟨lo,hh,⟨hG.kv,hG.Cc,hG.le,λe h1 h2=>.inl (hG.before e h1 h2),λe h1 h2 h3=>?_,qG⟩,i,he,nW,.inr rfl⟩)⟩
        rcases h3 with h3|rfl
        .exact hG.behind e h1 h2 h3
        .omega
     |false=>
      have he:aJ X.ls i=false:=by simp[aJ,hl,hE,DE]
      have hpn:=Dq hE eu;subst hpn;cases hP:l.op.gW with
      |false=>
       have tW:iK X.ls i=none:=by
        cases ht:iK X.ls i with
        |none=>rfl
        |some t=>
         obtain⟨_,_,l', _,_,_,_,gF, _,bO,_⟩:=X.dd ht;rw[hl]at gF; simp at gF; subst gF;rw[bO]at hP;simp[bZ.gW]at hP
       have mf:cC X.ls i=none:=by
        unfold cC;simp only[hl];split
        .rename_i m bO;rw[bO]at hP;simp[bZ.gW]at hP
        .rfl
       refine opR hF.op hP hE DE X.fG h.good (h.MZ hi hD hb hl hF hE DE hP) hR eu _ _ Q λv' w' hp=>?_;obtain⟨I', k1,k2,k3⟩:=hp;exact⟨_,f,h.after hi hD hb ho k1 k2 tW (by rw[gx];exact k3) (λm hm=>by rw[mf]at hm;simp at hm) (h.fr.nc he I')⟩
      |true=>
       cases ht:iK X.ls i with
       |some t=>
        obtain⟨_,o', l', d,x,m,fq, gF, _,bO,Dt, xt,hd,htd,fP,Du,Dv⟩:=X.dd ht;rw[hl]at gF; simp at gF; subst gF;rw[ho]at fq; simp at fq; subst fq;have MT:∀i', D i' ->iK X.ls i' ≠ some t:=λi' ja e=>hD (X.o8 ht e▸ja);obtain⟨s,id,c,el,k1,k2,k3,k4,k5,k6,k7⟩:=h.lb t m (hb _ Du) fP MT;rw[bO]at eu;simp only[ev]at eu;split at eu
        case isFalse=>simp at eu
        rename_i hc;simp only[Bool.and_eq_true,beq_iff_eq]at hc;simp at eu;have pV :=hF.op;rw[bO]at pV;obtain⟨y,q1,q2⟩:=opI pV (w:=w) (a:=a) (C:=C) (r:=rv X.vars (X.st i).env) (id:=id) (c:=c) (el:=el) (λq hq=>by
         unfold lH at hq;split at hq
         .rename_i s' d' heq
          simp only[Rf.t.injEq]at heq;subst heq;simp only[Bool.and_eq_true,beq_iff_eq]at hq;have iY :=hq.1.2;rw[<-htd]at iY;simp only[fy,M1 fP,k1,Option.some.injEq]at iY;subst iY;exact k2
         all_goals (rename_i heq;first|(simp at heq;done)|(simp at hq;done)|skip)) k6 k7 (λq hq=>hR q x hq) hc.1 hc.2
        refine q2 _ _ Q λv' w' hp=>?_;obtain⟨c', rfl,z1,z2⟩:=hp;rw[xt];exact⟨_,f,h.fill hi hD hb hl bO ht (by rw[gx,<-eu]) hc.1 q1 k1 k2 k3 k4 k5 k6 z1 z2⟩
       |none=>
        cases fP:cC X.ls i with
        |some m=>
         have bO:l.op = .eC m:=by
          unfold cC at fP;simp only[hl]at fP;split at fP
          .rename_i m' bO;simp at fP;rw[bO,fP]
          .simp at fP
         have pV :=hF.op;rw[bO]at pV eu;simp[ev]at eu;have Ds:=hF.gv;simp only[kp,bO,Bool.and_eq_true]at Ds;obtain⟨s,hs⟩:=Option.isSome_iff_exists.1 Ds.2;refine opA (w:=w) (a:=a) (C:=C) pV h.good _ _ Q λv' w' hp=>?_;obtain⟨p1,p2,id,c,el,p3⟩:=hp;exact⟨C,f,h.after hi hD hb ho p1 p2 ht (by rw[gx,<-eu];unfold VR;trivial) (λm' pE =>by
          rw[fP]at pE; simp at pE; subst pE;exact⟨⟨s,hs⟩,id,c,el,p3⟩) (h.fr.nc he C.I)⟩
        |none=>
         have Cf:l.op.jJ=false:=by
          cases bO:l.op with
          |eC m=>simp[cC,hl,bO]at fP
          |gv p x n=>
           have:=hF.gv;cases p with
           |t d=>simp[iK,hl,bO]at ht
           |v k=>simp[kp,bO]at this
           |c x=>simp[kp,bO]at this
          |_=>rfl
         obtain⟨q1,_⟩:=opP (w:=w) (a:=a) (C:=C) hF.op hP Cf X.fG X.iD h.good hR rfl eu;refine q1 _ _ Q λv' w' hp=>?_;obtain⟨I', k1,k2,k3⟩:=hp;exact⟨_,f,h.after hi hD hb ho k1 k2 ht (by rw[gx];exact k3) (λm hm=>by rw[fP]at hm;simp at hm) (h.fr.nc he I')⟩
end
end Ab
namespace Ab
open Go
variable{P:Program}
structure Rel (sl:List Nat) (nt:Nat) (ds:List Deferred) (s:St) (C:Ctx) (a:Act) (w:World):Prop where
 good:Good C w
 size:a.tmps.size=nt
 defers:a.defers=ds
 vars:∀k t,sl[k]? = some t->VR C w.heap (nth s.vars k) (a.tmps.getD t undef)
 fl:∀t v,s.fl=some (t,v)->VR C w.heap v (a.tmps.getD t undef)
def pb (ops:List Oper) (ls:List Ln) (sl:List Nat) (r:dt):Bool:=
 (r.outs.all λ(k,d)=>decide (d<ls.length)&&match sl[k]? with|some t=>fy ops ls (ls.length-1-d)==some t|none=>true) &&
 ((List.range sl.length).all λk=>r.ck.any (·== k)||r.outs.any (·.1==k)||(List.range ls.length).all λj=>match sl[k]?,bN ops j with|some t,some a =>t != a | _,_=>true) &&
 (match r.fl with|some (t,d)=>decide (d<ls.length)&&fy ops ls (ls.length-1-d)==some t|none=>true)
def jM (P:Program) (draw:Bool) (ops:List Oper) (sl:List Nat) (nt:Nat) (r:dt):Bool:=
 ops.length==r.ls.length&&((List.range r.ls.length).all (oz P draw (xn ops) ops r.ls sl nt))&&pb ops r.ls sl r&&(!draw||ops.all λo=>match o.op with | .select ..=>false|_=>true)
def pZ{l:List AV}{k n:Nat}{x:AV}:nth (bD l k x) n=if n=k/\k<l.length then x else nth l n:=by
 rw[jV,DG,jV,List.getElem?_set]
 by_cases e:k=n
 .subst e
  by_cases h:k<l.length
  .simp[h]
  .simp[h,List.getElem?_eq_none (Nat.le_of_not_lt h)]
 .rw[if_neg e,if_neg (λh=>e h.1.symm)]
def DH{Q:AV->Prop}(b:Q .au){k:Nat}:∀(a:List Nat) (vs:List AV),(k∉a->Q (nth vs k))->Q (nth (ck a vs) k)
 | [],vs,h=>h (by simp)
 |d :: a,vs,h=>by
  unfold ck;refine DH b a _ λf=>?_;rw[pZ]
  by_cases e:k=d /\d < vs.length
  .rw[if_pos e];exact b
  .rw[if_neg e]
   by_cases g : k=d
   .have:vs.length<=k:=by omega
    rw[jV,List.getElem?_eq_none this];exact b
   .exact h (by simp[g, f])
def DI{Q:AV->Prop}(f:Q .au){env:List AV}{k:Nat}:∀(os:List (Nat×Nat)) (vs:List AV),(∀d,(k,d)∈os->Q (nth env d))->((∀d,(k,d)∉os)->Q (nth vs k))->Q (nth (outs env os vs) k)
 | [],vs,_,h=>h (by simp)
 |(a, i)::os,vs,g,j=>by
  unfold outs;refine DI f os _ (λd b=>g d (by simp[b])) λl=>?_
  rw[pZ]
  by_cases e:k=a /\a < vs.length
  .rw[if_pos e];exact g i (by simp[e.1])
  .rw[if_neg e]
   by_cases m : k=a
   .have:vs.length<=k:=by omega
    rw[jV,List.getElem?_eq_none this];exact f
   .exact j λd b=>by
     rcases List.mem_cons.1 b with h|h
     .simp at h;exact m h.1
     .exact l d h
section
variable{X:RC P}{C0:Ctx}{w0:World}{ds:List Deferred}
def Inv.full{D:Nat->Prop}{C:Ctx}{f:Nat}{a:Act}{w:World}(h:Inv X C0 w0 ds D C f a w) (hD:∀j,j<X.ls.length->D j){r:dt}(hr:r.ls=X.ls) (Y:pb X.ops X.ls X.sl r=true){vs:List AV}
  (hvs:vs=X.vars) (fl:Option (Nat×AV)) (DJ:fl=match r.fl with|some (t,d)=>some (t,nth (X.st X.ls.length).env d)|none=>none) :
  ∃ids I,Rel X.sl X.nt ds {vars:=ck r.ck (outs (X.st X.ls.length).env r.outs vs),fl,σ:=(X.st X.ls.length).σ} (ad (X.st X.ls.length).σ ids I) a w/\Step C0 w0 (ad (X.st X.ls.length).σ ids I) w:=by
 subst hvs;obtain⟨f,hN⟩:∃f,eV X D C f:=by
  rcases h.fr with hN|⟨lo,hi,hG,_⟩
  .exact⟨_,hN⟩
  .exact⟨_,hG.done λk hk _=>hD k (X.cQ hk)⟩
 have M0:(X.st X.ls.length).σ=(X.st f).σ:=(X.ks (p:=f) hN.ML (Nat.le_refl _) λj h1 h2=>by
  cases hj:aJ X.ls j with
  |false=>rfl
  |true=>exact absurd (hD j h2) (hN.hi j h1 hj)).1
 obtain⟨ids,g1,g2⟩:=hN.dM.take h.good;rw[M0];refine⟨ids,C.I,⟨g1,h.size,h.defers,λk t hk=>?_,λt v hv=>?_⟩,h.step.trans g2⟩
 .simp only[pb,Bool.and_eq_true,List.all_eq_true,decide_eq_true_eq]at Y
  obtain⟨⟨e1,e2⟩,_⟩:=Y;refine DH (Q:=λx=>VR (ad (X.st f).σ ids C.I) w.heap x (a.tmps.getD t undef)) (by unfold VR;trivial) _ _ λhnk=>?_
  refine DI (Q:=λx=>VR (ad (X.st f).σ ids C.I) w.heap x (a.tmps.getD t undef)) (by unfold VR;trivial) _ _ (λd hd=>?_) λre=>?_
  .have:=e1 _ hd
   simp only[hk,beq_iff_eq]at this;rw[X.o7 (Nat.le_refl _) this.1];exact VR.mono g2.ev _ _ (h.tv _ t (hD _ (by omega)) this.2)
  .have qK:k<X.sl.length:=(List.getElem?_eq_some_iff.1 hk).1
   have:=e2 k (List.mem_range.2 qK);simp only[Bool.or_eq_true,List.any_eq_true,beq_iff_eq,List.all_eq_true,List.mem_range]at this;rcases this with(⟨x,hx,rfl⟩|⟨x,hx,rfl⟩)|hd
   .exact absurd hx hnk
   .exact absurd hx (re x.2)
   .refine VR.mono g2.ev _ _ (h.vv k t hk λj hj hdj=>?_)
    have:=hd j (h.below j hj);simp[hk,hdj]at this
 .simp only[pb,Bool.and_eq_true,List.all_eq_true,decide_eq_true_eq]at Y
  obtain⟨_,e3⟩:=Y;subst DJ;simp only at hv;cases M5:r.fl with
  |none=>simp[M5]at hv
  |some td=>
   obtain⟨t', d⟩:=td;simp only[M5,Option.some.injEq,Prod.mk.injEq]at hv;obtain⟨rfl,rfl⟩:=hv;simp only[M5,Bool.and_eq_true,decide_eq_true_eq,beq_iff_eq]at e3;rw[X.o7 (Nat.le_refl _) e3.1];exact VR.mono g2.ev _ _ (h.tv _ t' (hD _ (by omega)) e3.2)
def M6{i:Nat}{D:Nat->Prop}(a:X.draw=true){o:Oper}{l:Ln}(s:X.ops[i]? = some o) (q:na X i o l) (d:∀i j,D j->iJ X.draw X.bf i j=true->D i)
  (g:∀e∈o.after.toList,Region.binds .any e=true->D e.on):∀j,iJ X.draw X.bf j i=true->D j:=λj r=>by
 have m:=q.bf;simp only[tT,a,if_true,Bool.and_eq_true,beq_iff_eq]at m;have b :=r;simp only[iJ,a,if_true,m.1,Option.getD_some]at b;rcases Dr X.bf j o.after.toList 0 b with h|⟨e,n,p,f⟩
 .simp at h
 .rcases f with rfl|f
  .exact g e n p
  .exact d j e.on (g e n p) (by simp only[iJ,a,if_true];exact f)
def Inv.M7{ids:Nat->Nat}{I:Nat->Prop}{s:St}{a:Act}{w:World}(hv:X.vars=s.vars) (Y:X.σ0=s.σ) (h:Rel X.sl X.nt ds s (ad s.σ ids I) a w):Inv X (ad s.σ ids I) w ds (λ_=>False) (ad s.σ ids I) 0 a w:=by
 refine⟨h.good,Step.refl _ _,h.size,h.defers,λ_ h=>h.elim,λ_ _ h=>h.elim,λ_ _ h=>h.elim,λk t hk _=>by rw[hv];exact h.vars k t hk,λ_ _ h=>h.elim,λ_ _ _ _ _ _ _ h=>h.elim,.inl ⟨Nat.zero_le _,λ_ h=>absurd h (Nat.not_lt_zero _),λ_ _ _ h=>h,?_,λh=>absurd h (Nat.lt_irrefl _)⟩⟩
 rw[X.xp,Y];exact Dn _ _ _
def xA{rd:Option Nat}{Q:Exit->Act->World->Prop}(d:X.draw=false) (m:∀D C f a w,Inv X C0 w0 ds D C f a w->(∀j,j<X.ls.length->D j)->Q .normal a w) :
  ∀(k:Nat) (D:Nat->Prop) (C:Ctx) (f:Nat) (a:Act) (w:World),k<=X.ls.length->(∀j,D j↔j<X.ls.length-k)->Inv X C0 w0 ds D C f a w->wpOpsIn (fw rd) 0 P X.ops.toArray Q (List.range' (X.ls.length-k) k) a w
 |0,D,C,f,a,w,_,b,h=>by
  simp only[List.range'_zero,wpOpsIn];exact m D C f a w h λj g=>(b j).2 (by omega)
 |k+1,D,C,f,a,w,y,b,h=>by
  rw[List.range'_succ,wpOpsIn_cons];have e:X.ls.length-(k+1)+1=X.ls.length-k:=by omega
  rw[e];have l:∀j,iJ X.draw X.bf j (X.ls.length-(k+1))=true->D j:=λj g=>(b j).2 (by
   simp only[iJ,d,Bool.false_eq_true,if_false,decide_eq_true_eq]at g;exact g)
  refine wpOpIn_mono (λn o ⟨p, r, s⟩=>xA d m k _ p r n o (by omega) (λj=>?_) s) (h.next (i:=X.ls.length-(k+1)) (by omega) (λu=>by have:=(b _).1 u;omega) l Q)
  .constructor
   .rintro(q|rfl)
    .have:=(b j).1 q;omega
    .omega
   .intro q
    by_cases x : j=X.ls.length-(k+1)
    .exact .inr x
    .exact .inl ((b j).2 (by omega))
def M8{rd:Option Nat}{Q:Exit->Act->World->Prop}(F:X.draw=true) (V:∀D C f a w,Inv X C0 w0 ds D C f a w->(∀j,j<X.ls.length->D j)->Q .normal a w) :
  ∀(k:Nat) (d:Array Bool) (C:Ctx) (f:Nat) (a:Act) (w:World),d.size=X.ls.length->(d.toList.filter (·== false)).length<=k->Inv X C0 w0 ds (λj=>d[j]? = some true) C f a w->
   wpAnyIn (fw rd) 0 P .any X.ops.toArray Q k d a w:=by
 have G:∀(d:Array Bool),d.size=X.ls.length->Region.ready .any X.ops.toArray d=[]->∀j,j<X.ls.length->d[j]? = some true:=by
  intro d u H j
  induction j using Nat.strongRecOn with
  |ind j I=>
   intro R;obtain⟨o,l,A,Y,S⟩:=X.at_ R;have W:=S.bf;simp only[tT,F,if_true,Bool.and_eq_true,List.all_eq_true,Bool.or_eq_true,Bool.not_eq_true', decide_eq_true_eq]at W;have p:j∉Region.ready .any X.ops.toArray d:=by rw[H];simp
   simp only[Region.ready,List.mem_filter,List.mem_range,List.size_toArray,X.len,Array.getD_eq_getD_getElem?,List.getElem?_toArray,A,Option.map_some,Option.getD_some,Bool.and_eq_true,Bool.not_eq_true', not_and]at p;cases g:d[j]? with
   |none=>rw[Array.getElem?_eq_none_iff]at g;omega
   |some b=>
    cases b with
    |true=>rfl
    |false=>
     exfalso;refine absurd ?_ (p R (by rw[g];rfl))
     rw[<-Array.all_toList];simp only[List.all_eq_true,Bool.or_eq_true,Bool.not_eq_true'];intro e T;cases y:Region.binds .any e with
     |false=>exact .inl rfl
     |true=>
      right;have U:e.on<j:=(W.2 e T).resolve_left (by rw[y];simp)
      rw[I e.on U (by omega)];rfl
 have J:∀(d:Array Bool) i,d.size=X.ls.length->i∈Region.ready .any X.ops.toArray d->i<X.ls.length/\d[i]? = some false/\∀o,X.ops[i]? = some o->∀e∈o.after.toList,Region.binds .any e=true->d[e.on]? = some true:=by
  intro d i u O;simp only[Region.ready,List.mem_filter,List.mem_range,List.size_toArray,X.len,Array.getD_eq_getD_getElem?,List.getElem?_toArray,Bool.and_eq_true,Bool.not_eq_true']at O;obtain⟨B,m,z⟩:=O;refine⟨B,?_,λo A e T y=>?_⟩
  .cases K:d[i]? with
   |none=>rw[Array.getElem?_eq_none_iff]at K;omega
   |some b=>rw[K]at m;simp at m;rw[m]
  .rw[A]at z
   simp only[Option.map_some,Option.getD_some]at z;rw[<-Array.all_toList]at z;simp only[List.all_eq_true,Bool.or_eq_true,Bool.not_eq_true']at z;rcases z e T with h|h
   .rw[y]at h;simp at h
   .cases hle:d[e.on]? with
    |none=>rw[hle]at h;simp at h
    |some b=>rw[hle]at h;simp at h;rw[h]
 intro k
 induction k with
 |zero=>
  intro d C f a w u Z h;have s:∀j,j<X.ls.length->d[j]? = some true:=λj R=>by
   cases g:d[j]? with
   |none=>rw[Array.getElem?_eq_none_iff]at g;omega
   |some b=>
    cases b with
    |true=>rfl
    |false=>
     have:false∈d.toList.filter (·== false):=by
      rw[List.mem_filter];exact⟨by rw[Array.mem_toList_iff];exact Array.mem_of_getElem? g,rfl⟩
     have:=List.length_pos_of_mem this;omega
  refine⟨?_,V _ C f a w h s⟩;cases H:Region.ready .any X.ops.toArray d with
  |nil=>rfl
  |cons i r=>
   obtain⟨B,m,_⟩:=J d i u (by rw[H];simp)
   rw[s i B]at m;simp at m
 |succ k I=>
  intro d C f a w u Z h;refine⟨λH=>V _ C f a w h (G d u H),λi O=>?_⟩;obtain⟨B,m,z⟩:=J d i u O;obtain⟨o,l,A,Y,S⟩:=X.at_ B;have L:i<d.size:=by omega
  refine wpOpIn_mono (λa' w' ⟨C', f', h'⟩=>I _ C' f' a' w' (by simp[u]) ?_ ?_) (h.next B (by rw[m];simp) (M6 F A S h.closed (z o A)) Q)
  .have M:(d.setIfInBounds i true).toList=d.toList.set i true:=by simp
   rw[M];have N:∀(l:List Bool) (n:Nat),l[n]? = some false->((l.set n true).filter (·== false)).length+1=(l.filter (·== false)).length:=by
    intro l
    induction l with
    |nil=>intro n E;simp at E
    |cons x r I=>
     intro n E;cases n with
     |zero=>simp at E;subst E;simp
     |succ n=>
      simp at E;have:=I n E;cases x<;>simp_all
   have:=N d.toList i (by rw[Array.getElem?_toList];exact m)
   omega
  .have:(λj=>d[j]? = some true\/j=i)=λj=>(d.setIfInBounds i true)[j]? = some true:=by
    funext j
    rw[Array.getElem?_setIfInBounds]
    by_cases e:i=j
    .subst e;simp[L]
    .have e' : j ≠ i:=λq=>e q.symm
     simp[e,e']
   rw[<-this];exact h'
end
variable{draw:Bool}{ops:List Oper}{sl:List Nat}{nt id:Nat}{s s': St}{ids:Nat->Nat}{I:Nat->Prop}
def DK{rd:Option Nat}{r:dt}{ce:CE}{ds:List Deferred}{a:Act}{w:World}{Q:Exit->Act->World->Prop}(B:P.follows .mixedOrders=true)
  (d:jM P draw ops sl nt r=true) (l:bn P ce) (m:bQ P ce) (g:aT ce r s=some s') (h:Rel sl nt ds s (ad s.σ ids I) a w)
  (x:∀b I' i w', Rel sl nt ds s' (ad s'.σ b I') i w' ->Step (ad s.σ ids I) w (ad s'.σ b I') w' ->Q .normal i w'):(Code.region id ops.toArray draw).wpIn (fw rd) 0 P Q a w:=by
 simp only[jM,Bool.and_eq_true,beq_iff_eq,List.all_eq_true,List.mem_range]at d;obtain⟨⟨⟨n,E⟩,F⟩,_⟩:=d;unfold aT at g;cases o:lines ce s.vars r.ls ⟨[],s.σ,s.σ⟩with
 |none=>simp[o]at g
 |some q=>
  simp only[o,Option.some.injEq]at g;obtain⟨st,G,H,p⟩:=xm o
  let X:RC P:=⟨draw,xn ops,ops,r.ls,sl,nt,ce,s.vars,s.σ,st,n,E,G,p,l,m⟩
  have fin:∀(u:World) (y:Step (ad s.σ ids I) w (ad s.σ ids I) u) D C f a w', Inv X (ad s.σ ids I) u ds D C f a w' ->(∀j,j<X.ls.length->D j)->Q .normal a w' :=by
   intro u y D C f i w' J K;obtain⟨b, I', z,A⟩:=J.full K (r:=r) rfl F (vs:=s.vars) rfl _ rfl;have e:(X.st X.ls.length)=q:=H;rw[e]at z A;rw[<-g]at x;exact x b I' i w' z (y.trans A)
  cases draw with
  |false=>
   refine wpIn_region ?_;have:=xA (rd:=rd) (X:=X) (Q:=Q) rfl (fin w (Step.refl _ _)) X.ls.length (λ_=>False) _ 0 a w (Nat.le_refl _) (λj=>by simp) (Inv.M7 rfl rfl h)
   rw[Nat.sub_self]at this;rw[List.size_toArray,n,List.range_eq_range'];exact this
  |true=>
   refine wpIn_region_any B ?_;have L:Step (ad s.σ ids I) w (ad s.σ ids I) {w with drawn:=w.drawn+1}:=⟨cF.refl _ _,Nat.le_refl _,λ_ _ _=>rfl,λ_ h=>.inl h,λ_ h=>.inl h,rfl,⟨rfl,Nat.le_succ _⟩,rfl⟩
   have M : Rel sl nt ds s (ad s.σ ids I) a {w with drawn:=w.drawn+1}:=⟨⟨h.good.I,h.good.ij,h.good.live,h.good.apart,h.good.maps⟩,h.size,h.defers,h.vars,h.fl⟩
   rw[List.size_toArray,n];refine M8 (X:=X) rfl (fin _ L) r.ls.length (Array.replicate r.ls.length false) (ad s.σ ids I) 0 a _ (by simp[X]) (Nat.le_trans (List.length_filter_le _ _) (by simp)) ?_
   have e:(λ_:Nat=>False)=λj:Nat=>(Array.replicate r.ls.length false)[j]? = some true:=by
    funext j
    simp[Array.getElem?_replicate]
   rw[<-e];exact Inv.M7 rfl rfl M
def DL{r:dt}{ce:CE}{ds:List Deferred}{a:Act}{w:World}{Q:Exit->Act->World->Prop}(i:P.follows .mixedOrders=true)
  (d:jM P draw ops sl nt r=true) (e:bn P ce) (f:bQ P ce) (j:aT ce r s=some s') (h:Rel sl nt ds s (ad s.σ ids I) a w)
  (l:∀b I' g w', Rel sl nt ds s' (ad s'.σ b I') g w' ->Step (ad s.σ ids I) w (ad s'.σ b I') w' ->Q .normal g w'):(Code.region id ops.toArray draw).wp P Q a w:=
 wpIn_wide.1 (DK (rd:=none) i d e f j h l)
end Ab
namespace Ab
open Go
def xB{p:Nat->Bool}:∀{σ:List aj}{n b:Nat},ay (cr p n σ) b=(ay σ b).map λB=>if p (n+b)then⟨B.k,B.cells,.dead⟩else B
 | [],_,_=>rfl
 |B::r,n,0=>by simp[cr,ay]
 |B::r,n,b+1=>by
  simp only[cr,ay];rw[xB,show n+1+b=n+(b+1)by omega]
variable{p:Nat->Bool}{ids:Nat->Nat}{I I': Nat->Prop}{b u:Nat}
def kx{σ:List aj}{e:aj×Nat}:(ad (cr p 0 σ) ids I').own b u=some e↔p b=false/\(ad σ ids I).own b u=some e:=by
 simp only[ad,xB,Nat.zero_add];cases a:ay σ b with
 |none=>simp
 |some B=>
  simp only[Option.map_some];cases d:p b with
  |true=>simp
  |false=>simp
variable{aV: Nat->Nat}
def xC{σ:List aj}{ids: Nat->Nat}:(ad (cr p 0 σ) ids I').lim b u↔(ad σ aV I).lim b u:=by
 simp only[ad,xB,Nat.zero_add];cases d:ay σ b with
 |none=>simp
 |some B=>
  cases a:p b<;>simp[a]
variable{x y:AV}{v:Value}
def DM{σ:List aj}{I:Nat->Prop}{w:World}(p:Nat->Bool) (d:Good (ad σ ids I) w) (H:view (cr (λb=>!p b) 0 σ) false vd x=some y) (J:VR (ad σ ids I) w.heap x v) :
  ∃I', Good (ad (cr p 0 σ) ids I') w/\Step (ad σ ids I) w (ad (cr p 0 σ) ids I') w/\VR (ad (cr p 0 σ) ids I') w.heap y v:=by
 let I' : Nat->Prop:=λk=>I k\/owned (ad (cr (λb=>!p b) 0 σ) ids I) k
 obtain⟨K,L⟩:=Good.shrink (C2:=ad (cr (λb=>!p b) 0 σ) ids I) d rfl (λb u e h=>(kx.1 h).2) (λb u h=>xC.2 h);have o:∀k,owned (ad (cr (λb=>!p b) 0 σ) ids I) k->owned (ad σ ids I) k:=λk ⟨b,u,B,h,f⟩=>⟨b,u,B,(kx.1 h).2,f⟩;have ev:cF (ad σ ids I) w.heap (ad (cr p 0 σ) ids I') w.heap:=by
  refine⟨λk a=>.inl a,λ_ _=>rfl,λb u h=>xC.2 h,λb u z id _ g=>⟨z, (kx.1 g).2,rfl,rfl,λc el M=>⟨c,M,rfl⟩⟩⟩
 refine⟨I', ⟨λk a=>a.elim (d.I k) λh=>d.lt (o k h),λb u B id g=>?_,λb u B id g f=>?_,λb1 V W i1 X Y Z i2 q N r O A=>d.apart _ _ _ _ _ _ _ _ (kx.1 q).2 N (kx.1 r).2 O A,λb u B id es g f=>?_⟩,
  ⟨ev,Nat.le_refl _,λ_ _ _=>rfl,λk ⟨b,u,B,h,f⟩=>.inl ⟨b,u,B,(kx.1 h).2,f⟩,λk a=>a.elim .inl λh=>.inr (.inl (o k h)),rfl,⟨rfl,Nat.le_refl _⟩,rfl⟩,?_⟩
 .obtain⟨q,r,C,D⟩:=d.ij b u B id (kx.1 g).2
  exact⟨xC.2 q,r,C,D⟩
 .obtain⟨E,n⟩:=(kx (I:=I)).1 g
  obtain⟨q,c,el,r,C,D⟩:=d.live b u B id n f;refine⟨λa=>?_,c,el,r,C,λi x P=>?_⟩
  .rcases a with a|⟨F, Q, z, j, l⟩
   .exact q a
   .obtain⟨s,G⟩:=(kx (I:=I)).1 j
    have m:F ≠ b:=λe=>by
     subst e;rw[E]at s;simp at s
    exact d.apart _ _ _ _ _ _ _ _ G l n (gS f) m rfl
  .obtain⟨y,R,S,T⟩:=D i x P
   exact⟨y,R,VR.mono ev _ _ S,T⟩
 .obtain⟨E,n⟩:=(kx (I:=I)).1 g
  refine d.bG (C' :=ad (cr p 0 σ) ids I') ev n f rfl λa=>?_;rcases a with a|⟨F, Q, z, j, l⟩
  .exact(d.maps b u B id es n f).1 a
  .obtain⟨s,G⟩:=(kx (I:=I)).1 j
   have m:F ≠ b:=λe=>by
    subst e;rw[E]at s;simp at s
   exact d.apart _ _ _ _ _ _ _ _ G l n (gN f) m rfl
 .exact(tw (C2:=ad (cr p 0 σ) ids I') (λb u B _ U=>⟨_,kc ids I U⟩) K (fr:=false) ⟨λ_ k a=>.inl a,λk a=>.inr a⟩ vd x y v H (VR.mono L.ev _ _ J)).2
def DN:AV->AV
 |.aA _ l=>.aA true l
 |x=>x
variable{C2:Ctx}
def DO{σ:List aj}{I:Nat->Prop}{w:World}(d:gg σ x=true) (f:VR (ad σ ids I) w.heap x v) (g:VR C2 w.heap y v) :
  VR C2 w.heap (DN y) v:=by
 have i:v ≠ .slice none 0 0:=by
  cases x<;>simp only[gg]at d<;>try(simp at d;done)
  .rename_i n l
   subst d;unfold VR at f;rcases f.2 with⟨_,a,h,d⟩|⟨_,_,_,_,_,_,_,h,_⟩
   .obtain⟨q,rfl⟩:=Option.isSome_iff_exists.1 (d rfl);rw[h];simp
   .rw[h];simp
  .rename_i b u off len
   cases j:upto σ b u with
   |none=>simp[j]at d
   |some B=>
    simp only[j]at d;have p:B.st = .live:=by revert d;cases B.st<;>simp
    unfold VR at f;have:=f.2.2 B _ (kc ids I j);rw[p]at this;obtain⟨c,el,o,cap,_,e,_⟩:=this;rw[e];simp
 cases y with
 |aA n l=>
  unfold DN;unfold VR at g ⊢;refine⟨g.1,?_⟩;rcases g.2 with h|h
  .obtain⟨r,a,m,_⟩:=h
   refine .inl ⟨r,a,m,λ_=>?_⟩;cases a with
   |none=>exact absurd m i
   |some q=>rfl
  .exact .inr h
 |_=>exact g
def tX{C C2:Ctx}{H:Array Obj}{q:AV->Bool}(b:∀x v,q x=true->VR C H x v->VR C2 H x v):∀{l:List AV}{vs:List Value},l.all q=true->bm C H l vs->bm C2 H l vs
 | [],_,_,h=>h
 |x::r,_,a,⟨v,s,e,d,f⟩=>by
  simp only[List.all_cons,Bool.and_eq_true]at a;exact⟨v,s,e,b x v a.1 d,tX b a.2 f⟩
variable{m:Nat}
def M9{C:Ctx}{H:Array Obj}(z:C2.I=C.I) (s:∀b u e,b<m->C2.own b u=some e->C.own b u=some e) (w:∀b u,b<m->C.lim b u->C2.lim b u) :
  ∀(x:AV) (v:Value),dh m x=true->VR C H x v->VR C2 H x v:=by
 have a:kJ C H C2 H:=⟨λk h=>by rw[z];exact h,λ_ _=>rfl⟩
 have o:∀b u off len v,b<m->VR C H (.sl b u off len) v->VR C2 H (.sl b u off len) v:=λb u off len v j h=>by
  unfold VR at h ⊢;exact⟨h.1,w b u j h.2.1,λB id g=>h.2.2 B id (s b u _ j g)⟩
 have p:∀b u off v,b<m->VR C H (.ptr b u off) v->VR C2 H (.ptr b u off) v:=λb u off v j h=>by
  unfold VR at h ⊢;exact⟨h.1,w b u j h.2.1,λB id g=>h.2.2 B id (s b u _ j g)⟩
 have q:∀b v,b<m->VR C H (.b8 b) v->VR C2 H (.b8 b) v:=λb v j h=>by
  unfold VR at h ⊢;exact⟨h.1,w b 0 j h.2.1,λB id g=>h.2.2 B id (s b 0 _ j g)⟩
 have n:∀(x:AV) v,pQ m x=true->VR C H x v->VR C2 H x v:=λx v d h=>by
  cases x with
  |b8 b=>exact q b v (by simpa[pQ]using d) h
  |sl b u off len=>exact o b u off len v (by simpa[pQ]using d) h
  |ptr b u off=>exact p b u off v (by simpa[pQ]using d) h
  |au=>unfold VR;trivial
  |_=>exact VR.free a _ _ (by simpa[pQ]using d) h
 intro x v d h;cases x with
 |sl b u off len=>exact o b u off len v (by simpa[dh]using d) h
 |ptr b u off=>exact p b u off v (by simpa[dh]using d) h
 |b8 b=>exact q b v (by simpa[dh]using d) h
 |au=>unfold VR;trivial
 |arr l=>simp[dh]at d
 |agg l=>
  unfold VR at h ⊢;obtain⟨r,e,i, A⟩:=h;exact⟨r,e,tX n d i, A⟩
 |bz l=>
  unfold VR at h ⊢;obtain⟨r,e,i⟩:=h;exact⟨r,e,tX n d i⟩
 |func f l=>
  unfold VR at h ⊢;obtain⟨r,e,i⟩:=h;exact⟨r,e,tX n d i⟩
 |iface t y=>exact VR.free a _ _ (by simpa[dh,aB]using d) h
 |aA D l=>
  have:aq l=true:=by unfold VR at h;exact h.1
  exact VR.free a _ _ (by simpa[aB]using this) h
 |ar y=>
  have:aB y=true:=by unfold VR at h;exact h.1
  exact VR.free a _ _ (by simpa[aB]using this) h
 |_=>exact VR.free a _ _ rfl h
def xD{n:Nat}:∀{m:Nat}{σ:List aj},iI n m σ=true->∀b B,b<m->ay σ b=some B->B.cells.all (dh n)=true/\mY n B.st=true
 |0,_,_,b,_,d,_=>absurd d (Nat.not_lt_zero b)
 |m+1,[],_,b,B,_,h=>by simp[ay]at h
 |m+1,e::r,h,b,B,d,a=>by
  simp only[iI,Bool.and_eq_true]at h;cases b with
  |zero=>simp[ay]at a;subst a;exact h.1
  |succ b=>exact xD h.2 b B (by omega) (by simpa[ay]using a)
def DP{σ:List aj}:ay (σ.take m) b=if b<m then ay σ b else none:=by
 rw[bV,bV,List.getElem?_take]
def Na{σ σ' : List aj}{ids: Nat->Nat}{w w' : World}(A:Good (ad σ' aV I') w') (j:Step (ad σ ids I) w (ad σ' aV I') w') (E:iI σ.length σ.length σ' = true) :
  Good (ad (σ'.take σ.length) aV I') w' /\Step (ad σ ids I) w (ad (σ'.take σ.length) aV I') w' /\∀x v,dh σ.length x=true->VR (ad σ' aV I') w'.heap x v->VR (ad (σ'.take σ.length) aV I') w'.heap x v:=by
 have a:∀b u e,(ad (σ'.take σ.length) aV I').own b u=some e->b<σ.length/\(ad σ' aV I').own b u=some e:=λb u e h=>by
  simp only[ad,DP]at h ⊢
  by_cases n:b<σ.length
  .simp only[n,if_true]at h;exact⟨n,h⟩
  .simp[n]at h
 have o:∀b u,b<σ.length->(ad σ' aV I').lim b u->(ad (σ'.take σ.length) aV I').lim b u:=λb u n ⟨B,g,p⟩=>⟨B,by rw[DP,if_pos n];exact g,p⟩
 have low:=M9 (H:=w'.heap) (m:=σ.length) (C:=ad σ' aV I') (C2:=ad (σ'.take σ.length) aV I') rfl (λb u e _ h=>(a b u e h).2) o;have G:∀b u,(ad σ ids I).lim b u->b<σ.length:=λb u ⟨B,g,_⟩=>by rw[bV]at g;exact(List.getElem?_eq_some_iff.1 g).1
 refine⟨⟨A.I,λb u B id z=>?_,λb u B id z r=>?_,λb1 W X i1 Y Z B2 i2 g P p Q J=>A.apart _ _ _ _ _ _ _ _ (a _ _ _ g).2 P (a _ _ _ p).2 Q J,λb u B id es z r=>?_⟩,
  ⟨⟨j.ev.aA,j.ev.same,λb u h=>o b u (G b u h) (j.ev.lim b u h),λb u R id h z=>j.ev.own b u R id h (a _ _ _ z).2⟩,j.size,j.frame,λk ⟨b,u,B,h,E⟩=>j.cm k ⟨b,u,B,(a _ _ _ h).2,E⟩,j.cv,j.os,j.tape,j.output⟩,low⟩
 .obtain⟨n,d⟩:=a _ _ _ z
  obtain⟨g,p,D,K⟩:=A.ij b u B id d;exact⟨o b u n g,p,D,K⟩
 .obtain⟨n,d⟩:=a _ _ _ z
  obtain⟨g,c,el,p,D,K⟩:=A.live b u B id d r;obtain⟨L,_⟩:=tH d;have f:=(xD E b B n L).1;refine⟨g,c,el,p,D,λi x O=>?_⟩;obtain⟨y,F,M,S⟩:=K i x O;exact⟨y,F,low x y (List.all_eq_true.1 f x (List.mem_of_getElem? O)) M,S⟩
 .obtain⟨n,d⟩:=a _ _ _ z
  obtain⟨g,l,c,p,D⟩:=A.maps b u B id es d r;obtain⟨L,_⟩:=tH d;have f:=(xD E b B n L).2;rw[r]at f;refine⟨g,l,c,p,?_⟩;have go:∀{es:List (AV×AV)} {l:List MapEntry},(es.all λe=>dh σ.length e.2)=true->MR (ad σ' aV I') w'.heap es l->MR (ad (σ'.take σ.length) aV I') w'.heap es l:=by
   intro es
   induction es with
   |nil=>intro l _ h;exact h
   |cons e es T=>
    obtain⟨k,x⟩:=e;rintro l N ⟨e,s,q,⟨F,M⟩,U,V⟩;simp only[List.all_cons,Bool.and_eq_true]at N;exact⟨e,s,q,⟨F,VR.free (show kJ (ad σ' aV I') w'.heap (ad (σ'.take σ.length) aV I') w'.heap from⟨λ_ h=>h,λ_ _=>rfl⟩) _ _ F M⟩,low _ _ N.1 U,T N.2 V⟩
  exact go f D
end Ab
namespace Ab
open Go
variable{P:Program}
def eW (P:Program) (sl:List Nat) (nt:Nat):IC->Code->Bool
 |.skip,.skip=>true
 |.skip,.label _=>true
 |.bad,_=>true
 |.cut b a,.cond (.const (.bool d)) x y=>b==d && eW P sl nt a (if b then x else y)
 |.rq a,.scope x=>eW P sl nt a x
 |.bM r,.region _ ops draw=>jM P draw ops.toList sl nt r
 |.seq a b,c=>match b with
  |.mW k=>decide (k<sl.length)&&eW P sl nt a c
  |_=>match c with
   |.seq x y=>eW P sl nt a x&&eW P sl nt b y
   |_=>false
 |.cond t a b,.cond (.tmp e) x y=>t==e && eW P sl nt a x&&eW P sl nt b y
 |.fh k a b,.cond (.tmp t) x y=>sl[k]? == some t&&eW P sl nt a x&&eW P sl nt b y
 |.block id a,.block id' x=>id==id' && eW P sl nt a x
 |.loop a,.loop x=>eW P sl nt a x
 |.exit id,.exit id' =>id==id'
 |.ret,.ret=>true
 |.lex a,c=>eW P sl nt a c
 |_,_=>false
def rG:Ex->Exit
 |.c5=>.normal
 |.exit id=>.exit id
 |.ret=>.ret
def least{p:Nat->Prop}:∀{n:Nat},p n->∃k,p k/\∀m,m<k->¬p m:=by
 intro n
 induction n using Nat.strongRecOn with
 |ind n e=>
  intro h
  by_cases d:∃m,m<n/\p m
  .obtain⟨m,a,b⟩:=d
   exact e m a b
  .exact⟨n,h,λm a b=>d ⟨m,a,b⟩⟩
open Classical in
def tY{c:Code}{Q:Exit->Act->World->Prop}{a:Act}{w:World}(J:Nat->Act->World->Prop){k:Nat}(n:J k a w) (o:∀a w,¬J 0 a w) (round:∀k a w,J (k+1) a w->c.wp P (Exit.then (J k) Q) a w):(Code.loop c).wp P Q a w:=by
 let b:Act->World->Nat:=λa w=>if h:∃k,J k a w/\∀m,m<k->¬J m a w then choose h else 0
 have d:∀a w k,J k a w->J (b a w) a w/\b a w<=k:=λa w k f=>by
  have h:=least (p:=λk=>J k a w) f;have e:b a w=choose h:=dif_pos h;have l:=choose_spec h;rw[e];exact⟨l.1,Nat.le_of_not_lt λg=>l.2 k g f⟩
 refine wp_loop (λa w=>∃k,J k a w) b ⟨k,n⟩ λa w ⟨k,f⟩=>?_;obtain⟨i,_⟩:=d a w k f;generalize s:b a w=m at i;cases m with
 |zero=>exact absurd i (o a w)
 |succ m=>
  refine wp_mono (round m a w i) λe q r j=>?_;cases e with
  |normal=>exact⟨⟨m,j⟩,Nat.lt_succ_of_le (d q r m j).2⟩
  |_=>exact j
def xE{sl:List Nat}{nt:Nat}{ds:List Deferred}{n:Nat}{ce:CE}(hm:P.follows .mixedOrders=true) (fG:bn P ce) (iD:bQ P ce) :
  ∀(ic:IC) (c:Code) (s:St) (e:Ex) (s' : St) (ids:Nat->Nat) (I:Nat->Prop) (a:Act) (w:World) (Q:Exit->Act->World->Prop),eW P sl nt ic c=true->exec n ce ic s=some (e,s')->Rel sl nt ds s (ad s.σ ids I) a w->
   (∀aV I' a' w', Rel sl nt ds s' (ad s'.σ aV I') a' w' ->Step (ad s.σ ids I) w (ad s'.σ aV I') w' ->Q (rG e) a' w')->c.wp P Q a w:=by
 intro ic
 induction ic with
 |skip=>
  intro c s e s' ids I a w Q cg he h hQ;cases c<;>try(simp[eW]at cg;done)
  .simp only[exec,Option.some.injEq,Prod.mk.injEq]at he
   obtain⟨rfl,rfl⟩:=he;exact wp_skip (hQ ids I a w h (Step.refl _ _))
  .simp only[exec,Option.some.injEq,Prod.mk.injEq]at he
   obtain⟨rfl,rfl⟩:=he;exact wp_label (hQ ids I a w h (Step.refl _ _))
 |bad=>
  intro c s e s' ids I a w Q cg he h hQ;simp[exec]at he
 |cut b x ih=>
  intro c s e s' ids I a w Q cg he h hQ;cases c<;>try(simp[eW]at cg;done)
  rename_i c0 x' y';cases c0<;>try(simp[eW]at cg;done)
  rename_i v;cases v<;>try(simp[eW]at cg;done)
  rename_i b';simp only[eW,Bool.and_eq_true,beq_iff_eq]at cg;obtain⟨rfl,cg⟩:=cg;simp only[exec]at he;refine wp_cond (t:=b) rfl ?_;exact ih _ s e s' ids I a w Q cg he h hQ
 |rq x ih=>
  intro c s e s' ids I a w Q cg he h hQ;cases c<;>try(simp[eW]at cg;done)
  rename_i c;simp only[eW]at cg;simp only[exec]at he;refine wp_scope_straight ?_;refine ih c s e s' ids I a w _ cg he h λaV I' a' w' h' qF =>?_;have:=hQ aV I' a' w' h' qF;cases e<;>exact this
 |bM r=>
  intro c s e s' ids I a w Q cg he h hQ;cases c<;>try(simp[eW]at cg;done)
  rename_i id ops draw;simp only[exec]at he;cases hr:aT ce r s with
  |none=>simp[hr]at he
  |some s1=>
   simp only[hr,Option.some.injEq,Prod.mk.injEq]at he;obtain⟨rfl,rfl⟩:=he;simp only[eW]at cg;have:=DL (id:=id) (Q:=Q) hm cg fG iD hr h hQ
   rwa [Array.toArray_toList]at this
 |seq x y Cj DQ=>
  intro c s e s' ids I a w Q cg he h hQ;simp only[exec]at he;cases hx:exec n ce x s with
  |none=>simp[hx]at he
  |some es=>
   obtain⟨e1,s1⟩:=es;simp only[hx]at he
   by_cases hf:∃k,y = .mW k
   .obtain⟨k,rfl⟩:=hf
    simp only[eW,Bool.and_eq_true,decide_eq_true_eq]at cg;obtain⟨hk,cg⟩:=cg;refine Cj c s e1 s1 ids I a w Q cg hx h λdi I1 a1 w1 h1 st1=>?_;cases e1 with
    |c5=>
     simp only[exec]at he;split at he
     case h_2=>simp at he
     rename_i v hv;simp only[Option.some.injEq,Prod.mk.injEq]at he;obtain⟨rfl,rfl⟩:=he;have xF : ∃t,sl[k]? = some t:=⟨_,List.getElem?_eq_getElem hk⟩
     .obtain⟨t,ht⟩:=xF
      obtain⟨I2,g1,g2,g3⟩:=DM (λb=>(reach s1.σ vd (nth s1.vars k) []).contains b) h1.good hv (h1.vars k t ht);refine hQ di I2 a1 w1 ⟨g1,h1.size,h1.defers,λj t' hj=>?_,λt' v' Nb =>VR.mono g2.ev _ _ (h1.fl t' v' Nb)⟩ (st1.trans g2);simp only;rw[pZ]
      by_cases e:j=k/\k<s1.vars.length
      .rw[if_pos e]
       have:t' = t:=by rw[e.1,ht]at hj;simp at hj;exact hj.symm
       subst this
       by_cases hs:gg s1.σ (nth s1.vars k)=true
       .rw[if_pos hs];exact DO hs (h1.vars k t' ht) g3
       .rw[if_neg hs];exact g3
      .rw[if_neg e]
       exact VR.mono g2.ev _ _ (h1.vars j t' hj)
    |exit id=>simp only[Option.some.injEq,Prod.mk.injEq]at he;obtain⟨rfl,rfl⟩:=he;exact hQ di I1 a1 w1 h1 st1
    |ret=>simp only[Option.some.injEq,Prod.mk.injEq]at he;obtain⟨rfl,rfl⟩:=he;exact hQ di I1 a1 w1 h1 st1
   .have Nc : ∃x' y', c = .seq x' y' /\eW P sl nt x x' = true/\eW P sl nt y y' = true:=by
     unfold eW at cg;split at cg
     .exact absurd ⟨_,rfl⟩ hf
     .split at cg
      .simp only[Bool.and_eq_true]at cg
       exact⟨_,_,rfl,cg.1,cg.2⟩
      .simp at cg
    obtain⟨x', y', rfl,DR,DS⟩:=Nc;refine wp_seq (Cj x' s e1 s1 ids I a w _ DR hx h λdi I1 a1 w1 h1 st1=>?_);cases e1 with
    |c5=>exact DQ y' s1 e s' di I1 a1 w1 Q DS he h1 λaV I' a' w' h' qF =>hQ aV I' a' w' h' (st1.trans qF)
    |exit id=>simp only[Option.some.injEq,Prod.mk.injEq]at he;obtain⟨rfl,rfl⟩:=he;exact hQ di I1 a1 w1 h1 st1
    |ret=>simp only[Option.some.injEq,Prod.mk.injEq]at he;obtain⟨rfl,rfl⟩:=he;exact hQ di I1 a1 w1 h1 st1
 |cond t x y Cj DQ=>
  intro c s e s' ids I a w Q cg he h hQ;cases c<;>try(simp[eW]at cg;done)
  rename_i c0 x' y';cases c0<;>try(simp[eW]at cg;done)
  rename_i t';simp only[eW,Bool.and_eq_true,beq_iff_eq]at cg;obtain⟨⟨rfl,DR⟩,DS⟩:=cg;simp only[exec]at he;split at he
  case h_2=>simp at he
  rename_i t1 b DJ
  by_cases e1:t1=t
  .subst e1
   simp only[beq_self_eq_true,if_true]at he;have hb:a.eval (.tmp t1) = .bool b:=h.fl t1 (.bool b) DJ;have h' : Rel sl nt ds {s with fl:=none} (ad s.σ ids I) a w:=⟨h.good,h.size,h.defers,h.vars,λ_ _ q=>by simp at q⟩
   refine wp_cond (t:=b) hb ?_;cases b with
   |true=>exact Cj x' {s with fl:=none} e s' ids I a w Q DR he h' hQ
   |false=>exact DQ y' {s with fl:=none} e s' ids I a w Q DS he h' hQ
  .have:(t1==t)=false:=by simpa using e1
   simp[this]at he
 |fh k x y Cj DQ=>
  intro c s e s' ids I a w Q cg he h hQ;cases c<;>try(simp[eW]at cg;done)
  rename_i c0 x' y';cases c0<;>try(simp[eW]at cg;done)
  rename_i t;simp only[eW,Bool.and_eq_true,beq_iff_eq]at cg;obtain⟨⟨hk,DR⟩,DS⟩:=cg;simp only[exec]at he;split at he
  case h_2=>simp at he
  rename_i b hv;have hb:a.eval (.tmp t) = .bool b:=by
   have:=h.vars k t hk;rw[hv]at this;exact this
  refine wp_cond (t:=b) hb ?_;cases b with
  |true=>exact Cj x' s e s' ids I a w Q DR he h hQ
  |false=>exact DQ y' s e s' ids I a w Q DS he h hQ
 |block id x ih=>
  intro c s e s' ids I a w Q cg he h hQ;cases c<;>try(simp[eW]at cg;done)
  rename_i id' c;simp only[eW,Bool.and_eq_true,beq_iff_eq]at cg;obtain⟨rfl,cg⟩:=cg;simp only[exec]at he;refine wp_block ?_;cases hx:exec n ce x s with
  |none=>simp[hx]at he
  |some es=>
   obtain⟨e1,s1⟩:=es;simp only[hx]at he;refine ih c s e1 s1 ids I a w _ cg hx h λdi I1 a1 w1 h1 st1=>?_;cases e1 with
   |c5=>simp only[Option.some.injEq,Prod.mk.injEq]at he;obtain⟨rfl,rfl⟩:=he;exact hQ di I1 a1 w1 h1 st1
   |exit j=>
    simp only at he
    by_cases hj:j=id
    .subst hj
     simp only[beq_self_eq_true,if_true,Option.some.injEq,Prod.mk.injEq]at he;obtain⟨rfl,rfl⟩:=he;simp only[rG,Exit.inBlock,if_true];exact hQ di I1 a1 w1 h1 st1
    .have:(j==id)=false:=by simpa using hj
     simp only[this,Bool.false_eq_true,if_false,Option.some.injEq,Prod.mk.injEq]at he;obtain⟨rfl,rfl⟩:=he;simp only[rG,Exit.inBlock,hj,if_false];exact hQ di I1 a1 w1 h1 st1
   |ret=>simp only[Option.some.injEq,Prod.mk.injEq]at he;obtain⟨rfl,rfl⟩:=he;exact hQ di I1 a1 w1 h1 st1
 |loop x ih=>
  intro c s e s' ids I a w Q cg he h hQ;cases c<;>try(simp[eW]at cg;done)
  rename_i c;simp only[eW]at cg;simp only[exec]at he;refine tY (λk a1 w1=>∃s1 di I1,iter (exec n ce x) k s1=some (e,s')/\Rel sl nt ds s1 (ad s1.σ di I1) a1 w1/\Step (ad s.σ ids I) w (ad s1.σ di I1) w1) (k:=n) ⟨s,ids,I,he,h,Step.refl _ _⟩ (λa1 w1 ⟨s1,_,_,h0,_⟩=>by simp[iter]at h0) ?_
  rintro k a1 w1 ⟨s1,di,I1,h1,r1,st1⟩;simp only[iter]at h1;cases hx:exec n ce x s1 with
  |none=>simp[hx]at h1
  |some es=>
   obtain⟨e2,s2⟩:=es;simp only[hx]at h1;refine ih c s1 e2 s2 di I1 a1 w1 _ cg hx r1 λkX I2 a2 w2 r2 st2=>?_;cases e2 with
   |c5=>exact⟨s2,kX,I2,h1,r2,st1.trans st2⟩
   |exit j=>simp only[Option.some.injEq,Prod.mk.injEq]at h1;obtain⟨rfl,rfl⟩:=h1;exact hQ kX I2 a2 w2 r2 (st1.trans st2)
   |ret=>simp only[Option.some.injEq,Prod.mk.injEq]at h1;obtain⟨rfl,rfl⟩:=h1;exact hQ kX I2 a2 w2 r2 (st1.trans st2)
 |exit id=>
  intro c s e s' ids I a w Q cg he h hQ;cases c<;>try(simp[eW]at cg;done)
  simp only[eW,beq_iff_eq]at cg;subst cg;simp only[exec,Option.some.injEq,Prod.mk.injEq]at he;obtain⟨rfl,rfl⟩:=he;exact wp_exit (hQ ids I a w h (Step.refl _ _))
 |ret=>
  intro c s e s' ids I a w Q cg he h hQ;cases c<;>try(simp[eW]at cg;done)
  simp only[exec,Option.some.injEq,Prod.mk.injEq]at he;obtain⟨rfl,rfl⟩:=he;exact wp_ret (hQ ids I a w h (Step.refl _ _))
 |mW k=>
  intro c s e s' ids I a w Q cg he h hQ;cases c<;>simp[eW]at cg
 |lex x ih=>
  intro c s e s' ids I a w Q cg he h hQ;simp only[eW]at cg;simp only[exec]at he;cases hx:exec n ce x s with
  |none=>simp[hx]at he
  |some es=>
   obtain⟨e1,s1⟩:=es;simp only[hx]at he;refine ih c s e1 s1 ids I a w Q cg hx h λdi I1 a1 w1 h1 st1=>?_;have go:(if(s1.vars.all (dh s.σ.length)&&iI s.σ.length s.σ.length s1.σ&&(match s1.fl with|some _=>false|none=>true))=true then some (e1,({s1 with σ:=s1.σ.take s.σ.length}:St))else none)=some (e,s')->Q (rG e1) a1 w1:=λhe=>by
    by_cases hc:(s1.vars.all (dh s.σ.length)&&iI s.σ.length s.σ.length s1.σ&&(match s1.fl with|some _=>false|none=>true))=true
    case neg=>rw[if_neg hc]at he;simp at he
    rw[if_pos hc]at he;simp only[Bool.and_eq_true]at hc;obtain⟨⟨c1,c2⟩,c3⟩:=hc;simp only[Option.some.injEq,Prod.mk.injEq]at he;obtain⟨rfl,rfl⟩:=he;obtain⟨g1,g2,g3⟩:=Na h1.good st1 c2;refine hQ di I1 a1 w1 ⟨g1,h1.size,h1.defers,λj t hj=>?_,λt v hv=>?_⟩ g2
    .refine g3 _ _ ?_ (h1.vars j t hj)
     rw[jV];cases hq:s1.vars[j]? with
     |none=>rfl
     |some q=>exact List.all_eq_true.1 c1 q (List.mem_of_getElem? hq)
    .simp only at hv
     rw[hv]at c3;simp at c3
   cases e1 with
   |c5=>exact go he
   |exit j=>exact go he
   |ret=>simp only[Option.some.injEq,Prod.mk.injEq]at he;obtain⟨rfl,rfl⟩:=he;exact hQ di I1 a1 w1 h1 st1
end Ab
namespace Ab
open Go
variable{P:Program}
def fJ (P:Program) (sl:List Nat):List ResultVar->List (Nat×Option (Option Nat))->Bool
 | [],[]=>true
 |.tmp t::r,(k,none)::s=>sl[k]? == some t&&fJ P sl r s
 |.cell a ty::r,(k,some b)::s=>sl[k]? == some a&&aR P ty b&&fJ P sl r s
 |_,_=>false
def kY (P:Program) (f:Nat) (fn:Fn) (sl:List Nat):Bool:=
 match P.funcs[f]? with
 |some a=>bU P f&&(match a.body with
  |some c=>eW P sl a.ntmps fn.body c&&fJ P sl a.results.toList fn.res&&decide (fn.np<=a.ntmps)&&(List.range sl.length).all λk=>decide (fn.np<=k)||sl[k]? == some k
  |none=>false)
 |none=>false
def dc (P:Program) (f:Nat) (p:CE->List AV->List aj->Option (AV×List aj)):Prop:=
 bU P f=true/\∀ce,bn P ce->bQ P ce->∀args d r b, p ce args d=some (r,b)->∀(ids:Nat->Nat) (I:Nat->Prop) (w:World) (i:List Value),Good (ad d ids I) w->bm (ad d ids I) w.heap args i->
  Calls P f i.toArray w λe g =>∃v a h, e = .returned v/\Good (ad b a h) g /\VR (ad b a h) g.heap r v/\Step (ad d ids I) w (ad b a h) g
variable{v:Value}
def Nd{s:Sem Value}{w:World}(h:(do let x <-s;pure (Next.value x):Sem Next).run P w = .ok (.value v) w):s.run P w = .ok v w:=by
 simp only[Sem.run_bind]at h;cases b:s.run P w with
 |ok a d =>rw[b]at h;simp[Result.andThen]at h;obtain⟨rfl,rfl⟩:=h;rfl
 |halt x d =>rw[b]at h;simp[Result.andThen]at h
def Nf{C:Ctx}{w:World}{σ:List aj}{x y:AV}{p:Option bI}{kd:Option Nat}{ty:TypeId}(hk:aR P ty kd=true) (hg:Good C w) (gk:∀b u B,C.lim b u->upto σ b u=some B->∃id,C.own b u=some (B,id)) (hx:VR C w.heap x v)
  (he:ev (λ_ _ _=>none) σ 0 [] (λ_=>x) (.ld (.v 0) kd)=some (y,p)):∃z,(do loadVar ty (<-asAddr v):Sem Value).run P w = .ok z w/\VR C w.heap y z:=by
 obtain⟨⟨z,h1,h2⟩,_⟩:=rf (P:=P) (ρ:=λ_=>v) (o:=⟨none,.load ty (.tmp 0),0, "",#[],none⟩) (w:=w) (C:=C) rfl hk hg gk hx he;have h3:=Nd (s:=Instr.loadAt ty v) h1;refine⟨z,?_,h2⟩;have hp:∃a,v = .pointer (some a):=by
  simp only[ev]at he;cases x<;>try(simp at he;done)
  .unfold VR at hx;obtain⟨_,ay,off,_,_,_,_,e,_⟩:=hx;exact⟨_,e⟩
  .unfold VR at hx;obtain⟨⟨ay,e⟩,_⟩:=hx;exact⟨_,e⟩
 obtain⟨a,rfl⟩:=hp;rw[<-h3];simp only[Instr.loadAt,Instr.sureAddr,asAddr,Sem.run_bind,Sem.run_pure,Result.andThen_ok]
def mg (tmps:Array Value):ResultVar->Sem Value
 |.tmp t=>pure (tmps.getD t undef)
 |.cell a t=>do loadVar t (<-asAddr (tmps.getD a undef))
def DT (pf:Func) (tmps:Array Value):Go.results pf tmps=(do
  let vs <-pf.results.mapM (mg tmps)
  pure (if h:vs.size=1 then vs[0]else .tuple vs)):=by
 unfold Go.results
 congr 2
def tZ{sl:List Nat}{nt:Nat}{ds:List Deferred}{s:St}{ids:Nat->Nat}{I:Nat->Prop}{a:Act}{w:World}(h:Rel sl nt ds s (ad s.σ ids I) a w) :
  ∀(rs:List ResultVar) (f:List (Nat×Option (Option Nat))) (xs:List AV),fJ P sl rs f=true->aM (gf s) f=some xs->
   ∃vs,(rs.mapM (mg a.tmps)).run P w = .ok vs w/\bm (ad s.σ ids I) w.heap xs vs
 | [],[],xs,_,e=>by
  simp[aM]at e;subst e;exact⟨[],by simp,rfl⟩
 |.tmp t::rs,(k,none)::f,xs,d,e=>by
  simp only[fJ,Bool.and_eq_true,beq_iff_eq]at d;simp only[aM,gf]at e;cases g:aM (gf s) f with
  |none=>simp[g]at e
  |some i=>
   simp[g]at e;subst e;obtain⟨vs,j,l⟩:=tZ h rs f i d.2 g;exact⟨_::vs,by simp[List.mapM_cons,mg,j],_,_,rfl,h.vars k t d.1,l⟩
 |.cell q ty::rs,(k,some n)::f,xs,d,e=>by
  simp only[fJ,Bool.and_eq_true,beq_iff_eq]at d;simp only[aM,gf]at e;cases m:ev (λ_ _ _=>none) s.σ 0 [] (λ_=>nth s.vars k) (.ld (.v 0) n)with
  |none=>simp[m]at e
  |some o=>
   obtain⟨y,p⟩:=o;simp only[m]at e;cases g:aM (gf s) f with
   |none=>simp[g]at e
   |some i=>
    simp[g]at e;subst e;obtain⟨vs,j,l⟩:=tZ h rs f i d.2 g;obtain⟨z,r,x⟩:=Nf d.1.2 h.good (λb u B _ A=>⟨_,kc ids I A⟩) (h.vars k q d.1.1) m;refine⟨z::vs,?_,_,_,rfl,x,l⟩;rw[List.mapM_cons,Sem.run_bind,show(mg a.tmps (.cell q ty)).run P w = .ok z w from r];simp[j]
 | [],_::_,_,d,_=>by simp[fJ]at d
 |.tmp _::_,[],_,d,_=>by simp[fJ]at d
 |.cell .. :: _,[],_,d,_=>by simp[fJ]at d
 |.tmp _::_,(_,some _)::_,_,d,_=>by simp[fJ]at d
 |.cell .. :: _,(_,none)::_,_,d,_=>by simp[fJ]at d
def ua{G:Nat->Option Fn}{Q:gH}{n:Nat}(hm:P.follows .mixedOrders=true) (hG:∀f fn,G f=some fn->∃sl,kY P f fn sl=true) (hQ:∀f p,Q f=some p->dc P f p):∀d,bn P (b9 G Q n d)/\bQ P (b9 G Q n d)
 |0=>⟨λf args σ r σ' h=>by simp[b9]at h,λf args σ r h=>by simp[b9]at h⟩
 |d+1=>by
  obtain⟨ih1,KN⟩:=ua (n:=n) hm hG hQ d;refine⟨λf args σ r σ' h ids I w vs hg hv=>?_,λf args σ r h=>?_⟩
  .simp only[b9]at h
   cases hq:Q f with
   |some p=>
    simp only[hq]at h;exact(hQ f p hq).2 _ ih1 KN args σ r σ' h ids I w vs hg hv
   |none=>
    simp only[hq]at h;cases Ck:G f with
    |none=>simp[Ck]at h
    |some fn=>
     simp only[Ck]at h;split at h
     case isFalse=>simp at h
     rename_i hlen;simp only[beq_iff_eq]at hlen;cases he:exec n (b9 G Q n d) fn.body {vars:=args++List.replicate (fn.nv-fn.np) .au,fl:=none,σ}with
     |none=>simp[he]at h
     |some es=>
      obtain⟨e,s⟩:=es;simp only[he]at h;obtain⟨sl,cg⟩:=hG f fn Ck;unfold kY at cg;cases vO:P.funcs[f]? with
      |none=>simp[vO]at cg
      |some pf=>
       simp only[vO,Bool.and_eq_true]at cg;obtain⟨_,cg⟩:=cg;cases rH:pf.body with
       |none=>simp[rH]at cg
       |some c=>
        simp only[rH,Bool.and_eq_true,decide_eq_true_eq,List.all_eq_true,List.mem_range,Bool.or_eq_true,beq_iff_eq]at cg;obtain⟨⟨⟨o1,o2⟩,o3⟩,o4⟩:=cg;have vH:vs.length=fn.np:=(bm.length hv).trans hlen;have p0:Rel sl pf.ntmps [] {vars:=args++List.replicate (fn.nv-fn.np) .au,fl:=none,σ} (ad σ ids I) {tmps:=vs.toArray++Array.replicate (pf.ntmps-vs.toArray.size) undef,defers:=[]} w:=by
         refine⟨hg,by simp;omega,rfl,λk t hk=>?_,λ_ _ q=>by simp at q⟩
         have qK:k<sl.length:=(List.getElem?_eq_some_iff.1 hk).1;rcases o4 k qK with KI|heq
         .have:nth (args++List.replicate (fn.nv-fn.np) .au) k = .au:=by
           rw[jV,List.getElem?_append_right (by omega),List.getElem?_replicate]
           split<;>rfl
          rw[this];unfold VR;trivial
         .by_cases hkn:k<fn.np
          .rw[heq]at hk;simp at hk;subst hk
           have Ng:k<args.length:=by omega
           obtain⟨v,k1,k2⟩:=hv.get k _ (List.getElem?_eq_getElem Ng);have e1:nth (args++List.replicate (fn.nv-fn.np) .au) k=args[k]:=by
            rw[jV,List.getElem?_append_left Ng,List.getElem?_eq_getElem Ng];rfl
           have e2:(vs.toArray++Array.replicate (pf.ntmps-vs.toArray.size) undef).getD k undef=v:=by
            rw[Array.getD_eq_getD_getElem?,Array.getElem?_append_left (by simp;omega),List.getElem?_toArray,k1];rfl
           rw[e1];show VR _ _ _ ((vs.toArray++Array.replicate (pf.ntmps-vs.toArray.size) undef).getD k undef);rw[e2];exact k2
          .have:nth (args++List.replicate (fn.nv-fn.np) .au) k = .au:=by
            rw[jV,List.getElem?_append_right (by omega),List.getElem?_replicate]
            split<;>rfl
           rw[this];unfold VR;trivial
        have hre:results fn s=some r/\s.σ=σ' /\∀j,e ≠ .exit j:=by
         cases e with
         |exit j=>simp at h
         |c5=>
          simp only[Option.map_eq_some_iff,Prod.mk.injEq]at h;obtain⟨q,h1,rfl,h2⟩:=h;exact⟨h1,h2,λj q=>by simp at q⟩
         |ret=>
          simp only[Option.map_eq_some_iff,Prod.mk.injEq]at h;obtain⟨q,h1,rfl,h2⟩:=h;exact⟨h1,h2,λj q=>by simp at q⟩
        obtain⟨hr,rfl,fm⟩:=hre;refine calls_of_wp vO rH (xE (sl:=sl) (nt:=pf.ntmps) (ds:=[]) hm ih1 KN fn.body c _ e s ids I _ w _ o1 he p0 λaV I' a' w' h' qF =>?_);have key:a'.defers=[]/\∃v,(Go.results pf a'.tmps).run P w' = .ok v w' /\∃v1 aV I', Ending.returned v = .returned v1/\Good (ad s.σ aV I') w' /\VR (ad s.σ aV I') w'.heap r v1/\Step (ad σ ids I) w (ad s.σ aV I') w' :=by
         refine⟨h'.defers,?_⟩;unfold results at hr;cases Nh:aM (gf s) fn.res with
         |none=>simp[Nh]at hr
         |some xs=>
          obtain⟨zs,g1,g2⟩:=tZ h' pf.results.toList fn.res xs o2 Nh;refine⟨if hz:zs.toArray.size=1 then zs.toArray[0]else .tuple zs.toArray,?_,_,aV, I', rfl,h'.good,?_,qF⟩
          .rw[DT,Sem.run_bind,Array.mapM_eq_mapM_toList,Sem.run_map,g1]
           rfl
          .simp only[Nh]at hr
           have hl:=bm.length g2;have many:∀l,xs=l->l.length ≠ 1->r = .bz l->VR (ad s.σ aV I') w'.heap r (if hz:zs.toArray.size=1 then zs.toArray[0]else .tuple zs.toArray):=λl e1 e2 e3=>by
            subst e1;subst e3;rw[dif_neg (by simp;omega)]
            unfold VR;exact⟨zs,rfl,g2⟩
           cases xs with
           |nil=>exact many [] rfl (by simp) (by simpa using hr.symm)
           |cons x t=>
            cases t with
            |nil=>
             simp at hr;subst hr;obtain⟨v,t,e1,e2,e3⟩:=g2;have e3:t=[]:=e3;subst e3;subst e1;simpa using e2
            |cons y t=>exact many (x::y::t) rfl (by simp) (by simpa using hr.symm)
        cases e with
        |exit j=>exact absurd rfl (fm j)
        |c5=>exact key
        |ret=>exact key
  .simp only[b9]at h
   cases hq:Q f with
   |some p=>exact(hQ f p hq).1
   |none=>
    simp only[hq]at h;cases Ck:G f with
    |none=>simp[Ck]at h
    |some fn=>
     obtain⟨sl,cg⟩:=hG f fn Ck;unfold kY at cg;cases vO:P.funcs[f]? with
     |none=>simp[vO]at cg
     |some pf=>
      simp only[vO,Bool.and_eq_true]at cg;exact cg.1
end Ab
