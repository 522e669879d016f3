/- What is known after an effect is the new list of blocks, and the old one can still be seen. A region: whatever order its operations come in, it does what its lines do in the text's order. Condition: the callees answer as the interpreter says. What holds in the midst of a region. A step of a region keeps what holds. Operations that look at owned blocks, and operations that turn them. Condition: the callees answer as the interpreter says. One operation of a region in any order. One operation of a region, whatever its class. A region does what its lines say. Condition: the callees answer as the interpreter says. An owned value is given away for good; blocks of a round are forgotten. The code of a function does what its small text says. Condition: the callees answer as the interpreter says. Functions do what the interpreter says. Condition: the check of each function. Condition: none. -/
import Derived.Test.YtdenhmniigikcaaGreatAbPhase
import Derived.Scope
set_option linter.all false
namespace Ab
open Go
def wK{σ:List al}{b u:Nat}{B:al}(h:fW σ b u=some B):aq σ b=some B/\B.cells.length=u/\B.st ≠ .dead:=by
 unfold fW at h;cases d:aq σ b with
 |none=>simp[d]at h
 |some e =>
  simp only[d]at h;cases g:e.st<;>simp only[g]at h<;>first
   |(simp at h;done)
   |(by_cases a:e.cells.length=u
     .simp[a]at h;subst h;exact⟨rfl,a,by rw[g];simp⟩
     .simp[a]at h)
def jO (C:Ctx) (σ:List al):Prop:=∃ids,(∀b u e,(af σ ids C.I).own b u=some e->C.own b u=some e)/\∀b u,C.lim b u->(af σ ids C.I).lim b u
def Seen (C:Ctx) (σ:List al):Prop:=∀b u B,C.lim b u->fW σ b u=some B->∃id,C.own b u=some (B,id)
def jO.seen{C:Ctx}{σ:List al}(h:jO C σ):Seen C σ:=λb u B _ hu=>by
 obtain⟨ids,h1,_⟩:=h;exact⟨_,h1 b u _ (sK ids C.I hu)⟩
def NW (σ:List al) (ids:Nat->Nat) (I:Nat->Prop):jO (af σ ids I) σ:=⟨ids,λ_ _ _ h=>h,λ_ _ h=>h⟩
def jO.yK{C:Ctx}{σ:List al}(h:jO C σ) (I' : Nat->Prop):jO {C with I:=I'} σ:=by
 obtain⟨ids,h1,h2⟩:=h;exact⟨ids,h1,h2⟩
def Seen.yK{C:Ctx}{σ:List al}(h:Seen C σ) (I' : Nat->Prop):Seen {C with I:=I'} σ:=h
def jO.take{C:Ctx}{σ:List al}{w:World}(h:jO C σ) (hg:Good C w):∃ids,Good (af σ ids C.I) w/\Step C w (af σ ids C.I) w:=by
 obtain⟨ids,h1,h2⟩:=h;exact⟨ids,Good.shrink hg rfl h1 h2⟩
def Ext.gI{σ:List al}{ids:Nat->Nat}{I:Nat->Prop}{p:Option cQ}{C' : Ctx}{w' : World}(hg:Good C' w') (h:Ext σ.length p (af σ ids I) C') :
  jO C' (match p with|some q=>gk σ q|none=>σ)/\Seen C' σ:=by
 cases p with
 |none=>
  obtain⟨h1,h2⟩:=h;have hs:jO C' σ:=⟨ids,λb u e he=>by rw[h1];exact he,λb u he=>by rw[h2]at he;exact he⟩
  exact⟨hs,hs.seen⟩
 |some q=>
  cases q with
  |new B=>
   obtain⟨id,h1,h2⟩:=h;have qS:B.st ≠ .dead:=(hg.lV σ.length B.cells.length B id (by rw[h1];simp[ay])).2.2.2
   refine⟨⟨λq=>if q=σ.length then id else ids q,λb u e he=>?_,λb u he=>?_⟩,λb u B' _ hu=>?_⟩
   .rw[h1];exact Bx (I:=C'.I) qS b u e he
   .rw[h2]at he;exact By (ids:=ids) (I:=C'.I) (id:=id) b u he
   .obtain⟨hb,_⟩:=wK hu
    have cm:b<σ.length:=by rw[dt]at hb;exact(List.getElem?_eq_some_iff.1 hb).1
    rw[h1];simp only[ay];rw[if_neg (by omega)]
    exact⟨_,sK ids I hu⟩
  |news l=>
   obtain⟨uG,h1,h2⟩:=h;have hblk:∀b,aq (σ++l) b=if b<σ.length then aq σ b else aq l (b-σ.length):=λb=>by
    rw[dt,dt,dt]
    by_cases hb:b<σ.length
    .rw[if_pos hb,List.getElem?_append_left hb]
    .rw[if_neg hb,List.getElem?_append_right (by omega)]
   refine⟨⟨λq=>if q<σ.length then ids q else uG (q-σ.length),λb u e he=>?_,λb u he=>?_⟩,λb u B' _ hu=>?_⟩
   .rw[h1]
    simp only[af,gk,hblk]at he ⊢
    by_cases hb:b<σ.length
    .rw[if_neg (by omega)]
     simp only[hb,if_true]at he;exact he
    .simp only[hb,if_false]at he
     have cm:b-σ.length<l.length:=by
      cases hq:aq l (b-σ.length)with
      |none=>simp[hq]at he
      |some q=>rw[dt]at hq;exact(List.getElem?_eq_some_iff.1 hq).1
     rw[if_pos (by omega)]
     exact he
   .rw[h2]at he
    simp only[af,gk,hblk]at he ⊢;rcases he with⟨k1,B1,k2,k3⟩|⟨B1,k2,k3⟩
    .exact⟨B1,by rw[if_neg (by omega)];exact k2,k3⟩
    .have cm:b<σ.length:=by rw[dt]at k2;exact(List.getElem?_eq_some_iff.1 k2).1
     exact⟨B1,by rw[if_pos cm];exact k2,k3⟩
   .obtain⟨hb,_⟩:=wK hu
    have cm:b<σ.length:=by rw[dt]at hb;exact(List.getElem?_eq_some_iff.1 hb).1
    rw[h1];simp only;rw[if_neg (by omega)]
    exact⟨_,sK ids I hu⟩
  |grow b cs=>
   obtain⟨B0,id0,id,eP,h0,h1,h2⟩:=h;obtain⟨hb,_⟩:=yx h0;have hlen:B0.cells.length<(B0.cells++cs).length:=by
    have:0<cs.length:=List.length_pos_iff.2 eP;simp;omega
   have YM:gk σ (.grow b cs)=ar σ b ⟨B0.k,B0.cells++cs,.live⟩:=by simp only[gk,sV,hb]
   simp only[YM];refine⟨⟨λq=>if q=b then id else ids q,λb1 u e he=>?_,λb1 u he=>?_⟩,λb1 u B' _ hu=>?_⟩
   .rw[h1]
    exact qd (ids:=ids) (I:=C'.I) (B' :=⟨B0.k,B0.cells++cs,.live⟩) (id' :=id) hb (by simp) b1 u e he
   .rw[h2]at he
    rcases he with⟨rfl,rfl⟩|he
    .have cm:b1<σ.length:=by rw[dt]at hb;exact(List.getElem?_eq_some_iff.1 hb).1
     exact⟨⟨B0.k,B0.cells++cs,.live⟩,by rw[yw cm];simp,Nat.le_refl _⟩
    .exact qf (ids:=ids) (I:=C'.I) hb (by show _<=(B0.cells++cs).length;omega) b1 u he
   .obtain⟨k1,k2,_⟩:=wK hu
    rw[h1];simp only[ay];rw[if_neg (by
     rintro⟨rfl,rfl⟩;rw[hb]at k1;simp at k1;subst k1;omega)]
    exact⟨_,sK ids I hu⟩
end Ab
namespace Ab
open Go
variable{P:Program}
def NX{ce:CE}{vars:List AV}:∀{ls:List Ln}{s s' : LS},lines ce vars ls s=some s' ->
  ∃st:Nat->LS,st 0=s/\st ls.length=s' /\∀i l,ls[i]? = some l->dm ce vars (st i) l=some (st (i+1))
 | [],s,s', h=>by
  simp[lines]at h;subst h;exact⟨λ_=>s,rfl,rfl,λi l h=>by simp at h⟩
 |l::ls,s,s', h=>by
  simp only[lines]at h;cases a:dm ce vars s l with
  |none=>simp[a]at h
  |some j=>
   simp only[a]at h;obtain⟨st,e0,e,b⟩:=NX h;refine⟨λi=>match i with|0=>s|i+1=>st i,rfl,by simpa using e,λi g d=>?_⟩
   cases i with
   |zero=>simp at d;subst d;simp only[a,e0]
   |succ i=>exact b i g (by simpa using d)
def Z4{ce:CE}{vars:List AV}{s s' : LS}{l:Ln}(h:dm ce vars s l=some s'):∃v,s'.env=v::s.env:=by
 unfold dm at h;split at h
 .simp at h
 .simp at h;subst h;exact⟨_,rfl⟩
 .split at h
  .split at h
   .simp at h;subst h;exact⟨_,rfl⟩
   .simp at h
  .split at h
   .simp at h;subst h;exact⟨_,rfl⟩
   .simp at h;subst h;exact⟨_,rfl⟩
   .simp at h
def valOf (st:Nat->LS) (i:Nat):AV:=nth (st (i+1)).env 0
def NY{st:Nat->LS}{n:Nat}(a:(st 0).env=[]) (h:∀i,i<n->∃v,(st (i+1)).env=v::(st i).env):∀i,i<=n->∀d,d<i->nth (st i).env d=valOf st (i-1-d)
 |0,_,d,hd=>absurd hd (Nat.not_lt_zero d)
 |i+1,e,d,hd=>by
  obtain⟨v,b⟩:=h i (by omega)
  cases d with
  |zero=>simp[valOf]
  |succ d=>
   rw[b];simp only[nth];rw[NY a h i (by omega) d (by omega)]
   congr 1
   omega
def NZ{ce:CE}{σ:List al}{nl:Nat}{ps:List cQ}{r:Rf->AV}{op:dh}{x:AV}{p:Option cQ}(h:op.lY=false) (a:ev ce σ nl ps r op=some (x,p)):p=none:=by
 cases op<;>first
  |(simp[dh.lY]at h;done)
  |(simp only[ev]at a;simp at a;exact a.2.symm)
  |(simp only[ev]at a;(repeat' split at a)<;>first|(simp at a;done)|(simp at a;exact a.2.symm)|(simp at a;obtain⟨_,_,_,e⟩:=a;exact e.symm)|(simp at a;obtain⟨_,_,e⟩:=a;exact e.symm))
def mh (draw:Bool) (a:List Nat) (i j:Nat):Bool:=if draw then((a[j]?).getD 0).testBit i else decide (i<j)
def yL (a:List Nat) (o:Oper):Nat:=o.after.toList.foldl (λs e=>if Region.binds .any e then s ||| 2^e.on ||| (a[e.on]?).getD 0 else s) 0
def N0 (ops:List Oper):List Nat:=ops.foldl (λacc o=>acc ++ [yL acc o]) []
def cZ (ops:List Oper) (i:Nat):Option Nat:=(ops[i]?).bind (·.dst)
def mi (ls:List Ln) (i:Nat):Option Nat:=
 match ls[i]? with
 |some l=>match l.op with
  |.jX (.t d) _ _=>some (i-1-d)
  |_=>none
 |none=>none
def jF (ops:List Oper) (ls:List Ln) (i:Nat):Option Nat:=
 match mi ls i with
 |some j=>cZ ops j
 |none=>cZ ops i
def aV (ls:List Ln) (i:Nat):Bool:=
 match ls[i]? with
 |some l=>l.op.lY||l.op.lf
 |none=>false
def FW (ls:List Ln) (i:Nat):Bool:=
 match ls[i]? with
 |some l=>l.op.lY&&l.g.isNone
 |none=>false
def eG (ls:List Ln) (i:Nat):Option Nat:=
 match ls[i]? with
 |some l=>match l.op with
  |.gw m=>some m
  |_=>none
 |none=>none
def qY (draw:Bool) (a:List Nat) (ops:List Oper) (ls:List Ln) (sl:List Nat) (i:Nat):Operand->Rf->Bool
 |.tmp s,.t d=>decide (d<i)&&jF ops ls (i-1-d)==some s&&mh draw a (i-1-d) i
 |.tmp s,.v k=>sl[k]? == some s&&(List.range ops.length).all λj=>!(cZ ops j==some s)||mh draw a i j
 |.const v,.c x=>kM v x
 |.func f,.c (.func g [])=>f==g
 |_,_=>false
def rP (draw:Bool) (a:List Nat) (ops:List Oper) (ls:List Ln) (i:Nat) (o:Oper) (l:Ln):Bool:=
 match o.guard,l.g with
 |none,none=>true
 |some (j,b),some (.t d,e)=>b==e && decide (d<i)&&j==i-1-d&&(mi ls j).isNone&&(cZ ops j).isSome&&mh draw a j i
 |_,_=>false
def vE (ops:List Oper) (nt i:Nat) (o:Oper):Bool:=
 match o.dst with
 |none=>true
 |some s=>decide (s<nt)&&(List.range i).all λj=>!(cZ ops j==some s)
def pd (ls:List Ln) (draw:Bool) (a:List Nat) (i:Nat) (o:Oper) (l:Ln):Bool:=
 match l.op with
 |.gw _=>l.g.isNone&&o.dst.isSome
 |.jX (.t d) _ m=>l.g.isNone&&o.dst.isNone&&decide (d<i)&&eG ls (i-1-d)==some m&&mh draw a (i-1-d) i&&(List.range i).all λj=>!(mi ls j==some (i-1-d))
 |.jX ..=>false
 |_=>true
def iP (ls:List Ln) (i:Nat):Bool:=
 match ls[i]? with
 |some l=>l.g.isNone&&(match l.op with
  |.jc .. | .can .. | .lW .. | .yr | .lz ..=>true
  |_=>false)
 |none=>false
def loose (ls:List Ln) (draw:Bool) (a:List Nat) (j i:Nat):Bool:=aV ls j&&aV ls i&&decide (j<i) && !mh draw a j i
def pe (ls:List Ln) (draw:Bool) (a:List Nat) (j:Nat):Bool:=(List.range ls.length).any λi=>loose ls draw a j i
def ph (ls:List Ln) (draw:Bool) (a:List Nat) (i:Nat):Bool:=(List.range ls.length).any λj=>loose ls draw a j i
def nq (ls:List Ln) (draw:Bool) (a:List Nat) (k:Nat):Bool:=((List.range (k+1)).any λj=>pe ls draw a j)&&((List.range ls.length).any λi=>decide (k<=i)&&ph ls draw a i)
def sW (ls:List Ln) (draw:Bool) (a:List Nat) (i:Nat) (l:Ln):Bool:=
 if l.op.lY||l.op.lf then !l.prev&&(!nq ls draw a i||iP ls i)else true
def iD (ls:List Ln) (j v:Nat):Bool:=(List.range v).all λk=>!(decide (j<=k)) || !aV ls k||iP ls k
def yM (ls:List Ln) (draw:Bool) (a:List Nat):Bool:=(List.range ls.length).all λk=>!nq ls draw a k
def mj (ls:List Ln) (i:Nat) (l:Ln):Nat:=if l.prev then((List.range i).reverse.find? (aV ls)).getD 0 else i
def yN (ls:List Ln) (a b:Nat):Bool:=(List.range b).all λk=>!(decide (a<=k)) || !aV ls k
def uH (ls:List Ln) (draw:Bool) (a:List Nat) (i:Nat) (l:Ln):Bool:=
 if l.op.lY||l.op.lf||l.op.kp then true else
  (if l.prev then decide (mj ls i l<i)&&FW ls (mj ls i l)&&yN ls (mj ls i l+1) i else true) &&
  (List.range ls.length).all λj=>!aV ls j||(if j<mj ls i l then mh draw a j i||(iD ls j (mj ls i l)&&yM ls draw a)else mh draw a i j||(j != i&&FW ls j&&iD ls (mj ls i l) j))
def BH (draw:Bool) (a:List Nat) (i:Nat) (o:Oper):Bool:=
 if draw then a[i]? == some (yL a o)&&o.after.toList.all λe=>!Region.binds .any e||decide (e.on<i)else true
def uI (P:Program) (draw:Bool) (a:List Nat) (ops:List Oper) (ls:List Ln) (sl:List Nat) (nt i:Nat):Bool:=
 match ops[i]?,ls[i]? with
 |some o,some l=>ma P (qY draw a ops ls sl i) o.op l.op&&rP draw a ops ls i o l&&vE ops nt i o&&pd ls draw a i o l&&sW ls draw a i l&&uH ls draw a i l&&BH draw a i o
 |_,_=>false
def N1 (b:List Nat) (i:Nat):∀(es:List Edge) (s:Nat),(es.foldl (λs e=>if Region.binds .any e then s ||| 2^e.on ||| (b[e.on]?).getD 0 else s) s).testBit i=true->
  s.testBit i=true\/∃e∈es,Region.binds .any e=true/\(e.on=i\/((b[e.on]?).getD 0).testBit i=true)
 | [],s,h=>.inl h
 |e::es,s,h=>by
  simp only[List.foldl_cons]at h;rcases N1 b i es _ h with h|⟨d, g,j⟩
  .by_cases a:Region.binds .any e=true
   .rw[if_pos a]at h
    simp only[Nat.testBit_or,Bool.or_eq_true,Nat.testBit_two_pow,decide_eq_true_eq]at h;rcases h with(h|h)|h
    .exact .inl h
    .exact .inr ⟨e,by simp,a,.inl h⟩
    .exact .inr ⟨e,by simp,a,.inr h⟩
   .rw[if_neg a]at h
    exact .inl h
  .exact .inr ⟨d, by simp[g],j⟩
structure RC (P:Program) where
 draw:Bool
 bf:List Nat
 ops:List Oper
 ls:List Ln
 sl:List Nat
 nt:Nat
 ce:CE
 vars:List AV
 Mq:List al
 st:Nat->LS
 len:ops.length=ls.length
 ok:∀i,i<ls.length->uI P draw bf ops ls sl nt i=true
 st0:st 0=⟨[],Mq,Mq⟩
 run:∀i l,ls[i]? = some l->dm ce vars (st i) l=some (st (i+1))
 qT:cw P ce
 xW:dZ P ce
structure sX (X:RC P) (i:Nat) (o:Oper) (l:Ln):Prop where
 op:ma P (qY X.draw X.bf X.ops X.ls X.sl i) o.op l.op=true
 g:rP X.draw X.bf X.ops X.ls i o l=true
 dst:vE X.ops X.nt i o=true
 jX:pd X.ls X.draw X.bf i o l=true
 Z5:sW X.ls X.draw X.bf i l=true
 read:uH X.ls X.draw X.bf i l=true
 bf:BH X.draw X.bf i o=true
namespace RC
variable (X:RC P)
theorem at_{i:Nat}(h:i<X.ls.length):∃o l,X.ops[i]? = some o/\X.ls[i]? = some l/\sX X i o l:=by
 have:=X.ok i h;unfold uI at this;split at this
 .rename_i o l a b
  simp only[Bool.and_eq_true]at this;obtain⟨⟨⟨⟨⟨⟨d,e⟩,g⟩,j⟩,m⟩,n⟩,p⟩:=this;exact⟨o,l,a,b,d,e,g,j,m,n,p⟩
 .simp at this
theorem Z6{i:Nat}(h:i<X.ls.length):∃v,(X.st (i+1)).env=v::(X.st i).env:=by
 obtain⟨o,l,_,a,_⟩:=X.at_ h;exact Z4 (X.run i l a)
theorem vF{i:Nat}(h:i<=X.ls.length){d:Nat}(hd:d<i):nth (X.st i).env d=valOf X.st (i-1-d):=
 NY (by rw[X.st0]) (λi a=>X.Z6 a) i h d hd
theorem still{i:Nat}{l:Ln}(d:X.ls[i]? = some l) (h:aV X.ls i=false):(X.st (i+1)).σ=(X.st i).σ/\(X.st (i+1)).aL=(X.st i).aL:=by
 have a:=X.run i l d;have b : l.op.lY=false/\l.op.lf=false:=by simpa[aV,d]using h
 unfold dm at a;split at a
 .simp at a
 .simp at a;rw[<-a];exact⟨rfl,rfl⟩
 .rw[if_neg (by rw[b.2];simp)]at a
  split at a
  .simp only[b.1,Bool.false_eq_true,if_false,Option.some.injEq]at a;rw[<-a];exact⟨rfl,rfl⟩
  .rename_i e
   have:=NZ b.1 e;simp at this
  .simp at a
theorem same{p:Nat}:∀(k:Nat),p+k<=X.ls.length->(∀j,p<=j->j<p+k->aV X.ls j=false)->(X.st (p+k)).σ=(X.st p).σ/\(X.st (p+k)).aL=(X.st p).aL
 |0,_,_=>⟨rfl,rfl⟩
 |k+1,h,d=>by
  obtain⟨_,l,_,e,_⟩:=X.at_ (show p+k<X.ls.length by omega)
  obtain⟨g,i⟩:=X.still e (d (p+k) (by omega) (by omega))
  obtain⟨m,n⟩:=same k (by omega) λj a b=>d j a (by omega)
  exact⟨g.trans m,i.trans n⟩
theorem pj{p q:Nat}(h:p<=q) (e:q<=X.ls.length) (d:∀j,p<=j->j<q->aV X.ls j=false):(X.st q).σ=(X.st p).σ/\(X.st q).aL=(X.st p).aL:=by
 have:=X.same (p:=p) (q-p) (by omega) (λj a b=>d j a (by omega))
 rwa [show p+(q-p)=q by omega]at this
end RC
end Ab
namespace Ab
open Go
variable{P:Program}
structure iQ (X:RC P) (D:Nat->Prop) (C:Ctx) (f:Nat):Prop where
 Z7:f<=X.ls.length
 lo:∀e,e<f->aV X.ls e=true->D e
 hi:∀e,f<=e->aV X.ls e=true->¬D e
 gI:jO C (X.st f).σ
 last:0<f->aV X.ls (f-1)=true/\(FW X.ls (f-1)=true->Seen C (X.st (f-1)).σ)
def alive (X:RC P) (D:Nat->Prop) (a:Nat) (b:Nat):Prop:=b<(X.st a).σ.length\/∃i,aV X.ls i=true/\nq X.ls X.draw X.bf i=true/\D i/\(X.st i).σ.length<=b/\b<(X.st (i+1)).σ.length
structure pn (X:RC P) (D:Nat->Prop) (C:Ctx) (lo hi:Nat):Prop where
 pw:∀k,nq X.ls X.draw X.bf k=true↔lo<=k/\k<=hi
 Mr:aV X.ls hi=true
 le:lo<=hi
 before:∀e,e<lo->aV X.ls e=true->D e
 behind:∀e,hi<e->aV X.ls e=true->¬D e
 gI:∃ids,(∀b u e,alive X D lo b->(af (X.st (hi+1)).σ ids C.I).own b u=some e->C.own b u=some e)/\∀b u,C.lim b u->alive X D lo b/\(af (X.st (hi+1)).σ ids C.I).lim b u
def ml (X:RC P) (D:Nat->Prop) (C:Ctx) (f:Nat):Prop:=iQ X D C f\/∃a b,pn X D C a b/\∃k,aV X.ls k=true/\nq X.ls X.draw X.bf k=true/\D k
structure Inv (X:RC P) (C0:Ctx) (w0:World) (ds:List Deferred) (D:Nat->Prop) (C:Ctx) (f:Nat) (a:Act) (w:World):Prop where
 good:Good C w
 step:Step C0 w0 C w
 size:a.tmps.size=X.nt
 defers:a.defers=ds
 below:∀j,D j->j<X.ls.length
 closed:∀i j,D j->mh X.draw X.bf i j=true->D i
 tv:∀j s,D j->jF X.ops X.ls j=some s->VR C w.heap (valOf X.st j) (a.tmps.getD s undef)
 vv:∀k s,X.sl[k]? = some s->(∀j,D j->cZ X.ops j ≠ some s)->VR C w.heap (nth X.vars k) (a.tmps.getD s undef)
 lb:∀j m,D j->eG X.ls j=some m->(∀i,D i->mi X.ls i ≠ some j)->∃s id c el,cZ X.ops j=some s/\a.tmps.getD s undef = .pointer (some ⟨id,0,none⟩)/\w0.heap.size<=id/\¬C.I id/\¬owned C id/\
  w.heap[id]? = some (.cells c el (0,0))/\c.size=m
 Z8:∀j j' m m' s s' id,D j->D j' ->eG X.ls j=some m->eG X.ls j' = some m' ->(∀i,D i->mi X.ls i ≠ some j)->(∀i,D i->mi X.ls i ≠ some j')->cZ X.ops j=some s->cZ X.ops j' = some s' ->j ≠ j' ->
  a.tmps.getD s undef = .pointer (some ⟨id,0,none⟩)->a.tmps.getD s' undef ≠ .pointer (some ⟨id,0,none⟩)
 fr:ml X D C f
section
variable{X:RC P}{C0:Ctx}{w0:World}{ds:List Deferred}{D:Nat->Prop}{C:Ctx}{f:Nat}{a:Act}{w:World}
def Inv.ref (h:Inv X C0 w0 ds D C f a w){i:Nat}(hi:i<X.ls.length) (hD:¬D i) (hb:∀j,mh X.draw X.bf j i=true->D j){x:Operand}{y:Rf}(hr:qY X.draw X.bf X.ops X.ls X.sl i x y=true) :
  VR C w.heap (rv X.vars (X.st i).env y) (a.eval x):=by
 unfold qY at hr;split at hr
 .simp only[Bool.and_eq_true,decide_eq_true_eq,beq_iff_eq]at hr
  obtain⟨⟨h1,h2⟩,h3⟩:=hr;show VR C w.heap (nth (X.st i).env _) (a.tmps.getD _ undef);rw[X.vF (by omega) h1]
  exact h.tv _ _ (hb _ h3) h2
 .rename_i s k
  simp only[Bool.and_eq_true,beq_iff_eq,List.all_eq_true,List.mem_range,Bool.or_eq_true,Bool.not_eq_true', beq_eq_false_iff_ne]at hr;refine h.vv k s hr.1 λj hj hd=>?_;rcases hr.2 j (by rw[X.len];exact h.below j hj)with h1|h1
  .exact h1 hd
  .exact hD (h.closed _ _ hj h1)
 .exact FH hr
 .simp only[beq_iff_eq]at hr
  subst hr;show VR C w.heap (.func _ []) (.func (.func _) #[] #[]);unfold VR;exact⟨[],rfl,rfl⟩
 .simp at hr
def Inv.wanted (h:Inv X C0 w0 ds D C f a w){i:Nat}(hi:i<X.ls.length) (hb:∀j,mh X.draw X.bf j i=true->D j){o:Oper}{l:Ln}(hF:sX X i o l){b:Bool}(hw:want X.vars (X.st i).env l.g=some b) :
  Region.wanted o (yielded X.ops.toArray a.tmps)=b:=by
 have hg:=hF.g;unfold rP at hg;split at hg
 .rename_i h1 h2
  rw[h2]at hw;simp[want]at hw;subst hw;unfold Region.wanted;rw[h1]
 .rename_i j b1 d b2 h1 h2
  simp only[Bool.and_eq_true,beq_iff_eq,decide_eq_true_eq,Option.isNone_iff_eq_none]at hg;obtain⟨⟨⟨⟨⟨rfl,hd⟩,rfl⟩,ht⟩,Ev⟩,BI⟩:=hg;rw[h2]at hw;simp only[want,rv,X.vF (Nat.le_of_lt hi) hd]at hw;unfold Region.wanted;rw[h1];simp only;have hDj:=hb _ BI;have kV:∀s,cZ X.ops (i-1-d)=some s->VR C w.heap (valOf X.st (i-1-d)) (a.tmps.getD s undef):=λs hs=>h.tv _ s hDj (by simp only[jF,ht];exact hs)
  have hy:yielded X.ops.toArray a.tmps (i-1-d)=match(cZ X.ops (i-1-d)).bind (a.tmps[·]?)with
    |some (.bool b)=>some b
    |_=>none:=by
   unfold yielded cZ;simp only[List.getElem?_toArray]
   rfl
  rw[hy];cases N2:cZ X.ops (i-1-d)with
  |none=>rw[N2]at Ev;simp at Ev
  |some s=>
   have hv:=kV s N2;simp only[Option.bind_some];cases hq:valOf X.st (i-1-d)<;>simp only[hq]at hw<;>try(simp at hw;done)
   .rw[hq]at hv
    have hv:a.tmps.getD s undef = .bool _:=hv;simp at hw;subst hw;have:a.tmps[s]? = some (.bool ‹Bool›):=by
     rw[Array.getD_eq_getD_getElem?]at hv;cases om : a.tmps[s]? with
     |none=>rw[om]at hv;simp[undef]at hv
     |some v=>rw[om]at hv;simp at hv;rw[hv]
    rw[this];simp
   .rename_i tl
    cases tl with
    |cons _ _=>simp at hw
    |nil=>
     simp at hw;subst hw;rw[hq]at hv;unfold VR at hv;obtain⟨vs,e1,e2⟩:=hv;have e2:vs=[]:=e2;subst e2;rw[Array.getD_eq_getD_getElem?]at e1;cases om : a.tmps[s]? with
     |none=>rfl
     |some v=>rw[om]at e1;simp at e1;rw[e1];rfl
 .simp at hg
end
end Ab
namespace Ab
open Go
variable{P:Program}
def Z9{a:Act}{dst:Option Tmp}{v:Value}{nt:Nat}(b:a.tmps.size=nt) (g:∀s,dst=some s->s<nt) (s:Nat):(a.put dst v).tmps.getD s undef=if dst=some s then v else a.tmps.getD s undef:=by
 cases dst with
 |none=>simp[Act.put]
 |some d=>
  have hd:=g d rfl;simp only[Act.put,Array.getD_eq_getD_getElem?,Array.getElem?_setIfInBounds]
  by_cases e:d=s
  .subst e
   simp[b,hd]
  .simp[e]
def aaa (a:Act) (dst:Option Tmp) (v:Value):(a.put dst v).tmps.size=a.tmps.size:=by cases dst<;>simp[Act.put]
def aab (a:Act) (dst:Option Tmp) (v:Value):(a.put dst v).defers=a.defers:=by cases dst<;>rfl
namespace RC
variable (X:RC P)
variable{s:Nat}
theorem yO{i:Nat}(h:cZ X.ops i=some s):i<X.ls.length:=by
 unfold cZ at h;cases a:X.ops[i]? with
 |none=>simp[a]at h
 |some o=>rw[<-X.len];exact(List.getElem?_eq_some_iff.1 a).1
theorem FX{i:Nat}(h:cZ X.ops i=some s):s<X.nt:=by
 obtain⟨o,l,a,d,b⟩:=X.at_ (X.yO h);have:=b.dst;simp only[cZ,a,Option.bind_some]at h;simp only[vE,h,Bool.and_eq_true,decide_eq_true_eq]at this;exact this.1
variable{j:Nat}
theorem yP{i:Nat}(h:cZ X.ops i=some s) (k:cZ X.ops j=some s) (a:j<i):False:=by
 obtain⟨o,l,b,e,d⟩:=X.at_ (X.yO h);have:=d.dst;simp only[cZ,b,Option.bind_some]at h;simp only[vE,h,Bool.and_eq_true,List.all_eq_true,List.mem_range]at this;have:=this.2 j a;simp[k]at this
theorem rQ{i:Nat}(h:cZ X.ops i=some s) (k:cZ X.ops j=some s):i=j:=by
 rcases Nat.lt_trichotomy i j with a|b|a
 .exact(X.yP k h a).elim
 .exact b
 .exact(X.yP h k a).elim
variable{t:Nat}
theorem fO{i:Nat}(h:mi X.ls i=some t):i<X.ls.length/\∃o l d x m,X.ops[i]? = some o/\X.ls[i]? = some l/\sX X i o l/\l.op = .jX (.t d) x m/\l.g=none/\o.dst=none/\d<i/\t=i-1-d/\eG X.ls t=some m/\
  mh X.draw X.bf t i=true/\∀j,j<i->mi X.ls j ≠ some t:=by
 unfold mi at h;cases e:X.ls[i]? with
 |none=>simp[e]at h
 |some l=>
  have n:=(List.getElem?_eq_some_iff.1 e).1;obtain⟨o,A, q,a, p⟩:=X.at_ n;rw[e]at a; simp at a; subst a;simp only[e]at h;split at h
  .rename_i d x m b
   have:=p.jX;simp only[pd,b,Bool.and_eq_true,Option.isNone_iff_eq_none,decide_eq_true_eq,beq_iff_eq,List.all_eq_true,List.mem_range,Bool.not_eq_true', beq_eq_false_iff_ne]at this;obtain⟨⟨⟨⟨⟨r,s⟩,u⟩,w⟩,y⟩,z⟩:=this;simp at h;subst h;exact⟨n,o,l,d,x,m,q,rfl,p,b,r,s,u,rfl,w,y,z⟩
  .simp at h
theorem vG{i:Nat}(h:mi X.ls i=some t) (k:mi X.ls j=some t):i=j:=by
 obtain⟨_,_,_,_,_,_,_,_,_,_,_,_,_,_,_,_,b⟩:=X.fO h;obtain⟨_,_,_,_,_,_,_,_,_,_,_,_,_,_,_,_,d⟩:=X.fO k;rcases Nat.lt_trichotomy i j with a|e|a
 .exact absurd h (d i a)
 .exact e
 .exact absurd k (b j a)
end RC
section
variable{X:RC P}{C0:Ctx}{w0:World}{ds:List Deferred}{D:Nat->Prop}{C:Ctx}{f:Nat}{a:Act}{w:World}
def ml.sY{i:Nat}(h:ml X D C f) (he:aV X.ls i=false) (I' : Nat->Prop):ml X (λj=>D j\/j=i) {C with I:=I'} f:=by
 rcases h with h|⟨j,i2,h,k0,y1,y2,y3⟩
 .refine .inl ⟨h.Z7,λe h1 h2=>.inl (h.lo e h1 h2),λe h1 h2 h3=>?_,h.gI.yK I', λhf=>⟨(h.last hf).1,λhe=>((h.last hf).2 he).yK I'⟩⟩
  rcases h3 with h3|rfl
  .exact h.hi e h1 h2 h3
  .rw[he]at h2;simp at h2
 .obtain⟨ids,e1,e2⟩:=h.gI
  have lJ:∀b,alive X (λk=>D k\/k=i) j b↔alive X D j b:=λb=>by
   constructor
   .rintro(h1|⟨k,k1,k2,k3,k4⟩)
    .exact .inl h1
    .rcases k3 with k3|rfl
     .exact .inr ⟨k,k1,k2,k3,k4⟩
     .rw[he]at k1;simp at k1
   .rintro(h1|⟨k,k1,k2,k3,k4⟩)
    .exact .inl h1
    .exact .inr ⟨k,k1,k2,.inl k3,k4⟩
  refine .inr ⟨j,i2,⟨h.pw,h.Mr,h.le,λe h1 h2=>.inl (h.before e h1 h2),λe h1 h2 h3=>?_,ids,λb u e ha ho=>e1 b u e ((lJ b).1 ha) ho,λb u hl=>⟨(lJ b).2 (e2 b u hl).1,(e2 b u hl).2⟩⟩,k0,y1,y2,.inl y3⟩;rcases h3 with h3|rfl
  .exact h.behind e h1 h2 h3
  .rw[he]at h2;simp at h2
def Inv.after (h:Inv X C0 w0 ds D C f a w){i:Nat}(hi:i<X.ls.length) (hD:¬D i) (hb:∀j,mh X.draw X.bf j i=true->D j){o:Oper}(ho:X.ops[i]? = some o){C' : Ctx}{w' : World}{v:Value}{f' : Nat}
  (AQ : Good C' w') (gG:Step C w C' w') (aac:mi X.ls i=none) (hv:VR C' w'.heap (valOf X.st i) v)
  (lJ:∀m,eG X.ls i=some m->(∃s,o.dst=some s)/\∃id c el,v = .pointer (some ⟨id,0,none⟩)/\w.heap.size<=id/\¬C'.I id/\¬owned C' id/\w'.heap[id]? = some (.cells c el (0,0))/\c.size=m)
  (FC:ml X (λj=>D j\/j=i) C' f'):Inv X C0 w0 ds (λj=>D j\/j=i) C' f' (a.put o.dst v) w' :=by
 have AR:cZ X.ops i=o.dst:=by simp[cZ,ho]
 have lK:=Z9 (v:=v) h.size (dst:=o.dst) λs hs=>X.FX (i:=i) (by rw[AR];exact hs)
 have N3:∀j s,D j->cZ X.ops j=some s->(a.put o.dst v).tmps.getD s undef=a.tmps.getD s undef:=λj s hj hs=>by
  rw[lK,if_neg];intro e;have:=X.rQ hs (AR.trans e);exact hD (this▸hj)
 have old:∀j m,D j->eG X.ls j=some m->(∀i', (D i' \/i' = i)->mi X.ls i' ≠ some j)->∃s id c el,cZ X.ops j=some s/\a.tmps.getD s undef = .pointer (some ⟨id,0,none⟩)/\(a.put o.dst v).tmps.getD s undef = .pointer (some ⟨id,0,none⟩)/\
   w0.heap.size<=id/\¬C'.I id/\¬owned C' id/\w'.heap[id]? = some (.cells c el (0,0))/\c.size=m/\id<w.heap.size:=λj m hj hm hn=>by
  obtain⟨s,id,c,el,k1,k2,k3,k4,k5,k6,k7⟩:=h.lb j m hj hm λi' jt =>hn i' (.inl jt);have cm:=(Array.getElem?_eq_some_iff.1 k6).1;refine⟨s,id,c,el,k1,k2,by rw[N3 j s hj k1];exact k2,k3,λhI=>?_,λhO=>?_,by rw[gG.frame id cm k5];exact k6,k7,cm⟩
  .rcases gG.gL id hI with q|q|q
   .exact k4 q
   .exact k5 q
   .omega
  .rcases gG.gn id hO with q|q
   .exact k5 q
   .omega
 refine⟨AQ, h.step.trans gG,by rw[aaa];exact h.size,by rw[aab];exact h.defers,λj hj=>hj.elim (h.below j) (λe=>e▸hi),λi' j hj BI=>?_,λj s hj hs=>?_,λk s hk hn=>?_,λj m hj hm hn=>?_,?_,FC⟩
 .rcases hj with hj|rfl
  .exact .inl (h.closed _ _ hj BI)
  .exact .inl (hb _ BI)
 .rcases hj with hj|rfl
  .have eP:o.dst ≠ some s:=λe=>by
    unfold jF at hs;cases ht:mi X.ls j with
    |none=>
     simp only[ht]at hs;exact hD (X.rQ hs (AR.trans e)▸hj)
    |some t=>
     simp only[ht]at hs;obtain⟨_,_,_,_,_,_,_,_,_,_,_,_,_,_,_,N4,_⟩:=X.fO ht;exact hD (X.rQ hs (AR.trans e)▸h.closed _ _ hj N4)
   rw[lK,if_neg eP];exact VR.mono gG.ev _ _ (h.tv j s hj hs)
  .simp only[jF,aac,AR]at hs
   rw[lK,if_pos hs];exact hv
 .have eP:o.dst ≠ some s:=λe=>hn i (.inr rfl) (AR.trans e)
  rw[lK,if_neg eP];exact VR.mono gG.ev _ _ (h.vv k s hk λj hj=>hn j (.inl hj))
 .rcases hj with hj|rfl
  .obtain⟨s,id,c,el,k1,_,k2,k3,k4,k5,k6,k7,_⟩:=old j m hj hm hn
   exact⟨s,id,c,el,k1,k2,k3,k4,k5,k6,k7⟩
  .obtain⟨⟨s,hs⟩,id,c,el,k1,k2,k3,k4,k5,k6⟩:=lJ m hm
   exact⟨s,id,c,el,AR.trans hs,by rw[lK,if_pos hs];exact k1,Nat.le_trans h.step.size k2,k3,k4,k5,k6⟩
 .intro j j' m m' s s' id hj tW hm tZ hn l9 hs j8 eP e1 e2
  rcases hj with hj|rfl<;>rcases tW with tW | rfl
  .rw[N3 j s hj hs]at e1
   rw[N3 j' s' tW j8]at e2;exact h.Z8 j j' m m' s s' id hj tW hm tZ (λi' jt =>hn i' (.inl jt)) (λi' jt =>l9 i' (.inl jt)) hs j8 eP e1 e2
  .obtain⟨s1,id1,c,el,k1,_,k2,_,_,_,_,_,k3⟩:=old j m hj hm hn
   rw[k1]at hs;simp at hs;subst hs;obtain⟨_,AN,c2,Ms,q1,q2,_⟩:=lJ m' tZ;rw[lK,if_pos (AR.symm.trans j8),q1]at e2;rw[k2]at e1;simp at e1 e2;omega
  .obtain⟨s1,id1,c,el,k1,_,k2,_,_,_,_,_,k3⟩:=old j' m' tW tZ l9
   rw[k1]at j8; simp at j8; subst j8;obtain⟨_,AN,c2,Ms,q1,q2,_⟩:=lJ m hm;rw[lK,if_pos (AR.symm.trans hs),q1]at e1;rw[k2]at e2;simp at e1 e2;omega
  .exact eP rfl
def Inv.fill (h:Inv X C0 w0 ds D C f a w){i t d m:Nat}{x:Rf}(hi:i<X.ls.length) (hD:¬D i) (hb:∀j,mh X.draw X.bf j i=true->D j){l:Ln}(hl:X.ls[i]? = some l) (fF:l.op = .jX (.t d) x m) (ht:mi X.ls i=some t)
  {xv:AV} {y:Value} (kV:valOf X.st i = .a8 xv) (hn:aR xv=true) (hxy:VR C w.heap xv y) {s id:Nat} {c:Array Value} {el:TypeId} (hs:cZ X.ops t=some s) (hp:a.tmps.getD s undef = .pointer (some ⟨id,0,none⟩))
  (hid:w0.heap.size<=id) (hI:¬C.I id) (hO:¬owned C id) (hH:w.heap[id]? = some (.cells c el (0,0))) {c' : Array Value} (Mc:c'.size=c.size) (hc:∀j,j<y.cells.size->c'[j]? = y.cells[j]?) :
  Inv X C0 w0 ds (λj=>D j\/j=i) {C with I:=λk=>C.I k\/k=id} f a (w.setRow id c'):=by
 obtain⟨_,o,l', d', x', m', ho,jL, hF,wM, hg,FY,hd,Mt,lJ,N4,N5⟩:=X.fO ht;have hDt:=hb _ N4;have AR:cZ X.ops i=none:=by simp[cZ,ho,FY]
 have wq : (w.setRow id c').heap[id]? = some (.cells c' el (0,0)):=setRow_heap w id c c' el (0,0) hH;have cm:=(Array.getElem?_eq_some_iff.1 hH).1;have ev:fZ C w.heap {C with I:=λk=>C.I k\/k=id} (w.setRow id c').heap:=by
  refine⟨λk hk=>.inl hk,λk hk=>ki w id c' λe=>hI (e▸hk),λ_ _ h=>h,λb u B' AN _ da=>⟨B', da,rfl,rfl,λc2 Ms wN=>?_⟩⟩
  by_cases e:AN=id
  .subst e
   rw[hH]at wN;simp at wN;obtain⟨rfl,rfl⟩:=wN;exact⟨c', wq, Mc⟩
  .exact⟨c2,by rw[ki w id c' e];exact wN,rfl⟩
 have N6:Good {C with I:=λk=>C.I k\/k=id} (w.setRow id c'):=by
  refine⟨λk hk=>by rw[od];exact hk.elim (h.good.I k) (λe=>e▸cm),h.good.lV,λb u B i' da yQ=>?_,h.good.apart,λb u B i' es da yQ=>?_⟩
  obtain⟨k1,c2,Ms,k2,k3,k4⟩:=h.good.live b u B i' da yQ;have eP:i' ≠ id:=λe=>hO ⟨b,u,B,e▸da,l7 yQ⟩;refine⟨λhk=>hk.elim k1 eP,c2,Ms,by rw[ki w id c' eP];exact k2,k3,λi2 x2 ub=>?_⟩
  obtain⟨y2,j1,j2,j3⟩:=k4 i2 x2 ub;exact⟨y2,j1,VR.mono ev _ _ j2,j3⟩;have eP:i' ≠ id:=λe=>hO ⟨b,u,B,e▸da,l0 yQ⟩;exact h.good.df (C' :={C with I:=λk=>C.I k\/k=id}) ev da yQ (ki w id c' eP) (λhk=>hk.elim (h.good.maps b u B i' es da yQ).1 eP)
 have N7:Step C0 w0 {C with I:=λk=>C.I k\/k=id} (w.setRow id c'):=by
  refine⟨h.step.ev.trans ev,by rw[od];exact h.step.size,λk hk yD=>by rw[ki w id c' (by omega)];exact h.step.frame k hk yD,λk hk=>h.step.gn k hk,λk hk=>?_,h.step.os,h.step.tape,h.step.output⟩
  rcases hk with hk|rfl
  .exact h.step.gL k hk
  .exact .inr (.inr hid)
 have eP:aV X.ls i=false:=by simp[aV,hl,fF,dh.lY,dh.lf]
 have hnt:∀i', D i' ->mi X.ls i' ≠ some t:=λi' jt e=>hD (X.vG ht e▸jt);refine⟨N6,N7,h.size,h.defers,λj hj=>hj.elim (h.below j) (λe=>e▸hi),λi' j hj BI=>?_,λj s' hj j8 =>?_,λk s' hk l9 =>?_,λj m2 hj hm l9 =>?_,?_,h.fr.sY eP _⟩
 .rcases hj with hj|rfl
  .exact .inl (h.closed _ _ hj BI)
  .exact .inl (hb _ BI)
 .rcases hj with hj|rfl
  .exact VR.mono ev _ _ (h.tv j s' hj j8)
  .simp only[jF,ht]at j8
   rw[hs]at j8; simp at j8; subst j8;rw[kV,hp];unfold VR;exact⟨hn,id,0,c', el,(0,0),y,rfl,.inr rfl,wq, VR.mono ev _ _ hxy,λj hj=>by rw[Nat.zero_add];exact hc j hj⟩
 .exact VR.mono ev _ _ (h.vv k s' hk λj hj=>l9 j (.inl hj))
 .rcases hj with hj|rfl
  .obtain⟨s2,AN,c2,Ms,k1,k2,k3,k4,k5,k6,k7⟩:=h.lb j m2 hj hm λi' jt =>l9 i' (.inl jt)
   have N8:j ≠ t:=λe=>l9 i (.inr rfl) (e▸ht);have N9:AN ≠ id:=λe=>by
    subst e;exact h.Z8 j t m2 m' s2 s AN hj hDt hm lJ (λi' jt =>l9 i' (.inl jt)) hnt k1 hs N8 k2 hp
   exact⟨s2,AN,c2,Ms,k1,k2,k3,λhk=>hk.elim k4 N9,k5,by rw[ki w id c' N9];exact k6,k7⟩
  .simp[eG,hl,fF]at hm
 .intro j j' m1 m2 s1 s2 AN hj tW hm tZ hn1 hn2 hs1 Mu aad e1 e2
  have FZ:∀j m,(D j\/j=i)->eG X.ls j=some m->D j:=λj m hj hm=>hj.elim (λq=>q) λe=>by
   subst e;simp[eG,hl,fF]at hm
  exact h.Z8 j j' m1 m2 s1 s2 AN (FZ j m1 hj hm) (FZ j' m2 tW tZ) hm tZ (λi' jt =>hn1 i' (.inl jt)) (λi' jt =>hn2 i' (.inl jt)) hs1 Mu aad e1 e2
end
end Ab
namespace Ab
open Go
variable{P:Program}
section
variable{a:Act}{r:Rf->AV}{w:World}{C:Ctx}{R:Operand->Rf->Bool}{ce:CE}{σ:List al}{nl:Nat}{ps:List cQ}
variable{o:Oper}{qi:dh}{x:AV}
def opR{p:Option cQ}(d:ma P R o.op qi=true) (F:qi.kp=false) (G:qi.lY=false) (H:qi.lf=false) (z:cw P ce) (q:Good C w)
  (i:∀b u B,C.lim b u->fW σ b u=some B->∃id,C.own b u=some (B,id))
  (l:∀x y,R x y=true->VR C w.heap (r y) (a.eval x)) (m:ev ce σ nl ps r qi=some (x,p)):bI P o a w (dg C w x):=by
 have j:∀b u B,C.lim b u->upto σ b u=some B->∃id,C.own b u=some (B,id):=λb u B I h=>i b u B I (ND h);obtain⟨dst,op,type,pos,after,guard⟩:=o;have pl:∀{E : AV} {J : Option cQ},Plain P a.eval ⟨dst,op,type,pos,after,guard⟩ w C w.heap E /\J = none->bI P ⟨dst,op,type,pos,after,guard⟩ a w (dg C w E):=λh=>h.1.does q;simp only[ma]at d;split at d
 all_goals first
  |(exfalso;simp[dh.kp]at F;done)
  |(exfalso;simp[dh.lf]at H;done)
  |(exfalso;simp[dh.lY]at G;done)
  |skip
 .simp only[Bool.and_eq_true,Bool.or_eq_true]at d
  exact pl (NF (a:=a) rfl rfl d.1.1 d.1.2 j (d.2.imp (λh=>⟨h.1,l _ _ h.2⟩) (λh=>⟨h.1,l _ _ h.2⟩)) m)
 .simp only[Bool.and_eq_true]at d
  exact pl (yF rfl d.1 q j (l _ _ d.2) m)
 .simp only[Bool.and_eq_true]at d
  obtain⟨⟨⟨g,n⟩,A⟩,K⟩:=d;split at g
  .rename_i e s
   exact pl (NG rfl s g j (l _ _ n) A K l m)
  .simp at g
 .simp only[Bool.and_eq_true,beq_iff_eq]at d
  obtain⟨⟨rfl,g⟩,n⟩:=d;exact(MX z rfl rfl g q j (mT l n) m).1
 .simp only[Bool.and_eq_true,beq_iff_eq]at d
  obtain⟨⟨⟨g,rfl⟩,n⟩,A⟩:=d;split at g
  .rename_i s
   simp only[Bool.and_eq_true]at g;exact pl (NH rfl s g.1 g.2 q i (l _ _ n) (l _ _ A) m)
  .simp at g
 .split at d
  .rename_i L D
   simp only[Bool.and_eq_true]at d;obtain⟨g,n⟩:=d;split at g
   .rename_i s
    exact pl (NI rfl rfl L D s q i (l _ _ n) m)
   .simp at g
  .simp at d
 .simp only[Bool.and_eq_true]at d
  exact pl (Ng rfl d.1 q j (l _ _ d.2) m)
 .simp at d
def opW{q : List al}{ids:Nat->Nat}{I:Nat->Prop}(b:ma P R o.op qi=true) (A:qi.lf=true) (s:cw P ce) (u:dZ P ce) (j:Good (af σ ids I) w)
  (g:∀x y,R x y=true->VR (af σ ids I) w.heap (r y) (a.eval x)) (l:gf ce σ r qi=some (x,q)):bI P o a w (kl σ ids I w x q):=by
 obtain⟨dst,op,type,pos,after,guard⟩:=o;simp only[ma]at b;split at b
 all_goals first
  |(exfalso;simp[dh.lf]at A;done)
  |skip
 .simp only[Bool.and_eq_true]at b
  exact Nn rfl b.1.1 j (g _ _ b.1.2) (g _ _ b.2) l
 .split at b
  .rename_i z p
   simp only[Bool.and_eq_true]at b;obtain⟨⟨⟨d,h⟩,m⟩,n⟩:=b;split at d
   .rename_i e i
    simp only[Bool.and_eq_true]at d;exact YV rfl rfl z p i h d.1.1 d.1.2 d.2 j (g _ _ m) (g _ _ n) l
   .simp at d
  .simp at b
 .simp only[Bool.and_eq_true,beq_iff_eq]at b
  obtain⟨⟨rfl,d⟩,h⟩:=b;exact Y4 s rfl rfl d j (mT g h) l
 .simp only[Bool.and_eq_true]at b
  exact Y5 s u rfl rfl j (g _ _ b.1) (mT g b.2) l
 .split at b
  .rename_i z p
   simp only[Bool.and_eq_true]at b;obtain⟨d,h⟩:=b;split at d
   .rename_i e i
    simp only[Bool.and_eq_true]at d;exact Y9 rfl rfl z p i d.1 d.2 j (g _ _ h) l
   .simp at d
  .simp at b
 .simp only[Bool.and_eq_true]at b
  obtain⟨⟨⟨d,h⟩,m⟩,n⟩:=b;split at d
  .rename_i i
   exact No (.inl rfl) i d j (g _ _ h) (g _ _ m) (g _ _ n) l
  .simp at d
 .simp only[Bool.and_eq_true]at b
  obtain⟨⟨⟨d,h⟩,m⟩,n⟩:=b;split at d
  .rename_i i
   exact No (.inr rfl) i d j (g _ _ h) (g _ _ m) (g _ _ n) l
  .simp at d
 .simp only[Bool.and_eq_true]at b
  obtain⟨⟨⟨d,h⟩,m⟩,n⟩:=b;split at d
  .rename_i i
   simp only[Bool.and_eq_true,decide_eq_true_eq]at d;exact Nt (.inl rfl) i d.1 d.2 j (g _ _ h) (g _ _ m) (g _ _ n) l
  .simp at d
 .simp only[Bool.and_eq_true]at b
  obtain⟨⟨⟨d,h⟩,m⟩,n⟩:=b;split at d
  .rename_i i
   simp only[Bool.and_eq_true,decide_eq_true_eq]at d;exact Nt (.inr rfl) i d.1 d.2 j (g _ _ h) (g _ _ m) (g _ _ n) l
  .simp at d
 .simp at b
variable{n:Nat}
def opA(b:ma P R o.op (.gw n)=true) (g:Good C w) :
  bI P o a w λv w' =>Good C w' /\Step C w C w' /\∃id c el,v = .pointer (some ⟨id,0,none⟩)/\w.heap.size<=id/\¬C.I id/\¬owned C id/\w'.heap[id]? = some (.cells c el (0,0))/\c.size=n:=by
 obtain⟨dst,op,type,pos,after,guard⟩:=o;simp only[ma]at b;split at b
 all_goals first
  |(rename_i heq;exfalso;simp at heq;done)
  |skip
 .rename_i t r heq
  simp at heq;subst heq;simp only[Bool.and_eq_true]at b;obtain⟨_,e⟩:=b;cases h:P.info? t with
  |none=>simp[h]at e
  |some i=>
   simp only[h]at e;cases j:i.zero with
   |none=>simp[j]at e
   |some v=>
    simp only[j,beq_iff_eq]at e;obtain⟨l,m⟩:=g.grow (w' :=cg w (.cells v.cells t)) (by simp[cg]) λk d=>mL w _ d
    refine bI.val (v:=.pointer (some ⟨w.heap.size,0,none⟩)) (w' :=cg w (.cells v.cells t)) ?_ ⟨l,⟨m,by simp[cg],λk d _=>mL w _ d,λk d=>.inl d,λk d=>.inl d,rfl,⟨rfl,Nat.le_refl _⟩,rfl⟩,w.heap.size,v.cells,t,rfl,Nat.le_refl _,λp=>Nat.lt_irrefl _ (g.I _ p),λq=>Nat.lt_irrefl _ (g.lt q),oS w _,e⟩
    simp only[execOp,Instr.alloc,zeroValue,Sem.run_bind,run_typeInfo w h,Result.andThen_ok,j,Sem.run_pure,Be]
 .simp at b
def opI{p x:Rf}(d:ma P R o.op (.jX p x n)=true){id:Nat}{c:Array Value}{el:TypeId}(A:∀q,R q p=true->a.eval q = .pointer (some ⟨id,0,none⟩)) (B:w.heap[id]? = some (.cells c el (0,0))) (J:c.size=n)
  (D:∀q,R q x=true->VR C w.heap (r x) (a.eval q)) (i:aR (r x)=true) (E:(r x).cells.length=n) :
  ∃y,VR C w.heap (r x) y/\bI P o a w λ_ w' =>∃c', w' = w.setRow id c' /\c'.size=c.size/\∀j,j<y.cells.size->c'[j]? = y.cells[j]?:=by
 obtain⟨dst,op,type,pos,after,guard⟩:=o;simp only[ma]at d;split at d
 all_goals first
  |(rename_i heq;exfalso;simp at heq;done)
  |skip
 .rename_i t q z K L M heq
  simp at heq;obtain⟨rfl,rfl,rfl⟩:=heq;simp only[Bool.and_eq_true]at d;obtain⟨⟨F,G⟩,H⟩:=d;have m:=D _ H;have g:iY (r x):=⟨λe=>by rw[e]at i;simp[aR]at i,λl e=>by rw[e]at i;simp[aR]at i⟩
  have s:=VR.size g m;have h:∀v∈(a.eval z).cells.toList,v.oneCell' = true:=(VR.cells g m).2;have e:=A _ G;refine⟨a.eval z,m,?_⟩;have b:=run_storeCells_at P id 0 el (a.eval z).cells.toList 0 c w B (by simp;omega) h
  refine bI.skip (w' :=w.setRow id (c.toList.take 0++(a.eval z).cells.toList++c.toList.drop (0+(a.eval z).cells.toList.length)).toArray) ?_ ⟨_,rfl,?_,λj I=>?_⟩
  .have u:=lu F w
   simp only[execOp,Instr.storeAt,e,Instr.sureAddr,storeVar,Sem.run_bind,Sem.run_pure,Result.andThen_ok,u];rw[if_neg (by rw[s,E];simp)]
   simp only[Nat.add_zero]at b;rw[b]
   rfl
  .simp;omega
  .simp[List.getElem?_append_left,I]
 .simp at d
end
end Ab
namespace Ab
open Go
variable{P:Program}
namespace RC
variable (X:RC P)
theorem eT{i:Nat}(a:aV X.ls i=true):i<X.ls.length:=by
 unfold aV at a;cases b:X.ls[i]? with
 |none=>simp[b]at a
 |some l=>exact(List.getElem?_eq_some_iff.1 b).1
variable{k:Nat}
theorem oM:nq X.ls X.draw X.bf k=true↔(∃j,j<=k/\pe X.ls X.draw X.bf j=true)/\∃i,i<X.ls.length/\k<=i/\ph X.ls X.draw X.bf i=true:=by
 simp only[nq,Bool.and_eq_true,List.any_eq_true,List.mem_range,decide_eq_true_eq];constructor
 .rintro⟨⟨j,g,a⟩,i,b,d,e⟩;exact⟨⟨j,by omega,a⟩,i,b,d,e⟩
 .rintro⟨⟨j,g,a⟩,i,b,d,e⟩;exact⟨⟨j,by omega,a⟩,i,b,d,e⟩
theorem nu{i j:Nat}(a:aV X.ls i=true) (d:aV X.ls j=true) (b:j<i):mh X.draw X.bf j i=true\/nq X.ls X.draw X.bf j=true/\nq X.ls X.draw X.bf i=true:=by
 cases l:mh X.draw X.bf j i with
 |true=>exact .inl rfl
 |false=>
  have e:loose X.ls X.draw X.bf j i=true:=by simp[loose,a,d,b,l]
  have g:pe X.ls X.draw X.bf j=true:=List.any_eq_true.2 ⟨i,List.mem_range.2 (X.eT a),e⟩;have h:ph X.ls X.draw X.bf i=true:=List.any_eq_true.2 ⟨j,List.mem_range.2 (X.eT d),e⟩;exact .inr ⟨X.oM.2 ⟨⟨j,Nat.le_refl _,g⟩,i,X.eT a,by omega,h⟩,X.oM.2 ⟨⟨j,by omega,g⟩,i,X.eT a,Nat.le_refl _,h⟩⟩
theorem mm{i:Nat}(a:aV X.ls i=true) (b:nq X.ls X.draw X.bf i=true):iP X.ls i=true:=by
 obtain⟨o,l,j,d,e⟩:=X.at_ (X.eT a);have h:=e.Z5;have g:(l.op.lY||l.op.lf)=true:=by simpa[aV,d]using a
 simp only[sW,g,if_true,Bool.and_eq_true,b,Bool.not_true,Bool.false_or]at h;exact h.2
theorem least{p:Nat->Prop}:∀n,p n->∃m,p m/\∀k,k<m->¬p k:=by
 intro n
 induction n using Nat.strongRecOn with
 |_ n b=>
  intro h
  by_cases a:∃k,k<n/\p k
  .obtain⟨k,d,e⟩:=a;exact b k d e
  .exact⟨n,h,λk g i=>a ⟨k,g,i⟩⟩
theorem yR{p:Nat->Prop}{L:Nat}(a:∀k,p k->k<L){n:Nat}(h:p n):∃m,p m/\∀k,m<k->¬p k:=by
 obtain⟨d,b,e⟩:=least (p:=λd=>d<=L/\p (L-d)) (L-n) ⟨by omega,by have:=a n h;rwa [show L-(L-n)=n by omega]⟩
 refine⟨L-d,b.2,λk i g=>?_⟩;have:=a k g;exact e (L-k) (by omega) ⟨by omega,by rwa [show L-(L-k)=k by omega]⟩
theorem pw(h:nq X.ls X.draw X.bf k=true):∃d a,(∀k,nq X.ls X.draw X.bf k=true↔d<=k/\k<=a)/\aV X.ls a=true/\d<=a:=by
 obtain⟨⟨j,_,u⟩,i,C,_,w⟩:=X.oM.1 h;have e:∀i,ph X.ls X.draw X.bf i=true->aV X.ls i=true/\∃j,j<i/\pe X.ls X.draw X.bf j=true:=λi a=>by
  obtain⟨j,_,g⟩:=List.any_eq_true.1 a;have l :=g;simp only[loose,Bool.and_eq_true,decide_eq_true_eq]at g;exact⟨g.1.1.2,j,g.1.2,List.any_eq_true.2 ⟨i,List.mem_range.2 (X.eT g.1.1.2),l⟩⟩
 obtain⟨d,x,n⟩:=least (p:=λj=>pe X.ls X.draw X.bf j=true) j u;obtain⟨a,o,y⟩:=yR (p:=λi=>ph X.ls X.draw X.bf i=true) (L:=X.ls.length) (λk z=>X.eT (e k z).1) w;obtain⟨q,r, D,A⟩:=e a o;have hle:d<=a:=by
  have:¬r < d:=λb=>n r b A;omega
 refine⟨d,a,λk=>X.oM.trans ⟨?_,?_⟩,q,hle⟩
 .rintro⟨⟨j,s,m⟩,i,_,b1,B⟩
  have E:¬j<d:=λb=>n j b m;have F:¬a<i:=λb=>y i b B;omega
 .rintro⟨s,m⟩
  exact⟨⟨d,s,x⟩,a,X.eT q,m,o⟩
theorem free_spec{i:Nat}{l:Ln}(m:X.ls[i]? = some l) (h:iP X.ls i=true):l.g=none/\l.op.lY=true/\l.op.lf=false/\l.op.nS=false/\(∀ce σ e nl ps r,ev ce σ nl ps r l.op=ev ce e nl ps r l.op)/\
  ∀ce σ nl ps r x p,ev ce σ nl ps r l.op=some (x,p)->((∀f as,l.op ≠ .can f as)/\∃B,p=some (.new B))\/∃n,p=some (.news n):=by
 simp only[iP,m,Bool.and_eq_true,Option.isNone_iff_eq_none]at h;obtain⟨d,j⟩:=h;split at j
 .rename_i b
  rw[b];refine⟨d,rfl,rfl,rfl,λ_ _ _ _ _ _=>rfl,λce σ nl ps r x p a=>.inl ⟨by simp,?_⟩⟩
  simp only[ev]at a;split at a<;>try(simp at a;done)
  split at a<;>simp at a;exact⟨_,a.2.symm⟩
 .rename_i b
  rw[b];refine⟨d,rfl,rfl,rfl,λ_ _ _ _ _ _=>rfl,λce σ nl ps r x p a=>.inr ?_⟩;simp only[ev]at a;split at a<;>try(simp at a;done)
  split at a<;>simp at a;exact⟨_,a.2.symm⟩
 .rename_i b
  rw[b];refine⟨d,rfl,rfl,rfl,λ_ _ _ _ _ _=>rfl,λce σ nl ps r x p a=>.inl ⟨by simp,?_⟩⟩
  simp only[ev]at a;split at a<;>simp at a
  exact⟨_,a.2.symm⟩
 .rename_i b
  rw[b];refine⟨d,rfl,rfl,rfl,λ_ _ _ _ _ _=>rfl,λce σ nl ps r x p a=>.inl ⟨by simp,?_⟩⟩
  simp only[ev,Option.some.injEq,Prod.mk.injEq]at a;exact⟨_,a.2.symm⟩
 .rename_i b
  rw[b];refine⟨d,rfl,rfl,rfl,λ_ _ _ _ _ _=>rfl,λce σ nl ps r x p a=>.inl ⟨by simp,?_⟩⟩
  simp only[ev]at a;split at a<;>simp at a
  exact⟨_,a.2.symm⟩
 .simp at j
theorem wO{i:Nat}(e:aV X.ls i=true) (j:nq X.ls X.draw X.bf i=true):∃l,(X.st (i+1)).σ=(X.st i).σ++l:=by
 obtain⟨o,l,r,g,s⟩:=X.at_ (X.eT e);obtain⟨m,u,n,_,_,h⟩:=X.free_spec g (X.mm e j);have d:=X.run i l g;unfold dm at d;simp only[m,want,n,Bool.false_eq_true,if_false]at d;split at d
 .rename_i v b
  rcases h _ _ _ _ _ _ _ b with⟨_,B,a⟩|⟨q,a⟩<;>simp at a
 .rename_i v p b
  simp only[Option.some.injEq]at d;rw[<-d];rcases h _ _ _ _ _ _ _ b with⟨_,B,a⟩|⟨q,a⟩
  .simp at a;subst a;exact⟨_,rfl⟩
  .simp at a;subst a;exact⟨_,rfl⟩
 .simp at d
theorem pre{d e:Nat}(b:∀k,nq X.ls X.draw X.bf k=true↔d<=k/\k<=e){p:Nat}:∀(n:Nat),d<=p->p+n<=e+1->p+n<=X.ls.length->∃l,(X.st (p+n)).σ=(X.st p).σ++l
 |0,_,_,_=>⟨[],by simp⟩
 |n+1,j,m,q=>by
  obtain⟨l,g⟩:=pre b n j (by omega) (by omega)
  cases h:aV X.ls (p+n)with
  |true=>
   obtain⟨i, a⟩:=X.wO h ((b _).2 ⟨by omega,by omega⟩)
   exact⟨l++i, by rw[show p+(n+1)=p+n+1 by omega,a, g,List.append_assoc]⟩
  |false=>
   obtain⟨o,i, r,a, s⟩:=X.at_ (show p+n<X.ls.length by omega)
   exact⟨l,by rw[show p+(n+1)=p+n+1 by omega,(X.still a h).1,g]⟩
variable{lo hi p q:Nat}
theorem yS(a:∀k,nq X.ls X.draw X.bf k=true↔lo<=k/\k<=hi) (b:lo<=p) (d:p<=q) (e:q<=hi+1) (g:q<=X.ls.length):∃l,(X.st q).σ=(X.st p).σ++l:=by
 have:=X.pre a (p:=p) (q-p) b (by omega) (by omega)
 rwa [show p+(q-p)=q by omega]at this
theorem mq(a:∀k,nq X.ls X.draw X.bf k=true↔lo<=k/\k<=hi) (b:lo<=p) (d:p<=q) (e:q<=hi+1) (g:q<=X.ls.length):(X.st p).σ.length<=(X.st q).σ.length:=by
 obtain⟨l,h⟩:=X.yS a b d e g;rw[h];simp
theorem uJ{i:Nat}(h:aV X.ls i=true) (j:iP X.ls i=true):∃l,(X.st (i+1)).σ=(X.st i).σ++l:=by
 obtain⟨o,l,r,e,s⟩:=X.at_ (X.eT h);obtain⟨m,u,n,_,_,g⟩:=X.free_spec e j;have d:=X.run i l e;unfold dm at d;simp only[m,want,n,Bool.false_eq_true,if_false]at d;split at d
 .rename_i v b
  rcases g _ _ _ _ _ _ _ b with⟨_,B,a⟩|⟨q,a⟩<;>simp at a
 .rename_i v p b
  simp only[Option.some.injEq]at d;rw[<-d];rcases g _ _ _ _ _ _ _ b with⟨_,B,a⟩|⟨q,a⟩
  .simp at a;subst a;exact⟨_,rfl⟩
  .simp at a;subst a;exact⟨_,rfl⟩
 .simp at d
theorem vH{p:Nat}:∀(n:Nat),p+n<=X.ls.length->(∀j,p<=j->j<p+n->aV X.ls j=true->iP X.ls j=true)->∃l,(X.st (p+n)).σ=(X.st p).σ++l
 |0,_,_=>⟨[],by simp⟩
 |n+1,i,d=>by
  obtain⟨l,e⟩:=vH n (by omega) λj h m=>d j h (by omega)
  cases b:aV X.ls (p+n)with
  |true=>
   obtain⟨g, a⟩:=X.uJ b (d _ (by omega) (by omega) b)
   exact⟨l++g, by rw[show p+(n+1)=p+n+1 by omega,a, e,List.append_assoc]⟩
  |false=>
   obtain⟨o,g, q,a, r⟩:=X.at_ (show p+n<X.ls.length by omega)
   exact⟨l,by rw[show p+(n+1)=p+n+1 by omega,(X.still a b).1,e]⟩
theorem Xm{lo hi:Nat}(a:∀k,nq X.ls X.draw X.bf k=true↔lo<=k/\k<=hi){b:Nat}:∀(n:Nat),lo+n<=hi+1->lo+n<=X.ls.length->b<(X.st (lo+n)).σ.length->b<(X.st lo).σ.length\/∃i,lo<=i/\i<lo+n/\aV X.ls i=true/\(X.st i).σ.length<=b/\b<(X.st (i+1)).σ.length
 |0,_,_,h=>.inl h
 |n+1,m,p,h=>by
  by_cases g:b<(X.st (lo+n)).σ.length
  .rcases Xm a n (by omega) (by omega) g with h|⟨i,j,q,l⟩
   .exact .inl h
   .exact .inr ⟨i,j,by omega,l⟩
  .cases e:aV X.ls (lo+n)with
   |true=>exact .inr ⟨lo+n,by omega,by omega,e,by omega,h⟩
   |false=>
    obtain⟨o,r, s,d, u⟩:=X.at_ (show lo+n<X.ls.length by omega)
    rw[show lo+(n+1)=lo+n+1 by omega,(X.still d e).1]at h
    omega
theorem mr(h:iD X.ls p q=true):∀j,p<=j->j<q->aV X.ls j=true->iP X.ls j=true:=λj d a b=>by
 simp only[iD,List.all_eq_true,List.mem_range,Bool.or_eq_true,Bool.not_eq_true', decide_eq_false_iff_not]at h;rcases h j a with(h|h)|h
 .omega
 .rw[b]at h;simp at h
 .exact h
theorem uK(h:yN X.ls p q=true):∀j,p<=j->j<q->aV X.ls j=false:=λj a b=>by
 simp only[yN,List.all_eq_true,List.mem_range,Bool.or_eq_true,Bool.not_eq_true', decide_eq_false_iff_not]at h;rcases h j b with h|h
 .exact absurd a h
 .exact h
end RC
section
variable{X:RC P}{C0:Ctx}{w0:World}{ds:List Deferred}{D:Nat->Prop}{C:Ctx}{f:Nat}{a:Act}{w:World}{i:Nat}
def iQ.front (h:iQ X D C f) (hD:¬D i) (hb:∀j,mh X.draw X.bf j i=true->D j) (he:aV X.ls i=true) (px:nq X.ls X.draw X.bf i=false):f<=i/\∀j,f<=j->j<i->aV X.ls j=false:=by
 refine⟨Nat.le_of_not_lt λcm=>hD (h.lo i cm he),λj h1 h2=>?_⟩;cases hj:aV X.ls j with
 |false=>rfl
 |true=>
  rcases X.nu he hj h2 with hq|hq
  .exact absurd (hb j hq) (h.hi j h1 hj)
  .rw[px]at hq;simp at hq
def iQ.F0 (h:iQ X D C f) (hf:f<=i) (hn:∀j,f<=j->j<i->aV X.ls j=false) :
  (∀e,e<i+1->aV X.ls e=true->D e\/e=i)/\∀e,i+1<=e->aV X.ls e=true->¬(D e\/e=i):=by
 refine⟨λe h1 h2=>?_,λe h1 h2 h3=>?_⟩
 .rcases Nat.lt_or_ge e i with cm|Xn
  .rcases Nat.lt_or_ge e f with hl|hg
   .exact .inl (h.lo e hl h2)
   .rw[hn e hg cm]at h2;simp at h2
  .exact .inr (by omega)
 .rcases h3 with h3|h3
  .exact h.hi e (by omega) h2 h3
  .omega
variable{l:List al}{ids:Nat->Nat}{I:Nat->Prop}{b u:Nat}
def Ga{σ:List al}(a:b<σ.length):(af (σ++l) ids I).own b u=(af σ ids I).own b u/\((af (σ++l) ids I).lim b u↔(af σ ids I).lim b u):=by
 have e:aq (σ++l) b=aq σ b:=by rw[dt,dt,List.getElem?_append_left a]
 simp only[af,e,and_self]
def aae{σ:List al}(h:(af σ ids I).lim b u):b<σ.length:=by
 obtain⟨B,a,_⟩:=h;rw[dt]at a;exact(List.getElem?_eq_some_iff.1 a).1
def iQ.group (h:iQ X D C f) (hD:¬D i) (hb:∀j,mh X.draw X.bf j i=true->D j) (he:aV X.ls i=true) (hg:nq X.ls X.draw X.bf i=true):∃lo hi,pn X D C lo hi:=by
 obtain⟨lo,hi,g1,g2,g3⟩:=X.pw hg;have hi1:=(g1 i).1 hg;have Xo:f<=i:=Nat.le_of_not_lt λcm=>hD (h.lo i cm he);have hhl:=X.eT g2;have Oa:∀e,e<lo->aV X.ls e=true->D e:=λe h1 h2=>by
  rcases X.nu he h2 (by omega)with hq|hq
  .exact hb e hq
  .have:=(g1 e).1 hq.1;omega
 have aaf:∀e,hi<e->aV X.ls e=true->¬D e:=λe h1 h2=>h.hi e (by omega) h2
 -- the blocks now
 obtain⟨q,q1,q2,q3,q4⟩:∃q,lo<=q/\q<=hi+1/\(X.st f).σ=(X.st q).σ/\∀e,aV X.ls e=true->lo<=e->(D e↔e<q):=by
  rcases Nat.lt_or_ge f lo with cm|Xn
  .refine⟨lo,Nat.le_refl _,by omega,((X.pj (p:=f) (q:=lo) (by omega) (by omega) λk k1 k2=>?_).1).symm,λe h1 h2=>⟨λhd=>absurd hd (h.hi e (by omega) h1),λh3=>by omega⟩⟩
   cases hk:aV X.ls k with
   |false=>rfl
   |true=>exact absurd (Oa k k2 hk) (h.hi k k1 hk)
  .exact⟨f,Xn,by omega,rfl,λe h1 h2=>⟨λhd=>Nat.lt_of_not_le λh3=>h.hi e h3 h1 hd,λh3=>h.lo e h3 h1⟩⟩
 have lJ:∀b,alive X D lo b↔b<(X.st f).σ.length:=λb=>by
  rw[q3];constructor
  .rintro(h1|⟨k,k1,k2,k3,k4,k5⟩)
   .have:=X.mq g1 (Nat.le_refl lo) q1 q2 (by omega);omega
   .have a1:=(g1 k).1 k2
    have a2:=(q4 k k1 a1.1).1 k3;have:=X.mq g1 (p:=k+1) (q:=q) (by omega) (by omega) q2 (by omega)
    omega
  .intro h1
   have Ob : b<(X.st (lo+(q-lo))).σ.length:=by rwa [show lo+(q-lo)=q by omega]
   rcases X.Xm g1 (q-lo) (by omega) (by omega) Ob with h2|⟨k,k1,k2,k3,k4,k5⟩
   .exact .inl h2
   .exact .inr ⟨k,k3,(g1 k).2 ⟨k1,by omega⟩,(q4 k k3 k1).2 (by omega),k4,k5⟩
 obtain⟨l,hl⟩:=X.yS g1 q1 q2 (Nat.le_refl _) (by omega)
 rw[<-q3]at hl;obtain⟨ids,s1,s2⟩:=h.gI;refine⟨lo,hi,g1,g2,g3,Oa,aaf,ids,λb u e ha ho=>?_,λb u iw=>?_⟩
 .rw[hl,(Ga ((lJ b).1 ha)).1]at ho
  exact s1 b u e ho
 .have:=s2 b u iw
  have cm:=aae this;exact⟨(lJ b).2 cm,by rw[hl];exact(Ga cm).2.2 this⟩
def pn.done{lo hi:Nat}(h:pn X D C lo hi) (wj:∀k,aV X.ls k=true->nq X.ls X.draw X.bf k=true->D k):iQ X D C (hi+1):=by
 have hhl:=X.eT h.Mr;have hle:=h.le;have lJ:∀b,b<(X.st (hi+1)).σ.length->alive X D lo b:=λb hb=>by
  have Ob : b<(X.st (lo+(hi+1-lo))).σ.length:=by rwa [show lo+(hi+1-lo)=hi+1 by omega]
  rcases X.Xm h.pw (hi+1-lo) (by omega) (by omega) Ob with h2|⟨k,k1,k2,k3,k4,k5⟩
  .exact .inl h2
  .have hg:=(h.pw k).2 ⟨k1,by omega⟩
   exact .inr ⟨k,k3,hg,wj k k3 hg,k4,k5⟩
 obtain⟨ids,s1,s2⟩:=h.gI;have xS:jO C (X.st (hi+1)).σ:=by
  refine⟨ids,λb u e ho=>?_,λb u hl=>(s2 b u hl).2⟩;have cm:b<(X.st (hi+1)).σ.length:=by
   cases hq:aq (X.st (hi+1)).σ b with
   |none=>simp[af,hq]at ho
   |some B=>rw[dt]at hq;exact(List.getElem?_eq_some_iff.1 hq).1
  exact s1 b u e (lJ b cm) ho
 refine⟨by omega,λe h1 h2=>?_,λe h1 h2=>h.behind e (by omega) h2,xS,λ_=>⟨by rw[Nat.add_sub_cancel];exact h.Mr,λ_=>?_⟩⟩
 .by_cases cm:e<lo
  .exact h.before e cm h2
  .exact wj e h2 ((h.pw e).2 ⟨by omega,by omega⟩)
 .rw[Nat.add_sub_cancel]
  intro b u B Mf hu;obtain⟨l,hl⟩:=X.yS h.pw (p:=hi) (q:=hi+1) hle (by omega) (Nat.le_refl _) (by omega)
  obtain⟨k1,k2,k3⟩:=wK hu;have cm:b<(X.st hi).σ.length:=by rw[dt]at k1;exact(List.getElem?_eq_some_iff.1 k1).1
  refine xS.seen b u B Mf ?_;rw[hl];unfold fW;rw[show aq ((X.st hi).σ++l) b=aq (X.st hi).σ b by rw[dt,dt,List.getElem?_append_left cm]]
  exact hu
def ml.norm (h:ml X D C f) (hD:¬D i) (hb:∀j,mh X.draw X.bf j i=true->D j) (he:aV X.ls i=true) (px:nq X.ls X.draw X.bf i=false):∃f,iQ X D C f:=by
 rcases h with hN|⟨lo,hi,hG,_⟩
 .exact⟨_,hN⟩
 .have hle:=hG.le
  have jt : hi<i:=by
   have h1:¬(lo<=i/\i<=hi):=λh=>by rw[(hG.pw i).2 h]at px;simp at px
   have h2:¬i<lo:=λh=>hD (hG.before i h he);omega
  refine⟨_,hG.done λk hk hg=>?_⟩;have:=(hG.pw k).1 hg;rcases X.nu he hk (by omega)with hq|hq
  .exact hb k hq
  .rw[px]at hq;simp at hq
def ml.pw (h:ml X D C f) (hD:¬D i) (hb:∀j,mh X.draw X.bf j i=true->D j) (he:aV X.ls i=true) (hg:nq X.ls X.draw X.bf i=true):∃lo hi,pn X D C lo hi:=by
 rcases h with hN|⟨lo,hi,hG,_⟩
 .exact hN.group hD hb he hg
 .exact⟨lo,hi,hG⟩
def Oc{C:Ctx}{σ:List al}(h:Seen C (σ++l)):Seen C σ:=λb u B a e=>by
 refine h b u B a ?_;have g:=(wK e).1;have d:b<σ.length:=by rw[dt]at g;exact(List.getElem?_eq_some_iff.1 g).1
 unfold fW at e ⊢
 rwa [show aq (σ++l) b=aq σ b by rw[dt,dt,List.getElem?_append_left d]]
def Inv.aag (h:Inv X C0 w0 ds D C f a w) (hi:i<X.ls.length) (hD:¬D i) (hb:∀j,mh X.draw X.bf j i=true->D j){o:Oper}{l:Ln}(hl:X.ls[i]? = some l) (hF:sX X i o l)
  (hE:l.op.lY=false) (hW:l.op.lf=false) (hP:l.op.kp=false):Seen C (if l.prev then(X.st i).aL else(X.st i).σ):=by
 have hr:=hF.read;simp only[uH,hE,hW,hP,Bool.or_self,Bool.false_eq_true,if_false,Bool.and_eq_true,List.all_eq_true,List.mem_range]at hr;obtain⟨Ew,Mv⟩:=hr;generalize hv:mj X.ls i l=v at Ew Mv;have hvi:v<=i:=by
  by_cases hp:l.prev=true
  .simp only[hp,if_true,Bool.and_eq_true,decide_eq_true_eq]at Ew
   omega
  .have:v=i:=by rw[<-hv];simp[mj,hp]
   omega
 have Od:(if l.prev then(X.st i).aL else(X.st i).σ)=(X.st v).σ:=by
  by_cases hp:l.prev=true
  .simp only[hp,if_true,Bool.and_eq_true,decide_eq_true_eq]at Ew ⊢
   obtain⟨⟨q1,q2⟩,q3⟩:=Ew;have h1:=(X.pj (p:=v+1) (q:=i) (by omega) (Nat.le_of_lt hi) (X.uK q3)).2
   rw[h1];obtain⟨ov,lv,_,yQ,hFv⟩:=X.at_ (show v<X.ls.length by omega)
   have dU:=X.run v lv yQ;simp only[FW,yQ,Bool.and_eq_true,Option.isNone_iff_eq_none]at q2;have hef:=hFv.Z5;simp only[sW,q2.1,Bool.true_or,if_true,Bool.and_eq_true,Bool.not_eq_true']at hef;unfold dm at dU;simp only[q2.2,want]at dU;have hW:lv.op.lf=false:=by revert q2;cases lv.op<;>simp[dh.lY,dh.lf]
   rw[if_neg (by rw[hW];simp)]at dU
   split at dU
   .simp only[q2.1,if_true,Option.some.injEq]at dU;rw[<-dU]
   .simp only[Option.some.injEq]at dU;rw[<-dU]
   .simp at dU
  .have:v=i:=by rw[<-hv];simp[mj,hp]
   simp[hp,this]
 rw[Od];have jx:∀j,aV X.ls j=true->j<X.ls.length:=λj hj=>by
  unfold aV at hj;cases hl:X.ls[j]? with
  |none=>simp[hl]at hj
  |some l=>exact(List.getElem?_eq_some_iff.1 hl).1
 have key:∀j,aV X.ls j=true->if j<v then(mh X.draw X.bf j i=true\/(iD X.ls j v=true/\yM X.ls X.draw X.bf=true))else mh X.draw X.bf i j=true\/(FW X.ls j=true/\iD X.ls v j=true):=λj hj=>by
  have:=Mv j (jx j hj);simp only[hj,Bool.not_true,Bool.false_or]at this
  by_cases cm:j<v
  .simpa[cm]using this
  .simp only[cm,if_false,Bool.or_eq_true,Bool.and_eq_true]at this ⊢
   exact this.imp (λq=>q) λq=>⟨q.1.2,q.2⟩
 rcases h.fr with hN|⟨lo,hi,hS,k0,y1,y2,y3⟩
 .rcases Nat.lt_or_ge v f with hvf|hvf
  .obtain⟨e1,e2⟩:=hN.last (by omega)
   have hd:=hN.lo (f-1) (by omega) e1
   have:=key (f-1) e1;rw[if_neg (by omega)]at this
   rcases this with k|⟨k1,k2⟩
   .exact absurd (h.closed _ _ hd k) hD
   .obtain⟨l', jL⟩:=X.vH (p:=v) (f-1-v) (by have:=hN.Z7;omega) λj j1 j2=>X.mr k2 j j1 (by omega)
    rw[show v+(f-1-v)=f-1 by omega]at jL
    have:=e2 k1;rw[jL]at this;exact Oc this
  .have FC:∀j,f<=j->j<v->aV X.ls j=true->iP X.ls j=true:=λj j1 j2 hj=>by
    have:=key j hj;rw[if_pos j2]at this;rcases this with this|this
    .exact absurd (hb j this) (hN.hi j j1 hj)
    .have:=this.1
     simp only[iD,List.all_eq_true,List.mem_range,Bool.or_eq_true,Bool.not_eq_true', decide_eq_false_iff_not]at this;rcases this j j2 with(q|q)|q
     .exact absurd (Nat.le_refl j) q
     .rw[hj]at q;simp at q
     .exact q
   obtain⟨l', jL⟩:=X.vH (p:=f) (v-f) (by omega) λj j1 j2=>FC j j1 (by omega)
   rw[show f+(v-f)=v by omega]at jL
   intro b u B Mf hu;obtain⟨ids,s1,s2⟩:=hN.gI;have cm:b<(X.st f).σ.length:=by
    obtain⟨B1,q1,_⟩:=s2 b u Mf;rw[dt]at q1;exact(List.getElem?_eq_some_iff.1 q1).1
   refine hN.gI.seen b u B Mf ?_;rw[jL]at hu;unfold fW at hu ⊢
   rwa [show aq ((X.st f).σ++l') b=aq (X.st f).σ b by rw[dt,dt,List.getElem?_append_left cm]]at hu
 .-- all Xp before v are done;of aqa behind it at aqf the first one
  have hle:=hS.le;have hhl:=X.eT hS.Mr;have k1:∀e,aV X.ls e=true->e<v->D e:=λe he cm=>by
   have:=key e he;rw[if_pos cm]at this;rcases this with this|this
   .exact hb e this
   .have h2:=this.2
    simp only[yM,List.all_eq_true,List.mem_range,Bool.not_eq_true']at h2;have:=h2 k0 (X.eT y1);rw[y2]at this;simp at this
  have k2:∀e,aV X.ls e=true->D e->v<=e->iD X.ls v e=true:=λe he hd hle=>by
   have:=key e he;rw[if_neg (by omega)]at this
   rcases this with hq|hq
   .exact absurd (h.closed _ _ hd hq) hD
   .exact hq.2
  by_cases AT:hi<v
  .have hN:=hS.done λk hk hg=>k1 k hk (by have:=(hS.pw k).1 hg;omega)
   rw[(X.pj (p:=hi+1) (q:=v) (by omega) (by omega) λj j1 j2=>by
    cases hj:aV X.ls j with
    |false=>rfl
    |true=>exact absurd (k1 j hj j2) (hS.behind j (by omega) hj)).1]
   exact hN.gI.seen
  .obtain⟨q,q1,q2,⟨l', q3⟩,q4⟩:∃q,lo<=q/\q<=hi/\(∃l', (X.st q).σ=(X.st v).σ++l')/\∀e,aV X.ls e=true->e<q->D e:=by
    by_cases yQ:lo<=v
    .exact⟨v,yQ,by omega,⟨[],by simp⟩,k1⟩
    .have sZ:=(hS.pw k0).1 y2
     have eP:=X.mr (k2 k0 y1 y3 (by omega))
     obtain⟨l', jL⟩:=X.vH (p:=v) (lo-v) (by omega) λj j1 j2=>eP j j1 (by omega)
     rw[show v+(lo-v)=lo by omega]at jL
     exact⟨lo,Nat.le_refl _,hle,⟨l', jL⟩,λe he cm=>hS.before e cm he⟩
   refine Oc (l:=l') ?_;rw[<-q3];intro b u B _ hu;obtain⟨u1,u2,u3⟩:=wK hu;have cm:b<(X.st q).σ.length:=by rw[dt]at u1;exact(List.getElem?_eq_some_iff.1 u1).1
   have lJ:alive X D lo b:=by
    have Ob : b<(X.st (lo+(q-lo))).σ.length:=by rwa [show lo+(q-lo)=q by omega]
    rcases X.Xm hS.pw (q-lo) (by omega) (by omega) Ob with h2|⟨k,a1,a2,a3,a4,a5⟩
    .exact .inl h2
    .exact .inr ⟨k,a3,(hS.pw k).2 ⟨a1,by omega⟩,q4 k a3 (by omega),a4,a5⟩
   obtain⟨l,hl⟩:=X.yS hS.pw (p:=q) (q:=hi+1) q1 (by omega) (Nat.le_refl _) (by omega)
   obtain⟨ids,s1,s2⟩:=hS.gI;refine⟨ids b,s1 b u _ lJ ?_⟩;rw[hl,(Ga cm).1];exact sK ids C.I hu
end
end Ab
namespace Ab
open Go
variable{P:Program}
def cmt (σ:List al):Option cQ->List al
 |some q=>gk σ q
 |none=>σ
def aah{ls:List Ln}{t m:Nat}(h:eG ls t=some m):mi ls t=none:=by
 unfold eG at h;unfold mi;cases b:ls[t]? with
 |none=>rfl
 |some l=>
  simp only[b]at h ⊢;split at h
  .rename_i a;rw[a]
  .simp at h
def Oe (σ l:List al) (b:Nat):aq (σ++l) b=if b<σ.length then aq σ b else aq l (b-σ.length):=by
 rw[dt,dt,dt]
 by_cases a:b<σ.length
 .rw[if_pos a,List.getElem?_append_left a]
 .rw[if_neg a,List.getElem?_append_right (by omega)]
open Classical in
noncomputable def vI (σ:List al) (A:Nat->Prop) (ids:Nat->Nat) (I:Nat->Prop):Ctx where
 I:=I
 own:=λb u=>if A b then(af σ ids I).own b u else none
 lim:=λb u=>A b/\(af σ ids I).lim b u
section
variable{rd:Option Nat}{X:RC P}{C0:Ctx}{w0:World}{ds:List Deferred}{D:Nat->Prop}{C:Ctx}{f:Nat}{a:Act}{w:World}{i:Nat}
def Inv.next (h:Inv X C0 w0 ds D C f a w) (hi:i<X.ls.length) (hD:¬D i) (hb:∀j,mh X.draw X.bf j i=true->D j) (Q:Exit->Act->World->Prop) :
  wpOpIn (fw rd) 0 P X.ops.toArray Q i (λa' w' =>∃C' f', Inv X C0 w0 ds (λj=>D j\/j=i) C' f' a' w') a w:=by
 obtain⟨o,l,ho,hl,hF⟩:=X.at_ hi;have dU:=X.run i l hl;have hR:∀x y,qY X.draw X.bf X.ops X.ls X.sl i x y=true->VR C w.heap (rv X.vars (X.st i).env y) (a.eval x):=λx y hr=>h.ref hi hD hb hr;unfold wpOpIn;simp only[List.getElem?_toArray,ho];unfold dm at dU;cases hw:want X.vars (X.st i).env l.g with
 |none=>simp[hw]at dU
 |some b=>
  have hwa:=h.wanted hi hb hF hw;rw[hwa];simp only[hw]at dU;cases b with
  |false=>
   simp only[Bool.false_eq_true,if_false];refine⟨λ_ _=>trivial,?_⟩;simp only[Option.some.injEq]at dU;have kV:valOf X.st i = .bM []:=by rw[valOf,<-dU]
   have Xq:l.g ≠ none:=λe=>by rw[e]at hw;simp[want]at hw
   have BJ:mi X.ls i=none:=by
    cases ht:mi X.ls i with
    |none=>rfl
    |some t=>
     obtain⟨_,_,l', _,_,_,_,jL, _,_,AQ, _⟩:=X.fO ht;rw[hl]at jL; simp at jL; subst jL;exact absurd AQ Xq
   have rR:eG X.ls i=none:=by
    unfold eG;simp only[hl];split
    .rename_i m fF
     have:=hF.jX;simp only[pd,fF,Bool.and_eq_true,Option.isNone_iff_eq_none]at this;exact absurd this.1 Xq
    .rfl
   have Of:VR C w.heap (valOf X.st i) undef:=by rw[kV];unfold VR;exact⟨[],rfl,rfl⟩
   cases he:aV X.ls i with
   |false=>
    exact⟨C,f,h.after hi hD hb ho h.good (Step.refl _ _) BJ Of (λm hm=>by rw[rR]at hm;simp at hm) (h.fr.sY he C.I)⟩
   |true=>
    have px:nq X.ls X.draw X.bf i=false:=by
     cases hg:nq X.ls X.draw X.bf i with
     |false=>rfl
     |true=>exact absurd (X.free_spec hl (X.mm he hg)).1 Xq
    obtain⟨f', hN⟩:=h.fr.norm hD hb he px;obtain⟨q1,q2⟩:=hN.front hD hb he px;obtain⟨e1,e2⟩:=hN.F0 q1 q2;have hs:(X.st (i+1)).σ=(X.st f').σ:=by rw[<-dU];exact(X.pj q1 (Nat.le_of_lt hi) q2).1
    refine⟨C,i+1,h.after hi hD hb ho h.good (Step.refl _ _) BJ Of (λm hm=>by rw[rR]at hm;simp at hm) (.inl ⟨by omega,e1,e2,by rw[hs];exact hN.gI,λ_=>⟨he,λOg=>?_⟩⟩)⟩
    simp only[Nat.add_sub_cancel,FW,hl,Bool.and_eq_true,Option.isNone_iff_eq_none]at Og;exact absurd Og.2 Xq
  |true=>
   dsimp only at dU;simp only[if_true]
   by_cases xX:l.op.lf=true
   .rw[if_pos xX]at dU
    have he:aV X.ls i=true:=by simp[aV,hl,xX]
    have px:nq X.ls X.draw X.bf i=false:=by
     cases hg:nq X.ls X.draw X.bf i with
     |false=>rfl
     |true=>rw[(X.free_spec hl (X.mm he hg)).2.2.1]at xX;simp at xX
    obtain⟨f', hN⟩:=h.fr.norm hD hb he px;obtain⟨q1,q2⟩:=hN.front hD hb he px;have Gf:=(X.pj q1 (Nat.le_of_lt hi) q2).1;obtain⟨ids,g1,g2⟩:=hN.gI.take h.good;rw[<-Gf]at g1 g2;split at dU
    .rename_i v cR iE
     simp only[Option.some.injEq]at dU;have BJ:mi X.ls i=none:=by
      cases ht:mi X.ls i with
      |none=>rfl
      |some t=>
       obtain⟨_,_,l', _,_,_,_,jL, _,fF,_⟩:=X.fO ht;rw[hl]at jL; simp at jL; subst jL;rw[fF]at xX;simp[dh.lf]at xX
     have rR:eG X.ls i=none:=by
      unfold eG;simp only[hl];split
      .rename_i m fF;rw[fF]at xX;simp[dh.lf]at xX
      .rfl
     refine opW hF.op xX X.qT X.xW g1 (λx y hr=>VR.mono g2.ev _ _ (hR x y hr)) iE _ _ Q λv' w' hp=>?_;obtain⟨bY, I', k1,k2,k3⟩:=hp;obtain⟨e1,e2⟩:=hN.F0 q1 q2;have hs:(X.st (i+1)).σ=cR :=by rw[<-dU]
     have kV:valOf X.st i=v:=by rw[valOf,<-dU]
     refine⟨_,i+1,h.after hi hD hb ho k1 (g2.trans k2) BJ (by rw[kV];exact k3) (λm hm=>by rw[rR]at hm;simp at hm) (.inl ⟨by omega,e1,e2,by rw[hs];exact NW _ _ _,λ_=>⟨he,λOg=>?_⟩⟩)⟩
     simp only[Nat.add_sub_cancel,FW,hl,Bool.and_eq_true]at Og;exfalso
     revert xX Og;cases l.op<;>simp[dh.lY,dh.lf]
    .simp at dU
   .rw[if_neg xX]at dU
    have Oh:l.op.lf=false:=by simpa using xX
    cases iE:ev X.ce (if l.prev then(X.st i).aL else(X.st i).σ) (X.st i).σ.length [] (rv X.vars (X.st i).env) l.op with
    |none=>simp[iE]at dU
    |some vp=>
     obtain⟨v,p⟩:=vp;simp only[iE]at dU;have kV:valOf X.st i=v:=by cases p<;>simp only[Option.some.injEq]at dU<;>rw[valOf,<-dU]<;>rfl
     have gG:(X.st (i+1)).σ=cmt (X.st i).σ p:=by cases p<;>simp only[Option.some.injEq]at dU<;>rw[<-dU]<;>rfl
     cases hE:l.op.lY with
     |true=>
      have he:aV X.ls i=true:=by simp[aV,hl,hE]
      have yT:l.prev=false:=by
       have:=hF.Z5;simp only[sW,hE,Bool.true_or,if_true,Bool.and_eq_true,Bool.not_eq_true']at this;exact this.1
      rw[yT]at iE;simp only[Bool.false_eq_true,if_false]at iE;have BJ:mi X.ls i=none:=by
       cases ht:mi X.ls i with
       |none=>rfl
       |some t=>
        obtain⟨_,_,l', _,_,_,_,jL, _,fF,_⟩:=X.fO ht;rw[hl]at jL; simp at jL; subst jL;rw[fF]at hE;simp[dh.lY]at hE
      have rR:eG X.ls i=none:=by
       unfold eG;simp only[hl];split
       .rename_i m fF;rw[fF]at hE;simp[dh.lY]at hE
       .rfl
      have yU:l.op.nS=false:=by revert hE;cases l.op<;>simp[dh.lY,dh.nS]
      cases px:nq X.ls X.draw X.bf i with
      |false=>
       obtain⟨f', hN⟩:=h.fr.norm hD hb he px;obtain⟨q1,q2⟩:=hN.front hD hb he px;obtain⟨ids,g1,g2⟩:=hN.gI.take h.good;have Gf:=(X.pj q1 (Nat.le_of_lt hi) q2).1;rw[<-Gf]at g1 g2;refine opE hF.op Oh yU X.qT X.xW g1 (λb u B _ hu=>⟨_,sK ids C.I hu⟩) (λ_ _=>wC) (λl' _ b u uL _ iw=>?_) (λb u B cs hu _ _=>⟨λn hn iw=>?_,λu' B' id' da=>?_⟩) (λx y hr=>VR.mono g2.ev _ _ (hR x y hr)) rfl iE _ _ Q λv' w' hp=>?_
       .obtain⟨B,hB,_⟩:=iw
        rw[dt,List.getElem?_eq_none (by omega)]at hB;simp at hB
       .obtain⟨B', hB,hle⟩:=iw
        obtain⟨k1,k2,_⟩:=sI hu;rw[k1]at hB;simp at hB;subst hB;omega
       .obtain⟨k1,k2,_⟩:=sI hu
        rw[<-k2];exact oo (u:=0) k1 u' B' id' da
       .obtain⟨C', k1,k2,k3,k4⟩:=hp
        obtain⟨s1,s2⟩:=Ext.gI k1 k4;obtain⟨e1,e2⟩:=hN.F0 q1 q2;exact⟨C', i+1,h.after hi hD hb ho k1 (g2.trans k2) BJ (by rw[kV];exact k3) (λm hm=>by rw[rR]at hm;simp at hm) (.inl ⟨by omega,e1,e2,by rw[gG];cases p<;>exact s1,λ_=>⟨he,λ_=>s2⟩⟩)⟩
      |true=>
       obtain⟨lo,hh,hG⟩:=h.fr.pw hD hb he px;obtain⟨fr1,fr2,fr3,fr4,fr5,fr6⟩:=X.free_spec hl (X.mm he px);have jx:=(hG.pw i).1 px;have hhl:=X.eT hG.Mr;have hle:=hG.le;obtain⟨ids,m1,m2⟩:=hG.gI;obtain⟨bs,hbs,Gg⟩:∃bs,(X.st (i+1)).σ=(X.st i).σ++bs/\(((∀f as,l.op ≠ .can f as)/\∃B,p=some (.new B)/\bs=[B])\/p=some (.news bs)):=by
        rcases fr6 _ _ _ _ _ _ _ iE with⟨hc,B,rfl⟩|⟨bs,rfl⟩
        .exact⟨[B],by rw[gG];rfl,.inl ⟨hc,B,rfl,rfl⟩⟩
        .exact⟨bs,by rw[gG];rfl,.inr rfl⟩
       have hlen:(X.st (i+1)).σ.length=(X.st i).σ.length+bs.length:=by rw[hbs];simp
       have Oi:∀b,(X.st i).σ.length<=b->b<(X.st (i+1)).σ.length->¬alive X D lo b:=by
        rintro b b1 b2 (h1|⟨k,k1,k2,k3,k4,k5⟩)
        .have:=X.mq hG.pw (p:=lo) (q:=i) (Nat.le_refl _) jx.1 (by omega) (by omega);omega
        .have hk:=(hG.pw k).1 k2
         rcases Nat.lt_trichotomy k i with cm|rfl|hgt
         .have:=X.mq hG.pw (p:=k+1) (q:=i) (by omega) (by omega) (by omega) (by omega);omega
         .exact hD k3
         .have:=X.mq hG.pw (p:=i+1) (q:=k) (by omega) (by omega) (by omega) (by omega);omega
       have hg2:=Good.shrink (C2:=vI (X.st (hh+1)).σ (alive X D lo) ids C.I) h.good rfl (λb u e ko =>by
        unfold vI at ko;dsimp only at ko;split at ko
        .rename_i ha;exact m1 b u e ha ko
        .simp at ko) m2
       have wP : ∀b,alive X (λj=>D j\/j=i) lo b↔alive X D lo b\/((X.st i).σ.length<=b/\b<(X.st (i+1)).σ.length):=λb=>by
        constructor
        .rintro(h1|⟨k,k1,k2,k3,k4⟩)
         .exact .inl (.inl h1)
         .rcases k3 with k3|rfl
          .exact .inl (.inr ⟨k,k1,k2,k3,k4⟩)
          .exact .inr k4
        .rintro((h1|⟨k,k1,k2,k3,k4⟩)|h1)
         .exact .inl h1
         .exact .inr ⟨k,k1,k2,.inl k3,k4⟩
         .exact .inr ⟨i,he,px,.inr rfl,h1⟩
       obtain⟨l2,uc⟩:=X.yS hG.pw (p:=i+1) (q:=hh+1) (by omega) (by omega) (Nat.le_refl _) (by omega)
       have hblk:∀b,(X.st i).σ.length<=b->b<(X.st (i+1)).σ.length->aq (X.st (hh+1)).σ b=aq bs (b-(X.st i).σ.length):=λb b1 b2=>by
        rw[uc,Oe,if_pos b2,hbs,Oe,if_neg (by omega)]
       refine opE (σ:=[]) hF.op Oh yU X.qT X.xW hg2.1 (λb u B _ hu=>by simp[fW,aq]at hu) (λ_ hc u iw=>?_) (λl' hq b u uL Xr iw=>?_) (λb u B cs hu _ _=>by simp[upto,aq]at hu) (λx y hr=>VR.mono hg2.2.ev _ _ (hR x y hr)) rfl (by rw[fr5 X.ce [] (X.st i).σ];exact iE) _ _ Q λv' w' hp=>?_
       .rcases Gg with⟨_,B,_,rfl⟩|hq
        .exact Oi _ (Nat.le_refl _) (by rw[hlen];simp) iw.1
        .exfalso
         rcases fr6 _ _ _ _ _ _ _ iE with⟨_,B,hB⟩|⟨bs', hB⟩
         .rw[hq]at hB;simp at hB
         .have hf:=X.mm he px
          simp only[iP,hl,Bool.and_eq_true]at hf;have Xl:=hf.2;split at Xl
          .rename_i fF;rw[fF]at iE;simp only[ev]at iE
           split at iE<;>try(simp at iE;done)
           split at iE<;>simp at iE;rw[<-iE.2]at hq;simp at hq
          .rename_i f as fF;exact hc f as fF
          .rename_i fF;rw[fF]at iE;simp only[ev]at iE
           split at iE<;>simp at iE;rw[<-iE.2]at hq;simp at hq
          .rename_i fF;rw[fF]at iE;simp[ev]at iE
           rw[<-iE.2]at hq;simp at hq
          .rename_i fF;rw[fF]at iE;simp only[ev]at iE
           split at iE<;>simp at iE;rw[<-iE.2]at hq;simp at hq
          .simp at Xl
       .rcases Gg with⟨_,B,hq', _⟩|hq'
        .rw[hq']at hq;simp at hq
        .rw[hq']at hq;simp at hq;subst hq
         exact Oi b uL (by omega) iw.1
       .obtain⟨C', k1,k2,k3,k4⟩:=hp
        have xS:∃bY, (∀b u e,alive X (λj=>D j\/j=i) lo b->(af (X.st (hh+1)).σ bY C'.I).own b u=some e->C'.own b u=some e)/\∀b u,C'.lim b u->alive X (λj=>D j\/j=i) lo b/\(af (X.st (hh+1)).σ bY C'.I).lim b u:=by
         rcases Gg with⟨_,B,rfl,rfl⟩|rfl
         .obtain⟨id,k5,k6⟩:=k4
          have qS:B.st ≠ .dead:=(k1.lV (X.st i).σ.length B.cells.length B id (by rw[k5];simp[ay])).2.2.2
          have uL:=hblk (X.st i).σ.length (Nat.le_refl _) (by rw[hlen];simp)
          rw[Nat.sub_self]at uL;refine⟨λq=>if q=(X.st i).σ.length then id else ids q,λb u e ha ko =>?_,λb u iw=>?_⟩
          .rw[k5]
           by_cases e0:b=(X.st i).σ.length
           .subst e0
            simp only[af,uL,aq,if_true]at ko;have hu:B.cells.length=u/\(B,id)=e:=by
             cases hs:B.st<;>simp only[hs]at ko qS
             .split at ko <;>simp at ko; rename_i h;exact⟨h,ko⟩
             .split at ko <;>simp at ko; rename_i h;exact⟨h,ko⟩
             .exact absurd rfl qS
             .split at ko <;>simp at ko; rename_i h;exact⟨h,ko⟩
            obtain⟨rfl,rfl⟩:=hu;simp[ay]
           .have BC : alive X D lo b:=by
             rcases(wP b).1 ha with h|h
             .exact h
             .rw[hlen]at h;simp at h;omega
            simp only[ay];rw[if_neg (by omega)]
            simp only[vI,BC, if_true];simp only[af,e0,if_false]at ko;exact ko
          .rw[k6]at iw
           rcases iw with⟨rfl,rfl⟩|⟨h1,h2⟩
           .exact⟨(wP _).2 (.inr ⟨Nat.le_refl _,by rw[hlen];simp⟩),B,uL,Nat.le_refl _⟩
           .exact⟨(wP _).2 (.inl h1),h2⟩
         .obtain⟨uG,k5,k6⟩:=k4
          refine⟨λq=>if(X.st i).σ.length<=q/\q<(X.st (i+1)).σ.length then uG (q-(X.st i).σ.length)else ids q,λb u e ha ko =>?_,λb u iw=>?_⟩
          .rw[k5]
           dsimp only
           by_cases e0:(X.st i).σ.length<=b/\b<(X.st (i+1)).σ.length
           .rw[if_pos (by omega)]
            simp only[af,hblk b e0.1 e0.2,e0,and_self,if_true]at ko;exact ko
           .have BC : alive X D lo b:=by
             rcases(wP b).1 ha with h|h
             .exact h
             .exact absurd h e0
            rw[if_neg (by omega)]
            simp only[vI,BC, if_true];simp only[af,e0,if_false]at ko;exact ko
          .rw[k6]at iw
           rcases iw with⟨h1,B', h2,h3⟩|⟨h1,h2⟩
           .have cm:b-(X.st i).σ.length<bs.length:=by rw[dt]at h2;exact(List.getElem?_eq_some_iff.1 h2).1
            exact⟨(wP _).2 (.inr ⟨h1,by omega⟩),B', by rw[hblk b h1 (by omega)];exact h2,h3⟩
           .exact⟨(wP _).2 (.inl h1),h2⟩
        refine⟨C', f,h.after hi hD hb ho k1 (hg2.2.trans k2) BJ (by rw[kV];exact k3) (λm hm=>by rw[rR]at hm;simp at hm) (.inr ⟨lo,hh,⟨hG.pw,hG.Mr,hG.le,λe h1 h2=>.inl (hG.before e h1 h2),λe h1 h2 h3=>?_,xS⟩,i,he,px,.inr rfl⟩)⟩
        rcases h3 with h3|rfl
        .exact hG.behind e h1 h2 h3
        .omega
     |false=>
      have he:aV X.ls i=false:=by simp[aV,hl,hE,Oh]
      have hpn:=NZ hE iE;subst hpn;cases hP:l.op.kp with
      |false=>
       have BJ:mi X.ls i=none:=by
        cases ht:mi X.ls i with
        |none=>rfl
        |some t=>
         obtain⟨_,_,l', _,_,_,_,jL, _,fF,_⟩:=X.fO ht;rw[hl]at jL; simp at jL; subst jL;rw[fF]at hP;simp[dh.kp]at hP
       have rR:eG X.ls i=none:=by
        unfold eG;simp only[hl];split
        .rename_i m fF;rw[fF]at hP;simp[dh.kp]at hP
        .rfl
       refine opR hF.op hP hE Oh X.qT h.good (h.aag hi hD hb hl hF hE Oh hP) hR iE _ _ Q λv' w' hp=>?_;obtain⟨I', k1,k2,k3⟩:=hp;exact⟨_,f,h.after hi hD hb ho k1 k2 BJ (by rw[kV];exact k3) (λm hm=>by rw[rR]at hm;simp at hm) (h.fr.sY he I')⟩
      |true=>
       cases ht:mi X.ls i with
       |some t=>
        obtain⟨_,o', l', d,x,m,ko, jL, _,fF,AQ, FY,hd,Mt,lJ,N4,N5⟩:=X.fO ht;rw[hl]at jL; simp at jL; subst jL;rw[ho]at ko; simp at ko; subst ko;have hnt:∀i', D i' ->mi X.ls i' ≠ some t:=λi' jt e=>hD (X.vG ht e▸jt);obtain⟨s,id,c,el,k1,k2,k3,k4,k5,k6,k7⟩:=h.lb t m (hb _ N4) lJ hnt;rw[fF]at iE;simp only[ev]at iE;split at iE
        case isFalse=>simp at iE
        rename_i hc;simp only[Bool.and_eq_true,beq_iff_eq]at hc;simp at iE;have wM :=hF.op;rw[fF]at wM;obtain⟨y,q1,q2⟩:=opI wM (w:=w) (a:=a) (C:=C) (r:=rv X.vars (X.st i).env) (id:=id) (c:=c) (el:=el) (λq hq=>by
         unfold qY at hq;split at hq
         .rename_i s' d' heq
          simp only[Rf.t.injEq]at heq;subst heq;simp only[Bool.and_eq_true,beq_iff_eq]at hq;have j8 :=hq.1.2;rw[<-Mt]at j8;simp only[jF,aah lJ,k1,Option.some.injEq]at j8;subst j8;exact k2
         all_goals (rename_i heq;first|(simp at heq;done)|(simp at hq;done)|skip)) k6 k7 (λq hq=>hR q x hq) hc.1 hc.2
        refine q2 _ _ Q λv' w' hp=>?_;obtain⟨c', rfl,z1,z2⟩:=hp;rw[FY];exact⟨_,f,h.fill hi hD hb hl fF ht (by rw[kV,<-iE]) hc.1 q1 k1 k2 k3 k4 k5 k6 z1 z2⟩
       |none=>
        cases lJ:eG X.ls i with
        |some m=>
         have fF:l.op = .gw m:=by
          unfold eG at lJ;simp only[hl]at lJ;split at lJ
          .rename_i m' fF;simp at lJ;rw[fF,lJ]
          .simp at lJ
         have wM :=hF.op;rw[fF]at wM iE;simp[ev]at iE;have N2:=hF.jX;simp only[pd,fF,Bool.and_eq_true]at N2;obtain⟨s,hs⟩:=Option.isSome_iff_exists.1 N2.2;refine opA (w:=w) (a:=a) (C:=C) wM h.good _ _ Q λv' w' hp=>?_;obtain⟨p1,p2,id,c,el,p3⟩:=hp;exact⟨C,f,h.after hi hD hb ho p1 p2 ht (by rw[kV,<-iE];unfold VR;trivial) (λm' tZ =>by
          rw[lJ]at tZ; simp at tZ; subst tZ;exact⟨⟨s,hs⟩,id,c,el,p3⟩) (h.fr.sY he C.I)⟩
        |none=>
         have yU:l.op.nS=false:=by
          cases fF:l.op with
          |gw m=>simp[eG,hl,fF]at lJ
          |jX p x n=>
           have:=hF.jX;cases p with
           |t d=>simp[mi,hl,fF]at ht
           |v k=>simp[pd,fF]at this
           |c x=>simp[pd,fF]at this
          |_=>rfl
         obtain⟨q1,_⟩:=opP (w:=w) (a:=a) (C:=C) hF.op hP yU X.qT X.xW h.good hR rfl iE;refine q1 _ _ Q λv' w' hp=>?_;obtain⟨I', k1,k2,k3⟩:=hp;exact⟨_,f,h.after hi hD hb ho k1 k2 ht (by rw[kV];exact k3) (λm hm=>by rw[lJ]at hm;simp at hm) (h.fr.sY he I')⟩
end
end Ab
namespace Ab
open Go
variable{P:Program}
structure Rel (sl:List Nat) (nt:Nat) (ds:List Deferred) (s:St) (C:Ctx) (a:Act) (w:World):Prop where
 good:Good C w
 size:a.tmps.size=nt
 defers:a.defers=ds
 vars:∀k t,sl[k]? = some t->VR C w.heap (nth s.vars k) (a.tmps.getD t undef)
 fl:∀t v,s.fl=some (t,v)->VR C w.heap v (a.tmps.getD t undef)
def vJ (ops:List Oper) (ls:List Ln) (sl:List Nat) (r:gi):Bool:=
 (r.outs.all λ(k,d)=>decide (d<ls.length)&&match sl[k]? with|some t=>jF ops ls (ls.length-1-d)==some t|none=>true) &&
 ((List.range sl.length).all λk=>r.dM.any (·== k)||r.outs.any (·.1==k)||(List.range ls.length).all λj=>match sl[k]?,cZ ops j with|some t,some a =>t != a | _,_=>true) &&
 (match r.fl with|some (t,d)=>decide (d<ls.length)&&jF ops ls (ls.length-1-d)==some t|none=>true)
def vK (P:Program) (draw:Bool) (ops:List Oper) (sl:List Nat) (nt:Nat) (r:gi):Bool:=
 ops.length==r.ls.length&&((List.range r.ls.length).all (uI P draw (N0 ops) ops r.ls sl nt))&&vJ ops r.ls sl r&&(!draw||ops.all λo=>match o.op with | .select ..=>false|_=>true)
def Gh{l:List AV}{k n:Nat}{x:AV}:nth (eu l k x) n=if n=k/\k<l.length then x else nth l n:=by
 rw[ta,aai,ta,List.getElem?_set]
 by_cases e:k=n
 .subst e
  by_cases h:k<l.length
  .simp[h]
  .simp[h,List.getElem?_eq_none (Nat.le_of_not_lt h)]
 .rw[if_neg e,if_neg (λh=>e h.1.symm)]
def Oj{Q:AV->Prop}(b:Q .aO){k:Nat}:∀(a:List Nat) (vs:List AV),(k∉a->Q (nth vs k))->Q (nth (dM a vs) k)
 | [],vs,h=>h (by simp)
 |d :: a,vs,h=>by
  unfold dM;refine Oj b a _ λg=>?_;rw[Gh]
  by_cases e:k=d /\d < vs.length
  .rw[if_pos e];exact b
  .rw[if_neg e]
   by_cases i : k=d
   .have:vs.length<=k:=by omega
    rw[ta,List.getElem?_eq_none this];exact b
   .exact h (by simp[i, g])
def Ol{Q:AV->Prop}(b:Q .aO){env:List AV}{k:Nat}:∀(os:List (Nat×Nat)) (vs:List AV),(∀d,(k,d)∈os->Q (nth env d))->((∀d,(k,d)∉os)->Q (nth vs k))->Q (nth (outs env os vs) k)
 | [],vs,_,h=>h (by simp)
 |(a, i)::os,vs,g,j=>by
  unfold outs;refine Ol b os _ (λd hd=>g d (by simp[hd])) λl=>?_
  rw[Gh]
  by_cases e:k=a /\a < vs.length
  .rw[if_pos e];exact g i (by simp[e.1])
  .rw[if_neg e]
   by_cases m : k=a
   .have:vs.length<=k:=by omega
    rw[ta,List.getElem?_eq_none this];exact b
   .exact j λd hd=>by
     rcases List.mem_cons.1 hd with h|h
     .simp at h;exact m h.1
     .exact l d h
section
variable{X:RC P}{C0:Ctx}{w0:World}{ds:List Deferred}
def Inv.full{D:Nat->Prop}{C:Ctx}{f:Nat}{a:Act}{w:World}(h:Inv X C0 w0 ds D C f a w) (hD:∀j,j<X.ls.length->D j){r:gi}(hr:r.ls=X.ls) (rS:vJ X.ops X.ls X.sl r=true){vs:List AV}
  (hvs:vs=X.vars) (fl:Option (Nat×AV)) (wQ:fl=match r.fl with|some (t,d)=>some (t,nth (X.st X.ls.length).env d)|none=>none) :
  ∃ids I,Rel X.sl X.nt ds {vars:=dM r.dM (outs (X.st X.ls.length).env r.outs vs),fl,σ:=(X.st X.ls.length).σ} (af (X.st X.ls.length).σ ids I) a w/\Step C0 w0 (af (X.st X.ls.length).σ ids I) w:=by
 subst hvs;obtain⟨f,hN⟩:∃f,iQ X D C f:=by
  rcases h.fr with hN|⟨lo,hi,hG,_⟩
  .exact⟨_,hN⟩
  .exact⟨_,hG.done λk hk _=>hD k (X.eT hk)⟩
 have Od:(X.st X.ls.length).σ=(X.st f).σ:=(X.pj (p:=f) hN.Z7 (Nat.le_refl _) λj h1 h2=>by
  cases hj:aV X.ls j with
  |false=>rfl
  |true=>exact absurd (hD j h2) (hN.hi j h1 hj)).1
 obtain⟨ids,g1,g2⟩:=hN.gI.take h.good;rw[Od];refine⟨ids,C.I,⟨g1,h.size,h.defers,λk t hk=>?_,λt v hv=>?_⟩,h.step.trans g2⟩
 .simp only[vJ,Bool.and_eq_true,List.all_eq_true,decide_eq_true_eq]at rS
  obtain⟨⟨e1,e2⟩,_⟩:=rS;refine Oj (Q:=λx=>VR (af (X.st f).σ ids C.I) w.heap x (a.tmps.getD t undef)) (by unfold VR;trivial) _ _ λhnk=>?_
  refine Ol (Q:=λx=>VR (af (X.st f).σ ids C.I) w.heap x (a.tmps.getD t undef)) (by unfold VR;trivial) _ _ (λd hd=>?_) λyD=>?_
  .have:=e1 _ hd
   simp only[hk,beq_iff_eq]at this;rw[X.vF (Nat.le_refl _) this.1];exact VR.mono g2.ev _ _ (h.tv _ t (hD _ (by omega)) this.2)
  .have Gi:k<X.sl.length:=(List.getElem?_eq_some_iff.1 hk).1
   have:=e2 k (List.mem_range.2 Gi);simp only[Bool.or_eq_true,List.any_eq_true,beq_iff_eq,List.all_eq_true,List.mem_range]at this;rcases this with(⟨x,hx,rfl⟩|⟨x,hx,rfl⟩)|hd
   .exact absurd hx hnk
   .exact absurd hx (yD x.2)
   .refine VR.mono g2.ev _ _ (h.vv k t hk λj hj hdj=>?_)
    have:=hd j (h.below j hj);simp[hk,hdj]at this
 .simp only[vJ,Bool.and_eq_true,List.all_eq_true,decide_eq_true_eq]at rS
  obtain⟨_,e3⟩:=rS;subst wQ;simp only at hv;cases hrf:r.fl with
  |none=>simp[hrf]at hv
  |some td=>
   obtain⟨t', d⟩:=td;simp only[hrf,Option.some.injEq,Prod.mk.injEq]at hv;obtain⟨rfl,rfl⟩:=hv;simp only[hrf,Bool.and_eq_true,decide_eq_true_eq,beq_iff_eq]at e3;rw[X.vF (Nat.le_refl _) e3.1];exact VR.mono g2.ev _ _ (h.tv _ t' (hD _ (by omega)) e3.2)
def aaj{i:Nat}{D:Nat->Prop}(a:X.draw=true){o:Oper}{l:Ln}(s:X.ops[i]? = some o) (q:sX X i o l) (d:∀i j,D j->mh X.draw X.bf i j=true->D i)
  (hd:∀e∈o.after.toList,Region.binds .any e=true->D e.on):∀j,mh X.draw X.bf j i=true->D j:=λj r=>by
 have m:=q.bf;simp only[BH,a,if_true,Bool.and_eq_true,beq_iff_eq]at m;have b :=r;simp only[mh,a,if_true,m.1,Option.getD_some]at b;rcases N1 X.bf j o.after.toList 0 b with h|⟨e,n,p,g⟩
 .simp at h
 .rcases g with rfl|g
  .exact hd e n p
  .exact d j e.on (hd e n p) (by simp only[mh,a,if_true];exact g)
def Inv.mk0{ids:Nat->Nat}{I:Nat->Prop}{s:St}{a:Act}{w:World}(hv:X.vars=s.vars) (Od:X.Mq=s.σ) (h:Rel X.sl X.nt ds s (af s.σ ids I) a w):Inv X (af s.σ ids I) w ds (λ_=>False) (af s.σ ids I) 0 a w:=by
 refine⟨h.good,Step.refl _ _,h.size,h.defers,λ_ h=>h.elim,λ_ _ h=>h.elim,λ_ _ h=>h.elim,λk t hk _=>by rw[hv];exact h.vars k t hk,λ_ _ h=>h.elim,λ_ _ _ _ _ _ _ h=>h.elim,.inl ⟨Nat.zero_le _,λ_ h=>absurd h (Nat.not_lt_zero _),λ_ _ _ h=>h,?_,λh=>absurd h (Nat.lt_irrefl _)⟩⟩
 rw[X.st0,Od];exact NW _ _ _
def Om{rd:Option Nat}{Q:Exit->Act->World->Prop}(d:X.draw=false) (m:∀D C f a w,Inv X C0 w0 ds D C f a w->(∀j,j<X.ls.length->D j)->Q .normal a w) :
  ∀(k:Nat) (D:Nat->Prop) (C:Ctx) (f:Nat) (a:Act) (w:World),k<=X.ls.length->(∀j,D j↔j<X.ls.length-k)->Inv X C0 w0 ds D C f a w->wpOpsIn (fw rd) 0 P X.ops.toArray Q (List.range' (X.ls.length-k) k) a w
 |0,D,C,f,a,w,_,b,h=>by
  simp only[List.range'_zero,wpOpsIn];exact m D C f a w h λj g=>(b j).2 (by omega)
 |k+1,D,C,f,a,w,x,b,h=>by
  rw[List.range'_succ,wpOpsIn_cons];have e:X.ls.length-(k+1)+1=X.ls.length-k:=by omega
  rw[e];have l:∀j,mh X.draw X.bf j (X.ls.length-(k+1))=true->D j:=λj g=>(b j).2 (by
   simp only[mh,d,Bool.false_eq_true,if_false,decide_eq_true_eq]at g;exact g)
  refine wpOpIn_mono (λn o ⟨p, r, s⟩=>Om d m k _ p r n o (by omega) (λj=>?_) s) (h.next (i:=X.ls.length-(k+1)) (by omega) (λhd=>by have:=(b _).1 hd;omega) l Q)
  .constructor
   .rintro(q|rfl)
    .have:=(b j).1 q;omega
    .omega
   .intro q
    by_cases u : j=X.ls.length-(k+1)
    .exact .inr u
    .exact .inl ((b j).2 (by omega))
def aak{rd:Option Nat}{Q:Exit->Act->World->Prop}(F:X.draw=true) (V:∀D C f a w,Inv X C0 w0 ds D C f a w->(∀j,j<X.ls.length->D j)->Q .normal a w) :
  ∀(k:Nat) (d:Array Bool) (C:Ctx) (f:Nat) (a:Act) (w:World),d.size=X.ls.length->(d.toList.filter (·== false)).length<=k->Inv X C0 w0 ds (λj=>d[j]? = some true) C f a w->
   wpAnyIn (fw rd) 0 P .any X.ops.toArray Q k d a w:=by
 have G:∀(d:Array Bool),d.size=X.ls.length->Region.ready .any X.ops.toArray d=[]->∀j,j<X.ls.length->d[j]? = some true:=by
  intro d u H j
  induction j using Nat.strongRecOn with
  |ind j I=>
   intro R;obtain⟨o,l,A,Y,S⟩:=X.at_ R;have W:=S.bf;simp only[BH,F,if_true,Bool.and_eq_true,List.all_eq_true,Bool.or_eq_true,Bool.not_eq_true', decide_eq_true_eq]at W;have p:j∉Region.ready .any X.ops.toArray d:=by rw[H];simp
   simp only[Region.ready,List.mem_filter,List.mem_range,List.size_toArray,X.len,Array.getD_eq_getD_getElem?,List.getElem?_toArray,A,Option.map_some,Option.getD_some,Bool.and_eq_true,Bool.not_eq_true', not_and]at p;cases g:d[j]? with
   |none=>rw[Array.getElem?_eq_none_iff]at g;omega
   |some b=>
    cases b with
    |true=>rfl
    |false=>
     exfalso;refine absurd ?_ (p R (by rw[g];rfl))
     rw[<-Array.all_toList];simp only[List.all_eq_true,Bool.or_eq_true,Bool.not_eq_true'];intro e T;cases y:Region.binds .any e with
     |false=>exact .inl rfl
     |true=>
      right;have U:e.on<j:=(W.2 e T).resolve_left (by rw[y];simp)
      rw[I e.on U (by omega)];rfl
 have J:∀(d:Array Bool) i,d.size=X.ls.length->i∈Region.ready .any X.ops.toArray d->i<X.ls.length/\d[i]? = some false/\∀o,X.ops[i]? = some o->∀e∈o.after.toList,Region.binds .any e=true->d[e.on]? = some true:=by
  intro d i u O;simp only[Region.ready,List.mem_filter,List.mem_range,List.size_toArray,X.len,Array.getD_eq_getD_getElem?,List.getElem?_toArray,Bool.and_eq_true,Bool.not_eq_true']at O;obtain⟨B,m,z⟩:=O;refine⟨B,?_,λo A e T y=>?_⟩
  .cases K:d[i]? with
   |none=>rw[Array.getElem?_eq_none_iff]at K;omega
   |some b=>rw[K]at m;simp at m;rw[m]
  .rw[A]at z
   simp only[Option.map_some,Option.getD_some]at z;rw[<-Array.all_toList]at z;simp only[List.all_eq_true,Bool.or_eq_true,Bool.not_eq_true']at z;rcases z e T with h|h
   .rw[y]at h;simp at h
   .cases hle:d[e.on]? with
    |none=>rw[hle]at h;simp at h
    |some b=>rw[hle]at h;simp at h;rw[h]
 intro k
 induction k with
 |zero=>
  intro d C f a w u Z h;have s:∀j,j<X.ls.length->d[j]? = some true:=λj R=>by
   cases g:d[j]? with
   |none=>rw[Array.getElem?_eq_none_iff]at g;omega
   |some b=>
    cases b with
    |true=>rfl
    |false=>
     have:false∈d.toList.filter (·== false):=by
      rw[List.mem_filter];exact⟨by rw[Array.mem_toList_iff];exact Array.mem_of_getElem? g,rfl⟩
     have:=List.length_pos_of_mem this;omega
  refine⟨?_,V _ C f a w h s⟩;cases H:Region.ready .any X.ops.toArray d with
  |nil=>rfl
  |cons i r=>
   obtain⟨B,m,_⟩:=J d i u (by rw[H];simp)
   rw[s i B]at m;simp at m
 |succ k I=>
  intro d C f a w u Z h;refine⟨λH=>V _ C f a w h (G d u H),λi O=>?_⟩;obtain⟨B,m,z⟩:=J d i u O;obtain⟨o,l,A,Y,S⟩:=X.at_ B;have L:i<d.size:=by omega
  refine wpOpIn_mono (λa' w' ⟨C', f', h'⟩=>I _ C' f' a' w' (by simp[u]) ?_ ?_) (h.next B (by rw[m];simp) (aaj F A S h.closed (z o A)) Q)
  .have M:(d.setIfInBounds i true).toList=d.toList.set i true:=by simp
   rw[M];have N:∀(l:List Bool) (n:Nat),l[n]? = some false->((l.set n true).filter (·== false)).length+1=(l.filter (·== false)).length:=by
    intro l
    induction l with
    |nil=>intro n E;simp at E
    |cons x r I=>
     intro n E;cases n with
     |zero=>simp at E;subst E;simp
     |succ n=>
      simp at E;have:=I n E;cases x<;>simp_all
   have:=N d.toList i (by rw[Array.getElem?_toList];exact m)
   omega
  .have:(λj=>d[j]? = some true\/j=i)=λj=>(d.setIfInBounds i true)[j]? = some true:=by
    funext j
    rw[Array.getElem?_setIfInBounds]
    by_cases e:i=j
    .subst e;simp[L]
    .have e' : j ≠ i:=λq=>e q.symm
     simp[e,e']
   rw[<-this];exact h'
end
variable{draw:Bool}{ops:List Oper}{sl:List Nat}{nt id:Nat}{s s': St}{ids:Nat->Nat}{I:Nat->Prop}
def aal{rd:Option Nat}{r:gi}{ce:CE}{ds:List Deferred}{a:Act}{w:World}{Q:Exit->Act->World->Prop}(B:P.follows .mixedOrders=true)
  (d:vK P draw ops sl nt r=true) (l:cw P ce) (m:dZ P ce) (g:dc ce r s=some s') (h:Rel sl nt ds s (af s.σ ids I) a w)
  (x:∀b I' i w', Rel sl nt ds s' (af s'.σ b I') i w' ->Step (af s.σ ids I) w (af s'.σ b I') w' ->Q .normal i w'):(Code.region id ops.toArray draw).wpIn (fw rd) 0 P Q a w:=by
 simp only[vK,Bool.and_eq_true,beq_iff_eq,List.all_eq_true,List.mem_range]at d;obtain⟨⟨⟨n,E⟩,F⟩,_⟩:=d;unfold dc at g;cases o:lines ce s.vars r.ls ⟨[],s.σ,s.σ⟩with
 |none=>simp[o]at g
 |some q=>
  simp only[o,Option.some.injEq]at g;obtain⟨st,e0,G,p⟩:=NX o
  let X:RC P:=⟨draw,N0 ops,ops,r.ls,sl,nt,ce,s.vars,s.σ,st,n,E,e0,p,l,m⟩
  have fin:∀(u:World) (y:Step (af s.σ ids I) w (af s.σ ids I) u) D C f a w', Inv X (af s.σ ids I) u ds D C f a w' ->(∀j,j<X.ls.length->D j)->Q .normal a w' :=by
   intro u y D C f i w' H J;obtain⟨b, I', z,A⟩:=H.full J (r:=r) rfl F (vs:=s.vars) rfl _ rfl;have e:(X.st X.ls.length)=q:=G;rw[e]at z A;rw[<-g]at x;exact x b I' i w' z (y.trans A)
  cases draw with
  |false=>
   refine wpIn_region ?_;have:=Om (rd:=rd) (X:=X) (Q:=Q) rfl (fin w (Step.refl _ _)) X.ls.length (λ_=>False) _ 0 a w (Nat.le_refl _) (λj=>by simp) (Inv.mk0 rfl rfl h)
   rw[Nat.sub_self]at this;rw[List.size_toArray,n,List.range_eq_range'];exact this
  |true=>
   refine wpIn_region_any B ?_;have hd:Step (af s.σ ids I) w (af s.σ ids I) {w with drawn:=w.drawn+1}:=⟨fZ.refl _ _,Nat.le_refl _,λ_ _ _=>rfl,λ_ h=>.inl h,λ_ h=>.inl h,rfl,⟨rfl,Nat.le_succ _⟩,rfl⟩
   have K : Rel sl nt ds s (af s.σ ids I) a {w with drawn:=w.drawn+1}:=⟨⟨h.good.I,h.good.lV,h.good.live,h.good.apart,h.good.maps⟩,h.size,h.defers,h.vars,h.fl⟩
   rw[List.size_toArray,n];refine aak (X:=X) rfl (fin _ hd) r.ls.length (Array.replicate r.ls.length false) (af s.σ ids I) 0 a _ (by simp[X]) (Nat.le_trans (List.length_filter_le _ _) (by simp)) ?_
   have e:(λ_:Nat=>False)=λj:Nat=>(Array.replicate r.ls.length false)[j]? = some true:=by
    funext j
    simp[Array.getElem?_replicate]
   rw[<-e];exact Inv.mk0 rfl rfl K
def aam{r:gi}{ce:CE}{ds:List Deferred}{a:Act}{w:World}{Q:Exit->Act->World->Prop}(j:P.follows .mixedOrders=true)
  (d:vK P draw ops sl nt r=true) (e:cw P ce) (g:dZ P ce) (l:dc ce r s=some s') (h:Rel sl nt ds s (af s.σ ids I) a w)
  (m:∀b I' i w', Rel sl nt ds s' (af s'.σ b I') i w' ->Step (af s.σ ids I) w (af s'.σ b I') w' ->Q .normal i w'):(Code.region id ops.toArray draw).wp P Q a w:=
 wpIn_wide.1 (aal (rd:=none) j d e g l h m)
end Ab
namespace Ab
open Go
def lL{p:Nat->Bool}:∀{σ:List al}{n b:Nat},aq (bG p n σ) b=(aq σ b).map λB=>if p (n+b)then⟨B.k,B.cells,.dead⟩else B
 | [],_,_=>rfl
 |B::r,n,0=>by simp[bG,aq]
 |B::r,n,b+1=>by
  simp only[bG,aq];rw[lL,show n+1+b=n+(b+1)by omega]
variable{p:Nat->Bool}{ids:Nat->Nat}{I I': Nat->Prop}{b u:Nat}
def py{σ:List al}{e:al×Nat}:(af (bG p 0 σ) ids I').own b u=some e↔p b=false/\(af σ ids I).own b u=some e:=by
 simp only[af,lL,Nat.zero_add];cases a:aq σ b with
 |none=>simp
 |some B=>
  simp only[Option.map_some];cases d:p b with
  |true=>simp
  |false=>simp
variable{bY: Nat->Nat}
def Gj{σ:List al}{ids: Nat->Nat}:(af (bG p 0 σ) ids I').lim b u↔(af σ bY I).lim b u:=by
 simp only[af,lL,Nat.zero_add];cases d:aq σ b with
 |none=>simp
 |some B=>
  cases a:p b<;>simp[a]
variable{x y:AV}{v:Value}
def aan{σ:List al}{I:Nat->Prop}{w:World}(p:Nat->Bool) (d:Good (af σ ids I) w) (J:view (bG (λb=>!p b) 0 σ) false vd x=some y) (K:VR (af σ ids I) w.heap x v) :
  ∃I', Good (af (bG p 0 σ) ids I') w/\Step (af σ ids I) w (af (bG p 0 σ) ids I') w/\VR (af (bG p 0 σ) ids I') w.heap y v:=by
 let I' : Nat->Prop:=λk=>I k\/owned (af (bG (λb=>!p b) 0 σ) ids I) k
 obtain⟨L,M⟩:=Good.shrink (C2:=af (bG (λb=>!p b) 0 σ) ids I) d rfl (λb u e h=>(py.1 h).2) (λb u h=>Gj.2 h);have q:∀k,owned (af (bG (λb=>!p b) 0 σ) ids I) k->owned (af σ ids I) k:=λk ⟨b,u,B,h,g⟩=>⟨b,u,B,(py.1 h).2,g⟩;have ev:fZ (af σ ids I) w.heap (af (bG p 0 σ) ids I') w.heap:=by
  refine⟨λk a=>.inl a,λ_ _=>rfl,λb u h=>Gj.2 h,λb u A id _ j=>⟨A, (py.1 j).2,rfl,rfl,λc el N=>⟨c,N,rfl⟩⟩⟩
 refine⟨I', ⟨λk a=>a.elim (d.I k) λh=>d.lt (q k h),λb u B id j=>?_,λb u B id j g=>?_,λb1 W X i1 Y Z B2 i2 r O s P C=>d.apart _ _ _ _ _ _ _ _ (py.1 r).2 O (py.1 s).2 P C,λb u B id es j g=>?_⟩,
  ⟨ev,Nat.le_refl _,λ_ _ _=>rfl,λk ⟨b,u,B,h,g⟩=>.inl ⟨b,u,B,(py.1 h).2,g⟩,λk a=>a.elim .inl λh=>.inr (.inl (q k h)),rfl,⟨rfl,Nat.le_refl _⟩,rfl⟩,?_⟩
 .obtain⟨r,s,D,E⟩:=d.lV b u B id (py.1 j).2
  exact⟨Gj.2 r,s,D,E⟩
 .obtain⟨F,o⟩:=(py (I:=I)).1 j
  obtain⟨r,c,el,s,D,E⟩:=d.live b u B id o g;refine⟨λa=>?_,c,el,s,D,λi x Q=>?_⟩
  .rcases a with a|⟨G, R, A, l, m⟩
   .exact r a
   .obtain⟨z,H⟩:=(py (I:=I)).1 l
    have n:G ≠ b:=λe=>by
     subst e;rw[F]at z;simp at z
    exact d.apart _ _ _ _ _ _ _ _ H m o (l7 g) n rfl
  .obtain⟨y,S,T,U⟩:=E i x Q
   exact⟨y,S,VR.mono ev _ _ T,U⟩
 .obtain⟨F,o⟩:=(py (I:=I)).1 j
  refine d.df (C' :=af (bG p 0 σ) ids I') ev o g rfl λa=>?_;rcases a with a|⟨G, R, A, l, m⟩
  .exact(d.maps b u B id es o g).1 a
  .obtain⟨z,H⟩:=(py (I:=I)).1 l
   have n:G ≠ b:=λe=>by
    subst e;rw[F]at z;simp at z
   exact d.apart _ _ _ _ _ _ _ _ H m o (l0 g) n rfl
 .exact(Bh (C2:=af (bG p 0 σ) ids I') (λb u B _ V=>⟨_,nX ids I V⟩) L (fr:=false) ⟨λ_ k a=>.inl a,λk a=>.inr a⟩ vd x y v J (VR.mono M.ev _ _ K)).2
def On:AV->AV
 |.aF _ l=>.aF true l
 |x=>x
variable{C2:Ctx}
def aao{σ:List al}{I:Nat->Prop}{w:World}(d:eE σ x=true) (g:VR (af σ ids I) w.heap x v) (i:VR C2 w.heap y v) :
  VR C2 w.heap (On y) v:=by
 have j:v ≠ .slice none 0 0:=by
  cases x<;>simp only[eE]at d<;>try(simp at d;done)
  .rename_i p l
   subst d;unfold VR at g;rcases g.2 with⟨_,a,h,d⟩|⟨_,_,_,_,_,_,_,h,_⟩
   .obtain⟨q,rfl⟩:=Option.isSome_iff_exists.1 (d rfl);rw[h];simp
   .rw[h];simp
  .rename_i b u off len
   cases m:upto σ b u with
   |none=>simp[m]at d
   |some B=>
    simp only[m]at d;have r:B.st = .live:=by revert d;cases B.st<;>simp
    unfold VR at g;have:=g.2.2 B _ (nX ids I m);rw[r]at this;obtain⟨c,el,o,cap,_,e,_⟩:=this;rw[e];simp
 cases y with
 |aF p l=>
  unfold On;unfold VR at i ⊢;refine⟨i.1,?_⟩;rcases i.2 with h|h
  .obtain⟨s,a,n,_⟩:=h
   refine .inl ⟨s,a,n,λ_=>?_⟩;cases a with
   |none=>exact absurd n j
   |some q=>rfl
  .exact .inr h
 |_=>exact i
def BK{C C2:Ctx}{H:Array Obj}{q:AV->Bool}(b:∀x v,q x=true->VR C H x v->VR C2 H x v):∀{l:List AV}{vs:List Value},l.all q=true->cj C H l vs->cj C2 H l vs
 | [],_,_,h=>h
 |x::r,_,a,⟨v,s,e,d,g⟩=>by
  simp only[List.all_cons,Bool.and_eq_true]at a;exact⟨v,s,e,b x v a.1 d,BK b a.2 g⟩
variable{m:Nat}
def aap{C:Ctx}{H:Array Obj}(z:C2.I=C.I) (s:∀b u e,b<m->C2.own b u=some e->C.own b u=some e) (w:∀b u,b<m->C.lim b u->C2.lim b u) :
  ∀(x:AV) (v:Value),mg m x=true->VR C H x v->VR C2 H x v:=by
 have a:oU C H C2 H:=⟨λk h=>by rw[z];exact h,λ_ _=>rfl⟩
 have o:∀b u off len v,b<m->VR C H (.sl b u off len) v->VR C2 H (.sl b u off len) v:=λb u off len v j h=>by
  unfold VR at h ⊢;exact⟨h.1,w b u j h.2.1,λB id g=>h.2.2 B id (s b u _ j g)⟩
 have p:∀b u off v,b<m->VR C H (.ptr b u off) v->VR C2 H (.ptr b u off) v:=λb u off v j h=>by
  unfold VR at h ⊢;exact⟨h.1,w b u j h.2.1,λB id g=>h.2.2 B id (s b u _ j g)⟩
 have q:∀b v,b<m->VR C H (.cP b) v->VR C2 H (.cP b) v:=λb v j h=>by
  unfold VR at h ⊢;exact⟨h.1,w b 0 j h.2.1,λB id g=>h.2.2 B id (s b 0 _ j g)⟩
 have n:∀(x:AV) v,wH m x=true->VR C H x v->VR C2 H x v:=λx v d h=>by
  cases x with
  |cP b=>exact q b v (by simpa[wH]using d) h
  |sl b u off len=>exact o b u off len v (by simpa[wH]using d) h
  |ptr b u off=>exact p b u off v (by simpa[wH]using d) h
  |aO=>unfold VR;trivial
  |_=>exact VR.free a _ _ (by simpa[wH]using d) h
 intro x v d h;cases x with
 |sl b u off len=>exact o b u off len v (by simpa[mg]using d) h
 |ptr b u off=>exact p b u off v (by simpa[mg]using d) h
 |cP b=>exact q b v (by simpa[mg]using d) h
 |aO=>unfold VR;trivial
 |arr l=>simp[mg]at d
 |agg l=>
  unfold VR at h ⊢;obtain⟨r,e,i, A⟩:=h;exact⟨r,e,BK n d i, A⟩
 |bM l=>
  unfold VR at h ⊢;obtain⟨r,e,i⟩:=h;exact⟨r,e,BK n d i⟩
 |func f l=>
  unfold VR at h ⊢;obtain⟨r,e,i⟩:=h;exact⟨r,e,BK n d i⟩
 |iface t y=>exact VR.free a _ _ (by simpa[mg,aR]using d) h
 |aF D l=>
  have:aC l=true:=by unfold VR at h;exact h.1
  exact VR.free a _ _ (by simpa[aR]using this) h
 |a8 y=>
  have:aR y=true:=by unfold VR at h;exact h.1
  exact VR.free a _ _ (by simpa[aR]using this) h
 |_=>exact VR.free a _ _ rfl h
def Gk{n:Nat}:∀{m:Nat}{σ:List al},uF n m σ=true->∀b B,b<m->aq σ b=some B->B.cells.all (mg n)=true/\NV n B.st=true
 |0,_,_,b,_,d,_=>absurd d (Nat.not_lt_zero b)
 |m+1,[],_,b,B,_,h=>by simp[aq]at h
 |m+1,e::r,h,b,B,d,a=>by
  simp only[uF,Bool.and_eq_true]at h;cases b with
  |zero=>simp[aq]at a;subst a;exact h.1
  |succ b=>exact Gk h.2 b B (by omega) (by simpa[aq]using a)
def Oo{σ:List al}:aq (σ.take m) b=if b<m then aq σ b else none:=by
 rw[dt,dt,List.getElem?_take]
def aaq{σ a : List al}{ids: Nat->Nat}{w w' : World}(E:Good (af a bY I') w') (o:Step (af σ ids I) w (af a bY I') w') (G:uF σ.length σ.length a = true) :
  Good (af (a.take σ.length) bY I') w' /\Step (af σ ids I) w (af (a.take σ.length) bY I') w' /\∀x v,mg σ.length x=true->VR (af a bY I') w'.heap x v->VR (af (a.take σ.length) bY I') w'.heap x v:=by
 have d:∀b u e,(af (a.take σ.length) bY I').own b u=some e->b<σ.length/\(af a bY I').own b u=some e:=λb u e h=>by
  simp only[af,Oo]at h ⊢
  by_cases p:b<σ.length
  .simp only[p,if_true]at h;exact⟨p,h⟩
  .simp[p]at h
 have r:∀b u,b<σ.length->(af a bY I').lim b u->(af (a.take σ.length) bY I').lim b u:=λb u p ⟨B,n,z⟩=>⟨B,by rw[Oo,if_pos p];exact n,z⟩
 have low:=aap (H:=w'.heap) (m:=σ.length) (C:=af a bY I') (C2:=af (a.take σ.length) bY I') rfl (λb u e _ h=>(d b u e h).2) r;have K:∀b u,(af σ ids I).lim b u->b<σ.length:=λb u ⟨B,n,_⟩=>by rw[dt]at n;exact(List.getElem?_eq_some_iff.1 n).1
 refine⟨⟨E.I,λb u B id D=>?_,λb u B id D A=>?_,λb1 Y Z i1 b2 u2 B2 i2 n R z S L=>E.apart _ _ _ _ _ _ _ _ (d _ _ _ n).2 R (d _ _ _ z).2 S L,λb u B id es D A=>?_⟩,
  ⟨⟨o.ev.aF,o.ev.same,λb u h=>r b u (K b u h) (o.ev.lim b u h),λb u T id h D=>o.ev.own b u T id h (d _ _ _ D).2⟩,o.size,o.frame,λk ⟨b,u,B,h,G⟩=>o.gn k ⟨b,u,B,(d _ _ _ h).2,G⟩,o.gL,o.os,o.tape,o.output⟩,low⟩
 .obtain⟨p,g⟩:=d _ _ _ D
  obtain⟨n,z,F,M⟩:=E.lV b u B id g;exact⟨r b u p n,z,F,M⟩
 .obtain⟨p,g⟩:=d _ _ _ D
  obtain⟨n,c,el,z,F,M⟩:=E.live b u B id g A;obtain⟨N,_⟩:=yx g;have j:=(Gk G b B p N).1;refine⟨n,c,el,z,F,λi x Q=>?_⟩;obtain⟨y,J,O,U⟩:=M i x Q;exact⟨y,J,low x y (List.all_eq_true.1 j x (List.mem_of_getElem? Q)) O,U⟩
 .obtain⟨p,g⟩:=d _ _ _ D
  obtain⟨n,l,c,z,F⟩:=E.maps b u B id es g A;obtain⟨N,_⟩:=yx g;have j:=(Gk G b B p N).2;rw[A]at j;refine⟨n,l,c,z,?_⟩;have go:∀{es:List (AV×AV)} {l:List MapEntry},(es.all λe=>mg σ.length e.2)=true->MR (af a bY I') w'.heap es l->MR (af (a.take σ.length) bY I') w'.heap es l:=by
   intro es
   induction es with
   |nil=>intro l _ h;exact h
   |cons e es V=>
    obtain⟨k,x⟩:=e;rintro l P ⟨e,s,q,⟨J,O⟩,W,X⟩;simp only[List.all_cons,Bool.and_eq_true]at P;exact⟨e,s,q,⟨J,VR.free (show oU (af a bY I') w'.heap (af (a.take σ.length) bY I') w'.heap from⟨λ_ h=>h,λ_ _=>rfl⟩) _ _ J O⟩,low _ _ P.1 W,V P.2 X⟩
  exact go j F
end Ab
namespace Ab
open Go
variable{P:Program}
def iU (P:Program) (sl:List Nat) (nt:Nat):IC->Code->Bool
 |.skip,.skip=>true
 |.skip,.label _=>true
 |.bad,_=>true
 |.cut b a,.cond (.const (.bool d)) x y=>b==d && iU P sl nt a (if b then x else y)
 |.Eu a,.scope x=>iU P sl nt a x
 |.cF r,.region _ ops draw=>vK P draw ops.toList sl nt r
 |.seq a b,c=>match b with
  |.ji k=>decide (k<sl.length)&&iU P sl nt a c
  |_=>match c with
   |.seq x y=>iU P sl nt a x&&iU P sl nt b y
   |_=>false
 |.cond t a b,.cond (.tmp e) x y=>t==e && iU P sl nt a x&&iU P sl nt b y
 |.jN k a b,.cond (.tmp t) x y=>sl[k]? == some t&&iU P sl nt a x&&iU P sl nt b y
 |.block id a,.block id' x=>id==id' && iU P sl nt a x
 |.loop a,.loop x=>iU P sl nt a x
 |.exit id,.exit id' =>id==id'
 |.ret,.ret=>true
 |.lex a,c=>iU P sl nt a c
 |_,_=>false
def BM:Ex->Exit
 |.eQ=>.normal
 |.exit id=>.exit id
 |.ret=>.ret
def least{p:Nat->Prop}:∀{n:Nat},p n->∃k,p k/\∀m,m<k->¬p m:=by
 intro n
 induction n using Nat.strongRecOn with
 |ind n e=>
  intro h
  by_cases d:∃m,m<n/\p m
  .obtain⟨m,a,b⟩:=d
   exact e m a b
  .exact⟨n,h,λm a b=>d ⟨m,a,b⟩⟩
open Classical in
def aar{c:Code}{Q:Exit->Act->World->Prop}{a:Act}{w:World}(J:Nat->Act->World->Prop){k:Nat}(o:J k a w) (q:∀a w,¬J 0 a w) (round:∀k a w,J (k+1) a w->c.wp P (Exit.then (J k) Q) a w):(Code.loop c).wp P Q a w:=by
 let b:Act->World->Nat:=λa w=>if h:∃k,J k a w/\∀m,m<k->¬J m a w then choose h else 0
 have d:∀a w k,J k a w->J (b a w) a w/\b a w<=k:=λa w k g=>by
  have h:=least (p:=λk=>J k a w) g;have e:b a w=choose h:=dif_pos h;have n:=choose_spec h;rw[e];exact⟨n.1,Nat.le_of_not_lt λi=>n.2 k i g⟩
 refine wp_loop (λa w=>∃k,J k a w) b ⟨k,o⟩ λa w ⟨k,g⟩=>?_;obtain⟨j,_⟩:=d a w k g;generalize u:b a w=m at j;cases m with
 |zero=>exact absurd j (q a w)
 |succ m=>
  refine wp_mono (round m a w j) λe r s l=>?_;cases e with
  |normal=>exact⟨⟨m,l⟩,Nat.lt_succ_of_le (d r s m l).2⟩
  |_=>exact l
def aas{sl:List Nat}{nt:Nat}{ds:List Deferred}{n:Nat}{ce:CE}(hm:P.follows .mixedOrders=true) (qT:cw P ce) (xW:dZ P ce) :
  ∀(ic:IC) (c:Code) (s:St) (e:Ex) (s' : St) (ids:Nat->Nat) (I:Nat->Prop) (a:Act) (w:World) (Q:Exit->Act->World->Prop),iU P sl nt ic c=true->exec n ce ic s=some (e,s')->Rel sl nt ds s (af s.σ ids I) a w->
   (∀bY I' a' w', Rel sl nt ds s' (af s'.σ bY I') a' w' ->Step (af s.σ ids I) w (af s'.σ bY I') w' ->Q (BM e) a' w')->c.wp P Q a w:=by
 intro ic
 induction ic with
 |skip=>
  intro c s e s' ids I a w Q dw he h hQ;cases c<;>try(simp[iU]at dw;done)
  .simp only[exec,Option.some.injEq,Prod.mk.injEq]at he
   obtain⟨rfl,rfl⟩:=he;exact wp_skip (hQ ids I a w h (Step.refl _ _))
  .simp only[exec,Option.some.injEq,Prod.mk.injEq]at he
   obtain⟨rfl,rfl⟩:=he;exact wp_label (hQ ids I a w h (Step.refl _ _))
 |bad=>
  intro c s e s' ids I a w Q dw he h hQ;simp[exec]at he
 |cut b x ih=>
  intro c s e s' ids I a w Q dw he h hQ;cases c<;>try(simp[iU]at dw;done)
  rename_i c0 x' y';cases c0<;>try(simp[iU]at dw;done)
  rename_i v;cases v<;>try(simp[iU]at dw;done)
  rename_i b';simp only[iU,Bool.and_eq_true,beq_iff_eq]at dw;obtain⟨rfl,dw⟩:=dw;simp only[exec]at he;refine wp_cond (t:=b) rfl ?_;exact ih _ s e s' ids I a w Q dw he h hQ
 |Eu x ih=>
  intro c s e s' ids I a w Q dw he h hQ;cases c<;>try(simp[iU]at dw;done)
  rename_i c;simp only[iU]at dw;simp only[exec]at he;refine wp_scope_straight ?_;refine ih c s e s' ids I a w _ dw he h λbY I' a' w' h' Br =>?_;have:=hQ bY I' a' w' h' Br;cases e<;>exact this
 |cF r=>
  intro c s e s' ids I a w Q dw he h hQ;cases c<;>try(simp[iU]at dw;done)
  rename_i id ops draw;simp only[exec]at he;cases hr:dc ce r s with
  |none=>simp[hr]at he
  |some s1=>
   simp only[hr,Option.some.injEq,Prod.mk.injEq]at he;obtain⟨rfl,rfl⟩:=he;simp only[iU]at dw;have:=aam (id:=id) (Q:=Q) hm dw qT xW hr h hQ
   rwa [Array.toArray_toList]at this
 |seq x y Mw Oq=>
  intro c s e s' ids I a w Q dw he h hQ;simp only[exec]at he;cases hx:exec n ce x s with
  |none=>simp[hx]at he
  |some es=>
   obtain⟨e1,s1⟩:=es;simp only[hx]at he
   by_cases hf:∃k,y = .ji k
   .obtain⟨k,rfl⟩:=hf
    simp only[iU,Bool.and_eq_true,decide_eq_true_eq]at dw;obtain⟨hk,dw⟩:=dw;refine Mw c s e1 s1 ids I a w Q dw hx h λjj I1 a1 w1 h1 st1=>?_;cases e1 with
    |eQ=>
     simp only[exec]at he;split at he
     case h_2=>simp at he
     rename_i v hv;simp only[Option.some.injEq,Prod.mk.injEq]at he;obtain⟨rfl,rfl⟩:=he;have Xt : ∃t,sl[k]? = some t:=⟨_,List.getElem?_eq_getElem hk⟩
     .obtain⟨t,ht⟩:=Xt
      obtain⟨I2,g1,g2,g3⟩:=aan (λb=>(reach s1.σ vd (nth s1.vars k) []).contains b) h1.good hv (h1.vars k t ht);refine hQ jj I2 a1 w1 ⟨g1,h1.size,h1.defers,λj t' hj=>?_,λt' v' BN =>VR.mono g2.ev _ _ (h1.fl t' v' BN)⟩ (st1.trans g2);simp only;rw[Gh]
      by_cases e:j=k/\k<s1.vars.length
      .rw[if_pos e]
       have:t' = t:=by rw[e.1,ht]at hj;simp at hj;exact hj.symm
       subst this
       by_cases hs:eE s1.σ (nth s1.vars k)=true
       .rw[if_pos hs];exact aao hs (h1.vars k t' ht) g3
       .rw[if_neg hs];exact g3
      .rw[if_neg e]
       exact VR.mono g2.ev _ _ (h1.vars j t' hj)
    |exit id=>simp only[Option.some.injEq,Prod.mk.injEq]at he;obtain⟨rfl,rfl⟩:=he;exact hQ jj I1 a1 w1 h1 st1
    |ret=>simp only[Option.some.injEq,Prod.mk.injEq]at he;obtain⟨rfl,rfl⟩:=he;exact hQ jj I1 a1 w1 h1 st1
   .have aat : ∃x' y', c = .seq x' y' /\iU P sl nt x x' = true/\iU P sl nt y y' = true:=by
     unfold iU at dw;split at dw
     .exact absurd ⟨_,rfl⟩ hf
     .split at dw
      .simp only[Bool.and_eq_true]at dw
       exact⟨_,_,rfl,dw.1,dw.2⟩
      .simp at dw
    obtain⟨x', y', rfl,Ot,Ou⟩:=aat;refine wp_seq (Mw x' s e1 s1 ids I a w _ Ot hx h λjj I1 a1 w1 h1 st1=>?_);cases e1 with
    |eQ=>exact Oq y' s1 e s' jj I1 a1 w1 Q Ou he h1 λbY I' a' w' h' Br =>hQ bY I' a' w' h' (st1.trans Br)
    |exit id=>simp only[Option.some.injEq,Prod.mk.injEq]at he;obtain⟨rfl,rfl⟩:=he;exact hQ jj I1 a1 w1 h1 st1
    |ret=>simp only[Option.some.injEq,Prod.mk.injEq]at he;obtain⟨rfl,rfl⟩:=he;exact hQ jj I1 a1 w1 h1 st1
 |cond t x y Mw Oq=>
  intro c s e s' ids I a w Q dw he h hQ;cases c<;>try(simp[iU]at dw;done)
  rename_i c0 x' y';cases c0<;>try(simp[iU]at dw;done)
  rename_i t';simp only[iU,Bool.and_eq_true,beq_iff_eq]at dw;obtain⟨⟨rfl,Ot⟩,Ou⟩:=dw;simp only[exec]at he;split at he
  case h_2=>simp at he
  rename_i t1 b wQ
  by_cases e1:t1=t
  .subst e1
   simp only[beq_self_eq_true,if_true]at he;have hb:a.eval (.tmp t1) = .bool b:=h.fl t1 (.bool b) wQ;have h' : Rel sl nt ds {s with fl:=none} (af s.σ ids I) a w:=⟨h.good,h.size,h.defers,h.vars,λ_ _ q=>by simp at q⟩
   refine wp_cond (t:=b) hb ?_;cases b with
   |true=>exact Mw x' {s with fl:=none} e s' ids I a w Q Ot he h' hQ
   |false=>exact Oq y' {s with fl:=none} e s' ids I a w Q Ou he h' hQ
  .have:(t1==t)=false:=by simpa using e1
   simp[this]at he
 |jN k x y Mw Oq=>
  intro c s e s' ids I a w Q dw he h hQ;cases c<;>try(simp[iU]at dw;done)
  rename_i c0 x' y';cases c0<;>try(simp[iU]at dw;done)
  rename_i t;simp only[iU,Bool.and_eq_true,beq_iff_eq]at dw;obtain⟨⟨hk,Ot⟩,Ou⟩:=dw;simp only[exec]at he;split at he
  case h_2=>simp at he
  rename_i b hv;have hb:a.eval (.tmp t) = .bool b:=by
   have:=h.vars k t hk;rw[hv]at this;exact this
  refine wp_cond (t:=b) hb ?_;cases b with
  |true=>exact Mw x' s e s' ids I a w Q Ot he h hQ
  |false=>exact Oq y' s e s' ids I a w Q Ou he h hQ
 |block id x ih=>
  intro c s e s' ids I a w Q dw he h hQ;cases c<;>try(simp[iU]at dw;done)
  rename_i id' c;simp only[iU,Bool.and_eq_true,beq_iff_eq]at dw;obtain⟨rfl,dw⟩:=dw;simp only[exec]at he;refine wp_block ?_;cases hx:exec n ce x s with
  |none=>simp[hx]at he
  |some es=>
   obtain⟨e1,s1⟩:=es;simp only[hx]at he;refine ih c s e1 s1 ids I a w _ dw hx h λjj I1 a1 w1 h1 st1=>?_;cases e1 with
   |eQ=>simp only[Option.some.injEq,Prod.mk.injEq]at he;obtain⟨rfl,rfl⟩:=he;exact hQ jj I1 a1 w1 h1 st1
   |exit j=>
    simp only at he
    by_cases hj:j=id
    .subst hj
     simp only[beq_self_eq_true,if_true,Option.some.injEq,Prod.mk.injEq]at he;obtain⟨rfl,rfl⟩:=he;simp only[BM,Exit.inBlock,if_true];exact hQ jj I1 a1 w1 h1 st1
    .have:(j==id)=false:=by simpa using hj
     simp only[this,Bool.false_eq_true,if_false,Option.some.injEq,Prod.mk.injEq]at he;obtain⟨rfl,rfl⟩:=he;simp only[BM,Exit.inBlock,hj,if_false];exact hQ jj I1 a1 w1 h1 st1
   |ret=>simp only[Option.some.injEq,Prod.mk.injEq]at he;obtain⟨rfl,rfl⟩:=he;exact hQ jj I1 a1 w1 h1 st1
 |loop x ih=>
  intro c s e s' ids I a w Q dw he h hQ;cases c<;>try(simp[iU]at dw;done)
  rename_i c;simp only[iU]at dw;simp only[exec]at he;refine aar (λk a1 w1=>∃s1 jj I1,iter (exec n ce x) k s1=some (e,s')/\Rel sl nt ds s1 (af s1.σ jj I1) a1 w1/\Step (af s.σ ids I) w (af s1.σ jj I1) w1) (k:=n) ⟨s,ids,I,he,h,Step.refl _ _⟩ (λa1 w1 ⟨s1,_,_,h0,_⟩=>by simp[iter]at h0) ?_
  rintro k a1 w1 ⟨s1,jj,I1,h1,r1,st1⟩;simp only[iter]at h1;cases hx:exec n ce x s1 with
  |none=>simp[hx]at h1
  |some es=>
   obtain⟨e2,s2⟩:=es;simp only[hx]at h1;refine ih c s1 e2 s2 jj I1 a1 w1 _ dw hx r1 λuG I2 a2 w2 r2 st2=>?_;cases e2 with
   |eQ=>exact⟨s2,uG,I2,h1,r2,st1.trans st2⟩
   |exit j=>simp only[Option.some.injEq,Prod.mk.injEq]at h1;obtain⟨rfl,rfl⟩:=h1;exact hQ uG I2 a2 w2 r2 (st1.trans st2)
   |ret=>simp only[Option.some.injEq,Prod.mk.injEq]at h1;obtain⟨rfl,rfl⟩:=h1;exact hQ uG I2 a2 w2 r2 (st1.trans st2)
 |exit id=>
  intro c s e s' ids I a w Q dw he h hQ;cases c<;>try(simp[iU]at dw;done)
  simp only[iU,beq_iff_eq]at dw;subst dw;simp only[exec,Option.some.injEq,Prod.mk.injEq]at he;obtain⟨rfl,rfl⟩:=he;exact wp_exit (hQ ids I a w h (Step.refl _ _))
 |ret=>
  intro c s e s' ids I a w Q dw he h hQ;cases c<;>try(simp[iU]at dw;done)
  simp only[exec,Option.some.injEq,Prod.mk.injEq]at he;obtain⟨rfl,rfl⟩:=he;exact wp_ret (hQ ids I a w h (Step.refl _ _))
 |ji k=>
  intro c s e s' ids I a w Q dw he h hQ;cases c<;>simp[iU]at dw
 |lex x ih=>
  intro c s e s' ids I a w Q dw he h hQ;simp only[iU]at dw;simp only[exec]at he;cases hx:exec n ce x s with
  |none=>simp[hx]at he
  |some es=>
   obtain⟨e1,s1⟩:=es;simp only[hx]at he;refine ih c s e1 s1 ids I a w Q dw hx h λjj I1 a1 w1 h1 st1=>?_;have go:(if(s1.vars.all (mg s.σ.length)&&uF s.σ.length s.σ.length s1.σ&&(match s1.fl with|some _=>false|none=>true))=true then some (e1,({s1 with σ:=s1.σ.take s.σ.length}:St))else none)=some (e,s')->Q (BM e1) a1 w1:=λhe=>by
    by_cases hc:(s1.vars.all (mg s.σ.length)&&uF s.σ.length s.σ.length s1.σ&&(match s1.fl with|some _=>false|none=>true))=true
    case neg=>rw[if_neg hc]at he;simp at he
    rw[if_pos hc]at he;simp only[Bool.and_eq_true]at hc;obtain⟨⟨c1,c2⟩,c3⟩:=hc;simp only[Option.some.injEq,Prod.mk.injEq]at he;obtain⟨rfl,rfl⟩:=he;obtain⟨g1,g2,g3⟩:=aaq h1.good st1 c2;refine hQ jj I1 a1 w1 ⟨g1,h1.size,h1.defers,λj t hj=>?_,λt v hv=>?_⟩ g2
    .refine g3 _ _ ?_ (h1.vars j t hj)
     rw[ta];cases hq:s1.vars[j]? with
     |none=>rfl
     |some q=>exact List.all_eq_true.1 c1 q (List.mem_of_getElem? hq)
    .simp only at hv
     rw[hv]at c3;simp at c3
   cases e1 with
   |eQ=>exact go he
   |exit j=>exact go he
   |ret=>simp only[Option.some.injEq,Prod.mk.injEq]at he;obtain⟨rfl,rfl⟩:=he;exact hQ jj I1 a1 w1 h1 st1
end Ab
namespace Ab
open Go
variable{P:Program}
def kB (P:Program) (sl:List Nat):List ResultVar->List (Nat×Option (Option Nat))->Bool
 | [],[]=>true
 |.tmp t::r,(k,none)::s=>sl[k]? == some t&&kB P sl r s
 |.cell a ty::r,(k,some b)::s=>sl[k]? == some a&&bF P ty b&&kB P sl r s
 |_,_=>false
def qo (P:Program) (f:Nat) (fn:Fn) (sl:List Nat):Bool:=
 match P.funcs[f]? with
 |some a=>cM P f&&(match a.body with
  |some c=>iU P sl a.ntmps fn.body c&&kB P sl a.results.toList fn.res&&decide (fn.np<=a.ntmps)&&(List.range sl.length).all λk=>decide (fn.np<=k)||sl[k]? == some k
  |none=>false)
 |none=>false
def eS (P:Program) (f:Nat) (p:CE->List AV->List al->Option (AV×List al)):Prop:=
 cM P f=true/\∀ce,cw P ce->dZ P ce->∀args d r b, p ce args d=some (r,b)->∀(ids:Nat->Nat) (I:Nat->Prop) (w:World) (i:List Value),Good (af d ids I) w->cj (af d ids I) w.heap args i->
  Calls P f i.toArray w λe g =>∃v a h, e = .returned v/\Good (af b a h) g /\VR (af b a h) g.heap r v/\Step (af d ids I) w (af b a h) g
variable{v:Value}
def aau{s:Sem Value}{w:World}(h:(do let x <-s;pure (Next.value x):Sem Next).run P w = .ok (.value v) w):s.run P w = .ok v w:=by
 simp only[Sem.run_bind]at h;cases b:s.run P w with
 |ok a d =>rw[b]at h;simp[Result.andThen]at h;obtain⟨rfl,rfl⟩:=h;rfl
 |halt x d =>rw[b]at h;simp[Result.andThen]at h
def aav{C:Ctx}{w:World}{σ:List al}{x y:AV}{p:Option cQ}{kd:Option Nat}{ty:TypeId}(hk:bF P ty kd=true) (hg:Good C w) (jV:∀b u B,C.lim b u->upto σ b u=some B->∃id,C.own b u=some (B,id)) (hx:VR C w.heap x v)
  (he:ev (λ_ _ _=>none) σ 0 [] (λ_=>x) (.ld (.v 0) kd)=some (y,p)):∃z,(do loadVar ty (<-asAddr v):Sem Value).run P w = .ok z w/\VR C w.heap y z:=by
 obtain⟨⟨z,h1,h2⟩,_⟩:=yF (P:=P) (ρ:=λ_=>v) (o:=⟨none,.load ty (.tmp 0),0, "",#[],none⟩) (w:=w) (C:=C) rfl hk hg jV hx he;have h3:=aau (s:=Instr.loadAt ty v) h1;refine⟨z,?_,h2⟩;have hp:∃a,v = .pointer (some a):=by
  simp only[ev]at he;cases x<;>try(simp at he;done)
  .unfold VR at hx;obtain⟨_,aq,off,_,_,_,_,e,_⟩:=hx;exact⟨_,e⟩
  .unfold VR at hx;obtain⟨⟨aq,e⟩,_⟩:=hx;exact⟨_,e⟩
 obtain⟨a,rfl⟩:=hp;rw[<-h3];simp only[Instr.loadAt,Instr.sureAddr,asAddr,Sem.run_bind,Sem.run_pure,Result.andThen_ok]
def rT (tmps:Array Value):ResultVar->Sem Value
 |.tmp t=>pure (tmps.getD t undef)
 |.cell a t=>do loadVar t (<-asAddr (tmps.getD a undef))
def aaw (a:Func) (tmps:Array Value):Go.results a tmps=(do
  let vs <-a.results.mapM (rT tmps)
  pure (if h:vs.size=1 then vs[0]else .tuple vs)):=by
 unfold Go.results
 congr 2
def Gl{sl:List Nat}{nt:Nat}{ds:List Deferred}{s:St}{ids:Nat->Nat}{I:Nat->Prop}{a:Act}{w:World}(h:Rel sl nt ds s (af s.σ ids I) a w) :
  ∀(rs:List ResultVar) (g:List (Nat×Option (Option Nat))) (xs:List AV),kB P sl rs g=true->bJ (lg s) g=some xs->
   ∃vs,(rs.mapM (rT a.tmps)).run P w = .ok vs w/\cj (af s.σ ids I) w.heap xs vs
 | [],[],xs,_,e=>by
  simp[bJ]at e;subst e;exact⟨[],by simp,rfl⟩
 |.tmp t::rs,(k,none)::g,xs,d,e=>by
  simp only[kB,Bool.and_eq_true,beq_iff_eq]at d;simp only[bJ,lg]at e;cases i:bJ (lg s) g with
  |none=>simp[i]at e
  |some j=>
   simp[i]at e;subst e;obtain⟨vs,l,m⟩:=Gl h rs g j d.2 i;exact⟨_::vs,by simp[List.mapM_cons,rT,l],_,_,rfl,h.vars k t d.1,m⟩
 |.cell q ty::rs,(k,some o)::g,xs,d,e=>by
  simp only[kB,Bool.and_eq_true,beq_iff_eq]at d;simp only[bJ,lg]at e;cases n:ev (λ_ _ _=>none) s.σ 0 [] (λ_=>nth s.vars k) (.ld (.v 0) o)with
  |none=>simp[n]at e
  |some r=>
   obtain⟨y,p⟩:=r;simp only[n]at e;cases i:bJ (lg s) g with
   |none=>simp[i]at e
   |some j=>
    simp[i]at e;subst e;obtain⟨vs,l,m⟩:=Gl h rs g j d.2 i;obtain⟨z,x,A⟩:=aav d.1.2 h.good (λb u B _ C=>⟨_,nX ids I C⟩) (h.vars k q d.1.1) n;refine⟨z::vs,?_,_,_,rfl,A,m⟩;rw[List.mapM_cons,Sem.run_bind,show(rT a.tmps (.cell q ty)).run P w = .ok z w from x];simp[l]
 | [],_::_,_,d,_=>by simp[kB]at d
 |.tmp _::_,[],_,d,_=>by simp[kB]at d
 |.cell .. :: _,[],_,d,_=>by simp[kB]at d
 |.tmp _::_,(_,some _)::_,_,d,_=>by simp[kB]at d
 |.cell .. :: _,(_,none)::_,_,d,_=>by simp[kB]at d
def BO{G:Nat->Option Fn}{Q:kv}{n:Nat}(hm:P.follows .mixedOrders=true) (hG:∀f fn,G f=some fn->∃sl,qo P f fn sl=true) (hQ:∀f p,Q f=some p->eS P f p):∀d,cw P (dN G Q n d)/\dZ P (dN G Q n d)
 |0=>⟨λf args σ r cR h=>by simp[dN]at h,λf args σ r h=>by simp[dN]at h⟩
 |d+1=>by
  obtain⟨nw,oz⟩:=BO (n:=n) hm hG hQ d;refine⟨λf args σ r cR h ids I w vs hg hv=>?_,λf args σ r h=>?_⟩
  .simp only[dN]at h
   cases hq:Q f with
   |some p=>
    simp only[hq]at h;exact(hQ f p hq).2 _ nw oz args σ r cR h ids I w vs hg hv
   |none=>
    simp only[hq]at h;cases Mx:G f with
    |none=>simp[Mx]at h
    |some fn=>
     simp only[Mx]at h;split at h
     case isFalse=>simp at h
     rename_i hlen;simp only[beq_iff_eq]at hlen;cases he:exec n (dN G Q n d) fn.body {vars:=args++List.replicate (fn.nv-fn.np) .aO,fl:=none,σ}with
     |none=>simp[he]at h
     |some es=>
      obtain⟨e,s⟩:=es;simp only[he]at h;obtain⟨sl,dw⟩:=hG f fn Mx;unfold qo at dw;cases yT:P.funcs[f]? with
      |none=>simp[yT]at dw
      |some pf=>
       simp only[yT,Bool.and_eq_true]at dw;obtain⟨_,dw⟩:=dw;cases yV:pf.body with
       |none=>simp[yV]at dw
       |some c=>
        simp only[yV,Bool.and_eq_true,decide_eq_true_eq,List.all_eq_true,List.mem_range,Bool.or_eq_true,beq_iff_eq]at dw;obtain⟨⟨⟨o1,o2⟩,o3⟩,o4⟩:=dw;have xR:vs.length=fn.np:=(cj.length hv).trans hlen;have aax:Rel sl pf.ntmps [] {vars:=args++List.replicate (fn.nv-fn.np) .aO,fl:=none,σ} (af σ ids I) {tmps:=vs.toArray++Array.replicate (pf.ntmps-vs.toArray.size) undef,defers:=[]} w:=by
         refine⟨hg,by simp;omega,rfl,λk t hk=>?_,λ_ _ q=>by simp at q⟩
         have Gi:k<sl.length:=(List.getElem?_eq_some_iff.1 hk).1;rcases o4 k Gi with Xn|heq
         .have:nth (args++List.replicate (fn.nv-fn.np) .aO) k = .aO:=by
           rw[ta,List.getElem?_append_right (by omega),List.getElem?_replicate]
           split<;>rfl
          rw[this];unfold VR;trivial
         .by_cases hkn:k<fn.np
          .rw[heq]at hk;simp at hk;subst hk
           have hka:k<args.length:=by omega
           obtain⟨v,k1,k2⟩:=hv.get k _ (List.getElem?_eq_getElem hka);have e1:nth (args++List.replicate (fn.nv-fn.np) .aO) k=args[k]:=by
            rw[ta,List.getElem?_append_left hka,List.getElem?_eq_getElem hka];rfl
           have e2:(vs.toArray++Array.replicate (pf.ntmps-vs.toArray.size) undef).getD k undef=v:=by
            rw[Array.getD_eq_getD_getElem?,Array.getElem?_append_left (by simp;omega),List.getElem?_toArray,k1];rfl
           rw[e1];show VR _ _ _ ((vs.toArray++Array.replicate (pf.ntmps-vs.toArray.size) undef).getD k undef);rw[e2];exact k2
          .have:nth (args++List.replicate (fn.nv-fn.np) .aO) k = .aO:=by
            rw[ta,List.getElem?_append_right (by omega),List.getElem?_replicate]
            split<;>rfl
           rw[this];unfold VR;trivial
        have Gm:results fn s=some r/\s.σ=cR /\∀j,e ≠ .exit j:=by
         cases e with
         |exit j=>simp at h
         |eQ=>
          simp only[Option.map_eq_some_iff,Prod.mk.injEq]at h;obtain⟨q,h1,rfl,h2⟩:=h;exact⟨h1,h2,λj q=>by simp at q⟩
         |ret=>
          simp only[Option.map_eq_some_iff,Prod.mk.injEq]at h;obtain⟨q,h1,rfl,h2⟩:=h;exact⟨h1,h2,λj q=>by simp at q⟩
        obtain⟨hr,rfl,eP⟩:=Gm;refine calls_of_wp yT yV (aas (sl:=sl) (nt:=pf.ntmps) (ds:=[]) hm nw oz fn.body c _ e s ids I _ w _ o1 he aax λbY I' a' w' h' Br =>?_);have key:a'.defers=[]/\∃v,(Go.results pf a'.tmps).run P w' = .ok v w' /\∃v1 bY I', Ending.returned v = .returned v1/\Good (af s.σ bY I') w' /\VR (af s.σ bY I') w'.heap r v1/\Step (af σ ids I) w (af s.σ bY I') w' :=by
         refine⟨h'.defers,?_⟩;unfold results at hr;cases hxs:bJ (lg s) fn.res with
         |none=>simp[hxs]at hr
         |some xs=>
          obtain⟨zs,g1,g2⟩:=Gl h' pf.results.toList fn.res xs o2 hxs;refine⟨if hz:zs.toArray.size=1 then zs.toArray[0]else .tuple zs.toArray,?_,_,bY, I', rfl,h'.good,?_,Br⟩
          .rw[aaw,Sem.run_bind,Array.mapM_eq_mapM_toList,Sem.run_map,g1]
           rfl
          .simp only[hxs]at hr
           have hl:=cj.length g2;have many:∀l,xs=l->l.length ≠ 1->r = .bM l->VR (af s.σ bY I') w'.heap r (if hz:zs.toArray.size=1 then zs.toArray[0]else .tuple zs.toArray):=λl e1 e2 e3=>by
            subst e1;subst e3;rw[dif_neg (by simp;omega)]
            unfold VR;exact⟨zs,rfl,g2⟩
           cases xs with
           |nil=>exact many [] rfl (by simp) (by simpa using hr.symm)
           |cons x t=>
            cases t with
            |nil=>
             simp at hr;subst hr;obtain⟨v,t,e1,e2,e3⟩:=g2;have e3:t=[]:=e3;subst e3;subst e1;simpa using e2
            |cons y t=>exact many (x::y::t) rfl (by simp) (by simpa using hr.symm)
        cases e with
        |exit j=>exact absurd rfl (eP j)
        |eQ=>exact key
        |ret=>exact key
  .simp only[dN]at h
   cases hq:Q f with
   |some p=>exact(hQ f p hq).1
   |none=>
    simp only[hq]at h;cases Mx:G f with
    |none=>simp[Mx]at h
    |some fn=>
     obtain⟨sl,dw⟩:=hG f fn Mx;unfold qo at dw;cases yT:P.funcs[f]? with
     |none=>simp[yT]at dw
     |some pf=>
      simp only[yT,Bool.and_eq_true]at dw;exact dw.1
end Ab
