/- What is known after an effect is the new list of blocks, and the old one can still be seen. A region: whatever order its operations come in, it does what its lines do in the text's order. Condition: the callees answer as the interpreter says. What holds in the midst of a region. A step of a region keeps what holds. Operations that look at owned blocks, and operations that turn them. Condition: the callees answer as the interpreter says. One operation of a region in any order. One operation of a region, whatever its class. A region does what its lines say. Condition: the callees answer as the interpreter says. An owned value is given away for good; blocks of a round are forgotten. The code of a function does what its small text says. Condition: the callees answer as the interpreter says. Functions do what the interpreter says. Condition: the check of each function. Condition: none. -/
import Derived.Test.YtdenhmniigikcaaGreatAbPhase
import Derived.Scope
set_option linter.all false
open Option renaming some->aa,none->ab
open Bool renaming true->ad,false->ae
open List renaming range->af,replicate->ag,length->ah
namespace Ab
open Go
def yO{σ:aq}{b u:Nat}{B:aO}(h:gI σ b u=aa B):aQ σ b=aa B/\ah B.cells=u/\B.st ≠ .dead:=by
 unfold gI at h;cases d:aQ σ b with
 |none=>simp[d]at h
 |some e =>
  simp only[d]at h;cases g:e.st<;>simp only[g]at h<;>first
   |(simp at h;done)
   |(by_cases a:ah e.cells=u
     .simp[a]at h;subst h;exact⟨rfl,a,by rw[g];simp⟩
     .simp[a]at h)
def kD (C:Ctx) (σ:aq):Prop:=∃ids,(∀b u e,(aI σ ids C.I).own b u=aa e->C.own b u=aa e)/\∀b u,C.lim b u->(aI σ ids C.I).lim b u
def Seen (C:Ctx) (σ:aq):Prop:=∀b u B,C.lim b u->gI σ b u=aa B->∃id,C.own b u=aa (B,id)
def kD.seen{C:Ctx}{σ:aq}(h:kD C σ):Seen C σ:=λb u B _ hu=>by
 obtain⟨ids,h1,_⟩:=h;exact⟨_,h1 b u _ (um ids C.I hu)⟩
def Px (σ:aq) (ids:Nat->Nat) (I:Nat->Prop):kD (aI σ ids I) σ:=⟨ids,λ_ _ _ h=>h,λ_ _ h=>h⟩
def kD.AP{C:Ctx}{σ:aq}(h:kD C σ) (I' : Nat->Prop):kD {C with I:=I'} σ:=by
 obtain⟨ids,h1,h2⟩:=h;exact⟨ids,h1,h2⟩
def Seen.AP{C:Ctx}{σ:aq}(h:Seen C σ) (I' : Nat->Prop):Seen {C with I:=I'} σ:=h
def kD.take{C:Ctx}{σ:aq}{w:World}(h:kD C σ) (hg:Good C w):∃ids,Good (aI σ ids C.I) w/\Step C w (aI σ ids C.I) w:=by
 obtain⟨ids,h1,h2⟩:=h;exact⟨ids,Good.shrink hg rfl h1 h2⟩
def Ext.iF{σ:aq}{ids:Nat->Nat}{I:Nat->Prop}{p:Option dd}{C' : Ctx}{w' : World}(hg:Good C' w') (h:Ext (ah σ) p (aI σ ids I) C') :
  kD C' (match p with|some q=>gX σ q|none=>σ)/\Seen C' σ:=by
 cases p with
 |none=>
  obtain⟨h1,h2⟩:=h;have hs:kD C' σ:=⟨ids,λb u e he=>by rw[h1];exact he,λb u he=>by rw[h2]at he;exact he⟩
  exact⟨hs,hs.seen⟩
 |some q=>
  cases q with
  |new B=>
   obtain⟨id,h1,h2⟩:=h;have rp:B.st ≠ .dead:=(hg.mT (ah σ) (ah B.cells) B id (by rw[h1];simp[aU])).2.2.2
   refine⟨⟨λq=>if q=ah σ then id else ids q,λb u e he=>?_,λb u he=>?_⟩,λb u B' _ hu=>?_⟩
   .rw[h1];exact DV (I:=C'.I) rp b u e he
   .rw[h2]at he;exact DW (ids:=ids) (I:=C'.I) (id:=id) b u he
   .obtain⟨hb,_⟩:=yO hu
    have cw:b<ah σ:=by rw[dX]at hb;exact(List.getElem?_eq_some_iff.1 hb).1
    rw[h1];simp only[aU];rw[if_neg (by omega)]
    exact⟨_,um ids I hu⟩
  |news l=>
   obtain⟨wz,h1,h2⟩:=h;have hblk:∀b,aQ (σ++l) b=if b<ah σ then aQ σ b else aQ l (b-ah σ):=λb=>by
    rw[dX,dX,dX]
    by_cases hb:b<ah σ
    .rw[if_pos hb,List.getElem?_append_left hb]
    .rw[if_neg hb,List.getElem?_append_right (by omega)]
   refine⟨⟨λq=>if q<ah σ then ids q else wz (q-ah σ),λb u e he=>?_,λb u he=>?_⟩,λb u B' _ hu=>?_⟩
   .rw[h1]
    simp only[aI,gX,hblk]at he ⊢
    by_cases hb:b<ah σ
    .rw[if_neg (by omega)]
     simp only[hb,if_true]at he;exact he
    .simp only[hb,if_false]at he
     have cw:b-ah σ<ah l:=by
      cases hq:aQ l (b-ah σ)with
      |none=>simp[hq]at he
      |some q=>rw[dX]at hq;exact(List.getElem?_eq_some_iff.1 hq).1
     rw[if_pos (by omega)]
     exact he
   .rw[h2]at he
    simp only[aI,gX,hblk]at he ⊢;rcases he with⟨k1,B1,k2,k3⟩|⟨B1,k2,k3⟩
    .exact⟨B1,by rw[if_neg (by omega)];exact k2,k3⟩
    .have cw:b<ah σ:=by rw[dX]at k2;exact(List.getElem?_eq_some_iff.1 k2).1
     exact⟨B1,by rw[if_pos cw];exact k2,k3⟩
   .obtain⟨hb,_⟩:=yO hu
    have cw:b<ah σ:=by rw[dX]at hb;exact(List.getElem?_eq_some_iff.1 hb).1
    rw[h1];simp only;rw[if_neg (by omega)]
    exact⟨_,um ids I hu⟩
  |grow b cs=>
   obtain⟨B0,id0,id,fg,h0,h1,h2⟩:=h;obtain⟨hb,_⟩:=AF h0;have hlen:ah B0.cells<ah (B0.cells++cs):=by
    have:0<ah cs:=List.length_pos_iff.2 fg;simp;omega
   have hgr:gX σ (.grow b cs)=aV σ b ⟨B0.k,B0.cells++cs,.live⟩:=by simp only[gX,uD,hb]
   simp only[hgr];refine⟨⟨λq=>if q=b then id else ids q,λb1 u e he=>?_,λb1 u he=>?_⟩,λb1 u B' _ hu=>?_⟩
   .rw[h1]
    exact rC (ids:=ids) (I:=C'.I) (B' :=⟨B0.k,B0.cells++cs,.live⟩) (id' :=id) hb (by simp) b1 u e he
   .rw[h2]at he
    rcases he with⟨rfl,rfl⟩|he
    .have cw:b1<ah σ:=by rw[dX]at hb;exact(List.getElem?_eq_some_iff.1 hb).1
     exact⟨⟨B0.k,B0.cells++cs,.live⟩,by rw[AE cw];simp,Nat.le_refl _⟩
    .exact rD (ids:=ids) (I:=C'.I) hb (by show _<=ah (B0.cells++cs);omega) b1 u he
   .obtain⟨k1,k2,_⟩:=yO hu
    rw[h1];simp only[aU];rw[if_neg (by
     rintro⟨rfl,rfl⟩;rw[hb]at k1;simp at k1;subst k1;omega)]
    exact⟨_,um ids I hu⟩
end Ab
namespace Ab
open Go
variable{P:Program}
def Py{ce:CE}{vars:ao}:∀{ls:List Ln}{s s' : LS},lines ce vars ls s=aa s' ->
  ∃st:Nat->LS,st 0=s/\st (ah ls)=s' /\∀i l,ls[i]? = aa l->dQ ce vars (st i) l=aa (st (i+1))
 | [],s,s', h=>by
  simp[lines]at h;subst h;exact⟨λ_=>s,rfl,rfl,λi l h=>by simp at h⟩
 |l::ls,s,s', h=>by
  simp only[lines]at h;cases a:dQ ce vars s l with
  |none=>simp[a]at h
  |some j=>
   simp only[a]at h;obtain⟨st,e0,e,b⟩:=Py h;refine⟨λi=>match i with|0=>s|i+1=>st i,rfl,by simpa using e,λi g d=>?_⟩
   cases i with
   |zero=>simp at d;subst d;simp only[a,e0]
   |succ i=>exact b i g (by simpa using d)
def abL{ce:CE}{vars:ao}{s s' : LS}{l:Ln}(h:dQ ce vars s l=aa s'):∃v,s'.env=v::s.env:=by
 unfold dQ at h;split at h
 .simp at h
 .simp at h;subst h;exact⟨_,rfl⟩
 .split at h
  .split at h
   .simp at h;subst h;exact⟨_,rfl⟩
   .simp at h
  .split at h
   .simp at h;subst h;exact⟨_,rfl⟩
   .simp at h;subst h;exact⟨_,rfl⟩
   .simp at h
def valOf (st:Nat->LS) (i:Nat):AV:=nth (st (i+1)).env 0
def Pz{st:Nat->LS}{n:Nat}(a:(st 0).env=[]) (h:∀i,i<n->∃v,(st (i+1)).env=v::(st i).env):∀i,i<=n->∀d,d<i->nth (st i).env d=valOf st (i-1-d)
 |0,_,d,hd=>absurd hd (Nat.not_lt_zero d)
 |i+1,e,d,hd=>by
  obtain⟨v,b⟩:=h i (by omega)
  cases d with
  |zero=>simp[valOf]
  |succ d=>
   rw[b];simp only[nth];rw[Pz a h i (by omega) d (by omega)]
   congr 1
   omega
def PA{ce:CE}{σ:aq}{nl:Nat}{ps:List dd}{r:Rf->AV}{op:dN}{x:AV}{p:Option dd}(h:op.mU=ae) (a:ev ce σ nl ps r op=aa (x,p)):p=ab:=by
 cases op<;>first
  |(simp[dN.mU]at h;done)
  |(simp only[ev]at a;simp at a;exact a.2.symm)
  |(simp only[ev]at a;(repeat' split at a)<;>first|(simp at a;done)|(simp at a;exact a.2.symm)|(simp at a;obtain⟨_,_,_,e⟩:=a;exact e.symm)|(simp at a;obtain⟨_,_,e⟩:=a;exact e.symm))
def nA (draw:Bool) (a:List Nat) (i j:Nat):Bool:=if draw then((a[j]?).getD 0).testBit i else decide (i<j)
def AQ (a:List Nat) (o:Oper):Nat:=o.after.toList.foldl (λs e=>if Region.binds .any e then s ||| 2^e.on ||| (a[e.on]?).getD 0 else s) 0
def PB (ops:List Oper):List Nat:=ops.foldl (λacc o=>acc ++ [AQ acc o]) []
def dE (ops:List Oper) (i:Nat):Option Nat:=(ops[i]?).bind (·.dst)
def nD (ls:List Ln) (i:Nat):Option Nat:=
 match ls[i]? with
 |some l=>match l.op with
  |.kP (.t d) _ _=>aa (i-1-d)
  |_=>ab
 |none=>ab
def kn (ops:List Oper) (ls:List Ln) (i:Nat):Option Nat:=
 match nD ls i with
 |some j=>dE ops j
 |none=>dE ops i
def bH (ls:List Ln) (i:Nat):Bool:=
 match ls[i]? with
 |some l=>l.op.mU||l.op.mb
 |none=>ae
def H6 (ls:List Ln) (i:Nat):Bool:=
 match ls[i]? with
 |some l=>l.op.mU&&l.g.isNone
 |none=>ae
def fo (ls:List Ln) (i:Nat):Option Nat:=
 match ls[i]? with
 |some l=>match l.op with
  |.iA m=>aa m
  |_=>ab
 |none=>ab
def sn (draw:Bool) (a:List Nat) (ops:List Oper) (ls:List Ln) (sl:List Nat) (i:Nat):Operand->Rf->Bool
 |.tmp s,.t d=>decide (d<i)&&kn ops ls (i-1-d)==aa s&&nA draw a (i-1-d) i
 |.tmp s,.v k=>sl[k]? == aa s&&(af (ah ops)).all λj=>!(dE ops j==aa s)||nA draw a i j
 |.const v,.c x=>lM v x
 |.func f,.c (.func g [])=>f==g
 |_,_=>ae
def tf (draw:Bool) (a:List Nat) (ops:List Oper) (ls:List Ln) (i:Nat) (o:Oper) (l:Ln):Bool:=
 match o.guard,l.g with
 |none,ab=>ad
 |some (j,b),aa (.t d,e)=>b==e && decide (d<i)&&j==i-1-d&&(nD ls j).isNone&&(dE ops j).isSome&&nA draw a j i
 |_,_=>ae
def xJ (ops:List Oper) (nt i:Nat) (o:Oper):Bool:=
 match o.dst with
 |none=>ad
 |some s=>decide (s<nt)&&(af i).all λj=>!(dE ops j==aa s)
def qy (ls:List Ln) (draw:Bool) (a:List Nat) (i:Nat) (o:Oper) (l:Ln):Bool:=
 match l.op with
 |.iA _=>l.g.isNone&&o.dst.isSome
 |.kP (.t d) _ m=>l.g.isNone&&o.dst.isNone&&decide (d<i)&&fo ls (i-1-d)==aa m&&nA draw a (i-1-d) i&&(af i).all λj=>!(nD ls j==aa (i-1-d))
 |.kP ..=>ae
 |_=>ad
def jJ (ls:List Ln) (i:Nat):Bool:=
 match ls[i]? with
 |some l=>l.g.isNone&&(match l.op with
  |.kG .. | .can .. | .oz .. | .Az | .oA ..=>ad
  |_=>ae)
 |none=>ae
def loose (ls:List Ln) (draw:Bool) (a:List Nat) (j i:Nat):Bool:=bH ls j&&bH ls i&&decide (j<i) && !nA draw a j i
def qz (ls:List Ln) (draw:Bool) (a:List Nat) (j:Nat):Bool:=(af (ah ls)).any λi=>loose ls draw a j i
def qA (ls:List Ln) (draw:Bool) (a:List Nat) (i:Nat):Bool:=(af (ah ls)).any λj=>loose ls draw a j i
def oM (ls:List Ln) (draw:Bool) (a:List Nat) (k:Nat):Bool:=((af (k+1)).any λj=>qz ls draw a j)&&((af (ah ls)).any λi=>decide (k<=i)&&qA ls draw a i)
def uE (ls:List Ln) (draw:Bool) (a:List Nat) (i:Nat) (l:Ln):Bool:=
 if l.op.mU||l.op.mb then !l.prev&&(!oM ls draw a i||jJ ls i)else ad
def jw (ls:List Ln) (j v:Nat):Bool:=(af v).all λk=>!(decide (j<=k)) || !bH ls k||jJ ls k
def AR (ls:List Ln) (draw:Bool) (a:List Nat):Bool:=(af (ah ls)).all λk=>!oM ls draw a k
def nE (ls:List Ln) (i:Nat) (l:Ln):Nat:=if l.prev then((af i).reverse.find? (bH ls)).getD 0 else i
def AT (ls:List Ln) (a b:Nat):Bool:=(af b).all λk=>!(decide (a<=k)) || !bH ls k
def wA (ls:List Ln) (draw:Bool) (a:List Nat) (i:Nat) (l:Ln):Bool:=
 if l.op.mU||l.op.mb||l.op.lj then ad else
  (if l.prev then decide (nE ls i l<i)&&H6 ls (nE ls i l)&&AT ls (nE ls i l+1) i else ad) &&
  (af (ah ls)).all λj=>!bH ls j||(if j<nE ls i l then nA draw a j i||(jw ls j (nE ls i l)&&AR ls draw a)else nA draw a i j||(j != i&&H6 ls j&&jw ls (nE ls i l) j))
def D5 (draw:Bool) (a:List Nat) (i:Nat) (o:Oper):Bool:=
 if draw then a[i]? == aa (AQ a o)&&o.after.toList.all λe=>!Region.binds .any e||decide (e.on<i)else ad
def wC (P:Program) (draw:Bool) (a:List Nat) (ops:List Oper) (ls:List Ln) (sl:List Nat) (nt i:Nat):Bool:=
 match ops[i]?,ls[i]? with
 |some o,aa l=>nj P (sn draw a ops ls sl i) o.op l.op&&tf draw a ops ls i o l&&xJ ops nt i o&&qy ls draw a i o l&&uE ls draw a i l&&wA ls draw a i l&&D5 draw a i o
 |_,_=>ae
def PD (b:List Nat) (i:Nat):∀(es:List Edge) (s:Nat),(es.foldl (λs e=>if Region.binds .any e then s ||| 2^e.on ||| (b[e.on]?).getD 0 else s) s).testBit i=ad->
  s.testBit i=ad\/∃e∈es,Region.binds .any e=ad/\(e.on=i\/((b[e.on]?).getD 0).testBit i=ad)
 | [],s,h=>.inl h
 |e::es,s,h=>by
  simp only[List.foldl_cons]at h;rcases PD b i es _ h with h|⟨d, g,j⟩
  .by_cases a:Region.binds .any e=ad
   .rw[if_pos a]at h
    simp only[Nat.testBit_or,Bool.or_eq_true,Nat.testBit_two_pow,decide_eq_true_eq]at h;rcases h with(h|h)|h
    .exact .inl h
    .exact .inr ⟨e,by simp,a,.inl h⟩
    .exact .inr ⟨e,by simp,a,.inr h⟩
   .rw[if_neg a]at h
    exact .inl h
  .exact .inr ⟨d, by simp[g],j⟩
structure RC (P:Program) where
 draw:Bool
 bf:List Nat
 ops:List Oper
 ls:List Ln
 sl:List Nat
 nt:Nat
 ce:CE
 vars:ao
 NS:aq
 st:Nat->LS
 len:ah ops=ah ls
 ok:∀i,i<ah ls->wC P draw bf ops ls sl nt i=ad
 st0:st 0=⟨[],NS,NS⟩
 run:∀i l,ls[i]? = aa l->dQ ce vars (st i) l=aa (st (i+1))
 sg:cR P ce
 Ag:eT P ce
structure uF (X:RC P) (i:Nat) (o:Oper) (l:Ln):Prop where
 op:nj P (sn X.draw X.bf X.ops X.ls X.sl i) o.op l.op=ad
 g:tf X.draw X.bf X.ops X.ls i o l=ad
 dst:xJ X.ops X.nt i o=ad
 kP:qy X.ls X.draw X.bf i o l=ad
 eff:uE X.ls X.draw X.bf i l=ad
 read:wA X.ls X.draw X.bf i l=ad
 bf:D5 X.draw X.bf i o=ad
namespace RC
variable (X:RC P)
theorem at_{i:Nat}(h:i<ah X.ls):∃o l,X.ops[i]? = aa o/\X.ls[i]? = aa l/\uF X i o l:=by
 have:=X.ok i h;unfold wC at this;split at this
 .rename_i o l a b
  simp only[Bool.and_eq_true]at this;obtain⟨⟨⟨⟨⟨⟨d,e⟩,g⟩,j⟩,m⟩,n⟩,p⟩:=this;exact⟨o,l,a,b,d,e,g,j,m,n,p⟩
 .simp at this
theorem abM{i:Nat}(h:i<ah X.ls):∃v,(X.st (i+1)).env=v::(X.st i).env:=by
 obtain⟨o,l,_,a,_⟩:=X.at_ h;exact abL (X.run i l a)
theorem xL{i:Nat}(h:i<=ah X.ls){d:Nat}(hd:d<i):nth (X.st i).env d=valOf X.st (i-1-d):=
 Pz (by rw[X.st0]) (λi a=>X.abM a) i h d hd
theorem still{i:Nat}{l:Ln}(d:X.ls[i]? = aa l) (h:bH X.ls i=ae):(X.st (i+1)).σ=(X.st i).σ/\(X.st (i+1)).bg=(X.st i).bg:=by
 have a:=X.run i l d;have b : l.op.mU=ae/\l.op.mb=ae:=by simpa[bH,d]using h
 unfold dQ at a;split at a
 .simp at a
 .simp at a;rw[<-a];exact⟨rfl,rfl⟩
 .rw[if_neg (by rw[b.2];simp)]at a
  split at a
  .simp only[b.1,Bool.false_eq_true,if_false,Option.some.injEq]at a;rw[<-a];exact⟨rfl,rfl⟩
  .rename_i e
   have:=PA b.1 e;simp at this
  .simp at a
theorem same{p:Nat}:∀(k:Nat),p+k<=ah X.ls->(∀j,p<=j->j<p+k->bH X.ls j=ae)->(X.st (p+k)).σ=(X.st p).σ/\(X.st (p+k)).bg=(X.st p).bg
 |0,_,_=>⟨rfl,rfl⟩
 |k+1,h,d=>by
  obtain⟨_,l,_,e,_⟩:=X.at_ (show p+k<ah X.ls by omega)
  obtain⟨g,i⟩:=X.still e (d (p+k) (by omega) (by omega))
  obtain⟨m,n⟩:=same k (by omega) λj a b=>d j a (by omega)
  exact⟨g.trans m,i.trans n⟩
theorem qB{p q:Nat}(h:p<=q) (e:q<=ah X.ls) (d:∀j,p<=j->j<q->bH X.ls j=ae):(X.st q).σ=(X.st p).σ/\(X.st q).bg=(X.st p).bg:=by
 have:=X.same (p:=p) (q-p) (by omega) (λj a b=>d j a (by omega))
 rwa [show p+(q-p)=q by omega]at this
end RC
end Ab
namespace Ab
open Go
variable{P:Program}
structure jK (X:RC P) (D:Nat->Prop) (C:Ctx) (f:Nat):Prop where
 fle:f<=ah X.ls
 lo:∀e,e<f->bH X.ls e=ad->D e
 hi:∀e,f<=e->bH X.ls e=ad->¬D e
 iF:kD C (X.st f).σ
 last:0<f->bH X.ls (f-1)=ad/\(H6 X.ls (f-1)=ad->Seen C (X.st (f-1)).σ)
def alive (X:RC P) (D:Nat->Prop) (a:Nat) (b:Nat):Prop:=b<ah (X.st a).σ\/∃i,bH X.ls i=ad/\oM X.ls X.draw X.bf i=ad/\D i/\ah (X.st i).σ<=b/\b<ah (X.st (i+1)).σ
structure qC (X:RC P) (D:Nat->Prop) (C:Ctx) (lo hi:Nat):Prop where
 qD:∀k,oM X.ls X.draw X.bf k=ad↔lo<=k/\k<=hi
 NT:bH X.ls hi=ad
 le:lo<=hi
 before:∀e,e<lo->bH X.ls e=ad->D e
 behind:∀e,hi<e->bH X.ls e=ad->¬D e
 iF:∃ids,(∀b u e,alive X D lo b->(aI (X.st (hi+1)).σ ids C.I).own b u=aa e->C.own b u=aa e)/\∀b u,C.lim b u->alive X D lo b/\(aI (X.st (hi+1)).σ ids C.I).lim b u
def nG (X:RC P) (D:Nat->Prop) (C:Ctx) (f:Nat):Prop:=jK X D C f\/∃a b,qC X D C a b/\∃k,bH X.ls k=ad/\oM X.ls X.draw X.bf k=ad/\D k
structure Inv (X:RC P) (C0:Ctx) (w0:World) (ds:List Deferred) (D:Nat->Prop) (C:Ctx) (f:Nat) (a:Act) (w:World):Prop where
 good:Good C w
 step:Step C0 w0 C w
 size:a.tmps.size=X.nt
 defers:a.defers=ds
 below:∀j,D j->j<ah X.ls
 closed:∀i j,D j->nA X.draw X.bf i j=ad->D i
 tv:∀j s,D j->kn X.ops X.ls j=aa s->VR C w.heap (valOf X.st j) (a.tmps.getD s undef)
 vv:∀k s,X.sl[k]? = aa s->(∀j,D j->dE X.ops j ≠ aa s)->VR C w.heap (nth X.vars k) (a.tmps.getD s undef)
 lb:∀j m,D j->fo X.ls j=aa m->(∀i,D i->nD X.ls i ≠ aa j)->∃s id c el,dE X.ops j=aa s/\a.tmps.getD s undef = .pointer (aa ⟨id,0,ab⟩)/\w0.heap.size<=id/\¬C.I id/\¬owned C id/\
  w.heap[id]? = aa (.cells c el (0,0))/\c.size=m
 lbd:∀j j' m m' s s' id,D j->D j' ->fo X.ls j=aa m->fo X.ls j' = aa m' ->(∀i,D i->nD X.ls i ≠ aa j)->(∀i,D i->nD X.ls i ≠ aa j')->dE X.ops j=aa s->dE X.ops j' = aa s' ->j ≠ j' ->
  a.tmps.getD s undef = .pointer (aa ⟨id,0,ab⟩)->a.tmps.getD s' undef ≠ .pointer (aa ⟨id,0,ab⟩)
 fr:nG X D C f
section
variable{X:RC P}{C0:Ctx}{w0:World}{ds:List Deferred}{D:Nat->Prop}{C:Ctx}{f:Nat}{a:Act}{w:World}
def Inv.ref (h:Inv X C0 w0 ds D C f a w){i:Nat}(hi:i<ah X.ls) (hD:¬D i) (hb:∀j,nA X.draw X.bf j i=ad->D j){x:Operand}{y:Rf}(hr:sn X.draw X.bf X.ops X.ls X.sl i x y=ad) :
  VR C w.heap (rv X.vars (X.st i).env y) (a.eval x):=by
 unfold sn at hr;split at hr
 .simp only[Bool.and_eq_true,decide_eq_true_eq,beq_iff_eq]at hr
  obtain⟨⟨h1,h2⟩,h3⟩:=hr;show VR C w.heap (nth (X.st i).env _) (a.tmps.getD _ undef);rw[X.xL (by omega) h1]
  exact h.tv _ _ (hb _ h3) h2
 .rename_i s k
  simp only[Bool.and_eq_true,beq_iff_eq,List.all_eq_true,List.mem_range,Bool.or_eq_true,Bool.not_eq_true', beq_eq_false_iff_ne]at hr;refine h.vv k s hr.1 λj hj hd=>?_;rcases hr.2 j (by rw[X.len];exact h.below j hj)with h1|h1
  .exact h1 hd
  .exact hD (h.closed _ _ hj h1)
 .exact HS hr
 .simp only[beq_iff_eq]at hr
  subst hr;show VR C w.heap (.func _ []) (.func (.func _) #[] #[]);unfold VR;exact⟨[],rfl,rfl⟩
 .simp at hr
def Inv.wanted (h:Inv X C0 w0 ds D C f a w){i:Nat}(hi:i<ah X.ls) (hb:∀j,nA X.draw X.bf j i=ad->D j){o:Oper}{l:Ln}(hF:uF X i o l){b:Bool}(hw:want X.vars (X.st i).env l.g=aa b) :
  Region.wanted o (yielded X.ops.toArray a.tmps)=b:=by
 have hg:=hF.g;unfold tf at hg;split at hg
 .rename_i h1 h2
  rw[h2]at hw;simp[want]at hw;subst hw;unfold Region.wanted;rw[h1]
 .rename_i j b1 d b2 h1 h2
  simp only[Bool.and_eq_true,beq_iff_eq,decide_eq_true_eq,Option.isNone_iff_eq_none]at hg;obtain⟨⟨⟨⟨⟨rfl,hd⟩,rfl⟩,ht⟩,GA⟩,tY⟩:=hg;rw[h2]at hw;simp only[want,rv,X.xL (Nat.le_of_lt hi) hd]at hw;unfold Region.wanted;rw[h1];simp only;have hDj:=hb _ tY;have lV:∀s,dE X.ops (i-1-d)=aa s->VR C w.heap (valOf X.st (i-1-d)) (a.tmps.getD s undef):=λs hs=>h.tv _ s hDj (by simp only[kn,ht];exact hs)
  have hy:yielded X.ops.toArray a.tmps (i-1-d)=match(dE X.ops (i-1-d)).bind (a.tmps[·]?)with
    |some (.bool b)=>aa b
    |_=>ab:=by
   unfold yielded dE;simp only[List.getElem?_toArray]
   rfl
  rw[hy];cases PF:dE X.ops (i-1-d)with
  |none=>rw[PF]at GA;simp at GA
  |some s=>
   have hv:=lV s PF;simp only[Option.bind_some];cases hq:valOf X.st (i-1-d)<;>simp only[hq]at hw<;>try(simp at hw;done)
   .rw[hq]at hv
    have hv:a.tmps.getD s undef = .bool _:=hv;simp at hw;subst hw;have:a.tmps[s]? = aa (.bool ‹Bool›):=by
     rw[Array.getD_eq_getD_getElem?]at hv;cases od : a.tmps[s]? with
     |none=>rw[od]at hv;simp[undef]at hv
     |some v=>rw[od]at hv;simp at hv;rw[hv]
    rw[this];simp
   .rename_i tl
    cases tl with
    |cons _ _=>simp at hw
    |nil=>
     simp at hw;subst hw;rw[hq]at hv;unfold VR at hv;obtain⟨vs,e1,e2⟩:=hv;have e2:vs=[]:=e2;subst e2;rw[Array.getD_eq_getD_getElem?]at e1;cases od : a.tmps[s]? with
     |none=>rfl
     |some v=>rw[od]at e1;simp at e1;rw[e1];rfl
 .simp at hg
end
end Ab
namespace Ab
open Go
variable{P:Program}
def abN{a:Act}{dst:Option Tmp}{v:Value}{nt:Nat}(b:a.tmps.size=nt) (g:∀s,dst=aa s->s<nt) (s:Nat):(a.put dst v).tmps.getD s undef=if dst=aa s then v else a.tmps.getD s undef:=by
 cases dst with
 |none=>simp[Act.put]
 |some d=>
  have hd:=g d rfl;simp only[Act.put,Array.getD_eq_getD_getElem?,Array.getElem?_setIfInBounds]
  by_cases e:d=s
  .subst e
   simp[b,hd]
  .simp[e]
def abO (a:Act) (dst:Option Tmp) (v:Value):(a.put dst v).tmps.size=a.tmps.size:=by cases dst<;>simp[Act.put]
def abP (a:Act) (dst:Option Tmp) (v:Value):(a.put dst v).defers=a.defers:=by cases dst<;>rfl
namespace RC
variable (X:RC P)
variable{s:Nat}
theorem AU{i:Nat}(h:dE X.ops i=aa s):i<ah X.ls:=by
 unfold dE at h;cases a:X.ops[i]? with
 |none=>simp[a]at h
 |some o=>rw[<-X.len];exact(List.getElem?_eq_some_iff.1 a).1
theorem H7{i:Nat}(h:dE X.ops i=aa s):s<X.nt:=by
 obtain⟨o,l,a,d,b⟩:=X.at_ (X.AU h);have:=b.dst;simp only[dE,a,Option.bind_some]at h;simp only[xJ,h,Bool.and_eq_true,decide_eq_true_eq]at this;exact this.1
variable{j:Nat}
theorem AW{i:Nat}(h:dE X.ops i=aa s) (k:dE X.ops j=aa s) (a:j<i):False:=by
 obtain⟨o,l,b,e,d⟩:=X.at_ (X.AU h);have:=d.dst;simp only[dE,b,Option.bind_some]at h;simp only[xJ,h,Bool.and_eq_true,List.all_eq_true,List.mem_range]at this;have:=this.2 j a;simp[k]at this
theorem th{i:Nat}(h:dE X.ops i=aa s) (k:dE X.ops j=aa s):i=j:=by
 rcases Nat.lt_trichotomy i j with a|b|a
 .exact(X.AW k h a).elim
 .exact b
 .exact(X.AW h k a).elim
variable{t:Nat}
theorem gz{i:Nat}(h:nD X.ls i=aa t):i<ah X.ls/\∃o l d x m,X.ops[i]? = aa o/\X.ls[i]? = aa l/\uF X i o l/\l.op = .kP (.t d) x m/\l.g=ab/\o.dst=ab/\d<i/\t=i-1-d/\fo X.ls t=aa m/\
  nA X.draw X.bf t i=ad/\∀j,j<i->nD X.ls j ≠ aa t:=by
 unfold nD at h;cases e:X.ls[i]? with
 |none=>simp[e]at h
 |some l=>
  have n:=(List.getElem?_eq_some_iff.1 e).1;obtain⟨o,A, q,a, p⟩:=X.at_ n;rw[e]at a; simp at a; subst a;simp only[e]at h;split at h
  .rename_i d x m b
   have:=p.kP;simp only[qy,b,Bool.and_eq_true,Option.isNone_iff_eq_none,decide_eq_true_eq,beq_iff_eq,List.all_eq_true,List.mem_range,Bool.not_eq_true', beq_eq_false_iff_ne]at this;obtain⟨⟨⟨⟨⟨r,s⟩,u⟩,w⟩,y⟩,z⟩:=this;simp at h;subst h;exact⟨n,o,l,d,x,m,q,rfl,p,b,r,s,u,rfl,w,y,z⟩
  .simp at h
theorem xM{i:Nat}(h:nD X.ls i=aa t) (k:nD X.ls j=aa t):i=j:=by
 obtain⟨_,_,_,_,_,_,_,_,_,_,_,_,_,_,_,_,b⟩:=X.gz h;obtain⟨_,_,_,_,_,_,_,_,_,_,_,_,_,_,_,_,d⟩:=X.gz k;rcases Nat.lt_trichotomy i j with a|e|a
 .exact absurd h (d i a)
 .exact e
 .exact absurd k (b j a)
end RC
section
variable{X:RC P}{C0:Ctx}{w0:World}{ds:List Deferred}{D:Nat->Prop}{C:Ctx}{f:Nat}{a:Act}{w:World}
def nG.uG{i:Nat}(h:nG X D C f) (he:bH X.ls i=ae) (I' : Nat->Prop):nG X (λj=>D j\/j=i) {C with I:=I'} f:=by
 rcases h with h|⟨j,i2,h,k0,y1,y2,y3⟩
 .refine .inl ⟨h.fle,λe h1 h2=>.inl (h.lo e h1 h2),λe h1 h2 h3=>?_,h.iF.AP I', λhf=>⟨(h.last hf).1,λhe=>((h.last hf).2 he).AP I'⟩⟩
  rcases h3 with h3|rfl
  .exact h.hi e h1 h2 h3
  .rw[he]at h2;simp at h2
 .obtain⟨ids,e1,e2⟩:=h.iF
  have lB:∀b,alive X (λk=>D k\/k=i) j b↔alive X D j b:=λb=>by
   constructor
   .rintro(h1|⟨k,k1,k2,k3,k4⟩)
    .exact .inl h1
    .rcases k3 with k3|rfl
     .exact .inr ⟨k,k1,k2,k3,k4⟩
     .rw[he]at k1;simp at k1
   .rintro(h1|⟨k,k1,k2,k3,k4⟩)
    .exact .inl h1
    .exact .inr ⟨k,k1,k2,.inl k3,k4⟩
  refine .inr ⟨j,i2,⟨h.qD,h.NT,h.le,λe h1 h2=>.inl (h.before e h1 h2),λe h1 h2 h3=>?_,ids,λb u e ha ho=>e1 b u e ((lB b).1 ha) ho,λb u hl=>⟨(lB b).2 (e2 b u hl).1,(e2 b u hl).2⟩⟩,k0,y1,y2,.inl y3⟩;rcases h3 with h3|rfl
  .exact h.behind e h1 h2 h3
  .rw[he]at h2;simp at h2
def Inv.after (h:Inv X C0 w0 ds D C f a w){i:Nat}(hi:i<ah X.ls) (hD:¬D i) (hb:∀j,nA X.draw X.bf j i=ad->D j){o:Oper}(ho:X.ops[i]? = aa o){C' : Ctx}{w' : World}{v:Value}{f' : Nat}
  (NU : Good C' w') (fT:Step C w C' w') (abQ:nD X.ls i=ab) (hv:VR C' w'.heap (valOf X.st i) v)
  (lB:∀m,fo X.ls i=aa m->(∃s,o.dst=aa s)/\∃id c el,v = .pointer (aa ⟨id,0,ab⟩)/\w.heap.size<=id/\¬C'.I id/\¬owned C' id/\w'.heap[id]? = aa (.cells c el (0,0))/\c.size=m)
  (HL:nG X (λj=>D j\/j=i) C' f'):Inv X C0 w0 ds (λj=>D j\/j=i) C' f' (a.put o.dst v) w' :=by
 have Dh:dE X.ops i=o.dst:=by simp[dE,ho]
 have mH:=abN (v:=v) h.size (dst:=o.dst) λs hs=>X.H7 (i:=i) (by rw[Dh];exact hs)
 have GB:∀j s,D j->dE X.ops j=aa s->(a.put o.dst v).tmps.getD s undef=a.tmps.getD s undef:=λj s hj hs=>by
  rw[mH,if_neg];intro e;have:=X.th hs (Dh.trans e);exact hD (this▸hj)
 have old:∀j m,D j->fo X.ls j=aa m->(∀i', (D i' \/i' = i)->nD X.ls i' ≠ aa j)->∃s id c el,dE X.ops j=aa s/\a.tmps.getD s undef = .pointer (aa ⟨id,0,ab⟩)/\(a.put o.dst v).tmps.getD s undef = .pointer (aa ⟨id,0,ab⟩)/\
   w0.heap.size<=id/\¬C'.I id/\¬owned C' id/\w'.heap[id]? = aa (.cells c el (0,0))/\c.size=m/\id<w.heap.size:=λj m hj hm hn=>by
  obtain⟨s,id,c,el,k1,k2,k3,k4,k5,k6,k7⟩:=h.lb j m hj hm λi' ke =>hn i' (.inl ke);have cw:=(Array.getElem?_eq_some_iff.1 k6).1;refine⟨s,id,c,el,k1,k2,by rw[GB j s hj k1];exact k2,k3,λhI=>?_,λhO=>?_,by rw[fT.frame id cw k5];exact k6,k7,cw⟩
  .rcases fT.iH id hI with q|q|q
   .exact k4 q
   .exact k5 q
   .omega
  .rcases fT.ie id hO with q|q
   .exact k5 q
   .omega
 refine⟨NU, h.step.trans fT,by rw[abO];exact h.size,by rw[abP];exact h.defers,λj hj=>hj.elim (h.below j) (λe=>e▸hi),λi' j hj tY=>?_,λj s hj hs=>?_,λk s hk hn=>?_,λj m hj hm hn=>?_,?_,HL⟩
 .rcases hj with hj|rfl
  .exact .inl (h.closed _ _ hj tY)
  .exact .inl (hb _ tY)
 .rcases hj with hj|rfl
  .have fg:o.dst ≠ aa s:=λe=>by
    unfold kn at hs;cases ht:nD X.ls j with
    |none=>
     simp only[ht]at hs;exact hD (X.th hs (Dh.trans e)▸hj)
    |some t=>
     simp only[ht]at hs;obtain⟨_,_,_,_,_,_,_,_,_,_,_,_,_,_,_,PG,_⟩:=X.gz ht;exact hD (X.th hs (Dh.trans e)▸h.closed _ _ hj PG)
   rw[mH,if_neg fg];exact VR.mono fT.ev _ _ (h.tv j s hj hs)
  .simp only[kn,abQ,Dh]at hs
   rw[mH,if_pos hs];exact hv
 .have fg:o.dst ≠ aa s:=λe=>hn i (.inr rfl) (Dh.trans e)
  rw[mH,if_neg fg];exact VR.mono fT.ev _ _ (h.vv k s hk λj hj=>hn j (.inl hj))
 .rcases hj with hj|rfl
  .obtain⟨s,id,c,el,k1,_,k2,k3,k4,k5,k6,k7,_⟩:=old j m hj hm hn
   exact⟨s,id,c,el,k1,k2,k3,k4,k5,k6,k7⟩
  .obtain⟨⟨s,hs⟩,id,c,el,k1,k2,k3,k4,k5,k6⟩:=lB m hm
   exact⟨s,id,c,el,Dh.trans hs,by rw[mH,if_pos hs];exact k1,Nat.le_trans h.step.size k2,k3,k4,k5,k6⟩
 .intro j j' m m' s s' id hj vR hm rE hn mz hs j8 fg e1 e2
  rcases hj with hj|rfl<;>rcases vR with vR | rfl
  .rw[GB j s hj hs]at e1
   rw[GB j' s' vR j8]at e2;exact h.lbd j j' m m' s s' id hj vR hm rE (λi' ke =>hn i' (.inl ke)) (λi' ke =>mz i' (.inl ke)) hs j8 fg e1 e2
  .obtain⟨s1,id1,c,el,k1,_,k2,_,_,_,_,_,k3⟩:=old j m hj hm hn
   rw[k1]at hs;simp at hs;subst hs;obtain⟨_,Dc,c2,NV,q1,q2,_⟩:=lB m' rE;rw[mH,if_pos (Dh.symm.trans j8),q1]at e2;rw[k2]at e1;simp at e1 e2;omega
  .obtain⟨s1,id1,c,el,k1,_,k2,_,_,_,_,_,k3⟩:=old j' m' vR rE mz
   rw[k1]at j8; simp at j8; subst j8;obtain⟨_,Dc,c2,NV,q1,q2,_⟩:=lB m hm;rw[mH,if_pos (Dh.symm.trans hs),q1]at e1;rw[k2]at e2;simp at e1 e2;omega
  .exact fg rfl
def Inv.fill (h:Inv X C0 w0 ds D C f a w){i t d m:Nat}{x:Rf}(hi:i<ah X.ls) (hD:¬D i) (hb:∀j,nA X.draw X.bf j i=ad->D j){l:Ln}(hl:X.ls[i]? = aa l) (fu:l.op = .kP (.t d) x m) (ht:nD X.ls i=aa t)
  {xv:AV} {y:Value} (lV:valOf X.st i = .bN xv) (hn:bC xv=ad) (hxy:VR C w.heap xv y) {s id:Nat} {c:Array Value} {el:TypeId} (hs:dE X.ops t=aa s) (hp:a.tmps.getD s undef = .pointer (aa ⟨id,0,ab⟩))
  (hid:w0.heap.size<=id) (hI:¬C.I id) (hO:¬owned C id) (hH:w.heap[id]? = aa (.cells c el (0,0))) {c' : Array Value} (sf:c'.size=c.size) (hc:∀j,j<y.cells.size->c'[j]? = y.cells[j]?) :
  Inv X C0 w0 ds (λj=>D j\/j=i) {C with I:=λk=>C.I k\/k=id} f a (w.setRow id c'):=by
 obtain⟨_,o,l', d', x', m', ho,kB, hF,yP, hg,H8,hd,Di,lB,PG,PH⟩:=X.gz ht;have hDt:=hb _ PG;have Dh:dE X.ops i=ab:=by simp[dE,ho,H8]
 have yD : (w.setRow id c').heap[id]? = aa (.cells c' el (0,0)):=setRow_heap w id c c' el (0,0) hH;have cw:=(Array.getElem?_eq_some_iff.1 hH).1;have ev:gM C w.heap {C with I:=λk=>C.I k\/k=id} (w.setRow id c').heap:=by
  refine⟨λk hk=>.inl hk,λk hk=>kZ w id c' λe=>hI (e▸hk),λ_ _ h=>h,λb u B' Dc _ dF=>⟨B', dF,rfl,rfl,λc2 NV D6=>?_⟩⟩
  by_cases e:Dc=id
  .subst e
   rw[hH]at D6;simp at D6;obtain⟨rfl,rfl⟩:=D6;exact⟨c', yD, sf⟩
  .exact⟨c2,by rw[kZ w id c' e];exact D6,rfl⟩
 have PI:Good {C with I:=λk=>C.I k\/k=id} (w.setRow id c'):=by
  refine⟨λk hk=>by rw[py];exact hk.elim (h.good.I k) (λe=>e▸cw),h.good.mT,λb u B i' dF yQ=>?_,h.good.apart,λb u B i' es dF yQ=>?_⟩
  obtain⟨k1,c2,NV,k2,k3,k4⟩:=h.good.live b u B i' dF yQ;have fg:i' ≠ id:=λe=>hO ⟨b,u,B,e▸dF,mZ yQ⟩;refine⟨λhk=>hk.elim k1 fg,c2,NV,by rw[kZ w id c' fg];exact k2,k3,λi2 x2 Zl=>?_⟩
  obtain⟨y2,j1,j2,j3⟩:=k4 i2 x2 Zl;exact⟨y2,j1,VR.mono ev _ _ j2,j3⟩;have fg:i' ≠ id:=λe=>hO ⟨b,u,B,e▸dF,mW yQ⟩;exact h.good.dK (C' :={C with I:=λk=>C.I k\/k=id}) ev dF yQ (kZ w id c' fg) (λhk=>hk.elim (h.good.maps b u B i' es dF yQ).1 fg)
 have PJ:Step C0 w0 {C with I:=λk=>C.I k\/k=id} (w.setRow id c'):=by
  refine⟨h.step.ev.trans ev,by rw[py];exact h.step.size,λk hk HM=>by rw[kZ w id c' (by omega)];exact h.step.frame k hk HM,λk hk=>h.step.ie k hk,λk hk=>?_,h.step.os,h.step.tape,h.step.output⟩
  rcases hk with hk|rfl
  .exact h.step.iH k hk
  .exact .inr (.inr hid)
 have fg:bH X.ls i=ae:=by simp[bH,hl,fu,dN.mU,dN.mb]
 have hnt:∀i', D i' ->nD X.ls i' ≠ aa t:=λi' ke e=>hD (X.xM ht e▸ke);refine⟨PI,PJ,h.size,h.defers,λj hj=>hj.elim (h.below j) (λe=>e▸hi),λi' j hj tY=>?_,λj s' hj j8 =>?_,λk s' hk mz =>?_,λj m2 hj hm mz =>?_,?_,h.fr.uG fg _⟩
 .rcases hj with hj|rfl
  .exact .inl (h.closed _ _ hj tY)
  .exact .inl (hb _ tY)
 .rcases hj with hj|rfl
  .exact VR.mono ev _ _ (h.tv j s' hj j8)
  .simp only[kn,ht]at j8
   rw[hs]at j8; simp at j8; subst j8;rw[lV,hp];unfold VR;exact⟨hn,id,0,c', el,(0,0),y,rfl,.inr rfl,yD, VR.mono ev _ _ hxy,λj hj=>by rw[Nat.zero_add];exact hc j hj⟩
 .exact VR.mono ev _ _ (h.vv k s' hk λj hj=>mz j (.inl hj))
 .rcases hj with hj|rfl
  .obtain⟨s2,Dc,c2,NV,k1,k2,k3,k4,k5,k6,k7⟩:=h.lb j m2 hj hm λi' ke =>mz i' (.inl ke)
   have PK:j ≠ t:=λe=>mz i (.inr rfl) (e▸ht);have PL:Dc ≠ id:=λe=>by
    subst e;exact h.lbd j t m2 m' s2 s Dc hj hDt hm lB (λi' ke =>mz i' (.inl ke)) hnt k1 hs PK k2 hp
   exact⟨s2,Dc,c2,NV,k1,k2,k3,λhk=>hk.elim k4 PL,k5,by rw[kZ w id c' PL];exact k6,k7⟩
  .simp[fo,hl,fu]at hm
 .intro j j' m1 m2 s1 s2 Dc hj vR hm rE hn1 hn2 NW hs2 abR e1 e2
  have H9:∀j m,(D j\/j=i)->fo X.ls j=aa m->D j:=λj m hj hm=>hj.elim (λq=>q) λe=>by
   subst e;simp[fo,hl,fu]at hm
  exact h.lbd j j' m1 m2 s1 s2 Dc (H9 j m1 hj hm) (H9 j' m2 vR rE) hm rE (λi' ke =>hn1 i' (.inl ke)) (λi' ke =>hn2 i' (.inl ke)) NW hs2 abR e1 e2
end
end Ab
namespace Ab
open Go
variable{P:Program}
section
variable{a:Act}{r:Rf->AV}{w:World}{C:Ctx}{R:Operand->Rf->Bool}{ce:CE}{σ:aq}{nl:Nat}{ps:List dd}
variable{o:Oper}{rG:dN}{x:AV}
def opR{p:Option dd}(d:nj P R o.op rG=ad) (F:rG.lj=ae) (G:rG.mU=ae) (H:rG.mb=ae) (z:cR P ce) (q:Good C w)
  (i:∀b u B,C.lim b u->gI σ b u=aa B->∃id,C.own b u=aa (B,id))
  (l:∀x y,R x y=ad->VR C w.heap (r y) (a.eval x)) (m:ev ce σ nl ps r rG=aa (x,p)):cm P o a w (dL C w x):=by
 have j:∀b u B,C.lim b u->upto σ b u=aa B->∃id,C.own b u=aa (B,id):=λb u B I h=>i b u B I (Pe h);obtain⟨dst,op,type,pos,after,guard⟩:=o;have pl:∀{E : AV} {J : Option dd},Plain P a.eval ⟨dst,op,type,pos,after,guard⟩ w C w.heap E /\J = ab->cm P ⟨dst,op,type,pos,after,guard⟩ a w (dL C w E):=λh=>h.1.does q;simp only[nj]at d;split at d
 all_goals first
  |(exfalso;simp[dN.lj]at F;done)
  |(exfalso;simp[dN.mb]at H;done)
  |(exfalso;simp[dN.mU]at G;done)
  |skip
 .simp only[Bool.and_eq_true,Bool.or_eq_true]at d
  exact pl (Pf (a:=a) rfl rfl d.1.1 d.1.2 j (d.2.imp (λh=>⟨h.1,l _ _ h.2⟩) (λh=>⟨h.1,l _ _ h.2⟩)) m)
 .simp only[Bool.and_eq_true]at d
  exact pl (AK rfl d.1 q j (l _ _ d.2) m)
 .simp only[Bool.and_eq_true]at d
  obtain⟨⟨⟨g,n⟩,A⟩,K⟩:=d;split at g
  .rename_i e s
   exact pl (HN rfl s g j (l _ _ n) A K l m)
  .simp at g
 .simp only[Bool.and_eq_true,beq_iff_eq]at d
  obtain⟨⟨rfl,g⟩,n⟩:=d;exact(Oz z rfl rfl g q j (oD l n) m).1
 .simp only[Bool.and_eq_true,beq_iff_eq]at d
  obtain⟨⟨⟨g,rfl⟩,n⟩,A⟩:=d;split at g
  .rename_i s
   simp only[Bool.and_eq_true]at g;exact pl (Pg rfl s g.1 g.2 q i (l _ _ n) (l _ _ A) m)
  .simp at g
 .split at d
  .rename_i L D
   simp only[Bool.and_eq_true]at d;obtain⟨g,n⟩:=d;split at g
   .rename_i s
    exact pl (Ph rfl rfl L D s q i (l _ _ n) m)
   .simp at g
  .simp at d
 .simp only[Bool.and_eq_true]at d
  exact pl (OR rfl d.1 q j (l _ _ d.2) m)
 .simp at d
def opW{q : aq}{ids:Nat->Nat}{I:Nat->Prop}(b:nj P R o.op rG=ad) (A:rG.mb=ad) (s:cR P ce) (u:eT P ce) (j:Good (aI σ ids I) w)
  (g:∀x y,R x y=ad->VR (aI σ ids I) w.heap (r y) (a.eval x)) (l:gS ce σ r rG=aa (x,q)):cm P o a w (k9 σ ids I w x q):=by
 obtain⟨dst,op,type,pos,after,guard⟩:=o;simp only[nj]at b;split at b
 all_goals first
  |(exfalso;simp[dN.mb]at A;done)
  |skip
 .simp only[Bool.and_eq_true]at b
  exact OX rfl b.1.1 j (g _ _ b.1.2) (g _ _ b.2) l
 .split at b
  .rename_i z p
   simp only[Bool.and_eq_true]at b;obtain⟨⟨⟨d,h⟩,m⟩,n⟩:=b;split at d
   .rename_i e i
    simp only[Bool.and_eq_true]at d;exact aaH rfl rfl z p i h d.1.1 d.1.2 d.2 j (g _ _ m) (g _ _ n) l
   .simp at d
  .simp at b
 .simp only[Bool.and_eq_true,beq_iff_eq]at b
  obtain⟨⟨rfl,d⟩,h⟩:=b;exact aaQ s rfl rfl d j (oD g h) l
 .simp only[Bool.and_eq_true]at b
  exact aaR s u rfl rfl j (g _ _ b.1) (oD g b.2) l
 .split at b
  .rename_i z p
   simp only[Bool.and_eq_true]at b;obtain⟨d,h⟩:=b;split at d
   .rename_i e i
    simp only[Bool.and_eq_true]at d;exact aaT rfl rfl z p i d.1 d.2 j (g _ _ h) l
   .simp at d
  .simp at b
 .simp only[Bool.and_eq_true]at b
  obtain⟨⟨⟨d,h⟩,m⟩,n⟩:=b;split at d
  .rename_i i
   exact OY (.inl rfl) i d j (g _ _ h) (g _ _ m) (g _ _ n) l
  .simp at d
 .simp only[Bool.and_eq_true]at b
  obtain⟨⟨⟨d,h⟩,m⟩,n⟩:=b;split at d
  .rename_i i
   exact OY (.inr rfl) i d j (g _ _ h) (g _ _ m) (g _ _ n) l
  .simp at d
 .simp only[Bool.and_eq_true]at b
  obtain⟨⟨⟨d,h⟩,m⟩,n⟩:=b;split at d
  .rename_i i
   simp only[Bool.and_eq_true,decide_eq_true_eq]at d;exact O3 (.inl rfl) i d.1 d.2 j (g _ _ h) (g _ _ m) (g _ _ n) l
  .simp at d
 .simp only[Bool.and_eq_true]at b
  obtain⟨⟨⟨d,h⟩,m⟩,n⟩:=b;split at d
  .rename_i i
   simp only[Bool.and_eq_true,decide_eq_true_eq]at d;exact O3 (.inr rfl) i d.1 d.2 j (g _ _ h) (g _ _ m) (g _ _ n) l
  .simp at d
 .simp at b
variable{n:Nat}
def opA(b:nj P R o.op (.iA n)=ad) (g:Good C w) :
  cm P o a w λv w' =>Good C w' /\Step C w C w' /\∃id c el,v = .pointer (aa ⟨id,0,ab⟩)/\w.heap.size<=id/\¬C.I id/\¬owned C id/\w'.heap[id]? = aa (.cells c el (0,0))/\c.size=n:=by
 obtain⟨dst,op,type,pos,after,guard⟩:=o;simp only[nj]at b;split at b
 all_goals first
  |(rename_i heq;exfalso;simp at heq;done)
  |skip
 .rename_i t r heq
  simp at heq;subst heq;simp only[Bool.and_eq_true]at b;obtain⟨_,e⟩:=b;cases h:P.info? t with
  |none=>simp[h]at e
  |some i=>
   simp only[h]at e;cases j:i.zero with
   |none=>simp[j]at e
   |some v=>
    simp only[j,beq_iff_eq]at e;obtain⟨l,m⟩:=g.grow (w' :=cF w (.cells v.cells t)) (by simp[cF]) λk d=>ow w _ d
    refine cm.val (v:=.pointer (aa ⟨w.heap.size,0,ab⟩)) (w' :=cF w (.cells v.cells t)) ?_ ⟨l,⟨m,by simp[cF],λk d _=>ow w _ d,λk d=>.inl d,λk d=>.inl d,rfl,⟨rfl,Nat.le_refl _⟩,rfl⟩,w.heap.size,v.cells,t,rfl,Nat.le_refl _,λp=>Nat.lt_irrefl _ (g.I _ p),λq=>Nat.lt_irrefl _ (g.lt q),qf w _,e⟩
    simp only[execOp,Instr.alloc,zeroValue,Sem.run_bind,run_typeInfo w h,Result.andThen_ok,j,Sem.run_pure,DF]
 .simp at b
def opI{p x:Rf}(d:nj P R o.op (.kP p x n)=ad){id:Nat}{c:Array Value}{el:TypeId}(A:∀q,R q p=ad->a.eval q = .pointer (aa ⟨id,0,ab⟩)) (B:w.heap[id]? = aa (.cells c el (0,0))) (J:c.size=n)
  (D:∀q,R q x=ad->VR C w.heap (r x) (a.eval q)) (i:bC (r x)=ad) (E:ah (r x).cells=n) :
  ∃y,VR C w.heap (r x) y/\cm P o a w λ_ w' =>∃c', w' = w.setRow id c' /\c'.size=c.size/\∀j,j<y.cells.size->c'[j]? = y.cells[j]?:=by
 obtain⟨dst,op,type,pos,after,guard⟩:=o;simp only[nj]at d;split at d
 all_goals first
  |(rename_i heq;exfalso;simp at heq;done)
  |skip
 .rename_i t q z K L M heq
  simp at heq;obtain⟨rfl,rfl,rfl⟩:=heq;simp only[Bool.and_eq_true]at d;obtain⟨⟨F,G⟩,H⟩:=d;have m:=D _ H;have g:jQ (r x):=⟨λe=>by rw[e]at i;simp[bC]at i,λl e=>by rw[e]at i;simp[bC]at i⟩
  have s:=VR.size g m;have h:∀v∈(a.eval z).cells.toList,v.oneCell' = ad:=(VR.cells g m).2;have e:=A _ G;refine⟨a.eval z,m,?_⟩;have b:=run_storeCells_at P id 0 el (a.eval z).cells.toList 0 c w B (by simp;omega) h
  refine cm.skip (w' :=w.setRow id (c.toList.take 0++(a.eval z).cells.toList++c.toList.drop (0+ah (a.eval z).cells.toList)).toArray) ?_ ⟨_,rfl,?_,λj I=>?_⟩
  .have u:=mr F w
   simp only[execOp,Instr.storeAt,e,Instr.sureAddr,storeVar,Sem.run_bind,Sem.run_pure,Result.andThen_ok,u];rw[if_neg (by rw[s,E];simp)]
   simp only[Nat.add_zero]at b;rw[b]
   rfl
  .simp;omega
  .simp[List.getElem?_append_left,I]
 .simp at d
end
end Ab
namespace Ab
open Go
variable{P:Program}
namespace RC
variable (X:RC P)
theorem fK{i:Nat}(a:bH X.ls i=ad):i<ah X.ls:=by
 unfold bH at a;cases b:X.ls[i]? with
 |none=>simp[b]at a
 |some l=>exact(List.getElem?_eq_some_iff.1 b).1
variable{k:Nat}
theorem p8:oM X.ls X.draw X.bf k=ad↔(∃j,j<=k/\qz X.ls X.draw X.bf j=ad)/\∃i,i<ah X.ls/\k<=i/\qA X.ls X.draw X.bf i=ad:=by
 simp only[oM,Bool.and_eq_true,List.any_eq_true,List.mem_range,decide_eq_true_eq];constructor
 .rintro⟨⟨j,g,a⟩,i,b,d,e⟩;exact⟨⟨j,by omega,a⟩,i,b,d,e⟩
 .rintro⟨⟨j,g,a⟩,i,b,d,e⟩;exact⟨⟨j,by omega,a⟩,i,b,d,e⟩
theorem oN{i j:Nat}(a:bH X.ls i=ad) (d:bH X.ls j=ad) (b:j<i):nA X.draw X.bf j i=ad\/oM X.ls X.draw X.bf j=ad/\oM X.ls X.draw X.bf i=ad:=by
 cases l:nA X.draw X.bf j i with
 |true=>exact .inl rfl
 |false=>
  have e:loose X.ls X.draw X.bf j i=ad:=by simp[loose,a,d,b,l]
  have g:qz X.ls X.draw X.bf j=ad:=List.any_eq_true.2 ⟨i,List.mem_range.2 (X.fK a),e⟩;have h:qA X.ls X.draw X.bf i=ad:=List.any_eq_true.2 ⟨j,List.mem_range.2 (X.fK d),e⟩;exact .inr ⟨X.p8.2 ⟨⟨j,Nat.le_refl _,g⟩,i,X.fK a,by omega,h⟩,X.p8.2 ⟨⟨j,by omega,g⟩,i,X.fK a,Nat.le_refl _,h⟩⟩
theorem nH{i:Nat}(a:bH X.ls i=ad) (b:oM X.ls X.draw X.bf i=ad):jJ X.ls i=ad:=by
 obtain⟨o,l,j,d,e⟩:=X.at_ (X.fK a);have h:=e.eff;have g:(l.op.mU||l.op.mb)=ad:=by simpa[bH,d]using a
 simp only[uE,g,if_true,Bool.and_eq_true,b,Bool.not_true,Bool.false_or]at h;exact h.2
theorem least{p:Nat->Prop}:∀n,p n->∃m,p m/\∀k,k<m->¬p k:=by
 intro n
 induction n using Nat.strongRecOn with
 |_ n b=>
  intro h
  by_cases a:∃k,k<n/\p k
  .obtain⟨k,d,e⟩:=a;exact b k d e
  .exact⟨n,h,λk g i=>a ⟨k,g,i⟩⟩
theorem AX{p:Nat->Prop}{L:Nat}(a:∀k,p k->k<L){n:Nat}(h:p n):∃m,p m/\∀k,m<k->¬p k:=by
 obtain⟨d,b,e⟩:=least (p:=λd=>d<=L/\p (L-d)) (L-n) ⟨by omega,by have:=a n h;rwa [show L-(L-n)=n by omega]⟩
 refine⟨L-d,b.2,λk i g=>?_⟩;have:=a k g;exact e (L-k) (by omega) ⟨by omega,by rwa [show L-(L-k)=k by omega]⟩
theorem qD(h:oM X.ls X.draw X.bf k=ad):∃d a,(∀k,oM X.ls X.draw X.bf k=ad↔d<=k/\k<=a)/\bH X.ls a=ad/\d<=a:=by
 obtain⟨⟨j,_,u⟩,i,C,_,w⟩:=X.p8.1 h;have e:∀i,qA X.ls X.draw X.bf i=ad->bH X.ls i=ad/\∃j,j<i/\qz X.ls X.draw X.bf j=ad:=λi a=>by
  obtain⟨j,_,g⟩:=List.any_eq_true.1 a;have l :=g;simp only[loose,Bool.and_eq_true,decide_eq_true_eq]at g;exact⟨g.1.1.2,j,g.1.2,List.any_eq_true.2 ⟨i,List.mem_range.2 (X.fK g.1.1.2),l⟩⟩
 obtain⟨d,x,n⟩:=least (p:=λj=>qz X.ls X.draw X.bf j=ad) j u;obtain⟨a,o,y⟩:=AX (p:=λi=>qA X.ls X.draw X.bf i=ad) (L:=ah X.ls) (λk z=>X.fK (e k z).1) w;obtain⟨q,r, D,A⟩:=e a o;have hle:d<=a:=by
  have:¬r < d:=λb=>n r b A;omega
 refine⟨d,a,λk=>X.p8.trans ⟨?_,?_⟩,q,hle⟩
 .rintro⟨⟨j,s,m⟩,i,_,b1,B⟩
  have E:¬j<d:=λb=>n j b m;have F:¬a<i:=λb=>y i b B;omega
 .rintro⟨s,m⟩
  exact⟨⟨d,s,x⟩,a,X.fK q,m,o⟩
theorem free_spec{i:Nat}{l:Ln}(m:X.ls[i]? = aa l) (h:jJ X.ls i=ad):l.g=ab/\l.op.mU=ad/\l.op.mb=ae/\l.op.o8=ae/\(∀ce σ e nl ps r,ev ce σ nl ps r l.op=ev ce e nl ps r l.op)/\
  ∀ce σ nl ps r x p,ev ce σ nl ps r l.op=aa (x,p)->((∀f as,l.op ≠ .can f as)/\∃B,p=aa (.new B))\/∃n,p=aa (.news n):=by
 simp only[jJ,m,Bool.and_eq_true,Option.isNone_iff_eq_none]at h;obtain⟨d,j⟩:=h;split at j
 .rename_i b
  rw[b];refine⟨d,rfl,rfl,rfl,λ_ _ _ _ _ _=>rfl,λce σ nl ps r x p a=>.inl ⟨by simp,?_⟩⟩
  simp only[ev]at a;split at a<;>try(simp at a;done)
  split at a<;>simp at a;exact⟨_,a.2.symm⟩
 .rename_i b
  rw[b];refine⟨d,rfl,rfl,rfl,λ_ _ _ _ _ _=>rfl,λce σ nl ps r x p a=>.inr ?_⟩;simp only[ev]at a;split at a<;>try(simp at a;done)
  split at a<;>simp at a;exact⟨_,a.2.symm⟩
 .rename_i b
  rw[b];refine⟨d,rfl,rfl,rfl,λ_ _ _ _ _ _=>rfl,λce σ nl ps r x p a=>.inl ⟨by simp,?_⟩⟩
  simp only[ev]at a;split at a<;>simp at a
  exact⟨_,a.2.symm⟩
 .rename_i b
  rw[b];refine⟨d,rfl,rfl,rfl,λ_ _ _ _ _ _=>rfl,λce σ nl ps r x p a=>.inl ⟨by simp,?_⟩⟩
  simp only[ev,Option.some.injEq,Prod.mk.injEq]at a;exact⟨_,a.2.symm⟩
 .rename_i b
  rw[b];refine⟨d,rfl,rfl,rfl,λ_ _ _ _ _ _=>rfl,λce σ nl ps r x p a=>.inl ⟨by simp,?_⟩⟩
  simp only[ev]at a;split at a<;>simp at a
  exact⟨_,a.2.symm⟩
 .simp at j
theorem yR{i:Nat}(e:bH X.ls i=ad) (j:oM X.ls X.draw X.bf i=ad):∃l,(X.st (i+1)).σ=(X.st i).σ++l:=by
 obtain⟨o,l,r,g,s⟩:=X.at_ (X.fK e);obtain⟨m,u,n,_,_,h⟩:=X.free_spec g (X.nH e j);have d:=X.run i l g;unfold dQ at d;simp only[m,want,n,Bool.false_eq_true,if_false]at d;split at d
 .rename_i v b
  rcases h _ _ _ _ _ _ _ b with⟨_,B,a⟩|⟨q,a⟩<;>simp at a
 .rename_i v p b
  simp only[Option.some.injEq]at d;rw[<-d];rcases h _ _ _ _ _ _ _ b with⟨_,B,a⟩|⟨q,a⟩
  .simp at a;subst a;exact⟨_,rfl⟩
  .simp at a;subst a;exact⟨_,rfl⟩
 .simp at d
theorem pre{d e:Nat}(b:∀k,oM X.ls X.draw X.bf k=ad↔d<=k/\k<=e){p:Nat}:∀(n:Nat),d<=p->p+n<=e+1->p+n<=ah X.ls->∃l,(X.st (p+n)).σ=(X.st p).σ++l
 |0,_,_,_=>⟨[],by simp⟩
 |n+1,j,m,q=>by
  obtain⟨l,g⟩:=pre b n j (by omega) (by omega)
  cases h:bH X.ls (p+n)with
  |true=>
   obtain⟨i, a⟩:=X.yR h ((b _).2 ⟨by omega,by omega⟩)
   exact⟨l++i, by rw[show p+(n+1)=p+n+1 by omega,a, g,List.append_assoc]⟩
  |false=>
   obtain⟨o,i, r,a, s⟩:=X.at_ (show p+n<ah X.ls by omega)
   exact⟨l,by rw[show p+(n+1)=p+n+1 by omega,(X.still a h).1,g]⟩
variable{lo hi p q:Nat}
theorem AY(a:∀k,oM X.ls X.draw X.bf k=ad↔lo<=k/\k<=hi) (b:lo<=p) (d:p<=q) (e:q<=hi+1) (g:q<=ah X.ls):∃l,(X.st q).σ=(X.st p).σ++l:=by
 have:=X.pre a (p:=p) (q-p) b (by omega) (by omega)
 rwa [show p+(q-p)=q by omega]at this
theorem nI(a:∀k,oM X.ls X.draw X.bf k=ad↔lo<=k/\k<=hi) (b:lo<=p) (d:p<=q) (e:q<=hi+1) (g:q<=ah X.ls):ah (X.st p).σ<=ah (X.st q).σ:=by
 obtain⟨l,h⟩:=X.AY a b d e g;rw[h];simp
theorem wD{i:Nat}(h:bH X.ls i=ad) (j:jJ X.ls i=ad):∃l,(X.st (i+1)).σ=(X.st i).σ++l:=by
 obtain⟨o,l,r,e,s⟩:=X.at_ (X.fK h);obtain⟨m,u,n,_,_,g⟩:=X.free_spec e j;have d:=X.run i l e;unfold dQ at d;simp only[m,want,n,Bool.false_eq_true,if_false]at d;split at d
 .rename_i v b
  rcases g _ _ _ _ _ _ _ b with⟨_,B,a⟩|⟨q,a⟩<;>simp at a
 .rename_i v p b
  simp only[Option.some.injEq]at d;rw[<-d];rcases g _ _ _ _ _ _ _ b with⟨_,B,a⟩|⟨q,a⟩
  .simp at a;subst a;exact⟨_,rfl⟩
  .simp at a;subst a;exact⟨_,rfl⟩
 .simp at d
theorem xN{p:Nat}:∀(n:Nat),p+n<=ah X.ls->(∀j,p<=j->j<p+n->bH X.ls j=ad->jJ X.ls j=ad)->∃l,(X.st (p+n)).σ=(X.st p).σ++l
 |0,_,_=>⟨[],by simp⟩
 |n+1,i,d=>by
  obtain⟨l,e⟩:=xN n (by omega) λj h m=>d j h (by omega)
  cases b:bH X.ls (p+n)with
  |true=>
   obtain⟨g, a⟩:=X.wD b (d _ (by omega) (by omega) b)
   exact⟨l++g, by rw[show p+(n+1)=p+n+1 by omega,a, e,List.append_assoc]⟩
  |false=>
   obtain⟨o,g, q,a, r⟩:=X.at_ (show p+n<ah X.ls by omega)
   exact⟨l,by rw[show p+(n+1)=p+n+1 by omega,(X.still a b).1,e]⟩
theorem Zm{lo hi:Nat}(a:∀k,oM X.ls X.draw X.bf k=ad↔lo<=k/\k<=hi){b:Nat}:∀(n:Nat),lo+n<=hi+1->lo+n<=ah X.ls->b<ah (X.st (lo+n)).σ->b<ah (X.st lo).σ\/∃i,lo<=i/\i<lo+n/\bH X.ls i=ad/\ah (X.st i).σ<=b/\b<ah (X.st (i+1)).σ
 |0,_,_,h=>.inl h
 |n+1,m,p,h=>by
  by_cases g:b<ah (X.st (lo+n)).σ
  .rcases Zm a n (by omega) (by omega) g with h|⟨i,j,q,l⟩
   .exact .inl h
   .exact .inr ⟨i,j,by omega,l⟩
  .cases e:bH X.ls (lo+n)with
   |true=>exact .inr ⟨lo+n,by omega,by omega,e,by omega,h⟩
   |false=>
    obtain⟨o,r, s,d, u⟩:=X.at_ (show lo+n<ah X.ls by omega)
    rw[show lo+(n+1)=lo+n+1 by omega,(X.still d e).1]at h
    omega
theorem nJ(h:jw X.ls p q=ad):∀j,p<=j->j<q->bH X.ls j=ad->jJ X.ls j=ad:=λj d a b=>by
 simp only[jw,List.all_eq_true,List.mem_range,Bool.or_eq_true,Bool.not_eq_true', decide_eq_false_iff_not]at h;rcases h j a with(h|h)|h
 .omega
 .rw[b]at h;simp at h
 .exact h
theorem wE(h:AT X.ls p q=ad):∀j,p<=j->j<q->bH X.ls j=ae:=λj a b=>by
 simp only[AT,List.all_eq_true,List.mem_range,Bool.or_eq_true,Bool.not_eq_true', decide_eq_false_iff_not]at h;rcases h j b with h|h
 .exact absurd a h
 .exact h
end RC
section
variable{X:RC P}{C0:Ctx}{w0:World}{ds:List Deferred}{D:Nat->Prop}{C:Ctx}{f:Nat}{a:Act}{w:World}{i:Nat}
def jK.front (h:jK X D C f) (hD:¬D i) (hb:∀j,nA X.draw X.bf j i=ad->D j) (he:bH X.ls i=ad) (qE:oM X.ls X.draw X.bf i=ae):f<=i/\∀j,f<=j->j<i->bH X.ls j=ae:=by
 refine⟨Nat.le_of_not_lt λcw=>hD (h.lo i cw he),λj h1 h2=>?_⟩;cases hj:bH X.ls j with
 |false=>rfl
 |true=>
  rcases X.oN he hj h2 with hq|hq
  .exact absurd (hb j hq) (h.hi j h1 hj)
  .rw[qE]at hq;simp at hq
def jK.Ia (h:jK X D C f) (hf:f<=i) (hn:∀j,f<=j->j<i->bH X.ls j=ae) :
  (∀e,e<i+1->bH X.ls e=ad->D e\/e=i)/\∀e,i+1<=e->bH X.ls e=ad->¬(D e\/e=i):=by
 refine⟨λe h1 h2=>?_,λe h1 h2 h3=>?_⟩
 .rcases Nat.lt_or_ge e i with cw|Zn
  .rcases Nat.lt_or_ge e f with hl|hg
   .exact .inl (h.lo e hl h2)
   .rw[hn e hg cw]at h2;simp at h2
  .exact .inr (by omega)
 .rcases h3 with h3|h3
  .exact h.hi e (by omega) h2 h3
  .omega
variable{l:aq}{ids:Nat->Nat}{I:Nat->Prop}{b u:Nat}
def Ib{σ:aq}(a:b<ah σ):(aI (σ++l) ids I).own b u=(aI σ ids I).own b u/\((aI (σ++l) ids I).lim b u↔(aI σ ids I).lim b u):=by
 have e:aQ (σ++l) b=aQ σ b:=by rw[dX,dX,List.getElem?_append_left a]
 simp only[aI,e,and_self]
def abS{σ:aq}(h:(aI σ ids I).lim b u):b<ah σ:=by
 obtain⟨B,a,_⟩:=h;rw[dX]at a;exact(List.getElem?_eq_some_iff.1 a).1
def jK.group (h:jK X D C f) (hD:¬D i) (hb:∀j,nA X.draw X.bf j i=ad->D j) (he:bH X.ls i=ad) (hg:oM X.ls X.draw X.bf i=ad):∃lo hi,qC X D C lo hi:=by
 obtain⟨lo,hi,g1,g2,g3⟩:=X.qD hg;have hi1:=(g1 i).1 hg;have Dj:f<=i:=Nat.le_of_not_lt λcw=>hD (h.lo i cw he);have hhl:=X.fK g2;have PM:∀e,e<lo->bH X.ls e=ad->D e:=λe h1 h2=>by
  rcases X.oN he h2 (by omega)with hq|hq
  .exact hb e hq
  .have:=(g1 e).1 hq.1;omega
 have abT:∀e,hi<e->bH X.ls e=ad->¬D e:=λe h1 h2=>h.hi e (by omega) h2
 -- the blocks now
 obtain⟨q,q1,q2,q3,q4⟩:∃q,lo<=q/\q<=hi+1/\(X.st f).σ=(X.st q).σ/\∀e,bH X.ls e=ad->lo<=e->(D e↔e<q):=by
  rcases Nat.lt_or_ge f lo with cw|Zn
  .refine⟨lo,Nat.le_refl _,by omega,((X.qB (p:=f) (q:=lo) (by omega) (by omega) λk k1 k2=>?_).1).symm,λe h1 h2=>⟨λhd=>absurd hd (h.hi e (by omega) h1),λh3=>by omega⟩⟩
   cases hk:bH X.ls k with
   |false=>rfl
   |true=>exact absurd (PM k k2 hk) (h.hi k k1 hk)
  .exact⟨f,Zn,by omega,rfl,λe h1 h2=>⟨λhd=>Nat.lt_of_not_le λh3=>h.hi e h3 h1 hd,λh3=>h.lo e h3 h1⟩⟩
 have lB:∀b,alive X D lo b↔b<ah (X.st f).σ:=λb=>by
  rw[q3];constructor
  .rintro(h1|⟨k,k1,k2,k3,k4,k5⟩)
   .have:=X.nI g1 (Nat.le_refl lo) q1 q2 (by omega);omega
   .have a1:=(g1 k).1 k2
    have a2:=(q4 k k1 a1.1).1 k3;have:=X.nI g1 (p:=k+1) (q:=q) (by omega) (by omega) q2 (by omega)
    omega
  .intro h1
   have PN : b<ah (X.st (lo+(q-lo))).σ:=by rwa [show lo+(q-lo)=q by omega]
   rcases X.Zm g1 (q-lo) (by omega) (by omega) PN with h2|⟨k,k1,k2,k3,k4,k5⟩
   .exact .inl h2
   .exact .inr ⟨k,k3,(g1 k).2 ⟨k1,by omega⟩,(q4 k k3 k1).2 (by omega),k4,k5⟩
 obtain⟨l,hl⟩:=X.AY g1 q1 q2 (Nat.le_refl _) (by omega)
 rw[<-q3]at hl;obtain⟨ids,s1,s2⟩:=h.iF;refine⟨lo,hi,g1,g2,g3,PM,abT,ids,λb u e ha ho=>?_,λb u jh=>?_⟩
 .rw[hl,(Ib ((lB b).1 ha)).1]at ho
  exact s1 b u e ho
 .have:=s2 b u jh
  have cw:=abS this;exact⟨(lB b).2 cw,by rw[hl];exact(Ib cw).2.2 this⟩
def qC.done{lo hi:Nat}(h:qC X D C lo hi) (yw:∀k,bH X.ls k=ad->oM X.ls X.draw X.bf k=ad->D k):jK X D C (hi+1):=by
 have hhl:=X.fK h.NT;have hle:=h.le;have lB:∀b,b<ah (X.st (hi+1)).σ->alive X D lo b:=λb hb=>by
  have PN : b<ah (X.st (lo+(hi+1-lo))).σ:=by rwa [show lo+(hi+1-lo)=hi+1 by omega]
  rcases X.Zm h.qD (hi+1-lo) (by omega) (by omega) PN with h2|⟨k,k1,k2,k3,k4,k5⟩
  .exact .inl h2
  .have hg:=(h.qD k).2 ⟨k1,by omega⟩
   exact .inr ⟨k,k3,hg,yw k k3 hg,k4,k5⟩
 obtain⟨ids,s1,s2⟩:=h.iF;have Ac:kD C (X.st (hi+1)).σ:=by
  refine⟨ids,λb u e ho=>?_,λb u hl=>(s2 b u hl).2⟩;have cw:b<ah (X.st (hi+1)).σ:=by
   cases hq:aQ (X.st (hi+1)).σ b with
   |none=>simp[aI,hq]at ho
   |some B=>rw[dX]at hq;exact(List.getElem?_eq_some_iff.1 hq).1
  exact s1 b u e (lB b cw) ho
 refine⟨by omega,λe h1 h2=>?_,λe h1 h2=>h.behind e (by omega) h2,Ac,λ_=>⟨by rw[Nat.add_sub_cancel];exact h.NT,λ_=>?_⟩⟩
 .by_cases cw:e<lo
  .exact h.before e cw h2
  .exact yw e h2 ((h.qD e).2 ⟨by omega,by omega⟩)
 .rw[Nat.add_sub_cancel]
  intro b u B NJ hu;obtain⟨l,hl⟩:=X.AY h.qD (p:=hi) (q:=hi+1) hle (by omega) (Nat.le_refl _) (by omega)
  obtain⟨k1,k2,k3⟩:=yO hu;have cw:b<ah (X.st hi).σ:=by rw[dX]at k1;exact(List.getElem?_eq_some_iff.1 k1).1
  refine Ac.seen b u B NJ ?_;rw[hl];unfold gI;rw[show aQ ((X.st hi).σ++l) b=aQ (X.st hi).σ b by rw[dX,dX,List.getElem?_append_left cw]]
  exact hu
def nG.norm (h:nG X D C f) (hD:¬D i) (hb:∀j,nA X.draw X.bf j i=ad->D j) (he:bH X.ls i=ad) (qE:oM X.ls X.draw X.bf i=ae):∃f,jK X D C f:=by
 rcases h with hN|⟨lo,hi,hG,_⟩
 .exact⟨_,hN⟩
 .have hle:=hG.le
  have ke : hi<i:=by
   have h1:¬(lo<=i/\i<=hi):=λh=>by rw[(hG.qD i).2 h]at qE;simp at qE
   have h2:¬i<lo:=λh=>hD (hG.before i h he);omega
  refine⟨_,hG.done λk hk hg=>?_⟩;have:=(hG.qD k).1 hg;rcases X.oN he hk (by omega)with hq|hq
  .exact hb k hq
  .rw[qE]at hq;simp at hq
def nG.qD (h:nG X D C f) (hD:¬D i) (hb:∀j,nA X.draw X.bf j i=ad->D j) (he:bH X.ls i=ad) (hg:oM X.ls X.draw X.bf i=ad):∃lo hi,qC X D C lo hi:=by
 rcases h with hN|⟨lo,hi,hG,_⟩
 .exact hN.group hD hb he hg
 .exact⟨lo,hi,hG⟩
def PO{C:Ctx}{σ:aq}(h:Seen C (σ++l)):Seen C σ:=λb u B a e=>by
 refine h b u B a ?_;have g:=(yO e).1;have d:b<ah σ:=by rw[dX]at g;exact(List.getElem?_eq_some_iff.1 g).1
 unfold gI at e ⊢
 rwa [show aQ (σ++l) b=aQ σ b by rw[dX,dX,List.getElem?_append_left d]]
def Inv.abU (h:Inv X C0 w0 ds D C f a w) (hi:i<ah X.ls) (hD:¬D i) (hb:∀j,nA X.draw X.bf j i=ad->D j){o:Oper}{l:Ln}(hl:X.ls[i]? = aa l) (hF:uF X i o l)
  (hE:l.op.mU=ae) (hW:l.op.mb=ae) (hP:l.op.lj=ae):Seen C (if l.prev then(X.st i).bg else(X.st i).σ):=by
 have hr:=hF.read;simp only[wA,hE,hW,hP,Bool.or_self,Bool.false_eq_true,if_false,Bool.and_eq_true,List.all_eq_true,List.mem_range]at hr;obtain⟨GC,NX⟩:=hr;generalize hv:nE X.ls i l=v at GC NX;have hvi:v<=i:=by
  by_cases hp:l.prev=ad
  .simp only[hp,if_true,Bool.and_eq_true,decide_eq_true_eq]at GC
   omega
  .have:v=i:=by rw[<-hv];simp[nE,hp]
   omega
 have PQ:(if l.prev then(X.st i).bg else(X.st i).σ)=(X.st v).σ:=by
  by_cases hp:l.prev=ad
  .simp only[hp,if_true,Bool.and_eq_true,decide_eq_true_eq]at GC ⊢
   obtain⟨⟨q1,q2⟩,q3⟩:=GC;have h1:=(X.qB (p:=v+1) (q:=i) (by omega) (Nat.le_of_lt hi) (X.wE q3)).2
   rw[h1];obtain⟨ov,lv,_,yQ,hFv⟩:=X.at_ (show v<ah X.ls by omega)
   have eO:=X.run v lv yQ;simp only[H6,yQ,Bool.and_eq_true,Option.isNone_iff_eq_none]at q2;have hef:=hFv.eff;simp only[uE,q2.1,Bool.true_or,if_true,Bool.and_eq_true,Bool.not_eq_true']at hef;unfold dQ at eO;simp only[q2.2,want]at eO;have hW:lv.op.mb=ae:=by revert q2;cases lv.op<;>simp[dN.mU,dN.mb]
   rw[if_neg (by rw[hW];simp)]at eO
   split at eO
   .simp only[q2.1,if_true,Option.some.injEq]at eO;rw[<-eO]
   .simp only[Option.some.injEq]at eO;rw[<-eO]
   .simp at eO
  .have:v=i:=by rw[<-hv];simp[nE,hp]
   simp[hp,this]
 rw[PQ];have jl:∀j,bH X.ls j=ad->j<ah X.ls:=λj hj=>by
  unfold bH at hj;cases hl:X.ls[j]? with
  |none=>simp[hl]at hj
  |some l=>exact(List.getElem?_eq_some_iff.1 hl).1
 have key:∀j,bH X.ls j=ad->if j<v then(nA X.draw X.bf j i=ad\/(jw X.ls j v=ad/\AR X.ls X.draw X.bf=ad))else nA X.draw X.bf i j=ad\/(H6 X.ls j=ad/\jw X.ls v j=ad):=λj hj=>by
  have:=NX j (jl j hj);simp only[hj,Bool.not_true,Bool.false_or]at this
  by_cases cw:j<v
  .simpa[cw]using this
  .simp only[cw,if_false,Bool.or_eq_true,Bool.and_eq_true]at this ⊢
   exact this.imp (λq=>q) λq=>⟨q.1.2,q.2⟩
 rcases h.fr with hN|⟨lo,hi,hS,k0,y1,y2,y3⟩
 .rcases Nat.lt_or_ge v f with hvf|hvf
  .obtain⟨e1,e2⟩:=hN.last (by omega)
   have hd:=hN.lo (f-1) (by omega) e1
   have:=key (f-1) e1;rw[if_neg (by omega)]at this
   rcases this with k|⟨k1,k2⟩
   .exact absurd (h.closed _ _ hd k) hD
   .obtain⟨l', kB⟩:=X.xN (p:=v) (f-1-v) (by have:=hN.fle;omega) λj j1 j2=>X.nJ k2 j j1 (by omega)
    rw[show v+(f-1-v)=f-1 by omega]at kB
    have:=e2 k1;rw[kB]at this;exact PO this
  .have HL:∀j,f<=j->j<v->bH X.ls j=ad->jJ X.ls j=ad:=λj j1 j2 hj=>by
    have:=key j hj;rw[if_pos j2]at this;rcases this with this|this
    .exact absurd (hb j this) (hN.hi j j1 hj)
    .have:=this.1
     simp only[jw,List.all_eq_true,List.mem_range,Bool.or_eq_true,Bool.not_eq_true', decide_eq_false_iff_not]at this;rcases this j j2 with(q|q)|q
     .exact absurd (Nat.le_refl j) q
     .rw[hj]at q;simp at q
     .exact q
   obtain⟨l', kB⟩:=X.xN (p:=f) (v-f) (by omega) λj j1 j2=>HL j j1 (by omega)
   rw[show f+(v-f)=v by omega]at kB
   intro b u B NJ hu;obtain⟨ids,s1,s2⟩:=hN.iF;have cw:b<ah (X.st f).σ:=by
    obtain⟨B1,q1,_⟩:=s2 b u NJ;rw[dX]at q1;exact(List.getElem?_eq_some_iff.1 q1).1
   refine hN.iF.seen b u B NJ ?_;rw[kB]at hu;unfold gI at hu ⊢
   rwa [show aQ ((X.st f).σ++l') b=aQ (X.st f).σ b by rw[dX,dX,List.getElem?_append_left cw]]at hu
 .-- all Zo before v are done;of arD behind it at arJ the first one
  have hle:=hS.le;have hhl:=X.fK hS.NT;have k1:∀e,bH X.ls e=ad->e<v->D e:=λe he cw=>by
   have:=key e he;rw[if_pos cw]at this;rcases this with this|this
   .exact hb e this
   .have h2:=this.2
    simp only[AR,List.all_eq_true,List.mem_range,Bool.not_eq_true']at h2;have:=h2 k0 (X.fK y1);rw[y2]at this;simp at this
  have k2:∀e,bH X.ls e=ad->D e->v<=e->jw X.ls v e=ad:=λe he hd hle=>by
   have:=key e he;rw[if_neg (by omega)]at this
   rcases this with hq|hq
   .exact absurd (h.closed _ _ hd hq) hD
   .exact hq.2
  by_cases Dk:hi<v
  .have hN:=hS.done λk hk hg=>k1 k hk (by have:=(hS.qD k).1 hg;omega)
   rw[(X.qB (p:=hi+1) (q:=v) (by omega) (by omega) λj j1 j2=>by
    cases hj:bH X.ls j with
    |false=>rfl
    |true=>exact absurd (k1 j hj j2) (hS.behind j (by omega) hj)).1]
   exact hN.iF.seen
  .obtain⟨q,q1,q2,⟨l', q3⟩,q4⟩:∃q,lo<=q/\q<=hi/\(∃l', (X.st q).σ=(X.st v).σ++l')/\∀e,bH X.ls e=ad->e<q->D e:=by
    by_cases yQ:lo<=v
    .exact⟨v,yQ,by omega,⟨[],by simp⟩,k1⟩
    .have uH:=(hS.qD k0).1 y2
     have fg:=X.nJ (k2 k0 y1 y3 (by omega))
     obtain⟨l', kB⟩:=X.xN (p:=v) (lo-v) (by omega) λj j1 j2=>fg j j1 (by omega)
     rw[show v+(lo-v)=lo by omega]at kB
     exact⟨lo,Nat.le_refl _,hle,⟨l', kB⟩,λe he cw=>hS.before e cw he⟩
   refine PO (l:=l') ?_;rw[<-q3];intro b u B _ hu;obtain⟨u1,u2,u3⟩:=yO hu;have cw:b<ah (X.st q).σ:=by rw[dX]at u1;exact(List.getElem?_eq_some_iff.1 u1).1
   have lB:alive X D lo b:=by
    have PN : b<ah (X.st (lo+(q-lo))).σ:=by rwa [show lo+(q-lo)=q by omega]
    rcases X.Zm hS.qD (q-lo) (by omega) (by omega) PN with h2|⟨k,a1,a2,a3,a4,a5⟩
    .exact .inl h2
    .exact .inr ⟨k,a3,(hS.qD k).2 ⟨a1,by omega⟩,q4 k a3 (by omega),a4,a5⟩
   obtain⟨l,hl⟩:=X.AY hS.qD (p:=q) (q:=hi+1) q1 (by omega) (Nat.le_refl _) (by omega)
   obtain⟨ids,s1,s2⟩:=hS.iF;refine⟨ids b,s1 b u _ lB ?_⟩;rw[hl,(Ib cw).1];exact um ids C.I hu
end
end Ab
namespace Ab
open Go
variable{P:Program}
def cmt (σ:aq):Option dd->aq
 |some q=>gX σ q
 |none=>σ
def abV{ls:List Ln}{t m:Nat}(h:fo ls t=aa m):nD ls t=ab:=by
 unfold fo at h;unfold nD;cases b:ls[t]? with
 |none=>rfl
 |some l=>
  simp only[b]at h ⊢;split at h
  .rename_i a;rw[a]
  .simp at h
def PS (σ l:aq) (b:Nat):aQ (σ++l) b=if b<ah σ then aQ σ b else aQ l (b-ah σ):=by
 rw[dX,dX,dX]
 by_cases a:b<ah σ
 .rw[if_pos a,List.getElem?_append_left a]
 .rw[if_neg a,List.getElem?_append_right (by omega)]
open Classical in
noncomputable def xO (σ:aq) (A:Nat->Prop) (ids:Nat->Nat) (I:Nat->Prop):Ctx where
 I:=I
 own:=λb u=>if A b then(aI σ ids I).own b u else ab
 lim:=λb u=>A b/\(aI σ ids I).lim b u
section
variable{rd:Option Nat}{X:RC P}{C0:Ctx}{w0:World}{ds:List Deferred}{D:Nat->Prop}{C:Ctx}{f:Nat}{a:Act}{w:World}{i:Nat}
def Inv.next (h:Inv X C0 w0 ds D C f a w) (hi:i<ah X.ls) (hD:¬D i) (hb:∀j,nA X.draw X.bf j i=ad->D j) (Q:Exit->Act->World->Prop) :
  wpOpIn (fw rd) 0 P X.ops.toArray Q i (λa' w' =>∃C' f', Inv X C0 w0 ds (λj=>D j\/j=i) C' f' a' w') a w:=by
 obtain⟨o,l,ho,hl,hF⟩:=X.at_ hi;have eO:=X.run i l hl;have hR:∀x y,sn X.draw X.bf X.ops X.ls X.sl i x y=ad->VR C w.heap (rv X.vars (X.st i).env y) (a.eval x):=λx y hr=>h.ref hi hD hb hr;unfold wpOpIn;simp only[List.getElem?_toArray,ho];unfold dQ at eO;cases hw:want X.vars (X.st i).env l.g with
 |none=>simp[hw]at eO
 |some b=>
  have hwa:=h.wanted hi hb hF hw;rw[hwa];simp only[hw]at eO;cases b with
  |false=>
   simp only[Bool.false_eq_true,if_false];refine⟨λ_ _=>trivial,?_⟩;simp only[Option.some.injEq]at eO;have lV:valOf X.st i = .bY []:=by rw[valOf,<-eO]
   have Zp:l.g ≠ ab:=λe=>by rw[e]at hw;simp[want]at hw
   have D7:nD X.ls i=ab:=by
    cases ht:nD X.ls i with
    |none=>rfl
    |some t=>
     obtain⟨_,_,l', _,_,_,_,kB, _,_,NU, _⟩:=X.gz ht;rw[hl]at kB; simp at kB; subst kB;exact absurd NU Zp
   have tj:fo X.ls i=ab:=by
    unfold fo;simp only[hl];split
    .rename_i m fu
     have:=hF.kP;simp only[qy,fu,Bool.and_eq_true,Option.isNone_iff_eq_none]at this;exact absurd this.1 Zp
    .rfl
   have PT:VR C w.heap (valOf X.st i) undef:=by rw[lV];unfold VR;exact⟨[],rfl,rfl⟩
   cases he:bH X.ls i with
   |false=>
    exact⟨C,f,h.after hi hD hb ho h.good (Step.refl _ _) D7 PT (λm hm=>by rw[tj]at hm;simp at hm) (h.fr.uG he C.I)⟩
   |true=>
    have qE:oM X.ls X.draw X.bf i=ae:=by
     cases hg:oM X.ls X.draw X.bf i with
     |false=>rfl
     |true=>exact absurd (X.free_spec hl (X.nH he hg)).1 Zp
    obtain⟨f', hN⟩:=h.fr.norm hD hb he qE;obtain⟨q1,q2⟩:=hN.front hD hb he qE;obtain⟨e1,e2⟩:=hN.Ia q1 q2;have hs:(X.st (i+1)).σ=(X.st f').σ:=by rw[<-eO];exact(X.qB q1 (Nat.le_of_lt hi) q2).1
    refine⟨C,i+1,h.after hi hD hb ho h.good (Step.refl _ _) D7 PT (λm hm=>by rw[tj]at hm;simp at hm) (.inl ⟨by omega,e1,e2,by rw[hs];exact hN.iF,λ_=>⟨he,λPU=>?_⟩⟩)⟩
    simp only[Nat.add_sub_cancel,H6,hl,Bool.and_eq_true,Option.isNone_iff_eq_none]at PU;exact absurd PU.2 Zp
  |true=>
   dsimp only at eO;simp only[if_true]
   by_cases Ah:l.op.mb=ad
   .rw[if_pos Ah]at eO
    have he:bH X.ls i=ad:=by simp[bH,hl,Ah]
    have qE:oM X.ls X.draw X.bf i=ae:=by
     cases hg:oM X.ls X.draw X.bf i with
     |false=>rfl
     |true=>rw[(X.free_spec hl (X.nH he hg)).2.2.1]at Ah;simp at Ah
    obtain⟨f', hN⟩:=h.fr.norm hD hb he qE;obtain⟨q1,q2⟩:=hN.front hD hb he qE;have Ic:=(X.qB q1 (Nat.le_of_lt hi) q2).1;obtain⟨ids,g1,g2⟩:=hN.iF.take h.good;rw[<-Ic]at g1 g2;split at eO
    .rename_i v dC jx
     simp only[Option.some.injEq]at eO;have D7:nD X.ls i=ab:=by
      cases ht:nD X.ls i with
      |none=>rfl
      |some t=>
       obtain⟨_,_,l', _,_,_,_,kB, _,fu,_⟩:=X.gz ht;rw[hl]at kB; simp at kB; subst kB;rw[fu]at Ah;simp[dN.mb]at Ah
     have tj:fo X.ls i=ab:=by
      unfold fo;simp only[hl];split
      .rename_i m fu;rw[fu]at Ah;simp[dN.mb]at Ah
      .rfl
     refine opW hF.op Ah X.sg X.Ag g1 (λx y hr=>VR.mono g2.ev _ _ (hR x y hr)) jx _ _ Q λv' w' hp=>?_;obtain⟨cA, I', k1,k2,k3⟩:=hp;obtain⟨e1,e2⟩:=hN.Ia q1 q2;have hs:(X.st (i+1)).σ=dC :=by rw[<-eO]
     have lV:valOf X.st i=v:=by rw[valOf,<-eO]
     refine⟨_,i+1,h.after hi hD hb ho k1 (g2.trans k2) D7 (by rw[lV];exact k3) (λm hm=>by rw[tj]at hm;simp at hm) (.inl ⟨by omega,e1,e2,by rw[hs];exact Px _ _ _,λ_=>⟨he,λPU=>?_⟩⟩)⟩
     simp only[Nat.add_sub_cancel,H6,hl,Bool.and_eq_true]at PU;exfalso
     revert Ah PU;cases l.op<;>simp[dN.mU,dN.mb]
    .simp at eO
   .rw[if_neg Ah]at eO
    have PV:l.op.mb=ae:=by simpa using Ah
    cases jx:ev X.ce (if l.prev then(X.st i).bg else(X.st i).σ) (ah (X.st i).σ) [] (rv X.vars (X.st i).env) l.op with
    |none=>simp[jx]at eO
    |some vp=>
     obtain⟨v,p⟩:=vp;simp only[jx]at eO;have lV:valOf X.st i=v:=by cases p<;>simp only[Option.some.injEq]at eO<;>rw[valOf,<-eO]<;>rfl
     have fT:(X.st (i+1)).σ=cmt (X.st i).σ p:=by cases p<;>simp only[Option.some.injEq]at eO<;>rw[<-eO]<;>rfl
     cases hE:l.op.mU with
     |true=>
      have he:bH X.ls i=ad:=by simp[bH,hl,hE]
      have AZ:l.prev=ae:=by
       have:=hF.eff;simp only[uE,hE,Bool.true_or,if_true,Bool.and_eq_true,Bool.not_eq_true']at this;exact this.1
      rw[AZ]at jx;simp only[Bool.false_eq_true,if_false]at jx;have D7:nD X.ls i=ab:=by
       cases ht:nD X.ls i with
       |none=>rfl
       |some t=>
        obtain⟨_,_,l', _,_,_,_,kB, _,fu,_⟩:=X.gz ht;rw[hl]at kB; simp at kB; subst kB;rw[fu]at hE;simp[dN.mU]at hE
      have tj:fo X.ls i=ab:=by
       unfold fo;simp only[hl];split
       .rename_i m fu;rw[fu]at hE;simp[dN.mU]at hE
       .rfl
      have GD:l.op.o8=ae:=by revert hE;cases l.op<;>simp[dN.mU,dN.o8]
      cases qE:oM X.ls X.draw X.bf i with
      |false=>
       obtain⟨f', hN⟩:=h.fr.norm hD hb he qE;obtain⟨q1,q2⟩:=hN.front hD hb he qE;obtain⟨ids,g1,g2⟩:=hN.iF.take h.good;have Ic:=(X.qB q1 (Nat.le_of_lt hi) q2).1;rw[<-Ic]at g1 g2;refine opE hF.op PV GD X.sg X.Ag g1 (λb u B _ hu=>⟨_,um ids C.I hu⟩) (λ_ _=>yG) (λl' _ b u yT _ jh=>?_) (λb u B cs hu _ _=>⟨λn hn jh=>?_,λu' B' id' dF=>?_⟩) (λx y hr=>VR.mono g2.ev _ _ (hR x y hr)) rfl jx _ _ Q λv' w' hp=>?_
       .obtain⟨B,hB,_⟩:=jh
        rw[dX,List.getElem?_eq_none (by omega)]at hB;simp at hB
       .obtain⟨B', hB,hle⟩:=jh
        obtain⟨k1,k2,_⟩:=uk hu;rw[k1]at hB;simp at hB;subst hB;omega
       .obtain⟨k1,k2,_⟩:=uk hu
        rw[<-k2];exact pC (u:=0) k1 u' B' id' dF
       .obtain⟨C', k1,k2,k3,k4⟩:=hp
        obtain⟨s1,s2⟩:=Ext.iF k1 k4;obtain⟨e1,e2⟩:=hN.Ia q1 q2;exact⟨C', i+1,h.after hi hD hb ho k1 (g2.trans k2) D7 (by rw[lV];exact k3) (λm hm=>by rw[tj]at hm;simp at hm) (.inl ⟨by omega,e1,e2,by rw[fT];cases p<;>exact s1,λ_=>⟨he,λ_=>s2⟩⟩)⟩
      |true=>
       obtain⟨lo,hh,hG⟩:=h.fr.qD hD hb he qE;obtain⟨fr1,fr2,fr3,fr4,fr5,fr6⟩:=X.free_spec hl (X.nH he qE);have jl:=(hG.qD i).1 qE;have hhl:=X.fK hG.NT;have hle:=hG.le;obtain⟨ids,m1,m2⟩:=hG.iF;obtain⟨bs,hbs,Ie⟩:∃bs,(X.st (i+1)).σ=(X.st i).σ++bs/\(((∀f as,l.op ≠ .can f as)/\∃B,p=aa (.new B)/\bs=[B])\/p=aa (.news bs)):=by
        rcases fr6 _ _ _ _ _ _ _ jx with⟨hc,B,rfl⟩|⟨bs,rfl⟩
        .exact⟨[B],by rw[fT];rfl,.inl ⟨hc,B,rfl,rfl⟩⟩
        .exact⟨bs,by rw[fT];rfl,.inr rfl⟩
       have hlen:ah (X.st (i+1)).σ=ah (X.st i).σ+ah bs:=by rw[hbs];simp
       have PW:∀b,ah (X.st i).σ<=b->b<ah (X.st (i+1)).σ->¬alive X D lo b:=by
        rintro b b1 b2 (h1|⟨k,k1,k2,k3,k4,k5⟩)
        .have:=X.nI hG.qD (p:=lo) (q:=i) (Nat.le_refl _) jl.1 (by omega) (by omega);omega
        .have hk:=(hG.qD k).1 k2
         rcases Nat.lt_trichotomy k i with cw|rfl|hgt
         .have:=X.nI hG.qD (p:=k+1) (q:=i) (by omega) (by omega) (by omega) (by omega);omega
         .exact hD k3
         .have:=X.nI hG.qD (p:=i+1) (q:=k) (by omega) (by omega) (by omega) (by omega);omega
       have hg2:=Good.shrink (C2:=xO (X.st (hh+1)).σ (alive X D lo) ids C.I) h.good rfl (λb u e lg =>by
        unfold xO at lg;dsimp only at lg;split at lg
        .rename_i ha;exact m1 b u e ha lg
        .simp at lg) m2
       have yU : ∀b,alive X (λj=>D j\/j=i) lo b↔alive X D lo b\/(ah (X.st i).σ<=b/\b<ah (X.st (i+1)).σ):=λb=>by
        constructor
        .rintro(h1|⟨k,k1,k2,k3,k4⟩)
         .exact .inl (.inl h1)
         .rcases k3 with k3|rfl
          .exact .inl (.inr ⟨k,k1,k2,k3,k4⟩)
          .exact .inr k4
        .rintro((h1|⟨k,k1,k2,k3,k4⟩)|h1)
         .exact .inl h1
         .exact .inr ⟨k,k1,k2,.inl k3,k4⟩
         .exact .inr ⟨i,he,qE,.inr rfl,h1⟩
       obtain⟨l2,rJ⟩:=X.AY hG.qD (p:=i+1) (q:=hh+1) (by omega) (by omega) (Nat.le_refl _) (by omega)
       have hblk:∀b,ah (X.st i).σ<=b->b<ah (X.st (i+1)).σ->aQ (X.st (hh+1)).σ b=aQ bs (b-ah (X.st i).σ):=λb b1 b2=>by
        rw[rJ,PS,if_pos b2,hbs,PS,if_neg (by omega)]
       refine opE (σ:=[]) hF.op PV GD X.sg X.Ag hg2.1 (λb u B _ hu=>by simp[gI,aQ]at hu) (λ_ hc u jh=>?_) (λl' hq b u yT yV jh=>?_) (λb u B cs hu _ _=>by simp[upto,aQ]at hu) (λx y hr=>VR.mono hg2.2.ev _ _ (hR x y hr)) rfl (by rw[fr5 X.ce [] (X.st i).σ];exact jx) _ _ Q λv' w' hp=>?_
       .rcases Ie with⟨_,B,_,rfl⟩|hq
        .exact PW _ (Nat.le_refl _) (by rw[hlen];simp) jh.1
        .exfalso
         rcases fr6 _ _ _ _ _ _ _ jx with⟨_,B,hB⟩|⟨bs', hB⟩
         .rw[hq]at hB;simp at hB
         .have hf:=X.nH he qE
          simp only[jJ,hl,Bool.and_eq_true]at hf;have Zj:=hf.2;split at Zj
          .rename_i fu;rw[fu]at jx;simp only[ev]at jx
           split at jx<;>try(simp at jx;done)
           split at jx<;>simp at jx;rw[<-jx.2]at hq;simp at hq
          .rename_i f as fu;exact hc f as fu
          .rename_i fu;rw[fu]at jx;simp only[ev]at jx
           split at jx<;>simp at jx;rw[<-jx.2]at hq;simp at hq
          .rename_i fu;rw[fu]at jx;simp[ev]at jx
           rw[<-jx.2]at hq;simp at hq
          .rename_i fu;rw[fu]at jx;simp only[ev]at jx
           split at jx<;>simp at jx;rw[<-jx.2]at hq;simp at hq
          .simp at Zj
       .rcases Ie with⟨_,B,hq', _⟩|hq'
        .rw[hq']at hq;simp at hq
        .rw[hq']at hq;simp at hq;subst hq
         exact PW b yT (by omega) jh.1
       .obtain⟨C', k1,k2,k3,k4⟩:=hp
        have Ac:∃cA, (∀b u e,alive X (λj=>D j\/j=i) lo b->(aI (X.st (hh+1)).σ cA C'.I).own b u=aa e->C'.own b u=aa e)/\∀b u,C'.lim b u->alive X (λj=>D j\/j=i) lo b/\(aI (X.st (hh+1)).σ cA C'.I).lim b u:=by
         rcases Ie with⟨_,B,rfl,rfl⟩|rfl
         .obtain⟨id,k5,k6⟩:=k4
          have rp:B.st ≠ .dead:=(k1.mT (ah (X.st i).σ) (ah B.cells) B id (by rw[k5];simp[aU])).2.2.2
          have yT:=hblk (ah (X.st i).σ) (Nat.le_refl _) (by rw[hlen];simp)
          rw[Nat.sub_self]at yT;refine⟨λq=>if q=ah (X.st i).σ then id else ids q,λb u e ha lg =>?_,λb u jh=>?_⟩
          .rw[k5]
           by_cases e0:b=ah (X.st i).σ
           .subst e0
            simp only[aI,yT,aQ,if_true]at lg;have hu:ah B.cells=u/\(B,id)=e:=by
             cases hs:B.st<;>simp only[hs]at lg rp
             .split at lg <;>simp at lg; rename_i h;exact⟨h,lg⟩
             .split at lg <;>simp at lg; rename_i h;exact⟨h,lg⟩
             .exact absurd rfl rp
             .split at lg <;>simp at lg; rename_i h;exact⟨h,lg⟩
            obtain⟨rfl,rfl⟩:=hu;simp[aU]
           .have DX : alive X D lo b:=by
             rcases(yU b).1 ha with h|h
             .exact h
             .rw[hlen]at h;simp at h;omega
            simp only[aU];rw[if_neg (by omega)]
            simp only[xO,DX, if_true];simp only[aI,e0,if_false]at lg;exact lg
          .rw[k6]at jh
           rcases jh with⟨rfl,rfl⟩|⟨h1,h2⟩
           .exact⟨(yU _).2 (.inr ⟨Nat.le_refl _,by rw[hlen];simp⟩),B,yT,Nat.le_refl _⟩
           .exact⟨(yU _).2 (.inl h1),h2⟩
         .obtain⟨wz,k5,k6⟩:=k4
          refine⟨λq=>if(ah (X.st i).σ)<=q/\q<ah (X.st (i+1)).σ then wz (q-ah (X.st i).σ)else ids q,λb u e ha lg =>?_,λb u jh=>?_⟩
          .rw[k5]
           dsimp only
           by_cases e0:ah (X.st i).σ<=b/\b<ah (X.st (i+1)).σ
           .rw[if_pos (by omega)]
            simp only[aI,hblk b e0.1 e0.2,e0,and_self,if_true]at lg;exact lg
           .have DX : alive X D lo b:=by
             rcases(yU b).1 ha with h|h
             .exact h
             .exact absurd h e0
            rw[if_neg (by omega)]
            simp only[xO,DX, if_true];simp only[aI,e0,if_false]at lg;exact lg
          .rw[k6]at jh
           rcases jh with⟨h1,B', h2,h3⟩|⟨h1,h2⟩
           .have cw:b-ah (X.st i).σ<ah bs:=by rw[dX]at h2;exact(List.getElem?_eq_some_iff.1 h2).1
            exact⟨(yU _).2 (.inr ⟨h1,by omega⟩),B', by rw[hblk b h1 (by omega)];exact h2,h3⟩
           .exact⟨(yU _).2 (.inl h1),h2⟩
        refine⟨C', f,h.after hi hD hb ho k1 (hg2.2.trans k2) D7 (by rw[lV];exact k3) (λm hm=>by rw[tj]at hm;simp at hm) (.inr ⟨lo,hh,⟨hG.qD,hG.NT,hG.le,λe h1 h2=>.inl (hG.before e h1 h2),λe h1 h2 h3=>?_,Ac⟩,i,he,qE,.inr rfl⟩)⟩
        rcases h3 with h3|rfl
        .exact hG.behind e h1 h2 h3
        .omega
     |false=>
      have he:bH X.ls i=ae:=by simp[bH,hl,hE,PV]
      have hpn:=PA hE jx;subst hpn;cases hP:l.op.lj with
      |false=>
       have D7:nD X.ls i=ab:=by
        cases ht:nD X.ls i with
        |none=>rfl
        |some t=>
         obtain⟨_,_,l', _,_,_,_,kB, _,fu,_⟩:=X.gz ht;rw[hl]at kB; simp at kB; subst kB;rw[fu]at hP;simp[dN.lj]at hP
       have tj:fo X.ls i=ab:=by
        unfold fo;simp only[hl];split
        .rename_i m fu;rw[fu]at hP;simp[dN.lj]at hP
        .rfl
       refine opR hF.op hP hE PV X.sg h.good (h.abU hi hD hb hl hF hE PV hP) hR jx _ _ Q λv' w' hp=>?_;obtain⟨I', k1,k2,k3⟩:=hp;exact⟨_,f,h.after hi hD hb ho k1 k2 D7 (by rw[lV];exact k3) (λm hm=>by rw[tj]at hm;simp at hm) (h.fr.uG he I')⟩
      |true=>
       cases ht:nD X.ls i with
       |some t=>
        obtain⟨_,o', l', d,x,m,lg, kB, _,fu,NU, H8,hd,Di,lB,PG,PH⟩:=X.gz ht;rw[hl]at kB; simp at kB; subst kB;rw[ho]at lg; simp at lg; subst lg;have hnt:∀i', D i' ->nD X.ls i' ≠ aa t:=λi' ke e=>hD (X.xM ht e▸ke);obtain⟨s,id,c,el,k1,k2,k3,k4,k5,k6,k7⟩:=h.lb t m (hb _ PG) lB hnt;rw[fu]at jx;simp only[ev]at jx;split at jx
        case isFalse=>simp at jx
        rename_i hc;simp only[Bool.and_eq_true,beq_iff_eq]at hc;simp at jx;have yP :=hF.op;rw[fu]at yP;obtain⟨y,q1,q2⟩:=opI yP (w:=w) (a:=a) (C:=C) (r:=rv X.vars (X.st i).env) (id:=id) (c:=c) (el:=el) (λq hq=>by
         unfold sn at hq;split at hq
         .rename_i s' d' heq
          simp only[Rf.t.injEq]at heq;subst heq;simp only[Bool.and_eq_true,beq_iff_eq]at hq;have j8 :=hq.1.2;rw[<-Di]at j8;simp only[kn,abV lB,k1,Option.some.injEq]at j8;subst j8;exact k2
         all_goals (rename_i heq;first|(simp at heq;done)|(simp at hq;done)|skip)) k6 k7 (λq hq=>hR q x hq) hc.1 hc.2
        refine q2 _ _ Q λv' w' hp=>?_;obtain⟨c', rfl,z1,z2⟩:=hp;rw[H8];exact⟨_,f,h.fill hi hD hb hl fu ht (by rw[lV,<-jx]) hc.1 q1 k1 k2 k3 k4 k5 k6 z1 z2⟩
       |none=>
        cases lB:fo X.ls i with
        |some m=>
         have fu:l.op = .iA m:=by
          unfold fo at lB;simp only[hl]at lB;split at lB
          .rename_i m' fu;simp at lB;rw[fu,lB]
          .simp at lB
         have yP :=hF.op;rw[fu]at yP jx;simp[ev]at jx;have PF:=hF.kP;simp only[qy,fu,Bool.and_eq_true]at PF;obtain⟨s,hs⟩:=Option.isSome_iff_exists.1 PF.2;refine opA (w:=w) (a:=a) (C:=C) yP h.good _ _ Q λv' w' hp=>?_;obtain⟨p1,p2,id,c,el,p3⟩:=hp;exact⟨C,f,h.after hi hD hb ho p1 p2 ht (by rw[lV,<-jx];unfold VR;trivial) (λm' rE =>by
          rw[lB]at rE; simp at rE; subst rE;exact⟨⟨s,hs⟩,id,c,el,p3⟩) (h.fr.uG he C.I)⟩
        |none=>
         have GD:l.op.o8=ae:=by
          cases fu:l.op with
          |iA m=>simp[fo,hl,fu]at lB
          |kP p x n=>
           have:=hF.kP;cases p with
           |t d=>simp[nD,hl,fu]at ht
           |v k=>simp[qy,fu]at this
           |c x=>simp[qy,fu]at this
          |_=>rfl
         obtain⟨q1,_⟩:=opP (w:=w) (a:=a) (C:=C) hF.op hP GD X.sg X.Ag h.good hR rfl jx;refine q1 _ _ Q λv' w' hp=>?_;obtain⟨I', k1,k2,k3⟩:=hp;exact⟨_,f,h.after hi hD hb ho k1 k2 ht (by rw[lV];exact k3) (λm hm=>by rw[lB]at hm;simp at hm) (h.fr.uG he I')⟩
end
end Ab
namespace Ab
open Go
variable{P:Program}
structure Rel (sl:List Nat) (nt:Nat) (ds:List Deferred) (s:St) (C:Ctx) (a:Act) (w:World):Prop where
 good:Good C w
 size:a.tmps.size=nt
 defers:a.defers=ds
 vars:∀k t,sl[k]? = aa t->VR C w.heap (nth s.vars k) (a.tmps.getD t undef)
 fl:∀t v,s.fl=aa (t,v)->VR C w.heap v (a.tmps.getD t undef)
def xP (ops:List Oper) (ls:List Ln) (sl:List Nat) (r:gW):Bool:=
 (r.outs.all λ(k,d)=>decide (d<ah ls)&&match sl[k]? with|some t=>kn ops ls (ah ls-1-d)==aa t|none=>ad) &&
 ((af (ah sl)).all λk=>r.eI.any (·== k)||r.outs.any (·.1==k)||(af (ah ls)).all λj=>match sl[k]?,dE ops j with|some t,aa a =>t != a | _,_=>ad) &&
 (match r.fl with|some (t,d)=>decide (d<ah ls)&&kn ops ls (ah ls-1-d)==aa t|none=>ad)
def xQ (P:Program) (draw:Bool) (ops:List Oper) (sl:List Nat) (nt:Nat) (r:gW):Bool:=
 ah ops==ah r.ls&&((af (ah r.ls)).all (wC P draw (PB ops) ops r.ls sl nt))&&xP ops r.ls sl r&&(!draw||ops.all λo=>match o.op with | .select ..=>ae|_=>ad)
def Ig{l:ao}{k n:Nat}{x:AV}:nth (eY l k x) n=if n=k/\k<ah l then x else nth l n:=by
 rw[uI,abW,uI,List.getElem?_set]
 by_cases e:k=n
 .subst e
  by_cases h:k<ah l
  .simp[h]
  .simp[h,List.getElem?_eq_none (Nat.le_of_not_lt h)]
 .rw[if_neg e,if_neg (λh=>e h.1.symm)]
def PX{Q:AV->Prop}(b:Q .aW){k:Nat}:∀(a:List Nat) (vs:ao),(k∉a->Q (nth vs k))->Q (nth (eI a vs) k)
 | [],vs,h=>h (by simp)
 |d :: a,vs,h=>by
  unfold eI;refine PX b a _ λg=>?_;rw[Ig]
  by_cases e:k=d /\d < ah vs
  .rw[if_pos e];exact b
  .rw[if_neg e]
   by_cases i : k=d
   .have:ah vs<=k:=by omega
    rw[uI,List.getElem?_eq_none this];exact b
   .exact h (by simp[i, g])
def PY{Q:AV->Prop}(b:Q .aW){env:ao}{k:Nat}:∀(os:List (Nat×Nat)) (vs:ao),(∀d,(k,d)∈os->Q (nth env d))->((∀d,(k,d)∉os)->Q (nth vs k))->Q (nth (outs env os vs) k)
 | [],vs,_,h=>h (by simp)
 |(a, i)::os,vs,g,j=>by
  unfold outs;refine PY b os _ (λd hd=>g d (by simp[hd])) λl=>?_
  rw[Ig]
  by_cases e:k=a /\a < ah vs
  .rw[if_pos e];exact g i (by simp[e.1])
  .rw[if_neg e]
   by_cases m : k=a
   .have:ah vs<=k:=by omega
    rw[uI,List.getElem?_eq_none this];exact b
   .exact j λd hd=>by
     rcases List.mem_cons.1 hd with h|h
     .simp at h;exact m h.1
     .exact l d h
section
variable{X:RC P}{C0:Ctx}{w0:World}{ds:List Deferred}
def Inv.full{D:Nat->Prop}{C:Ctx}{f:Nat}{a:Act}{w:World}(h:Inv X C0 w0 ds D C f a w) (hD:∀j,j<ah X.ls->D j){r:gW}(hr:r.ls=X.ls) (D8:xP X.ops X.ls X.sl r=ad){vs:ao}
  (hvs:vs=X.vars) (fl:Option (Nat×AV)) (NY:fl=match r.fl with|some (t,d)=>aa (t,nth (X.st (ah X.ls)).env d)|none=>ab) :
  ∃ids I,Rel X.sl X.nt ds {vars:=eI r.eI (outs (X.st (ah X.ls)).env r.outs vs),fl,σ:=(X.st (ah X.ls)).σ} (aI (X.st (ah X.ls)).σ ids I) a w/\Step C0 w0 (aI (X.st (ah X.ls)).σ ids I) w:=by
 subst hvs;obtain⟨f,hN⟩:∃f,jK X D C f:=by
  rcases h.fr with hN|⟨lo,hi,hG,_⟩
  .exact⟨_,hN⟩
  .exact⟨_,hG.done λk hk _=>hD k (X.fK hk)⟩
 have PQ:(X.st (ah X.ls)).σ=(X.st f).σ:=(X.qB (p:=f) hN.fle (Nat.le_refl _) λj h1 h2=>by
  cases hj:bH X.ls j with
  |false=>rfl
  |true=>exact absurd (hD j h2) (hN.hi j h1 hj)).1
 obtain⟨ids,g1,g2⟩:=hN.iF.take h.good;rw[PQ];refine⟨ids,C.I,⟨g1,h.size,h.defers,λk t hk=>?_,λt v hv=>?_⟩,h.step.trans g2⟩
 .simp only[xP,Bool.and_eq_true,List.all_eq_true,decide_eq_true_eq]at D8
  obtain⟨⟨e1,e2⟩,_⟩:=D8;refine PX (Q:=λx=>VR (aI (X.st f).σ ids C.I) w.heap x (a.tmps.getD t undef)) (by unfold VR;trivial) _ _ λhnk=>?_
  refine PY (Q:=λx=>VR (aI (X.st f).σ ids C.I) w.heap x (a.tmps.getD t undef)) (by unfold VR;trivial) _ _ (λd hd=>?_) λHM=>?_
  .have:=e1 _ hd
   simp only[hk,beq_iff_eq]at this;rw[X.xL (Nat.le_refl _) this.1];exact VR.mono g2.ev _ _ (h.tv _ t (hD _ (by omega)) this.2)
  .have GF:k<ah X.sl:=(List.getElem?_eq_some_iff.1 hk).1
   have:=e2 k (List.mem_range.2 GF);simp only[Bool.or_eq_true,List.any_eq_true,beq_iff_eq,List.all_eq_true,List.mem_range]at this;rcases this with(⟨x,hx,rfl⟩|⟨x,hx,rfl⟩)|hd
   .exact absurd hx hnk
   .exact absurd hx (HM x.2)
   .refine VR.mono g2.ev _ _ (h.vv k t hk λj hj hdj=>?_)
    have:=hd j (h.below j hj);simp[hk,hdj]at this
 .simp only[xP,Bool.and_eq_true,List.all_eq_true,decide_eq_true_eq]at D8
  obtain⟨_,e3⟩:=D8;subst NY;simp only at hv;cases PZ:r.fl with
  |none=>simp[PZ]at hv
  |some td=>
   obtain⟨t', d⟩:=td;simp only[PZ,Option.some.injEq,Prod.mk.injEq]at hv;obtain⟨rfl,rfl⟩:=hv;simp only[PZ,Bool.and_eq_true,decide_eq_true_eq,beq_iff_eq]at e3;rw[X.xL (Nat.le_refl _) e3.1];exact VR.mono g2.ev _ _ (h.tv _ t' (hD _ (by omega)) e3.2)
def abX{i:Nat}{D:Nat->Prop}(a:X.draw=ad){o:Oper}{l:Ln}(s:X.ops[i]? = aa o) (q:uF X i o l) (d:∀i j,D j->nA X.draw X.bf i j=ad->D i)
  (hd:∀e∈o.after.toList,Region.binds .any e=ad->D e.on):∀j,nA X.draw X.bf j i=ad->D j:=λj r=>by
 have m:=q.bf;simp only[D5,a,if_true,Bool.and_eq_true,beq_iff_eq]at m;have b :=r;simp only[nA,a,if_true,m.1,Option.getD_some]at b;rcases PD X.bf j o.after.toList 0 b with h|⟨e,n,p,g⟩
 .simp at h
 .rcases g with rfl|g
  .exact hd e n p
  .exact d j e.on (hd e n p) (by simp only[nA,a,if_true];exact g)
def Inv.mk0{ids:Nat->Nat}{I:Nat->Prop}{s:St}{a:Act}{w:World}(hv:X.vars=s.vars) (PQ:X.NS=s.σ) (h:Rel X.sl X.nt ds s (aI s.σ ids I) a w):Inv X (aI s.σ ids I) w ds (λ_=>False) (aI s.σ ids I) 0 a w:=by
 refine⟨h.good,Step.refl _ _,h.size,h.defers,λ_ h=>h.elim,λ_ _ h=>h.elim,λ_ _ h=>h.elim,λk t hk _=>by rw[hv];exact h.vars k t hk,λ_ _ h=>h.elim,λ_ _ _ _ _ _ _ h=>h.elim,.inl ⟨Nat.zero_le _,λ_ h=>absurd h (Nat.not_lt_zero _),λ_ _ _ h=>h,?_,λh=>absurd h (Nat.lt_irrefl _)⟩⟩
 rw[X.st0,PQ];exact Px _ _ _
def P0{rd:Option Nat}{Q:Exit->Act->World->Prop}(d:X.draw=ae) (m:∀D C f a w,Inv X C0 w0 ds D C f a w->(∀j,j<ah X.ls->D j)->Q .normal a w) :
  ∀(k:Nat) (D:Nat->Prop) (C:Ctx) (f:Nat) (a:Act) (w:World),k<=ah X.ls->(∀j,D j↔j<ah X.ls-k)->Inv X C0 w0 ds D C f a w->wpOpsIn (fw rd) 0 P X.ops.toArray Q (List.range' (ah X.ls-k) k) a w
 |0,D,C,f,a,w,_,b,h=>by
  simp only[List.range'_zero,wpOpsIn];exact m D C f a w h λj g=>(b j).2 (by omega)
 |k+1,D,C,f,a,w,x,b,h=>by
  rw[List.range'_succ,wpOpsIn_cons];have e:ah X.ls-(k+1)+1=ah X.ls-k:=by omega
  rw[e];have l:∀j,nA X.draw X.bf j (ah X.ls-(k+1))=ad->D j:=λj g=>(b j).2 (by
   simp only[nA,d,Bool.false_eq_true,if_false,decide_eq_true_eq]at g;exact g)
  refine wpOpIn_mono (λn o ⟨p, r, s⟩=>P0 d m k _ p r n o (by omega) (λj=>?_) s) (h.next (i:=ah X.ls-(k+1)) (by omega) (λhd=>by have:=(b _).1 hd;omega) l Q)
  .constructor
   .rintro(q|rfl)
    .have:=(b j).1 q;omega
    .omega
   .intro q
    by_cases u : j=ah X.ls-(k+1)
    .exact .inr u
    .exact .inl ((b j).2 (by omega))
def abY{rd:Option Nat}{Q:Exit->Act->World->Prop}(F:X.draw=ad) (V:∀D C f a w,Inv X C0 w0 ds D C f a w->(∀j,j<ah X.ls->D j)->Q .normal a w) :
  ∀(k:Nat) (d:Array Bool) (C:Ctx) (f:Nat) (a:Act) (w:World),d.size=ah X.ls->ah (d.toList.filter (·== ae))<=k->Inv X C0 w0 ds (λj=>d[j]? = aa ad) C f a w->
   wpAnyIn (fw rd) 0 P .any X.ops.toArray Q k d a w:=by
 have G:∀(d:Array Bool),d.size=ah X.ls->Region.ready .any X.ops.toArray d=[]->∀j,j<ah X.ls->d[j]? = aa ad:=by
  intro d u H j
  induction j using Nat.strongRecOn with
  |ind j I=>
   intro R;obtain⟨o,l,A,Y,S⟩:=X.at_ R;have W:=S.bf;simp only[D5,F,if_true,Bool.and_eq_true,List.all_eq_true,Bool.or_eq_true,Bool.not_eq_true', decide_eq_true_eq]at W;have p:j∉Region.ready .any X.ops.toArray d:=by rw[H];simp
   simp only[Region.ready,List.mem_filter,List.mem_range,List.size_toArray,X.len,Array.getD_eq_getD_getElem?,List.getElem?_toArray,A,Option.map_some,Option.getD_some,Bool.and_eq_true,Bool.not_eq_true', not_and]at p;cases g:d[j]? with
   |none=>rw[Array.getElem?_eq_none_iff]at g;omega
   |some b=>
    cases b with
    |true=>rfl
    |false=>
     exfalso;refine absurd ?_ (p R (by rw[g];rfl))
     rw[<-Array.all_toList];simp only[List.all_eq_true,Bool.or_eq_true,Bool.not_eq_true'];intro e T;cases y:Region.binds .any e with
     |false=>exact .inl rfl
     |true=>
      right;have U:e.on<j:=(W.2 e T).resolve_left (by rw[y];simp)
      rw[I e.on U (by omega)];rfl
 have J:∀(d:Array Bool) i,d.size=ah X.ls->i∈Region.ready .any X.ops.toArray d->i<ah X.ls/\d[i]? = aa ae/\∀o,X.ops[i]? = aa o->∀e∈o.after.toList,Region.binds .any e=ad->d[e.on]? = aa ad:=by
  intro d i u O;simp only[Region.ready,List.mem_filter,List.mem_range,List.size_toArray,X.len,Array.getD_eq_getD_getElem?,List.getElem?_toArray,Bool.and_eq_true,Bool.not_eq_true']at O;obtain⟨B,m,z⟩:=O;refine⟨B,?_,λo A e T y=>?_⟩
  .cases K:d[i]? with
   |none=>rw[Array.getElem?_eq_none_iff]at K;omega
   |some b=>rw[K]at m;simp at m;rw[m]
  .rw[A]at z
   simp only[Option.map_some,Option.getD_some]at z;rw[<-Array.all_toList]at z;simp only[List.all_eq_true,Bool.or_eq_true,Bool.not_eq_true']at z;rcases z e T with h|h
   .rw[y]at h;simp at h
   .cases hle:d[e.on]? with
    |none=>rw[hle]at h;simp at h
    |some b=>rw[hle]at h;simp at h;rw[h]
 intro k
 induction k with
 |zero=>
  intro d C f a w u Z h;have s:∀j,j<ah X.ls->d[j]? = aa ad:=λj R=>by
   cases g:d[j]? with
   |none=>rw[Array.getElem?_eq_none_iff]at g;omega
   |some b=>
    cases b with
    |true=>rfl
    |false=>
     have:ae∈d.toList.filter (·== ae):=by
      rw[List.mem_filter];exact⟨by rw[Array.mem_toList_iff];exact Array.mem_of_getElem? g,rfl⟩
     have:=List.length_pos_of_mem this;omega
  refine⟨?_,V _ C f a w h s⟩;cases H:Region.ready .any X.ops.toArray d with
  |nil=>rfl
  |cons i r=>
   obtain⟨B,m,_⟩:=J d i u (by rw[H];simp)
   rw[s i B]at m;simp at m
 |succ k I=>
  intro d C f a w u Z h;refine⟨λH=>V _ C f a w h (G d u H),λi O=>?_⟩;obtain⟨B,m,z⟩:=J d i u O;obtain⟨o,l,A,Y,S⟩:=X.at_ B;have L:i<d.size:=by omega
  refine wpOpIn_mono (λa' w' ⟨C', f', h'⟩=>I _ C' f' a' w' (by simp[u]) ?_ ?_) (h.next B (by rw[m];simp) (abX F A S h.closed (z o A)) Q)
  .have M:(d.setIfInBounds i ad).toList=d.toList.set i ad:=by simp
   rw[M];have N:∀(l:List Bool) (n:Nat),l[n]? = aa ae->ah ((l.set n ad).filter (·== ae))+1=ah (l.filter (·== ae)):=by
    intro l
    induction l with
    |nil=>intro n E;simp at E
    |cons x r I=>
     intro n E;cases n with
     |zero=>simp at E;subst E;simp
     |succ n=>
      simp at E;have:=I n E;cases x<;>simp_all
   have:=N d.toList i (by rw[Array.getElem?_toList];exact m)
   omega
  .have:(λj=>d[j]? = aa ad\/j=i)=λj=>(d.setIfInBounds i ad)[j]? = aa ad:=by
    funext j
    rw[Array.getElem?_setIfInBounds]
    by_cases e:i=j
    .subst e;simp[L]
    .have e' : j ≠ i:=λq=>e q.symm
     simp[e,e']
   rw[<-this];exact h'
end
variable{draw:Bool}{ops:List Oper}{sl:List Nat}{nt id:Nat}{s s': St}{ids:Nat->Nat}{I:Nat->Prop}
def abZ{rd:Option Nat}{r:gW}{ce:CE}{ds:List Deferred}{a:Act}{w:World}{Q:Exit->Act->World->Prop}(B:P.follows .mixedOrders=ad)
  (d:xQ P draw ops sl nt r=ad) (l:cR P ce) (m:eT P ce) (g:dJ ce r s=aa s') (h:Rel sl nt ds s (aI s.σ ids I) a w)
  (x:∀b I' i w', Rel sl nt ds s' (aI s'.σ b I') i w' ->Step (aI s.σ ids I) w (aI s'.σ b I') w' ->Q .normal i w'):(Code.region id ops.toArray draw).wpIn (fw rd) 0 P Q a w:=by
 simp only[xQ,Bool.and_eq_true,beq_iff_eq,List.all_eq_true,List.mem_range]at d;obtain⟨⟨⟨n,E⟩,F⟩,_⟩:=d;unfold dJ at g;cases o:lines ce s.vars r.ls ⟨[],s.σ,s.σ⟩with
 |none=>simp[o]at g
 |some q=>
  simp only[o,Option.some.injEq]at g;obtain⟨st,e0,G,p⟩:=Py o
  let X:RC P:=⟨draw,PB ops,ops,r.ls,sl,nt,ce,s.vars,s.σ,st,n,E,e0,p,l,m⟩
  have fin:∀(u:World) (y:Step (aI s.σ ids I) w (aI s.σ ids I) u) D C f a w', Inv X (aI s.σ ids I) u ds D C f a w' ->(∀j,j<ah X.ls->D j)->Q .normal a w' :=by
   intro u y D C f i w' H J;obtain⟨b, I', z,A⟩:=H.full J (r:=r) rfl F (vs:=s.vars) rfl _ rfl;have e:(X.st (ah X.ls))=q:=G;rw[e]at z A;rw[<-g]at x;exact x b I' i w' z (y.trans A)
  cases draw with
  |false=>
   refine wpIn_region ?_;have:=P0 (rd:=rd) (X:=X) (Q:=Q) rfl (fin w (Step.refl _ _)) (ah X.ls) (λ_=>False) _ 0 a w (Nat.le_refl _) (λj=>by simp) (Inv.mk0 rfl rfl h)
   rw[Nat.sub_self]at this;rw[List.size_toArray,n,List.range_eq_range'];exact this
  |true=>
   refine wpIn_region_any B ?_;have hd:Step (aI s.σ ids I) w (aI s.σ ids I) {w with drawn:=w.drawn+1}:=⟨gM.refl _ _,Nat.le_refl _,λ_ _ _=>rfl,λ_ h=>.inl h,λ_ h=>.inl h,rfl,⟨rfl,Nat.le_succ _⟩,rfl⟩
   have K : Rel sl nt ds s (aI s.σ ids I) a {w with drawn:=w.drawn+1}:=⟨⟨h.good.I,h.good.mT,h.good.live,h.good.apart,h.good.maps⟩,h.size,h.defers,h.vars,h.fl⟩
   rw[List.size_toArray,n];refine abY (X:=X) rfl (fin _ hd) (ah r.ls) (Array.replicate (ah r.ls) ae) (aI s.σ ids I) 0 a _ (by simp[X]) (Nat.le_trans (List.length_filter_le _ _) (by simp)) ?_
   have e:(λ_:Nat=>False)=λj:Nat=>(Array.replicate (ah r.ls) ae)[j]? = aa ad:=by
    funext j
    simp[Array.getElem?_replicate]
   rw[<-e];exact Inv.mk0 rfl rfl K
def ab0{r:gW}{ce:CE}{ds:List Deferred}{a:Act}{w:World}{Q:Exit->Act->World->Prop}(j:P.follows .mixedOrders=ad)
  (d:xQ P draw ops sl nt r=ad) (e:cR P ce) (g:eT P ce) (l:dJ ce r s=aa s') (h:Rel sl nt ds s (aI s.σ ids I) a w)
  (m:∀b I' i w', Rel sl nt ds s' (aI s'.σ b I') i w' ->Step (aI s.σ ids I) w (aI s'.σ b I') w' ->Q .normal i w'):(Code.region id ops.toArray draw).wp P Q a w:=
 wpIn_wide.1 (abZ (rd:=ab) j d e g l h m)
end Ab
namespace Ab
open Go
def nK{p:Nat->Bool}:∀{σ:aq}{n b:Nat},aQ (bR p n σ) b=(aQ σ b).map λB=>if p (n+b)then⟨B.k,B.cells,.dead⟩else B
 | [],_,_=>rfl
 |B::r,n,0=>by simp[bR,aQ]
 |B::r,n,b+1=>by
  simp only[bR,aQ];rw[nK,show n+1+b=n+(b+1)by omega]
variable{p:Nat->Bool}{ids:Nat->Nat}{I I': Nat->Prop}{b u:Nat}
def qF{σ:aq}{e:aO×Nat}:(aI (bR p 0 σ) ids I').own b u=aa e↔p b=ae/\(aI σ ids I).own b u=aa e:=by
 simp only[aI,nK,Nat.zero_add];cases a:aQ σ b with
 |none=>simp
 |some B=>
  simp only[Option.map_some];cases d:p b with
  |true=>simp
  |false=>simp
variable{cA: Nat->Nat}
def Ih{σ:aq}{ids: Nat->Nat}:(aI (bR p 0 σ) ids I').lim b u↔(aI σ cA I).lim b u:=by
 simp only[aI,nK,Nat.zero_add];cases d:aQ σ b with
 |none=>simp
 |some B=>
  cases a:p b<;>simp[a]
variable{x y:AV}{v:Value}
def ab1{σ:aq}{I:Nat->Prop}{w:World}(p:Nat->Bool) (d:Good (aI σ ids I) w) (J:view (bR (λb=>!p b) 0 σ) ae vd x=aa y) (K:VR (aI σ ids I) w.heap x v) :
  ∃I', Good (aI (bR p 0 σ) ids I') w/\Step (aI σ ids I) w (aI (bR p 0 σ) ids I') w/\VR (aI (bR p 0 σ) ids I') w.heap y v:=by
 let I' : Nat->Prop:=λk=>I k\/owned (aI (bR (λb=>!p b) 0 σ) ids I) k
 obtain⟨L,M⟩:=Good.shrink (C2:=aI (bR (λb=>!p b) 0 σ) ids I) d rfl (λb u e h=>(qF.1 h).2) (λb u h=>Ih.2 h);have q:∀k,owned (aI (bR (λb=>!p b) 0 σ) ids I) k->owned (aI σ ids I) k:=λk ⟨b,u,B,h,g⟩=>⟨b,u,B,(qF.1 h).2,g⟩;have ev:gM (aI σ ids I) w.heap (aI (bR p 0 σ) ids I') w.heap:=by
  refine⟨λk a=>.inl a,λ_ _=>rfl,λb u h=>Ih.2 h,λb u A id _ j=>⟨A, (qF.1 j).2,rfl,rfl,λc el N=>⟨c,N,rfl⟩⟩⟩
 refine⟨I', ⟨λk a=>a.elim (d.I k) λh=>d.lt (q k h),λb u B id j=>?_,λb u B id j g=>?_,λb1 W X i1 Y Z B2 i2 r O s P C=>d.apart _ _ _ _ _ _ _ _ (qF.1 r).2 O (qF.1 s).2 P C,λb u B id es j g=>?_⟩,
  ⟨ev,Nat.le_refl _,λ_ _ _=>rfl,λk ⟨b,u,B,h,g⟩=>.inl ⟨b,u,B,(qF.1 h).2,g⟩,λk a=>a.elim .inl λh=>.inr (.inl (q k h)),rfl,⟨rfl,Nat.le_refl _⟩,rfl⟩,?_⟩
 .obtain⟨r,s,D,E⟩:=d.mT b u B id (qF.1 j).2
  exact⟨Ih.2 r,s,D,E⟩
 .obtain⟨F,o⟩:=(qF (I:=I)).1 j
  obtain⟨r,c,el,s,D,E⟩:=d.live b u B id o g;refine⟨λa=>?_,c,el,s,D,λi x Q=>?_⟩
  .rcases a with a|⟨G, R, A, l, m⟩
   .exact r a
   .obtain⟨z,H⟩:=(qF (I:=I)).1 l
    have n:G ≠ b:=λe=>by
     subst e;rw[F]at z;simp at z
    exact d.apart _ _ _ _ _ _ _ _ H m o (mZ g) n rfl
  .obtain⟨y,S,T,U⟩:=E i x Q
   exact⟨y,S,VR.mono ev _ _ T,U⟩
 .obtain⟨F,o⟩:=(qF (I:=I)).1 j
  refine d.dK (C' :=aI (bR p 0 σ) ids I') ev o g rfl λa=>?_;rcases a with a|⟨G, R, A, l, m⟩
  .exact(d.maps b u B id es o g).1 a
  .obtain⟨z,H⟩:=(qF (I:=I)).1 l
   have n:G ≠ b:=λe=>by
    subst e;rw[F]at z;simp at z
   exact d.apart _ _ _ _ _ _ _ _ H m o (mW g) n rfl
 .exact(DH (C2:=aI (bR p 0 σ) ids I') (λb u B _ V=>⟨_,pt ids I V⟩) L (fr:=ae) ⟨λ_ k a=>.inl a,λk a=>.inr a⟩ vd x y v J (VR.mono M.ev _ _ K)).2
def P1:AV->AV
 |.aX _ l=>.aX ad l
 |x=>x
variable{C2:Ctx}
def ab2{σ:aq}{I:Nat->Prop}{w:World}(d:fJ σ x=ad) (g:VR (aI σ ids I) w.heap x v) (i:VR C2 w.heap y v) :
  VR C2 w.heap (P1 y) v:=by
 have j:v ≠ .slice ab 0 0:=by
  cases x<;>simp only[fJ]at d<;>try(simp at d;done)
  .rename_i p l
   subst d;unfold VR at g;rcases g.2 with⟨_,a,h,d⟩|⟨_,_,_,_,_,_,_,h,_⟩
   .obtain⟨q,rfl⟩:=Option.isSome_iff_exists.1 (d rfl);rw[h];simp
   .rw[h];simp
  .rename_i b u off len
   cases m:upto σ b u with
   |none=>simp[m]at d
   |some B=>
    simp only[m]at d;have r:B.st = .live:=by revert d;cases B.st<;>simp
    unfold VR at g;have:=g.2.2 B _ (pt ids I m);rw[r]at this;obtain⟨c,el,o,cap,_,e,_⟩:=this;rw[e];simp
 cases y with
 |aX p l=>
  unfold P1;unfold VR at i ⊢;refine⟨i.1,?_⟩;rcases i.2 with h|h
  .obtain⟨s,a,n,_⟩:=h
   refine .inl ⟨s,a,n,λ_=>?_⟩;cases a with
   |none=>exact absurd n j
   |some q=>rfl
  .exact .inr h
 |_=>exact i
def D9{C C2:Ctx}{H:Array Obj}{q:AV->Bool}(b:∀x v,q x=ad->VR C H x v->VR C2 H x v):∀{l:ao}{vs:List Value},l.all q=ad->cH C H l vs->cH C2 H l vs
 | [],_,_,h=>h
 |x::r,_,a,⟨v,s,e,d,g⟩=>by
  simp only[List.all_cons,Bool.and_eq_true]at a;exact⟨v,s,e,b x v a.1 d,D9 b a.2 g⟩
variable{m:Nat}
def ab3{C:Ctx}{H:Array Obj}(z:C2.I=C.I) (s:∀b u e,b<m->C2.own b u=aa e->C.own b u=aa e) (w:∀b u,b<m->C.lim b u->C2.lim b u) :
  ∀(x:AV) (v:Value),ny m x=ad->VR C H x v->VR C2 H x v:=by
 have a:qi C H C2 H:=⟨λk h=>by rw[z];exact h,λ_ _=>rfl⟩
 have o:∀b u off len v,b<m->VR C H (.sl b u off len) v->VR C2 H (.sl b u off len) v:=λb u off len v j h=>by
  unfold VR at h ⊢;exact⟨h.1,w b u j h.2.1,λB id g=>h.2.2 B id (s b u _ j g)⟩
 have p:∀b u off v,b<m->VR C H (.ptr b u off) v->VR C2 H (.ptr b u off) v:=λb u off v j h=>by
  unfold VR at h ⊢;exact⟨h.1,w b u j h.2.1,λB id g=>h.2.2 B id (s b u _ j g)⟩
 have q:∀b v,b<m->VR C H (.cZ b) v->VR C2 H (.cZ b) v:=λb v j h=>by
  unfold VR at h ⊢;exact⟨h.1,w b 0 j h.2.1,λB id g=>h.2.2 B id (s b 0 _ j g)⟩
 have n:∀(x:AV) v,yN m x=ad->VR C H x v->VR C2 H x v:=λx v d h=>by
  cases x with
  |cZ b=>exact q b v (by simpa[yN]using d) h
  |sl b u off len=>exact o b u off len v (by simpa[yN]using d) h
  |ptr b u off=>exact p b u off v (by simpa[yN]using d) h
  |aW=>unfold VR;trivial
  |_=>exact VR.free a _ _ (by simpa[yN]using d) h
 intro x v d h;cases x with
 |sl b u off len=>exact o b u off len v (by simpa[ny]using d) h
 |ptr b u off=>exact p b u off v (by simpa[ny]using d) h
 |cZ b=>exact q b v (by simpa[ny]using d) h
 |aW=>unfold VR;trivial
 |arr l=>simp[ny]at d
 |agg l=>
  unfold VR at h ⊢;obtain⟨r,e,i, A⟩:=h;exact⟨r,e,D9 n d i, A⟩
 |bY l=>
  unfold VR at h ⊢;obtain⟨r,e,i⟩:=h;exact⟨r,e,D9 n d i⟩
 |func f l=>
  unfold VR at h ⊢;obtain⟨r,e,i⟩:=h;exact⟨r,e,D9 n d i⟩
 |iface t y=>exact VR.free a _ _ (by simpa[ny,bC]using d) h
 |aX D l=>
  have:aY l=ad:=by unfold VR at h;exact h.1
  exact VR.free a _ _ (by simpa[bC]using this) h
 |bN y=>
  have:bC y=ad:=by unfold VR at h;exact h.1
  exact VR.free a _ _ (by simpa[bC]using this) h
 |_=>exact VR.free a _ _ rfl h
def Ii{n:Nat}:∀{m:Nat}{σ:aq},wv n m σ=ad->∀b B,b<m->aQ σ b=aa B->B.cells.all (ny n)=ad/\Pw n B.st=ad
 |0,_,_,b,_,d,_=>absurd d (Nat.not_lt_zero b)
 |m+1,[],_,b,B,_,h=>by simp[aQ]at h
 |m+1,e::r,h,b,B,d,a=>by
  simp only[wv,Bool.and_eq_true]at h;cases b with
  |zero=>simp[aQ]at a;subst a;exact h.1
  |succ b=>exact Ii h.2 b B (by omega) (by simpa[aQ]using a)
def P2{σ:aq}:aQ (σ.take m) b=if b<m then aQ σ b else ab:=by
 rw[dX,dX,List.getElem?_take]
def ab4{σ a : aq}{ids: Nat->Nat}{w w' : World}(E:Good (aI a cA I') w') (o:Step (aI σ ids I) w (aI a cA I') w') (G:wv (ah σ) (ah σ) a = ad) :
  Good (aI (a.take (ah σ)) cA I') w' /\Step (aI σ ids I) w (aI (a.take (ah σ)) cA I') w' /\∀x v,ny (ah σ) x=ad->VR (aI a cA I') w'.heap x v->VR (aI (a.take (ah σ)) cA I') w'.heap x v:=by
 have d:∀b u e,(aI (a.take (ah σ)) cA I').own b u=aa e->b<ah σ/\(aI a cA I').own b u=aa e:=λb u e h=>by
  simp only[aI,P2]at h ⊢
  by_cases p:b<ah σ
  .simp only[p,if_true]at h;exact⟨p,h⟩
  .simp[p]at h
 have r:∀b u,b<ah σ->(aI a cA I').lim b u->(aI (a.take (ah σ)) cA I').lim b u:=λb u p ⟨B,n,z⟩=>⟨B,by rw[P2,if_pos p];exact n,z⟩
 have low:=ab3 (H:=w'.heap) (m:=ah σ) (C:=aI a cA I') (C2:=aI (a.take (ah σ)) cA I') rfl (λb u e _ h=>(d b u e h).2) r;have K:∀b u,(aI σ ids I).lim b u->b<ah σ:=λb u ⟨B,n,_⟩=>by rw[dX]at n;exact(List.getElem?_eq_some_iff.1 n).1
 refine⟨⟨E.I,λb u B id D=>?_,λb u B id D A=>?_,λb1 Y Z i1 b2 u2 B2 i2 n R z S L=>E.apart _ _ _ _ _ _ _ _ (d _ _ _ n).2 R (d _ _ _ z).2 S L,λb u B id es D A=>?_⟩,
  ⟨⟨o.ev.aX,o.ev.same,λb u h=>r b u (K b u h) (o.ev.lim b u h),λb u T id h D=>o.ev.own b u T id h (d _ _ _ D).2⟩,o.size,o.frame,λk ⟨b,u,B,h,G⟩=>o.ie k ⟨b,u,B,(d _ _ _ h).2,G⟩,o.iH,o.os,o.tape,o.output⟩,low⟩
 .obtain⟨p,g⟩:=d _ _ _ D
  obtain⟨n,z,F,M⟩:=E.mT b u B id g;exact⟨r b u p n,z,F,M⟩
 .obtain⟨p,g⟩:=d _ _ _ D
  obtain⟨n,c,el,z,F,M⟩:=E.live b u B id g A;obtain⟨N,_⟩:=AF g;have j:=(Ii G b B p N).1;refine⟨n,c,el,z,F,λi x Q=>?_⟩;obtain⟨y,J,O,U⟩:=M i x Q;exact⟨y,J,low x y (List.all_eq_true.1 j x (List.mem_of_getElem? Q)) O,U⟩
 .obtain⟨p,g⟩:=d _ _ _ D
  obtain⟨n,l,c,z,F⟩:=E.maps b u B id es g A;obtain⟨N,_⟩:=AF g;have j:=(Ii G b B p N).2;rw[A]at j;refine⟨n,l,c,z,?_⟩;have go:∀{es:List (AV×AV)} {l:List MapEntry},(es.all λe=>ny (ah σ) e.2)=ad->MR (aI a cA I') w'.heap es l->MR (aI (a.take (ah σ)) cA I') w'.heap es l:=by
   intro es
   induction es with
   |nil=>intro l _ h;exact h
   |cons e es V=>
    obtain⟨k,x⟩:=e;rintro l P ⟨e,s,q,⟨J,O⟩,W,X⟩;simp only[List.all_cons,Bool.and_eq_true]at P;exact⟨e,s,q,⟨J,VR.free (show qi (aI a cA I') w'.heap (aI (a.take (ah σ)) cA I') w'.heap from⟨λ_ h=>h,λ_ _=>rfl⟩) _ _ J O⟩,low _ _ P.1 W,V P.2 X⟩
  exact go j F
end Ab
namespace Ab
open Go
variable{P:Program}
def jO (P:Program) (sl:List Nat) (nt:Nat):IC->Code->Bool
 |.skip,.skip=>ad
 |.skip,.label _=>ad
 |.bad,_=>ad
 |.cut b a,.cond (.const (.bool d)) x y=>b==d && jO P sl nt a (if b then x else y)
 |.Gz a,.scope x=>jO P sl nt a x
 |.cM r,.region _ ops draw=>xQ P draw ops.toList sl nt r
 |.seq a b,c=>match b with
  |.km k=>decide (k<ah sl)&&jO P sl nt a c
  |_=>match c with
   |.seq x y=>jO P sl nt a x&&jO P sl nt b y
   |_=>ae
 |.cond t a b,.cond (.tmp e) x y=>t==e && jO P sl nt a x&&jO P sl nt b y
 |.me k a b,.cond (.tmp t) x y=>sl[k]? == aa t&&jO P sl nt a x&&jO P sl nt b y
 |.block id a,.block id' x=>id==id' && jO P sl nt a x
 |.loop a,.loop x=>jO P sl nt a x
 |.exit id,.exit id' =>id==id'
 |.ret,.ret=>ad
 |.lex a,c=>jO P sl nt a c
 |_,_=>ae
def Ea:Ex->Exit
 |.fe=>.normal
 |.exit id=>.exit id
 |.ret=>.ret
def least{p:Nat->Prop}:∀{n:Nat},p n->∃k,p k/\∀m,m<k->¬p m:=by
 intro n
 induction n using Nat.strongRecOn with
 |ind n e=>
  intro h
  by_cases d:∃m,m<n/\p m
  .obtain⟨m,a,b⟩:=d
   exact e m a b
  .exact⟨n,h,λm a b=>d ⟨m,a,b⟩⟩
open Classical in
def ab5{c:Code}{Q:Exit->Act->World->Prop}{a:Act}{w:World}(J:Nat->Act->World->Prop){k:Nat}(o:J k a w) (q:∀a w,¬J 0 a w) (round:∀k a w,J (k+1) a w->c.wp P (Exit.then (J k) Q) a w):(Code.loop c).wp P Q a w:=by
 let b:Act->World->Nat:=λa w=>if h:∃k,J k a w/\∀m,m<k->¬J m a w then choose h else 0
 have d:∀a w k,J k a w->J (b a w) a w/\b a w<=k:=λa w k g=>by
  have h:=least (p:=λk=>J k a w) g;have e:b a w=choose h:=dif_pos h;have n:=choose_spec h;rw[e];exact⟨n.1,Nat.le_of_not_lt λi=>n.2 k i g⟩
 refine wp_loop (λa w=>∃k,J k a w) b ⟨k,o⟩ λa w ⟨k,g⟩=>?_;obtain⟨j,_⟩:=d a w k g;generalize u:b a w=m at j;cases m with
 |zero=>exact absurd j (q a w)
 |succ m=>
  refine wp_mono (round m a w j) λe r s l=>?_;cases e with
  |normal=>exact⟨⟨m,l⟩,Nat.lt_succ_of_le (d r s m l).2⟩
  |_=>exact l
def ab6{sl:List Nat}{nt:Nat}{ds:List Deferred}{n:Nat}{ce:CE}(hm:P.follows .mixedOrders=ad) (sg:cR P ce) (Ag:eT P ce) :
  ∀(ic:IC) (c:Code) (s:St) (e:Ex) (s' : St) (ids:Nat->Nat) (I:Nat->Prop) (a:Act) (w:World) (Q:Exit->Act->World->Prop),jO P sl nt ic c=ad->exec n ce ic s=aa (e,s')->Rel sl nt ds s (aI s.σ ids I) a w->
   (∀cA I' a' w', Rel sl nt ds s' (aI s'.σ cA I') a' w' ->Step (aI s.σ ids I) w (aI s'.σ cA I') w' ->Q (Ea e) a' w')->c.wp P Q a w:=by
 intro ic
 induction ic with
 |skip=>
  intro c s e s' ids I a w Q dR he h hQ;cases c<;>try(simp[jO]at dR;done)
  .simp only[exec,Option.some.injEq,Prod.mk.injEq]at he
   obtain⟨rfl,rfl⟩:=he;exact wp_skip (hQ ids I a w h (Step.refl _ _))
  .simp only[exec,Option.some.injEq,Prod.mk.injEq]at he
   obtain⟨rfl,rfl⟩:=he;exact wp_label (hQ ids I a w h (Step.refl _ _))
 |bad=>
  intro c s e s' ids I a w Q dR he h hQ;simp[exec]at he
 |cut b x ih=>
  intro c s e s' ids I a w Q dR he h hQ;cases c<;>try(simp[jO]at dR;done)
  rename_i c0 x' y';cases c0<;>try(simp[jO]at dR;done)
  rename_i v;cases v<;>try(simp[jO]at dR;done)
  rename_i b';simp only[jO,Bool.and_eq_true,beq_iff_eq]at dR;obtain⟨rfl,dR⟩:=dR;simp only[exec]at he;refine wp_cond (t:=b) rfl ?_;exact ih _ s e s' ids I a w Q dR he h hQ
 |Gz x ih=>
  intro c s e s' ids I a w Q dR he h hQ;cases c<;>try(simp[jO]at dR;done)
  rename_i c;simp only[jO]at dR;simp only[exec]at he;refine wp_scope_straight ?_;refine ih c s e s' ids I a w _ dR he h λcA I' a' w' h' DP =>?_;have:=hQ cA I' a' w' h' DP;cases e<;>exact this
 |cM r=>
  intro c s e s' ids I a w Q dR he h hQ;cases c<;>try(simp[jO]at dR;done)
  rename_i id ops draw;simp only[exec]at he;cases hr:dJ ce r s with
  |none=>simp[hr]at he
  |some s1=>
   simp only[hr,Option.some.injEq,Prod.mk.injEq]at he;obtain⟨rfl,rfl⟩:=he;simp only[jO]at dR;have:=ab0 (id:=id) (Q:=Q) hm dR sg Ag hr h hQ
   rwa [Array.toArray_toList]at this
 |seq x y NZ P3=>
  intro c s e s' ids I a w Q dR he h hQ;simp only[exec]at he;cases hx:exec n ce x s with
  |none=>simp[hx]at he
  |some es=>
   obtain⟨e1,s1⟩:=es;simp only[hx]at he
   by_cases hf:∃k,y = .km k
   .obtain⟨k,rfl⟩:=hf
    simp only[jO,Bool.and_eq_true,decide_eq_true_eq]at dR;obtain⟨hk,dR⟩:=dR;refine NZ c s e1 s1 ids I a w Q dR hx h λjW I1 a1 w1 h1 st1=>?_;cases e1 with
    |fe=>
     simp only[exec]at he;split at he
     case h_2=>simp at he
     rename_i v hv;simp only[Option.some.injEq,Prod.mk.injEq]at he;obtain⟨rfl,rfl⟩:=he;have hk' : ∃t,sl[k]? = aa t:=⟨_,List.getElem?_eq_getElem hk⟩
     .obtain⟨t,ht⟩:=hk'
      obtain⟨I2,g1,g2,g3⟩:=ab1 (λb=>(reach s1.σ vd (nth s1.vars k) []).contains b) h1.good hv (h1.vars k t ht);refine hQ jW I2 a1 w1 ⟨g1,h1.size,h1.defers,λj t' hj=>?_,λt' v' hv' =>VR.mono g2.ev _ _ (h1.fl t' v' hv')⟩ (st1.trans g2);simp only;rw[Ig]
      by_cases e:j=k/\k<ah s1.vars
      .rw[if_pos e]
       have:t' = t:=by rw[e.1,ht]at hj;simp at hj;exact hj.symm
       subst this
       by_cases hs:fJ s1.σ (nth s1.vars k)=ad
       .rw[if_pos hs];exact ab2 hs (h1.vars k t' ht) g3
       .rw[if_neg hs];exact g3
      .rw[if_neg e]
       exact VR.mono g2.ev _ _ (h1.vars j t' hj)
    |exit id=>simp only[Option.some.injEq,Prod.mk.injEq]at he;obtain⟨rfl,rfl⟩:=he;exact hQ jW I1 a1 w1 h1 st1
    |ret=>simp only[Option.some.injEq,Prod.mk.injEq]at he;obtain⟨rfl,rfl⟩:=he;exact hQ jW I1 a1 w1 h1 st1
   .have ab7 : ∃x' y', c = .seq x' y' /\jO P sl nt x x' = ad/\jO P sl nt y y' = ad:=by
     unfold jO at dR;split at dR
     .exact absurd ⟨_,rfl⟩ hf
     .split at dR
      .simp only[Bool.and_eq_true]at dR
       exact⟨_,_,rfl,dR.1,dR.2⟩
      .simp at dR
    obtain⟨x', y', rfl,P4,P5⟩:=ab7;refine wp_seq (NZ x' s e1 s1 ids I a w _ P4 hx h λjW I1 a1 w1 h1 st1=>?_);cases e1 with
    |fe=>exact P3 y' s1 e s' jW I1 a1 w1 Q P5 he h1 λcA I' a' w' h' DP =>hQ cA I' a' w' h' (st1.trans DP)
    |exit id=>simp only[Option.some.injEq,Prod.mk.injEq]at he;obtain⟨rfl,rfl⟩:=he;exact hQ jW I1 a1 w1 h1 st1
    |ret=>simp only[Option.some.injEq,Prod.mk.injEq]at he;obtain⟨rfl,rfl⟩:=he;exact hQ jW I1 a1 w1 h1 st1
 |cond t x y NZ P3=>
  intro c s e s' ids I a w Q dR he h hQ;cases c<;>try(simp[jO]at dR;done)
  rename_i c0 x' y';cases c0<;>try(simp[jO]at dR;done)
  rename_i t';simp only[jO,Bool.and_eq_true,beq_iff_eq]at dR;obtain⟨⟨rfl,P4⟩,P5⟩:=dR;simp only[exec]at he;split at he
  case h_2=>simp at he
  rename_i t1 b NY
  by_cases e1:t1=t
  .subst e1
   simp only[beq_self_eq_true,if_true]at he;have hb:a.eval (.tmp t1) = .bool b:=h.fl t1 (.bool b) NY;have h' : Rel sl nt ds {s with fl:=ab} (aI s.σ ids I) a w:=⟨h.good,h.size,h.defers,h.vars,λ_ _ q=>by simp at q⟩
   refine wp_cond (t:=b) hb ?_;cases b with
   |true=>exact NZ x' {s with fl:=ab} e s' ids I a w Q P4 he h' hQ
   |false=>exact P3 y' {s with fl:=ab} e s' ids I a w Q P5 he h' hQ
  .have:(t1==t)=ae:=by simpa using e1
   simp[this]at he
 |me k x y NZ P3=>
  intro c s e s' ids I a w Q dR he h hQ;cases c<;>try(simp[jO]at dR;done)
  rename_i c0 x' y';cases c0<;>try(simp[jO]at dR;done)
  rename_i t;simp only[jO,Bool.and_eq_true,beq_iff_eq]at dR;obtain⟨⟨hk,P4⟩,P5⟩:=dR;simp only[exec]at he;split at he
  case h_2=>simp at he
  rename_i b hv;have hb:a.eval (.tmp t) = .bool b:=by
   have:=h.vars k t hk;rw[hv]at this;exact this
  refine wp_cond (t:=b) hb ?_;cases b with
  |true=>exact NZ x' s e s' ids I a w Q P4 he h hQ
  |false=>exact P3 y' s e s' ids I a w Q P5 he h hQ
 |block id x ih=>
  intro c s e s' ids I a w Q dR he h hQ;cases c<;>try(simp[jO]at dR;done)
  rename_i id' c;simp only[jO,Bool.and_eq_true,beq_iff_eq]at dR;obtain⟨rfl,dR⟩:=dR;simp only[exec]at he;refine wp_block ?_;cases hx:exec n ce x s with
  |none=>simp[hx]at he
  |some es=>
   obtain⟨e1,s1⟩:=es;simp only[hx]at he;refine ih c s e1 s1 ids I a w _ dR hx h λjW I1 a1 w1 h1 st1=>?_;cases e1 with
   |fe=>simp only[Option.some.injEq,Prod.mk.injEq]at he;obtain⟨rfl,rfl⟩:=he;exact hQ jW I1 a1 w1 h1 st1
   |exit j=>
    simp only at he
    by_cases hj:j=id
    .subst hj
     simp only[beq_self_eq_true,if_true,Option.some.injEq,Prod.mk.injEq]at he;obtain⟨rfl,rfl⟩:=he;simp only[Ea,Exit.inBlock,if_true];exact hQ jW I1 a1 w1 h1 st1
    .have:(j==id)=ae:=by simpa using hj
     simp only[this,Bool.false_eq_true,if_false,Option.some.injEq,Prod.mk.injEq]at he;obtain⟨rfl,rfl⟩:=he;simp only[Ea,Exit.inBlock,hj,if_false];exact hQ jW I1 a1 w1 h1 st1
   |ret=>simp only[Option.some.injEq,Prod.mk.injEq]at he;obtain⟨rfl,rfl⟩:=he;exact hQ jW I1 a1 w1 h1 st1
 |loop x ih=>
  intro c s e s' ids I a w Q dR he h hQ;cases c<;>try(simp[jO]at dR;done)
  rename_i c;simp only[jO]at dR;simp only[exec]at he;refine ab5 (λk a1 w1=>∃s1 jW I1,iter (exec n ce x) k s1=aa (e,s')/\Rel sl nt ds s1 (aI s1.σ jW I1) a1 w1/\Step (aI s.σ ids I) w (aI s1.σ jW I1) w1) (k:=n) ⟨s,ids,I,he,h,Step.refl _ _⟩ (λa1 w1 ⟨s1,_,_,h0,_⟩=>by simp[iter]at h0) ?_
  rintro k a1 w1 ⟨s1,jW,I1,h1,r1,st1⟩;simp only[iter]at h1;cases hx:exec n ce x s1 with
  |none=>simp[hx]at h1
  |some es=>
   obtain⟨e2,s2⟩:=es;simp only[hx]at h1;refine ih c s1 e2 s2 jW I1 a1 w1 _ dR hx r1 λwz I2 a2 w2 r2 st2=>?_;cases e2 with
   |fe=>exact⟨s2,wz,I2,h1,r2,st1.trans st2⟩
   |exit j=>simp only[Option.some.injEq,Prod.mk.injEq]at h1;obtain⟨rfl,rfl⟩:=h1;exact hQ wz I2 a2 w2 r2 (st1.trans st2)
   |ret=>simp only[Option.some.injEq,Prod.mk.injEq]at h1;obtain⟨rfl,rfl⟩:=h1;exact hQ wz I2 a2 w2 r2 (st1.trans st2)
 |exit id=>
  intro c s e s' ids I a w Q dR he h hQ;cases c<;>try(simp[jO]at dR;done)
  simp only[jO,beq_iff_eq]at dR;subst dR;simp only[exec,Option.some.injEq,Prod.mk.injEq]at he;obtain⟨rfl,rfl⟩:=he;exact wp_exit (hQ ids I a w h (Step.refl _ _))
 |ret=>
  intro c s e s' ids I a w Q dR he h hQ;cases c<;>try(simp[jO]at dR;done)
  simp only[exec,Option.some.injEq,Prod.mk.injEq]at he;obtain⟨rfl,rfl⟩:=he;exact wp_ret (hQ ids I a w h (Step.refl _ _))
 |km k=>
  intro c s e s' ids I a w Q dR he h hQ;cases c<;>simp[jO]at dR
 |lex x ih=>
  intro c s e s' ids I a w Q dR he h hQ;simp only[jO]at dR;simp only[exec]at he;cases hx:exec n ce x s with
  |none=>simp[hx]at he
  |some es=>
   obtain⟨e1,s1⟩:=es;simp only[hx]at he;refine ih c s e1 s1 ids I a w Q dR hx h λjW I1 a1 w1 h1 st1=>?_;have go:(if(s1.vars.all (ny (ah s.σ))&&wv (ah s.σ) (ah s.σ) s1.σ&&(match s1.fl with|some _=>ae|none=>ad))=ad then aa (e1,({s1 with σ:=s1.σ.take (ah s.σ)}:St))else ab)=aa (e,s')->Q (Ea e1) a1 w1:=λhe=>by
    by_cases hc:(s1.vars.all (ny (ah s.σ))&&wv (ah s.σ) (ah s.σ) s1.σ&&(match s1.fl with|some _=>ae|none=>ad))=ad
    case neg=>rw[if_neg hc]at he;simp at he
    rw[if_pos hc]at he;simp only[Bool.and_eq_true]at hc;obtain⟨⟨c1,c2⟩,c3⟩:=hc;simp only[Option.some.injEq,Prod.mk.injEq]at he;obtain⟨rfl,rfl⟩:=he;obtain⟨g1,g2,g3⟩:=ab4 h1.good st1 c2;refine hQ jW I1 a1 w1 ⟨g1,h1.size,h1.defers,λj t hj=>?_,λt v hv=>?_⟩ g2
    .refine g3 _ _ ?_ (h1.vars j t hj)
     rw[uI];cases hq:s1.vars[j]? with
     |none=>rfl
     |some q=>exact List.all_eq_true.1 c1 q (List.mem_of_getElem? hq)
    .simp only at hv
     rw[hv]at c3;simp at c3
   cases e1 with
   |fe=>exact go he
   |exit j=>exact go he
   |ret=>simp only[Option.some.injEq,Prod.mk.injEq]at he;obtain⟨rfl,rfl⟩:=he;exact hQ jW I1 a1 w1 h1 st1
end Ab
namespace Ab
open Go
variable{P:Program}
def lC (P:Program) (sl:List Nat):List ResultVar->List (Nat×Option (Option Nat))->Bool
 | [],[]=>ad
 |.tmp t::r,(k,ab)::s=>sl[k]? == aa t&&lC P sl r s
 |.cell a ty::r,(k,aa b)::s=>sl[k]? == aa a&&cg P ty b&&lC P sl r s
 |_,_=>ae
def rK (P:Program) (f:Nat) (fn:Fn) (sl:List Nat):Bool:=
 match P.funcs[f]? with
 |some a=>dm P f&&(match a.body with
  |some c=>jO P sl a.ntmps fn.body c&&lC P sl a.results.toList fn.res&&decide (fn.np<=a.ntmps)&&(af (ah sl)).all λk=>decide (fn.np<=k)||sl[k]? == aa k
  |none=>ae)
 |none=>ae
def fH (P:Program) (f:Nat) (p:CE->ao->aq->Option (AV×aq)):Prop:=
 dm P f=ad/\∀ce,cR P ce->eT P ce->∀args d r b, p ce args d=aa (r,b)->∀(ids:Nat->Nat) (I:Nat->Prop) (w:World) (i:List Value),Good (aI d ids I) w->cH (aI d ids I) w.heap args i->
  Calls P f i.toArray w λe g =>∃v a h, e = .returned v/\Good (aI b a h) g /\VR (aI b a h) g.heap r v/\Step (aI d ids I) w (aI b a h) g
variable{v:Value}
def ab8{s:Sem Value}{w:World}(h:(do let x <-s;pure (Next.value x):Sem Next).run P w = .ok (.value v) w):s.run P w = .ok v w:=by
 simp only[Sem.run_bind]at h;cases b:s.run P w with
 |ok a d =>rw[b]at h;simp[Result.andThen]at h;obtain⟨rfl,rfl⟩:=h;rfl
 |halt x d =>rw[b]at h;simp[Result.andThen]at h
def ab9{C:Ctx}{w:World}{σ:aq}{x y:AV}{p:Option dd}{kd:Option Nat}{ty:TypeId}(hk:cg P ty kd=ad) (hg:Good C w) (kJ:∀b u B,C.lim b u->upto σ b u=aa B->∃id,C.own b u=aa (B,id)) (hx:VR C w.heap x v)
  (he:ev (λ_ _ _=>ab) σ 0 [] (λ_=>x) (.ld (.v 0) kd)=aa (y,p)):∃z,(do loadVar ty (<-asAddr v):Sem Value).run P w = .ok z w/\VR C w.heap y z:=by
 obtain⟨⟨z,h1,h2⟩,_⟩:=AK (P:=P) (ρ:=λ_=>v) (o:=⟨ab,.load ty (.tmp 0),0, "",#[],ab⟩) (w:=w) (C:=C) rfl hk hg kJ hx he;have h3:=ab8 (s:=Instr.loadAt ty v) h1;refine⟨z,?_,h2⟩;have hp:∃a,v = .pointer (aa a):=by
  simp only[ev]at he;cases x<;>try(simp at he;done)
  .unfold VR at hx;obtain⟨_,aQ,off,_,_,_,_,e,_⟩:=hx;exact⟨_,e⟩
  .unfold VR at hx;obtain⟨⟨aQ,e⟩,_⟩:=hx;exact⟨_,e⟩
 obtain⟨a,rfl⟩:=hp;rw[<-h3];simp only[Instr.loadAt,Instr.sureAddr,asAddr,Sem.run_bind,Sem.run_pure,Result.andThen_ok]
def tm (tmps:Array Value):ResultVar->Sem Value
 |.tmp t=>pure (tmps.getD t undef)
 |.cell a t=>do loadVar t (<-asAddr (tmps.getD a undef))
def aca (a:Func) (tmps:Array Value):Go.results a tmps=(do
  let vs <-a.results.mapM (tm tmps)
  pure (if h:vs.size=1 then vs[0]else .tuple vs)):=by
 unfold Go.results
 congr 2
def Ij{sl:List Nat}{nt:Nat}{ds:List Deferred}{s:St}{ids:Nat->Nat}{I:Nat->Prop}{a:Act}{w:World}(h:Rel sl nt ds s (aI s.σ ids I) a w) :
  ∀(rs:List ResultVar) (g:List (Nat×Option (Option Nat))) (xs:ao),lC P sl rs g=ad->cu (mc s) g=aa xs->
   ∃vs,(rs.mapM (tm a.tmps)).run P w = .ok vs w/\cH (aI s.σ ids I) w.heap xs vs
 | [],[],xs,_,e=>by
  simp[cu]at e;subst e;exact⟨[],by simp,rfl⟩
 |.tmp t::rs,(k,ab)::g,xs,d,e=>by
  simp only[lC,Bool.and_eq_true,beq_iff_eq]at d;simp only[cu,mc]at e;cases i:cu (mc s) g with
  |none=>simp[i]at e
  |some j=>
   simp[i]at e;subst e;obtain⟨vs,l,m⟩:=Ij h rs g j d.2 i;exact⟨_::vs,by simp[List.mapM_cons,tm,l],_,_,rfl,h.vars k t d.1,m⟩
 |.cell q ty::rs,(k,aa o)::g,xs,d,e=>by
  simp only[lC,Bool.and_eq_true,beq_iff_eq]at d;simp only[cu,mc]at e;cases n:ev (λ_ _ _=>ab) s.σ 0 [] (λ_=>nth s.vars k) (.ld (.v 0) o)with
  |none=>simp[n]at e
  |some r=>
   obtain⟨y,p⟩:=r;simp only[n]at e;cases i:cu (mc s) g with
   |none=>simp[i]at e
   |some j=>
    simp[i]at e;subst e;obtain⟨vs,l,m⟩:=Ij h rs g j d.2 i;obtain⟨z,x,A⟩:=ab9 d.1.2 h.good (λb u B _ C=>⟨_,pt ids I C⟩) (h.vars k q d.1.1) n;refine⟨z::vs,?_,_,_,rfl,A,m⟩;rw[List.mapM_cons,Sem.run_bind,show(tm a.tmps (.cell q ty)).run P w = .ok z w from x];simp[l]
 | [],_::_,_,d,_=>by simp[lC]at d
 |.tmp _::_,[],_,d,_=>by simp[lC]at d
 |.cell .. :: _,[],_,d,_=>by simp[lC]at d
 |.tmp _::_,(_,aa _)::_,_,d,_=>by simp[lC]at d
 |.cell .. :: _,(_,ab)::_,_,d,_=>by simp[lC]at d
def Eb{G:Nat->Option Fn}{Q:lr}{n:Nat}(hm:P.follows .mixedOrders=ad) (hG:∀f fn,G f=aa fn->∃sl,rK P f fn sl=ad) (hQ:∀f p,Q f=aa p->fH P f p):∀d,cR P (eJ G Q n d)/\eT P (eJ G Q n d)
 |0=>⟨λf args σ r dC h=>by simp[eJ]at h,λf args σ r h=>by simp[eJ]at h⟩
 |d+1=>by
  obtain⟨qG,rL⟩:=Eb (n:=n) hm hG hQ d;refine⟨λf args σ r dC h ids I w vs hg hv=>?_,λf args σ r h=>?_⟩
  .simp only[eJ]at h
   cases hq:Q f with
   |some p=>
    simp only[hq]at h;exact(hQ f p hq).2 _ qG rL args σ r dC h ids I w vs hg hv
   |none=>
    simp only[hq]at h;cases N0:G f with
    |none=>simp[N0]at h
    |some fn=>
     simp only[N0]at h;split at h
     case isFalse=>simp at h
     rename_i hlen;simp only[beq_iff_eq]at hlen;cases he:exec n (eJ G Q n d) fn.body {vars:=args++ag (fn.nv-fn.np) .aW,fl:=ab,σ}with
     |none=>simp[he]at h
     |some es=>
      obtain⟨e,s⟩:=es;simp only[he]at h;obtain⟨sl,dR⟩:=hG f fn N0;unfold rK at dR;cases AZ:P.funcs[f]? with
      |none=>simp[AZ]at dR
      |some pf=>
       simp only[AZ,Bool.and_eq_true]at dR;obtain⟨_,dR⟩:=dR;cases A0:pf.body with
       |none=>simp[A0]at dR
       |some c=>
        simp only[A0,Bool.and_eq_true,decide_eq_true_eq,List.all_eq_true,List.mem_range,Bool.or_eq_true,beq_iff_eq]at dR;obtain⟨⟨⟨o1,o2⟩,o3⟩,o4⟩:=dR;have yB:ah vs=fn.np:=(cH.length hv).trans hlen;have acb:Rel sl pf.ntmps [] {vars:=args++ag (fn.nv-fn.np) .aW,fl:=ab,σ} (aI σ ids I) {tmps:=vs.toArray++Array.replicate (pf.ntmps-vs.toArray.size) undef,defers:=[]} w:=by
         refine⟨hg,by simp;omega,rfl,λk t hk=>?_,λ_ _ q=>by simp at q⟩
         have GF:k<ah sl:=(List.getElem?_eq_some_iff.1 hk).1;rcases o4 k GF with Zn|heq
         .have:nth (args++ag (fn.nv-fn.np) .aW) k = .aW:=by
           rw[uI,List.getElem?_append_right (by omega),List.getElem?_replicate]
           split<;>rfl
          rw[this];unfold VR;trivial
         .by_cases hkn:k<fn.np
          .rw[heq]at hk;simp at hk;subst hk
           have hka:k<ah args:=by omega
           obtain⟨v,k1,k2⟩:=hv.get k _ (List.getElem?_eq_getElem hka);have e1:nth (args++ag (fn.nv-fn.np) .aW) k=args[k]:=by
            rw[uI,List.getElem?_append_left hka,List.getElem?_eq_getElem hka];rfl
           have e2:(vs.toArray++Array.replicate (pf.ntmps-vs.toArray.size) undef).getD k undef=v:=by
            rw[Array.getD_eq_getD_getElem?,Array.getElem?_append_left (by simp;omega),List.getElem?_toArray,k1];rfl
           rw[e1];show VR _ _ _ ((vs.toArray++Array.replicate (pf.ntmps-vs.toArray.size) undef).getD k undef);rw[e2];exact k2
          .have:nth (args++ag (fn.nv-fn.np) .aW) k = .aW:=by
            rw[uI,List.getElem?_append_right (by omega),List.getElem?_replicate]
            split<;>rfl
           rw[this];unfold VR;trivial
        have A1:results fn s=aa r/\s.σ=dC /\∀j,e ≠ .exit j:=by
         cases e with
         |exit j=>simp at h
         |fe=>
          simp only[Option.map_eq_some_iff,Prod.mk.injEq]at h;obtain⟨q,h1,rfl,h2⟩:=h;exact⟨h1,h2,λj q=>by simp at q⟩
         |ret=>
          simp only[Option.map_eq_some_iff,Prod.mk.injEq]at h;obtain⟨q,h1,rfl,h2⟩:=h;exact⟨h1,h2,λj q=>by simp at q⟩
        obtain⟨hr,rfl,fg⟩:=A1;refine calls_of_wp AZ A0 (ab6 (sl:=sl) (nt:=pf.ntmps) (ds:=[]) hm qG rL fn.body c _ e s ids I _ w _ o1 he acb λcA I' a' w' h' DP =>?_);have key:a'.defers=[]/\∃v,(Go.results pf a'.tmps).run P w' = .ok v w' /\∃v1 cA I', Ending.returned v = .returned v1/\Good (aI s.σ cA I') w' /\VR (aI s.σ cA I') w'.heap r v1/\Step (aI σ ids I) w (aI s.σ cA I') w' :=by
         refine⟨h'.defers,?_⟩;unfold results at hr;cases hxs:cu (mc s) fn.res with
         |none=>simp[hxs]at hr
         |some xs=>
          obtain⟨zs,g1,g2⟩:=Ij h' pf.results.toList fn.res xs o2 hxs;refine⟨if hz:zs.toArray.size=1 then zs.toArray[0]else .tuple zs.toArray,?_,_,cA, I', rfl,h'.good,?_,DP⟩
          .rw[aca,Sem.run_bind,Array.mapM_eq_mapM_toList,Sem.run_map,g1]
           rfl
          .simp only[hxs]at hr
           have hl:=cH.length g2;have many:∀l,xs=l->ah l ≠ 1->r = .bY l->VR (aI s.σ cA I') w'.heap r (if hz:zs.toArray.size=1 then zs.toArray[0]else .tuple zs.toArray):=λl e1 e2 e3=>by
            subst e1;subst e3;rw[dif_neg (by simp;omega)]
            unfold VR;exact⟨zs,rfl,g2⟩
           cases xs with
           |nil=>exact many [] rfl (by simp) (by simpa using hr.symm)
           |cons x t=>
            cases t with
            |nil=>
             simp at hr;subst hr;obtain⟨v,t,e1,e2,e3⟩:=g2;have e3:t=[]:=e3;subst e3;subst e1;simpa using e2
            |cons y t=>exact many (x::y::t) rfl (by simp) (by simpa using hr.symm)
        cases e with
        |exit j=>exact absurd rfl (fg j)
        |fe=>exact key
        |ret=>exact key
  .simp only[eJ]at h
   cases hq:Q f with
   |some p=>exact(hQ f p hq).1
   |none=>
    simp only[hq]at h;cases N0:G f with
    |none=>simp[N0]at h
    |some fn=>
     obtain⟨sl,dR⟩:=hG f fn N0;unfold rK at dR;cases AZ:P.funcs[f]? with
     |none=>simp[AZ]at dR
     |some pf=>
      simp only[AZ,Bool.and_eq_true]at dR;exact dR.1
end Ab
