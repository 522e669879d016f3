/- What reads as its own reads so anywhere; and what it leans on. Condition: none. -/
import Derived.Test.YtcdccenbhiddcaaGreatUptoK
import Derived.Test.YtcdccenbhiddcaaGreatMutH
import Derived.Test.YtcdccenbhiddcaaGreatEqv
import Derived.Test.YtcdccenbhiddcaaGreatMinE
import Derived.Test.YtcdccenbhiddcaaGreatWsuS
import Derived.Test.YtcdccenbhiddcaaGreatSmallM
import Derived.Test.YtcdccenbhiddcaaGreatMutD
set_option linter.all false
set_option maxRecDepth 100000
set_option maxHeartbeats 4000000
namespace Ab
def BY{d i:Type}{f g:d->Option i}(h:∀x y,f x=some y->g x=some y):∀{l:List d}{m:List i},aM f l=some m->aM g l=some m
 | [],m,e=>e
 |x::l,m,e=>by
  simp only[aM]at e ⊢;cases a:f x with
  |none=>rw[a]at e;simp at e
  |some y=>
   rw[a]at e;cases b:aM f l with
   |none=>rw[b]at e;simp at e
   |some s=>
    rw[b]at e;rw[h _ _ a,BY h b];exact e
def tg{σ:List aj}:∀{k:Nat}{x y:AV},view σ true k x=some y->view σ false k x=some y
 |0,x,y,e=>by simp[view]at e
 |k+1,x,y,e=>by
  have i:∀{l m:List AV},aM (view σ true k) l=some m->aM (view σ false k) l=some m:=λh=>BY (λx y=>tg) h;unfold view at e ⊢;cases x with
  |sl b u off len=>
   simp only at e ⊢;cases f:upto σ b u with
   |none=>rw[f]at e;simp at e
   |some B=>
    rw[f]at e;simp only at e ⊢;split at e
    .rename_i j
     rw[ah j];cases a:aM (view σ true k) (chunk B.k len (B.cells.drop off))with
     |none=>rw[a]at e;simp at e
     |some m=>rw[a]at e;rw[i a];exact e
    .simp at e
  |ptr b u off=>
   simp only at e ⊢;cases f:upto σ b u with
   |none=>rw[f]at e;simp at e
   |some B=>
    rw[f]at e;simp only at e ⊢;split at e
    .rename_i j
     rw[ah j];cases n:part B.cells 0 B.k with
     |none=>rw[n]at e;simp at e
     |some z=>
      rw[n]at e;simp only at e ⊢;cases d:view σ true k z with
      |none=>rw[d]at e;simp at e
      |some o =>rw[d]at e;rw[tg d];exact e
    .simp at e
  |agg l=>
   simp only at e ⊢;cases a:aM (view σ true k) l with
   |none=>rw[a]at e;simp at e
   |some m=>rw[a]at e;rw[i a];exact e
  |func g l=>
   simp only at e ⊢;cases a:aM (view σ true k) l with
   |none=>rw[a]at e;simp at e
   |some m=>rw[a]at e;rw[i a];exact e
  |iface t v=>
   simp only at e ⊢;cases d:view σ true k v with
   |none=>rw[d]at e;simp at e
   |some o =>rw[d]at e;rw[tg d];exact e
  |aA b l=>simp at e
  |ar v=>simp at e
  |_=>exact e
def aaS{σ:List aj}{x y:AV}(e:bu σ true x=some y):bu σ false x=some y:=by
 unfold bu at e ⊢;cases x with
 |bz l=>
  simp only at e ⊢;cases a:aM (view σ true vd) l with
  |none=>rw[a]at e;simp at e
  |some m=>rw[a]at e;rw[BY (λx y=>tg) a];exact e
 |_=>exact tg e
def PF (f:Nat) (args:List AV) (r:AV):Prop:=LX L f args [] λv a =>bu a true v=some r
variable{f:Nat}{args:List AV}{r:AV}
def PF.pc(h:PF f args r):PC f args=some r:=by
 obtain⟨v,Y, h1,h2⟩:=jz h;simp only[PC,jN,h1];exact aaS h2
def Kv(h:LX L f args [] λv σ' =>aH (bu σ' true v) (·= r)):PF f args r:=by
 obtain⟨v,σ', a,b⟩:=jz h;obtain⟨u,d,rfl⟩:=gh b;exact rQ a d
def pass (m n:ak) (ws:List (List Int)):Bool:=ws.all λw=>decide ((m.from m.start w).1=(n.from n.start w).1)
variable{m n:ak}{ws:List (List Int)}
def aaT{i:Int}(a:0<=i) (i1:i<ws.length) (h:¬(m.from m.start (ix ws i)).1=(n.from n.start (ix ws i)).1):pass m n ws=false:=by
 unfold pass;rw[List.all_eq_false];exact⟨_,bt a i1,ch⟩
def aaU(h:∀i,0<=i->i<(ws.length:Int)->(m.from m.start (ix ws i)).1=(n.from n.start (ix ws i)).1):pass m n ws=true:=by
 unfold pass;rw[eS];intro w a;obtain⟨j,b,rfl⟩:=cd.1 a;have:=h j aa aa
 rw[aK b]at this;simpa using this
def aaV (m n:ak) (p:m.fits) (q:n.fits) (ws:List (List Int)) (u:(ws.length:Int)<=9223372036854775807) (r:∀w∈ws,(w.length:Int)<=9223372036854775807):PC ym [m.av,n.av,aW ws]=some (.bool (pass m n ws)):=by
 refine ba (V3 rfl ?_);simp;refine a6 (λi:Int=>[(3,.int i)]) (λ_=>[]) (λi=>0<=i/\i<=ws.length/\∀j,0<=j->j<i->(m.from m.start (ix ws j)).1=(n.from n.start (ix ws j)).1) (λi=>(ws.length-i).toNat) 0 rfl ⟨aa,aa,nE⟩ λi ⟨d,i1,h⟩=>?_
 by_cases a:i<ws.length
 .have b:=r _ (bt d a)
  have l:=Jb m p (ix ws i) b;have o:=Jb n q (ix ws i) b;have e:=wj (m.from m.start (ix ws i)).1 (n.from n.start (ix ws i)).1 (by have:=Jc m m.start (ix ws i);omega) (by have:=Jc n n.start (ix ws i);omega)
  by_cases f:(m.from m.start (ix ws i)).1=(n.from n.start (ix ws i)).1
  .rw[decide_eq_true f]at e
   simp[-ax,a,d,l,o,e];exact⟨aa,aL (i+1) rfl rfl ⟨aa,aa,kB f h⟩ aa⟩
  .rw[decide_eq_false f]at e
   have g:=aaT d a f;simp[-ax,a,d,l,o,e,g]
 .have g:=aaU (m:=m) (n:=n) (ws:=ws) λj s x=>h j s aa
  simp[a,g]
def kF (ws:List (List Int)) (k:Int):Int:=dv (λi=>cL (ix ws i) k) ws.length
def fj (m:ak) (ws:List (List Int)) (x:e8):Bool:=pass m (m.gm x) ws&&(ef m (m.gm x) m.start (m.gm x).start).isSome
def ak.gL (m:ak) (ws:List (List Int)):List e8:=if m.fV ≠ 0\/kF ws m.inputs ≠ 0 then[]else m.lC.filter (fj m ws)
def ak.gM (m:ak) (ws:List (List Int)):Int:=if m.fV ≠ 0 then m.fV else kF ws m.inputs
def aaW(h:m.fV=0):m.ao=0/\m.lC=m.allM/\m.allM.length<=10000:=by
 have a:m.ao=0:=by
  unfold ak.fV at h;split at h
  .rename_i a;exact absurd h a
  .rename_i a;simpa using a
 have b:m.allM.length<=10000:=by
  unfold ak.fV at h;rw[ae cV]at h
  split at h
  .simp at h
  .omega
 exact⟨a,by unfold ak.lC;rw[ae ch],b⟩
variable{x:e8}
def Kw:(m.gm x).inputs=m.inputs:=by unfold ak.gm;split;rfl;split<;>rfl
def aaX(a:m.ao=0)(h:x∈m.allM):ig m (m.gm x)=0:=by
 have b:=fQ a;obtain⟨d,e⟩:=BU b h;have:=aaN (BX b d e);unfold ig;rw[ae cV,ae (by simpa using this),ae (by rw[Kw];simp)]
variable{l:List e8}{i:Nat}
def aaY{p:e8->Bool}(h:i<l.length):(l.take (i+1)).filter p=(l.take i).filter p++(if p (ix l (i:Int))=true then[ix l (i:Int)]else[]):=by
 rw[eD,cG h,aK h,List.filter_append];cases a:p l[i]<;>simp[List.filter_cons,a]
def aaZ(h:i<l.length):ix (l.map e8.av) (i:Int)=(ix l (i:Int)).av:=gz aa aa
def aa0 (m:ak) (hm:m.fits) (ws:List (List Int)) (hl:(ws.length:Int)<=9223372036854775807) (hw:∀w∈ws,(w.length:Int)<=9223372036854775807):PF sd [m.av,aW ws] (.bz [J8 (m.gL ws),.int (m.gM ws)]):=by
 refine Kv (VP rfl ?_)
 by_cases h0:m.fV=0
 case neg=>
  have e1:m.gL ws=[]:=by unfold ak.gL;rw[ah (.inl h0)]
  have e2:m.gM ws=m.fV:=by unfold ak.gM;rw[ah h0]
  rw[e1,e2];simp[wA m hm,h0]
 obtain⟨hv,hL,hb⟩:=aaW h0;have hmo:=fQ hv;have jI:∀i:Int,0<=i->i<ws.length->cL (ix ws i) m.inputs ≠ 0->(∀j,0<=j->j<i->cL (ix ws j) m.inputs=0)->m.gL ws=[]/\m.gM ws=cL (ix ws i) m.inputs:=λi i0 i1 h1 h2=>by
  have e:kF ws m.inputs=cL (ix ws i) m.inputs:=uW (f:=λi=>cL (ix ws i) m.inputs) i0 i1 h1 h2;exact⟨by unfold ak.gL;rw[e,ah (.inr h1)],by unfold ak.gM;rw[e,ae (by simpa using h0)]⟩
 simp[-ax,wA m hm,h0];refine a6 (λi:Int=>[(4,.int i)]) (λ_=>[]) (λi=>0<=i/\i<=ws.length/\∀j,0<=j->j<i->cL (ix ws j) m.inputs=0) (λi=>(ws.length-i).toNat) 0 rfl ⟨aa,aa,nE⟩ λi ⟨i0,i1,i2⟩=>?_
 by_cases hi:i<ws.length
 .have hc:=Hv (ix ws i) m.inputs (hw _ (bt i0 hi))
  by_cases he:cL (ix ws i) m.inputs=0
  .simp[-ax,hi,i0,hc,he]
   exact⟨aa,aL (i+1) rfl rfl ⟨aa,aa,kB he i2⟩ aa⟩
  .obtain⟨z1,z2⟩:=jI i i0 hi he i2
   rw[z1,z2];simp[-ax,hi,i0,hc,he]
 .have ew:kF ws m.inputs=0:=oH λj j0 j1=>i2 j j0 aa
  have e1:m.gL ws=m.allM.filter (fj m ws):=by unfold ak.gL;rw[ae (by simp[h0,ew]),hL]
  have e2:m.gM ws=0:=by unfold ak.gM;rw[ae (by simp[h0]),ew]
  rw[e1,e2];rw[hL];generalize hX:m.allM=X at *;simp[-ax,hi];refine a6 (λi:Nat=>[(10,.int i),(17,uS 0 ((X.take i).filter (fj m ws)))]) (λi=>[uB ((X.take i).filter (fj m ws))]) (λi=>i<=X.length) (λi=>X.length-i) 0 (by simp[b5,pw]) aa ?_
  intro k hk
  by_cases xF : k<X.length
  .have ft:=aaY (p:=fj m ws) xF
   have fl:((X.take k).filter (fj m ws)).length<=k:=by
    have:=ou (fj m ws) (X.take k);rw[ji]at this;omega
   have hxm:ix X (k:Int)∈m.allM:=by rw[hX];exact bt aa aa
   have xJ:=aaZ xF;obtain⟨f1,f2⟩:=BU hmo hxm;have hch:=aaM m hmo (ix X (k:Int)) f1;have s6:=aaX hv hxm;have Kx:=BX hmo f1 f2;have Ky:=aaV m (m.gm (ix X (k:Int))) hm (Ku Kx) ws hl hw;have heq:=YE m (m.gm (ix X (k:Int))) hm (Ku Kx);have aa1:(oN m (m.gm (ix X (k:Int)))).1=ef m (m.gm (ix X (k:Int))) m.start (m.gm (ix X (k:Int))).start:=by unfold oN;rw[ae (by simpa using s6)]
   rw[aa1,s6]at heq;have fP:fj m ws (ix X (k:Int))=(pass m (m.gm (ix X (k:Int))) ws&&(ef m (m.gm (ix X (k:Int))) m.start (m.gm (ix X (k:Int))).start).isSome):=rfl;generalize m.gm (ix X (k:Int))=M at *;generalize (X.take k).filter (fj m ws)=F at *;cases hpv:pass m M ws with
   |false=>
    rw[hpv]at Ky fP;rw[fP]at ft;simp[-ax,xF, xJ,hch,Ky];exact⟨aa,aL (k+1) (by simp[ft]) (by simp[ft]) aa aa⟩
   |true=>
    rw[hpv]at Ky fP;cases hdv:(ef m M m.start M.start).isSome with
    |false=>
     rw[hdv]at heq fP;rw[fP]at ft;simp[-ax,xF, xJ,hch,Ky,heq];exact⟨aa,aL (k+1) (by simp[ft]) (by simp[ft]) aa aa⟩
    |true=>
     rw[hdv]at heq fP;rw[fP]at ft;have Kl:(5*F.length=F.length*aC (some 5))=True:=cq gY
     simp[-ax,xF, xJ,hch,Ky,heq,Kl,j6];refine⟨dA,aa,aa,aL (k+1) (by simp[ft,Nat.mul_add]) (by simp[ft,qD,vz,uc]) aa aa⟩
  .have ek:k=X.length:=by omega
   subst ek;rw[kW];have BJ:=vA (fr:=true) (σ:=[uB (X.filter (fj m ws))]) (b:=0) (xs:=X.filter (fj m ws)) rfl;simp[BJ]
def aa2 (m:ak) (a:m.fits) (ws:List (List Int)) (b:(ws.length:Int)<=9223372036854775807) (d:∀w∈ws,(w.length:Int)<=9223372036854775807):PC sd [m.av,aW ws]=some (.bz [J8 (m.gL ws),.int (m.gM ws)]):=(aa0 m a ws b d).pc
def BZ{l:List (List Int)}:∀(k:Nat) (w:List Int),w∈l->(∀v∈l,v.length<=w.length+k)->∃v∈e7 l,w <+: v
 |0,w,f,g=>⟨w,s5.2 ⟨f,λv d a b=>by
   have i:=b.length_le;have j:=g v d;exact a (b.eq_of_length aa)⟩,List.prefix_refl _⟩
 |k+1,w,f,g=>by
  by_cases h:∃v∈l,w ≠ v/\w <+: v
  .obtain⟨v,d,a,b⟩:=h
   have i:=b.length_le;have j:w.length ≠ v.length:=λe=>a (b.eq_of_length e);obtain⟨u,m,n⟩:=BZ k v d λx o=>by have:=g x o;omega
   exact⟨u,m,b.trans n⟩
  .exact⟨w,s5.2 ⟨f,λv d a b=>h ⟨v,d,a,b⟩⟩,List.prefix_refl _⟩
def aa3:(e7 ws).length<=ws.length:=by
 unfold e7;have a:=ou (vy ws) (dD ws);have b:=Js (l:=ws);omega
def aa4:(m.gm x).next.length<=m.next.length+1:=by
 unfold ak.gm;split
 .exact Nat.le_succ _
 split
 .simp[j7]
 .simp[j7]
def aa5{s a:Int}{outs:List Int}(d:outs.length<=15) (e:m.next.length<=5) (f:m.inputs<=3):(m.iX s a outs).length<=65:=by
 unfold ak.iX;have g:=s7 (k:=1) (s:=s) (a:=a) (b:=0) (x:=ix (ix m.out s) a) (outs:=outs);have h:=BO (s:=s) (a:=a) (t:=ix (ix m.next s) a) (n:=m.next.length)
 have i:=vB (s:=s) (a:=a) (row:=ix m.out (ix (ix m.next s) a)) (outs:=outs) (n:=m.inputs.toNat)
 have j:m.inputs.toNat*outs.length<=3*15:=jg aa d
 split<;>simp<;>omega
def Kz{m:ak}{s:Int}(b:m.dj.length<=15) (d:m.next.length<=5) (e:m.inputs<=3):∀n:Nat,(er m s m.dj n).length<=n*65
 |0=>by simp[er]
 |n+1=>by
  have:=Kz (s:=s) b d e n;have:=aa5 (m:=m) (s:=s) (a:=(n:Nat)) (outs:=m.dj) b d e;simp only[er,ez];omega
def aa6(b:m.Ok) (e:m.next.length<=5) (g:m.inputs<=3):m.dj.length<=15:=by
 have h:=BL (bl m.out.flatten);have j:=(kS m.out.flatten).length_eq;have n:=b.len;have a:∀r∈m.out,r.length<=3:=λr a=>by
  obtain⟨i,d,rfl⟩:=cd.1 a;have:=(b.row (i:Int) aa aa).2
  rw[aK d]at this;omega
 have o:m.out.flatten.length<=m.out.length*3:=by
  have:=oV (l:=m.out) (f:=id) (k:=3) a;simpa[List.flatMap_id]using this
 unfold ak.dj;omega
def aa7(b:gJ m) (d:m.next.length<=5) (a:m.inputs<=3):m.allM.length<=10000:=by
 have e:=aa6 b.ok d a;have g:=oV (l:=m.rz) (f:=λs=>er m s m.dj m.inputs.toNat) (k:=195) λs _=>by
  have:=Kz (s:=s) e d a m.inputs.toNat;have:=b.ok.inputs;omega
 have a:=Ki (m:=m);rw[nM b]at a;unfold ak.allM ju;have:=nZ 195 (show m.rz.length<=5 by omega)
 omega
def B4(h:gJ m) (n:m.next.length<=5):m.jG ≠ []/\(∀w∈m.jG,w.length<=64/\∀x∈w,0<=x/\x<m.inputs)/\∀x y:Nat,x<y->y<m.aP.next.length->m.aP.sep (x:Int) (y:Int) m.jG=true:=by
 have b:=oM h.ok;have hlen:=s9 h;have f:m.aP.fU m.aP.fT=0:=by
  unfold ak.fU;rw[ae (by simpa using mn b.ok),oU.2 ⟨mn b.ok,b⟩];rfl
 have a:m.aP.lP=dD (m.aP.lO m.aP.next.length):=ah f
 obtain⟨o,j,i⟩:=vC b aa
 have p:m.aP.inputs=m.inputs:=rfl;unfold ak.jG
 by_cases d:m.aP.lP=[]
 .rw[ah d]
  refine⟨ab,λw e=>by simp at e;subst e;simp,λx y g l=>?_⟩
  have:=i x y g l;rw[<-a,d]at this;obtain⟨w,e,_⟩:=nQ.1 this;simp at e
 .rw[ae d,a]
  exact⟨by rw[<-a];exact d,j,i⟩
def KA{u v c:List Int}(a:u∈(m.aP.af m.aP.start).map (·.2)) (b:v∈mE m.inputs.toNat) (d:c∈m.jG):u++v++c∈m.fM:=
 jS.2 ⟨u,a,jS.2 ⟨v,b,cB.2 ⟨c,d,rfl⟩⟩⟩
def th(e:gJ m) (h:m.next.length<=5):∀w∈m.fM,w.length<=71/\∀x∈w,0<=x/\x<m.inputs:=λw b=>by
 obtain⟨u,g,b⟩:=jS.1 b;obtain⟨v,j,b⟩:=jS.1 b;obtain⟨c,l,rfl⟩:=cB.1 b;have d:=oM e.ok;have hlen:=s9 e;have n:=((lr d.ok).1 g).1;have o:=(we j);have q:=(B4 e h).2.1 c l;have r:u.length<=5:=by
  have s:((m.aP.af m.aP.start).map (·.2)).length=(m.aP.af m.aP.start).length:=cP _;rw[nM d]at s;obtain⟨p,f, rfl⟩:=cB.1 g;obtain⟨i,y,rfl⟩:=cd.1 f;have z:=(iW m.aP d.ok m.aP.start d.ok.start).bq;have:=z.len (i:Int) aa aa
  rw[aK y]at this;have:=nM d;omega
 refine⟨ai,λx a=>?_⟩
 rcases cp.1 a with a|a
 .rcases cp.1 a with a|a
  .exact n x a
  .exact o.2 x a
 .exact q.2 x a
def aa8(b:gJ m) (d:m.next.length<=5):m.fM ≠ []:=by
 obtain⟨c,e⟩:=pP _ (B4 b d).1;have f:=oM b.ok;have a:([]:List Int)∈(m.aP.af m.aP.start).map (·.2):=(lr f.ok).2 ⟨ab,λu _ _=>by have:=Bz (u:=[]) (v:=u);simpa using this⟩
 have g:([]:List Int)∈mE m.inputs.toNat:=Hy ab ab
 exact List.ne_nil_of_mem (KA a g e)
def aa9(b:gJ m) (n:m.next.length<=5) (o:m.inputs<=3):m.fM.length<=5*13*5:=by
 have a:=oM b.ok;have hlen:=s9 b;have d:m.aP.fU m.aP.fT=0:=by
  unfold ak.fU;rw[ae (by simpa using mn a.ok),oU.2 ⟨mn a.ok,a⟩];rfl
 have e:m.aP.lP=dD (m.aP.lO m.aP.next.length):=ah d
 obtain⟨p,_,_⟩:=vC a aa
 have g:m.jG.length<=5:=by
  unfold ak.jG;split
  .simp
  .rw[e];omega
 have q:(mE m.inputs.toNat).length<=13:=by
  have:=b.ok.inputs;obtain h|h|h:m.inputs=1\/m.inputs=2\/m.inputs=3:=aa
  all_goals rw[h];decide
 have i:((m.aP.af m.aP.start).map (·.2)).length<=5:=by rw[cP,nM a];omega
 unfold ak.fM;generalize (m.aP.af m.aP.start).map (·.2)=U at *;generalize mE m.inputs.toNat=V at *;have j:∀u∈U,(V.flatMap λv=>m.jG.map λc=>u++v++c).length<=13*5:=λu _=>by
  have:=oV (l:=V) (f:=λv=>m.jG.map λc=>u++v++c) (k:=5) λv _=>by simp;exact g
  omega
 have r:=oV (l:=U) j;have:=nZ (13*5) i;omega
def B5(b:gJ m) (f:m.next.length<=5) (F:m.inputs<=3)(r:x∈m.allM):fj m (e7 m.fM) x=false:=by
 have a:=b.ok;obtain⟨s,y⟩:=BU a r;have g:=BX a s y;have i:(m.gm x).inputs=m.inputs:=Kw;have G:(m.gm x).next.length<=m.next.length+1:=aa4
 have z:=oM a;have hlen:=s9 b;have A:=a.inputs;unfold fj;cases j:pass m (m.gm x) (e7 m.fM)with
 |false=>rfl
 |true=>
  unfold pass at j;rw[eS]at j;have l:∀w∈m.fM,m.outs m.start w=(m.gm x).outs (m.gm x).start w:=λw l=>by
   obtain⟨v,d,t,rfl⟩:=BZ 71 w l λv d=>by have:=(th b f v d).1;omega
   have q:=th b f _ (s5.1 d).1;have e:=j _ d;simp only[cO]at e;rw[Je (mn a) q.2 aa,Je (mn g) (by rw[i];exact q.2) aa]at e
   dsimp only at e;rw[eZ,eZ]at e;exact(List.append_inj e jo).1
  obtain⟨B,H,D⟩:=B4 b f;have key:jE m.aP (m.gm x):=Jv (C:=m.jG) z g i aa B D λu E v d n c o=>by
   have h:=KA E (Hy d n) o;rw[Bb a (th b f _ h).2];exact l _ h
  have p:jE m (m.gm x):=λw h=>by
   rw[<-Bb a h];exact key w h
  rw[(Y6 a g i.symm).2 p]
  rfl
def aba (aw:PC oF []=some (.bool true)) (m:ak) (h:m.fits):PC Gh [m.av]=some (.bool true):=by
 refine ba (VM rfl ?_);have e4:=Y1 m h;have hck:=Z1 m h;cases hs:m.small with
 |false=>simp[e4,hs,aw]
 |true=>
  by_cases h5:5<(m.next.length:Int)
  .simp[e4,hs,aw,h5]
  by_cases h3:3<m.inputs
  .simp[e4,hs,aw,h5,h3]
  by_cases hz:m.fU m.fT=0
  case neg=>simp[e4,hs,aw,h5,h3,hck,hz]
  obtain⟨hv,hM⟩:=J2 hz;have hS:=aaz m h hM aa aa
  have jQ:=hM.ok.inputs;obtain⟨a1,a2⟩:=z206 hv (aa7 hM aa aa)
  have hw:∀w∈e7 m.fM,w.length<=71/\∀x∈w,0<=x/\x<m.inputs:=λw hw=>th hM aa w (s5.1 hw).1
  have hWl:((e7 m.fM).length:Int)<=9223372036854775807:=by
   have h1:=aa3 (ws:=m.fM);have h2:m.fM.length<=5*13*5:=aa9 hM aa aa
   omega
  have hV:=aa2 m h (e7 m.fM) hWl λw h=>by have:=(hw w h).1;omega
  have hwe:kF (e7 m.fM) m.inputs=0:=oH λj j0 j1=>by
   have:=hw _ (bt j0 j1);exact Jd ⟨aa,aa⟩ aa this.2
  have e1:m.gM (e7 m.fM)=0:=by unfold ak.gM;rw[ae (by simpa using a1),hwe]
  have e2:m.gL (e7 m.fM)=[]:=by
   unfold ak.gL;rw[ae (by simp[a1,hwe]),List.filter_eq_nil_iff,a2]
   intro x hx;rw[B5 hM aa aa hx];simp
  rw[e1,e2]at hV;have fm:¬(e7 m.fM)=[]:=λe=>by
   obtain⟨w,hw⟩:=pP _ (aa8 hM aa)
   obtain⟨v,hv,_⟩:=BZ 71 w hw λv hv=>by have:=(th hM aa v hv).1;omega
   rw[e]at hv;simp at hv
  generalize e7 m.fM=W at *;have hlp:0<(W.length:Int):=by
   have:=fc.2 fm;omega
  simp[e4,hs,aw,h5,h3,hck,hz,hS,hV,hlp,fm]
end Ab
