/- The learner: what is known of words; and what it leans on. Condition: none. -/
import Derived.Test.YtdenhmniigikcaaGreatR44H
import Derived.KernelRfl
set_option linter.all false
set_option maxRecDepth 100000
set_option maxHeartbeats 8000000
namespace Ab
attribute [local simp] oC
def L3{w:List Int}(b:dG w):∀{mo:List (List Int×Nat×Nat)},(∀e∈mo,dG e.1)->cL (qM mo) (.str (fg w))=some ((nO w mo).map λq=>.sl q.2 q.1 0 q.1)
 | [],_=>rfl
 |e::l,h=>by
  have d:=L3 b (mo:=l) λx g=>h x iH
  show(match eC (.str (fg w)) (.str (fg e.1))with
   |some true=>some (some (AV.sl e.2.2 e.2.1 0 e.2.1))
   |some false=>cL (qM l) (.str (fg w))
   |none=>none)=_
  by_cases q:e.1=w
  .subst q
   simp[eC,nO]
  .have a:fg w ≠ fg e.1:=λi=>q (CV b (h e ab) i).symm
   simp[eC,a,d,nO,q]
variable{w:List Int}
def apy(i:dG w) (q:Nat×Nat):∀{mo:List (List Int×Nat×Nat)},(∀e∈mo,dG e.1)->uP (qM mo) (.str (fg w)) (.sl q.2 q.1 0 q.1) ((nO w mo).map λq=>.sl q.2 q.1 0 q.1)=qM (nP w q mo):=by
 intro mo h;cases a:nO w mo with
 |none=>
  show qM mo ++ [(.str (fg w),.sl q.2 q.1 0 q.1)]=_;clear h
  induction mo with
  |nil=>rfl
  |cons e l g=>
   simp only[nO]at a;split at a
   .simp at a
   .rename_i b
    simp only[nP,ad b];rw[show qM (e::nP w q l)=(.str (fg e.1),.sl e.2.2 e.2.1 0 e.2.1)::qM (nP w q l)from rfl,<-g a]
    rfl
 |some z=>
  show jf (qM mo) (.str (fg w)) (.sl q.2 q.1 0 q.1)=_
  induction mo with
  |nil=>simp[nO]at a
  |cons e l g=>
   show(match eC (.str (fg w)) (.str (fg e.1))with
    |some true=>(AV.str (fg e.1),AV.sl q.2 q.1 0 q.1)::qM l
    |_=>(AV.str (fg e.1),AV.sl e.2.2 e.2.1 0 e.2.1)::jf (qM l) (.str (fg w)) (.sl q.2 q.1 0 q.1))=_
   simp only[nO]at a
   by_cases d:e.1=w
   .subst d
    simp[eC,nP]
    rfl
   .rw[ad d]at a
    have b:fg w ≠ fg e.1:=λj=>d (CV i (h e ab) j).symm
    simp[eC,b,nP,d,g (λx m=>h x (by simp[m])) a]
    rfl
def sr{w:List Int}{q:Nat×Nat}:∀{mo:List (List Int×Nat×Nat)},nO w mo=some q->(w,q)∈mo
 | [],h=>by simp[nO]at h
 |e::l,h=>by
  simp only[nO]at h;split at h
  .rename_i a
   subst a;simp at h;subst h;simp
  .exact List.mem_cons_of_mem _ (sr h)
def AL{w:List Int}{q:Nat×Nat}:∀{mo:List (List Int×Nat×Nat)},nO w (nP w q mo)=some q
 | []=>by simp[nO,nP]
 |e::l=>by
  simp only[nP];split
  .simp[nO]
  .rename_i a
   simp[nO,a,AL]
def tS{w:List Int}{q:Nat×Nat}{x:List Int×Nat×Nat}:∀{mo:List (List Int×Nat×Nat)},(mo.map (·.1)).Nodup->(x∈nP w q mo↔x=(w,q)\/(x∈mo/\x.1 ≠ w))
 | [],_=>by simp[nP]
 |e::l,g=>by
  rw[cS,nj]at g;simp only[nP];split
  .rename_i d
   simp only[b5];constructor
   .rintro(a|a)
    .exact .inl a
    .refine .inr ⟨.inr a,λh =>g.1 ?_⟩
     rw[d,<-h];exact List.mem_map_of_mem a
   .rintro(a|⟨a|a,b⟩)
    .exact .inl a
    .exact absurd (a▸d) b
    .exact .inr a
  .rename_i d
   simp only[b5,tS g.2];constructor
   .rintro(a|a|⟨a,b⟩)
    .exact .inr ⟨.inl a,by rw[a];exact d⟩
    .exact .inl a
    .exact .inr ⟨.inr a,b⟩
   .rintro(a|⟨a|a,b⟩)
    .exact .inr (.inl a)
    .exact .inl a
    .exact .inr (.inr ⟨a,b⟩)
def WS{w:List Int}{q:Nat×Nat}:∀{mo:List (List Int×Nat×Nat)},(mo.map (·.1)).Nodup->((nP w q mo).map (·.1)).Nodup
 | [],_=>by simp[nP]
 |e::l,d=>by
  have i :=d;rw[cS,nj]at d;simp only[nP];split
  .rename_i g
   rw[cS,nj];exact⟨by rw[<-g];exact d.1,d.2⟩
  .rename_i g
   rw[cS,nj];refine⟨λj=>?_,WS d.2⟩;obtain⟨x,m,h⟩:=cx.1 j;rcases(tS d.2).1 m with a|⟨a,b⟩
   .subst a;exact g h.symm
   .exact d.1 (h ▸List.mem_map_of_mem a)
def WT{g i:Type}{f:g->i}:∀{l:List g},(l.map f).Nodup->∀{x y:g},x∈l->y∈l->f x=f y->x=y
 | [],_,_,_,h,_,_=>by simp at h
 |e::l,d,x,y,j,m,q=>by
  rw[cS,nj]at d;rcases b5.1 j with a|a<;>rcases b5.1 m with b|b
  .rw[a,b]
  .exact absurd (cx.2 ⟨y,b,by rw[<-q,a]⟩) d.1
  .exact absurd (cx.2 ⟨x,a,by rw[q,b]⟩) d.1
  .exact WT d.2 a b q
def WU{w:List Int}{q:Nat×Nat}:∀{mo:List (List Int×Nat×Nat)},(mo.map (·.1)).Nodup->(mo.map (·.2.2)).Nodup->(∀e∈mo,e.1 ≠ w->e.2.2 ≠ q.2)->((nP w q mo).map (·.2.2)).Nodup
 | [],_,_,_=>by simp[nP]
 |e::l,g,h,j=>by
  rw[cS,nj]at g h;simp only[nP];split
  .rename_i m
   rw[cS,nj];refine⟨λn=>?_,h.2⟩;obtain⟨x,d,i⟩:=cx.1 n;refine j x fM (λo=>g.1 ?_) i
   rw[m,<-o];exact List.mem_map_of_mem d
  .rename_i m
   rw[cS,nj];refine⟨λn=>?_,WU g.2 h.2 λx d=>j x fM⟩
   obtain⟨x,d,i⟩:=cx.1 n;rcases(tS g.2).1 d with a|⟨a,b⟩
   .subst a;exact j e ab m i.symm
   .exact h.1 (i ▸List.mem_map_of_mem a)
def LM.mark{S:Lg}{O:Nat->Option al}{σ τ:List al}(h:LM S O σ)(hw:dG w){k b:Nat}(hk:k<S.cs.length) (he:S.n.kH w (S.cs.take (k+1))=0)
  (hb:nO w S.mo=some (k,b)\/nO w S.mo=none/\k=0/\σ.length<=b)
  (hm:aq τ 2=some ⟨some 0,[],.map (qM (nP w (k+1,b) S.mo))⟩)
  (hr:aq τ b=some ⟨none,((S.n.kI S.cs w).take (k+1)).map (.ik 4),.live⟩)
  (ho:∀i,i<σ.length->i ≠ 2->i ≠ b->aq τ i=aq σ i):LM {S with mo:=nP w (k+1,b) S.mo} O τ:=by
 have lt:∀{i:Nat} {B:al},aq σ i=some B->i<σ.length:=fun {i B} q=>by
  exact cU q
 have bn:b ≠ 2/\b ≠ 3/\b ≠ S.pc:=by
  rcases hb with hb|⟨_,_,hb⟩
  .exact h.xI _ (sr hb)
  .have h2:=lt h.m
   have h3:=lt h.l;have h4:=lt h.c;omega
 have be:∀e∈S.mo,e.1 ≠ w->e.2.2 ≠ b:=λe hx eP q=>by
  rcases hb with hb|⟨_,_,hb⟩
  .have:=sr hb
   exact eP (congrArg (·.1) (WT h.nb hx this q))
  .have:=lt (h.r e hx);omega
 have bo:∀i B,O i=some B->b ≠ i:=λi B hB q=>by
  obtain⟨h1,_,_,_,h2⟩:=h.o i B hB;rcases hb with hb|⟨_,_,hb⟩
  .exact h2 _ (sr hb) q
  .have:=lt h1;omega
 refine⟨?_,hm,?_,λe hx=>?_,λe hx=>?_,λe hx=>?_,WS h.nd,WU h.nd h.nb be,h.Ba,λe hx=>?_,λi B hB=>?_⟩
 .rw[ho 3 (lt h.l) aa (Ne.symm bn.2.1)];exact h.l
 .rw[show({S with mo:=nP w (k+1,b) S.mo}:Lg).pc=S.pc from rfl,ho S.pc (lt h.c) h.Ba.1 (Ne.symm bn.2.2)];exact h.c
 .rcases(tS h.nd).1 hx with rfl|⟨hx,eP⟩
  .exact hr
  .rw[ho _ (lt (h.r e hx)) (h.xI e hx).1 (be e hx eP)];exact h.r e hx
 .rcases(tS h.nd).1 hx with rfl|⟨hx,eP⟩
  .exact⟨by show k+1<=S.cs.length;omega,by show 1<=k+1;omega,he⟩
  .exact h.le e hx
 .rcases(tS h.nd).1 hx with rfl|⟨hx,eP⟩
  .exact hw
  .exact h.ok e hx
 .rcases(tS h.nd).1 hx with rfl|⟨hx,eP⟩
  .exact bn
  .exact h.xI e hx
 .obtain⟨h1,h2,h3,h4,h5⟩:=h.o i B hB
  refine⟨by rw[ho i (lt h1) h2 (Ne.symm (bo i B hB))];exact h1,h2,h3,h4,λe hx=>?_⟩
  rcases(tS h.nd).1 hx with rfl|⟨hx,eP⟩
  .exact bo i B hB
  .exact h5 e hx
end Ab
namespace Ab
attribute [local simp] oC
def bR (S T:Lg):Prop:=T.n=S.n/\T.ws=S.ws/\T.cs=S.cs
def tT:∀{cs:List (List Int×List Int)},(D9 cs).length=2*cs.length
 | []=>rfl
 |c::cs=>by
  show(.str (fg c.1) :: .str (fg c.2)::D9 cs:List AV).length=_;simp[tT (cs:=cs)];omega
def xQ (k b:Nat):AV:=if k=0 then .ag else .sl b k 0 k
def apz{k b:Nat}{K:Int->Prop}:ED (xQ k b) K=K k:=by
 unfold xQ;split
 .rename_i h;subst h;rfl
 .rfl
def apA{a b:List (List Int×List Int)}:D9 (a++b)=D9 a++D9 b:=by simp[D9]
def WV{cs:List (List Int×List Int)}{a i:Nat}{K:AV->Prop}{t:Tk K}(h:a+i<cs.length):pT (D9 cs) (a*2+i*2) (some 2) K t=K (.agg [.str (fg (ix cs (i+a:Nat)).1),.str (fg (ix cs (i+a:Nat)).2)]):=by
 have b:cs=cs.take (a+i)++cs[a+i]::cs.drop (a+i+1):=by rw[List.getElem_cons_drop,nm]
 have d:ix cs (i+a:Nat)=cs[a+i]:=by rw[Nat.add_comm,aB h]
 rw[d];unfold pT part;have e:=tT (cs:=cs);simp only[];rw[ae aa]
 have:((D9 cs).drop (a*2+i*2)).take 2=[.str (fg cs[a+i].1),.str (fg cs[a+i].2)]:=by
  conv=>lhs;rw[b]
  rw[apA,List.drop_append_of_le_length (by rw[tT,og];omega),jY (by rw[tT,og];omega)]
  rfl
 rw[this]
 rfl
def L4{n:ao}{w:List Int}{c:List Int×List Int}:∀{l m:List (List Int×List Int)},n.kH w l=0->n.kH w (l++c::m)=if n.E8 w c ≠ 0 then n.E8 w c else n.kH w m
 | [],_,_=>rfl
 |d::l,m,h=>by
  simp only[ao.kH]at h
  by_cases e:n.E8 w d=0
  .rw[ad ft]at h
   show(if n.E8 w d ≠ 0 then n.E8 w d else n.kH w (l++c::m))=_
   rw[ad ft,L4 h]
  .rw[ae e]at h;exact absurd h e
def L5{S:Lg}{O:Nat->Option al}{σ:List al}(h:LM S O σ) (hf:S.n.fits) (xT:∀c∈S.cs,D8 c) (AU:1<=S.cs.length) (Mi:S.cs.length<=1000) (w:List Int) (V:dG w) (hl:w.length<=10000):LX L tm [.ptr 3 13 0,iL w] σ (λr τ=>∃T,LM T O τ/\bR S T/\σ.length<=τ.length/\r=E9 S.n S.cs w):=by
 refine aka rfl ?_;have W:=h.l;have hM:=h.m;have hC:=h.c;have ht:=Kh w V aa
 have E:=L3 V h.ok;have Y:∀x,ba 1 (.str x)=true:=λ_=>rfl;obtain⟨d,b0,sZ,hv,hm0,he0⟩:∃d b0,d<=S.cs.length/\GF .ag false ((nO w S.mo).map λq=>.sl q.2 q.1 0 q.1)=xQ d b0/\(nO w S.mo=some (d,b0)\/nO w S.mo=none/\d=0/\b0=σ.length)/\S.n.kH w (S.cs.take d)=0:=by
  cases z:nO w S.mo with
  |none=>exact⟨0,σ.length,aa,rfl,.inr ⟨rfl,rfl,rfl⟩,rfl⟩
  |some q=>
   obtain⟨a,b⟩:=q;have:=h.le _ (sr z);refine⟨a,b,this.1,?_,.inl rfl,this.2.2⟩;show AV.sl b a 0 a=xQ a b;unfold xQ;rw[if_neg];have:=this.2.1;dsimp only at this;omega
 simp[-aj,ht,W,hM,E,ao.kQ,Y,hv,apz,hC,Wg,tT,aM];refine⟨sZ,?_⟩;refine aK (λq:Nat×Lg×List al×Nat=>[(3,xQ (d+q.1) q.2.2.2),(4,.int q.1)]) (λq=>q.2.2.1)
  (λq=>q.1+d<=S.cs.length/\LM q.2.1 O q.2.2.1/\bR S q.2.1/\q.2.1.pc=S.pc/\σ.length<=q.2.2.1.length/\(nO w q.2.1.mo=some (d+q.1,q.2.2.2)\/nO w q.2.1.mo=none/\d+q.1=0/\q.2.2.2=q.2.2.1.length)/\S.n.kH w (S.cs.take (d+q.1))=0)
  (λq=>S.cs.length-q.1) (0,S,σ,b0) aX ⟨by simpa using sZ,h,⟨rfl,rfl,rfl⟩,rfl,bd _,hm0,he0⟩ ?_
 rintro⟨i,T,τ,b⟩ ⟨i0,s,⟨A,X,o⟩,Z,hle,z,he⟩;dsimp only at i0 s A X o Z hle z he ⊢;have W:=s.l;have hM:=s.m;have hC:=s.c;rw[Z,o]at hC;rw[A,X,o,Z]at W;have E:=L3 V s.ok
 by_cases hi:i<S.cs.length-d
 .have F:d+i<S.cs.length:=by omega
  have EK:=xT _ (aJ (l:=S.cs) (n:=((i+d:Nat):Int)) aa aa)
  have Ei:=λK t=>WV (K:=K) (t:=t) F;have hx:ix S.cs ((i+d:Nat):Int)=S.cs[d+i]:=by rw[Nat.add_comm,aB F]
  have hap:=L4 (c:=ix S.cs ((i+d:Nat):Int)) (m:=S.cs.drop (d+i+1)) he;have I:=L4 (c:=ix S.cs ((i+d:Nat):Int)) (m:=[]) he;have GP:S.cs.take (d+i) ++ [ix S.cs ((i+d:Nat):Int)]=S.cs.take (d+i+1):=by rw[hx,List.take_append_getElem]
  rw[GP]at I;rw[hx,List.getElem_cons_drop,nm,<-hx]at hap;generalize ix S.cs ((i+d:Nat):Int)=c at *;have P:=We c EK w aa
  have ss:=EK.2.2;have R:=alV S.n hf (c.1++(w++c.2)) (by simp only[aU];omega)
  have hme:S.n.E8 w c=(S.n.acc (c.1++(w++c.2))).2:=rfl;have G:S.n.Wf w c=if(S.n.acc (c.1++(w++c.2))).1=true then 43 else 45:=rfl
  unfold ctA at P;unfold ao.av at R;rw[hme]at hap I;generalize c.1++(w++c.2)=u at *;generalize hq:S.n.acc u=q at *;obtain⟨qa,qe⟩:=q;dsimp only at *;have hsp:=s.xI
  by_cases hz:qe=0
  .subst hz
   have D:(S.n.kI S.cs w).take (d+i+1)=(S.n.kI S.cs w).take (d+i) ++ [S.n.Wf w c]:=by
    unfold ao.kI;rw[<-List.map_take,<-List.map_take,<-GP,jE];rfl
   have g:=apy V (d+i+1,b) s.ok;have J:S.n.kH w (S.cs.take (d+i+1))=0:=by rw[I];rfl
   have U:T.n.kH w (T.cs.take (d+i+1))=0:=by rw[A,o];exact J
   have h2l:=cU hM
   by_cases H:d+i=0
   .have M:xQ (d+i) b = .ag:=ae H
    have y:nO w T.mo=none/\b=τ.length:=by
     rcases z with z|⟨z,_,e⟩
     .have:=(s.le _ (sr z)).2.1
      dsimp only at this;omega
     .exact⟨z,e⟩
    have hM2:∀B,aq (τ ++ [B]) 2=some ⟨some 0,[],.map (qM T.mo)⟩:=λB=>sf hM;have Bd:=λB=>sf (τ:=[B]) W;rw[y.1]at E g;have N : qM T.mo ++ [(.str (fg w),.sl τ.length 1 0 1)]=qM (nP w (d+i+1,b) T.mo):=by
     rw[<-g];show _=qM T.mo ++ [(.str (fg w),.sl b (d+i+1) 0 (d+i+1))];rw[y.2,H]
    cases qa<;>simp only[reduceIte,ef]at G<;>simp[-aj,hi,W,hC,Wg,ao.kQ,↓Ei,P,R,tT,M,hM2,Bd,E,Y]
    .rw[N]
     refine⟨aa,aD (i+1,{T with mo:=nP w (d+i+1,b) T.mo},_,b) (by simp[xQ,y.2,<-Nat.add_assoc,H]) rfl ⟨au,?_,⟨A,X,o⟩,Z,by simp[aY];omega,.inl AL,J⟩ au⟩
     refine s.mark V (by rw[o];exact F) U (.inr ⟨y.1,H,aa⟩) (bU ax) ?_ λj hj j2 jb=>?_
     .rw[aA aa,jn y.2,A,o,D,G,H];rfl
     .rw[aA aa,dH hj]
    .rw[N]
     refine⟨aa,aD (i+1,{T with mo:=nP w (d+i+1,b) T.mo},_,b) (by simp[xQ,y.2,<-Nat.add_assoc,H]) rfl ⟨au,?_,⟨A,X,o⟩,Z,by simp[aY];omega,.inl AL,J⟩ au⟩
     refine s.mark V (by rw[o];exact F) U (.inr ⟨y.1,H,aa⟩) (bU ax) ?_ λj hj j2 jb=>?_
     .rw[aA aa,jn y.2,A,o,D,G,H];rfl
     .rw[aA aa,dH hj]
   .have M:xQ (d+i) b = .sl b (d+i) 0 (d+i):=ad H
    have C:nO w T.mo=some (d+i,b):=by
     rcases z with z|⟨z,e,_⟩
     .exact z
     .exact absurd e H
    have p:=s.r _ (sr C);have hbp:=s.xI _ (sr C);dsimp only at p hbp;rw[A,o]at p;have hlr:(((S.n.kI S.cs w).take (d+i)).map (AV.ik 4)).length=d+i:=by simp[ao.kI];omega
    generalize B5:((S.n.kI S.cs w).take (d+i)).map (AV.ik 4)=cb at *;rw[C]at E g;have hM2:∀B,aq (ar τ b B) 2=some ⟨some 0,[],.map (qM T.mo)⟩:=λB=>by rw[aA aa];exact hM
    have Bd:=λB=>(aA (Q:=τ) (i:=b) (j:=3) (B:=B) aa).trans W
    have apB:∀x:AV,(cb ++ [x]).length=d+i+1:=λx=>by rw[aU,hlr];rfl
    cases qa<;>simp only[reduceIte,ef]at G<;>simp[-aj,hi,W,hC,Wg,ao.kQ,↓Ei,P,R,tT,M,p,hlr,apB,Bd,hM2,E,Y,aM]
    .rw[show uP (qM T.mo) (.str (fg w)) (.sl b (d+i+1) 0 (d+i+1)) ((some (d+i,b)).map λq=>.sl q.2 q.1 0 q.1)=jf (qM T.mo) (.str (fg w)) (.sl b (d+i+1) 0 (d+i+1))from rfl]at g
     rw[g];refine⟨aa,aa,aD (i+1,{T with mo:=nP w (d+i+1,b) T.mo},_,b) (by simp[xQ,<-Nat.add_assoc]) rfl ⟨au,?_,⟨A,X,o⟩,Z,by simp[aY];omega,.inl AL,J⟩ au⟩
     refine s.mark V (by rw[o];exact F) U (.inl C) (bU (by rw[aY];omega)) ?_ λj hj j2 jb=>?_
     .rw[aA aa,bU (cU p),A,o,D,G,<-B5,jE];rfl
     .rw[aA aa,aA aa]
    .rw[show uP (qM T.mo) (.str (fg w)) (.sl b (d+i+1) 0 (d+i+1)) ((some (d+i,b)).map λq=>.sl q.2 q.1 0 q.1)=jf (qM T.mo) (.str (fg w)) (.sl b (d+i+1) 0 (d+i+1))from rfl]at g
     rw[g];refine⟨aa,aa,aD (i+1,{T with mo:=nP w (d+i+1,b) T.mo},_,b) (by simp[xQ,<-Nat.add_assoc]) rfl ⟨au,?_,⟨A,X,o⟩,Z,by simp[aY];omega,.inl AL,J⟩ au⟩
     refine s.mark V (by rw[o];exact F) U (.inl C) (bU (by rw[aY];omega)) ?_ λj hj j2 jb=>?_
     .rw[aA aa,bU (cU p),A,o,D,G,<-B5,jE];rfl
     .rw[aA aa,aA aa]
  .simp[-aj,hi,W,hC,Wg,ao.kQ,↓Ei,P,R,tT,hz]
   refine⟨T,s,⟨A,X,o⟩,hle,?_⟩;have:S.n.kH w S.cs=qe:=by rw[hap,ae hz]
   unfold E9;rw[this,ad hz]
 .have ek:d+i=S.cs.length:=by omega
  have e0:S.n.kH w S.cs=0:=by
   have:=he
   rwa [ek,eZ (bd _)]at this
  have H:d+i ≠ 0:=aa
  have M:xQ (d+i) b = .sl b (d+i) 0 (d+i):=ad H;have C:nO w T.mo=some (d+i,b):=by
   rcases z with z|⟨z,e,_⟩
   .exact z
   .exact absurd e H
  have p:=s.r _ (sr C);dsimp only at p;have qF:(S.n.kI S.cs w).length=d+i:=by simp[ao.kI];omega
  rw[A,o,eZ aa]at p
  have hb:bytesOf (((S.n.kI S.cs w).map (AV.ik 4)).take (d+i))=some (fg (S.n.kI S.cs w)):=by
   rw[eZ ax]
   refine CU λx hx=>?_;obtain⟨c,_,rfl⟩:=cx.1 hx;unfold ao.Wf;split<;>omega
  simp[-aj,hi,M,p,qF,hb];exact⟨T,s,⟨A,X,o⟩,hle,by unfold E9;rw[ae e0]⟩
end Ab
namespace Ab
attribute [local simp] oC
def mG (O:Nat->Option al) (b:Nat) (B:al):Nat->Option al:=λi=>if i=b then some B else O i
variable{S:Lg}{O:Nat->Option al}{σ:List al}
def LM.add(h:LM S O σ) (B:al):LM S (mG O σ.length B) (σ ++ [B]):=by
 refine⟨sf h.l,sf h.m,sf h.c,λe he=>sf (h.r e he),h.le,h.ok,h.nd,h.nb,h.Ba,h.xI,λi A hA=>?_⟩;unfold mG at hA;split at hA
 .rename_i hi
  simp at hA;subst hA hi;have h2:=cU h.m;have h3:=cU h.l;have h4:=cU h.c;refine⟨jn rfl,aa,aa,aa,λe he=>?_⟩
  have:=cU (h.r e he);omega
 .obtain⟨h1,h2⟩:=h.o i A hA
  exact⟨sf h1,h2⟩
def LM.tz{b:Nat}{A:al}(h:LM S (mG O b A) σ) (B:al):LM S (mG O b B) (ar σ b B):=by
 have hb:=h.o b A (ae rfl);have N:∀{i C},aq σ i=some C->i ≠ b->aq (ar σ b B) i=some C:=λq hi=>by rw[aA (Ne.symm hi)];exact q
 refine⟨N h.l (Ne.symm hb.2.2.1),N h.m (Ne.symm hb.2.1),N h.c (Ne.symm hb.2.2.2.1),λe he=>N (h.r e he) (hb.2.2.2.2 e he),h.le,h.ok,h.nd,h.nb,h.Ba,h.xI,λi C hC=>?_⟩;unfold mG at hC;split at hC
 .rename_i hi
  simp at hC;subst hC hi;exact⟨bU (cU hb.1),hb.2⟩
 .rename_i hi
  obtain⟨h1,h2⟩:=h.o i C (by unfold mG;rw[ad hi];exact hC)
  exact⟨N h1 hi,h2⟩
def LM.sub{O O' : Nat->Option al}(h:LM S O σ) (ho:∀i B,O' i=some B->O i=some B):LM S O' σ:=⟨h.l,h.m,h.c,h.r,h.le,h.ok,h.nd,h.nb,h.Ba,h.xI,λi B hB=>h.o i B (ho i B hB)⟩
structure Lg.Ok (S:Lg):Prop where
 ok:S.n.Ok
 fits:S.n.fits
 cs:∀c∈S.cs,D8 c
 cl:1<=S.cs.length/\S.cs.length<=1000
 ws:∀w∈S.ws,dG w/\w.length<=4000
 wl:S.ws.length<=128
 nd:(S.ws.map (S.n.kI S.cs)).Nodup
variable{T:Lg}
def bR.ok(h:bR S T) (o:S.Ok):T.Ok:=by
 obtain⟨h1,h2,h3⟩:=h;exact⟨by rw[h1];exact o.ok,by rw[h1];exact o.fits,by rw[h3];exact o.cs,by rw[h3];exact o.cl,by rw[h2];exact o.ws,by rw[h2];exact o.wl,by rw[h1,h2,h3];exact o.nd⟩
def bR.trans{U:Lg}(h:bR S T) (g:bR T U):bR S U:=⟨g.1.trans h.1,g.2.1.trans h.2.1,g.2.2.trans h.2.2⟩
def Lg.row (S:Lg) (w:List Int):List Int:=S.n.kI S.cs w
def Lg.p6 (S:Lg):List (List Int)->Int
 | []=>0
 |w::l=>if S.n.kH w S.cs ≠ 0 then S.n.kH w S.cs else S.p6 l
def L6{S:Lg}{w:List Int}:∀{l m:List (List Int)},S.p6 l=0->S.p6 (l++w::m)=if S.n.kH w S.cs ≠ 0 then S.n.kH w S.cs else S.p6 m
 | [],_,_=>rfl
 |d::l,m,h=>by
  simp only[Lg.p6]at h
  by_cases e:S.n.kH d S.cs=0
  .rw[ad ft]at h
   show(if S.n.kH d S.cs ≠ 0 then S.n.kH d S.cs else S.p6 (l++w::m))=_
   rw[ad ft,L6 h]
  .rw[ae e]at h;exact absurd h e
def vu{n:ao}{cs:List (List Int×List Int)}{w:List Int}:dG (n.kI cs w):=λx a=>by
 obtain⟨c,_,rfl⟩:=cx.1 a;unfold ao.Wf;split<;>omega
def tU (S:Lg) (k:Nat):al:=⟨some 0,[],.map (rb 0 ((S.ws.take k).map S.row))⟩
def WW(h:LM S O σ) (A:S.Ok):LX L Cf [.ptr 3 13 0] σ (λr τ=>∃T,bR S T/\σ.length<=τ.length/\((S.p6 S.ws=0/\LM T (mG O σ.length (tU S S.ws.length)) τ/\r = .bM [.cP σ.length,.int 0])\/(S.p6 S.ws ≠ 0/\LM T O τ/\r = .bM [.qh,.int (S.p6 S.ws)]))):=by
 refine aj9 rfl ?_;have E:=λB=>sf (τ:=[B]) h.l;simp[-aj,E,ao.kQ];refine aK (λq:Nat×Lg×List al=>[(1,.int q.1)]) (λq=>q.2.2)
  (λq=>q.1<=S.ws.length/\LM q.2.1 (mG O σ.length (tU S q.1)) q.2.2/\bR S q.2.1/\σ.length<=q.2.2.length/\S.p6 (S.ws.take q.1)=0)
  (λq=>S.ws.length-q.1) (0,S,σ ++ [⟨some 0,[],.map []⟩]) aX ⟨ab,h.add _,⟨rfl,rfl,rfl⟩,ab,rfl⟩ ?_
 rintro⟨k,T,τ⟩ ⟨U,F,g,hle,p⟩;dsimp only at U F g hle p ⊢;have V:=A.wl
 by_cases s:k<S.ws.length
 .have a:=g.ok A
  have G:=aJ (l:=S.ws) (n:=(k:Int)) aa aa
  have H:=A.ws _ G;have d:S.ws.take (k+1)=S.ws.take k ++ [ix S.ws (k:Int)]:=by rw[gx s]
  have b:=L6 (S:=S) (w:=ix S.ws (k:Int)) (m:=[]) p;have u:=L6 (S:=S) (w:=ix S.ws (k:Int)) (m:=S.ws.drop (k+1)) p;rw[<-d]at b;rw[aB s,List.getElem_cons_drop,nm,<-aB s]at u;obtain⟨r,W, y,N, e, I, P, rfl⟩:=dd (L5 F a.fits a.cs a.cl.1 a.cl.2 (ix S.ws (k:Int)) H.1 aa)
  have z:=g.trans I;rw[g.1,g.2.2]at y
  by_cases j:S.n.kH (ix S.ws (k:Int)) S.cs=0
  .rw[show E9 S.n S.cs (ix S.ws (k:Int)) = .bM [.str (fg (S.row (ix S.ws (k:Int)))),.int 0]from ae j]at y
   have C:=(e.o σ.length _ (ae rfl)).1;have X:∀x∈(S.ws.take k).map S.row,dG x:=λx D=>by
    obtain⟨w,_,rfl⟩:=cx.1 D;exact vu
   have J:S.row (ix S.ws (k:Int))∉(S.ws.take k).map S.row:=λY=>by
    have Q:=A.nd;rw[<-List.take_append_drop (k+1) S.ws,d,jE,jE,rO]at Q;have:=Q.1;rw[rO]at this;exact this.2.2 _ Y _ (by simp[Lg.row]) rfl
   have R:=xg (l:=S.row (ix S.ws (k:Int))) vu 0 _ X;rw[ad J]at R;have K:∀x,ba 1 (.str x)=true:=λ_=>rfl;have Z:=De 0 ((S.ws.take k).map S.row) (S.row (ix S.ws (k:Int)));have M:tU S (k+1)=⟨some 0,[],.map (rb 0 ((S.ws.take k).map S.row) ++ [(.str (fg (S.row (ix S.ws (k:Int)))),.int (k:Int))])⟩:=by
    unfold tU;rw[d,jE,show[ix S.ws (k:Int)].map S.row=[S.row (ix S.ws (k:Int))]from rfl,Z];simp;omega
   simp[-aj,-List.map_take,s,y,C,tU,R,K];refine⟨aa,aD (k+1,N, _) ab rfl ⟨au,?_,z,by simp[aY];omega,by dsimp only;rw[b,if_neg (by simp[j])];rfl⟩ au⟩
   rw[<-M];exact e.tz _
  .rw[show E9 S.n S.cs (ix S.ws (k:Int)) = .bM [.str [],.int (S.n.kH (ix S.ws (k:Int)) S.cs)]from ad j]at y
   have D:S.p6 S.ws=S.n.kH (ix S.ws (k:Int)) S.cs:=by rw[u,ae j]
   simp[-aj,-List.map_take,s,y,j];refine⟨N, z,aa,by rw[D];exact j,e.sub λi B C=>?_,D.symm⟩
   have:=cU (h.o i B C).1;unfold mG;rw[ad aa]
   exact C
 .have ek:k=S.ws.length:=by omega
  subst ek;rw[eZ (bd _)]at p;simp[-aj,p];exact⟨T,g,hle,F⟩
end Ab
namespace Ab
attribute [local simp] oC
def ao.rk (n:ao) (w:List Int) (k:Nat):List (List Int):=(List.range k).map λ(i:Nat)=>w ++ [n.calls+(i:Int)]
def ao.p7 (n:ao) (w:List Int) (c:Int) (x:List Int) (k:Nat):List (List Int):=(List.range k).map λ(r:Nat)=>w++c::(x ++ [n.calls+n.ak+(r:Int)])
def ao.nR (n:ao) (w:List Int) (c:Int) (xs:List (List Int)):List (List Int):=xs.flatMap λx=>n.p7 w c x n.ah.toNat
def ao.p8 (n:ao) (w:List Int) (xs:List (List Int)) (k:Nat):List (List Int):=(List.range k).flatMap λ(c:Nat)=>n.nR w (c:Int) xs
def ao.iT (n:ao) (xs:List (List Int)) (ws:List (List Int)):List (List Int):=ws.flatMap λw=>n.rk w n.ak.toNat++n.p8 w xs n.calls.toNat
variable{n:ao}{w:List Int}{k:Nat}
def WX:n.rk w (k+1)=n.rk w k ++ [w ++ [n.calls+(k:Int)]]:=by simp[ao.rk,jh]
variable{x:List Int}{c:Int}
def WY:n.p7 w c x (k+1)=n.p7 w c x k ++ [w++c::(x ++ [n.calls+n.ak+(k:Int)])]:=by simp[ao.p7,jh]
variable{xs:List (List Int)}
def WZ:n.nR w c (xs ++ [x])=n.nR w c xs++n.p7 w c x n.ah.toNat:=by simp[ao.nR]
def Fi:n.p8 w xs (k+1)=n.p8 w xs k++n.nR w (k:Int) xs:=by simp[ao.p8,jh]
variable{ws:List (List Int)}
def W0:n.iT xs (ws ++ [w])=n.iT xs ws++(n.rk w n.ak.toNat++n.p8 w xs n.calls.toNat):=by simp[ao.iT]
def apC{i:Nat}(h:i<=k):(n.p8 w xs i).length<=(n.p8 w xs k).length:=by
 induction h with
 |refl=>exact bd _
 |step _ a=>rw[Fi,aU];omega
def apD{m:Nat}:(n.nR w c (xs.take m)).length<=(n.nR w c xs).length:=by
 have e:n.nR w c xs=n.nR w c (xs.take m)++n.nR w c (xs.drop m):=by
  unfold ao.nR;rw[<-List.flatMap_append,nm]
 rw[e,aU];omega
variable{σ:List al}
def apE{vars:List AV}{i:Option (Nat×AV)}{Q:Ex->St->Prop}(l:nth vars k = .sl σ.length ws.length 0 ws.length) (h:∀q,Q .eQ ⟨eu vars k (.aF q (ws.map iL)),i,σ ++ [⟨none,ws.map iL,.dead⟩]⟩):W L (.ji k) ⟨vars,i,σ ++ [mA ws]⟩ Q:=by
 generalize e:mA ws=B;have m:=jn (B:=B) (rfl:σ.length=σ.length);have n:reach (σ ++ [B]) vd (.sl σ.length ws.length 0 ws.length) []=[σ.length]:=by
  show reach (σ ++ [B]) (11+1) (.sl σ.length ws.length 0 ws.length) []=[σ.length];unfold reach;simp only[m];rw[ad ab,<-e]
  exact S8 ws [σ.length]
 have g:aq (bG (λb=>!([σ.length]:List Nat).contains b) 0 (σ ++ [B])) σ.length=some (mA ws):=by
  rw[lL,m,e];simp
 have a:bG (λb=>([σ.length]:List Nat).contains b) 0 (σ ++ [B])=σ ++ [⟨B.k,B.cells,.dead⟩]:=by
  rw[Vx,Vw λj r s=>ax]
  congr 1
  simp[bG]
 have o:=al8 g;have d:(⟨B.k,B.cells,.dead⟩:al)=⟨none,ws.map iL,.dead⟩:=by rw[<-e]
 cases p:eE (σ ++ [B]) (.sl σ.length ws.length 0 ws.length)with
 |true=>
  refine⟨0,.eQ,_,?_,h true⟩;simp only[exec,l,n,o,p,a,d]
  rfl
 |false=>
  refine⟨0,.eQ,_,?_,h false⟩;simp only[exec,l,n,o,p,a,d]
  rfl
variable{S:Lg}{O:Nat->Option al}
def LM.ext{τ:List al}(h:LM S O σ) (he:∀i B,aq σ i=some B->aq τ i=some B):LM S O τ:=⟨he _ _ h.l,he _ _ h.m,he _ _ h.c,λe hx=>he _ _ (h.r e hx),h.le,h.ok,h.nd,h.nb,h.Ba,h.xI,λi B hB=>⟨he _ _ (h.o i B hB).1,(h.o i B hB).2⟩⟩
def apF(h:LM S O σ) (o:S.Ok) (Z:((S.n.iT S.ws S.ws).length:Int)<=1000000) (hf:pH (S.n.iT S.ws S.ws)):LX L HE [.ptr 3 13 0] σ (λr τ=>LM S O τ/\σ.length<=τ.length/\r=b8 (gJ (S.n.iT S.ws S.ws))):=by
 refine akf rfl ?_;have d:=λB:al=>(h.add B).l;have KP:=o.wl;obtain⟨Mi,wN⟩:=o.ok.calls;obtain⟨hi1,hi2⟩:=o.ok.ak;obtain⟨Ew,Mv⟩:=o.ok.ah;simp[-aj,d,ao.kQ];refine aK (λk:Nat=>[(1,.int k),(6,.sl σ.length (S.n.iT S.ws (S.ws.take k)).length 0 (S.n.iT S.ws (S.ws.take k)).length)]) (λk=>σ ++ [mA (S.n.iT S.ws (S.ws.take k))])
  (λk=>k<=S.ws.length) (λk=>S.ws.length-k) 0 (by simp[du,ao.iT]) aa ?_
 have hle:∀k,k<=S.ws.length->(S.n.iT S.ws (S.ws.take k)).length<=1000000:=λk _=>by
  have e:S.n.iT S.ws S.ws=S.n.iT S.ws (S.ws.take k)++S.n.iT S.ws (S.ws.drop k):=by
   unfold ao.iT;rw[<-List.flatMap_append,nm]
  rw[e,aU]at Z;omega
 intro k k0
 by_cases hk:k<S.ws.length
 .have J:S.ws.take (k+1)=S.ws.take k ++ [ix S.ws (k:Int)]:=by rw[gx hk]
  generalize hA:S.n.iT S.ws (S.ws.take k)=A at *;have C:∀B,aq (σ ++ [B]) σ.length=some B:=λB=>jn rfl;have D:∀A B,ar (σ ++ [A]) σ.length B=σ ++ [B]:=λA B=>aok rfl;have hww:=o.ws _ (aJ (l:=S.ws) (n:=(k:Int)) aa aa)
  have a:S.n.iT S.ws (S.ws.take (k+1))=A++(S.n.rk (ix S.ws (k:Int)) S.n.ak.toNat++S.n.p8 (ix S.ws (k:Int)) S.ws S.n.calls.toNat):=by rw[J,W0,hA]
  have b:=hle (k+1) aa
  rw[a]at b;generalize hw:ix S.ws (k:Int)=w at *;simp[-aj,-List.map_take,hk,d,ao.kQ,hw];refine aK (λi:Nat=>[(4,.int i),(6,.sl σ.length (A++S.n.rk w i).length 0 (A++S.n.rk w i).length)]) (λi=>σ ++ [mA (A++S.n.rk w i)]) (λi=>(i:Int)<=S.n.ak) (λi=>(S.n.ak-i).toNat) 0 (by simp[du,ao.rk]) aa ?_
  intro i i0
  by_cases K:(i:Int)<S.n.ak
  .have M:=λB=>Wh (h.add B) o.ok w i aa K aa
   have OC:(A++S.n.rk w i).length<=1000000:=by
    simp only[aU,ao.rk,dA,ou]at b ⊢;omega
   have F:=WX (n:=S.n) (w:=w) (k:=i);have ea:A++S.n.rk w (i+1)=(A++S.n.rk w i) ++ [w ++ [S.n.calls+(i:Int)]]:=by rw[F,gZ]
   have el:A.length+(S.n.rk w (i+1)).length=(A++S.n.rk w i).length+1:=by rw[F];simp;omega
   generalize N:A++S.n.rk w i=B at *;simp[-aj,K,M,C,D];refine⟨dE,aa,aa,aD (i+1) (by simp[el]) (by rw[ea];simp) aa aa⟩
  .have ei:i=S.n.ak.toNat:=by omega
   rw[<-ei]at b a;have aqK:(A++S.n.rk w i).length+(S.n.p8 w S.ws S.n.calls.toNat).length<=1000000:=by
    rw[aU,aU]at b;rw[aU];omega
   have s:S.n.iT S.ws (S.ws.take (k+1))=(A++S.n.rk w i)++S.n.p8 w S.ws S.n.calls.toNat:=by rw[a,gZ]
   generalize hA2:A++S.n.rk w i=g at *;simp[-aj,K,d,ao.kQ];refine aK (λc:Nat=>[(9,.int c),(6,.sl σ.length (g++S.n.p8 w S.ws c).length 0 (g++S.n.p8 w S.ws c).length)]) (λc=>σ ++ [mA (g++S.n.p8 w S.ws c)]) (λc=>(c:Int)<=S.n.calls) (λc=>(S.n.calls-c).toNat) 0 (by simp[du,ao.p8]) aa ?_
   intro c c0
   by_cases P:(c:Int)<S.n.calls
   .have Q:=Fi (n:=S.n) (w:=w) (xs:=S.ws) (k:=c)
    have u:g++S.n.p8 w S.ws (c+1)=(g++S.n.p8 w S.ws c)++S.n.nR w (c:Int) S.ws:=by rw[Q,gZ]
    have G:g.length+(S.n.p8 w S.ws (c+1)).length=((g++S.n.p8 w S.ws c)++S.n.nR w (c:Int) S.ws).length:=by rw[<-u,aU]
    have R:((g++S.n.p8 w S.ws c)++S.n.nR w (c:Int) S.ws).length<=1000000:=by
     have:(S.n.p8 w S.ws (c+1)).length<=(S.n.p8 w S.ws S.n.calls.toNat).length:=apC aa
     rw[<-u,aU];omega
    generalize hA3:g++S.n.p8 w S.ws c=p at *;have H :=R;rw[aU]at H G;simp[-aj,P,d,ao.kQ];refine aK (λm:Nat=>[(11,.int m),(6,.sl σ.length (p++S.n.nR w c (S.ws.take m)).length 0 (p++S.n.nR w c (S.ws.take m)).length)]) (λm=>σ ++ [mA (p++S.n.nR w c (S.ws.take m))]) (λm=>m<=S.ws.length) (λm=>S.ws.length-m) 0 (by simp[du,ao.nR]) aa ?_
    intro m m0
    by_cases hm:m<S.ws.length
    .have T:S.ws.take (m+1)=S.ws.take m ++ [ix S.ws (m:Int)]:=by rw[gx hm]
     have vW:=o.ws _ (aJ (l:=S.ws) (n:=(m:Int)) aa aa)
     have U:S.n.nR w c (S.ws.take (m+1))=S.n.nR w c (S.ws.take m)++S.n.p7 w c (ix S.ws (m:Int)) S.n.ah.toNat:=by rw[T,WZ]
     have ER:(S.n.nR w c (S.ws.take (m+1))).length<=(S.n.nR w c S.ws).length:=apD;generalize hx:ix S.ws (m:Int)=x at *;have y:p++S.n.nR w c (S.ws.take (m+1))=(p++S.n.nR w c (S.ws.take m))++S.n.p7 w c x S.n.ah.toNat:=by rw[U,gZ]
     have z:p.length+(S.n.nR w c (S.ws.take (m+1))).length=(p++S.n.nR w c (S.ws.take m)).length+(S.n.p7 w c x S.n.ah.toNat).length:=by rw[<-List.length_append,y,aU]
     generalize hA4:p++S.n.nR w c (S.ws.take m)=j at *;simp[-aj,-List.map_take,hm,d,ao.kQ,hx];refine aK (λr:Nat=>[(14,.int r),(6,.sl σ.length (j++S.n.p7 w c x r).length 0 (j++S.n.p7 w c x r).length)]) (λr=>σ ++ [mA (j++S.n.p7 w c x r)]) (λr=>(r:Int)<=S.n.ah) (λr=>(S.n.ah-r).toNat) 0 (by simp[du,ao.p7]) aa ?_
     intro r r0
     by_cases V:(r:Int)<S.n.ah
     .have W:=λB=>Wi (h.add B) o.ok w x c r aa P aa V aa aa
      have X:=WY (n:=S.n) (w:=w) (x:=x) (c:=c) (k:=r);have I:j++S.n.p7 w c x (r+1)=(j++S.n.p7 w c x r) ++ [w++(c:Int)::(x ++ [S.n.calls+S.n.ak+(r:Int)])]:=by rw[X,gZ]
      have Y:j.length+(S.n.p7 w c x (r+1)).length=(j++S.n.p7 w c x r).length+1:=by rw[<-List.length_append,I];simp;omega
      have Ye:(j++S.n.p7 w c x r).length<1000000:=by
       have e1:(S.n.p7 w c x S.n.ah.toNat).length=S.n.ah.toNat:=by simp[ao.p7]
       have e2:(S.n.p7 w c x r).length=r:=by simp[ao.p7]
       rw[aU,e2];rw[e1]at z;omega
      generalize N:j++S.n.p7 w c x r=B at *;simp[-aj,V,W,C,D];refine⟨dE,aa,aa,aD (r+1) (by simp[Y]) (by rw[I];simp) aa aa⟩
     .have er:r=S.n.ah.toNat:=by omega
      rw[<-er]at y z;simp[-aj,-List.map_take,V];refine⟨aa,aD (m+1) (by simp[z]) (by rw[y]) aa aa⟩
    .have em:m=S.ws.length:=by omega
     subst em;simp[-aj,-List.map_take];refine⟨aa,aD (c+1) (by simp[G]) (by rw[u]) aa aa⟩
   .have ec:c=S.n.calls.toNat:=by omega
    rw[<-ec]at s;simp[-aj,-List.map_take,P];refine⟨aa,aD (k+1) (by simp[-List.map_take,s]) (by rw[s]) aa aa⟩
 .have ek:k=S.ws.length:=by omega
  subst ek;rw[eZ (bd _)];generalize hE:S.n.iT S.ws S.ws=E at *;have hS:=T5 E Z hf;simp[-aj];refine apE rfl λq=>?_;simp[hS];exact h.ext λi B N=>sf N
end Ab
namespace Ab
attribute [local simp] oC
def Lg.pP (S:Lg):List (List Int)->AV
 | []=>.bM [.ag,.bool false,.int 0]
 |w::l=>if S.n.kH w S.cs ≠ 0 then .bM [.ag,.bool false,.int (S.n.kH w S.cs)]else if S.row w∈S.ws.map S.row then S.pP l else .bM [iL w,.bool true,.int 0]
def Lg.wg (S:Lg):AV:=if S.p6 S.ws ≠ 0 then .bM [.ag,.bool false,.int (S.p6 S.ws)]else S.pP (gJ (S.n.iT S.ws S.ws))
def W1{S:Lg}{O:Nat->Option al}{σ:List al}(h:LM S O σ) (K:S.Ok) (hz:((S.n.iT S.ws S.ws).length:Int)<=1000000) (hf:pH (S.n.iT S.ws S.ws)) (M:∀w∈gJ (S.n.iT S.ws S.ws),dG w/\w.length<=10000) (Xu:(gJ (S.n.iT S.ws S.ws)).length<=1000000):LX L Hd [.ptr 3 13 0] σ (λr τ=>∃T,bR S T/\LM T O τ/\σ.length<=τ.length/\r=S.wg):=by
 refine aj7 rfl ?_;obtain⟨r,τ,hc,T,A,hle,hr⟩:=dd (WW h K);rcases hr with⟨I,N,rfl⟩|⟨I,N,rfl⟩
 .have P:=A.ok K
  have g:S.wg=S.pP (gJ (S.n.iT S.ws S.ws)):=by unfold Lg.wg;rw[ad (by simp[I])]
  have Q:T.n.iT T.ws T.ws=S.n.iT S.ws S.ws:=by rw[A.1,A.2.1]
  obtain⟨r,R,C,V,FB,rfl⟩:=dd (apF N P (by rw[Q];exact hz) (by rw[Q];exact hf))
  rw[Q]at C;generalize gJ (S.n.iT S.ws S.ws)=E at *;simp[-aj,hc,C];refine aK (λq:Nat×Lg×List al=>[(2,.int q.1)]) (λq=>q.2.2) (λq=>q.1<=E.length/\LM q.2.1 (mG O σ.length (tU S S.ws.length)) q.2.2/\bR S q.2.1/\σ.length<=q.2.2.length/\S.pP E=S.pP (E.drop q.1)) (λq=>E.length-q.1) (0,T,R) aX ⟨ab,V,A,au,rfl⟩ ?_
  rintro⟨k,U,υ⟩ ⟨k0,W,b,D,a⟩;dsimp only at k0 W b D a ⊢
  by_cases F:k<E.length
  .have j:=b.ok K
   have X:=M _ (aJ (l:=E) (n:=(k:Int)) aa aa)
   obtain⟨r,G, d,J, y, Y, jL, rfl⟩:=dd (L5 W j.fits j.cs j.cl.1 j.cl.2 (ix E (k:Int)) X.1 aa)
   rw[b.1,b.2.2]at d;have z:=b.trans Y;have hd:E.drop k=ix E (k:Int)::E.drop (k+1):=by rw[aB F,List.getElem_cons_drop]
   rw[hd]at a;have u:LM J O G :=y.sub λi B m=>by
    have:=cU (h.o i B m).1;unfold mG;rw[ad aa]
    exact m
   by_cases e:S.n.kH (ix E (k:Int)) S.cs=0
   .rw[show E9 S.n S.cs (ix E (k:Int)) = .bM [.str (fg (S.row (ix E (k:Int)))),.int 0]from ae e]at d
    have m:=(y.o σ.length _ (ae rfl)).1;have hK:∀x∈S.ws.map S.row,dG x:=λx M=>by
     obtain⟨w,_,rfl⟩:=cx.1 M;exact vu
    have p:=xg (l:=S.row (ix E (k:Int))) vu 0 _ hK;have H:∀x,ba 1 (.str x)=true:=λ_=>rfl;have Z:tU S S.ws.length=⟨some 0,[],.map (rb 0 (S.ws.map S.row))⟩:=by
     unfold tU;rw[eZ (bd _)]
    rw[Z]at m
    by_cases s:S.row (ix E (k:Int))∈S.ws.map S.row
    .rw[ae s]at p
     simp[-aj,-List.mem_map,F,d,m,p,H];refine⟨aa,aD (k+1,J, G) ab rfl ⟨au,y, z,au,?_⟩ au⟩
     dsimp only;rw[a];show(if _ then _ else _)=_
     rw[ad ft,ae s]
    .rw[ad s]at p
     simp[-aj,-List.mem_map,F,d,m,p,H];refine⟨J, z,u,aa,?_⟩
     rw[g,a];show _=(if _ then _ else _)
     rw[ad ft,ad s]
   .rw[show E9 S.n S.cs (ix E (k:Int)) = .bM [.str [],.int (S.n.kH (ix E (k:Int)) S.cs)]from ad e]at d
    simp[-aj,F,d,e];refine⟨J, z,u,aa,?_⟩
    rw[g,a];show _=(if _ then _ else _)
    rw[ae e]
  .rw[jY aa]at a
   simp[-aj,F];refine⟨U,b,W.sub λi B m=>?_,D,?_⟩
   .have:=cU (h.o i B m).1
    unfold mG;rw[ad aa]
    exact m
   .rw[g,a];rfl
 .simp[-aj,hc,I]
  exact⟨T,A,N,hle,by unfold Lg.wg;rw[ae I]⟩
end Ab
namespace Ab
attribute [local simp] oC
structure Lg.Fit (S:Lg):Prop where
 ok:S.Ok
 hz:((S.n.iT S.ws S.ws).length:Int)<=1000000
 hf:pH (S.n.iT S.ws S.ws)
 hx:∀w∈gJ (S.n.iT S.ws S.ws),dG w/\w.length<=10000
 hl:(gJ (S.n.iT S.ws S.ws)).length<=1000000
def Lg.put (S:Lg) (w:List Int):Lg:={S with ws:=gJ (S.ws ++ [w])}
inductive Cm (E:Lg):Nat->Lg->Prop
 |done (S:Lg):S.Fit->S.wg = .bM [.ag,.bool false,.int 0]->bR S E->Cm E 0 S
 |step (k:Nat) (S:Lg) (w:List Int):S.Fit->S.wg = .bM [iL w,.bool true,.int 0]->w.length<=10000->S.ws.length+1<=128->((S.ws.length:Int)+1)*S.n.calls<=128->Cm E k (S.put w)->Cm E (k+1) S
variable{S T:Lg}
def bR.symm(h:bR S T):bR T S:=⟨h.1.symm,h.2.1.symm,h.2.2.symm⟩
def bR.p6(h:bR S T):∀l,T.p6 l=S.p6 l
 | []=>rfl
 |w::l=>by simp only[Lg.p6,h.1,h.2.2,h.p6 l]
def bR.row(h:bR S T):T.row=S.row:=by unfold Lg.row;rw[h.1,h.2.2]
def bR.pP(h:bR S T):∀l,T.pP l=S.pP l
 | []=>rfl
 |w::l=>by simp only[Lg.pP,h.1,h.2.1,h.2.2,h.row,h.pP l]
def bR.wg(h:bR S T):T.wg=S.wg:=by
 unfold Lg.wg;rw[h.pP,h.1,h.2.1,h.p6]
def bR.fit(h:bR S T) (g:S.Fit):T.Fit:=⟨h.ok g.ok,by rw[h.1,h.2.1];exact g.hz,by rw[h.1,h.2.1];exact g.hf,by rw[h.1,h.2.1];exact g.hx,by rw[h.1,h.2.1];exact g.hl⟩
variable{E:Lg}{k:Nat}
def Cm.same(h:Cm E k S):∀{T:Lg},bR S T->Cm E k T:=by
 induction h with
 |done S hf hm hs=>exact λg=>.done _ (g.fit hf) (by rw[g.wg];exact hm) (g.symm.trans hs)
 |step k S w hf hm hw h1 h2 _ ih=>exact fun {T} g=>.step k T w (g.fit hf) (by rw[g.wg];exact hm) hw (by rw[g.2.1];exact h1) (by rw[g.1,g.2.1];exact h2) (ih ⟨g.1,by unfold Lg.put;rw[g.2.1],g.2.2⟩)
variable{O:Nat->Option al}{σ:List al}
def LM.words{τ:List al}(h:LM S O σ) (ws:List (List Int))
  (hl:aq τ 3=some ⟨some 13,S.n.kQ ++ [b8 ws,.sl S.pc (2*S.cs.length) 0 S.cs.length,.cP 2],.live⟩)
  (ho:∀i,i ≠ 3->aq τ i=aq σ i):LM {S with ws:=ws} O τ:=
 ⟨hl,by rw[ho 2 aa];exact h.m,by rw[show({S with ws:=ws}:Lg).pc=S.pc from rfl,ho _ h.Ba.2];exact h.c,λe he=>by rw[ho _ (h.xI e he).2.1];exact h.r e he,h.le,h.ok,h.nd,h.nb,h.Ba,h.xI,λi B hB=>by
  obtain⟨h1,h2,h3,h4⟩:=h.o i B hB;exact⟨by rw[ho i h3];exact h1,h2,h3,h4⟩⟩
def apG(h:LM S O σ) (C:Cm E k S):LX L JK [.ptr 3 13 0] σ (λr τ=>∃T,bR T E/\LM T O τ/\σ.length<=τ.length/\r = .int 0):=by
 refine ajP rfl ?_;simp[-aj];refine aK (λq:Nat×Lg×List al=>[]) (λq=>q.2.2) (λq=>LM q.2.1 O q.2.2/\Cm E q.1 q.2.1/\σ.length<=q.2.2.length) (λq=>q.1) (k,S,σ) aX ⟨h,C,bd _⟩ ?_
 rintro⟨j,T,τ⟩ ⟨s,e,u⟩;dsimp only at s e u ⊢;cases e with
 |done _ b x D=>
  obtain⟨r,y, d,U,a,g,z,rfl⟩:=dd (W1 s b.ok b.hz b.hf b.hx b.hl);rw[x]at d;simp[-aj,d];exact⟨U,a.symm.trans D,g,aa⟩
 |step k _ w b x M N F G=>
  obtain⟨r,y, d,U,a,g,z,rfl⟩:=dd (W1 s b.ok b.hz b.hf b.hx b.hl);rw[x]at d;have B:=g.l;rw[a.1,a.2.1,a.2.2]at B;have m:=aoM [T.ws,[w]] ab (by simp[kP];omega) (by
   intro v p;simp[kP]at p;rcases p with p|rfl
   .have:=(b.ok.ws v p).2;omega
   .omega)
  have A:kP [T.ws,[w]]=T.ws ++ [w]:=by simp[kP]
  rw[A]at m;obtain⟨H,P⟩:=b.ok.ok.calls;have o : PC Cc [.aF false [.aF false (T.ws.map iL),.aF false [.aF false (w.map .int)]]]=some (b8 (gJ (T.ws ++ [w]))):=m;have Q:0<=((T.ws.length:Int)+1)*T.n.calls:=Int.mul_nonneg aa H
  have I:=az F;have J:=az (show(T.ws.length:Int)+1<=128 by omega)
  simp[-aj,d,B,ao.kQ,o, I,J];refine⟨aa,aa,aD (k,U.put w,_) ab rfl ⟨g.words _ (by rw[a.1,a.2.1,a.2.2];exact bU (cU g.l)) λi K=>aA (Ne.symm K),G.same ⟨a.1,by unfold Lg.put;rw[a.2.1],a.2.2⟩,rM⟩ au⟩
end Ab
namespace Ab
structure Ej where
 n:ao
 k:Nat
 fa:Nat->Bool
 fi:Nat->Nat->Int
 fq:Nat->Nat->Nat->Int
def Ej.qq (F:Ej) (i g r:Nat):Int:=if F.n.calls.toNat=0 then 0 else F.fq i g r
structure Hs (F:Ej) (a s J G R:Nat) (A:ao):Prop where
 h1:A.calls=F.n.calls
 h2:A.ak=F.n.ak
 h3:A.ah=F.n.ah
 h4:A.stack=((F.n.aE F.k:Nat):Int)
 h5:A.start=0
 h6:A.call=(F.n.dT F.k F.k).call
 h7:A.push=(F.n.dT F.k F.k).push
 la:A.accept.length=F.k
 li:A.inner.length=F.k
 qG:∀i,i<F.k->(A.cE .aQ i).length=F.n.ak.toNat
 lp:A.pop.length=F.k
 nK:∀i,i<F.k->(A.bD i).length=F.n.aE F.k
 qH:∀i g,i<F.k->g<F.n.aE F.k->(A.cH i g).length=F.n.ah.toNat
 ac:∀i:Nat,i<F.k->ix A.accept (i:Int)=if i<a then F.fa i else false
 aQ:∀i j:Nat,i<F.k->j<F.n.ak.toNat->ix (A.cE .aQ i) (j:Int)=if i<s\/i=s/\j<J then F.fi i j else 0
 pop:∀i g r:Nat,i<F.k->g<F.n.aE F.k->r<F.n.ah.toNat->ix (A.cH i g) (r:Int)=if i<s\/i=s/\(g<G\/g=G/\r<R)then F.qq i g r else 0
variable{F:Ej}
def apH:Hs F 0 0 0 0 0 (F.n.dT F.k F.k):=by
 refine⟨rfl,rfl,rfl,rfl,rfl,rfl,rfl,by simp[ao.dT],by simp[ao.dT],λi a=>by rw[KW a];rfl,nJ,λi a=>by rw[(kZ a).2.2.2];simp,λi g a b=>by rw[u9 a b];simp,λi a=>?_,λi j a d=>?_,λi g r a b e=>?_⟩
 .rw[ad aa];exact lQ a
 .rw[ad aa,(kZ a).2.2.1];exact lQ d
 .rw[ad aa,u9 a b];exact lQ e
variable{a s J R:Nat}{A:ao}
def Hs.bV{G:Nat}(h:Hs F a s J G R A) (hk:F.k ≠ 0) (p:Tn->Nat):A.bV p=[.int F.n.calls,.int F.n.ak,.int F.n.ah,.int ((F.n.aE F.k:Nat):Int),.int 0,.sl (p .ac) F.k 0 F.k,.sl (p (.ls .cl)) F.k 0 F.k,.sl (p (.ls .ps)) F.k 0 F.k,.sl (p (.ls .aQ)) F.k 0 F.k,.sl (p .po) F.k 0 F.k]:=by
 have e1:A.call.length=F.k:=by rw[h.h6];exact nI .cl
 have e2:A.push.length=F.k:=by rw[h.h7];exact nI .ps
 unfold ao.bV cu;rw[h.h1,h.h2,h.h3,h.h4,h.h5,h.la,e1,e2,h.li,h.lp,ad hk,ad hk,ad hk,ad hk]
def Hs.nE{G:Nat}(h:Hs F s s J G R A) (hs:s<F.k):Hs F (s+1) s J G R {A with accept:=A.accept.set s (F.fa s)}:=by
 refine⟨h.h1,h.h2,h.h3,h.h4,h.h5,h.h6,h.h7,by simp[h.la],h.li,h.qG,h.lp,h.nK,h.qH,λi hi=>?_,h.aQ,h.pop⟩
 show ix (A.accept.set s _) (i:Int)=_;rw[jm (by rw[h.la];exact hs)]
 by_cases e:i=s
 .rw[ae e,ae aa,e]
 .rw[ad e,h.ac i hi]
  by_cases e2:i<s
  .rw[ae e2,ae aa]
  .rw[ad e2,ad aa]
def Hs.nG{G:Nat}(h:Hs F a s J G R A) (hs:s<F.k) (hJ:J<F.n.ak.toNat):Hs F a s (J+1) G R {A with inner:=A.inner.set s ((A.cE .aQ s).set J (F.fi s J))}:=by
 have gV:∀s' : Nat,ao.cE {A with inner:=A.inner.set s ((A.cE .aQ s).set J (F.fi s J))} .aQ s' = if s' = s then(A.cE .aQ s).set J (F.fi s J)else A.cE .aQ s' :=λs' =>jm (by rw[h.li];exact hs) s'
 refine⟨h.h1,h.h2,h.h3,h.h4,h.h5,h.h6,h.h7,h.la,by simp[h.li],λi hi=>?_,h.lp,h.nK,h.qH,h.ac,λi j hi hj=>?_,h.pop⟩
 .rw[gV]
  split
  .rw[ox];exact h.qG s hs
  .exact h.qG i hi
 .rw[gV]
  by_cases e:i=s
  .rw[ae e,jm (by rw[h.qG s hs];exact hJ)]
   by_cases e2:j=J
   .rw[ae e2,ae (.inr ⟨e,aa⟩),e,e2]
   .subst e
    rw[ad e2,h.aQ i j hi hj]
    by_cases e3:j<J
    .rw[ae (.inr ⟨rfl,e3⟩),ae (.inr ⟨rfl,aa⟩)]
    .rw[ad aa,ad aa]
  .rw[ad e,h.aQ i j hi hj]
   by_cases e3:i<s
   .rw[ae (.inl e3),ae (.inl e3)]
   .rw[ad aa,ad aa]
def Hs.nH{G:Nat}(h:Hs F a s J G R A) (hs:s<F.k) (hG:G<F.n.aE F.k) (hR:R<F.n.ah.toNat):Hs F a s J G (R+1) {A with pop:=A.pop.set s ((A.bD s).set G ((A.cH s G).set R (F.qq s G R)))}:=by
 have gV:∀s' : Nat,ao.bD {A with pop:=A.pop.set s ((A.bD s).set G ((A.cH s G).set R (F.qq s G R)))} s' = if s' = s then(A.bD s).set G ((A.cH s G).set R (F.qq s G R))else A.bD s' :=λs' =>jm (by rw[h.lp];exact hs) s'
 have pJ:∀s' g' : Nat,ao.cH {A with pop:=A.pop.set s ((A.bD s).set G ((A.cH s G).set R (F.qq s G R)))} s' g' = if s' = s/\g' = G then(A.cH s G).set R (F.qq s G R)else A.cH s' g' :=λs' g' =>by
  generalize (A.cH s G).set R (F.qq s G R)=w at *;unfold ao.cH;rw[gV]
  by_cases e:s' = s
  .rw[ae e,jm (by rw[h.nK s hs];exact hG)]
   by_cases e2:g' = G
   .rw[ae e2,ae ⟨e,e2⟩]
   .rw[ad e2,ad λa=>e2 a.2,e]
  .rw[ad e,ad λa=>e a.1]
 refine⟨h.h1,h.h2,h.h3,h.h4,h.h5,h.h6,h.h7,h.la,h.li,h.qG,by simp[h.lp],λi hi=>?_,λi g hi hg=>?_,h.ac,h.aQ,λi g r hi hg hr=>?_⟩
 .rw[gV]
  split
  .rw[ox];exact h.nK s hs
  .exact h.nK i hi
 .rw[pJ]
  split
  .rw[ox];exact h.qH s G hs hG
  .exact h.qH i g hi hg
 .rw[pJ]
  by_cases e:i=s/\g=G
  .rw[ae e,jm (by rw[h.qH s G hs hG];exact hR)]
   by_cases e2:r=R
   .rw[ae e2,ae (.inr ⟨e.1,.inr ⟨e.2,aa⟩⟩),e.1,e.2,e2]
   .have hp:=h.pop s G r hs hG hr
    rw[ad e2,hp,e.1,e.2]
    by_cases e3:r<R
    .rw[ae (.inr ⟨rfl,.inr ⟨rfl,e3⟩⟩),ae (.inr ⟨rfl,.inr ⟨rfl,aa⟩⟩)]
    .rw[ad aa,ad aa]
  .rw[ad e,h.pop i g r hi hg hr]
   by_cases e3:i<s\/i=s/\(g<G\/g=G/\r<R)
   .rw[ae e3,ae aa]
   .rw[ad e3,ad aa]
def Hs.Aq{G:Nat}(h:Hs F a s J G F.n.ah.toNat A):Hs F a s J (G+1) 0 A:=by
 refine⟨h.h1,h.h2,h.h3,h.h4,h.h5,h.h6,h.h7,h.la,h.li,h.qG,h.lp,h.nK,h.qH,h.ac,h.aQ,λi g r hi hg hr=>?_⟩;rw[h.pop i g r hi hg hr]
 by_cases e3:i<s\/i=s/\(g<G\/g=G/\r<F.n.ah.toNat)
 .rw[ae e3,ae aa]
 .rw[ad e3,ad aa]
def Hs.Ar(h:Hs F (s+1) s F.n.ak.toNat (F.k*F.n.calls.toNat) 0 A):Hs F (s+1) (s+1) 0 0 0 A:=by
 refine⟨h.h1,h.h2,h.h3,h.h4,h.h5,h.h6,h.h7,h.la,h.li,h.qG,h.lp,h.nK,h.qH,h.ac,λi j hi hj=>?_,λi g r hi hg hr=>?_⟩
 .rw[h.aQ i j hi hj]
  by_cases e3:i<s\/i=s/\j<F.n.ak.toNat
  .rw[ae e3,ae aa]
  .rw[ad e3,ad aa]
 .rw[h.pop i g r hi hg hr]
  by_cases hc:F.n.calls.toNat=0
  .have:F.qq i g r=0:=ae hc
   rw[this];simp
  .have gG:F.n.aE F.k=max 1 (F.k*F.n.calls.toNat):=rfl
   have:1<=F.k*F.n.calls.toNat:=Nat.mul_pos aa aa
   by_cases e3:i<s\/i=s/\(g<F.k*F.n.calls.toNat\/g=F.k*F.n.calls.toNat/\r<0)
   .rw[ae e3,ae aa]
   .rw[ad e3,ad aa]
def Ej.oR (F:Ej):ao:=⟨F.n.calls,F.n.ak,F.n.ah,((F.n.aE F.k:Nat):Int),0,(List.range F.k).map λi=>F.fa i,(F.n.dT F.k F.k).call,(F.n.dT F.k F.k).push,(List.range F.k).map λi=>(List.range F.n.ak.toNat).map λj=>F.fi i j,(List.range F.k).map λi=>(List.range (F.n.aE F.k)).map λg=>(List.range F.n.ah.toNat).map λr=>F.qq i g r⟩
def Hs.fin(h:Hs F F.k F.k 0 0 0 A):A=F.oR:=by
 obtain⟨c,i,r,sk,s0,ac,cl,ps,aQ,po⟩:=A;have e1:c=F.n.calls:=h.h1;have e2:i=F.n.ak:=h.h2;have e3:r=F.n.ah:=h.h3;have e4:sk=((F.n.aE F.k:Nat):Int):=h.h4;have e5:s0=0:=h.h5;have e6:cl=(F.n.dT F.k F.k).call:=h.h6;have e7:ps=(F.n.dT F.k F.k).push:=h.h7;have e8:ac=(List.range F.k).map λi=>F.fa i:=oJ h.la λi hi=>by
  have:=h.ac i hi;rw[ae hi]at this;exact this
 have e9:aQ=(List.range F.k).map λi=>(List.range F.n.ak.toNat).map λj=>F.fi i j:=oJ h.li λi hi=>oJ (h.qG i hi) λj hj=>by
  have:=h.aQ i j hi hj;rw[ae (.inl hi)]at this;exact this
 have e10:po=(List.range F.k).map λi=>(List.range (F.n.aE F.k)).map λg=>(List.range F.n.ah.toNat).map λr=>F.qq i g r:=oJ h.lp λi hi=>oJ (h.nK i hi) λg hg=>oJ (h.qH i g hi hg) λr hr=>by
  have:=h.pop i g r hi hg hr;rw[ae (.inl hi)]at this;exact this
 rw[e1,e2,e3,e4,e5,e6,e7,e8,e9,e10];rfl
attribute [local simp] oC
open Classical in
noncomputable def pQ (a:Nat->Prop) (σ:List al):Nat->Option al:=λi=>if a i then aq σ i else none
def kJ (S:Lg) (N i:Nat):Prop:=i<N/\i ≠ 2/\i ≠ 3/\i ≠ S.pc/\∀e∈S.mo,e.2.2 ≠ i
variable{Dm:Nat->Prop}{σ:List al}{i:Nat}{B:al}
def tV:pQ Dm σ i=some B↔Dm i/\aq σ i=some B:=by
 unfold pQ;split
 .rename_i h;simp[h]
 .rename_i h;simp[h]
variable{S:Lg}
def LM.dom{O:Nat->Option al}(h:LM S O σ) (N:Nat):LM S (pQ (kJ S N) σ) σ:=
 ⟨h.l,h.m,h.c,h.r,h.le,h.ok,h.nd,h.nb,h.Ba,h.xI,λi B hB=>⟨(tV.1 hB).2,(tV.1 hB).1.2⟩⟩
def LM.old{S:Lg}{O:Nat->Option al}{σ:List al}(h:LM S O σ){i:Nat}{B:al}(hB:O i=some B):kJ S σ.length i:=⟨cU (h.o i B hB).1,(h.o i B hB).2⟩
variable{T:Lg}{τ:List al}
def LM.goD(h:LM T (pQ Dm σ) τ) (hd:∀i,Dm i->i<σ.length):(∀i B,Dm i->aq σ i=some B->aq τ i=some B)/\LM T (pQ Dm τ) τ:=by
 have h1:∀i B,Dm i->aq σ i=some B->aq τ i=some B:=λi B hi hB=>(h.o i B (tV.2 ⟨hi,hB⟩)).1;refine⟨h1,h.l,h.m,h.c,h.r,h.le,h.ok,h.nd,h.nb,h.Ba,h.xI,λi B hB=>?_⟩;obtain⟨hi,hB⟩:=tV.1 hB;have hl:=hd i hi;obtain⟨C,hC⟩:∃C,aq σ i=some C:=⟨σ[i],by rw[bE];exact db hl⟩
 exact⟨hB,(h.o i C (tV.2 ⟨hi,hC⟩)).2⟩
variable{j:Nat}
def LM.L7(h:LM T (pQ Dm σ) σ) (hj:Dm j) (hl:j<σ.length):LM T (pQ Dm (ar σ j B)) (ar σ j B):=by
 obtain⟨C,hC⟩:∃C,aq σ j=some C:=⟨σ[j],by rw[bE];exact db hl⟩
 have e:pQ Dm σ=mG (pQ Dm σ) j C:=by
  funext i
  unfold mG;split
  .rename_i hi;subst hi;exact tV.2 ⟨hj,hC⟩
  .rfl
 rw[e]at h;have:=h.tz B;refine this.sub λi D hD=>?_;obtain⟨hi,hD⟩:=tV.1 hD;unfold mG
 by_cases q:i=j
 .subst q
  rw[bU hl]at hD;rw[ae rfl];exact hD
 .rw[aA (Ne.symm q)]at hD
  rw[ad q];exact tV.2 ⟨hi,hD⟩
structure HI (F:Ej) (S:Lg) (O0:Nat->Option al) (Dm:Nat->Prop) (d b sm r0:Nat) (A:ao) (T:Lg) (τ:List al):Prop where
 lm:LM T (pQ Dm τ) τ
 sa:bR S T
 as:AS A (λt=>fp (F.n.aE F.k) t+d) τ
 bx:aq τ b=some ⟨some 10,[.int F.n.calls,.int F.n.ak,.int F.n.ah,.int ((F.n.aE F.k:Nat):Int),.int 0,.sl (1+d) F.k 0 F.k,.sl (6+F.n.aE F.k+d) F.k 0 F.k,.sl (7+F.n.aE F.k+d) F.k 0 F.k,.sl (9+F.n.aE F.k+d) F.k 0 F.k,.sl (10+F.n.aE F.k+d) F.k 0 F.k],.live⟩
 st:aq τ sm=some (tU S S.ws.length)
 rz:aq τ r0=some ⟨some 10,[.int 0,.int 0,.int 0,.int 0,.int 0,.ag,.ag,.ag,.ag,.ag],.live⟩
 ol:∀i B,O0 i=some B->aq τ i=some B
 ln:b<τ.length
structure HD (O0:Nat->Option al) (Dm:Nat->Prop) (d b sm r0:Nat):Prop where
 fr:∀i,d<=i->i<=b->Dm i
 s:Dm sm/\sm<d
 r:Dm r0/\r0<d
 o:∀i B,O0 i=some B->Dm i/\i<d
 up:∀i,Dm i->i<=b
variable{O0:Nat->Option al}{d b sm r0:Nat}{w:List Int}
def HI.row(h:HI F S O0 Dm d b sm r0 A T τ) (hd:HD O0 Dm d b sm r0) (ho:S.Ok) (MT:d<=b) (hA:∀t B,A.cont (λt=>fp (F.n.aE F.k) t+d) t=some B->fp (F.n.aE F.k) t+d<b)(hw:dG w) (hl:w.length<=10000) (hz:S.n.kH w S.cs=0):∃T' Yf, L tm [.ptr 3 13 0,iL w] τ=some (.bM [.str (fg (S.row w)),.int 0],Yf)/\HI F S O0 Dm d b sm r0 A T' Yf :=by
 have Yg:=h.sa.ok ho;obtain⟨r,Yf, hc,T', hT', j8, aqL, rfl⟩:=dd (L5 h.lm Yg.fits Yg.cs Yg.cl.1 Yg.cl.2 w hw hl);rw[h.sa.1,h.sa.2.2,show E9 S.n S.cs w = .bM [.str (fg (S.row w)),.int 0]from ae hz]at hc;have hln:=h.ln;obtain⟨g1,g2⟩:=hT'.goD λi hi=>by have:=hd.up i hi;omega
 refine⟨T', Yf, hc,g2,h.sa.trans j8, h.as.other λt B hB=>?_,g1 _ _ (hd.fr b MT (bd _)) h.bx,g1 _ _ hd.s.1 h.st,g1 _ _ hd.r.1 h.rz,λi B hB=>g1 _ _ (hd.o i B hB).1 (h.ol i B hB),aa⟩
 have h1:=hA t B hB;have h2:=h.as.has t B hB;rw[h2];exact g1 _ _ (hd.fr _ aa aa) h2
def HI.set{A A' : ao}(h:HI F S O0 Dm d b sm r0 A T τ) (hd:HD O0 Dm d b sm r0)(j0:d<=j) (j1:j<b) (ha:AS A' (λt=>fp (F.n.aE F.k) t+d) (ar τ j B)):HI F S O0 Dm d b sm r0 A' T (ar τ j B):=by
 have hln:=h.ln;have h1:=hd.s.2;have h2:=hd.r.2;exact⟨h.lm.L7 (hd.fr j j0 aa) aa,h.sa,ha,by rw[aA aa];exact h.bx,by rw[aA aa];exact h.st,by rw[aA aa];exact h.rz,λi C hC=>by rw[aA (by have:=(hd.o i C hC).2;omega)];exact h.ol i C hC,by rw[aY];exact hln⟩
def Hs.dom{G:Nat}(h:Hs F a s J G R A){p:Tn->Nat}{t:Tn}(hB:A.cont p t=some B):∃C,(F.n.dT F.k F.k).cont p t=some C:=by
 have EL:∀q,(A.tb q).length=F.k:=λq=>by
  cases q
  .rw[show A.tb .cl=A.call from rfl,h.h6];exact nI .cl
  .rw[show A.tb .ps=A.push from rfl,h.h7];exact nI .ps
  .exact h.li
 cases t with
 |ac=>exact⟨_,rfl⟩
 |ls q=>
  refine⟨_,ad λe=>?_⟩;have h1:=nI (n:=F.n) (k:=F.k) (s:=F.k) q;rw[e]at h1;have:A.tb q=[]:=dY (by rw[EL,<-h1];rfl)
  have hB:(if A.tb q=[]then none else some _)=some B:=hB
  rw[ae this]at hB;simp at hB
 |po=>
  refine⟨_,ad λe=>?_⟩;have h1:=nJ (n:=F.n) (k:=F.k) (s:=F.k);rw[e]at h1;have:A.pop=[]:=dY (by rw[h.lp,<-h1];rfl)
  have hB:(if A.pop=[]then none else some _)=some B:=hB
  rw[ae this]at hB;simp at hB
 |rw q i=>
  refine⟨_,ae ?_⟩;rw[nI];have hB:(if i<(A.tb q).length then some _ else none)=some B:=hB
  rw[EL]at hB;exact dF λe=>by rw[ad e]at hB;simp at hB
 |pr i=>
  refine⟨_,ae ?_⟩;rw[nJ];have hB:(if i<A.pop.length then some _ else none)=some B:=hB
  rw[h.lp]at hB;exact dF λe=>by rw[ad e]at hB;simp at hB
 |pg i g=>
  have hB:(if i<A.pop.length/\g<(A.bD i).length then some _ else none)=some B:=hB
  have W2:i<A.pop.length/\g<(A.bD i).length:=dF λe=>by rw[ad e]at hB;simp at hB
  rw[h.lp]at W2;have h2:=W2.2;rw[h.nK i W2.1]at h2;refine⟨_,ae ⟨by rw[nJ];exact W2.1,?_⟩⟩
  rw[(kZ W2.1).2.2.2];simpa using h2
def apI{G:Nat}(h:AS A (λt=>fp (F.n.aE F.k) t+d) σ) (b:Hs F a s J G R A) (g:F.k ≠ 0):aq σ (9+F.n.aE F.k+d)=some ⟨none,(List.range F.k).map λi=>iA (fp (F.n.aE F.k) (.rw .aQ i)+d) F.n.ak.toNat,.live⟩:=by
 have:=h.has (.ls .aQ) _ (ad λe=>by have:=b.li;rw[show A.inner=[]from e]at this;exact g this.symm)
 rw[show aq σ (9+F.n.aE F.k+d)=_ from this];rw[show(A.tb .aQ).length=F.k from b.li]
 congr 2
 exact eM λi j=>by rw[b.qG i (bQ.1 j)]
def apJ{G:Nat}(h:AS A (λt=>fp (F.n.aE F.k) t+d) σ) (b:Hs F a s J G R A) (g:F.k ≠ 0):aq σ (10+F.n.aE F.k+d)=some ⟨none,(List.range F.k).map λi=>iA (fp (F.n.aE F.k) (.pr i)+d) (F.n.aE F.k),.live⟩:=by
 have:=h.has .po _ (ad λe=>by have:=b.lp;rw[e]at this;exact g this.symm)
 rw[show aq σ (10+F.n.aE F.k+d)=_ from this];rw[b.lp]
 congr 2
 exact eM λi j=>by rw[b.nK i (bQ.1 j)]
def apK{G:Nat}(h:AS A (λt=>fp (F.n.aE F.k) t+d) σ) (b:Hs F a s J G R A)(e:i<F.k):aq σ (fp (F.n.aE F.k) (.pr i)+d)=some ⟨none,(List.range (F.n.aE F.k)).map λg=>iA (fp (F.n.aE F.k) (.pg i g)+d) F.n.ah.toNat,.live⟩:=by
 have:=h.has (.pr i) _ (ae (by rw[b.lp];exact e))
 rw[this,b.nK i e]
 congr 2
 exact eM λg j=>by rw[b.qH i g e (bQ.1 j)]
variable{n:ao}{xs ws:List (List Int)}
def apL(a:w∈ws)(b:(i:Int)<n.ak):w ++ [n.calls+(i:Int)]∈n.iT xs ws:=by
 unfold ao.iT;refine mW.2 ⟨w,a,cY.2 (.inl ?_)⟩;exact cx.2 ⟨i,bQ.2 aa,rfl⟩
variable{x:List Int}{c r:Nat}
def apM(a:w∈ws) (b:x∈xs)(d:(c:Int)<n.calls) (e:(r:Int)<n.ah):w++(c:Int)::(x ++ [n.calls+n.ak+(r:Int)])∈n.iT xs ws:=by
 unfold ao.iT;refine mW.2 ⟨w,a,cY.2 (.inr ?_)⟩;refine mW.2 ⟨c,bQ.2 aa,mW.2 ⟨x,b,cx.2 ⟨r,bQ.2 aa,rfl⟩⟩⟩
def apN(a:n.Ok)(b:dG w)(e:(i:Int)<n.ak):dG (w ++ [n.calls+(i:Int)]):=λx d=>by
 have g:=a.calls;have j:=a.ak;rcases cY.1 d with h|h
 .exact b x h
 .simp at h;subst h;omega
def apO(a:n.Ok)(b:dG w) (d:dG x)(g:(c:Int)<n.calls) (i:(r:Int)<n.ah):dG (w++(c:Int)::(x ++ [n.calls+n.ak+(r:Int)])):=λy e=>by
 have j:=a.calls;have l:=a.ak;have m:=a.ah;rcases cY.1 e with h|h
 .exact b y h
 .rcases b5.1 h with h|h
  .omega
  .rcases cY.1 h with h|h
   .exact d y h
   .simp at h;omega
end Ab
namespace Ab
attribute [local simp] oC
def Lg.Ek (S:Lg) (w:List Int):Int:=((S.ws.map S.row).idxOf (S.row w):Nat)
def Lg.wd (S:Lg) (i:Nat):List Int:=ix S.ws (i:Int)
noncomputable def Lg.tg (S:Lg):Ej:=⟨S.n,S.ws.length,λi=>(ix (S.row (S.wd i)) 0==43),λi j=>S.Ek (S.wd i ++ [S.n.calls+(j:Int)]),λi g r=>S.Ek (S.wd (g/S.n.calls.toNat)++((g%S.n.calls.toNat:Nat):Int)::(S.wd i ++ [S.n.calls+S.n.ak+(r:Int)]))⟩
variable{S:Lg}
theorem pR:S.tg.k=S.ws.length:=rfl
theorem qP:S.tg.n=S.n:=rfl
abbrev kK:al:=⟨some 10,[.int 0,.int 0,.int 0,.int 0,.int 0,.ag,.ag,.ag,.ag,.ag],.live⟩
def HyP (S:Lg) (O:Nat->Option al) (σ:List al) (r:AV) (τ:List al):Prop:=∃T p a,bR S T/\LM T (pQ a τ) τ/\(∀i B,O i=some B->a i/\aq τ i=some B)/\AS S.tg.oR p τ/\(∀t B,S.tg.oR.cont p t=some B->a (p t)/\σ.length<p t/\p t<τ.length)/\r = .bM [.agg (S.tg.oR.bV p),.int 0]
def apP{O:Nat->Option al}{σ:List al}(h:LM S O σ) (Q:S.Ok) (SG:1<=S.ws.length) (Ap:S.ws.length*S.n.calls.toNat<=128) (he0:S.p6 S.ws=0) (hws:∀w∈S.ws,S.n.kH w S.cs=0)
  (jx:∀w∈S.n.iT S.ws S.ws,S.n.kH w S.cs=0/\S.row w∈S.ws.map S.row):LX L JL [.ptr 3 13 0] σ (HyP S O σ):=by
 refine ajQ rfl ?_;obtain⟨r,b,hc,T,hs,hle,hr⟩:=dd (WW (h.add kK) Q);obtain⟨hT,rfl⟩:LM T (mG (mG O σ.length kK) (σ ++ [kK]).length (tU S S.ws.length)) b/\r = .bM [.cP (σ ++ [kK]).length,.int 0]:=by
  rcases hr with⟨_,hT,e⟩|⟨he,_,_⟩
  .exact⟨hT,e⟩
  .exact absurd he0 he
 have KP:=Q.wl;have hL:=hT.l;rw[hs.1,hs.2.1,hs.2.2]at hL;have W3:(σ ++ [kK]).length=σ.length+1:=ab
 rw[W3]at hc hT hle;obtain⟨rv,W4,hF,UK,hA⟩:=dd (UI S.n Q.ok S.ws.length aa Ap)
 have UL:=apH (F:=S.tg);have sZ:S.tg.k ≠ 0:=by show S.ws.length ≠ 0;omega
 have ss:(S.n.dT S.ws.length S.ws.length).bV (fp (S.n.aE S.ws.length))=[.int S.n.calls,.int S.n.ak,.int S.n.ah,.int ((S.n.aE S.ws.length:Nat):Int),.int 0,.sl 1 S.ws.length 0 S.ws.length,.sl (6+S.n.aE S.ws.length) S.ws.length 0 S.ws.length,.sl (7+S.n.aE S.ws.length) S.ws.length 0 S.ws.length,.sl (9+S.n.aE S.ws.length) S.ws.length 0 S.ws.length,.sl (10+S.n.aE S.ws.length) S.ws.length 0 S.ws.length]:=UL.bV sZ _;rw[ss]at UK;subst UK;have UM : L w5 [.agg [.int S.n.calls,.int S.n.ak,.int S.n.ah,.int S.n.stack,.int S.n.start,.aF false (S.n.accept.map .bool),.aF false (S.n.call.map iL),.aF false (S.n.push.map iL),.aF false (S.n.inner.map iL),.aF false (S.n.pop.map b8)],.int S.ws.length] []=some (.agg [.int S.n.calls,.int S.n.ak,.int S.n.ah,.int ((S.n.aE S.ws.length:Nat):Int),.int 0,.sl 1 S.ws.length 0 S.ws.length,.sl (6+S.n.aE S.ws.length) S.ws.length 0 S.ws.length,.sl (7+S.n.aE S.ws.length) S.ws.length 0 S.ws.length,.sl (9+S.n.aE S.ws.length) S.ws.length 0 S.ws.length,.sl (10+S.n.aE S.ws.length) S.ws.length 0 S.ws.length],W4):=hF;have KS:=hA.shift b;obtain⟨d,P⟩:∃s,b++W4.map (gH b.length)=s:=⟨_,rfl⟩;have e1:∀Y:List al,b++(W4.map (gH b.length)++Y)=d++Y:=λY=>by rw[<-P,gZ]
 have e2:b.length+W4.length=d.length:=by rw[<-P];simp
 have e3:(b++W4.map (gH b.length)).length=d.length:=by rw[P]
 have eb:∀Y:al,aq (d ++ [Y]) d.length=some Y:=λY=>gU;have es:∀Y Z:al,ar (d ++ [Y]) d.length Z=d ++ [Z]:=λY Z=>Ao;have hA1:AS (S.n.dT S.ws.length S.ws.length) (λt=>fp (S.n.aE S.ws.length) t+b.length) d:=by rw[<-P];exact KS
 have hLs:∀Y,aq (d++Y) 3=aq b 3:=λY=>by rw[<-P,gZ,dH (cU hL)]
 simp[-aj,-List.map_replicate,hc,hL,ao.kQ,UM, js,kL,e1,e2,e3,eb,es,hLs]
 -- what is kept
 have Yh:∀i B,(mG (mG O σ.length kK) (σ.length+1) (tU S S.ws.length)) i=some B->kJ T (d.length+1) i/\i<b.length:=λi B I=>by
  have h1:=hT.old I;exact⟨⟨by have:=h1.1;omega,h1.2⟩,h1.1⟩
 have hLo:∀i,O i=none\/i<σ.length:=λi=>by
  cases e:O i with
  |none=>exact .inl rfl
  |some B=>exact .inr (cU (h.o i B e).1)
 have hOO:∀i B,O i=some B->(mG (mG O σ.length kK) (σ.length+1) (tU S S.ws.length)) i=some B:=λi B I=>by
  have:=cU (h.o i B I).1;unfold mG;rw[ad aa,ad aa];exact I
 have hOs:(mG (mG O σ.length kK) (σ.length+1) (tU S S.ws.length)) (σ.length+1)=some (tU S S.ws.length):=ae rfl;have hOr:(mG (mG O σ.length kK) (σ.length+1) (tU S S.ws.length)) σ.length=some kK:=by
  unfold mG;rw[ad aa,ae rfl]
 have hD:HD O (kJ T (d.length+1)) b.length d.length (σ.length+1) σ.length:=by
  refine⟨λi i0 i1=>⟨aa,?_,?_,?_,λe he=>?_⟩,Yh _ _ hOs,Yh _ _ hOr,λi B I=>Yh _ _ (hOO i B I),λi hi=>by have:=hi.1;omega⟩
  .have:=cU hT.m;omega
  .have:=cU hT.l;omega
  .have:=cU hT.c;omega
  .have:=cU (hT.r e he);omega
 have sb:∀{a s J G R:Nat} {A:ao},Hs S.tg a s J G R A->∀t B,A.cont (λt=>fp (S.tg.n.aE S.tg.k) t+b.length) t=some B->fp (S.tg.n.aE S.tg.k) t+b.length<d.length:=λhs t B I=>by
  obtain⟨C,hC⟩:=hs.dom I;exact hA1.lt hC
 have MT:b.length<=d.length:=aa
 have X8:HI S.tg S O (kJ T (d.length+1)) b.length d.length (σ.length+1) σ.length (S.tg.n.dT S.tg.k S.tg.k) T (d ++ [⟨some 10,[.int S.n.calls,.int S.n.ak,.int S.n.ah,.int ((S.n.aE S.ws.length:Nat):Int),.int 0,.sl (1+b.length) S.ws.length 0 S.ws.length,.sl (6+S.n.aE S.ws.length+b.length) S.ws.length 0 S.ws.length,.sl (7+S.n.aE S.ws.length+b.length) S.ws.length 0 S.ws.length,.sl (9+S.n.aE S.ws.length+b.length) S.ws.length 0 S.ws.length,.sl (10+S.n.aE S.ws.length+b.length) S.ws.length 0 S.ws.length],.live⟩]):=by
  have hex:∀i B,aq b i=some B->∀Y,aq (d++Y) i=some B:=λi B I Y=>by
   rw[<-P,gZ,dH (cU I)];exact I
  exact⟨(hT.ext λi B I=>hex i B I _).dom _,hs,hA1.other λt B I=>dH (hA1.lt I),gU,hex _ _ (hT.o _ _ hOs).1 _,hex _ _ (hT.o _ _ hOr).1 _,λi B I=>hex _ _ (hT.o _ _ (hOO i B I)).1 _,ab⟩
 refine aK (λq:Nat×ao×Lg×List al=>[(3,.int q.1)]) (λq=>q.2.2.2) (λq=>q.1<=S.ws.length/\Hs S.tg q.1 q.1 0 0 0 q.2.1/\HI S.tg S O (kJ T (d.length+1)) b.length d.length (σ.length+1) σ.length q.2.1 q.2.2.1 q.2.2.2) (λq=>S.ws.length-q.1) (0,S.tg.n.dT S.tg.k S.tg.k,T,_) aX ⟨ab,UL,X8⟩ ?_
 clear X8 es eb e1 e2 e3 hLs hF UM KS hL hc Yh hOO hOs hOr;rintro⟨s,A,U,υ⟩ ⟨s0,hH,hI⟩;dsimp only at s0 hH hI ⊢
 by_cases u:s<S.ws.length
 .have MU:=aJ (l:=S.ws) (n:=(s:Int)) aa aa
  obtain⟨U1,υ1,Mi,M⟩:=hI.row hD Q MT (sb hH) (Q.ws _ MU).1 (by have:=(Q.ws _ MU).2;omega) (hws _ MU)
  have YR:∀K,si1 (.str (fg (S.row (ix S.ws (s:Int))))) (.int 0) K=K (.ik 4 (ix (S.row (ix S.ws (s:Int))) 0)):=λK=>by
   have hlr:(S.row (ix S.ws (s:Int))).length=S.cs.length:=by simp[Lg.row,ao.kI]
   have aqM:=Q.cl.1;have h0:0<(S.row (ix S.ws (s:Int))).length:=aa
   have hb:=vu (n:=S.n) (cs:=S.cs) (w:=ix S.ws (s:Int)) _ (aJ (l:=S.row (ix S.ws (s:Int))) (n:=0) aa aa)
   rw[GH];have e:(fg (S.row (ix S.ws (s:Int))))[(0:Int).toNat]? = some (UInt8.ofNat (ix (S.row (ix S.ws (s:Int))) 0).toNat):=by
    unfold fg;rw[iv];have:(S.row (ix S.ws (s:Int)))[(0:Int).toNat]? = some (ix (S.row (ix S.ws (s:Int))) 0):=by
     rw[show((0:Int))=((0:Nat):Int)from rfl,aB h0];exact db h0
    rw[this];rfl
   rw[e];simp only[aS,Int.le_refl,true_and];rw[Wb hb.1 hb.2]
  have uL:=M.bx;have hL1:=M.lm.l;rw[M.sa.1,M.sa.2.1,M.sa.2.2]at hL1;have A7:=M.as.has .ac _ rfl;rw[show fp (S.tg.n.aE S.tg.k) .ac+b.length=1+b.length from rfl]at A7;have UO:=hH.la;simp only[pR,qP]at uL UO;have apQ:=M.ln;have Bd:∀B,aq (ar υ1 (1+b.length) B) 3=aq υ1 3:=λB=>by
   have:=cU hT.l;exact aA aa
  simp[-aj,-List.map_replicate,u,Mi,↓YR,uL,A7,UO,Bd,hL1,ao.kQ];have hp1:1+b.length<d.length:=sb hH .ac _ rfl;have hH1:=hH.nE (by rw[pR];exact u)
  have y:=M.set hD (j:=1+b.length) aa hp1 (M.as.nE (l:=A.accept.set s (S.tg.fa s)))
  rw[o8]at y;have sO:=Q.ok.calls;have hii:=Q.ok.ak;have XL:=Q.ok.ah;have hwS:=Q.ws _ MU;have hfk:∀v,cL (rb 0 (S.ws.map S.row)) (.str (fg (S.row v)))=some (if S.row v∈S.ws.map S.row then some (.int (S.Ek v))else none):=λv=>by
   have:=xg (l:=S.row v) vu 0 (S.ws.map S.row) λx hx=>by
    obtain⟨w,_,rfl⟩:=cx.1 hx;exact vu
   rw[this];simp[Lg.Ek]
  have hkf:∀x,ba 1 (.str x)=true:=λ_=>rfl;have W5:tU S S.ws.length=⟨some 0,[],.map (rb 0 (S.ws.map S.row))⟩:=by
   unfold tU;rw[eZ (bd _)]
  have e2:ix (List.range S.ws.length) (s:Int)=s:=by rw[aB (by simpa using u)];simp
  have e3:ix (List.range S.ws.length) (0+(s:Int)*1)=s:=by rw[<-e2];congr 1;omega
  refine aK (λq:Nat×ao×Lg×List al=>[(11,.int q.1)]) (λq=>q.2.2.2) (λq=>q.1<=S.n.ak.toNat/\Hs S.tg (s+1) s q.1 0 0 q.2.1/\HI S.tg S O (kJ T (d.length+1)) b.length d.length (σ.length+1) σ.length q.2.1 q.2.2.1 q.2.2.2) (λq=>S.n.ak.toNat-q.1) (0,_,U1,_) (by simp[du];rfl) ⟨ab,hH1,y⟩ ?_
  clear y M hL1 Bd uL A7 UO apQ Mi hI hH hH1;rintro⟨j,A2,U2,υ2⟩ ⟨j0,E,y⟩;dsimp only at j0 E y ⊢
  by_cases hj:j<S.n.ak.toNat
  .have FZ:(j:Int)<S.n.ak:=by omega
   have N8:=az FZ;have hbh:=Wh y.lm (by rw[y.sa.1];exact Q.ok) (ix S.ws (s:Int)) j aa (by rw[y.sa.1];exact FZ) aa
   rw[y.sa.1]at hbh;have hm:=jx _ (apL (xs:=S.ws) MU FZ);obtain⟨U3,υ3,hc3,z⟩:=y.row hD Q MT (sb E) (apN Q.ok hwS.1 FZ) ax hm.1
   have W:=hfk (ix S.ws (s:Int) ++ [S.n.calls+(j:Int)]);rw[ae hm.2]at W;have hb3:=z.bx;have hs3:=z.st;rw[W5]at hs3;have KZ:=apI z.as E sZ;have Di:=z.as.has (.rw .aQ s) _ (ae (by rw[show(A2.tb .aQ).length=S.ws.length from E.li];exact u))
   have qF:=E.qG s u;simp only[pR,qP]at hb3 KZ Di qF;generalize hV:ix S.ws (s:Int) ++ [S.n.calls+(j:Int)]=V at *;simp[-aj,-List.map_replicate,N8,hbh,hV,hc3,hb3,hs3,KZ,u,e2,e3,Di,kF,W,hkf];have hp3:=sb E (.rw .aQ s) _ (ae (by rw[show(A2.tb .aQ).length=S.ws.length from E.li];exact u))
   have Xo:S.tg.fi s j=S.Ek V:=by
    show S.Ek (S.wd s ++ [S.n.calls+(j:Int)])=_;rw[<-hV];rfl
   have N:=z.set hD (j:=fp (S.tg.n.aE S.tg.k) (.rw .aQ s)+b.length) aa hp3 (z.as.nG (by rw[E.li];exact u) (l:=(A2.cE .aQ s).set j (S.tg.fi s j)) ab)
   have L8:=E.nG (by rw[pR];exact u) (by rw[qP];exact hj)
   refine⟨aa,qF,aa,aa,aD (j+1,_,U3,_) ab ?_ ⟨au,L8,N⟩ au⟩
   dsimp only;rw[Zb,List.map_set,Xo];rfl
  .have N8:=bX (show ¬(j:Int)<S.n.ak by omega)
   have ej:j=S.tg.n.ak.toNat:=by rw[qP];omega
   rw[ej]at E;have Bd:=y.lm.l;rw[y.sa.1,y.sa.2.1,y.sa.2.2]at Bd;simp[-aj,-List.map_replicate,N8,Bd,ao.kQ];refine aK (λq:Nat×ao×Lg×List al=>[(15,.int q.1)]) (λq=>q.2.2.2) (λq=>q.1<=S.ws.length/\Hs S.tg (s+1) s S.tg.n.ak.toNat (q.1*S.tg.n.calls.toNat) 0 q.2.1/\HI S.tg S O (kJ T (d.length+1)) b.length d.length (σ.length+1) σ.length q.2.1 q.2.2.1 q.2.2.2) (λq=>S.ws.length-q.1) (0,A2,U2,υ2) aX ⟨ab,by simpa using E,y⟩ ?_
   clear y Bd E;rintro⟨p,A3,U3,υ3⟩ ⟨p0,W6,z⟩;dsimp only at p0 W6 z ⊢
   by_cases hp:p<S.ws.length
   .have hwp:=aJ (l:=S.ws) (n:=(p:Int)) aa aa
    have hwP:=Q.ws _ hwp;have hL3:=z.lm.l;rw[z.sa.1,z.sa.2.1,z.sa.2.2]at hL3;simp[-aj,-List.map_replicate,hp,hL3,ao.kQ];refine aK (λq:Nat×ao×Lg×List al=>[(18,.int q.1)]) (λq=>q.2.2.2) (λq=>q.1<=S.n.calls.toNat/\Hs S.tg (s+1) s S.tg.n.ak.toNat (p*S.tg.n.calls.toNat+q.1) 0 q.2.1/\HI S.tg S O (kJ T (d.length+1)) b.length d.length (σ.length+1) σ.length q.2.1 q.2.2.1 q.2.2.2) (λq=>S.n.calls.toNat-q.1) (0,A3,U3,υ3) aX ⟨ab,W6,z⟩ ?_
    clear z hL3 W6;rintro⟨c,A4,U4,υ4⟩ ⟨c0,L8,N⟩;dsimp only at c0 L8 N ⊢
    by_cases hc:c<S.n.calls.toNat
    .have EZ:(c:Int)<S.n.calls:=by omega
     have hct:=az EZ;have hL4:=N.lm.l;rw[N.sa.1,N.sa.2.1,N.sa.2.2]at hL4;simp[-aj,-List.map_replicate,hct,hL4,ao.kQ];refine aK (λq:Nat×ao×Lg×List al=>[(20,.int q.1)]) (λq=>q.2.2.2) (λq=>q.1<=S.n.ah.toNat/\Hs S.tg (s+1) s S.tg.n.ak.toNat (p*S.tg.n.calls.toNat+c) q.1 q.2.1/\HI S.tg S O (kJ T (d.length+1)) b.length d.length (σ.length+1) σ.length q.2.1 q.2.2.1 q.2.2.2) (λq=>S.n.ah.toNat-q.1) (0,A4,U4,υ4) aX ⟨ab,L8,N⟩ ?_
     clear N hL4 L8;rintro⟨r,A5,U5,υ5⟩ ⟨r0,D,X⟩;dsimp only at r0 D X ⊢
     by_cases hr:r<S.n.ah.toNat
     .have E0:(r:Int)<S.n.ah:=by omega
      have SF:=az E0;have vV:=Wi X.lm (by rw[X.sa.1];exact Q.ok) (ix S.ws (p:Int)) (ix S.ws (s:Int)) c r aa (by rw[X.sa.1];exact EZ) aa (by rw[X.sa.1];exact E0) aa aa
      rw[X.sa.1]at vV;have hm:=jx _ (apM (xs:=S.ws) hwp MU EZ E0);obtain⟨U6,υ6,hc6,H⟩:=X.row hD Q MT (sb D) (apO Q.ok hwP.1 hwS.1 EZ E0) ax hm.1
      have W:=hfk (ix S.ws (p:Int)++(c:Int)::(ix S.ws (s:Int) ++ [S.n.calls+S.n.ak+(r:Int)]));rw[ae hm.2]at W;have hb6:=H.bx;have hs6:=H.st;have hL6:=H.lm.l;rw[H.sa.1,H.sa.2.1,H.sa.2.2]at hL6;rw[W5]at hs6;have EV:=apJ H.as D sZ;have DJ:=apK H.as D (i:=s) (by rw[pR];exact u)
      have hG:p*S.tg.n.calls.toNat+c<S.tg.n.aE S.tg.k:=by
       rw[qP,pR];have h1:p*S.n.calls.toNat+S.n.calls.toNat<=S.ws.length*S.n.calls.toNat:=rJ
       show _<max 1 (S.ws.length*S.n.calls.toNat);omega
      have hGi:(p:Int)*S.n.calls+(c:Int)=((p*S.n.calls.toNat+c:Nat):Int):=rK
      have Ae:S.n.aE S.ws.length<=128:=by show max 1 (S.ws.length*S.n.calls.toNat)<=128;omega
      have X0:=H.as.has (.pg s (p*S.tg.n.calls.toNat+c)) _ (ae ⟨by rw[D.lp];exact u,by rw[D.nK s u];exact hG⟩)
      have hp6:=sb D (.pg s (p*S.tg.n.calls.toNat+c)) _ (ae ⟨by rw[D.lp];exact u,by rw[D.nK s u];exact hG⟩)
      have W7:=D.qH s _ u hG;have Kk:0<=(p:Int)*S.n.calls/\(p:Int)*S.n.calls<=128:=by
       have e:(p:Int)*S.n.calls=((p*S.n.calls.toNat:Nat):Int):=o6
       have:p*S.tg.n.calls.toNat=p*S.n.calls.toNat:=rfl;have:S.tg.n.aE S.tg.k=S.n.aE S.ws.length:=rfl;omega
      have X1:S.tg.qq s (p*S.tg.n.calls.toNat+c) r=S.Ek (ix S.ws (p:Int)++(c:Int)::(ix S.ws (s:Int) ++ [S.n.calls+S.n.ak+(r:Int)])):=by
       unfold Ej.qq;rw[qP,ad aa]
       show S.Ek (S.wd ((p*S.n.calls.toNat+c)/S.n.calls.toNat)++(((p*S.n.calls.toNat+c)%S.n.calls.toNat:Nat):Int)::(S.wd s ++ [S.n.calls+S.n.ak+(r:Int)]))=_;rw[show(p*S.n.calls.toNat+c)/S.n.calls.toNat=p from by rw[mO,Nat.mul_add_div aa,Nat.div_eq_of_lt hc,kf],show(p*S.n.calls.toNat+c)%S.n.calls.toNat=c from by rw[mO,Nat.mul_add_mod,Nat.mod_eq_of_lt hc]]
       rfl
      have hH7:=D.nH (by rw[pR];exact u) hG (R:=r) (by rw[qP];exact hr)
      have hI7:=H.set hD (j:=fp (S.tg.n.aE S.tg.k) (.pg s (p*S.tg.n.calls.toNat+c))+b.length) aa hp6 (H.as.nH (by rw[D.lp];exact u) (by rw[D.nK s u];exact hG) (l:=(A5.cH s (p*S.tg.n.calls.toNat+c)).set r (S.tg.qq s (p*S.tg.n.calls.toNat+c) r)) ab)
      generalize hV:ix S.ws (p:Int)++(c:Int)::(ix S.ws (s:Int) ++ [S.n.calls+S.n.ak+(r:Int)])=V at *;simp only[pR,qP]at hb6 EV DJ X0 W7 hG hp6;have f2:ix (List.range (S.n.aE S.ws.length)) ((p*S.n.calls.toNat+c:Nat):Int)=p*S.n.calls.toNat+c:=by rw[aB (by simpa using hG)];simp
      rw[show S.tg.n.calls.toNat=S.n.calls.toNat from rfl]at hH7 hI7 X1;generalize Fg:p*S.n.calls.toNat+c=g at *;have f3:ix (List.range (S.n.aE S.ws.length)) (0+(g:Int)*1)=g:=by rw[<-f2];congr 1;rw[f2];omega
      simp[-aj,-List.map_replicate,SF,vV,hV,hc6,hb6,hs6,hL6,ao.kQ,EV,u,e2,e3,DJ,hGi,f2,f3,hG,X0,W,hkf];refine⟨aa,aa,aa,W7,aa,aa,aD (r+1,_,U6,_) ab ?_ ⟨au,?_,hI7⟩ au⟩
      .dsimp only
       rw[Zb,o8,X1];rfl
      .subst Fg
       exact hH7
     .have SF:=bX (show ¬(r:Int)<S.n.ah by omega)
      have er:r=S.tg.n.ah.toNat:=by rw[qP];omega
      rw[er]at D;simp[-aj,-List.map_replicate,SF];exact⟨aa,aD (c+1,A5,U5,υ5) ab rfl ⟨au,D.Aq,X⟩ au⟩
    .have hct:=bX (show ¬(c:Int)<S.n.calls by omega)
     have ec:c=S.n.calls.toNat:=aa
     have epc:p*S.tg.n.calls.toNat+c=(p+1)*S.tg.n.calls.toNat:=by rw[ec,fh,Nat.one_mul];rfl
     rw[epc]at L8;simp[-aj,-List.map_replicate,hct];exact⟨aa,aD (p+1,A4,U4,υ4) ab rfl ⟨au,L8,N⟩ au⟩
   .have ep:p=S.tg.k:=by rw[pR];omega
    rw[ep]at W6;simp[-aj,-List.map_replicate,hp];exact⟨aa,aD (s+1,A3,U3,υ3) ab rfl ⟨au,W6.Ar,z⟩ au⟩
 .have es:s=S.tg.k:=by rw[pR];omega
  rw[es]at hH;have xz:=hI.rz;have UN:=hI.bx;have qF:σ.length<υ.length:=cU xz;have W8:∀B:al,aq (ar υ σ.length B) σ.length=some B:=λB=>bU qF;have Gm:=λ(ce:CE) (c0 c1 c2 c3 c4 c5 c6 c7 c8 c9:AV)=>oI (ce:=ce) (σ:=ar υ σ.length ⟨some 10,[c0,c1,c2,c3,c4,c5,c6,c7,c8,c9],.live⟩) (n:=σ.length) (W8 _);have apR:=hH.fin;subst apR;have pJ:=hH.bV sZ (λt=>fp (S.tg.n.aE S.tg.k) t+b.length);have hln:=hI.ln;have L0:=hD.r.2;have eP:∀t C,S.tg.oR.cont (λt=>fp (S.tg.n.aE S.tg.k) t+b.length) t=some C->b.length<=fp (S.tg.n.aE S.tg.k) t+b.length/\fp (S.tg.n.aE S.tg.k) t+b.length<d.length:=λt C hC=>⟨aa,sb hH t C hC⟩
  simp only[pR,qP]at UN;simp[-aj,-BZ,u,UN,xz,W8,Gm];refine⟨U,λt=>fp (S.tg.n.aE S.tg.k) t+b.length,kJ T (d.length+1),hI.sa,hI.lm.L7 hD.r.1 qF,λi B I=>⟨(hD.o i B I).1,?_⟩,hI.as.other λt C hC=>aA (by have:=(eP t C hC).1;omega),λt C hC=>?_,?_⟩
  .have:=cU (h.o i B I).1
   rw[aA aa];exact hI.ol i B I
  .obtain⟨h1,h2⟩:=eP t C hC
   refine⟨hD.fr _ h1 (Nat.le_of_lt h2),?_,?_⟩
   .show σ.length<fp (S.tg.n.aE S.tg.k) t+b.length
    omega
   .rw[aY]
    show fp (S.tg.n.aE S.tg.k) t+b.length<_;omega
  .rw[pJ];rfl
end Ab
namespace Ab
attribute [local simp] oC
structure Lg.Cl (E:Lg):Prop where
 ok:E.Ok
 w1:1<=E.ws.length
 kc:E.ws.length*E.n.calls.toNat<=128
 e0:E.p6 E.ws=0
 ws:∀w∈E.ws,E.n.kH w E.cs=0
 cl:∀w∈E.n.iT E.ws E.ws,E.n.kH w E.cs=0/\E.row w∈E.ws.map E.row
variable{S T:Lg}
def bR.tg(h:bR S T):T.tg=S.tg:=by
 unfold Lg.tg Lg.Ek Lg.wd;simp only[h.row,h.1,h.2.1]
def bR.cl(h:bR S T) (g:S.Cl):T.Cl:=⟨h.ok g.ok,by rw[h.2.1];exact g.w1,by rw[h.1,h.2.1];exact g.kc,by rw[h.2.1,h.p6];exact g.e0,by rw[h.1,h.2.1,h.2.2];exact g.ws,by rw[h.1,h.2.1,h.2.2,h.row];exact g.cl⟩
def apS{E:Lg}{O:Nat->Option al}{σ:List al}{k:Nat}(h:LM S O σ) (I:Cm E k S) (J:E.Cl):LX L Js [.ptr 3 13 0] σ (HyP E O σ):=by
 refine ajd rfl ?_;obtain⟨r,K,w,T,x,M,hle,rfl⟩:=dd (apG (h.add kK) I);have a:=x.symm.cl J;obtain⟨r,j,s,U,p,N,y,P,G,Q,H,rfl⟩:=dd (apP M a.ok a.w1 a.kc a.e0 a.ws a.cl);rw[show T.tg=E.tg from x.symm.tg]at *;have l:(σ ++ [kK]).length=σ.length+1:=ab
 rw[l]at hle;have z:=G σ.length kK (by unfold mG;rw[ae rfl])
 have u:σ.length<j.length:=cU z.2;have C:=z.2;have e:E.tg.oR.bV p=[.int E.tg.oR.calls,.int E.tg.oR.ak,.int E.tg.oR.ah,.int E.tg.oR.stack,.int E.tg.oR.start,iA (p .ac) E.tg.oR.accept.length,cu (p (.ls .cl)) E.tg.oR.call.length,cu (p (.ls .ps)) E.tg.oR.push.length,cu (p (.ls .aQ)) E.tg.oR.inner.length,cu (p .po) E.tg.oR.pop.length]:=rfl;rw[e]at s;have D:∀b m:Nat,dO (cu b m)=true:=λb m=>by unfold cu;split<;>rfl
 have g:∀B:al,aq (ar j σ.length B) σ.length=some B:=λB=>bU u;have F:=λ(ce:CE) (R V W X Y Z c6 c7 c8 c9:AV)=>oI (ce:=ce) (σ:=ar j σ.length ⟨some 10,[R,V,W,X,Y,Z,c6,c7,c8,c9],.live⟩) (n:=σ.length) (g _);generalize d:E.tg.oR=A at *;simp[-aj,-BZ,w,s,C,D,g,F];refine⟨U,p,N,x.symm.trans y,P.L7 z.1 u,λi B q=>?_,?_,λt B q=>?_,?_⟩
 .have hi:=cU (h.o i B q).1
  have:=G i B (by unfold mG;rw[ad aa];exact q)
  exact⟨this.1,by rw[aA aa];exact this.2⟩
 .rw[d]
  exact Q.other λt B q=>aA (by have:=(H t B q).2.1;omega)
 .rw[d]at q
  obtain⟨h1,h2,h3⟩:=H t B q;exact⟨h1,aa,by rw[aY];exact h3⟩
 .rw[d,e]
end Ab
namespace Ab
def p9 (ws:List (List Int)):Lg:=⟨dz,ws,[([],[])],[],1⟩
def apT:(p9 [[]]).wg = .bM [iL [0,3],.bool true,.int 0]:=by kernel_rfl
def apU:(p9 [[],[0,3]]).wg = .bM [.ag,.bool false,.int 0]:=by kernel_rfl
def W9:(p9 [[]]).put [0,3]=p9 [[],[0,3]]:=by kernel_rfl
def Xa:(p9 [[],[0,3]]).tg.oR=sg:=by kernel_rfl
def El:dz.fits:=Vm vl ⟨bO,bO,bO,bO⟩
def Fj:∀c∈[(([]:List Int),([]:List Int))],D8 c:=λc a=>by
 simp at a;subst a;exact⟨ab,ab,ab⟩
def apV:(p9 [[]]).Ok:=⟨vl,El,Fj,bO,λw a=>by simp[p9]at a;subst a;exact⟨λx b=>by simp at b,ab⟩,bO,bO⟩
def Xb:(p9 [[],[0,3]]).Ok:=⟨vl,El,Fj,bO,λw b=>by
  simp[p9]at b;rcases b with rfl|rfl
  .exact⟨λx a=>by simp at a,ab⟩
  .exact⟨λx a=>by simp at a;omega,ab⟩,bO,bO⟩
def Xc (l:List (List Int)):Bool:=l.all λw=>(w.all λx=>decide (0<=x/\x<=255))&&decide (w.length<=10000)
variable{l:List (List Int)}
def apW(h:Xc l=true):∀w∈l,dG w/\w.length<=10000:=λw a=>by
 have:=rE.1 h w a;rw[aH]at this;refine⟨λx b=>?_,of_decide_eq_true this.2⟩;exact of_decide_eq_true (rE.1 this.1 x b)
def apX:(gJ l).length<=l.length:=by
 show(fY (fP aI l)).length<=_;have:=TT (fP aI l);rw[Dq]at this;exact this
def Xd (ws:List (List Int)) (d:(p9 ws).Ok) (e:((dz.iT ws ws).length:Int)<=1000000) (g:Xc (dz.iT ws ws)=true):(p9 ws).Fit:=by
 have b:=apW g;refine⟨d,e,λw a=>by have:=(b w a).2;omega,λw a=>b w (amC.1 a),?_⟩
 have:(gJ (dz.iT ws ws)).length<=(dz.iT ws ws).length:=apX;show(gJ (dz.iT ws ws)).length<=1000000;omega
def apY:Cm (p9 [[],[0,3]]) 1 (p9 [[]]):=by
 refine .step 0 _ [0,3] (Xd _ apV bO bO) apT bO bO bO ?_
 rw[W9];exact .done _ (Xd _ Xb bO bO) apU ⟨rfl,rfl,rfl⟩
def apZ:(p9 [[],[0,3]]).Cl:=⟨Xb,bO,bO,bO,bO,bO⟩
end Ab
