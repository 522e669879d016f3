/- Lists of words, read back. Condition: none. -/
import Derived.Test.YtcdccenbhiddcaaGreatIr
import Derived.Test.YtcdccenbhiddcaaGreatWsuI
import Derived.RangeFuncLeaves
set_option linter.all false
set_option maxRecDepth 100000
set_option maxHeartbeats 4000000
namespace Ab
variable{r:AV}{w:List Int}
def sx(h:dI r=some w):r=iL w:=by
 unfold dI at h;split at h
 .rename_i l
  have:∀(l:List AV) (w:List Int),aM (λx=>match x with|AV.int n=>some n|_=>none) l=some w->l=w.map .int:=by
   intro l
   induction l with
   |nil=>intro w h;simp only[aM,aS]at h;subst h;rfl
   |cons x r b=>
    intro w h;simp only[aM]at h;split at h
    .simp at h
    .rename_i y a
     split at h
     .simp at h
     .rename_i s d
      simp only[aS]at h;subst h;rw[b s d];cases x<;>simp at a
      subst a;rfl
  rw[this l w h]
 .simp at h
def W4{w:List (List Int)}(h:VI r=some w):r=aW w:=by
 unfold VI at h;split at h
 .rename_i l
  have:∀(l:List AV) (w:List (List Int)),aM dI l=some w->l=w.map iL:=by
   intro l
   induction l with
   |nil=>intro w h;simp only[aM,aS]at h;subst h;rfl
   |cons x r a=>
    intro w h;simp only[aM]at h;split at h
    .simp at h
    .rename_i y b
     split at h
     .simp at h
     .rename_i s d
      simp only[aS]at h;subst h;rw[a s d,sx b];rfl
  rw[this l w h]
 .simp at h
def v7 (w:List Int):dI (iL w)=some w:=by
 show aM (λx=>match x with|AV.int n=>some n|_=>none) (w.map .int)=some w
 induction w with
 |nil=>rfl
 |cons x r a=>simp only[bC,aM,a]
def Hm (A:List (List Int)):vZ (aW A)=some A:=by
 show aM dJ (A.map iL)=some A
 induction A with
 |nil=>rfl
 |cons x r a=>
  have e:dJ (iL x)=some x:=v7 x;simp only[bC,aM,a,e]
open Go Go.Proofs
variable{C:Ctx}{H:Array Obj}{v:Value}
def Hn(h:dJ r=some w) (a:VR C H r v):VR C H (iL w) v:=by
 unfold dJ at h;split at h
 .simp only[aS]at h;subst h
  unfold VR at a ⊢;subst a;exact⟨rfl,.inl ⟨rfl,none,rfl,ab⟩⟩
 .rw[<-sx h];exact a
def Ho:∀w:List Int,aq (w.map .int)=true
 | []=>rfl
 |x::r=>by simp only[bC,aq,aB,Ho r,Bool.and_self]
def AA:∀A:List (List Int),aq (A.map iL)=true
 | []=>rfl
 |x::r=>by simp only[bC,aq,aB,Ho x,AA r,Bool.and_self]
variable{A:List (List Int)}
def W5(h:vZ r=some A) (hv:VR C H r v):VR C H (aW A) v:=by
 unfold vZ at h;split at h
 case h_2=>simp at h
 rename_i nn l;have key:∀(l:List AV) (A:List (List Int)),aM dJ l=some A->l.length=A.length/\∀c st off,fF C H c st l off->fF C H c st (A.map iL) off:=by
  intro l
  induction l with
  |nil=>intro A h;simp only[aM,aS]at h;subst h;exact⟨rfl,λ_ _ _ h=>h⟩
  |cons x r ih=>
   intro A h;simp only[aM]at h;split at h
   .simp at h
   .rename_i y hy
    split at h
    .simp at h
    .rename_i s hs
     simp only[aS]at h;subst h;obtain⟨i1,i2⟩:=ih s hs;refine⟨by simp[i1],λc st off hr=>?_⟩
     obtain⟨⟨v,a1,a2,a3⟩,KK⟩:=hr;exact⟨⟨v,Hn hy a1,a2,a3⟩,i2 _ _ _ KK⟩
 obtain⟨hl,hk⟩:=key l A h;unfold VR at hv ⊢;refine⟨AA A,?_⟩;rcases hv.2 with⟨h1,a,h2,h3⟩|⟨ay,off,cap,st,c,el,fz,h1,h2,h3,h4,h5⟩
 .left
  have:A=[]:=by cases A with
   |nil=>rfl
   |cons x r=>subst h1;simp at hl
  exact⟨by rw[this];rfl,a,h2,ab⟩
 .right
  have e:(A.map iL).length=l.length:=by rw[cP,hl]
  exact⟨ay,off,cap,st,c,el,fz,by rw[e];exact h1,by rw[e];exact h2,h3,h4,hk _ _ _ h5⟩
def AB(h:vZ r=some A) (a:VR C H (.ar r) v):VR C H (.ar (aW A)) v:=by
 unfold VR at a ⊢;obtain⟨_,ay,off,c,el,b,y,d,e,f,g,i⟩:=a;exact⟨by simp only[aB,AA],ay,off,c,el,b,y,d,e,f,W5 h g,i⟩
variable{ce:CE}
def Hp{B C:List (List Int)}(h:sv ce A B C=true):∀u v x,u∈A->v∈B->x∈C->jN ce fB [aW [u,v,x]]=some (iL (u++v++x)):=by
 intro u v x d e f;simp only[sv,eS,bJ]at h;have:=h u d v e x f;unfold jN;show(match ce fB [.aA false [.aA false (u.map .int),.aA false (v.map .int),.aA false (x.map .int)]] []with|some (v,a)=>bu a false v|none=>none)=_
 cases b:ce fB [.aA false [.aA false (u.map .int),.aA false (v.map .int),.aA false (x.map .int)]] []with
 |none=>rw[b]at this;simp at this
 |some p=>
  rw[b]at this;simp only[dX]at this;obtain⟨y,g,i⟩:=this;rw[<-sx i];exact g
def sy (ce:CE) (s1:St):List AV->List aj->Nat->List aj
 |x::r,σ,k+1=>match aT ce ss ⟨bD (bD s1.vars 9 x) 11 x,none,σ⟩with
  |some s=>sy ce s1 r s.σ k
  |none=>σ
 |_,σ,_=>σ
def Hq{ce:CE}{s1:St}:∀{xs:List AV}{σ σ' : List aj},iT ce s1 xs σ=some σ' ->sy ce s1 xs σ xs.length=σ' /\∀k,k<xs.length->∃s,aT ce ss ⟨bD (bD s1.vars 9 (nth xs k)) 11 (nth xs k),none,sy ce s1 xs σ k⟩=some s/\s.σ=sy ce s1 xs σ (k+1)
 | [],σ,σ', h=>by
  simp only[iT,aS]at h;exact⟨h,λk b=>by simp at b⟩
 |x::r,σ,σ', h=>by
  simp only[iT,dX]at h;obtain⟨s,a,d⟩:=h;obtain⟨e,f⟩:=Hq d;refine⟨by simp only[eO,sy,a];exact e,λk b=>?_⟩
  cases k with
  |zero=>exact⟨s,a,by simp only[sy,a];first|done|(cases r<;>rfl)⟩
  |succ k=>
   obtain⟨g, i,j⟩:=f k (by simp at b;omega)
   exact⟨g, by simp only[sy,a];exact i,by rw[j];simp only[sy,a]⟩
def xp{s1:St}{xs:List AV}{σ:List aj}:sy ce s1 xs σ 0=σ:=by cases xs<;>rfl
abbrev sz:List Nat:=[0,1,2,6,8,7,11,9,10,77,12,13,4,5]
def pn:Code->Code
 |.seq _ y=>y
 |c=>c
noncomputable def v8:Code:=pn (pn (pn (pn (pn (pn (pn (pn (pn (pn (pn (pn (pn (pn ((Tryz.f7.body).getD .skip))))))))))))))
def W6:x9 Tryz.prog sz 84 qj ((Tryz.f7.body).getD .skip)=some v8:=by kernel_rfl
def W7{l:List AV}{x:AV}(k:Nat):(k=9\/k=11)/\(nth (bD (bD l 9 x) 11 x) k=x\/nth (bD (bD l 9 x) 11 x) k = .au)\/(k ≠ 9/\k ≠ 11)/\nth (bD (bD l 9 x) 11 x) k=nth l k:=by
 have e:(bD l 9 x).length=l.length:=by rw[DG];simp
 rw[pZ,pZ,e];have a:∀k,¬k<l.length->nth l k = .au:=λk f=>by rw[jV,lV aa];rfl
 by_cases b:k=11
 .subst b
  refine .inl ⟨.inr rfl,?_⟩
  by_cases h:11<l.length
  .simp[h]
  .rw[ae aa,ae aa];exact .inr (a _ h)
 .by_cases d:k=9
  .subst d
   refine .inl ⟨.inl rfl,?_⟩
   by_cases h:9<l.length
   .simp[h]
   .rw[ae aa,ae aa];exact .inr (a _ h)
  .exact .inr ⟨⟨d,b⟩,by rw[ae aa,ae aa]⟩
def VG (hm:Tryz.prog.follows .mixedOrders=true):dc Tryz.prog 7 de:=by
 refine⟨by kernel_rfl,λce fG iD args σ r σ' hp ids I w vs hg hv=>?_⟩
 unfold de at hp;split at hp
 case isFalse=>simp at hp
 rename_i hlen;simp only[dX]at hp;obtain⟨⟨e,s0⟩,h1,h2⟩:=hp;refine(callsIn_wide (n:=0)).1 (callsIn_of_wp_marks (c:=(Tryz.f7.body).getD .skip) Tryz.func7 rfl trivial ((wpIn_wide (n:=0)).2 ?_));have p0:=Gd (sl:=sz) (nt:=84) (m:=12) hg hv aa (by rw[hlen];show ∀k,k<14->2<=k\/sz[k]? = some k;decide)
 refine Gg (sl:=sz) (nt:=84) (ds:=[]) (rest:=v8) hm fG iD qj _ _ e s0 ids I _ w _ W6 h1 p0 ?_;intro di I1 a1 w1 r1 st1;refine⟨λj hj=>?_,λfm=>?_⟩
 .subst hj
  simp only[dX]at h2;obtain⟨s1,h3,⟨A,B,C⟩,h4,h5⟩:=h2;refine wp_seq (wp_seq (DL (r:=uO) hm (by kernel_rfl) fG iD h3 r1 λkX I2 a2 w2 r2 st2=>?_))
  unfold uQ at h4;split at h4
  case h_2=>simp at h4
  rename_i t f a b c DJ;split at h4
  case isFalse=>simp at h4
  rename_i htf;obtain⟨rfl,rfl⟩:=htf;simp only[dX]at h4;obtain⟨A', hA,B', hB,C', hC,h4⟩:=h4;split at h4
  case isFalse=>simp at h4
  rename_i iw;simp only[aS,Prod.mk.injEq]at h4;obtain⟨rfl,rfl,rfl⟩:=h4;unfold lf at h5;split at h5
  case isFalse=>simp at h5
  rename_i hjn;simp only[Option.bind_eq_some_iff]at h5;obtain⟨σ2,h6,s2,hfz,⟨e3,s3⟩,h7,h8⟩:=h5;dsimp only at hjn h6 iw;split at h8
  case h_2=>simp at h8
  rename_i he3;obtain rfl:e3 = .ret:=he3;simp only[jP,Prod.mk.injEq]at h8;obtain⟨r', h8,rfl,rfl⟩:=h8;obtain⟨Hr,W8⟩:=Hq h6;obtain⟨vs,hcv,q9⟩:=r2.fl _ _ DJ;have q9:bm (ad s1.σ kX I2) w2.heap [.ar (aW A'),.ar (aW B'),.ar (aW C')] vs:=by
   obtain⟨v1,_,rfl,q1,v2,_,rfl,q2,v3,_,rfl,q3,rfl⟩:=q9;exact⟨v1,_,rfl,AB hA q1,v2,_,rfl,AB hB q2,v3,_,rfl,AB hC q3,rfl⟩
  refine wp_block (Uv (σs:=sy ce s1 (iq A' B' C') s1.σ) (ids:=kX) (I:=I2) (A1:=λv=>({tmps:=a2.tmps.setIfInBounds 77 v,defers:=[]}:Act).put (some 13) v) (Hl fG iD (by have:=iw.1;omega) (by have:=iw.2.1;omega) (by have:=iw.2.2;omega) (Hp hjn)) ?_ hcv (by rw[xp];exact q9) (by rw[xp];exact r2.good) ?_ ?_ ?_)
  .exact λargs w=>tx (by kernel_rfl) args w
  .intro l W v
   refine wpIn_region ?_;show wpOpsIn (fw (some l)) 0 Tryz.prog _ _ [0] _ W;refine uT cj cj ?_
   have e77:({tmps:=a2.tmps.setIfInBounds 77 v,defers:=[]}:Act).eval (.tmp 77)=v:=by
    have:=r2.size;show(a2.tmps.setIfInBounds 77 v).getD 77 undef=v;rw[mR,Array.getElem?_setIfInBounds_self_of_lt aa];rfl
   refine aX.val (v:=v) (w' :=W) (Post:=λv' w' =>v' = v/\w' = W) (by simp[execOp,e77]) ⟨rfl,rfl⟩ (some l) _ _ λv' w' hp=>?_
   obtain⟨rfl,rfl⟩:=hp;exact⟨rfl,rfl,rfl⟩
  .intro l k aV I' W v hk hgk eu hvk
   obtain⟨s,hs,MU⟩:=W8 k hk;refine wpIn_block ?_;refine DK (rd:=some l) (r:=ss) (s:=⟨bD (bD s1.vars 9 (nth (iq A' B' C') k)) 11 (nth (iq A' B' C') k),none,sy ce s1 (iq A' B' C') s1.σ k⟩) (sl:=sz) (nt:=84) (ds:=[]) hm (by kernel_rfl) fG iD hs ⟨hgk,by have:=r2.size;simp[Act.put,this],rfl,λq t hq=>?_,λ_ _ q=>by simp at q⟩ λHs I'' a' w' h' qF =>?_
   .have tE:=r2.size
    have jU:∀q,(({tmps:=a2.tmps.setIfInBounds 77 v,defers:=[]}:Act).put (some 13) v).tmps.getD q undef=if q=77\/q=13 then v else a2.tmps.getD q undef:=by
     intro q;simp only[Act.put,mR,Array.getElem?_setIfInBounds,Array.size_setIfInBounds]
     by_cases e1:13=q
     .subst e1;simp[tE]
     .by_cases e2:77=q
      .subst e2;simp[tE]
      .have e1' : ¬q=13:=λe=>e1 e.symm
       have e2' : ¬q=77:=λe=>e2 e.symm;simp[e1,e2,e1', e2']
    rw[jU];rcases W7 (l:=s1.vars) (x:=nth (iq A' B' C') k) q with⟨hq2,h|h⟩|⟨⟨n1,n2⟩,h⟩
    .rw[h,ah (by rcases hq2 with rfl|rfl<;>simp at hq<;>omega)];exact hvk
    .rw[h];unfold VR;trivial
    .have ht:¬(t=77\/t=13):=by
      have hql:q<14:=(cM.1 hq).1;have:∀q,q<14->q ≠ 9->q ≠ 11->∀t,sz[q]? = some t->¬(t=77\/t=13):=by
       intro q h1 h2 h3 t h4;have:(List.range 14).all (λq=>q==9||q==11||(match sz[q]? with|some t=>t != 77&&t != 13|none=>true))=true:=by decide
       have:=(eS.1 this) q (by simpa using h1)
       rw[h4]at this;simp[h2,h3]at this;omega
      exact this q hql n1 n2 t hq
     rw[h,ae ht];exact VR.mono eu _ _ (by rw[xp];exact r2.vars q t hq)
   .rw[MU]at h' qF
    exact⟨rfl,Hs, I'', h'.good,qF⟩
  .intro aV I' W D hgW W9 hD hDw Cl AD
   simp only[Exit.inBlock,Exit.then];rw[Hr,xp]at W9;rw[Hr]at hgW AD;have Xa:Rel sz 84 [{target:=.collected D,args:=#[]}] ⟨s1.vars,none,σ2⟩ (ad σ2 aV I') {a2 with defers:={target:=.collected D,args:=#[]}::a2.defers} W:=
    ⟨hgW,r2.size,by rw[r2.defers],λk t hk=>VR.mono W9.ev _ _ (r2.vars k t hk),λ_ _ q=>by simp at q⟩
   have Un:=(eK.1 hD).1;obtain⟨I4,Xa,Xb⟩:=UA (sl:=sz) (by decide) hfz Xa
   have Cl:¬I4 D:=λq=>by
    rcases Xb.cv D q with q|q|q
    .exact Cl q
    .exact AD q
    .omega
   have AD:¬owned (ad s2.σ aV I4) D:=λq=>by
    rcases Xb.cm D q with q|q
    .exact AD q
    .omega
   refine xE (sl:=sz) (nt:=84) (ds:=[{target:=.collected D,args:=#[]}]) hm fG iD su _ s2 .ret s3 aV I4 _ W _ (by kernel_rfl) h7 Xa λAE I5 a5 w5 r5 Co=>?_
   have Xc:w5.heap[D]? = some (.deferred (some [])):=(Co.frame D Un AD).trans hD;have hI5:¬I5 D:=λq=>by
    rcases Co.cv D q with q|q|q
    .exact Cl q
    .exact AD q
    .omega
   have hO5:¬owned (ad s3.σ AE I5) D:=λq=>by
    rcases Co.cm D q with q|q
    .exact AD q
    .omega
   have K2:=r5.good.put Xc ab hI5 hO5 (.deferred none)
   have r6:Rel sz 84 [{target:=.collected D,args:=#[]}] s3 (ad s3.σ AE I5) a5 (w5.putObj D (.deferred none)):=⟨K2.1,r5.size,r5.defers,λk t hk=>VR.mono K2.2 _ _ (r5.vars k t hk),λt v q=>VR.mono K2.2 _ _ (r5.fl t v q)⟩;obtain⟨v,cY,x6⟩:=Ge (pf:=Tryz.f7) r6 (by kernel_rfl) h8
   show LeavesInM _ _ _ _ _ _ a5.defers .returning w5;rw[r5.defers];have hwD:w.heap.size<=D:=Nat.le_trans (st1.trans st2).size hDw;exact⟨ab,.inl ⟨D,_,rfl,run_takeDeferred Xc,v,cY,v,AE,I5,rfl,K2.1,x6,((st1.trans (st2.trans (W9.trans (Xb.trans Co)))).put r5.good Xc ab hI5 hO5 hwD _)⟩⟩
 .have hx:(results uP s0).map (·,s0.σ)=some (r,σ'):=by
   cases e with
   |exit j=>exact absurd rfl (fm j)
   |_=>exact h2
  simp only[jP,Prod.mk.injEq]at hx;obtain⟨r', hx,rfl,rfl⟩:=hx;obtain⟨v,cY,x6⟩:=Ge (pf:=Tryz.f7) r1 (by kernel_rfl) hx
  have hd:=r1.defers;cases e with
  |exit j=>exact absurd rfl (fm j)
  |c5=>
   show LeavesInM _ _ _ _ _ _ a1.defers .returning w1;rw[hd];exact⟨v,cY,v,di,I1,rfl,r1.good,x6,st1⟩
  |ret=>
   show LeavesInM _ _ _ _ _ _ a1.defers .returning w1;rw[hd];exact⟨v,cY,v,di,I1,rfl,r1.good,x6,st1⟩
end Ab
