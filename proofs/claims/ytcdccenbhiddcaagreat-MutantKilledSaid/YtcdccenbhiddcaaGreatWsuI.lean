/- The words of wsuite.products, one after the other. Condition: none. -/
import Derived.Test.YtcdccenbhiddcaaGreatProg
import Derived.Test.YtcdccenbhiddcaaGreatAbRng
import Derived.Test.YtcdccenbhiddcaaGreatIr
import Derived.KernelRfl
set_option linter.all false
set_option maxRecDepth 100000
set_option maxHeartbeats 4000000
namespace Ab
open Go Go.Proofs
variable{P:Program}{T:List (Nat×Value)}{ce:CE}{vars:List AV}{fl:Option (Nat×AV)}{σ:List aj}{s1:St}{sl:List Nat}{nt id:Nat}{ds:List Deferred}{ids:Nat->Nat}{I:Nat->Prop}{a:Act}{w:World}
def nf{ops:List Oper}{Q:Exit->Act->World->Prop}
  (j:bn P ce) (l:bQ P ce) (h:Rel sl nt ds ⟨vars,fl,σ⟩ (ad σ ids I) a w) (s:Fix T a) (r:dt) (m:jM P false ops sl nt r=true) (u:(ops.all λo=>T.all λp=>o.dst != some p.1)=true) (x:WK ce (.bM r) vars fl σ λ_ s' =>s' = s1)
  (y:∀b I' f w', Rel sl nt ds s1 (ad s1.σ b I') f w' ->Step (ad σ ids I) w (ad s1.σ b I') w' ->Fix T f ->Q .normal f w'):(Code.region id ops.toArray false).wp P Q a w:=by
 obtain⟨n,e,s', d,rfl⟩:=gy x;have z:aT ce r ⟨vars,fl,σ⟩=some s' :=by
  simp only[exec]at d;split at d
  .rename_i g;simp only[aS,Prod.mk.injEq]at d;rw[g,d.2]
  .simp at d
 refine(wpIn_wide (n:=0)).1 (wpIn_mono (Q:=uu T λe f w' =>e = .normal/\∃b I', Rel sl nt ds s' (ad s'.σ b I') f w' /\Step (ad σ ids I) w (ad s'.σ b I') w') (wpIn_region ?_) ?_)
 .rw[List.size_toArray]
  refine sb (λi o q p A=>?_) _ _ _ s (Gc (rd:=none) m j l z h λb I' f w' d g=>⟨rfl,b, I', d,g⟩);have B:o∈ops:=by rw[oa]at q;exact ke q
  have:=(eS.1 ((eS.1 u) o B)) p A;simpa using this
 .rintro e f w' ⟨⟨rfl,D, I', d,g⟩,C⟩
  exact y _ _ _ _ d g (C rfl)
variable{t:Nat}{C:Ctx}
def Rel.flag{b:Bool}(h:Rel sl nt ds ⟨vars,some (t,.bool b),σ⟩ C a w):a.eval (.tmp t) = .bool b/\Rel sl nt ds ⟨vars,none,σ⟩ C a w:=
 ⟨h.fl t (.bool b) rfl,h.good,h.size,h.defers,h.vars,λ_ _ q=>by simp at q⟩
variable{ops:Array Oper}{rest:List Nat}
def uT{F:Fence}{n:Nat}{Q:Exit->Act->World->Prop}{i:Nat}{o:Oper}(d:ops[i]? = some o) (b:o.guard=none) (h:o.wpIn F n P a w (wpOpsIn F n P ops Q rest) Q):wpOpsIn F n P ops Q (i::rest) a w:=by
 unfold wpOpsIn;rw[d];dsimp only;rw[show Region.wanted o (yielded ops a.tmps)=true by simp[Region.wanted,b]]
 simpa using h
def WX{Q:Exit->Act->World->Prop}{l:List Nat}(b:List.range ops.size=l) (h:wpOpsIn (fw none) 0 P ops Q l a w):(Code.region id ops false).wp P Q a w:=
 (wpIn_wide (n:=0)).1 (wpIn_region (by rw[b];exact h))
def Rel.put{v:Value}(h:Rel sl nt ds ⟨vars,none,σ⟩ C a w) (ht:(sl.all (·!= t))=true):Rel sl nt ds ⟨vars,none,σ⟩ C (a.put (some t) v) w:=by
 refine⟨h.good,by rw[<-h.size];simp[Act.put],h.defers,λk Y hk=>?_,λ_ _ q=>by simp at q⟩
 have:Y ≠ t:=by simpa using(eS.1 ht) Y (ke hk)
 rw[x8 (λe=>this (by simpa using e.symm))]
 exact h.vars k Y hk
def Rel.WY{σ σ' : List aj}{C C' : Ctx}{w w' : World}(h:Rel sl nt ds ⟨vars,fl,σ⟩ C a w) (ev:cF C w.heap C' w'.heap) (Y:Good C' w'):Rel sl nt ds ⟨vars,none,σ'⟩ C' a w' :=
 ⟨Y,h.size,h.defers,λk t hk=>VR.mono ev _ _ (h.vars k t hk),λ_ _ q=>by simp at q⟩
def WZ{Q:Exit->Act->World->Prop}(d k:Nat) (hlen:d+k<=ops.size)
  (m:bn P ce) (s:bQ P ce) (h:Rel sl nt ds ⟨vars,fl,σ⟩ (ad σ ids I) a w) (A:Fix T a) (r:dt) (u:(((ops.toList.drop d).take k).all λo=>o.guard.isNone)=true) (x:jM P false ((ops.toList.drop d).take k) sl nt r=true) (B:(((ops.toList.drop d).take k).all λo=>T.all λp=>o.dst != some p.1)=true) (C:WK ce (.bM r) vars fl σ λ_ s' =>s' = s1)
  (D:∀b I' g w', Rel sl nt ds s1 (ad s1.σ b I') g w' ->Step (ad σ ids I) w (ad s1.σ b I') w' ->Fix T g ->wpOpsIn (fw none) 0 P ops Q rest g w'):wpOpsIn (fw none) 0 P ops Q (List.range' d k++rest) a w:=by
 obtain⟨n,e,s', f,rfl⟩:=gy C;have E:aT ce r ⟨vars,fl,σ⟩=some s' :=by
  simp only[exec]at f;split at f
  .rename_i j;simp only[aS,Prod.mk.injEq]at f;rw[j,f.2]
  .simp at f
 have z:((ops.toList.drop d).take k).length=k:=ai
 have:=sb (F:=fw none) (n:=0) (P:=P) (T:=T) (Q:=λe g w' =>e = .normal/\∃b I', Rel sl nt ds s' (ad s'.σ b I') g w' /\Step (ad σ ids I) w (ad s'.σ b I') w') (ops:=((ops.toList.drop d).take k).toArray) (λi o l p G=>by
  have y:o∈((ops.toList.drop d).take k):=by rw[oa]at l;exact ke l
  simpa using(eS.1 ((eS.1 B) o y)) p G) _ _ _ A (Gc (rd:=none) x m s E h λb I' g w' f j=>⟨rfl,b, I', f,j⟩)
 rw[z,List.range_eq_range']at this;have H:=Gb (ops:=ops) (Q:=Q) (rest:=rest) (d:=d) (λi o l=>by
  have y:o∈((ops.toList.drop d).take k):=by rw[oa]at l;exact ke l
  simpa using(eS.1 u) o y) (λe a w J h=>absurd h.1.1 J) (λg w' h=>by
   obtain⟨⟨_,L, I', f,j⟩,K⟩:=h;exact D _ _ _ _ f j (K rfl)) k 0 a w (λi _ M=>⟨by have q:i<k:=aa;simp[List.getElem?_take,jO,q],by rw[List.size_toArray,z];omega⟩) this
 simpa using H
abbrev qk:List Nat:=[0,1,2,3,13,12,11,19,18,17,25,24,23,6,8,10]
def K1 (u:List Int) (B C:List (List Int)):List AV:=B.flatMap λv=>C.map λx=>iL (u++v++x)
variable{A B:List (List Int)}
def W0(fG:bn Tryz.prog ce) (iD:bQ Tryz.prog ce){C:List (List Int)}(hA:(A.length:Int)<=1000000) (hB:(B.length:Int)<=1000000) (hC:(C.length:Int)<=1000000)
  (hj:∀u v x,u∈A->v∈B->x∈C->jN ce fB [aW [u,v,x]]=some (iL (u++v++x)))
  {l:Nat} {σs:Nat->List aj} {K:Nat->(Nat->Nat)->(Nat->Prop)->World->Prop} {c:Code} (hcd:Tryz.f43.body=some c)
  (hg:∀k ids I w,K k ids I w->Good (ad (σs k) ids I) w)
  (eA:∀k ids I w aV I' w', K k ids I w->Good (ad (σs k) aV I') w' ->Step (ad (σs k) ids I) w (ad (σs k) aV I') w' ->K k aV I' w')
  (hy:∀k ids I w v,K k ids I w->k<(iq A B C).length->VR (ad (σs k) ids I) w.heap (nth (iq A B C) k) v->YieldAt Fence.wide 0 Tryz.prog l #[v] w λe w' =>e = .returned (.bool true)/\∃aV I', K (k+1) aV I' w' /\cF (ad (σs k) ids I) w.heap (ad (σs (k+1)) aV I') w'.heap)
      (h0:K 0 ids I w) (p0:Rel qk 40 [] ⟨[.au,.ar (aW A),.ar (aW B),.ar (aW C),.au,.au,.au,.au,.au,.au,.au,.au,.au,.au,.au,.au],none,σs 0⟩ (ad (σs 0) ids I) a w)
  (Hj:Fix [(0,.func (.yield l) #[] #[])] a):c.wp Tryz.prog (λe a' w' =>e = .normal/\a'.defers=[]/\∃aV I', K (iq A B C).length aV I' w') a w:=by
 cases hcd;refine wp_seq (nf fG iD p0 Hj GQ (by kernel_rfl) cj (s1:=⟨[.au,.au,.ar (aW B),.ar (aW C),.int 0,.int A.length,aW A,.au,.au,.au,.au,.au,.au,.au,.au,.au],none,σs 0⟩) ab λi1 I1 a1 w1 r1 st1 f1=>?_)
 have k1:=eA _ _ _ _ _ _ _ h0 r1.good st1;refine wp_block (tY (λm a w=>∃i k ids I,m=A.length-i+1/\i<=A.length/\k<=(iq A B C).length/\(iq A B C).drop k=iq (A.drop i) B C/\K k ids I w/\Fix [(0,.func (.yield l) #[] #[])] a/\
  Rel qk 40 [] ⟨[.au,.au,.ar (aW B),.ar (aW C),.int i,.int A.length,aW A,.au,.au,.au,.au,.au,.au,.au,.au,.au],none,σs k⟩ (ad (σs k) ids I) a w)
  (k:=A.length+1) ⟨0,0,i1,I1,rfl,aa,aa,rfl,k1,f1,r1⟩ (λa w ⟨i,_,_,_,h,_⟩=>aa) ?_)
 clear h0 p0 Hj k1 f1 r1 st1;rintro m a w ⟨i,k,ids,I,hm,hi,qK,hd,hk,hf,hr⟩;refine wp_seq (nf fG iD hr hf GR (by kernel_rfl) cj (s1:=⟨[.au,.au,.ar (aW B),.ar (aW C),.int i,.int A.length,aW A,.au,.au,.au,.au,.au,.au,.au,.au,.au],some (14,.bool (decide ((i:Int)<A.length))),σs k⟩) ab λi1 I1 a1 w1 r1 st1 f1=>?_)
 have k1:=eA _ _ _ _ _ _ _ hk r1.good st1;obtain⟨c1,r2⟩:=r1.flag;refine wp_seq (wp_cond c1 ?_)
 by_cases bP:i<A.length
 case neg=>
  have e:A.drop i=[]:=List.drop_eq_nil_of_le aa
  rw[show decide ((i:Int)<A.length)=false from ai]
  have hz:(iq A B C).drop k=[]:=by rw[hd,e];rfl
  have qX:k=(iq A B C).length:=by have:=List.length_drop (i:=k) (l:=iq A B C);rw[hz]at this;simp at this;omega
  refine wp_exit ?_;simp only[Exit.then,Exit.inBlock,cn];exact⟨trivial,r2.defers,i1,I1,qX▸k1⟩
 case pos=>
  rw[show decide ((i:Int)<A.length)=true from ai]
  refine wp_skip ?_;simp only[Exit.then];generalize hRA:iq (A.drop (i+1)) B C=RA;have hu:ix A (i:Int)∈A:=bt aa aa
  have nX:(iq A B C).drop k=K1 (ix A (i:Int)) B C++RA:=by
   rw[hd,kQ bP,<-hRA,aK bP];rfl
  generalize hU:ix A (i:Int)=u at nX hu;refine wp_seq (wp_block (wp_seq (nf fG iD r2 f1 GS (by kernel_rfl) cj (s1:=⟨[.au,.au,.ar (aW B),.ar (aW C),.int i,.int A.length,aW A,.au,.au,.au,.au,.au,.au,iL u,.au,.au],none,σs k⟩) (by simp[bP,hU]) λi3 I3 a3 w3 r3 qM f3=>?_)))
  have k3:=eA _ _ _ _ _ _ _ k1 r3.good qM;refine wp_seq (nf fG iD r3 f3 GU (by kernel_rfl) cj (s1:=⟨[.au,.au,.ar (aW B),.ar (aW C),.int i,.int A.length,aW A,.int 0,.int B.length,aW B,.au,.au,.au,iL u,.au,.au],none,σs k⟩) ab λi4 I4 a4 w4 r4 Hk f4=>?_)
  have k4:=eA _ _ _ _ _ _ _ k3 r4.good Hk;refine wp_block (tY (λm a w=>∃j k ids I,m=B.length-j+1/\j<=B.length/\k<=(iq A B C).length/\(iq A B C).drop k=K1 u (B.drop j) C++RA/\K k ids I w/\Fix [(0,.func (.yield l) #[] #[])] a/\
   Rel qk 40 [] ⟨[.au,.au,.ar (aW B),.ar (aW C),.int i,.int A.length,aW A,.int j,.int B.length,aW B,.au,.au,.au,iL u,.au,.au],none,σs k⟩ (ad (σs k) ids I) a w)
   (k:=B.length+1) ⟨0,k,i4,I4,rfl,aa,qK,nX,k4,f4,r4⟩ (λa w ⟨i,_,_,_,h,_⟩=>aa) ?_)
  clear k1 k3 k4 f1 f3 f4 r1 r2 r3 r4 st1 qM Hk hr hf hk hd nX qK c1;rintro mB a w ⟨j,k,ids,I,hmB,hjB,qK,hd,hk,hf,hr⟩;refine wp_seq (nf fG iD hr hf GV (by kernel_rfl) cj (s1:=⟨[.au,.au,.ar (aW B),.ar (aW C),.int i,.int A.length,aW A,.int j,.int B.length,aW B,.au,.au,.au,iL u,.au,.au],some (20,.bool (decide ((j:Int)<B.length))),σs k⟩) ab λi1 I1 a1 w1 r1 st1 f1=>?_)
  have k1:=eA _ _ _ _ _ _ _ hk r1.good st1;obtain⟨c1,r2⟩:=r1.flag;refine wp_seq (wp_cond c1 ?_)
  by_cases Ay:j<B.length
  case neg=>
   have e:B.drop j=[]:=List.drop_eq_nil_of_le aa
   rw[show decide ((j:Int)<B.length)=false from ai]
   refine wp_exit ?_;simp only[Exit.then,Exit.inBlock,cn];refine nf fG iD r2 f1 G1 (by kernel_rfl) cj (s1:=⟨[.au,.au,.ar (aW B),.ar (aW C),.int ((i:Int)+1),.int A.length,aW A,.au,.au,.au,.au,.au,.au,.au,.au,.au],none,σs k⟩) ai λi3 I3 a3 w3 r3 qM f3=>?_
   have k3:=eA _ _ _ _ _ _ _ k1 r3.good qM;refine⟨i+1,k,i3,I3,aa,aa,qK,by rw[hd,e,<-hRA];rfl,k3,f3,?_⟩
   rw[Int.natCast_add];exact r3
  case pos=>
   rw[show decide ((j:Int)<B.length)=true from ai]
   refine wp_skip ?_;simp only[Exit.then];generalize hRB:K1 u (B.drop (j+1)) C++RA=RB;have hv:ix B (j:Int)∈B:=bt aa aa
   have nX:(iq A B C).drop k=(C.map λx=>iL (u++ix B (j:Int)++x))++RB:=by
    rw[hd,kQ Ay,<-hRB,aK Ay];unfold K1;rw[gR,fO]
   generalize hV:ix B (j:Int)=v at nX hv;refine wp_seq (wp_block (wp_seq (nf fG iD r2 f1 GW (by kernel_rfl) cj (s1:=⟨[.au,.au,.ar (aW B),.ar (aW C),.int i,.int A.length,aW A,.int j,.int B.length,aW B,.au,.au,.au,iL u,iL v,.au],none,σs k⟩) (by simp[Ay,hV]) λi3 I3 a3 w3 r3 qM f3=>?_)))
   have k3:=eA _ _ _ _ _ _ _ k1 r3.good qM;refine wp_seq (nf fG iD r3 f3 GX (by kernel_rfl) cj (s1:=⟨[.au,.au,.ar (aW B),.ar (aW C),.int i,.int A.length,aW A,.int j,.int B.length,aW B,.int 0,.int C.length,aW C,iL u,iL v,.au],none,σs k⟩) ab λi4 I4 a4 w4 r4 Hk f4=>?_)
   have k4:=eA _ _ _ _ _ _ _ k3 r4.good Hk;refine wp_block (tY (λm a w=>∃c k ids I,m=C.length-c+1/\c<=C.length/\k<=(iq A B C).length/\(iq A B C).drop k=((C.drop c).map λx=>iL (u++v++x))++RB/\K k ids I w/\Fix [(0,.func (.yield l) #[] #[])] a/\
    Rel qk 40 [] ⟨[.au,.au,.ar (aW B),.ar (aW C),.int i,.int A.length,aW A,.int j,.int B.length,aW B,.int c,.int C.length,aW C,iL u,iL v,.au],none,σs k⟩ (ad (σs k) ids I) a w)
    (k:=C.length+1) ⟨0,k,i4,I4,rfl,aa,qK,nX,k4,f4,r4⟩ (λa w ⟨i,_,_,_,h,_⟩=>aa) ?_)
   clear k1 k3 k4 f1 f3 f4 r1 r2 r3 r4 st1 qM Hk hr hf hk hd nX qK c1;rintro mC a w ⟨c,k,ids,I,hmC,hcC,qK,hd,hk,hf,hr⟩;refine wp_seq (nf fG iD hr hf GY (by kernel_rfl) cj (s1:=⟨[.au,.au,.ar (aW B),.ar (aW C),.int i,.int A.length,aW A,.int j,.int B.length,aW B,.int c,.int C.length,aW C,iL u,iL v,.au],some (26,.bool (decide ((c:Int)<C.length))),σs k⟩) ab λi1 I1 a1 w1 r1 st1 f1=>?_)
   have k1:=eA _ _ _ _ _ _ _ hk r1.good st1;obtain⟨c1,r2⟩:=r1.flag;refine wp_seq (wp_cond c1 ?_)
   by_cases Az:c<C.length
   case neg=>
    have e:C.drop c=[]:=List.drop_eq_nil_of_le aa
    rw[show decide ((c:Int)<C.length)=false from ai]
    refine wp_exit ?_;simp only[Exit.then,Exit.inBlock,cn];refine nf fG iD r2 f1 G0 (by kernel_rfl) cj (s1:=⟨[.au,.au,.ar (aW B),.ar (aW C),.int i,.int A.length,aW A,.int ((j:Int)+1),.int B.length,aW B,.au,.au,.au,iL u,.au,.au],none,σs k⟩) ai λi3 I3 a3 w3 r3 qM f3=>?_
    have k3:=eA _ _ _ _ _ _ _ k1 r3.good qM;refine⟨j+1,k,i3,I3,aa,aa,qK,by rw[hd,e,<-hRB];rfl,k3,f3,?_⟩
    rw[Int.natCast_add];exact r3
   case pos=>
    rw[show decide ((c:Int)<C.length)=true from ai]
    refine wp_skip ?_;simp only[Exit.then];have hx:ix C (c:Int)∈C:=bt aa aa
    have nX:(iq A B C).drop k=iL (u++v++ix C (c:Int))::(((C.drop (c+1)).map λx=>iL (u++v++x))++RB):=by
     rw[hd,kQ Az,aK Az];rfl
    generalize hX:ix C (c:Int)=x at nX hx;have uU:k<(iq A B C).length:=by
     rcases Nat.lt_or_ge k (iq A B C).length with q|q
     .exact q
     .rw[List.drop_eq_nil_of_le q]at nX;simp at nX
    have Cn:nth (iq A B C) k=iL (u++v++x):=by
     rw[kQ uU]at nX;rw[jV,cG uU];exact(List.cons.inj nX).1
    have hd2:(iq A B C).drop (k+1)=((C.drop (c+1)).map λx=>iL (u++v++x))++RB:=by
     rw[kQ uU]at nX;exact(List.cons.inj nX).2
    refine wp_seq (wp_block (wp_seq (nf fG iD r2 f1 GZ (by kernel_rfl) cj (s1:=⟨[.au,.au,.ar (aW B),.ar (aW C),.int i,.int A.length,aW A,.int j,.int B.length,aW B,.int c,.int C.length,aW C,iL u,iL v,iL x],none,σs k⟩) (by simp[Az,hX]) λi3 I3 a3 w3 r3 qM f3=>?_)))
    have k3:=eA _ _ _ _ _ _ _ k1 r3.good qM;clear k1 f1 r1 r2 st1 qM hr hf hk hd nX c1;have y0:a3.eval (.tmp 0) = .func (.yield l) #[] #[]:=f3 _ (List.mem_singleton.2 rfl);refine wp_seq (WX (l:=0::(List.range' 1 5 ++ [6,7])) cj ?_)
    refine uT cj cj ?_
    refine aX.val (v:=.func (.yield l) #[] #[]) (w' :=w3) (Post:=λv w' =>v = .func (.yield l) #[] #[]/\w' = w3) (by simp[execOp,y0]) ⟨rfl,rfl⟩ none _ _ λv' w' hp=>?_
    obtain⟨rfl,rfl⟩:=hp;have f4:Fix [(0,.func (.yield l) #[] #[]),(29,.func (.yield l) #[] #[])] (a3.put (some 29) (.func (.yield l) #[] #[])):=by
     intro p hp;simp only[bR,List.not_mem_nil,or_false]at hp;rcases hp with rfl|rfl
     .rw[x8 ab];exact f3 _ (List.mem_singleton.2 rfl)
     .have:=r3.size
      simp only[Act.put,mR];rw[Array.getElem?_setIfInBounds_self_of_lt aa];rfl
    have oX : jN ce fB [.aA false [.aA false (u.map .int),.aA false (v.map .int),.aA false (x.map .int)]]=some (iL (u++v++x)):=hj u v x hu hv hx;refine WZ 1 5 (by decide) fG iD (r3.put (t:=29) cj) f4 ⟨[.v 13,.v 14,.v 15,.p (.cA [.t 2,.t 1,.t 0] 1),.p (.kG fB [.t 0])],[],[],some (34,0)⟩ cj (by kernel_rfl) cj (s1:=⟨[.au,.au,.ar (aW B),.ar (aW C),.int i,.int A.length,aW A,.int j,.int B.length,aW B,.int c,.int C.length,aW C,iL u,iL v,iL x],some (34,iL (u++v++x)),σs k⟩) (by simp[oX]) λi5 I5 a5 w5 r5 Co f5=>?_
    have k5:=eA _ _ _ _ _ _ _ k3 r5.good Co;have y29:a5.eval (.tmp 29) = .func (.yield l) #[] #[]:=f5 (29,.func (.yield l) #[] #[]) ab
    have f6:Fix [(0,.func (.yield l) #[] #[])] a5:=λp hp=>f5 p (by simp at hp;simp[hp])
    have W1:=r5.fl 34 _ rfl;obtain⟨fn,tmps,assign,body,hyl,hR⟩:=hy k _ _ _ (a5.tmps.getD 34 undef) k5 uU (by rw[Cn];exact W1)
    refine uT cj cj ⟨λ_ _=>trivial,?_⟩
    rw[show Oper.semAt (fw none).round a5.eval=execOp a5.eval from rfl,Uy (l:=l) (v:=a5.tmps.getD 34 undef) rfl y29 rfl hyl,Oper.uponIn_round];refine⟨λh=>by simp[fw,Fence.wide]at h,hR.mono ?_⟩
    rintro e w6 ⟨rfl,i6,I6,k6,ev6⟩;dsimp only;have e35:(a5.put (some 35) (.bool true)).eval (.tmp 35) = .bool true:=by
     have:=r5.size;show(a5.put (some 35) (.bool true)).tmps.getD 35 undef=_;simp only[Act.put,mR];rw[Array.getElem?_setIfInBounds_self_of_lt aa];rfl
    refine uT cj cj ?_
    refine aX.val (v:=.bool false) (w' :=w6) (Post:=λv w' =>v = .bool false/\w' = w6) (Uz rfl e35) ⟨rfl,rfl⟩ none _ _ λv' w' hp=>?_;obtain⟨rfl,rfl⟩:=hp;have e36:((a5.put (some 35) (.bool true)).put (some 36) (.bool false)).eval (.tmp 36) = .bool false:=by
     have:=r5.size;show((a5.put (some 35) (.bool true)).put (some 36) (.bool false)).tmps.getD 36 undef=_;simp only[Act.put,mR];rw[Array.getElem?_setIfInBounds_self_of_lt ai];rfl
    have r7:=((r5.WY (σ' :=σs (k+1)) ev6 (hg _ _ _ _ k6)).put (t:=35) (v:=.bool true) cj).put (t:=36) (v:=.bool false) cj
    have f7:=(f6.put (d:=some 35) (v:=.bool true) ab).put (d:=some 36) (v:=.bool false) ab
    show Exit.then _ _ _ _ _;refine wp_cond e36 (wp_skip ?_);simp only[Exit.then,Exit.inBlock];refine nf fG iD r7 f7 ⟨[.p (.bin .add (.v 10) (.c (.int 1))),.t 0],[(10,0)],[15],none⟩ (by kernel_rfl) cj (s1:=⟨[.au,.au,.ar (aW B),.ar (aW C),.int i,.int A.length,aW A,.int j,.int B.length,aW B,.int ((c:Int)+1),.int C.length,aW C,iL u,iL v,.au],none,σs (k+1)⟩) ai λi8 I8 a8 w8 r8 st8 f8=>?_
    have k8:=eA _ _ _ _ _ _ _ k6 r8.good st8;refine⟨c+1,k+1,i8,I8,aa,aa,aa,hd2,k8,f8,?_⟩
    rw[Int.natCast_add];exact r8
def Hl(a:bn Tryz.prog ce) (b:bQ Tryz.prog ce){C:List (List Int)}(y:(A.length:Int)<=1000000) (z:(B.length:Int)<=1000000) (D:(C.length:Int)<=1000000)
  (E:∀u v x,u∈A->v∈B->x∈C->jN ce fB [aW [u,v,x]]=some (iL (u++v++x))):sa Tryz.prog 43 [.ar (aW A),.ar (aW B),.ar (aW C)] (iq A B C):=by
 intro l σs K q d F ids I w vs r G;obtain⟨f,_,rfl,g,h,_,rfl,i,j,_,rfl,o,rfl⟩:=G;refine callsIn_of_wp (c:=(Tryz.f43.body).getD .skip) Tryz.func43 rfl trivial ((wpIn_wide (n:=0)).2 ?_);refine wp_mono (W0 a b y z D E (c:=(Tryz.f43.body).getD .skip) rfl q d F r (Gd (sl:=qk) (nt:=40) (m:=12) (args:=[.au,.ar (aW A),.ar (aW B),.ar (aW C)]) (vs:=[.func (.yield l) #[] #[],f,h,j]) (q _ _ _ _ r) ⟨_,_,rfl,by unfold VR;trivial,f,_,rfl,g,h,_,rfl,i,j,_,rfl,o,rfl⟩ ab (by show ∀k,k<16->4<=k\/qk[k]? = some k;decide)) ?_) ?_
 .intro p s;simp only[List.mem_singleton]at s;subst s
  show([Value.func (.yield l) #[] #[],f,h,j].toArray++Array.replicate (40-4) undef).getD 0 undef=_;rw[mR,kL ab];rfl
 .rintro e L M ⟨rfl,H,J⟩
  exact⟨H,_,results_none rfl _ _ _,⟨_,rfl⟩,J⟩
end Ab
