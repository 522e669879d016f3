/- Blocks of numbers; stores: blocks behind others, blocks that are put, rows that lie somewhere. Numbers sorted, each once. The outputs of a machine, each once. Texts of states, the entries of an automaton: the program. The vector after a symbol, and around a call: the program. The vectors in memory: a vector is numbered. The vectors in memory: what they are seen as; two vectors are combined. Condition: none. -/
import Derived.Test.YtdenhmniigikcaaGreatBfsOrd
import Derived.Test.YtdenhmniigikcaaGreatFrz
import Derived.Test.YtdenhmniigikcaaGreatKey
import Derived.Test.YtdenhmniigikcaaGreatN43Mat
set_option linter.all false
set_option maxRecDepth 100000
set_option maxHeartbeats 4000000
namespace Ab
abbrev Zb (vs:List Int):ag:=⟨none,vs.map .int,.live⟩
theorem bE:∀(σ:List ag) (i:Nat),al σ i=σ[i]?
 | [],i=>by simp[al]
 |x::r,0=>rfl
 |x::r,i+1=>by simp[al,bE r i]
theorem sE:∀(σ:List ag) (i:Nat) (B:ag),az σ i B=σ.set i B
 | [],i,B=>by simp[az]
 |x::r,0,B=>rfl
 |x::r,i+1,B=>by simp[az,sE r i B]
theorem E8{n:Nat}:∀l:List Int,kP n (l.map .int)=l.map .int
 | []=>rfl
 |x::l=>by simp only[dd,kP,jA,E8 l]
theorem dB{Q:List ag}{i:Nat}{B:ag}(h:al Q i=some B):i<Q.length:=by
 rw[bE]at h;exact(cV.1 h).1
theorem gn{Q r:List ag}{i:Nat}{B:ag}(h:al Q i=some B):al (Q++r) i=some B:=by
 have:=dB h;rw[bE]at h ⊢;rw[fw this];exact h
theorem iA{Q r:List ag}{B:ag}:al (Q++B::r) Q.length=some B:=by rw[bE];simp
theorem JS{Q r:List ag}{A B:ag}:al (Q++A::B::r) (Q.length+1)=some B:=by rw[bE];simp
theorem al5{Q r:List ag}{A B C:ag}:al (Q++A::B::C::r) (Q.length+2)=some C:=by rw[bE];simp
theorem cg{Q:List ag}{i:Nat}{B:ag}:(az Q i B).length=Q.length:=by rw[sE];simp
theorem cH{Q:List ag}{i:Nat}{B:ag}(h:i<Q.length):al (az Q i B) i=some B:=by
 rw[bE,sE,List.getElem?_set,ae rfl,ae h]
theorem aP{Q:List ag}{i j:Nat}{B:ag}(h:i ≠ j):al (az Q i B) j=al Q j:=by
 rw[bE,bE,sE,List.getElem?_set,ab h]
structure al6 (σ:List ag) (b:Nat) (E9 : Nat->Nat) (l:List (List Int)):Prop where
 tab:al σ b=some ⟨none,(List.range l.length).map λ(j:Nat)=>AV.sl (E9 j) (ix l (j:Int)).length 0 (ix l (j:Int)).length,.live⟩
 row:∀j:Nat,j<l.length->al σ (E9 j)=some (Zb (ix l (j:Int)))
theorem al7{vars env:List AV}{x:Rf}{z:List AV}{k:Option Nat}{aA σ:List ag}{K:List AV->List ag->List ag->Prop}{b u off len:Nat}{B:ag}(hr:rv vars env x = .sl b u off len) (hu:upto σ b u=some B) (hc:0<len/\off+len*aC k<=B.cells.length/\aC B.k=aC k/\z.length=aC k/\B.st.isLive=true):ct L vars (.vm x z k) false env aA σ K=K (.aM::env) [] (az σ b ⟨B.k,putAt B.cells off (eG len z),B.st⟩):=by
 show aQ (fF L σ (rv vars env) (.vm x z k)) (λp=>K (p.1::env) [] p.2)=_;simp only[fF,hr,hu];rw[ae hc];rfl
def fZ (l:List Int):Nat->List Int
 |0=>[]
 |n+1=>if 0<n/\ix l (n:Int)=ix l ((n:Int)-1)then fZ l n else fZ l n ++ [ix l (n:Int)]
def il (l:List Int):List Int:=fZ l l.length
theorem JT{l:List Int}:∀{n:Nat}{w:Int},n<=l.length->(w∈fZ l n↔∃j:Int,0<=j/\j<n/\ix l j=w)
 |0,w,_=>by simp[fZ];intro j;omega
 |n+1,w,h=>by
  have ih:=λw=>JT (l:=l) (n:=n) (w:=w) (by omega)
  unfold fZ;split
  ·rename_i he
   rw[ih];constructor
   ·rintro⟨j,j0,j1,e⟩;exact⟨j,j0,by omega,e⟩
   ·rintro⟨j,j0,j1,e⟩
    by_cases hj:j=(n:Int)
    ·subst hj;exact⟨(n:Int)-1,by omega,by omega,by rw[<-he.2];exact e⟩
    ·exact⟨j,j0,by omega,e⟩
  ·rw[eH,ih]
   constructor
   ·rintro(⟨j,j0,j1,e⟩|e)
    ·exact⟨j,j0,by omega,e⟩
    ·simp at e;exact⟨n,by omega,by omega,e.symm⟩
   ·rintro⟨j,j0,j1,e⟩
    by_cases hj:j=(n:Int)
    ·subst hj;right;simp[e]
    ·left;exact⟨j,j0,by omega,e⟩
theorem al8{l:List Int}{w:Int}:w∈il l↔w∈l:=by
 unfold il;rw[JT (bA _)];constructor
 ·rintro⟨j,j0,j1,rfl⟩;exact aU j0 j1
 ·intro h
  obtain⟨j,hj,e⟩:=fM.1 h;exact⟨j,by omega,by omega,by rw[aT hj,e]⟩
theorem Ta (l:List Int):∀n,(fZ l n).length<=n
 |0=>by simp[fZ]
 |n+1=>by
  have:=Ta l n;unfold fZ;split
  ·omega
  ·simp;omega
theorem Tb{l:List Int}(hs:l.Pairwise (·<=·)):∀{n:Nat},n<=l.length->(fZ l n).Pairwise (·< ·)
 |0,_=>by simp[fZ]
 |n+1,h=>by
  have ih:=Tb hs (n:=n) (by omega)
  unfold fZ;split
  ·exact ih
  ·rename_i hn
   rw[List.pairwise_append];refine⟨ih,by simp,λa ha b hb=>?_⟩
   simp at hb;subst hb;obtain⟨j,j0,j1,rfl⟩:=(JT (by omega)).1 ha
   have le:∀i k:Nat,i<=k->k<l.length->ix l (i:Int)<=ix l (k:Int):=λi k h1 h2=>by
    rcases Nat.lt_or_eq_of_le h1 with h1|h1
    ·rw[aT (by omega),aT h2]
     exact rC.1 hs i k (by omega) h2 h1
    ·subst h1;omega
   have a1:=le j.toNat (n-1) (by omega) (by omega)
   have a2:=le (n-1) n (by omega) (by omega)
   rw[show((j.toNat:Nat):Int)=j by omega,show((n-1:Nat):Int)=(n:Int)-1 by omega]at a1
   rw[show((n-1:Nat):Int)=(n:Int)-1 by omega]at a2
   have a3:ix l (n:Int) ≠ ix l ((n:Int)-1):=λe=>hn ⟨by omega,e⟩
   omega
theorem Tc{vs:List Int}(h:fZ vs vs.length=vs.take vs.length):il vs=vs:=by unfold il;rw[h,List.take_length]
theorem Td{vs:List Int}(h:0<vs.length):fZ vs 1=vs.take 1:=by
 match vs,h with
 |x::r,_=>rfl
theorem Te{vs:List Int}{k:Int}(k0:1<=k) (h:ix vs k=ix vs (k-1)):fZ vs (k+1).toNat=fZ vs k.toNat:=by
 rw[show(k+1).toNat=k.toNat+1 by omega]
 conv=>lhs;unfold fZ
 rw[ae ⟨by omega,by rw[show((k.toNat:Nat):Int)=k by omega];exact h⟩]
theorem Th{vs:List Int}{k:Int}(k0:1<=k) (h:¬ix vs k=ix vs (k-1)):fZ vs (k+1).toNat=fZ vs k.toNat ++ [ix vs k]:=by
 rw[show(k+1).toNat=k.toNat+1 by omega]
 conv=>lhs;unfold fZ
 rw[ab (λ⟨_,e⟩=>h (by rwa [show((k.toNat:Nat):Int)=k by omega]at e)),show((k.toNat:Nat):Int)=k by omega]
theorem al9{vs:List Int}{k:Int}(h0:0<=k) (h1:k<vs.length):vs.take (k+1).toNat=vs.take k.toNat ++ [ix vs k]:=by
 rw[show(k+1).toNat=k.toNat+1 by omega,nO,l8 h0 h1];rfl
abbrev ZB (vs:List Int) (r:Nat):ag:=⟨none,vs.map .int++List.replicate r (.int 0),.live⟩
theorem ama (vs:List Int) (h0:vs ≠ []) (hl:(vs.length:Int)<=1000000) :
  LX L Jt [.sl 0 vs.length 0 vs.length] [Zb vs] (λv τ=>v = .sl 0 vs.length 0 (il vs).length/\τ=[ZB (il vs) (vs.length-(il vs).length)]):=by
 have hn:0<vs.length:=mC.2 h0;refine ajk rfl ?_
 by_cases h2:vs.length<2
 ·simp[show(vs.length:Int)<2 by omega]
  have e1:vs.length=1:=by omega
  rw[Tc (by rw[e1];exact Td hn)];simp
 ·simp[show ¬(vs.length:Int)<2 by omega]
  refine bu (λk:Int=>[(1,.int k)]) (λ_=>[Zb vs]) (λk=>1<=k/\k<=vs.length/\fZ vs k.toNat=vs.take k.toNat) (λk=>(vs.length-k).toNat) 1 rfl ⟨by omega,by omega,?_⟩ λk ⟨k0,k1,k2⟩=>?_
  ·exact Td hn
  by_cases hk:k<vs.length
  ·simp[-ao,hk,show 0<=k by omega,show 0<=k-1 by omega,show k-1<(vs.length:Int)by omega]
   refine⟨by omega,by omega,by omega,λhe=>⟨by omega,?_⟩,λhe=>⟨by omega,aX (k+1) rfl rfl ⟨by omega,by omega,by rw[Th (by omega) he,k2,al9 (by omega) hk]⟩ (by omega)⟩⟩
   obtain⟨k,rfl⟩:∃k' : Nat,k=k' :=⟨k.toNat,by omega⟩
   have hkn:k<vs.length:=by omega
   rw[kG]at k2 ⊢;have bV:=Te (vs:=vs) k0 he;rw[show((k:Int)+1).toNat=k+1 by omega,kG,k2]at bV
   refine bu (λp:Nat×Nat×List Int=>[(1,.int p.1),(2,.int ((p.2.1:Int)+1))]) (λp=>[Zb p.2.2]) (λp=>k+p.2.1+1<=vs.length/\p.2.2.length=vs.length/\p.1=(fZ vs (k+p.2.1+1)).length/\p.1<=k+p.2.1/\p.2.2.take p.1=fZ vs (k+p.2.1+1)/\∀j:Nat,k+p.2.1<=j->j<vs.length->ix p.2.2 (j:Int)=ix vs (j:Int))
    (λp=>vs.length-p.2.1) (k,0,vs) (by simp[bY]) ⟨by dsimp only;omega,rfl,by dsimp only;rw[Nat.add_zero,bV];simp;omega,by dsimp only;omega,by dsimp only;rw[Nat.add_zero,bV],λ_ _ _=>rfl⟩ ?_
   rintro⟨q,j,cs⟩ ⟨j1,c1,c2,c3,c4,c5⟩;dsimp only at j1 c1 c2 c3 c4 c5 ⊢
   by_cases hj:k+j+1<vs.length
   ·have e1:=c5 (k+j+1) (by omega) hj
    have e2:=c5 (k+j) (by omega) (by omega)
    have s1:ix vs ((k+j+1:Nat):Int)=ix vs ((k+j:Nat):Int)->fZ vs (k+(j+1)+1)=fZ vs (k+j+1):=λh=>by
     have:=Te (vs:=vs) (k:=((k+j+1:Nat):Int)) (by omega) (by rw[show((k+j+1:Nat):Int)-1=((k+j:Nat):Int)by omega];exact h)
     rw[show(((k+j+1:Nat):Int)+1).toNat=k+(j+1)+1 by omega,show(((k+j+1:Nat):Int)).toNat=k+j+1 by omega]at this
     exact this
    have s2:¬ix vs ((k+j+1:Nat):Int)=ix vs ((k+j:Nat):Int)->fZ vs (k+(j+1)+1)=fZ vs (k+j+1) ++ [ix vs ((k+j+1:Nat):Int)]:=λh=>by
     have:=Th (vs:=vs) (k:=((k+j+1:Nat):Int)) (by omega) (by rw[show((k+j+1:Nat):Int)-1=((k+j:Nat):Int)by omega];exact h)
     rw[show(((k+j+1:Nat):Int)+1).toNat=k+(j+1)+1 by omega,show(((k+j+1:Nat):Int)).toNat=k+j+1 by omega]at this
     exact this
    rw[<-e1,<-e2,show((k+j+1:Nat):Int)=(k:Int)+((j:Int)+1)by omega,show((k+j:Nat):Int)=(k:Int)+j by omega]at s1 s2
    simp[-ao,c1,show(j:Int)+1<((vs.length-k:Nat):Int)by omega]
    refine⟨by omega,by omega,by omega,by omega,by omega,λh=>⟨by omega,aX (q,j+1,cs) (by simp) rfl ⟨by dsimp only;omega,c1,by dsimp only;rw[s1 h];exact c2,by dsimp only;omega,by dsimp only;rw[s1 h];exact c4,λi a b=>c5 i (by dsimp only at a;omega) b⟩ (by dsimp only;omega)⟩,λh=>⟨by omega,by omega,by omega,by omega,by omega,aX (q+1,j+1,cs.set q (ix cs ((k:Int)+((j:Int)+1)))) (by simp) (by simp[List.map_set]) ⟨by dsimp only;omega,by simp[c1],by dsimp only;rw[s2 h];simp;exact c2,by dsimp only;omega,?_,λi a b=>?_⟩ (by dsimp only;omega)⟩⟩
    ·dsimp only
     rw[s2 h,<-c4,nO,List.take_set_of_le (bA _),List.getElem?_set_self (by omega)]
     rfl
    ·dsimp only at a ⊢
     rw[zR (by omega) (by omega),ab (by omega)]
     exact c5 i (by omega) b
   ·simp[-ao,show ¬(j:Int)+1<((vs.length-k:Nat):Int)by omega]
    have hqn:q<=vs.length:=by omega
    have wE:k+j+1=vs.length:=by omega
    rw[wE]at c2 c4;refine⟨c1,hqn,?_⟩;rw[al7 (B:=Zb cs) rfl (by simp[upto,al,c1]) ⟨by omega,by simp[c1];omega,rfl,rfl,rfl⟩]
    have jn:putAt (cs.map .int) q (eG (vs.length-q) [.int 0])=(il vs).map .int++List.replicate (vs.length-q) (.int 0):=by
     unfold putAt;rw[<-List.map_take,c4,jJ (by simp[eG,c1];omega)]
     simp[eG,il]
    have GQ:(il vs).length=q:=by unfold il;exact c2.symm
    simp[-List.map_replicate,jn,GQ];omega
  ·simp[hk]
   rw[show k.toNat=vs.length by omega]at k2
   rw[Tc k2];simp
theorem amb{σ:List ag}{b n:Nat}{zs:List Int}(hu:al σ b=some (Zb zs)) (hn:n=zs.length) (h0:zs ≠ []) (hl:(zs.length:Int)<=1000000):L zH [.sl b n 0 n] σ=some (.bS [],az σ b (Zb (cC zs))):=by
 subst hn;refine ajj (N:=0) ?_;have se : upto σ b zs.length=some (Zb zs):=by
  unfold upto;rw[hu];simp
 have hp:0<zs.length:=mC.2 h0;simp only[kh,se];have hb:zs.length<=dG:=by show zs.length<=1073741824;omega
 rw[ae (by simp[eo.isLive,gX,hp];omega)]
 have ht:(((zs.map AV.int).drop 0).take zs.length)=zs.map .int:=by rw[nP,gu (by simp)]
 rw[ht,H0];have hs:(cC zs).length=zs.length:=(wi zs).length_eq;have jn:putAt (zs.map AV.int) 0 ((cC zs).map .int)=(cC zs).map .int:=by
  unfold putAt;rw[List.take_zero,rf,jJ (by simp[hs])];simp
 simp only[jn]
theorem zS{rest:List AV}:∀{xs:List Int},chunk none xs.length (xs.map AV.int++rest)=xs.map .int
 | []=>rfl
 |x::xs=>by
  have e:=zS (rest:=rest) (xs:=xs);simp only[cy,dd,lf,chunk,e]
theorem Ti{σ:List ag}{b u r:Nat}{xs:List Int}(h:al σ b=some (ZB xs r)) (hu:u=xs.length+r):view σ false vd (.sl b u 0 xs.length)=some (iL xs):=by
 subst hu;have hu:upto σ b (xs.length+r)=some (ZB xs r):=by
  unfold upto;rw[h];simp
 show view σ false (11+1) _=_;unfold view;simp only[hu,aC,nP,jj,Nat.mul_one];rw[ae (by simp),zS,E4 (f:=AV.int) (g:=AV.int) (v:=view σ false 11) λ_ _=>rfl]
theorem amc (l:List Int):(il l).length<=l.length:=Ta l _
theorem Tj{k:Nat}:∀{ls:List (List Int)},(∀r∈ls,r.length<=k)->ls.flatten.length<=ls.length*k
 | [],_=>by simp
 |r::ls,h=>by
  have h1:=Tj (k:=k) (ls:=ls) λx hx=>h x (by simp[hx])
  have h2:=h r (by simp)
  simp[fC]at h1 ⊢;omega
attribute [local simp] nX
theorem amd{A:List AV}{x z:AV}{i k:Nat}(h:A.length=i):putAt (A++List.replicate (k+1) z) i [x]=A ++ [x]++List.replicate k z:=by
 subst h;unfold putAt;rw[List.take_left,List.drop_append,jJ (by simp)]
 simp[List.drop_replicate]
theorem JU (l:List Int) (hl:∀x∈l,0<=x/\x<=255) (hn:l.length<=100000):PC zr [iL l]=some (.str (ff l)):=by
 refine cu (ajc rfl ?_);simp[-ao];refine⟨by omega,?_⟩
 refine bu (λi:Nat=>[(4,.sl 0 l.length 0 i),(1,.int i)]) (λi=>[⟨none,(l.take i).map (AV.ik 4)++List.replicate (l.length-i) (.ik 4 0),.live⟩]) (λi=>i<=l.length) (λi=>l.length-i) 0 (by simp[bY]) (by omega) ?_
 intro i Z6
 by_cases hi:i<l.length
 ·have tk:=lj hi
  have hx:=hl _ (aU (l:=l) (n:=(i:Int)) (by omega) (by omega))
  have mc:min i l.length=i:=q8 (by omega)
  simp[-ao,-List.map_take,hi,hx.1,hx.2,mc];refine⟨by omega,by omega,λh=>absurd h (by omega),λ_=>⟨by omega,by omega,aX (i+1) (by simp) ?_ (by omega) (by omega)⟩⟩
  rw[tk,lg,show l.length-i=(l.length-(i+1))+1 by omega]
  have:=amd (A:=(l.take i).map (AV.ik 4)) (z:=.ik 4 0) (x:=.ik 4 (ix l (i:Int))) (k:=l.length-(i+1)) (i:=i) (by simp;omega)
  exact congrArg (λc=>[(⟨none,c,.live⟩:ag)]) this
 ·have ei:i=l.length:=by omega
  subst ei;have hb:=EU (l:=l) hl;have e:(l.map (AV.ik 4)).take l.length=l.map (AV.ik 4):=gu (by simp)
  simp[-ao,-List.map_take,e,hb]
def ak.bw (n:ak):List Int:=il (cC (n.start::n.call.flatten))
theorem tx{n:ak}{x:Int}:x∈n.bw↔x=n.start\/∃r∈n.call,x∈r:=by
 unfold ak.bw;rw[al8,(wi _).mem_iff];simp[List.mem_flatten]
theorem ame{n:ak}:n.bw.Pairwise (·< ·):=Tb (H6 _) (bA _)
theorem ak.Ok.GR{n:ak}(hn:n.Ok):∀r∈n.call,r.length<=64:=λr hr=>by
 obtain⟨j,hj,e⟩:=fM.1 hr;have ln:=hn.lens;have:=(hn.row j (by omega) (by omega)).1
 rw[aT hj,e]at this;have:=hn.calls;omega
theorem amf (n:ak) (hn:n.Ok):PC Jg [n.av]=some (iL n.bw):=by
 refine cu (aiW rfl ?_);have ln:=hn.lens;have hb:=Tj hn.GR;have mj:n.call.length<=128:=by have:=hn.states;omega
 have hle:∀i:Nat,(n.call.take i).flatten.length<=n.call.flatten.length:=λi=>by
  have e:(n.call.take i).flatten++(n.call.drop i).flatten=n.call.flatten:=by rw[<-List.flatten_append,oR]
  rw[<-e];simp
 simp[-ao];refine bu (λi:Nat=>[(2,.int i),(5,.sl 0 ((n.call.take i).flatten.length+1) 0 ((n.call.take i).flatten.length+1))]) (λi=>[Zb (n.start::(n.call.take i).flatten)]) (λi=>i<=n.call.length) (λi=>n.call.length-i) 0 (by simp[bY]) (by omega) ?_
 intro i i0
 by_cases hi:i<n.call.length
 ·have t1:(n.call.take (i+1)).flatten=(n.call.take i).flatten++ix n.call (i:Int):=by
   rw[lj hi,List.flatten_append];simp
  have mL:=hle (i+1);have hr:=hn.GR _ (aU (l:=n.call) (n:=(i:Int)) (by omega) (by omega))
  rw[t1]at mL;generalize (n.call.take i).flatten=F at *;rw[bz]at mL;simp[-ao,-List.length_flatten,hi];refine⟨by omega,λh=>⟨by omega,aX (i+1) (by rw[t1,h];simp) (by rw[t1,h];simp) (by omega) (by omega)⟩,λh=>⟨by omega,aX (i+1) (by rw[t1];simp;omega) (by rw[t1];simp) (by omega) (by omega)⟩⟩
 ·have ei:i=n.call.length:=by omega
  subst ei;rw[List.take_length];have BK:=hle n.call.length;generalize hF:n.call.flatten=F at *;have art:n.call.length*64<=128*64:=jT _ mj;have h1:=amb (σ:=[Zb (n.start::F)]) (b:=0) (n:=F.length+1) (zs:=n.start::F) rfl (by simp) (by simp) (by simp;omega)
  have h1:L zH [.sl 0 (F.length+1) 0 (F.length+1)] [Zb (n.start::F)]=some (.bS [],[Zb (cC (n.start::F))]):=h1;have gB:(cC (n.start::F)).length=F.length+1:=by rw[(wi _).length_eq];rfl
  have oI:cC (n.start::F) ≠ []:=λe=>by rw[e]at gB;simp at gB
  obtain⟨v,τ,h2,rfl,rfl⟩:=dS (ama (cC (n.start::F)) oI (by omega))
  rw[gB]at h2;have gG:=amc (cC (n.start::F));have pL:=Ti (σ:=[ZB (il (cC (n.start::F))) (F.length+1-(il (cC (n.start::F))).length)]) (b:=0) (u:=F.length+1) rfl (by omega)
  simp[-ao,-List.map_replicate,h1,h2,pL];unfold ak.bw;rw[hF]
end Ab
namespace Ab
abbrev nw (l:List (List (List (List Int)))):AV:=.aE false (l.map fX)
structure Tl where
 n:ak
 plc:List Int
 K:List (List Int)
 IN:List (List Int)
 BL:List (List (List (List Int)))
abbrev Tl.av (v:Tl):AV:=.bd (.agg [.int v.n.calls,.int v.n.aj,.int v.n.aq,.int v.n.stack,.int v.n.start,bL v.n.accept,cO v.n.call,cO v.n.push,cO v.n.inner,fX v.n.pop,iL v.n.bw,iL v.plc,cO v.K,.qb,cO v.IN,nw v.BL])
def ak.tz (n:ak) (l:List Int):Prop:=∀s∈l,0<=s/\s<(n.accept.length:Int)
theorem zT{σ:List ag}{b n:Nat}{fr:Bool}{out:List Int}(h:al σ b=some (fy out)) (hn:n=out.length):view σ fr vd (.sl b n 0 n)=some (iL out):=by
 subst hn;exact qP h (by split<;>simp) rfl
theorem amg (v:Tl) (hn:v.n.Ok) (x i:Int) (hx:0<=x/\x<(v.K.length:Int)) (hi:0<=i/\i<v.n.aj) (hr:v.n.tz (ix v.K x)) (hl:(ix v.K x).length<=1000):LX L Ji [v.av,.int x,.int i] [] (λr τ=>cx τ true r=some (iL ((ix v.K x).map λs=>ix (ix v.n.inner s) i))):=by
 refine aiX rfl ?_;have ln:=hn.lens;simp[-ao,hx.1,hx.2];generalize ix v.K x=l at *;refine bu (λk:Nat=>[(3,.int k),(6,.sl 0 k 0 k)]) (λk=>[fy ((l.take k).map λs=>ix (ix v.n.inner s) i)]) (λk=>k<=l.length) (λk=>l.length-k) 0 (by simp[bY]) (by omega) ?_
 intro k k0
 by_cases hk:k<l.length
 ·have hs:=hr _ (aU (l:=l) (n:=(k:Int)) (by omega) (by omega))
  have rO:=(hn.row _ hs.1 hs.2).2.2.1;have h1:=bH (show ix l (k:Int)<(v.n.inner.length:Int)by omega)
  have h2:=bH (show i<((ix v.n.inner (ix l (k:Int))).length:Int)by omega)
  have mc:min k l.length=k:=q8 (by omega)
  simp[-ao,-List.map_take,hk,hs.1,h1,h2,hi.1,mc];exact⟨by split<;>rfl,by omega,by omega,aX (k+1) (by simp) (by rw[lj hk];simp) (by omega) (by omega)⟩
 ·have ek:k=l.length:=by omega
  subst ek;simp[-ao];exact zT rfl (by simp)
def ak.qu (n:ak) (plc y:List Int) (c r s:Int):Int:=
 ix (ix (ix n.pop (ix y (ix plc (ix (ix n.call s) c)))) (ix (ix n.push s) c)) r
theorem amh (v:Tl) (hn:v.n.Ok) (x c y r:Int) (hx:0<=x/\x<(v.K.length:Int)) (hy:0<=y/\y<(v.K.length:Int)) (hc:0<=c/\c<v.n.calls) (AR:0<=r/\r<v.n.aq) (hr:v.n.tz (ix v.K x)) (A0:v.n.tz (ix v.K y)) (hl:(ix v.K x).length<=1000)
  (hp:∀s,0<=s->s<(v.n.accept.length:Int)->ix (ix v.n.call s) c<(v.plc.length:Int)/\0<=ix v.plc (ix (ix v.n.call s) c)/\ix v.plc (ix (ix v.n.call s) c)<((ix v.K y).length:Int)):LX L Ju [v.av,.int x,.int c,.int y,.int r] [] (λz τ=>cx τ true z=some (iL ((ix v.K x).map (v.n.qu v.plc (ix v.K y) c r)))):=by
 refine ajl rfl ?_;have ln:=hn.lens;simp[-ao,hx.1,hx.2];generalize ix v.K x=l at *;refine bu (λk:Nat=>[(5,.int k),(9,.sl 0 k 0 k)]) (λk=>[fy ((l.take k).map (v.n.qu v.plc (ix v.K y) c r))]) (λk=>k<=l.length) (λk=>l.length-k) 0 (by simp[bY]) (by omega) ?_
 intro k k0
 by_cases hk:k<l.length
 ·have hs:=hr _ (aU (l:=l) (n:=(k:Int)) (by omega) (by omega))
  have tk:=lj hk;have rO:=hn.row _ hs.1 hs.2;have jD:=hp _ hs.1 hs.2;have gG:=hn.call _ _ hs.1 hs.2 hc.1 hc.2;have LW:=hn.push _ _ hs.1 hs.2 hc.1 hc.2;have ht:=A0 _ (aU jD.2.1 jD.2.2);have GK:=hn.row _ ht.1 ht.2;have pz:=hn.EW _ _ ht.1 ht.2 LW.1 LW.2;have mc:min k l.length=k:=q8 (by omega)
  simp[-ao,-List.map_take,hk,hs.1,mc];refine⟨hy,by omega,by omega,by omega,by omega,by omega,by omega,by omega,by omega,by omega,by split<;>rfl,by omega,by omega,aX (k+1) (by simp) (by rw[tk];simp[ak.qu]) (by omega) (by omega)⟩
 ·have ek:k=l.length:=by omega
  subst ek;simp[-ao];exact zT rfl (by simp)
def qQ:Nat->List (List Int)->List (AV×AV)
 |_,[]=>[]
 |i,l::K=>(.str (ff l),.int i)::qQ (i+1) K
theorem Fa:∀(i:Nat) (K:List (List Int)) (l:List Int),qQ i (K ++ [l])=qQ i K ++ [(.str (ff l),.int ((i+K.length:Nat):Int))]
 |i,[],l=>by simp[qQ]
 |i,k::K,l=>by
  have:=Fa (i+1) K l;simp only[lf,qQ,this,cy];rw[show i+1+K.length=i+(K.length+1)by omega]
def dC (l:List Int):Prop:=∀x∈l,0<=x/\x<=255
theorem wX{l:List Int}(hl:dC l):∀(i:Nat) (K:List (List Int)),(∀k∈K,dC k)->cL (qQ i K) (.str (ff l))=some (if l∈K then some (.int ((i+K.idxOf l:Nat):Int))else none)
 |i,[],_=>rfl
 |i,k::K,h=>by
  have ih:=wX hl (i+1) K λr hr=>h r (by simp[hr])
  simp only[qQ,cL,eA]
  by_cases hp:k=l
  ·subst hp;simp[List.idxOf_cons]
  ·have h1:decide (ff l=ff k)=false:=by
    rw[wm];intro hk;exact hp (EV hl (h k (by simp)) hk).symm
   rw[h1];simp only[ih];have h2:¬l=k:=λe=>hp e.symm;have h3:(k==l)=false:=by simpa using hp
   simp[h2,List.idxOf_cons,h3];split
   ·congr 2;omega
   ·rfl
inductive Tg where
 |v|pl|mp|ls|aR|bl
 |rw(x:Nat)
 |cl (x c:Nat)
 |old (i:Nat)
 deriving DecidableEq
def cT (b k:Nat):AV:=if k=0 then .ah else .sl b k 0 k
def wI (l:List Int):AV:=.aE (decide (l ≠ [])) (l.map .int)
structure Vd where
 n:ak
 plc:List Int
 K:List (List Int)
 IN:List (List Int)
 BL:List (List (List (List Int)))
abbrev Vd.vcs (D:Vd):Tl:=⟨D.n,D.plc,D.K,D.IN,D.BL⟩
def Vd.row (D:Vd) (x:Nat):List (List (List Int)):=ix D.BL (x:Int)
def Vd.bX (D:Vd) (x c:Nat):List (List Int):=ix (D.row x) (c:Int)
def Vd.box (D:Vd) (p:Tg->Nat):ag:=⟨some 16,[.int D.n.calls,.int D.n.aj,.int D.n.aq,.int D.n.stack,.int D.n.start,bL D.n.accept,cO D.n.call,cO D.n.push,cO D.n.inner,fX D.n.pop,iL D.n.bw,.sl (p .pl) D.plc.length 0 D.plc.length,.sl (p .ls) D.K.length 0 D.K.length,.cQ (p .mp),cT (p .aR) D.IN.length,cT (p .bl) D.BL.length],.live⟩
def Vd.ua (D:Vd) (p:Tg->Nat):ag:=⟨none,(List.range D.BL.length).map λx=>.sl (p (.rw x)) (D.row x).length 0 (D.row x).length,.live⟩
def Vd.kn (D:Vd) (p:Tg->Nat) (x:Nat):ag:=⟨none,(List.range (D.row x).length).map λc=>cT (p (.cl x c)) (D.bX x c).length,.live⟩
def Vd.cont (D:Vd) (O:Nat->Option ag) (p:Tg->Nat):Tg->Option ag
 |.v=>some (D.box p)
 |.pl=>some (Zb D.plc)
 |.mp=>some ⟨some 0,[],.map (qQ 0 D.K)⟩
 |.ls=>some ⟨none,D.K.map iL,.live⟩
 |.aR=>if D.IN=[]then none else some ⟨none,D.IN.map wI,.live⟩
 |.bl=>if D.BL=[]then none else some (D.ua p)
 |.rw x=>if x<D.BL.length then some (D.kn p x)else none
 |.cl x c=>if x<D.BL.length/\c<(D.row x).length/\D.bX x c ≠ []then some ⟨none,(D.bX x c).map wI,.live⟩else none
 |.old i=>O i
structure VS (D:Vd) (O:Nat->Option ag) (p:Tg->Nat) (σ:List ag):Prop where
 has:∀t B,D.cont O p t=some B->al σ (p t)=some B
 inj:∀t u A B,D.cont O p t=some A->D.cont O p u=some B->p t=p u->t=u
 old:∀i,p (.old i)=i
theorem uR{σ:List ag}{b u:Nat}{B:ag}(h:al σ b=some B) (hu:B.cells.length=u) (hs:B.st.gz=true):upto σ b u=some B:=by
 unfold upto;rw[h];cases hb:B.st<;>simp_all
theorem VS.ne{D:Vd}{O:Nat->Option ag}{p:Tg->Nat}{σ:List ag}(h:VS D O p σ){t u:Tg}{A B:ag}(ht:D.cont O p t=some A) (hu:D.cont O p u=some B) (hn:t ≠ u):p t ≠ p u:=λe=>hn (h.inj t u A B ht hu e)
theorem VS.lt{D:Vd}{O:Nat->Option ag}{p:Tg->Nat}{σ:List ag}(h:VS D O p σ){t:Tg}{A:ag}(ht:D.cont O p t=some A):p t<σ.length:=dB (h.has t A ht)
theorem VS.tA{D D' : Vd}{O:Nat->Option ag}{p:Tg->Nat}{σ τ:List ag}(h:VS D O p σ) (hu:∀t B,D'.cont O p t=some B->∃A,D.cont O p t=some A) (hb:∀t B,D'.cont O p t=some B->al τ (p t)=some B):VS D' O p τ:=
 ⟨hb,λt u A B ht se e=>by
  obtain⟨A', hA⟩:=hu t A ht;obtain⟨B', hB⟩:=hu u B se;exact h.inj t u A' B' hA hB e,h.old⟩
def tB (O:Nat->Option ag) (b:Nat) (B:ag):Nat->Option ag:=λi=>if i=b then some B else O i
theorem uS{D:Vd}{O:Nat->Option ag}{p:Tg->Nat}{b:Nat}{B:ag}{t:Tg}(ht:t ≠ .old b):D.cont (tB O b B) p t=D.cont O p t:=by
 cases t<;>try rfl
 rename_i i;show tB O b B i=O i;unfold tB;rw[ab λe=>ht (by rw[e])]
theorem wY{D:Vd}{O:Nat->Option ag}{p:Tg->Nat}{b:Nat}{B:ag}:D.cont (tB O b B) p (.old b)=some B:=ae rfl
theorem VS.push{D:Vd}{O:Nat->Option ag}{p:Tg->Nat}{σ:List ag}(h:VS D O p σ) (B:ag):VS D (tB O σ.length B) p (σ ++ [B]):=by
 refine⟨λt A hA=>?_,λt u A A' hA uT e=>?_,h.old⟩
 ·by_cases ht:t = .old σ.length
  ·subst ht
   rw[wY]at hA;rw[h.old,<-hA];exact iA
  ·rw[uS ht]at hA
   exact gn (h.has t A hA)
 ·by_cases ht:t = .old σ.length
  ·by_cases hu:u = .old σ.length
   ·rw[ht,hu]
   ·rw[uS hu]at uT
    have:=h.lt uT;rw[<-e,ht,h.old]at this;omega
  ·by_cases hu:u = .old σ.length
   ·rw[uS ht]at hA
    have:=h.lt hA;rw[e,hu,h.old]at this;omega
   ·rw[uS ht]at hA
    rw[uS hu]at uT;exact h.inj t u A A' hA uT e
theorem VS.put{D:Vd}{O:Nat->Option ag}{p:Tg->Nat}{σ:List ag}(h:VS D O p σ){b:Nat}{A:ag}(hA:O b=some A) (B:ag):VS D (tB O b B) p (az σ b B):=by
 have hb:D.cont O p (.old b)=some A:=hA;have aK:=h.lt hb;rw[h.old]at aK;refine⟨λt C hC=>?_,λt u C C' hC xD e=>?_,h.old⟩
 ·by_cases ht:t = .old b
  ·subst ht
   rw[wY]at hC;rw[h.old,<-hC];exact cH aK
  ·rw[uS ht]at hC
   have:=h.ne hb hC (Ne.symm ht);rw[h.old]at this;rw[aP this];exact h.has t C hC
 ·have key:∀t C,D.cont (tB O b B) p t=some C->∃C', D.cont O p t=some C' :=λt C hC=>by
   by_cases ht:t = .old b
   ·subst ht;exact⟨A,hb⟩
   ·rw[uS ht]at hC;exact⟨C,hC⟩
  obtain⟨_,h1⟩:=key t C hC;obtain⟨_,h2⟩:=key u C' xD;exact h.inj t u _ _ h1 h2 e
theorem VS.zU{D:Vd}{O O' : Nat->Option ag}{p:Tg->Nat}{σ:List ag}(h:VS D O p σ) (ho:∀i B,O' i=some B->O i=some B):VS D O' p σ:=by
 have key:∀t B,D.cont O' p t=some B->D.cont O p t=some B:=λt B hB=>by
  cases t<;>try exact hB
  exact ho _ _ hB
 exact⟨λt B hB=>h.has t B (key t B hB),λt u A B hA hB e=>h.inj t u A B (key t A hA) (key u B hB) e,h.old⟩
def Vd.add (D:Vd) (l:List Int):Vd:=if l∈D.K then D else {D with K:=D.K ++ [l]}
theorem Tm (D:Vd) (O:Nat->Option ag) (p:Tg->Nat) (σ:List ag) (h:VS D O p σ) (l:List Int) (hl:dC l) (hk:∀k∈D.K,dC k) (hll:l.length<=1000) (Xb:D.K ≠ []) (hK:D.K.length<=100000) :
  LX L wT [.ptr (p .v) 16 0,iL l] σ (λr τ=>r = .int (D.K.idxOf l)/\VS (D.add l) O p τ/\τ.length=σ.length):=by
 refine QU rfl ?_;have hv:=h.has .v _ rfl;have NZ:=h.has .mp _ rfl;have xO:=h.has .ls _ rfl;have ht:=JU l hl (by omega)
 have hf:=wX hl 0 D.K hk;have qR:∀x,bg 1 (.str x)=true:=λ_=>rfl;unfold Vd.box at hv
 by_cases hm:l∈D.K
 ·rw[ae hm]at hf
  simp[-ao,hv,NZ,xO,ht,hf,qR];rw[Vd.add,ae hm];exact h
 ·rw[ab hm]at hf
  have e1:p .mp ≠ p .v:=h.ne (t:=.mp) (u:=.v) rfl rfl (by simp)
  have e2:p .mp ≠ p .ls:=h.ne (t:=.mp) (u:=.ls) rfl rfl (by simp)
  have e3:p .ls ≠ p .v:=h.ne (t:=.ls) (u:=.v) rfl rfl (by simp)
  have b1:∀(Q:List ag) B,al (az Q (p .mp) B) (p .v)=al Q (p .v):=λQ B=>aP e1;have b2:∀(Q:List ag) B,al (az Q (p .mp) B) (p .ls)=al Q (p .ls):=λQ B=>aP e2;have b3:∀(Q:List ag) B,al (az Q (p .ls) B) (p .v)=al Q (p .v):=λQ B=>aP e3;have hi:D.K.idxOf l=D.K.length:=List.idxOf_eq_length hm;simp[-ao,hv,NZ,xO,ht,hf,qR,b1,b2,b3];refine⟨by omega,by omega,?_,by rw[cg,cg,cg]⟩
  rw[Vd.add,ab hm];have hq:∀t,t ≠ .v->t ≠ .ls->t ≠ .mp->Vd.cont {D with K:=D.K ++ [l]} O p t=D.cont O p t:=λt h1 h2 h3=>by
   cases t<;>first|rfl|exact absurd rfl h1|exact absurd rfl h2|exact absurd rfl h3
  refine h.tA (λt B hB=>?_) λt B hB=>?_
  ·by_cases h1:t = .v
   ·subst h1;exact⟨_,rfl⟩
   by_cases h2:t = .ls
   ·subst h2;exact⟨_,rfl⟩
   by_cases h3:t = .mp
   ·subst h3;exact⟨_,rfl⟩
   rw[hq t h1 h2 h3]at hB;exact⟨B,hB⟩
  ·by_cases h1:t = .v
   ·subst h1
    rw[cH (by rw[cg,cg];exact h.lt (t:=.v) rfl)]
    rw[<-hB];simp[Vd.cont,Vd.box]
   by_cases h2:t = .ls
   ·subst h2
    rw[aP e3.symm,cH (by rw[cg];exact h.lt (t:=.ls) rfl),<-hB]
    simp[Vd.cont]
   by_cases h3:t = .mp
   ·subst h3
    rw[aP e1.symm,aP e2.symm,cH (h.lt (t:=.mp) rfl),<-hB];simp[Vd.cont,Fa]
   rw[hq t h1 h2 h3]at hB;rw[aP (h.ne (t:=.v) rfl hB (Ne.symm h1)),aP (h.ne (t:=.ls) rfl hB (Ne.symm h2)),aP (h.ne (t:=.mp) rfl hB (Ne.symm h3))];exact h.has t B hB
theorem qv{α β:Type} [Inhabited α]{f:α->β}{l:List α}:(List.range l.length).map (λ(x:Nat)=>f (ix l (x:Int)))=l.map f:=by
 apply mG (by simp)
 intro i h1 h2;simp at h1;simp[aT h1]
theorem qw{α:Type}{f g:α->AV}{σ:List ag}{fr:Bool}{b k n:Nat}{xs:List α}(h:xs ≠ []->al σ b=some ⟨none,xs.map f,.live⟩) (hn:n=xs.length) (hf:∀x∈xs,view σ fr k (f x)=some (g x)) :
  view σ fr (k+1) (cT b n)=some (.aE false (xs.map g)):=by
 by_cases hx:xs=[]
 ·subst hx;subst hn;rfl
 ·have:n ≠ 0:=by subst hn;exact λe=>hx (dW e)
  unfold cT;rw[ab this];exact gx (h hx) rfl hn hf
theorem cJ{f:AV->Option AV}{a b:AV}{l m:List AV}(h1:f a=some b) (h2:bZ f l=some m):bZ f (a::l)=some (b::m):=by
 simp only[bZ,h1,h2]
theorem VS.view{D:Vd}{O:Nat->Option ag}{p:Tg->Nat}{σ:List ag}(h:VS D O p σ):Ab.view σ false vd (.ptr (p .v) 16 0)=some D.vcs.av:=by
 have hv:=h.has .v _ rfl;have hu:upto σ (p .v) 16=some (D.box p):=uR hv rfl rfl;show Ab.view σ false (11+1) _=_;unfold Ab.view;simp only[hu];have hp:part (D.box p).cells 0 (D.box p).k=some (.agg (D.box p).cells):=rfl;rw[ae (by rfl),hp]
 have hm:bZ (Ab.view σ false 10) (D.box p).cells=some [.int D.n.calls,.int D.n.aj,.int D.n.aq,.int D.n.stack,.int D.n.start,bL D.n.accept,cO D.n.call,cO D.n.push,cO D.n.inner,fX D.n.pop,iL D.n.bw,iL D.plc,cO D.K,.qb,cO D.IN,nw D.BL]:=by
  unfold Vd.box;refine cJ rfl (cJ rfl (cJ rfl (cJ rfl (cJ rfl (cJ rfl (cJ rfl (cJ rfl (cJ rfl (cJ rfl (cJ rfl (cJ ?_ (cJ ?_ (cJ rfl (cJ ?_ (cJ ?_ rfl)))))))))))))))
  ·exact gx (k:=9) (h.has .pl _ rfl) rfl rfl λ_ _=>rfl
  ·exact gx (k:=9) (h.has .ls _ rfl) rfl rfl λ_ _=>rfl
  ·exact qw (k:=9) (λhx=>h.has .aR _ (ab hx)) rfl λ_ _=>rfl
  ·have e:nw D.BL = .aE false ((List.range D.BL.length).map λ(x:Nat)=>fX (D.row x)):=by
    unfold Vd.row;rw[qv (f:=fX)]
   rw[e];refine qw (k:=9) (f:=λx=>.sl (p (.rw x)) (D.row x).length 0 (D.row x).length) (λhx=>h.has .bl _ (ab λe=>hx (by rw[e];rfl))) (by simp) λx hx=>?_
   have bR :=cA.1 hx;have e:fX (D.row x) = .aE false ((List.range (D.row x).length).map λ(c:Nat)=>cO (D.bX x c)):=by
    unfold Vd.bX;rw[qv (f:=cO)]
   rw[e];refine gx (k:=8) (f:=λc=>cT (p (.cl x c)) (D.bX x c).length) (h.has (.rw x) _ (ae bR)) rfl (by simp) λc hc=>?_
   exact qw (k:=7) (λhz=>h.has (.cl x c) _ (ae ⟨bR, cA.1 hc,hz⟩)) rfl λ_ _=>rfl
 have Xc:Ab.view σ false 11 (.agg (D.box p).cells)=some (.agg [.int D.n.calls,.int D.n.aj,.int D.n.aq,.int D.n.stack,.int D.n.start,bL D.n.accept,cO D.n.call,cO D.n.push,cO D.n.inner,fX D.n.pop,iL D.n.bw,iL D.plc,cO D.K,.qb,cO D.IN,nw D.BL]):=by
  show Ab.view σ false (10+1) _=_;unfold Ab.view;simp only[hm]
 simp only[Xc]
def iB (K:List (List Int)) (l:List Int):List (List Int):=if l∈K then K else K ++ [l]
def aH (K vs:List (List Int)):List (List Int):=vs.foldl iB K
theorem To{D:Vd}{l:List Int}:D.add l={D with K:=iB D.K l}:=by
 unfold Vd.add iB;split<;>rfl
theorem zV{K vs:List (List Int)}{l:List Int}:aH K (vs ++ [l])=iB (aH K vs) l:=by simp[aH]
theorem JV (K:List (List Int)) (l:List Int):∃r,iB K l=K++r/\r.length<=1:=by
 unfold iB;split
 ·exact⟨[],by simp,by simp⟩
 ·exact⟨[l],rfl,by simp⟩
theorem wZ:∀(vs K:List (List Int)),∃r,aH K vs=K++r/\r.length<=vs.length
 | [],K=>⟨[],by simp[aH],by simp⟩
 |v::vs,K=>by
  obtain⟨r,h1,h2⟩:=JV K v;obtain⟨r', h3,h4⟩:=wZ vs (iB K v);exact⟨r++r', by show aH (iB K v) vs=_;rw[h3,h1,iW],by simp;omega⟩
theorem ami{K:List (List Int)}{l:List Int}:l∈iB K l:=by
 unfold iB;split
 ·assumption
 ·simp
theorem Tp{K r:List (List Int)}{l:List Int}(h:l∈K):(K++r).idxOf l=K.idxOf l:=by
 rw[List.idxOf_append,ae h]
theorem Tq{K:List (List Int)}{l m:List Int}(h:l∈K):(iB K m).idxOf l=K.idxOf l:=by
 obtain⟨r,h1,_⟩:=JV K m;rw[h1,Tp h]
theorem amj{K:List (List Int)}{l:List Int}:(iB K l).idxOf l=K.idxOf l:=by
 by_cases h:l∈K
 ·exact Tq h
 ·unfold iB
  rw[ab h,List.idxOf_append,ab h,List.idxOf_eq_length h];simp
theorem tC:∀{vs K:List (List Int)}{l:List Int},l∈vs\/l∈K->l∈aH K vs
 | [],K,l,h=>by simpa[aH]using h
 |v::vs,K,l,h=>by
  show l∈aH (iB K v) vs;rcases h with h|h
  ·rcases cD.1 h with rfl|h
   ·exact tC (.inr ami)
   ·exact tC (.inl h)
  ·obtain⟨r,h1,_⟩:=JV K v
   exact tC (.inr (by rw[h1];simp[h]))
theorem Fb{P:List Int->Prop}:∀{vs K:List (List Int)},(∀k∈K,P k)->(∀v∈vs,P v)->∀k∈aH K vs,P k
 | [],K,h,_=>h
 |v::vs,K,h,h2=>by
  refine Fb (vs:=vs) (K:=iB K v) (λk hk=>?_) λw hw=>h2 w (by simp[hw])
  unfold iB at hk;split at hk
  ·exact h k hk
  ·rcases eH.1 hk with hk|hk
   ·exact h k hk
   ·simp at hk;subst hk;exact h2 k (by simp)
def idxs (K vs:List (List Int)):List Int:=vs.map λl=>((K.idxOf l:Nat):Int)
theorem Fc{K vs:List (List Int)}{l:List Int}:idxs (aH K (vs ++ [l])) (vs ++ [l])=idxs (aH K vs) vs ++ [(((aH K vs).idxOf l:Nat):Int)]:=by
 unfold idxs;rw[lg,zV]
 congr 1
 ·exact gk λm hm=>by rw[Tq (tC (.inl hm))]
 ·simp[amj]
theorem Tt{σ:List ag}:∀(ws:List Int) (acc:List Nat),(ws.map AV.int).foldl (λacc y=>reach σ 11 y acc) acc=acc
 | [],_=>rfl
 |w::ws,acc=>by simp only[dd,mA];exact Tt ws acc
theorem Tu{b:Nat}{B:ag}:∀{σ:List ag}{n:Nat},al σ b=some B->bQ (λc=>[n+b].contains c) n σ=az σ b ⟨B.k,B.cells,.dead⟩
 | [],_,h=>by simp[al]at h
 |A::σ,n,h=>by
  have nob:∀(τ:List ag) (m:Nat),n+b<m->bQ (λc=>[n+b].contains c) m τ=τ:=by
   intro τ
   induction τ with
   |nil=>intro m _;rfl
   |cons C τ ih=>
    intro m hm;simp only[bQ];rw[ih (m+1) (by omega)]
    rw[ab (by simp;omega)]
  cases b with
  |zero=>
   have hA:A=B:=by simpa[al]using h
   subst hA;simp only[bQ,az];rw[nob σ (n+1) (by omega)]
   simp
  |succ b=>
   have hb:al σ b=some B:=h;have:=Tu (n:=n+1) hb;simp only[bQ,az];rw[show n+(b+1)=n+1+b by omega,this]
   rw[ab (by simp;omega)]
theorem zW{vars:List AV}{fl:Option (Nat×AV)}{σ:List ag}{k b n:Nat}{l:List Int}{Q:Ex->St->Prop}(hb:al σ b=some (fy l)) (hn:nth vars k = .sl b n 0 n) (hl:n=l.length) (h:Q .ft ⟨eV vars k (.aE (decide (l ≠ [])) (l.map .int)),fl,az σ b ⟨none,l.map .int,.dead⟩⟩):W L (.lB k) ⟨vars,fl,σ⟩ Q:=by
 have hr:reach σ vd (.sl b n 0 n) []=[b]:=by
  show reach σ (11+1) (.sl b n 0 n) []=[b];unfold reach;simp only[List.contains_nil,eu,ew,hb];exact Tt l [b]
 have hd:=Tu (n:=0) hb;rw[jj]at hd;have hv:view (bQ (λc=>!([b]:List Nat).contains c) 0 σ) false vd (.sl b n 0 n)=some (iL l):=by
  refine zT ?_ hl;rw[nS,hb];simp
 have hs:gZ σ (.sl b n 0 n)=decide (l ≠ []):=by
  have:upto σ b n=some (fy l):=by
   refine uR hb (by simp[hl]) ?_
   show eo.gz (if l=[]then .jP else .live)=true
   split<;>rfl
  simp only[gZ,this]
  by_cases h:l=[]<;>simp[h]
 refine⟨0,.ft,_,?_,h⟩;simp only[exec,hn,hr,hv,hs,hd]
 by_cases h:l=[]
 ·subst h;simp;rfl
 ·simp[h]
end Ab
