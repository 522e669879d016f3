/- A copy of a slice (the library's slices.Clone), known by what it answers, though it asks whether its argument is nil. Condition: the function's small text. slices.Clone at lists of lists: the copy is a new block. Condition: the function's small text. Condition: none. -/
import Derived.Test.YtdenhmniigikcaaGreatAbC
import Derived.Test.YtdenhmniigikcaaGreatAbL
import Derived.Test.YtdenhmniigikcaaGreatAbSortM
set_option linter.all false
namespace Ab
open Go
variable{P:Program}
def dB (t:Nat):Fn:={np:=1,nv:=2,res:=[(1,none)],body:=
 (.seq (.cF ⟨[⟨.mv (.c (.ag)),none,false⟩],[],[1],none⟩)
  (.seq (.seq (.cF ⟨[⟨.mv (.v 0),none,false⟩,⟨.oy false (.t 0),none,false⟩],[],[],some (t,0)⟩)
  (.cond t (.seq (.cF ⟨[⟨.mv (.c (.ag)),none,false⟩],[(1,0)],[0],none⟩) .ret) .skip))
  (.seq (.cF ⟨[⟨.bW [] 1,none,false⟩,⟨.mv (.v 0),none,false⟩,⟨.cp (.t 1) (.t 0) none,none,false⟩,⟨.mv (.t 0),none,false⟩],[(1,0)],[0],none⟩) .ret)))}
variable{l:List AV}
def ag1(h:l.all isScalar=true):l.flatMap AV.cells=l:=by
 induction l with
 |nil=>rfl
 |cons x r a=>
  simp only[List.all_cons,aH]at h;rw[iI,a h.2];cases x<;>simp_all [isScalar,AV.cells]
def ag2(h:l.all isScalar=true):fitAll 1 l=true:=by
 induction l with
 |nil=>rfl
 |cons x r a=>
  simp only[List.all_cons,aH]at h;simp only[fitAll,a h.2,Bool.and_true];cases x<;>simp_all [isScalar,AV.cells,bg]
end Ab
namespace Ab
open Go
variable{P:Program}
def ag3{l:List AV}(h:l.all qW=true):(l.map gh).flatMap AV.cells=l.map gh/\fitAll 1 (l.map gh)=true:=by
 induction l with
 |nil=>exact⟨rfl,rfl⟩
 |cons x r a=>
  simp only[List.all_cons,aH]at h;obtain⟨b,d⟩:=a h.2;simp only[cS,iI,b,fitAll,d,Bool.and_true];cases x<;>simp_all [qW,gh,AV.cells,bg]
def jS.gh{C:Ctx}{H:Array Obj}{c:Array Value}{st:Nat}:∀{l:List AV}{off:Nat},jS C H c st l off->jS C H c st (l.map Ab.gh) off
 | [],_,_=>trivial
 |x::r,off,⟨⟨v,h1,h2⟩,h3⟩=>⟨⟨v,h1.gh,h2⟩,jS.gh h3⟩
variable{σ:List al}{y:AV}{r:List AV}
def ag4(a:fitAll 1 (y::r)=true) (d:(y::r).flatMap AV.cells=y::r) (g:(y::r).length<=dK) :
  gf (λ_ _ _=>none) σ (rv [.aF true (y::r),.aO] [.aF true (y::r),.arr []]) (.cp (.t 1) (.t 0) none)=some (.sl σ.length (y::r).length 0 (y::r).length,σ ++ [⟨none,y::r,.live⟩]):=by
 have h:aP σ none (.aF true (y::r))=some ((y::r).length,y::r):=by
  simp only[aP,aM];rw[ae a,d]
 have e:gf (λ_ _ _=>none) σ (rv [.aF true (y::r),.aO] [.aF true (y::r),.arr []]) (.cp (.t 1) (.t 0) none) =
   (match aP σ none (.aF true (y::r))with
    |none=>none
    |some (n,cs)=>if n==0 then some (if aC ([]:List AV)then .aF true []else .arr [],σ)else if fitAll (aM none) []&&decide (([]:List AV).length+n<=dK)then some (.sl σ.length (([]:List AV).flatMap AV.cells++cs).length 0 (([]:List AV).length+n),σ ++ [⟨none,([]:List AV).flatMap AV.cells++cs,.live⟩])else none):=rfl
 have b : (([]:List AV).length+(y::r).length:Nat)<=dK:=by rw[fe,gX];exact g
 rw[e,h];show(if(r.length+1==0)=true then _ else _)=_
 rw[ad ab,ae (by simp only[fitAll,Bool.true_and,eo];exact b)]
 simp
variable{t:Nat}
def ag5(a:fitAll 1 (y::r)=true) (d:(y::r).flatMap AV.cells=y::r) (e:(y::r).length<=dK) :
  exec 9 (λ_ _ _=>none) (dB t).body ⟨[.aF true (y::r),.aO],none,σ⟩=some (.ret,⟨[.aO,.sl σ.length (y::r).length 0 (y::r).length],none,σ ++ [⟨none,y::r,.live⟩]⟩):=by
 have b:=ag4 (σ:=σ) a d e;simp only[dB,exec,dc,lines,dm,want,ev,dh.lf,dh.lY,↓reduceIte,ef,rv,nth,lH,fitAll,List.map_nil];simp only[dM,outs,eu,nth,↓reduceIte,ef,lH,b]
def ag6 (t:Nat) (σ:List al):exec 9 (λ_ _ _=>none) (dB t).body ⟨[.ag,.aO],none,σ⟩=some (.ret,⟨[.aO,.ag],none,σ⟩):=by
 simp[dB,exec,dc,lines,dm,want,ev,dh.lf,dh.lY,rv,nth,dM,outs,eu]
def ag7 (t:Nat) (σ:List al):exec 9 (λ_ _ _=>none) (dB t).body ⟨[.aF true [],.aO],none,σ⟩=some (.ret,⟨[.aO,.aF true []],none,σ⟩):=by
 simp[dB,exec,dc,lines,dm,want,ev,gf,dh.lf,dh.lY,rv,nth,dM,outs,eu,aP,fitAll,aC]
def GL (f t:Nat) (σ:List al):∀x s r,exec 9 (λ_ _ _=>none) (dB t).body ⟨[x,.aO],none,σ⟩=some (.ret,s)->Ab.results (dB t) s=some r->
   dN (λg=>if g=f then some (dB t)else none) (λ_=>none) 9 1 f [x] σ=some (r,s.σ):=λx s r a b=>by
  have d:dN (λg=>if g=f then some (dB t)else none) (λ_=>none) 9 0=λ_ _ _=>none:=rfl
  unfold dN;rw[d];simp only[dD];rw[show({vars:=[x]++List.replicate ((dB t).nv-(dB t).np) .aO,fl:=none,σ:=σ}:St)=⟨[x,.aO],none,σ⟩from rfl];rw[a,ae (show([x].length==(dB t).np)=true from rfl)];simp only[b,mS]
variable{f:Nat}{sl:List Nat}
def ag8(K:P.follows .mixedOrders=true) (d:qo P f (dB t) sl=true):eS P f gP:=by
 have L:cM P f=true:=by
  unfold qo at d;cases E:P.funcs[f]? with
  |none=>simp[E]at d
  |some W=>simp only[E,aH]at d;exact d.1
 refine⟨L,λce _ _ args σ r M i ids I w X C D=>?_⟩;have m:cw P (dN (λg=>if g=f then some (dB t)else none) (λ_=>none) 9 1):=
  (BO K (λg fn h=>by
   by_cases e:g=f
   .subst e;simp at h;subst h;exact⟨sl,d⟩
   .simp[e]at h) (λ_ _ h=>eX) 1).1
 have j:∀v,v = .slice none 0 0->Calls P f [v].toArray w λe u =>∃v b n, e = .returned v/\Good (af σ b n) u /\VR (af σ b n) u.heap (.aF false []) v/\Step (af σ ids I) w (af σ b n) u :=λv e=>by
  refine(m f [.ag] σ .ag σ (GL f t σ .ag _ .ag (ag6 t σ) rfl) ids I w [v] C ⟨v,[],rfl,e,rfl⟩).mono ?_;rintro e u ⟨v,b, n, rfl,z,A,B⟩;exact⟨v,b, n, rfl,z,VR.gh (x:=.ag) A,B⟩
 unfold gP at i;split at i
 .simp only[bT,Prod.mk.injEq]at i
  obtain⟨rfl,rfl⟩:=i;obtain⟨v,s,rfl,o,rfl⟩:=D;exact j v o
 .rename_i N
  simp only[bT,Prod.mk.injEq]at i;obtain⟨rfl,rfl⟩:=i;obtain⟨v,s,rfl,o,rfl⟩:=D
  by_cases F:v = .slice none 0 0
  .exact j v F
  .have p : VR (af σ ids I) w.heap (.aF true []) v:=by
    unfold VR at o ⊢;refine⟨rfl,?_⟩;rcases o.2 with⟨G,a,H,_⟩|h
    .refine .inl ⟨rfl,a,H,λ_=>?_⟩
     cases a with
     |none=>exact absurd H F
     |some q=>rfl
    .exact .inr h
   refine(m f [.aF true []] σ (.aF true []) σ (GL f t σ (.aF true []) _ (.aF true []) (ag7 t σ) rfl) ids I w [v] C ⟨v,[],rfl,p, rfl⟩).mono ?_;rintro e u ⟨v,b, n, rfl,z,A,B⟩;exact⟨v,b, n, rfl,z,VR.gh (x:=.aF true []) A,B⟩
 .rename_i N x l
  split at i
  .rename_i J
   simp only[aH,eo]at J;obtain⟨⟨O,Q⟩,R⟩:=J;simp only[bT,Prod.mk.injEq]at i;obtain⟨rfl,rfl⟩:=i;obtain⟨v,s,rfl,o,rfl⟩:=D;obtain⟨S,T⟩:=ag3 O;have p : VR (af σ ids I) w.heap (.aF true ((x::l).map gh)) v:=by
    unfold VR at o ⊢;refine⟨Oz Q,?_⟩;rcases o.2 with⟨G,_⟩|⟨aq,off,cap,st,c,el,U,e,z,A,B,V⟩
    .simp at G
    .exact .inr ⟨aq,off,cap,st,c,el,U,gC,by simpa using z,A,B,jS.gh V⟩
   have:=ag5 (t:=t) (σ:=σ) (y:=gh x) (r:=l.map gh) T S (by simpa using R)
   refine(m f [.aF true ((x::l).map gh)] σ _ _ (GL f t σ _ _ (.sl σ.length (x::l).length 0 (x::l).length) this (by simp[Ab.results,dB,bJ,lg,nth])) ids I w [v] C ⟨v,[],rfl,p, rfl⟩)
  .simp at i
 .simp at i
def cv (t:Nat):Fn:={np:=1,nv:=2,res:=[(1,none)],body:=
 (.seq (.cF ⟨[⟨.mv (.c (.ag)),none,false⟩],[],[1],none⟩)
  (.seq (.seq (.cF ⟨[⟨.mv (.v 0),none,false⟩,⟨.oy false (.t 0),none,false⟩],[],[],some (t,0)⟩)
  (.cond t (.seq (.cF ⟨[⟨.mv (.c (.ag)),none,false⟩],[(1,0)],[0],none⟩) .ret) .skip))
  (.seq (.cF ⟨[⟨.sB 1,none,false⟩,⟨.mv (.v 0),none,false⟩,⟨.cp (.t 1) (.t 0) none,none,false⟩,⟨.mv (.t 0),none,false⟩],[(1,0)],[0],none⟩) .ret)))}
def wZ (f t:Nat) (σ:List al):∀x s r,exec 9 (λ_ _ _=>none) (cv t).body ⟨[x,.aO],none,σ⟩=some (.ret,s)->Ab.results (cv t) s=some r->
   dN (λg=>if g=f then some (cv t)else none) (λ_=>none) 9 1 f [x] σ=some (r,s.σ):=λx s r a b=>by
  have d:dN (λg=>if g=f then some (cv t)else none) (λ_=>none) 9 0=λ_ _ _=>none:=rfl
  unfold dN;rw[d];simp only[dD];rw[show({vars:=[x]++List.replicate ((cv t).nv-(cv t).np) .aO,fl:=none,σ:=σ}:St)=⟨[x,.aO],none,σ⟩from rfl];rw[a,ae (show([x].length==(cv t).np)=true from rfl)];simp only[b,mS]
def ag9 (t:Nat) (σ:List al):exec 9 (λ_ _ _=>none) (cv t).body ⟨[.ag,.aO],none,σ⟩=some (.ret,⟨[.aO,.ag],none,σ⟩):=by
 simp[cv,exec,dc,lines,dm,want,ev,dh.lf,dh.lY,rv,nth,dM,outs,eu]
def QR (t:Nat) (σ:List al):exec 9 (λ_ _ _=>none) (cv t).body ⟨[.aF true [],.aO],none,σ⟩=some (.ret,⟨[.aO,.emp],none,σ⟩):=by
 simp[cv,exec,dc,lines,dm,want,ev,gf,dh.lf,dh.lY,rv,nth,dM,outs,eu,aP,fitAll,aC]
def QS{x:AV}{n:Nat}{cs:List AV}(d:ev (λ_ _ _=>none) σ σ.length [] (rv [x,.aO] [x]) (.oy false (.t 0))=some (.bool false,none)) (e:aP σ none x=some (n,cs)) (g:n ≠ 0) (h:n<=dK) :
  exec 9 (λ_ _ _=>none) (cv t).body ⟨[x,.aO],none,σ⟩=some (.ret,⟨[.aO,.sl σ.length cs.length 0 n],none,σ ++ [⟨none,cs,.live⟩]⟩):=by
 have a:gf (λ_ _ _=>none) σ (rv [x,.aO] [x,.emp]) (.cp (.t 1) (.t 0) none)=some (.sl σ.length cs.length 0 n,σ ++ [⟨none,cs,.live⟩]):=by
  show((match aP σ none x with
   |none=>none
   |some (n,cs)=>if n==0 then some (AV.emp,σ)else if n<=dK then some (AV.sl σ.length cs.length 0 n,σ ++ [al.mk none cs .live])else none):Option (AV×List al))=_
  rw[e];simp only;rw[ad (by simpa using g),ae h]
 have b:ev (λ_ _ _=>none) σ σ.length [] (rv [x,.aO] [x]) (.oy false (.t 0))=some (.bool false,none):=d;simp only[cv,exec,dc,lines,dm,want,dh.lf,dh.lY,↓reduceIte,ef,lH];simp only[show ∀(σ:List al) (env:List AV),ev (λ_ _ _=>none) σ σ.length [] (rv [x,.aO] env) (.mv (.c .ag))=some (.ag,none)from λ_ _=>rfl,dM,outs,eu,nth,↓reduceIte,ef,lH];simp only[show ∀(σ:List al) (env:List AV),ev (λ_ _ _=>none) σ σ.length [] (rv [x,.aO] env) (.mv (.v 0))=some (x,none)from λ_ _=>rfl,b,nth,ef,↓reduceIte,lH];simp only[show ∀(σ:List al) (env:List AV),ev (λ_ _ _=>none) σ σ.length [] (rv [x,.aO] env) (.sB 1)=some (.emp,none)from λ_ _=>rfl,show ∀(σ:List al) (env:List AV),ev (λ_ _ _=>none) σ σ.length [] (rv [x,.aO] env) (.mv (.v 0))=some (x,none)from λ_ _=>rfl,a];simp only[show ∀(σ:List al) (env:List AV),ev (λ_ _ _=>none) σ σ.length [] (rv [x,.aO] env) (.mv (.t 0))=some (nth env 0,none)from λ_ _=>rfl,nth,dM,outs,eu]
def aha(hm:P.follows .mixedOrders=true) (dw:qo P f (cv t) sl=true):eS P f gu:=by
 have hb:cM P f=true:=by
  unfold qo at dw;cases hf:P.funcs[f]? with
  |none=>simp[hf]at dw
  |some pf=>simp only[hf,aH]at dw;exact dw.1
 refine⟨hb,λce _ _ args σ r cR hp ids I w vs hg hv=>?_⟩;have qT:cw P (dN (λg=>if g=f then some (cv t)else none) (λ_=>none) 9 1):=
  (BO hm (λg fn h=>by
   by_cases e:g=f
   .subst e;simp at h;subst h;exact⟨sl,dw⟩
   .simp[e]at h) (λ_ _ h=>eX) 1).1
 have wm:∀v,v = .slice none 0 0->Calls P f [v].toArray w λe w' =>∃v bY I', e = .returned v/\Good (af σ bY I') w' /\VR (af σ bY I') w'.heap .emp v/\Step (af σ ids I) w (af σ bY I') w' :=λv e=>by
  refine(qT f [.ag] σ .ag σ (wZ f t σ .ag _ .ag (ag9 t σ) rfl) ids I w [v] hg ⟨v,[],rfl,e,rfl⟩).mono ?_;rintro e w' ⟨v,bY, I', rfl,k1,k2,k3⟩;refine⟨v,bY, I', rfl,k1,?_,k3⟩;unfold VR at k2 ⊢;exact⟨none,k2⟩
 have ahb:∀a,Calls P f [Value.slice (some a) 0 0].toArray w λe w' =>∃v bY I', e = .returned v/\Good (af σ bY I') w' /\VR (af σ bY I') w'.heap .emp v/\Step (af σ ids I) w (af σ bY I') w' :=λa=>
  qT f [.aF true []] σ .emp σ (wZ f t σ (.aF true []) _ .emp (QR t σ) rfl) ids I w [_] hg ⟨_,[],rfl,by unfold VR;exact⟨rfl,.inl ⟨rfl,some a,rfl,λ_=>rfl⟩⟩,rfl⟩
 unfold gu at hp;split at hp
 .simp only[bT,Prod.mk.injEq]at hp
  obtain⟨rfl,rfl⟩:=hp;obtain⟨v,s,rfl,hx,rfl⟩:=hv;exact wm v hx
 .simp only[bT,Prod.mk.injEq]at hp
  obtain⟨rfl,rfl⟩:=hp;obtain⟨v,s,rfl,hx,rfl⟩:=hv;unfold VR at hx;obtain⟨a,rfl⟩:=hx;cases a with
  |none=>exact wm _ rfl
  |some a=>exact ahb a
 .rename_i nn
  simp only[bT,Prod.mk.injEq]at hp;obtain⟨rfl,rfl⟩:=hp;obtain⟨v,s,rfl,hx,rfl⟩:=hv
  by_cases hn:v = .slice none 0 0
  .exact wm v hn
  .have kT : VR (af σ ids I) w.heap (.aF true []) v:=by
    unfold VR at hx ⊢;refine⟨rfl,?_⟩;rcases hx.2 with⟨h1,a,h2,_⟩|h
    .refine .inl ⟨rfl,a,h2,λ_=>?_⟩
     cases a with
     |none=>exact absurd h2 hn
     |some q=>rfl
    .exact .inr h
   exact qT f [.aF true []] σ .emp σ (wZ f t σ (.aF true []) _ .emp (QR t σ) rfl) ids I w [v] hg ⟨v,[],rfl,kT, rfl⟩
 .rename_i nn x l
  split at hp
  .rename_i hc
   simp only[aH,eo]at hc;simp only[bT,Prod.mk.injEq]at hp;obtain⟨rfl,rfl⟩:=hp;have ga:aP σ none (.aF nn (x::l))=some ((x::l).length,x::l):=by
    show(if fitAll (aM none) (x::l)=true then some ((x::l).length,(x::l).flatMap AV.cells)else none)=_
    rw[ae (ag2 hc.1),ag1 hc.1]
   have XF:ev (λ_ _ _=>none) σ σ.length [] (rv [.aF nn (x::l),.aO] [.aF nn (x::l)]) (.oy false (.t 0))=some (.bool false,none):=by
    cases nn<;>simp[ev,rv,nth]
   have:=QS (t:=t) (σ:=σ) XF ga ab hc.2
   exact qT f [.aF nn (x::l)] σ _ _ (wZ f t σ _ _ (.sl σ.length (x::l).length 0 (x::l).length) this uy) ids I w vs hg hv
  .simp at hp
 .rename_i b u off len
  cases hu:upto σ b u with
  |none=>simp[hu]at hp
  |some B=>
   simp only[hu]at hp;split at hp
   case isFalse=>simp at hp
   rename_i hc;simp only[aH,eo]at hc;obtain⟨⟨⟨c1,c2⟩,c3⟩,c4⟩:=hc;have c2:=Bv c2;have gG:B.st = .live:=by revert c1;cases B.st<;>simp[fb.isLive]
   have ga:aP σ none (.sl b u off len)=some (len,(B.cells.drop off).take len):=by
    unfold aP;simp only[hu,aM,c2,Nat.mul_one];rw[ae ⟨c3,trivial⟩]
   have XF:ev (λ_ _ _=>none) σ σ.length [] (rv [.sl b u off len,.aO] [.sl b u off len]) (.oy false (.t 0))=some (.bool false,none):=by
    simp[ev,rv,nth,hu,gG]
   by_cases h0:len=0
   .subst h0
    simp only[lH,dD,bT,Prod.mk.injEq]at hp;obtain⟨rfl,rfl⟩:=hp;have:exec 9 (λ_ _ _=>none) (cv t).body ⟨[.sl b u off 0,.aO],none,σ⟩=some (.ret,⟨[.aO,.emp],none,σ⟩):=by
     have iE:gf (λ_ _ _=>none) σ (rv [.sl b u off 0,.aO] [.sl b u off 0,.emp]) (.cp (.t 1) (.t 0) none)=some (.emp,σ):=by
      show((match aP σ none (.sl b u off 0)with
       |none=>none
       |some (n,cs)=>if n==0 then some (AV.emp,σ)else if n<=dK then some (AV.sl σ.length cs.length 0 n,σ ++ [al.mk none cs .live])else none):Option (AV×List al))=_
      rw[ga];rfl
     simp only[cv,exec,dc,lines,dm,want,dh.lf,dh.lY,↓reduceIte,ef,lH];simp only[show ∀(σ:List al) (env:List AV),ev (λ_ _ _=>none) σ σ.length [] (rv [.sl b u off 0,.aO] env) (.mv (.c .ag))=some (.ag,none)from λ_ _=>rfl,dM,outs,eu,nth,↓reduceIte,ef,lH];simp only[show ∀(σ:List al) (env:List AV),ev (λ_ _ _=>none) σ σ.length [] (rv [.sl b u off 0,.aO] env) (.mv (.v 0))=some (.sl b u off 0,none)from λ_ _=>rfl,XF,nth,ef,↓reduceIte,lH];simp only[show ∀(σ:List al) (env:List AV),ev (λ_ _ _=>none) σ σ.length [] (rv [.sl b u off 0,.aO] env) (.sB 1)=some (.emp,none)from λ_ _=>rfl,show ∀(σ:List al) (env:List AV),ev (λ_ _ _=>none) σ σ.length [] (rv [.sl b u off 0,.aO] env) (.mv (.v 0))=some (.sl b u off 0,none)from λ_ _=>rfl,iE];simp only[show ∀(σ:List al) (env:List AV),ev (λ_ _ _=>none) σ σ.length [] (rv [.sl b u off 0,.aO] env) (.mv (.t 0))=some (nth env 0,none)from λ_ _=>rfl,nth,dM,outs,eu]
    exact qT f [.sl b u off 0] σ _ _ (wZ f t σ _ _ .emp this uy) ids I w vs hg hv
   .have h0' : (len==0)=false:=by simpa using h0
    simp only[h0', ef,eI,bT,Prod.mk.injEq]at hp;obtain⟨rfl,rfl⟩:=hp;have:=QS (t:=t) (σ:=σ) XF ga h0 c4;rw[show((B.cells.drop off).take len).length=len by simp;omega]at this
    exact qT f [.sl b u off len] σ _ _ (wZ f t σ _ _ (.sl σ.length len 0 len) this uy) ids I w vs hg hv
 .simp at hp
end Ab
