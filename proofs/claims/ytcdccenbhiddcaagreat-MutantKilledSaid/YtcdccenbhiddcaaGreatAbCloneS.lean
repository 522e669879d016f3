/- A copy of a slice (the library's slices.Clone), known by what it answers, though it asks whether its argument is nil. Condition: the function's small text. slices.Clone at lists of lists: the copy is a new block. Condition: the function's small text. Condition: none. -/
import Derived.Test.YtcdccenbhiddcaaGreatAbC
import Derived.Test.YtcdccenbhiddcaaGreatAbL
import Derived.Test.YtcdccenbhiddcaaGreatAbSortM
set_option linter.all false
namespace Ab
open Go
variable{P:Program}
def b6 (t:Nat):Fn:={np:=1,nv:=2,res:=[(1,none)],body:=
 (.seq (.bM ⟨[⟨.mv (.c (.ag)),none,false⟩],[],[1],none⟩)
  (.seq (.seq (.bM ⟨[⟨.mv (.v 0),none,false⟩,⟨.ma false (.t 0),none,false⟩],[],[],some (t,0)⟩)
  (.cond t (.seq (.bM ⟨[⟨.mv (.c (.ag)),none,false⟩],[(1,0)],[0],none⟩) .ret) .skip))
  (.seq (.bM ⟨[⟨.bY [] 1,none,false⟩,⟨.mv (.v 0),none,false⟩,⟨.bB (.t 1) (.t 0) none,none,false⟩,⟨.mv (.t 0),none,false⟩],[(1,0)],[0],none⟩) .ret)))}
variable{l:List AV}
def T8(h:l.all isScalar=true):l.flatMap AV.cells=l:=by
 induction l with
 |nil=>rfl
 |cons x r a=>
  simp only[List.all_cons,aD]at h;rw[gR,a h.2];cases x<;>simp_all [isScalar,AV.cells]
def T9(h:l.all isScalar=true):fitAll 1 l=true:=by
 induction l with
 |nil=>rfl
 |cons x r a=>
  simp only[List.all_cons,aD]at h;simp only[fitAll,a h.2,Bool.and_true];cases x<;>simp_all [isScalar,AV.cells,aQ]
end Ab
namespace Ab
open Go
variable{P:Program}
def Ua{l:List AV}(h:l.all lG=true):(l.map dr).flatMap AV.cells=l.map dr/\fitAll 1 (l.map dr)=true:=by
 induction l with
 |nil=>exact⟨rfl,rfl⟩
 |cons x r a=>
  simp only[List.all_cons,aD]at h;obtain⟨b,d⟩:=a h.2;simp only[bC,gR,b,fitAll,d,Bool.and_true];cases x<;>simp_all [lG,dr,AV.cells,aQ]
def fF.dr{C:Ctx}{H:Array Obj}{c:Array Value}{st:Nat}:∀{l:List AV}{off:Nat},fF C H c st l off->fF C H c st (l.map Ab.dr) off
 | [],_,_=>trivial
 |x::r,off,⟨⟨v,Y,h2⟩,h3⟩=>⟨⟨v,Y.dr,h2⟩,fF.dr h3⟩
variable{σ:List aj}{y:AV}{r:List AV}
def Ub(a:fitAll 1 (y::r)=true) (d:(y::r).flatMap AV.cells=y::r) (f:(y::r).length<=cE) :
  dO (λ_ _ _=>none) σ (rv [.aA true (y::r),.au] [.aA true (y::r),.arr []]) (.bB (.t 1) (.t 0) none)=some (.sl σ.length (y::r).length 0 (y::r).length,σ ++ [⟨none,y::r,.live⟩]):=by
 have g:aE σ none (.aA true (y::r))=some ((y::r).length,y::r):=by
  simp only[aE,aC];rw[ah a,d]
 have e:dO (λ_ _ _=>none) σ (rv [.aA true (y::r),.au] [.aA true (y::r),.arr []]) (.bB (.t 1) (.t 0) none) =
   (match aE σ none (.aA true (y::r))with
    |none=>none
    |some (n,cs)=>if n==0 then some (if aq ([]:List AV)then .aA true []else .arr [],σ)else if fitAll (aC none) []&&decide (([]:List AV).length+n<=cE)then some (.sl σ.length (([]:List AV).flatMap AV.cells++cs).length 0 (([]:List AV).length+n),σ ++ [⟨none,([]:List AV).flatMap AV.cells++cs,.live⟩])else none):=rfl
 have b : (([]:List AV).length+(y::r).length:Nat)<=cE:=by rw[List.length_nil,eL];exact f
 rw[e,g];show(if(r.length+1==0)=true then _ else _)=_
 rw[ae ab,ah (by simp only[fitAll,Bool.true_and,cO];exact b)]
 simp
variable{t:Nat}
def Uc(a:fitAll 1 (y::r)=true) (d:(y::r).flatMap AV.cells=y::r) (e:(y::r).length<=cE) :
  exec 9 (λ_ _ _=>none) (b6 t).body ⟨[.aA true (y::r),.au],none,σ⟩=some (.ret,⟨[.au,.sl σ.length (y::r).length 0 (y::r).length],none,σ ++ [⟨none,y::r,.live⟩]⟩):=by
 have b:=Ub (σ:=σ) a d e;simp only[b6,exec,aT,lines,bS,want,ev,bZ.gG,bZ.il,↓reduceIte,cZ,rv,nth,jr,fitAll,List.map_nil];simp only[ck,outs,bD,nth,↓reduceIte,cZ,jr,b]
def Ud (t:Nat) (σ:List aj):exec 9 (λ_ _ _=>none) (b6 t).body ⟨[.ag,.au],none,σ⟩=some (.ret,⟨[.au,.ag],none,σ⟩):=by
 simp[b6,exec,aT,lines,bS,want,ev,bZ.gG,bZ.il,rv,nth,ck,outs,bD]
def Ue (t:Nat) (σ:List aj):exec 9 (λ_ _ _=>none) (b6 t).body ⟨[.aA true [],.au],none,σ⟩=some (.ret,⟨[.au,.aA true []],none,σ⟩):=by
 simp[b6,exec,aT,lines,bS,want,ev,dO,bZ.gG,bZ.il,rv,nth,ck,outs,bD,aE,fitAll,aq]
def x3 (f t:Nat) (σ:List aj):∀x s r,exec 9 (λ_ _ _=>none) (b6 t).body ⟨[x,.au],none,σ⟩=some (.ret,s)->Ab.results (b6 t) s=some r->
   b9 (λg=>if g=f then some (b6 t)else none) (λ_=>none) 9 1 f [x] σ=some (r,s.σ):=λx s r a b=>by
  have d:b9 (λg=>if g=f then some (b6 t)else none) (λ_=>none) 9 0=λ_ _ _=>none:=rfl
  unfold b9;rw[d];simp only[cn];rw[show({vars:=[x]++List.replicate ((b6 t).nv-(b6 t).np) .au,fl:=none,σ:=σ}:St)=⟨[x,.au],none,σ⟩from rfl];rw[a,ah (show([x].length==(b6 t).np)=true from rfl)];simp only[b,Option.map_some]
variable{f:Nat}{sl:List Nat}
def Uf(K:P.follows .mixedOrders=true) (d:kY P f (b6 t) sl=true):dc P f dP:=by
 have L:bU P f=true:=by
  unfold kY at d;cases E:P.funcs[f]? with
  |none=>simp[E]at d
  |some W=>simp only[E,aD]at d;exact d.1
 refine⟨L,λce _ _ args σ r M i ids I w X C D=>?_⟩;have m:bn P (b9 (λg=>if g=f then some (b6 t)else none) (λ_=>none) 9 1):=
  (ua K (λg fn h=>by
   by_cases e:g=f
   .subst e;simp at h;subst h;exact⟨sl,d⟩
   .simp[e]at h) (λ_ _ h=>cy) 1).1
 have j:∀v,v = .slice none 0 0->Calls P f [v].toArray w λe u =>∃v b n, e = .returned v/\Good (ad σ b n) u /\VR (ad σ b n) u.heap (.aA false []) v/\Step (ad σ ids I) w (ad σ b n) u :=λv e=>by
  refine(m f [.ag] σ .ag σ (x3 f t σ .ag _ .ag (Ud t σ) rfl) ids I w [v] C ⟨v,[],rfl,e,rfl⟩).mono ?_;rintro e u ⟨v,b, n, rfl,z,A,B⟩;exact⟨v,b, n, rfl,z,VR.dr (x:=.ag) A,B⟩
 unfold dP at i;split at i
 .simp only[aS,Prod.mk.injEq]at i
  obtain⟨rfl,rfl⟩:=i;obtain⟨v,s,rfl,o,rfl⟩:=D;exact j v o
 .rename_i N
  simp only[aS,Prod.mk.injEq]at i;obtain⟨rfl,rfl⟩:=i;obtain⟨v,s,rfl,o,rfl⟩:=D
  by_cases F:v = .slice none 0 0
  .exact j v F
  .have p : VR (ad σ ids I) w.heap (.aA true []) v:=by
    unfold VR at o ⊢;refine⟨rfl,?_⟩;rcases o.2 with⟨G,a,H,_⟩|h
    .refine .inl ⟨rfl,a,H,λ_=>?_⟩
     cases a with
     |none=>exact absurd H F
     |some q=>rfl
    .exact .inr h
   refine(m f [.aA true []] σ (.aA true []) σ (x3 f t σ (.aA true []) _ (.aA true []) (Ue t σ) rfl) ids I w [v] C ⟨v,[],rfl,p, rfl⟩).mono ?_;rintro e u ⟨v,b, n, rfl,z,A,B⟩;exact⟨v,b, n, rfl,z,VR.dr (x:=.aA true []) A,B⟩
 .rename_i N x l
  split at i
  .rename_i J
   simp only[aD,cO]at J;obtain⟨⟨O,Q⟩,R⟩:=J;simp only[aS,Prod.mk.injEq]at i;obtain⟨rfl,rfl⟩:=i;obtain⟨v,s,rfl,o,rfl⟩:=D;obtain⟨S,T⟩:=Ua O;have p : VR (ad σ ids I) w.heap (.aA true ((x::l).map dr)) v:=by
    unfold VR at o ⊢;refine⟨DV Q,?_⟩;rcases o.2 with⟨G,_⟩|⟨ay,off,cap,st,c,el,U,e,z,A,B,V⟩
    .simp at G
    .exact .inr ⟨ay,off,cap,st,c,el,U,gX,by simpa using z,A,B,fF.dr V⟩
   have:=Uc (t:=t) (σ:=σ) (y:=dr x) (r:=l.map dr) T S (by simpa using R)
   refine(m f [.aA true ((x::l).map dr)] σ _ _ (x3 f t σ _ _ (.sl σ.length (x::l).length 0 (x::l).length) this (by simp[Ab.results,b6,aM,gf,nth])) ids I w [v] C ⟨v,[],rfl,p, rfl⟩)
  .simp at i
 .simp at i
def br (t:Nat):Fn:={np:=1,nv:=2,res:=[(1,none)],body:=
 (.seq (.bM ⟨[⟨.mv (.c (.ag)),none,false⟩],[],[1],none⟩)
  (.seq (.seq (.bM ⟨[⟨.mv (.v 0),none,false⟩,⟨.ma false (.t 0),none,false⟩],[],[],some (t,0)⟩)
  (.cond t (.seq (.bM ⟨[⟨.mv (.c (.ag)),none,false⟩],[(1,0)],[0],none⟩) .ret) .skip))
  (.seq (.bM ⟨[⟨.mG 1,none,false⟩,⟨.mv (.v 0),none,false⟩,⟨.bB (.t 1) (.t 0) none,none,false⟩,⟨.mv (.t 0),none,false⟩],[(1,0)],[0],none⟩) .ret)))}
def qf (f t:Nat) (σ:List aj):∀x s r,exec 9 (λ_ _ _=>none) (br t).body ⟨[x,.au],none,σ⟩=some (.ret,s)->Ab.results (br t) s=some r->
   b9 (λg=>if g=f then some (br t)else none) (λ_=>none) 9 1 f [x] σ=some (r,s.σ):=λx s r a b=>by
  have d:b9 (λg=>if g=f then some (br t)else none) (λ_=>none) 9 0=λ_ _ _=>none:=rfl
  unfold b9;rw[d];simp only[cn];rw[show({vars:=[x]++List.replicate ((br t).nv-(br t).np) .au,fl:=none,σ:=σ}:St)=⟨[x,.au],none,σ⟩from rfl];rw[a,ah (show([x].length==(br t).np)=true from rfl)];simp only[b,Option.map_some]
def Ug (t:Nat) (σ:List aj):exec 9 (λ_ _ _=>none) (br t).body ⟨[.ag,.au],none,σ⟩=some (.ret,⟨[.au,.ag],none,σ⟩):=by
 simp[br,exec,aT,lines,bS,want,ev,bZ.gG,bZ.il,rv,nth,ck,outs,bD]
def FV (t:Nat) (σ:List aj):exec 9 (λ_ _ _=>none) (br t).body ⟨[.aA true [],.au],none,σ⟩=some (.ret,⟨[.au,.emp],none,σ⟩):=by
 simp[br,exec,aT,lines,bS,want,ev,dO,bZ.gG,bZ.il,rv,nth,ck,outs,bD,aE,fitAll,aq]
def FW{x:AV}{n:Nat}{cs:List AV}(d:ev (λ_ _ _=>none) σ σ.length [] (rv [x,.au] [x]) (.ma false (.t 0))=some (.bool false,none)) (e:aE σ none x=some (n,cs)) (f:n ≠ 0) (g:n<=cE) :
  exec 9 (λ_ _ _=>none) (br t).body ⟨[x,.au],none,σ⟩=some (.ret,⟨[.au,.sl σ.length cs.length 0 n],none,σ ++ [⟨none,cs,.live⟩]⟩):=by
 have a:dO (λ_ _ _=>none) σ (rv [x,.au] [x,.emp]) (.bB (.t 1) (.t 0) none)=some (.sl σ.length cs.length 0 n,σ ++ [⟨none,cs,.live⟩]):=by
  show((match aE σ none x with
   |none=>none
   |some (n,cs)=>if n==0 then some (AV.emp,σ)else if n<=cE then some (AV.sl σ.length cs.length 0 n,σ ++ [aj.mk none cs .live])else none):Option (AV×List aj))=_
  rw[e];simp only;rw[ae jm,ah g]
 have b:ev (λ_ _ _=>none) σ σ.length [] (rv [x,.au] [x]) (.ma false (.t 0))=some (.bool false,none):=d;simp only[br,exec,aT,lines,bS,want,bZ.gG,bZ.il,↓reduceIte,cZ,jr];simp only[show ∀(σ:List aj) (env:List AV),ev (λ_ _ _=>none) σ σ.length [] (rv [x,.au] env) (.mv (.c .ag))=some (.ag,none)from λ_ _=>rfl,ck,outs,bD,nth,↓reduceIte,cZ,jr];simp only[show ∀(σ:List aj) (env:List AV),ev (λ_ _ _=>none) σ σ.length [] (rv [x,.au] env) (.mv (.v 0))=some (x,none)from λ_ _=>rfl,b,nth,cZ,↓reduceIte,jr];simp only[show ∀(σ:List aj) (env:List AV),ev (λ_ _ _=>none) σ σ.length [] (rv [x,.au] env) (.mG 1)=some (.emp,none)from λ_ _=>rfl,show ∀(σ:List aj) (env:List AV),ev (λ_ _ _=>none) σ σ.length [] (rv [x,.au] env) (.mv (.v 0))=some (x,none)from λ_ _=>rfl,a];simp only[show ∀(σ:List aj) (env:List AV),ev (λ_ _ _=>none) σ σ.length [] (rv [x,.au] env) (.mv (.t 0))=some (nth env 0,none)from λ_ _=>rfl,nth,ck,outs,bD]
def Uh(hm:P.follows .mixedOrders=true) (cg:kY P f (br t) sl=true):dc P f db:=by
 have hb:bU P f=true:=by
  unfold kY at cg;cases hf:P.funcs[f]? with
  |none=>simp[hf]at cg
  |some pf=>simp only[hf,aD]at cg;exact cg.1
 refine⟨hb,λce _ _ args σ r σ' hp ids I w vs hg hv=>?_⟩;have fG:bn P (b9 (λg=>if g=f then some (br t)else none) (λ_=>none) 9 1):=
  (ua hm (λg fn h=>by
   by_cases e:g=f
   .subst e;simp at h;subst h;exact⟨sl,cg⟩
   .simp[e]at h) (λ_ _ h=>cy) 1).1
 have pB:∀v,v = .slice none 0 0->Calls P f [v].toArray w λe w' =>∃v aV I', e = .returned v/\Good (ad σ aV I') w' /\VR (ad σ aV I') w'.heap .emp v/\Step (ad σ ids I) w (ad σ aV I') w' :=λv e=>by
  refine(fG f [.ag] σ .ag σ (qf f t σ .ag _ .ag (Ug t σ) rfl) ids I w [v] hg ⟨v,[],rfl,e,rfl⟩).mono ?_;rintro e w' ⟨v,aV, I', rfl,k1,k2,k3⟩;refine⟨v,aV, I', rfl,k1,?_,k3⟩;unfold VR at k2 ⊢;exact⟨none,k2⟩
 have Ui:∀a,Calls P f [Value.slice (some a) 0 0].toArray w λe w' =>∃v aV I', e = .returned v/\Good (ad σ aV I') w' /\VR (ad σ aV I') w'.heap .emp v/\Step (ad σ ids I) w (ad σ aV I') w' :=λa=>
  fG f [.aA true []] σ .emp σ (qf f t σ (.aA true []) _ .emp (FV t σ) rfl) ids I w [_] hg ⟨_,[],rfl,by unfold VR;exact⟨rfl,.inl ⟨rfl,some a,rfl,λ_=>rfl⟩⟩,rfl⟩
 unfold db at hp;split at hp
 .simp only[aS,Prod.mk.injEq]at hp
  obtain⟨rfl,rfl⟩:=hp;obtain⟨v,s,rfl,hx,rfl⟩:=hv;exact pB v hx
 .simp only[aS,Prod.mk.injEq]at hp
  obtain⟨rfl,rfl⟩:=hp;obtain⟨v,s,rfl,hx,rfl⟩:=hv;unfold VR at hx;obtain⟨a,rfl⟩:=hx;cases a with
  |none=>exact pB _ rfl
  |some a=>exact Ui a
 .rename_i nn
  simp only[aS,Prod.mk.injEq]at hp;obtain⟨rfl,rfl⟩:=hp;obtain⟨v,s,rfl,hx,rfl⟩:=hv
  by_cases hn:v = .slice none 0 0
  .exact pB v hn
  .have pG : VR (ad σ ids I) w.heap (.aA true []) v:=by
    unfold VR at hx ⊢;refine⟨rfl,?_⟩;rcases hx.2 with⟨h1,a,h2,_⟩|h
    .refine .inl ⟨rfl,a,h2,λ_=>?_⟩
     cases a with
     |none=>exact absurd h2 hn
     |some q=>rfl
    .exact .inr h
   exact fG f [.aA true []] σ .emp σ (qf f t σ (.aA true []) _ .emp (FV t σ) rfl) ids I w [v] hg ⟨v,[],rfl,pG, rfl⟩
 .rename_i nn x l
  split at hp
  .rename_i hc
   simp only[aD,cO]at hc;simp only[aS,Prod.mk.injEq]at hp;obtain⟨rfl,rfl⟩:=hp;have dp:aE σ none (.aA nn (x::l))=some ((x::l).length,x::l):=by
    show(if fitAll (aC none) (x::l)=true then some ((x::l).length,(x::l).flatMap AV.cells)else none)=_
    rw[ah (T9 hc.1),T8 hc.1]
   have KX:ev (λ_ _ _=>none) σ σ.length [] (rv [.aA nn (x::l),.au] [.aA nn (x::l)]) (.ma false (.t 0))=some (.bool false,none):=by
    cases nn<;>simp[ev,rv,nth]
   have:=FW (t:=t) (σ:=σ) KX dp ab hc.2
   exact fG f [.aA nn (x::l)] σ _ _ (qf f t σ _ _ (.sl σ.length (x::l).length 0 (x::l).length) this oq) ids I w vs hg hv
  .simp at hp
 .rename_i b u off len
  cases hu:upto σ b u with
  |none=>simp[hu]at hp
  |some B=>
   simp only[hu]at hp;split at hp
   case isFalse=>simp at hp
   rename_i hc;simp only[aD,cO]at hc;obtain⟨⟨⟨c1,c2⟩,c3⟩,c4⟩:=hc;have c2:=wQ c2;have eA:B.st = .live:=by revert c1;cases B.st<;>simp[c6.isLive]
   have dp:aE σ none (.sl b u off len)=some (len,(B.cells.drop off).take len):=by
    unfold aE;simp only[hu,aC,c2,Nat.mul_one];rw[ah ⟨c3,trivial⟩]
   have KX:ev (λ_ _ _=>none) σ σ.length [] (rv [.sl b u off len,.au] [.sl b u off len]) (.ma false (.t 0))=some (.bool false,none):=by
    simp[ev,rv,nth,hu,eA]
   by_cases h0:len=0
   .subst h0
    simp only[jr,cn,aS,Prod.mk.injEq]at hp;obtain⟨rfl,rfl⟩:=hp;have:exec 9 (λ_ _ _=>none) (br t).body ⟨[.sl b u off 0,.au],none,σ⟩=some (.ret,⟨[.au,.emp],none,σ⟩):=by
     have eu:dO (λ_ _ _=>none) σ (rv [.sl b u off 0,.au] [.sl b u off 0,.emp]) (.bB (.t 1) (.t 0) none)=some (.emp,σ):=by
      show((match aE σ none (.sl b u off 0)with
       |none=>none
       |some (n,cs)=>if n==0 then some (AV.emp,σ)else if n<=cE then some (AV.sl σ.length cs.length 0 n,σ ++ [aj.mk none cs .live])else none):Option (AV×List aj))=_
      rw[dp];rfl
     simp only[br,exec,aT,lines,bS,want,bZ.gG,bZ.il,↓reduceIte,cZ,jr];simp only[show ∀(σ:List aj) (env:List AV),ev (λ_ _ _=>none) σ σ.length [] (rv [.sl b u off 0,.au] env) (.mv (.c .ag))=some (.ag,none)from λ_ _=>rfl,ck,outs,bD,nth,↓reduceIte,cZ,jr];simp only[show ∀(σ:List aj) (env:List AV),ev (λ_ _ _=>none) σ σ.length [] (rv [.sl b u off 0,.au] env) (.mv (.v 0))=some (.sl b u off 0,none)from λ_ _=>rfl,KX,nth,cZ,↓reduceIte,jr];simp only[show ∀(σ:List aj) (env:List AV),ev (λ_ _ _=>none) σ σ.length [] (rv [.sl b u off 0,.au] env) (.mG 1)=some (.emp,none)from λ_ _=>rfl,show ∀(σ:List aj) (env:List AV),ev (λ_ _ _=>none) σ σ.length [] (rv [.sl b u off 0,.au] env) (.mv (.v 0))=some (.sl b u off 0,none)from λ_ _=>rfl,eu];simp only[show ∀(σ:List aj) (env:List AV),ev (λ_ _ _=>none) σ σ.length [] (rv [.sl b u off 0,.au] env) (.mv (.t 0))=some (nth env 0,none)from λ_ _=>rfl,nth,ck,outs,bD]
    exact fG f [.sl b u off 0] σ _ _ (qf f t σ _ _ .emp this oq) ids I w vs hg hv
   .have h0' : (len==0)=false:=by simpa using h0
    simp only[h0', cZ,dg,aS,Prod.mk.injEq]at hp;obtain⟨rfl,rfl⟩:=hp;have:=FW (t:=t) (σ:=σ) KX dp h0 c4;rw[show((B.cells.drop off).take len).length=len by simp;omega]at this
    exact fG f [.sl b u off len] σ _ _ (qf f t σ _ _ (.sl σ.length len 0 len) this oq) ids I w vs hg hv
 .simp at hp
end Ab
