/- The laws about single-entry automata but the document's. Condition: none. -/
import Derived.Test.YtdenhmniigikcaaGreatS44U
import Derived.Test.YtdenhmniigikcaaGreatR44A
set_option linter.all false
set_option maxRecDepth 100000
set_option maxHeartbeats 4000000
namespace Ab
variable{w:List Int}{t:Int}
def aoE{n:ao}(e:n.Ok)(d:Wd n.eA n.start t w):n.bh w↔ix n.accept t=true:=⟨λ⟨g, a, b⟩=>by rw[d.oN e.m0 a];exact b, λh=>⟨t,d,h⟩⟩
def dz:ao:=⟨2,0,2,2,0,[true,false],[[0,0],[1,1]],[[0,1],[0,0]],[[],[]],[[[0,1],[1,0]],[[1,1],[1,1]]]⟩
def sg:ao:=⟨2,0,2,4,0,[true,false],[[0,0],[0,0]],[[0,1],[2,3]],[[],[]],[[[0,1],[1,0],[1,1],[1,1]],[[1,1],[1,1],[1,1],[1,1]]]⟩
def E7:dz.bC=0:=bO
def V7:sg.bC=0:=bO
def vl:dz.Ok:=tx E7
def V8:sg.Ok:=tx V7
def yi (t c s r:Int):Int:=if t=1 then 1 else if s=1 then 1 else if c=r then 0 else 1
def wb{x:Int}(a:0<=x) (b:x<2):x=0\/x=1:=aa
variable{c s r:Int}{u:List Int}
def LQ(m:t=0\/t=1) (b:s=0\/s=1) (d:0<=c) (g:c<2) (i:0<=r) (j:r<2) (h:Wd dz.eA 0 s u) (n:Wd dz.eA 1 1 u):Wd dz.eA t (yi t c s r) (c::(u ++ [2+0+r])):=by
 have a:=wb d g;have l:=wb i j;have key:∀p,Wd dz.eA (dz.eA.call t c).1 p u->dz.eA.pop p (dz.eA.call t c).2 r=yi t c s r->Wd dz.eA t (yi t c s r) (c::(u ++ [2+0+r])):=λp o e=>by
  have:=Wd.call (M:=dz.eA) t c p r (yi t c s r) u [] d g i j o (by rw[e];exact .nil _)
  exact this
 rcases m with rfl|rfl
 .refine key s ?_ ?_
  .rcases a with rfl|rfl<;>exact h
  .rcases a with rfl|rfl<;>rcases l with rfl|rfl<;>rcases b with rfl|rfl<;>rfl
 .refine key 1 ?_ ?_
  .rcases a with rfl|rfl<;>exact n
  .rcases a with rfl|rfl<;>rcases l with rfl|rfl<;>rcases b with rfl|rfl<;>rfl
def qL(h:Ww dz.cK w):∃t:Int,(t=0\/t=1)/\Wd dz.eA 0 t w/\Wd dz.eA 1 1 w:=by
 induction h with
 |nil=>exact⟨0,.inl rfl,.nil _,.nil _⟩
 |aQ w i x i1 _ _=>have i1:i<0:=i1;omega
 |aq w u c r g j l m _ _ b d=>
  obtain⟨t,p,q,e⟩:=b;obtain⟨s,n,o,a⟩:=d;refine⟨yi t c s r,?_,q.app (LQ p n g j l m o a),?_⟩
  .unfold yi;split
   .exact .inr rfl
   .split
    .exact .inr rfl
    .split
     .exact .inl rfl
     .exact .inr rfl
  .have:=e.app (LQ (t:=1) (.inr rfl) n g j l m o a)
   exact this
def tP(h:Wd dz.eA 0 s w) (g:Wd dz.eA 0 t w):s=t:=h.oN vl.m0 g
def vm(e:Wd dz.eA 0 t w) (g:Wd dz.eA 0 s u) (h:0<=c) (i:c<2) (j:0<=r) (l:r<2):Wd dz.eA 0 (yi t c s r) (w++c::(u ++ [2+0+r])):=by
 obtain⟨o, m,a, _⟩:=qL e.ww;obtain⟨p, n,b, d⟩:=qL g.ww;rw[tP e a, tP g b];exact a.app (LQ m n h i j l b d)
def xH(h:Wd dz.eA 0 t w):dz.bh w↔t=0:=by
 have:=aoE vl (n:=dz) (w:=w) (t:=t) h;rw[this];obtain⟨d, b,a, _⟩:=qL h.ww;rw[tP h a];rcases b with rfl|rfl<;>decide
def AF{v:List Int}(a:Wd dz.eA 0 s u) (b:Wd dz.eA 0 t v):jw dz.cK dz.bh u v↔s=t:=by
 constructor
 .intro h
  have:=h.acc;rw[xH a,xH b]at this;obtain⟨z, n,o, _⟩:=qL a.ww;obtain⟨A, B,p, _⟩:=qL b.ww;have C:=tP a o;have D:=tP b p;omega
 .intro e n
  have back:∀{u v:List Int},Sep dz.cK dz.bh u v->∀s t,Wd dz.eA 0 s u->Wd dz.eA 0 t v->s ≠ t:=by
   intro u v n
   induction n with
   |acc u v h=>
    intro s t a b e;subst e;exact h (by rw[xH a,xH b])
   |aQ u v i E i1 _ _=>have i1:i<0:=i1;omega
   |bl u v y c r d g j l q _ w=>
    intro s t a b e;subst e;obtain⟨x,_,m,_⟩:=qL q;exact w _ _ (vm a m d g j l) (vm b m d g j l) rfl
   |br u v y c r d g j l q _ w=>
    intro s t a b e;subst e;obtain⟨x,_,m,_⟩:=qL q;exact w _ _ (vm m a d g j l) (vm m b d g j l) rfl
  exact back n _ _ a b e
def rh:Wd dz.eA 0 1 [0,3]:=vm (w:=[]) (u:=[]) (t:=0) (s:=0) (c:=0) (r:=1) (.nil _) (.nil _) aa aa aa aa
def D7:fy dz.cK dz.bh [[],[0,3]]:=by
 refine⟨?_,λw d=>?_,λw d v e p=>?_,λv e=>?_⟩
 .simp;decide
 .rcases b5.1 d with rfl|d
  .exact .nil
  .simp at d;subst d;exact rh.ww
 .rcases b5.1 d with rfl|d
  .unfold aI
   split
   .omega
   .split
    .rename_i h;simp at h
    .cases v with
     |nil=>decide
     |cons a v=>rename_i h _;simp at h
  .simp at d
   subst d;obtain⟨t,l,b,_⟩:=qL e;have:=(AF rh b).1 p;subst this;cases e with
   |nil=>have:=tP b (.nil 0);omega
   |aQ w i q i1 _=>have i1:i<0:=i1;omega
   |aq w u c r m g n j d s=>
    by_cases o:w=[]/\u=[]
    .obtain⟨rfl,rfl⟩:=o
     have:=tP b (vm (.nil 0) (.nil 0) m g n j);have g:c<2:=g;have j:r<2:=j;rcases wb m g with rfl|rfl<;>rcases wb n j with rfl|rfl
     .simp[yi]at this
     .decide
     .decide
     .simp[yi]at this
    .have hlen:2<(w++c::(u ++ [dz.cK.c+dz.cK.i+r])).length:=by
      simp only[aU,cO,fe];cases w with
      |nil=>cases u with
       |nil=>exact absurd ⟨rfl,rfl⟩ o
       |cons a u=>simp<;>omega
      |cons a w=>simp<;>omega
     unfold aI;rw[ae (by simpa using hlen)];omega
 .obtain⟨t,l,b,_⟩:=qL e
  rcases l with rfl|rfl
  .exact⟨[],ab,(AF b (.nil 0)).2 rfl⟩
  .exact⟨[0,3],ab,(AF b rh).2 rfl⟩
def aoF(h:Wd dz.eA 0 t w):gF dz.cK dz.bh [[],[0,3]] w=t:=by
 obtain⟨d, b,a, _⟩:=qL h.ww;have e:=tP h a;subst e;rcases b with rfl|rfl
 .exact vh D7 h.ww aa ab ((AF h (.nil 0)).2 rfl)
 .exact vh D7 h.ww aa ab ((AF h rh).2 rfl)
def LR:cJ dz.cK dz.bh [[],[0,3]]=sg:=by
 have b:Wd dz.eA 0 0 []:=.nil 0;have R:∀{w u:List Int} {t s:Int},Wd dz.eA 0 t w->Wd dz.eA 0 s u->∀c r:Int,0<=c->c<2->0<=r->r<2->gF dz.cK dz.bh [[],[0,3]] (w++c::(u ++ [2+0+r]))=yi t c s r:=λj l c r m n o p=>aoF (vm j l m n o p);have q:dz.bh []:=(xH b).2 rfl;have x:¬dz.bh [0,3]:=λh=>by have:=(xH rh).1 h;omega
 have y:ix ([[],[0,3]]:List (List Int)) 0=[]:=rfl;have z:ix ([[],[0,3]]:List (List Int)) 1=[0,3]:=rfl;refine ao.ext' rfl rfl rfl rfl rfl ?_ rfl rfl rfl ?_
 .show[@decide (dz.bh []) (Classical.propDecidable _),@decide (dz.bh [0,3]) (Classical.propDecidable _)]=[true,false]
  rw[@decide_eq_true _ (Classical.propDecidable _) q,@decide_eq_false _ (Classical.propDecidable _) x]
 .have P:∀(i g r:Nat),i<2->g<4->r<2->(if dz.cK.c.toNat=0 then(0:Int)else gF dz.cK dz.bh [[],[0,3]] (ix ([[],[0,3]]:List (List Int)) ((g/dz.cK.c.toNat:Nat):Int)++((g%dz.cK.c.toNat:Nat):Int)::(ix ([[],[0,3]]:List (List Int)) (i:Int) ++ [dz.cK.c+dz.cK.i+(r:Int)])))=yi ((g/2:Nat):Int) ((g%2:Nat):Int) (i:Int) (r:Int):=λi g r a d e=>by
   have W:∀k:Nat,k<2->Wd dz.eA 0 (k:Int) (ix ([[],[0,3]]:List (List Int)) (k:Int)):=λk A=>by
    have:k=0\/k=1:=aa
    rcases this with rfl|rfl
    .exact b
    .exact rh
   rw[ad bO]
   show gF dz.cK dz.bh [[],[0,3]] (ix ([[],[0,3]]:List (List Int)) ((g/2:Nat):Int)++((g%2:Nat):Int)::(ix ([[],[0,3]]:List (List Int)) (i:Int) ++ [2+0+(r:Int)]))=_;exact R (W (g/2) aa) (W i a) _ _ aa aa aa aa
  show(List.range 2).map (λ(i:Nat)=>(List.range 4).map λ(g:Nat)=>(List.range 2).map λ(r:Nat)=>if dz.cK.c.toNat=0 then(0:Int)else gF dz.cK dz.bh [[],[0,3]] (ix ([[],[0,3]]:List (List Int)) ((g/dz.cK.c.toNat:Nat):Int)++((g%dz.cK.c.toNat:Nat):Int)::(ix ([[],[0,3]]:List (List Int)) (i:Int) ++ [dz.cK.c+dz.cK.i+(r:Int)])))=_
  rw[eM (g:=λ(i:Nat)=>(List.range 4).map λ(g:Nat)=>(List.range 2).map λ(r:Nat)=>yi ((g/2:Nat):Int) ((g%2:Nat):Int) (i:Int) (r:Int)) λi a=>eM λg d=>eM λr e=>P i g r (bQ.1 a) (bQ.1 d) (bQ.1 e)]
  decide
def V9:mE dz [[],[0,3]]:=⟨vl,D7,bO,bO⟩
def aoG:sg.bh=dz.bh:=by rw[<-LR];exact V9.bh
end Ab
