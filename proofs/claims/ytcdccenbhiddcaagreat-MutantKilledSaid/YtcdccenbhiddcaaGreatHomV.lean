/- The words that are no proper prefixes of others; and what it leans on. Condition: none. -/
import Derived.Test.YtcdccenbhiddcaaGreatCovF
import Derived.Test.YtcdccenbhiddcaaGreatMnlT
import Derived.Test.YtcdccenbhiddcaaGreatHomB
import Derived.Test.YtcdccenbhiddcaaGreatMinE
import Derived.Test.YtcdccenbhiddcaaGreatWsuM
import Derived.Test.YtcdccenbhiddcaaGreatSepA
set_option linter.all false
set_option maxRecDepth 100000
set_option maxHeartbeats 4000000
namespace Ab
def J3:∀{w x v:List Int},bh w x<=0->bh x v<=0->w <+: v->w <+: x
 | [],x,v,_,_,_=>List.nil_prefix
 |a::w,[],v,h,_,_=>by simp[bh]at h
 |a::w,b::x,[],_,_,h=>by simp at h
 |a::w,b::x,c::v,d,f,h=>by
  rw[List.cons_prefix_cons]at h;obtain⟨rfl,h⟩:=h;unfold bh at d f;rcases lY a b with e|e|e
  .rw[ae aa,ah e]at f;omega
  .subst e
   simp at d f;rw[List.cons_prefix_cons];exact⟨rfl,J3 d f h⟩
  .rw[ae aa,ah e]at d;omega
def J4:∀{w v:List Int},w <+: v->w ≠ v->bh w v<0
 | [],[],_,h=>absurd rfl h
 | [],_::_,_,_=>by simp[bh]
 |a::w,[],h,_=>by simp at h
 |a::w,c::v,h,b=>by
  rw[List.cons_prefix_cons]at h;obtain⟨rfl,h⟩:=h;have:=J4 h (λe=>b (by rw[e]))
  simp[bh];exact this
def vy (l:List (List Int)) (w:List Int):Bool:=l.all λv=>!(decide (w ≠ v)&&decide (v.take w.length=w))
variable{l:List (List Int)}{w:List Int}
def aaf:vy l w=true↔∀v∈l,w ≠ v->¬w <+: v:=by
 unfold vy;rw[eS];refine forall_congr' λv=>forall_congr' λ_=>?_;have e:(v.take w.length=w)↔w <+: v:=by rw[List.prefix_iff_eq_take];exact eq_comm
 by_cases h:w=v<;>simp[h,<-e]
def e7 (l:List (List Int)):List (List Int):=(dD l).filter (vy l)
def s5:w∈e7 l↔w∈l/\∀v∈l,w ≠ v->¬w <+: v:=by
 unfold e7;rw[jt,Br,aaf]
def aag (l:List (List Int)):lM (e7 l):=List.Pairwise.filter _ (Bn fe l)
def aah{all:List (List Int)}(p:lq bh all) (n:∀w,w∈all↔w∈l){i:Int}(o:0<=i) (i1:i<all.length) :
  (i+1=all.length\/¬ix all i <+: ix all (i+1))↔∀v∈l,ix all i ≠ v->¬ix all i <+: v:=by
 have d:∀a b:Int,0<=a->a<b->b<(all.length:Int)->bh (ix all a) (ix all b)<0:=λa b A B b1=>by
  have h:=p;rw[lq,pL]at h;have:=h a.toNat b.toNat aa aa aa
  rw[<-aK aa,<-aK aa]at this
  rwa [show((a.toNat:Nat):Int)=a by omega,show((b.toNat:Nat):Int)=b by omega]at this
 constructor
 .intro h v q f g
  obtain⟨j,r,e⟩:=cd.1 ((n v).2 q);have e:ix all (j:Int)=v:=by rw[aK r];exact e
  have s:=J4 g f;rw[<-e]at s;have u:i<(j:Int):=by
   rcases lY i (j:Int)with a|a|a
   .exact a
   .rw[<-a]at e;exact absurd e f
   .have m:=d j i aa a i1
    have:=pJ.iC (ix all i) (ix all (j:Int));omega
  rcases h with h|h
  .omega
  .apply h
   have m:=d i (i+1) o aa aa
   by_cases x:(j:Int)=i+1
   .rw[<-x,e];exact g
   .have y:=d (i+1) j aa aa aa
    rw[e]at y;exact J3 aa aa g
 .intro h
  by_cases e:i+1=(all.length:Int)
  .exact .inl e
  .right
   have m:=d i (i+1) o aa aa
   refine h _ ((n _).1 (bt aa aa)) λz =>?_
   rw[<-z]at m;have:=pJ.refl (ix all i);omega
def aai{k:List (List Int)}(h:∀w,w∈k↔w∈l/\∀v∈l,w ≠ v->¬w <+: v):dD k=e7 l:=Bp (aag l) λw=>by rw[h,s5]
def jF:List Int->List Int->Nat
 |x::a,y::b=>if x=y then jF a b+1 else 0
 |_,_=>0
def BN:∀{i:Nat}{a b:List Int},i<=a.length->i<=b.length->(∀j:Nat,j<i->ix a (j:Int)=ix b (j:Int))->(i=a.length\/i=b.length\/ix a (i:Int) ≠ ix b (i:Int))->jF a b=i
 |0,[],b,_,_,_,_=>by simp[jF]
 |0,_::_,[],_,_,_,_=>by simp[jF]
 |0,x::a,y::b,_,_,_,h=>by
  rcases h with h|h|h
  .simp at h
  .simp at h
  .have h:¬x=y:=h
   unfold jF;rw[ae h]
 |i+1,[],b,h,_,_,_=>by simp at h
 |i+1,_::_,[],_,h,_,_=>by simp at h
 |i+1,x::a,y::b,m,n,f,g=>by
  have d:∀(l:List Int) (z:Int) (j:Nat),ix (z::l) ((j+1:Nat):Int)=ix l (j:Int):=λl z j=>by simp[ix]
  have e:=f 0 aa
  have e:x=y:=e;unfold jF;rw[ah e,BN (i:=i) (by simpa using m) (by simpa using n) (λj o=>by have:=f (j+1) aa;rwa [d,d]at this) ?_]
  rw[d,d]at g;simpa using g
def J5:∀{w p:List Int},jF w p=p.length↔p <+: w
 | [],[]=>by simp[jF]
 | [],_::_=>by simp[jF]
 |_::_,[]=>by simp[jF]
 |x::w,y::p=>by
  have:=J5 (w:=w) (p:=p);unfold jF;rw[List.cons_prefix_cons]
  by_cases e:x=y
  .rw[ah e];simp[e,this]
  .rw[ae e];simp;intro h;exact absurd h.symm e
def aaj (a b:List Int) (l:(a.length:Int)<=9223372036854775807) (m:(b.length:Int)<=9223372036854775807):PC yI [iL a,iL b]=some (.int (jF a b)):=by
 refine ba (WE rfl ?_);simp;refine a6 (λi:Nat=>[(2,.int i)]) (λ_=>[]) (λi=>i<=a.length/\i<=b.length/\∀j:Nat,j<i->ix a (j:Int)=ix b (j:Int)) (λi=>a.length-i) 0 dL ⟨aa,aa,λj h=>aa⟩ λi ⟨f,i1,d⟩=>?_
 by_cases g:i<a.length/\i<b.length
 .simp[-ax,g.1,g.2,show(i:Int)<min (a.length:Int) b.length by omega]
  refine⟨λh=>⟨aa,aL (i+1) ab rfl ⟨aa,aa,λj n=>?_⟩ aa⟩,λh=>?_⟩
  .by_cases e:j=i
   .subst e;exact h
   .exact d j aa
  .rw[BN f i1 d (.inr (.inr h))]
 .have e:jF a b=i:=BN f i1 d aa
  simp[show ¬(i:Int)<min (a.length:Int) b.length by omega,e]
  omega
def aak (w p:List Int) (a:(w.length:Int)<=9223372036854775807) (b:(p.length:Int)<=9223372036854775807):PC yy [iL w,iL p]=some (.bool (decide (p <+: w))):=by
 refine ba (Wj rfl ?_);simp[aaj w p a b];have:=J5 (w:=w) (p:=p);constructor
 .intro h;exact this.1 aa
 .intro h;have:=this.2 h;omega
def aal (a b:List Int) (d:(a.length:Int)<=9223372036854775807) (e:(b.length:Int)<=9223372036854775807):PC si [iL a,iL b]=some (.int (bh a b)):=by
 refine ba (Wi rfl ?_);simp[IH a b d e]
def aam:Bs si bh:=⟨pJ,λa b d e=>aal a b aa aa,.inr rfl⟩
def aan (ws:List (List Int)) (a:(ws.length:Int)<=1000000) (b:mw ws):PC sg [aW ws,.func si []]=some (aW (dK bh ws)):=I0 aam ws a b
def aao (ws:List (List Int)) (B:(ws.length:Int)<=1000000) (s:mw ws):PC yk [aW ws]=some (aW (e7 ws)):=by
 refine ba (V0 rfl ?_);have g:=aan ws B s;have m:=Bn pJ ws;have a:∀w,w∈dK bh ws↔w∈ws:=λw=>vi;have hlen:(dK bh ws).length<=ws.length:=by
  have:=Bo (cU bh ws)
  rwa [sT]at this
 simp[g];generalize dK bh ws=all at *;refine a6 (λp:Nat×List (List Int)=>[(2,.int p.1),(7,.sl 0 p.2.length 0 p.2.length)]) (λp=>[cX p.2]) (λp=>p.1<=all.length/\p.2.length<=p.1/\∀w,w∈p.2↔∃j:Nat,j<p.1/\ix all (j:Int)=w/\∀v∈ws,w ≠ v->¬w <+: v) (λp=>all.length-p.1) (0,[]) dL ⟨ab,ab,λw=>ab⟩ ?_
 rintro⟨i,out⟩ ⟨C,i1,o⟩;dsimp only at C i1 o ⊢
 by_cases u:i<all.length
 .have x:=aah m a (i:=(i:Int)) aa aa
  have f:(∀v∈ws,ix all (i:Int) ≠ v->¬ix all (i:Int) <+: v)->∀w,w∈out ++ [ix all (i:Int)]↔∃j:Nat,j<i+1/\ix all (j:Int)=w/\∀v∈ws,w ≠ v->¬w <+: v:=λh w=>by
   rw[cp,o];constructor
   .rintro(⟨j,q,b,d⟩|z)
    .exact⟨j,aa,b,d⟩
    .simp at z; subst z; exact⟨i,aa,rfl,h⟩
   .rintro⟨j,q,b,d⟩
    by_cases e:j=i
    .subst e;right;simp[b]
    .exact .inl ⟨j,aa,b,d⟩
  have drop:¬(∀v∈ws,ix all (i:Int) ≠ v->¬ix all (i:Int) <+: v)->∀w,w∈out↔∃j:Nat,j<i+1/\ix all (j:Int)=w/\∀v∈ws,w ≠ v->¬w <+: v:=λh w=>by
   rw[o];constructor
   .rintro⟨j,q,b,d⟩;exact⟨j,aa,b,d⟩
   .rintro⟨j,q,b,d⟩
    by_cases e:j=i
    .subst e;rw[<-b]at d;exact absurd d h
    .exact⟨j,aa,b,d⟩
  have D:=s _ ((a _).1 (bt (l:=all) (n:=(i:Int)) aa aa))
  by_cases K:i+1<all.length
  .have E:=s _ ((a _).1 (bt (l:=all) (n:=(i:Int)+1) aa aa))
   have F:=aak (ix all ((i:Int)+1)) (ix all (i:Int)) aa aa
   simp[-ax,u,F,show ¬(i:Int)+1=all.length by omega,show(i:Int)+1<all.length by omega]
   refine⟨aa,aa,λr=>⟨aa,aL (i+1,out) ab rfl ⟨aI,aI,drop λh=>?_⟩ aI⟩,λy=>⟨dA,aa,aa,aL (i+1,out ++ [ix all (i:Int)]) ab (by simp[cX]) ⟨aI,ai,f (x.1 (.inr y))⟩ aI⟩⟩
   rcases x.2 h with e|e
   .omega
   .exact e r
  .simp[-ax,u,show(i:Int)+1=all.length by omega]
   refine⟨aa,dA,aa,aa,aL (i+1,out ++ [ix all (i:Int)]) ai (by simp[cX]) ⟨aI,ai,f (x.1 (.inl aa))⟩ aI⟩
 .have A:=I7 out aa λw h=>by
   obtain⟨j,q,b,_⟩:=(o w).1 h;rw[<-b];exact s _ ((a _).1 (bt aa aa))
  have G:dD out=e7 ws:=aai λw=>by
   rw[o];constructor
   .rintro⟨j,q,b,d⟩;exact⟨by rw[<-b];exact(a _).1 (bt aa aa),d⟩
   .rintro⟨H,I⟩
    obtain⟨j,J,e⟩:=cd.1 ((a w).2 H);exact⟨j,aa,by rw[aK J];exact e,I⟩
  rw[G]at A;simp[u];refine H7 rfl ?_;simp[A]
variable{m:ak}
def Bv.len{n:Nat}{G:List Gr}(h:Bv m w n G):∀g∈G,g.1.length=w.length:=λg Y=>by
 obtain⟨s,_,e⟩:=h.ne g Y;rw[<-e,jR]
def ak.s6 (m:ak) (w:List Int):Int:=if m.ao ≠ 0 then m.ao else cL w m.inputs
def ak.pos (m:ak) (w o:List Int):List Int×Int:=if m.s6 w ≠ 0 then([],m.s6 w)else if w.length ≠ o.length then([],1)else(m.cur w o,0)
def ak.fin (m:ak) (w o:List Int):Int×Bool×Int:=if(m.pos w o).2 ≠ 0\/(m.pos w o).1.length ≠ 1 then(0,false,(m.pos w o).2)else(ix (m.pos w o).1 0,true,0)
def aap (m:ak) (h:m.fits) (a:m.ao=0) (s t:Int) (e:0<=s/\s<(m.next.length:Int)) (f:0<=t/\t<(m.next.length:Int)):PC uA [m.av,.int s,.int t]=some (.bz [iL ((ef m m s t).getD []),.bool (ef m m s t).isSome,.int 0]):=by
 refine ba (We rfl ?_);have b:=fD m h;rw[a]at b;have d:=fQ a;have g:=Iz m m d d rfl s t e f;have i:(s<0)=False:=cf aa
 have j:(t<0)=False:=cf aa
 have l:((m.next.length:Int)<=s)=False:=cf aa
 have n:((m.next.length:Int)<=t)=False:=cf aa
 simp[b,g,i,j,l,n]
structure J6 (m:ak) (R:List Int) (p:Nat×List Int):Prop where
 eq:m.vX (m.next.length-p.1) p.2=R
 oO:p.1+1<=m.oO p.2
 sym:∀x∈p.2,0<=x/\x<m.inputs
 len:p.2.length<=64*p.1
def J6.init(Y:m.Ok):J6 m (m.vX m.next.length []) (0,[]):=by
 have:=Y.states;exact⟨rfl,Ze aa,ab,ab⟩
def J6.step(hm:gJ m) (hn:m.next.length<=8){R:List Int}{i:Nat}(h:J6 m R (i,w)) (ho:m.bO w ≠ []):∃v,ef m m (ix (m.bO w) 0) (ix (m.bO w) 1)=some v/\J6 m R (i+1,w++v)/\i+2<=m.next.length/\w.length+v.length<=1024/\v ≠ []:=by
 have Y:∀x∈w,0<=x/\x<m.inputs:=h.sym;obtain⟨v,h1,h2,h3,h4⟩:=Zi hm Y ho;have hc:=h.oO;have hle:=Zd (m:=m) (w:=w++v);have hl:=h.len;have h64:m.next.length*m.next.length<=64:=jg hn hn
 dsimp only at hc hl;have e:=h.eq;dsimp only at e;obtain⟨j,hj⟩:∃j,m.next.length-i=j+1:=⟨m.next.length-i-1,aa⟩
 rw[hj]at e;unfold ak.vX at e;rw[if_neg ho,h1,Option.getD_some]at e;refine⟨v,h1,⟨?_,aI,h2,by dsimp only;rw[List.length_append];omega⟩,aa,aa,λe=>by rw[e,List.append_nil]at h4;omega⟩
 dsimp only;rw[show m.next.length-(i+1)=j by omega]
 exact e
end Ab
