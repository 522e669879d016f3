/- Equality of lists, of machines; and what it leans on. Condition: none. -/
import Derived.Test.YtcdccenbhiddcaaGreatGbf
import Derived.Test.YtcdccenbhiddcaaGreatMnlT
import Derived.Test.YtcdccenbhiddcaaGreatDifA
import Derived.Test.YtcdccenbhiddcaaGreatCovB
import Derived.Test.YtcdccenbhiddcaaGreatSmallM
import Derived.Test.YtcdccenbhiddcaaGreatCovF
import Derived.Test.YtcdccenbhiddcaaGreatMini
import Derived.Test.YtcdccenbhiddcaaGreatMokA
import Derived.Test.YtcdccenbhiddcaaGreatEqv
set_option linter.all false
set_option maxRecDepth 100000
set_option maxHeartbeats 4000000
namespace Ab
def Y2{a b:List Int}(d:a.length=b.length) (h:∀j,0<=j->j<(a.length:Int)->ix a j=ix b j):a=b:=by
 apply List.ext_getElem d;intro i e f;have:=h i aa aa
 rwa [aK e,aK f]at this
structure ak.Lil (m:ak):Prop where
 nl:(m.next.length:Int)<=1000000
 ol:(m.out.length:Int)<=1000000
 nr:∀r∈m.next,(r.length:Int)<=1000000
 or:∀r∈m.out,(r.length:Int)<=1000000
def wj (a b:List Int) (p:(a.length:Int)<=1000000) (q:(b.length:Int)<=9223372036854775807):PC uF [iL a,iL b]=some (.bool (decide (a=b))):=by
 refine ba (Wp rfl ?_)
 by_cases f:a.length=b.length
 .simp[f]
  refine a6 (λi:Int=>[(2,.int i)]) (λ_=>[]) (λi=>0<=i/\i<=b.length/\∀j,0<=j->j<i->ix a j=ix b j) (λi=>(b.length-i).toNat) 0 rfl ⟨aa,aa,nE⟩ λi ⟨m,i1,l⟩=>?_
  by_cases r:i<a.length
  .have d:i<(b.length:Int):=by omega
   simp[-ax,f,d,m];refine⟨λh=>⟨aa,aL (i+1) rfl rfl ⟨aa,aa,kB h l⟩ aa⟩,λh e=>?_⟩
   subst e;exact h rfl
  .have d:¬i<(b.length:Int):=by omega
   have e:=Y2 f λj n s=>l j n aa
   simp[f,d];exact e
 .have g : ¬(a.length:Int)=b.length:=by omega
  have o:¬a=b:=λe=>f (by rw[e])
  simp[g, o,f]
def Jb (m:ak) (h:m.fits) (w:List Int) (a:(w.length:Int)<=9223372036854775807):PC uE [m.av,iL w]=some (.bz [iL (m.from m.start w).1,.int (m.from m.start w).2.2]):=by
 refine ba (Wo rfl ?_);simp[Yb m h m.start w a]
def Jc (m:ak) (s:Int) (w:List Int):((m.from s w).1.length:Int)<=1024:=by
 unfold ak.from;split
 .simp
 split
 .simp
 split
 .simp
 .rename_i b d a
  have:=(Ia (w:=w) (k:=m.inputs) cV).1
  dsimp only;rw[jR];exact this
variable{w:List Int}
def Jd{k:Int}(b:1<=k/\k<=1024) (d:(w.length:Int)<=1024) (a:∀x∈w,0<=x/\x<k):cL w k=0:=by
 unfold cL;rw[ae aa,ae aa,ae (by rw[sA.2 a];simp)]
variable{m:ak}{u:List Int}
def Je(a:m.ao=0)(d:∀y∈u,0<=y/\y<m.inputs) (e:(u.length:Int)<=1024):m.from m.start u=(m.outs m.start u,m.run m.start u,0):=by
 have b:=fQ a;have f:=b.inputs;rw[Yc a b.start,ae (by rw[Jd aa e d];simp)]
def Y3{s:Int}{q:List Pl}(h:Bq m s q){i j:Int}(p:0<=i) (i1:i<q.length) (r:0<=j) (u:j<q.length) (e:(ix q i).1=(ix q j).1):i=j:=by
 have f:(q.map (·.1)).Pairwise (λa b=>a ≠ b):=h.nd;rw[pL]at f;have key:∀a b:Nat,a<b->b<q.length->(ix q (a:Int)).1=(ix q (b:Int)).1->False:=λa b d g e=>by
  have:=f a b ai ai d
  rw[aK aa,aK g]at e
  simp[e]at this
 rcases lY i j with l|n|o
 .exact(key i.toNat j.toNat aa aa (by rw[show((i.toNat:Nat):Int)=i by omega,show((j.toNat:Nat):Int)=j by omega];exact e)).elim
 .exact n
 .exact(key j.toNat i.toNat aa aa (by rw[show((i.toNat:Nat):Int)=i by omega,show((j.toNat:Nat):Int)=j by omega];exact e.symm)).elim
variable{a:ak}
def Y4(b:a.Ok){p:Pl}(d:p∈a.af a.start):a.run a.start p.2=p.1/\∀x∈p.2,0<=x/\x<a.inputs:=by
 have e:=iW a b a.start b.start;obtain⟨i,f,rfl⟩:=cd.1 d;have:=e.run (i:Int) aa aa
 rwa [aK f]at this
def nM(h:gJ m):(m.af m.start).length=m.next.length:=by
 have i:=iW m h.ok m.start h.ok.start;have hle:=i.bq.le;refine Nat.le_antisymm hle ?_;have key:∀s:Nat,s<m.next.length->∃k:Nat,k<(m.af m.start).length/\(ix (m.af m.start) (k:Int)).1=(s:Int):=λs n=>by
  obtain⟨w,p,e⟩:=h.all (s:Int) aa aa
  obtain⟨k,z,A,d,_⟩:=i.all w p;exact⟨k.toNat,aa,by rw[show((k.toNat:Nat):Int)=k by omega,d,e]⟩
 have:=lg (m.af m.start).length (l:=(List.range m.next.length).map λ(s:Nat)=>ix m.num (s:Int)) (by
  rw[pM,kV];refine List.Pairwise.imp_of_mem (fun {a b} q r f e=>?_) List.nodup_range;obtain⟨k,g,d⟩:=key a (by simpa using q)
  obtain⟨j,u,o⟩:=key b (by simpa using r)
  rw[<-d,<-o,oJ h.ok g,oJ h.ok u]at e;have:k=j:=aa
  subst this;rw[d]at o;exact f aa) (λx y=>by
  obtain⟨s,n,rfl⟩:=cB.1 y;obtain⟨k,g,d⟩:=key s (by simpa using n)
  rw[<-d,oJ h.ok g];omega)
 simpa using this
def lr(f:m.Ok):w∈(m.af m.start).map (·.2)↔(∀x∈w,0<=x/\x<m.inputs)/\∀u,(∀x∈u,0<=x/\x<m.inputs)->m.run m.start u=m.run m.start w->bp w u<=0:=by
 have a:=iW m f m.start f.start;constructor
 .intro h
  obtain⟨p,o,rfl⟩:=cB.1 h;obtain⟨g,j⟩:=Y4 f o;refine⟨j,λu r e=>?_⟩;obtain⟨k,b,d,l,n⟩:=a.all u r;obtain⟨i,q,rfl⟩:=cd.1 o;have:k=(i:Int):=Y3 a.bq b d aa aa (by rw[l,e,g,aK q])
  rw[this,aK q]at n;exact n
 .rintro⟨s,y⟩
  obtain⟨k,b,d,l,n⟩:=a.all w s;obtain⟨g,j⟩:=a.run k b d;have A:=y _ j (by rw[g,l])
  have z:bp w (ix (m.af m.start) k).2=0:=by have:=fe.iC w (ix (m.af m.start) k).2;omega
  rw[fe.eq _ _ z];exact cB.2 ⟨_,bt b d,rfl⟩
def Bu(d:m.Ok):lM ((m.af m.start).map (·.2)):=by
 have e:=iW m d m.start d.start;show List.Pairwise (λa b=>bp a b<0) _;rw[kV,pL];intro i j f g h;have:=e.lM (i:Int) (j:Int) aa aa aa
 rwa [aK f,aK g]at this
def jE (a b:ak):Prop:=∀w,(∀x∈w,0<=x/\x<a.inputs)->a.outs a.start w=b.outs b.start w
variable{b:ak}{v:List Int}
def jE.after(h:jE a b)(hu:∀x∈u,0<=x/\x<a.inputs) (hv:∀x∈v,0<=x/\x<a.inputs):a.outs (a.run a.start u) v=b.outs (b.run b.start u) v:=by
 have h1:=h (u++v) (λx Y=>by
  rcases cp.1 Y with Y|Y
  .exact hu x Y
  .exact hv x Y)
 rw[eZ,eZ]at h1;exact(List.append_inj h1 jo).2
def jE.runs(h:jE a b) (ha:a.Ok) (Y:gJ b) (hi:a.inputs=b.inputs)(hu:∀x∈u,0<=x/\x<a.inputs) (hv:∀x∈v,0<=x/\x<a.inputs) (e:a.run a.start u=a.run a.start v):b.run b.start u=b.run b.start v:=by
 have r1:=jD Y.ok Y.ok.start (by rw[<-hi];exact hu)
 have r2:=jD Y.ok Y.ok.start (by rw[<-hi];exact hv)
 refine Y.K6 _ _ r1.1 r1.2 r2.1 r2.2 λw hw=>?_;rw[<-hi]at hw;rw[<-h.after hu hw,<-h.after hv hw,e]
def jE.symm(h:jE a b) (hi:a.inputs=b.inputs):jE b a:=λw Y=>(h w (by rw[hi];exact Y)).symm
def Y5(h:jE a b) (i:gJ a) (j:gJ b) (d:a.inputs=b.inputs):(a.af a.start).map (·.2)=(b.af b.start).map (·.2):=by
 have n:=h.symm d;have o:=Bp (l:=(a.af a.start).map (·.2)) (Bu j.ok) (λw=>by
  rw[lr i.ok,lr j.ok,<-d];constructor
  .rintro⟨f,m⟩
   exact⟨f,λu g e=>m u g (n.runs j.ok i d.symm (by rw[<-d];exact g) (by rw[<-d];exact f) e)⟩
  .rintro⟨f,m⟩
   exact⟨f,λu g e=>m u g (h.runs i.ok j d g f e)⟩)
 have p:=Bp (l:=(a.af a.start).map (·.2)) (Bu i.ok) (λw=>Iff.rfl);rw[<-p,o]
def Y6(i:a.Ok) (j:b.Ok) (p:a.inputs=b.inputs):ef a b a.start b.start=none↔jE a b:=by
 have l:=Iv i j p;have d:tr a b (a.start,b.start):=⟨i.start,j.start⟩;constructor
 .intro h w e
  have:=HX l d h w e;rw[prun]at this;refine jT λq=>this ?_;rw[ae q]
 .intro h
  cases r:ef a b a.start b.start with
  |none=>rfl
  |some w=>
   obtain⟨⟨u,x,t,rfl,e,f,g⟩,_⟩:=HW l d r;have s:∀y∈u,0<=y/\y<a.inputs:=λy z=>e y (by simp[z])
   have m:=h u s;have n:=h _ e;rw[prun,ah m]at f;simp at f;subst f;rw[eZ,eZ,m]at n;have o:[ix (ix a.out (a.run a.start u)) x]=[ix (ix b.out (b.run b.start u)) x]:=List.append_cancel_left n;simp at o;unfold mq at g;rw[ah o]at g;simp at g
end Ab
