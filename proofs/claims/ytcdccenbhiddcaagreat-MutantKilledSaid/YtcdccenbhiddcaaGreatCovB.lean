/- The reachable states with their first words; paths; and what it leans on. Condition: none. -/
import Derived.Test.YtcdccenbhiddcaaGreatGbf
import Derived.Test.YtcdccenbhiddcaaGreatEqv
set_option linter.all false
set_option maxRecDepth 100000
set_option maxHeartbeats 4000000
namespace Ab
def YF (m:ak) (E:m.Ok) (s:Int) (G:0<=s/\s<(m.next.length:Int)):PC yE [m.av,.int s]=some (.aA false ((m.af s).map λp=>.agg [.int p.1,iL p.2])):=by
 obtain⟨Q,R⟩:=E.inputs;obtain⟨S,T⟩:=E.states;refine ba (Wu rfl ?_);simp[-List.map_replicate];refine⟨aa,aa,aa,?_⟩
 refine a6 (λp:Int×List Pl×List Bool=>[(4,.int p.1),(5,.sl 1 (2*p.2.1.length) 0 p.2.1.length)]) (λp=>[⟨none,p.2.2.map .bool,.live⟩,⟨some 2,pc p.2.1,.live⟩])
  (λp=>(0<=p.1/\p.1<=p.2.1.length)/\Bq m s p.2.1/\Sn m.next.length p.2.2 p.2.1/\∃f:Nat,qn m f p.1 p.2.1=m.af s/\(m.next.length:Int)+1<=f+p.1)
  (λp=>(m.next.length-p.1).toNat) (0,[(s,[])],(List.replicate m.next.length false).set s.toNat true) (by simp[b5,pc,wB,mh]) ⟨ab,Bq.init G,?_,m.next.length+1,rfl,ab⟩ ?_
 .have:=Sn.add (N:=m.next.length) (b:=List.replicate m.next.length false) (q:=[]) (w:=[]) ⟨ab,λt U V=>by rw[sN U V];rfl⟩ G.1 G.2
  simpa using this
 rintro⟨i,q,b⟩ ⟨⟨h,i1⟩,F,O,f,d,j⟩;dsimp only at h i1 F O d j ⊢;have W:=F.le
 by_cases u:i<q.length
 .have g:=F.fS _ (bt h u)
  have e:=(E.row _ g.1 g.2).1;have H:=HL h u;simp[-ax,u,h,H,sM,g.1,g.2,e]
  (repeat' apply And.intro)<;>try omega
  refine a6 (λp:Int×List Pl×List Bool=>[(5,.sl 1 (2*p.2.1.length) 0 p.2.1.length),(6,.int p.1)]) (λp=>[⟨none,p.2.2.map .bool,.live⟩,⟨some 2,pc p.2.1,.live⟩])
   (λp=>(0<=p.1/\p.1<=m.inputs)/\Bq m s p.2.1/\Sn m.next.length p.2.2 p.2.1/\p.2.1=fR m (ix q i) q p.1/\q.length<=p.2.1.length/\ix p.2.1 i=ix q i)
   (λp=>(m.inputs-p.1).toNat) (0,q,b) dL ⟨ai,F,O,rfl,ab,rfl⟩ ?_
  rintro⟨a,o, I⟩ ⟨⟨z,X⟩,x,y,ge,P,A⟩;dsimp only at z X x y ge P A ⊢;have Y:=x.le
  by_cases J:a<m.inputs
  .have l:=E.nx _ a g.1 g.2 z J
   have B:=y.ok _ l.1 l.2;have C:=y.len;have r:=HL (q:=o) h aa
   rw[A]at r;have K:=x.len i h aa
   rw[A]at K;have Z:=XC (ix q i) a aa
   have es:fR m (ix q i) q (a+1)=gj m (ix q i) o a:=by rw[sF z,<-ge]
   cases D:ib o (ix (ix m.next (ix q i).1) a)with
   |true=>
    simp[-ax,J,z,h,g.1,g.2,e,l.1,l.2,C,B,r,sM,show i<(o.length:Int)by omega,D]
    refine⟨aa,aL (a+1,o, I) ab rfl ⟨aI,x,y,by dsimp only;rw[es,sG D],P,A⟩ aI⟩
   |false=>
    simp[-ax,J,z,h,g.1,g.2,e,l.1,l.2,C,B,r,sM,show i<(o.length:Int)by omega,D,u4,AJ,Z]
    have L:(ix q i).2 ++ [a] ≠ []:=ab
    refine⟨Xz,aa,λ_=>⟨aa,aL (a+1,o ++ [(ix (ix m.next (ix q i).1) a,(ix q i).2 ++ [a])],I.set (ix (ix m.next (ix q i).1) a).toNat true) (by simp[b5];omega) (by simp[XA]) ⟨aI,x.add l D L ai,y.add l.1 l.2,by dsimp only;rw[es,sH D],ai,by dsimp only;rw[a7 h aa,A]⟩ aI⟩,λhc=>(hc (by simp only[aC];omega)).elim⟩
  .have M:a=m.inputs:=by omega
   subst M;simp[-ax];refine⟨aa,aL (i+1,o, I) ab rfl ⟨aI,x,y,?_⟩ aI⟩
   match f,d,j with
   |0,_,j=>omega
   |f+1,d,j=>exact⟨f,by dsimp only;rw[sJ u,<-ge]at d;exact d,aI⟩
 .have hv:=XB (σ:=[⟨none,b.map .bool,.live⟩,⟨some 2,pc q,.live⟩]) (b:=1) (n:=q.length) (q:=q) (fr:=false) (st:=.live) rfl ab rfl rfl
  simp[u,hv];rw[<-d,sI u]
def IE (m:ak) (h:m.fits) (O:m.ao=0):PC nA [m.av]=some (iL ((m.af m.start).map (·.1))):=by
 have B:=fQ O;obtain⟨R,S⟩:=B.inputs;obtain⟨T,U⟩:=B.states;have H:=B.start;refine ba (He rfl ?_);simp[-List.map_replicate,fD m h,O];refine⟨aa,aa,aa,?_⟩
 refine a6 (λp:Int×List Pl×List Bool=>[(3,.int p.1),(4,.sl 1 p.2.1.length 0 p.2.1.length)]) (λp=>[⟨none,p.2.2.map .bool,.live⟩,⟨none,(p.2.1.map (·.1)).map .int,.live⟩])
  (λp=>(0<=p.1/\p.1<=p.2.1.length)/\Bq m m.start p.2.1/\Sn m.next.length p.2.2 p.2.1/\∃f:Nat,qn m f p.1 p.2.1=m.af m.start/\(m.next.length:Int)+1<=f+p.1)
  (λp=>(m.next.length-p.1).toNat) (0,[(m.start,[])],(List.replicate m.next.length false).set m.start.toNat true) dL ⟨ab,Bq.init H,?_,m.next.length+1,rfl,ab⟩ ?_
 .have:=Sn.add (N:=m.next.length) (b:=List.replicate m.next.length false) (q:=[]) (w:=[]) ⟨ab,λt V W=>by rw[sN V W];rfl⟩ H.1 H.2
  simpa using this
 rintro⟨i,q,b⟩ ⟨⟨r,i1⟩,F,P,f,d,j⟩;dsimp only at r i1 F P d j ⊢;have X:=F.le
 by_cases x:i<q.length
 .have I:=F.fS _ (bt r x)
  have s:ix (q.map (·.1)) i=(ix q i).1:=gz r x;have l : 0<=ix (q.map (·.1)) i/\ix (q.map (·.1)) i<(m.next.length:Int):=by rw[s];exact I
  have e:=(B.row _ l.1 l.2).1;simp[-ax,-List.map_map,x,r,l.1,l.2,e];refine a6 (λp:Int×List Pl×List Bool=>[(4,.sl 1 p.2.1.length 0 p.2.1.length),(5,.int p.1)]) (λp=>[⟨none,p.2.2.map .bool,.live⟩,⟨none,(p.2.1.map (·.1)).map .int,.live⟩])
   (λp=>(0<=p.1/\p.1<=m.inputs)/\Bq m m.start p.2.1/\Sn m.next.length p.2.2 p.2.1/\p.2.1=fR m (ix q i) q p.1/\q.length<=p.2.1.length/\ix p.2.1 i=ix q i)
   (λp=>(m.inputs-p.1).toNat) (0,q,b) (by simp[-List.map_map,b5]) ⟨ai,F,P,rfl,ab,rfl⟩ ?_
  rintro⟨a,C, J⟩ ⟨⟨D,Y⟩,y,z,ge,Q,G⟩;dsimp only at D Y y z ge Q G ⊢;have Z:=y.le
  by_cases K:a<m.inputs
  .have A:=B.nx _ a I.1 I.2 D K
   have g :=A;rw[<-s]at g;have u:=z.ok _ A.1 A.2;rw[<-s]at u;have E:=z.len;have L:=y.len i r aa
   rw[G]at L;have es:fR m (ix q i) q (a+1)=gj m (ix q i) C a:=by rw[sF D,<-ge]
   cases o:ib C (ix (ix m.next (ix q i).1) a)with
   |true=>
    rw[<-s]at o;simp[-ax,-List.map_map,K,D,r,e,g.1,g.2,E,u,o];rw[s]at o;refine⟨aa,aL (a+1,C, J) ab rfl ⟨aI,y,z,by dsimp only;rw[es,sG o],Q,G⟩ aI⟩
   |false=>
    rw[<-s]at o;simp[-ax,-List.map_map,K,D,r,e,g.1,g.2,E,u,o];rw[s]at o ⊢;refine⟨aa,aa,aL (a+1,C ++ [(ix (ix m.next (ix q i).1) a,(ix q i).2 ++ [a])],J.set (ix (ix m.next (ix q i).1) a).toNat true) dL (by simp[-List.map_map]) ⟨aI,y.add A o ab ai,z.add A.1 A.2,by dsimp only;rw[es,sH o],ai,by dsimp only;rw[a7 r aa,G]⟩ aI⟩
  .have M:a=m.inputs:=by omega
   subst M;simp[-ax,-List.map_map];refine⟨aa,aL (i+1,C, J) ab rfl ⟨aI,y,z,?_⟩ aI⟩
   match f,d,j with
   |0,_,j=>omega
   |f+1,d,j=>exact⟨f,by dsimp only;rw[sJ x,<-ge]at d;exact d,aI⟩
 .have v1:=iU (σ:=[⟨none,b.map .bool,.live⟩,⟨none,(q.map (·.1)).map .int,.live⟩]) (fr:=false) (b:=1) (xs:=q.map (·.1)) (n:=q.length) (st:=.live) rfl ab ab
  simp[-List.map_map,x,v1];rw[<-d,sI x]
def ak.IF (m:ak) (T:List (List Bool)) (p:Pl):Option Int:=((List.range m.inputs.toNat).find? λ(a:Nat)=>!(ix (ix T p.1) (a:Int))).map λ(a:Nat)=>(a:Int)
def ak.fresh (m:ak) (s:Int) (T:List (List Bool)):Option (Pl×Int):=(m.af s).findSome? λp=>(m.IF T p).map λa=>(p,a)
end Ab
