/- Equality of lists, of machines. Condition: none. -/
import Derived.Test.YtdenhmniigikcaaGreatBfsOrd
set_option linter.all false
set_option maxRecDepth 100000
set_option maxHeartbeats 4000000
open Option renaming some->aa
open List renaming length->ah
open Int renaming toNat->aj
namespace Ab
def apc{a b:ak}(d:ah a=ah b) (h:∀j,0<=j->j<(ah a:Int)->ix a j=ix b j):a=b:=by
 apply gF d;intro i e g;have:=h i ax ax
 rwa [bt e,bt g]at this
def apd{a b:al}(d:ah a=ah b) (h:∀j,0<=j->j<(ah a:Int)->ix a j=ix b j):a=b:=by
 apply gF d;intro i e g;have:=h i ax ax
 rwa [bt e,bt g]at this
def ape (a b:ak) (q:(ah a:Int)<=1000000) (r:(ah b:Int)<=9223372036854775807):PC KY [iL a,iL b]=aa (.bool (decide (a=b))):=by
 refine cB (aku rfl ?_)
 by_cases g:ah a=ah b
 .simp[g]
  refine bB (λi:Int=>[(2,.int i)]) (λ_=>[]) (λi=>0<=i/\i<=ah b/\∀j,0<=j->j<i->ix a j=ix b j) (λi=>aj (ah b-i)) 0 rfl ⟨ax,ax,oQ⟩ λi ⟨n,i1,m⟩=>?_
  by_cases s:i<ah a
  .have d:i<(ah b:Int):=by omega
   simp[-aK,g,d,n];refine⟨λh=>⟨ax,a8 (i+1) rfl rfl ⟨ax,ax,iY h m⟩ ax⟩,λh e=>?_⟩
   subst e;exact h rfl
  .have d:¬i<(ah b:Int):=by omega
   have e:=apc g λj o u=>m j o ax
   simp[g,d];exact e
 .have l : ¬(ah a:Int)=ah b:=by omega
  have p:¬a=b:=λe=>g fk
  simp[l, p,g]
def FZ (a b:al) (u:(ah a:Int)<=1000000) (w:(ah b:Int)<=9223372036854775807) (ra:∀r∈a,(ah r:Int)<=1000000) (p:∀r∈b,(ah r:Int)<=9223372036854775807):PC zi [bU a,bU b]=aa (.bool (decide (a=b))):=by
 refine cB (aj1 rfl ?_)
 by_cases g:ah a=ah b
 .simp[g]
  refine bB (λi:Int=>[(2,.int i)]) (λ_=>[]) (λi=>0<=i/\i<=ah b/\∀j,0<=j->j<i->ix a j=ix b j) (λi=>aj (ah b-i)) 0 rfl ⟨ax,ax,oQ⟩ λi ⟨l,i1,o⟩=>?_
  by_cases q:i<ah a
  .have d:i<(ah b:Int):=by omega
   have m:=ape (ix a i) (ix b i) (ra _ (bh l q)) (p _ (bh l d))
   by_cases h:ix a i=ix b i
   .rw[qv h]at m
    simp[-aK,g,d,l,m];exact⟨ax,a8 (i+1) rfl rfl ⟨ax,ax,iY h o⟩ ax⟩
   .rw[sP h]at m
    simp[-aK,g,d,l,m];intro e;subst e;exact h rfl
  .have d:¬i<(ah b:Int):=by omega
   have e:=apd g λj s x=>o j s ax
   simp[g,d];exact e
 .have n : ¬(ah a:Int)=ah b:=by omega
  have h:¬a=b:=λe=>g fk
  simp[n, h,g]
structure l5.Lil (m:l5):Prop where
 nl:(ah m.next:Int)<=1000000
 ol:(ah m.out:Int)<=1000000
 nr:∀r∈m.next,(ah r:Int)<=1000000
 or:∀r∈m.out,(ah r:Int)<=1000000
end Ab
