/- Equality of lists, of machines. Condition: none. -/
import Derived.Test.YtdenhmniigikcaaGreatBfsOrd
set_option linter.all false
set_option maxRecDepth 100000
set_option maxHeartbeats 4000000
namespace Ab
def aoc{a b:List Int}(d:a.length=b.length) (h:∀j,0<=j->j<(a.length:Int)->ix a j=ix b j):a=b:=by
 apply me d;intro i e g;have:=h i aa aa
 rwa [aB e,aB g]at this
def aod{a b:List (List Int)}(d:a.length=b.length) (h:∀j,0<=j->j<(a.length:Int)->ix a j=ix b j):a=b:=by
 apply me d;intro i e g;have:=h i aa aa
 rwa [aB e,aB g]at this
def aoe (a b:List Int) (q:(a.length:Int)<=1000000) (r:(b.length:Int)<=9223372036854775807):PC JJ [iL a,iL b]=some (.bool (decide (a=b))):=by
 refine bZ (ajO rfl ?_)
 by_cases g:a.length=b.length
 .simp[g]
  refine aK (λi:Int=>[(2,.int i)]) (λ_=>[]) (λi=>0<=i/\i<=b.length/\∀j,0<=j->j<i->ix a j=ix b j) (λi=>(b.length-i).toNat) 0 rfl ⟨aa,aa,r5⟩ λi ⟨n,i1,m⟩=>?_
  by_cases s:i<a.length
  .have d:i<(b.length:Int):=by omega
   simp[-aj,g,d,n];refine⟨λh=>⟨aa,aD (i+1) rfl rfl ⟨aa,aa,lN h m⟩ aa⟩,λh e=>?_⟩
   subst e;exact h rfl
  .have d:¬i<(b.length:Int):=by omega
   have e:=aoc g λj o u=>m j o aa
   simp[g,d];exact e
 .have l : ¬(a.length:Int)=b.length:=by omega
  have p:¬a=b:=λe=>g eD
  simp[l, p,g]
def DV (a b:List (List Int)) (u:(a.length:Int)<=1000000) (w:(b.length:Int)<=9223372036854775807) (ra:∀r∈a,(r.length:Int)<=1000000) (p:∀r∈b,(r.length:Int)<=9223372036854775807):PC w9 [b8 a,b8 b]=some (.bool (decide (a=b))):=by
 refine bZ (ajb rfl ?_)
 by_cases g:a.length=b.length
 .simp[g]
  refine aK (λi:Int=>[(2,.int i)]) (λ_=>[]) (λi=>0<=i/\i<=b.length/\∀j,0<=j->j<i->ix a j=ix b j) (λi=>(b.length-i).toNat) 0 rfl ⟨aa,aa,r5⟩ λi ⟨l,i1,o⟩=>?_
  by_cases q:i<a.length
  .have d:i<(b.length:Int):=by omega
   have m:=aoe (ix a i) (ix b i) (ra _ (aJ l q)) (p _ (aJ l d))
   by_cases h:ix a i=ix b i
   .rw[mf h]at m
    simp[-aj,g,d,l,m];exact⟨aa,aD (i+1) rfl rfl ⟨aa,aa,lN h o⟩ aa⟩
   .rw[oq h]at m
    simp[-aj,g,d,l,m];intro e;subst e;exact h rfl
  .have d:¬i<(b.length:Int):=by omega
   have e:=aod g λj s x=>o j s aa
   simp[g,d];exact e
 .have n : ¬(a.length:Int)=b.length:=by omega
  have h:¬a=b:=λe=>g eD
  simp[n, h,g]
structure kY.Lil (m:kY):Prop where
 nl:(m.next.length:Int)<=1000000
 ol:(m.out.length:Int)<=1000000
 nr:∀r∈m.next,(r.length:Int)<=1000000
 or:∀r∈m.out,(r.length:Int)<=1000000
end Ab
