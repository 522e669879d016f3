/- Equality of lists, of machines. Condition: none. -/
import Derived.Test.YtdenhmniigikcaaGreatBfsOrd
set_option linter.all false
set_option maxRecDepth 100000
set_option maxHeartbeats 4000000
namespace Ab
def alo{a b:List Int}(d:a.length=b.length) (h:∀j,0<=j->j<(a.length:Int)->ix a j=ix b j):a=b:=by
 apply jJ d;intro i e g;have:=h i (by omega) (by omega)
 rwa [aG e,aG g]at this
def alq{a b:List (List Int)}(d:a.length=b.length) (h:∀j,0<=j->j<(a.length:Int)->ix a j=ix b j):a=b:=by
 apply jJ d;intro i e g;have:=h i (by omega) (by omega)
 rwa [aG e,aG g]at this
def alr (a b:List Int) (q:(a.length:Int)<=1000000) (r:(b.length:Int)<=9223372036854775807):PC Hh [iL a,iL b]=some (.bool (decide (a=b))):=by
 refine bP (agJ rfl ?_)
 by_cases g:a.length=b.length
 .simp[g]
  refine aM (λi:Int=>[(2,.int i)]) (λ_=>[]) (λi=>0<=i/\i<=b.length/\∀j,0<=j->j<i->ix a j=ix b j) (λi=>(b.length-i).toNat) 0 rfl ⟨by omega,by omega,kH⟩ λi ⟨n,i1,m⟩=>?_
  by_cases s:i<a.length
  .have d:i<(b.length:Int):=by omega
   simp[-ag,g,d,n];refine⟨λh=>⟨by omega,az (i+1) rfl rfl ⟨by omega,by omega,gC h m⟩ (by omega)⟩,λh e=>?_⟩
   subst e;exact h rfl
  .have d:¬i<(b.length:Int):=by omega
   have e:=alo g λj o u=>m j o (by omega)
   simp[g,d];exact e
 .have l : ¬(a.length:Int)=b.length:=by omega
  have p:¬a=b:=λe=>g (by rw[e])
  simp[l, p,g]
def Cc (a b:List (List Int)) (u:(a.length:Int)<=1000000) (w:(b.length:Int)<=9223372036854775807) (ra:∀r∈a,(r.length:Int)<=1000000) (p:∀r∈b,(r.length:Int)<=9223372036854775807):PC vm [bN a,bN b]=some (.bool (decide (a=b))):=by
 refine bP (agb rfl ?_)
 by_cases g:a.length=b.length
 .simp[g]
  refine aM (λi:Int=>[(2,.int i)]) (λ_=>[]) (λi=>0<=i/\i<=b.length/\∀j,0<=j->j<i->ix a j=ix b j) (λi=>(b.length-i).toNat) 0 rfl ⟨by omega,by omega,kH⟩ λi ⟨l,i1,o⟩=>?_
  by_cases q:i<a.length
  .have d:i<(b.length:Int):=by omega
   have m:=alr (ix a i) (ix b i) (ra _ (aO l q)) (p _ (aO l d))
   by_cases h:ix a i=ix b i
   .rw[oW h]at m
    simp[-ag,g,d,l,m];exact⟨by omega,az (i+1) rfl rfl ⟨by omega,by omega,gC h o⟩ (by omega)⟩
   .rw[oV h]at m
    simp[-ag,g,d,l,m];intro e;subst e;exact h rfl
  .have d:¬i<(b.length:Int):=by omega
   have e:=alq g λj s x=>o j s (by omega)
   simp[g,d];exact e
 .have n : ¬(a.length:Int)=b.length:=by omega
  have h:¬a=b:=λe=>g (by rw[e])
  simp[n, h,g]
structure kh.Lil (m:kh):Prop where
 nl:(m.next.length:Int)<=1000000
 ol:(m.out.length:Int)<=1000000
 nr:∀r∈m.next,(r.length:Int)<=1000000
 or:∀r∈m.out,(r.length:Int)<=1000000
end Ab
