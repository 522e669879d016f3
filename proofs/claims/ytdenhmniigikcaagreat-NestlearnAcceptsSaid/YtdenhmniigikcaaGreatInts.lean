/- Equality of lists, of machines. Condition: none. -/
import Derived.Test.YtdenhmniigikcaaGreatBfsOrd
set_option linter.all false
set_option maxRecDepth 100000
set_option maxHeartbeats 4000000
namespace Ab
theorem aoh{a b:List Int}(hl:a.length=b.length) (h:∀j,0<=j->j<(a.length:Int)->ix a j=ix b j):a=b:=by
 apply mG hl;intro i h1 h2;have:=h i (by omega) (by omega)
 rwa [aT h1,aT h2]at this
theorem aoi{a b:List (List Int)}(hl:a.length=b.length) (h:∀j,0<=j->j<(a.length:Int)->ix a j=ix b j):a=b:=by
 apply mG hl;intro i h1 h2;have:=h i (by omega) (by omega)
 rwa [aT h1,aT h2]at this
theorem aoj (a b:List Int) (ha:(a.length:Int)<=1000000) (hb:(b.length:Int)<=9223372036854775807):PC Jo [iL a,iL b]=some (.bool (decide (a=b))):=by
 refine cu (ai8 rfl ?_)
 by_cases hl:a.length=b.length
 ·simp[hl]
  refine bu (λi:Int=>[(2,.int i)]) (λ_=>[]) (λi=>0<=i/\i<=b.length/\∀j,0<=j->j<i->ix a j=ix b j) (λi=>(b.length-i).toNat) 0 rfl ⟨by omega,by omega,qn⟩ λi ⟨i0,i1,i2⟩=>?_
  by_cases hi:i<a.length
  ·have F0:i<(b.length:Int):=by omega
   simp[-ao,hl,F0,i0];refine⟨λh=>⟨by omega,aX (i+1) rfl rfl ⟨by omega,by omega,kM h i2⟩ (by omega)⟩,λh e=>?_⟩
   subst e;exact h rfl
  ·have F0:¬i<(b.length:Int):=by omega
   have e:=aoh hl λj j0 j1=>i2 j j0 (by omega)
   simp[hl,F0];exact e
 ·have cw : ¬(a.length:Int)=b.length:=by omega
  have he:¬a=b:=λe=>hl (by rw[e])
  simp[cw, he,hl]
theorem F1 (a b:List (List Int)) (ha:(a.length:Int)<=1000000) (hb:(b.length:Int)<=9223372036854775807) (ra:∀r∈a,(r.length:Int)<=1000000) (rb:∀r∈b,(r.length:Int)<=9223372036854775807):PC wQ [cO a,cO b]=some (.bool (decide (a=b))):=by
 refine cu (aiC rfl ?_)
 by_cases hl:a.length=b.length
 ·simp[hl]
  refine bu (λi:Int=>[(2,.int i)]) (λ_=>[]) (λi=>0<=i/\i<=b.length/\∀j,0<=j->j<i->ix a j=ix b j) (λi=>(b.length-i).toNat) 0 rfl ⟨by omega,by omega,qn⟩ λi ⟨i0,i1,i2⟩=>?_
  by_cases hi:i<a.length
  ·have F0:i<(b.length:Int):=by omega
   have hI:=aoj (ix a i) (ix b i) (ra _ (aU i0 hi)) (rb _ (aU i0 F0))
   by_cases he:ix a i=ix b i
   ·rw[qd he]at hI
    simp[-ao,hl,F0,i0,hI];exact⟨by omega,aX (i+1) rfl rfl ⟨by omega,by omega,kM he i2⟩ (by omega)⟩
   ·rw[rp he]at hI
    simp[-ao,hl,F0,i0,hI];intro e;subst e;exact he rfl
  ·have F0:¬i<(b.length:Int):=by omega
   have e:=aoi hl λj j0 j1=>i2 j j0 (by omega)
   simp[hl,F0];exact e
 ·have cw : ¬(a.length:Int)=b.length:=by omega
  have he:¬a=b:=λe=>hl (by rw[e])
  simp[cw, he,hl]
structure jF.Lil (m:jF):Prop where
 nl:(m.next.length:Int)<=1000000
 ol:(m.out.length:Int)<=1000000
 nr:∀r∈m.next,(r.length:Int)<=1000000
 or:∀r∈m.out,(r.length:Int)<=1000000
end Ab
