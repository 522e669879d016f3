/- Equality of lists, of machines. Condition: none. -/
import Derived.Test.YtdenhmniigikcaaGreatBfsOrd
set_option linter.all false
set_option maxRecDepth 100000
set_option maxHeartbeats 4000000
namespace Ab
theorem am8{a b:List Int}(hl:a.length=b.length) (h:∀j,0<=j->j<(a.length:Int)->ix a j=ix b j):a=b:=by
 apply mC hl;intro i h1 h2;have:=h i (by omega) (by omega)
 rwa [aS h1,aS h2]at this
theorem am9{a b:List (List Int)}(hl:a.length=b.length) (h:∀j,0<=j->j<(a.length:Int)->ix a j=ix b j):a=b:=by
 apply mC hl;intro i h1 h2;have:=h i (by omega) (by omega)
 rwa [aS h1,aS h2]at this
theorem ana (a b:List Int) (ha:(a.length:Int)<=1000000) (hb:(b.length:Int)<=9223372036854775807):PC IG [iL a,iL b]=some (.bool (decide (a=b))):=by
 refine cW (aib rfl ?_)
 by_cases hl:a.length=b.length
 ·simp[hl]
  refine bC (λi:Int=>[(2,.int i)]) (λ_=>[]) (λi=>0<=i/\i<=b.length/\∀j,0<=j->j<i->ix a j=ix b j) (λi=>(b.length-i).toNat) 0 rfl ⟨by omega,by omega,zx⟩ λi ⟨i0,i1,i2⟩=>?_
  by_cases hi:i<a.length
  ·have Fw:i<(b.length:Int):=by omega
   simp[-al,hl,Fw,i0];refine⟨λh=>⟨by omega,ba (i+1) rfl rfl ⟨by omega,by omega,rI h i2⟩ (by omega)⟩,λh e=>?_⟩
   subst e;exact h rfl
  ·have Fw:¬i<(b.length:Int):=by omega
   have e:=am8 hl λj j0 j1=>i2 j j0 (by omega)
   simp[hl,Fw];exact e
 ·have ct : ¬(a.length:Int)=b.length:=by omega
  have he:¬a=b:=λe=>hl (by rw[e])
  simp[ct, he,hl]
theorem Fx (a b:List (List Int)) (ha:(a.length:Int)<=1000000) (hb:(b.length:Int)<=9223372036854775807) (ra:∀r∈a,(r.length:Int)<=1000000) (rb:∀r∈b,(r.length:Int)<=9223372036854775807):PC wL [cK a,cK b]=some (.bool (decide (a=b))):=by
 refine cW (ahM rfl ?_)
 by_cases hl:a.length=b.length
 ·simp[hl]
  refine bC (λi:Int=>[(2,.int i)]) (λ_=>[]) (λi=>0<=i/\i<=b.length/\∀j,0<=j->j<i->ix a j=ix b j) (λi=>(b.length-i).toNat) 0 rfl ⟨by omega,by omega,zx⟩ λi ⟨i0,i1,i2⟩=>?_
  by_cases hi:i<a.length
  ·have Fw:i<(b.length:Int):=by omega
   have hI:=ana (ix a i) (ix b i) (ra _ (aZ i0 hi)) (rb _ (aZ i0 Fw))
   by_cases he:ix a i=ix b i
   ·rw[decide_eq_true he]at hI
    simp[-al,hl,Fw,i0,hI];exact⟨by omega,ba (i+1) rfl rfl ⟨by omega,by omega,rI he i2⟩ (by omega)⟩
   ·rw[rj he]at hI
    simp[-al,hl,Fw,i0,hI];intro e;subst e;exact he rfl
  ·have Fw:¬i<(b.length:Int):=by omega
   have e:=am9 hl λj j0 j1=>i2 j j0 (by omega)
   simp[hl,Fw];exact e
 ·have ct : ¬(a.length:Int)=b.length:=by omega
  have he:¬a=b:=λe=>hl (by rw[e])
  simp[ct, he,hl]
structure jC.Lil (m:jC):Prop where
 nl:(m.next.length:Int)<=1000000
 ol:(m.out.length:Int)<=1000000
 nr:∀r∈m.next,(r.length:Int)<=1000000
 or:∀r∈m.out,(r.length:Int)<=1000000
end Ab
