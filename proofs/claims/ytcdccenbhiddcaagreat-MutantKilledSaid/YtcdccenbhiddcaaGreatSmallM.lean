/- Whether a machine is too great. Condition: none. -/
import Derived.Test.YtcdccenbhiddcaaGreatGbf
set_option linter.all false
set_option maxRecDepth 100000
set_option maxHeartbeats 4000000
namespace Ab
def ak.great (m:ak):Bool:=decide (12<(m.next.length:Int))||decide (12<(m.out.length:Int))||decide (6<m.inputs)||(m.next.any λr=>decide (12<(r.length:Int)))||(m.out.any λr=>decide (12<(r.length:Int)))
def Bt (m:ak) (h:m.fits):PC yc [m.av]=some (.bool m.great):=by
 refine ba (VQ rfl ?_);have A:=h.next.1
 have B:=h.out.1;have d:12<(m.next.length:Int)\/12<(m.out.length:Int)\/6<m.inputs->m.great=true:=by
  intro h;unfold ak.great;simp only[Bool.or_eq_true,cO];omega
 have w:∀i,0<=i->i<(m.next.length:Int)->12<((ix m.next i).length:Int)->m.great=true:=λi e f g=>by
  have:=HH (p:=λr=>decide (12<(r.length:Int))) e f eT
  unfold ak.great;rw[this];simp
 have x:∀i,0<=i->i<(m.out.length:Int)->12<((ix m.out i).length:Int)->m.great=true:=λi e f g=>by
  have:=HH (p:=λr=>decide (12<(r.length:Int))) e f eT
  unfold ak.great;rw[this];simp
 simp;refine⟨λh=>(d (.inl h)),λC=>⟨λh=>(d (.inr (.inl h))),λD=>⟨λh=>(d (.inr (.inr h))),λE=>?_⟩⟩⟩;refine a6 (λi:Int=>[(2,.int i)]) (λ_=>[]) (λi=>0<=i/\i<=m.next.length/\∀j,0<=j->j<i->((ix m.next j).length:Int)<=12) (λi=>(m.next.length-i).toNat) 0 rfl ⟨aa,aa,nE⟩ λi ⟨o,i1,q⟩=>?_
 by_cases l:i<m.next.length
 .simp[-ax,l,o]
  refine⟨λh=>(w i o l h),λh=>⟨aa,aL (i+1) rfl rfl ⟨aa,aa,kB aa q⟩ aa⟩⟩
 .simp[l]
  refine a6 (λi:Int=>[(5,.int i)]) (λ_=>[]) (λi=>0<=i/\i<=m.out.length/\∀j,0<=j->j<i->((ix m.out j).length:Int)<=12) (λi=>(m.out.length-i).toNat) 0 rfl ⟨aa,aa,nE⟩ λk ⟨s,F,u⟩=>?_
  by_cases n:k<m.out.length
  .simp[-ax,n,s]
   refine⟨λh=>(x k s n h),λh=>⟨aa,aL (k+1) rfl rfl ⟨aa,aa,kB aa u⟩ aa⟩⟩
  .simp[n]
   have y:=HI (p:=λr:List Int=>decide (12<(r.length:Int))) (xs:=m.next) λj a b=>by simpa using q j a aa
   have z:=HI (p:=λr:List Int=>decide (12<(r.length:Int))) (xs:=m.out) λj a b=>by simpa using u j a aa
   unfold ak.great;rw[y,z];simp;omega
def ak.small (m:ak):Bool:=!m.great&&decide ((m.next.length:Int)<=8)&&decide (m.inputs<=4)
def Y1 (m:ak) (h:m.fits):PC ya [m.av]=some (.bool m.small):=by
 refine ba (VN rfl ?_);unfold ak.small;cases a:m.great with
 |true=>simp[Bt m h,a]
 |false=>
  by_cases b:(m.next.length:Int)<=8
  .simp[Bt m h,a,b]
  .simp[Bt m h,a,b]
end Ab
