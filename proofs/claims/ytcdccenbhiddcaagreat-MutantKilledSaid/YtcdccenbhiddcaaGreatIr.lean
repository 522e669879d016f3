/- The functions of the program as small texts, printed by a tool of mine: what is run. Condition: none. -/
import Derived.Test.YtcdccenbhiddcaaGreatIr1
set_option linter.all false
namespace Ab
def G:Nat->Option Fn:=λf=>match f with
 |3=>some yU
 |4=>some yV
 |5=>some yW
 |6=>some yX
 |7=>some uP
 |8=>some yY
 |9=>some yZ
 |10=>some y4
 |11=>some y5
 |12=>some y6
 |13=>some y7
 |14=>some y8
 |15=>some y9
 |16=>some za
 |17=>some zb
 |18=>some zd
 |19=>some ze
 |20=>some zf
 |21=>some zg
 |22=>some zh
 |23=>some zi
 |24=>some zj
 |25=>some zk
 |26=>some zl
 |27=>some zm
 |28=>some zn
 |29=>some zo
 |31=>some zp
 |32=>some zq
 |33=>some zr
 |34=>some zt
 |35=>some zu
 |36=>some zw
 |37=>some zx
 |38=>some zy
 |39=>some zz
 |40=>some zA
 |41=>some zB
 |42=>some zC
 |43=>some zD
 |44=>some zE
 |45=>some zF
 |46=>some zG
 |47=>some zH
 |48=>some zI
 |49=>some zJ
 |50=>some zK
 |51=>some zL
 |52=>some G3
 |53=>some zM
 |54=>some zN
 |55=>some zO
 |56=>some zP
 |59=>some zQ
 |60=>some zR
 |61=>some zS
 |62=>some zT
 |63=>some zU
 |64=>some zV
 |65=>some zW
 |66=>some zX
 |67=>some zY
 |68=>some zZ
 |69=>some z6
 |70=>some G4
 |72=>some z7
 |73=>some z8
 |74=>some Aa
 |75=>some Ac
 |76=>some Ad
 |77=>some Ae
 |78=>some Af
 |79=>some Ag
 |91=>some Ah
 |92=>some Ai
 |93=>some Aj
 |96=>some Ak
 |97=>some Al
 |98=>some Am
 |104=>some Ao
 |105=>some z193
 |114=>some Aw
 |_=>none
def G7:Nat->List Nat:=λf=>match f with
 |3=>[0,1,3,4,6,5,2]
 |4=>[0,1,2]
 |5=>[0,1,3,2]
 |6=>[1,3,6,8,10,2,4,5,7,0]
 |7=>[0,1,2,6,8,7,11,9,10,77,12,13,4,5]
 |8=>[0,1,2,7,27,26,25,9,10,6,41,40,39,13,14,16,15,11,4,5]
 |9=>[0,1,23,22,3,37,36,4,2]
 |10=>[0,1,3,4,2]
 |11=>[0,1,4,3,2]
 |12=>[0,1,4,5,24,23,22,30,29,7,9,10,6,2,3]
 |13=>[0,1,2,6,4,3,5]
 |14=>[0,1,5,4]
 |15=>[0,1,2,3,4]
 |16=>[0,1,3,43,42,4,68,67,5,6,7,2]
 |17=>[0,1,5,2,4,6,36,35,34,9,7,8,52,51,50,10,12,3]
 |18=>[0,1,5,6,2,3]
 |19=>[0,1,8,7,6,4,5]
 |20=>[0,1,4,19,18,6,7,5,10,8,2,3]
 |21=>[0,1,2,3,4,5,6]
 |22=>[0,3,11,10,9,5,6,4,2]
 |23=>[0,1,3,4]
 |24=>[0,1,2,3,11,5,6,7,4]
 |25=>[0,1,2,15,14,13,3,8,4,9,11,6]
 |26=>[0,1,2,3,8,7,4,5]
 |27=>[0,1,2,5,4]
 |28=>[0,1,5,2,8,7,4,10,6,13,14,11,12,9,3]
 |29=>[0,1,3,5,4,37,36,35,7,2]
 |31=>[0,1,12,11,10,3,5,2]
 |32=>[0,1,2,3,4,27,26,25,12,9,52,51,13,10,73,72,78,77,76,16,14,8]
 |33=>[0,1,3,2,29,4]
 |34=>[0,1,5,4]
 |35=>[0,1,4,2,5,29,28,27,6,8,7,44,43,42,11,57,56,55,12,13,14,9,3]
 |36=>[0,1,2,3]
 |37=>[0,1,5,20,19,18,6,9,7,2,3,4]
 |38=>[0,1,6,7,4,5]
 |39=>[0,1,3,2]
 |40=>[0,1,2,3,4,6,7,8]
 |41=>[0,1,2,3,9,10,11,6,7,8]
 |42=>[0,2]
 |43=>[0,1,2,3,13,12,11,19,18,17,25,24,23,6,8,10]
 |44=>[0,2]
 |45=>[0,1,5,3,18,17,16,6,7,4]
 |46=>[0,1,4]
 |47=>[0,1,4]
 |48=>[0,2]
 |49=>[0,1,4]
 |50=>[0,1,3]
 |51=>[0,1,13,12,3,4,2]
 |52=>[0,2]
 |53=>[0,1,2,6,8,4,5]
 |54=>[0,1,13,12,5,4]
 |55=>[0,1,2,3,7,8,9,4,5,6]
 |56=>[0,1,2,3]
 |59=>[0,3,5,4,2]
 |60=>[0,1,5,4]
 |61=>[0,1,2,6,7,4,5]
 |62=>[0,1,2,5,7,6,36,35,34,9,8,4]
 |63=>[0,1,4,3,2]
 |64=>[0,1,9,8,7,6,4]
 |65=>[0,1,2,3,5]
 |66=>[0,1,2,15,14,13,7,3,9,6]
 |67=>[0,1,2,3,8,21,20,9,4,5,11,10,56,55,12,13,14,6,7]
 |68=>[0,1,4]
 |69=>[0,11,10,9,3,5,27,26,25,6,8,2]
 |70=>[0,2]
 |72=>[0,1,5,7,6,4]
 |73=>[0,1,2,5]
 |74=>[0,1,11,10,9,5,6,7,8,4]
 |75=>[0,1,11,10,5,4]
 |76=>[0,1,8,7,5,4]
 |77=>[0,1,2,3,9,10,11,12,6,7,8]
 |78=>[0,1,2,3,11,10,6,7,4]
 |79=>[0,1,2,6,8,7,4,5]
 |91=>[0,1,2,21,20,6,10,7,8,9,4,5]
 |92=>[0,8,7,6,5,3,2]
 |93=>[0,1,5,6,4]
 |96=>[0,1,2,5,4]
 |97=>[0,1,12,11,10,7,8,5,9,4]
 |98=>[0,1,7,9,11,2,10,5,8,6,4]
 |104=>[0,2]
 |105=>[0,1,19,18,2,24,23,10,8,9,6,12,11,7,4,5]
 |114=>[0,1,2,3,6,7]
 |_=>[]
def dI:AV->Option (List Int)
 |.aA false l=>aM (λx=>match x with | .int n=>some n|_=>none) l
 |_=>none
def VI:AV->Option (List (List Int))
 |.aA false l=>aM dI l
 |_=>none
def dJ:AV->Option (List Int)
 |.ag=>some []
 |x=>dI x
def vZ:AV->Option (List (List Int))
 |.aA _ l=>aM dJ l
 |_=>none
def iq (A B C:List (List Int)):List AV:=A.flatMap λu=>B.flatMap λv=>C.map λx=>.aA false ((u++v++x).map .int)
def qj:IC:=(.seq (.bM Gn)
 (.seq (.seq (.bM Gp)
 (.seq (.bM Gs)
 (.cond 17 (.seq (.bM Gt)
 .ret) .skip)))
 (.seq (.seq (.bM Gu)
 (.cond 24 (.seq (.bM Gv)
 .ret) .skip))
 (.seq (.bM Gw)
 (.seq (.seq (.bM Gx)
 (.cond 31 (.seq (.bM Gy)
 .ret) .skip))
 (.seq (.bM Gz)
 (.seq (.seq (.bM GA)
 (.cond 39 (.seq (.bM GB)
 .ret) .skip))
 (.seq (.bM GC)
 (.seq (.seq (.bM GD)
 (.cond 50 (.seq (.bM GF)
 .ret) .skip))
 (.seq (.bM GG)
 (.seq (.seq (.bM GH)
 (.cond 58 (.seq (.bM GI)
 .ret) .skip))
 (.seq (.seq (.bM GJ)
 (.cond 62 (.bM GK) .skip))
 (.seq (.seq (.bM GL)
 (.cond 72 (.seq (.bM GM)
 .ret) .skip))
 (.seq (.bM GN)
 (.exit 777)))))))))))))))
def su:IC:=.seq (.bM GP) .ret
def iT (ce:CE) (s1:St):List AV->List aj->Option (List aj)
 | [],σ=>some σ
 |x::r,σ=>(aT ce ss ⟨bD (bD s1.vars 9 x) 11 x,none,σ⟩).bind λs=>iT ce s1 r s.σ
def sv (ce:CE) (A B C:List (List Int)):Bool:=A.all λu=>B.all λv=>C.all λx=>(match ce fB [.aA false [.aA false (u.map .int),.aA false (v.map .int),.aA false (x.map .int)]] []with
 |some (r,a)=>(bu a false r).bind dI
 |none=>none)==some (u++v++x)
def uQ (s1:St):Option (List (List Int)×List (List Int)×List (List Int)):=match s1.fl with
 |some (t,.func f [.ar a,.ar b,.ar c])=>if t=76/\f=oG then(vZ a).bind λA=>(vZ b).bind λB=>(vZ c).bind λC=>if A.length<=1000000/\B.length<=1000000/\C.length<=1000000 then some (A,B,C)else none else none
 |_=>none
def Ax (s:St):Option St:=(exec 0 (λ_ _ _=>none) (.mW 10) s).map (·.2)
def lf (ce:CE) (s1:St) (t:List (List Int)×List (List Int)×List (List Int)):Option (AV×List aj):=
 if sv ce t.1 t.2.1 t.2.2=true then(iT ce s1 (iq t.1 t.2.1 t.2.2) s1.σ).bind λa=>(Ax ⟨s1.vars,none,a⟩).bind λb=>(exec 0 ce su b).bind λp=>match p.1 with
  |.ret=>(results uP p.2).map (·,p.2.σ)
  |_=>none
 else none
def de:CE->List AV->List aj->Option (AV×List aj):=λce args b=>
 if args.length=2 then(exec 0 ce qj ⟨args++List.replicate 12 .au,none,b⟩).bind λp=>match p.1 with
  |.exit _=>(aT ce uO p.2).bind λa=>(uQ a).bind λt=>lf ce a t
  |_=>(results uP p.2).map (·,p.2.σ)
 else none
variable{a b:CE}
def G9(h:CE.le a b){r:dt}{s s' : St}(d:aT a r s=some s'):aT b r s=some s' :=by
 have:=jX (n:=0) h (aY 0) (.bM r) s (.c5,s') (by simp only[exec,d])
 simp only[exec]at this;split at this
 .simp at this;rw[<-this];assumption
 .simp at this
def Ha{a b:CE}(h:CE.le a b){s1:St}:∀{xs:List AV}{σ σ' : List aj},iT a s1 xs σ=some σ' ->iT b s1 xs σ=some σ'
 | [],σ,σ', d=>d
 |x::r,σ,σ', d=>by
  simp only[iT,dX]at d ⊢;obtain⟨s,e,f⟩:=d;exact⟨s,G9 h e,Ha h f⟩
def VJ(h:CE.le a b){A B C:List (List Int)}(e:sv a A B C=true):sv b A B C=true:=by
 simp only[sv,eS,bJ]at e ⊢;intro u f v g x i;have:=e u f v g x i;cases d:a fB [.aA false [.aA false (u.map .int),.aA false (v.map .int),.aA false (x.map .int)]] []with
 |none=>rw[d]at this;simp at this
 |some p=>rw[d]at this;rw[h _ _ _ _ d];exact this
variable{x:AV×List aj}
def VK(h:CE.le a b){s1:St}{t:List (List Int)×List (List Int)×List (List Int)}(d:lf a s1 t=some x):lf b s1 t=some x:=by
 unfold lf at d ⊢;split at d
 .rename_i e
  rw[ah (VJ h e)];simp only[dX]at d ⊢;obtain⟨f,g,i,j,p,l,m⟩:=d;exact⟨f,Ha h g,i,j,p,jX h (aY 0) _ _ _ l,m⟩
 .simp at d
def VL:∀a b:CE,CE.le a b->∀args σ v,de a args σ=some v->de b args σ=some v:=by
 intro a b h args σ v d;unfold de at d ⊢;split at d
 .rename_i f
  rw[ah f];simp only[dX]at d ⊢;obtain⟨p,g,e⟩:=d;refine⟨p,jX h (aY 0) _ _ _ g,?_⟩;split at e
  .simp only[dX]at e ⊢
   obtain⟨i,j,t,l,m⟩:=e;exact⟨i,G9 h j,t,l,VK h m⟩
  .exact e
 .simp at d
def Q:gH:=λf=>match f with
 |7=>some de
 |30=>some gd
 |52=>some db
 |70=>some dP
 |71=>some iB
 |94=>some jK
 |_=>none
def jB:cH Q:=by
 intro f p h;unfold Q at h;split at h
 .cases h;exact VL
 .cases h;exact MC
 .cases h;exact Mw
 .cases h;exact Mx
 .cases h;exact Mv
 .cases h;exact My
 .cases h
noncomputable def L:CE:=lim G Q
variable{f m k:Nat}{args:List AV}{σ:List aj}
def Hb(fn:Fn){b:IC}{K:AV->List aj->Prop}(a:Q f=none) (d:G f=some fn) (e:fn.body=b) (g:fn.np=m) (i:fn.nv-fn.np=k) (j:args.length=m) (h:WK L b (args++List.replicate k .au) none σ (nm fn K)):LX L f args σ K:=by subst e;subst g;subst i;exact Oi jB fn a d j h
abbrev GO (f:Nat) (i:Fn) (m k:Nat):Prop:=∀{args:List AV}{σ:List aj}{K:AV->List aj->Prop},args.length=m->WK L i.body (args++List.replicate k .au) none σ (nm i K)->LX L f args σ K
def gO (i:Fn)(a:Q f=none:=by rfl) (b:G f=some i:=by rfl) (d:i.np=m:=by rfl) (e:i.nv-i.np=k:=by rfl):GO f i m k:=Hb i a b rfl d e
def VM:GO Gh yU 1 6:=gO yU
def VN:GO ya yV 1 2:=gO yV
def VO:GO yb yW 1 3:=gO yW
def abi:GO oF yX 0 10:=gO yX
variable{N:Nat}
def Hc(h:de (cN G Q N) args σ=some x):L qg args σ=some x:=p7 jB (f:=qg) rfl h
def VP:GO sd yY 2 18:=gO yY
def VQ:GO yc yZ 1 8:=gO yZ
def VS:GO uw y4 1 4:=gO y4
def VT:GO yd y5 1 4:=gO y5
def VU:GO ux y6 1 14:=gO y6
def abj:GO ye y7 2 5:=gO y7
def abk:GO yg y8 2 2:=gO y8
def abl:GO Gj y9 2 3:=gO y9
def VV:GO ia za 1 11:=gO za
def VW:GO uy zb 1 17:=gO zb
def VX:GO yh zd 1 5:=gO zd
def abm:GO kz ze 2 5:=gO ze
def VY:GO yi zf 1 11:=gO zf
def VZ:GO yj zg 3 4:=gO zg
def V0:GO yk zh 1 8:=gO zh
def V1:GO qh zi 2 2:=gO zi
def V2:GO uz zj 2 7:=gO zj
def V3:GO ym zk 3 9:=gO zk
def V4:GO yn zl 2 6:=gO zl
def V5:GO yo zm 2 3:=gO zm
def Hd:GO se zn 1 14:=gO zn
def He:GO nA zo 1 9:=gO zo
def V6(h:gd (cN G Q N) args σ=some x):L qi args σ=some x:=p7 jB (f:=qi) rfl h
def V7:GO yp zp 1 7:=gO zp
def V8:GO yq zq 4 18:=gO zq
def abn:GO Gk zr 2 4:=gO zr
def abo:GO yr zt 2 2:=gO zt
def V9:GO yt zu 1 22:=gO zu
def Wa:GO yu zw 1 3:=gO zw
def Wb:GO yw zx 1 11:=gO zx
def abp:GO Gl zy 2 4:=gO zy
def Wc:GO yx zz 1 3:=gO zz
def Wd:GO sf zA 4 4:=gO zA
def We:GO uA zB 3 7:=gO zB
def Wf:GO uC zC 1 1:=gO zC
def abq:GO oG zD 4 12:=gO zD
def Wg:GO fB zE 1 1:=gO zE
def Wh:GO sg zF 2 8:=gO zF
def Wi:GO si zG 2 1:=gO zG
def Wj:GO yy zH 2 1:=gO zH
def Wk:GO yz zI 1 1:=gO zI
def Wl:GO uD zJ 2 1:=gO zJ
def Wm:GO sj zK 2 1:=gO zK
def Wn:GO sk zL 1 6:=gO zL
def uR(h:db (cN G Q 0) args σ=some x):L iS args σ=some x:=p7 jB (N:=0) (f:=iS) rfl h
def Wo:GO uE zM 2 5:=gO zM
def Wp:GO uF zN 2 4:=gO zN
def Wq:GO yA zO 2 8:=gO zO
def Wr:GO yB zP 1 3:=gO zP
def Ws:GO yC zQ 1 4:=gO zQ
def abr:GO Gm zR 2 2:=gO zR
def Wt:GO yD zS 2 5:=gO zS
def Wu:GO yE zT 2 10:=gO zT
def Wv:GO yF zU 1 4:=gO zU
def Ww:GO yG zV 2 5:=gO zV
def Wx:GO uG zW 4 1:=gO zW
def Wy:GO uH zX 3 7:=gO zX
def Wz:GO uI zY 3 16:=gO zY
def WA:GO uJ zZ 2 1:=gO zZ
def WB:GO yH z6 1 11:=gO z6
def Hf(h:dP (cN G Q N) args σ=some x):L sm args σ=some x:=p7 jB (f:=sm) rfl h
def Hg(h:iB (cN G Q N) args σ=some x):L sn args σ=some x:=p7 jB (f:=sn) rfl h
def Hh:GO uK z7 2 4:=gO z7
def WC:GO sq z8 3 1:=gO z8
def WD:GO uL Aa 2 8:=gO Aa
def WE:GO yI Ac 2 4:=gO Ac
def WG:GO yJ Ad 2 4:=gO Ad
def WH:GO yK Ae 3 8:=gO Ae
def WI:GO yL Af 2 7:=gO Af
def WJ:GO yM Ag 2 6:=gO Ag
def WL:GO yN Ah 2 10:=gO Ah
def WM:GO yO Ai 1 6:=gO Ai
def WN:GO uM Aj 2 3:=gO Aj
def Hi(h:jK (cN G Q N) args σ=some x):L sr args σ=some x:=p7 jB (f:=sr) rfl h
def WO:GO yP Ak 2 3:=gO Ak
def WQ:GO yQ Al 2 8:=gO Al
def WR:GO yR Am 2 9:=gO Am
def WS:GO uN Ao 1 1:=gO Ao
def WT:GO yS z193 2 14:=gO z193
def WU:GO yT Aw 3 3:=gO Aw
end Ab
