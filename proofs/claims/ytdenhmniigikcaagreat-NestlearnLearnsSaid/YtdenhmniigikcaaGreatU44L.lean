/- The learner on brackets; and what it leans on. Condition: none. -/
import Derived.Test.YtdenhmniigikcaaGreatU44D
import Derived.KernelRfl
set_option linter.all false
set_option maxRecDepth 100000
set_option maxHeartbeats 8000000
open Bool renaming true->ad,false->ae
open List renaming range->af,replicate->ag,length->ah
open Int renaming toNat->aj
namespace Ab
def rA (ws:al):Lg:=⟨dZ,ws,[([],[])],[],1⟩
def aqZ:(rA [[]]).tU = .bY [iL [0,3],.bool ad,.int 0]:=by kernel_rfl
def aq0:(rA [[],[0,3]]).tU = .bY [.aJ,.bool ae,.int 0]:=by kernel_rfl
def YS:(rA [[]]).put [0,3]=rA [[],[0,3]]:=by kernel_rfl
def YT:(rA [[],[0,3]]).tg.ee=tR:=by kernel_rfl
def Gk:dZ.fits:=MT xt ⟨cp,cp,cp,cp⟩
def Ho:∀c∈[(([]:ak),([]:ak))],zZ c:=λc a=>by
 simp at a;subst a;exact⟨aA,aA,aA⟩
def aq1:(rA [[]]).Ok:=⟨xt,Gk,Ho,cp,λw a=>by simp[rA]at a;subst a;exact⟨λx b=>by simp at b,aA⟩,cp,cp⟩
def YU:(rA [[],[0,3]]).Ok:=⟨xt,Gk,Ho,cp,λw b=>by
  simp[rA]at b;rcases b with rfl|rfl
  .exact⟨λx a=>by simp at a,aA⟩
  .exact⟨λx a=>by simp at a;omega,aA⟩,cp,cp⟩
def YV (l:al):Bool:=l.all λw=>(w.all λx=>decide (0<=x/\x<=255))&&decide (ah w<=10000)
variable{l:al}
def aq2(h:YV l=ad):∀w∈l,eD w/\ah w<=10000:=λw a=>by
 have:=sU.1 h w a;rw[bd]at this;refine⟨λx b=>?_,of_decide_eq_true this.2⟩;exact of_decide_eq_true (sU.1 this.1 x b)
def Gl:ah (fP l)<=ah l:=by
 show(ah (gL (gj bD l)))<=_;have:=Vj (gj bD l);rw[Fw]at this;exact this
def YW (ws:al) (d:(rA ws).Ok) (e:(ah (dZ.gC ws ws):Int)<=1000000) (g:YV (dZ.gC ws ws)=ad):(rA ws).Fit:=by
 have b:=aq2 g;refine⟨d,e,λw a=>by have:=(b w a).2;omega,λw a=>b w (vh.1 a),?_⟩
 have:ah (fP (dZ.gC ws ws))<=ah (dZ.gC ws ws):=Gl;show(ah (fP (dZ.gC ws ws)))<=1000000;omega
def aq3:Cm (rA [[],[0,3]]) 0 1 (rA [[]]):=by
 refine .step 0 _ [0,3] (YW _ aq1 cp cp) aqZ cp cp cp ?_
 rw[YS];exact .done _ (YW _ YU cp cp) aq0 ⟨rfl,rfl,rfl⟩
def aq4:(rA [[],[0,3]]).Cl:=⟨YU,cp,cp,cp,cp,cp⟩
variable{n:aS}{xs ws:al}{w:ak}
def aq5(h:w∈n.gC xs ws):(∃v∈ws,∃i:Nat,i<aj n.aG/\w=v ++ [n.ay+(i:Int)])\/∃v∈ws,∃c:Nat,c<aj n.ay/\∃x∈xs,∃r:Nat,r<aj n.aM/\w=v++(c:Int)::(x ++ [n.ay+n.aG+(r:Int)]):=by
 unfold aS.gC at h;obtain⟨v,a,h⟩:=oF.1 h;rcases dI.1 h with h|h
 .unfold aS.rk at h
  obtain⟨i,b,rfl⟩:=cJ.1 h;exact .inl ⟨v,a,i,cE.1 b,rfl⟩
 .unfold aS.pY at h
  obtain⟨c,d,h⟩:=oF.1 h;unfold aS.nY at h;obtain⟨x,e,h⟩:=oF.1 h;unfold aS.pX at h;obtain⟨r,g,rfl⟩:=cJ.1 h;exact .inr ⟨v,a,c,cE.1 d,x,e,r,cE.1 g,rfl⟩
def Gm{d e:Type}{f:d->List e}{k:Nat}:∀{l:List d},(∀a∈l,ah (f a)<=k)->ah (l.flatMap f)<=ah l*k
 | [],_=>by simp
 |a::r,h=>by
  have i:=h a aA
  have j:=Gm (l:=r) λb g=>h b jC
  rw[jD,bM,cT,fG];omega
def aq6{k:Nat}(a:ah ws<=k) (b:ah xs<=k) (g:aj n.aG<=5) (d:aj n.ay<=5) (e:aj n.aM<=5):ah (n.gC xs ws)<=k*(5+5*(k*5)):=by
 refine oC (Gm (k:=5+5*(k*5)) λw _=>?_) (mq _ a);have h:ah (n.rk w (aj n.aG))=aj n.aG:=by simp[aS.rk]
 have i:ah (n.pY w xs (aj n.ay))<=aj n.ay*(k*5):=by
  have:=Gm (l:=af (aj n.ay)) (f:=λ(c:Nat)=>n.nY w (c:Int) xs) (k:=k*5) λc _=>by
   have:=Gm (l:=xs) (f:=λx=>n.pX w (c:Int) x (aj n.aM)) (k:=5) λx _=>by simp only[aS.pX,db,lT];exact e
   exact oC this (mq _ b)
  simpa[aS.pY]using this
 have j:=mq (k*5) d;rw[bM];omega
structure Lg.Wi (S:Lg):Prop where
 ok:S.Ok
 sm:S.n.ay+S.n.aG+S.n.aM<=5
 ww:∀w∈S.ws,Ww S.n.dB w
 wl:∀w∈S.ws,ah w<=1024
 nil:[]∈S.ws
 c0:(([]:ak),([]:ak))∈S.cs
 vI:S.ws.Pairwise λa b=>bD a b<0
variable{S:Lg}
def Lg.Wi.ext(h:S.Wi)(hw:w∈S.n.gC S.ws S.ws):Ww S.n.dB w/\ah w<=2050:=by
 have hn:=h.ok.ok;have:=hn.ay;have:=hn.aG;have:=hn.aM;rcases aq5 hw with⟨v,hv,i,hi,rfl⟩|⟨v,hv,c,hc,x,hx,r,hr,rfl⟩
 .have:=h.wl v hv
  exact⟨.bp v i ax (by show(i:Int)<S.n.aG;omega) (h.ww v hv),aT⟩
 .have:=h.wl v hv
  have:=h.wl x hx;exact⟨.aQ v x c r ax (by show(c:Int)<S.n.ay;omega) ax (by show(r:Int)<S.n.aM;omega) (h.ww v hv) (h.ww x hx),aT⟩
def Lg.Wi.fit(h:S.Wi):S.Fit:=by
 have hn:=h.ok.ok;have:=hn.ay;have:=hn.aG;have:=hn.aM;have hl:=aq6 (n:=S.n) (k:=128) h.ok.wl h.ok.wl (by have:=h.sm;omega) (by have:=h.sm;omega) (by have:=h.sm;omega)
 refine⟨h.ok,ax,λw hw=>by have:=(h.ext hw).2;omega,λw hw=>?_,?_⟩
 .obtain⟨h1,h2⟩:=h.ext (vh.1 hw)
  refine⟨λx hx=>?_,ax⟩
  have:=h1.sym hn.dB.1 x hx;have hs:=h.sm;have e:S.n.dB.c+S.n.dB.i+S.n.dB.r=S.n.ay+S.n.aG+S.n.aM:=rfl;omega
 .have:ah (fP (S.n.gC S.ws S.ws))<=ah (S.n.gC S.ws S.ws):=Gl
  omega
def YX{S:Lg}:∀{l:al},S.oq l=0->∀w∈l,S.n.iG w S.cs=0
 | [],_,w,a=>by simp at a
 |v::l,h,w,a=>by
  unfold Lg.oq at h;split at h
  .rename_i b;exact absurd h b
  .rename_i b
   rcases cC.1 a with rfl|a
   .simpa using b
   .exact YX h w a
def YY{S:Lg}:∀l:al,(∃e:Int,S.nZ l = .bY [.aJ,.bool ae,.int e]/\(e=0->∀w∈l,S.n.iG w S.cs=0/\S.row w∈S.ws.map S.row))\/∃w∈l,S.nZ l = .bY [iL w,.bool ad,.int 0]/\S.n.iG w S.cs=0/\S.row w∉S.ws.map S.row
 | []=>.inl ⟨0,rfl,λ_ w a=>by simp at a⟩
 |v::l=>by
  unfold Lg.nZ
  by_cases b:S.n.iG v S.cs=0
  .rw[aC (by simpa using b)]
   by_cases d:S.row v∈S.ws.map S.row
   .rw[aD d]
    rcases YY l with⟨e,g,h⟩|⟨w,a,g,h,j⟩
    .refine .inl ⟨e,g,λi w a=>?_⟩
     rcases cC.1 a with rfl|a
     .exact⟨b,d⟩
     .exact h i w a
    .exact .inr ⟨w,gf,g,h,j⟩
   .rw[aC d]
    exact .inr ⟨v,aA,rfl,b,d⟩
  .rw[aD b]
   exact .inl ⟨_,rfl,λi=>absurd i b⟩
def aq7 (S:Lg):(∃e:Int,S.tU = .bY [.aJ,.bool ae,.int e]/\(e=0->S.oq S.ws=0/\∀w∈S.n.gC S.ws S.ws,S.n.iG w S.cs=0/\S.row w∈S.ws.map S.row))\/∃w∈S.n.gC S.ws S.ws,S.tU = .bY [iL w,.bool ad,.int 0]/\S.oq S.ws=0/\S.n.iG w S.cs=0/\S.row w∉S.ws.map S.row:=by
 unfold Lg.tU
 by_cases a:S.oq S.ws=0
 .rw[aC iQ]
  rcases YY (S:=S) (fP (S.n.gC S.ws S.ws))with⟨e,b,d⟩|⟨w,g,b,d,i⟩
  .exact .inl ⟨e,b,λh=>⟨a,λw g=>d h w (vh.2 g)⟩⟩
  .exact .inr ⟨w,vh.1 g,b,a,d,i⟩
 .rw[aD a]
  exact .inl ⟨_,rfl,λh=>absurd h a⟩
def Lg.Wi.cl(h:S.Wi) (hk:ah S.ws*aj S.n.ay<=128) (h1:S.oq S.ws=0) (h2:∀w∈S.n.gC S.ws S.ws,S.n.iG w S.cs=0/\S.row w∈S.ws.map S.row):S.Cl:=
 ⟨h.ok,nc.2 (List.ne_nil_of_mem h.nil),hk,h1,YX h1,h2⟩
def Gn{n:aS}{w:ak}:∀{cs:List (ak×ak)},n.iG w cs=0->∀c∈cs,n.Dz w c=0
 | [],_,c,a=>by simp at a
 |d::l,h,c,a=>by
  unfold aS.iG at h;split at h
  .rename_i b;exact absurd h b
  .rename_i b
   rcases cC.1 a with rfl|a
   .simpa using b
   .exact Gn h c a
def aq8(a:(([]:ak),([]:ak))∈S.cs)(h:S.n.iG w S.cs=0):S.n.word w:=by
 have:=Gn h _ a;unfold aS.Dz at this;simp at this;exact NA this
def Lg.Wi.put(h:S.Wi)(hw:w∈S.n.gC S.ws S.ws) (hz:S.n.iG w S.cs=0) (hr:S.row w∉S.ws.map S.row) (hl:ah S.ws+1<=128):(S.put w).Wi:=by
 obtain⟨e1,e2⟩:=h.ext hw;have wK:=aq8 h.c0 hz;have hn:=h.ok.ok;have hs:=h.sm;have hm:∀v,v∈(S.put w).ws->v∈S.ws\/v=w:=λv hv=>by
  have:=vh.1 hv;simpa using this
 have YZ:(S.put w).ws.Pairwise λa b=>bD a b<0:=anx dO _;have xZ:(S.put w).n.gB (S.put w).cs=S.row:=rfl;refine⟨⟨hn,h.ok.fits,h.ok.cs,h.ok.cl,λv hv=>?_,?_,?_⟩,hs,λv hv=>?_,λv hv=>?_,vh.2 (by simp[h.nil]),h.c0,YZ⟩
 .rcases hm v hv with hv|rfl
  .exact h.ok.ws v hv
  .have:=wK.1
   exact⟨λx hx=>by have:=wK.2 x hx;omega,ax⟩
 .have:ah (fP (S.ws ++ [w]))<=ah (S.ws ++ [w]):=Gl
  rw[bM]at this;show(ah (fP (S.ws ++ [w])))<=128;simp at this;omega
 .rw[xZ,List.Nodup,List.pairwise_map]
  refine YZ.imp_of_mem fun {a b} ha hb cw e=>?_;have fg:a ≠ b:=λe=>by subst e;rw[dO.refl]at cw;omega
  rcases hm a ha with ka|rfl<;>rcases hm b hb with kb|rfl
  .exact fg (z7 h.ok.nd ka kb e)
  .exact hr (by rw[<-e];exact wm ka)
  .exact hr (by rw[e];exact wm kb)
  .exact fg rfl
 .rcases hm v hv with hv|rfl
  .exact h.ww v hv
  .exact e1
 .rcases hm v hv with hv|rfl
  .exact h.wl v hv
  .have:=wK.1;omega
def Lg.Wi.nd(h:S.Wi):S.ws.Nodup:=h.vI.imp fun {a b} cw e=>by subst e;rw[dO.refl]at cw;omega
def aq9(h:S.Wi)(d:S.row w∉S.ws.map S.row) (e:(S.put w).Wi):ah S.ws+1<=ah (S.put w).ws:=by
 have a:w∉S.ws:=λa=>d (wm a);have:=zL (l:=w::S.ws) (L:=(S.put w).ws) (nw.2 ⟨a,h.nd⟩) λx b=>vh.2 (by
  rcases cC.1 b with rfl|b
  .simp
  .simp[b])
 simpa using this
structure CmE (S E:Lg):Prop where
 wi:E.Wi
 cl:E.Cl
 n:E.n=S.n
 cs:E.cs=S.cs
 sub:∀w∈S.ws,w∈E.ws
 len:ah S.ws<=ah E.ws
 eq:ah E.ws=ah S.ws->∀w∈S.n.gC S.ws S.ws,S.row w∈S.ws.map S.row
def Hp:∀(d:Nat){S:Lg},S.Wi->ah S.ws*aj S.n.ay<=128->128<=d+ah S.ws->∃E e k,Cm E e k S/\(e=0->CmE S E)
 |d,S,h,r,hd=>by
  rcases aq7 S with⟨e,i,j⟩|⟨w,l,i,j,s,o⟩
  .exact⟨S,e,0,.done S h.fit i ⟨rfl,rfl,rfl⟩,λa=>⟨h,h.cl r (j a).1 (j a).2,rfl,rfl,λ_ h=>h,bG _,λ_ w l=>((j a).2 w l).2⟩⟩
  .by_cases u:128<ah S.ws+1\/128<((ah S.ws:Int)+1)*S.n.ay
   .exact⟨S,11,0,.lim S w h.fit i rfl u ⟨rfl,rfl,rfl⟩,λa=>absurd a ax⟩
   .have b:ah S.ws+1<=128:=by omega
    have g:((ah S.ws:Int)+1)*S.n.ay<=128:=ax
    have p:=h.put l s o b;have A:=aq9 h o p;have hle:ah (S.put w).ws<=ah S.ws+1:=by
     have:ah (fP (S.ws ++ [w]))<=ah (S.ws ++ [w]):=Gl;rw[bM]at this;exact this
    have B:=h.ok.ok.ay;have m:ah (S.put w).ws*aj (S.put w).n.ay<=128:=by
     rw[show(ah (S.put w).ws)=ah S.ws+1 by omega]
     have:(((ah S.ws+1)*aj S.n.ay:Nat):Int)<=128:=by
      rw[kW,show((aj S.n.ay:Nat):Int)=S.n.ay by omega]
      exact g
     exact_mod_cast this
    match d,hd with
    |0,hd=>omega
    |d+1,hd=>
     obtain⟨E,e,k,x,y⟩:=Hp d p m ax
     refine⟨E,e,k+1,.step k S w h.fit i (by have:=(h.ext l).2;omega) b g x,λa=>?_⟩
     have q:=y a;exact⟨q.wi,q.cl,q.n,q.cs,λv z=>q.sub v (vh.2 (by simp[z])),by have:=q.len;omega,λe=>by have:=q.len;omega⟩
def ND{c i:Int}{w v:ak}(h:∀d:Nat,mt c i d (w++v)=mt c i d v):∀(u:ak) (d:Nat),mt c i d (u++(w++v))=mt c i d (u++v)
 | [],d=>h d
 |x::u,d=>by
  have a:=ND h u;simp only[kK,mt,a]
variable{m:aS}{u x v:ak}
def ara(e:m.Ok){t:Int}(j:Wd m.bZ (u.foldl m.step (m.aF,[])).1 t w) (n:Wd m.bZ (u.foldl m.step (m.aF,[])).1 t x) (o:(m.acc (u++(w++v))).2=0) (p:(m.acc (u++(x++v))).2=0):(m.acc (u++(w++v))).1=(m.acc (u++(x++v))).1:=by
 have i:0<=m.bZ.ay/\0<=m.bZ.aG/\0<=m.bZ.aM:=⟨e.ay.1,e.aG.1,e.aM.1⟩;obtain⟨_,q,r⟩:=j.run i;obtain⟨_,s,z⟩:=n.run i;have g:m.gu (u++(w++v))=m.gu (u++(x++v)):=by
  rw[LF,LF];exact(ND (λd=>q d v) u 0).trans (ND (λd=>s d v) u 0).symm
 have b:m.run m.aF (u++(w++v))=m.run m.aF (u++(x++v)):=by
  unfold aS.run;rw[List.foldl_append (l:=u) (l' :=w++v),List.foldl_append (l:=u) (l' :=x++v)];exact(r _ v).trans (z _ v).symm
 have key:∀y,(m.acc y).2=0->(m.acc y).1=if m.gu y=ae then ae else ix m.az (m.run m.aF y).1:=λy a=>by
  unfold aS.acc at a ⊢;split at a
  .rename_i k;exact absurd a k
  .rename_i k
   rw[aC k];split at a
   .rename_i h;exact absurd a h
   .rename_i h
    rw[aC h];split at a
    .simp at a
    .rename_i A
     rw[aC A];split<;>rfl
 rw[key _ o,key _ p,g,b]
variable{c:ak×ak}
def Gp:(S.ctx c).row w=S.row w ++ [S.n.z6 w c]:=by
 show S.n.gB (S.cs ++ [c]) w=S.n.gB S.cs w ++ [S.n.z6 w c];unfold aS.gB;simp
def Gq:ah (S.row w)=ah S.cs:=by
 show(ah (S.n.gB S.cs w))=_;unfold aS.gB; simp
def Lg.Wi.ctx(h:S.Wi)(hc:zZ c) (hl:ah S.cs+1<=1000):(S.ctx c).Wi:=by
 have rp:((S.ctx c).ws.map ((S.ctx c).n.gB (S.ctx c).cs)).Nodup:=by
  have h1:((S.ctx c).ws.map ((S.ctx c).n.gB (S.ctx c).cs))=S.ws.map (S.ctx c).row:=rfl;rw[h1,List.Nodup,List.pairwise_map];refine h.vI.imp_of_mem fun {a b} ha hb cw e=>?_;rw[Gp,Gp]at e;have e1:=(List.append_inj e (by rw[Gq,Gq])).1
  have:=z7 h.ok.nd ha hb e1;subst this;rw[dO.refl]at cw;omega
 refine⟨⟨h.ok.ok,h.ok.fits,λd hd=>?_,?_,h.ok.ws,h.ok.wl,rp⟩,h.sm,h.ww,h.wl,h.nil,List.mem_append_left _ h.c0,h.vI⟩
 .rcases dI.1 (show d∈S.cs ++ [c]from hd)with hd|hd
  .exact h.ok.cs d hd
  .simp at hd;subst hd;exact hc
 .show 1<=ah (S.cs ++ [c])/\ah (S.cs ++ [c])<=1000
  have:=h.ok.cl;simp;omega
def arb(g:l.Pairwise λa b=>bD a b<0) (h:[]∈l):ix l 0=[]:=by
 cases l with
 |nil=>simp at h
 |cons x l=>
  show x=[];rcases cC.1 h with e|h
  .exact e.symm
  .have i:=(jV.1 g).1 [] h
   refine dP λd=>?_;have j:=UB d;have:=FW ax (show bD [] x<=0 by omega)
   exact d this
def Y0(h:S.row x∈S.ws.map S.row):0<=S.sG x/\S.sG x<(ah S.ws:Int)/\S.row (ix S.ws (S.sG x))=S.row x:=by
 have a:=List.idxOf_lt_length_of_mem h;have b:=List.getElem_idxOf a;have d:(S.ws.map S.row).idxOf (S.row x)<ah S.ws:=iQ
 refine⟨by unfold Lg.sG;omega,by unfold Lg.sG;omega,?_⟩
 unfold Lg.sG;rw[bt d];rw[gq]at b;exact b
def Y1(h:S.Wi)(g:S.row x∈S.ws.map S.row) (b:S.n.z6 x c ≠ S.n.z6 (ix S.ws (S.sG x)) c):(S.ctx c).row x∉(S.ctx c).ws.map (S.ctx c).row:=by
 intro i;obtain⟨v,a,e⟩:=cJ.1 i;have a:v∈S.ws:=a;rw[Gp,Gp]at e;obtain⟨j,d⟩:=List.append_inj e (by rw[Gq,Gq])
 obtain⟨m,o,p⟩:=Y0 g;have:=z7 h.ok.nd a (bh (l:=S.ws) m o) (j.trans p.symm);rw[<-this]at b;simp at d;exact b d.symm
def Y2(h:(n.acc (c.1++(x++c.2))).1 ≠ (n.acc (c.1++(v++c.2))).1):n.z6 x c ≠ n.z6 v c:=by
 unfold aS.z6;cases a:(n.acc (c.1++(x++c.2))).1<;>cases b:(n.acc (c.1++(v++c.2))).1<;>simp_all
variable{E:Lg}{s:Int}
def arc{j:Int}(a:0<=s) (b:s<(ah E.ws:Int)) (d:0<=j) (e:j<E.n.aG):ix (ix E.tg.ee.aH s) j=E.sG (ix E.ws s ++ [E.n.ay+j]):=by
 show ix (ix ((af (ah E.ws)).map λi=>(af (aj E.n.aG)).map λj:Nat=>E.sG (E.wd i ++ [E.n.ay+(j:Int)])) s) j=_;rw[fb a b,fb d ax]
 unfold Lg.wd;rw[show((aj s:Nat):Int)=s by omega,show((aj j:Nat):Int)=j by omega]
def ard{c:Int}(b:0<=s) (d:s<(ah E.ws:Int)) (e:0<=c) (i:c<E.n.ay):ix (ix E.tg.ee.call s) c=0/\ix (ix E.tg.ee.push s) c=s*E.n.ay+c:=by
 have g:ix E.tg.ee.call s=ag (aj E.n.ay) 0:=by
  show ix (ag (ah E.ws) (ag (aj E.n.ay) (0:Int))) s=_;have:=lF (a:=ag (aj E.n.ay) (0:Int)) (show (aj s)<ah E.ws by omega)
  rw[show((aj s:Nat):Int)=s by omega]at this
  exact this
 have h:ix E.tg.ee.push s=E.n.vi (aj s) (aj E.n.ay):=by
  show ix ((af (ah E.ws)).map λs=>E.n.vi s (aj E.n.ay)) s=_;rw[fb b d]
 rw[g,h];constructor
 .have:=lF (a:=(0:Int)) (show (aj c)<aj E.n.ay by omega)
  rw[show((aj c:Nat):Int)=c by omega]at this
  exact this
 .show ix ((af (aj E.n.ay)).map λj=>((aj s:Nat):Int)*E.n.ay+((j:Nat):Int)) c=_
  rw[fb e ax]
  rw[show((aj s:Nat):Int)=s by omega,show((aj c:Nat):Int)=c by omega]
def arf(j:0<E.n.ay){g r:Int}(b:0<=s) (d:s<(ah E.ws:Int)) (a:0<=g) (l:g<(ah E.ws:Int)*E.n.ay) (e:0<=r) (m:r<E.n.aM):ix (ix (ix E.tg.ee.aP s) g) r=E.sG (ix E.ws (g.tdiv E.n.ay)++g.tmod E.n.ay::(ix E.ws s ++ [E.n.ay+E.n.aG+r])):=by
 show ix (ix (ix ((af (ah E.ws)).map λi=>(af (E.n.aZ (ah E.ws))).map λg=>(af (aj E.n.aM)).map λr=>E.tg.qq i g r) s) g) r=_;have h:g<((E.n.aZ (ah E.ws):Nat):Int):=by
  have:((ah E.ws*aj E.n.ay:Nat):Int)=(ah E.ws:Int)*E.n.ay:=by rw[kW,show((aj E.n.ay:Nat):Int)=E.n.ay by omega]
  unfold aS.aZ;omega
 rw[fb b d,fb a h,fb e ax]
 unfold DC.qq;rw[aC (show ¬aj E.tg.n.ay=0 by show ¬aj E.n.ay=0;omega)]
 show E.sG (E.wd (aj g/aj E.n.ay)++((aj g%aj E.n.ay:Nat):Int)::(E.wd (aj s) ++ [E.n.ay+E.n.aG+((aj r:Nat):Int)]))=_;unfold Lg.wd;rw[show((aj s:Nat):Int)=s by omega,show((aj r:Nat):Int)=r by omega,Int.tdiv_eq_ediv_of_nonneg a,Int.tmod_eq_emod_of_nonneg a]
 rw[Int.natCast_ediv,Int.natCast_emod,show((aj g:Nat):Int)=g by omega,show((aj E.n.ay:Nat):Int)=E.n.ay by omega]
def prog(h:E.Wi) (R:E.Cl) (F:E.tg.ee.Ok){y:ak}(G:E.tg.ee.word y) (H:E.tg.ee.up y){i:Nat}(V:i<ah y)
  (W:∀j:Nat,j<=i->0<j->(E.n.acc (E.ask E.tg.ee y j)).1=(E.n.acc y).1) (d:(E.n.acc (E.ask E.tg.ee y (i+1:Nat))).1 ≠ (E.n.acc y).1) :
  ∃x∈E.n.gC E.ws E.ws,(E.ctx (E.pre E.tg.ee y (i+1),y.drop (i+1))).row x∉(E.ctx (E.pre E.tg.ee y (i+1),y.drop (i+1))).ws.map (E.ctx (E.pre E.tg.ee y (i+1),y.drop (i+1))).row:=by
 have I:=h.ok.ok;have S:=NC F I.ay.1;obtain⟨q,J,v3⟩:=BZ F G H F.aF (i:=(i:Int)) ax ax
 have z:=Nz S G H (i:=(i:Int)) ax ax
 have T:ix E.ws 0=[]:=arb h.vI h.nil;have X:(ah E.tg.ee.az:Int)=(ah E.ws:Int):=by rw[S.k]
 have o:=G.2 _ (bh (l:=y) (n:=(i:Int)) ax ax)
 have ec:E.tg.ee.ay=E.n.ay:=rfl;have ei:E.tg.ee.aG=E.n.aG:=rfl;have Y:E.tg.ee.aM=E.n.aM:=rfl;rw[ec,ei,Y]at o;have b:(E.n.acc (E.ask E.tg.ee y i)).1=(E.n.acc y).1:=by
  rcases Nat.eq_zero_or_pos i with e|e
  .subst e
   have:E.ask E.tg.ee y ((0:Nat):Int)=y:=by
    show[]++(ix E.ws 0++y)=y;rw[T];rfl
   rw[this]
  .exact W i (bG _) e
 have A:y.drop i=ix y (i:Int)::y.drop (i+1):=by
  rw[bt V,List.getElem_cons_drop]
 have m:=H ((i:Int)+1) ax ax
 rw[uZ ax ax]at m
 unfold aS.jo aS.zo at m;rw[ec,ei]at m;have K:=BY (n:=E.tg.ee) (s:=E.tg.ee.aF) (w:=y) (i:=(i:Int)) ax ax
 have Z:E.ask E.tg.ee y ((i:Nat):Int)=E.pre E.tg.ee y (i:Int)++(E.DE E.tg.ee y (i:Int)++y.drop i):=rfl;have L:E.ask E.tg.ee y ((i+1:Nat):Int)=E.pre E.tg.ee y ((i:Int)+1)++(E.DE E.tg.ee y ((i:Int)+1)++y.drop (i+1)):=rfl;rw[L]at d;rw[Z]at b;unfold Lg.pre at b d ⊢;unfold Lg.DE at b d;rw[K]at d ⊢;unfold aS.step at d ⊢;rw[ec,ei]at d ⊢;obtain⟨s,M⟩:∃s,(E.tg.ee.cx E.tg.ee.aF y i).1=s:=⟨_,rfl⟩;obtain⟨st,p⟩:∃st,(E.tg.ee.cx E.tg.ee.aF y i).2=st:=⟨_,rfl⟩;obtain⟨a,B⟩:∃a,ix y (i:Int)=a:=⟨_,rfl⟩;rw[M,p,B]at d ⊢;rw[M,p]at b;rw[M,X]at q;rw[p]at J z;rw[B]at m o A;rw[A]at b;have C:ix E.ws s∈E.ws:=bh q.1 q.2
 by_cases u:a<E.n.ay
 .exfalso
  rw[if_pos u]at d;obtain⟨t1,t2⟩:=ard (E:=E) q.1 q.2 o.1 u;rw[t1,t2]at d;dsimp only at d;rw[T,List.reverse_cons,C5]at d;have hb:E.DD (s*E.n.ay+a)=ix E.ws s ++ [a]:=by
   have n0:0<=s*E.n.ay:=pH q.1 I.ay.1;unfold Lg.DD;rw[Int.tdiv_eq_ediv_of_nonneg ax,Int.tmod_eq_emod_of_nonneg ax]
   have d1:(s*E.n.ay+a)/E.n.ay=s:=by
    rw[Int.add_comm,Int.add_mul_ediv_right _ _ ax,Int.ediv_eq_zero_of_lt o.1 u];omega
   have d2:(s*E.n.ay+a)%E.n.ay=a:=by
    rw[Int.add_comm,Int.add_mul_emod_self_right,Int.emod_eq_of_lt o.1 u]
   rw[d1,d2]
  rw[hb]at d;refine d ?_;rw[<-b]
  congr 2
  simp
 .rw[aC u]at d ⊢
  rw[aC u]at m
  by_cases U:a<E.n.ay+E.n.aG
  .rw[aD U]at d ⊢
   dsimp only at d ⊢;rw[arc q.1 q.2 ax ax,show E.n.ay+(a-E.n.ay)=a by omega]at d
   have D:ix E.ws s ++ [a]∈E.n.gC E.ws E.ws:=by
    have:=YF (n:=E.n) (xs:=E.ws) C (i:=aj (a-E.n.ay)) ax
    rw[show E.n.ay+((aj (a-E.n.ay):Nat):Int)=a by omega]at this
    exact this
   refine⟨_,D,Y1 h (R.cl _ D).2 (Y2 λe=>d ?_)⟩;dsimp only at e;rw[<-e,<-b]
   congr 2
   simp
  .rw[aC U]at d ⊢
   rw[aD ax]at m
   dsimp only at m d ⊢;have N:st ≠ []:=λe=>by rw[e]at J;simp at J;omega
   obtain⟨g,l,rfl⟩:=List.exists_cons_of_ne_nil N;have O:=z g aA
   obtain⟨q0,q1,m0,m1,P⟩:=Gj I O;rw[Lu,List.tail_cons]at d;rw[List.tail_cons];rw[arf P q.1 q.2 O.1 O.2 ax ax,show E.n.ay+E.n.aG+(a-E.n.ay-E.n.aG)=a by omega]at d
   have Q:ix E.ws (g.tdiv E.n.ay)∈E.ws:=bh q0 q1;have D:ix E.ws (g.tdiv E.n.ay)++g.tmod E.n.ay::(ix E.ws s ++ [a])∈E.n.gC E.ws E.ws:=by
    have:=YG (n:=E.n) (xs:=E.ws) Q C (c:=aj (g.tmod E.n.ay)) (r:=aj (a-E.n.ay-E.n.aG)) ax ax
    rw[show((aj (g.tmod E.n.ay):Nat):Int)=g.tmod E.n.ay by omega,show E.n.ay+E.n.aG+((aj (a-E.n.ay-E.n.aG):Nat):Int)=a by omega]at this
    exact this
   refine⟨_,D,Y1 h (R.cl _ D).2 (Y2 λe=>d ?_)⟩;dsimp only at e;rw[<-e,<-b,List.reverse_cons,C5];unfold Lg.DD
   congr 2
   simp
inductive Cp (A:kT):ak->Prop
 |nil:Cp A []
 |snoc (u w:ak) (a:Int):Cp A u->Ww A w->0<=a->a<A.c->Cp A (u++(w ++ [a]))
def Lg.Ci (S:Lg):Prop:=∀c∈S.cs,Cp S.n.dB c.1
def Y3{S:Lg}(h:S.Wi):∀{ps:ak},(∀g∈ps,0<=g/\g<(ah S.ws:Int)*S.n.ay)->Cp S.n.dB (S.pj ps.reverse)
 | [],_=>.nil
 |g::ps,a=>by
  obtain⟨b,d,m0,e,_⟩:=Gj h.ok.ok (a g aA)
  rw[List.reverse_cons,C5];exact .snoc _ _ _ (Y3 h λx i=>a x (by simp[i])) (h.ww _ (bh b d)) m0 e
def Hq(e:n.Ok)(h:Ww n.dB w):∀s,0<=s/\s<(ah n.az:Int)->∃t,(0<=t/\t<(ah n.az:Int))/\Wd n.bZ s t w:=by
 induction h with
 |nil=>exact λs b=>⟨s,b,.nil s⟩
 |bp u i q i1 _ A=>
  intro s b;obtain⟨t,a,g⟩:=A s b;have:=e.aH t i a.1 a.2 q i1;exact⟨_,this,g.app (.bp t i _ [] q i1 (.nil _))⟩
 |aQ u v c r j l x y _ _ m o=>
  intro s b;obtain⟨t,a,g⟩:=m s b;have B:=e.call t c a.1 a.2 j l;have z:=e.push t c a.1 a.2 j l;obtain⟨p,d,C⟩:=o _ B;have D:=e.aP p _ r d.1 d.2 z.1 z.2 x y;exact⟨_,D,g.app (.call t c p r _ v [] j l x y C (.nil _))⟩
def Hr(d:n.Ok){P:Int->Prop}(j:P n.aF) (l:∀s a,0<=s->s<(ah n.az:Int)->0<=a->a<n.ay->P (ix (ix n.call s) a))(h:Cp n.dB u):∃q st,u.foldl n.step (n.aF,[])=(q,st)/\(0<=q/\q<(ah n.az:Int))/\P q:=by
 induction h with
 |nil=>exact⟨_,_,rfl,d.aF,j⟩
 |snoc u w a _ m i b o=>
  obtain⟨q,st,e,p,_⟩:=o;obtain⟨t,g,r⟩:=Hq d m q p;have x:=(r.run d.m0).2.2 st [a];have b:a<n.ay:=b;refine⟨ix (ix n.call t) a,ix (ix n.push t) a::st,?_,d.call t a g.1 g.2 i b,l t a g.1 g.2 i b⟩;rw[List.foldl_append,e];refine Eq.trans x ?_;show n.step (t,st) a=_;unfold aS.step;rw[aD b]
def Y4(h:S.Wi) (j:∀w∈S.ws,S.n.iG w S.cs=0)(l:m.Ok) (a:∀w,m.acc w=S.n.acc w){o:Type}(f:ak->o)
  (p:∀u∈S.ws,∀v∈S.ws,f u=f v->∀c∈S.cs,∃t,Wd m.bZ (c.1.foldl m.step (m.aF,[])).1 t u/\Wd m.bZ (c.1.foldl m.step (m.aF,[])).1 t v):(S.ws.map f).Nodup:=by
 rw[List.Nodup,List.pairwise_map];refine h.nd.imp_of_mem fun {u v} b d g e=>g (z7 h.ok.nd b d ?_);refine fm λc i=>?_;obtain⟨t,q,r⟩:=p u b v d e c i;have:=ara l q r (by rw[a];exact Gn (j u b) c i) (by rw[a];exact Gn (j v d) c i)
 rw[a,a]at this;unfold aS.z6;rw[this]
def aS.vec (n:aS) (w:ak):ak:=(af (ah n.az)).map λs:Nat=>(w.foldl n.bZ.step ((s:Int),[])).1
def NF(a:n.Ok)(h:Ww n.dB w)(b:0<=s) (d:s<(ah n.az:Int)):(0<=ix (n.vec w) s/\ix (n.vec w) s<(ah n.az:Int))/\Wd n.bZ s (ix (n.vec w) s) w:=by
 obtain⟨t,i,g⟩:=Hq a h s ⟨b,d⟩;have e:ix (n.vec w) s=t:=by
  unfold aS.vec;rw[fb b d,show((aj s:Nat):Int)=s by omega]
  exact((rT a.m0).1 g).2.2
 rw[e];exact⟨i,g⟩
def arh(h:S.Wi) (m:∀w∈S.ws,S.n.iG w S.cs=0) (o:S.Ci) (p:ah S.n.az<=3):ah S.ws<=27:=by
 have a:=h.ok.ok;have r:=Y4 h m a (λ_=>rfl) S.n.vec λu y v z e c g=>by
  obtain⟨q,st,A,d,_⟩:=Hr a (P:=λ_=>True) trivial (λ_ _ _ _ _ _=>trivial) (o c g);rw[A];have b:=(NF a (h.ww v z) d.1 d.2).2;rw[<-e]at b;exact⟨_,(NF a (h.ww u y) d.1 d.2).2,b⟩
 have i:=zL (L:=tM (ah S.n.az) (ah S.n.az)) r λk B=>by
  obtain⟨w,C,rfl⟩:=cJ.1 B;refine MZ (by simp[aS.vec]) λx D=>?_
  obtain⟨j,l,e⟩:=fY.1 D;have E : j<ah S.n.az:=by simpa[aS.vec]using l
  have:=(NF a (h.ww w C) (s:=(j:Int)) ax ax).1
  rw[bt l,e]at this;exact this
 rw[MY,db]at i;have:∀k:Nat,k<=3->k^k<=27:=cp
 exact oC i (this _ p)
def ari(h:S.Wi) (D:∀w∈S.ws,S.n.iG w S.cs=0) (E:S.Ci){H:aS}{rs:al}(d:j6 H rs) (g:H.dB=S.n.dB) (F:H.bT=S.n.bT):ah S.ws<=ah rs:=by
 have G:=h.ok.ok;have m:H.ay=S.n.ay:=congrArg kT.c g;have I:H.aG=S.n.aG:=congrArg kT.i g;have J:H.aM=S.n.aM:=congrArg kT.r g;have p:∀w,(cO H.dB H.bT rs).acc w=S.n.acc w:=λw=>Yc d.o G m I J (d.bT.trans F) w;have K:=(CN (A:=H.dB) (L:=H.bT) (ws:=rs)).1;have M:=Y4 h D d.o p (iO H.dB H.bT rs) λu N v O e c y=>by
  have z:Cp (cO H.dB H.bT rs).dB c.1:=by
   have:=E c y;rw[<-g]at this;exact this
  obtain⟨q,st,m,X,j⟩:=Hr d.o (P:=λs=>s=0) rfl (λs a Q C R T=>(zQ Q (by rw[K]at C;exact C) R T).1) z
  rw[m];have j:q=0:=j;subst j;have B:=d.wd (w:=u) (by rw[g];exact h.ww u N)
  have l:=d.wd (w:=v) (by rw[g];exact h.ww v O)
  rw[<-e]at l;exact⟨_,B,l⟩
 have U:=tB (ah rs) M λx V=>by
  obtain⟨w,W,rfl⟩:=cJ.1 V;obtain⟨a,b,_⟩:=r6 d.r (v:=w) (by rw[g];exact h.ww w W)
  exact⟨a,b⟩
 rwa [db]at U
end Ab
