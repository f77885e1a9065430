import Derived.Test.YtknfcngfhlpaeaaGreatDoorQAmOps2
namespace AM
set_option linter.unusedVariables false
open Go
variable{U:kz}{E:Env U}{pm:Pm}
variable{F:Nat->Prop}{kv:Key->Value}{fp:Key->List Nat}{σ:ak U}{a:Act}{w:World}
def FA(σ:ak U)(F:Nat->Prop)(fp:Key->List Nat)(b:Nat):Prop:=F b\/∃k e,σ.bH k=some e/\b∈fp k
theorem Rp.fq{w:World}{F F':Nat->Prop}{c:U.C}{v:Value}(h:Rp E w F false c v [])(hF:∀b,F b->F' b):Rp E w F' false c v []:=
 h.kB hF (by simp)
theorem Me(h:cG E pm F kv fp σ a w){k:Key}{x:cC U}{d:Bool}(he:σ.bH k=some (.arr x d)):
  Rp E w (fun b=>F b\/b∈fp k) false (.sl x.τ x.xs) (kv k) []:=
 eo.kB (h.cW k _ he) (fun b hb=> .inl hb) (fun b hb=> .inr hb)
theorem dK.NM{dead:Nat->Bool}{x:cC U}{v:Value}{l:List Nat}(h:dK E w F dead x v l):∃ad c,v=.slice ad x.xs.length c/\x.xs.length<=c:=by
 rcases h with⟨h0,⟨ad,rfl⟩,_⟩|⟨b,cap,cur,vs,gr,rfl,_,hc,hm,_⟩
 ·exact⟨ad,0,by simp[h0],by simp[h0]⟩
 ·exact⟨_,_,rfl,hc⟩
theorem dK.Zd{dead:Nat->Bool}{x b:cC U}{v:Value}{l:List Nat}{i wd j:Nat}{p:Path}{ps:List Prop}(h:dK E w F dead x v l)(hw:walk ((i,wd,j)::p) x=some (ps,b))(hp:∀q∈ps,q)(Q0:dead i=false):
  ∃v',nU w (fun c=>F c\/c∈l) v ((i,wd,j)::p) v'/\Rp E w (fun c=>F c\/c∈l) false (.sl b.τ b.xs) v' []:=by
 obtain⟨τ,xs⟩:=x
 simp only[walk] at hw
 cases tT:Nat.beq wd (U.wd τ)<;>simp only[tT,cond_false,cond_true] at hw
 ·cases hw
 have OZ:wd=U.wd τ:=mc tT
 subst OZ
 split at hw
 rotate_left
 ·cases hw
 rename_i τ1 ys hx
 split at hw
 rotate_left
 ·cases hw
 rename_i H_ b' hw'
 simp only[fM,nT] at hw
 obtain⟨rfl,rfl⟩:=hw
 have hi:i<xs.length:=hp _ (by simp)
 have uR:=ff (d:=U.ee τ) hi
 rcases h with⟨h0,_⟩|⟨g,cap,cur,vs,gr,rfl,hb,hc,hm,hs,hv,hr,jR,rfl⟩
 ·simp only at h0;subst h0;simp at hi
 ·have jz:=hr i _ j _ Q0 uR hx
  have fU:=fi uR hx
  have hsh:=jz.kB (F':=fun c=>F c\/c∈g::(List.range (xs.length*U.wd τ)).flatMap gr) (fun b hb=> .inl hb) (fun b hb=> .inr (e8 _ (nF.2 ⟨_,n9.2 fU,hb⟩)))
  obtain⟨v',h1,h2⟩:=Rp.Zd (a:=⟨τ1,ys⟩) hsh hw' (fun q hq=>hp q (by simp[hq]))
  refine⟨v',⟨g,0,_,cap,_,rfl,.inr (by simp),?_,h1⟩,h2⟩
  simp only[World.cell?,hb,tH]
  simpa using(hv _ fU).1
theorem aaS{k:Key}{e:ie U}(he:σ.bH k=some e):∀b,(F b\/b∈fp k)->FA σ F fp b:=
 fun b hb=>hb.elim .inl (fun hb=> .inr ⟨k,e,he,hb⟩)
theorem FM{ks:List Key}{k:Key}{p:Path}{e:ie U}(hc:fm (restrict σ.bH ks) σ.aR k p=true)(he:restrict σ.bH ks k=some e):
  (!p.isEmpty&&bR σ k)=false:=by
 unfold fm at hc
 simp only[DW,cH,pc] at hc
 rcases hc with hc|⟨_,hc⟩
 ·simp[hc]
 ·simp[bR,hc,jx he]
theorem Rp.sub{w:World}{F:Nat->Prop}{τ:U.Ty}{xs:List (U.T τ)}{v:Value}(h:Rp E w F false (.sl τ xs) v []){lo hi:Nat}(h1:lo<=hi)(h2:hi<=xs.length):
  Rp E w F false (.sl τ ((xs.take hi).drop lo)) (p9 (U.wd τ) lo hi v) []:=by
 have hlen:((xs.take hi).drop lo).length=hi-lo:=by simp;omega
 rcases h.inv with⟨h0,ad,c,rfl⟩|⟨b,off,cap,vs,rfl,hF,hc,hv,hr⟩
 ·subst h0
  simp only[ig] at h2
  have:lo=0:=by omega
  have:hi=0:=by omega
  subst_vars
  simp only[List.take_nil,List.drop_nil,p9,Nat.sub_zero]
  exact .nil _ _ _ _ (by simp)
 ·by_cases h3:hi=lo
  ·subst h3
   have:(xs.take hi).drop hi=[]:=Fy (by rw[hlen];omega)
   rw[this]
   simp only[p9,To]
   exact .nil _ _ _ _ (by simp)
  ·have d_:¬cap=lo:=by omega
   have M0:(⟨b,off,none⟩:Addr).add (lo*U.wd τ)=⟨b,off+lo*U.wd τ,none⟩:=Addr.add_mid _ _ _
   have:=Rp.shr (E:=E) (w:=w) (F:=F) τ ((xs.take hi).drop lo) b (off+lo*U.wd τ) (cap-lo) (fun i=>vs (lo*U.wd τ+i)) hF (by rw[hlen];omega) (by rw[hlen];have:=h.len;omega)
    (fun i pa=>by
     rw[Ny]
     refine hv _ ?_
     rw[hlen] at pa
     have:lo*U.wd τ+(hi-lo)*U.wd τ=hi*U.wd τ:=by rw[<-x_];congr 1;omega
     have:hi*U.wd τ<=xs.length*U.wd τ:=ze _ h2
     omega)
    (fun i x j c hx hj=>by
     have pa:i<hi-lo:=by
      rcases nL i (hi-lo) with h|h
      ·exact h
      ·rw[nb (by rw[hlen];exact h)] at hx;cases hx
     have QT:xs[lo+i]? =some x:=by
      rw[Fx,oT] at hx
      rw[if_pos (by omega)] at hx
      exact hx
     have:=hr (lo+i) x j c QT hj
     rw[x_,Ny] at this
     exact this)
   simp only[p9,d_,if_false,D3,M0]
   rw[hlen] at this
   exact this
theorem W2(h:cG E pm F kv fp σ a w){ks:List Key}{x:AC U}{v:Value}{ps:List Prop}{b:cC U}
  (ha:pE (restrict σ.bH ks) σ.aR x=some (ps,b)) (hp:∀p∈ps,p) (hx:RD E w F kv fp (bR σ) x v):Rp E w (FA σ F fp) false (.sl b.τ b.xs) v []:=by
 unfold pE at ha
 split at ha
 ·cases ha
  exact Rp.fq (ca hx rfl) (fun b hb=> .inl hb)
 ·cases ha
  exact Rp.fq (ca hx rfl).1 (fun b hb=> .inl hb)
 ·rename_i k p
  split at ha
  ·rename_i y d he
   cases hc:fm (restrict σ.bH ks) σ.aR k p<;>simp only[hc,cond_false,cond_true] at ha
   ·cases ha
   ·have hn:=ca hx (FM hc he)
    obtain⟨v',h1,h2⟩:=(Me h (jx he)).Zd ha hp
    have:v=v':=hn.unique h1
    subst this
    exact h2.fq (aaS (jx he))
  ·cases ha
 ·rename_i k wd lo hi
  split at ha
  ·rename_i y d he
   cases hw:Nat.beq wd (U.wd y.τ)<;>simp only[hw,cond_false,cond_true] at ha
   ·cases ha
   ·cases ha
    have tT:=mc hw
    subst tT
    obtain⟨h1,h2⟩:=ca hx rfl
    subst h1
    exact((Me h (jx he)).sub h2 (hp _ (by simp))).fq (aaS (jx he))
  ·cases ha
 ·cases ha
theorem ai5{n:Nat}{P:Nat->Value->Prop}(h:∀j,j<n->∃u,P j u):∃us:List Value,us.length=n/\∀(j:Nat)(u:Value),us[j]? =some u->P j u:=by
 induction n with
 |zero=>exact⟨[],rfl,fun j u hu=>by simp at hu⟩
 |succ n ih=>
  obtain⟨us,h1,h2⟩:=ih (fun j hj=>h j (by omega))
  obtain⟨u,hu⟩:=h n (by omega)
  refine⟨us++[u],by simp[h1],fun j v hv=> ?_⟩
  by_cases hj:j<n
  ·rw[wg (by omega)] at hv;exact h2 j v hv
  ·rw[ya (by omega)] at hv
   have:j-us.length=0:=by
    rcases Nat.eq_zero_or_pos (j-us.length) with h|h
    ·exact h
    ·rw[nb (by simp;omega)] at hv;cases hv
   rw[this] at hv
   simp only[tJ,fM] at hv
   have X_:j=n:=by omega
   rw[X_,<-hv];exact hu
theorem RR{t:TypeId}{g:Bool}(h:E.isAgg t=some g):∃d,E.P.underlying t=some d/\d.isRow=g:=by
 unfold Env.isAgg at h
 split at h
 ·rename_i hu;cases h;exact⟨_,hu,rfl⟩
 ·rename_i hu;cases h;exact⟨_,hu,rfl⟩
 ·rename_i d h1 h2 hu
  cases h
  refine⟨d,hu,?_⟩
  cases d<;>first|rfl|exact(h1 _ rfl).elim|exact(h2 _ _ rfl).elim
 ·cases h
theorem Ry{t:TypeId}{g:Bool}{n b off:Nat}{us:List Value}(hs:E.size t=some n)(hg:E.isAgg t=some g)(MV:(g||Nat.beq n 1)=true)(hl:us.length=n)
  (hr:w.rangeAt b off us):∃v,(Instr.loadAt t (.pointer (some ⟨b,off,none⟩))).run E.P w=.ok v w/\(if g then v=.agg us.toArray else us=[v]):=by
 obtain⟨d,hu,hd⟩:=RR hg
 cases g with
 |true=>exact⟨_,run_loadAt_mid w b off t us d hr hu hd (by simpa[hl,Env.size] using hs),by simp⟩
 |false=>
  simp only[Fw] at MV
  have hn:=mc MV
  subst hn
  obtain⟨u,rfl⟩:∃u,us=[u]:=by
   match us,hl with
   |[u],_=>exact⟨u,rfl⟩
  have hc:=hr 0 u rfl
  simp only[HD] at hc
  refine⟨u,?_,by simp⟩
  have Pz:(Go.isAgg t).run E.P w=.ok false w:=by
   unfold Go.isAgg
   rw[Sem.run_bind,run_underlying hu w]
   cases d<;>simp_all
  simp[Instr.loadAt,Instr.sureAddr,loadVar,Pz,hc]
theorem QG{bad:Key->Bool}{xs:List (AC U)}{vs:List Value}(hl:xs.length=vs.length)(h:∀(i:Nat)(x:AC U)(v:Value),xs[i]? =some x->vs[i]? =some v->RD E w F kv fp bad x v):kU E w F kv fp bad xs vs:=⟨hl,h⟩
theorem RK{k:Key}{p:Path}{i wd:Nat}:∀{cs:List U.C}{j:Nat},(gy k p i wd cs j).length=cs.length
 |[],j=>rfl
 | .lit v::r,j=>by simp[gy,RK]
 | .sl _ _::r,j=>by simp[gy,RK]
theorem RL{k:Key}{p:Path}{i wd:Nat}:∀{cs:List U.C}{j n:Nat}{x:AC U},(gy k p i wd cs j)[n]? =some x->
  ∃c,cs[n]? =some c/\((∃v,c=.lit v/\x=.c (.lit v))\/(∃τ xs,c=.sl τ xs/\x=.ref k (p++[(i,wd,j+n)])))
 |[],j,n,x,h=>by simp[gy] at h
 | .lit v::r,j,n,x,h=>by
  cases n with
  |zero=>simp only[gy,tJ,fM] at h;exact⟨.lit v,rfl,.inl ⟨v,rfl,h.symm⟩⟩
  |succ n=>
   obtain⟨c,h1,h2⟩:=RL (by simpa[gy] using h)
   exact⟨c,by simpa using h1,by rwa[show j+(n+1)=j+1+n by omega]⟩
 | .sl τ xs::r,j,n,x,h=>by
  cases n with
  |zero=>simp only[gy,tJ,fM] at h;exact⟨.sl τ xs,rfl,.inr ⟨τ,xs,rfl,h.symm⟩⟩
  |succ n=>
   obtain⟨c,h1,h2⟩:=RL (by simpa[gy] using h)
   exact⟨c,by simpa using h1,by rwa[show j+(n+1)=j+1+n by omega]⟩
theorem aip(h:cG E pm F kv fp σ a w){o:Oper}{t:TypeId}{x:Operand}{sx:SV U}{y:AC U}{n:Nat}{g:Bool}{ks:List Key}{r:bX U}(ho:o.op=.load t x)
  (hx:RS E w F kv fp (bR σ) sx (a.eval x)) (hc:tG sx=some y) (hs:E.size t=some n) (hg:E.isAgg t=some g)
  (hr:loadAt (restrict σ.bH ks) σ.aR g n y=some r) (hp:∀p∈r.pre,p):∃sv ps,r=⟨some sv,[],[],[],ps⟩/\cy E F kv fp (bR σ) a w o sv:=by
 have hx:=kr hx hc
 have fin:∀(cs:List (AC U))(us:List Value)(b off:Nat),a.eval x=.pointer (some ⟨b,off,none⟩)->(g||Nat.beq n 1)=true->us.length=n->w.rangeAt b off us->kU E w F kv fp (bR σ) cs us->
   cy E F kv fp (bR σ) a w o (.v ⟨g,cs⟩):=by
  intro cs us b off hv MV hl mV Aj
  obtain⟨v,h1,h2⟩:=Ry hs hg MV hl mV
  refine⟨v,?_,us,Aj,h2⟩
  unfold execOp;simp only[ho,hv];exact gY h1
 unfold loadAt at hr
 cases MV:(g||Nat.beq n 1)<;>simp only[MV,cond_false,cond_true] at hr
 ·cases hr
 split at hr
 ·rename_i cs
  cases hb:Nat.ble n cs.length<;>simp only[hb,cond_false,cond_true] at hr
  ·cases hr
  ·cases hr
   refine⟨_,_,rfl,?_⟩
   have hb:=HG hb
   obtain⟨b,off,h1,h2,h3⟩:=ca hx rfl
   obtain⟨us,h4,h5⟩:=ai5 (n:=n) (P:=fun j u=>w.cell? ⟨b,off+j,none⟩=some u/\∀c,cs[j]? =some c->Rp E w F false c u []) (fun j hj=>by
    obtain⟨u,h4,h5⟩:=h3 j cs[j] (by rw[eW])
    exact⟨u,h4,fun c hc=>by rw[eW (by omega)] at hc;cases hc;exact h5⟩)
   refine fin _ us b off h1 MV h4 (fun j u hu=>(h5 j u hu).1) ⟨by simp[h4];omega,fun j y u hy hu=> ?_⟩
   rw[mw] at hy
   cases Ps:(cs.take n)[j]? with
   |none=>rw[Ps] at hy;cases hy
   |some c=>
    rw[Ps] at hy
    cases hy
    have akn:cs[j]? =some c:=by
     rw[oT] at Ps
     split at Ps
     ·exact Ps
     ·cases Ps
    have:=(h5 j u hu).2 c akn
    exact⟨this.fJ,.inr this⟩
 ·rename_i k off
  split at hr
  ·rename_i cs he
   cases hb:Nat.ble (off+n) cs.length<;>simp only[hb,cond_false,cond_true] at hr
   ·cases hr
   ·cases hr
    refine⟨_,_,rfl,?_⟩
    have hb:=HG hb
    obtain⟨b,h1,h2⟩:=ca hx rfl
    obtain⟨b',cur,e,h3,h4,h5,h6⟩:=h.cW k _ (jx he)
    rw[h1] at h3
    cases h3
    refine fin _ ((cur.toList.drop off).take n) b off h2 MV (by have:=h6.1;simp at this⊢;omega) (fun j u hu=> ?_) ⟨by have:=h6.1;simp at this⊢;omega,fun j y u hy hu=> ?_⟩
    ·rw[oT] at hu
     split at hu
     ·rw[Fx] at hu
      rw[cell_of_row w b _ cur e (0,0) h4]
      simpa using hu
     ·cases hu
    ·rw[oT] at hy hu
     split at hy
     ·rename_i fU
      rw[if_pos fU] at hu
      rw[Fx] at hy hu
      exact h6.2 _ y u hy hu
     ·cases hy
  ·cases hr
 ·rename_i k p i wd off
  split at hr
  ·rename_i z d he
   cases gB:fm (restrict σ.bH ks) σ.aR k p<;>simp only[gB,cond_false,cond_true] at hr
   ·cases hr
   ·split at hr
    ·rename_i ps b hw
     cases hb:(Nat.ble (off+n) (U.wd b.τ)&&Nat.beq wd (U.wd b.τ))<;>simp only[hb,cond_false,cond_true] at hr
     ·cases hr
     ·simp only[cH] at hb
      have tT:=mc hb.2
      have hle:=HG hb.1
      subst tT
      cases hr
      refine⟨_,_,rfl,?_⟩
      obtain⟨bb,oo,nn,cc,h1,h2⟩:=ca hx (FM gB he)
      have Kg:∀q∈ps,q:=fun q hq=>hp q (by simp[bX.cE,hq])
      have hi:i<b.xs.length:=hp _ (by simp[bX.cE])
      obtain⟨v',h3,h4⟩:=(Me h (jx he)).Zd hw Kg
      have O1:=h1.unique h3
      rw[<-O1] at h4 h3
      rcases h4.inv with⟨h0,_⟩|⟨b2,o2,c2,vs,h5,hF,hc,hv,Xu⟩
      ·rw[h0] at hi;simp at hi
      ·simp only[Value.slice.injEq,fM,Addr.mk.injEq,and_true] at h5
       obtain⟨⟨rfl,rfl⟩,rfl,rfl⟩:=h5
       have uR:=ff (d:=U.ee b.τ) hi
       have nN:∀j,j<U.wd b.τ->w.cell? ⟨bb,oo+(i*U.wd b.τ+j),none⟩=some (vs (i*U.wd b.τ+j)):=fun j hj=>by
        refine hv _ (fi uR (c:=(U.enc b.τ (b.xs.getD i (U.ee b.τ)))[j]'(by rw[U.cY];exact hj)) ?_)
        rw[eW]
       refine fin _ ((List.range n).map fun j=>vs (i*U.wd b.τ+(off+j))) bb (oo+(i*U.wd b.τ+off)) h2 MV (by simp) (fun j u hu=> ?_) ⟨?_,fun j y u hy hu=> ?_⟩
       ·rw[mw] at hu
        by_cases hj:j<n
        ·rw[KL hj] at hu
         simp only[D3,fM] at hu
         rw[<-hu,<-nN (off+j) (by omega)]
         congr 2;omega
        ·rw[nb (by simp;omega)] at hu;cases hu
       ·rw[RK];simp[U.cY];omega
       ·obtain⟨c,Eg,MY⟩:=RL hy
        have hj:j<n:=by
         rw[oT] at Eg
         split at Eg
         ·assumption
         ·cases Eg
        have ako:(U.enc b.τ (b.xs.getD i (U.ee b.τ)))[off+j]? =some c:=by
         rw[oT,if_pos hj,Fx] at Eg;exact Eg
        have rf:u=vs (i*U.wd b.τ+(off+j)):=by
         rw[mw,KL hj] at hu
         simpa using hu.symm
        have jz:=Xu i _ (off+j) c uR ako
        rw[<-rf] at jz
        rcases MY with⟨v,rfl,rfl⟩|⟨τ,xs,rfl,rfl⟩
        ·refine⟨jz.fJ,.inr ?_⟩
         generalize hm:false=m at jz
         generalize hcc:(Cell.lit v:U.C)=c at jz
         cases jz with
         |lit m v' O1=>cases hcc;exact .lit _ _ O1
         |nil=>cases hcc
         |shr=>cases hcc
        ·refine⟨jz.fJ,.inr ?_⟩
         simp only[RA]
         refine h1.append ⟨bb,oo,_,_,u,rfl,hF,?_,rfl⟩
         rw[rf,<-nN (off+j) (by omega)]
    ·cases hr
  ·cases hr
 ·cases hr
end AM
