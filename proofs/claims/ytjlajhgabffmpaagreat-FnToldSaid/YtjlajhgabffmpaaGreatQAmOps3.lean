/- THE ABSTRACT MACHINE: reading memory. -/
import Derived.Test.YtjlajhgabffmpaaGreatQAmOps2
namespace AM
set_option linter.unusedVariables false
open Go
variable{U:lu}{E:Env U}{pm:Pm}
variable{F:Nat->Prop}{kv:Key->Value}{fp:Key->List Nat}{σ:ai U}{a:Act}{w:World}
def FA(σ:ai U)(F:Nat->Prop)(fp:Key->List Nat)(b:Nat):Prop:=F b\/∃k e,σ.bM k=some e/\b∈fp k
theorem Rp.fZ{w:World}{F F':Nat->Prop}{c:U.C}{v:Value}(h:Rp E w F false c v [])(hF:∀b,F b->F' b):Rp E w F' false c v []:=
 h.lz hF (by simp)
theorem Pp(h:cQ E pm F kv fp σ a w){k:Key}{x:jh U}{d:Bool}(he:σ.bM k=some (.arr x d)):
  Rp E w (fun b=>F b\/b∈fp k) false (.sl x.τ x.xs) (kv k) []:=
 fi.lz (h.dV k _ he) (fun b hb=> .inl hb) (fun b hb=> .inr hb)
theorem eW.Q8{dead:Nat->Bool}{x:jh U}{v:Value}{l:List Nat}(h:eW E w F dead x v l):∃ad c,v=.slice ad x.xs.length c/\x.xs.length<=c:=by
 rcases h with⟨h0,⟨ad,rfl⟩,_⟩|⟨b,cap,cur,vs,ic,rfl,_,hc,hm,_⟩
 ·exact⟨ad,0,by simp[h0],by simp[h0]⟩
 ·exact⟨_,_,rfl,hc⟩
theorem eW.nav{dead:Nat->Bool}{x b:jh U}{v:Value}{l:List Nat}{i wd j:Nat}{p:Path}{ps:List Prop}(h:eW E w F dead x v l)(hw:walk ((i,wd,j)::p) x=some (ps,b))(hp:∀q∈ps,q)(Ut:dead i=false):
  ∃v',pe w (fun c=>F c\/c∈l) v ((i,wd,j)::p) v'/\Rp E w (fun c=>F c\/c∈l) false (.sl b.τ b.xs) v' []:=by
 obtain⟨τ,xs⟩:=x
 simp only[walk] at hw
 cases vt:Nat.beq wd (U.wd τ)<;>simp only[vt,cond_false,cond_true] at hw
 ·cases hw
 have Sg:wd=U.wd τ:=nc vt
 subst Sg
 split at hw
 rotate_left
 ·cases hw
 rename_i τ1 ys hx
 split at hw
 rotate_left
 ·cases hw
 rename_i Kz b' hw'
 simp only[gJ,pb] at hw
 obtain⟨rfl,rfl⟩:=hw
 have hi:i<xs.length:=hp _ (by simp)
 have wg:=fM (d:=U.fq τ) hi
 rcases h with⟨h0,_⟩|⟨g,cap,cur,vs,ic,rfl,hb,hc,hm,hs,hv,hr,kY,rfl⟩
 ·simp only at h0;subst h0;simp at hi
 ·have kk:=hr i _ j _ Ut wg hx
  have gZ:=fU wg hx
  have hsh:=kk.lz (F':=fun c=>F c\/c∈g::(List.range (xs.length*U.wd τ)).flatMap ic) (fun b hb=> .inl hb) (fun b hb=> .inr (cI _ (ow.2 ⟨_,pq.2 gZ,hb⟩)))
  obtain⟨v',h1,h2⟩:=Rp.nav (a:=⟨τ1,ys⟩) hsh hw' (fun q hq=>hp q (by simp[hq]))
  refine⟨v',⟨g,0,_,cap,_,rfl,.inr (by simp),?_,h1⟩,h2⟩
  simp only[World.cell?,hb,vf]
  simpa using(hv _ gZ).1
theorem acS{k:Key}{e:i_ U}(he:σ.bM k=some e):∀b,(F b\/b∈fp k)->FA σ F fp b:=
 fun b hb=>hb.elim .inl (fun hb=> .inr ⟨k,e,he,hb⟩)
theorem HJ{ks:List Key}{k:Key}{p:Path}{e:i_ U}(hc:fW (restrict σ.bM ks) σ.aN k p=true)(he:restrict σ.bM ks k=some e):
  (!p.isEmpty&&bR σ k)=false:=by
 unfold fW at hc
 simp only[FL,cO,ra] at hc
 rcases hc with hc|⟨_,hc⟩
 ·simp[hc]
 ·simp[bR,hc,kj he]
theorem Rp.sub{w:World}{F:Nat->Prop}{τ:U.Ty}{xs:List (U.T τ)}{v:Value}(h:Rp E w F false (.sl τ xs) v []){lo hi:Nat}(h1:lo<=hi)(h2:hi<=xs.length):
  Rp E w F false (.sl τ ((xs.take hi).drop lo)) (rA (U.wd τ) lo hi v) []:=by
 have hlen:((xs.take hi).drop lo).length=hi-lo:=by simp;omega
 rcases h.inv with⟨h0,ad,c,rfl⟩|⟨b,off,cap,vs,rfl,hF,hc,hv,hr⟩
 ·subst h0
  simp only[fG] at h2
  have:lo=0:=by omega
  have:hi=0:=by omega
  subst_vars
  simp only[List.take_nil,List.drop_nil,rA,Nat.sub_zero]
  exact .nil _ _ _ _ (by simp)
 ·by_cases h3:hi=lo
  ·subst h3
   have:(xs.take hi).drop hi=[]:=FU (by rw[hlen];omega)
   rw[this]
   simp only[rA,YV]
   exact .nil _ _ _ _ (by simp)
  ·have fg:¬cap=lo:=by omega
   have Qf:(⟨b,off,none⟩:Addr).add (lo*U.wd τ)=⟨b,off+lo*U.wd τ,none⟩:=Addr.add_mid _ _ _
   have:=Rp.shr (E:=E) (w:=w) (F:=F) τ ((xs.take hi).drop lo) b (off+lo*U.wd τ) (cap-lo) (fun i=>vs (lo*U.wd τ+i)) hF (by rw[hlen];omega) (by rw[hlen];have:=h.len;omega)
    (fun i qh=>by
     rw[QX]
     refine hv _ ?_
     rw[hlen] at qh
     have:lo*U.wd τ+(hi-lo)*U.wd τ=hi*U.wd τ:=by rw[<-xv];congr 1;omega
     have:hi*U.wd τ<=xs.length*U.wd τ:=AI _ h2
     omega)
    (fun i x j c hx hj=>by
     have qh:i<hi-lo:=by
      rcases pa i (hi-lo) with h|h
      ·exact h
      ·rw[ox (by rw[hlen];exact h)] at hx;cases hx
     have Uo:xs[lo+i]? =some x:=by
      rw[Hu,qa] at hx
      rw[if_pos (by omega)] at hx
      exact hx
     have:=hr (lo+i) x j c Uo hj
     rw[xv,QX] at this
     exact this)
   simp only[rA,fg,if_false,FR,Qf]
   rw[hlen] at this
   exact this
theorem Z2(h:cQ E pm F kv fp σ a w){ks:List Key}{x:AC U}{v:Value}{ps:List Prop}{b:jh U}
  (ha:qN (restrict σ.bM ks) σ.aN x=some (ps,b)) (hp:∀p∈ps,p) (hx:RD E w F kv fp (bR σ) x v):Rp E w (FA σ F fp) false (.sl b.τ b.xs) v []:=by
 unfold qN at ha
 split at ha
 ·cases ha
  exact Rp.fZ (cw hx rfl) (fun b hb=> .inl hb)
 ·cases ha
  exact Rp.fZ (cw hx rfl).1 (fun b hb=> .inl hb)
 ·rename_i k p
  split at ha
  ·rename_i y d he
   cases hc:fW (restrict σ.bM ks) σ.aN k p<;>simp only[hc,cond_false,cond_true] at ha
   ·cases ha
   ·have hn:=cw hx (HJ hc he)
    obtain⟨v',h1,h2⟩:=(Pp h (kj he)).nav ha hp
    have:v=v':=hn.unique h1
    subst this
    exact h2.fZ (acS (kj he))
  ·cases ha
 ·rename_i k wd lo hi
  split at ha
  ·rename_i y d he
   cases hw:Nat.beq wd (U.wd y.τ)<;>simp only[hw,cond_false,cond_true] at ha
   ·cases ha
   ·cases ha
    have vt:=nc hw
    subst vt
    obtain⟨h1,h2⟩:=cw hx rfl
    subst h1
    exact((Pp h (kj he)).sub h2 (hp _ (by simp))).fZ (acS (kj he))
  ·cases ha
 ·cases ha
theorem ali{n:Nat}{P:Nat->Value->Prop}(h:∀j,j<n->∃u,P j u):∃us:List Value,us.length=n/\∀(j:Nat)(u:Value),us[j]? =some u->P j u:=by
 induction n with
 |zero=>exact⟨[],rfl,fun j u hu=>by simp at hu⟩
 |succ n ih=>
  obtain⟨us,h1,h2⟩:=ih (fun j hj=>h j (by omega))
  obtain⟨u,hu⟩:=h n (by omega)
  refine⟨us++[u],by simp[h1],fun j v hv=> ?_⟩
  by_cases hj:j<n
  ·rw[xx (by omega)] at hv;exact h2 j v hv
  ·rw[zu (by omega)] at hv
   have:j-us.length=0:=by
    rcases Nat.eq_zero_or_pos (j-us.length) with h|h
    ·exact h
    ·rw[ox (by simp;omega)] at hv;cases hv
   rw[this] at hv
   simp only[vh,gJ] at hv
   have hjn:j=n:=by omega
   rw[hjn,<-hv];exact hu
theorem Vk{t:TypeId}{g:Bool}(h:E.isAgg t=some g):∃d,E.P.underlying t=some d/\d.isRow=g:=by
 unfold Env.isAgg at h
 split at h
 ·rename_i hu;cases h;exact⟨_,hu,rfl⟩
 ·rename_i hu;cases h;exact⟨_,hu,rfl⟩
 ·rename_i d h1 h2 hu
  cases h
  refine⟨d,hu,?_⟩
  cases d<;>first|rfl|exact(h1 _ rfl).elim|exact(h2 _ _ rfl).elim
 ·cases h
theorem U5{t:TypeId}{g:Bool}{n b off:Nat}{us:List Value}(hs:E.size t=some n)(hg:E.isAgg t=some g)(P_:(g||Nat.beq n 1)=true)(hl:us.length=n)
  (hr:w.rangeAt b off us):∃v,(Instr.loadAt t (.pointer (some ⟨b,off,none⟩))).run E.P w=.ok v w/\(if g then v=.agg us.toArray else us=[v]):=by
 obtain⟨d,hu,hd⟩:=Vk hg
 cases g with
 |true=>exact⟨_,run_loadAt_mid w b off t us d hr hu hd (by simpa[hl,Env.size] using hs),by simp⟩
 |false=>
  simp only[Gl] at P_
  have hn:=nc P_
  subst hn
  obtain⟨u,rfl⟩:∃u,us=[u]:=by
   match us,hl with
   |[u],_=>exact⟨u,rfl⟩
  have hc:=hr 0 u rfl
  simp only[JV] at hc
  refine⟨u,?_,by simp⟩
  have SO:(Go.isAgg t).run E.P w=.ok false w:=by
   unfold Go.isAgg
   rw[Sem.run_bind,run_underlying hu w]
   cases d<;>simp_all
  simp[Instr.loadAt,Instr.sureAddr,loadVar,SO,hc]
theorem Uc{bad:Key->Bool}{xs:List (AC U)}{vs:List Value}(hl:xs.length=vs.length)(h:∀(i:Nat)(x:AC U)(v:Value),xs[i]? =some x->vs[i]? =some v->RD E w F kv fp bad x v):l8 E w F kv fp bad xs vs:=⟨hl,h⟩
theorem Vd{k:Key}{p:Path}{i wd:Nat}:∀{cs:List U.C}{j:Nat},(ig k p i wd cs j).length=cs.length
 |[],j=>rfl
 | .lit v::r,j=>by simp[ig,Vd]
 | .sl _ _::r,j=>by simp[ig,Vd]
theorem Ve{k:Key}{p:Path}{i wd:Nat}:∀{cs:List U.C}{j n:Nat}{x:AC U},(ig k p i wd cs j)[n]? =some x->
  ∃c,cs[n]? =some c/\((∃v,c=.lit v/\x=.c (.lit v))\/(∃τ xs,c=.sl τ xs/\x=.ref k (p++[(i,wd,j+n)])))
 |[],j,n,x,h=>by simp[ig] at h
 | .lit v::r,j,n,x,h=>by
  cases n with
  |zero=>simp only[ig,vh,gJ] at h;exact⟨.lit v,rfl,.inl ⟨v,rfl,h.symm⟩⟩
  |succ n=>
   obtain⟨c,h1,h2⟩:=Ve (by simpa[ig] using h)
   exact⟨c,by simpa using h1,by rwa[show j+(n+1)=j+1+n by omega]⟩
 | .sl τ xs::r,j,n,x,h=>by
  cases n with
  |zero=>simp only[ig,vh,gJ] at h;exact⟨.sl τ xs,rfl,.inr ⟨τ,xs,rfl,h.symm⟩⟩
  |succ n=>
   obtain⟨c,h1,h2⟩:=Ve (by simpa[ig] using h)
   exact⟨c,by simpa using h1,by rwa[show j+(n+1)=j+1+n by omega]⟩
theorem akE(h:cQ E pm F kv fp σ a w){o:Oper}{t:TypeId}{x:Operand}{sx:SV U}{y:AC U}{n:Nat}{g:Bool}{ks:List Key}{r:cm U}(ho:o.op=.load t x)
  (hx:RS E w F kv fp (bR σ) sx (a.eval x)) (hc:u5 sx=some y) (hs:E.size t=some n) (hg:E.isAgg t=some g)
  (hr:loadAt (restrict σ.bM ks) σ.aN g n y=some r) (hp:∀p∈r.pre,p):∃sv ps,r=⟨some sv,[],[],[],ps⟩/\cK E F kv fp (bR σ) a w o sv:=by
 have hx:=li hx hc
 have fin:∀(cs:List (AC U))(us:List Value)(b off:Nat),a.eval x=.pointer (some ⟨b,off,none⟩)->(g||Nat.beq n 1)=true->us.length=n->w.rangeAt b off us->l8 E w F kv fp (bR σ) cs us->
   cK E F kv fp (bR σ) a w o (.v ⟨g,cs⟩):=by
  intro cs us b off hv P_ hl pI BQ
  obtain⟨v,h1,h2⟩:=U5 hs hg P_ hl pI
  refine⟨v,?_,us,BQ,h2⟩
  unfold execOp;simp only[ho,hv];exact iQ h1
 unfold loadAt at hr
 cases P_:(g||Nat.beq n 1)<;>simp only[P_,cond_false,cond_true] at hr
 ·cases hr
 split at hr
 ·rename_i cs
  cases hb:Nat.ble n cs.length<;>simp only[hb,cond_false,cond_true] at hr
  ·cases hr
  ·cases hr
   refine⟨_,_,rfl,?_⟩
   have hb:=JZ hb
   obtain⟨b,off,h1,h2,h3⟩:=cw hx rfl
   obtain⟨us,h4,h5⟩:=ali (n:=n) (P:=fun j u=>w.cell? ⟨b,off+j,none⟩=some u/\∀c,cs[j]? =some c->Rp E w F false c u []) (fun j hj=>by
    obtain⟨u,h4,h5⟩:=h3 j cs[j] (by rw[fH])
    exact⟨u,h4,fun c hc=>by rw[fH (by omega)] at hc;cases hc;exact h5⟩)
   refine fin _ us b off h1 P_ h4 (fun j u hu=>(h5 j u hu).1) ⟨by simp[h4];omega,fun j y u hy hu=> ?_⟩
   rw[nO] at hy
   cases SH:(cs.take n)[j]? with
   |none=>rw[SH] at hy;cases hy
   |some c=>
    rw[SH] at hy
    cases hy
    have amC:cs[j]? =some c:=by
     rw[qa] at SH
     split at SH
     ·exact SH
     ·cases SH
    have:=(h5 j u hu).2 c amC
    exact⟨this.gD,.inr this⟩
 ·rename_i k off
  split at hr
  ·rename_i cs he
   cases hb:Nat.ble (off+n) cs.length<;>simp only[hb,cond_false,cond_true] at hr
   ·cases hr
   ·cases hr
    refine⟨_,_,rfl,?_⟩
    have hb:=JZ hb
    obtain⟨b,h1,h2⟩:=cw hx rfl
    obtain⟨b',cur,e,h3,h4,h5,h6⟩:=h.dV k _ (kj he)
    rw[h1] at h3
    cases h3
    refine fin _ ((cur.toList.drop off).take n) b off h2 P_ (by have:=h6.1;simp at this⊢;omega) (fun j u hu=> ?_) ⟨by have:=h6.1;simp at this⊢;omega,fun j y u hy hu=> ?_⟩
    ·rw[qa] at hu
     split at hu
     ·rw[Hu] at hu
      rw[cell_of_row w b _ cur e (0,0) h4]
      simpa using hu
     ·cases hu
    ·rw[qa] at hy hu
     split at hy
     ·rename_i gZ
      rw[if_pos gZ] at hu
      rw[Hu] at hy hu
      exact h6.2 _ y u hy hu
     ·cases hy
  ·cases hr
 ·rename_i k p i wd off
  split at hr
  ·rename_i z d he
   cases iH:fW (restrict σ.bM ks) σ.aN k p<;>simp only[iH,cond_false,cond_true] at hr
   ·cases hr
   ·split at hr
    ·rename_i ps b hw
     cases hb:(Nat.ble (off+n) (U.wd b.τ)&&Nat.beq wd (U.wd b.τ))<;>simp only[hb,cond_false,cond_true] at hr
     ·cases hr
     ·simp only[cO] at hb
      have vt:=nc hb.2
      have hle:=JZ hb.1
      subst vt
      cases hr
      refine⟨_,_,rfl,?_⟩
      obtain⟨bb,oo,nn,cc,h1,h2⟩:=cw hx (HJ iH he)
      have M':∀q∈ps,q:=fun q hq=>hp q (by simp[cm.cP,hq])
      have hi:i<b.xs.length:=hp _ (by simp[cm.cP])
      obtain⟨v',h3,h4⟩:=(Pp h (kj he)).nav hw M'
      have Si:=h1.unique h3
      rw[<-Si] at h4 h3
      rcases h4.inv with⟨h0,_⟩|⟨b2,o2,c2,vs,h5,hF,hc,hv,hrr⟩
      ·rw[h0] at hi;simp at hi
      ·simp only[Value.slice.injEq,gJ,Addr.mk.injEq,and_true] at h5
       obtain⟨⟨rfl,rfl⟩,rfl,rfl⟩:=h5
       have wg:=fM (d:=U.fq b.τ) hi
       have qE:∀j,j<U.wd b.τ->w.cell? ⟨bb,oo+(i*U.wd b.τ+j),none⟩=some (vs (i*U.wd b.τ+j)):=fun j hj=>by
        refine hv _ (fU wg (c:=(U.enc b.τ (b.xs.getD i (U.fq b.τ)))[j]'(by rw[U.dK];exact hj)) ?_)
        rw[fH]
       refine fin _ ((List.range n).map fun j=>vs (i*U.wd b.τ+(off+j))) bb (oo+(i*U.wd b.τ+off)) h2 P_ (by simp) (fun j u hu=> ?_) ⟨?_,fun j y u hy hu=> ?_⟩
       ·rw[nO] at hu
        by_cases hj:j<n
        ·rw[NN hj] at hu
         simp only[FR,gJ] at hu
         rw[<-hu,<-qE (off+j) (by omega)]
         congr 2;omega
        ·rw[ox (by simp;omega)] at hu;cases hu
       ·rw[Vd];simp[U.dK];omega
       ·obtain⟨c,Gf,Qd⟩:=Ve hy
        have hj:j<n:=by
         rw[qa] at Gf
         split at Gf
         ·assumption
         ·cases Gf
        have amD:(U.enc b.τ (b.xs.getD i (U.fq b.τ)))[off+j]? =some c:=by
         rw[qa,if_pos hj,Hu] at Gf;exact Gf
        have sN:u=vs (i*U.wd b.τ+(off+j)):=by
         rw[nO,NN hj] at hu
         simpa using hu.symm
        have kk:=hrr i _ (off+j) c wg amD
        rw[<-sN] at kk
        rcases Qd with⟨v,rfl,rfl⟩|⟨τ,xs,rfl,rfl⟩
        ·refine⟨kk.gD,.inr ?_⟩
         generalize hm:false=m at kk
         generalize hcc:(Cell.lit v:U.C)=c at kk
         cases kk with
         |lit m v' Si=>cases hcc;exact .lit _ _ Si
         |nil=>cases hcc
         |shr=>cases hcc
        ·refine⟨kk.gD,.inr ?_⟩
         simp only[RA]
         refine h1.append ⟨bb,oo,_,_,u,rfl,hF,?_,rfl⟩
         rw[sN,<-qE (off+j) (by omega)]
    ·cases hr
  ·cases hr
 ·cases hr
end AM
