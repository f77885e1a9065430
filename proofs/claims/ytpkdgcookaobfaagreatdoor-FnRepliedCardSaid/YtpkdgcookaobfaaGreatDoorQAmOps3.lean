/- THE ABSTRACT MACHINE: reading memory. -/
import Derived.Test.YtpkdgcookaobfaaGreatDoorQAmOps2
namespace AM
set_option linter.unusedVariables false
open Go
variable{U:lz}{E:Env U}{pm:Pm}
variable{F:Nat->Prop}{kv:Key->Value}{fp:Key->List Nat}{σ:ak U}{a:Act}{w:World}
def FA(σ:ak U)(F:Nat->Prop)(fp:Key->List Nat)(b:Nat):Prop:=F b\/∃k e,σ.bO k=some e/\b∈fp k
theorem Rp.fT{w:World}{F F':Nat->Prop}{c:U.C}{v:Value}(h:Rp E w F false c v [])(hF:∀b,F b->F' b):Rp E w F' false c v []:=
 h.lD hF (by simp)
theorem Pk(h:cM E pm F kv fp σ a w){k:Key}{x:fu U}{d:Bool}(he:σ.bO k=some (.arr x d)):
  Rp E w (fun b=>F b\/b∈fp k) false (.sl x.τ x.xs) (kv k) []:=
 e7.lD (h.dH k _ he) (fun b hb=> .inl hb) (fun b hb=> .inr hb)
theorem eE.Q0{dead:Nat->Bool}{x:fu U}{v:Value}{l:List Nat}(h:eE E w F dead x v l):∃ad c,v=.slice ad x.xs.length c/\x.xs.length<=c:=by
 rcases h with⟨h0,⟨ad,rfl⟩,_⟩|⟨b,cap,cur,vs,hZ,rfl,_,hc,hm,_⟩
 ·exact⟨ad,0,by simp[h0],by simp[h0]⟩
 ·exact⟨_,_,rfl,hc⟩
theorem eE.nav{dead:Nat->Bool}{x b:fu U}{v:Value}{l:List Nat}{i wd j:Nat}{p:Path}{ps:List Prop}(h:eE E w F dead x v l)(hw:walk ((i,wd,j)::p) x=some (ps,b))(hp:∀q∈ps,q)(Uu:dead i=false):
  ∃v',pu w (fun c=>F c\/c∈l) v ((i,wd,j)::p) v'/\Rp E w (fun c=>F c\/c∈l) false (.sl b.τ b.xs) v' []:=by
 obtain⟨τ,xs⟩:=x
 simp only[walk] at hw
 cases vw:Nat.beq wd (U.wd τ)<;>simp only[vw,cond_false,cond_true] at hw
 ·cases hw
 have Sb:wd=U.wd τ:=nk vw
 subst Sb
 split at hw
 rotate_left
 ·cases hw
 rename_i τ1 ys hx
 split at hw
 rotate_left
 ·cases hw
 rename_i KH b' hw'
 simp only[gA,pq] at hw
 obtain⟨rfl,rfl⟩:=hw
 have hi:i<xs.length:=hp _ (by simp)
 have wl:=fF (d:=U.e6 τ) hi
 rcases h with⟨h0,_⟩|⟨g,cap,cur,vs,hZ,rfl,hb,hc,hm,hs,hv,hr,kY,rfl⟩
 ·simp only at h0;subst h0;simp at hi
 ·have j6:=hr i _ j _ Uu wl hx
  have gI:=fP wl hx
  have hsh:=j6.lD (F':=fun c=>F c\/c∈g::(List.range (xs.length*U.wd τ)).flatMap hZ) (fun b hb=> .inl hb) (fun b hb=> .inr (fA _ (oQ.2 ⟨_,pD.2 gI,hb⟩)))
  obtain⟨v',h1,h2⟩:=Rp.nav (a:=⟨τ1,ys⟩) hsh hw' (fun q hq=>hp q (by simp[hq]))
  refine⟨v',⟨g,0,_,cap,_,rfl,.inr (by simp),?_,h1⟩,h2⟩
  simp only[World.cell?,hb,vk]
  simpa using(hv _ gI).1
theorem adj{k:Key}{e:iN U}(he:σ.bO k=some e):∀b,(F b\/b∈fp k)->FA σ F fp b:=
 fun b hb=>hb.elim .inl (fun hb=> .inr ⟨k,e,he,hb⟩)
theorem HR{ks:List Key}{k:Key}{p:Path}{e:iN U}(hc:fR (restrict σ.bO ks) σ.aT k p=true)(he:restrict σ.bO ks k=some e):
  (!p.isEmpty&&bW σ k)=false:=by
 unfold fR at hc
 simp only[FI,cJ,ru] at hc
 rcases hc with hc|⟨_,hc⟩
 ·simp[hc]
 ·simp[bW,hc,j0 he]
theorem Rp.sub{w:World}{F:Nat->Prop}{τ:U.Ty}{xs:List (U.T τ)}{v:Value}(h:Rp E w F false (.sl τ xs) v []){lo hi:Nat}(h1:lo<=hi)(h2:hi<=xs.length):
  Rp E w F false (.sl τ ((xs.take hi).drop lo)) (rL (U.wd τ) lo hi v) []:=by
 have hlen:((xs.take hi).drop lo).length=hi-lo:=by simp;omega
 rcases h.inv with⟨h0,ad,c,rfl⟩|⟨b,off,cap,vs,rfl,hF,hc,hv,hr⟩
 ·subst h0
  simp only[fv] at h2
  have:lo=0:=by omega
  have:hi=0:=by omega
  subst_vars
  simp only[List.take_nil,List.drop_nil,rL,Nat.sub_zero]
  exact .nil _ _ _ _ (by simp)
 ·by_cases h3:hi=lo
  ·subst h3
   have:(xs.take hi).drop hi=[]:=FL (by rw[hlen];omega)
   rw[this]
   simp only[rL,Za]
   exact .nil _ _ _ _ (by simp)
  ·have eZ:¬cap=lo:=by omega
   have P8:(⟨b,off,none⟩:Addr).add (lo*U.wd τ)=⟨b,off+lo*U.wd τ,none⟩:=Addr.add_mid _ _ _
   have:=Rp.shr (E:=E) (w:=w) (F:=F) τ ((xs.take hi).drop lo) b (off+lo*U.wd τ) (cap-lo) (fun i=>vs (lo*U.wd τ+i)) hF (by rw[hlen];omega) (by rw[hlen];have:=h.len;omega)
    (fun i qw=>by
     rw[QO]
     refine hv _ ?_
     rw[hlen] at qw
     have:lo*U.wd τ+(hi-lo)*U.wd τ=hi*U.wd τ:=by rw[<-xy];congr 1;omega
     have:hi*U.wd τ<=xs.length*U.wd τ:=AL _ h2
     omega)
    (fun i x j c hx hj=>by
     have qw:i<hi-lo:=by
      rcases pe i (hi-lo) with h|h
      ·exact h
      ·rw[od (by rw[hlen];exact h)] at hx;cases hx
     have Uo:xs[lo+i]? =some x:=by
      rw[HB,qn] at hx
      rw[if_pos (by omega)] at hx
      exact hx
     have:=hr (lo+i) x j c Uo hj
     rw[xy,QO] at this
     exact this)
   simp only[rL,eZ,if_false,FT,P8]
   rw[hlen] at this
   exact this
theorem aak(h:cM E pm F kv fp σ a w){ks:List Key}{x:AC U}{v:Value}{ps:List Prop}{b:fu U}
  (ha:rb (restrict σ.bO ks) σ.aT x=some (ps,b)) (hp:∀p∈ps,p) (hx:RD E w F kv fp (bW σ) x v):Rp E w (FA σ F fp) false (.sl b.τ b.xs) v []:=by
 unfold rb at ha
 split at ha
 ·cases ha
  exact Rp.fT (cw hx rfl) (fun b hb=> .inl hb)
 ·cases ha
  exact Rp.fT (cw hx rfl).1 (fun b hb=> .inl hb)
 ·rename_i k p
  split at ha
  ·rename_i y d he
   cases hc:fR (restrict σ.bO ks) σ.aT k p<;>simp only[hc,cond_false,cond_true] at ha
   ·cases ha
   ·have hn:=cw hx (HR hc he)
    obtain⟨v',h1,h2⟩:=(Pk h (j0 he)).nav ha hp
    have:v=v':=hn.unique h1
    subst this
    exact h2.fT (adj (j0 he))
  ·cases ha
 ·rename_i k wd lo hi
  split at ha
  ·rename_i y d he
   cases hw:Nat.beq wd (U.wd y.τ)<;>simp only[hw,cond_false,cond_true] at ha
   ·cases ha
   ·cases ha
    have vw:=nk hw
    subst vw
    obtain⟨h1,h2⟩:=cw hx rfl
    subst h1
    exact((Pk h (j0 he)).sub h2 (hp _ (by simp))).fT (adj (j0 he))
  ·cases ha
 ·cases ha
theorem al9{n:Nat}{P:Nat->Value->Prop}(h:∀j,j<n->∃u,P j u):∃us:List Value,us.length=n/\∀(j:Nat)(u:Value),us[j]? =some u->P j u:=by
 induction n with
 |zero=>exact⟨[],rfl,fun j u hu=>by simp at hu⟩
 |succ n ih=>
  obtain⟨us,h1,h2⟩:=ih (fun j hj=>h j (by omega))
  obtain⟨u,hu⟩:=h n (by omega)
  refine⟨us++[u],by simp[h1],fun j v hv=> ?_⟩
  by_cases hj:j<n
  ·rw[xA (by omega)] at hv;exact h2 j v hv
  ·rw[zC (by omega)] at hv
   have:j-us.length=0:=by
    rcases Nat.eq_zero_or_pos (j-us.length) with h|h
    ·exact h
    ·rw[od (by simp;omega)] at hv;cases hv
   rw[this] at hv
   simp only[vn,gA] at hv
   have hjn:j=n:=by omega
   rw[hjn,<-hv];exact hu
theorem Vn{t:TypeId}{g:Bool}(h:E.isAgg t=some g):∃d,E.P.underlying t=some d/\d.isRow=g:=by
 unfold Env.isAgg at h
 split at h
 ·rename_i hu;cases h;exact⟨_,hu,rfl⟩
 ·rename_i hu;cases h;exact⟨_,hu,rfl⟩
 ·rename_i d h1 h2 hu
  cases h
  refine⟨d,hu,?_⟩
  cases d<;>first|rfl|exact(h1 _ rfl).elim|exact(h2 _ _ rfl).elim
 ·cases h
theorem U8{t:TypeId}{g:Bool}{n b off:Nat}{us:List Value}(hs:E.size t=some n)(hg:E.isAgg t=some g)(P0:(g||Nat.beq n 1)=true)(hl:us.length=n)
  (hr:w.rangeAt b off us):∃v,(Instr.loadAt t (.pointer (some ⟨b,off,none⟩))).run E.P w=.ok v w/\(if g then v=.agg us.toArray else us=[v]):=by
 obtain⟨d,hu,hd⟩:=Vn hg
 cases g with
 |true=>exact⟨_,run_loadAt_mid w b off t us d hr hu hd (by simpa[hl,Env.size] using hs),by simp⟩
 |false=>
  simp only[Gk] at P0
  have hn:=nk P0
  subst hn
  obtain⟨u,rfl⟩:∃u,us=[u]:=by
   match us,hl with
   |[u],_=>exact⟨u,rfl⟩
  have hc:=hr 0 u rfl
  simp only[J6] at hc
  refine⟨u,?_,by simp⟩
  have SM:(Go.isAgg t).run E.P w=.ok false w:=by
   unfold Go.isAgg
   rw[Sem.run_bind,run_underlying hu w]
   cases d<;>simp_all
  simp[Instr.loadAt,Instr.sureAddr,loadVar,SM,hc]
theorem T_{bad:Key->Bool}{xs:List (AC U)}{vs:List Value}(hl:xs.length=vs.length)(h:∀(i:Nat)(x:AC U)(v:Value),xs[i]? =some x->vs[i]? =some v->RD E w F kv fp bad x v):mc E w F kv fp bad xs vs:=⟨hl,h⟩
theorem Vg{k:Key}{p:Path}{i wd:Nat}:∀{cs:List U.C}{j:Nat},(ic k p i wd cs j).length=cs.length
 |[],j=>rfl
 | .lit v::r,j=>by simp[ic,Vg]
 | .sl _ _::r,j=>by simp[ic,Vg]
theorem Vh{k:Key}{p:Path}{i wd:Nat}:∀{cs:List U.C}{j n:Nat}{x:AC U},(ic k p i wd cs j)[n]? =some x->
  ∃c,cs[n]? =some c/\((∃v,c=.lit v/\x=.c (.lit v))\/(∃τ xs,c=.sl τ xs/\x=.ref k (p++[(i,wd,j+n)])))
 |[],j,n,x,h=>by simp[ic] at h
 | .lit v::r,j,n,x,h=>by
  cases n with
  |zero=>simp only[ic,vn,gA] at h;exact⟨.lit v,rfl,.inl ⟨v,rfl,h.symm⟩⟩
  |succ n=>
   obtain⟨c,h1,h2⟩:=Vh (by simpa[ic] using h)
   exact⟨c,by simpa using h1,by rwa[show j+(n+1)=j+1+n by omega]⟩
 | .sl τ xs::r,j,n,x,h=>by
  cases n with
  |zero=>simp only[ic,vn,gA] at h;exact⟨.sl τ xs,rfl,.inr ⟨τ,xs,rfl,h.symm⟩⟩
  |succ n=>
   obtain⟨c,h1,h2⟩:=Vh (by simpa[ic] using h)
   exact⟨c,by simpa using h1,by rwa[show j+(n+1)=j+1+n by omega]⟩
theorem als(h:cM E pm F kv fp σ a w){o:Oper}{t:TypeId}{x:Operand}{sx:SV U}{y:AC U}{n:Nat}{g:Bool}{ks:List Key}{r:cn U}(ho:o.op=.load t x)
  (hx:RS E w F kv fp (bW σ) sx (a.eval x)) (hc:vd sx=some y) (hs:E.size t=some n) (hg:E.isAgg t=some g)
  (hr:loadAt (restrict σ.bO ks) σ.aT g n y=some r) (hp:∀p∈r.pre,p):∃sv ps,r=⟨some sv,[],[],[],ps⟩/\cF E F kv fp (bW σ) a w o sv:=by
 have hx:=li hx hc
 have fin:∀(cs:List (AC U))(us:List Value)(b off:Nat),a.eval x=.pointer (some ⟨b,off,none⟩)->(g||Nat.beq n 1)=true->us.length=n->w.rangeAt b off us->mc E w F kv fp (bW σ) cs us->
   cF E F kv fp (bW σ) a w o (.v ⟨g,cs⟩):=by
  intro cs us b off hv P0 hl n9 BW
  obtain⟨v,h1,h2⟩:=U8 hs hg P0 hl n9
  refine⟨v,?_,us,BW,h2⟩
  unfold execOp;simp only[ho,hv];exact iD h1
 unfold loadAt at hr
 cases P0:(g||Nat.beq n 1)<;>simp only[P0,cond_false,cond_true] at hr
 ·cases hr
 split at hr
 ·rename_i cs
  cases hb:Nat.ble n cs.length<;>simp only[hb,cond_false,cond_true] at hr
  ·cases hr
  ·cases hr
   refine⟨_,_,rfl,?_⟩
   have hb:=J' hb
   obtain⟨b,off,h1,h2,h3⟩:=cw hx rfl
   obtain⟨us,h4,h5⟩:=al9 (n:=n) (P:=fun j u=>w.cell? ⟨b,off+j,none⟩=some u/\∀c,cs[j]? =some c->Rp E w F false c u []) (fun j hj=>by
    obtain⟨u,h4,h5⟩:=h3 j cs[j] (by rw[fw])
    exact⟨u,h4,fun c hc=>by rw[fw (by omega)] at hc;cases hc;exact h5⟩)
   refine fin _ us b off h1 P0 h4 (fun j u hu=>(h5 j u hu).1) ⟨by simp[h4];omega,fun j y u hy hu=> ?_⟩
   rw[nT] at hy
   cases SF:(cs.take n)[j]? with
   |none=>rw[SF] at hy;cases hy
   |some c=>
    rw[SF] at hy
    cases hy
    have ans:cs[j]? =some c:=by
     rw[qn] at SF
     split at SF
     ·exact SF
     ·cases SF
    have:=(h5 j u hu).2 c ans
    exact⟨this.gv,.inr this⟩
 ·rename_i k off
  split at hr
  ·rename_i cs he
   cases hb:Nat.ble (off+n) cs.length<;>simp only[hb,cond_false,cond_true] at hr
   ·cases hr
   ·cases hr
    refine⟨_,_,rfl,?_⟩
    have hb:=J' hb
    obtain⟨b,h1,h2⟩:=cw hx rfl
    obtain⟨b',cur,e,h3,h4,h5,h6⟩:=h.dH k _ (j0 he)
    rw[h1] at h3
    cases h3
    refine fin _ ((cur.toList.drop off).take n) b off h2 P0 (by have:=h6.1;simp at this⊢;omega) (fun j u hu=> ?_) ⟨by have:=h6.1;simp at this⊢;omega,fun j y u hy hu=> ?_⟩
    ·rw[qn] at hu
     split at hu
     ·rw[HB] at hu
      rw[cell_of_row w b _ cur e (0,0) h4]
      simpa using hu
     ·cases hu
    ·rw[qn] at hy hu
     split at hy
     ·rename_i gI
      rw[if_pos gI] at hu
      rw[HB] at hy hu
      exact h6.2 _ y u hy hu
     ·cases hy
  ·cases hr
 ·rename_i k p i wd off
  split at hr
  ·rename_i z d he
   cases iv:fR (restrict σ.bO ks) σ.aT k p<;>simp only[iv,cond_false,cond_true] at hr
   ·cases hr
   ·split at hr
    ·rename_i ps b hw
     cases hb:(Nat.ble (off+n) (U.wd b.τ)&&Nat.beq wd (U.wd b.τ))<;>simp only[hb,cond_false,cond_true] at hr
     ·cases hr
     ·simp only[cJ] at hb
      have vw:=nk hb.2
      have hle:=J' hb.1
      subst vw
      cases hr
      refine⟨_,_,rfl,?_⟩
      obtain⟨bb,oo,nn,cc,h1,h2⟩:=cw hx (HR iv he)
      have M9:∀q∈ps,q:=fun q hq=>hp q (by simp[cn.cL,hq])
      have hi:i<b.xs.length:=hp _ (by simp[cn.cL])
      obtain⟨v',h3,h4⟩:=(Pk h (j0 he)).nav hw M9
      have Sd:=h1.unique h3
      rw[<-Sd] at h4 h3
      rcases h4.inv with⟨h0,_⟩|⟨b2,o2,c2,vs,h5,hF,hc,hv,hrr⟩
      ·rw[h0] at hi;simp at hi
      ·simp only[Value.slice.injEq,gA,Addr.mk.injEq,and_true] at h5
       obtain⟨⟨rfl,rfl⟩,rfl,rfl⟩:=h5
       have wl:=fF (d:=U.e6 b.τ) hi
       have pi:∀j,j<U.wd b.τ->w.cell? ⟨bb,oo+(i*U.wd b.τ+j),none⟩=some (vs (i*U.wd b.τ+j)):=fun j hj=>by
        refine hv _ (fP wl (c:=(U.enc b.τ (b.xs.getD i (U.e6 b.τ)))[j]'(by rw[U.dz];exact hj)) ?_)
        rw[fw]
       refine fin _ ((List.range n).map fun j=>vs (i*U.wd b.τ+(off+j))) bb (oo+(i*U.wd b.τ+off)) h2 P0 (by simp) (fun j u hu=> ?_) ⟨?_,fun j y u hy hu=> ?_⟩
       ·rw[nT] at hu
        by_cases hj:j<n
        ·rw[NF hj] at hu
         simp only[FT,gA] at hu
         rw[<-hu,<-pi (off+j) (by omega)]
         congr 2;omega
        ·rw[od (by simp;omega)] at hu;cases hu
       ·rw[Vg];simp[U.dz];omega
       ·obtain⟨c,Gf,P6⟩:=Vh hy
        have hj:j<n:=by
         rw[qn] at Gf
         split at Gf
         ·assumption
         ·cases Gf
        have ant:(U.enc b.τ (b.xs.getD i (U.e6 b.τ)))[off+j]? =some c:=by
         rw[qn,if_pos hj,HB] at Gf;exact Gf
        have sV:u=vs (i*U.wd b.τ+(off+j)):=by
         rw[nT,NF hj] at hu
         simpa using hu.symm
        have j6:=hrr i _ (off+j) c wl ant
        rw[<-sV] at j6
        rcases P6 with⟨v,rfl,rfl⟩|⟨τ,xs,rfl,rfl⟩
        ·refine⟨j6.gv,.inr ?_⟩
         generalize hm:false=m at j6
         generalize hcc:(Cell.lit v:U.C)=c at j6
         cases j6 with
         |lit m v' Sd=>cases hcc;exact .lit _ _ Sd
         |nil=>cases hcc
         |shr=>cases hcc
        ·refine⟨j6.gv,.inr ?_⟩
         simp only[RA]
         refine h1.append ⟨bb,oo,_,_,u,rfl,hF,?_,rfl⟩
         rw[sV,<-pi (off+j) (by omega)]
    ·cases hr
  ·cases hr
 ·cases hr
end AM
