/- THE ABSTRACT MACHINE: reading memory. -/
import Derived.Test.YtceiiofmelhipaaGreatAmOps2
namespace AM
set_option linter.unusedVariables false
open Go
variable{U:Uni}{E:Env U}{pm:Pm}
variable{F:Nat→Prop}{kv:Key→Value}{fp:Key→List Nat}{σ:AState U}{a:Act}{w:World}
def FA(σ:AState U)(F:Nat→Prop)(fp:Key→List Nat)(b:Nat):Prop:=F b∨∃k e,σ.ent k=some e∧b∈fp k
theorem Rp.widen{w:World}{F F':Nat→Prop}{c:U.C}{v:Value}(h:Rp E w F false c v [])(hF:∀b,F b→F' b):Rp E w F' false c v []:=
 h.share hF (by simp)
theorem qagt(h:Sim E pm F kv fp σ a w){k:Key}{x:Arr U}{d:Bool}(he:σ.ent k=some (.arr x d)):
  Rp E w (fun b=>F b∨b∈fp k) false (.sl x.τ x.xs) (kv k) []:=
 ROwn.share (h.ents k _ he) (fun b hb=> .inl hb) (fun b hb=> .inr hb)
theorem ROwnP.slice0{dead:Nat→Bool}{x:Arr U}{v:Value}{l:List Nat}(h:ROwnP E w F dead x v l):∃ad c,v=.slice ad x.xs.length c∧x.xs.length≤c:=by
 rcases h with⟨h0,⟨ad,rfl⟩,_⟩|⟨b,cap,cur,vs,fps,rfl,_,hc,hm,_⟩
 ·exact⟨ad,0,by simp[h0],by simp[h0]⟩
 ·exact⟨_,_,rfl,hc⟩
theorem ROwnP.nav{dead:Nat→Bool}{x b:Arr U}{v:Value}{l:List Nat}{i wd j:Nat}{p:Path}{ps:List Prop}(h:ROwnP E w F dead x v l)(hw:walk ((i,wd,j)::p) x=some (ps,b))(hp:∀q∈ps,q)(hal:dead i=false):
  ∃v',navS w (fun c=>F c∨c∈l) v ((i,wd,j)::p) v'∧Rp E w (fun c=>F c∨c∈l) false (.sl b.τ b.xs) v' []:=by
 obtain⟨τ,xs⟩:=x
 simp only[walk] at hw
 cases hwd:Nat.beq wd (U.wd τ)<;>simp only[hwd,cond_false,cond_true] at hw
 ·cases hw
 have hwd':wd=U.wd τ:=zai hwd
 subst hwd'
 split at hw
 rotate_left
 ·cases hw
 rename_i τ1 ys hx
 split at hw
 rotate_left
 ·cases hw
 rename_i ps' b' hw'
 simp only[zae,zax] at hw
 obtain⟨rfl,rfl⟩:=hw
 have hi:i<xs.length:=hp _ (by simp)
 have hxi:=getD_of_lt (d:=U.dflt τ) hi
 rcases h with⟨h0,_⟩|⟨g,cap,cur,vs,fps,rfl,hb,hc,hm,hs,hv,hr,hdd,rfl⟩
 ·simp only at h0;subst h0;simp at hi
 ·have hrow:=hr i _ j _ hal hxi hx
  have hlt:=row_lt hxi hx
  have hsh:=hrow.share (F':=fun c=>F c∨c∈g::(List.range (xs.length*U.wd τ)).flatMap fps) (fun b hb=> .inl hb) (fun b hb=> .inr (zaa _ (zat.2 ⟨_,zay.2 hlt,hb⟩)))
  obtain⟨v',h1,h2⟩:=Rp.nav (a:=⟨τ1,ys⟩) hsh hw' (fun q hq=>hp q (by simp[hq]))
  refine⟨v',⟨g,0,_,cap,_,rfl,.inr (by simp),?_,h1⟩,h2⟩
  simp only[World.cell?,hb,zbw]
  simpa using(hv _ hlt).1
theorem qags{k:Key}{e:Ent U}(he:σ.ent k=some e):∀b,(F b∨b∈fp k)→FA σ F fp b:=
 fun b hb=>hb.elim .inl (fun hb=> .inr ⟨k,e,he,hb⟩)
theorem qaco{ks:List Key}{k:Key}{p:Path}{e:Ent U}(hc:clearP (restrict σ.ent ks) σ.dirty k p=true)(he:restrict σ.ent ks k=some e):
  (!p.isEmpty&&badK σ k)=false:=by
 unfold clearP at hc
 simp only[zcn,zaf,zbd] at hc
 rcases hc with hc|⟨_,hc⟩
 ·simp[hc]
 ·simp[badK,hc,qald he]
theorem Rp.sub{w:World}{F:Nat→Prop}{τ:U.Ty}{xs:List (U.T τ)}{v:Value}(h:Rp E w F false (.sl τ xs) v []){lo hi:Nat}(h1:lo≤hi)(h2:hi≤xs.length):
  Rp E w F false (.sl τ ((xs.take hi).drop lo)) (subV (U.wd τ) lo hi v) []:=by
 have hlen:((xs.take hi).drop lo).length=hi-lo:=by simp;omega
 rcases h.inv with⟨h0,ad,c,rfl⟩|⟨b,off,cap,vs,rfl,hF,hc,hv,hr⟩
 ·subst h0
  simp only[zbo] at h2
  have:lo=0:=by omega
  have:hi=0:=by omega
  subst_vars
  simp only[List.take_nil,List.drop_nil,subV,Nat.sub_zero]
  exact .nil _ _ _ _ (by simp)
 ·by_cases h3:hi=lo
  ·subst h3
   have:(xs.take hi).drop hi=[]:=zbh (by rw[hlen];omega)
   rw[this]
   simp only[subV,zev]
   exact .nil _ _ _ _ (by simp)
  ·have hne:¬cap=lo:=by omega
   have hadd:(⟨b,off,none⟩:Addr).add (lo*U.wd τ)=⟨b,off+lo*U.wd τ,none⟩:=Addr.add_mid _ _ _
   have:=Rp.shr (E:=E) (w:=w) (F:=F) τ ((xs.take hi).drop lo) b (off+lo*U.wd τ) (cap-lo) (fun i=>vs (lo*U.wd τ+i)) hF (by rw[hlen];omega) (by rw[hlen];have:=h.len;omega)
    (fun i hi'=>by
     rw[zdl]
     refine hv _ ?_
     rw[hlen] at hi'
     have:lo*U.wd τ+(hi-lo)*U.wd τ=hi*U.wd τ:=by rw[←zci];congr 1;omega
     have:hi*U.wd τ≤xs.length*U.wd τ:=zbc _ h2
     omega)
    (fun i x j c hx hj=>by
     have hi':i<hi-lo:=by
      rcases zba i (hi-lo) with h|h
      ·exact h
      ·rw[zaj (by rw[hlen];exact h)] at hx;cases hx
     have hx':xs[lo+i]? =some x:=by
      rw[zbv,zan] at hx
      rw[if_pos (by omega)] at hx
      exact hx
     have:=hr (lo+i) x j c hx' hj
     rw[zci,zdl] at this
     exact this)
   simp only[subV,hne,if_false,zcd,hadd]
   rw[hlen] at this
   exact this
theorem qabp(h:Sim E pm F kv fp σ a w){ks:List Key}{x:AC U}{v:Value}{ps:List Prop}{b:Arr U}
  (ha:arrOf (restrict σ.ent ks) σ.dirty x=some (ps,b)) (hp:∀p∈ps,p) (hx:RD E w F kv fp (badK σ) x v):Rp E w (FA σ F fp) false (.sl b.τ b.xs) v []:=by
 unfold arrOf at ha
 split at ha
 ·cases ha
  exact Rp.widen (RA_of hx rfl) (fun b hb=> .inl hb)
 ·cases ha
  exact Rp.widen (RA_of hx rfl).1 (fun b hb=> .inl hb)
 ·rename_i k p
  split at ha
  ·rename_i y d he
   cases hc:clearP (restrict σ.ent ks) σ.dirty k p<;>simp only[hc,cond_false,cond_true] at ha
   ·cases ha
   ·have hn:=RA_of hx (qaco hc he)
    obtain⟨v',h1,h2⟩:=(qagt h (qald he)).nav ha hp
    have:v=v':=hn.unique h1
    subst this
    exact h2.widen (qags (qald he))
  ·cases ha
 ·rename_i k wd lo hi
  split at ha
  ·rename_i y d he
   cases hw:Nat.beq wd (U.wd y.τ)<;>simp only[hw,cond_false,cond_true] at ha
   ·cases ha
   ·cases ha
    have hwd:=zai hw
    subst hwd
    obtain⟨h1,h2⟩:=RA_of hx rfl
    subst h1
    exact((qagt h (qald he)).sub h2 (hp _ (by simp))).widen (qags (qald he))
  ·cases ha
 ·cases ha
theorem qaeg{n:Nat}{P:Nat→Value→Prop}(h:∀j,j<n→∃u,P j u):∃us:List Value,us.length=n∧∀(j:Nat)(u:Value),us[j]? =some u→P j u:=by
 induction n with
 |zero=>exact⟨[],rfl,fun j u hu=>by simp at hu⟩
 |succ n ih=>
  obtain⟨us,h1,h2⟩:=ih (fun j hj=>h j (by omega))
  obtain⟨u,hu⟩:=h n (by omega)
  refine⟨us++[u],by simp[h1],fun j v hv=> ?_⟩
  by_cases hj:j<n
  ·rw[zaq (by omega)] at hv;exact h2 j v hv
  ·rw[zap (by omega)] at hv
   have:j-us.length=0:=by
    rcases Nat.eq_zero_or_pos (j-us.length) with h|h
    ·exact h
    ·rw[zaj (by simp;omega)] at hv;cases hv
   rw[this] at hv
   simp only[zam,zae] at hv
   have hjn:j=n:=by omega
   rw[hjn,←hv];exact hu
theorem qaap{t:TypeId}{g:Bool}(h:E.isAgg t=some g):∃d,E.P.underlying t=some d∧d.isRow=g:=by
 unfold Env.isAgg at h
 split at h
 ·rename_i hu;cases h;exact⟨_,hu,rfl⟩
 ·rename_i hu;cases h;exact⟨_,hu,rfl⟩
 ·rename_i d h1 h2 hu
  cases h
  refine⟨d,hu,?_⟩
  cases d<;>first|rfl|exact(h1 _ rfl).elim|exact(h2 _ _ rfl).elim
 ·cases h
theorem qagw{t:TypeId}{g:Bool}{n b off:Nat}{us:List Value}(hs:E.size t=some n)(hg:E.isAgg t=some g)(hgn:(g||Nat.beq n 1)=true)(hl:us.length=n)
  (hr:w.rangeAt b off us):∃v,(Instr.loadAt t (.pointer (some ⟨b,off,none⟩))).run E.P w=.ok v w∧(if g then v=.agg us.toArray else us=[v]):=by
 obtain⟨d,hu,hd⟩:=qaap hg
 cases g with
 |true=>exact⟨_,run_loadAt_mid w b off t us d hr hu hd (by simpa[hl,Env.size] using hs),by simp⟩
 |false=>
  simp only[zcw] at hgn
  have hn:=zai hgn
  subst hn
  obtain⟨u,rfl⟩:∃u,us=[u]:=by
   match us,hl with
   |[u],_=>exact⟨u,rfl⟩
  have hc:=hr 0 u rfl
  simp only[zcv] at hc
  refine⟨u,?_,by simp⟩
  have hagg:(Go.isAgg t).run E.P w=.ok false w:=by
   unfold Go.isAgg
   rw[Sem.run_bind,run_underlying hu w]
   cases d<;>simp_all
  simp[Instr.loadAt,Instr.sureAddr,loadVar,hagg,hc]
theorem RDs_of{bad:Key→Bool}{xs:List (AC U)}{vs:List Value}(hl:xs.length=vs.length)(h:∀(i:Nat)(x:AC U)(v:Value),xs[i]? =some x→vs[i]? =some v→RD E w F kv fp bad x v):RDs E w F kv fp bad xs vs:=⟨hl,h⟩
theorem qadj{k:Key}{p:Path}{i wd:Nat}:∀{cs:List U.C}{j:Nat},(elemCells k p i wd cs j).length=cs.length
 |[],j=>rfl
 | .lit v::r,j=>by simp[elemCells,qadj]
 | .sl _ _::r,j=>by simp[elemCells,qadj]
theorem qadi{k:Key}{p:Path}{i wd:Nat}:∀{cs:List U.C}{j n:Nat}{x:AC U},(elemCells k p i wd cs j)[n]? =some x→
  ∃c,cs[n]? =some c∧((∃v,c=.lit v∧x=.c (.lit v))∨(∃τ xs,c=.sl τ xs∧x=.ref k (p++[(i,wd,j+n)])))
 |[],j,n,x,h=>by simp[elemCells] at h
 | .lit v::r,j,n,x,h=>by
  cases n with
  |zero=>simp only[elemCells,zam,zae] at h;exact⟨.lit v,rfl,.inl ⟨v,rfl,h.symm⟩⟩
  |succ n=>
   obtain⟨c,h1,h2⟩:=qadi (by simpa[elemCells] using h)
   exact⟨c,by simpa using h1,by rwa[show j+(n+1)=j+1+n by omega]⟩
 | .sl τ xs::r,j,n,x,h=>by
  cases n with
  |zero=>simp only[elemCells,zam,zae] at h;exact⟨.sl τ xs,rfl,.inr ⟨τ,xs,rfl,h.symm⟩⟩
  |succ n=>
   obtain⟨c,h1,h2⟩:=qadi (by simpa[elemCells] using h)
   exact⟨c,by simpa using h1,by rwa[show j+(n+1)=j+1+n by omega]⟩
theorem qaib(h:Sim E pm F kv fp σ a w){o:Oper}{t:TypeId}{x:Operand}{sx:SV U}{y:AC U}{n:Nat}{g:Bool}{ks:List Key}{r:Rslt U}(ho:o.op=.load t x)
  (hx:RS E w F kv fp (badK σ) sx (a.eval x)) (hc:ac? sx=some y) (hs:E.size t=some n) (hg:E.isAgg t=some g)
  (hr:loadAt (restrict σ.ent ks) σ.dirty g n y=some r) (hp:∀p∈r.pre,p):∃sv ps,r=⟨some sv,[],[],[],ps⟩∧Makes E F kv fp (badK σ) a w o sv:=by
 have hx:=qaaf hx hc
 have fin:∀(cs:List (AC U))(us:List Value)(b off:Nat),a.eval x=.pointer (some ⟨b,off,none⟩)→(g||Nat.beq n 1)=true→us.length=n→w.rangeAt b off us→RDs E w F kv fp (badK σ) cs us→
   Makes E F kv fp (badK σ) a w o (.v ⟨g,cs⟩):=by
  intro cs us b off hv hgn hl hra hrd
  obtain⟨v,h1,h2⟩:=qagw hs hg hgn hl hra
  refine⟨v,?_,us,hrd,h2⟩
  unfold execOp;simp only[ho,hv];exact run_v h1
 unfold loadAt at hr
 cases hgn:(g||Nat.beq n 1)<;>simp only[hgn,cond_false,cond_true] at hr
 ·cases hr
 split at hr
 ·rename_i cs
  cases hb:Nat.ble n cs.length<;>simp only[hb,cond_false,cond_true] at hr
  ·cases hr
  ·cases hr
   refine⟨_,_,rfl,?_⟩
   have hb:=zbu hb
   obtain⟨b,off,h1,h2,h3⟩:=RA_of hx rfl
   obtain⟨us,h4,h5⟩:=qaeg (n:=n) (P:=fun j u=>w.cell? ⟨b,off+j,none⟩=some u∧∀c,cs[j]? =some c→Rp E w F false c u []) (fun j hj=>by
    obtain⟨u,h4,h5⟩:=h3 j cs[j] (by rw[zad])
    exact⟨u,h4,fun c hc=>by rw[zad (by omega)] at hc;cases hc;exact h5⟩)
   refine fin _ us b off h1 hgn h4 (fun j u hu=>(h5 j u hu).1) ⟨by simp[h4];omega,fun j y u hy hu=> ?_⟩
   rw[zal] at hy
   cases hcj:(cs.take n)[j]? with
   |none=>rw[hcj] at hy;cases hy
   |some c=>
    rw[hcj] at hy
    cases hy
    have hcj':cs[j]? =some c:=by
     rw[zan] at hcj
     split at hcj
     ·exact hcj
     ·cases hcj
    have:=(h5 j u hu).2 c hcj'
    exact⟨this.oneCell,.inr this⟩
 ·rename_i k off
  split at hr
  ·rename_i cs he
   cases hb:Nat.ble (off+n) cs.length<;>simp only[hb,cond_false,cond_true] at hr
   ·cases hr
   ·cases hr
    refine⟨_,_,rfl,?_⟩
    have hb:=zbu hb
    obtain⟨b,h1,h2⟩:=RA_of hx rfl
    obtain⟨b',cur,e,h3,h4,h5,h6⟩:=h.ents k _ (qald he)
    rw[h1] at h3
    cases h3
    refine fin _ ((cur.toList.drop off).take n) b off h2 hgn (by have:=h6.1;simp at this⊢;omega) (fun j u hu=> ?_) ⟨by have:=h6.1;simp at this⊢;omega,fun j y u hy hu=> ?_⟩
    ·rw[zan] at hu
     split at hu
     ·rw[zbv] at hu
      rw[cell_of_row w b _ cur e (0,0) h4]
      simpa using hu
     ·cases hu
    ·rw[zan] at hy hu
     split at hy
     ·rename_i hlt
      rw[if_pos hlt] at hu
      rw[zbv] at hy hu
      exact h6.2 _ y u hy hu
     ·cases hy
  ·cases hr
 ·rename_i k p i wd off
  split at hr
  ·rename_i z d he
   cases hcl:clearP (restrict σ.ent ks) σ.dirty k p<;>simp only[hcl,cond_false,cond_true] at hr
   ·cases hr
   ·split at hr
    ·rename_i ps b hw
     cases hb:(Nat.ble (off+n) (U.wd b.τ)&&Nat.beq wd (U.wd b.τ))<;>simp only[hb,cond_false,cond_true] at hr
     ·cases hr
     ·simp only[zaf] at hb
      have hwd:=zai hb.2
      have hle:=zbu hb.1
      subst hwd
      cases hr
      refine⟨_,_,rfl,?_⟩
      obtain⟨bb,oo,nn,cc,h1,h2⟩:=RA_of hx (qaco hcl he)
      have hpre:∀q∈ps,q:=fun q hq=>hp q (by simp[Rslt.ofVal,hq])
      have hi:i<b.xs.length:=hp _ (by simp[Rslt.ofVal])
      obtain⟨v',h3,h4⟩:=(qagt h (qald he)).nav hw hpre
      have hv':=h1.unique h3
      rw[←hv'] at h4 h3
      rcases h4.inv with⟨h0,_⟩|⟨b2,o2,c2,vs,h5,hF,hc,hv,hrr⟩
      ·rw[h0] at hi;simp at hi
      ·simp only[Value.slice.injEq,zae,Addr.mk.injEq,and_true] at h5
       obtain⟨⟨rfl,rfl⟩,rfl,rfl⟩:=h5
       have hxi:=getD_of_lt (d:=U.dflt b.τ) hi
       have hcell:∀j,j<U.wd b.τ→w.cell? ⟨bb,oo+(i*U.wd b.τ+j),none⟩=some (vs (i*U.wd b.τ+j)):=fun j hj=>by
        refine hv _ (row_lt hxi (c:=(U.enc b.τ (b.xs.getD i (U.dflt b.τ)))[j]'(by rw[U.enc_len];exact hj)) ?_)
        rw[zad]
       refine fin _ ((List.range n).map fun j=>vs (i*U.wd b.τ+(off+j))) bb (oo+(i*U.wd b.τ+off)) h2 hgn (by simp) (fun j u hu=> ?_) ⟨?_,fun j y u hy hu=> ?_⟩
       ·rw[zal] at hu
        by_cases hj:j<n
        ·rw[zcl hj] at hu
         simp only[zcd,zae] at hu
         rw[←hu,←hcell (off+j) (by omega)]
         congr 2;omega
        ·rw[zaj (by simp;omega)] at hu;cases hu
       ·rw[qadj];simp[U.enc_len];omega
       ·obtain⟨c,hc1,hc2⟩:=qadi hy
        have hj:j<n:=by
         rw[zan] at hc1
         split at hc1
         ·assumption
         ·cases hc1
        have hc1':(U.enc b.τ (b.xs.getD i (U.dflt b.τ)))[off+j]? =some c:=by
         rw[zan,if_pos hj,zbv] at hc1;exact hc1
        have hu':u=vs (i*U.wd b.τ+(off+j)):=by
         rw[zal,zcl hj] at hu
         simpa using hu.symm
        have hrow:=hrr i _ (off+j) c hxi hc1'
        rw[←hu'] at hrow
        rcases hc2 with⟨v,rfl,rfl⟩|⟨τ,xs,rfl,rfl⟩
        ·refine⟨hrow.oneCell,.inr ?_⟩
         generalize hm:false=m at hrow
         generalize hcc:(Cell.lit v:U.C)=c at hrow
         cases hrow with
         |lit m v' hv'=>cases hcc;exact .lit _ _ hv'
         |nil=>cases hcc
         |shr=>cases hcc
        ·refine⟨hrow.oneCell,.inr ?_⟩
         simp only[RA]
         refine h1.append ⟨bb,oo,_,_,u,rfl,hF,?_,rfl⟩
         rw[hu',←hcell (off+j) (by omega)]
    ·cases hr
  ·cases hr
 ·cases hr
end AM
