import Derived.Test.YtnndcpncmmcaaaaGreatQAmCall3
namespace AM
set_option linter.unusedVariables false
open Go
variable{U:jO}{E:Env U}{pm:Pm}
variable{F F':Nat->Prop}{kv:Key->Value}{fp:Key->List Nat}{σ:ah U}{a:Act}{w w':World}{bad:Key->Bool}
theorem ZB{α:Type}{f g:α->List Nat}:∀{l:List α},(∀x∈l,(f x).Sublist (g x))->(l.flatMap f).Sublist (l.flatMap g)
 |[],_=>Ou _
 |x::l,h=>by
  rw[tV,tV]
  exact List.Sublist.append (h x cH) (ZB fun y hy=>h y (aJ _ hy))
theorem ZH{τ:U.Ty}{xs:List (U.T τ)}{n:Nat}(hn:n<xs.length*U.wd τ):∃i x j c,n=i*U.wd τ+j/\j<U.wd τ/\i<xs.length/\xs[i]? =some x/\(U.enc τ x)[j]? =some c:=by
 have hw:=U.ka τ
 have hi:n/U.wd τ<xs.length:=(Nat.div_lt_iff_lt_mul hw).2 hn
 have hj:n%U.wd τ<U.wd τ:=Nat.mod_lt _ hw
 refine⟨n/U.wd τ,xs[n/U.wd τ],n%U.wd τ,(U.enc τ xs[n/U.wd τ])[n%U.wd τ]'(by rw[U.cP];exact hj),?_,hj,hi,gr hi,gr _⟩
 rw[RR];exact(Nat.div_add_mod n _).symm
theorem cF.part{x:fK U}{v:Value}{l:List Nat}(h:cF E w F true x v l):cM E w F (fun _=>false) x v l:=by
 rcases h with h|⟨b,cap,cur,vs,dH,rfl,hb,hc,hm,hs,hv,hr,rfl⟩
 ·exact .inl h
 ·refine .inr ⟨b,cap,cur,vs,dH,rfl,hb,hc,hm,hs,fun n hn=>⟨hv n hn,?_⟩,fun i y j c _ hy hj=>hr i y j c hy hj,fun i j hi _=>Bool.noConfusion hi,rfl⟩
  obtain⟨i,y,j,c,rfl,_,_,hy,hj⟩:=ZH hn
  exact(hr i y j c hy hj).dQ
theorem Sj{i i' j j' wd:Nat}(hj:j<wd)(pg:j'<wd)(h:i*wd+j=i'*wd+j'):i=i'/\j=j':=by
 have h1:(i*wd+j)/wd=i:=by rw[RR,Nat.mul_add_div (by omega)];simp[zez hj]
 have h2:(i'*wd+j')/wd=i':=by rw[RR,Nat.mul_add_div (by omega)];simp[zez pg]
 have:i=i':=by rw[<-h1,<-h2,h]
 subst this
 exact⟨rfl,by omega⟩
theorem amV{s n N:Nat}(h:s+n<=N):(List.range' s n).Sublist (List.range' 0 N):=by
 have e1:List.range' 0 s++List.range' (0+s) (N-s)=List.range' 0 (s+(N-s)):=List.range'_append_1
 have e2:List.range' s n++List.range' (s+n) (N-s-n)=List.range' s (n+(N-s-n)):=List.range'_append_1
 rw[show n+(N-s-n)=N-s by omega] at e2
 rw[oz,<-e2,show s+(N-s)=N by omega] at e1
 rw[<-e1]
 exact(zer _ _).trans (zem _ _)
theorem cM.out{dead:Nat->Bool}{x:fK U}{v:Value}{l:List Nat}(h:cM E w F dead x v l)(oB:l.Nodup){i off n:Nat}(hi:i<x.xs.length)(zT:dead i=false)(hle:off+n<=U.wd x.τ):
  ∃(b cap:Nat)(us:List Value)(gl:List (List Nat))(l':List Nat),v=.slice (some ⟨b,0,none⟩) x.xs.length cap/\us.length=n/\gl.length=n/\w.rangeAt b (i*U.wd x.τ+off) us/\
   (∀(j:Nat)(c:U.C),(((U.enc x.τ (x.xs.getD i (U.dt x.τ))).drop off).take n)[j]? =some c->Rp E w F true c (us.getD j undef) (gl.getD j []))/\
   cM E w F (fun j=>Nat.beq j i||dead j) x v l'/\(gl.flatten++l').Nodup/\∀b∈gl.flatten++l',b∈l:=by
 rcases h with⟨h0,_⟩|⟨b,cap,cur,vs,dH,rfl,hb,hc,hm,hs,hv,hr,jh,rfl⟩
 ·rw[h0] at hi;simp at hi
 have qt:=dz (d:=U.dt x.τ) hi
 have lB:∀j,j<U.wd x.τ->i*U.wd x.τ+j<x.xs.length*U.wd x.τ:=fun j hj=>
  eI qt (c:=(U.enc x.τ (x.xs.getD i (U.dt x.τ)))[j]'(by rw[U.cP];exact hj)) (gr _)
 rw[pH] at oB
 obtain⟨Oe,Od⟩:=oB
 let dV:Nat->List Nat:=fun m=>if i*U.wd x.τ<=m/\m<i*U.wd x.τ+U.wd x.τ then[] else dH m
 have sZ:∀m,i*U.wd x.τ<=m/\m<i*U.wd x.τ+U.wd x.τ->dV m=[]:=fun m hm=>if_pos hm
 have Qa:∀m,¬(i*U.wd x.τ<=m/\m<i*U.wd x.τ+U.wd x.τ)->dV m=dH m:=fun m hm=>if_neg hm
 have nT:((List.range (x.xs.length*U.wd x.τ)).flatMap dV).Sublist ((List.range (x.xs.length*U.wd x.τ)).flatMap dH):=ZB fun m _=>by
  simp only[dV];split
  ·exact List.nil_sublist _
  ·exact Ou _
 have pa:∀j,off+j<U.wd x.τ->∀b',b'∈dH (i*U.wd x.τ+(off+j))->b'∈(List.range (x.xs.length*U.wd x.τ)).flatMap dH:=fun j hj b' aI=>ln.2 ⟨_,oh.2 (lB _ hj),aI⟩
 have Dn:((List.range n).map fun j=>dH (i*U.wd x.τ+(off+j))).flatten=(List.range n).flatMap fun j=>dH (i*U.wd x.τ+(off+j)):=by rw[J']
 have aeU:∀m m',m<x.xs.length*U.wd x.τ->m'<x.xs.length*U.wd x.τ->m≠m'->∀b',b'∈dH m->b'∉dH m':=fun m m' hm sY cO b' aI=>OV Od (oh.2 hm) (oh.2 sY) cO aI
 refine⟨b,cap,(List.range n).map fun j=>vs (i*U.wd x.τ+(off+j)),(List.range n).map fun j=>dH (i*U.wd x.τ+(off+j)),b::(List.range (x.xs.length*U.wd x.τ)).flatMap dV,rfl,by simp,by simp,fun j u hu=> ?_,fun j c hj=> ?_,?_,?_,?_⟩
 ·rw[mE] at hu
  by_cases hjn:j<n
  ·rw[JZ hjn] at hu
   simp only[Ef,eZ] at hu
   rw[cell_of_row w b _ cur _ (0,0) hb,<-hu,show i*U.wd x.τ+off+j=i*U.wd x.τ+(off+j) by omega]
   exact(hv _ (lB _ (by omega))).1
  ·rw[lU (by simp;omega)] at hu;cases hu
 ·have hjn:j<n:=by
   rw[mP] at hj
   split at hj
   ·assumption
   ·cases hj
  rw[mP,if_pos hjn,Eo] at hj
  have:=hr i _ (off+j) c zT qt hj
  rw[gh,mE,JZ hjn,gh,mE,JZ hjn]
  exact this
 ·refine .inr ⟨b,cap,cur,vs,dV,rfl,hb,hc,hm,hs,hv,fun k y j c hk hy hj=> ?_,fun k j hk hj=> ?_,rfl⟩
  ·simp only[Ox] at hk
   have hki:k≠i:=fun e=>by subst e;simp at hk
   have LZ:j<U.wd x.τ:=by
    rw[<-U.cP x.τ y]
    rcases lR j (U.enc x.τ y).length with h|h
    ·exact h
    ·rw[lU h] at hj;cases hj
   rw[Qa _ (fun pE=>hki (Sj LZ (show k*U.wd x.τ+j-i*U.wd x.τ<U.wd x.τ by omega) (by omega)).1)]
   exact hr k y j c hk.2 hy hj
  ·by_cases hki:k=i
   ·subst hki
    exact sZ _ ⟨by omega,by omega⟩
   ·rw[Qa _ (fun pE=>hki (Sj hj (show k*U.wd x.τ+j-i*U.wd x.τ<U.wd x.τ by omega) (by omega)).1)]
    refine jh k j ?_ hj
    rw[Ee] at hk
    exact hk.resolve_left (fun e=>hki (by simpa using e))
 ·rw[Dn,nH]
  refine⟨?_,pH.2 ⟨fun aI=>Oe (nT.subset aI),nT.nodup Od⟩,fun b1 js b2 iY he=> ?_⟩
  ·have hs2:((List.range n).map fun j=>i*U.wd x.τ+(off+j)).Sublist (List.range (x.xs.length*U.wd x.τ)):=by
    have e1:(List.range n).map (fun j=>i*U.wd x.τ+(off+j))=List.range' (i*U.wd x.τ+off) n:=by
     rw[List.range'_eq_map_range]
     exact Lp fun j _=>by omega
    rw[e1,List.range_eq_range']
    have fa:=lB (U.wd x.τ-1) (by have:=U.ka x.τ;omega)
    exact amV (by have:=U.ka x.τ;omega)
   have:((List.range n).flatMap fun j=>dH (i*U.wd x.τ+(off+j)))=((List.range n).map fun j=>i*U.wd x.τ+(off+j)).flatMap dH:=by rw[List.flatMap_map]
   rw[this]
   have hs3:∀{l1 l2:List Nat},l1.Sublist l2->(l1.flatMap dH).Sublist (l2.flatMap dH):=by
    intro l1 l2 hh
    induction hh with
    |slnil=>exact Ou _
    |cons y _ ih=>rw[tV];exact ih.trans (zem _ _)
    |cons_cons y _ ih=>rw[tV,tV];exact List.Sublist.append (Ou _) ih
   exact(hs3 hs2).nodup Od
  ·subst he
   obtain⟨j,hj,js⟩:=ln.1 js
   rw[oh] at hj
   rcases h_.1 iY with rfl|iY
   ·exact Oe (pa j (by omega) _ js)
   ·obtain⟨m,sY,iY⟩:=ln.1 iY
    rw[oh] at sY
    by_cases pE:i*U.wd x.τ<=m/\m<i*U.wd x.τ+U.wd x.τ
    ·rw[sZ m pE] at iY;cases iY
    ·rw[Qa m pE] at iY
     exact aeU _ m (lB _ (by omega)) sY (fun e=>pE (by omega)) b1 js iY
 ·intro b' aI
  rcases gA.1 aI with aI|aI
  ·rw[Dn] at aI
   obtain⟨j,hj,aI⟩:=ln.1 aI
   rw[oh] at hj
   exact aJ _ (pa j (by omega) _ aI)
  ·rcases h_.1 aI with rfl|aI
   ·exact cH
   ·exact aJ _ (nT.subset aI)
theorem cd.split(h:cd E pm F kv fp σ a w){o:Oper}(hd:∀d,o.dst=some d->d<σ.n)(D:eV U)(k:Key)(e0 e:eX U)(iX:σ.aU k=some e0)(sv:SV U)(ps:List Prop)(v:Value)(l':List Nat)
  (H4:(D.map (·.1)).Nodup)
  (jq:∀s∈D,¬Names σ (o.dst.getD 1000000,s.1)) (tG:Names σ k)
  (rD:∀kv' fp' bad,(∀s∈D,kv' (o.dst.getD 1000000,s.1)=s.2.2.1)->RS E w F kv' fp' bad sv v)
  (hD:∀s∈D,∀kv fp bad,lm E w F kv fp bad s.2.1 s.2.2.1 s.2.2.2)
  (hE:∀kv' fp' bad,(∀s∈D,kv' (o.dst.getD 1000000,s.1)=s.2.2.1)->lm E w F kv' fp' bad e (kv k) l')
  (oB:(D.bl++l').Nodup) (pE:∀b∈D.bl++l',b∈fp k) (pT:e.wk=false) (hDk:∀s∈D,s.2.1.wk=false):
  ∃kv fp,cd E pm F kv fp (AM.apply o ⟨some sv,D.es,[],[(k,e)],ps,[]⟩ σ) (a.put o.dst v) w:=by
 generalize hr:(⟨some sv,D.es,[],[(k,e)],ps,[]⟩:bz U)=r
 have fq:∀k',k'∈ct o r↔∃s∈D,k'=(o.dst.getD 1000000,s.1):=by
  intro k'
  rw[<-hr]
  simp only[ct,eV.es,jX]
  constructor
  ·rintro⟨p,⟨s,hs,rfl⟩,rfl⟩;exact⟨s,hs,rfl⟩
  ·rintro⟨s,hs,rfl⟩;exact⟨_,⟨s,hs,rfl⟩,rfl⟩
 have fI:fM r=[k]:=by rw[<-hr];rfl
 have lc:r.gH=[]:=by rw[<-hr]
 have P8:k∉ct o r:=fun hk=>by
  obtain⟨s,hs,rfl⟩:=(fq k).1 hk
  exact jq s hs tG
 have gj:∀k',k'∉ct o r->D.An (o.dst.getD 1000000) kv k'=kv k'/\D.zm (o.dst.getD 1000000) (bx fp k l') k'=bx fp k l' k':=by
  intro k' bp
  exact eV.other (fun t ht e=>bp ((fq k').2 ⟨t,ht,e⟩)) kv (bx fp k l')
 have Qs:∀s∈D,D.An (o.dst.getD 1000000) kv (o.dst.getD 1000000,s.1)=s.2.2.1/\D.zm (o.dst.getD 1000000) (bx fp k l') (o.dst.getD 1000000,s.1)=s.2.2.2:=fun s hs=>⟨eV.wH H4 hs,eV.uf H4 hs⟩
 rw[nH] at oB
 obtain⟨NE,TG,PR⟩:=oB
 have hm:∀b∈fp k,¬F b/\(pm.W b\/pm.w0.heap.size<=b)/\b<w.heap.size:=fun b hb=>h.cU k e0 b iX hb
 refine⟨D.An (o.dst.getD 1000000) kv,D.zm (o.dst.getD 1000000) (bx fp k l'),?_⟩
 refine h.apply (F':=F) (w':=w) o r v hd ?_ (fun k' bp=>(gj k' bp).1) ?_ ?_ (fun b hb=>⟨hb,rfl⟩) (fun _ _ _ _ _ _ _ _=>rfl) ?_ ?_ ?_ h.lT h.ny h.upto (og _) (fun _ hk=>by rw[<-hr] at hk;exact absurd hk rh) (fun k' e' hk=>by
  rw[<-hr] at hk
  rcases hk with⟨j,_,hk⟩|hk
  ·obtain⟨s,hs,e⟩:=jX.1 hk
   rw[<-(Prod.mk.inj e).2];exact hDk s hs
  ·rw[(Prod.mk.inj (g_.1 hk)).2];exact pT)
 ·intro sv' aaw
  rw[<-hr] at aaw
  simp only[eZ] at aaw
  subst aaw
  exact rD _ _ _ fun s hs=>(Qs s hs).1
 ·intro k' h1 h2
  rw[(gj k' h1).2]
  rw[fI] at h2
  exact kf (by simpa using h2)
 ·intro k' bp
  obtain⟨s,hs,rfl⟩:=(fq k').1 bp
  exact jq s hs
 ·rintro k' e' (⟨j,rfl,hj⟩|bp)
  ·rw[<-hr] at hj
   simp only[eV.es,jX] at hj
   obtain⟨s,hs,hj⟩:=hj
   obtain⟨rfl,rfl⟩:=Prod.mk.inj hj
   rw[(Qs s hs).1,(Qs s hs).2]
   exact⟨hD s hs _ _ _,eV.xz NE hs,fun b hb=>hm b (pE b (oE _ (eV.pw.2 ⟨s,hs,hb⟩)))⟩
  ·rw[<-hr] at bp
   simp only[g_,kG] at bp
   obtain⟨rfl,rfl⟩:=bp
   rw[(gj k' P8).1,(gj k' P8).2,gW]
   exact⟨hE _ _ _ (fun s hs=>(Qs s hs).1),TG,fun b hb=>hm b (pE b (pA _ hb))⟩
 ·intro k' e' b _ _ _ he hb;exact(h.cU k' e' b he hb).1
 ·intro k1 k2 b cO lg eS hb
  rw[fI,lc] at eS
  rw[fI] at lg
  have key:∀k',(k'∈ct o r\/k'∈[k])->∀b∈D.zm (o.dst.getD 1000000) (bx fp k l') k',b∈fp k/\((∃s∈D,k'=(o.dst.getD 1000000,s.1)/\b∈s.2.2.2)\/(k'=k/\b∈l')):=by
   intro k' bp b hb
   rcases bp with bp|bp
   ·obtain⟨s,hs,rfl⟩:=(fq k').1 bp
    rw[(Qs s hs).2] at hb
    exact⟨pE b (oE _ (eV.pw.2 ⟨s,hs,hb⟩)),.inl ⟨s,hs,rfl,hb⟩⟩
   ·have:=g_.1 bp
    subst this
    rw[(gj k' P8).2,gW] at hb
    exact⟨pE b (pA _ hb),.inr ⟨rfl,hb⟩⟩
  obtain⟨g1,g2⟩:=key k1 lg b hb
  intro aI
  rcases eS with eS|eS|⟨_,eS⟩
  ·obtain⟨_,g4⟩:=key k2 (.inl eS) b aI
   rcases g2 with⟨s,hs,rfl,Oh⟩|⟨rfl,rj⟩
   ·rcases g4 with⟨s',ky,rfl,Aq⟩|⟨rfl,ED⟩
    ·exact eV.rc NE hs ky (fun e=>cO (by rw[e])) Oh Aq
    ·exact PR b (eV.pw.2 ⟨s,hs,Oh⟩) b ED rfl
   ·rcases g4 with⟨s',ky,rfl,Aq⟩|⟨rfl,ED⟩
    ·exact PR b (eV.pw.2 ⟨s',ky,Aq⟩) b rj rfl
    ·exact cO rfl
  ·obtain⟨_,g4⟩:=key k2 (.inr eS) b aI
   rcases g2 with⟨s,hs,rfl,Oh⟩|⟨rfl,rj⟩
   ·rcases g4 with⟨s',ky,rfl,Aq⟩|⟨rfl,ED⟩
    ·exact eV.rc NE hs ky (fun e=>cO (by rw[e])) Oh Aq
    ·exact PR b (eV.pw.2 ⟨s,hs,Oh⟩) b ED rfl
   ·rcases g4 with⟨s',ky,rfl,Aq⟩|⟨rfl,ED⟩
    ·exact PR b (eV.pw.2 ⟨s',ky,Aq⟩) b rj rfl
    ·exact cO rfl
  ·by_cases aaV:k2∈ct o r
   ·obtain⟨_,g4⟩:=key k2 (.inl aaV) b aI
    rcases g2 with⟨s,hs,rfl,Oh⟩|⟨rfl,rj⟩
    ·rcases g4 with⟨s',ky,rfl,Aq⟩|⟨rfl,ED⟩
     ·exact eV.rc NE hs ky (fun e=>cO (by rw[e])) Oh Aq
     ·exact PR b (eV.pw.2 ⟨s,hs,Oh⟩) b ED rfl
    ·rcases g4 with⟨s',ky,rfl,Aq⟩|⟨rfl,ED⟩
     ·exact PR b (eV.pw.2 ⟨s',ky,Aq⟩) b rj rfl
     ·exact cO rfl
   ·by_cases TT:k2=k
    ·obtain⟨_,g4⟩:=key k2 (.inr (by simp[TT])) b aI
     rcases g2 with⟨s,hs,rfl,Oh⟩|⟨rfl,rj⟩
     ·rcases g4 with⟨s',ky,rfl,Aq⟩|⟨rfl,ED⟩
      ·exact aaV ((fq _).2 ⟨s',ky,rfl⟩)
      ·exact PR b (eV.pw.2 ⟨s,hs,Oh⟩) b ED rfl
     ·exact cO TT.symm
    ·rw[(gj k2 aaV).2,kf TT] at aI
     obtain⟨e2,nX⟩:=kH.1 eS
     exact h.apart k k2 e0 e2 b (Ne.symm TT) iX nX g1 aI
theorem ank(h:cd E pm F kv fp σ a w){o:Oper}{t:TypeId}{x:Operand}{sx:SV U}{y:AC U}{n:Nat}{g:Bool}{ks:List Key}{r:bz U}(ho:o.op=.load t x)
  (hx:RS E w F kv fp (aZ σ) sx (a.eval x)) (hc:sd sx=some y) (hs:E.size t=some n) (hg:E.isAgg t=some g)
  (hr:C6 (restrict σ.aU ks) g n y=some r) (hp:∀p∈r.pre,p):∃sv ps,r=⟨some sv,[],[],[],ps,[]⟩/\cA E F kv fp (aZ σ) a w o sv:=by
 have hx:=bD hx hc
 unfold C6 at hr
 split at hr
 rotate_left
 ·cases hr
 rename_i k i wd off
 split at hr
 rotate_left
 ·cases hr
 rename_i x0 he
 have dr:=fA he
 rw[fc] at hr
 split at hr
 rotate_left
 ·cases hr
 rename_i hb
 simp only[fY] at hb
 obtain⟨⟨NO,hle⟩,mH⟩:=hb
 have hle:=H6 hle
 have mH:=jp mH
 subst mH
 cases hr
 refine⟨_,_,rfl,?_⟩
 have hi:i<x0.xs.length:=hp _ (by simp[bz.cv])
 have kz:cF E w F false x0 (kv k) (fp k):=h.cT k _ dr
 obtain⟨bb,oo,nn,cc,iz,hv⟩:=bG hx (by simp[gg])
 simp only[mg] at iz
 rcases kz with⟨h0,_⟩|⟨b,cap,cur,vs,dH,h1,h2,h3,h4,h5,h6,h7,_⟩
 ·rw[h0] at hi;simp at hi
 rw[h1] at iz
 simp only[Value.slice.injEq,eZ,Addr.mk.injEq,and_true] at iz
 obtain⟨⟨rfl,rfl⟩,_,_⟩:=iz
 rw[oz] at hv
 have qt:=dz (d:=U.dt x0.τ) hi
 have Qk:∀j,j<U.wd x0.τ->∃c,(U.enc x0.τ (x0.xs.getD i (U.dt x0.τ)))[j]? =some c:=fun j hj=>by
  have pg:j<(U.enc x0.τ (x0.xs.getD i (U.dt x0.τ))).length:=by rw[U.cP];exact hj
  exact⟨_,gr pg⟩
 have qk:∀j u,((List.range n).map fun j=>vs (i*U.wd x0.τ+(off+j)))[j]? =some u->j<n/\u=vs (i*U.wd x0.τ+(off+j)):=fun j u hu=>by
  rw[mE] at hu
  by_cases hj:j<n
  ·rw[JZ hj] at hu
   exact⟨hj,by simpa using hu.symm⟩
  ·rw[lU (by simp;omega)] at hu;cases hu
 obtain⟨v,NA,Nz⟩:=MW (us:=(List.range n).map fun j=>vs (i*U.wd x0.τ+(off+j))) (b:=bb) (off:=i*U.wd x0.τ+off) hs hg NO (by simp) (fun j u hu=>by
  obtain⟨hj,rfl⟩:=qk j u hu
  obtain⟨c,yL⟩:=Qk (off+j) (by omega)
  rw[cell_of_row w bb _ cur _ (0,0) h2,<-h6 _ (eI qt yL)]
  congr 1;omega)
 refine⟨v,by unfold execOp;simp only[ho,hv];exact gF NA,_,?_,Nz⟩
 refine Rj (by simp[U.cP];omega) fun j y u hy hu=> ?_
 obtain⟨hj,rfl⟩:=qk j u hu
 rw[mE] at hy
 obtain⟨c,yL⟩:=Qk (off+j) (by omega)
 have Fg:(((U.enc x0.τ (x0.xs.getD i (U.dt x0.τ))).drop off).take n)[j]? =some c:=by rw[mP,if_pos hj,Eo];exact yL
 rw[Fg] at hy
 simp only[Ef,eZ] at hy
 subst hy
 have fB:=h7 i _ (off+j) c qt yL
 have h0:dH (i*U.wd x0.τ+(off+j))=[]:=by
  generalize dH (i*U.wd x0.τ+(off+j))=l at fB
  generalize vs (i*U.wd x0.τ+(off+j))=u at fB
  cases fB<;>rfl
 rw[h0] at fB
 exact⟨fB.dQ,.inr fB⟩
theorem anf(h:cd E pm F kv fp σ a w){o:Oper}(hd:∀d,o.dst=some d->d<σ.n){t:TypeId}{x:Operand}{sx:SV U}{y:AC U}{n:Nat}{g:Bool}{ks:List Key}{r:bz U}(ho:o.op=.load t x)
  (hx:RS E w F kv fp (aZ σ) sx (a.eval x)) (hc:sd sx=some y) (ol:∀k∈y.keys,Names σ k) (hs:E.size t=some n) (hg:E.isAgg t=some g)
  (hr:KA (restrict σ.aU ks) (o.dst.getD 1000000) g n y=some r) (hp:∀p∈r.pre,p) (jq:∀k∈ct o r,¬Names σ k)
  {next:Act->World->Prop} {Q:Exit->Act->World->Prop} (hn:∀F kv fp a' w',cd E pm F kv fp (AM.apply o r σ) a' w'->next a' w'):o.wp E.P a w next Q:=by
 have hx:=bD hx hc
 unfold KA at hr
 split at hr
 rotate_left
 ·cases hr
 rename_i k i wd off
 split at hr
 rotate_left
 ·cases hr
 rename_i x0 dead he
 have dr:=fA he
 rw[fc] at hr
 split at hr
 rotate_left
 ·cases hr
 rename_i hb
 simp only[fY] at hb
 obtain⟨⟨NO,hle⟩,mH⟩:=hb
 have hle:=H6 hle
 have mH:=jp mH
 subst mH
 simp only at hr
 have KK:i<x0.xs.length/\dead i=false:=by
  rw[fc] at hr
  split at hr
  ·cases hr;exact⟨hp _ (by simp[bz.cv]),hp _ (by simp[bz.cv])⟩
  ·rw[fc] at hr
   split at hr
   ·cases hr;exact⟨hp _ (by simp[bz.cv]),hp _ (by simp[bz.cv])⟩
   rw[fc] at hr
   split at hr
   ·cases hr;exact⟨hp _ (by simp),hp _ (by simp)⟩
   ·cases hr
 obtain⟨hi,zT⟩:=KK
 have kz:cM E w F dead x0 (kv k) (fp k):=h.cT k _ dr
 obtain⟨b,cap,us,gl,l',h1,h2,h3,h4,h5,h6,h7,h8⟩:=kz.out (h.nodup k _ dr) hi zT hle
 obtain⟨bb,oo,nn,cc,iz,hv⟩:=bG hx (by simp[gg])
 simp only[mg] at iz
 rw[h1] at iz
 simp only[Value.slice.injEq,eZ,Addr.mk.injEq,and_true] at iz
 obtain⟨⟨rfl,rfl⟩,_,_⟩:=iz
 rw[oz] at hv
 obtain⟨v,NA,Nz⟩:=MW hs hg NO h2 h4
 have fw:(execOp a.eval o).run E.P w=.ok (.value v) w:=by unfold execOp;simp only[ho,hv];exact gF NA
 have fa:(((U.enc x0.τ (x0.xs.getD i (U.dt x0.τ))).drop off).take n).length=n:=by simp[U.cP];omega
 rw[fc] at hr
 split at hr
 ·rename_i wl
  cases hr
  refine pC fw (hn F kv fp _ _ (h.val o _ _ v hd (fun sv rD=> ?_)))
  cases rD
  refine⟨us,?_,Nz⟩
  exact Kp (by rw[h2,fa]) fun j c hj=>by
   obtain⟨u,rfl⟩:=R_ wl j c hj
   exact(h5 j _ hj).Gl
 ·rw[fc] at hr
  split at hr
  ·cases hr
   refine pC fw (hn F kv fp _ _ (h.val o _ _ v hd (fun sv rD=> ?_)))
   cases rD
   refine⟨us,Rj (by rw[Sg,h2,fa]) (fun j' y' u hy hu=> ?_),Nz⟩
   obtain⟨c,yL,Fg⟩:=Sh hy
   have fB:=h5 j' c yL
   have kM:us.getD j' undef=u:=by rw[gh,hu];rfl
   rw[kM] at fB
   rcases Fg with⟨v',rfl,rfl⟩|⟨s8,xs',rfl,rfl⟩
   ·obtain⟨_,e2,e3⟩:=fB.kL
    subst e2
    exact⟨fB.dQ,.inr (.lit _ _ e3)⟩
   ·refine⟨fB.dQ,.inr ?_⟩
    have gX:bb∈fp k:=by
     rcases kz with⟨h0,_⟩|⟨b',qo,cur',rm,dV,g1,_,_,_,_,_,_,_,g9⟩
     ·rw[h0] at hi;simp at hi
     ·rw[h1] at g1
      simp only[Value.slice.injEq,eZ,Addr.mk.injEq,and_true] at g1
      rw[g9,<-g1.1];simp
    refine⟨bb,0,_,cap,u,h1,.inr gX,⟨fB.za,?_⟩,rfl⟩
    rw[oz,<-Ot]
    exact h4 j' u hu
  rw[fc] at hr
  split at hr
  rotate_left
  ·cases hr
  rename_i pj
  have nZ:=X2 hr
  obtain⟨D,d1,d2,d3,d4⟩:=Ik (dst:=o.dst.getD 1000000) (base:=0) (vs:=us) (fl:=gl) (h2.trans fa.symm) (h3.trans fa.symm) h5
  have RB:=h.split (o:=o) hd D k _ (.part x0 (fun j=>Nat.beq j i||dead j)) dr (.v ⟨g,(putCells (o.dst.getD 1000000) true 0 (((U.enc x0.τ (x0.xs.getD i (U.dt x0.τ))).drop off).take n)).1⟩) [i<x0.xs.length,dead i=false] v l' ?_ ?_ (ol k (by simp[AC.keys])) ?_ d2 ?_ (by rw[d3];exact h7) (by rw[d3];exact h8) rfl (fun s hs=>F8 (by rw[d1];exact jX.2 ⟨s,hs,rfl⟩))
  ·obtain⟨kv',fp',la⟩:=RB
   refine pC fw (hn F kv' fp' _ _ ?_)
   rw[<-nZ,d1];exact la
  ·have:=ad1.1 pj
   rw[d1] at this
   simpa[eV.es,Function.comp_def] using this
  ·intro s hs
   refine jq _ ?_
   rw[<-nZ]
   simp only[ct,d1,eV.es,jX]
   exact⟨_,⟨s,hs,rfl⟩,rfl⟩
  ·intro kv' fp' bad hk
   exact⟨us,d4 kv' fp' bad hk,Nz⟩
  ·intro kv' fp' bad _
   exact h6
def Hdr(a:fK U)(v:Value):Prop:=(a.xs=[]/\∃ad,v=.slice ad 0 0)\/∃b cap,v=.slice (some ⟨b,0,none⟩) a.xs.length cap/\a.xs.length<=cap/\cap<=maxLen
theorem cM.NQ{dead:Nat->Bool}{x:fK U}{v:Value}{l:List Nat}(h:cM E w F dead x v l):Hdr x v:=by
 rcases h with⟨h0,h1,_⟩|⟨b,cap,cur,vs,dH,h1,_,h2,h3,_⟩
 ·exact .inl ⟨h0,h1⟩
 ·exact .inr ⟨b,cap,h1,h2,h3⟩
theorem mA.NQ{g:Option Nat}{x:fK U}{v:Value}{l lo:List Nat}(h:mA E w F g x v l lo):Hdr x v:=by
 rcases h with⟨h0,h1,_⟩|⟨b,cap,cur,vs,dH,h1,_,h2,h3,_⟩
 ·exact .inl ⟨h0,h1⟩
 ·exact .inr ⟨b,cap,h1,h2,h3⟩
theorem adu(h:cd E pm F kv fp σ a w){ks:List Key}{y:AC U}{v:Value}{b:fK U}(hr:partOf (restrict σ.aU ks) y=some b)(hx:RD E w F kv fp (aZ σ) y v):
  ∃k,y=.ref k []/\v=kv k/\Hdr b v:=by
 unfold partOf at hr
 split at hr
 ·rename_i k
  have h1:v=kv k:=bG hx rfl
  subst h1
  obtain⟨tk,ht⟩:=h.bQ
  split at hr
  ·rename_i x dead he
   cases hr
   exact⟨k,rfl,rfl,cM.NQ (h.cT k _ (fA he))⟩
  ·rename_i x i y he
   cases hr
   exact⟨k,rfl,rfl,cM.NQ (h.cT k _ (fA he)).1⟩
  ·rename_i x he
   cases hr
   exact⟨k,rfl,rfl,mA.NQ (ht.str k _ (fA he) rfl)⟩
  ·rename_i x i he
   cases hr
   exact⟨k,rfl,rfl,mA.NQ (ht.str k _ (fA he) rfl).2⟩
  ·cases hr
 ·cases hr
theorem Hdr.slice{x:fK U}{v:Value}(h:Hdr x v):∃ad c,v=.slice ad x.xs.length c/\x.xs.length<=maxLen:=by
 rcases h with⟨h0,ad,rfl⟩|⟨b,cap,rfl,hc,hm⟩
 ·exact⟨ad,0,by simp[h0],by simp[h0]⟩
 ·exact⟨_,_,rfl,En hc hm⟩
theorem ans(h:cd E pm F kv fp σ a w){o:Oper}{t:TypeId}{x y:Operand}{sx sy:SV U}{k:Key}{ks:List Key}{kd:IntKind}{n:Int}{m:Nat}{b:fK U}(ho:o.op=.indexAddr t x y)
  (hx:RS E w F kv fp (aZ σ) sx (a.eval x)) (hc:sd sx=some (.ref k [])) (hy:RS E w F kv fp (aZ σ) sy (a.eval y)) (hl:ie sy=some (.int kd n)) (hm:(E.elem t).bind E.size=some m)
  (ha:partOf (restrict σ.aU ks) (.ref k [])=some b) (hw:m=U.wd b.τ)
  (h1:0<=n) (h2:n.toNat<b.xs.length):cA E F kv fp (aZ σ) a w o (one (.iC k [] n.toNat (U.wd b.τ) 0)):=by
 obtain⟨e,i,hu,hi,hs⟩:=pq hm
 have h3:=pD hy hl
 have AB:=bD hx hc
 obtain⟨k',hk,KG,kz⟩:=adu h ha AB
 cases hk
 rcases kz with⟨h0,_⟩|⟨b',cap,h4,_⟩
 ·rw[h0] at h2;simp at h2
 ·refine⟨.pointer (some ⟨b',0+n.toNat*U.wd b.τ,none⟩),?_,fT ⟨⟨rfl,trivial⟩,.inr ⟨b',0,b.xs.length,cap,?_,by simp⟩⟩⟩
  ·unfold execOp;simp only[ho,h3,h4]
   rw[<-hw,<-hs]
   exact gF (ZY hu hi h1 h2)
  ·simp only[mg];rw[<-KG,h4]
end AM
