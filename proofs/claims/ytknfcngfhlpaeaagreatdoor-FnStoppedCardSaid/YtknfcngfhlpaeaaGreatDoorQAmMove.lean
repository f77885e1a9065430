import Derived.Test.YtknfcngfhlpaeaaGreatDoorQAmCall3
namespace AM
set_option linter.unusedVariables false
open Go
variable{U:kz}{E:Env U}{pm:Pm}
variable{F F':Nat->Prop}{kv:Key->Value}{fp:Key->List Nat}{σ:ak U}{a:Act}{w w':World}{bad:Key->Bool}
theorem WA{α:Type}{f g:α->List Nat}:∀{l:List α},(∀x∈l,(f x).Sublist (g x))->(l.flatMap f).Sublist (l.flatMap g)
 |[],_=>Tr _
 |x::l,h=>by
  rw[yb,yb]
  exact List.Sublist.append (h x gS) (WA fun y hy=>h y (e8 _ hy))
theorem aaw{τ:U.Ty}{xs:List (U.T τ)}{n:Nat}(hn:n<xs.length*U.wd τ):∃i x j c,n=i*U.wd τ+j/\j<U.wd τ/\i<xs.length/\xs[i]? =some x/\(U.enc τ x)[j]? =some c:=by
 have hw:=U.kp τ
 have hi:n/U.wd τ<xs.length:=(Nat.div_lt_iff_lt_mul hw).2 hn
 have hj:n%U.wd τ<U.wd τ:=Nat.mod_lt _ hw
 refine⟨n/U.wd τ,xs[n/U.wd τ],n%U.wd τ,(U.enc τ xs[n/U.wd τ])[n%U.wd τ]'(by rw[U.cY];exact hj),?_,hj,hi,eW hi,eW _⟩
 rw[Q6];exact(Nat.div_add_mod n _).symm
theorem eo.part{x:cC U}{v:Value}{l:List Nat}(h:eo E w F true x v l):dK E w F (fun _=>false) x v l:=by
 rcases h with h|⟨b,cap,cur,vs,gr,rfl,hb,hc,hm,hs,hv,hr,rfl⟩
 ·exact .inl h
 ·refine .inr ⟨b,cap,cur,vs,gr,rfl,hb,hc,hm,hs,fun n hn=>⟨hv n hn,?_⟩,fun i y j c _ hy hj=>hr i y j c hy hj,fun i j hi _=>Bool.noConfusion hi,rfl⟩
  obtain⟨i,y,j,c,rfl,_,_,hy,hj⟩:=aaw hn
  exact(hr i y j c hy hj).fJ
theorem RN{i i' j j' wd:Nat}(hj:j<wd)(sI:j'<wd)(h:i*wd+j=i'*wd+j'):i=i'/\j=j':=by
 have h1:(i*wd+j)/wd=i:=by rw[Q6,Nat.mul_add_div (by omega)];simp[zez hj]
 have h2:(i'*wd+j')/wd=i':=by rw[Q6,Nat.mul_add_div (by omega)];simp[zez sI]
 have:i=i':=by rw[<-h1,<-h2,h]
 subst this
 exact⟨rfl,by omega⟩
theorem ah1{s n N:Nat}(h:s+n<=N):(List.range' s n).Sublist (List.range' 0 N):=by
 have e1:List.range' 0 s++List.range' (0+s) (N-s)=List.range' 0 (s+(N-s)):=List.range'_append_1
 have e2:List.range' s n++List.range' (s+n) (N-s-n)=List.range' s (n+(N-s-n)):=List.range'_append_1
 rw[show n+(N-s-n)=N-s by omega] at e2
 rw[tH,<-e2,show s+(N-s)=N by omega] at e1
 rw[<-e1]
 exact(zer _ _).trans (zem _ _)
theorem dK.out{dead:Nat->Bool}{x:cC U}{v:Value}{l:List Nat}(h:dK E w F dead x v l)(o9:l.Nodup){i off n:Nat}(hi:i<x.xs.length)(Q0:dead i=false)(hle:off+n<=U.wd x.τ):
  ∃(b cap:Nat)(us:List Value)(gl:List (List Nat))(l':List Nat),v=.slice (some ⟨b,0,none⟩) x.xs.length cap/\us.length=n/\gl.length=n/\w.rangeAt b (i*U.wd x.τ+off) us/\
   (∀(j:Nat)(c:U.C),(((U.enc x.τ (x.xs.getD i (U.ee x.τ))).drop off).take n)[j]? =some c->Rp E w F true c (us.getD j undef) (gl.getD j []))/\
   dK E w F (fun j=>Nat.beq j i||dead j) x v l'/\(gl.flatten++l').Nodup/\∀b∈gl.flatten++l',b∈l:=by
 rcases h with⟨h0,_⟩|⟨b,cap,cur,vs,gr,rfl,hb,hc,hm,hs,hv,hr,jR,rfl⟩
 ·rw[h0] at hi;simp at hi
 have uR:=ff (d:=U.ee x.τ) hi
 have nN:∀j,j<U.wd x.τ->i*U.wd x.τ+j<x.xs.length*U.wd x.τ:=fun j hj=>
  fi uR (c:=(U.enc x.τ (x.xs.getD i (U.ee x.τ)))[j]'(by rw[U.cY];exact hj)) (eW _)
 rw[sC] at o9
 obtain⟨Nq,XE⟩:=o9
 let jT:Nat->List Nat:=fun m=>if i*U.wd x.τ<=m/\m<i*U.wd x.τ+U.wd x.τ then[] else gr m
 have qk:∀m,i*U.wd x.τ<=m/\m<i*U.wd x.τ+U.wd x.τ->jT m=[]:=fun m hm=>if_pos hm
 have Pj:∀m,¬(i*U.wd x.τ<=m/\m<i*U.wd x.τ+U.wd x.τ)->jT m=gr m:=fun m hm=>if_neg hm
 have o8:((List.range (x.xs.length*U.wd x.τ)).flatMap jT).Sublist ((List.range (x.xs.length*U.wd x.τ)).flatMap gr):=WA fun m _=>by
  simp only[jT];split
  ·exact List.nil_sublist _
  ·exact Tr _
 have C6:∀j,off+j<U.wd x.τ->∀b',b'∈gr (i*U.wd x.τ+(off+j))->b'∈(List.range (x.xs.length*U.wd x.τ)).flatMap gr:=fun j hj b' bg=>nF.2 ⟨_,n9.2 (nN _ hj),bg⟩
 have Pf:((List.range n).map fun j=>gr (i*U.wd x.τ+(off+j))).flatten=(List.range n).flatMap fun j=>gr (i*U.wd x.τ+(off+j)):=by rw[LV]
 have ab2:∀m m',m<x.xs.length*U.wd x.τ->m'<x.xs.length*U.wd x.τ->m≠m'->∀b',b'∈gr m->b'∉gr m':=fun m m' hm tX d_ b' bg=>N8 XE (n9.2 hm) (n9.2 tX) d_ bg
 refine⟨b,cap,(List.range n).map fun j=>vs (i*U.wd x.τ+(off+j)),(List.range n).map fun j=>gr (i*U.wd x.τ+(off+j)),b::(List.range (x.xs.length*U.wd x.τ)).flatMap jT,rfl,by simp,by simp,fun j u hu=> ?_,fun j c hj=> ?_,?_,?_,?_⟩
 ·rw[mw] at hu
  by_cases X_:j<n
  ·rw[KL X_] at hu
   simp only[D3,fM] at hu
   rw[cell_of_row w b _ cur _ (0,0) hb,<-hu,show i*U.wd x.τ+off+j=i*U.wd x.τ+(off+j) by omega]
   exact(hv _ (nN _ (by omega))).1
  ·rw[nb (by simp;omega)] at hu;cases hu
 ·have X_:j<n:=by
   rw[oT] at hj
   split at hj
   ·assumption
   ·cases hj
  rw[oT,if_pos X_,Fx] at hj
  have:=hr i _ (off+j) c Q0 uR hj
  rw[dB,mw,KL X_,dB,mw,KL X_]
  exact this
 ·refine .inr ⟨b,cap,cur,vs,jT,rfl,hb,hc,hm,hs,hv,fun k y j c hk hy hj=> ?_,fun k j hk hj=> ?_,rfl⟩
  ·simp only[Nl] at hk
   have Sv:k≠i:=fun e=>by subst e;simp at hk
   have MT:j<U.wd x.τ:=by
    rw[<-U.cY x.τ y]
    rcases nL j (U.enc x.τ y).length with h|h
    ·exact h
    ·rw[nb h] at hj;cases hj
   rw[Pj _ (fun o_=>Sv (RN MT (show k*U.wd x.τ+j-i*U.wd x.τ<U.wd x.τ by omega) (by omega)).1)]
   exact hr k y j c hk.2 hy hj
  ·by_cases Sv:k=i
   ·subst Sv
    exact qk _ ⟨by omega,by omega⟩
   ·rw[Pj _ (fun o_=>Sv (RN hj (show k*U.wd x.τ+j-i*U.wd x.τ<U.wd x.τ by omega) (by omega)).1)]
    refine jR k j ?_ hj
    rw[DW] at hk
    exact hk.resolve_left (fun e=>Sv (by simpa using e))
 ·rw[Pf,p8]
  refine⟨?_,sC.2 ⟨fun bg=>Nq (o8.subset bg),o8.nodup XE⟩,fun b1 sM b2 sL he=> ?_⟩
  ·have Zg:((List.range n).map fun j=>i*U.wd x.τ+(off+j)).Sublist (List.range (x.xs.length*U.wd x.τ)):=by
    have e1:(List.range n).map (fun j=>i*U.wd x.τ+(off+j))=List.range' (i*U.wd x.τ+off) n:=by
     rw[List.range'_eq_map_range]
     exact LW fun j _=>by omega
    rw[e1,List.range_eq_range']
    have gB:=nN (U.wd x.τ-1) (by have:=U.kp x.τ;omega)
    exact ah1 (by have:=U.kp x.τ;omega)
   have:((List.range n).flatMap fun j=>gr (i*U.wd x.τ+(off+j)))=((List.range n).map fun j=>i*U.wd x.τ+(off+j)).flatMap gr:=by rw[List.flatMap_map]
   rw[this]
   have hs3:∀{l1 l2:List Nat},l1.Sublist l2->(l1.flatMap gr).Sublist (l2.flatMap gr):=by
    intro l1 l2 hh
    induction hh with
    |slnil=>exact Tr _
    |cons y _ ih=>rw[yb];exact ih.trans (zem _ _)
    |cons_cons y _ ih=>rw[yb,yb];exact List.Sublist.append (Tr _) ih
   exact(hs3 Zg).nodup XE
  ·subst he
   obtain⟨j,hj,sM⟩:=nF.1 sM
   rw[n9] at hj
   rcases jF.1 sL with rfl|sL
   ·exact Nq (C6 j (by omega) _ sM)
   ·obtain⟨m,tX,sL⟩:=nF.1 sL
    rw[n9] at tX
    by_cases o_:i*U.wd x.τ<=m/\m<i*U.wd x.τ+U.wd x.τ
    ·rw[qk m o_] at sL;cases sL
    ·rw[Pj m o_] at sL
     exact ab2 _ m (nN _ (by omega)) tX (fun e=>o_ (by omega)) b1 sM sL
 ·intro b' bg
  rcases jE.1 bg with bg|bg
  ·rw[Pf] at bg
   obtain⟨j,hj,bg⟩:=nF.1 bg
   rw[n9] at hj
   exact e8 _ (C6 j (by omega) _ bg)
  ·rcases jF.1 bg with rfl|bg
   ·exact gS
   ·exact e8 _ (o8.subset bg)
theorem cG.split(h:cG E pm F kv fp σ a w){o:Oper}(hd:∀d,o.dst=some d->d<σ.n)(D:eX U)(k:Key)(e0 e:ie U)(mD:σ.bH k=some e0)(sv:SV U)(ps:List Prop)(v:Value)(l':List Nat)
  (Lu:(D.map (·.1)).Nodup)
  (nu:∀s∈D,¬Names σ (o.dst.getD 1000000,s.1)) (sP:Names σ k)
  (C4:∀kv' fp' bad,(∀s∈D,kv' (o.dst.getD 1000000,s.1)=s.2.2.1)->RS E w F kv' fp' bad sv v)
  (hD:∀s∈D,∀kv fp bad,sg E w F kv fp bad s.2.1 s.2.2.1 s.2.2.2)
  (hE:∀kv' fp' bad,sg E w F kv' fp' bad e (kv k) l')
  (o9:(D.bl++l').Nodup) (o_:∀b∈D.bl++l',b∈fp k):
  ∃kv fp,cG E pm F kv fp (AM.apply o ⟨some sv,D.es,[],[(k,e)],ps⟩ σ) (a.put o.dst v) w:=by
 generalize hr:(⟨some sv,D.es,[],[(k,e)],ps⟩:bX U)=r
 have jS:∀k',k'∈dk o r↔∃s∈D,k'=(o.dst.getD 1000000,s.1):=by
  intro k'
  rw[<-hr]
  simp only[dk,eX.es,kW]
  constructor
  ·rintro⟨p,⟨s,hs,rfl⟩,rfl⟩;exact⟨s,hs,rfl⟩
  ·rintro⟨s,hs,rfl⟩;exact⟨_,⟨s,hs,rfl⟩,rfl⟩
 have kj:jh r=[k]:=by rw[<-hr];rfl
 have yG:r.kE=[]:=by rw[<-hr]
 have Pc:k∉dk o r:=fun hk=>by
  obtain⟨s,hs,rfl⟩:=(jS k).1 hk
  exact nu s hs sP
 have jA:∀k',k'∉dk o r->D.zT (o.dst.getD 1000000) kv k'=kv k'/\D.yN (o.dst.getD 1000000) (c_ fp k l') k'=c_ fp k l' k':=by
  intro k' cK
  exact eX.other (fun t ht e=>cK ((jS k').2 ⟨t,ht,e⟩)) kv (c_ fp k l')
 have SE:∀s∈D,D.zT (o.dst.getD 1000000) kv (o.dst.getD 1000000,s.1)=s.2.2.1/\D.yN (o.dst.getD 1000000) (c_ fp k l') (o.dst.getD 1000000,s.1)=s.2.2.2:=fun s hs=>⟨eX.wT Lu hs,eX.tZ Lu hs⟩
 rw[p8] at o9
 obtain⟨O',Sl,Sk⟩:=o9
 have hm:∀b∈fp k,¬F b/\(pm.W b\/pm.w0.heap.size<=b)/\b<w.heap.size:=fun b hb=>h.fj k e0 b mD hb
 refine⟨D.zT (o.dst.getD 1000000) kv,D.yN (o.dst.getD 1000000) (c_ fp k l'),?_⟩
 refine h.apply (F':=F) (w':=w) o r v hd ?_ (fun k' cK=>(jA k' cK).1) ?_ ?_ (fun b hb=>⟨hb,rfl⟩) (fun _ _ _ _ _ _ _ _=>rfl) ?_ ?_ ?_ h.sO h.sN h.upto (sB _)
 ·intro sv' Xp
  rw[<-hr] at Xp
  simp only[fM] at Xp
  subst Xp
  exact C4 _ _ _ fun s hs=>(SE s hs).1
 ·intro k' h1 h2
  rw[(jA k' h1).2]
  rw[kj] at h2
  exact zR (by simpa using h2)
 ·intro k' cK
  obtain⟨s,hs,rfl⟩:=(jS k').1 cK
  exact nu s hs
 ·rintro k' e' (⟨j,rfl,hj⟩|cK)
  ·rw[<-hr] at hj
   simp only[eX.es,kW] at hj
   obtain⟨s,hs,hj⟩:=hj
   obtain⟨rfl,rfl⟩:=Prod.mk.inj hj
   rw[(SE s hs).1,(SE s hs).2]
   exact⟨hD s hs _ _ _,eX.xo O' hs,fun b hb=>hm b (o_ b (pP _ (eX.oJ.2 ⟨s,hs,hb⟩)))⟩
  ·rw[<-hr] at cK
   simp only[mb,nT] at cK
   obtain⟨rfl,rfl⟩:=cK
   rw[(jA k' Pc).1,(jA k' Pc).2,sE]
   exact⟨hE _ _ _,Sl,fun b hb=>hm b (o_ b (pd _ hb))⟩
 ·intro k' e' b _ _ _ he hb;exact(h.fj k' e' b he hb).1
 ·intro k1 k2 b d_ yH kx hb
  rw[kj,yG] at kx
  rw[kj] at yH
  have key:∀k',(k'∈dk o r\/k'∈[k])->∀b∈D.yN (o.dst.getD 1000000) (c_ fp k l') k',b∈fp k/\((∃s∈D,k'=(o.dst.getD 1000000,s.1)/\b∈s.2.2.2)\/(k'=k/\b∈l')):=by
   intro k' cK b hb
   rcases cK with cK|cK
   ·obtain⟨s,hs,rfl⟩:=(jS k').1 cK
    rw[(SE s hs).2] at hb
    exact⟨o_ b (pP _ (eX.oJ.2 ⟨s,hs,hb⟩)),.inl ⟨s,hs,rfl,hb⟩⟩
   ·have:=mb.1 cK
    subst this
    rw[(jA k' Pc).2,sE] at hb
    exact⟨o_ b (pd _ hb),.inr ⟨rfl,hb⟩⟩
  obtain⟨g1,g2⟩:=key k1 yH b hb
  intro bg
  rcases kx with kx|kx|⟨_,kx⟩
  ·obtain⟨_,g4⟩:=key k2 (.inl kx) b bg
   rcases g2 with⟨s,hs,rfl,QZ⟩|⟨rfl,MZ⟩
   ·rcases g4 with⟨s',jK,rfl,zW⟩|⟨rfl,Eh⟩
    ·exact eX.qv O' hs jK (fun e=>d_ (by rw[e])) QZ zW
    ·exact Sk b (eX.oJ.2 ⟨s,hs,QZ⟩) b Eh rfl
   ·rcases g4 with⟨s',jK,rfl,zW⟩|⟨rfl,Eh⟩
    ·exact Sk b (eX.oJ.2 ⟨s',jK,zW⟩) b MZ rfl
    ·exact d_ rfl
  ·obtain⟨_,g4⟩:=key k2 (.inr kx) b bg
   rcases g2 with⟨s,hs,rfl,QZ⟩|⟨rfl,MZ⟩
   ·rcases g4 with⟨s',jK,rfl,zW⟩|⟨rfl,Eh⟩
    ·exact eX.qv O' hs jK (fun e=>d_ (by rw[e])) QZ zW
    ·exact Sk b (eX.oJ.2 ⟨s,hs,QZ⟩) b Eh rfl
   ·rcases g4 with⟨s',jK,rfl,zW⟩|⟨rfl,Eh⟩
    ·exact Sk b (eX.oJ.2 ⟨s',jK,zW⟩) b MZ rfl
    ·exact d_ rfl
  ·by_cases X9:k2∈dk o r
   ·obtain⟨_,g4⟩:=key k2 (.inl X9) b bg
    rcases g2 with⟨s,hs,rfl,QZ⟩|⟨rfl,MZ⟩
    ·rcases g4 with⟨s',jK,rfl,zW⟩|⟨rfl,Eh⟩
     ·exact eX.qv O' hs jK (fun e=>d_ (by rw[e])) QZ zW
     ·exact Sk b (eX.oJ.2 ⟨s,hs,QZ⟩) b Eh rfl
    ·rcases g4 with⟨s',jK,rfl,zW⟩|⟨rfl,Eh⟩
     ·exact Sk b (eX.oJ.2 ⟨s',jK,zW⟩) b MZ rfl
     ·exact d_ rfl
   ·by_cases Sw:k2=k
    ·obtain⟨_,g4⟩:=key k2 (.inr (by simp[Sw])) b bg
     rcases g2 with⟨s,hs,rfl,QZ⟩|⟨rfl,MZ⟩
     ·rcases g4 with⟨s',jK,rfl,zW⟩|⟨rfl,Eh⟩
      ·exact X9 ((jS _).2 ⟨s',jK,rfl⟩)
      ·exact Sk b (eX.oJ.2 ⟨s,hs,QZ⟩) b Eh rfl
     ·exact d_ Sw.symm
    ·rw[(jA k2 X9).2,zR Sw] at bg
     obtain⟨e2,sJ⟩:=l6.1 kx
     exact h.apart k k2 e0 e2 b (Ne.symm Sw) mD sJ g1 bg
theorem aim(h:cG E pm F kv fp σ a w){o:Oper}{t:TypeId}{x:Operand}{sx:SV U}{y:AC U}{n:Nat}{g:Bool}{ks:List Key}{r:bX U}(ho:o.op=.load t x)
  (hx:RS E w F kv fp (bR σ) sx (a.eval x)) (hc:tG sx=some y) (hs:E.size t=some n) (hg:E.isAgg t=some g)
  (hr:CY (restrict σ.bH ks) g n y=some r) (hp:∀p∈r.pre,p):∃sv ps,r=⟨some sv,[],[],[],ps⟩/\cy E F kv fp (bR σ) a w o sv:=by
 have hx:=kr hx hc
 unfold CY at hr
 split at hr
 rotate_left
 ·cases hr
 rename_i k i wd off
 split at hr
 rotate_left
 ·cases hr
 rename_i x0 he
 have ew:=jx he
 rw[gI] at hr
 split at hr
 rotate_left
 ·cases hr
 rename_i hb
 simp only[cH] at hb
 obtain⟨⟨MV,hle⟩,tT⟩:=hb
 have hle:=HG hle
 have tT:=mc tT
 subst tT
 cases hr
 refine⟨_,_,rfl,?_⟩
 have hi:i<x0.xs.length:=hp _ (by simp[bX.cE])
 have nq:eo E w F false x0 (kv k) (fp k):=h.cW k _ ew
 obtain⟨bb,oo,nn,cc,nt,hv⟩:=ca hx (by simp[hJ])
 simp only[nU] at nt
 rcases nq with⟨h0,_⟩|⟨b,cap,cur,vs,gr,h1,h2,h3,h4,h5,h6,h7,_⟩
 ·rw[h0] at hi;simp at hi
 rw[h1] at nt
 simp only[Value.slice.injEq,fM,Addr.mk.injEq,and_true] at nt
 obtain⟨⟨rfl,rfl⟩,_,_⟩:=nt
 rw[tH] at hv
 have uR:=ff (d:=U.ee x0.τ) hi
 have Ps:∀j,j<U.wd x0.τ->∃c,(U.enc x0.τ (x0.xs.getD i (U.ee x0.τ)))[j]? =some c:=fun j hj=>by
  have sI:j<(U.enc x0.τ (x0.xs.getD i (U.ee x0.τ))).length:=by rw[U.cY];exact hj
  exact⟨_,eW sI⟩
 have rk:∀j u,((List.range n).map fun j=>vs (i*U.wd x0.τ+(off+j)))[j]? =some u->j<n/\u=vs (i*U.wd x0.τ+(off+j)):=fun j u hu=>by
  rw[mw] at hu
  by_cases hj:j<n
  ·rw[KL hj] at hu
   exact⟨hj,by simpa using hu.symm⟩
  ·rw[nb (by simp;omega)] at hu;cases hu
 obtain⟨v,Xj,Xi⟩:=Ry (us:=(List.range n).map fun j=>vs (i*U.wd x0.τ+(off+j))) (b:=bb) (off:=i*U.wd x0.τ+off) hs hg MV (by simp) (fun j u hu=>by
  obtain⟨hj,rfl⟩:=rk j u hu
  obtain⟨c,Eg⟩:=Ps (off+j) (by omega)
  rw[cell_of_row w bb _ cur _ (0,0) h2,<-h6 _ (fi uR Eg)]
  congr 1;omega)
 refine⟨v,by unfold execOp;simp only[ho,hv];exact gY Xj,_,?_,Xi⟩
 refine QG (by simp[U.cY];omega) fun j y u hy hu=> ?_
 obtain⟨hj,rfl⟩:=rk j u hu
 rw[mw] at hy
 obtain⟨c,Eg⟩:=Ps (off+j) (by omega)
 have MY:(((U.enc x0.τ (x0.xs.getD i (U.ee x0.τ))).drop off).take n)[j]? =some c:=by rw[oT,if_pos hj,Fx];exact Eg
 rw[MY] at hy
 simp only[D3,fM] at hy
 subst hy
 have jz:=h7 i _ (off+j) c uR Eg
 have h0:gr (i*U.wd x0.τ+(off+j))=[]:=by
  generalize gr (i*U.wd x0.τ+(off+j))=l at jz
  generalize vs (i*U.wd x0.τ+(off+j))=u at jz
  cases jz<;>rfl
 rw[h0] at jz
 exact⟨jz.fJ,.inr jz⟩
theorem aih(h:cG E pm F kv fp σ a w){o:Oper}(hd:∀d,o.dst=some d->d<σ.n){t:TypeId}{x:Operand}{sx:SV U}{y:AC U}{n:Nat}{g:Bool}{ks:List Key}{r:bX U}(ho:o.op=.load t x)
  (hx:RS E w F kv fp (bR σ) sx (a.eval x)) (hc:tG sx=some y) (tW:∀k∈y.keys,Names σ k) (hs:E.size t=some n) (hg:E.isAgg t=some g)
  (hr:Ka (restrict σ.bH ks) (o.dst.getD 1000000) g n y=some r) (hp:∀p∈r.pre,p) (nu:∀k∈dk o r,¬Names σ k)
  {next:Act->World->Prop} {Q:Exit->Act->World->Prop} (hn:∀F kv fp a' w',cG E pm F kv fp (AM.apply o r σ) a' w'->next a' w'):o.wp E.P a w next Q:=by
 have hx:=kr hx hc
 unfold Ka at hr
 split at hr
 rotate_left
 ·cases hr
 rename_i k i wd off
 split at hr
 rotate_left
 ·cases hr
 rename_i x0 dead he
 have ew:=jx he
 rw[gI] at hr
 split at hr
 rotate_left
 ·cases hr
 rename_i hb
 simp only[cH] at hb
 obtain⟨⟨MV,hle⟩,tT⟩:=hb
 have hle:=HG hle
 have tT:=mc tT
 subst tT
 simp only at hr
 have Kg:i<x0.xs.length/\dead i=false:=by
  rw[gI] at hr
  split at hr
  ·cases hr;exact⟨hp _ (by simp[bX.cE]),hp _ (by simp[bX.cE])⟩
  ·rw[gI] at hr
   split at hr
   ·cases hr;exact⟨hp _ (by simp[bX.cE]),hp _ (by simp[bX.cE])⟩
   rw[gI] at hr
   split at hr
   ·cases hr;exact⟨hp _ (by simp),hp _ (by simp)⟩
   ·cases hr
 obtain⟨hi,Q0⟩:=Kg
 have nq:dK E w F dead x0 (kv k) (fp k):=h.cW k _ ew
 obtain⟨b,cap,us,gl,l',h1,h2,h3,h4,h5,h6,h7,h8⟩:=nq.out (h.nodup k _ ew) hi Q0 hle
 obtain⟨bb,oo,nn,cc,nt,hv⟩:=ca hx (by simp[hJ])
 simp only[nU] at nt
 rw[h1] at nt
 simp only[Value.slice.injEq,fM,Addr.mk.injEq,and_true] at nt
 obtain⟨⟨rfl,rfl⟩,_,_⟩:=nt
 rw[tH] at hv
 obtain⟨v,Xj,Xi⟩:=Ry hs hg MV h2 h4
 have iM:(execOp a.eval o).run E.P w=.ok (.value v) w:=by unfold execOp;simp only[ho,hv];exact gY Xj
 have gB:(((U.enc x0.τ (x0.xs.getD i (U.ee x0.τ))).drop off).take n).length=n:=by simp[U.cY];omega
 rw[gI] at hr
 split at hr
 ·rename_i zU
  cases hr
  refine qZ iM (hn F kv fp _ _ (h.val o _ _ v hd (fun sv C4=> ?_)))
  cases C4
  refine⟨us,?_,Xi⟩
  exact J4 (by rw[h2,gB]) fun j c hj=>by
   obtain⟨u,rfl⟩:=Rs zU j c hj
   exact(h5 j _ hj).F7
 ·rw[gI] at hr
  split at hr
  ·cases hr
   refine qZ iM (hn F kv fp _ _ (h.val o _ _ v hd (fun sv C4=> ?_)))
   cases C4
   refine⟨us,QG (by rw[RK,h2,gB]) (fun j' y' u hy hu=> ?_),Xi⟩
   obtain⟨c,Eg,MY⟩:=RL hy
   have jz:=h5 j' c Eg
   have rf:us.getD j' undef=u:=by rw[dB,hu];rfl
   rw[rf] at jz
   rcases MY with⟨v',rfl,rfl⟩|⟨El,xs',rfl,rfl⟩
   ·obtain⟨_,e2,e3⟩:=jz.jI
    subst e2
    exact⟨jz.fJ,.inr (.lit _ _ e3)⟩
   ·refine⟨jz.fJ,.inr ?_⟩
    have ic:bb∈fp k:=by
     rcases nq with⟨h0,_⟩|⟨b',ana,cur',uP,jT,g1,_,_,_,_,_,_,_,g9⟩
     ·rw[h0] at hi;simp at hi
     ·rw[h1] at g1
      simp only[Value.slice.injEq,fM,Addr.mk.injEq,and_true] at g1
      rw[g9,<-g1.1];simp
    refine⟨bb,0,_,cap,u,h1,.inr ic,?_,rfl⟩
    rw[tH,<-Ny]
    exact h4 j' u hu
  rw[gI] at hr
  split at hr
  rotate_left
  ·cases hr
  rename_i rq
  have EN:=VU hr
  obtain⟨D,d1,d2,d3,d4⟩:=H4 (dst:=o.dst.getD 1000000) (base:=0) (vs:=us) (fl:=gl) (h2.trans gB.symm) (h3.trans gB.symm) h5
  have TL:=h.split (o:=o) hd D k _ (.part x0 (fun j=>Nat.beq j i||dead j)) ew (.v ⟨g,(putCells (o.dst.getD 1000000) true 0 (((U.enc x0.τ (x0.xs.getD i (U.ee x0.τ))).drop off).take n)).1⟩) [i<x0.xs.length,dead i=false] v l' ?_ ?_ (tW k (by simp[AC.keys])) ?_ d2 ?_ (by rw[d3];exact h7) (by rw[d3];exact h8)
  ·obtain⟨kv',fp',nI⟩:=TL
   refine qZ iM (hn F kv' fp' _ _ ?_)
   rw[<-EN,d1];exact nI
  ·have:=aa_.1 rq
   rw[d1] at this
   simpa[eX.es,Function.comp_def] using this
  ·intro s hs
   refine nu _ ?_
   rw[<-EN]
   simp only[dk,d1,eX.es,kW]
   exact⟨_,⟨s,hs,rfl⟩,rfl⟩
  ·intro kv' fp' bad hk
   exact⟨us,d4 kv' fp' bad hk,Xi⟩
  ·intro kv' fp' bad
   exact h6
theorem aaG(h:cG E pm F kv fp σ a w){ks:List Key}{y:AC U}{v:Value}{b:cC U}(hr:partOf (restrict σ.bH ks) y=some b)(hx:RD E w F kv fp (bR σ) y v):
  ∃k dead,y=.ref k []/\v=kv k/\dK E w F dead b v (fp k):=by
 unfold partOf at hr
 split at hr
 ·rename_i k
  split at hr
  ·rename_i x dead he
   cases hr
   have h1:v=kv k:=ca hx rfl
   subst h1
   exact⟨k,dead,rfl,rfl,h.cW k _ (jx he)⟩
  ·cases hr
 ·cases hr
theorem dK.slice{dead:Nat->Bool}{x:cC U}{v:Value}{l:List Nat}(h:dK E w F dead x v l):∃ad c,v=.slice ad x.xs.length c/\x.xs.length<=maxLen:=by
 rcases h with⟨h0,⟨ad,rfl⟩,_⟩|⟨b,cap,cur,vs,gr,rfl,_,hc,hm,_⟩
 ·exact⟨ad,0,by simp[h0],by simp[h0]⟩
 ·exact⟨_,_,rfl,vg hc hm⟩
theorem ait(h:cG E pm F kv fp σ a w){o:Oper}{t:TypeId}{x y:Operand}{sx sy:SV U}{k:Key}{ks:List Key}{kd:IntKind}{n:Int}{m:Nat}{b:cC U}(ho:o.op=.indexAddr t x y)
  (hx:RS E w F kv fp (bR σ) sx (a.eval x)) (hc:tG sx=some (.ref k [])) (hy:RS E w F kv fp (bR σ) sy (a.eval y)) (hl:ix sy=some (.int kd n)) (hm:(E.elem t).bind E.size=some m)
  (ha:partOf (restrict σ.bH ks) (.ref k [])=some b) (hw:m=U.wd b.τ)
  (h1:0<=n) (h2:n.toNat<b.xs.length):cy E F kv fp (bR σ) a w o (one (.kI k [] n.toNat (U.wd b.τ) 0)):=by
 obtain⟨e,i,hu,hi,hs⟩:=oD hm
 have h3:=o6 hy hl
 have Aj:=kr hx hc
 obtain⟨k',dead,hk,O0,nq⟩:=aaG h ha Aj
 cases hk
 rcases nq with⟨h0,_⟩|⟨b',cap,cur,vs,gr,h4,_⟩
 ·rw[h0] at h2;simp at h2
 ·refine⟨.pointer (some ⟨b',0+n.toNat*U.wd b.τ,none⟩),?_,gP ⟨⟨rfl,trivial⟩,.inr ⟨b',0,b.xs.length,cap,?_,by simp⟩⟩⟩
  ·unfold execOp;simp only[ho,h3,h4]
   rw[<-hw,<-hs]
   exact gY (WR hu hi h1 h2)
  ·simp only[nU];rw[<-O0,h4]
end AM
