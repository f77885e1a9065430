/- THE ABSTRACT MACHINE: an element that is moved out of a row. -/
import Derived.Test.YtmlhlndkkidhoaaGreatQAmCall3
namespace AM
set_option linter.unusedVariables false
open Go
variable{U:kZ}{E:Env U}{pm:Pm}
variable{F F':Nat->Prop}{kv:Key->Value}{fp:Key->List Nat}{σ:ah U}{a:Act}{w w':World}{bad:Key->Bool}
theorem XE{α:Type}{f g:α->List Nat}:∀{l:List α},(∀x∈l,(f x).Sublist (g x))->(l.flatMap f).Sublist (l.flatMap g)
 |[],_=>VJ _
 |x::l,h=>by
  rw[yh,yh]
  exact List.Sublist.append (h x gj) (XE fun y hy=>h y (cA _ hy))
theorem ab6{τ:U.Ty}{xs:List (U.T τ)}{n:Nat}(hn:n<xs.length*U.wd τ):∃i x j c,n=i*U.wd τ+j/\j<U.wd τ/\i<xs.length/\xs[i]? =some x/\(U.enc τ x)[j]? =some c:=by
 have hw:=U.kJ τ
 have hi:n/U.wd τ<xs.length:=(Nat.div_lt_iff_lt_mul hw).2 hn
 have hj:n%U.wd τ<U.wd τ:=Nat.mod_lt _ hw
 refine⟨n/U.wd τ,xs[n/U.wd τ],n%U.wd τ,(U.enc τ xs[n/U.wd τ])[n%U.wd τ]'(by rw[U.dj];exact hj),?_,hj,hi,fo hi,fo _⟩
 rw[Tl];exact(Nat.div_add_mod n _).symm
theorem eW.part{x:iX U}{v:Value}{l:List Nat}(h:eW E w F true x v l):eo E w F (fun _=>false) x v l:=by
 rcases h with h|⟨b,cap,cur,vs,gV,rfl,hb,hc,hm,hs,hv,hr,rfl⟩
 ·exact .inl h
 ·refine .inr ⟨b,cap,cur,vs,gV,rfl,hb,hc,hm,hs,fun n hn=>⟨hv n hn,?_⟩,fun i y j c _ hy hj=>hr i y j c hy hj,fun i j hi _=>Bool.noConfusion hi,rfl⟩
  obtain⟨i,y,j,c,rfl,_,_,hy,hj⟩:=ab6 hn
  exact(hr i y j c hy hj).gq
theorem Uh{i i' j j' wd:Nat}(hj:j<wd)(s8:j'<wd)(h:i*wd+j=i'*wd+j'):i=i'/\j=j':=by
 have h1:(i*wd+j)/wd=i:=by rw[Tl,Nat.mul_add_div (by omega)];simp[zez hj]
 have h2:(i'*wd+j')/wd=i':=by rw[Tl,Nat.mul_add_div (by omega)];simp[zez s8]
 have:i=i':=by rw[<-h1,<-h2,h]
 subst this
 exact⟨rfl,by omega⟩
theorem al4{s n N:Nat}(h:s+n<=N):(List.range' s n).Sublist (List.range' 0 N):=by
 have e1:List.range' 0 s++List.range' (0+s) (N-s)=List.range' 0 (s+(N-s)):=List.range'_append_1
 have e2:List.range' s n++List.range' (s+n) (N-s-n)=List.range' s (n+(N-s-n)):=List.range'_append_1
 rw[show n+(N-s-n)=N-s by omega] at e2
 rw[tY,<-e2,show s+(N-s)=N by omega] at e1
 rw[<-e1]
 exact(zer _ _).trans (zem _ _)
theorem eo.out{dead:Nat->Bool}{x:iX U}{v:Value}{l:List Nat}(h:eo E w F dead x v l)(pL:l.Nodup){i off n:Nat}(hi:i<x.xs.length)(Te:dead i=false)(hle:off+n<=U.wd x.τ):
  ∃(b cap:Nat)(us:List Value)(gl:List (List Nat))(l':List Nat),v=.slice (some ⟨b,0,none⟩) x.xs.length cap/\us.length=n/\gl.length=n/\w.rangeAt b (i*U.wd x.τ+off) us/\
   (∀(j:Nat)(c:U.C),(((U.enc x.τ (x.xs.getD i (U.e_ x.τ))).drop off).take n)[j]? =some c->Rp E w F true c (us.getD j undef) (gl.getD j []))/\
   eo E w F (fun j=>Nat.beq j i||dead j) x v l'/\(gl.flatten++l').Nodup/\∀b∈gl.flatten++l',b∈l:=by
 rcases h with⟨h0,_⟩|⟨b,cap,cur,vs,gV,rfl,hb,hc,hm,hs,hv,hr,kG,rfl⟩
 ·rw[h0] at hi;simp at hi
 have u6:=e9 (d:=U.e_ x.τ) hi
 have p_:∀j,j<U.wd x.τ->i*U.wd x.τ+j<x.xs.length*U.wd x.τ:=fun j hj=>
  fJ u6 (c:=(U.enc x.τ (x.xs.getD i (U.e_ x.τ)))[j]'(by rw[U.dj];exact hj)) (fo _)
 rw[sN] at pL
 obtain⟨Oh,YM⟩:=pL
 let ka:Nat->List Nat:=fun m=>if i*U.wd x.τ<=m/\m<i*U.wd x.τ+U.wd x.τ then[] else gV m
 have qP:∀m,i*U.wd x.τ<=m/\m<i*U.wd x.τ+U.wd x.τ->ka m=[]:=fun m hm=>if_pos hm
 have P0:∀m,¬(i*U.wd x.τ<=m/\m<i*U.wd x.τ+U.wd x.τ)->ka m=gV m:=fun m hm=>if_neg hm
 have pK:((List.range (x.xs.length*U.wd x.τ)).flatMap ka).Sublist ((List.range (x.xs.length*U.wd x.τ)).flatMap gV):=XE fun m _=>by
  simp only[ka];split
  ·exact List.nil_sublist _
  ·exact VJ _
 have C3:∀j,off+j<U.wd x.τ->∀b',b'∈gV (i*U.wd x.τ+(off+j))->b'∈(List.range (x.xs.length*U.wd x.τ)).flatMap gV:=fun j hj b' bf=>nT.2 ⟨_,oN.2 (p_ _ hj),bf⟩
 have PX:((List.range n).map fun j=>gV (i*U.wd x.τ+(off+j))).flatten=(List.range n).flatMap fun j=>gV (i*U.wd x.τ+(off+j)):=by rw[MD]
 have adI:∀m m',m<x.xs.length*U.wd x.τ->m'<x.xs.length*U.wd x.τ->m≠m'->∀b',b'∈gV m->b'∉gV m':=fun m m' hm ul eO b' bf=>O3 YM (oN.2 hm) (oN.2 ul) eO bf
 refine⟨b,cap,(List.range n).map fun j=>vs (i*U.wd x.τ+(off+j)),(List.range n).map fun j=>gV (i*U.wd x.τ+(off+j)),b::(List.range (x.xs.length*U.wd x.τ)).flatMap ka,rfl,by simp,by simp,fun j u hu=> ?_,fun j c hj=> ?_,?_,?_,?_⟩
 ·rw[nk] at hu
  by_cases Y0:j<n
  ·rw[Lz Y0] at hu
   simp only[Ek,gx] at hu
   rw[cell_of_row w b _ cur _ (0,0) hb,<-hu,show i*U.wd x.τ+off+j=i*U.wd x.τ+(off+j) by omega]
   exact(hv _ (p_ _ (by omega))).1
  ·rw[nz (by simp;omega)] at hu;cases hu
 ·have Y0:j<n:=by
   rw[oJ] at hj
   split at hj
   ·assumption
   ·cases hj
  rw[oJ,if_pos Y0,FV] at hj
  have:=hr i _ (off+j) c Te u6 hj
  rw[eY,nk,Lz Y0,eY,nk,Lz Y0]
  exact this
 ·refine .inr ⟨b,cap,cur,vs,ka,rfl,hb,hc,hm,hs,hv,fun k y j c hk hy hj=> ?_,fun k j hk hj=> ?_,rfl⟩
  ·simp only[Oc] at hk
   have YY:k≠i:=fun e=>by subst e;simp at hk
   have NA:j<U.wd x.τ:=by
    rw[<-U.dj x.τ y]
    rcases nV j (U.enc x.τ y).length with h|h
    ·exact h
    ·rw[nz h] at hj;cases hj
   rw[P0 _ (fun pM=>YY (Uh NA (show k*U.wd x.τ+j-i*U.wd x.τ<U.wd x.τ by omega) (by omega)).1)]
   exact hr k y j c hk.2 hy hj
  ·by_cases YY:k=i
   ·subst YY
    exact qP _ ⟨by omega,by omega⟩
   ·rw[P0 _ (fun pM=>YY (Uh hj (show k*U.wd x.τ+j-i*U.wd x.τ<U.wd x.τ by omega) (by omega)).1)]
    refine kG k j ?_ hj
    rw[Ee] at hk
    exact hk.resolve_left (fun e=>YY (by simpa using e))
 ·rw[PX,qB]
  refine⟨?_,sN.2 ⟨fun bf=>Oh (pK.subset bf),pK.nodup YM⟩,fun b1 sU b2 sT he=> ?_⟩
  ·have Yz:((List.range n).map fun j=>i*U.wd x.τ+(off+j)).Sublist (List.range (x.xs.length*U.wd x.τ)):=by
    have e1:(List.range n).map (fun j=>i*U.wd x.τ+(off+j))=List.range' (i*U.wd x.τ+off) n:=by
     rw[List.range'_eq_map_range]
     exact Ob fun j _=>by omega
    rw[e1,List.range_eq_range']
    have iq:=p_ (U.wd x.τ-1) (by have:=U.kJ x.τ;omega)
    exact al4 (by have:=U.kJ x.τ;omega)
   have:((List.range n).flatMap fun j=>gV (i*U.wd x.τ+(off+j)))=((List.range n).map fun j=>i*U.wd x.τ+(off+j)).flatMap gV:=by rw[List.flatMap_map]
   rw[this]
   have hs3:∀{l1 l2:List Nat},l1.Sublist l2->(l1.flatMap gV).Sublist (l2.flatMap gV):=by
    intro l1 l2 hh
    induction hh with
    |slnil=>exact VJ _
    |cons y _ ih=>rw[yh];exact ih.trans (zem _ _)
    |cons_cons y _ ih=>rw[yh,yh];exact List.Sublist.append (VJ _) ih
   exact(hs3 Yz).nodup YM
  ·subst he
   obtain⟨j,hj,sU⟩:=nT.1 sU
   rw[oN] at hj
   rcases jQ.1 sT with rfl|sT
   ·exact Oh (C3 j (by omega) _ sU)
   ·obtain⟨m,ul,sT⟩:=nT.1 sT
    rw[oN] at ul
    by_cases pM:i*U.wd x.τ<=m/\m<i*U.wd x.τ+U.wd x.τ
    ·rw[qP m pM] at sT;cases sT
    ·rw[P0 m pM] at sT
     exact adI _ m (p_ _ (by omega)) ul (fun e=>pM (by omega)) b1 sU sT
 ·intro b' bf
  rcases jr.1 bf with bf|bf
  ·rw[PX] at bf
   obtain⟨j,hj,bf⟩:=nT.1 bf
   rw[oN] at hj
   exact cA _ (C3 j (by omega) _ bf)
  ·rcases jQ.1 bf with rfl|bf
   ·exact gj
   ·exact cA _ (pK.subset bf)
theorem cE.split(h:cE E pm F kv fp σ a w){o:Oper}(hd:∀d,o.dst=some d->d<σ.n)(D:fi U)(k:Key)(e0 e:iv U)(om:σ.bJ k=some e0)(sv:SV U)(ps:List Prop)(v:Value)(l':List Nat)
  (L9:(D.map (·.1)).Nodup)
  (nM:∀s∈D,¬Names σ (o.dst.getD 1000000,s.1)) (s7:Names σ k)
  (C1:∀kv' fp' bad,(∀s∈D,kv' (o.dst.getD 1000000,s.1)=s.2.2.1)->RS E w F kv' fp' bad sv v)
  (hD:∀s∈D,∀kv fp bad,sE E w F kv fp bad s.2.1 s.2.2.1 s.2.2.2)
  (hE:∀kv' fp' bad,sE E w F kv' fp' bad e (kv k) l')
  (pL:(D.bl++l').Nodup) (pM:∀b∈D.bl++l',b∈fp k):
  ∃kv fp,cE E pm F kv fp (AM.apply o ⟨some sv,D.es,[],[(k,e)],ps⟩ σ) (a.put o.dst v) w:=by
 generalize hr:(⟨some sv,D.es,[],[(k,e)],ps⟩:cd U)=r
 have j_:∀k',k'∈dG o r↔∃s∈D,k'=(o.dst.getD 1000000,s.1):=by
  intro k'
  rw[<-hr]
  simp only[dG,fi.es,lB]
  constructor
  ·rintro⟨p,⟨s,hs,rfl⟩,rfl⟩;exact⟨s,hs,rfl⟩
  ·rintro⟨s,hs,rfl⟩;exact⟨_,⟨s,hs,rfl⟩,rfl⟩
 have kF:jE r=[k]:=by rw[<-hr];rfl
 have yU:r.k_=[]:=by rw[<-hr]
 have PV:k∉dG o r:=fun hk=>by
  obtain⟨s,hs,rfl⟩:=(j_ k).1 hk
  exact nM s hs s7
 have jU:∀k',k'∉dG o r->D.Ai (o.dst.getD 1000000) kv k'=kv k'/\D.y3 (o.dst.getD 1000000) (dl fp k l') k'=dl fp k l' k':=by
  intro k' cO
  exact fi.other (fun t ht e=>cO ((j_ k').2 ⟨t,ht,e⟩)) kv (dl fp k l')
 have U3:∀s∈D,D.Ai (o.dst.getD 1000000) kv (o.dst.getD 1000000,s.1)=s.2.2.1/\D.y3 (o.dst.getD 1000000) (dl fp k l') (o.dst.getD 1000000,s.1)=s.2.2.2:=fun s hs=>⟨fi.w4 L9 hs,fi.uu L9 hs⟩
 rw[qB] at pL
 obtain⟨PQ,UQ,UP⟩:=pL
 have hm:∀b∈fp k,¬F b/\(pm.W b\/pm.w0.heap.size<=b)/\b<w.heap.size:=fun b hb=>h.fK k e0 b om hb
 refine⟨D.Ai (o.dst.getD 1000000) kv,D.y3 (o.dst.getD 1000000) (dl fp k l'),?_⟩
 refine h.apply (F':=F) (w':=w) o r v hd ?_ (fun k' cO=>(jU k' cO).1) ?_ ?_ (fun b hb=>⟨hb,rfl⟩) (fun _ _ _ _ _ _ _ _=>rfl) ?_ ?_ ?_ h.sZ h.sY h.upto (s_ _)
 ·intro sv' Yv
  rw[<-hr] at Yv
  simp only[gx] at Yv
  subst Yv
  exact C1 _ _ _ fun s hs=>(U3 s hs).1
 ·intro k' h1 h2
  rw[(jU k' h1).2]
  rw[kF] at h2
  exact Ag (by simpa using h2)
 ·intro k' cO
  obtain⟨s,hs,rfl⟩:=(j_ k').1 cO
  exact nM s hs
 ·rintro k' e' (⟨j,rfl,hj⟩|cO)
  ·rw[<-hr] at hj
   simp only[fi.es,lB] at hj
   obtain⟨s,hs,hj⟩:=hj
   obtain⟨rfl,rfl⟩:=Prod.mk.inj hj
   rw[(U3 s hs).1,(U3 s hs).2]
   exact⟨hD s hs _ _ _,fi.xE PQ hs,fun b hb=>hm b (pM b (qC _ (fi.px.2 ⟨s,hs,hb⟩)))⟩
  ·rw[<-hr] at cO
   simp only[ma,ox] at cO
   obtain⟨rfl,rfl⟩:=cO
   rw[(jU k' PV).1,(jU k' PV).2,sP]
   exact⟨hE _ _ _,UQ,fun b hb=>hm b (pM b (pS _ hb))⟩
 ·intro k' e' b _ _ _ he hb;exact(h.fK k' e' b he hb).1
 ·intro k1 k2 b eO yV kU hb
  rw[kF,yU] at kU
  rw[kF] at yV
  have key:∀k',(k'∈dG o r\/k'∈[k])->∀b∈D.y3 (o.dst.getD 1000000) (dl fp k l') k',b∈fp k/\((∃s∈D,k'=(o.dst.getD 1000000,s.1)/\b∈s.2.2.2)\/(k'=k/\b∈l')):=by
   intro k' cO b hb
   rcases cO with cO|cO
   ·obtain⟨s,hs,rfl⟩:=(j_ k').1 cO
    rw[(U3 s hs).2] at hb
    exact⟨pM b (qC _ (fi.px.2 ⟨s,hs,hb⟩)),.inl ⟨s,hs,rfl,hb⟩⟩
   ·have:=ma.1 cO
    subst this
    rw[(jU k' PV).2,sP] at hb
    exact⟨pM b (pS _ hb),.inr ⟨rfl,hb⟩⟩
  obtain⟨g1,g2⟩:=key k1 yV b hb
  intro bf
  rcases kU with kU|kU|⟨_,kU⟩
  ·obtain⟨_,g4⟩:=key k2 (.inl kU) b bf
   rcases g2 with⟨s,hs,rfl,Td⟩|⟨rfl,NH⟩
   ·rcases g4 with⟨s',j0,rfl,Ak⟩|⟨rfl,EG⟩
    ·exact fi.qW PQ hs j0 (fun e=>eO (by rw[e])) Td Ak
    ·exact UP b (fi.px.2 ⟨s,hs,Td⟩) b EG rfl
   ·rcases g4 with⟨s',j0,rfl,Ak⟩|⟨rfl,EG⟩
    ·exact UP b (fi.px.2 ⟨s',j0,Ak⟩) b NH rfl
    ·exact eO rfl
  ·obtain⟨_,g4⟩:=key k2 (.inr kU) b bf
   rcases g2 with⟨s,hs,rfl,Td⟩|⟨rfl,NH⟩
   ·rcases g4 with⟨s',j0,rfl,Ak⟩|⟨rfl,EG⟩
    ·exact fi.qW PQ hs j0 (fun e=>eO (by rw[e])) Td Ak
    ·exact UP b (fi.px.2 ⟨s,hs,Td⟩) b EG rfl
   ·rcases g4 with⟨s',j0,rfl,Ak⟩|⟨rfl,EG⟩
    ·exact UP b (fi.px.2 ⟨s',j0,Ak⟩) b NH rfl
    ·exact eO rfl
  ·by_cases YZ:k2∈dG o r
   ·obtain⟨_,g4⟩:=key k2 (.inl YZ) b bf
    rcases g2 with⟨s,hs,rfl,Td⟩|⟨rfl,NH⟩
    ·rcases g4 with⟨s',j0,rfl,Ak⟩|⟨rfl,EG⟩
     ·exact fi.qW PQ hs j0 (fun e=>eO (by rw[e])) Td Ak
     ·exact UP b (fi.px.2 ⟨s,hs,Td⟩) b EG rfl
    ·rcases g4 with⟨s',j0,rfl,Ak⟩|⟨rfl,EG⟩
     ·exact UP b (fi.px.2 ⟨s',j0,Ak⟩) b NH rfl
     ·exact eO rfl
   ·by_cases UW:k2=k
    ·obtain⟨_,g4⟩:=key k2 (.inr (by simp[UW])) b bf
     rcases g2 with⟨s,hs,rfl,Td⟩|⟨rfl,NH⟩
     ·rcases g4 with⟨s',j0,rfl,Ak⟩|⟨rfl,EG⟩
      ·exact YZ ((j_ _).2 ⟨s',j0,rfl⟩)
      ·exact UP b (fi.px.2 ⟨s,hs,Td⟩) b EG rfl
     ·exact eO UW.symm
    ·rw[(jU k2 YZ).2,Ag UW] at bf
     obtain⟨e2,sS⟩:=mI.1 kU
     exact h.apart k k2 e0 e2 b (Ne.symm UW) om sS g1 bf
theorem amn(h:cE E pm F kv fp σ a w){o:Oper}{t:TypeId}{x:Operand}{sx:SV U}{y:AC U}{n:Nat}{g:Bool}{ks:List Key}{r:cd U}(ho:o.op=.load t x)
  (hx:RS E w F kv fp (bW σ) sx (a.eval x)) (hc:tT sx=some y) (hs:E.size t=some n) (hg:E.isAgg t=some g)
  (hr:CU (restrict σ.bJ ks) g n y=some r) (hp:∀p∈r.pre,p):∃sv ps,r=⟨some sv,[],[],[],ps⟩/\cB E F kv fp (bW σ) a w o sv:=by
 have hx:=kP hx hc
 unfold CU at hr
 split at hr
 rotate_left
 ·cases hr
 rename_i k i wd off
 split at hr
 rotate_left
 ·cases hr
 rename_i x0 he
 have e8:=jS he
 rw[h_] at hr
 split at hr
 rotate_left
 ·cases hr
 rename_i hb
 simp only[cK] at hb
 obtain⟨⟨NC,hle⟩,ui⟩:=hb
 have hle:=H5 hle
 have ui:=mM ui
 subst ui
 cases hr
 refine⟨_,_,rfl,?_⟩
 have hi:i<x0.xs.length:=hp _ (by simp[cd.cG])
 have nI:eW E w F false x0 (kv k) (fp k):=h.di k _ e8
 obtain⟨bb,oo,nn,cc,nK,hv⟩:=cf hx (by simp[iG])
 simp only[oE] at nK
 rcases nI with⟨h0,_⟩|⟨b,cap,cur,vs,gV,h1,h2,h3,h4,h5,h6,h7,_⟩
 ·rw[h0] at hi;simp at hi
 rw[h1] at nK
 simp only[Value.slice.injEq,gx,Addr.mk.injEq,and_true] at nK
 obtain⟨⟨rfl,rfl⟩,_,_⟩:=nK
 rw[tY] at hv
 have u6:=e9 (d:=U.e_ x0.τ) hi
 have P_:∀j,j<U.wd x0.τ->∃c,(U.enc x0.τ (x0.xs.getD i (U.e_ x0.τ)))[j]? =some c:=fun j hj=>by
  have s8:j<(U.enc x0.τ (x0.xs.getD i (U.e_ x0.τ))).length:=by rw[U.dj];exact hj
  exact⟨_,fo s8⟩
 have rL:∀j u,((List.range n).map fun j=>vs (i*U.wd x0.τ+(off+j)))[j]? =some u->j<n/\u=vs (i*U.wd x0.τ+(off+j)):=fun j u hu=>by
  rw[nk] at hu
  by_cases hj:j<n
  ·rw[Lz hj] at hu
   exact⟨hj,by simpa using hu.symm⟩
  ·rw[nz (by simp;omega)] at hu;cases hu
 obtain⟨v,Yo,Yn⟩:=TW (us:=(List.range n).map fun j=>vs (i*U.wd x0.τ+(off+j))) (b:=bb) (off:=i*U.wd x0.τ+off) hs hg NC (by simp) (fun j u hu=>by
  obtain⟨hj,rfl⟩:=rL j u hu
  obtain⟨c,EF⟩:=P_ (off+j) (by omega)
  rw[cell_of_row w bb _ cur _ (0,0) h2,<-h6 _ (fJ u6 EF)]
  congr 1;omega)
 refine⟨v,by unfold execOp;simp only[ho,hv];exact iA Yo,_,?_,Yn⟩
 refine S0 (by simp[U.dj];omega) fun j y u hy hu=> ?_
 obtain⟨hj,rfl⟩:=rL j u hu
 rw[nk] at hy
 obtain⟨c,EF⟩:=P_ (off+j) (by omega)
 have NG:(((U.enc x0.τ (x0.xs.getD i (U.e_ x0.τ))).drop off).take n)[j]? =some c:=by rw[oJ,if_pos hj,FV];exact EF
 rw[NG] at hy
 simp only[Ek,gx] at hy
 subst hy
 have jT:=h7 i _ (off+j) c u6 EF
 have h0:gV (i*U.wd x0.τ+(off+j))=[]:=by
  generalize gV (i*U.wd x0.τ+(off+j))=l at jT
  generalize vs (i*U.wd x0.τ+(off+j))=u at jT
  cases jT<;>rfl
 rw[h0] at jT
 exact⟨jT.gq,.inr jT⟩
theorem ami(h:cE E pm F kv fp σ a w){o:Oper}(hd:∀d,o.dst=some d->d<σ.n){t:TypeId}{x:Operand}{sx:SV U}{y:AC U}{n:Nat}{g:Bool}{ks:List Key}{r:cd U}(ho:o.op=.load t x)
  (hx:RS E w F kv fp (bW σ) sx (a.eval x)) (hc:tT sx=some y) (uk:∀k∈y.keys,Names σ k) (hs:E.size t=some n) (hg:E.isAgg t=some g)
  (hr:KQ (restrict σ.bJ ks) (o.dst.getD 1000000) g n y=some r) (hp:∀p∈r.pre,p) (nM:∀k∈dG o r,¬Names σ k)
  {next:Act->World->Prop} {Q:Exit->Act->World->Prop} (hn:∀F kv fp a' w',cE E pm F kv fp (AM.apply o r σ) a' w'->next a' w'):o.wp E.P a w next Q:=by
 have hx:=kP hx hc
 unfold KQ at hr
 split at hr
 rotate_left
 ·cases hr
 rename_i k i wd off
 split at hr
 rotate_left
 ·cases hr
 rename_i x0 dead he
 have e8:=jS he
 rw[h_] at hr
 split at hr
 rotate_left
 ·cases hr
 rename_i hb
 simp only[cK] at hb
 obtain⟨⟨NC,hle⟩,ui⟩:=hb
 have hle:=H5 hle
 have ui:=mM ui
 subst ui
 simp only at hr
 have KY:i<x0.xs.length/\dead i=false:=by
  rw[h_] at hr
  split at hr
  ·cases hr;exact⟨hp _ (by simp[cd.cG]),hp _ (by simp[cd.cG])⟩
  ·rw[h_] at hr
   split at hr
   ·cases hr;exact⟨hp _ (by simp[cd.cG]),hp _ (by simp[cd.cG])⟩
   rw[h_] at hr
   split at hr
   ·cases hr;exact⟨hp _ (by simp),hp _ (by simp)⟩
   ·cases hr
 obtain⟨hi,Te⟩:=KY
 have nI:eo E w F dead x0 (kv k) (fp k):=h.di k _ e8
 obtain⟨b,cap,us,gl,l',h1,h2,h3,h4,h5,h6,h7,h8⟩:=nI.out (h.nodup k _ e8) hi Te hle
 obtain⟨bb,oo,nn,cc,nK,hv⟩:=cf hx (by simp[iG])
 simp only[oE] at nK
 rw[h1] at nK
 simp only[Value.slice.injEq,gx,Addr.mk.injEq,and_true] at nK
 obtain⟨⟨rfl,rfl⟩,_,_⟩:=nK
 rw[tY] at hv
 obtain⟨v,Yo,Yn⟩:=TW hs hg NC h2 h4
 have je:(execOp a.eval o).run E.P w=.ok (.value v) w:=by unfold execOp;simp only[ho,hv];exact iA Yo
 have iq:(((U.enc x0.τ (x0.xs.getD i (U.e_ x0.τ))).drop off).take n).length=n:=by simp[U.dj];omega
 rw[h_] at hr
 split at hr
 ·rename_i AA
  cases hr
  refine rD je (hn F kv fp _ _ (h.val o _ _ v hd (fun sv C1=> ?_)))
  cases C1
  refine⟨us,?_,Yn⟩
  exact KH (by rw[h2,iq]) fun j c hj=>by
   obtain⟨u,rfl⟩:=TR AA j c hj
   exact(h5 j _ hj).Gw
 ·rw[h_] at hr
  split at hr
  ·cases hr
   refine rD je (hn F kv fp _ _ (h.val o _ _ v hd (fun sv C1=> ?_)))
   cases C1
   refine⟨us,S0 (by rw[Ue,h2,iq]) (fun j' y' u hy hu=> ?_),Yn⟩
   obtain⟨c,EF,NG⟩:=Uf hy
   have jT:=h5 j' c EF
   have rI:us.getD j' undef=u:=by rw[eY,hu];rfl
   rw[rI] at jT
   rcases NG with⟨v',rfl,rfl⟩|⟨EK,xs',rfl,rfl⟩
   ·obtain⟨_,e2,e3⟩:=jT.mh
    subst e2
    exact⟨jT.gq,.inr (.lit _ _ e3)⟩
   ·refine⟨jT.gq,.inr ?_⟩
    have iO:bb∈fp k:=by
     rcases nI with⟨h0,_⟩|⟨b',auj,cur',uZ,ka,g1,_,_,_,_,_,_,_,g9⟩
     ·rw[h0] at hi;simp at hi
     ·rw[h1] at g1
      simp only[Value.slice.injEq,gx,Addr.mk.injEq,and_true] at g1
      rw[g9,<-g1.1];simp
    refine⟨bb,0,_,cap,u,h1,.inr iO,?_,rfl⟩
    rw[tY,<-Oo]
    exact h4 j' u hu
  rw[h_] at hr
  split at hr
  rotate_left
  ·cases hr
  rename_i rO
  have Fe:=W3 hr
  obtain⟨D,d1,d2,d3,d4⟩:=Iy (dst:=o.dst.getD 1000000) (base:=0) (vs:=us) (fl:=gl) (h2.trans iq.symm) (h3.trans iq.symm) h5
  have V1:=h.split (o:=o) hd D k _ (.part x0 (fun j=>Nat.beq j i||dead j)) e8 (.v ⟨g,(putCells (o.dst.getD 1000000) true 0 (((U.enc x0.τ (x0.xs.getD i (U.e_ x0.τ))).drop off).take n)).1⟩) [i<x0.xs.length,dead i=false] v l' ?_ ?_ (uk k (by simp[AC.keys])) ?_ d2 ?_ (by rw[d3];exact h7) (by rw[d3];exact h8)
  ·obtain⟨kv',fp',n8⟩:=V1
   refine rD je (hn F kv' fp' _ _ ?_)
   rw[<-Fe,d1];exact n8
  ·have:=acS.1 rO
   rw[d1] at this
   simpa[fi.es,Function.comp_def] using this
  ·intro s hs
   refine nM _ ?_
   rw[<-Fe]
   simp only[dG,d1,fi.es,lB]
   exact⟨_,⟨s,hs,rfl⟩,rfl⟩
  ·intro kv' fp' bad hk
   exact⟨us,d4 kv' fp' bad hk,Yn⟩
  ·intro kv' fp' bad
   exact h6
theorem ach(h:cE E pm F kv fp σ a w){ks:List Key}{y:AC U}{v:Value}{b:iX U}(hr:partOf (restrict σ.bJ ks) y=some b)(hx:RD E w F kv fp (bW σ) y v):
  ∃k dead,y=.ref k []/\v=kv k/\eo E w F dead b v (fp k):=by
 unfold partOf at hr
 split at hr
 ·rename_i k
  split at hr
  ·rename_i x dead he
   cases hr
   have h1:v=kv k:=cf hx rfl
   subst h1
   exact⟨k,dead,rfl,rfl,h.di k _ (jS he)⟩
  ·cases hr
 ·cases hr
theorem eo.slice{dead:Nat->Bool}{x:iX U}{v:Value}{l:List Nat}(h:eo E w F dead x v l):∃ad c,v=.slice ad x.xs.length c/\x.xs.length<=maxLen:=by
 rcases h with⟨h0,⟨ad,rfl⟩,_⟩|⟨b,cap,cur,vs,gV,rfl,_,hc,hm,_⟩
 ·exact⟨ad,0,by simp[h0],by simp[h0]⟩
 ·exact⟨_,_,rfl,wu hc hm⟩
theorem amu(h:cE E pm F kv fp σ a w){o:Oper}{t:TypeId}{x y:Operand}{sx sy:SV U}{k:Key}{ks:List Key}{kd:IntKind}{n:Int}{m:Nat}{b:iX U}(ho:o.op=.indexAddr t x y)
  (hx:RS E w F kv fp (bW σ) sx (a.eval x)) (hc:tT sx=some (.ref k [])) (hy:RS E w F kv fp (bW σ) sy (a.eval y)) (hl:iR sy=some (.int kd n)) (hm:(E.elem t).bind E.size=some m)
  (ha:partOf (restrict σ.bJ ks) (.ref k [])=some b) (hw:m=U.wd b.τ)
  (h1:0<=n) (h2:n.toNat<b.xs.length):cB E F kv fp (bW σ) a w o (one (.lg k [] n.toNat (U.wd b.τ) 0)):=by
 obtain⟨e,i,hu,hi,hs⟩:=pj hm
 have h3:=pH hy hl
 have Az:=kP hx hc
 obtain⟨k',dead,hk,PH,nI⟩:=ach h ha Az
 cases hk
 rcases nI with⟨h0,_⟩|⟨b',cap,cur,vs,gV,h4,_⟩
 ·rw[h0] at h2;simp at h2
 ·refine⟨.pointer (some ⟨b',0+n.toNat*U.wd b.τ,none⟩),?_,ik ⟨⟨rfl,trivial⟩,.inr ⟨b',0,b.xs.length,cap,?_,by simp⟩⟩⟩
  ·unfold execOp;simp only[ho,h3,h4]
   rw[<-hw,<-hs]
   exact iA (XT hu hi h1 h2)
  ·simp only[oE];rw[<-PH,h4]
end AM
